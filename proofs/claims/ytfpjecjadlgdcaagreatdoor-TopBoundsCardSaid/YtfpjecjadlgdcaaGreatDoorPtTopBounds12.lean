import Derived.Test.YtfpjecjadlgdcaaGreatDoorPtTopBounds11
set_option linter.unusedVariables false
set_option linter.unusedSimpArgs false
set_option linter.defProp false
namespace Go.Proofs.YtfpjecjadlgdcaaGreatDoor
open Go.RowKit
def Ia(out:List Bool):Nat:=out.countP fun b=>!b
theorem Ib{out:List Bool}{k:Nat}(c:k<out.length)(h:out.getD k false=false):Ia (out.set k true)+1=Ia out:=by
 have a:out[k]=false:=by rw[←IM c];exact h
 unfold Ia;rw[Kt c,a];have:0<out.countP fun b=>!b:=Kr.2 ⟨false,a▸Lc _,rfl⟩
 simp only[JT,JU,OL,JP,OI];omega
theorem turnE_mem{nx:bU}{c k:Nat}:(k:Int)∈(Ht nx).getD c []↔c<nx.length∧Eg nx k c:=by
 by_cases b:c<nx.length
 ·have a:c<(Ht nx).length:=by rw[Hu];exact b
  rw[IN a,Hx a,LU];constructor
  ·rintro⟨x,d,e⟩
   obtain rfl:x=k:=by omega
   obtain⟨h1,h2⟩:=LR.1 d;exact⟨b,by unfold Eg;simpa using h2⟩
  ·rintro⟨_,h⟩
   refine⟨k,LR.2 ⟨LZ.2 h.lt1,?_⟩,rfl⟩;unfold Eg at h;simpa using h
 ·constructor
  ·intro h
   rw[KT,KZ (by rw[Hu];omega)]at h
   cases h
  ·exact fun h=>absurd h.1 b
structure EuI(nx:bU)(A B:Nat→Prop)(out:List Bool)(todo:List Int)(cur:Option (Nat×Nat)):Prop where
 len:out.length=nx.length
 td:∀x∈todo,0≤x∧x<nx.length∧out.getD x.toNat false=true
 snd:∀c,c<nx.length→out.getD c false=true→EuP (Eg nx) A B c
 bas:∀c,c<nx.length→B c→out.getD c false=true
 cls:∀c,c<nx.length→out.getD c false=true→(c:Int)∈todo∨(∀k,Eg nx k c→A k→out.getD k false=true)∨∃j,cur=some (c,j)∧∀k:Nat,(k:Int)∈((Ht nx).getD c []).take j→A k→out.getD k false=true
 cnt:todo.length+Ia out≤nx.length
section
variable {nx:bU}{A B:Nat→Prop}{out:List Bool}{todo:List Int}
theorem EuI.done(a:okG nx)(h:EuI nx A B out [] none):out=iF nx.length (EuP (Eg nx) A B):=by
 refine iJ h.len fun c d=>⟨h.snd c d,fun f=>?_⟩
 induction f with
 |here g=>exact h.bas _ d g
 |@step n m h1 h2 h3 e=>
  have b:=h2.lt a;rcases h.cls m b (e b)with h4|h4|⟨j,h4,_⟩
  ·cases h4
  ·exact h4 n h2 h1
  ·cases h4
theorem EuI.pop{c:Nat}{r:List Int}(h:EuI nx A B out ((c:Int)::r) none):EuI nx A B out r (some (c,0)):=by
 refine⟨h.len,fun x b=>h.td x (by simp[b]),h.snd,h.bas,fun c' a d=>?_,by have:=h.cnt;simp at this;omega⟩;rcases h.cls c' a d with h4|h4|⟨j,h4,_⟩
 ·rcases LN.1 h4 with h4|h4
  ·exact .inr (.inr ⟨0,by rw[show c'=c by omega],fun k e=>by simp at e⟩)
  ·exact .inl h4
 ·exact .inr (.inl h4)
 ·cases h4
theorem EuI.rowEnd{c j:Nat}(h:EuI nx A B out todo (some (c,j)))(f:((Ht nx).getD c []).length≤j):EuI nx A B out todo none:=by
 refine⟨h.len,h.td,h.snd,h.bas,fun c' a d=>?_,h.cnt⟩;rcases h.cls c' a d with h4|h4|⟨i,h4,b⟩
 ·exact .inl h4
 ·exact .inr (.inl h4)
 ·obtain⟨rfl,rfl⟩:=Np (Nn h4)
  rw[Ml f]at b
  exact .inr (.inl fun k e g=>b k (turnE_mem.2 ⟨a,e⟩) g)
theorem EuI.skip{c j k:Nat}(h:EuI nx A B out todo (some (c,j)))(g:j<((Ht nx).getD c []).length)(f:((Ht nx).getD c [])[j]=(k:Int))(i:A k→out.getD k false=true):EuI nx A B out todo (some (c,j+1)):=by
 refine⟨h.len,h.td,h.snd,h.bas,fun c' d e=>?_,h.cnt⟩;rcases h.cls c' d e with h4|h4|⟨m,h4,l⟩
 ·exact .inl h4
 ·exact .inr (.inl h4)
 ·obtain⟨rfl,rfl⟩:=Np (Nn h4)
  refine .inr (.inr ⟨j+1,rfl,fun k' a b=>?_⟩);rw[Mi,KY g,f]at a
  rcases LK.1 a with a|a
  ·exact l k' a b
  ·have:k'=k:=by have:=L0.1 a;omega
   subst this;exact i b
theorem EuI.mark{c j k:Nat}(u:c<nx.length)(t:out.getD c false=true)(h:EuI nx A B out todo (some (c,j)))(p:j<((Ht nx).getD c []).length)(o:((Ht nx).getD c [])[j]=(k:Int))(w:A k)(s:out.getD k false=false):
  EuI nx A B (out.set k true) (todo++[(k:Int)]) (some (c,j+1))∧k<nx.length:=by
 have m:(k:Int)∈(Ht nx).getD c []:=o▸Lc p;obtain⟨_,r⟩:=turnE_mem.1 m;have d:=r.lt1;have g:∀i,(out.set k true).getD i false=if k=i then true else out.getD i false:=fun i=>qV (by rw[h.len];exact d)
 have up:∀i,out.getD i false=true→(out.set k true).getD i false=true:=fun i hi=>by rw[g];split;rfl;exact hi
 refine⟨⟨by simp[h.len],fun x f=>?_,fun i hi a=>?_,fun i hi v=>up i (h.bas i hi v),fun i hi a=>?_,?_⟩,d⟩
 ·rcases LK.1 f with f|f
  ·obtain⟨h1,h2,h3⟩:=h.td x f
   exact⟨h1,h2,up _ h3⟩
  ·rw[L0]at f;subst f
   exact⟨by omega,by omega,by rw[g];simp⟩
 ·rw[g]at a
  split at a
  ·rename_i e;subst e;exact .step w r (h.snd c u t)
  ·exact h.snd i hi a
 ·rw[g]at a
  split at a
  ·rename_i e;subst e;exact .inl (LM _ O_)
  ·rcases h.cls i hi a with h4|h4|⟨z,h4,y⟩
   ·exact .inl (LL _ h4)
   ·exact .inr (.inl fun q hq l=>up q (h4 q hq l))
   ·obtain⟨rfl,rfl⟩:=Np (Nn h4)
    refine .inr (.inr ⟨j+1,rfl,fun k' b n=>?_⟩);rw[Mi,KY p,o]at b
    rcases LK.1 b with b|b
    ·exact up _ (y k' b n)
    ·have:k'=k:=by have:=L0.1 b;omega
     subst this;rw[g];simp
 ·have:=Ib (out:=out) (by rw[h.len];exact d) s
  have:=h.cnt;rw[Ll];simp;omega
end
def Ho(out:List Bool)(i:Nat):List Int:=((List.range i).filter fun c=>out.getD c false).map fun c:Nat=>(c:Int)
theorem Hq{out:List Bool}{i:Nat}:Ho out (i+1)=Ho out i++if out.getD i false=true then [(i:Int)]else []:=by
 unfold Ho;rw[Mb,KF,LE]
 congr 1
 cases h:out.getD i false with
 |false=>rw[KH (by rw[h];decide)];rfl
 |true=>rw[KI (by rw[h])];rfl
theorem trueL_mem{out:List Bool}{i c:Nat}:(c:Int)∈Ho out i↔c<i∧out.getD c false=true:=by
 unfold Ho;rw[LU];constructor
 ·rintro⟨x,a,e⟩
  obtain rfl:x=c:=by omega
  obtain⟨h1,h2⟩:=LR.1 a;exact⟨LZ.1 h1,h2⟩
 ·rintro⟨h1,h2⟩
  exact⟨c,LR.2 ⟨LZ.2 h1,h2⟩,rfl⟩
theorem Hp{out:List Bool}:∀i,i≤out.length→(Ho out i).length+(out.take i).countP (fun b=>!b)=i
 |0,_=>by simp[Ho]
 |i+1,h=>by
  have hi:i<out.length:=by omega
  have a:=Hp (out:=out) i O7;rw[Hq,Ll,Mi,KY hi,Ko,IM hi];cases c:out[i]<;>simp<;>omega
theorem EuI.start{nx:bU}{A B:Nat→Prop}:EuI nx A B (iF nx.length B) (Ho (iF nx.length B) nx.length) none:=by
 refine⟨iI,fun x b=>?_,fun c a h=>.here ((iH a).1 h),fun c a h=>(iH a).2 h,fun c a h=>.inl (trueL_mem.2 ⟨a,h⟩),?_⟩
 ·obtain⟨c,a,rfl⟩:∃c:Nat,c<nx.length∧x=(c:Int):=by
   unfold Ho at b
   obtain⟨c,a,rfl⟩:=LU.1 b;exact⟨c,LZ.1 (LR.1 a).1,rfl⟩
  exact⟨by omega,by omega,(trueL_mem.1 b).2⟩
 ·have:=Hp (out:=iF nx.length B) nx.length (by rw[iI];exact MM _)
  rw[Ml (by rw[iI];exact MM _)]at this
  unfold Ia;omega
set_option maxHeartbeats 1000000 in
theorem xK(w0:World){b:Nat}{nx fr:bU}{lb:List Nat}(hL:LabAt w0 b nx lb fr)(hok:okG nx)(hn:nx.length≤600){ao bo:Option Addr}{ac bc:Nat}{P Q:Nat→Prop}(ha:Sl w0 (c7 w0) ao ac (iF nx.length P))(hb:Sl w0 (c7 w0) bo bc (iF nx.length Q)):
  Rt Tryz.prog 103 [xp b,.slice ao (iF nx.length P).length ac,.slice bo (iF nx.length Q).length bc].toArray w0 fun v w'=>Own w' w0.heap.size 4 cZ v (iF nx.length (nI nx fr P Q))∧Ext w0 w':=by
 have hL0:=hL;obtain⟨a1,c1,n1,a2,c2,a3,c3,a4,c4,fo,fc,ro,rc,hlb,h2,h3,h4,h5,h6⟩:=hL;refine dF Tryz.func103 Tryz.ntmps103 rfl rfl ?_;refine P9 ?_;refine WL.call rfl rfl rfl (xD w0 hL0 hn hb h5) ?_;rintro _ w1 ⟨a,e1⟩
 rename_i ov;have hov:∃oo oc,ov=.slice oo nx.length oc:=by
  obtain⟨oo,oc,e⟩:=a.val;rw[iI]at e;exact⟨oo,oc,e⟩
 obtain⟨oo,oc,rfl⟩:=hov;refine Q3 ?_;refine CW.loop (S:=Nat×Value) (fun s=>[(0,xp b),(1,.slice ao (iF nx.length P).length ac),(7,.slice oo nx.length oc),(8,s.2),(21,.slice oo nx.length oc),(22,Py nx.length),(23,Py s.1)])
  (fun s w=>s.1≤nx.length∧Own w w0.heap.size 4 cZ (.slice oo nx.length oc) (iF nx.length fun i=>Q i∧oC nx fr i)∧Own w w0.heap.size 3 cZ s.2 (Ho (iF nx.length fun i=>Q i∧oC nx fr i) s.1)∧(∀g,s.2.ownBlock=some g→Value.ownBlock (.slice oo nx.length oc)≠some g)∧Ext w0 w)
  (fun s=>nx.length -s.1) (0,.slice none 0 0) O6 ⟨Nc _,a,Own.nil,(fun g f=>by cases f),e1⟩ ?_
 ·clear a e1
  rintro⟨i,tv⟩ w2 ⟨hi,a,l,hd,m⟩
  dsimp only at hi a l hd m⊢
  have hle:=Hp (out:=iF nx.length fun i=>Q i∧oC nx fr i) i (by rw[iI];exact hi);refine Qt ?_;apply CW.cond rfl<;>intro h
  ·have K:i<nx.length:=by simp at h;omega
   have T:i<(iF nx.length fun i=>Q i∧oC nx fr i).length:=by rw[iI];exact K
   have D:=Hq (out:=iF nx.length fun i=>Q i∧oC nx fr i) (i:=i);refine PX ?_;refine eE (i:=i) rfl rfl rfl rfl rfl a T Pg (fun u q H=>?_);rw[H.bool,←IM T];clear H;generalize (iF nx.length fun i=>Q i∧oC nx fr i).getD i false=c at*
   cases c with
   |false=>
    rw[OJ O9,Ki]at D
    rw[←D]at l
    refine Qx ?_;exact EX.back (i+1,tv) O6 ⟨K,a,l,hd,m⟩ Pa
   |true=>
    rw[OK rfl]at D
    refine Ra ?_;refine dW (α:=Int) (F:=cZ) (bytes:=8) rfl rfl Pg rfl rfl Pg l Pt m.size Pj O9 Pb O7 (fun tv' w3 q N X R=>?_);rw[←D]at N
    refine Qc ?_;exact EX.back (i+1,tv') O6 ⟨K,a.keptN X (fun g f e=>hd g e.symm f),N,fun g f e=>by
     rcases R g f with h|h
     ·exact hd g h e
     ·have:=(a.lt g e).2.1;omega,m.grown X m.size (fun g f=>(l.lt g f).1)⟩ Pa
  obtain rfl:i=nx.length:=by simp at h;omega
  have hI0:EuI nx P (fun i=>Q i∧oC nx fr i) _ _ none:=EuI.start;generalize Ho (iF nx.length fun i=>Q i∧oC nx fr i) nx.length=todo at*
  generalize (iF nx.length fun i=>Q i∧oC nx fr i)=out at*
  refine Q9 ?_;refine CW.loop (S:=List Bool×Value×List Int) (fun s=>[(0,xp b),(1,.slice ao (iF nx.length P).length ac),(7,.slice oo nx.length oc),(8,s.2.1)])
   (fun s w=>EuI nx P (fun i=>Q i∧oC nx fr i) s.1 s.2.2 none∧Own w w0.heap.size 4 cZ (.slice oo nx.length oc) s.1∧Own w w0.heap.size 3 cZ s.2.1 s.2.2∧(∀g,s.2.1.ownBlock=some g→Value.ownBlock (.slice oo nx.length oc)≠some g)∧Ext w0 w)
   (fun s=>s.2.2.length+2*Ia s.1) (out,tv,todo) O6 ⟨hI0,a,l,hd,m⟩ ?_
  clear hI0 a l hd m hle h tv;rintro⟨out,tv,todo⟩ w2 ⟨n,a,l,hd,m⟩
  dsimp only at n a l hd m⊢
  refine PV ?_;apply CW.cond rfl<;>intro h
  ·have C:0<todo.length:=by simpa using h
   obtain⟨x,r,rfl⟩:∃x r,todo=x::r:=by
    cases todo with
    |nil=>simp at C
    |cons x r=>exact⟨x,r,rfl⟩
   obtain⟨hx0,hxn,G⟩:=n.td x O_;obtain⟨c,rfl⟩:∃c:Nat,x=(c:Int):=⟨x.toNat,by omega⟩;rw[Kb]at G
   have hc:c<nx.length:=by omega
   have Y:c<(Ht nx).length:=by rw[Hu];exact hc
   have hb2:=hlb.ext m;have o:=h6.at m;refine PX ?_;refine eE (i:=0) rfl rfl rfl rfl rfl l O_ Pg (fun u q H=>?_);rw[H.int];simp only[K_];refine Qt ?_;refine ew (α:=Int) 1 rfl rfl rfl rfl rfl l O_ (fun tv2 I hnb=>?_);rw[List.drop_one,List.tail_cons]at I
   refine P9 ?_;refine eC (i:=c) rfl rfl rfl rfl rfl o Y Pg (fun u2 q2 L=>?_);obtain⟨po,pc,rfl,hp⟩:=L.sl;have hpl:=hp.len63;have U:(Ht nx)[c]=(Ht nx).getD c []:=(IN Y).symm;rw[U]at hp hpl⊢
   clear l C H L U o hb2;refine Qs ?_;refine CW.loop (S:=Nat×List Bool×Value×List Int) (fun s=>[(0,xp b),(1,.slice ao (iF nx.length P).length ac),(7,.slice oo nx.length oc),(8,s.2.2.1),(48,.slice po ((Ht nx).getD c []).length pc),(49,Py ((Ht nx).getD c []).length),(50,Py s.1)])
    (fun s w=>s.1≤((Ht nx).getD c []).length∧EuI nx P (fun i=>Q i∧oC nx fr i) s.2.1 s.2.2.2 (some (c,s.1))∧s.2.1.getD c false=true∧Own w w0.heap.size 4 cZ (.slice oo nx.length oc) s.2.1∧Own w w0.heap.size 3 cZ s.2.2.1 s.2.2.2∧(∀g,s.2.2.1.ownBlock=some g→Value.ownBlock (.slice oo nx.length oc)≠some g)∧Ext w0 w∧s.2.2.2.length+2*Ia s.2.1+1≤((c:Int)::r).length+2*Ia out)
    (fun s=>((Ht nx).getD c []).length -s.1) (0,out,tv2,r) O6 ⟨Nc _,n.pop,G,a,I,(fun g f=>hd g (hnb▸f)),m,by simp only[Lm];omega⟩ ?_
   clear n a I hd G hnb;rintro⟨j,o2,tv3,t2⟩ w3 ⟨hj,n,z,a,l,hd,E,t⟩
   dsimp only at hj n z a l hd E t⊢
   refine Qt ?_;apply CW.cond rfl<;>intro h
   ·have d:j<((Ht nx).getD c []).length:=by simp only[OD]at h;omega
    obtain⟨k,hk⟩:∃k:Nat,((Ht nx).getD c [])[j]=(k:Int):=⟨(((Ht nx).getD c [])[j]).toNat,by
     have:=AE (Hw nx) c _ (Lc d);omega⟩
    have J:k<nx.length:=by
     have:=AE (Hw nx) c _ (Lc d);rw[Hu]at this;omega
    have hp3:Sl w3 (c7 w0) po pc ((Ht nx).getD c []):=hp.mono (fun b hb=>(E.block b hb).trans (m.block b hb).symm) Pl;have haa:=ha.up E;have bP:=iH (P:=P) J;have y:k<o2.length:=by rw[n.len];exact J
    refine Rb ?_;refine eB rfl rfl rfl rfl rfl hp3 d hk Pg (fun q=>?_);refine Qt ?_;refine eA rfl rfl rfl rfl rfl haa (show k<_ by rw[iI];exact J) (IM _).symm Pg (fun q2=>?_);generalize (iF nx.length P).getD k false=pk at*
    cases pk with
    |false=>
     refine Qx ?_;exact EX.back (j+1,o2,tv3,t2) O6 ⟨d,n.skip d hk (fun h=>by have:=bP.2 h;cases this),z,a,l,hd,E,t⟩ Pa
    |true=>
     refine Ri ?_;refine eE (i:=k) rfl rfl rfl rfl rfl a y Pg (fun u q3 H=>?_);rw[H.bool,←IM y];cases p:o2.getD k false with
     |true=>
      refine P0 ?_;exact EX.back (j+1,o2,tv3,t2) O6 ⟨d,n.skip d hk (fun _=>p),z,a,l,hd,E,t⟩ Pa
     |false=>
      obtain⟨Z,_⟩:=n.mark hc z d hk (bP.1 rfl) p;have hu4:=Ib y p;have hcnt:=Z.cnt;have hcnt':=n.cnt;refine Ra ?_;refine ft (u:=.bool true) (yv:=true) rfl rfl rfl rfl a y Pg Pg (Rd.mkBool _ _ _) (fun w4 q4 ho4 W=>?_);have e4:Ext w0 w4:=E.grown W E.size (fun g f=>(a.lt g f).1);have M:=l.keptN W (fun g f e=>hd g f e.symm);refine Qq ?_;refine dW (α:=Int) (F:=cZ) (bytes:=8) rfl rfl Pg rfl rfl Pg M Pt e4.size Pj O9 Pb O7 (fun tv' w5 q5 ht5 V O=>?_);refine Qc ?_;refine EX.back (j+1,o2.set k true,tv',t2++[(k:Int)]) O6 ⟨d,Z,?_,ho4.keptN V (fun g f e=>hd g e.symm f),ht5,fun g f e=>?_,e4.grown V e4.size (fun g f=>(M.lt g f).1),?_⟩ Pa
      ·dsimp only;rw[qV y];split;rfl;exact z
      ·rcases O g f with h|h
       ·exact hd g h e
       ·have:=(ho4.lt g e).2.1;omega
      ·dsimp only;rw[Ll];simp only[Lm,Lt]at t⊢;omega
   ·have d:((Ht nx).getD c []).length≤j:=by simp only[OA]at h;omega
    refine QF ?_;exact EX.back (o2,tv3,t2) O6 ⟨n.rowEnd d,a,l,hd,E⟩ (by dsimp only;simp only[Lm]at t⊢;omega)
  ·have C:todo=[]:=KC (by simpa using h)
   subst C;rw[n.done hok]at a
   refine P_ ?_;exact be rfl rfl ⟨a,m⟩
theorem xG(w0:World){b:Nat}{nx fr:bU}{lb:List Nat}(e:LabAt w0 b nx lb fr)(a:WOk nx fr){ao:Option Addr}{ac:Nat}{P:Nat→Prop}(d:Sl w0 (c7 w0) ao ac (iF nx.length P)):
  Rt Tryz.prog 104 [xp b,.slice ao (iF nx.length P).length ac].toArray w0 fun v w'=>Own w' w0.heap.size 4 cZ v (iF nx.length (mS nx fr P))∧Ext w0 w':=by
 obtain⟨a1,c1,n1,a2,c2,a3,c3,a4,c4,fo,fc,h,rc,hlb,h2,h3,h4,j,i⟩:=e;refine dE Tryz.func104 Tryz.ntmps104 rfl rfl ?_;refine QQ ?_;refine WL.call rfl rfl rfl (fD w0 (inn:=iF nx.length P) (n1:=n1) (a1:=a1) (c1:=c1) h2 h4 d a.g a.f iI a.n a.e) ?_;rintro _ g ⟨c,f⟩
 rw[IU a.g]at c
 refine PK ?_;exact be rfl rfl ⟨c,f⟩
theorem Own.asSl{w:World}{B:Nat}{e:TypeId}{v:Value}{xs:List Bool}(h:Own w B e cZ v xs):∃ao cap,v=.slice ao xs.length cap∧Sl w (c7 w) ao cap xs:=h.oldN.sl
set_option maxHeartbeats 1000000 in
theorem xA(w0:World){b:Nat}{nx fr:bU}{lb:List Nat}(C:LabAt w0 b nx lb fr)(W:WOk nx fr){ao bo:Option Addr}{ac bc:Nat}{P Q:Nat→Prop}(ha:Sl w0 (c7 w0) ao ac (iF nx.length P))(V:Sl w0 (c7 w0) bo bc (iF nx.length Q)):
  Rt Tryz.prog 105 [xp b,.slice ao (iF nx.length P).length ac,.slice bo (iF nx.length Q).length bc].toArray w0 fun v w'=>Own w' w0.heap.size 4 cZ v (iF nx.length (gK nx fr P Q))∧Ext w0 w':=by
 have hn:=W.n;refine dF Tryz.func105 Tryz.ntmps105 rfl rfl ?_;refine Qt ?_;refine WL.call rfl rfl rfl (yd w0 C hn V) ?_;rintro _ w1 ⟨l,R⟩
 obtain⟨xo,xc,rfl,H⟩:=l.asSl;refine Ri ?_;refine WL.call rfl rfl rfl (yd w1 (C.up R) hn (ha.up R)) ?_;rintro _ w2 ⟨G,e2⟩
 obtain⟨yo,yc,rfl,hy⟩:=G.asSl;have E:=R.trans e2;refine Ri ?_;refine WL.call rfl rfl rfl (yd w2 (C.up E) hn (V.up E)) ?_;rintro _ w3 ⟨F,O⟩
 obtain⟨zo,zc,rfl,hz⟩:=F.asSl;have E:=E.trans O;skip;refine WL.call rfl rfl rfl (xD w3 (C.up E) hn (hy.up O) hz) ?_;rintro _ w4 ⟨I,Z⟩
 obtain⟨vo,vc,rfl,hv⟩:=I.asSl;have x:=E.trans Z;skip;refine WL.call rfl rfl rfl (xK w4 (C.up x) W.g hn (H.up (e2.trans (O.trans Z))) hv) ?_;rintro bv w5 ⟨a,e5⟩
 have t:=x.trans e5;have a:=a.low (B':=w0.heap.size) x.size;clear H hy hz hv l G F I R e2 O Z e5 E x;refine Qt ?_;refine WL.call rfl rfl rfl (yd w5 (C.up t) hn (V.up t)) ?_;rintro _ w6 ⟨l,Y⟩
 obtain⟨xo,xc,rfl,H⟩:=l.asSl;have r:=t.trans Y;have a:=a.extN Y;have K:=fun g d=>(a.lt g d).2.1
 skip;refine WL.call rfl rfl rfl (xG w6 (C.up r) W H) ?_;rintro gv w7 ⟨d,X⟩
 have N:=r.trans X;have a:=a.extN X;have U:∃go gc,gv=.slice go nx.length gc:=by
  obtain⟨go,gc,e⟩:=d.val;rw[iI]at e;exact⟨go,gc,e⟩
 obtain⟨go,gc,rfl⟩:=U;have y:∀g,bv.ownBlock=some g→Value.ownBlock (.slice go nx.length gc)≠some g:=fun g h1 h2=>by
  have:=K g h1;have:=(d.lt g h2).1;omega
 have d:=d.low (B':=w0.heap.size) r.size;have f:(iF nx.length (nI nx fr (fun i=>¬Q i) fun i=>¬P i∧¬Q i)).length=nx.length:=iI;have j:∀c,c<nx.length→((iF nx.length (nI nx fr (fun i=>¬Q i) fun i=>¬P i∧¬Q i)).getD c false=true↔nI nx fr (fun i=>¬Q i) (fun i=>¬P i∧¬Q i) c):=fun c z=>iH z
 generalize iF nx.length (nI nx fr (fun i=>¬Q i) fun i=>¬P i∧¬Q i)=out at*
 clear K H l Y X;refine Qs ?_;refine CW.loop (S:=Nat×List Bool) (fun s=>[(0,xp b),(7,bv),(27,.slice go nx.length gc),(28,Py nx.length),(29,Py s.1)])
  (fun s w=>s.1≤nx.length∧s.2.length=nx.length∧(∀c,c<nx.length→(s.2.getD c false=true↔nI nx fr (fun i=>¬Q i) (fun i=>¬P i∧¬Q i) c∨(c<s.1∧mS nx fr (fun i=>¬Q i) c)))∧Own w w0.heap.size 4 cZ bv s.2∧Own w w0.heap.size 4 cZ (.slice go nx.length gc) (iF nx.length (mS nx fr fun i=>¬Q i))∧Ext w0 w)
  (fun s=>nx.length -s.1) (0,out) O6 ⟨Nc _,f,fun c z=>by rw[j c z];exact⟨.inl,fun h=>h.elim id (fun h=>absurd h.1 (MZ _))⟩,a,d,N⟩ ?_
 clear f j a d N r t;rintro⟨i,o⟩ w8 ⟨hi,f,j,a,d,D⟩
 dsimp only at hi f j a d D⊢
 obtain⟨oo,oc,hov⟩:=a.val;refine Qt ?_;apply CW.cond rfl<;>intro h
 ·have n:i<nx.length:=by simp at h;omega
  have L:i<(iF nx.length (mS nx fr fun i=>¬Q i)).length:=by rw[iI];exact n
  have m:i<o.length:=by omega
  have bG:=iH (P:=mS nx fr fun i=>¬Q i) n;have bO:=j i n;refine PX ?_;refine eE (i:=i) rfl rfl rfl rfl rfl d L Pg (fun u q J=>?_);rw[J.bool,←IM L];clear J;generalize (iF nx.length (mS nx fr fun i=>¬Q i)).getD i false=gb at*
  refine Qq ?_;refine eE (i:=i) rfl rfl rfl rfl rfl a m Pg (fun u q2 J=>?_);rw[J.bool,←IM m];clear J;have fin:∀c:Bool,(c=true↔nI nx fr (fun i=>¬Q i) (fun i=>¬P i∧¬Q i) i∨mS nx fr (fun i=>¬Q i) i)→∀k,k<nx.length→((o.set i c).getD k false=true↔nI nx fr (fun i=>¬Q i) (fun i=>¬P i∧¬Q i) k∨(k<i+1∧mS nx fr (fun i=>¬Q i) k)):=fun c z k hk=>by
   rw[qV m];by_cases e:i=k
   ·subst e;rw[OK rfl,z]
    exact or_congr J6 ⟨fun h=>⟨Nat.lt_succ_self _,h⟩,fun h=>h.2⟩
   ·rw[OJ e,j k hk]
    exact or_congr J6 (Om O7 J6)
  generalize o.getD i false=ob at*
  cases ob with
  |true=>
   refine Rj ?_;refine ft (u:=.bool true) (yv:=true) rfl rfl rfl rfl a m Pg Pg (Rd.mkBool _ _ _) (fun w9 q4 ho4 p=>?_);refine Qc ?_;refine EX.back (i+1,o.set i true) O6 ⟨n,by simpa using f,fin true ⟨fun _=>(bO.1 rfl).imp id (fun h=>h.2),fun _=>rfl⟩,ho4,d.keptN p (fun g h1 e=>y g e.symm h1),D.grown p D.size (fun g d=>(a.lt g d).1)⟩ Pa
  |false=>
   refine Ri ?_;refine ft (u:=.bool gb) (yv:=gb) rfl rfl rfl rfl a m Pg Pg (Rd.mkBool _ _ _) (fun w9 q4 ho4 p=>?_);refine Qc ?_;refine EX.back (i+1,o.set i gb) O6 ⟨n,by simpa using f,fin gb ⟨fun h=>.inr (bG.1 h),fun h=>h.elim (fun h=>by have:=bO.2 (.inl h);cases this) (fun h=>bG.2 h)⟩,ho4,d.keptN p (fun g h1 e=>y g e.symm h1),D.grown p D.size (fun g d=>(a.lt g d).1)⟩ Pa
 obtain rfl:i=nx.length:=by simp at h;omega
 have M:o=iF nx.length fun c=>nI nx fr (fun i=>¬Q i) (fun i=>¬P i∧¬Q i) c∨mS nx fr (fun i=>¬Q i) c:=iJ f fun c z=>by
  rw[j c z];exact or_congr J6 ⟨fun h=>h.2,fun h=>⟨z,h⟩⟩
 subst M;obtain⟨oo,oc,rfl,T⟩:=a.asSl;refine Qo ?_;refine WL.call rfl rfl rfl (yd w8 (C.up D) hn T) ?_;rintro _ w9 ⟨ho9,e9⟩
 refine PK ?_;exact be rfl rfl ⟨ho9.low D.size,D.trans e9⟩
theorem xW{α:Type}{l:List α}(h:l.length=2):∃x y,l=[x,y]:=by
 match l,h with
 |[x,y],_=>exact⟨x,y,rfl⟩
mutual
def AA:Ltl→Prop
 |.mk k n kids=>wW k=kids.length∧0≤n∧n≤63∧AB kids
def AB:List Ltl→Prop
 |[]=>True
 |x::r=>AA x∧AB r
end
theorem AC:∀{l:List Ltl} {x:Ltl},AB l→x∈l→AA x
 |y::r,x,h,a=>by
  rw[AB]at h
  rcases LN.1 a with rfl|a
  ·exact h.1
  ·exact AC h.2 a
mutual
theorem jr:∀(t:Ltl) (deep c:Int),(jl t deep c).1=0→AA t
 |.mk k n kids,deep,c,h=>by
  simp only[jl]at h
  split at h
  ·cases h
  split at h
  ·cases h
  split at h
  ·cases h
  rename_i h3;rw[AA];exact⟨by omega,by omega,by omega,jo kids _ _ h⟩
theorem jo:∀(l:List Ltl) (deep c:Int),(jm l deep c).1=0→AB l
 |[],_,_,_=>by rw[AB];trivial
 |x::r,deep,c,h=>by
  simp only[jm]at h
  split at h
  ·rename_i h1;exact absurd h h1
  rename_i h1;rw[AB];exact⟨jr x _ _ (by simpa using h1),jo r _ _ h⟩
end
instance sF:IsT Tryz.prog 80 Raw:=IsT.of O8 N_ rfl
instance sG:IsZ Tryz.prog 80 (⟨.slice none 0 0⟩:Raw) 24:=IsZ.of (z:=.slice none 0 0) O8 (fun _ _=>⟨rfl,rfl⟩)
theorem xY(w:World)(x:Nat):Rt Tryz.prog 97 [Py (x:Int)].toArray w fun v w'=>v=.bool true∧Ext w w':=by
 refine dD Tryz.func97 Tryz.ntmps97 rfl rfl ?_;refine QO ?_;exact be rfl rfl ⟨rfl,Ext.refl _⟩
theorem IQ{l:List Nat}{j:Nat}(h:j<l.length):l.getD j 0=l[j]:=by rw[KT,KY h];rfl
theorem xZ(w:World){b b1 b2 x:Nat}{nx fr:bU}{lb:List Nat}(l:LabAt w b nx lb fr){k n:Int}{kv:Value}(j:Blk w b1 135 [xp b])(i:Blk w b2 35 [Py k,Py n,kv])(f:x<lb.length)(hn:0≤n):
  Rt Tryz.prog 98 [Py (x:Int),Pz b1,Pz b2].toArray w fun v w'=>∃c:Bool,v=.bool c∧(c=true↔lb.getD x 0 >>> n.toNat&&&1=1)∧Ext w w':=by
 obtain⟨a1,c1,n1,a2,c2,a3,c3,a4,c4,fo,fc,s,bc,o,h2,h3,h4,r,p⟩:=l;refine dF Tryz.func98 Tryz.ntmps98 rfl rfl ?_;refine Re ?_;refine dk rfl rfl rfl rfl rfl Pl h3 f Pg (fun u q g=>?_);obtain⟨rfl,d⟩:=g.u64;rw[IQ f];generalize lb[x]=a at*
 refine Ry ?_;refine dy rfl rfl rfl rfl d hn ?_;have h:a >>> n.toNat<18446744073709551616:=MP (M7 _ _) d;refine df rfl rfl rfl rfl h ?_;refine Rl ?_;refine QL.nil fun w' e=>?_
 refine PQ ?_;refine be rfl rfl ⟨_,rfl,?_,e⟩;generalize a >>> n.toNat&&&1=m;simp;omega
theorem x_(w:World){bk x N:Nat}{ko:Option Addr}{kc:Nat}{P Q:Nat→Prop}(k:Blk w bk 200 [.slice ko ([iF N P,iF N Q]:List (List Bool)).length kc])(j:Sl w (c7 w) ko kc [iF N P,iF N Q])(e:x<N):
  Rt Tryz.prog 101 [Py (x:Int),Pz bk].toArray w fun v w'=>∃c:Bool,v=.bool c∧(c=true↔P x∨Q x)∧Ext w w':=by
 refine dE Tryz.func101 Tryz.ntmps101 rfl rfl ?_;refine Qa ?_;refine eC (i:=0) rfl rfl rfl rfl rfl j O_ Pg (fun u q d=>?_);simp only[K_]at d
 obtain⟨uo,uc,rfl,g⟩:=d.sl;have b:x<(iF N P).length:=by rw[iI];exact e
 have bP:=iH (P:=P) e;have bQ:=iH (P:=Q) e;refine Ri ?_;refine eA rfl rfl rfl rfl rfl g b (IM b).symm Pg (fun q=>?_);generalize (iF N P).getD x false=c at*
 cases c with
 |true=>
  refine PL ?_;exact be rfl rfl ⟨_,rfl,⟨fun _=>.inl (bP.1 rfl),fun _=>rfl⟩,Ext.refl _⟩
 |false=>
  refine Rs ?_;refine eC (i:=1) rfl rfl rfl rfl rfl j O_ Pg (fun u q d=>?_);simp only[K9,K_]at d
  obtain⟨vo,vc,rfl,f⟩:=d.sl;have a:x<(iF N Q).length:=by rw[iI];exact e
  refine Ri ?_;refine eA rfl rfl rfl rfl rfl f a (IM a).symm Pg (fun q=>?_);generalize (iF N Q).getD x false=c at*
  refine PK ?_;exact be rfl rfl ⟨_,rfl,⟨fun h=>.inr (bQ.1 h),fun h=>h.elim (fun h=>by have:=bP.2 h;cases this) bQ.2⟩,Ext.refl _⟩
set_option maxHeartbeats 4000000 in
set_option maxRecDepth 100000 in
theorem xr{nx fr:bU}{lb:List Nat}(hW:WOk nx fr)(hlb:lb.length=nx.length):∀(m:Nat) (t:Ltl),t.nodes≤m→AA t→∀(w0:World) (b:Nat) (ao:Option Addr) (cap:Nat),LabAt w0 b nx lb fr→Sl w0 (c7 w0) ao cap t.kids→
  Rt Tryz.prog 55 [xp b,ym t.k t.n ao t.kids.length cap].toArray w0 fun v w'=>Own w' w0.heap.size 4 cZ v (iF nx.length (kX nx lb fr t))∧Ext w0 w'
 |0,t,hm=>by have:=t.nodes_pos;omega
 |m+1,.mk k n kids,hm=>by
  intro hC w0 b ao cap G hs
  simp only[Ltl.kids,Ltl.k,Ltl.n]at*
  rw[AA]at hC
  obtain⟨K,hn0,hn1,hCk⟩:=hC;have hn:=hW.n;have hlen:=hs.len63;have hk2:kids.length≤2:=by
   unfold wW at K
   split at K<;>first|omega|(split at K<;>first|omega|(split at K<;>omega))
  refine dE Tryz.func55 Tryz.ntmps55 rfl rfl ?_;refine PB ?_;refine dX rfl rfl rfl fun w1 C e1=>?_
  skip;refine dX rfl rfl rfl fun w2 H e2=>?_
  have C:=C.ext e2;have hE:=e1.trans e2;have hz1:=e1.size;have hz2:=e2.size;have hl2:=C.lt;have hl3:=H.lt;refine Qa ?_;refine WL.call rfl rfl rfl (mD w2 (P:=fun _=>True) (G.up hE) hn (fun w x O hx=>FnV.mk (f:=97) (cs:=[]) (Rt.mono (xY w x) (fun v w' hv=>⟨true,hv.1,⟨fun _=>trivial,fun _=>rfl⟩,hv.2⟩)))) ?_;rintro av I ⟨U,e3⟩
  have C:=C.ext e3;have H:=H.ext e3;have hE:=hE.trans e3;have hal:∀g,av.ownBlock=some g→g<I.heap.size:=fun g E=>(U.lt g E).2.1
  have U:=U.low (B':=w0.heap.size) (MN hz1 hz2);refine Qt ?_;refine WL.alloc rfl rfl (fun w4 J e4=>?_);have C:=C.ext e4;have H:=H.ext e4;have hE:=hE.trans e4;have U:=U.extN e4;have hl6:=J.lt;have hz3:=e3.size;refine QX ?_;refine CW.loop (S:=Nat×Value×List Raw) (fun s=>[(2,Pz w0.heap.size),(3,Pz w1.heap.size),(5,av),(6,Pz I.heap.size),(12,.slice ao kids.length cap),(13,Py kids.length),(14,Py s.1)])
   (fun s w=>s.1≤kids.length∧Blk w I.heap.size 200 [s.2.1]∧Own w w4.heap.size 80 cZ s.2.1 s.2.2∧InnR w (fun b=>s.2.1.ownBlock=some b∨b=I.heap.size) s.2.2 ((kids.take s.1).map fun x=>iF nx.length (kX nx lb fr x))∧Chg (fun b=>b=I.heap.size) w4 w)
   (fun s=>kids.length -s.1) (0,.slice none 0 0,[]) O6 ⟨Nc _,J,Own.nil,InnR.nil,Chg.refl _ _⟩ ?_
  ·clear J
   rintro⟨i,kv,vs⟩ a ⟨hi,J,X,T,L⟩
   dsimp only at hi J X T L⊢
   have hz5:=L.size;have hvl:vs.length=i:=by rw[T.len,Ls,LB];omega
   have c:Ext w0 a:=L.ext hE (fun b hb=>by omega);have C:Blk a w0.heap.size 135 [xp b]:=(L.block _ O7 O7).trans C;have H:Blk a w1.heap.size 35 [Py k,Py n,.slice ao kids.length cap]:=(L.block _ O7 O7).trans H;have hav5:Own a w0.heap.size 4 cZ av (iF nx.length fun _=>True):=U.chg L (fun g E e=>by have:=hal g E;omega);refine Qt ?_;apply CW.cond rfl<;>intro h
   ·have Z:i<kids.length:=by simp at h;omega
    refine Rb ?_;refine eC rfl rfl rfl rfl rfl (hs.up c) Z Pg (fun u q hu=>?_);have htk:(kids.take (i+1)).map (fun x=>iF nx.length (kX nx lb fr x))=(kids.take i).map (fun x=>iF nx.length (kX nx lb fr x))++[iF nx.length (kX nx lb fr kids[i])]:=by
     rw[Mi,KY Z,LE];rfl
    have hnode:(kids[i]).nodes≤m:=by
     have:=Ltl.nodes_kid kids _ (Lc Z);simp only[Ltl.nodes]at hm;omega
    have hCx:=AC hCk (Lc Z);generalize kids[i]=x at*
    obtain⟨xo,xc,rfl,hx⟩:=hu.ltl;skip;refine WL.alloc rfl rfl (fun D hb8 B=>?_);skip;refine WL.st rfl rfl rfl hb8 rfl rfl Pr (fun A hb8 hg7=>?_);have Q:Ext a A:=B.grown hg7 B.size Pi;have C:=C.ext Q;have H:=H.ext Q;have J:=J.ext Q;have hl8:=hb8.lt;have hz7:=Q.size;have hkv7:=X.extN Q;have N:=fun g E=>X.lt g E
    have hE7:=c.trans Q;clear hu B hg7;have hD:Ext A (drew A):=Ext.drew A;have hzd:=hD.size;have hb2d:=C.ext hD;have hb6d:=J.ext hD;have hb8d:=hb8.ext hD;have hK2:∀u,(fun z:World=>z.heap[w0.heap.size]?=(drew A).heap[w0.heap.size]?∧z.heap[I.heap.size]?=(drew A).heap[I.heap.size]?∧z.heap[a.heap.size]?=(drew A).heap[a.heap.size]?) u→u.heap[w0.heap.size]?=(drew A).heap[w0.heap.size]?:=fun _ h=>h.1
    have hK6:∀u,(fun z:World=>z.heap[w0.heap.size]?=(drew A).heap[w0.heap.size]?∧z.heap[I.heap.size]?=(drew A).heap[I.heap.size]?∧z.heap[a.heap.size]?=(drew A).heap[a.heap.size]?) u→u.heap[I.heap.size]?=(drew A).heap[I.heap.size]?:=fun _ h=>h.2.1
    have hK8:∀u,(fun z:World=>z.heap[w0.heap.size]?=(drew A).heap[w0.heap.size]?∧z.heap[I.heap.size]?=(drew A).heap[I.heap.size]?∧z.heap[a.heap.size]?=(drew A).heap[a.heap.size]?) u→u.heap[a.heap.size]?=(drew A).heap[a.heap.size]?:=fun _ h=>h.2.2
    refine PU ?_;refine aE (fun z:World=>z.heap[w0.heap.size]?=(drew A).heap[w0.heap.size]?∧z.heap[I.heap.size]?=(drew A).heap[I.heap.size]?∧z.heap[a.heap.size]?=(drew A).heap[a.heap.size]?) [(0,true),(1,true),(2,true),(3,false),(4,false),(5,false)] 6 mixed O8 ⟨rfl,rfl,rfl⟩ ?_;refine RD ?_;refine cf hK8 rfl rfl rfl rfl hb8d rfl ?_;refine cr rfl (WL.call rfl rfl rfl (xr hW hlb m x hnode hCx (drew A) b xo xc (G.up (hE7.trans hD)) (hx.up (Q.trans hD))) ?_);rintro lv w8 ⟨hlv,M⟩
    have hz8:=M.size;refine WL.nil (a_ ⟨M.block _ O7,M.block _ O7,M.block _ O7⟩ ?_);obtain⟨lo,lc,hlve⟩:=hlv.val;subst hlve;have hkv8:=(hkv7.extN hD).extN M;refine bV (α:=Raw) (F:=cZ) (bytes:=24) (yv:=(⟨.slice lo (iF nx.length (kX nx lb fr x)).length lc⟩:Raw)) rfl rfl rfl rfl Pg rfl rfl Pg hkv8 (Rd.mkRaw _ _ _ rfl) O7 Pj O9 Pb O7
     (fun z hz=>⟨(hz.block _ O7 (fun e=>by have:=N _ e.symm;omega)).trans (M.block _ O7),(hz.block _ O7 (fun e=>by have:=N _ e.symm;omega)).trans (M.block _ O7),(hz.block _ O7 (fun e=>by have:=N _ e.symm;omega)).trans (M.block _ O7)⟩) (fun kv' w9 q9 ho9 hg9 hnb9=>?_)
    obtain⟨ko',kc',rfl⟩:=ho9.val;have hb69:=((hb6d.ext M).kept hg9 (fun e=>by have:=N _ e.symm;omega));have hz9:=hg9.size;refine HL.nil ?_;refine bp rfl (WL.st rfl rfl rfl hb69 rfl rfl Pr (fun w10 hb10 hg10=>WL.nil (bu ?_)));have hlvs:Rd w8 (Fz w8 (fun b=>kv.ownBlock=some b∨b=I.heap.size)) (.slice lo (iF nx.length (kX nx lb fr x)).length lc) (iF nx.length (kX nx lb fr x)):=
     hlv.rd.mono Pq (fun g E=>E.elim (fun h=>h.elim) (fun E=>⟨(hlv.lt g E).2.1,fun h=>by
      have h1:=(hlv.lt g E).1;rcases h with h|h
      ·have:=N g h;omega
      ·omega⟩))
    have hin8:=(T.to (M':=fun b=>kv.ownBlock=some b∨b=I.heap.size) (Chg.of_ext _ ((Q.trans hD).trans M)) (fun _ h=>.inl h)).push hlvs;have hC9:Chg (fun b=>kv.ownBlock=some b∨b=I.heap.size) w8 w10:=((Chg.of_grown hg9).wk (fun _ h=>.inl h)).grown hg10 (fun g E=>by cases E;exact .inr rfl);have Y:=hin8.to (M':=fun b=>Value.ownBlock (.slice ko' (vs++[(⟨.slice lo (iF nx.length (kX nx lb fr x)).length lc⟩:Raw)]).length kc')=some b∨b=I.heap.size) hC9 (fun g E=>E.elim (fun E=>(hnb9 g E).imp .inl id) (fun E=>.inl (.inr E)));rw[←htk]at Y
    have hC10:Chg (fun b=>b=I.heap.size) w4 w10:=(L.trans (Chg.of_ext _ ((Q.trans hD).trans M))).then hC9 (fun g E=>E.elim (fun h=>.inr (N g h).1) .inl);refine Qc ?_;exact EX.back (i+1,_,vs++[_]) O6 ⟨Z,hb10,ho9.keptN hg10 (fun g E e=>by
     have:=Nn e;rcases hnb9 g E with h|h
     ·have:=N g h;omega
     ·omega),Y,hC10⟩ Pa
   ·have hie:i=kids.length:=by simp at h;omega
    subst hie;rw[Mk]at T
    obtain⟨ko,kc,rfl,d⟩:=T.old X;clear T X hi h L hvl;obtain⟨ao2,ac2,rfl,has⟩:=hav5.asSl;refine Qy ?_;apply CW.cond rfl<;>intro h
    ·obtain rfl:k=1:=by simpa using h
     have j:kids.length=0:=by have:wW 1=0:=rfl;omega
     obtain rfl:kids=[]:=KC j;refine PA ?_;exact be rfl rfl ⟨hav5,c⟩
    have n1:k≠1:=by simpa using h
    clear h;refine Qt ?_;apply CW.cond rfl<;>intro h
    ·obtain rfl:k=3:=by simpa using h
     have j:kids.length=0:=by have:wW 3=0:=rfl;omega
     obtain rfl:kids=[]:=KC j;refine Qg ?_;refine WL.call rfl rfl rfl (mD a (P:=fun i=>lb.getD i 0 >>> n.toNat&&&1=1) (G.up c) hn (fun w x O hx=>FnV.mk (f:=98) (xZ w (G.up (c.trans O)) (C.ext O) (H.ext O) (by rw[hlb];exact hx) hn0))) ?_;rintro _ D ⟨ho,B⟩
     refine P2 ?_;exact be rfl rfl ⟨ho.low c.size,c.trans B⟩
    have n3:k≠3:=by simpa using h
    clear h;refine Qt ?_;apply CW.cond rfl<;>intro h
    ·obtain rfl:k=4:=by simpa using h
     have j:kids.length=1:=by have:wW 4=1:=rfl;omega
     obtain⟨x,rfl⟩:=Lo.1 j;have d:Sl a (c7 a) ko kc [iF nx.length (kX nx lb fr x)]:=d;have l:∀z,(fun z:World=>Ext a z) z→Ext a z:=fun _ h=>h
     refine P1 ?_;refine aF (fun z:World=>Ext a z) [(0,true),(1,true),(2,true),(3,true),(4,false),(5,true)] mixed O8 (Ext.drew a) ?_;refine RH ?_;refine bZ (k:=0) l rfl rfl rfl rfl rfl rfl rfl Pl d O_ Pg (fun u0 q0 o=>?_);obtain⟨uo0,uc0,rfl,p⟩:=o.sl;skip;refine cr rfl (WL.call rfl rfl rfl (yd (drew a) (G.up (c.trans (Ext.drew a))) hn (p.up (Ext.drew a))) ?_);rintro v6 D ⟨ho6,B⟩
     have r:Ext a D:=Ext.trans (Ext.drew a) B;refine WL.nil (a_ r ?_);refine RR ?_;refine Qk ?_;exact be rfl rfl ⟨ho6.low (c.trans (Ext.drew a)).size,c.trans r⟩
    have n4:k≠4:=by simpa using h
    clear h;refine Qt ?_;apply CW.cond rfl<;>intro h
    ·obtain rfl:k=5:=by simpa using h
     have j:kids.length=2:=by have:wW 5=2:=rfl;omega
     obtain⟨x,y,rfl⟩:=xW j;have d:Sl a (c7 a) ko kc [iF nx.length (kX nx lb fr x),iF nx.length (kX nx lb fr y)]:=d;have l:∀z,(fun z:World=>Ext a z) z→Ext a z:=fun _ h=>h
     refine P1 ?_;refine aF (fun z:World=>Ext a z) [(0,true),(1,true),(2,true),(3,true),(4,true),(5,true),(6,true),(7,false),(8,true)] mixed O8 (Ext.drew a) ?_;refine RH ?_;refine bZ (k:=0) l rfl rfl rfl rfl rfl rfl rfl Pl d O_ Pg (fun u0 q0 o=>?_);obtain⟨uo0,uc0,rfl,p⟩:=o.sl;refine RH ?_;refine bZ (k:=1) l rfl rfl rfl rfl rfl rfl rfl Pl d O_ Pg (fun u1 q1 V=>?_);obtain⟨uo1,uc1,rfl,W⟩:=V.sl;skip;refine cr rfl (WL.call rfl rfl rfl (xD (drew a) (G.up (c.trans (Ext.drew a))) hn (p.up (Ext.drew a)) (W.up (Ext.drew a))) ?_);rintro v6 D ⟨ho6,B⟩
     have r:Ext a D:=Ext.trans (Ext.drew a) B;refine WL.nil (a_ r ?_);refine RR ?_;refine Qk ?_;exact be rfl rfl ⟨ho6.low (c.trans (Ext.drew a)).size,c.trans r⟩
    have n5:k≠5:=by simpa using h
    clear h;refine Qt ?_;apply CW.cond rfl<;>intro h
    ·obtain rfl:k=6:=by simpa using h
     have j:kids.length=2:=by have:wW 6=2:=rfl;omega
     obtain⟨x,y,rfl⟩:=xW j;have d:Sl a (c7 a) ko kc [iF nx.length (kX nx lb fr x),iF nx.length (kX nx lb fr y)]:=d;refine Qg ?_;refine WL.call rfl rfl rfl (mD a (P:=fun i=>kX nx lb fr x i∨kX nx lb fr y i) (G.up c) hn (fun w z O hz=>FnV.mk (f:=101) (x_ w (J.ext O) (d.up O) hz))) ?_;rintro _ D ⟨ho,B⟩
     refine P2 ?_;exact be rfl rfl ⟨ho.low c.size,c.trans B⟩
    have n6:k≠6:=by simpa using h
    clear h;refine Qt ?_;apply CW.cond rfl<;>intro h
    ·obtain rfl:k=7:=by simpa using h
     have j:kids.length=1:=by have:wW 7=1:=rfl;omega
     obtain⟨x,rfl⟩:=Lo.1 j;have d:Sl a (c7 a) ko kc [iF nx.length (kX nx lb fr x)]:=d;have l:∀z,(fun z:World=>Ext a z) z→Ext a z:=fun _ h=>h
     refine P1 ?_;refine aF (fun z:World=>Ext a z) [(0,true),(1,true),(2,true),(3,true),(4,false),(5,true)] mixed O8 (Ext.drew a) ?_;refine RH ?_;refine bZ (k:=0) l rfl rfl rfl rfl rfl rfl rfl Pl d O_ Pg (fun u0 q0 o=>?_);obtain⟨uo0,uc0,rfl,p⟩:=o.sl;skip;refine cr rfl (WL.call rfl rfl rfl (xM (drew a) (G.up (c.trans (Ext.drew a))) hW.g hn (p.up (Ext.drew a))) ?_);rintro v6 D ⟨ho6,B⟩
     have r:Ext a D:=Ext.trans (Ext.drew a) B;refine WL.nil (a_ r ?_);refine RR ?_;refine Qk ?_;exact be rfl rfl ⟨ho6.low (c.trans (Ext.drew a)).size,c.trans r⟩
    have n7:k≠7:=by simpa using h
    clear h;refine Qt ?_;apply CW.cond rfl<;>intro h
    ·obtain rfl:k=8:=by simpa using h
     have j:kids.length=1:=by have:wW 8=1:=rfl;omega
     obtain⟨x,rfl⟩:=Lo.1 j;have d:Sl a (c7 a) ko kc [iF nx.length (kX nx lb fr x)]:=d;have l:∀z,(fun z:World=>Ext a z) z→Ext a z:=fun _ h=>h
     refine P1 ?_;refine aF (fun z:World=>Ext a z) [(0,true),(1,true),(2,true),(3,true),(4,true),(5,false),(6,true)] mixed O8 (Ext.drew a) ?_;refine RK ?_;refine bZ (k:=0) l rfl rfl rfl rfl rfl rfl rfl Pl d O_ Pg (fun u0 q0 o=>?_);obtain⟨uo0,uc0,rfl,p⟩:=o.sl;skip;refine cr rfl (WL.call rfl rfl rfl (xK (drew a) (G.up (c.trans (Ext.drew a))) hW.g hn (has.up (Ext.drew a)) (p.up (Ext.drew a))) ?_);rintro v6 D ⟨ho6,B⟩
     have r:Ext a D:=Ext.trans (Ext.drew a) B;refine WL.nil (a_ r ?_);refine RR ?_;refine Qk ?_;exact be rfl rfl ⟨ho6.low (c.trans (Ext.drew a)).size,c.trans r⟩
    have n8:k≠8:=by simpa using h
    clear h;refine Qt ?_;apply CW.cond rfl<;>intro h
    ·obtain rfl:k=9:=by simpa using h
     have j:kids.length=1:=by have:wW 9=1:=rfl;omega
     obtain⟨x,rfl⟩:=Lo.1 j;have d:Sl a (c7 a) ko kc [iF nx.length (kX nx lb fr x)]:=d;have l:∀z,(fun z:World=>Ext a z) z→Ext a z:=fun _ h=>h
     refine P1 ?_;refine aF (fun z:World=>Ext a z) [(0,true),(1,true),(2,true),(3,true),(4,false),(5,true)] mixed O8 (Ext.drew a) ?_;refine RH ?_;refine bZ (k:=0) l rfl rfl rfl rfl rfl rfl rfl Pl d O_ Pg (fun u0 q0 o=>?_);obtain⟨uo0,uc0,rfl,p⟩:=o.sl;skip;refine cr rfl (WL.call rfl rfl rfl (xG (drew a) (G.up (c.trans (Ext.drew a))) hW (p.up (Ext.drew a))) ?_);rintro v6 D ⟨ho6,B⟩
     have r:Ext a D:=Ext.trans (Ext.drew a) B;refine WL.nil (a_ r ?_);refine RR ?_;refine Qk ?_;exact be rfl rfl ⟨ho6.low (c.trans (Ext.drew a)).size,c.trans r⟩
    have n9:k≠9:=by simpa using h
    clear h;refine Qt ?_;apply CW.cond rfl<;>intro h
    ·obtain rfl:k=10:=by simpa using h
     have j:kids.length=2:=by have:wW 10=2:=rfl;omega
     obtain⟨x,y,rfl⟩:=xW j;have d:Sl a (c7 a) ko kc [iF nx.length (kX nx lb fr x),iF nx.length (kX nx lb fr y)]:=d;have l:∀z,(fun z:World=>Ext a z) z→Ext a z:=fun _ h=>h
     refine P1 ?_;refine aF (fun z:World=>Ext a z) [(0,true),(1,true),(2,true),(3,true),(4,true),(5,true),(6,true),(7,false),(8,true)] mixed O8 (Ext.drew a) ?_;refine RH ?_;refine bZ (k:=0) l rfl rfl rfl rfl rfl rfl rfl Pl d O_ Pg (fun u0 q0 o=>?_);obtain⟨uo0,uc0,rfl,p⟩:=o.sl;refine RH ?_;refine bZ (k:=1) l rfl rfl rfl rfl rfl rfl rfl Pl d O_ Pg (fun u1 q1 V=>?_);obtain⟨uo1,uc1,rfl,W⟩:=V.sl;skip;refine cr rfl (WL.call rfl rfl rfl (xK (drew a) (G.up (c.trans (Ext.drew a))) hW.g hn (p.up (Ext.drew a)) (W.up (Ext.drew a))) ?_);rintro v6 D ⟨ho6,B⟩
     have r:Ext a D:=Ext.trans (Ext.drew a) B;refine WL.nil (a_ r ?_);refine RR ?_;refine Qk ?_;exact be rfl rfl ⟨ho6.low (c.trans (Ext.drew a)).size,c.trans r⟩
    have n10:k≠10:=by simpa using h
    clear h;refine Qt ?_;apply CW.cond rfl<;>intro h
    ·obtain rfl:k=11:=by simpa using h
     have j:kids.length=1:=by have:wW 11=1:=rfl;omega
     obtain⟨x,rfl⟩:=Lo.1 j;have d:Sl a (c7 a) ko kc [iF nx.length (kX nx lb fr x)]:=d;have l:∀z,(fun z:World=>Ext a z) z→Ext a z:=fun _ h=>h
     refine P1 ?_;refine aF (fun z:World=>Ext a z) [(0,true),(1,true),(2,true),(3,true),(4,true),(5,true),(6,false),(7,false),(8,false),(9,true)] mixed O8 (Ext.drew a) ?_;refine RH ?_;refine bZ (k:=0) l rfl rfl rfl rfl rfl rfl rfl Pl d O_ Pg (fun u0 q0 o=>?_);obtain⟨uo0,uc0,rfl,p⟩:=o.sl;skip;refine cr rfl (WL.call rfl rfl rfl (yd (drew a) (G.up (c.trans (Ext.drew a))) hn (p.up (Ext.drew a))) ?_);rintro v6 D ⟨ho6,B⟩
     have r:Ext a D:=Ext.trans (Ext.drew a) B;refine WL.nil (a_ r ?_);obtain⟨do6,dc6,rfl,hd6⟩:=ho6.asSl;skip;refine cr rfl (WL.call rfl rfl rfl (xM D (G.up (c.trans r)) hW.g hn hd6) ?_);rintro v7 A ⟨ho7,Q⟩
     have R:Ext a A:=Ext.trans r Q;refine WL.nil (a_ R ?_);obtain⟨do7,dc7,rfl,hd7⟩:=ho7.asSl;skip;refine cr rfl (WL.call rfl rfl rfl (yd A (G.up (c.trans R)) hn hd7) ?_);rintro v8 w8 ⟨ho8,M⟩
     have x8:Ext a w8:=Ext.trans R M;refine WL.nil (a_ x8 ?_);refine RR ?_;refine Qk ?_;exact be rfl rfl ⟨ho8.low (c.trans R).size,c.trans x8⟩
    have n11:k≠11:=by simpa using h
    clear h;refine Qt ?_;apply CW.cond rfl<;>intro h
    ·obtain rfl:k=12:=by simpa using h
     have j:kids.length=1:=by have:wW 12=1:=rfl;omega
     obtain⟨x,rfl⟩:=Lo.1 j;have d:Sl a (c7 a) ko kc [iF nx.length (kX nx lb fr x)]:=d;have l:∀z,(fun z:World=>Ext a z) z→Ext a z:=fun _ h=>h
     refine P1 ?_;refine aF (fun z:World=>Ext a z) [(0,true),(1,true),(2,true),(3,true),(4,true),(5,true),(6,false),(7,false),(8,false),(9,true)] mixed O8 (Ext.drew a) ?_;refine RH ?_;refine bZ (k:=0) l rfl rfl rfl rfl rfl rfl rfl Pl d O_ Pg (fun u0 q0 o=>?_);obtain⟨uo0,uc0,rfl,p⟩:=o.sl;skip;refine cr rfl (WL.call rfl rfl rfl (yd (drew a) (G.up (c.trans (Ext.drew a))) hn (p.up (Ext.drew a))) ?_);rintro v6 D ⟨ho6,B⟩
     have r:Ext a D:=Ext.trans (Ext.drew a) B;refine WL.nil (a_ r ?_);obtain⟨do6,dc6,rfl,hd6⟩:=ho6.asSl;skip;refine cr rfl (WL.call rfl rfl rfl (xG D (G.up (c.trans r)) hW hd6) ?_);rintro v7 A ⟨ho7,Q⟩
     have R:Ext a A:=Ext.trans r Q;refine WL.nil (a_ R ?_);obtain⟨do7,dc7,rfl,hd7⟩:=ho7.asSl;skip;refine cr rfl (WL.call rfl rfl rfl (yd A (G.up (c.trans R)) hn hd7) ?_);rintro v8 w8 ⟨ho8,M⟩
     have x8:Ext a w8:=Ext.trans R M;refine WL.nil (a_ x8 ?_);refine RR ?_;refine Qk ?_;exact be rfl rfl ⟨ho8.low (c.trans R).size,c.trans x8⟩
    have n12:k≠12:=by simpa using h
    clear h;refine Qt ?_;apply CW.cond rfl<;>intro h
    ·obtain rfl:k=13:=by simpa using h
     have j:kids.length=1:=by have:wW 13=1:=rfl;omega
     obtain⟨x,rfl⟩:=Lo.1 j;have d:Sl a (c7 a) ko kc [iF nx.length (kX nx lb fr x)]:=d;have l:∀z,(fun z:World=>Ext a z) z→Ext a z:=fun _ h=>h
     refine P1 ?_;refine aF (fun z:World=>Ext a z) [(0,true),(1,true),(2,true),(3,true),(4,true),(5,true),(6,true),(7,false),(8,false),(9,false),(10,true)] mixed O8 (Ext.drew a) ?_;refine RK ?_;refine bZ (k:=0) l rfl rfl rfl rfl rfl rfl rfl Pl d O_ Pg (fun u0 q0 o=>?_);obtain⟨uo0,uc0,rfl,p⟩:=o.sl;skip;refine cr rfl (WL.call rfl rfl rfl (yd (drew a) (G.up (c.trans (Ext.drew a))) hn (p.up (Ext.drew a))) ?_);rintro v6 D ⟨ho6,B⟩
     have r:Ext a D:=Ext.trans (Ext.drew a) B;refine WL.nil (a_ r ?_);obtain⟨do6,dc6,rfl,hd6⟩:=ho6.asSl;skip;refine cr rfl (WL.call rfl rfl rfl (xK D (G.up (c.trans r)) hW.g hn (has.up r) hd6) ?_);rintro v7 A ⟨ho7,Q⟩
     have R:Ext a A:=Ext.trans r Q;refine WL.nil (a_ R ?_);obtain⟨do7,dc7,rfl,hd7⟩:=ho7.asSl;skip;refine cr rfl (WL.call rfl rfl rfl (yd A (G.up (c.trans R)) hn hd7) ?_);rintro v8 w8 ⟨ho8,M⟩
     have x8:Ext a w8:=Ext.trans R M;refine WL.nil (a_ x8 ?_);refine RR ?_;refine Qk ?_;exact be rfl rfl ⟨ho8.low (c.trans R).size,c.trans x8⟩
    have n13:k≠13:=by simpa using h
    clear h;refine Qt ?_;apply CW.cond rfl<;>intro h
    ·obtain rfl:k=14:=by simpa using h
     have j:kids.length=2:=by have:wW 14=2:=rfl;omega
     obtain⟨x,y,rfl⟩:=xW j;have d:Sl a (c7 a) ko kc [iF nx.length (kX nx lb fr x),iF nx.length (kX nx lb fr y)]:=d;have l:∀z,(fun z:World=>Ext a z) z→Ext a z:=fun _ h=>h
     refine P1 ?_;refine aF (fun z:World=>Ext a z) [(0,true),(1,true),(2,true),(3,true),(4,true),(5,true),(6,true),(7,false),(8,true)] mixed O8 (Ext.drew a) ?_;refine RH ?_;refine bZ (k:=0) l rfl rfl rfl rfl rfl rfl rfl Pl d O_ Pg (fun u0 q0 o=>?_);obtain⟨uo0,uc0,rfl,p⟩:=o.sl;refine RH ?_;refine bZ (k:=1) l rfl rfl rfl rfl rfl rfl rfl Pl d O_ Pg (fun u1 q1 V=>?_);obtain⟨uo1,uc1,rfl,W⟩:=V.sl;skip;refine cr rfl (WL.call rfl rfl rfl (xA (drew a) (G.up (c.trans (Ext.drew a))) hW (p.up (Ext.drew a)) (W.up (Ext.drew a))) ?_);rintro v6 D ⟨ho6,B⟩
     have r:Ext a D:=Ext.trans (Ext.drew a) B;refine WL.nil (a_ r ?_);refine RR ?_;refine Qk ?_;exact be rfl rfl ⟨ho6.low (c.trans (Ext.drew a)).size,c.trans r⟩
    have n14:k≠14:=by simpa using h
    clear h;obtain rfl:k=2:=by
     unfold wW at K
     have h0:0≤(kids.length:Int):=by omega
     split at K
     ·omega
     split at K
     ·omega
     split at K
     ·omega
     omega
    refine QP ?_;refine WL.call rfl rfl rfl (yd a (G.up c) hn has) ?_;rintro _ D ⟨ho,B⟩
    have hfe:(iF nx.length fun i=>¬True)=iF nx.length (kX nx lb fr (.mk 2 n kids)):=iG (fun i _=>⟨fun h=>absurd trivial h,fun h=>absurd h (fun h=>by cases h)⟩);rw[hfe]at ho
    refine PK ?_;exact be rfl rfl ⟨ho.low c.size,c.trans B⟩
theorem ib(w0:World){a1 a2 a3 a4:Option Addr}{c1 c2 c3 c4:Nat}{st:List Int}{nx fr:bU}{lb:List Nat}(h1:Sl w0 (c7 w0) a1 c1 st)(h2:Sl w0 (c7 w0) a2 c2 nx)(h3:Sl w0 (c7 w0) a3 c3 lb)(h4:Sl w0 (c7 w0) a4 c4 fr)
  (E:jT st nx lb.length fr=0) (P:mG nx≤8589934592):
  Rt Tryz.prog 54 [I1 a1 c1 a2 c2 a3 c3 a4 c4 st.length nx.length lb.length fr.length].toArray w0 fun v w'=>∃b,v=xp b∧LabAt w' b nx lb fr∧Ext w0 w':=by
 obtain⟨w,D,O,t,k,u⟩:=jU E;have n:okG nx:=fun r L=>(k r L).2
 refine dD Tryz.func54 Tryz.ntmps54 rfl rfl ?_;refine PB ?_;refine dX rfl rfl rfl fun S h F=>?_
 have N:=h.lt;have m:=F.size;refine Q4 ?_;refine WL.build rfl rfl rfl rfl ?_;refine dX rfl rfl rfl fun H c B=>?_
 have h:=h.ext B;have d:=F.trans B;have M:=c.lt;have K:=B.size;refine Q4 ?_;refine WL.call rfl rfl rfl (bJ H (h1.up d) (h2.up d) h3.len63 (h4.up d) P) ?_;rintro _ R ⟨fv,rfl,a,o⟩
 rw[OK E,f7 n]at a
 obtain⟨fo,fc,rfl⟩:=a.val;have h:=h.ext o;have c:=c.ext o;have d:=d.trans o;have J:=o.size;refine Rw ?_;refine WL.st rfl rfl rfl c rfl rfl Pr (fun C c i=>?_);have a:=a.keptN i (fun g j e=>by have:=(a.lt g j).1;have:=Nn e;omega);have h:=h.kept i Po;have d:Ext w0 C:=d.grown i d.size (fun g j=>by cases j;exact m);have I:=i.size;refine QR ?_;refine WL.call rfl rfl rfl (dT C (h2.up d)) ?_;rintro _ Q ⟨tv,vs,rfl,f,A⟩
 have x:jD nx=0:=jE n O7;have s:Hr nx=Ht nx:=by unfold Hr;rw[OK x]
 rw[s]at f
 obtain⟨to,tc,p⟩:=f.out.val;have q:=f.len;subst p;have c:=c.ext A;have a:=a.extN A;have d:=d.trans A;refine Rw ?_;refine WL.st rfl rfl rfl c rfl rfl Pr (fun G c l=>?_);have a:=a.keptN l (fun g j e=>by have:=(a.lt g j).1;have:=Nn e;omega);have f:=f.kept l (fun g j e=>by have:=(f.lt g j).1;have:=Nn e;omega);have d:Ext w0 G:=d.grown l d.size (fun g j=>by cases j;exact m);obtain⟨ao,ac,ea,z⟩:=a.asSl;obtain⟨rfl,_,rfl⟩:=Oi ea;obtain⟨T,bc,eb,y⟩:=f.old.sl;obtain⟨rfl,_,rfl⟩:=Oi eb;rw[q]at c
 refine QO ?_;exact be rfl rfl ⟨_,rfl,⟨_,_,_,_,_,_,_,_,_,_,_,_,_,c,h2.up d,h3.up d,h4.up d,z,y⟩,d⟩
def xk(st:List Int)(nx:bU)(k:Nat)(fr:bU)(t:Ltl):Int:=if jT st nx k fr≠0 then jT st nx k fr else(jl t 1 0).1
theorem xl{st:List Int}{nx:bU}{k:Nat}{fr:bU}{t:Ltl}(h:xk st nx k fr t=0):jT st nx k fr=0∧(jl t 1 0).1=0:=by
 unfold xk at h
 split at h
 ·rename_i h1;exact absurd h h1
 ·rename_i h1;exact⟨by simpa using h1,h⟩
theorem xE(w0:World){a1 a2 a3 a4 to:Option Addr}{c1 c2 c3 c4 tc:Nat}{st:List Int}{nx fr:bU}{lb:List Nat}{t:Ltl}(h1:Sl w0 (c7 w0) a1 c1 st)(h2:Sl w0 (c7 w0) a2 c2 nx)(h3:Sl w0 (c7 w0) a3 c3 lb)(h4:Sl w0 (c7 w0) a4 c4 fr)(i:Sl w0 (c7 w0) to tc t.kids):
  Rt Tryz.prog 53 [I1 a1 c1 a2 c2 a3 c3 a4 c4 st.length nx.length lb.length fr.length,ym t.k t.n to t.kids.length tc].toArray w0 fun v w'=>v=Py (xk st nx lb.length fr t)∧Ext w0 w':=by
 refine dE Tryz.func53 Tryz.ntmps53 rfl rfl ?_;refine PB ?_;refine dX rfl rfl rfl fun m c k=>?_
 skip;refine dX rfl rfl rfl fun g b e=>?_
 have c:=c.ext e;have a:=k.trans e;refine Q4 ?_;refine WL.call rfl rfl rfl (Ix g (h1.up a) (h2.up a) h3.len63 (h4.up a)) ?_;rintro _ f ⟨rfl,d⟩
 have b:=b.ext d;have a:=a.trans d;unfold xk;refine Qt ?_;apply CW.cond rfl<;>intro h
 ·have h:jT st nx lb.length fr≠0:=by simpa using h
  rw[OK h];refine QO ?_;exact be rfl rfl ⟨rfl,a⟩
 have h:jT st nx lb.length fr=0:=by simpa using h
 rw[OJ (by simp[h])];refine QH ?_;refine WL.call rfl rfl rfl (kW f (i.up a) Pl) ?_;rintro _ l ⟨rfl,j⟩
 refine PK ?_;exact be rfl rfl ⟨rfl,a.trans j⟩
theorem cP(w0:World){a1 a2 a3 a4 to:Option Addr}{c1 c2 c3 c4 tc:Nat}{st:List Int}{nx fr:bU}{lb:List Nat}{t:Ltl}(h1:Sl w0 (c7 w0) a1 c1 st)(h2:Sl w0 (c7 w0) a2 c2 nx)(h3:Sl w0 (c7 w0) a3 c3 lb)(h4:Sl w0 (c7 w0) a4 c4 fr)(s:Sl w0 (c7 w0) to tc t.kids)
  (y:mG nx≤8589934592):
  Rt Tryz.prog 24 [I1 a1 c1 a2 c2 a3 c3 a4 c4 st.length nx.length lb.length fr.length,ym t.k t.n to t.kids.length tc].toArray w0 fun v w'=>∃x,v=.tuple ⟨[x,Py (xk st nx lb.length fr t)]⟩∧
   Own w' w0.heap.size 4 cZ x (if xk st nx lb.length fr t=0 then iF nx.length (kX nx lb fr t)else [])∧Ext w0 w':=by
 refine dE Tryz.func24 Tryz.ntmps24 rfl rfl ?_;refine PB ?_;refine dX rfl rfl rfl fun K e J=>?_
 skip;refine dX rfl rfl rfl fun C j A=>?_
 have e:=e.ext A;have c:=J.trans A;refine Q4 ?_;refine WL.call rfl rfl rfl (xE C (h1.up c) (h2.up c) (h3.up c) (h4.up c) (s.up c)) ?_;rintro _ d ⟨rfl,o⟩
 have e:=e.ext o;have j:=j.ext o;have c:=c.trans o;refine Qt ?_;apply CW.cond rfl<;>intro h
 ·have h:xk st nx lb.length fr t≠0:=by simpa using h
  rw[OJ h];refine QO ?_;exact bf rfl rfl rfl ⟨_,rfl,Own.nil,c⟩
 have h:xk st nx lb.length fr t=0:=by simpa using h
 rw[OK h,h];obtain⟨w,hf⟩:=xl h;obtain⟨i,u,n,l,f,g⟩:=jU w;have m:okG nx:=fun r D=>(f r D).2
 have F:∀z,(fun z:World=>Ext d z) z→Ext d z:=fun _ h=>h
 refine QY ?_;refine aF (fun z:World=>Ext d z) [(0,true),(2,true),(1,false),(3,false),(4,true),(5,true)] mixed O8 (Ext.drew d) ?_;refine RO ?_;have a:=c.trans (Ext.drew d);refine cr rfl (WL.call rfl rfl rfl (ib (drew d) (h1.up a) (h2.up a) (h3.up a) (h4.up a) w y) ?_);rintro _ q ⟨b,rfl,G,I⟩
 have k:Ext d q:=Ext.trans (Ext.drew d) I;refine WL.nil (a_ k ?_);skip;have a:=c.trans k;refine cr rfl (WL.call rfl rfl rfl (xr ⟨i,m,g,y⟩ n t.nodes t Pu (jr t _ _ hf) q b to tc G (s.up a)) ?_);rintro _ B ⟨E,H⟩
 have p:Ext d B:=Ext.trans k H;refine WL.nil (a_ p ?_);refine RR ?_;refine PQ ?_;exact bf rfl rfl rfl ⟨_,rfl,E.low a.size,c.trans p⟩
section
variable {s l:List Nat}{k n:Int}{ks:List (List Bool)}
end
section
variable {p:cI}
end
abbrev Is(b:Bool)(so:Option Addr)(sc:Nat)(lo:Option Addr)(a:Nat)(s l:List Int):Value:=.agg [.bool b,.slice so s.length sc,.slice lo l.length a].toArray
abbrev zB(p:cI):List ByteArray:=p.1.map (·.1)
noncomputable abbrev rW(p:cI)(tok st:Int):cN:=(El p tok st).1.1
noncomputable abbrev rO(p:cI)(tok st:Int):List cE:=(El p tok st).1.2
structure RunsK(p:cI)(tok st:Int):Prop where
 chk:jt (rW p tok st)=0
 ed:mG (rW p tok st).2.1≤8589934592
 of:(rO p tok st).length=(rW p tok st).2.1.length
 row:∀j,((rW p tok st).2.1.getD j []).length≤1048576
 start:(rW p tok st).1.length≤1048576
 n:p.1.length≤20
theorem Eo{p:cI}{tok st:Int}(h:(El p tok st).2=0):RunsK p tok st:=by
 obtain⟨h1,h2,h3⟩:=En h;have c:=oh h1;have d:=(og h1).1;have a:jL p=0:=(F5 d).1;have b:rW p tok st=Er (F4 p).1 (n_ p tok st).1.2:=by unfold rW;rw[h3]
 have g:rO p tok st=Ao (n_ p tok st).1.2 (n_ p tok st).1.2.length:=by unfold rO;rw[h3]
 refine⟨?_,?_,?_,?_,?_,(jM a).n⟩
 ·rw[b]
  have:=Es c h2;have e:(Er (F4 p).1 (n_ p tok st).1.2).2.2.1.length=gz (n_ p tok st).1.2 (n_ p tok st).1.2.length:=by
   show((List.range _).map _).length=_;rw[Ls,Lv]
  unfold jt;rw[e];exact this
 ·rw[b];exact DI c h2
 ·rw[b,g]
  show _=((List.range _).map _).length;rw[Ls,Lv];rfl
 ·intro j
  rw[b];show((DH (n_ p tok st).1.2).getD j []).length≤_;by_cases f:j<(DH (n_ p tok st).1.2).length
  ·rw[DJ (by rw[←DK];exact f)]
   have:=(zm c (j:=j)).2;omega
  ·rw[KT,KZ O7];simp
 ·rw[b]
  show(fW (n_ p tok st).1.2 0).length≤_;unfold fW yV;rw[Ls,Lv];have:=c.row 0;omega
structure JdgR(p:cI)(r:cJ)(tok st:Int)(h:Bool)(s l:List Int)(e:Int):Prop where
 bad:e≠0→h=false∧s=[]∧l=[]
 pre:e=0→(El p tok st).2=0∧jP r (zB p)=0
 ctl:e=0→r.2.1=4→s=[]∧l=[]∧(h=true↔∀n∈(rW p tok st).1,kX (rW p tok st).2.1 (rW p tok st).2.2.1 (rW p tok st).2.2.2 r.2.2.2.2.2 n.toNat)
 ltl:e=0→r.2.1≠4→(pY r).2=0∧(jv (pY r).1 1 0).1=0∧IG (pY r).1∧(yu (z_ (pY r).1)).2=0∧(h=true↔ai (rW p tok st) (pY r).1)∧(h=true→s=[]∧l=[])∧
  (h=false→∃ps pl,PathE (rW p tok st) (yu (z_ (pY r).1)).1 ps pl∧s=(ps.map fun n=>((rO p tok st).getD n.toNat (0,0)).1)∧l=(pl.map fun n=>((rO p tok st).getD n.toNat (0,0)).1))
 good:(El p tok st).2=0→jP r (zB p)=0→r.2.1≠4→(pY r).2=0→(yu (z_ (pY r).1)).2=0→e=0
 goodC:(El p tok st).2=0→jP r (zB p)=0→r.2.1=4→e=0
theorem pZ{r:cJ}(h:(pY r).2=0):(jv (pY r).1 1 0).1=0:=by
 unfold pY at h⊢
 split
 ·rename_i h1
  rw[OK h1]at h
  unfold lZ at h⊢
  split
  ·rename_i h2;rw[OK h2]at h;exact absurd h h2
  ·rename_i h2
   rw[OJ h2]at h
   split
   ·rename_i h3;rw[OK h3]at h;exact absurd h h3
   ·rename_i h3;simpa using h3
 ·rename_i h1
  rw[OJ h1]at h
  split
  ·rename_i h2
   rw[OK h2]at h
   unfold ly at h⊢
   split
   ·rename_i h3;rw[OK h3]at h;exact absurd h h3
   ·rename_i h3
    rw[OJ h3]at h
    split
    ·rename_i h4;rw[OK h4]at h;exact absurd h h4
    ·rename_i h4;simpa using h4
  ·rename_i h2
   rw[OJ h2]at h
   split
   ·rename_i h3
    rw[OK h3]at h
    split
    ·rename_i h4;rw[OK h4]at h;exact absurd h h4
    ·rename_i h4;simpa using h4
   ·rename_i h3
    rw[OJ h3]at h;cases h
theorem we{p:cI}{r:cJ}{tok st e:Int}(c:e≠0)(d:(El p tok st).2=0→jP r (zB p)=0→False):JdgR p r tok st false [] [] e:=
 ⟨fun _=>⟨rfl,rfl,rfl⟩,fun h=>absurd h c,fun h=>absurd h c,fun h=>absurd h c,fun a b _ _ _=>(d a b).elim,fun a b _=>(d a b).elim⟩
theorem jQ{r:cJ}{b:List ByteArray}(h:jP r b=0)(h4:r.2.1=4):(jl r.2.2.2.2.2 1 0).1=0:=by
 unfold jP at h
 split at h
 ·cases h
 split at h
 ·rename_i g;exact absurd h g
 rename_i g;have a:By r b=0:=by simpa using g
 unfold By at a
 split at a
 ·cases a
 ·unfold Bz at a
  rw[OJ O7,OJ O7,OJ O7,OK h4]at a
  unfold Cm at a
  split at a
  ·rename_i g2;exact absurd a g2
  ·rename_i g2;simpa using g2
def HW(l:List UInt8):ByteArray:=⟨l.toArray⟩
theorem HZ(l:List UInt8):(HW l).data.toList=l:=by simp[HW]
theorem HY(s:ByteArray):HW s.data.toList=s:=by cases s;simp[HW]
theorem HX(a b:List UInt8):HW a++HW b=HW (a++b):=by
 apply ByteArray.ext;simp[HW,ByteArray.append]
theorem H0(l:List UInt8):(HW l).size=l.length:=by simp[HW,ByteArray.size]
abbrev tV(l:List UInt8):Value:=.string (HW l)
section
variable {P:Program}{Q:Exit→Act→World→Prop}{n:Nat}{σ:Sg}{w:World}{L rest:List Oper}{d:Nat}{op:Op}{ty:TypeId}{pos:String}{af:Array Edge}{g:Option (Nat×Bool)}{t yt:TypeId}{x y ix:Operand}
theorem DU{a b:List UInt8}(w:World)(h:a.length+b.length<9223372036854775808):((do eqGuard .add t x y (tV a) (tV b);binOp .add t (tV a) (tV b):Sem Value)).run P w=.ok (tV (a++b)) w:=by
 have h1:((HW a).size:Int)+((HW b).size:Int)≤9223372036854775807:=by rw[H0,H0];omega
 simp[eqGuard,binOp,Op.stringOp,h1,HX,show IntKind.i64.max=9223372036854775807 by decide]
theorem d9{a b:List UInt8}(k:gd L σ ⟨some d,.binOp .add t x y yt,ty,pos,af,g⟩=some true)(hd:Nat.ble (d+1) n=true)(i:ev σ x=some (tV a))(f:ev σ y=some (tV b))(j:a.length+b.length<9223372036854775808)
  (h:WL P L Q rest n ((d,tV (a++b))::σ) w):WL P L Q (⟨some d,.binOp .add t x y yt,ty,pos,af,g⟩::rest) n σ w:=by
 refine WL.run k hd (fun c e=>?_) h;simp only[execOp,e.ev i,e.ev f];rw[Nv,DU w j];rfl
theorem bW{S:World→Prop}{ord:List (Nat×Bool)}{i:Nat}{a b:List UInt8}(k:Ab L i=some ⟨some d,.binOp .add t x y yt,ty,pos,af,g⟩)(m:gd L σ ⟨some d,.binOp .add t x y yt,ty,pos,af,g⟩=some true)(hd:Nat.ble (d+1) n=true)
  (j:ev σ x=some (tV a)) (f:ev σ y=some (tV b)) (l:a.length+b.length<9223372036854775808) (h:HL P L S Q ord n ((d,tV (a++b))::σ) w):HL P L S Q ((i,true)::ord) n σ w:=by
 refine HL.run k m hd (fun c e w' _=>?_) h;simp only[execOp,e.ev j,e.ev f];rw[Nv,DU w' l];rfl
class IsAr(P:Program)(t:TypeId)(k:outParam Nat)(e:outParam TypeId):Prop where
 ok:P.underlying t=some (.array k e)
theorem o6{p p':Nat→Option (Nat×Nat)}(h:∀i q,p i=some q→p' i=some q):∀(parts:List (Nat×Value)) (cells out:Array Value),Instr.fill p cells parts=some out→Instr.fill p' cells parts=some out
 |[],cells,out,e=>e
 |(i,v)::r,cells,out,e=>by
  unfold Instr.fill at e⊢
  cases a:p i with
  |none=>rw[a]at e;cases e
  |some q=>
   obtain⟨off,size⟩:=q;rw[a]at e
   rw[h i _ a];dsimp only at e⊢
   split at e
   ·cases e
   ·rename_i b
    rw[OJ b];exact o6 h r _ out e
def BU:Nat→Nat→List (Nat×Nat)
 |0,_=>[]
 |k+1,o=>(o,1)::BU k (o+1)
theorem BV:∀(k o i:Nat) (q:Nat×Nat),(BU k o)[i]?=some q→q=(o+i,1)
 |0,o,i,q,h=>by simp[BU]at h
 |k+1,o,0,q,h=>by simp[BU]at h;rw[←h];rfl
 |k+1,o,i+1,q,h=>by
  simp only[BU,KW]at h
  rw[BV k (o+1) i q h,show o+1+i=o+(i+1) by omega]
theorem dY{parts:List (Nat×Operand)}{vs:List Value}{k:Nat}{e:TypeId}{zs out:List Value}(v:gd L σ ⟨some d,.build t parts.toArray,ty,pos,af,g⟩=some true)(hd:Nat.ble (d+1) n=true)
  (s:nL σ (FA parts)=some vs) [E:IsZC P t zs] [u:IsAr P t k e] [F:IsC P e 1 false] (hf:oS (BU k 0) zs ((parts.map (·.1)).zip vs)=some out)
  (h:WL P L Q rest n ((d,.agg out.toArray)::σ) w):WL P L Q (⟨some d,.build t parts.toArray,ty,pos,af,g⟩::rest) n σ w:=by
 refine WL.run v hd (fun a G=>?_) h;obtain⟨i,z,f,c,b⟩:=E.ok;obtain⟨j,dd,m,l,_,_⟩:=F.ok;have C:=nM G (FA parts) vs s;have B:(parts.toArray.map fun x=>(x.1,a.eval x.2)).toList=(parts.map (·.1)).zip vs:=by
  rw[←C];clear s hf v h C
  induction parts with
  |nil=>simp[FA]
  |cons p r D=>simpa[FA]using D
 have A:=o6 (p':=fun i=>some (i*1,1)) (fun i q hq=>by
  have o:(BU k 0)[i]?=some q:=by simpa using hq
  rw[BV k 0 i q o];simp) _ _ _ (oT (BU k 0) _ _ _ hf)
 simp only[MY]at A
 simp only[execOp,Instr.build,zeroValue,typeInfo,f,c,b,OW u.ok,sizeOf,m,l];simp[f,c,b,OW u.ok,m,l];simp at B
 rw[B,A];rfl
theorem eJ{k i:Nat}{e:TypeId}{kd:IntKind}{cells:List Value}{v:Value}(s:gd L σ ⟨some d,.index t x ix,ty,pos,af,g⟩=some true)(hd:Nat.ble (d+1) n=true)
  (q:ev σ x=some (.agg cells.toArray)) (hi:ev σ ix=some (.int kd (i:Int))) [z:IsAr P t k e] [u:IsC P e 1 false] (h1:i<k) (f:Af cells i=some v)
  (h:WL P L Q rest n ((d,v)::σ) w):WL P L Q (⟨some d,.index t x ix,ty,pos,af,g⟩::rest) n σ w:=by
 obtain⟨j,dd,p,o,m,l⟩:=u.ok;rw[Ag]at f
 have b:(isAgg e).run P w=.ok false w:=by
  unfold isAgg;rw[Nv,OW m w,←l];cases dd<;>rfl
 have r:cells.toArray[i]?=some v:=by simpa using f
 refine WL.run s hd (fun a c=>?_) h;simp[execOp,c.ev q,c.ev hi,Instr.index,asIntOf,OW z.ok,h1,sizeOf,typeInfo,p,o,part,b,f]
end
theorem vR(w0:World){ao:Option Addr}{cap:Nat}{xs:List ByteArray}(x:ByteArray)(c:Sl w0 (c7 w0) ao cap xs):
  Rt Tryz.prog 158 [.slice ao xs.length cap,.string x].toArray w0 fun v w'=>v=Py (idxOf (fun y=>x.data.toList==y.data.toList) xs)∧w0=w':=by
 have l:=c.len63;refine dE Tryz.func158 Tryz.ntmps158 rfl rfl ?_;refine Q3 ?_;refine CW.loop (S:=Nat) (fun k=>[(0,.slice ao xs.length cap),(1,.string x),(7,Py xs.length),(8,Py k)])
  (fun k w=>k≤xs.length∧w0=w∧∀j (h:j<xs.length),j<k→(x.data.toList==xs[j].data.toList)=false) (fun k=>xs.length -k) 0 O6 ⟨by omega,rfl,by omega⟩ ?_
 rintro k w ⟨m,rfl,hn⟩
 refine Qt ?_;apply CW.cond rfl<;>intro h
 ·simp at h
  refine PT ?_;refine eC rfl rfl rfl rfl rfl c h Pg (fun u q f=>?_);obtain⟨rfl,_⟩:=f.str;refine PN ?_;refine CW.cond rfl (fun b=>?_) (fun b=>?_)
  ·refine PA ?_
   refine be rfl rfl ⟨?_,rfl⟩;rw[vq h hn b]
  ·refine PI ?_
   refine EX.back (k+1) O6 ⟨h,rfl,?_⟩ O7;intro j a i
   by_cases e:j=k
   ·subst e;exact b
   ·exact hn j a O7
 ·simp at h
  refine P_ ?_;refine be rfl rfl ⟨?_,rfl⟩;rw[vw (fun j a=>hn j a O7)]
instance sE:IsZ Tryz.prog 9 (⟨#[]⟩:ByteArray) 16:=IsZ.of (z:=.string ⟨#[]⟩) O8 (fun _ _=>⟨rfl,by decide⟩)
theorem wg(w0:World){so fo:Option Addr}{sc fc k:Nat}{ns:List cG}(y:Sl w0 (c7 w0) so sc ns)(D:ns.length≤1000):
  Rt Tryz.prog 23 [Cq so sc fo fc ns.length k].toArray w0 fun v w'=>Own w' w0.heap.size 9 cZ v (ns.map (·.1))∧Ext w0 w':=by
 refine dD Tryz.func23 Tryz.ntmps23 rfl rfl ?_;refine PB ?_;refine dX rfl rfl rfl fun C E A=>?_
 refine QX ?_;refine CW.loop (S:=Nat×Value) (fun s=>[(7,.slice so ns.length sc),(8,Py ns.length),(9,Py s.1),(3,s.2)])
  (fun s w=>s.1≤ns.length∧Own w w0.heap.size 9 cZ s.2 ((ns.take s.1).map (·.1))∧Ext w0 w) (fun s=>ns.length -s.1) (0,.slice none 0 0) O6 ⟨Nc _,Own.nil,A⟩ ?_
 rintro⟨i,v⟩ w ⟨hi,d,e⟩
 dsimp only at hi d e⊢
 refine Qt ?_;apply CW.cond rfl<;>intro h
 ·have a:i<ns.length:=by simpa using h
  refine Rb ?_;refine eC rfl rfl rfl rfl rfl (y.up e) a Pg (fun u q f=>?_);have j:ns[i].1.size≤maxLen:=by
   obtain⟨c1,c2,_,h1,_⟩:=f.pr;exact h1.2
  rw[f.node];clear f;skip;refine WL.alloc rfl rfl (fun B c p=>?_);refine WL.st rfl rfl rfl c rfl rfl Pr (fun t c m=>?_);have o:Ext w t:=p.grown m p.size Pi;have ho3:=d.extN o;have b:=e.trans o;refine QR ?_;refine dW (F:=cZ) (yv:=ns[i].1) rfl rfl Pg rfl rfl Pg ho3 (Rd.mkStr _ _ _ j) b.size Pj O9 (by rw[Ls,LB];unfold maxLen;omega) (by rw[Ls,LB];omega) (fun x r q ho4 l hnb=>?_);have n:Ext w0 r:=b.grown l b.size (fun g z=>(ho3.lt g z).1);refine Qc ?_;refine EX.back (i+1,x) O6 ⟨a,?_,n⟩ Pa;rw[show(ns.take (i+1)).map (·.1)=(ns.take i).map (·.1)++[ns[i].1] by rw[Mo a,LE];rfl];exact ho4
 ·obtain rfl:i=ns.length:=by simp at h;omega
  rw[Mk]at d
  refine P_ ?_;exact be rfl rfl ⟨d,e⟩
theorem gf(w0:World){eo lo:Option Addr}{ec k:Nat}{b:List cE}{l:List Int}(B:Sl w0 (c7 w0) eo ec b)(z:Sl w0 (c7 w0) lo k l)(A:AF b.length l)(I:l.length≤1099511627776):
  Rt Tryz.prog 27 [.slice eo b.length ec,.slice lo l.length k].toArray w0 fun v w'=>Own w' w0.heap.size 3 cZ v (l.map fun n=>(b.getD n.toNat (0,0)).1)∧Ext w0 w':=by
 refine dE Tryz.func27 Tryz.ntmps27 rfl rfl ?_;have J:=z.len63;have G:=B.len63;refine Q3 ?_;refine CW.loop (S:=Nat×Value) (fun s=>[(0,.slice eo b.length ec),(8,.slice lo l.length k),(9,Py l.length),(10,Py s.1),(5,s.2)])
  (fun s w=>s.1≤l.length∧Own w w0.heap.size 3 cZ s.2 ((l.take s.1).map fun n=>(b.getD n.toNat (0,0)).1)∧Ext w0 w) (fun s=>l.length -s.1) (0,.slice none 0 0) O6 ⟨Nc _,Own.nil,Ext.refl _⟩ ?_
 rintro⟨i,v⟩ w ⟨hi,e,d⟩
 dsimp only at hi e d⊢
 refine Qt ?_;apply CW.cond rfl<;>intro h
 ·have c:i<l.length:=by simpa using h
  obtain⟨a,ea⟩:=J7 (A _ (Lc c)).1;have C:a<b.length:=by have:=(A _ (Lc c)).2;omega
  obtain⟨kb,koff,rfl,hF,cs,p,m⟩:=(B.up d).el a C;obtain⟨c1,c2,f,h1,h2⟩:=C8 m;rw[C3 h1]at f
  have r:Cells w kb (koff+a*sz cE) [Py b[a].1]:=by
   intro j u x
   cases j with
   |zero=>exact p 0 u (by rw[f];exact x)
   |succ j=>simp at x
  refine Rb ?_;refine eB rfl rfl rfl rfl rfl (z.up d) c ea Pg (fun q=>?_);refine Qq ?_;refine eH (α:=cE) rfl rfl rfl rfl O7 O7 ?_;refine Rm ?_;refine WL.load (α:=Int) (F:=cZ) (y:=b[a].1) rfl rfl rfl (by rw[Kb];exact r) rfl ?_;rw[show Iq Int [Py b[a].1]=Py b[a].1 from rfl];skip;refine dW (F:=cZ) (yv:=b[a].1) rfl rfl Pg rfl rfl Pg e Pt d.size Pj O9 (by rw[Ls,LB];unfold maxLen;omega) (by rw[Ls,LB];omega) (fun E D q ho4 o hnb=>?_);have t:Ext w0 D:=d.grown o d.size (fun g H=>(e.lt g H).1);refine Qc ?_;refine EX.back (i+1,E) O6 ⟨c,?_,t⟩ Pa;rw[show(l.take (i+1)).map (fun n=>(b.getD n.toNat (0,0)).1)=(l.take i).map (fun n=>(b.getD n.toNat (0,0)).1)++[b[a].1] by
   rw[Mo c,LE];simp only[LG,LI];rw[ea,Kb,KT,KY C];rfl]
  exact ho4
 ·obtain rfl:i=l.length:=by simp at h;omega
  rw[Mk]at e
  refine P_ ?_;exact be rfl rfl ⟨e,d⟩
theorem vi(x:ByteArray)(a:List ByteArray):idxOf (fun y:ByteArray=>x.data.toList==y.data.toList) a=vh a x.data.toList:=by
 unfold idxOf vh;rw[show(fun y:ByteArray=>x.data.toList==y.data.toList)=fun y=>y.data.toList==x.data.toList from funext fun y=>Bool.beq_comm]
 all_goals rfl
theorem qM{a:List ByteArray}{i:Nat}(h:i<a.length):a.getD i ⟨#[]⟩=a[i]:=by rw[KT,KY h];rfl
inductive ShT(kk:Int→Int):Ltl→Prop
 |mk (k n:Int) (kids:List Ltl):kk k=kids.length→0≤n→n≤63→(∀x∈kids,ShT kk x)→ShT kk (.mk k n kids)
mutual
theorem jB:∀(t:Ltl) (d c:Int),(jv t d c).1=0→ShT wY t∧(jv t d c).2=c+t.nodes
 |.mk k n kids,d,c,h=>by
  simp only[jv]at h⊢
  split at h
  ·cases h
  split at h
  ·cases h
  split at h
  ·cases h
  rename_i h1 h2 h3;rw[OJ h1,OJ h2,OJ h3];have⟨g1,g2⟩:=jy kids (d+1) (c+1) h;simp only[OO]at h3
  refine⟨.mk k n kids O7 O7 O7 g1,?_⟩;rw[g2];simp only[Ltl.nodes];omega
theorem jy:∀(l:List Ltl) (d c:Int),(jw l d c).1=0→(∀x∈l,ShT wY x)∧(jw l d c).2=c+Ltl.nodesL l
 |[],d,c,h=>⟨fun x a=>by(cases a),by simp[jw,Ltl.nodesL]⟩
 |y::r,d,c,h=>by
  simp only[jw]at h⊢
  split at h
  ·rename_i h1;exact absurd h h1
  rename_i h1;rw[OJ h1];have⟨g1,g2⟩:=jB y d c (by simpa using h1);have⟨g3,g4⟩:=jy r d _ h;refine⟨fun x a=>?_,?_⟩
  ·rcases LN.1 a with rfl|a
   ·exact g1
   ·exact g3 x a
  ·rw[g4,g2];simp only[Ltl.nodesL];omega
end
section
variable {P:Program}{Q:Exit→Act→World→Prop}{n:Nat}{σ:Sg}{w wc:World}{L:List Oper}{S:World→Prop}{ord:List (Nat×Bool)}{i d:Nat}{ty:TypeId}{pos:String}{af:Array Edge}{g:Option (Nat×Bool)}{t e:TypeId}{x:Operand}{b o:Nat}{cells:List Value}
theorem cm{v:Value}(q:∀f,S f→Blk f b e cells)(l:Ab L i=some ⟨some d,.load t x,ty,pos,af,g⟩)(m:gd L σ ⟨some d,.load t x,ty,pos,af,g⟩=some true)(hd:Nat.ble (d+1) n=true)(j:ev σ x=some (.pointer (some ⟨b,o,none⟩)))[r:IsC P t 1 false](k:Af cells o=some v)
  (h:HL P L S Q ord n ((d,v)::σ) wc):HL P L S Q ((i,true)::ord) n σ wc:=by
 refine HL.run l m hd (fun a p w' c=>?_) h;simp[execOp,p.ev j,D0 (P:=P) (t:=t) w' (q w' c) k]
theorem cg{vs:List Value}{k:Nat}(r:∀f,S f→Blk f b e cells)(m:Ab L i=some ⟨some d,.load t x,ty,pos,af,g⟩)(p:gd L σ ⟨some d,.load t x,ty,pos,af,g⟩=some true)(hd:Nat.ble (d+1) n=true)(j:ev σ x=some (.pointer (some ⟨b,o,none⟩)))[s:IsC P t k true](l:EB cells o k=some vs)
  (h:HL P L S Q ord n ((d,.agg vs.toArray)::σ) wc):HL P L S Q ((i,true)::ord) n σ wc:=by
 refine HL.run m p hd (fun a q w' c=>?_) h;simp[execOp,q.ev j,D1 (P:=P) (t:=t) w' (r w' c) l]
end
instance tN:IsFd Tryz.prog 254 0 0:=IsFd.of O8
instance tO:IsFd Tryz.prog 254 1 1:=IsFd.of O8
instance tP:IsBd Tryz.prog 254 [(0,1),(1,1)]:=IsBd.of O8
instance tQ:IsZC Tryz.prog 254 [.slice none 0 0,.bool false]:=IsZC.of (z:=.agg #[.slice none 0 0,.bool false]) O8 rfl
instance tR:IsAr Tryz.prog 298 10 9:=⟨Tryz.underlying298⟩
abbrev zC:Value:=.string ⟨#[]⟩
instance tT:IsZC Tryz.prog 298 [zC,zC,zC,zC,zC,zC,zC,zC,zC,zC]:=IsZC.of (z:=.agg #[zC,zC,zC,zC,zC,zC,zC,zC,zC,zC]) O8 rfl
theorem ya(w0:World){no:Option Addr}{m:Nat}{a:List ByteArray}(hn:Sl w0 (c7 w0) no m a)(n:Int)(q:0≤n):
  Rt Tryz.prog 226 [Py n,.slice no a.length m].toArray w0 fun v w'=>v=tV (zv a n)∧Ext w0 w':=by
 have s:=hn.len63;refine dE Tryz.func226 Tryz.ntmps226 rfl rfl ?_;obtain⟨i,rfl⟩:=J7 q;refine Qt ?_;apply CW.cond rfl<;>intro h
 ·refine QO ?_
  refine be rfl rfl ⟨?_,Ext.refl _⟩;have:(i:Int)=63:=by simpa using h
  unfold zv;rw[OK this];rfl
 have f:¬(i:Int)=63:=by simpa using h
 refine QS ?_
 (refine eV rfl rfl (fun h=>?_) (fun h=>?_))
 ·have h1:(i:Int)≥(a.length:Int):=by simpa using h
  refine Q6 ?_;refine be rfl rfl ⟨?_,Ext.refl _⟩;unfold zv;rw[OJ f,OK h1];rfl
 have h1:¬(i:Int)≥(a.length:Int):=by simpa using h
 have hi:i<a.length:=by omega
 refine Ri ?_;refine eC rfl rfl rfl rfl rfl hn hi Pg (fun k l c=>?_);obtain⟨rfl,_⟩:=c.str;skip;refine WL.call rfl rfl rfl (cX w0 a[i]) ?_;rintro _ p ⟨rfl,j⟩
 refine Ri ?_
 (refine eV rfl rfl (fun h=>?_) (fun h=>?_))
 ·refine Q6 ?_
  refine be rfl rfl ⟨?_,j⟩;unfold zv;rw[OJ f,OJ h1,OK (by rw[Kb,qM hi];simpa using h)];rfl
 have h2:¬yZ a[i]=false:=by simpa using h
 refine Ri ?_;refine eC rfl rfl rfl rfl rfl (hn.up j) hi Pg (fun k l c=>?_);obtain⟨rfl,_⟩:=c.str;skip;refine WL.call rfl rfl rfl (vR p a[i] (hn.up j)) ?_;rintro _ r ⟨rfl,rfl⟩
 refine PN ?_;apply CW.cond rfl<;>intro h
 ·refine QO ?_
  refine be rfl rfl ⟨?_,j⟩;unfold zv;rw[OJ f,OJ h1,OJ (by rw[Kb,qM hi];exact h2),OK (by rw[Kb,qM hi,←vi];simpa using h)];rfl
 refine Qm ?_;refine eC rfl rfl rfl rfl rfl (hn.up j) hi Pg (fun k l c=>?_);obtain⟨rfl,_⟩:=c.str;refine PK ?_;refine be rfl rfl ⟨?_,j⟩;unfold zv;rw[OJ f,OJ h1,OJ (by rw[Kb,qM hi];exact h2),OJ (by rw[Kb,qM hi,←vi];simpa using h)];rw[Kb,qM hi,tV,HY]
theorem xB(w0:World)(k i x:Int):Rt Tryz.prog 271 [Py k,Py i,Py x].toArray w0 fun v w'=>v=.bool (gZ k i x)∧w0=w':=by
 refine dF Tryz.func271 Tryz.ntmps271 rfl rfl ?_;unfold gZ;refine Qj ?_;apply CW.cond rfl<;>intro h
 ·have a:x=5:=by simpa using h
  rw[OK a];clear h;refine PW ?_
  (refine eV rfl rfl (fun h=>?_) (fun h=>?_))
  ·refine Qb ?_
   exact be rfl rfl ⟨by rw[h];rfl,rfl⟩
  ·rw[h]
   clear h;refine Ri ?_
   (refine eV rfl rfl (fun h=>?_) (fun h=>?_))
   ·refine P2 ?_
    exact be rfl rfl ⟨by rw[h];rfl,rfl⟩
   ·refine Qb ?_
    exact be rfl rfl ⟨by rw[h];rfl,rfl⟩
 have f:¬x=5:=by simpa using h
 rw[OJ f];refine Qt ?_;apply CW.cond rfl<;>intro h
 ·have h:x=6:=by simpa using h
  rw[OK h];clear h;refine PW ?_
  (refine eV rfl rfl (fun h=>?_) (fun h=>?_))
  ·refine P2 ?_
   exact be rfl rfl ⟨by rw[h];rfl,rfl⟩
  ·refine Qb ?_
   exact be rfl rfl ⟨by rw[h];rfl,rfl⟩
 have c:¬x=6:=by simpa using h
 rw[OJ c];refine az [(0,Py k),(1,Py i),(2,Py x),(28,.bool (decide (x=8∨x=9)))] ?_ ?_
 ·refine Qt ?_
  apply CW.cond rfl<;>intro h
  ·refine PD ?_
   refine aS ⟨rfl,rfl,rfl,?_,trivial⟩;refine Ox (fun b=>some (Value.bool b)) ?_;have:x=8:=by simpa using h
   simp[this]
  ·refine Qq ?_
   refine aS ⟨rfl,rfl,rfl,?_,trivial⟩;refine Ox (fun b=>some (Value.bool b)) ?_;have:¬x=8:=by simpa using h
   rw[JN];simp[this]
 apply CW.cond rfl<;>intro h
 ·rw[OK (by simpa using h)]
  clear h;refine PW ?_
  (refine eV rfl rfl (fun h=>?_) (fun h=>?_))
  ·refine P2 ?_
   exact be rfl rfl ⟨by rw[h];rfl,rfl⟩
  ·refine Qb ?_
   exact be rfl rfl ⟨by rw[h];rfl,rfl⟩
 ·rw[OJ (by simpa using h)]
  refine QU ?_;exact be rfl rfl ⟨rfl,rfl⟩
theorem yR(k n:Int)(l:List Ltl):(Ltl.mk k n l).k=k:=rfl
theorem yT(k n:Int)(l:List Ltl):(Ltl.mk k n l).n=n:=rfl
theorem yS(k n:Int)(l:List Ltl):(Ltl.mk k n l).kids=l:=rfl
theorem Fa{kk:Int→Int}{k n:Int}{kids:List Ltl}(h:ShT kk (.mk k n kids)):kk k=kids.length∧0≤n∧n≤63∧∀x∈kids,ShT kk x:=by
 cases h with
 |mk _ _ _ h1 h2 h3 h4=>exact⟨h1,h2,h3,h4⟩
theorem H7{nm:Int→ar}{k n:Int}{x y:Ltl}(a:k=5∨k=6∨k=8∨k=9):
  H6 nm (.mk k n [x,y])=wS (gZ k 0 x.k) (H6 nm x)++[32]++Fk k++[32]++wS (gZ k 1 y.k) (H6 nm y):=by
 rcases a with rfl|rfl|rfl|rfl<;>simp[H6,H9,wj]
theorem wU{w:World}{F:Nat→Prop}{c:List Value}{x:Ltl}(h:rd w F c x){b off:Nat}(d:Cells w b off c):Cells w b off [Py x.k]:=by
 obtain⟨ao,cap,rfl,_⟩:=RdT.sl h;intro j u a
 cases j with
 |zero=>exact d 0 u a
 |succ j=>simp at a
abbrev fE(w:World)(bw:Nat)(no:Option Addr)(len a:Nat)(b:Bool):Prop:=Blk w bw 254 [.slice no len a,.bool b]
def cL(t:Ltl):Prop:=∀(w:World) (F:Nat→Prop) (bw:Nat) (ao:Option Addr) (cap:Nat) (no:Option Addr) (c:Nat) (a:List ByteArray) (b:Bool),Sl w F ao cap t.kids→Sl w F no c a→(∀k,F k→k<w.heap.size)→¬F bw→fE w bw no a.length c b→
 Rt Tryz.prog 156 [.pointer (some ⟨bw,0,none⟩),ym t.k t.n ao t.kids.length cap].toArray w fun v w'=>v=tV (H6 (zv a) t)∧fE w' bw no a.length c (b||gR (zv a) t)∧w.grownBy w' (some bw)
theorem xX{t:Ltl}{i:Nat}(hi:i<t.kids.length)(N:cL t.kids[i])(V:t.kids[i].nodes≤1000)(w:World)(F:Nat→Prop)(bw:Nat)(ao:Option Addr)(cap:Nat)(no:Option Addr)(m:Nat)(c:List ByteArray)(b:Bool)
  (z:Sl w F ao cap t.kids) (hn:Sl w F no m c) (hF:∀k,F k→k<w.heap.size) (hnb:¬F bw) (K:fE w bw no c.length m b):
  Rt Tryz.prog 227 [Pz bw,ym t.k t.n ao t.kids.length cap,Py (i:Int)].toArray w fun v w'=>v=tV (wS (gZ t.k i t.kids[i].k) (H6 (zv c) t.kids[i]))∧fE w' bw no c.length m (b||gR (zv c) t.kids[i])∧w.grownBy w' (some bw):=by
 have U:=z.len63;have R:=K.lt;have Q:=H8 (zx c) t.kids[i];obtain⟨kb,koff,rfl,g,X,D,A⟩:=z.el i hi;refine dF Tryz.func227 Tryz.ntmps227 rfl rfl ?_;refine PB ?_;refine dX rfl rfl rfl fun s G l=>?_
 have j:∀k,F k→k<s.heap.size:=fun k d=>MQ (hF k d) l.size
 have x:Sl s F _ cap t.kids:=z.mono (fun k d=>l.block k (hF k d)) fun _ h=>h
 have B:Sl s F no m c:=hn.mono (fun k d=>l.block k (hF k d)) fun _ h=>h
 refine QR ?_;refine eC rfl rfl rfl rfl rfl x hi Pg (fun u q P=>?_);obtain⟨ao',cap',rfl,O⟩:=P.ltl;skip;refine WL.call rfl rfl rfl (N s F bw ao' cap' no m c b O B j hnb (K.ext l)) ?_;rintro _ r ⟨rfl,H,f⟩
 have J:=G.kept f Po;have o:∀k,F k→k<r.heap.size:=fun k d=>MQ (j k d) f.size
 have C:r.heap[kb]?=w.heap[kb]?:=(f.block kb (j kb g) (fun e=>by cases e;exact hnb g)).trans (l.block kb (hF kb g));have E:Cells r kb (koff+i*sz Ltl) [Py t.kids[i].k]:=wU (Rep.mono A (fun k d=>(f.block k (j k d) (fun e=>by cases e;exact hnb d)).trans (l.block k (hF k d))) fun _ h=>h) (D.mono C);have S:w.grownBy r (some bw):=rK (l.grw (some bw)) f;generalize W:H6 (zv c) t.kids[i]=T at*
 refine Re ?_;refine dm (α:=Ltl) rfl rfl rfl rfl O7 O7 ?_;refine Ro ?_;refine QL.load (α:=Int) (F:=F) (y:=t.kids[i].k) rfl rfl rfl (o kb g) o (by rw[Kb];exact E) rfl ?_;rw[show Iq Int [Py t.kids[i].k]=Py t.kids[i].k from rfl];skip;refine QL.call rfl rfl rfl (fun w' h=>Rt.mono (xB w' t.k i t.kids[i].k) (fun v w'' I=>⟨I.1,I.2▸Ext.refl _⟩)) ?_;refine QL.nil (fun M L=>?_);have p:w.grownBy M (some bw):=rK S (L.grw (some bw));have n:=H.ext L;unfold wS;refine PC ?_;apply CW.cond rfl<;>intro h
 ·rw[OK h]
  refine QO ?_;exact be rfl rfl ⟨rfl,n,p⟩
 ·rw[OJ (by rw[h];decide)]
  refine Qm ?_;refine d9 (a:=[40]) (b:=T) rfl rfl rfl rfl Pd ?_;refine d9 (a:=[40]++T) (b:=[41]) rfl rfl rfl rfl Pe ?_;refine PK ?_;exact be rfl rfl ⟨rfl,n,p⟩
set_option maxHeartbeats 1000000 in
theorem yj:∀(m:Nat) (t:Ltl),t.nodes≤m→m≤1000→ShT wY t→cL t
 |0,t,hm,_,_=>by have:=t.nodes_pos;omega
 |m+1,.mk k n kids,hm,hm1,Y=>by
  intro w F bw ao cap no V c b hs hn hF hnb hb
  obtain⟨j,h0,h63,J⟩:=Fa Y;simp only[Ltl.nodes]at hm
  have C:∀i (hi:i<kids.length),kids[i].nodes≤m:=fun i hi=>by have:=Ltl.nodes_kid kids _ (Lc hi);omega
  have ihk:∀i (hi:i<kids.length),cL kids[i]:=fun i hi=>yj m kids[i] (C i hi) O7 (J _ (Lc hi))
  have v:∀i (hi:i<kids.length),(H6 (zv c) kids[i]).length≤8000:=fun i hi=>by have:=H8 (zx c) kids[i];have:=C i hi;omega
  have hbl:=hb.lt;simp only[yS]at hs
  simp only[yR,yT,yS];refine dE Tryz.func156 Tryz.ntmps156 rfl rfl ?_;refine PB ?_;refine dX rfl rfl rfl fun s S M=>?_
  have r:∀k,F k→k<s.heap.size:=fun k j=>MQ (hF k j) M.size
  have I:Sl s F ao cap kids:=hs.mono (fun k j=>M.block k (hF k j)) fun _ h=>h
  have E:Sl s F no V c:=hn.mono (fun k j=>M.block k (hF k j)) fun _ h=>h
  have D:=hb.ext M;have p:w.grownBy s (some bw):=M.grw (some bw);have hl3:=S.lt;refine QX ?_;apply CW.cond rfl<;>intro h
  ·obtain rfl:k=1:=by simpa using h
   obtain rfl:kids=[]:=KC (by have:wY 1=0:=rfl;omega);refine PA ?_;exact be rfl rfl ⟨rfl,by simpa[gR,gS]using D,p⟩
  have k1:¬k=1:=by simpa using h
  refine Qt ?_;apply CW.cond rfl<;>intro h
  ·obtain rfl:k=2:=by simpa using h
   obtain rfl:kids=[]:=KC (by have:wY 2=0:=rfl;omega);refine PA ?_;exact be rfl rfl ⟨rfl,by simpa[gR,gS]using D,p⟩
  have k2:¬k=2:=by simpa using h
  refine Qt ?_;apply CW.cond rfl<;>intro h
  ·obtain rfl:k=3:=by simpa using h
   obtain rfl:kids=[]:=KC (by have:wY 3=0:=rfl;omega);refine Rg ?_;refine QL.call rfl rfl rfl (fun w' h=>ya w' ((E.mono (fun k j=>h.block k (r k j)) fun _ h=>h).lift fun k j=>MQ (r k j) h.size) n h0) ?_;refine Rl ?_;refine QL.nil (fun B e2=>?_);have d:=D.ext e2;refine QI ?_
   (refine eV rfl rfl (fun h=>?_) (fun h=>?_))
   ·refine Rr ?_
    refine WL.st rfl rfl rfl d rfl rfl Pr (fun W l A=>?_);refine PA ?_;refine be rfl rfl ⟨by simp[H6,wj],?_,rK (rK p (e2.grw _)) A⟩;rw[h];exact l
   ·refine Rw ?_
    refine WL.st rfl rfl rfl d rfl rfl Pr (fun W l A=>?_);refine PA ?_;refine be rfl rfl ⟨by simp[H6,wj],?_,rK (rK p (e2.grw _)) A⟩;rw[h,show(false||gR (zv c) (.mk 3 n []))=((HW (zv c n)).data.toList==(⟨#[]⟩:ByteArray).data.toList) by rw[HZ];simp[gR,gS]];exact l
  have k3:¬k=3:=by simpa using h
  have u:∀K,wY K=1→k=K→∃x,kids=[x]:=fun K hK e=>Lo.1 (by rw[e]at j;omega)
  have q:∀i (hi:i<kids.length),_:=fun i hi=>xX (t:=.mk k n kids) (i:=i) hi (ihk i hi) (by have:=C i hi;show kids[i].nodes≤1000;omega) s F bw ao cap no V c b I E r hnb D
  simp only[yR,yT,yS]at q
  refine Qt ?_;apply CW.cond rfl<;>intro h
  ·have g:k=4:=by simpa using h
   obtain⟨x,rfl⟩:=u 4 rfl g;have o:=v 0 O_;have G:=wT (gZ k ((0:Nat):Int) x.k) (H6 (zv c) x);simp only[K_]at o
   refine Q4 ?_;refine WL.call rfl rfl rfl (q 0 O_) ?_;rintro _ B ⟨rfl,d,f⟩
   simp only[K_]at d⊢
   refine d9 (a:=[33]) rfl rfl rfl rfl Pd ?_;refine P2 ?_;subst g;exact be rfl rfl ⟨by simp[H6,H9,wj],by simpa[gR,gS]using d,rK p f⟩
  refine Qt ?_;apply CW.cond rfl<;>intro h
  ·have g:k=7:=by simpa using h
   obtain⟨x,rfl⟩:=u 7 rfl g;have o:=v 0 O_;have G:=wT (gZ k ((0:Nat):Int) x.k) (H6 (zv c) x);simp only[K_]at o
   refine Q4 ?_;refine WL.call rfl rfl rfl (q 0 O_) ?_;rintro _ B ⟨rfl,d,f⟩
   simp only[K_]at d⊢
   refine d9 (a:=[88,32]) rfl rfl rfl rfl Pd ?_;refine P2 ?_;subst g;exact be rfl rfl ⟨by simp[H6,H9,wj],by simpa[gR,gS]using d,rK p f⟩
  refine Qt ?_;apply CW.cond rfl<;>intro h
  ·have g:k=10:=by simpa using h
   obtain⟨x,rfl⟩:=u 10 rfl g;have o:=v 0 O_;have G:=wT (gZ k ((0:Nat):Int) x.k) (H6 (zv c) x);simp only[K_]at o
   refine Q4 ?_;refine WL.call rfl rfl rfl (q 0 O_) ?_;rintro _ B ⟨rfl,d,f⟩
   simp only[K_]at d⊢
   refine d9 (a:=[70,32]) rfl rfl rfl rfl Pd ?_;refine P2 ?_;subst g;exact be rfl rfl ⟨by simp[H6,H9,wj],by simpa[gR,gS]using d,rK p f⟩
  refine Qt ?_;apply CW.cond rfl<;>intro h
  ·have g:k=11:=by simpa using h
   obtain⟨x,rfl⟩:=u 11 rfl g;have o:=v 0 O_;have G:=wT (gZ k ((0:Nat):Int) x.k) (H6 (zv c) x);simp only[K_]at o
   refine Q4 ?_;refine WL.call rfl rfl rfl (q 0 O_) ?_;rintro _ B ⟨rfl,d,f⟩
   simp only[K_]at d⊢
   refine d9 (a:=[71,32]) rfl rfl rfl rfl Pd ?_;refine P2 ?_;subst g;exact be rfl rfl ⟨by simp[H6,H9,wj],by simpa[gR,gS]using d,rK p f⟩
  have Q:(k=5∨k=6∨k=8∨k=9)∧kids.length=2:=by
   rcases wZ j with⟨_,e⟩|⟨_,e⟩|⟨M,e⟩
   ·omega
   ·simp only[Oq,Oo]at*;omega
   ·exact⟨e,M⟩
  obtain⟨L,hk2⟩:=Q;obtain⟨x,y,rfl⟩:∃x y,kids=[x,y]:=by
   match kids,hk2 with
   |[x,y],_=>exact⟨x,y,rfl⟩
  have o:=v 0 O_;have hly:=v 1 O_;simp only[K_,K9]at o hly
  have hkx:=wT (gZ k ((0:Nat):Int) x.k) (H6 (zv c) x);have G:=wT (gZ k ((1:Nat):Int) y.k) (H6 (zv c) y);obtain⟨ki,rfl,hki,Z⟩:∃i:Nat,k=(i:Int)∧i<10∧Af [zC,zC,zC,zC,zC,tV [38],tV [47],zC,tV [85],tV [82]] i=some (tV (Fk k)):=by
   rcases L with rfl|rfl|rfl|rfl
   ·exact⟨5,rfl,by decide,rfl⟩
   ·exact⟨6,rfl,by decide,rfl⟩
   ·exact⟨8,rfl,by decide,rfl⟩
   ·exact⟨9,rfl,by decide,rfl⟩
  have hsl:(Fk (ki:Int)).length≤1:=by unfold Fk;(repeat' split)<;>decide
  generalize O:Fk (ki:Int)=sg at*
  refine Qr ?_;refine dY (out:=[zC,zC,zC,zC,zC,tV [38],tV [47],zC,tV [85],tV [82]]) rfl rfl rfl rfl ?_;refine Rs ?_;refine eJ rfl rfl rfl rfl hki Z ?_;refine Qt ?_;have U:Ext s (drew s):=Ext.drew s;have R:=S.ext U;refine aF (fun z:World=>z.heap[w.heap.size]?=(drew s).heap[w.heap.size]?) [(0,true),(1,true),(4,true),(7,true),(8,true),(2,false),(3,true),(5,true),(6,true),(9,false),(10,true),(11,true)] mixed O8 rfl ?_;have T:∀z:World,(fun z:World=>z.heap[w.heap.size]?=(drew s).heap[w.heap.size]?) z→Blk z w.heap.size 32 [Py (ki:Int),Py n,.slice ao 2 cap]:=fun z hz=>hz.trans R
  refine RE ?_;refine cg T rfl rfl rfl rfl rfl ?_;refine RE ?_;refine cg T rfl rfl rfl rfl rfl ?_;refine cr rfl (WL.call rfl rfl rfl (xX (t:=.mk (ki:Int) n [x,y]) (i:=0) (by simp[yS]) (ihk 0 O_) (by have:=C 0 O_;show x.nodes≤1000;simp only[K_]at this;omega) (drew s) F bw ao cap no V c b (I.mono (fun k j=>U.block k (r k j)) fun _ h=>h) (E.mono (fun k j=>U.block k (r k j)) fun _ h=>h) r hnb (D.ext U)) ?_);rintro _ B ⟨rfl,d,f⟩
  have N:B.heap[w.heap.size]?=(drew s).heap[w.heap.size]?:=f.block _ hl3 Po;have hF2:∀k,F k→k<B.heap.size:=fun k j=>MQ (r k j) f.size
  have P:s.grownBy B (some bw):=rK (U.grw _) f;have H:∀k,F k→B.heap[k]?=s.heap[k]?:=fun k j=>P.block k (r k j) (fun e=>by cases e;exact hnb j)
  refine WL.nil (a_ N ?_);simp only[yR,yS,K_]at d⊢
  refine bW (b:=[32]) rfl rfl rfl rfl rfl Pd ?_;refine bW (b:=sg) rfl rfl rfl rfl rfl Pe ?_;refine bW (b:=[32]) rfl rfl rfl rfl rfl Pe ?_;refine cr rfl (WL.call rfl rfl rfl (xX (t:=.mk (ki:Int) n [x,y]) (i:=1) (by simp[yS]) (ihk 1 O_) (by have:=C 1 O_;show y.nodes≤1000;simp only[K9,K_]at this;omega) B F bw ao cap no V c _ (I.mono H fun _ h=>h) (E.mono H fun _ h=>h) hF2 hnb d) ?_);rintro _ W ⟨rfl,l,A⟩
  have X:W.heap[w.heap.size]?=(drew s).heap[w.heap.size]?:=(A.block _ (by have:=f.size;have:s.heap.size≤B.heap.size:=this;omega) Po).trans N;refine WL.nil (a_ X ?_);simp only[yR,yS,K9,K_]at l⊢
  refine bW rfl rfl rfl rfl rfl Pe ?_;refine RR ?_;refine PQ ?_;refine be rfl rfl ⟨by rw[H7 L,O];rfl,?_,rK (rK p P) A⟩;rw[show(b||gR (zv c) (.mk (ki:Int) n [x,y]))=(b||gR (zv c) x||gR (zv c) y) by
   have:((ki:Int)==3)=false:=by rcases L with e|e|e|e<;>rw[e]<;>rfl
   simp[gR,gS,this,Bool.or_assoc]]
  exact l
theorem yi(w0:World){ao no:Option Addr}{cap i:Nat}{t:Ltl}{a:List ByteArray}(p:Sl w0 (c7 w0) ao cap t.kids)(hn:Sl w0 (c7 w0) no i a):
  Rt Tryz.prog 90 [ym t.k t.n ao t.kids.length cap,.slice no a.length i].toArray w0 fun v w'=>v=.tuple ⟨[tV (Cn t a).1,Py (Cn t a).2]⟩∧Ext w0 w':=by
 refine dE Tryz.func90 Tryz.ntmps90 rfl rfl ?_;unfold Cn;refine PB ?_;refine dX rfl rfl rfl fun y c u=>?_
 refine Q4 ?_;refine WL.call rfl rfl rfl (yk y (p.up u) Pl) ?_;rintro _ o ⟨rfl,s⟩
 have c:=c.ext s;have f:=u.trans s;refine Qt ?_;apply CW.cond rfl<;>intro h
 ·rw[OK (by simpa using h)]
  refine QO ?_;exact bf rfl rfl rfl ⟨rfl,f⟩
 have q:(jv t 1 0).1=0:=by simpa using h
 rw[OJ (by simpa using h)];obtain⟨j,z⟩:=jB t 1 0 q;have A:=(jA t 1 0 q).2;refine Qm ?_;refine WL.build rfl rfl rfl rfl ?_;refine dX rfl rfl rfl fun x d r=>?_
 have c:=c.ext r;have b:=f.trans r;refine Q4 ?_;refine WL.call rfl rfl rfl (yj t.nodes t Pu O7 j x (c7 w0) o.heap.size ao cap no i a false (p.at b) (hn.at b) (fun k l=>MQ l b.size) (fun l=>by have h1:o.heap.size<w0.heap.size:=l;have:=f.size;omega) d) ?_;rintro _ w ⟨rfl,n,m⟩
 have e:Ext w0 w:=b.grown m b.size (fun g B=>by cases B;exact f.size);rw[JQ]at n
 refine P9 ?_;apply CW.cond rfl<;>intro h
 ·rw[OK h]
  refine QO ?_;exact bf rfl rfl rfl ⟨rfl,e⟩
 ·rw[OJ (by rw[h];decide)]
  refine QU ?_;exact bf rfl rfl rfl ⟨rfl,e⟩
mutual
theorem js:∀(t:Ltl) (d c:Int),(jl t d c).1=0→ShT wW t∧(jl t d c).2=c+t.nodes
 |.mk k n kids,d,c,h=>by
  simp only[jl]at h⊢
  split at h
  ·cases h
  split at h
  ·cases h
  split at h
  ·cases h
  rename_i h1 h2 h3;rw[OJ h1,OJ h2,OJ h3];have⟨g1,g2⟩:=jp kids (d+1) (c+1) h;simp only[OO]at h3
  refine⟨.mk k n kids O7 O7 O7 g1,?_⟩;rw[g2];simp only[Ltl.nodes];omega
theorem jp:∀(l:List Ltl) (d c:Int),(jm l d c).1=0→(∀x∈l,ShT wW x)∧(jm l d c).2=c+Ltl.nodesL l
 |[],d,c,h=>⟨fun x a=>by(cases a),by simp[jm,Ltl.nodesL]⟩
 |y::r,d,c,h=>by
  simp only[jm]at h⊢
  split at h
  ·rename_i h1;exact absurd h h1
  rename_i h1;rw[OJ h1];have⟨g1,g2⟩:=js y d c (by simpa using h1);have⟨g3,g4⟩:=jp r d _ h;refine⟨fun x a=>?_,?_⟩
  ·rcases LN.1 a with rfl|a
   ·exact g1
   ·exact g3 x a
  ·rw[g4,g2];simp only[Ltl.nodesL];omega
end
theorem txtC_bin{nm:Int→ar}{n:Int}{x y:Ltl}:
  H1 nm (.mk 5 n [x,y])=wS (gY 5 0 x.k) (H1 nm x)++[32,38,32]++wS (gY 5 1 y.k) (H1 nm y)∧H1 nm (.mk 6 n [x,y])=wS (gY 6 0 x.k) (H1 nm x)++[32,47,32]++wS (gY 6 1 y.k) (H1 nm y)∧
  H1 nm (.mk 10 n [x,y])=[69,32,91]++H1 nm x++[32,85,32]++H1 nm y++[93]∧H1 nm (.mk 14 n [x,y])=[65,32,91]++H1 nm x++[32,85,32]++H1 nm y++[93]:=by
 refine⟨?_,?_,?_,?_⟩<;>simp[H1,H4,wh]
theorem H3{nm:Int→ar}{k n:Int}{x:Ltl}(a:k=4∨k=7∨k=8∨k=9∨k=11∨k=12∨k=13):H1 nm (.mk k n [x])=Fj k++wS (gY k 0 x.k) (H1 nm x):=by
 rcases a with rfl|rfl|rfl|rfl|rfl|rfl|rfl<;>simp[H1,H4,wh]
theorem gP{nm:Int→ar}{k n:Int}{x y:Ltl}(a:k≠3)(b:Bool):(b||gR nm (.mk k n [x,y]))=(b||gR nm x||gR nm y):=by
 have:(k==3)=false:=by simpa using a
 simp[gR,gS,this,Bool.or_assoc]
theorem gO{nm:Int→ar}{k n:Int}{x:Ltl}(a:k≠3)(b:Bool):(b||gR nm (.mk k n [x]))=(b||gR nm x):=by
 have:(k==3)=false:=by simpa using a
 simp[gR,gS,this]
instance tH:IsFd Tryz.prog 258 0 0:=IsFd.of O8
instance tI:IsFd Tryz.prog 258 1 1:=IsFd.of O8
instance tJ:IsBd Tryz.prog 258 [(0,1),(1,1)]:=IsBd.of O8
instance tK:IsZC Tryz.prog 258 [.slice none 0 0,.bool false]:=IsZC.of (z:=.agg #[.slice none 0 0,.bool false]) O8 rfl
instance tL:IsAr Tryz.prog 331 14 9:=⟨Tryz.underlying331⟩
abbrev zD:Value:=.string ⟨#[]⟩
instance tM:IsZC Tryz.prog 331 [zD,zD,zD,zD,zD,zD,zD,zD,zD,zD,zD,zD,zD,zD]:=IsZC.of (z:=.agg #[zD,zD,zD,zD,zD,zD,zD,zD,zD,zD,zD,zD,zD,zD]) O8 rfl
theorem kU(w0:World){k:Int}(c:k=4∨k=7∨k=8∨k=9∨k=11∨k=12∨k=13):Rt Tryz.prog 230 [Py k].toArray w0 fun v w'=>v=tV (Fj k)∧Ext w0 w':=by
 obtain⟨ki,rfl,b,a⟩:∃i:Nat,k=(i:Int)∧i<14∧Af [zD,zD,zD,zD,tV [33],zD,zD,tV [69,88,32],tV [69,70,32],tV [69,71,32],zD,tV [65,88,32],tV [65,70,32],tV [65,71,32]] i=some (tV (Fj k)):=by
  rcases c with rfl|rfl|rfl|rfl|rfl|rfl|rfl
  ·exact⟨4,rfl,by decide,rfl⟩
  ·exact⟨7,rfl,by decide,rfl⟩
  ·exact⟨8,rfl,by decide,rfl⟩
  ·exact⟨9,rfl,by decide,rfl⟩
  ·exact⟨11,rfl,by decide,rfl⟩
  ·exact⟨12,rfl,by decide,rfl⟩
  ·exact⟨13,rfl,by decide,rfl⟩
 generalize Fj (ki:Int)=sg at*
 refine dD Tryz.func230 Tryz.ntmps230 rfl rfl ?_;refine Qt ?_;refine dY (out:=[zD,zD,zD,zD,tV [33],zD,zD,tV [69,88,32],tV [69,70,32],tV [69,71,32],zD,tV [65,88,32],tV [65,70,32],tV [65,71,32]]) rfl rfl rfl rfl ?_;refine Ri ?_;refine eJ rfl rfl rfl rfl b a ?_;refine PK ?_;exact be rfl rfl ⟨rfl,Ext.refl _⟩
theorem ja(w0:World)(k i x:Int):Rt Tryz.prog 272 [Py k,Py i,Py x].toArray w0 fun v w'=>v=.bool (gY k i x)∧w0=w':=by
 refine dF Tryz.func272 Tryz.ntmps272 rfl rfl ?_;unfold gY;refine Qj ?_;apply CW.cond rfl<;>intro h
 ·have a:x=5:=by simpa using h
  rw[OK a];clear h;refine PW ?_
  (refine eV rfl rfl (fun h=>?_) (fun h=>?_))
  ·refine Qb ?_
   exact be rfl rfl ⟨by rw[h];rfl,rfl⟩
  ·rw[h]
   clear h;refine Ri ?_
   (refine eV rfl rfl (fun h=>?_) (fun h=>?_))
   ·refine P2 ?_
    exact be rfl rfl ⟨by rw[h];rfl,rfl⟩
   ·refine Qb ?_
    exact be rfl rfl ⟨by rw[h];rfl,rfl⟩
 have c:¬x=5:=by simpa using h
 rw[OJ c];refine Qt ?_;apply CW.cond rfl<;>intro h
 ·have h:x=6:=by simpa using h
  rw[OK h];clear h;refine PW ?_
  (refine eV rfl rfl (fun h=>?_) (fun h=>?_))
  ·refine P2 ?_
   exact be rfl rfl ⟨by rw[h];rfl,rfl⟩
  ·refine Qb ?_
   exact be rfl rfl ⟨by rw[h];rfl,rfl⟩
 have b:¬x=6:=by simpa using h
 rw[OJ b];refine QU ?_;exact be rfl rfl ⟨rfl,rfl⟩
abbrev fF(w:World)(bw:Nat)(no:Option Addr)(len a:Nat)(b:Bool):Prop:=Blk w bw 258 [.slice no len a,.bool b]
def au(t:Ltl):Prop:=∀(w:World) (F:Nat→Prop) (bw:Nat) (ao:Option Addr) (cap:Nat) (no:Option Addr) (c:Nat) (a:List ByteArray) (b:Bool),Sl w F ao cap t.kids→Sl w F no c a→(∀k,F k→k<w.heap.size)→¬F bw→fF w bw no a.length c b→
 Rt Tryz.prog 157 [.pointer (some ⟨bw,0,none⟩),ym t.k t.n ao t.kids.length cap].toArray w fun v w'=>v=tV (H1 (zv a) t)∧fF w' bw no a.length c (b||gR (zv a) t)∧w.grownBy w' (some bw)
theorem ka{t:Ltl}{i:Nat}(hi:i<t.kids.length)(N:au t.kids[i])(V:t.kids[i].nodes≤1000)(w:World)(F:Nat→Prop)(bw:Nat)(ao:Option Addr)(cap:Nat)(no:Option Addr)(m:Nat)(c:List ByteArray)(b:Bool)
  (z:Sl w F ao cap t.kids) (hn:Sl w F no m c) (hF:∀k,F k→k<w.heap.size) (hnb:¬F bw) (K:fF w bw no c.length m b):
  Rt Tryz.prog 229 [Pz bw,ym t.k t.n ao t.kids.length cap,Py (i:Int)].toArray w fun v w'=>v=tV (wS (gY t.k i t.kids[i].k) (H1 (zv c) t.kids[i]))∧fF w' bw no c.length m (b||gR (zv c) t.kids[i])∧w.grownBy w' (some bw):=by
 have U:=z.len63;have R:=K.lt;have Q:=H2 (zx c) t.kids[i];obtain⟨kb,koff,rfl,g,X,D,A⟩:=z.el i hi;refine dF Tryz.func229 Tryz.ntmps229 rfl rfl ?_;refine PB ?_;refine dX rfl rfl rfl fun s G l=>?_
 have j:∀k,F k→k<s.heap.size:=fun k d=>MQ (hF k d) l.size
 have x:Sl s F _ cap t.kids:=z.mono (fun k d=>l.block k (hF k d)) fun _ h=>h
 have B:Sl s F no m c:=hn.mono (fun k d=>l.block k (hF k d)) fun _ h=>h
 refine QR ?_;refine eC rfl rfl rfl rfl rfl x hi Pg (fun u q P=>?_);obtain⟨ao',cap',rfl,O⟩:=P.ltl;skip;refine WL.call rfl rfl rfl (N s F bw ao' cap' no m c b O B j hnb (K.ext l)) ?_;rintro _ r ⟨rfl,H,f⟩
 have J:=G.kept f Po;have o:∀k,F k→k<r.heap.size:=fun k d=>MQ (j k d) f.size
 have C:r.heap[kb]?=w.heap[kb]?:=(f.block kb (j kb g) (fun e=>by cases e;exact hnb g)).trans (l.block kb (hF kb g));have E:Cells r kb (koff+i*sz Ltl) [Py t.kids[i].k]:=wU (Rep.mono A (fun k d=>(f.block k (j k d) (fun e=>by cases e;exact hnb d)).trans (l.block k (hF k d))) fun _ h=>h) (D.mono C);have S:w.grownBy r (some bw):=rK (l.grw (some bw)) f;generalize W:H1 (zv c) t.kids[i]=T at*
 refine Re ?_;refine dm (α:=Ltl) rfl rfl rfl rfl O7 O7 ?_;refine Ro ?_;refine QL.load (α:=Int) (F:=F) (y:=t.kids[i].k) rfl rfl rfl (o kb g) o (by rw[Kb];exact E) rfl ?_;rw[show Iq Int [Py t.kids[i].k]=Py t.kids[i].k from rfl];skip;refine QL.call rfl rfl rfl (fun w' h=>Rt.mono (ja w' t.k i t.kids[i].k) (fun v w'' I=>⟨I.1,I.2▸Ext.refl _⟩)) ?_;refine QL.nil (fun M L=>?_);have p:w.grownBy M (some bw):=rK S (L.grw (some bw));have n:=H.ext L;unfold wS;refine PC ?_;apply CW.cond rfl<;>intro h
 ·rw[OK h]
  refine QO ?_;exact be rfl rfl ⟨rfl,n,p⟩
 ·rw[OJ (by rw[h];decide)]
  refine Qm ?_;refine d9 (a:=[40]) (b:=T) rfl rfl rfl rfl Pd ?_;refine d9 (a:=[40]++T) (b:=[41]) rfl rfl rfl rfl Pe ?_;refine PK ?_;exact be rfl rfl ⟨rfl,n,p⟩
theorem kq(w:World){F:Nat→Prop}{no:Option Addr}{o bw:Nat}{a:List ByteArray}{b:Bool}(q:Sl w F no o a)(hF:∀k,F k→k<w.heap.size)(m:fF w bw no a.length o b)(n:Int)(z:0≤n):
  Rt Tryz.prog 228 [Pz bw,Py n].toArray w fun v w'=>v=tV (zv a n)∧fF w' bw no a.length o (b||zv a n==[])∧w.grownBy w' (some bw):=by
 have hn:=q.lift hF;have A:=hn.len63;refine dE Tryz.func228 Tryz.ntmps228 rfl rfl ?_;obtain⟨i,rfl⟩:=J7 z;refine Qt ?_;apply CW.cond rfl<;>intro h
 ·have d:(i:Int)=63:=by simpa using h
  refine QO ?_;refine be rfl rfl ?_;unfold zv;rw[OK d];exact⟨rfl,by rw[show(b||Gp==[])=b by simp[Gp]];exact m,World.grownBy.refl _ _⟩
 have d:¬(i:Int)=63:=by simpa using h
 have y:∀{w':World} {σ:Sg},zv a (i:Int)=[]→Ext w w'→True:=fun _ _=>trivial
 refine Rf ?_
 (refine dt rfl rfl (fun h=>?_) (fun h=>?_))
 ·have h1:(i:Int)≥(a.length:Int):=by simpa using h
  refine Rn ?_;refine QL.nil (fun s l=>?_);have c:=m.ext l;refine QW ?_;refine WL.st rfl rfl rfl c rfl rfl Pr (fun r j g=>?_);refine QO ?_;refine be rfl rfl ?_;unfold zv;rw[OJ d,OK h1];exact⟨rfl,by simpa using j,rK (l.grw _) g⟩
 have h1:¬(i:Int)≥(a.length:Int):=by simpa using h
 have hi:i<a.length:=by omega
 refine Rz ?_;refine dk rfl rfl rfl rfl rfl Pl hn hi Pg (fun t u f=>?_);obtain⟨rfl,_⟩:=f.str;skip;refine QL.call rfl rfl rfl (fun w' h=>cX w' a[i]) ?_;refine Rl ?_
 (refine dt rfl rfl (fun h=>?_) (fun h=>?_))
 ·refine Rn ?_
  refine QL.nil (fun s l=>?_);have c:=m.ext l;refine QW ?_;refine WL.st rfl rfl rfl c rfl rfl Pr (fun r j g=>?_);refine QO ?_;refine be rfl rfl ?_;unfold zv;rw[OJ d,OJ h1,OK (by rw[Kb,qM hi];simpa using h)];exact⟨rfl,by simpa using j,rK (l.grw _) g⟩
 have h2:¬yZ a[i]=false:=by simpa using h
 refine Rz ?_;refine dk rfl rfl rfl rfl rfl Pl hn hi Pg (fun t u f=>?_);obtain⟨rfl,_⟩:=f.str;skip;refine QL.call rfl rfl rfl (fun w' h=>Rt.mono (vR w' a[i] (hn.up h)) (fun v w'' x=>⟨x.1,x.2▸Ext.refl _⟩)) ?_;refine Rl ?_;refine QL.nil (fun s l=>?_);have c:=m.ext l;refine PC ?_;apply CW.cond rfl<;>intro h
 ·refine QW ?_
  refine WL.st rfl rfl rfl c rfl rfl Pr (fun r j g=>?_);refine QO ?_;refine be rfl rfl ?_;unfold zv;rw[OJ d,OJ h1,OJ (by rw[Kb,qM hi];exact h2),OK (by rw[Kb,qM hi,←vi];simpa using h)];exact⟨rfl,by simpa using j,rK (l.grw _) g⟩
 refine QI ?_;refine eC rfl rfl rfl rfl rfl (hn.up l) hi Pg (fun t u f=>?_);obtain⟨rfl,_⟩:=f.str;refine PK ?_;refine be rfl rfl ?_;have p:y0 a[i].data.toList=true:=by simpa using h2
 have e:zv a (i:Int)=a[i].data.toList:=by
  unfold zv;rw[OJ d,OJ h1,OJ (by rw[Kb,qM hi];exact h2),OJ (by rw[Kb,qM hi,←vi];simpa using h)];rw[Kb,qM hi]
 rw[e];exact⟨by rw[tV,HY],by rw[show(a[i].data.toList==[])=false from by rw[Oo];exact(za p).1,JX];exact c,l.grw _⟩
set_option maxHeartbeats 2000000 in
theorem kV:∀(m:Nat) (t:Ltl),t.nodes≤m→m≤1000→ShT wW t→au t
 |0,t,hm,_,_=>by have:=t.nodes_pos;omega
 |m+1,.mk k n kids,hm,hm1,hsh=>by
  intro w F bw ao cap no J g b hs hn hF hnb hb
  obtain⟨r,h0,h63,X⟩:=Fa hsh;simp only[Ltl.nodes]at hm
  have G:∀i (hi:i<kids.length),kids[i].nodes≤m:=fun i hi=>by have:=Ltl.nodes_kid kids _ (Lc hi);omega
  have ihk:∀i (hi:i<kids.length),au kids[i]:=fun i hi=>kV m kids[i] (G i hi) O7 (X _ (Lc hi))
  have C:∀i (hi:i<kids.length),(H1 (zv g) kids[i]).length≤8000:=fun i hi=>by have:=H2 (zx g) kids[i];have:=G i hi;omega
  have hbl:=hb.lt;simp only[yS]at hs
  simp only[yR,yT,yS];refine dE Tryz.func157 Tryz.ntmps157 rfl rfl ?_;refine PB ?_;refine dX rfl rfl rfl fun d hb3 Y=>?_
  have B:∀k,F k→k<d.heap.size:=fun k r=>MQ (hF k r) Y.size
  have hs1:Sl d F ao cap kids:=hs.mono (fun k r=>Y.block k (hF k r)) fun _ h=>h
  have hn1:Sl d F no J g:=hn.mono (fun k r=>Y.block k (hF k r)) fun _ h=>h
  have U:=hb.ext Y;have T:w.grownBy d (some bw):=Y.grw (some bw);have hl3:=hb3.lt;have I:∀K,wW K=2→k=K→∃x y,kids=[x,y]:=fun K hK e=>by
   have:kids.length=2:=by rw[e]at r;omega
   match kids,this with
   |[x,y],_=>exact⟨x,y,rfl⟩
  have hD:Ext d (drew d):=Ext.drew d;have hb3d:=hb3.ext hD;have P:=U.ext hD;have D:Sl (drew d) F ao cap kids:=hs1.mono (fun k r=>hD.block k (B k r)) fun _ h=>h
  have j:Sl (drew d) F no J g:=hn1.mono (fun k r=>hD.block k (B k r)) fun _ h=>h
  have V:∀k,F k→k<(drew d).heap.size:=B;have O:w.grownBy (drew d) (some bw):=rK T (hD.grw _);have hw3:w.heap.size≠bw:=by omega
  have s:∀{z Z:World},(z.heap[w.heap.size]?=(drew d).heap[w.heap.size]?∧d.heap.size≤z.heap.size∧∀k,F k→z.heap[k]?=(drew d).heap[k]?)→z.grownBy Z (some bw)→(Z.heap[w.heap.size]?=(drew d).heap[w.heap.size]?∧d.heap.size≤Z.heap.size∧∀k,F k→Z.heap[k]?=(drew d).heap[k]?):=
   fun {z Z} R hg=>⟨(hg.block _ O7 (fun e=>hw3 (Nn e))).trans R.1,MN R.2.1 hg.size,fun k r=>(hg.block k (MQ (B k r) R.2.1) (fun e=>by cases e;exact hnb r)).trans (R.2.2 k r)⟩
  have A:∀z:World,(fun z:World=>z.heap[w.heap.size]?=(drew d).heap[w.heap.size]?∧d.heap.size≤z.heap.size∧∀k,F k→z.heap[k]?=(drew d).heap[k]?) z→Blk z w.heap.size 35 [Py k,Py n,.slice ao kids.length cap]:=fun z R=>R.1.trans hb3d
  have v:(fun z:World=>z.heap[w.heap.size]?=(drew d).heap[w.heap.size]?∧d.heap.size≤z.heap.size∧∀k,F k→z.heap[k]?=(drew d).heap[k]?) (drew d):=⟨rfl,MM _,fun _ _=>rfl⟩;refine QX ?_;apply CW.cond rfl<;>intro h
  ·obtain rfl:k=1:=by simpa using h
   obtain rfl:kids=[]:=KC (by have:wW 1=0:=rfl;omega);refine PA ?_;exact be rfl rfl ⟨rfl,by simpa[gR,gS]using U,T⟩
  have k1:¬k=1:=by simpa using h
  clear h;refine Qt ?_;apply CW.cond rfl<;>intro h
  ·obtain rfl:k=2:=by simpa using h
   obtain rfl:kids=[]:=KC (by have:wW 2=0:=rfl;omega);refine PA ?_;exact be rfl rfl ⟨rfl,by simpa[gR,gS]using U,T⟩
  have k2:¬k=2:=by simpa using h
  clear h;refine Qt ?_;apply CW.cond rfl<;>intro h
  ·obtain rfl:k=3:=by simpa using h
   obtain rfl:kids=[]:=KC (by have:wW 3=0:=rfl;omega);refine Q1 ?_;refine WL.call rfl rfl rfl (kq d hn1 B U n h0) ?_;rintro _ Q ⟨rfl,p,o⟩
   refine P2 ?_;exact be rfl rfl ⟨by simp[H1,wh],by simpa[gR,gS]using p,rK T o⟩
  have k3:¬k=3:=by simpa using h
  clear h;refine Qt ?_;apply CW.cond rfl<;>intro h
  ·obtain rfl:k=5:=by simpa using h
   obtain⟨x,y,rfl⟩:=I 5 rfl rfl;have E:=C 0 O_;have H:=C 1 O_;simp only[K_,K9]at E H
   have hkx:=wT (gY 5 ((0:Nat):Int) x.k) (H1 (zv g) x);have hky:=wT (gY 5 ((1:Nat):Int) y.k) (H1 (zv g) y);refine P1 ?_;refine aF (fun z:World=>z.heap[w.heap.size]?=(drew d).heap[w.heap.size]?∧d.heap.size≤z.heap.size∧∀k,F k→z.heap[k]?=(drew d).heap[k]?) [(0,true),(1,true),(4,true),(5,true),(2,false),(3,true),(6,false),(7,true),(8,true)] mixed O8 v ?_;refine RE ?_;refine cg A rfl rfl rfl rfl rfl ?_;refine RE ?_;refine cg A rfl rfl rfl rfl rfl ?_;refine cr rfl (WL.call rfl rfl rfl (ka (t:=.mk 5 n [x,y]) (i:=0) (by simp[yS]) (ihk 0 O_) (by have:=G 0 O_;show x.nodes≤1000;simp only[K_]at this;omega) (drew d) F bw ao cap no J g b D j V hnb P) ?_);rintro _ Q ⟨rfl,p,o⟩
   have c:=s v o;refine WL.nil (a_ c ?_);simp only[yR,yS,K_]at p⊢
   refine bW (b:=[32,38,32]) rfl rfl rfl rfl rfl Pd ?_;refine cr rfl (WL.call rfl rfl rfl (ka (t:=.mk 5 n [x,y]) (i:=1) (by simp[yS]) (ihk 1 O_) (by have:=G 1 O_;show y.nodes≤1000;simp only[K9,K_]at this;omega) Q F bw ao cap no J g _ (D.mono c.2.2 fun _ h=>h) (j.mono c.2.2 fun _ h=>h) (fun k r=>MQ (B k r) c.2.1) hnb p) ?_);rintro _ w3 ⟨rfl,f,l⟩
   refine WL.nil (a_ (s c l) ?_);simp only[yR,yS,K9,K_]at f⊢
   refine bW rfl rfl rfl rfl rfl Pe ?_;refine RR ?_;refine Qk ?_;refine be rfl rfl ⟨by rw[txtC_bin.1];rfl,?_,rK (rK O o) l⟩;rw[gP O9];exact f
  have k5:¬k=5:=by simpa using h
  clear h;refine Qt ?_;apply CW.cond rfl<;>intro h
  ·obtain rfl:k=6:=by simpa using h
   obtain⟨x,y,rfl⟩:=I 6 rfl rfl;have E:=C 0 O_;have H:=C 1 O_;simp only[K_,K9]at E H
   have hkx:=wT (gY 6 ((0:Nat):Int) x.k) (H1 (zv g) x);have hky:=wT (gY 6 ((1:Nat):Int) y.k) (H1 (zv g) y);refine P1 ?_;refine aF (fun z:World=>z.heap[w.heap.size]?=(drew d).heap[w.heap.size]?∧d.heap.size≤z.heap.size∧∀k,F k→z.heap[k]?=(drew d).heap[k]?) [(0,true),(1,true),(4,true),(5,true),(2,false),(3,true),(6,false),(7,true),(8,true)] mixed O8 v ?_;refine RE ?_;refine cg A rfl rfl rfl rfl rfl ?_;refine RE ?_;refine cg A rfl rfl rfl rfl rfl ?_;refine cr rfl (WL.call rfl rfl rfl (ka (t:=.mk 6 n [x,y]) (i:=0) (by simp[yS]) (ihk 0 O_) (by have:=G 0 O_;show x.nodes≤1000;simp only[K_]at this;omega) (drew d) F bw ao cap no J g b D j V hnb P) ?_);rintro _ Q ⟨rfl,p,o⟩
   have c:=s v o;refine WL.nil (a_ c ?_);simp only[yR,yS,K_]at p⊢
   refine bW (b:=[32,47,32]) rfl rfl rfl rfl rfl Pd ?_;refine cr rfl (WL.call rfl rfl rfl (ka (t:=.mk 6 n [x,y]) (i:=1) (by simp[yS]) (ihk 1 O_) (by have:=G 1 O_;show y.nodes≤1000;simp only[K9,K_]at this;omega) Q F bw ao cap no J g _ (D.mono c.2.2 fun _ h=>h) (j.mono c.2.2 fun _ h=>h) (fun k r=>MQ (B k r) c.2.1) hnb p) ?_);rintro _ w3 ⟨rfl,f,l⟩
   refine WL.nil (a_ (s c l) ?_);simp only[yR,yS,K9,K_]at f⊢
   refine bW rfl rfl rfl rfl rfl Pe ?_;refine RR ?_;refine Qk ?_;refine be rfl rfl ⟨by rw[txtC_bin.2.1];rfl,?_,rK (rK O o) l⟩;rw[gP O9];exact f
  have k6:¬k=6:=by simpa using h
  clear h;refine Qt ?_;apply CW.cond rfl<;>intro h
  ·obtain rfl:k=10:=by simpa using h
   obtain⟨x,y,rfl⟩:=I 10 rfl rfl;have E:=C 0 O_;have H:=C 1 O_;simp only[K_,K9]at E H
   have N:∀z:World,(fun z:World=>z.heap[w.heap.size]?=(drew d).heap[w.heap.size]?∧d.heap.size≤z.heap.size∧∀k,F k→z.heap[k]?=(drew d).heap[k]?) z→∀b,F b→z.heap[b]?=(drew d).heap[b]?:=fun z R=>R.2.2
   refine P1 ?_;refine aF (fun z:World=>z.heap[w.heap.size]?=(drew d).heap[w.heap.size]?∧d.heap.size≤z.heap.size∧∀k,F k→z.heap[k]?=(drew d).heap[k]?) [(0,true),(1,true),(2,true),(3,true),(4,true),(8,true),(9,true),(10,true),(11,true),(12,true),(5,false),(6,true),(7,true),(13,false),(14,true),(15,true),(16,true)] mixed O8 v ?_;refine RI ?_;refine cm A rfl rfl rfl rfl rfl ?_;refine bY (w:=drew d) (k:=0) N rfl rfl rfl rfl rfl rfl rfl D O_ Pg (fun u q W=>?_);obtain⟨ao0,cap0,rfl,M⟩:=W.ltl;refine RI ?_;refine cm A rfl rfl rfl rfl rfl ?_;refine bY (w:=drew d) (k:=1) N rfl rfl rfl rfl rfl rfl rfl D O_ Pg (fun u q W=>?_);obtain⟨ao1,cap1,rfl,L⟩:=W.ltl;simp only[K9,K_]at M L⊢
   refine cr rfl (WL.call rfl rfl rfl (ihk 0 O_ (drew d) F bw ao0 cap0 no J g b M j V hnb P) ?_);rintro _ Q ⟨rfl,p,o⟩
   have c:=s v o;refine WL.nil (a_ c ?_);simp only[K_]at p⊢
   refine bW (a:=[69,32,91]) rfl rfl rfl rfl rfl Pd ?_;refine bW (b:=[32,85,32]) rfl rfl rfl rfl rfl Pe ?_;refine cr rfl (WL.call rfl rfl rfl (ihk 1 O_ Q F bw ao1 cap1 no J g _ (L.mono c.2.2 fun _ h=>h) (j.mono c.2.2 fun _ h=>h) (fun k r=>MQ (B k r) c.2.1) hnb p) ?_);rintro _ w3 ⟨rfl,f,l⟩
   refine WL.nil (a_ (s c l) ?_);simp only[K9,K_]at f⊢
   refine bW rfl rfl rfl rfl rfl Pe ?_;refine bW (b:=[93]) rfl rfl rfl rfl rfl Pe ?_;refine RR ?_;refine Qk ?_;refine be rfl rfl ⟨by rw[txtC_bin.2.2.1],?_,rK (rK O o) l⟩;rw[gP O9];exact f
  have k10:¬k=10:=by simpa using h
  clear h;refine Qt ?_;apply CW.cond rfl<;>intro h
  ·obtain rfl:k=14:=by simpa using h
   obtain⟨x,y,rfl⟩:=I 14 rfl rfl;have E:=C 0 O_;have H:=C 1 O_;simp only[K_,K9]at E H
   have N:∀z:World,(fun z:World=>z.heap[w.heap.size]?=(drew d).heap[w.heap.size]?∧d.heap.size≤z.heap.size∧∀k,F k→z.heap[k]?=(drew d).heap[k]?) z→∀b,F b→z.heap[b]?=(drew d).heap[b]?:=fun z R=>R.2.2
   refine P1 ?_;refine aF (fun z:World=>z.heap[w.heap.size]?=(drew d).heap[w.heap.size]?∧d.heap.size≤z.heap.size∧∀k,F k→z.heap[k]?=(drew d).heap[k]?) [(0,true),(1,true),(2,true),(3,true),(4,true),(8,true),(9,true),(10,true),(11,true),(12,true),(5,false),(6,true),(7,true),(13,false),(14,true),(15,true),(16,true)] mixed O8 v ?_;refine RI ?_;refine cm A rfl rfl rfl rfl rfl ?_;refine bY (w:=drew d) (k:=0) N rfl rfl rfl rfl rfl rfl rfl D O_ Pg (fun u q W=>?_);obtain⟨ao0,cap0,rfl,M⟩:=W.ltl;refine RI ?_;refine cm A rfl rfl rfl rfl rfl ?_;refine bY (w:=drew d) (k:=1) N rfl rfl rfl rfl rfl rfl rfl D O_ Pg (fun u q W=>?_);obtain⟨ao1,cap1,rfl,L⟩:=W.ltl;simp only[K9,K_]at M L⊢
   refine cr rfl (WL.call rfl rfl rfl (ihk 0 O_ (drew d) F bw ao0 cap0 no J g b M j V hnb P) ?_);rintro _ Q ⟨rfl,p,o⟩
   have c:=s v o;refine WL.nil (a_ c ?_);simp only[K_]at p⊢
   refine bW (a:=[65,32,91]) rfl rfl rfl rfl rfl Pd ?_;refine bW (b:=[32,85,32]) rfl rfl rfl rfl rfl Pe ?_;refine cr rfl (WL.call rfl rfl rfl (ihk 1 O_ Q F bw ao1 cap1 no J g _ (L.mono c.2.2 fun _ h=>h) (j.mono c.2.2 fun _ h=>h) (fun k r=>MQ (B k r) c.2.1) hnb p) ?_);rintro _ w3 ⟨rfl,f,l⟩
   refine WL.nil (a_ (s c l) ?_);simp only[K9,K_]at f⊢
   refine bW rfl rfl rfl rfl rfl Pe ?_;refine bW (b:=[93]) rfl rfl rfl rfl rfl Pe ?_;refine RR ?_;refine Qk ?_;refine be rfl rfl ⟨by rw[txtC_bin.2.2.2],?_,rK (rK O o) l⟩;rw[gP O9];exact f
  have k14:¬k=14:=by simpa using h
  clear h;have S:(k=4∨k=7∨k=8∨k=9∨k=11∨k=12∨k=13)∧kids.length=1:=by
   rcases wX r with⟨_,e⟩|⟨Y,e⟩|⟨_,e⟩
   ·omega
   ·exact⟨e,Y⟩
   ·omega
  obtain⟨S,hk1⟩:=S;obtain⟨x,rfl⟩:=Lo.1 hk1;have E:=C 0 O_;simp only[K_]at E
  have hkx:=wT (gY k ((0:Nat):Int) x.k) (H1 (zv g) x);have hsl:(Fj k).length≤3:=by unfold Fj;(repeat' split)<;>decide
  refine Qr ?_;refine aF (fun z:World=>z.heap[w.heap.size]?=(drew d).heap[w.heap.size]?∧d.heap.size≤z.heap.size∧∀k,F k→z.heap[k]?=(drew d).heap[k]?) [(0,true),(1,true),(3,true),(4,true),(2,false),(5,false),(6,true),(7,true)] mixed O8 v ?_;refine RF ?_;refine cm A rfl rfl rfl rfl rfl ?_;refine RE ?_;refine cg A rfl rfl rfl rfl rfl ?_;refine cr rfl (WL.call rfl rfl rfl (kU (drew d) S) ?_);rintro _ Q ⟨rfl,e2⟩
  have c:=s v (e2.grw (some bw));refine WL.nil (a_ c ?_);refine cr rfl (WL.call rfl rfl rfl (ka (t:=.mk k n [x]) (i:=0) (by simp[yS]) (ihk 0 O_) (by have:=G 0 O_;show x.nodes≤1000;simp only[K_]at this;omega) Q F bw ao cap no J g b (D.mono c.2.2 fun _ h=>h) (j.mono c.2.2 fun _ h=>h) (fun k r=>MQ (B k r) c.2.1) hnb (P.ext e2)) ?_);rintro _ w3 ⟨rfl,f,l⟩
  refine WL.nil (a_ (s c l) ?_);simp only[yR,yS,K_]at f⊢
  refine bW rfl rfl rfl rfl rfl O7 ?_;refine RR ?_;refine PQ ?_;refine be rfl rfl ⟨by rw[H3 S];rfl,?_,rK (rK O (e2.grw _)) l⟩;rw[gO k3];exact f
theorem kR(w0:World){ao no:Option Addr}{cap i:Nat}{t:Ltl}{a:List ByteArray}(p:Sl w0 (c7 w0) ao cap t.kids)(hn:Sl w0 (c7 w0) no i a):
  Rt Tryz.prog 91 [ym t.k t.n ao t.kids.length cap,.slice no a.length i].toArray w0 fun v w'=>v=.tuple ⟨[tV (Cm t a).1,Py (Cm t a).2]⟩∧Ext w0 w':=by
 refine dE Tryz.func91 Tryz.ntmps91 rfl rfl ?_;unfold Cm;refine PB ?_;refine dX rfl rfl rfl fun y c u=>?_
 refine Q4 ?_;refine WL.call rfl rfl rfl (kW y (p.up u) Pl) ?_;rintro _ o ⟨rfl,s⟩
 have c:=c.ext s;have f:=u.trans s;refine Qt ?_;apply CW.cond rfl<;>intro h
 ·rw[OK (by simpa using h)]
  refine QO ?_;exact bf rfl rfl rfl ⟨rfl,f⟩
 have q:(jl t 1 0).1=0:=by simpa using h
 rw[OJ (by simpa using h)];obtain⟨j,z⟩:=js t 1 0 q;have A:=(jq t 1 0 q).2;refine Qm ?_;refine WL.build rfl rfl rfl rfl ?_;refine dX rfl rfl rfl fun x d r=>?_
 have c:=c.ext r;have b:=f.trans r;refine Q4 ?_;refine WL.call rfl rfl rfl (kV t.nodes t Pu O7 j x (c7 w0) o.heap.size ao cap no i a false (p.at b) (hn.at b) (fun k l=>MQ l b.size) (fun l=>by have h1:o.heap.size<w0.heap.size:=l;have:=f.size;omega) d) ?_;rintro _ w ⟨rfl,n,m⟩
 have e:Ext w0 w:=b.grown m b.size (fun g B=>by cases B;exact f.size);rw[JQ]at n
 refine P9 ?_;apply CW.cond rfl<;>intro h
 ·rw[OK h]
  refine QO ?_;exact bf rfl rfl rfl ⟨rfl,e⟩
 ·rw[OJ (by rw[h];decide)]
  refine QU ?_;exact bf rfl rfl rfl ⟨rfl,e⟩
abbrev DD(r:cJ)(lo:Option Addr)(a:Nat)(b:Option Addr)(c:Nat):Value:=.agg [.string r.1,.int .i64 r.2.1,
 .int .i64 r.2.2.1.1,.int .i64 r.2.2.1.2.1,.int .i64 r.2.2.1.2.2.1,.int .i64 r.2.2.1.2.2.2.1,.int .i64 r.2.2.1.2.2.2.2.1,.int .i64 r.2.2.1.2.2.2.2.2.1,.int .i64 r.2.2.1.2.2.2.2.2.2,
 .int .i64 r.2.2.2.1.1,.int .i64 r.2.2.2.1.2.1,.int .i64 r.2.2.2.1.2.2.1,.int .i64 r.2.2.2.1.2.2.2,
 .int .i64 r.2.2.2.2.1.k,.int .i64 r.2.2.2.2.1.n,.slice lo r.2.2.2.2.1.kids.length a,.int .i64 r.2.2.2.2.2.k,.int .i64 r.2.2.2.2.2.n,.slice b r.2.2.2.2.2.kids.length c].toArray
theorem Rd.rule{w:World}{F:Nat→Prop}{v:Value}{r:cJ}(h:Rd w F v r):∃lo a b c,v=DD r lo a b c∧Sl w F lo a r.2.2.2.2.1.kids∧Sl w F b c r.2.2.2.2.2.kids∧r.1.size≤maxLen:=by
 obtain⟨c1,d1,rfl,h1,k1⟩:=h.pr;obtain⟨c2,d2,rfl,h2,k2⟩:=C8 k1;obtain⟨c3,d3,rfl,h3,k3⟩:=C8 k2;obtain⟨c4,d4,rfl,h4,k4⟩:=C8 k3;obtain⟨N,d5,rfl,t,k5⟩:=C8 k4;obtain⟨lo,a,rfl,q⟩:=RdT.sl t;obtain⟨b,c,rfl,s⟩:=RdT.sl k5;obtain⟨p1,M,rfl,p,g1⟩:=C8 h3;obtain⟨p2,L,rfl,o,g2⟩:=C8 g1;obtain⟨D,K,rfl,n,g3⟩:=C8 g2;obtain⟨C,J,rfl,m,g4⟩:=C8 g3;obtain⟨B,I,rfl,l,g5⟩:=C8 g4;obtain⟨A,H,rfl,k,u⟩:=C8 g5;obtain⟨z,G,rfl,j,f⟩:=C8 h4;obtain⟨y,E,rfl,i,e⟩:=C8 f;obtain⟨x,f3,rfl,g,d⟩:=C8 e;refine⟨lo,a,b,c,?_,q,s,h1.2⟩;rw[h1.1,C3 h2,C3 p,C3 o,C3 n,C3 m,C3 l,C3 k,C3 u,C3 j,C3 i,C3 g,C3 d];rfl
instance uq:IsFd Tryz.prog 37 0 0:=IsFd.of O8
instance ur:IsFd Tryz.prog 37 1 1:=IsFd.of O8
instance ut:IsFd Tryz.prog 37 2 2:=IsFd.of O8
instance uu:IsFd Tryz.prog 37 3 9:=IsFd.of O8
instance uv:IsFd Tryz.prog 37 4 13:=IsFd.of O8
instance uw:IsFd Tryz.prog 37 5 16:=IsFd.of O8
instance ux:IsC Tryz.prog 37 19 true:=IsC.of O8 NY rfl
theorem Dx(w0:World){no:Option Addr}{l:Nat}{a:List ByteArray}(hn:Sl w0 (c7 w0) no l a)(n:Int)(s:Bool):
  Rt Tryz.prog 93 [Py n,.slice no a.length l,.bool s].toArray w0 fun v w'=>v=tV (Dz a n s)∧Ext w0 w':=by
 have t:=hn.len63;refine dF Tryz.func93 Tryz.ntmps93 rfl rfl ?_;have b:(n<0∨n≥(a.length:Int)∨n≥63)→¬(n=63∧s=true)→Dz a n s=[]:=fun h q=>by
  unfold Dz;rw[OJ q,OK];rcases h with h|h|h
  ·exact .inl h
  ·exact .inr (.inl h)
  ·exact .inr (.inr (.inl h))
 refine Qt ?_
 (refine eV rfl rfl (fun h=>?_) (fun h=>?_))
 ·have e:n=63:=by simpa using h
  cases s with
  |true=>
   refine Q6 ?_;exact be rfl rfl ⟨by unfold Dz;rw[OK ⟨e,rfl⟩];rfl,Ext.refl _⟩
  |false=>
   rw[b (.inr (.inr O7)) O_];have hd:decide (n<0)=false:=Oz O7;have o:decide (n≥63)=true:=OC O7;refine Qv ?_;rw[hd];refine Rx ?_
   (refine eV rfl rfl (fun h=>?_) (fun h=>?_))
   ·refine Q6 ?_
    exact be rfl rfl ⟨rfl,Ext.refl _⟩
   ·refine Ri ?_
    rw[o];refine Q6 ?_;exact be rfl rfl ⟨rfl,Ext.refl _⟩
 have e:¬n=63:=by simpa using h
 have d:¬(n=63∧s=true):=fun h=>e h.1
 refine Qh ?_
 (refine eV rfl rfl (fun h=>?_) (fun h=>?_))
 ·rw[b (.inl (by simpa using h)) d]
  refine Q6 ?_;exact be rfl rfl ⟨rfl,Ext.refl _⟩
 have p:¬n<0:=by simpa using h
 obtain⟨i,rfl⟩:=J7 (show 0≤n by omega);clear h;refine Rx ?_
 (refine eV rfl rfl (fun h=>?_) (fun h=>?_))
 ·rw[b (.inr (.inl (by simpa using h))) d]
  refine Q6 ?_;exact be rfl rfl ⟨rfl,Ext.refl _⟩
 have h1:¬(i:Int)≥(a.length:Int):=by simpa using h
 have hi:i<a.length:=by omega
 clear h;refine Ri ?_
 (refine eV rfl rfl (fun h=>?_) (fun h=>?_))
 ·rw[b (.inr (.inr (by simpa using h))) d]
  refine Q6 ?_;exact be rfl rfl ⟨rfl,Ext.refl _⟩
 have h2:¬(i:Int)≥63:=by simpa using h
 clear h b;have g:a.getD (i:Int).toNat ⟨#[]⟩=a[i]:=by rw[Kb,qM hi]
 unfold Dz;rw[OJ d,g];refine Ri ?_;refine eC rfl rfl rfl rfl rfl hn hi Pg (fun j k c=>?_);obtain⟨rfl,_⟩:=c.str;skip;refine WL.call rfl rfl rfl (cX w0 a[i]) ?_;rintro _ m ⟨rfl,f⟩
 refine Ri ?_
 (refine eV rfl rfl (fun h=>?_) (fun h=>?_))
 ·rw[OK (.inr (.inr (.inr (.inl (by simpa using h)))))]
  refine Q6 ?_;exact be rfl rfl ⟨rfl,f⟩
 have h3:¬yZ a[i]=false:=by simpa using h
 clear h;refine Ri ?_;refine eC rfl rfl rfl rfl rfl (hn.up f) hi Pg (fun j k c=>?_);obtain⟨rfl,_⟩:=c.str;skip;refine WL.call rfl rfl rfl (vR m a[i] (hn.up f)) ?_;rintro _ r ⟨rfl,rfl⟩
 rw[vi];refine PN ?_;apply CW.cond rfl<;>intro h
 ·rw[OK (.inr (.inr (.inr (.inr (by simpa using h)))))]
  refine QO ?_;exact be rfl rfl ⟨rfl,f⟩
 have h4:¬vh a a[i].data.toList≠(i:Int):=by simpa using h
 rw[OJ (by simp only[OO];exact⟨p,h1,h2,h3,h4⟩)];refine Qm ?_;refine eC rfl rfl rfl rfl rfl (hn.up f) hi Pg (fun j k c=>?_);obtain⟨rfl,_⟩:=c.str;refine PK ?_;exact be rfl rfl ⟨by rw[tV,HY],f⟩
theorem ga(w0:World)(k:Int):Rt Tryz.prog 89 [Py k].toArray w0 fun v w'=>v=.bool (f_ k)∧w0=w':=by
 refine dD Tryz.func89 Tryz.ntmps89 rfl rfl ?_;refine QO ?_;exact be rfl rfl ⟨rfl,rfl⟩
theorem DB(w0:World){no:Option Addr}{b d c:Nat}{a:List ByteArray}{s:Bool}(hn:Sl w0 (c7 w0) no b a)(h3:Blk w0 d 66 [.slice no a.length b])(g:Blk w0 c 4 [.bool s])(n:Int):
  Rt Tryz.prog 92 [Py n,Pz d,Pz c].toArray w0 fun v w'=>v=.bool (Dz a n s==[])∧Ext w0 w':=by
 refine dF Tryz.func92 Tryz.ntmps92 rfl rfl ?_;refine Qa ?_;refine WL.call rfl rfl rfl (Dx w0 hn n s) ?_;rintro _ f ⟨rfl,e⟩
 refine PK ?_;exact be rfl rfl ⟨by rw[show(HW (Dz a n s)).data.toList=Dz a n s from HZ _],e⟩
set_option maxHeartbeats 1000000 in
theorem gJ(w0:World)(pt:cH):Rt Tryz.prog 87 [BJ pt].toArray w0 fun v w'=>(∃x u,v=.tuple ⟨[x,u]⟩∧Own w' w0.heap.size 3 cZ x (Bi pt)∧Own w' w0.heap.size 3 cZ u (Ez pt))∧Ext w0 w':=by
 obtain⟨k,sc,P,S,Q,R,c⟩:=pt;refine dD Tryz.func87 Tryz.ntmps87 rfl rfl ?_;refine PB ?_;refine dX rfl rfl rfl fun t y r=>?_
 refine QR ?_;refine WL.lit (F:=cZ) (ys:=[P]) rfl rfl rfl rfl rfl ⟨Rd.mkInt _ _ _,trivial⟩ (by show 1*1≤16777216;decide) Pj (fun j ho2 l=>?_);have q:Ext t j:=(JI _ _).grown l Pu Pn;have f:=y.ext q;have a:=r.trans q;have s:=r.size;generalize n:Value.slice (some ⟨t.heap.size,0,none⟩) 1 1=ov at*
 refine Ri ?_;apply WL.nil;apply bz;refine aB (S:=Value) (fun v=>[(1,Pz w0.heap.size),(2,v),(3,.slice none 0 0)])
  (fun v w=>Own w w0.heap.size 3 cZ v (Bi (k,sc,P,S,Q,R,c))∧Blk w w0.heap.size 27 [Py k,Py sc,Py P,Py S,Py Q,Py R,Py c]∧Ext w0 w) ?_ ?_
 ·refine Q1 ?_
  have i:(k=5∨k=6)→Bi (k,sc,P,S,Q,R,c)=[S,P]:=fun h=>by unfold Bi;rw[OK h]
  have o:¬(k=5∨k=6)→Bi (k,sc,P,S,Q,R,c)=[P]:=fun h=>by unfold Bi;rw[OJ h]
  (refine eV rfl rfl (fun h=>?_) (fun h=>?_))
  ·refine Q7 ?_
   refine WL.lit (F:=cZ) (ys:=[S,P]) rfl rfl rfl rfl rfl ⟨Rd.mkInt _ _ _,Rd.mkInt _ _ _,trivial⟩ (by show 2*1≤16777216;decide) Pj (fun g ho3 d=>?_);have e:Ext j g:=(JI _ _).grown d Pu Pn;refine Q0 ?_;exact aU _ O6 ⟨by rw[i (.inl (by simpa using h))];exact ho3.low a.size,f.ext e,a.trans e⟩
  ·have A:¬k=5:=by simpa using h
   refine QM ?_;apply CW.cond rfl<;>intro h
   ·have z:k=6:=by simpa using h
    refine QG ?_;refine WL.lit (F:=cZ) (ys:=[S,P]) rfl rfl rfl rfl rfl ⟨Rd.mkInt _ _ _,Rd.mkInt _ _ _,trivial⟩ (by show 2*1≤16777216;decide) Pj (fun g ho3 d=>?_);have e:Ext j g:=(JI _ _).grown d Pu Pn;refine Q0 ?_;exact aU _ O6 ⟨by rw[i (.inr z)];exact ho3.low a.size,f.ext e,a.trans e⟩
   ·have z:¬k=6:=by simpa using h
    refine PD ?_;exact aU ov O6 ⟨by rw[o O7];exact ho2.low s,f,a⟩
 clear ho2 l f a q n ov y r s;rintro ov j ⟨ho2,f,a⟩
 refine aB (S:=Value) (fun v=>[(2,ov),(3,v)]) (fun v w=>Own w w0.heap.size 3 cZ ov (Bi (k,sc,P,S,Q,R,c))∧Own w w0.heap.size 3 cZ v (Ez (k,sc,P,S,Q,R,c))∧Ext w0 w) ?_ ?_
 ·refine QX ?_
  apply CW.cond rfl<;>intro h
  ·have h2:sc=2:=by simpa using h
   refine QG ?_;refine WL.lit (F:=cZ) (ys:=[R]) rfl rfl rfl rfl rfl ⟨Rd.mkInt _ _ _,trivial⟩ (by show 1*1≤16777216;decide) Pj (fun g ho3 d=>?_);have e:Ext j g:=(JI _ _).grown d Pu Pn;refine Q0 ?_;exact aU _ O6 ⟨ho2.extN e,by unfold Ez;rw[OK h2];exact ho3.low a.size,a.trans e⟩
  have h2:¬sc=2:=by simpa using h
  clear h;refine Qt ?_;apply CW.cond rfl<;>intro h
  ·have h3:sc=3:=by simpa using h
   refine QG ?_;refine WL.lit (F:=cZ) (ys:=[Q]) rfl rfl rfl rfl rfl ⟨Rd.mkInt _ _ _,trivial⟩ (by show 1*1≤16777216;decide) Pj (fun g ho3 d=>?_);have e:Ext j g:=(JI _ _).grown d Pu Pn;refine Q0 ?_;exact aU _ O6 ⟨ho2.extN e,by unfold Ez;rw[OJ h2,OK h3];exact ho3.low a.size,a.trans e⟩
  have h3:¬sc=3:=by simpa using h
  clear h;refine az [(1,Pz w0.heap.size),(2,ov),(3,.slice none 0 0),(32,.bool (decide (sc=4∨sc=5)))] ?_ ?_
  ·refine Qt ?_
   apply CW.cond rfl<;>intro h
   ·refine PD ?_
    refine aS ⟨rfl,rfl,rfl,?_,trivial⟩;refine Ox (fun b=>some (Value.bool b)) ?_;have:sc=4:=by simpa using h
    simp[this]
   ·refine Qq ?_
    refine aS ⟨rfl,rfl,rfl,?_,trivial⟩;refine Ox (fun b=>some (Value.bool b)) ?_;have:¬sc=4:=by simpa using h
    rw[JN];simp[this]
  apply CW.cond rfl<;>intro h
  ·have h4:sc=4∨sc=5:=by simpa using h
   refine QG ?_;refine WL.lit (F:=cZ) (ys:=[Q,R]) rfl rfl rfl rfl rfl ⟨Rd.mkInt _ _ _,Rd.mkInt _ _ _,trivial⟩ (by show 2*1≤16777216;decide) Pj (fun g ho3 d=>?_);have e:Ext j g:=(JI _ _).grown d Pu Pn;refine Q0 ?_;exact aU _ O6 ⟨ho2.extN e,by unfold Ez;rw[OJ h2,OJ h3,OK h4];exact ho3.low a.size,a.trans e⟩
  ·have h4:¬(sc=4∨sc=5):=by simpa using h
   refine QZ ?_;exact aU _ O6 ⟨ho2,by unfold Ez;rw[OJ h2,OJ h3,OJ h4];exact Own.nil,a⟩
 rintro v g ⟨ho3,m,p⟩
 refine QO ?_;exact bf rfl rfl rfl ⟨⟨_,_,rfl,ho3,m⟩,p⟩
end Go.Proofs.YtfpjecjadlgdcaaGreatDoor
