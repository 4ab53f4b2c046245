import Derived.Test.YtodmkmobdmcfbaaGreatDoorPtTopNot11
set_option linter.unusedVariables false
set_option linter.unusedSimpArgs false
set_option linter.defProp false
namespace Go.Proofs.YtodmkmobdmcfbaaGreatDoor
open Go.RowKit
def H6(out:List Bool):Nat:=out.countP fun b=>!b
theorem H7{out:List Bool}{k:Nat}(c:k<out.length)(h:out.getD k false=false):H6 (out.set k true)+1=H6 out:=by
 have a:out[k]=false:=by rw[←IH c];exact h
 unfold H6;rw[Ko c,a];have:0<out.countP fun b=>!b:=Km.2 ⟨false,a▸K8 _,rfl⟩
 simp only[JO,JP,OF,JK,OC];omega
theorem turnE_mem{nx:bU}{c k:Nat}:(k:Int)∈(Hk nx).getD c []↔c<nx.length∧Eg nx k c:=by
 by_cases b:c<nx.length
 ·have a:c<(Hk nx).length:=by rw[Hl];exact b
  rw[II a,Ho a,LP];constructor
  ·rintro⟨x,d,e⟩
   obtain rfl:x=k:=by omega
   obtain⟨h1,h2⟩:=LM.1 d;exact⟨b,by unfold Eg;simpa using h2⟩
  ·rintro⟨_,h⟩
   refine⟨k,LM.2 ⟨LU.2 h.lt1,?_⟩,rfl⟩;unfold Eg at h;simpa using h
 ·constructor
  ·intro h
   rw[KN,KU (by rw[Hl];omega)]at h
   cases h
  ·exact fun h=>absurd h.1 b
structure EuI(nx:bU)(A B:Nat→Prop)(out:List Bool)(todo:List Int)(cur:Option (Nat×Nat)):Prop where
 len:out.length=nx.length
 td:∀x∈todo,0≤x∧x<nx.length∧out.getD x.toNat false=true
 snd:∀c,c<nx.length→out.getD c false=true→EuP (Eg nx) A B c
 bas:∀c,c<nx.length→B c→out.getD c false=true
 cls:∀c,c<nx.length→out.getD c false=true→(c:Int)∈todo∨(∀k,Eg nx k c→A k→out.getD k false=true)∨∃j,cur=some (c,j)∧∀k:Nat,(k:Int)∈((Hk nx).getD c []).take j→A k→out.getD k false=true
 cnt:todo.length+H6 out≤nx.length
section
variable {nx:bU}{A B:Nat→Prop}{out:List Bool}{todo:List Int}
theorem EuI.done(a:okG nx)(h:EuI nx A B out [] none):out=iG nx.length (EuP (Eg nx) A B):=by
 refine iK h.len fun c d=>⟨h.snd c d,fun f=>?_⟩
 induction f with
 |here g=>exact h.bas _ d g
 |@step n m h1 h2 h3 e=>
  have b:=h2.lt a;rcases h.cls m b (e b)with h4|h4|⟨j,h4,_⟩
  ·cases h4
  ·exact h4 n h2 h1
  ·cases h4
theorem EuI.pop{c:Nat}{r:List Int}(h:EuI nx A B out ((c:Int)::r) none):EuI nx A B out r (some (c,0)):=by
 refine⟨h.len,fun x b=>h.td x (by simp[b]),h.snd,h.bas,fun c' a d=>?_,by have:=h.cnt;simp at this;omega⟩;rcases h.cls c' a d with h4|h4|⟨j,h4,_⟩
 ·rcases LI.1 h4 with h4|h4
  ·exact .inr (.inr ⟨0,by rw[show c'=c by omega],fun k e=>by simp at e⟩)
  ·exact .inl h4
 ·exact .inr (.inl h4)
 ·cases h4
theorem EuI.rowEnd{c j:Nat}(h:EuI nx A B out todo (some (c,j)))(f:((Hk nx).getD c []).length≤j):EuI nx A B out todo none:=by
 refine⟨h.len,h.td,h.snd,h.bas,fun c' a d=>?_,h.cnt⟩;rcases h.cls c' a d with h4|h4|⟨i,h4,b⟩
 ·exact .inl h4
 ·exact .inr (.inl h4)
 ·obtain⟨rfl,rfl⟩:=Nl (Nj h4)
  rw[Mg f]at b
  exact .inr (.inl fun k e g=>b k (turnE_mem.2 ⟨a,e⟩) g)
theorem EuI.skip{c j k:Nat}(h:EuI nx A B out todo (some (c,j)))(g:j<((Hk nx).getD c []).length)(f:((Hk nx).getD c [])[j]=(k:Int))(i:A k→out.getD k false=true):EuI nx A B out todo (some (c,j+1)):=by
 refine⟨h.len,h.td,h.snd,h.bas,fun c' d e=>?_,h.cnt⟩;rcases h.cls c' d e with h4|h4|⟨m,h4,l⟩
 ·exact .inl h4
 ·exact .inr (.inl h4)
 ·obtain⟨rfl,rfl⟩:=Nl (Nj h4)
  refine .inr (.inr ⟨j+1,rfl,fun k' a b=>?_⟩);rw[Md,KT g,f]at a
  rcases LF.1 a with a|a
  ·exact l k' a b
  ·have:k'=k:=by have:=LV.1 a;omega
   subst this;exact i b
theorem EuI.mark{c j k:Nat}(u:c<nx.length)(t:out.getD c false=true)(h:EuI nx A B out todo (some (c,j)))(p:j<((Hk nx).getD c []).length)(o:((Hk nx).getD c [])[j]=(k:Int))(w:A k)(s:out.getD k false=false):
  EuI nx A B (out.set k true) (todo++[(k:Int)]) (some (c,j+1))∧k<nx.length:=by
 have m:(k:Int)∈(Hk nx).getD c []:=o▸K8 p;obtain⟨_,r⟩:=turnE_mem.1 m;have d:=r.lt1;have g:∀i,(out.set k true).getD i false=if k=i then true else out.getD i false:=fun i=>qU (by rw[h.len];exact d)
 have up:∀i,out.getD i false=true→(out.set k true).getD i false=true:=fun i hi=>by rw[g];split;rfl;exact hi
 refine⟨⟨by simp[h.len],fun x f=>?_,fun i hi a=>?_,fun i hi v=>up i (h.bas i hi v),fun i hi a=>?_,?_⟩,d⟩
 ·rcases LF.1 f with f|f
  ·obtain⟨h1,h2,h3⟩:=h.td x f
   exact⟨h1,h2,up _ h3⟩
  ·rw[LV]at f;subst f
   exact⟨by omega,by omega,by rw[g];simp⟩
 ·rw[g]at a
  split at a
  ·rename_i e;subst e;exact .step w r (h.snd c u t)
  ·exact h.snd i hi a
 ·rw[g]at a
  split at a
  ·rename_i e;subst e;exact .inl (LH _ O3)
  ·rcases h.cls i hi a with h4|h4|⟨z,h4,y⟩
   ·exact .inl (LG _ h4)
   ·exact .inr (.inl fun q hq l=>up q (h4 q hq l))
   ·obtain⟨rfl,rfl⟩:=Nl (Nj h4)
    refine .inr (.inr ⟨j+1,rfl,fun k' b n=>?_⟩);rw[Md,KT p,o]at b
    rcases LF.1 b with b|b
    ·exact up _ (y k' b n)
    ·have:k'=k:=by have:=LV.1 b;omega
     subst this;rw[g];simp
 ·have:=H7 (out:=out) (by rw[h.len];exact d) s
  have:=h.cnt;rw[Lg];simp;omega
end
def Hg(out:List Bool)(i:Nat):List Int:=((List.range i).filter fun c=>out.getD c false).map fun c:Nat=>(c:Int)
theorem Hi{out:List Bool}{i:Nat}:Hg out (i+1)=Hg out i++if out.getD i false=true then [(i:Int)]else []:=by
 unfold Hg;rw[L7,KA,Lz]
 congr 1
 cases h:out.getD i false with
 |false=>rw[KC (by rw[h];decide)];rfl
 |true=>rw[KD (by rw[h])];rfl
theorem trueL_mem{out:List Bool}{i c:Nat}:(c:Int)∈Hg out i↔c<i∧out.getD c false=true:=by
 unfold Hg;rw[LP];constructor
 ·rintro⟨x,a,e⟩
  obtain rfl:x=c:=by omega
  obtain⟨h1,h2⟩:=LM.1 a;exact⟨LU.1 h1,h2⟩
 ·rintro⟨h1,h2⟩
  exact⟨c,LM.2 ⟨LU.2 h1,h2⟩,rfl⟩
theorem Hh{out:List Bool}:∀i,i≤out.length→(Hg out i).length+(out.take i).countP (fun b=>!b)=i
 |0,_=>by simp[Hg]
 |i+1,h=>by
  have hi:i<out.length:=by omega
  have a:=Hh (out:=out) i O0;rw[Hi,Lg,Md,KT hi,Kj,IH hi];cases c:out[i]<;>simp<;>omega
theorem EuI.start{nx:bU}{A B:Nat→Prop}:EuI nx A B (iG nx.length B) (Hg (iG nx.length B) nx.length) none:=by
 refine⟨iJ,fun x b=>?_,fun c a h=>.here ((iI a).1 h),fun c a h=>(iI a).2 h,fun c a h=>.inl (trueL_mem.2 ⟨a,h⟩),?_⟩
 ·obtain⟨c,a,rfl⟩:∃c:Nat,c<nx.length∧x=(c:Int):=by
   unfold Hg at b
   obtain⟨c,a,rfl⟩:=LP.1 b;exact⟨c,LU.1 (LM.1 a).1,rfl⟩
  exact⟨by omega,by omega,(trueL_mem.1 b).2⟩
 ·have:=Hh (out:=iG nx.length B) nx.length (by rw[iJ];exact MF _)
  rw[Mg (by rw[iJ];exact MF _)]at this
  unfold H6;omega
set_option maxHeartbeats 1000000 in
theorem xB(w0:World){b:Nat}{nx fr:bU}{lb:List Nat}(hL:LabAt w0 b nx lb fr)(hok:okG nx)(hn:nx.length≤600){ao bo:Option Addr}{ac bc:Nat}{P Q:Nat→Prop}(ha:Sl w0 (c7 w0) ao ac (iG nx.length P))(hb:Sl w0 (c7 w0) bo bc (iG nx.length Q)):
  Rt Tryz.prog 60 [xf b,.slice ao (iG nx.length P).length ac,.slice bo (iG nx.length Q).length bc].toArray w0 fun v w'=>Own w' w0.heap.size 4 cZ v (iG nx.length (nH nx fr P Q))∧Ext w0 w':=by
 have hL0:=hL;obtain⟨a1,c1,n1,a2,c2,a3,c3,a4,c4,fo,fc,ro,rc,hlb,h2,h3,h4,h5,h6⟩:=hL;refine dF Tryz.func60 Tryz.ntmps60 rfl rfl ?_;refine Qw ?_;refine WL.call rfl rfl rfl (xu w0 hL0 hn hb h5) ?_;rintro _ w1 ⟨a,e1⟩
 rename_i ov;have hov:∃oo oc,ov=.slice oo nx.length oc:=by
  obtain⟨oo,oc,e⟩:=a.val;rw[iJ]at e;exact⟨oo,oc,e⟩
 obtain⟨oo,oc,rfl⟩:=hov;refine QZ ?_;refine CW.loop (S:=Nat×Value) (fun s=>[(0,xf b),(1,.slice ao (iG nx.length P).length ac),(7,.slice oo nx.length oc),(8,s.2),(21,.slice oo nx.length oc),(22,Pq nx.length),(23,Pq s.1)])
  (fun s w=>s.1≤nx.length∧Own w w0.heap.size 4 cZ (.slice oo nx.length oc) (iG nx.length fun i=>Q i∧oA nx fr i)∧Own w w0.heap.size 3 cZ s.2 (Hg (iG nx.length fun i=>Q i∧oA nx fr i) s.1)∧(∀g,s.2.ownBlock=some g→Value.ownBlock (.slice oo nx.length oc)≠some g)∧Ext w0 w)
  (fun s=>nx.length -s.1) (0,.slice none 0 0) OZ ⟨M9 _,a,Own.nil,(fun g f=>by cases f),e1⟩ ?_
 ·clear a e1
  rintro⟨i,tv⟩ w2 ⟨hi,a,l,hd,m⟩
  dsimp only at hi a l hd m⊢
  have hle:=Hh (out:=iG nx.length fun i=>Q i∧oA nx fr i) i (by rw[iJ];exact hi);refine Qm ?_;apply CW.cond rfl<;>intro h
  ·have K:i<nx.length:=by simp at h;omega
   have T:i<(iG nx.length fun i=>Q i∧oA nx fr i).length:=by rw[iJ];exact K
   have D:=Hi (out:=iG nx.length fun i=>Q i∧oA nx fr i) (i:=i);refine PP ?_;refine eE (i:=i) rfl rfl rfl rfl rfl a T O_ (fun u q H=>?_);rw[H.bool,←IH T];clear H;generalize (iG nx.length fun i=>Q i∧oA nx fr i).getD i false=c at*
   cases c with
   |false=>
    rw[OD O2,Kd]at D
    rw[←D]at l
    refine Qr ?_;exact EX.back (i+1,tv) OZ ⟨K,a,l,hd,m⟩ O4
   |true=>
    rw[OE rfl]at D
    refine Q5 ?_;refine dW (α:=Int) (F:=cZ) (bytes:=8) rfl rfl O_ rfl rfl O_ l Pl m.size Pc O2 O5 O0 (fun tv' w3 q N X R=>?_);rw[←D]at N
    refine P6 ?_;exact EX.back (i+1,tv') OZ ⟨K,a.keptN X (fun g f e=>hd g e.symm f),N,fun g f e=>by
     rcases R g f with h|h
     ·exact hd g h e
     ·have:=(a.lt g e).2.1;omega,m.grown X m.size (fun g f=>(l.lt g f).1)⟩ O4
  obtain rfl:i=nx.length:=by simp at h;omega
  have hI0:EuI nx P (fun i=>Q i∧oA nx fr i) _ _ none:=EuI.start;generalize Hg (iG nx.length fun i=>Q i∧oA nx fr i) nx.length=todo at*
  generalize (iG nx.length fun i=>Q i∧oA nx fr i)=out at*
  refine Q4 ?_;refine CW.loop (S:=List Bool×Value×List Int) (fun s=>[(0,xf b),(1,.slice ao (iG nx.length P).length ac),(7,.slice oo nx.length oc),(8,s.2.1)])
   (fun s w=>EuI nx P (fun i=>Q i∧oA nx fr i) s.1 s.2.2 none∧Own w w0.heap.size 4 cZ (.slice oo nx.length oc) s.1∧Own w w0.heap.size 3 cZ s.2.1 s.2.2∧(∀g,s.2.1.ownBlock=some g→Value.ownBlock (.slice oo nx.length oc)≠some g)∧Ext w0 w)
   (fun s=>s.2.2.length+2*H6 s.1) (out,tv,todo) OZ ⟨hI0,a,l,hd,m⟩ ?_
  clear hI0 a l hd m hle h tv;rintro⟨out,tv,todo⟩ w2 ⟨n,a,l,hd,m⟩
  dsimp only at n a l hd m⊢
  refine PN ?_;apply CW.cond rfl<;>intro h
  ·have C:0<todo.length:=by simpa using h
   obtain⟨x,r,rfl⟩:∃x r,todo=x::r:=by
    cases todo with
    |nil=>simp at C
    |cons x r=>exact⟨x,r,rfl⟩
   obtain⟨hx0,hxn,G⟩:=n.td x O3;obtain⟨c,rfl⟩:∃c:Nat,x=(c:Int):=⟨x.toNat,by omega⟩;rw[J7]at G
   have hc:c<nx.length:=by omega
   have Y:c<(Hk nx).length:=by rw[Hl];exact hc
   have hb2:=hlb.ext m;have o:=h6.at m;refine PP ?_;refine eE (i:=0) rfl rfl rfl rfl rfl l O3 O_ (fun u q H=>?_);rw[H.int];simp only[K5];refine Qm ?_;refine ew (α:=Int) 1 rfl rfl rfl rfl rfl l O3 (fun tv2 I hnb=>?_);rw[List.drop_one,List.tail_cons]at I
   refine Qw ?_;refine eC (i:=c) rfl rfl rfl rfl rfl o Y O_ (fun u2 q2 L=>?_);obtain⟨po,pc,rfl,hp⟩:=L.sl;have hpl:=hp.len63;have U:(Hk nx)[c]=(Hk nx).getD c []:=(II Y).symm;rw[U]at hp hpl⊢
   clear l C H L U o hb2;refine Ql ?_;refine CW.loop (S:=Nat×List Bool×Value×List Int) (fun s=>[(0,xf b),(1,.slice ao (iG nx.length P).length ac),(7,.slice oo nx.length oc),(8,s.2.2.1),(48,.slice po ((Hk nx).getD c []).length pc),(49,Pq ((Hk nx).getD c []).length),(50,Pq s.1)])
    (fun s w=>s.1≤((Hk nx).getD c []).length∧EuI nx P (fun i=>Q i∧oA nx fr i) s.2.1 s.2.2.2 (some (c,s.1))∧s.2.1.getD c false=true∧Own w w0.heap.size 4 cZ (.slice oo nx.length oc) s.2.1∧Own w w0.heap.size 3 cZ s.2.2.1 s.2.2.2∧(∀g,s.2.2.1.ownBlock=some g→Value.ownBlock (.slice oo nx.length oc)≠some g)∧Ext w0 w∧s.2.2.2.length+2*H6 s.2.1+1≤((c:Int)::r).length+2*H6 out)
    (fun s=>((Hk nx).getD c []).length -s.1) (0,out,tv2,r) OZ ⟨M9 _,n.pop,G,a,I,(fun g f=>hd g (hnb▸f)),m,by simp only[Lh];omega⟩ ?_
   clear n a I hd G hnb;rintro⟨j,o2,tv3,t2⟩ w3 ⟨hj,n,z,a,l,hd,E,t⟩
   dsimp only at hj n z a l hd E t⊢
   refine Qm ?_;apply CW.cond rfl<;>intro h
   ·have d:j<((Hk nx).getD c []).length:=by simp only[Ow]at h;omega
    obtain⟨k,hk⟩:∃k:Nat,((Hk nx).getD c [])[j]=(k:Int):=⟨(((Hk nx).getD c [])[j]).toNat,by
     have:=Aw (Hn nx) c _ (K8 d);omega⟩
    have J:k<nx.length:=by
     have:=Aw (Hn nx) c _ (K8 d);rw[Hl]at this;omega
    have hp3:Sl w3 (c7 w0) po pc ((Hk nx).getD c []):=hp.mono (fun b hb=>(E.block b hb).trans (m.block b hb).symm) Pe;have haa:=ha.up E;have bP:=iI (P:=P) J;have y:k<o2.length:=by rw[n.len];exact J
    refine Q6 ?_;refine eB rfl rfl rfl rfl rfl hp3 d hk O_ (fun q=>?_);refine Qm ?_;refine eA rfl rfl rfl rfl rfl haa (show k<_ by rw[iJ];exact J) (IH _).symm O_ (fun q2=>?_);generalize (iG nx.length P).getD k false=pk at*
    cases pk with
    |false=>
     refine Qr ?_;exact EX.back (j+1,o2,tv3,t2) OZ ⟨d,n.skip d hk (fun h=>by have:=bP.2 h;cases this),z,a,l,hd,E,t⟩ O4
    |true=>
     refine Ra ?_;refine eE (i:=k) rfl rfl rfl rfl rfl a y O_ (fun u q3 H=>?_);rw[H.bool,←IH y];cases p:o2.getD k false with
     |true=>
      refine PT ?_;exact EX.back (j+1,o2,tv3,t2) OZ ⟨d,n.skip d hk (fun _=>p),z,a,l,hd,E,t⟩ O4
     |false=>
      obtain⟨Z,_⟩:=n.mark hc z d hk (bP.1 rfl) p;have hu4:=H7 y p;have hcnt:=Z.cnt;have hcnt':=n.cnt;refine Q5 ?_;refine ft (u:=.bool true) (yv:=true) rfl rfl rfl rfl a y O_ O_ (Rd.mkBool _ _ _) (fun w4 q4 ho4 W=>?_);have e4:Ext w0 w4:=E.grown W E.size (fun g f=>(a.lt g f).1);have M:=l.keptN W (fun g f e=>hd g f e.symm);refine Qj ?_;refine dW (α:=Int) (F:=cZ) (bytes:=8) rfl rfl O_ rfl rfl O_ M Pl e4.size Pc O2 O5 O0 (fun tv' w5 q5 ht5 V O=>?_);refine P6 ?_;refine EX.back (j+1,o2.set k true,tv',t2++[(k:Int)]) OZ ⟨d,Z,?_,ho4.keptN V (fun g f e=>hd g e.symm f),ht5,fun g f e=>?_,e4.grown V e4.size (fun g f=>(M.lt g f).1),?_⟩ O4
      ·dsimp only;rw[qU y];split;rfl;exact z
      ·rcases O g f with h|h
       ·exact hd g h e
       ·have:=(ho4.lt g e).2.1;omega
      ·dsimp only;rw[Lg];simp only[Lh,Lo]at t⊢;omega
   ·have d:((Hk nx).getD c []).length≤j:=by simp only[Ou]at h;omega
    refine QA ?_;exact EX.back (o2,tv3,t2) OZ ⟨n.rowEnd d,a,l,hd,E⟩ (by dsimp only;simp only[Lh]at t⊢;omega)
  ·have C:todo=[]:=Kx (by simpa using h)
   subst C;rw[n.done hok]at a
   refine P3 ?_;exact be rfl rfl ⟨a,m⟩
theorem xx(w0:World){b:Nat}{nx fr:bU}{lb:List Nat}(e:LabAt w0 b nx lb fr)(a:WOk nx fr){ao:Option Addr}{ac:Nat}{P:Nat→Prop}(d:Sl w0 (c7 w0) ao ac (iG nx.length P)):
  Rt Tryz.prog 61 [xf b,.slice ao (iG nx.length P).length ac].toArray w0 fun v w'=>Own w' w0.heap.size 4 cZ v (iG nx.length (mR nx fr P))∧Ext w0 w':=by
 obtain⟨a1,c1,n1,a2,c2,a3,c3,a4,c4,fo,fc,h,rc,hlb,h2,h3,h4,j,i⟩:=e;refine dE Tryz.func61 Tryz.ntmps61 rfl rfl ?_;refine QH ?_;refine WL.call rfl rfl rfl (fD w0 (inn:=iG nx.length P) (n1:=n1) (a1:=a1) (c1:=c1) h2 h4 d a.g a.f iJ a.n a.e) ?_;rintro _ g ⟨c,f⟩
 rw[IP a.g]at c
 refine PB ?_;exact be rfl rfl ⟨c,f⟩
theorem Own.asSl{w:World}{B:Nat}{e:TypeId}{v:Value}{xs:List Bool}(h:Own w B e cZ v xs):∃ao cap,v=.slice ao xs.length cap∧Sl w (c7 w) ao cap xs:=h.oldN.sl
set_option maxHeartbeats 1000000 in
theorem xp(w0:World){b:Nat}{nx fr:bU}{lb:List Nat}(C:LabAt w0 b nx lb fr)(W:WOk nx fr){ao bo:Option Addr}{ac bc:Nat}{P Q:Nat→Prop}(ha:Sl w0 (c7 w0) ao ac (iG nx.length P))(V:Sl w0 (c7 w0) bo bc (iG nx.length Q)):
  Rt Tryz.prog 62 [xf b,.slice ao (iG nx.length P).length ac,.slice bo (iG nx.length Q).length bc].toArray w0 fun v w'=>Own w' w0.heap.size 4 cZ v (iG nx.length (gL nx fr P Q))∧Ext w0 w':=by
 have hn:=W.n;refine dF Tryz.func62 Tryz.ntmps62 rfl rfl ?_;refine Qm ?_;refine WL.call rfl rfl rfl (xU w0 C hn V) ?_;rintro _ w1 ⟨l,R⟩
 obtain⟨xo,xc,rfl,H⟩:=l.asSl;refine Ra ?_;refine WL.call rfl rfl rfl (xU w1 (C.up R) hn (ha.up R)) ?_;rintro _ w2 ⟨G,e2⟩
 obtain⟨yo,yc,rfl,hy⟩:=G.asSl;have E:=R.trans e2;refine Ra ?_;refine WL.call rfl rfl rfl (xU w2 (C.up E) hn (V.up E)) ?_;rintro _ w3 ⟨F,O⟩
 obtain⟨zo,zc,rfl,hz⟩:=F.asSl;have E:=E.trans O;skip;refine WL.call rfl rfl rfl (xu w3 (C.up E) hn (hy.up O) hz) ?_;rintro _ w4 ⟨I,Z⟩
 obtain⟨vo,vc,rfl,hv⟩:=I.asSl;have x:=E.trans Z;skip;refine WL.call rfl rfl rfl (xB w4 (C.up x) W.g hn (H.up (e2.trans (O.trans Z))) hv) ?_;rintro bv w5 ⟨a,e5⟩
 have t:=x.trans e5;have a:=a.low (B':=w0.heap.size) x.size;clear H hy hz hv l G F I R e2 O Z e5 E x;refine Qm ?_;refine WL.call rfl rfl rfl (xU w5 (C.up t) hn (V.up t)) ?_;rintro _ w6 ⟨l,Y⟩
 obtain⟨xo,xc,rfl,H⟩:=l.asSl;have r:=t.trans Y;have a:=a.extN Y;have K:=fun g d=>(a.lt g d).2.1
 skip;refine WL.call rfl rfl rfl (xx w6 (C.up r) W H) ?_;rintro gv w7 ⟨d,X⟩
 have N:=r.trans X;have a:=a.extN X;have U:∃go gc,gv=.slice go nx.length gc:=by
  obtain⟨go,gc,e⟩:=d.val;rw[iJ]at e;exact⟨go,gc,e⟩
 obtain⟨go,gc,rfl⟩:=U;have y:∀g,bv.ownBlock=some g→Value.ownBlock (.slice go nx.length gc)≠some g:=fun g h1 h2=>by
  have:=K g h1;have:=(d.lt g h2).1;omega
 have d:=d.low (B':=w0.heap.size) r.size;have f:(iG nx.length (nH nx fr (fun i=>¬Q i) fun i=>¬P i∧¬Q i)).length=nx.length:=iJ;have j:∀c,c<nx.length→((iG nx.length (nH nx fr (fun i=>¬Q i) fun i=>¬P i∧¬Q i)).getD c false=true↔nH nx fr (fun i=>¬Q i) (fun i=>¬P i∧¬Q i) c):=fun c z=>iI z
 generalize iG nx.length (nH nx fr (fun i=>¬Q i) fun i=>¬P i∧¬Q i)=out at*
 clear K H l Y X;refine Ql ?_;refine CW.loop (S:=Nat×List Bool) (fun s=>[(0,xf b),(7,bv),(27,.slice go nx.length gc),(28,Pq nx.length),(29,Pq s.1)])
  (fun s w=>s.1≤nx.length∧s.2.length=nx.length∧(∀c,c<nx.length→(s.2.getD c false=true↔nH nx fr (fun i=>¬Q i) (fun i=>¬P i∧¬Q i) c∨(c<s.1∧mR nx fr (fun i=>¬Q i) c)))∧Own w w0.heap.size 4 cZ bv s.2∧Own w w0.heap.size 4 cZ (.slice go nx.length gc) (iG nx.length (mR nx fr fun i=>¬Q i))∧Ext w0 w)
  (fun s=>nx.length -s.1) (0,out) OZ ⟨M9 _,f,fun c z=>by rw[j c z];exact⟨.inl,fun h=>h.elim id (fun h=>absurd h.1 (MV _))⟩,a,d,N⟩ ?_
 clear f j a d N r t;rintro⟨i,o⟩ w8 ⟨hi,f,j,a,d,D⟩
 dsimp only at hi f j a d D⊢
 obtain⟨oo,oc,hov⟩:=a.val;refine Qm ?_;apply CW.cond rfl<;>intro h
 ·have n:i<nx.length:=by simp at h;omega
  have L:i<(iG nx.length (mR nx fr fun i=>¬Q i)).length:=by rw[iJ];exact n
  have m:i<o.length:=by omega
  have bG:=iI (P:=mR nx fr fun i=>¬Q i) n;have bO:=j i n;refine PP ?_;refine eE (i:=i) rfl rfl rfl rfl rfl d L O_ (fun u q J=>?_);rw[J.bool,←IH L];clear J;generalize (iG nx.length (mR nx fr fun i=>¬Q i)).getD i false=gb at*
  refine Qj ?_;refine eE (i:=i) rfl rfl rfl rfl rfl a m O_ (fun u q2 J=>?_);rw[J.bool,←IH m];clear J;have fin:∀c:Bool,(c=true↔nH nx fr (fun i=>¬Q i) (fun i=>¬P i∧¬Q i) i∨mR nx fr (fun i=>¬Q i) i)→∀k,k<nx.length→((o.set i c).getD k false=true↔nH nx fr (fun i=>¬Q i) (fun i=>¬P i∧¬Q i) k∨(k<i+1∧mR nx fr (fun i=>¬Q i) k)):=fun c z k hk=>by
   rw[qU m];by_cases e:i=k
   ·subst e;rw[OE rfl,z]
    exact or_congr J1 ⟨fun h=>⟨Nat.lt_succ_self _,h⟩,fun h=>h.2⟩
   ·rw[OD e,j k hk]
    exact or_congr J1 (Og O0 J1)
  generalize o.getD i false=ob at*
  cases ob with
  |true=>
   refine Rb ?_;refine ft (u:=.bool true) (yv:=true) rfl rfl rfl rfl a m O_ O_ (Rd.mkBool _ _ _) (fun w9 q4 ho4 p=>?_);refine P6 ?_;refine EX.back (i+1,o.set i true) OZ ⟨n,by simpa using f,fin true ⟨fun _=>(bO.1 rfl).imp id (fun h=>h.2),fun _=>rfl⟩,ho4,d.keptN p (fun g h1 e=>y g e.symm h1),D.grown p D.size (fun g d=>(a.lt g d).1)⟩ O4
  |false=>
   refine Ra ?_;refine ft (u:=.bool gb) (yv:=gb) rfl rfl rfl rfl a m O_ O_ (Rd.mkBool _ _ _) (fun w9 q4 ho4 p=>?_);refine P6 ?_;refine EX.back (i+1,o.set i gb) OZ ⟨n,by simpa using f,fin gb ⟨fun h=>.inr (bG.1 h),fun h=>h.elim (fun h=>by have:=bO.2 (.inl h);cases this) (fun h=>bG.2 h)⟩,ho4,d.keptN p (fun g h1 e=>y g e.symm h1),D.grown p D.size (fun g d=>(a.lt g d).1)⟩ O4
 obtain rfl:i=nx.length:=by simp at h;omega
 have M:o=iG nx.length fun c=>nH nx fr (fun i=>¬Q i) (fun i=>¬P i∧¬Q i) c∨mR nx fr (fun i=>¬Q i) c:=iK f fun c z=>by
  rw[j c z];exact or_congr J1 ⟨fun h=>h.2,fun h=>⟨z,h⟩⟩
 subst M;obtain⟨oo,oc,rfl,T⟩:=a.asSl;refine Qh ?_;refine WL.call rfl rfl rfl (xU w8 (C.up D) hn T) ?_;rintro _ w9 ⟨ho9,e9⟩
 refine PB ?_;exact be rfl rfl ⟨ho9.low D.size,D.trans e9⟩
theorem xN{α:Type}{l:List α}(h:l.length=2):∃x y,l=[x,y]:=by
 match l,h with
 |[x,y],_=>exact⟨x,y,rfl⟩
mutual
def As:Ltl→Prop
 |.mk k n kids=>wM k=kids.length∧0≤n∧n≤63∧At kids
def At:List Ltl→Prop
 |[]=>True
 |x::r=>As x∧At r
end
theorem Au:∀{l:List Ltl} {x:Ltl},At l→x∈l→As x
 |y::r,x,h,a=>by
  rw[At]at h
  rcases LI.1 a with rfl|a
  ·exact h.1
  ·exact Au h.2 a
mutual
theorem js:∀(t:Ltl) (deep c:Int),(jm t deep c).1=0→As t
 |.mk k n kids,deep,c,h=>by
  simp only[jm]at h
  split at h
  ·cases h
  split at h
  ·cases h
  split at h
  ·cases h
  rename_i h3;rw[As];exact⟨by omega,by omega,by omega,jp kids _ _ h⟩
theorem jp:∀(l:List Ltl) (deep c:Int),(jn l deep c).1=0→At l
 |[],_,_,_=>by rw[At];trivial
 |x::r,deep,c,h=>by
  simp only[jn]at h
  split at h
  ·rename_i h1;exact absurd h h1
  rename_i h1;rw[At];exact⟨js x _ _ (by simpa using h1),jp r _ _ h⟩
end
instance sB:IsT Tryz.prog 58 Raw:=IsT.of O1 NZ rfl
instance sC:IsZ Tryz.prog 58 (⟨.slice none 0 0⟩:Raw) 24:=IsZ.of (z:=.slice none 0 0) O1 (fun _ _=>⟨rfl,rfl⟩)
theorem xP(w:World)(x:Nat):Rt Tryz.prog 54 [Pq (x:Int)].toArray w fun v w'=>v=.bool true∧Ext w w':=by
 refine dD Tryz.func54 Tryz.ntmps54 rfl rfl ?_;refine QJ ?_;exact be rfl rfl ⟨rfl,Ext.refl _⟩
theorem IK{l:List Nat}{j:Nat}(h:j<l.length):l.getD j 0=l[j]:=by rw[KN,KT h];rfl
theorem xQ(w:World){b b1 b2 x:Nat}{nx fr:bU}{lb:List Nat}(l:LabAt w b nx lb fr){k n:Int}{kv:Value}(j:Blk w b1 88 [xf b])(i:Blk w b2 36 [Pq k,Pq n,kv])(f:x<lb.length)(hn:0≤n):
  Rt Tryz.prog 55 [Pq (x:Int),Pr b1,Pr b2].toArray w fun v w'=>∃c:Bool,v=.bool c∧(c=true↔lb.getD x 0 >>> n.toNat&&&1=1)∧Ext w w':=by
 obtain⟨a1,c1,n1,a2,c2,a3,c3,a4,c4,fo,fc,s,bc,o,h2,h3,h4,r,p⟩:=l;refine dF Tryz.func55 Tryz.ntmps55 rfl rfl ?_;refine Q7 ?_;refine dk rfl rfl rfl rfl rfl Pe h3 f O_ (fun u q g=>?_);obtain⟨rfl,d⟩:=g.u64;rw[IK f];generalize lb[x]=a at*
 refine Rp ?_;refine dy rfl rfl rfl rfl d hn ?_;have h:a >>> n.toNat<18446744073709551616:=MJ (M3 _ _) d;refine df rfl rfl rfl rfl h ?_;refine Rf ?_;refine QL.nil fun w' e=>?_
 refine PJ ?_;refine be rfl rfl ⟨_,rfl,?_,e⟩;generalize a >>> n.toNat&&&1=m;simp;omega
theorem xR(w:World){bk x N:Nat}{ko:Option Addr}{kc:Nat}{P Q:Nat→Prop}(k:Blk w bk 145 [.slice ko ([iG N P,iG N Q]:List (List Bool)).length kc])(j:Sl w (c7 w) ko kc [iG N P,iG N Q])(e:x<N):
  Rt Tryz.prog 58 [Pq (x:Int),Pr bk].toArray w fun v w'=>∃c:Bool,v=.bool c∧(c=true↔P x∨Q x)∧Ext w w':=by
 refine dE Tryz.func58 Tryz.ntmps58 rfl rfl ?_;refine P4 ?_;refine eC (i:=0) rfl rfl rfl rfl rfl j O3 O_ (fun u q d=>?_);simp only[K5]at d
 obtain⟨uo,uc,rfl,g⟩:=d.sl;have b:x<(iG N P).length:=by rw[iJ];exact e
 have bP:=iI (P:=P) e;have bQ:=iI (P:=Q) e;refine Ra ?_;refine eA rfl rfl rfl rfl rfl g b (IH b).symm O_ (fun q=>?_);generalize (iG N P).getD x false=c at*
 cases c with
 |true=>
  refine PC ?_;exact be rfl rfl ⟨_,rfl,⟨fun _=>.inl (bP.1 rfl),fun _=>rfl⟩,Ext.refl _⟩
 |false=>
  refine Rl ?_;refine eC (i:=1) rfl rfl rfl rfl rfl j O3 O_ (fun u q d=>?_);simp only[K4,K5]at d
  obtain⟨vo,vc,rfl,f⟩:=d.sl;have a:x<(iG N Q).length:=by rw[iJ];exact e
  refine Ra ?_;refine eA rfl rfl rfl rfl rfl f a (IH a).symm O_ (fun q=>?_);generalize (iG N Q).getD x false=c at*
  refine PB ?_;exact be rfl rfl ⟨_,rfl,⟨fun h=>.inr (bQ.1 h),fun h=>h.elim (fun h=>by have:=bP.2 h;cases this) bQ.2⟩,Ext.refl _⟩
set_option maxHeartbeats 4000000 in
set_option maxRecDepth 100000 in
theorem xh{nx fr:bU}{lb:List Nat}(hW:WOk nx fr)(hlb:lb.length=nx.length):∀(m:Nat) (t:Ltl),t.nodes≤m→As t→∀(w0:World) (b:Nat) (ao:Option Addr) (cap:Nat),LabAt w0 b nx lb fr→Sl w0 (c7 w0) ao cap t.kids→
  Rt Tryz.prog 27 [xf b,ye t.k t.n ao t.kids.length cap].toArray w0 fun v w'=>Own w' w0.heap.size 4 cZ v (iG nx.length (kY nx lb fr t))∧Ext w0 w'
 |0,t,hm=>by have:=t.nodes_pos;omega
 |m+1,.mk k n kids,hm=>by
  intro hC w0 b ao cap G hs
  simp only[Ltl.kids,Ltl.k,Ltl.n]at*
  rw[As]at hC
  obtain⟨K,hn0,hn1,hCk⟩:=hC;have hn:=hW.n;have hlen:=hs.len63;have hk2:kids.length≤2:=by
   unfold wM at K
   split at K<;>first|omega|(split at K<;>first|omega|(split at K<;>omega))
  refine dE Tryz.func27 Tryz.ntmps27 rfl rfl ?_;refine Pu ?_;refine dX rfl rfl rfl fun w1 C e1=>?_
  skip;refine dX rfl rfl rfl fun w2 H e2=>?_
  have C:=C.ext e2;have hE:=e1.trans e2;have hz1:=e1.size;have hz2:=e2.size;have hl2:=C.lt;have hl3:=H.lt;refine P4 ?_;refine WL.call rfl rfl rfl (mD w2 (P:=fun _=>True) (G.up hE) hn (fun w x O hx=>FnV.mk (f:=54) (cs:=[]) (Rt.mono (xP w x) (fun v w' hv=>⟨true,hv.1,⟨fun _=>trivial,fun _=>rfl⟩,hv.2⟩)))) ?_;rintro av I ⟨U,e3⟩
  have C:=C.ext e3;have H:=H.ext e3;have hE:=hE.trans e3;have hal:∀g,av.ownBlock=some g→g<I.heap.size:=fun g E=>(U.lt g E).2.1
  have U:=U.low (B':=w0.heap.size) (MH hz1 hz2);refine Qm ?_;refine WL.alloc rfl rfl (fun w4 J e4=>?_);have C:=C.ext e4;have H:=H.ext e4;have hE:=hE.trans e4;have U:=U.extN e4;have hl6:=J.lt;have hz3:=e3.size;refine QS ?_;refine CW.loop (S:=Nat×Value×List Raw) (fun s=>[(2,Pr w0.heap.size),(3,Pr w1.heap.size),(5,av),(6,Pr I.heap.size),(12,.slice ao kids.length cap),(13,Pq kids.length),(14,Pq s.1)])
   (fun s w=>s.1≤kids.length∧Blk w I.heap.size 145 [s.2.1]∧Own w w4.heap.size 58 cZ s.2.1 s.2.2∧InnR w (fun b=>s.2.1.ownBlock=some b∨b=I.heap.size) s.2.2 ((kids.take s.1).map fun x=>iG nx.length (kY nx lb fr x))∧Chg (fun b=>b=I.heap.size) w4 w)
   (fun s=>kids.length -s.1) (0,.slice none 0 0,[]) OZ ⟨M9 _,J,Own.nil,InnR.nil,Chg.refl _ _⟩ ?_
  ·clear J
   rintro⟨i,kv,vs⟩ a ⟨hi,J,X,T,L⟩
   dsimp only at hi J X T L⊢
   have hz5:=L.size;have hvl:vs.length=i:=by rw[T.len,Ln,Lv];omega
   have c:Ext w0 a:=L.ext hE (fun b hb=>by omega);have C:Blk a w0.heap.size 88 [xf b]:=(L.block _ O0 O0).trans C;have H:Blk a w1.heap.size 36 [Pq k,Pq n,.slice ao kids.length cap]:=(L.block _ O0 O0).trans H;have hav5:Own a w0.heap.size 4 cZ av (iG nx.length fun _=>True):=U.chg L (fun g E e=>by have:=hal g E;omega);refine Qm ?_;apply CW.cond rfl<;>intro h
   ·have Z:i<kids.length:=by simp at h;omega
    refine Q6 ?_;refine eC rfl rfl rfl rfl rfl (hs.up c) Z O_ (fun u q hu=>?_);have htk:(kids.take (i+1)).map (fun x=>iG nx.length (kY nx lb fr x))=(kids.take i).map (fun x=>iG nx.length (kY nx lb fr x))++[iG nx.length (kY nx lb fr kids[i])]:=by
     rw[Md,KT Z,Lz];rfl
    have hnode:(kids[i]).nodes≤m:=by
     have:=Ltl.nodes_kid kids _ (K8 Z);simp only[Ltl.nodes]at hm;omega
    have hCx:=Au hCk (K8 Z);generalize kids[i]=x at*
    obtain⟨xo,xc,rfl,hx⟩:=hu.ltl;skip;refine WL.alloc rfl rfl (fun D hb8 B=>?_);skip;refine WL.st rfl rfl rfl hb8 rfl rfl Pk (fun A hb8 hg7=>?_);have Q:Ext a A:=B.grown hg7 B.size Pb;have C:=C.ext Q;have H:=H.ext Q;have J:=J.ext Q;have hl8:=hb8.lt;have hz7:=Q.size;have hkv7:=X.extN Q;have N:=fun g E=>X.lt g E
    have hE7:=c.trans Q;clear hu B hg7;have hD:Ext A (drew A):=Ext.drew A;have hzd:=hD.size;have hb2d:=C.ext hD;have hb6d:=J.ext hD;have hb8d:=hb8.ext hD;have hK2:∀u,(fun z:World=>z.heap[w0.heap.size]?=(drew A).heap[w0.heap.size]?∧z.heap[I.heap.size]?=(drew A).heap[I.heap.size]?∧z.heap[a.heap.size]?=(drew A).heap[a.heap.size]?) u→u.heap[w0.heap.size]?=(drew A).heap[w0.heap.size]?:=fun _ h=>h.1
    have hK6:∀u,(fun z:World=>z.heap[w0.heap.size]?=(drew A).heap[w0.heap.size]?∧z.heap[I.heap.size]?=(drew A).heap[I.heap.size]?∧z.heap[a.heap.size]?=(drew A).heap[a.heap.size]?) u→u.heap[I.heap.size]?=(drew A).heap[I.heap.size]?:=fun _ h=>h.2.1
    have hK8:∀u,(fun z:World=>z.heap[w0.heap.size]?=(drew A).heap[w0.heap.size]?∧z.heap[I.heap.size]?=(drew A).heap[I.heap.size]?∧z.heap[a.heap.size]?=(drew A).heap[a.heap.size]?) u→u.heap[a.heap.size]?=(drew A).heap[a.heap.size]?:=fun _ h=>h.2.2
    refine PM ?_;refine aE (fun z:World=>z.heap[w0.heap.size]?=(drew A).heap[w0.heap.size]?∧z.heap[I.heap.size]?=(drew A).heap[I.heap.size]?∧z.heap[a.heap.size]?=(drew A).heap[a.heap.size]?) [(0,true),(1,true),(2,true),(3,false),(4,false),(5,false)] 6 mixed O1 ⟨rfl,rfl,rfl⟩ ?_;refine Rw ?_;refine cf hK8 rfl rfl rfl rfl hb8d rfl ?_;refine cr rfl (WL.call rfl rfl rfl (xh hW hlb m x hnode hCx (drew A) b xo xc (G.up (hE7.trans hD)) (hx.up (Q.trans hD))) ?_);rintro lv w8 ⟨hlv,M⟩
    have hz8:=M.size;refine WL.nil (a_ ⟨M.block _ O0,M.block _ O0,M.block _ O0⟩ ?_);obtain⟨lo,lc,hlve⟩:=hlv.val;subst hlve;have hkv8:=(hkv7.extN hD).extN M;refine bV (α:=Raw) (F:=cZ) (bytes:=24) (yv:=(⟨.slice lo (iG nx.length (kY nx lb fr x)).length lc⟩:Raw)) rfl rfl rfl rfl O_ rfl rfl O_ hkv8 (Rd.mkRaw _ _ _ rfl) O0 Pc O2 O5 O0
     (fun z hz=>⟨(hz.block _ O0 (fun e=>by have:=N _ e.symm;omega)).trans (M.block _ O0),(hz.block _ O0 (fun e=>by have:=N _ e.symm;omega)).trans (M.block _ O0),(hz.block _ O0 (fun e=>by have:=N _ e.symm;omega)).trans (M.block _ O0)⟩) (fun kv' w9 q9 ho9 hg9 hnb9=>?_)
    obtain⟨ko',kc',rfl⟩:=ho9.val;have hb69:=((hb6d.ext M).kept hg9 (fun e=>by have:=N _ e.symm;omega));have hz9:=hg9.size;refine HL.nil ?_;refine bp rfl (WL.st rfl rfl rfl hb69 rfl rfl Pk (fun w10 hb10 hg10=>WL.nil (bu ?_)));have hlvs:Rd w8 (Fz w8 (fun b=>kv.ownBlock=some b∨b=I.heap.size)) (.slice lo (iG nx.length (kY nx lb fr x)).length lc) (iG nx.length (kY nx lb fr x)):=
     hlv.rd.mono Pj (fun g E=>E.elim (fun h=>h.elim) (fun E=>⟨(hlv.lt g E).2.1,fun h=>by
      have h1:=(hlv.lt g E).1;rcases h with h|h
      ·have:=N g h;omega
      ·omega⟩))
    have hin8:=(T.to (M':=fun b=>kv.ownBlock=some b∨b=I.heap.size) (Chg.of_ext _ ((Q.trans hD).trans M)) (fun _ h=>.inl h)).push hlvs;have hC9:Chg (fun b=>kv.ownBlock=some b∨b=I.heap.size) w8 w10:=((Chg.of_grown hg9).wk (fun _ h=>.inl h)).grown hg10 (fun g E=>by cases E;exact .inr rfl);have Y:=hin8.to (M':=fun b=>Value.ownBlock (.slice ko' (vs++[(⟨.slice lo (iG nx.length (kY nx lb fr x)).length lc⟩:Raw)]).length kc')=some b∨b=I.heap.size) hC9 (fun g E=>E.elim (fun E=>(hnb9 g E).imp .inl id) (fun E=>.inl (.inr E)));rw[←htk]at Y
    have hC10:Chg (fun b=>b=I.heap.size) w4 w10:=(L.trans (Chg.of_ext _ ((Q.trans hD).trans M))).then hC9 (fun g E=>E.elim (fun h=>.inr (N g h).1) .inl);refine P6 ?_;exact EX.back (i+1,_,vs++[_]) OZ ⟨Z,hb10,ho9.keptN hg10 (fun g E e=>by
     have:=Nj e;rcases hnb9 g E with h|h
     ·have:=N g h;omega
     ·omega),Y,hC10⟩ O4
   ·have hie:i=kids.length:=by simp at h;omega
    subst hie;rw[Mf]at T
    obtain⟨ko,kc,rfl,d⟩:=T.old X;clear T X hi h L hvl;obtain⟨ao2,ac2,rfl,has⟩:=hav5.asSl;refine Qo ?_;apply CW.cond rfl<;>intro h
    ·obtain rfl:k=1:=by simpa using h
     have j:kids.length=0:=by have:wM 1=0:=rfl;omega
     obtain rfl:kids=[]:=Kx j;refine Pt ?_;exact be rfl rfl ⟨hav5,c⟩
    have n1:k≠1:=by simpa using h
    clear h;refine Qm ?_;apply CW.cond rfl<;>intro h
    ·obtain rfl:k=3:=by simpa using h
     have j:kids.length=0:=by have:wM 3=0:=rfl;omega
     obtain rfl:kids=[]:=Kx j;refine QO ?_;refine WL.call rfl rfl rfl (mD a (P:=fun i=>lb.getD i 0 >>> n.toNat&&&1=1) (G.up c) hn (fun w x O hx=>FnV.mk (f:=55) (xQ w (G.up (c.trans O)) (C.ext O) (H.ext O) (by rw[hlb];exact hx) hn0))) ?_;rintro _ D ⟨ho,B⟩
     refine PV ?_;exact be rfl rfl ⟨ho.low c.size,c.trans B⟩
    have n3:k≠3:=by simpa using h
    clear h;refine Qm ?_;apply CW.cond rfl<;>intro h
    ·obtain rfl:k=4:=by simpa using h
     have j:kids.length=1:=by have:wM 4=1:=rfl;omega
     obtain⟨x,rfl⟩:=Lj.1 j;have d:Sl a (c7 a) ko kc [iG nx.length (kY nx lb fr x)]:=d;have l:∀z,(fun z:World=>Ext a z) z→Ext a z:=fun _ h=>h
     refine PU ?_;refine aF (fun z:World=>Ext a z) [(0,true),(1,true),(2,true),(3,true),(4,false),(5,true)] mixed O1 (Ext.drew a) ?_;refine RA ?_;refine bZ (k:=0) l rfl rfl rfl rfl rfl rfl rfl Pe d O3 O_ (fun u0 q0 o=>?_);obtain⟨uo0,uc0,rfl,p⟩:=o.sl;skip;refine cr rfl (WL.call rfl rfl rfl (xU (drew a) (G.up (c.trans (Ext.drew a))) hn (p.up (Ext.drew a))) ?_);rintro v6 D ⟨ho6,B⟩
     have r:Ext a D:=Ext.trans (Ext.drew a) B;refine WL.nil (a_ r ?_);refine RJ ?_;refine Qd ?_;exact be rfl rfl ⟨ho6.low (c.trans (Ext.drew a)).size,c.trans r⟩
    have n4:k≠4:=by simpa using h
    clear h;refine Qm ?_;apply CW.cond rfl<;>intro h
    ·obtain rfl:k=5:=by simpa using h
     have j:kids.length=2:=by have:wM 5=2:=rfl;omega
     obtain⟨x,y,rfl⟩:=xN j;have d:Sl a (c7 a) ko kc [iG nx.length (kY nx lb fr x),iG nx.length (kY nx lb fr y)]:=d;have l:∀z,(fun z:World=>Ext a z) z→Ext a z:=fun _ h=>h
     refine PU ?_;refine aF (fun z:World=>Ext a z) [(0,true),(1,true),(2,true),(3,true),(4,true),(5,true),(6,true),(7,false),(8,true)] mixed O1 (Ext.drew a) ?_;refine RA ?_;refine bZ (k:=0) l rfl rfl rfl rfl rfl rfl rfl Pe d O3 O_ (fun u0 q0 o=>?_);obtain⟨uo0,uc0,rfl,p⟩:=o.sl;refine RA ?_;refine bZ (k:=1) l rfl rfl rfl rfl rfl rfl rfl Pe d O3 O_ (fun u1 q1 V=>?_);obtain⟨uo1,uc1,rfl,W⟩:=V.sl;skip;refine cr rfl (WL.call rfl rfl rfl (xu (drew a) (G.up (c.trans (Ext.drew a))) hn (p.up (Ext.drew a)) (W.up (Ext.drew a))) ?_);rintro v6 D ⟨ho6,B⟩
     have r:Ext a D:=Ext.trans (Ext.drew a) B;refine WL.nil (a_ r ?_);refine RJ ?_;refine Qd ?_;exact be rfl rfl ⟨ho6.low (c.trans (Ext.drew a)).size,c.trans r⟩
    have n5:k≠5:=by simpa using h
    clear h;refine Qm ?_;apply CW.cond rfl<;>intro h
    ·obtain rfl:k=6:=by simpa using h
     have j:kids.length=2:=by have:wM 6=2:=rfl;omega
     obtain⟨x,y,rfl⟩:=xN j;have d:Sl a (c7 a) ko kc [iG nx.length (kY nx lb fr x),iG nx.length (kY nx lb fr y)]:=d;refine QO ?_;refine WL.call rfl rfl rfl (mD a (P:=fun i=>kY nx lb fr x i∨kY nx lb fr y i) (G.up c) hn (fun w z O hz=>FnV.mk (f:=58) (xR w (J.ext O) (d.up O) hz))) ?_;rintro _ D ⟨ho,B⟩
     refine PV ?_;exact be rfl rfl ⟨ho.low c.size,c.trans B⟩
    have n6:k≠6:=by simpa using h
    clear h;refine Qm ?_;apply CW.cond rfl<;>intro h
    ·obtain rfl:k=7:=by simpa using h
     have j:kids.length=1:=by have:wM 7=1:=rfl;omega
     obtain⟨x,rfl⟩:=Lj.1 j;have d:Sl a (c7 a) ko kc [iG nx.length (kY nx lb fr x)]:=d;have l:∀z,(fun z:World=>Ext a z) z→Ext a z:=fun _ h=>h
     refine PU ?_;refine aF (fun z:World=>Ext a z) [(0,true),(1,true),(2,true),(3,true),(4,false),(5,true)] mixed O1 (Ext.drew a) ?_;refine RA ?_;refine bZ (k:=0) l rfl rfl rfl rfl rfl rfl rfl Pe d O3 O_ (fun u0 q0 o=>?_);obtain⟨uo0,uc0,rfl,p⟩:=o.sl;skip;refine cr rfl (WL.call rfl rfl rfl (xD (drew a) (G.up (c.trans (Ext.drew a))) hW.g hn (p.up (Ext.drew a))) ?_);rintro v6 D ⟨ho6,B⟩
     have r:Ext a D:=Ext.trans (Ext.drew a) B;refine WL.nil (a_ r ?_);refine RJ ?_;refine Qd ?_;exact be rfl rfl ⟨ho6.low (c.trans (Ext.drew a)).size,c.trans r⟩
    have n7:k≠7:=by simpa using h
    clear h;refine Qm ?_;apply CW.cond rfl<;>intro h
    ·obtain rfl:k=8:=by simpa using h
     have j:kids.length=1:=by have:wM 8=1:=rfl;omega
     obtain⟨x,rfl⟩:=Lj.1 j;have d:Sl a (c7 a) ko kc [iG nx.length (kY nx lb fr x)]:=d;have l:∀z,(fun z:World=>Ext a z) z→Ext a z:=fun _ h=>h
     refine PU ?_;refine aF (fun z:World=>Ext a z) [(0,true),(1,true),(2,true),(3,true),(4,true),(5,false),(6,true)] mixed O1 (Ext.drew a) ?_;refine RD ?_;refine bZ (k:=0) l rfl rfl rfl rfl rfl rfl rfl Pe d O3 O_ (fun u0 q0 o=>?_);obtain⟨uo0,uc0,rfl,p⟩:=o.sl;skip;refine cr rfl (WL.call rfl rfl rfl (xB (drew a) (G.up (c.trans (Ext.drew a))) hW.g hn (has.up (Ext.drew a)) (p.up (Ext.drew a))) ?_);rintro v6 D ⟨ho6,B⟩
     have r:Ext a D:=Ext.trans (Ext.drew a) B;refine WL.nil (a_ r ?_);refine RJ ?_;refine Qd ?_;exact be rfl rfl ⟨ho6.low (c.trans (Ext.drew a)).size,c.trans r⟩
    have n8:k≠8:=by simpa using h
    clear h;refine Qm ?_;apply CW.cond rfl<;>intro h
    ·obtain rfl:k=9:=by simpa using h
     have j:kids.length=1:=by have:wM 9=1:=rfl;omega
     obtain⟨x,rfl⟩:=Lj.1 j;have d:Sl a (c7 a) ko kc [iG nx.length (kY nx lb fr x)]:=d;have l:∀z,(fun z:World=>Ext a z) z→Ext a z:=fun _ h=>h
     refine PU ?_;refine aF (fun z:World=>Ext a z) [(0,true),(1,true),(2,true),(3,true),(4,false),(5,true)] mixed O1 (Ext.drew a) ?_;refine RA ?_;refine bZ (k:=0) l rfl rfl rfl rfl rfl rfl rfl Pe d O3 O_ (fun u0 q0 o=>?_);obtain⟨uo0,uc0,rfl,p⟩:=o.sl;skip;refine cr rfl (WL.call rfl rfl rfl (xx (drew a) (G.up (c.trans (Ext.drew a))) hW (p.up (Ext.drew a))) ?_);rintro v6 D ⟨ho6,B⟩
     have r:Ext a D:=Ext.trans (Ext.drew a) B;refine WL.nil (a_ r ?_);refine RJ ?_;refine Qd ?_;exact be rfl rfl ⟨ho6.low (c.trans (Ext.drew a)).size,c.trans r⟩
    have n9:k≠9:=by simpa using h
    clear h;refine Qm ?_;apply CW.cond rfl<;>intro h
    ·obtain rfl:k=10:=by simpa using h
     have j:kids.length=2:=by have:wM 10=2:=rfl;omega
     obtain⟨x,y,rfl⟩:=xN j;have d:Sl a (c7 a) ko kc [iG nx.length (kY nx lb fr x),iG nx.length (kY nx lb fr y)]:=d;have l:∀z,(fun z:World=>Ext a z) z→Ext a z:=fun _ h=>h
     refine PU ?_;refine aF (fun z:World=>Ext a z) [(0,true),(1,true),(2,true),(3,true),(4,true),(5,true),(6,true),(7,false),(8,true)] mixed O1 (Ext.drew a) ?_;refine RA ?_;refine bZ (k:=0) l rfl rfl rfl rfl rfl rfl rfl Pe d O3 O_ (fun u0 q0 o=>?_);obtain⟨uo0,uc0,rfl,p⟩:=o.sl;refine RA ?_;refine bZ (k:=1) l rfl rfl rfl rfl rfl rfl rfl Pe d O3 O_ (fun u1 q1 V=>?_);obtain⟨uo1,uc1,rfl,W⟩:=V.sl;skip;refine cr rfl (WL.call rfl rfl rfl (xB (drew a) (G.up (c.trans (Ext.drew a))) hW.g hn (p.up (Ext.drew a)) (W.up (Ext.drew a))) ?_);rintro v6 D ⟨ho6,B⟩
     have r:Ext a D:=Ext.trans (Ext.drew a) B;refine WL.nil (a_ r ?_);refine RJ ?_;refine Qd ?_;exact be rfl rfl ⟨ho6.low (c.trans (Ext.drew a)).size,c.trans r⟩
    have n10:k≠10:=by simpa using h
    clear h;refine Qm ?_;apply CW.cond rfl<;>intro h
    ·obtain rfl:k=11:=by simpa using h
     have j:kids.length=1:=by have:wM 11=1:=rfl;omega
     obtain⟨x,rfl⟩:=Lj.1 j;have d:Sl a (c7 a) ko kc [iG nx.length (kY nx lb fr x)]:=d;have l:∀z,(fun z:World=>Ext a z) z→Ext a z:=fun _ h=>h
     refine PU ?_;refine aF (fun z:World=>Ext a z) [(0,true),(1,true),(2,true),(3,true),(4,true),(5,true),(6,false),(7,false),(8,false),(9,true)] mixed O1 (Ext.drew a) ?_;refine RA ?_;refine bZ (k:=0) l rfl rfl rfl rfl rfl rfl rfl Pe d O3 O_ (fun u0 q0 o=>?_);obtain⟨uo0,uc0,rfl,p⟩:=o.sl;skip;refine cr rfl (WL.call rfl rfl rfl (xU (drew a) (G.up (c.trans (Ext.drew a))) hn (p.up (Ext.drew a))) ?_);rintro v6 D ⟨ho6,B⟩
     have r:Ext a D:=Ext.trans (Ext.drew a) B;refine WL.nil (a_ r ?_);obtain⟨do6,dc6,rfl,hd6⟩:=ho6.asSl;skip;refine cr rfl (WL.call rfl rfl rfl (xD D (G.up (c.trans r)) hW.g hn hd6) ?_);rintro v7 A ⟨ho7,Q⟩
     have R:Ext a A:=Ext.trans r Q;refine WL.nil (a_ R ?_);obtain⟨do7,dc7,rfl,hd7⟩:=ho7.asSl;skip;refine cr rfl (WL.call rfl rfl rfl (xU A (G.up (c.trans R)) hn hd7) ?_);rintro v8 w8 ⟨ho8,M⟩
     have x8:Ext a w8:=Ext.trans R M;refine WL.nil (a_ x8 ?_);refine RJ ?_;refine Qd ?_;exact be rfl rfl ⟨ho8.low (c.trans R).size,c.trans x8⟩
    have n11:k≠11:=by simpa using h
    clear h;refine Qm ?_;apply CW.cond rfl<;>intro h
    ·obtain rfl:k=12:=by simpa using h
     have j:kids.length=1:=by have:wM 12=1:=rfl;omega
     obtain⟨x,rfl⟩:=Lj.1 j;have d:Sl a (c7 a) ko kc [iG nx.length (kY nx lb fr x)]:=d;have l:∀z,(fun z:World=>Ext a z) z→Ext a z:=fun _ h=>h
     refine PU ?_;refine aF (fun z:World=>Ext a z) [(0,true),(1,true),(2,true),(3,true),(4,true),(5,true),(6,false),(7,false),(8,false),(9,true)] mixed O1 (Ext.drew a) ?_;refine RA ?_;refine bZ (k:=0) l rfl rfl rfl rfl rfl rfl rfl Pe d O3 O_ (fun u0 q0 o=>?_);obtain⟨uo0,uc0,rfl,p⟩:=o.sl;skip;refine cr rfl (WL.call rfl rfl rfl (xU (drew a) (G.up (c.trans (Ext.drew a))) hn (p.up (Ext.drew a))) ?_);rintro v6 D ⟨ho6,B⟩
     have r:Ext a D:=Ext.trans (Ext.drew a) B;refine WL.nil (a_ r ?_);obtain⟨do6,dc6,rfl,hd6⟩:=ho6.asSl;skip;refine cr rfl (WL.call rfl rfl rfl (xx D (G.up (c.trans r)) hW hd6) ?_);rintro v7 A ⟨ho7,Q⟩
     have R:Ext a A:=Ext.trans r Q;refine WL.nil (a_ R ?_);obtain⟨do7,dc7,rfl,hd7⟩:=ho7.asSl;skip;refine cr rfl (WL.call rfl rfl rfl (xU A (G.up (c.trans R)) hn hd7) ?_);rintro v8 w8 ⟨ho8,M⟩
     have x8:Ext a w8:=Ext.trans R M;refine WL.nil (a_ x8 ?_);refine RJ ?_;refine Qd ?_;exact be rfl rfl ⟨ho8.low (c.trans R).size,c.trans x8⟩
    have n12:k≠12:=by simpa using h
    clear h;refine Qm ?_;apply CW.cond rfl<;>intro h
    ·obtain rfl:k=13:=by simpa using h
     have j:kids.length=1:=by have:wM 13=1:=rfl;omega
     obtain⟨x,rfl⟩:=Lj.1 j;have d:Sl a (c7 a) ko kc [iG nx.length (kY nx lb fr x)]:=d;have l:∀z,(fun z:World=>Ext a z) z→Ext a z:=fun _ h=>h
     refine PU ?_;refine aF (fun z:World=>Ext a z) [(0,true),(1,true),(2,true),(3,true),(4,true),(5,true),(6,true),(7,false),(8,false),(9,false),(10,true)] mixed O1 (Ext.drew a) ?_;refine RD ?_;refine bZ (k:=0) l rfl rfl rfl rfl rfl rfl rfl Pe d O3 O_ (fun u0 q0 o=>?_);obtain⟨uo0,uc0,rfl,p⟩:=o.sl;skip;refine cr rfl (WL.call rfl rfl rfl (xU (drew a) (G.up (c.trans (Ext.drew a))) hn (p.up (Ext.drew a))) ?_);rintro v6 D ⟨ho6,B⟩
     have r:Ext a D:=Ext.trans (Ext.drew a) B;refine WL.nil (a_ r ?_);obtain⟨do6,dc6,rfl,hd6⟩:=ho6.asSl;skip;refine cr rfl (WL.call rfl rfl rfl (xB D (G.up (c.trans r)) hW.g hn (has.up r) hd6) ?_);rintro v7 A ⟨ho7,Q⟩
     have R:Ext a A:=Ext.trans r Q;refine WL.nil (a_ R ?_);obtain⟨do7,dc7,rfl,hd7⟩:=ho7.asSl;skip;refine cr rfl (WL.call rfl rfl rfl (xU A (G.up (c.trans R)) hn hd7) ?_);rintro v8 w8 ⟨ho8,M⟩
     have x8:Ext a w8:=Ext.trans R M;refine WL.nil (a_ x8 ?_);refine RJ ?_;refine Qd ?_;exact be rfl rfl ⟨ho8.low (c.trans R).size,c.trans x8⟩
    have n13:k≠13:=by simpa using h
    clear h;refine Qm ?_;apply CW.cond rfl<;>intro h
    ·obtain rfl:k=14:=by simpa using h
     have j:kids.length=2:=by have:wM 14=2:=rfl;omega
     obtain⟨x,y,rfl⟩:=xN j;have d:Sl a (c7 a) ko kc [iG nx.length (kY nx lb fr x),iG nx.length (kY nx lb fr y)]:=d;have l:∀z,(fun z:World=>Ext a z) z→Ext a z:=fun _ h=>h
     refine PU ?_;refine aF (fun z:World=>Ext a z) [(0,true),(1,true),(2,true),(3,true),(4,true),(5,true),(6,true),(7,false),(8,true)] mixed O1 (Ext.drew a) ?_;refine RA ?_;refine bZ (k:=0) l rfl rfl rfl rfl rfl rfl rfl Pe d O3 O_ (fun u0 q0 o=>?_);obtain⟨uo0,uc0,rfl,p⟩:=o.sl;refine RA ?_;refine bZ (k:=1) l rfl rfl rfl rfl rfl rfl rfl Pe d O3 O_ (fun u1 q1 V=>?_);obtain⟨uo1,uc1,rfl,W⟩:=V.sl;skip;refine cr rfl (WL.call rfl rfl rfl (xp (drew a) (G.up (c.trans (Ext.drew a))) hW (p.up (Ext.drew a)) (W.up (Ext.drew a))) ?_);rintro v6 D ⟨ho6,B⟩
     have r:Ext a D:=Ext.trans (Ext.drew a) B;refine WL.nil (a_ r ?_);refine RJ ?_;refine Qd ?_;exact be rfl rfl ⟨ho6.low (c.trans (Ext.drew a)).size,c.trans r⟩
    have n14:k≠14:=by simpa using h
    clear h;obtain rfl:k=2:=by
     unfold wM at K
     have h0:0≤(kids.length:Int):=by omega
     split at K
     ·omega
     split at K
     ·omega
     split at K
     ·omega
     omega
    refine QK ?_;refine WL.call rfl rfl rfl (xU a (G.up c) hn has) ?_;rintro _ D ⟨ho,B⟩
    have hfe:(iG nx.length fun i=>¬True)=iG nx.length (kY nx lb fr (.mk 2 n kids)):=iH (fun i _=>⟨fun h=>absurd trivial h,fun h=>absurd h (fun h=>by cases h)⟩);rw[hfe]at ho
    refine PB ?_;exact be rfl rfl ⟨ho.low c.size,c.trans B⟩
theorem ie(w0:World){a1 a2 a3 a4:Option Addr}{c1 c2 c3 c4:Nat}{st:List Int}{nx fr:bU}{lb:List Nat}(h1:Sl w0 (c7 w0) a1 c1 st)(h2:Sl w0 (c7 w0) a2 c2 nx)(h3:Sl w0 (c7 w0) a3 c3 lb)(h4:Sl w0 (c7 w0) a4 c4 fr)
  (E:jU st nx lb.length fr=0) (P:mG nx≤8589934592):
  Rt Tryz.prog 26 [IW a1 c1 a2 c2 a3 c3 a4 c4 st.length nx.length lb.length fr.length].toArray w0 fun v w'=>∃b,v=xf b∧LabAt w' b nx lb fr∧Ext w0 w':=by
 obtain⟨w,D,O,t,k,u⟩:=jV E;have n:okG nx:=fun r L=>(k r L).2
 refine dD Tryz.func26 Tryz.ntmps26 rfl rfl ?_;refine Pu ?_;refine dX rfl rfl rfl fun S h F=>?_
 have N:=h.lt;have m:=F.size;refine Q0 ?_;refine WL.build rfl rfl rfl rfl ?_;refine dX rfl rfl rfl fun H c B=>?_
 have h:=h.ext B;have d:=F.trans B;have M:=c.lt;have K:=B.size;refine Q0 ?_;refine WL.call rfl rfl rfl (bJ H (h1.up d) (h2.up d) h3.len63 (h4.up d) P) ?_;rintro _ R ⟨fv,rfl,a,o⟩
 rw[OE E,f7 n]at a
 obtain⟨fo,fc,rfl⟩:=a.val;have h:=h.ext o;have c:=c.ext o;have d:=d.trans o;have J:=o.size;refine Rn ?_;refine WL.st rfl rfl rfl c rfl rfl Pk (fun C c i=>?_);have a:=a.keptN i (fun g j e=>by have:=(a.lt g j).1;have:=Nj e;omega);have h:=h.kept i Ph;have d:Ext w0 C:=d.grown i d.size (fun g j=>by cases j;exact m);have I:=i.size;refine QM ?_;refine WL.call rfl rfl rfl (dT C (h2.up d)) ?_;rintro _ Q ⟨tv,vs,rfl,f,A⟩
 have x:jE nx=0:=jF n O0;have s:Hj nx=Hk nx:=by unfold Hj;rw[OE x]
 rw[s]at f
 obtain⟨to,tc,p⟩:=f.out.val;have q:=f.len;subst p;have c:=c.ext A;have a:=a.extN A;have d:=d.trans A;refine Rn ?_;refine WL.st rfl rfl rfl c rfl rfl Pk (fun G c l=>?_);have a:=a.keptN l (fun g j e=>by have:=(a.lt g j).1;have:=Nj e;omega);have f:=f.kept l (fun g j e=>by have:=(f.lt g j).1;have:=Nj e;omega);have d:Ext w0 G:=d.grown l d.size (fun g j=>by cases j;exact m);obtain⟨ao,ac,ea,z⟩:=a.asSl;obtain⟨rfl,_,rfl⟩:=Oc ea;obtain⟨T,bc,eb,y⟩:=f.old.sl;obtain⟨rfl,_,rfl⟩:=Oc eb;rw[q]at c
 refine QJ ?_;exact be rfl rfl ⟨_,rfl,⟨_,_,_,_,_,_,_,_,_,_,_,_,_,c,h2.up d,h3.up d,h4.up d,z,y⟩,d⟩
def w_(st:List Int)(nx:bU)(k:Nat)(fr:bU)(t:Ltl):Int:=if jU st nx k fr≠0 then jU st nx k fr else(jm t 1 0).1
theorem xa{st:List Int}{nx:bU}{k:Nat}{fr:bU}{t:Ltl}(h:w_ st nx k fr t=0):jU st nx k fr=0∧(jm t 1 0).1=0:=by
 unfold w_ at h
 split at h
 ·rename_i h1;exact absurd h h1
 ·rename_i h1;exact⟨by simpa using h1,h⟩
theorem xv(w0:World){a1 a2 a3 a4 to:Option Addr}{c1 c2 c3 c4 tc:Nat}{st:List Int}{nx fr:bU}{lb:List Nat}{t:Ltl}(h1:Sl w0 (c7 w0) a1 c1 st)(h2:Sl w0 (c7 w0) a2 c2 nx)(h3:Sl w0 (c7 w0) a3 c3 lb)(h4:Sl w0 (c7 w0) a4 c4 fr)(i:Sl w0 (c7 w0) to tc t.kids):
  Rt Tryz.prog 25 [IW a1 c1 a2 c2 a3 c3 a4 c4 st.length nx.length lb.length fr.length,ye t.k t.n to t.kids.length tc].toArray w0 fun v w'=>v=Pq (w_ st nx lb.length fr t)∧Ext w0 w':=by
 refine dE Tryz.func25 Tryz.ntmps25 rfl rfl ?_;refine Pu ?_;refine dX rfl rfl rfl fun m c k=>?_
 skip;refine dX rfl rfl rfl fun g b e=>?_
 have c:=c.ext e;have a:=k.trans e;refine Q0 ?_;refine WL.call rfl rfl rfl (Is g (h1.up a) (h2.up a) h3.len63 (h4.up a)) ?_;rintro _ f ⟨rfl,d⟩
 have b:=b.ext d;have a:=a.trans d;unfold w_;refine Qm ?_;apply CW.cond rfl<;>intro h
 ·have h:jU st nx lb.length fr≠0:=by simpa using h
  rw[OE h];refine QJ ?_;exact be rfl rfl ⟨rfl,a⟩
 have h:jU st nx lb.length fr=0:=by simpa using h
 rw[OD (by simp[h])];refine QC ?_;refine WL.call rfl rfl rfl (kX f (i.up a) Pe) ?_;rintro _ l ⟨rfl,j⟩
 refine PB ?_;exact be rfl rfl ⟨rfl,a.trans j⟩
theorem cP(w0:World){a1 a2 a3 a4 to:Option Addr}{c1 c2 c3 c4 tc:Nat}{st:List Int}{nx fr:bU}{lb:List Nat}{t:Ltl}(h1:Sl w0 (c7 w0) a1 c1 st)(h2:Sl w0 (c7 w0) a2 c2 nx)(h3:Sl w0 (c7 w0) a3 c3 lb)(h4:Sl w0 (c7 w0) a4 c4 fr)(s:Sl w0 (c7 w0) to tc t.kids)
  (y:mG nx≤8589934592):
  Rt Tryz.prog 11 [IW a1 c1 a2 c2 a3 c3 a4 c4 st.length nx.length lb.length fr.length,ye t.k t.n to t.kids.length tc].toArray w0 fun v w'=>∃x,v=.tuple ⟨[x,Pq (w_ st nx lb.length fr t)]⟩∧
   Own w' w0.heap.size 4 cZ x (if w_ st nx lb.length fr t=0 then iG nx.length (kY nx lb fr t)else [])∧Ext w0 w':=by
 refine dE Tryz.func11 Tryz.ntmps11 rfl rfl ?_;refine Pu ?_;refine dX rfl rfl rfl fun K e J=>?_
 skip;refine dX rfl rfl rfl fun C j A=>?_
 have e:=e.ext A;have c:=J.trans A;refine Q0 ?_;refine WL.call rfl rfl rfl (xv C (h1.up c) (h2.up c) (h3.up c) (h4.up c) (s.up c)) ?_;rintro _ d ⟨rfl,o⟩
 have e:=e.ext o;have j:=j.ext o;have c:=c.trans o;refine Qm ?_;apply CW.cond rfl<;>intro h
 ·have h:w_ st nx lb.length fr t≠0:=by simpa using h
  rw[OD h];refine QJ ?_;exact bf rfl rfl rfl ⟨_,rfl,Own.nil,c⟩
 have h:w_ st nx lb.length fr t=0:=by simpa using h
 rw[OE h,h];obtain⟨w,hf⟩:=xa h;obtain⟨i,u,n,l,f,g⟩:=jV w;have m:okG nx:=fun r D=>(f r D).2
 have F:∀z,(fun z:World=>Ext d z) z→Ext d z:=fun _ h=>h
 refine QT ?_;refine aF (fun z:World=>Ext d z) [(0,true),(2,true),(1,false),(3,false),(4,true),(5,true)] mixed O1 (Ext.drew d) ?_;refine RG ?_;have a:=c.trans (Ext.drew d);refine cr rfl (WL.call rfl rfl rfl (ie (drew d) (h1.up a) (h2.up a) (h3.up a) (h4.up a) w y) ?_);rintro _ q ⟨b,rfl,G,I⟩
 have k:Ext d q:=Ext.trans (Ext.drew d) I;refine WL.nil (a_ k ?_);skip;have a:=c.trans k;refine cr rfl (WL.call rfl rfl rfl (xh ⟨i,m,g,y⟩ n t.nodes t Pm (js t _ _ hf) q b to tc G (s.up a)) ?_);rintro _ B ⟨E,H⟩
 have p:Ext d B:=Ext.trans k H;refine WL.nil (a_ p ?_);refine RJ ?_;refine PJ ?_;exact bf rfl rfl rfl ⟨_,rfl,E.low a.size,c.trans p⟩
section
variable {s l:List Nat}{k n:Int}{ks:List (List Bool)}
end
section
variable {p:cI}
end
abbrev In(b:Bool)(so:Option Addr)(sc:Nat)(lo:Option Addr)(a:Nat)(s l:List Int):Value:=.agg [.bool b,.slice so s.length sc,.slice lo l.length a].toArray
abbrev zp(p:cI):List ByteArray:=p.1.map (·.1)
noncomputable abbrev rW(p:cI)(tok st:Int):cN:=(Ec p tok st).1.1
noncomputable abbrev rO(p:cI)(tok st:Int):List cE:=(Ec p tok st).1.2
structure RunsK(p:cI)(tok st:Int):Prop where
 chk:ju (rW p tok st)=0
 ed:mG (rW p tok st).2.1≤8589934592
 of:(rO p tok st).length=(rW p tok st).2.1.length
 row:∀j,((rW p tok st).2.1.getD j []).length≤1048576
 start:(rW p tok st).1.length≤1048576
 n:p.1.length≤20
theorem Ee{p:cI}{tok st:Int}(h:(Ec p tok st).2=0):RunsK p tok st:=by
 obtain⟨h1,h2,h3⟩:=Ed h;have c:=oe h1;have d:=(od h1).1;have a:jM p=0:=(FY d).1;have b:rW p tok st=Eh (FX p).1 (nZ p tok st).1.2:=by unfold rW;rw[h3]
 have g:rO p tok st=Ag (nZ p tok st).1.2 (nZ p tok st).1.2.length:=by unfold rO;rw[h3]
 refine⟨?_,?_,?_,?_,?_,(jN a).n⟩
 ·rw[b]
  have:=Ei c h2;have e:(Eh (FX p).1 (nZ p tok st).1.2).2.2.1.length=gA (nZ p tok st).1.2 (nZ p tok st).1.2.length:=by
   show((List.range _).map _).length=_;rw[Ln,Lq]
  unfold ju;rw[e];exact this
 ·rw[b];exact DB c h2
 ·rw[b,g]
  show _=((List.range _).map _).length;rw[Ln,Lq];rfl
 ·intro j
  rw[b];show((DA (nZ p tok st).1.2).getD j []).length≤_;by_cases f:j<(DA (nZ p tok st).1.2).length
  ·rw[DC (by rw[←DD];exact f)]
   have:=(ze c (j:=j)).2;omega
  ·rw[KN,KU O0];simp
 ·rw[b]
  show(fW (nZ p tok st).1.2 0).length≤_;unfold fW yN;rw[Ln,Lq];have:=c.row 0;omega
structure JdgR(p:cI)(r:cJ)(tok st:Int)(h:Bool)(s l:List Int)(e:Int):Prop where
 bad:e≠0→h=false∧s=[]∧l=[]
 pre:e=0→(Ec p tok st).2=0∧jQ r (zp p)=0
 ctl:e=0→r.2.1=4→s=[]∧l=[]∧(h=true↔∀n∈(rW p tok st).1,kY (rW p tok st).2.1 (rW p tok st).2.2.1 (rW p tok st).2.2.2 r.2.2.2.2.2 n.toNat)
 ltl:e=0→r.2.1≠4→(pX r).2=0∧(jw (pX r).1 1 0).1=0∧IB (pX r).1∧(yj (zS (pX r).1)).2=0∧(h=true↔ai (rW p tok st) (pX r).1)∧(h=true→s=[]∧l=[])∧
  (h=false→∃ps pl,PathE (rW p tok st) (yj (zS (pX r).1)).1 ps pl∧s=(ps.map fun n=>((rO p tok st).getD n.toNat (0,0)).1)∧l=(pl.map fun n=>((rO p tok st).getD n.toNat (0,0)).1))
 good:(Ec p tok st).2=0→jQ r (zp p)=0→r.2.1≠4→(pX r).2=0→(yj (zS (pX r).1)).2=0→e=0
 goodC:(Ec p tok st).2=0→jQ r (zp p)=0→r.2.1=4→e=0
theorem pY{r:cJ}(h:(pX r).2=0):(jw (pX r).1 1 0).1=0:=by
 unfold pX at h⊢
 split
 ·rename_i h1
  rw[OE h1]at h
  unfold lZ at h⊢
  split
  ·rename_i h2;rw[OE h2]at h;exact absurd h h2
  ·rename_i h2
   rw[OD h2]at h
   split
   ·rename_i h3;rw[OE h3]at h;exact absurd h h3
   ·rename_i h3;simpa using h3
 ·rename_i h1
  rw[OD h1]at h
  split
  ·rename_i h2
   rw[OE h2]at h
   unfold ly at h⊢
   split
   ·rename_i h3;rw[OE h3]at h;exact absurd h h3
   ·rename_i h3
    rw[OD h3]at h
    split
    ·rename_i h4;rw[OE h4]at h;exact absurd h h4
    ·rename_i h4;simpa using h4
  ·rename_i h2
   rw[OD h2]at h
   split
   ·rename_i h3
    rw[OE h3]at h
    split
    ·rename_i h4;rw[OE h4]at h;exact absurd h h4
    ·rename_i h4;simpa using h4
   ·rename_i h3
    rw[OD h3]at h;cases h
theorem vV{p:cI}{r:cJ}{tok st e:Int}(c:e≠0)(d:(Ec p tok st).2=0→jQ r (zp p)=0→False):JdgR p r tok st false [] [] e:=
 ⟨fun _=>⟨rfl,rfl,rfl⟩,fun h=>absurd h c,fun h=>absurd h c,fun h=>absurd h c,fun a b _ _ _=>(d a b).elim,fun a b _=>(d a b).elim⟩
theorem jR{r:cJ}{b:List ByteArray}(h:jQ r b=0)(h4:r.2.1=4):(jm r.2.2.2.2.2 1 0).1=0:=by
 unfold jQ at h
 split at h
 ·cases h
 split at h
 ·rename_i g;exact absurd h g
 rename_i g;have a:Bq r b=0:=by simpa using g
 unfold Bq at a
 split at a
 ·cases a
 ·unfold Br at a
  rw[OD O0,OD O0,OD O0,OE h4]at a
  unfold Ch at a
  split at a
  ·rename_i g2;exact absurd a g2
  ·rename_i g2;simpa using g2
def HR(l:List UInt8):ByteArray:=⟨l.toArray⟩
theorem HU(l:List UInt8):(HR l).data.toList=l:=by simp[HR]
theorem HT(s:ByteArray):HR s.data.toList=s:=by cases s;simp[HR]
theorem HS(a b:List UInt8):HR a++HR b=HR (a++b):=by
 apply ByteArray.ext;simp[HR,ByteArray.append]
theorem HV(l:List UInt8):(HR l).size=l.length:=by simp[HR,ByteArray.size]
abbrev tV(l:List UInt8):Value:=.string (HR l)
section
variable {P:Program}{Q:Exit→Act→World→Prop}{n:Nat}{σ:Sg}{w:World}{L rest:List Oper}{d:Nat}{op:Op}{ty:TypeId}{pos:String}{af:Array Edge}{g:Option (Nat×Bool)}{t yt:TypeId}{x y ix:Operand}
theorem DM{a b:List UInt8}(w:World)(h:a.length+b.length<9223372036854775808):((do eqGuard .add t x y (tV a) (tV b);binOp .add t (tV a) (tV b):Sem Value)).run P w=.ok (tV (a++b)) w:=by
 have h1:((HR a).size:Int)+((HR b).size:Int)≤9223372036854775807:=by rw[HV,HV];omega
 simp[eqGuard,binOp,Op.stringOp,h1,HS,show IntKind.i64.max=9223372036854775807 by decide]
theorem d9{a b:List UInt8}(k:gd L σ ⟨some d,.binOp .add t x y yt,ty,pos,af,g⟩=some true)(hd:Nat.ble (d+1) n=true)(i:ev σ x=some (tV a))(f:ev σ y=some (tV b))(j:a.length+b.length<9223372036854775808)
  (h:WL P L Q rest n ((d,tV (a++b))::σ) w):WL P L Q (⟨some d,.binOp .add t x y yt,ty,pos,af,g⟩::rest) n σ w:=by
 refine WL.run k hd (fun c e=>?_) h;simp only[execOp,e.ev i,e.ev f];rw[Nr,DM w j];rfl
theorem bW{S:World→Prop}{ord:List (Nat×Bool)}{i:Nat}{a b:List UInt8}(k:zU L i=some ⟨some d,.binOp .add t x y yt,ty,pos,af,g⟩)(m:gd L σ ⟨some d,.binOp .add t x y yt,ty,pos,af,g⟩=some true)(hd:Nat.ble (d+1) n=true)
  (j:ev σ x=some (tV a)) (f:ev σ y=some (tV b)) (l:a.length+b.length<9223372036854775808) (h:HL P L S Q ord n ((d,tV (a++b))::σ) w):HL P L S Q ((i,true)::ord) n σ w:=by
 refine HL.run k m hd (fun c e w' _=>?_) h;simp only[execOp,e.ev j,e.ev f];rw[Nr,DM w' l];rfl
class IsAr(P:Program)(t:TypeId)(k:outParam Nat)(e:outParam TypeId):Prop where
 ok:P.underlying t=some (.array k e)
theorem o5{p p':Nat→Option (Nat×Nat)}(h:∀i q,p i=some q→p' i=some q):∀(parts:List (Nat×Value)) (cells out:Array Value),Instr.fill p cells parts=some out→Instr.fill p' cells parts=some out
 |[],cells,out,e=>e
 |(i,v)::r,cells,out,e=>by
  unfold Instr.fill at e⊢
  cases a:p i with
  |none=>rw[a]at e;cases e
  |some q=>
   obtain⟨off,size⟩:=q;rw[a]at e
   rw[h i _ a];dsimp only at e⊢
   split at e
   ·cases e
   ·rename_i b
    rw[OD b];exact o5 h r _ out e
def BP:Nat→Nat→List (Nat×Nat)
 |0,_=>[]
 |k+1,o=>(o,1)::BP k (o+1)
theorem BQ:∀(k o i:Nat) (q:Nat×Nat),(BP k o)[i]?=some q→q=(o+i,1)
 |0,o,i,q,h=>by simp[BP]at h
 |k+1,o,0,q,h=>by simp[BP]at h;rw[←h];rfl
 |k+1,o,i+1,q,h=>by
  simp only[BP,KQ]at h
  rw[BQ k (o+1) i q h,show o+1+i=o+(i+1) by omega]
theorem dY{parts:List (Nat×Operand)}{vs:List Value}{k:Nat}{e:TypeId}{zs out:List Value}(v:gd L σ ⟨some d,.build t parts.toArray,ty,pos,af,g⟩=some true)(hd:Nat.ble (d+1) n=true)
  (s:nK σ (Fq parts)=some vs) [E:IsZC P t zs] [u:IsAr P t k e] [F:IsC P e 1 false] (hf:oR (BP k 0) zs ((parts.map (·.1)).zip vs)=some out)
  (h:WL P L Q rest n ((d,.agg out.toArray)::σ) w):WL P L Q (⟨some d,.build t parts.toArray,ty,pos,af,g⟩::rest) n σ w:=by
 refine WL.run v hd (fun a G=>?_) h;obtain⟨i,z,f,c,b⟩:=E.ok;obtain⟨j,dd,m,l,_,_⟩:=F.ok;have C:=nL G (Fq parts) vs s;have B:(parts.toArray.map fun x=>(x.1,a.eval x.2)).toList=(parts.map (·.1)).zip vs:=by
  rw[←C];clear s hf v h C
  induction parts with
  |nil=>simp[Fq]
  |cons p r D=>simpa[Fq]using D
 have A:=o5 (p':=fun i=>some (i*1,1)) (fun i q hq=>by
  have o:(BP k 0)[i]?=some q:=by simpa using hq
  rw[BQ k 0 i q o];simp) _ _ _ (oS (BP k 0) _ _ _ hf)
 simp only[MU]at A
 simp only[execOp,Instr.build,zeroValue,typeInfo,f,c,b,OP u.ok,sizeOf,m,l];simp[f,c,b,OP u.ok,m,l];simp at B
 rw[B,A];rfl
theorem eJ{k i:Nat}{e:TypeId}{kd:IntKind}{cells:List Value}{v:Value}(s:gd L σ ⟨some d,.index t x ix,ty,pos,af,g⟩=some true)(hd:Nat.ble (d+1) n=true)
  (q:ev σ x=some (.agg cells.toArray)) (hi:ev σ ix=some (.int kd (i:Int))) [z:IsAr P t k e] [u:IsC P e 1 false] (h1:i<k) (f:zY cells i=some v)
  (h:WL P L Q rest n ((d,v)::σ) w):WL P L Q (⟨some d,.index t x ix,ty,pos,af,g⟩::rest) n σ w:=by
 obtain⟨j,dd,p,o,m,l⟩:=u.ok;rw[zZ]at f
 have b:(isAgg e).run P w=.ok false w:=by
  unfold isAgg;rw[Nr,OP m w,←l];cases dd<;>rfl
 have r:cells.toArray[i]?=some v:=by simpa using f
 refine WL.run s hd (fun a c=>?_) h;simp[execOp,c.ev q,c.ev hi,Instr.index,asIntOf,OP z.ok,h1,sizeOf,typeInfo,p,o,part,b,f]
end
theorem vI(w0:World){ao:Option Addr}{cap:Nat}{xs:List ByteArray}(x:ByteArray)(c:Sl w0 (c7 w0) ao cap xs):
  Rt Tryz.prog 108 [.slice ao xs.length cap,.string x].toArray w0 fun v w'=>v=Pq (idxOf (fun y=>x.data.toList==y.data.toList) xs)∧w0=w':=by
 have l:=c.len63;refine dE Tryz.func108 Tryz.ntmps108 rfl rfl ?_;refine QZ ?_;refine CW.loop (S:=Nat) (fun k=>[(0,.slice ao xs.length cap),(1,.string x),(7,Pq xs.length),(8,Pq k)])
  (fun k w=>k≤xs.length∧w0=w∧∀j (h:j<xs.length),j<k→(x.data.toList==xs[j].data.toList)=false) (fun k=>xs.length -k) 0 OZ ⟨by omega,rfl,by omega⟩ ?_
 rintro k w ⟨m,rfl,hn⟩
 refine Qm ?_;apply CW.cond rfl<;>intro h
 ·simp at h
  refine PL ?_;refine eC rfl rfl rfl rfl rfl c h O_ (fun u q f=>?_);obtain⟨rfl,_⟩:=f.str;refine PE ?_;refine CW.cond rfl (fun b=>?_) (fun b=>?_)
  ·refine Pt ?_
   refine be rfl rfl ⟨?_,rfl⟩;rw[vb h hn b]
  ·refine Pz ?_
   refine EX.back (k+1) OZ ⟨h,rfl,?_⟩ O0;intro j a i
   by_cases e:j=k
   ·subst e;exact b
   ·exact hn j a O0
 ·simp at h
  refine P3 ?_;refine be rfl rfl ⟨?_,rfl⟩;rw[vi (fun j a=>hn j a O0)]
instance sy:IsZ Tryz.prog 9 (⟨#[]⟩:ByteArray) 16:=IsZ.of (z:=.string ⟨#[]⟩) O1 (fun _ _=>⟨rfl,by decide⟩)
theorem vW(w0:World){so fo:Option Addr}{sc fc k:Nat}{ns:List cG}(y:Sl w0 (c7 w0) so sc ns)(D:ns.length≤1000):
  Rt Tryz.prog 10 [Cl so sc fo fc ns.length k].toArray w0 fun v w'=>Own w' w0.heap.size 9 cZ v (ns.map (·.1))∧Ext w0 w':=by
 refine dD Tryz.func10 Tryz.ntmps10 rfl rfl ?_;refine Pu ?_;refine dX rfl rfl rfl fun C E A=>?_
 refine QS ?_;refine CW.loop (S:=Nat×Value) (fun s=>[(7,.slice so ns.length sc),(8,Pq ns.length),(9,Pq s.1),(3,s.2)])
  (fun s w=>s.1≤ns.length∧Own w w0.heap.size 9 cZ s.2 ((ns.take s.1).map (·.1))∧Ext w0 w) (fun s=>ns.length -s.1) (0,.slice none 0 0) OZ ⟨M9 _,Own.nil,A⟩ ?_
 rintro⟨i,v⟩ w ⟨hi,d,e⟩
 dsimp only at hi d e⊢
 refine Qm ?_;apply CW.cond rfl<;>intro h
 ·have a:i<ns.length:=by simpa using h
  refine Q6 ?_;refine eC rfl rfl rfl rfl rfl (y.up e) a O_ (fun u q f=>?_);have j:ns[i].1.size≤maxLen:=by
   obtain⟨c1,c2,_,h1,_⟩:=f.pr;exact h1.2
  rw[f.node];clear f;skip;refine WL.alloc rfl rfl (fun B c p=>?_);refine WL.st rfl rfl rfl c rfl rfl Pk (fun t c m=>?_);have o:Ext w t:=p.grown m p.size Pb;have ho3:=d.extN o;have b:=e.trans o;refine QM ?_;refine dW (F:=cZ) (yv:=ns[i].1) rfl rfl O_ rfl rfl O_ ho3 (Rd.mkStr _ _ _ j) b.size Pc O2 (by rw[Ln,Lv];unfold maxLen;omega) (by rw[Ln,Lv];omega) (fun x r q ho4 l hnb=>?_);have n:Ext w0 r:=b.grown l b.size (fun g z=>(ho3.lt g z).1);refine P6 ?_;refine EX.back (i+1,x) OZ ⟨a,?_,n⟩ O4;rw[show(ns.take (i+1)).map (·.1)=(ns.take i).map (·.1)++[ns[i].1] by rw[Mj a,Lz];rfl];exact ho4
 ·obtain rfl:i=ns.length:=by simp at h;omega
  rw[Mf]at d
  refine P3 ?_;exact be rfl rfl ⟨d,e⟩
theorem gg(w0:World){eo lo:Option Addr}{ec k:Nat}{b:List cE}{l:List Int}(B:Sl w0 (c7 w0) eo ec b)(z:Sl w0 (c7 w0) lo k l)(A:Ax b.length l)(I:l.length≤1099511627776):
  Rt Tryz.prog 14 [.slice eo b.length ec,.slice lo l.length k].toArray w0 fun v w'=>Own w' w0.heap.size 3 cZ v (l.map fun n=>(b.getD n.toNat (0,0)).1)∧Ext w0 w':=by
 refine dE Tryz.func14 Tryz.ntmps14 rfl rfl ?_;have J:=z.len63;have G:=B.len63;refine QZ ?_;refine CW.loop (S:=Nat×Value) (fun s=>[(0,.slice eo b.length ec),(8,.slice lo l.length k),(9,Pq l.length),(10,Pq s.1),(5,s.2)])
  (fun s w=>s.1≤l.length∧Own w w0.heap.size 3 cZ s.2 ((l.take s.1).map fun n=>(b.getD n.toNat (0,0)).1)∧Ext w0 w) (fun s=>l.length -s.1) (0,.slice none 0 0) OZ ⟨M9 _,Own.nil,Ext.refl _⟩ ?_
 rintro⟨i,v⟩ w ⟨hi,e,d⟩
 dsimp only at hi e d⊢
 refine Qm ?_;apply CW.cond rfl<;>intro h
 ·have c:i<l.length:=by simpa using h
  obtain⟨a,ea⟩:=J2 (A _ (K8 c)).1;have C:a<b.length:=by have:=(A _ (K8 c)).2;omega
  obtain⟨kb,koff,rfl,hF,cs,p,m⟩:=(B.up d).el a C;obtain⟨c1,c2,f,h1,h2⟩:=C2 m;rw[CX h1]at f
  have r:Cells w kb (koff+a*sz cE) [Pq b[a].1]:=by
   intro j u x
   cases j with
   |zero=>exact p 0 u (by rw[f];exact x)
   |succ j=>simp at x
  refine Q6 ?_;refine eB rfl rfl rfl rfl rfl (z.up d) c ea O_ (fun q=>?_);refine Qj ?_;refine eH (α:=cE) rfl rfl rfl rfl O0 O0 ?_;refine Rg ?_;refine WL.load (α:=Int) (F:=cZ) (y:=b[a].1) rfl rfl rfl (by rw[J7];exact r) rfl ?_;rw[show Il Int [Pq b[a].1]=Pq b[a].1 from rfl];skip;refine dW (F:=cZ) (yv:=b[a].1) rfl rfl O_ rfl rfl O_ e Pl d.size Pc O2 (by rw[Ln,Lv];unfold maxLen;omega) (by rw[Ln,Lv];omega) (fun E D q ho4 o hnb=>?_);have t:Ext w0 D:=d.grown o d.size (fun g H=>(e.lt g H).1);refine P6 ?_;refine EX.back (i+1,E) OZ ⟨c,?_,t⟩ O4;rw[show(l.take (i+1)).map (fun n=>(b.getD n.toNat (0,0)).1)=(l.take i).map (fun n=>(b.getD n.toNat (0,0)).1)++[b[a].1] by
   rw[Mj c,Lz];simp only[LB,LD];rw[ea,J7,KN,KT C];rfl]
  exact ho4
 ·obtain rfl:i=l.length:=by simp at h;omega
  rw[Mf]at e
  refine P3 ?_;exact be rfl rfl ⟨e,d⟩
theorem u5(x:ByteArray)(a:List ByteArray):idxOf (fun y:ByteArray=>x.data.toList==y.data.toList) a=u4 a x.data.toList:=by
 unfold idxOf u4;rw[show(fun y:ByteArray=>x.data.toList==y.data.toList)=fun y=>y.data.toList==x.data.toList from funext fun y=>Bool.beq_comm]
 all_goals rfl
theorem qL{a:List ByteArray}{i:Nat}(h:i<a.length):a.getD i ⟨#[]⟩=a[i]:=by rw[KN,KT h];rfl
inductive ShT(kk:Int→Int):Ltl→Prop
 |mk (k n:Int) (kids:List Ltl):kk k=kids.length→0≤n→n≤63→(∀x∈kids,ShT kk x)→ShT kk (.mk k n kids)
mutual
theorem jC:∀(t:Ltl) (d c:Int),(jw t d c).1=0→ShT wO t∧(jw t d c).2=c+t.nodes
 |.mk k n kids,d,c,h=>by
  simp only[jw]at h⊢
  split at h
  ·cases h
  split at h
  ·cases h
  split at h
  ·cases h
  rename_i h1 h2 h3;rw[OD h1,OD h2,OD h3];have⟨g1,g2⟩:=jz kids (d+1) (c+1) h;simp only[OI]at h3
  refine⟨.mk k n kids O0 O0 O0 g1,?_⟩;rw[g2];simp only[Ltl.nodes];omega
theorem jz:∀(l:List Ltl) (d c:Int),(jx l d c).1=0→(∀x∈l,ShT wO x)∧(jx l d c).2=c+Ltl.nodesL l
 |[],d,c,h=>⟨fun x a=>by(cases a),by simp[jx,Ltl.nodesL]⟩
 |y::r,d,c,h=>by
  simp only[jx]at h⊢
  split at h
  ·rename_i h1;exact absurd h h1
  rename_i h1;rw[OD h1];have⟨g1,g2⟩:=jC y d c (by simpa using h1);have⟨g3,g4⟩:=jz r d _ h;refine⟨fun x a=>?_,?_⟩
  ·rcases LI.1 a with rfl|a
   ·exact g1
   ·exact g3 x a
  ·rw[g4,g2];simp only[Ltl.nodesL];omega
end
section
variable {P:Program}{Q:Exit→Act→World→Prop}{n:Nat}{σ:Sg}{w wc:World}{L:List Oper}{S:World→Prop}{ord:List (Nat×Bool)}{i d:Nat}{ty:TypeId}{pos:String}{af:Array Edge}{g:Option (Nat×Bool)}{t e:TypeId}{x:Operand}{b o:Nat}{cells:List Value}
theorem cm{v:Value}(q:∀f,S f→Blk f b e cells)(l:zU L i=some ⟨some d,.load t x,ty,pos,af,g⟩)(m:gd L σ ⟨some d,.load t x,ty,pos,af,g⟩=some true)(hd:Nat.ble (d+1) n=true)(j:ev σ x=some (.pointer (some ⟨b,o,none⟩)))[r:IsC P t 1 false](k:zY cells o=some v)
  (h:HL P L S Q ord n ((d,v)::σ) wc):HL P L S Q ((i,true)::ord) n σ wc:=by
 refine HL.run l m hd (fun a p w' c=>?_) h;simp[execOp,p.ev j,DS (P:=P) (t:=t) w' (q w' c) k]
theorem cg{vs:List Value}{k:Nat}(r:∀f,S f→Blk f b e cells)(m:zU L i=some ⟨some d,.load t x,ty,pos,af,g⟩)(p:gd L σ ⟨some d,.load t x,ty,pos,af,g⟩=some true)(hd:Nat.ble (d+1) n=true)(j:ev σ x=some (.pointer (some ⟨b,o,none⟩)))[s:IsC P t k true](l:Et cells o k=some vs)
  (h:HL P L S Q ord n ((d,.agg vs.toArray)::σ) wc):HL P L S Q ((i,true)::ord) n σ wc:=by
 refine HL.run m p hd (fun a q w' c=>?_) h;simp[execOp,q.ev j,DT (P:=P) (t:=t) w' (r w' c) l]
end
instance tE:IsFd Tryz.prog 197 0 0:=IsFd.of O1
instance tF:IsFd Tryz.prog 197 1 1:=IsFd.of O1
instance tG:IsBd Tryz.prog 197 [(0,1),(1,1)]:=IsBd.of O1
instance tH:IsZC Tryz.prog 197 [.slice none 0 0,.bool false]:=IsZC.of (z:=.agg #[.slice none 0 0,.bool false]) O1 rfl
instance tI:IsAr Tryz.prog 246 10 9:=⟨Tryz.underlying246⟩
abbrev zq:Value:=.string ⟨#[]⟩
instance tJ:IsZC Tryz.prog 246 [zq,zq,zq,zq,zq,zq,zq,zq,zq,zq]:=IsZC.of (z:=.agg #[zq,zq,zq,zq,zq,zq,zq,zq,zq,zq]) O1 rfl
theorem xS(w0:World){no:Option Addr}{m:Nat}{a:List ByteArray}(hn:Sl w0 (c7 w0) no m a)(n:Int)(q:0≤n):
  Rt Tryz.prog 174 [Pq n,.slice no a.length m].toArray w0 fun v w'=>v=tV (zl a n)∧Ext w0 w':=by
 have s:=hn.len63;refine dE Tryz.func174 Tryz.ntmps174 rfl rfl ?_;obtain⟨i,rfl⟩:=J2 q;refine Qm ?_;apply CW.cond rfl<;>intro h
 ·refine QJ ?_
  refine be rfl rfl ⟨?_,Ext.refl _⟩;have:(i:Int)=63:=by simpa using h
  unfold zl;rw[OE this];rfl
 have f:¬(i:Int)=63:=by simpa using h
 refine QN ?_
 (refine eV rfl rfl (fun h=>?_) (fun h=>?_))
 ·have h1:(i:Int)≥(a.length:Int):=by simpa using h
  refine Q3 ?_;refine be rfl rfl ⟨?_,Ext.refl _⟩;unfold zl;rw[OD f,OE h1];rfl
 have h1:¬(i:Int)≥(a.length:Int):=by simpa using h
 have hi:i<a.length:=by omega
 refine Ra ?_;refine eC rfl rfl rfl rfl rfl hn hi O_ (fun k l c=>?_);obtain⟨rfl,_⟩:=c.str;skip;refine WL.call rfl rfl rfl (cX w0 a[i]) ?_;rintro _ p ⟨rfl,j⟩
 refine Ra ?_
 (refine eV rfl rfl (fun h=>?_) (fun h=>?_))
 ·refine Q3 ?_
  refine be rfl rfl ⟨?_,j⟩;unfold zl;rw[OD f,OD h1,OE (by rw[J7,qL hi];simpa using h)];rfl
 have h2:¬yR a[i]=false:=by simpa using h
 refine Ra ?_;refine eC rfl rfl rfl rfl rfl (hn.up j) hi O_ (fun k l c=>?_);obtain⟨rfl,_⟩:=c.str;skip;refine WL.call rfl rfl rfl (vI p a[i] (hn.up j)) ?_;rintro _ r ⟨rfl,rfl⟩
 refine PE ?_;apply CW.cond rfl<;>intro h
 ·refine QJ ?_
  refine be rfl rfl ⟨?_,j⟩;unfold zl;rw[OD f,OD h1,OD (by rw[J7,qL hi];exact h2),OE (by rw[J7,qL hi,←u5];simpa using h)];rfl
 refine Qf ?_;refine eC rfl rfl rfl rfl rfl (hn.up j) hi O_ (fun k l c=>?_);obtain⟨rfl,_⟩:=c.str;refine PB ?_;refine be rfl rfl ⟨?_,j⟩;unfold zl;rw[OD f,OD h1,OD (by rw[J7,qL hi];exact h2),OD (by rw[J7,qL hi,←u5];simpa using h)];rw[J7,qL hi,tV,HT]
theorem xq(w0:World)(k i x:Int):Rt Tryz.prog 221 [Pq k,Pq i,Pq x].toArray w0 fun v w'=>v=.bool (g_ k i x)∧w0=w':=by
 refine dF Tryz.func221 Tryz.ntmps221 rfl rfl ?_;unfold g_;refine Qc ?_;apply CW.cond rfl<;>intro h
 ·have a:x=5:=by simpa using h
  rw[OE a];clear h;refine PO ?_
  (refine eV rfl rfl (fun h=>?_) (fun h=>?_))
  ·refine P5 ?_
   exact be rfl rfl ⟨by rw[h];rfl,rfl⟩
  ·rw[h]
   clear h;refine Ra ?_
   (refine eV rfl rfl (fun h=>?_) (fun h=>?_))
   ·refine PV ?_
    exact be rfl rfl ⟨by rw[h];rfl,rfl⟩
   ·refine P5 ?_
    exact be rfl rfl ⟨by rw[h];rfl,rfl⟩
 have f:¬x=5:=by simpa using h
 rw[OD f];refine Qm ?_;apply CW.cond rfl<;>intro h
 ·have h:x=6:=by simpa using h
  rw[OE h];clear h;refine PO ?_
  (refine eV rfl rfl (fun h=>?_) (fun h=>?_))
  ·refine PV ?_
   exact be rfl rfl ⟨by rw[h];rfl,rfl⟩
  ·refine P5 ?_
   exact be rfl rfl ⟨by rw[h];rfl,rfl⟩
 have c:¬x=6:=by simpa using h
 rw[OD c];refine az [(0,Pq k),(1,Pq i),(2,Pq x),(28,.bool (decide (x=8∨x=9)))] ?_ ?_
 ·refine Qm ?_
  apply CW.cond rfl<;>intro h
  ·refine Pw ?_
   refine aS ⟨rfl,rfl,rfl,?_,trivial⟩;refine Oq (fun b=>some (Value.bool b)) ?_;have:x=8:=by simpa using h
   simp[this]
  ·refine Qj ?_
   refine aS ⟨rfl,rfl,rfl,?_,trivial⟩;refine Oq (fun b=>some (Value.bool b)) ?_;have:¬x=8:=by simpa using h
   rw[JI];simp[this]
 apply CW.cond rfl<;>intro h
 ·rw[OE (by simpa using h)]
  clear h;refine PO ?_
  (refine eV rfl rfl (fun h=>?_) (fun h=>?_))
  ·refine PV ?_
   exact be rfl rfl ⟨by rw[h];rfl,rfl⟩
  ·refine P5 ?_
   exact be rfl rfl ⟨by rw[h];rfl,rfl⟩
 ·rw[OD (by simpa using h)]
  refine QQ ?_;exact be rfl rfl ⟨rfl,rfl⟩
theorem yJ(k n:Int)(l:List Ltl):(Ltl.mk k n l).k=k:=rfl
theorem yL(k n:Int)(l:List Ltl):(Ltl.mk k n l).n=n:=rfl
theorem yK(k n:Int)(l:List Ltl):(Ltl.mk k n l).kids=l:=rfl
theorem E4{kk:Int→Int}{k n:Int}{kids:List Ltl}(h:ShT kk (.mk k n kids)):kk k=kids.length∧0≤n∧n≤63∧∀x∈kids,ShT kk x:=by
 cases h with
 |mk _ _ _ h1 h2 h3 h4=>exact⟨h1,h2,h3,h4⟩
theorem H2{nm:Int→ar}{k n:Int}{x y:Ltl}(a:k=5∨k=6∨k=8∨k=9):
  H1 nm (.mk k n [x,y])=wJ (g_ k 0 x.k) (H1 nm x)++[32]++Fd k++[32]++wJ (g_ k 1 y.k) (H1 nm y):=by
 rcases a with rfl|rfl|rfl|rfl<;>simp[H1,H4,vZ]
theorem wL{w:World}{F:Nat→Prop}{c:List Value}{x:Ltl}(h:rd w F c x){b off:Nat}(d:Cells w b off c):Cells w b off [Pq x.k]:=by
 obtain⟨ao,cap,rfl,_⟩:=RdT.sl h;intro j u a
 cases j with
 |zero=>exact d 0 u a
 |succ j=>simp at a
abbrev fE(w:World)(bw:Nat)(no:Option Addr)(len a:Nat)(b:Bool):Prop:=Blk w bw 197 [.slice no len a,.bool b]
def cL(t:Ltl):Prop:=∀(w:World) (F:Nat→Prop) (bw:Nat) (ao:Option Addr) (cap:Nat) (no:Option Addr) (c:Nat) (a:List ByteArray) (b:Bool),Sl w F ao cap t.kids→Sl w F no c a→(∀k,F k→k<w.heap.size)→¬F bw→fE w bw no a.length c b→
 Rt Tryz.prog 105 [.pointer (some ⟨bw,0,none⟩),ye t.k t.n ao t.kids.length cap].toArray w fun v w'=>v=tV (H1 (zl a) t)∧fE w' bw no a.length c (b||gS (zl a) t)∧w.grownBy w' (some bw)
theorem xO{t:Ltl}{i:Nat}(hi:i<t.kids.length)(N:cL t.kids[i])(V:t.kids[i].nodes≤1000)(w:World)(F:Nat→Prop)(bw:Nat)(ao:Option Addr)(cap:Nat)(no:Option Addr)(m:Nat)(c:List ByteArray)(b:Bool)
  (z:Sl w F ao cap t.kids) (hn:Sl w F no m c) (hF:∀k,F k→k<w.heap.size) (hnb:¬F bw) (K:fE w bw no c.length m b):
  Rt Tryz.prog 175 [Pr bw,ye t.k t.n ao t.kids.length cap,Pq (i:Int)].toArray w fun v w'=>v=tV (wJ (g_ t.k i t.kids[i].k) (H1 (zl c) t.kids[i]))∧fE w' bw no c.length m (b||gS (zl c) t.kids[i])∧w.grownBy w' (some bw):=by
 have U:=z.len63;have R:=K.lt;have Q:=H3 (zm c) t.kids[i];obtain⟨kb,koff,rfl,g,X,D,A⟩:=z.el i hi;refine dF Tryz.func175 Tryz.ntmps175 rfl rfl ?_;refine Pu ?_;refine dX rfl rfl rfl fun s G l=>?_
 have j:∀k,F k→k<s.heap.size:=fun k d=>MK (hF k d) l.size
 have x:Sl s F _ cap t.kids:=z.mono (fun k d=>l.block k (hF k d)) fun _ h=>h
 have B:Sl s F no m c:=hn.mono (fun k d=>l.block k (hF k d)) fun _ h=>h
 refine QM ?_;refine eC rfl rfl rfl rfl rfl x hi O_ (fun u q P=>?_);obtain⟨ao',cap',rfl,O⟩:=P.ltl;skip;refine WL.call rfl rfl rfl (N s F bw ao' cap' no m c b O B j hnb (K.ext l)) ?_;rintro _ r ⟨rfl,H,f⟩
 have J:=G.kept f Ph;have o:∀k,F k→k<r.heap.size:=fun k d=>MK (j k d) f.size
 have C:r.heap[kb]?=w.heap[kb]?:=(f.block kb (j kb g) (fun e=>by cases e;exact hnb g)).trans (l.block kb (hF kb g));have E:Cells r kb (koff+i*sz Ltl) [Pq t.kids[i].k]:=wL (Rep.mono A (fun k d=>(f.block k (j k d) (fun e=>by cases e;exact hnb d)).trans (l.block k (hF k d))) fun _ h=>h) (D.mono C);have S:w.grownBy r (some bw):=rJ (l.grw (some bw)) f;generalize W:H1 (zl c) t.kids[i]=T at*
 refine Q7 ?_;refine dm (α:=Ltl) rfl rfl rfl rfl O0 O0 ?_;refine Ri ?_;refine QL.load (α:=Int) (F:=F) (y:=t.kids[i].k) rfl rfl rfl (o kb g) o (by rw[J7];exact E) rfl ?_;rw[show Il Int [Pq t.kids[i].k]=Pq t.kids[i].k from rfl];skip;refine QL.call rfl rfl rfl (fun w' h=>Rt.mono (xq w' t.k i t.kids[i].k) (fun v w'' I=>⟨I.1,I.2▸Ext.refl _⟩)) ?_;refine QL.nil (fun M L=>?_);have p:w.grownBy M (some bw):=rJ S (L.grw (some bw));have n:=H.ext L;unfold wJ;refine Pv ?_;apply CW.cond rfl<;>intro h
 ·rw[OE h]
  refine QJ ?_;exact be rfl rfl ⟨rfl,n,p⟩
 ·rw[OD (by rw[h];decide)]
  refine Qf ?_;refine d9 (a:=[40]) (b:=T) rfl rfl rfl rfl O7 ?_;refine d9 (a:=[40]++T) (b:=[41]) rfl rfl rfl rfl O8 ?_;refine PB ?_;exact be rfl rfl ⟨rfl,n,p⟩
set_option maxHeartbeats 1000000 in
theorem x_:∀(m:Nat) (t:Ltl),t.nodes≤m→m≤1000→ShT wO t→cL t
 |0,t,hm,_,_=>by have:=t.nodes_pos;omega
 |m+1,.mk k n kids,hm,hm1,Y=>by
  intro w F bw ao cap no V c b hs hn hF hnb hb
  obtain⟨j,h0,h63,J⟩:=E4 Y;simp only[Ltl.nodes]at hm
  have C:∀i (hi:i<kids.length),kids[i].nodes≤m:=fun i hi=>by have:=Ltl.nodes_kid kids _ (K8 hi);omega
  have ihk:∀i (hi:i<kids.length),cL kids[i]:=fun i hi=>x_ m kids[i] (C i hi) O0 (J _ (K8 hi))
  have v:∀i (hi:i<kids.length),(H1 (zl c) kids[i]).length≤8000:=fun i hi=>by have:=H3 (zm c) kids[i];have:=C i hi;omega
  have hbl:=hb.lt;simp only[yK]at hs
  simp only[yJ,yL,yK];refine dE Tryz.func105 Tryz.ntmps105 rfl rfl ?_;refine Pu ?_;refine dX rfl rfl rfl fun s S M=>?_
  have r:∀k,F k→k<s.heap.size:=fun k j=>MK (hF k j) M.size
  have I:Sl s F ao cap kids:=hs.mono (fun k j=>M.block k (hF k j)) fun _ h=>h
  have E:Sl s F no V c:=hn.mono (fun k j=>M.block k (hF k j)) fun _ h=>h
  have D:=hb.ext M;have p:w.grownBy s (some bw):=M.grw (some bw);have hl3:=S.lt;refine QS ?_;apply CW.cond rfl<;>intro h
  ·obtain rfl:k=1:=by simpa using h
   obtain rfl:kids=[]:=Kx (by have:wO 1=0:=rfl;omega);refine Pt ?_;exact be rfl rfl ⟨rfl,by simpa[gS,gT]using D,p⟩
  have k1:¬k=1:=by simpa using h
  refine Qm ?_;apply CW.cond rfl<;>intro h
  ·obtain rfl:k=2:=by simpa using h
   obtain rfl:kids=[]:=Kx (by have:wO 2=0:=rfl;omega);refine Pt ?_;exact be rfl rfl ⟨rfl,by simpa[gS,gT]using D,p⟩
  have k2:¬k=2:=by simpa using h
  refine Qm ?_;apply CW.cond rfl<;>intro h
  ·obtain rfl:k=3:=by simpa using h
   obtain rfl:kids=[]:=Kx (by have:wO 3=0:=rfl;omega);refine Q9 ?_;refine QL.call rfl rfl rfl (fun w' h=>xS w' ((E.mono (fun k j=>h.block k (r k j)) fun _ h=>h).lift fun k j=>MK (r k j) h.size) n h0) ?_;refine Rf ?_;refine QL.nil (fun B e2=>?_);have d:=D.ext e2;refine QD ?_
   (refine eV rfl rfl (fun h=>?_) (fun h=>?_))
   ·refine Rk ?_
    refine WL.st rfl rfl rfl d rfl rfl Pk (fun W l A=>?_);refine Pt ?_;refine be rfl rfl ⟨by simp[H1,vZ],?_,rJ (rJ p (e2.grw _)) A⟩;rw[h];exact l
   ·refine Rn ?_
    refine WL.st rfl rfl rfl d rfl rfl Pk (fun W l A=>?_);refine Pt ?_;refine be rfl rfl ⟨by simp[H1,vZ],?_,rJ (rJ p (e2.grw _)) A⟩;rw[h,show(false||gS (zl c) (.mk 3 n []))=((HR (zl c n)).data.toList==(⟨#[]⟩:ByteArray).data.toList) by rw[HU];simp[gS,gT]];exact l
  have k3:¬k=3:=by simpa using h
  have u:∀K,wO K=1→k=K→∃x,kids=[x]:=fun K hK e=>Lj.1 (by rw[e]at j;omega)
  have q:∀i (hi:i<kids.length),_:=fun i hi=>xO (t:=.mk k n kids) (i:=i) hi (ihk i hi) (by have:=C i hi;show kids[i].nodes≤1000;omega) s F bw ao cap no V c b I E r hnb D
  simp only[yJ,yL,yK]at q
  refine Qm ?_;apply CW.cond rfl<;>intro h
  ·have g:k=4:=by simpa using h
   obtain⟨x,rfl⟩:=u 4 rfl g;have o:=v 0 O3;have G:=wK (g_ k ((0:Nat):Int) x.k) (H1 (zl c) x);simp only[K5]at o
   refine Q0 ?_;refine WL.call rfl rfl rfl (q 0 O3) ?_;rintro _ B ⟨rfl,d,f⟩
   simp only[K5]at d⊢
   refine d9 (a:=[33]) rfl rfl rfl rfl O7 ?_;refine PV ?_;subst g;exact be rfl rfl ⟨by simp[H1,H4,vZ],by simpa[gS,gT]using d,rJ p f⟩
  refine Qm ?_;apply CW.cond rfl<;>intro h
  ·have g:k=7:=by simpa using h
   obtain⟨x,rfl⟩:=u 7 rfl g;have o:=v 0 O3;have G:=wK (g_ k ((0:Nat):Int) x.k) (H1 (zl c) x);simp only[K5]at o
   refine Q0 ?_;refine WL.call rfl rfl rfl (q 0 O3) ?_;rintro _ B ⟨rfl,d,f⟩
   simp only[K5]at d⊢
   refine d9 (a:=[88,32]) rfl rfl rfl rfl O7 ?_;refine PV ?_;subst g;exact be rfl rfl ⟨by simp[H1,H4,vZ],by simpa[gS,gT]using d,rJ p f⟩
  refine Qm ?_;apply CW.cond rfl<;>intro h
  ·have g:k=10:=by simpa using h
   obtain⟨x,rfl⟩:=u 10 rfl g;have o:=v 0 O3;have G:=wK (g_ k ((0:Nat):Int) x.k) (H1 (zl c) x);simp only[K5]at o
   refine Q0 ?_;refine WL.call rfl rfl rfl (q 0 O3) ?_;rintro _ B ⟨rfl,d,f⟩
   simp only[K5]at d⊢
   refine d9 (a:=[70,32]) rfl rfl rfl rfl O7 ?_;refine PV ?_;subst g;exact be rfl rfl ⟨by simp[H1,H4,vZ],by simpa[gS,gT]using d,rJ p f⟩
  refine Qm ?_;apply CW.cond rfl<;>intro h
  ·have g:k=11:=by simpa using h
   obtain⟨x,rfl⟩:=u 11 rfl g;have o:=v 0 O3;have G:=wK (g_ k ((0:Nat):Int) x.k) (H1 (zl c) x);simp only[K5]at o
   refine Q0 ?_;refine WL.call rfl rfl rfl (q 0 O3) ?_;rintro _ B ⟨rfl,d,f⟩
   simp only[K5]at d⊢
   refine d9 (a:=[71,32]) rfl rfl rfl rfl O7 ?_;refine PV ?_;subst g;exact be rfl rfl ⟨by simp[H1,H4,vZ],by simpa[gS,gT]using d,rJ p f⟩
  have Q:(k=5∨k=6∨k=8∨k=9)∧kids.length=2:=by
   rcases wP j with⟨_,e⟩|⟨_,e⟩|⟨M,e⟩
   ·omega
   ·simp only[Oj,Oi]at*;omega
   ·exact⟨e,M⟩
  obtain⟨L,hk2⟩:=Q;obtain⟨x,y,rfl⟩:∃x y,kids=[x,y]:=by
   match kids,hk2 with
   |[x,y],_=>exact⟨x,y,rfl⟩
  have o:=v 0 O3;have hly:=v 1 O3;simp only[K5,K4]at o hly
  have hkx:=wK (g_ k ((0:Nat):Int) x.k) (H1 (zl c) x);have G:=wK (g_ k ((1:Nat):Int) y.k) (H1 (zl c) y);obtain⟨ki,rfl,hki,Z⟩:∃i:Nat,k=(i:Int)∧i<10∧zY [zq,zq,zq,zq,zq,tV [38],tV [47],zq,tV [85],tV [82]] i=some (tV (Fd k)):=by
   rcases L with rfl|rfl|rfl|rfl
   ·exact⟨5,rfl,by decide,rfl⟩
   ·exact⟨6,rfl,by decide,rfl⟩
   ·exact⟨8,rfl,by decide,rfl⟩
   ·exact⟨9,rfl,by decide,rfl⟩
  have hsl:(Fd (ki:Int)).length≤1:=by unfold Fd;(repeat' split)<;>decide
  generalize O:Fd (ki:Int)=sg at*
  refine Qk ?_;refine dY (out:=[zq,zq,zq,zq,zq,tV [38],tV [47],zq,tV [85],tV [82]]) rfl rfl rfl rfl ?_;refine Rl ?_;refine eJ rfl rfl rfl rfl hki Z ?_;refine Qm ?_;have U:Ext s (drew s):=Ext.drew s;have R:=S.ext U;refine aF (fun z:World=>z.heap[w.heap.size]?=(drew s).heap[w.heap.size]?) [(0,true),(1,true),(4,true),(7,true),(8,true),(2,false),(3,true),(5,true),(6,true),(9,false),(10,true),(11,true)] mixed O1 rfl ?_;have T:∀z:World,(fun z:World=>z.heap[w.heap.size]?=(drew s).heap[w.heap.size]?) z→Blk z w.heap.size 28 [Pq (ki:Int),Pq n,.slice ao 2 cap]:=fun z hz=>hz.trans R
  refine Rx ?_;refine cg T rfl rfl rfl rfl rfl ?_;refine Rx ?_;refine cg T rfl rfl rfl rfl rfl ?_;refine cr rfl (WL.call rfl rfl rfl (xO (t:=.mk (ki:Int) n [x,y]) (i:=0) (by simp[yK]) (ihk 0 O3) (by have:=C 0 O3;show x.nodes≤1000;simp only[K5]at this;omega) (drew s) F bw ao cap no V c b (I.mono (fun k j=>U.block k (r k j)) fun _ h=>h) (E.mono (fun k j=>U.block k (r k j)) fun _ h=>h) r hnb (D.ext U)) ?_);rintro _ B ⟨rfl,d,f⟩
  have N:B.heap[w.heap.size]?=(drew s).heap[w.heap.size]?:=f.block _ hl3 Ph;have hF2:∀k,F k→k<B.heap.size:=fun k j=>MK (r k j) f.size
  have P:s.grownBy B (some bw):=rJ (U.grw _) f;have H:∀k,F k→B.heap[k]?=s.heap[k]?:=fun k j=>P.block k (r k j) (fun e=>by cases e;exact hnb j)
  refine WL.nil (a_ N ?_);simp only[yJ,yK,K5]at d⊢
  refine bW (b:=[32]) rfl rfl rfl rfl rfl O7 ?_;refine bW (b:=sg) rfl rfl rfl rfl rfl O8 ?_;refine bW (b:=[32]) rfl rfl rfl rfl rfl O8 ?_;refine cr rfl (WL.call rfl rfl rfl (xO (t:=.mk (ki:Int) n [x,y]) (i:=1) (by simp[yK]) (ihk 1 O3) (by have:=C 1 O3;show y.nodes≤1000;simp only[K4,K5]at this;omega) B F bw ao cap no V c _ (I.mono H fun _ h=>h) (E.mono H fun _ h=>h) hF2 hnb d) ?_);rintro _ W ⟨rfl,l,A⟩
  have X:W.heap[w.heap.size]?=(drew s).heap[w.heap.size]?:=(A.block _ (by have:=f.size;have:s.heap.size≤B.heap.size:=this;omega) Ph).trans N;refine WL.nil (a_ X ?_);simp only[yJ,yK,K4,K5]at l⊢
  refine bW rfl rfl rfl rfl rfl O8 ?_;refine RJ ?_;refine PJ ?_;refine be rfl rfl ⟨by rw[H2 L,O];rfl,?_,rJ (rJ p P) A⟩;rw[show(b||gS (zl c) (.mk (ki:Int) n [x,y]))=(b||gS (zl c) x||gS (zl c) y) by
   have:((ki:Int)==3)=false:=by rcases L with e|e|e|e<;>rw[e]<;>rfl
   simp[gS,gT,this,Bool.or_assoc]]
  exact l
theorem xZ(w0:World){ao no:Option Addr}{cap i:Nat}{t:Ltl}{a:List ByteArray}(p:Sl w0 (c7 w0) ao cap t.kids)(hn:Sl w0 (c7 w0) no i a):
  Rt Tryz.prog 45 [ye t.k t.n ao t.kids.length cap,.slice no a.length i].toArray w0 fun v w'=>v=.tuple ⟨[tV (Ci t a).1,Pq (Ci t a).2]⟩∧Ext w0 w':=by
 refine dE Tryz.func45 Tryz.ntmps45 rfl rfl ?_;unfold Ci;refine Pu ?_;refine dX rfl rfl rfl fun y c u=>?_
 refine Q0 ?_;refine WL.call rfl rfl rfl (ya y (p.up u) Pe) ?_;rintro _ o ⟨rfl,s⟩
 have c:=c.ext s;have f:=u.trans s;refine Qm ?_;apply CW.cond rfl<;>intro h
 ·rw[OE (by simpa using h)]
  refine QJ ?_;exact bf rfl rfl rfl ⟨rfl,f⟩
 have q:(jw t 1 0).1=0:=by simpa using h
 rw[OD (by simpa using h)];obtain⟨j,z⟩:=jC t 1 0 q;have A:=(jB t 1 0 q).2;refine Qf ?_;refine WL.build rfl rfl rfl rfl ?_;refine dX rfl rfl rfl fun x d r=>?_
 have c:=c.ext r;have b:=f.trans r;refine Q0 ?_;refine WL.call rfl rfl rfl (x_ t.nodes t Pm O0 j x (c7 w0) o.heap.size ao cap no i a false (p.at b) (hn.at b) (fun k l=>MK l b.size) (fun l=>by have h1:o.heap.size<w0.heap.size:=l;have:=f.size;omega) d) ?_;rintro _ w ⟨rfl,n,m⟩
 have e:Ext w0 w:=b.grown m b.size (fun g B=>by cases B;exact f.size);rw[JL]at n
 refine Qw ?_;apply CW.cond rfl<;>intro h
 ·rw[OE h]
  refine QJ ?_;exact bf rfl rfl rfl ⟨rfl,e⟩
 ·rw[OD (by rw[h];decide)]
  refine QQ ?_;exact bf rfl rfl rfl ⟨rfl,e⟩
mutual
theorem jt:∀(t:Ltl) (d c:Int),(jm t d c).1=0→ShT wM t∧(jm t d c).2=c+t.nodes
 |.mk k n kids,d,c,h=>by
  simp only[jm]at h⊢
  split at h
  ·cases h
  split at h
  ·cases h
  split at h
  ·cases h
  rename_i h1 h2 h3;rw[OD h1,OD h2,OD h3];have⟨g1,g2⟩:=jq kids (d+1) (c+1) h;simp only[OI]at h3
  refine⟨.mk k n kids O0 O0 O0 g1,?_⟩;rw[g2];simp only[Ltl.nodes];omega
theorem jq:∀(l:List Ltl) (d c:Int),(jn l d c).1=0→(∀x∈l,ShT wM x)∧(jn l d c).2=c+Ltl.nodesL l
 |[],d,c,h=>⟨fun x a=>by(cases a),by simp[jn,Ltl.nodesL]⟩
 |y::r,d,c,h=>by
  simp only[jn]at h⊢
  split at h
  ·rename_i h1;exact absurd h h1
  rename_i h1;rw[OD h1];have⟨g1,g2⟩:=jt y d c (by simpa using h1);have⟨g3,g4⟩:=jq r d _ h;refine⟨fun x a=>?_,?_⟩
  ·rcases LI.1 a with rfl|a
   ·exact g1
   ·exact g3 x a
  ·rw[g4,g2];simp only[Ltl.nodesL];omega
end
theorem txtC_bin{nm:Int→ar}{n:Int}{x y:Ltl}:
  HW nm (.mk 5 n [x,y])=wJ (gZ 5 0 x.k) (HW nm x)++[32,38,32]++wJ (gZ 5 1 y.k) (HW nm y)∧HW nm (.mk 6 n [x,y])=wJ (gZ 6 0 x.k) (HW nm x)++[32,47,32]++wJ (gZ 6 1 y.k) (HW nm y)∧
  HW nm (.mk 10 n [x,y])=[69,32,91]++HW nm x++[32,85,32]++HW nm y++[93]∧HW nm (.mk 14 n [x,y])=[65,32,91]++HW nm x++[32,85,32]++HW nm y++[93]:=by
 refine⟨?_,?_,?_,?_⟩<;>simp[HW,HZ,vX]
theorem HY{nm:Int→ar}{k n:Int}{x:Ltl}(a:k=4∨k=7∨k=8∨k=9∨k=11∨k=12∨k=13):HW nm (.mk k n [x])=Fa k++wJ (gZ k 0 x.k) (HW nm x):=by
 rcases a with rfl|rfl|rfl|rfl|rfl|rfl|rfl<;>simp[HW,HZ,vX]
theorem gQ{nm:Int→ar}{k n:Int}{x y:Ltl}(a:k≠3)(b:Bool):(b||gS nm (.mk k n [x,y]))=(b||gS nm x||gS nm y):=by
 have:(k==3)=false:=by simpa using a
 simp[gS,gT,this,Bool.or_assoc]
theorem gP{nm:Int→ar}{k n:Int}{x:Ltl}(a:k≠3)(b:Bool):(b||gS nm (.mk k n [x]))=(b||gS nm x):=by
 have:(k==3)=false:=by simpa using a
 simp[gS,gT,this]
instance tw:IsFd Tryz.prog 201 0 0:=IsFd.of O1
instance tx:IsFd Tryz.prog 201 1 1:=IsFd.of O1
instance tz:IsBd Tryz.prog 201 [(0,1),(1,1)]:=IsBd.of O1
instance tB:IsZC Tryz.prog 201 [.slice none 0 0,.bool false]:=IsZC.of (z:=.agg #[.slice none 0 0,.bool false]) O1 rfl
instance tC:IsAr Tryz.prog 275 14 9:=⟨Tryz.underlying275⟩
abbrev zr:Value:=.string ⟨#[]⟩
instance tD:IsZC Tryz.prog 275 [zr,zr,zr,zr,zr,zr,zr,zr,zr,zr,zr,zr,zr,zr]:=IsZC.of (z:=.agg #[zr,zr,zr,zr,zr,zr,zr,zr,zr,zr,zr,zr,zr,zr]) O1 rfl
theorem kV(w0:World){k:Int}(c:k=4∨k=7∨k=8∨k=9∨k=11∨k=12∨k=13):Rt Tryz.prog 178 [Pq k].toArray w0 fun v w'=>v=tV (Fa k)∧Ext w0 w':=by
 obtain⟨ki,rfl,b,a⟩:∃i:Nat,k=(i:Int)∧i<14∧zY [zr,zr,zr,zr,tV [33],zr,zr,tV [69,88,32],tV [69,70,32],tV [69,71,32],zr,tV [65,88,32],tV [65,70,32],tV [65,71,32]] i=some (tV (Fa k)):=by
  rcases c with rfl|rfl|rfl|rfl|rfl|rfl|rfl
  ·exact⟨4,rfl,by decide,rfl⟩
  ·exact⟨7,rfl,by decide,rfl⟩
  ·exact⟨8,rfl,by decide,rfl⟩
  ·exact⟨9,rfl,by decide,rfl⟩
  ·exact⟨11,rfl,by decide,rfl⟩
  ·exact⟨12,rfl,by decide,rfl⟩
  ·exact⟨13,rfl,by decide,rfl⟩
 generalize Fa (ki:Int)=sg at*
 refine dD Tryz.func178 Tryz.ntmps178 rfl rfl ?_;refine Qm ?_;refine dY (out:=[zr,zr,zr,zr,tV [33],zr,zr,tV [69,88,32],tV [69,70,32],tV [69,71,32],zr,tV [65,88,32],tV [65,70,32],tV [65,71,32]]) rfl rfl rfl rfl ?_;refine Ra ?_;refine eJ rfl rfl rfl rfl b a ?_;refine PB ?_;exact be rfl rfl ⟨rfl,Ext.refl _⟩
theorem jb(w0:World)(k i x:Int):Rt Tryz.prog 222 [Pq k,Pq i,Pq x].toArray w0 fun v w'=>v=.bool (gZ k i x)∧w0=w':=by
 refine dF Tryz.func222 Tryz.ntmps222 rfl rfl ?_;unfold gZ;refine Qc ?_;apply CW.cond rfl<;>intro h
 ·have a:x=5:=by simpa using h
  rw[OE a];clear h;refine PO ?_
  (refine eV rfl rfl (fun h=>?_) (fun h=>?_))
  ·refine P5 ?_
   exact be rfl rfl ⟨by rw[h];rfl,rfl⟩
  ·rw[h]
   clear h;refine Ra ?_
   (refine eV rfl rfl (fun h=>?_) (fun h=>?_))
   ·refine PV ?_
    exact be rfl rfl ⟨by rw[h];rfl,rfl⟩
   ·refine P5 ?_
    exact be rfl rfl ⟨by rw[h];rfl,rfl⟩
 have c:¬x=5:=by simpa using h
 rw[OD c];refine Qm ?_;apply CW.cond rfl<;>intro h
 ·have h:x=6:=by simpa using h
  rw[OE h];clear h;refine PO ?_
  (refine eV rfl rfl (fun h=>?_) (fun h=>?_))
  ·refine PV ?_
   exact be rfl rfl ⟨by rw[h];rfl,rfl⟩
  ·refine P5 ?_
   exact be rfl rfl ⟨by rw[h];rfl,rfl⟩
 have b:¬x=6:=by simpa using h
 rw[OD b];refine QQ ?_;exact be rfl rfl ⟨rfl,rfl⟩
abbrev fF(w:World)(bw:Nat)(no:Option Addr)(len a:Nat)(b:Bool):Prop:=Blk w bw 201 [.slice no len a,.bool b]
def au(t:Ltl):Prop:=∀(w:World) (F:Nat→Prop) (bw:Nat) (ao:Option Addr) (cap:Nat) (no:Option Addr) (c:Nat) (a:List ByteArray) (b:Bool),Sl w F ao cap t.kids→Sl w F no c a→(∀k,F k→k<w.heap.size)→¬F bw→fF w bw no a.length c b→
 Rt Tryz.prog 106 [.pointer (some ⟨bw,0,none⟩),ye t.k t.n ao t.kids.length cap].toArray w fun v w'=>v=tV (HW (zl a) t)∧fF w' bw no a.length c (b||gS (zl a) t)∧w.grownBy w' (some bw)
theorem ke{t:Ltl}{i:Nat}(hi:i<t.kids.length)(N:au t.kids[i])(V:t.kids[i].nodes≤1000)(w:World)(F:Nat→Prop)(bw:Nat)(ao:Option Addr)(cap:Nat)(no:Option Addr)(m:Nat)(c:List ByteArray)(b:Bool)
  (z:Sl w F ao cap t.kids) (hn:Sl w F no m c) (hF:∀k,F k→k<w.heap.size) (hnb:¬F bw) (K:fF w bw no c.length m b):
  Rt Tryz.prog 177 [Pr bw,ye t.k t.n ao t.kids.length cap,Pq (i:Int)].toArray w fun v w'=>v=tV (wJ (gZ t.k i t.kids[i].k) (HW (zl c) t.kids[i]))∧fF w' bw no c.length m (b||gS (zl c) t.kids[i])∧w.grownBy w' (some bw):=by
 have U:=z.len63;have R:=K.lt;have Q:=HX (zm c) t.kids[i];obtain⟨kb,koff,rfl,g,X,D,A⟩:=z.el i hi;refine dF Tryz.func177 Tryz.ntmps177 rfl rfl ?_;refine Pu ?_;refine dX rfl rfl rfl fun s G l=>?_
 have j:∀k,F k→k<s.heap.size:=fun k d=>MK (hF k d) l.size
 have x:Sl s F _ cap t.kids:=z.mono (fun k d=>l.block k (hF k d)) fun _ h=>h
 have B:Sl s F no m c:=hn.mono (fun k d=>l.block k (hF k d)) fun _ h=>h
 refine QM ?_;refine eC rfl rfl rfl rfl rfl x hi O_ (fun u q P=>?_);obtain⟨ao',cap',rfl,O⟩:=P.ltl;skip;refine WL.call rfl rfl rfl (N s F bw ao' cap' no m c b O B j hnb (K.ext l)) ?_;rintro _ r ⟨rfl,H,f⟩
 have J:=G.kept f Ph;have o:∀k,F k→k<r.heap.size:=fun k d=>MK (j k d) f.size
 have C:r.heap[kb]?=w.heap[kb]?:=(f.block kb (j kb g) (fun e=>by cases e;exact hnb g)).trans (l.block kb (hF kb g));have E:Cells r kb (koff+i*sz Ltl) [Pq t.kids[i].k]:=wL (Rep.mono A (fun k d=>(f.block k (j k d) (fun e=>by cases e;exact hnb d)).trans (l.block k (hF k d))) fun _ h=>h) (D.mono C);have S:w.grownBy r (some bw):=rJ (l.grw (some bw)) f;generalize W:HW (zl c) t.kids[i]=T at*
 refine Q7 ?_;refine dm (α:=Ltl) rfl rfl rfl rfl O0 O0 ?_;refine Ri ?_;refine QL.load (α:=Int) (F:=F) (y:=t.kids[i].k) rfl rfl rfl (o kb g) o (by rw[J7];exact E) rfl ?_;rw[show Il Int [Pq t.kids[i].k]=Pq t.kids[i].k from rfl];skip;refine QL.call rfl rfl rfl (fun w' h=>Rt.mono (jb w' t.k i t.kids[i].k) (fun v w'' I=>⟨I.1,I.2▸Ext.refl _⟩)) ?_;refine QL.nil (fun M L=>?_);have p:w.grownBy M (some bw):=rJ S (L.grw (some bw));have n:=H.ext L;unfold wJ;refine Pv ?_;apply CW.cond rfl<;>intro h
 ·rw[OE h]
  refine QJ ?_;exact be rfl rfl ⟨rfl,n,p⟩
 ·rw[OD (by rw[h];decide)]
  refine Qf ?_;refine d9 (a:=[40]) (b:=T) rfl rfl rfl rfl O7 ?_;refine d9 (a:=[40]++T) (b:=[41]) rfl rfl rfl rfl O8 ?_;refine PB ?_;exact be rfl rfl ⟨rfl,n,p⟩
theorem kr(w:World){F:Nat→Prop}{no:Option Addr}{o bw:Nat}{a:List ByteArray}{b:Bool}(q:Sl w F no o a)(hF:∀k,F k→k<w.heap.size)(m:fF w bw no a.length o b)(n:Int)(z:0≤n):
  Rt Tryz.prog 176 [Pr bw,Pq n].toArray w fun v w'=>v=tV (zl a n)∧fF w' bw no a.length o (b||zl a n==[])∧w.grownBy w' (some bw):=by
 have hn:=q.lift hF;have A:=hn.len63;refine dE Tryz.func176 Tryz.ntmps176 rfl rfl ?_;obtain⟨i,rfl⟩:=J2 z;refine Qm ?_;apply CW.cond rfl<;>intro h
 ·have d:(i:Int)=63:=by simpa using h
  refine QJ ?_;refine be rfl rfl ?_;unfold zl;rw[OE d];exact⟨rfl,by rw[show(b||Gh==[])=b by simp[Gh]];exact m,World.grownBy.refl _ _⟩
 have d:¬(i:Int)=63:=by simpa using h
 have y:∀{w':World} {σ:Sg},zl a (i:Int)=[]→Ext w w'→True:=fun _ _=>trivial
 refine Q8 ?_
 (refine dt rfl rfl (fun h=>?_) (fun h=>?_))
 ·have h1:(i:Int)≥(a.length:Int):=by simpa using h
  refine Rh ?_;refine QL.nil (fun s l=>?_);have c:=m.ext l;refine QH ?_;refine WL.st rfl rfl rfl c rfl rfl Pk (fun r j g=>?_);refine QJ ?_;refine be rfl rfl ?_;unfold zl;rw[OD d,OE h1];exact⟨rfl,by simpa using j,rJ (l.grw _) g⟩
 have h1:¬(i:Int)≥(a.length:Int):=by simpa using h
 have hi:i<a.length:=by omega
 refine Rq ?_;refine dk rfl rfl rfl rfl rfl Pe hn hi O_ (fun t u f=>?_);obtain⟨rfl,_⟩:=f.str;skip;refine QL.call rfl rfl rfl (fun w' h=>cX w' a[i]) ?_;refine Rf ?_
 (refine dt rfl rfl (fun h=>?_) (fun h=>?_))
 ·refine Rh ?_
  refine QL.nil (fun s l=>?_);have c:=m.ext l;refine QH ?_;refine WL.st rfl rfl rfl c rfl rfl Pk (fun r j g=>?_);refine QJ ?_;refine be rfl rfl ?_;unfold zl;rw[OD d,OD h1,OE (by rw[J7,qL hi];simpa using h)];exact⟨rfl,by simpa using j,rJ (l.grw _) g⟩
 have h2:¬yR a[i]=false:=by simpa using h
 refine Rq ?_;refine dk rfl rfl rfl rfl rfl Pe hn hi O_ (fun t u f=>?_);obtain⟨rfl,_⟩:=f.str;skip;refine QL.call rfl rfl rfl (fun w' h=>Rt.mono (vI w' a[i] (hn.up h)) (fun v w'' x=>⟨x.1,x.2▸Ext.refl _⟩)) ?_;refine Rf ?_;refine QL.nil (fun s l=>?_);have c:=m.ext l;refine Pv ?_;apply CW.cond rfl<;>intro h
 ·refine Qw ?_
  refine WL.st rfl rfl rfl c rfl rfl Pk (fun r j g=>?_);refine QJ ?_;refine be rfl rfl ?_;unfold zl;rw[OD d,OD h1,OD (by rw[J7,qL hi];exact h2),OE (by rw[J7,qL hi,←u5];simpa using h)];exact⟨rfl,by simpa using j,rJ (l.grw _) g⟩
 refine QD ?_;refine eC rfl rfl rfl rfl rfl (hn.up l) hi O_ (fun t u f=>?_);obtain⟨rfl,_⟩:=f.str;refine PB ?_;refine be rfl rfl ?_;have p:yS a[i].data.toList=true:=by simpa using h2
 have e:zl a (i:Int)=a[i].data.toList:=by
  unfold zl;rw[OD d,OD h1,OD (by rw[J7,qL hi];exact h2),OD (by rw[J7,qL hi,←u5];simpa using h)];rw[J7,qL hi]
 rw[e];exact⟨by rw[tV,HT],by rw[show(a[i].data.toList==[])=false from by rw[Oi];exact(yU p).1,JS];exact c,l.grw _⟩
set_option maxHeartbeats 2000000 in
theorem kW:∀(m:Nat) (t:Ltl),t.nodes≤m→m≤1000→ShT wM t→au t
 |0,t,hm,_,_=>by have:=t.nodes_pos;omega
 |m+1,.mk k n kids,hm,hm1,hsh=>by
  intro w F bw ao cap no J g b hs hn hF hnb hb
  obtain⟨r,h0,h63,X⟩:=E4 hsh;simp only[Ltl.nodes]at hm
  have G:∀i (hi:i<kids.length),kids[i].nodes≤m:=fun i hi=>by have:=Ltl.nodes_kid kids _ (K8 hi);omega
  have ihk:∀i (hi:i<kids.length),au kids[i]:=fun i hi=>kW m kids[i] (G i hi) O0 (X _ (K8 hi))
  have C:∀i (hi:i<kids.length),(HW (zl g) kids[i]).length≤8000:=fun i hi=>by have:=HX (zm g) kids[i];have:=G i hi;omega
  have hbl:=hb.lt;simp only[yK]at hs
  simp only[yJ,yL,yK];refine dE Tryz.func106 Tryz.ntmps106 rfl rfl ?_;refine Pu ?_;refine dX rfl rfl rfl fun d hb3 Y=>?_
  have B:∀k,F k→k<d.heap.size:=fun k r=>MK (hF k r) Y.size
  have hs1:Sl d F ao cap kids:=hs.mono (fun k r=>Y.block k (hF k r)) fun _ h=>h
  have hn1:Sl d F no J g:=hn.mono (fun k r=>Y.block k (hF k r)) fun _ h=>h
  have U:=hb.ext Y;have T:w.grownBy d (some bw):=Y.grw (some bw);have hl3:=hb3.lt;have I:∀K,wM K=2→k=K→∃x y,kids=[x,y]:=fun K hK e=>by
   have:kids.length=2:=by rw[e]at r;omega
   match kids,this with
   |[x,y],_=>exact⟨x,y,rfl⟩
  have hD:Ext d (drew d):=Ext.drew d;have hb3d:=hb3.ext hD;have P:=U.ext hD;have D:Sl (drew d) F ao cap kids:=hs1.mono (fun k r=>hD.block k (B k r)) fun _ h=>h
  have j:Sl (drew d) F no J g:=hn1.mono (fun k r=>hD.block k (B k r)) fun _ h=>h
  have V:∀k,F k→k<(drew d).heap.size:=B;have O:w.grownBy (drew d) (some bw):=rJ T (hD.grw _);have hw3:w.heap.size≠bw:=by omega
  have s:∀{z Z:World},(z.heap[w.heap.size]?=(drew d).heap[w.heap.size]?∧d.heap.size≤z.heap.size∧∀k,F k→z.heap[k]?=(drew d).heap[k]?)→z.grownBy Z (some bw)→(Z.heap[w.heap.size]?=(drew d).heap[w.heap.size]?∧d.heap.size≤Z.heap.size∧∀k,F k→Z.heap[k]?=(drew d).heap[k]?):=
   fun {z Z} R hg=>⟨(hg.block _ O0 (fun e=>hw3 (Nj e))).trans R.1,MH R.2.1 hg.size,fun k r=>(hg.block k (MK (B k r) R.2.1) (fun e=>by cases e;exact hnb r)).trans (R.2.2 k r)⟩
  have A:∀z:World,(fun z:World=>z.heap[w.heap.size]?=(drew d).heap[w.heap.size]?∧d.heap.size≤z.heap.size∧∀k,F k→z.heap[k]?=(drew d).heap[k]?) z→Blk z w.heap.size 36 [Pq k,Pq n,.slice ao kids.length cap]:=fun z R=>R.1.trans hb3d
  have v:(fun z:World=>z.heap[w.heap.size]?=(drew d).heap[w.heap.size]?∧d.heap.size≤z.heap.size∧∀k,F k→z.heap[k]?=(drew d).heap[k]?) (drew d):=⟨rfl,MF _,fun _ _=>rfl⟩;refine QS ?_;apply CW.cond rfl<;>intro h
  ·obtain rfl:k=1:=by simpa using h
   obtain rfl:kids=[]:=Kx (by have:wM 1=0:=rfl;omega);refine Pt ?_;exact be rfl rfl ⟨rfl,by simpa[gS,gT]using U,T⟩
  have k1:¬k=1:=by simpa using h
  clear h;refine Qm ?_;apply CW.cond rfl<;>intro h
  ·obtain rfl:k=2:=by simpa using h
   obtain rfl:kids=[]:=Kx (by have:wM 2=0:=rfl;omega);refine Pt ?_;exact be rfl rfl ⟨rfl,by simpa[gS,gT]using U,T⟩
  have k2:¬k=2:=by simpa using h
  clear h;refine Qm ?_;apply CW.cond rfl<;>intro h
  ·obtain rfl:k=3:=by simpa using h
   obtain rfl:kids=[]:=Kx (by have:wM 3=0:=rfl;omega);refine QX ?_;refine WL.call rfl rfl rfl (kr d hn1 B U n h0) ?_;rintro _ Q ⟨rfl,p,o⟩
   refine PV ?_;exact be rfl rfl ⟨by simp[HW,vX],by simpa[gS,gT]using p,rJ T o⟩
  have k3:¬k=3:=by simpa using h
  clear h;refine Qm ?_;apply CW.cond rfl<;>intro h
  ·obtain rfl:k=5:=by simpa using h
   obtain⟨x,y,rfl⟩:=I 5 rfl rfl;have E:=C 0 O3;have H:=C 1 O3;simp only[K5,K4]at E H
   have hkx:=wK (gZ 5 ((0:Nat):Int) x.k) (HW (zl g) x);have hky:=wK (gZ 5 ((1:Nat):Int) y.k) (HW (zl g) y);refine PU ?_;refine aF (fun z:World=>z.heap[w.heap.size]?=(drew d).heap[w.heap.size]?∧d.heap.size≤z.heap.size∧∀k,F k→z.heap[k]?=(drew d).heap[k]?) [(0,true),(1,true),(4,true),(5,true),(2,false),(3,true),(6,false),(7,true),(8,true)] mixed O1 v ?_;refine Rx ?_;refine cg A rfl rfl rfl rfl rfl ?_;refine Rx ?_;refine cg A rfl rfl rfl rfl rfl ?_;refine cr rfl (WL.call rfl rfl rfl (ke (t:=.mk 5 n [x,y]) (i:=0) (by simp[yK]) (ihk 0 O3) (by have:=G 0 O3;show x.nodes≤1000;simp only[K5]at this;omega) (drew d) F bw ao cap no J g b D j V hnb P) ?_);rintro _ Q ⟨rfl,p,o⟩
   have c:=s v o;refine WL.nil (a_ c ?_);simp only[yJ,yK,K5]at p⊢
   refine bW (b:=[32,38,32]) rfl rfl rfl rfl rfl O7 ?_;refine cr rfl (WL.call rfl rfl rfl (ke (t:=.mk 5 n [x,y]) (i:=1) (by simp[yK]) (ihk 1 O3) (by have:=G 1 O3;show y.nodes≤1000;simp only[K4,K5]at this;omega) Q F bw ao cap no J g _ (D.mono c.2.2 fun _ h=>h) (j.mono c.2.2 fun _ h=>h) (fun k r=>MK (B k r) c.2.1) hnb p) ?_);rintro _ w3 ⟨rfl,f,l⟩
   refine WL.nil (a_ (s c l) ?_);simp only[yJ,yK,K4,K5]at f⊢
   refine bW rfl rfl rfl rfl rfl O8 ?_;refine RJ ?_;refine Qd ?_;refine be rfl rfl ⟨by rw[txtC_bin.1];rfl,?_,rJ (rJ O o) l⟩;rw[gQ O2];exact f
  have k5:¬k=5:=by simpa using h
  clear h;refine Qm ?_;apply CW.cond rfl<;>intro h
  ·obtain rfl:k=6:=by simpa using h
   obtain⟨x,y,rfl⟩:=I 6 rfl rfl;have E:=C 0 O3;have H:=C 1 O3;simp only[K5,K4]at E H
   have hkx:=wK (gZ 6 ((0:Nat):Int) x.k) (HW (zl g) x);have hky:=wK (gZ 6 ((1:Nat):Int) y.k) (HW (zl g) y);refine PU ?_;refine aF (fun z:World=>z.heap[w.heap.size]?=(drew d).heap[w.heap.size]?∧d.heap.size≤z.heap.size∧∀k,F k→z.heap[k]?=(drew d).heap[k]?) [(0,true),(1,true),(4,true),(5,true),(2,false),(3,true),(6,false),(7,true),(8,true)] mixed O1 v ?_;refine Rx ?_;refine cg A rfl rfl rfl rfl rfl ?_;refine Rx ?_;refine cg A rfl rfl rfl rfl rfl ?_;refine cr rfl (WL.call rfl rfl rfl (ke (t:=.mk 6 n [x,y]) (i:=0) (by simp[yK]) (ihk 0 O3) (by have:=G 0 O3;show x.nodes≤1000;simp only[K5]at this;omega) (drew d) F bw ao cap no J g b D j V hnb P) ?_);rintro _ Q ⟨rfl,p,o⟩
   have c:=s v o;refine WL.nil (a_ c ?_);simp only[yJ,yK,K5]at p⊢
   refine bW (b:=[32,47,32]) rfl rfl rfl rfl rfl O7 ?_;refine cr rfl (WL.call rfl rfl rfl (ke (t:=.mk 6 n [x,y]) (i:=1) (by simp[yK]) (ihk 1 O3) (by have:=G 1 O3;show y.nodes≤1000;simp only[K4,K5]at this;omega) Q F bw ao cap no J g _ (D.mono c.2.2 fun _ h=>h) (j.mono c.2.2 fun _ h=>h) (fun k r=>MK (B k r) c.2.1) hnb p) ?_);rintro _ w3 ⟨rfl,f,l⟩
   refine WL.nil (a_ (s c l) ?_);simp only[yJ,yK,K4,K5]at f⊢
   refine bW rfl rfl rfl rfl rfl O8 ?_;refine RJ ?_;refine Qd ?_;refine be rfl rfl ⟨by rw[txtC_bin.2.1];rfl,?_,rJ (rJ O o) l⟩;rw[gQ O2];exact f
  have k6:¬k=6:=by simpa using h
  clear h;refine Qm ?_;apply CW.cond rfl<;>intro h
  ·obtain rfl:k=10:=by simpa using h
   obtain⟨x,y,rfl⟩:=I 10 rfl rfl;have E:=C 0 O3;have H:=C 1 O3;simp only[K5,K4]at E H
   have N:∀z:World,(fun z:World=>z.heap[w.heap.size]?=(drew d).heap[w.heap.size]?∧d.heap.size≤z.heap.size∧∀k,F k→z.heap[k]?=(drew d).heap[k]?) z→∀b,F b→z.heap[b]?=(drew d).heap[b]?:=fun z R=>R.2.2
   refine PU ?_;refine aF (fun z:World=>z.heap[w.heap.size]?=(drew d).heap[w.heap.size]?∧d.heap.size≤z.heap.size∧∀k,F k→z.heap[k]?=(drew d).heap[k]?) [(0,true),(1,true),(2,true),(3,true),(4,true),(8,true),(9,true),(10,true),(11,true),(12,true),(5,false),(6,true),(7,true),(13,false),(14,true),(15,true),(16,true)] mixed O1 v ?_;refine RB ?_;refine cm A rfl rfl rfl rfl rfl ?_;refine bY (w:=drew d) (k:=0) N rfl rfl rfl rfl rfl rfl rfl D O3 O_ (fun u q W=>?_);obtain⟨ao0,cap0,rfl,M⟩:=W.ltl;refine RB ?_;refine cm A rfl rfl rfl rfl rfl ?_;refine bY (w:=drew d) (k:=1) N rfl rfl rfl rfl rfl rfl rfl D O3 O_ (fun u q W=>?_);obtain⟨ao1,cap1,rfl,L⟩:=W.ltl;simp only[K4,K5]at M L⊢
   refine cr rfl (WL.call rfl rfl rfl (ihk 0 O3 (drew d) F bw ao0 cap0 no J g b M j V hnb P) ?_);rintro _ Q ⟨rfl,p,o⟩
   have c:=s v o;refine WL.nil (a_ c ?_);simp only[K5]at p⊢
   refine bW (a:=[69,32,91]) rfl rfl rfl rfl rfl O7 ?_;refine bW (b:=[32,85,32]) rfl rfl rfl rfl rfl O8 ?_;refine cr rfl (WL.call rfl rfl rfl (ihk 1 O3 Q F bw ao1 cap1 no J g _ (L.mono c.2.2 fun _ h=>h) (j.mono c.2.2 fun _ h=>h) (fun k r=>MK (B k r) c.2.1) hnb p) ?_);rintro _ w3 ⟨rfl,f,l⟩
   refine WL.nil (a_ (s c l) ?_);simp only[K4,K5]at f⊢
   refine bW rfl rfl rfl rfl rfl O8 ?_;refine bW (b:=[93]) rfl rfl rfl rfl rfl O8 ?_;refine RJ ?_;refine Qd ?_;refine be rfl rfl ⟨by rw[txtC_bin.2.2.1],?_,rJ (rJ O o) l⟩;rw[gQ O2];exact f
  have k10:¬k=10:=by simpa using h
  clear h;refine Qm ?_;apply CW.cond rfl<;>intro h
  ·obtain rfl:k=14:=by simpa using h
   obtain⟨x,y,rfl⟩:=I 14 rfl rfl;have E:=C 0 O3;have H:=C 1 O3;simp only[K5,K4]at E H
   have N:∀z:World,(fun z:World=>z.heap[w.heap.size]?=(drew d).heap[w.heap.size]?∧d.heap.size≤z.heap.size∧∀k,F k→z.heap[k]?=(drew d).heap[k]?) z→∀b,F b→z.heap[b]?=(drew d).heap[b]?:=fun z R=>R.2.2
   refine PU ?_;refine aF (fun z:World=>z.heap[w.heap.size]?=(drew d).heap[w.heap.size]?∧d.heap.size≤z.heap.size∧∀k,F k→z.heap[k]?=(drew d).heap[k]?) [(0,true),(1,true),(2,true),(3,true),(4,true),(8,true),(9,true),(10,true),(11,true),(12,true),(5,false),(6,true),(7,true),(13,false),(14,true),(15,true),(16,true)] mixed O1 v ?_;refine RB ?_;refine cm A rfl rfl rfl rfl rfl ?_;refine bY (w:=drew d) (k:=0) N rfl rfl rfl rfl rfl rfl rfl D O3 O_ (fun u q W=>?_);obtain⟨ao0,cap0,rfl,M⟩:=W.ltl;refine RB ?_;refine cm A rfl rfl rfl rfl rfl ?_;refine bY (w:=drew d) (k:=1) N rfl rfl rfl rfl rfl rfl rfl D O3 O_ (fun u q W=>?_);obtain⟨ao1,cap1,rfl,L⟩:=W.ltl;simp only[K4,K5]at M L⊢
   refine cr rfl (WL.call rfl rfl rfl (ihk 0 O3 (drew d) F bw ao0 cap0 no J g b M j V hnb P) ?_);rintro _ Q ⟨rfl,p,o⟩
   have c:=s v o;refine WL.nil (a_ c ?_);simp only[K5]at p⊢
   refine bW (a:=[65,32,91]) rfl rfl rfl rfl rfl O7 ?_;refine bW (b:=[32,85,32]) rfl rfl rfl rfl rfl O8 ?_;refine cr rfl (WL.call rfl rfl rfl (ihk 1 O3 Q F bw ao1 cap1 no J g _ (L.mono c.2.2 fun _ h=>h) (j.mono c.2.2 fun _ h=>h) (fun k r=>MK (B k r) c.2.1) hnb p) ?_);rintro _ w3 ⟨rfl,f,l⟩
   refine WL.nil (a_ (s c l) ?_);simp only[K4,K5]at f⊢
   refine bW rfl rfl rfl rfl rfl O8 ?_;refine bW (b:=[93]) rfl rfl rfl rfl rfl O8 ?_;refine RJ ?_;refine Qd ?_;refine be rfl rfl ⟨by rw[txtC_bin.2.2.2],?_,rJ (rJ O o) l⟩;rw[gQ O2];exact f
  have k14:¬k=14:=by simpa using h
  clear h;have S:(k=4∨k=7∨k=8∨k=9∨k=11∨k=12∨k=13)∧kids.length=1:=by
   rcases wN r with⟨_,e⟩|⟨Y,e⟩|⟨_,e⟩
   ·omega
   ·exact⟨e,Y⟩
   ·omega
  obtain⟨S,hk1⟩:=S;obtain⟨x,rfl⟩:=Lj.1 hk1;have E:=C 0 O3;simp only[K5]at E
  have hkx:=wK (gZ k ((0:Nat):Int) x.k) (HW (zl g) x);have hsl:(Fa k).length≤3:=by unfold Fa;(repeat' split)<;>decide
  refine Qk ?_;refine aF (fun z:World=>z.heap[w.heap.size]?=(drew d).heap[w.heap.size]?∧d.heap.size≤z.heap.size∧∀k,F k→z.heap[k]?=(drew d).heap[k]?) [(0,true),(1,true),(3,true),(4,true),(2,false),(5,false),(6,true),(7,true)] mixed O1 v ?_;refine Ry ?_;refine cm A rfl rfl rfl rfl rfl ?_;refine Rx ?_;refine cg A rfl rfl rfl rfl rfl ?_;refine cr rfl (WL.call rfl rfl rfl (kV (drew d) S) ?_);rintro _ Q ⟨rfl,e2⟩
  have c:=s v (e2.grw (some bw));refine WL.nil (a_ c ?_);refine cr rfl (WL.call rfl rfl rfl (ke (t:=.mk k n [x]) (i:=0) (by simp[yK]) (ihk 0 O3) (by have:=G 0 O3;show x.nodes≤1000;simp only[K5]at this;omega) Q F bw ao cap no J g b (D.mono c.2.2 fun _ h=>h) (j.mono c.2.2 fun _ h=>h) (fun k r=>MK (B k r) c.2.1) hnb (P.ext e2)) ?_);rintro _ w3 ⟨rfl,f,l⟩
  refine WL.nil (a_ (s c l) ?_);simp only[yJ,yK,K5]at f⊢
  refine bW rfl rfl rfl rfl rfl O0 ?_;refine RJ ?_;refine PJ ?_;refine be rfl rfl ⟨by rw[HY S];rfl,?_,rJ (rJ O (e2.grw _)) l⟩;rw[gP k3];exact f
theorem kT(w0:World){ao no:Option Addr}{cap i:Nat}{t:Ltl}{a:List ByteArray}(p:Sl w0 (c7 w0) ao cap t.kids)(hn:Sl w0 (c7 w0) no i a):
  Rt Tryz.prog 46 [ye t.k t.n ao t.kids.length cap,.slice no a.length i].toArray w0 fun v w'=>v=.tuple ⟨[tV (Ch t a).1,Pq (Ch t a).2]⟩∧Ext w0 w':=by
 refine dE Tryz.func46 Tryz.ntmps46 rfl rfl ?_;unfold Ch;refine Pu ?_;refine dX rfl rfl rfl fun y c u=>?_
 refine Q0 ?_;refine WL.call rfl rfl rfl (kX y (p.up u) Pe) ?_;rintro _ o ⟨rfl,s⟩
 have c:=c.ext s;have f:=u.trans s;refine Qm ?_;apply CW.cond rfl<;>intro h
 ·rw[OE (by simpa using h)]
  refine QJ ?_;exact bf rfl rfl rfl ⟨rfl,f⟩
 have q:(jm t 1 0).1=0:=by simpa using h
 rw[OD (by simpa using h)];obtain⟨j,z⟩:=jt t 1 0 q;have A:=(jr t 1 0 q).2;refine Qf ?_;refine WL.build rfl rfl rfl rfl ?_;refine dX rfl rfl rfl fun x d r=>?_
 have c:=c.ext r;have b:=f.trans r;refine Q0 ?_;refine WL.call rfl rfl rfl (kW t.nodes t Pm O0 j x (c7 w0) o.heap.size ao cap no i a false (p.at b) (hn.at b) (fun k l=>MK l b.size) (fun l=>by have h1:o.heap.size<w0.heap.size:=l;have:=f.size;omega) d) ?_;rintro _ w ⟨rfl,n,m⟩
 have e:Ext w0 w:=b.grown m b.size (fun g B=>by cases B;exact f.size);rw[JL]at n
 refine Qw ?_;apply CW.cond rfl<;>intro h
 ·rw[OE h]
  refine QJ ?_;exact bf rfl rfl rfl ⟨rfl,e⟩
 ·rw[OD (by rw[h];decide)]
  refine QQ ?_;exact bf rfl rfl rfl ⟨rfl,e⟩
abbrev Dx(r:cJ)(lo:Option Addr)(a:Nat)(b:Option Addr)(c:Nat):Value:=.agg [.string r.1,.int .i64 r.2.1,
 .int .i64 r.2.2.1.1,.int .i64 r.2.2.1.2.1,.int .i64 r.2.2.1.2.2.1,.int .i64 r.2.2.1.2.2.2.1,.int .i64 r.2.2.1.2.2.2.2.1,.int .i64 r.2.2.1.2.2.2.2.2.1,.int .i64 r.2.2.1.2.2.2.2.2.2,
 .int .i64 r.2.2.2.1.1,.int .i64 r.2.2.2.1.2.1,.int .i64 r.2.2.2.1.2.2.1,.int .i64 r.2.2.2.1.2.2.2,
 .int .i64 r.2.2.2.2.1.k,.int .i64 r.2.2.2.2.1.n,.slice lo r.2.2.2.2.1.kids.length a,.int .i64 r.2.2.2.2.2.k,.int .i64 r.2.2.2.2.2.n,.slice b r.2.2.2.2.2.kids.length c].toArray
instance ud:IsFd Tryz.prog 38 0 0:=IsFd.of O1
instance ue:IsFd Tryz.prog 38 1 1:=IsFd.of O1
instance uf:IsFd Tryz.prog 38 2 2:=IsFd.of O1
instance ug:IsFd Tryz.prog 38 3 9:=IsFd.of O1
instance uh:IsFd Tryz.prog 38 4 13:=IsFd.of O1
instance ui:IsFd Tryz.prog 38 5 16:=IsFd.of O1
instance uj:IsC Tryz.prog 38 19 true:=IsC.of O1 Tryz.underlying38 rfl
theorem Dr(w0:World){no:Option Addr}{l:Nat}{a:List ByteArray}(hn:Sl w0 (c7 w0) no l a)(n:Int)(s:Bool):
  Rt Tryz.prog 49 [Pq n,.slice no a.length l,.bool s].toArray w0 fun v w'=>v=tV (Dt a n s)∧Ext w0 w':=by
 have t:=hn.len63;refine dF Tryz.func49 Tryz.ntmps49 rfl rfl ?_;have b:(n<0∨n≥(a.length:Int)∨n≥63)→¬(n=63∧s=true)→Dt a n s=[]:=fun h q=>by
  unfold Dt;rw[OD q,OE];rcases h with h|h|h
  ·exact .inl h
  ·exact .inr (.inl h)
  ·exact .inr (.inr (.inl h))
 refine Qm ?_
 (refine eV rfl rfl (fun h=>?_) (fun h=>?_))
 ·have e:n=63:=by simpa using h
  cases s with
  |true=>
   refine Q3 ?_;exact be rfl rfl ⟨by unfold Dt;rw[OE ⟨e,rfl⟩];rfl,Ext.refl _⟩
  |false=>
   rw[b (.inr (.inr O0)) O3];have hd:decide (n<0)=false:=Ot O0;have o:decide (n≥63)=true:=Ov O0;refine Qp ?_;rw[hd];refine Ro ?_
   (refine eV rfl rfl (fun h=>?_) (fun h=>?_))
   ·refine Q3 ?_
    exact be rfl rfl ⟨rfl,Ext.refl _⟩
   ·refine Ra ?_
    rw[o];refine Q3 ?_;exact be rfl rfl ⟨rfl,Ext.refl _⟩
 have e:¬n=63:=by simpa using h
 have d:¬(n=63∧s=true):=fun h=>e h.1
 refine Qa ?_
 (refine eV rfl rfl (fun h=>?_) (fun h=>?_))
 ·rw[b (.inl (by simpa using h)) d]
  refine Q3 ?_;exact be rfl rfl ⟨rfl,Ext.refl _⟩
 have p:¬n<0:=by simpa using h
 obtain⟨i,rfl⟩:=J2 (show 0≤n by omega);clear h;refine Ro ?_
 (refine eV rfl rfl (fun h=>?_) (fun h=>?_))
 ·rw[b (.inr (.inl (by simpa using h))) d]
  refine Q3 ?_;exact be rfl rfl ⟨rfl,Ext.refl _⟩
 have h1:¬(i:Int)≥(a.length:Int):=by simpa using h
 have hi:i<a.length:=by omega
 clear h;refine Ra ?_
 (refine eV rfl rfl (fun h=>?_) (fun h=>?_))
 ·rw[b (.inr (.inr (by simpa using h))) d]
  refine Q3 ?_;exact be rfl rfl ⟨rfl,Ext.refl _⟩
 have h2:¬(i:Int)≥63:=by simpa using h
 clear h b;have g:a.getD (i:Int).toNat ⟨#[]⟩=a[i]:=by rw[J7,qL hi]
 unfold Dt;rw[OD d,g];refine Ra ?_;refine eC rfl rfl rfl rfl rfl hn hi O_ (fun j k c=>?_);obtain⟨rfl,_⟩:=c.str;skip;refine WL.call rfl rfl rfl (cX w0 a[i]) ?_;rintro _ m ⟨rfl,f⟩
 refine Ra ?_
 (refine eV rfl rfl (fun h=>?_) (fun h=>?_))
 ·rw[OE (.inr (.inr (.inr (.inl (by simpa using h)))))]
  refine Q3 ?_;exact be rfl rfl ⟨rfl,f⟩
 have h3:¬yR a[i]=false:=by simpa using h
 clear h;refine Ra ?_;refine eC rfl rfl rfl rfl rfl (hn.up f) hi O_ (fun j k c=>?_);obtain⟨rfl,_⟩:=c.str;skip;refine WL.call rfl rfl rfl (vI m a[i] (hn.up f)) ?_;rintro _ r ⟨rfl,rfl⟩
 rw[u5];refine PE ?_;apply CW.cond rfl<;>intro h
 ·rw[OE (.inr (.inr (.inr (.inr (by simpa using h)))))]
  refine QJ ?_;exact be rfl rfl ⟨rfl,f⟩
 have h4:¬u4 a a[i].data.toList≠(i:Int):=by simpa using h
 rw[OD (by simp only[OI];exact⟨p,h1,h2,h3,h4⟩)];refine Qf ?_;refine eC rfl rfl rfl rfl rfl (hn.up f) hi O_ (fun j k c=>?_);obtain⟨rfl,_⟩:=c.str;refine PB ?_;exact be rfl rfl ⟨by rw[tV,HT],f⟩
theorem gf(w0:World)(k:Int):Rt Tryz.prog 44 [Pq k].toArray w0 fun v w'=>v=.bool (ga k)∧w0=w':=by
 refine dD Tryz.func44 Tryz.ntmps44 rfl rfl ?_;refine QJ ?_;exact be rfl rfl ⟨rfl,rfl⟩
theorem Dv(w0:World){no:Option Addr}{b d c:Nat}{a:List ByteArray}{s:Bool}(hn:Sl w0 (c7 w0) no b a)(h3:Blk w0 d 56 [.slice no a.length b])(g:Blk w0 c 4 [.bool s])(n:Int):
  Rt Tryz.prog 48 [Pq n,Pr d,Pr c].toArray w0 fun v w'=>v=.bool (Dt a n s==[])∧Ext w0 w':=by
 refine dF Tryz.func48 Tryz.ntmps48 rfl rfl ?_;refine P4 ?_;refine WL.call rfl rfl rfl (Dr w0 hn n s) ?_;rintro _ f ⟨rfl,e⟩
 refine PB ?_;exact be rfl rfl ⟨by rw[show(HR (Dt a n s)).data.toList=Dt a n s from HU _],e⟩
set_option maxHeartbeats 1000000 in
theorem gK(w0:World)(pt:cH):Rt Tryz.prog 42 [Bz pt].toArray w0 fun v w'=>(∃x u,v=.tuple ⟨[x,u]⟩∧Own w' w0.heap.size 3 cZ x (A_ pt)∧Own w' w0.heap.size 3 cZ u (Es pt))∧Ext w0 w':=by
 obtain⟨k,sc,P,S,Q,R,c⟩:=pt;refine dD Tryz.func42 Tryz.ntmps42 rfl rfl ?_;refine Pu ?_;refine dX rfl rfl rfl fun t y r=>?_
 refine QM ?_;refine WL.lit (F:=cZ) (ys:=[P]) rfl rfl rfl rfl rfl ⟨Rd.mkInt _ _ _,trivial⟩ (by show 1*1≤16777216;decide) Pc (fun j ho2 l=>?_);have q:Ext t j:=(JD _ _).grown l Pm Pg;have f:=y.ext q;have a:=r.trans q;have s:=r.size;generalize n:Value.slice (some ⟨t.heap.size,0,none⟩) 1 1=ov at*
 refine Ra ?_;apply WL.nil;apply bz;refine aB (S:=Value) (fun v=>[(1,Pr w0.heap.size),(2,v),(3,.slice none 0 0)])
  (fun v w=>Own w w0.heap.size 3 cZ v (A_ (k,sc,P,S,Q,R,c))∧Blk w w0.heap.size 31 [Pq k,Pq sc,Pq P,Pq S,Pq Q,Pq R,Pq c]∧Ext w0 w) ?_ ?_
 ·refine QX ?_
  have i:(k=5∨k=6)→A_ (k,sc,P,S,Q,R,c)=[S,P]:=fun h=>by unfold A_;rw[OE h]
  have o:¬(k=5∨k=6)→A_ (k,sc,P,S,Q,R,c)=[P]:=fun h=>by unfold A_;rw[OD h]
  (refine eV rfl rfl (fun h=>?_) (fun h=>?_))
  ·refine QW ?_
   refine WL.lit (F:=cZ) (ys:=[S,P]) rfl rfl rfl rfl rfl ⟨Rd.mkInt _ _ _,Rd.mkInt _ _ _,trivial⟩ (by show 2*1≤16777216;decide) Pc (fun g ho3 d=>?_);have e:Ext j g:=(JD _ _).grown d Pm Pg;refine QV ?_;exact aU _ OZ ⟨by rw[i (.inl (by simpa using h))];exact ho3.low a.size,f.ext e,a.trans e⟩
  ·have A:¬k=5:=by simpa using h
   refine QG ?_;apply CW.cond rfl<;>intro h
   ·have z:k=6:=by simpa using h
    refine QB ?_;refine WL.lit (F:=cZ) (ys:=[S,P]) rfl rfl rfl rfl rfl ⟨Rd.mkInt _ _ _,Rd.mkInt _ _ _,trivial⟩ (by show 2*1≤16777216;decide) Pc (fun g ho3 d=>?_);have e:Ext j g:=(JD _ _).grown d Pm Pg;refine QV ?_;exact aU _ OZ ⟨by rw[i (.inr z)];exact ho3.low a.size,f.ext e,a.trans e⟩
   ·have z:¬k=6:=by simpa using h
    refine Pw ?_;exact aU ov OZ ⟨by rw[o O0];exact ho2.low s,f,a⟩
 clear ho2 l f a q n ov y r s;rintro ov j ⟨ho2,f,a⟩
 refine aB (S:=Value) (fun v=>[(2,ov),(3,v)]) (fun v w=>Own w w0.heap.size 3 cZ ov (A_ (k,sc,P,S,Q,R,c))∧Own w w0.heap.size 3 cZ v (Es (k,sc,P,S,Q,R,c))∧Ext w0 w) ?_ ?_
 ·refine QS ?_
  apply CW.cond rfl<;>intro h
  ·have h2:sc=2:=by simpa using h
   refine QB ?_;refine WL.lit (F:=cZ) (ys:=[R]) rfl rfl rfl rfl rfl ⟨Rd.mkInt _ _ _,trivial⟩ (by show 1*1≤16777216;decide) Pc (fun g ho3 d=>?_);have e:Ext j g:=(JD _ _).grown d Pm Pg;refine QV ?_;exact aU _ OZ ⟨ho2.extN e,by unfold Es;rw[OE h2];exact ho3.low a.size,a.trans e⟩
  have h2:¬sc=2:=by simpa using h
  clear h;refine Qm ?_;apply CW.cond rfl<;>intro h
  ·have h3:sc=3:=by simpa using h
   refine QB ?_;refine WL.lit (F:=cZ) (ys:=[Q]) rfl rfl rfl rfl rfl ⟨Rd.mkInt _ _ _,trivial⟩ (by show 1*1≤16777216;decide) Pc (fun g ho3 d=>?_);have e:Ext j g:=(JD _ _).grown d Pm Pg;refine QV ?_;exact aU _ OZ ⟨ho2.extN e,by unfold Es;rw[OD h2,OE h3];exact ho3.low a.size,a.trans e⟩
  have h3:¬sc=3:=by simpa using h
  clear h;refine az [(1,Pr w0.heap.size),(2,ov),(3,.slice none 0 0),(32,.bool (decide (sc=4∨sc=5)))] ?_ ?_
  ·refine Qm ?_
   apply CW.cond rfl<;>intro h
   ·refine Pw ?_
    refine aS ⟨rfl,rfl,rfl,?_,trivial⟩;refine Oq (fun b=>some (Value.bool b)) ?_;have:sc=4:=by simpa using h
    simp[this]
   ·refine Qj ?_
    refine aS ⟨rfl,rfl,rfl,?_,trivial⟩;refine Oq (fun b=>some (Value.bool b)) ?_;have:¬sc=4:=by simpa using h
    rw[JI];simp[this]
  apply CW.cond rfl<;>intro h
  ·have h4:sc=4∨sc=5:=by simpa using h
   refine QB ?_;refine WL.lit (F:=cZ) (ys:=[Q,R]) rfl rfl rfl rfl rfl ⟨Rd.mkInt _ _ _,Rd.mkInt _ _ _,trivial⟩ (by show 2*1≤16777216;decide) Pc (fun g ho3 d=>?_);have e:Ext j g:=(JD _ _).grown d Pm Pg;refine QV ?_;exact aU _ OZ ⟨ho2.extN e,by unfold Es;rw[OD h2,OD h3,OE h4];exact ho3.low a.size,a.trans e⟩
  ·have h4:¬(sc=4∨sc=5):=by simpa using h
   refine QU ?_;exact aU _ OZ ⟨ho2,by unfold Es;rw[OD h2,OD h3,OD h4];exact Own.nil,a⟩
 rintro v g ⟨ho3,m,p⟩
 refine QJ ?_;exact bf rfl rfl rfl ⟨⟨_,_,rfl,ho3,m⟩,p⟩
end Go.Proofs.YtodmkmobdmcfbaaGreatDoor
