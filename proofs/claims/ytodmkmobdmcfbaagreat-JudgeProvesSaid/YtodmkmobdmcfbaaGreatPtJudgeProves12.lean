import Derived.Test.YtodmkmobdmcfbaaGreatPtJudgeProves11
set_option linter.unusedVariables false
set_option linter.unusedSimpArgs false
set_option linter.defProp false
namespace Go.Proofs.YtodmkmobdmcfbaaGreat
open Classical in
noncomputable def iK(n:Nat)(P:Nat→Prop):List Bool:=(List.range n).map fun i=>decide (P i)
theorem iN{n:Nat}{P:Nat→Prop}:(iK n P).length=n:=by simp[iK]
theorem iM{n i:Nat}{P:Nat→Prop}(h:i<n):(iK n P).getD i false=true↔P i:=by
 unfold iK;rw[KR,K0,K1 h];simp
theorem iL{n:Nat}{P Q:Nat→Prop}(h:∀i,i<n→(P i↔Q i)):iK n P=iK n Q:=by
 refine KE (by rw[iN,iN]) fun i h1 h2=>?_
 have hi:i<n:=by rw[iN]at h1;exact h1
 rw[JO,←IR h1,←IR h2,iM hi,iM hi];exact h i hi
theorem iO{n:Nat}{P:Nat→Prop}{l:List Bool}(a:l.length=n)(h:∀i,i<n→(l.getD i false=true↔P i)):l=iK n P:=by
 refine KE (by rw[iN];exact a) fun i h1 h2=>?_
 have hi:i<n:=by omega
 rw[JO,←IR h1,←IR h2,iM hi];exact h i hi
def oJ(nx fr:bU)(n:Nat):Prop:=∃r,r 0=n∧Way8 (Eg nx) (Fe fr) r
def nh(nx fr:bU)(A:Nat→Prop)(n:Nat):Prop:=∃r,r 0=n∧Way8 (Eg nx) (Fe fr) r∧∀i,A (r i)
inductive EuP(E:Nat→Nat→Prop)(A B:Nat→Prop):Nat→Prop
 |here {n:Nat}:B n→EuP E A B n
 |step {n m:Nat}:A n→E n m→EuP E A B m→EuP E A B n
def nZ(nx fr:bU)(A B:Nat→Prop):Nat→Prop:=EuP (Eg nx) A fun n=>B n∧oJ nx fr n
def ou(nx fr:bU)(A:Nat→Prop)(n:Nat):Prop:=∃m,Eg nx n m∧A m∧oJ nx fr m
def gO(nx fr:bU)(A B:Nat→Prop)(n:Nat):Prop:=¬(nZ nx fr (fun i=>¬B i) (fun i=>¬A i∧¬B i) n∨nh nx fr (fun i=>¬B i) n)
section
variable {nx fr:bU}{A B:Nat→Prop}
theorem Way8.lt{r:Nat→Nat}(a:okG nx)(h:Way8 (Eg nx) (Fe fr) r)(i:Nat):r i<nx.length:=by
 cases i with
 |zero=>exact(h.1 0).lt1
 |succ i=>exact(h.1 i).lt a
theorem IY(a:okG nx):IV nx (iK nx.length A) fr=iK nx.length (nh nx fr A):=by
 refine iO IX fun n hn=>?_
 rw[IW hn];constructor
 ·rintro⟨r,b,h1,h2⟩
  have h3:=fun i=>inG_edge.1 (h1 i)
  exact⟨r,b,⟨fun i=>(h3 i).1,h2⟩,fun i=>(iM (h3 i).1.lt1).1 (h3 i).2.1⟩
 ·rintro⟨r,b,h,c⟩
  exact⟨r,b,fun i=>inG_edge.2 ⟨h.1 i,(iM (h.lt a i)).2 (c i),(iM (h.lt a (i+1))).2 (c (i+1))⟩,h.2⟩
theorem f9(a:okG nx):fU nx fr=iK nx.length (oJ nx fr):=iO IX fun n hn=>fV a hn
end
def lI(nx:bU)(lb:List Nat)(fr:bU)(k n:Int)(ks:List (Nat→Prop)):Nat→Prop:=
 if k=1 then fun _=>True
 else if k=3 then fun i=>lb.getD i 0 >>> n.toNat&&&1=1
 else if k=4 then fun i=>¬ks.getD 0 (fun _=>False) i
 else if k=5 then fun i=>ks.getD 0 (fun _=>False) i∧ks.getD 1 (fun _=>False) i
 else if k=6 then fun i=>ks.getD 0 (fun _=>False) i∨ks.getD 1 (fun _=>False) i
 else if k=7 then ou nx fr (ks.getD 0 (fun _=>False))
 else if k=8 then nZ nx fr (fun _=>True) (ks.getD 0 (fun _=>False))
 else if k=9 then nh nx fr (ks.getD 0 (fun _=>False))
 else if k=10 then nZ nx fr (ks.getD 0 (fun _=>False)) (ks.getD 1 (fun _=>False))
 else if k=11 then fun i=>¬ou nx fr (fun j=>¬ks.getD 0 (fun _=>False) j) i
 else if k=12 then fun i=>¬nh nx fr (fun j=>¬ks.getD 0 (fun _=>False) j) i
 else if k=13 then fun i=>¬nZ nx fr (fun _=>True) (fun j=>¬ks.getD 0 (fun _=>False) j) i
 else if k=14 then gO nx fr (ks.getD 0 (fun _=>False)) (ks.getD 1 (fun _=>False))
 else fun _=>False
mutual
def lG(nx:bU)(lb:List Nat)(fr:bU):Ltl→Nat→Prop
 |.mk k n kids=>lI nx lb fr k n (lH nx lb fr kids)
def lH(nx:bU)(lb:List Nat)(fr:bU):List Ltl→List (Nat→Prop)
 |[]=>[]
 |x::r=>lG nx lb fr x::lH nx lb fr r
end
section
variable {nx fr:bU}{lb:List Nat}{f g:Ltl}
end
section
variable {nx fr:bU}{lb:List Nat}{f:Ltl}{r:Nat→Nat}
end
section
variable {N:Nat}{nx nx' fr fr':bU}{lb lb':List Nat}
variable {A A' B B':Nat→Prop}
end
open Go.RowKit
def LabAt(w:World)(b:Nat)(nx:bU)(lb:List Nat)(fr:bU):Prop:=
 ∃(a1:Option Addr) (c1 n1:Nat) (a2:Option Addr) (c2:Nat) (a3:Option Addr) (c3:Nat) (a4:Option Addr) (c4:Nat) (ao:Option Addr) (ac:Nat) (a:Option Addr) (bc:Nat),
  Blk w b 149 [.slice a1 n1 c1,.slice a2 nx.length c2,.slice a3 lb.length c3,.slice a4 fr.length c4,.slice ao (iK nx.length (oJ nx fr)).length ac,.slice a (HE nx).length bc]∧
  Sl w (c9 w) a2 c2 nx∧Sl w (c9 w) a3 c3 lb∧Sl w (c9 w) a4 c4 fr∧Sl w (c9 w) ao ac (iK nx.length (oJ nx fr))∧Sl w (c9 w) a bc (HE nx)
theorem LabAt.up{w w':World}{b:Nat}{nx fr:bU}{lb:List Nat}(h:LabAt w b nx lb fr)(a:Ext w w'):LabAt w' b nx lb fr:=by
 obtain⟨a1,c1,n1,a2,c2,a3,c3,a4,c4,ao,ac,f,bc,c,h2,h3,h4,e,d⟩:=h;exact⟨a1,c1,n1,a2,c2,a3,c3,a4,c4,ao,ac,f,bc,c.ext a,h2.up a,h3.up a,h4.up a,e.up a,d.up a⟩
structure WOk(nx:bU)(fr:bU):Prop where
 n:nx.length≤600
 g:okG nx
 f:∀F∈fr,AG nx.length F
 e:mX nx≤8589934592
abbrev xk(b:Nat):Value:=.pointer (some ⟨b,0,none⟩)
theorem mT(w0:World){b:Nat}{nx fr:bU}{lb:List Nat}(C:LabAt w0 b nx lb fr)(hn:nx.length≤600){fv:Value}{P:Nat→Prop}
  (hf:∀(w:World) (n:Nat),Ext w0 w→n<nx.length→FnV Tryz.prog fv [Pj (n:Int)] w fun v w'=>∃c:Bool,v=.bool c∧(c=true↔P n)∧Ext w w'):
  Rt Tryz.prog 64 [xk b,fv].toArray w0 fun v w'=>Own w' w0.heap.size 4 c7 v (iK nx.length P)∧Ext w0 w':=by
 obtain⟨a1,c1,n1,a2,c2,a3,c3,a4,c4,ao,ac,J,bc,t,h2,h3,h4,I,H⟩:=C;refine dH Tryz.func64 Tryz.ntmps64 rfl rfl ?_;refine QH ?_;refine eY (α:=Bool) rfl rfl rfl rfl OS OY (fun z ho3 p=>?_);have E:Ext w0 z:=(JJ _ _).grown p Pf O_;generalize l:Value.slice (some ⟨w0.heap.size,0,none⟩) nx.length nx.length=sv at*
 have A:∃ao cap,sv=.slice ao nx.length cap:=⟨_,_,l.symm⟩;refine Qu ?_;rw[Lu];refine CW.loop (S:=Nat×List Bool) (fun s=>[(1,fv),(5,sv),(15,Pj nx.length),(16,Pj s.1)])
  (fun s w=>s.1≤nx.length∧Own w w0.heap.size 4 c7 sv s.2∧s.2.length=nx.length∧(∀c,c<s.1→(s.2.getD c false=true↔P c))∧Ext w0 w) (fun s=>nx.length -s.1) (0,List.replicate nx.length false) OR ⟨Nc _,ho3,by simp,fun c q=>absurd q OX,E⟩ ?_
 rintro⟨i,o⟩ y ⟨hi,f,d,a,j⟩
 dsimp only at hi f d a⊢
 refine Qw ?_;apply CW.cond rfl<;>intro h
 ·have g:i<nx.length:=by simp at h;omega
  refine PA ?_;refine d8 rfl rfl rfl rfl (hf y i j g) ?_;rintro _ F ⟨c,rfl,q,r⟩
  skip;refine fu (u:=.bool c) (yv:=c) rfl rfl rfl rfl (f.extN r) (show i<o.length by omega) O3 O3 (Rd.mkBool _ _ _) (fun x G ho6 m=>?_);have D:Ext w0 x:=(j.trans r).grown m (j.trans r).size (fun b t=>(f.lt b t).1);refine PI ?_;refine EX.back (i+1,o.set i c) OR ⟨g,ho6,by simpa using d,fun k B=>?_,D⟩ OX;dsimp only at B⊢
  rw[ri OS];by_cases e:i=k
  ·subst e;rw[Ov rfl];exact q
  ·rw[Ou e];exact a k OS
 obtain rfl:i=nx.length:=by simp at h;omega
 rw[iO d a]at f
 refine PG ?_;exact be rfl rfl ⟨f,j⟩
theorem x_(w:World){bb x:Nat}{ao:Option Addr}{ac:Nat}{l:List Bool}(c:Blk w bb 61 [.slice ao l.length ac])(b:Sl w (c9 w) ao ac l)(a:x<l.length):
  Rt Tryz.prog 143 [Pj (x:Int),Pk bb].toArray w fun v w'=>v=.bool (!l.getD x false)∧Ext w w':=by
 refine dH Tryz.func143 Tryz.ntmps143 rfl rfl ?_;refine QE ?_;refine eC rfl rfl rfl rfl rfl b a (IR a).symm O3 (fun q=>?_);refine Pr ?_;exact be rfl rfl ⟨rfl,Ext.refl _⟩
theorem Ab{c:Bool}{P:Prop}(h:c=true↔P):(!c)=true↔¬P:=by
 rw[←h];cases c<;>simp
theorem ya(w0:World){b:Nat}{nx fr:bU}{lb:List Nat}(l:LabAt w0 b nx lb fr)(hn:nx.length≤600){ao:Option Addr}{ac:Nat}{P:Nat→Prop}(k:Sl w0 (c9 w0) ao ac (iK nx.length P)):
  Rt Tryz.prog 67 [xk b,.slice ao (iK nx.length P).length ac].toArray w0 fun v w'=>Own w' w0.heap.size 4 c7 v (iK nx.length fun i=>¬P i)∧Ext w0 w':=by
 refine dH Tryz.func67 Tryz.ntmps67 rfl rfl ?_;refine Pm ?_;refine dZ rfl rfl rfl fun g a c=>?_
 have j:=a.lt;refine PK ?_;refine WL.call rfl rfl rfl (mT g (P:=fun i=>¬P i) (l.up c) hn (fun w n e hn=>FnV.mk (f:=143) (Rt.mono (x_ w (a.ext e) (k.up (c.trans e)) (show n<_ by rw[iN];exact hn)) (fun v w' d=>⟨_,d.1,Ab (iM hn),d.2⟩)))) ?_;rintro _ o ⟨h,m⟩
 refine Pr ?_;exact be rfl rfl ⟨h.low c.size,c.trans m⟩
theorem xA(w:World){b1 b2 x:Nat}{ao d:Option Addr}{ac bc:Nat}{l k:List Bool}(h:Blk w b1 61 [.slice ao l.length ac])(g:Blk w b2 61 [.slice d k.length bc])(e:Sl w (c9 w) ao ac l)(f:Sl w (c9 w) d bc k)(b:x<l.length)(a:x<k.length):
  Rt Tryz.prog 144 [Pj (x:Int),Pk b1,Pk b2].toArray w fun v w'=>v=.bool (l.getD x false&&k.getD x false)∧Ext w w':=by
 refine dI Tryz.func144 Tryz.ntmps144 rfl rfl ?_;refine QE ?_;refine eC rfl rfl rfl rfl rfl e b (IR b).symm O3 (fun q=>?_);generalize l.getD x false=c;cases c with
 |false=>
  refine Pt ?_;exact be rfl rfl ⟨rfl,Ext.refl _⟩
 |true=>
  refine QV ?_;refine eC rfl rfl rfl rfl rfl f a (IR a).symm O3 (fun i=>?_);refine Pr ?_;exact be rfl rfl ⟨rfl,Ext.refl _⟩
theorem gk{c d:Bool}{P Q:Prop}(h:c=true↔P)(k:d=true↔Q):(c&&d)=true↔P∧Q:=by
 rw[←h,←k];cases c<;>cases d<;>simp
theorem xB(w0:World){b:Nat}{nx fr:bU}{lb:List Nat}(p:LabAt w0 b nx lb fr)(hn:nx.length≤600){ao j:Option Addr}{ac bc:Nat}{P Q:Nat→Prop}(o:Sl w0 (c9 w0) ao ac (iK nx.length P))(m:Sl w0 (c9 w0) j bc (iK nx.length Q)):
  Rt Tryz.prog 68 [xk b,.slice ao (iK nx.length P).length ac,.slice j (iK nx.length Q).length bc].toArray w0 fun v w'=>Own w' w0.heap.size 4 c7 v (iK nx.length fun i=>P i∧Q i)∧Ext w0 w':=by
 refine dI Tryz.func68 Tryz.ntmps68 rfl rfl ?_;refine Pm ?_;refine dZ rfl rfl rfl fun t c r=>?_
 skip;refine dZ rfl rfl rfl fun k e h=>?_
 have c:=c.ext h;have d:=r.trans h;refine PK ?_;refine WL.call rfl rfl rfl (mT k (P:=fun i=>P i∧Q i) (p.up d) hn (fun w n a hn=>FnV.mk (f:=144) (Rt.mono (xA w (c.ext a) (e.ext a) (o.up (d.trans a)) (m.up (d.trans a)) (show n<_ by rw[iN];exact hn) (show n<_ by rw[iN];exact hn)) (fun v w' g=>⟨_,g.1,gk (iM hn) (iM hn),g.2⟩)))) ?_;rintro _ s ⟨l,q⟩
 refine Pr ?_;exact be rfl rfl ⟨l.low d.size,d.trans q⟩
theorem xO(w:World){b b1 b2 x:Nat}{nx fr:bU}{lb:List Nat}(D:LabAt w b nx lb fr)(o:okG nx){ao:Option Addr}{ac:Nat}{P:Nat→Prop}(C:Blk w b1 99 [xk b])(B:Blk w b2 61 [.slice ao (iK nx.length P).length ac])
  (A:Sl w (c9 w) ao ac (iK nx.length P)) (n:x<nx.length):
  Rt Tryz.prog 145 [Pj (x:Int),Pk b1,Pk b2].toArray w fun v w'=>∃c:Bool,v=.bool c∧(c=true↔ou nx fr P x)∧Ext w w':=by
 obtain⟨a1,c1,n1,a2,c2,a3,c3,a4,c4,fo,fc,J,bc,H,h2,h3,h4,E,I⟩:=D;have e:=AF o x;rw[IS n]at e
 have j:∀m:Nat,Eg nx x m↔(m:Int)∈nx[x]:=fun m=>by unfold Eg;rw[IS n]
 refine dI Tryz.func145 Tryz.ntmps145 rfl rfl ?_;refine Qn ?_;refine eE rfl rfl rfl rfl rfl h2 n O3 (fun u q y=>?_);obtain⟨t,rc,rfl,s⟩:=y.sl;have z:=s.len63;generalize nx[x]=row at*
 refine PS ?_;refine CW.loop (S:=Nat) (fun i=>[(1,Pk b1),(2,Pk b2),(14,.slice t row.length rc),(15,Pj row.length),(16,Pj i)])
  (fun i w'=>w'=w∧i≤row.length∧∀m:Nat,(m:Int)∈row.take i→¬(P m∧oJ nx fr m)) (fun i=>row.length -i) 0 OR ⟨rfl,Nc _,fun m a=>by simp at a⟩ ?_
 rintro i w' ⟨rfl,hi,f⟩
 refine Qw ?_;apply CW.cond rfl<;>intro h
 ·have d:i<row.length:=by simp at h;omega
  obtain⟨k,p⟩:∃k:Nat,row[i]=(k:Int):=⟨(row[i]).toNat,by have:=e _ (Lb d);omega⟩;have g:k<nx.length:=by have:=e _ (Lb d);omega
  have l:row.take (i+1)=row.take i++[(k:Int)]:=by rw[Mj,KX d,p];rfl
  have r:(k:Int)∈row:=p▸Lb d;have bP:=iM (P:=P) g;have bF:=iM (P:=oJ nx fr) g;refine Qo ?_;refine eD rfl rfl rfl rfl rfl s d p O3 (fun q=>?_);refine QE ?_;refine eC rfl rfl rfl rfl rfl A (show k<_ by rw[iN];exact g) (IR _).symm O3 (fun G=>?_);generalize (iK nx.length P).getD k false=c at*
  cases c with
  |false=>
   refine QF ?_;refine EX.back (i+1) OR ⟨rfl,d,fun m a=>?_⟩ OS;rw[l]at a
   rcases LK.1 a with a|a
   ·exact f m a
   ·have:m=k:=by have:=L0.1 a;omega
    subst this;exact fun h=>by have:=bP.2 h.1;cases this
  |true=>
   refine QU ?_;refine eC rfl rfl rfl rfl rfl E (show k<_ by rw[iN];exact g) (IR _).symm O3 (fun F=>?_);generalize (iK nx.length (oJ nx fr)).getD k false=c at*
   cases c with
   |false=>
    refine QD ?_;refine EX.back (i+1) OR ⟨rfl,d,fun m a=>?_⟩ OS;rw[l]at a
    rcases LK.1 a with a|a
    ·exact f m a
    ·have:m=k:=by have:=L0.1 a;omega
     subst this;exact fun h=>by have:=bF.2 h.2;cases this
   |true=>
    refine Qa ?_;exact be rfl rfl ⟨_,rfl,⟨fun _=>⟨k,(j k).2 r,bP.1 rfl,bF.1 rfl⟩,fun _=>rfl⟩,Ext.refl _⟩
 ·obtain rfl:i=row.length:=by simp at h;omega
  rw[Ml]at f
  refine PG ?_;refine be rfl rfl ⟨_,rfl,⟨(fun h=>by cases h),fun⟨m,h1,h2⟩=>absurd h2 (f m ((j m).1 h1))⟩,Ext.refl _⟩
theorem xP(w0:World){b:Nat}{nx fr:bU}{lb:List Nat}(h:LabAt w0 b nx lb fr)(e:okG nx)(hn:nx.length≤600){ao:Option Addr}{ac:Nat}{P:Nat→Prop}(l:Sl w0 (c9 w0) ao ac (iK nx.length P)):
  Rt Tryz.prog 70 [xk b,.slice ao (iK nx.length P).length ac].toArray w0 fun v w'=>Own w' w0.heap.size 4 c7 v (iK nx.length (ou nx fr P))∧Ext w0 w':=by
 refine dH Tryz.func70 Tryz.ntmps70 rfl rfl ?_;refine Pm ?_;refine dZ rfl rfl rfl fun q c o=>?_
 skip;refine dZ rfl rfl rfl fun j g i=>?_
 have c:=c.ext i;have d:=o.trans i;refine PM ?_;refine WL.call rfl rfl rfl (mT j (P:=ou nx fr P) (h.up d) hn (fun w n a hn=>FnV.mk (f:=145) (xO w (h.up (d.trans a)) e (c.ext a) (g.ext a) (l.up (d.trans a)) hn))) ?_;rintro _ p ⟨k,m⟩
 refine Pr ?_;exact be rfl rfl ⟨k.low d.size,d.trans m⟩
def H8(out:List Bool):Nat:=out.countP fun b=>!b
theorem H9{out:List Bool}{k:Nat}(c:k<out.length)(h:out.getD k false=false):H8 (out.set k true)+1=H8 out:=by
 have a:out[k]=false:=by rw[←IR c];exact h
 unfold H8;rw[Ku c,a];have:0<out.countP fun b=>!b:=Ks.2 ⟨false,a▸Lb _,rfl⟩
 simp only[JU,JV,Ow,JQ,Ot];omega
theorem turnE_mem{nx:bU}{c k:Nat}:(k:Int)∈(HE nx).getD c []↔c<nx.length∧Eg nx k c:=by
 by_cases b:c<nx.length
 ·have a:c<(HE nx).length:=by rw[HF];exact b
  rw[IS a,HI a,LU];constructor
  ·rintro⟨x,d,e⟩
   obtain rfl:x=k:=by omega
   obtain⟨h1,h2⟩:=LR.1 d;exact⟨b,by unfold Eg;simpa using h2⟩
  ·rintro⟨_,h⟩
   refine⟨k,LR.2 ⟨LZ.2 h.lt1,?_⟩,rfl⟩;unfold Eg at h;simpa using h
 ·constructor
  ·intro h
   rw[KR,KY (by rw[HF];omega)]at h
   cases h
  ·exact fun h=>absurd h.1 b
structure EuI(nx:bU)(A B:Nat→Prop)(out:List Bool)(todo:List Int)(cur:Option (Nat×Nat)):Prop where
 len:out.length=nx.length
 td:∀x∈todo,0≤x∧x<nx.length∧out.getD x.toNat false=true
 snd:∀c,c<nx.length→out.getD c false=true→EuP (Eg nx) A B c
 bas:∀c,c<nx.length→B c→out.getD c false=true
 cls:∀c,c<nx.length→out.getD c false=true→(c:Int)∈todo∨(∀k,Eg nx k c→A k→out.getD k false=true)∨∃j,cur=some (c,j)∧∀k:Nat,(k:Int)∈((HE nx).getD c []).take j→A k→out.getD k false=true
 cnt:todo.length+H8 out≤nx.length
section
variable {nx:bU}{A B:Nat→Prop}{out:List Bool}{todo:List Int}
theorem EuI.done(a:okG nx)(h:EuI nx A B out [] none):out=iK nx.length (EuP (Eg nx) A B):=by
 refine iO h.len fun c d=>⟨h.snd c d,fun f=>?_⟩
 induction f with
 |here g=>exact h.bas _ d g
 |@step n m h1 h2 h3 e=>
  have b:=h2.lt a;rcases h.cls m b (e b)with h4|h4|⟨j,h4,_⟩
  ·cases h4
  ·exact h4 n h2 h1
  ·cases h4
theorem EuI.pop{c:Nat}{r:List Int}(h:EuI nx A B out ((c:Int)::r) none):EuI nx A B out r (some (c,0)):=by
 refine⟨h.len,fun x b=>h.td x (by simp[b]),h.snd,h.bas,fun c' a d=>?_,by have:=h.cnt;simp at this;omega⟩;rcases h.cls c' a d with h4|h4|⟨j,h4,_⟩
 ·rcases LN.1 h4 with h4|h4
  ·exact .inr (.inr ⟨0,by rw[show c'=c by omega],fun k e=>by simp at e⟩)
  ·exact .inl h4
 ·exact .inr (.inl h4)
 ·cases h4
theorem EuI.rowEnd{c j:Nat}(h:EuI nx A B out todo (some (c,j)))(f:((HE nx).getD c []).length≤j):EuI nx A B out todo none:=by
 refine⟨h.len,h.td,h.snd,h.bas,fun c' a d=>?_,h.cnt⟩;rcases h.cls c' a d with h4|h4|⟨i,h4,b⟩
 ·exact .inl h4
 ·exact .inr (.inl h4)
 ·obtain⟨rfl,rfl⟩:=Np (Nn h4)
  rw[Mm f]at b
  exact .inr (.inl fun k e g=>b k (turnE_mem.2 ⟨a,e⟩) g)
theorem EuI.skip{c j k:Nat}(h:EuI nx A B out todo (some (c,j)))(g:j<((HE nx).getD c []).length)(f:((HE nx).getD c [])[j]=(k:Int))(i:A k→out.getD k false=true):EuI nx A B out todo (some (c,j+1)):=by
 refine⟨h.len,h.td,h.snd,h.bas,fun c' d e=>?_,h.cnt⟩;rcases h.cls c' d e with h4|h4|⟨m,h4,l⟩
 ·exact .inl h4
 ·exact .inr (.inl h4)
 ·obtain⟨rfl,rfl⟩:=Np (Nn h4)
  refine .inr (.inr ⟨j+1,rfl,fun k' a b=>?_⟩);rw[Mj,KX g,f]at a
  rcases LK.1 a with a|a
  ·exact l k' a b
  ·have:k'=k:=by have:=L0.1 a;omega
   subst this;exact i b
theorem EuI.mark{c j k:Nat}(u:c<nx.length)(t:out.getD c false=true)(h:EuI nx A B out todo (some (c,j)))(p:j<((HE nx).getD c []).length)(o:((HE nx).getD c [])[j]=(k:Int))(w:A k)(s:out.getD k false=false):
  EuI nx A B (out.set k true) (todo++[(k:Int)]) (some (c,j+1))∧k<nx.length:=by
 have m:(k:Int)∈(HE nx).getD c []:=o▸Lb p;obtain⟨_,r⟩:=turnE_mem.1 m;have d:=r.lt1;have g:∀i,(out.set k true).getD i false=if k=i then true else out.getD i false:=fun i=>ri (by rw[h.len];exact d)
 have up:∀i,out.getD i false=true→(out.set k true).getD i false=true:=fun i hi=>by rw[g];split;rfl;exact hi
 refine⟨⟨by simp[h.len],fun x f=>?_,fun i hi a=>?_,fun i hi v=>up i (h.bas i hi v),fun i hi a=>?_,?_⟩,d⟩
 ·rcases LK.1 f with f|f
  ·obtain⟨h1,h2,h3⟩:=h.td x f
   exact⟨h1,h2,up _ h3⟩
  ·rw[L0]at f;subst f
   exact⟨by omega,by omega,by rw[g];simp⟩
 ·rw[g]at a
  split at a
  ·rename_i e;subst e;exact .step w r (h.snd c u t)
  ·exact h.snd i hi a
 ·rw[g]at a
  split at a
  ·rename_i e;subst e;exact .inl (LM _ OW)
  ·rcases h.cls i hi a with h4|h4|⟨z,h4,y⟩
   ·exact .inl (LL _ h4)
   ·exact .inr (.inl fun q hq l=>up q (h4 q hq l))
   ·obtain⟨rfl,rfl⟩:=Np (Nn h4)
    refine .inr (.inr ⟨j+1,rfl,fun k' b n=>?_⟩);rw[Mj,KX p,o]at b
    rcases LK.1 b with b|b
    ·exact up _ (y k' b n)
    ·have:k'=k:=by have:=L0.1 b;omega
     subst this;rw[g];simp
 ·have:=H9 (out:=out) (by rw[h.len];exact d) s
  have:=h.cnt;rw[Lk];simp;omega
end
def HA(out:List Bool)(i:Nat):List Int:=((List.range i).filter fun c=>out.getD c false).map fun c:Nat=>(c:Int)
theorem HC{out:List Bool}{i:Nat}:HA out (i+1)=HA out i++if out.getD i false=true then [(i:Int)]else []:=by
 unfold HA;rw[Mb,KG,LC]
 congr 1
 cases h:out.getD i false with
 |false=>rw[KI (by rw[h];decide)];rfl
 |true=>rw[KJ (by rw[h])];rfl
theorem trueL_mem{out:List Bool}{i c:Nat}:(c:Int)∈HA out i↔c<i∧out.getD c false=true:=by
 unfold HA;rw[LU];constructor
 ·rintro⟨x,a,e⟩
  obtain rfl:x=c:=by omega
  obtain⟨h1,h2⟩:=LR.1 a;exact⟨LZ.1 h1,h2⟩
 ·rintro⟨h1,h2⟩
  exact⟨c,LR.2 ⟨LZ.2 h1,h2⟩,rfl⟩
theorem HB{out:List Bool}:∀i,i≤out.length→(HA out i).length+(out.take i).countP (fun b=>!b)=i
 |0,_=>by simp[HA]
 |i+1,h=>by
  have hi:i<out.length:=by omega
  have a:=HB (out:=out) i OS;rw[HC,Lk,Mj,KX hi,Kp,IR hi];cases c:out[i]<;>simp<;>omega
theorem EuI.start{nx:bU}{A B:Nat→Prop}:EuI nx A B (iK nx.length B) (HA (iK nx.length B) nx.length) none:=by
 refine⟨iN,fun x b=>?_,fun c a h=>.here ((iM a).1 h),fun c a h=>(iM a).2 h,fun c a h=>.inl (trueL_mem.2 ⟨a,h⟩),?_⟩
 ·obtain⟨c,a,rfl⟩:∃c:Nat,c<nx.length∧x=(c:Int):=by
   unfold HA at b
   obtain⟨c,a,rfl⟩:=LU.1 b;exact⟨c,LZ.1 (LR.1 a).1,rfl⟩
  exact⟨by omega,by omega,(trueL_mem.1 b).2⟩
 ·have:=HB (out:=iK nx.length B) nx.length (by rw[iN];exact MM _)
  rw[Mm (by rw[iN];exact MM _)]at this
  unfold H8;omega
set_option maxHeartbeats 1000000 in
theorem xN(w0:World){b:Nat}{nx fr:bU}{lb:List Nat}(hL:LabAt w0 b nx lb fr)(hok:okG nx)(hn:nx.length≤600){ao bo:Option Addr}{ac bc:Nat}{P Q:Nat→Prop}(ha:Sl w0 (c9 w0) ao ac (iK nx.length P))(hb:Sl w0 (c9 w0) bo bc (iK nx.length Q)):
  Rt Tryz.prog 71 [xk b,.slice ao (iK nx.length P).length ac,.slice bo (iK nx.length Q).length bc].toArray w0 fun v w'=>Own w' w0.heap.size 4 c7 v (iK nx.length (nZ nx fr P Q))∧Ext w0 w':=by
 have hL0:=hL;obtain⟨a1,c1,n1,a2,c2,a3,c3,a4,c4,fo,fc,ro,rc,hlb,h2,h3,h4,h5,h6⟩:=hL;refine dI Tryz.func71 Tryz.ntmps71 rfl rfl ?_;refine Qn ?_;refine WL.call rfl rfl rfl (xB w0 hL0 hn hb h5) ?_;rintro _ w1 ⟨a,e1⟩
 rename_i ov;have hov:∃oo oc,ov=.slice oo nx.length oc:=by
  obtain⟨oo,oc,e⟩:=a.val;rw[iN]at e;exact⟨oo,oc,e⟩
 obtain⟨oo,oc,rfl⟩:=hov;refine Qp ?_;refine CW.loop (S:=Nat×Value) (fun s=>[(0,xk b),(1,.slice ao (iK nx.length P).length ac),(7,.slice oo nx.length oc),(8,s.2),(21,.slice oo nx.length oc),(22,Pj nx.length),(23,Pj s.1)])
  (fun s w=>s.1≤nx.length∧Own w w0.heap.size 4 c7 (.slice oo nx.length oc) (iK nx.length fun i=>Q i∧oJ nx fr i)∧Own w w0.heap.size 3 c7 s.2 (HA (iK nx.length fun i=>Q i∧oJ nx fr i) s.1)∧(∀g,s.2.ownBlock=some g→Value.ownBlock (.slice oo nx.length oc)≠some g)∧Ext w0 w)
  (fun s=>nx.length -s.1) (0,.slice none 0 0) OR ⟨Nc _,a,Own.nil,(fun g f=>by cases f),e1⟩ ?_
 ·clear a e1
  rintro⟨i,tv⟩ w2 ⟨hi,a,l,hd,m⟩
  dsimp only at hi a l hd m⊢
  have hle:=HB (out:=iK nx.length fun i=>Q i∧oJ nx fr i) i (by rw[iN];exact hi);refine Qw ?_;apply CW.cond rfl<;>intro h
  ·have K:i<nx.length:=by simp at h;omega
   have T:i<(iK nx.length fun i=>Q i∧oJ nx fr i).length:=by rw[iN];exact K
   have D:=HC (out:=iK nx.length fun i=>Q i∧oJ nx fr i) (i:=i);refine Qv ?_;refine eG (i:=i) rfl rfl rfl rfl rfl a T O3 (fun u q H=>?_);rw[H.bool,←IR T];clear H;generalize (iK nx.length fun i=>Q i∧oJ nx fr i).getD i false=c at*
   cases c with
   |false=>
    rw[Ou OU,Kk]at D
    rw[←D]at l
    refine QF ?_;exact EX.back (i+1,tv) OR ⟨K,a,l,hd,m⟩ OX
   |true=>
    rw[Ov rfl]at D
    refine Qb ?_;refine dY (α:=Int) (F:=c7) (bytes:=8) rfl rfl O3 rfl rfl O3 l Pe m.size O6 OU OY OS (fun tv' w3 q N X R=>?_);rw[←D]at N
    refine PI ?_;exact EX.back (i+1,tv') OR ⟨K,a.keptN X (fun g f e=>hd g e.symm f),N,fun g f e=>by
     rcases R g f with h|h
     ·exact hd g h e
     ·have:=(a.lt g e).2.1;omega,m.grown X m.size (fun g f=>(l.lt g f).1)⟩ OX
  obtain rfl:i=nx.length:=by simp at h;omega
  have hI0:EuI nx P (fun i=>Q i∧oJ nx fr i) _ _ none:=EuI.start;generalize HA (iK nx.length fun i=>Q i∧oJ nx fr i) nx.length=todo at*
  generalize (iK nx.length fun i=>Q i∧oJ nx fr i)=out at*
  refine Qy ?_;refine CW.loop (S:=List Bool×Value×List Int) (fun s=>[(0,xk b),(1,.slice ao (iK nx.length P).length ac),(7,.slice oo nx.length oc),(8,s.2.1)])
   (fun s w=>EuI nx P (fun i=>Q i∧oJ nx fr i) s.1 s.2.2 none∧Own w w0.heap.size 4 c7 (.slice oo nx.length oc) s.1∧Own w w0.heap.size 3 c7 s.2.1 s.2.2∧(∀g,s.2.1.ownBlock=some g→Value.ownBlock (.slice oo nx.length oc)≠some g)∧Ext w0 w)
   (fun s=>s.2.2.length+2*H8 s.1) (out,tv,todo) OR ⟨hI0,a,l,hd,m⟩ ?_
  clear hI0 a l hd m hle h tv;rintro⟨out,tv,todo⟩ w2 ⟨n,a,l,hd,m⟩
  dsimp only at n a l hd m⊢
  refine Qu ?_;apply CW.cond rfl<;>intro h
  ·have C:0<todo.length:=by simpa using h
   obtain⟨x,r,rfl⟩:∃x r,todo=x::r:=by
    cases todo with
    |nil=>simp at C
    |cons x r=>exact⟨x,r,rfl⟩
   obtain⟨hx0,hxn,G⟩:=n.td x OW;obtain⟨c,rfl⟩:∃c:Nat,x=(c:Int):=⟨x.toNat,by omega⟩;rw[Kd]at G
   have hc:c<nx.length:=by omega
   have Y:c<(HE nx).length:=by rw[HF];exact hc
   have hb2:=hlb.ext m;have o:=h6.at m;refine Qv ?_;refine eG (i:=0) rfl rfl rfl rfl rfl l OW O3 (fun u q H=>?_);rw[H.int];simp only[K9];refine Qw ?_;refine eA (α:=Int) 1 rfl rfl rfl rfl rfl l OW (fun tv2 I hnb=>?_);rw[List.drop_one,List.tail_cons]at I
   refine Qn ?_;refine eE (i:=c) rfl rfl rfl rfl rfl o Y O3 (fun u2 q2 L=>?_);obtain⟨po,pc,rfl,hp⟩:=L.sl;have hpl:=hp.len63;have U:(HE nx)[c]=(HE nx).getD c []:=(IS Y).symm;rw[U]at hp hpl⊢
   clear l C H L U o hb2;refine PS ?_;refine CW.loop (S:=Nat×List Bool×Value×List Int) (fun s=>[(0,xk b),(1,.slice ao (iK nx.length P).length ac),(7,.slice oo nx.length oc),(8,s.2.2.1),(48,.slice po ((HE nx).getD c []).length pc),(49,Pj ((HE nx).getD c []).length),(50,Pj s.1)])
    (fun s w=>s.1≤((HE nx).getD c []).length∧EuI nx P (fun i=>Q i∧oJ nx fr i) s.2.1 s.2.2.2 (some (c,s.1))∧s.2.1.getD c false=true∧Own w w0.heap.size 4 c7 (.slice oo nx.length oc) s.2.1∧Own w w0.heap.size 3 c7 s.2.2.1 s.2.2.2∧(∀g,s.2.2.1.ownBlock=some g→Value.ownBlock (.slice oo nx.length oc)≠some g)∧Ext w0 w∧s.2.2.2.length+2*H8 s.2.1+1≤((c:Int)::r).length+2*H8 out)
    (fun s=>((HE nx).getD c []).length -s.1) (0,out,tv2,r) OR ⟨Nc _,n.pop,G,a,I,(fun g f=>hd g (hnb▸f)),m,by simp only[Ll];omega⟩ ?_
   clear n a I hd G hnb;rintro⟨j,o2,tv3,t2⟩ w3 ⟨hj,n,z,a,l,hd,E,t⟩
   dsimp only at hj n z a l hd E t⊢
   refine Qw ?_;apply CW.cond rfl<;>intro h
   ·have d:j<((HE nx).getD c []).length:=by simp only[Om]at h;omega
    obtain⟨k,hk⟩:∃k:Nat,((HE nx).getD c [])[j]=(k:Int):=⟨(((HE nx).getD c [])[j]).toNat,by
     have:=AF (HH nx) c _ (Lb d);omega⟩
    have J:k<nx.length:=by
     have:=AF (HH nx) c _ (Lb d);rw[HF]at this;omega
    have hp3:Sl w3 (c9 w0) po pc ((HE nx).getD c []):=hp.mono (fun b hb=>(E.block b hb).trans (m.block b hb).symm) O8;have haa:=ha.up E;have bP:=iM (P:=P) J;have y:k<o2.length:=by rw[n.len];exact J
    refine Qo ?_;refine eD rfl rfl rfl rfl rfl hp3 d hk O3 (fun q=>?_);refine Qw ?_;refine eC rfl rfl rfl rfl rfl haa (show k<_ by rw[iN];exact J) (IR _).symm O3 (fun q2=>?_);generalize (iK nx.length P).getD k false=pk at*
    cases pk with
    |false=>
     refine QF ?_;exact EX.back (j+1,o2,tv3,t2) OR ⟨d,n.skip d hk (fun h=>by have:=bP.2 h;cases this),z,a,l,hd,E,t⟩ OX
    |true=>
     refine QO ?_;refine eG (i:=k) rfl rfl rfl rfl rfl a y O3 (fun u q3 H=>?_);rw[H.bool,←IR y];cases p:o2.getD k false with
     |true=>
      refine QD ?_;exact EX.back (j+1,o2,tv3,t2) OR ⟨d,n.skip d hk (fun _=>p),z,a,l,hd,E,t⟩ OX
     |false=>
      obtain⟨Z,_⟩:=n.mark hc z d hk (bP.1 rfl) p;have hu4:=H9 y p;have hcnt:=Z.cnt;have hcnt':=n.cnt;refine Qb ?_;refine fu (u:=.bool true) (yv:=true) rfl rfl rfl rfl a y O3 O3 (Rd.mkBool _ _ _) (fun w4 q4 ho4 W=>?_);have e4:Ext w0 w4:=E.grown W E.size (fun g f=>(a.lt g f).1);have M:=l.keptN W (fun g f e=>hd g f e.symm);refine PP ?_;refine dY (α:=Int) (F:=c7) (bytes:=8) rfl rfl O3 rfl rfl O3 M Pe e4.size O6 OU OY OS (fun tv' w5 q5 ht5 V O=>?_);refine PI ?_;refine EX.back (j+1,o2.set k true,tv',t2++[(k:Int)]) OR ⟨d,Z,?_,ho4.keptN V (fun g f e=>hd g e.symm f),ht5,fun g f e=>?_,e4.grown V e4.size (fun g f=>(M.lt g f).1),?_⟩ OX
      ·dsimp only;rw[ri y];split;rfl;exact z
      ·rcases O g f with h|h
       ·exact hd g h e
       ·have:=(ho4.lt g e).2.1;omega
      ·dsimp only;rw[Lk];simp only[Ll,Lr]at t⊢;omega
   ·have d:((HE nx).getD c []).length≤j:=by simp only[Ok]at h;omega
    refine PZ ?_;exact EX.back (o2,tv3,t2) OR ⟨n.rowEnd d,a,l,hd,E⟩ (by dsimp only;simp only[Ll]at t⊢;omega)
  ·have C:todo=[]:=KD (by simpa using h)
   subst C;rw[n.done hok]at a
   refine PG ?_;exact be rfl rfl ⟨a,m⟩
theorem xE(w0:World){b:Nat}{nx fr:bU}{lb:List Nat}(e:LabAt w0 b nx lb fr)(a:WOk nx fr){ao:Option Addr}{ac:Nat}{P:Nat→Prop}(d:Sl w0 (c9 w0) ao ac (iK nx.length P)):
  Rt Tryz.prog 72 [xk b,.slice ao (iK nx.length P).length ac].toArray w0 fun v w'=>Own w' w0.heap.size 4 c7 v (iK nx.length (nh nx fr P))∧Ext w0 w':=by
 obtain⟨a1,c1,n1,a2,c2,a3,c3,a4,c4,fo,fc,h,rc,hlb,h2,h3,h4,j,i⟩:=e;refine dH Tryz.func72 Tryz.ntmps72 rfl rfl ?_;refine PU ?_;refine WL.call rfl rfl rfl (fF w0 (inn:=iK nx.length P) (n1:=n1) (a1:=a1) (c1:=c1) h2 h4 d a.g a.f iN a.n a.e) ?_;rintro _ g ⟨c,f⟩
 rw[IY a.g]at c
 refine Pr ?_;exact be rfl rfl ⟨c,f⟩
theorem Own.asSl{w:World}{B:Nat}{e:TypeId}{v:Value}{xs:List Bool}(h:Own w B e c7 v xs):∃ao cap,v=.slice ao xs.length cap∧Sl w (c9 w) ao cap xs:=h.oldN.sl
set_option maxHeartbeats 1000000 in
theorem xy(w0:World){b:Nat}{nx fr:bU}{lb:List Nat}(C:LabAt w0 b nx lb fr)(W:WOk nx fr){ao bo:Option Addr}{ac bc:Nat}{P Q:Nat→Prop}(ha:Sl w0 (c9 w0) ao ac (iK nx.length P))(V:Sl w0 (c9 w0) bo bc (iK nx.length Q)):
  Rt Tryz.prog 73 [xk b,.slice ao (iK nx.length P).length ac,.slice bo (iK nx.length Q).length bc].toArray w0 fun v w'=>Own w' w0.heap.size 4 c7 v (iK nx.length (gO nx fr P Q))∧Ext w0 w':=by
 have hn:=W.n;refine dI Tryz.func73 Tryz.ntmps73 rfl rfl ?_;refine Qw ?_;refine WL.call rfl rfl rfl (ya w0 C hn V) ?_;rintro _ w1 ⟨l,R⟩
 obtain⟨xo,xc,rfl,H⟩:=l.asSl;refine QO ?_;refine WL.call rfl rfl rfl (ya w1 (C.up R) hn (ha.up R)) ?_;rintro _ w2 ⟨G,e2⟩
 obtain⟨yo,yc,rfl,hy⟩:=G.asSl;have E:=R.trans e2;refine QO ?_;refine WL.call rfl rfl rfl (ya w2 (C.up E) hn (V.up E)) ?_;rintro _ w3 ⟨F,O⟩
 obtain⟨zo,zc,rfl,hz⟩:=F.asSl;have E:=E.trans O;skip;refine WL.call rfl rfl rfl (xB w3 (C.up E) hn (hy.up O) hz) ?_;rintro _ w4 ⟨I,Z⟩
 obtain⟨vo,vc,rfl,hv⟩:=I.asSl;have x:=E.trans Z;skip;refine WL.call rfl rfl rfl (xN w4 (C.up x) W.g hn (H.up (e2.trans (O.trans Z))) hv) ?_;rintro bv w5 ⟨a,e5⟩
 have t:=x.trans e5;have a:=a.low (B':=w0.heap.size) x.size;clear H hy hz hv l G F I R e2 O Z e5 E x;refine Qw ?_;refine WL.call rfl rfl rfl (ya w5 (C.up t) hn (V.up t)) ?_;rintro _ w6 ⟨l,Y⟩
 obtain⟨xo,xc,rfl,H⟩:=l.asSl;have r:=t.trans Y;have a:=a.extN Y;have K:=fun g d=>(a.lt g d).2.1
 skip;refine WL.call rfl rfl rfl (xE w6 (C.up r) W H) ?_;rintro gv w7 ⟨d,X⟩
 have N:=r.trans X;have a:=a.extN X;have U:∃go gc,gv=.slice go nx.length gc:=by
  obtain⟨go,gc,e⟩:=d.val;rw[iN]at e;exact⟨go,gc,e⟩
 obtain⟨go,gc,rfl⟩:=U;have y:∀g,bv.ownBlock=some g→Value.ownBlock (.slice go nx.length gc)≠some g:=fun g h1 h2=>by
  have:=K g h1;have:=(d.lt g h2).1;omega
 have d:=d.low (B':=w0.heap.size) r.size;have f:(iK nx.length (nZ nx fr (fun i=>¬Q i) fun i=>¬P i∧¬Q i)).length=nx.length:=iN;have j:∀c,c<nx.length→((iK nx.length (nZ nx fr (fun i=>¬Q i) fun i=>¬P i∧¬Q i)).getD c false=true↔nZ nx fr (fun i=>¬Q i) (fun i=>¬P i∧¬Q i) c):=fun c z=>iM z
 generalize iK nx.length (nZ nx fr (fun i=>¬Q i) fun i=>¬P i∧¬Q i)=out at*
 clear K H l Y X;refine PS ?_;refine CW.loop (S:=Nat×List Bool) (fun s=>[(0,xk b),(7,bv),(27,.slice go nx.length gc),(28,Pj nx.length),(29,Pj s.1)])
  (fun s w=>s.1≤nx.length∧s.2.length=nx.length∧(∀c,c<nx.length→(s.2.getD c false=true↔nZ nx fr (fun i=>¬Q i) (fun i=>¬P i∧¬Q i) c∨(c<s.1∧nh nx fr (fun i=>¬Q i) c)))∧Own w w0.heap.size 4 c7 bv s.2∧Own w w0.heap.size 4 c7 (.slice go nx.length gc) (iK nx.length (nh nx fr fun i=>¬Q i))∧Ext w0 w)
  (fun s=>nx.length -s.1) (0,out) OR ⟨Nc _,f,fun c z=>by rw[j c z];exact⟨.inl,fun h=>h.elim id (fun h=>absurd h.1 (MZ _))⟩,a,d,N⟩ ?_
 clear f j a d N r t;rintro⟨i,o⟩ w8 ⟨hi,f,j,a,d,D⟩
 dsimp only at hi f j a d D⊢
 obtain⟨oo,oc,hov⟩:=a.val;refine Qw ?_;apply CW.cond rfl<;>intro h
 ·have n:i<nx.length:=by simp at h;omega
  have L:i<(iK nx.length (nh nx fr fun i=>¬Q i)).length:=by rw[iN];exact n
  have m:i<o.length:=by omega
  have bG:=iM (P:=nh nx fr fun i=>¬Q i) n;have bO:=j i n;refine Qv ?_;refine eG (i:=i) rfl rfl rfl rfl rfl d L O3 (fun u q J=>?_);rw[J.bool,←IR L];clear J;generalize (iK nx.length (nh nx fr fun i=>¬Q i)).getD i false=gb at*
  refine PP ?_;refine eG (i:=i) rfl rfl rfl rfl rfl a m O3 (fun u q2 J=>?_);rw[J.bool,←IR m];clear J;have fin:∀c:Bool,(c=true↔nZ nx fr (fun i=>¬Q i) (fun i=>¬P i∧¬Q i) i∨nh nx fr (fun i=>¬Q i) i)→∀k,k<nx.length→((o.set i c).getD k false=true↔nZ nx fr (fun i=>¬Q i) (fun i=>¬P i∧¬Q i) k∨(k<i+1∧nh nx fr (fun i=>¬Q i) k)):=fun c z k hk=>by
   rw[ri m];by_cases e:i=k
   ·subst e;rw[Ov rfl,z]
    exact OD J8 ⟨fun h=>⟨Nat.lt_succ_self _,h⟩,fun h=>h.2⟩
   ·rw[Ou e,j k hk]
    exact OD J8 (N9 OS J8)
  generalize o.getD i false=ob at*
  cases ob with
  |true=>
   refine QZ ?_;refine fu (u:=.bool true) (yv:=true) rfl rfl rfl rfl a m O3 O3 (Rd.mkBool _ _ _) (fun w9 q4 ho4 p=>?_);refine PI ?_;refine EX.back (i+1,o.set i true) OR ⟨n,by simpa using f,fin true ⟨fun _=>(bO.1 rfl).imp id (fun h=>h.2),fun _=>rfl⟩,ho4,d.keptN p (fun g h1 e=>y g e.symm h1),D.grown p D.size (fun g d=>(a.lt g d).1)⟩ OX
  |false=>
   refine QO ?_;refine fu (u:=.bool gb) (yv:=gb) rfl rfl rfl rfl a m O3 O3 (Rd.mkBool _ _ _) (fun w9 q4 ho4 p=>?_);refine PI ?_;refine EX.back (i+1,o.set i gb) OR ⟨n,by simpa using f,fin gb ⟨fun h=>.inr (bG.1 h),fun h=>h.elim (fun h=>by have:=bO.2 (.inl h);cases this) (fun h=>bG.2 h)⟩,ho4,d.keptN p (fun g h1 e=>y g e.symm h1),D.grown p D.size (fun g d=>(a.lt g d).1)⟩ OX
 obtain rfl:i=nx.length:=by simp at h;omega
 have M:o=iK nx.length fun c=>nZ nx fr (fun i=>¬Q i) (fun i=>¬P i∧¬Q i) c∨nh nx fr (fun i=>¬Q i) c:=iO f fun c z=>by
  rw[j c z];exact OD J8 ⟨fun h=>h.2,fun h=>⟨z,h⟩⟩
 subst M;obtain⟨oo,oc,rfl,T⟩:=a.asSl;refine P9 ?_;refine WL.call rfl rfl rfl (ya w8 (C.up D) hn T) ?_;rintro _ w9 ⟨ho9,e9⟩
 refine Pr ?_;exact be rfl rfl ⟨ho9.low D.size,D.trans e9⟩
theorem xU{α:Type}{l:List α}(h:l.length=2):∃x y,l=[x,y]:=by
 match l,h with
 |[x,y],_=>exact⟨x,y,rfl⟩
mutual
def AB:Ltl→Prop
 |.mk k n kids=>wS k=kids.length∧0≤n∧n≤63∧AC kids
def AC:List Ltl→Prop
 |[]=>True
 |x::r=>AB x∧AC r
end
theorem AD:∀{l:List Ltl} {x:Ltl},AC l→x∈l→AB x
 |y::r,x,h,a=>by
  rw[AC]at h
  rcases LN.1 a with rfl|a
  ·exact h.1
  ·exact AD h.2 a
mutual
theorem jz:∀(t:Ltl) (deep c:Int),(jt t deep c).1=0→AB t
 |.mk k n kids,deep,c,h=>by
  simp only[jt]at h
  split at h
  ·cases h
  split at h
  ·cases h
  split at h
  ·cases h
  rename_i h3;rw[AB];exact⟨by omega,by omega,by omega,jw kids _ _ h⟩
theorem jw:∀(l:List Ltl) (deep c:Int),(ju l deep c).1=0→AC l
 |[],_,_,_=>by rw[AC];trivial
 |x::r,deep,c,h=>by
  simp only[ju]at h
  split at h
  ·rename_i h1;exact absurd h h1
  rename_i h1;rw[AC];exact⟨jz x _ _ (by simpa using h1),jw r _ _ h⟩
end
instance s9:IsT Tryz.prog 61 Raw:=IsT.of OT NX rfl
instance s_:IsZ Tryz.prog 61 (⟨.slice none 0 0⟩:Raw) 24:=IsZ.of (z:=.slice none 0 0) OT (fun _ _=>⟨rfl,rfl⟩)
theorem xW(w:World)(x:Nat):Rt Tryz.prog 65 [Pj (x:Int)].toArray w fun v w'=>v=.bool true∧Ext w w':=by
 refine dG Tryz.func65 Tryz.ntmps65 rfl rfl ?_;refine P7 ?_;exact be rfl rfl ⟨rfl,Ext.refl _⟩
theorem IU{l:List Nat}{j:Nat}(h:j<l.length):l.getD j 0=l[j]:=by rw[KR,KX h];rfl
theorem xX(w:World){b b1 b2 x:Nat}{nx fr:bU}{lb:List Nat}(l:LabAt w b nx lb fr){k n:Int}{kv:Value}(j:Blk w b1 99 [xk b])(i:Blk w b2 35 [Pj k,Pj n,kv])(f:x<lb.length)(hn:0≤n):
  Rt Tryz.prog 66 [Pj (x:Int),Pk b1,Pk b2].toArray w fun v w'=>∃c:Bool,v=.bool c∧(c=true↔lb.getD x 0 >>> n.toNat&&&1=1)∧Ext w w':=by
 obtain⟨a1,c1,n1,a2,c2,a3,c3,a4,c4,fo,fc,s,bc,o,h2,h3,h4,r,p⟩:=l;refine dI Tryz.func66 Tryz.ntmps66 rfl rfl ?_;refine QJ ?_;refine dn rfl rfl rfl rfl rfl O8 h3 f O3 (fun u q g=>?_);obtain⟨rfl,d⟩:=g.u64;rw[IU f];generalize lb[x]=a at*
 refine Q0 ?_;refine dB rfl rfl rfl rfl d hn ?_;have h:a >>> n.toNat<18446744073709551616:=MP (M7 _ _) d;refine di rfl rfl rfl rfl h ?_;refine QP ?_;refine QL.nil fun w' e=>?_
 refine Pz ?_;refine be rfl rfl ⟨_,rfl,?_,e⟩;generalize a >>> n.toNat&&&1=m;simp;omega
theorem xY(w:World){bk x N:Nat}{ko:Option Addr}{kc:Nat}{P Q:Nat→Prop}(k:Blk w bk 124 [.slice ko ([iK N P,iK N Q]:List (List Bool)).length kc])(j:Sl w (c9 w) ko kc [iK N P,iK N Q])(e:x<N):
  Rt Tryz.prog 69 [Pj (x:Int),Pk bk].toArray w fun v w'=>∃c:Bool,v=.bool c∧(c=true↔P x∨Q x)∧Ext w w':=by
 refine dH Tryz.func69 Tryz.ntmps69 rfl rfl ?_;refine QE ?_;refine eE (i:=0) rfl rfl rfl rfl rfl j OW O3 (fun u q d=>?_);simp only[K9]at d
 obtain⟨uo,uc,rfl,g⟩:=d.sl;have b:x<(iK N P).length:=by rw[iN];exact e
 have bP:=iM (P:=P) e;have bQ:=iM (P:=Q) e;refine QO ?_;refine eC rfl rfl rfl rfl rfl g b (IR b).symm O3 (fun q=>?_);generalize (iK N P).getD x false=c at*
 cases c with
 |true=>
  refine Pt ?_;exact be rfl rfl ⟨_,rfl,⟨fun _=>.inl (bP.1 rfl),fun _=>rfl⟩,Ext.refl _⟩
 |false=>
  refine QV ?_;refine eE (i:=1) rfl rfl rfl rfl rfl j OW O3 (fun u q d=>?_);simp only[K8,K9]at d
  obtain⟨vo,vc,rfl,f⟩:=d.sl;have a:x<(iK N Q).length:=by rw[iN];exact e
  refine QO ?_;refine eC rfl rfl rfl rfl rfl f a (IR a).symm O3 (fun q=>?_);generalize (iK N Q).getD x false=c at*
  refine Pr ?_;exact be rfl rfl ⟨_,rfl,⟨fun h=>.inr (bQ.1 h),fun h=>h.elim (fun h=>by have:=bP.2 h;cases this) bQ.2⟩,Ext.refl _⟩
set_option maxHeartbeats 4000000 in
set_option maxRecDepth 100000 in
theorem xm{nx fr:bU}{lb:List Nat}(hW:WOk nx fr)(hlb:lb.length=nx.length):∀(m:Nat) (t:Ltl),t.nodes≤m→AB t→∀(w0:World) (b:Nat) (ao:Option Addr) (cap:Nat),LabAt w0 b nx lb fr→Sl w0 (c9 w0) ao cap t.kids→
  Rt Tryz.prog 34 [xk b,yj t.k t.n ao t.kids.length cap].toArray w0 fun v w'=>Own w' w0.heap.size 4 c7 v (iK nx.length (lG nx lb fr t))∧Ext w0 w'
 |0,t,hm=>by have:=t.nodes_pos;omega
 |m+1,.mk k n kids,hm=>by
  intro hC w0 b ao cap G hs
  simp only[Ltl.kids,Ltl.k,Ltl.n]at*
  rw[AB]at hC
  obtain⟨K,hn0,hn1,hCk⟩:=hC;have hn:=hW.n;have hlen:=hs.len63;have hk2:kids.length≤2:=by
   unfold wS at K
   split at K<;>first|omega|(split at K<;>first|omega|(split at K<;>omega))
  refine dH Tryz.func34 Tryz.ntmps34 rfl rfl ?_;refine Pm ?_;refine dZ rfl rfl rfl fun w1 C e1=>?_
  skip;refine dZ rfl rfl rfl fun w2 H e2=>?_
  have C:=C.ext e2;have hE:=e1.trans e2;have hz1:=e1.size;have hz2:=e2.size;have hl2:=C.lt;have hl3:=H.lt;refine QE ?_;refine WL.call rfl rfl rfl (mT w2 (P:=fun _=>True) (G.up hE) hn (fun w x O hx=>FnV.mk (f:=65) (cs:=[]) (Rt.mono (xW w x) (fun v w' hv=>⟨true,hv.1,⟨fun _=>trivial,fun _=>rfl⟩,hv.2⟩)))) ?_;rintro av I ⟨U,e3⟩
  have C:=C.ext e3;have H:=H.ext e3;have hE:=hE.trans e3;have hal:∀g,av.ownBlock=some g→g<I.heap.size:=fun g E=>(U.lt g E).2.1
  have U:=U.low (B':=w0.heap.size) (MN hz1 hz2);refine Qw ?_;refine WL.alloc rfl rfl (fun w4 J e4=>?_);have C:=C.ext e4;have H:=H.ext e4;have hE:=hE.trans e4;have U:=U.extN e4;have hl6:=J.lt;have hz3:=e3.size;refine QH ?_;refine CW.loop (S:=Nat×Value×List Raw) (fun s=>[(2,Pk w0.heap.size),(3,Pk w1.heap.size),(5,av),(6,Pk I.heap.size),(12,.slice ao kids.length cap),(13,Pj kids.length),(14,Pj s.1)])
   (fun s w=>s.1≤kids.length∧Blk w I.heap.size 124 [s.2.1]∧Own w w4.heap.size 61 c7 s.2.1 s.2.2∧InnR w (fun b=>s.2.1.ownBlock=some b∨b=I.heap.size) s.2.2 ((kids.take s.1).map fun x=>iK nx.length (lG nx lb fr x))∧Chg (fun b=>b=I.heap.size) w4 w)
   (fun s=>kids.length -s.1) (0,.slice none 0 0,[]) OR ⟨Nc _,J,Own.nil,InnR.nil,Chg.refl _ _⟩ ?_
  ·clear J
   rintro⟨i,kv,vs⟩ a ⟨hi,J,X,T,L⟩
   dsimp only at hi J X T L⊢
   have hz5:=L.size;have hvl:vs.length=i:=by rw[T.len,Lq,Lz];omega
   have c:Ext w0 a:=L.ext hE (fun b hb=>by omega);have C:Blk a w0.heap.size 99 [xk b]:=(L.block _ OS OS).trans C;have H:Blk a w1.heap.size 35 [Pj k,Pj n,.slice ao kids.length cap]:=(L.block _ OS OS).trans H;have hav5:Own a w0.heap.size 4 c7 av (iK nx.length fun _=>True):=U.chg L (fun g E e=>by have:=hal g E;omega);refine Qw ?_;apply CW.cond rfl<;>intro h
   ·have Z:i<kids.length:=by simp at h;omega
    refine Qo ?_;refine eE rfl rfl rfl rfl rfl (hs.up c) Z O3 (fun u q hu=>?_);have htk:(kids.take (i+1)).map (fun x=>iK nx.length (lG nx lb fr x))=(kids.take i).map (fun x=>iK nx.length (lG nx lb fr x))++[iK nx.length (lG nx lb fr kids[i])]:=by
     rw[Mj,KX Z,LC];rfl
    have hnode:(kids[i]).nodes≤m:=by
     have:=Ltl.nodes_kid kids _ (Lb Z);simp only[Ltl.nodes]at hm;omega
    have hCx:=AD hCk (Lb Z);generalize kids[i]=x at*
    obtain⟨xo,xc,rfl,hx⟩:=hu.ltl;skip;refine WL.alloc rfl rfl (fun D hb8 B=>?_);skip;refine WL.st rfl rfl rfl hb8 rfl rfl Pd (fun A hb8 hg7=>?_);have Q:Ext a A:=B.grown hg7 B.size O5;have C:=C.ext Q;have H:=H.ext Q;have J:=J.ext Q;have hl8:=hb8.lt;have hz7:=Q.size;have hkv7:=X.extN Q;have N:=fun g E=>X.lt g E
    have hE7:=c.trans Q;clear hu B hg7;have hD:Ext A (drew A):=Ext.drew A;have hzd:=hD.size;have hb2d:=C.ext hD;have hb6d:=J.ext hD;have hb8d:=hb8.ext hD;have hK2:∀u,(fun z:World=>z.heap[w0.heap.size]?=(drew A).heap[w0.heap.size]?∧z.heap[I.heap.size]?=(drew A).heap[I.heap.size]?∧z.heap[a.heap.size]?=(drew A).heap[a.heap.size]?) u→u.heap[w0.heap.size]?=(drew A).heap[w0.heap.size]?:=fun _ h=>h.1
    have hK6:∀u,(fun z:World=>z.heap[w0.heap.size]?=(drew A).heap[w0.heap.size]?∧z.heap[I.heap.size]?=(drew A).heap[I.heap.size]?∧z.heap[a.heap.size]?=(drew A).heap[a.heap.size]?) u→u.heap[I.heap.size]?=(drew A).heap[I.heap.size]?:=fun _ h=>h.2.1
    have hK8:∀u,(fun z:World=>z.heap[w0.heap.size]?=(drew A).heap[w0.heap.size]?∧z.heap[I.heap.size]?=(drew A).heap[I.heap.size]?∧z.heap[a.heap.size]?=(drew A).heap[a.heap.size]?) u→u.heap[a.heap.size]?=(drew A).heap[a.heap.size]?:=fun _ h=>h.2.2
    refine QB ?_;refine aE (fun z:World=>z.heap[w0.heap.size]?=(drew A).heap[w0.heap.size]?∧z.heap[I.heap.size]?=(drew A).heap[I.heap.size]?∧z.heap[a.heap.size]?=(drew A).heap[a.heap.size]?) [(0,true),(1,true),(2,true),(3,false),(4,false),(5,false)] 6 mixed OT ⟨rfl,rfl,rfl⟩ ?_;refine Q2 ?_;refine cg hK8 rfl rfl rfl rfl hb8d rfl ?_;refine cu rfl (WL.call rfl rfl rfl (xm hW hlb m x hnode hCx (drew A) b xo xc (G.up (hE7.trans hD)) (hx.up (Q.trans hD))) ?_);rintro lv w8 ⟨hlv,M⟩
    have hz8:=M.size;refine WL.nil (a_ ⟨M.block _ OS,M.block _ OS,M.block _ OS⟩ ?_);obtain⟨lo,lc,hlve⟩:=hlv.val;subst hlve;have hkv8:=(hkv7.extN hD).extN M;refine bV (α:=Raw) (F:=c7) (bytes:=24) (yv:=(⟨.slice lo (iK nx.length (lG nx lb fr x)).length lc⟩:Raw)) rfl rfl rfl rfl O3 rfl rfl O3 hkv8 (Rd.mkRaw _ _ _ rfl) OS O6 OU OY OS
     (fun z hz=>⟨(hz.block _ OS (fun e=>by have:=N _ e.symm;omega)).trans (M.block _ OS),(hz.block _ OS (fun e=>by have:=N _ e.symm;omega)).trans (M.block _ OS),(hz.block _ OS (fun e=>by have:=N _ e.symm;omega)).trans (M.block _ OS)⟩) (fun kv' w9 q9 ho9 hg9 hnb9=>?_)
    obtain⟨ko',kc',rfl⟩:=ho9.val;have hb69:=((hb6d.ext M).kept hg9 (fun e=>by have:=N _ e.symm;omega));have hz9:=hg9.size;refine HL.nil ?_;refine bm rfl (WL.st rfl rfl rfl hb69 rfl rfl Pd (fun w10 hb10 hg10=>WL.nil (bp ?_)));have hlvs:Rd w8 (Fz w8 (fun b=>kv.ownBlock=some b∨b=I.heap.size)) (.slice lo (iK nx.length (lG nx lb fr x)).length lc) (iK nx.length (lG nx lb fr x)):=
     hlv.rd.mono Pc (fun g E=>E.elim (fun h=>h.elim) (fun E=>⟨(hlv.lt g E).2.1,fun h=>by
      have h1:=(hlv.lt g E).1;rcases h with h|h
      ·have:=N g h;omega
      ·omega⟩))
    have hin8:=(T.to (M':=fun b=>kv.ownBlock=some b∨b=I.heap.size) (Chg.of_ext _ ((Q.trans hD).trans M)) (fun _ h=>.inl h)).push hlvs;have hC9:Chg (fun b=>kv.ownBlock=some b∨b=I.heap.size) w8 w10:=((Chg.of_grown hg9).wk (fun _ h=>.inl h)).grown hg10 (fun g E=>by cases E;exact .inr rfl);have Y:=hin8.to (M':=fun b=>Value.ownBlock (.slice ko' (vs++[(⟨.slice lo (iK nx.length (lG nx lb fr x)).length lc⟩:Raw)]).length kc')=some b∨b=I.heap.size) hC9 (fun g E=>E.elim (fun E=>(hnb9 g E).imp .inl id) (fun E=>.inl (.inr E)));rw[←htk]at Y
    have hC10:Chg (fun b=>b=I.heap.size) w4 w10:=(L.trans (Chg.of_ext _ ((Q.trans hD).trans M))).then hC9 (fun g E=>E.elim (fun h=>.inr (N g h).1) .inl);refine PI ?_;exact EX.back (i+1,_,vs++[_]) OR ⟨Z,hb10,ho9.keptN hg10 (fun g E e=>by
     have:=Nn e;rcases hnb9 g E with h|h
     ·have:=N g h;omega
     ·omega),Y,hC10⟩ OX
   ·have hie:i=kids.length:=by simp at h;omega
    subst hie;rw[Ml]at T
    obtain⟨ko,kc,rfl,d⟩:=T.old X;clear T X hi h L hvl;obtain⟨ao2,ac2,rfl,has⟩:=hav5.asSl;refine Qc ?_;apply CW.cond rfl<;>intro h
    ·obtain rfl:k=1:=by simpa using h
     have j:kids.length=0:=by have:wS 1=0:=rfl;omega
     obtain rfl:kids=[]:=KD j;refine Pl ?_;exact be rfl rfl ⟨hav5,c⟩
    have n1:k≠1:=by simpa using h
    clear h;refine Qw ?_;apply CW.cond rfl<;>intro h
    ·obtain rfl:k=3:=by simpa using h
     have j:kids.length=0:=by have:wS 3=0:=rfl;omega
     obtain rfl:kids=[]:=KD j;refine QG ?_;refine WL.call rfl rfl rfl (mT a (P:=fun i=>lb.getD i 0 >>> n.toNat&&&1=1) (G.up c) hn (fun w x O hx=>FnV.mk (f:=66) (xX w (G.up (c.trans O)) (C.ext O) (H.ext O) (by rw[hlb];exact hx) hn0))) ?_;rintro _ D ⟨ho,B⟩
     refine P4 ?_;exact be rfl rfl ⟨ho.low c.size,c.trans B⟩
    have n3:k≠3:=by simpa using h
    clear h;refine Qw ?_;apply CW.cond rfl<;>intro h
    ·obtain rfl:k=4:=by simpa using h
     have j:kids.length=1:=by have:wS 4=1:=rfl;omega
     obtain⟨x,rfl⟩:=Ln.1 j;have d:Sl a (c9 a) ko kc [iK nx.length (lG nx lb fr x)]:=d;have l:∀z,(fun z:World=>Ext a z) z→Ext a z:=fun _ h=>h
     refine PD ?_;refine aF (fun z:World=>Ext a z) [(0,true),(1,true),(2,true),(3,true),(4,false),(5,true)] mixed OT (Ext.drew a) ?_;refine Q6 ?_;refine b_ (k:=0) l rfl rfl rfl rfl rfl rfl rfl O8 d OW O3 (fun u0 q0 o=>?_);obtain⟨uo0,uc0,rfl,p⟩:=o.sl;skip;refine cu rfl (WL.call rfl rfl rfl (ya (drew a) (G.up (c.trans (Ext.drew a))) hn (p.up (Ext.drew a))) ?_);rintro v6 D ⟨ho6,B⟩
     have r:Ext a D:=Ext.trans (Ext.drew a) B;refine WL.nil (a_ r ?_);refine Rf ?_;refine PN ?_;exact be rfl rfl ⟨ho6.low (c.trans (Ext.drew a)).size,c.trans r⟩
    have n4:k≠4:=by simpa using h
    clear h;refine Qw ?_;apply CW.cond rfl<;>intro h
    ·obtain rfl:k=5:=by simpa using h
     have j:kids.length=2:=by have:wS 5=2:=rfl;omega
     obtain⟨x,y,rfl⟩:=xU j;have d:Sl a (c9 a) ko kc [iK nx.length (lG nx lb fr x),iK nx.length (lG nx lb fr y)]:=d;have l:∀z,(fun z:World=>Ext a z) z→Ext a z:=fun _ h=>h
     refine PD ?_;refine aF (fun z:World=>Ext a z) [(0,true),(1,true),(2,true),(3,true),(4,true),(5,true),(6,true),(7,false),(8,true)] mixed OT (Ext.drew a) ?_;refine Q6 ?_;refine b_ (k:=0) l rfl rfl rfl rfl rfl rfl rfl O8 d OW O3 (fun u0 q0 o=>?_);obtain⟨uo0,uc0,rfl,p⟩:=o.sl;refine Q6 ?_;refine b_ (k:=1) l rfl rfl rfl rfl rfl rfl rfl O8 d OW O3 (fun u1 q1 V=>?_);obtain⟨uo1,uc1,rfl,W⟩:=V.sl;skip;refine cu rfl (WL.call rfl rfl rfl (xB (drew a) (G.up (c.trans (Ext.drew a))) hn (p.up (Ext.drew a)) (W.up (Ext.drew a))) ?_);rintro v6 D ⟨ho6,B⟩
     have r:Ext a D:=Ext.trans (Ext.drew a) B;refine WL.nil (a_ r ?_);refine Rf ?_;refine PN ?_;exact be rfl rfl ⟨ho6.low (c.trans (Ext.drew a)).size,c.trans r⟩
    have n5:k≠5:=by simpa using h
    clear h;refine Qw ?_;apply CW.cond rfl<;>intro h
    ·obtain rfl:k=6:=by simpa using h
     have j:kids.length=2:=by have:wS 6=2:=rfl;omega
     obtain⟨x,y,rfl⟩:=xU j;have d:Sl a (c9 a) ko kc [iK nx.length (lG nx lb fr x),iK nx.length (lG nx lb fr y)]:=d;refine QG ?_;refine WL.call rfl rfl rfl (mT a (P:=fun i=>lG nx lb fr x i∨lG nx lb fr y i) (G.up c) hn (fun w z O hz=>FnV.mk (f:=69) (xY w (J.ext O) (d.up O) hz))) ?_;rintro _ D ⟨ho,B⟩
     refine P4 ?_;exact be rfl rfl ⟨ho.low c.size,c.trans B⟩
    have n6:k≠6:=by simpa using h
    clear h;refine Qw ?_;apply CW.cond rfl<;>intro h
    ·obtain rfl:k=7:=by simpa using h
     have j:kids.length=1:=by have:wS 7=1:=rfl;omega
     obtain⟨x,rfl⟩:=Ln.1 j;have d:Sl a (c9 a) ko kc [iK nx.length (lG nx lb fr x)]:=d;have l:∀z,(fun z:World=>Ext a z) z→Ext a z:=fun _ h=>h
     refine PD ?_;refine aF (fun z:World=>Ext a z) [(0,true),(1,true),(2,true),(3,true),(4,false),(5,true)] mixed OT (Ext.drew a) ?_;refine Q6 ?_;refine b_ (k:=0) l rfl rfl rfl rfl rfl rfl rfl O8 d OW O3 (fun u0 q0 o=>?_);obtain⟨uo0,uc0,rfl,p⟩:=o.sl;skip;refine cu rfl (WL.call rfl rfl rfl (xP (drew a) (G.up (c.trans (Ext.drew a))) hW.g hn (p.up (Ext.drew a))) ?_);rintro v6 D ⟨ho6,B⟩
     have r:Ext a D:=Ext.trans (Ext.drew a) B;refine WL.nil (a_ r ?_);refine Rf ?_;refine PN ?_;exact be rfl rfl ⟨ho6.low (c.trans (Ext.drew a)).size,c.trans r⟩
    have n7:k≠7:=by simpa using h
    clear h;refine Qw ?_;apply CW.cond rfl<;>intro h
    ·obtain rfl:k=8:=by simpa using h
     have j:kids.length=1:=by have:wS 8=1:=rfl;omega
     obtain⟨x,rfl⟩:=Ln.1 j;have d:Sl a (c9 a) ko kc [iK nx.length (lG nx lb fr x)]:=d;have l:∀z,(fun z:World=>Ext a z) z→Ext a z:=fun _ h=>h
     refine PD ?_;refine aF (fun z:World=>Ext a z) [(0,true),(1,true),(2,true),(3,true),(4,true),(5,false),(6,true)] mixed OT (Ext.drew a) ?_;refine Ra ?_;refine b_ (k:=0) l rfl rfl rfl rfl rfl rfl rfl O8 d OW O3 (fun u0 q0 o=>?_);obtain⟨uo0,uc0,rfl,p⟩:=o.sl;skip;refine cu rfl (WL.call rfl rfl rfl (xN (drew a) (G.up (c.trans (Ext.drew a))) hW.g hn (has.up (Ext.drew a)) (p.up (Ext.drew a))) ?_);rintro v6 D ⟨ho6,B⟩
     have r:Ext a D:=Ext.trans (Ext.drew a) B;refine WL.nil (a_ r ?_);refine Rf ?_;refine PN ?_;exact be rfl rfl ⟨ho6.low (c.trans (Ext.drew a)).size,c.trans r⟩
    have n8:k≠8:=by simpa using h
    clear h;refine Qw ?_;apply CW.cond rfl<;>intro h
    ·obtain rfl:k=9:=by simpa using h
     have j:kids.length=1:=by have:wS 9=1:=rfl;omega
     obtain⟨x,rfl⟩:=Ln.1 j;have d:Sl a (c9 a) ko kc [iK nx.length (lG nx lb fr x)]:=d;have l:∀z,(fun z:World=>Ext a z) z→Ext a z:=fun _ h=>h
     refine PD ?_;refine aF (fun z:World=>Ext a z) [(0,true),(1,true),(2,true),(3,true),(4,false),(5,true)] mixed OT (Ext.drew a) ?_;refine Q6 ?_;refine b_ (k:=0) l rfl rfl rfl rfl rfl rfl rfl O8 d OW O3 (fun u0 q0 o=>?_);obtain⟨uo0,uc0,rfl,p⟩:=o.sl;skip;refine cu rfl (WL.call rfl rfl rfl (xE (drew a) (G.up (c.trans (Ext.drew a))) hW (p.up (Ext.drew a))) ?_);rintro v6 D ⟨ho6,B⟩
     have r:Ext a D:=Ext.trans (Ext.drew a) B;refine WL.nil (a_ r ?_);refine Rf ?_;refine PN ?_;exact be rfl rfl ⟨ho6.low (c.trans (Ext.drew a)).size,c.trans r⟩
    have n9:k≠9:=by simpa using h
    clear h;refine Qw ?_;apply CW.cond rfl<;>intro h
    ·obtain rfl:k=10:=by simpa using h
     have j:kids.length=2:=by have:wS 10=2:=rfl;omega
     obtain⟨x,y,rfl⟩:=xU j;have d:Sl a (c9 a) ko kc [iK nx.length (lG nx lb fr x),iK nx.length (lG nx lb fr y)]:=d;have l:∀z,(fun z:World=>Ext a z) z→Ext a z:=fun _ h=>h
     refine PD ?_;refine aF (fun z:World=>Ext a z) [(0,true),(1,true),(2,true),(3,true),(4,true),(5,true),(6,true),(7,false),(8,true)] mixed OT (Ext.drew a) ?_;refine Q6 ?_;refine b_ (k:=0) l rfl rfl rfl rfl rfl rfl rfl O8 d OW O3 (fun u0 q0 o=>?_);obtain⟨uo0,uc0,rfl,p⟩:=o.sl;refine Q6 ?_;refine b_ (k:=1) l rfl rfl rfl rfl rfl rfl rfl O8 d OW O3 (fun u1 q1 V=>?_);obtain⟨uo1,uc1,rfl,W⟩:=V.sl;skip;refine cu rfl (WL.call rfl rfl rfl (xN (drew a) (G.up (c.trans (Ext.drew a))) hW.g hn (p.up (Ext.drew a)) (W.up (Ext.drew a))) ?_);rintro v6 D ⟨ho6,B⟩
     have r:Ext a D:=Ext.trans (Ext.drew a) B;refine WL.nil (a_ r ?_);refine Rf ?_;refine PN ?_;exact be rfl rfl ⟨ho6.low (c.trans (Ext.drew a)).size,c.trans r⟩
    have n10:k≠10:=by simpa using h
    clear h;refine Qw ?_;apply CW.cond rfl<;>intro h
    ·obtain rfl:k=11:=by simpa using h
     have j:kids.length=1:=by have:wS 11=1:=rfl;omega
     obtain⟨x,rfl⟩:=Ln.1 j;have d:Sl a (c9 a) ko kc [iK nx.length (lG nx lb fr x)]:=d;have l:∀z,(fun z:World=>Ext a z) z→Ext a z:=fun _ h=>h
     refine PD ?_;refine aF (fun z:World=>Ext a z) [(0,true),(1,true),(2,true),(3,true),(4,true),(5,true),(6,false),(7,false),(8,false),(9,true)] mixed OT (Ext.drew a) ?_;refine Q6 ?_;refine b_ (k:=0) l rfl rfl rfl rfl rfl rfl rfl O8 d OW O3 (fun u0 q0 o=>?_);obtain⟨uo0,uc0,rfl,p⟩:=o.sl;skip;refine cu rfl (WL.call rfl rfl rfl (ya (drew a) (G.up (c.trans (Ext.drew a))) hn (p.up (Ext.drew a))) ?_);rintro v6 D ⟨ho6,B⟩
     have r:Ext a D:=Ext.trans (Ext.drew a) B;refine WL.nil (a_ r ?_);obtain⟨do6,dc6,rfl,hd6⟩:=ho6.asSl;skip;refine cu rfl (WL.call rfl rfl rfl (xP D (G.up (c.trans r)) hW.g hn hd6) ?_);rintro v7 A ⟨ho7,Q⟩
     have R:Ext a A:=Ext.trans r Q;refine WL.nil (a_ R ?_);obtain⟨do7,dc7,rfl,hd7⟩:=ho7.asSl;skip;refine cu rfl (WL.call rfl rfl rfl (ya A (G.up (c.trans R)) hn hd7) ?_);rintro v8 w8 ⟨ho8,M⟩
     have x8:Ext a w8:=Ext.trans R M;refine WL.nil (a_ x8 ?_);refine Rf ?_;refine PN ?_;exact be rfl rfl ⟨ho8.low (c.trans R).size,c.trans x8⟩
    have n11:k≠11:=by simpa using h
    clear h;refine Qw ?_;apply CW.cond rfl<;>intro h
    ·obtain rfl:k=12:=by simpa using h
     have j:kids.length=1:=by have:wS 12=1:=rfl;omega
     obtain⟨x,rfl⟩:=Ln.1 j;have d:Sl a (c9 a) ko kc [iK nx.length (lG nx lb fr x)]:=d;have l:∀z,(fun z:World=>Ext a z) z→Ext a z:=fun _ h=>h
     refine PD ?_;refine aF (fun z:World=>Ext a z) [(0,true),(1,true),(2,true),(3,true),(4,true),(5,true),(6,false),(7,false),(8,false),(9,true)] mixed OT (Ext.drew a) ?_;refine Q6 ?_;refine b_ (k:=0) l rfl rfl rfl rfl rfl rfl rfl O8 d OW O3 (fun u0 q0 o=>?_);obtain⟨uo0,uc0,rfl,p⟩:=o.sl;skip;refine cu rfl (WL.call rfl rfl rfl (ya (drew a) (G.up (c.trans (Ext.drew a))) hn (p.up (Ext.drew a))) ?_);rintro v6 D ⟨ho6,B⟩
     have r:Ext a D:=Ext.trans (Ext.drew a) B;refine WL.nil (a_ r ?_);obtain⟨do6,dc6,rfl,hd6⟩:=ho6.asSl;skip;refine cu rfl (WL.call rfl rfl rfl (xE D (G.up (c.trans r)) hW hd6) ?_);rintro v7 A ⟨ho7,Q⟩
     have R:Ext a A:=Ext.trans r Q;refine WL.nil (a_ R ?_);obtain⟨do7,dc7,rfl,hd7⟩:=ho7.asSl;skip;refine cu rfl (WL.call rfl rfl rfl (ya A (G.up (c.trans R)) hn hd7) ?_);rintro v8 w8 ⟨ho8,M⟩
     have x8:Ext a w8:=Ext.trans R M;refine WL.nil (a_ x8 ?_);refine Rf ?_;refine PN ?_;exact be rfl rfl ⟨ho8.low (c.trans R).size,c.trans x8⟩
    have n12:k≠12:=by simpa using h
    clear h;refine Qw ?_;apply CW.cond rfl<;>intro h
    ·obtain rfl:k=13:=by simpa using h
     have j:kids.length=1:=by have:wS 13=1:=rfl;omega
     obtain⟨x,rfl⟩:=Ln.1 j;have d:Sl a (c9 a) ko kc [iK nx.length (lG nx lb fr x)]:=d;have l:∀z,(fun z:World=>Ext a z) z→Ext a z:=fun _ h=>h
     refine PD ?_;refine aF (fun z:World=>Ext a z) [(0,true),(1,true),(2,true),(3,true),(4,true),(5,true),(6,true),(7,false),(8,false),(9,false),(10,true)] mixed OT (Ext.drew a) ?_;refine Ra ?_;refine b_ (k:=0) l rfl rfl rfl rfl rfl rfl rfl O8 d OW O3 (fun u0 q0 o=>?_);obtain⟨uo0,uc0,rfl,p⟩:=o.sl;skip;refine cu rfl (WL.call rfl rfl rfl (ya (drew a) (G.up (c.trans (Ext.drew a))) hn (p.up (Ext.drew a))) ?_);rintro v6 D ⟨ho6,B⟩
     have r:Ext a D:=Ext.trans (Ext.drew a) B;refine WL.nil (a_ r ?_);obtain⟨do6,dc6,rfl,hd6⟩:=ho6.asSl;skip;refine cu rfl (WL.call rfl rfl rfl (xN D (G.up (c.trans r)) hW.g hn (has.up r) hd6) ?_);rintro v7 A ⟨ho7,Q⟩
     have R:Ext a A:=Ext.trans r Q;refine WL.nil (a_ R ?_);obtain⟨do7,dc7,rfl,hd7⟩:=ho7.asSl;skip;refine cu rfl (WL.call rfl rfl rfl (ya A (G.up (c.trans R)) hn hd7) ?_);rintro v8 w8 ⟨ho8,M⟩
     have x8:Ext a w8:=Ext.trans R M;refine WL.nil (a_ x8 ?_);refine Rf ?_;refine PN ?_;exact be rfl rfl ⟨ho8.low (c.trans R).size,c.trans x8⟩
    have n13:k≠13:=by simpa using h
    clear h;refine Qw ?_;apply CW.cond rfl<;>intro h
    ·obtain rfl:k=14:=by simpa using h
     have j:kids.length=2:=by have:wS 14=2:=rfl;omega
     obtain⟨x,y,rfl⟩:=xU j;have d:Sl a (c9 a) ko kc [iK nx.length (lG nx lb fr x),iK nx.length (lG nx lb fr y)]:=d;have l:∀z,(fun z:World=>Ext a z) z→Ext a z:=fun _ h=>h
     refine PD ?_;refine aF (fun z:World=>Ext a z) [(0,true),(1,true),(2,true),(3,true),(4,true),(5,true),(6,true),(7,false),(8,true)] mixed OT (Ext.drew a) ?_;refine Q6 ?_;refine b_ (k:=0) l rfl rfl rfl rfl rfl rfl rfl O8 d OW O3 (fun u0 q0 o=>?_);obtain⟨uo0,uc0,rfl,p⟩:=o.sl;refine Q6 ?_;refine b_ (k:=1) l rfl rfl rfl rfl rfl rfl rfl O8 d OW O3 (fun u1 q1 V=>?_);obtain⟨uo1,uc1,rfl,W⟩:=V.sl;skip;refine cu rfl (WL.call rfl rfl rfl (xy (drew a) (G.up (c.trans (Ext.drew a))) hW (p.up (Ext.drew a)) (W.up (Ext.drew a))) ?_);rintro v6 D ⟨ho6,B⟩
     have r:Ext a D:=Ext.trans (Ext.drew a) B;refine WL.nil (a_ r ?_);refine Rf ?_;refine PN ?_;exact be rfl rfl ⟨ho6.low (c.trans (Ext.drew a)).size,c.trans r⟩
    have n14:k≠14:=by simpa using h
    clear h;obtain rfl:k=2:=by
     unfold wS at K
     have h0:0≤(kids.length:Int):=by omega
     split at K
     ·omega
     split at K
     ·omega
     split at K
     ·omega
     omega
    refine Qg ?_;refine WL.call rfl rfl rfl (ya a (G.up c) hn has) ?_;rintro _ D ⟨ho,B⟩
    have hfe:(iK nx.length fun i=>¬True)=iK nx.length (lG nx lb fr (.mk 2 n kids)):=iL (fun i _=>⟨fun h=>absurd trivial h,fun h=>absurd h (fun h=>by cases h)⟩);rw[hfe]at ho
    refine Pr ?_;exact be rfl rfl ⟨ho.low c.size,c.trans B⟩
theorem ik(w0:World){a1 a2 a3 a4:Option Addr}{c1 c2 c3 c4:Nat}{st:List Int}{nx fr:bU}{lb:List Nat}(h1:Sl w0 (c9 w0) a1 c1 st)(h2:Sl w0 (c9 w0) a2 c2 nx)(h3:Sl w0 (c9 w0) a3 c3 lb)(h4:Sl w0 (c9 w0) a4 c4 fr)
  (E:j7 st nx lb.length fr=0) (P:mX nx≤8589934592):
  Rt Tryz.prog 33 [I2 a1 c1 a2 c2 a3 c3 a4 c4 st.length nx.length lb.length fr.length].toArray w0 fun v w'=>∃b,v=xk b∧LabAt w' b nx lb fr∧Ext w0 w':=by
 obtain⟨w,D,O,t,k,u⟩:=j8 E;have n:okG nx:=fun r L=>(k r L).2
 refine dG Tryz.func33 Tryz.ntmps33 rfl rfl ?_;refine Pm ?_;refine dZ rfl rfl rfl fun S h F=>?_
 have N:=h.lt;have m:=F.size;refine Pw ?_;refine WL.build rfl rfl rfl rfl ?_;refine dZ rfl rfl rfl fun H c B=>?_
 have h:=h.ext B;have d:=F.trans B;have M:=c.lt;have K:=B.size;refine Pw ?_;refine WL.call rfl rfl rfl (bH H (h1.up d) (h2.up d) h3.len63 (h4.up d) P) ?_;rintro _ R ⟨fv,rfl,a,o⟩
 rw[Ov E,f9 n]at a
 obtain⟨fo,fc,rfl⟩:=a.val;have h:=h.ext o;have c:=c.ext o;have d:=d.trans o;have J:=o.size;refine QW ?_;refine WL.st rfl rfl rfl c rfl rfl Pd (fun C c i=>?_);have a:=a.keptN i (fun g j e=>by have:=(a.lt g j).1;have:=Nn e;omega);have h:=h.kept i Pa;have d:Ext w0 C:=d.grown i d.size (fun g j=>by cases j;exact m);have I:=i.size;refine QE ?_;refine WL.call rfl rfl rfl (dV C (h2.up d)) ?_;rintro _ Q ⟨tv,vs,rfl,f,A⟩
 have x:jL nx=0:=jM n OS;have s:HD nx=HE nx:=by unfold HD;rw[Ov x]
 rw[s]at f
 obtain⟨to,tc,p⟩:=f.out.val;have q:=f.len;subst p;have c:=c.ext A;have a:=a.extN A;have d:=d.trans A;refine QW ?_;refine WL.st rfl rfl rfl c rfl rfl Pd (fun G c l=>?_);have a:=a.keptN l (fun g j e=>by have:=(a.lt g j).1;have:=Nn e;omega);have f:=f.kept l (fun g j e=>by have:=(f.lt g j).1;have:=Nn e;omega);have d:Ext w0 G:=d.grown l d.size (fun g j=>by cases j;exact m);obtain⟨ao,ac,ea,z⟩:=a.asSl;obtain⟨rfl,_,rfl⟩:=N5 ea;obtain⟨T,bc,eb,y⟩:=f.old.sl;obtain⟨rfl,_,rfl⟩:=N5 eb;rw[q]at c
 refine P7 ?_;exact be rfl rfl ⟨_,rfl,⟨_,_,_,_,_,_,_,_,_,_,_,_,_,c,h2.up d,h3.up d,h4.up d,z,y⟩,d⟩
def xg(st:List Int)(nx:bU)(k:Nat)(fr:bU)(t:Ltl):Int:=if j7 st nx k fr≠0 then j7 st nx k fr else(jt t 1 0).1
theorem xh{st:List Int}{nx:bU}{k:Nat}{fr:bU}{t:Ltl}(h:xg st nx k fr t=0):j7 st nx k fr=0∧(jt t 1 0).1=0:=by
 unfold xg at h
 split at h
 ·rename_i h1;exact absurd h h1
 ·rename_i h1;exact⟨by simpa using h1,h⟩
theorem xC(w0:World){a1 a2 a3 a4 to:Option Addr}{c1 c2 c3 c4 tc:Nat}{st:List Int}{nx fr:bU}{lb:List Nat}{t:Ltl}(h1:Sl w0 (c9 w0) a1 c1 st)(h2:Sl w0 (c9 w0) a2 c2 nx)(h3:Sl w0 (c9 w0) a3 c3 lb)(h4:Sl w0 (c9 w0) a4 c4 fr)(i:Sl w0 (c9 w0) to tc t.kids):
  Rt Tryz.prog 32 [I2 a1 c1 a2 c2 a3 c3 a4 c4 st.length nx.length lb.length fr.length,yj t.k t.n to t.kids.length tc].toArray w0 fun v w'=>v=Pj (xg st nx lb.length fr t)∧Ext w0 w':=by
 refine dH Tryz.func32 Tryz.ntmps32 rfl rfl ?_;refine Pm ?_;refine dZ rfl rfl rfl fun m c k=>?_
 skip;refine dZ rfl rfl rfl fun g b e=>?_
 have c:=c.ext e;have a:=k.trans e;refine Pw ?_;refine WL.call rfl rfl rfl (IB g (h1.up a) (h2.up a) h3.len63 (h4.up a)) ?_;rintro _ f ⟨rfl,d⟩
 have b:=b.ext d;have a:=a.trans d;unfold xg;refine Qw ?_;apply CW.cond rfl<;>intro h
 ·have h:j7 st nx lb.length fr≠0:=by simpa using h
  rw[Ov h];refine P7 ?_;exact be rfl rfl ⟨rfl,a⟩
 have h:j7 st nx lb.length fr=0:=by simpa using h
 rw[Ou (by simp[h])];refine P1 ?_;refine WL.call rfl rfl rfl (lF f (i.up a) O8) ?_;rintro _ l ⟨rfl,j⟩
 refine Pr ?_;exact be rfl rfl ⟨rfl,a.trans j⟩
theorem cS(w0:World){a1 a2 a3 a4 to:Option Addr}{c1 c2 c3 c4 tc:Nat}{st:List Int}{nx fr:bU}{lb:List Nat}{t:Ltl}(h1:Sl w0 (c9 w0) a1 c1 st)(h2:Sl w0 (c9 w0) a2 c2 nx)(h3:Sl w0 (c9 w0) a3 c3 lb)(h4:Sl w0 (c9 w0) a4 c4 fr)(s:Sl w0 (c9 w0) to tc t.kids)
  (y:mX nx≤8589934592):
  Rt Tryz.prog 12 [I2 a1 c1 a2 c2 a3 c3 a4 c4 st.length nx.length lb.length fr.length,yj t.k t.n to t.kids.length tc].toArray w0 fun v w'=>∃x,v=.tuple ⟨[x,Pj (xg st nx lb.length fr t)]⟩∧
   Own w' w0.heap.size 4 c7 x (if xg st nx lb.length fr t=0 then iK nx.length (lG nx lb fr t)else [])∧Ext w0 w':=by
 refine dH Tryz.func12 Tryz.ntmps12 rfl rfl ?_;refine Pm ?_;refine dZ rfl rfl rfl fun K e J=>?_
 skip;refine dZ rfl rfl rfl fun C j A=>?_
 have e:=e.ext A;have c:=J.trans A;refine Pw ?_;refine WL.call rfl rfl rfl (xC C (h1.up c) (h2.up c) (h3.up c) (h4.up c) (s.up c)) ?_;rintro _ d ⟨rfl,o⟩
 have e:=e.ext o;have j:=j.ext o;have c:=c.trans o;refine Qw ?_;apply CW.cond rfl<;>intro h
 ·have h:xg st nx lb.length fr t≠0:=by simpa using h
  rw[Ou h];refine P7 ?_;exact bf rfl rfl rfl ⟨_,rfl,Own.nil,c⟩
 have h:xg st nx lb.length fr t=0:=by simpa using h
 rw[Ov h,h];obtain⟨w,hf⟩:=xh h;obtain⟨i,u,n,l,f,g⟩:=j8 w;have m:okG nx:=fun r D=>(f r D).2
 have F:∀z,(fun z:World=>Ext d z) z→Ext d z:=fun _ h=>h
 refine P8 ?_;refine aF (fun z:World=>Ext d z) [(0,true),(2,true),(1,false),(3,false),(4,true),(5,true)] mixed OT (Ext.drew d) ?_;refine Rb ?_;have a:=c.trans (Ext.drew d);refine cu rfl (WL.call rfl rfl rfl (ik (drew d) (h1.up a) (h2.up a) (h3.up a) (h4.up a) w y) ?_);rintro _ q ⟨b,rfl,G,I⟩
 have k:Ext d q:=Ext.trans (Ext.drew d) I;refine WL.nil (a_ k ?_);skip;have a:=c.trans k;refine cu rfl (WL.call rfl rfl rfl (xm ⟨i,m,g,y⟩ n t.nodes t Pf (jz t _ _ hf) q b to tc G (s.up a)) ?_);rintro _ B ⟨E,H⟩
 have p:Ext d B:=Ext.trans k H;refine WL.nil (a_ p ?_);refine Rf ?_;refine Pz ?_;exact bf rfl rfl rfl ⟨_,rfl,E.low a.size,c.trans p⟩
def gy(k n:Int)(ks:List (List Bool))(i:Nat)(a:Nat)(later:Bool)(nx:Nat):Bool:=
 if k=1 then true
 else if k=3 then decide (a >>> n.toNat&&&1=1)
 else if k=4 then !(ks.getD 0 []).getD i false
 else if k=5 then(ks.getD 0 []).getD i false&&(ks.getD 1 []).getD i false
 else if k=6 then(ks.getD 0 []).getD i false||(ks.getD 1 []).getD i false
 else if k=7 then(ks.getD 0 []).getD nx false
 else if k=10 then(ks.getD 0 []).getD i false||later
 else if k=11 then(ks.getD 0 []).getD i false&&later
 else if k=8 then(ks.getD 1 []).getD i false||((ks.getD 0 []).getD i false&&later)
 else if k=9 then(ks.getD 1 []).getD i false&&((ks.getD 0 []).getD i false||later)
 else false
def gC(s l:List Nat)(k n:Int)(ks:List (List Bool))(i:Nat)(out:List Bool):Bool:=gy k n ks i (xu s l i) (out.getD (zx s l i) false) (zx s l i)
def DA(s l:List Nat)(k n:Int)(ks:List (List Bool)):Nat→List Bool→List Bool
 |0,out=>out
 |i+1,out=>DA s l k n ks i (out.set i (gC s l k n ks i out))
def rM(k:Int):Bool:=k==9||k==11
def Db(s l:List Nat)(k n:Int)(ks:List (List Bool)):List Bool:=DA s l k n ks (s.length+l.length) (DA s l k n ks (s.length+l.length) (List.replicate (s.length+l.length) (rM k)))
section
variable {s l:List Nat}{k n:Int}{ks:List (List Bool)}
theorem DC:∀i out,(DA s l k n ks i out).length=out.length
 |0,out=>rfl
 |i+1,out=>by rw[DA,DC i,Lx]
theorem rj{l:List Bool}{i m:Nat}{v:Bool}(hi:i<l.length):(l.set i v).getD m false=if i=m then v else l.getD m false:=by
 rw[KR,K3];split
 ·rename_i h;subst h;first|rfl|(rw[Ov hi];rfl)
 ·rw[KR]
theorem DD{f:Nat→Bool}:∀i out,i≤out.length→(∀j,j<i→∀o:List Bool,gC s l k n ks j o=f j)→∀m,(DA s l k n ks i out).getD m false=if m<i then f m else out.getD m false
 |0,out,_,_,m=>by rw[Ou OS];rfl
 |i+1,out,hi,hf,m=>by
  rw[DA,DD i _ (by rw[Lx];omega) (fun j a=>hf j OS),hf i OS,rj OS];by_cases h:m<i
  ·rw[Ov h,Ov OS]
  ·rw[Ou h]
   by_cases e:i=m
   ·subst e;rw[Ov rfl,Ov OS]
   ·rw[Ou e,Ou OS]
theorem xQ{a b:List Bool}(c:a.length=b.length)(h:∀i,i<a.length→a.getD i false=b.getD i false):a=b:=by
 refine KE c fun i h1 h2=>?_
 have:=h i h1;rw[KR,KX h1,KR,KX h2]at this
 exact this
theorem Dd{f:Nat→Bool}(hf:∀j,j<s.length+l.length→∀o:List Bool,gC s l k n ks j o=f j):Db s l k n ks=(List.range (s.length+l.length)).map f:=by
 unfold Db;refine xQ (by rw[DC,DC];simp) fun i hi=>?_
 rw[DC,DC,Lu]at hi
 rw[DD _ _ (by rw[DC];simp) hf,Ov hi];rw[KR,K0,K1 hi];rfl
theorem DE{a b:List Bool}{N:Nat}(h:∀j,j<N→∀o:List Bool,gC s l k n ks j o=(b.getD j false||(a.getD j false&&o.getD (zx s l j) false))):∀i out,i≤N→DA s l k n ks i out=Id s l a b i out
 |0,out,_=>rfl
 |i+1,out,hi=>by rw[DA,Id,h i OS,DE h i _ OS]
theorem yJ{o:List Bool}{i:Nat}{v:Bool}:(o.map (!·)).set i (!v)=(o.set i v).map (!·):=by rw[List.map_set]
theorem yI{o:List Bool}:(o.map (!·)).map (!·)=o:=by
 induction o with
 |nil=>rfl
 |cons a r b=>rw[LE,LE,b,Bool.not_not]
theorem yH{o:List Bool}{i:Nat}(h:i<o.length):(o.map (!·)).getD i false=!o.getD i false:=by
 rw[KR,K0,KR,KX h];rfl
theorem zy(a:0<l.length){i:Nat}(hi:i<s.length+l.length):zx s l i<s.length+l.length:=by
 unfold zx;split<;>omega
theorem len_dual{a b o:List Bool}{i:Nat}:((Id s l a b i (o.map (!·))).map (!·)).length=o.length:=by rw[Lq,If,Lq]
theorem DB{a b:List Bool}{N:Nat}(e:N=s.length+l.length)(d:0<l.length)(h:∀j,j<N→∀o:List Bool,o.length=N→gC s l k n ks j o=!(b.getD j false||(a.getD j false&&!o.getD (zx s l j) false))):
  ∀i out,i≤N→out.length=N→DA s l k n ks i out=(Id s l a b i (out.map (!·))).map (!·)
 |0,out,_,_=>by rw[DA,Id,yI]
 |i+1,out,hi,c=>by
  have hn:=zy (s:=s) d (show i<s.length+l.length by omega);rw[DA,Id,h i OS out c,DB e d h i _ OS (by simpa using c)];rw[yH OS,←yJ,Bool.not_not]
theorem Dc(e:0<l.length)(g:wU k=ks.length)(c:∀x∈ks,x.length=s.length+l.length):Db s l k n ks=kO s l k n ks:=by
 have g0:0<ks.length→(ks.getD 0 []).length=s.length+l.length:=fun h=>by
  rw[KR,KX h];exact c _ (Lb h)
 have g1:1<ks.length→(ks.getD 1 []).length=s.length+l.length:=fun h=>by
  rw[KR,KX h];exact c _ (Lb h)
 have b:∀j,j<s.length+l.length→(List.replicate (s.length+l.length) true).getD j false=true:=fun j a=>by
  rw[KR,K2,Ov a];rfl
 rcases wW k with⟨hn,d⟩|⟨hn,d⟩|⟨hn,d⟩|hn
 ·rcases d with rfl|rfl|rfl
  ·rw[Dd (f:=fun _=>true) (fun j a o=>by simp[gC,gy])]
   show _=List.replicate _ true;refine xQ OW fun i hi=>?_
   simp at hi
   rw[b i hi,KR,K0,K1 hi];rfl
  ·rw[Dd (f:=BV s l 2 n ks) (fun j a o=>by simp[gC,gy,BV])]
   simp[kO]
  ·rw[Dd (f:=BV s l 3 n ks) (fun j a o=>by simp[gC,gy,BV,iC])]
   simp[kO]
 ·have g0:=g0 OS
  rcases d with rfl|rfl|rfl|rfl
  ·rw[Dd (f:=fun j=>!(ks.getD 0 []).getD j false) (fun j a o=>by simp[gC,gy])]
   show _=(ks.getD 0 []).map (!·);refine xQ (by simpa using g0.symm) fun i hi=>?_
   simp only[Lq,Lt]at hi
   rw[yH OS,KR,K0,K1 hi];rfl
  ·rw[Dd (f:=BV s l 7 n ks) (fun j a o=>by simp[gC,gy,BV])]
   simp[kO]
  ·have h:∀j,j<s.length+l.length→∀o:List Bool,gC s l 10 n ks j o=((ks.getD 0 []).getD j false||((List.replicate (s.length+l.length) true).getD j false&&o.getD (zx s l j) false)):=fun j a o=>by
    rw[b j a];simp[gC,gy]
   unfold Db kO Ia;rw[DE h _ _ Pf,DE h _ _ Pf,Lu];rfl
  ·have h:∀j,j<s.length+l.length→∀o:List Bool,o.length=s.length+l.length→gC s l 11 n ks j o=!((((ks.getD 0 []).map (!·)).getD j false)||((List.replicate (s.length+l.length) true).getD j false&&!o.getD (zx s l j) false)):=fun j a o _=>by
    rw[b j a,yH OS];simp[gC,gy]
   unfold Db kO Ia;rw[DB rfl e h _ _ Pf Lu,DB rfl e h _ _ Pf (len_dual.trans Lu),yI,Lu,LI];rfl
 ·have g0:=g0 OS
  have g1:=g1 OS;rcases d with rfl|rfl|rfl|rfl
  ·rw[Dd (f:=BV s l 5 n ks) (fun j a o=>by simp[gC,gy,BV])]
   simp[kO]
  ·rw[Dd (f:=BV s l 6 n ks) (fun j a o=>by simp[gC,gy,BV])]
   simp[kO]
  ·have h:∀j,j<s.length+l.length→∀o:List Bool,gC s l 8 n ks j o=((ks.getD 1 []).getD j false||((ks.getD 0 []).getD j false&&o.getD (zx s l j) false)):=fun j a o=>by
    simp[gC,gy]
   unfold Db kO Ia;rw[DE h _ _ Pf,DE h _ _ Pf,g0];rfl
  ·have h:∀j,j<s.length+l.length→∀o:List Bool,o.length=s.length+l.length→gC s l 9 n ks j o=!((((ks.getD 1 []).map (!·)).getD j false)||((((ks.getD 0 []).map (!·)).getD j false)&&!o.getD (zx s l j) false)):=fun j a o _=>by
    rw[yH OS,yH OS];simp[gC,gy]
   unfold Db kO Ia;rw[DB rfl e h _ _ Pf Lu,DB rfl e h _ _ Pf (len_dual.trans Lu),yI,Lq,g0,LI];rfl
 ·omega
end
noncomputable def AO(p:cL)(m:List Int)(k:Int):List Int×Int:=if k≠ -1 then pB p m k else if 0<(i6 p m).length then([],9)else(m,0)
noncomputable def qd(p:cL):List Int→List Int→List (List Int)→List (List Int)×List Int×Int
 |[],m,out=>(out,m,0)
 |k::r,m,out=>if(AO p m k).2≠0 then([],[],(AO p m k).2)else qd p r (AO p m k).1 (out++[(AO p m k).1])
noncomputable def qh(p:cL)(s l:List Int):List (List Int)×Int:=
 if(F_ p).2≠0 then([],(F_ p).2)else if l.length=0 then([],1)else if s.length>60000∨l.length>60000 -s.length then([],2)
 else if(qd p (s++l) (ie p) [ie p]).2.2≠0 then([],(qd p (s++l) (ie p) [ie p]).2.2)
 else if(qd p (s++l) (ie p) [ie p]).1.getD s.length []=(qd p (s++l) (ie p) [ie p]).2.1 then((qd p (s++l) (ie p) [ie p]).1,0)else([],9)
section
variable {p:cL}
def AJ(p:cL):List Int→List Int→Prop
 |_,[]=>True
 |m,k::r=>(AO p m k).2=0∧AJ p (AO p m k).1 r
noncomputable def xr(p:cL):List Int→List Int→List Int
 |m,[]=>m
 |m,k::r=>xr p (AO p m k).1 r
noncomputable def EG(p:cL):List Int→List Int→List (List Int)
 |_,[]=>[]
 |m,k::r=>(AO p m k).1::EG p (AO p m k).1 r
theorem qf:∀(r m:List Int) (out:List (List Int)),AJ p m r→qd p r m out=(out++EG p m r,xr p m r,0)
 |[],m,out,_=>by simp[qd,EG,xr]
 |k::r,m,out,h=>by
  rw[qd,Ou (by simp[h.1]),qf r _ _ h.2];simp[EG,xr]
theorem qe:∀(r m:List Int) (out:List (List Int)),(qd p r m out).2.2=0→AJ p m r
 |[],m,out,_=>trivial
 |k::r,m,out,h=>by
  rw[qd]at h
  split at h
  ·rename_i g;exact absurd h g
  ·rename_i g;exact⟨by simpa using g,qe r _ _ h⟩
theorem EI:∀(a m:List Int),(EG p m a).length=a.length
 |[],m=>rfl
 |k::a,m=>by simp[EG,EI a]
theorem EH:∀(a m:List Int) (i:Nat),i≤a.length→(m::EG p m a).getD i []=xr p m (a.take i)
 |a,m,0,_=>by simp[xr]
 |[],m,i+1,h=>by simp at h
 |k::a,m,i+1,h=>by
  have:=EH a (AO p m k).1 i (by simpa using h);simpa[EG,xr]using this
structure FrOk(p:cL)(s l:List Int):Prop where
 z:(F_ p).2=0
 l0:0<l.length
 sz:s.length≤60000∧l.length≤60000 -s.length
 ok:AJ p (ie p) (s++l)
 cl:xr p (ie p) s=xr p (ie p) (s++l)
 eq:(qh p s l).1=ie p::EG p (ie p) (s++l)
theorem GX{s l:List Int}:(s++l).take s.length=s:=by simp
theorem qj{s l:List Int}(h:(qh p s l).2=0):FrOk p s l:=by
 unfold qh at h
 split at h
 ·rename_i g;exact absurd h g
 rename_i g1;split at h
 ·cases h
 rename_i g2;split at h
 ·cases h
 rename_i g3;split at h
 ·rename_i g;exact absurd h g
 rename_i g4;split at h
 case isFalse=>cases h
 rename_i g5;have a:=qe _ _ _ (by simpa using g4:(qd p (s++l) (ie p) [ie p]).2.2=0);rw[qf _ _ _ a]at g5
 dsimp only at g5
 rw[Mg,EH _ _ _ OW,GX]at g5
 refine⟨by simpa using g1,by omega,by omega,a,g5,?_⟩;unfold qh;rw[Ou g1,Ou g2,Ou g3,Ou g4,qf _ _ _ a,Ov]
 ·simp
 ·dsimp only
  rw[Mg,EH _ _ _ OW,GX];exact g5
theorem qi{s l:List Int}(z:(F_ p).2=0)(l0:0<l.length)(sz:s.length≤60000∧l.length≤60000 -s.length)(ok:AJ p (ie p) (s++l))(cl:xr p (ie p) s=xr p (ie p) (s++l)):(qh p s l).2=0:=by
 unfold qh;rw[Ou (by simp[z]),Ou OS,Ou OS,qf _ _ _ ok,Ou OW,Ov];dsimp only;rw[Mg,EH _ _ _ OW,GX];exact cl
noncomputable def yY(p:cL)(s l:List Int)(i:Nat):List Int:=(qh p s l).1.getD i []
theorem yZ{s l:List Int}(h:FrOk p s l){i:Nat}(hi:i≤s.length+l.length):yY p s l i=xr p (ie p) ((s++l).take i):=by
 unfold yY;rw[h.eq,EH _ _ _ (by rw[Lk];exact hi)]
end
noncomputable def kF(p:cL)(s l:List Int)(k:Nat)(j:Nat):Nat:=(List.range j).countP fun i=>decide ((k:Int)∈i6 p (yY p s l (s.length+i)))
noncomputable def oL(p:cL)(s l:List Int):Bool:=(List.range (F_ p).1.length).all fun k=>!(decide (kF p s l k l.length=l.length)&&!l.contains (k:Int))
theorem kN{p:cL}{s l:List Int}{k:Nat}:kF p s l k l.length=l.length↔∀i,i<l.length→(k:Int)∈i6 p (yY p s l (s.length+i)):=by
 unfold kF;have h:=List.countP_eq_length (l:=List.range l.length) (p:=fun i=>decide ((k:Int)∈i6 p (yY p s l (s.length+i))));rw[Lt]at h
 rw[h];simp
noncomputable def xI(p:cL)(k:Int):Nat:=if k<0 then 9223372036854775808 else 2 ^ ((F_ p).1.getD k.toNat (0,0,0)).1.toNat
noncomputable def xK(p:cL)(l:List Int):List Nat:=l.map (xI p)
noncomputable def Cl(p:cL)(s l:List Int)(t:Ltl):Bool×Int:=
 if(qh p s l).2≠0 then(false,(qh p s l).2)else if(jD t 1 0).1≠0 then(false,(jD t 1 0).1)
 else(oL p s l&&!(se (xK p s) (xK p l) t).getD 0 false,0)
abbrev Iw(b:Bool)(so:Option Addr)(sc:Nat)(lo:Option Addr)(a:Nat)(s l:List Int):Value:=.agg [.bool b,.slice so s.length sc,.slice lo l.length a].toArray
theorem Dz(w0:World){so fo mo:Option Addr}{sc fc mc:Nat}{ns:List cJ}{fl:List cI}{m:List Int}(i:Sl w0 (c9 w0) so sc ns)(hf:Sl w0 (c9 w0) fo fc fl)(c:Sl w0 (c9 w0) mo mc m)(l:m.length≤30)(k:Int):
  Rt Tryz.prog 44 [Ck so sc fo fc ns.length fl.length,.slice mo m.length mc,Pj k].toArray w0 fun v w'=>∃x,v=.tuple ⟨[x,Pj (AO (ns,fl) m k).2]⟩∧Own w' w0.heap.size 3 c7 x (AO (ns,fl) m k).1∧Ext w0 w':=by
 refine dI Tryz.func44 Tryz.ntmps44 rfl rfl ?_;have a:=Ext.refl w0;refine Pm ?_;refine dZ rfl rfl rfl fun g o r=>?_
 have a:=a.trans r;unfold AO;refine Qw ?_;apply CW.cond rfl<;>intro h
 ·have h:k≠ -1:=by simpa using h
  rw[Ov h];refine P0 ?_;refine WL.call rfl rfl rfl (bK g (i.up a) (hf.up a) (c.up a) k) ?_;rintro _ f ⟨x,rfl,b,e⟩
  refine PL ?_;exact bf rfl rfl rfl ⟨_,rfl,b.low a.size,a.trans e⟩
 ·have h:¬k≠ -1:=by simpa using h
  rw[Ou h];refine Qt ?_;refine WL.call rfl rfl rfl (bB g (i.up a) (hf.up a) (c.up a)) ?_;rintro _ f ⟨x,rfl,b,e⟩
  have a:=a.trans e;have d:(if jO (ns,fl) m=0 then jc (ns,fl) m else [])=i6 (ns,fl) m:=rfl;rw[d]at b
  have n:=i7 (p:=(ns,fl)) (m:=m);obtain⟨xo,xc,rfl,j⟩:=b.oldN.sl;refine Qp ?_;apply CW.cond rfl<;>intro h
  ·have h:0<(i6 (ns,fl) m).length:=by simpa using h
   rw[Ov h];refine P7 ?_;exact bf rfl rfl rfl ⟨_,rfl,Own.nil,a⟩
  ·have h:¬0<(i6 (ns,fl) m).length:=by simpa using h
   rw[Ou h];refine Qv ?_;refine WL.call rfl rfl rfl (kA f (c.up a) OS) ?_;rintro v s ⟨ho3,q⟩
   refine Pr ?_;exact bf rfl rfl rfl ⟨_,rfl,ho3.low a.size,a.trans q⟩
theorem Gb{p:cL}(h:(F_ p).2=0):jT p=0:=by
 unfold F_ at h
 split at h
 ·rename_i h1;exact absurd h h1
 ·rename_i h1;simpa using h1
theorem AQ{p:cL}{m:List Int}{k:Int}(a:cX p m)(h:(AO p m k).2=0):cX p (AO p m k).1:=by
 unfold AO at h⊢
 split
 ·rename_i g;rw[Ov g]at h;exact pC h
 ·rename_i g
  rw[Ou g]at h
  split
  ·rename_i g2;rw[Ov g2]at h;cases h
  ·exact a
def DL(s l:List Int)(j:Nat):List Int:=if j=0 then s++l else if j=1 then l else []
set_option maxHeartbeats 1000000 in
theorem bN(w0:World){so fo ao bo:Option Addr}{sc fc ac bc:Nat}{R:Bool}{ns:List cJ}{fl:List cI}{s l:List Int}(hs:Sl w0 (c9 w0) so sc ns)(hf:Sl w0 (c9 w0) fo fc fl)(hst:Sl w0 (c9 w0) ao ac s)(hlp:Sl w0 (c9 w0) bo bc l):
  Rt Tryz.prog 19 [Ck so sc fo fc ns.length fl.length,Iw R ao ac bo bc s l].toArray w0 fun v w'=>∃mv,v=.tuple ⟨[mv,Pj (qh (ns,fl) s l).2]⟩∧Rd w' (c9 w') mv (qh (ns,fl) s l).1∧Ext w0 w':=by
 have hsl:=hst.len63;have hll:=hlp.len63;have d:∀w:World,Rd w (c9 w) (.slice none 0 0) ([]:List (List Int)):=fun w=>(Own.nil (B:=0) (F:=c7) (e:=0) (α:=List Int)).old O6
 refine dH Tryz.func19 Tryz.ntmps19 rfl rfl ?_;have y:=Ext.refl w0;refine Pm ?_;refine dZ rfl rfl rfl fun w1 n e1=>?_
 have y:=y.trans e1;skip;refine dZ rfl rfl rfl fun w1' A e1'=>?_
 have n:=n.ext e1';have y:=y.trans e1';refine Pw ?_;refine WL.call rfl rfl rfl (aq w1' (hs.up y) (hf.up y)) ?_;rintro _ C ⟨x,rfl,J,e2⟩
 have y:=y.trans e2;have n:=n.ext e2;have A:=A.ext e2;unfold qh;by_cases O:(F_ (ns,fl)).2=0
 case neg=>
  have T:((F_ (ns,fl)).2 != 0)=true:=by simpa using O
  rw[Ov O];refine Qu ?_;rw[T];refine Qa ?_;exact bf rfl rfl rfl ⟨_,rfl,d _,y⟩
 rw[Ov O]at J
 rw[Ou (by simp[O]),O];obtain⟨xo,xc,rfl,hxs⟩:=J.oldN.sl;have hbx:=fun g Y=>(J.lt g Y)
 have a:cX (ns,fl) (ie (ns,fl)):=ig;have h30:fl.length≤30:=(jU (Gb O)).f;generalize ie (ns,fl)=I at*
 refine P2 ?_;apply CW.cond rfl<;>intro h
 ·have h:l.length=0:=by simpa using h
  rw[Ov h];refine Pl ?_;exact bf rfl rfl rfl ⟨_,rfl,d _,y⟩
 have h0:¬l.length=0:=by simpa using h
 rw[Ou h0];generalize hG:qd (ns,fl) (s++l) I [I]=G;refine Qg ?_
 (refine eX rfl rfl (fun h=>?_) (fun h=>?_))
 ·have h:s.length>60000:=by simp at h;omega
  rw[Ov (.inl h)];refine Pu ?_;exact bf rfl rfl rfl ⟨_,rfl,d _,y⟩
 have hs6:¬s.length>60000:=by simp at h;omega
 refine PY ?_;apply CW.cond rfl<;>intro h
 ·have h:l.length>60000 -s.length:=by simp at h;omega
  rw[Ov (.inr h)];refine Pl ?_;exact bf rfl rfl rfl ⟨_,rfl,d _,y⟩
 have hl6:¬l.length>60000 -s.length:=by simp at h;omega
 rw[Ou OS];refine Qg ?_;refine WL.lit (α:=Raw) (F:=c7) (ys:=[(⟨.slice xo I.length xc⟩:Raw)]) rfl rfl rfl rfl rfl (.cons (Rd.mkRaw _ _ _ rfl) .nil) (by show 1*1≤16777216;decide) O6 (fun r ho3 hg3=>?_);have N:Ext C r:=(Ext.refl _).grown hg3 Pf O_;have E:Sl r (Fx r (.slice (some ⟨C.heap.size,0,none⟩) 1 1) (.slice none 0 0)) xo xc I:=hxs.mono (fun b R=>N.block b R) fun b R=>⟨MQ R N.size,fun e=>by
  have e:some C.heap.size=some b:=e
  injection e with e;have:b<C.heap.size:=R;omega,fun e=>by cases e⟩
 have c:Marks r C.heap.size (.slice (some ⟨C.heap.size,0,none⟩) 1 1) (.slice none 0 0) [(⟨.slice xo I.length xc⟩:Raw)] [I] []:=
  ⟨ho3,Own.nil,(fun g _ h=>by cases h),rfl,fun i h1 h2=>by
   obtain rfl:i=0:=by simp at h1;omega
   exact⟨xo,xc,rfl,E⟩⟩
 have hb23:=n.ext N;have hb33:=A.ext N;clear ho3 hg3 J hxs hbx;generalize Value.slice (some ⟨C.heap.size,0,none⟩) 1 1=mv0 at*
 refine QE ?_;refine WL.lit (α:=Raw) (F:=c7) (ys:=[(⟨.slice ao s.length ac⟩:Raw),(⟨.slice bo l.length bc⟩:Raw)]) rfl rfl rfl rfl rfl (.cons (Rd.mkRaw _ _ _ rfl) (.cons (Rd.mkRaw _ _ _ rfl) .nil)) (by show 2*1≤16777216;decide) O6 (fun w4 ho4 hg4=>?_);have e4:Ext r w4:=(Ext.refl _).grown hg4 Pf O_;have hM0:=c;have c:=c.ext e4;have E:=Fx.ext e4 E;have hb24:=n.ext (N.trans e4);have hb34:=A.ext (N.trans e4);have z3:=N.size;have e24:=N.trans e4;have hne0:∀g,mv0.ownBlock=some g→g≠r.heap.size:=fun g Y=>by have:=(hM0.own.lt g Y).2.1;omega
 clear hg4 N e4 hM0;refine PS ?_;refine CW.loop (S:=Nat×(Option Addr×Nat)×Value×List Raw×List (List Int)×List Int) (fun s=>[(2,Pk w0.heap.size),(3,Pk w1.heap.size),(6,.slice s.2.1.1 s.2.2.2.2.2.length s.2.1.2),(8,s.2.2.1),(48,.slice (some ⟨r.heap.size,0,none⟩) 2 2),(49,Pj 2),(50,Pj s.1)])
  (fun x w=>x.1≤2∧qd (ns,fl) (DL s l x.1) x.2.2.2.2.2 x.2.2.2.2.1=G∧cX (ns,fl) x.2.2.2.2.2
   ∧Marks w C.heap.size x.2.2.1 (.slice none 0 0) x.2.2.2.1 x.2.2.2.2.1 []∧Sl w (Fx w x.2.2.1 (.slice none 0 0)) x.2.1.1 x.2.1.2 x.2.2.2.2.2∧x.2.2.2.1.length+(DL s l x.1).length=s.length+l.length+1∧Ext C w∧(∀g,x.2.2.1.ownBlock=some g→g≠r.heap.size)∧Own w r.heap.size 38 c7 (.slice (some ⟨r.heap.size,0,none⟩) 2 2) [(⟨.slice ao s.length ac⟩:Raw),(⟨.slice bo l.length bc⟩:Raw)]) (fun s=>2 -s.1)
  (0,(xo,xc),mv0,[(⟨.slice xo I.length xc⟩:Raw)],[I],I) OR ⟨Nc _,hG,a,c,E,by simp[DL];omega,e24,hne0,ho4⟩ ?_
 clear c E ho4;rintro⟨j,⟨yo,yc⟩,mv,vs,xs,m⟩ w5 ⟨hj,o,a,c,Q,t,e5,f,ho5⟩
 dsimp only at hj o a c Q t e5 f ho5⊢
 have Z:=y.trans e5;have hb25:=n.ext e5;have hb35:=A.ext e5;refine Qw ?_;apply CW.cond rfl<;>intro h
 ·have W:j<2:=by simp at h;omega
  refine Qo ?_;refine eG rfl rfl rfl rfl rfl ho5 W O3 (fun u p hu=>?_);obtain⟨rfl,_⟩:=hu.raw;obtain⟨qo,qc,q,hq,hqs,hr1,hr2⟩:∃qo qc q,([(⟨.slice ao s.length ac⟩:Raw),(⟨.slice bo l.length bc⟩:Raw)][j]).v=.slice qo q.length qc∧Sl w0 (c9 w0) qo qc q∧DL s l j=q++DL s l (j+1)∧q.length≤60000:=by
   match j,W with
   |0,_=>exact⟨ao,ac,s,rfl,hst,rfl,by omega⟩
   |1,_=>exact⟨bo,bc,l,rfl,hlp,by simp[DL],by omega⟩
  rw[hq];rw[hr1]at o t
  refine Qp ?_;refine CW.loop (S:=Nat×(Option Addr×Nat)×Value×List Raw×List (List Int)×List Int) (fun s=>[(2,Pk w0.heap.size),(3,Pk w1.heap.size),(6,.slice s.2.1.1 s.2.2.2.2.2.length s.2.1.2),(8,s.2.2.1),(48,.slice (some ⟨r.heap.size,0,none⟩) 2 2),(49,Pj 2),(50,Pj j),(54,.slice qo q.length qc),(55,Pj q.length),(56,Pj s.1)])
   (fun x w=>x.1≤q.length∧qd (ns,fl) (q.drop x.1++DL s l (j+1)) x.2.2.2.2.2 x.2.2.2.2.1=G∧cX (ns,fl) x.2.2.2.2.2
    ∧Marks w C.heap.size x.2.2.1 (.slice none 0 0) x.2.2.2.1 x.2.2.2.2.1 []∧Sl w (Fx w x.2.2.1 (.slice none 0 0)) x.2.1.1 x.2.1.2 x.2.2.2.2.2∧x.2.2.2.1.length+(q.length -x.1)+(DL s l (j+1)).length=s.length+l.length+1∧Ext C w∧(∀g,x.2.2.1.ownBlock=some g→g≠r.heap.size)∧Own w r.heap.size 38 c7 (.slice (some ⟨r.heap.size,0,none⟩) 2 2) [(⟨.slice ao s.length ac⟩:Raw),(⟨.slice bo l.length bc⟩:Raw)]) (fun s=>q.length -s.1)
   (0,(yo,yc),mv,vs,xs,m) OR ⟨Nc _,by simpa using o,a,c,Q,by simp only[Lk]at t;dsimp only;omega,e5,f,ho5⟩ ?_
  clear c Q a o t Z hb25 hb35 ho5 e5 f;rintro⟨i,⟨yo,yc⟩,mv,vs,xs,m⟩ w6 ⟨hi,o,a,c,Q,t,H,f,ho6⟩
  dsimp only at hi o a c Q t H f ho6⊢
  have L:=y.trans H;have hb26:=n.ext H;have hb36:=A.ext H;refine Qw ?_;apply CW.cond rfl<;>intro h
  ·have X:i<q.length:=by simp at h;omega
   rw[Ky X,Km,qd]at o
   refine Qo ?_;refine eD rfl rfl rfl rfl rfl (hqs.up L) X rfl O3 (fun qq=>?_);generalize q[i]=k at*
   refine Pw ?_;refine WL.call rfl rfl rfl (Dz w6 (hs.up L) (hf.up L) (Fx.old Q) (by rw[a.1];exact h30) k) ?_;rintro _ w7 ⟨x,rfl,V,e7⟩
   have hM5:=c;have c:=c.ext e7;have hE7:=L.trans e7;have M:=H.trans e7;have hb27:=hb26.ext e7;by_cases z:(AO (ns,fl) m k).2=0
   case neg=>
    have T:((AO (ns,fl) m k).2 != 0)=true:=by simpa using z
    rw[Ov z]at o
    subst o;rw[Ov z];refine Qw ?_;rw[T];refine Qa ?_;exact bf rfl rfl rfl ⟨_,rfl,d _,hE7⟩
   rw[Ou (by simp[z])]at o
   have a:=AQ a z;rw[z];generalize (AO (ns,fl) m k).1=m' at*
   obtain⟨zo,zc,rfl,hym⟩:=V.slF (F':=Fx w7 mv (.slice none 0 0)) O6 (fun g Y=>by
    have h1:=V.lt g Y;refine⟨h1.2.1,fun e=>?_,fun e=>by cases e⟩;have:=(hM5.own.lt g e).2.1;omega)
   clear V hM5;refine PT ?_;refine dY (α:=Raw) (F:=c7) (yv:=(⟨.slice zo m'.length zc⟩:Raw)) rfl rfl O3 rfl rfl O3 c.own (Rd.mkRaw _ _ _ rfl) M.size O6 OU OY OS (fun mv' w8 p ho8 K D=>?_);have hM8:=c.push hym ho8 K D;have hm8:=Fx.step1 K D hym;have e8:Ext C w8:=M.grown K M.size (fun b R=>(c.own.lt b R).1);have ho7:=ho6.extN e7;have zz:=M.size;have ho8':=ho7.keptN K (fun g hg' e=>f g e.symm (by cases hg';rfl));have hne8:∀g,mv'.ownBlock=some g→g≠r.heap.size:=fun g Y=>(D g Y).elim (f g) (fun h=>by have:=(ho7.lt r.heap.size rfl).2.1;omega)
   refine PI ?_;exact EX.back (i+1,(zo,zc),mv',vs++[⟨.slice zo m'.length zc⟩],xs++[m'],m') OR ⟨X,o,a,hM8,hm8,by simp;omega,e8,hne8,ho8'⟩ OX
  ·obtain rfl:i=q.length:=by simp at h;omega
   rw[KA,L2]at o
   refine PJ ?_;exact EX.back (j+1,(yo,yc),mv,vs,xs,m) OR ⟨W,o,a,c,Q,by dsimp only;omega,H,f,ho6⟩ OX
 ·obtain rfl:j=2:=by simp at h;omega
  have o:qd (ns,fl) [] m xs=G:=o;rw[qd]at o
  subst o;dsimp only;rw[Ou OW];have U:s.length<xs.length:=by rw[←c.len];simp[DL]at t;omega
  have P:s.length<vs.length:=by rw[c.len];exact U
  obtain⟨zo,zc,O,hzs⟩:=c.el s.length P U;rw[show xs.getD s.length []=xs[s.length] by rw[KR,KX U];rfl];refine PX ?_;refine eG rfl rfl rfl rfl rfl c.own P O3 (fun u p hu=>?_);obtain⟨rfl,_⟩:=hu.raw;rw[O];refine QO ?_;refine WL.call rfl rfl rfl (nP w5 (Fx.old hzs) (Fx.old Q)) ?_;rintro _ w6 ⟨rfl,H⟩
  by_cases he:xs[s.length]=m
  ·rw[Ov he,show(xs[s.length]==m)=true by simpa using he]
   refine QF ?_;exact bf rfl rfl rfl ⟨_,rfl,(c.ext H).rd,Z.trans H⟩
  ·rw[Ou he,show(xs[s.length]==m)=false by simpa using he]
   refine Qr ?_;exact bf rfl rfl rfl ⟨_,rfl,d _,Z.trans H⟩
abbrev zI(p:cL):List ByteArray:=p.1.map (·.1)
noncomputable abbrev rW(p:cL)(tok st:Int):cQ:=(Eu p tok st).1.1
noncomputable abbrev rO(p:cL)(tok st:Int):List cH:=(Eu p tok st).1.2
structure RunsK(p:cL)(tok st:Int):Prop where
 chk:jB (rW p tok st)=0
 ed:mX (rW p tok st).2.1≤8589934592
 of:(rO p tok st).length=(rW p tok st).2.1.length
 row:∀j,((rW p tok st).2.1.getD j []).length≤1048576
 start:(rW p tok st).1.length≤1048576
 n:p.1.length≤20
theorem Ew{p:cL}{tok st:Int}(h:(Eu p tok st).2=0):RunsK p tok st:=by
 obtain⟨h1,h2,h3⟩:=Ev h;have c:=oA h1;have d:=(oz h1).1;have a:jT p=0:=Gb d;have b:rW p tok st=Ey (F_ p).1 (ow p tok st).1.2:=by unfold rW;rw[h3]
 have g:rO p tok st=Ap (ow p tok st).1.2 (ow p tok st).1.2.length:=by unfold rO;rw[h3]
 refine⟨?_,?_,?_,?_,?_,(jU a).n⟩
 ·rw[b]
  have:=Ez c h2;have e:(Ey (F_ p).1 (ow p tok st).1.2).2.2.1.length=gD (ow p tok st).1.2 (ow p tok st).1.2.length:=by
   show((List.range _).map _).length=_;rw[Lq,Lt]
  unfold jB;rw[e];exact this
 ·rw[b];exact DQ c h2
 ·rw[b,g]
  show _=((List.range _).map _).length;rw[Lq,Lt];rfl
 ·intro j
  rw[b];show((DP (ow p tok st).1.2).getD j []).length≤_;by_cases f:j<(DP (ow p tok st).1.2).length
  ·rw[DR (by rw[←DS];exact f)]
   have:=(zv c (j:=j)).2;omega
  ·rw[KR,KY OS];simp
 ·rw[b]
  show(fY (ow p tok st).1.2 0).length≤_;unfold fY yV;rw[Lq,Lt];have:=c.row 0;omega
structure JdgR(p:cL)(r:cM)(tok st:Int)(h:Bool)(s l:List Int)(e:Int):Prop where
 bad:e≠0→h=false∧s=[]∧l=[]
 pre:e=0→(Eu p tok st).2=0∧jX r (zI p)=0
 ctl:e=0→r.2.1=4→s=[]∧l=[]∧(h=true↔∀n∈(rW p tok st).1,lG (rW p tok st).2.1 (rW p tok st).2.2.1 (rW p tok st).2.2.2 r.2.2.2.2.2 n.toNat)
 ltl:e=0→r.2.1≠4→(pZ r).2=0∧(jD (pZ r).1 1 0).1=0∧IK (pZ r).1∧(yp (Aa (pZ r).1)).2=0∧(h=true↔ai (rW p tok st) (pZ r).1)∧(h=true→s=[]∧l=[])∧
  (h=false→∃ps pl,PathE (rW p tok st) (yp (Aa (pZ r).1)).1 ps pl∧s=(ps.map fun n=>((rO p tok st).getD n.toNat (0,0)).1)∧l=(pl.map fun n=>((rO p tok st).getD n.toNat (0,0)).1))
 good:(Eu p tok st).2=0→jX r (zI p)=0→r.2.1≠4→(pZ r).2=0→(yp (Aa (pZ r).1)).2=0→e=0
 goodC:(Eu p tok st).2=0→jX r (zI p)=0→r.2.1=4→e=0
theorem p_{r:cM}(h:(pZ r).2=0):(jD (pZ r).1 1 0).1=0:=by
 unfold pZ at h⊢
 split
 ·rename_i h1
  rw[Ov h1]at h
  unfold mA at h⊢
  split
  ·rename_i h2;rw[Ov h2]at h;exact absurd h h2
  ·rename_i h2
   rw[Ou h2]at h
   split
   ·rename_i h3;rw[Ov h3]at h;exact absurd h h3
   ·rename_i h3;simpa using h3
 ·rename_i h1
  rw[Ou h1]at h
  split
  ·rename_i h2
   rw[Ov h2]at h
   unfold lP at h⊢
   split
   ·rename_i h3;rw[Ov h3]at h;exact absurd h h3
   ·rename_i h3
    rw[Ou h3]at h
    split
    ·rename_i h4;rw[Ov h4]at h;exact absurd h h4
    ·rename_i h4;simpa using h4
  ·rename_i h2
   rw[Ou h2]at h
   split
   ·rename_i h3
    rw[Ov h3]at h
    split
    ·rename_i h4;rw[Ov h4]at h;exact absurd h h4
    ·rename_i h4;simpa using h4
   ·rename_i h3
    rw[Ou h3]at h;cases h
theorem v_{p:cL}{r:cM}{tok st e:Int}(c:e≠0)(d:(Eu p tok st).2=0→jX r (zI p)=0→False):JdgR p r tok st false [] [] e:=
 ⟨fun _=>⟨rfl,rfl,rfl⟩,fun h=>absurd h c,fun h=>absurd h c,fun h=>absurd h c,fun a b _ _ _=>(d a b).elim,fun a b _=>(d a b).elim⟩
theorem jY{r:cM}{b:List ByteArray}(h:jX r b=0)(h4:r.2.1=4):(jt r.2.2.2.2.2 1 0).1=0:=by
 unfold jX at h
 split at h
 ·cases h
 split at h
 ·rename_i g;exact absurd h g
 rename_i g;have a:Bz r b=0:=by simpa using g
 unfold Bz at a
 split at a
 ·cases a
 ·unfold BA at a
  rw[Ou OS,Ou OS,Ou OS,Ov h4]at a
  unfold Ci at a
  split at a
  ·rename_i g2;exact absurd a g2
  ·rename_i g2;simpa using g2
def HT(l:List UInt8):ByteArray:=⟨l.toArray⟩
theorem HW(l:List UInt8):(HT l).data.toList=l:=by simp[HT]
theorem HV(s:ByteArray):HT s.data.toList=s:=by cases s;simp[HT]
theorem HU(a b:List UInt8):HT a++HT b=HT (a++b):=by
 apply ByteArray.ext;simp[HT,ByteArray.append]
theorem HX(l:List UInt8):(HT l).size=l.length:=by simp[HT,ByteArray.size]
abbrev tV(l:List UInt8):Value:=.string (HT l)
section
variable {P:Program}{Q:Exit→Act→World→Prop}{n:Nat}{σ:Sg}{w:World}{L rest:List Oper}{d:Nat}{op:Op}{ty:TypeId}{pos:String}{af:Array Edge}{g:Option (Nat×Bool)}{t yt:TypeId}{x y ix:Operand}
theorem D1{a b:List UInt8}(w:World)(h:a.length+b.length<9223372036854775808):((do eqGuard .add t x y (tV a) (tV b);binOp .add t (tV a) (tV b):Sem Value)).run P w=.ok (tV (a++b)) w:=by
 have h1:((HT a).size:Int)+((HT b).size:Int)≤9223372036854775807:=by rw[HX,HX];omega
 simp[eqGuard,binOp,Op.stringOp,h1,HU,show IntKind.i64.max=9223372036854775807 by decide]
theorem d_{a b:List UInt8}(k:gd L σ ⟨some d,.binOp .add t x y yt,ty,pos,af,g⟩=some true)(hd:Nat.ble (d+1) n=true)(i:ev σ x=some (tV a))(f:ev σ y=some (tV b))(j:a.length+b.length<9223372036854775808)
  (h:WL P L Q rest n ((d,tV (a++b))::σ) w):WL P L Q (⟨some d,.binOp .add t x y yt,ty,pos,af,g⟩::rest) n σ w:=by
 refine WL.run k hd (fun c e=>?_) h;simp only[execOp,e.ev i,e.ev f];rw[Nv,D1 w j];rfl
theorem bW{S:World→Prop}{ord:List (Nat×Bool)}{i:Nat}{a b:List UInt8}(k:Ac L i=some ⟨some d,.binOp .add t x y yt,ty,pos,af,g⟩)(m:gd L σ ⟨some d,.binOp .add t x y yt,ty,pos,af,g⟩=some true)(hd:Nat.ble (d+1) n=true)
  (j:ev σ x=some (tV a)) (f:ev σ y=some (tV b)) (l:a.length+b.length<9223372036854775808) (h:HL P L S Q ord n ((d,tV (a++b))::σ) w):HL P L S Q ((i,true)::ord) n σ w:=by
 refine HL.run k m hd (fun c e w' _=>?_) h;simp only[execOp,e.ev j,e.ev f];rw[Nv,D1 w' l];rfl
class IsAr(P:Program)(t:TypeId)(k:outParam Nat)(e:outParam TypeId):Prop where
 ok:P.underlying t=some (.array k e)
theorem pj{p p':Nat→Option (Nat×Nat)}(h:∀i q,p i=some q→p' i=some q):∀(parts:List (Nat×Value)) (cells out:Array Value),Instr.fill p cells parts=some out→Instr.fill p' cells parts=some out
 |[],cells,out,e=>e
 |(i,v)::r,cells,out,e=>by
  unfold Instr.fill at e⊢
  cases a:p i with
  |none=>rw[a]at e;cases e
  |some q=>
   obtain⟨off,size⟩:=q;rw[a]at e
   rw[h i _ a];dsimp only at e⊢
   split at e
   ·cases e
   ·rename_i b
    rw[Ou b];exact pj h r _ out e
def BW:Nat→Nat→List (Nat×Nat)
 |0,_=>[]
 |k+1,o=>(o,1)::BW k (o+1)
theorem BX:∀(k o i:Nat) (q:Nat×Nat),(BW k o)[i]?=some q→q=(o+i,1)
 |0,o,i,q,h=>by simp[BW]at h
 |k+1,o,0,q,h=>by simp[BW]at h;rw[←h];rfl
 |k+1,o,i+1,q,h=>by
  simp only[BW,KV]at h
  rw[BX k (o+1) i q h,show o+1+i=o+(i+1) by omega]
theorem d6{parts:List (Nat×Operand)}{vs:List Value}{k:Nat}{e:TypeId}{zs out:List Value}(v:gd L σ ⟨some d,.build t parts.toArray,ty,pos,af,g⟩=some true)(hd:Nat.ble (d+1) n=true)
  (s:oe σ (FJ parts)=some vs) [E:IsZC P t zs] [u:IsAr P t k e] [F:IsC P e 1 false] (hf:o7 (BW k 0) zs ((parts.map (·.1)).zip vs)=some out)
  (h:WL P L Q rest n ((d,.agg out.toArray)::σ) w):WL P L Q (⟨some d,.build t parts.toArray,ty,pos,af,g⟩::rest) n σ w:=by
 refine WL.run v hd (fun a G=>?_) h;obtain⟨i,z,f,c,b⟩:=E.ok;obtain⟨j,dd,m,l,_,_⟩:=F.ok;have C:=og G (FJ parts) vs s;have B:(parts.toArray.map fun x=>(x.1,a.eval x.2)).toList=(parts.map (·.1)).zip vs:=by
  rw[←C];clear s hf v h C
  induction parts with
  |nil=>simp[FJ]
  |cons p r D=>simpa[FJ]using D
 have A:=pj (p':=fun i=>some (i*1,1)) (fun i q hq=>by
  have o:(BW k 0)[i]?=some q:=by simpa using hq
  rw[BX k 0 i q o];simp) _ _ _ (o8 (BW k 0) _ _ _ hf)
 simp only[MY]at A
 simp only[execOp,Instr.build,zeroValue,typeInfo,f,c,b,OI u.ok,sizeOf,m,l];simp[f,c,b,OI u.ok,m,l];simp at B
 rw[B,A];rfl
theorem eL{k i:Nat}{e:TypeId}{kd:IntKind}{cells:List Value}{v:Value}(s:gd L σ ⟨some d,.index t x ix,ty,pos,af,g⟩=some true)(hd:Nat.ble (d+1) n=true)
  (q:ev σ x=some (.agg cells.toArray)) (hi:ev σ ix=some (.int kd (i:Int))) [z:IsAr P t k e] [u:IsC P e 1 false] (h1:i<k) (f:Ag cells i=some v)
  (h:WL P L Q rest n ((d,v)::σ) w):WL P L Q (⟨some d,.index t x ix,ty,pos,af,g⟩::rest) n σ w:=by
 obtain⟨j,dd,p,o,m,l⟩:=u.ok;rw[Ah]at f
 have b:(isAgg e).run P w=.ok false w:=by
  unfold isAgg;rw[Nv,OI m w,←l];cases dd<;>rfl
 have r:cells.toArray[i]?=some v:=by simpa using f
 refine WL.run s hd (fun a c=>?_) h;simp[execOp,c.ev q,c.ev hi,Instr.index,asIntOf,OI z.ok,h1,sizeOf,typeInfo,p,o,part,b,f]
end
theorem vN(w0:World){ao:Option Addr}{cap:Nat}{xs:List ByteArray}(x:ByteArray)(c:Sl w0 (c9 w0) ao cap xs):
  Rt Tryz.prog 138 [.slice ao xs.length cap,.string x].toArray w0 fun v w'=>v=Pj (idxOf (fun y=>x.data.toList==y.data.toList) xs)∧w0=w':=by
 have l:=c.len63;refine dH Tryz.func138 Tryz.ntmps138 rfl rfl ?_;refine Qp ?_;refine CW.loop (S:=Nat) (fun k=>[(0,.slice ao xs.length cap),(1,.string x),(7,Pj xs.length),(8,Pj k)])
  (fun k w=>k≤xs.length∧w0=w∧∀j (h:j<xs.length),j<k→(x.data.toList==xs[j].data.toList)=false) (fun k=>xs.length -k) 0 OR ⟨by omega,rfl,by omega⟩ ?_
 rintro k w ⟨m,rfl,hn⟩
 refine Qw ?_;apply CW.cond rfl<;>intro h
 ·simp at h
  refine PA ?_;refine eE rfl rfl rfl rfl rfl c h O3 (fun u q f=>?_);obtain⟨rfl,_⟩:=f.str;refine Pv ?_;refine CW.cond rfl (fun b=>?_) (fun b=>?_)
  ·refine Pl ?_
   refine be rfl rfl ⟨?_,rfl⟩;rw[vm h hn b]
  ·refine Pq ?_
   refine EX.back (k+1) OR ⟨h,rfl,?_⟩ OS;intro j a i
   by_cases e:j=k
   ·subst e;exact b
   ·exact hn j a OS
 ·simp at h
  refine PG ?_;refine be rfl rfl ⟨?_,rfl⟩;rw[vt (fun j a=>hn j a OS)]
instance s7:IsZ Tryz.prog 9 (⟨#[]⟩:ByteArray) 16:=IsZ.of (z:=.string ⟨#[]⟩) OT (fun _ _=>⟨rfl,by decide⟩)
theorem wb(w0:World){so fo:Option Addr}{sc fc k:Nat}{ns:List cJ}(y:Sl w0 (c9 w0) so sc ns)(D:ns.length≤1000):
  Rt Tryz.prog 11 [Ck so sc fo fc ns.length k].toArray w0 fun v w'=>Own w' w0.heap.size 9 c7 v (ns.map (·.1))∧Ext w0 w':=by
 refine dG Tryz.func11 Tryz.ntmps11 rfl rfl ?_;refine Pm ?_;refine dZ rfl rfl rfl fun C E A=>?_
 refine QH ?_;refine CW.loop (S:=Nat×Value) (fun s=>[(7,.slice so ns.length sc),(8,Pj ns.length),(9,Pj s.1),(3,s.2)])
  (fun s w=>s.1≤ns.length∧Own w w0.heap.size 9 c7 s.2 ((ns.take s.1).map (·.1))∧Ext w0 w) (fun s=>ns.length -s.1) (0,.slice none 0 0) OR ⟨Nc _,Own.nil,A⟩ ?_
 rintro⟨i,v⟩ w ⟨hi,d,e⟩
 dsimp only at hi d e⊢
 refine Qw ?_;apply CW.cond rfl<;>intro h
 ·have a:i<ns.length:=by simpa using h
  refine Qo ?_;refine eE rfl rfl rfl rfl rfl (y.up e) a O3 (fun u q f=>?_);have j:ns[i].1.size≤maxLen:=by
   obtain⟨c1,c2,_,h1,_⟩:=f.pr;exact h1.2
  rw[f.node];clear f;skip;refine WL.alloc rfl rfl (fun B c p=>?_);refine WL.st rfl rfl rfl c rfl rfl Pd (fun t c m=>?_);have o:Ext w t:=p.grown m p.size O5;have ho3:=d.extN o;have b:=e.trans o;refine QE ?_;refine dY (F:=c7) (yv:=ns[i].1) rfl rfl O3 rfl rfl O3 ho3 (Rd.mkStr _ _ _ j) b.size O6 OU (by rw[Lq,Lz];unfold maxLen;omega) (by rw[Lq,Lz];omega) (fun x r q ho4 l hnb=>?_);have n:Ext w0 r:=b.grown l b.size (fun g z=>(ho3.lt g z).1);refine PI ?_;refine EX.back (i+1,x) OR ⟨a,?_,n⟩ OX;rw[show(ns.take (i+1)).map (·.1)=(ns.take i).map (·.1)++[ns[i].1] by rw[Mp a,LC];rfl];exact ho4
 ·obtain rfl:i=ns.length:=by simp at h;omega
  rw[Ml]at d
  refine PG ?_;exact be rfl rfl ⟨d,e⟩
theorem gh(w0:World){eo lo:Option Addr}{ec k:Nat}{b:List cH}{l:List Int}(B:Sl w0 (c9 w0) eo ec b)(z:Sl w0 (c9 w0) lo k l)(A:AG b.length l)(I:l.length≤1099511627776):
  Rt Tryz.prog 14 [.slice eo b.length ec,.slice lo l.length k].toArray w0 fun v w'=>Own w' w0.heap.size 3 c7 v (l.map fun n=>(b.getD n.toNat (0,0)).1)∧Ext w0 w':=by
 refine dH Tryz.func14 Tryz.ntmps14 rfl rfl ?_;have J:=z.len63;have G:=B.len63;refine Qp ?_;refine CW.loop (S:=Nat×Value) (fun s=>[(0,.slice eo b.length ec),(8,.slice lo l.length k),(9,Pj l.length),(10,Pj s.1),(5,s.2)])
  (fun s w=>s.1≤l.length∧Own w w0.heap.size 3 c7 s.2 ((l.take s.1).map fun n=>(b.getD n.toNat (0,0)).1)∧Ext w0 w) (fun s=>l.length -s.1) (0,.slice none 0 0) OR ⟨Nc _,Own.nil,Ext.refl _⟩ ?_
 rintro⟨i,v⟩ w ⟨hi,e,d⟩
 dsimp only at hi e d⊢
 refine Qw ?_;apply CW.cond rfl<;>intro h
 ·have c:i<l.length:=by simpa using h
  obtain⟨a,ea⟩:=J9 (A _ (Lb c)).1;have C:a<b.length:=by have:=(A _ (Lb c)).2;omega
  obtain⟨kb,koff,rfl,hF,cs,p,m⟩:=(B.up d).el a C;obtain⟨c1,c2,f,h1,h2⟩:=C5 m;rw[C0 h1]at f
  have r:Cells w kb (koff+a*sz cH) [Pj b[a].1]:=by
   intro j u x
   cases j with
   |zero=>exact p 0 u (by rw[f];exact x)
   |succ j=>simp at x
  refine Qo ?_;refine eD rfl rfl rfl rfl rfl (z.up d) c ea O3 (fun q=>?_);refine PP ?_;refine eJ (α:=cH) rfl rfl rfl rfl OS OS ?_;refine QR ?_;refine WL.load (α:=Int) (F:=c7) (y:=b[a].1) rfl rfl rfl (by rw[Kd];exact r) rfl ?_;rw[show Iu Int [Pj b[a].1]=Pj b[a].1 from rfl];skip;refine dY (F:=c7) (yv:=b[a].1) rfl rfl O3 rfl rfl O3 e Pe d.size O6 OU (by rw[Lq,Lz];unfold maxLen;omega) (by rw[Lq,Lz];omega) (fun E D q ho4 o hnb=>?_);have t:Ext w0 D:=d.grown o d.size (fun g H=>(e.lt g H).1);refine PI ?_;refine EX.back (i+1,E) OR ⟨c,?_,t⟩ OX;rw[show(l.take (i+1)).map (fun n=>(b.getD n.toNat (0,0)).1)=(l.take i).map (fun n=>(b.getD n.toNat (0,0)).1)++[b[a].1] by
   rw[Mp c,LC];simp only[LE,LH];rw[ea,Kd,KR,KX C];rfl]
  exact ho4
 ·obtain rfl:i=l.length:=by simp at h;omega
  rw[Ml]at e
  refine PG ?_;exact be rfl rfl ⟨e,d⟩
theorem vh(x:ByteArray)(a:List ByteArray):idxOf (fun y:ByteArray=>x.data.toList==y.data.toList) a=vg a x.data.toList:=by
 unfold idxOf vg;rw[show(fun y:ByteArray=>x.data.toList==y.data.toList)=fun y=>y.data.toList==x.data.toList from funext fun y=>Bool.beq_comm]
 all_goals rfl
theorem qV{a:List ByteArray}{i:Nat}(h:i<a.length):a.getD i ⟨#[]⟩=a[i]:=by rw[KR,KX h];rfl
inductive ShT(kk:Int→Int):Ltl→Prop
 |mk (k n:Int) (kids:List Ltl):kk k=kids.length→0≤n→n≤63→(∀x∈kids,ShT kk x)→ShT kk (.mk k n kids)
mutual
theorem jJ:∀(t:Ltl) (d c:Int),(jD t d c).1=0→ShT wU t∧(jD t d c).2=c+t.nodes
 |.mk k n kids,d,c,h=>by
  simp only[jD]at h⊢
  split at h
  ·cases h
  split at h
  ·cases h
  split at h
  ·cases h
  rename_i h1 h2 h3;rw[Ou h1,Ou h2,Ou h3];have⟨g1,g2⟩:=jG kids (d+1) (c+1) h;simp only[Oz]at h3
  refine⟨.mk k n kids OS OS OS g1,?_⟩;rw[g2];simp only[Ltl.nodes];omega
theorem jG:∀(l:List Ltl) (d c:Int),(jE l d c).1=0→(∀x∈l,ShT wU x)∧(jE l d c).2=c+Ltl.nodesL l
 |[],d,c,h=>⟨fun x a=>by(cases a),by simp[jE,Ltl.nodesL]⟩
 |y::r,d,c,h=>by
  simp only[jE]at h⊢
  split at h
  ·rename_i h1;exact absurd h h1
  rename_i h1;rw[Ou h1];have⟨g1,g2⟩:=jJ y d c (by simpa using h1);have⟨g3,g4⟩:=jG r d _ h;refine⟨fun x a=>?_,?_⟩
  ·rcases LN.1 a with rfl|a
   ·exact g1
   ·exact g3 x a
  ·rw[g4,g2];simp only[Ltl.nodesL];omega
end
section
variable {P:Program}{Q:Exit→Act→World→Prop}{n:Nat}{σ:Sg}{w wc:World}{L:List Oper}{S:World→Prop}{ord:List (Nat×Bool)}{i d:Nat}{ty:TypeId}{pos:String}{af:Array Edge}{g:Option (Nat×Bool)}{t e:TypeId}{x:Operand}{b o:Nat}{cells:List Value}
theorem cq{v:Value}(q:∀f,S f→Blk f b e cells)(l:Ac L i=some ⟨some d,.load t x,ty,pos,af,g⟩)(m:gd L σ ⟨some d,.load t x,ty,pos,af,g⟩=some true)(hd:Nat.ble (d+1) n=true)(j:ev σ x=some (.pointer (some ⟨b,o,none⟩)))[r:IsC P t 1 false](k:Ag cells o=some v)
  (h:HL P L S Q ord n ((d,v)::σ) wc):HL P L S Q ((i,true)::ord) n σ wc:=by
 refine HL.run l m hd (fun a p w' c=>?_) h;simp[execOp,p.ev j,D7 (P:=P) (t:=t) w' (q w' c) k]
theorem cj{vs:List Value}{k:Nat}(r:∀f,S f→Blk f b e cells)(m:Ac L i=some ⟨some d,.load t x,ty,pos,af,g⟩)(p:gd L σ ⟨some d,.load t x,ty,pos,af,g⟩=some true)(hd:Nat.ble (d+1) n=true)(j:ev σ x=some (.pointer (some ⟨b,o,none⟩)))[s:IsC P t k true](l:EK cells o k=some vs)
  (h:HL P L S Q ord n ((d,.agg vs.toArray)::σ) wc):HL P L S Q ((i,true)::ord) n σ wc:=by
 refine HL.run m p hd (fun a q w' c=>?_) h;simp[execOp,q.ev j,D8 (P:=P) (t:=t) w' (r w' c) l]
end
instance ul:IsFd Tryz.prog 203 0 0:=IsFd.of OT
instance um:IsFd Tryz.prog 203 1 1:=IsFd.of OT
instance uq:IsBd Tryz.prog 203 [(0,1),(1,1)]:=IsBd.of OT
instance ur:IsZC Tryz.prog 203 [.slice none 0 0,.bool false]:=IsZC.of (z:=.agg #[.slice none 0 0,.bool false]) OT rfl
instance ut:IsAr Tryz.prog 243 10 9:=⟨Tryz.underlying243⟩
abbrev zJ:Value:=.string ⟨#[]⟩
instance uu:IsZC Tryz.prog 243 [zJ,zJ,zJ,zJ,zJ,zJ,zJ,zJ,zJ,zJ]:=IsZC.of (z:=.agg #[zJ,zJ,zJ,zJ,zJ,zJ,zJ,zJ,zJ,zJ]) OT rfl
theorem xZ(w0:World){no:Option Addr}{m:Nat}{a:List ByteArray}(hn:Sl w0 (c9 w0) no m a)(n:Int)(q:0≤n):
  Rt Tryz.prog 187 [Pj n,.slice no a.length m].toArray w0 fun v w'=>v=tV (zF a n)∧Ext w0 w':=by
 have s:=hn.len63;refine dH Tryz.func187 Tryz.ntmps187 rfl rfl ?_;obtain⟨i,rfl⟩:=J9 q;refine Qw ?_;apply CW.cond rfl<;>intro h
 ·refine P7 ?_
  refine be rfl rfl ⟨?_,Ext.refl _⟩;have:(i:Int)=63:=by simpa using h
  unfold zF;rw[Ov this];rfl
 have f:¬(i:Int)=63:=by simpa using h
 refine QA ?_
 (refine eX rfl rfl (fun h=>?_) (fun h=>?_))
 ·have h1:(i:Int)≥(a.length:Int):=by simpa using h
  refine Qr ?_;refine be rfl rfl ⟨?_,Ext.refl _⟩;unfold zF;rw[Ou f,Ov h1];rfl
 have h1:¬(i:Int)≥(a.length:Int):=by simpa using h
 have hi:i<a.length:=by omega
 refine QO ?_;refine eE rfl rfl rfl rfl rfl hn hi O3 (fun k l c=>?_);obtain⟨rfl,_⟩:=c.str;skip;refine WL.call rfl rfl rfl (cZ w0 a[i]) ?_;rintro _ p ⟨rfl,j⟩
 refine QO ?_
 (refine eX rfl rfl (fun h=>?_) (fun h=>?_))
 ·refine Qr ?_
  refine be rfl rfl ⟨?_,j⟩;unfold zF;rw[Ou f,Ou h1,Ov (by rw[Kd,qV hi];simpa using h)];rfl
 have h2:¬y_ a[i]=false:=by simpa using h
 refine QO ?_;refine eE rfl rfl rfl rfl rfl (hn.up j) hi O3 (fun k l c=>?_);obtain⟨rfl,_⟩:=c.str;skip;refine WL.call rfl rfl rfl (vN p a[i] (hn.up j)) ?_;rintro _ r ⟨rfl,rfl⟩
 refine Pv ?_;apply CW.cond rfl<;>intro h
 ·refine P7 ?_
  refine be rfl rfl ⟨?_,j⟩;unfold zF;rw[Ou f,Ou h1,Ou (by rw[Kd,qV hi];exact h2),Ov (by rw[Kd,qV hi,←vh];simpa using h)];rfl
 refine Qv ?_;refine eE rfl rfl rfl rfl rfl (hn.up j) hi O3 (fun k l c=>?_);obtain⟨rfl,_⟩:=c.str;refine Pr ?_;refine be rfl rfl ⟨?_,j⟩;unfold zF;rw[Ou f,Ou h1,Ou (by rw[Kd,qV hi];exact h2),Ou (by rw[Kd,qV hi,←vh];simpa using h)];rw[Kd,qV hi,tV,HV]
theorem xz(w0:World)(k i x:Int):Rt Tryz.prog 217 [Pj k,Pj i,Pj x].toArray w0 fun v w'=>v=.bool (h_ k i x)∧w0=w':=by
 refine dI Tryz.func217 Tryz.ntmps217 rfl rfl ?_;unfold h_;refine Qu ?_;apply CW.cond rfl<;>intro h
 ·have a:x=5:=by simpa using h
  rw[Ov a];clear h;refine PB ?_
  (refine eX rfl rfl (fun h=>?_) (fun h=>?_))
  ·refine PH ?_
   exact be rfl rfl ⟨by rw[h];rfl,rfl⟩
  ·rw[h]
   clear h;refine QO ?_
   (refine eX rfl rfl (fun h=>?_) (fun h=>?_))
   ·refine P4 ?_
    exact be rfl rfl ⟨by rw[h];rfl,rfl⟩
   ·refine PH ?_
    exact be rfl rfl ⟨by rw[h];rfl,rfl⟩
 have f:¬x=5:=by simpa using h
 rw[Ou f];refine Qw ?_;apply CW.cond rfl<;>intro h
 ·have h:x=6:=by simpa using h
  rw[Ov h];clear h;refine PB ?_
  (refine eX rfl rfl (fun h=>?_) (fun h=>?_))
  ·refine P4 ?_
   exact be rfl rfl ⟨by rw[h];rfl,rfl⟩
  ·refine PH ?_
   exact be rfl rfl ⟨by rw[h];rfl,rfl⟩
 have c:¬x=6:=by simpa using h
 rw[Ou c];refine az [(0,Pj k),(1,Pj i),(2,Pj x),(28,.bool (decide (x=8∨x=9)))] ?_ ?_
 ·refine Qw ?_
  apply CW.cond rfl<;>intro h
  ·refine Po ?_
   refine aS ⟨rfl,rfl,rfl,?_,trivial⟩;refine Oh (fun b=>some (Value.bool b)) ?_;have:x=8:=by simpa using h
   simp[this]
  ·refine PP ?_
   refine aS ⟨rfl,rfl,rfl,?_,trivial⟩;refine Oh (fun b=>some (Value.bool b)) ?_;have:¬x=8:=by simpa using h
   rw[JO];simp[this]
 apply CW.cond rfl<;>intro h
 ·rw[Ov (by simpa using h)]
  clear h;refine PB ?_
  (refine eX rfl rfl (fun h=>?_) (fun h=>?_))
  ·refine P4 ?_
   exact be rfl rfl ⟨by rw[h];rfl,rfl⟩
  ·refine PH ?_
   exact be rfl rfl ⟨by rw[h];rfl,rfl⟩
 ·rw[Ou (by simpa using h)]
  refine Qd ?_;exact be rfl rfl ⟨rfl,rfl⟩
theorem yR(k n:Int)(l:List Ltl):(Ltl.mk k n l).k=k:=rfl
theorem yT(k n:Int)(l:List Ltl):(Ltl.mk k n l).n=n:=rfl
theorem yS(k n:Int)(l:List Ltl):(Ltl.mk k n l).kids=l:=rfl
theorem Fk{kk:Int→Int}{k n:Int}{kids:List Ltl}(h:ShT kk (.mk k n kids)):kk k=kids.length∧0≤n∧n≤63∧∀x∈kids,ShT kk x:=by
 cases h with
 |mk _ _ _ h1 h2 h3 h4=>exact⟨h1,h2,h3,h4⟩
theorem H4{nm:Int→ar}{k n:Int}{x y:Ltl}(a:k=5∨k=6∨k=8∨k=9):
  H3 nm (.mk k n [x,y])=wP (h_ k 0 x.k) (H3 nm x)++[32]++Fy k++[32]++wP (h_ k 1 y.k) (H3 nm y):=by
 rcases a with rfl|rfl|rfl|rfl<;>simp[H3,H6,wg]
theorem wR{w:World}{F:Nat→Prop}{c:List Value}{x:Ltl}(h:rd w F c x){b off:Nat}(d:Cells w b off c):Cells w b off [Pj x.k]:=by
 obtain⟨ao,cap,rfl,_⟩:=RdT.sl h;intro j u a
 cases j with
 |zero=>exact d 0 u a
 |succ j=>simp at a
abbrev fG(w:World)(bw:Nat)(no:Option Addr)(len a:Nat)(b:Bool):Prop:=Blk w bw 203 [.slice no len a,.bool b]
def cO(t:Ltl):Prop:=∀(w:World) (F:Nat→Prop) (bw:Nat) (ao:Option Addr) (cap:Nat) (no:Option Addr) (c:Nat) (a:List ByteArray) (b:Bool),Sl w F ao cap t.kids→Sl w F no c a→(∀k,F k→k<w.heap.size)→¬F bw→fG w bw no a.length c b→
 Rt Tryz.prog 135 [.pointer (some ⟨bw,0,none⟩),yj t.k t.n ao t.kids.length cap].toArray w fun v w'=>v=tV (H3 (zF a) t)∧fG w' bw no a.length c (b||gW (zF a) t)∧w.grownBy w' (some bw)
theorem xV{t:Ltl}{i:Nat}(hi:i<t.kids.length)(N:cO t.kids[i])(V:t.kids[i].nodes≤1000)(w:World)(F:Nat→Prop)(bw:Nat)(ao:Option Addr)(cap:Nat)(no:Option Addr)(m:Nat)(c:List ByteArray)(b:Bool)
  (z:Sl w F ao cap t.kids) (hn:Sl w F no m c) (hF:∀k,F k→k<w.heap.size) (hnb:¬F bw) (K:fG w bw no c.length m b):
  Rt Tryz.prog 188 [Pk bw,yj t.k t.n ao t.kids.length cap,Pj (i:Int)].toArray w fun v w'=>v=tV (wP (h_ t.k i t.kids[i].k) (H3 (zF c) t.kids[i]))∧fG w' bw no c.length m (b||gW (zF c) t.kids[i])∧w.grownBy w' (some bw):=by
 have U:=z.len63;have R:=K.lt;have Q:=H5 (zG c) t.kids[i];obtain⟨kb,koff,rfl,g,X,D,A⟩:=z.el i hi;refine dI Tryz.func188 Tryz.ntmps188 rfl rfl ?_;refine Pm ?_;refine dZ rfl rfl rfl fun s G l=>?_
 have j:∀k,F k→k<s.heap.size:=fun k d=>MQ (hF k d) l.size
 have x:Sl s F _ cap t.kids:=z.mono (fun k d=>l.block k (hF k d)) fun _ h=>h
 have B:Sl s F no m c:=hn.mono (fun k d=>l.block k (hF k d)) fun _ h=>h
 refine QE ?_;refine eE rfl rfl rfl rfl rfl x hi O3 (fun u q P=>?_);obtain⟨ao',cap',rfl,O⟩:=P.ltl;skip;refine WL.call rfl rfl rfl (N s F bw ao' cap' no m c b O B j hnb (K.ext l)) ?_;rintro _ r ⟨rfl,H,f⟩
 have J:=G.kept f Pa;have o:∀k,F k→k<r.heap.size:=fun k d=>MQ (j k d) f.size
 have C:r.heap[kb]?=w.heap[kb]?:=(f.block kb (j kb g) (fun e=>by cases e;exact hnb g)).trans (l.block kb (hF kb g));have E:Cells r kb (koff+i*sz Ltl) [Pj t.kids[i].k]:=wR (Rep.mono A (fun k d=>(f.block k (j k d) (fun e=>by cases e;exact hnb d)).trans (l.block k (hF k d))) fun _ h=>h) (D.mono C);have S:w.grownBy r (some bw):=r4 (l.grw (some bw)) f;generalize W:H3 (zF c) t.kids[i]=T at*
 refine QJ ?_;refine dq (α:=Ltl) rfl rfl rfl rfl OS OS ?_;refine QT ?_;refine QL.load (α:=Int) (F:=F) (y:=t.kids[i].k) rfl rfl rfl (o kb g) o (by rw[Kd];exact E) rfl ?_;rw[show Iu Int [Pj t.kids[i].k]=Pj t.kids[i].k from rfl];skip;refine QL.call rfl rfl rfl (fun w' h=>Rt.mono (xz w' t.k i t.kids[i].k) (fun v w'' I=>⟨I.1,I.2▸Ext.refl _⟩)) ?_;refine QL.nil (fun M L=>?_);have p:w.grownBy M (some bw):=r4 S (L.grw (some bw));have n:=H.ext L;unfold wP;refine Pn ?_;apply CW.cond rfl<;>intro h
 ·rw[Ov h]
  refine P7 ?_;exact be rfl rfl ⟨rfl,n,p⟩
 ·rw[Ou (by rw[h];decide)]
  refine Qv ?_;refine d_ (a:=[40]) (b:=T) rfl rfl rfl rfl O0 ?_;refine d_ (a:=[40]++T) (b:=[41]) rfl rfl rfl rfl O1 ?_;refine Pr ?_;exact be rfl rfl ⟨rfl,n,p⟩
set_option maxHeartbeats 1000000 in
theorem yg:∀(m:Nat) (t:Ltl),t.nodes≤m→m≤1000→ShT wU t→cO t
 |0,t,hm,_,_=>by have:=t.nodes_pos;omega
 |m+1,.mk k n kids,hm,hm1,Y=>by
  intro w F bw ao cap no V c b hs hn hF hnb hb
  obtain⟨j,h0,h63,J⟩:=Fk Y;simp only[Ltl.nodes]at hm
  have C:∀i (hi:i<kids.length),kids[i].nodes≤m:=fun i hi=>by have:=Ltl.nodes_kid kids _ (Lb hi);omega
  have ihk:∀i (hi:i<kids.length),cO kids[i]:=fun i hi=>yg m kids[i] (C i hi) OS (J _ (Lb hi))
  have v:∀i (hi:i<kids.length),(H3 (zF c) kids[i]).length≤8000:=fun i hi=>by have:=H5 (zG c) kids[i];have:=C i hi;omega
  have hbl:=hb.lt;simp only[yS]at hs
  simp only[yR,yT,yS];refine dH Tryz.func135 Tryz.ntmps135 rfl rfl ?_;refine Pm ?_;refine dZ rfl rfl rfl fun s S M=>?_
  have r:∀k,F k→k<s.heap.size:=fun k j=>MQ (hF k j) M.size
  have I:Sl s F ao cap kids:=hs.mono (fun k j=>M.block k (hF k j)) fun _ h=>h
  have E:Sl s F no V c:=hn.mono (fun k j=>M.block k (hF k j)) fun _ h=>h
  have D:=hb.ext M;have p:w.grownBy s (some bw):=M.grw (some bw);have hl3:=S.lt;refine QH ?_;apply CW.cond rfl<;>intro h
  ·obtain rfl:k=1:=by simpa using h
   obtain rfl:kids=[]:=KD (by have:wU 1=0:=rfl;omega);refine Pl ?_;exact be rfl rfl ⟨rfl,by simpa[gW,gX]using D,p⟩
  have k1:¬k=1:=by simpa using h
  refine Qw ?_;apply CW.cond rfl<;>intro h
  ·obtain rfl:k=2:=by simpa using h
   obtain rfl:kids=[]:=KD (by have:wU 2=0:=rfl;omega);refine Pl ?_;exact be rfl rfl ⟨rfl,by simpa[gW,gX]using D,p⟩
  have k2:¬k=2:=by simpa using h
  refine Qw ?_;apply CW.cond rfl<;>intro h
  ·obtain rfl:k=3:=by simpa using h
   obtain rfl:kids=[]:=KD (by have:wU 3=0:=rfl;omega);refine QM ?_;refine QL.call rfl rfl rfl (fun w' h=>xZ w' ((E.mono (fun k j=>h.block k (r k j)) fun _ h=>h).lift fun k j=>MQ (r k j) h.size) n h0) ?_;refine QP ?_;refine QL.nil (fun B e2=>?_);have d:=D.ext e2;refine Qn ?_
   (refine eX rfl rfl (fun h=>?_) (fun h=>?_))
   ·refine QU ?_
    refine WL.st rfl rfl rfl d rfl rfl Pd (fun W l A=>?_);refine Pl ?_;refine be rfl rfl ⟨by simp[H3,wg],?_,r4 (r4 p (e2.grw _)) A⟩;rw[h];exact l
   ·refine QW ?_
    refine WL.st rfl rfl rfl d rfl rfl Pd (fun W l A=>?_);refine Pl ?_;refine be rfl rfl ⟨by simp[H3,wg],?_,r4 (r4 p (e2.grw _)) A⟩;rw[h,show(false||gW (zF c) (.mk 3 n []))=((HT (zF c n)).data.toList==(⟨#[]⟩:ByteArray).data.toList) by rw[HW];simp[gW,gX]];exact l
  have k3:¬k=3:=by simpa using h
  have u:∀K,wU K=1→k=K→∃x,kids=[x]:=fun K hK e=>Ln.1 (by rw[e]at j;omega)
  have q:∀i (hi:i<kids.length),_:=fun i hi=>xV (t:=.mk k n kids) (i:=i) hi (ihk i hi) (by have:=C i hi;show kids[i].nodes≤1000;omega) s F bw ao cap no V c b I E r hnb D
  simp only[yR,yT,yS]at q
  refine Qw ?_;apply CW.cond rfl<;>intro h
  ·have g:k=4:=by simpa using h
   obtain⟨x,rfl⟩:=u 4 rfl g;have o:=v 0 OW;have G:=wQ (h_ k ((0:Nat):Int) x.k) (H3 (zF c) x);simp only[K9]at o
   refine P0 ?_;refine WL.call rfl rfl rfl (q 0 OW) ?_;rintro _ B ⟨rfl,d,f⟩
   simp only[K9]at d⊢
   refine d_ (a:=[33]) rfl rfl rfl rfl O0 ?_;refine P4 ?_;subst g;exact be rfl rfl ⟨by simp[H3,H6,wg],by simpa[gW,gX]using d,r4 p f⟩
  refine Qw ?_;apply CW.cond rfl<;>intro h
  ·have g:k=7:=by simpa using h
   obtain⟨x,rfl⟩:=u 7 rfl g;have o:=v 0 OW;have G:=wQ (h_ k ((0:Nat):Int) x.k) (H3 (zF c) x);simp only[K9]at o
   refine P0 ?_;refine WL.call rfl rfl rfl (q 0 OW) ?_;rintro _ B ⟨rfl,d,f⟩
   simp only[K9]at d⊢
   refine d_ (a:=[88,32]) rfl rfl rfl rfl O0 ?_;refine P4 ?_;subst g;exact be rfl rfl ⟨by simp[H3,H6,wg],by simpa[gW,gX]using d,r4 p f⟩
  refine Qw ?_;apply CW.cond rfl<;>intro h
  ·have g:k=10:=by simpa using h
   obtain⟨x,rfl⟩:=u 10 rfl g;have o:=v 0 OW;have G:=wQ (h_ k ((0:Nat):Int) x.k) (H3 (zF c) x);simp only[K9]at o
   refine P0 ?_;refine WL.call rfl rfl rfl (q 0 OW) ?_;rintro _ B ⟨rfl,d,f⟩
   simp only[K9]at d⊢
   refine d_ (a:=[70,32]) rfl rfl rfl rfl O0 ?_;refine P4 ?_;subst g;exact be rfl rfl ⟨by simp[H3,H6,wg],by simpa[gW,gX]using d,r4 p f⟩
  refine Qw ?_;apply CW.cond rfl<;>intro h
  ·have g:k=11:=by simpa using h
   obtain⟨x,rfl⟩:=u 11 rfl g;have o:=v 0 OW;have G:=wQ (h_ k ((0:Nat):Int) x.k) (H3 (zF c) x);simp only[K9]at o
   refine P0 ?_;refine WL.call rfl rfl rfl (q 0 OW) ?_;rintro _ B ⟨rfl,d,f⟩
   simp only[K9]at d⊢
   refine d_ (a:=[71,32]) rfl rfl rfl rfl O0 ?_;refine P4 ?_;subst g;exact be rfl rfl ⟨by simp[H3,H6,wg],by simpa[gW,gX]using d,r4 p f⟩
  have Q:(k=5∨k=6∨k=8∨k=9)∧kids.length=2:=by
   rcases wX j with⟨_,e⟩|⟨_,e⟩|⟨M,e⟩
   ·omega
   ·simp only[Ob,Oa]at*;omega
   ·exact⟨e,M⟩
  obtain⟨L,hk2⟩:=Q;obtain⟨x,y,rfl⟩:∃x y,kids=[x,y]:=by
   match kids,hk2 with
   |[x,y],_=>exact⟨x,y,rfl⟩
  have o:=v 0 OW;have hly:=v 1 OW;simp only[K9,K8]at o hly
  have hkx:=wQ (h_ k ((0:Nat):Int) x.k) (H3 (zF c) x);have G:=wQ (h_ k ((1:Nat):Int) y.k) (H3 (zF c) y);obtain⟨ki,rfl,hki,Z⟩:∃i:Nat,k=(i:Int)∧i<10∧Ag [zJ,zJ,zJ,zJ,zJ,tV [38],tV [47],zJ,tV [85],tV [82]] i=some (tV (Fy k)):=by
   rcases L with rfl|rfl|rfl|rfl
   ·exact⟨5,rfl,by decide,rfl⟩
   ·exact⟨6,rfl,by decide,rfl⟩
   ·exact⟨8,rfl,by decide,rfl⟩
   ·exact⟨9,rfl,by decide,rfl⟩
  have hsl:(Fy (ki:Int)).length≤1:=by unfold Fy;(repeat' split)<;>decide
  generalize O:Fy (ki:Int)=sg at*
  refine Qz ?_;refine d6 (out:=[zJ,zJ,zJ,zJ,zJ,tV [38],tV [47],zJ,tV [85],tV [82]]) rfl rfl rfl rfl ?_;refine QV ?_;refine eL rfl rfl rfl rfl hki Z ?_;refine Qw ?_;have U:Ext s (drew s):=Ext.drew s;have R:=S.ext U;refine aF (fun z:World=>z.heap[w.heap.size]?=(drew s).heap[w.heap.size]?) [(0,true),(1,true),(4,true),(7,true),(8,true),(2,false),(3,true),(5,true),(6,true),(9,false),(10,true),(11,true)] mixed OT rfl ?_;have T:∀z:World,(fun z:World=>z.heap[w.heap.size]?=(drew s).heap[w.heap.size]?) z→Blk z w.heap.size 32 [Pj (ki:Int),Pj n,.slice ao 2 cap]:=fun z hz=>hz.trans R
  refine Q3 ?_;refine cj T rfl rfl rfl rfl rfl ?_;refine Q3 ?_;refine cj T rfl rfl rfl rfl rfl ?_;refine cu rfl (WL.call rfl rfl rfl (xV (t:=.mk (ki:Int) n [x,y]) (i:=0) (by simp[yS]) (ihk 0 OW) (by have:=C 0 OW;show x.nodes≤1000;simp only[K9]at this;omega) (drew s) F bw ao cap no V c b (I.mono (fun k j=>U.block k (r k j)) fun _ h=>h) (E.mono (fun k j=>U.block k (r k j)) fun _ h=>h) r hnb (D.ext U)) ?_);rintro _ B ⟨rfl,d,f⟩
  have N:B.heap[w.heap.size]?=(drew s).heap[w.heap.size]?:=f.block _ hl3 Pa;have hF2:∀k,F k→k<B.heap.size:=fun k j=>MQ (r k j) f.size
  have P:s.grownBy B (some bw):=r4 (U.grw _) f;have H:∀k,F k→B.heap[k]?=s.heap[k]?:=fun k j=>P.block k (r k j) (fun e=>by cases e;exact hnb j)
  refine WL.nil (a_ N ?_);simp only[yR,yS,K9]at d⊢
  refine bW (b:=[32]) rfl rfl rfl rfl rfl O0 ?_;refine bW (b:=sg) rfl rfl rfl rfl rfl O1 ?_;refine bW (b:=[32]) rfl rfl rfl rfl rfl O1 ?_;refine cu rfl (WL.call rfl rfl rfl (xV (t:=.mk (ki:Int) n [x,y]) (i:=1) (by simp[yS]) (ihk 1 OW) (by have:=C 1 OW;show y.nodes≤1000;simp only[K8,K9]at this;omega) B F bw ao cap no V c _ (I.mono H fun _ h=>h) (E.mono H fun _ h=>h) hF2 hnb d) ?_);rintro _ W ⟨rfl,l,A⟩
  have X:W.heap[w.heap.size]?=(drew s).heap[w.heap.size]?:=(A.block _ (by have:=f.size;have:s.heap.size≤B.heap.size:=this;omega) Pa).trans N;refine WL.nil (a_ X ?_);simp only[yR,yS,K8,K9]at l⊢
  refine bW rfl rfl rfl rfl rfl O1 ?_;refine Rf ?_;refine Pz ?_;refine be rfl rfl ⟨by rw[H4 L,O];rfl,?_,r4 (r4 p P) A⟩;rw[show(b||gW (zF c) (.mk (ki:Int) n [x,y]))=(b||gW (zF c) x||gW (zF c) y) by
   have:((ki:Int)==3)=false:=by rcases L with e|e|e|e<;>rw[e]<;>rfl
   simp[gW,gX,this,Bool.or_assoc]]
  exact l
theorem yf(w0:World){ao no:Option Addr}{cap i:Nat}{t:Ltl}{a:List ByteArray}(p:Sl w0 (c9 w0) ao cap t.kids)(hn:Sl w0 (c9 w0) no i a):
  Rt Tryz.prog 56 [yj t.k t.n ao t.kids.length cap,.slice no a.length i].toArray w0 fun v w'=>v=.tuple ⟨[tV (Cj t a).1,Pj (Cj t a).2]⟩∧Ext w0 w':=by
 refine dH Tryz.func56 Tryz.ntmps56 rfl rfl ?_;unfold Cj;refine Pm ?_;refine dZ rfl rfl rfl fun y c u=>?_
 refine Pw ?_;refine WL.call rfl rfl rfl (yh y (p.up u) O8) ?_;rintro _ o ⟨rfl,s⟩
 have c:=c.ext s;have f:=u.trans s;refine Qw ?_;apply CW.cond rfl<;>intro h
 ·rw[Ov (by simpa using h)]
  refine P7 ?_;exact bf rfl rfl rfl ⟨rfl,f⟩
 have q:(jD t 1 0).1=0:=by simpa using h
 rw[Ou (by simpa using h)];obtain⟨j,z⟩:=jJ t 1 0 q;have A:=(jI t 1 0 q).2;refine Qv ?_;refine WL.build rfl rfl rfl rfl ?_;refine dZ rfl rfl rfl fun x d r=>?_
 have c:=c.ext r;have b:=f.trans r;refine Pw ?_;refine WL.call rfl rfl rfl (yg t.nodes t Pf OS j x (c9 w0) o.heap.size ao cap no i a false (p.at b) (hn.at b) (fun k l=>MQ l b.size) (fun l=>by have h1:o.heap.size<w0.heap.size:=l;have:=f.size;omega) d) ?_;rintro _ w ⟨rfl,n,m⟩
 have e:Ext w0 w:=b.grown m b.size (fun g B=>by cases B;exact f.size);rw[JR]at n
 refine Qn ?_;apply CW.cond rfl<;>intro h
 ·rw[Ov h]
  refine P7 ?_;exact bf rfl rfl rfl ⟨rfl,e⟩
 ·rw[Ou (by rw[h];decide)]
  refine Qd ?_;exact bf rfl rfl rfl ⟨rfl,e⟩
end Go.Proofs.YtodmkmobdmcfbaaGreat
