import Derived.Test.YtfpjecjadlgdcaaGreatDoorPtReportTells3
set_option linter.unusedVariables false
set_option linter.unusedSimpArgs false
set_option linter.defProp false
namespace Go.Proofs.YtfpjecjadlgdcaaGreatDoor
set_option maxHeartbeats 4000000
variable{P:Program}{α:Type}{B a K E:Nat}{C D:Option Addr}{m:List Int}{F:Nat→Prop}{w:World}{v o J:Value}{g:List (List Int)}{x:Int}{l:List Bool}{r:List Value}{t:TypeId}{Q:Exit→Act→World→Prop}{e:Nat→Nat→Prop}{p:Nat→Nat}{s:List Nat}{L:List Oper}{c:Value→World→Prop}{y:Array Bool}{S:World→Prop}{b:Value→(Nat→Nat)→World→Prop}{j:Array Edge}{u:List (Nat×Bool)}{A:List (Nat→Prop)}{G:String}
def xW{ps:List dw}{p:dw}(h:p∈ps):ps.idxOf p<ps.length:=(xS h).1
structure RunE(fit:dw->Bool)(next:dw->List dw)(start ps:List dw)(fr:List Int)(nx:List (List Int)):Prop where
 nd:ps.Nodup
 ok:∀p∈ps,fit p=true
 sm:∀p∈start,fit p=true->p∈ps
 sn:∀i,i∈fr↔∃p∈start,fit p=true/\i=(ps.idxOf p:Int)
 le:nx.length<=ps.length
 nm:∀n,n<nx.length->∀q∈next (ps.getD n (0,0)),fit q=true->q∈ps
 nn:∀n,n<nx.length->∀i,i∈nx.getD n []↔∃q∈next (ps.getD n (0,0)),fit q=true/\i=(ps.idxOf q:Int)
 rc:∀i:Nat,i<ps.length->(i:Int)∈fr\/∃m,m<i/\m<nx.length/\(i:Int)∈nx.getD m []
section
variable {fit:dw->Bool}{next:dw->List dw}{start ps:List dw}{fr:List Int}{nx:List (List Int)}
theorem RunE.init:RunE fit next start (EI fit start [] []).1 (EI fit start [] []).2 []:=by
 have k:=EJ (fit:=fit) start [] [] List.Pairwise.nil;have a:∀p∈(EI fit start [] []).1,p∈start/\fit p=true:=fun p b=>(k.new p b).resolve_left (fun h=>by cases h)
 refine⟨k.nd,fun p b=>(a p b).2,k.all,fun i=>?_,QK _,fun n hn=>absurd hn SQ,fun n hn=>absurd hn SQ,fun i hi=>.inl ?_⟩
 ·rw[k.num]
  exact⟨fun h=>h.resolve_left (fun h=>by cases h),.inr⟩
 ·rw[k.num]
  have c:=OG hi;exact .inr ⟨_,(a _ c).1,(a _ c).2,by rw[k.nd.idxOf_getElem i hi]⟩
theorem RunE.step(h:RunE fit next start ps fr nx)(hn:nx.length<ps.length):
  RunE fit next start (EI fit (next (ps.getD nx.length (0,0))) ps []).1 fr (nx++[(EI fit (next (ps.getD nx.length (0,0))) ps []).2]):=by
 generalize s:next (ps.getD nx.length (0,0))=r
 have k:=EJ (fit:=fit) r ps [] h.nd;generalize EI fit r ps []=q at*
 obtain⟨t,o⟩:=k.app;have j:∀p∈ps,p∈q.1:=fun p b=>by rw[o];exact Pi _ b
 have a:∀p∈ps,q.1.idxOf p=ps.idxOf p:=fun p b=>by rw[o];exact xV b
 have u:q.1.length=ps.length+t.length:=by rw[o,OT]
 have c:∀n,n<ps.length->q.1.getD n (0,0)=ps.getD n (0,0):=fun n hn=>by rw[o];exact sY hn
 have w:=h.le;refine⟨k.nd,fun p b=>(k.new p b).elim (h.ok p) (·.2),fun p b hf=>j p (h.sm p b hf),fun i=>?_,by rw[OT];simp;omega,fun n d x l hf=>?_,fun n d i=>?_,fun i hi=>?_⟩
 ·rw[h.sn]
  constructor
  ·rintro⟨p,h1,h2,h3⟩;exact⟨p,h1,h2,by rw[a p (h.sm p h1 h2)];exact h3⟩
  ·rintro⟨p,h1,h2,h3⟩;exact⟨p,h1,h2,by rw[<-a p (h.sm p h1 h2)];exact h3⟩
 ·simp at d
  rw[c n SM]at l
  by_cases e:n<nx.length
  ·exact j x (h.nm n e x l hf)
  ·obtain rfl:n=nx.length:=by omega
   rw[s]at l
   exact k.all x l hf
 ·simp at d
  rw[c n SM];by_cases e:n<nx.length
  ·rw[sY e,h.nn n e]
   constructor
   ·rintro⟨p,h1,h2,h3⟩;exact⟨p,h1,h2,by rw[a p (h.nm n e p h1 h2)];exact h3⟩
   ·rintro⟨p,h1,h2,h3⟩;exact⟨p,h1,h2,by rw[<-a p (h.nm n e p h1 h2)];exact h3⟩
  ·obtain rfl:n=nx.length:=by omega
   rw[sX,s,k.num];exact⟨fun h=>h.resolve_left (fun h=>by cases h),.inr⟩
 ·by_cases e:i<ps.length
  ·rcases h.rc i e with h1|⟨m,h1,h2,h3⟩
   ·exact .inl h1
   ·exact .inr ⟨m,h1,by simp;omega,by rw[sY h2];exact h3⟩
  ·refine .inr ⟨nx.length,by omega,by simp,?_⟩
   rw[sX,k.num];have v:=OG hi;have f:q.1[i]∉ps:=fun b=>by
    have h1:=a _ b;rw[k.nd.idxOf_getElem i hi]at h1
    have:=xW b;omega
   obtain⟨h1,h2⟩:=(k.new _ v).resolve_left f;exact .inr ⟨_,h1,h2,by rw[k.nd.idxOf_getElem i hi]⟩
variable(h:RunE fit next start ps fr nx)(hl:nx.length=ps.length)
include h hl
theorem RunE.okG:okG nx:=fun l a x b=>by
 obtain⟨n,hn,rfl⟩:=Pq.1 a;rw[<-show nx.getD n []=nx[n] by rw[Oi,On hn];rfl]at b
 obtain⟨q,h1,h2,rfl⟩:=(h.nn n hn x).1 b;have:=xW (h.nm n hn q h1 h2);omega
theorem RunE.okF:CQ nx.length fr:=fun x a=>by
 obtain⟨q,h1,h2,rfl⟩:=(h.sn x).1 a;have:=xW (h.sm q h1 h2);omega
theorem RunE.reach:∀i:Nat,i<nx.length->∃a:Nat,(a:Int)∈fr/\Rc (Eg nx) a i:=fun i=>by
 induction i using Nat.strongRecOn with
 |ind i b=>
  intro hi
  rcases h.rc i SM with h1|⟨m,h1,h2,h3⟩
  ·exact⟨i,h1,Rc.refl i⟩
  ·obtain⟨a,d,c⟩:=b m h1 h2
   exact⟨a,d,c.trans (Rc.one h3)⟩
end
structure PWay(fit:dw->Bool)(next:dw->List dw)(start:List dw)(Ss:List (dw->Bool))(r:Nat->dw):Prop where
 first:r 0∈start
 fits:∀i,fit (r i)=true
 step:∀i,r (i+1)∈next (r i)
 fair:∀S∈Ss,∀i,∃j,i<=j/\S (r j)=true
def He(Ss:List (dw->Bool))(ps:List dw):List (List Bool):=Ss.map fun S=>ps.map S
def bY(g:bZ)(part:List Int)(sets:List (List Bool))(c:Int):Prop:=
 (∃u,u<g.length/\part.getD u 0=c/\∃to∈g.getD u [],part.getD to.toNat 0=c)/\∀S∈sets,∃x,x<g.length/\S.getD x false=true/\part.getD x 0=c
abbrev Hb(sets:List (List Bool)):List (Nat->Prop):=sets.map fun S x=>S.getD x false=true
def tM{g:bZ}{part:List Int}{sets:List (List Bool)}(b:okG g)(a:PartsOK g part){i:Nat}(hi:i<g.length):aO (Eg g) (Hb sets) i↔bY g part sets (part.getD i 0):=by
 rw[mq b a hi];unfold bY;refine RX fun _=>⟨fun h S hS=>?_,fun h P hP=>?_⟩
 ·obtain⟨x,h1,h2,h3⟩:=h _ (Pr.2 ⟨S,hS,rfl⟩)
  exact⟨x,h1,h2,h3⟩
 ·obtain⟨S,hS,rfl⟩:=Pr.1 hP
  obtain⟨x,h1,h2,h3⟩:=h S hS;exact⟨x,h1,h2,h3⟩
def Hf{S:dw->Bool}{ps:List dw}{x:Nat}(a:x<ps.length):(ps.map S).getD x false=S (ps.getD x (0,0)):=by
 rw[Oi,Ot,On a,Oi,On a];rfl
section
variable {fit:dw->Bool}{next:dw->List dw}{start ps:List dw}{fr:List Int}{nx:List (List Int)}{Ss:List (dw->Bool)}{part:List Int}
theorem EM(h:RunE fit next start ps fr nx)(hl:nx.length=ps.length){r:Nat->dw}(a:PWay fit next start Ss r):∀i,r i∈ps
 |0=>h.sm _ a.first (a.fits 0)
 |i+1=>by
  have h1:=EM h hl a i;have h2:=xS h1;refine h.nm (ps.idxOf (r i)) SM _ ?_ (a.fits (i+1));rw[h2.2];exact a.step i
theorem EL(h:RunE fit next start ps fr nx)(hl:nx.length=ps.length)(k:PartsOK nx part):
  (∃r,PWay fit next start Ss r)↔∃c:Int,0<=c/\c<nx.length/\bY nx part (He Ss ps) c:=by
 have w:=h.okG hl;constructor
 ·rintro⟨r,e⟩
  have d:=EM h hl e;have A:Way8 (Eg nx) (Hb (He Ss ps)) (fun i=>ps.idxOf (r i)):=by
   refine⟨fun i=>?_,fun P hP i=>?_⟩
   ·have h2:=xS (d i)
    refine(h.nn (ps.idxOf (r i)) SM _).2 ⟨r (i+1),?_,e.fits _,rfl⟩;rw[h2.2];exact e.step i
   ·obtain⟨L,z,rfl⟩:=Pr.1 hP
    obtain⟨S,hS,rfl⟩:=Pr.1 z;obtain⟨j,h1,h2⟩:=e.fair S hS i;have h3:=xS (d j);refine⟨j,h1,?_⟩;show(ps.map S).getD (ps.idxOf (r j)) false=true;rw[Hf h3.1,h3.2];exact h2
  obtain⟨v,_,m,i,hi⟩:=Lo (N:=ps.length) (fun i=>xW (d i)) A;have o:v<nx.length:=by have:=xW (d i);omega
  exact⟨part.getD v 0,k.ge v (by rw[k.len];exact o),k.lt v (by rw[k.len];exact o),(tM w k o).1 m⟩
 ·rintro⟨c,_,_,m⟩
  obtain⟨u,x,s,_⟩:=m.1;rw[<-s]at m
  have f:=(tM w k x).2 m;obtain⟨a,y,t⟩:=h.reach hl u x;obtain⟨r,l,e⟩:=mr t f;have b:∀i,r i<nx.length:=fun i=>by
   cases i with
   |zero=>rw[l];have:=h.okF hl _ y;omega
   |succ i=>exact(e.1 i).lt w
  refine⟨fun i=>ps.getD (r i) (0,0),?_,fun i=>h.ok _ (sZ (by have:=b i;omega)),fun i=>?_,fun S hS i=>?_⟩
  ·rw[l]
   obtain⟨p,h1,h2,h3⟩:=(h.sn _).1 y;have h4:=xS (h.sm p h1 h2);rw[show a=ps.idxOf p by omega,h4.2];exact h1
  ·obtain⟨q,h1,h2,h3⟩:=(h.nn (r i) (b i) _).1 (e.1 i)
   have h4:=xS (h.nm (r i) (b i) q h1 h2);rw[show r (i+1)=ps.idxOf q by omega,h4.2];exact h1
  ·obtain⟨j,h1,h2⟩:=e.2 _ (Pr.2 ⟨ps.map S,Pr.2 ⟨S,hS,rfl⟩,rfl⟩) i
   refine⟨j,h1,?_⟩;rw[Hf (by have:=b j;omega)]at h2
   exact h2
end
def DI{g:bZ}{part:List Int}(d:okG g)(m:PartsOK g part){C:List Int}{c:Int}(t:∀x∈C,∀k∈g.getD x.toNat [],part.getD k.toNat 0=c->k∈C)
  {u v:Nat} (e:u<g.length) (q:v<g.length) (pu:part.getD u 0=c) (pv:part.getD v 0=c) (h:(u:Int)∈C):(v:Int)∈C:=by
 have s:∀u v,Eg g u v->v<g.length:=fun u v h=>h.lt d
 obtain⟨h1,h2⟩:=(m.same u v e q).1 (pu.trans pv.symm);rw[EO d]at h1 h2
 obtain⟨p,n,a⟩:=h1;have b:∀i,i<=n->Rc (Eg g) u (p i)/\Rc (Eg g) (p i) v:=fun i hi=>
  ⟨⟨p,i,a.first,rfl,fun j r=>a.step j SM⟩,⟨fun j=>p (i+j),n -i,by simp,by rw[show i+(n -i)=n by omega];exact a.last,fun j r=>a.step (i+j) SM⟩⟩
 have l:∀i,i<=n->p i<g.length:=fun i hi=>Rc.lt s e (b i hi).1
 have f:∀i,i<=n->part.getD (p i) 0=c:=fun i hi=>by
  rw[<-pu];refine((m.same (p i) u (l i hi) e).2 ?_);rw[EO d,EO d];exact⟨(b i hi).2.trans h2,(b i hi).1⟩
 have:∀i,i<=n->((p i:Nat):Int)∈C:=fun i=>by
  induction i with
  |zero=>intro _;rw[a.first];exact h
  |succ i o=>
   intro hi
   refine t _ (o SM) _ ?_ (by rw[Nt];exact f _ hi);rw[Nt];exact a.step i SM
 have h3:=this n Ta;rwa[a.last]at h3
def gC{part:List Int}{c:Int}(a:0<=c){k:Nat}:gB part c k=true↔part.getD k 0=c:=by
 unfold gB;simp;omega
def LE{g:bZ}{part:List Int}(l:okG g)(i:PartsOK g part){c:Int}(m:0<=c){fr:List Int}{to:Nat->Bool}{u x:Nat}(e:u<g.length)(d:x<g.length)(pu:part.getD u 0=c)(px:part.getD x 0=c)(hf:(u:Int)∈fr)(f:to x=true):
  ¬gp g fr to (gB part c):=by
 rintro⟨C,h1,h2⟩
 have:=DI l i (C:=C) (c:=c) (fun y b k j a=>(h2 y b).2 k j ((gC m).2 a)) e d pu px (h1 _ hf);have h3:=(h2 _ this).1;rw[Nt,f]at h3
 cases h3
def LD{g:bZ}{part fr:List Int}{to:Nat->Bool}{x:Nat}(f:(a:Int)∈fr)(e:Rc (Eg g) a x)(d:to x=true):¬gp g fr to (gB part (-1)):=by
 rintro⟨C,h1,h2⟩
 obtain⟨p,n,b⟩:=e;have:∀i,i<=n->((p i:Nat):Int)∈C:=fun i=>by
  induction i with
  |zero=>intro _;rw[b.first];exact h1 _ f
  |succ i c=>
   intro hi
   exact(h2 _ (c SM)).2 _ (by rw[Nt];exact b.step i SM) (by unfold gB;simp)
 have h3:=this n Ta;rw[b.last]at h3
 have h4:=(h2 _ h3).1;rw[Nt,d]at h4
 cases h4
structure RoI(g:bZ)(part:List Int)(n:Nat)(seen:List (List Bool))(out:List Int):Prop where
 ne:0<out.length
 len:out.length<=1+seen.length*g.length
 rg:CQ g.length out
 pt:∀x∈out,part.getD x.toNat 0=part.getD n 0
 st:out.getD 0 0=(n:Int)
 ed:∀i,i+1<out.length->out.getD (i+1) 0∈g.getD (out.getD i 0).toNat []
 all:∀S∈seen,∃x∈out,S.getD x.toNat false=true
structure RoOK(g:bZ)(n:Nat)(sets:List (List Bool))(out:List Int):Prop where
 ne:0<out.length
 len:out.length<=1+(sets.length+1)*g.length
 rg:CQ g.length out
 st:out.getD 0 0=(n:Int)
 ed:∀i,i+1<out.length->out.getD (i+1) 0∈g.getD (out.getD i 0).toNat []
 cl:(n:Int)∈g.getD (out.getD (out.length -1) 0).toNat []
 all:∀S∈sets,∃x∈out,S.getD x.toNat false=true
section
variable {g:bZ}{part:List Int}{n:Nat}{seen:List (List Bool)}{out:List Int}
theorem RoI.start(hn:n<g.length):RoI g part n [] [(n:Int)]:=
 ⟨by simp,by simp,fun x a=>by rw[Py]at a;subst a;omega,fun x a=>by rw[Py]at a;subst a;simp,rfl,fun i hi=>by simp at hi,fun S hS=>by cases hS⟩
theorem RoI.skip(h:RoI g part n seen out){S:List Bool}(hS:∃x∈out,S.getD x.toNat false=true):RoI g part n (seen++[S]) out:=
 ⟨h.ne,by have:=h.len;rw[OT,P5];omega,h.rg,h.pt,h.st,h.ed,fun S' a=>by
  rcases Ph.1 a with h1|h1
  ·exact h.all S' h1
  ·rw[Py]at h1;subst h1;exact hS⟩
theorem tu{l k:List Int}{i:Nat}(h:i<l.length):(l++k).getD i 0=l.getD i 0:=sY h
theorem tw{l k:List Int}{i:Nat}(h:l.length<=i):(l++k).getD i 0=k.getD (i -l.length) 0:=by
 rw[Oi,Ok h,<-Oi]
theorem tx{l:List Int}{i:Nat}:(l.drop 1).getD i 0=l.getD (i+1) 0:=by
 rw[Oi,Om,<-Oi,P4]
theorem Mw{fr:List Int}{to:Nat->Bool}{c:Int}{l:List Int}(b:0<=c)(h:WyOK g fr to (gB part c) l)(hf:∀x∈fr,part.getD x.toNat 0=c):∀x∈l,part.getD x.toNat 0=c:=fun x a=>by
 obtain⟨i,hi,rfl⟩:=Pq.1 a;have e:l[i]=l.getD i 0:=by rw[Oi,On hi];rfl
 rw[e];cases i with
 |zero=>exact hf _ h.st
 |succ i=>exact(gC b).1 (h.ed i hi).2
theorem RoI.go(h:RoI g part n seen out)(q:0<=part.getD n 0){S:List Bool}{l:List Int}(hl:WyOK g [out.getD (out.length -1) 0] (fun k=>S.getD k false) (gB part (part.getD n 0)) l):RoI g part n (seen++[S]) (out++l.drop 1):=by
 have d:=h.ne;have p:=hl.ne;have b:l.getD 0 0=out.getD (out.length -1) 0:=by simpa using hl.st
 have c:out.getD (out.length -1) 0∈out:=by rw[Oi,On SM];exact OG _
 have f:=Mw q hl (fun x a=>by rw[Py]at a;subst a;exact h.pt _ c);have j:(l.drop 1).length=l.length -1:=OW;refine⟨by rw[OT];omega,?_,fun x a=>?_,fun x a=>?_,by rw[tu d];exact h.st,fun i hi=>?_,fun S' m=>?_⟩
 ·have:=h.len;have:=hl.len
  rw[OT,OT,OW,P5];simp;omega
 ·rcases Ph.1 a with a|a
  ·exact h.rg x a
  ·exact hl.rg x (Pv a)
 ·rcases Ph.1 a with a|a
  ·exact h.pt x a
  ·exact f x (Pv a)
 ·rw[OT,j]at hi
  by_cases e:i+1<out.length
  ·rw[tu e,tu SM];exact h.ed i e
  ·rw[tw (i:=i+1) SM,tx]
   by_cases r:i<out.length
   ·obtain rfl:i=out.length -1:=by omega
    rw[tu r,<-b,show out.length -1+1 -out.length+1=0+1 by omega];exact(hl.ed 0 SM).1
   ·rw[tw (i:=i) SM,tx,show i+1 -out.length+1=(i -out.length+1)+1 by omega]
    exact(hl.ed _ SM).1
 ·rcases Ph.1 m with h1|h1
  ·obtain⟨x,a,o⟩:=h.all S' h1
   exact⟨x,Pi _ a,o⟩
  ·rw[Py]at h1;subst h1
   by_cases e:l.length=1
   ·refine⟨_,Pi _ c,?_⟩
    have:=hl.en;rw[e]at this
    rw[<-b];exact this
   ·refine⟨l.getD (l.length -1) 0,Pj _ ?_,hl.en⟩
    rw[Pq];refine⟨l.length -2,by omega,?_⟩;rw[OE,Oi,On SM];simp only[Option.getD_some]
    congr 1
    omega
theorem RoI.close(h:RoI g part n seen out){fr:List Int}{al:Nat->Bool}{l:List Int}(hf:∀x∈fr,x∈g.getD (out.getD (out.length -1) 0).toNat [])(hl:WyOK g fr (fun k=>decide (k=n)) al l):RoOK g n seen (out++l.take (l.length -1)):=by
 have j:=h.ne;have o:=hl.ne;have d:=hf _ hl.st;have b:(l.take (l.length -1)).length=l.length -1:=by rw[O9];omega
 have c:∀i,i<l.length -1->(l.take (l.length -1)).getD i 0=l.getD i 0:=fun i hi=>by
  rw[Oi,Oy hi,<-Oi]
 have f:l.getD (l.length -1) 0=(n:Int):=by
  have h1:=hl.en;have h2:0<=l.getD (l.length -1) 0:=by
   rw[Oi,On SM];exact(hl.rg _ (OG SM)).1
  simp only[R_]at h1
  omega
 refine⟨by rw[OT];omega,?_,fun x a=>?_,by rw[tu j];exact h.st,fun i hi=>?_,?_,fun S hS=>?_⟩
 ·have:=h.len;have:=hl.len
  rw[OT,b,P5];omega
 ·rcases Ph.1 a with a|a
  ·exact h.rg x a
  ·exact hl.rg x (Pw a)
 ·rw[OT,b]at hi
  by_cases e:i+1<out.length
  ·rw[tu e,tu SM];exact h.ed i e
  ·rw[tw (i:=i+1) SM,c _ SM]
   by_cases p:i<out.length
   ·obtain rfl:i=out.length -1:=by omega
    rw[tu p,show out.length -1+1 -out.length=0 by omega];exact d
   ·rw[tw (i:=i) SM,c _ SM,show i+1 -out.length=(i -out.length)+1 by omega]
    exact(hl.ed _ SM).1
 ·rw[OT,b]
  by_cases e:l.length=1
  ·rw[tu SM,show out.length+(l.length -1) -1=out.length -1 by omega]
   rw[<-f,e];exact d
  ·rw[tw SM,c _ SM,show out.length+(l.length -1) -1 -out.length=l.length -2 by omega,<-f]
   have:=(hl.ed (l.length -2) SM).1;rwa[show l.length -2+1=l.length -1 by omega]at this
 ·obtain⟨x,a,m⟩:=h.all S hS
  exact⟨x,Pi _ a,m⟩
end
open Go.RowKit

def kT(n:Nat)(l:List Int):Bool:=decide (l.length=0)||Cx n l
def lq(st:List Int)(nx:List (List Int))(k:Nat)(fr:List (List Int)):Int:=
 if nx.length>600\/fr.length>80 then 2 else if k≠nx.length\/Cx nx.length st=true then 1 else if nx.any (kT nx.length)=true then 1 else if fr.any (Cx nx.length)=true then 1 else 0
def lr{st:List Int}{nx:List (List Int)}{k:Nat}{fr:List (List Int)}(h:lq st nx k fr=0):nx.length<=600/\fr.length<=80/\k=nx.length/\CQ nx.length st/\(∀l∈nx,0<l.length/\CQ nx.length l)/\∀l∈fr,CQ nx.length l:=by
 unfold lq at h
 split at h
 ·cases h
 split at h
 ·cases h
 split at h
 ·cases h
 split at h
 ·cases h
 rename_i h1 h2 h3 h4;refine⟨by omega,by omega,?_,?_,?_,?_⟩
 ·by_cases e:k=nx.length
  ·exact e
  ·exact absurd (.inl e) h2
 ·rw[<-oddB_false]
  cases e:Cx nx.length st
  ·rfl
  ·exact absurd (.inr e) h2
 ·intro l a
  have h3:nx.any (kT nx.length)=false:=by simpa using h3
  rw[ND]at h3
  have:=h3 l a;simp only[kT,Na,R_,So,M6]at this
  exact⟨by omega,oddB_false.1 this.2⟩
 ·intro l a
  have h4:fr.any (Cx nx.length)=false:=by simpa using h4
  rw[ND]at h4
  exact oddB_false.1 (by simpa using h4 l a)
def JR(al l:List Int)(i:Nat):Int:=if i+1<al.length then al.getD (i+1) 0 else l.getD 0 0
def Iq(nx:List (List Int))(al l:List Int)(i:Nat):Bool:=(nx.getD (al.getD i 0).toNat []).contains (JR al l i)
def tL(st:List Int)(nx fr:List (List Int))(al l:List Int):Bool:=
 st.contains (al.getD 0 0)&&(List.range al.length).all (Iq nx al l)&&fr.all (fun f=>f.any (fun x=>l.contains x))
def yG{n:Nat}{l:List Int}(h:CQ n l):(l.map Int.toNat).map Int.ofNat=l:=by
 rw[Pe]
 conv=>rhs;rw[<-List.map_id l]
 refine Pc fun x a=>?_
 have:=h x a;show Int.ofNat x.toNat=x;have h2:(x.toNat:Int)=x:=Nu SM;exact h2
def te{l:List Nat}{i:Nat}(h:i<l.length):(l.map Int.ofNat).getD i 0=((l.getD i 0:Nat):Int):=by
 rw[Oi,Ot,On h,Oi,On h];rfl
def gO{l:List Nat}{i:Nat}(h:i<(s++l).length):(((s++l).map Int.ofNat).getD i 0)=(Af s l i:Int):=by
 rw[te h];unfold Af;rw[OT]at h
 by_cases h1:i<s.length
 ·rw[Sj h1,Oi,Oj h1,<-Oi]
 ·rw[Si h1,Oi,Ok SM,<-Oi,Qq SM]
def ow(nx:List (List Int))(s l:List Nat)(i:Nat):Bool:=(nx.getD (Af s l i) []).contains ((Af s l (i+1):Nat):Int)
def Ir{nx:List (List Int)}{l:List Nat}(a:0<l.length){i:Nat}(h:i<(s++l).length):Iq nx ((s++l).map Int.ofNat) (l.map Int.ofNat) i=ow nx s l i:=by
 unfold Iq ow;have b:JR ((s++l).map Int.ofNat) (l.map Int.ofNat) i=((Af s l (i+1):Nat):Int):=by
  unfold JR;rw[O1];by_cases h1:i+1<(s++l).length
  ·rw[Sj h1,gO h1]
  ·rw[Si h1,te a]
   have e:i+1=s.length+l.length:=by rw[OT]at h h1;omega
   rw[e];unfold Af;rw[Si SM,P8,Nat.mod_self]
 rw[b,gO h];rfl
def oH{nx:List (List Int)}{l:List Nat}(b:0<l.length):(List.range ((s++l).map Int.ofNat).length).all (Iq nx ((s++l).map Int.ofNat) (l.map Int.ofNat))=true↔∀i,ow nx s l i=true:=by
 rw[NB,O1];constructor
 ·intro h i
  have c:=Qr (i -s.length) b;have key:∀j,j<(s++l).length->ow nx s l j=true:=fun j a=>by rw[<-Ir b a];exact h j (Px.2 a)
  rw[OT]at key
  by_cases h1:i<s.length
  ·exact key i SM
  ·have a:=key (s.length+(i -s.length) % l.length) SM
   have one:∀k,s.length<=k->Af s l k=l.getD ((k -s.length) % l.length) 0:=fun k f=>by unfold Af;rw[Si SM]
   unfold ow at a⊢
   rw[one _ SM,one _ SM]at a⊢
   have e:(s.length+(i -s.length) % l.length -s.length) % l.length=(i -s.length) % l.length:=by rw[P8,Nat.mod_mod]
   have d:(s.length+(i -s.length) % l.length+1 -s.length) % l.length=(i+1 -s.length) % l.length:=by
    have:s.length+(i -s.length) % l.length+1 -s.length=(i -s.length) % l.length+1:=by omega
    rw[this];have:i+1 -s.length=(i -s.length)+1:=by omega
    rw[this,Nat.mod_add_mod]
   rw[e,d]at a
   exact a
 ·intro h i hi
  rw[Ir b (Px.1 hi)];exact h i
def zY(lb:List Nat)(l:List Int):List Nat:=l.map fun x=>lb.getD x.toNat 0
def tT{α:Type}(N:Nat)(full:Nat->List α)(x0:Nat)(part:List α):List (List α):=(List.range N).map fun x=>if x<x0 then full x else if x=x0 then part else []
section
variable {α:Type}{N:Nat}{full:Nat->List α}{x0:Nat}{part:List α}
theorem tY:(tT N full x0 part).length=N:=by simp[tT]
theorem t7:tT N full 0 []=List.replicate N []:=by
 unfold tT;refine N4 SQ fun i h1 h2=>?_
 simp
theorem tX(h:x0<N):(tT N full x0 part)[x0]'(by rw[tY];exact h)=part:=by simp[tT]
theorem t6{part':List α}(h:x0<N):(tT N full x0 part).set x0 part'=tT N full x0 part':=by
 refine N4 (by simp[tY]) fun i h1 h2=>?_
 rw[OJ];by_cases e:x0=i
 ·subst e;rw[Sj rfl,tX h]
 ·rw[Si e]
  simp only[tT,OF,OH];split
  ·rfl
  ·rw[Si (QN e),Si (QN e)]
theorem tZ:tT N full x0 (full x0)=tT N full (x0+1) []:=by
 unfold tT;refine N4 SQ fun i h1 h2=>?_
 simp only[OF,OH];by_cases h:i<x0
 ·rw[Sj h,Sj SM]
 ·rw[Si h]
  by_cases e:i=x0
  ·subst e;rw[Sj rfl,Sj SM]
  ·rw[Si e,Si SM]
   split<;>rfl
theorem tU:tT N full N []=(List.range N).map full:=by
 unfold tT;refine N4 SQ fun i h1 h2=>?_
 simp only[OF,OH];rw[Sj (by simpa using h1)]
end
def Bf(n:Nat)(l:List Int):List Bool:=(List.range n).map fun i:Nat=>decide ((i:Int)∈l)
def Bh{n:Nat}{l:List Int}:(Bf n l).length=n:=by simp[Bf]
def Bj{n:Nat}:Bf n []=List.replicate n false:=by
 refine N4 (by simp[Bf]) fun i h1 h2=>?_
 simp[Bf]
def Bg{n:Nat}{l:List Int}{i:Nat}(h:i<n):(Bf n l)[i]'(by rw[Bh];exact h)=decide ((i:Int)∈l):=by simp[Bf]
def Bi{n:Nat}{l:List Int}{i k:Nat}(h:i<l.length)(a:l[i]=(k:Int)):(Bf n (l.take i)).set k true=Bf n (l.take (i+1)):=by
 refine N4 (by simp[Bf]) fun j h1 h2=>?_
 rw[OJ];have b:j<n:=by rw[Bh]at h2;exact h2
 rw[Bg b,Bg b,<-PU h];by_cases e:k=j
 ·subst e;rw[Sj rfl];simp[a]
 ·rw[Si e]
  have:((j:Int)∈l.take i++[l[i]])↔(j:Int)∈l.take i:=by
   rw[Ph,Py,a];exact⟨fun h=>h.resolve_right SM,.inl⟩
  simp only[this]

abbrev cL:=List Int×List (List Int)×List Nat×List Nat×List (List Int)
abbrev iJ(a1:Option Addr)(c1:Nat)(a2:Option Addr)(c2:Nat)(a3:Option Addr)(c3:Nat)(a4:Option Addr)(c4:Nat)(a5:Option Addr)(c5:Nat)(n1 d c b a:Nat):Value:=.agg [.slice a1 n1 c1,.slice a2 d c2,.slice a3 c c3,.slice a4 b c4,.slice a5 a c5].toArray
structure AutoAt(w:World)(F:Nat->Prop)(v:Value)(A:cL):Prop where
 ok:∃a1 c1 a2 c2 a3 c3 a4 c4 a5 c5,v=iJ a1 c1 a2 c2 a3 c3 a4 c4 a5 c5 A.1.length A.2.1.length A.2.2.1.length A.2.2.2.1.length A.2.2.2.2.length/\Sl w F a1 c1 A.1/\Sl w F a2 c2 A.2.1/\Sl w F a3 c3 A.2.2.1/\Sl w F a4 c4 A.2.2.2.1/\Sl w F a5 c5 A.2.2.2.2
def ke(A:cL):Int:=
 if A.2.1.length>2048\/A.2.2.2.2.length>80 then 2 else if A.2.2.1.length≠A.2.1.length\/A.2.2.2.1.length≠A.2.1.length\/Cx A.2.1.length A.1=true then 1
 else if A.2.1.any (Cx A.2.1.length)=true\/A.2.2.2.2.any (Cx A.2.1.length)=true then 1 else 0
structure OkA(A:cL):Prop where
 n:A.2.1.length<=2048
 f:A.2.2.2.2.length<=80
 mu:A.2.2.1.length=A.2.1.length
 no:A.2.2.2.1.length=A.2.1.length
 st:CQ A.2.1.length A.1
 nx:∀r∈A.2.1,CQ A.2.1.length r
 fr:∀r∈A.2.2.2.2,CQ A.2.1.length r
def any_odd{n:Nat}:g.any (Cx n)=false↔∀r∈g,CQ n r:=by
 rw[ND];refine forall_congr' fun r=>forall_congr' fun _=>?_
 rw[<-oddB_false,M6]
def kg{A:cL}(h:ke A=0):OkA A:=by
 unfold ke at h
 split at h
 ·cases h
 split at h
 ·cases h
 split at h
 ·cases h
 rename_i h1 h2 h3;rw[So]at h1 h2 h3
 rw[So]at h2
 exact⟨by omega,by omega,by omega,by omega,oddB_false.1 (by simpa using h2.2.2),any_odd.1 (by simpa using h3.1),any_odd.1 (by simpa using h3.2)⟩
def kf{A:cL}(h:OkA A):ke A=0:=by
 unfold ke;have a:=oddB_false.2 h.st;have b:=any_odd.2 h.nx;have c:=any_odd.2 h.fr;have d:=h.mu;have e:=h.no;rw[Si (by have:=h.n;have:=h.f;omega),Si (by rw[a];simp;omega),Si (by rw[b,c];simp)]
def ie(n:Nat)(x:Int)(b:Nat)(w:World)(a:Blk w b 3 [Te n]):
  Rt UA 258 [Te x,Tg b].toArray w fun v w'=>v=.bool (decide (x<0\/x>=n))/\w=w':=by
 refine dV Tryz.func258 Tryz.ntmps258 rfl rfl ?_;refine T2 ?_;refine fI (s:=6) rfl (fun h=>?_) (fun h=>?_)
 ·refine TT ?_
  refine bi rfl rfl ?_;simp at h
  simp[h]
 ·refine T_ ?_
  refine bi rfl rfl ?_;simp at h
  simp[Nr.2 h]
def ig(w0:World){lo:Option Addr}{l:List Int}(n:Nat)(d:Sl w0 (dl w0) lo B l):
  Rt UA 197 [.slice lo l.length B,Te n].toArray w0 fun v w'=>v=.bool (Cx n l)/\Ext w0 w':=by
 refine dV Tryz.func197 Tryz.ntmps197 rfl rfl ?_;refine T9 ?_;refine eJ fun b e a=>?_
 refine Tu ?_;refine eN (ma b (fun x=>decide (x<0\/x>=n)) (d.up a) (fun w c i h=>?_)) ?_
 ·refine FnV.mk (Rt.mono (ie n _ _ w (e.ext c)) ?_)
  rintro v w' ⟨rfl,rfl⟩
  exact⟨rfl,Ext.refl _⟩
 ·rintro v w' ⟨rfl,f⟩
  refine Tk ?_;exact bj ⟨rfl,a.trans f⟩
def gr(w:World){lo:Option Addr}{l:List Int}(n:Nat)(b:Nat)(d:Blk w b 3 [Te n])(a:Sl w (dl w) lo B l):
  Rt UA 198 [.slice lo l.length B,Tg b].toArray w fun v w'=>v=.bool (Cx n l)/\Ext w w':=by
 refine dV Tryz.func198 Tryz.ntmps198 rfl rfl ?_;refine TJ ?_;refine eN (ig w n a) ?_;rintro _ w' ⟨rfl,c⟩
 refine Tk ?_;exact bj ⟨rfl,c⟩
def gt(w:World){lo:Option Addr}{l:List Int}(n:Nat)(b:Nat)(d:Blk w b 3 [Te n])(a:Sl w (dl w) lo B l):
  Rt UA 199 [.slice lo l.length B,Tg b].toArray w fun v w'=>v=.bool (Cx n l)/\Ext w w':=by
 refine dV Tryz.func199 Tryz.ntmps199 rfl rfl ?_;refine TJ ?_;refine eN (ig w n a) ?_;rintro _ w' ⟨rfl,c⟩
 refine Tk ?_;exact bj ⟨rfl,c⟩
def gq(w0:World){A:cL}(M:AutoAt w0 (dl w0) o A):
  Rt UA 121 [o].toArray w0 fun v w'=>v=Te (ke A)/\Ext w0 w':=by
 obtain⟨a1,c1,a2,c2,a3,c3,a4,c4,a5,c5,rfl,h1,h2,h3,h4,z⟩:=M.ok;obtain⟨st,nx,mu,no,fr⟩:=A;dsimp only at*
 have J:=h2.len63;have I:=h3.len63;have H:=h4.len63;have G:=z.len63;refine dU Tryz.func121 Tryz.ntmps121 rfl rfl ?_;have a:=Ext.refl w0;refine T9 ?_;refine eJ fun P c C=>?_
 have a:=a.trans C;have D:=C.size;have K:=c.lt;refine Ty ?_;refine eF (fun O d B=>?_);have c:=c.ext B;have a:=a.trans B;skip;refine f_ d (fun t d j=>?_);have c:=c.kept j ST;have a:Ext w0 t:=a.grown j a.size (fun g L=>by cases L;exact D);unfold ke;dsimp only;refine TJ ?_
 (refine fJ rfl rfl (fun h=>?_) (fun h=>?_))
 ·refine TA ?_
  skip;refine bi rfl rfl ⟨?_,a⟩;simp at h
  rw[Sj (.inl SM)]
 refine TH ?_;refine CW.cond rfl (fun e=>?_) (fun e=>?_)
 ·refine Tw ?_
  refine bi rfl rfl ⟨?_,a⟩;simp at e
  rw[Sj (.inr SM)]
 simp at h e
 rw[Si SM];clear h e;refine TS ?_
 (refine fJ rfl rfl (fun h=>?_) (fun h=>?_))
 ·simp at h
  refine TA ?_;refine bi rfl rfl ⟨?_,a⟩;rw[Sj (.inl SM)]
 simp at h
 have Q:=h;clear h;refine Ui ?_
 (refine fJ rfl rfl (fun h=>?_) (fun h=>?_))
 ·have k:=h
  simp at k
  refine TA ?_;refine bi rfl rfl ⟨?_,a⟩;rw[Sj (.inr (.inl SM))]
 have k:=h;simp at k
 refine Uh ?_;refine eN (ig t nx.length (h1.up a)) ?_;rintro _ E ⟨rfl,s⟩
 have c:=c.ext s;have d:=d.ext s;have a:=a.trans s;refine Tl ?_;apply CW.cond rfl<;>intro y
 ·refine Tw ?_
  refine bi rfl rfl ⟨?_,a⟩;rw[Sj (.inr (.inr y))]
 rw[Si (by rw[y];simp;omega)];refine T3 ?_;refine eN (md E (Cx nx.length) (h2.up a) (fun w f i hi u l=>?_)) ?_
 ·obtain⟨lo,F,rfl,m⟩:=l.sl
  exact FnV.mk (Rt.mono (gr w nx.length _ (d.ext f) (m.lift fun b n=>Qn n f.size)) fun v w' h=>h)
 rintro _ w5 ⟨rfl,r⟩
 have c:=c.ext r;have d:=d.ext r;have a:=a.trans r;refine Ue ?_
 (refine fJ rfl rfl (fun h=>?_) (fun h=>?_))
 ·have p:=h
  refine TA ?_;refine bi rfl rfl ⟨?_,a⟩;rw[Sj (.inl p)]
 have p:=h;refine Uj ?_;refine eN (md w5 (Cx nx.length) (z.up a) (fun w f i hi u l=>?_)) ?_
 ·obtain⟨lo,F,rfl,m⟩:=l.sl
  exact FnV.mk (Rt.mono (gt w nx.length _ (d.ext f) (m.lift fun b n=>Qn n f.size)) fun v w' h=>h)
 rintro _ N ⟨rfl,q⟩
 have c:=c.ext q;have d:=d.ext q;have a:=a.trans q;refine Tl ?_;apply CW.cond rfl<;>intro x
 ·refine Tw ?_
  refine bi rfl rfl ⟨?_,a⟩;rw[Sj (.inr x)]
 refine Tx ?_;refine bi rfl rfl ⟨?_,a⟩;rw[Si (by rw[p,x];simp)]
def sS{l:List Nat}{k:Nat}(h:k<l.length):l.getD k 0=l[k]:=by rw[Oi,On h];rfl
def bU(w0:World){a1 a4 a5:Option Addr}{c1 c2 n1 o:Nat}{no:List Nat}(h3:Sl w0 (dl w0) D B s)(h4:Sl w0 (dl w0) a4 a no)(k x:Nat)(i:k<s.length)(c:k<no.length)(l:x<18446744073709551616):
  Rt UA 259 [iJ a1 c1 C c2 D B a4 a a5 K n1 E s.length no.length o,Te (k:Int),.int .u64 (x:Int)].toArray w0 fun v w'=>v=.bool (rx s no k x)/\Ext w0 w':=by
 refine dW Tryz.func259 Tryz.ntmps259 rfl rfl ?_;refine T9 ?_;refine eJ fun p r d=>?_
 have h3:=h3.up d;have h4:=h4.up d;refine Ud ?_;refine dB rfl rfl rfl rfl rfl S3 h3 i SX (fun u q b=>?_);obtain⟨rfl,g⟩:=b.u64;refine Um ?_;rw[R1 _ _ l g];refine dB rfl rfl rfl rfl rfl S3 h3 i SX (fun u n b=>?_);obtain⟨rfl,_⟩:=b.u64;refine Uf ?_;unfold rx;rw[sS i,sS c]
 (refine dJ rfl rfl (fun h=>?_) (fun h=>?_))
 ·simp only[RZ]at h
  have h:x&&&s[k]=s[k]:=by exact_mod_cast h
  rw[R9 h,Nd];refine Um ?_;refine dB rfl rfl rfl rfl rfl S3 h4 c SX (fun u n b=>?_);obtain⟨rfl,f⟩:=b.u64;refine Uf ?_;rw[R1 _ _ l f];refine QL.nil (fun m j=>?_);refine TV ?_;refine bi rfl rfl ⟨?_,d.trans j⟩
  congr 1
  rw[M2,RZ,Sa]
  exact_mod_cast Nm
 ·have h:¬x&&&s[k]=s[k]:=by
   intro e;rw[e]at h;simp at h
  rw[R7 h,M3];refine Un ?_;refine QL.nil (fun m j=>?_);refine TV ?_;exact bj ⟨rfl,d.trans j⟩

section
variable {g:bZ}{f num li todo:List Int}
end
def yu(w0:World){ao:Option Addr}{cap:Nat}{xs:List Bool}(x:Bool)(d:Sl w0 (dl w0) ao cap xs):
  Rt UA 72 [.slice ao xs.length cap,.bool x].toArray w0 fun v w'=>v=Te (idxOf (fun y=>x==y) xs)/\Ext w0 w':=by
 have g:=d.len63;refine dV Tryz.func72 Tryz.ntmps72 rfl rfl ?_;refine TR ?_;refine CW.loop (S:=Nat) (fun k=>[(0,.slice ao xs.length cap),(1,.bool x),(7,Te xs.length),(8,Te k)])
  (fun k w=>k<=xs.length/\Ext w0 w/\∀j (h:j<xs.length),j<k->(x==xs[j])=false) (fun k=>xs.length -k) 0 SL ⟨by omega,Ext.refl _,by omega⟩ ?_
 rintro k w ⟨i,a,hn⟩
 refine T2 ?_;apply CW.cond rfl<;>intro h
 ·simp at h
  refine TI ?_;refine fd rfl rfl rfl rfl rfl (d.at a) h rfl SX (fun q=>?_);refine TB ?_;refine CW.cond rfl (fun c=>?_) (fun c=>?_)
  ·refine Th ?_
   refine bi rfl rfl ⟨?_,a⟩;rw[xT h hn c]
  ·refine Tj ?_
   refine EX.back (k+1) SL ⟨h,a,?_⟩ SM;intro j b f
   by_cases e:j=k
   ·subst e;exact c
   ·exact hn j b SM
 ·simp at h
  refine TO ?_;refine bi rfl rfl ⟨?_,a⟩;rw[xY (fun j b=>hn j b SM)]
def mf(w0:World){ao:Option Addr}{cap:Nat}{xs:List Bool}(x:Bool)(a:Sl w0 (dl w0) ao cap xs):
  Rt UA 141 [.slice ao xs.length cap,.bool x].toArray w0 fun v w'=>v=.bool (xs.contains x)/\Ext w0 w':=by
 refine dV Tryz.func141 Tryz.ntmps141 rfl rfl ?_;refine T2 ?_;refine eN (yu w0 x a) ?_;rintro v w' ⟨rfl,b⟩
 refine Tk ?_;refine bi rfl rfl ⟨?_,b⟩;rw[<-List.any_beq,<-xR]


def sK{j:Nat}(h:j<l.length):l.getD j false=l[j]:=by rw[Oi,On h];rfl
section
variable {P:Program}{Q:Exit->Act->World->Prop}{n:Nat}{σ:Sg}{wc:World}{L:List Oper}{S:World->Prop}{rest:List (Nat×Bool)}{i j d d':Nat}{ty:TypeId}{pos:String}{af:Array Edge}{g:Option (Nat×Bool)}{ty':TypeId}{pos':String}{af':Array Edge}{g':Option (Nat×Bool)}{t e:TypeId}{x ix:Operand}
variable {α:Type}[Rep α]{F:Nat->Prop}
end



def bX(c:Nat)(w:World):Nat->Prop:=fun b=>c<=b/\b<w.heap.size
def Rd.upF[Rep α]{w':World}{c:Nat}{x:α}(h:Rd w (bX c w) v x)(f:Ext w w'):Rd w' (bX c w') v x:=h.mono (fun b a=>f.block b a.2) fun b a=>⟨a.1,Qn a.2 f.size⟩
section
variable {P:Program}{Q:Exit->Act->World->Prop}{n:Nat}{σ:Sg}{w:World}{L rest:List Oper}{d:Nat}{ty:TypeId}{pos:String}{af:Array Edge}{g:Option (Nat×Bool)}
variable {α:Type}[Rep α]{e t:TypeId}{x0:α}{bytes:Nat}
theorem fF(c:Nat)(x:c<=w.heap.size){len:Nat}{parts:List (Nat×Operand)}{vs:List Value}(ys:List α)(q:gd L σ ⟨some d,.buildSlice t len parts.toArray,ty,pos,af,g⟩=some true)(hd:Nat.ble (d+1) n=true)
  (p:xP 0 (HV parts)=parts) (m:pL σ (HV parts)=some vs) [u:IsS P t e] [s:IsT P e α] [r:IsZ P e x0 bytes] (f:len=ys.length) (o:RdAll w (bX c w) vs ys) (i:ys.length*sz α<=16777216)
  (h:∀v w',Ext w w'->Rd w' (bX c w') v ys->WL P L Q rest n ((d,v)::σ) w'):
  WL P L Q (⟨some d,.buildSlice t len parts.toArray,ty,pos,af,g⟩::rest) n σ w:=
 WL.lit q hd p m f o i (fun b h=>h.2) fun w' k j=>by
  have l:Ext w w':=(MW _ _).grown j Ta S5;refine h _ w' l (k.rd.mono S8 fun b a=>?_);rcases a with a|a
  ·exact⟨a.1,Qn a.2 l.size⟩
  ·have:=k.lt b a;exact⟨by omega,this.2.1⟩
end

def CJ{A:cL}(h:OkA A):dt A:=⟨fun x a=>(h.st x a).1,fun k x a=>(CP h.nx k x a).1⟩
def L4(n:Nat)(x:Int)(b:Nat)(w:World)(a:Blk w b 3 [Te n]):
  Rt UA 188 [Te x,Tg b].toArray w fun v w'=>v=.bool (decide (x<0\/x>=n))/\w=w':=by
 refine dV Tryz.func188 Tryz.ntmps188 rfl rfl ?_;refine T2 ?_;refine fI (s:=6) rfl (fun h=>?_) (fun h=>?_)
 ·refine TT ?_
  refine bi rfl rfl ?_;simp at h
  simp[h]
 ·refine T_ ?_
  refine bi rfl rfl ?_;simp at h
  simp[Nr.2 h]
def L5(w0:World){lo:Option Addr}{l:List Int}(n:Nat)(d:Sl w0 (dl w0) lo B l):
  Rt UA 109 [.slice lo l.length B,Te n].toArray w0 fun v w'=>v=.bool (Cx n l)/\Ext w0 w':=by
 refine dV Tryz.func109 Tryz.ntmps109 rfl rfl ?_;refine T9 ?_;refine eJ fun b e a=>?_
 refine Tu ?_;refine eN (ma b (fun x=>decide (x<0\/x>=n)) (d.up a) (fun w c i h=>?_)) ?_
 ·refine FnV.mk (Rt.mono (L4 n _ _ w (e.ext c)) ?_)
  rintro v w' ⟨rfl,rfl⟩
  exact⟨rfl,Ext.refl _⟩
 ·rintro v w' ⟨rfl,f⟩
  refine Tk ?_;exact bj ⟨rfl,a.trans f⟩
abbrev L6(a1:Option Addr)(c1:Nat)(a2:Option Addr)(c2:Nat)(a3:Option Addr)(c3:Nat)(a4:Option Addr)(c4:Nat)(n1 c b a:Nat):Value:=.agg [.slice a1 n1 c1,.slice a2 c c2,.slice a3 b c3,.slice a4 a c4].toArray
def LG(w:World){lo:Option Addr}{l:List Int}(n:Nat)(b:Nat)(d:Blk w b 3 [Te n])(a:Sl w (dl w) lo B l):
  Rt UA 111 [.slice lo l.length B,Tg b].toArray w fun v w'=>v=.bool (Cx n l)/\Ext w w':=by
 refine dV Tryz.func111 Tryz.ntmps111 rfl rfl ?_;refine TJ ?_;refine eN (L5 w n a) ?_;rintro _ w' ⟨rfl,c⟩
 refine Tk ?_;exact bj ⟨rfl,c⟩
def Ll(w0:World){a1 a4:Option Addr}{c1 c2 k:Nat}{st:List Int}{nx fr:List (List Int)}(h1:Sl w0 (dl w0) a1 c1 st)(h2:Sl w0 (dl w0) C c2 nx)(hk:k<=9223372036854775807)(h4:Sl w0 (dl w0) a4 a fr):
  Rt UA 60 [L6 a1 c1 C c2 D B a4 a st.length nx.length k fr.length].toArray w0 fun v w'=>v=Te (lq st nx k fr)/\Ext w0 w':=by
 have Z:=h2.len63;have Y:=h4.len63;refine dU Tryz.func60 Tryz.ntmps60 rfl rfl ?_;refine T9 ?_;refine eJ fun W o m=>?_
 refine Ty ?_;refine eF (fun w2 hn f=>?_);have y:=o.ext f;refine f_ hn (fun Q s n=>?_);have x:=y.kept n (by simp;have:=o.lt;omega);have d:Ext w0 Q:=(m.trans f).grown n (Qk m.size f.size) (fun g hg=>by cases hg;exact m.size);clear o hn m f y n;refine TJ ?_
 (refine fJ rfl rfl (fun h=>?_) (fun h=>?_))
 ·refine TA ?_
  refine bi rfl rfl ⟨?_,d⟩;have h:nx.length>600:=by simp at h;omega
  unfold lq;rw[Sj (.inl h)]
 have h:nx.length<=600:=by simp at h;omega
 refine TH ?_;apply CW.cond rfl<;>intro F
 ·refine Tw ?_
  refine bi rfl rfl ⟨?_,d⟩;have F:fr.length>80:=by simp at F;omega
  unfold lq;rw[Sj (.inr F)]
 have F:fr.length<=80:=by simp at F;omega
 unfold lq;rw[Si SM];refine TS ?_
 (refine fJ rfl rfl (fun h=>?_) (fun h=>?_))
 ·refine TA ?_
  refine bi rfl rfl ⟨?_,d⟩;have P:k≠nx.length:=by
   have:¬(k:Int)=(nx.length:Int):=by simp at h;omega
   omega
  rw[Sj (.inl P)]
 have P:k=nx.length:=by
  have:(k:Int)=(nx.length:Int):=by simp at h;omega
  omega
 subst P;refine Uh ?_;refine eN (L5 Q nx.length (h1.up d)) ?_;rintro _ V ⟨rfl,I⟩
 have N:=x.ext I;have L:=s.ext I;have E:=d.trans I;refine Tl ?_;apply CW.cond rfl<;>intro T
 ·refine Tw ?_
  refine bi rfl rfl ⟨?_,E⟩;rw[Sj (.inr T)]
 rw[Si (by rw[T];simp)];clear x s d I;refine TS ?_;refine CW.loop (S:=Nat) (fun i=>[(1,Tg w0.heap.size),(3,Tg W.heap.size),(29,.slice C nx.length c2),(30,Te nx.length),(31,Te i)])
  (fun i w=>i<=nx.length/\Ext V w/\∀j (h:j<nx.length),j<i->kT nx.length nx[j]=false) (fun i=>nx.length -i) 0 SL ⟨by omega,Ext.refl _,by omega⟩ ?_
 rintro i w5 ⟨hi,H,r⟩
 have hb5:=N.ext H;have K:=L.ext H;have c:=E.trans H;refine T2 ?_;apply CW.cond rfl<;>intro p
 ·simp at p
  refine T7 ?_;refine fh (h2.at c) p SX (fun u q J=>?_);obtain⟨lo,X,rfl,t⟩:=J.sl;refine TR ?_
  (refine fJ rfl rfl (fun h=>?_) (fun h=>?_))
  ·refine T8 ?_
   refine bi rfl rfl ⟨?_,c⟩;have O:nx[i].length=0:=by simp at h;simp[h]
   rw[Sj (NE.2 ⟨nx[i],OG p,by unfold kT;simp only[Na,R_];exact .inl O⟩)]
  have O:nx[i].length≠0:=by simp at h;simpa using h
  refine Uh ?_;refine eN (L5 w5 nx.length (t.lift fun b o=>Qn o c.size)) ?_;rintro _ U ⟨rfl,G⟩
  refine Tl ?_;apply CW.cond rfl<;>intro A
  ·refine Th ?_
   refine bi rfl rfl ⟨?_,c.trans G⟩;rw[Sj (NE.2 ⟨nx[i],OG p,by unfold kT;rw[A,Nc]⟩)]
  ·refine Tj ?_
   refine EX.back (i+1) SL ⟨p,H.trans G,fun j M hlt=>?_⟩ SM;by_cases e:j=i
   ·subst e;unfold kT;rw[A,R7 O];rfl
   ·exact r j M SM
 simp at p
 have z:nx.any (kT nx.length)=false:=by
  rw[ND];intro l t
  obtain⟨j,M,rfl⟩:=Pq.1 t;simp[r j M SM]
 rw[Si (by rw[z];simp)];refine Ub ?_;refine eN (md w5 (Cx nx.length) (h4.up c) (fun w R i hi u J=>?_)) ?_
 ·obtain⟨lo,X,rfl,t⟩:=J.sl
  exact FnV.mk (Rt.mono (LG w nx.length _ (K.ext R) (t.lift fun b o=>Qn o R.size)) fun v w' h=>h)
 rintro _ U ⟨rfl,G⟩
 refine T1 ?_;apply CW.cond rfl<;>intro A
 ·refine Tw ?_
  refine bi rfl rfl ⟨?_,c.trans G⟩;rw[Sj A]
 ·refine Tx ?_
  refine bi rfl rfl ⟨?_,c.trans G⟩;rw[Si (by rw[A];simp)]
abbrev DO(so:Option Addr)(sc:Nat)(lo:Option Addr)(a:Nat)(s l:List Int):Value:=.agg [.slice so s.length sc,.slice lo l.length a].toArray
abbrev cY:=List Int×List (List Int)×List Nat×List (List Int)
def rz(W:cY)(A:cM)(p:dw):Bool:=rx A.2.2.1 A.2.2.2.1 p.2.toNat (W.2.2.1.getD p.1.toNat 0)
def BL(W:cY)(A:cM)(p:dw):List dw:=Dz (W.2.1.getD p.1.toNat []) (A.2.1.getD p.2.toNat [])
def Ik(W:cY)(A:cM):List dw:=Dz W.1 A.1
def If(W:cY)(A:cM):List (dw->Bool):=W.2.2.2.map (fun F p=>decide (p.1∈F))++A.2.2.2.2.map (fun F p=>decide (p.2∈F))
def aR(W:cY)(A:cM):Prop:=∃r,PWay (rz W A) (BL W A) (Ik W A) (If W A) r
structure WWay(W:cY)(r:Nat->Nat):Prop where
 first:(r 0:Int)∈W.1
 step:∀i,(r (i+1):Int)∈W.2.1.getD (r i) []
 fair:∀F∈W.2.2.2,∀i,∃j,i<=j/\(r j:Int)∈F
def du(W:cY):Prop:=(∀x∈W.1,0<=x)/\∀k,∀x∈W.2.1.getD k [],0<=x
abbrev kB(W:cY):Int:=lq W.1 W.2.1 W.2.2.1.length W.2.2.2
section
variable {W:cY}{A:cM}{s l:List Int}
theorem CR{n k:Nat}{g:List (List Int)}(h:∀r∈g,CQ n r):CQ n (g.getD k []):=by
 by_cases e:k<g.length
 ·rw[Oi,On e];exact h _ (OG e)
 ·rw[Oi,Oo SM];exact fun x a=>by cases a
theorem kC(h:kB W=0):du W:=by
 obtain⟨_,_,_,h1,h2,_⟩:=lr h;exact⟨fun x a=>(h1 x a).1,fun k x a=>(CR (fun r b=>(h2 r b).2) x a).1⟩
theorem CK(h:OkA A):dt A:=CJ h
theorem pQ(f:du W)(k:dt A){r:Nat->dw}(h:PWay (rz W A) (BL W A) (Ik W A) (If W A) r):
  WWay W (fun i=>(r i).1.toNat)/\aa A (fun i=>W.2.2.1.getD (r i).1.toNat 0):=by
 have b:=pairsX_mem.1 h.first;have a:∀i,(r (i+1)).1∈W.2.1.getD (r i).1.toNat []/\(r (i+1)).2∈A.2.1.getD (r i).2.toNat []:=fun i=>pairsX_mem.1 (h.step i)
 have e:∀i,0<=(r i).1/\0<=(r i).2:=fun i=>by
  cases i with
  |zero=>exact⟨f.1 _ b.1,k.1 _ b.2⟩
  |succ i=>exact⟨f.2 _ _ (a i).1,k.2 _ _ (a i).2⟩
 have d:∀i,(((r i).1.toNat:Nat):Int)=(r i).1:=fun i=>Nu (e i).1
 have c:∀i,(((r i).2.toNat:Nat):Int)=(r i).2:=fun i=>Nu (e i).2
 refine⟨⟨by rw[d];exact b.1,fun i=>by rw[d];exact(a i).1,fun F hF i=>?_⟩,fun i=>(r i).2.toNat,⟨by rw[c];exact b.2,fun i=>h.fits i,fun i=>by rw[c];exact(a i).2,fun F hF i=>?_⟩⟩
 ·obtain⟨j,h1,h2⟩:=h.fair _ (Pi _ (Pr.2 ⟨F,hF,rfl⟩)) i
  exact⟨j,h1,by rw[d];exact Sq h2⟩
 ·obtain⟨j,h1,h2⟩:=h.fair _ (Pj _ (Pr.2 ⟨F,hF,rfl⟩)) i
  exact⟨j,h1,by rw[c];exact Sq h2⟩
theorem pO{ρ:Nat->Nat}(a:WWay W ρ)(b:aa A (fun i=>W.2.2.1.getD (ρ i) 0)):aR W A:=by
 obtain⟨q,hq⟩:=b;refine⟨fun i=>((ρ i:Int),(q i:Int)),pairsX_mem.2 ⟨a.first,hq.first⟩,fun i=>?_,fun i=>pairsX_mem.2 ⟨?_,?_⟩,fun S hS i=>?_⟩
 ·exact hq.fits i
 ·exact a.step i
 ·exact hq.step i
 ·rcases Ph.1 hS with h|h
  ·obtain⟨F,hF,rfl⟩:=Pr.1 h
   obtain⟨j,h1,h2⟩:=a.fair F hF i;exact⟨j,h1,R9 h2⟩
  ·obtain⟨F,hF,rfl⟩:=Pr.1 h
   obtain⟨j,h1,h2⟩:=hq.fair F hF i;exact⟨j,h1,R9 h2⟩
theorem Ah{f:Nat->Nat}{s l:List Nat}(b:0<l.length)(i:Nat):Af (s.map f) (l.map f) i=f (Af s l i):=by
 unfold Af;rw[O1,O1];by_cases h:i<s.length
 ·rw[Sj h,Sj h,Oi,Ot,On h,Oi,On h];rfl
 ·have a:=Qr (i -s.length) b
  rw[Si h,Si h,Oi,Ot,On a,Oi,On a];rfl
theorem zZ{n:Nat}{lb:List Nat}{l:List Int}(h:CQ n l):zY lb l=(l.map Int.toNat).map fun x=>lb.getD x 0:=by
 unfold zY;rw[Pe];rfl
theorem Ag{s l:List Nat}{k:Nat}(a:k<l.length)(i:Nat):∃j,i<=j/\Af s l j=l.getD k 0:=by
 refine⟨s.length+(k+i*l.length),?_,?_⟩
 ·have:i*1<=i*l.length:=Qt i SM
  omega
 ·unfold Af
  rw[Si SM,P8,P6,Qq a]
structure PathE(W:cY)(A:cM)(s l:List Int):Prop where
 so:CQ W.2.1.length s
 lo:CQ W.2.1.length l
 l0:0<l.length
 good:tL W.1 W.2.1 W.2.2.2 (s++l) l=true
 acc:aa A (Af (zY W.2.2.1 s) (zY W.2.2.1 l))
 sz:s.length<=1099511627776/\l.length<=1099511627776
end
def Ig(ps:List dw)(l:List Int):List Int:=l.map fun n=>(ps.getD n.toNat (0,0)).1
section
variable {W:cY}{A:cM}{ps:List dw}{fr:List Int}{g:List (List Int)}{part:List Int}
theorem DP(h:RunE (rz W A) (BL W A) (Ik W A) ps fr g)(V:g.length=ps.length)(Q:∀p∈ps,(0<=p.1/\p.1<(W.2.1.length:Int))/\0<=p.2/\p.2<(A.2.1.length:Int))(Z:du W)(hA:dt A)
  {st lo:List Int} {to al:Nat->Bool} (H:WyOK g fr to al st) (b:RoOK g (st.getD (st.length -1) 0).toNat (He (If W A) ps) lo) (N:st.length -1<=1099511627776) (O:lo.length<=1099511627776):PathE W A (Ig ps (st.take (st.length -1))) (Ig ps lo):=by
 have U:=H.ne;have y:=b.ne;have hg:=h.okG V;have oks:CQ g.length (st.take (st.length -1)):=fun x r=>H.rg x (Pw r)
 have G:∀{l:List Int},CQ g.length l->CQ W.2.1.length (Ig ps l):=fun {l} J x r=>by
  obtain⟨n,hn,rfl⟩:=Pr.1 r;have:=J n hn;exact(Q _ (sZ SM)).1
 have d:(st.take (st.length -1)).length=st.length -1:=by rw[O9];omega
 have B:∀i,i<st.length -1->(st.take (st.length -1)).getD i 0=st.getD i 0:=fun i hi=>by
  rw[Oi,Oy hi,<-Oi]
 have z:0<=st.getD (st.length -1) 0:=by
  rw[Oi,On SM];exact(H.rg _ (OG SM)).1
 have w:lo.getD 0 0=st.getD (st.length -1) 0:=by rw[b.st];omega
 generalize hq:st.take (st.length -1)=sq at*
 have I:0<(lo.map Int.toNat).length:=by rw[O1];exact y
 have L:∀i,i+1<(sq++lo).length->(sq++lo).getD (i+1) 0∈g.getD ((sq++lo).getD i 0).toNat []:=fun i hi=>by
  rw[OT,d]at hi
  by_cases e:i<st.length -1
  ·rw[tu (i:=i) SM,B i e]
   have C:=(H.ed i SM).1;by_cases T:i+1<st.length -1
   ·rw[tu SM,B _ T];exact C
   ·rw[tw SM,d,show i+1 -(st.length -1)=0 by omega,w,show st.length -1=i+1 by omega];exact C
  ·rw[tw (i:=i) SM,tw (i:=i+1) SM,d,show i+1 -(st.length -1)=(i -(st.length -1))+1 by omega]
   exact b.ed _ SM
 have K:lo.getD 0 0∈g.getD ((sq++lo).getD ((sq++lo).length -1) 0).toNat []:=by
  rw[OT,tw SM,show sq.length+lo.length -1 -sq.length=lo.length -1 by omega,w];have:=b.cl;rwa[Nu z]at this
 have o:∀i,ow g (sq.map Int.toNat) (lo.map Int.toNat) i=true:=by
  rw[<-oH I,Pb,yG oks,yG b.rg,NB];intro i hi
  rw[Px]at hi
  unfold Iq JR;rw[NK];split
  ·exact L i (by assumption)
  ·obtain rfl:i=(sq++lo).length -1:=by omega
   exact K
 have m:∀i,Af (sq.map Int.toNat) (lo.map Int.toNat) i<ps.length:=fun i=>by
  have h1:=o i;unfold ow at h1
  rw[NK]at h1
  have:=Eg.lt1 (g:=g) (u:=Af (sq.map Int.toNat) (lo.map Int.toNat) i) h1;omega
 have t:(sq++lo).getD 0 0=st.getD 0 0:=by
  by_cases e:0<st.length -1
  ·rw[tu SM,B 0 e]
  ·rw[tw SM,d,show 0 -(st.length -1)=0 by omega,w,show st.length -1=0 by omega]
 have Y:((Af (sq.map Int.toNat) (lo.map Int.toNat) 0:Nat):Int)=st.getD 0 0:=by
  have:=gO (s:=sq.map Int.toNat) (l:=lo.map Int.toNat) (i:=0) (by rw[OT];omega);rw[Pb,yG oks,yG b.rg,t]at this
  exact this.symm
 have E:PWay (rz W A) (BL W A) (Ik W A) (If W A) (fun i=>ps.getD (Af (sq.map Int.toNat) (lo.map Int.toNat) i) (0,0)):=by
  refine⟨?_,fun i=>h.ok _ (sZ (m i)),fun i=>?_,fun S hS i=>?_⟩
  ·obtain⟨p,h1,h2,h3⟩:=(h.sn _).1 (show st.getD 0 0∈fr from H.st)
   have h4:=xS (h.sm p h1 h2);rw[show Af (sq.map Int.toNat) (lo.map Int.toNat) 0=ps.idxOf p by omega,h4.2];exact h1
  ·have C:((Af (sq.map Int.toNat) (lo.map Int.toNat) (i+1):Nat):Int)∈g.getD (Af (sq.map Int.toNat) (lo.map Int.toNat) i) []:=by simpa[ow]using o i
   obtain⟨q,h1,h2,h3⟩:=(h.nn _ (by have:=m i;omega) _).1 C;have h4:=xS (h.nm _ (by have:=m i;omega) q h1 h2);rw[show Af (sq.map Int.toNat) (lo.map Int.toNat) (i+1)=ps.idxOf q by omega,h4.2];exact h1
  ·obtain⟨x,r,c⟩:=b.all (ps.map S) (Pr.2 ⟨S,hS,rfl⟩)
   have P:=b.rg x r;rw[Hf SM]at c
   obtain⟨k,J,rfl⟩:=Pq.1 r;obtain⟨j,X,C⟩:=Ag (s:=sq.map Int.toNat) (l:=lo.map Int.toNat) (k:=k) (by rw[O1];exact J) i;refine⟨j,X,?_⟩;have R:(lo.map Int.toNat).getD k 0=lo[k].toNat:=by rw[Oi,Ot,On J];rfl
   rw[C,R];exact c
 obtain⟨D,M⟩:=pQ Z hA E;have okss:=G oks;have okll:=G b.rg;have f:∀{l:List Int},CQ g.length l->(Ig ps l).map Int.toNat=(l.map Int.toNat).map fun n=>(ps.getD n (0,0)).1.toNat:=fun {l} J=>by
  unfold Ig;rw[Pe,Pe];rfl
 have a:∀i,Af ((Ig ps sq).map Int.toNat) ((Ig ps lo).map Int.toNat) i=(ps.getD (Af (sq.map Int.toNat) (lo.map Int.toNat) i) (0,0)).1.toNat:=fun i=>by
  rw[f oks,f b.rg,Ah I]
 have v:0<((Ig ps lo).map Int.toNat).length:=by unfold Ig;rw[O1,O1];exact y
 refine⟨okss,okll,by unfold Ig;rw[O1];exact y,?_,?_,by unfold Ig;rw[O1,O1,d];exact⟨N,O⟩⟩
 ·unfold tL
  rw[MZ,MZ];refine⟨⟨?_,?_⟩,?_⟩
  ·have h1:=D.first
   rw[<-a]at h1
   rw[<-yG okss,<-yG okll,<-Pb,gO (by rw[OT];omega)];simpa using h1
  ·rw[<-yG okss,<-yG okll,<-Pb,oH v]
   intro i
   have h1:=D.step i;rw[<-a,<-a]at h1
   simpa[ow]using h1
  ·rw[NB]
   intro F hF
   rw[NE];obtain⟨x,r,c⟩:=b.all (ps.map fun p=>decide (p.1∈F)) (Pr.2 ⟨_,Pi _ (Pr.2 ⟨F,hF,rfl⟩),rfl⟩);have P:=b.rg x r;rw[Hf SM]at c
   exact⟨_,Sq c,by rw[NK];exact Pr.2 ⟨x,r,rfl⟩⟩
 ·have e1:=zZ (lb:=W.2.2.1) okss
  have T:=zZ (lb:=W.2.2.1) okll;rw[e1,T];exact(Acc.congr fun i=>(by rw[Ah v,a]:W.2.2.1.getD (ps.getD (Af (sq.map Int.toNat) (lo.map Int.toNat) i) (0,0)).1.toNat 0=_)).1 M
end
class IsM(P:Program)(t:TypeId)(k e:outParam TypeId):Prop where
 ok:P.underlying t=some (.map k e)
class IsKy(P:Program)(k:TypeId):Prop where
 ok:WideMaps.KeyLaw P k
theorem IsKy.of{k:TypeId}{d:TypeDesc}(h:laidOutB P=true){m:Nat}(f:Nat.ble (m+1) 10000=true)(a:Nat.ble (k+1) P.types.size=true)(i:P.keyTypeAt m k=true)(c:P.underlying k=some d)(hd:gA d=true):IsKy P k:=
 ⟨deep_law_laid h (Qg f) (Nat.lt_of_succ_le (Qg a)) i (by
  rw[c];cases d<;>first|rfl|(cases hd))⟩
class IsZ0(P:Program)(e:TypeId):Prop where
 ok:(P.info? e).map (fun i=>i.zero)=some (some (.int .i64 0))
def KeyV(P:Program)(k:TypeId)(v:Value):Prop:=∃l,keyOf P k v=some l
def NumM(P:Program)(k:TypeId)(w:World)(b:Nat)(ks:List Value):Prop:=
 ∃(a:Array MapEntry) (clock:Nat),w.heap[b]?=some (.map a clock)/\a.toList.map (·.key)=ks/\(∀(i:Nat) (e:MapEntry),a.toList[i]?=some e->e.val=.int .i64 (i:Int))/\(∀x∈ks,KeyV P k x)/\ks.Nodup
section
variable {P:Program}{k:TypeId}{w w':World}{b:Nat}{ks:List Value}
theorem NumM.lt(h:NumM P k w b ks):b<w.heap.size:=by
 obtain⟨c,clock,a,_⟩:=h;exact(MH.1 a).1
theorem NumM.at(h:NumM P k w b ks)(a:w'.heap[b]?=w.heap[b]?):NumM P k w' b ks:=by
 obtain⟨c,clock,h1,h2⟩:=h;exact⟨c,clock,a.trans h1,h2⟩
theorem NumM.ext(h:NumM P k w b ks)(a:Ext w w'):NumM P k w' b ks:=h.at (a.block b h.lt)
theorem NumM.kept{row:Option Nat}(h:NumM P k w b ks)(c:w.grownBy w' row)(a:some b≠row):NumM P k w' b ks:=h.at (c.block b h.lt a)
theorem NumM.made(w:World):NumM P k (w.alloc (.map #[] 0)) w.heap.size []:=
 ⟨#[],0,Sf w _,rfl,fun i e h=>by simp at h,fun x h=>by simp at h,List.Pairwise.nil⟩
theorem Gl{t e:TypeId}{x:Value}[u:IsM P t k e][r:IsKy P k][E:IsZ0 P e](h:NumM P k w b ks)(f:KeyV P k x):
  (x∉ks/\(Instr.lookup t (.map (some b)) x true).run P w=.ok (.tuple #[.int .i64 0,.bool false]) w)\/
  ∃(j:Nat) (B:j<ks.length),ks[j]=x/\(Instr.lookup t (.map (some b)) x true).run P w=.ok (.tuple #[.int .i64 (j:Int),.bool true]) w:=by
 obtain⟨D,clock,C,a,F,p,G⟩:=h;obtain⟨l,f⟩:=f;obtain⟨i,h1,h2⟩:=QT.1 E.ok;have o:(zeroValue e).run P w=.ok (.int .i64 0) w:=by simp[zeroValue,typeInfo,h1,h2]
 have c:∀e∈D.toList,∃l,keyOf P k e.key=some l:=fun e s=>p _ (a▸Pr.2 ⟨e,s,rfl⟩)
 rcases r.ok.find w f D.toList c with⟨g1,g2⟩|⟨j,H,g1,g2,g3⟩
 ·refine .inl ⟨fun A=>?_,by simp[Instr.lookup,Sy u.ok,P2 C,r.ok.check w _ f,g1,o,Result.andThen]⟩
  rw[<-a]at A
  obtain⟨e,s,q⟩:=Pr.1 A;exact g2 e s q
 ·have B:j<ks.length:=by rw[<-a,O1];exact(Oq.1 g2).1
  refine .inr ⟨j,B,?_,?_⟩
  ·subst a
   rw[OF,<-g3]
   congr 1
   exact(Oq.1 g2).2
  ·have m:=F j H g2
   simp[Instr.lookup,Sy u.ok,P2 C,r.ok.check w _ f,g1,Result.andThen,m]
theorem Gm{t e:TypeId}{x:Value}[G:IsM P t k e][C:IsKy P k](h:NumM P k w b ks)(E:KeyV P k x)(hn:x∉ks):
  ∃w',(Instr.mapUpdate t (.map (some b)) x (.int .i64 (ks.length:Int))).run P w=.ok () w'/\NumM P k w' b (ks++[x])/\w.grownBy w' (some b):=by
 obtain⟨r,clock,B,m,F,s,u⟩:=h;obtain⟨l,o⟩:=E;have p:∀e∈r.toList,∃l,keyOf P k e.key=some l:=fun e f=>s _ (m▸Pr.2 ⟨e,f,rfl⟩)
 have H:r.toList.length=ks.length:=by rw[<-m,O1]
 have A:=(MH.1 B).1;rcases C.ok.find w o r.toList p with⟨g1,g2⟩|⟨j,K,g1,g2,g3⟩
 ·refine⟨_,by simp[Instr.mapUpdate,Sy G.ok,P2 B,C.ok.check w false o,g1,P3 _ B,Result.andThen];rfl,?_,?_⟩
  ·refine⟨r.push ⟨x,.int .i64 (ks.length:Int),clock⟩,clock+1,by simp[A],by simp[m],fun i e f=>?_,fun y q=>?_,?_⟩
   ·rw[Array.toList_push]at f
    rcases Qo i r.toList.length with hi|hi
    ·rw[Oj hi]at f
     exact F i e f
    ·rw[Ok hi]at f
     have J:i -r.toList.length=0:=by
      have:=(Oq.1 f).1;simp at this;omega
     rw[J]at f
     simp at f
     subst f;show Value.int .i64 (ks.length:Int)=_
     congr 1;omega
   ·rcases Ph.1 q with q|q
    ·exact s y q
    ·rw[Py]at q;subst q;exact⟨l,o⟩
   ·rw[PB]
    refine⟨u,by simp,fun a I c D e=>?_⟩;rw[Py]at D
    subst D;subst e;exact hn I
  ·exact⟨rfl,rfl,rfl,by simp,fun i _ hi=>by
    simp only[MM];rw[Si (fun e=>hi (by rw[e]))]⟩
 ·exact absurd (m▸Pr.2 ⟨K,Pu g2,g3⟩) hn
end
section
variable {P:Program}{Q:Exit->Act->World->Prop}{n:Nat}{σ:Sg}{w:World}{L rest:List Oper}{d:Nat}{ty:TypeId}{pos:String}{af:Array Edge}{g:Option (Nat×Bool)}{t k e:TypeId}{b:Nat}{ks:List Value}{x y z:Operand}{v:Value}
theorem fW(o:gd L σ ⟨none,.mapUpdate t x y z,ty,pos,af,g⟩=some true)(j:ev σ x=some (.map (some b)))(i:ev σ y=some v)(c:ev σ z=some (.int .i64 (ks.length:Int)))[p:IsM P t k e][q:IsKy P k]
  (h:NumM P k w b ks) (l:KeyV P k v) (hn:v∉ks)
  (m:∀w',NumM P k w' b (ks++[v])->w.grownBy w' (some b)->WL P L Q rest n σ w'):
  WL P L Q (⟨none,.mapUpdate t x y z,ty,pos,af,g⟩::rest) n σ w:=by
 obtain⟨w',g1,g2,g3⟩:=Gm (t:=t) h l hn;refine fY o (fun a f=>?_) (m w' g2 g3);simp[execOp,f.ev j,f.ev i,f.ev c,g1]
theorem fP(c:gd L σ ⟨some d,.makeMap t none,ty,pos,af,g⟩=some true)(hd:Nat.ble (d+1) n=true)
  (h:NumM P k (w.alloc (.map #[] 0)) w.heap.size []->WL P L Q rest n ((d,.map (some w.heap.size))::σ) (w.alloc (.map #[] 0))):
  WL P L Q (⟨some d,.makeMap t none,ty,pos,af,g⟩::rest) n σ w:=by
 refine WL.run c hd (fun a f=>?_) (h (NumM.made w));simp[execOp,Instr.makeMap]
end
def KeyV.pair{k fa fb:TypeId}{y:Int}(h:(P.keyType k&&Value.formed P k (.agg #[.int .i64 0,.int .i64 0]))=true)
  (i:∀a b:Int,P.keyLits (P.types.size+1) k [.int .i64 a,.int .i64 b]=(if(Lit.int .i64 a).wf=true/\(Lit.int .i64 b).wf=true then some [.int .i64 a,.int .i64 b]else none))
  (hd:∃d,P.underlying k=some (.struct d)) (f:(Lit.int .i64 x).wf=true) (c:(Lit.int .i64 y).wf=true):KeyV P k (.agg ⟨[.int .i64 x,.int .i64 y]⟩):=by
 obtain⟨d,hd⟩:=hd;refine⟨.string (keyBytes [.int .i64 x,.int .i64 y]),?_⟩;unfold keyOf;rw[hd];dsimp only;have hf:Value.formed P k (.agg ⟨[.int .i64 x,.int .i64 y]⟩)=Value.formed P k (.agg #[.int .i64 0,.int .i64 0]):=by
  unfold Value.formed;rw[hd];rfl
 rw[hf,Sj h];show Option.map _ (P.keyLits (P.types.size+1) k [.int .i64 x,.int .i64 y])=_;rw[i,Sj ⟨f,c⟩];rfl
def Cg{l:List α}(h:l.Nodup){i j:Nat}(hi:i<l.length)(c:j<l.length)(e:l[i]=l[j]):i=j:=by
 have h:=List.pairwise_iff_getElem.1 h;rcases Nat.lt_trichotomy i j with a|f|a
 ·exact absurd e (h i j hi c a)
 ·exact f
 ·exact absurd e.symm (h j i c hi a)
section
variable {P:Program}{Q:Exit->Act->World->Prop}{n:Nat}{σ:Sg}{w:World}{L rest:List Oper}{d:Nat}{ty:TypeId}{pos:String}{af:Array Edge}{g:Option (Nat×Bool)}{t k e:TypeId}{b:Nat}{ks:List Value}{x y z:Operand}{v:Value}
theorem dL(q:gd L σ ⟨some d,.lookup t x y true,ty,pos,af,g⟩=some true)(hd:Nat.ble (d+1) n=true)(l:ev σ x=some (.map (some b)))(i:ev σ y=some v)[s:IsM P t k e][u:IsKy P k][r:IsZ0 P e]
  (h:NumM P k w b ks) (m:KeyV P k v) (hn:v∉ks) (o:QL P L w Q rest n ((d,.tuple ⟨[Te 0,.bool false]⟩)::σ)):QL P L w Q (⟨some d,.lookup t x y true,ty,pos,af,g⟩::rest) n σ:=by
 refine QL.run q hd (fun a f w' c=>?_) o;rcases Gl (t:=t) (h.ext c) m with⟨_,g2⟩|⟨j,p,g1,g2⟩
 ·simp[execOp,f.ev l,f.ev i,g2]
 ·exact absurd (g1▸OG p) hn
theorem dM{j:Nat}(m:j<ks.length)(c:ks[j]=v)(u:gd L σ ⟨some d,.lookup t x y true,ty,pos,af,g⟩=some true)(hd:Nat.ble (d+1) n=true)(q:ev σ x=some (.map (some b)))(p:ev σ y=some v)[B:IsM P t k e][C:IsKy P k][A:IsZ0 P e]
  (h:NumM P k w b ks) (r:KeyV P k v) (s:QL P L w Q rest n ((d,.tuple ⟨[Te (j:Int),.bool true]⟩)::σ)):QL P L w Q (⟨some d,.lookup t x y true,ty,pos,af,g⟩::rest) n σ:=by
 refine QL.run u hd (fun a o w' f=>?_) s;rcases Gl (t:=t) (h.ext f) r with⟨g1,_⟩|⟨i,hi,g1,g2⟩
 ·exact absurd (c▸OG m) g1
 ·obtain⟨_,_,_,_,_,_,l⟩:=h
  obtain rfl:i=j:=Cg l hi m (g1.trans c.symm);simp[execOp,o.ev q,o.ev p,g2]
end
def cw{n:Nat}{σ:Sg}{wc:World}{i d:Nat}{ty:TypeId}{g:Option (Nat×Bool)}{e:TypeId}{x:Operand}{b o k:Nat}{vs:List Value}
  (C:∀l,S l->l.heap[b]?=w.heap[b]?) (q:Cm L i=some ⟨some d,.load t x,ty,G,j,g⟩) (s:gd L σ ⟨some d,.load t x,ty,G,j,g⟩=some true) (hd:Nat.ble (d+1) n=true) (m:ev σ x=some (.pointer (some ⟨b,o,none⟩))) [D:IsC P t k true] (A:Blk w b e r) (p:GM r o k=some vs)
  (h:HL P L S Q u n ((d,.agg vs.toArray)::σ) wc):HL P L S Q ((i,true)::u) n σ wc:=by
 refine HL.run q s hd (fun a B w' c=>?_) h;have f:Blk w' b e r:=(C w' c).trans A;simp[execOp,B.ev m,F_ (P:=P) (t:=t) w' f p]
def Fz(w:World)(M:Nat->Prop):Nat->Prop:=fun b=>b<w.heap.size/\¬M b
section
variable {α:Type}[Rep α]
theorem Fz.keep{w w':World}{M M':Nat->Prop}(c:Chg M w w')(d:∀b,M' b->M b\/w.heap.size<=b):(∀b,Fz w M b->w'.heap[b]?=w.heap[b]?)/\∀b,Fz w M b->Fz w' M' b:=
 ⟨fun b a=>c.block b a.1 a.2,fun b a=>⟨Qn a.1 c.size,fun h=>(d b h).elim a.2 (fun h=>absurd a.1 SM)⟩⟩
theorem Rd.fz{w w':World}{M M':Nat->Prop}{v:Value}{x:α}(h:Rd w (Fz w M) v x)(c:Chg M w w')(a:∀b,M' b->M b\/w.heap.size<=b):Rd w' (Fz w' M') v x:=h.mono (Fz.keep c a).1 (Fz.keep c a).2
theorem Sl.fz{w w':World}{M M':Nat->Prop}{ao:Option Addr}{cap:Nat}{xs:List α}(h:Sl w (Fz w M) ao cap xs)(c:Chg M w w')(a:∀b,M' b->M b\/w.heap.size<=b):Sl w' (Fz w' M') ao cap xs:=h.mono (Fz.keep c a).1 (Fz.keep c a).2
theorem Sl.old'{w:World}{M:Nat->Prop}{ao:Option Addr}{cap:Nat}{xs:List α}(h:Sl w (Fz w M) ao cap xs):Sl w (dl w) ao cap xs:=h.mono S8 fun _ h=>h.1
theorem Chg.of_ext{w w':World}(M:Nat->Prop)(h:Ext w w'):Chg M w w':=⟨h.os,h.tape,h.output,h.size,fun k a _=>h.block k a⟩
theorem Chg.trans{M:Nat->Prop}{a b c:World}(h:Chg M a b)(k:Chg M b c):Chg M a c:=
 ⟨k.os.trans h.os,k.tape.trans h.tape,k.output.trans h.output,Qk h.size k.size,fun i hi hn=>(k.block i (Qn hi h.size) hn).trans (h.block i hi hn)⟩
theorem Chg.then{M M':Nat->Prop}{a b c:World}(h:Chg M a b)(k:Chg M' b c)(e:∀i,M' i->M i\/a.heap.size<=i):Chg M a c:=
 ⟨k.os.trans h.os,k.tape.trans h.tape,k.output.trans h.output,Qk h.size k.size,fun i hi hn=>(k.block i (Qn hi h.size) (fun d=>(e i d).elim hn SM)).trans (h.block i hi hn)⟩
theorem Chg.wk{M M':Nat->Prop}{a b:World}(h:Chg M a b)(d:∀i,M i->M' i):Chg M' a b:=⟨h.os,h.tape,h.output,h.size,fun i hi hn=>h.block i hi (fun c=>hn (d i c))⟩
theorem Chg.of_grown{w w':World}{row:Option Nat}(a:w.grownBy w' row):Chg (fun b=>row=some b) w w':=(Chg.refl _ w).grown a fun g h=>h
structure InnR(w:World)(M:Nat->Prop)(vs:List Raw)(xs:List (List α)):Prop where
 len:vs.length=xs.length
 el:∀i (h:i<vs.length) (h':i<xs.length),Rd w (Fz w M) vs[i].v xs[i]
theorem InnR.nil{w:World}{M:Nat->Prop}:InnR w M [] ([]:List (List α)):=⟨rfl,fun i h=>absurd h SQ⟩
theorem InnR.to{w w':World}{M M':Nat->Prop}{vs:List Raw}{xs:List (List α)}(h:InnR w M vs xs)(c:Chg M w w')(a:∀b,M' b->M b\/w.heap.size<=b):InnR w' M' vs xs:=⟨h.len,fun i h1 h2=>(h.el i h1 h2).fz c a⟩
theorem InnR.push{w:World}{M:Nat->Prop}{vs:List Raw}{xs:List (List α)}{v:Value}{x:List α}(h:InnR w M vs xs)(a:Rd w (Fz w M) v x):InnR w M (vs++[(⟨v⟩:Raw)]) (xs++[x]):=by
 refine⟨by simp[h.len],fun i h1 h2=>?_⟩;rcases Qo i vs.length with hi|hi
 ·rw[Oz hi,Oz (by rw[<-h.len];exact hi)]
  exact h.el i hi _
 ·have b:=h.len
  obtain rfl:i=vs.length:=by simp at h1;omega
  rw[OA Ta,OA SM];simp only[b,QF,OD];exact a
theorem InnR.sl{w:World}{M F:Nat->Prop}{B:Nat}{e:TypeId}{v:Value}{vs:List Raw}{xs:List (List α)}(h:InnR w M vs xs)(l:Own w B e di v vs)(hF:∀b,Fz w M b->F b)(j:∀g,v.ownBlock=some g->F g):∃ao cap,v=.slice ao xs.length cap/\Sl w F ao cap xs:=by
 obtain⟨ao,cap,e,c⟩:=l.slF (F':=F) S0 j;refine⟨ao,cap,by rw[<-h.len];exact e,⟨by rw[<-h.len];exact c.le,c.mx,c.nil,fun i hi=>?_⟩⟩;have a:i<vs.length:=by rw[h.len];exact hi
 obtain⟨b,off,o,f,p,m,k⟩:=c.el i a;obtain⟨rfl,h1⟩:=k;obtain⟨io,ic,n,d⟩:=(h.el i a hi).sl;exact⟨b,off,o,f,[vs[i].v],m,io,ic,by rw[n],d.mono S8 hF⟩
theorem InnR.old{w:World}{M:Nat->Prop}{B:Nat}{e:TypeId}{v:Value}{vs:List Raw}{xs:List (List α)}(h:InnR w M vs xs)(a:Own w B e di v vs):∃ao cap,v=.slice ao xs.length cap/\Sl w (dl w) ao cap xs:=
 h.sl a (fun _ h=>h.1) (fun g b=>(a.lt g b).2.1)
end
instance:IsM UA 220 226 3:=⟨Tryz.underlying220⟩
instance:IsC UA 220 1 false:=IsC.of SN Tryz.underlying220 rfl
instance:IsZ0 UA 3:=⟨by kernel_rfl⟩
def oX:laidOutB UA=true:=by kernel_rfl
instance:IsKy UA 226:=IsKy.of (m:=2) oX SP SN SN Ro rfl
abbrev DS(p:dw):Value:=.agg ⟨[.int .i64 p.1,.int .i64 p.2]⟩
def d8(p:dw):Prop:=0<=p.1/\p.1<4096/\0<=p.2/\p.2<4096
def DU{p:dw}(h:d8 p):KeyV UA 226 (DS p):=by
 obtain⟨h1,h2,h3,h4⟩:=h;refine KeyV.pair (fa:=3) (fb:=3) SN (fun a b=>?_) ⟨_,Ro⟩ ?_ ?_
 ·obtain⟨s,c⟩:∃s,Tryz.prog.types.size=s+1:=by
   have:Nat.ble 1 Tryz.prog.types.size=true:=by kernel_rfl
   have:=Qg this;exact⟨Tryz.prog.types.size -1,by omega⟩
  have d:Tryz.prog.cellsOf 3=1:=by kernel_rfl
  have e:∀(x:Int),Tryz.prog.keyLits (s+1) 3 [.int .i64 x]=if(Lit.int .i64 x).wf=true then some [.int .i64 x]else none:=fun x=>by
   rw[QZ];simp only[Rw];by_cases h:(Lit.int .i64 x).wf=true<;>simp[h]
  rw[c,QZ];simp only[Ro];rw[Sj ⟨by kernel_rfl,by kernel_rfl⟩];simp only[O_,Pa,d,NZ,PY,P0,NY,e];by_cases h1:(Lit.int .i64 a).wf=true<;>by_cases h2:(Lit.int .i64 b).wf=true<;>simp[h1,h2]
 ·simp[Lit.wf,IntKind.min,IntKind.max,IntKind.signed,IntKind.bits];omega
 ·simp[Lit.wf,IntKind.min,IntKind.max,IntKind.signed,IntKind.bits];omega
def DT{p q:dw}(h:DS p=DS q):p=q:=by
 obtain⟨a,b⟩:=p;obtain⟨c,d⟩:=q;simp[DS]at h
 exact Prod.ext h.1 h.2
structure EA where
 a1:Option Addr
 c1:Nat
 a2:Option Addr
 c2:Nat
 a3:Option Addr
 c3:Nat
 a4:Option Addr
 c4:Nat
 k1:Option Addr
 d1:Nat
 k2:Option Addr
 d2:Nat
 k3:Option Addr
 d3:Nat
 k4:Option Addr
 d4:Nat
 k5:Option Addr
 d5:Nat
 W:cY
 A:cM
abbrev oq(e:EA)(mb:Nat)(lv nv fv:Value):List Value:=[.slice e.a1 e.W.1.length e.c1,.slice e.a2 e.W.2.1.length e.c2,.slice e.a3 e.W.2.2.1.length e.c3,.slice e.a4 e.W.2.2.2.length e.c4,.slice e.k1 e.A.1.length e.d1,.slice e.k2 e.A.2.1.length e.d2,.slice e.k3 e.A.2.2.1.length e.d3,.slice e.k4 e.A.2.2.2.1.length e.d4,.slice e.k5 e.A.2.2.2.2.length e.d5,.map (some mb),lv,nv,fv]
structure EIn(w:World)(F:Nat->Prop)(e:EA):Prop where
 h1:Sl w F e.a1 e.c1 e.W.1
 h2:Sl w F e.a2 e.c2 e.W.2.1
 h3:Sl w F e.a3 e.c3 e.W.2.2.1
 h4:Sl w F e.a4 e.c4 e.W.2.2.2
 g1:Sl w F e.k1 e.d1 e.A.1
 g2:Sl w F e.k2 e.d2 e.A.2.1
 g3:Sl w F e.k3 e.d3 e.A.2.2.1
 g4:Sl w F e.k4 e.d4 e.A.2.2.2.1
 g5:Sl w F e.k5 e.d5 e.A.2.2.2.2
def EIn.to{w':World}{F':Nat->Prop}{e:EA}(h:EIn w F e)(a:∀b,F b->w'.heap[b]?=w.heap[b]?)(hF:∀b,F b->F' b):EIn w' F' e:=
 ⟨h.h1.mono a hF,h.h2.mono a hF,h.h3.mono a hF,h.h4.mono a hF,h.g1.mono a hF,h.g2.mono a hF,h.g3.mono a hF,h.g4.mono a hF,h.g5.mono a hF⟩
def ry(e:EA)(p:dw):Bool:=rx e.A.2.2.1 e.A.2.2.2.1 p.2.toNat (e.W.2.2.1.getD p.1.toNat 0)
def InE(e:EA)(p:dw):Prop:=(0<=p.1/\p.1<(e.W.2.1.length:Int))/\0<=p.2/\p.2<(e.A.2.1.length:Int)
structure OkE(e:EA):Prop where
 wn:e.W.2.1.length<=600
 an:e.A.2.1.length<=2048
 lb:e.W.2.2.1.length=e.W.2.1.length
 mu:e.A.2.2.1.length=e.A.2.1.length
 no:e.A.2.2.2.1.length=e.A.2.1.length
def InE.sm{e:EA}{p:dw}(a:OkE e)(h:InE e p):d8 p:=by
 obtain⟨⟨h1,h2⟩,h3,h4⟩:=h;have:=a.wn;have:=a.an;exact⟨h1,by omega,h3,by omega⟩
structure Em(w:World)(B:Nat)(e:EA)(sb mb:Nat)(lv nv fv:Value)(ps:List dw):Prop where
 blk:Blk w sb 223 (oq e mb lv nv fv)
 num:NumM UA 226 w mb (ps.map DS)
 lo:Own w B 226 di lv ps
 inn:EIn w (fun b=>b<B) e
 ge:B<=sb/\B<=mb
 ne:sb≠mb
 nl:∀g,lv.ownBlock=some g->g≠sb/\g≠mb
 nd:ps.Nodup
 ins:∀p∈ps,InE e p
 ok:OkE e
def Em.ext{w':World}{e:EA}{fv:Value}{ps:List dw}(h:Em w B e a K v o fv ps)(f:B<=w.heap.size)(c:Ext w w'):Em w' B e a K v o fv ps:=
 ⟨h.blk.ext c,h.num.ext c,h.lo.extN c,h.inn.to (fun b d=>c.block b (Qn d f)) S3,h.ge,h.ne,h.nl,h.nd,h.ins,h.ok⟩
def Em.len{e:EA}{fv:Value}{ps:List dw}(h:Em w B e a K v o fv ps):ps.length<=1228800:=by
 have h1:=Cf h.nd h.ins;have h2:=Qs h.ok.wn h.ok.an;omega
def oW(sb mb:Nat)(lv:Value):Nat->Prop:=fun b=>b=sb\/b=mb\/lv.ownBlock=some b
def ou(w0:World){e:EA}{fv:Value}{ps:List dw}{p:dw}(h:Em w0 B e K E o J fv ps)(hB:B<=w0.heap.size)(hp:InE e p):
  Rt UA 200 [.pointer (some ⟨K,0,none⟩),DS p].toArray w0 fun v w'=>∃lv',v=.int .i64 (if ry e p=true then(ps.idxOf p:Int)else -1)/\Em w' B e K E lv' J fv (if ry e p=true then gu ps p else ps)/\
   Chg (oW K E o) w0 w'/\(∀g,lv'.ownBlock=some g->o.ownBlock=some g\/w0.heap.size<=g):=by
 obtain⟨x,y,rfl⟩:∃x y:Nat,p=((x:Int),(y:Int)):=⟨p.1.toNat,p.2.toNat,by
  obtain⟨⟨p1,p2⟩,p3,p4⟩:=hp;exact Prod.ext (by show p.1=((p.1.toNat:Nat):Int);omega) (by show p.2=((p.2.toNat:Nat):Int);omega)⟩
 have O:=DU (hp.sm h.ok);have hlen:=h.len;have V:DS ((x:Int),(y:Int))∈ps.map DS↔((x:Int),(y:Int))∈ps:=by
  rw[Pr];exact⟨fun⟨q,h1,h2⟩=>by rw[<-DT h2];exact h1,fun h=>⟨_,h,rfl⟩⟩
 refine dV Tryz.func200 Tryz.ntmps200 rfl rfl ?_;refine T9 ?_;refine eJ fun U H e1=>?_
 have h1:=h.ext hB e1;have m:=h1.blk;have z1:=e1.size;have l3:=H.lt;obtain⟨lo,lc,rfl⟩:=h.lo.val;have R:=h.ok;have hxl:x<e.W.2.2.1.length:=by have:=hp.1.2;have:=R.lb;dsimp only at*;omega
 have hym:y<e.A.2.2.1.length:=by have:=hp.2.2;have:=R.mu;dsimp only at*;omega
 have hyn:y<e.A.2.2.2.1.length:=by have:=hp.2.2;have:=R.no;dsimp only at*;omega
 have hI:=h1.inn.to (F':=dl U) S8 (fun b r=>(show b<U.heap.size by omega));have hfe:ry e ((x:Int),(y:Int))=rx e.A.2.2.1 e.A.2.2.2.1 y e.W.2.2.1[x]:=by
  unfold ry;dsimp only;rw[Nt,Nt,Oi,On hxl];rfl
 have hSE:∀z,(fun z:World=>Ext U z) z->Ext U z:=fun _ h=>h
 generalize hpp:(((x:Int),(y:Int)):dw)=pp at*
 have hp1:pp.1=(x:Int):=by rw[<-hpp]
 have hp2:pp.2=(y:Int):=by rw[<-hpp]
 refine T2 ?_;refine aG (fun z=>Ext U z) [(0,true),(1,true),(2,true),(3,true),(4,true),(5,true),(6,true),(7,true),(8,true),(9,true),(10,true),(11,true),(12,true),(13,true),(14,true),(15,false),(16,true)] mixed SN (Ext.drew U) ?_;refine Up ?_;rw[hp1,hp2];refine cj (α:=Nat) (k:=x) hSE rfl rfl rfl rfl rfl rfl rfl S3 hI.h3 hxl SX (fun u q hu=>?_);obtain⟨rfl,hu64⟩:=hu.u64;have hd:=Ext.drew U;refine cD rfl (eN (bU (drew U) (hI.g3.at hd) (hI.g4.at hd) y e.W.2.2.1[x] hym hyn hu64) ?_);rintro _ w2 ⟨rfl,e2⟩
 have e2:=hd.trans e2;refine WL.nil (bf e2 ?_);rw[<-hfe];refine Uu ?_;have Q:=e1.trans e2;by_cases D:ry e pp=true
 case neg=>
  have D:ry e pp=false:=by simpa using D
  rw[D];refine TA ?_;exact bi rfl rfl ⟨.slice lo ps.length lc,rfl,by simpa using h.ext hB Q,⟨Q.os,Q.tape,Q.output,Q.size,fun b r _=>Q.block b r⟩,fun g A=>.inl A⟩
 rw[D,Sj rfl,Sj rfl];apply bE;refine aw rfl ?_;apply CW.skip;apply bE;have h2:=h.ext hB Q;have X:=H.ext e2;have hz2:=Q.size;refine aA [(0,.pointer (some ⟨K,0,none⟩)),(3,.pointer (some ⟨w0.heap.size,0,none⟩)),(5,.int .i64 (if pp∈ps then(ps.idxOf pp:Int)else 0)),(6,.bool (decide (pp∈ps)))] ?_ (fun t e3=>?_)
 ·have m:=h2.blk
  by_cases c:pp∈ps
  ·rw[Sj c,R9 c]
   obtain⟨j,hj,hjm⟩:=Pq.1 c;have hix:ps.idxOf pp=j:=by rw[<-hjm];exact h.nd.idxOf_getElem j hj
   rw[hix];refine Ud ?_;refine dM (j:=j) (by simpa using hj) (by rw[OF,hjm]) rfl rfl rfl rfl h2.num O ?_;refine Uf ?_;refine QL.nil (fun t e3=>?_);exact aY SL e3
  ·rw[Si c,R7 c]
   refine Ud ?_;refine dL rfl rfl rfl rfl h2.num O (fun h=>c (V.1 h)) ?_;refine Uf ?_;refine QL.nil (fun t e3=>?_);exact aY SL e3
 have C:=Q.trans e3;have h3:=h.ext hB C;have H:=X.ext e3;have hz3:=C.size;have d:Chg (oW K E (.slice lo ps.length lc)) w0 t:=⟨C.os,C.tape,C.output,C.size,fun b r _=>C.block b r⟩;clear h1 m hI hSE X h2 e2 e1 Q hd;by_cases c:pp∈ps
 ·rw[Sj c,R9 c,show gu ps pp=ps from Sj c]
  refine Ua ?_;exact bi rfl rfl ⟨.slice lo ps.length lc,rfl,h3,d,fun g A=>.inl A⟩
 rw[Si c,R7 c,show gu ps pp=ps++[pp] from Si c];have hix:=xX c;have m:=h3.blk;have hmb0:=h.num.lt;have hsb0:=h.blk.lt;have N:=h.lo.lt;have S:=h.ne;have w:=h.nl;have hl3x:=H.lt;rw[hix];have f:Ext t (drew t):=Ext.drew t;have i:=m.ext f;have n:=H.ext f;have T:∀u,(fun x:World=>x.heap[w0.heap.size]?=(drew t).heap[w0.heap.size]?/\x.heap[K]?=(drew t).heap[K]?) u->u.heap[w0.heap.size]?=(drew t).heap[w0.heap.size]?:=fun _ h=>h.1
 have hKs:∀u,(fun x:World=>x.heap[w0.heap.size]?=(drew t).heap[w0.heap.size]?/\x.heap[K]?=(drew t).heap[K]?) u->u.heap[K]?=(drew t).heap[K]?:=fun _ h=>h.2
 refine TQ ?_;refine aG (fun x:World=>x.heap[w0.heap.size]?=(drew t).heap[w0.heap.size]?/\x.heap[K]?=(drew t).heap[K]?) [(0,true),(1,true),(2,true),(3,true),(4,true),(5,true),(6,false)] mixed SN ⟨rfl,rfl⟩ ?_;refine Us ?_;refine cw T rfl rfl rfl rfl n rfl ?_;refine Uq ?_;refine cD rfl (fW (ks:=ps.map DS) rfl rfl rfl (by simp[ev,fnd,O1]) (h3.num.ext f) O (fun h=>c (V.1 h)) (fun s Z l=>?_));have hzd:=f.size;refine WL.nil (bf ⟨?_,?_⟩ (HL.nil ?_))
 ·exact l.block _ SM S6
 ·exact l.block _ SM (fun e=>S (QV e))
 have hz4:=l.size;have P:=i.kept l (fun e=>S (QV e));have W:=n.kept l S6;have hlo4:=(h3.lo.extN f).keptN l (fun g A e=>(w g A).2 (QV e));have I:Chg (oW K E (.slice lo ps.length lc)) w0 s:=(⟨f.os.trans d.os,f.tape.trans d.tape,f.output.trans d.output,Qk d.size f.size,fun b r hn=>(f.block b (Qn r d.size)).trans (d.block b r hn)⟩:Chg _ w0 (drew t)).grown l (fun g A=>by cases A;exact .inr (.inl rfl));clear i n T hKs f hzd l m H;have f:Ext s (drew s):=Ext.drew s;have i:=P.ext f;have n:=W.ext f;have hlsb:=P.lt;have hl3:=W.lt;have T:∀u,(fun x:World=>x.heap[w0.heap.size]?=(drew s).heap[w0.heap.size]?/\x.heap[K]?=(drew s).heap[K]?) u->u.heap[w0.heap.size]?=(drew s).heap[w0.heap.size]?:=fun _ h=>h.1
 have hKs:∀u,(fun x:World=>x.heap[w0.heap.size]?=(drew s).heap[w0.heap.size]?/\x.heap[K]?=(drew s).heap[K]?) u->u.heap[K]?=(drew s).heap[K]?:=fun _ h=>h.2
 have hzd:=f.size;refine TV ?_;refine aF (fun x:World=>x.heap[w0.heap.size]?=(drew s).heap[w0.heap.size]?/\x.heap[K]?=(drew s).heap[K]?) [(0,true),(1,true),(2,true),(3,true),(4,true),(5,true),(6,false),(7,false),(8,false),(9,false)] 10 mixed SN ⟨rfl,rfl⟩ ?_;refine Us ?_;refine cw T rfl rfl rfl rfl n rfl ?_;refine b_ (α:=Int×Int) (F:=di) (bytes:=16) (yv:=pp) rfl rfl rfl rfl SX rfl rfl SX (hlo4.extN f) (Rd.mkPr (c1:=[.int .i64 pp.1]) (c2:=[.int .i64 pp.2]) (E9 _ _ _) (E9 _ _ _)) SM S0 SP SS SM
  (fun z hz=>⟨hz.block _ SM (fun e=>by have:=N _ e.symm;omega),hz.block _ SM (fun e=>(w _ e.symm).1 rfl)⟩) (fun cl w5 q5 ho5 G M=>?_)
 obtain⟨lo',lc',rfl⟩:=ho5.val;have hblk5:=i.kept G (fun e=>(w _ e.symm).1 rfl);have Y:=(Z.ext f).kept G (fun e=>(w _ e.symm).2 rfl);have hS5:w5.heap[w0.heap.size]?=(drew s).heap[w0.heap.size]?/\w5.heap[K]?=(drew s).heap[K]?:=⟨G.block _ SM (fun e=>by have:=N _ e.symm;omega),G.block _ SM (fun e=>(w _ e.symm).1 rfl)⟩;refine cD rfl (fS rfl rfl rfl (WL.nil (bf hS5 ?_)));refine cD rfl (fm rfl rfl rfl (WL.nil (bf hS5 (HL.nil ?_))));refine bB rfl (f_ hblk5 (fun w6 hblk6 hg6=>WL.nil (bC ?_)));have hlo6:=ho5.keptN hg6 (fun g A e=>by
  rcases M g A with h|h
  ·exact(w g h).1 (QV e)
  ·have:=QV e;omega)
 have L:=Y.kept hg6 (fun e=>S (QV e).symm);have hC5:=(⟨f.os.trans I.os,f.tape.trans I.tape,f.output.trans I.output,Qk I.size f.size,fun b r hn=>(f.block b (Qn r I.size)).trans (I.block b r hn)⟩:Chg (oW K E (.slice lo ps.length lc)) w0 (drew s)).grown G (fun g A=>.inr (.inr A));have hC6:=hC5.grown hg6 S7;have hz5:=G.size;rw[show ps.map DS++[DS pp]=(ps++[pp]).map DS by simp]at L
 have hge:=h.ge;have hSb:∀b,oW K E (.slice lo ps.length lc) b->B<=b:=fun b r=>by
  rcases r with h'|h'|h'
  ·omega
  ·omega
  ·exact(N b h').1
 refine Tw ?_;refine bi rfl rfl ⟨.slice lo' (ps++[pp]).length lc',rfl,⟨hblk6,L,hlo6,h.inn.to (fun b r=>hC6.block b SM (fun hs=>by have:=hSb b hs;omega)) S3,hge,S,fun g A=>?_,?_,fun q hq=>?_,R⟩,hC6,fun g A=>?_⟩
 ·rcases M g A with h|h
  ·exact w g h
  ·exact⟨by omega,by omega⟩
 ·rw[PB]
  refine⟨h.nd,PK _ _,fun a ha b r e'=>?_⟩;rw[Py]at r
  exact c (by rw[<-r,<-e'];exact ha)
 ·rcases Ph.1 hq with hq|hq
  ·exact h.ins q hq
  ·rw[Py]at hq;rw[hq];exact hp
 ·rcases M g A with h|h
  ·exact .inl h
  ·exact .inr SM
def Em.chg{S:Nat->Prop}{w':World}{e:EA}{fv:Value}{ps:List dw}(h:Em w B e a K v o fv ps)(f:B<=w.heap.size)(c:Chg S w w')(hS:∀b,S b->B<=b/\b≠a/\b≠K/\v.ownBlock≠some b):Em w' B e a K v o fv ps:=
 ⟨(c.block a h.blk.lt (fun k=>(hS _ k).2.1 rfl)).trans h.blk,h.num.at (c.block K h.num.lt (fun k=>(hS _ k).2.2.1 rfl)),h.lo.chg c (fun b d k=>(hS b k).2.2.2 d),h.inn.to (fun b d=>c.block b (Qn d f) (fun k=>by have:=(hS b k).1;omega)) S3,h.ge,h.ne,h.nl,h.nd,h.ins,h.ok⟩
structure CrI(w0 w:World)(B:Nat)(e:EA)(sb mb:Nat)(lv0 lv ov nv fv:Value)(ps:List dw)(out:List Int):Prop where
 em:Em w B e sb mb lv nv fv ps
 own:Own w w0.heap.size 3 di ov out
 chg:Chg (oW sb mb lv0) w0 w
 new:∀g,lv.ownBlock=some g->lv0.ownBlock=some g\/w0.heap.size<=g
 dis:∀g,ov.ownBlock=some g->lv.ownBlock≠some g
def DA{l k:List Int}:Dz (x::l) k=(k.map fun y=>(x,y))++Dz l k:=rfl
def DB(l k:List Int):(Dz l k).length=l.length*k.length:=by
 unfold Dz
 induction l with
 |nil=>simp
 |cons x r a=>rw[Od,OT,a,O1,OU,Nat.succ_mul];omega
def mD(w0:World){e:EA}{fv:Value}{ps:List dw}{lo:Option Addr}{kc:Nat}{l k:List Int}(h:Em w0 B e a K o J fv ps)(hB:B<=w0.heap.size)(Q:Sl w0 (fun b=>b<B) lo E l)(hk:Sl w0 (fun b=>b<B) C kc k)
  (okl:CQ e.W.2.1.length l) (okk:CQ e.A.2.1.length k) (hln:l.length<=1048576) (hkn:k.length<=1048576):
  Rt UA 122 [Tg a,.slice lo l.length E,.slice C k.length kc].toArray w0 fun v w'=>∃lv',CrI w0 w' B e a K o lv' v J fv (EI (ry e) (Dz l k) ps []).1 (EI (ry e) (Dz l k) ps []).2:=by
 have hT:(Dz l k).length<=1099511627776:=by rw[DB];exact Qs hln hkn
 have hge:=h.ge;have hsb0:=h.blk.lt;have hmb0:=h.num.lt;have V:=h.lo.lt;have hSB:∀b,oW a K o b->B<=b:=fun b n=>by
  rcases n with r|r|r
  ·omega
  ·omega
  ·exact(V b r).1
 generalize hG:EI (ry e) (Dz l k) ps []=G at*
 refine dW Tryz.func122 Tryz.ntmps122 rfl rfl ?_;refine TR ?_;refine CW.loop (S:=Nat×Value×Value×List dw×List Int) (fun s=>[(0,Tg a),(2,.slice C k.length kc),(7,s.2.2.1),(13,.slice lo l.length E),(14,Te l.length),(15,Te s.1)])
  (fun s w=>s.1<=l.length/\EI (ry e) (Dz (l.drop s.1) k) s.2.2.2.1 s.2.2.2.2=G/\CrI w0 w B e a K o s.2.1 s.2.2.1 J fv s.2.2.2.1 s.2.2.2.2/\s.2.2.2.2.length+(Dz (l.drop s.1) k).length<=(Dz l k).length)
  (fun s=>l.length -s.1) (0,o,.slice none 0 0,ps,[]) SL ⟨QK _,hG,⟨h,Own.nil,Chg.refl _ _,fun g m=>.inl m,fun g m=>by cases m⟩,by simp⟩ ?_
 rintro⟨i,lv1,ov,ps1,out⟩ D ⟨hi,c,d,p⟩
 dsimp only at hi c d p⊢
 refine T2 ?_;apply CW.cond rfl<;>intro hc
 ·have A:i<l.length:=by simp at hc;omega
  rw[NV A,DA]at c p
  have X:=Q.mono (w':=D) (fun b n=>d.chg.block b SM (fun N=>by have:=hSB b N;omega)) (F':=dl D) (fun b n=>by have:=d.chg.size;exact(show b<D.heap.size by omega));have hxr:=okl _ (OG A);refine T7 ?_;refine ff X A rfl SX (fun q=>?_);generalize l[i]=x at*
  generalize hR:Dz (l.drop (i+1)) k=R at*
  refine TR ?_;refine CW.loop (S:=Nat×Value×Value×List dw×List Int) (fun s=>[(0,Tg a),(2,.slice C k.length kc),(7,s.2.2.1),(9,Te x),(13,.slice lo l.length E),(14,Te l.length),(15,Te i),(19,.slice C k.length kc),(20,Te k.length),(21,Te s.1)])
   (fun s w=>s.1<=k.length/\EI (ry e) (((k.drop s.1).map fun y=>(x,y))++R) s.2.2.2.1 s.2.2.2.2=G/\CrI w0 w B e a K o s.2.1 s.2.2.1 J fv s.2.2.2.1 s.2.2.2.2/\s.2.2.2.2.length+(k.length -s.1)+R.length<=(Dz l k).length)
   (fun s=>k.length -s.1) (0,lv1,ov,ps1,out) SL ⟨QK _,c,d,by simp only[OT,O1]at p;dsimp only;omega⟩ ?_
  clear c d p X;rintro⟨j,lv1,ov,ps1,out⟩ D ⟨hj,c,d,p⟩
  dsimp only at hj c d p⊢
  have z1:=d.chg.size;refine T2 ?_;apply CW.cond rfl<;>intro hc
  ·have u:j<k.length:=by simp at hc;omega
   rw[NV u,Pd,NI,EI]at c
   have hk1:=hk.mono (w':=D) (fun b n=>d.chg.block b SM (fun N=>by have:=hSB b N;omega)) (F':=dl D) (fun b n=>(show b<D.heap.size by omega));have hyr:=okk _ (OG u);refine T7 ?_;refine ff hk1 u rfl SX (fun q=>?_);generalize k[j]=y at*
   have hin:InE e (x,y):=⟨hxr,hyr⟩;refine T2 ?_;refine eK ?_;have L:=ou D d.em SM hin;rw[show DS (x,y)=.agg [Te x,Te y].toArray from rfl]at L
   refine eN L ?_;rintro _ w2 ⟨lv2,rfl,z,P,U⟩
   have I:=fun g m=>d.own.lt g m
   have hll1:=fun g m=>d.em.lo.lt g m
   have z2:=P.size;have t:=d.own.chg P (fun b n N=>by
    have:=I b n;rcases N with r|r|r
    ·omega
    ·omega
    ·exact d.dis b n r)
   have M:Chg (oW a K o) w0 w2:=d.chg.then P (fun b N=>by
    rcases N with r|r|r
    ·exact .inl (.inl r)
    ·exact .inl (.inr (.inl r))
    ·exact(d.new b r).imp (fun h=>.inr (.inr h)) id)
   have H:∀g,lv2.ownBlock=some g->o.ownBlock=some g\/w0.heap.size<=g:=fun g m=>(U g m).elim (d.new g) (fun h=>.inr SM)
   have O:∀g,ov.ownBlock=some g->lv2.ownBlock≠some g:=fun g m Q=>(U g Q).elim (d.dis g m) (fun h=>by have:=(I g m).2;omega)
   by_cases hf:ry e (x,y)=true
   ·rw[Sj hf]at c z
    rw[Sj hf];have Y:decide (((ps1.idxOf (x,y):Nat):Int)>=0)=true:=R9 SM;refine T4 ?_;rw[Y];refine eH (α:=Int) (F:=di) (bytes:=8) (yv:=((ps1.idxOf (x,y):Nat):Int)) rfl rfl SX rfl rfl SX t S_ SM S0 SP SS SM (fun ov' w3 q ho3 Z T=>?_);have W:=fun g m=>z.lo.lt g m
    have f:=fun g m=>t.lt g m
    have hE3:=z.chg SM (Chg.of_grown Z) (fun b n=>⟨by have:=(f b n).1;omega,by have:=(f b n).1;omega,by have:=(f b n).1;omega,O b n⟩);refine Tn ?_;exact EX.back (j+1,lv2,ov',_,_) SL ⟨u,c,⟨hE3,ho3,M.then (Chg.of_grown Z) (fun b n=>.inr (f b n).1),H,fun g m Q=>(T g m).elim (fun h=>O g h Q) (fun h=>by have:=(W g Q).2.1;omega)⟩,by simp;omega⟩ SR
   ·rw[Si hf]at c z
    rw[Si hf];refine TC ?_;exact EX.back (j+1,lv2,ov,_,_) SL ⟨u,c,⟨z,t,M,H,O⟩,by dsimp only;omega⟩ SR
  ·obtain rfl:j=k.length:=by simp at hc;omega
   rw[NX,Pf,PA]at c
   refine To ?_;exact EX.back (i+1,lv1,ov,ps1,out) SL ⟨A,by rw[hR];exact c,d,by dsimp only;rw[hR];omega⟩ SR
 ·obtain rfl:i=l.length:=by simp at hc;omega
  rw[NX]at c
  have c:(ps1,out)=G:=c;subst c;refine TO ?_;exact bj ⟨lv1,d⟩
instance:IsT UA 80 Raw:=IsT.of SN RH rfl
instance:IsZ UA 80 (⟨.slice none 0 0⟩:Raw) 24:=IsZ.of (z:=.slice none 0 0) SN (fun _ _=>⟨rfl,rfl⟩)
def Fa{x:dw}(h:Rd w F v x):v=DS x:=by
 obtain⟨c1,c2,rfl,h1,h2⟩:=h.pr;rw[E7 h1,E7 h2];rfl
def pE(w:World)(p:dw):Rt UA 203 [DS p].toArray w fun v w'=>v=Te p.1/\Ext w w':=by
 refine dU Tryz.func203 Tryz.ntmps203 rfl rfl ?_;refine T9 ?_;refine eJ fun c a b=>?_
 refine T_ ?_;exact bj ⟨rfl,b⟩
def pF(w:World)(p:dw):Rt UA 204 [DS p].toArray w fun v w'=>v=Te p.2/\Ext w w':=by
 refine dU Tryz.func204 Tryz.ntmps204 rfl rfl ?_;refine T9 ?_;refine eJ fun c a b=>?_
 refine T_ ?_;exact bj ⟨rfl,b⟩
def pm(w0:World){n:Nat}{x0 x3 x4 x5 x6 x7 x8 x9 x11 x12 ov ofv:Value}{lo fo:Option Addr}{lc fc:Nat}{ps:List dw}{vs:List Raw}{xs:List (List Bool)}{of:dw->Int}
  (hb1:Blk w0 B 219 [Tg K]) (hb:Blk w0 K 223 [x0,o,J,x3,x4,x5,x6,x7,x8,x9,.slice lo ps.length lc,x11,x12]) (hbo:Blk w0 a 200 [ov]) (hn:Own w0 E 80 di ov vs) (hB:E<=w0.heap.size)
  (inn:InnR w0 (fun b=>b=a\/ov.ownBlock=some b) vs xs) (hlo:Sl w0 (dl w0) lo lc ps) (hfr:Sl w0 (dl w0) fo fc m) (hok:CQ n m) (hnn:n<=1099511627776)
  (hof:∀w p,p∈ps->FnV UA ofv [DS p] w fun v w'=>v=Te (of p)/\Ext w w') (hin:∀p∈ps,0<=of p/\of p<n) (hps:ps.length<=1228800) (hxs:xs.length<=4096) (X:∀g,ov.ownBlock=some g->g≠a):
  Rt UA 202 [.slice fo m.length fc,ofv,Te (n:Int),Tg B,Tg a].toArray w0 fun v w'=>∃ov' vs',Blk w' a 200 [ov']/\Own w' E 80 di ov' vs'/\
   InnR w' (fun b=>b=a\/ov'.ownBlock=some b) vs' (xs++[ps.map fun p=>decide (of p∈m)])/\Chg (fun b=>b=a\/ov.ownBlock=some b) w0 w'/\∀g,ov'.ownBlock=some g->ov.ownBlock=some g\/w0.heap.size<=g:=by
 have hfl:=hfr.len63;have hll:=hlo.len63;have hlbo:=hbo.lt;refine dY Tryz.func202 Tryz.ntmps202 rfl rfl ?_;refine TP ?_;refine fK (α:=Bool) rfl rfl rfl rfl SM SS (fun w1 ho1 hg1=>?_);have hE1:Ext w0 w1:=(MW _ _).grown hg1 Ta S5;generalize hsv:Value.slice (some ⟨w0.heap.size,0,none⟩) n n=sv at*
 refine TR ?_;refine CW.loop (S:=Nat×List Bool) (fun s=>[(1,ofv),(3,Tg B),(4,Tg a),(8,sv),(16,.slice fo m.length fc),(17,Te m.length),(18,Te s.1)])
  (fun s w=>s.1<=m.length/\Own w w0.heap.size 4 di sv s.2/\s.2.length=n/\(∀c:Nat,c<n->(s.2.getD c false=true↔(c:Int)∈m.take s.1))/\Ext w0 w) (fun s=>m.length -s.1) (0,List.replicate n false) SL
  ⟨QK _,ho1,by simp,fun c G=>by simp[Ov,G],hE1⟩ ?_
 clear ho1 hg1 hE1;rintro⟨i,il⟩ w ⟨hi,V,hil,hr,M⟩
 dsimp only at hi V hil hr⊢
 refine T2 ?_;apply CW.cond rfl<;>intro h
 ·have D:i<m.length:=by simp at h;omega
  have hxr:=hok _ (OG D);have htk:m.take (i+1)=m.take i++[m[i]]:=PZ D;refine T7 ?_;refine ff (hfr.up M) D rfl SX (fun q=>?_);generalize m[i]=x at*
  obtain⟨c0,rfl⟩:=Nn hxr.1;refine T2 ?_;refine f6 (u:=.bool true) (yv:=true) rfl rfl rfl rfl V (show c0<il.length by omega) SX SX (Rd.mkBool _ _ _) (fun w4 q2 ho4 z=>?_);have hE4:Ext w0 w4:=M.grown z M.size (fun b hb=>(V.lt b hb).1);refine Tn ?_;refine EX.back (i+1,il.set c0 true) SL ⟨D,ho4,by simpa using hil,fun c G=>?_,hE4⟩ SR;dsimp only;rw[tg SM,htk,Ph,Py];by_cases e:c0=c
  ·subst e;simp
  ·rw[Si e,hr c G]
   exact⟨.inl,fun h=>h.resolve_right (fun h=>e SM)⟩
 obtain rfl:i=m.length:=by simp at h;omega
 clear h hi;rw[PV]at hr
 have hbit:∀p∈ps,∀c:Nat,of p=(c:Int)->il.getD c false=decide (of p∈m):=fun p hp c G=>by
  have h1:=hin p hp;rw[M2,hr c SM,G];simp
 have A:=hb1.ext M;have Q:=hb.ext M;have hzw:=M.size;have hltw:=fun g f=>V.lt g f
 obtain⟨mo,mc,rfl,hms⟩:=V.oldN.sl;refine T6 ?_;refine fK (α:=Bool) rfl rfl rfl rfl SM SS (fun w2 ho2 hg2=>?_);have I:Ext w w2:=(MW _ _).grown hg2 Ta S5;generalize hsv2:Value.slice (some ⟨w.heap.size,0,none⟩) ps.length ps.length=sv2 at*
 have A:=A.ext I;have Q:=Q.ext I;refine TQ ?_;refine CW.loop (S:=Nat×List Bool) (fun s=>[(1,ofv),(4,Tg a),(8,.slice mo il.length mc),(11,sv2),(35,.slice lo ps.length lc),(36,Te ps.length),(37,Te s.1)])
  (fun s u=>s.1<=ps.length/\Own u w.heap.size 4 di sv2 s.2/\s.2.length=ps.length/\(∀c:Nat,c<s.1->s.2.getD c false=decide (of (ps.getD c (0,0))∈m))/\Ext w u) (fun s=>ps.length -s.1) (0,List.replicate ps.length false) SL
  ⟨QK _,ho2,by simp,fun c G=>absurd G SQ,I⟩ ?_
 clear ho2 hg2 I A Q;rintro⟨j,sl⟩ w3 ⟨hj,ho3,O,r,H⟩
 dsimp only at hj ho3 O r⊢
 refine T2 ?_;apply CW.cond rfl<;>intro h
 ·have C:j<ps.length:=by simp at h;omega
  clear h;have P:=OG C;have hpg:ps.getD j (0,0)=ps[j]:=by rw[Oi,On C];rfl
  have hip:=hin _ P;refine TL ?_;refine fg (i:=j) rfl rfl rfl rfl rfl (hlo.up (M.trans H)) C SX (fun u q hu=>?_);rw[Fa hu];clear hu;generalize ps[j]=p at*
  refine eF (fun w4 hb4 e4=>?_);refine Ue ?_;refine f_ hb4 (fun w5 hb5 l=>?_);have e5:Ext w3 w5:=MT e4 l e4.size SZ;clear l e4 hb4;refine TN ?_;refine eO rfl rfl rfl rfl (hof w5 p P) ?_;rintro _ w6 ⟨rfl,e6⟩
  have e36:=e5.trans e6;have R:=H.trans e36;have ho6:=ho3.extN e36;obtain⟨k,hk⟩:∃k:Nat,of p=(k:Int):=⟨(of p).toNat,by omega⟩;have hkn:k<n:=by omega
  have hbk:=hbit p P k hk;rw[hk];refine fd rfl rfl rfl rfl rfl (hms.up R) (i:=k) SM (y:=decide (of p∈m)) (by rw[<-hbk,Oi,On SM];rfl) SX (fun q=>?_);refine f6 (yv:=decide (of p∈m)) rfl rfl rfl rfl ho6 (show j<sl.length by omega) SX SX (Rd.mkBool _ _ _) (fun w7 q2 ho7 hg7=>?_);have hE7:Ext w w7:=R.grown hg7 R.size (fun b hb=>(ho6.lt b hb).1);refine Tn ?_;refine EX.back (j+1,sl.set j (decide (of p∈m))) SL ⟨C,ho7,by simpa using O,fun c G=>?_,hE7⟩ SR;dsimp only at G⊢
  rw[tg SM];by_cases e:j=c
  ·subst e;rw[Sj rfl,hpg]
  ·rw[Si e];exact r c SM
 obtain rfl:j=ps.length:=by simp at h;omega
 have T:sl=ps.map fun p=>decide (of p∈m):=by
  refine N4 (by rw[O1];exact O) fun i h1 h2=>?_
  have h3:i<ps.length:=by omega
  have h4:=r i h3;rw[Oi,On h1,Oi,On h3]at h4
  rw[OF];exact h4
 subst T;have d:=M.trans H;have hbo3:=hbo.ext d;have Y:=hn.extN d;have hz3:=H.size;obtain⟨so,sc,rfl⟩:=ho3.val;have L:=fun g f=>ho3.lt g f
 have Z:=fun g f=>hn.lt g f
 have hcsl:=inn.len;obtain⟨vo,vc,rfl⟩:=Y.val;refine T6 ?_;refine eH (α:=Raw) (F:=di) (bytes:=24) (yv:=(⟨.slice so (ps.map fun p=>decide (of p∈m)).length sc⟩:Raw)) rfl rfl SX rfl rfl SX Y (Rd.mkRaw _ _ _ rfl) SM S0 SP SS SM (fun nv' w4 q ho4 z t=>?_);obtain⟨nvo,nvc,rfl⟩:=ho4.val;have hbo4:=hbo3.kept z (fun e=>X _ e.symm rfl);have z4:=z.size;refine f_ hbo4 (fun w5 hb5 l=>?_);have z5:=l.size;have W:∀g,(Value.slice nvo (vs++[(⟨.slice so (ps.map fun p=>decide (of p∈m)).length sc⟩:Raw)]).length nvc).ownBlock=some g->g≠a:=fun g f=>by
  rcases t g f with h|h
  ·exact X g h
  ·omega
 have ho5:=ho4.keptN l (fun g f e=>W g f (QV e));have U:Rd w3 (Fz w3 (fun b=>b=a\/Value.ownBlock (.slice vo vs.length vc)=some b)) (.slice so (ps.map fun p=>decide (of p∈m)).length sc) (ps.map fun p=>decide (of p∈m)):=
  ho3.rd.mono S8 (fun g f=>f.elim (fun h=>h.elim) (fun f=>⟨(L g f).2.1,fun h=>by
   have h1:=(L g f).1;rcases h with h|h
   ·omega
   ·have:=(Z g h).2.1;omega⟩))
 have hin3:=(inn.to (Chg.of_ext _ d) (fun b h=>.inl h)).push U;have N:Chg (fun b=>b=a\/Value.ownBlock (.slice vo vs.length vc)=some b) w3 w5:=((Chg.of_grown z).wk (fun b h=>.inr h)).grown l S7;have hin5:=hin3.to N (M':=fun b=>b=a\/(Value.slice nvo (vs++[(⟨.slice so (ps.map fun p=>decide (of p∈m)).length sc⟩:Raw)]).length nvc).ownBlock=some b) (fun b h=>by
  rcases h with h|h
  ·exact .inl (.inl h)
  ·exact(t b h).imp .inr id)
 have hC5:=(Chg.of_ext (fun b=>b=a\/Value.ownBlock (.slice vo vs.length vc)=some b) d).trans N;refine T1 ?_;exact a7 rfl ⟨_,_,hb5,ho5,hin5,hC5,fun g f=>(t g f).imp id (fun h=>by have:=d.size;omega)⟩
def Hg(W:List Int×List (List Int)×List Nat×List (List Int))(A:cM)(ps:List dw):List (List Bool):=W.2.2.2.map (fun F=>ps.map fun p=>decide (p.1∈F))++A.2.2.2.2.map fun F=>ps.map fun p=>decide (p.2∈F)
def pG(w0:World){e:EA}{fv:Value}{ps:List dw}(h:Em w0 B e a K o J fv ps)(hB:B<=w0.heap.size)(Y:∀r∈e.W.2.2.2,CQ e.W.2.1.length r)(X:∀r∈e.A.2.2.2.2,CQ e.A.2.1.length r)
  (hl1:e.W.2.2.2.length<=80) (hl2:e.A.2.2.2.2.length<=80):
  Rt UA 124 [Tg a].toArray w0 fun v w'=>∃so sc,v=.slice so (Hg e.W e.A ps).length sc/\Sl w' (dl w') so sc (Hg e.W e.A ps)/\Ext w0 w':=by
 have P:=h.ok;have hwn:=P.wn;have han:=P.an;have N:=h.len;have hsb0:=h.blk.lt;obtain⟨lo,lc,rfl⟩:=h.lo.val;obtain⟨lo',lc',Z,W⟩:=h.lo.oldN.sl;have Z:=RS Z;obtain⟨rfl,-,rfl⟩:=Z;refine dU Tryz.func124 Tryz.ntmps124 rfl rfl ?_;refine T9 ?_;refine eJ fun w1 x e1=>?_
 have l10:=x.lt;refine T2 ?_;refine eF (fun y U e2=>?_);have x:=x.ext e2;have z:=e1.trans e2;have z1:=e1.size;have z2:=e2.size;have l1:=x.lt;have l3:=U.lt;generalize hbo:w1.heap.size=l at*
 generalize V:w0.heap.size=b1 at*
 have I:b1<l:=by omega
 have Q:=W.mono (w':=y) (fun b j=>z.block b j) (F':=fun b=>b<b1) (fun b j=>by rw[<-V];exact j);have R:=h.inn.to (w':=y) (fun b j=>z.block b SM) (F':=fun b=>b<b1) (fun b j=>by omega);have H:=h.blk.ext z;have k:∀{w:World},Chg (fun b=>b=l) y w->(∀b,b<l->w.heap[b]?=y.heap[b]?)/\y.heap.size<=w.heap.size:=fun {w} d=>⟨fun b j=>d.block b SM SM,d.size⟩
 have T:∀{w:World},Chg (fun b=>b=l) y w->Blk w b1 219 [Tg a]/\Blk w a 223 (oq e K (.slice lo ps.length lc) J fv)/\Sl w (dl w) lo lc ps/\EIn w (dl w) e:=fun {w} d=>
  ⟨(k d).1 b1 I|>.trans x,((k d).1 a SM).trans H,Q.mono (fun b j=>(k d).1 b SM) (fun b j=>by have:=(k d).2;exact(show b<w.heap.size by omega)),R.to (fun b j=>(k d).1 b SM) (fun b j=>by have:=(k d).2;exact(show b<w.heap.size by omega))⟩
 refine TQ ?_;refine CW.loop (S:=Nat×Value×List Raw) (fun s=>[(1,Tg b1),(3,Tg l),(4,.func (.func 202) [].toArray [Tg b1,Tg l].toArray),(14,.slice e.a4 e.W.2.2.2.length e.c4),(15,Te e.W.2.2.2.length),(16,Te s.1)])
  (fun s w=>s.1<=e.W.2.2.2.length/\Blk w l 200 [s.2.1]/\Own w y.heap.size 80 di s.2.1 s.2.2/\InnR w (fun b=>b=l\/s.2.1.ownBlock=some b) s.2.2 ((e.W.2.2.2.take s.1).map fun F=>ps.map fun p=>decide (p.1∈F))/\Chg (fun b=>b=l) y w)
  (fun s=>e.W.2.2.2.length -s.1) (0,.slice none 0 0,[]) SL ⟨QK _,U,Own.nil,InnR.nil,Chg.refl _ _⟩ ?_
 rintro⟨i,ov,vs⟩ w ⟨hi,c,hn,inn,d⟩
 dsimp only at hi c hn inn d⊢
 obtain⟨kb1,kblk,klo,kin⟩:=T d;have kz:=(k d).2;have klt:=fun g E=>hn.lt g E
 refine T2 ?_;apply CW.cond rfl<;>intro h
 ·have f:i<e.W.2.2.2.length:=by simp at h;omega
  have G:=Y _ (OG f);have A:(e.W.2.2.2.take (i+1)).map (fun F=>ps.map fun p=>decide (p.1∈F))=(e.W.2.2.2.take i).map (fun F=>ps.map fun p=>decide (p.1∈F))++[ps.map fun p=>decide (p.1∈e.W.2.2.2[i])]:=by
   rw[PT,On f,Pb];rfl
  refine T7 ?_;refine fh kin.h4 f SX (fun u q M=>?_);obtain⟨ro,rc,rfl,m⟩:=M.sl;clear M;generalize e.W.2.2.2[i]=F at*
  refine TQ ?_;refine eQ (fv:=[]) rfl rfl rfl rfl (pm w (n:=e.W.2.1.length) (of:=Prod.fst) kb1 kblk c hn kz inn klo m G SM (fun w p O=>FnV.mk (cs:=[]) (pE w p)) (fun p O=>(‹Em w0 B e a K _ J fv ps›.ins p O).1) N (by rw[O1,O9];omega) (fun g E=>by have:=(klt g E).1;omega)) ?_;rintro _ w' ⟨ov',vs',t,D,inn4,L,C⟩
  rw[<-A]at inn4
  refine Tn ?_;exact EX.back (i+1,ov',vs') SL ⟨f,t,D,inn4,d.then L (fun b j=>j.imp id (fun j=>(klt b j).1))⟩ SR
 obtain rfl:i=e.W.2.2.2.length:=by simp at h;omega
 rw[PV]at inn
 clear h hi;refine T6 ?_;refine CW.loop (S:=Nat×Value×List Raw) (fun s=>[(1,Tg b1),(3,Tg l),(4,.func (.func 202) [].toArray [Tg b1,Tg l].toArray),(34,.slice e.k5 e.A.2.2.2.2.length e.d5),(35,Te e.A.2.2.2.2.length),(36,Te s.1)])
  (fun s w=>s.1<=e.A.2.2.2.2.length/\Blk w l 200 [s.2.1]/\Own w y.heap.size 80 di s.2.1 s.2.2/\InnR w (fun b=>b=l\/s.2.1.ownBlock=some b) s.2.2 ((e.W.2.2.2.map fun F=>ps.map fun p=>decide (p.1∈F))++(e.A.2.2.2.2.take s.1).map fun F=>ps.map fun p=>decide (p.2∈F))/\Chg (fun b=>b=l) y w)
  (fun s=>e.A.2.2.2.2.length -s.1) (0,ov,vs) SL ⟨QK _,c,hn,by simpa using inn,d⟩ ?_
 clear c hn inn d kb1 kblk klo kin kz klt;rintro⟨i,ov,vs⟩ w ⟨hi,c,hn,inn,d⟩
 dsimp only at hi c hn inn d⊢
 obtain⟨kb1,kblk,klo,kin⟩:=T d;have kz:=(k d).2;have klt:=fun g E=>hn.lt g E
 refine T2 ?_;apply CW.cond rfl<;>intro h
 ·have f:i<e.A.2.2.2.2.length:=by simp at h;omega
  have G:=X _ (OG f);have A:(e.A.2.2.2.2.take (i+1)).map (fun F=>ps.map fun p=>decide (p.2∈F))=(e.A.2.2.2.2.take i).map (fun F=>ps.map fun p=>decide (p.2∈F))++[ps.map fun p=>decide (p.2∈e.A.2.2.2.2[i])]:=by
   rw[PT,On f,Pb];rfl
  refine T7 ?_;refine fh kin.g5 f SX (fun u q M=>?_);obtain⟨ro,rc,rfl,m⟩:=M.sl;clear M;generalize e.A.2.2.2.2[i]=F at*
  refine TQ ?_;refine eQ (fv:=[]) rfl rfl rfl rfl (pm w (n:=e.A.2.1.length) (of:=Prod.snd) kb1 kblk c hn kz inn klo m G SM (fun w p O=>FnV.mk (cs:=[]) (pF w p)) (fun p O=>(‹Em w0 B e a K _ J fv ps›.ins p O).2) N (by rw[OT,O1,O1,O9];omega) (fun g E=>by have:=(klt g E).1;omega)) ?_;rintro _ w' ⟨ov',vs',t,D,inn4,L,C⟩
  rw[NF,<-A]at inn4
  refine Tn ?_;exact EX.back (i+1,ov',vs') SL ⟨f,t,D,inn4,d.then L (fun b j=>j.imp id (fun j=>(klt b j).1))⟩ SR
 obtain rfl:i=e.A.2.2.2.2.length:=by simp at h;omega
 rw[PV]at inn
 obtain⟨so,sc,rfl,hs⟩:=inn.old hn;refine T6 ?_;exact bi rfl rfl ⟨so,sc,rfl,hs,Chg.ext z d (fun b j=>by omega)⟩
class IsKx(P:Program)(k:TypeId):Prop where
 ok:Go.Maps.Keyed P k
theorem IsKx.int{k:TypeId}(h:P.underlying k=some (.int .i64)):IsKx P k:=⟨Go.Maps.int_keyed h⟩
def KeyV.int{k:TypeId}(h:P.underlying k=some (.int .i64))(a: -9223372036854775808<=x/\x<=9223372036854775807):KeyV P k (.int .i64 x):=by
 refine⟨.int .i64 x,?_⟩;unfold keyOf;rw[h];dsimp only;unfold mapKey;rw[h];dsimp only;rw[Sj ⟨rfl,by simp[Lit.wf,IntKind.min,IntKind.max,IntKind.signed,IntKind.bits];omega⟩]
def MapI(P:Program)(k:TypeId)(w:World)(b:Nat)(kv:List (Value×Value)):Prop:=
 ∃(a:Array MapEntry) (clock:Nat),w.heap[b]?=some (.map a clock)/\a.toList.map (fun e=>(e.key,e.val))=kv/\(∀x∈kv,KeyV P k x.1)/\(kv.map Prod.fst).Nodup
section
variable {P:Program}{k:TypeId}{w w':World}{b:Nat}{kv:List (Value×Value)}
theorem MapI.lt(h:MapI P k w b kv):b<w.heap.size:=by
 obtain⟨c,clock,a,_⟩:=h;exact(MH.1 a).1
theorem MapI.at(h:MapI P k w b kv)(a:w'.heap[b]?=w.heap[b]?):MapI P k w' b kv:=by
 obtain⟨c,clock,h1,h2⟩:=h;exact⟨c,clock,a.trans h1,h2⟩
theorem MapI.ext(h:MapI P k w b kv)(a:Ext w w'):MapI P k w' b kv:=h.at (a.block b h.lt)
theorem MapI.kept{row:Option Nat}(h:MapI P k w b kv)(c:w.grownBy w' row)(a:some b≠row):MapI P k w' b kv:=h.at (c.block b h.lt a)
theorem MapI.made(w:World):MapI P k (w.alloc (.map #[] 0)) w.heap.size []:=
 ⟨#[],0,Sf w _,rfl,fun x h=>by simp at h,List.Pairwise.nil⟩
theorem Gf{t e:TypeId}{x:Value}[r:IsM P t k e][o:IsKx P k][F:IsZ0 P e](h:MapI P k w b kv)(m:KeyV P k x):
  (x∉kv.map Prod.fst/\(Instr.lookup t (.map (some b)) x true).run P w=.ok (.tuple #[.int .i64 0,.bool false]) w)\/
  ∃(j:Nat) (E:j<kv.length),kv[j].1=x/\(Instr.lookup t (.map (some b)) x true).run P w=.ok (.tuple #[kv[j].2,.bool true]) w/\(Instr.lookup t (.map (some b)) x false).run P w=.ok kv[j].2 w:=by
 obtain⟨p,clock,C,a,s,G⟩:=h;obtain⟨l,m⟩:=m;obtain⟨i,h1,h2⟩:=QT.1 F.ok;have q:(zeroValue e).run P w=.ok (.int .i64 0) w:=by simp[zeroValue,typeInfo,h1,h2]
 have c:∀e∈p.toList,∃l,keyOf P k e.key=some l:=fun e B=>s (e.key,e.val) (a▸Pr.2 ⟨e,B,rfl⟩)
 rcases o.ok.find w m p.toList c with⟨g1,g2⟩|⟨j,I,g1,g2,g3⟩
 ·refine .inl ⟨fun D=>?_,by simp[Instr.lookup,Sy r.ok,P2 C,o.ok.check w _ m,g1,q,Result.andThen]⟩
  rw[<-a,Pe]at D
  obtain⟨e,B,A⟩:=Pr.1 D;exact g2 e B A
 ·have E:j<kv.length:=by rw[<-a,O1];exact(Oq.1 g2).1
  have H:j<p.toList.length:=(Oq.1 g2).1;have f:p.toList[j]=I:=(Oq.1 g2).2;subst a;refine .inr ⟨j,E,?_,?_,?_⟩
  ·rw[OF,<-g3,f]
  ·rw[OF,f]
   simp[Instr.lookup,Sy r.ok,P2 C,o.ok.check w _ m,g1,Result.andThen]
  ·rw[OF,f]
   simp[Instr.lookup,Sy r.ok,P2 C,o.ok.check w _ m,g1,Result.andThen]
theorem Gh{t e:TypeId}{x y:Value}[F:IsM P t k e][C:IsKx P k](h:MapI P k w b kv)(E:KeyV P k x)(hn:x∉kv.map Prod.fst):
  ∃w',(Instr.mapUpdate t (.map (some b)) x y).run P w=.ok () w'/\MapI P k w' b (kv++[(x,y)])/\w.grownBy w' (some b):=by
 obtain⟨B,clock,A,o,q,r⟩:=h;obtain⟨l,f⟩:=E;have m:∀e∈B.toList,∃l,keyOf P k e.key=some l:=fun e G=>q (e.key,e.val) (o▸Pr.2 ⟨e,G,rfl⟩)
 have s:=(MH.1 A).1;rcases C.ok.find w f B.toList m with⟨g1,g2⟩|⟨j,I,g1,g2,g3⟩
 ·refine⟨_,by simp[Instr.mapUpdate,Sy F.ok,P2 A,C.ok.check w false f,g1,P3 _ A,Result.andThen];rfl,?_,?_⟩
  ·refine⟨B.push ⟨x,y,clock⟩,clock+1,by simp[s],by simp[o],fun z p=>?_,?_⟩
   ·rcases Ph.1 p with p|p
    ·exact q z p
    ·rw[Py]at p;subst p;exact⟨l,f⟩
   ·rw[Pb,PB]
    refine⟨r,by simp,fun a H c D e=>?_⟩;simp at D
    subst D;subst e;exact hn H
  ·exact⟨rfl,rfl,rfl,by simp,fun i _ hi=>by
    simp only[MM];rw[Si (fun e=>hi (by rw[e]))]⟩
 ·refine absurd ?_ hn
  rw[<-o,Pe];exact Pr.2 ⟨I,Pu g2,g3⟩
end
section
variable {P:Program}{Q:Exit->Act->World->Prop}{n:Nat}{σ:Sg}{w:World}{L rest:List Oper}{d:Nat}{ty:TypeId}{pos:String}{af:Array Edge}{g:Option (Nat×Bool)}{t k e:TypeId}{b:Nat}{kv:List (Value×Value)}{x y z:Operand}{v u:Value}
theorem fM(m:gd L σ ⟨some d,.lookup t x y true,ty,pos,af,g⟩=some true)(hd:Nat.ble (d+1) n=true)(i:ev σ x=some (.map (some b)))(f:ev σ y=some v)[q:IsM P t k e][r:IsKx P k][p:IsZ0 P e]
  (h:MapI P k w b kv) (o:KeyV P k v)
  (h1:v∉kv.map Prod.fst->WL P L Q rest n ((d,.tuple ⟨[.int .i64 0,.bool false]⟩)::σ) w)
  (h2:∀(j:Nat) (l:j<kv.length),kv[j].1=v->WL P L Q rest n ((d,.tuple ⟨[kv[j].2,.bool true]⟩)::σ) w):
  WL P L Q (⟨some d,.lookup t x y true,ty,pos,af,g⟩::rest) n σ w:=by
 rcases Gf (t:=t) h o with⟨g1,g2⟩|⟨j,l,g1,g2,_⟩
 ·refine WL.run m hd (fun a c=>?_) (h1 g1)
  simp[execOp,c.ev i,c.ev f,g2]
 ·refine WL.run m hd (fun a c=>?_) (h2 j l g1)
  simp[execOp,c.ev i,c.ev f,g2]
theorem fN{j:Nat}(m:j<kv.length)(c:kv[j].1=v)(A:gd L σ ⟨some d,.lookup t x y false,ty,pos,af,g⟩=some true)(hd:Nat.ble (d+1) n=true)(q:ev σ x=some (.map (some b)))(p:ev σ y=some v)[C:IsM P t k e][D:IsKx P k][B:IsZ0 P e]
  (h:MapI P k w b kv) (r:KeyV P k v)
  (s:WL P L Q rest n ((d,kv[j].2)::σ) w):WL P L Q (⟨some d,.lookup t x y false,ty,pos,af,g⟩::rest) n σ w:=by
 have f:(kv.map Prod.fst).Nodup:=by obtain⟨_,_,_,_,_,h⟩:=h;exact h
 rcases Gf (t:=t) h r with⟨g1,g2⟩|⟨i,hi,g1,_,g3⟩
 ·exact absurd (Pr.2 ⟨kv[j],OG m,c⟩) g1
 ·have l:i=j:=by
   have h1:(kv.map Prod.fst)[i]'(by simpa using hi)=(kv.map Prod.fst)[j]'(by simpa using m):=by simp[g1,c]
   exact(List.getElem_inj f).1 h1
  subst l;refine WL.run A hd (fun a o=>?_) s;simp[execOp,o.ev q,o.ev p,g3]
theorem fR(o:gd L σ ⟨none,.mapUpdate t x y z,ty,pos,af,g⟩=some true)(j:ev σ x=some (.map (some b)))(i:ev σ y=some v)(c:ev σ z=some u)[p:IsM P t k e][q:IsKx P k]
  (h:MapI P k w b kv) (l:KeyV P k v) (hn:v∉kv.map Prod.fst)
  (m:∀w',MapI P k w' b (kv++[(v,u)])->w.grownBy w' (some b)->WL P L Q rest n σ w'):
  WL P L Q (⟨none,.mapUpdate t x y z,ty,pos,af,g⟩::rest) n σ w:=by
 obtain⟨w',g1,g2,g3⟩:=Gh (t:=t) (y:=u) h l hn;refine fY o (fun a f=>?_) (m w' g2 g3);simp[execOp,f.ev j,f.ev i,f.ev c,g1]
theorem fQ(c:gd L σ ⟨some d,.makeMap t none,ty,pos,af,g⟩=some true)(hd:Nat.ble (d+1) n=true)
  (h:MapI P k (w.alloc (.map #[] 0)) w.heap.size []->WL P L Q rest n ((d,.map (some w.heap.size))::σ) (w.alloc (.map #[] 0))):
  WL P L Q (⟨some d,.makeMap t none,ty,pos,af,g⟩::rest) n σ w:=by
 refine WL.run c hd (fun a f=>?_) (h (MapI.made w));simp[execOp,Instr.makeMap]
end
open Go.Shelf
def Fx:Ren:=⟨fun _=>206,fun x=>if Nat.beq x 3=true then 3 else if Nat.beq x 4=true then 4 else if Nat.beq x 28=true then 39 else 0,fun x=>x⟩
set_option maxRecDepth 100000 in
def Fw:Lays.n112 UA Fx where
 mixed:=by kernel_rfl
 f112:=(Tryz.func206).trans SN
 t0:=by kernel_rfl
 a0:=fun w=>rfl
 z0:=fun w=>rfl
 v0:=fun w=>rfl
 t3:=Rw
 a3:=Q8
 z3:=Rg
 v3:=RM
 t4:=RC
 a4:=Q9
 z4:=Ri
 v4:=RO
 t28:=RB
 a28:=Tryz.isAgg39
 z28:=Tryz.sizeOf39
 v28:=Tryz.zeroValue39
def oS{xs:List Int}(h:Elems w F r xs):r=xs.map fun x=>Te x:=by
 refine N4 (by rw[O1,h.1];show _*1=_;omega) fun i h1 h2=>?_
 rw[O1]at h2
 have h3:=h.2 i h2;have b:sz Int=1:=rfl;rw[b,Qv]at h3
 have h4:=E7 h3;have a:=R5 (fun l:List Value=>l[0]?) h4;simp only[Oy (show 0<1 by omega),Om,P9,On h1]at a
 simpa using a
def oT(w:World)(F:Nat->Prop):∀xs:List Int,Elems w F (xs.map fun x=>Te x) xs
 |[]=>Elems.nil
 |x::r=>by
  have:=(Elems.one (E9 w F x)).append (oT w F r);simpa using this
def Fy(w:World){xs:List Int}(a:Own w B 3 di v xs):
  Rt UA 206 [v].toArray w fun u w'=>u=.tuple #[]/\Own w' B 3 di v xs.reverse/\w.grownBy w' v.ownBlock:=by
 have A:w.grownBy w v.ownBlock:=⟨rfl,rfl,rfl,Qj _,fun _ _ _=>rfl⟩;rcases a with⟨rfl,rfl⟩|⟨g,off,cap,cur,rfl,a⟩
 ·refine Ng (Any.slices_Reverse_int_empty Fw none 0 w) ?_
  rintro e w' ⟨rfl,rfl⟩
  exact⟨_,rfl,rfl,Own.nil,A⟩
 ·have o:sz Int=1:=rfl
  have l:=a.fit;have y:=a.le;have h:=a.mx;have m:=oS a.el;rw[o,Qv]at l m
  have b:∀j (c:j<xs.length),cur[off+j]?=some (Te xs[j]):=fun j c=>by
   have h1:((cur.toList.drop off).take xs.length)[j]?=(xs.map fun x=>Te x)[j]?:=by rw[m]
   rw[Oy c,Om,Ot,On c]at h1
   simpa using h1
  have C:Sort.Holds (Value.int .i64) w g off xs.toArray:=fun j c=>by
   have i:j<xs.length:=by simpa using c
   constructor
   ·have:xs.toArray[j]! =xs[j]:=by simp[i]
    rw[this];simp[World.cell?,a.blk,b j i]
   ·simp[World.frozen?,a.blk]
  refine Ng (Any.slices_Reverse_int Fw g off cap xs w C (by unfold maxLen at h;omega)) ?_;rintro e w' ⟨rfl,n,rfl⟩
  have f:(Sort.putRow (Value.int .i64) (Sort.ahead w n) g off xs.reverse.toArray).heap[g]?=some (.cells (Sort.putCells (Value.int .i64) off xs.reverse.toArray cur) 3 (0,0)):=by
   show(w.heap.modify g _)[g]?=_;rw[MJ,Sj rfl,a.blk];rfl
  have d:∀k,k≠g->(Sort.putRow (Value.int .i64) (Sort.ahead w n) g off xs.reverse.toArray).heap[k]?=w.heap[k]?:=fun k z=>by
   show(w.heap.modify g _)[k]?=_;rw[MJ,Si (fun e=>z e.symm)]
  have q:(Sort.putRow (Value.int .i64) (Sort.ahead w n) g off xs.reverse.toArray).heap.size=w.heap.size:=by
   show(w.heap.modify g _).size=_;rw[MR]
  have t:(Sort.putRow (Value.int .i64) (Sort.ahead w n) g off xs.reverse.toArray).os=w.os:=rfl;have p:(Sort.putRow (Value.int .i64) (Sort.ahead w n) g off xs.reverse.toArray).tape=w.tape:=rfl;have s:(Sort.putRow (Value.int .i64) (Sort.ahead w n) g off xs.reverse.toArray).output=w.output:=rfl;generalize Sort.putRow (Value.int .i64) (Sort.ahead w n) g off xs.reverse.toArray=w' at*
  have r:(Sort.putCells (Value.int .i64) off xs.reverse.toArray cur).size=cur.size:=by simp[Sort.putCells]
  refine⟨_,rfl,rfl,.inr ⟨g,off,cap,_,by rw[O6],⟨f,a.ge,a.nF,by simpa using y,h,by rw[r,o];omega,?_⟩⟩,⟨t,p,s,by omega,fun k _ z=>d k (fun e=>z (by rw[e];rfl))⟩⟩;have D:(((Sort.putCells (Value.int .i64) off xs.reverse.toArray cur).toList.drop off).take (xs.reverse.length*sz Int))=xs.reverse.map fun x=>Te x:=by
   rw[o,Qv];refine N5 fun j=>?_
   by_cases c:j<xs.length
   ·rw[Oy (by simpa using c),Om,MO,Sort.putCells,MI,b j c,Ot,On (by simpa using c)]
    simp[c,show off+j<off+xs.length by omega]
   ·rw[Oo (by simp;try omega),Oo (by simp;try omega)]
  rw[D];exact oT _ _ _
def aQ{to al:Nat->Bool}{up:UP}{h:Nat}{x:Int×Int}(hh:h<=up.length)
  (hd:∀i (hi:i<up.length),i<h->to up[i].1.toNat=false/\∀k∈g.getD up[i].1.toNat [],al k.toNat=true->k∈zH up):
  ∀i (hi:i<(up++[x]).length),i<h->to (up++[x])[i].1.toNat=false/\∀k∈g.getD (up++[x])[i].1.toNat [],al k.toNat=true->k∈zH (up++[x]):=fun i hi a=>by
 have b:i<up.length:=by omega
 rw[Oz b];refine⟨(hd i b a).1,fun k c d=>?_⟩;unfold zH;rw[Pb];exact Pi _ ((hd i b a).2 k c d)
instance:IsM UA 282 3 3:=⟨Tryz.underlying282⟩
instance:IsZ0 UA 3:=⟨by kernel_rfl⟩
instance:IsKx UA 3:=IsKx.int Rw
def zT(up:UP):List (Value×Value):=up.map fun x=>(Value.int .i64 x.1,Value.int .i64 x.2)
def zV{up:UP}{x:Int×Int}:zT up++[(Te x.1,Te x.2)]=zT (up++[x]):=by unfold zT;simp
def kvU_key{up:UP}:Te x∈(zT up).map Prod.fst↔x∈zH up:=by
 unfold zT zH;simp only[Pe,Pr,Function.comp];constructor
 ·rintro⟨a,b,e⟩;injection e with _ e;exact⟨a,b,e⟩
 ·rintro⟨a,b,e⟩;exact⟨a,b,by rw[e]⟩
def zU{up:UP}:(zT up).length=up.length:=by unfold zT;simp
def zn(h:0<=x/\x<9223372036854775807):KeyV UA 3 (Te x):=KeyV.int Rw ⟨by omega,by omega⟩
def pP(w0:World){x0 x3 x4 x5 x6 x7 x8 x9 x10 x12 fv:Value}{fo:Option Addr}{fc:Nat}{fr part:List Int}{only:Int}{to:Nat->Bool}
  (hb:Blk w0 B 223 [x0,o,J,x3,x4,x5,x6,x7,x8,x9,x10,.slice C g.length a,x12]) (t:Sl w0 (dl w0) C a g) (hf:Sl w0 (dl w0) fo fc fr) (hp:Sl w0 (dl w0) D K part)
  (hG:okG g) (hfr:CQ g.length fr) (hpl:part.length=g.length) (hN:g.length<=1228800)
  (hto:∀w,Ext w0 w->∀n:Nat,n<g.length->FnV UA fv [Te (n:Int)] w fun v w'=>v=.bool (to n)/\Ext w w'):
  Rt UA 126 [Tg B,.slice fo fr.length fc,fv,.slice D part.length K,Te only].toArray w0 fun v w'=>∃r,Own w' w0.heap.size 3 di v r/\((r=[]/\gp g fr to (gB part only))\/WyOK g fr to (gB part only) r)/\Ext w0 w':=by
 have hfl:=hf.len63;refine dY Tryz.func126 Tryz.ntmps126 rfl rfl ?_;refine T2 ?_;refine fQ (k:=3) rfl rfl (fun hmap=>?_);have e1:Ext w0 (w0.alloc (.map #[] 0)):=Ext.alloc w0 _;generalize hmb:w0.heap.size=mb at*
 generalize w0.alloc (.map #[] 0)=Q at*
 have lmb:=hmap.lt;have hle1:=e1.size;refine TR ?_;refine CW.loop (S:=Nat×UP×Value) (fun s=>[(0,Tg B),(2,fv),(3,.slice D part.length K),(4,Te only),(11,.map (some mb)),(12,s.2.2),(24,.slice fo fr.length fc),(25,Te fr.length),(26,Te s.1)])
  (fun s w=>s.1<=fr.length/\WyC g fr (gB part only) s.2.1/\(∀x∈fr.take s.1,x∈zH s.2.1)/\MapI UA 3 w mb (zT s.2.1)/\Own w Q.heap.size 3 di s.2.2 (zH s.2.1)/\Ext w0 w/\Q.heap.size<=w.heap.size) (fun s=>fr.length -s.1) (0,[],.slice none 0 0) SL ⟨QK _,WyC.nil,(fun x I=>by simp at I),hmap,Own.nil,e1,Qj _⟩ ?_
 clear hmap;rintro⟨i,up,tv⟩ w2 ⟨hi,H,c,L,E,A,T⟩
 dsimp only at hi H c L E A T⊢
 have hul:=H.len;have hkl:(zH up).length=up.length:=O1 _;have G:=fun g t=>E.lt g t
 refine T2 ?_;apply CW.cond rfl<;>intro h
 ·have Y:i<fr.length:=by simp at h;omega
  have hxr:=hfr _ (OG Y);have htk:fr.take (i+1)=fr.take i++[fr[i]]:=PZ Y;have hxm:=OG Y;refine T7 ?_;refine ff (hf.up A) Y rfl SX (fun q=>?_);generalize fr[i]=x at*
  refine T2 ?_;refine fM rfl rfl rfl rfl L (zn ⟨hxr.1,by omega⟩) (fun hn=>?_) (fun j hj hjx=>?_)
  ·have hn:=fun h=>hn (kvU_key.2 h)
   refine T4 ?_;refine fR rfl rfl rfl rfl L (zn ⟨hxr.1,by omega⟩) (fun h=>hn (kvU_key.1 h)) (fun w3 W hg3=>?_);rw[zV (x:=(x,-1))]at W
   have ho3:=E.keptN hg3 (fun g t e=>by have:=(G g t).1;have:=QV e;omega);have O:Ext w0 w3:=A.grown hg3 A.size S2;have hz3:=hg3.size;refine T2 ?_;refine eH (F:=di) (yv:=x) rfl rfl SX rfl rfl SX ho3 S_ SM S0 SP SS SM (fun tv' w4 p ho4 hg4 hnb4=>?_);have hM4:=W.kept hg4 (fun e=>by have:=(G _ e.symm).1;omega);have X:Ext w0 w4:=O.grown hg4 O.size (fun g t=>by have:=(G g t).1;omega);have R:=hg4.size;refine Tn ?_;refine EX.back (i+1,up++[(x,-1)],tv') SL ⟨Y,H.push hn hxr (.inl ⟨rfl,hxm⟩),fun y M=>?_,hM4,by simpa[zH]using ho4,X,by omega⟩ SR;dsimp only at M⊢
   rw[htk]at M
   unfold zH;rw[Pb];rcases Ph.1 M with M|M
   ·exact Pi _ (c y M)
   ·rw[Py]at M;subst M;exact Pj _ SQ
  ·have hxk:x∈zH up:=kvU_key.1 (by rw[<-hjx];exact Pr.2 ⟨_,OG hj,rfl⟩)
   refine TC ?_;refine EX.back (i+1,up,tv) SL ⟨Y,H,fun y M=>?_,L,E,A,T⟩ SR;dsimp only at M⊢
   rw[htk]at M
   rcases Ph.1 M with M|M
   ·exact c y M
   ·rw[Py]at M;subst M;exact hxk
 obtain rfl:i=fr.length:=by simp at h;omega
 rw[PV]at c
 clear h hi;refine Ub ?_;refine CW.loop (S:=Nat×UP×Value) (fun s=>[(0,Tg B),(2,fv),(3,.slice D part.length K),(4,Te only),(11,.map (some mb)),(12,s.2.2)])
  (fun s w=>s.1<=s.2.1.length/\WyC g fr (gB part only) s.2.1/\(∀x∈fr,x∈zH s.2.1)/\(∀i (hi:i<s.2.1.length),i<s.1->to s.2.1[i].1.toNat=false/\∀k∈g.getD s.2.1[i].1.toNat [],gB part only k.toNat=true->k∈zH s.2.1)/\MapI UA 3 w mb (zT s.2.1)/\Own w Q.heap.size 3 di s.2.2 ((zH s.2.1).drop s.1)/\Ext w0 w/\Q.heap.size<=w.heap.size) (fun s=>g.length -s.1) (0,up,tv) SL ⟨QK _,H,c,fun i hi h=>absurd h SQ,L,by simpa using E,A,T⟩ ?_
 clear H c L E A T hul hkl G;rintro⟨h,up,tv⟩ w2 ⟨hh,H,c,hD,L,E,A,T⟩
 dsimp only at hh H c hD L E A T⊢
 have hul:=H.len;have hkl:(zH up).length=up.length:=O1 _;have G:=fun g t=>E.lt g t
 have hdl:((zH up).drop h).length=up.length -h:=by rw[OW,hkl]
 refine TU ?_;apply CW.cond rfl<;>intro P
 ·have f:h<up.length:=by rw[hdl]at P;simp at P;omega
  have hhk:h<(zH up).length:=by omega
  have hd0:0<((zH up).drop h).length:=by omega
  have hget:((zH up).drop h)[0]=up[h].1:=by rw[OE];simp[zH]
  have hnr:=H.rg _ (Pr.2 ⟨up[h],OG f,rfl⟩);refine TL ?_;refine fj (i:=0) rfl rfl rfl rfl rfl E hd0 SX (fun u q hu=>?_);obtain rfl:=hu.int;rw[hget];obtain⟨n,hn⟩:∃n:Nat,up[h].1=(n:Int):=⟨up[h].1.toNat,by omega⟩;rw[hn];rw[hn]at hnr
  refine T2 ?_;refine eZ (α:=Int) 1 rfl rfl rfl rfl rfl E SM (fun tv2 ho2 hob=>?_);rw[NU]at ho2
  refine T2 ?_;refine eO rfl rfl rfl rfl (hto w2 A n SM) ?_;rintro _ w3 ⟨rfl,e3⟩
  have W:=L.ext e3;have ho3:=ho2.extN e3;have O:=A.trans e3;have hz3:Q.heap.size<=w3.heap.size:=Qk T e3.size;have hlt3:=fun g t=>ho3.lt g t
  cases htn:to n
  ·
   have hgn:n<g.length:=by omega
   have hrow:g.getD n []=g[n]:=by rw[Oi,On hgn];rfl
   have hrr:CQ g.length g[n]:=hG _ (OG hgn);have hb3:=hb.ext O;refine T_ ?_;refine fg (i:=n) rfl rfl rfl rfl rfl (t.mono (w':=w3) O.block (F':=dl w0) S3) hgn SX (fun u q hu=>?_);obtain⟨ro,rc,rfl,hrs⟩:=hu.sl;generalize g[n]=row at*
   have hrl:=hrs.len63;refine TR ?_;refine CW.loop (S:=Nat×UP×Value) (fun s=>[(0,Tg B),(2,fv),(3,.slice D part.length K),(4,Te only),(11,.map (some mb)),(12,s.2.2),(17,Te n),(74,.slice ro row.length rc),(75,Te row.length),(76,Te s.1)])
    (fun s w=>s.1<=row.length/\WyC g fr (gB part only) s.2.1/\(∀x∈fr,x∈zH s.2.1)/\(∀i (hi:i<s.2.1.length),i<h->to s.2.1[i].1.toNat=false/\∀k∈g.getD s.2.1[i].1.toNat [],gB part only k.toNat=true->k∈zH s.2.1)/\(∃f:h<s.2.1.length,s.2.1[h].1=(n:Int))/\(∀k∈row.take s.1,gB part only k.toNat=true->k∈zH s.2.1)/\MapI UA 3 w mb (zT s.2.1)/\Own w Q.heap.size 3 di s.2.2 ((zH s.2.1).drop (h+1))/\Ext w0 w/\Q.heap.size<=w.heap.size) (fun s=>row.length -s.1) (0,up,tv2) SL ⟨QK _,H,c,hD,⟨f,hn⟩,(fun k hk=>by simp at hk),W,by simpa[P4]using ho3,O,hz3⟩ ?_
   clear H c hD W ho3 hul P ho2 hob hlt3;rintro⟨j,up,tv⟩ w4 ⟨hj,H,c,hD,⟨f,hn⟩,hpt,L,E,d,R⟩
   dsimp only at hj H c hD f hn hpt L E d R⊢
   have hul:=H.len;have hkl:(zH up).length=up.length:=O1 _;have G:=fun g t=>E.lt g t
   refine T2 ?_;apply CW.cond rfl<;>intro P
   ·have U:j<row.length:=by simp at P;omega
    have hkr:=hrr _ (OG U);have hkm:row[j]∈g.getD n []:=by rw[hrow];exact OG U
    have htk:row.take (j+1)=row.take j++[row[j]]:=PZ U;have skip:∀(I:gB part only row[j].toNat=true->row[j]∈zH up),∀k∈row.take (j+1),gB part only k.toNat=true->k∈zH up:=fun I k hk Z=>by
     rw[htk]at hk
     rcases Ph.1 hk with hk|hk
     ·exact hpt k hk Z
     ·rw[Py]at hk;subst hk;exact I Z
    refine T7 ?_;refine ff (hrs.mono (w':=w4) (fun b hb=>(d.block b hb).trans (O.block b hb).symm) (F':=dl w0) S3) U rfl SX (fun q=>?_);generalize row[j]=k at*
    obtain⟨kn,rfl⟩:∃m:Nat,k=(m:Int):=⟨k.toNat,by omega⟩;have hkp:kn<part.length:=by omega
    have hpk:part.getD kn 0=part[kn]:=by rw[Oi,On hkp];rfl
    rw[Nt]at skip
    refine T2 ?_;refine fM rfl rfl rfl rfl L (zn ⟨hkr.1,by omega⟩) (fun hnk=>?_) (fun i hi hix=>?_)
    ·have hnk:=fun h=>hnk (kvU_key.2 h)
     have hpush:∀(Z:gB part only kn=true) (w5:World) (tv':Value),MapI UA 3 w5 mb (zT (up++[((kn:Int),(n:Int))]))->Own w5 Q.heap.size 3 di tv' ((zH up).drop (h+1)++[(kn:Int)])->Ext w0 w5->Q.heap.size<=w5.heap.size->
       (j+1<=row.length/\WyC g fr (gB part only) (up++[((kn:Int),(n:Int))])/\(∀x∈fr,x∈zH (up++[((kn:Int),(n:Int))]))/\(∀i (hi:i<(up++[((kn:Int),(n:Int))]).length),i<h->to (up++[((kn:Int),(n:Int))])[i].1.toNat=false/\∀k∈g.getD (up++[((kn:Int),(n:Int))])[i].1.toNat [],gB part only k.toNat=true->k∈zH (up++[((kn:Int),(n:Int))]))/\(∃f:h<(up++[((kn:Int),(n:Int))]).length,(up++[((kn:Int),(n:Int))])[h].1=(n:Int))/\(∀k∈row.take (j+1),gB part only k.toNat=true->k∈zH (up++[((kn:Int),(n:Int))]))/\MapI UA 3 w5 mb (zT (up++[((kn:Int),(n:Int))]))/\Own w5 Q.heap.size 3 di tv' ((zH (up++[((kn:Int),(n:Int))])).drop (h+1))/\Ext w0 w5/\Q.heap.size<=w5.heap.size):=by
      intro Z w5 tv' z ho5 N hz5
      have hin:∀x,x∈zH up->x∈zH (up++[((kn:Int),(n:Int))]):=fun x I=>by unfold zH;rw[Pb];exact Pi _ I
      refine⟨U,H.push hnk hkr (.inr ⟨h,f,by rw[hn],by rw[hn,Nt];exact hkm,by rw[Nt];exact Z⟩),fun x I=>hin x (c x I),aQ SM hD,⟨by simp;omega,by rw[Oz f];exact hn⟩,fun x I hxa=>?_,z,?_,N,hz5⟩
      ·rw[htk]at I
       rcases Ph.1 I with I|I
       ·exact hin x (hpt x I hxa)
       ·rw[Py]at I;subst I;unfold zH;rw[Pb];exact Pj _ SQ
      ·rw[show(zH (up++[((kn:Int),(n:Int))])).drop (h+1)=(zH up).drop (h+1)++[(kn:Int)] by
        unfold zH;rw[Pb,NT ST];rfl]
       exact ho5
     have hdlen:((zH up).drop (h+1)).length<=1228800:=by rw[OW];omega
     have ins:∀(w5:World) (z:MapI UA 3 w5 mb (zT up++[(Te (kn:Int),Te (n:Int))])) (l:w4.grownBy w5 (some mb)),Own w5 Q.heap.size 3 di tv ((zH up).drop (h+1))/\Ext w0 w5/\Q.heap.size<=w5.heap.size:=fun w5 z l=>
      ⟨E.keptN l (fun g t e=>by have:=(G g t).1;have:=QV e;omega),d.grown l d.size S2,by have:=l.size;omega⟩
     by_cases hon:only<0
     ·have Z:gB part only kn=true:=by unfold gB;rw[R9 hon];rfl
      refine T2 ?_;rw[R9 hon];refine TA ?_;refine fR rfl rfl rfl rfl L (zn ⟨hkr.1,by omega⟩) (fun h=>hnk (kvU_key.1 h)) (fun w5 z l=>?_);obtain⟨ho5,N,hz5⟩:=ins w5 z l;refine T2 ?_;refine eH (F:=di) (yv:=(kn:Int)) rfl rfl SX rfl rfl SX ho5 S_ SM S0 SP SS SM (fun tv' w6 p ho6 V hnb6=>?_);have hM6:=z.kept V (fun e=>by have:=(G _ e.symm).1;omega);rw[zV (x:=((kn:Int),(n:Int)))]at hM6
      refine Tn ?_;exact EX.back (j+1,up++[((kn:Int),(n:Int))],tv') SL (hpush Z w6 tv' hM6 ho6 (N.grown V N.size (fun g t=>by have:=(G g t).1;omega)) (by have:=V.size;omega)) SR
     by_cases hpe:part[kn]=only
     ·have Z:gB part only kn=true:=by unfold gB;rw[hpk,R9 hpe,Nc]
      refine T2 ?_;rw[R7 hon];refine Ue ?_;refine ff (hp.at d) hkp rfl SX (fun q=>?_);rw[hpe];refine Tl ?_;refine CW.cond rfl (fun _=>?_) (fun I=>by simp at I);refine TP ?_;refine fR rfl rfl rfl rfl L (zn ⟨hkr.1,by omega⟩) (fun h=>hnk (kvU_key.1 h)) (fun w5 z l=>?_);obtain⟨ho5,N,hz5⟩:=ins w5 z l;refine T2 ?_;refine eH (F:=di) (yv:=(kn:Int)) rfl rfl SX rfl rfl SX ho5 S_ SM S0 SP SS SM (fun tv' w6 p ho6 V hnb6=>?_);have hM6:=z.kept V (fun e=>by have:=(G _ e.symm).1;omega);rw[zV (x:=((kn:Int),(n:Int)))]at hM6
      refine Tn ?_;exact EX.back (j+1,up++[((kn:Int),(n:Int))],tv') SL (hpush Z w6 tv' hM6 ho6 (N.grown V N.size (fun g t=>by have:=(G g t).1;omega)) (by have:=V.size;omega)) SR
     ·have Z:¬gB part only kn=true:=by unfold gB;rw[hpk,R7 hpe,R7 hon];decide
      refine T2 ?_;rw[R7 hon];refine Ue ?_;refine ff (hp.at d) hkp rfl SX (fun q=>?_);refine Tl ?_;refine CW.cond rfl (fun I=>absurd (by simpa using I) hpe) (fun _=>?_);refine Tj ?_;exact EX.back (j+1,up,tv) SL ⟨U,H,c,hD,⟨f,hn⟩,skip (fun h=>absurd h Z),L,E,d,R⟩ SR
    ·have hxk:(kn:Int)∈zH up:=kvU_key.1 (by rw[<-hix];exact Pr.2 ⟨_,OG hi,rfl⟩)
     refine TC ?_;exact EX.back (j+1,up,tv) SL ⟨U,H,c,hD,⟨f,hn⟩,skip (fun _=>hxk),L,E,d,R⟩ SR
   ·obtain rfl:j=row.length:=by simp at P;omega
    rw[PV]at hpt
    refine Tt ?_;refine EX.back (h+1,up,tv) SL ⟨f,H,c,fun i hi hih=>?_,L,E,d,R⟩ SR;dsimp only at hi hih⊢
    by_cases e:i<h
    ·exact hD i hi e
    ·obtain rfl:i=h:=by omega
     rw[hn,Nt];exact⟨htn,fun k hk Z=>hpt k (by rw[<-hrow];exact hk) Z⟩
  ·
   have hq1:Te (n:Int)=Te (Ct up (h+1)):=by
    rw[<-hn];unfold Ct;rw[Sd ⟨by omega,by omega⟩];rfl
   refine TQ ?_;rw[hq1];refine CW.loop (S:=Nat×List Int×Value) (fun s=>[(11,.map (some mb)),(17,Te (Ct up s.1)),(18,s.2.2)])
    (fun s w=>BackI g fr (gB part only) up h s.1 s.2.1/\MapI UA 3 w mb (zT up)/\Own w Q.heap.size 3 di s.2.2 s.2.1/\Ext w0 w/\Q.heap.size<=w.heap.size) (fun s=>s.1) (h+1,[],.slice none 0 0) SL ⟨BackI.start f,W,Own.nil,O,hz3⟩ ?_
   clear W ho3 hlt3;rintro⟨q,out,ov⟩ w4 ⟨hI,L,E,X,R⟩
   dsimp only at hI L E X R⊢
   have hq:=hI.hq;have hlen:=hI.len;have hltq:=fun g t=>E.lt g t
   refine T2 ?_;apply CW.cond rfl<;>intro P
   ·have P:0<=Ct up q:=by simpa using P
    have h0:0<q:=by
     rcases Qe q with e|e
     ·subst e;simp[Ct]at P
     ·exact e
    have hqn:Ct up q=up[q -1].1:=by unfold Ct;rw[Sd ⟨h0,hq⟩]
    obtain⟨q',hq',hv,hI'⟩:=hI.step H h0;have hqr:=H.rg _ (Pr.2 ⟨up[q -1],OG SM,rfl⟩);have hkq:q -1<(zT up).length:=by rw[zU];omega
    have hk1:(zT up)[q -1].1=Te (Ct up q):=by rw[hqn];simp[zT]
    have hk2:(zT up)[q -1].2=Te (Ct up q'):=by rw[<-hv];simp[zT]
    refine TL ?_;refine eH (F:=di) (yv:=Ct up q) rfl rfl SX rfl rfl SX E S_ SM S0 SP SS SM (fun ov' w5 p ho5 l hnb5=>?_);have z:=L.kept l (fun e=>by have:=(hltq _ e.symm).1;omega);have N:Ext w0 w5:=X.grown l X.size (fun g t=>by have:=(hltq g t).1;omega);rw[hqn]at ho5
    refine Tn ?_;refine fN (j:=q -1) hkq hk1 rfl rfl rfl rfl z (zn ⟨P,by rw[hqn];omega⟩) ?_;rw[hk2];refine TK ?_;exact EX.back (q',out++[up[q -1].1],ov') SL ⟨hI',z,ho5,N,by have:=l.size;omega⟩ hq'
   ·have P:¬0<=Ct up q:=by simpa using P
    obtain rfl:q=0:=by
     rcases Qe q with e|e
     ·exact e
     ·refine absurd ?_ P
      unfold Ct;rw[Sd ⟨e,hq⟩];exact(H.rg _ (Pr.2 ⟨up[q -1],OG SM,rfl⟩)).1
    refine TO ?_;refine eN (Fy w4 E) ?_;rintro _ w5 ⟨rfl,hor,hgr⟩
    refine Th ?_;exact bi rfl rfl ⟨out.reverse,hor.low SM,.inr (hI.done H (by rw[hn];exact htn)),X.grown hgr X.size (fun g t=>by have:=(hltq g t).1;omega)⟩
 ·obtain rfl:h=up.length:=by rw[hdl]at P;simp at P;omega
  refine TO ?_;exact bi rfl rfl ⟨[],Own.nil,.inl ⟨rfl,zH up,c,fun x I=>by
   obtain⟨y,M,rfl⟩:=Pr.1 I;obtain⟨i,hi,rfl⟩:=Pq.1 M;exact hD i hi hi⟩,A⟩
def Kr{g:bZ}{m:Nat}(h:m<(Kn g).length):(Kn g)[m]=((List.range g.length).filter (fun k=>(g.getD k []).contains (m:Int))).map (fun k:Nat=>(k:Int)):=by
 have e:(Kn g)[m]=Ka g g.length 0 m:=Kt _;rw[e];unfold Ka;simp
def EW{g:bZ}{b:Nat}(h:Rch (Kn g) [(a:Int)] b):Rch g [(b:Int)] a:=by
 induction h with
 |@base x c=>
  have:x=(a:Int):=by simpa using c
  subst this;simpa using Rch.self a
 |@step m x _ c e=>
  by_cases f:m<g.length
  ·have d:0<=x:=((CP (Kq g) m) x c).1
   obtain⟨k,rfl⟩:=Nn d;exact(Rch.edge ((Kp f).1 c).2).trans e
  ·rw[Oi,Oo (by rw[Ko];omega)]at c
   simp at c
def EY{g:bZ}(i:okG g){b:Nat}(h:Rch g [(b:Int)] a):Rch (Kn g) [(a:Int)] b:=by
 induction h with
 |@base x c=>
  have:x=(b:Int):=by simpa using c
  subst this;simpa using Rch.self b
 |@step m x _ c f=>
  have d:=CP i m x c;obtain⟨k,rfl⟩:=Nn d.1;have e:m<g.length:=by
   apply Nh;intro e
   rw[Oi,Oo SM]at c
   simp at c
  have:(m:Int)∈(Kn g).getD k []:=(Kp SM).2 ⟨e,c⟩;exact(Rch.edge this).trans f
def EV{g:bZ}(c:okG g){b:Nat}:Rch (Kn g) [(a:Int)] b↔Rch g [(b:Int)] a:=⟨EW,EY c⟩
def oI:∀(g:bZ) (c:Nat),(∀l∈g,l.length<=c)->oB g<=g.length*c
 |[],c,_=>by simp[oB]
 |l::g,c,h=>by
  have h1:=oI g c (fun x a=>h x (by simp[a]));have h2:=h l SQ;simp only[oB,Pd,PS,OU]at h1⊢
  rw[P5,Qy];omega
def oL(g:bZ):oB (Kn g)<=g.length*(g.length+1):=by
 have h:=oI (Kn g) (g.length+1) (fun l a=>by
  obtain⟨m,b,rfl⟩:=Pq.1 a;have e:(Kn g)[m]=Ka g g.length 0 m:=Kt _;rw[e];exact Kc _ _ _ _)
 rwa[Ko]at h
def LR{l:List Int}{j:Nat}(h:j<l.length):l.getD j 0=l[j]:=by rw[Oi,On h];rfl
def LQ{l:List (List Int)}{j:Nat}(h:j<l.length):l.getD j []=l[j]:=by rw[Oi,On h];rfl
def LP{j:Nat}(h:j<l.length):l.getD j false=l[j]:=by rw[Oi,On h];rfl
def rT(w:World)(b d:Nat){part:List Int}{to n:Nat}(i:Blk w b 39 [.slice C part.length B])(e:Blk w d 3 [Te (n:Int)])(c:Sl w (dl w) C B part)(a:to<part.length)(hn:n<part.length):
  Rt UA 273 [Te (to:Int),Tg b,Tg d].toArray w fun v w'=>v=.bool (part.getD to 0==part.getD n 0)/\Ext w w':=by
 refine dW Tryz.func273 Tryz.ntmps273 rfl rfl ?_;refine Ud ?_;refine dA rfl rfl rfl rfl rfl S3 c a rfl SX (fun q=>?_);refine Um ?_;refine dA rfl rfl rfl rfl rfl S3 c hn rfl SX (fun h=>?_);refine Uf ?_;refine QL.nil (fun g f=>?_);refine TV ?_;exact bi rfl rfl ⟨by rw[LR a,LR hn],f⟩
def Es(g:bZ)(part:List Int)(n c:Nat):Prop:=∃u,u<n/\part.getD u 0=c/\∃to∈g.getD u [],part.getD to.toNat 0=c
def Et{g:bZ}{part:List Int}{n c:Nat}:Es g part (n+1) c↔Es g part n c\/(part.getD n 0=c/\∃to∈g.getD n [],part.getD to.toNat 0=part.getD n 0):=by
 unfold Es;constructor
 ·rintro⟨u,h1,h2,h3⟩
  by_cases e:u=n
  ·subst e;exact .inr ⟨h2,by rw[h2];exact h3⟩
  ·exact .inl ⟨u,by omega,h2,h3⟩
 ·rintro(⟨u,h1,h2⟩|⟨h1,h2⟩)
  ·exact⟨u,by omega,h2⟩
  ·exact⟨n,by omega,h1,by rw[<-h1];exact h2⟩
def qg(w0:World){ao so:Option Addr}{cap sc:Nat}{g sets:bZ}{part:List Int}(hs:Sl w0 (dl w0) ao cap g)(hp:Sl w0 (dl w0) C B part)(hfs:Sl w0 (dl w0) so sc sets)(hg:okG g)(hpt:PartsOK g part)(hl:g.length<=1099511627776)
  (hsets:∀F∈sets,CQ g.length F):
  Rt UA 232 [.slice ao g.length cap,.slice C part.length B,.slice so sets.length sc].toArray w0 fun v w'=>∃out:List Bool,Own w' w0.heap.size 4 di v out/\out.length=g.length/\
   (∀c,c<g.length->(out.getD c false=true↔Es g part g.length c/\∀F∈sets,∃x∈F,part.getD x.toNat 0=c))/\Ext w0 w':=by
 have hm:=hs.len63;have hmp:=hp.len63;have hms:=hfs.len63;have hpl:=hpt.len;refine dW Tryz.func232 Tryz.ntmps232 rfl rfl ?_;refine T9 ?_;refine eJ fun J N hE1=>?_
 have hb40:=N;have hl1:=N.lt;refine TR ?_;refine fK (α:=Bool) rfl rfl rfl rfl SM SS (fun w2 ho2 hg2=>?_);have e2:Ext J w2:=(MW _ _).grown hg2 Ta S5;generalize hsv:Value.slice (some ⟨J.heap.size,0,none⟩) g.length g.length=sv at*
 have hpc:∀n,n<part.length->∃c0:Nat,part[n]! =(c0:Int)/\c0<g.length/\part.getD n 0=(c0:Int):=fun n hn=>by
  have h0:=hpt.ge n hn;have h1:=hpt.lt n hn;obtain⟨c0,j⟩:=Nn h0;exact⟨c0,by rw[<-j,LR hn];simp[hn],by omega,j⟩
 refine TR ?_;refine CW.loop (S:=Nat×List Bool) (fun s=>[(0,.slice ao g.length cap),(2,.slice so sets.length sc),(4,Tg w0.heap.size),(7,sv),(19,.slice ao g.length cap),(20,Te g.length),(21,Te s.1)])
  (fun s w=>s.1<=g.length/\Own w J.heap.size 4 di sv s.2/\s.2.length=g.length/\(∀c,c<g.length->(s.2.getD c false=true↔Es g part s.1 c))/\Ext J w) (fun s=>g.length -s.1) (0,List.replicate g.length false) SL
  ⟨QK _,ho2,by simp,fun c z=>by dsimp only;rw[tf];unfold Es;simp,e2⟩ ?_
 rintro⟨n,out⟩ w ⟨hn,A,d,P,e⟩
 dsimp only at hn A d P⊢
 have X:=hE1.trans e;refine T2 ?_;apply CW.cond rfl<;>intro h
 ·have L:n<g.length:=by simp at h;omega
  have erow:g.getD n []=g[n]:=LQ L;have R:n<part.length:=by omega
  obtain⟨c0,_,hc0l,j⟩:=hpc n R;have hpn:part[n]=(c0:Int):=by rw[<-LR R];exact j
  refine TL ?_;refine fh (hs.at X) L SX (fun u q hu=>?_);obtain⟨ro,rc,rfl,Z⟩:=hu.sl;have hrl:=Z.len63;skip;refine eF (fun Q I e3=>?_);have z3:=I.lt;skip;refine f_ I (fun w4 I hg4=>?_);have e4:Ext w w4:=e3.grown hg4 e3.size SZ;have W:=X.trans e4;have hb44:=N.ext (e.trans e4);have A:=A.extN e4;refine Tu ?_;refine eN (ma w4 (fun x=>part.getD x.toNat 0==part.getD n 0) (Z.mono (fun b l=>(W.block b l).trans (X.block b l).symm) (fun b l=>Qn l W.size)) (fun w5 hw i hi=>?_)) ?_
  ·have hto:=hg _ (OG L) _ (OG hi)
   obtain⟨to,eto⟩:=Nn hto.1;rw[eto,Nt];exact FnV.mk (cs:=[_,_]) (rT w5 _ _ (hb44.ext hw) (I.ext hw) (hp.up (W.trans hw)) SM R)
  rintro _ w5 ⟨rfl,D⟩
  have hb45:=hb44.ext D;have I:=I.ext D;have A:=A.extN D;have V:=W.trans D;have D:=(e.trans e4).trans D;have hany:(g[n].any fun x=>part.getD x.toNat 0==part.getD n 0)=true↔∃to∈g.getD n [],part.getD to.toNat 0=part.getD n 0:=by
   rw[NE,erow];simp
  refine T1 ?_;apply CW.cond rfl<;>intro h2
  ·refine TY ?_
   refine ff (hp.at V) R hpn SX (fun q=>?_);skip;refine f6 (u:=.bool true) (yv:=true) rfl rfl rfl rfl A (show c0<out.length by omega) SX SX (Rd.mkBool _ _ _) (fun w6 q2 ho6 hg6=>?_);have e6:Ext J w6:=D.grown hg6 D.size (fun b l=>(A.lt b l).1);refine Tn ?_;refine EX.back (n+1,out.set c0 true) SL ⟨L,ho6,by simpa using d,fun c z=>?_,e6⟩ SR;dsimp only;rw[tg SM,Et,<-hany];by_cases e:c0=c
   ·subst e
    rw[Sj rfl];exact⟨fun _=>.inr ⟨j,h2⟩,fun _=>rfl⟩
   ·rw[Si e,P c z]
    exact⟨.inl,fun h=>h.resolve_right (fun⟨h1,_⟩=>e (by have:=j.symm.trans h1;omega))⟩
  ·refine Tj ?_
   refine EX.back (n+1,out) SL ⟨L,A,d,fun c z=>?_,D⟩ SR;dsimp only;rw[P c z,Et,<-hany,h2];simp
 obtain rfl:n=g.length:=by simp at h;omega
 clear h hn;have N:=N.ext e;have hsb:∀b,sv.ownBlock=some b->b<w.heap.size:=fun b l=>(A.lt b l).2.1
 refine T6 ?_;refine CW.loop (S:=Nat×List Bool) (fun s=>[(0,.slice ao g.length cap),(4,Tg w0.heap.size),(7,sv),(36,.slice so sets.length sc),(37,Te sets.length),(38,Te s.1)])
  (fun s w=>s.1<=sets.length/\Own w J.heap.size 4 di sv s.2/\s.2.length=g.length/\(∀c,c<g.length->(s.2.getD c false=true↔Es g part g.length c/\∀F∈sets.take s.1,∃x∈F,part.getD x.toNat 0=c))/\Ext J w) (fun s=>sets.length -s.1) (0,out) SL
  ⟨QK _,A,d,fun c z=>by dsimp only;rw[P c z];simp,e⟩ ?_
 clear P A d X;rintro⟨f,out⟩ Q ⟨hf,A,d,P,e3⟩
 dsimp only at hf A d P⊢
 have X:=hE1.trans e3;refine T2 ?_;apply CW.cond rfl<;>intro h
 ·have U:f<sets.length:=by simp at h;omega
  have hFok:=hsets _ (OG U);refine T7 ?_;refine fh (hfs.at X) U SX (fun u q hu=>?_);obtain⟨Fo,Fc,rfl,hF⟩:=hu.sl;have hFl:=hF.len63;refine TR ?_;refine fK (α:=Bool) rfl rfl rfl rfl SM SS (fun w4 ho4 hg4=>?_);have e4:Ext Q w4:=(MW _ _).grown hg4 Ta S5;have Y:∀b,sv.ownBlock=some b->b<Q.heap.size:=fun b l=>(A.lt b l).2.1
  generalize hhv:Value.slice (some ⟨Q.heap.size,0,none⟩) g.length g.length=hv at*
  have hhb:hv.ownBlock=some Q.heap.size:=by rw[<-hhv];rfl
  refine TR ?_;refine CW.loop (S:=Nat×List Bool) (fun s=>[(0,.slice ao g.length cap),(4,Tg w0.heap.size),(7,sv),(12,hv),(36,.slice so sets.length sc),(37,Te sets.length),(38,Te f),(45,.slice Fo sets[f].length Fc),(46,Te sets[f].length),(47,Te s.1)])
   (fun s w=>s.1<=sets[f].length/\Own w Q.heap.size 4 di hv s.2/\s.2.length=g.length/\(∀c,c<g.length->(s.2.getD c false=true↔∃x∈sets[f].take s.1,part.getD x.toNat 0=c))/\Ext Q w) (fun s=>sets[f].length -s.1) (0,List.replicate g.length false) SL
   ⟨QK _,ho4,by simp,fun c z=>by dsimp only;rw[tf];simp,e4⟩ ?_
  rintro⟨i,m⟩ w5 ⟨hi,o,hhl,G,D⟩
  dsimp only at hi o hhl G⊢
  have V:=X.trans D;have hb5:=hb40.ext (e3.trans D);refine T2 ?_;apply CW.cond rfl<;>intro h
  ·have T:i<sets[f].length:=by simp at h;omega
   have hto:=hFok _ (OG T);obtain⟨x,ex⟩:=Nn hto.1;have hxp:x<part.length:=by omega
   obtain⟨c0,_,hc0l,j⟩:=hpc x hxp;have hpx:part[x]=(c0:Int):=by rw[<-LR hxp];exact j
   have hF5:Sl w5 (dl w0) Fo Fc sets[f]:=hF.mono (fun b l=>(V.block b l).trans (X.block b l).symm) S3;refine T7 ?_;refine ff hF5 T ex SX (fun q=>?_);refine TJ ?_;refine ff (hp.at V) hxp hpx SX (fun q=>?_);skip;refine f6 (u:=.bool true) (yv:=true) rfl rfl rfl rfl o (show c0<m.length by omega) SX SX (Rd.mkBool _ _ _) (fun w6 q2 ho6 hg6=>?_);have e6:Ext Q w6:=D.grown hg6 D.size (fun b l=>(o.lt b l).1);refine Tn ?_;refine EX.back (i+1,m.set c0 true) SL ⟨T,ho6,by simpa using hhl,fun c z=>?_,e6⟩ SR;dsimp only;rw[tg SM,<-PU T,ex];by_cases e:c0=c
   ·subst e
    rw[Sj rfl];exact⟨fun _=>⟨(x:Int),by simp,by simpa using j⟩,fun _=>rfl⟩
   ·rw[Si e,G c z]
    constructor
    ·rintro⟨y,h1,h2⟩;exact⟨y,Ph.2 (.inl h1),h2⟩
    ·rintro⟨y,h1,h2⟩
     rcases Ph.1 h1 with h1|h1
     ·exact⟨y,h1,h2⟩
     ·rw[Py]at h1;subst h1
      rw[Nt,j]at h2;omega
  ·obtain rfl:i=sets[f].length:=by simp at h;omega
   rw[PV]at G
   have ho5:=A.extN D;refine T6 ?_;refine CW.loop (S:=Nat×List Bool) (fun s=>[(0,.slice ao g.length cap),(4,Tg w0.heap.size),(7,sv),(12,hv),(36,.slice so sets.length sc),(37,Te sets.length),(38,Te f),(59,Te g.length),(60,Te s.1)])
    (fun s w=>s.1<=g.length/\Own w J.heap.size 4 di sv s.2/\s.2.length=g.length/\(∀c,c<g.length->s.2.getD c false=if c<s.1 then out.getD c false&&m.getD c false else out.getD c false)/\Own w Q.heap.size 4 di hv m/\Ext J w) (fun s=>g.length -s.1) (0,out) ?_
    ⟨QK _,ho5,d,fun c z=>by dsimp only;rw[Si SM],o,e3.trans D⟩ ?_
   ·rw[d];exact SL
   rintro⟨k,gd'⟩ w14 ⟨hk,a,p,r,o,O⟩
   dsimp only at hk a p r o⊢
   refine T2 ?_;apply CW.cond rfl<;>intro h
   ·have hk':k<g.length:=by simp at h;omega
    have M:k<gd'.length:=by omega
    have hkh:k<m.length:=by omega
    have hgk:gd'[k]=out.getD k false:=by rw[<-LP M,r k hk',Si SM]
    have hst:∀b:Bool,b=(out.getD k false&&m.getD k false)->∀c,c<g.length->(gd'.set k b).getD c false=if c<k+1 then out.getD c false&&m.getD c false else out.getD c false:=by
     intro b l c z
     rw[tg M];by_cases e:k=c
     ·subst e;rw[Sj rfl,Sj SM,l]
     ·rw[Si e,r c z]
      by_cases h1:c<k
      ·rw[Sj h1,Sj SM]
      ·rw[Si h1,Si SM]
    refine TI ?_;refine fj rfl rfl rfl rfl rfl a M SX (fun u q hu=>?_);obtain rfl:=hu.bool;rw[hgk];by_cases H:out.getD k false=true
    ·rw[H]
     refine Ue ?_;refine fj rfl rfl rfl rfl rfl o hkh SX (fun u q hu=>?_);obtain rfl:=hu.bool;refine Ue ?_;refine f6 (u:=.bool m[k]) (yv:=m[k]) rfl rfl rfl rfl a M SX SX (Rd.mkBool _ _ _) (fun w15 q K t=>?_);have e15:Ext J w15:=O.grown t O.size (fun b l=>(a.lt b l).1);have E:=o.keptN t (fun g hg e=>by rw[hhb]at hg;cases hg;exact absurd (Y _ e.symm) (Ql _));refine Tn ?_;exact EX.back (k+1,gd'.set k m[k]) SL ⟨hk',K,by simpa using p,hst _ (by rw[H,LP hkh];rfl),E,e15⟩ SR
    ·have H:out.getD k false=false:=by simpa using H
     rw[H];refine Ul ?_;refine f6 (u:=.bool false) (yv:=false) rfl rfl rfl rfl a M SX SX (Rd.mkBool _ _ _) (fun w15 q K t=>?_);have e15:Ext J w15:=O.grown t O.size (fun b l=>(a.lt b l).1);have E:=o.keptN t (fun g hg e=>by rw[hhb]at hg;cases hg;exact absurd (Y _ e.symm) (Ql _));refine Tn ?_;exact EX.back (k+1,gd'.set k false) SL ⟨hk',K,by simpa using p,hst _ (by rw[H];rfl),E,e15⟩ SR
   ·obtain rfl:k=g.length:=by simp at h;omega
    refine To ?_;refine EX.back (f+1,gd') SL ⟨U,a,p,fun c z=>?_,O⟩ SR;dsimp only;rw[r c z,Sj z,MZ,P c z,G c z,<-PU U,RV];refine RW Nm ⟨fun⟨h1,h2⟩ F hF=>?_,fun h1=>⟨fun F hF=>h1 F (Ph.2 (.inl hF)),h1 sets[f] (Ph.2 (.inr SQ))⟩⟩;rcases Ph.1 hF with hF|hF
    ·exact h1 F hF
    ·rw[Py]at hF;subst hF;exact h2
 ·obtain rfl:f=sets.length:=by simp at h;omega
  rw[PV]at P
  refine TO ?_;exact bi rfl rfl ⟨out,A.low SM,d,P,X⟩
def yj(nx:bZ)(inn:List Bool)(n j:Nat):List Int:=((nx.getD n []).take j).filter fun to=>inn.getD n false&&inn.getD to.toNat false
def ya(nx:bZ)(inn:List Bool)(n:Nat):List Int:=(nx.getD n []).filter fun to=>inn.getD n false&&inn.getD to.toNat false
def inG(nx:bZ)(inn:List Bool):bZ:=(List.range nx.length).map (ya nx inn)
def yd{nx:bZ}{inn:List Bool}:(inG nx inn).length=nx.length:=by simp[inG]
def yf{nx:bZ}{inn:List Bool}{n:Nat}(h:n<nx.length):(inG nx inn).getD n []=ya nx inn n:=by
 unfold inG;rw[Oi,Ot,Ou h];rfl
def inG_edge{nx:bZ}{inn:List Bool}{u v:Nat}:Eg (inG nx inn) u v↔Eg nx u v/\inn.getD u false=true/\inn.getD v false=true:=by
 by_cases h:u<nx.length
 ·unfold Eg
  rw[yf h];unfold ya;rw[Po];simp
 ·constructor
  ·intro k;have:=k.lt1;rw[yd]at this;exact absurd this h
  ·intro k;exact absurd k.1.lt1 h
def ye{nx:bZ}{inn:List Bool}(h:okG nx):okG (inG nx inn):=by
 intro r b x a
 rw[yd];obtain⟨n,hn,rfl⟩:=Pr.1 b;exact CP h n x (Po.1 a).1
def yb{nx:bZ}{inn:List Bool}:oB (inG nx inn)<=oB nx:=by
 unfold oB inG;rw[Pe];have e:nx.map List.length=(List.range nx.length).map fun k=>(nx.getD k []).length:=by
  refine N4 SQ fun i h1 h2=>?_
  simp at h1;simp[h1]
 rw[e];have:∀l:List Nat,(l.map (List.length∘ya nx inn)).sum<=(l.map fun k=>(nx.getD k []).length).sum:=by
  intro l
  induction l with
  |nil=>exact Qj _
  |cons x r a=>
   simp only[Pd,PS];have:(List.length∘ya nx inn) x<=(nx.getD x []).length:=O0 _ _;omega
 exact this _
def yl{nx:bZ}{inn:List Bool}{n j:Nat}(h:j<(nx.getD n []).length):yj nx inn n (j+1)=yj nx inn n j++if(inn.getD n false&&inn.getD ((nx.getD n [])[j]).toNat false)=true then [(nx.getD n [])[j]]else []:=by
 unfold yj;rw[<-PU h,N6]
 congr 1
 by_cases e:(inn.getD n false&&inn.getD ((nx.getD n [])[j]).toNat false)=true
 ·rw[Sj e];simp only[N7,e,N_];rfl
 ·rw[Si e];simp only[N7,e,N_];rfl
def yk{nx:bZ}{inn:List Bool}{n:Nat}:yj nx inn n (nx.getD n []).length=ya nx inn n:=by unfold yj ya;rw[PV]
abbrev Hc(fr:bZ):List (Nat->Prop):=fr.map fun F x=>((x:Nat):Int)∈F
open Classical in
noncomputable def LT(nx:bZ)(inn:List Bool)(fr:bZ):List Bool:=(List.range nx.length).map fun n=>decide (∃r,r 0=n/\Way8 (Eg (inG nx inn)) (Hc fr) r)
def LV{nx:bZ}{inn:List Bool}{fr:bZ}:(LT nx inn fr).length=nx.length:=by simp[LT]
def LU{nx:bZ}{inn:List Bool}{fr:bZ}{n:Nat}(h:n<nx.length):(LT nx inn fr).getD n false=true↔∃r,r 0=n/\Way8 (Eg (inG nx inn)) (Hc fr) r:=by
 unfold LT;rw[Oi,Ot,Ou h];simp
def iK{g:bZ}(a:okG g){ends:List Int}(c:CQ g.length ends){n:Nat}:Rch (Kn g) ends n↔∃v:Nat,(v:Int)∈ends/\Rc (Eg g) n v:=by
 rw[EU (Kq g) (fun x b=>(c x b).1)];refine exists_congr fun v=>RX fun _=>?_
 rw[<-EO (Kq g),EV a,EO a]
def LX{nx fr:bZ}{inn good:List Bool}{part ends:List Int}(p:okG nx)(hP:PartsOK (inG nx inn) part)(r:∀F∈fr,CQ nx.length F)
  (e:∀c,c<nx.length->(good.getD c false=true↔Es (inG nx inn) part nx.length c/\∀F∈fr,∃x∈F,part.getD x.toNat 0=c))
  (a:∀v:Nat,(v:Int)∈ends↔v<nx.length/\inn.getD v false=true/\good.getD (part.getD v 0).toNat false=true) (i:∀x∈ends,0<=x):
  EP (Kn (inG nx inn)) ends=LT nx inn fr:=by
 have q:=ye (inn:=inn) p;have A:CQ (inG nx inn).length ends:=fun x f=>by
  have C:=i x f;have:=((a x.toNat).1 (by rw[show((x.toNat:Nat):Int)=x by omega];exact f)).1;rw[yd];omega
 refine N4 (by rw[ES,Ko,yd,LV]) fun n h1 h2=>?_
 have hn:n<nx.length:=by rw[LV]at h2;exact h2
 rw[M2,ER h1,iK q A,<-LP h2,LU hn,qh (N:=nx.length) (fun u v h=>by have:=h.lt q;rwa[yd]at this) hn];have b:∀v,v<nx.length->(good.getD (part.getD v 0).toNat false=true↔aO (Eg (inG nx inn)) (Hc fr) v):=by
  intro v d
  have g:v<part.length:=by rw[hP.len,yd];exact d
  have B:=hP.ge v g;have k1:=hP.lt v g;rw[yd]at k1
  rw[mq q hP (by rw[yd];exact d),e _ SM,show(((part.getD v 0).toNat:Nat):Int)=part.getD v 0 by omega,yd];unfold Es;rw[show(((part.getD v 0).toNat:Nat):Int)=part.getD v 0 by omega];refine RW Nm ⟨fun k P t=>?_,fun k F hF=>?_⟩
  ·obtain⟨F,hF,rfl⟩:=Pr.1 t
   obtain⟨x,f,j⟩:=k F hF;have:=r F hF x f;exact⟨x.toNat,by omega,by show((x.toNat:Nat):Int)∈F;rw[show((x.toNat:Nat):Int)=x by omega];exact f,j⟩
  ·obtain⟨x,z,m,l⟩:=k _ (Pr.2 ⟨F,hF,rfl⟩)
   exact⟨(x:Int),m,by simpa using l⟩
 constructor
 ·rintro⟨v,d,o⟩
  obtain⟨h3,_,h4⟩:=(a v).1 d;exact⟨v,o,(b v h3).1 h4⟩
 ·rintro⟨v,o,y⟩
  have s:=y;obtain⟨⟨u,w,_⟩,_⟩:=y;have d:v<nx.length:=by have:=w.lt1;rwa[yd]at this
  exact⟨v,(a v).2 ⟨d,(inG_edge.1 w).2.1,(b v d).2 s⟩,o⟩
def oK{g:bZ}:∀{i:Nat},(h:i<g.length)->g[i].length<=oB g:=by
 unfold oB
 induction g with
 |nil=>intro i h;cases h
 |cons r g a=>
  intro i h
  cases i with
  |zero=>simp
  |succ i=>have:=a (i:=i) (by simpa using h);simp at this⊢;omega
def o_(inn good:List Bool)(part:List Int)(n:Nat):List Int:=((List.range n).filter fun v=>inn.getD v false&&good.getD (part.getD v 0).toNat false).map fun v:Nat=>(v:Int)
def pg{inn good:List Bool}{part:List Int}{n:Nat}:o_ inn good part (n+1)=o_ inn good part n++if(inn.getD n false&&good.getD (part.getD n 0).toNat false)=true then [(n:Int)]else []:=by
 unfold o_;rw[PL,N6,Pb]
 congr 1
 by_cases e:(inn.getD n false&&good.getD (part.getD n 0).toNat false)=true
 ·rw[Sj e];simp only[N7,e,N_];rfl
 ·rw[Si e];simp only[N7,e,N_];rfl
def pd{inn good:List Bool}{part:List Int}{n:Nat}:(o_ inn good part n).length<=n:=by
 unfold o_;rw[O1];exact Qk (O0 _ _) SQ
def pf{inn good:List Bool}{part:List Int}{n v:Nat}:(v:Int)∈o_ inn good part n↔v<n/\inn.getD v false=true/\good.getD (part.getD v 0).toNat false=true:=by
 unfold o_;rw[Pr];constructor
 ·rintro⟨u,h1,h2⟩
  obtain rfl:u=v:=by omega
  have:=Po.1 h1;rw[Px,MZ]at this
  exact this
 ·rintro⟨h1,h2,h3⟩
  exact⟨v,Po.2 ⟨Px.2 h1,by rw[h2,h3];rfl⟩,rfl⟩
def pj{inn good:List Bool}{part:List Int}{n:Nat}:∀x∈o_ inn good part n,0<=x:=by
 intro x a
 obtain⟨u,_,rfl⟩:=Pr.1 a;omega
def gj(w0:World){a1 a4 io:Option Addr}{c1 c2 n1 ic:Nat}{nx fr:bZ}{inn:List Bool}(h2:Sl w0 (dl w0) C c2 nx)(h4:Sl w0 (dl w0) a4 K fr)(hin:Sl w0 (dl w0) io ic inn)
  (R:okG nx) (hfr:∀F∈fr,CQ nx.length F) (hil:inn.length=nx.length) (hn:nx.length<=600) (hT:oB nx<=8589934592):
  Rt UA 160 [L6 a1 c1 C c2 D B a4 K n1 nx.length E fr.length,.slice io inn.length ic].toArray w0 fun v w'=>Own w' w0.heap.size 4 di v (LT nx inn fr)/\Ext w0 w':=by
 have hm2:=h2.len63;refine dV Tryz.func160 Tryz.ntmps160 rfl rfl ?_;refine T9 ?_;refine eJ fun H g e1=>?_
 have hl1:=g.lt;refine Ty ?_;refine fK (α:=Raw) rfl rfl rfl rfl SM SS (fun w2 ho2 hg2=>?_);have e2:Ext H w2:=(MW _ _).grown hg2 Ta S5;generalize hsv:Value.slice (some ⟨H.heap.size,0,none⟩) nx.length nx.length=sv at*
 have hN2:OwnN w2 H.heap.size 39 3 sv _ (List.replicate nx.length ([]:List Int)):=OwnN.made ho2;rw[<-t7 (full:=ya nx inn)]at hN2
 clear ho2 hg2;have N:=g;have g:=g.ext e2;refine Ty ?_;refine CW.loop (S:=Nat×List Raw) (fun s=>[(1,.slice io inn.length ic),(2,Tg w0.heap.size),(5,sv),(23,.slice C nx.length c2),(24,Te nx.length),(25,Te s.1)])
  (fun s w=>s.1<=nx.length/\OwnN w H.heap.size 39 3 sv s.2 (tT nx.length (ya nx inn) s.1 [])/\Ext H w) (fun s=>nx.length -s.1) (0,_) SL ⟨QK _,hN2,e2⟩ ?_
 rintro⟨n,vs⟩ w3 ⟨hn3,i,e3⟩
 dsimp only at hn3 i⊢
 have W:=e1.trans e3;have hb23:=N.ext e3;refine T2 ?_;apply CW.cond rfl<;>intro h
 ·have f:n<nx.length:=by simp at h;omega
  have t:n<inn.length:=by omega
  have erow:nx.getD n []=nx[n]:=LQ f;have hre:=oK f;refine TL ?_;refine fh (h2.at W) f SX (fun u q hu=>?_);obtain⟨ro,rc,rfl,L⟩:=hu.sl;have hrl:=L.len63;refine TR ?_;refine CW.loop (S:=Nat×List Raw) (fun s=>[(1,.slice io inn.length ic),(2,Tg w0.heap.size),(5,sv),(6,Te n),(23,.slice C nx.length c2),(24,Te nx.length),(25,Te n),(30,.slice ro nx[n].length rc),(31,Te nx[n].length),(32,Te s.1)])
   (fun s w=>s.1<=nx[n].length/\OwnN w H.heap.size 39 3 sv s.2 (tT nx.length (ya nx inn) n (yj nx inn n s.1))/\Ext H w) (fun s=>nx[n].length -s.1) (0,vs) SL ⟨QK _,by show OwnN _ _ _ _ _ _ (tT _ _ _ (yj nx inn n 0));rw[show yj nx inn n 0=[] by simp[yj]];exact i,e3⟩ ?_
  rintro⟨j,vs⟩ w4 ⟨hj,i,m⟩
  dsimp only at hj i⊢
  have G:=e1.trans m;have Q:Sl w4 (dl w0) ro rc nx[n]:=L.mono (fun b O=>(G.block b O).trans (W.block b O).symm) S3;have M:=hin.at G;refine T2 ?_;apply CW.cond rfl<;>intro h
  ·have k:j<nx[n].length:=by simp at h;omega
   have hto:=R _ (OG f) _ (OG k);obtain⟨to,eto⟩:=Nn hto.1;have Y:to<inn.length:=by omega
   have c:=yl (nx:=nx) (inn:=inn) (n:=n) (j:=j) (by rw[erow];exact k);have hgj:(nx.getD n [])[j]'(by rw[erow];exact k)=(to:Int):=by simp only[erow];exact eto
   rw[hgj,Nt]at c
   have hlen:=i.len;rw[tY]at hlen
   have r:n<vs.length:=by omega
   have y:=i.inn n r (by rw[tY];exact f);rw[tX f]at y
   have hil2:(yj nx inn n j).length<=nx[n].length:=by
    unfold yj;rw[erow];exact Qk (O0 _ _) (by rw[O9];omega)
   refine T7 ?_;refine ff Q k eto SX (fun q=>?_);refine T2 ?_;refine fd rfl rfl rfl rfl rfl M t (LP t).symm SX (fun q=>?_);have skipc:(inn.getD n false&&inn.getD to false)=false->OwnN w4 H.heap.size 39 3 sv vs (tT nx.length (ya nx inn) n (yj nx inn n (j+1))):=fun h=>by
    rw[c,Si (by rw[h];simp),NG];exact i
   by_cases e:inn.getD n false=true
   ·rw[e]
    refine Ue ?_;refine fd rfl rfl rfl rfl rfl M Y (LP Y).symm SX (fun q=>?_);by_cases d:inn.getD to false=true
    ·rw[d]
     rw[Sj (by rw[e,d];rfl)]at c
     refine T4 ?_;refine fj rfl rfl rfl rfl rfl i.out r SX (fun u q hu=>?_);obtain⟨rfl,_⟩:=hu.raw;refine Ue ?_;refine eH (F:=di) (yv:=(to:Int)) rfl rfl SX rfl rfl SX y S_ m.size S0 SP SS SM (fun X w5 p ho5 J hnb=>?_);rw[<-c]at ho5
     have hmid:=i.mid r J;refine f6 (u:=X) (yv:=⟨X⟩) rfl rfl rfl rfl hmid r SX SX (Rd.mkRaw _ _ _ ?_) (fun w6 q ho6 hg6=>?_)
     ·obtain⟨a,b,rfl⟩:=ho5.val;rfl
     have hN6:=i.set r ho5 J hnb ho6 hg6;rw[t6 f]at hN6
     have o:Ext H w6:=(m.grown J m.size (fun b O=>(y.lt b O).1)).grown hg6 (Qk m.size J.size) (fun b O=>(i.out.lt b O).1);refine Tn ?_;exact EX.back (j+1,vs.set n ⟨X⟩) SL ⟨k,hN6,o⟩ SR
    ·have d:inn.getD to false=false:=by simpa using d
     rw[d];refine Tz ?_;exact EX.back (j+1,vs) SL ⟨k,skipc (by rw[d,M0]),m⟩ SR
   ·have e:inn.getD n false=false:=by simpa using e
    rw[e];refine Tz ?_;exact EX.back (j+1,vs) SL ⟨k,skipc (by rw[e,M3]),m⟩ SR
  ·obtain rfl:j=nx[n].length:=by simp at h;omega
   refine To ?_;refine EX.back (n+1,vs) SL ⟨f,?_,m⟩ SR;rw[<-erow,yk,tZ]at i
   exact i
 obtain rfl:n=nx.length:=by simp at h;omega
 rw[tU]at i
 have hgG:(List.range nx.length).map (ya nx inn)=inG nx inn:=rfl;rw[hgG]at i
 have T:=yd (nx:=nx) (inn:=inn);have A:=ye (inn:=inn) R;have hge:=yb (nx:=nx) (inn:=inn);have g:Blk w3 w0.heap.size 74 (jZ (L6 a1 c1 C c2 D B a4 K n1 nx.length E fr.length)):=N.ext e3;obtain⟨go,gc,rfl,U⟩:=i.old.sl;have hfr':∀F∈fr,CQ (inG nx inn).length F:=by rw[T];exact hfr
 clear h hn3 i;refine TO ?_;refine eN (d9 w3 U S3 A SM) ?_;rintro _ w4 ⟨part,Z,hP,m⟩
 have G:=W.trans m;have g:=g.ext m;have U:=U.up m;obtain⟨po,pc,rfl,hp⟩:=Z.oldN.sl;have hpl:=hP.len;refine TJ ?_;refine eN (qg w4 U hp (h4.up G) A hP SM hfr') ?_;rintro _ w5 ⟨good,hgo,hgol,z,e5⟩
 have hE5:=G.trans e5;have hp:=hp.up e5;have U:=U.up e5;obtain⟨oo,oc,rfl,hgd⟩:=hgo.oldN.sl;clear hgo Z m e5 g;rw[T]at z
 refine TR ?_;refine CW.loop (S:=Nat×Value) (fun s=>[(1,.slice io inn.length ic),(5,.slice go (inG nx inn).length gc),(10,.slice po part.length pc),(11,.slice oo good.length oc),(12,s.2),(66,Te (inG nx inn).length),(67,Te s.1)])
  (fun s w=>s.1<=nx.length/\Own w w5.heap.size 3 di s.2 (o_ inn good part s.1)/\Ext w5 w) (fun s=>nx.length -s.1) (0,.slice none 0 0) SL ⟨QK _,Own.nil,Ext.refl _⟩ ?_
 rintro⟨n,ev⟩ w6 ⟨hn6,l,o⟩
 dsimp only at hn6 l⊢
 have hel:=pd (inn:=inn) (good:=good) (part:=part) (n:=n);refine T2 ?_;apply CW.cond rfl<;>intro h
 ·have f:n<nx.length:=by simp at h;omega
  have t:n<inn.length:=by omega
  have I:n<part.length:=by omega
  have h0:=hP.ge n I;have h1:=hP.lt n I;obtain⟨c0,hc0⟩:=Nn h0;have hpn:part[n]=(c0:Int):=by rw[<-LR I];exact hc0
  have hcg:c0<good.length:=by omega
  have c:=pg (inn:=inn) (good:=good) (part:=part) (n:=n);rw[hc0,Nt]at c
  refine TI ?_;refine fd rfl rfl rfl rfl rfl (hin.at (hE5.trans o)) t (LP t).symm SX (fun q=>?_);by_cases e:inn.getD n false=true
  ·rw[e]
   refine Ue ?_;refine ff (hp.up o) I hpn SX (fun q=>?_);refine fd rfl rfl rfl rfl rfl (hgd.up o) hcg (LP hcg).symm SX (fun q=>?_);by_cases d:good.getD c0 false=true
   ·rw[d]
    rw[Sj (by rw[e,d];rfl)]at c
    refine T4 ?_;refine eH (F:=di) (yv:=(n:Int)) rfl rfl SX rfl rfl SX l S_ o.size S0 SP SS SM (fun X w7 p ho7 hg7 hnb=>?_);rw[<-c]at ho7
    have e7:Ext w5 w7:=o.grown hg7 o.size (fun b O=>(l.lt b O).1);refine Tn ?_;exact EX.back (n+1,X) SL ⟨f,ho7,e7⟩ SR
   ·have d:good.getD c0 false=false:=by simpa using d
    rw[d];rw[Si (by rw[d];simp),NG]at c
    refine Tz ?_;exact EX.back (n+1,ev) SL ⟨f,by dsimp only;rw[c];exact l,o⟩ SR
  ·have e:inn.getD n false=false:=by simpa using e
   rw[e];rw[Si (by rw[e];simp),NG]at c
   refine Tz ?_;exact EX.back (n+1,ev) SL ⟨f,by dsimp only;rw[c];exact l,o⟩ SR
 obtain rfl:n=nx.length:=by simp at h;omega
 obtain⟨eo,ec,rfl,hes⟩:=l.oldN.sl;have hE6:=hE5.trans o;have hch:kN (inG nx inn)=0:=kO A SM;refine TO ?_;refine eN (eB w6 (U.up o)) ?_;rintro _ w7 ⟨tv,ts,rfl,V,e7⟩
 unfold Km at V
 rw[Sj hch]at V
 obtain⟨to,tc,rfl,htu⟩:=V.old.sl;have htl:=Ko (inG nx inn);have hte:=oL (inG nx inn);have hte2:(inG nx inn).length*((inG nx inn).length+1)<=600*601:=Qs SM SM;have P:=LX (ends:=o_ inn good part nx.length) R hP hfr z (fun v=>pf) pj;have heok:CQ (Kn (inG nx inn)).length (o_ inn good part nx.length):=fun x hx=>by
  have h0:=pj x hx;have:=(pf (v:=x.toNat)).1 (by rw[show((x.toNat:Nat):Int)=x by omega];exact hx);rw[htl,T];omega
 have hrF:=Fg (Kq (inG nx inn)) heok SM;refine T2 ?_;refine eN (dR w7 htu (hes.up e7) SM) ?_;rw[hrF,P];rintro _ w8 ⟨rv,rfl,hor,e8⟩
 refine Tw ?_;exact bj ⟨hor.low (Qk hE6.size e7.size),(hE6.trans e7).trans e8⟩
def xZ{k:Nat}(a:l.length=k):(idxOf (fun y=>true==y) l= -1/\∀c,l.getD c false=false)\/∃c:Nat,idxOf (fun y=>true==y) l=(c:Int)/\c<k/\l.getD c false=true:=by
 unfold idxOf;cases h:l.findIdx? fun y=>true==y with
 |none=>
  refine .inl ⟨rfl,fun c=>?_⟩;rw[Oa]at h
  rw[Oi];cases e:l[c]? with
  |none=>rfl
  |some b=>
   have:=h b (Pu e);cases b<;>simp_all
 |some i=>
  obtain⟨h1,h2,h3⟩:=Ob.1 h;refine .inr ⟨i,rfl,by omega,?_⟩;rw[LP h1];simpa using h2.symm
def oO(w:World)(b d:Nat){part:List Int}{to n:Nat}(i:Blk w b 39 [.slice C part.length B])(e:Blk w d 3 [Te (n:Int)])(c:Sl w (dl w) C B part)(a:to<part.length)(hn:n<part.length):
  Rt UA 205 [Te (to:Int),Tg b,Tg d].toArray w fun v w'=>v=.bool (part.getD to 0==part.getD n 0)/\Ext w w':=by
 refine dW Tryz.func205 Tryz.ntmps205 rfl rfl ?_;refine Ud ?_;refine dA rfl rfl rfl rfl rfl S3 c a rfl SX (fun q=>?_);refine Um ?_;refine dA rfl rfl rfl rfl rfl S3 c hn rfl SX (fun h=>?_);refine Uf ?_;refine QL.nil (fun g f=>?_);refine TV ?_;exact bi rfl rfl ⟨by rw[LR a,LR hn],f⟩
def oP(w0:World){N:Nat}{x0 x3 x4 x5 x6 x7 x8 x9 x12:Value}{lo so:Option Addr}{sc:Nat}{part:List Int}{sets:List (List Bool)}
  (l:Blk w0 B 223 [x0,o,J,x3,x4,x5,x6,x7,x8,x9,.slice lo N a,.slice C g.length K,x12]) (hN:N=g.length) (hs:Sl w0 (dl w0) C K g) (hp:Sl w0 (dl w0) D E part) (hfs:Sl w0 (dl w0) so sc sets)
  (hg:okG g) (hpt:PartsOK g part) (hl:g.length<=1228800) (hsl:∀S∈sets,S.length=g.length):
  Rt UA 125 [Tg B,.slice D part.length E,.slice so sets.length sc].toArray w0 fun v w'=>∃p:Int,v=Te p/\((p= -1/\∀c:Int,0<=c->c<g.length->¬bY g part sets c)\/(0<=p/\p<g.length/\bY g part sets p))/\Ext w0 w':=by
 have hm:=hs.len63;have hmp:=hp.len63;have hms:=hfs.len63;have hpl:=hpt.len;subst hN;have hsb0:=l.lt;refine dW Tryz.func125 Tryz.ntmps125 rfl rfl ?_;refine T9 ?_;refine eJ fun X hb4 hE1=>?_
 have hb40:=hb4;have hl1:=hb4.lt;have hb1:=l.ext hE1;refine TQ ?_;refine fK (α:=Bool) rfl rfl rfl rfl SM SS (fun w2 ho2 hg2=>?_);have e2:Ext X w2:=(MW _ _).grown hg2 Ta S5;generalize hsv:Value.slice (some ⟨X.heap.size,0,none⟩) g.length g.length=sv at*
 have hpc:∀n,n<part.length->∃c0:Nat,part[n]! =(c0:Int)/\c0<g.length/\part.getD n 0=(c0:Int):=fun n hn=>by
  have h0:=hpt.ge n hn;have h1:=hpt.lt n hn;obtain⟨c0,U⟩:=Nn h0;exact⟨c0,by rw[<-U,LR hn];simp[hn],by omega,U⟩
 have hb2:=hb1.ext e2;refine TQ ?_;refine CW.loop (S:=Nat×List Bool) (fun s=>[(0,Tg B),(2,.slice so sets.length sc),(4,Tg w0.heap.size),(7,sv),(25,.slice C g.length K),(26,Te g.length),(27,Te s.1)])
  (fun s w=>s.1<=g.length/\Own w X.heap.size 4 di sv s.2/\s.2.length=g.length/\(∀c:Nat,c<g.length->(s.2.getD c false=true↔Es g part s.1 c))/\Ext X w) (fun s=>g.length -s.1) (0,List.replicate g.length false) SL
  ⟨QK _,ho2,by simp,fun c t=>by dsimp only;rw[tf];unfold Es;simp,e2⟩ ?_
 rintro⟨n,out⟩ w ⟨hn,O,r,hr,e⟩
 dsimp only at hn O r hr⊢
 have hE:=hE1.trans e;refine T2 ?_;apply CW.cond rfl<;>intro h
 ·have hn':n<g.length:=by simp at h;omega
  have erow:g.getD n []=g[n]:=LQ hn';have hnp:n<part.length:=by omega
  obtain⟨c0,_,hc0l,U⟩:=hpc n hnp;have hpn:part[n]=(c0:Int):=by rw[<-LR hnp];exact U
  refine TL ?_;refine fh (hs.at hE) hn' SX (fun u q R=>?_);obtain⟨ro,rc,rfl,hrow⟩:=R.sl;have hrl:=hrow.len63;skip;refine eF (fun m W e3=>?_);have z3:=W.lt;skip;refine f_ W (fun w4 W hg4=>?_);have e4:Ext w w4:=e3.grown hg4 e3.size SZ;have hE4:=hE.trans e4;have hb44:=hb4.ext (e.trans e4);have O:=O.extN e4;refine Tu ?_;refine eN (ma w4 (fun x=>part.getD x.toNat 0==part.getD n 0) (hrow.mono (fun b l=>(hE4.block b l).trans (hE.block b l).symm) (fun b l=>Qn l hE4.size)) (fun w5 hw i hi=>?_)) ?_
  ·have hto:=hg _ (OG hn') _ (OG hi)
   obtain⟨to,eto⟩:=Nn hto.1;rw[eto,Nt];exact FnV.mk (cs:=[_,_]) (oO w5 _ _ (hb44.ext hw) (W.ext hw) (hp.up (hE4.trans hw)) SM hnp)
  rintro _ w5 ⟨rfl,I⟩
  have hb45:=hb44.ext I;have W:=W.ext I;have O:=O.extN I;have hE5:=hE4.trans I;have I:=(e.trans e4).trans I;have hany:(g[n].any fun x=>part.getD x.toNat 0==part.getD n 0)=true↔∃to∈g.getD n [],part.getD to.toNat 0=part.getD n 0:=by
   rw[NE,erow];simp
  refine T1 ?_;apply CW.cond rfl<;>intro h2
  ·refine TY ?_
   refine ff (hp.at hE5) hnp hpn SX (fun q=>?_);skip;refine f6 (u:=.bool true) (yv:=true) rfl rfl rfl rfl O (show c0<out.length by omega) SX SX (Rd.mkBool _ _ _) (fun w6 q2 ho6 hg6=>?_);have e6:Ext X w6:=I.grown hg6 I.size (fun b l=>(O.lt b l).1);refine Tn ?_;refine EX.back (n+1,out.set c0 true) SL ⟨hn',ho6,by simpa using r,fun c t=>?_,e6⟩ SR;dsimp only;rw[tg SM,Et,<-hany];by_cases e:c0=c
   ·subst e
    rw[Sj rfl];exact⟨fun _=>.inr ⟨U,h2⟩,fun _=>rfl⟩
   ·rw[Si e,hr c t]
    exact⟨.inl,fun h=>h.resolve_right (fun⟨h1,_⟩=>e (by have:=U.symm.trans h1;omega))⟩
  ·refine Tj ?_
   refine EX.back (n+1,out) SL ⟨hn',O,r,fun c t=>?_,I⟩ SR;dsimp only;rw[hr c t,Et,<-hany,h2];simp
 obtain rfl:n=g.length:=by simp at h;omega
 clear h hn;have hb4:=hb4.ext e;refine T6 ?_;refine CW.loop (S:=Nat×List Bool) (fun s=>[(0,Tg B),(4,Tg w0.heap.size),(7,sv),(42,.slice so sets.length sc),(43,Te sets.length),(44,Te s.1)])
  (fun s w=>s.1<=sets.length/\Own w X.heap.size 4 di sv s.2/\s.2.length=g.length/\(∀c:Nat,c<g.length->(s.2.getD c false=true↔Es g part g.length c/\∀S∈sets.take s.1,∃x,x<g.length/\S.getD x false=true/\part.getD x 0=c))/\Ext X w) (fun s=>sets.length -s.1) (0,out) SL
  ⟨QK _,O,r,fun c t=>by dsimp only;rw[hr c t];simp,e⟩ ?_
 clear hr O r hE;rintro⟨f,out⟩ m ⟨hf,O,r,hr,e3⟩
 dsimp only at hf O r hr⊢
 have hE:=hE1.trans e3;have hbs3:=l.ext hE;refine T2 ?_;apply CW.cond rfl<;>intro h
 ·have hf':f<sets.length:=by simp at h;omega
  have hSl:=hsl _ (OG hf');refine T7 ?_;refine fh (hfs.at hE) hf' SX (fun u q R=>?_);obtain⟨Fo,Fc,rfl,hF⟩:=R.sl;have hFl:=hF.len63;refine TQ ?_;refine fK (α:=Bool) rfl rfl rfl rfl SM SS (fun w4 ho4 hg4=>?_);have e4:Ext m w4:=(MW _ _).grown hg4 Ta S5;have hslt:∀b,sv.ownBlock=some b->b<m.heap.size:=fun b l=>(O.lt b l).2.1
  refine TR ?_;refine CW.loop (S:=Nat×List Bool) (fun s=>[(0,Tg B),(4,Tg w0.heap.size),(7,sv),(12,.slice (some ⟨m.heap.size,0,none⟩) g.length g.length),(42,.slice so sets.length sc),(43,Te sets.length),(44,Te f),(54,.slice Fo sets[f].length Fc),(55,Te sets[f].length),(56,Te s.1)])
   (fun s w=>s.1<=sets[f].length/\Own w m.heap.size 4 di (.slice (some ⟨m.heap.size,0,none⟩) g.length g.length) s.2/\s.2.length=g.length/\(∀c:Nat,c<g.length->(s.2.getD c false=true↔∃x,x<s.1/\sets[f].getD x false=true/\part.getD x 0=c))/\Ext m w) (fun s=>sets[f].length -s.1) (0,List.replicate g.length false) SL
   ⟨QK _,ho4,by simp,fun c t=>by dsimp only;rw[tf];simp,e4⟩ ?_
  rintro⟨i,d⟩ w5 ⟨hi,M,hhl,P,I⟩
  dsimp only at hi M hhl P⊢
  have hE5:=hE.trans I;have hb5:=hb40.ext (e3.trans I);refine T2 ?_;apply CW.cond rfl<;>intro h
  ·have hi':i<sets[f].length:=by simp at h;omega
   have hip:i<part.length:=by omega
   obtain⟨c0,_,U,ec0⟩:=hpc i hip;have hpc':part[i]=(c0:Int):=by rw[<-LR hip];exact ec0
   have hch:c0<d.length:=by omega
   have hF5:Sl w5 (dl w0) Fo Fc sets[f]:=hF.mono (fun b l=>(hE5.block b l).trans (hE.block b l).symm) S3;refine TL ?_;refine fd rfl rfl rfl rfl rfl hF5 hi' rfl SX (fun q=>?_);have hsg:sets[f].getD i false=sets[f][i]:=LP hi';generalize sets[f][i]=is at*
   refine Ue ?_;apply WL.nil;apply bE;have hd:=Ext.drew w5;have hpd:=hp.at (hE5.trans hd);have hbd:=hb5.ext hd;have L:=M.extN hd;obtain⟨ho',hc',hv',hhs⟩:=L.slF (F':=fun b=>b=m.heap.size) S0 (fun g hg=>by cases hg;rfl);obtain⟨rfl,_,rfl⟩:=RS hv';rw[<-hhl]at hhs
   have hKK:∀(F:Nat->Prop) z,(fun x:World=>x=drew w5) z->∀b,F b->z.heap[b]?=(drew w5).heap[b]?:=fun F z hz b _=>by rw[hz]
   have hK1:∀u,(fun x:World=>x=drew w5) u->u.heap[w0.heap.size]?=(drew w5).heap[w0.heap.size]?:=fun u R=>by rw[R]
   have Z:∀(b:Bool),(b=true↔d[c0]=true\/is=true)->∀w',Own w' m.heap.size 4 di (.slice (some ⟨m.heap.size,0,none⟩) g.length g.length) (d.set c0 b)->Ext m w'->
     (i+1<=sets[f].length/\Own w' m.heap.size 4 di (.slice (some ⟨m.heap.size,0,none⟩) g.length g.length) (d.set c0 b)/\(d.set c0 b).length=g.length/\(∀c:Nat,c<g.length->((d.set c0 b).getD c false=true↔∃y,y<i+1/\sets[f].getD y false=true/\part.getD y 0=c))/\Ext m w'):=by
    intro b l w' O he
    refine⟨hi',O,by simpa using hhl,fun c t=>?_,he⟩;have hsplit:(∃y,y<i+1/\sets[f].getD y false=true/\part.getD y 0=c)↔(∃y,y<i/\sets[f].getD y false=true/\part.getD y 0=c)\/(is=true/\c0=c):=by
     constructor
     ·rintro⟨y,hy1,Y,hy3⟩
      by_cases e:y=i
      ·subst e;exact .inr ⟨by rw[<-hsg];exact Y,by omega⟩
      ·exact .inl ⟨y,by omega,Y,hy3⟩
     ·rintro(⟨y,hy1,Y⟩|⟨hy1,Y⟩)
      ·exact⟨y,by omega,Y⟩
      ·exact⟨i,by omega,by rw[hsg];exact hy1,by omega⟩
    rw[tg hch,hsplit];by_cases e:c0=c
    ·subst e
     rw[Sj rfl,l,<-sK hch,P _ t];simp
    ·rw[Si e,P c t]
     simp[e]
   refine aF (fun x:World=>x=drew w5) [(0,true),(1,true),(2,true),(3,true),(4,true),(5,true),(6,true),(7,true),(8,true),(9,true),(10,true),(11,true),(12,true),(13,true),(14,true),(15,true)] 16 mixed SN rfl ?_;refine Us ?_;refine cg (w:=drew w5) (F:=dl w0) (hKK _) rfl rfl rfl rfl rfl rfl rfl hpd hip SX (fun u q R=>?_);obtain rfl:=R.int;rw[hpc'];refine Us ?_;refine cg (w:=drew w5) (F:=dl w0) (hKK _) rfl rfl rfl rfl rfl rfl rfl hpd hip SX (fun u q R=>?_);obtain rfl:=R.int;rw[hpc'];skip;rw[<-hhl];refine cg (w:=drew w5) (F:=fun b=>b=m.heap.size) (hKK _) rfl rfl rfl rfl rfl rfl rfl hhs hch SX (fun u q R=>?_);obtain rfl:=R.bool;rw[hhl];by_cases hh:d[c0]=true
   ·rw[hh]
    refine Up ?_;refine cH (yv:=true) rfl rfl rfl rfl rfl rfl L hch SX SX (Rd.mkBool _ _ _) (fun w14 q ho14 j=>?_);have H:Ext m w14:=(I.trans hd).grown j (I.trans hd).size (fun b l=>(L.lt b l).1);refine Tn ?_;exact EX.back (i+1,d.set c0 true) SL (Z true (by simp[hh]) _ ho14 H) SR
   ·have hh:d[c0]=false:=by simpa using hh
    rw[hh];refine Uq ?_;refine cH (yv:=is) rfl rfl rfl rfl rfl rfl L hch SX SX (Rd.mkBool _ _ _) (fun w14 q ho14 j=>?_);have H:Ext m w14:=(I.trans hd).grown j (I.trans hd).size (fun b l=>(L.lt b l).1);refine Tn ?_;exact EX.back (i+1,d.set c0 is) SL (Z _ (by simp[hh]) _ ho14 H) SR
  ·obtain rfl:i=sets[f].length:=by simp at h;omega
   have ho5:=O.extN I;rw[hSl]at P
   generalize hhv:Value.slice (some ⟨m.heap.size,0,none⟩) g.length g.length=hv at*
   have hhb:hv.ownBlock=some m.heap.size:=by rw[<-hhv];rfl
   refine T6 ?_;refine CW.loop (S:=Nat×List Bool) (fun s=>[(0,Tg B),(4,Tg w0.heap.size),(7,sv),(12,hv),(42,.slice so sets.length sc),(43,Te sets.length),(44,Te f),(79,Te g.length),(80,Te s.1)])
    (fun s w=>s.1<=g.length/\Own w X.heap.size 4 di sv s.2/\s.2.length=g.length/\(∀c:Nat,c<g.length->s.2.getD c false=if c<s.1 then out.getD c false&&d.getD c false else out.getD c false)/\Own w m.heap.size 4 di hv d/\Ext X w) (fun s=>g.length -s.1) (0,out) ?_
    ⟨QK _,ho5,r,fun c t=>by dsimp only;rw[Si SM],M,e3.trans I⟩ ?_
   ·rw[r];exact SL
   rintro⟨k,gd'⟩ w14 ⟨hk,j,A,G,M,H⟩
   dsimp only at hk j A G M⊢
   refine T2 ?_;apply CW.cond rfl<;>intro h
   ·have hk':k<g.length:=by simp at h;omega
    have hkg:k<gd'.length:=by omega
    have hkh:k<d.length:=by omega
    have hgk:gd'[k]=out.getD k false:=by rw[<-LP hkg,G k hk',Si SM]
    have hst:∀b:Bool,b=(out.getD k false&&d.getD k false)->∀c:Nat,c<g.length->(gd'.set k b).getD c false=if c<k+1 then out.getD c false&&d.getD c false else out.getD c false:=by
     intro b l c t
     rw[tg hkg];by_cases e:k=c
     ·subst e;rw[Sj rfl,Sj SM,l]
     ·rw[Si e,G c t]
      by_cases h1:c<k
      ·rw[Sj h1,Sj SM]
      ·rw[Si h1,Si SM]
    refine TI ?_;refine fj rfl rfl rfl rfl rfl j hkg SX (fun u q R=>?_);obtain rfl:=R.bool;rw[hgk];by_cases V:out.getD k false=true
    ·rw[V]
     refine Ue ?_;refine fj rfl rfl rfl rfl rfl M hkh SX (fun u q R=>?_);obtain rfl:=R.bool;refine Ue ?_;refine f6 (u:=.bool d[k]) (yv:=d[k]) rfl rfl rfl rfl j hkg SX SX (Rd.mkBool _ _ _) (fun w15 q ho15 Q=>?_);have e15:Ext X w15:=H.grown Q H.size (fun b l=>(j.lt b l).1);have T:=M.keptN Q (fun g hg e=>by rw[hhb]at hg;cases hg;exact absurd (hslt _ e.symm) (Ql _));refine Tn ?_;exact EX.back (k+1,gd'.set k d[k]) SL ⟨hk',ho15,by simpa using A,hst _ (by rw[V,LP hkh];rfl),T,e15⟩ SR
    ·have V:out.getD k false=false:=by simpa using V
     rw[V];refine Ul ?_;refine f6 (u:=.bool false) (yv:=false) rfl rfl rfl rfl j hkg SX SX (Rd.mkBool _ _ _) (fun w15 q ho15 Q=>?_);have e15:Ext X w15:=H.grown Q H.size (fun b l=>(j.lt b l).1);have T:=M.keptN Q (fun g hg e=>by rw[hhb]at hg;cases hg;exact absurd (hslt _ e.symm) (Ql _));refine Tn ?_;exact EX.back (k+1,gd'.set k false) SL ⟨hk',ho15,by simpa using A,hst _ (by rw[V];rfl),T,e15⟩ SR
   ·obtain rfl:k=g.length:=by simp at h;omega
    refine To ?_;refine EX.back (f+1,gd') SL ⟨hf',j,A,fun c t=>?_,H⟩ SR;dsimp only;rw[G c t,Sj t,MZ,hr c t,P c t,<-PU hf',RV];refine RW Nm ⟨fun⟨h1,h2⟩ F hF=>?_,fun h1=>⟨fun F hF=>h1 F (Ph.2 (.inl hF)),h1 sets[f] (Ph.2 (.inr SQ))⟩⟩;rcases Ph.1 hF with hF|hF
    ·exact h1 F hF
    ·rw[Py]at hF;subst hF;exact h2
 ·obtain rfl:f=sets.length:=by simp at h;omega
  rw[PV]at hr
  obtain⟨oo,oc,rfl,hos⟩:=O.oldN.sl;refine TO ?_;refine eN (yu m true hos) ?_;rintro _ w4 ⟨rfl,e4⟩
  have hiff:∀c:Nat,c<g.length->(out.getD c false=true↔bY g part sets (c:Int)):=fun c t=>hr c t
  refine Tk ?_;refine bi rfl rfl ⟨_,rfl,?_,hE.trans e4⟩;rcases xZ r with⟨h1,h2⟩|⟨c,h1,h2,h3⟩
  ·refine .inl ⟨h1,fun c h0 h3 h4=>?_⟩
   obtain⟨c,rfl⟩:=Nn h0;have:=(hiff c SM).2 h4;rw[h2]at this
   cases this
  ·exact .inr ⟨by omega,by omega,by rw[h1];exact(hiff c h2).1 h3⟩
def Cells.nthE{b:Nat}{cs:List Value}(h:Cells w b B cs){j:Nat}(c:cs[j]?=some v):Cells w b (B+j) [v]:=by
 intro k u a
 cases k with
 |zero=>simp at a;subst a;exact h j _ c
 |succ k=>simp at a
def Sl.pairAt{ao:Option Addr}{cap:Nat}{xs:List dw}(h:Sl w F ao cap xs)(i:Nat)(hi:i<xs.length):∃b off,ao=some ⟨b,off,none⟩/\F b/\Cells w b (off+i*2+0) [Te xs[i].1]/\Cells w b (off+i*2+1) [Te xs[i].2]:=by
 obtain⟨b,off,e,hF,d,a,c⟩:=h.el i hi;obtain⟨c1,c2,rfl,h1,h2⟩:=Fd c;rw[E7 h1,E7 h2]at a
 exact⟨b,off,e,hF,a.nthE rfl,a.nthE rfl⟩
def nK{l:List Int}(h:0<l.length):l.drop (l.length -1)=[l.getD (l.length -1) 0]:=by
 refine N4 ST fun i h1 h2=>?_
 rw[OW]at h1
 obtain rfl:i=0:=by omega
 rw[OE,Oi,On SM];rfl
def tN{g:bZ}{part:List Int}{sets:List (List Bool)}(a:okG g)(c:PartsOK g part){i:Nat}(hi:i<g.length)(h:bY g part sets (part.getD i 0)):∃u:Nat,u<g.length/\(u:Int)∈g.getD i []/\part.getD u 0=part.getD i 0:=by
 obtain⟨⟨u,h1,h2⟩,_⟩:=(tM a c hi).2 h;have b:u<g.length:=Eg.lt a h1;exact⟨u,b,h1,(c.same u i b hi).2 ⟨(EO a).2 h2,(EO a).2 (Rc.one h1)⟩⟩
def pA(w:World)(b:Nat){S:List Bool}{k:Nat}(d:Blk w b 80 [.slice C S.length B])(c:Sl w (dl w) C B S)(a:k<S.length):
  Rt UA 207 [Te (k:Int),Tg b].toArray w fun v w'=>v=.bool (S.getD k false)/\Ext w w':=by
 refine dV Tryz.func207 Tryz.ntmps207 rfl rfl ?_;refine TJ ?_;refine fd rfl rfl rfl rfl rfl c a rfl SX (fun q=>?_);refine Tk ?_;exact bi rfl rfl ⟨by rw[LP a],Ext.refl w⟩
def pB(w:World)(b:Nat){S:List Bool}{k:Nat}(d:Blk w b 80 [.slice C S.length B])(c:Sl w (dl w) C B S)(a:k<S.length):
  Rt UA 208 [Te (k:Int),Tg b].toArray w fun v w'=>v=.bool (S.getD k false)/\Ext w w':=by
 refine dV Tryz.func208 Tryz.ntmps208 rfl rfl ?_;refine TJ ?_;refine fd rfl rfl rfl rfl rfl c a rfl SX (fun q=>?_);refine Tk ?_;exact bi rfl rfl ⟨by rw[LP a],Ext.refl w⟩
def pC(w:World)(b:Nat){k n:Nat}(a:Blk w b 3 [Te (n:Int)]):
  Rt UA 209 [Te (k:Int),Tg b].toArray w fun v w'=>v=.bool (decide (k=n))/\Ext w w':=by
 refine dV Tryz.func209 Tryz.ntmps209 rfl rfl ?_;refine T_ ?_;refine bi rfl rfl ⟨?_,Ext.refl w⟩
 congr 1
 (rw[M2];simp;try omega)
def pD(w0:World){n:Nat}{x0 x3 x4 x5 x6 x7 x8 x9 x10 x12:Value}{so:Option Addr}{sc:Nat}{part:List Int}{sets:List (List Bool)}
  (m:Blk w0 B 223 [x0,o,J,x3,x4,x5,x6,x7,x8,x9,x10,.slice C g.length a,x12]) (hs:Sl w0 (dl w0) C a g) (hp:Sl w0 (dl w0) D K part) (hfs:Sl w0 (dl w0) so sc sets)
  (Q:okG g) (I:PartsOK g part) (hl:g.length<=1228800) (hsl:∀S∈sets,S.length=g.length) (hsn:sets.length<=160) (hrw0:∀r∈g,r.length<=1099511627776) (hn:n<g.length) (hgd:bY g part sets (part.getD n 0)):
  Rt UA 128 [Tg B,Te (n:Int),.slice D part.length K,.slice so sets.length sc].toArray w0 fun v w'=>∃out,Own w' w0.heap.size 3 di v out/\RoOK g n sets out/\Ext w0 w':=by
 have hpl:=I.len;have hms:=hfs.len63;have hnp:n<part.length:=by omega
 have h0:=I.ge n hnp;have hpn:part[n]=part.getD n 0:=(LR hnp).symm;have hsb0:=m.lt;have hsg:sets.length*g.length<=160*1228800:=Qs hsn hl;refine dX Tryz.func128 Tryz.ntmps128 rfl rfl ?_;refine T9 ?_;refine eJ fun w1 hb5 W=>?_
 have hl5:=hb5.lt;generalize E:w0.heap.size=b5 at*
 refine TJ ?_;refine ff (hp.at W) hnp hpn SX (fun q=>?_);generalize U:part.getD n 0=c at*
 refine TJ ?_;refine WL.lit (F:=di) (ys:=[(n:Int)]) rfl rfl rfl rfl rfl (.cons S_ .nil) (by show 1*1<=16777216;decide) S0 (fun w2 ho2 hg2=>?_);have e2:Ext w1 w2:=(MW _ _).grown hg2 Ta S5;generalize hov:Value.slice (some ⟨w1.heap.size,0,none⟩) 1 1=ov0 at*
 refine TR ?_;refine CW.loop (S:=Nat×List Int×Value) (fun s=>[(0,Tg B),(2,.slice D part.length K),(5,Tg b5),(9,Te c),(10,s.2.2),(24,.slice so sets.length sc),(25,Te sets.length),(26,Te s.1)])
  (fun s w=>s.1<=sets.length/\RoI g part n (sets.take s.1) s.2.1/\Own w w1.heap.size 3 di s.2.2 s.2.1/\Ext w1 w) (fun s=>sets.length -s.1) (0,[(n:Int)],ov0) SL
  ⟨QK _,by simpa using RoI.start (part:=part) hn,ho2,e2⟩ ?_
 clear ho2 hg2 e2;rintro⟨i,out,ov⟩ w ⟨hi,hR,ho,e⟩
 dsimp only at hi hR ho e⊢
 have X:=W.trans e;have hRl:=hR.len;have hRn:=hR.ne;have hlt:=fun g Q=>ho.lt g Q
 have hbw:=m.ext X;have hb5w:=hb5.ext e;have htl:(sets.take i).length<=160:=by rw[O9];omega
 have htg:(sets.take i).length*g.length<=160*1228800:=Qs htl hl;have hol:out.length<=196608001:=by omega
 have A:out.getD (out.length -1) 0∈out:=by rw[Oi,On SM];exact OG _
 have hlr:=hR.rg _ A;have L:=hR.pt _ A;obtain⟨la,T⟩:=Nn hlr.1;rw[T,Nt,U]at L
 have f:la<g.length:=by omega
 refine T2 ?_;apply CW.cond rfl<;>intro h
 ·have N:i<sets.length:=by simp at h;omega
  clear h;have hSm:=OG N;have hSl:=hsl _ hSm;have H:sets.take (i+1)=sets.take i++[sets[i]]:=PZ N;refine T7 ?_;refine fh (hfs.mono (w':=w) X.block (F':=fun b=>b<b5) (fun b m=>by rw[<-E];exact m)) N SX (fun u q hu=>?_);obtain⟨Fo,Fc,rfl,hF⟩:=hu.sl;clear hu;generalize sets[i]=S at*
  refine eF (fun w3 V G=>?_);refine f_ V (fun w4 V hg4=>?_);have e4:Ext w w4:=G.grown hg4 G.size SZ;have hE4:=X.trans e4;have ho4:=ho.extN e4;have hz4:=hE4.size;have hF4:∀{x:World},Ext w4 x->Sl x (dl x) Fo Fc S:=fun {x} hx=>hF.mono (fun b m=>((hE4.trans hx).block b (by rw[E];exact m)).trans (X.block b (by rw[E];exact m)).symm) (fun b m=>by have:=(hE4.trans hx).size;exact(show b<x.heap.size by omega))
  obtain⟨oo,oc,rfl,hos⟩:=ho4.oldN.sl;refine Tu ?_;refine eN (ma w4 (fun x=>S.getD x.toNat false) hos (fun w5 d j hj=>?_)) ?_
  ·have hto:=hR.rg _ (OG hj)
   obtain⟨to,eto⟩:=Nn hto.1;rw[eto,Nt];exact FnV.mk (cs:=[_]) (pA w5 _ (V.ext d) (hF4 d) SM)
  rintro _ w5 ⟨rfl,e5⟩
  have e45:=e4.trans e5;have hE5:=X.trans e45;have P:=e.trans e45;have ho5:=ho4.extN e5;refine T1 ?_;apply CW.cond rfl<;>intro h2
  ·refine To ?_
   refine EX.back (i+1,out,.slice oo out.length oc) SL ⟨N,?_,ho5,P⟩ SR;dsimp only;rw[H];rw[NE]at h2
   exact hR.skip h2
  ·have hdl:=nK hRn
   refine TU ?_;refine eZ (α:=Int) (out.length -1) SM rfl rfl rfl rfl ho5 SM (fun tv2 ho2 hob=>?_);rw[hdl]at ho2
   obtain⟨fo,fc,rfl,hfr⟩:=ho2.oldN.sl;have hfin:=hgd.2 S hSm;obtain⟨x,hx,hxs,hxp⟩:=hfin;refine Uj ?_;refine eN (pP w5 (fr:=[out.getD (out.length -1) 0]) (to:=fun k=>S.getD k false) (m.ext hE5) (hs.up hE5) hfr (hp.up hE5) Q (fun y hy=>by rw[Py]at hy;subst hy;exact hlr) hpl hl (fun z hz k hk=>FnV.mk (cs:=[_]) (pB z _ ((V.ext e5).ext hz) (hF4 (e5.trans hz)) SM))) ?_;rintro v6 w6 ⟨r,hor,d,e6⟩
   have d:WyOK g [out.getD (out.length -1) 0] (fun k=>S.getD k false) (gB part c) r:=by
    rcases d with⟨_,d⟩|d
    ·exact absurd d (LE Q I h0 f hx L hxp (by rw[T];simp) hxs)
    ·exact d
   have hrl:=d.len;have hrn:=d.ne;have hR':=hR.go (S:=S) (l:=r) (by rw[U];exact h0) (by rw[U];exact d);have ho6:=ho5.extN e6;have hz5:=P.size;refine T2 ?_;refine eZ (α:=Int) 1 rfl rfl rfl rfl rfl hor SM (fun v7 ho7 hob7=>?_);obtain⟨ro,rc,rfl,R⟩:=ho7.oldN.sl;refine WL.app (F:=di) rfl rfl rfl rfl ho6 R.srcN (by have:=(P.trans e6).size;omega) S0 (by unfold maxLen;rw[OW];omega) (by rw[OW];omega) (fun v8 w8 ho8 hg8 hnb8=>?_);have e8:Ext w1 w8:=(P.trans e6).grown hg8 (P.trans e6).size (fun b m=>(ho6.lt b m).1);refine Tn ?_;exact EX.back (i+1,out++r.drop 1,v8) SL ⟨N,by dsimp only;rw[H];exact hR',ho8,e8⟩ SR
 obtain rfl:i=sets.length:=by simp at h;omega
 rw[PV]at hR
 clear h hi htl htg;obtain⟨oo,oc,rfl,hos⟩:=ho.oldN.sl;have Y:g.getD la []=g[la]:=LQ f;refine Uc ?_;have Z:out.length -1<out.length:=by omega
 have hlael:out[out.length -1]=(la:Int):=by rw[<-T,LR Z]
 rw[show((out.length:Nat):Int) -1=((out.length -1:Nat):Int) by omega];refine dA rfl rfl rfl rfl rfl S3 hos Z hlael SX (fun q=>?_);refine dB rfl rfl rfl rfl rfl (fun b m=>by have:=X.size;omega) (hs.mono (w':=w) X.block (F':=fun b=>b<b5) (fun b m=>by rw[<-E];exact m)) f SX (fun u q hu=>?_);obtain⟨ro,rc,rfl,R⟩:=hu.sl;clear hu;have hrr:CQ g.length g[la]:=Q _ (OG f);have hrwl:=hrw0 _ (OG f);generalize hrw:g[la]=row at*
 have hrl:=R.len63;refine Un ?_;refine QL.nil (fun w2 e2=>?_);have e12:=e.trans e2;have hE2:=X.trans e2;have ho2:=ho.extN e2;have hz2:=hE2.size;refine T7 ?_;refine CW.loop (S:=Nat×List Int×Value) (fun s=>[(0,Tg B),(2,.slice D part.length K),(5,Tg b5),(9,Te c),(10,.slice oo out.length oc),(14,s.2.2),(59,.slice ro row.length rc),(60,Te row.length),(61,Te s.1)])
  (fun s w=>s.1<=row.length/\s.2.1=(row.take s.1).filter (fun k=>decide (part.getD k.toNat 0=c))/\Own w w2.heap.size 3 di s.2.2 s.2.1/\Ext w2 w) (fun s=>row.length -s.1) (0,[],.slice none 0 0) SL
  ⟨QK _,by simp,Own.nil,Ext.refl _⟩ ?_
 rintro⟨j,th,tv⟩ w3 ⟨hj,t,ht,G⟩
 dsimp only at hj t ht G⊢
 have O:=hE2.trans G;have hthl:th.length<=j:=by
  rw[t];exact Qk (O0 _ _) (by rw[O9];omega)
 refine T2 ?_;apply CW.cond rfl<;>intro h
 ·have M:j<row.length:=by simp at h;omega
  clear h;have hkr:=hrr _ (OG M);have H:row.take (j+1)=row.take j++[row[j]]:=PZ M;refine T7 ?_;refine ff (R.mono (w':=w3) (fun b m=>(O.block b (by rw[E];exact m)).trans (X.block b (by rw[E];exact m)).symm) (F':=fun b=>b<b5) S3) M rfl SX (fun q=>?_);generalize row[j]=k at*
  obtain⟨kn,rfl⟩:=Nn hkr.1;have hkp:kn<part.length:=by omega
  have hpk:part.getD kn 0=part[kn]:=LR hkp;refine T2 ?_;refine ff (hp.at O) hkp rfl SX (fun q=>?_);refine Tl ?_;apply CW.cond rfl<;>intro h2
  ·have h2:part[kn]=c:=by simpa using h2
   refine TP ?_;refine eH (F:=di) (yv:=(kn:Int)) rfl rfl SX rfl rfl SX ht S_ G.size S0 SP SS SM (fun tv' w4 p ho4 hg4 hnb4=>?_);refine Tn ?_;refine EX.back (j+1,th++[(kn:Int)],tv') SL ⟨M,?_,ho4,G.grown hg4 G.size (fun g Q=>(ht.lt g Q).1)⟩ SR;dsimp only;rw[H,N6,<-t,N7,N_,Nt,hpk,R9 h2,Sj rfl]
  ·have h2:¬part[kn]=c:=by simpa using h2
   refine Tj ?_;refine EX.back (j+1,th,tv) SL ⟨M,?_,ht,G⟩ SR;dsimp only;rw[H,N6,<-t,N7,N_,Nt,hpk,R7 h2,Si SP,NG]
 obtain rfl:j=row.length:=by simp at h;omega
 rw[PV]at t
 clear h hj hthl;have hmem:∀x∈th,x∈row:=fun x hx=>by rw[t]at hx;exact(Po.1 hx).1
 obtain⟨tt,tc,rfl,hts⟩:=ht.oldN.sl;have ho3:=ho2.extN G;obtain⟨u,hu,hue,hup⟩:=tN Q I f (sets:=sets) (by rw[L];exact hgd);rw[Y]at hue
 have hut:(u:Int)∈th:=by rw[t];exact Po.2 ⟨hue,R9 (by rw[Nt,hup,L])⟩
 have hb53:=hb5w.ext (e2.trans G);refine Ub ?_;refine eN (pP w3 (fr:=th) (to:=fun k=>decide (k=n)) (m.ext O) (hs.up O) hts (hp.up O) Q (fun y hy=>hrr y (hmem y hy)) hpl hl (fun z hz k hk=>FnV.mk (cs:=[_]) (pC z _ (hb53.ext hz)))) ?_;rintro v6 w6 ⟨r,hor,d,e6⟩
 have d:WyOK g th (fun k=>decide (k=n)) (gB part c) r:=by
  rcases d with⟨_,d⟩|d
  ·exact absurd d (LE Q I h0 hu hn (by rw[hup,L]) U hut SQ)
  ·exact d
 have hrl2:=d.len;have hrn:=d.ne;have hRO:=hR.close (l:=r) (fr:=th) (by rw[T,Nt,Y];exact hmem) d;have ho6:=ho3.extN e6;have e16:=(e12.trans G).trans e6;refine TU ?_;refine eX (α:=Int) (r.length -1) SM rfl rfl rfl rfl hor SM (fun v7 ho7 hob7=>?_);obtain⟨ro7,rc7,rfl,hrs7⟩:=ho7.oldN.sl;refine WL.app (F:=di) rfl rfl rfl rfl ho6 hrs7.srcN e16.size S0 (by unfold maxLen;rw[O9];omega) (by rw[O9];omega) (fun v8 w8 ho8 hg8 hnb8=>?_);have e8:Ext w1 w8:=e16.grown hg8 e16.size (fun b m=>(ho6.lt b m).1);refine Tk ?_;exact bi rfl rfl ⟨_,ho8.low (by have:=W.size;omega),hRO,W.trans e8⟩
def pH(w0:World){x0 M L I H G E D m j:Value}{lo ao:Option Addr}{ps:List dw}{l:List Int}
  (U:Blk w0 B 223 [x0,o,J,M,L,I,H,G,E,D,.slice lo ps.length a,m,j]) (u:Sl w0 (dl w0) lo a ps) (O:Sl w0 (dl w0) ao K l) (Q:CQ ps.length l) (P:l.length<=1099511627776):
  Rt UA 129 [Tg B,.slice ao l.length K].toArray w0 fun v w'=>Own w' w0.heap.size 3 di v (l.map fun n=>(ps.getD n.toNat (0,0)).1)/\Ext w0 w':=by
 refine dV Tryz.func129 Tryz.ntmps129 rfl rfl ?_;refine TR ?_;refine CW.loop (S:=Nat×Value) (fun s=>[(0,Tg B),(5,s.2),(8,.slice ao l.length K),(9,Te l.length),(10,Te s.1)])
  (fun s w=>s.1<=l.length/\Own w w0.heap.size 3 di s.2 ((l.take s.1).map fun n=>(ps.getD n.toNat (0,0)).1)/\Ext w0 w) (fun s=>l.length -s.1) (0,.slice none 0 0) SL ⟨QK _,Own.nil,Ext.refl _⟩ ?_
 rintro⟨i,ov⟩ w ⟨hi,f,d⟩
 dsimp only at hi f d⊢
 have T:=U.ext d;refine T2 ?_;apply CW.cond rfl<;>intro h
 ·have c:i<l.length:=by simp at h;omega
  have r:=Q _ (OG c);have e:(l.take (i+1)).map (fun n=>(ps.getD n.toNat (0,0)).1)=(l.take i).map (fun n=>(ps.getD n.toNat (0,0)).1)++[(ps.getD l[i].toNat (0,0)).1]:=by
   rw[PZ c,Pb];rfl
  have N:(List.map (fun n:Int=>(ps.getD n.toNat (0,0)).1) (l.take i)).length=i:=by rw[O1,O9];omega
  refine T7 ?_;refine ff (O.up d) c rfl SX (fun q=>?_);generalize l[i]=x at*
  obtain⟨k,rfl⟩:=Nn r.1;rw[Nt]at e
  have C:k<ps.length:=by omega
  have t:ps.getD k (0,0)=ps[k]:=by rw[Oi,On C];rfl
  rw[t]at e
  obtain⟨b,off,rfl,V,z,_⟩:=(u.up d).pairAt k C;refine Tv ?_;refine fp (α:=dw) rfl rfl rfl rfl SM SM ?_;refine fm rfl rfl rfl ?_;refine WL.load (α:=Int) (F:=di) rfl rfl rfl z rfl ?_;refine eH (F:=di) (yv:=ps[k].1) rfl rfl SX rfl rfl SX f S_ d.size S0 SP SS SM (fun tv' W p ho4 y A=>?_);refine Tn ?_;refine EX.back (i+1,tv') SL ⟨c,?_,d.grown y d.size (fun g R=>(f.lt g R).1)⟩ SR;dsimp only;rw[e];exact ho4
 ·obtain rfl:i=l.length:=by simp at h;omega
  rw[PV]at f
  refine TO ?_;exact bj ⟨f,d⟩
def bt(m j:Nat):Bool:=Nat.beq (Nat.land (Nat.shiftRight m j) 1) 1
def IR(m M:Nat):Bool:=Nat.beq (Nat.land m M) m
def alone(i M:Nat):Nat->List Nat->Bool
 |_,[]=>true
 |j,m::r=>match Nat.beq j i with
  |true=>alone i M (j+1) r
  |false=>match bt M j with
   |true=>alone i M (j+1) r
   |false=>match IR m M with
    |true=>false
    |false=>alone i M (j+1) r
section
variable {L:List Oper}{listed:Array Bool}{M i:Nat}
end
section
variable {P:Program}{Q:Exit->Act->World->Prop}{n:Nat}{σ:Sg}{w:World}{L:List Oper}
end
def L9(P:Program)(ops:Array Oper)(Q:Exit->Act->World->Prop)(S:Array Bool->World->Prop):Nat->Array Bool->Act->World->Prop
 |0,f,a,w=>Region.ready .any ops f=[]/\Q .normal a w
 |fuel+1,f,a,w=>
  (Region.ready .any ops f=[]->Q .normal a w)/\
  ∀i∈Region.ready .any ops f,wpOp P ops Q i (fun h w'=>S (f.setIfInBounds i true) w'/\L9 P ops Q S fuel (f.setIfInBounds i true) h w') a w
section
variable {P:Program}{ops:Array Oper}{Q:Exit->Act->World->Prop}{S:Array Bool->World->Prop}
theorem Mc:∀(fuel:Nat) (f:Array Bool) (a:Act) (w:World),L9 P ops Q S fuel f a w->wpAny P .any ops Q fuel f a w
 |0,_,_,_,h=>h
 |fuel+1,_,_,_,h=>⟨h.1,fun i hi=>SF (fun k w' j=>Mc fuel _ k w' j.2) (h.2 i hi)⟩
theorem L_{i:Nat}{oi:Oper}{v:Value}(hi:ops[i]?=some oi)(r:∀(j:Nat) (o:Oper) cs b,ops[j]?=some o->o.op≠.select cs b)
  (hQ:∀c a w,Q (.panic c) (a.put oi.dst v) w->Q (.panic c) a w) (Rch:Array Bool->Prop) (hR:∀L j,Rch L->j≠i->j∈Region.ready .any ops L->Rch (L.setIfInBounds j true))
  (z:∀L w,S (L.setIfInBounds i true) w↔S L w):
  ∀(fuel:Nat) (f:Array Bool) (a:Act) (w:World),Rch f->
   (∀j oj,ops[j]?=some oj->j≠i->f.getD j true=false->(∀e∈oj.after,Region.binds .any e=true->e.on≠i)->oi.apart ops oj=true)->
   i∈Region.ready .any ops f->YieldsIf P ops (fun w=>∃L,Rch L/\S L w) oi v a->S f w->
   L9 P ops Q S fuel (f.setIfInBounds i true) (a.put oi.dst v) w->L9 P ops Q S (fuel+1) f a w:=by
 intro fuel
 induction fuel with
 |zero=>
  intro f a w q _ u G hS H
  refine⟨fun h=>(by rw[h]at u;cases u),fun j D=>?_⟩;by_cases l:j=i
  ·subst l;exact G.wpOp hi ⟨f,q,hS⟩ ⟨(z _ _).2 hS,H⟩
  ·have:=St D l
   rw[H.1]at this
   cases this
 |succ fuel R=>
  intro f a w q m u G hS H
  refine⟨fun h=>(by rw[h]at u;cases u),fun j D=>?_⟩;by_cases l:j=i
  ·subst l;exact G.wpOp hi ⟨f,q,hS⟩ ⟨(z _ _).2 hS,H⟩
  ·have h1:=H.2 j (St D l)
   obtain⟨s,oj,y,E⟩:=Sm.1 D;have B:∀e∈oj.after,Region.binds .any e=true->e.on≠i:=fun e U V K=>by
    have h1:=E e U V;have O:=(Sm.1 u).1;rw[K]at h1
    rcases Qo i f.size with N|N
    ·simp[N]at O h1;rw[O]at h1;cases h1
    ·simp[MF N]at h1
   have h2:=wpOp_putIf y (m j oj y l s B) (fun cs b=>r i oi cs b hi) (fun cs b=>r j oj cs b y) hQ G h1;have p:∀k ok,ops[k]?=some ok->k≠i->(f.setIfInBounds j true).getD k true=false->
     (∀e∈ok.after,Region.binds .any e=true->e.on≠i)->oi.apart ops ok=true:=fun k ok T J A I=>by
    refine m k ok T J ?_ I;by_cases C:j=k
    ·subst C;exact s
    ·rw[getD_set_ne true C]at A;exact A
   refine SF (fun W w' h3=>?_) h2;have M:(f.setIfInBounds i true).setIfInBounds j true=(f.setIfInBounds j true).setIfInBounds i true:=MQ _ _ (QN l);rw[M]at h3
   have F:=(z _ _).1 h3.2.1;exact⟨F,R (f.setIfInBounds j true) W w' (hR _ _ q l D) p (St u (QN l)) h3.1 F h3.2.2⟩
end
structure Cls(L:List Oper)(l:Array Bool):Prop where
 size:l.size=L.length
 cl:∀k o,l.getD k false=true->L[k]?=some o->∀j∈C0 o,l.getD j false=true
def Cls.put{l:Array Bool}(h:Cls L l){j:Nat}(r:j∈Region.ready .any L.toArray l):Cls L (l.setIfInBounds j true):=by
 obtain⟨_,o,q,s⟩:=Sm.1 r;have a:L[j]?=some o:=by simpa using q
 refine⟨by simpa using h.size,fun k p f ho2 x m=>?_⟩;refine listed_set.2 (.inr ?_);rcases listed_set.1 f with⟨rfl,_⟩|f
 ·rw[a]at ho2;cases ho2
  exact C1 s x m
 ·exact h.cl k p f ho2 x m
def SG(c e:Nat)(Sw Ss:World->Prop):Array Bool->World->Prop:=fun l w=>l.getD e false=false->Sw w/\(l.getD c false=false->Ss w)
def tk{l:Array Bool}{i c:Nat}(a:i≠c):(l.setIfInBounds i true).getD c false=l.getD c false:=by
 simp only[MC];rw[MN a]
def dZ{c e i:Nat}(f:i≠c)(a:i≠e){Ss:World->Prop}(l:Array Bool)(w:World):SG c e S Ss (l.setIfInBounds i true) w↔SG c e S Ss l w:=by
 unfold SG;rw[tk f,tk a]
def ja(L:List Oper)(c i:Nat):Bool:=(mark L (c+1) ((List.replicate (c+1) false).set c true)).getD i false
def jb{l:Array Bool}{c i:Nat}(h:ja L c i=true)(p:Cls L l)(hi:l.getD i false=false):l.getD c false=false:=by
 cases f:l.getD c false with
 |false=>rfl
 |true=>
  have:=Bb (L:=L) (S:=fun x=>l.getD x false=true) (fun x o a k j m=>p.cl x o a k j m) (c+1) ((List.replicate (c+1) false).set c true) (fun x a=>by
   by_cases e:c=x
   ·subst e;exact f
   ·exfalso
    simp[Oi,Ow,e,Ov]at a
    split at a<;>simp at a) i h
  rw[hi]at this;cases this
def Dd(L:List Oper)(c e:Nat):List (Nat×Nat)->Array Bool->Bool
 |[],a=>(Region.ready .any L.toArray a).isEmpty
 |(i,k)::r,a=>match k with
  |0=>decide (Region.ready .any L.toArray a=[i])&&decide (i≠e)&&Dd L c e r (a.setIfInBounds i true)
  |1=>(Region.ready .any L.toArray a).contains i&&Region.free .any L.toArray a i&&decide (i≠c)&&decide (i≠e)&&(decide (L.length<=e)||ja L e i)&&Dd L c e r (a.setIfInBounds i true)
  |2=>(Region.ready .any L.toArray a).contains i&&Region.free .any L.toArray a i&&decide (i≠c)&&decide (i≠e)&&(decide (L.length<=e)||ja L e i)&&ja L c i&&Dd L c e r (a.setIfInBounds i true)
  |_=>decide (Region.ready .any L.toArray a=[i])&&decide (i=e)&&Dd L c e r (a.setIfInBounds i true)
def Mn(P:Program)(ops:List Oper)(c e:Nat)(Sw Ss:World->Prop)(Q:Act->World->Prop):Bool->List (Nat×Nat)->Act->World->Prop
 |_,[],a,w=>Q a w
 |ph,(i,k)::r,a,w=>match k with
  |0=>∃o,ops[i]?=some o/\(if Region.wanted o (yielded ops.toArray a.tmps)=true then o.wp P a w (fun f w'=>Sw w'/\((ph||Nat.beq i c)=false->Ss w')/\Mn P ops c e Sw Ss Q (ph||Nat.beq i c) r f w') (fun e a w=>e=.normal/\Q a w)else Sw w/\((ph||Nat.beq i c)=false->Ss w)/\Mn P ops c e Sw Ss Q (ph||Nat.beq i c) r (a.put o.dst undef) w)
  |1=>∃o v,ops[i]?=some o/\YieldsIf P ops.toArray Sw o v a/\Mn P ops c e Sw Ss Q ph r (a.put o.dst v) w
  |2=>∃o v,ops[i]?=some o/\YieldsIf P ops.toArray Ss o v a/\Mn P ops c e Sw Ss Q ph r (a.put o.dst v) w
  |_=>r=[]/\∃o,ops[i]?=some o/\(if Region.wanted o (yielded ops.toArray a.tmps)=true then o.wp P a w Q (fun e a w=>e=.normal/\Q a w)else Q (a.put o.dst undef) w)
def Mx{ops:Array Oper}{S':World->Prop}{o:Oper}{a:Act}(h:YieldsIf P ops S o v a)(hS:∀w,S' w->S w):YieldsIf P ops S' o v a:=
 h.imp (fun⟨h1,h2⟩=>⟨h1,fun w f=>h2 w (hS w f)⟩) id
def Mp{P:Program}{L:List Oper}{c e:Nat}{Sw Ss:World->Prop}{Q:Act->World->Prop}(T:Region.noSelect L.toArray=true):
  ∀(ord:List (Nat×Nat)) (ph:Bool) (f:Array Bool) (a:Act) (w:World),Dd L c e ord f=true->Cls L f->(f.getD c false=ph)->SG c e Sw Ss f w->Mn P L c e Sw Ss Q ph ord a w->
   L9 P L.toArray (fun e a w=>e=.normal/\Q a w) (SG c e Sw Ss) ord.length f a w
 |[],ph,f,a,w,z,_,_,_,h=>by
  simp only[Dd,OR]at z
  exact⟨z,rfl,h⟩
 |(i,0)::r,ph,f,a,w,z,B,A,hS,⟨o,D,h⟩=>by
  simp only[Dd,MZ,R_]at z
  obtain⟨⟨G,_⟩,I⟩:=z;have p:i∈Region.ready .any L.toArray f:=by rw[G];simp
  have V:=B.put p;have N:i<L.length:=(Oq.1 D).1;have m:(f.setIfInBounds i true).getD c false=(ph||Nat.beq i c):=by
   cases e:Nat.beq i c with
   |true=>
    obtain rfl:=Qc e;have:=B.size;simp[MC,show i<f.size by omega]
   |false=>
    have s:i≠c:=fun h=>by subst h;rw[P_]at e;cases e
    rw[tk s,A,Nb]
  refine⟨fun h0=>(by rw[h0]at p;cases p),fun j H=>?_⟩;rw[G,Py]at H
  subst H;have q:L.toArray[j]?=some o:=by simpa using D
  unfold wpOp;simp only[q];split
  ·rename_i C
   rw[Sj C]at h
   exact .inl (QP (fun U w' R=>⟨fun _=>⟨R.1,fun K=>R.2.1 (m▸K)⟩,Mp T r _ _ _ _ I V m (fun _=>⟨R.1,fun K=>R.2.1 (m▸K)⟩) R.2.2⟩) h)
  ·rename_i C
   rw[Si C]at h
   exact⟨fun _=>⟨h.1,fun K=>h.2.1 (m▸K)⟩,Mp T r _ _ _ _ I V m (fun _=>⟨h.1,fun K=>h.2.1 (m▸K)⟩) h.2.2⟩
 |(i,1)::r,ph,f,a,w,z,B,A,hS,⟨o,v,D,W,h⟩=>by
  simp only[Dd,MZ,R_,Na]at z
  obtain⟨⟨⟨⟨⟨h1,h2⟩,s⟩,y⟩,O⟩,h3⟩:=z;have p:i∈Region.ready .any L.toArray f:=by simpa using h1
  have q:L.toArray[i]?=some o:=by simpa using D
  have m:(f.setIfInBounds i true).getD c false=ph:=by rw[tk s];exact A
  have N:i<L.length:=(Oq.1 D).1;have M:f.getD i false=false:=by
   have:=(Sm.1 p).1;have X:=B.size;rw[tm SM]at this
   simpa using this
  have F:∀l:Array Bool,Cls L l->l.getD i false=false->l.getD e false=false:=fun l u hi=>O.elim (fun h=>by
   have:=u.size;simp[MC,MF (show l.size<=e by omega)]) (fun h=>jb h u hi)
  exact L_ q (Q1 T) (fun _ _ _ h=>by cases h.1) (fun l=>Cls L l/\l.getD i false=false) (fun l j u E H=>⟨u.1.put H,by rw[tk E];exact u.2⟩) (fun l w=>dZ s y l w) r.length f a w ⟨B,M⟩ (Q0 q h2) p
   (Mx W fun w ⟨l,u,C⟩=>(C (F l u.1 u.2)).1) hS (Mp T r ph _ _ _ h3 (B.put p) m ((dZ s y _ _).2 hS) h)
 |(i,2)::r,ph,f,a,w,z,B,A,hS,⟨o,v,D,W,h⟩=>by
  simp only[Dd,MZ,R_,Na]at z
  obtain⟨⟨⟨⟨⟨⟨h1,h2⟩,s⟩,y⟩,O⟩,Y⟩,h3⟩:=z;have p:i∈Region.ready .any L.toArray f:=by simpa using h1
  have q:L.toArray[i]?=some o:=by simpa using D
  have m:(f.setIfInBounds i true).getD c false=ph:=by rw[tk s];exact A
  have N:i<L.length:=(Oq.1 D).1;have M:f.getD i false=false:=by
   have:=(Sm.1 p).1;have X:=B.size;rw[tm SM]at this
   simpa using this
  have F:∀l:Array Bool,Cls L l->l.getD i false=false->l.getD e false=false:=fun l u hi=>O.elim (fun h=>by
   have:=u.size;simp[MC,MF (show l.size<=e by omega)]) (fun h=>jb h u hi)
  exact L_ q (Q1 T) (fun _ _ _ h=>by cases h.1) (fun l=>Cls L l/\l.getD i false=false) (fun l j u E H=>⟨u.1.put H,by rw[tk E];exact u.2⟩) (fun l w=>dZ s y l w) r.length f a w ⟨B,M⟩ (Q0 q h2) p
   (Mx W fun w ⟨l,u,C⟩=>(C (F l u.1 u.2)).2 (jb Y u.1 u.2)) hS (Mp T r ph _ _ _ h3 (B.put p) m ((dZ s y _ _).2 hS) h)
 |(i,k+3)::r,ph,f,a,w,z,B,A,hS,⟨hr,o,D,h⟩=>by
  subst hr;simp only[Dd,MZ,R_]at z
  obtain⟨⟨G,rfl⟩,I⟩:=z;have p:i∈Region.ready .any L.toArray f:=by rw[G];simp
  have N:i<L.length:=(Oq.1 D).1;have Z:(f.setIfInBounds i true).getD i false=true:=by
   have:=B.size;simp[MC,show i<f.size by omega]
  refine⟨fun h0=>(by rw[h0]at p;cases p),fun j H=>?_⟩;rw[G,Py]at H
  subst H;have q:L.toArray[j]?=some o:=by simpa using D
  have J:∀U w',Q U w'->SG c j Sw Ss (f.setIfInBounds j true) w'/\L9 P L.toArray (fun e a w=>e=.normal/\Q a w) (SG c j Sw Ss) ([]:List (Nat×Nat)).length (f.setIfInBounds j true) U w':=fun U w' hq=>
   ⟨fun h=>(by rw[Z]at h;cases h),by simpa using I,rfl,hq⟩
  unfold wpOp;simp only[q];split
  ·rename_i C
   rw[Sj C]at h
   exact .inl (QP (fun U w' R=>J U w' R) h)
  ·rename_i C
   rw[Si C]at h
   exact J _ _ h
@[irreducible] def HP (P:Program) (ops:List Oper) (c e:Nat) (Sw Ss:World->Prop) (Q:Exit->Act->World->Prop) (ph:Bool) (ord:List (Nat×Nat)) (n:Nat) (σ:Sg) (w:World):Prop:=
  ∀a,Fr n σ a->Mn P ops c e Sw Ss (fun a w=>Q .normal a w) ph ord a w
section
variable {P:Program}{Q:Exit->Act->World->Prop}{n:Nat}{σ:Sg}{w:World}{L:List Oper}{c e:Nat}{Sw Ss:World->Prop}
theorem aI{id:Nat}(c e:Nat)(Sw Ss:World->Prop)(ord:List (Nat×Nat))(q:P.follows .mixedOrders=true)(f:(Region.noSelect L.toArray&&decide (ord.length=L.length)&&Dd L c e ord (Array.replicate L.length false))=true)(m:Sw (drew w))(hS:Ss (drew w))(h:HP P L c e Sw Ss Q false ord n σ (drew w)):CW P (.region id L.toArray true) Q n σ w:=by
 unfold CW;unfold HP at h;intro a u
 simp only[MZ,R_]at f
 obtain⟨⟨p,r⟩,f⟩:=f;have l:∀k,(Array.replicate L.length false).getD k false=false:=fun k=>by
  simp[MC,MK];split<;>rfl
 have h1:=Mp (Q:=fun a w=>Q .normal a w) p ord false (Array.replicate L.length false) a (Go.Proofs.YtfpjecjadlgdcaaGreatDoor.drew w) f ⟨by simp,fun k o j=>by rw[l k]at j;cases j⟩ (l c) (fun _=>⟨m,fun _=>hS⟩) (h a u);rw[r]at h1
 have h2:(Code.region id L.toArray true).wp P (fun x a w=>x=.normal/\Q .normal a w) a w:=SJ q (by simpa using Mc _ _ _ _ h1);exact SI h2 (fun x v w' ⟨s,hq⟩=>by subst s;exact hq)
theorem HP.nil{ph:Bool}(h:EX Q .normal n σ w):HP P L c e Sw Ss Q ph [] n σ w:=by
 unfold HP;unfold EX at h;exact fun a f=>h a f
def ah(P:Program)(ops:List Oper)(c e:Nat)(Sw Ss:World->Prop)(Q:Exit->Act->World->Prop)(ph:Bool)(ord:List (Nat×Nat)):Exit->Act->World->Prop:=
 fun x a w=>x=.normal/\Sw w/\(ph=false->Ss w)/\Mn P ops c e Sw Ss (fun a w=>Q .normal a w) ph ord a w
def JQ(k:Nat):List (Nat×Bool)->List (Nat×Nat)
 |[]=>[]
 |(i,_)::r=>(i,k)::JQ k r
def gJ:List (Nat×Bool)->Bool
 |[]=>true
 |(_,b)::r=>b&&gJ r
theorem Mo{Q:Act->World->Prop}{ph:Bool}{r:List (Nat×Nat)}{S:World->Prop}{k:Nat}(j:∀i r a w,Mn P L c e Sw Ss Q ph ((i,k)::r) a w↔∃o v,L[i]?=some o/\YieldsIf P L.toArray S o v a/\Mn P L c e Sw Ss Q ph r (a.put o.dst v) w):∀(s:List (Nat×Bool)) (a:Act) (w:World),gJ s=true->Mj P L S (fun a w=>Mn P L c e Sw Ss Q ph r a w) s a w->Mn P L c e Sw Ss Q ph (JQ k s++r) a w
 |[],a,w,_,h=>h
 |(i,true)::s,a,w,f,⟨o,v,m,l,h⟩=>(j i _ a w).2 ⟨o,v,m,l,Mo j s _ _ (by simpa[gJ]using f) h⟩
 |(i,false)::s,a,w,f,_=>by simp[gJ]at f
def dS(P:Program)(ops:List Oper)(c e:Nat)(Sw Ss:World->Prop)(Q:Exit->Act->World->Prop)(ph:Bool)(ord:List (Nat×Nat)):Exit->Act->World->Prop:=
 fun x a w=>x=.normal/\Mn P ops c e Sw Ss (fun a w=>Q .normal a w) ph ord a w
theorem HP.weak{ph:Bool}{r:List (Nat×Nat)}(s:List (Nat×Bool))(j:gJ s=true)(h:HL P L Sw (dS P L c e Sw Ss Q ph r) s n σ w):HP P L c e Sw Ss Q ph (JQ 1 s++r) n σ w:=by
 unfold HP;unfold HL at h
 intro a q
 have h2:Mj P L Sw (fun a w=>Mn P L c e Sw Ss (fun a w=>Q .normal a w) ph r a w) s a w:=by
  have f:∀(s:List (Nat×Bool)) (a:Act) (w:World),gJ s=true->Mj P L Sw (fun a w=>dS P L c e Sw Ss Q ph r .normal a w) s a w->Mj P L Sw (fun a w=>Mn P L c e Sw Ss (fun a w=>Q .normal a w) ph r a w) s a w:=by
   intro s
   induction s with
   |nil=>intro a w _ h;exact h.2
   |cons x s l=>
    obtain⟨i,b⟩:=x;intro a w j h
    cases b with
    |false=>simp[gJ]at j
    |true=>
     obtain⟨o,v,p,m,h⟩:=h;exact⟨o,v,p,m,l _ _ (by simpa[gJ]using j) h⟩
  exact f s a w j (h a q)
 exact Mo (S:=Sw) (k:=1) (fun i r a w=>Nm) s a w j h2
theorem HP.early{ph:Bool}{r:List (Nat×Nat)}(s:List (Nat×Bool))(j:gJ s=true)(h:HL P L Ss (dS P L c e Sw Ss Q ph r) s n σ w):HP P L c e Sw Ss Q ph (JQ 2 s++r) n σ w:=by
 unfold HP;unfold HL at h
 intro a q
 have h2:Mj P L Ss (fun a w=>Mn P L c e Sw Ss (fun a w=>Q .normal a w) ph r a w) s a w:=by
  have f:∀(s:List (Nat×Bool)) (a:Act) (w:World),gJ s=true->Mj P L Ss (fun a w=>dS P L c e Sw Ss Q ph r .normal a w) s a w->Mj P L Ss (fun a w=>Mn P L c e Sw Ss (fun a w=>Q .normal a w) ph r a w) s a w:=by
   intro s
   induction s with
   |nil=>intro a w _ h;exact h.2
   |cons x s l=>
    obtain⟨i,b⟩:=x;intro a w j h
    cases b with
    |false=>simp[gJ]at j
    |true=>
     obtain⟨o,v,p,m,h⟩:=h;exact⟨o,v,p,m,l _ _ (by simpa[gJ]using j) h⟩
  exact f s a w j (h a q)
 exact Mo (S:=Ss) (k:=2) (fun i r a w=>Nm) s a w j h2
theorem bh{ph:Bool}{r:List (Nat×Nat)}(h:HP P L c e Sw Ss Q ph r n σ w):EX (dS P L c e Sw Ss Q ph r) .normal n σ w:=by
 unfold EX;unfold HP at h
 exact fun a f=>⟨rfl,h a f⟩
theorem HP.mut{ph:Bool}{i:Nat}{r:List (Nat×Nat)}{o:Oper}(k:Cm L i=some o)(h:WL P L (ah P L c e Sw Ss Q (ph||Nat.beq i c) r) [o] n σ w):HP P L c e Sw Ss Q ph ((i,0)::r) n σ w:=by
 unfold HP;unfold WL at h
 intro a p
 rw[Cn]at k
 have h2:=h a p;simp only[wpList]at h2
 refine⟨o,k,?_⟩;split
 ·rename_i f
  rw[Sj f]at h2
  rcases h2 with h2|⟨_,m⟩
  ·refine QP (fun s w' q=>q.2) (Mr (fun x a w j hf=>absurd hf.1 j) h2)
  ·obtain⟨_,_,l⟩:=m
   exact absurd l.1 SQ
 ·rename_i f
  rw[Si f]at h2
  exact h2.2
theorem bg{ph:Bool}{r:List (Nat×Nat)}(f:Sw w)(j:ph=false->Ss w)(h:HP P L c e Sw Ss Q ph r n σ w):EX (ah P L c e Sw Ss Q ph r) .normal n σ w:=by
 unfold EX;unfold HP at h
 exact fun a k=>⟨rfl,f,j,h a k⟩
theorem HP.last{ph:Bool}{i:Nat}{o:Oper}(k:Cm L i=some o)(h:WL P L (fun x a w=>x=.normal/\Q .normal a w) [o] n σ w):HP P L c e Sw Ss Q ph [(i,3)] n σ w:=by
 unfold HP;unfold WL at h
 intro a p
 rw[Cn]at k
 have h2:=h a p;simp only[wpList]at h2
 refine⟨rfl,o,k,?_⟩;split
 ·rename_i f
  rw[Sj f]at h2
  rcases h2 with h2|⟨_,m⟩
  ·refine QP (fun r w' q=>q.2) (Mr (fun x a w j hf=>absurd hf.1 j) h2)
  ·obtain⟨_,_,l⟩:=m
   exact absurd l.1 SQ
 ·rename_i f
  rw[Si f]at h2
  exact h2.2
theorem HP.app1{α:Type}[Rep α]{x0:α}{bytes:Nat}{F:Nat->Prop}{i I d d1:Nat}{ty ty1:TypeId}{pos pos1:String}{af af1:Array Edge}{g g1:Option (Nat×Bool)}{t et:TypeId}{x y:Operand}{rest:List (Nat×Nat)}{v u:Value}{xs:List α}{yv:α}{B:Nat}{wc:World}
  (ho1:Cm L I=some ⟨some d1,.buildSlice t 1 [(0,y)].toArray,ty1,pos1,af1,g1⟩) (N:Cm L i=some ⟨some d,.call ⟨.builtin .append,#[x,.tmp d1],#[t,t]⟩,ty,pos,af,g⟩)
  (E:gd L σ ⟨some d1,.buildSlice t 1 [(0,y)].toArray,ty1,pos1,af1,g1⟩=some true) (H:Nat.ble (d1+1) n=true)
  (G:∀u,gd L ((d1,.slice u 1 1)::σ) ⟨some d,.call ⟨.builtin .append,#[x,.tmp d1],#[t,t]⟩,ty,pos,af,g⟩=some true) (hd:Nat.ble (d+1) n=true)
  (J:ev σ y=some u) (K:∀u,ev ((d1,.slice u 1 1)::σ) x=some v) [V:IsS P t et] [U:IsT P et α] [T:IsZ P et x0 bytes] (q:Own wc B et F v xs) (M:Rd wc F u yv) (R:B<=wc.heap.size) (hF:∀b,F b->b<wc.heap.size)
  (A:sz α<=16777216) (O:xs.length+1<=maxLen) (r:(xs.length+1)*bytes<=140737488355328) (hS:∀w',wc.grownBy w' v.ownBlock->Sw w')
  (h:∀m w' p,Own w' B et F m (xs++[yv])->wc.grownBy w' v.ownBlock->(∀g,m.ownBlock=some g->v.ownBlock=some g\/wc.heap.size<=g)->HP P L c e Sw Ss Q true rest n ((d,m)::(d1,.slice p 1 1)::σ) w'):
  HP P L c e Sw Ss Q true ((I,0)::(i,0)::rest) n σ wc:=by
 refine HP.mut ho1 ?_;refine WL.lit (vs:=[u]) (ys:=[yv]) E H rfl (by simp[HV,pL,J]) rfl ⟨M,trivial⟩ (by simpa using A) hF (fun z ho1 a=>?_);have f:wc.heap.size<=z.heap.size:=a.size;have l:Own z B et F v xs:=q.kept a (fun _ _ h=>by cases h) fun b r=>⟨hF b r,fun h=>by cases h⟩
 have g2:wc.grownBy z v.ownBlock:=⟨a.os,a.tape,a.output,a.size,fun k s _=>a.block k s (fun h=>by cases h)⟩;refine WL.nil (bg (ph:=true) (hS _ g2) (fun h=>by cases h) ?_);refine HP.mut N ?_;refine WL.app (ys:=[yv]) (G _) hd (K _) rK l ho1.src (Qk R f) (fun b r=>Qn (hF b r) f) (by simpa using O) (by simpa using r) (fun m w' C j hnb=>?_);have g3:wc.grownBy w' v.ownBlock:=⟨j.os.trans a.os,j.tape.trans a.tape,j.output.trans a.output,Qk f j.size,fun k s D=>(j.block k (Qn s f) D).trans (a.block k s (fun h=>by cases h))⟩;exact WL.nil (bg (ph:=true) (hS _ g3) (fun h=>by cases h) (h m w' _ C g3 (fun g G=>(hnb g G).imp id (fun h=>Qk f h))))
end
section
variable {P:Program}{Q:Exit->Act->World->Prop}{n:Nat}{σ:Sg}{wc:World}{L:List Oper}{S:World->Prop}{ord:List (Nat×Bool)}{i d:Nat}{ty:TypeId}{pos:String}{af:Array Edge}{g:Option (Nat×Bool)}{t:TypeId}{x:Operand}{b o:Nat}
theorem cy{v:Value}(s:∀k,S k->∃e cells,Blk k b e cells/\Cq cells o=some v)(p:Cm L i=some ⟨some d,.load t x,ty,pos,af,g⟩)(q:gd L σ ⟨some d,.load t x,ty,pos,af,g⟩=some true)(hd:Nat.ble (d+1) n=true)(l:ev σ x=some (.pointer (some ⟨b,o,none⟩)))[u:IsC P t 1 false]
  (h:HL P L S Q ord n ((d,v)::σ) wc):HL P L S Q ((i,true)::ord) n σ wc:=by
 refine HL.run p q hd (fun a r w' f=>?_) h;obtain⟨e,cells,j,m⟩:=s w' f;simp[execOp,r.ev l,F9 (P:=P) (t:=t) w' j m]
end
end Go.Proofs.YtfpjecjadlgdcaaGreatDoor
