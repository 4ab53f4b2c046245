import Derived.Test.YtfpjecjadlgdcaaGreatDoorPtTopOrder5
set_option linter.unusedVariables false
set_option linter.unusedSimpArgs false
set_option linter.defProp false
namespace Go.Proofs.YtfpjecjadlgdcaaGreatDoor
set_option maxHeartbeats 4000000
variable{P:Program}{α:Type}{B a K:Nat}{C D:Option Addr}{m:List Int}{F:Nat→Prop}{w:World}{v A:Value}{g:List (List Int)}{x:Int}{l:List Bool}{r:List Value}{t:TypeId}{Q:Exit→Act→World→Prop}{e:Nat→Nat→Prop}{s:List Nat}{L:List Oper}{c:Value→World→Prop}{y:Array Bool}{b:Value→(Nat→Nat)→World→Prop}{j:Array Edge}{o:Oper}{z:Func}{H:String}{I:Array TypeId}{u:Array Value}
open _root_.Go.Proofs.Tryz
open List(range)
open List(replicate)
open Nat(ble)
open Nat(beq)
open Region(ready)
def c_(p:cM)(m:List Int):Prop:=m.length=p.2.length/\∀j:Nat,0<=m.getD j 0/\m.getD j 0<=9
def BG{p:cM}(b:(JL p).2=0)(h:c_ p m):kO p m=0:=by
 unfold kO;rw[Tm (by simp[b]),Tm];rintro(e|e)
 .exact e h.1
 .obtain⟨x,c,a⟩:=OE.1 e;obtain⟨j,hj,rfl⟩:=Qu.1 c;have:=h.2 j;rw[tH hj]at this;unfold KQ at a;simp at a;omega
def lk{p:cM}(h:kO p m=0):c_ p m:=by
 obtain⟨_,h1,h2,_⟩:=kP h;have h3:=KT h2;refine⟨h1,λj=>?_⟩;by_cases hj:j<m.length
 .rw[tH hj];have:=h3 j hj;omega
 .rw[Pl,Pr TK];exact⟨On _,by decide⟩
def i3{p:cM}:c_ p (iZ p):=by
 refine⟨by simp[iZ],λj=>?_⟩;by_cases hj:j<(iZ p).length
 .rw[tH hj];have e:(iZ p)[j]=if Aj p (p.2[j]'(by simpa[iZ]using hj)).1.toNat=1 then 1 else 0:=by simp[iZ]
  rw[e];split<;>omega
 .rw[Pl,Pr TK];exact⟨On _,by decide⟩
def d_(p:cM)(m:List Int)(k:Int)(a:List Int):Prop:=
 0<=k/\k<(JU p).length/\o6 p m ((JU p).getD k.toNat (0,0,0))=true/\rz p m ((JU p).getD k.toNat (0,0,0))=some a
def ry{p:cM}{k:Int}(h:(rt p m k).2=0):kO p m=0/\d_ p m k (rt p m k).1:=by
 unfold rt at h⊢;split at h
 .rename_i h1;exact absurd h h1
 .rename_i h1;split at h
  .cases h
  .rename_i h2;split at h
   .cases h
   .rename_i h3;rw[Tm h1,Tm h2,Tm h3];refine⟨by simpa using h1,by omega,by omega,by simpa using h3,?_⟩;dsimp only at h⊢;cases e:rz p m ((JU p).getD k.toNat (0,0,0))with
    |none=>rw[e]at h;cases h
    |some r=>rfl
def KD{s:cO}{f:Int}(c:0<=m.getD f.toNat 0)(b:m.getD f.toNat 0<=9)(a:s.2.1=f->m.getD f.toNat 0>0):0<=KB m s f/\KB m s f<=9:=by
 unfold KB;split
 .rename_i h;obtain h|h:=h
  .have:=a h;omega
  .omega
 .exact⟨c,b⟩
def jb{n:Int}:∀(l:List Int) (k:Nat) (j:Int),0<=ja n k l j/\ja n k l j<=1
 |[],k,j=>⟨On _,(by decide:(0:Int)<=1)⟩
 |f::r,k,j=>by
  rw[ja];split
  .have:=jf n k;omega
  .exact jb r _ j
def rC{p:cM}{f:List Int}{s:cO}(c:c_ p m)(b:o6 p m s=true)(h:rz p m s=some f):c_ p f:=by
 unfold rz at h;split at h
 .injection h with h;subst h;refine⟨by simpa using c.1,λj=>?_⟩;by_cases hj:j<m.length
  .rw[tH (by simpa using hj),PK];omega
  .rw[Pl,Pr (by simpa using hj)];exact⟨On _,by decide⟩
 .have i:yG m.length (yV p.2 s.1):=by rw[c.1];exact yH
  have o:=Ku (s:=s) (yV p.2 s.1) m i yW;have d:(Kt s m (yV p.2 s.1)).length=m.length:=Kv _ _;have g:yG (Kt s m (yV p.2 s.1)).length (D2 p.2 s.1):=by rw[d,c.1];exact yI
  have hP:=FO (n:=s.2.2) (D2 p.2 s.1) 0 _ g D3;have k:=hP.2 f h;obtain⟨r,h1,h2⟩:=hP.1 k;rw[h]at h1;injection h1 with h1;subst h1;have q:∀j:Nat,0<=(Kt s m (yV p.2 s.1)).getD j 0/\(Kt s m (yV p.2 s.1)).getD j 0<=9:=λj=>by
   rw[o j];have a:=c.2 j;split
   .refine KD (by rw[Oy];exact a.1) (by rw[Oy];exact a.2) (λe=>?_);unfold o6 at b;rw[Tn TK,e]at b;simpa using b
   .exact a
  refine⟨by rw[FP _ _ _ _ h,d];exact c.1,λj=>?_⟩;rw[h2 j];have h3:=q j;have h4:=jb (n:=s.2.2) (D2 p.2 s.1) 0 (j:Int);by_cases hj:(j:Int)∈D2 p.2 s.1
  .have l:=k _ hj;rw[Oy]at l;omega
  .have l:=jd (n:=s.2.2) (D2 p.2 s.1) 0 (j:Int) hj;omega
open Go.RowKit
def tf{l:List (List Int)}{j:Nat}(h:j<l.length):l.getD j []=l[j]:=by rw[Pl,Pq h];rfl

abbrev cI:=Int×Int
abbrev Sr:=List (List Int)×List (Int×Int)×(Int×Int)
def K0(tok:Int)(m:List Int):Bool:=m.any λn=>decide (n>tok)
def E4(m:List Int):List (List Int)->Nat
 |[]=>0
 |x::r=>if x=m then 0 else E4 m r+1
def FQ(tok st:Int)(s:Sr)(m:List Int)(fr:Int×Int):Sr×Int×Int:=
 if K0 tok m=true then((s.1,s.2.1,fr),0,7)
 else if m∈s.1 then((s.1,s.2.1,fr),(E4 m s.1:Int),0)
 else if(s.1.length:Int)=st then((s.1,s.2.1,fr),0,8)
 else((s.1++[m],s.2.1++[fr],fr),(s.1.length:Int),0)
noncomputable def oB(p:cM)(tok st n:Int)(m:List Int):List Int->Sr->List cI->Sr×List cI×Int
 |[],s,out=>(s,out,0)
 |k::r,s,out=>
  if(rt p m k).2≠0 then((s.1,s.2.1,(n,k)),[],(rt p m k).2)
  else if(FQ tok st s (rt p m k).1 (n,k)).2.2≠0 then((FQ tok st s (rt p m k).1 (n,k)).1,[],(FQ tok st s (rt p m k).1 (n,k)).2.2)
  else oB p tok st n m r (FQ tok st s (rt p m k).1 (n,k)).1 (out++[(k,(FQ tok st s (rt p m k).1 (n,k)).2.1)])
noncomputable def oz(p:cM)(tok st:Int)(n:Nat)(s:Sr):Sr×List cI×Int:=oB p tok st (n:Int) (s.1.getD n []) (jQ p (s.1.getD n [])) s []
noncomputable def Hi(p:cM)(tok st:Int):Nat->Nat->Sr->List (List cI)->Sr×List (List cI)×Int
 |0,n,s,nx=>(s,nx,0)
 |f+1,n,s,nx=>
  if n<s.1.length then
   (if(oz p tok st n s).2.2≠0 then((oz p tok st n s).1,nx,(oz p tok st n s).2.2)else Hi p tok st f (n+1) (oz p tok st n s).1 (nx++[(oz p tok st n s).2.1]))
  else(s,nx,0)
def Hb(tok st:Int):Int:=if tok<1\/tok>9\/st<1\/st>200 then 1 else 0
noncomputable def runB(p:cM)(tok st:Int):Sr×List (List cI)×Int:=
 if(FQ tok st ([],[],(0,0)) (iZ p) (-1,-1)).2.2≠0 then((FQ tok st ([],[],(0,0)) (iZ p) (-1,-1)).1,[],(FQ tok st ([],[],(0,0)) (iZ p) (-1,-1)).2.2)
 else Hi p tok st 201 0 (FQ tok st ([],[],(0,0)) (iZ p) (-1,-1)).1 []
noncomputable def Hl(p:cM)(tok st:Int):Int:=if(JL p).2≠0 then(JL p).2 else Hb tok st
noncomputable def qa(p:cM)(tok st:Int):(List (List Int)×List (List cI))×Int:=
 if Hl p tok st≠0 then(([],[]),Hl p tok st)
 else if(runB p tok st).2.2≠0 then(([],[]),(runB p tok st).2.2)else(((runB p tok st).1.1,(runB p tok st).2.1),0)
def zW(m:List Int):List Int:=(range 30).map λi=>m.getD i 0
def zY(m:List Int):(zW m).length=30:=by simp[zW]
def zX{a b:List Int}(d:a.length<=30)(h:a.length=b.length)(c:zW a=zW b):a=b:=by
 refine O3 h λi h1 h2=>?_;have hi:i<30:=by omega
 have h3:(zW a)[i]'(by rw[zY];exact hi)=(zW b)[i]'(by rw[zY];exact hi):=by simp only[c]
 simp only[zW,PK,PM,Pl,Pq h1,Pq h2,R1]at h3;exact h3
def E5{m:List Int}:∀{l:List (List Int)} {j:Nat} (hj:j<l.length),l.Nodup->l[j]=m->E4 m l=j
 |x::r,0,_,_,h=>by unfold E4;rw[Tn (by simpa using h)]
 |x::r,j+1,hj,hd,h=>by
  rw[QG]at hd;unfold E4;have a:m∈r:=by rw[<-h,PD];exact PL _
  rw[Tm (λe=>hd.1 (by rw[e];exact a)),E5 (j:=j) (by simpa using hj) hd.2 (by simpa using h)]
def qb{p:cM}{a b:Int}(h:(qa p a b).2=0):(JL p).2=0/\1<=a/\1<=b/\b<=200/\(runB p a b).2.2=0/\qa p a b=(((runB p a b).1.1,(runB p a b).2.1),0):=by
 unfold qa at h⊢;by_cases g1:Hl p a b=0
 case neg=>rw[Tn g1]at h;exact absurd h g1
 rw[Tm (by simp[g1])]at h⊢;by_cases g2:(runB p a b).2.2=0
 case neg=>rw[Tn g2]at h;exact absurd h g2
 rw[Tm (by simp[g2])];unfold Hl at g1;by_cases g3:(JL p).2=0
 case neg=>rw[Tn g3]at g1;exact absurd g1 g3
 rw[Tm (by simp[g3])]at g1;unfold Hb at g1;split at g1
 .cases g1
 .rename_i g4;exact⟨g3,by omega,by omega,by omega,g2,rfl⟩
def E6{m:List Int}:∀{l:List (List Int)},m∈l->E4 m l<l.length/\l.getD (E4 m l) []=m
 |x::r,h=>by
  unfold E4;by_cases e:x=m
  .rw[Tn e];exact⟨by simp,by simpa using e⟩
  .rw[Tm e];obtain h|h:=Qo.1 h
   .exact absurd h.symm e
   .obtain⟨h1,h2⟩:=E6 h;exact⟨by simp;omega,by simpa using h2⟩
def EdgeOk(p:cM)(m:List Int)(l:List (List Int))(e:cI):Prop:=(rt p m e.1).2=0/\0<=e.2/\e.2<l.length/\l.getD e.2.toNat []=(rt p m e.1).1
def EdgeOk.more{p:cM}{l t:List (List Int)}{e:cI}(h:EdgeOk p m l e):EdgeOk p m (l++t) e:=by obtain⟨h1,h2,h3,h4⟩:=h;refine⟨h1,h2,by rw[PX];omega,?_⟩;rw[<-h4,Pl,Pl,Pm TK]
structure SrOk(p:cM)(tok st:Int)(l:List (List Int)):Prop where
 nd:l.Nodup
 ok:∀m∈l,c_ p m
 le:∀m∈l,∀x∈m,x<=tok
 st:(l.length:Int)<=st
def FT{p:cM}{tok st:Int}{s:Sr}{fr:Int×Int}(h:SrOk p tok st s.1)(k:c_ p m)(d:(FQ tok st s m fr).2.2=0):
  SrOk p tok st (FQ tok st s m fr).1.1/\(∃t,(FQ tok st s m fr).1.1=s.1++t/\∀i:Nat,s.1.length<=i->i<(s.1++t).length->(FQ tok st s m fr).2.1=(i:Int))/\
   0<=(FQ tok st s m fr).2.1/\(FQ tok st s m fr).2.1<(FQ tok st s m fr).1.1.length/\(FQ tok st s m fr).1.1.getD (FQ tok st s m fr).2.1.toNat []=m:=by
 unfold FQ at d⊢;by_cases g1:K0 tok m=true
 .rw[Tn g1]at d;cases d
 rw[Tm g1]at d⊢;by_cases g3:m∈s.1
 .rw[Tn g3];obtain⟨h1,h2⟩:=E6 g3;exact⟨h,⟨[],by simp,λi h1 h2=>by simp at h2;omega⟩,by dsimp only;omega,by dsimp only;omega,by simpa using h2⟩
 rw[Tm g3]at d⊢;by_cases g4:(s.1.length:Int)=st
 .rw[Tn g4]at d;cases d
 rw[Tm g4];have j:=h.st;refine⟨⟨?_,?_,?_,?_⟩,⟨[m],rfl,λi h1 h2=>by simp at h2;dsimp only;omega⟩,by dsimp only;omega,by simp;omega,by simp⟩
 .rw[QF];refine⟨h.nd,QP _ _,?_⟩;intro a l b g e;rw[QC]at g;subst g;subst e;exact g3 l
 .intro x c;obtain c|c:=Ql.1 c
  .exact h.ok x c
  .rw[QC]at c;subst c;exact k
 .intro x c;obtain c|c:=Ql.1 c
  .exact h.le x c
  .rw[QC]at c;subst c;intro n hn;unfold K0 at g1;rw[OE]at g1;have:¬n>tok:=λf=>g1 ⟨n,hn,by simpa using f⟩;omega
 .simp;omega
def rx{p:cM}{k:Int}(h:(rt p m k).2=0):c_ p (rt p m k).1:=by obtain⟨h1,_,_,h3,h4⟩:=ry h;exact rC (lk h1) h3 h4
def oD{p:cM}{tok st n:Int}{m:List Int}:∀(l:List Int) (s:Sr) (out:List cI),SrOk p tok st s.1->(∀e∈out,EdgeOk p m s.1 e)->(oB p tok st n m l s out).2.2=0->
  SrOk p tok st (oB p tok st n m l s out).1.1/\(oB p tok st n m l s out).2.1.map Prod.fst=out.map Prod.fst++l/\(∀e∈(oB p tok st n m l s out).2.1,EdgeOk p m (oB p tok st n m l s out).1.1 e)/\
   (∃u,(oB p tok st n m l s out).2.1=out++u)/\∃t,(oB p tok st n m l s out).1.1=s.1++t/\∀i:Nat,s.1.length<=i->i<(s.1++t).length->∃e∈(oB p tok st n m l s out).2.1,e.2=(i:Int)
 |[],s,out,o,z,a=>⟨o,by simp[oB],z,⟨[],by simp[oB]⟩,[],by simp[oB],λi h1 h2=>by simp at h2;omega⟩
 |k::r,s,out,o,z,a=>by
  rw[oB]at a⊢;by_cases g:(rt p m k).2=0
  case neg=>rw[Tn g]at a;exact absurd a g
  rw[Tm (by simp[g])]at a⊢;by_cases g1:(FQ tok st s (rt p m k).1 (n,k)).2.2=0
  case neg=>rw[Tn g1]at a;exact absurd a g1
  rw[Tm (by simp[g1])]at a⊢;obtain⟨j,⟨t,c,f⟩,x,w,v⟩:=FT o (rx g) g1;generalize FQ tok st s (rt p m k).1 (n,k)=q at*;obtain⟨d,b,D⟩:=q;dsimp only at*;have y:∀e∈out++[(k,b)],EdgeOk p m d.1 e:=by
   intro e h;obtain h|h:=Ql.1 h
   .rw[c];exact(z e h).more
   .rw[QC]at h;subst h;exact⟨g,x,w,v⟩
  obtain⟨a1,a2,a3,⟨u,a4⟩,A,C,B⟩:=oD r d (out++[(k,b)]) j y a;refine⟨a1,by rw[a2];simp,a3,⟨(k,b)::u,by rw[a4];simp⟩,t++A,by rw[C,c];simp,λi h1 h2=>?_⟩;by_cases hi:i<d.1.length
  .refine⟨(k,b),by rw[a4];simp,?_⟩;exact f i h1 (by rw[<-c];exact hi)
  .exact B i TK (by rw[c];simpa using h2)
structure SpOk(p:cM)(l:List (List Int))(nx:List (List cI)):Prop where
 le:nx.length<=l.length
 can:∀j,j<nx.length->(nx.getD j []).map Prod.fst=jQ p (l.getD j [])
 ed:∀j,j<nx.length->∀e∈nx.getD j [],EdgeOk p (l.getD j []) l e
 fr:∀i:Nat,1<=i->i<l.length->∃j,j<i/\j<nx.length/\∃e∈nx.getD j [],e.2=(i:Int)
def ti{l t:List α}{j:Nat}{d:α}(h:j<l.length):(l++t).getD j d=l.getD j d:=by rw[Pl,Pl,Pm h]
def tg{l:List α}{x d:α}:(l++[x]).getD l.length d=x:=by rw[Pl,Pn T8];simp
def Hj{p:cM}{tok st:Int}:∀(f n:Nat) (s:Sr) (nx:List (List cI)),f+n=201->st<=200->nx.length=n->SrOk p tok st s.1->SpOk p s.1 nx->(Hi p tok st f n s nx).2.2=0->
  SrOk p tok st (Hi p tok st f n s nx).1.1/\SpOk p (Hi p tok st f n s nx).1.1 (Hi p tok st f n s nx).2.1/\(Hi p tok st f n s nx).2.1.length=(Hi p tok st f n s nx).1.1.length/\∃t,(Hi p tok st f n s nx).1.1=s.1++t
 |0,n,s,nx,hf,d,hn,k,b,c=>by have:=b.le;have:=k.st;omega
 |f+1,n,s,nx,hf,d,hn,k,b,c=>by
  rw[Hi]at c⊢;by_cases g:n<s.1.length
  case neg=>
   rw[Tm g]at c⊢;exact⟨k,b,by have:=b.le;dsimp only;omega,[],by simp⟩
  rw[Tn g]at c⊢;by_cases g1:(oz p tok st n s).2.2=0
  case neg=>rw[Tn g1]at c;exact absurd c g1
  rw[Tm (by simp[g1])]at c⊢;obtain⟨a1,a2,a3,_,t,a,w⟩:=oD (p:=p) (tok:=tok) (st:=st) (n:=(n:Int)) (m:=s.1.getD n []) (jQ p (s.1.getD n [])) s [] k (λe h=>by cases h) g1;change SrOk p tok st (oz p tok st n s).1.1 at a1;change (oz p tok st n s).2.1.map Prod.fst=_ at a2;change∀e∈(oz p tok st n s).2.1,EdgeOk p _ (oz p tok st n s).1.1 e at a3;change (oz p tok st n s).1.1=_ at a;change∀i:Nat,_->_->∃e∈(oz p tok st n s).2.1,_ at w;generalize oz p tok st n s=q at*;obtain⟨u,v,er⟩:=q;dsimp only at*;have r:SpOk p u.1 (nx++[v]):=by
   have B:=b.le;refine⟨by rw[a];simp;omega,λj hj=>?_,λj hj=>?_,λi h1 h2=>?_⟩
   .simp at hj;by_cases e:j<nx.length
    .rw[ti e,a,ti TK];exact b.can j e
    .obtain rfl:j=nx.length:=by omega
     rw[tg,a2,a,ti TK,hn];simp
   .simp at hj;by_cases e:j<nx.length
    .rw[ti e,a,ti TK];exact λx h=>(b.ed j e x h).more
    .obtain rfl:j=nx.length:=by omega
     rw[tg,a,ti TK,hn,<-a];exact a3
   .by_cases e:i<s.1.length
    .obtain⟨j,A,z,x,o,l⟩:=b.fr i h1 e;exact⟨j,A,by simp;omega,x,by rw[ti z];exact o,l⟩
    .obtain⟨x,o,l⟩:=w i TK (by rw[<-a];exact h2);exact⟨nx.length,by omega,by simp,x,by rw[tg];exact o,l⟩
  obtain⟨b1,b2,D,y,C⟩:=Hj f (n+1) u (nx++[v]) TK d (by simp[hn]) a1 r c;exact⟨b1,b2,D,t++y,by rw[C,a];simp⟩
def qd{p:cM}{tok st:Int}(h:(qa p tok st).2=0):
  (JL p).2=0/\SrOk p tok st (qa p tok st).1.1/\SpOk p (qa p tok st).1.1 (qa p tok st).1.2/\(qa p tok st).1.2.length=(qa p tok st).1.1.length/\0<(qa p tok st).1.1.length/\(qa p tok st).1.1.getD 0 []=iZ p/\st<=200:=by
 obtain⟨f,h1,h2,h3,a,g⟩:=qb h;rw[g];dsimp only;unfold runB at a⊢;by_cases g1:(FQ tok st ([],[],(0,0)) (iZ p) (-1,-1)).2.2=0
 case neg=>rw[Tn g1]at a;exact absurd a g1
 rw[Tm (by simp[g1])]at a⊢;have b:SrOk p tok st ([]:List (List Int)):=⟨List.Pairwise.nil,λm h=>(by cases h),λm h=>(by cases h),by simp;omega⟩;obtain⟨a1,⟨t,a2,a2i⟩,a3,a4,n⟩:=FT (s:=([],[],(0,0))) b (i3 (p:=p)) g1;have hd:(FQ tok st ([],[],(0,0)) (iZ p) (-1,-1)).1.1=[iZ p]:=by
  unfold FQ at g1⊢;by_cases d:K0 tok (iZ p)=true
  .rw[Tn d]at g1;cases g1
  rw[Tm d,Tm TO]at g1⊢;by_cases c:(([]:List (List Int)).length:Int)=st
  .rw[Tn c]at g1;cases g1
  rw[Tm c];rfl
 generalize FQ tok st ([],[],(0,0)) (iZ p) (-1,-1)=q at*;obtain⟨b1,b2,k,l,e⟩:=Hj 201 0 q.1 [] rfl h3 rfl a1 ⟨by simp,λj h=>absurd h TO,λj h=>absurd h TO,λi h1 h2=>by rw[hd]at h2;simp at h2;omega⟩ a;refine⟨f,b1,b2,k,by rw[e,hd];simp,by rw[e,hd];simp,h3⟩
abbrev cS:=List Int×List (List Int)×List Nat×List (List Int)
def Di(l:List cI)(n:Nat):List cI:=if l=[]then [(-1,(n:Int))]else l.map λx=>(x.1,(n:Int))
def Dg(nx:List (List cI))(k:Nat):List cI:=(range k).flatMap λn=>Di (nx.getD n []) n
def B3(nx:List (List cI))(n:Nat):Nat:=max 1 (nx.getD n []).length
def it(nx:List (List cI))(n:Nat):Nat:=(Dg nx n).length
def sy{l t:List α}{j:Nat}{d:α}(h:j<l.length):(l++t).getD j d=l.getD j d:=by simp[Pl,Pm h]
def sC{l t:List α}{i:Nat}{d:α}:(l++t).getD (l.length+i) d=t.getD i d:=by simp[Pl,Pn]
def sB{β:Type}{f:α->β}{l:List α}{i:Nat}{d:α}{e:β}(h:i<l.length):(l.map f).getD i e=f (l.getD i d):=by simp[Pl,Pq h]
section
variable {nx:List (List cI)}
theorem Dj{l:List cI}{n:Nat}:(Di l n).length=max 1 l.length:=by
 unfold Di;split
 .rename_i h;subst h;rfl
 .rename_i h;have:0<l.length:=P6.2 h;rw[P4];omega
theorem Dh{k:Nat}:Dg nx (k+1)=Dg nx k++Di (nx.getD k []) k:=by unfold Dg;rw[QQ,Pd];simp
theorem iB:it nx 0=0:=rfl
theorem iA{n:Nat}:it nx (n+1)=it nx n+B3 nx n:=by unfold it B3;rw[Dh,PX,Dj]
theorem iz{a b:Nat}(h:a<=b):it nx a<=it nx b:=by
 induction b with
 |zero=>rw[show a=0 by omega];exact Rq _
 |succ b c=>
  by_cases e:a=b+1
  .rw[e];exact Rq _
  .rw[iA];exact Rr (c TK) (Nat.le_add_right _ _)
theorem B4{n:Nat}:1<=B3 nx n:=Nat.le_max_left _ _
theorem iy{n K i:Nat}(hn:n<K)(hi:i<B3 nx n):it nx n+i<it nx K:=by have h1:=iz (nx:=nx) (show n+1<=K by omega);rw[iA]at h1;omega
theorem Do{n i:Nat}:∀{K:Nat},n<K->i<B3 nx n->(Dg nx K).getD (it nx n+i) (0,0)=(Di (nx.getD n []) n).getD i (0,0)
 |0,h,_=>absurd h TK
 |K+1,hn,hi=>by
  by_cases e:n=K
  .subst e;rw[Dh];exact sC
  .have a:=iy (nx:=nx) (show n<K by omega) hi;have b:=Do (K:=K) (show n<K by omega) hi;rw[<-b,Dh];exact sy a
theorem Dp{j:Nat}:∀{K:Nat},j<it nx K->∃n i,n<K/\i<B3 nx n/\j=it nx n+i
 |0,h=>absurd h (by rw[iB];omega)
 |K+1,h=>by
  rw[iA]at h;by_cases e:j<it nx K
  .obtain⟨n,i,h1,h2,h3⟩:=Dp e;exact⟨n,i,by omega,h2,h3⟩
  .exact⟨K,j -it nx K,by omega,by omega,by omega⟩
def Dk(nx:List (List cI))(j:Nat):cI:=(Dg nx nx.length).getD j (0,0)
theorem Dl{n i:Nat}(hn:n<nx.length)(hi:i<B3 nx n):Dk nx (it nx n+i)=(if nx.getD n []=[]then(-1,(n:Int))else(((nx.getD n []).getD i (0,0)).1,(n:Int))):=by
 unfold Dk;rw[Do hn hi];unfold Di;by_cases h:nx.getD n []=[]
 .rw[Tn h,Tn h];unfold B3 at hi;rw[h]at hi;have:i=0:=by simp at hi;omega
  subst this;rfl
 .rw[Tm h,Tm h];unfold B3 at hi;have:0<(nx.getD n []).length:=P6.2 h;have a:i<(nx.getD n []).length:=by omega
  exact sB (d:=(0,0)) a
end
def ip(nx:List (List cI))(k:Nat):List Int:=(range k).map λn=>((it nx n:Nat):Int)
def Bt(nx:List (List cI))(k:Nat):List Int:=(range k).map λn=>((B3 nx n:Nat):Int)
def gE(nx:List (List cI))(m:Nat):List Int:=(range (B3 nx m)).map λi:Nat=>((it nx m+i:Nat):Int)
def KJ(nx:List (List cI))(j:Nat):cI:=(nx.getD (Dk nx j).2.toNat []).getD (j -it nx (Dk nx j).2.toNat) (0,0)
def Cn(nx:List (List cI))(j:Nat):List Int:=if(Dk nx j).1<0 then [(j:Int)]else gE nx (KJ nx j).2.toNat
def Av(sl:List cO)(nx:List (List cI))(j:Nat):Nat:=if(Dk nx j).1<0 then 9223372036854775808 else 2 ^ (sl.getD (Dk nx j).1.toNat (0,0,0)).1.toNat
def jS(nx:List (List cI))(j:Nat)(k:Int):Bool:=(nx.getD (Dk nx j).2.toNat []).any λy=>y.1==k
def yy(nx:List (List cI))(k:Int)(j:Nat):Bool:=!jS nx j k||(Dk nx j).1==k
def qn(nx:List (List cI))(k:Int)(n:Nat):List Int:=((range n).filter (yy nx k)).map λj:Nat=>(j:Int)
def ql(nx:List (List cI))(k:Int):List Int:=qn nx k (it nx nx.length)
def HX(sl:List cO)(nx:List (List cI)):cS:=(gE nx 0,(range (it nx nx.length)).map (Cn nx),(range (it nx nx.length)).map (Av sl nx),(range sl.length).map λk:Nat=>ql nx (k:Int))
def Ct:cS:=([],[],[],[])
noncomputable def HT(p:cM)(tok st:Int):(cS×List cI)×Int:=
 if(qa p tok st).2≠0 then((Ct,[]),(qa p tok st).2)else if 600<it (qa p tok st).1.2 (qa p tok st).1.2.length then((Ct,[]),2)
 else((HX (JL p).1 (qa p tok st).1.2,Dg (qa p tok st).1.2 (qa p tok st).1.2.length),0)
def qq{nx:List (List cI)}{k:Int}{n:Nat}:qn nx k (n+1)=qn nx k n++if yy nx k n=true then [(n:Int)]else []:=by unfold qn;rw[QQ,O5,Qe];congr 1;rw[O7];split<;>simp
def qp{nx:List (List cI)}{k:Int}{n:Nat}:(qn nx k n).length<=n:=by unfold qn;rw[P4];exact Rr (P3 _ _) TO
structure NxOk(sl:List cO)(nx:List (List cI)):Prop where
 ed:∀j,j<nx.length->∀e∈nx.getD j [],0<=e.1/\e.1<sl.length/\0<=e.2/\e.2<nx.length
 row:∀j,(nx.getD j []).length<=60
 n:nx.length<=200
 pos:0<nx.length
 node:∀s∈sl,0<=s.1/\s.1<62
 sl:sl.length<=60
def jW{p:cM}{k:Int}(h:k∈jQ p m):0<=k/\k<(JU p).length:=by
 unfold jQ at h;split at h
 .unfold jT jU at h;obtain⟨i,hi,rfl⟩:=Qv.1 h;have:=QA.1 (Qs.1 hi).1;omega
 .cases h
def JW{p:cM}:∀s∈JU p,0<=s.1/\s.1<p.1.length:=λs a=>by obtain⟨n,hn,a⟩:=stepsP_mem.1 a;have:=JR s a;rw[this];omega
def qe{p:cM}{tok st:Int}(h:(qa p tok st).2=0):NxOk (JL p).1 (qa p tok st).1.2:=by
 obtain⟨k,hS,c,n,o,_,i⟩:=qd h;obtain⟨m,d,b⟩:=JM k;have l:=hS.st;have a:∀j,j<(qa p tok st).1.2.length->((qa p tok st).1.2.getD j []).length=(jQ p ((qa p tok st).1.1.getD j [])).length:=λj hj=>by rw[<-c.can j hj,P4]
 refine⟨λj hj e g=>?_,λj=>?_,by omega,by omega,λs f=>?_,by rw[d];exact b⟩
 .have h1:=c.ed j hj e g;have h2:e.1∈jQ p ((qa p tok st).1.1.getD j []):=by rw[<-c.can j hj];exact Qv.2 ⟨e,g,rfl⟩
  have h3:=jW h2;rw[d];exact⟨h3.1,h3.2,h1.2.1,by have:=h1.2.2.1;omega⟩
 .by_cases hj:j<(qa p tok st).1.2.length
  .rw[a j hj];unfold jQ;split
   .unfold jT jU;rw[P4];exact Rr (P3 _ _) (by simp;exact b)
   .simp
  .rw[Pl,Pr TK];simp
 .rw[d]at f;have h1:=JW s f;have h2:=(kV m).n;omega
class IsA(P:Program)(t:TypeId)(k:outParam Nat)(e:outParam TypeId):Prop where
 ok:P.underlying t=some (.array k e)
section
variable {P:Program}{Q:Exit->Act->World->Prop}{n:Nat}{σ:Sg}{w:World}{L rest:List Oper}{d:Nat}{ty:TypeId}{pos:String}{af:Array Edge}{g:Option (Nat×Bool)}{t e:TypeId}{x y:Operand}{b o:Nat}{cells:List Value}
theorem fm{ix:Operand}{i k:Nat}{kd:IntKind}{l:TypeId}(p:gd L σ ⟨some d,.indexAddr t x ix,ty,pos,af,g⟩=some true)(hd:ble (d+1) n=true)(m:ev σ x=some (.pointer (some ⟨b,o,none⟩)))(hi:ev σ ix=some (.int kd (i:Int)))
  [r:IsA P t k l] [q:IsC P l 1 false] (h1:i<k) (h:WL P L Q rest n ((d,.pointer (some ⟨b,o+i,none⟩))::σ) w):WL P L Q (⟨some d,.indexAddr t x ix,ty,pos,af,g⟩::rest) n σ w:=by
 obtain⟨inf,dd,j,f,_,_⟩:=q.ok;refine VG p hd (λa c=>?_) h;simp[execOp,c.ev m,c.ev hi,Instr.indexAt,asIntOf,TA r.ok,Instr.sureAddr,h1,sizeOf,typeInfo,j,f,SW]
theorem f6{v:Value}(s:gd L σ ⟨none,.store t x y,ty,pos,af,g⟩=some true)(p:ev σ x=some (.pointer (some ⟨b,o,none⟩)))(m:ev σ y=some v)[u:IsC P t 1 false](k:Blk w b e cells)
  (r:o<cells.length) (q:j8 v=[v]) (h1:v.oneCell'=true)
  (h:∀w',Blk w' b e (cells.set o v)->w.grownBy w' (some b)->WL P L Q rest n σ w'):WL P L Q (⟨none,.store t x y,ty,pos,af,g⟩::rest) n σ w:=by
 obtain⟨i,dd,j,f,_,_⟩:=u.ok;have c:=Tz P b o e [v] 0 cells.toArray w k TR (by simpa using h1);simp only[Re]at c;have z:cells.take o++[v]++cells.drop (o+[v].length)=cells.set o v:=by rw[QU,Tn r];simp
 refine fV s (λa l=>?_) (h _ (by have:=TB w b cells.toArray (cells.set o v).toArray e (0,0) k;exact this) (uB w b _));simp only[execOp,l.ev p,l.ev m,Instr.storeAt,Sb,Instr.sureAddr,Sc,Sa,storeVar,sizeOf,typeInfo,Ty,j,f,j9,q];rw[<-z];simp;simp[c]
theorem Hy{k:Nat}(w:World)(m:Blk w b e cells)(h:cells.length=k)[l:IsC P t k true]:(Instr.loadAt t (.pointer (some ⟨b,0,none⟩))).run P w=.ok (.agg cells.toArray) w:=by
 obtain⟨i,dd,h1,h2,h3,h4⟩:=l.ok;have c:(isAgg t).run P w=.ok true w:=by unfold isAgg;rw[Sb,TA h3 w,<-h4];cases dd<;>rfl
 have a:=Tx (P:=P) w ⟨b,0,none⟩ cells (λj u f=>by rw[SW,RT];exact m.cell f);rw[h]at a;simp[Instr.loadAt,Instr.sureAddr,loadVar,c,sizeOf,typeInfo,h1,h2,a]
theorem fx{k:Nat}(i:gd L σ ⟨some d,.load t x,ty,pos,af,g⟩=some true)(hd:ble (d+1) n=true)(c:ev σ x=some (.pointer (some ⟨b,0,none⟩)))[m:IsC P t k true](j:Blk w b e cells)(f:cells.length=k)
  (h:WL P L Q rest n ((d,.agg cells.toArray)::σ) w):WL P L Q (⟨some d,.load t x,ty,pos,af,g⟩::rest) n σ w:=by
 refine VG i hd (λa l=>?_) h;simp[execOp,l.ev c,Hy (P:=P) (t:=t) w j f]
theorem f8{k:Nat}{cs:List Value}(s:gd L σ ⟨none,.store t x y,ty,pos,af,g⟩=some true)(q:ev σ x=some (.pointer (some ⟨b,0,none⟩)))(p:ev σ y=some (.agg cs.toArray))[v:IsC P t k true](l:Blk w b e cells)
  (r:cs.length=k) (A:cells.length=k) (h1:∀u∈cs,u.oneCell'=true)
  (h:∀w',Blk w' b e cs->w.grownBy w' (some b)->WL P L Q rest n σ w'):WL P L Q (⟨none,.store t x y,ty,pos,af,g⟩::rest) n σ w:=by
 obtain⟨i,dd,j,f,_,_⟩:=v.ok;subst r;have c:=Tz P b 0 e cs 0 cells.toArray w l TR h1;simp only[Re,RT,Q5,QE]at c;have z:cells.toArray.toList.drop cs.length=[]:=OY TR;rw[z,OH]at c;refine fV s (λa m=>?_) (h _ (by have:=TB w b cells.toArray cs.toArray e (0,0) l;exact this) (uB w b _));simp only[execOp,m.ev q,m.ev p,Instr.storeAt,Sb,Instr.sureAddr,Sc,Sa,storeVar,sizeOf,typeInfo,Ty,j,f,Value.cells];simp;simp[c]
theorem bl{fn:Func}{a:Nat}{k:Nat}{R:Value->World->Prop}(q:fn.results=#[.cell a t])(A:fnd σ a=some (.pointer (some ⟨b,0,none⟩)))[s:IsC P t k true](z:Blk w b e cells)(r:cells.length=k)(h:R (.agg cells.toArray) w):
  EX (bodyPost P fn λe w'=>∃v,e=.returned v/\R v w') .ret n σ w:=by
 unfold EX;intro ac l;refine S7 ?_ l.defers ⟨_,rfl,h⟩;have c:=Tx (P:=P) w ⟨b,0,none⟩ cells (λj u p=>by rw[SW,RT];exact z.cell p);obtain⟨i,dd,h1,h2,h3,h4⟩:=s.ok;have f:(isAgg t).run P w=.ok true w:=by unfold isAgg;rw[Sb,TA h3 w,<-h4];cases dd<;>rfl
 rw[r]at c;have m:=l.slot a _ A;simp only[Ny]at m;simp[results,q,m,asAddr,loadVar,f,sizeOf,typeInfo,h1,h2,c]
end
def BA{α β:Type}{f:α->Option β}{g:α->β}:∀(l:List α),(∀x∈l,f x=some (g x))->l.mapM f=some (l.map g)
 |[],_=>rfl
 |x::r,h=>by rw[Qc,h x TO,BA r (λy a=>h y (by simp[a]))];rfl
def KeyV.arr{k e:TypeId}{n:Nat}{q:IntKind}(j:P.underlying k=some (.array n e))(z:P.underlying e=some (.int q))(p:P.cellsOf e=1)(h:P.cellsOf k=n)(m:P.keyType k=true)(l:ble 1 P.types.size=true)
  {xs:List Int} (r:xs.length=n) (u:∀x∈xs,(Lit.int q x).wf=true):KeyV P k (.agg (xs.map λx=>.int q x).toArray):=by
 obtain⟨s,v⟩:∃s,P.types.size=s+1:=⟨P.types.size -1,by have:=Rm l;omega⟩;have a:P.keyLits (P.types.size+1) k (xs.map λx=>.int q x)=some (((range n).map λi=>[Lit.int q (xs.getD i 0)]).flatten):=by
  rw[v,R8];simp only[j];rw[Tn (by rw[h];simpa using r),BA (g:=λi=>[Lit.int q (xs.getD i 0)])]
  .rfl
  .intro i hi;have hi:=QA.1 hi;have c:i<xs.length:=by omega
   have f:((xs.map λx=>Value.int q x).drop (i*P.cellsOf e)).take (P.cellsOf e)=[.int q xs[i]]:=by rw[p,RE,OX (by simpa using c)];simp
   rw[f,R8];simp only[z];rw[Tn ⟨trivial,u _ (PL c)⟩,Pl,Pq c];rfl
 refine⟨.string (keyBytes (((range n).map λi=>[Lit.int q (xs.getD i 0)]).flatten)),?_⟩;unfold keyOf;rw[j];dsimp only;have hf:Value.formed P k (.agg (xs.map λx=>Value.int q x).toArray)=true:=by unfold Value.formed;rw[j,h];simp[r]
 rw[m,hf];show Option.map _ (P.keyLits (P.types.size+1) k (xs.map λx=>Value.int q x))=_;rw[a];rfl
section
variable {P:Program}{Q:Exit->Act->World->Prop}{n:Nat}{σ:Sg}{w:World}{L rest:List Oper}{d:Nat}{ty:TypeId}{pos:String}{af:Array Edge}{g:Option (Nat×Bool)}
variable {α:Type}[Rep α]{e t:TypeId}{x0:α}{bytes:Nat}{F:Nat->Prop}
end
def Cel(w:World)(b n:Nat):Prop:=∃cur e,w.heap[b]?=some (.cells cur e (0,0))/\n<=cur.size
def Cel.lt{b n:Nat}(h:Cel w b n):b<w.heap.size:=by obtain⟨cur,e,h,_⟩:=h;exact(NB.1 h).1
def Cel.at{w':World}{b n:Nat}(h:Cel w b n)(a:w'.heap[b]?=w.heap[b]?):Cel w' b n:=by obtain⟨cur,e,h1,h2⟩:=h;exact⟨cur,e,a.trans h1,h2⟩
def RowT(F:Nat->Prop)(w:World)(z:Nat)(v:Value):Prop:=∃ao len cap,v=.slice ao len cap/\cap<=maxLen/\len<=cap/\(0<cap->∃b off,ao=some ⟨b,off,none⟩/\F b/\Cel w b (off+cap*z))
section
variable {α:Type}[Rep α]{w w':World}{B:Nat}{e:TypeId}{F F':Nat->Prop}{v:Value}{xs:List α}{z:Nat}
theorem Own.rowT(h:Own w B e dh v xs)(hF:∀g,v.ownBlock=some g->F g):RowT F w (sz α) v:=by
 obtain⟨rfl,rfl⟩|⟨g,off,cap,cur,rfl,a⟩:=h
 .exact⟨none,0,0,rfl,by simp[maxLen],Rq _,λh=>absurd h TO⟩
 .exact⟨_,_,_,rfl,a.mx,a.le,λ_=>⟨g,off,rfl,hF g rfl,cur,e,a.blk,a.fit⟩⟩
theorem RowT.to(h:RowT F w z v)(hF:∀b,F b->b<w.heap.size->F' b/\w'.heap[b]?=w.heap[b]?):RowT F' w' z v:=by obtain⟨ao,len,cap,h1,h2,h3,h4⟩:=h;refine⟨ao,len,cap,h1,h2,h3,λa=>?_⟩;obtain⟨b,off,k1,k2,k3⟩:=h4 a;have:=hF b k2 k3.lt;exact⟨b,off,k1,this.1,k3.at this.2⟩
end
section
variable {P:Program}{Q:Exit->Act->World->Prop}{n:Nat}{σ:Sg}{w:World}{L rest:List Oper}{d:Nat}{ty:TypeId}{pos:String}{af:Array Edge}{g:Option (Nat×Bool)}
variable {α:Type}[Rep α]{e t:TypeId}{F:Nat->Prop}
end
instance:IsFd Vy 98 0 0:=qA TL
instance:IsFd Vy 98 1 2:=qA TL
instance:IsFd Vy 98 2 3:=qA TL
instance:IsFd Vy 98 3 4:=qA TL
instance:IsFd Vy 98 4 6:=qA TL
instance:IsFd Vy 98 5 7:=qA TL
instance:IsFd Vy 98 6 8:=qA TL
instance:IsZC Vy 98 [.slice none 0 0,.slice none 0 0,.int .i64 0,.int .i64 0,.slice none 0 0,.slice none 0 0,.map none,.slice none 0 0,.int .i64 0,.int .i64 0]:=v2 (z:=.agg #[.slice none 0 0,.slice none 0 0,.int .i64 0,.int .i64 0,.slice none 0 0,.slice none 0 0,.map none,.slice none 0 0,.int .i64 0,.int .i64 0]) TL rfl
instance:IsBd Vy 98 [(0,2),(2,1),(3,1),(4,2),(6,1),(7,1),(8,2)]:=VI TL
instance:IsC Vy 235 30 true:=VA TL Su rfl
abbrev zKey:List Value:=[.int .i8 0,.int .i8 0,.int .i8 0,.int .i8 0,.int .i8 0,.int .i8 0,.int .i8 0,.int .i8 0,.int .i8 0,.int .i8 0,.int .i8 0,.int .i8 0,.int .i8 0,.int .i8 0,.int .i8 0,.int .i8 0,.int .i8 0,.int .i8 0,.int .i8 0,.int .i8 0,.int .i8 0,.int .i8 0,.int .i8 0,.int .i8 0,.int .i8 0,.int .i8 0,.int .i8 0,.int .i8 0,.int .i8 0,.int .i8 0]
instance:IsZC Vy 235 zKey:=v2 (z:=.agg zKey.toArray) TL rfl
instance:IsA Vy 235 30 233:=⟨Su⟩
instance:IsC Vy 233 1 false:=VA TL St rfl
instance:IsI Vy 233 .i8:=⟨St⟩
instance:IsM Vy 93 235 3:=⟨underlying93⟩
instance:IsC Vy 93 1 false:=VA TL underlying93 rfl
instance:IsZ0 Vy 3:=⟨by kernel_rfl⟩
def Jg:laidOutB Vy=true:=by kernel_rfl
instance:IsKy Vy 235:=IsKy.of (m:=2) Jg TN TL TL Su rfl
abbrev zT(m:List Int):Value:=.agg ((zW m).map λx=>.int .i8 x).toArray
def Tok(m:List Int):Prop:=∀x∈m,0<=x/\x<=9
def Tok.at(h:Tok m)(j:Nat):0<=m.getD j 0/\m.getD j 0<=9:=by
 rw[Pl];cases hj:m[j]? with
 |none=>exact⟨On _,by decide⟩
 |some x=>exact h x (Qx hj)
def zV(b:Tok m):KeyV Vy 235 (zT m):=
 KeyV.arr (n:=30) Su St TL TL TL TL (zY m) (λx a=>by unfold zW at a;obtain⟨i,_,rfl⟩:=Qv.1 a;have:=b.at i;rw[Pl]at this;simp[Lit.wf,IntKind.min,IntKind.max,IntKind.signed,IntKind.bits];omega)
def zU{a b:List Int}(d:a.length<=30)(h:a.length=b.length)(c:zT a=zT b):a=b:=by
 refine zX d h ?_;have h1:((zW a).map λx=>Value.int .i8 x).toArray=((zW b).map λx=>Value.int .i8 x).toArray:=by injection c
 have h2:(zW a).map (λx=>Value.int .i8 x)=(zW b).map (λx=>Value.int .i8 x):=by simpa using h1
 exact List.map_inj_right (λx y e=>by injection e)|>.1 h2
def uK(h:0<=x/\x<=9):IntKind.i8.wrap x=x:=by simp[IntKind.wrap,IntKind.bits,IntKind.signed];omega
@[irreducible] def zN (m:List Int) (i:Nat):List Value:=(range 30).map λj=>.int .i8 (if j<i then m.getD j 0 else 0)
def zP{i:Nat}:(zN m i).length=30:=by simp[zN]
def zS:zN m 0=zKey:=by unfold zN;simp only[RF,Tl];rfl
def zR{i:Nat}(hi:i<m.length):(zN m i).set i (.int .i8 m[i])=zN m (i+1):=by
 unfold zN;refine O3 TO λj h1 h2=>?_;rw[PP];simp only[PK,PM];by_cases e:i=j
 .subst e;rw[Tn rfl,Tn TK,Pl,Pq hi];rfl
 .rw[Tm e];by_cases hj:j<i
  .rw[Tn hj,Tn TK]
  .rw[Tm hj,Tm TK]
def zO:zN m m.length=(zW m).map λx=>.int .i8 x:=by
 unfold zN zW;rw[Qh];refine Qf λj _=>?_;show Value.int .i8 _=Value.int .i8 _;congr 1;split
 .rfl
 .show(0:Int)=m.getD j 0;rw[Pl,Pr TK];rfl
def zQ{i:Nat}:∀u∈zN m i,u.oneCell'=true:=by intro u a;unfold zN at a;obtain⟨j,_,rfl⟩:=Qv.1 a;rfl
def zM(w0:World){mo:Option Addr}{mc:Nat}(x:Sl w0 (dk w0) mo mc m)(C:m.length<=30)(u:Tok m):
  Rt Vy 131 [.slice mo m.length mc].toArray w0 λv w'=>v=zT m/\Ext w0 w':=by
 refine dR func131 ntmps131 rfl rfl (UZ ?_);refine eC (λn a t=>?_);refine UR ?_;refine eC (λB b s=>?_);have y:=a.lt;have a:=a.ext s;have j:=t.trans s;have o:=t.size;have p:w0.heap.size≠n.heap.size:=by omega
 rw[<-zS (m:=m)]at b;refine Ut ?_;refine p8 (S:=Nat) (λi=>[(2,.pointer (some ⟨w0.heap.size,0,none⟩)),(3,.pointer (some ⟨n.heap.size,0,none⟩)),(6,.slice mo m.length mc),(7,.int .i64 m.length),(8,.int .i64 i)])
  (λi w=>i<=m.length/\Ext w0 w/\Blk w w0.heap.size 235 zKey/\Blk w n.heap.size 235 (zN m i)) (λi=>m.length -i) 0 TJ ⟨RU _,j,a,b⟩ ?_
 clear a b j;rintro i A ⟨hi,j,a,b⟩;refine UR ?_;refine ld rfl (λh=>?_) (λh=>?_)
 .have c:i<m.length:=by simp at h;omega
  have r:=u _ (PL c);refine UB ?_;refine e_ (x.up j) c rfl TV (λq=>?_);refine UR ?_;refine eQ (k':=.i8) rfl rfl rfl ?_;rw[uK r];refine fm rfl rfl rfl rfl TK (f6 rfl rfl rfl b (by rw[zP];omega) rfl rfl (λl f d=>?_));rw[RT,zR c]at f;have a:=a.kept d (λe=>p (R4 e));have k:Ext w0 l:=j.grown d j.size (λg z=>by cases z;exact o);refine Ui ?_;exact m5 (i+1) TJ ⟨c,k,a,f⟩ TK
 .obtain rfl:i=m.length:=by simp at h;omega
  refine UF ?_;refine fx rfl rfl rfl b zP (f8 rfl rfl rfl a zP rfl zQ (λl f d=>?_));have k:Ext w0 l:=j.grown d j.size TX;refine Uh ?_;exact bl rfl rfl f zP ⟨by rw[zO],k⟩
structure SC where
 sb:Nat
 mb:Nat
 mv:Value
 nv:Value
 ov:Value
 mvs:List Raw
 nvs:List Raw
 p1:Value
 p2:Value
 tok:Int
 st:Int
 N:Nat
 xt:Value
 lo:Nat
def jE(c:SC):Nat->Prop:=λb=>b=c.sb\/b=c.mb\/c.mv.ownBlock=some b\/c.nv.ownBlock=some b\/c.ov.ownBlock=some b\/c.xt.ownBlock=some b
def Fb(c:SC)(w:World):Nat->Prop:=λb=>c.lo<=b/\b<w.heap.size/\¬jE c b
structure Inn{α:Type}[Rep α](w:World)(c:SC)(vs:List Raw)(xs:List (List α)):Prop where
 len:vs.length=xs.length
 el:∀i (h:i<vs.length) (h':i<xs.length),∃ao cap,vs[i].v=.slice ao xs[i].length cap/\Sl w (Fb c w) ao cap xs[i]
 ty:∀i (h:i<vs.length),RowT (Fb c w) w (sz α) vs[i].v
def Fb.toT{w':World}{c c':SC}{z:Nat}(h:RowT (Fb c w) w z v)(d:Chg (jE c) w w')(f:∀b,jE c' b->jE c b\/w.heap.size<=b)(e:c'.lo<=c.lo:=by exact Rq _):RowT (Fb c' w') w' z v:=
 h.to λb a _=>⟨⟨Rr e a.1,Rv a.2.1 d.size,λh=>(f b h).elim a.2.2 (λh=>by have:=a.2.1;omega)⟩,d.block b a.2.1 a.2.2⟩
def Fb.to[Rep α]{w':World}{c c':SC}{ao:Option Addr}{cap:Nat}{xs:List α}(h:Sl w (Fb c w) ao cap xs)(d:Chg (jE c) w w')(f:∀b,jE c' b->jE c b\/w.heap.size<=b)(e:c'.lo<=c.lo:=by exact Rq _):Sl w' (Fb c' w') ao cap xs:=
 h.mono (λb a=>d.block b a.2.1 a.2.2) λb a=>⟨Rr e a.1,Rv a.2.1 d.size,λh=>(f b h).elim a.2.2 (λh=>by have:=a.2.1;omega)⟩
def Wf:=@Fb.to
def Inn.to[Rep α]{w':World}{c c':SC}{vs:List Raw}{xs:List (List α)}(h:Inn w c vs xs)(d:Chg (jE c) w w')(f:∀b,jE c' b->jE c b\/w.heap.size<=b)(a:c'.lo<=c.lo:=by exact Rq _):Inn w' c' vs xs:=
 ⟨h.len,λi h1 h2=>by obtain⟨ao,cap,e,g⟩:=h.el i h1 h2;exact⟨ao,cap,e,Wf g d f a⟩,λi h1=>Fb.toT (h.ty i h1) d f a⟩
def Inn.push[Rep α]{c:SC}{vs:List Raw}{xs:List (List α)}{ao:Option Addr}{cap:Nat}{m:List α}(h:Inn w c vs xs)(l:Sl w (Fb c w) ao cap m)(f:RowT (Fb c w) w (sz α) (.slice ao m.length cap)):Inn w c (vs++[⟨.slice ao m.length cap⟩]) (xs++[m]):=by
 refine⟨by simp[h.len],λi h1 h2=>?_,λi h1=>?_⟩
 case refine_2=>
  by_cases hi:i<vs.length
  .rw[PB hi];exact h.ty i hi
  .have b:i=vs.length:=by simp at h1;omega
   subst b;rw[PC T8];simpa using f
 by_cases hi:i<vs.length
 .have d:i<xs.length:=by rw[<-h.len];exact hi
  obtain⟨a,k,e,j⟩:=h.el i hi d;refine⟨a,k,?_,?_⟩
  .rw[PB hi,e];simp only[PB d]
  .rw[PB d];exact j
 .have b:i=vs.length:=by simp at h1;omega
  have g:i=xs.length:=by rw[<-h.len];exact b
  refine⟨ao,cap,?_,?_⟩
  .rw[PC TK,PC TK];simp[b,h.len]
  .rw[PC TK];simp only[g,RP,PE];exact l
def ap(a b:Option Nat):Prop:=∀g,a=some g->b=some g->False
def ap.new{a c b:Option Nat}{k:Nat}(h:ap a b)(hn:∀g,c=some g->a=some g\/k<=g)(d:∀g,b=some g->g<k):ap c b:=λg h1 h2=>by
 obtain h3|h3:=hn g h1
 .exact h g h3 h2
 .have:=d g h2;omega
def ap.sym{a b:Option Nat}(h:ap a b):ap b a:=λg h1 h2=>h g h2 h1
structure ApartS(c:SC):Prop where
 d01:c.sb≠c.mb
 d02:ap (some c.sb) c.mv.ownBlock
 d03:ap (some c.sb) c.nv.ownBlock
 d04:ap (some c.sb) c.ov.ownBlock
 d12:ap (some c.mb) c.mv.ownBlock
 d13:ap (some c.mb) c.nv.ownBlock
 d14:ap (some c.mb) c.ov.ownBlock
 d23:ap c.mv.ownBlock c.nv.ownBlock
 d24:ap c.mv.ownBlock c.ov.ownBlock
 d34:ap c.nv.ownBlock c.ov.ownBlock
 d05:ap (some c.sb) c.xt.ownBlock
 d15:ap (some c.mb) c.xt.ownBlock
 d25:ap c.mv.ownBlock c.xt.ownBlock
 d35:ap c.nv.ownBlock c.xt.ownBlock
 d45:ap c.ov.ownBlock c.xt.ownBlock
structure Srch(w:World)(B:Nat)(c:SC)(s:Sr)(nx:List (List cI)):Prop where
 blk:Blk w c.sb 98 [c.p1,c.p2,.int .i64 c.tok,.int .i64 c.st,c.mv,c.nv,.map (some c.mb),c.ov,.int .i64 s.2.2.1,.int .i64 s.2.2.2]
 num:NumM Vy 235 w c.mb (s.1.map zT)
 mo:Own w B 39 dh c.mv c.mvs
 no:Own w B 75 dh c.nv c.nvs
 oo:Own w B 96 dh c.ov s.2.1
 mi:Inn w c c.mvs s.1
 ni:Inn w c c.nvs nx
 ge:B<=c.sb/\B<=c.mb
 lob:c.lo<=B
 xo:∀g,c.xt.ownBlock=some g->B<=g/\g<w.heap.size
 dis:ApartS c
 ok:∀m∈s.1,m.length=c.N/\Tok m
 nd:s.1.Nodup
 lim:(s.1.length:Int)<=c.st/\0<c.st/\c.st<=200/\s.2.1.length=s.1.length/\c.N<=30
def jF{c:SC}{s:Sr}{nx:List (List cI)}(h:Srch w B c s nx):∀b,jE c b->B<=b/\b<w.heap.size:=λb a=>by
 obtain rfl|rfl|a|a|a|a:=a
 .exact⟨h.ge.1,h.blk.lt⟩
 .exact⟨h.ge.2,h.num.lt⟩
 .exact⟨(h.mo.lt b a).1,(h.mo.lt b a).2.1⟩
 .exact⟨(h.no.lt b a).1,(h.no.lt b a).2.1⟩
 .exact⟨(h.oo.lt b a).1,(h.oo.lt b a).2.1⟩
 .exact h.xo b a
def Chg.ofExt{S:Nat->Prop}{w':World}(h:Ext w w'):Chg S w w':=⟨h.os,h.tape,h.output,h.size,λb a _=>h.block b a⟩
def Srch.ext{w':World}{c:SC}{s:Sr}{nx:List (List cI)}(h:Srch w B c s nx)(a:Ext w w'):Srch w' B c s nx:=
 ⟨h.blk.ext a,h.num.ext a,h.mo.extN a,h.no.extN a,h.oo.extN a,h.mi.to (.ofExt a) (λ_ h=>.inl h),h.ni.to (.ofExt a) (λ_ h=>.inl h),h.ge,h.lob,(λg b=>⟨(h.xo g b).1,Rv (h.xo g b).2 a.size⟩),h.dis,h.ok,h.nd,h.lim⟩
def busyI(c:SC):Nat->Prop:=λb=>b=c.sb\/b=c.mb\/c.mv.ownBlock=some b\/c.nv.ownBlock=some b\/c.ov.ownBlock=some b\/False
def busyI.to{c:SC}{b:Nat}(h:busyI c b):jE c b:=by
 obtain h|h|h|h|h|h:=h
 .exact .inl h
 .exact .inr (.inl h)
 .exact .inr (.inr (.inl h))
 .exact .inr (.inr (.inr (.inl h)))
 .exact .inr (.inr (.inr (.inr (.inl h))))
 .exact h.elim
def bI{c:SC}{w':World}(h:Chg (busyI c) w w'):Chg (jE c) w w':=⟨h.os,h.tape,h.output,h.size,λb a hn=>h.block b a (λk=>hn k.to)⟩
def KZ(w:World)(a:Nat){c:SC}{u:Value}{vs:List Value}(x:Int)(h3:Blk w a 90 [Uc c.sb])(b:Blk w c.sb 98 (u::v:: Ub c.tok::vs)):
  Rt Vy 130 [Ub x,Uc a].toArray w λv w'=>v=.bool (decide (x>c.tok))/\Ext w w':=by
 refine dS func130 ntmps130 rfl rfl (UU ?_);exact be ⟨rfl,p7 w⟩
def dX(c c':SC):Prop:=c'.sb=c.sb/\c'.p1=c.p1/\c'.p2=c.p2/\c'.tok=c.tok/\c'.st=c.st/\c'.N=c.N/\c'.xt=c.xt/\c'.lo=c.lo
def Srch.last{w':World}{c:SC}{s:Sr}{nx:List (List cI)}{fr:Int×Int}(h:Srch w B c s nx)(a:w.grownBy w' (some c.sb))(d:Blk w' c.sb 98 [c.p1,c.p2,Ub c.tok,Ub c.st,c.mv,c.nv,.map (some c.mb),c.ov,Ub fr.1,Ub fr.2]):Srch w' B c (s.1,s.2.1,fr) nx:=by have b:Chg (jE c) w w':=(VM _ w).grown a T4;exact⟨d,h.num.kept a (λe=>h.dis.d01 (R4 e).symm),h.mo.keptN a (λg a e=>h.dis.d02 g e.symm a),h.no.keptN a (λg a e=>h.dis.d03 g e.symm a),h.oo.keptN a (λg a e=>h.dis.d04 g e.symm a),h.mi.to b (λ_ h=>.inl h),h.ni.to b (λ_ h=>.inl h),h.ge,h.lob,(λg k=>⟨(h.xo g k).1,Rv (h.xo g k).2 a.size⟩),h.dis,h.ok,h.nd,h.lim⟩
def zZ{l:List (List Int)}{N:Nat}(d:N<=30)(b:∀x∈l,x.length=N/\Tok x)(c:m.length=N):zT m∈l.map zT↔m∈l:=by
 constructor
 .intro h;obtain⟨x,a,e⟩:=Qv.1 h;obtain rfl:=zU (by rw[(b x a).1];exact d) (by rw[(b x a).1,c]) e;exact a
 .exact λh=>Qv.2 ⟨m,h,rfl⟩
def JF(w0:World){c:SC}{s:Sr}{nx:List (List cI)}(hS:Srch w0 B c s nx)(hBw:B<=w0.heap.size){mo:Option Addr}{mc:Nat}(hm:Sl w0 (Fb c w0) mo mc m)(hmT:RowT (Fb c w0) w0 1 (.slice mo m.length mc))(hN:m.length=c.N)(hT:Tok m)(fr:Int×Int):
  Rt Vy 64 [Uc c.sb,.slice mo m.length mc,.agg [Ub fr.1,Ub fr.2].toArray].toArray w0 λv w'=>∃c',v=.tuple ⟨[Ub (FQ c.tok c.st s m fr).2.1,Ub (FQ c.tok c.st s m fr).2.2]⟩/\
   Srch w' B c' (FQ c.tok c.st s m fr).1 nx/\dX c c'/\Chg (busyI c) w0 w'/\∀b,jE c' b->jE c b\/w0.heap.size<=b:=by
 have same:dX c c:=⟨rfl,rfl,rfl,rfl,rfl,rfl,rfl,rfl⟩;have hbg:=jF hS;refine dT func64 ntmps64 rfl rfl ?_;refine UZ ?_;refine eH λw1 o e1=>?_
 refine eH λw2 t e2=>?_
 have hl3:=o.lt;have o:=o.ext e2;have e2:=e1.trans e2;have hS2:=hS.ext e2;have hm2:=Wf hm (.ofExt e2) (λ_ h=>.inl h);have f:=hS2.blk;have hz1:=e1.size;have T:∀b,jE c b->b≠w0.heap.size:=λb p e=>by have:=hbg b p;omega
 have hn5:∀b,jE c b->b≠w1.heap.size:=λb p e=>by have:=hbg b p;omega
 refine U3 ?_;refine f7 f (λw3 p hg3=>?_);have o:=o.kept hg3 (λe=>T c.sb (.inl rfl) (R4 e).symm);have t:=t.kept hg3 (λe=>hn5 c.sb (.inl rfl) (R4 e).symm);have hS3:=hS2.last hg3 p;have hC3:Chg (busyI c) w0 w3:=(Chg.ofExt e2).grown hg3 T4;have hm3:=Wf hm (bI hC3) (λ_ h=>.inl h);clear f hg3 hm2 hS2;refine Um ?_;refine eK (l_ w3 (λx=>decide (x>c.tok)) (hm3.mono T5 (λb p=>p.2.1)) (λw hE i hi=>VE (cs:=[_]) (KZ w _ _ (o.ext hE) (p.ext hE)))) ?_;rintro _ w4 ⟨rfl,e4⟩
 have o:=o.ext e4;have t:=t.ext e4;have O:=hS3.ext e4;have A:Chg (busyI c) w0 w4:=⟨e4.os.trans hC3.os,e4.tape.trans hC3.tape,e4.output.trans hC3.output,Rr hC3.size e4.size,λb p hn=>(e4.block b (Rv p hC3.size)).trans (hC3.block b p hn)⟩;have hm4:=Wf hm (bI A) (λ_ h=>.inl h);clear p hS3 hm3 e4;unfold FQ;refine UG ?_;apply ld rfl<;>intro h
 .rw[Tn (show K0 c.tok m=true from h)]
  refine Up ?_;exact f0 ⟨c,rfl,O,same,A,λ_ h=>.inl h⟩
 rw[Tm (show¬K0 c.tok m=true by rw[show K0 c.tok m=false from h];decide)];have hkey:=zV hT;have hmem:=zZ O.lim.2.2.2.2 O.ok hN;have hmold:Sl w4 (dk w4) mo mc m:=hm4.mono T5 (λb p=>p.2.1);have h30:m.length<=30:=by rw[hN];exact O.lim.2.2.2.2
 have f:=O.blk;dsimp only at f hmem
 refine U8 ?_;refine VX rfl rfl rfl (λw hE=>zM w (hmold.up hE) h30 hT) ?_;by_cases hin:m∈s.1
 .rw[Tn hin]
  obtain⟨j,hj,hjm⟩:=Qu.1 hin;rw[E5 hj hS.nd hjm];refine dJ (j:=j) (by simpa using hj) (by rw[PK,hjm]) rfl rfl rfl rfl O.num hkey ?_;refine U_ ?_;refine VD (λW Z=>?_);have J:Chg (busyI c) w0 W:=⟨Z.os.trans A.os,Z.tape.trans A.tape,Z.output.trans A.output,Rr A.size Z.size,λb p hn=>(Z.block b (Rv p A.size)).trans (A.block b p hn)⟩;refine Us ?_;exact f0 ⟨c,rfl,O.ext Z,same,J,λ_ h=>.inl h⟩
 rw[Tm hin];refine dI rfl rfl rfl rfl O.num hkey (λh=>hin (hmem.1 h)) ?_;refine U_ ?_;refine VD (λW Z=>?_);have o:=o.ext Z;have t:=t.ext Z;have J:Chg (busyI c) w0 W:=⟨Z.os.trans A.os,Z.tape.trans A.tape,Z.output.trans A.output,Rr A.size Z.size,λb p hn=>(Z.block b (Rv p A.size)).trans (A.block b p hn)⟩;have V:=O.ext Z;clear f hm4 hmold O Z;obtain⟨sb,mb,mv,nv,ov,mvs,nvs,p1,p2,tok,st,N,xt,lo⟩:=c;dsimp only at*
 have hmoA:=V.mo;have hooA:=V.oo;dsimp only at hmoA hooA
 obtain⟨ao,ac,rfl⟩:=hmoA.val;obtain⟨oo,oc,rfl⟩:=hooA.val;have U:=V.mi.len;dsimp only at U
 have f:=V.blk;have hlim:=V.lim;dsimp only at hlim f
 rw[U]at f
 refine UM ?_;apply ld rfl<;>intro h
 .have h:(s.1.length:Int)=st:=by simpa using h
  rw[Tn h];refine Up ?_;exact f0 ⟨_,rfl,V,same,J,λ_ h=>.inl h⟩
 have h:¬(s.1.length:Int)=st:=by simpa using h
 rw[Tm h];have hm5:=Wf hm (bI J) (λ_ h=>.inl h);have hmo5:Sl W (dk W) mo mc m:=hm5.mono T5 (λb p=>p.2.1);have d:=V.dis;have n:Ext W (drew W):=mm W;have q:=f.lt;have hlmb:=V.num.lt;have hl35:=o.lt;have hz5:=J.size;have R:=o.ext n;have r:=f.ext n;have hK3:∀u,(λx:World=>x.heap[w0.heap.size]?=(drew W).heap[w0.heap.size]?/\x.heap[sb]?=(drew W).heap[sb]?) u->u.heap[w0.heap.size]?=(drew W).heap[w0.heap.size]?:=λ_ h=>h.1
 have hKs:∀u,(λx:World=>x.heap[w0.heap.size]?=(drew W).heap[w0.heap.size]?/\x.heap[sb]?=(drew W).heap[sb]?) u->u.heap[sb]?=(drew W).heap[sb]?:=λ_ h=>h.2
 refine UW ?_;refine aG (λx:World=>x.heap[w0.heap.size]?=(drew W).heap[w0.heap.size]?/\x.heap[sb]?=(drew W).heap[sb]?) [Wr 0,Wr 1,Wr 2,Wr 3,Wr 4,Wr 6,Ws 5,Ws 7] mixed TL ⟨rfl,rfl⟩ ?_;refine Vq ?_;refine cy rfl (eK (zM (drew W) (hmo5.up n) h30 hT) ?_);rintro _ w6 ⟨rfl,e6⟩
 have P:=n.trans e6;refine p0 (a8 ⟨e6.block _ (Rv hl35 n.size),e6.block _ (Rv q n.size)⟩ ?_);have hS6:=V.ext P;have hnum6:=hS6.num;dsimp only at hnum6
 refine cy rfl (fT (ks:=s.1.map zT) rfl rfl rfl (by simp[ev,fnd,P4]) hnum6 hkey (λh=>hin (hmem.1 h)) (λK hnum7 M=>?_));have hl31:w0.heap.size≠mb:=λe=>T mb (.inr (.inl rfl)) e.symm
 refine p0 (a8 ⟨?_,?_⟩ (VK ?_))
 .exact(M.block _ (Rv hl35 P.size) (λe=>hl31 (R4 e))).trans (e6.block _ (Rv hl35 n.size))
 .exact(M.block _ (Rv q P.size) (λe=>d.d01 (R4 e))).trans (e6.block _ (Rv q n.size))
 have o:Blk K w0.heap.size 90 [Uc sb]:=(R.ext e6).kept M (λe=>hl31 (R4 e));have t:Blk K w1.heap.size 96 [Ub fr.1,Ub fr.2]:=(t.ext P).kept M (λe=>hn5 mb (.inr (.inl rfl)) (R4 e).symm);have f:Blk K sb 98 _:=(r.ext e6).kept M (λe=>d.d01 (R4 e));have hmo:=hS6.mo.keptN M (λg k e=>d.d12 g e.symm k);have L:=hS6.no.keptN M (λg k e=>d.d13 g e.symm k);have hoo:=hS6.oo.keptN M (λg k e=>d.d14 g e.symm k);dsimp only at hmo L hoo
 rw[U]at hmo
 have hC7:Chg (busyI ⟨sb,mb,.slice ao mvs.length ac,nv,.slice oo s.2.1.length oc,mvs,nvs,p1,p2,tok,st,N,xt,lo⟩) w0 K:=
  (⟨P.os.trans J.os,P.tape.trans J.tape,P.output.trans J.output,Rr J.size P.size,λb p hn=>(P.block b (Rv p J.size)).trans (J.block b p hn)⟩:Chg _ w0 w6).grown M (λg k=>by cases k;exact .inr (.inl rfl))
 rw[U]at hC7 T hn5 hbg d
 have hz7:=hC7.size;clear hnum6 hS6 hK3 hKs R r M e6 P n;have n:Ext K (drew K):=mm K;have q:=f.lt;have X:=o.lt;have hl57:=t.lt;have R:=o.ext n;have hb5d:=t.ext n;have r:=f.ext n;have hK3:∀u,(λx:World=>x.heap[w0.heap.size]?=(drew K).heap[w0.heap.size]?/\x.heap[sb]?=(drew K).heap[sb]?) u->u.heap[w0.heap.size]?=(drew K).heap[w0.heap.size]?:=λ_ h=>h.1
 have hKs:∀u,(λx:World=>x.heap[w0.heap.size]?=(drew K).heap[w0.heap.size]?/\x.heap[sb]?=(drew K).heap[sb]?) u->u.heap[sb]?=(drew K).heap[sb]?:=λ_ h=>h.2
 have hlen200:s.1.length<=200:=by omega
 refine UW ?_;refine aF (λx:World=>x.heap[w0.heap.size]?=(drew K).heap[w0.heap.size]?/\x.heap[sb]?=(drew K).heap[sb]?) [Wr 0,Wr 1,Wr 2,Wr 3,Wr 4,Wr 5,Wr 6,Ws 7,Ws 8,Ws 9,Ws 10,Ws 11] 12 mixed TL ⟨rfl,rfl⟩ ?_;refine Vq ?_;refine bW (α:=Raw) (F:=dh) (bytes:=24) (yv:=(⟨.slice mo m.length mc⟩:Raw)) rfl rfl rfl rfl TV rfl rfl TV (hmo.extN n) (VO _ _ _ rfl) (Rr hBw (Rr hz7 n.size)) TY TN (by rw[U];unfold maxLen;omega) (by rw[U];omega)
  (λz hz=>⟨hz.block _ (Rv X n.size) (λe=>T _ (.inr (.inr (.inl e.symm))) rfl),hz.block _ (Rv q n.size) (λe=>d.d02 _ rfl e.symm)⟩) (λmv' w9 p9 ho9 H hnb9=>?_)
 obtain⟨ao',ac',rfl⟩:=ho9.val;have o:=R.kept H (λe=>T _ (.inr (.inr (.inl e.symm))) rfl);have t:=hb5d.kept H (λe=>hn5 _ (.inr (.inr (.inl e.symm))) rfl);have f:=r.kept H (λe=>d.d02 _ rfl e.symm);have G:=(hnum7.ext n).kept H (λe=>d.d12 _ rfl e.symm);have L:=(L.extN n).keptN H (λg k e=>d.d23 g e.symm k);have hoo:=(hoo.extN n).keptN H (λg k e=>d.d24 g e.symm k);have hS9:w9.heap[w0.heap.size]?=(drew K).heap[w0.heap.size]?/\w9.heap[sb]?=(drew K).heap[sb]?:=⟨H.block _ (Rv X n.size) (λe=>T _ (.inr (.inr (.inl e.symm))) rfl),H.block _ (Rv q n.size) (λe=>d.d02 _ rfl e.symm)⟩;refine cy rfl (fQ rfl rfl rfl (p0 (a8 hS9 ?_)));refine cy rfl (fj rfl rfl rfl (p0 (a8 hS9 ?_)));refine cy rfl (fj rfl rfl rfl (p0 (a8 hS9 (VK ?_))));refine bu rfl (f7 f (λl f y=>p0 (bx ?_)));have hz9:=H.size;have hzd:=n.size;have Q:∀g,Value.ownBlock (.slice ao' (mvs++[(⟨.slice mo m.length mc⟩:Raw)]).length ac')=some g->Value.ownBlock (.slice ao s.1.length ac)=some g\/K.heap.size<=g:=λg k=>(hnb9 g k).imp id (λh=>Rr hzd h)
 have D:∀b,jE ⟨sb,mb,.slice ao s.1.length ac,nv,.slice oo s.2.1.length oc,mvs,nvs,p1,p2,tok,st,N,xt,lo⟩ b->b<K.heap.size:=λb p=>Rv (hbg b p).2 hz7
 have n2:ap (Value.ownBlock (.slice ao' (mvs++[(⟨.slice mo m.length mc⟩:Raw)]).length ac')) (some sb):=d.d02.sym.new Q (λg k=>by cases k;exact D _ (.inl rfl));have n12:ap (Value.ownBlock (.slice ao' (mvs++[(⟨.slice mo m.length mc⟩:Raw)]).length ac')) (some mb):=d.d12.sym.new Q (λg k=>by cases k;exact D _ (.inr (.inl rfl)));have n23:ap (Value.ownBlock (.slice ao' (mvs++[(⟨.slice mo m.length mc⟩:Raw)]).length ac')) nv.ownBlock:=d.d23.new Q (λg k=>D _ (.inr (.inr (.inr (.inl k)))));have n24:ap (Value.ownBlock (.slice ao' (mvs++[(⟨.slice mo m.length mc⟩:Raw)]).length ac')) (Value.ownBlock (.slice oo s.2.1.length oc)):=d.d24.new Q (λg k=>D _ (.inr (.inr (.inr (.inr (.inl k))))));have n25:ap (Value.ownBlock (.slice ao' (mvs++[(⟨.slice mo m.length mc⟩:Raw)]).length ac')) xt.ownBlock:=d.d25.new Q (λg k=>D _ (.inr (.inr (.inr (.inr (.inr k))))));have o:=o.kept y (λe=>T sb (.inl rfl) (R4 e).symm);have t:=t.kept y (λe=>hn5 sb (.inl rfl) (R4 e).symm);have G:=G.kept y (λe=>d.d01 (R4 e).symm);have ho10:=ho9.keptN y (λg k e=>n2 g k e.symm);have L:=L.keptN y (λg k e=>d.d03 g e.symm k);have hoo:=hoo.keptN y (λg k e=>d.d04 g e.symm k);have hC10:=((hC7.grown (⟨n.os,n.tape,n.output,n.size,λb p _=>n.block b p⟩:K.grownBy (drew K) none) (λg k=>by cases k)).grown H (λg k=>.inr (.inr (.inl k)))).grown y T4;have hz10:=hC10.size;have hz710:K.heap.size<=l.heap.size:=Rr hzd (Rr hz9 y.size);have hlt10:∀g,Value.ownBlock (.slice ao' (mvs++[(⟨.slice mo m.length mc⟩:Raw)]).length ac')=some g->g<l.heap.size:=λg k=>(ho10.lt g k).2.1
 clear hmo hnum7 r R hb5d hK3 hKs n H y ho9 hS9;have n:Ext l (drew l):=mm l;have q:=f.lt;have X:=o.lt;have hl57:=t.lt;have R:=o.ext n;have hb5d:=t.ext n;have r:=f.ext n;have hK3:∀u,(λx:World=>x.heap[w0.heap.size]?=(drew l).heap[w0.heap.size]?/\x.heap[sb]?=(drew l).heap[sb]?/\x.heap[w1.heap.size]?=(drew l).heap[w1.heap.size]?) u->u.heap[w0.heap.size]?=(drew l).heap[w0.heap.size]?:=λ_ h=>h.1
 have hKs:∀u,(λx:World=>x.heap[w0.heap.size]?=(drew l).heap[w0.heap.size]?/\x.heap[sb]?=(drew l).heap[sb]?/\x.heap[w1.heap.size]?=(drew l).heap[w1.heap.size]?) u->u.heap[sb]?=(drew l).heap[sb]?:=λ_ h=>h.2.1
 have hK5:∀u,(λx:World=>x.heap[w0.heap.size]?=(drew l).heap[w0.heap.size]?/\x.heap[sb]?=(drew l).heap[sb]?/\x.heap[w1.heap.size]?=(drew l).heap[w1.heap.size]?) u->u.heap[w1.heap.size]?=(drew l).heap[w1.heap.size]?:=λ_ h=>h.2.2
 refine UW ?_;refine aF (λx:World=>x.heap[w0.heap.size]?=(drew l).heap[w0.heap.size]?/\x.heap[sb]?=(drew l).heap[sb]?/\x.heap[w1.heap.size]?=(drew l).heap[w1.heap.size]?) [Wr 0,Wr 1,Wr 2,Wr 3,Wr 4,Wr 5,Ws 6,Ws 7,Ws 8,Ws 9] 10 mixed TL ⟨rfl,rfl,rfl⟩ ?_;refine Vq ?_;refine cm hK5 rfl rfl rfl rfl hb5d rfl ?_;refine bW (α:=Int×Int) (F:=dh) (bytes:=16) (yv:=fr) rfl rfl rfl rfl TV rfl rfl TV (hoo.extN n) (VZ (c1:=[Ub fr.1]) (c2:=[Ub fr.2]) (Gn _ _ _) (Gn _ _ _)) (Rr hBw (Rr hz10 n.size)) TY TN (by rw[hlim.2.2.2.1];unfold maxLen;omega) (by rw[hlim.2.2.2.1];omega)
  (λz hz=>⟨hz.block _ (Rv X n.size) (λe=>T _ (.inr (.inr (.inr (.inr (.inl e.symm))))) rfl),hz.block _ (Rv q n.size) (λe=>d.d04 _ rfl e.symm),hz.block _ (Rv hl57 n.size) (λe=>hn5 _ (.inr (.inr (.inr (.inr (.inl e.symm))))) rfl)⟩) (λov' w12 p12 ho12 E hnb12=>?_)
 obtain⟨oo',oc',rfl⟩:=ho12.val;have f:=r.kept E (λe=>d.d04 _ rfl e.symm);have G:=(G.ext n).kept E (λe=>d.d14 _ rfl e.symm);have L:=(L.extN n).keptN E (λg k e=>d.d34 g k e.symm);have ho10:=(ho10.extN n).keptN E (λg k e=>n24 g k e.symm);have hS12:w12.heap[w0.heap.size]?=(drew l).heap[w0.heap.size]?/\w12.heap[sb]?=(drew l).heap[sb]?/\w12.heap[w1.heap.size]?=(drew l).heap[w1.heap.size]?:=⟨E.block _ (Rv X n.size) (λe=>T _ (.inr (.inr (.inr (.inr (.inl e.symm))))) rfl),E.block _ (Rv q n.size) (λe=>d.d04 _ rfl e.symm),E.block _ (Rv hl57 n.size) (λe=>hn5 _ (.inr (.inr (.inr (.inr (.inl e.symm))))) rfl)⟩;refine cy rfl (fQ rfl rfl rfl (p0 (a8 hS12 ?_)));refine cy rfl (fj rfl rfl rfl (p0 (a8 hS12 (VK ?_))));refine bu rfl (f7 f (λw13 f Y=>p0 (bx ?_)));have hzd:=n.size;have C:∀g,Value.ownBlock (.slice oo' (s.2.1++[fr]).length oc')=some g->Value.ownBlock (.slice oo s.2.1.length oc)=some g\/l.heap.size<=g:=λg k=>(hnb12 g k).imp id (λh=>Rr hzd h)
 have m4:ap (Value.ownBlock (.slice oo' (s.2.1++[fr]).length oc')) (some sb):=d.d04.sym.new C (λg k=>by cases k;exact q);have m14:ap (Value.ownBlock (.slice oo' (s.2.1++[fr]).length oc')) (some mb):=d.d14.sym.new C (λg k=>by cases k;exact Rv (D _ (.inr (.inl rfl))) hz710);have m34:ap (Value.ownBlock (.slice oo' (s.2.1++[fr]).length oc')) nv.ownBlock:=d.d34.sym.new C (λg k=>Rv (D _ (.inr (.inr (.inr (.inl k))))) hz710);have m24:ap (Value.ownBlock (.slice oo' (s.2.1++[fr]).length oc')) (Value.ownBlock (.slice ao' (mvs++[(⟨.slice mo m.length mc⟩:Raw)]).length ac')):=n24.sym.new C hlt10;have m45:ap (Value.ownBlock (.slice oo' (s.2.1++[fr]).length oc')) xt.ownBlock:=d.d45.new C (λg k=>Rv (D _ (.inr (.inr (.inr (.inr (.inr k)))))) hz710);have L:=L.keptN Y (λg k e=>d.d03 g e.symm k);have G:=G.kept Y (λe=>d.d01 (R4 e).symm);have hmoF:=ho10.keptN Y (λg k e=>n2 g k e.symm);have hooF:=ho12.keptN Y (λg k e=>m4 g k e.symm);have S:=((hC10.grown (⟨n.os,n.tape,n.output,n.size,λb p _=>n.block b p⟩:l.grownBy (drew l) none) (λg k=>by cases k)).grown E (λg k=>.inr (.inr (.inr (.inr (.inl k)))))).grown Y T4;have I:∀b,jE ⟨sb,mb,.slice ao' (mvs++[(⟨.slice mo m.length mc⟩:Raw)]).length ac',nv,.slice oo' (s.2.1++[fr]).length oc',mvs++[(⟨.slice mo m.length mc⟩:Raw)],nvs,p1,p2,tok,st,N,xt,lo⟩ b->
   jE ⟨sb,mb,.slice ao s.1.length ac,nv,.slice oo s.2.1.length oc,mvs,nvs,p1,p2,tok,st,N,xt,lo⟩ b\/w0.heap.size<=b:=by
  intro b p
  rcases p with h|h|h|h|h|h
  .exact .inl (.inl h)
  .exact .inl (.inr (.inl h))
  .exact(Q b h).imp (λh=>.inr (.inr (.inl h))) (λh=>by omega)
  .exact .inl (.inr (.inr (.inr (.inl h))))
  .exact(C b h).imp (λh=>.inr (.inr (.inr (.inr (.inl h))))) (λh=>by omega)
  .exact .inl (.inr (.inr (.inr (.inr (.inr h)))))
 rw[U]at hS hm hmT same
 have hmi:=(hS.mi.to (bI S) I).push (Wf hm (bI S) I) (Fb.toT hmT (bI S) I);have hni:=hS.ni.to (bI S) I;dsimp only at hmi hni
 have hml2:(mvs++[(⟨.slice mo m.length mc⟩:Raw)]).length=s.1.length+1:=by rw[PX,U];rfl
 refine Up ?_;rw[U];refine f0 ⟨⟨sb,mb,.slice ao' (mvs++[(⟨.slice mo m.length mc⟩:Raw)]).length ac',nv,.slice oo' (s.2.1++[fr]).length oc',mvs++[(⟨.slice mo m.length mc⟩:Raw)],nvs,p1,p2,tok,st,N,xt,lo⟩,rfl,?_,same,S,I⟩;refine⟨f,?_,hmoF,L,hooF,hmi,hni,hS.ge,hS.lob,(λg k=>⟨(hS.xo g k).1,Rv (hS.xo g k).2 S.size⟩),⟨d.d01,n2.sym,d.d03,m4.sym,n12.sym,d.d13,m14.sym,n23,m24.sym,m34.sym,d.d05,d.d15,n25,d.d35,m45⟩,?_,?_,?_⟩
 .dsimp only
  rw[Qe];exact G
 .intro x hx
  rcases Ql.1 hx with hx|hx
  .exact hS.ok x hx
  .rw[QC]at hx;subst hx;exact⟨hN,hT⟩
 .rw[QF]
  refine⟨hS.nd,by simp,λa ha b p e=>?_⟩;rw[QC]at p
  subst p;subst e;exact hin ha
 .have:=hlim
  dsimp only;simp only[PX,PY,P5];omega
def Chg.step{S S':Nat->Prop}{w0 w':World}(h:Chg S w0 w)(k:Chg S' w w')(hS:∀b,S' b->S b\/w0.heap.size<=b):Chg S w0 w':=
 ⟨k.os.trans h.os,k.tape.trans h.tape,k.output.trans h.output,Rr h.size k.size,λb a hn=>(k.block b (Rv a h.size) (λc=>(hS b c).elim hn (λh=>by omega))).trans (h.block b a hn)⟩
def Chg.stepE{S:Nat->Prop}{w0 w':World}(h:Chg S w0 w)(k:Ext w w'):Chg S w0 w':=h.step (S':=λ_=>False) (.ofExt k) TY
def Chg.stepG{S:Nat->Prop}{w0 w':World}{row:Option Nat}(h:Chg S w0 w)(k:w.grownBy w' row)(hS:∀b,row=some b->S b\/w0.heap.size<=b):Chg S w0 w':=
 h.step (S':=λb=>row=some b) ⟨k.os,k.tape,k.output,k.size,λb a hn=>k.block b a (λe=>hn e.symm)⟩ hS
def Lw(B:Nat):Nat->Prop:=λb=>b<B
def Lw.at[Rep α]{w':World}{S:Nat->Prop}{ao:Option Addr}{cap:Nat}{xs:List α}(h:Sl w (Lw B) ao cap xs)(d:Chg S w w')(e:B<=w.heap.size)(hS:∀b,S b->B<=b):Sl w' (Lw B) ao cap xs:=
 h.mono (λb a=>d.block b (Rv a e) (λc=>by have:=hS b c;have:b<B:=a;omega)) λ_ h=>h
def Lw.old[Rep α]{ao:Option Addr}{cap:Nat}{xs:List α}(h:Sl w (Lw B) ao cap xs)(c:B<=w.heap.size):Sl w (dk w) ao cap xs:=h.mono T5 λb a=>Rv a c
def FR{tok st:Int}{s:Sr}{fr:Int×Int}:(FQ tok st s m fr).1.1=s.1\/(FQ tok st s m fr).1.1=s.1++[m]:=by
 unfold FQ;split
 .exact .inl rfl
 split
 .exact .inl rfl
 split
 .exact .inl rfl
 .exact .inr rfl
def uD{l:List (List Int)}{b:List Int}{n:Nat}(h:g=l\/g=l++[b])(hn:n<l.length)(a:l.getD n []=m):n<g.length/\g.getD n []=m:=by
 obtain rfl|rfl:=h
 .exact⟨hn,a⟩
 .refine⟨by simp;omega,?_⟩;rw[Pl,Pm hn,<-Pl];exact a
def KV{p:cM}(a:m.length=p.2.length)(b:Tok m):c_ p m:=⟨a,λj=>b.at j⟩
def BJ{p:cM}(h:c_ p m):Tok m:=λx a=>by obtain⟨j,hj,rfl⟩:=Qu.1 a;have:=h.2 j;rwa[tH hj]at this
def rB{p:cM}{k:Int}(b:c_ p m)(h:(rt p m k).2=0):c_ p (rt p m k).1:=by obtain⟨_,a⟩:=ry h;exact rC b a.2.2.1 a.2.2.2
def dY(c c':SC):Prop:=c'.sb=c.sb/\c'.p1=c.p1/\c'.p2=c.p2/\c'.tok=c.tok/\c'.st=c.st/\c'.N=c.N/\c'.lo=c.lo
def Srch.grow{w':World}{c:SC}{s:Sr}{nx:List (List cI)}{x':Value}(h:Srch w B c s nx)(d:w.grownBy w' c.xt.ownBlock)(hnb:∀g,x'.ownBlock=some g->c.xt.ownBlock=some g\/w.heap.size<=g)(j:∀g,x'.ownBlock=some g->B<=g/\g<w'.heap.size):
  Srch w' B ⟨c.sb,c.mb,c.mv,c.nv,c.ov,c.mvs,c.nvs,c.p1,c.p2,c.tok,c.st,c.N,x',c.lo⟩ s nx/\(∀b,jE ⟨c.sb,c.mb,c.mv,c.nv,c.ov,c.mvs,c.nvs,c.p1,c.p2,c.tok,c.st,c.N,x',c.lo⟩ b->jE c b\/w.heap.size<=b):=by
 have hd:=h.dis;have l:Chg (jE c) w w':=(VM _ w).grown d (λg d=>.inr (.inr (.inr (.inr (.inr d)))));have i:∀b,jE ⟨c.sb,c.mb,c.mv,c.nv,c.ov,c.mvs,c.nvs,c.p1,c.p2,c.tok,c.st,c.N,x',c.lo⟩ b->jE c b\/w.heap.size<=b:=by
  intro b i;obtain h|h|h|h|h|h:=i
  .exact .inl (.inl h)
  .exact .inl (.inr (.inl h))
  .exact .inl (.inr (.inr (.inl h)))
  .exact .inl (.inr (.inr (.inr (.inl h))))
  .exact .inl (.inr (.inr (.inr (.inr (.inl h)))))
  .exact(hnb b h).imp (λh=>.inr (.inr (.inr (.inr (.inr h))))) id
 have f:=jF h;have na:∀{a:Option Nat},ap a c.xt.ownBlock->(∀g,a=some g->g<w.heap.size)->ap a x'.ownBlock:=λk kl=>(k.sym.new hnb kl).sym;refine⟨⟨h.blk.kept d (λe=>hd.d05 _ rfl e.symm),h.num.kept d (λe=>hd.d15 _ rfl e.symm),h.mo.keptN d (λg k e=>hd.d25 g k e.symm),h.no.keptN d (λg k e=>hd.d35 g k e.symm),h.oo.keptN d (λg k e=>hd.d45 g k e.symm),h.mi.to l i,h.ni.to l i,h.ge,h.lob,j,
  ⟨hd.d01,hd.d02,hd.d03,hd.d04,hd.d12,hd.d13,hd.d14,hd.d23,hd.d24,hd.d34,na hd.d05 (λg e=>by cases e;exact(f _ (.inl rfl)).2),na hd.d15 (λg e=>by cases e;exact(f _ (.inr (.inl rfl))).2),na hd.d25 (λg e=>(f _ (.inr (.inr (.inl e)))).2),na hd.d35 (λg e=>(f _ (.inr (.inr (.inr (.inl e))))).2),na hd.d45 (λg e=>(f _ (.inr (.inr (.inr (.inr (.inl e)))))).2)⟩,h.ok,h.nd,h.lim⟩,i⟩
def oG(w0:World){c:SC}{s:Sr}{nx:List (List cI)}{so fo:Option Addr}{sc fc:Nat}{ns:List cK}{fl:List cJ}(hS:Srch w0 B c s nx)(y:B<=w0.heap.size)(hs:Sl w0 (Lw B) so sc ns)(hf:Sl w0 (Lw B) fo fc fl)
  (I:c.p1=.slice so ns.length sc) (H:c.p2=.slice fo fl.length fc) (J:c.N=fl.length) (hz:(JL (ns,fl)).2=0) (hxt:c.xt=.slice none 0 0) {n:Nat} (hn:n<s.1.length):
  Rt Vy 65 [Uc c.sb,Ub (n:Int)].toArray w0 λv w'=>∃c' x,v=.tuple ⟨[x,Ub (oz (ns,fl) c.tok c.st n s).2.2]⟩/\Srch w' B c' (oz (ns,fl) c.tok c.st n s).1 nx/\dY c c'/\
   Chg (jE c) w0 w'/\(∀b,jE c' b->jE c b\/w0.heap.size<=b)/\Own w' w0.heap.size 149 dh x (oz (ns,fl) c.tok c.st n s).2.1/\∀g,x.ownBlock=some g->c'.xt.ownBlock=some g:=by
 have hbg:=jF hS;have hBb:∀b,jE c b->B<=b:=λb h=>(hbg b h).1;have hlo:=hS.lob;have hmok:∀m∈s.1,c_ (ns,fl) m:=λm hm=>KV (by rw[(hS.ok m hm).1];exact J) (hS.ok m hm).2;obtain⟨m,hmd⟩:∃m,m=s.1.getD n []:=⟨_,rfl⟩;have hmn:s.1[n]=m:=by rw[hmd,Pl,Pq hn];rfl
 have hmk:c_ (ns,fl) m:=hmok m (hmn▸PL hn);have hcm:=BG hz hmk;unfold oz;rw[<-hmd];refine dS func65 ntmps65 rfl rfl ?_;have O:∀{w:World} {d:SC} {r:Sr},Srch w B d r nx->n<r.1.length/\r.1.getD n []=m->∃ao ac,d.mv=.slice ao d.mvs.length ac/\∃hv:n<d.mvs.length,Sl w (dk w) ao ac d.mvs/\∃mo mc,d.mvs[n].v=.slice mo m.length mc/\Sl w (dk w) mo mc m:=by
  intro w d r hR hr;obtain⟨ao,ac,hv,D⟩:=hR.mo.oldN.sl;have hlen:=hR.mi.len;have hn1:n<d.mvs.length:=by rw[hlen];exact hr.1
  obtain⟨mo,mc,he,hms⟩:=hR.mi.el n hn1 hr.1;obtain⟨hr1,hr2⟩:=hr;have e1:r.1[n]=m:=by rw[Pl,Pq hr1]at hr2;exact hr2
  rw[e1]at he hms;exact⟨ao,ac,hv,hn1,D,mo,mc,he,hms.mono T5 (λb f=>f.2.1)⟩
 have A:Ext w0 (drew w0):=mm w0;obtain⟨ao,ac,Q,Y,D,mo,mc,l,Z⟩:=O hS ⟨hn,hmd.symm⟩;have o:=hS.blk;rw[Q,I,H]at o;refine UR ?_;have hSE:∀w1,(λx=>Ext w0 x) w1->Ext w0 w1:=λ_ h=>h;refine aG (λx=>Ext w0 x) [Wr 0,Wr 1,Wr 2,Wr 3,Wr 4,Wr 5,Wr 6,Wr 7,Wr 8,Wr 9,Wr 10,Wr 11,Ws 12,Wr 13,Wr 14,Wr 15,Wr 16,Wr 17] mixed TL A (Vm ?_);refine cb (w:=w0) (F:=dk w0) (λz hz b f=>hz.block b f) rfl rfl rfl rfl rfl rfl rfl D Y TV (λu q hu=>?_);obtain⟨rfl,_⟩:=hu.raw;rw[l];refine cy rfl (eK (bD (drew w0) ((hs.mono T5 λ_ h=>h:Sl (drew w0) (Lw B) so sc ns)|>λh=>Lw.old h (Rr y A.size)) ((hf.mono T5 λ_ h=>h:Sl (drew w0) (Lw B) fo fc fl)|>λh=>Lw.old h (Rr y A.size)) (Z.up A)) ?_);rintro _ w1 ⟨x,rfl,P,e1⟩;have hE1:=A.trans e1;refine p0 (a8 hE1 ?_);rw[Tn hcm]at P;rw[hcm];obtain⟨xo,xc,rfl,G⟩:=P.slF (F':=λb=>w0.heap.size<=b/\b<w1.heap.size) TY (λg a=>⟨Rr A.size (P.lt g a).1,(P.lt g a).2.1⟩);have hcan:jQ (ns,fl) m=jT (ns,fl) m:=by unfold jQ;rw[Tn hcm]
 have hcl:=jR (p:=(ns,fl)) (m:=m);rw[hcan]at hcl⊢;generalize jT (ns,fl) m=can at*;refine Vr ?_;refine Ut ?_;refine p8 (S:=Nat×SC×Sr×List cI) (λt=>[(0,Uc c.sb),(1,Ub (n:Int)),(6,t.2.1.xt),(30,.slice xo can.length xc),(31,Ub can.length),(32,Ub t.1)])
  (λt w=>t.1<=can.length/\oB (ns,fl) c.tok c.st (n:Int) m (can.drop t.1) t.2.2.1 t.2.2.2=oB (ns,fl) c.tok c.st (n:Int) m can s []/\Srch w B t.2.1 t.2.2.1 nx/\dY c t.2.1/\Chg (jE c) w0 w/\(∀b,jE t.2.1 b->jE c b\/w0.heap.size<=b)/\Own w w0.heap.size 149 dh t.2.1.xt t.2.2.2/\t.2.2.2.length<=t.1
   /\n<t.2.2.1.1.length/\t.2.2.1.1.getD n []=m/\Sl w (Fb t.2.1 w) xo xc can) (λt=>can.length -t.1) (0,c,s,[]) (by rw[hxt];exact TJ) ⟨RU _,by rw[O1],hS.ext hE1,⟨rfl,rfl,rfl,rfl,rfl,rfl,rfl⟩,.ofExt hE1,λ_ h=>.inl h,by rw[hxt];exact r3,Rq _,hn,hmd.symm,
   G.mono T5 (λb f=>⟨by show c.lo<=b;have:=f.1;have:=hlo;omega,f.2,λh=>by have:=(hbg b h).2;have:=f.1;omega⟩)⟩ ?_
 clear o G P D Z Q l hS;rintro⟨i,d,r,out⟩ w2 ⟨hi,M,hS,hsx,hC,K,X,hol,hrn,hrm,G⟩;dsimp only at hi M hS hsx hC K X hol hrn hrm G⊢;obtain⟨sb,mb,mv,nv,ov,mvs,nvs,p1,p2,tok,st,N,xt,lo⟩:=d;obtain⟨q1,q2,q3,q4,q5,q6,q7⟩:=hsx;dsimp only at q1 q2 q3 q4 q5 q6 q7 X;subst q1 q4 q5 q7;rw[I]at q2;rw[H]at q3;rw[J]at q6;subst q2 q3 q6;have hz2:=hC.size;have hB2:B<=w2.heap.size:=Rr y hz2;have hbg2:=jF hS;refine UR ?_;apply ld rfl<;>intro h
 .have hi':i<can.length:=by simp at h;omega
  rw[OX hi',oB]at M;have o:=hS.blk;refine UC ?_;refine e_ G hi' rfl TV (λq=>?_);generalize can[i]=k at*;refine UR ?_;refine r4 rfl rfl rfl rfl (Vg ?_);refine f7 o (λL E R=>?_);have hS3:=hS.last (fr:=((n:Int),k)) R E;have hC3:Chg (jE c) w0 L:=hC.stepG R (λb h=>by cases h;exact K _ (.inl rfl));have hxs3:=Wf G ((VM _ w2).grown R (λg h=>by cases h;exact .inl rfl)) (λ_ h=>.inl h);have hxo3:=X.keptN R (λg a e=>hS.dis.d05 g e.symm a);obtain⟨ao,ac,Q,Y,D,mo,mc,l,Z⟩:=O hS3 ⟨hrn,hrm⟩;dsimp only at Q Y D l;subst Q;have o:=E;have A:Ext L (drew L):=mm L;have hSE:∀w1,(λx=>Ext L x) w1->Ext L w1:=λ_ h=>h;have hB3:B<=L.heap.size:=Rr y hC3.size;have hs3:=Lw.at hs hC3 y hBb;have hf3:=Lw.at hf hC3 y hBb;clear E R;refine UR ?_;refine aG (λx=>Ext L x) [Wr 0,Wr 1,Wr 2,Wr 3,Wr 4,Wr 5,Wr 6,Wr 7,Wr 8,Wr 9,Wr 10,Wr 11,Wr 12,Ws 13,Wr 14,Wr 15,Wr 16,Wr 17,Wr 18] mixed TL A (Vm ?_);refine cb (w:=L) (F:=dk L) (λz hz b f=>hz.block b f) rfl rfl rfl rfl rfl rfl rfl D Y TV (λu q hu=>?_);obtain⟨rfl,_⟩:=hu.raw;rw[l];refine Vo ?_;refine cy rfl (eK (bM (drew L) ((Lw.old hs3 hB3).up A) ((Lw.old hf3 hB3).up A) (Z.up A) k) ?_);rintro _ w4 ⟨x,rfl,j,e4⟩;have W:=A.trans e4;refine p0 (a8 W (Vr ?_));have hS4:=hS3.ext W;have hC4:=hC3.stepE W;have hxs4:=Wf hxs3 (.ofExt W) (λ_ h=>.inl h);have hxo4:=hxo3.extN W;have hlt3:∀b,jE ⟨c.sb,mb,.slice ao mvs.length ac,nv,ov,mvs,nvs,.slice so ns.length sc,.slice fo fl.length fc,c.tok,c.st,fl.length,xt,c.lo⟩ b->b<L.heap.size:=λb f=>(jF hS3 b f).2;by_cases he:(rt (ns,fl) m k).2=0
  case neg=>
   have hz1:((rt (ns,fl) m k).2 != 0)=true:=by simpa using he
   rw[Tn he]at M;rw[<-M];refine UR ?_;rw[hz1];refine U0 ?_;exact f0 ⟨_,_,rfl,hS4,⟨rfl,I.symm,H.symm,rfl,rfl,J.symm,rfl⟩,hC4,K,r3,λg a=>by cases a⟩
  rw[Tm (by simp[he])]at M;have hmk4:=rB hmk he;have hT4:=BJ hmk4;rw[he];generalize (rt (ns,fl) m k).1=m' at*;have hyT:=j.rowT (F:=Fb ⟨c.sb,mb,.slice ao mvs.length ac,nv,ov,mvs,nvs,.slice so ns.length sc,.slice fo fl.length fc,c.tok,c.st,fl.length,xt,c.lo⟩ w4) (λg a=>⟨by have:=(j.lt g a).1;have:=A.size;have:=hlo;dsimp only;omega,(j.lt g a).2.1,λh=>by have:=hlt3 g h;have:=(j.lt g a).1;have:=A.size;omega⟩);obtain⟨yo,yc,rfl,hys⟩:=j.slF (F':=Fb ⟨c.sb,mb,.slice ao mvs.length ac,nv,ov,mvs,nvs,.slice so ns.length sc,.slice fo fl.length fc,c.tok,c.st,fl.length,xt,c.lo⟩ w4) TY (λg a=>⟨by have:=(j.lt g a).1;have:=A.size;have:=hlo;dsimp only;omega,(j.lt g a).2.1,λh=>by have:=hlt3 g h;have:=(j.lt g a).1;have:=A.size;omega⟩);refine UY ?_;refine r4 rfl rfl rfl rfl (eK (JF w4 hS4 (Rr y hC4.size) hys hyT hmk4.1 hT4 ((n:Int),k)) ?_);rintro _ w5 ⟨C,rfl,V,hsc,hC5,hby5⟩;dsimp only at V hsc;have hpe:FQ c.tok c.st (r.1,r.2.1,((n:Int),k)) m' ((n:Int),k)=FQ c.tok c.st r m' ((n:Int),k):=rfl;rw[hpe]at V⊢;have hby':∀b,jE C b->jE c b\/w0.heap.size<=b:=λb h=>(hby5 b h).elim (K b) (λh=>.inr (Rr hC4.size h));have hC6:Chg (jE c) w0 w5:=hC4.step (bI hC5) K;have hxs5:=Wf hxs4 (bI hC5) hby5 (Rn hsc.2.2.2.2.2.2.2);have U:=hS4.dis;have hxo5:Own w5 w0.heap.size 149 dh xt out:=hxo4.chg hC5 (λb f hbb=>by
   obtain h|h|h|h|h|h:=hbb
   .exact U.d05 b (by rw[h]) f
   .exact U.d15 b (by rw[h]) f
   .exact U.d25 b h f
   .exact U.d35 b h f
   .exact U.d45 b h f
   .exact h)
  obtain⟨g1,g2,g3,g4,g5,g6,g7,g8⟩:=hsc;dsimp only at g1 g2 g3 g4 g5 g6 g7 g8;have hgr:=uD (FR (tok:=c.tok) (st:=c.st) (s:=r) (m:=m') (fr:=((n:Int),k))) hrn hrm;by_cases T:(FQ c.tok c.st r m' ((n:Int),k)).2.2=0
  case neg=>
   have hz1:((FQ c.tok c.st r m' ((n:Int),k)).2.2 != 0)=true:=by simpa using T
   rw[Tn T]at M;rw[<-M];refine UR ?_;rw[hz1];refine U0 ?_;exact f0 ⟨C,_,rfl,V,⟨g1,by rw[g2,I],by rw[g3,H],g4,g5,by rw[g6,J],g8⟩,hC6,hby',r3,λg a=>by cases a⟩
  rw[Tm (by simp[T])]at M;rw[T];generalize FQ c.tok c.st r m' ((n:Int),k)=pe at*;obtain⟨r',to,er⟩:=pe;dsimp only at M V hgr T⊢;have hC5z:=hC6.size;refine UY ?_;refine r4 rfl rfl rfl rfl (eF (α:=Int×Int) (F:=dh) (bytes:=16) (yv:=(k,to)) rfl rfl TV rfl rfl TV hxo5 (VZ (c1:=[Ub k]) (c2:=[Ub to]) (Gn _ _ _) (Gn _ _ _)) hC5z TY TN TQ TK (λxt' w6 p6 ho6 hg6 hnb6=>?_));rw[<-g7]at hg6 hnb6;obtain⟨hS6,hb6⟩:=V.grow hg6 hnb6 (λg a=>⟨Rr y (ho6.lt g a).1,(ho6.lt g a).2.1⟩);have hxlt:∀g,C.xt.ownBlock=some g->w0.heap.size<=g:=λg a=>by rw[g7]at a;exact(hxo5.lt g a).1
  have hC7:=hC6.stepG hg6 (λb f=>.inr (hxlt b f));have hxs6:=Wf hxs5 ((VM _ w5).grown hg6 (λg a=>.inr (.inr (.inr (.inr (.inr a)))))) hb6;refine Ui ?_;refine m5 (i+1,⟨C.sb,C.mb,C.mv,C.nv,C.ov,C.mvs,C.nvs,C.p1,C.p2,C.tok,C.st,C.N,xt',C.lo⟩,r',out++[(k,to)]) TJ ⟨hi',M,hS6,⟨g1,by rw[g2,I],by rw[g3,H],g4,g5,by rw[g6,J],g8⟩,hC7,λb f=>(hb6 b f).elim (hby' b) (λh=>.inr (Rr hC5z h)),ho6,by simp;omega,hgr.1,hgr.2,hxs6⟩ TP
 .obtain rfl:i=can.length:=by simp at h;omega
  rw[OZ,oB]at M;rw[<-M];refine UF ?_;exact f0 ⟨_,_,rfl,hS,⟨rfl,I.symm,H.symm,rfl,rfl,J.symm,rfl⟩,hC,K,X,λg a=>a⟩
instance:IsT Vy 75 Raw:=VL TL SL rfl
instance:IsZ Vy 75 (⟨.slice none 0 0⟩:Raw) 24:=VV (z:=.slice none 0 0) TL (λ_ _=>⟨rfl,rfl⟩)
def uA(w:World)(row:Option Nat):w.grownBy w row:=⟨rfl,rfl,rfl,Rq _,λ_ _ _=>rfl⟩
def Srch.pushN{o m:World}{c:SC}{s:Sr}{nx:List (List cI)}{i:List cI}(h:Srch w B c s nx)(E:B<=w.heap.size)(A:Sl w (Fb c w) C K i)(p:RowT (Fb c w) w 2 (.slice C i.length K))
  (D:Own o B 75 dh v (c.nvs++[(⟨.slice C i.length K⟩:Raw)])) (j:w.grownBy o c.nv.ownBlock) (hnb:∀g,v.ownBlock=some g->c.nv.ownBlock=some g\/w.heap.size<=g) (d:o.grownBy m (some c.sb))
  (q:Blk m c.sb 98 [c.p1,c.p2,Ub c.tok,Ub c.st,c.mv,v,.map (some c.mb),c.ov,Ub s.2.2.1,Ub s.2.2.2]):
  Srch m B ⟨c.sb,c.mb,c.mv,v,c.ov,c.mvs,c.nvs++[(⟨.slice C i.length K⟩:Raw)],c.p1,c.p2,c.tok,c.st,c.N,c.xt,c.lo⟩ s (nx++[i])/\Chg (busyI c) w m/\
   ∀b,jE ⟨c.sb,c.mb,c.mv,v,c.ov,c.mvs,c.nvs++[(⟨.slice C i.length K⟩:Raw)],c.p1,c.p2,c.tok,c.st,c.N,c.xt,c.lo⟩ b->jE c b\/w.heap.size<=b:=by
 have hd:=h.dis;have n:=jF h;have l:Chg (busyI c) w m:=((VM _ w).grown j (λg j=>.inr (.inr (.inr (.inl j))))).grown d T4;have f:∀b,jE ⟨c.sb,c.mb,c.mv,v,c.ov,c.mvs,c.nvs++[(⟨.slice C i.length K⟩:Raw)],c.p1,c.p2,c.tok,c.st,c.N,c.xt,c.lo⟩ b->jE c b\/w.heap.size<=b:=by
  intro b q;obtain h|h|h|h|h|h:=q
  .exact .inl (.inl h)
  .exact .inl (.inr (.inl h))
  .exact .inl (.inr (.inr (.inl h)))
  .exact(hnb b h).imp (λh=>.inr (.inr (.inr (.inl h)))) id
  .exact .inl (.inr (.inr (.inr (.inr (.inl h)))))
  .exact .inl (.inr (.inr (.inr (.inr (.inr h)))))
 have na:∀{a:Option Nat},ap a c.nv.ownBlock->(∀g,a=some g->g<w.heap.size)->ap a v.ownBlock:=λk kl=>(k.sym.new hnb kl).sym;have n0:ap (some c.sb) v.ownBlock:=na hd.d03 (λg e=>by cases e;exact(n _ (.inl rfl)).2);have n1:ap (some c.mb) v.ownBlock:=na hd.d13 (λg e=>by cases e;exact(n _ (.inr (.inl rfl))).2);have z:ap c.mv.ownBlock v.ownBlock:=na hd.d23 (λg e=>(n _ (.inr (.inr (.inl e)))).2);have u:ap c.ov.ownBlock v.ownBlock:=na hd.d34.sym (λg e=>(n _ (.inr (.inr (.inr (.inr (.inl e)))))).2);have r:ap c.xt.ownBlock v.ownBlock:=na hd.d35.sym (λg e=>(n _ (.inr (.inr (.inr (.inr (.inr e)))))).2);refine⟨⟨q,(h.num.kept j (λe=>hd.d13 _ rfl e.symm)).kept d (λe=>hd.d01 (R4 e).symm),(h.mo.keptN j (λg k e=>hd.d23 g k e.symm)).keptN d (λg k e=>hd.d02 g e.symm k),D.keptN d (λg k e=>n0 g e.symm k),(h.oo.keptN j (λg k e=>hd.d34 g e.symm k)).keptN d (λg k e=>hd.d04 g e.symm k),
  h.mi.to (bI l) f,(h.ni.to (bI l) f).push (Wf A (bI l) f) (Fb.toT p (bI l) f),h.ge,h.lob,(λg k=>⟨(h.xo g k).1,Rv (h.xo g k).2 l.size⟩),
  ⟨hd.d01,hd.d02,n0,hd.d04,hd.d12,n1,hd.d14,z,hd.d24,u.sym,hd.d05,hd.d15,hd.d25,r.sym,hd.d45⟩,h.ok,h.nd,h.lim⟩,l,f⟩
def oC{p:cM}{tok st n:Int}{m:List Int}:∀(l:List Int) (s:Sr) (out:List cI),s.1.length<=(oB p tok st n m l s out).1.1.length
 |[],s,out=>Rq _
 |k::r,s,out=>by
  rw[oB];split
  .exact Rq _
  have h:s.1.length<=(FQ tok st s (rt p m k).1 (n,k)).1.1.length:=by
   rcases FR (tok:=tok) (st:=st) (s:=s) (m:=(rt p m k).1) (fr:=(n,k))with h|h<;>rw[h]
   .exact Rq _
   .simp
  split
  .exact h
  .exact Rr h (oC r _ _)
def oA{p:cM}{tok st:Int}{n:Nat}{s:Sr}:s.1.length<=(oz p tok st n s).1.1.length:=oC _ _ _
def HJ(w0:World){so fo:Option Addr}{sc fc:Nat}{ns:List cK}{fl:List cJ}(hs:Sl w0 (dk w0) so sc ns)(hf:Sl w0 (dk w0) fo fc fl)(tok st:Int):
  Rt Vy 28 [FC so sc fo fc ns.length fl.length,Ub tok,Ub st].toArray w0 λv w'=>Ext w0 w'/\((Hl (ns,fl) tok st≠0/\v=.tuple ⟨[.pointer none,Ub (Hl (ns,fl) tok st)]⟩)\/
   (Hl (ns,fl) tok st=0/\∃c,v=.tuple ⟨[Uc c.sb,Ub (runB (ns,fl) tok st).2.2]⟩/\Srch w' w0.heap.size c (runB (ns,fl) tok st).1 (runB (ns,fl) tok st).2.1/\c.lo=w0.heap.size)):=by
 refine dT func28 ntmps28 rfl rfl ?_;refine UZ ?_;refine eH λw1 C e1=>?_
 refine UD ?_;refine eK (di w1 (hs.up e1) (hf.up e1)) ?_;rintro _ V ⟨x,rfl,l,e2⟩
 have C:=C.ext e2;have U:=e1.trans e2;unfold Hl;by_cases P:(JL (ns,fl)).2=0
 case neg=>
  have E:((JL (ns,fl)).2 != 0)=true:=by simpa using P
  rw[Tn P];refine UR ?_;rw[E];refine Us ?_;exact f0 ⟨U,.inl ⟨P,rfl⟩⟩
 rw[Tm (by simp[P]),P];obtain⟨hc0,hse,hl60⟩:=JM P;have hpok:=kV hc0;have hf30:=hpok.f;dsimp only at hf30
 by_cases ha:tok<1\/tok>9\/st<1\/st>200
 .have X:Hb tok st=1:=by unfold Hb;rw[Tn ha]
  rw[X];have fin:∀(Q:Exit->Act->World->Prop),True:=λ_=>trivial
  refine UY ?_;by_cases h1:tok<1
  .rw[Tc h1]
   refine Us ?_;exact f0 ⟨U,.inl ⟨by decide,rfl⟩⟩
  rw[Ta h1];refine U9 ?_;by_cases h2:tok>9
  .rw[Tc h2]
   refine Us ?_;exact f0 ⟨U,.inl ⟨by decide,rfl⟩⟩
  rw[Ta h2];refine U9 ?_;by_cases h3:st<1
  .rw[Tc h3]
   refine Us ?_;exact f0 ⟨U,.inl ⟨by decide,rfl⟩⟩
  rw[Ta h3];refine Ug ?_;rw[Tc (show st>200 by omega)];refine Us ?_;exact f0 ⟨U,.inl ⟨by decide,rfl⟩⟩
 have X:Hb tok st=0:=by unfold Hb;rw[Tm ha]
 rw[X];refine UY ?_;rw[Ta (show¬tok<1 by omega)];refine U9 ?_;rw[Ta (show¬tok>9 by omega)];refine U9 ?_;rw[Ta (show¬st<1 by omega)];refine Ug ?_;rw[Ta (show¬st>200 by omega)];refine Uv ?_;refine fN (k:=235) rfl rfl (λH=>?_);have e3:Ext V (V.alloc (.map #[] 0)):=V6 V _;generalize V.alloc (.map #[] 0)=w3 at*
 have C:=C.ext e3;have U:=U.trans e3;refine r4 rfl rfl rfl rfl ?_;refine eH λw4 B e4=>?_
 have hlm:=H.lt;have hz2:=e1.size;have hz3:=e2.size;have hz4:=e3.size;have C:=C.ext e4;have K:=U.trans e4;have hS0:Srch w4 w0.heap.size ⟨w3.heap.size,V.heap.size,.slice none 0 0,.slice none 0 0,.slice none 0 0,[],[],.slice so ns.length sc,.slice fo fl.length fc,tok,st,fl.length,.slice none 0 0,w0.heap.size⟩ ([],[],(0,0)) []:=by
  have no:∀{a:Option Nat},ap a none:=λg _ h=>by cases h
  have no2:∀{a:Option Nat},ap none a:=λg h _=>by cases h
  refine⟨B,H.ext e4,r3,r3,r3,⟨rfl,λi h _=>absurd h TO,λi h=>absurd h TO⟩,⟨rfl,λi h _=>absurd h TO,λi h=>absurd h TO⟩,⟨by dsimp only;omega,by dsimp only;omega⟩,Rq _,(λg h=>by cases h),⟨by dsimp only;omega,no,no,no,no,no,no,no2,no2,no2,no,no,no2,no2,no2⟩,(λm h=>by cases h),List.Pairwise.nil,⟨by dsimp only;simp;omega,by dsimp only;omega,by dsimp only;omega,rfl,by dsimp only;omega⟩⟩
 refine UD ?_;refine eK (aq w4 (hs.up K) (hf.up K)) ?_;rintro _ w5 ⟨x,rfl,l,e5⟩
 rw[Tn P]at l
 have hS5:=hS0.ext e5;have hE5:=K.trans e5;have hbm:=i3 (p:=(ns,fl));have Y:=λb h=>(jF hS0 b h).2
 have W:=l.rowT (F:=Fb ⟨w3.heap.size,V.heap.size,.slice none 0 0,.slice none 0 0,.slice none 0 0,[],[],.slice so ns.length sc,.slice fo fl.length fc,tok,st,fl.length,.slice none 0 0,w0.heap.size⟩ w5) (λg z=>⟨by have:=(l.lt g z).1;have:=K.size;dsimp only;omega,(l.lt g z).2.1,λh=>by have:=Y g h;have:=(l.lt g z).1;omega⟩);obtain⟨xo,xc,rfl,M⟩:=l.slF (F':=Fb ⟨w3.heap.size,V.heap.size,.slice none 0 0,.slice none 0 0,.slice none 0 0,[],[],.slice so ns.length sc,.slice fo fl.length fc,tok,st,fl.length,.slice none 0 0,w0.heap.size⟩ w5) TY (λg z=>⟨by have:=(l.lt g z).1;have:=K.size;dsimp only;omega,(l.lt g z).2.1,λh=>by have:=Y g h;have:=(l.lt g z).1;omega⟩);unfold runB;generalize iZ (ns,fl)=m0 at*
 refine UR ?_;refine r4 rfl rfl rfl rfl ?_;refine eK (JF w5 hS5 hE5.size M W hbm.1 (BJ hbm) (-1,-1)) ?_;rintro _ w6 ⟨c,rfl,N,j,hC6,hby6⟩
 dsimp only at N j
 have hE6:Ext w0 w6:=(bI hC6).ext hE5 (λb h=>(jF hS5 b h).1);by_cases hp:(FQ tok st ([],[],(0,0)) m0 (-1,-1)).2.2=0
 case neg=>
  have E:((FQ tok st ([],[],(0,0)) m0 (-1,-1)).2.2 != 0)=true:=by simpa using hp
  rw[Tn hp];have R:=j.2.2.2.2.2.2.2;obtain⟨g1,_⟩:=j;dsimp only at g1 R
  refine UR ?_;rw[E];refine Us ?_;exact f0 ⟨hE6,.inr ⟨rfl,c,by rw[g1],N,R⟩⟩
 rw[Tm (by simp[hp]),hp];generalize (FQ tok st ([],[],(0,0)) m0 (-1,-1)).1=s0 at*
 clear hS0 hS5 M l Y B H hby6 hC6;refine Uv ?_;refine p8 (S:=Nat×SC×Sr×List (List cI)) (λt=>[(10,Uc w3.heap.size),(15,Ub t.1)])
  (λt w=>t.1<=t.2.2.1.1.length/\Hi (ns,fl) tok st (201 -t.1) t.1 t.2.2.1 t.2.2.2=Hi (ns,fl) tok st 201 0 s0 []/\Srch w w0.heap.size t.2.1 t.2.2.1 t.2.2.2/\t.2.1.xt=.slice none 0 0/\t.2.2.2.length=t.1/\t.2.1.sb=w3.heap.size/\t.2.1.p1=.slice so ns.length sc/\t.2.1.p2=.slice fo fl.length fc/\t.2.1.tok=tok/\t.2.1.st=st/\t.2.1.N=fl.length/\t.2.1.lo=w0.heap.size/\Ext w0 w)
  (λt=>201 -t.1) (0,c,s0,[]) TJ ⟨RU _,rfl,N,j.2.2.2.2.2.2.1,rfl,j.1,j.2.1,j.2.2.1,j.2.2.2.1,j.2.2.2.2.1,j.2.2.2.2.2.1,j.2.2.2.2.2.2.2,hE6⟩ ?_
 clear N j;rintro⟨n,c,s,nx⟩ w7 ⟨hn,L,hS,hxt,hnl,q1,q2,q3,q4,q5,q6,q7,u⟩
 dsimp only at hn L hS hxt hnl q1 q2 q3 q4 q5 q6 q7 u⊢
 have T:=hS.lim;have hml:=hS.mi.len;obtain⟨ao,ac,hmv⟩:=hS.mo.val;have B:=hS.blk;rw[hmv,q1,hml]at B
 have hn200:s.1.length<=200:=by have:=T.1;have:=T.2.2.1;omega
 obtain⟨f,hf201⟩:∃f,201 -n=f+1:=⟨200 -n,by omega⟩;rw[hf201,Hi]at L
 refine UE ?_;apply ld rfl<;>intro h
 .have hn':n<s.1.length:=by simp at h;omega
  rw[Tn hn']at L
  refine UB ?_;rw[<-q1];refine eK (oG w7 hS u.size (hs.at u) (hf.at u) q2 q3 q6 P hxt hn') ?_;rintro _ w8 ⟨c',x,rfl,J,hsx,hC8,hby8,d,hxx⟩
  rw[q4,q5]at J d⊢
  obtain⟨g1,g2,g3,g4,g5,g6,g7⟩:=hsx;have O:Ext w0 w8:=hC8.ext u (λb h=>(jF hS b h).1);by_cases he:(oz (ns,fl) tok st n s).2.2=0
  case neg=>
   have E:((oz (ns,fl) tok st n s).2.2 != 0)=true:=by simpa using he
   rw[Tn he]at L
   rw[<-L];refine UR ?_;rw[E];refine U0 ?_;exact f0 ⟨O,.inr ⟨rfl,c',by rw[g1],J,by rw[g7,q7]⟩⟩
  rw[Tm (by simp[he])]at L
  rw[he];have Z:=oA (p:=(ns,fl)) (tok:=tok) (st:=st) (n:=n) (s:=s);generalize oz (ns,fl) tok st n s=ee at*
  obtain⟨s',es,er⟩:=ee;dsimp only at L J d he Z⊢
  have q:=J.dis;obtain⟨D,hb9⟩:=J.grow (x':=.slice none 0 0) (uA w8 _) (λg h=>by cases h) (λg h=>by cases h);have W:=d.rowT (F:=Fb ⟨c'.sb,c'.mb,c'.mv,c'.nv,c'.ov,c'.mvs,c'.nvs,c'.p1,c'.p2,c'.tok,c'.st,c'.N,.slice none 0 0,c'.lo⟩ w8) (λg z=>⟨by have:=(d.lt g z).1;have:=u.size;dsimp only;omega,(d.lt g z).2.1,λh=>by
   have o:=hxx g z;rcases h with h|h|h|h|h|h
   .exact q.d05 g (by rw[h]) o
   .exact q.d15 g (by rw[h]) o
   .exact q.d25 g h o
   .exact q.d35 g h o
   .exact q.d45 g h o
   .cases h⟩)
  obtain⟨xo,xc,rfl,M⟩:=d.slF (F':=Fb ⟨c'.sb,c'.mb,c'.mv,c'.nv,c'.ov,c'.mvs,c'.nvs,c'.p1,c'.p2,c'.tok,c'.st,c'.N,.slice none 0 0,c'.lo⟩ w8) TY (λg z=>⟨by have:=(d.lt g z).1;have:=u.size;dsimp only;omega,(d.lt g z).2.1,λh=>by
   have o:=hxx g z;rcases h with h|h|h|h|h|h
   .exact q.d05 g (by rw[h]) o
   .exact q.d15 g (by rw[h]) o
   .exact q.d25 g h o
   .exact q.d35 g h o
   .exact q.d45 g h o
   .cases h⟩)
  have I:=D.no;have A:=D.blk;have hnl9:=D.ni.len;dsimp only at I A hnl9
  obtain⟨no,nc,G⟩:=I.val;rw[G,g1]at A
  refine UM ?_;refine eF (α:=Raw) (F:=dh) (bytes:=24) (yv:=(⟨.slice xo es.length xc⟩:Raw)) rfl rfl TV rfl rfl TV (G▸I) (VO _ _ _ rfl) O.size TY TN TQ TK (λnv' w9 p9 ho9 hg9 hnb9=>?_);obtain⟨no',nc',rfl⟩:=ho9.val;have r:=A.kept hg9 (λe=>D.dis.d03 c.sb (by dsimp only;rw[g1]) (by dsimp only;rw[G];exact e.symm));refine Vg ?_;refine f7 r (λw10 r hg10=>?_);obtain⟨hS10,hC10,hb10⟩:=D.pushN O.size M W ho9 (by dsimp only;rw[G];exact hg9) (by dsimp only;rw[G];exact hnb9) (by dsimp only;rw[g1];exact hg10) (by dsimp only;rw[g1];exact r);have hE10:Ext w0 w10:=(bI hC10).ext O (λb h=>(jF D b h).1);refine Ui ?_;refine m5 (n+1,_,s',nx++[es]) TJ ⟨?_,?_,hS10,rfl,by simp[hnl],by dsimp only;rw[g1,q1],by dsimp only;rw[g2,q2],by dsimp only;rw[g3,q3],by dsimp only;rw[g4,q4],by dsimp only;rw[g5,q5],by dsimp only;rw[g6,q6],by dsimp only;rw[g7,q7],hE10⟩ TP
  .dsimp only;omega
  .rw[show 201 -(n+1)=f by omega];exact L
 .obtain rfl:n=s.1.length:=by simp at h;omega
  rw[Tm (Rs _)]at L
  rw[<-L];refine UF ?_;exact f0 ⟨u,.inr ⟨rfl,c,by rw[q1],hS,q7⟩⟩
def GF(lo hi:Nat)(x y:Value):Nat->Prop:=λb=>lo<=b/\b<hi/\x.ownBlock≠some b/\y.ownBlock≠some b
structure LOut{α:Type}[Rep α](w:World)(lo hi:Nat)(x y:Value)(t:TypeId)(v:Value)(vs:List Raw)(xs:List (List α)):Prop where
 own:Own w lo t dh v vs
 top:∀g,v.ownBlock=some g->g<hi
 len:vs.length=xs.length
 el:∀i (h:i<vs.length) (h':i<xs.length),∃ao cap,vs[i].v=.slice ao xs[i].length cap/\Sl w (GF lo hi x y) ao cap xs[i]
 ty:∀i (h:i<vs.length),RowT (GF lo hi x y) w (sz α) vs[i].v
section
variable {α:Type}[Rep α]{w w':World}{lo hi:Nat}{x y v:Value}{t:TypeId}{vs:List Raw}{xs:List (List α)}
theorem LOut.to(h:LOut w lo hi x y t v vs xs)(a:∀b,lo<=b->b<hi->w'.heap[b]?=w.heap[b]?):LOut w' lo hi x y t v vs xs:=
 ⟨h.own.keep (λg c=>a g (h.own.lt g c).1 (h.top g c)) TY,h.top,h.len,λi h1 h2=>by obtain⟨ao,cap,e,d⟩:=h.el i h1 h2;exact⟨ao,cap,e,d.mono (λb h=>a b h.1 h.2.1) λ_ h=>h⟩,λi h1=>(h.ty i h1).to λb h _=>⟨h,a b h.1 h.2.1⟩⟩
theorem LOut.low(h:LOut w lo hi x y t v vs xs){lo':Nat}(a:lo'<=lo):LOut w lo' hi x y t v vs xs:=
 ⟨h.own.low a,h.top,h.len,λi h1 h2=>by obtain⟨ao,cap,e,c⟩:=h.el i h1 h2;exact⟨ao,cap,e,c.mono T5 λb h=>⟨Rr a h.1,h.2⟩⟩,λi h1=>(h.ty i h1).to λb h _=>⟨⟨Rr a h.1,h.2⟩,rfl⟩⟩
theorem LOut.nil:LOut w lo hi x y t (.slice none 0 0) [] ([]:List (List α)):=⟨r3,(λg h=>by cases h),rfl,λi h _=>absurd h TO,λi h=>absurd h TO⟩
theorem LOut.rd(h:LOut w lo hi x y t v vs xs){F:Nat->Prop}(hF:∀b,lo<=b->b<hi->F b):Rd w F v xs:=by
 obtain⟨ao,cap,e,c⟩:=h.own.slF (F':=F) TY (λg k=>hF g (h.own.lt g k).1 (h.top g k));have d:Sl w F ao cap xs:=by
  refine⟨by rw[<-h.len];exact c.le,c.mx,c.nil,λi hi=>?_⟩;have a:i<vs.length:=by rw[h.len];exact hi
  obtain⟨b,off,p,j,q,n,m⟩:=c.el i a;obtain⟨rfl,h1⟩:=m;obtain⟨io,ic,o,f⟩:=h.el i a hi;exact⟨b,off,p,j,[vs[i].v],n,io,ic,by rw[o],f.mono T5 (λb l=>hF b l.1 l.2.1)⟩
 rw[e,h.len];exact d.rd
end
def bJ(w0:World){so fo:Option Addr}{sc fc:Nat}{ns:List cK}{fl:List cJ}(p:Sl w0 (dk w0) so sc ns)(hf:Sl w0 (dk w0) fo fc fl)(tok st:Int):
  Rt Vy 10 [FC so sc fo fc ns.length fl.length,Ub tok,Ub st].toArray w0 λv w'=>∃x y mvs nvs,v=.tuple ⟨[.agg [x,y].toArray,Ub (qa (ns,fl) tok st).2]⟩/\LOut w' w0.heap.size w'.heap.size x y 39 x mvs (qa (ns,fl) tok st).1.1/\LOut w' w0.heap.size w'.heap.size x y 75 y nvs (qa (ns,fl) tok st).1.2/\Ext w0 w':=by
 refine dT func10 ntmps10 rfl rfl ?_;refine UZ ?_;refine eH λI r C=>?_
 skip;refine eC (λs a H=>?_);have r:=r.ext H;have B:=C.trans H;have L:=a.lt;refine UD ?_;refine eK (HJ s (p.up B) (hf.up B) tok st) ?_;rintro _ n ⟨G,J⟩
 have a:=a.ext G;have f:=B.trans G;unfold qa;rcases J with⟨u,rfl⟩|⟨u,c,rfl,hS,D⟩
 .rw[Tn u]
  have k:(Hl (ns,fl) tok st != 0)=true:=by simpa using u
  refine UR ?_;rw[k];refine U4 ?_;refine r4 (parts:=[]) rfl rfl rfl rfl ?_;refine U9 ?_;refine f7 a (λo a d=>?_);refine UX ?_;exact fG a ⟨_,_,[],[],rfl,LOut.nil,LOut.nil,f.grown d f.size (λg j=>by cases j;exact C.size)⟩
 rw[Tm (by simp[u])];by_cases z:(runB (ns,fl) tok st).2.2=0
 case neg=>
  rw[Tn z];have k:((runB (ns,fl) tok st).2.2 != 0)=true:=by simpa using z
  refine UR ?_;rw[k];refine U4 ?_;refine r4 (parts:=[]) rfl rfl rfl rfl ?_;refine U9 ?_;refine f7 a (λo a d=>?_);refine UX ?_;exact fG a ⟨_,_,[],[],rfl,LOut.nil,LOut.nil,f.grown d f.size (λg j=>by cases j;exact C.size)⟩
 rw[Tm (by simp[z]),z];have q:=hS.blk;have K:c.sb≠I.heap.size:=by have:=hS.ge.1;omega
 obtain⟨ao,ac,m⟩:=hS.mo.val;obtain⟨no,M,l⟩:=hS.no.val;rw[m,l]at q
 refine U3 ?_;refine f7 a (λo a d=>?_);have rdl:∀{α:Type} [Rep α] {t:TypeId} {v:Value} {vs:List Raw} {xs:List (List α)},Own n s.heap.size t dh v vs->Inn n c vs xs->LOut o w0.heap.size o.heap.size c.mv c.nv t v vs xs:=by
  intro α _ t v vs xs E hi
  have F:∀b,Fb c n b->GF s.heap.size n.heap.size c.mv c.nv b:=λb A=>⟨by rw[<-D];exact A.1,A.2.1,λe=>A.2.2 (.inr (.inr (.inl e))),λe=>A.2.2 (.inr (.inr (.inr (.inl e))))⟩
  have h3:LOut n s.heap.size n.heap.size c.mv c.nv t v vs xs:=⟨E,λg j=>(E.lt g j).2.1,hi.len,λi h1 h2=>by
   obtain⟨ao,cap,e,p⟩:=hi.el i h1 h2;exact⟨ao,cap,e,p.mono T5 F⟩,λi h1=>(hi.ty i h1).to λb h _=>⟨F b h,rfl⟩⟩
  have h4:=(h3.to (w':=o) λb h1 h2=>d.block b h2 T3).low B.size;exact⟨h4.own,λg j=>Rv (h4.top g j) d.size,h4.len,λi k1 k2=>by
   obtain⟨ao,cap,e,p⟩:=h4.el i k1 k2;exact⟨ao,cap,e,p.mono T5 λb h=>⟨h.1,Rv h.2.1 d.size,h.2.2⟩⟩,λi k1=>(h4.ty i k1).to λb h _=>⟨⟨h.1,Rv h.2.1 d.size,h.2.2⟩,rfl⟩⟩
 refine Uf ?_;exact fG a ⟨_,_,c.mvs,c.nvs,rfl,by rw[<-m,<-l];exact rdl hS.mo hS.mi,by rw[<-m,<-l];exact rdl hS.no hS.ni,f.grown d f.size (λg j=>by cases j;exact C.size)⟩
def bH(w0:World){so fo:Option Addr}{sc fc:Nat}{ns:List cK}{fl:List cJ}(a:Sl w0 (dk w0) so sc ns)(hf:Sl w0 (dk w0) fo fc fl)(tok st:Int):
  Rt Vy 10 [FC so sc fo fc ns.length fl.length,Ub tok,Ub st].toArray w0 λv w'=>∃x y,v=.tuple ⟨[.agg [x,y].toArray,Ub (qa (ns,fl) tok st).2]⟩/\Rd w' (dk w') x (qa (ns,fl) tok st).1.1/\Rd w' (dk w') y (qa (ns,fl) tok st).1.2/\Ext w0 w':=
 VR (bJ w0 a hf tok st) λv w' ⟨x,y,_,_,e,h1,h2,c⟩=>⟨x,y,e,h1.rd (λb _ h=>h),h2.rd (λb _ h=>h),c⟩
def Cells.hd'{b o:Nat}{x:Value}(h:Cells w b o (x::r)):Cells w b o [x]:=λj u a=>by
 match j,a with
 |0,a=>exact h 0 u (by simpa using a)
def Sl.edge0{ao:Option Addr}{cap:Nat}{xs:List cI}(h:Sl w F ao cap xs){i:Nat}(hi:i<xs.length):∃b off,ao=some ⟨b,off,none⟩/\F b/\Cells w b (off+i*2) [Ub xs[i].1]/\Cells w b (off+i*2+1) [Ub xs[i].2]:=by obtain⟨b,off,e,d,f,a,c⟩:=h.el i hi;obtain⟨c1,c2,rfl,h1,h2⟩:=Gr c;rw[Gl h1,Gl h2]at a;exact⟨b,off,e,d,a.hd',a.tl'⟩
def Sl.step0{ao:Option Addr}{cap:Nat}{xs:List cO}(h:Sl w F ao cap xs){i:Nat}(hi:i<xs.length):∃b off,ao=some ⟨b,off,none⟩/\F b/\Cells w b (off+i*3) [Ub xs[i].1]:=by obtain⟨b,off,e,d,f,a,c⟩:=h.el i hi;obtain⟨c1,c2,rfl,h1,h2⟩:=Gr c;rw[Gl h1]at a;exact⟨b,off,e,d,a.hd'⟩
def Gk{x:cI}(h:Rd w F v x):v=.agg [Ub x.1,Ub x.2].toArray:=by obtain⟨c1,c2,rfl,h1,h2⟩:=h.pr;rw[Gl h1,Gl h2];rfl
def tJ{l:List cI}{j:Nat}(h:j<l.length):l.getD j (0,0)=l[j]:=by rw[Pl,Pq h];rfl
def tO{l:List (List cI)}{j:Nat}(h:j<l.length):l.getD j []=l[j]:=by rw[Pl,Pq h];rfl
def tP{l:List cO}{j:Nat}(h:j<l.length):l.getD j (0,0,0)=l[j]:=by rw[Pl,Pq h];rfl
def IS{s:Nat}(a:s<62):IntKind.u64.wrap (1*2 ^ min ((s:Int)).toNat IntKind.u64.bits)=((2 ^ s:Nat):Int):=by
 have h1:min ((s:Int)).toNat IntKind.u64.bits=s:=by rw[Oy];exact Ry (by show s<=64;omega)
 rw[h1,Ov];have h2:(2:Nat) ^ s<2 ^ 62:=RM TN a;have h3:((2:Int)) ^ s=((2 ^ s:Nat):Int):=by push_cast;rfl
 rw[h3];generalize (2:Nat) ^ s=q at*;simp[IntKind.wrap,IntKind.bits,IntKind.signed]<;>omega
def RunAt(w:World)(sb:Nat)(sl:List cO)(nx:List (List cI)):Prop:=
 ∃(lo:Option Addr) (b:Nat) (mv:Value) (no:Option Addr) (a:Nat) (oo:Option Addr) (oc:Nat) (ao:Option Addr) (ac:Nat) (yo:Option Addr) (yc:Nat) (f e d c:Value),
  Blk w sb 129 [.slice lo sl.length b,mv,.slice no nx.length a,.slice oo (it nx nx.length) oc,.slice ao nx.length ac,.slice yo nx.length yc,f,e,d,c]/\
  Sl w (dk w) lo b sl/\Sl w (dk w) no a nx/\Sl w (dk w) oo oc (Dg nx nx.length)/\Sl w (dk w) ao ac (ip nx nx.length)/\Sl w (dk w) yo yc (Bt nx nx.length)
def RunAt.up{w':World}{sl:List cO}{nx:List (List cI)}(h:RunAt w B sl nx)(a:Ext w w'):RunAt w' B sl nx:=by obtain⟨lo,g,mv,no,f,oo,oc,ao,ac,yo,yc,e,d,c,b,i,h1,h2,h3,h4,j⟩:=h;exact⟨lo,g,mv,no,f,oo,oc,ao,ac,yo,yc,e,d,c,b,i.ext a,h1.up a,h2.up a,h3.up a,h4.up a,j.up a⟩
def atL_len{nx:List (List cI)}{k:Nat}:(ip nx k).length=k:=by simp[ip]
def manyL_len{nx:List (List cI)}{k:Nat}:(Bt nx k).length=k:=by simp[Bt]
def iq{nx:List (List cI)}{k m:Nat}(h:m<(ip nx k).length):(ip nx k)[m]=((it nx m:Nat):Int):=by simp[ip]
def Bu{nx:List (List cI)}{k m:Nat}(h:m<(Bt nx k).length):(Bt nx k)[m]=((B3 nx m:Nat):Int):=by simp[Bt]
def iw{nx:List (List cI)}(h:∀j,(nx.getD j []).length<=60):∀n,it nx n<=60*n
 |0=>by rw[iB];omega
 |n+1=>by rw[iA];have:=iw h n;have:=h n;unfold B3;omega
def Dm{sl:List cO}{nx:List (List cI)}(b:NxOk sl nx){j:Nat}(hj:j<it nx nx.length):
  ∃n i,n<nx.length/\i<B3 nx n/\j=it nx n+i/\(Dk nx j).2=(n:Int)/\((Dk nx j).1= -1/\nx.getD n []=[]\/0<=(Dk nx j).1/\(Dk nx j).1<sl.length/\i<(nx.getD n []).length/\Dk nx j=(((nx.getD n []).getD i (0,0)).1,(n:Int))):=by
 obtain⟨n,i,hn,hi,rfl⟩:=Dp hj;refine⟨n,i,hn,hi,rfl,?_⟩;rw[Dl hn hi];by_cases h:nx.getD n []=[]
 .rw[Tn h];exact⟨rfl,.inl ⟨rfl,h⟩⟩
 .rw[Tm h];have c:0<(nx.getD n []).length:=P6.2 h;have a:i<(nx.getD n []).length:=by unfold B3 at hi;omega
  have:=b.ed n hn _ (PL a);rw[<-tJ a]at this;exact⟨rfl,.inr ⟨this.1,this.2.1,a,rfl⟩⟩
def gL(w0:World){m:Nat}{sl:List cO}{nx:List (List cI)}(hR:RunAt w0 B sl nx)(n:NxOk sl nx)(I:m<nx.length):
  Rt Vy 49 [Uc B,Ub (m:Int)].toArray w0 λv w'=>Own w' w0.heap.size 3 dh v (gE nx m)/\Ext w0 w':=by
 obtain⟨lo,H,mv,no,G,oo,oc,ao,ac,yo,yc,C,A,z,y,p,h1,h2,h3,h4,x⟩:=hR;have u:=iw n.row m;have r:B3 nx m<=60:=by have:=n.row m;unfold B3;omega
 have d:=n.n;have f:nx.length=(ip nx nx.length).length:=atL_len.symm;have e:nx.length=(Bt nx nx.length).length:=manyL_len.symm;refine dS func49 ntmps49 rfl rfl ?_;refine UN ?_;rw[show Value.slice yo nx.length yc=.slice yo (Bt nx nx.length).length yc by rw[<-e]];refine eZ (i:=m) rfl rfl rfl rfl rfl x TK (Bu _) TV (λq=>?_);refine Uz ?_;refine p8 (S:=Nat×Value) (λs=>[(0,Uc B),(1,Ub m),(5,s.2),(13,Ub ((B3 nx m:Nat):Int)),(14,Ub s.1)])
  (λs w=>s.1<=B3 nx m/\Own w w0.heap.size 3 dh s.2 ((range s.1).map λi:Nat=>((it nx m+i:Nat):Int))/\Ext w0 w) (λs=>B3 nx m -s.1) (0,.slice none 0 0) TJ ⟨RU _,r3,p7 _⟩ ?_
 rintro⟨i,ov⟩ E ⟨hi,b,a⟩
 dsimp only at hi b a⊢
 have p:=p.ext a;refine UR ?_;apply ld rfl<;>intro h
 .have k:i<B3 nx m:=by simp only[Td]at h;omega
  clear h;refine UM ?_;rw[show Value.slice ao nx.length ac=.slice ao (ip nx nx.length).length ac by rw[<-f]];refine eZ (i:=m) rfl rfl rfl rfl rfl (h4.up a) TK (iq _) TV (λq=>?_);refine Vg ?_;refine eF (α:=Int) (F:=dh) (bytes:=8) (yv:=((it nx m:Nat):Int)+(i:Int)) rfl rfl TV rfl rfl TV b T7 a.size TY TN (by unfold maxLen;simp;omega) TR (λov' D q ho2 l o=>?_);have c:(range (i+1)).map (λi:Nat=>((it nx m+i:Nat):Int))=(range i).map (λi:Nat=>((it nx m+i:Nat):Int))++[((it nx m:Nat):Int)+(i:Int)]:=by
   rw[QQ,Qe];simp
  rw[<-c]at ho2
  refine Ui ?_;exact m5 (i+1,ov') TJ ⟨k,ho2,NM a l a.size (λg t=>(b.lt g t).1)⟩ TP
 have j:i=B3 nx m:=by simp only[Tb]at h;omega
 subst j;refine UF ?_;exact be ⟨b,a⟩
def G4(w0:World){j:Nat}{sl:List cO}{nx:List (List cI)}(hR:RunAt w0 B sl nx)(l:NxOk sl nx)(hj:j<it nx nx.length):
  Rt Vy 47 [Uc B,Ub (j:Int)].toArray w0 λv w'=>Own w' w0.heap.size 3 dh v (Cn nx j)/\Ext w0 w':=by
 have L:=hR;obtain⟨lo,lc,mv,no,nc,oo,oc,ao,ac,yo,yc,x1,x2,Z,Y,S,h1,h2,h3,h4,h5⟩:=hR;obtain⟨n,i,hn,hi,W,m,Q⟩:=Dm l hj;have X:=iw l.row n;have G:=l.n;have H:nx.length=(ip nx nx.length).length:=atL_len.symm;have D:it nx nx.length=(Dg nx nx.length).length:=rfl;have I:(Dg nx nx.length)[j]'hj=Dk nx j:=(tJ hj).symm;unfold Cn;refine dS func47 ntmps47 rfl rfl ?_;refine UN ?_;rw[D];refine fd (i:=j) rfl rfl rfl rfl rfl h3 hj TV (λu q b=>?_);rw[I]at b
 rw[Gk b];clear b;skip;refine eC (λw1 f O=>?_);skip;refine f7 f (λd f p=>?_);have e:Ext w0 d:=NM O p O.size TX;have S:=S.ext e;have hR:=L.up e;clear O p;refine Uy ?_;by_cases a:(Dk nx j).1<0
 .rw[Tc a,Tn a]
  refine U4 ?_;refine VN (F:=dh) (ys:=[(j:Int)]) rfl rfl rfl rfl rfl (.cons T7 .nil) (by show 1*1<=16777216;decide) TY (λP E J=>?_);have N:Ext d P:=(NP _ _).grown J T8 T2;refine UX ?_;exact be ⟨E.low e.size,e.trans N⟩
 rw[Ta a,Tm a];rcases Q with⟨Q,_⟩|⟨_,_,c,U⟩
 .omega
 have K:=l.ed n hn _ (PL c);rw[<-tJ c]at K
 have w:KJ nx j=(nx.getD n []).getD i (0,0):=by
  unfold KJ;rw[m,Oy,show j -it nx n=i by omega]
 rw[w];obtain⟨t,R⟩:∃t:Nat,((nx.getD n []).getD i (0,0)).2=(t:Int):=⟨((nx.getD n []).getD i (0,0)).2.toNat,by omega⟩;rw[R,Oy];rw[m]at f
 have g:∀z,(λz:World=>Ext d z) z->Ext d z:=λ_ h=>h
 refine UW ?_;refine aG (λz:World=>Ext d z) [Wr 0,Wr 1,Wr 2,Wr 3,Wr 4,Wr 5,Wr 6,Wr 7,Wr 8,Wr 9,Wr 10,Wr 11,Wr 12,Wr 13,Wr 14,Wr 15,Wr 16,Wr 17,Wr 18,Wr 19,Wr 20,Wr 21,Wr 22,Ws 23,Wr 24] mixed TL (mm d) ?_;refine Vq ?_;refine cd (k:=n) g rfl rfl rfl rfl rfl rfl rfl T0 (h2.up e) hn TV (λu q b=>?_);rw[<-tO hn]at b
 obtain⟨ro,rc,rfl,V⟩:=b.sl;refine Vq ?_;rw[show Value.slice ao nx.length ac=.slice ao (ip nx nx.length).length ac by rw[<-H]];refine cd (k:=n) g rfl rfl rfl rfl rfl rfl rfl T0 (h4.up e) TK TV (λu q b=>?_);rw[iq]at b
 obtain rfl:=b.int;have o:(j:Int) -((it nx n:Nat):Int)=(i:Int):=by omega
 have T:=iw l.row nx.length;refine Vp ?_;rw[o];clear b;have A:(nx.getD n [])[i].2=(t:Int):=by rw[<-tJ c];exact R
 have x:t<nx.length:=by omega
 obtain⟨rb,rf,rfl,C,_,r⟩:=V.edge0 c;rw[A]at r
 refine cf (α:=cI) rfl rfl rfl rfl rfl TK TK ?_;refine Vo ?_;refine Wj (α:=Int) (F:=dh) (y:=(t:Int)) g rfl rfl rfl rfl C TY (by rw[Oy];exact r) rfl ?_;rw[show Me Int [Ub (t:Int)]=Ub (t:Int) from rfl];have M:=mm d;refine cy rfl (eK (gL (drew d) (hR.up M) l x) ?_);rintro v P ⟨E,N⟩
 have s:=M.trans N;refine p0 (a8 s ?_);refine Vr ?_;refine UQ ?_;exact d6 ⟨E.low (by have:=M.size;have:=e.size;omega),e.trans s⟩
def G1(w0:World){j:Nat}{sl:List cO}{nx:List (List cI)}(hR:RunAt w0 B sl nx)(l:NxOk sl nx)(hj:j<it nx nx.length):
  Rt Vy 48 [Uc B,Ub (j:Int)].toArray w0 λv w'=>v=.int .u64 ((Av sl nx j:Nat):Int)/\Av sl nx j<18446744073709551616/\Ext w0 w':=by
 obtain⟨lo,G,mv,no,E,oo,oc,ao,ac,yo,yc,C,A,z,x,H,h1,h2,h3,h4,I⟩:=hR;obtain⟨n,i,hn,hi,t,o,h⟩:=Dm l hj;have f:(Dg nx nx.length)[j]'hj=Dk nx j:=(tJ hj).symm;obtain⟨ob,off,rfl,e,b,g⟩:=h3.edge0 hj;rw[f]at b g;unfold Av;refine dS func48 ntmps48 rfl rfl (UN ?_);refine fk (α:=cI) rfl rfl rfl rfl TK TK (Va ?_);refine WL.load (α:=Int) (F:=dh) (y:=(Dk nx j).1) rfl rfl rfl (by rw[Oy];exact b) rfl ?_;rw[show Me Int [Ub (Dk nx j).1]=Ub (Dk nx j).1 from rfl];refine Ug ?_;by_cases a:(Dk nx j).1<0
 .rw[Tc a,Tn a];refine Us ?_;exact d6 ⟨rfl,by decide,p7 _⟩
 rw[Ta a,Tm a];obtain⟨h,_⟩|⟨g0,g1,u,m⟩:=h
 .omega
 obtain⟨k,r⟩:∃k:Nat,(Dk nx j).1=(k:Int):=⟨(Dk nx j).1.toNat,by omega⟩;rw[r]at b g1⊢;rw[Oy];have c:k<sl.length:=by omega
 obtain⟨lb,lf,rfl,hlb,d⟩:=h1.step0 c;have q:=l.node _ (PL c);rw[tP c];obtain⟨s,p⟩:∃s:Nat,sl[k].1=(s:Int):=⟨(sl[k].1).toNat,by omega⟩;rw[p]at d⊢;rw[Oy];refine U8 ?_;refine dB (α:=cI) rfl rfl rfl rfl TK TK (Vi ?_);refine V2 (α:=Int) (F:=dh) (y:=(k:Int)) rfl rfl rfl e TY (by rw[Oy];exact b) rfl ?_;rw[show Me Int [Ub (k:Int)]=Ub (k:Int) from rfl];refine dB (α:=cO) rfl rfl rfl rfl TK TK (Vi ?_);refine V2 (α:=Int) (F:=dh) (y:=(s:Int)) rfl rfl rfl hlb TY (by rw[Oy];exact d) rfl ?_;rw[show Me Int [Ub (s:Int)]=Ub (s:Int) from rfl];refine U_ ?_;rw[IS (show s<62 by omega)];refine VD λD w=>UQ ?_;refine d6 ⟨rfl,?_,w⟩;have h2:(2:Nat) ^ s<2 ^ 64:=RM TN TK;exact h2
def hY{l:List cI}{p:cI->Bool}{i:Nat}(h:i<l.length):(l.take (i+1)).any p=((l.take i).any p||p l[i]):=by rw[QY,Pq h,OC];simp
def qu(w0:World){k:Nat}{sl:List cO}{nx:List (List cI)}(hR:RunAt w0 B sl nx)(H:NxOk sl nx):
  Rt Vy 50 [Uc B,Ub (k:Int)].toArray w0 λv w'=>Own w' w0.heap.size 3 dh v (ql nx (k:Int))/\Ext w0 w':=by
 obtain⟨lo,lc,mv,no,nc,oo,oc,ao,ac,yo,yc,x1,x2,x3,x4,Y,h1,h2,h3,h4,h5⟩:=hR;have hat:=iw H.row nx.length;have L:=H.n;have hol:(Dg nx nx.length).length=it nx nx.length:=rfl;refine dS func50 ntmps50 rfl rfl ?_;refine UE ?_;refine p8 (S:=Nat×Value) (λs=>[(0,Uc B),(1,Ub k),(5,s.2),(14,.slice oo (Dg nx nx.length).length oc),(15,Ub (it nx nx.length:Nat)),(16,Ub s.1)])
  (λs w=>s.1<=it nx nx.length/\Own w w0.heap.size 3 dh s.2 (qn nx (k:Int) s.1)/\Ext w0 w) (λs=>it nx nx.length -s.1) (0,.slice none 0 0) TJ ⟨RU _,r3,p7 _⟩ ?_
 rintro⟨j,ov⟩ X ⟨N,z,D⟩
 dsimp only at N z D⊢
 refine UR ?_;apply ld rfl<;>intro h
 .have hj:j<it nx nx.length:=by simp only[Td]at h;omega
  clear h;have O:(Dg nx nx.length)[j]'hj=Dk nx j:=(tJ hj).symm;obtain⟨n,i,hn,hi,hji,x,hx⟩:=Dm H hj;have hfl:=qp (nx:=nx) (k:=(k:Int)) (n:=j);have a:=qq (nx:=nx) (k:=(k:Int)) (n:=j);refine UB ?_;refine fd (i:=j) rfl rfl rfl rfl rfl (h3.up D) hj TV (λu q d=>?_);rw[O]at d
  rw[Gk d];clear d;skip;refine eC (λw2 b T=>?_);refine U9 ?_;refine f7 b (λw3 b C=>?_);have R:Ext X w3:=NM T C T.size TX;have E:=D.trans R;have Y:=Y.ext E;have ho3:=z.extN R;clear T C;rw[x]at b
  have f:jS nx j (k:Int)=(nx.getD n []).any λy=>y.1==(k:Int):=by unfold jS;rw[x,Oy]
  refine U6 ?_;refine dz (i:=n) rfl rfl rfl rfl rfl T0 (h2.up E) hn TV (λu q d=>?_);rw[<-tO hn]at d
  obtain⟨ro,rc,rfl,hr⟩:=d.sl;clear d;refine Vd ?_;refine VD λw4 I=>?_
  have V:=R.trans I;have K:=hr.up I;have b:=b.ext I;have ho4:=ho3.extN I;have hrl:=H.row n;generalize nx.getD n []=row at*
  refine UC ?_;refine p8 (S:=Nat) (λs=>[(0,Uc B),(1,Ub k),(5,ov),(6,Ub j),(7,Uc X.heap.size),(8,.bool ((row.take s).any λy=>y.1==(k:Int))),(14,.slice oo (Dg nx nx.length).length oc),(15,Ub (it nx nx.length:Nat)),(16,Ub j),(29,.slice ro row.length rc),(30,Ub row.length),(31,Ub s)])
   (λs w=>s<=row.length/\Ext w4 w) (λs=>row.length -s) 0 TJ ⟨RU _,p7 _⟩ ?_
  rintro r w5 ⟨hr0,t⟩
  refine UR ?_;apply ld rfl<;>intro h
  .have e:r<row.length:=by simp only[Td]at h;omega
   clear h;have m:=hY (p:=λy=>y.1==(k:Int)) e;refine UC ?_;refine fd (i:=r) rfl rfl rfl rfl rfl (K.up t) e TV (λu q d=>?_);rw[Gk d];clear d;generalize row[r]=ed at*
   generalize (row.take r).any (λy=>y.1==(k:Int))=can at*
   skip;refine eC (λW l e6=>?_);skip;refine f7 l (λw7 l P=>?_);have Z:Ext w5 w7:=NM e6 P e6.size TX;cases can with
   |true=>
    refine UA ?_;refine m5 (r+1) ?_ ⟨e,t.trans Z⟩ TK;rw[m,N_];exact TJ
   |false=>
    refine UL ?_;refine m5 (r+1) ?_ ⟨e,t.trans Z⟩ TK;rw[m,NX];exact TJ
  have J:r=row.length:=by simp only[Tb]at h;omega
  subst J;rw[Q0,<-f];have b:=b.ext t;have ho5:=ho4.extN t;have U:=V.trans t;have c:=D.trans U;unfold yy at a
  clear h f;generalize jS nx j (k:Int)=can at*
  have app:∀(hf:qn nx (k:Int) (j+1)=qn nx (k:Int) j++[(j:Int)]),True:=λ_=>trivial
  cases can with
  |false=>
   rw[N0,N_,Tn rfl]at a
   refine UL ?_;refine eF (α:=Int) (F:=dh) (bytes:=8) (yv:=(j:Int)) rfl rfl TV rfl rfl TV ho5 T7 c.size TY TN TQ TK (λov' W q ho6 o A=>?_);rw[<-a]at ho6
   refine Ui ?_;exact m5 (j+1,ov') TJ ⟨hj,ho6,NM c o c.size (λg Q=>(z.lt g Q).1)⟩ TP
  |true=>
   rw[N4,NX]at a
   refine UU ?_;by_cases G:(Dk nx j).1=(k:Int)
   .rw[show((Dk nx j).1==(k:Int))=true by rw[G];exact S4 _,Tn rfl]at a
    rw[show((Dk nx j).1==(k:Int))=true by rw[G];exact S4 _];refine U4 ?_;refine eF (α:=Int) (F:=dh) (bytes:=8) (yv:=(j:Int)) rfl rfl TV rfl rfl TV ho5 T7 c.size TY TN TQ TK (λov' W q ho6 o A=>?_);rw[<-a]at ho6
    refine Ui ?_;exact m5 (j+1,ov') TJ ⟨hj,ho6,NM c o c.size (λg Q=>(z.lt g Q).1)⟩ TP
   .rw[show((Dk nx j).1==(k:Int))=false by simpa using G,Tm TO,OH]at a
    rw[show((Dk nx j).1==(k:Int))=false by simpa using G];rw[<-a]at ho5
    refine US ?_;exact m5 (j+1,ov) TJ ⟨hj,ho5,c⟩ TP
 have M:j=it nx nx.length:=by simp only[Tb]at h;omega
 subst M;refine UF ?_;exact be ⟨z,D⟩
def fJ{n:Nat}{σ:Sg}{rest:List Oper}{d:Nat}{ty:TypeId}{g:Option (Nat×Bool)}{x y:Operand}{a c:Int}
  (k:gd L σ ⟨some d,.call ⟨.builtin .max,#[x,y],I⟩,ty,H,j,g⟩=some true) (hd:ble (d+1) n=true) (i:ev σ x=some (Ub a)) (f:ev σ y=some (Ub c))
  (h:WL P L Q rest n ((d,Ub (max a c))::σ) w):WL P L Q (⟨some d,.call ⟨.builtin .max,#[x,y],I⟩,ty,H,j,g⟩::rest) n σ w:=by
 refine VG k hd (λu b=>?_) h;have e:(if a<c then c else a)=max a c:=by omega
 simp[execOp,resolve,invoke,builtin,b.ev i,b.ev f,run_max_int2,e]
structure Fld3(w:World)(B sb:Nat)(ov av yv:Value)(os:List cI)(bs ys:List Int):Prop where
 o:Own w B 149 dh ov os
 a:Own w B 3 dh av bs
 y:Own w B 3 dh yv ys
 oa:∀g,ov.ownBlock=some g->av.ownBlock≠some g
 oy:∀g,ov.ownBlock=some g->yv.ownBlock≠some g
 ay:∀g,av.ownBlock=some g->yv.ownBlock≠some g
 sb:sb<B
section
variable {w w0 w1 w2:World}{B sb:Nat}{ov av yv ov' av' yv':Value}{os os':List cI}{bs ys bs' ys':List Int}
theorem Fld3.ext(h:Fld3 w B sb ov av yv os bs ys)(a:Ext w w1):Fld3 w1 B sb ov av yv os bs ys:=⟨h.o.extN a,h.a.extN a,h.y.extN a,h.oa,h.oy,h.ay,h.sb⟩
theorem Fld3.setO(h:Fld3 w B sb ov av yv os bs ys)(k:B=w0.heap.size)(j:Chg (λb=>b=sb) w0 w)(f:Own w1 B 149 dh ov' os')(a:w.grownBy w1 ov.ownBlock)(hnb:∀g,ov'.ownBlock=some g->ov.ownBlock=some g\/w.heap.size<=g)(c:w1.grownBy w2 (some sb)):
  Fld3 w2 B sb ov' av yv os' bs ys/\Chg (λb=>b=sb) w0 w2:=by
 have d:=h.sb;refine⟨⟨f.keptN c (λg a e=>by have:=(f.lt g a).1;have:=R4 e;omega),(h.a.keptN a (λg a e=>h.oa g e.symm a)).keptN c (λg a e=>by have:=(h.a.lt g a).1;have:=R4 e;omega),(h.y.keptN a (λg a e=>h.oy g e.symm a)).keptN c (λg a e=>by have:=(h.y.lt g a).1;have:=R4 e;omega),λg a e=>?_,λg a e=>?_,h.ay,d⟩,?_⟩
 .obtain h1|h1:=hnb g a
  .exact h.oa g h1 e
  .have:=(h.a.lt g e).2.1;omega
 .obtain h1|h1:=hnb g a
  .exact h.oy g h1 e
  .have:=(h.y.lt g e).2.1;omega
 .exact(j.then (VC a) (λb i=>.inr (by have:=(h.o.lt b i).1;omega))).grown c (λg a=>by cases a;rfl)
theorem Fld3.setA(h:Fld3 w B sb ov av yv os bs ys)(k:B=w0.heap.size)(j:Chg (λb=>b=sb) w0 w)(f:Own w1 B 3 dh av' bs')(a:w.grownBy w1 av.ownBlock)(hnb:∀g,av'.ownBlock=some g->av.ownBlock=some g\/w.heap.size<=g)(c:w1.grownBy w2 (some sb)):
  Fld3 w2 B sb ov av' yv os bs' ys/\Chg (λb=>b=sb) w0 w2:=by
 have d:=h.sb;refine⟨⟨(h.o.keptN a (λg a e=>h.oa g a e.symm)).keptN c (λg a e=>by have:=(h.o.lt g a).1;have:=R4 e;omega),f.keptN c (λg a e=>by have:=(f.lt g a).1;have:=R4 e;omega),(h.y.keptN a (λg a e=>h.ay g e.symm a)).keptN c (λg a e=>by have:=(h.y.lt g a).1;have:=R4 e;omega),λg a e=>?_,h.oy,λg a e=>?_,d⟩,?_⟩
 .obtain h1|h1:=hnb g e
  .exact h.oa g a h1
  .have:=(h.o.lt g a).2.1;omega
 .obtain h1|h1:=hnb g a
  .exact h.ay g h1 e
  .have:=(h.y.lt g e).2.1;omega
 .exact(j.then (VC a) (λb i=>.inr (by have:=(h.a.lt b i).1;omega))).grown c (λg a=>by cases a;rfl)
theorem Fld3.setY(h:Fld3 w B sb ov av yv os bs ys)(k:B=w0.heap.size)(j:Chg (λb=>b=sb) w0 w)(f:Own w1 B 3 dh yv' ys')(a:w.grownBy w1 yv.ownBlock)(hnb:∀g,yv'.ownBlock=some g->yv.ownBlock=some g\/w.heap.size<=g)(c:w1.grownBy w2 (some sb)):
  Fld3 w2 B sb ov av yv' os bs ys'/\Chg (λb=>b=sb) w0 w2:=by
 have d:=h.sb;refine⟨⟨(h.o.keptN a (λg a e=>h.oy g a e.symm)).keptN c (λg a e=>by have:=(h.o.lt g a).1;have:=R4 e;omega),(h.a.keptN a (λg a e=>h.ay g a e.symm)).keptN c (λg a e=>by have:=(h.a.lt g a).1;have:=R4 e;omega),f.keptN c (λg a e=>by have:=(f.lt g a).1;have:=R4 e;omega),h.oa,λg a e=>?_,λg a e=>?_,d⟩,?_⟩
 .obtain h1|h1:=hnb g e
  .exact h.oy g a h1
  .have:=(h.o.lt g a).2.1;omega
 .obtain h1|h1:=hnb g e
  .exact h.ay g a h1
  .have:=(h.a.lt g a).2.1;omega
 .exact(j.then (VC a) (λb i=>.inr (by have:=(h.y.lt b i).1;omega))).grown c (λg a=>by cases a;rfl)
end
def ir{nx:List (List cI)}{k:Nat}:ip nx (k+1)=ip nx k++[((it nx k:Nat):Int)]:=by unfold ip;rw[QQ,Qe];rfl
def Bv{nx:List (List cI)}{k:Nat}:Bt nx (k+1)=Bt nx k++[((B3 nx k:Nat):Int)]:=by unfold Bt;rw[QQ,Qe];rfl
def JG(w0:World){mV W V U T:Value}{nx:List (List cI)}
  (c:Blk w0 B 129 [A,mV,.slice C nx.length a,.slice none 0 0,.slice none 0 0,.slice none 0 0,W,V,U,T]) (hn:Sl w0 F C a nx) (hF:∀b,F b->b<w0.heap.size/\b≠B) (G:∀j,(nx.getD j []).length<=60) (hn200:nx.length<=200):
  Rt Vy 46 [Uc B].toArray w0 λv w'=>v=.bool (decide (it nx nx.length<=600))/\∃ov av yv,Blk w' B 129 [A,mV,.slice C nx.length a,ov,av,yv,W,V,U,T]/\
   Fld3 w' w0.heap.size B ov av yv (Dg nx nx.length) (ip nx nx.length) (Bt nx nx.length)/\Chg (λb=>b=B) w0 w':=by
 have Y:=c.lt;refine dR func46 ntmps46 rfl rfl (UE ?_);refine p8 (S:=Nat×Value×Value×Value) (λs=>[(0,Uc B),(11,.slice C nx.length a),(12,Ub nx.length),(13,Ub s.1)])
  (λs w=>s.1<=nx.length/\Blk w B 129 [A,mV,.slice C nx.length a,s.2.1,s.2.2.1,s.2.2.2,W,V,U,T]/\Fld3 w w0.heap.size B s.2.1 s.2.2.1 s.2.2.2 (Dg nx s.1) (ip nx s.1) (Bt nx s.1)/\Chg (λb=>b=B) w0 w)
  (λs=>nx.length -s.1) (0,.slice none 0 0,.slice none 0 0,.slice none 0 0) TJ ⟨RU _,c,⟨r3,r3,r3,(λg p=>by cases p),(λg p=>by cases p),(λg p=>by cases p),Y⟩,VM _ _⟩ ?_
 clear c;rintro⟨n,ov,av,yv⟩ w1 ⟨hi,c,hf,d⟩;dsimp only at hi c hf d⊢;have z1:=d.size;obtain⟨oo,oc,rfl⟩:=hf.o.val;have hatn:=iw G n;have K:(Dg nx n).length=it nx n:=rfl;rw[K]at c;refine UR ?_;apply ld rfl<;>intro h
 .have N:n<nx.length:=by simp only[Td]at h;omega
  clear h;have hnF:∀{w:World},Chg (λb=>b=B) w0 w->Sl w F C a nx:=λh=>hn.mono (λb c=>h.block b (hF b c).1 (hF b c).2) T0;have hFl:∀{w:World},Chg (λb=>b=B) w0 w->∀b,F b->b<w.heap.size:=λh b c=>Rv (hF b c).1 h.size;obtain⟨ao,ac,rfl⟩:=hf.a.val;have M:=λg p=>hf.a.lt g p;have hal:(ip nx n).length=n:=atL_len;have hrl:=G n;refine UB ?_;refine fd (i:=n) rfl rfl rfl rfl rfl (hnF d) N TV (λu q R=>?_);rw[<-tO N]at R;obtain⟨X,rc,rfl,hr⟩:=R.sl;clear R;refine UR ?_;have t:Ext w1 (drew w1):=mm w1;have E:=c.ext t;have hKs:∀u,(λz:World=>∀b,b<w1.heap.size->(Value.slice ao (ip nx n).length ac).ownBlock≠some b->z.heap[b]?=(drew w1).heap[b]?) u->u.heap[B]?=(drew w1).heap[B]?:=λu h=>h _ TK (λe=>by have:=M _ e;omega);refine aF (λz:World=>∀b,b<w1.heap.size->(Value.slice ao (ip nx n).length ac).ownBlock≠some b->z.heap[b]?=(drew w1).heap[b]?) [Wr 0,Wr 1,Wr 2,Wr 3,Wr 4,Wr 5,Wr 6,Wr 7,Wr 8,Wr 9,Ws 10,Ws 11,Ws 12,Ws 13] 14 mixed TL (λ_ _ _=>rfl) (Vp ?_);refine bW (α:=Int) (F:=dh) (bytes:=8) (yv:=((it nx n:Nat):Int)) rfl rfl rfl rfl TV rfl rfl TV (hf.a.extN t) T7 (by have:=t.size;omega) TY TN TQ TK
   (λz hz b c f=>hz.block b c (λe=>f e.symm)) (λav' w2 q2 ho2 D H=>?_)
  rw[<-ir]at ho2;have hb2:=E.kept D (λe=>by have:=M _ e.symm;omega);have P:(λz:World=>∀b,b<w1.heap.size->(Value.slice ao (ip nx n).length ac).ownBlock≠some b->z.heap[b]?=(drew w1).heap[b]?) w2:=λb c f=>D.block b c (λe=>f e.symm);obtain⟨ao',ac',rfl⟩:=ho2.val;refine cy rfl (fQ rfl rfl rfl (p0 (a8 P (cy rfl (fj rfl rfl rfl (p0 (a8 P (VK (bu rfl (f7 hb2 (λw3 hb3 hg3=>p0 (bx ?_))))))))))));obtain⟨hf3,Q⟩:=(hf.ext t).setA rfl (d.trans (t1 _ t)) ho2 D H hg3;have hr3:Sl w3 F X rc (nx.getD n []):=hr.mono (λb c=>(Q.block b (hF b c).1 (hF b c).2).trans (d.block b (hF b c).1 (hF b c).2).symm) T0;clear hKs P t E hb2 D hg3 ho2 H hf M d c hr z1;have Z:Dg nx (n+1)=Dg nx n++Di (nx.getD n []) n:=Dh;have hmn:Bt nx (n+1)=Bt nx n++[((max 1 (nx.getD n []).length:Nat):Int)]:=Bv;generalize nx.getD n []=row at*;have hrF:∀{w:World},Chg (λb=>b=B) w0 w->Sl w F X rc row:=λh=>hr3.mono (λb c=>(h.block b (hF b c).1 (hF b c).2).trans (Q.block b (hF b c).1 (hF b c).2).symm) T0;apply bA;refine Ut ?_;refine p8 (S:=Nat×Value) (λs=>[(0,Uc B),(3,Ub n),(4,.slice X row.length rc),(11,.slice C nx.length a),(12,Ub nx.length),(13,Ub n),(32,.slice X row.length rc),(33,Ub row.length),(34,Ub s.1)])
   (λs w=>s.1<=row.length/\Blk w B 129 [A,mV,.slice C nx.length a,s.2,.slice ao' (ip nx (n+1)).length ac',yv,W,V,U,T]/\Fld3 w w0.heap.size B s.2 (.slice ao' (ip nx (n+1)).length ac') yv (Dg nx n++(row.take s.1).map λx=>(x.1,(n:Int))) (ip nx (n+1)) (Bt nx n)/\Chg (λb=>b=B) w0 w)
   (λs=>row.length -s.1) (0,.slice oo (Dg nx n).length oc) TJ ⟨RU _,hb3,by simpa using hf3,Q⟩ ?_
  clear hb3 hf3;rintro⟨r,ov⟩ w4 ⟨hr0,c,hf,d⟩;dsimp only at hr0 c hf d⊢;have z4:=d.size;refine UR ?_;apply ld rfl<;>intro h
  .have I:r<row.length:=by simp only[Td]at h;omega
   clear h;have hnx:Dg nx n++(row.take (r+1)).map (λx:cI=>(x.1,(n:Int)))=(Dg nx n++(row.take r).map (λx:cI=>(x.1,(n:Int))))++[(row[r].1,(n:Int))]:=by rw[QY,Pq I,Qe,OG];rfl
   have hln:(Dg nx n++(row.take r).map (λx:cI=>(x.1,(n:Int)))).length=it nx n+r:=by rw[PX,P4,Qb,K];omega
   obtain⟨oo,oc,rfl⟩:=hf.o.val;have o:=λg p=>hf.o.lt g p;refine UC ?_;refine fd (i:=r) rfl rfl rfl rfl rfl (hrF d) I TV (λu q R=>?_);rw[Gk R];clear R;generalize row[r]=ed at*;refine eC (λw5 k e5=>?_);refine f7 k (λl k m=>?_);have e6:Ext w4 l:=NM e5 m e5.size TX;have z6:=e6.size;have c:=c.ext e6;have hf:=hf.ext e6;have d:=d.trans (t1 _ e6);have l6:=k.lt;clear e5 m;have t:Ext l (drew l):=mm l;have E:=c.ext t;have hb6d:=k.ext t;generalize hOV:Dg nx n++(row.take r).map (λx:cI=>(x.1,(n:Int)))=OV at*;have hKs:∀u,(λz:World=>∀b,b<l.heap.size->(Value.slice oo OV.length oc).ownBlock≠some b->z.heap[b]?=(drew l).heap[b]?) u->u.heap[B]?=(drew l).heap[B]?:=λu h=>h _ TK (λe=>by have:=o _ e;omega);have hK6:∀u,(λz:World=>∀b,b<l.heap.size->(Value.slice oo OV.length oc).ownBlock≠some b->z.heap[b]?=(drew l).heap[b]?) u->u.heap[w4.heap.size]?=(drew l).heap[w4.heap.size]?:=λu h=>h _ TK (λe=>by have:=(o _ e).2.1;omega);refine UG ?_;refine aF (λz:World=>∀b,b<l.heap.size->(Value.slice oo OV.length oc).ownBlock≠some b->z.heap[b]?=(drew l).heap[b]?) [Wr 0,Wr 1,Wr 2,Wr 3,Wr 4,Wr 5,Wr 6,Wr 7,Wr 8,Ws 9,Ws 10,Ws 11,Ws 12] 13 mixed TL (λ_ _ _=>rfl) (Vp ?_);refine bW (α:=cI) (F:=dh) (bytes:=16) (yv:=(ed.1,(n:Int))) rfl rfl rfl rfl TV rfl rfl TV (hf.o.extN t) (VZ (c1:=[Ub ed.1]) (c2:=[Ub (n:Int)]) (Gn _ _ _) (Gn _ _ _)) (by have:=t.size;omega) TY TN TQ TK
    (λz hz b c f=>hz.block b c (λe=>f e.symm)) (λov' w7 q2 ho7 y hnb7=>?_)
   rw[<-hnx]at ho7;have O:=E.kept y (λe=>by have:=o _ e.symm;omega);have hS7:(λz:World=>∀b,b<l.heap.size->(Value.slice oo OV.length oc).ownBlock≠some b->z.heap[b]?=(drew l).heap[b]?) w7:=λb c f=>y.block b c (λe=>f e.symm);obtain⟨oo',oc',rfl⟩:=ho7.val;refine cy rfl (fQ rfl rfl rfl (p0 (a8 hS7 (cy rfl (fj rfl rfl rfl (p0 (a8 hS7 (VK (bu rfl (f7 O (λw8 hb8 hg8=>p0 (bx ?_))))))))))));obtain⟨hf8,hC8⟩:=(hf.ext t).setO rfl (d.trans (t1 _ t)) ho7 y hnb7 hg8;refine Ui ?_;exact m5 (r+1,_) TJ ⟨I,hb8,hf8,hC8⟩ TP
  have hre:r=row.length:=by simp only[Tb]at h;omega
  subst hre;rw[Q0]at hf;clear h;have hln:(Dg nx n++row.map (λx:cI=>(x.1,(n:Int)))).length=it nx n+row.length:=by rw[PX,P4,K]
  obtain⟨oo,oc,rfl⟩:=hf.o.val;have o:=λg p=>hf.o.lt g p;apply CW.exit
  repeat (first|apply bC|apply aY|apply bA)
  refine aC (S:=Option Addr×Nat) (λ_=>[(0,Uc B),(4,.slice X row.length rc),(11,.slice C nx.length a),(12,Ub nx.length),(13,Ub n)])
   (λs w=>Blk w B 129 [A,mV,.slice C nx.length a,.slice s.1 (Dg nx (n+1)).length s.2,.slice ao' (ip nx (n+1)).length ac',yv,W,V,U,T]/\Fld3 w w0.heap.size B (.slice s.1 (Dg nx (n+1)).length s.2) (.slice ao' (ip nx (n+1)).length ac') yv (Dg nx (n+1)) (ip nx (n+1)) (Bt nx n)/\Chg (λb=>b=B) w0 w) ?_ ?_
  .by_cases h0:row=[]
   .have J:Dg nx (n+1)=(Dg nx n++row.map (λx:cI=>(x.1,(n:Int))))++[(-1,(n:Int))]:=by rw[Z];unfold Di;rw[Tn h0,h0];simp
    have L:((row.length:Int)==0)=true:=by rw[h0];rfl
    generalize Dg nx n++row.map (λx:cI=>(x.1,(n:Int)))=OV at*;refine Ut ?_;rw[L];refine UN ?_;refine r4 rfl rfl rfl rfl (eF (α:=cI) (F:=dh) (bytes:=16) (yv:=(-1,(n:Int))) rfl rfl TV rfl rfl TV hf.o (VZ (c1:=[Ub (-1)]) (c2:=[Ub (n:Int)]) (Gn _ _ _) (Gn _ _ _)) z4 TY TN TQ TK (λov' w5 q ho5 hg5 hnb5=>?_));rw[<-J]at ho5;have hb5:=c.kept hg5 (λe=>by have:=o _ e.symm;omega);obtain⟨oo',oc',rfl⟩:=ho5.val;refine Vg ?_;refine f7 hb5 (λl k m=>?_);obtain⟨hf6,hC6⟩:=hf.setO rfl d ho5 hg5 hnb5 m;refine UG ?_;exact aV (oo',oc') TJ ⟨k,hf6,hC6⟩
   .have J:Dg nx (n+1)=Dg nx n++row.map (λx:cI=>(x.1,(n:Int))):=by rw[Z];unfold Di;rw[Tm h0]
    have L:((row.length:Int)==0)=false:=by
     have:0<row.length:=P6.2 h0;have:(row.length:Int)≠0:=by omega
     simpa using this
    rw[<-J]at hf c;refine Ut ?_;rw[L];refine UW ?_;exact aV (oo,oc) TJ ⟨c,hf,d⟩
  clear c hf o d z4;rintro⟨oo,oc⟩ w5 ⟨c,hf,d⟩;dsimp only at c hf d;have z5:=d.size;obtain⟨yo,yc,rfl⟩:=hf.y.val;have hly:=λg p=>hf.y.lt g p;have hyl:(Bt nx n).length=n:=manyL_len;refine UE ?_;refine fJ rfl rfl rfl rfl ?_;rw[show max (1:Int) (row.length:Int)=((max 1 row.length:Nat):Int) by omega];refine eF (α:=Int) (F:=dh) (bytes:=8) (yv:=((max 1 row.length:Nat):Int)) rfl rfl TV rfl rfl TV hf.y T7 z5 TY TN TQ TK (λyv' l q ho6 m hnb6=>?_);rw[<-hmn]at ho6;have k:=c.kept m (λe=>by have:=hly _ e.symm;omega);obtain⟨yo',yc',rfl⟩:=ho6.val;refine Vg ?_;refine f7 k (λw7 O y=>?_);obtain⟨hf7,hC7⟩:=hf.setY rfl d ho6 m hnb6 y;refine Ui ?_;exact m5 (n+1,_,_,_) TJ ⟨N,O,hf7,hC7⟩ TP
 have f:n=nx.length:=by simp only[Tb]at h;omega
 subst f;have hde:decide (((it nx nx.length:Nat):Int)<=600)=decide (it nx nx.length<=600):=by
  by_cases h:it nx nx.length<=600
  .rw[Tc h,Tc TK]
  .rw[Ta h,Ta TK]
 rw[<-hde];refine UU ?_;exact be ⟨rfl,_,_,_,c,hf,d⟩
def GG{u s:Nat}(h:z.results=#[.cell a t,.tmp u,.tmp s])(tmps:Array Value)(P:Program)(w:World){p:Addr}(b:tmps.getD a undef=.pointer (some p))(c:(loadVar t p).run P w=.ok v w):
  (results z tmps).run P w=.ok (.tuple ⟨[v,tmps.getD u undef,tmps.getD s undef]⟩) w:=by
 simp only[Ny]at b⊢;simp[results,h,b,asAddr,c]
def bj{n:Nat}{σ:Sg}{b u s:Nat}{e:TypeId}{k:Nat}{x y:Value}(p:z.results=#[.cell a t,.tmp u,.tmp s])(B:fnd σ a=some (Uc b))(l:fnd σ u=some x)(o:fnd σ s=some y)[q:IsC P t k true](A:Blk w b e r)(m:AN r=k)(h:c (.tuple ⟨[.agg r.toArray,x,y]⟩) w):
  EX (bodyPost P z λe w'=>∃v,e=.returned v/\c v w') .ret n σ w:=by
 unfold EX;intro ac d;refine S7 (GG p _ _ _ (d.slot a _ B) (v:=.agg r.toArray) ?_) d.defers ⟨_,by rw[d.slot u x l,d.slot s y o],h⟩;rw[AO]at m;have f:=Tx (P:=P) w ⟨b,0,none⟩ r (λj u l=>by rw[SW,RT];exact A.cell l);obtain⟨i,dd,h1,h2,h3,h4⟩:=q.ok;have g:(isAgg t).run P w=.ok true w:=by unfold isAgg;rw[Sb,TA h3 w,<-h4];cases dd<;>rfl
 rw[m]at f;simp[loadVar,g,sizeOf,typeInfo,h1,h2,f]
structure WorldAt(w:World)(F:Nat->Prop)(v:Value)(A:cS):Prop where
 ok:∃a1 c1 a2 c2 a3 c3 a4 c4,v=M5 a1 c1 a2 c2 a3 c3 a4 c4 A.1.length A.2.1.length A.2.2.1.length A.2.2.2.length/\Sl w F a1 c1 A.1/\Sl w F a2 c2 A.2.1/\Sl w F a3 c3 A.2.2.1/\Sl w F a4 c4 A.2.2.2
def F3{f:Nat->α}{n:Nat}:(range (n+1)).map f=(range n).map f++[f n]:=by rw[QQ,Qe];rfl
def Cu(w:World)(F:Nat->Prop):WorldAt w F (.agg #[.slice none 0 0,.slice none 0 0,.slice none 0 0,.slice none 0 0]) Ct:=
 ⟨none,0,none,0,none,0,none,0,rfl,v1 w _,v1 w _,v1 w _,v1 w _⟩
def HW(w0:World){so fo:Option Addr}{sc fc:Nat}{ns:List cK}{fl:List cJ}(hs:Sl w0 (dk w0) so sc ns)(hf:Sl w0 (dk w0) fo fc fl)(tok st:Int):
  Rt Vy 21 [FC so sc fo fc ns.length fl.length,Ub tok,Ub st].toArray w0 λv w'=>(∃x oo oc,v=.tuple ⟨[x,.slice oo (HT (ns,fl) tok st).1.2.length oc,Ub (HT (ns,fl) tok st).2]⟩/\WorldAt w' (dk w') x (HT (ns,fl) tok st).1.1/\Sl w' (dk w') oo oc (HT (ns,fl) tok st).1.2)/\Ext w0 w':=by
 refine dT func21 ntmps21 rfl rfl ?_;have U:=p7 w0;refine UZ ?_;refine eH λw1 Y e1=>?_
 have U:=U.trans e1;skip;refine eC (λw2 C e2=>?_);have Y:=Y.ext e2;have U:=U.trans e2;have l1:=Y.lt;have l2:=C.lt;have z1:=e1.size;unfold HT;refine UD ?_;refine eK (bH w2 (hs.up U) (hf.up U) tok st) ?_;rintro _ w3 ⟨mv,nv,rfl,hmv,hnv,e3⟩
 have Y:=Y.ext e3;have C:=C.ext e3;have U:=U.trans e3;have hnx:=qe (p:=(ns,fl)) (tok:=tok) (st:=st);have hexl:=qd (p:=(ns,fl)) (tok:=tok) (st:=st);generalize qa (ns,fl) tok st=r1 at*
 obtain⟨⟨ml,nx⟩,x1⟩:=r1;dsimp only at hmv hnv hnx hexl⊢
 obtain⟨mo,mc,rfl,hms⟩:=hmv.sl;obtain⟨no,nc,rfl,hns⟩:=hnv.sl;clear hmv hnv;refine U9 ?_;refine eC (λw4 hb9 e4=>?_);skip;refine f7 hb9 (λi hb9 hg5=>?_);have e5:Ext w3 i:=NM e4 hg5 e4.size TX;have Y:=Y.ext e5;have C:=C.ext e5;have U:=U.trans e5;have hns:=hns.up e5;have z3:=e3.size;have z5:=e5.size;clear e1 e2 e3 e4 e5 hg5 hms;by_cases hx:x1=0
 case neg=>
  have d:(x1 != 0)=true:=by simpa using hx
  rw[Tn hx];refine UR ?_;rw[d];refine U4 ?_;refine r4 (parts:=[]) rfl rfl rfl rfl ?_;refine U9 ?_;refine f7 C (λw6 C hg6=>?_);have hE6:Ext w0 w6:=U.grown hg6 U.size TZ;refine UX ?_;exact bj rfl rfl rfl rfl C rfl ⟨⟨_,none,0,rfl,Cu _ _,v1 _ _⟩,hE6⟩
 subst hx;have hN:=hnx rfl;have hst0:=(hexl rfl).1;rw[Tm TO];clear hnx hexl;refine Uv ?_;refine r4 rfl rfl rfl rfl ?_;skip;refine eH λw6 hsb e6=>?_
 have Y:=Y.ext e6;have C:=C.ext e6;have U:=U.trans e6;have hns6:Sl w6 (dk i) no nc nx:=hns.at e6;have z6:=e6.size;have l6:=hsb.lt;refine UD ?_;refine eK (di w6 (hs.up U) (hf.up U)) ?_;rintro _ w7 ⟨lv,rfl,hlo,e7⟩
 have C:=C.ext e7;have hsb:=hsb.ext e7;have U:=U.trans e7;have z7:=e7.size;have hll:=λg a=>hlo.lt g a
 generalize (JL (ns,fl)).1=sl at*
 obtain⟨lo,lc,rfl⟩:=hlo.val;obtain⟨lo',lc',el,hls⟩:=hlo.sl;obtain⟨rfl,_,rfl⟩:=SV el;refine Vg ?_;refine f7 hsb (λw8 hsb hg8=>?_);have z8:=hg8.size;have l8:=hsb.lt;have hb68:=C.kept hg8 T3;have hE8:Ext w0 w8:=U.grown hg8 U.size TZ;have hk8:∀b,b<w7.heap.size->b≠i.heap.size->w8.heap[b]?=w7.heap[b]?:=λb d E=>hg8.block b d (λe=>E (R4 e))
 have hls8:Sl w8 (λb=>b<w8.heap.size/\b≠i.heap.size) lo lc sl:=hls.mono (λb d=>d.elim (λh=>h.elim) (λh=>hk8 b (hll b h).2.1 (by have:=(hll b h).1;omega))) (λb d=>d.elim (λh=>h.elim) (λh=>⟨by have:=(hll b h).2.1;omega,by have:=(hll b h).1;omega⟩));have hns8:Sl w8 (dk i) no nc nx:=hns6.mono (λb d=>by
  have d:b<i.heap.size:=d;exact(hk8 b TK TK).trans (e7.block b TK)) T0
 clear hk8 e7 hls hns hns6 hlo hll C U;refine UR ?_;refine eK (JG w8 hsb hns8 (λb d=>by
  have d:b<i.heap.size:=d;exact⟨by omega,by omega⟩) hN.row hN.n) ?_
 rintro _ o ⟨rfl,ov,av,yv,hsb9,T,hC9⟩
 have z9:=hC9.size;have l9:=hsb9.lt;have hb69:Blk o _ _ _:=(hC9.block _ TK (λh=>by omega)).trans hb68;have hE9:Ext w0 o:=V3 hE8 hC9 (λb d=>by subst d;omega);have q1:Sl o (Fz o (λb=>b=i.heap.size)) lo lc sl:=Sl.fz (M:=λb=>b=i.heap.size) hls8 hC9 (λb h=>.inl h);have q2:Sl o (Fz o (λb=>b=i.heap.size)) no nc nx:=Sl.fz (M:=λb=>b=i.heap.size) (hns8.mono T5 (λb d=>by
  have d:b<i.heap.size:=d;exact⟨by omega,by omega⟩)) hC9 (λb h=>.inl h)
 obtain⟨oo,oc,rfl,q3⟩:=T.o.slF (F':=λb=>w8.heap.size<=b/\b<o.heap.size) TY (λg a=>⟨(T.o.lt g a).1,(T.o.lt g a).2.1⟩);obtain⟨ao,ac,rfl,q4⟩:=T.a.slF (F':=λb=>w8.heap.size<=b/\b<o.heap.size) TY (λg a=>⟨(T.a.lt g a).1,(T.a.lt g a).2.1⟩);obtain⟨yo,yc,rfl,q5⟩:=T.y.slF (F':=λb=>w8.heap.size<=b/\b<o.heap.size) TY (λg a=>⟨(T.y.lt g a).1,(T.y.lt g a).2.1⟩);rw[atL_len,manyL_len,show(Dg nx nx.length).length=it nx nx.length from rfl]at hsb9
 have hmk:∀{w:World} {x1 x2 x3 x4:Value},Chg (λb=>b=i.heap.size) o w->Blk w i.heap.size 129 [.slice lo sl.length lc,.agg [.slice mo ml.length mc,.slice no nx.length nc].toArray,.slice no nx.length nc,.slice oo (it nx nx.length) oc,.slice ao nx.length ac,.slice yo nx.length yc,x1,x2,x3,x4]->True:=λ_ _=>trivial
 have hrun:∀{w:World} {mv x1 x2 x3 x4:Value},Chg (λb=>b=i.heap.size) o w->Blk w i.heap.size 129 [.slice lo sl.length lc,mv,.slice no nx.length nc,.slice oo (it nx nx.length) oc,.slice ao nx.length ac,.slice yo nx.length yc,x1,x2,x3,x4]->RunAt w i.heap.size sl nx:=λ {w} {mv} {x1} {x2} {x3} {x4} hC d=>by
  have hk:∀b,w8.heap.size<=b/\b<o.heap.size->w.heap[b]?=o.heap[b]?:=λb d=>hC.block b d.2 (λh=>by omega)
  have hl:∀b,w8.heap.size<=b/\b<o.heap.size->dk w b:=λb d=>Rv d.2 hC.size
  exact⟨lo,lc,mv,no,nc,oo,oc,ao,ac,yo,yc,x1,x2,x3,x4,d,(q1.fz hC (λb h=>.inl h)).old',(q2.fz hC (λb h=>.inl h)).old',q3.mono hk hl,q4.mono hk hl,q5.mono hk hl⟩
 clear hmk T hC9 hsb hb68 hls8 hns8;have hat:=iw hN.row nx.length;have hn200:=hN.n;have hsl:=hN.sl;by_cases h600:it nx nx.length<=600
 case neg=>
  rw[Ta h600,Tn TK];refine UY ?_;refine r4 (parts:=[]) rfl rfl rfl rfl ?_;skip;refine f7 hb69 (λr C hg6=>?_);have hE6:Ext w0 r:=hE9.grown hg6 hE9.size TZ;refine UX ?_;exact bj rfl rfl rfl rfl C rfl ⟨⟨_,none,0,rfl,Cu _ _,v1 _ _⟩,hE6⟩
 rw[Tc h600,Tm TK];generalize hNN:it nx nx.length=NN at*
 refine UM ?_;refine p8 (S:=Nat×Value×Value×List Raw) (λs=>[(6,Uc w1.heap.size),(11,Uc i.heap.size),(44,Ub (NN:Nat)),(45,Ub s.1)])
  (λs w=>s.1<=NN/\Blk w i.heap.size 129 [.slice lo sl.length lc,.slice mo ml.length mc,.slice no nx.length nc,.slice oo NN oc,.slice ao nx.length ac,.slice yo nx.length yc,.slice none 0 0,s.2.1,s.2.2.1,.slice none 0 0]/\Own w o.heap.size 39 dh s.2.1 s.2.2.2/\
   InnR w (λb=>b=i.heap.size\/s.2.1.ownBlock=some b\/s.2.2.1.ownBlock=some b\/b<o.heap.size) s.2.2.2 ((range s.1).map (Cn nx))/\Own w o.heap.size 131 dh s.2.2.1 ((range s.1).map (Av sl nx))/\(∀g,s.2.1.ownBlock=some g->s.2.2.1.ownBlock≠some g)/\Chg (λb=>b=i.heap.size) o w)
  (λs=>NN -s.1) (0,.slice none 0 0,.slice none 0 0,[]) TJ ⟨RU _,hsb9,r3,Wc,r3,(λg a=>by cases a),VM _ _⟩ ?_
 rintro⟨j,nv,lbv,vs⟩ r ⟨hj0,D,hon,inn,hol,hdis,A⟩
 dsimp only at hj0 D hon inn hol hdis A⊢
 have z10:=A.size;have hln:=λg a=>hon.lt g a
 have H:=λg a=>hol.lt g a
 have hvl:vs.length=j:=by rw[inn.len];simp
 obtain⟨nvo,nvc,rfl⟩:=hon.val;obtain⟨lbo,lbc,rfl⟩:=hol.val;refine UR ?_;apply ld rfl<;>intro h
 .have hj:j<NN:=by simp only[Td]at h;omega
  clear h;have hD:Ext r (drew r):=mm r;have K:=D.ext hD;have hKs:∀u,(λz:World=>∀b,b<r.heap.size->(Value.slice nvo vs.length nvc).ownBlock≠some b->z.heap[b]?=(drew r).heap[b]?) u->u.heap[i.heap.size]?=(drew r).heap[i.heap.size]?:=λu h=>h _ TK (λe=>by have:=hln _ e;omega)
  refine Ux ?_;refine aF (λz:World=>∀b,b<r.heap.size->(Value.slice nvo vs.length nvc).ownBlock≠some b->z.heap[b]?=(drew r).heap[b]?) [Wr 0,Wr 1,Wr 2,Wr 3,Wr 4,Wr 5,Wr 6,Wr 7,Ws 8,Ws 9,Ws 10,Ws 11,Ws 12,Ws 13] 14 mixed TL (λ_ _ _=>rfl) ?_;refine Vq ?_;refine cy rfl (eK (G4 (drew r) ((hrun A D).up hD) hN (by rw[hNN];exact hj)) ?_);rintro rv w11 ⟨hro,I⟩
  have J:=hD.trans I;have z11:=J.size;have hlr:=λg a=>hro.lt g a
  obtain⟨ro,rc,rfl⟩:=hro.val;refine p0 (a8 (λb d _=>I.block b d) ?_);refine bW (α:=Raw) (F:=dh) (bytes:=24) (yv:=(⟨.slice ro (Cn nx j).length rc⟩:Raw)) rfl rfl rfl rfl TV rfl rfl TV (hon.extN J) (VO _ _ _ rfl) TK TY TN TQ TK
   (λz hz b d E=>(hz.block b TK (λe=>E e.symm)).trans (I.block b d)) (λnv' G q12 ho12 l hnb12=>?_)
  have P:=(K.ext I).kept l (λe=>by have:=hln _ e.symm;omega);have z12:=l.size;have hS12:(λz:World=>∀b,b<r.heap.size->(Value.slice nvo vs.length nvc).ownBlock≠some b->z.heap[b]?=(drew r).heap[b]?) G:=λb d E=>(l.block b TK (λe=>E e.symm)).trans (I.block b d)
  obtain⟨nvo',nvc',rfl⟩:=ho12.val;refine cy rfl (fQ rfl rfl rfl (p0 (a8 hS12 ?_)));refine cy rfl (fj rfl rfl rfl (p0 (a8 hS12 ?_)));refine cy rfl (fj rfl rfl rfl (p0 (a8 hS12 (VK ?_))));refine bu rfl (f7 P (λc t V=>p0 (bx ?_)));have z13:=V.size;have hnn:∀g,(Value.slice nvo' (vs++[(⟨.slice ro (Cn nx j).length rc⟩:Raw)]).length nvc').ownBlock=some g->g≠i.heap.size/\o.heap.size<=g:=λg a=>⟨λe=>by have:=(ho12.lt g a).1;omega,(ho12.lt g a).1⟩
  have hon13:=ho12.keptN V (λg a e=>(hnn g a).1 (R4 e));have hol13:=((hol.extN J).keptN l (λg a e=>hdis g e.symm a)).keptN V (λg a e=>by have:=R4 e;have:=H g a;omega);have hdis13:∀g,(Value.slice nvo' (vs++[(⟨.slice ro (Cn nx j).length rc⟩:Raw)]).length nvc').ownBlock=some g->(Value.slice lbo ((range j).map (Av sl nx)).length lbc).ownBlock≠some g:=λg a e=>by
   rcases hnb12 g a with h|h
   .exact hdis g h e
   .have:=(H g e).2.1;omega
  have y:Chg (λb=>b=i.heap.size) o c:=((A.trans (t1 _ J)).then (VC l) (λb h=>.inr (hln b h).1)).grown V (λg a=>by cases a;rfl);have W:Rd w11 (Fz w11 (λb=>b=i.heap.size\/(Value.slice nvo vs.length nvc).ownBlock=some b\/(Value.slice lbo ((range j).map (Av sl nx)).length lbc).ownBlock=some b\/b<o.heap.size)) (.slice ro (Cn nx j).length rc) (Cn nx j):=
   hro.rd.mono T5 (λg a=>a.elim (λh=>h.elim) (λa=>⟨(hlr g a).2.1,λh=>by
    have h1:r.heap.size<=g:=(hlr g a).1;rcases h with h|h|h|h
    .omega
    .have:=(hln g h).2.1;omega
    .have:=(H g h).2.1;omega
    .omega⟩))
  have inn11:=(inn.to (t1 _ J) (λb h=>.inl h)).push W;have hC1113:Chg (λb=>b=i.heap.size\/(Value.slice nvo vs.length nvc).ownBlock=some b\/(Value.slice lbo ((range j).map (Av sl nx)).length lbc).ownBlock=some b\/b<o.heap.size) w11 c:=((VC l).wk (λb h=>.inr (.inl h))).grown V T4;have inn13:=inn11.to hC1113 (M':=λb=>b=i.heap.size\/(Value.slice nvo' (vs++[(⟨.slice ro (Cn nx j).length rc⟩:Raw)]).length nvc').ownBlock=some b\/(Value.slice lbo ((range j).map (Av sl nx)).length lbc).ownBlock=some b\/b<o.heap.size) (λb h=>by
   rcases h with h|h|h|h
   .exact .inl (.inl h)
   .exact(hnb12 b h).imp (λh=>.inr (.inl h)) id
   .exact .inl (.inr (.inr (.inl h)))
   .exact .inl (.inr (.inr (.inr h))))
  rw[<-F3]at inn13
  have hln13:=λg a=>hon13.lt g a
  clear hKs hS12 hD K I J hlr hro P l V hnb12 ho12 W inn11 hC1113 inn hon hol hdis hnn A D hln;apply bA;have hD:Ext c (drew c):=mm c;have K:=t.ext hD;have hKs:∀u,(λz:World=>∀b,b<c.heap.size->(Value.slice lbo ((range j).map (Av sl nx)).length lbc).ownBlock≠some b->z.heap[b]?=(drew c).heap[b]?) u->u.heap[i.heap.size]?=(drew c).heap[i.heap.size]?:=λu h=>h _ TK (λe=>by have:=H _ e;omega)
  have hlbl:((range j).map (Av sl nx)).length=j:=by simp
  skip;refine aF (λz:World=>∀b,b<c.heap.size->(Value.slice lbo ((range j).map (Av sl nx)).length lbc).ownBlock≠some b->z.heap[b]?=(drew c).heap[b]?) [Wr 0,Wr 1,Wr 2,Wr 3,Wr 4,Wr 5,Wr 6,Wr 7,Ws 8,Ws 9,Ws 10,Ws 11,Ws 12,Ws 13] 14 mixed TL (λ_ _ _=>rfl) ?_;refine Vq ?_;refine cy rfl (eK (G1 (drew c) ((hrun y t).up hD) hN (by rw[hNN];exact hj)) ?_);rintro _ B ⟨rfl,hlt64,R⟩
  have n:=hD.trans R;have z14:=n.size;refine p0 (a8 (λb d _=>R.block b d) ?_);refine bW (α:=Nat) (F:=dh) (bytes:=8) (yv:=Av sl nx j) rfl rfl rfl rfl TV rfl rfl TV (hol13.extN n) ⟨_,rfl,Gp _ _ _ hlt64⟩ TK TY TN TQ TK
   (λz hz b d E=>(hz.block b TK (λe=>E e.symm)).trans (R.block b d)) (λlb' w15 q15 L q X=>?_)
  rw[<-F3]at L
  have hsb15:=(K.ext R).kept q (λe=>by have:=H _ e.symm;omega);have z15:=q.size;have Q:(λz:World=>∀b,b<c.heap.size->(Value.slice lbo ((range j).map (Av sl nx)).length lbc).ownBlock≠some b->z.heap[b]?=(drew c).heap[b]?) w15:=λb d E=>(q.block b TK (λe=>E e.symm)).trans (R.block b d)
  obtain⟨lbo',lbc',rfl⟩:=L.val;refine cy rfl (fQ rfl rfl rfl (p0 (a8 Q ?_)));refine cy rfl (fj rfl rfl rfl (p0 (a8 Q ?_)));refine cy rfl (fj rfl rfl rfl (p0 (a8 Q (VK ?_))));refine bu rfl (f7 hsb15 (λw16 hsb16 N=>p0 (bx ?_)));have hol16:=L.keptN N (λg a e=>by have:=R4 e;have:=(L.lt g a).1;omega);have hon16:=((hon13.extN n).keptN q (λg a e=>hdis13 g a e.symm)).keptN N (λg a e=>by have:=R4 e;have:=hln13 g a;omega);have hC16:Chg (λb=>b=i.heap.size) o w16:=((y.trans (t1 _ n)).then (VC q) (λb h=>.inr (H b h).1)).grown N (λg a=>by cases a;rfl);have Z:Chg (λb=>b=i.heap.size\/(Value.slice nvo' (vs++[(⟨.slice ro (Cn nx j).length rc⟩:Raw)]).length nvc').ownBlock=some b\/(Value.slice lbo ((range j).map (Av sl nx)).length lbc).ownBlock=some b\/b<o.heap.size) B w16:=((VC q).wk (λb h=>.inr (.inr (.inl h)))).grown N T4;have inn16:=(inn13.to (t1 _ n) (λb h=>.inl h)).to Z (M':=λb=>b=i.heap.size\/(Value.slice nvo' (vs++[(⟨.slice ro (Cn nx j).length rc⟩:Raw)]).length nvc').ownBlock=some b\/(Value.slice lbo' ((range (j+1)).map (Av sl nx)).length lbc').ownBlock=some b\/b<o.heap.size) (λb h=>by
   rcases h with h|h|h|h
   .exact .inl (.inl h)
   .exact .inl (.inr (.inl h))
   .exact(X b h).imp (λh=>.inr (.inr (.inl h))) id
   .exact .inl (.inr (.inr (.inr h))))
  have hdis16:∀g,(Value.slice nvo' (vs++[(⟨.slice ro (Cn nx j).length rc⟩:Raw)]).length nvc').ownBlock=some g->(Value.slice lbo' ((range (j+1)).map (Av sl nx)).length lbc').ownBlock≠some g:=λg a e=>by
   rcases X g e with h|h
   .exact hdis13 g a h
   .have:=(hln13 g a).2.1;omega
  refine Ui ?_;exact m5 (j+1,_,_,_) TJ ⟨hj,hsb16,hon16,inn16,hol16,hdis16,hC16⟩ TP
 have hje:j=NN:=by simp only[Tb]at h;omega
 subst hje;clear h;have hC10':=A;have hR10:=hrun A D;have hb610:Blk r _ _ _:=(A.block _ TK (λh=>by omega)).trans hb69;have hE10:Ext w0 r:=V3 hE9 A (λb d=>by subst d;omega);refine UF ?_;refine eK (gL r (m:=0) hR10 hN hN.pos) ?_;rintro sv w11 ⟨hos,I⟩
 have hsb11:=D.ext I;have z11:=I.size;have hlos:=λg a=>hos.lt g a
 obtain⟨sto,stc,rfl⟩:=hos.val;refine Vg ?_;refine f7 hsb11 (λG P l=>?_);have z12:=l.size;have O:Chg (λb=>b=i.heap.size) r G:=(t1 _ I).grown l (λg a=>by cases a;rfl);have hC12:=A.trans O;have hb612:Blk G _ _ _:=(O.block _ TK (λh=>by omega)).trans hb610;have hE12:Ext w0 G:=V3 hE10 O (λb d=>by subst d;omega);have hon12:=(hon.extN I).keptN l (λg a e=>by have:=R4 e;have:=hln g a;omega);have hol12:=(hol.extN I).keptN l (λg a e=>by have:=R4 e;have:=H g a;omega);have hos12:=hos.keptN l (λg a e=>by have:=R4 e;have:=hlos g a;omega);have inn12:=inn.to (O.wk (M':=λb=>b=i.heap.size\/(Value.slice nvo vs.length nvc).ownBlock=some b\/(Value.slice lbo ((range j).map (Av sl nx)).length lbc).ownBlock=some b\/b<o.heap.size) (λb h=>.inl h)) (λb h=>.inl h);obtain⟨nvo2,nvc2,en,s2⟩:=inn12.sl (F:=Fz G (λb=>b=i.heap.size\/b<o.heap.size)) hon12 (λb d=>⟨d.1,λh=>d.2 (h.elim .inl λh=>.inr (.inr (.inr h)))⟩) (λg a=>⟨(hon12.lt g a).2.1,λh=>by have:=(hln g a).1;rcases h with h|h<;>omega⟩);obtain⟨rfl,hnlen,rfl⟩:=SV en;obtain⟨lbo2,lbc2,en2,s3⟩:=hol12.slF (F':=Fz G (λb=>b=i.heap.size\/b<o.heap.size)) TY (λg a=>⟨(hol12.lt g a).2.1,λh=>by have:=(H g a).1;rcases h with h|h<;>omega⟩);obtain⟨rfl,_,rfl⟩:=SV en2;obtain⟨sto2,stc2,en3,s1⟩:=hos12.slF (F':=Fz G (λb=>b=i.heap.size\/b<o.heap.size)) TY (λg a=>⟨(hos12.lt g a).2.1,λh=>by have:=(hlos g a).1;rcases h with h|h<;>omega⟩);obtain⟨rfl,_,rfl⟩:=SV en3;rw[hnlen]at P
 clear hon hol hos inn hdis hC10' hon12 hol12 hos12 inn12 hln H hlos en en2 en3 hR10 D hsb11 I l hE10 hb610 A;refine UE ?_;refine p8 (S:=Nat×Value×List Raw) (λs=>[(6,Uc w1.heap.size),(11,Uc i.heap.size),(87,Ub sl.length),(88,Ub s.1)])
  (λs w=>s.1<=sl.length/\Blk w i.heap.size 129 [.slice lo sl.length lc,.slice mo ml.length mc,.slice no nx.length nc,.slice oo j oc,.slice ao nx.length ac,.slice yo nx.length yc,.slice sto (gE nx 0).length stc,.slice nvo ((range j).map (Cn nx)).length nvc,.slice lbo ((range j).map (Av sl nx)).length lbc,s.2.1]/\Own w G.heap.size 39 dh s.2.1 s.2.2/\
   InnR w (λb=>b=i.heap.size\/s.2.1.ownBlock=some b\/b<o.heap.size) s.2.2 ((range s.1).map λk:Nat=>ql nx (k:Int))/\Chg (λb=>b=i.heap.size) G w)
  (λs=>sl.length -s.1) (0,.slice none 0 0,[]) TJ ⟨RU _,P,r3,Wc,VM _ _⟩ ?_
 rintro⟨k,fv,ws⟩ c ⟨hk0,t,hof,inf,y⟩
 dsimp only at hk0 t hof inf y⊢
 have z13:=y.size;have hlf:=λg a=>hof.lt g a
 have hwl:ws.length=k:=by rw[inf.len];simp
 obtain⟨fvo,fvc,rfl⟩:=hof.val;refine UR ?_;apply ld rfl<;>intro h
 .have hk:k<sl.length:=by simp only[Td]at h;omega
  clear h;have hD:Ext c (drew c):=mm c;have K:=t.ext hD;have hKs:∀u,(λz:World=>∀b,b<c.heap.size->(Value.slice fvo ws.length fvc).ownBlock≠some b->z.heap[b]?=(drew c).heap[b]?) u->u.heap[i.heap.size]?=(drew c).heap[i.heap.size]?:=λu h=>h _ TK (λe=>by have:=hlf _ e;omega)
  refine Ux ?_;refine aF (λz:World=>∀b,b<c.heap.size->(Value.slice fvo ws.length fvc).ownBlock≠some b->z.heap[b]?=(drew c).heap[b]?) [Wr 0,Wr 1,Wr 2,Wr 3,Wr 4,Wr 5,Wr 6,Wr 7,Ws 8,Ws 9,Ws 10,Ws 11,Ws 12,Ws 13] 14 mixed TL (λ_ _ _=>rfl) ?_;refine Vq ?_;refine cy rfl (eK (qu (drew c) (k:=k) ((hrun (hC12.trans y) t).up hD) hN) ?_);rintro rv B ⟨hro,R⟩
  have n:=hD.trans R;have z14:=n.size;have hlr:=λg a=>hro.lt g a
  obtain⟨ro,rc,rfl⟩:=hro.val;refine p0 (a8 (λb d _=>R.block b d) ?_);refine bW (α:=Raw) (F:=dh) (bytes:=24) (yv:=(⟨.slice ro (ql nx (k:Int)).length rc⟩:Raw)) rfl rfl rfl rfl TV rfl rfl TV (hof.extN n) (VO _ _ _ rfl) TK TY TN TQ TK
   (λz hz b d E=>(hz.block b TK (λe=>E e.symm)).trans (R.block b d)) (λfv' w15 q15 L q X=>?_)
  have hsb15:=(K.ext R).kept q (λe=>by have:=hlf _ e.symm;omega);have z15:=q.size;have Q:(λz:World=>∀b,b<c.heap.size->(Value.slice fvo ws.length fvc).ownBlock≠some b->z.heap[b]?=(drew c).heap[b]?) w15:=λb d E=>(q.block b TK (λe=>E e.symm)).trans (R.block b d)
  obtain⟨fvo',fvc',rfl⟩:=L.val;refine cy rfl (fQ rfl rfl rfl (p0 (a8 Q ?_)));refine cy rfl (fj rfl rfl rfl (p0 (a8 Q ?_)));refine cy rfl (fj rfl rfl rfl (p0 (a8 Q (VK ?_))));refine bu rfl (f7 hsb15 (λw16 hsb16 N=>p0 (bx ?_)));have hof16:=L.keptN N (λg a e=>by have:=R4 e;have:=(L.lt g a).1;omega);have hC16:Chg (λb=>b=i.heap.size) G w16:=((y.trans (t1 _ n)).then (VC q) (λb h=>.inr (hlf b h).1)).grown N (λg a=>by cases a;rfl);have W:Rd B (Fz B (λb=>b=i.heap.size\/(Value.slice fvo ws.length fvc).ownBlock=some b\/b<o.heap.size)) (.slice ro (ql nx (k:Int)).length rc) (ql nx (k:Int)):=
   hro.rd.mono T5 (λg a=>a.elim (λh=>h.elim) (λa=>⟨(hlr g a).2.1,λh=>by
    have h1:c.heap.size<=g:=(hlr g a).1;rcases h with h|h|h
    .omega
    .have:=(hlf g h).2.1;omega
    .omega⟩))
  have inf14:=(inf.to (t1 _ n) (λb h=>.inl h)).push W;have Z:Chg (λb=>b=i.heap.size\/(Value.slice fvo ws.length fvc).ownBlock=some b\/b<o.heap.size) B w16:=((VC q).wk (λb h=>.inr (.inl h))).grown N T4;have inf16:=inf14.to Z (M':=λb=>b=i.heap.size\/(Value.slice fvo' (ws++[(⟨.slice ro (ql nx (k:Int)).length rc⟩:Raw)]).length fvc').ownBlock=some b\/b<o.heap.size) (λb h=>by
   rcases h with h|h|h
   .exact .inl (.inl h)
   .exact(X b h).imp (λh=>.inr (.inl h)) id
   .exact .inl (.inr (.inr h)))
  rw[<-F3 (f:=λk:Nat=>ql nx (k:Int))]at inf16
  refine Ui ?_;exact m5 (k+1,_,_) TJ ⟨hk,hsb16,hof16,inf16,hC16⟩ TP
 have hke:k=sl.length:=by simp only[Tb]at h;omega
 subst hke;clear h;obtain⟨fvo2,fvc2,en4,s4⟩:=inf.sl (F:=Fz c (λb=>b=i.heap.size\/b<o.heap.size)) hof (λb d=>⟨d.1,λh=>d.2 (h.elim .inl λh=>.inr (.inr h))⟩) (λg a=>⟨(hof.lt g a).2.1,λh=>by have:=(hlf g a).1;rcases h with h|h<;>omega⟩);obtain⟨rfl,hflen,rfl⟩:=SV en4;rw[hflen]at t
 have hb613:Blk c _ _ _:=(y.block _ TK (λh=>by omega)).trans hb612;have hE13:Ext w0 c:=V3 hE12 y (λb d=>by subst d;omega);have hD:Ext c (drew c):=mm c;have K:=t.ext hD;have hb6d:=hb613.ext hD;have hKs:∀u,(λz:World=>z.heap[i.heap.size]?=(drew c).heap[i.heap.size]?) u->u.heap[i.heap.size]?=(drew c).heap[i.heap.size]?:=λu h=>h
 refine UF ?_;refine aG (λz:World=>z.heap[i.heap.size]?=(drew c).heap[i.heap.size]?) [Wr 0,Wr 1,Wr 2,Wr 3,Wr 4,Wr 5,Wr 6,Wr 7,Ws 8,Wr 9,Wr 10] mixed TL rfl ?_;refine Vq ?_;refine cm hKs rfl rfl rfl rfl K rfl ?_;refine Vq ?_;refine cy rfl (f7 hb6d (λB hb14 hg14=>p0 (a8 ?_ ?_)))
 .exact hg14.block _ (by have:=hD.size;omega) T3
 refine Vr ?_;have z14:c.heap.size<=B.heap.size:=hg14.size;have hE14:Ext w0 B:=(hE13.trans hD).grown hg14 (by have:=hE13.size;have:=hD.size;omega) TZ;have hk13:∀b,b<c.heap.size->b≠w1.heap.size->B.heap[b]?=c.heap[b]?:=λb d E=>hg14.block b d (λe=>E (R4 e))
 have hfin:∀b,Fz G (λb=>b=i.heap.size\/b<o.heap.size) b->B.heap[b]?=G.heap[b]?:=λb d=>by
  have h1:o.heap.size<=b:=Rp (λhx=>d.2 (.inr hx));have h2:=d.1;exact(hk13 b TK TK).trans (y.block b d.1 (λh=>d.2 (.inl h)))
 have hle:∀b,Fz G (λb=>b=i.heap.size\/b<o.heap.size) b->dk B b:=λb d=>(show b<B.heap.size by have:=d.1;omega)
 have hC913:=hC12.trans y;have s5:Sl B (dk B) oo oc (Dg nx nx.length):=q3.mono (λb d=>(hk13 b (by have:=d.2;omega) (by have:=d.1;omega)).trans (hC913.block b d.2 (λh=>by have:=d.1;omega))) (λb d=>(show b<B.heap.size by have:=d.2;omega));refine UQ ?_;subst hNN;exact bj rfl rfl rfl rfl hb14 rfl ⟨⟨_,oo,oc,rfl,⟨sto,stc,nvo,nvc,lbo,lbc,fvo,fvc,rfl,s1.mono hfin hle,s2.mono hfin hle,s3.mono hfin hle,s4.mono (λb d=>hk13 b d.1 (by have:=Rp (λhx=>d.2 (.inr hx));omega)) (λb d=>(show b<B.heap.size by have:=d.1;omega))⟩,s5⟩,hE14⟩
def HU{p:cM}{tok st:Int}(h:(HT p tok st).2=0):(qa p tok st).2=0/\it (qa p tok st).1.2 (qa p tok st).1.2.length<=600/\(HT p tok st).1=(HX (JL p).1 (qa p tok st).1.2,Dg (qa p tok st).1.2 (qa p tok st).1.2.length):=by
 unfold HT at h⊢;split at h
 .rename_i g;exact absurd h g
 rename_i g1;split at h
 .cases h
 rename_i g2;rw[Tm g1,Tm g2];exact⟨by simpa using g1,by omega,rfl⟩
def B5{nx:List (List cI)}{m:Nat}(h:nx.getD m []≠[]):B3 nx m=(nx.getD m []).length:=by have:0<(nx.getD m []).length:=P6.2 h;unfold B3;omega
def Dn{nx:List (List cI)}{m i:Nat}(b:m<nx.length)(hi:i<(nx.getD m []).length):Dk nx (it nx m+i)=(((nx.getD m []).getD i (0,0)).1,(m:Int)):=by
 have a:nx.getD m []≠[]:=λh=>by rw[h]at hi;simp at hi
 rw[Dl b (by rw[B5 a];exact hi),Tm a]
def GB{n k:Nat}(h:k<n):(replicate n true).getD k false=true:=by rw[Pl,Pw,Tn h];rfl
noncomputable abbrev gA(nx fr:bV):List Bool:=MV nx (replicate nx.length true) fr
def gI{nx:bV}(a:okG nx){u v:Nat}:Eg (inG nx (replicate nx.length true)) u v↔Eg nx u v:=by rw[inG_edge];exact⟨λh=>h.1,λh=>⟨h,GB h.lt1,GB (h.lt a)⟩⟩
def gB{nx fr:bV}(a:okG nx){n:Nat}(h:n<nx.length):(gA nx fr).getD n false=true↔∃r,r 0=n/\Way8 (Eg nx) (IA fr) r:=by rw[MW h,show Eg (inG nx (replicate nx.length true))=Eg nx from funext λu=>funext λv=>propext (gI a)]
def bK(w0:World){a1 a4:Option Addr}{c1 c2 k:Nat}{st:List Int}{nx fr:bV}(h1:Sl w0 (dk w0) a1 c1 st)(h2:Sl w0 (dk w0) C c2 nx)(Y:k<=9223372036854775807)(h4:Sl w0 (dk w0) a4 a fr)(hT:edges nx<=8589934592):
  Rt Vy 95 [M5 a1 c1 C c2 D B a4 a st.length nx.length k fr.length].toArray w0 λv w'=>∃x,v=.tuple ⟨[x,Ub (k_ st nx k fr)]⟩/\Own w' w0.heap.size 4 dh x (if k_ st nx k fr=0 then gA nx fr else [])/\Ext w0 w':=by
 have V:=h2.len63;refine dR func95 ntmps95 rfl rfl ?_;have f:=p7 w0;refine UZ ?_;refine eH λT o e1=>?_;have f:=f.trans e1;refine UD ?_;refine eK (Ml T (h1.up f) (h2.up f) Y (h4.up f)) ?_;rintro _ p ⟨rfl,P⟩;have o:=o.ext P;have f:=f.trans P;refine UR ?_;apply ld rfl<;>intro h
 .have h:k_ st nx k fr≠0:=by simpa using h
  refine Up ?_;exact f0 ⟨_,rfl,by rw[Tm h];exact r3,f⟩
 have h:k_ st nx k fr=0:=by simpa using h
 obtain⟨l,O,X,E,g,j⟩:=lh h;have F:okG nx:=λr U=>(g r U).2;rw[Tn h,h];refine UM ?_;refine fI (α:=Bool) rfl rfl rfl rfl TK TQ (λR ho3 K=>?_);have e3:Ext p R:=(NP _ _).grown K T8 T2;generalize z:Value.slice (some ⟨p.heap.size,0,none⟩) nx.length nx.length=sv at*;have W:∃ao cap,sv=.slice ao nx.length cap:=⟨_,_,z.symm⟩;refine U5 ?_;rw[P8];refine p8 (S:=Nat×List Bool) (λs=>[(1,Uc w0.heap.size),(5,sv),(17,Ub nx.length),(18,Ub s.1)])
  (λs w=>s.1<=nx.length/\Own w p.heap.size 4 dh sv s.2/\s.2.length=nx.length/\(∀c,c<s.1->s.2.getD c false=true)/\Ext p w) (λs=>nx.length -s.1) (0,replicate nx.length false) TJ ⟨RU _,ho3,by simp,λc L=>absurd L TP,e3⟩ ?_
 rintro⟨i,inn⟩ Q ⟨hi,t,n,m,y⟩;dsimp only at hi t n m⊢;have d:=f.trans y;have Z:=o.ext y;refine UR ?_;apply ld rfl<;>intro h
 .have I:i<nx.length:=by simp at h;omega
  refine Ux ?_;refine fX (u:=.bool true) (yv:=true) rfl rfl rfl rfl t (show i<inn.length by omega) TV TV (VF _ _ _) (λN q2 ho5 J=>?_);have M:Ext p N:=y.grown J y.size (λb hb=>(t.lt b hb).1);refine Ui ?_;refine m5 (i+1,inn.set i true) TJ ⟨I,ho5,by simpa using n,λc L=>?_,M⟩ TP;dsimp only at L⊢;rw[tC TK];by_cases e:i=c
  .rw[Tn e]
  .rw[Tm e];exact m c TK
 obtain rfl:i=nx.length:=by simp at h;omega
 have q:inn=replicate nx.length true:=by refine O3 (by simpa using n) λc h1 h2=>?_;rw[<-MR h1,PN];exact m c TK
 subst q;obtain⟨io,ic,G,H⟩:=t.oldN.sl;subst G;refine U1 ?_;refine eK (gg Q (h2.up d) (h4.up d) H F j TO l hT) ?_;rintro v N ⟨A,M⟩;refine Uf ?_;exact f0 ⟨_,rfl,A.low d.size,d.trans M⟩
def Hd(nx:List (List cI)):List (List Int):=(range (it nx nx.length)).map (Cn nx)
def Hk(K:Nat)(nx:List (List cI)):List (List Int):=(range K).map λk:Nat=>ql nx (k:Int)
def Hg{nx:List (List cI)}:(Hd nx).length=it nx nx.length:=by simp[Hd]
def Hf{nx:List (List cI)}{j:Nat}(h:j<it nx nx.length):(Hd nx).getD j []=Cn nx j:=by unfold Hd;rw[Pl,Pu,Pv h];rfl
def gF{nx:List (List cI)}{m:Nat}(b:m<nx.length):Dy (it nx nx.length) (gE nx m):=λx a=>by unfold gE at a;obtain⟨i,hi,rfl⟩:=Qv.1 a;have:=iy (nx:=nx) b (QA.1 hi);omega
def KK{sl:List cO}{nx:List (List cI)}(d:NxOk sl nx){j:Nat}(hj:j<it nx nx.length)(h:¬(Dk nx j).1<0):(KJ nx j).2.toNat<nx.length:=by
 obtain⟨n,i,hn,hi,f,b,c⟩:=Dm d hj;obtain⟨c,_⟩|⟨_,_,a,e⟩:=c
 .omega
 have g:=d.ed n hn _ (PL a);unfold KJ;rw[b,Oy,show j -it nx n=i by omega,tJ a];omega
def Co{sl:List cO}{nx:List (List cI)}(b:NxOk sl nx){j:Nat}(hj:j<it nx nx.length):Dy (it nx nx.length) (Cn nx j):=by
 unfold Cn;split
 .intro x a;rw[QC]at a;subst a;omega
 .rename_i c;exact gF (KK b hj c)
def Cp{sl:List cO}{nx:List (List cI)}(a:NxOk sl nx){j:Nat}:0<(Cn nx j).length/\(Cn nx j).length<=60:=by
 unfold Cn;split
 .simp
 .have h1:=B4 (nx:=nx) (n:=(KJ nx j).2.toNat);have h2:=a.row (KJ nx j).2.toNat;unfold gE;rw[P4,P7];unfold B3 at h1⊢;omega
def Hh{sl:List cO}{nx:List (List cI)}(a:NxOk sl nx):∀r∈Hd nx,0<r.length/\r.length<=60/\Dy (it nx nx.length) r:=λr b=>by unfold Hd at b;obtain⟨j,hj,rfl⟩:=Qv.1 b;exact⟨(Cp a).1,(Cp a).2,Co a (QA.1 hj)⟩
def qm{nx:List (List cI)}{k:Int}:Dy (it nx nx.length) (ql nx k):=λx a=>by unfold ql qn at a;obtain⟨i,hi,rfl⟩:=Qv.1 a;have:=QA.1 (Qs.1 hi).1;omega
def Hc{nx:List (List cI)}:∀F∈Hk K nx,Dy (it nx nx.length) F:=λF hF=>by unfold Hk at hF;obtain⟨k,_,rfl⟩:=Qv.1 hF;exact qm
def HY{sl:List cO}{nx:List (List cI)}(b:NxOk sl nx)(c:it nx nx.length<=600):k_ (gE nx 0) (Hd nx) (it nx nx.length) (Hk sl.length nx)=0:=by
 have d:=b.sl;have hF:(Hk sl.length nx).length=sl.length:=by simp[Hk]
 unfold k_;rw[Hg,Tm TK,Tm,Tm,Tm]
 .intro h;obtain⟨F,hF,a⟩:=OE.1 h;rw[oddB_false.2 (Hc F hF)]at a;cases a
 .intro h;obtain⟨r,e,a⟩:=OE.1 h;obtain⟨h1,_,h3⟩:=Hh b r e;unfold kQ at a;rw[oddB_false.2 h3,N7]at a;simp at a;rw[a]at h1;simp at h1
 .rintro(h|h)
  .exact h rfl
  .rw[oddB_false.2 (gF b.pos)]at h;cases h
def EQ(row:List cI)(k:Int):Nat:=(row.findIdx? λe=>e.1==k).getD 0
def ER{row:List cI}{k:Int}(h:(row.any λy=>y.1==k)=true):EQ row k<row.length/\(row.getD (EQ row k) (0,0)).1=k:=by
 unfold EQ;cases hf:row.findIdx? (λe=>e.1==k)with
 |none=>
  rw[Pb]at hf;obtain⟨y,b,a⟩:=OE.1 h;rw[hf y b]at a;cases a
 |some i=>
  obtain⟨h1,h2,_⟩:=Pc.1 hf;simp only[R1];rw[tJ h1];exact⟨h1,by simpa using h2⟩
def yA{nx:List (List cI)}{k:Int}{j:Nat}(hj:j<it nx nx.length)(h:yy nx k j=true):(j:Int)∈ql nx k:=by unfold ql qn;exact Qv.2 ⟨j,Qs.2 ⟨QA.2 hj,h⟩,rfl⟩
def He{sl:List cO}{nx:List (List cI)}(c:NxOk sl nx)(a:it nx nx.length<=600):edges (Hd nx)<=8589934592:=by have h:=oF (Hd nx) 60 (λr b=>(Hh c r b).2.1);rw[Hg]at h;omega
open Classical in
noncomputable def jt(n:Nat)(P:Nat->Prop):List Bool:=(range n).map λi=>decide (P i)
def jw{n:Nat}{P:Nat->Prop}:(jt n P).length=n:=by simp[jt]
def jv{n i:Nat}{P:Nat->Prop}(h:i<n):(jt n P).getD i false=true↔P i:=by unfold jt;rw[Pl,Pu,Pv h];simp
def ju{n:Nat}{P Q:Nat->Prop}(h:∀i,i<n->(P i↔Q i)):jt n P=jt n Q:=by
 refine O3 (by rw[jw,jw]) λi h1 h2=>?_;have hi:i<n:=by rw[jw]at h1;exact h1
 rw[NU,<-MR h1,<-MR h2,jv hi,jv hi];exact h i hi
def jx{n:Nat}{P:Nat->Prop}(a:l.length=n)(h:∀i,i<n->(l.getD i false=true↔P i)):l=jt n P:=by
 refine O3 (by rw[jw];exact a) λi h1 h2=>?_;have hi:i<n:=by omega
 rw[NU,<-MR h1,<-MR h2,jv hi];exact h i hi
def qr(nx fr:bV)(n:Nat):Prop:=∃r,r 0=n/\Way8 (Eg nx) (IA fr) r
def oJ(nx fr:bV)(A:Nat->Prop)(n:Nat):Prop:=∃r,r 0=n/\Way8 (Eg nx) (IA fr) r/\∀i,A (r i)
inductive EuP(E:Nat->Nat->Prop)(A B:Nat->Prop):Nat->Prop
 |here {n:Nat}:B n->EuP E A B n
 |step {n m:Nat}:A n->E n m->EuP E A B m->EuP E A B n
def pK(nx fr:bV)(A B:Nat->Prop):Nat->Prop:=EuP (Eg nx) A λn=>B n/\qr nx fr n
def pT(nx fr:bV)(A:Nat->Prop)(n:Nat):Prop:=∃m,Eg nx n m/\A m/\qr nx fr m
def iH(nx fr:bV)(A B:Nat->Prop)(n:Nat):Prop:=¬(pK nx fr (λi=>¬B i) (λi=>¬A i/\¬B i) n\/oJ nx fr (λi=>¬B i) n)
section
variable {nx fr:bV}{A B:Nat->Prop}
theorem Way8.lt{r:Nat->Nat}(a:okG nx)(h:Way8 (Eg nx) (IA fr) r)(i:Nat):r i<nx.length:=by
 cases i with
 |zero=>exact(h.1 0).lt1
 |succ i=>exact(h.1 i).lt a
theorem MY(a:okG nx):MV nx (jt nx.length A) fr=jt nx.length (oJ nx fr A):=by
 refine jx MX λn hn=>?_;rw[MW hn];constructor
 .rintro⟨r,b,h1,h2⟩;have h3:=λi=>inG_edge.1 (h1 i);exact⟨r,b,⟨λi=>(h3 i).1,h2⟩,λi=>(jv (h3 i).1.lt1).1 (h3 i).2.1⟩
 .rintro⟨r,b,h,c⟩;exact⟨r,b,λi=>inG_edge.2 ⟨h.1 i,(jv (h.lt a i)).2 (c i),(jv (h.lt a (i+1))).2 (c (i+1))⟩,h.2⟩
theorem gJ(a:okG nx):gA nx fr=jt nx.length (qr nx fr):=jx MX λn hn=>gB a hn
end
def mG(nx:bV)(lb:List Nat)(fr:bV)(k n:Int)(ks:List (Nat->Prop)):Nat->Prop:=
 if k=1 then λ_=>True
 else if k=3 then λi=>lb.getD i 0 >>> n.toNat&&&1=1
 else if k=4 then λi=>¬ks.getD 0 (λ_=>False) i
 else if k=5 then λi=>ks.getD 0 (λ_=>False) i/\ks.getD 1 (λ_=>False) i
 else if k=6 then λi=>ks.getD 0 (λ_=>False) i\/ks.getD 1 (λ_=>False) i
 else if k=7 then pT nx fr (ks.getD 0 (λ_=>False))
 else if k=8 then pK nx fr (λ_=>True) (ks.getD 0 (λ_=>False))
 else if k=9 then oJ nx fr (ks.getD 0 (λ_=>False))
 else if k=10 then pK nx fr (ks.getD 0 (λ_=>False)) (ks.getD 1 (λ_=>False))
 else if k=11 then λi=>¬pT nx fr (λj=>¬ks.getD 0 (λ_=>False) j) i
 else if k=12 then λi=>¬oJ nx fr (λj=>¬ks.getD 0 (λ_=>False) j) i
 else if k=13 then λi=>¬pK nx fr (λ_=>True) (λj=>¬ks.getD 0 (λ_=>False) j) i
 else if k=14 then iH nx fr (ks.getD 0 (λ_=>False)) (ks.getD 1 (λ_=>False))
 else λ_=>False
mutual
def mE(nx:bV)(lb:List Nat)(fr:bV):Ltl->Nat->Prop
 |.mk k n kids=>mG nx lb fr k n (mF nx lb fr kids)
def mF(nx:bV)(lb:List Nat)(fr:bV):List Ltl->List (Nat->Prop)
 |[]=>[]
 |x::r=>mE nx lb fr x::mF nx lb fr r
end
section
variable {nx fr:bV}{lb:List Nat}{f g:Ltl}
end
section
variable {nx fr:bV}{lb:List Nat}{f:Ltl}{r:Nat->Nat}
end

def setPs_iff{fr:bV}{Q:(Nat->Prop)->Prop}:(∀P∈IA fr,Q P)↔∀j,j<fr.length->Q λx=>(x:Int)∈fr.getD j []:=by
 constructor
 .intro h j hj;refine h _ (Qv.2 ⟨fr[j],PL hj,?_⟩);funext x;rw[MS hj]
 .intro h P hP;obtain⟨F,hF,rfl⟩:=Qv.1 hP;obtain⟨j,hj,rfl⟩:=Qu.1 hF;have:=h j hj;simp only[MS hj]at this;exact this
section
variable {N:Nat}{nx nx' fr fr':bV}{lb lb':List Nat}
variable {A A' B B':Nat->Prop}
theorem zi{P:Prop}[Decidable P]{a b d c:Nat->Prop}{k k':Nat}(h1:a k↔d k')(h2:b k↔c k'):(if P then a else b) k↔(if P then d else c) k':=by
 split
 .exact h1
 .exact h2

end
def LabAt(w:World)(b:Nat)(nx:bV)(lb:List Nat)(fr:bV):Prop:=
 ∃(a1:Option Addr) (c1 n1:Nat) (a2:Option Addr) (c2:Nat) (a3:Option Addr) (c3:Nat) (a4:Option Addr) (c4:Nat) (ao:Option Addr) (ac:Nat) (a:Option Addr) (bc:Nat),
  Blk w b 197 [.slice a1 n1 c1,.slice a2 nx.length c2,.slice a3 lb.length c3,.slice a4 fr.length c4,.slice ao (jt nx.length (qr nx fr)).length ac,.slice a (Lh nx).length bc]/\
  Sl w (dk w) a2 c2 nx/\Sl w (dk w) a3 c3 lb/\Sl w (dk w) a4 c4 fr/\Sl w (dk w) ao ac (jt nx.length (qr nx fr))/\Sl w (dk w) a bc (Lh nx)
def LabAt.up{w':World}{b:Nat}{nx fr:bV}{lb:List Nat}(h:LabAt w b nx lb fr)(a:Ext w w'):LabAt w' b nx lb fr:=by obtain⟨a1,c1,n1,a2,c2,a3,c3,a4,c4,ao,ac,f,bc,c,h2,h3,h4,e,d⟩:=h;exact⟨a1,c1,n1,a2,c2,a3,c3,a4,c4,ao,ac,f,bc,c.ext a,h2.up a,h3.up a,h4.up a,e.up a,d.up a⟩
structure WOk(nx:bV)(fr:bV):Prop where
 n:nx.length<=600
 g:okG nx
 f:∀F∈fr,Dy nx.length F
 e:edges nx<=8589934592
abbrev Au(b:Nat):Value:=.pointer (some ⟨b,0,none⟩)
def ou(w0:World){b:Nat}{nx fr:bV}{lb:List Nat}(C:LabAt w0 b nx lb fr)(hn:nx.length<=600){fv:Value}{P:Nat->Prop}
  (hf:∀(w:World) (n:Nat),Ext w0 w->n<nx.length->FnV Vy fv [Ub (n:Int)] w λv w'=>∃c:Bool,v=.bool c/\(c=true↔P n)/\Ext w w'):
  Rt Vy 96 [Au b,fv].toArray w0 λv w'=>Own w' w0.heap.size 4 dh v (jt nx.length P)/\Ext w0 w':=by
 obtain⟨a1,c1,n1,a2,c2,a3,c3,a4,c4,ao,ac,J,bc,t,h2,h3,h4,I,H⟩:=C;refine dS func96 ntmps96 rfl rfl (UE ?_);refine fI (α:=Bool) rfl rfl rfl rfl TK TQ (λz ho3 p=>?_);have E:Ext w0 z:=(NP _ _).grown p T8 T2;generalize l:Value.slice (some ⟨w0.heap.size,0,none⟩) nx.length nx.length=sv at*;have A:∃ao cap,sv=.slice ao nx.length cap:=⟨_,_,l.symm⟩;refine U5 ?_;rw[P8];refine p8 (S:=Nat×List Bool) (λs=>[(1,fv),(5,sv),(15,Ub nx.length),(16,Ub s.1)])
  (λs w=>s.1<=nx.length/\Own w w0.heap.size 4 dh sv s.2/\s.2.length=nx.length/\(∀c,c<s.1->(s.2.getD c false=true↔P c))/\Ext w0 w) (λs=>nx.length -s.1) (0,replicate nx.length false) TJ ⟨RU _,ho3,by simp,λc q=>absurd q TP,E⟩ ?_
 rintro⟨i,o⟩ y ⟨hi,f,d,a,j⟩;dsimp only at hi f d a⊢;refine UR ?_;apply ld rfl<;>intro h
 .have g:i<nx.length:=by simp at h;omega
  refine Ux ?_;refine eL rfl rfl rfl rfl (hf y i j g) ?_;rintro _ F ⟨c,rfl,q,r⟩;refine fX (u:=.bool c) (yv:=c) rfl rfl rfl rfl (f.extN r) (show i<o.length by omega) TV TV (VF _ _ _) (λx G ho6 m=>?_);have D:Ext w0 x:=(j.trans r).grown m (j.trans r).size (λb t=>(f.lt b t).1);refine Ui ?_;refine m5 (i+1,o.set i c) TJ ⟨g,ho6,by simpa using d,λk B=>?_,D⟩ TP;dsimp only at B⊢;rw[tC TK];by_cases e:i=k
  .subst e;rw[Tn rfl];exact q
  .rw[Tm e];exact a k TK
 obtain rfl:i=nx.length:=by simp at h;omega
 rw[jx d a]at f;refine UF ?_;exact be ⟨f,j⟩
def A7(w:World){x:Nat}{ao:Option Addr}(d:Blk w B 80 [.slice ao l.length a])(c:Sl w (dk w) ao a l)(b:x<l.length):
  Rt Vy 161 [Ub (x:Int),Uc B].toArray w λv w'=>v=.bool (!l.getD x false)/\Ext w w':=by
 refine dS func161 ntmps161 rfl rfl (Uy ?_);refine eY rfl rfl rfl rfl rfl c b (MR b).symm TV (λq=>Uf ?_);exact be ⟨rfl,p7 _⟩
def C3{c:Bool}{P:Prop}(h:c=true↔P):(!c)=true↔¬P:=by rw[<-h];cases c<;>simp
def A8(w0:World){b:Nat}{nx fr:bV}{lb:List Nat}(l:LabAt w0 b nx lb fr)(hn:nx.length<=600){ao:Option Addr}{P:Nat->Prop}(k:Sl w0 (dk w0) ao B (jt nx.length P)):
  Rt Vy 99 [Au b,.slice ao (jt nx.length P).length B].toArray w0 λv w'=>Own w' w0.heap.size 4 dh v (jt nx.length λi=>¬P i)/\Ext w0 w':=by
 refine dS func99 ntmps99 rfl rfl (UZ ?_);refine eH λg a c=>?_;have j:=a.lt;refine Um ?_;refine eK (ou g (P:=λi=>¬P i) (l.up c) hn (λw n e hn=>VE (f:=161) (VR (A7 w (a.ext e) (k.up (c.trans e)) (show n<_ by rw[jw];exact hn)) (λv w' d=>⟨_,d.1,C3 (jv hn),d.2⟩)))) ?_;rintro _ o ⟨h,m⟩;refine Uf ?_;exact be ⟨h.low c.size,c.trans m⟩
def AF(w:World){b2 x:Nat}{ao:Option Addr}{k:List Bool}(h:Blk w B 80 [.slice ao l.length a])(g:Blk w b2 80 [.slice C k.length K])(e:Sl w (dk w) ao a l)(f:Sl w (dk w) C K k)(d:x<l.length)(b:x<k.length):
  Rt Vy 162 [Ub (x:Int),Uc B,Uc b2].toArray w λv w'=>v=.bool (l.getD x false&&k.getD x false)/\Ext w w':=by
 refine dT func162 ntmps162 rfl rfl (Uy ?_);refine eY rfl rfl rfl rfl rfl e d (MR d).symm TV (λq=>?_);generalize l.getD x false=c;cases c with
 |false=>
  refine UK ?_;exact be ⟨rfl,p7 _⟩
 |true=>
  refine Vc ?_;refine eY rfl rfl rfl rfl rfl f b (MR b).symm TV (λi=>Uf ?_);exact be ⟨rfl,p7 _⟩
def gY{c d:Bool}{P Q:Prop}(h:c=true↔P)(k:d=true↔Q):(c&&d)=true↔P/\Q:=by rw[<-h,<-k];cases c<;>cases d<;>simp
def AG(w0:World){b:Nat}{nx fr:bV}{lb:List Nat}(p:LabAt w0 b nx lb fr)(hn:nx.length<=600){ao:Option Addr}{P Q:Nat->Prop}(o:Sl w0 (dk w0) ao B (jt nx.length P))(m:Sl w0 (dk w0) C a (jt nx.length Q)):
  Rt Vy 100 [Au b,.slice ao (jt nx.length P).length B,.slice C (jt nx.length Q).length a].toArray w0 λv w'=>Own w' w0.heap.size 4 dh v (jt nx.length λi=>P i/\Q i)/\Ext w0 w':=by
 refine dT func100 ntmps100 rfl rfl (UZ ?_);refine eH λt d r=>?_;refine eH λk g j=>?_;have d:=d.ext j;have e:=r.trans j;refine Um ?_;refine eK (ou k (P:=λi=>P i/\Q i) (p.up e) hn (λw n c hn=>VE (f:=162) (VR (AF w (d.ext c) (g.ext c) (o.up (e.trans c)) (m.up (e.trans c)) (show n<_ by rw[jw];exact hn) (show n<_ by rw[jw];exact hn)) (λv w' h=>⟨_,h.1,gY (jv hn) (jv hn),h.2⟩)))) ?_;rintro _ s ⟨l,q⟩;refine Uf ?_;exact be ⟨l.low e.size,e.trans q⟩
theorem AQ(w:World){b b1 b2 x:Nat}{nx fr:bV}{lb:List Nat}(D:LabAt w b nx lb fr)(o:okG nx){ao:Option Addr}{ac:Nat}{P:Nat->Prop}(C:Blk w b1 135 [Au b])(B:Blk w b2 80 [.slice ao (jt nx.length P).length ac])
  (A:Sl w (dk w) ao ac (jt nx.length P)) (n:x<nx.length):
  Rt Vy 163 [Ub (x:Int),Uc b1,Uc b2].toArray w λv w'=>∃c:Bool,v=.bool c/\(c=true↔pT nx fr P x)/\Ext w w':=by
 obtain⟨a1,c1,n1,a2,c2,a3,c3,a4,c4,fo,fc,J,bc,H,h2,h3,h4,E,I⟩:=D;have e:=Dx o x;rw[MS n]at e
 have j:∀m:Nat,Eg nx x m↔(m:Int)∈nx[x]:=λm=>by unfold Eg;rw[MS n]
 refine dT Tryz.func163 Tryz.ntmps163 rfl rfl ?_;refine UN ?_;refine fe h2 n TV (λu q y=>?_);obtain⟨t,rc,rfl,s⟩:=y.sl;have z:=s.len63;generalize nx[x]=row at*
 refine Uz ?_;refine CW.loop (S:=Nat) (λi=>[(1,Uc b1),(2,Uc b2),(14,.slice t row.length rc),(15,Ub row.length),(16,Ub i)])
  (λi w'=>w'=w/\i<=row.length/\∀m:Nat,(m:Int)∈row.take i->¬(P m/\qr nx fr m)) (λi=>row.length -i) 0 TJ ⟨rfl,RU _,λm a=>by simp at a⟩ ?_
 rintro i w' ⟨rfl,hi,f⟩
 refine UR ?_;apply CW.cond rfl<;>intro h
 .have d:i<row.length:=by simp at h;omega
  obtain⟨k,p⟩:∃k:Nat,row[i]=(k:Int):=⟨(row[i]).toNat,by have:=e _ (PL d);omega⟩;have g:k<nx.length:=by have:=e _ (PL d);omega
  have l:row.take (i+1)=row.take i++[(k:Int)]:=by rw[QY,Pq d,p];rfl
  have r:(k:Int)∈row:=p▸PL d;have bP:=jv (P:=P) g;have bF:=jv (P:=qr nx fr) g;refine UC ?_;refine e_ s d p TV (λq=>?_);refine Uy ?_;refine eY rfl rfl rfl rfl rfl A (show k<_ by rw[jw];exact g) (MR _).symm TV (λG=>?_);generalize (jt nx.length P).getD k false=c at*
  cases c with
  |false=>
   refine UA ?_;refine EX.back (i+1) TJ ⟨rfl,d,λm a=>?_⟩ TK;rw[l]at a
   rcases Ql.1 a with a|a
   .exact f m a
   .have:m=k:=by have:=QC.1 a;omega
    subst this;exact λh=>by have:=bP.2 h.1;cases this
  |true=>
   refine Vh ?_;refine eY rfl rfl rfl rfl rfl E (show k<_ by rw[jw];exact g) (MR _).symm TV (λF=>?_);generalize (jt nx.length (qr nx fr)).getD k false=c at*
   cases c with
   |false=>
    refine US ?_;refine EX.back (i+1) TJ ⟨rfl,d,λm a=>?_⟩ TK;rw[l]at a
    rcases Ql.1 a with a|a
    .exact f m a
    .have:m=k:=by have:=QC.1 a;omega
     subst this;exact λh=>by have:=bF.2 h.2;cases this
   |true=>
    refine U0 ?_;exact bd rfl rfl ⟨_,rfl,⟨λ_=>⟨k,(j k).2 r,bP.1 rfl,bF.1 rfl⟩,λ_=>rfl⟩,Ext.refl _⟩
 .obtain rfl:i=row.length:=by simp at h;omega
  rw[Q0]at f
  refine UF ?_;refine bd rfl rfl ⟨_,rfl,⟨(λh=>by cases h),λ⟨m,h1,h2⟩=>absurd h2 (f m ((j m).1 h1))⟩,Ext.refl _⟩
def AR(w0:World){b:Nat}{nx fr:bV}{lb:List Nat}(h:LabAt w0 b nx lb fr)(e:okG nx)(hn:nx.length<=600){ao:Option Addr}{P:Nat->Prop}(l:Sl w0 (dk w0) ao B (jt nx.length P)):
  Rt Vy 102 [Au b,.slice ao (jt nx.length P).length B].toArray w0 λv w'=>Own w' w0.heap.size 4 dh v (jt nx.length (pT nx fr P))/\Ext w0 w':=by
 refine dS func102 ntmps102 rfl rfl (UZ ?_);refine eH λq c o=>?_;refine eH λj g i=>?_;have c:=c.ext i;have d:=o.trans i;refine UO ?_;refine eK (ou j (P:=pT nx fr P) (h.up d) hn (λw n a hn=>VE (f:=163) (AQ w (h.up (d.trans a)) e (c.ext a) (g.ext a) (l.up (d.trans a)) hn))) ?_;rintro _ p ⟨k,m⟩;refine Uf ?_;exact be ⟨k.low d.size,d.trans m⟩
def LZ(out:List Bool):Nat:=out.countP λb=>!b
def L0{out:List Bool}{k:Nat}(c:k<out.length)(h:out.getD k false=false):LZ (out.set k true)+1=LZ out:=by
 have a:out[k]=false:=by rw[<-MR c];exact h
 unfold LZ;rw[OS c,a];have:0<out.countP λb=>!b:=OQ.2 ⟨false,a▸PL _,rfl⟩;simp only[N0,N4,To,NW,Tl];omega
def turnE_mem{nx:bV}{c k:Nat}:(k:Int)∈(Lh nx).getD c []↔c<nx.length/\Eg nx k c:=by
 by_cases b:c<nx.length
 .have a:c<(Lh nx).length:=by rw[Li];exact b
  rw[MS a,Ll a,Qv];constructor
  .rintro⟨x,d,e⟩;obtain rfl:x=k:=by omega
   obtain⟨h1,h2⟩:=Qs.1 d;exact⟨b,by unfold Eg;simpa using h2⟩
  .rintro⟨_,h⟩;refine⟨k,Qs.2 ⟨QA.2 h.lt1,?_⟩,rfl⟩;unfold Eg at h;simpa using h
 .constructor
  .intro h;rw[Pl,Pr (by rw[Li];omega)]at h;cases h
  .exact λh=>absurd h.1 b
structure EuI(nx:bV)(A B:Nat->Prop)(out:List Bool)(todo:List Int)(cur:Option (Nat×Nat)):Prop where
 len:out.length=nx.length
 td:∀x∈todo,0<=x/\x<nx.length/\out.getD x.toNat false=true
 snd:∀c,c<nx.length->out.getD c false=true->EuP (Eg nx) A B c
 bas:∀c,c<nx.length->B c->out.getD c false=true
 cls:∀c,c<nx.length->out.getD c false=true->(c:Int)∈todo\/(∀k,Eg nx k c->A k->out.getD k false=true)\/∃j,cur=some (c,j)/\∀k:Nat,(k:Int)∈((Lh nx).getD c []).take j->A k->out.getD k false=true
 cnt:todo.length+LZ out<=nx.length
section
variable {nx:bV}{A B:Nat->Prop}{out:List Bool}{todo:List Int}
theorem EuI.done(a:okG nx)(h:EuI nx A B out [] none):out=jt nx.length (EuP (Eg nx) A B):=by
 refine jx h.len λc d=>⟨h.snd c d,λf=>?_⟩;induction f with
 |here g=>exact h.bas _ d g
 |@step n m h1 h2 h3 e=>
  have b:=h2.lt a;rcases h.cls m b (e b)with h4|h4|⟨j,h4,_⟩
  .cases h4
  .exact h4 n h2 h1
  .cases h4
theorem EuI.pop{c:Nat}{r:List Int}(h:EuI nx A B out ((c:Int)::r) none):EuI nx A B out r (some (c,0)):=by
 refine⟨h.len,λx b=>h.td x (by simp[b]),h.snd,h.bas,λc' a d=>?_,by have:=h.cnt;simp at this;omega⟩;obtain h4|h4|⟨j,h4,_⟩:=h.cls c' a d
 .obtain h4|h4:=Qo.1 h4
  .exact .inr (.inr ⟨0,by rw[show c'=c by omega],λk e=>by simp at e⟩)
  .exact .inl h4
 .exact .inr (.inl h4)
 .cases h4
theorem EuI.rowEnd{c j:Nat}(h:EuI nx A B out todo (some (c,j)))(hj:((Lh nx).getD c []).length<=j):EuI nx A B out todo none:=by
 refine⟨h.len,h.td,h.snd,h.bas,λc' a d=>?_,h.cnt⟩;obtain h4|h4|⟨g,h4,b⟩:=h.cls c' a d
 .exact .inl h4
 .exact .inr (.inl h4)
 .obtain⟨rfl,rfl⟩:=R6 (R4 h4);rw[Q1 hj]at b;exact .inr (.inl λk e f=>b k (turnE_mem.2 ⟨a,e⟩) f)
theorem EuI.skip{c j k:Nat}(h:EuI nx A B out todo (some (c,j)))(hj:j<((Lh nx).getD c []).length)(f:((Lh nx).getD c [])[j]=(k:Int))(g:A k->out.getD k false=true):EuI nx A B out todo (some (c,j+1)):=by
 refine⟨h.len,h.td,h.snd,h.bas,λc' d e=>?_,h.cnt⟩;obtain h4|h4|⟨l,h4,i⟩:=h.cls c' d e
 .exact .inl h4
 .exact .inr (.inl h4)
 .obtain⟨rfl,rfl⟩:=R6 (R4 h4);refine .inr (.inr ⟨j+1,rfl,λk' a b=>?_⟩);rw[QY,Pq hj,f]at a;obtain a|a:=Ql.1 a
  .exact i k' a b
  .have:k'=k:=by have:=QC.1 a;omega
   subst this;exact g b
theorem EuI.mark{c j k:Nat}(t:c<nx.length)(s:out.getD c false=true)(h:EuI nx A B out todo (some (c,j)))(hj:j<((Lh nx).getD c []).length)(o:((Lh nx).getD c [])[j]=(k:Int))(v:A k)(r:out.getD k false=false):
  EuI nx A B (out.set k true) (todo++[(k:Int)]) (some (c,j+1))/\k<nx.length:=by
 have m:(k:Int)∈(Lh nx).getD c []:=o▸PL hj;obtain⟨_,p⟩:=turnE_mem.1 m;have d:=p.lt1;have g:∀i,(out.set k true).getD i false=if k=i then true else out.getD i false:=λi=>tC (by rw[h.len];exact d);have up:∀i,out.getD i false=true->(out.set k true).getD i false=true:=λi hi=>by rw[g];split;rfl;exact hi
 refine⟨⟨by simp[h.len],λx f=>?_,λi hi a=>?_,λi hi u=>up i (h.bas i hi u),λi hi a=>?_,?_⟩,d⟩
 .obtain f|f:=Ql.1 f
  .obtain⟨h1,h2,h3⟩:=h.td x f;exact⟨h1,h2,up _ h3⟩
  .rw[QC]at f;subst f;exact⟨by omega,by omega,by rw[g];simp⟩
 .rw[g]at a;split at a
  .rename_i e;subst e;exact .step v p (h.snd c t s)
  .exact h.snd i hi a
 .rw[g]at a;split at a
  .rename_i e;subst e;exact .inl (Qn _ TO)
  .obtain h4|h4|⟨y,h4,w⟩:=h.cls i hi a
   .exact .inl (Qm _ h4)
   .exact .inr (.inl λq hq l=>up q (h4 q hq l))
   .obtain⟨rfl,rfl⟩:=R6 (R4 h4);refine .inr (.inr ⟨j+1,rfl,λk' b n=>?_⟩);rw[QY,Pq hj,o]at b;obtain b|b:=Ql.1 b
    .exact up _ (w k' b n)
    .have:k'=k:=by have:=QC.1 b;omega
     subst this;rw[g];simp
 .have:=L0 (out:=out) (by rw[h.len];exact d) r;have:=h.cnt;rw[PX];simp;omega
end
def Ld(out:List Bool)(i:Nat):List Int:=((range i).filter λc=>out.getD c false).map λc:Nat=>(c:Int)
def Lf{out:List Bool}{i:Nat}:Ld out (i+1)=Ld out i++if out.getD i false=true then [(i:Int)]else []:=by
 unfold Ld;rw[QQ,O5,Qe];congr 1;cases h:out.getD i false with
 |false=>rw[O8 (by rw[h];decide)];rfl
 |true=>rw[O9 (by rw[h])];rfl
def trueL_mem{out:List Bool}{i c:Nat}:(c:Int)∈Ld out i↔c<i/\out.getD c false=true:=by
 unfold Ld;rw[Qv];constructor
 .rintro⟨x,a,e⟩;obtain rfl:x=c:=by omega
  obtain⟨h1,h2⟩:=Qs.1 a;exact⟨QA.1 h1,h2⟩
 .rintro⟨h1,h2⟩;exact⟨c,Qs.2 ⟨QA.2 h1,h2⟩,rfl⟩
def Le{out:List Bool}:∀i,i<=out.length->(Ld out i).length+(out.take i).countP (λb=>!b)=i
 |0,_=>by simp[Ld]
 |i+1,h=>by
  have hi:i<out.length:=by omega
  have a:=Le (out:=out) i TK;rw[Lf,PX,QY,Pq hi,ON,MR hi];cases c:out[i]<;>simp<;>omega
def EuI.start{nx:bV}{A B:Nat->Prop}:EuI nx A B (jt nx.length B) (Ld (jt nx.length B) nx.length) none:=by
 refine⟨jw,λx b=>?_,λc a h=>.here ((jv a).1 h),λc a h=>(jv a).2 h,λc a h=>.inl (trueL_mem.2 ⟨a,h⟩),?_⟩
 .obtain⟨c,a,rfl⟩:∃c:Nat,c<nx.length/\x=(c:Int):=by unfold Ld at b;obtain⟨c,a,rfl⟩:=Qv.1 b;exact⟨c,QA.1 (Qs.1 a).1,rfl⟩
  exact⟨by omega,by omega,(trueL_mem.1 b).2⟩
 .have:=Le (out:=jt nx.length B) nx.length (by rw[jw];exact Rq _);rw[Q1 (by rw[jw];exact Rq _)]at this;unfold LZ;omega
def AP(w0:World){b:Nat}{nx fr:bV}{lb:List Nat}(hL:LabAt w0 b nx lb fr)(hok:okG nx)(hn:nx.length<=600){ao:Option Addr}{P Q:Nat->Prop}(ha:Sl w0 (dk w0) ao B (jt nx.length P))(hb:Sl w0 (dk w0) C a (jt nx.length Q)):
  Rt Vy 103 [Au b,.slice ao (jt nx.length P).length B,.slice C (jt nx.length Q).length a].toArray w0 λv w'=>Own w' w0.heap.size 4 dh v (jt nx.length (pK nx fr P Q))/\Ext w0 w':=by
 have hL0:=hL;obtain⟨a1,c1,n1,a2,c2,a3,c3,a4,c4,fo,fc,ro,rc,hlb,h2,h3,h4,h5,h6⟩:=hL;refine dT func103 ntmps103 rfl rfl (UN ?_);refine eK (AG w0 hL0 hn hb h5) ?_;rintro _ w1 ⟨d,e1⟩;rename_i ov;have hov:∃oo oc,ov=.slice oo nx.length oc:=by obtain⟨oo,oc,e⟩:=d.val;rw[jw]at e;exact⟨oo,oc,e⟩
 obtain⟨oo,oc,rfl⟩:=hov;refine Ut ?_;refine p8 (S:=Nat×Value) (λs=>[(0,Au b),(1,.slice ao (jt nx.length P).length B),(7,.slice oo nx.length oc),(8,s.2),(21,.slice oo nx.length oc),(22,Ub nx.length),(23,Ub s.1)])
  (λs w=>s.1<=nx.length/\Own w w0.heap.size 4 dh (.slice oo nx.length oc) (jt nx.length λi=>Q i/\qr nx fr i)/\Own w w0.heap.size 3 dh s.2 (Ld (jt nx.length λi=>Q i/\qr nx fr i) s.1)/\(∀g,s.2.ownBlock=some g->Value.ownBlock (.slice oo nx.length oc)≠some g)/\Ext w0 w)
  (λs=>nx.length -s.1) (0,.slice none 0 0) TJ ⟨RU _,d,r3,(λg l=>by cases l),e1⟩ ?_
 .clear d e1;rintro⟨i,tv⟩ w2 ⟨hi,d,m,hd,n⟩;dsimp only at hi d m hd n⊢;have hle:=Le (out:=jt nx.length λi=>Q i/\qr nx fr i) i (by rw[jw];exact hi);refine UR ?_;apply ld rfl<;>intro h
  .have M:i<nx.length:=by simp at h;omega
   have V:i<(jt nx.length λi=>Q i/\qr nx fr i).length:=by rw[jw];exact M
   have G:=Lf (out:=jt nx.length λi=>Q i/\qr nx fr i) (i:=i);refine UB ?_;refine fh (i:=i) rfl rfl rfl rfl rfl d V TV (λu q J=>?_);rw[J.bool,<-MR V];clear J;generalize (jt nx.length λi=>Q i/\qr nx fr i).getD i false=c at*;cases c with
   |false=>
    rw[Tm TN,OH]at G;rw[<-G]at m;refine UA ?_;exact m5 (i+1,tv) TJ ⟨M,d,m,hd,n⟩ TP
   |true=>
    rw[Tn rfl]at G;refine UY ?_;refine eF (α:=Int) (F:=dh) (bytes:=8) rfl rfl TV rfl rfl TV m T7 n.size TY TN TQ TK (λtv' w3 q R Z U=>?_);rw[<-G]at R;refine Ui ?_;exact m5 (i+1,tv') TJ ⟨M,d.keptN Z (λg l e=>hd g e.symm l),R,λg l e=>by
     obtain h|h:=U g l
     .exact hd g h e
     .have:=(d.lt g e).2.1;omega,n.grown Z n.size (λg l=>(m.lt g l).1)⟩ TP
  obtain rfl:i=nx.length:=by simp at h;omega
  have hI0:EuI nx P (λi=>Q i/\qr nx fr i) _ _ none:=EuI.start;generalize Ld (jt nx.length λi=>Q i/\qr nx fr i) nx.length=todo at*;generalize (jt nx.length λi=>Q i/\qr nx fr i)=out at*;refine U1 ?_;refine p8 (S:=List Bool×Value×List Int) (λs=>[(0,Au b),(1,.slice ao (jt nx.length P).length B),(7,.slice oo nx.length oc),(8,s.2.1)])
   (λs w=>EuI nx P (λi=>Q i/\qr nx fr i) s.1 s.2.2 none/\Own w w0.heap.size 4 dh (.slice oo nx.length oc) s.1/\Own w w0.heap.size 3 dh s.2.1 s.2.2/\(∀g,s.2.1.ownBlock=some g->Value.ownBlock (.slice oo nx.length oc)≠some g)/\Ext w0 w)
   (λs=>s.2.2.length+2*LZ s.1) (out,tv,todo) TJ ⟨hI0,d,m,hd,n⟩ ?_
  clear hI0 d m hd n hle h tv;rintro⟨out,tv,todo⟩ w2 ⟨o,d,m,hd,n⟩;dsimp only at o d m hd n⊢;refine U5 ?_;apply ld rfl<;>intro h
  .have E:0<todo.length:=by simpa using h
   obtain⟨x,r,rfl⟩:∃x r,todo=x::r:=by
    cases todo with
    |nil=>simp at E
    |cons x r=>exact⟨x,r,rfl⟩
   obtain⟨hx0,hxn,I⟩:=o.td x TO;obtain⟨c,rfl⟩:∃c:Nat,x=(c:Int):=⟨x.toNat,by omega⟩;rw[Oy]at I;have hc:c<nx.length:=by omega
   have hct:c<(Lh nx).length:=by rw[Li];exact hc
   have hb2:=hlb.ext n;have p:=h6.at n;refine UB ?_;refine fh (i:=0) rfl rfl rfl rfl rfl m TO TV (λu q J=>?_);rw[J.int];simp only[PE];refine UR ?_;refine eV (α:=Int) 1 rfl rfl rfl rfl rfl m TO (λtv2 K hnb=>?_);rw[List.drop_one,List.tail_cons]at K;refine UN ?_;refine fd (i:=c) rfl rfl rfl rfl rfl p hct TV (λu2 q2 N=>?_);obtain⟨po,pc,rfl,hp⟩:=N.sl;have hpl:=hp.len63;have W:(Lh nx)[c]=(Lh nx).getD c []:=(MS hct).symm;rw[W]at hp hpl⊢;clear m E J N W p hb2;refine Uz ?_;refine p8 (S:=Nat×List Bool×Value×List Int) (λs=>[(0,Au b),(1,.slice ao (jt nx.length P).length B),(7,.slice oo nx.length oc),(8,s.2.2.1),(48,.slice po ((Lh nx).getD c []).length pc),(49,Ub ((Lh nx).getD c []).length),(50,Ub s.1)])
    (λs w=>s.1<=((Lh nx).getD c []).length/\EuI nx P (λi=>Q i/\qr nx fr i) s.2.1 s.2.2.2 (some (c,s.1))/\s.2.1.getD c false=true/\Own w w0.heap.size 4 dh (.slice oo nx.length oc) s.2.1/\Own w w0.heap.size 3 dh s.2.2.1 s.2.2.2/\(∀g,s.2.2.1.ownBlock=some g->Value.ownBlock (.slice oo nx.length oc)≠some g)/\Ext w0 w/\s.2.2.2.length+2*LZ s.2.1+1<=((c:Int)::r).length+2*LZ out)
    (λs=>((Lh nx).getD c []).length -s.1) (0,out,tv2,r) TJ ⟨RU _,o.pop,I,d,K,(λg l=>hd g (hnb▸l)),n,by simp only[PY];omega⟩ ?_
   clear o d K hd I hnb;rintro⟨j,o2,tv3,t2⟩ w3 ⟨hj,o,D,d,m,hd,H,y⟩;dsimp only at hj o D d m hd H y⊢;refine UR ?_;apply ld rfl<;>intro h
   .have f:j<((Lh nx).getD c []).length:=by simp only[Td]at h;omega
    obtain⟨k,hk⟩:∃k:Nat,((Lh nx).getD c [])[j]=(k:Int):=⟨(((Lh nx).getD c [])[j]).toNat,by have:=Dx (Lk nx) c _ (PL f);omega⟩;have L:k<nx.length:=by have:=Dx (Lk nx) c _ (PL f);rw[Li]at this;omega
    have hp3:Sl w3 (dk w0) po pc ((Lh nx).getD c []):=hp.mono (λb hb=>(H.block b hb).trans (n.block b hb).symm) T0;have haa:=ha.up H;have bP:=jv (P:=P) L;have z:k<o2.length:=by rw[o.len];exact L
    refine UC ?_;refine e_ hp3 f hk TV (λq=>?_);refine UR ?_;refine eY rfl rfl rfl rfl rfl haa (show k<_ by rw[jw];exact L) (MR _).symm TV (λq2=>?_);generalize (jt nx.length P).getD k false=pk at*;cases pk with
    |false=>
     refine UA ?_;exact m5 (j+1,o2,tv3,t2) TJ ⟨f,o.skip f hk (λh=>by have:=bP.2 h;cases this),D,d,m,hd,H,y⟩ TP
    |true=>
     refine U9 ?_;refine fh (i:=k) rfl rfl rfl rfl rfl d z TV (λu q3 J=>?_);rw[J.bool,<-MR z];cases t:o2.getD k false with
     |true=>
      refine US ?_;exact m5 (j+1,o2,tv3,t2) TJ ⟨f,o.skip f hk (λ_=>t),D,d,m,hd,H,y⟩ TP
     |false=>
      obtain⟨hI4,_⟩:=o.mark hc D f hk (bP.1 rfl) t;have hu4:=L0 z t;have hcnt:=hI4.cnt;have hcnt':=o.cnt;refine UY ?_;refine fX (u:=.bool true) (yv:=true) rfl rfl rfl rfl d z TV TV (VF _ _ _) (λw4 q4 ho4 Y=>?_);have e4:Ext w0 w4:=H.grown Y H.size (λg l=>(d.lt g l).1);have O:=m.keptN Y (λg l e=>hd g l e.symm);refine UR ?_;refine eF (α:=Int) (F:=dh) (bytes:=8) rfl rfl TV rfl rfl TV O T7 e4.size TY TN TQ TK (λtv' w5 q5 ht5 X T=>Ui ?_);refine m5 (j+1,o2.set k true,tv',t2++[(k:Int)]) TJ ⟨f,hI4,?_,ho4.keptN X (λg l e=>hd g e.symm l),ht5,λg l e=>?_,e4.grown X e4.size (λg l=>(O.lt g l).1),?_⟩ TP
      .dsimp only;rw[tC z];split;rfl;exact D
      .obtain h|h:=T g l
       .exact hd g h e
       .have:=(ho4.lt g e).2.1;omega
      .dsimp only;rw[PX];simp only[PY,P5]at y⊢;omega
   .have f:((Lh nx).getD c []).length<=j:=by simp only[Tb]at h;omega
    refine Un ?_;exact m5 (o2,tv3,t2) TJ ⟨o.rowEnd f,d,m,hd,H⟩ (by dsimp only;simp only[PY]at y⊢;omega)
  .have E:todo=[]:=O2 (by simpa using h);subst E;rw[o.done hok]at d;refine UF ?_;exact be ⟨d,n⟩
def AL(w0:World){b:Nat}{nx fr:bV}{lb:List Nat}(e:LabAt w0 b nx lb fr)(a:WOk nx fr){ao:Option Addr}{P:Nat->Prop}(d:Sl w0 (dk w0) ao B (jt nx.length P)):
  Rt Vy 104 [Au b,.slice ao (jt nx.length P).length B].toArray w0 λv w'=>Own w' w0.heap.size 4 dh v (jt nx.length (oJ nx fr P))/\Ext w0 w':=by
 obtain⟨a1,c1,n1,a2,c2,a3,c3,a4,c4,fo,fc,h,rc,hlb,h2,h3,h4,j,i⟩:=e;refine dS func104 ntmps104 rfl rfl (U3 ?_);refine eK (gg w0 (inn:=jt nx.length P) (n1:=n1) (a1:=a1) (c1:=c1) h2 h4 d a.g a.f jw a.n a.e) ?_;rintro _ g ⟨c,f⟩;rw[MY a.g]at c;refine Uf ?_;exact be ⟨c,f⟩
def Own.asSl{e:TypeId}{xs:List Bool}(h:Own w B e dh v xs):∃ao cap,v=.slice ao xs.length cap/\Sl w (dk w) ao cap xs:=h.oldN.sl
def AD(w0:World){b:Nat}{nx fr:bV}{lb:List Nat}(E:LabAt w0 b nx lb fr)(Y:WOk nx fr){ao:Option Addr}{P Q:Nat->Prop}(ha:Sl w0 (dk w0) ao B (jt nx.length P))(X:Sl w0 (dk w0) C a (jt nx.length Q)):
  Rt Vy 105 [Au b,.slice ao (jt nx.length P).length B,.slice C (jt nx.length Q).length a].toArray w0 λv w'=>Own w' w0.heap.size 4 dh v (jt nx.length (iH nx fr P Q))/\Ext w0 w':=by
 have hn:=Y.n;refine dT func105 ntmps105 rfl rfl (UR ?_);refine eK (A8 w0 E hn X) ?_;rintro _ w1 ⟨m,U⟩;obtain⟨xo,xc,rfl,J⟩:=m.asSl;refine U9 ?_;refine eK (A8 w1 (E.up U) hn (ha.up U)) ?_;rintro _ w2 ⟨I,e2⟩;obtain⟨yo,yc,rfl,hy⟩:=I.asSl;have G:=U.trans e2;refine U9 ?_;refine eK (A8 w2 (E.up G) hn (X.up G)) ?_;rintro _ w3 ⟨H,T⟩;obtain⟨zo,zc,rfl,hz⟩:=H.asSl;have G:=G.trans T;refine eK (AG w3 (E.up G) hn (hy.up T) hz) ?_;rintro _ w4 ⟨K,e4⟩;obtain⟨vo,vc,rfl,hv⟩:=K.asSl;have y:=G.trans e4;refine eK (AP w4 (E.up y) Y.g hn (J.up (e2.trans (T.trans e4))) hv) ?_;rintro bv w5 ⟨d,e5⟩;have x:=y.trans e5;have d:=d.low (B':=w0.heap.size) y.size;clear J hy hz hv m I H K U e2 T e4 e5 G y;refine UR ?_;refine eK (A8 w5 (E.up x) hn (X.up x)) ?_;rintro _ w6 ⟨m,e6⟩;obtain⟨xo,xc,rfl,J⟩:=m.asSl;have t:=x.trans e6;have d:=d.extN e6;have M:=λg f=>(d.lt g f).2.1;refine eK (AL w6 (E.up t) Y J) ?_;rintro gv w7 ⟨f,Z⟩;have R:=t.trans Z;have d:=d.extN Z;have W:∃go gc,gv=.slice go nx.length gc:=by obtain⟨go,gc,e⟩:=f.val;rw[jw]at e;exact⟨go,gc,e⟩
 obtain⟨go,gc,rfl⟩:=W;have z:∀g,bv.ownBlock=some g->Value.ownBlock (.slice go nx.length gc)≠some g:=λg h1 h2=>by have:=M g h1;have:=(f.lt g h2).1;omega
 have f:=f.low (B':=w0.heap.size) t.size;have j:(jt nx.length (pK nx fr (λi=>¬Q i) λi=>¬P i/\¬Q i)).length=nx.length:=jw;have l:∀c,c<nx.length->((jt nx.length (pK nx fr (λi=>¬Q i) λi=>¬P i/\¬Q i)).getD c false=true↔pK nx fr (λi=>¬Q i) (λi=>¬P i/\¬Q i) c):=λc D=>jv D;generalize jt nx.length (pK nx fr (λi=>¬Q i) λi=>¬P i/\¬Q i)=out at*;clear M J m e6 Z;refine Uz ?_;refine p8 (S:=Nat×List Bool) (λs=>[(0,Au b),(7,bv),(27,.slice go nx.length gc),(28,Ub nx.length),(29,Ub s.1)])
  (λs w=>s.1<=nx.length/\s.2.length=nx.length/\(∀c,c<nx.length->(s.2.getD c false=true↔pK nx fr (λi=>¬Q i) (λi=>¬P i/\¬Q i) c\/(c<s.1/\oJ nx fr (λi=>¬Q i) c)))/\Own w w0.heap.size 4 dh bv s.2/\Own w w0.heap.size 4 dh (.slice go nx.length gc) (jt nx.length (oJ nx fr λi=>¬Q i))/\Ext w0 w)
  (λs=>nx.length -s.1) (0,out) TJ ⟨RU _,j,λc D=>by rw[l c D];exact⟨.inl,λh=>h.elim id (λh=>absurd h.1 (RF _))⟩,d,f,R⟩ ?_
 clear j l d f R t x;rintro⟨i,o⟩ w8 ⟨hi,j,l,d,f,F⟩;dsimp only at hi j l d f F⊢;obtain⟨oo,oc,hov⟩:=d.val;refine UR ?_;apply ld rfl<;>intro h
 .have p:i<nx.length:=by simp at h;omega
  have N:i<(jt nx.length (oJ nx fr λi=>¬Q i)).length:=by rw[jw];exact p
  have n:i<o.length:=by omega
  have bG:=jv (P:=oJ nx fr λi=>¬Q i) p;have bO:=l i p;refine UB ?_;refine fh (i:=i) rfl rfl rfl rfl rfl f N TV (λu q L=>?_);rw[L.bool,<-MR N];clear L;generalize (jt nx.length (oJ nx fr λi=>¬Q i)).getD i false=gb at*;refine UR ?_;refine fh (i:=i) rfl rfl rfl rfl rfl d n TV (λu q2 L=>?_);rw[L.bool,<-MR n];clear L;have fin:∀c:Bool,(c=true↔pK nx fr (λi=>¬Q i) (λi=>¬P i/\¬Q i) i\/oJ nx fr (λi=>¬Q i) i)->∀k,k<nx.length->((o.set i c).getD k false=true↔pK nx fr (λi=>¬Q i) (λi=>¬P i/\¬Q i) k\/(k<i+1/\oJ nx fr (λi=>¬Q i) k)):=λc D k hk=>by
   rw[tC n];by_cases e:i=k
   .subst e;rw[Tn rfl,D];exact Tv Og ⟨λh=>⟨Nat.lt_succ_self _,h⟩,λh=>h.2⟩
   .rw[Tm e,l k hk];exact Tv Og (SZ TK Og)
  generalize o.getD i false=ob at*;cases ob with
  |true=>
   refine Ve ?_;refine fX (u:=.bool true) (yv:=true) rfl rfl rfl rfl d n TV TV (VF _ _ _) (λw9 q4 ho4 r=>Ui ?_);refine m5 (i+1,o.set i true) TJ ⟨p,by simpa using j,fin true ⟨λ_=>(bO.1 rfl).imp id (λh=>h.2),λ_=>rfl⟩,ho4,f.keptN r (λg h1 e=>z g e.symm h1),F.grown r F.size (λg f=>(d.lt g f).1)⟩ TP
  |false=>
   refine U9 ?_;refine fX (u:=.bool gb) (yv:=gb) rfl rfl rfl rfl d n TV TV (VF _ _ _) (λw9 q4 ho4 r=>Ui ?_);refine m5 (i+1,o.set i gb) TJ ⟨p,by simpa using j,fin gb ⟨λh=>.inr (bG.1 h),λh=>h.elim (λh=>by have:=bO.2 (.inl h);cases this) (λh=>bG.2 h)⟩,ho4,f.keptN r (λg h1 e=>z g e.symm h1),F.grown r F.size (λg f=>(d.lt g f).1)⟩ TP
 obtain rfl:i=nx.length:=by simp at h;omega
 have O:o=jt nx.length λc=>pK nx fr (λi=>¬Q i) (λi=>¬P i/\¬Q i) c\/oJ nx fr (λi=>¬Q i) c:=jx j λc D=>by rw[l c D];exact Tv Og ⟨λh=>h.2,λh=>⟨D,h⟩⟩
 subst O;obtain⟨oo,oc,rfl,V⟩:=d.asSl;refine UF ?_;refine eK (A8 w8 (E.up F) hn V) ?_;rintro _ w9 ⟨ho9,e9⟩;refine Uf ?_;exact be ⟨ho9.low F.size,F.trans e9⟩
def A1{l:List α}(h:l.length=2):∃x y,l=[x,y]:=by
 match l,h with
 |[x,y],_=>exact⟨x,y,rfl⟩
mutual
def Dt:Ltl->Prop
 |.mk k n kids=>Ad k=kids.length/\0<=n/\n<=63/\Du kids
def Du:List Ltl->Prop
 |[]=>True
 |x::r=>Dt x/\Du r
end
def Dv:∀{l:List Ltl} {x:Ltl},Du l->x∈l->Dt x
 |y::r,x,h,a=>by
  rw[Du]at h;obtain rfl|a:=Qo.1 a
  .exact h.1
  .exact Dv h.2 a
mutual
theorem ky:∀(t:Ltl) (deep c:Int),(kp t deep c).1=0->Dt t
 |.mk k n kids,deep,c,h=>by
  simp only[kp]at h
  split at h
  .cases h
  split at h
  .cases h
  split at h
  .cases h
  rename_i h3;rw[Dt];exact⟨by omega,by omega,by omega,kt kids _ _ h⟩
theorem kt:∀(l:List Ltl) (deep c:Int),(kq l deep c).1=0->Du l
 |[],_,_,_=>by rw[Du];trivial
 |x::r,deep,c,h=>by
  simp only[kq]at h
  split at h
  .rename_i h1;exact absurd h h1
  rename_i h1;rw[Du];exact⟨ky x _ _ (by simpa using h1),kt r _ _ h⟩
end
instance:IsT Vy 80 Raw:=VL TL SM rfl
instance:IsZ Vy 80 (⟨.slice none 0 0⟩:Raw) 24:=VV (z:=.slice none 0 0) TL (λ_ _=>⟨rfl,rfl⟩)
def A3(w:World)(x:Nat):Rt Vy 97 [Ub (x:Int)].toArray w λv w'=>v=.bool true/\Ext w w':=by refine dR func97 ntmps97 rfl rfl (Up ?_);exact be ⟨rfl,p7 _⟩
def MU{l:List Nat}{j:Nat}(h:j<l.length):l.getD j 0=l[j]:=by rw[Pl,Pq h];rfl
def A4(w:World){b b2 x:Nat}{nx fr:bV}{lb:List Nat}(l:LabAt w b nx lb fr){k n:Int}(j:Blk w B 135 [Au b])(i:Blk w b2 35 [Ub k,Ub n,A])(f:x<lb.length)(hn:0<=n):
  Rt Vy 98 [Ub (x:Int),Uc B,Uc b2].toArray w λv w'=>∃c:Bool,v=.bool c/\(c=true↔lb.getD x 0 >>> n.toNat&&&1=1)/\Ext w w':=by
 obtain⟨a1,c1,n1,a2,c2,a3,c3,a4,c4,fo,fc,s,bc,o,h2,h3,h4,r,p⟩:=l;refine dT func98 ntmps98 rfl rfl (U6 ?_);refine dz rfl rfl rfl rfl rfl T0 h3 f TV (λu q g=>?_);obtain⟨rfl,d⟩:=g.u64;rw[MU f];generalize lb[x]=a at*;refine Vi ?_;refine dL rfl rfl rfl rfl d hn ?_;have h:a >>> n.toNat<18446744073709551616:=Ru (RO _ _) d;refine du rfl rfl rfl rfl h (U_ ?_);refine VD λw' e=>UQ ?_;refine d6 ⟨_,rfl,?_,e⟩;generalize a >>> n.toNat&&&1=m;simp;omega
def A5(w:World){x N:Nat}{P Q:Nat->Prop}(l:Blk w B 200 [.slice C ([jt N P,jt N Q]:List (List Bool)).length a])(k:Sl w (dk w) C a [jt N P,jt N Q])(f:x<N):
  Rt Vy 101 [Ub (x:Int),Uc B].toArray w λv w'=>∃c:Bool,v=.bool c/\(c=true↔P x\/Q x)/\Ext w w':=by
 refine dS func101 ntmps101 rfl rfl (Uy ?_);refine fd (i:=0) rfl rfl rfl rfl rfl k TO TV (λu q e=>?_);simp only[PE]at e;obtain⟨uo,uc,rfl,j⟩:=e.sl;have d:x<(jt N P).length:=by rw[jw];exact f
 have bP:=jv (P:=P) f;have bQ:=jv (P:=Q) f;refine U9 ?_;refine eY rfl rfl rfl rfl rfl j d (MR d).symm TV (λq=>?_);generalize (jt N P).getD x false=c at*;cases c with
 |true=>
  refine UK ?_;exact d6 ⟨_,rfl,⟨λ_=>.inl (bP.1 rfl),λ_=>rfl⟩,p7 _⟩
 |false=>
  refine Vc ?_;refine fd (i:=1) rfl rfl rfl rfl rfl k TO TV (λu q e=>?_);simp only[PD,PE]at e;obtain⟨vo,vc,rfl,g⟩:=e.sl;have b:x<(jt N Q).length:=by rw[jw];exact f
  refine U9 ?_;refine eY rfl rfl rfl rfl rfl g b (MR b).symm TV (λq=>?_);generalize (jt N Q).getD x false=c at*;refine Uf ?_;exact d6 ⟨_,rfl,⟨λh=>.inr (bQ.1 h),λh=>h.elim (λh=>by have:=bP.2 h;cases this) bQ.2⟩,p7 _⟩
set_option maxRecDepth 100000 in
def Aw{nx fr:bV}{lb:List Nat}(hW:WOk nx fr)(hlb:lb.length=nx.length):∀(m:Nat) (t:Ltl),t.nodes<=m->Dt t->∀(w0:World) (b:Nat) (ao:Option Addr) (cap:Nat),LabAt w0 b nx lb fr->Sl w0 (dk w0) ao cap t.kids->
  Rt Vy 55 [Au b,Bi t.k t.n ao t.kids.length cap].toArray w0 λv w'=>Own w' w0.heap.size 4 dh v (jt nx.length (mE nx lb fr t))/\Ext w0 w'
 |0,t,hm=>by have:=t.nodes_pos;omega
 |m+1,.mk k n kids,hm=>by
  intro hC w0 b ao cap G hs;simp only[Ltl.kids,Ltl.k,Ltl.n]at*;rw[Dt]at hC;obtain⟨K,hn0,hn1,hCk⟩:=hC;have hn:=hW.n;have hlen:=hs.len63;have hk2:kids.length<=2:=by unfold Ad at K;split at K<;>first|omega|(split at K<;>first|omega|(split at K<;>omega))
  refine dS func55 ntmps55 rfl rfl (UZ ?_);refine eH λw1 C e1=>?_;refine eH λw2 H e2=>?_;have C:=C.ext e2;have hE:=e1.trans e2;have hz1:=e1.size;have hz2:=e2.size;have hl2:=C.lt;have hl3:=H.lt;refine Uy ?_;refine eK (ou w2 (P:=λ_=>True) (G.up hE) hn (λw x O hx=>VE (f:=97) (cs:=[]) (VR (A3 w x) (λv w' hv=>⟨true,hv.1,⟨λ_=>trivial,λ_=>rfl⟩,hv.2⟩)))) ?_;rintro av I ⟨U,e3⟩;have C:=C.ext e3;have H:=H.ext e3;have hE:=hE.trans e3;have hal:∀g,av.ownBlock=some g->g<I.heap.size:=λg E=>(U.lt g E).2.1;have U:=U.low (B':=w0.heap.size) (Rr hz1 hz2);refine UR ?_;refine eC (λw4 J e4=>?_);have C:=C.ext e4;have H:=H.ext e4;have hE:=hE.trans e4;have U:=U.extN e4;have hl6:=J.lt;have hz3:=e3.size;refine UE ?_;refine p8 (S:=Nat×Value×List Raw) (λs=>[(2,Uc w0.heap.size),(3,Uc w1.heap.size),(5,av),(6,Uc I.heap.size),(12,.slice ao kids.length cap),(13,Ub kids.length),(14,Ub s.1)])
   (λs w=>s.1<=kids.length/\Blk w I.heap.size 200 [s.2.1]/\Own w w4.heap.size 80 dh s.2.1 s.2.2/\InnR w (λb=>s.2.1.ownBlock=some b\/b=I.heap.size) s.2.2 ((kids.take s.1).map λx=>jt nx.length (mE nx lb fr x))/\Chg (λb=>b=I.heap.size) w4 w)
   (λs=>kids.length -s.1) (0,.slice none 0 0,[]) TJ ⟨RU _,J,r3,Wc,VM _ _⟩ ?_
  .clear J;rintro⟨i,kv,vs⟩ a ⟨hi,J,X,T,L⟩;dsimp only at hi J X T L⊢;have hz5:=L.size;have hvl:vs.length=i:=by rw[T.len,P4,Qb];omega
   have c:Ext w0 a:=L.ext hE (λb hb=>by omega);have C:Blk a w0.heap.size 135 [Au b]:=(L.block _ TK TK).trans C;have H:Blk a w1.heap.size 35 [Ub k,Ub n,.slice ao kids.length cap]:=(L.block _ TK TK).trans H;have hav5:Own a w0.heap.size 4 dh av (jt nx.length λ_=>True):=U.chg L (λg E e=>by have:=hal g E;omega);refine UR ?_;apply ld rfl<;>intro h
   .have Z:i<kids.length:=by simp at h;omega
    refine UC ?_;refine fe (hs.up c) Z TV (λu q hu=>?_);have htk:(kids.take (i+1)).map (λx=>jt nx.length (mE nx lb fr x))=(kids.take i).map (λx=>jt nx.length (mE nx lb fr x))++[jt nx.length (mE nx lb fr kids[i])]:=by rw[QY,Pq Z,Qe];rfl
    have hnode:(kids[i]).nodes<=m:=by have:=VU kids _ (PL Z);simp only[Ltl.nodes]at hm;omega
    have hCx:=Dv hCk (PL Z);generalize kids[i]=x at*;obtain⟨xo,xc,rfl,hx⟩:=hu.ltl;refine eC (λD hb8 B=>?_);refine f7 hb8 (λA hb8 hg7=>?_);have Q:Ext a A:=B.grown hg7 B.size TX;have C:=C.ext Q;have H:=H.ext Q;have J:=J.ext Q;have hl8:=hb8.lt;have hz7:=Q.size;have hkv7:=X.extN Q;have N:=λg E=>X.lt g E;have hE7:=c.trans Q;clear hu B hg7;have hD:Ext A (drew A):=mm A;have hzd:=hD.size;have hb2d:=C.ext hD;have hb6d:=J.ext hD;have hb8d:=hb8.ext hD;have hK2:∀u,(λz:World=>z.heap[w0.heap.size]?=(drew A).heap[w0.heap.size]?/\z.heap[I.heap.size]?=(drew A).heap[I.heap.size]?/\z.heap[a.heap.size]?=(drew A).heap[a.heap.size]?) u->u.heap[w0.heap.size]?=(drew A).heap[w0.heap.size]?:=λ_ h=>h.1;have hK6:∀u,(λz:World=>z.heap[w0.heap.size]?=(drew A).heap[w0.heap.size]?/\z.heap[I.heap.size]?=(drew A).heap[I.heap.size]?/\z.heap[a.heap.size]?=(drew A).heap[a.heap.size]?) u->u.heap[I.heap.size]?=(drew A).heap[I.heap.size]?:=λ_ h=>h.2.1;have hK8:∀u,(λz:World=>z.heap[w0.heap.size]?=(drew A).heap[w0.heap.size]?/\z.heap[I.heap.size]?=(drew A).heap[I.heap.size]?/\z.heap[a.heap.size]?=(drew A).heap[a.heap.size]?) u->u.heap[a.heap.size]?=(drew A).heap[a.heap.size]?:=λ_ h=>h.2.2;refine UG ?_;refine aF (λz:World=>z.heap[w0.heap.size]?=(drew A).heap[w0.heap.size]?/\z.heap[I.heap.size]?=(drew A).heap[I.heap.size]?/\z.heap[a.heap.size]?=(drew A).heap[a.heap.size]?) [Wr 0,Wr 1,Wr 2,Ws 3,Ws 4,Ws 5] 6 mixed TL ⟨rfl,rfl,rfl⟩ (Vk ?_);refine cm hK8 rfl rfl rfl rfl hb8d rfl (cy rfl (eK (Aw hW hlb m x hnode hCx (drew A) b xo xc (G.up (hE7.trans hD)) (hx.up (Q.trans hD))) ?_));rintro lv w8 ⟨hlv,M⟩;have hz8:=M.size;refine p0 (a8 ⟨M.block _ TK,M.block _ TK,M.block _ TK⟩ ?_);obtain⟨lo,lc,hlve⟩:=hlv.val;subst hlve;have hkv8:=(hkv7.extN hD).extN M;refine bW (α:=Raw) (F:=dh) (bytes:=24) (yv:=(⟨.slice lo (jt nx.length (mE nx lb fr x)).length lc⟩:Raw)) rfl rfl rfl rfl TV rfl rfl TV hkv8 (VO _ _ _ rfl) TK TY TN TQ TK
     (λz hz=>⟨(hz.block _ TK (λe=>by have:=N _ e.symm;omega)).trans (M.block _ TK),(hz.block _ TK (λe=>by have:=N _ e.symm;omega)).trans (M.block _ TK),(hz.block _ TK (λe=>by have:=N _ e.symm;omega)).trans (M.block _ TK)⟩) (λkv' w9 q9 ho9 hg9 hnb9=>?_)
    obtain⟨ko',kc',rfl⟩:=ho9.val;have hb69:=((hb6d.ext M).kept hg9 (λe=>by have:=N _ e.symm;omega));have hz9:=hg9.size;refine VK (bu rfl (f7 hb69 (λw10 hb10 hg10=>p0 (bx ?_))));have hlvs:Rd w8 (Fz w8 (λb=>kv.ownBlock=some b\/b=I.heap.size)) (.slice lo (jt nx.length (mE nx lb fr x)).length lc) (jt nx.length (mE nx lb fr x)):=
     hlv.rd.mono T5 (λg E=>E.elim (λh=>h.elim) (λE=>⟨(hlv.lt g E).2.1,λh=>by
      have h1:=(hlv.lt g E).1;obtain h|h:=h
      .have:=N g h;omega
      .omega⟩))
    have hin8:=(T.to (M':=λb=>kv.ownBlock=some b\/b=I.heap.size) (t1 _ ((Q.trans hD).trans M)) (λ_ h=>.inl h)).push hlvs;have hC9:Chg (λb=>kv.ownBlock=some b\/b=I.heap.size) w8 w10:=((VC hg9).wk (λ_ h=>.inl h)).grown hg10 (λg E=>by cases E;exact .inr rfl);have Y:=hin8.to (M':=λb=>Value.ownBlock (.slice ko' (vs++[(⟨.slice lo (jt nx.length (mE nx lb fr x)).length lc⟩:Raw)]).length kc')=some b\/b=I.heap.size) hC9 (λg E=>E.elim (λE=>(hnb9 g E).imp .inl id) (λE=>.inl (.inr E)));rw[<-htk]at Y;have hC10:Chg (λb=>b=I.heap.size) w4 w10:=(L.trans (t1 _ ((Q.trans hD).trans M))).then hC9 (λg E=>E.elim (λh=>.inr (N g h).1) .inl);refine Ui ?_;exact m5 (i+1,_,vs++[_]) TJ ⟨Z,hb10,ho9.keptN hg10 (λg E e=>by
     have:=R4 e;obtain h|h:=hnb9 g E
     .have:=N g h;omega
     .omega),Y,hC10⟩ TP
   .have hie:i=kids.length:=by simp at h;omega
    subst hie;rw[Q0]at T;obtain⟨ko,kc,rfl,d⟩:=T.old X;clear T X hi h L hvl;obtain⟨ao2,ac2,rfl,has⟩:=hav5.asSl;refine UU ?_;apply ld rfl<;>intro h
    .obtain rfl:k=1:=by simpa using h
     have j:kids.length=0:=by have:Ad 1=0:=rfl;omega
     obtain rfl:kids=[]:=O2 j;refine Ud ?_;exact be ⟨hav5,c⟩
    have n1:k≠1:=by simpa using h
    clear h;refine UR ?_;apply ld rfl<;>intro h
    .obtain rfl:k=3:=by simpa using h
     have j:kids.length=0:=by have:Ad 3=0:=rfl;omega
     obtain rfl:kids=[]:=O2 j;refine UO ?_;refine eK (ou a (P:=λi=>lb.getD i 0 >>> n.toNat&&&1=1) (G.up c) hn (λw x O hx=>VE (f:=98) (A4 w (G.up (c.trans O)) (C.ext O) (H.ext O) (by rw[hlb];exact hx) hn0))) ?_;rintro _ D ⟨ho,B⟩;refine UX ?_;exact be ⟨ho.low c.size,c.trans B⟩
    have n3:k≠3:=by simpa using h
    clear h;refine UR ?_;apply ld rfl<;>intro h
    .obtain rfl:k=4:=by simpa using h
     have j:kids.length=1:=by have:Ad 4=1:=rfl;omega
     obtain⟨x,rfl⟩:=P0.1 j;have d:Sl a (dk a) ko kc [jt nx.length (mE nx lb fr x)]:=d;have l:∀z,(λz:World=>Ext a z) z->Ext a z:=λ_ h=>h;refine UZ ?_;refine aG (λz:World=>Ext a z) [Wr 0,Wr 1,Wr 2,Wr 3,Ws 4,Wr 5] mixed TL (mm a) (Vl ?_);refine cd (k:=0) l rfl rfl rfl rfl rfl rfl rfl T0 d TO TV (λu0 q0 o=>?_);obtain⟨uo0,uc0,rfl,p⟩:=o.sl;refine cy rfl (eK (A8 (drew a) (G.up (c.trans (mm a))) hn (p.up (mm a))) ?_);rintro v6 D ⟨ho6,B⟩;have r:Ext a D:=VB (mm a) B;refine p0 (a8 r (Vr ?_));refine Uk ?_;exact be ⟨ho6.low (c.trans (mm a)).size,c.trans r⟩
    have n4:k≠4:=by simpa using h
    clear h;refine UR ?_;apply ld rfl<;>intro h
    .obtain rfl:k=5:=by simpa using h
     have j:kids.length=2:=by have:Ad 5=2:=rfl;omega
     obtain⟨x,y,rfl⟩:=A1 j;have d:Sl a (dk a) ko kc [jt nx.length (mE nx lb fr x),jt nx.length (mE nx lb fr y)]:=d;have l:∀z,(λz:World=>Ext a z) z->Ext a z:=λ_ h=>h;refine UZ ?_;refine aG (λz:World=>Ext a z) [Wr 0,Wr 1,Wr 2,Wr 3,Wr 4,Wr 5,Wr 6,Ws 7,Wr 8] mixed TL (mm a) (Vl ?_);refine cd (k:=0) l rfl rfl rfl rfl rfl rfl rfl T0 d TO TV (λu0 q0 o=>?_);obtain⟨uo0,uc0,rfl,p⟩:=o.sl;refine Vl ?_;refine cd (k:=1) l rfl rfl rfl rfl rfl rfl rfl T0 d TO TV (λu1 q1 V=>?_);obtain⟨uo1,uc1,rfl,W⟩:=V.sl;refine cy rfl (eK (AG (drew a) (G.up (c.trans (mm a))) hn (p.up (mm a)) (W.up (mm a))) ?_);rintro v6 D ⟨ho6,B⟩;have r:Ext a D:=VB (mm a) B;refine p0 (a8 r (Vr ?_));refine Uk ?_;exact be ⟨ho6.low (c.trans (mm a)).size,c.trans r⟩
    have n5:k≠5:=by simpa using h
    clear h;refine UR ?_;apply ld rfl<;>intro h
    .obtain rfl:k=6:=by simpa using h
     have j:kids.length=2:=by have:Ad 6=2:=rfl;omega
     obtain⟨x,y,rfl⟩:=A1 j;have d:Sl a (dk a) ko kc [jt nx.length (mE nx lb fr x),jt nx.length (mE nx lb fr y)]:=d;refine UO ?_;refine eK (ou a (P:=λi=>mE nx lb fr x i\/mE nx lb fr y i) (G.up c) hn (λw z O hz=>VE (f:=101) (A5 w (J.ext O) (d.up O) hz))) ?_;rintro _ D ⟨ho,B⟩;refine UX ?_;exact be ⟨ho.low c.size,c.trans B⟩
    have n6:k≠6:=by simpa using h
    clear h;refine UR ?_;apply ld rfl<;>intro h
    .obtain rfl:k=7:=by simpa using h
     have j:kids.length=1:=by have:Ad 7=1:=rfl;omega
     obtain⟨x,rfl⟩:=P0.1 j;have d:Sl a (dk a) ko kc [jt nx.length (mE nx lb fr x)]:=d;have l:∀z,(λz:World=>Ext a z) z->Ext a z:=λ_ h=>h;refine UZ ?_;refine aG (λz:World=>Ext a z) [Wr 0,Wr 1,Wr 2,Wr 3,Ws 4,Wr 5] mixed TL (mm a) (Vl ?_);refine cd (k:=0) l rfl rfl rfl rfl rfl rfl rfl T0 d TO TV (λu0 q0 o=>?_);obtain⟨uo0,uc0,rfl,p⟩:=o.sl;refine cy rfl (eK (AR (drew a) (G.up (c.trans (mm a))) hW.g hn (p.up (mm a))) ?_);rintro v6 D ⟨ho6,B⟩;have r:Ext a D:=VB (mm a) B;refine p0 (a8 r (Vr ?_));refine Uk ?_;exact be ⟨ho6.low (c.trans (mm a)).size,c.trans r⟩
    have n7:k≠7:=by simpa using h
    clear h;refine UR ?_;apply ld rfl<;>intro h
    .obtain rfl:k=8:=by simpa using h
     have j:kids.length=1:=by have:Ad 8=1:=rfl;omega
     obtain⟨x,rfl⟩:=P0.1 j;have d:Sl a (dk a) ko kc [jt nx.length (mE nx lb fr x)]:=d;have l:∀z,(λz:World=>Ext a z) z->Ext a z:=λ_ h=>h;refine UZ ?_;refine aG (λz:World=>Ext a z) [Wr 0,Wr 1,Wr 2,Wr 3,Wr 4,Ws 5,Wr 6] mixed TL (mm a) (Vq ?_);refine cd (k:=0) l rfl rfl rfl rfl rfl rfl rfl T0 d TO TV (λu0 q0 o=>?_);obtain⟨uo0,uc0,rfl,p⟩:=o.sl;refine cy rfl (eK (AP (drew a) (G.up (c.trans (mm a))) hW.g hn (has.up (mm a)) (p.up (mm a))) ?_);rintro v6 D ⟨ho6,B⟩;have r:Ext a D:=VB (mm a) B;refine p0 (a8 r (Vr ?_));refine Uk ?_;exact be ⟨ho6.low (c.trans (mm a)).size,c.trans r⟩
    have n8:k≠8:=by simpa using h
    clear h;refine UR ?_;apply ld rfl<;>intro h
    .obtain rfl:k=9:=by simpa using h
     have j:kids.length=1:=by have:Ad 9=1:=rfl;omega
     obtain⟨x,rfl⟩:=P0.1 j;have d:Sl a (dk a) ko kc [jt nx.length (mE nx lb fr x)]:=d;have l:∀z,(λz:World=>Ext a z) z->Ext a z:=λ_ h=>h;refine UZ ?_;refine aG (λz:World=>Ext a z) [Wr 0,Wr 1,Wr 2,Wr 3,Ws 4,Wr 5] mixed TL (mm a) (Vl ?_);refine cd (k:=0) l rfl rfl rfl rfl rfl rfl rfl T0 d TO TV (λu0 q0 o=>?_);obtain⟨uo0,uc0,rfl,p⟩:=o.sl;refine cy rfl (eK (AL (drew a) (G.up (c.trans (mm a))) hW (p.up (mm a))) ?_);rintro v6 D ⟨ho6,B⟩;have r:Ext a D:=VB (mm a) B;refine p0 (a8 r (Vr ?_));refine Uk ?_;exact be ⟨ho6.low (c.trans (mm a)).size,c.trans r⟩
    have n9:k≠9:=by simpa using h
    clear h;refine UR ?_;apply ld rfl<;>intro h
    .obtain rfl:k=10:=by simpa using h
     have j:kids.length=2:=by have:Ad 10=2:=rfl;omega
     obtain⟨x,y,rfl⟩:=A1 j;have d:Sl a (dk a) ko kc [jt nx.length (mE nx lb fr x),jt nx.length (mE nx lb fr y)]:=d;have l:∀z,(λz:World=>Ext a z) z->Ext a z:=λ_ h=>h;refine UZ ?_;refine aG (λz:World=>Ext a z) [Wr 0,Wr 1,Wr 2,Wr 3,Wr 4,Wr 5,Wr 6,Ws 7,Wr 8] mixed TL (mm a) (Vl ?_);refine cd (k:=0) l rfl rfl rfl rfl rfl rfl rfl T0 d TO TV (λu0 q0 o=>?_);obtain⟨uo0,uc0,rfl,p⟩:=o.sl;refine Vl ?_;refine cd (k:=1) l rfl rfl rfl rfl rfl rfl rfl T0 d TO TV (λu1 q1 V=>?_);obtain⟨uo1,uc1,rfl,W⟩:=V.sl;refine cy rfl (eK (AP (drew a) (G.up (c.trans (mm a))) hW.g hn (p.up (mm a)) (W.up (mm a))) ?_);rintro v6 D ⟨ho6,B⟩;have r:Ext a D:=VB (mm a) B;refine p0 (a8 r (Vr ?_));refine Uk ?_;exact be ⟨ho6.low (c.trans (mm a)).size,c.trans r⟩
    have n10:k≠10:=by simpa using h
    clear h;refine UR ?_;apply ld rfl<;>intro h
    .obtain rfl:k=11:=by simpa using h
     have j:kids.length=1:=by have:Ad 11=1:=rfl;omega
     obtain⟨x,rfl⟩:=P0.1 j;have d:Sl a (dk a) ko kc [jt nx.length (mE nx lb fr x)]:=d;have l:∀z,(λz:World=>Ext a z) z->Ext a z:=λ_ h=>h;refine UZ ?_;refine aG (λz:World=>Ext a z) [Wr 0,Wr 1,Wr 2,Wr 3,Wr 4,Wr 5,Ws 6,Ws 7,Ws 8,Wr 9] mixed TL (mm a) (Vl ?_);refine cd (k:=0) l rfl rfl rfl rfl rfl rfl rfl T0 d TO TV (λu0 q0 o=>?_);obtain⟨uo0,uc0,rfl,p⟩:=o.sl;refine cy rfl (eK (A8 (drew a) (G.up (c.trans (mm a))) hn (p.up (mm a))) ?_);rintro v6 D ⟨ho6,B⟩;have r:Ext a D:=VB (mm a) B;refine p0 (a8 r ?_);obtain⟨do6,dc6,rfl,hd6⟩:=ho6.asSl;refine cy rfl (eK (AR D (G.up (c.trans r)) hW.g hn hd6) ?_);rintro v7 A ⟨ho7,Q⟩;have R:Ext a A:=VB r Q;refine p0 (a8 R ?_);obtain⟨do7,dc7,rfl,hd7⟩:=ho7.asSl;refine cy rfl (eK (A8 A (G.up (c.trans R)) hn hd7) ?_);rintro v8 w8 ⟨ho8,M⟩;have x8:Ext a w8:=VB R M;refine p0 (a8 x8 (Vr ?_));refine Uk ?_;exact be ⟨ho8.low (c.trans R).size,c.trans x8⟩
    have n11:k≠11:=by simpa using h
    clear h;refine UR ?_;apply ld rfl<;>intro h
    .obtain rfl:k=12:=by simpa using h
     have j:kids.length=1:=by have:Ad 12=1:=rfl;omega
     obtain⟨x,rfl⟩:=P0.1 j;have d:Sl a (dk a) ko kc [jt nx.length (mE nx lb fr x)]:=d;have l:∀z,(λz:World=>Ext a z) z->Ext a z:=λ_ h=>h;refine UZ ?_;refine aG (λz:World=>Ext a z) [Wr 0,Wr 1,Wr 2,Wr 3,Wr 4,Wr 5,Ws 6,Ws 7,Ws 8,Wr 9] mixed TL (mm a) (Vl ?_);refine cd (k:=0) l rfl rfl rfl rfl rfl rfl rfl T0 d TO TV (λu0 q0 o=>?_);obtain⟨uo0,uc0,rfl,p⟩:=o.sl;refine cy rfl (eK (A8 (drew a) (G.up (c.trans (mm a))) hn (p.up (mm a))) ?_);rintro v6 D ⟨ho6,B⟩;have r:Ext a D:=VB (mm a) B;refine p0 (a8 r ?_);obtain⟨do6,dc6,rfl,hd6⟩:=ho6.asSl;refine cy rfl (eK (AL D (G.up (c.trans r)) hW hd6) ?_);rintro v7 A ⟨ho7,Q⟩;have R:Ext a A:=VB r Q;refine p0 (a8 R ?_);obtain⟨do7,dc7,rfl,hd7⟩:=ho7.asSl;refine cy rfl (eK (A8 A (G.up (c.trans R)) hn hd7) ?_);rintro v8 w8 ⟨ho8,M⟩;have x8:Ext a w8:=VB R M;refine p0 (a8 x8 (Vr ?_));refine Uk ?_;exact be ⟨ho8.low (c.trans R).size,c.trans x8⟩
    have n12:k≠12:=by simpa using h
    clear h;refine UR ?_;apply ld rfl<;>intro h
    .obtain rfl:k=13:=by simpa using h
     have j:kids.length=1:=by have:Ad 13=1:=rfl;omega
     obtain⟨x,rfl⟩:=P0.1 j;have d:Sl a (dk a) ko kc [jt nx.length (mE nx lb fr x)]:=d;have l:∀z,(λz:World=>Ext a z) z->Ext a z:=λ_ h=>h;refine UZ ?_;refine aG (λz:World=>Ext a z) [Wr 0,Wr 1,Wr 2,Wr 3,Wr 4,Wr 5,Wr 6,Ws 7,Ws 8,Ws 9,Wr 10] mixed TL (mm a) (Vq ?_);refine cd (k:=0) l rfl rfl rfl rfl rfl rfl rfl T0 d TO TV (λu0 q0 o=>?_);obtain⟨uo0,uc0,rfl,p⟩:=o.sl;refine cy rfl (eK (A8 (drew a) (G.up (c.trans (mm a))) hn (p.up (mm a))) ?_);rintro v6 D ⟨ho6,B⟩;have r:Ext a D:=VB (mm a) B;refine p0 (a8 r ?_);obtain⟨do6,dc6,rfl,hd6⟩:=ho6.asSl;refine cy rfl (eK (AP D (G.up (c.trans r)) hW.g hn (has.up r) hd6) ?_);rintro v7 A ⟨ho7,Q⟩;have R:Ext a A:=VB r Q;refine p0 (a8 R ?_);obtain⟨do7,dc7,rfl,hd7⟩:=ho7.asSl;refine cy rfl (eK (A8 A (G.up (c.trans R)) hn hd7) ?_);rintro v8 w8 ⟨ho8,M⟩;have x8:Ext a w8:=VB R M;refine p0 (a8 x8 (Vr ?_));refine Uk ?_;exact be ⟨ho8.low (c.trans R).size,c.trans x8⟩
    have n13:k≠13:=by simpa using h
    clear h;refine UR ?_;apply ld rfl<;>intro h
    .obtain rfl:k=14:=by simpa using h
     have j:kids.length=2:=by have:Ad 14=2:=rfl;omega
     obtain⟨x,y,rfl⟩:=A1 j;have d:Sl a (dk a) ko kc [jt nx.length (mE nx lb fr x),jt nx.length (mE nx lb fr y)]:=d;have l:∀z,(λz:World=>Ext a z) z->Ext a z:=λ_ h=>h;refine UZ ?_;refine aG (λz:World=>Ext a z) [Wr 0,Wr 1,Wr 2,Wr 3,Wr 4,Wr 5,Wr 6,Ws 7,Wr 8] mixed TL (mm a) (Vl ?_);refine cd (k:=0) l rfl rfl rfl rfl rfl rfl rfl T0 d TO TV (λu0 q0 o=>?_);obtain⟨uo0,uc0,rfl,p⟩:=o.sl;refine Vl ?_;refine cd (k:=1) l rfl rfl rfl rfl rfl rfl rfl T0 d TO TV (λu1 q1 V=>?_);obtain⟨uo1,uc1,rfl,W⟩:=V.sl;refine cy rfl (eK (AD (drew a) (G.up (c.trans (mm a))) hW (p.up (mm a)) (W.up (mm a))) ?_);rintro v6 D ⟨ho6,B⟩;have r:Ext a D:=VB (mm a) B;refine p0 (a8 r (Vr ?_));refine Uk ?_;exact be ⟨ho6.low (c.trans (mm a)).size,c.trans r⟩
    have n14:k≠14:=by simpa using h
    clear h;obtain rfl:k=2:=by
     unfold Ad at K;have h0:0<=(kids.length:Int):=by omega
     split at K
     .omega
     split at K
     .omega
     split at K
     .omega
     omega
    refine UM ?_;refine eK (A8 a (G.up c) hn has) ?_;rintro _ D ⟨ho,B⟩;have hfe:(jt nx.length λi=>¬True)=jt nx.length (mE nx lb fr (.mk 2 n kids)):=ju (λi _=>⟨λh=>absurd trivial h,λh=>absurd h (λh=>by cases h)⟩);rw[hfe]at ho;refine Uf ?_;exact be ⟨ho.low c.size,c.trans B⟩
def i6(w0:World){a1 a4:Option Addr}{c1 c2:Nat}{st:List Int}{nx fr:bV}{lb:List Nat}(h1:Sl w0 (dk w0) a1 c1 st)(h2:Sl w0 (dk w0) C c2 nx)(h3:Sl w0 (dk w0) D B lb)(h4:Sl w0 (dk w0) a4 a fr)
  (I:k_ st nx lb.length fr=0) (T:edges nx<=8589934592):
  Rt Vy 54 [M5 a1 c1 C c2 D B a4 a st.length nx.length lb.length fr.length].toArray w0 λv w'=>∃b,v=Au b/\LabAt w' b nx lb fr/\Ext w0 w':=by
 obtain⟨x,H,S,u,l,w⟩:=lh I;have o:okG nx:=λr P=>(l r P).2;refine dR func54 ntmps54 rfl rfl (UZ ?_);refine eH λW i J=>?_;have R:=i.lt;have n:=J.size;refine UD ?_;refine r4 rfl rfl rfl rfl (eH λL d F=>?_);have i:=i.ext F;have f:=J.trans F;have Q:=d.lt;have O:=F.size;refine UD ?_;refine eK (bK L (h1.up f) (h2.up f) h3.len63 (h4.up f) T) ?_;rintro _ V ⟨fv,rfl,c,p⟩;rw[Tn I,gJ o]at c;obtain⟨fo,fc,rfl⟩:=c.val;have i:=i.ext p;have d:=d.ext p;have f:=f.trans p;have N:=p.size;refine Vg ?_;refine f7 d (λG d j=>?_);have c:=c.keptN j (λg k e=>by have:=(c.lt g k).1;have:=R4 e;omega);have i:=i.kept j T3;have f:Ext w0 G:=f.grown j f.size (λg k=>by cases k;exact n);have M:=j.size;refine Uy ?_;refine eK (ez G (h2.up f)) ?_;rintro _ U ⟨tv,vs,rfl,h,E⟩;have y:kL nx=0:=kM o TK;have t:Lg nx=Lh nx:=by unfold Lg;rw[Tn y]
 rw[t]at h;obtain⟨to,tc,q⟩:=h.out.val;have s:=h.len;subst q;have d:=d.ext E;have c:=c.extN E;have f:=f.trans E;refine Vg ?_;refine f7 d (λK d m=>?_);have c:=c.keptN m (λg k e=>by have:=(c.lt g k).1;have:=R4 e;omega);have h:=h.kept m (λg k e=>by have:=(h.lt g k).1;have:=R4 e;omega);have f:Ext w0 K:=f.grown m f.size (λg k=>by cases k;exact n);obtain⟨ao,ac,ea,A⟩:=c.asSl;obtain⟨rfl,_,rfl⟩:=SV ea;obtain⟨X,bc,eb,z⟩:=h.old.sl;obtain⟨rfl,_,rfl⟩:=SV eb;rw[s]at d;refine Up ?_;exact be ⟨_,rfl,⟨_,_,_,_,_,_,_,_,_,_,_,_,_,d,h2.up f,h3.up f,h4.up f,A,z⟩,f⟩
def Aq(st:List Int)(nx:bV)(k:Nat)(fr:bV)(t:Ltl):Int:=if k_ st nx k fr≠0 then k_ st nx k fr else(kp t 1 0).1
def Ar{st:List Int}{nx:bV}{k:Nat}{fr:bV}{t:Ltl}(h:Aq st nx k fr t=0):k_ st nx k fr=0/\(kp t 1 0).1=0:=by
 unfold Aq at h;split at h
 .rename_i h1;exact absurd h h1
 .rename_i h1;exact⟨by simpa using h1,h⟩
def AH(w0:World){a1 a4 to:Option Addr}{c1 c2:Nat}{st:List Int}{nx fr:bV}{lb:List Nat}{t:Ltl}(h1:Sl w0 (dk w0) a1 c1 st)(h2:Sl w0 (dk w0) C c2 nx)(h3:Sl w0 (dk w0) D B lb)(h4:Sl w0 (dk w0) a4 a fr)(j:Sl w0 (dk w0) to K t.kids):
  Rt Vy 53 [M5 a1 c1 C c2 D B a4 a st.length nx.length lb.length fr.length,Bi t.k t.n to t.kids.length K].toArray w0 λv w'=>v=Ub (Aq st nx lb.length fr t)/\Ext w0 w':=by
 refine dS func53 ntmps53 rfl rfl ?_;refine UZ ?_;refine eH λn d l=>?_
 skip;refine eH λi c f=>?_
 have d:=d.ext f;have b:=l.trans f;refine UD ?_;refine eK (Ml i (h1.up b) (h2.up b) h3.len63 (h4.up b)) ?_;rintro _ g ⟨rfl,e⟩
 have c:=c.ext e;have b:=b.trans e;unfold Aq;refine UR ?_;apply ld rfl<;>intro h
 .have h:k_ st nx lb.length fr≠0:=by simpa using h
  rw[Tn h];refine Up ?_;exact be ⟨rfl,b⟩
 have h:k_ st nx lb.length fr=0:=by simpa using h
 rw[Tm (by simp[h])];refine Uo ?_;refine eK (mD g (j.up b) T0) ?_;rintro _ m ⟨rfl,k⟩
 refine Uf ?_;exact be ⟨rfl,b.trans k⟩
def cT(w0:World){a1 a4 to:Option Addr}{c1 c2:Nat}{st:List Int}{nx fr:bV}{lb:List Nat}{t:Ltl}(h1:Sl w0 (dk w0) a1 c1 st)(h2:Sl w0 (dk w0) C c2 nx)(h3:Sl w0 (dk w0) D B lb)(h4:Sl w0 (dk w0) a4 a fr)(u:Sl w0 (dk w0) to K t.kids)
  (A:edges nx<=8589934592):
  Rt Vy 24 [M5 a1 c1 C c2 D B a4 a st.length nx.length lb.length fr.length,Bi t.k t.n to t.kids.length K].toArray w0 λv w'=>∃x,v=.tuple ⟨[x,Ub (Aq st nx lb.length fr t)]⟩/\
   Own w' w0.heap.size 4 dh x (if Aq st nx lb.length fr t=0 then jt nx.length (mE nx lb fr t)else [])/\Ext w0 w':=by
 refine dS func24 ntmps24 rfl rfl ?_;refine UZ ?_;refine eH λP f O=>?_
 skip;refine eH λG k E=>?_
 have f:=f.ext E;have d:=O.trans E;refine UD ?_;refine eK (AH G (h1.up d) (h2.up d) (h3.up d) (h4.up d) (u.up d)) ?_;rintro _ e ⟨rfl,p⟩
 have f:=f.ext p;have k:=k.ext p;have d:=d.trans p;refine UR ?_;apply ld rfl<;>intro h
 .have h:Aq st nx lb.length fr t≠0:=by simpa using h
  rw[Tm h];refine Up ?_;exact f0 ⟨_,rfl,r3,d⟩
 have h:Aq st nx lb.length fr t=0:=by simpa using h
 rw[Tn h,h];obtain⟨y,hf⟩:=Ar h;obtain⟨j,w,o,m,g,i⟩:=lh y;have n:okG nx:=λr H=>(g r H).2
 have J:∀z,(λz:World=>Ext e z) z->Ext e z:=λ_ h=>h
 refine UW ?_;refine aG (λz:World=>Ext e z) [Wr 0,Wr 2,Ws 1,Ws 3,Wr 4,Wr 5] mixed TL (mm e) ?_;refine Vm ?_;have c:=d.trans (mm e);refine cy rfl (eK (i6 (drew e) (h1.up c) (h2.up c) (h3.up c) (h4.up c) y A) ?_);rintro _ s ⟨b,rfl,L,N⟩
 have l:Ext e s:=VB (mm e) N;refine p0 (a8 l ?_);skip;have c:=d.trans l;refine cy rfl (eK (Aw ⟨j,n,i,A⟩ o t.nodes t T8 (ky t _ _ hf) s b to K L (u.up c)) ?_);rintro _ F ⟨I,M⟩
 have q:Ext e F:=VB l M;refine p0 (a8 q ?_);refine Vr ?_;refine UQ ?_;exact f0 ⟨_,rfl,I.low c.size,d.trans q⟩
section
variable {s l:List Nat}{k n:Int}{ks:List (List Bool)}
end
section
variable {p:cM}
end
abbrev Mg(b:Bool)(so:Option Addr)(sc:Nat)(lo:Option Addr)(a:Nat)(s l:List Int):Value:=.agg [.bool b,.slice so s.length sc,.slice lo l.length a].toArray
end Go.Proofs.YtfpjecjadlgdcaaGreatDoor
