import Derived.Test.YtfpjecjadlgdcaaGreatDoorPtTopOrder2
set_option linter.unusedVariables false
set_option linter.unusedSimpArgs false
set_option linter.defProp false
namespace Go.Proofs.YtfpjecjadlgdcaaGreatDoor
set_option maxHeartbeats 4000000
variable{P:Program}{α:Type}{B a K E:Nat}{C D:Option Addr}{m:List Int}{F:Nat→Prop}{w:World}{v A:Value}{g:List (List Int)}{x:Int}{l:List Bool}{r:List Value}{t:TypeId}{Q:Exit→Act→World→Prop}{p:Nat→Nat}{e:Nat→Nat→Prop}{s:List Nat}{L:List Oper}{c:Value→World→Prop}{f:List ByteArray}{y:Array Bool}{b:Value→(Nat→Nat)→World→Prop}{j:Array Edge}{z:Func}{G:List (Nat→Prop)}{u:Array Value}
open _root_.Go.Proofs.Tryz
open List(range)
open List(replicate)
open Nat(ble)
open Nat(beq)
open Region(ready)
structure Wlk(E:Nat->Nat->Prop)(p:Nat->Nat)(n a b:Nat):Prop where
 first:p 0=a
 last:p n=b
 step:∀i,i<n->E (p i) (p (i+1))
def tU(p q:Nat->Nat)(n:Nat):Nat->Nat:=λi=>if i<n then p i else q (i -n)
def tZ{q:Nat->Nat}{n i:Nat}(h:i<n):tU p q n i=p i:=by unfold tU;rw[Tn h]
def tX{q:Nat->Nat}{n i:Nat}(h:n<=i):tU p q n i=q (i -n):=by unfold tU;rw[Tm TK]
def tY{q:Nat->Nat}{n i:Nat}(h:i<=n)(a:p n=q 0):tU p q n i=p i:=by
 by_cases hi:i<n
 .exact tZ hi
 .obtain rfl:i=n:=by omega
  rw[tX T8,RP,a]
def Wlk.trans{q:Nat->Nat}{n m b c:Nat}(h:Wlk e p n a b)(k:Wlk e q m b c):Wlk e (tU p q n) (n+m) a c:=by
 have d:p n=q 0:=h.last.trans k.first.symm;refine⟨(tY (RU _) d).trans h.first,?_,λi hi=>?_⟩
 .rw[tX TK,show n+m -n=m by omega];exact k.last
 .by_cases hn:i<n
  .rw[tZ hn,tY (i:=i+1) (RQ hn) d];exact h.step i hn
  .rw[tX TK,tX TK,show i+1 -n=(i -n)+1 by omega];exact k.step _ TK
def Rc(E:Nat->Nat->Prop)(a b:Nat):Prop:=∃p n,Wlk E p n a b
def Rc.refl(a:Nat):Rc e a a:=⟨λ_=>a,0,rfl,rfl,λi h=>absurd h TK⟩
def Rc.trans{b c:Nat}:Rc e a b->Rc e b c->Rc e a c
 |⟨_,_,h⟩,⟨_,_,k⟩=>⟨_,_,h.trans k⟩
def Wlk.one{b:Nat}(h:e a b):Wlk e (λi=>if i=0 then a else b) 1 a b:=
 ⟨rfl,rfl,λi hi=>by obtain rfl:i=0:=by omega
                    exact h⟩
def Rc.one{b:Nat}(h:e a b):Rc e a b:=⟨_,_,Wlk.one h⟩
def Rc.of_way{r:Nat->Nat}(h:∀i,e (r i) (r (i+1))){i j:Nat}(a:i<=j):Rc e (r i) (r j):=
 ⟨λk=>r (i+k),j -i,by simp,by rw[show i+(j -i)=j by omega],λk _=>by have:=h (i+k);rwa[show i+k+1=i+(k+1) by omega]at this⟩
def Wo:=@Rc.of_way
def yU:∀(N:Nat) (r:Nat->Nat),(∀i,r i<N)->∃v,v<N/\∀i,∃j,i<=j/\r j=v
 |0,r,h=>absurd (h 0) TK
 |N+1,r,h=>by
  by_cases f:∀i,∃j,i<=j/\r j=N
  .exact⟨N,by omega,f⟩
  .obtain⟨c,n⟩:=Oe.1 f;have h1:∀j,c<=j->r j≠N:=λj hj m=>n ⟨j,hj,m⟩;obtain⟨v,g,d⟩:=yU N (λk=>r (c+k)) (λk=>by have a:=h (c+k);have b:=h1 (c+k) TK;omega);refine⟨v,by omega,λi=>?_⟩;obtain⟨j,l,e⟩:=d i;exact⟨c+j,by omega,e⟩
def Ba{E:Nat->Nat->Prop}{v u:Nat}(e:E v u)(g:Rc E u v):∀Ps:List (Nat->Prop),(∀P∈Ps,∃x,P x/\Rc E v x/\Rc E x v)->
  ∃p n,0<n/\Wlk E p n v v/\∀P∈Ps,∃i,i<n/\P (p i)
 |[],_=>by obtain⟨q,m,hq⟩:=g;exact⟨_,_,by omega,(Wlk.one e).trans hq,λP hP=>by cases hP⟩
 |P::Ps,h=>by
  obtain⟨p,n,hn,f,a⟩:=Ba e g Ps (λQ hQ=>h Q (by simp[hQ]));obtain⟨x,d,⟨k,n1,h1⟩,⟨j,c,h2⟩⟩:=h P TO;refine⟨tU p (tU k j n1) n,n+(n1+c),by omega,f.trans (h1.trans h2),λQ hQ=>?_⟩;obtain rfl|hQ:=Qo.1 hQ
  .by_cases l:c=0
   .subst l;have b:x=v:=h2.first.symm.trans h2.last;exact⟨0,by omega,by rw[tZ hn,f.first,<-b];exact d⟩
   .refine⟨n+n1,by omega,?_⟩;rw[tX TK,show n+n1 -n=n1 by omega,tX T8,RP,h2.first];exact d
  .obtain⟨i,hi,hq⟩:=a Q hQ;exact⟨i,by omega,by rw[tZ hi];exact hq⟩
def Way8(E:Nat->Nat->Prop)(Ps:List (Nat->Prop))(r:Nat->Nat):Prop:=(∀i,E (r i) (r (i+1)))/\∀P∈Ps,∀i,∃j,i<=j/\P (r j)
def aN(E:Nat->Nat->Prop)(Ps:List (Nat->Prop))(v:Nat):Prop:=(∃u,E v u/\Rc E u v)/\∀P∈Ps,∃x,P x/\Rc E v x/\Rc E x v
def Mo{N:Nat}{r:Nat->Nat}(l:∀i,r i<N)(h:Way8 e G r):∃v,Rc e (r 0) v/\aN e G v/\∃i,r i=v:=by
 obtain⟨v,_,c⟩:=yU N r l;obtain⟨a,_,b⟩:=c 0;refine⟨v,by rw[<-b];exact Wo h.1 (RU _),⟨⟨r (a+1),by rw[<-b];exact h.1 a,?_⟩,λP hP=>?_⟩,a,b⟩
 .obtain⟨j,hj,d⟩:=c (a+1);rw[<-d];exact Wo h.1 hj
 .obtain⟨j,hj,d⟩:=h.2 P hP a;obtain⟨k,g,f⟩:=c j;exact⟨r j,d,by rw[<-b];exact Wo h.1 hj,by rw[<-f];exact Wo h.1 g⟩
def Ax(q p:Nat->Nat)(m n:Nat):Nat->Nat:=tU q (λi=>p (i % n)) m
def Ay{q:Nat->Nat}{m n v:Nat}(hn:0<n)(hq:Wlk e q m a v)(b:Wlk e p n v v):∀i,e (Ax q p m n i) (Ax q p m n (i+1)):=by
 intro i
 have g:q m=(λi=>p (i % n)) 0:=by show _=p (0 % n);rw[Nat.zero_mod,b.first,hq.last]
 unfold Ax;by_cases h:i<m
 .rw[tZ h,tY (q:=λi=>p (i % n)) (i:=i+1) (RQ h) g];exact hq.step i h
 .rw[tX TK,tX TK,show i+1 -m=(i -m)+1 by omega]
  generalize i -m=k;have f:=RA k hn;have c:=b.step (k % n) f;show e (p (k % n)) (p ((k+1) % n));by_cases h1:k % n+1=n
  .rw[h1,b.last]at c
   have:(k+1) % n=0:=by rw[Nat.add_mod];by_cases d:n=1
                        .subst d;omega
                        .rw[Rz (show 1<n by omega),h1,Nat.mod_self]
   rw[this,b.first];exact c
  .have:(k+1) % n=k % n+1:=by
    rw[Nat.add_mod,Rz (show 1<n by omega),Rz TK]
   rw[this];exact c
def mj{v:Nat}(g:Rc e a v)(h:aN e G v):∃r,r 0=a/\Way8 e G r:=by
 obtain⟨⟨u,f,o⟩,hP⟩:=h;obtain⟨p,n,hn,c,b⟩:=Ba f o G hP;obtain⟨q,m,hq⟩:=g;refine⟨Ax q p m n,?_,Ay hn hq c,λP hP i=>?_⟩
 .have l:q m=(λi=>p (i % n)) 0:=by show _=p (0 % n);rw[Nat.zero_mod,c.first,hq.last]
  show tU q (λi=>p (i % n)) m 0=a;rw[tY (q:=λi=>p (i % n)) (RU _) l];exact hq.first
 .obtain⟨k,j,d⟩:=b P hP;refine⟨m+(i*n+k),by have:=Nat.le_mul_of_pos_right i hn;omega,?_⟩;unfold Ax;rw[tX TK,show m+(i*n+k) -m=i*n+k by omega];show P (p ((i*n+k) % n));rw[Q8,Q_,Rz j];exact d
def qt{N:Nat}(d:∀u v,e u v->v<N)(c:a<N):(∃r,r 0=a/\Way8 e G r)↔∃v,Rc e a v/\aN e G v:=by
 constructor
 .rintro⟨r,b,h⟩;obtain⟨v,h1,h2,_⟩:=Mo (N:=N) (λi=>by
   cases i with
   |zero=>rw[b];exact c
   |succ i=>exact d _ _ (h.1 i)) h
  exact⟨v,by rw[<-b];exact h1,h2⟩
 .rintro⟨v,h1,h2⟩;exact mj h1 h2
def Eg(g:bV)(u v:Nat):Prop:=(v:Int)∈g.getD u []
def Eg.lt{g:bV}(a:okG g){u v:Nat}(h:Eg g u v):v<g.length:=by have:=Dx a u _ h;omega
def F_{g:bV}(e:okG g){f:List Int}(hf:∀x∈f,0<=x){b:Nat}:Rch g f b↔∃a:Nat,(a:Int)∈f/\Rc (Eg g) a b:=by
 constructor
 .intro h;induction h with
  |base c=>rename_i x;exact⟨x.toNat,by rw[show((x.toNat:Nat):Int)=x by have:=hf x c;omega];exact c,Rc.refl _⟩
  |step _ c d=>
   obtain⟨a,h1,h2⟩:=d;refine⟨a,h1,h2.trans (Rc.one ?_)⟩;rename_i n x _;have:=(Dx e n x c).1;show((x.toNat:Nat):Int)∈_;rw[show((x.toNat:Nat):Int)=x by omega];exact c
 .rintro⟨a,h1,p,n,h⟩;have:∀i,i<=n->Rch g f (p i):=by
   intro i;induction i with
   |zero=>intro _;rw[h.first];exact Rch.base (x:=(a:Int)) h1
   |succ i d=>intro hi;exact Rch.step (x:=(p (i+1):Int)) (d TK) (h.step i TK)
  rw[<-h.last];exact this n T8
def F5{g:bV}(e:okG g){b:Nat}:Rch g [(a:Int)] b↔Rc (Eg g) a b:=by
 rw[F_ e (λx d=>by simp at d;omega)];constructor
 .rintro⟨c,f,h⟩;simp at f;obtain rfl:c=a:=by omega
  exact h
 .exact λh=>⟨a,by simp,h⟩
open Go.RowKit
def idxOf{α:Type}(p:α->Bool)(xs:List α):Int:=match xs.findIdx? p with|some i=>(i:Int)|none=> -1
def yl{p:α->Bool}{xs:List α}{k:Nat}(b:k<xs.length)(hn:∀j (h:j<xs.length),j<k->p xs[j]=false)(a:p xs[k]=true):idxOf p xs=k:=by
 have:xs.findIdx? p=some k:=by rw[Pc];exact⟨b,a,λj hj=>by simp[hn j TK hj]⟩
 simp[idxOf,this]
def yr{p:α->Bool}{xs:List α}(hn:∀j (h:j<xs.length),p xs[j]=false):idxOf p xs= -1:=by
 have:xs.findIdx? p=none:=by rw[Pb];intro x a;obtain⟨j,hj,rfl⟩:=Qu.1 a;exact hn j hj
 simp[idxOf,this]
def yj(p:α->Bool)(xs:List α):decide (idxOf p xs>=0)=xs.any p:=by
 unfold idxOf;cases h:xs.findIdx? p with
 |none=>
  rw[Pb]at h;have:xs.any p=false:=by rw[OD];intro x a;simp[h x a]
  rw[this];rfl
 |some i=>
  obtain⟨h1,h2,_⟩:=Pc.1 h;have:xs.any p=true:=OE.2 ⟨xs[i],PL _,h2⟩;rw[this];simp
def yN(w0:World){ao:Option Addr}{cap:Nat}{xs:List Int}{fv:Value}(p:Int->Bool)(d:Sl w0 (dk w0) ao cap xs)
  (hf:∀w,Ext w0 w->∀i (h:i<xs.length),FnV Vy fv [Ub xs[i]] w λv w'=>v=.bool (p xs[i])/\Ext w w'):
  Rt Vy 134 [.slice ao xs.length cap,fv].toArray w0 λv w'=>v=Ub (idxOf p xs)/\Ext w0 w':=by
 have g:=d.len63;refine dS func134 ntmps134 rfl rfl (Ut ?_);refine p8 (S:=Nat) (λk=>[(0,.slice ao xs.length cap),(1,fv),(7,Ub xs.length),(8,Ub k)])
  (λk w=>k<=xs.length/\Ext w0 w/\∀j (h:j<xs.length),j<k->p xs[j]=false) (λk=>xs.length -k) 0 TJ ⟨by omega,p7 _,by omega⟩ ?_
 rintro k w ⟨l,b,hn⟩;refine UR ?_;apply ld rfl<;>intro h
 .simp at h;refine Ux ?_;refine e_ (d.at b) h rfl TV (λq=>?_);refine eL rfl rfl rfl rfl (hf w b k h) ?_;rintro v w' ⟨rfl,a⟩;refine UG ?_;refine ld rfl (λc=>?_) (λc=>?_)
  .refine Ud ?_;refine d6 ⟨?_,b.trans a⟩;rw[yl h hn c]
  .refine US ?_;refine m5 (k+1) TJ ⟨h,b.trans a,?_⟩ TK;intro j hj f;by_cases e:j=k
   .subst e;exact c
   .exact hn j hj TK
 .simp at h;refine UF ?_;refine d6 ⟨?_,b⟩;rw[yr (λj hj=>hn j hj TK)]
def l_(w0:World){ao:Option Addr}{cap:Nat}{xs:List Int}{fv:Value}(p:Int->Bool)(a:Sl w0 (dk w0) ao cap xs)
  (hf:∀w,Ext w0 w->∀i (h:i<xs.length),FnV Vy fv [Ub xs[i]] w λv w'=>v=.bool (p xs[i])/\Ext w w'):
  Rt Vy 66 [.slice ao xs.length cap,fv].toArray w0 λv w'=>v=.bool (xs.any p)/\Ext w0 w':=by
 refine dS func66 ntmps66 rfl rfl (UR ?_);refine eK (yN w0 p a hf) ?_;rintro v w' ⟨rfl,b⟩;refine Uf ?_;refine d6 ⟨?_,b⟩;rw[<-yj]
def Dd(n:Int)(b:Nat)(w:World){ao:Option Addr}{cap:Nat}(a:Sl w F ao cap g)(c:Cells w b 0 [.slice ao g.length cap]):
  Rt Vy 135 [Ub n,Uc b].toArray w λv w'=>v=.bool (decide (n<0\/n>=g.length))/\w=w':=by
 refine dS func135 ntmps135 rfl rfl (UR ?_);refine fF (s:=6) rfl (λh=>?_) (λh=>?_)
 .refine UK ?_;refine d6 ?_;simp at h;simp[h]
 .refine U9 ?_;refine VQ (α:=List (List Int)) rfl rfl rfl c ⟨ao,cap,rfl,a⟩ (Uz ?_);refine d6 ?_;simp at h;simp[Ou.2 h]
def Df(w0:World){ao lo:Option Addr}{cap:Nat}{l:List Int}(j:Sl w0 (dk w0) ao cap g)(k:Sl w0 (dk w0) lo B l):
  Rt Vy 70 [.slice ao g.length cap,.slice lo l.length B].toArray w0 λv w'=>v=.bool (De g.length l)/\Ext w0 w':=by
 refine dS func70 ntmps70 rfl rfl (UZ ?_);refine WL.box rfl rfl rfl (Um ?_);have a:=V6 w0 (.cells (Value.cells (.slice ao g.length cap)) 50);have f:=Cells.alloc w0 (Value.cells (.slice ao g.length cap)) 50;generalize w0.alloc (.cells (Value.cells (.slice ao g.length cap)) 50)=d at*;have c:w0.heap.size<d.heap.size:=f.lt (by simp[Value.cells]);refine eK (l_ d (λx=>decide (x<0\/x>=g.length)) (k.up a) (λw e i h=>?_)) ?_
 .refine VE (VR (Dd _ _ w ((j.at a).mono (λb m=>e.block b (Rv m a.size)) λ_ h=>h) (f.mono (e.block _ c))) ?_);rintro v w' ⟨rfl,rfl⟩;exact⟨rfl,p7 _⟩
 .rintro v w' ⟨rfl,n⟩;refine Uf ?_;exact be ⟨rfl,a.trans n⟩
def lr(w0:World){ao:Option Addr}{cap:Nat}(f:Sl w0 (dk w0) ao cap g):
  Rt Vy 68 [.slice ao g.length cap].toArray w0 λv w'=>v=Ub (kL g)/\Ext w0 w':=by
 have p:=f.len63;refine dR func68 ntmps68 rfl rfl (Ut ?_);apply ld rfl<;>intro h
 .refine Up ?_;refine d6 ⟨?_,p7 _⟩;unfold kL;have:decide (g.length>20000)=true:=by simp at h⊢;omega
  rw[this]
 .simp at h;have c:decide (g.length>20000)=false:=by simp;omega
  refine Uv ?_;refine p8 (S:=Nat) (λk=>[(0,.slice ao g.length cap),(8,.slice ao g.length cap),(9,Ub g.length),(10,Ub k)])
   (λk w=>k<=g.length/\Ext w0 w/\∀j (h:j<g.length),j<k->De g.length g[j]=false) (λk=>g.length -k) 0 TJ ⟨by omega,p7 _,by omega⟩ ?_
  rintro k w ⟨r,a,hn⟩;refine UR ?_;apply ld rfl<;>intro h1
  .simp at h1;refine UC ?_;refine fe (f.at a) h1 TV (λu q m=>?_);obtain⟨lo,lcap,rfl,i⟩:=m.sl;refine UR ?_;refine eK (Df w (f.up a) (i.lift λb o=>Rv o a.size)) ?_;rintro v w' ⟨rfl,d⟩;refine UG ?_;apply ld rfl<;>intro h2
   .refine Ud ?_;refine d6 ⟨?_,a.trans d⟩;unfold kL;have:g.any (De g.length)=true:=OE.2 ⟨_,PL h1,h2⟩;rw[this,c]
   .refine US ?_;refine m5 (k+1) TJ ⟨h1,a.trans d,?_⟩ TK;intro j hj n;by_cases e:j=k
    .subst e;exact h2
    .exact hn j hj TK
  .simp at h1;refine UF ?_;refine d6 ⟨?_,a⟩;unfold kL;have:g.any (De g.length)=false:=by rw[OD];intro l i;obtain⟨j,hj,rfl⟩:=Qu.1 i;simp[hn j hj TK]
   rw[this,c]
def lI(w0:World){ao:Option Addr}{cap:Nat}{xs:List Int}(a:Sl w0 (dk w0) ao cap xs)(i:xs.length*8<=140737488355328):
  Rt Vy 117 [.slice ao xs.length cap].toArray w0 λv w'=>Own w' w0.heap.size 3 dh v xs/\Ext w0 w':=by
 have m:=a.len63;refine dR func117 ntmps117 rfl rfl (U5 ?_);apply ld rfl<;>intro h
 .refine Up ?_;refine d6 ⟨?_,p7 _⟩;have j:ao=none:=by simpa using h
  have:xs=[]:=O2 (by have:=a.nil j;have:=a.le;omega);subst this;exact r3
 .refine Uo ?_;refine fD (α:=Int) rfl rfl (λe d g=>U9 ?_);have b:Ext w0 e:=(NP _ _).grown g T8 T2;refine V7 (F:=dh) rfl rfl rfl rfl d (a.at b).srcN b.size TY (by simp[maxLen];omega) (by simpa using i) (λv l ho2 c _=>Uf ?_);refine d6 ⟨by simpa using ho2,b.grown c b.size ?_⟩;intro k f;exact(d.lt k f).1
def Kx(h:0<m.length):m=m.take (m.length -1)++[m[m.length -1]]:=by have:=Q4 (l:=m) (i:=m.length -1) TK;rw[<-this,Q1 TK]
def Gv(w0:World){ao fo:Option Addr}{cap:Nat}{f:List Int}(W:Sl w0 (dk w0) ao cap g)(hf:Sl w0 (dk w0) fo B f)
  (hg:okG g) (Q:Dy g.length f) (hT:f.length+edges g+g.length<=1099511627776):
  Rt Vy 71 [.slice ao g.length cap,.slice fo f.length B].toArray w0 λv w'=>Own w' w0.heap.size 4 dh v (F6 g f)/\Ext w0 w':=by
 have hm:=W.len63;have Y:=hf.len63;refine dS func71 ntmps71 rfl rfl (Ut ?_);refine fI (α:=Bool) rfl rfl rfl rfl TK TQ (λK ho1 T=>?_);have I:Ext w0 K:=(NP _ _).grown T T8 T2;have C:w0.heap.size<K.heap.size:=(ho1.lt _ rfl).2.1;refine UR ?_;refine eK (lI K (hf.up I) TK) ?_;rintro tv w2 ⟨ho2,H⟩;refine Ux ?_;generalize M:Value.slice (some ⟨w0.heap.size,0,none⟩) g.length g.length=sv at*;have l:sv.ownBlock=some w0.heap.size:=by rw[<-M];rfl
 refine p8 (S:=Value×List Bool×List Int) (λs=>[(0,.slice ao g.length cap),(5,sv),(6,s.1)])
  (λs w=>RInv g f s.2.1 s.2.2/\s.2.2.length+E7 g s.2.1<=f.length+edges g+g.length/\Own w w0.heap.size 4 dh sv s.2.1/\Own w w0.heap.size 3 dh s.1 s.2.2/\Ext w0 w/\(∀k,s.1.ownBlock=some k->k≠w0.heap.size))
  (λs=>s.2.2.length+E7 g s.2.1) (tv,replicate g.length false,f) TJ
  ⟨RInv.start Q,by show f.length+E7 g (replicate g.length false)<=_;rw[E_];omega,ho1.extN H,ho2.low (Ro C),I.trans H,λk a=>by have:=(ho2.lt k a).1;omega⟩ ?_
 rintro⟨tv,seen,todo⟩ w ⟨hR,z,d,o,J,A⟩;simp only at hR z d o A;refine U5 ?_;apply ld rfl<;>intro h
 .simp at h;have D:0<todo.length:=by omega
  have i:=Kx D;refine U5 ?_;refine fg rfl rfl rfl rfl rfl o TK TK TV (λu q t=>?_);obtain rfl:=t.int;have ei:((todo.length:Int) -1).toNat=todo.length -1:=by omega
  simp only[ei];generalize hx:todo[todo.length -1]=x at*;generalize p:todo.take (todo.length -1)=rest at*;rw[i]at hR;have Z:todo.length=rest.length+1:=by rw[i];simp
  have X:=hR.ok x TO;refine U5 ?_;refine eT (α:=Int) (todo.length -1) TK rfl rfl rfl rfl o TK (λtv' c U=>?_);rw[p]at c;have b:∀k,tv'.ownBlock=some k->k≠w0.heap.size:=λk a=>A k (by rw[<-U];exact a);refine UR ?_;refine fg rfl rfl rfl rfl rfl d TK (by rw[hR.len];omega) TV (λu q2 t=>?_);obtain rfl:=t.bool;have r:x.toNat<seen.length:=by rw[hR.len];omega
  refine Ug ?_;apply ld rfl<;>intro h2
  .have O:seen[x.toNat]=false:=by simpa using h2
   have P:=E9 g seen x.toNat TK hR.len (by simp[Pl,r,O]);refine U4 ?_;refine Wk rfl rfl rfl rfl d TK (by rw[hR.len];omega) TV TV (VF _ _ true) (λV q3 n G=>?_);have j:Ext w0 V:=J.grown G J.size (λk a=>by rw[l]at a;cases a;exact Rq _);have m:Own V w0.heap.size 3 dh tv' rest:=c.keptN G (λk a e=>by rw[l]at e;cases e;exact b _ a rfl);refine UR ?_;have L:x.toNat<g.length:=by omega
   refine eX rfl rfl rfl rfl rfl (W.at j) TK TK TV (λu q4 t=>?_);obtain⟨ro,rcap,rfl,y⟩:=t.sl;have erow:g.getD x.toNat []=g[x.toNat]:=by simp[Pl,L]
   rw[erow]at P;refine V7 (F:=dh) rfl rfl rfl rfl m y.srcN j.size TY TQ TK (λtv4 w4 ho4 E R=>Ur ?_);refine m5 (tv4,seen.set x.toNat true,rest++g[x.toNat]) TJ ⟨?_,?_,?_,ho4,?_,?_⟩ ?_
   .have:=RInv.mark hg hR;rwa[erow]at this
   .simp only[PX];omega
   .exact n.keptN E (λk a e=>by rw[l]at a;cases a;exact b _ e.symm rfl)
   .exact j.grown E j.size (λk a=>(m.lt k a).1)
   .intro k a;obtain h|h:=R k a
    .exact b k h
    .have:=j.size;have:=(n.lt _ l).2.1;omega
   .simp only[PX];omega
  .have N:seen[x.toNat]=true:=by simpa using h2
   refine Uq ?_;refine m5 (tv',seen,rest) TJ ⟨hR.pass (by simp[Pl,r,N]),by simp only;omega,d,c,J,b⟩ (by simp only;omega)
 .have h0:todo=[]:=by simpa using h
  subst h0;refine UF ?_;refine d6 ⟨?_,J⟩;rw[<-hR.done];exact d
noncomputable def Gt(g:bV)(f:List Int):List Bool×Int:=match kL g==0,De g.length f with
 |true,false=>(F6 g f,0)
 |true,true=>([],1)
 |false,_=>([],kL g)
def kM{g:bV}(h:okG g)(a:g.length<=20000):kL g=0:=by
 unfold kL;have h1:decide (g.length>20000)=false:=by simp;omega
 have h2:g.any (De g.length)=false:=by rw[OD];intro l a;simp[oddB_false.2 (h l a)]
 rw[h1,h2]
def Gu{g:bV}{f:List Int}(h:okG g)(hf:Dy g.length f)(a:g.length<=20000):Gt g f=(F6 g f,0):=by
 unfold Gt;have h1:(kL g==0)=true:=by rw[kM h a];rfl
 rw[h1,oddB_false.2 hf]
theorem dN(w0:World){ao fo:Option Addr}{cap fcap:Nat}{g:List (List Int)}{f:List Int}(e:Sl w0 (dk w0) ao cap g)(hf:Sl w0 (dk w0) fo fcap f)(m:f.length+edges g+g.length<=1099511627776):
  Rt Vy 32 [.slice ao g.length cap,.slice fo f.length fcap].toArray w0 λr w'=>∃v,r=.tuple ⟨[v,Ub (Gt g f).2]⟩/\Own w' w0.heap.size 4 dh v (Gt g f).1/\Ext w0 w':=by
 refine dS Tryz.func32 Tryz.ntmps32 rfl rfl ?_;refine UR ?_;refine eK (lr w0 e) ?_;rintro v k ⟨rfl,a⟩
 refine UR ?_;apply CW.cond rfl<;>intro h
 .have b:(kL g==0)=false:=by simpa using h
  refine Up ?_;exact bf rfl rfl rfl ⟨.slice none 0 0,by simp only[Gt,b],by simp only[Gt,b];exact Own.nil,a⟩
 .have b:(kL g==0)=true:=by simpa using h
  obtain⟨l,_⟩:=kN (by simpa using b);refine UB ?_;refine eK (Df k (e.up a) (hf.up a)) ?_;rintro v j ⟨rfl,c⟩
  refine UG ?_;apply CW.cond rfl<;>intro h2
  .refine Up ?_
   exact bf rfl rfl rfl ⟨.slice none 0 0,by simp only[Gt,b,h2],by simp only[Gt,b,h2];exact Own.nil,a.trans c⟩
  .refine UB ?_
   have d:=a.trans c;refine eK (Gv j (e.up d) (hf.up d) l (oddB_false.1 h2) m) ?_;rintro v n ⟨ho3,i⟩
   refine Uf ?_;exact bf rfl rfl rfl ⟨v,by simp only[Gt,b,h2],by simp only[Gt,b,h2];exact ho3.low d.size,d.trans i⟩
structure Raw where
 v:Value
instance:Rep Raw where
 sz:=1
 pos:=by decide
 agg:=false
 rd:=λ_ _ cs x=>cs=[x.v]/\x.v.oneCell'=true
 len:=by intro w F cs x h;rw[h.1];rfl
 one:=by intro w F cs x h v a;rw[h.1]at a;simp at a;subst a;exact h.2
 szAgg:=λ_=>rfl
 mono:=λh _ _=>h
def Rd.raw{x:Raw}(h:Rd w F v x):v=x.v/\x.v.oneCell'=true:=by obtain⟨cs,e,h1,h2⟩:=h;subst h1;exact⟨e,h2⟩
def Rd.mkRaw(w:World)(F:Nat->Prop)(v:Value)(h:v.oneCell'=true):Rd w F v (⟨v⟩:Raw):=⟨[v],rfl,rfl,h⟩
def VO:=@Rd.mkRaw
section
variable {α:Type}[Rep α]
structure OwnN(w:World)(B:Nat)(eo ei:TypeId)(v:Value)(vs:List Raw)(xs:List (List α)):Prop where
 out:Own w B eo dh v vs
 len:vs.length=xs.length
 inn:∀i (h:i<vs.length) (h':i<xs.length),Own w B ei dh vs[i].v xs[i]
 dis:∀i j (hi:i<vs.length) (hj:j<vs.length),i≠j->∀g,vs[i].v.ownBlock=some g->vs[j].v.ownBlock=some g->False
 dio:∀i (hi:i<vs.length) g,vs[i].v.ownBlock=some g->v.ownBlock=some g->False
variable {w w' w'':World}{B:Nat}{eo ei:TypeId}{v:Value}{vs:List Raw}{xs:List (List α)}
theorem OwnN.ext(h:OwnN w B eo ei v vs xs)(b:Ext w w'):OwnN w' B eo ei v vs xs:=
 ⟨h.out.extN b,h.len,λi hi a=>(h.inn i hi a).extN b,h.dis,h.dio⟩
theorem OwnN.low(h:OwnN w B eo ei v vs xs){B':Nat}(b:B'<=B):OwnN w B' eo ei v vs xs:=
 ⟨h.out.low b,h.len,λi hi a=>(h.inn i hi a).low b,h.dis,h.dio⟩
def OwnN.blk(v:Value)(vs:List Raw):Nat->Prop:=λb=>v.ownBlock=some b\/∃x∈vs,x.v.ownBlock=some b
theorem OwnN.lt(h:OwnN w B eo ei v vs xs):∀b,OwnN.blk v vs b->B<=b/\b<w.heap.size:=by
 rintro b (a|⟨x,c,a⟩)
 .exact⟨(h.out.lt b a).1,(h.out.lt b a).2.1⟩
 .obtain⟨i,hi,rfl⟩:=Qu.1 c;have:=(h.inn i hi (by rw[<-h.len];exact hi)).lt b a;exact⟨this.1,this.2.1⟩
theorem OwnN.kept{row:Option Nat}(h:OwnN w B eo ei v vs xs)(e:w.grownBy w' row)(c:∀b,OwnN.blk v vs b->some b≠row):OwnN w' B eo ei v vs xs:=
 ⟨h.out.keptN e (λg a=>c g (.inl a)),h.len,λi hi d=>(h.inn i hi d).keptN e (λg a=>c g (.inr ⟨_,PL hi,a⟩)),h.dis,h.dio⟩
theorem OwnN.nil:OwnN w B eo ei (.slice none 0 0) [] ([]:List (List α)):=⟨r3,rfl,λi hi=>absurd hi TO,λi j hi=>absurd hi TO,λi hi=>absurd hi TO⟩
theorem OwnN.made{n:Nat}(h:Own w B eo dh v (replicate n (⟨.slice none 0 0⟩:Raw))):OwnN w B eo ei v (replicate n ⟨.slice none 0 0⟩) (replicate n ([]:List α)):=by
 refine⟨h,by simp,λi hi b=>?_,λi j hi hj _ g a=>?_,λi hi g a=>?_⟩
 .simp only[PN];exact r3
 .simp only[PN]at a;simp[Value.ownBlock]at a
 .simp only[PN]at a;simp[Value.ownBlock]at a
def Wg:=@OwnN.made
theorem OwnN.mid(h:OwnN w B eo ei v vs xs){i:Nat}(hi:i<vs.length)(b:w.grownBy w' vs[i].v.ownBlock):Own w' B eo dh v vs:=
 h.out.keptN b (λg a e=>h.dio i hi g e.symm a)
theorem OwnN.set(h:OwnN w B eo ei v vs xs){i:Nat}(hi:i<vs.length){f:Value}{ys:List α}(s:Own w' B ei dh f ys)(d:w.grownBy w' vs[i].v.ownBlock)(hnb:∀g,f.ownBlock=some g->vs[i].v.ownBlock=some g\/w.heap.size<=g)
  (u:Own w'' B eo dh v (vs.set i ⟨f⟩)) (q:w'.grownBy w'' v.ownBlock):OwnN w'' B eo ei v (vs.set i ⟨f⟩) (xs.set i ys):=by
 have m:∀j (hj:j<vs.length),∀g,vs[j].v.ownBlock=some g->g<w.heap.size:=λj hj g d=>((h.inn j hj (by rw[<-h.len];exact hj)).lt g d).2.1;have b:∀g,v.ownBlock=some g->g<w.heap.size:=λg d=>(h.out.lt g d).2.1;have n:∀g,f.ownBlock=some g->v.ownBlock=some g->False:=λg h1 h2=>by
  obtain h3|h3:=hnb g h1
  .exact h.dio i hi g h3 h2
  .have:=b g h2;omega
 have o:∀j (hj:j<vs.length),j≠i->∀g,f.ownBlock=some g->vs[j].v.ownBlock=some g->False:=λj hj a g h1 h2=>by
  obtain h3|h3:=hnb g h1
  .exact h.dis i j hi hj (RW a) g h3 h2
  .have:=m j hj g h2;omega
 refine⟨u,by simp[h.len],λj hj p=>?_,λj k hj r a g h1 h2=>?_,λj hj g h1 h2=>?_⟩
 .rw[P_]at hj p;rw[PP,PP];by_cases e:i=j
  .rw[Tn e,Tn e];exact s.keptN q (λg d e=>n g d e.symm)
  .rw[Tm e,Tm e];exact((h.inn j hj p).keptN d (λg c l=>h.dis i j hi hj e g l.symm c)).keptN q (λg c l=>h.dio j hj g c l.symm)
 .rw[P_]at hj r;rw[PP]at h1 h2;by_cases t:i=j
  .subst t;rw[Tn rfl]at h1;rw[Tm a]at h2;exact o k r (RW a) g h1 h2
  .rw[Tm t]at h1;by_cases l:i=k
   .rw[Tn l]at h2;exact o j hj (RW t) g h2 h1
   .rw[Tm l]at h2;exact h.dis j k hj r a g h1 h2
 .rw[P_]at hj;rw[PP]at h1;by_cases e:i=j
  .rw[Tn e]at h1;exact n g h1 h2
  .rw[Tm e]at h1;exact h.dio j hj g h1 h2
theorem OwnN.sl(h:OwnN w B eo ei v vs xs):∃ao cap,v=.slice ao xs.length cap/\Sl w (OwnN.blk v vs) ao cap xs:=by
 obtain⟨ao,cap,e,c⟩:=h.out.sl;refine⟨ao,cap,by rw[<-h.len];exact e,⟨by rw[<-h.len];exact c.le,c.mx,c.nil,λi hi=>?_⟩⟩;have a:i<vs.length:=by rw[h.len];exact hi
 obtain⟨b,off,l,hF,m,j,g⟩:=c.el i a;obtain⟨rfl,h1⟩:=g;obtain⟨io,ic,k,d⟩:=(h.inn i a hi).sl;refine⟨b,off,l,hF.elim (λh=>h.elim) .inl,[vs[i].v],j,io,ic,by rw[k],d.mono T5 ?_⟩;intro b f;exact f.elim (λh=>h.elim) (λf=>.inr ⟨_,PL a,f⟩)
theorem OwnN.rd(h:OwnN w B eo ei v vs xs):Rd w (OwnN.blk v vs) v xs:=by obtain⟨ao,cap,rfl,a⟩:=h.sl;exact a.rd
theorem OwnN.old(h:OwnN w B eo ei v vs xs):Rd w (dk w) v xs:=h.rd.mono T5 λb a=>(h.lt b a).2
end
instance:IsT Vy 39 Raw:=VL TL SF rfl
instance:IsZ Vy 39 (⟨.slice none 0 0⟩:Raw) 24:=VV (z:=.slice none 0 0) TL (λ_ _=>⟨rfl,rfl⟩)
def K5(g:List (List Int))(n j:Nat)(m:Nat):List Int:=
 ((range n).filter (λk=>(g.getD k []).contains (m:Int))).map (λk:Nat=>(k:Int))++(if((g.getD n []).take j).contains (m:Int)then [(n:Int)]else [])
def Lm(g:List (List Int))(n j:Nat):List (List Int):=(range g.length).map (K5 g n j)
def Lh(g:List (List Int)):List (List Int):=Lm g g.length 0
def Lo(g:List (List Int))(n j:Nat):(Lm g n j).length=g.length:=by simp[Lm]
def Ln{n j i:Nat}(h:i<(Lm g n j).length):(Lm g n j)[i]=K5 g n j i:=by simp[Lm]
def K7(g:List (List Int))(n j m:Nat):(K5 g n j m).length<=n+1:=by
 unfold K5;have h1:=P3 (λk=>(g.getD k []).contains (m:Int)) (range n);rw[P7]at h1;rw[PX,P4];split
 .simp only[Qa];omega
 .simp only[P5];omega
def Lc(g:List (List Int))(m:Nat):K5 g 0 0 m=[]:=by simp[K5]
def Ls(g:List (List Int)):Lm g 0 0=replicate g.length []:=by apply O3 (by simp[Lm]);intro i h1 h2;rw[Ln,Lc];simp
def K9{n:Nat}(m:Nat):K5 g (n+1) 0 m=K5 g n (g.getD n []).length m:=by unfold K5;rw[Q0,Q5,QQ,O5,Qe];cases h:(g.getD n []).contains (m:Int)<;>simp at h<;>simp[h]
def Lp{n:Nat}:Lm g (n+1) 0=Lm g n (g.getD n []).length:=by unfold Lm;congr 1;funext m;exact K9 m
def Kz{l:List Int}{j:Nat}(h:j<l.length)(x:Int):(l.take (j+1)).contains x=((l.take j).contains x||x==l[j]):=by rw[Q4 h,OL,OL,OC];simp
def K8{n j m:Nat}(hj:j<(g.getD n []).length)(a:(g.getD n [])[j]=(m:Int))(hn:((g.getD n []).take j).contains (m:Int)=false):K5 g n (j+1) m=K5 g n j m++[(n:Int)]:=by unfold K5;rw[Kz hj,hn,a];simp
def La{n j m:Nat}(hj:j<(g.getD n []).length)(hn:((g.getD n []).take j).contains (m:Int)=true):K5 g n (j+1) m=K5 g n j m:=by unfold K5;rw[Kz hj,hn];simp
def Lb{n j m:Nat}(hj:j<(g.getD n []).length)(a:(g.getD n [])[j]≠(m:Int)):K5 g n (j+1) m=K5 g n j m:=by
 unfold K5;rw[Kz hj];have:((m:Int)==(g.getD n [])[j])=false:=by rw[S2];exact RW a
 rw[this,N7]
def K6{n j m:Nat}(h:0<(K5 g n j m).length):((K5 g n j m)[(K5 g n j m).length -1]=(n:Int))↔((g.getD n []).take j).contains (m:Int)=true:=by
 have c:(K5 g n j m)[(K5 g n j m).length -1]=(K5 g n j m).getLast (QD h):=by rw[List.getLast_eq_getElem]
 rw[c];constructor
 .intro e;apply Ob;intro b;have a:((g.getD n []).take j).contains (m:Int)=false:=by simpa using b
  have:(n:Int)∈K5 g n j m:=by rw[<-e];exact List.getLast_mem _
  unfold K5 at this;rw[a]at this;simp at this;omega
 .intro b;have:K5 g n j m=((range n).filter (λk=>(g.getD k []).contains (m:Int))).map (λk:Nat=>(k:Int))++[(n:Int)]:=by unfold K5;rw[Tn b]
  simp only[this];simp
def K_{n j m:Nat}(h:(K5 g n j m).length=0):((g.getD n []).take j).contains (m:Int)=false:=by
 cases a:((g.getD n []).take j).contains (m:Int)
 .rfl
 .unfold K5 at h;rw[Tn a]at h;simp at h
def Lr{n j:Nat}(hj:j<(g.getD n []).length){m:Nat}(a:(g.getD n [])[j]=(m:Int))(b:m<g.length)(hn:((g.getD n []).take j).contains (m:Int)=false):
  (Lm g n j).set m (K5 g n j m++[(n:Int)])=Lm g n (j+1):=by
 apply O3 (by simp[Lm]);intro i h1 h2;rw[PP];by_cases e:m=i
 .subst e;rw[Tn rfl,Ln,K8 hj a hn]
 .rw[Tm e,Ln,Ln,Lb hj (by rw[a];omega)]
def Lq{n j:Nat}(hj:j<(g.getD n []).length){m:Nat}(a:(g.getD n [])[j]=(m:Int))(hn:((g.getD n []).take j).contains (m:Int)=true):Lm g n j=Lm g n (j+1):=by
 apply O3 (by simp[Lm]);intro i h1 h2;rw[Ln,Ln];by_cases e:m=i
 .subst e;rw[La hj hn]
 .rw[Lb hj (by rw[a];omega)]
def Li(g:List (List Int)):(Lh g).length=g.length:=Lo _ _ _
def Lj{m k:Nat}(b:m<g.length):(k:Int)∈(Lh g).getD m []↔k<g.length/\(m:Int)∈g.getD k []:=by
 have:(Lh g).getD m []=K5 g g.length 0 m:=by rw[Pl,Pq (by rw[Li];exact b)];exact Ln _
 rw[this];unfold K5;simp;constructor
 .rintro⟨a,⟨h1,h2⟩,h3⟩;have:a=k:=by omega
  subst this;exact⟨h1,h2⟩
 .rintro⟨h1,h2⟩;exact⟨k,⟨h1,h2⟩,rfl⟩
def Lk(g:List (List Int)):okG (Lh g):=by intro l c x a;obtain⟨m,b,rfl⟩:=Qu.1 c;rw[Li]at b⊢;have e:(Lh g)[m]'(by rw[Li];exact b)=K5 g g.length 0 m:=Ln _;rw[e]at a;unfold K5 at a;simp at a;obtain⟨k,⟨h1,_⟩,rfl⟩:=a;omega
def qM(n:Int)(s:List Int×List Int)(k:Int):List Int×List Int:=if s.1.getD k.toNat 0<0 then(s.1.set k.toNat (s.1.getD n.toNat 0+1),s.2++[k])else s
def qE(back:List (List Int)):Nat->List Int->List Int->List Int
 |0,d,_=>d
 |_+1,d,[]=>d
 |f+1,d,n::r=>qE back f ((back.getD n.toNat []).foldl (qM n) (d,r)).1 ((back.getD n.toNat []).foldl (qM n) (d,r)).2
def qB(to:List Bool):List Int:=to.map λb=>if b then 0 else -1
def qJ(to:List Bool)(n:Nat):List Int:=((range n).filter (λk=>to.getD k false)).map λk:Nat=>(k:Int)
def qH(g:List (List Int))(to:List Bool):List Int:=qE (Lh g) (2*g.length+2) (qB to) (qJ to to.length)
def Cf(d:List Int):Nat:=d.countP λx=>decide (x<0)
def Cg{d:List Int}{k:Nat}{v:Int}(a:k<d.length)(h:d[k]<0)(c:0<=v):Cf (d.set k v)+1=Cf d:=by
 unfold Cf;have e:d=d.take k++d[k]::d.drop (k+1):=by simp
 have b:d.set k v=d.take k++v::d.drop (k+1):=by rw[QU,Tn a]
 rw[b]
 conv=>rhs;rw[e]
 simp only[ON,OO,h,Th,To];have:decide (v<0)=false:=by simp;omega
 rw[this];simp;omega
structure FInv(g:List (List Int))(to:List Bool)(d now:List Int)(cur:Option (Nat×Nat)):Prop where
 len:d.length=g.length
 tol:to.length=g.length
 ge:∀n (h:n<d.length),-1<=d[n]
 le:∀n (h:n<d.length),d[n]+Cf d+1<=g.length
 zero:∀n (h:n<d.length),d[n]=0↔to.getD n false=true
 pos:∀n (h:n<d.length),0<d[n]->∃m,∃hm:m<d.length,(m:Int)∈g.getD n []/\d[m]=d[n] -1
 inN:∀x∈now,0<=x/\x<g.length
 nowd:∀x∈now,0<=d.getD x.toNat (-1)
 done:∀m (h:m<d.length),0<=d[m]->(m:Int)∈now\/(∃j,cur=some (m,j))\/∀k (hk:k<d.length),(m:Int)∈g.getD k []->0<=d[k]
 curd:∀m j,cur=some (m,j)->∃hm:m<d.length,0<=d[m]/\∀x∈((Lh g).getD m []).take j,0<=d.getD x.toNat (-1)
def tx{d:List Int}{n:Nat}(h:n<d.length):d.getD n x=d[n]:=by rw[Pl,Pq h];rfl
def FInv.step{to:List Bool}{d now:List Int}{m j:Nat}(h:FInv g to d now (some (m,j)))(hj:j<((Lh g).getD m []).length){k:Int}(G:((Lh g).getD m [])[j]=k):
  FInv g to (qM m (d,now) k).1 (qM m (d,now) k).2 (some (m,j+1))/\(qM m (d,now) k).2.length+Cf (qM m (d,now) k).1=now.length+Cf d:=by
 obtain⟨q,B,p⟩:=h.curd m j rfl;have z:m<g.length:=by rw[<-h.len];exact q
 have u:((Lh g).getD m [])∈Lh g:=by rw[Pl,Pq (by rw[Li];exact z)];exact PL _
 have o:0<=k/\k<g.length:=by have:=Lk g _ u k (G▸PL _);rwa[Li]at this
 obtain⟨kn,rfl⟩:=Om o.1;have F:kn<g.length:=by omega
 have f:kn<d.length:=by rw[h.len];exact F
 have A:(m:Int)∈g.getD kn []:=((Lj z).1 (G▸PL hj)).2;have t:∀x,x∈((Lh g).getD m []).take (j+1)->x∈((Lh g).getD m []).take j\/x=(kn:Int):=by intro x b;rw[Q4 hj,G]at b;simpa using b
 unfold qM;simp only[Oy];rw[tx f,tx q];split
 .rename_i w;have y:m≠kn:=λe=>by subst e;omega
  have hn:=Cg f w (v:=d[m]+1) TK;have a:∀n (hn:n<(d.set kn (d[m]+1)).length),(d.set kn (d[m]+1))[n]=if kn=n then d[m]+1 else d[n]'(by rw[P_]at hn;exact hn):=λn hn=>PP ..;have s:∀x,0<=d.getD x (-1)->0<=(d.set kn (d[m]+1)).getD x (-1):=by
   intro x b;by_cases r:x<d.length
   .rw[tx (by rw[P_];exact r),a];split
    .omega
    .rwa[tx r]at b
   .rw[Pl,Pr TK]at b;simp at b
  refine⟨⟨by rw[P_];exact h.len,h.tol,?_,?_,?_,?_,?_,?_,?_,?_⟩,by simp only[PX,Qa];omega⟩
  .intro n c;rw[a];split
   .omega
   .exact h.ge n _
  .intro n c;rw[P_]at c;rw[a];have h1:=h.le m q;have h2:=h.le n c;dsimp only;split<;>omega
  .intro n c;rw[P_]at c;rw[a];split
   .rename_i e;subst e;have:=h.zero kn f;constructor
    .intro e;omega
    .intro e;have:=this.2 e;omega
   .exact h.zero n c
  .intro n c i;rw[P_]at c;rw[a]at i⊢;split at i
   .rename_i e;subst e;rw[Tn rfl];refine⟨m,by rw[P_];exact q,A,?_⟩;rw[a,Tm (RW y)];omega
   .rename_i e;rw[Tm e];obtain⟨C,h1,h2,h3⟩:=h.pos n c i;refine⟨C,by rw[P_];exact h1,h2,?_⟩;rw[a,Tm (λe=>by subst e;omega)];exact h3
  .intro x b;rw[Ql,QC]at b;obtain b|rfl:=b
   .exact h.inN x b
   .omega
  .intro x b;rw[Ql,QC]at b;obtain b|rfl:=b
   .exact s _ (h.nowd x b)
   .rw[Oy,tx (by rw[P_];exact f),a,Tn rfl];omega
  .intro D l i;rw[P_]at l;rw[a]at i;split at i
   .rename_i e;subst e;exact .inl TO
   .obtain h1|⟨J,h1⟩|h1:=h.done D l i
    .exact .inl (Qm _ h1)
    .simp only[R5,R7]at h1;exact .inr (.inl ⟨j+1,by rw[h1.1]⟩)
    .refine .inr (.inr λk2 o E=>?_);rw[P_]at o;rw[a];split
     .omega
     .exact h1 k2 o E
  .intro C I e;simp only[R5,R7]at e;obtain⟨rfl,rfl⟩:=e;refine⟨by rw[P_];exact q,by rw[a,Tm (RW y)];exact B,λx b=>?_⟩;obtain b|rfl:=t x b
   .exact s _ (p x b)
   .rw[Oy,tx (by rw[P_];exact f),a,Tn rfl];omega
 .rename_i H;refine⟨⟨h.len,h.tol,h.ge,h.le,h.zero,h.pos,h.inN,h.nowd,?_,?_⟩,rfl⟩
  .intro D l i;obtain h1|⟨J,h1⟩|h1:=h.done D l i
   .exact .inl h1
   .simp only[R5,R7]at h1;exact .inr (.inl ⟨j+1,by rw[h1.1]⟩)
   .exact .inr (.inr h1)
  .intro C I e;simp only[R5,R7]at e;obtain⟨rfl,rfl⟩:=e;refine⟨q,B,λx b=>?_⟩;obtain b|rfl:=t x b
   .exact p x b
   .rw[Oy,tx f];omega
def FInv.steps{g:List (List Int)}{to:List Bool}{d now:List Int}{m:Nat}(h:FInv g to d now (some (m,0))):∀j,j<=((Lh g).getD m []).length->
  FInv g to ((((Lh g).getD m []).take j).foldl (qM m) (d,now)).1 ((((Lh g).getD m []).take j).foldl (qM m) (d,now)).2 (some (m,j))/\
  ((((Lh g).getD m []).take j).foldl (qM m) (d,now)).2.length+Cf ((((Lh g).getD m []).take j).foldl (qM m) (d,now)).1=now.length+Cf d
 |0,_=>by simp only[Q5,List.foldl_nil];exact⟨h,trivial⟩
 |j+1,hj=>by obtain⟨h1,h2⟩:=FInv.steps h j TK;rw[Q4 TK,Pg,Ph,List.foldl_nil];obtain⟨h3,h4⟩:=h1.step TK rfl;exact⟨h3,by rw[h4,h2]⟩
def FInv.over{to:List Bool}{d now:List Int}{m:Nat}(h:FInv g to d now (some (m,((Lh g).getD m []).length))):FInv g to d now none:=by
 obtain⟨l,n,a⟩:=h.curd m _ rfl;refine⟨h.len,h.tol,h.ge,h.le,h.zero,h.pos,h.inN,h.nowd,?_,λ_ _ e=>by cases e⟩;intro i c j;obtain h1|⟨o,h1⟩|h1:=h.done i c j
 .exact .inl h1
 .simp only[R5,R7]at h1;obtain⟨rfl,_⟩:=h1;refine .inr (.inr λk f b=>?_);rw[Q0]at a;have:=a (k:Int) ((Lj (by rw[<-h.len];exact l)).2 ⟨by rw[<-h.len];exact f,b⟩);rwa[Oy,tx f]at this
 .exact .inr (.inr h1)
def FInv.pop{to:List Bool}{d r:List Int}{n:Int}(h:FInv g to d (n::r) none):∃m:Nat,n=(m:Int)/\m<g.length/\FInv g to d r (some (m,0)):=by
 have hn:=h.inN n TO;obtain⟨m,rfl⟩:=Om hn.1;have f:m<d.length:=by rw[h.len];omega
 refine⟨m,rfl,by omega,h.len,h.tol,h.ge,h.le,h.zero,h.pos,λx a=>h.inN x (by simp[a]),λx a=>h.nowd x (by simp[a]),?_,?_⟩
 .intro c b i;obtain h1|⟨l,h1⟩|h1:=h.done c b i
  .obtain h1|h1:=Qo.1 h1
   .exact .inr (.inl ⟨0,by rw[show c=m by omega]⟩)
   .exact .inl h1
  .cases h1
  .exact .inr (.inr h1)
 .intro j k e;simp only[R5,R7]at e;obtain⟨rfl,rfl⟩:=e;refine⟨f,?_,λx a=>by simp at a⟩;have:=h.nowd m TO;rwa[Oy,tx f]at this
def qF{g:List (List Int)}{to:List Bool}:∀(f a:Nat) (d now:List Int),FInv g to d now none->now.length+Cf d<=f->now.length+Cf d<=a->qE (Lh g) f d now=qE (Lh g) a d now
 |0,a,d,now,h,h1,h2=>by have:now=[]:=O2 TK;subst this;cases a<;>rfl
 |f+1,0,d,now,h,h1,h2=>by have:now=[]:=O2 TK;subst this;rfl
 |f+1,a+1,d,[],h,h1,h2=>rfl
 |f+1,a+1,d,n::r,h,h1,h2=>by obtain⟨m,rfl,e,c⟩:=h.pop;obtain⟨h3,h4⟩:=c.steps _ T8;have b:=h3.over;rw[Q0]at h4 b;simp only[PY]at h1 h2;unfold qE;rw[Oy];exact qF f a _ _ b TK TK
def qG{g:List (List Int)}{to:List Bool}:∀(f:Nat) (d now:List Int),FInv g to d now none->now.length+Cf d<=f->FInv g to (qE (Lh g) f d now) [] none
 |0,d,now,h,h1=>by have:now=[]:=O2 TK;subst this;exact h
 |f+1,d,[],h,h1=>h
 |f+1,d,n::r,h,h1=>by obtain⟨m,rfl,c,b⟩:=h.pop;obtain⟨h3,h4⟩:=b.steps _ T8;have a:=h3.over;rw[Q0]at h4 a;simp only[PY]at h1;unfold qE;rw[Oy];exact qG f _ _ a TK
def qC{to:List Bool}{n:Nat}(h:n<(qB to).length):(qB to)[n]=if to.getD n false=true then 0 else -1:=by
 have a:n<to.length:=by simpa[qB]using h
 simp[qB,Pl,a]
def qD(to:List Bool):Cf (qB to)+(to.countP λb=>b)=to.length:=by unfold Cf qB;rw[List.countP_map,List.length_eq_countP_add_countP (λb=>b) (l:=to),Q8];congr 1;apply List.countP_congr;intro x _;cases x<;>simp
def qK(to:List Bool)(n:Nat):(qJ to n).length<=n:=by unfold qJ;rw[P4];have:=P3 (λk=>to.getD k false) (range n);rwa[P7]at this
def FInv.start{to:List Bool}(h:to.length=g.length):FInv g to (qB to) (qJ to to.length) none:=by
 have j:(qB to).length=g.length:=by simp[qB,h]
 have i:=qD to;refine⟨j,h,?_,?_,?_,?_,?_,?_,?_,λ_ _ e=>by cases e⟩
 .intro n hn;rw[qC];split<;>omega
 .intro n hn;rw[qC];split
  .rename_i d;have:0<to.countP λb=>b:=by
    rw[OQ];have f:n<to.length:=by omega
    refine⟨to[n],PL _,?_⟩;rw[Pl,Pq f]at d;exact d
   omega
  .omega
 .intro n hn;rw[qC];split<;>simp_all
 .intro n hn c;rw[qC]at c;split at c<;>omega
 .intro x a;simp[qJ]at a;obtain⟨k,⟨h1,_⟩,rfl⟩:=a;omega
 .intro x a;simp[qJ]at a;obtain⟨k,⟨h1,h2⟩,rfl⟩:=a;rw[Oy,tx TK,qC,Tn (by simpa using h2)];omega
 .intro m l c;rw[qC]at c;split at c
  .rename_i d;refine .inl ?_;simp[qJ];exact⟨m,⟨by omega,by simpa using d⟩,rfl⟩
  .omega
def qI{to:List Bool}(h:to.length=g.length):FInv g to (qH g to) [] none:=by refine qG _ _ _ (FInv.start h) ?_;have:=qD to;have:=qK to to.length;omega
def mQ(d:List Int)(x:Int):Int:=d.getD x.toNat 0
def EP(d:List Int)(at' n:Int):Bool:=decide (0<=mQ d n)&&(decide (at'<0)||(decide (mQ d n<mQ d at')||(decide (mQ d n=mQ d at')&&decide (n<at'))))
def My(d:List Int)(l:List Int):Int:=l.foldl (λat' n=>if EP d at' n then n else at') (-1)
def Ck(d:List Int)(at' nx n:Int):Bool:=decide (mQ d n=mQ d at' -1)&&(decide (nx<0)||decide (n<nx))
def Mw(d:List Int)(at':Int)(row:List Int):Int:=row.foldl (λnx n=>if Ck d at' nx n then n else nx) (-1)
def Mu(g:List (List Int))(d:List Int):Nat->Int->List Int
 |0,a=>[a]
 |f+1,a=>if 0<mQ d a then a::Mu g d f (Mw d a (g.getD a.toNat []))else [a]
def Mp(g:List (List Int))(from':List Int)(to:List Bool):List Int×Bool×Int:=
 if kL g≠0 then([],false,kL g)else if De g.length from'=true\/to.length≠g.length then([],false,1)else
 if My (qH g to) from'<0 then([],false,0)else(Mu g (qH g to) g.length (My (qH g to) from'),true,0)
def ES{d:List Int}:∀(l:List Int),(∀x∈l,0<=x)->(My d l= -1/\∀x∈l,mQ d x<0)\/(My d l∈l/\0<=mQ d (My d l)):=by
 have key:∀(l pre:List Int) (a:Int),(∀x∈l,0<=x)->((a= -1/\∀x∈pre,mQ d x<0)\/(a∈pre/\0<=a/\0<=mQ d a))->
   ((l.foldl (λat' n=>if EP d at' n then n else at') a= -1/\∀x∈pre++l,mQ d x<0)\/(l.foldl (λat' n=>if EP d at' n then n else at') a∈pre++l/\0<=mQ d (l.foldl (λat' n=>if EP d at' n then n else at') a))):=by
  intro l;induction l with
  |nil=>intro pre a _ h;simpa using h.imp id (λh=>⟨h.1,h.2.2⟩)
  |cons x l j=>
   intro pre a c h;have:=j (pre++[x]) (if EP d a x then x else a) (λy b=>c y (by simp[b])) (by
    have f:=c x TO;obtain⟨rfl,h2⟩|⟨h1,h2,h3⟩:=h
    .by_cases e:0<=mQ d x
     .rw[Tn (by simp[EP,e])];exact .inr ⟨by simp,f,e⟩
     .rw[Tm (by simp[EP,e])];refine .inl ⟨rfl,λy b=>?_⟩;rw[Ql,QC]at b;obtain b|rfl:=b
      .exact h2 y b
      .omega
    .split
     .rename_i i;simp only[EP,NS,Td]at i;exact .inr ⟨by simp,f,i.1⟩
     .exact .inr ⟨by simp[h1],h2,h3⟩)
   simpa using this
 intro l c;have:=key l [] (-1) c (.inl ⟨rfl,by simp⟩);simpa[My]using this
def Cq{d:List Int}{a:Int}(row:List Int)(i:∀x∈row,0<=x)(h:∃m∈row,mQ d m=mQ d a -1):Mw d a row∈row/\mQ d (Mw d a row)=mQ d a -1:=by
 have key:∀(l pre:List Int) (nx:Int),(∀x∈l,0<=x)->((nx= -1/\∀x∈pre,mQ d x≠mQ d a -1)\/(nx∈pre/\mQ d nx=mQ d a -1))->
   ((l.foldl (λnx n=>if Ck d a nx n then n else nx) nx= -1/\∀x∈pre++l,mQ d x≠mQ d a -1)\/(l.foldl (λnx n=>if Ck d a nx n then n else nx) nx∈pre++l/\mQ d (l.foldl (λnx n=>if Ck d a nx n then n else nx) nx)=mQ d a -1)):=by
  intro l;induction l with
  |nil=>intro pre nx _ h;simpa using h
  |cons x l f=>
   intro pre nx k h;have:=f (pre++[x]) (if Ck d a nx x then x else nx) (λy b=>k y (by simp[b])) (by
    obtain⟨rfl,h2⟩|⟨h1,h2⟩:=h
    .by_cases c:mQ d x=mQ d a -1
     .rw[Tn (by simp[Ck,c])];exact .inr ⟨by simp,c⟩
     .rw[Tm (by simp[Ck,c])];refine .inl ⟨rfl,λy b=>?_⟩;rw[Ql,QC]at b;obtain b|rfl:=b
      .exact h2 y b
      .exact c
    .split
     .rename_i e;simp only[Ck,NS,Td]at e;exact .inr ⟨by simp,e.1⟩
     .exact .inr ⟨by simp[h1],h2⟩)
   simpa using this
 have:=key row [] (-1) i (.inl ⟨rfl,by simp⟩);simp only[QE]at this;obtain⟨_,h2⟩|h2:=this
 .obtain⟨m,j,o⟩:=h;exact absurd o (h2 m j)
 .exact h2
structure WayOK(g:List (List Int))(d:List Int)(l:List Int)(a:Int):Prop where
 len:(l.length:Int)=mQ d a+1
 hd:l[0]?=some a
 at':∀i (hi:i<l.length),mQ d l[i]=mQ d a -i
 inR:∀i (hi:i<l.length),0<=l[i]/\l[i]<g.length
 go:∀i (hi:i<l.length) (f':Nat),mQ d l[i]<=f'->Mu g d f' l[i]=l.drop i
 edge:∀i (hi:i<l.length) (hp:0<i),l[i]∈g.getD (l[i -1]'TK).toNat []
section
variable {g:List (List Int)}{to:List Bool}(h:FInv g to (qH g to) [] none)(hg:okG g)
include h hg
theorem MF{a:Int}(j:0<=a/\a<g.length)(e:0<mQ (qH g to) a):
  Mw (qH g to) a (g.getD a.toNat [])∈g.getD a.toNat []/\mQ (qH g to) (Mw (qH g to) a (g.getD a.toNat []))=mQ (qH g to) a -1/\0<=Mw (qH g to) a (g.getD a.toNat [])/\Mw (qH g to) a (g.getD a.toNat [])<g.length:=by
 have f:=Dx hg a.toNat;have b:a.toNat<(qH g to).length:=by rw[h.len];omega
 unfold mQ at e;rw[tx b]at e;obtain⟨m,i,h1,h2⟩:=h.pos a.toNat b e;have c:=Cq (d:=qH g to) (a:=a) (g.getD a.toNat []) (λx c=>(f x c).1) ⟨(m:Int),h1,by unfold mQ;rw[Oy,tx i,tx b];exact h2⟩;exact⟨c.1,c.2,f _ c.1⟩
theorem MB:∀(f:Nat) (a:Int),0<=a/\a<g.length->0<=mQ (qH g to) a->mQ (qH g to) a<=f->WayOK g (qH g to) (Mu g (qH g to) f a) a
 |f,a,o,p,hf=>by
  by_cases n:0<mQ (qH g to) a
  .cases f with
   |zero=>omega
   |succ f=>
    have hn:=MF h hg o n;generalize r:Mw (qH g to) a (g.getD a.toNat [])=x at*;have j:=MB f x hn.2.2 TK TK;generalize s:Mu g (qH g to) f x=l at*;have m:∀(h:0<l.length),l[0]=x:=λh=>by have:=j.hd;rw[Pq h]at this;exact R4 this
    have c:0<l.length:=by have:=j.len;omega
    have efu:∀b:Nat,mQ (qH g to) a<=b->Mu g (qH g to) b a=a::l:=by
     intro b d;cases b with
     |zero=>omega
     |succ b=>
      rw[Mu,Tn n,r];have p:=j.go 0 c b (by rw[m c];omega);rw[m c]at p;rw[p];rfl
    rw[efu (f+1) hf];have q:=j.len;refine⟨by rw[PY];omega,rfl,λi hi=>?_,λi hi=>?_,λi hi b d=>?_,λi hi k=>?_⟩
    .cases i with
     |zero=>simp
     |succ i=>
      have:=j.at' i (by simpa using hi);simp only[PD];omega
    .cases i with
     |zero=>exact o
     |succ i=>exact j.inR i (by simpa using hi)
    .cases i with
     |zero=>exact efu b d
     |succ i=>exact j.go i (by simpa using hi) b d
    .cases i with
     |zero=>omega
     |succ i=>
      cases i with
      |zero=>
       simp only[PD,RT,RP,PE];rw[m c];exact hn.1
      |succ i=>
       have:=j.edge (i+1) (by simpa using hi) TK;simpa using this
  .have e:∀b,Mu g (qH g to) b a=[a]:=by
    intro b;cases b with
    |zero=>rfl
    |succ b=>rw[Mu,Tm n]
   rw[e];have h1:∀i,i<[a].length->i=0:=λi hi=>by simpa using hi
   refine⟨by simp;omega,by simp,λi hi=>?_,λi hi=>?_,λi hi b d=>?_,λi hi k=>?_⟩<;>obtain rfl:=h1 i hi
   .simp
   .exact o
   .exact e b
   .omega
end
def Ge{to:List Bool}(h:FInv g to (qH g to) [] none)(hg:okG g){f:List Int}(hf:Dy g.length f):(∃n,n<g.length/\Rch g f n/\to.getD n false=true)↔∃x∈f,0<=mQ (qH g to) x:=by
 constructor
 .rintro⟨n,hn,s,u⟩;apply Ob;intro t;have key:∀m,Rch g f m->m<g.length/\mQ (qH g to) m<0:=by
   intro m v;induction v with
   |@base x a=>
    have:=hf x a;refine⟨by omega,?_⟩;rw[show((x.toNat:Nat):Int)=x by omega];exact Ot.1 λb=>t ⟨x,a,b⟩
   |@step m x _ a r=>
    have d:=Dx hg m x a;refine⟨by omega,?_⟩;rw[show((x.toNat:Nat):Int)=x by omega];apply Ot.1;intro b;have e:x.toNat<(qH g to).length:=by rw[h.len];omega
    have o:m<(qH g to).length:=by rw[h.len];exact r.1
    unfold mQ at b;rw[tx e]at b;have:=h.done x.toNat e b;obtain h1|⟨j,h1⟩|h1:=this
    .cases h1
    .cases h1
    .have h2:=h1 m o (by rw[show((x.toNat:Nat):Int)=x by omega];exact a);have h3:=r.2;unfold mQ at h3;rw[Oy,tx o]at h3;omega
  have h1:=(key n s).2;have k:n<(qH g to).length:=by rw[h.len];exact hn
  unfold mQ at h1;rw[Oy,tx k,(h.zero n k).2 u]at h1;omega
 .rintro⟨x,a,b⟩;have d:=hf x a;have c:=MB h hg (mQ (qH g to) x).toNat x d b TK;generalize Mu g (qH g to) (mQ (qH g to) x).toNat x=l at c;have q:=c.len;have s:∀i (hi:i<l.length),Rch g f l[i].toNat:=by
   intro i;induction i with
   |zero=>
    intro hi;have:=c.hd;rw[Pq hi]at this;rw[R4 this];exact .base a
   |succ i r=>
    intro hi;exact .step (r TK) (by have:=c.edge (i+1) hi TK;simpa using this)
  have hi:l.length -1<l.length:=by omega
  have h1:=c.at' _ hi;have h2:=c.inR _ hi;refine⟨l[l.length -1].toNat,by omega,s _ hi,?_⟩;have p:l[l.length -1].toNat<(qH g to).length:=by rw[h.len];omega
  refine(h.zero _ p).1 ?_;unfold mQ at h1 q;rw[tx p]at h1;omega
def pB(w0:World){ao:Option Addr}{cap:Nat}{xs ys:List Int}(c:Sl w0 (dk w0) ao cap xs)(f:Sl w0 (dk w0) C B ys):
  Rt Vy 12 [.slice ao xs.length cap,.slice C ys.length B].toArray w0 λv w'=>v=.bool (xs==ys)/\Ext w0 w':=by
 have m:=c.len63;refine dS func12 ntmps12 rfl rfl (Ut ?_);apply ld rfl<;>intro h
 .refine Up ?_;refine d6 ⟨?_,p7 _⟩;simp at h;have:(xs==ys)=false:=by rw[S2];intro e;exact h (by rw[e])
  rw[this]
 .simp at h;refine Uv ?_;refine p8 (S:=Nat) (λk=>[(0,.slice ao xs.length cap),(1,.slice C ys.length B),(12,Ub xs.length),(13,Ub k)])
   (λk w=>k<=xs.length/\Ext w0 w/\∀j (h:j<xs.length) (o:j<ys.length),j<k->xs[j]=ys[j]) (λk=>xs.length -k) 0 TJ ⟨by omega,p7 _,by omega⟩ ?_
  rintro k w ⟨n,a,hn⟩;refine UR ?_;apply ld rfl<;>intro h1
  .simp at h1;refine U8 ?_;refine dy rfl rfl rfl rfl rfl T0 (c.up a) h1 rfl TV (λq=>U_ ?_);refine dy rfl rfl rfl rfl rfl T0 (f.up a) TK rfl TV (λl=>U_ ?_);refine VD (λi d=>UQ ?_);apply ld rfl<;>intro h2
   .refine Ud ?_;refine d6 ⟨?_,a.trans d⟩;simp at h2;have:(xs==ys)=false:=by rw[S2];intro e;subst e;exact h2 rfl
    rw[this]
   .simp at h2;refine US ?_;refine m5 (k+1) TJ ⟨h1,a.trans d,?_⟩ TK;intro j hj b g;by_cases e:j=k
    .subst e;exact h2
    .exact hn j hj b TK
  .simp at h1;refine UF ?_;refine d6 ⟨?_,a⟩;have:(xs==ys)=true:=by rw[S3];exact O3 TK λj h1 h2=>hn j h1 h2 TK
   rw[this]
def yS(w0:World){ao:Option Addr}{cap:Nat}{xs:List Int}(x:Int)(c:Sl w0 (dk w0) ao cap xs):
  Rt Vy 243 [.slice ao xs.length cap,Ub x].toArray w0 λv w'=>v=Ub (idxOf (λy=>x==y) xs)/\Ext w0 w':=by
 have f:=c.len63;refine dS func243 ntmps243 rfl rfl (Ut ?_);refine p8 (S:=Nat) (λk=>[(0,.slice ao xs.length cap),(1,Ub x),(7,Ub xs.length),(8,Ub k)])
  (λk w=>k<=xs.length/\Ext w0 w/\∀j (h:j<xs.length),j<k->(x==xs[j])=false) (λk=>xs.length -k) 0 TJ ⟨by omega,p7 _,by omega⟩ ?_
 rintro k w ⟨g,a,hn⟩;refine UR ?_;apply ld rfl<;>intro h
 .simp at h;refine Ux ?_;refine e_ (c.at a) h rfl TV (λq=>?_);refine Ug ?_;refine ld rfl (λb=>?_) (λb=>?_)
  .refine Ud ?_;refine d6 ⟨?_,a⟩;rw[yl h hn b]
  .refine US ?_;refine m5 (k+1) TJ ⟨h,a,?_⟩ TK;intro j hj d;by_cases e:j=k
   .subst e;exact b
   .exact hn j hj TK
 .simp at h;refine UF ?_;refine d6 ⟨?_,a⟩;rw[yr (λj hj=>hn j hj TK)]
def mf(w0:World){ao:Option Addr}{cap:Nat}{xs:List Int}(x:Int)(a:Sl w0 (dk w0) ao cap xs):
  Rt Vy 192 [.slice ao xs.length cap,Ub x].toArray w0 λv w'=>v=.bool (xs.contains x)/\Ext w0 w':=by
 refine dS func192 ntmps192 rfl rfl (UR ?_);refine eK (yS w0 x a) ?_;rintro v w' ⟨rfl,b⟩;refine Uf ?_;refine d6 ⟨?_,b⟩;rw[<-List.any_beq,<-yj]
def yO(w0:World){ao:Option Addr}{cap:Nat}{xs:List (List Int)}{fv:Value}(p:List Int->Bool)(d:Sl w0 (dk w0) ao cap xs)
  (hf:∀w,Ext w0 w->∀i (h:i<xs.length) u,Rd w (dk w0) u xs[i]->FnV Vy fv [u] w λv w'=>v=.bool (p xs[i])/\Ext w w'):
  Rt Vy 189 [.slice ao xs.length cap,fv].toArray w0 λv w'=>v=Ub (idxOf p xs)/\Ext w0 w':=by
 have l:=d.len63;refine dS func189 ntmps189 rfl rfl (Ut ?_);refine p8 (S:=Nat) (λk=>[(0,.slice ao xs.length cap),(1,fv),(7,Ub xs.length),(8,Ub k)])
  (λk w=>k<=xs.length/\Ext w0 w/\∀j (h:j<xs.length),j<k->p xs[j]=false) (λk=>xs.length -k) 0 TJ ⟨by omega,p7 _,by omega⟩ ?_
 rintro k w ⟨m,b,hn⟩;refine UR ?_;apply ld rfl<;>intro h
 .simp at h;refine Ux ?_;refine fe (d.at b) h TV (λu q f=>?_);refine eL rfl rfl rfl rfl (hf w b k h u f) ?_;rintro v w' ⟨rfl,a⟩;refine UG ?_;refine ld rfl (λc=>?_) (λc=>?_)
  .refine Ud ?_;refine d6 ⟨?_,b.trans a⟩;rw[yl h hn c]
  .refine US ?_;refine m5 (k+1) TJ ⟨h,b.trans a,?_⟩ TK;intro j hj g;by_cases e:j=k
   .subst e;exact c
   .exact hn j hj TK
 .simp at h;refine UF ?_;refine d6 ⟨?_,b⟩;rw[yr (λj hj=>hn j hj TK)]
def ma(w0:World){ao:Option Addr}{cap:Nat}{xs:List (List Int)}{fv:Value}(p:List Int->Bool)(a:Sl w0 (dk w0) ao cap xs)
  (hf:∀w,Ext w0 w->∀i (h:i<xs.length) u,Rd w (dk w0) u xs[i]->FnV Vy fv [u] w λv w'=>v=.bool (p xs[i])/\Ext w w'):
  Rt Vy 110 [.slice ao xs.length cap,fv].toArray w0 λv w'=>v=.bool (xs.any p)/\Ext w0 w':=by
 refine dS func110 ntmps110 rfl rfl (UR ?_);refine eK (yO w0 p a hf) ?_;rintro v w' ⟨rfl,b⟩;refine Uf ?_;refine d6 ⟨?_,b⟩;rw[<-yj]
def Lu(w0:World){ao:Option Addr}{cap:Nat}(hs:Sl w0 F ao cap g)(hF:∀b,F b->b<w0.heap.size)(hg:okG g)(hl:g.length<=1099511627776):
  Rt Vy 69 [.slice ao g.length cap].toArray w0 λv w'=>∃vs,OwnN w' w0.heap.size 39 3 v vs (Lh g)/\Ext w0 w':=by
 refine dR func69 ntmps69 rfl rfl (Ut ?_);refine fI (α:=Raw) rfl rfl rfl rfl TK TQ (λW ho1 T=>?_);have V:Ext w0 W:=(NP _ _).grown T T8 T2;generalize hsv:Value.slice (some ⟨w0.heap.size,0,none⟩) g.length g.length=sv at*;have M:OwnN W w0.heap.size 39 3 sv _ (replicate g.length ([]:List Int)):=Wg ho1;rw[<-Ls]at M;refine Ut ?_;refine p8 (S:=Nat×List Raw) (λs=>[(3,sv),(12,.slice ao g.length cap),(13,Ub g.length),(14,Ub s.1)])
  (λs w=>s.1<=g.length/\OwnN w w0.heap.size 39 3 sv s.2 (Lm g s.1 0)/\Ext w0 w) (λs=>g.length -s.1) (0,_) TJ ⟨by omega,M,V⟩ ?_
 rintro⟨n,vs⟩ w ⟨hn,d,N⟩;dsimp only at hn d;refine UR ?_;apply ld rfl<;>intro l
 .simp at l;refine UB ?_;have Q:Sl w F ao cap g:=hs.mono (λb C=>N.block b (hF b C)) λ_ h=>h;refine fe Q l TV (λu q z=>?_);obtain⟨lo,P,rfl,t⟩:=z.sl;have R:=t.len63
  try dsimp only at R t
  have erow:g.getD n []=g[n]:=by rw[Pl,Pq l];rfl
  refine Ut ?_;refine p8 (S:=Nat×List Raw) (λs=>[(3,sv),(4,Ub n),(12,.slice ao g.length cap),(13,Ub g.length),(14,Ub n),(19,.slice lo g[n].length P),(20,Ub g[n].length),(21,Ub s.1)])
   (λs w=>s.1<=g[n].length/\OwnN w w0.heap.size 39 3 sv s.2 (Lm g n s.1)/\Ext w0 w) (λs=>g[n].length -s.1) (0,vs) TJ ⟨by omega,d,N⟩ ?_
  rintro⟨j,vs⟩ Y ⟨hj,d,i⟩;dsimp only at hj d;have H:=d.len;rw[Lo]at H;refine UR ?_;refine ld rfl (λh1=>?_) (λh1=>?_)<;>simp at h1
  .have D:Sl Y F lo P g[n]:=t.mono (λb C=>(i.block b (hF b C)).trans (N.block b (hF b C)).symm) λ_ h=>h;have hk:=hg _ (PL l) _ (PL h1);obtain⟨k,ek⟩:=Om hk.1;have I:k<g.length:=by omega
   have f:k<vs.length:=by omega
   have J:j<(g.getD n []).length:=by rw[erow];exact h1
   have ek':(g.getD n [])[j]=(k:Int):=by simp only[erow];exact ek
   refine UC ?_;refine e_ D h1 ek TV (λq=>?_);refine UR ?_;refine fh rfl rfl rfl rfl rfl d.out f TV (λu q z=>?_);obtain⟨rfl,_⟩:=z.raw;have o:=d.inn k f (by rw[Lo];exact I);rw[Ln]at o;have Z:=K7 g n j k;obtain⟨io,ic,hiv⟩:=o.val;refine fy rfl rfl rfl o (U9 ?_);apply p0;apply bA;generalize A:K5 g n j k=row at*;refine aA [(3,sv),(4,Ub n),(7,Ub k),(12,.slice ao g.length cap),(13,Ub g.length),(14,Ub n),(19,.slice lo g[n].length P),(20,Ub g[n].length),(21,Ub j),(43,.bool (!((g.getD n []).take j).contains (k:Int)))] ?_ ?_
   .refine U4 ?_;(refine a6 (λh=>?_) (λh=>?_))<;>simp at h
    .have y:((g.getD n []).take j).contains (k:Int)=false:=K_ (by rw[A];simp[h]);rw[y];refine Ve ?_;exact p0 (aT TJ)
    .have E:0<row.length:=by cases row with|nil=>exact absurd rfl h|cons x r=>simp
     refine U9 ?_;refine fh rfl rfl rfl rfl rfl d.out f TV (λu q z=>?_);obtain⟨rfl,_⟩:=z.raw;refine Ve ?_;refine fg rfl rfl rfl rfl rfl o TK TK TV (λu q z=>?_);obtain rfl:=z.int;have c:=K6 (g:=g) (n:=n) (j:=j) (m:=k) (by rw[A];exact E);simp only[A]at c;have ei:((row.length:Int) -1).toNat=row.length -1:=by omega
     have e:(row[((row.length:Int) -1).toNat]'TK != (n:Int))=(!((g.getD n []).take j).contains (k:Int)):=by
      simp only[ei];cases y:((g.getD n []).take j).contains (k:Int)
      .rw[y]at c;simpa[S6]using c
      .rw[y]at c;simpa[S6]using c
     rw[<-e];refine U9 ?_;exact p0 (aT TJ)
   .apply ld rfl<;>intro y
    .have y:((g.getD n []).take j).contains (k:Int)=false:=by simpa using y
     refine U4 ?_;refine fh rfl rfl rfl rfl rfl d.out f TV (λu q z=>?_);obtain⟨rfl,_⟩:=z.raw;refine U9 ?_;refine eF (F:=dh) (yv:=(n:Int)) rfl rfl TV rfl rfl TV o T7 i.size TY TN TQ TK (λO w3 p ho3 B hnb=>?_);have G:=d.mid f B;refine fX (u:=O) (yv:=⟨O⟩) rfl rfl rfl rfl G f TV TV (VO _ _ _ ?_) (λX q ho4 K=>?_)
     .obtain⟨a,b,rfl⟩:=ho3.val;rfl
     have L:=d.set f ho3 B hnb ho4 K;rw[<-A,Lr J ek' I y]at L;have U:Ext w0 X:=(i.grown B i.size (λb C=>(o.lt b C).1)).grown K (Rr i.size B.size) (λb C=>(d.out.lt b C).1);refine Ui ?_;exact m5 (j+1,vs.set k ⟨O⟩) TJ ⟨h1,L,U⟩ (by simp only;omega)
    .have y:((g.getD n []).take j).contains (k:Int)=true:=by simpa using y
     refine US ?_;rw[Lq J ek' y]at d;exact m5 (j+1,vs) TJ ⟨h1,d,i⟩ (by simp only;omega)
  .have:j=g[n].length:=by omega
   subst this;rw[<-erow,<-Lp]at d;refine Uj ?_;exact m5 (n+1,vs) TJ ⟨l,d,i⟩ (by simp only;omega)
 .simp at l;have:n=g.length:=by omega
  subst this;refine UF ?_;exact be ⟨vs,d,N⟩
def bg{n:Nat}{σ:Sg}{t u s:Nat}{x y:Value}(i:z.results=#[.tmp t,.tmp u,.tmp s])(f:fnd σ t=some v)(d:fnd σ u=some x)(g:fnd σ s=some y)(h:c (.tuple ⟨[v,x,y]⟩) w):
  EX (bodyPost P z λe w'=>∃v,e=.returned v/\c v w') .ret n σ w:=by
 unfold EX;intro a b;exact S7 (results_tmp3 i _ _ _) b.defers ⟨_,by rw[b.slot t v f,b.slot u x d,b.slot s y g],h⟩
def qL{to:List Bool}{n:Nat}(h:n<to.length):qJ to (n+1)=qJ to n++(if to[n]=true then [(n:Int)]else []):=by
 unfold qJ;rw[QQ,O5,Qe];have:to.getD n false=to[n]:=by rw[Pl,Pq h];rfl
 cases e:to[n]<;>rw[e]at this<;>simp at this<;>simp[this]
def tE{d:List Int}{n k:Nat}{v:Int}(h:n<d.length):(d.set n v).getD k 0=if n=k then v else d.getD k 0:=by
 rw[Pl,Pl,Py];split
 .rename_i e;simp[h]
 .rfl
def Lg(g:List (List Int)):List (List Int):=if kL g=0 then Lh g else []
def ez(w0:World){ao:Option Addr}{cap:Nat}(d:Sl w0 (dk w0) ao cap g):
  Rt Vy 30 [.slice ao g.length cap].toArray w0 λr w'=>∃v vs,r=.tuple ⟨[v,Ub (kL g)]⟩/\OwnN w' w0.heap.size 39 3 v vs (Lg g)/\Ext w0 w':=by
 refine dR func30 ntmps30 rfl rfl (UR ?_);refine eK (lr w0 d) ?_;rintro v e ⟨rfl,a⟩;unfold Lg;refine UR ?_;apply CW.cond rfl<;>intro h
 .have b:kL g≠0:=by simpa using h
  refine Up ?_;exact f0 ⟨.slice none 0 0,[],rfl,by rw[Tm b];exact OwnN.nil,a⟩
 .have b:kL g=0:=by simpa using h
  obtain⟨i,f⟩:=kN b;refine UB ?_;refine eK (Lu e (d.up a) T0 i TK) ?_;rintro v k ⟨vs,j,c⟩;refine Uf ?_;exact f0 ⟨v,vs,by rw[b],by rw[Tn b];exact j.low a.size,a.trans c⟩
def qN(w0:World){ao lo:Option Addr}{cap:Nat}{to:List Bool}(hs:Sl w0 F ao cap g)(ht:Sl w0 F lo B to)(hF:∀b,F b->b<w0.heap.size)(N:okG g)(hl:g.length<=1099511627776)(htl:to.length=g.length):
  Rt Vy 136 [.slice ao g.length cap,.slice lo to.length B].toArray w0 λv w'=>Own w' w0.heap.size 3 dh v (qH g to)/\Ext w0 w':=by
 refine dS func136 ntmps136 rfl rfl (UR ?_);refine eK (Lu w0 hs hF N hl) ?_;rintro bv i ⟨bs,T,U⟩;refine Ut ?_;refine fI (α:=Int) rfl rfl rfl rfl TK TQ (λw2 ho2 hg2=>?_);have hE2:Ext i w2:=(NP _ _).grown hg2 T8 T2;have hN2:=T.ext hE2;have hE12:=U.trans hE2;generalize hdv:Value.slice (some ⟨i.heap.size,0,none⟩) g.length g.length=dv at*;have K:dv.ownBlock=some i.heap.size:=by rw[<-hdv];rfl
 have hbb:∀b,OwnN.blk bv bs b->b<i.heap.size:=λb t=>(T.lt b t).2;refine Ut ?_;refine p8 (S:=Nat×List Int×Value) (λs=>[(5,bv),(6,dv),(7,s.2.2),(18,.slice lo to.length B),(19,Ub to.length),(20,Ub s.1)])
  (λs w=>s.1<=to.length/\s.2.1.length=g.length/\(∀k,k<s.1->s.2.1.getD k 0=(qB to).getD k 0)/\Own w i.heap.size 3 dh dv s.2.1/\Own w i.heap.size 3 dh s.2.2 (qJ to s.1)/\(∀b,s.2.2.ownBlock=some b->b≠i.heap.size)/\Ext i w) (λs=>to.length -s.1) (0,replicate g.length 0,.slice none 0 0) TJ ⟨by omega,by simp,λk hk=>absurd hk TO,ho2,by simpa[qJ]using r3,λb t=>by simp[Value.ownBlock]at t,hE2⟩ ?_
 rintro⟨n,d,nv⟩ w ⟨hn,Z,O,A,J,y,hE⟩;dsimp only at hn Z O A J y;have hnl:=qK to n;refine UR ?_;apply ld rfl<;>intro C
 .simp at C;have hs0:w0.heap.size<=i.heap.size:=U.size;have ht':Sl w F lo B to:=ht.mono (λb t=>(U.trans hE).block b (hF b t)) λ_ h=>h;have eD:∀k,k<n+1->(d.set n (if to[n]=true then 0 else -1)).getD k 0=(qB to).getD k 0:=by
   intro k hk;rw[tE TK];split
   .rename_i e;subst e;rw[tx (by simp[qB];exact C),qC];rw[Pl,Pq C];rfl
   .exact O k TK
  refine UB ?_;refine eY rfl rfl rfl rfl rfl ht' C rfl TV (λq=>UR ?_);refine fX (u:=Ub (-1)) (yv:=(-1:Int)) rfl rfl rfl rfl A TK TV TV T7 (λw3 q ho3 hg3=>?_);have E:Ext i w3:=hE.grown hg3 hE.size (λb t=>(A.lt b t).1);have l:=J.keptN hg3 (λg N=>by rw[K];simpa using y g N);refine UR ?_;apply ld rfl<;>intro t
  .rw[Tn t]at eD;refine U4 ?_;refine fX (u:=Ub 0) (yv:=(0:Int)) rfl rfl rfl rfl ho3 (by rw[P_];omega) TV TV T7 (λw4 q ho4 R=>?_);rw[List.set_set]at ho4;have M:Ext i w4:=E.grown R E.size (λb t=>(A.lt b t).1);have H:=l.keptN R (λg N=>by rw[K];simpa using y g N);apply p0;apply bA;apply Wh;refine U9 ?_;refine eF (F:=dh) (yv:=(n:Int)) rfl rfl TV rfl rfl TV H T7 M.size TY TN TQ TK (λv' w5 p ho5 Q hnb=>?_);have hE5:Ext i w5:=M.grown Q M.size (λb t=>(H.lt b t).1);have hd5:=ho4.keptN Q (λg N e=>by rw[K]at N;cases N;exact y _ e.symm rfl);refine Ui ?_;refine m5 (n+1,d.set n 0,v') TJ ⟨C,by simp[Z],eD,hd5,?_,?_,hE5⟩ (by simp only;omega)
   .dsimp only;rw[qL C,Tn t];exact ho5
   .intro b hb';obtain h|h:=hnb b hb'
    .exact y b h
    .have:=(ho4.lt _ K).2.1;omega
  .rw[Tm (by simp[t])]at eD;refine US ?_;refine m5 (n+1,d.set n (-1),nv) TJ ⟨C,by simp[Z],eD,ho3,?_,y,E⟩ (by simp only;omega);dsimp only;rw[qL C,Tm (by simp[t]),OH];exact l
 .simp at C;have:n=to.length:=by omega
  subst this;have hd0:d=qB to:=by apply O3 (by rw[Z];simp[qB,htl]);intro k h1 h2;have:=O k TK;rwa[tx h1,tx h2]at this
  subst hd0;have hI:=FInv.start htl;have P:(qJ to to.length).length+Cf (qB to)<=2*g.length+2:=by have:=qD to;omega
  have G:∀f,(qJ to to.length).length+Cf (qB to)<=f->qE (Lh g) f (qB to) (qJ to to.length)=qH g to:=λf hf=>qF f _ _ _ hI hf P;refine U1 ?_;refine p8 (S:=List Int×List Int×Value) (λs=>[(5,bv),(6,dv),(7,s.2.2)])
   (λs w=>FInv g to s.1 s.2.1 none/\(∀f,s.2.1.length+Cf s.1<=f->qE (Lh g) f s.1 s.2.1=qH g to)/\s.2.1.length+Cf s.1<=2*g.length+2/\Own w i.heap.size 3 dh dv s.1/\Own w i.heap.size 3 dh s.2.2 s.2.1/\(∀b,s.2.2.ownBlock=some b->b≠i.heap.size)/\Ext i w) (λs=>s.2.1.length+Cf s.1) (qB to,qJ to to.length,nv) TJ ⟨hI,G,P,A,J,y,hE⟩ ?_
  rintro⟨d,now,nv⟩ w ⟨hI,G,hm,A,J,y,hE⟩;dsimp only at hI G hm A J y;refine U5 ?_;apply ld rfl<;>intro h0
  .simp at h0
   match now,h0 with
   |x::r,_=>
   obtain⟨m,rfl,hmg,hp⟩:=hI.pop;have hml:m<bs.length:=by have:=T.len;rw[Li]at this;omega
   have hNw:=T.ext hE;have W:m<(Lh g).length:=by rw[Li];exact hmg
   have erow:(Lh g)[m]=(Lh g).getD m []:=by rw[Pl,Pq W];rfl
   have hin:=hNw.inn m hml W;rw[erow]at hin;have hrow:=(hin.oldN);obtain⟨io,ic,hiv,hrs⟩:=hrow.sl;have hrl:=hrs.len63;generalize V:(Lh g).getD m []=row at*;refine UB ?_;refine fg rfl rfl rfl rfl rfl J TK TO TV (λu q hu=>?_);obtain rfl:=hu.int;simp only[Int.toNat_zero,PE];refine UR ?_;refine eV (α:=Int) 1 rfl rfl rfl rfl rfl J TO (λnv2 hon2 hnb=>?_);simp only[O0,O1]at hon2;have hne2:∀b,nv2.ownBlock=some b->b≠i.heap.size:=λb t=>y b (by rw[<-hnb];exact t);refine UR ?_;refine fh rfl rfl rfl rfl rfl hNw.out hml TV (λu q hu=>?_);obtain⟨rfl,_⟩:=hu.raw;rw[hiv];refine Uz ?_;have hm':r.length+1+Cf d<=2*g.length+2:=by simpa using hm
   refine p8 (S:=Nat×List Int×List Int×Value) (λs=>[(5,bv),(6,dv),(7,s.2.2.2),(10,Ub m),(48,.slice io row.length ic),(49,Ub row.length),(50,Ub s.1)])
    (λs w=>s.1<=row.length/\(s.2.1,s.2.2.1)=(row.take s.1).foldl (qM m) (d,r)/\FInv g to s.2.1 s.2.2.1 (some (m,s.1))/\s.2.2.1.length+Cf s.2.1=r.length+Cf d/\Own w i.heap.size 3 dh dv s.2.1/\Own w i.heap.size 3 dh s.2.2.2 s.2.2.1/\(∀b,s.2.2.2.ownBlock=some b->b≠i.heap.size)/\Ext i w) (λs=>row.length -s.1) (0,d,r,nv2) TJ ⟨by omega,rfl,hp,rfl,A,hon2,hne2,hE⟩ ?_
   rintro⟨j,d2,now2,nv3⟩ w3 ⟨hj,D,L,hm3,o,l,z,E⟩;dsimp only at hj D L hm3 o l z;refine UR ?_;apply ld rfl<;>intro h1
   .simp at h1;have hrow3:Sl w3 (dk i) io ic row:=by have:=(T.inn m hml W);rw[erow]at this;obtain⟨a,b,e1,e2⟩:=this.oldN.sl;rw[hiv]at e1;obtain⟨rfl,_,rfl⟩:=SV e1;exact e2.at E
    have I:=L.step (j:=j) (k:=row[j]) (by rw[V];exact h1) (by simp only[V]);have c:qM m (d2,now2) row[j]=(row.take (j+1)).foldl (qM m) (d,r):=by rw[Q4 h1,Pg,<-D];rfl
    have hk:0<=row[j]/\row[j]<g.length:=by have:=Lk g _ (PL W) row[j] (by rw[erow];exact PL h1);rwa[Li]at this
    have X:=(L.curd m j rfl).1;have hmv:=(L.curd m j rfl).2.1;have hle:=L.le m X;obtain⟨k,ek⟩:=Om hk.1;rw[ek]at I c;have Y:k<d2.length:=by rw[L.len];omega
    refine UC ?_;refine e_ hrow3 h1 ek TV (λq=>?_);refine UR ?_;refine fh rfl rfl rfl rfl rfl o Y TV (λu q hu=>?_);obtain rfl:=hu.int;refine Ug ?_;apply ld rfl<;>intro h2
    .have h2:d2[k]<0:=by simpa using h2
     have eS:qM m (d2,now2) (k:Int)=(d2.set k (d2[m]+1),now2++[(k:Int)]):=by unfold qM;simp only[Oy,tx Y,tx X];rw[Tn h2]
     rw[eS]at I c;dsimp only at I;refine U4 ?_;refine fh rfl rfl rfl rfl rfl o X TV (λu q hu=>?_);obtain rfl:=hu.int;refine Vg ?_;refine fX (u:=Ub (d2[m]+1)) (yv:=d2[m]+1) rfl rfl rfl rfl o Y TV TV T7 (λw4 q ho4 R=>?_);have M:Ext i w4:=E.grown R E.size (λb t=>(o.lt b t).1);have H:=l.keptN R (λg N=>by rw[K];simpa using z g N);apply p0;apply bA;apply Wh;refine U9 ?_;refine eF (F:=dh) (yv:=(k:Int)) rfl rfl TV rfl rfl TV H T7 M.size TY TN TQ TK (λv' w5 p ho5 Q hnb5=>?_);have hE5:Ext i w5:=M.grown Q M.size (λb t=>(H.lt b t).1);have hd5:=ho4.keptN Q (λg N e=>by rw[K]at N;cases N;exact z _ e.symm rfl);refine Ui ?_;refine m5 (j+1,d2.set k (d2[m]+1),now2++[(k:Int)],v') TJ ⟨h1,c,I.1,by rw[I.2];exact hm3,hd5,ho5,?_,hE5⟩ (by simp only;omega);intro b hb';obtain h|h:=hnb5 b hb'
     .exact z b h
     .have:=(ho4.lt _ K).2.1;omega
    .have h2:¬d2[k]<0:=by simpa using h2
     have eS:qM m (d2,now2) (k:Int)=(d2,now2):=by unfold qM;simp only[Oy,tx Y,tx X];rw[Tm h2]
     rw[eS]at I c;refine US ?_;exact m5 (j+1,d2,now2,nv3) TJ ⟨h1,c,I.1,hm3,o,l,z,E⟩ (by simp only;omega)
   .simp at h1;have:j=row.length:=by omega
    subst this;rw[Q0]at D;have hI4:FInv g to d2 now2 none:=FInv.over (by rw[V];exact L);refine Un ?_;refine m5 (d2,now2,nv3) TJ ⟨hI4,λf hf=>?_,by simp only;omega,o,l,z,E⟩ (by simp only[PY];omega);have:=G (f+1) (by simp only[PY];dsimp only at hf;omega);have e:qE (Lh g) (f+1) d ((m:Int)::r)=qE (Lh g) f d2 now2:=by rw[qE,Oy,V,<-D]
    rw[e]at this;exact this
  .have hn0:now=[]:=by simpa using h0
   subst hn0;have hfin:d=qH g to:=by have:=G (Cf d) TO;rw[<-this];cases Cf d<;>rfl
   subst hfin;refine UF ?_;exact be ⟨A.low U.size,U.trans hE⟩
structure Chg(S:Nat->Prop)(w w':World):Prop where
 os:w'.os=w.os
 tape:w'.tape=w.tape
 output:w'.output=w.output
 size:w.heap.size<=w'.heap.size
 block:∀k,k<w.heap.size->¬S k->w'.heap[k]?=w.heap[k]?
def Chg.refl(S:Nat->Prop)(w:World):Chg S w w:=⟨rfl,rfl,rfl,Rq _,λ_ _ _=>rfl⟩
def VM:=@Chg.refl
def Chg.grown{S:Nat->Prop}{w' w'':World}{row:Option Nat}(h:Chg S w w')(a:w'.grownBy w'' row)(d:∀g,row=some g->S g):Chg S w w'':=
 ⟨a.os.trans h.os,a.tape.trans h.tape,a.output.trans h.output,Rr h.size a.size,λk c b=>(a.block k (Rv c h.size) (λe=>b (d k e.symm))).trans (h.block k c b)⟩
def Chg.ext{S:Nat->Prop}{a w':World}(c:Ext a w)(h:Chg S w w')(hS:∀b,S b->a.heap.size<=b):Ext a w':=
 ⟨h.os.trans c.os,h.tape.trans c.tape,h.output.trans c.output,Rr c.size h.size,λk d=>(h.block k (Rv d c.size) (λe=>by have:=hS k e;omega)).trans (c.block k d)⟩
def V3:=@Chg.ext
def Own.chg[Rep α]{S:Nat->Prop}{w':World}{e:TypeId}{xs:List α}(h:Own w B e dh v xs)(c:Chg S w w')(hn:∀b,v.ownBlock=some b->¬S b):Own w' B e dh v xs:=
 h.keep (λg a=>c.block g (h.lt g a).2.1 (hn g a)) λ_ h=>h.elim
def Rch.trans{g:bV}{b c:Nat}(h1:Rch g [(a:Int)] b)(h2:Rch g [(b:Int)] c):Rch g [(a:Int)] c:=by
 induction h2 with
 |@base x d=>
  have:x=(b:Int):=by simpa using d
  subst this;simpa using h1
 |step _ d e=>exact .step e d
def Rch.self{g:bV}(a:Nat):Rch g [(a:Int)] a:=by have:=Rch.base (g:=g) (from':=[(a:Int)]) (x:=(a:Int)) TO;simpa using this
def V5:=@Rch.self
def Rch.edge{g:bV}{b:Nat}(h:(b:Int)∈g.getD a []):Rch g [(a:Int)] b:=by have:=Rch.step (V5 (g:=g) a) h;simpa using this
structure Tf where
 v:Nat
 i:Nat
 seg:List Nat
structure Ts where
 num:List Int
 low:List Int
 part:List Int
 count:Int
 got:Int
def Ts.nm(s:Ts)(n:Nat):Int:=s.num.getD n 0
def Ts.lw(s:Ts)(n:Nat):Int:=s.low.getD n 0
def Ts.pt(s:Ts)(n:Nat):Int:=s.part.getD n (-1)
def stk:List Tf->List Nat
 |[]=>[]
 |f::r=>stk r++f.v::f.seg
def G7(g:bV)(n:Nat):List Int:=g.getD n []
def seen(g:bV)(f:Tf)(u:Nat)(w:Int):Prop:=(u=f.v/\w∈(G7 g u).take f.i)\/(u∈f.seg/\w∈G7 g u)
structure FrOK(g:bV)(s:Ts)(S:List Nat)(f:Tf):Prop where
 i:f.i<=(G7 g f.v).length
 vis:∀u w,seen g f u w->0<s.nm w.toNat
 out:∀u∈f.seg,Rch g [(f.v:Int)] u
 back:∀u∈f.seg,Rch g [(u:Int)] f.v
 le:s.lw f.v<=s.nm f.v
 wit:∃x∈S,s.nm x=s.lw f.v/\Rch g [(f.v:Int)] x
 all:∀u w,seen g f u w->w.toNat∈S->s.lw f.v<=s.nm w.toNat
def ka(g:bV):List Tf->Prop
 |[]=>True
 |[_]=>True
 |f::h::r=>Rch g [(h.v:Int)] f.v/\ka g (h::r)
structure TInv(g:bV)(s:Ts)(fs:List Tf):Prop where
 ln:s.num.length=g.length
 ll:s.low.length=g.length
 lp:s.part.length=g.length
 inG:∀n∈stk fs,n<g.length
 vis:∀n,n<g.length->(0<s.nm n↔n∈stk fs\/0<=s.pt n)
 non:∀n,n<g.length->0<=s.nm n
 off:∀n∈stk fs,s.pt n<0
 asc:(stk fs).Pairwise λa b=>s.nm a<s.nm b
 top:∀n,n<g.length->s.nm n<=s.count
 c0:0<=s.count
 frs:∀f∈fs,FrOK g s (stk fs) f
 chn:ka g fs
 clo:∀n,n<g.length->0<=s.pt n->∀w∈G7 g n,0<=s.pt w.toNat
 ptl:∀n,n<g.length->s.pt n<s.got
 g0:0<=s.got
 cn:s.count+(s.num.countP λx=>decide (x=0):Nat)=g.length
 gn:s.got+(Cf s.part:Nat)<=g.length
 scc:∀a b,a<g.length->b<g.length->0<=s.pt a->0<=s.pt b->(s.pt a=s.pt b↔Rch g [(a:Int)] b/\Rch g [(b:Int)] a)
def tD{l:List Int}{n k:Nat}{d:Int}(h:n<l.length):(l.set n x).getD k d=if n=k then x else l.getD k d:=by
 rw[Pl,Pl,Py];split
 .rename_i e;simp[h]
 .rfl
def Kb(n:Nat)(s:Ts):Ts:={s with num:=s.num.set n (s.count+1),low:=s.low.set n (s.count+1),count:=s.count+1}
def Ke(n:Nat)(x:Int)(s:Ts):Ts:={s with low:=s.low.set n x}
def Iv(p:List Int)(D:List Nat)(x:Int):List Int:=D.foldr (λn p=>p.set n x) p
def Kc(D:List Nat)(s:Ts):Ts:={s with part:=Iv s.part D s.got,got:=s.got+1}
def Ix(p:List Int)(x:Int):∀D,(Iv p D x).length=p.length
 |[]=>rfl
 |n::D=>by simp only[Iv,Pi,P_];exact Ix p x D
def Iw{p:List Int}{x:Int}:∀{D:List Nat},(∀n∈D,n<p.length)->∀k,(Iv p D x).getD k (-1)=if k∈D then x else p.getD k (-1)
 |[],_,k=>by simp[Iv]
 |n::D,h,k=>by
  have hn:=h n TO;have a:=Iw (x:=x) (D:=D) (λm b=>h m (by simp[b])) k;simp only[Iv,Pi]at a⊢;rw[tD (by have:=Ix p x D;simp only[Iv]at this;rw[this];exact hn),a];by_cases e:n=k
  .simp[e]
  .rw[Tm e];simp only[Qo,RW e,false_or]
section
variable {g:bV}{s:Ts}{fs:List Tf}{f h:Tf}{r:List Tf}
theorem BV{n:Nat}:n∈stk (f::r)↔n∈stk r\/n=f.v\/n∈f.seg:=by simp[stk]
theorem sw:∀{fs:List Tf} {f:Tf},f∈fs->f.v∈stk fs
 |x::r,f,hf=>by
  rw[BV];obtain rfl|hf:=Qo.1 hf
  .exact .inr (.inl rfl)
  .exact .inl (sw hf)
theorem TInv.nodup(h:TInv g s fs):(stk fs).Nodup:=h.asc.imp λa e=>by rw[e]at a;exact absurd a (Oo _)
theorem TInv.below(h:TInv g s (f::r)):∀x∈stk r,s.nm x<s.nm f.v:=by intro x a;have:=h.asc;simp only[stk]at this;rw[QJ]at this;exact this.2.2 x a f.v TO
theorem TInv.above(h:TInv g s (f::r)):∀x,x=f.v\/x∈f.seg->s.nm f.v<=s.nm x:=by
 intro x a;have:=h.asc;simp only[stk]at this;rw[QJ,QK]at this;obtain rfl|a:=a
 .exact On _
 .exact Int.le_of_lt (this.2.1.1 x a)
theorem TInv.vne(h:TInv g s (f::r)){k:Tf}(a:k∈r):k.v≠f.v:=λe=>by have:=h.below k.v (sw a);rw[e]at this;exact absurd this (Oo _)
theorem TInv.fin(h:TInv g s (f::r)):f.v<g.length:=h.inG f.v (sw TO)
theorem ke(h:ka g (f::r)):ka g r:=by
 cases r with
 |nil=>trivial
 |cons k r=>exact h.2
theorem L_:∀{r:List Tf} {f:Tf},(∀k∈f::r,∀u∈k.seg,Rch g [(u:Int)] k.v)->ka g (f::r)->∀x∈stk (f::r),Rch g [(x:Int)] f.v:=by
 intro r;induction r with
 |nil=>
  intro f b c x a;rw[BV]at a;obtain a|rfl|a:=a
  .simp[stk]at a
  .exact V5 _
  .exact b f TO x a
 |cons k r d=>
  intro f b c x a;rw[BV]at a;obtain a|rfl|a:=a
  .have h1:=d (f:=k) (λf hf=>b f (Qp _ hf)) c.2 x a;exact h1.trans c.1
  .exact V5 _
  .exact b f TO x a
end
def countP_set{p:Int->Bool}{d:List Int}{k:Nat}{v:Int}(b:k<d.length)(h:p d[k]=true)(a:p v=false):(d.set k v).countP p+1=d.countP p:=by
 have e:d=d.take k++d[k]::d.drop (k+1):=by simp
 have c:d.set k v=d.take k++v::d.drop (k+1):=by rw[QU,Tn b]
 rw[c]
 conv=>rhs;rw[e]
 simp only[ON,OO,h,a,To];simp;omega
def Iy{p:List Int}{x:Int}(d:0<=x):∀{D:List Nat},D.Nodup->(∀n∈D,n<p.length)->(∀n∈D,p.getD n (-1)<0)->Cf (Iv p D x)+D.length=Cf p
 |[],_,_,_=>rfl
 |n::D,hd,c,hn=>by
  rw[QG]at hd;have i:=Iy d (D:=D) hd.2 (λm b=>c m (by simp[b])) (λm b=>hn m (by simp[b]));have a:n<(Iv p D x).length:=by rw[Ix];exact c n TO
  have e:=Iw (x:=x) (D:=D) (λm b=>c m (by simp[b])) n;rw[Tm hd.1,tx a]at e;have:=Cg a (v:=x) (by rw[e];exact hn n TO) d;show Cf ((Iv p D x).set n x)+(D.length+1)=_;omega
section
variable {g:bV}{s:Ts}{fs:List Tf}{f h:Tf}{r:List Tf}
theorem Cz{n k:Nat}(hn:n<s.num.length):(Kb n s).nm k=if n=k then s.count+1 else s.nm k:=tD hn
theorem Bl{n k:Nat}(hn:n<s.low.length):(Kb n s).lw k=if n=k then s.count+1 else s.lw k:=tD hn
theorem Bm{n k:Nat}{x:Int}(hn:n<s.low.length):(Ke n x s).lw k=if n=k then x else s.lw k:=tD hn
theorem TInv.unvis(h:TInv g s fs){n:Nat}(hn:n<g.length)(b:s.nm n=0):n∉stk fs/\s.pt n<0:=by
 have:=h.vis n hn;refine⟨λa=>?_,?_⟩
 .have:=this.2 (.inl a);omega
 .apply Ot.1;intro a;have:=this.2 (.inr a);omega
theorem TInv.begin(h:TInv g s fs)(F:okG g){n:Nat}(hn:n<g.length)(E:s.nm n=0){gs:List Tf}(y:stk gs=stk fs)(B:∀k∈gs,FrOK g (Kb n s) (stk fs++[n]) k)(C:ka g (⟨n,0,[]⟩::gs)):
  TInv g (Kb n s) (⟨n,0,[]⟩::gs):=by
 obtain⟨q,o⟩:=h.unvis hn E;have c:n<s.num.length:=by rw[h.ln];exact hn
 have j:n<s.low.length:=by rw[h.ll];exact hn
 have hS:stk (⟨n,0,[]⟩::gs)=stk fs++[n]:=by simp[stk,y]
 have G:=h.c0;have i:∀x∈stk fs,n≠x:=λx d e=>q (e▸d);refine⟨by simp[Kb,h.ln],by simp[Kb,h.ll],h.lp,?_,?_,?_,?_,?_,?_,by simp only[Kb];omega,?_,C,h.clo,h.ptl,h.g0,?_,h.gn,h.scc⟩
 .intro x d;rw[hS,Ql,QC]at d;obtain d|rfl:=d
  .exact h.inG x d
  .exact hn
 .intro x d;rw[hS,Cz c,Ql,QC];by_cases e:n=x
  .subst e;rw[Tn rfl];exact⟨λ_=>.inl (.inr rfl),λ_=>by omega⟩
  .rw[Tm e,h.vis x d];constructor
   .rintro(h1|h1)
    .exact .inl (.inl h1)
    .exact .inr h1
   .rintro((h1|h1)|h1)
    .exact .inl h1
    .exact absurd h1.symm e
    .exact .inr h1
 .intro x d;rw[Cz c];split
  .omega
  .exact h.non x d
 .intro x d;rw[hS,Ql,QC]at d;obtain d|rfl:=d
  .exact h.off x d
  .exact o
 .rw[hS,QJ];refine⟨?_,by simp,?_⟩
  .refine h.asc.imp_of_mem λ {a b} m l D=>?_;rw[Cz c,Cz c,Tm (i a m),Tm (i b l)];exact D
  .intro a m b l;rw[QC]at l;subst l;rw[Cz c,Cz c,Tm (i a m),Tn rfl];have:=h.top a (h.inG a m);omega
 .intro x d;rw[Cz c];show _<=s.count+1;split
  .omega
  .have:=h.top x d;omega
 .intro k A;rw[hS];obtain rfl|A:=Qo.1 A
  .refine⟨by simp,λu w z=>?_,λu t=>absurd t TO,λu t=>absurd t TO,?_,⟨n,by simp,?_,V5 _⟩,λu w z=>?_⟩
   .obtain⟨_,h1⟩|⟨h1,_⟩:=z
    .simp at h1
    .simp at h1
   .dsimp only;rw[Cz c,Bl j,Tn rfl,Tn rfl];omega
   .dsimp only;rw[Cz c,Bl j,Tn rfl,Tn rfl]
   .obtain⟨_,h1⟩|⟨h1,_⟩:=z
    .simp at h1
    .simp at h1
  .exact B k A
 .have h1:=countP_set (p:=λx=>decide (x=0)) c (v:=s.count+1) (by have:s.num[n]=s.nm n:=(tx c).symm;rw[this];simp[E]) TR;have h2:=h.cn;simp only[Kb];omega
theorem FrOK.begin(h:TInv g s fs){k:Tf}(o:k∈fs){n:Nat}(hn:n<g.length)(q:s.nm n=0):FrOK g (Kb n s) (stk fs++[n]) k:=by
 obtain⟨j,p⟩:=h.unvis hn q;have a:n<s.num.length:=by rw[h.ln];exact hn
 have d:n<s.low.length:=by rw[h.ll];exact hn
 have t:=h.c0;have hF:=h.frs k o;have b:n≠k.v:=λe=>j (e▸sw o);have l:∀u w,seen g k u w->w.toNat≠n:=λu w c e=>by have:=hF.vis u w c;rw[e]at this;omega
 refine⟨hF.i,λu w c=>?_,hF.out,hF.back,?_,?_,λu w c i=>?_⟩
 .rw[Cz a,Tm (RW (l u w c))];exact hF.vis u w c
 .rw[Cz a,Bl d,Tm b,Tm b];exact hF.le
 .obtain⟨x,h1,h2,h3⟩:=hF.wit;refine⟨x,Qm _ h1,?_,h3⟩;have m:n≠x:=λe=>j (e▸h1);rw[Cz a,Bl d,Tm m,Tm b];exact h2
 .rw[Ql,QC]at i;obtain i|i:=i
  .rw[Cz a,Bl d,Tm b,Tm (RW (l u w c))];exact hF.all u w c i
  .exact absurd i (l u w c)
theorem TInv.root(h:TInv g s [])(b:okG g){n:Nat}(hn:n<g.length)(c:s.nm n=0):TInv g (Kb n s) [⟨n,0,[]⟩]:=
 h.begin b hn c (gs:=[]) rfl (λk a=>absurd a TO) trivial
theorem FrOK.more(hF:FrOK g s (stk fs) f)(hi:f.i<(G7 g f.v).length){w:Nat}(d:(G7 g f.v)[f.i]=(w:Int))(e:0<s.nm w)(i:w∈stk fs->s.lw f.v<=s.nm w):FrOK g s (stk fs) ⟨f.v,f.i+1,f.seg⟩:=by
 have c:∀u x,seen g ⟨f.v,f.i+1,f.seg⟩ u x->seen g f u x\/x=(w:Int):=by
  rintro u x (⟨h1,h2⟩|h1)
  .dsimp only at h1 h2;subst h1;rw[Q4 hi,Ql,QC,d]at h2;obtain h2|h2:=h2
   .exact .inl (.inl ⟨rfl,h2⟩)
   .exact .inr h2
  .exact .inl (.inr h1)
 refine⟨hi,λu x b=>?_,hF.out,hF.back,hF.le,hF.wit,λu x b a=>?_⟩
 .obtain h1|rfl:=c u x b
  .exact hF.vis u x h1
  .exact e
 .obtain h1|rfl:=c u x b
  .exact hF.all u x h1 a
  .exact i a
theorem TInv.moved(h:TInv g s (f::r))(hF:FrOK g s (stk (f::r)) ⟨f.v,f.i+1,f.seg⟩):TInv g s (⟨f.v,f.i+1,f.seg⟩::r):=by
 have hS:stk (⟨f.v,f.i+1,f.seg⟩::r)=stk (f::r):=rfl;refine⟨h.ln,h.ll,h.lp,h.inG,h.vis,h.non,h.off,h.asc,h.top,h.c0,?_,?_,h.clo,h.ptl,h.g0,h.cn,h.gn,h.scc⟩
 .intro k a;rw[hS];obtain rfl|a:=Qo.1 a
  .exact hF
  .exact h.frs k (by simp[a])
 .have:=h.chn;cases r with
  |nil=>trivial
  |cons k r=>exact this
theorem TInv.shut(h:TInv g s (f::r))(hi:f.i<(G7 g f.v).length){w:Nat}(a:w<g.length)(c:(G7 g f.v)[f.i]=(w:Int))(d:0<=s.pt w):TInv g s (⟨f.v,f.i+1,f.seg⟩::r):=
 h.moved ((h.frs f TO).more hi c ((h.vis w a).2 (.inr d)) (λb=>by have:=h.off w b;omega))
theorem TInv.tree(h:TInv g s (f::r))(p:okG g)(hi:f.i<(G7 g f.v).length){w:Nat}(a:w<g.length)(n:(G7 g f.v)[f.i]=(w:Int))(d:s.nm w=0):TInv g (Kb w s) (⟨w,0,[]⟩::⟨f.v,f.i+1,f.seg⟩::r):=by
 obtain⟨i,o⟩:=h.unvis a d;have c:w<s.num.length:=by rw[h.ln];exact a
 have l:w<s.low.length:=by rw[h.ll];exact a
 have j:w≠f.v:=λe=>i (e▸sw TO);have q:=h.c0;have b:(w:Int)∈g.getD f.v []:=by rw[<-n];exact PL _
 refine h.begin p a d (gs:=⟨f.v,f.i+1,f.seg⟩::r) rfl ?_ ?_
 .intro k m;obtain rfl|m:=Qo.1 m
  .have hF:=FrOK.begin h (k:=f) TO a d;have e:stk (⟨w,0,[]⟩::f::r)=stk (f::r)++[w]:=by simp[stk]
   rw[<-e]at hF⊢;refine hF.more hi n ?_ (λ_=>?_)
   .rw[Cz c,Tn rfl];omega
   .rw[Cz c,Bl l,Tn rfl,Tm j];have h1:=(h.frs f TO).le;have h2:=h.top f.v h.fin;omega
  .exact FrOK.begin h (by simp[m]) a d
 .refine⟨Rch.edge b,?_⟩;have:=h.chn;cases r with
  |nil=>trivial
  |cons k r=>exact this
theorem TInv.lower(h:TInv g s (f::r)){x:Int}(i:x<=s.lw f.v)(j:∃y∈stk (f::r),s.nm y=x/\Rch g [(f.v:Int)] y):TInv g (Ke f.v x s) (f::r):=by
 have e:f.v<s.low.length:=by rw[h.ll];exact h.fin
 refine⟨h.ln,by simp[Ke,h.ll],h.lp,h.inG,h.vis,h.non,h.off,h.asc,h.top,h.c0,?_,h.chn,h.clo,h.ptl,h.g0,h.cn,h.gn,h.scc⟩;intro k c;have hF:=h.frs k c;have a:(Ke f.v x s).lw k.v=if f.v=k.v then x else s.lw k.v:=Bm e;obtain rfl|c:=Qo.1 c
 .rw[Tn rfl]at a;refine⟨hF.i,hF.vis,hF.out,hF.back,?_,?_,λu w d b=>?_⟩
  .rw[a];exact Int.le_trans i hF.le
  .rw[a];exact j
  .rw[a];exact Int.le_trans i (hF.all u w d b)
 .rw[Tm (RW (h.vne c))]at a;refine⟨hF.i,hF.vis,hF.out,hF.back,?_,?_,λu w d b=>?_⟩
  .rw[a];exact hF.le
  .rw[a];exact hF.wit
  .rw[a];exact hF.all u w d b
theorem TInv.back(h:TInv g s (f::r))(hi:f.i<(G7 g f.v).length){w:Nat}(c:w<g.length)(j:(G7 g f.v)[f.i]=(w:Int))(m:s.nm w≠0)(l:s.pt w<0):TInv g (Ke f.v (min (s.lw f.v) (s.nm w)) s) (⟨f.v,f.i+1,f.seg⟩::r):=by
 have a:0<s.nm w:=by have:=h.non w c;omega
 have d:w∈stk (f::r):=by
  rcases(h.vis w c).1 a with h1|h1
  .exact h1
  .omega
 have b:(w:Int)∈g.getD f.v []:=by rw[<-j];exact PL _
 have k:=h.lower (x:=min (s.lw f.v) (s.nm w)) TK (by
  by_cases e:s.lw f.v<=s.nm w
  .rw[show min (s.lw f.v) (s.nm w)=s.lw f.v by omega];exact(h.frs f TO).wit
  .rw[show min (s.lw f.v) (s.nm w)=s.nm w by omega];exact⟨w,d,rfl,Rch.edge b⟩)
 have i:f.v<s.low.length:=by rw[h.ll];exact h.fin
 refine k.moved ((k.frs f TO).more hi j a (λ_=>?_));rw[Bm i,Tn rfl];show _<=s.nm w;omega
end
section
variable {g:bV}{s:Ts}{fs:List Tf}{f h:Tf}{r:List Tf}
theorem J8:stk (⟨h.v,h.i,h.seg++f.v::f.seg⟩::r)=stk (f::h::r):=by simp[stk]
theorem TInv.pass(b:TInv g s (f::h::r)):(Ke h.v (min (s.lw h.v) (s.lw f.v)) s).lw f.v=s.lw f.v:=by
 have a:h.v<s.low.length:=by rw[b.ll];exact b.inG h.v (sw TO)
 rw[Bm a,Tm (b.vne TO)]
theorem TInv.merge(c:TInv g s (f::h::r))(hi:f.i=(G7 g f.v).length)(C:s.lw f.v≠s.nm f.v):TInv g (Ke h.v (min (s.lw h.v) (s.lw f.v)) s) (⟨h.v,h.i,h.seg++f.v::f.seg⟩::r):=by
 have hF:=c.frs f TO;have q:=c.frs h TO;have z:h.v<s.low.length:=by rw[c.ll];exact c.inG h.v (sw TO)
 have hS:=J8 (f:=f) (h:=h) (r:=r);have o:=c.chn;have i:Rch g [(h.v:Int)] f.v:=o.1;have m:Rch g [(f.v:Int)] h.v:=by
  obtain⟨x,h1,h2,h3⟩:=hF.wit;have D:s.nm x<s.nm f.v:=by have:=hF.le;omega
  have y:x∈stk (h::r):=by
   rw[BV]at h1;obtain h1|h1:=h1
   .exact h1
   .have:=c.above x h1;omega
  refine h3.trans (L_ (r:=r) (f:=h) (λk t=>(c.frs k (Qp _ t)).back) o.2 x y)
 have j:∀k,(Ke h.v (min (s.lw h.v) (s.lw f.v)) s).lw k=if h.v=k then min (s.lw h.v) (s.lw f.v)else s.lw k:=λk=>Bm z;have l:∀u w,seen g ⟨h.v,h.i,h.seg++f.v::f.seg⟩ u w->seen g h u w\/seen g f u w:=by
  rintro u w (h1|⟨h1,h2⟩)
  .exact .inl (.inl h1)
  .dsimp only at h1;rw[Ql,Qo]at h1;obtain h1|rfl|h1:=h1
   .exact .inl (.inr ⟨h1,h2⟩)
   .exact .inr (.inl ⟨rfl,by rw[hi,Q0];exact h2⟩)
   .exact .inr (.inr ⟨h1,h2⟩)
 refine⟨c.ln,by simp[Ke,c.ll],c.lp,by rw[hS];exact c.inG,by rw[hS];exact c.vis,c.non,by rw[hS];exact c.off,by rw[hS];exact c.asc,c.top,c.c0,?_,?_,c.clo,c.ptl,c.g0,c.cn,c.gn,c.scc⟩
 .intro k t;rw[hS];obtain rfl|t:=Qo.1 t
  .refine⟨q.i,λu w v=>?_,λu d=>?_,λu d=>?_,?_,?_,λu w v n=>?_⟩
   .obtain h1|h1:=l u w v
    .exact q.vis u w h1
    .exact hF.vis u w h1
   .dsimp only at d⊢;rw[Ql,Qo]at d;obtain d|rfl|d:=d
    .exact q.out u d
    .exact i
    .exact i.trans (hF.out u d)
   .dsimp only at d⊢;rw[Ql,Qo]at d;obtain d|rfl|d:=d
    .exact q.back u d
    .exact m
    .exact(hF.back u d).trans m
   .dsimp only;rw[j,Tn rfl];have:=q.le;show _<=s.nm h.v;omega
   .dsimp only;rw[j,Tn rfl];by_cases e:s.lw h.v<=s.lw f.v
    .rw[show min (s.lw h.v) (s.lw f.v)=s.lw h.v by omega];exact q.wit
    .rw[show min (s.lw h.v) (s.lw f.v)=s.lw f.v by omega];obtain⟨x,h1,h2,h3⟩:=hF.wit;exact⟨x,h1,h2,i.trans h3⟩
   .dsimp only;rw[j,Tn rfl];show _<=s.nm w.toNat;obtain h1|h1:=l u w v
    .have:=q.all u w h1 n;omega
    .have:=hF.all u w h1 n;omega
  .have p:=c.frs k (by simp[t]);have B:h.v≠k.v:=λe=>by
    have h1:=c.asc;have h2:(stk (h::r)).Pairwise λa b=>s.nm a<s.nm b:=by simp only[stk]at h1⊢;exact(QJ.1 h1).1
    simp only[stk]at h2;have h3:=(QJ.1 h2).2.2 k.v (sw t) h.v TO;rw[e]at h3;exact absurd h3 (Oo _)
   have A:(Ke h.v (min (s.lw h.v) (s.lw f.v)) s).lw k.v=s.lw k.v:=by rw[j,Tm B]
   refine⟨p.i,p.vis,p.out,p.back,?_,?_,λu w v n=>?_⟩
   .rw[A];exact p.le
   .rw[A];exact p.wit
   .rw[A];exact p.all u w v n
 .have:=o.2;cases r with
  |nil=>trivial
  |cons k r=>exact this
theorem TInv.closed(n:TInv g s fs)(k:okG g){a b:Nat}(l:a<g.length)(j:0<=s.pt a)(i:Rch g [(a:Int)] b):b<g.length/\0<=s.pt b:=by
 induction i with
 |@base x c=>
  have:x=(a:Int):=by simpa using c
  subst this;simpa using⟨l,j⟩
 |@step m x _ c d=>
  have e:=Dx k m x c;exact⟨by omega,n.clo m d.1 d.2 x c⟩
theorem TInv.close(c:TInv g s (f::r))(G:okG g)(hi:f.i=(G7 g f.v).length)(T:s.lw f.v=s.nm f.v):TInv g (Kc (f.v::f.seg) s) r:=by
 have hF:=c.frs f TO;have z:=c.nodup;have d:stk (f::r)=stk r++f.v::f.seg:=rfl;rw[d]at z;have D:∀x∈stk r,x∉f.v::f.seg:=λx h1 h2=>(QF.1 z).2.2 x h1 x h2 rfl;have E:(f.v::f.seg).Nodup:=(QF.1 z).2.1;have Q:∀x∈f.v::f.seg,x<g.length:=λx l=>c.inG x (by rw[d];exact Qn _ l);have F:∀x∈f.v::f.seg,x<s.part.length:=λx l=>by rw[c.lp];exact Q x l
 have i:∀x∈f.v::f.seg,s.pt x<0:=λx l=>c.off x (by rw[d];exact Qn _ l);have m:∀k,(Kc (f.v::f.seg) s).pt k=if k∈f.v::f.seg then s.got else s.pt k:=λk=>Iw F k;have M:∀k,(Kc (f.v::f.seg) s).nm k=s.nm k:=λ_=>rfl;have A:=c.g0;have B:∀x,x∈f.v::f.seg↔x=f.v\/x∈f.seg:=λx=>Qo;have t:∀x∈f.v::f.seg,Rch g [(f.v:Int)] x:=λx l=>by
  rcases(B x).1 l with rfl|l
  .exact V5 _
  .exact hF.out x l
 have j:∀x∈f.v::f.seg,Rch g [(x:Int)] f.v:=λx l=>by
  rcases(B x).1 l with rfl|l
  .exact V5 _
  .exact hF.back x l
 have C:∀u∈f.v::f.seg,∀w∈G7 g u,w.toNat∈f.v::f.seg\/0<=s.pt w.toNat:=by
  intro u K w y;have o:seen g f u w:=by
   rcases(B u).1 K with rfl|K
   .exact .inl ⟨rfl,by rw[hi,Q0];exact y⟩
   .exact .inr ⟨K,y⟩
  have I:=Dx G u w y;rcases(c.vis w.toNat TK).1 (hF.vis u w o)with h1|h1
  .have h2:=hF.all u w o h1;rw[d,Ql]at h1;obtain h1|h1:=h1
   .have:=c.below _ h1;omega
   .exact .inl h1
  .exact .inr h1
 refine⟨c.ln,c.ll,by simp only[Kc];rw[Ix];exact c.lp,λn hn=>c.inG n (by rw[d];exact Qm _ hn),?_,c.non,?_,?_,c.top,c.c0,?_,ke c.chn,?_,?_,by simp only[Kc];omega,c.cn,?_,?_⟩
 .intro n hn;rw[M,c.vis n hn,m,d,Ql];by_cases e:n∈f.v::f.seg
  .rw[Tn e];exact⟨λ_=>.inr A,λ_=>.inl (.inr e)⟩
  .rw[Tm e];constructor
   .rintro((h1|h1)|h1)
    .exact .inl h1
    .exact absurd h1 e
    .exact .inr h1
   .rintro(h1|h1)
    .exact .inl (.inl h1)
    .exact .inr h1
 .intro n hn;rw[m,Tm (D n hn)];exact c.off n (by rw[d];exact Qm _ hn)
 .have:=c.asc;rw[d]at this;exact(QJ.1 this).1
 .intro k R;have v:=c.frs k (by simp[R]);refine⟨v.i,v.vis,v.out,v.back,v.le,?_,λu w S H=>v.all u w S (by rw[d];exact Qm _ H)⟩;obtain⟨x,h1,h2,h3⟩:=v.wit;refine⟨x,?_,h2,h3⟩;rw[BV]at h1;obtain h1|h1:=h1
  .exact h1
  .have a1:=c.above x h1;have a2:=c.below k.v (sw R);have a3:=v.le;omega
 .intro n hn L w y;have I:=Dx G n w y;rw[m]at L⊢;split
  .exact A
  .rename_i J;split at L
   .rename_i N;obtain h1|h1:=C n N w y
    .exact absurd h1 J
    .exact h1
   .exact c.clo n hn L w y
 .intro n hn;rw[m];show _<s.got+1;split
  .omega
  .have:=c.ptl n hn;omega
 .have h1:=Iy (p:=s.part) (x:=s.got) A E F i;have h2:=c.gn;simp only[Kc,PY]at h1⊢;omega
 .intro a b P O q hpb;rw[m]at q hpb⊢;rw[m];by_cases ea:a∈f.v::f.seg<;>by_cases eb:b∈f.v::f.seg
  .rw[Tn ea,Tn eb];exact⟨λ_=>⟨(j a ea).trans (t b eb),(j b eb).trans (t a ea)⟩,λ_=>rfl⟩
  .rw[Tn ea,Tm eb];rw[Tm eb]at hpb;have h1:=c.ptl b O;constructor
   .intro e;omega
   .rintro⟨_,h3⟩;have:=c.closed G O hpb h3;have:=i a ea;omega
  .rw[Tm ea,Tn eb];rw[Tm ea]at q;have h1:=c.ptl a P;constructor
   .intro e;omega
   .rintro⟨h3,_⟩;have:=c.closed G P q h3;have:=i b eb;omega
  .rw[Tm ea,Tm eb];rw[Tm ea]at q;rw[Tm eb]at hpb;exact c.scc a b P O q hpb
theorem TInv.alone(a:TInv g s [f]):s.lw f.v=s.nm f.v:=by
 have hF:=a.frs f TO;obtain⟨x,h1,h2,_⟩:=hF.wit;rw[BV]at h1;have h3:=hF.le;obtain h1|h1:=h1
 .simp[stk]at h1
 .have:=a.above x h1;omega
theorem TInv.keepLow(a:TInv g s (f::h::r))(c:s.lw f.v=s.nm f.v):Ke h.v (min (s.lw h.v) (s.lw f.v)) s=s:=by
 have h1:=(a.frs h TO).le;have h2:=a.below h.v (sw TO);have b:h.v<s.low.length:=by rw[a.ll];exact a.inG h.v (sw TO)
 have e:min (s.lw h.v) (s.lw f.v)=s.low[h.v]:=by have:s.lw h.v=s.low[h.v]:=tx b;omega
 unfold Ke;rw[e,QV]
end
instance:IsT Vy 318 (Int×Int):=VL TL underlying318 rfl
instance:IsFd Vy 318 0 0:=qA TL
instance:IsFd Vy 318 1 1:=qA TL
instance:IsZC Vy 318 [Ub 0,Ub 0]:=v2 (z:=.agg #[Ub 0,Ub 0]) TL rfl
instance:IsBd Vy 318 [(0,1),(1,1)]:=VI TL
instance:IsZ Vy 318 ((0,0):Int×Int) 16:=VV (z:=.agg #[Ub 0,Ub 0]) TL (λ_ _=>Gm (Gn _ _ _) (Gn _ _ _))
instance:IsS Vy 319 318:=⟨underlying319⟩
instance iTar10:Flat (Int×Int):=⟨λh=>h⟩
section
variable {P:Program}{Q:Exit->Act->World->Prop}{n:Nat}{σ:Sg}{w wc:World}{L rest:List Oper}{S:World->Prop}{ord:List (Nat×Bool)}{i d:Nat}{op:Op}{ty:TypeId}{pos:String}{af:Array Edge}{g:Option (Nat×Bool)}{t e:TypeId}{x y:Operand}{b o:Nat}{cells:List Value}
theorem fM{a c:Int}{f:Array TypeId}(m:gd L σ ⟨some d,.call ⟨.builtin .min,#[x,y],f⟩,ty,pos,af,g⟩=some true)(hd:ble (d+1) n=true)(l:ev σ x=some (Ub a))(k:ev σ y=some (Ub c))
  (h:WL P L Q rest n ((d,Ub (min a c))::σ) w):WL P L Q (⟨some d,.call ⟨.builtin .min,#[x,y],f⟩,ty,pos,af,g⟩::rest) n σ w:=by
 refine VG m hd (λu j=>?_) h;have e:(if c<a then c else a)=min a c:=by omega
 simp[execOp,resolve,invoke,builtin,j.ev l,j.ev k,run_min_int2,e]
end
structure TM(w:World)(B b:Nat)(gV nV lV pV sV:Value)(nb lb pb:Nat)(s:Ts)(st:List Int):Prop where
 blk:Blk w b 279 [gV,nV,lV,pV,sV,.int .i64 s.count,.int .i64 s.got]
 num:Own w B 3 dh nV s.num
 low:Own w B 3 dh lV s.low
 part:Own w B 3 dh pV s.part
 stk:Own w B 3 dh sV st
 ge:B<=b
 hnb:nV.ownBlock=some nb
 hlb:lV.ownBlock=some lb
 hpb:pV.ownBlock=some pb
 ne:nb≠lb/\nb≠pb/\lb≠pb/\nb≠b/\lb≠b/\pb≠b
 sne:∀k,sV.ownBlock=some k->k≠nb/\k≠lb/\k≠pb/\k≠b
def tS(b a lb pb:Nat)(sV:Value):Nat->Prop:=λk=>k=b\/k=a\/k=lb\/k=pb\/sV.ownBlock=some k
def TM.lts{b:Nat}{lV pV sV:Value}{lb:Nat}{s:Ts}{st:List Int}(h:TM w B b v A lV pV sV a lb K s st):b<w.heap.size/\a<w.heap.size/\lb<w.heap.size/\K<w.heap.size/\(∀k,sV.ownBlock=some k->k<w.heap.size)/\B<=a/\B<=lb/\B<=K/\(∀k,sV.ownBlock=some k->B<=k):=
 ⟨h.blk.lt,(h.num.lt _ h.hnb).2.1,(h.low.lt _ h.hlb).2.1,(h.part.lt _ h.hpb).2.1,λk c=>(h.stk.lt k c).2.1,(h.num.lt _ h.hnb).1,(h.low.lt _ h.hlb).1,(h.part.lt _ h.hpb).1,λk c=>(h.stk.lt k c).1⟩
def TM.ext{w':World}{b:Nat}{lV pV sV:Value}{lb:Nat}{s:Ts}{st:List Int}(h:TM w B b v A lV pV sV a lb K s st)(c:Ext w w'):TM w' B b v A lV pV sV a lb K s st:=
 ⟨h.blk.ext c,h.num.extN c,h.low.extN c,h.part.extN c,h.stk.extN c,h.ge,h.hnb,h.hlb,h.hpb,h.ne,h.sne⟩
def TM.off{w':World}{row:Option Nat}{b:Nat}{lV pV sV:Value}{lb:Nat}{s:Ts}{st:List Int}(h:TM w B b v A lV pV sV a lb K s st)(f:w.grownBy w' row)(hn:∀k,row=some k->¬tS b a lb K sV k):TM w' B b v A lV pV sV a lb K s st:=
 ⟨h.blk.kept f (λe=>hn b e.symm (.inl rfl)),h.num.keptN f (λk c e=>hn k e.symm (.inr (.inl (by rw[h.hnb]at c;cases c;rfl)))),h.low.keptN f (λk c e=>hn k e.symm (.inr (.inr (.inl (by rw[h.hlb]at c;cases c;rfl))))),h.part.keptN f (λk c e=>hn k e.symm (.inr (.inr (.inr (.inl (by rw[h.hpb]at c;cases c;rfl)))))),h.stk.keptN f (λk c e=>hn k e.symm (.inr (.inr (.inr (.inr c))))),h.ge,h.hnb,h.hlb,h.hpb,h.ne,h.sne⟩
def i4(w:World){b:Nat}{lV pV sV:Value}{lb:Nat}{s:Ts}{st:List Int}(h:TM w B b v A lV pV sV a lb K s st){k:Nat}(hB:B<=w.heap.size)(hk:k<s.num.length)(hk2:k<s.low.length)(hc0:0<=s.count)(hc:s.count<4611686018427387904)(hst:st.length<=1099511627776):
  Rt Vy 260 [Uc b,Ub k].toArray w λ_ w'=>∃sV',TM w' B b v A lV pV sV' a lb K (Kb k s) (st++[(k:Int)])/\Chg (tS b a lb K sV) w w'/\(∀j,sV'.ownBlock=some j->sV.ownBlock=some j\/w.heap.size<=j):=by
 obtain⟨hn1,hn2,hn3,I,Y,hn6⟩:=h.ne;refine dS func260 ntmps260 rfl rfl ?_;have hb:=h.blk;refine UN ?_;refine f7 hb (λW hb1 V=>?_);have hC1:Chg (tS b a lb K sV) w W:=(VM _ _).grown V (λg e=>by cases e;exact .inl rfl);have H:=h.num.keptN V (λg c e=>by rw[h.hnb]at c;cases c;cases e;exact I rfl);have O:=h.low.keptN V (λg c e=>by rw[h.hlb]at c;cases c;cases e;exact Y rfl);have l:=h.part.keptN V (λg c e=>by rw[h.hpb]at c;cases c;cases e;exact hn6 rfl);have z:=h.stk.keptN V (λg c e=>by cases e;exact(h.sne _ c).2.2.2 rfl);apply p0;apply bA;apply Wa;have hd:=hb1.ext (mm W);have hSK:∀w2,(λx:World=>x.heap[b]?=(drew W).heap[b]?) w2->w2.heap[b]?=(drew W).heap[b]?:=λ_ h=>h;refine aG (λx:World=>x.heap[b]?=(drew W).heap[b]?) [Wr 0,Wr 1,Wr 2,Wr 3,Wr 4,Wr 5,Wr 6,Wr 7,Wr 8,Wr 9,Wr 10,Wr 11,Wr 12,Wr 13,Wr 14,Wr 15,Wr 16,Wr 17,Wr 18,Ws 19,Wr 20,Ws 21] mixed TL rfl (Vq ?_);have D:=H.extN (mm W);have J:=O.extN (mm W);refine cB (u:=Ub (s.count+1)) (yv:=s.count+1) rfl rfl rfl rfl rfl rfl D hk TV TV T7 (λw' c=>c.block b hd.lt (λe=>I (by rw[h.hnb]at e;exact(R4 e).symm))) (λw2 q G m=>?_);have N:=J.keptN m (λg c e=>by rw[h.hlb]at c;rw[h.hnb]at e;cases c;cases e;exact hn1 rfl);have hb2:=hd.kept m (λe=>by rw[h.hnb]at e;cases e;exact I rfl);refine cB (u:=Ub (s.count+1)) (yv:=s.count+1) rfl rfl rfl rfl rfl rfl N hk2 TV TV T7 (λw' c=>(c.block b hb2.lt (λe=>Y (by rw[h.hlb]at e;exact(R4 e).symm))).trans (m.block b hd.lt (λe=>I (by rw[h.hnb]at e;exact(R4 e).symm)))) (λw3 q3 M U=>?_);have E:=G.keptN U (λg c e=>by rw[h.hnb]at c;rw[h.hlb]at e;cases c;cases e;exact hn1 rfl);have hb3:=hb2.kept U (λe=>by rw[h.hlb]at e;cases e;exact Y rfl);have f:=((l.extN (mm W)).keptN m (λg c e=>by rw[h.hpb]at c;rw[h.hnb]at e;cases c;cases e;exact hn2 rfl)).keptN U (λg c e=>by rw[h.hpb]at c;rw[h.hlb]at e;cases c;cases e;exact hn3 rfl);have hstk3:=((z.extN (mm W)).keptN m (λg c e=>by rw[h.hnb]at e;cases e;exact(h.sne _ c).1 rfl)).keptN U (λg c e=>by rw[h.hlb]at e;cases e;exact(h.sne _ c).2.1 rfl);have hC3:Chg (tS b a lb K sV) w w3:=((hC1.grown (w'':=drew W) (row:=none) ⟨rfl,rfl,rfl,Rq _,λ_ _ _=>rfl⟩ (λg e=>by cases e)).grown m (λg e=>by rw[h.hnb]at e;cases e;exact .inr (.inl rfl))).grown U (λg e=>by rw[h.hlb]at e;cases e;exact .inr (.inr (.inl rfl)));clear hb hb1 hb2 hd H G D O N J l z hSK hC1;refine Vr ?_;apply bA;apply Wh;refine Vh ?_;have hBw:B<=w3.heap.size:=Rr hB hC3.size;refine eF (F:=dh) (yv:=(k:Int)) rfl rfl TV rfl rfl TV hstk3 T7 hBw TY TN TQ TK (λsV' w4 p r T Z=>?_);have hnum4:=E.keptN T (λg c e=>by rw[h.hnb]at c;cases c;exact(h.sne _ e.symm).1 rfl);have hlow4:=M.keptN T (λg c e=>by rw[h.hlb]at c;cases c;exact(h.sne _ e.symm).2.1 rfl);have X:=f.keptN T (λg c e=>by rw[h.hpb]at c;cases c;exact(h.sne _ e.symm).2.2.1 rfl);have hb4:=hb3.kept T (λe=>(h.sne _ e.symm).2.2.2 rfl);have hC4:Chg (tS b a lb K sV) w w4:=hC3.grown T (λg e=>.inr (.inr (.inr (.inr e))));have hl1:=E.lt _ h.hnb;have hl2:=M.lt _ h.hlb;have hl3:=f.lt _ h.hpb;have hl4:=hb3.lt;have C:∀j,sV'.ownBlock=some j->j≠a/\j≠lb/\j≠K/\j≠b:=by
  intro j hj;obtain h1|h1:=Z j hj
  .exact h.sne j h1
  .refine⟨?_,?_,?_,?_⟩<;>(intro e;omega)
 refine Vg ?_;obtain⟨so,sc,rfl⟩:=r.val;refine f7 hb4 (λw5 hb5 R=>?_);refine UG ?_;refine aW rfl ⟨_,⟨hb5,?_,?_,?_,?_,h.ge,h.hnb,h.hlb,h.hpb,h.ne,C⟩,hC4.grown R (λg e=>by cases e;exact .inl rfl),λj hj=>(Z j hj).imp id (λh1=>Rr hC3.size h1)⟩
 .exact hnum4.keptN R (λg c e=>by rw[h.hnb]at c;cases c;cases e;exact I rfl)
 .exact hlow4.keptN R (λg c e=>by rw[h.hlb]at c;cases c;cases e;exact Y rfl)
 .exact X.keptN R (λg c e=>by rw[h.hpb]at c;cases c;cases e;exact hn6 rfl)
 .exact r.keptN R (λg c e=>by cases e;exact(C _ c).2.2.2 rfl)
def zf(l:List Nat):List Int:=l.map λn:Nat=>(n:Int)
def zg(a b:List Nat):zf (a++b)=zf a++zf b:=Qe
def lJ(w:World){b:Nat}{nV lV pV sV:Value}{lb:Nat}{s:Ts}{base T:List Nat}{k:Nat}(h:TM w B b A nV lV pV sV a lb K s (zf (base++k::T)))(hnd:(k::T).Nodup)(hT:∀x∈k::T,x<s.part.length)(hg0:0<=s.got)(hg1:s.got<4611686018427387904):
  Rt Vy 261 [Uc b,Ub k].toArray w λ_ w'=>∃sV',TM w' B b A nV lV pV sV' a lb K (Kc (k::T) s) (zf base)/\Chg (tS b a lb K sV) w w'/\sV'.ownBlock=sV.ownBlock:=by
 obtain⟨hn1,hn2,hn3,hn4,hn5,Y⟩:=h.ne;refine dS func261 ntmps261 rfl rfl (UC ?_);refine p8 (S:=List Nat×List Nat×Value) (λ_=>[(0,Uc b),(1,Ub k)])
  (λx w'=>k::T=x.1++x.2.1/\0<x.1.length/\TM w' B b A nV lV pV x.2.2 a lb K {s with part:=Iv s.part x.2.1 s.got} (zf (base++x.1))/\Chg (tS b a lb K sV) w w'/\x.2.2.ownBlock=sV.ownBlock) (λx=>x.1.length) (k::T,[],sV) TJ ⟨(OH _).symm,Nat.succ_pos _,h,VM _ _,rfl⟩ ?_
 rintro⟨rem,D,v⟩ w1 ⟨f,Z,hM,hC,hv⟩;dsimp only at f Z hM hv;obtain⟨rem',m,rfl⟩:∃rem' m,rem=rem'++[m]:=⟨rem.dropLast,rem.getLast (QD Z),(List.dropLast_concat_getLast _).symm⟩;have hmT:m∈k::T:=by rw[f];simp
 have hml:=hT m hmT;have est:zf (base++(rem'++[m]))=zf (base++rem')++[(m:Int)]:=by rw[<-OG,zg];rfl
 rw[est]at hM;generalize hX:zf (base++rem')=X at*;have hb:=hM.blk;obtain⟨so,sc,hsv,hsl⟩:=hM.stk.oldN.sl;have hlen:(X++[(m:Int)]).length=X.length+1:=by simp
 have hel:∀(h:(((X++[(m:Int)]).length:Int) -1).toNat<(X++[(m:Int)]).length),(X++[(m:Int)])[(((X++[(m:Int)]).length:Int) -1).toNat]=m:=by
  intro h;have:(((X++[(m:Int)]).length:Int) -1).toNat=X.length:=by rw[hlen];omega
  simp[this]
 have hmx:=hsl.len63;subst hsv;refine U8 ?_;refine dx rfl rfl rfl rfl rfl T0 hsl TK TK TV (λu q hu=>?_);obtain rfl:=hu.int;simp only[hel];refine U_ ?_;refine VD (λw2 H=>?_);have hM2:=hM.ext H;have hC2:Chg (tS b a lb K sV) w w2:=⟨H.os.trans hC.os,H.tape.trans hC.tape,H.output.trans hC.output,Rr hC.size H.size,λk hk hn=>(H.block k (Rv hk hC.size)).trans (hC.block k hk hn)⟩;apply bA;apply Wa;have G:=hM2.ext (mm w2);have hbd:=G.blk;have hSK:∀E,(λx:World=>x.heap[b]?=(drew w2).heap[b]?) E->E.heap[b]?=(drew w2).heap[b]?:=λ_ h=>h;refine aF (λx:World=>x.heap[b]?=(drew w2).heap[b]?) [Wr 0,Wr 1,Wr 2,Wr 3,Wr 4,Wr 5,Wr 6,Wr 7,Wr 8,Wr 9,Wr 10,Wr 11,Ws 12,Wr 13] 14 mixed TL rfl (Vp ?_);refine ca (α:=Int) X.length (by rw[hlen];omega) rfl rfl rfl rfl rfl (by have:=hsl.le;omega) (cy rfl (fQ rfl rfl rfl (p0 (a8 rfl (Vs ?_)))));refine bu rfl (f7 hbd (λE hb3 V=>p0 (bx ?_)));have l:=(G.stk.take rfl (k:=X.length) TK).keptN V (λg c e=>by cases e;exact(hM.sne _ (show Value.ownBlock (.slice so (X++[(m:Int)]).length sc)=some b by cases so<;>exact c)).2.2.2 rfl);rw[show(X++[(m:Int)]).take X.length=X by simp]at l;have M:=G.num.keptN V (λg c e=>by rw[h.hnb]at c;cases c;cases e;exact hn4 rfl);have O:=G.low.keptN V (λg c e=>by rw[h.hlb]at c;cases c;cases e;exact hn5 rfl);have C:=G.part.keptN V (λg c e=>by rw[h.hpb]at c;cases c;cases e;exact Y rfl);have hC3:Chg (tS b a lb K sV) w E:=(hC2.grown (w'':=drew w2) (row:=none) ⟨rfl,rfl,rfl,Rq _,λ_ _ _=>rfl⟩ (λg e=>by cases e)).grown V (λg e=>by cases e;exact .inl rfl);apply bA;apply Wa;have hb4:=hb3.ext (mm E);have hSK:∀w4,(λx:World=>x.heap[b]?=(drew E).heap[b]?) w4->w4.heap[b]?=(drew E).heap[b]?:=λ_ h=>h;refine aG (λx:World=>x.heap[b]?=(drew E).heap[b]?) [Wr 0,Wr 1,Wr 2,Wr 3,Wr 4,Wr 5,Wr 6,Wr 7,Wr 8,Wr 9,Ws 10] mixed TL rfl (Vq ?_);refine cB (u:=Ub s.got) (yv:=s.got) rfl rfl rfl rfl rfl rfl (C.extN (mm E)) (by dsimp only;rw[Ix];exact hml) TV TV T7 (λw' c=>c.block b hb4.lt (λe=>by rw[h.hpb]at e;cases e;exact Y rfl)) (λw5 q z U=>?_);have J:=(M.extN (mm E)).keptN U (λg c e=>by rw[h.hnb]at c;rw[h.hpb]at e;cases c;cases e;exact hn2 rfl);have N:=(O.extN (mm E)).keptN U (λg c e=>by rw[h.hlb]at c;rw[h.hpb]at e;cases c;cases e;exact hn3 rfl);have W:Value.ownBlock (.slice so X.length sc)=sV.ownBlock:=by rw[<-hv];cases so<;>rfl
 have I:=(l.extN (mm E)).keptN U (λg c e=>by rw[h.hpb]at e;cases e;exact(h.sne _ (W▸c)).2.2.1 rfl);have hb5:=hb4.kept U (λe=>by rw[h.hpb]at e;cases e;exact Y rfl);have hC5:Chg (tS b a lb K sV) w w5:=(hC3.grown (w'':=drew E) (row:=none) ⟨rfl,rfl,rfl,Rq _,λ_ _ _=>rfl⟩ (λg e=>by cases e)).grown U (λg e=>by rw[h.hpb]at e;cases e;exact .inr (.inr (.inr (.inl rfl))));have p:∀j,Value.ownBlock (.slice so X.length sc)=some j->j≠a/\j≠lb/\j≠K/\j≠b:=λj hj=>h.sne j (W▸hj);have r:TM w5 B b A nV lV pV (.slice so X.length sc) a lb K {s with part:=Iv s.part (m::D) s.got} (zf (base++rem')):=⟨hb5,J,N,z,by rw[hX];exact I,h.ge,h.hnb,h.hlb,h.hpb,h.ne,p⟩;clear hM hM2 G hb hbd hb3 hb4 l M O C J N z I hC3 hC2 hC hSK;refine Vr ?_;apply bA;refine UR ?_;apply ld rfl<;>intro F
 .have F:m=k:=by
   have:(m:Int)=(k:Int):=by simpa using F
   omega
  subst F;have hr:rem'=[]:=by
   cases rem' with
   |nil=>rfl
   |cons y ys=>
    exfalso;rw[OK,OK]at f;obtain⟨rfl,h2⟩:=OI f;rw[QG]at hnd;exact hnd.1 (by rw[h2];simp)
  subst hr;have hD:D=T:=by simpa using f.symm
  subst hD;rw[OH]at r;have hb6:=r.blk;dsimp only at hb6;refine UL ?_;refine f7 hb6 (λw6 hb7 R=>?_);refine UG ?_;refine aW rfl ⟨_,⟨hb7,?_,?_,?_,?_,h.ge,h.hnb,h.hlb,h.hpb,h.ne,p⟩,hC5.grown R (λg e=>by cases e;exact .inl rfl),W⟩
  .exact r.num.keptN R (λg c e=>by rw[h.hnb]at c;cases c;cases e;exact hn4 rfl)
  .exact r.low.keptN R (λg c e=>by rw[h.hlb]at c;cases c;cases e;exact hn5 rfl)
  .exact r.part.keptN R (λg c e=>by rw[h.hpb]at c;cases c;cases e;exact Y rfl)
  .exact r.stk.keptN R (λg c e=>by cases e;exact(p _ c).2.2.2 rfl)
 .have F:¬m=k:=by
   have:¬(m:Int)=(k:Int):=by simpa using F
   omega
  have hr:0<rem'.length:=by
   cases rem' with
   |nil=>exact absurd (OI f).1.symm F
   |cons y ys=>simp
  refine Uq ?_;exact m5 (rem',m::D,_) TJ ⟨by rw[f];simp,hr,r,hC5,W⟩ TO
def Own.top{e:TypeId}{xs:List (Int×Int)}{a c:Int}(h:Own w B e dh v (xs++[(a,c)])):
  ∃b off cap,v=.slice (some ⟨b,off,none⟩) (xs.length+1) cap/\B<=b/\b<w.heap.size/\v.ownBlock=some b/\Cells w b (off+xs.length*2) [Ub a]/\Cells w b (off+xs.length*2+1) [Ub c]/\
   ∃cur,w.heap[b]?=some (.cells cur e (0,0))/\off+xs.length*2+2<=cur.size:=by
 obtain⟨_,h⟩|⟨b,off,cap,cur,rfl,i⟩:=h
 .simp at h
 .have r:(xs++[(a,c)]).length=xs.length+1:=by simp
  have q:=i.el.2 xs.length TO;have s:(xs++[(a,c)])[xs.length]'TO=(a,c):=by simp
  rw[s]at q;obtain⟨c1,c2,m,h1,h2⟩:=Gr q;have h1:=Gl h1;have h2:=Gl h2;rw[h1,h2]at m;have k:=i.le;have l:=i.fit;have p:sz (Int×Int)=2:=rfl;rw[p]at l m;rw[r]at k m;have z:(xs.length+1)*2<=cap*2:=RD _ k;have f:∀j u,([Ub a,Ub c]:List Value)[j]?=some u->w.cell? ⟨b,off+xs.length*2+j,none⟩=some u:=by
   intro j u d;have o:(((cur.toList.drop off).take ((xs.length+1)*2)).drop (xs.length*2)).take 2=[Ub a,Ub c]:=m;rw[<-o,Pz]at d;split at d
   .rw[Pp]at d;rw[S8 w b _ cur e (0,0) i.blk];have:=mI d;rw[<-this];congr 1;omega
   .cases d
  refine⟨b,off,cap,by rw[r],i.ge,(NB.1 i.blk).1,rfl,?_,?_,cur,i.blk,by omega⟩
  .intro j u d;cases j with
   |zero=>exact f 0 u (by simpa using d)
   |succ j=>simp at d
  .intro j u d;cases j with
   |zero=>exact f 1 u (by simpa using d)
   |succ j=>simp at d
section
variable {P:Program}{Q:Exit->Act->World->Prop}{n:Nat}{σ:Sg}{w:World}{L rest:List Oper}{ty:TypeId}{pos:String}{af:Array Edge}{g:Option (Nat×Bool)}{t e:TypeId}{x y:Operand}
theorem f_{B b off cap:Nat}{xs:List (Int×Int)}{a c c':Int}[U:IsT P e (Int×Int)][T:IsC P t 1 false](O:gd L σ ⟨none,.store t x y,ty,pos,af,g⟩=some true)(M:ev σ x=some (.pointer (some ⟨b,off+xs.length*2+1,none⟩)))(K:ev σ y=some (Ub c'))
  (j:Own w B e dh (.slice (some ⟨b,off,none⟩) (xs.length+1) cap) (xs++[(a,c)]))
  (h:∀w',Own w' B e dh (.slice (some ⟨b,off,none⟩) (xs.length+1) cap) (xs++[(a,c')])->w.grownBy w' (some b)->WL P L Q rest n σ w'):WL P L Q (⟨none,.store t x y,ty,pos,af,g⟩::rest) n σ w:=by
 have N:(xs++[(a,c)]).length=xs.length+1:=by simp
 obtain⟨W,off',cap',R,_,_,_,H,S,_⟩:=j.top;obtain⟨z,_,rfl⟩:=SV R;simp only[R5,Nu]at z;obtain⟨rfl,rfl,_⟩:=z;obtain⟨I,_⟩|⟨b2,off2,cap2,cur,I,j⟩:=j
 .cases I
 .obtain⟨h1,_,rfl⟩:=SV I;simp only[R5,Nu]at h1;obtain⟨rfl,rfl,_⟩:=h1;obtain⟨w',D,l,G⟩:=HM (P:=P) (v:=undef) (i:=xs.length) (y:=(a,c')) j TO (VZ (Gn w dh a) (Gn w dh c'));have u:=j.fit;have s:=j.le;have m:sz (Int×Int)=2:=rfl;rw[m]at u D;rw[N]at s l;have V:(xs.length+1)*2<=cap*2:=RD _ s;have o:(xs++[(a,c)]).set xs.length (a,c')=xs++[(a,c')]:=by simp
  rw[o]at l;refine fV O (λq hq=>?_) (h w' l G);have k:=Tz P b (off+xs.length*2) e [Ub a,Ub c'] 0 cur w j.blk TR (by simp[Value.oneCell']);have f:=Tz P b (off+xs.length*2+1) e [Ub c'] 0 cur w j.blk TR (by simp[Value.oneCell']);simp only[Re]at f k;have p:(cur.toList.take (off+xs.length*2+1)++[Ub c']++cur.toList.drop (off+xs.length*2+1+1))=(cur.toList.take (off+xs.length*2)++[Ub a,Ub c']++cur.toList.drop (off+xs.length*2+2)):=by
   have J:=H 0 _ rfl;rw[Re,S8 w b _ cur e (0,0) j.blk]at J;have r:off+xs.length*2<cur.toList.length:=by simp;omega
   rw[Q4 r];have:cur.toList[off+xs.length*2]=Ub a:=by
    have h2:cur.toList[off+xs.length*2]?=some (Ub a):=by simpa using J
    rw[Pq r]at h2;exact R4 h2
   rw[this];simp
  have A:w'=w.setRow b (cur.toList.take (off+xs.length*2)++[Ub a,Ub c']++cur.toList.drop (off+xs.length*2+2)).toArray:=by
   have:(storeVar e ⟨b,off+xs.length*2,none⟩ (.agg ([Ub a]++[Ub c']).toArray)).run P w=.ok () (w.setRow b (cur.toList.take (off+xs.length*2)++[Ub a,Ub c']++cur.toList.drop (off+xs.length*2+2)).toArray):=by have C:(Value.agg ([Ub a]++[Ub c']).toArray).cells=[Ub a,Ub c'].toArray:=rfl;unfold storeVar;rw[Sb,HS (α:=Int×Int)];simp only[Sa,C];rw[Tm (by simp[m])];exact k
   rw[this]at D;cases D;rfl
  obtain⟨i,d,F,E,_,_⟩:=T.ok;simp only[execOp,hq.ev M,hq.ev K,Instr.storeAt,Sb,Instr.sureAddr,Sc,Sa,storeVar,sizeOf,typeInfo,Ty,F,E,Value.cells];rw[A,<-p];simp;simp at f;rw[f];rfl
end
def im{s:Ts}{M:Int}:∀(l:List Nat) (c:Int),c<=M->l.Pairwise (λa b=>s.nm a<s.nm b)->(∀x∈l,c<s.nm x/\s.nm x<=M)->(l.length:Int)<=M -c
 |[],c,h,_,_=>by simp;omega
 |a::l,c,h,d,i=>by rw[QK]at d;have j:=i a TO;have:=im l (s.nm a) j.2 d.2 (λx f=>⟨d.1 x f,(i x (by simp[f])).2⟩);simp only[PY];omega
def TInv.count_le{g:bV}{s:Ts}{fs:List Tf}(h:TInv g s fs):s.count<=g.length:=by have:=h.cn;omega
def TInv.stk_len{g:bV}{s:Ts}{fs:List Tf}(h:TInv g s fs):(stk fs).length<=g.length:=by have:=im (s:=s) (M:=s.count) (stk fs) 0 h.c0 h.asc (λx a=>⟨(h.vis x (h.inG x a)).2 (.inl a),h.top x (h.inG x a)⟩);have:=h.count_le;omega
def su:∀fs:List Tf,fs.length<=(stk fs).length
 |[]=>by simp
 |f::r=>by have:=su r;simp only[stk,PX,PY];omega
def FF:List Tf->List (Int×Int)
 |[]=>[]
 |f::r=>FF r++[((f.v:Int),(f.i:Int))]
def FG:∀fs:List Tf,(FF fs).length=fs.length
 |[]=>rfl
 |f::r=>by simp[FF,FG r]
def Nq(g:bV):List Tf->Nat
 |[]=>0
 |f::r=>((G7 g f.v).length -f.i+1)+Nq g r
def Mh(s:Ts):List Bool:=s.num.map λx=>decide (x≠0)
def K3(g:bV)(s:Ts)(fs:List Tf):Nat:=E7 g (Mh s)+Nq g fs
def E8{g:bV}{s:Ts}{fs:List Tf}(h:TInv g s fs){n:Nat}(hn:n<g.length)(b:s.nm n=0):E7 g (Mh (Kb n s))+(G7 g n).length+1=E7 g (Mh s):=by
 have a:n<s.num.length:=by rw[h.ln];exact hn
 have e:Mh (Kb n s)=(Mh s).set n true:=by unfold Mh Kb;simp only;rw[List.map_set];congr 1;have:=h.c0;simp;omega
 have h1:=E9 g (Mh s) n hn (by simp[Mh,h.ln]) (by have:s.num[n]=s.nm n:=(tx a).symm;unfold Mh;rw[Pl,Pu,Pq a];simp[this,b]);rw[e];exact h1
def Mj(s:Ts)(n:Nat)(x:Int):Mh (Ke n x s)=Mh s:=rfl
def Mi(s:Ts)(D:List Nat):Mh (Kc D s)=Mh s:=rfl
def uy{g:bV}{s:Ts}{fs:List Tf}(h:TInv g s fs){n k:Nat}(hn:n<g.length)(a:0<s.nm k):0<(Kb n s).nm k:=by rw[Cz (by rw[h.ln];exact hn)];have:=h.c0;split<;>omega
def aj(B b a lb pb:Nat)(pV sV:Value):Prop:=∀k,pV.ownBlock=some k->¬tS b a lb pb sV k
def Bd(r:List Tf)(f:Tf)(s:Ts):Ts:=match r with
 |[]=>s
 |h::_=>Ke h.v (min (s.lw h.v) (s.lw f.v)) s
def Mk(w0 w:World){b:Nat}{pV sV:Value}{lb:Nat}{s:Ts}{g:bV}{ao:Option Addr}{cap:Nat}{n:Nat}(hE:Ext w0 w)(M:Sl w0 F ao cap g)(hF:∀b,F b->b<w0.heap.size)(hG:okG g)(hgl:g.length<=1099511627776)
  (hM:TM w w0.heap.size b (.slice ao g.length cap) v A pV sV B lb a s (zf [])) (l:TInv g s []) (hn:n<g.length) (h0:s.nm n=0):
  Rt Vy 201 [Uc b,Ub n].toArray w λ_ w'=>∃sV' s',TM w' w0.heap.size b (.slice ao g.length cap) v A pV sV' B lb a s' (zf [])/\TInv g s' []/\Ext w0 w'/\(∀k,0<s.nm k->0<s'.nm k)/\0<s'.nm n:=by
 obtain⟨hn1,hn2,hn3,hn4,hn5,hn6⟩:=hM.ne;have hc:=l.count_le;have hI1:=l.root hG hn h0;have hnl:n<s.num.length:=by rw[l.ln];exact hn
 have hnl2:n<s.low.length:=by rw[l.ll];exact hn
 refine dS func201 ntmps201 rfl rfl (U4 ?_);refine r4 rfl rfl rfl rfl (VN (α:=Int×Int) (F:=dh) (ys:=[((n:Int),(0:Int))]) rfl rfl rfl rfl rfl (.cons (VZ (Gn _ _ _) (Gn _ _ _)) .nil) (by show 1*2<=16777216;decide) TY (λw1 hp1 hg1=>?_));have hE01:Ext w w1:=(p7 w).grown hg1 T8 T2;have hM1:=hM.ext hE01;have hE1:=hE.trans hE01;refine UR ?_;refine eK (i4 w1 hM1 (Ro (Ru hM1.ge hM1.lts.1)) hnl hnl2 l.c0 TK (by simp[zf])) ?_;rintro _ w2 ⟨sV2,hM2,hC2,hnb2⟩;obtain⟨l1,l2,l3,l4,l5,l6,l7,l8,l9⟩:=hM.lts;have hpb:∀k,Value.ownBlock (.slice (some ⟨w.heap.size,0,none⟩) 1 1)=some k->¬tS b B lb a sV k:=by
  intro k j;have j:w.heap.size=k:=R4 j;rintro(h1|h1|h1|h1|h1)
  .omega
  .omega
  .omega
  .omega
  .have:=l5 _ h1;omega
 have hS2:∀k,tS b B lb a sV k->w0.heap.size<=k:=by
  rintro k (rfl|rfl|rfl|rfl|h1)
  .exact hM.ge
  .exact l6
  .exact l7
  .exact l8
  .exact l9 _ h1
 have hE2:Ext w0 w2:=V3 hE1 hC2 hS2;have hp2:=hp1.chg hC2 hpb;have hap2:aj w0.heap.size b B lb a (.slice (some ⟨w.heap.size,0,none⟩) 1 1) sV2:=by
  intro k j;rintro(h1|h1|h1|h1|h1)
  .exact hpb k j (.inl h1)
  .exact hpb k j (.inr (.inl h1))
  .exact hpb k j (.inr (.inr (.inl h1)))
  .exact hpb k j (.inr (.inr (.inr (.inl h1))))
  .obtain h2|h2:=hnb2 k h1
   .exact hpb k j (.inr (.inr (.inr (.inr h2))))
   .have j:w.heap.size=k:=R4 j;have:w.heap.size<w1.heap.size:=(hp1.lt _ rfl).2.1;omega
 refine Uz ?_;refine p8 (S:=Ts×List Tf×Value×Value) (λx=>[(0,Uc b),(4,x.2.2.1)])
  (λx w'=>TInv g x.1 x.2.1/\TM w' w0.heap.size b (.slice ao g.length cap) v A pV x.2.2.2 B lb a x.1 (zf (stk x.2.1))/\Own w' w0.heap.size 318 dh x.2.2.1 (FF x.2.1)/\aj w0.heap.size b B lb a x.2.2.1 x.2.2.2/\Ext w0 w'/\(∀k,0<s.nm k->0<x.1.nm k)/\0<x.1.nm n)
  (λx=>K3 g x.1 x.2.1) (Kb n s,[⟨n,0,[]⟩],_,sV2) TJ ⟨hI1,by simpa[zf,stk]using hM2,by simpa[FF]using hp2.low hE.size,hap2,hE2,λk j=>uy l hn j,?_⟩ ?_
 .rw[Cz hnl,Tn rfl];have:=l.c0;omega
 clear hp2 hp1 hM2 hM1 hC2 hnb2 hE2 hE1 hE01 hI1 hap2 hpb hS2;rintro⟨c,fs,wV,tV⟩ w3 ⟨l,hM,hP,D,hE3,hmo,hvn⟩;dsimp only at l hM hP D hmo hvn;refine U5 ?_;apply ld rfl<;>intro hc0
 .obtain⟨f,r,rfl⟩:∃f r,fs=f::r:=by
   cases fs with
   |nil=>simp[FF]at hc0
   |cons f r=>exact⟨f,r,rfl⟩
  clear hc0;have hstl:=l.stk_len;have hfl:=su (f::r);have hplen:=FG r;have hfv:=l.fin;have hFr:=l.frs f TO;have hfi:=hFr.i;have hcle:=l.count_le;have hgot:=l.gn;have hg0:=l.g0;have hcc0:=l.c0;have hg3:Sl w3 F ao cap g:=M.mono (λb hb=>hE3.block b (hF b hb)) λ_ h=>h;have hF3:∀b,F b->b<w3.heap.size:=λb hb=>Rv (hF b hb) hE3.size;have U:G7 g f.v=g[f.v]:=by unfold G7;rw[Pl,Pq hfv];rfl
  have hP0:Own w3 w0.heap.size 318 dh wV (FF r++[((f.v:Int),(f.i:Int))]):=hP;obtain⟨pk,off,pc,rfl,hpge,O,hpob,hca,hcb,cur,hcur,hcurs⟩:=hP0.top;have hb:=hM.blk;have hpl1:(FF r++[((f.v:Int),(f.i:Int))]).length=(FF r).length+1:=by simp
  simp only[PY]at hfl;refine U5 ?_;refine fk (α:=Int×Int) rfl rfl rfl rfl TK TK ?_;have eoff:(((((FF r).length+1:Nat):Int)) -1).toNat*sz (Int×Int)=(FF r).length*2:=by
   have:(((((FF r).length+1:Nat):Int)) -1).toNat=(FF r).length:=by omega
   rw[this];rfl
  rw[eoff];refine U6 ?_;refine V2 (α:=Int) (F:=dh) rfl rfl rfl O TY hcb (Gn _ _ _) (Vi ?_);refine V2 (α:=Int) (F:=dh) rfl rfl rfl O TY hca (Gn _ _ _) (dz rfl rfl rfl rfl rfl hF3 hg3 hfv TV (λu q hu=>?_));obtain⟨ro,rc,rfl,hrow⟩:=hu.sl;have hrl:=hrow.len63;refine Vd ?_;refine VD (λw4 N=>UQ ?_);apply ld rfl<;>intro hlt
  .have hi:f.i<(G7 g f.v).length:=by rw[U];simpa[Me]using hlt
   have hil:f.i<g[f.v].length:=by rw[<-U];exact hi
   have hwr:=hG _ (PL hfv) _ (PL hil);obtain⟨to,eto⟩:=Om hwr.1;have T:to<g.length:=by omega
   have erow:(G7 g f.v)[f.i]=(to:Int):=by simp only[U];exact eto
   have i:=hM.ext N;have hP4:=hP0.extN N;have hb4:=i.blk;have Y:Cells w4 pk (off+(FF r).length*2) [Ub (f.v:Int)]:=hca.mono (N.block pk O);have hcb4:Cells w4 pk (off+(FF r).length*2+1) [Ub (f.i:Int)]:=hcb.mono (N.block pk O);have G:pk<w4.heap.size:=Rv O N.size;have C:=hE3.trans N;have hg4:Sl w4 F ao cap g:=M.mono (λb hb=>C.block b (hF b hb)) λ_ h=>h;have hF4:∀b,F b->b<w4.heap.size:=λb hb=>Rv (hF b hb) C.size;clear hM hP hP0 hb hca hcb hg3 hF3 hE3 hrow;refine U7 ?_;refine V2 (α:=Int) (F:=dh) rfl rfl rfl G TY Y (Gn _ _ _) (dz rfl rfl rfl rfl rfl hF4 hg4 hfv TV (λu q hu=>?_));obtain⟨ro2,rc2,rfl,hrow4⟩:=hu.sl;refine Vi ?_;refine V2 (α:=Int) (F:=dh) rfl rfl rfl G TY hcb4 (Gn _ _ _) (dy rfl rfl rfl rfl rfl hF4 hrow4 hil eto TV (λq=>U_ ?_));refine VD (λw5 hE5=>?_);have hM5:=i.ext hE5;have hP5:=hP4.extN hE5;have hb5:=hM5.blk;have hca5:Cells w5 pk (off+(FF r).length*2) [Ub (f.v:Int)]:=Y.mono (hE5.block pk G);have hcb5:Cells w5 pk (off+(FF r).length*2+1) [Ub (f.i:Int)]:=hcb4.mono (hE5.block pk G);have hE05:=C.trans hE5;have hplt5:pk<w5.heap.size:=Rv G hE5.size;have hmaxr:f.i+1<9223372036854775808:=by omega
   clear i hP4 hb4 Y hcb4 hg4 hF4 C hrow4;refine UN ?_;refine VQ (α:=Int) (F:=dh) rfl rfl rfl hcb5 (Gn _ _ _) (Vg ?_);refine f_ (xs:=FF r) (c':=((f.i+1:Nat):Int)) rfl rfl rfl hP5 (λw6 hP6 hg6=>?_);have hapk:=D pk hpob;have d:=hM5.off hg6 (λk j=>by cases j;exact hapk);have hb6:=d.blk;have hE06:Ext w0 w6:=hE05.grown hg6 hE05.size (λk j=>by cases j;exact hpge);have hpge6:pk<w6.heap.size:=Rv hplt5 hg6.size;have E:to<c.num.length:=by rw[l.ln];exact T
   have hlowto:to<c.low.length:=by rw[l.ll];exact T
   have W:to<c.part.length:=by rw[l.lp];exact T
   have enum:c.num[to]=c.nm to:=(tx E).symm;have epart:c.part[to]=c.pt to:=(tx W).symm;have hP6':Own w6 w0.heap.size 318 dh (.slice (some ⟨pk,off,none⟩) ((FF r).length+1) pc) (FF (⟨f.v,f.i+1,f.seg⟩::r)):=by simpa[FF]using hP6
   clear hM5 hP5 hb5 hca5 hcb5 hE05;refine UM ?_;refine fh rfl rfl rfl rfl rfl d.num E TV (λu q hu=>?_);obtain rfl:=hu.int;rw[enum];refine Ug ?_;apply ld rfl<;>intro hz
   .have hz:c.nm to=0:=by simpa using hz
    refine U4 ?_;refine eK (i4 w6 d hE06.size E hlowto hcc0 TK (by simp only[zf,P4];omega)) ?_;rintro _ w7 ⟨tV7,K,hC7,hnb7⟩;have hS7:∀k,tS b B lb a tV k->w0.heap.size<=k:=by
     obtain⟨l1,l2,l3,l4,l5,l6,l7,l8,l9⟩:=d.lts;rintro k (rfl|rfl|rfl|rfl|h1)
     .exact d.ge
     .exact l6
     .exact l7
     .exact l8
     .exact l9 _ h1
    have z:Ext w0 w7:=V3 hE06 hC7 hS7;have Z:=hP6'.chg hC7 D;have hap7:aj w0.heap.size b B lb a (.slice (some ⟨pk,off,none⟩) ((FF r).length+1) pc) tV7:=by
     intro k j;rintro(h1|h1|h1|h1|h1)
     .exact D k j (.inl h1)
     .exact D k j (.inr (.inl h1))
     .exact D k j (.inr (.inr (.inl h1)))
     .exact D k j (.inr (.inr (.inr (.inl h1))))
     .obtain h2|h2:=hnb7 k h1
      .exact D k j (.inr (.inr (.inr (.inr h2))))
      .have:=(hP6'.lt k j).2.1;omega
    refine UR ?_;refine r4 rfl rfl rfl rfl (eF (α:=Int×Int) (F:=dh) (yv:=((to:Int),(0:Int))) rfl rfl TV rfl rfl TV Z (VZ (Gn _ _ _) (Gn _ _ _)) z.size TY TN (by simp only[FF,PX,Qa];unfold maxLen;omega) (by simp only[FF,PX,Qa];omega) (λpV8 w8 p hP8 hg8 hnb8=>?_));have hM8:=K.off hg8 (λk j=>hap7 k j);have hE08:Ext w0 w8:=z.grown hg8 z.size (λk j=>(Z.lt k j).1);have hap8:aj w0.heap.size b B lb a pV8 tV7:=by
     intro k j;obtain h1|h1:=hnb8 k j
     .exact hap7 k h1
     .obtain⟨l1,l2,l3,l4,l5,l6,l7,l8,l9⟩:=K.lts;rintro(h2|h2|h2|h2|h2)
      .omega
      .omega
      .omega
      .omega
      .have:=l5 _ h2;omega
    have hpotb:=E8 l T hz;refine Uj ?_;refine m5 (Kb to c,⟨to,0,[]⟩::⟨f.v,f.i+1,f.seg⟩::r,pV8,tV7) TJ ⟨l.tree hG hi T erow hz,?_,by simpa[FF]using hP8,hap8,hE08,λk j=>uy l T (hmo k j),uy l T hvn⟩ ?_
    .have e:zf (stk (⟨to,0,[]⟩::⟨f.v,f.i+1,f.seg⟩::r))=zf (stk (f::r))++[(to:Int)]:=by simp[stk,zf]
     dsimp only;rw[e];exact hM8
    .show K3 g (Kb to c) _<K3 g c _;simp only[K3,Nq];omega
   .have hz:c.nm to≠0:=by simpa using hz
    refine UN ?_;refine fh rfl rfl rfl rfl rfl d.part W TV (λu q hu=>?_);obtain rfl:=hu.int;rw[epart];refine Ug ?_;apply ld rfl<;>intro hp0
    .have hp0:c.pt to<0:=by simpa using hp0
     have J:f.v<c.low.length:=by rw[l.ll];exact hfv
     have elow:c.low[f.v]=c.lw f.v:=(tx J).symm;have m:=d.ext (mm w6);have hbd:=m.blk;have hcad:Cells (drew w6) pk (off+(FF r).length*2) [Ub (f.v:Int)]:=by obtain⟨b',o',c',he,_,_,_,h1,_,_⟩:=(hP6.extN (mm w6)).top;obtain⟨h2,_,_⟩:=SV he;simp only[R5,Nu]at h2;obtain⟨rfl,rfl,_⟩:=h2;exact h1
     have hSE:∀w7,(λx=>x=drew w6) w7->Ext (drew w6) w7:=λ_ h=>h▸p7 _;obtain⟨lO,lC,V,R⟩:=m.low.oldN.sl;obtain⟨nO,nC,hnv,hnsl⟩:=m.num.oldN.sl;have hbd':=hbd;rw[V,hnv]at hbd';refine aF (λx=>x=drew w6) [Wr 0,Wr 1,Wr 2,Wr 3,Wr 4,Wr 5,Wr 6,Wr 7,Wr 8,Wr 9,Wr 10,Wr 11,Wr 12,Wr 13,Wr 14,Wr 15,Wr 16,Wr 17,Wr 18,Wr 19,Wr 20,Wr 21,Wr 22,Wr 23,Wr 24,Ws 25,Wr 26] 27 mixed TL rfl ?_;clear hbd;refine Vq ?_;refine Wj (α:=Int) (F:=dh) hSE rfl rfl rfl rfl hpge6 TY hcad (Gn _ _ _) (Vq ?_);refine Wj (α:=Int) (F:=dh) hSE rfl rfl rfl rfl hpge6 TY hcad (Gn _ _ _) (cd hSE rfl rfl rfl rfl rfl rfl rfl T0 R J TV (λu q hu=>?_));obtain rfl:=hu.int;rw[elow];refine Vq ?_;refine cd hSE rfl rfl rfl rfl rfl rfl rfl T0 hnsl E TV (λu q hu=>?_);obtain rfl:=hu.int;rw[enum];refine cy rfl (fM rfl rfl rfl rfl (p0 (a8 rfl ?_)));have H:=m.low;rw[V]at H;refine cC (u:=Ub (min (c.lw f.v) (c.nm to))) (yv:=min (c.lw f.v) (c.nm to)) rfl rfl rfl rfl rfl rfl H J TV TV T7 (λw7 q I o=>?_);rw[<-V]at I o;have z:Ext w0 w7:=(hE06.trans (mm w6)).grown o (Rr hE06.size T8) (λk j=>(m.low.lt k j).1);have K:TM w7 w0.heap.size b (.slice ao g.length cap) v A pV tV B lb a (Ke f.v (min (c.lw f.v) (c.nm to)) c) (zf (stk (f::r))):=by refine⟨m.blk.kept o (λe=>by rw[d.hlb]at e;cases e;exact hn5 rfl),m.num.keptN o (λg M e=>by rw[d.hnb]at M;rw[d.hlb]at e;cases M;cases e;exact hn1 rfl),I,m.part.keptN o (λg M e=>by rw[d.hpb]at M;rw[d.hlb]at e;cases M;cases e;exact hn3 rfl),m.stk.keptN o (λg M e=>by rw[d.hlb]at e;cases e;exact(d.sne _ M).2.1 rfl),d.ge,d.hnb,d.hlb,d.hpb,d.ne,d.sne⟩
     have Z:=(hP6'.extN (mm w6)).keptN o (λg M e=>by rw[d.hlb]at e;cases e;exact D _ M (.inr (.inr (.inl rfl))));refine UJ ?_;refine m5 (Ke f.v (min (c.lw f.v) (c.nm to)) c,⟨f.v,f.i+1,f.seg⟩::r,_,tV) TJ ⟨l.back hi T erow hz hp0,K,Z,D,z,hmo,hvn⟩ ?_;show K3 g (Ke f.v (min (c.lw f.v) (c.nm to)) c) _<K3 g c _;simp only[K3,Nq,Mj];omega
    .have hp0:0<=c.pt to:=by simpa using hp0
     refine UJ ?_;refine m5 (c,⟨f.v,f.i+1,f.seg⟩::r,_,tV) TJ ⟨l.shut hi T erow hp0,d,hP6',D,hE06,hmo,hvn⟩ ?_;show K3 g c _<K3 g c _;simp only[K3,Nq];omega
  .have hi:f.i=(G7 g f.v).length:=by
    have:¬f.i<g[f.v].length:=by simpa[Me]using hlt
    rw[U]at hfi⊢;omega
   have i:=hM.ext N;have hP4:=hP0.extN N;have Y:Cells w4 pk (off+(FF r).length*2) [Ub (f.v:Int)]:=hca.mono (N.block pk O);have C:=hE3.trans N;clear hM hP hb hca hcb hg3 hF3 hE3 hrow;refine U3 ?_;refine VQ (α:=Int) (F:=dh) rfl rfl rfl Y (Gn _ _ _) (U5 ?_);refine eT (α:=Int×Int) (FF r).length TK rfl rfl rfl rfl hP4 TK (λpV5 hP5 hpb5=>?_);rw[show(FF r++[((f.v:Int),(f.i:Int))]).take (FF r).length=FF r by simp]at hP5;have hap5:aj w0.heap.size b B lb a pV5 tV:=λk j=>D k (by rw[<-hpb5];exact j);have J:f.v<c.low.length:=by rw[l.ll];exact hfv
   have hfvn:f.v<c.num.length:=by rw[l.ln];exact hfv
   have hP4l:(FF r).length<=1099511627776:=by omega
   refine U9 ?_;apply p0;apply bA;refine aC (S:=Unit) (λ_=>[(0,Uc b),(4,pV5),(7,Ub (f.v:Int))])
    (λ_ w'=>TM w' w0.heap.size b (.slice ao g.length cap) v A pV tV B lb a (Bd r f c) (zf (stk (f::r)))/\Own w' w0.heap.size 318 dh pV5 (FF r)/\Ext w0 w') ?_ ?_
   .refine U5 ?_;apply ld rfl<;>intro hr0
    .obtain⟨h,r',rfl⟩:∃h r',r=h::r':=by
      cases r with
      |nil=>simp[FF]at hr0
      |cons h r'=>exact⟨h,r',rfl⟩
     have hhv:h.v<g.length:=l.inG h.v (by rw[BV,BV];exact .inl (.inr (.inl rfl)));have hhvl:h.v<c.low.length:=by rw[l.ll];exact hhv
     have elh:c.low[h.v]=c.lw h.v:=(tx hhvl).symm;have elf:c.low[f.v]=c.lw f.v:=(tx J).symm;have hP5':Own w4 w0.heap.size 318 dh pV5 (FF r'++[((h.v:Int),(h.i:Int))]):=hP5;obtain⟨pk2,off2,pc2,hpv,hpge2,hplt2,hpob2,hcaH,hcbH,_⟩:=hP5'.top;subst hpv;have hplr:(FF r').length+1<=1099511627776:=by simpa[FF]using hP4l
     refine U5 ?_;refine fk (α:=Int×Int) rfl rfl rfl rfl TK TK ?_;have eoff2:(((((FF r').length+1:Nat):Int)) -1).toNat*sz (Int×Int)=(FF r').length*2:=by
      have:(((((FF r').length+1:Nat):Int)) -1).toNat=(FF r').length:=by omega
      rw[this];rfl
     rw[eoff2];refine Va ?_;refine VQ (α:=Int) (F:=dh) rfl rfl rfl hcaH (Gn _ _ _) (Ug ?_);have m:=i.ext (mm w4);have hbd:=m.blk;have hSE:∀w7,(λx=>x=drew w4) w7->Ext (drew w4) w7:=λ_ h=>h▸p7 _;obtain⟨lO,lC,V,R⟩:=m.low.oldN.sl;have hbd':=hbd;rw[V]at hbd';refine aF (λx=>x=drew w4) [Wr 0,Wr 1,Wr 2,Wr 3,Wr 4,Wr 5,Wr 6,Wr 7,Wr 8,Wr 9,Wr 10,Wr 11,Wr 12,Wr 13,Wr 14,Wr 15,Wr 16,Wr 17,Wr 18,Ws 19,Wr 20] 21 mixed TL rfl ?_;clear hbd;refine Vq ?_;refine cd hSE rfl rfl rfl rfl rfl rfl rfl T0 R hhvl TV (λu q hu=>?_);obtain rfl:=hu.int;rw[elh];refine Vq ?_;refine cd hSE rfl rfl rfl rfl rfl rfl rfl T0 R J TV (λu q hu=>?_);obtain rfl:=hu.int;rw[elf];refine cy rfl (fM rfl rfl rfl rfl (p0 (a8 rfl ?_)));have H:=m.low;rw[V]at H;refine cC (u:=Ub (min (c.lw h.v) (c.lw f.v))) (yv:=min (c.lw h.v) (c.lw f.v)) rfl rfl rfl rfl rfl rfl H hhvl TV TV T7 (λw7 q I o=>?_);rw[<-V]at I o;have z:Ext w0 w7:=(C.trans (mm w4)).grown o (Rr C.size T8) (λk j=>(m.low.lt k j).1);have K:TM w7 w0.heap.size b (.slice ao g.length cap) v A pV tV B lb a (Bd (h::r') f c) (zf (stk (f::h::r'))):=by refine⟨m.blk.kept o (λe=>by rw[i.hlb]at e;cases e;exact hn5 rfl),m.num.keptN o (λg M e=>by rw[i.hnb]at M;rw[i.hlb]at e;cases M;cases e;exact hn1 rfl),I,m.part.keptN o (λg M e=>by rw[i.hpb]at M;rw[i.hlb]at e;cases M;cases e;exact hn3 rfl),m.stk.keptN o (λg M e=>by rw[i.hlb]at e;cases e;exact(i.sne _ M).2.1 rfl),i.ge,i.hnb,i.hlb,i.hpb,i.ne,i.sne⟩
     have Z:=(hP5.extN (mm w4)).keptN o (λg M e=>by rw[i.hlb]at e;cases e;exact hap5 _ M (.inr (.inr (.inl rfl))));exact aV () TJ ⟨K,Z,z⟩
    .have hr0:r=[]:=by
      have:(FF r).length=0:=by simp at hr0;simp[hr0]
      rw[FG]at this;exact O2 this
     subst hr0;refine UH ?_;exact aV () TJ ⟨i,hP5,C⟩
   rintro _ w7 ⟨K,Z,z⟩;have elw:(Bd r f c).lw f.v=c.lw f.v:=by
    cases r with
    |nil=>rfl
    |cons h r'=>exact l.pass
   have hlen7:(Bd r f c).low.length=c.low.length:=by cases r<;>simp[Bd,Ke]
   have enm7:(Bd r f c).num=c.num:=by cases r<;>rfl
   have hfv7:f.v<(Bd r f c).low.length:=by rw[hlen7];exact J
   have el7:(Bd r f c).low[f.v]=c.lw f.v:=by rw[<-elw];exact(tx hfv7).symm
   have hfn7:f.v<(Bd r f c).num.length:=by rw[enm7];exact hfvn
   have en7:(Bd r f c).num[f.v]=c.nm f.v:=by
    have:(Bd r f c).nm f.v=c.nm f.v:=by unfold Ts.nm;rw[enm7]
    rw[<-this];exact(tx hfn7).symm
   obtain⟨lO,lC,V,R⟩:=K.low.oldN.sl;obtain⟨nO,nC,hnv,hnsl⟩:=K.num.oldN.sl;have hb7:=K.blk;rw[V,hnv]at hb7;refine U7 ?_;refine dy rfl rfl rfl rfl rfl T0 R hfv7 el7 TV (λq=>Vi ?_);refine dy rfl rfl rfl rfl rfl T0 hnsl hfn7 en7 TV (λq=>U_ ?_);refine VD (λw8 hE8=>?_);have hM8:=K.ext hE8;have hP8:=Z.extN hE8;have hE08:=z.trans hE8;refine UQ ?_;apply ld rfl<;>intro X
   .have X:c.lw f.v=c.nm f.v:=by simpa using X
    have els:Bd r f c=c:=by
     cases r with
     |nil=>rfl
     |cons h r'=>exact l.keepLow X
    rw[els]at hM8;have hT:=l.close hG hi X;have hnd:=l.nodup;rw[show stk (f::r)=stk r++f.v::f.seg from rfl]at hnd hM8;refine U4 ?_;refine eK (lJ w8 hM8 (QF.1 hnd).2.1 (λx hx=>by rw[l.lp];exact l.inG x (by rw[show stk (f::r)=stk r++f.v::f.seg from rfl];exact Qn _ hx)) hg0 TK) ?_;rintro _ w9 ⟨tV9,hM9,hC9,hnb9⟩;have hS9:∀k,tS b B lb a tV k->w0.heap.size<=k:=by
     obtain⟨l1,l2,l3,l4,l5,l6,l7,l8,l9⟩:=hM8.lts;rintro k (rfl|rfl|rfl|rfl|h1)
     .exact hM8.ge
     .exact l6
     .exact l7
     .exact l8
     .exact l9 _ h1
    have hE09:Ext w0 w9:=V3 hE08 hC9 hS9;have hP9:=hP8.chg hC9 hap5;have hap9:aj w0.heap.size b B lb a pV5 tV9:=λk j h1=>hap5 k j (by unfold tS at h1⊢;rw[hnb9]at h1;exact h1);refine Ur ?_;refine m5 (Kc (f.v::f.seg) c,r,pV5,tV9) TJ ⟨hT,hM9,hP9,hap9,hE09,hmo,hvn⟩ ?_;show K3 g (Kc (f.v::f.seg) c) _<K3 g c _;simp only[K3,Nq,Mi];omega
   .have X:c.lw f.v≠c.nm f.v:=by simpa using X
    cases r with
    |nil=>exact absurd l.alone X
    |cons h r'=>
     have hT:=l.merge hi X;refine Uq ?_;refine m5 (Ke h.v (min (c.lw h.v) (c.lw f.v)) c,⟨h.v,h.i,h.seg++f.v::f.seg⟩::r',pV5,tV) TJ ⟨hT,?_,hP8,hap5,hE08,hmo,hvn⟩ ?_
     .dsimp only;rw[J8];exact hM8
     .show K3 g (Ke h.v (min (c.lw h.v) (c.lw f.v)) c) _<K3 g c _;simp only[K3,Nq,Mj];omega
 .have hfs:fs=[]:=by
   have:(FF fs).length=0:=by simp at hc0;simp[hc0]
   rw[FG]at this;exact O2 this
  subst hfs;refine Un ?_;exact aW rfl ⟨tV,c,hM,l,hE3,hmo,hvn⟩
def Db(l:List Int):Int:=l.foldl (λm x=>max m (x+1)) 0
def Dc(l:List Int)(x:Int):Db (l++[x])=max (Db l) (x+1):=by simp[Db]
def aK(p:List Int):Prop:=∀i,i<p.length->(∃j,j<i/\p.getD j 0=p.getD i 0)\/p.getD i 0=Db (p.take i)
structure PartsOK(g:bV)(p:List Int):Prop where
 len:p.length=g.length
 canon:aK p
 same:∀a b,a<g.length->b<g.length->(p.getD a 0=p.getD b 0↔Rch g [(a:Int)] b/\Rch g [(b:Int)] a)
 ge:∀i,i<p.length->0<=p.getD i 0
 lt:∀i,i<p.length->p.getD i 0<g.length
structure CInv(q:List Int)(got:Int)(i:Nat)(name:List Int)(next:Int)(out:List Int):Prop where
 ln:(name.length:Int)=got
 lo:out.length=q.length
 n0:∀k,0<=name.getD k 0/\name.getD k 0<=next
 z:∀j,j<i->0<name.getD (q.getD j 0).toNat 0/\out.getD j 0=name.getD (q.getD j 0).toNat 0 -1
 zz:∀k,0<name.getD k 0->∃j,j<i/\(q.getD j 0).toNat=k
 inj:∀k k',0<name.getD k 0->name.getD k 0=name.getD k' 0->k=k'
 nx:next=Db (out.take i)
 le:next<=i
 canon:∀j,j<i->(∃m,m<j/\out.getD m 0=out.getD j 0)\/out.getD j 0=Db (out.take j)
def CInv.start{q out:List Int}(d:0<=x)(c:out.length=q.length):CInv q x 0 (replicate x.toNat 0) 0 out:=by
 have b:∀k,(replicate x.toNat (0:Int)).getD k 0=0:=by intro k;rw[Pl,Pw];split<;>rfl
 refine⟨by simp;omega,c,λk=>by rw[b];simp,λj hj=>absurd hj TO,λk a=>by rw[b]at a;omega,λk k' a=>by rw[b]at a;omega,rfl,by simp,λj hj=>absurd hj TO⟩
def KA{out:List Int}{i:Nat}(hi:i<out.length):(out.set i x).take (i+1)=out.take i++[x]:=by rw[Q4 (by rw[P_];exact hi)];rw[Q2 T8,PQ]
def CInv.canonStep{q out:List Int}{got next:Int}{i:Nat}{name:List Int}(h:CInv q got i name next out)(hi:i<out.length)(f:(∃m,m<i/\out.getD m 0=x)\/x=Db (out.take i)):
  ∀j,j<i+1->(∃m,m<j/\(out.set i x).getD m 0=(out.set i x).getD j 0)\/(out.set i x).getD j 0=Db ((out.set i x).take j):=by
 intro j hj;have a:∀k,(out.set i x).getD k 0=if i=k then x else out.getD k 0:=λk=>tD hi;have b:∀k,k<=i->(out.set i x).take k=out.take k:=λk g=>Q2 g;by_cases e:j=i
 .subst e;rw[b j T8,a,Tn rfl];obtain⟨m,c,h1⟩|h1:=f
  .exact .inl ⟨m,c,by rw[a,Tm TK];exact h1⟩
  .exact .inr h1
 .have d:j<i:=by omega
  rw[b j TK,a,Tm (RW e)];obtain⟨m,c,h1⟩|h1:=h.canon j d
  .exact .inl ⟨m,c,by rw[a,Tm TK];exact h1⟩
  .exact .inr h1
def CInv.old{q out:List Int}{next:Int}{i:Nat}(h:CInv q x i m next out)(hi:i<q.length)(hn:m.getD (q.getD i 0).toNat 0≠0):CInv q x (i+1) m next (out.set i (m.getD (q.getD i 0).toNat 0 -1)):=by
 have b:i<out.length:=by rw[h.lo];exact hi
 have a:0<m.getD (q.getD i 0).toNat 0:=by have:=(h.n0 (q.getD i 0).toNat).1;omega
 have g:=(h.n0 (q.getD i 0).toNat).2;have c:∀k,(out.set i (m.getD (q.getD i 0).toNat 0 -1)).getD k 0=if i=k then m.getD (q.getD i 0).toNat 0 -1 else out.getD k 0:=λk=>tD b;obtain⟨j,hj,d⟩:=h.zz _ a;refine⟨h.ln,by rw[P_];exact h.lo,h.n0,?_,?_,h.inj,?_,by have:=h.le;omega,?_⟩
 .intro k f;rw[c];by_cases e:i=k
  .subst e;rw[Tn rfl];exact⟨a,rfl⟩
  .rw[Tm e];exact h.z k TK
 .intro k f;obtain⟨j,hj,h1⟩:=h.zz k f;exact⟨j,by omega,h1⟩
 .rw[KA b,Dc,<-h.nx];omega
 .refine h.canonStep b (.inl ⟨j,hj,?_⟩);rw[(h.z j hj).2,d]
def CInv.new{q out:List Int}{next:Int}{i:Nat}(h:CInv q x i m next out)(hi:i<q.length)(n:(q.getD i 0).toNat<m.length)(hn:m.getD (q.getD i 0).toNat 0=0):
  CInv q x (i+1) (m.set (q.getD i 0).toNat (next+1)) (next+1) (out.set i next):=by
 have c:i<out.length:=by rw[h.lo];exact hi
 have d:∀k,(out.set i next).getD k 0=if i=k then next else out.getD k 0:=λk=>tD c
 have a:∀k,(m.set (q.getD i 0).toNat (next+1)).getD k 0=if(q.getD i 0).toNat=k then next+1 else m.getD k 0:=λk=>tD n
 have g:0<=next:=by have:=h.n0 0;omega
 refine⟨by rw[P_];exact h.ln,by rw[P_];exact h.lo,?_,?_,?_,?_,?_,by have:=h.le;omega,h.canonStep c (.inr h.nx)⟩
 .intro k;rw[a];have:=h.n0 k;split<;>omega
 .intro j hj;rw[a,d];by_cases e:i=j
  .subst e;rw[Tn rfl,Tn rfl];omega
  .rw[Tm e];have h1:=h.z j TK;have:¬(q.getD i 0).toNat=(q.getD j 0).toNat:=λh2=>by rw[<-h2]at h1;omega
   rw[Tm this];exact h1
 .intro k b;rw[a]at b;split at b
  .rename_i e;exact⟨i,by omega,e⟩
  .obtain⟨j,hj,h1⟩:=h.zz k b;exact⟨j,by omega,h1⟩
 .intro k k' h1 h2;rw[a]at h1;rw[a,a]at h2;have a1:=h.n0 k;have a2:=h.n0 k';split at h2<;>split at h2
  .rename_i f l;rw[<-f,<-l]
  .omega
  .omega
  .rename_i f l;rw[Tm f]at h1;exact h.inj k k' h1 h2
 .rw[KA c,Dc,<-h.nx];omega
def CInv.done{q out:List Int}{next:Int}(h:CInv q x q.length m next out){g:bV}(j:q.length=g.length)(hq:∀a,a<g.length->0<=q.getD a 0)(f:∀a b,a<g.length->b<g.length->(q.getD a 0=q.getD b 0↔Rch g [(a:Int)] b/\Rch g [(b:Int)] a)):PartsOK g out:=by
 refine⟨by rw[h.lo,j],λi hi=>h.canon i (by rw[<-h.lo];exact hi),λa b d c=>?_,λi hi=>?_,λi hi=>?_⟩
 .rw[<-f a b d c];have h1:=h.z a TK;have h2:=h.z b TK;rw[h1.2,h2.2];have n:=hq a d;have l:=hq b c;constructor
  .intro e;have k:m.getD (q.getD a 0).toNat 0=m.getD (q.getD b 0).toNat 0:=by omega
   have:=h.inj _ _ h1.1 k;omega
  .intro e;rw[e]
 .have:=h.z i (by rw[<-h.lo];exact hi);omega
 .have h1:=h.z i (by rw[<-h.lo];exact hi);have h2:=(h.n0 (q.getD i 0).toNat).2;have h3:=h.le;omega
def TInv.start(g:bV)(part:List Int)(i:part.length=g.length)(e:∀j,j<g.length->part.getD j (-1)= -1):TInv g ⟨replicate g.length 0,replicate g.length 0,part,0,0⟩ []:=by
 have d:∀k,(replicate g.length (0:Int)).getD k 0=0:=by intro k;rw[Pl,Pw];split<;>rfl
 have hn:∀k,Ts.nm ⟨replicate g.length 0,replicate g.length 0,part,0,0⟩ k=0:=d;have c:∀k,k<g.length->Ts.pt ⟨replicate g.length 0,replicate g.length 0,part,0,0⟩ k= -1:=e;refine⟨by simp,by simp,i,λn hn=>absurd hn (by simp[stk]),λn h=>?_,λn h=>by rw[hn];omega,λn hn=>absurd hn (by simp[stk]),by simp[stk],λn h=>by rw[hn];simp,by simp,λf hf=>absurd hf TO,trivial,λn h h1=>by rw[c n h]at h1;omega,λn h=>by rw[c n h];simp,by simp,by simp[OR],?_,λa b l m h1=>by rw[c a l]at h1;omega⟩
 .rw[hn,c n h];simp[stk]
 .have:Cf part<=part.length:=OP;simp;omega
def d7(w0:World){ao:Option Addr}{cap:Nat}{g:bV}(J:Sl w0 F ao cap g)(hF:∀b,F b->b<w0.heap.size)(hG:okG g)(hgl:g.length<=1099511627776):
  Rt Vy 123 [.slice ao g.length cap].toArray w0 λv w'=>∃p,Own w' w0.heap.size 3 dh v p/\PartsOK g p/\Ext w0 w':=by
 refine dR func123 ntmps123 rfl rfl (Ut ?_);refine aE (λx=>Ext w0 x) [Wr 0,Wr 1,Wr 3,Wr 5] [2,4,6] [Wr 7,Ws 8,Wr 9] mixed TL (mm w0) (Vr ?_);refine aR [⟨2,15,λv N w=>Own w w0.heap.size 3 dh v (replicate g.length (0:Int))/\∃b,v.ownBlock=some b/\N b⟩,⟨4,17,λv N w=>Own w w0.heap.size 3 dh v (replicate g.length (0:Int))/\∃b,v.ownBlock=some b/\N b⟩,
  ⟨6,19,λv N w=>Own w w0.heap.size 3 dh v (replicate g.length (0:Int))/\∃b,v.ownBlock=some b/\N b⟩] rfl rfl rfl (mm w0) ?_ ?_
 .intro e he;simp only[Qo,QI,or_false]at he;obtain rfl|rfl|rfl:=he
  all_goals
   refine⟨⟨_,rfl,rfl,rfl,λw' hS=>fI (α:=Int) rfl rfl rfl rfl TK TQ (λw2 ho hgr=>?_)⟩,rfl,rfl,λv N w1 w2 h hE=>⟨h.1.extN hE,h.2⟩⟩;have hE:Ext w' w2:=(p7 w').grown hgr T8 T2;have hS:Ext w0 w':=hS;exact p0 (aS (λb=>b=w'.heap.size) rfl (hS.trans hE) hE ⟨ho.low hS.size,_,rfl,rfl⟩ (λb Q=>by subst Q;exact⟨Rq _,(ho.lt _ rfl).2.1⟩))
 intro w1 R hE1 nV N1 h1 _ lV N2 h2 d2 pV N3 h3 d3;obtain⟨h1,K,hnb,m1⟩:=h1;obtain⟨h2,lb,hlb,m2⟩:=h2;obtain⟨h3,pb,hpb,m3⟩:=h3;have n12:K≠lb:=λe=>d2 N1 TO K m1 (by rw[e];exact m2);have n13:K≠pb:=λe=>d3 N1 TO K m1 (by rw[e];exact m3);have n23:lb≠pb:=λe=>d3 N2 TO lb m2 (by rw[e];exact m3);dsimp only;have R:Ext w0 w1:=R;obtain⟨no,nc,hnv⟩:=h1.val;obtain⟨lo,lc,hlv⟩:=h2.val;obtain⟨po,pc,hpv⟩:=h3.val;subst hnv hlv hpv;refine HL.build rfl rfl rfl rfl rfl (cy rfl (eH λw2 hb2 W=>?_));have X:=R.trans W;refine p0 (a8 X (Vr ?_));have hsz1:w0.heap.size<=w1.heap.size:=R.size;have g1:=h1.lt _ hnb;have g2:=h2.lt _ hlb;have g3:=h3.lt _ hpb;have hM2:TM w2 w0.heap.size w1.heap.size (.slice ao g.length cap) (.slice no (replicate g.length (0:Int)).length nc) (.slice lo (replicate g.length (0:Int)).length lc) (.slice po (replicate g.length (0:Int)).length pc) (.slice none 0 0) K lb pb ⟨replicate g.length 0,replicate g.length 0,replicate g.length 0,0,0⟩ (zf []):=
  ⟨hb2,h1.extN W,h2.extN W,h3.extN W,r3,hsz1,hnb,hlb,hpb,⟨n12,n13,n23,by omega,by omega,by omega⟩,λk hk=>by simp[Value.ownBlock]at hk⟩
 generalize hnV:Value.slice no (replicate g.length (0:Int)).length nc=nV at*;generalize hlV:Value.slice lo (replicate g.length (0:Int)).length lc=lV at*;generalize hpV:Value.slice po (replicate g.length (0:Int)).length pc=pV at*;generalize hbb:w1.heap.size=b at*;clear h1 h2 h3 g1 g2 g3 hb2 R W hE1 d2 d3 m1 m2 m3 hnV hlV hpV;apply bA;refine Ux ?_;refine p8 (S:=Nat×List Int) (λx=>[(3,Ub g.length),(4,Uc b),(22,Ub g.length),(23,Ub x.1)])
  (λx w=>x.1<=g.length/\x.2.length=g.length/\(∀j,j<x.1->x.2.getD j (-1)= -1)/\TM w w0.heap.size b (.slice ao g.length cap) nV lV pV (.slice none 0 0) K lb pb ⟨replicate g.length 0,replicate g.length 0,x.2,0,0⟩ (zf [])/\Ext w0 w) (λx=>g.length -x.1) (0,replicate g.length 0) TJ ⟨by omega,by simp,λj hj=>absurd hj TO,hM2,X⟩ ?_
 rintro⟨i,part⟩ w3 ⟨hi,y,E,c,n⟩;dsimp only at hi y E c;refine UR ?_;apply ld rfl<;>intro d
 .simp at d;have Q:=c.blk;obtain⟨hn1,hn2,hn3,hn4,hn5,hn6⟩:=c.ne;refine UM ?_;refine fX (u:=Ub (-1)) (yv:=(-1:Int)) rfl rfl rfl rfl c.part TP TV TV T7 (λM q hp4 A=>?_);have B:TM M w0.heap.size b (.slice ao g.length cap) nV lV pV (.slice none 0 0) K lb pb ⟨replicate g.length 0,replicate g.length 0,part.set i (-1),0,0⟩ (zf []):=
   ⟨Q.kept A (λe=>by rw[c.hpb]at e;cases e;exact hn6 rfl),c.num.keptN A (λg J e=>by rw[c.hnb]at J;rw[c.hpb]at e;cases J;cases e;exact hn2 rfl),c.low.keptN A (λg J e=>by rw[c.hlb]at J;rw[c.hpb]at e;cases J;cases e;exact hn3 rfl),hp4,r3,c.ge,c.hnb,c.hlb,c.hpb,c.ne,c.sne⟩
  have C:Ext w0 M:=n.grown A n.size (λk hk=>(c.part.lt k hk).1);refine Ui ?_;refine m5 (i+1,part.set i (-1)) TJ ⟨d,by simp[y],λj hj=>?_,B,C⟩ (by simp only;omega);dsimp only;rw[tD TK];split
  .rfl
  .exact E j (by dsimp only at hj;omega)
 simp at d;have:i=g.length:=by omega
 subst this;have hI0:=TInv.start g part y E;clear d hi E;refine UU ?_;refine p8 (S:=Nat×Ts×Value) (λx=>[(3,Ub g.length),(4,Uc b),(33,Ub g.length),(34,Ub x.1)])
  (λx w=>x.1<=g.length/\TInv g x.2.1 []/\TM w w0.heap.size b (.slice ao g.length cap) nV lV pV x.2.2 K lb pb x.2.1 (zf [])/\Ext w0 w/\∀j,j<x.1->0<x.2.1.nm j) (λx=>g.length -x.1) (0,_,.slice none 0 0) TJ ⟨by omega,hI0,c,n,λj hj=>absurd hj TO⟩ ?_
 clear hI0 c n hM2 X;rintro⟨i,s,sV⟩ w3 ⟨hi,U,c,n,D⟩;dsimp only at hi U c D;refine UR ?_;apply ld rfl<;>intro d
 .simp at d;have Q:=c.blk;have hil:i<s.num.length:=by rw[U.ln];exact d
  have en:s.num[i]=s.nm i:=(tx hil).symm;refine UM ?_;refine fh rfl rfl rfl rfl rfl c.num hil TV (λu q O=>?_);obtain rfl:=O.int;rw[en];refine Ug ?_;apply ld rfl<;>intro L
  .have L:s.nm i=0:=by simpa using L
   refine U4 ?_;refine eK (Mk w0 w3 n J hF hG hgl c U d L) ?_;rintro _ M ⟨sV4,s4,B,hI4,C,hmo,hv4⟩;refine Ui ?_;refine m5 (i+1,s4,sV4) TJ ⟨d,hI4,B,C,λj hj=>?_⟩ (by simp only;omega);by_cases e:j=i
   .subst e;exact hv4
   .exact hmo j (D j (by dsimp only at hj;omega))
  .have L:s.nm i≠0:=by simpa using L
   have:=U.non i d;refine US ?_;refine m5 (i+1,s,sV) TJ ⟨d,U,c,n,λj hj=>?_⟩ (by simp only;omega);by_cases e:j=i
   .subst e;dsimp only;omega
   .exact D j (by dsimp only at hj;omega)
 simp at d;have:i=g.length:=by omega
 subst this;clear d hi;have Q:=c.blk;have m:∀a,a<g.length->0<=s.pt a:=λa ha=>by
  rcases(U.vis a ha).1 (D a ha)with h|h
  .simp[stk]at h
  .exact h
 have hgn:=U.gn;have hg0:=U.g0;have y:=U.lp;obtain⟨gn,egn⟩:=Om hg0;rw[egn]at Q;have hgnl:gn<=g.length:=by omega
 refine U1 ?_;refine fI (α:=Int) rfl rfl rfl rfl TK TQ (λM t A=>?_);have V:Ext w3 M:=(p7 w3).grown A T8 T2;have B:=c.ext V;have C:=n.trans V;have hb4:=B.blk;refine UR ?_;refine fI (α:=Int) rfl rfl rfl rfl TK TQ (λw5 r hg5=>?_);have I:Ext M w5:=(p7 M).grown hg5 T8 T2;have hM5:=B.ext I;have hE5:=C.trans I;have H:=(t.extN I).low n.size;have r:=r.low C.size;have hnb34:w3.heap.size<M.heap.size:=(t.lt _ rfl).2.1;have l1:=c.lts.1;have l4:=c.lts.2.2.2.1;have hge3:=n.size;have hge4:=C.size;generalize hnm:Value.slice (some ⟨w3.heap.size,0,none⟩) gn gn=mV at*;generalize hou:Value.slice (some ⟨M.heap.size,0,none⟩) g.length g.length=oV at*;have hmb:mV.ownBlock=some w3.heap.size:=by rw[<-hnm];rfl
 have hob:oV.ownBlock=some M.heap.size:=by rw[<-hou];rfl
 have hC0:CInv s.part s.got 0 (replicate gn 0) 0 (replicate g.length 0):=by have:=CInv.start (q:=s.part) (out:=replicate g.length 0) hg0 (by simp[y]);rwa[egn,Oy,<-egn]at this
 have hsame:∀a b,a<g.length->b<g.length->(s.part.getD a 0=s.part.getD b 0↔Rch g [(a:Int)] b/\Rch g [(b:Int)] a):=by intro a b ha Q;rw[<-U.scc a b ha Q (m a ha) (m b Q)];unfold Ts.pt;rw[tx TK,tx TK,tx TK,tx TK]
 have hq0:∀a,a<g.length->0<=s.part.getD a 0:=λa ha=>by have:=m a ha;unfold Ts.pt at this;rw[tx TK]at this⊢;exact this
 have hql:∀a,a<g.length->s.part.getD a 0<s.got:=λa ha=>by have:=U.ptl a ha;unfold Ts.pt at this;rw[tx TK]at this⊢;exact this
 have hmS:¬tS b K lb pb sV w3.heap.size:=by
  obtain⟨a1,a2,a3,a4,a5,_⟩:=c.lts;rintro(h1|h1|h1|h1|h1)
  .omega
  .omega
  .omega
  .omega
  .have:=a5 _ h1;omega
 have hoS:¬tS b K lb pb sV M.heap.size:=by
  obtain⟨a1,a2,a3,a4,a5,_⟩:=c.lts;rintro(h1|h1|h1|h1|h1)
  .omega
  .omega
  .omega
  .omega
  .have:=a5 _ h1;omega
 clear Q hb4 B t A hg5 V I hnm hou;refine Ux ?_;refine p8 (S:=Nat×List Int×Int×List Int) (λx=>[(4,Uc b),(7,mV),(8,Ub x.2.2.1),(9,oV),(56,Ub g.length),(57,Ub x.1)])
  (λx w=>x.1<=g.length/\CInv s.part s.got x.1 x.2.1 x.2.2.1 x.2.2.2/\TM w w0.heap.size b (.slice ao g.length cap) nV lV pV sV K lb pb s (zf [])/\Own w w0.heap.size 3 dh mV x.2.1/\Own w w0.heap.size 3 dh oV x.2.2.2/\Ext w0 w) (λx=>g.length -x.1) (0,_,0,_) TJ ⟨by omega,hC0,hM5,H,r,hE5⟩ ?_
 clear hM5 H r hE5 hC0 c;rintro⟨i,name,next,out⟩ w6 ⟨hi,hC,c,l,G,hE6⟩;dsimp only at hi hC l G;refine UR ?_;apply ld rfl<;>intro d
 .simp at d;have Q:=c.blk;have z:i<s.part.length:=by omega
  have ei:s.part[i]=s.part.getD i 0:=(tx z).symm;obtain⟨k,ek⟩:=Om (hq0 i d);have hkl:=hql i d;have hnl:=hC.ln;have P:k<name.length:=by omega
  have hk0:=hC.n0 k;have hCle:=hC.le;have hio:i<out.length:=by rw[hC.lo];exact z
  have enk:name[k]=name.getD k 0:=(tx P).symm;obtain⟨hn1,hn2,hn3,hn4,hn5,hn6⟩:=c.ne;dsimp only;apply CW.skip;apply bA;apply Wa;apply CW.block;apply Wa;apply Wh;refine U9 ?_;apply p0;apply bA;refine aC (S:=List Int×Int) (λx=>[(4,Uc b),(7,mV),(8,Ub x.2),(9,oV),(10,Ub i),(56,Ub g.length),(57,Ub i)])
   (λx w'=>∃out',CInv s.part s.got (i+1) x.1 x.2 out'/\out'=out.set i (x.1.getD k 0 -1)/\x.1.length=name.length/\TM w' w0.heap.size b (.slice ao g.length cap) nV lV pV sV K lb pb s (zf [])/\Own w' w0.heap.size 3 dh mV x.1/\Own w' w0.heap.size 3 dh oV out/\Ext w0 w') ?_ ?_
  .refine UN ?_;refine fh rfl rfl rfl rfl rfl c.part z TV (λu q O=>?_);obtain rfl:=O.int;rw[ei,ek];refine fh rfl rfl rfl rfl rfl l P TV (λu q O=>?_);obtain rfl:=O.int;rw[enk];refine Ug ?_;apply ld rfl<;>intro L
   .have L:name.getD k 0=0:=by simpa using L
    have Y:=hC.new z (by rw[ek,Oy];exact P) (by rw[ek,Oy];exact L);rw[ek,Oy]at Y;refine UN ?_;refine fh rfl rfl rfl rfl rfl c.part z TV (λu q O=>?_);obtain rfl:=O.int;rw[ei,ek];refine U9 ?_;refine fX (u:=Ub (next+1)) (yv:=next+1) rfl rfl rfl rfl l P TV TV T7 (λw7 q f hg7=>?_);have T:=c.off hg7 (λj hj=>by rw[hmb]at hj;cases hj;exact hmS);have o:=G.keptN hg7 (λg J e=>by rw[hob]at J;rw[hmb]at e;cases J;simp at e;omega);have hE7:Ext w0 w7:=hE6.grown hg7 hE6.size (λj hj=>(l.lt j hj).1);refine UG ?_;refine aV (name.set k (next+1),next+1) TJ ⟨_,Y,?_,by simp,T,f,o,hE7⟩;dsimp only;rw[tD P,Tn rfl];congr 1;omega
   .have L:name.getD k 0≠0:=by simpa using L
    have Y:=hC.old z (by rw[ek,Oy];exact L);rw[ek,Oy]at Y;refine UH ?_;exact aV (name,next) TJ ⟨_,Y,rfl,rfl,c,l,G,hE6⟩
  rintro⟨name',next'⟩ w7 ⟨out',Y,rfl,hnl',T,f,o,hE7⟩;dsimp only at Y hnl' f⊢;have hb7:=T.blk;have hkn':k<name'.length:=by omega
  have enk':name'[k]=name'.getD k 0:=(tx hkn').symm;have hk0':=Y.n0 k;have hNle:=Y.le;refine UN ?_;refine fh rfl rfl rfl rfl rfl T.part z TV (λu q O=>?_);obtain rfl:=O.int;rw[ei,ek];refine fh rfl rfl rfl rfl rfl f hkn' TV (λu q O=>?_);obtain rfl:=O.int;rw[enk'];refine Ve ?_;refine fX (u:=Ub (name'.getD k 0 -1)) (yv:=name'.getD k 0 -1) rfl rfl rfl rfl o hio TV TV T7 (λw8 q hout8 hg8=>?_);have hM8:=T.off hg8 (λj hj=>by rw[hob]at hj;cases hj;exact hoS);have Z:=f.keptN hg8 (λg J e=>by rw[hmb]at J;rw[hob]at e;cases J;simp at e;omega);have hE8:Ext w0 w8:=hE7.grown hg8 hE7.size (λj hj=>(o.lt j hj).1);refine Ui ?_;exact m5 (i+1,name',next',_) TJ ⟨d,Y,hM8,Z,hout8,hE8⟩ (by simp only;omega)
 simp at d;have:i=g.length:=by omega
 subst this;refine UF ?_;refine d6 ⟨out,G,?_,hE6⟩;exact CInv.done (y▸hC) y hq0 hsame
def Rc.lt{N b:Nat}(d:∀u v,e u v->v<N)(c:a<N):Rc e a b->b<N
 |⟨p,n,h⟩=>by
  cases n with
  |zero=>rw[<-h.last,h.first];exact c
  |succ n=>rw[<-h.last];exact d _ _ (h.step n TK)
def Rc.first{b c:Nat}(h1:Rc e a b)(h2:e b c)(h3:Rc e c a):∃u,e a u/\Rc e u a:=by
 obtain⟨p,n,h⟩:=h1;cases n with
 |zero=>obtain rfl:a=b:=h.first.symm.trans h.last
        exact⟨c,h2,h3⟩
 |succ n=>
  refine⟨p 1,by have:=h.step 0 TK;rwa[h.first]at this,Rc.trans ⟨λi=>p (i+1),n,rfl,h.last,λi hi=>h.step (i+1) TK⟩ ((Rc.one h2).trans h3)⟩
def mh{g:bV}{part:List Int}(j:okG g)(o:PartsOK g part){i:Nat}(hi:i<g.length):
  aN (Eg g) G i↔(∃u,u<g.length/\part.getD u 0=part.getD i 0/\∃to∈g.getD u [],part.getD to.toNat 0=part.getD i 0)/\∀P∈G,∃x,x<g.length/\P x/\part.getD x 0=part.getD i 0:=by
 have k:∀u v,Eg g u v->v<g.length:=λu v h=>h.lt j;have c:∀a b,a<g.length->b<g.length->(part.getD a 0=part.getD b 0↔Rc (Eg g) a b/\Rc (Eg g) b a):=λa b q p=>by rw[o.same a b q p,F5 j,F5 j]
 constructor
 .rintro⟨⟨u,h1,h2⟩,h3⟩;refine⟨⟨i,hi,rfl,(u:Int),h1,?_⟩,λP hP=>?_⟩
  .exact((c u i (k _ _ h1) hi).2 ⟨h2,Rc.one h1⟩)
  .obtain⟨x,e,k1,k2⟩:=h3 P hP;exact⟨x,Rc.lt k hi k1,e,(c x i (Rc.lt k hi k1) hi).2 ⟨k2,k1⟩⟩
 .rintro⟨⟨u,n,h1,to,h2,h3⟩,h4⟩;have t:=Dx j u to h2;have d:Eg g u to.toNat:=by show((to.toNat:Nat):Int)∈_;rw[show((to.toNat:Nat):Int)=to by omega];exact h2
  refine⟨Rc.first ((c u i n hi).1 h1).2 d ((c _ i (k _ _ d) hi).1 h3).1,λP hP=>?_⟩;obtain⟨x,e,r,m⟩:=h4 P hP;exact⟨x,r,((c x i e hi).1 m).2,((c x i e hi).1 m).1⟩
section
variable {g:bV}{f li:List Int}{sm:bV}
theorem Eg.lt1{g:bV}{u v:Nat}(h:Eg g u v):u<g.length:=by unfold Eg at h;apply Ob;intro hn;rw[Pl,Pr TK]at h;simp at h
end
def rI(mu no:List Nat)(k x:Nat):Bool:=decide (x&&&mu.getD k 0=mu.getD k 0)&&decide (x&&&no.getD k 0=0)
structure AccRun(st:List Int)(nx:List (List Int))(mu no:List Nat)(fr:List (List Int))(L r:Nat->Nat):Prop where
 first:(r 0:Int)∈st
 fits:∀i,rI mu no (r i) (L i)=true
 step:∀i,(r (i+1):Int)∈nx.getD (r i) []
 fair:∀F∈fr,∀i,∃j,i<=j/\(r j:Int)∈F
def Acc(st:List Int)(nx:List (List Int))(mu no:List Nat)(fr:List (List Int))(L:Nat->Nat):Prop:=∃r,AccRun st nx mu no fr L r
section
variable {st:List Int}{nx:List (List Int)}{mu no:List Nat}{fr:List (List Int)}{s l:List Nat}
end
def Acc.congr{st:List Int}{nx:List (List Int)}{no:List Nat}{fr:List (List Int)}{L:Nat->Nat}(h:∀i,L i=p i):Acc st nx s no fr L↔Acc st nx s no fr p:=by rw[show L=p from funext h]
abbrev dt:=Int×Int
def yn{ps t:List dt}{p:dt}(h:p∈ps):(ps++t).idxOf p=ps.idxOf p:=by rw[PT,Tn h]
def yq{ps:List dt}{p:dt}(h:p∉ps):ps.idxOf p=ps.length:=by have h1:=List.idxOf_le_length (a:=p) (l:=ps);have h2:=mt PU.1 h;omega
def tq{l t:List α}{j:Nat}{d:α}(h:j<l.length):(l++t).getD j d=l.getD j d:=by rw[Pl,Pl,Pm h]
def tn{l:List α}{x d:α}:(l++[x]).getD l.length d=x:=by rw[Pl,Pn T8];simp
def tr{ps:List dt}{n:Nat}(h:n<ps.length):ps.getD n (0,0)∈ps:=by rw[Pl,Pq h];exact PL _
def yk{ps:List dt}{p:dt}(h:p∈ps):ps.idxOf p<ps.length/\ps.getD (ps.idxOf p) (0,0)=p:=by have a:=PU.2 h;exact⟨a,by rw[Pl,Pq a,R1,PI a]⟩
abbrev cH:=List Int×List (List Int)×List Nat×List Nat×List (List Int)
def aa(A:cH)(L:Nat->Nat):Prop:=Acc A.1 A.2.1 A.2.2.1 A.2.2.2.1 A.2.2.2.2 L
def dq(A:cH):Prop:=(∀x∈A.1,0<=x)/\∀k,∀x∈A.2.1.getD k [],0<=x
def gq(ps:List dt)(p:dt):List dt:=if p∈ps then ps else ps++[p]
def FU(fit:dt->Bool):List dt->List dt->List Int->List dt×List Int
 |[],ps,l=>(ps,l)
 |p::r,ps,l=>if fit p=true then FU fit r (gq ps p) (l++[(ps.idxOf p:Int)])else FU fit r ps l
def En(l k:List Int):List dt:=l.flatMap λx=>k.map λy=>(x,y)
section
variable {fit:dt->Bool}
theorem addF_mem{ps:List dt}{p q:dt}:q∈gq ps p↔q∈ps\/q=p:=by
 unfold gq;split
 .exact⟨.inl,λh=>h.elim id (λh=>by subst h;assumption)⟩
 .simp
theorem gr{ps:List dt}{p:dt}:∃t,gq ps p=ps++t:=by
 unfold gq;split
 .exact⟨[],by simp⟩
 .exact⟨[p],rfl⟩
theorem gu{ps:List dt}{p:dt}(h:ps.Nodup):(gq ps p).Nodup:=by
 unfold gq;split
 .exact h
 .rename_i hn;rw[QF];refine⟨h,QP _ _,λa d b c e=>?_⟩;rw[QC]at c;exact hn (by rw[<-c,<-e];exact d)
theorem gt{ps:List dt}{p:dt}:(gq ps p).idxOf p=ps.idxOf p:=by
 unfold gq;split
 .rfl
 .rename_i hn;rw[PT,Tm hn,yq hn];simp
structure PutF(fit:dt->Bool)(r ps:List dt)(l:List Int)(q:List dt×List Int):Prop where
 nd:q.1.Nodup
 app:∃t,q.1=ps++t
 new:∀p∈q.1,p∈ps\/(p∈r/\fit p=true)
 all:∀p∈r,fit p=true->p∈q.1
 num:∀i,i∈q.2↔i∈l\/∃p∈r,fit p=true/\i=(q.1.idxOf p:Int)
 len:q.2.length<=l.length+r.length
theorem FV:∀(r ps:List dt) (l:List Int),ps.Nodup->PutF fit r ps l (FU fit r ps l)
 |[],ps,l,h=>⟨h,⟨[],by simp[FU]⟩,λp e=>.inl e,(λp e=>by cases e),λi=>by simp[FU],by simp[FU]⟩
 |p::r,ps,l,h=>by
  rw[FU];split
  .rename_i hf;have k:=FV r (gq ps p) (l++[(ps.idxOf p:Int)]) (gu h);obtain⟨t,d⟩:=k.app;obtain⟨f,c⟩:=gr (ps:=ps) (p:=p);refine⟨k.nd,⟨f++t,by rw[d,c,OG]⟩,λq hq=>?_,λq hq a=>?_,λi=>?_,?_⟩
   .obtain h1|h1:=k.new q hq
    .obtain h1|h1:=addF_mem.1 h1
     .exact .inl h1
     .subst h1;exact .inr ⟨Qq,hf⟩
    .exact .inr ⟨Qp _ h1.1,h1.2⟩
   .obtain rfl|hq:=Qo.1 hq
    .rw[d];exact Qm _ (addF_mem.2 (.inr rfl))
    .exact k.all q hq a
   .have b:(FU fit r (gq ps p) (l++[(ps.idxOf p:Int)])).1.idxOf p=ps.idxOf p:=by rw[d,PT,Tn (addF_mem.2 (.inr rfl)),gt]
    rw[k.num];constructor
    .rintro(h1|⟨q,h1,h2,h3⟩)
     .obtain h1|h1:=Ql.1 h1
      .exact .inl h1
      .rw[QC]at h1;exact .inr ⟨p,Qq,hf,by rw[b];exact h1⟩
     .exact .inr ⟨q,Qp _ h1,h2,h3⟩
    .rintro(h1|⟨q,h1,h2,h3⟩)
     .exact .inl (Qm _ h1)
     .obtain rfl|h1:=Qo.1 h1
      .exact .inl (Qn _ (by rw[QC,h3,b]))
      .exact .inr ⟨q,h1,h2,h3⟩
   .have:=k.len;simp only[PX,PY,P5]at this⊢;omega
  .rename_i hf;have k:=FV r ps l h;refine⟨k.nd,k.app,λq hq=>?_,λq hq a=>?_,λi=>?_,?_⟩
   .exact(k.new q hq).imp id λh1=>⟨Qp _ h1.1,h1.2⟩
   .obtain rfl|hq:=Qo.1 hq
    .exact absurd a hf
    .exact k.all q hq a
   .rw[k.num];constructor
    .rintro(h1|⟨q,h1,h2,h3⟩)
     .exact .inl h1
     .exact .inr ⟨q,Qp _ h1,h2,h3⟩
    .rintro(h1|⟨q,h1,h2,h3⟩)
     .exact .inl h1
     .obtain rfl|h1:=Qo.1 h1
      .exact absurd h2 hf
      .exact .inr ⟨q,h1,h2,h3⟩
   .have:=k.len;simp only[PY]at this⊢;omega
theorem pairsX_mem{l k:List Int}{p:dt}:p∈En l k↔p.1∈l/\p.2∈k:=by
 unfold En;simp only[Qt,Qv];constructor
 .rintro⟨x,b,y,a,rfl⟩;exact⟨b,a⟩
 .rintro⟨h1,h2⟩;exact⟨p.1,h1,p.2,h2,rfl⟩
theorem C0:∀(n:Nat) (l:List Nat),l.Nodup->(∀x∈l,x<n)->l.length<=n
 |0,l,_,h=>by
  cases l with
  |nil=>simp
  |cons x r=>have:=h x TO;omega
 |n+1,l,hd,h=>by
  by_cases hn:n∈l
  .have h1:=C0 n (l.erase n) (hd.erase n) (λx a=>by have h2:=(List.Nodup.mem_erase_iff hd).1 a;have:=h x h2.2;have:=h2.1;omega);rw[P2 hn]at h1;omega
  .have:=C0 n l hd (λx a=>by have h2:=h x a;have:x≠n:=λe=>hn (e▸a);omega);omega
theorem CV{a b:Nat}{ps:List dt}(hn:ps.Nodup)(h:∀p∈ps,(0<=p.1/\p.1<a)/\0<=p.2/\p.2<b):ps.length<=a*b:=by
 have hd:∀(x y:Nat),y<b->(b*x+y) / b=x/\(b*x+y) % b=y:=λx y g=>by
  have l:0<b:=by omega
  exact⟨by rw[Nat.mul_add_div l,Rg g,Re],by rw[Nat.mul_add_mod,Rz g]⟩
 have h1:=C0 (a*b) (ps.map λp=>b*p.1.toNat+p.2.toNat) (by
  unfold List.Nodup at hn⊢;rw[QO];refine(QN.2 λ {p q} c=>?_);have d:p∈ps:=c.subset TO;have hq:q∈ps:=c.subset TO;have f:=QN.1 hn c;intro e;obtain⟨⟨p1,p2⟩,j,i⟩:=h p d;obtain⟨⟨r,o⟩,n,m⟩:=h q hq;have d1:=hd p.1.toNat p.2.toNat TK;have d2:=hd q.1.toNat q.2.toNat TK;rw[e]at d1;exact f (Prod.ext (by have:=d1.1.symm.trans d2.1;omega) (by have:=d1.2.symm.trans d2.2;omega))) (λx k=>by
  obtain⟨p,d,rfl⟩:=Qv.1 k;obtain⟨⟨p1,p2⟩,j,i⟩:=h p d;have h2:p.1.toNat+1<=a:=by omega
  have h3:=RC b h2;rw[Nat.mul_add,RE,Nat.mul_comm b a]at h3;omega)
 simpa using h1
end
abbrev UP:=List (Int×Int)
abbrev z_(up:UP):List Int:=up.map Prod.fst
structure WyC(g:List (List Int))(fr:List Int)(al:Nat->Bool)(up:UP):Prop where
 nd:(z_ up).Nodup
 rg:Dy g.length (z_ up)
 par:∀i (hi:i<up.length),(up[i].2= -1/\up[i].1∈fr)\/∃j,∃hj:j<up.length,j<i/\up[i].2=up[j].1/\up[i].1∈g.getD up[j].1.toNat []/\al up[i].1.toNat=true
structure WyOK(g:List (List Int))(fr:List Int)(to al:Nat->Bool)(r:List Int):Prop where
 ne:0<r.length
 len:r.length<=g.length
 rg:Dy g.length r
 st:r.getD 0 0∈fr
 ed:∀i,i+1<r.length->r.getD (i+1) 0∈g.getD (r.getD i 0).toNat []/\al (r.getD (i+1) 0).toNat=true
 en:to (r.getD (r.length -1) 0).toNat=true
def gj(g:List (List Int))(fr:List Int)(to al:Nat->Bool):Prop:=∃C:List Int,(∀x∈fr,x∈C)/\∀x∈C,to x.toNat=false/\∀k∈g.getD x.toNat [],al k.toNat=true->k∈C
def gy(part:List Int)(only:Int)(k:Nat):Bool:=decide (only<0)||decide (part.getD k 0=only)
section
variable {g:List (List Int)}{fr:List Int}{to al:Nat->Bool}{up:UP}
theorem DA:∀{n:Nat} {l:List Int},l.Nodup->Dy n l->l.length<=n:=λ {n l} hn h=>by
 have h1:=C0 n (l.map Int.toNat) (by
  unfold List.Nodup at hn⊢;rw[QO];refine QN.2 λ {a b} c=>?_;have d:=h a (c.subset TO);have f:=h b (c.subset TO);have:=QN.1 hn c;omega) (λx e=>by
  obtain⟨a,d,rfl⟩:=Qv.1 e;have:=h a d;omega)
 simpa using h1
theorem WyC.nil:WyC g fr al []:=⟨List.Pairwise.nil,(λx a=>by cases a),λi hi=>absurd hi TO⟩
theorem WyC.len(h:WyC g fr al up):up.length<=g.length:=by have:=DA h.nd h.rg;simpa using this
theorem WyC.push(h:WyC g fr al up){x:Int×Int}(hn:x.1∉z_ up)(m:0<=x.1/\x.1<g.length)
  (n:(x.2= -1/\x.1∈fr)\/∃j,∃hj:j<up.length,x.2=up[j].1/\x.1∈g.getD up[j].1.toNat []/\al x.1.toNat=true):WyC g fr al (up++[x]):=by
 refine⟨?_,λy c=>?_,λi hi=>?_⟩
 .unfold z_;rw[Qe,QF];refine⟨h.nd,by simp,λa o b f e=>?_⟩;simp at f;subst f;subst e;exact hn o
 .unfold z_ at c;rw[Qe]at c;obtain c|c:=Ql.1 c
  .exact h.rg y c
  .simp at c;subst c;exact m
 .by_cases l:i<up.length
  .rw[PB l];obtain k|⟨j,hj,k1,k2,k3⟩:=h.par i l
   .exact .inl k
   .exact .inr ⟨j,by simp;omega,k1,by rw[PB hj];exact k2,by rw[PB hj];exact k3⟩
  .have d:i=up.length:=by simp at hi;omega
   subst d;rw[PC T8];simp only[RP,PE];obtain k|⟨j,hj,k⟩:=n
   .exact .inl k
   .exact .inr ⟨j,by simp;omega,hj,by rw[PB hj];exact k⟩
structure BackI(g:List (List Int))(fr:List Int)(al:Nat->Bool)(up:UP)(h q:Nat)(out:List Int):Prop where
 hq:q<=up.length
 hh:h<up.length
 len:out.length+q<=h+1
 rg:Dy g.length out
 rv:∀i,i+1<out.length->out.getD i 0∈g.getD (out.getD (i+1) 0).toNat []/\al (out.getD i 0).toNat=true
 nx:∀(h0:0<q),0<out.length->out.getD (out.length -1) 0∈g.getD (up[q -1]'TK).1.toNat []/\al (out.getD (out.length -1) 0).toNat=true
 hd:0<out.length->out.getD 0 0=up[h].1
 em:out.length=0->q=h+1
 fn:q=0->0<out.length/\out.getD (out.length -1) 0∈fr
def Da(up:UP)(q:Nat):Int:=if h:0<q/\q<=up.length then(up[q -1]'TK).1 else -1
theorem BackI.start{h:Nat}(hh:h<up.length):BackI g fr al up h (h+1) []:=
 ⟨hh,hh,by simp,(λx a=>by cases a),λi hi=>absurd hi TO,λ_ k=>absurd k TO,λk=>absurd k TO,λ_=>rfl,λk=>by cases k⟩
theorem tu{l:List Int}{x:Int}{i:Nat}(h:i<l.length):(l++[x]).getD i 0=l.getD i 0:=by rw[Pl,Pm h,<-Pl]
theorem tw{l:List Int}{x:Int}:(l++[x]).getD l.length 0=x:=by rw[Pl,Pn T8];simp
theorem BackI.step(p:WyC g fr al up){h q:Nat}{out:List Int}(b:BackI g fr al up h q out)(n:0<q):∃a,a<q/\(up[q -1]'(by have:=b.hq;omega)).2=Da up a/\BackI g fr al up h a (out++[(up[q -1]'(by have:=b.hq;omega)).1]):=by
 have hq:=b.hq;have d:q -1<up.length:=by omega
 have f:0<=up[q -1].1/\up[q -1].1<g.length:=p.rg _ (Qv.2 ⟨_,PL d,rfl⟩);have o:=b.len;have common:∀a (m:a<q),(∀(h1:0<a),up[q -1].1∈g.getD (up[a -1]'TK).1.toNat []/\al up[q -1].1.toNat=true)->(a=0->up[q -1].1∈fr)->BackI g fr al up h a (out++[up[q -1].1]):=by
  intro a m hn hf;refine⟨by omega,b.hh,by simp;omega,λx c=>?_,λi hi=>?_,λh1 _=>?_,λ_=>?_,λk=>by simp at k,λk=>⟨by simp,?_⟩⟩
  .obtain c|c:=Ql.1 c
   .exact b.rg x c
   .rw[QC]at c;subst c;exact f
  .simp at hi;rw[tu (i:=i) TK];by_cases e:i+1<out.length
   .rw[tu (i:=i+1) e];exact b.rv i e
   .obtain e:i+1=out.length:=by omega
    rw[e,tw];have:=b.nx n TK;rw[show out.length -1=i by omega]at this;exact this
  .rw[show(out++[up[q -1].1]).length -1=out.length by simp,tw];exact hn h1
  .by_cases e:0<out.length
   .rw[tu e];exact b.hd e
   .have r:out.length=0:=by omega
    have s:=b.em r;have:(out++[up[q -1].1]).getD 0 0=up[q -1].1:=by have:=tw (l:=out) (x:=up[q -1].1);rwa[r]at this
    rw[this];congr 2;omega
  .rw[show(out++[up[q -1].1]).length -1=out.length by simp,tw];exact hf k
 obtain⟨k1,k2⟩|⟨j,hj,k1,k2,k3,k4⟩:=p.par (q -1) d
 .exact⟨0,n,by rw[k1];unfold Da;rw[dif_neg TK],common 0 n (λh1=>absurd h1 TK) (λ_=>k2)⟩
 .refine⟨j+1,by omega,?_,common (j+1) TK (λ_=>⟨k3,k4⟩) (λe=>by cases e)⟩;rw[k2];unfold Da;rw[Ti ⟨by omega,by omega⟩];rfl
theorem BackI.done(k:WyC g fr al up){h:Nat}{out:List Int}(b:BackI g fr al up h 0 out)(j:to (up[h]'b.hh).1.toNat=true):WyOK g fr to al out.reverse:=by
 have d:=b.len;have f:=k.len;have hh:=b.hh;have c:=(b.fn rfl).1;have a:∀i,i<out.length->out.reverse.getD i 0=out.getD (out.length -1 -i) 0:=λi hi=>by rw[Pl,Px hi,<-Pl]
 refine⟨by simpa using c,by rw[P9];omega,λx e=>b.rg x (QB.1 e),?_,λi hi=>?_,?_⟩
 .rw[a 0 c];exact(b.fn rfl).2
 .rw[P9]at hi;rw[a _ hi,a i TK];have:=b.rv (out.length -1 -(i+1)) TK;rw[show out.length -1 -(i+1)+1=out.length -1 -i by omega]at this;exact this
 .rw[P9,a _ TK,show out.length -1 -(out.length -1)=0 by omega,b.hd c];exact j
end
def yp{ps:List dt}{p:dt}(h:p∈ps):ps.idxOf p<ps.length:=(yk h).1
structure RunE(fit:dt->Bool)(next:dt->List dt)(start ps:List dt)(fr:List Int)(nx:List (List Int)):Prop where
 nd:ps.Nodup
 ok:∀p∈ps,fit p=true
 sm:∀p∈start,fit p=true->p∈ps
 sn:∀i,i∈fr↔∃p∈start,fit p=true/\i=(ps.idxOf p:Int)
 le:nx.length<=ps.length
 nm:∀n,n<nx.length->∀q∈next (ps.getD n (0,0)),fit q=true->q∈ps
 nn:∀n,n<nx.length->∀i,i∈nx.getD n []↔∃q∈next (ps.getD n (0,0)),fit q=true/\i=(ps.idxOf q:Int)
 rc:∀i:Nat,i<ps.length->(i:Int)∈fr\/∃m,m<i/\m<nx.length/\(i:Int)∈nx.getD m []
section
variable {fit:dt->Bool}{next:dt->List dt}{start ps:List dt}{fr:List Int}{nx:List (List Int)}
theorem RunE.init:RunE fit next start (FU fit start [] []).1 (FU fit start [] []).2 []:=by
 have k:=FV (fit:=fit) start [] [] List.Pairwise.nil;have a:∀p∈(FU fit start [] []).1,p∈start/\fit p=true:=λp b=>(k.new p b).resolve_left (λh=>by cases h);refine⟨k.nd,λp b=>(a p b).2,k.all,λi=>?_,RU _,λn hn=>absurd hn TO,λn hn=>absurd hn TO,λi hi=>.inl ?_⟩
 .rw[k.num];exact⟨λh=>h.resolve_left (λh=>by cases h),.inr⟩
 .rw[k.num];have c:=PL hi;exact .inr ⟨_,(a _ c).1,(a _ c).2,by rw[k.nd.idxOf_getElem i hi]⟩
theorem RunE.step(h:RunE fit next start ps fr nx)(hn:nx.length<ps.length):
  RunE fit next start (FU fit (next (ps.getD nx.length (0,0))) ps []).1 fr (nx++[(FU fit (next (ps.getD nx.length (0,0))) ps []).2]):=by
 generalize s:next (ps.getD nx.length (0,0))=r
 have k:=FV (fit:=fit) r ps [] h.nd;generalize FU fit r ps []=q at*;obtain⟨t,o⟩:=k.app;have j:∀p∈ps,p∈q.1:=λp b=>by rw[o];exact Qm _ b
 have a:∀p∈ps,q.1.idxOf p=ps.idxOf p:=λp b=>by rw[o];exact yn b
 have u:q.1.length=ps.length+t.length:=by rw[o,PX]
 have c:∀n,n<ps.length->q.1.getD n (0,0)=ps.getD n (0,0):=λn hn=>by rw[o];exact tq hn
 have w:=h.le;refine⟨k.nd,λp b=>(k.new p b).elim (h.ok p) (·.2),λp b hf=>j p (h.sm p b hf),λi=>?_,by rw[PX];simp;omega,λn d x l hf=>?_,λn d i=>?_,λi hi=>?_⟩
 .rw[h.sn];constructor
  .rintro⟨p,h1,h2,h3⟩;exact⟨p,h1,h2,by rw[a p (h.sm p h1 h2)];exact h3⟩
  .rintro⟨p,h1,h2,h3⟩;exact⟨p,h1,h2,by rw[<-a p (h.sm p h1 h2)];exact h3⟩
 .simp at d;rw[c n TK]at l;by_cases e:n<nx.length
  .exact j x (h.nm n e x l hf)
  .obtain rfl:n=nx.length:=by omega
   rw[s]at l;exact k.all x l hf
 .simp at d;rw[c n TK];by_cases e:n<nx.length
  .rw[tq e,h.nn n e];constructor
   .rintro⟨p,h1,h2,h3⟩;exact⟨p,h1,h2,by rw[a p (h.nm n e p h1 h2)];exact h3⟩
   .rintro⟨p,h1,h2,h3⟩;exact⟨p,h1,h2,by rw[<-a p (h.nm n e p h1 h2)];exact h3⟩
  .obtain rfl:n=nx.length:=by omega
   rw[tn,s,k.num];exact⟨λh=>h.resolve_left (λh=>by cases h),.inr⟩
 .by_cases e:i<ps.length
  .obtain h1|⟨m,h1,h2,h3⟩:=h.rc i e
   .exact .inl h1
   .exact .inr ⟨m,h1,by simp;omega,by rw[tq h2];exact h3⟩
  .refine .inr ⟨nx.length,by omega,by simp,?_⟩;rw[tn,k.num];have v:=PL hi;have f:q.1[i]∉ps:=λb=>by have h1:=a _ b;rw[k.nd.idxOf_getElem i hi]at h1;have:=yp b;omega
   obtain⟨h1,h2⟩:=(k.new _ v).resolve_left f;exact .inr ⟨_,h1,h2,by rw[k.nd.idxOf_getElem i hi]⟩
variable(h:RunE fit next start ps fr nx)(hl:nx.length=ps.length)
include h hl
theorem RunE.okG:okG nx:=λl a x b=>by obtain⟨n,hn,rfl⟩:=Qu.1 a;rw[<-show nx.getD n []=nx[n] by rw[Pl,Pq hn];rfl]at b;obtain⟨q,h1,h2,rfl⟩:=(h.nn n hn x).1 b;have:=yp (h.nm n hn q h1 h2);omega
theorem RunE.okF:Dy nx.length fr:=λx a=>by obtain⟨q,h1,h2,rfl⟩:=(h.sn x).1 a;have:=yp (h.sm q h1 h2);omega
theorem RunE.reach:∀i:Nat,i<nx.length->∃a:Nat,(a:Int)∈fr/\Rc (Eg nx) a i:=λi=>by
 induction i using Nat.strongRecOn with
 |ind i b=>
  intro hi;obtain h1|⟨m,h1,h2,h3⟩:=h.rc i TK
  .exact⟨i,h1,Rc.refl i⟩
  .obtain⟨a,d,c⟩:=b m h1 h2;exact⟨a,d,c.trans (Rc.one h3)⟩
end
structure PWay(fit:dt->Bool)(next:dt->List dt)(start:List dt)(Ss:List (dt->Bool))(r:Nat->dt):Prop where
 first:r 0∈start
 fits:∀i,fit (r i)=true
 step:∀i,r (i+1)∈next (r i)
 fair:∀S∈Ss,∀i,∃j,i<=j/\S (r j)=true
def IC(Ss:List (dt->Bool))(ps:List dt):List (List Bool):=Ss.map λS=>ps.map S
def bU(g:bV)(part:List Int)(sets:List (List Bool))(c:Int):Prop:=
 (∃u,u<g.length/\part.getD u 0=c/\∃to∈g.getD u [],part.getD to.toNat 0=c)/\∀S∈sets,∃x,x<g.length/\S.getD x false=true/\part.getD x 0=c
abbrev Iz(sets:List (List Bool)):List (Nat->Prop):=sets.map λS x=>S.getD x false=true
def ug{g:bV}{part:List Int}{sets:List (List Bool)}(b:okG g)(a:PartsOK g part){i:Nat}(hi:i<g.length):aN (Eg g) (Iz sets) i↔bU g part sets (part.getD i 0):=by
 rw[mh b a hi];unfold bU;refine S0 λ_=>⟨λh S hS=>?_,λh P hP=>?_⟩
 .obtain⟨x,h1,h2,h3⟩:=h _ (Qv.2 ⟨S,hS,rfl⟩);exact⟨x,h1,h2,h3⟩
 .obtain⟨S,hS,rfl⟩:=Qv.1 hP;obtain⟨x,h1,h2,h3⟩:=h S hS;exact⟨x,h1,h2,h3⟩
def ID{S:dt->Bool}{ps:List dt}{x:Nat}(a:x<ps.length):(ps.map S).getD x false=S (ps.getD x (0,0)):=by rw[Pl,Pu,Pq a,Pl,Pq a];rfl
section
variable {fit:dt->Bool}{next:dt->List dt}{start ps:List dt}{fr:List Int}{nx:List (List Int)}{Ss:List (dt->Bool)}{part:List Int}
theorem F1(h:RunE fit next start ps fr nx)(hl:nx.length=ps.length){r:Nat->dt}(a:PWay fit next start Ss r):∀i,r i∈ps
 |0=>h.sm _ a.first (a.fits 0)
 |i+1=>by have h1:=F1 h hl a i;have h2:=yk h1;refine h.nm (ps.idxOf (r i)) TK _ ?_ (a.fits (i+1));rw[h2.2];exact a.step i
theorem F0(h:RunE fit next start ps fr nx)(hl:nx.length=ps.length)(k:PartsOK nx part):
  (∃r,PWay fit next start Ss r)↔∃c:Int,0<=c/\c<nx.length/\bU nx part (IC Ss ps) c:=by
 have w:=h.okG hl;constructor
 .rintro⟨r,e⟩;have d:=F1 h hl e;have A:Way8 (Eg nx) (Iz (IC Ss ps)) (λi=>ps.idxOf (r i)):=by
   refine⟨λi=>?_,λP hP i=>?_⟩
   .have h2:=yk (d i);refine(h.nn (ps.idxOf (r i)) TK _).2 ⟨r (i+1),?_,e.fits _,rfl⟩;rw[h2.2];exact e.step i
   .obtain⟨L,z,rfl⟩:=Qv.1 hP;obtain⟨S,hS,rfl⟩:=Qv.1 z;obtain⟨j,h1,h2⟩:=e.fair S hS i;have h3:=yk (d j);refine⟨j,h1,?_⟩;show(ps.map S).getD (ps.idxOf (r j)) false=true;rw[ID h3.1,h3.2];exact h2
  obtain⟨v,_,m,i,hi⟩:=Mo (N:=ps.length) (λi=>yp (d i)) A;have o:v<nx.length:=by have:=yp (d i);omega
  exact⟨part.getD v 0,k.ge v (by rw[k.len];exact o),k.lt v (by rw[k.len];exact o),(ug w k o).1 m⟩
 .rintro⟨c,_,_,m⟩;obtain⟨u,x,s,_⟩:=m.1;rw[<-s]at m;have f:=(ug w k x).2 m;obtain⟨a,y,t⟩:=h.reach hl u x;obtain⟨r,l,e⟩:=mj t f;have b:∀i,r i<nx.length:=λi=>by
   cases i with
   |zero=>rw[l];have:=h.okF hl _ y;omega
   |succ i=>exact(e.1 i).lt w
  refine⟨λi=>ps.getD (r i) (0,0),?_,λi=>h.ok _ (tr (by have:=b i;omega)),λi=>?_,λS hS i=>?_⟩
  .rw[l];obtain⟨p,h1,h2,h3⟩:=(h.sn _).1 y;have h4:=yk (h.sm p h1 h2);rw[show a=ps.idxOf p by omega,h4.2];exact h1
  .obtain⟨q,h1,h2,h3⟩:=(h.nn (r i) (b i) _).1 (e.1 i);have h4:=yk (h.nm (r i) (b i) q h1 h2);rw[show r (i+1)=ps.idxOf q by omega,h4.2];exact h1
  .obtain⟨j,h1,h2⟩:=e.2 _ (Qv.2 ⟨ps.map S,Qv.2 ⟨S,hS,rfl⟩,rfl⟩) i;refine⟨j,h1,?_⟩;rw[ID (by have:=b j;omega)]at h2;exact h2
end
def Ez{g:bV}{part:List Int}(d:okG g)(m:PartsOK g part){C:List Int}{c:Int}(s:∀x∈C,∀k∈g.getD x.toNat [],part.getD k.toNat 0=c->k∈C)
  {u v:Nat} (e:u<g.length) (q:v<g.length) (pu:part.getD u 0=c) (pv:part.getD v 0=c) (h:(u:Int)∈C):(v:Int)∈C:=by
 have r:∀u v,Eg g u v->v<g.length:=λu v h=>h.lt d;obtain⟨h1,h2⟩:=(m.same u v e q).1 (pu.trans pv.symm);rw[F5 d]at h1 h2;obtain⟨p,n,a⟩:=h1;have b:∀i,i<=n->Rc (Eg g) u (p i)/\Rc (Eg g) (p i) v:=λi hi=>
  ⟨⟨p,i,a.first,rfl,λj hj=>a.step j TK⟩,⟨λj=>p (i+j),n -i,by simp,by rw[show i+(n -i)=n by omega];exact a.last,λj hj=>a.step (i+j) TK⟩⟩
 have l:∀i,i<=n->p i<g.length:=λi hi=>Rc.lt r e (b i hi).1;have f:∀i,i<=n->part.getD (p i) 0=c:=λi hi=>by rw[<-pu];refine((m.same (p i) u (l i hi) e).2 ?_);rw[F5 d,F5 d];exact⟨(b i hi).2.trans h2,(b i hi).1⟩
 have:∀i,i<=n->((p i:Nat):Int)∈C:=λi=>by
  induction i with
  |zero=>intro _;rw[a.first];exact h
  |succ i o=>
   intro hi;refine s _ (o TK) _ ?_ (by rw[Oy];exact f _ hi);rw[Oy];exact a.step i TK
 have h3:=this n T8;rwa[a.last]at h3
def gz{part:List Int}{c:Int}(a:0<=c){k:Nat}:gy part c k=true↔part.getD k 0=c:=by unfold gy;simp;omega
def MD{g:bV}{part:List Int}(l:okG g)(i:PartsOK g part){c:Int}(m:0<=c){fr:List Int}{to:Nat->Bool}{u x:Nat}(e:u<g.length)(d:x<g.length)(pu:part.getD u 0=c)(px:part.getD x 0=c)(hf:(u:Int)∈fr)(f:to x=true):
  ¬gj g fr to (gy part c):=by
 rintro⟨C,h1,h2⟩;have:=Ez l i (C:=C) (c:=c) (λy b k j a=>(h2 y b).2 k j ((gz m).2 a)) e d pu px (h1 _ hf);have h3:=(h2 _ this).1;rw[Oy,f]at h3;cases h3
def MC{g:bV}{part fr:List Int}{to:Nat->Bool}{x:Nat}(f:(a:Int)∈fr)(e:Rc (Eg g) a x)(d:to x=true):¬gj g fr to (gy part (-1)):=by
 rintro⟨C,h1,h2⟩;obtain⟨p,n,b⟩:=e;have:∀i,i<=n->((p i:Nat):Int)∈C:=λi=>by
  induction i with
  |zero=>intro _;rw[b.first];exact h1 _ f
  |succ i c=>
   intro hi;exact(h2 _ (c TK)).2 _ (by rw[Oy];exact b.step i TK) (by unfold gy;simp)
 have h3:=this n T8;rw[b.last]at h3;have h4:=(h2 _ h3).1;rw[Oy,d]at h4;cases h4
structure RoI(g:bV)(part:List Int)(n:Nat)(seen:List (List Bool))(out:List Int):Prop where
 ne:0<out.length
 len:out.length<=1+seen.length*g.length
 rg:Dy g.length out
 pt:∀x∈out,part.getD x.toNat 0=part.getD n 0
 st:out.getD 0 0=(n:Int)
 ed:∀i,i+1<out.length->out.getD (i+1) 0∈g.getD (out.getD i 0).toNat []
 all:∀S∈seen,∃x∈out,S.getD x.toNat false=true
structure RoOK(g:bV)(n:Nat)(sets:List (List Bool))(out:List Int):Prop where
 ne:0<out.length
 len:out.length<=1+(sets.length+1)*g.length
 rg:Dy g.length out
 st:out.getD 0 0=(n:Int)
 ed:∀i,i+1<out.length->out.getD (i+1) 0∈g.getD (out.getD i 0).toNat []
 cl:(n:Int)∈g.getD (out.getD (out.length -1) 0).toNat []
 all:∀S∈sets,∃x∈out,S.getD x.toNat false=true
section
variable {g:bV}{part:List Int}{n:Nat}{seen:List (List Bool)}{out:List Int}
theorem RoI.start(hn:n<g.length):RoI g part n [] [(n:Int)]:=
 ⟨by simp,by simp,λx a=>by rw[QC]at a;subst a;omega,λx a=>by rw[QC]at a;subst a;simp,rfl,λi hi=>by simp at hi,λS hS=>by cases hS⟩
theorem RoI.skip(h:RoI g part n seen out){S:List Bool}(hS:∃x∈out,S.getD x.toNat false=true):RoI g part n (seen++[S]) out:=
 ⟨h.ne,by have:=h.len;rw[PX,Q9];omega,h.rg,h.pt,h.st,h.ed,λS' a=>by
  obtain h1|h1:=Ql.1 a
  .exact h.all S' h1
  .rw[QC]at h1;subst h1;exact hS⟩
theorem tK{l k:List Int}{i:Nat}(h:i<l.length):(l++k).getD i 0=l.getD i 0:=tq h
theorem tL{l k:List Int}{i:Nat}(h:l.length<=i):(l++k).getD i 0=k.getD (i -l.length) 0:=by rw[Pl,Pn h,<-Pl]
theorem tM{l:List Int}{i:Nat}:(l.drop 1).getD i 0=l.getD (i+1) 0:=by rw[Pl,Pp,<-Pl,Q8]
theorem Nr{fr:List Int}{to:Nat->Bool}{c:Int}{l:List Int}(b:0<=c)(h:WyOK g fr to (gy part c) l)(hf:∀x∈fr,part.getD x.toNat 0=c):∀x∈l,part.getD x.toNat 0=c:=λx a=>by
 obtain⟨i,hi,rfl⟩:=Qu.1 a;have e:l[i]=l.getD i 0:=by rw[Pl,Pq hi];rfl
 rw[e];cases i with
 |zero=>exact hf _ h.st
 |succ i=>exact(gz b).1 (h.ed i hi).2
theorem RoI.go(h:RoI g part n seen out)(p:0<=part.getD n 0){S:List Bool}{l:List Int}(hl:WyOK g [out.getD (out.length -1) 0] (λk=>S.getD k false) (gy part (part.getD n 0)) l):RoI g part n (seen++[S]) (out++l.drop 1):=by
 have c:=h.ne;have o:=hl.ne;have b:l.getD 0 0=out.getD (out.length -1) 0:=by simpa using hl.st
 have hom:out.getD (out.length -1) 0∈out:=by rw[Pl,Pq TK];exact PL _
 have d:=Nr p hl (λx a=>by rw[QC]at a;subst a;exact h.pt _ hom);have f:(l.drop 1).length=l.length -1:=PZ;refine⟨by rw[PX];omega,?_,λx a=>?_,λx a=>?_,by rw[tK c];exact h.st,λi hi=>?_,λS' j=>?_⟩
 .have:=h.len;have:=hl.len;rw[PX,PX,PZ,Q9];simp;omega
 .obtain a|a:=Ql.1 a
  .exact h.rg x a
  .exact hl.rg x (Qy a)
 .obtain a|a:=Ql.1 a
  .exact h.pt x a
  .exact d x (Qy a)
 .rw[PX,f]at hi;by_cases e:i+1<out.length
  .rw[tK e,tK TK];exact h.ed i e
  .rw[tL (i:=i+1) TK,tM];by_cases q:i<out.length
   .obtain rfl:i=out.length -1:=by omega
    rw[tK q,<-b,show out.length -1+1 -out.length+1=0+1 by omega];exact(hl.ed 0 TK).1
   .rw[tL (i:=i) TK,tM,show i+1 -out.length+1=(i -out.length+1)+1 by omega];exact(hl.ed _ TK).1
 .obtain h1|h1:=Ql.1 j
  .obtain⟨x,a,m⟩:=h.all S' h1;exact⟨x,Qm _ a,m⟩
  .rw[QC]at h1;subst h1;by_cases e:l.length=1
   .refine⟨_,Qm _ hom,?_⟩;have:=hl.en;rw[e]at this;rw[<-b];exact this
   .refine⟨l.getD (l.length -1) 0,Qn _ ?_,hl.en⟩;rw[Qu];refine⟨l.length -2,by omega,?_⟩;rw[PH,Pl,Pq TK];simp only[R1];congr 1;omega
theorem RoI.close(h:RoI g part n seen out){fr:List Int}{al:Nat->Bool}{l:List Int}(hf:∀x∈fr,x∈g.getD (out.getD (out.length -1) 0).toNat [])(hl:WyOK g fr (λk=>decide (k=n)) al l):RoOK g n seen (out++l.take (l.length -1)):=by
 have j:=h.ne;have o:=hl.ne;have d:=hf _ hl.st;have b:(l.take (l.length -1)).length=l.length -1:=by rw[Qb];omega
 have c:∀i,i<l.length -1->(l.take (l.length -1)).getD i 0=l.getD i 0:=λi hi=>by rw[Pl,PA hi,<-Pl]
 have f:l.getD (l.length -1) 0=(n:Int):=by
  have h1:=hl.en;have h2:0<=l.getD (l.length -1) 0:=by rw[Pl,Pq TK];exact(hl.rg _ (PL TK)).1
  simp only[Td]at h1;omega
 refine⟨by rw[PX];omega,?_,λx a=>?_,by rw[tK j];exact h.st,λi hi=>?_,?_,λS hS=>?_⟩
 .have:=h.len;have:=hl.len;rw[PX,b,Q9];omega
 .obtain a|a:=Ql.1 a
  .exact h.rg x a
  .exact hl.rg x (Qz a)
 .rw[PX,b]at hi;by_cases e:i+1<out.length
  .rw[tK e,tK TK];exact h.ed i e
  .rw[tL (i:=i+1) TK,c _ TK];by_cases p:i<out.length
   .obtain rfl:i=out.length -1:=by omega
    rw[tK p,show out.length -1+1 -out.length=0 by omega];exact d
   .rw[tL (i:=i) TK,c _ TK,show i+1 -out.length=(i -out.length)+1 by omega];exact(hl.ed _ TK).1
 .rw[PX,b];by_cases e:l.length=1
  .rw[tK TK,show out.length+(l.length -1) -1=out.length -1 by omega];rw[<-f,e];exact d
  .rw[tL TK,c _ TK,show out.length+(l.length -1) -1 -out.length=l.length -2 by omega,<-f];have:=(hl.ed (l.length -2) TK).1;rwa[show l.length -2+1=l.length -1 by omega]at this
 .obtain⟨x,a,m⟩:=h.all S hS;exact⟨x,Qm _ a,m⟩
end

def kQ(n:Nat)(l:List Int):Bool:=decide (l.length=0)||De n l
def k_(st:List Int)(nx:List (List Int))(k:Nat)(fr:List (List Int)):Int:=
 if nx.length>600\/fr.length>80 then 2 else if k≠nx.length\/De nx.length st=true then 1 else if nx.any (kQ nx.length)=true then 1 else if fr.any (De nx.length)=true then 1 else 0
def lh{st:List Int}{nx:List (List Int)}{k:Nat}{fr:List (List Int)}(h:k_ st nx k fr=0):nx.length<=600/\fr.length<=80/\k=nx.length/\Dy nx.length st/\(∀l∈nx,0<l.length/\Dy nx.length l)/\∀l∈fr,Dy nx.length l:=by
 unfold k_ at h;split at h
 .cases h
 split at h
 .cases h
 split at h
 .cases h
 split at h
 .cases h
 rename_i h1 h2 h3 h4;refine⟨by omega,by omega,?_,?_,?_,?_⟩
 .by_cases e:k=nx.length
  .exact e
  .exact absurd (.inl e) h2
 .rw[<-oddB_false];cases e:De nx.length st
  .rfl
  .exact absurd (.inr e) h2
 .intro l a;have h3:nx.any (kQ nx.length)=false:=by simpa using h3
  rw[OD]at h3;have:=h3 l a;simp only[kQ,N6,Td,Tr,NY]at this;exact⟨by omega,oddB_false.1 this.2⟩
 .intro l a;have h4:fr.any (De nx.length)=false:=by simpa using h4
  rw[OD]at h4;exact oddB_false.1 (by simpa using h4 l a)
def KM(al l:List Int)(i:Nat):Int:=if i+1<al.length then al.getD (i+1) 0 else l.getD 0 0
def JH(nx:List (List Int))(al l:List Int)(i:Nat):Bool:=(nx.getD (al.getD i 0).toNat []).contains (KM al l i)
def uf(st:List Int)(nx fr:List (List Int))(al l:List Int):Bool:=
 st.contains (al.getD 0 0)&&(range al.length).all (JH nx al l)&&fr.all (λf=>f.any (λx=>l.contains x))
def ze{n:Nat}{l:List Int}(h:Dy n l):(l.map Int.toNat).map Int.ofNat=l:=by
 rw[Qh]
 conv=>rhs;rw[<-List.map_id l]
 refine Qf λx a=>?_;have:=h x a;show Int.ofNat x.toNat=x;have h2:(x.toNat:Int)=x:=Oz TK;exact h2
def tz{l:List Nat}{i:Nat}(h:i<l.length):(l.map Int.ofNat).getD i 0=((l.getD i 0:Nat):Int):=by rw[Pl,Pu,Pq h,Pl,Pq h];rfl
def gK{l:List Nat}{i:Nat}(h:i<(s++l).length):(((s++l).map Int.ofNat).getD i 0)=(AA s l i:Int):=by
 rw[tz h];unfold AA;rw[PX]at h;by_cases h1:i<s.length
 .rw[Tn h1,Pl,Pm h1,<-Pl]
 .rw[Tm h1,Pl,Pn TK,<-Pl,Rz TK]
def ox(nx:List (List Int))(s l:List Nat)(i:Nat):Bool:=(nx.getD (AA s l i) []).contains ((AA s l (i+1):Nat):Int)
def JI{nx:List (List Int)}{l:List Nat}(a:0<l.length){i:Nat}(h:i<(s++l).length):JH nx ((s++l).map Int.ofNat) (l.map Int.ofNat) i=ox nx s l i:=by
 unfold JH ox;have b:KM ((s++l).map Int.ofNat) (l.map Int.ofNat) i=((AA s l (i+1):Nat):Int):=by
  unfold KM;rw[P4];by_cases h1:i+1<(s++l).length
  .rw[Tn h1,gK h1]
  .rw[Tm h1,tz a];have e:i+1=s.length+l.length:=by rw[PX]at h h1;omega
   rw[e];unfold AA;rw[Tm TK,Rb,Nat.mod_self]
 rw[b,gK h];rfl
def oE{nx:List (List Int)}{l:List Nat}(a:0<l.length):(range ((s++l).map Int.ofNat).length).all (JH nx ((s++l).map Int.ofNat) (l.map Int.ofNat))=true↔∀i,ox nx s l i=true:=by
 rw[OA,P4];constructor
 .intro h i;have b:=RA (i -s.length) a;have key:∀j,j<(s++l).length->ox nx s l j=true:=λj hj=>by rw[<-JI a hj];exact h j (QA.2 hj)
  rw[PX]at key;by_cases h1:i<s.length
  .exact key i TK
  .have hj:=key (s.length+(i -s.length) % l.length) TK;have one:∀k,s.length<=k->AA s l k=l.getD ((k -s.length) % l.length) 0:=λk e=>by unfold AA;rw[Tm TK]
   unfold ox at hj⊢;rw[one _ TK,one _ TK]at hj⊢;have d:(s.length+(i -s.length) % l.length -s.length) % l.length=(i -s.length) % l.length:=by rw[Rb,Nat.mod_mod]
   have c:(s.length+(i -s.length) % l.length+1 -s.length) % l.length=(i+1 -s.length) % l.length:=by
    have:s.length+(i -s.length) % l.length+1 -s.length=(i -s.length) % l.length+1:=by omega
    rw[this];have:i+1 -s.length=(i -s.length)+1:=by omega
    rw[this,Nat.mod_add_mod]
   rw[d,c]at hj;exact hj
 .intro h i hi;rw[JI a (QA.1 hi)];exact h i
def As(lb:List Nat)(l:List Int):List Nat:=l.map λx=>lb.getD x.toNat 0
def uq{α:Type}(N:Nat)(full:Nat->List α)(x0:Nat)(part:List α):List (List α):=(range N).map λx=>if x<x0 then full x else if x=x0 then part else []
section
variable {α:Type}{N:Nat}{full:Nat->List α}{x0:Nat}{part:List α}
theorem uu:(uq N full x0 part).length=N:=by simp[uq]
theorem ux:uq N full 0 []=replicate N []:=by unfold uq;refine O3 TO λi h1 h2=>?_;simp
theorem ut(h:x0<N):(uq N full x0 part)[x0]'(by rw[uu];exact h)=part:=by simp[uq]
theorem uw{part':List α}(h:x0<N):(uq N full x0 part).set x0 part'=uq N full x0 part':=by
 refine O3 (by simp[uu]) λi h1 h2=>?_;rw[PP];by_cases e:x0=i
 .subst e;rw[Tn rfl,ut h]
 .rw[Tm e];simp only[uq,PK,PM];split
  .rfl
  .rw[Tm (RW e),Tm (RW e)]
theorem uv:uq N full x0 (full x0)=uq N full (x0+1) []:=by
 unfold uq;refine O3 TO λi h1 h2=>?_;simp only[PK,PM];by_cases h:i<x0
 .rw[Tn h,Tn TK]
 .rw[Tm h];by_cases e:i=x0
  .subst e;rw[Tn rfl,Tn TK]
  .rw[Tm e,Tm TK];split<;>rfl
theorem ur:uq N full N []=(range N).map full:=by unfold uq;refine O3 TO λi h1 h2=>?_;simp only[PK,PM];rw[Tn (by simpa using h1)]
end
def BM(n:Nat)(l:List Int):List Bool:=(range n).map λi:Nat=>decide ((i:Int)∈l)
def BO{n:Nat}{l:List Int}:(BM n l).length=n:=by simp[BM]
def BQ{n:Nat}:BM n []=replicate n false:=by refine O3 (by simp[BM]) λi h1 h2=>?_;simp[BM]
def BN{n:Nat}{l:List Int}{i:Nat}(h:i<n):(BM n l)[i]'(by rw[BO];exact h)=decide ((i:Int)∈l):=by simp[BM]
def BP{n:Nat}{l:List Int}{i k:Nat}(h:i<l.length)(a:l[i]=(k:Int)):(BM n (l.take i)).set k true=BM n (l.take (i+1)):=by
 refine O3 (by simp[BM]) λj h1 h2=>?_;rw[PP];have hj:j<n:=by rw[BO]at h2;exact h2
 rw[BN hj,BN hj,<-QZ h];by_cases e:k=j
 .subst e;rw[Tn rfl];simp[a]
 .rw[Tm e];have:((j:Int)∈l.take i++[l[i]])↔(j:Int)∈l.take i:=by rw[Ql,QC,a];exact⟨λh=>h.resolve_right TK,.inl⟩
  simp only[this]

abbrev cG:=List Int×List (List Int)×List Nat×List Nat×List (List Int)
abbrev iI(a1:Option Addr)(c1:Nat)(a2:Option Addr)(c2:Nat)(a3:Option Addr)(c3:Nat)(a4:Option Addr)(c4:Nat)(f:Option Addr)(e:Nat)(n1 d c b a:Nat):Value:=.agg [.slice a1 n1 c1,.slice a2 d c2,.slice a3 c c3,.slice a4 b c4,.slice f a e].toArray
structure AutoAt(w:World)(F:Nat->Prop)(v:Value)(A:cG):Prop where
 ok:∃a1 c1 a2 c2 a3 c3 a4 c4 a5 c5,v=iI a1 c1 a2 c2 a3 c3 a4 c4 a5 c5 A.1.length A.2.1.length A.2.2.1.length A.2.2.2.1.length A.2.2.2.2.length/\Sl w F a1 c1 A.1/\Sl w F a2 c2 A.2.1/\Sl w F a3 c3 A.2.2.1/\Sl w F a4 c4 A.2.2.2.1/\Sl w F a5 c5 A.2.2.2.2
def kg(A:cG):Int:=
 if A.2.1.length>2048\/A.2.2.2.2.length>80 then 2 else if A.2.2.1.length≠A.2.1.length\/A.2.2.2.1.length≠A.2.1.length\/De A.2.1.length A.1=true then 1
 else if A.2.1.any (De A.2.1.length)=true\/A.2.2.2.2.any (De A.2.1.length)=true then 1 else 0
structure OkA(A:cG):Prop where
 n:A.2.1.length<=2048
 f:A.2.2.2.2.length<=80
 mu:A.2.2.1.length=A.2.1.length
 no:A.2.2.2.1.length=A.2.1.length
 st:Dy A.2.1.length A.1
 nx:∀r∈A.2.1,Dy A.2.1.length r
 fr:∀r∈A.2.2.2.2,Dy A.2.1.length r
def any_odd{n:Nat}:g.any (De n)=false↔∀r∈g,Dy n r:=by rw[OD];refine forall_congr' λr=>forall_congr' λ_=>?_;rw[<-oddB_false,NY]
def kj{A:cG}(h:kg A=0):OkA A:=by
 unfold kg at h;split at h
 .cases h
 split at h
 .cases h
 split at h
 .cases h
 rename_i h1 h2 h3;rw[Tr]at h1 h2 h3;rw[Tr]at h2;exact⟨by omega,by omega,by omega,by omega,oddB_false.1 (by simpa using h2.2.2),any_odd.1 (by simpa using h3.1),any_odd.1 (by simpa using h3.2)⟩
def kh{A:cG}(h:OkA A):kg A=0:=by unfold kg;have a:=oddB_false.2 h.st;have b:=any_odd.2 h.nx;have c:=any_odd.2 h.fr;have d:=h.mu;have e:=h.no;rw[Tm (by have:=h.n;have:=h.f;omega),Tm (by rw[a];simp;omega),Tm (by rw[b,c];simp)]
def ia(n:Nat)(x:Int)(b:Nat)(w:World)(a:Blk w b 3 [Ub n]):
  Rt Vy 258 [Ub x,Uc b].toArray w λv w'=>v=.bool (decide (x<0\/x>=n))/\w=w':=by
 refine dS func258 ntmps258 rfl rfl (UR ?_);refine fF (s:=6) rfl (λh=>?_) (λh=>?_)
 .refine UK ?_;refine d6 ?_;simp at h;simp[h]
 .refine U2 ?_;refine d6 ?_;simp at h;simp[Ou.2 h]
def ib(w0:World){lo:Option Addr}{l:List Int}(n:Nat)(d:Sl w0 (dk w0) lo B l):
  Rt Vy 197 [.slice lo l.length B,Ub n].toArray w0 λv w'=>v=.bool (De n l)/\Ext w0 w':=by
 refine dS func197 ntmps197 rfl rfl (UZ ?_);refine eH λb e a=>?_;refine Um ?_;refine eK (l_ b (λx=>decide (x<0\/x>=n)) (d.up a) (λw c i h=>?_)) ?_
 .refine VE (VR (ia n _ _ w (e.ext c)) ?_);rintro v w' ⟨rfl,rfl⟩;exact⟨rfl,p7 _⟩
 .rintro v w' ⟨rfl,f⟩;refine Uf ?_;exact be ⟨rfl,a.trans f⟩
def gl(w:World){lo:Option Addr}{l:List Int}(n:Nat)(b:Nat)(d:Blk w b 3 [Ub n])(a:Sl w (dk w) lo B l):
  Rt Vy 198 [.slice lo l.length B,Uc b].toArray w λv w'=>v=.bool (De n l)/\Ext w w':=by
 refine dS func198 ntmps198 rfl rfl (Uy ?_);refine eK (ib w n a) ?_;rintro _ w' ⟨rfl,c⟩;refine Uf ?_;exact be ⟨rfl,c⟩
def gp(w:World){lo:Option Addr}{l:List Int}(n:Nat)(b:Nat)(d:Blk w b 3 [Ub n])(a:Sl w (dk w) lo B l):
  Rt Vy 199 [.slice lo l.length B,Uc b].toArray w λv w'=>v=.bool (De n l)/\Ext w w':=by
 refine dS func199 ntmps199 rfl rfl (Uy ?_);refine eK (ib w n a) ?_;rintro _ w' ⟨rfl,c⟩;refine Uf ?_;exact be ⟨rfl,c⟩
def gk(w0:World){t:Value}{A:cG}(N:AutoAt w0 (dk w0) t A):
  Rt Vy 121 [t].toArray w0 λv w'=>v=Ub (kg A)/\Ext w0 w':=by
 obtain⟨a1,c1,a2,c2,a3,c3,a4,c4,T,S,rfl,h1,h2,h3,h4,z⟩:=N.ok;obtain⟨st,nx,mu,no,fr⟩:=A;dsimp only at*
 have K:=h2.len63;have J:=h3.len63;have I:=h4.len63;have H:=z.len63;refine dR func121 ntmps121 rfl rfl ?_;have a:=p7 w0;refine UZ ?_;refine eH λQ c C=>?_
 have a:=a.trans C;have D:=C.size;have L:=c.lt;refine UE ?_;refine eC (λP d B=>?_);have c:=c.ext B;have a:=a.trans B;skip;refine f7 d (λs d j=>?_);have c:=c.kept j TR;have a:Ext w0 s:=a.grown j a.size (λg M=>by cases M;exact D);unfold kg;dsimp only;refine Uy ?_
 (refine a6 (λh=>?_) (λh=>?_))
 .refine Us ?_
  skip;refine d6 ⟨?_,a⟩;simp at h
  rw[Tn (.inl TK)]
 refine Uu ?_;refine ld rfl (λe=>?_) (λe=>?_)
 .refine Up ?_
  refine d6 ⟨?_,a⟩;simp at e
  rw[Tn (.inr TK)]
 simp at h e
 rw[Tm TK];clear h e;refine UM ?_
 (refine a6 (λh=>?_) (λh=>?_))
 .simp at h
  refine Us ?_;refine d6 ⟨?_,a⟩;rw[Tn (.inl TK)]
 simp at h
 have R:=h;clear h;refine Vf ?_
 (refine a6 (λh=>?_) (λh=>?_))
 .have k:=h
  simp at k
  refine Us ?_;refine d6 ⟨?_,a⟩;rw[Tn (.inr (.inl TK))]
 have k:=h;simp at k
 refine Vc ?_;refine eK (ib s nx.length (h1.up a)) ?_;rintro _ F ⟨rfl,r⟩
 have c:=c.ext r;have d:=d.ext r;have a:=a.trans r;refine Ug ?_;apply ld rfl<;>intro y
 .refine Up ?_
  refine d6 ⟨?_,a⟩;rw[Tn (.inr (.inr y))]
 rw[Tm (by rw[y];simp;omega)];refine U3 ?_;refine eK (ma F (De nx.length) (h2.up a) (λw f i hi u l=>?_)) ?_
 .obtain⟨lo,G,rfl,m⟩:=l.sl
  exact VE (VR (gl w nx.length _ (d.ext f) (m.lift λb n=>Rv n f.size)) λv w' h=>h)
 rintro _ E ⟨rfl,q⟩
 have c:=c.ext q;have d:=d.ext q;have a:=a.trans q;refine U9 ?_
 (refine a6 (λh=>?_) (λh=>?_))
 .have o:=h
  refine Us ?_;refine d6 ⟨?_,a⟩;rw[Tn (.inl o)]
 have o:=h;refine Vf ?_;refine eK (ma E (De nx.length) (z.up a) (λw f i hi u l=>?_)) ?_
 .obtain⟨lo,G,rfl,m⟩:=l.sl
  exact VE (VR (gp w nx.length _ (d.ext f) (m.lift λb n=>Rv n f.size)) λv w' h=>h)
 rintro _ O ⟨rfl,p⟩
 have c:=c.ext p;have d:=d.ext p;have a:=a.trans p;refine Ug ?_;apply ld rfl<;>intro x
 .refine Up ?_
  refine d6 ⟨?_,a⟩;rw[Tn (.inr x)]
 refine Uw ?_;refine d6 ⟨?_,a⟩;rw[Tm (by rw[o,x];simp)]
def tj{l:List Nat}{k:Nat}(h:k<l.length):l.getD k 0=l[k]:=by rw[Pl,Pq h];rfl
def bN(w0:World){a1 a4 p:Option Addr}{c1 c2 n1 o:Nat}{no:List Nat}(h3:Sl w0 (dk w0) D B s)(h4:Sl w0 (dk w0) a4 a no)(k x:Nat)(i:k<s.length)(c:k<no.length)(l:x<18446744073709551616):
  Rt Vy 259 [iI a1 c1 C c2 D B a4 a p K n1 E s.length no.length o,Ub (k:Int),.int .u64 (x:Int)].toArray w0 λv w'=>v=.bool (rI s no k x)/\Ext w0 w':=by
 refine dT func259 ntmps259 rfl rfl (UZ ?_);refine eH λr t d=>?_;have h3:=h3.up d;have h4:=h4.up d;refine U6 ?_;refine dz rfl rfl rfl rfl rfl T0 h3 i TV (λu q b=>?_);obtain⟨rfl,g⟩:=b.u64;refine Vi ?_;rw[S5 _ _ l g];refine dz rfl rfl rfl rfl rfl T0 h3 i TV (λu n b=>?_);obtain⟨rfl,_⟩:=b.u64;refine U_ ?_;unfold rI;rw[tj i,tj c];(refine dG rfl rfl (λh=>?_) (λh=>?_))
 .simp only[S3]at h;have h:x&&&s[k]=s[k]:=by exact_mod_cast h
  rw[Tc h,N9];refine Vi ?_;refine dz rfl rfl rfl rfl rfl T0 h4 c TV (λu n b=>?_);obtain⟨rfl,f⟩:=b.u64;refine U_ ?_;rw[S5 _ _ l f];refine VD (λm j=>UQ ?_);refine d6 ⟨?_,d.trans j⟩;congr 1;rw[NU,S3,Te]
  exact_mod_cast Og
 .have h:¬x&&&s[k]=s[k]:=by intro e;rw[e]at h;simp at h
  rw[Ta h,NV];refine Vb ?_;refine VD (λm j=>UQ ?_);exact be ⟨rfl,d.trans j⟩

section
variable {g:bV}{f num li todo:List Int}
end
def yR(w0:World){ao:Option Addr}{cap:Nat}{xs:List Bool}(x:Bool)(c:Sl w0 (dk w0) ao cap xs):
  Rt Vy 72 [.slice ao xs.length cap,.bool x].toArray w0 λv w'=>v=Ub (idxOf (λy=>x==y) xs)/\Ext w0 w':=by
 have f:=c.len63;refine dS func72 ntmps72 rfl rfl (Ut ?_);refine p8 (S:=Nat) (λk=>[(0,.slice ao xs.length cap),(1,.bool x),(7,Ub xs.length),(8,Ub k)])
  (λk w=>k<=xs.length/\Ext w0 w/\∀j (h:j<xs.length),j<k->(x==xs[j])=false) (λk=>xs.length -k) 0 TJ ⟨by omega,p7 _,by omega⟩ ?_
 rintro k w ⟨g,a,hn⟩;refine UR ?_;apply ld rfl<;>intro h
 .simp at h;refine Ux ?_;refine eY rfl rfl rfl rfl rfl (c.at a) h rfl TV (λq=>U2 ?_);refine ld rfl (λb=>?_) (λb=>?_)
  .refine Ud ?_;refine d6 ⟨?_,a⟩;rw[yl h hn b]
  .refine US ?_;refine m5 (k+1) TJ ⟨h,a,?_⟩ TK;intro j hj d;by_cases e:j=k
   .subst e;exact b
   .exact hn j hj TK
 .simp at h;refine UF ?_;refine d6 ⟨?_,a⟩;rw[yr (λj hj=>hn j hj TK)]
def me(w0:World){ao:Option Addr}{cap:Nat}{xs:List Bool}(x:Bool)(a:Sl w0 (dk w0) ao cap xs):
  Rt Vy 141 [.slice ao xs.length cap,.bool x].toArray w0 λv w'=>v=.bool (xs.contains x)/\Ext w0 w':=by
 refine dS func141 ntmps141 rfl rfl (UR ?_);refine eK (yR w0 x a) ?_;rintro v w' ⟨rfl,b⟩;refine Uf ?_;refine d6 ⟨?_,b⟩;rw[<-List.any_beq,<-yj]


def s7{j:Nat}(h:j<l.length):l.getD j false=l[j]:=by rw[Pl,Pq h];rfl
section
variable {P:Program}{Q:Exit->Act->World->Prop}{n:Nat}{σ:Sg}{wc:World}{L:List Oper}{S:World->Prop}{rest:List (Nat×Bool)}{i j d d':Nat}{ty:TypeId}{pos:String}{af:Array Edge}{g:Option (Nat×Bool)}{ty':TypeId}{pos':String}{af':Array Edge}{g':Option (Nat×Bool)}{t e:TypeId}{x ix:Operand}
variable {α:Type}[Rep α]{F:Nat->Prop}
end



section
variable {P:Program}{Q:Exit->Act->World->Prop}{n:Nat}{σ:Sg}{w:World}{L rest:List Oper}{d:Nat}{ty:TypeId}{pos:String}{af:Array Edge}{g:Option (Nat×Bool)}
variable {α:Type}[Rep α]{e t:TypeId}{x0:α}{bytes:Nat}
end

def Dr{A:cG}(h:OkA A):dq A:=⟨λx a=>(h.st x a).1,λk x a=>(Dx h.nx k x a).1⟩
def M0(n:Nat)(x:Int)(b:Nat)(w:World)(a:Blk w b 3 [Ub n]):
  Rt Vy 188 [Ub x,Uc b].toArray w λv w'=>v=.bool (decide (x<0\/x>=n))/\w=w':=by
 refine dS func188 ntmps188 rfl rfl (UR ?_);refine fF (s:=6) rfl (λh=>?_) (λh=>?_)
 .refine UK ?_;refine d6 ?_;simp at h;simp[h]
 .refine U2 ?_;refine d6 ?_;simp at h;simp[Ou.2 h]
def M1(w0:World){lo:Option Addr}{l:List Int}(n:Nat)(d:Sl w0 (dk w0) lo B l):
  Rt Vy 109 [.slice lo l.length B,Ub n].toArray w0 λv w'=>v=.bool (De n l)/\Ext w0 w':=by
 refine dS func109 ntmps109 rfl rfl (UZ ?_);refine eH λb e a=>?_;refine Um ?_;refine eK (l_ b (λx=>decide (x<0\/x>=n)) (d.up a) (λw c i h=>?_)) ?_
 .refine VE (VR (M0 n _ _ w (e.ext c)) ?_);rintro v w' ⟨rfl,rfl⟩;exact⟨rfl,p7 _⟩
 .rintro v w' ⟨rfl,f⟩;refine Uf ?_;exact be ⟨rfl,a.trans f⟩
abbrev M5(a1:Option Addr)(c1:Nat)(a2:Option Addr)(c2:Nat)(a3:Option Addr)(c3:Nat)(a4:Option Addr)(c4:Nat)(n1 c b a:Nat):Value:=.agg [.slice a1 n1 c1,.slice a2 c c2,.slice a3 b c3,.slice a4 a c4].toArray
def MH(w:World){lo:Option Addr}{l:List Int}(n:Nat)(b:Nat)(d:Blk w b 3 [Ub n])(a:Sl w (dk w) lo B l):
  Rt Vy 111 [.slice lo l.length B,Uc b].toArray w λv w'=>v=.bool (De n l)/\Ext w w':=by
 refine dS func111 ntmps111 rfl rfl (Uy ?_);refine eK (M1 w n a) ?_;rintro _ w' ⟨rfl,c⟩;refine Uf ?_;exact be ⟨rfl,c⟩
def Ml(w0:World){a1 a4:Option Addr}{c1 c2 k:Nat}{st:List Int}{nx fr:List (List Int)}(h1:Sl w0 (dk w0) a1 c1 st)(h2:Sl w0 (dk w0) C c2 nx)(hk:k<=9223372036854775807)(h4:Sl w0 (dk w0) a4 a fr):
  Rt Vy 60 [M5 a1 c1 C c2 D B a4 a st.length nx.length k fr.length].toArray w0 λv w'=>v=Ub (k_ st nx k fr)/\Ext w0 w':=by
 have Z:=h2.len63;have Y:=h4.len63;refine dR func60 ntmps60 rfl rfl (UZ ?_);refine eH λW o m=>?_;refine UE ?_;refine eC (λw2 hn f=>?_);have y:=o.ext f;refine f7 hn (λQ s n=>?_);have x:=y.kept n (by simp;have:=o.lt;omega);have d:Ext w0 Q:=(m.trans f).grown n (Rr m.size f.size) (λg hg=>by cases hg;exact m.size);clear o hn m f y n;refine Uy ?_;(refine a6 (λh=>?_) (λh=>?_))
 .refine Us ?_;refine d6 ⟨?_,d⟩;have h:nx.length>600:=by simp at h;omega
  unfold k_;rw[Tn (.inl h)]
 have h:nx.length<=600:=by simp at h;omega
 refine Uu ?_;apply ld rfl<;>intro F
 .refine Up ?_;refine d6 ⟨?_,d⟩;have F:fr.length>80:=by simp at F;omega
  unfold k_;rw[Tn (.inr F)]
 have F:fr.length<=80:=by simp at F;omega
 unfold k_;rw[Tm TK];refine UM ?_;(refine a6 (λh=>?_) (λh=>?_))
 .refine Us ?_;refine d6 ⟨?_,d⟩;have O:k≠nx.length:=by
   have:¬(k:Int)=(nx.length:Int):=by simp at h;omega
   omega
  rw[Tn (.inl O)]
 have O:k=nx.length:=by
  have:(k:Int)=(nx.length:Int):=by simp at h;omega
  omega
 subst O;refine Vc ?_;refine eK (M1 Q nx.length (h1.up d)) ?_;rintro _ V ⟨rfl,I⟩;have M:=x.ext I;have L:=s.ext I;have E:=d.trans I;refine Ug ?_;apply ld rfl<;>intro T
 .refine Up ?_;refine d6 ⟨?_,E⟩;rw[Tn (.inr T)]
 rw[Tm (by rw[T];simp)];clear x s d I;refine UM ?_;refine p8 (S:=Nat) (λi=>[(1,Uc w0.heap.size),(3,Uc W.heap.size),(29,.slice C nx.length c2),(30,Ub nx.length),(31,Ub i)])
  (λi w=>i<=nx.length/\Ext V w/\∀j (h:j<nx.length),j<i->kQ nx.length nx[j]=false) (λi=>nx.length -i) 0 TJ ⟨by omega,p7 _,by omega⟩ ?_
 rintro i P ⟨hi,H,r⟩;have hb5:=M.ext H;have K:=L.ext H;have c:=E.trans H;refine UR ?_;apply ld rfl<;>intro p
 .simp at p;refine UC ?_;refine fe (h2.at c) p TV (λu q J=>?_);obtain⟨lo,X,rfl,t⟩:=J.sl;refine Ut ?_;(refine a6 (λh=>?_) (λh=>?_))
  .refine U0 ?_;refine d6 ⟨?_,c⟩;have N:nx[i].length=0:=by simp at h;simp[h]
   rw[Tn (OE.2 ⟨nx[i],PL p,by unfold kQ;simp only[N6,Td];exact .inl N⟩)]
  have N:nx[i].length≠0:=by simp at h;simpa using h
  refine Vc ?_;refine eK (M1 P nx.length (t.lift λb o=>Rv o c.size)) ?_;rintro _ U ⟨rfl,G⟩;refine Ug ?_;apply ld rfl<;>intro A
  .refine Ud ?_;refine d6 ⟨?_,c.trans G⟩;rw[Tn (OE.2 ⟨nx[i],PL p,by unfold kQ;rw[A,N8]⟩)]
  .refine US ?_;refine m5 (i+1) TJ ⟨p,H.trans G,λj hj hlt=>?_⟩ TK;by_cases e:j=i
   .subst e;unfold kQ;rw[A,Ta N];rfl
   .exact r j hj TK
 simp at p;have z:nx.any (kQ nx.length)=false:=by rw[OD];intro l t;obtain⟨j,hj,rfl⟩:=Qu.1 t;simp[r j hj TK]
 rw[Tm (by rw[z];simp)];refine U1 ?_;refine eK (ma P (De nx.length) (h4.up c) (λw R i hi u J=>?_)) ?_
 .obtain⟨lo,X,rfl,t⟩:=J.sl;exact VE (VR (MH w nx.length _ (K.ext R) (t.lift λb o=>Rv o R.size)) λv w' h=>h)
 rintro _ U ⟨rfl,G⟩;refine UG ?_;apply ld rfl<;>intro A
 .refine Up ?_;refine d6 ⟨?_,c.trans G⟩;rw[Tn A]
 .refine Uw ?_;refine d6 ⟨?_,c.trans G⟩;rw[Tm (by rw[A];simp)]
abbrev EG(so:Option Addr)(sc:Nat)(lo:Option Addr)(a:Nat)(s l:List Int):Value:=.agg [.slice so s.length sc,.slice lo l.length a].toArray
abbrev cR:=List Int×List (List Int)×List Nat×List (List Int)
def rK(W:cR)(A:cH)(p:dt):Bool:=rI A.2.2.1 A.2.2.2.1 p.2.toNat (W.2.2.1.getD p.1.toNat 0)
def Cl(W:cR)(A:cH)(p:dt):List dt:=En (W.2.1.getD p.1.toNat []) (A.2.1.getD p.2.toNat [])
def JB(W:cR)(A:cH):List dt:=En W.1 A.1
def Ju(W:cR)(A:cH):List (dt->Bool):=W.2.2.2.map (λF p=>decide (p.1∈F))++A.2.2.2.2.map (λF p=>decide (p.2∈F))
def aQ(W:cR)(A:cH):Prop:=∃r,PWay (rK W A) (Cl W A) (JB W A) (Ju W A) r
structure WWay(W:cR)(r:Nat->Nat):Prop where
 first:(r 0:Int)∈W.1
 step:∀i,(r (i+1):Int)∈W.2.1.getD (r i) []
 fair:∀F∈W.2.2.2,∀i,∃j,i<=j/\(r j:Int)∈F
def dr(W:cR):Prop:=(∀x∈W.1,0<=x)/\∀k,∀x∈W.2.1.getD k [],0<=x
abbrev kB(W:cR):Int:=k_ W.1 W.2.1 W.2.2.1.length W.2.2.2
section
variable {W:cR}{A:cH}{s l:List Int}
theorem Dz{n k:Nat}{g:List (List Int)}(h:∀r∈g,Dy n r):Dy n (g.getD k []):=by
 by_cases e:k<g.length
 .rw[Pl,Pq e];exact h _ (PL e)
 .rw[Pl,Pr TK];exact λx a=>by cases a
theorem kC(h:kB W=0):dr W:=by obtain⟨_,_,_,h1,h2,_⟩:=lh h;exact⟨λx a=>(h1 x a).1,λk x a=>(Dz (λr b=>(h2 r b).2) x a).1⟩
theorem Ds(h:OkA A):dq A:=Dr h
theorem pS(f:dr W)(k:dq A){r:Nat->dt}(h:PWay (rK W A) (Cl W A) (JB W A) (Ju W A) r):
  WWay W (λi=>(r i).1.toNat)/\aa A (λi=>W.2.2.1.getD (r i).1.toNat 0):=by
 have b:=pairsX_mem.1 h.first;have a:∀i,(r (i+1)).1∈W.2.1.getD (r i).1.toNat []/\(r (i+1)).2∈A.2.1.getD (r i).2.toNat []:=λi=>pairsX_mem.1 (h.step i);have e:∀i,0<=(r i).1/\0<=(r i).2:=λi=>by
  cases i with
  |zero=>exact⟨f.1 _ b.1,k.1 _ b.2⟩
  |succ i=>exact⟨f.2 _ _ (a i).1,k.2 _ _ (a i).2⟩
 have d:∀i,(((r i).1.toNat:Nat):Int)=(r i).1:=λi=>Oz (e i).1;have c:∀i,(((r i).2.toNat:Nat):Int)=(r i).2:=λi=>Oz (e i).2;refine⟨⟨by rw[d];exact b.1,λi=>by rw[d];exact(a i).1,λF hF i=>?_⟩,λi=>(r i).2.toNat,⟨by rw[c];exact b.2,λi=>h.fits i,λi=>by rw[c];exact(a i).2,λF hF i=>?_⟩⟩
 .obtain⟨j,h1,h2⟩:=h.fair _ (Qm _ (Qv.2 ⟨F,hF,rfl⟩)) i;exact⟨j,h1,by rw[d];exact Tu h2⟩
 .obtain⟨j,h1,h2⟩:=h.fair _ (Qn _ (Qv.2 ⟨F,hF,rfl⟩)) i;exact⟨j,h1,by rw[c];exact Tu h2⟩
theorem pQ{ρ:Nat->Nat}(a:WWay W ρ)(b:aa A (λi=>W.2.2.1.getD (ρ i) 0)):aQ W A:=by
 obtain⟨q,hq⟩:=b;refine⟨λi=>((ρ i:Int),(q i:Int)),pairsX_mem.2 ⟨a.first,hq.first⟩,λi=>?_,λi=>pairsX_mem.2 ⟨?_,?_⟩,λS hS i=>?_⟩
 .exact hq.fits i
 .exact a.step i
 .exact hq.step i
 .obtain h|h:=Ql.1 hS
  .obtain⟨F,hF,rfl⟩:=Qv.1 h;obtain⟨j,h1,h2⟩:=a.fair F hF i;exact⟨j,h1,Tc h2⟩
  .obtain⟨F,hF,rfl⟩:=Qv.1 h;obtain⟨j,h1,h2⟩:=hq.fair F hF i;exact⟨j,h1,Tc h2⟩
theorem AC{f:Nat->Nat}{s l:List Nat}(b:0<l.length)(i:Nat):AA (s.map f) (l.map f) i=f (AA s l i):=by
 unfold AA;rw[P4,P4];by_cases h:i<s.length
 .rw[Tn h,Tn h,Pl,Pu,Pq h,Pl,Pq h];rfl
 .have a:=RA (i -s.length) b;rw[Tm h,Tm h,Pl,Pu,Pq a,Pl,Pq a];rfl
theorem At{n:Nat}{lb:List Nat}{l:List Int}(h:Dy n l):As lb l=(l.map Int.toNat).map λx=>lb.getD x 0:=by unfold As;rw[Qh];rfl
theorem AB{s l:List Nat}{k:Nat}(a:k<l.length)(i:Nat):∃j,i<=j/\AA s l j=l.getD k 0:=by
 refine⟨s.length+(k+i*l.length),?_,?_⟩
 .have:i*1<=i*l.length:=RC i TK;omega
 .unfold AA;rw[Tm TK,Rb,Q_,Rz a]
structure PathE(W:cR)(A:cH)(s l:List Int):Prop where
 so:Dy W.2.1.length s
 lo:Dy W.2.1.length l
 l0:0<l.length
 good:uf W.1 W.2.1 W.2.2.2 (s++l) l=true
 acc:aa A (AA (As W.2.2.1 s) (As W.2.2.1 l))
 sz:s.length<=1099511627776/\l.length<=1099511627776
end
def Jw(ps:List dt)(l:List Int):List Int:=l.map λn=>(ps.getD n.toNat (0,0)).1
section
variable {W:cR}{A:cH}{ps:List dt}{fr:List Int}{g:List (List Int)}{part:List Int}
theorem EH(h:RunE (rK W A) (Cl W A) (JB W A) ps fr g)(V:g.length=ps.length)(Q:∀p∈ps,(0<=p.1/\p.1<(W.2.1.length:Int))/\0<=p.2/\p.2<(A.2.1.length:Int))(Y:dr W)(Z:dq A)
  {st lo:List Int} {to al:Nat->Bool} (H:WyOK g fr to al st) (b:RoOK g (st.getD (st.length -1) 0).toNat (IC (Ju W A) ps) lo) (N:st.length -1<=1099511627776) (O:lo.length<=1099511627776):PathE W A (Jw ps (st.take (st.length -1))) (Jw ps lo):=by
 have U:=H.ne;have y:=b.ne;have hg:=h.okG V;have oks:Dy g.length (st.take (st.length -1)):=λx r=>H.rg x (Qz r);have G:∀{l:List Int},Dy g.length l->Dy W.2.1.length (Jw ps l):=λ {l} J x r=>by obtain⟨n,hn,rfl⟩:=Qv.1 r;have:=J n hn;exact(Q _ (tr TK)).1
 have d:(st.take (st.length -1)).length=st.length -1:=by rw[Qb];omega
 have B:∀i,i<st.length -1->(st.take (st.length -1)).getD i 0=st.getD i 0:=λi hi=>by rw[Pl,PA hi,<-Pl]
 have z:0<=st.getD (st.length -1) 0:=by rw[Pl,Pq TK];exact(H.rg _ (PL TK)).1
 have w:lo.getD 0 0=st.getD (st.length -1) 0:=by rw[b.st];omega
 generalize hq:st.take (st.length -1)=sq at*;have I:0<(lo.map Int.toNat).length:=by rw[P4];exact y
 have L:∀i,i+1<(sq++lo).length->(sq++lo).getD (i+1) 0∈g.getD ((sq++lo).getD i 0).toNat []:=λi hi=>by
  rw[PX,d]at hi;by_cases e:i<st.length -1
  .rw[tK (i:=i) TK,B i e];have C:=(H.ed i TK).1;by_cases T:i+1<st.length -1
   .rw[tK TK,B _ T];exact C
   .rw[tL TK,d,show i+1 -(st.length -1)=0 by omega,w,show st.length -1=i+1 by omega];exact C
  .rw[tL (i:=i) TK,tL (i:=i+1) TK,d,show i+1 -(st.length -1)=(i -(st.length -1))+1 by omega];exact b.ed _ TK
 have K:lo.getD 0 0∈g.getD ((sq++lo).getD ((sq++lo).length -1) 0).toNat []:=by rw[PX,tL TK,show sq.length+lo.length -1 -sq.length=lo.length -1 by omega,w];have:=b.cl;rwa[Oz z]at this
 have o:∀i,ox g (sq.map Int.toNat) (lo.map Int.toNat) i=true:=by
  rw[<-oE I,Qe,ze oks,ze b.rg,OA];intro i hi;rw[QA]at hi;unfold JH KM;rw[OM];split
  .exact L i (by assumption)
  .obtain rfl:i=(sq++lo).length -1:=by omega
   exact K
 have m:∀i,AA (sq.map Int.toNat) (lo.map Int.toNat) i<ps.length:=λi=>by have h1:=o i;unfold ox at h1;rw[OM]at h1;have:=Eg.lt1 (g:=g) (u:=AA (sq.map Int.toNat) (lo.map Int.toNat) i) h1;omega
 have t:(sq++lo).getD 0 0=st.getD 0 0:=by
  by_cases e:0<st.length -1
  .rw[tK TK,B 0 e]
  .rw[tL TK,d,show 0 -(st.length -1)=0 by omega,w,show st.length -1=0 by omega]
 have X:((AA (sq.map Int.toNat) (lo.map Int.toNat) 0:Nat):Int)=st.getD 0 0:=by have:=gK (s:=sq.map Int.toNat) (l:=lo.map Int.toNat) (i:=0) (by rw[PX];omega);rw[Qe,ze oks,ze b.rg,t]at this;exact this.symm
 have E:PWay (rK W A) (Cl W A) (JB W A) (Ju W A) (λi=>ps.getD (AA (sq.map Int.toNat) (lo.map Int.toNat) i) (0,0)):=by
  refine⟨?_,λi=>h.ok _ (tr (m i)),λi=>?_,λS hS i=>?_⟩
  .obtain⟨p,h1,h2,h3⟩:=(h.sn _).1 (show st.getD 0 0∈fr from H.st);have h4:=yk (h.sm p h1 h2);rw[show AA (sq.map Int.toNat) (lo.map Int.toNat) 0=ps.idxOf p by omega,h4.2];exact h1
  .have C:((AA (sq.map Int.toNat) (lo.map Int.toNat) (i+1):Nat):Int)∈g.getD (AA (sq.map Int.toNat) (lo.map Int.toNat) i) []:=by simpa[ox]using o i
   obtain⟨q,h1,h2,h3⟩:=(h.nn _ (by have:=m i;omega) _).1 C;have h4:=yk (h.nm _ (by have:=m i;omega) q h1 h2);rw[show AA (sq.map Int.toNat) (lo.map Int.toNat) (i+1)=ps.idxOf q by omega,h4.2];exact h1
  .obtain⟨x,r,c⟩:=b.all (ps.map S) (Qv.2 ⟨S,hS,rfl⟩);have P:=b.rg x r;rw[ID TK]at c;obtain⟨k,J,rfl⟩:=Qu.1 r;obtain⟨j,hj,C⟩:=AB (s:=sq.map Int.toNat) (l:=lo.map Int.toNat) (k:=k) (by rw[P4];exact J) i;refine⟨j,hj,?_⟩;have R:(lo.map Int.toNat).getD k 0=lo[k].toNat:=by rw[Pl,Pu,Pq J];rfl
   rw[C,R];exact c
 obtain⟨D,M⟩:=pS Y Z E;have okss:=G oks;have okll:=G b.rg;have f:∀{l:List Int},Dy g.length l->(Jw ps l).map Int.toNat=(l.map Int.toNat).map λn=>(ps.getD n (0,0)).1.toNat:=λ {l} J=>by unfold Jw;rw[Qh,Qh];rfl
 have a:∀i,AA ((Jw ps sq).map Int.toNat) ((Jw ps lo).map Int.toNat) i=(ps.getD (AA (sq.map Int.toNat) (lo.map Int.toNat) i) (0,0)).1.toNat:=λi=>by rw[f oks,f b.rg,AC I]
 have v:0<((Jw ps lo).map Int.toNat).length:=by unfold Jw;rw[P4,P4];exact y
 refine⟨okss,okll,by unfold Jw;rw[P4];exact y,?_,?_,by unfold Jw;rw[P4,P4,d];exact⟨N,O⟩⟩
 .unfold uf;rw[NS,NS];refine⟨⟨?_,?_⟩,?_⟩
  .have h1:=D.first;rw[<-a]at h1;rw[<-ze okss,<-ze okll,<-Qe,gK (by rw[PX];omega)];simpa using h1
  .rw[<-ze okss,<-ze okll,<-Qe,oE v];intro i;have h1:=D.step i;rw[<-a,<-a]at h1;simpa[ox]using h1
  .rw[OA];intro F hF;rw[OE];obtain⟨x,r,c⟩:=b.all (ps.map λp=>decide (p.1∈F)) (Qv.2 ⟨_,Qm _ (Qv.2 ⟨F,hF,rfl⟩),rfl⟩);have P:=b.rg x r;rw[ID TK]at c;exact⟨_,Tu c,by rw[OM];exact Qv.2 ⟨x,r,rfl⟩⟩
 .have e1:=At (lb:=W.2.2.1) okss;have T:=At (lb:=W.2.2.1) okll;rw[e1,T];exact(Acc.congr λi=>(by rw[AC v,a]:W.2.2.1.getD (ps.getD (AA (sq.map Int.toNat) (lo.map Int.toNat) i) (0,0)).1.toNat 0=_)).1 M
end
end Go.Proofs.YtfpjecjadlgdcaaGreatDoor
