import Derived.Test.YtfpjecjadlgdcaaGreatDoorPtTopOrder7
set_option linter.unusedVariables false
set_option linter.unusedSimpArgs false
set_option linter.defProp false
namespace Go.Proofs.YtfpjecjadlgdcaaGreatDoor
set_option maxHeartbeats 4000000
variable{P:Program}{α:Type}{B a:Nat}{C D:Option Addr}{m:List Int}{F:Nat→Prop}{w:World}{v:Value}{g:List (List Int)}{x:Int}{l:List Bool}{r:List Value}{t:TypeId}{p:Nat→Nat}{e:Nat→Nat→Prop}{y:Array Bool}{b:Value→(Nat→Nat)→World→Prop}{j:Array Edge}{z:Func}{u:Array Value}
open Go.RowKit
open _root_.Go.Proofs.Tryz
open List(range)
open List(replicate)
open Nat(ble)
open Nat(beq)
open Region(ready)
def oW(m:List Int):Bool:=!m.any λn=>decide (n>0)
def oU(w:World)(n:Int):Rt Vy 67 [Ub n].toArray w λv w'=>v=.bool (decide (n>0))/\Ext w w':=by refine dR func67 ntmps67 rfl rfl (Up ?_);exact be ⟨rfl,p7 _⟩
def oY(w:World){mo:Option Addr}{mc:Nat}(b:Sl w (dk w) mo mc m):Rt Vy 29 [.slice mo m.length mc].toArray w λv w'=>v=.bool (oW m)/\Ext w w':=by refine dR func29 ntmps29 rfl rfl (UR ?_);refine eK (l_ w (λn=>decide (n>0)) b (λa d k e=>VE (cs:=[]) (oU a _))) ?_;rintro _ a ⟨rfl,c⟩;refine Uf ?_;exact be ⟨rfl,c⟩
def gS(l:List cI)(t:Int):List Int:=match l.find? (λx=>x.2==t)with
 |some x=>[x.1]
 |none=>[]
def gP(nl:List (List cI))(ms:List Int)(k:Nat):List Int:=(range k).flatMap λi=>gS (nl.getD (ms.getD i 0).toNat []) (ms.getD (i+1) 0)
def gO(nl:List (List cI))(ms:List Int):List Int:=gP nl ms (ms.length -1)
def gR{nl:List (List cI)}{ms:List Int}{k:Nat}:gP nl ms (k+1)=gP nl ms k++gS (nl.getD (ms.getD k 0).toNat []) (ms.getD (k+1) 0):=by unfold gP;rw[QQ,Pd];simp
def gT{l:List cI}{t:Int}:(gS l t).length<=1:=by unfold gS;split<;>simp
def gQ{nl:List (List cI)}{ms:List Int}:∀k,(gP nl ms k).length<=k
 |0=>by simp[gP]
 |k+1=>by have:=gQ (nl:=nl) (ms:=ms) k;have:=gT (l:=nl.getD (ms.getD k 0).toNat []) (t:=ms.getD (k+1) 0);rw[gR,PX];omega
def rm{l:List cI}{t:Int}{j:Nat}(hj:j<l.length)(hn:∀i (h:i<l.length),i<j->l[i].2≠t)(a:l[j].2=t):gS l t=[l[j].1]:=by
 have:l.find? (λx=>x.2==t)=some l[j]:=by rw[List.find?_eq_some_iff_getElem];exact⟨by simpa using a,j,hj,rfl,λi hi=>by simpa using hn i TK hi⟩
 unfold gS;rw[this]
def rn{l:List cI}{t:Int}(hn:∀i (h:i<l.length),l[i].2≠t):gS l t=[]:=by
 have:l.find? (λx=>x.2==t)=none:=by rw[List.find?_eq_none];intro x a;obtain⟨i,hi,rfl⟩:=Qu.1 a;simpa using hn i hi
 unfold gS;rw[this]
def s_{nl:List (List cI)}{n:Nat}(h:n<nl.length):nl.getD n []=nl[n]:=by rw[Pl,Pq h];rfl
def H1(w0:World){mo no lo:Option Addr}{mc nc ml I:Nat}{nl:List (List cI)}{ms:List Int}(hn:Sl w0 (dk w0) no nc nl)(hm:Sl w0 (dk w0) lo I ms)(P:Dy nl.length ms)(hml:ms.length<=1000):
  Rt Vy 74 [Jf mo mc no nc ml nl.length,.slice lo ms.length I].toArray w0 λv w'=>Own w' w0.heap.size 3 dh v (gO nl ms)/\Ext w0 w':=by
 refine dS func74 ntmps74 rfl rfl ?_;unfold Jf;refine UZ ?_;refine eH λw1 t Z=>?_
 have N:=Z.size;have hl2:=t.lt;refine Ux ?_;refine p8 (S:=Nat×Value) (λs=>[(1,.slice lo ms.length I),(2,Uc w0.heap.size),(5,s.2),(6,Ub ((s.1:Int)+1))])
  (λs w=>(s.1+1<=ms.length\/s.1=0)/\Own w w1.heap.size 3 dh s.2 (gP nl ms s.1)/\Ext w1 w) (λs=>ms.length -s.1) (0,.slice none 0 0) TJ ⟨.inr rfl,by simp[gP];exact r3,p7 _⟩ ?_
 rintro⟨i,ov⟩ w2 ⟨hi,c,M⟩
 dsimp only at hi c M⊢
 have t:=t.ext M;have A:=Z.trans M;have hpl:=gQ (nl:=nl) (ms:=ms) i;refine Ut ?_;apply ld rfl<;>intro h
 .have C:i+1<ms.length:=by simp at h;omega
  have o:i<ms.length:=by omega
  have ha:=P _ (PL o);obtain⟨a,ea⟩:=Om ha.1;have E:a<nl.length:=by omega
  have U:ms.getD i 0=(a:Int):=by rw[Pl,Pq o];exact ea
  have T:ms.getD (i+1) 0=ms[i+1]:=by rw[Pl,Pq C];rfl
  have d:=gR (nl:=nl) (ms:=ms) (k:=i);rw[U,T,Oy,s_ E]at d
  refine U8 ?_;rw[show(i:Int)+1 -1=(i:Int) by omega];refine dy (i:=i) rfl rfl rfl rfl rfl T0 (hm.up A) o ea TV (λq=>?_);skip;refine dz (i:=a) rfl rfl rfl rfl rfl T0 (hn.up A) E TV (λu q' J=>?_);obtain⟨ro,rc,rfl,b⟩:=J.sl;refine Vd ?_;refine VD (λw3 Y=>?_);have b:=b.up Y;have c:=c.extN Y;have H:=M.trans Y;have hrl:=b.len63;refine UC ?_;refine p8 (S:=Nat) (λj=>[(1,.slice lo ms.length I),(2,Uc w0.heap.size),(5,ov),(6,Ub ((i:Int)+1)),(23,.slice ro nl[a].length rc),(24,Ub nl[a].length),(25,Ub j)])
   (λj w=>j<=nl[a].length/\(∀k (h:k<nl[a].length),k<j->nl[a][k].2≠ms[i+1])/\Ext w3 w) (λj=>nl[a].length -j) 0 TJ ⟨RU _,λk _ h=>by omega,p7 _⟩ ?_
  rintro j w4 ⟨hj,m,L⟩
  have W:=H.trans L;refine UR ?_;apply ld rfl<;>intro h
  .have n:j<nl[a].length:=by simp at h;omega
   have r:=rm n m;refine UC ?_;refine fd (i:=j) rfl rfl rfl rfl rfl (b.up L) n TV (λu q J=>?_);rw[Gj J];clear J;have O:∀k (h:k<nl[a].length),k<j+1->(nl[a][j].2≠ms[i+1])->nl[a][k].2≠ms[i+1]:=λk h h1 h2=>by
    by_cases e:k=j
    .subst e;exact h2
    .exact m k h TK
   generalize nl[a][j]=x at*
   skip;refine eC (λw5 l X=>?_);skip;refine f7 l (λw6 l D=>?_);have e6:Ext w4 w6:=X.grown D X.size TX;have B:=L.trans e6;have c:=c.extN B;have G:=H.trans B;clear X D;refine U6 ?_;refine dy (i:=i+1) (y:=ms[i+1]) rfl rfl rfl rfl rfl T0 (hm.up (Z.trans G)) C rfl TV (λq=>?_);refine U_ ?_;refine VD (λw7 K=>?_);have l:=l.ext K;have c:=c.extN K;have z:=G.trans K;refine UQ ?_;by_cases f:x.2=ms[i+1]
   .rw[show(x.2==ms[i+1])=true by simpa using f]
    refine UN ?_;refine eF (α:=Int) (F:=dh) (bytes:=8) rfl rfl TV rfl rfl TV c T7 z.size TY TN TQ TK (λov' w8 p ho8 R hnb8=>?_);rw[<-r f,<-d]at ho8
    have V:=z.grown R z.size (λg hg=>(c.lt g hg).1);refine UL ?_;exact m5 (i+1,ov') TJ ⟨.inl TP,ho8,V⟩ TP
   .rw[show(x.2==ms[i+1])=false by simpa using f]
    refine US ?_;exact m5 (j+1) TJ ⟨n,λk h h1=>O k h h1 f,(B.trans K)⟩ TK
  .obtain rfl:j=nl[a].length:=by simp at h;omega
   rw[rn (λk h=>m k h h),OH]at d
   refine Uj ?_;exact m5 (i+1,ov) TJ ⟨.inl TP,by dsimp only;rw[d];exact c.extN L,W⟩ TP
 .have Q:i=ms.length -1:=by simp at h;omega
  refine UF ?_;refine d6 ⟨?_,A⟩;unfold gO;rw[<-Q];exact c.low N
def CH(sl:List cO)(x:cI):Int:=(sl.getD x.1.toNat (0,0,0)).1
def nK(sl:List cO)(nl:List (List cI)):List Int:=nl.flatMap λr=>r.map (CH sl)
def ny(p:cM)(nl:List (List cI))(k:Nat):List Int:=((range k).filter λn:Nat=>!decide ((n:Int)∈nK (JU p) nl)&&(Aj p n != 1)).map λn:Nat=>(n:Int)
def nw(p:cM)(nl:List (List cI)):List Int:=ny p nl p.1.length
def nA{p:cM}{nl:List (List cI)}{k:Nat}:ny p nl (k+1)=ny p nl k++if(!decide ((k:Int)∈nK (JU p) nl)&&(Aj p k != 1))=true then [(k:Int)]else []:=by
 unfold ny;rw[QQ,O5,Qe];congr 1;by_cases h:(!decide ((k:Int)∈nK (JU p) nl)&&(Aj p k != 1))=true
 .rw[Tn h,O9 (p:=λn:Nat=>!decide ((n:Int)∈nK (JU p) nl)&&(Aj p n != 1)) h];rfl
 .rw[Tm h,O8 (p:=λn:Nat=>!decide ((n:Int)∈nK (JU p) nl)&&(Aj p n != 1)) h];rfl
def nz{p:cM}{nl:List (List cI)}{k:Nat}:(ny p nl k).length<=k:=by unfold ny;rw[P4];exact Rr (P3 _ _) (by rw[P7];exact Rq _)
def BR{n:Nat}{l:List Int}(a:0<=x):(BM n l).set x.toNat true=BM n (l++[x]):=by have:=BP (n:=n) (l:=l++[x]) (i:=l.length) (k:=x.toNat) TO TR;rwa[show(l++[x]).take l.length=l by simp,show(l++[x]).take (l.length+1)=l++[x] from Q1 TO]at this
def nL{sl:List cO}{nl:List (List cI)}{n:Nat}(h:n<nl.length):nK sl (nl.take (n+1))=nK sl (nl.take n)++nl[n].map (CH sl):=by unfold nK;rw[<-QZ h,Pd];simp
def G6{sl:List cO}{r:List cI}{j:Nat}(h:j<r.length):(r.take (j+1)).map (CH sl)=(r.take j).map (CH sl)++[CH sl r[j]]:=by rw[<-QZ h,Qe];rfl
def Sl.stepK{ao:Option Addr}{cap:Nat}{xs:List cO}(h:Sl w F ao cap xs){i:Nat}(hi:i<xs.length):∃b off,ao=some ⟨b,off,none⟩/\F b/\Cells w b (off+i*3) [Ub xs[i].1]:=by
 obtain⟨b,off,e,f,g,c,d⟩:=h.el i hi;obtain⟨c1,c2,rfl,h1,h2⟩:=Gr d;rw[Gl h1]at c;exact⟨b,off,e,f,λj u a=>c j u (by
  obtain _|j:=j
  .simpa using a
  .simp at a)⟩
def nB(w0:World){so fo mo:Option Addr}{sc fc mc ml:Nat}{ns:List cK}{fl:List cJ}{nl:List (List cI)}(hs:Sl w0 (dk w0) so sc ns)(hf:Sl w0 (dk w0) fo fc fl)(hn:Sl w0 (dk w0) C B nl)(hz:(JL (ns,fl)).2=0)
  (hr:∀r∈nl,∀x∈r,0<=x.1/\x.1<(JU (ns,fl)).length):
  Rt Vy 33 [FC so sc fo fc ns.length fl.length,Jf mo mc C B ml nl.length].toArray w0 λv w'=>Own w' w0.heap.size 3 dh v (nw (ns,fl) nl)/\Ext w0 w':=by
 obtain⟨hc0,hse,hl60⟩:=JM hz;have V:=kV hc0;have W:=V.n;dsimp only at W
 refine dS func33 ntmps33 rfl rfl ?_;unfold Jf;refine UZ ?_;refine eH λw1 d e1=>?_
 skip;refine eH λw2 M e2=>?_
 have d:=d.ext e2;have O:=e1.trans e2;refine UD ?_;refine eK (di w2 (hs.up O) (hf.up O)) ?_;rintro _ E ⟨x,rfl,J,e3⟩
 rw[hse]at J
 rw[hz];obtain⟨xo,xc,rfl,hxs⟩:=J.oldN.sl;have d:=d.ext e3;have M:=M.ext e3;have O:=O.trans e3;clear J;have hnlm:=hn.len63;refine UE ?_;refine fI (α:=Bool) rfl rfl rfl rfl TK TQ (λw4 c X=>?_);have e4:Ext E w4:=(NP _ _).grown X T8 T2;generalize hsv:Value.slice (some ⟨E.heap.size,0,none⟩) ns.length ns.length=sv at*
 have R:sv.ownBlock=some E.heap.size:=by rw[<-hsv];rfl
 rw[<-BQ]at c
 have hsz3:=(c.lt _ R).2.1;have Y:=M.ext e4;clear X;refine UE ?_;refine p8 (S:=Nat) (λi=>[(2,Uc w0.heap.size),(5,.slice xo (JU (ns,fl)).length xc),(7,sv),(25,.slice C nl.length B),(26,Ub nl.length),(27,Ub i)])
  (λi w=>i<=nl.length/\Own w E.heap.size 4 dh sv (BM ns.length (nK (JU (ns,fl)) (nl.take i)))/\Ext E w) (λi=>nl.length -i) 0 TJ ⟨RU _,c,e4⟩ ?_
 clear Y c;rintro i w5 ⟨hi,c,e5⟩
 have N:=O.trans e5;refine UR ?_;apply ld rfl<;>intro h
 .have z:i<nl.length:=by simp at h;omega
  have hri:=hr _ (PL z);have a:=nL (sl:=JU (ns,fl)) z;refine UC ?_;refine fd (i:=i) rfl rfl rfl rfl rfl (hn.at N) z TV (λu q Q=>?_);obtain⟨ro,rc,rfl,G⟩:=Q.sl;have hrl:=G.len63;refine Ut ?_;refine p8 (S:=Nat) (λj=>[(2,Uc w0.heap.size),(5,.slice xo (JU (ns,fl)).length xc),(7,sv),(25,.slice C nl.length B),(26,Ub nl.length),(27,Ub i),(31,.slice ro nl[i].length rc),(32,Ub nl[i].length),(33,Ub j)])
   (λj w=>j<=nl[i].length/\Own w E.heap.size 4 dh sv (BM ns.length (nK (JU (ns,fl)) (nl.take i)++(nl[i].take j).map (CH (JU (ns,fl)))))/\Ext E w) (λj=>nl[i].length -j) 0 TJ ⟨RU _,by rw[Q5,Qi,OH];exact c,e5⟩ ?_
  clear c;rintro j w6 ⟨hj,c,o⟩
  have D:=O.trans o;have I:Sl w6 (dk w0) ro rc nl[i]:=G.mono (λb hb=>(D.block b hb).trans (N.block b hb).symm) T0;refine UR ?_;apply ld rfl<;>intro h
  .have t:j<nl[i].length:=by simp at h;omega
   have hx:=hri _ (PL t);have T:=G6 (sl:=JU (ns,fl)) t;refine UC ?_;refine fd (i:=j) rfl rfl rfl rfl rfl I t TV (λu q Q=>?_);rw[Gj Q];clear Q;generalize nl[i][j]=x at*
   obtain⟨xk,xt⟩:=x;dsimp only at hx
   obtain⟨k,rfl⟩:=Om hx.1;have L:k<(JU (ns,fl)).length:=by omega
   have hnd:CH (JU (ns,fl)) ((k:Int),xt)=(JU (ns,fl))[k].1:=by unfold CH;dsimp only;rw[Oy,JV L]
   obtain⟨m,hm,hsm⟩:=stepsP_mem.1 (PL L);have U:=JR _ hsm;dsimp only at hm
   rw[hnd,U]at T
   dsimp only;skip;refine eC (λw7 H e7=>?_);skip;refine f7 H (λw8 H A=>?_);have e8:Ext w6 w8:=e7.grown A e7.size TX;have c:=c.extN e8;have P:=o.trans e8;clear e7 A;obtain⟨nb,off,rfl,hnb,K⟩:=(hxs.up P).stepK L;refine Uy ?_;refine fk (α:=cO) rfl rfl rfl rfl TK TK ?_;refine Va ?_;refine VQ (α:=Int) (F:=dh) (y:=(JU (ns,fl))[k].1) rfl rfl rfl (by rw[Oy];exact K) rfl ?_;rw[show Me Int [Ub (JU (ns,fl))[k].1]=Ub (JU (ns,fl))[k].1 from rfl,U];skip;refine Wk rfl rfl rfl rfl c TK (by rw[BO];omega) TV TV (VF _ _ true) (λw9 q c hg9=>?_);rw[BR TK,OG,<-T]at c
   have e9:=P.grown hg9 P.size (λg hg=>by rw[R]at hg;cases hg;exact Rq _);refine Ui ?_;exact m5 (j+1) TJ ⟨t,c,e9⟩ TK
  .obtain rfl:j=nl[i].length:=by simp at h;omega
   rw[Q0,<-a]at c
   refine Uj ?_;exact m5 (i+1) TJ ⟨z,c,o⟩ TK
 obtain rfl:i=nl.length:=by simp at h;omega
 rw[Q0]at c
 have hz0:w0.heap.size<=E.heap.size:=O.size;have d:=d.ext e5;refine UU ?_;rw[BO];refine p8 (S:=Nat×Value) (λs=>[(2,Uc w0.heap.size),(12,s.2),(47,sv),(48,Ub ns.length),(49,Ub s.1)])
  (λs w=>s.1<=ns.length/\Own w w5.heap.size 3 dh s.2 (ny (ns,fl) nl s.1)/\Ext w5 w) (λs=>ns.length -s.1) (0,.slice none 0 0) TJ ⟨RU _,by simp[ny];exact r3,p7 _⟩ ?_
 rintro⟨n,ov⟩ w6 ⟨hn',f,o⟩
 dsimp only at hn' f o⊢
 have d:=d.ext o;have D:=N.trans o;have hdl:=nz (p:=(ns,fl)) (nl:=nl) (k:=n);refine UR ?_;apply ld rfl<;>intro h
 .have e:n<ns.length:=by simp at h;omega
  have a:=nA (p:=(ns,fl)) (nl:=nl) (k:=n);have ho6:=c.extN o;have hmg:=BN (l:=nK (JU (ns,fl)) nl) e;obtain⟨nb,off,rfl,hnb,K⟩:=(hs.up D).nodeK e;rw[Ak e]at a
  refine UB ?_;refine fg (i:=(n:Int)) rfl rfl rfl rfl rfl ho6 TK (by rw[BO];omega) TV (λu q Q=>?_);obtain rfl:=Q.bool;rw[show(BM ns.length (nK (JU (ns,fl)) nl))[((n:Nat):Int).toNat]'(by rw[BO,Oy];exact e)=decide ((n:Int)∈nK (JU (ns,fl)) nl) from hmg];by_cases hd:(n:Int)∈nK (JU (ns,fl)) nl
  .rw[Tc hd]at a⊢
   rw[Tm TO,OH]at a
   refine UA ?_;exact m5 (n+1,ov) TJ ⟨e,by dsimp only;rw[a];exact f,o⟩ TP
  .rw[Ta hd]at a⊢
   refine Uy ?_;refine fk (α:=cK) rfl rfl rfl rfl TK TK ?_;refine Va ?_;refine VQ (α:=Int) (F:=dh) (y:=ns[n].2) rfl rfl rfl (by rw[Oy];exact K) rfl ?_;rw[show Me Int [Ub ns[n].2]=Ub ns[n].2 from rfl];cases Z:(ns[n].2 != 1)
   .rw[Z,Tm TO,OH]at a
    refine Ug ?_;rw[Z];refine US ?_;exact m5 (n+1,ov) TJ ⟨e,by dsimp only;rw[a];exact f,o⟩ TP
   .rw[Z,Tn TO]at a
    refine Ug ?_;rw[Z];refine U4 ?_;refine eF (α:=Int) (F:=dh) (bytes:=8) rfl rfl TV rfl rfl TV f T7 o.size TY TN TQ TK (λov' w8 p ho8 A hnb8=>?_);rw[<-a]at ho8
    have e8:=o.grown A o.size (λg hg=>(f.lt g hg).1);refine Ui ?_;exact m5 (n+1,ov') TJ ⟨e,ho8,e8⟩ TP
 .obtain rfl:n=ns.length:=by simp at h;omega
  refine UF ?_;exact be ⟨f.low (Rr hz0 e5.size),D⟩
def mR{d:List Int}{k:Nat}(h:k<d.length):mQ d (k:Int)=d[k]:=by unfold mQ;rw[Oy,tx h]
def MA(d:List Int)(l:List Int)(j:Nat)(h:j<l.length):My d (l.take (j+1))=if EP d (My d (l.take j)) l[j]then l[j]else My d (l.take j):=by unfold My;rw[Q4 h,Pg];rfl
def Mx(d:List Int)(a:Int)(l:List Int)(j:Nat)(h:j<l.length):Mw d a (l.take (j+1))=if Ck d a (Mw d a (l.take j)) l[j]then l[j]else Mw d a (l.take j):=by unfold Mw;rw[Q4 h,Pg];rfl
def Mz(d:List Int)(l:List Int):My d l= -1\/My d l∈l:=by
 have key:∀(l:List Int) (a:Int),l.foldl (λat' n=>if EP d at' n then n else at') a=a\/l.foldl (λat' n=>if EP d at' n then n else at') a∈l:=by
  intro l;induction l with
  |nil=>intro a;exact .inl rfl
  |cons x l b=>
   intro a;rcases b (if EP d a x then x else a)with h|h
   .rw[Ph,h];split
    .exact .inr TO
    .exact .inl rfl
   .exact .inr (Qp _ h)
 exact key l (-1)
def gf(w0:World){ao fo lo:Option Addr}{cap fc:Nat}{f:List Int}{to:List Bool}(hs:Sl w0 (dk w0) ao cap g)(hf:Sl w0 (dk w0) fo fc f)(ht:Sl w0 (dk w0) lo B to):
  Rt Vy 73 [.slice ao g.length cap,.slice fo f.length fc,.slice lo to.length B].toArray w0 λr w'=>∃v,r=.tuple ⟨[v,.bool (Mp g f to).2.1,Ub (Mp g f to).2.2]⟩/\Own w' w0.heap.size 3 dh v (Mp g f to).1/\Ext w0 w':=by
 have hgl:=hs.len63;have hfl:=hf.len63;have htl:=ht.len63;refine dT func73 ntmps73 rfl rfl (UR ?_);refine eK (lr w0 hs) ?_;rintro v w1 ⟨rfl,N⟩;refine UR ?_;apply ld rfl<;>intro h
 .have Z:kL g≠0:=by simpa using h
  refine Up ?_;exact bg rfl rfl rfl rfl ⟨.slice none 0 0,by rw[Mp,Tn Z],by rw[Mp,Tn Z];exact r3,N⟩
 have Z:kL g=0:=by simpa using h
 obtain⟨hg,hg2⟩:=kN Z;refine UB ?_;refine eK (Df w1 (hs.up N) (hf.up N)) ?_;rintro v w2 ⟨rfl,A⟩;have A:=N.trans A;refine fU rfl rfl rfl ?_;have o:De g.length f=true\/to.length≠g.length->Mp g f to=([],false,1):=λh=>by rw[Mp,Tm (by simp[Z]),Tn h]
 (refine a6 (λh=>?_) (λh=>?_))
 .refine Us ?_;exact bg rfl rfl rfl rfl ⟨.slice none 0 0,by rw[o (.inl h)],by rw[o (.inl h)];exact r3,A⟩
 refine Uz ?_;apply ld rfl<;>intro h1
 .have h1:to.length≠g.length:=by simp at h1;omega
  refine Up ?_;exact bg rfl rfl rfl rfl ⟨.slice none 0 0,by rw[o (.inr h1)],by rw[o (.inr h1)];exact r3,A⟩
 have U:to.length=g.length:=by simp at h1;omega
 have L:Dy g.length f:=oddB_false.1 h;have eW:Mp g f to=if My (qH g to) f<0 then([],false,0)else(Mu g (qH g to) g.length (My (qH g to) f),true,0):=by rw[Mp,Tm (by simp[Z]),Tm (by simp[h,U])]
 clear o;have hI:=qI U;refine UB ?_;refine eK (qN w2 (hs.up A) (ht.up A) T0 hg TK U) ?_;rintro dv w3 ⟨hod,y⟩;have y:=A.trans y;obtain⟨dO,dc,rfl,hd⟩:=hod.oldN.sl;generalize X:qH g to=d at*;have hdl:d.length=g.length:=hI.len;refine Ut ?_;refine p8 (S:=Nat) (λj=>[(0,.slice ao g.length cap),(10,.slice dO d.length dc),(11,Ub (My d (f.take j))),(36,.slice fo f.length fc),(37,Ub f.length),(38,Ub j)])
  (λj w=>j<=f.length/\Ext w3 w) (λj=>f.length -j) 0 TJ ⟨by omega,p7 _⟩ ?_
 rintro j w ⟨hj,R⟩;refine UR ?_;apply ld rfl<;>intro i
 .simp at i;have T:=L _ (PL i);obtain⟨n,en⟩:=Om T.1;have m:n<d.length:=by omega
  have l:=MA d f j i;rw[en]at l;have hpin:=Mz d (f.take j);generalize hp:My d (f.take j)=p at*;have D:p= -1\/∃a:Nat,p=(a:Int)/\a<d.length:=by
   obtain h|h:=hpin
   .exact .inl h
   .have:=L _ (Qz h);obtain⟨a,ea⟩:=Om this.1;exact .inr ⟨a,ea,by omega⟩
  have t:=hd.up R;refine UC ?_;refine e_ ((hf.at y).mono (λb hb=>R.block b (Rv hb y.size)) λ_ h=>h) i en TV (λq=>?_);refine U9 ?_;apply p0;apply bA;refine aB [(0,.slice ao g.length cap),(10,.slice dO d.length dc),(11,Ub p),(13,Ub n),(36,.slice fo f.length fc),(37,Ub f.length),(38,Ub j),(77,.bool (EP d p n))] ?_ ?_
  .refine U7 ?_;refine dy rfl rfl rfl rfl rfl T0 t m rfl TV (λq=>U_ ?_);(refine dG rfl rfl (λh=>?_) (λh=>?_))
   rotate_left
   .have e:EP d p n=false:=by unfold EP;rw[mR m];simp at h;simp;omega
    refine Vb ?_;refine VD (λK c=>?_);rw[e];exact aU TJ c
   have h0:0<=d[n]:=by simpa using h
   refine U_ ?_;(refine dG rfl rfl (λh=>?_) (λh=>?_))
   .have e:EP d p n=true:=by unfold EP;rw[mR m];simp at h;simp[h,h0]
    refine Vb ?_;refine VD (λK c=>?_);rw[e];exact aU TJ c
   have hp0:¬p<0:=by simpa using h
   obtain⟨a,rfl,k⟩:∃a:Nat,p=(a:Int)/\a<d.length:=by
    obtain h|h:=D
    .omega
    .exact h
   have eP:EP d a n=(decide (d[n]<d[a])||(decide (d[n]=d[a])&&decide ((n:Int)<a))):=by unfold EP;rw[mR m,mR k];simp[h0,hp0]
   refine U_ ?_;refine dy rfl rfl rfl rfl rfl T0 t m rfl TV (λq=>U_ ?_);refine dy rfl rfl rfl rfl rfl T0 t k rfl TV (λq=>U_ ?_);(refine dG rfl rfl (λh=>?_) (λh=>?_))
   .have h3:d[n]<d[a]:=by simpa using h
    refine Vb ?_;refine VD (λK c=>?_);rw[eP];simp only[h3,Th,N_];exact aU TJ c
   have h3:¬d[n]<d[a]:=by simpa using h
   refine U_ ?_;refine dy rfl rfl rfl rfl rfl T0 t m rfl TV (λq=>U_ ?_);refine dy rfl rfl rfl rfl rfl T0 t k rfl TV (λq=>U_ ?_);(refine dG rfl rfl (λh=>?_) (λh=>?_))
   .have h4:d[n]=d[a]:=by simpa using h
    refine U_ ?_;refine VD (λK c=>?_);rw[eP];simp only[h4,Th,N9,Oo,Tg,NX];exact aU TJ c
   .have h4:¬d[n]=d[a]:=by simpa using h
    refine Vb ?_;refine VD (λK c=>?_);rw[eP];simp only[h3,h4,Tg,NV,NX];exact aU TJ c
  .rintro K c;apply ld rfl<;>intro h2
   .rw[Tn h2]at l;refine Ui ?_;refine m5 (j+1) ?_ ⟨i,R.trans c⟩ TK;rw[l];exact TJ
   .rw[Tm (by simp[h2])]at l;refine US ?_;refine m5 (j+1) ?_ ⟨i,R.trans c⟩ TK;rw[l];exact TJ
 simp at i;have:j=f.length:=by omega
 subst this;rw[Q0];have hps:=ES (d:=d) f (λx T=>(L x T).1);generalize hp:My d f=p at*;refine UF ?_;apply ld rfl<;>intro h2
 .have h2:p<0:=by simpa using h2
  rw[Tn h2]at eW;refine Up ?_;exact bg rfl rfl rfl rfl ⟨.slice none 0 0,by rw[eW],by rw[eW];exact r3,y.trans R⟩
 have h2:¬p<0:=by simpa using h2
 rw[Tm h2]at eW;have hpf:p∈f/\0<=mQ d p:=by
  obtain h|h:=hps
  .omega
  .exact h
 have D:=L p hpf.1;rw[eW];dsimp only;refine UB ?_;refine VN (F:=dh) (ys:=[p]) rfl rfl rfl rfl rfl (.cons T7 .nil) (by show 1*1<=16777216;decide) TY (λK ho4 hg4=>?_);have c:Ext w3 K:=R.grown hg4 R.size T2;refine Ux ?_;refine p8 (S:=Int×List Int×Value) (λs=>[(0,.slice ao g.length cap),(10,.slice dO d.length dc),(11,Ub s.1),(14,s.2.2)])
  (λs w=>(0<=s.1/\s.1<g.length)/\0<=mQ d s.1/\(s.2.1.length:Int)+mQ d s.1<=g.length/\(∃pre fu,s.2.1=pre++[s.1]/\Mu g d g.length p=pre++Mu g d fu s.1/\mQ d s.1<=(fu:Nat))/\Own w w3.heap.size 3 dh s.2.2 s.2.1/\Ext w3 w) (λs=>(mQ d s.1).toNat) (p,[p],_) TJ ⟨D,hpf.2,?_,⟨[],g.length,rfl,rfl,?_⟩,ho4.low R.size,c⟩ ?_
 .obtain⟨pn,rfl⟩:=Om D.1;have E:pn<d.length:=by omega
  have:=hI.le pn E;rw[mR E];simp;omega
 .obtain⟨pn,rfl⟩:=Om D.1;have E:pn<d.length:=by omega
  have:=hI.le pn E;rw[mR E];omega
 rintro⟨a,out,ov⟩ w5 ⟨Y,h0,hm,⟨pre,fu,G,W,hfu⟩,V,I⟩;dsimp only at Y h0 hm G V hfu W;obtain⟨an,rfl⟩:=Om Y.1;have k:an<d.length:=by omega
 rw[mR k]at h0 hm hfu;refine U4 ?_;refine e_ (hd.up I) k rfl TV (λq=>?_);refine Ug ?_;apply ld rfl<;>intro h3
 .have h3:0<d[an]:=by simpa using h3
  have H:an<g.length:=by omega
  have z:=MF (a:=(an:Int)) (by rw[X];exact hI) hg Y (by rw[X,mR k];exact h3);rw[X,Oy,mR k]at z;have erow:g.getD an []=g[an]:=by rw[Pl,Pq H];rfl
  rw[erow]at z;have Q:=y.trans I;refine Ux ?_;refine fe (hs.at Q) H TV (λu q hu=>?_);obtain⟨ro,rc,rfl,O⟩:=hu.sl;have hrl:=O.len63;generalize hrw:g[an]=row at*;have hrok:Dy g.length row:=by rw[<-hrw];exact hg _ (PL H)
  refine Uz ?_;refine p8 (S:=Nat) (λj=>[(0,.slice ao g.length cap),(10,.slice dO d.length dc),(11,Ub an),(14,ov),(15,Ub (Mw d an (row.take j))),(92,.slice ro row.length rc),(93,Ub row.length),(94,Ub j)])
   (λj w=>j<=row.length/\Ext w5 w) (λj=>row.length -j) 0 TJ ⟨by omega,p7 _⟩ ?_
  rintro j w6 ⟨hj,C⟩;refine UR ?_;apply ld rfl<;>intro i
  .simp at i;have T:=hrok _ (PL i);obtain⟨n,en⟩:=Om T.1;have m:n<d.length:=by omega
   have l:=Mx d an row j i;rw[en]at l;generalize hp:Mw d an (row.take j)=nx at*;have t:=hd.up (I.trans C);have hdr:=hI.le an k;refine UC ?_;refine e_ (O.mono (λb hb=>C.block b (Rv hb Q.size)) λ_ h=>h) i en TV (λq=>?_);refine U9 ?_;apply p0;apply bA;refine aB [(0,.slice ao g.length cap),(10,.slice dO d.length dc),(11,Ub an),(14,ov),(15,Ub nx),(17,Ub n),(92,.slice ro row.length rc),(93,Ub row.length),(94,Ub j),(116,.bool (Ck d an nx n))] ?_ ?_
   .refine U7 ?_;refine dy rfl rfl rfl rfl rfl T0 t m rfl TV (λq=>U_ ?_);refine dy rfl rfl rfl rfl rfl T0 t k rfl TV (λq=>Vd ?_);have eP:Ck d an nx n=(decide (d[n]=d[an] -1)&&(decide (nx<0)||decide ((n:Int)<nx))):=by unfold Ck;rw[mR m,mR k]
    (refine dG rfl rfl (λh=>?_) (λh=>?_))
    rotate_left
    .have h:¬d[n]=d[an] -1:=by simpa using h
     refine Vb ?_;refine VD (λK c=>?_);rw[eP];simp only[h,Tg,NV];exact aU TJ c
    have h4:d[n]=d[an] -1:=by simpa using h
    refine U_ ?_;(refine dG rfl rfl (λh=>?_) (λh=>?_))
    .have h5:nx<0:=by simpa using h
     refine Vb ?_;refine VD (λK c=>?_);rw[eP];simp only[h4,h5,Th,N9,N_];exact aU TJ c
    .have h5:¬nx<0:=by simpa using h
     refine U_ ?_;refine VD (λK c=>?_);rw[eP];simp only[h4,h5,Th,Tg,N9,NX];exact aU TJ c
   .rintro w7 M;apply ld rfl<;>intro h2
    .rw[Tn h2]at l;refine Ui ?_;refine m5 (j+1) ?_ ⟨i,C.trans M⟩ TK;rw[l];exact TJ
    .rw[Tm (by simp[h2])]at l;refine US ?_;refine m5 (j+1) ?_ ⟨i,C.trans M⟩ TK;rw[l];exact TJ
  simp at i;have:j=row.length:=by omega
  subst this;rw[Q0];generalize T:Mw d an row=x at*;have J:=I.trans C;have P:=V.extN C;refine UF ?_;refine eF (F:=dh) (yv:=x) rfl rfl TV rfl rfl TV P T7 J.size TY TN TQ TK (λv' w7 p ho7 hg7 hnb=>?_);have M:Ext w3 w7:=J.grown hg7 J.size (λb hb=>(P.lt b hb).1);refine Ur ?_;refine m5 (x,out++[x],v') TJ ⟨z.2.2,by dsimp only;rw[z.2.1];omega,by dsimp only;rw[z.2.1,PX];simp;omega,⟨out,fu -1,rfl,?_,?_⟩,ho7,M⟩ ?_
  .cases fu with
   |zero=>omega
   |succ fu=>
    rw[W,Mu,Tn (by rw[mR k];exact h3),Oy,erow,T,G];simp
  .dsimp only;rw[z.2.1];omega
  .dsimp only;rw[z.2.1,mR k];omega
 .have h3:¬0<d[an]:=by simpa using h3
  refine UF ?_;refine bg rfl rfl rfl rfl ⟨ov,rfl,?_,y.trans I⟩;have e:Mu g d fu an=[(an:Int)]:=by
   cases fu with
   |zero=>rfl
   |succ fu=>rw[Mu,Tm (by rw[mR k];exact h3)]
  rw[W,e,<-G];exact V.low y.size
structure Short(g:List (List Int))(f:List Int)(to:List Bool)(l:List Int)(is:Bool):Prop where
 len:is=decide (0<l.length)
 come:is=true↔∃n,n<g.length/\Rch g f n/\to.getD n false=true
 inR:∀i (hi:i<l.length),0<=l[i]/\l[i]<g.length
 last:∀i (hi:i<l.length),to.getD l[i].toNat false=decide (i=l.length -1)
 edge:∀i (hi:i<l.length) (hp:0<i),l[i]∈g.getD (l[i -1]'TK).toNat []
 again:∀i (hi:i<l.length),(Mp g [l[i]] to).1=l.drop i
 first:∀h:0<l.length,l[0]∈f
def Mt{f:List Int}{to:List Bool}(h:(Mp g f to).2.2=0):okG g/\Dy g.length f/\g.length<=20000/\to.length=g.length/\Short g f to (Mp g f to).1 (Mp g f to).2.1:=by
 have j:kL g=0/\¬(De g.length f=true\/to.length≠g.length):=by
  unfold Mp at h;split at h
  .rename_i h1;exact absurd h h1
  .rename_i h1;split at h
   .cases h
   .rename_i h2;exact⟨by simpa using h1,h2⟩
 obtain⟨z,hn⟩:=j;obtain⟨v,C⟩:=kN z;have m:to.length=g.length:=Ob λh=>hn (.inr h);have b:Dy g.length f:=oddB_false.1 (by cases e:De g.length f;rfl;exact absurd (.inl e) hn);refine⟨v,b,C,m,?_⟩;have n:=qI m;have eW:∀t,Dy g.length t->Mp g t to=if My (qH g to) t<0 then([],false,0)else(Mu g (qH g to) g.length (My (qH g to) t),true,0):=by intro t w;rw[Mp,Tm (by simp[z]),Tm (by simp[oddB_false.2 w,m])]
 have u:=ES (d:=qH g to) f (λx a=>(b x a).1);have o:=Ge n v b;rw[eW f b];obtain⟨h1,h2⟩|⟨h1,h2⟩:=u
 .rw[Tn TK];refine⟨by simp,?_,λi hi=>absurd hi TO,λi hi=>absurd hi TO,λi hi=>absurd hi TO,λi hi=>absurd hi TO,λh=>absurd h TO⟩;rw[o];constructor
  .intro e;cases e
  .rintro⟨x,a,A⟩;have:=h2 x a;omega
 .have q:=b _ h1;generalize D:My (qH g to) f=p at*;rw[Tm TK];have r:∀x,0<=x/\x<(g.length:Int)->mQ (qH g to) x<=(g.length:Nat):=by
   intro x a;obtain⟨k,rfl⟩:=Om a.1;have s:k<(qH g to).length:=by rw[n.len];omega
   have:=n.le k s;unfold mQ;rw[Oy,tx s];omega
  have c:=MB n v g.length p q h2 (r p q);dsimp only;generalize Mu g (qH g to) g.length p=l at c;have y:=c.len;refine⟨(Tc TK).symm,?_,c.inR,?_,c.edge,?_,?_⟩
  .rw[o];exact⟨λ_=>⟨p,h1,h2⟩,λ_=>rfl⟩
  .intro i hi;have a1:=c.at' i hi;have a2:=c.inR i hi;have s:l[i].toNat<(qH g to).length:=by rw[n.len];omega
   have B:=n.zero _ s;have hd:mQ (qH g to) l[i]=(qH g to)[l[i].toNat]:=by unfold mQ;rw[tx s]
   rw[NU,<-B,<-hd,a1];simp;omega
  .intro i hi;have a1:=c.at' i hi;have a2:=c.inR i hi;have e:My (qH g to) [l[i]]=l[i]:=by
    have:=ES (d:=qH g to) [l[i]] (λx a=>by simp at a;subst a;exact a2.1);obtain⟨_,h4⟩|⟨h4,_⟩:=this
    .have:=h4 l[i] TO;omega
    .simpa using h4
   rw[eW [l[i]] (λx a=>by simp at a;subst a;exact a2),e,Tm TK];exact c.go i hi _ (r _ a2)
  .intro A;have:=c.hd;rw[Pq A]at this;rw[R4 this];exact h1
def Mq{f:List Int}{to:List Bool}(h:(Mp g f to).2.2≠0):(Mp g f to).1=[]/\(Mp g f to).2.1=false:=by
 unfold Mp at h⊢;split
 .exact⟨rfl,rfl⟩
 .split
  .exact⟨rfl,rfl⟩
  .rename_i h1 h2;rw[Tm h1,Tm h2]at h;split at h<;>exact absurd rfl h
def Mv{g:List (List Int)}{d:List Int}:∀(f:Nat) (a:Int),(Mu g d f a).length<=f+1
 |0,a=>by simp[Mu]
 |f+1,a=>by
  rw[Mu];split
  .have:=Mv (g:=g) (d:=d) f (Mw d a (g.getD a.toNat []));rw[PY];omega
  .simp
def Ms{f:List Int}{to:List Bool}:(Mp g f to).1.length<=g.length+1:=by
 unfold Mp;split
 .simp
 .split
  .simp
  .split
   .simp
   .exact Mv _ _
def Mr{f:List Int}{to:List Bool}:Dy g.length (Mp g f to).1:=by
 by_cases h:(Mp g f to).2.2=0
 .have hS:=(Mt h).2.2.2.2;intro x a;obtain⟨i,hi,rfl⟩:=Qu.1 a;exact hS.inR i hi
 .rw[(Mq h).1];intro x a;cases a
def DF(n:Nat)(k:Nat):List Bool:=(replicate n false).set k true
def Ka(nl:List (List cI))(k:Nat):List Int:=(Mp (ui nl) [0] (DF nl.length k)).1
def rG(nl:List (List cI))(is:List Bool):Int×List Int:=
 if idxOf (λy=>true==y) is<0 then(-1,[])else(idxOf (λy=>true==y) is,gO nl (Ka nl (idxOf (λy=>true==y) is).toNat))
def uj{nl:List (List cI)}:(ui nl).length=nl.length:=by simp[ui]
def IY{p:α->Bool}{l:List α}(h:0<=idxOf p l):(idxOf p l).toNat<l.length:=by
 unfold idxOf at h⊢;cases e:l.findIdx? p with
 |none=>rw[e]at h;exact absurd h TN
 |some i=>
  have:=(Pc.1 e).1;simpa using this
def IF(w0:World){mo:Option Addr}{mc ml:Nat}{nl:List (List cI)}{is:List Bool}(hn:Sl w0 (dk w0) C B nl)(hi:Sl w0 (dk w0) D a is)(S:is.length=nl.length)(u:nl.length<=200)(hr:∀r∈nl,r.length<=60):
  Rt Vy 34 [Jf mo mc C B ml nl.length,.slice D is.length a].toArray w0 λv w'=>∃x,v=.tuple ⟨[Ub (rG nl is).1,x]⟩/\Own w' w0.heap.size 3 dh x (rG nl is).2/\Ext w0 w':=by
 refine dS func34 ntmps34 rfl rfl ?_;have o:=λw (Q:Ext w0 w)=>um w (mo:=mo) (mc:=mc) (ml:=ml) (hn.up Q) u hr
 have hal:=λw (Q:Ext w0 w)=>@H1 w mo C
 unfold Jf at o⊢
 refine UZ ?_;refine eH λZ b V=>?_
 refine UR ?_;refine eK (yR Z true (hi.up V)) ?_;rintro _ P ⟨rfl,U⟩
 have b:=b.ext U;have z:=V.trans U;have hl1:=b.lt;unfold rG;by_cases c:idxOf (λy=>true==y) is<0
 .rw[Tn c]
  refine UR ?_;rw[Tc c];refine Us ?_;exact f0 ⟨_,rfl,r3,z⟩
 rw[Tm c];have i:=IY (p:=λy=>true==y) (l:=is) TK;obtain⟨k,hk⟩:=Om (show 0<=idxOf (λy=>true==y) is by omega);rw[hk]at c i⊢
 rw[Oy]at i⊢
 rw[S]at i
 refine Uv ?_;rw[Ta c];rw[S];skip;refine fI (α:=Bool) rfl rfl rfl rfl TK TQ (λY R s=>?_);have E:Ext P Y:=(NP _ _).grown s T8 T2;have b:=b.ext E;have hE3:=z.trans E;refine UR ?_;refine Wk rfl rfl rfl rfl R TK TR TV TV (VF _ _ true) (λn q ho4 j=>?_);have e4:Ext P n:=E.grown j E.size TX;have hz2:=z.size;have t:=z.trans e4;have hl2:=b.lt;have b:=b.kept j (λe=>by have:=R4 e;dsimp only at this;omega);rw[Oy]at ho4
 obtain⟨to,tc,hv,d⟩:=ho4.slF (F':=dk n) TY (λg hg=>(ho4.lt g hg).2.1);obtain⟨rfl,_,rfl⟩:=SV hv;have G:((replicate nl.length false).set k true).length=nl.length:=by simp
 change Sl n (dk n) _ _ (DF nl.length k)at d
 have I:(DF nl.length k).length=nl.length:=G;clear R ho4 s j;refine UD ?_;refine eK (o n t) ?_;rintro gv w5 ⟨vs,hN,O⟩
 have b:=b.ext O;have N:=t.trans O;have d:=d.up O;obtain⟨go,gc,rfl,K⟩:=hN.old.sl;skip;refine fE [(0:Int)] rfl rfl rfl rfl rfl (.cons T7 .nil) TN (λv6 X A r6 _=>?_);obtain⟨fo,fc,rfl,L⟩:=r6.sl;have b:=b.ext A;have M:=N.trans A;refine U9 ?_;have h:=gf X (K.up A) L (d.up A);rw[I]at h
 refine eK h ?_;rintro _ W ⟨wv,rfl,H,T⟩
 have b:=b.ext T;have m:=M.trans T;have J:Dy nl.length (Ka nl k):=by have:=Mr (g:=ui nl) (f:=[0]) (to:=DF nl.length k);rwa[uj]at this
 have hwl:(Ka nl k).length<=nl.length+1:=by have:=Ms (g:=ui nl) (f:=[0]) (to:=DF nl.length k);rwa[uj]at this
 obtain⟨wo,wc,rfl,F⟩:=H.oldN.sl;refine UD ?_;refine eK (H1 W (mo:=mo) (mc:=mc) (ml:=ml) (hn.up m) F J (by show(Ka nl k).length<=1000;omega)) ?_;rintro _ w8 ⟨ho8,e8⟩
 refine Uf ?_;exact f0 ⟨_,rfl,ho8.low m.size,m.trans e8⟩
instance:IsFd Vy 57 0 0:=qA TL
instance:IsFd Vy 57 1 1:=qA TL
instance:IsFd Vy 57 2 2:=qA TL
instance:IsFd Vy 57 3 3:=qA TL
instance:IsFd Vy 57 4 4:=qA TL
def Is(ml:List (List Int))(k:Nat):List Int:=((range k).filter λi=>oW (ml.getD i [])).map λi:Nat=>(i:Int)
def o8(ml:List (List Int)):List Int:=Is ml ml.length
def J6(ml:List (List Int))(nl:List (List cI))(i:Nat):Bool:=decide ((nl.getD i []).length=0)&&!oW (ml.getD i [])
def J7(ml:List (List Int))(nl:List (List cI)):List Bool:=(range ml.length).map (J6 ml nl)
noncomputable def Ch(ml:List (List Int))(nl:List (List cI)):List Bool:=(F6 (Lh (ui nl)) (o8 ml)).map λb=>!b
structure LFinding where
 dead:List Int
 still:Int
 never:Int
 toStill:List Int
 toNever:List Int
noncomputable def rr(p:cM)(ml:List (List Int))(nl:List (List cI)):LFinding:=
 ⟨nw p nl,(rG nl (J7 ml nl)).1,(rG nl (Ch ml nl)).1,(rG nl (J7 ml nl)).2,(rG nl (Ch ml nl)).2⟩
noncomputable def A9(p:cM)(tok st:Int):LFinding×Int:=
 if(qa p tok st).2≠0 then(⟨[],0,0,[],[]⟩,(qa p tok st).2)else(rr p (qa p tok st).1.1 (qa p tok st).1.2,0)
def Iu{ml:List (List Int)}{k:Nat}:Is ml (k+1)=Is ml k++if oW (ml.getD k [])=true then [(k:Int)]else []:=by
 unfold Is;rw[QQ,O5,Qe];congr 1;by_cases h:oW (ml.getD k [])=true
 .rw[Tn h,O9 (p:=λi=>oW (ml.getD i [])) h];rfl
 .rw[Tm h,O8 (p:=λi=>oW (ml.getD i [])) h];rfl
def It{ml:List (List Int)}{k:Nat}:(Is ml k).length<=k:=by unfold Is;rw[P4];exact Rr (P3 _ _) (by rw[P7];exact Rq _)
def pi{ml:List (List Int)}{k:Nat}:Dy k (Is ml k):=by intro x a;unfold Is at a;rw[Qv]at a;obtain⟨i,hi,rfl⟩:=a;have:=QA.1 (Qs.1 hi).1;omega
def uk{p:cM}{ml:List (List Int)}{nl:List (List cI)}(d:SpOk p ml nl)(g:nl.length=ml.length):okG (ui nl):=by intro r b x a;unfold ui at b;rw[Qv]at b;obtain⟨i,hi,rfl⟩:=b;have c:=QA.1 hi;unfold KN at a;rw[Qv]at a;obtain⟨e,f,rfl⟩:=a;obtain⟨_,h1,h2,_⟩:=d.ed i c e f;rw[uj];omega
def jY{p:cM}(a:(JU p).length<=60):(jQ p m).length<=60:=by
 unfold jQ;split
 .unfold jT jU;rw[P4];exact Rr (P3 _ _) (by rw[P7];exact a)
 .simp
def Jl{p:cM}{ml:List (List Int)}{nl:List (List cI)}(a:SpOk p ml nl)(c:(JU p).length<=60):∀r∈nl,r.length<=60:=by intro r b;obtain⟨i,hi,rfl⟩:=Qu.1 b;have h:=a.can i hi;rw[s_ hi]at h;have:=S9 List.length h;rw[P4]at this;rw[this];exact jY c
def jX{p:cM}{k:Int}(h:k∈jQ p m):0<=k/\k<(JU p).length:=by
 unfold jQ at h;split at h
 .unfold jT jU at h;rw[Qv]at h;obtain⟨i,hi,rfl⟩:=h;have:=QA.1 (Qs.1 hi).1;omega
 .cases h
def Jm{p:cM}{ml:List (List Int)}{nl:List (List cI)}(b:SpOk p ml nl):∀r∈nl,∀x∈r,0<=x.1/\x.1<(JU p).length:=by intro r c x a;obtain⟨i,hi,rfl⟩:=Qu.1 c;have h:=b.can i hi;rw[s_ hi]at h;exact jX (by rw[<-h];exact Qv.2 ⟨x,a,rfl⟩)
def H8{g:bV}{n:Nat}(h:∀r∈g,r.length<=n):edges g<=g.length*n:=by
 unfold edges;induction g with
 |nil=>simp
 |cons r g a=>
  have:=a (λr b=>h r (by simp[b]));have:=h r TO;rw[Qg,QX,PY,Q9];omega
def Lt{g:bV}(h:g.length<=200):edges (Lh g)<=200*201:=by have h1:=H8 (g:=Lh g) (n:=201) (λr a=>by obtain⟨i,hi,rfl⟩:=Qu.1 a;have e:(Lh g)[i]=K5 g g.length 0 i:=Ln hi;rw[e];have:=K7 g g.length 0 i;omega);rw[Li]at h1;have:=RD 201 h;omega
def Fg(n:Nat)(f:Nat->Bool)(i:Nat):List Bool:=(range n).map λk=>decide (k<i)&&f k
def Fi{n i:Nat}{f:Nat->Bool}:(Fg n f i).length=n:=by simp[Fg]
def Fk{n:Nat}{f:Nat->Bool}:Fg n f 0=replicate n false:=by unfold Fg;refine O3 TO λi h1 h2=>by simp
def Fj{n i:Nat}{f:Nat->Bool}:(Fg n f i).set i (f i)=Fg n f (i+1):=by
 unfold Fg;refine O3 TO λk h1 h2=>?_;rw[PP];simp only[PK,PM];split
 .rename_i e;subst e;simp
 .rename_i e;by_cases h:k<i
  .simp[h,show k<i+1 by omega]
  .simp[h,show¬k<i+1 by omega]
def Fh{n:Nat}{f:Nat->Bool}:Fg n f n=(range n).map f:=by unfold Fg;refine O3 TO λk h1 h2=>?_;simp at h1;simp[h1]
def Ci{ml:List (List Int)}{nl:List (List cI)}(a:nl.length=ml.length):Ch ml nl=(range ml.length).map λk=>!(F6 (Lh (ui nl)) (o8 ml)).getD k false:=by
 unfold Ch;have h:(F6 (Lh (ui nl)) (o8 ml)).length=ml.length:=by rw[F8,Li,uj,a]
 refine O3 (by simp[h]) λk h1 h2=>?_;rw[P4]at h1;simp[PK,Pl,Pq h1]
def re(dv sv nv:Value)(s n:Int):Value:=.agg [dv,.int .i64 s,.int .i64 n,sv,nv].toArray
set_option maxRecDepth 100000 in
def cY(w0:World){so fo:Option Addr}{sc fc:Nat}{ns:List cK}{fl:List cJ}(hs:Sl w0 (dk w0) so sc ns)(hf:Sl w0 (dk w0) fo fc fl)(tok st:Int):
  Rt Vy 11 [FC so sc fo fc ns.length fl.length,Ub tok,Ub st].toArray w0 λv w'=>∃dv sv nv,v=.tuple ⟨[re dv sv nv (A9 (ns,fl) tok st).1.still (A9 (ns,fl) tok st).1.never,Ub (A9 (ns,fl) tok st).2]⟩/\
   Own w' 0 3 dh dv (A9 (ns,fl) tok st).1.dead/\Own w' 0 3 dh sv (A9 (ns,fl) tok st).1.toStill/\Own w' 0 3 dh nv (A9 (ns,fl) tok st).1.toNever/\Ext w0 w':=by
 refine dT func11 ntmps11 rfl rfl ?_;refine UZ ?_;refine eH λw1 D e1=>?_
 skip;refine eC (λw2 m e2=>?_);have D:=D.ext e2;have hE:=e1.trans e2;refine UD ?_;refine eK (bH w2 (hs.up hE) (hf.up hE) tok st) ?_;rintro _ w3 ⟨mv,nv,rfl,hmv,P,e3⟩
 obtain⟨mo,mc,rfl,hm⟩:=hmv.sl;obtain⟨no,nc,rfl,hn⟩:=P.sl;have D:=D.ext e3;have m:=m.ext e3;have hE:=hE.trans e3;have hlaw:=qd (p:=(ns,fl)) (tok:=tok) (st:=st);unfold A9;generalize qa (ns,fl) tok st=r at*
 obtain⟨⟨ml,nl⟩,er⟩:=r;dsimp only at hm hn hlaw⊢
 clear hmv P;refine U9 ?_;refine eC (λw4 x e4=>?_);skip;refine f7 x (λy x hg5=>?_);have e5:Ext w3 y:=e4.grown hg5 e4.size TX;have D:=D.ext e5;have m:=m.ext e5;have hE5:=hE.trans e5;have hm:=hm.up e5;have hn:=hn.up e5;have hl6:=m.lt;have hl8:=x.lt;have hs1:=e1.size;have hs2:=e2.size;have hs3:=e3.size;clear e4 hg5;by_cases her:er=0
 case neg=>
  rw[Tn her];have b1:(er != 0)=true:=by simpa using her
  refine UR ?_;rw[b1];refine U4 ?_;refine r4 (parts:=[]) rfl rfl rfl rfl ?_;refine U9 ?_;refine f7 m (λw6 m hg6=>?_);refine UX ?_;exact fG m ⟨_,_,_,rfl,r3,r3,r3,hE5.grown hg6 hE5.size (λg n=>by cases n;exact hs1)⟩
 subst her;rw[Tm TO];obtain⟨hz,hsr,hsp,hnl,hml0,_,h200⟩:=hlaw rfl;obtain⟨hc0,hse,hl60⟩:=JM hz;have hst:=hsr.st;have hrow:=Jl hsp hl60;have hstp:=Jm hsp;have hgok:=uk hsp hnl;clear hlaw;refine UM ?_;have mkS:∀i:Nat,d9 (λv γ w=>Own w y.heap.size 4 dh v (replicate ml.length false)/\∃b,v.ownBlock=some b/\γ b=i):=λi v γ γ' w w' h e hγ=>by
  obtain⟨ho,b,hb,n⟩:=h;exact⟨ho.extN e,b,hb,by rw[hγ b (ho.lt b hb).2.1];exact n⟩
 refine aH 6 mixed TL ?_;refine Vw ?_;refine V1 (λv γ w=>Own w y.heap.size 4 dh v (replicate ml.length false)/\∃b,v.ownBlock=some b/\γ b=1) rfl rfl rfl (mkS 1) (λγ w U=>fI (α:=Bool) rfl rfl rfl rfl TK TQ (λw2 ho R=>p0 (a7 rfl ((p7 w).grown R T8 T2) ⟨ho.low ((mm y).trans U).size,_,rfl,by simp[jM]⟩))) ?_;refine Vw ?_;refine V1 (λv γ w=>Own w y.heap.size 4 dh v (replicate ml.length false)/\∃b,v.ownBlock=some b/\γ b=3) rfl rfl rfl (mkS 3) (λγ w U=>fI (α:=Bool) rfl rfl rfl rfl TK TQ (λw2 ho R=>p0 (a7 rfl ((p7 w).grown R T8 T2) ⟨ho.low ((mm y).trans U).size,_,rfl,by simp[jM]⟩))) ?_;refine V1 (λv γ w=>Own w y.heap.size 4 dh v (replicate ml.length false)/\∃b,v.ownBlock=some b/\γ b=1) rfl rfl rfl (mkS 1) (λγ w U v37 g37=>fU rfl rfl rfl (p0 (a7 rfl T_ (by
  obtain⟨ho,b,hb,n⟩:=g37;exact⟨ho,b,hb,by unfold jM;rw[Tn (ho.lt b hb).2.1];exact n⟩)))) ?_
 refine V1 (λv γ w=>Own w y.heap.size 4 dh v (replicate ml.length false)/\∃b,v.ownBlock=some b/\γ b=3) rfl rfl rfl (mkS 3) (λγ w U=>by
  intro v39 g39 v11 g11 v37 g37
  change WL _ _ _ _ _ _ _
  refine fU rfl rfl rfl ?_;refine p0 (a7 rfl T_ ?_);obtain⟨ho,b,hb,n⟩:=g11;exact⟨ho,b,hb,by unfold jM;rw[Tn (ho.lt b hb).2.1];exact n⟩) ?_
 refine VT λγ w6 hw6 nv g12 sv g11 v39 g39 v37 g37=>?_
 change WL _ _ _ _ _ _ _
 refine p0 (bx ?_);clear g37 g39;obtain⟨j,sb,J,m1⟩:=g11;obtain⟨l,nb,hnb,m2⟩:=g12;have hsn:sb≠nb:=λe=>by rw[e]at m1;omega
 have e6:Ext y w6:=(mm y).trans hw6;clear m1 m2 mkS hw6;refine Uy ?_;have hl5:∀g,g<y.heap.size->g≠sb/\g≠nb:=λg n=>⟨by have:=(j.lt sb J).1;omega,by have:=(l.lt nb hnb).1;omega⟩
 have hsb6:=(j.lt sb J).2.1;have hnb6:=(l.lt nb hnb).2.1;have hsb5:=(j.lt sb J).1;have hnb5:=(l.lt nb hnb).1;have hmlm:=hm.len63;rw[<-Fk (f:=J6 ml nl)]at j
 have hb8x:=x.ext e6;refine UE ?_;refine p8 (S:=Nat×Value) (λs=>[(3,Uc w0.heap.size),(6,Uc w1.heap.size),(8,Uc w3.heap.size),(11,sv),(12,nv),(13,s.2),(41,.slice mo ml.length mc),(42,Ub ml.length),(43,Ub s.1)])
  (λs w=>s.1<=ml.length/\Own w y.heap.size 4 dh sv (Fg ml.length (J6 ml nl) s.1)/\Own w y.heap.size 4 dh nv (replicate ml.length false)/\Own w w6.heap.size 3 dh s.2 (Is ml s.1)/\Ext y w/\w6.heap.size<=w.heap.size) (λs=>ml.length -s.1) (0,.slice none 0 0) TJ ⟨RU _,j,l,by simp[Is];exact r3,e6,Rq _⟩ ?_
 clear j l hb8x;rintro⟨i,ev⟩ w7 ⟨hi,j,l,A,e7,hz7⟩
 dsimp only at hi j l A e7 hz7⊢
 have hb8x:=x.ext e7;have hel:=It (ml:=ml) (k:=i);refine UR ?_;apply ld rfl<;>intro h
 .have Q:i<ml.length:=by simp at h;omega
  have hin:i<nl.length:=by omega
  have hnx:=Iu (ml:=ml) (k:=i);rw[tf Q]at hnx
  have hsa:J6 ml nl i=(decide (nl[i].length=0)&&!oW ml[i]):=by unfold J6;rw[s_ hin,tf Q]
  refine UB ?_;refine fd (i:=i) rfl rfl rfl rfl rfl (hm.at e7) Q TV (λu q hu=>?_);obtain⟨ua,uc,rfl,hus⟩:=hu.sl;clear hu;have husA:∀{w},Ext y w->Sl w (dk w) ua uc ml[i]:=λU=>hus.mono (λb hb=>(U.block b hb).trans (e7.block b hb).symm) (λb hb=>Rv hb U.size)
  refine U9 ?_;apply p0;apply bA;refine aC (S:=Unit) (λ_=>[(3,Uc w0.heap.size),(6,Uc w1.heap.size),(8,Uc w3.heap.size),(11,sv),(12,nv),(13,ev),(14,Ub i),(15,.slice ua ml[i].length uc),(41,.slice mo ml.length mc),(42,Ub ml.length),(43,Ub i)])
   (λ_ w=>Own w y.heap.size 4 dh sv (Fg ml.length (J6 ml nl) (i+1))/\Own w y.heap.size 4 dh nv (replicate ml.length false)/\Own w w6.heap.size 3 dh ev (Is ml i)/\Ext y w/\w7.heap.size<=w.heap.size) ?_ ?_
  .have fin:∀{w8 O:World} (_:Ext w7 w8),Own O y.heap.size 4 dh sv (Fg ml.length (J6 ml nl) (i+1))->w8.grownBy O sv.ownBlock->Own O y.heap.size 4 dh sv (Fg ml.length (J6 ml nl) (i+1))/\Own O y.heap.size 4 dh nv (replicate ml.length false)/\Own O w6.heap.size 3 dh ev (Is ml i)/\Ext y O/\w7.heap.size<=O.heap.size:=by
    intro w8 O Z ho9 L
    have hm9:Ext y O:=(e7.trans Z).grown L (e7.trans Z).size (λg n=>by rw[J]at n;cases n;exact hsb5);refine⟨ho9,(l.extN Z).keptN L (λg n e=>by rw[J]at e;rw[hnb]at n;cases n;cases e;exact hsn rfl),(A.extN Z).keptN L (λg n e=>by rw[J]at e;cases e;have:=(A.lt _ n).1;omega),hm9,Rr Z.size L.size⟩
   refine UV ?_;refine fd (i:=i) rfl rfl rfl rfl rfl (hn.up e7) hin TV (λu q hu=>?_);obtain⟨va,vc,rfl,hvs⟩:=hu.sl;clear hu hvs;by_cases h0:nl[i].length=0
   .have b0:((nl[i].length:Int)==0)=true:=by rw[S3];omega
    rw[Tc h0]at hsa
    refine Vf ?_;rw[b0];refine U9 ?_;refine eK (oY w7 (husA e7)) ?_;rintro _ w8 ⟨rfl,Z⟩
    refine U9 ?_;refine Wk rfl rfl rfl rfl (j.extN Z) TK (by rw[Fi];omega) TV TV (VF _ _ _) (λO q ho9 L=>?_);rw[show(!oW ml[i])=J6 ml nl i by rw[hsa];rfl,Oy,Fj]at ho9
    refine UG ?_;exact aV () TJ (fin Z ho9 L)
   .have b0:((nl[i].length:Int)==0)=false:=by rw[S2];omega
    rw[Ta h0]at hsa
    refine Vf ?_;rw[b0];refine Ve ?_;refine Wk rfl rfl rfl rfl j TK (by rw[Fi];omega) TV TV (VF _ _ _) (λO q ho9 L=>?_);rw[show false=J6 ml nl i by rw[hsa];rfl,Oy,Fj]at ho9
    refine UG ?_;exact aV () TJ (fin T_ ho9 L)
  .clear j l A hb8x
   rintro _ w8 ⟨j,l,A,Z,hz8⟩
   refine U4 ?_;refine eK (oY w8 (husA Z)) ?_;rintro _ O ⟨rfl,Y⟩
   have e9':=Z.trans Y;cases hem:oW ml[i]
   .rw[hem,Tm TN,OH]at hnx
    refine US ?_;exact m5 (i+1,ev) TJ ⟨Q,j.extN Y,l.extN Y,by dsimp only;rw[hnx];exact A.extN Y,e9',by have:=Y.size;omega⟩ TP
   .rw[hem,Tn rfl]at hnx
    refine UY ?_;refine eF (α:=Int) (F:=dh) (bytes:=8) rfl rfl TV rfl rfl TV (A.extN Y) T7 (by have:=Y.size;omega) TY TN TQ TK (λev' w10 p ho10 W hnb10=>?_);rw[<-hnx]at ho10
    have hlo:=(A.extN Y).lt;have e10:=e9'.grown W e9'.size (λg n=>by have:=(hlo g n).1;have:=e6.size;omega);have hz9:=Y.size;have hz10:=W.size;refine Ui ?_;exact m5 (i+1,ev') TJ ⟨Q,(j.extN Y).keptN W (λg n e=>by rw[J]at n;cases n;have:=(hlo _ e.symm).1;omega),(l.extN Y).keptN W (λg n e=>by rw[hnb]at n;cases n;have:=(hlo _ e.symm).1;omega),ho10,e10,by omega⟩ TP
 obtain rfl:i=ml.length:=by simp at h;omega
 rw[Fh]at j
 change Own w7 y.heap.size 4 dh sv (J7 ml nl)at j
 change Own w7 w6.heap.size 3 dh ev (o8 ml)at A
 have hgl:(ui nl).length=ml.length:=by rw[uj,hnl]
 have R:=um w7 (mo:=mo) (mc:=mc) (ml:=ml.length) (hn.up e7) TK hrow;unfold Jf at R
 refine U1 ?_;refine eK R ?_;rintro gv w8 ⟨vs,hN,Z⟩
 obtain⟨go,gc,rfl,hgs⟩:=hN.old.sl;clear hN;skip;refine eK (ez w8 hgs) ?_;rintro _ O ⟨tv,vs2,rfl,hN2,Y⟩
 have hchk:kL (ui nl)=0:=kM hgok TK;unfold Lg at hN2
 rw[Tn hchk]at hN2
 rw[hchk];obtain⟨to,tc,rfl,hts⟩:=hN2.old.sl;clear hN2;have e89:=Z.trans Y;obtain⟨eo,ec,rfl,hes⟩:=(A.extN e89).oldN.sl;have htl:(Lh (ui nl)).length=ml.length:=by rw[Li,hgl]
 have hte:=Lt (g:=ui nl) TK;have hol:Dy (Lh (ui nl)).length (o8 ml):=by rw[htl];exact pi
 have I:=dN O hts hes (by have:(o8 ml).length<=ml.length:=It;omega);rw[Gu (Lk _) hol TK]at I
 refine UR ?_;refine eK I ?_;rintro _ w10 ⟨ov,rfl,K,e10⟩
 dsimp only at K⊢
 have e7x:=e89.trans e10;have j:=j.extN e7x;have l:=l.extN e7x;have e10':=e7.trans e7x;have hrl:(F6 (Lh (ui nl)) (o8 ml)).length=ml.length:=by rw[F8,htl]
 have hz10:=e7x.size;have hz79:=e89.size;clear hes hts hgs A I R hte hol Z Y e89;rw[<-Fk (f:=λk=>!(F6 (Lh (ui nl)) (o8 ml)).getD k false)]at l
 have hnvl:=l.val;obtain⟨no',nc',P⟩:=hnvl;rw[Fi]at P
 rw[P];refine Ut ?_;rw[<-P];have V:=Ci (ml:=ml) (nl:=nl) hnl;generalize F6 (Lh (ui nl)) (o8 ml)=okl at*
 refine p8 (S:=Nat) (λi=>[(3,Uc w0.heap.size),(6,Uc w1.heap.size),(8,Uc w3.heap.size),(11,sv),(12,nv),(18,ov),(83,Ub ml.length),(84,Ub i)])
  (λi w=>i<=ml.length/\Own w y.heap.size 4 dh sv (J7 ml nl)/\Own w y.heap.size 4 dh nv (Fg ml.length (λk=>!okl.getD k false) i)/\Own w O.heap.size 4 dh ov okl/\Ext y w) (λi=>ml.length -i) 0 TJ ⟨RU _,j,l,K,e10'⟩ ?_
 clear j l K;rintro i w11 ⟨hi,j,l,K,E⟩
 refine UR ?_;apply ld rfl<;>intro h
 .have Q:i<ml.length:=by simp at h;omega
  refine Ux ?_;refine fg (i:=(i:Int)) rfl rfl rfl rfl rfl K TK TK TV (λu q hu=>?_);obtain rfl:=hu.bool;have hget:okl[((i:Nat):Int).toNat]'(by rw[Oy];omega)=okl.getD i false:=by
   rw[Pl,Pq TK];rfl
  rw[hget];refine U9 ?_;refine Wk rfl rfl rfl rfl l TK (by rw[Fi];omega) TV TV (VF _ _ _) (λo q hno12 hg12=>?_);rw[Oy,Fj]at hno12
  have C:=E.grown hg12 E.size (λg n=>by rw[hnb]at n;cases n;exact hnb5);refine Ui ?_;exact m5 (i+1) TJ ⟨Q,j.keptN hg12 (λg n e=>by rw[hnb]at e;rw[J]at n;cases n;cases e;exact hsn rfl),hno12,K.keptN hg12 (λg n e=>by rw[hnb]at e;cases e;have:=(K.lt _ n).1;omega),C⟩ TK
 obtain rfl:i=ml.length:=by simp at h;omega
 rw[Fh,<-V]at l
 clear K V P;have D:=D.ext E;have x:=x.ext E;have hE11:=hE5.trans E;have hn:=hn.up E;have m:=m.ext E;have T:=nB w11 (mo:=mo) (mc:=mc) (ml:=ml.length) (hs.up hE11) (hf.up hE11) hn hz hstp;unfold Jf at T
 refine U1 ?_;refine eK T ?_;rintro dv o ⟨hod,C⟩
 have D:=D.ext C;have x:=x.ext C;have m:=m.ext C;have hE12:=hE11.trans C;have hn:=hn.up C;have j:=j.extN C;have l:=l.extN C;obtain⟨do',dc,rfl⟩:=hod.val;clear T;skip;refine r4 rfl rfl rfl rfl ?_;skip;refine eC (λw13 d e13=>?_);skip;refine f7 d (λw14 d hg14=>?_);have e14:Ext o w14:=e13.grown hg14 e13.size TX;have hl21:=d.lt;have x:=x.ext e14;have m:=m.ext e14;have hz14:=e14.size;have hz12:=hE12.size;clear e13 hg14;have d:Blk w14 o.heap.size 57 [.slice do' (nw (ns,fl) nl).length dc,Ub 0,Ub 0,.slice none 0 0,.slice none 0 0]:=d;have hstl:(J7 ml nl).length=nl.length:=by unfold J7;rw[P4,P7,hnl]
 have hnvl:(Ch ml nl).length=nl.length:=by rw[Ci hnl,P4,P7,hnl]
 obtain⟨so',sc',rfl⟩:=j.val;obtain⟨no',nc',rfl⟩:=l.val;have hss:Sl o (dk o) so' sc' (J7 ml nl):=by
  obtain⟨a,c,e,h⟩:=j.oldN.sl;obtain⟨rfl,_,rfl⟩:=SV e;exact h
 have hns:Sl o (dk o) no' nc' (Ch ml nl):=by
  obtain⟨a,c,e,h⟩:=l.oldN.sl;obtain⟨rfl,_,rfl⟩:=SV e;exact h
 have hf1:=λw (U:Ext o w)=>IF w (mo:=mo) (mc:=mc) (ml:=ml.length) (hn.up U) (hss.up U) hstl TK hrow
 have hf2:=λw (U:Ext o w)=>IF w (mo:=mo) (mc:=mc) (ml:=ml.length) (hn.up U) (hns.up U) hnvl TK hrow
 unfold Jf at hf1 hf2
 unfold rr;clear j l hss hns hn;have hb8l:=(x.lt);have h8ne:w3.heap.size≠o.heap.size:=by have:=E.size;have:=C.size;omega
 have X:w1.heap.size≠o.heap.size:=by have:=E.size;have:=C.size;omega
 refine UD ?_;refine eK (hf1 w14 e14) ?_;rintro _ w15 ⟨sx,rfl,t,e15⟩
 obtain⟨sxo,sxc,rfl⟩:=t.val;have x:=x.ext e15;have m:=m.ext e15;have d:=d.ext e15;have hz15:=e15.size;have e15x:=e14.trans e15;refine Vc ?_;refine f7 d (λw16 d H=>?_);refine Va ?_;refine f7 d (λw17 d G=>?_);have n21:∀{v:Value} {xs:List Int} {w:World},Own w w14.heap.size 3 dh v xs->∀g,v.ownBlock=some g->¬(some g=some o.heap.size):=λh g n e=>by have:=(h.lt g n).1;cases e;omega
 have t:=(t.keptN H (λg n e=>n21 t g n e));have t:=(t.keptN G (λg n e=>n21 t g n e));have x:=(x.kept H (λe=>h8ne (R4 e))).kept G (λe=>h8ne (R4 e));have m:=(m.kept H (λe=>X (R4 e))).kept G (λe=>X (R4 e));have e16:Ext o w16:=(e15x.grown H e15x.size TX);have e17:Ext o w17:=(e16.grown G e16.size TX);have d:Blk w17 o.heap.size 57 [.slice do' (nw (ns,fl) nl).length dc,Ub (rG nl (J7 ml nl)).1,Ub 0,.slice sxo (rG nl (J7 ml nl)).2.length sxc,.slice none 0 0]:=d;refine UD ?_;refine eK (hf2 w17 e17) ?_;rintro _ w18 ⟨nx,rfl,z,e18⟩
 obtain⟨nxo,nxc,rfl⟩:=z.val;have m:=m.ext e18;have d:=d.ext e18;have e18x:=e17.trans e18;have t:=t.extN e18;have hz17:=e17.size;refine Vc ?_;refine f7 d (λw19 d N=>?_);refine Va ?_;refine f7 d (λw20 d M=>?_);have z:=z.low (show w14.heap.size<=w17.heap.size by have:=H.size;have:=G.size;omega);have t:=(t.keptN N (λg n e=>n21 t g n e));have t:=(t.keptN M (λg n e=>n21 t g n e));have z:=(z.keptN N (λg n e=>n21 z g n e));have z:=(z.keptN M (λg n e=>n21 z g n e));have m:=(m.kept N (λe=>X (R4 e))).kept M (λe=>X (R4 e));have e19:Ext o w19:=(e18x.grown N e18x.size TX);have e20:Ext o w20:=(e19.grown M e19.size TX);have d:Blk w20 o.heap.size 57 [.slice do' (nw (ns,fl) nl).length dc,Ub (rG nl (J7 ml nl)).1,Ub (rG nl (Ch ml nl)).1,.slice sxo (rG nl (J7 ml nl)).2.length sxc,.slice nxo (rG nl (Ch ml nl)).2.length nxc]:=d;have hod:=hod.extN e20;have hE20:=hE12.trans e20;clear H G N M e17 e18 e18x e15 e15x hf1 hf2;refine UD ?_;refine f7 m (λw21 m hg21=>?_);have m6:∀{v:Value} {xs:List Int} {B:Nat},w1.heap.size<B->Own w20 B 3 dh v xs->Own w21 B 3 dh v xs:=λhB h=>h.keptN hg21 (λg n e=>by cases e;have:=(h.lt _ n).1;omega)
 have hod:=m6 (by have:=E.size;omega) hod;have t:=m6 TK t;have z:=m6 TK z;refine Uf ?_;exact fG m ⟨_,_,_,rfl,hod.low (RU _),t.low (RU _),z.low (RU _),hE20.grown hg21 hE20.size (λg n=>by cases n;exact hs1)⟩
def cW(w0:World){so fo:Option Addr}{sc fc:Nat}{ns:List cK}{fl:List cJ}(a:Sl w0 (dk w0) so sc ns)(hf:Sl w0 (dk w0) fo fc fl)(tok st:Int):
  Rt Vy 11 [FC so sc fo fc ns.length fl.length,Ub tok,Ub st].toArray w0 λv w'=>∃dv sv nv,v=.tuple ⟨[re dv sv nv (A9 (ns,fl) tok st).1.still (A9 (ns,fl) tok st).1.never,Ub (A9 (ns,fl) tok st).2]⟩/\
   Rd w' (dk w') dv (A9 (ns,fl) tok st).1.dead/\Rd w' (dk w') sv (A9 (ns,fl) tok st).1.toStill/\Rd w' (dk w') nv (A9 (ns,fl) tok st).1.toNever/\Ext w0 w':=
 Oa (cY w0 a hf tok st) (by rintro e w' ⟨v,rfl,dv,sv,nv,h,h1,h2,h3,b⟩;exact⟨v,rfl,dv,sv,nv,h,h1.oldN,h2.oldN,h3.oldN,b⟩)
def ul{nl:List (List cI)}{n:Nat}(h:n<nl.length):(ui nl).getD n []=KN nl n:=by unfold ui;rw[Pl,Pu,Pv h];rfl
def toRow_mem{nl:List (List cI)}{n:Nat}:x∈KN nl n↔∃e∈nl.getD n [],e.2=x:=by unfold KN;rw[Qv]
section
variable {p:cM}{ml:List (List Int)}{nl:List (List cI)}
theorem yx{is:List Bool}:(idxOf (λy=>true==y) is= -1/\true∉is)\/∃n:Nat,idxOf (λy=>true==y) is=(n:Int)/\n<is.length/\is.getD n false=true:=by
 unfold idxOf;cases e:is.findIdx? (λy=>true==y)with
 |none=>
  refine .inl ⟨rfl,λh=>?_⟩;have:=Pb.1 e true h;simp at this
 |some i=>
  obtain⟨h1,h2,_⟩:=Pc.1 e;refine .inr ⟨i,rfl,h1,?_⟩;rw[Pl,Pq h1];simpa using h2
end
def Ga{g b:bV}{f:List Int}(h:∀n x,x∈g.getD n []->x∈b.getD n []){n:Nat}(hn:Rch g f n):Rch b f n:=by
 induction hn with
 |base a=>exact .base a
 |step _ a c=>exact .step c (h _ _ a)
def rT{N:Nat}{fl:List cJ}:∀n x,x∈(rR N fl).getD n []->x∈(rR N fl.reverse).getD n []:=by
 intro n x a;unfold rR at a⊢;by_cases hn:n<N
 .rw[BD hn]at a⊢;rw[Pa,Qj,QB];exact a
 .rw[Pl,Pr (by simpa using hn)]at a;cases a
def kW{ns:List cK}{fl:List cJ}(h:kU (ns,fl)=0):kU (ns,fl.reverse)=0:=by
 unfold kU at h⊢;dsimp only at h⊢;rw[P9,OF];have c:(range ns.length).any (iN (ns,fl.reverse))=(range ns.length).any (iN (ns,fl)):=gZ λi _=>by unfold iN;dsimp only;rw[y_,D7]
 rw[c];split at h
 .cases h
 rename_i h1;rw[Tm h1];split at h
 .rename_i h2;exact absurd h h2
 rename_i h2;rw[Tm h2];split at h
 .cases h
 rename_i h3;rw[Tm h3];split at h
 .cases h
 rename_i h4;rw[Tm h4];split at h
 .cases h
 rename_i e;rw[Tm e];unfold kX at h⊢;split at h
 .cases h
 .rename_i d;rw[Tm];rintro⟨n,hn,b⟩;exact d ⟨n,hn,λa=>b (Ga rT a)⟩
def JN{ns:List cK}{fl:List cJ}(h:(JL (ns,fl)).2=0):(JL (ns,fl.reverse)).2=0:=by obtain⟨h1,_,h3⟩:=JM h;unfold JL;rw[Tm (by rw[kW h1];simp),Tm (by rw[show(JU (ns,fl.reverse)).length=(JU (ns,fl)).length from J1 _];omega)]
def CZ{α:Type}[DecidableEq α]:∀{l C:List α},l.Nodup->(∀x∈l,x∈C)->l.length<=C.length
 |[],_,_,_=>RU _
 |a::l,C,hd,h=>by rw[QG]at hd;have c:=h a (Qq ..);have d:=CZ (l:=l) (C:=C.erase a) hd.2 λx b=>(Qr (λe=>hd.1 (by rw[<-e];exact b))).2 (h x (Qp _ b));rw[P2 c]at d;have:=List.length_pos_of_mem c;rw[PY];omega
structure ClM(p:cM)(tok st:Int)(C:List (List Int)):Prop where
 begin:iZ p∈C
 fire:∀m∈C,∀k∈jQ p m,(rt p m k).2=0/\(rt p m k).1∈C
 few:∀m∈C,K0 tok m=false
 len:(C.length:Int)<=st
structure InC(C l:List (List Int)):Prop where
 nd:l.Nodup
 sub:∀x∈l,x∈C
section
variable {p:cM}{tok st:Int}{C:List (List Int)}
theorem ClM.put(h:ClM p tok st C){s:Sr}{m:List Int}{fr:Int×Int}(b:InC C s.1)(c:m∈C):(FQ tok st s m fr).2.2=0/\InC C (FQ tok st s m fr).1.1:=by
 unfold FQ;rw[Tm (by rw[h.few m c];simp)];by_cases h1:m∈s.1
 .rw[Tn h1];exact⟨rfl,b⟩
 .rw[Tm h1];have h2:(s.1++[m]).Nodup:=QF.2 ⟨b.nd,by simp,λx a y d e=>by rw[QC.1 d]at e;exact h1 (e▸a)⟩;have h3:∀x∈s.1++[m],x∈C:=λx a=>(Ql.1 a).elim (b.sub x) λa=>by rw[QC.1 a];exact c
  have h4:=CZ h2 h3;rw[PX]at h4;simp only[PY,P5]at h4;rw[Tm (by have:=h.len;omega)];exact⟨rfl,h2,h3⟩
theorem ClM.edges(h:ClM p tok st C){n:Int}{m:List Int}:∀(l:List Int) (s:Sr) (out:List cI),(∀k∈l,(rt p m k).2=0/\(rt p m k).1∈C)->InC C s.1->(oB p tok st n m l s out).2.2=0/\InC C (oB p tok st n m l s out).1.1
 |[],s,out,_,a=>⟨rfl,a⟩
 |k::r,s,out,b,a=>by obtain⟨h1,h2⟩:=b k (Qq ..);obtain⟨h3,h4⟩:=h.put (fr:=(n,k)) a h2;unfold oB;rw[Tm (by rw[h1];simp),Tm (by rw[h3];simp)];exact h.edges r _ _ (λk c=>b k (Qp _ c)) h4
theorem ClM.run(h:ClM p tok st C):∀(f n:Nat) (s:Sr) (nx:List (List cI)),InC C s.1->(Hi p tok st f n s nx).2.2=0/\InC C (Hi p tok st f n s nx).1.1
 |0,n,s,nx,a=>⟨rfl,a⟩
 |f+1,n,s,nx,a=>by
  unfold Hi;split
  .rename_i hn;have b:s.1.getD n []∈C:=by rw[Pl,Pq hn];exact a.sub _ (PL hn)
   obtain⟨h1,h2⟩:=h.edges (n:=(n:Int)) (m:=s.1.getD n []) (jQ p (s.1.getD n [])) s [] (h.fire _ b) a;rw[Tm (by unfold oz;rw[h1];simp)];exact h.run f (n+1) _ _ h2
  .exact⟨rfl,a⟩
theorem ClM.explore(h:ClM p tok st C)(a:(JL p).2=0)(c:Hb tok st=0):(qa p tok st).2=0/\InC C (qa p tok st).1.1:=by
 obtain⟨h1,h2⟩:=h.put (s:=([],[],(0,0))) (fr:=(-1,-1)) ⟨List.Pairwise.nil,λx b=>by cases b⟩ h.begin;obtain⟨h3,h4⟩:=h.run 201 0 _ [] h2;have d:runB p tok st=Hi p tok st 201 0 (FQ tok st ([],[],(0,0)) (iZ p) (-1,-1)).1 []:=by unfold runB;rw[Tm (by rw[h1];simp)]
 unfold qa Hl;rw[Tm (show¬(JL p).2≠0 by rw[a];simp),Tm (by rw[c];simp),d,Tm (by rw[h3];simp)];exact⟨rfl,h4⟩
end
section
variable {ns:List cK}{fl:List cJ}{tok st:Int}
theorem i5:iZ (ns,fl.reverse)=(iZ (ns,fl)).reverse:=by unfold iZ;dsimp only;rw[Qj];rfl
theorem ru{p:cM}{m a:List Int}{k:Int}(b:kO p m=0)(h:d_ p m k a):rt p m k=(a,0):=by obtain⟨h1,h2,h3,h4⟩:=h;unfold rt;rw[Tm (by rw[b];simp),Tm TK,Tm (by rw[h3];simp),h4];rfl
theorem BH{m:List Int}(h:c_ (ns,fl) m):c_ (ns,fl.reverse) m.reverse:=by
 obtain⟨h1,h2⟩:=h;have h1:m.length=fl.length:=h1;refine⟨by simpa using h1,λj=>?_⟩;by_cases hj:j<m.length
 .rw[GS hj];exact h2 _
 .rw[Pl,Pr (by rw[P9];omega)];decide
theorem rE{m:List Int}(d:(JL (ns,fl)).2=0)(c:c_ (ns,fl) m){k:Nat}(b:(k:Int)∈jQ (ns,fl) m)(hf:(rt (ns,fl) m (k:Int)).2=0):
  k<(JU (ns,fl)).length/\((IG ns fl k:Nat):Int)∈jQ (ns,fl.reverse) m.reverse/\rt (ns,fl.reverse) m.reverse ((IG ns fl k:Nat):Int)=((rt (ns,fl) m (k:Int)).1.reverse,0):=by
 have e:m.length=fl.length:=c.1;have g:=BG d c;have a:=BG (JN d) (BH c);have f:=(jW b).2;unfold jQ at b⊢;rw[Tn g]at b;rw[Tn a];exact⟨by omega,jZ e b,ru a (JK e (ry hf).2)⟩
theorem lH(h:(qa (ns,fl) tok st).2=0):ClM (ns,fl.reverse) tok st ((qa (ns,fl) tok st).1.1.map List.reverse):=by
 obtain⟨s,d,j,H,b,M,_⟩:=qd h;generalize (qa (ns,fl) tok st).1.1=ml at*;generalize (qa (ns,fl) tok st).1.2=nl at*;have r:=JN s;refine⟨?_,λx t k A=>?_,λx t=>?_,by rw[P4];exact d.st⟩
 .rw[i5,<-M];refine Qv.2 ⟨_,?_,rfl⟩;rw[Pl,Pq b];exact PL b
 .obtain⟨m,q,rfl⟩:=Qv.1 t;have f:=d.ok m q;have c:=BH f;obtain⟨i,hi,rfl⟩:=Qu.1 q;obtain⟨z,J⟩:=jW A;obtain⟨k,rfl⟩:=Om z;have I:ml[i].reverse.length=fl.reverse.length:=c.1;have L:=BG s f;have w:(k:Int)∈jT (ns,fl.reverse) ml[i].reverse:=by unfold jQ at A;rwa[Tn (BG r c)]at A
  have o:=jZ I w;rw[QT,QT]at o;have g:((IG ns fl.reverse k:Nat):Int)∈jQ (ns,fl) ml[i]:=by unfold jQ;rw[Tn L];exact o
  have a:=j.can i TK;rw[Pl (l:=ml),Pq hi,R1]at a;rw[<-a]at g;obtain⟨e,K,B⟩:=Qv.1 g;obtain⟨E,O,N,D⟩:=j.ed i TK e K;have u:ml.getD i []=ml[i]:=by rw[Pl,Pq hi,R1]
  rw[u]at E D;rw[B]at E D;have v:((IG ns fl.reverse k:Nat):Int)∈jQ (ns,fl) ml[i]:=by rw[<-a];exact g
  obtain⟨_,_,F⟩:=rE s f v E;have n:=II (ns:=ns) (fl:=fl.reverse) (k:=k) TK;rw[QT]at n;rw[n]at F;rw[F];refine⟨rfl,Qv.2 ⟨_,?_,rfl⟩⟩;rw[<-D,Pl,Pq TK];exact PL _
 .obtain⟨m,q,rfl⟩:=Qv.1 t;unfold K0;rw[OF,OD];intro y G;have:=d.le m q y G;simp;omega
theorem qf(h:(qa (ns,fl) tok st).2=0):(qa (ns,fl.reverse) tok st).2=0/\∀m∈(qa (ns,fl.reverse) tok st).1.1,m.reverse∈(qa (ns,fl) tok st).1.1:=by
 obtain⟨b,_⟩:=qd h;have a:Hb tok st=0:=by
  unfold qa Hl at h;rw[Tm (show¬(JL (ns,fl)).2≠0 by rw[b];simp)]at h;by_cases a:Hb tok st=0
  .exact a
  .rw[Tn a]at h;exact absurd h a
 obtain⟨h1,h2⟩:=(lH h).explore (JN b) a;refine⟨h1,λm c=>?_⟩;obtain⟨x,d,rfl⟩:=Qv.1 (h2.sub m c);rwa[QT]
theorem qg(h:(qa (ns,fl) tok st).2=0):∀m∈(qa (ns,fl) tok st).1.1,m.reverse∈(qa (ns,fl.reverse) tok st).1.1:=by have:=(qf (ns:=ns) (fl:=fl.reverse) (qf h).1).2;rwa[QT]at this
theorem BK(h:(qa (ns,fl) tok st).2=0):(qa (ns,fl.reverse) tok st).1.1.length=(qa (ns,fl) tok st).1.1.length:=by
 have le:∀{ns:List cK} {fl:List cJ},(qa (ns,fl) tok st).2=0->(qa (ns,fl.reverse) tok st).1.1.length<=(qa (ns,fl) tok st).1.1.length:=λ {ns fl} h=>by obtain⟨h1,h2⟩:=qf h;have a:=(qd h1).2.1.nd;have:=CZ (l:=(qa (ns,fl.reverse) tok st).1.1) (C:=(qa (ns,fl) tok st).1.1.map List.reverse) a λm b=>Qv.2 ⟨_,h2 m b,QT _⟩;rwa[P4]at this
 have h1:=le h;have h2:=le (qf h).1;rw[QT]at h2;omega
end
noncomputable def t6(ns:List cK)(fl:List cJ)(tok st:Int)(m:Nat):Nat:=(qa (ns,fl.reverse) tok st).1.1.idxOf ((qa (ns,fl) tok st).1.1.getD m []).reverse
section
variable {ns:List cK}{fl:List cJ}{tok st:Int}
theorem t7(h:(qa (ns,fl) tok st).2=0){m:Nat}(c:m<(qa (ns,fl) tok st).1.1.length):t6 ns fl tok st m<(qa (ns,fl.reverse) tok st).1.1.length/\(qa (ns,fl.reverse) tok st).1.1.getD (t6 ns fl tok st m) []=((qa (ns,fl) tok st).1.1.getD m []).reverse:=by have b:((qa (ns,fl) tok st).1.1.getD m []).reverse∈(qa (ns,fl.reverse) tok st).1.1:=qg h _ (by rw[Pl,Pq c];exact PL c);have a:=PV b;refine⟨a,?_⟩;unfold t6;rw[Pl,Pq a];exact PI a
theorem Cc{l:List (List Int)}(h:l.Nodup){i j:Nat}(hi:i<l.length)(hj:j<l.length)(e:l.getD i []=l.getD j []):i=j:=by rw[Pl,Pq hi,Pl,Pq hj]at e;exact(PJ h).1 (by simpa using e)
theorem t8(h:(qa (ns,fl) tok st).2=0){m:Nat}(a:m<(qa (ns,fl) tok st).1.1.length):t6 ns fl.reverse tok st (t6 ns fl tok st m)=m:=by obtain⟨h1,h2⟩:=t7 h a;obtain⟨h3,h4⟩:=t7 (qf h).1 h1;rw[QT]at h3 h4;rw[h2,QT]at h4;exact Cc (qd h).2.1.nd h3 a h4
theorem ud(h:(qa (ns,fl) tok st).2=0):t6 ns fl tok st 0=0:=by obtain⟨_,_,_,_,d,e,_⟩:=qd h;obtain⟨h1,h2⟩:=t7 h d;obtain⟨_,a,_,_,b,c,_⟩:=qd (qf h).1;refine Cc a.nd h1 b ?_;rw[h2,e,c,i5]
theorem Jj(h:(qa (ns,fl) tok st).2=0):SpH (t6 ns fl tok st) (IG ns fl) (IG ns fl.reverse) (JL (ns,fl)).1 (qa (ns,fl) tok st).1.2 (JL (ns,fl.reverse)).1 (qa (ns,fl.reverse) tok st).1.2:=by
 have J:=(qf h).1;have K:=qe h;have z:=qe J;obtain⟨B,E,o,Q,T,U,_⟩:=qd h;obtain⟨u,v,f,w,P,S,_⟩:=qd J;have O:(JL (ns,fl)).1=JU (ns,fl):=(JM B).2.1;have F:(JL (ns,fl.reverse)).1=JU (ns,fl.reverse):=(JM u).2.1;have A:=λm=>@t7 ns fl tok st h m;rw[O]at K⊢;rw[F]at z⊢;generalize t6 ns fl tok st=γ at*;generalize (qa (ns,fl) tok st).1.1=ml at*;generalize (qa (ns,fl) tok st).1.2=nl at*;generalize (qa (ns,fl.reverse) tok st).1.1=ml' at*;generalize (qa (ns,fl.reverse) tok st).1.2=nl' at*;have mk:∀{m:Nat},m<ml.length->c_ (ns,fl) (ml.getD m []):=λg=>E.ok _ (by rw[Pl,Pq g];exact PL g);have tback:∀{k:Nat},k<(JU (ns,fl.reverse)).length->IG ns fl.reverse k<(JU (ns,fl)).length/\IG ns fl (IG ns fl.reverse k)=k:=λd=>by have h1:=(IH d).1;have h2:=II d;rw[QT]at h1 h2;exact⟨h1,h2⟩
 refine⟨K,z,?_,λm g=>?_,λk d=>⟨(IH d).1,II d⟩,λk d=>tback d,λk d=>IJ d,λm g e s=>?_,λm g t n=>?_⟩
 .intro m g i j hi hj s;have R:=f.can m g;have G:((nl'.getD m []).map Prod.fst).Nodup:=by
   rw[R];unfold jQ;split
   .exact List.Pairwise.map _ (λa b H e=>H (by have e:(a:Int)=(b:Int):=e;omega)) (List.Pairwise.filter _ QH)
   .exact List.Pairwise.nil
  rw[tJ hi,tJ hj]at s;exact(PJ (h₀:=by simpa using hi) (h₁:=by simpa using hj) G).1 (by simpa using s)
 .rw[w];exact(A m TK).1
 .obtain⟨g1,g2⟩:=A m TK;obtain⟨N,X,W,M⟩:=o.ed m g e s;have c:e.1∈jQ (ns,fl) (ml.getD m []):=by rw[<-o.can m g];exact Qv.2 ⟨e,s,rfl⟩
  obtain⟨r,x⟩:=jW c;obtain⟨k,d⟩:=Om r;rw[d]at N M c;obtain⟨V,I,L⟩:=rE B (mk TK) c N;rw[<-g2]at I L;rw[<-f.can _ TK]at I;obtain⟨t,n,l⟩:=Qv.1 I;obtain⟨d1,d2,d3,d4⟩:=f.ed _ TK t n;rw[l,L]at d4;obtain⟨g3,g4⟩:=A e.2.toNat TK;have D:t.2.toNat=γ e.2.toNat:=Cc v.nd TK g3 (by rw[g4,M];exact d4);have:t=(((IG ns fl e.1.toNat:Nat):Int),((γ e.2.toNat:Nat):Int)):=by rw[d,Oy,<-D,Oz d2,<-l]
  rw[<-this];exact n
 .obtain⟨g1,g2⟩:=A m TK;have q:=mk (m:=m) TK;have c:t.1∈jQ (ns,fl.reverse) (ml'.getD (γ m) []):=by rw[<-f.can _ TK];exact Qv.2 ⟨t,n,rfl⟩
  rw[g2]at c;obtain⟨r,x⟩:=jW c;obtain⟨k,d⟩:=Om r;rw[d]at c x;have y:(k:Int)∈jT (ns,fl.reverse) (ml.getD m []).reverse:=by unfold jQ at c;rwa[Tn (BG u (BH q))]at c
  have h2:=jZ (by rw[P9,P9];exact q.1) y;rw[QT,QT]at h2;have h3:((IG ns fl.reverse k:Nat):Int)∈jQ (ns,fl) (ml.getD m []):=by unfold jQ;rw[Tn (BG B q)];exact h2
  rw[<-o.can m g]at h3;obtain⟨e,s,l⟩:=Qv.1 h3;refine⟨e,s,?_⟩;rw[l,Oy,(tback TK).2,d]
end
section
variable {γ δ σ τ:Nat->Nat}{sl sl':List cO}{nx nx':List (List cI)}{ml ml':List (List Int)}
theorem SpH.does(h:SpH γ σ τ sl nx sl' nx'){x:Int}(a:x∈nK sl nx):x∈nK sl' nx':=by
 unfold nK at a⊢;obtain⟨r,d,a⟩:=Qt.1 a;obtain⟨e,c,rfl⟩:=Qv.1 a;obtain⟨m,b,rfl⟩:=Qu.1 d;rw[<-s_ b]at c;have h1:=h.edge m b e c;have h2:=h.ok.ed m b e c;refine Qt.2 ⟨_,?_,Qv.2 ⟨_,h1,?_⟩⟩
 .rw[s_ (h.g m b)];exact PL _
 .unfold CH;dsimp only;rw[Oy,h.node _ TK]
theorem SpH.many(h:SpH γ σ τ sl nx sl' nx')(d:eA nx)(hd:∀m,m<nx.length->δ (γ m)=m):it nx nx.length<=it nx' nx'.length:=by
 have h1:((range (it nx nx.length)).map (JA γ σ nx nx')).Nodup:=by rw[List.nodup_iff_pairwise_ne,QO];refine List.Pairwise.imp_of_mem (λ {a b} k g c f=>c ?_) QH;have h1:=h.back d hd (QA.1 k);rw[f,h.back d hd (QA.1 g)]at h1;exact h1.symm
 have h2:=CZ h1 (C:=range (it nx' nx'.length)) λx e=>by obtain⟨j,hj,rfl⟩:=Qv.1 e;obtain⟨n,i,l⟩:=h.at (QA.1 hj);exact QA.2 l.lt
 simpa using h2
theorem ends_mem{ml:List (List Int)}{x:Int}:x∈o8 ml↔∃i,i<ml.length/\oW (ml.getD i [])=true/\(i:Int)=x:=by
 unfold o8 Is;rw[Qv];constructor
 .rintro⟨i,hi,rfl⟩;obtain⟨h1,h2⟩:=Qs.1 hi;exact⟨i,QA.1 h1,h2,rfl⟩
 .rintro⟨i,h1,h2,rfl⟩;exact⟨i,Qs.2 ⟨QA.2 h1,h2⟩,rfl⟩
structure MkH(γ:Nat->Nat)(nx nx':List (List cI))(ml ml':List (List Int)):Prop where
 l:nx.length=ml.length
 l':nx'.length=ml'.length
 e:∀m,m<ml.length->oW (ml'.getD (γ m) [])=oW (ml.getD m [])
theorem SpH.rchT(h:SpH γ σ τ sl nx sl' nx')(g:MkH γ nx nx' ml ml'){k:Nat}(m:Rch (Lh (ui nx)) (o8 ml) k):Rch (Lh (ui nx')) (o8 ml') (γ k):=by
 induction m with
 |@base x b=>
  obtain⟨i,h1,h2,rfl⟩:=ends_mem.1 b;have:=h.g i (by rw[g.l];exact h1);refine Rch.base (x:=((γ i:Nat):Int)) (ends_mem.2 ⟨_,by rw[<-g.l'];exact this,?_,rfl⟩);rw[g.e i h1];exact h2
 |@step n x _ b l=>
  have a:n<(Lh (ui nx)).length:=by apply Ob;intro h;rw[Pl,Pr TK]at b;cases b
  have d:=Dx (Lk (ui nx)) n x b;rw[Li]at a d;have f:((x.toNat:Nat):Int)∈(Lh (ui nx)).getD n []:=by rw[show((x.toNat:Nat):Int)=x by omega];exact b
  obtain⟨h1,h2⟩:=(Lj a).1 f;rw[uj]at h1 a;rw[ul h1]at h2;obtain⟨e,p,j⟩:=toRow_mem.1 h2;have h3:=h.edge _ h1 e p;rw[j,Oy]at h3;have o:=h.g n a;have c:=h.g _ h1;exact Rch.step (x:=((γ x.toNat:Nat):Int)) l ((Lj (by rw[uj];exact o)).2 ⟨by rw[uj];exact c,by rw[ul c];exact toRow_mem.2 ⟨_,h3,rfl⟩⟩)
theorem Cj(d:nx.length=ml.length):true∈Ch ml nx↔∃n,n<ml.length/\¬Rch (Lh (ui nx)) (o8 ml) n:=by
 have hn:∀n,n<ml.length->n<(F6 (Lh (ui nx)) (o8 ml)).length:=λn h=>by rw[F8,Li,uj];omega
 unfold Ch;rw[Qv];constructor
 .rintro⟨b,c,h⟩;obtain⟨n,h1,rfl⟩:=Qu.1 c;refine⟨n,by rw[F8,Li,uj]at h1;omega,λa=>?_⟩;rw[(F7 h1).2 a]at h;cases h
 .rintro⟨n,h1,h2⟩;refine⟨_,PL (hn n h1),?_⟩;cases e:(F6 (Lh (ui nx)) (o8 ml))[n]'(hn n h1)with
  |false=>rfl
  |true=>exact absurd ((F7 (hn n h1)).1 e) h2
theorem SpH.never(g:SpH δ τ σ sl' nx' sl nx)(h:SpH γ σ τ sl nx sl' nx')(a:MkH γ nx nx' ml ml')(gm:MkH δ nx' nx ml' ml)(hd:∀m,m<nx.length->δ (γ m)=m)(hn:true∈Ch ml nx):true∈Ch ml' nx':=by obtain⟨n,h1,h2⟩:=(Cj a.l).1 hn;have hn:=a.l;refine(Cj a.l').2 ⟨γ n,by rw[<-a.l'];exact h.g n TK,λb=>h2 ?_⟩;have:=g.rchT gm b;rwa[hd n TK]at this
theorem SpH.still(h:SpH γ σ τ sl nx sl' nx')(a:MkH γ nx nx' ml ml')(hn:true∈J7 ml nx):true∈J7 ml' nx':=by have c:=a.l;have b:=a.l';unfold J7 at hn⊢;obtain⟨n,h1,h2⟩:=Qv.1 hn;have h1:=QA.1 h1;have d:=h.g n TK;refine Qv.2 ⟨γ n,QA.2 TK,?_⟩;unfold J6 at h2⊢;rw[NS,Td]at h2;rw[a.e n h1,h2.2,h.bare TK (O2 h2.1)];rfl
end
def rH{nl:List (List cI)}{is:List Bool}:(rG nl is).1<0↔true∉is:=by
 unfold rG;rcases yx (is:=is)with⟨h1,h2⟩|⟨n,h1,h2,h3⟩
 .rw[h1,Tn TN];exact⟨λ_=>h2,λ_=>by decide⟩
 .rw[h1,Tm TK];refine⟨λh=>absurd (show(n:Int)<0 from h) TK,λh=>absurd ?_ h⟩;rw[<-h3,Pl,Pq h2];exact PL _
section
variable {ns:List cK}{fl:List cJ}{tok st:Int}
theorem oX{m:List Int}:oW m.reverse=oW m:=by unfold oW;rw[OF]
theorem Jk(h:(qa (ns,fl) tok st).2=0):SpH (t6 ns fl.reverse tok st) (IG ns fl.reverse) (IG ns fl) (JL (ns,fl.reverse)).1 (qa (ns,fl.reverse) tok st).1.2 (JL (ns,fl)).1 (qa (ns,fl) tok st).1.2:=by have:=Jj (qf h).1;rwa[QT]at this
theorem BZ(h:(qa (ns,fl) tok st).2=0):MkH (t6 ns fl tok st) (qa (ns,fl) tok st).1.2 (qa (ns,fl.reverse) tok st).1.2 (qa (ns,fl) tok st).1.1 (qa (ns,fl.reverse) tok st).1.1:=by obtain⟨_,_,_,b,_⟩:=qd h;obtain⟨_,_,_,a,_⟩:=qd (qf h).1;exact⟨b,a,λm c=>by rw[(t7 h c).2,oX]⟩
theorem B0(h:(qa (ns,fl) tok st).2=0):MkH (t6 ns fl.reverse tok st) (qa (ns,fl.reverse) tok st).1.2 (qa (ns,fl) tok st).1.2 (qa (ns,fl.reverse) tok st).1.1 (qa (ns,fl) tok st).1.1:=by have:=BZ (qf h).1;rwa[QT]at this
theorem t_(h:(qa (ns,fl) tok st).2=0):∀m,m<(qa (ns,fl) tok st).1.2.length->t6 ns fl.reverse tok st (t6 ns fl tok st m)=m:=λm a=>t8 h (by rwa[(BZ h).l]at a)
theorem ub(h:(qa (ns,fl) tok st).2=0):∀m,m<(qa (ns,fl.reverse) tok st).1.2.length->t6 ns fl tok st (t6 ns fl.reverse tok st m)=m:=by have:=t_ (qf h).1;rwa[QT]at this
theorem ue(h:(qa (ns,fl) tok st).2=0):t6 ns fl.reverse tok st 0=0:=ud (qf h).1
structure FindR(a b:LFinding):Prop where
 dead:a.dead=b.dead
 still:(a.still<0)↔(b.still<0)
 never:(a.never<0)↔(b.never<0)
theorem rq(h:(qa (ns,fl) tok st).2=0):FindR (A9 (ns,fl) tok st).1 (A9 (ns,fl.reverse) tok st).1:=by
 have d:=(qf h).1;have h1:=Jj h;have h2:=Jk h;have b:=BZ h;have a:=B0 h;have e:(JL (ns,fl)).1=JU (ns,fl):=(JM (qd h).1).2.1;have c:(JL (ns,fl.reverse)).1=JU (ns,fl.reverse):=(JM (qd d).1).2.1;unfold A9;rw[Tm (by rw[h];simp),Tm (by rw[d];simp)];refine⟨?_,?_,?_⟩
 .show nw _ _=nw _ _;rw[e,c]at h1 h2;unfold nw ny;congr 1;refine O6 λn _=>?_;have:((n:Int)∈nK (JU (ns,fl)) (qa (ns,fl) tok st).1.2)=((n:Int)∈nK (JU (ns,fl.reverse)) (qa (ns,fl.reverse) tok st).1.2):=propext ⟨h1.does,h2.does⟩;simp only[this];rfl
 .show(rG _ _).1<0↔(rG _ _).1<0;rw[rH,rH];exact Tq ⟨h1.still b,h2.still a⟩
 .show(rG _ _).1<0↔(rG _ _).1<0;rw[rH,rH];exact Tq ⟨h2.never h1 b a (t_ h),h1.never h2 a b (ub h)⟩
theorem HZ(h:(qa (ns,fl) tok st).2=0):(HT (ns,fl.reverse) tok st).2=(HT (ns,fl) tok st).2:=by have a:=(qf h).1;have h1:=(Jj h).many (Jk h).un' (t_ h);have h2:=(Jk h).many (Jj h).un' (ub h);unfold HT;rw[Tm (by rw[a];simp),Tm (show¬(qa (ns,fl) tok st).2≠0 by rw[h];simp),show it (qa (ns,fl.reverse) tok st).1.2 (qa (ns,fl.reverse) tok st).1.2.length=it (qa (ns,fl) tok st).1.2 (qa (ns,fl) tok st).1.2.length by omega];split<;>rfl
theorem JdgR.all{p:cM}{r:cN}{b:Bool}{s l:List Int}{e:Int}(h:JdgR p r tok st b s l e):e=zk p r tok st:=by
 by_cases a:e=0
 .obtain⟨h1,h2⟩:=h.pre a;unfold zk;rw[Tm (by rw[h1];simp),Tm (by rw[h2];simp)];by_cases h4:r.2.1=4
  .rw[Tn h4,a]
  .obtain⟨d,_,_,c,_⟩:=h.ltl a h4;rw[Tm h4,Tm (by rw[d];simp),c,a]
 .exact h.err a
theorem zm(h:(qa (ns,fl) tok st).2=0){r:cN}{b g:Bool}{s l k l':List Int}{e c:Int}(h1:JdgR (ns,fl) r tok st b s l e)(h2:JdgR (ns,fl.reverse) r tok st g k l' c):c=e/\g=b:=by
 have a:c=e:=by rw[h1.all,h2.all];unfold zk;rw[HZ h]
 refine⟨a,?_⟩;subst a;by_cases a:c=0
 .subst a;obtain⟨_,_,n⟩:=HU (h1.pre rfl).1;obtain⟨_,_,m⟩:=HU (h2.pre rfl).1;have f:rW (ns,fl) tok st=HX (JL (ns,fl)).1 (qa (ns,fl) tok st).1.2:=by unfold rW;rw[n]
  have d:rW (ns,fl.reverse) tok st=HX (JL (ns,fl.reverse)).1 (qa (ns,fl.reverse) tok st).1.2:=by unfold rW;rw[m]
  rw[NU];by_cases h4:r.2.1=4
  .rw[(h1.ctl rfl h4).2.2,(h2.ctl rfl h4).2.2,f,d];exact Ji (Jk h) (Jj h) (ue h) (ud h) (ub h) (t_ h) _
  .obtain⟨_,_,_,_,j,_⟩:=h1.ltl rfl h4;obtain⟨_,_,_,_,i,_⟩:=h2.ltl rfl h4;rw[j,i,f,d];exact Jh (Jk h) (Jj h) (ue h) (ud h) _
 .rw[(h1.bad a).1,(h2.bad a).1]
end
instance:IsF Vy 8:=Vz func8
instance:IsF Vy 9:=Vz func9
def qO(w0:World){ao:Option Addr}{cap:Nat}{xs:List cJ}(a:Sl w0 F ao cap xs)(hF:∀b,F b->b<w0.heap.size)(j:xs.length*16<=140737488355328):
  Rt Vy 8 [.slice ao xs.length cap].toArray w0 λv w'=>Own w' w0.heap.size 48 dh v xs/\Ext w0 w':=by
 have n:=a.len63;refine dR func8 ntmps8 rfl rfl (U5 ?_);apply ld rfl<;>intro h
 .refine Up ?_;refine d6 ⟨?_,p7 _⟩;have l:ao=none:=by simpa using h
  have:xs=[]:=O2 (by have:=a.nil l;have:=a.le;omega);subst this;exact r3
 .refine Uo ?_;refine fD (α:=cJ) rfl rfl (λf e i=>U9 ?_);have c:Ext w0 f:=(NP _ _).grown i T8 T2;refine V7 (F:=dh) rfl rfl rfl rfl e (a.up0 c hF).srcN c.size TY (by simp[maxLen];omega) (by simpa using j) (λv m ho2 d _=>Uf ?_);refine d6 ⟨by simpa using ho2,c.grown d c.size ?_⟩;intro k g;exact(e.lt k g).1
def SwpI(xs ys:List cJ)(i:Nat):Prop:=ys.length=xs.length/\∀j,j<xs.length->ys[j]?=if j<i\/xs.length -1 -i<j then xs[xs.length -1 -j]? else xs[j]?
def SwpI.next{xs ys:List cJ}{i k:Nat}{x y:cJ}(h:SwpI xs ys i)(hi:i<k)(e:k+i+1=xs.length)(d:ys[i]?=some x)(c:ys[k]?=some y):SwpI xs ((ys.set i y).set k x) (i+1):=by
 obtain⟨h1,h2⟩:=h;refine⟨by simpa using h1,λj hj=>?_⟩;have b:=h2 i TK;have a:=h2 k TK;rw[Tm TK,d]at b;rw[Tm TK,c]at a;rw[Py,Py,P_];by_cases a1:k=j
 .subst a1;rw[Tn rfl,Tn TK,Tn TK,show xs.length -1 -k=i by omega,b]
 .rw[Tm a1];by_cases a2:i=j
  .subst a2;rw[Tn rfl,Tn TK,Tn TK,show xs.length -1 -i=k by omega,a]
  .rw[Tm a2,h2 j hj];by_cases a3:j<i\/xs.length -1 -i<j
   .rw[Tn a3,Tn TK]
   .rw[Tm a3,Tm TK]
def SwpI.done{xs ys:List cJ}{i:Nat}(h:SwpI xs ys i)(hi:xs.length<=2*i+1)(h2:2*i<=xs.length):ys=xs.reverse:=by
 obtain⟨h1,h3⟩:=h;refine O4 λj=>?_;by_cases hj:j<xs.length
 .rw[h3 j hj,Px hj];split
  .rfl
  .rw[show xs.length -1 -j=j by omega]
 .rw[Pr TK,Pr (by simpa using hj)]
def ss(w0:World){xs:List cJ}(D:Own w0 B 48 dh v xs):
  Rt Vy 9 [v].toArray w0 λu w'=>u=.tuple #[]/\Own w' B 48 dh v xs.reverse/\w0.grownBy w' v.ownBlock:=by
 refine dR func9 ntmps9 rfl rfl ?_;obtain⟨ao,cap,rfl⟩:=D.val;obtain⟨_,_,ev0,f⟩:=D.sl;obtain⟨rfl,_,rfl⟩:=SV ev0;have W:=f.len63;refine U5 ?_;refine p8 (S:=Nat×Int×List cJ) (λs=>[(0,.slice ao xs.length cap),(2,Ub (s.1:Int)),(3,Ub s.2.1)])
  (λs w=>s.2.1=(xs.length:Int) -1 -s.1/\2*s.1<=xs.length/\SwpI xs s.2.2 s.1/\Own w B 48 dh (.slice ao xs.length cap) s.2.2/\w0.grownBy w (Value.ownBlock (.slice ao xs.length cap))) (λs=>xs.length -s.1) (0,(xs.length:Int) -1,xs) TJ
  ⟨by dsimp only;omega,by dsimp only;omega,⟨rfl,λj hj=>by dsimp only;rw[Tm TK]⟩,D,rfl,rfl,rfl,Rq _,λ_ _ _=>rfl⟩ ?_
 rintro⟨i,z,ys⟩ o ⟨e,hi,hS,ho1,l⟩;dsimp only at e hi hS ho1⊢;have p:=hS.1;refine UR ?_;apply ld rfl<;>intro h
 .simp at h;obtain⟨k,rfl⟩:=Om (show 0<=z by omega);obtain⟨_,_,ev1,g⟩:=ho1.sl;obtain⟨rfl,_,rfl⟩:=SV ev1;have C:=ho1;obtain⟨_,rfl⟩|⟨b,off,cp,cur,ev,ho1⟩:=ho1
  .simp at p;omega
  obtain⟨rfl,_,rfl⟩:=SV ev;refine UC ?_;refine aI 13 15 (λ_:World=>True) (λz:World=>z.heap[b]?=(drew o).heap[b]?)
   (KL 1 [Wr 0,Wr 1,Wr 2,Wr 3,Wr 4,Wr 5,Wr 8,Wr 9]++(KL 2 [Wr 6,Wr 7,Wr 10,Wr 11]++(KL 1 [Wr 12]++((13,0)::(KL 1 [Wr 14]++[(15,3)]))))) mixed TL trivial rfl ?_
  refine We [Wr 0,Wr 1,Wr 2,Wr 3,Wr 4,Wr 5,Wr 8,Wr 9] rfl (Vr ?_);refine ba (HP.early [Wr 6,Wr 7,Wr 10,Wr 11] rfl (cb (k:=k) (F:=λc=>dh c\/Value.ownBlock (.slice (some ⟨b,off,none⟩) xs.length cap)=some c) (λz e c d=>d.elim (λh=>h.elim) λd=>by cases d;exact e) rfl rfl rfl rfl rfl (by rw[p];rfl) rfl (g.mono T5 λ_ h=>h) TK TV (λK V r=>cb (k:=i) (F:=λc=>dh c\/Value.ownBlock (.slice (some ⟨b,off,none⟩) xs.length cap)=some c) (λz e c d=>d.elim (λh=>h.elim) λd=>by cases d;exact e) rfl rfl rfl rfl rfl (by rw[p];rfl) rfl (g.mono T5 λ_ h=>h) TK TV (λM U q=>Vr ?_))));refine ba (We [Wr 12] rfl (cf (α:=cJ) rfl rfl rfl rfl rfl TK TK (Vr ?_)));refine ba ?_;have G:=C.extN (mm o);obtain⟨ev,_⟩|⟨T,off',cp',cur',ev,G⟩:=G
  .cases ev
  obtain⟨I,_,rfl⟩:=SV ev;cases I;obtain⟨es1,ev1,A⟩:=r;obtain⟨es2,ev2,t⟩:=q;obtain⟨J,Q,o2,g2⟩:=HM (P:=Vy) (v:=K) (i:=i) (y:=ys[k]) G TK ⟨es1,ev1,iTar10.ok A⟩;refine Wq rfl (fV (w':=J) rfl (λa m=>?_) (p0 (a_ trivial (λh=>by cases h) ?_)))
  .have n:=m.ev (x:=.tmp 26) rfl;have H:=m.ev (x:=.tmp 21) rfl;simp only[Oy]at n;have N:Sem.run Vy (storeVar 48 ⟨b,off+i*sz cJ,none⟩ K) o.drew=.ok () J:=Q;simp[execOp,n,H,Instr.storeAt,Instr.sureAddr,N]
  refine We [Wr 14] rfl (cf (α:=cJ) rfl rfl rfl rfl rfl TK TK (Vr ?_));refine ba ?_;have R:(ys.set i ys[k]).length=ys.length:=P_;obtain⟨ev,_⟩|⟨T,off',cp',cur',ev,E⟩:=id o2
  .cases ev
  obtain⟨I,_,rfl⟩:=SV ev;cases I;obtain⟨L,O,o3,g3⟩:=HM (P:=Vy) (v:=M) (i:=k) (y:=ys[i]) E TK ⟨es2,ev2,iTar10.ok t⟩;refine HP.last rfl (fV (w':=L) rfl (λa m=>?_) (p0 (bx ?_)))
  .have n:=m.ev (x:=.tmp 27) rfl;have H:=m.ev (x:=.tmp 25) rfl;simp only[Oy]at n;simp[execOp,n,H,Instr.storeAt,Instr.sureAddr,O]
  refine UL ?_;rw[R,show Value.slice (some ⟨b,off,none⟩) ys.length cap=.slice (some ⟨b,off,none⟩) xs.length cap by rw[p]]at o3;refine m5 (i+1,(k:Int) -1,(ys.set i ys[k]).set k ys[i]) TJ ⟨by dsimp only;omega,by dsimp only;omega,hS.next (k:=k) TK TK (Pq _) (Pq _),o3,uC (uC (uC l ((mm o).grw _)) g2) g3⟩ TP
 .simp at h;refine Un ?_;refine aW rfl ⟨rfl,?_,l⟩;rw[<-hS.done TK hi];exact ho1
def ew(w0:World)(hM:MaxH w0){so fo lo:Option Addr}{sc fc:Nat}{ns:List cK}{fl:List cJ}{r:cN}(hs:Sl w0 (dk w0) so sc ns)(hf:Sl w0 (dk w0) fo fc fl)(hl:Sl w0 (dk w0) lo B r.2.2.2.2.1.kids)(hc:Sl w0 (dk w0) C a r.2.2.2.2.2.kids)(hsz:fl.length<=1048576)(tok st:Int):
  Rt Vy 4 [FC so sc fo fc ns.length fl.length,Ha r lo B C a,Ub tok,Ub st].toArray w0 λv w'=>v=.bool true/\Ext w0 w':=by
 refine dU Se ntmps4 rfl rfl ?_;have l:=p7 w0;refine UZ ?_;refine eH λw1 c e1=>?_
 have l:=l.trans e1;skip;refine eH λw2 f e2=>?_
 have c:=c.ext e2;have l:=l.trans e2;refine UR ?_;refine eK (H0 w2 (hM.ext l)) ?_;rintro _ O ⟨rfl,e3⟩
 have c:=c.ext e3;have f:=f.ext e3;have l:=l.trans e3;clear e1 e2 e3;have l4:=c.lt;have l5:=f.lt;refine UY ?_;refine aH 7 mixed TL ?_;refine Vx ?_;refine c7 (λR w' hw'=>ft rfl rfl rfl ((c.ext (mm O)).ext hw') rfl (p0 (a7 rfl T_ rfl))) ?_;refine Vx ?_;refine c7 (λR w' hw'=>ft rfl rfl rfl ((c.ext (mm O)).ext hw') rfl (p0 (a7 rfl T_ rfl))) ?_;refine V1 (λv γ w=>Own w O.heap.size 48 dh v fl/\∀b,v.ownBlock=some b->γ b=4) rfl rfl rfl (λv γ R w w' h e hγ=>⟨h.1.extN e,λb K=>by rw[hγ b (h.1.lt b K).2.1];exact h.2 b K⟩) (λγ w hw=>by
  change WL _ _ _ _ _ _ _
  have E:Ext O w:=(mm O).trans hw;refine eK (qO w (hf.up (l.trans E)) T0 TK) ?_;rintro v w' ⟨I,e'⟩
  exact p0 (a7 rfl e' ⟨I.low E.size,λb K=>by unfold jM;rw[Tm (by have:=(I.lt b K).1;omega)]⟩)) ?_
 refine V1 (λv γ w=>∃uo uc,v=.agg [.slice so ns.length sc,.slice uo fl.length uc].toArray/\Own w O.heap.size 48 dh (.slice uo fl.length uc) fl/\∀b,Value.ownBlock (.slice uo fl.length uc)=some b->γ b=4) rfl rfl rfl (λv γ R w w' ⟨uo,uc,h0,h,h1⟩ e hγ=>⟨uo,uc,h0,h.extN e,λb K=>by rw[hγ b (h.lt b K).2.1];exact h1 b K⟩) (λγ w hw=>by
  intro v28 g28
  change WL _ _ _ _ _ _ _
  obtain⟨I,Q⟩:=g28;obtain⟨uo,uc,rfl⟩:=I.val;refine r4 rfl rfl rfl rfl ?_;exact p0 (a7 rfl T_ ⟨uo,uc,rfl,I,λb K=>by unfold jM;rw[Tn (I.lt b K).2.1];exact Q b K⟩)) ?_
 refine V1 (λv γ w=>∃b,v=Uc b/\O.heap.size<=b/\b<w.heap.size/\Blk w b 25 [.slice none 0 0,.slice none 0 0]/\γ b=6) rfl rfl rfl (λv γ R w w' ⟨b,h0,h1,h2,h3,h4⟩ e hγ=>⟨b,h0,h1,Rv h2 e.size,h3.ext e,by rw[hγ b h2];exact h4⟩) (λγ w hw=>by
  change WL _ _ _ _ _ _ _
  refine eC (λw' K e'=>?_);exact p0 (a7 rfl e' ⟨_,rfl,((mm O).trans hw).size,K.lt,K,by simp[jM]⟩)) ?_
 refine VT λγ w6 hw6 v9 g9 v29 g29 v28 g28=>?_
 change WL _ _ _ _ _ _ _
 obtain⟨b9,rfl,k1,k2,i,k3⟩:=g9;obtain⟨uo,uc,rfl,I,k4⟩:=g29;have E:Ext O w6:=(mm O).trans hw6;have hn9:∀g,Value.ownBlock (.slice uo fl.length uc)=some g->g≠b9:=λg Q e=>by rw[e]at Q;have:=k4 _ Q;omega
 clear g28 k3 k4 hw6;refine f7 i (λw7 i hg7=>p0 (bx ?_));have e7:Ext O w7:=NM E hg7 E.size (λg Q=>by cases Q;exact k1);have I:=I.keptN hg7 (λg Q e=>hn9 g Q (by cases e;rfl));have c:=c.ext e7;have f:=f.ext e7;have hE3:=l;have l:=l.trans e7;have S:=I.lt;have l9:=i.lt;have l37:=e7.size;clear E hg7 e7 k2;refine Uy ?_;refine eK (ss w7 I) ?_;rintro _ w8 ⟨rfl,I,P⟩
 have c:=c.kept P (λe=>by have:=S _ e.symm;omega);have f:=f.kept P (λe=>by have:=S _ e.symm;omega);have i:=i.kept P (λe=>hn9 _ e.symm rfl);have l:Ext w0 w8:=l.grown P l.size (λg Q=>by have:=(S g Q).1;have:=hE3.size;omega);obtain⟨_,_,ev,hfr⟩:=I.oldN.sl;obtain⟨rfl,hlr,rfl⟩:=SV ev;clear I S hn9 P ev k1;rw[hlr]at i
 have k:=p7 w8;refine UD ?_;refine eK (bH w8 (hs.up l) (hf.up l) tok st) ?_;rintro _ w10 ⟨x,y,rfl,E,hy,N⟩
 obtain⟨xo,xc,rfl,_⟩:=E.sl;obtain⟨yo,yc,rfl,_⟩:=hy.sl;clear E hy;have c:=c.ext N;have f:=f.ext N;have i:=i.ext N;have l:=l.trans N;have k:=k.trans N;refine U9 ?_;refine eC (λw11 d e11=>?_);refine f7 d (λw12 d Y=>?_);have M:Ext w10 w12:=e11.grown Y e11.size TX;have c:=c.ext M;have f:=f.ext M;have i:=i.ext M;have l:=l.trans M;have k:=k.trans M;clear N e11 M Y;refine UD ?_;refine eK (bH w12 (fl:=fl.reverse) (hs.up l) (hfr.up k) tok st) ?_;rintro _ w13 ⟨x',y',rfl,hx',hy',H⟩
 obtain⟨xo',xc',rfl,_⟩:=hx'.sl;obtain⟨yo',yc',rfl,_⟩:=hy'.sl;clear hx' hy';have c:=c.ext H;have f:=f.ext H;have i:=i.ext H;have d:=d.ext H;have l:=l.trans H;have k:=k.trans H;refine U9 ?_;refine eC (λw14 j e14=>?_);refine f7 j (λw15 j X=>?_);have G:Ext w13 w15:=e14.grown X e14.size TX;have c:=c.ext G;have f:=f.ext G;have i:=i.ext G;have d:=d.ext G;have l:=l.trans G;have k:=k.trans G;clear H e14 G X;by_cases E:(qa (ns,fl) tok st).2=0
 case neg=>
  have h1:((qa (ns,fl) tok st).2 != 0)=true:=by simp[E]
  have h2:((qa (ns,fl.reverse) tok st).2==0)=false:=by
   rw[S2];intro h
   have:=(qf h).1;rw[QT]at this
   exact E this
  have h3:((qa (ns,fl) tok st).2==0)=false:=by rw[S2];exact E
  refine UR ?_;rw[h1];refine U2 ?_;rw[h2,h3];skip;exact be ⟨rfl,l⟩
 have hy:=(qf E).1;rw[E,hy];have hF:=rq E;refine Uv ?_;refine eK (cW w15 (hs.up l) (hf.up l) tok st) ?_;rintro _ w16 ⟨da,sa,na,rfl,hda,hsa,hna,F⟩
 obtain⟨dao,dac,rfl,kda⟩:=hda.sl;obtain⟨_,_,rfl,_⟩:=hsa.sl;obtain⟨_,_,rfl,_⟩:=hna.sl;clear hsa hna;have c:=c.ext F;have f:=f.ext F;have i:=i.ext F;have d:=d.ext F;have j:=j.ext F;have l:=l.trans F;have k:=k.trans F;refine U9 ?_;refine eC (λw17 m e17=>?_);refine f7 m (λw18 m W=>?_);have D:Ext w16 w18:=e17.grown W e17.size TX;have c:=c.ext D;have f:=f.ext D;have i:=i.ext D;have d:=d.ext D;have j:=j.ext D;have l:=l.trans D;have k:=k.trans D;have hE18:=p7 w18;have kda:=kda.up D;clear F e17 D W;refine UD ?_;refine eK (cW w18 (fl:=fl.reverse) (hs.up l) (hfr.up k) tok st) ?_;rintro _ w19 ⟨db,sb,nb,rfl,hdb,hsb,hnb,A⟩
 obtain⟨dbo,dbc,rfl,kdb⟩:=hdb.sl;obtain⟨_,_,rfl,_⟩:=hsb.sl;obtain⟨_,_,rfl,_⟩:=hnb.sl;clear hsb hnb;have c:=c.ext A;have f:=f.ext A;have i:=i.ext A;have d:=d.ext A;have j:=j.ext A;have m:=m.ext A;have l:=l.trans A;have k:=k.trans A;refine U9 ?_;refine eC (λw20 n e20=>?_);refine f7 n (λZ n V=>?_);have z:Ext w19 Z:=e20.grown V e20.size TX;have c:=c.ext z;have f:=f.ext z;have i:=i.ext z;have d:=d.ext z;have j:=j.ext z;have m:=m.ext z;have l:=l.trans z;have k:=k.trans z;have kda:=kda.up (A.trans z);have kdb:=kdb.up z;have o:=p7 Z;clear A e20 z V hE18;refine UD ?_;refine eK (zG Z (r:=r) (hs.up l) (hf.up l) (hl.up l) (hc.up l) tok st) ?_;rintro _ w22 ⟨⟨q1,s1,l1,x1,ao1,ac1,bo1,bc1,rfl,_,_,hJ⟩,u⟩
 have c:=c.ext u;have f:=f.ext u;have i:=i.ext u;have d:=d.ext u;have j:=j.ext u;have m:=m.ext u;have n:=n.ext u;have l:=l.trans u;have k:=k.trans u;have o:=o.trans u;refine U9 ?_;refine eC (λw23 p e23=>?_);refine f7 p (λw24 p U=>?_);have t:Ext w22 w24:=e23.grown U e23.size TX;have c:=c.ext t;have f:=f.ext t;have i:=i.ext t;have d:=d.ext t;have j:=j.ext t;have m:=m.ext t;have n:=n.ext t;have l:=l.trans t;have k:=k.trans t;have o:=o.trans t;clear u e23 t U;refine UD ?_;refine eK (zG w24 (r:=r) (fl:=fl.reverse) (hs.up l) (hfr.up k) (hl.up l) (hc.up l) tok st) ?_;rintro _ w25 ⟨⟨q2,s2,l2,x2,ao2,ac2,bo2,bc2,rfl,_,_,hJ2⟩,s⟩
 have c:=c.ext s;have f:=f.ext s;have i:=i.ext s;have d:=d.ext s;have j:=j.ext s;have m:=m.ext s;have n:=n.ext s;have p:=p.ext s;have l:=l.trans s;have k:=k.trans s;have o:=o.trans s;refine U9 ?_;refine eC (λw26 J e26=>?_);refine f7 J (λw27 J T=>?_);have q:Ext w25 w27:=e26.grown T e26.size TX;have c:=c.ext q;have f:=f.ext q;have i:=i.ext q;have d:=d.ext q;have j:=j.ext q;have m:=m.ext q;have n:=n.ext q;have p:=p.ext q;have l:=l.trans q;have k:=k.trans q;have o:=o.trans q;clear s e26 q T;obtain⟨rfl,rfl⟩:=zm E hJ hJ2;have hml:=BK E;generalize (qa (ns,fl) tok st).1.1.length=n1 at*
 generalize (qa (ns,fl.reverse) tok st).1.1.length=n2 at*
 subst hml;obtain⟨f1,f2,f3⟩:=hF;refine UE ?_;rw[show(((n2:Nat):Int)==((n2:Nat):Int))=true by simp];refine Vc ?_;refine eK (pB w27 (kda.up o) (kdb.up o)) ?_;rintro _ w28 ⟨rfl,L⟩
 have m:=m.ext L;have n:=n.ext L;have p:=p.ext L;have J:=J.ext L;have l:=l.trans L;clear L;rw[show((A9 (ns,fl) tok st).1.dead==(A9 (ns,fl.reverse) tok st).1.dead)=true by rw[f1];simp];refine Vf ?_;rw[show(decide ((A9 (ns,fl) tok st).1.still<0)==decide ((A9 (ns,fl.reverse) tok st).1.still<0))=true by simp[f2]];refine Vf ?_;rw[show(decide ((A9 (ns,fl) tok st).1.never<0)==decide ((A9 (ns,fl.reverse) tok st).1.never<0))=true by simp[f3]];refine U9 ?_;rw[show(x2==x2)=true by simp];refine U2 ?_;rw[show(q2==q2)=true by simp];skip;exact be ⟨rfl,l⟩
open Go.ChangeShapes
open Go.WideShapes
open Go.ChangeAt
def jD{H:Type}(d:DataW H):1<=Rows.uptoBulk d:=by
 cases d with
 |lit l=>cases l<;>simp[Rows.uptoBulk]
 |nil=>simp[Rows.uptoBulk]
 |ptr d=>simp[Rows.uptoBulk]
 |slice elems spare=>simp[Rows.uptoBulk]
 |agg parts=>simp[Rows.uptoBulk]
 |iface t d=>simp[Rows.uptoBulk]
 |map entries=>simp[Rows.uptoBulk]
 |held h=>simp[Rows.uptoBulk]
def jB{H:Type}(l r:List (DataW H)):Rows.uptoBulkAll (l++r)=Rows.uptoBulkAll l+Rows.uptoBulkAll r:=by
 induction l with
 |nil=>simp[Rows.uptoBulkAll]
 |cons x l a=>simp only[OK,Rows.uptoBulkAll,a];omega
def jy{H:Type}{l:List (DataW H)}(a:Rows.uptoSmall H l=true):Rows.uptoBulkAll l<=1048576:=by simpa[Rows.uptoSmall]using a
class Bk(α:Type)where
 bk:α->Nat
abbrev bk{α:Type}[Bk α]:α->Nat:=Bk.bk
instance:Bk Int:=⟨λ_=>1⟩
instance:Bk ByteArray:=⟨λs=>s.size+1⟩
def js{α:Type}[Bk α]:List α->Nat
 |[]=>0
 |x::r=>bk x+js r
instance vM{α:Type}[Bk α]:Bk (List α):=⟨λl=>js l+1⟩
class Opn(P:Program)(t:TypeId)(α:Type)[Rep α][Bk α]:Prop where
 op:∀{H:Type} {enc:TypeId×Value->H} {w:World} {fuel:Nat} {cs:List Value} {d:DataW H} {ps:List MemPlace},DataW.trod enc P w 0 (λ_=>true) true fuel t cs=some (d,ps)->∃x:α,rd w (dk w) cs x/\bk x<=Rows.uptoBulk d
theorem Opn.int(h:P.underlying t=some (.int .i64)):Opn P t Int where
 op:=by
  intro H enc w fuel cs d ps hd;cases fuel with
  |zero=>simp[DataW.trod]at hd
  |succ fuel=>
   unfold DataW.trod at hd;rw[h]at hd;split at hd<;>try (simp at*;done)
   rename_i k k' n a;simp at a;split at hd
   .rename_i b;simp at hd;obtain⟨rfl,rfl⟩:=hd;exact⟨n,by rw[b.1,<-a];rfl,jD _⟩
   .cases hd
theorem Opn.string(h:P.underlying t=some .string):Opn P t ByteArray where
 op:=by
  intro H enc w fuel cs d ps hd;cases fuel with
  |zero=>simp[DataW.trod]at hd
  |succ fuel=>
   unfold DataW.trod at hd;rw[h]at hd;split at hd<;>try (simp at*;done)
   rename_i s b;split at hd
   .rename_i a;simp at hd;obtain⟨rfl,rfl⟩:=hd;refine⟨s,⟨rfl,a⟩,?_⟩;show s.size+1<=_;simp only[Rows.uptoBulk];have e:s.data.toList.length=s.size:=by rw[NI];rfl
    omega
   .cases hd
def Bz{β:Type}(f:Nat->Option β):∀(n:Nat) (a:List β),(range n).mapM f=some a->a.length=n/\∀i (h:i<a.length),f i=some a[i]
 |0,a,h=>by simp at h;subst h;exact⟨rfl,λi hi=>absurd hi TO⟩
 |n+1,a,h=>by
  rw[QQ,List.mapM_append]at h;simp only[Qc,Qd,RY,R3]at h;cases h1:(range n).mapM f with
  |none=>rw[h1]at h;cases h
  |some l=>
   rw[h1]at h;cases h2:f n with
   |none=>rw[h2]at h;cases h
   |some y=>
    rw[h2]at h;simp at h;subst h;obtain⟨d,hi⟩:=Bz f n l h1;refine⟨by simp[d],λi c=>?_⟩;by_cases b:i<l.length
    .rw[PB b];exact hi i b
    .have:i=n:=by simp at c;omega
     subst this;rw[PC TK];simpa[d]using h2
def By{a:Addr}{n:Nat}{cs:List Value}(h:w.cells? 0 a n=some cs):cs.length=n/\∀j (hj:j<cs.length),w.cell? (a.add j)=some cs[j]:=by unfold World.cells? at h;rw[Tn (RU _)]at h;exact Bz _ n cs h
def I9{e:TypeId}[Rep α][Bk α][L:IsS P t e][U:IsT P e α]{H:Type}{enc:TypeId×Value->H}{fuel:Nat}
  (N:∀{cs:List Value} {d:DataW H} {ps:List MemPlace},DataW.trod enc P w 0 (λ_=>true) true fuel e cs=some (d,ps)->∃x:α,rd w (dk w) cs x/\bk x<=Rows.uptoBulk d)
  {cs:List Value} {d:DataW H} {ps:List MemPlace} (hd:DataW.trod enc P w 0 (λ_=>true) true (fuel+1) t cs=some (d,ps)):∃x:List α,rd w (dk w) cs x/\bk x<=Rows.uptoBulk d:=by
 unfold DataW.trod at hd;rw[L.ok]at hd;obtain⟨T,D,C⟩:=Wm (P:=P) (t:=e) (α:=α);have v:P.cellsOf e=sz α:=by simp[Program.cellsOf,D,C]
 have V:0<sz α:=Rep.pos;split at hd<;>try (simp at*;done)
 .simp at hd;obtain⟨rfl,rfl⟩:=hd;exact⟨[],⟨none,0,rfl,by simp,by simp[maxLen],λ_=>rfl,λi hi=>absurd hi TO⟩,jD _⟩
 .rename_i Z a len cap S;cases S;simp only at hd;split at hd
  .rename_i q;obtain⟨_,O,A⟩:=q;rw[v]at hd;cases B:(range len).mapM (λi=>(w.cells? 0 (a.add (i*sz α)) (sz α)).bind (DataW.trod enc P w 0 (λ_=>true) true fuel e))with
   |none=>rw[B]at hd;cases hd
   |some elems=>
    rw[B]at hd;simp only[R0,To]at hd;obtain⟨rest,_,p⟩:=R2.1 hd;simp only[R7]at p;obtain⟨rfl,_⟩:=p;obtain⟨G,f⟩:=Bz _ len elems B;have one:∀i (h:i<elems.length),∃x:α,(∃b off,some a=some ⟨b,off,none⟩/\dk w b/\∃n,Cells w b (off+i*sz α) n/\rd w (dk w) n x)/\bk x<=Rows.uptoBulk (elems[i]).1:=by
     intro i hi;have h1:=f i hi;cases m:w.cells? 0 (a.add (i*sz α)) (sz α)with
     |none=>rw[m]at h1;cases h1
     |some n=>
      rw[m]at h1;simp only[R0]at h1;obtain⟨x,M,F⟩:=N (d:=(elems[i]).1) (ps:=(elems[i]).2) h1;obtain⟨W,q⟩:=By m;have I:=q 0 TK;have c:a.spot=none:=by
       cases z:a.spot with
       |none=>rfl
       |some k=>
        have h2:=f 0 TK;cases g:w.cells? 0 (a.add (0*sz α)) (sz α)with
        |none=>rw[g]at h2;cases h2
        |some es0=>
         obtain⟨Q,E⟩:=By g;have h3:=E 0 TK;have R:(a.add (0*sz α)).add 0=a:=by simp[Addr.add]
         rw[R]at h3;unfold World.cell? at h3;split at h3
         .simp[z]at h3
         .cases h3
      obtain⟨b,off,sp⟩:=a;simp only at c;subst c;rw[SW]at q I;have r:b<w.heap.size:=SX w _ I;refine⟨x,⟨b,off,rfl,r,n,?_,M⟩,F⟩;intro j u K;obtain⟨hj,rfl⟩:=Pt.1 K;have:=q j hj;rwa[SW]at this
    have all:∀k,k<=elems.length->∃xs:List α,xs.length=k/\(∀i (h:i<xs.length),∃b off,some a=some ⟨b,off,none⟩/\dk w b/\∃n,Cells w b (off+i*sz α) n/\rd w (dk w) n xs[i])/\js xs<=Rows.uptoBulkAll ((elems.map (·.1)).take k):=by
     intro k;induction k with
     |zero=>intro _;exact⟨[],rfl,λi hi=>absurd hi TO,by simp[js,Rows.uptoBulkAll]⟩
     |succ k s=>
      intro X;obtain⟨xs,h1,h2,h3⟩:=s TK;obtain⟨x,h4,Y⟩:=one k TK;refine⟨xs++[x],by simp[h1],?_,?_⟩
      .intro i hi;by_cases o:i<xs.length
       .rw[PB o];exact h2 i o
       .have:i=k:=by simp at hi;omega
        subst this;rw[PC TK];simpa[h1]using h4
      .have F:∀(l:List α),js (l++[x])=js l+bk x:=by
        intro l;induction l with
        |nil=>simp[js]
        |cons y l s=>simp only[OK,js,s];omega
       rw[F,Q4 TR,jB];simp only[PK,Rows.uptoBulkAll];omega
    obtain⟨xs,h1,h2,h3⟩:=all elems.length T8;have J:xs.length=len:=by omega
    refine⟨xs,⟨some a,cap,by rw[J],⟨by omega,A,(λh=>by cases h),h2⟩⟩,?_⟩;show js xs+1<=_;rw[Q1 TO]at h3;simp only[Rows.uptoBulk];omega
  .cases hd
theorem Opn.slice{e:TypeId}[Rep α][Bk α][c:IsS P t e][b:IsT P e α][a:Opn P e α]:Opn P t (List α)where
 op:=by
  intro H enc w fuel cs d ps hd;cases fuel with
  |zero=>simp[DataW.trod]at hd
  |succ fuel=>exact I9 (e:=e) (λh=>a.op h) hd
def DD{r:Reach}{base:Nat}{d:TypeDesc}(a:P.underlying t=some d)(h:Value.okWide P w r base t v):
  (gx d=false->v.oneCell'=true)/\(gx d=true->∃cs,v=.agg cs):=by
 unfold Value.okWide at h;rw[a]at h;constructor
 .intro hd;cases v<;>first
   |rfl
   |(exfalso;cases d<;>simp[gx]at hd<;>simp[Cell.okWide,Cell.ok,a]at h)
 .intro hd;cases d<;>simp[gx]at hd<;>(obtain⟨cs,rfl,_⟩:=h;exact⟨cs,rfl⟩)
def Opn.arg[Rep α][Bk α][c:IsT P t α][f:Opn P t α]{H:Type}{enc:TypeId×Value->H}{d:DataW H}{ps:List MemPlace}{r:Reach}{base:Nat}
  (b:Value.okWide P w r base t v) (h:DataW.Trod enc P w 0 (λ_=>true) true t v d ps):∃x:α,Rd w (dk w) v x/\bk x<=Rows.uptoBulk d:=by
 obtain⟨i,dd,_,_,h3,h4⟩:=c.ok;obtain⟨k,j⟩:=DD h3 b;obtain⟨fuel,hf⟩:=h;obtain⟨x,e,g⟩:=f.op hf;refine⟨x,⟨v.cells.toList,?_,e⟩,g⟩;unfold Me;split
 .rename_i a;obtain⟨cs,rfl⟩:=j (h4.trans a);simp[Value.cells]
 .rename_i a;have:=k (h4.trans a);cases v<;>first|rfl|(simp[Value.oneCell']at this)
def K4{H:Type}{enc:TypeId×Value->H}{P:Program}(i:laidOutB P=true){W W':World}(j:Ext W W'):∀{c:List TypeId} {vs:List Value} {g:List (DataW H)} {ps:List MemPlace},
  (∀t∈c,P.readableRec t=true/\t<P.types.size)->DataW.TrodAll enc P W 0 (λ_=>true) true c vs g ps->(∀x∈ps,x.block<W.heap.size)->
  DataW.TrodAll enc P W' 0 (λb=>decide (b<W.heap.size)) true c vs g ps
 |[],[],[],_,_,h,_=>h
 |t::c,v::vs,d::g,ps,f,h,a=>by
  obtain⟨p,q,h1,h2,rfl⟩:=h;exact⟨p,q,Below.trod i (f t TO).1 (f t TO).2 h1 j (λx e=>a x (by simp[e])),
   K4 i j (λt k=>f t (by simp[k])) h2 (λx e=>a x (by simp[e])),rfl⟩
 |[],[],_::_,_,_,h,_=>h.elim
 |[],_::_,[],_,_,h,_=>h.elim
 |[],_::_,_::_,_,_,h,_=>h.elim
 |_::_,[],[],_,_,h,_=>h.elim
 |_::_,[],_::_,_,_,h,_=>h.elim
 |_::_,_::_,[],_,_,h,_=>h.elim
def law_post{H:Type}{enc:TypeId×Value->H}{s:ChangeSpec}{W:World}{a gs:List (DataW H)}{before:List MemPlace}{tb:TypeId}
  (l:laidOutB P=true) (f:DataW.Whole enc P z.params.toList s.vars false W u.toList a gs before) (g:s.vars=[]) (k:∀t∈z.params.toList,P.readableRec t=true/\t<P.types.size)
  (c:(s.fn H (a++gs)).results=[.lit (.bool true)]/\(s.fn H (a++gs)).args=a/\(s.fn H (a++gs)).vars=[]) (b:z.resultTypes=#[tb]) (m:P.underlying tb=some .bool) (i:Ext W w):
  s.post enc P z false true false false W u (.bool true) w:=by
 have d:=f.lt;have e:=f;obtain⟨p,q,o,n,rfl,_,_⟩:=f;rw[g]at n;obtain⟨y,v,r⟩:=c;refine⟨a,gs,p++q,[],p,[],e,?_,?_,?_,i.frame _,λh=>by cases h⟩
 .rw[y,b];exact trodAll_mk1 (shut_bool m true)
 .rw[v];exact K4 l i k o (λx j=>d x (by simp[j]))
 .rw[r,g];exact rfl
instance vN{α β:Type}[Bk α][Bk β]:Bk (α×β):=⟨λx=>bk x.1+bk x.2⟩
class OpnFs(P:Program)(fs:List (TypeId×Nat))(off:Nat)(α:Type)[Rep α][Bk α]:Prop where
 op:∀{H:Type} {enc:TypeId×Value->H} {w:World} {fuel:Nat} {cs:List Value} {xs:List (DataW H×List MemPlace)},off+sz α=cs.length->
  (fs.mapM λf=>DataW.trod enc P w 0 (λ_=>true) true fuel f.1 ((cs.drop f.2).take (P.cellsOf f.1)))=some xs->∃x:α,rd w (dk w) (cs.drop off) x/\bk x<=Rows.uptoBulkAll (xs.map (·.1))
def j_[Rep α][a:IsT P t α]:P.cellsOf t=sz α:=by obtain⟨i,h1,h2⟩:=Wm (P:=P) (t:=t) (α:=α);simp[Program.cellsOf,h1,h2]
instance OpnFs.one{P:Program}{t:TypeId}{off:Nat}{α:Type}[Rep α][Bk α][e:IsT P t α][b:Opn P t α]:OpnFs P [(t,off)] off α where
 op:=by
  intro H enc w fuel cs xs f h;simp only[Qc,Qd,RY,R3]at h;cases h1:DataW.trod enc P w 0 (λ_=>true) true fuel t ((cs.drop off).take (P.cellsOf t))with
  |none=>rw[h1]at h;cases h
  |some d=>
   rw[h1]at h;simp at h;subst h;obtain⟨d,ps⟩:=d;obtain⟨x,a,c⟩:=b.op h1;rw[j_ (α:=α),Q1 (by rw[PZ];omega)]at a;exact⟨x,a,by simpa[Rows.uptoBulkAll]using c⟩
instance OpnFs.cons{P:Program}{t:TypeId}{off:Nat}{f:TypeId×Nat}{fs:List (TypeId×Nat)}{α β:Type}[Rep α][Bk α][Rep β][Bk β][i:IsT P t α][g:Opn P t α][e:OpnFs P (f::fs) (off+sz α) β]:OpnFs P ((t,off)::f::fs) off (α×β)where
 op:=by
  intro H enc w fuel cs xs j h;rw[Qc]at h;simp only[RY,R3]at h;have a:off+sz α+sz β=cs.length:=by have:sz (α×β)=sz α+sz β:=rfl;omega
  cases h1:DataW.trod enc P w 0 (λ_=>true) true fuel t ((cs.drop off).take (P.cellsOf t))with
  |none=>rw[h1]at h;cases h
  |some d=>
   rw[h1]at h;simp only[R0]at h;obtain⟨ys,h2,h3⟩:=RZ.1 h;cases h3;obtain⟨d,ps⟩:=d;obtain⟨x,b,l⟩:=g.op h1;obtain⟨y,c,k⟩:=e.op a h2;rw[j_ (α:=α)]at b;refine⟨(x,y),⟨(cs.drop off).take (sz α),cs.drop (off+sz α),?_,b,c⟩,?_⟩
   .rw[<-OW,List.take_append_drop]
   .show bk x+bk y<=_;simp only[Qg,Rows.uptoBulkAll];omega
def Jy(P:Program)(t:TypeId):Option (List (TypeId×Nat)):=match P.underlying t with
 |some (.struct fs)=>some (fs.toList.map λf=>(f.type,f.offset))
 |_=>none
theorem Opn.struct{fs:List (TypeId×Nat)}[Rep α][Bk α][e:IsT P t α][hf:OpnFs P fs 0 α](h:Jy P t=some fs):Opn P t α where
 op:=by
  intro H enc w fuel cs d ps hd;unfold Jy at h;split at h
  .rename_i gs a;cases h;cases fuel with
   |zero=>simp[DataW.trod]at hd
   |succ fuel=>
    unfold DataW.trod at hd;rw[a]at hd;simp only at hd;split at hd
    .rename_i c;obtain⟨xs,h1,h2⟩:=R2.1 hd;cases h2;have:=hf.op (enc:=enc) (w:=w) (fuel:=fuel) (cs:=cs) (xs:=xs) (by rw[c,j_ (α:=α)];omega) (by rw[List.mapM_map];exact h1);obtain⟨x,b,f⟩:=this;exact⟨x,by simpa using b,by simp only[Rows.uptoBulk];omega⟩
    .cases hd
  .cases h
abbrev V9:=@Opn.struct
instance:Opn Vy 3 Int:=Opn.int Sz
instance:Opn Vy 9 ByteArray:=Opn.string SN
instance:Opn Vy 123 (ByteArray×Int):=V9 (fs:=[(9,0),(3,1)]) TL
instance:Opn Vy 48 (Int×Int):=V9 (fs:=[(3,0),(3,1)]) TL
instance:Opn Vy 22 (List (ByteArray×Int)):=Opn.slice
instance:Opn Vy 23 (List (Int×Int)):=Opn.slice
instance:Opn Vy 27 (Int×Int×Int×Int×Int×Int×Int):=V9 (fs:=[(3,0),(3,1),(3,2),(3,3),(3,4),(3,5),(3,6)]) TL
instance:Opn Vy 29 (Int×Int×Int×Int):=V9 (fs:=[(3,0),(3,1),(3,2),(3,3)]) TL
instance:Opn Vy 25 (List (ByteArray×Int)×List (Int×Int)):=V9 (fs:=[(22,0),(23,1)]) TL
instance:Bk Ltl:=⟨Ltl.nodes⟩
def AM{cs:List Value}(h:cs.length=3):∃c0 c1 c2,cs=[c0,c1,c2]:=by
 match cs,h with
 |[a,b,c],_=>exact⟨a,b,c,rfl⟩
def Bj{H:Type}{enc:TypeId×Value->H}:∀(fuel:Nat) {cs:List Value} {d:DataW H} {ps:List MemPlace},DataW.trod enc Vy w 0 (λ_=>true) true fuel 32 cs=some (d,ps)->∃x:Ltl,rd w (dk w) cs x/\bk x<=Rows.uptoBulk d:=by
 intro fuel;induction fuel using Nat.strongRecOn with
 |_ fuel u=>
  intro cs d ps hd;have a:Jy Vy 32=some [(3,0),(3,1),(30,2)]:=by kernel_rfl
  unfold Jy at a;split at a
  .rename_i gs v;have a:=R4 a;cases fuel with
   |zero=>simp[DataW.trod]at hd
   |succ fuel=>
    unfold DataW.trod at hd;rw[v]at hd;simp only at hd;split at hd
    .rename_i y;obtain⟨xs,h1,h2⟩:=R2.1 hd;cases h2;have h3:(List.map (λf:Field=>(f.type,f.offset)) gs.toList).mapM (λf:TypeId×Nat=>DataW.trod enc Vy w 0 (λ_=>true) true fuel f.1 ((cs.drop f.2).take (Tryz.prog.cellsOf f.1)))=some xs:=by rw[List.mapM_map];exact h1
     rw[a]at h3;rw[j_ (α:=Ltl)]at y;have o:cs.length=3:=y;simp only[Qc,Qd,RY,R3]at h3;obtain⟨B,s,h3⟩:=RZ.1 h3;obtain⟨K,h3,g⟩:=RZ.1 h3;obtain⟨A,q,h3⟩:=RZ.1 h3;obtain⟨J,h3,c⟩:=RZ.1 h3;obtain⟨z,i,h3⟩:=RZ.1 h3;simp at h3 c g;subst h3 c g;obtain⟨d1,p1⟩:=B;obtain⟨d2,p2⟩:=A;obtain⟨d3,L⟩:=z;rw[j_ (α:=Int)]at s q;rw[j_ (α:=List Ltl)]at i;obtain⟨k,D,bk1⟩:=Opn.op (P:=Vy) (t:=3) (α:=Int) s;obtain⟨n,hn,bk2⟩:=Opn.op (P:=Vy) (t:=3) (α:=Int) q;cases fuel with
     |zero=>simp[DataW.trod]at i
     |succ fuel=>
      obtain⟨kids,b,bk3⟩:=I9 (α:=Ltl) (e:=32) (λh=>u fuel TK h) i;obtain⟨ao,cap,E,C⟩:=Gs b;have p:=Gl D;have m:=Gl hn;refine⟨.mk k n kids,?_,?_⟩
      .clear v a h1 s q i u bk1 bk2 bk3;obtain⟨c0,c1,c2,rfl⟩:=AM o;have I:[c0]=[.int .i64 k]:=p;have a1:[c1]=[.int .i64 n]:=m;have a2:[c2]=[.slice ao kids.length cap]:=E;rw[OI I|>.1,OI a1|>.1,OI a2|>.1];exact RdT.of C
      .have j:∀l:List Ltl,js l=Ltl.nodesL l:=by
        intro l;induction l with
        |nil=>rfl
        |cons x r ihl=>simp only[js,Ltl.nodesL,ihl];rfl
       have G:bk kids=js kids+1:=rfl;have F:bk (Ltl.mk k n kids)=1+Ltl.nodesL kids:=by show Ltl.nodes _=_;simp[Ltl.nodes]
       rw[F,<-j];simp only[Qg,Qi,Rows.uptoBulk,Rows.uptoBulkAll];omega
    .cases hd
  .cases a
instance:Opn Vy 32 Ltl where
 op:=λh=>Bj _ h
def mH{H:Type}{enc:TypeId×Value->H}:∀(fuel:Nat) {cs:List Value} {d:DataW H} {ps:List MemPlace},DataW.trod enc Vy w 0 (λ_=>true) true fuel 35 cs=some (d,ps)->∃x:Ltl,rd w (dk w) cs x/\bk x<=Rows.uptoBulk d:=by
 intro fuel;induction fuel using Nat.strongRecOn with
 |_ fuel u=>
  intro cs d ps hd;have a:Jy Vy 35=some [(3,0),(3,1),(33,2)]:=by kernel_rfl
  unfold Jy at a;split at a
  .rename_i gs v;have a:=R4 a;cases fuel with
   |zero=>simp[DataW.trod]at hd
   |succ fuel=>
    unfold DataW.trod at hd;rw[v]at hd;simp only at hd;split at hd
    .rename_i y;obtain⟨xs,h1,h2⟩:=R2.1 hd;cases h2;have h3:(List.map (λf:Field=>(f.type,f.offset)) gs.toList).mapM (λf:TypeId×Nat=>DataW.trod enc Vy w 0 (λ_=>true) true fuel f.1 ((cs.drop f.2).take (Tryz.prog.cellsOf f.1)))=some xs:=by rw[List.mapM_map];exact h1
     rw[a]at h3;rw[j_ (α:=Ltl)]at y;have o:cs.length=3:=y;simp only[Qc,Qd,RY,R3]at h3;obtain⟨B,s,h3⟩:=RZ.1 h3;obtain⟨K,h3,g⟩:=RZ.1 h3;obtain⟨A,q,h3⟩:=RZ.1 h3;obtain⟨J,h3,c⟩:=RZ.1 h3;obtain⟨z,i,h3⟩:=RZ.1 h3;simp at h3 c g;subst h3 c g;obtain⟨d1,p1⟩:=B;obtain⟨d2,p2⟩:=A;obtain⟨d3,L⟩:=z;rw[j_ (α:=Int)]at s q;rw[j_ (α:=List Ltl)]at i;obtain⟨k,D,bk1⟩:=Opn.op (P:=Vy) (t:=3) (α:=Int) s;obtain⟨n,hn,bk2⟩:=Opn.op (P:=Vy) (t:=3) (α:=Int) q;cases fuel with
     |zero=>simp[DataW.trod]at i
     |succ fuel=>
      obtain⟨kids,b,bk3⟩:=I9 (α:=Ltl) (e:=35) (λh=>u fuel TK h) i;obtain⟨ao,cap,E,C⟩:=Gs b;have p:=Gl D;have m:=Gl hn;refine⟨.mk k n kids,?_,?_⟩
      .clear v a h1 s q i u bk1 bk2 bk3;obtain⟨c0,c1,c2,rfl⟩:=AM o;have I:[c0]=[.int .i64 k]:=p;have a1:[c1]=[.int .i64 n]:=m;have a2:[c2]=[.slice ao kids.length cap]:=E;rw[OI I|>.1,OI a1|>.1,OI a2|>.1];exact RdT.of C
      .have j:∀l:List Ltl,js l=Ltl.nodesL l:=by
        intro l;induction l with
        |nil=>rfl
        |cons x r ihl=>simp only[js,Ltl.nodesL,ihl];rfl
       have G:bk kids=js kids+1:=rfl;have F:bk (Ltl.mk k n kids)=1+Ltl.nodesL kids:=by show Ltl.nodes _=_;simp[Ltl.nodes]
       rw[F,<-j];simp only[Qg,Qi,Rows.uptoBulk,Rows.uptoBulkAll];omega
    .cases hd
  .cases a
instance:Opn Vy 35 Ltl where
 op:=λh=>mH _ h
instance:IsT Vy 37 (ByteArray×Int×(Int×Int×Int×Int×Int×Int×Int)×(Int×Int×Int×Int)×Ltl×Ltl):=VL TL SE rfl
instance:Opn Vy 37 (ByteArray×Int×(Int×Int×Int×Int×Int×Int×Int)×(Int×Int×Int×Int)×Ltl×Ltl):=V9 (fs:=[(9,0),(3,1),(27,2),(29,9),(32,13),(35,16)]) TL
def jC{α:Type}[Bk α](h:∀x:α,1<=bk x):∀l:List α,l.length<=js l
 |[]=>Rq _
 |x::r=>by have h1:=jC h r;have h2:=h x;simp only[js,PY];omega
end Go.Proofs.YtfpjecjadlgdcaaGreatDoor
