import Derived.Test.YtfpjecjadlgdcaaGreatDoorPtTopOrder6
set_option linter.unusedVariables false
set_option linter.unusedSimpArgs false
set_option linter.defProp false
namespace Go.Proofs.YtfpjecjadlgdcaaGreatDoor
set_option maxHeartbeats 4000000
variable{P:Program}{α:Type}{B a K:Nat}{C D:Option Addr}{m:List Int}{F:Nat→Prop}{w:World}{v A:Value}{g:List (List Int)}{x:Int}{l:List Bool}{r:List Value}{t:TypeId}{Q:Exit→Act→World→Prop}{p:Nat→Nat}{e:Nat→Nat→Prop}{s:List Nat}{L:List Oper}{c:Value→World→Prop}{f:List ByteArray}{y:Array Bool}{S:World→Prop}{b:Value→(Nat→Nat)→World→Prop}{j:Array Edge}{o:Oper}{z:Func}{u:Array Value}
open _root_.Go.Proofs.Tryz
open List(range)
open List(replicate)
open Nat(ble)
open Nat(beq)
open Region(ready)
abbrev CA(p:cM):List ByteArray:=p.1.map (·.1)
noncomputable abbrev rW(p:cM)(tok st:Int):cR:=(HT p tok st).1.1
noncomputable abbrev rO(p:cM)(tok st:Int):List cI:=(HT p tok st).1.2
structure RunsK(p:cM)(tok st:Int):Prop where
 chk:kB (rW p tok st)=0
 ed:edges (rW p tok st).2.1<=8589934592
 of:(rO p tok st).length=(rW p tok st).2.1.length
 row:∀j,((rW p tok st).2.1.getD j []).length<=1048576
 start:(rW p tok st).1.length<=1048576
 n:p.1.length<=20
def HV{p:cM}{tok st:Int}(h:(HT p tok st).2=0):RunsK p tok st:=by
 obtain⟨h1,h2,h3⟩:=HU h;have c:=qe h1;have d:=(qd h1).1;have a:kU p=0:=(JM d).1;have b:rW p tok st=HX (JL p).1 (qa p tok st).1.2:=by unfold rW;rw[h3]
 have f:rO p tok st=Dg (qa p tok st).1.2 (qa p tok st).1.2.length:=by unfold rO;rw[h3]
 refine⟨?_,?_,?_,?_,?_,(kV a).n⟩
 .rw[b];have:=HY c h2;have e:(HX (JL p).1 (qa p tok st).1.2).2.2.1.length=it (qa p tok st).1.2 (qa p tok st).1.2.length:=by show((range _).map _).length=_;rw[P4,P7]
  unfold kB;rw[e];exact this
 .rw[b];exact He c h2
 .rw[b,f];show _=((range _).map _).length;rw[P4,P7];rfl
 .intro j;rw[b];show((Hd (qa p tok st).1.2).getD j []).length<=_;by_cases hj:j<(Hd (qa p tok st).1.2).length
  .rw[Hf (by rw[<-Hg];exact hj)];have:=(Cp c (j:=j)).2;omega
  .rw[Pl,Pr TK];simp
 .rw[b];show(gE (qa p tok st).1.2 0).length<=_;unfold gE B3;rw[P4,P7];have:=c.row 0;omega
noncomputable def zk(p:cM)(r:cN)(tok st:Int):Int:=
 if(HT p tok st).2≠0 then(HT p tok st).2 else if kZ r (CA p)≠0 then kZ r (CA p)else if r.2.1=4 then 0 else if(sh r).2≠0 then(sh r).2 else(Bo (C2 (sh r).1)).2
structure JdgR(p:cM)(r:cN)(tok st:Int)(h:Bool)(s l:List Int)(e:Int):Prop where
 bad:e≠0->h=false/\s=[]/\l=[]
 pre:e=0->(HT p tok st).2=0/\kZ r (CA p)=0
 ctl:e=0->r.2.1=4->s=[]/\l=[]/\(h=true↔∀n∈(rW p tok st).1,mE (rW p tok st).2.1 (rW p tok st).2.2.1 (rW p tok st).2.2.2 r.2.2.2.2.2 n.toNat)
 ltl:e=0->r.2.1≠4->(sh r).2=0/\(kD (sh r).1 1 0).1=0/\MK (sh r).1/\(Bo (C2 (sh r).1)).2=0/\(h=true↔ai (rW p tok st) (sh r).1)/\(h=true->s=[]/\l=[])/\
  (h=false->∃ps pl,PathE (rW p tok st) (Bo (C2 (sh r).1)).1 ps pl/\s=(ps.map λn=>((rO p tok st).getD n.toNat (0,0)).1)/\l=(pl.map λn=>((rO p tok st).getD n.toNat (0,0)).1))
 good:(HT p tok st).2=0->kZ r (CA p)=0->r.2.1≠4->(sh r).2=0->(Bo (C2 (sh r).1)).2=0->e=0
 goodC:(HT p tok st).2=0->kZ r (CA p)=0->r.2.1=4->e=0
 err:e≠0->e=zk p r tok st
def si{r:cN}(h:(sh r).2=0):(kD (sh r).1 1 0).1=0:=by
 unfold sh at h⊢;split
 .rename_i h1;rw[Tn h1]at h;unfold nN at h⊢;split
  .rename_i h2;rw[Tn h2]at h;exact absurd h h2
  .rename_i h2;rw[Tm h2]at h;split
   .rename_i h3;rw[Tn h3]at h;exact absurd h h3
   .rename_i h3;simpa using h3
 .rename_i h1;rw[Tm h1]at h;split
  .rename_i h2;rw[Tn h2]at h;unfold mW at h⊢;split
   .rename_i h3;rw[Tn h3]at h;exact absurd h h3
   .rename_i h3;rw[Tm h3]at h;split
    .rename_i h4;rw[Tn h4]at h;exact absurd h h4
    .rename_i h4;simpa using h4
  .rename_i h2;rw[Tm h2]at h;split
   .rename_i h3;rw[Tn h3]at h;split
    .rename_i h4;rw[Tn h4]at h;exact absurd h h4
    .rename_i h4;simpa using h4
   .rename_i h3;rw[Tm h3]at h;cases h
def zl{p:cM}{r:cN}{tok st e:Int}(c:e≠0)(d:(HT p tok st).2=0->kZ r (CA p)=0->False)(f:e=zk p r tok st):JdgR p r tok st false [] [] e:=
 ⟨λ_=>⟨rfl,rfl,rfl⟩,λh=>absurd h c,λh=>absurd h c,λh=>absurd h c,λa b _ _ _=>(d a b).elim,λa b _=>(d a b).elim,λ_=>f⟩
def k7{r:cN}(h:kZ r f=0)(h4:r.2.1=4):(kp r.2.2.2.2.2 1 0).1=0:=by
 unfold kZ at h;split at h
 .cases h
 split at h
 .rename_i g;exact absurd h g
 rename_i g;have a:Eu r f=0:=by simpa using g
 unfold Eu at a;split at a
 .cases a
 .unfold Ev at a;rw[Tm TK,Tm TK,Tm TK,Tn h4]at a;unfold Fx at a;split at a
  .rename_i g2;exact absurd a g2
  .rename_i g2;simpa using g2
open Go.RowKit
def LK(l:List UInt8):ByteArray:=⟨l.toArray⟩
def LN(l:List UInt8):(LK l).data.toList=l:=by simp[LK]
def LM(s:ByteArray):LK s.data.toList=s:=by cases s;simp[LK]
def LL(a b:List UInt8):LK a++LK b=LK (a++b):=by apply ByteArray.ext;simp[LK,ByteArray.append]
def LO(l:List UInt8):(LK l).size=l.length:=by simp[LK,ByteArray.size]
abbrev tV(l:List UInt8):Value:=.string (LK l)
section
variable {P:Program}{Q:Exit->Act->World->Prop}{n:Nat}{σ:Sg}{w:World}{L rest:List Oper}{d:Nat}{op:Op}{ty:TypeId}{pos:String}{af:Array Edge}{g:Option (Nat×Bool)}{t yt:TypeId}{x y ix:Operand}
theorem Hp{a b:List UInt8}(w:World)(h:a.length+b.length<9223372036854775808):((do eqGuard .add t x y (tV a) (tV b);binOp .add t (tV a) (tV b):Sem Value)).run P w=.ok (tV (a++b)) w:=by
 have h1:((LK a).size:Int)+((LK b).size:Int)<=9223372036854775807:=by rw[LO,LO];omega
 simp[eqGuard,binOp,Op.stringOp,h1,LL,show IntKind.i64.max=9223372036854775807 by decide]
theorem eN{a b:List UInt8}(k:gd L σ ⟨some d,.binOp .add t x y yt,ty,pos,af,g⟩=some true)(hd:ble (d+1) n=true)(i:ev σ x=some (tV a))(f:ev σ y=some (tV b))(j:a.length+b.length<9223372036854775808)
  (h:WL P L Q rest n ((d,tV (a++b))::σ) w):WL P L Q (⟨some d,.binOp .add t x y yt,ty,pos,af,g⟩::rest) n σ w:=by
 refine VG k hd (λc e=>?_) h;simp only[execOp,e.ev i,e.ev f];rw[Sb,Hp w j];rfl
theorem b_{S:World->Prop}{ord:List (Nat×Bool)}{i:Nat}{a b:List UInt8}(k:C4 L i=some ⟨some d,.binOp .add t x y yt,ty,pos,af,g⟩)(m:gd L σ ⟨some d,.binOp .add t x y yt,ty,pos,af,g⟩=some true)(hd:ble (d+1) n=true)
  (j:ev σ x=some (tV a)) (f:ev σ y=some (tV b)) (l:a.length+b.length<9223372036854775808) (h:HL P L S Q ord n ((d,tV (a++b))::σ) w):HL P L S Q ((i,true)::ord) n σ w:=by
 refine VP k m hd (λc e w' _=>?_) h;simp only[execOp,e.ev j,e.ev f];rw[Sb,Hp w' l];rfl
class IsAr(P:Program)(t:TypeId)(k:outParam Nat)(e:outParam TypeId):Prop where
 ok:P.underlying t=some (.array k e)
theorem qZ{p p':Nat->Option (Nat×Nat)}(h:∀i q,p i=some q->p' i=some q):∀(parts:List (Nat×Value)) (cells out:Array Value),Instr.fill p cells parts=some out->Instr.fill p' cells parts=some out
 |[],cells,out,e=>e
 |(i,v)::r,cells,out,e=>by
  unfold Instr.fill at e⊢;cases a:p i with
  |none=>rw[a]at e;cases e
  |some q=>
   obtain⟨off,size⟩:=q;rw[a]at e;rw[h i _ a];dsimp only at e⊢;split at e
   .cases e
   .rename_i b;rw[Tm b];exact qZ h r _ out e
def ET:Nat->Nat->List (Nat×Nat)
 |0,_=>[]
 |k+1,o=>(o,1)::ET k (o+1)
theorem EU:∀(k o i:Nat) (q:Nat×Nat),(ET k o)[i]?=some q->q=(o+i,1)
 |0,o,i,q,h=>by simp[ET]at h
 |k+1,o,0,q,h=>by simp[ET]at h;rw[<-h];rfl
 |k+1,o,i+1,q,h=>by simp only[ET,Po]at h;rw[EU k (o+1) i q h,show o+1+i=o+(i+1) by omega]
theorem eI{parts:List (Nat×Operand)}{vs:List Value}{k:Nat}{e:TypeId}{zs out:List Value}(v:gd L σ ⟨some d,.build t parts.toArray,ty,pos,af,g⟩=some true)(hd:ble (d+1) n=true)
  (s:pN σ (I_ parts)=some vs) [E:IsZC P t zs] [u:IsAr P t k e] [F:IsC P e 1 false] (hf:qR (ET k 0) zs ((parts.map (·.1)).zip vs)=some out)
  (h:WL P L Q rest n ((d,.agg out.toArray)::σ) w):WL P L Q (⟨some d,.build t parts.toArray,ty,pos,af,g⟩::rest) n σ w:=by
 refine VG v hd (λa G=>?_) h;obtain⟨i,z,f,c,b⟩:=E.ok;obtain⟨j,dd,m,l,_,_⟩:=F.ok;have C:=pO G (I_ parts) vs s;have B:(parts.toArray.map λx=>(x.1,a.eval x.2)).toList=(parts.map (·.1)).zip vs:=by
  rw[<-C];clear s hf v h C;induction parts with
  |nil=>simp[I_]
  |cons p r D=>simpa[I_]using D
 have A:=qZ (p':=λi=>some (i*1,1)) (λi q hq=>by
  have o:(ET k 0)[i]?=some q:=by simpa using hq
  rw[EU k 0 i q o];simp) _ _ _ (qS (ET k 0) _ _ _ hf)
 simp only[RE]at A;simp only[execOp,Instr.build,zeroValue,typeInfo,f,c,b,TA u.ok,sizeOf,m,l];simp[f,c,b,TA u.ok,m,l];simp at B;rw[B,A];rfl
theorem fp{k i:Nat}{e:TypeId}{kd:IntKind}{cells:List Value}{v:Value}(s:gd L σ ⟨some d,.index t x ix,ty,pos,af,g⟩=some true)(hd:ble (d+1) n=true)
  (q:ev σ x=some (.agg cells.toArray)) (hi:ev σ ix=some (.int kd (i:Int))) [z:IsAr P t k e] [u:IsC P e 1 false] (h1:i<k) (f:C8 cells i=some v)
  (h:WL P L Q rest n ((d,v)::σ) w):WL P L Q (⟨some d,.index t x ix,ty,pos,af,g⟩::rest) n σ w:=by
 obtain⟨j,dd,p,o,m,l⟩:=u.ok;rw[C9]at f;have b:(isAgg e).run P w=.ok false w:=by unfold isAgg;rw[Sb,TA m w,<-l];cases dd<;>rfl
 have r:cells.toArray[i]?=some v:=by simpa using f
 refine VG s hd (λa c=>?_) h;simp[execOp,c.ev q,c.ev hi,Instr.index,asIntOf,TA z.ok,h1,sizeOf,typeInfo,p,o,part,b,f]
end
def yT(w0:World){ao:Option Addr}{cap:Nat}{xs:List ByteArray}(x:ByteArray)(b:Sl w0 (dk w0) ao cap xs):
  Rt Vy 158 [.slice ao xs.length cap,.string x].toArray w0 λv w'=>v=Ub (idxOf (λy=>x.data.toList==y.data.toList) xs)/\w0=w':=by
 have i:=b.len63;refine dS func158 ntmps158 rfl rfl (Ut ?_);refine p8 (S:=Nat) (λk=>[(0,.slice ao xs.length cap),(1,.string x),(7,Ub xs.length),(8,Ub k)])
  (λk w=>k<=xs.length/\w0=w/\∀j (h:j<xs.length),j<k->(x.data.toList==xs[j].data.toList)=false) (λk=>xs.length -k) 0 TJ ⟨by omega,rfl,by omega⟩ ?_
 rintro k w ⟨l,rfl,hn⟩;refine UR ?_;apply ld rfl<;>intro h
 .simp at h;refine Ux ?_;refine fe b h TV (λu q c=>?_);obtain⟨rfl,_⟩:=c.str;refine Ug ?_;refine ld rfl (λa=>?_) (λa=>?_)
  .refine Ud ?_;refine d6 ⟨?_,rfl⟩;rw[yl h hn a]
  .refine US ?_;refine m5 (k+1) TJ ⟨h,rfl,?_⟩ TK;intro j hj f;by_cases e:j=k
   .subst e;exact a
   .exact hn j hj TK
 .simp at h;refine UF ?_;refine d6 ⟨?_,rfl⟩;rw[yr (λj hj=>hn j hj TK)]
instance:IsZ Vy 9 (⟨#[]⟩:ByteArray) 16:=VV (z:=.string ⟨#[]⟩) TL (λ_ _=>⟨rfl,by decide⟩)
def zn(w0:World){so fo:Option Addr}{sc fc k:Nat}{ns:List cK}(y:Sl w0 (dk w0) so sc ns)(D:ns.length<=1000):
  Rt Vy 23 [FC so sc fo fc ns.length k].toArray w0 λv w'=>Own w' w0.heap.size 9 dh v (ns.map (·.1))/\Ext w0 w':=by
 refine dR func23 ntmps23 rfl rfl (UZ ?_);refine eH λC E A=>?_;refine UE ?_;refine p8 (S:=Nat×Value) (λs=>[(7,.slice so ns.length sc),(8,Ub ns.length),(9,Ub s.1),(3,s.2)])
  (λs w=>s.1<=ns.length/\Own w w0.heap.size 9 dh s.2 ((ns.take s.1).map (·.1))/\Ext w0 w) (λs=>ns.length -s.1) (0,.slice none 0 0) TJ ⟨RU _,r3,A⟩ ?_
 rintro⟨i,v⟩ w ⟨hi,d,e⟩;dsimp only at hi d e⊢;refine UR ?_;apply ld rfl<;>intro h
 .have a:i<ns.length:=by simpa using h
  refine UC ?_;refine fe (y.up e) a TV (λu q f=>?_);have j:ns[i].1.size<=maxLen:=by obtain⟨c1,c2,_,h1,_⟩:=f.pr;exact h1.2
  rw[f.node];clear f;refine eC (λB c p=>?_);refine f7 c (λt c m=>?_);have o:Ext w t:=p.grown m p.size TX;have ho3:=d.extN o;have b:=e.trans o;refine Uy ?_;refine eF (F:=dh) (yv:=ns[i].1) rfl rfl TV rfl rfl TV ho3 (Rd.mkStr _ _ _ j) b.size TY TN (by rw[P4,Qb];unfold maxLen;omega) (by rw[P4,Qb];omega) (λx r q ho4 l hnb=>?_);have n:Ext w0 r:=b.grown l b.size (λg z=>(ho3.lt g z).1);refine Ui ?_;refine m5 (i+1,x) TJ ⟨a,?_,n⟩ TP;rw[show(ns.take (i+1)).map (·.1)=(ns.take i).map (·.1)++[ns[i].1] by rw[Q4 a,Qe];rfl];exact ho4
 .obtain rfl:i=ns.length:=by simp at h;omega
  rw[Q0]at d;refine UF ?_;exact be ⟨d,e⟩
def gU(w0:World){lo:Option Addr}{b:List cI}{l:List Int}(A:Sl w0 (dk w0) C B b)(x:Sl w0 (dk w0) lo K l)(z:Dy b.length l)(J:l.length<=1099511627776):
  Rt Vy 27 [.slice C b.length B,.slice lo l.length K].toArray w0 λv w'=>Own w' w0.heap.size 3 dh v (l.map λn=>(b.getD n.toNat (0,0)).1)/\Ext w0 w':=by
 refine dS func27 ntmps27 rfl rfl ?_;have L:=x.len63;have H:=A.len63;refine Ut ?_;refine p8 (S:=Nat×Value) (λs=>[(0,.slice C b.length B),(8,.slice lo l.length K),(9,Ub l.length),(10,Ub s.1),(5,s.2)])
  (λs w=>s.1<=l.length/\Own w w0.heap.size 3 dh s.2 ((l.take s.1).map λn=>(b.getD n.toNat (0,0)).1)/\Ext w0 w) (λs=>l.length -s.1) (0,.slice none 0 0) TJ ⟨RU _,r3,p7 _⟩ ?_
 rintro⟨i,v⟩ w ⟨hi,e,d⟩;dsimp only at hi e d⊢;refine UR ?_;apply ld rfl<;>intro h
 .have c:i<l.length:=by simpa using h
  obtain⟨a,ea⟩:=Om (z _ (PL c)).1;have D:a<b.length:=by have:=(z _ (PL c)).2;omega
  obtain⟨kb,koff,rfl,hF,cs,o,k⟩:=(A.up d).el a D;obtain⟨c1,c2,f,h1,h2⟩:=Gr k;rw[Gl h1]at f;have p:Cells w kb (koff+a*sz cI) [Ub b[a].1]:=by
   intro j u t;cases j with
   |zero=>exact o 0 u (by rw[f];exact t)
   |succ j=>simp at t
  refine UC ?_;refine e_ (x.up d) c ea TV (λq=>?_);refine UR ?_;refine fk (α:=cI) rfl rfl rfl rfl TK TK (Va ?_);refine VQ (α:=Int) (F:=dh) (y:=b[a].1) rfl rfl rfl (by rw[Oy];exact p) rfl ?_;rw[show Me Int [Ub b[a].1]=Ub b[a].1 from rfl];refine eF (F:=dh) (yv:=b[a].1) rfl rfl TV rfl rfl TV e T7 d.size TY TN (by rw[P4,Qb];unfold maxLen;omega) (by rw[P4,Qb];omega) (λG E q ho4 m hnb=>?_);have r:Ext w0 E:=d.grown m d.size (λg I=>(e.lt g I).1);refine Ui ?_;refine m5 (i+1,G) TJ ⟨c,?_,r⟩ TP;rw[show(l.take (i+1)).map (λn=>(b.getD n.toNat (0,0)).1)=(l.take i).map (λn=>(b.getD n.toNat (0,0)).1)++[b[a].1] by rw[Q4 c,Qe];simp only[Qg,Qi];rw[ea,Oy,Pl,Pq D];rfl];exact ho4
 .obtain rfl:i=l.length:=by simp at h;omega
  rw[Q0]at e;refine UF ?_;exact be ⟨e,d⟩
def yg(x:ByteArray)(a:List ByteArray):idxOf (λy:ByteArray=>x.data.toList==y.data.toList) a=yf a x.data.toList:=by
 unfold idxOf yf;rw[show(λy:ByteArray=>x.data.toList==y.data.toList)=λy=>y.data.toList==x.data.toList from funext λy=>Bool.beq_comm]
 all_goals rfl
def tm{i:Nat}(h:i<f.length):f.getD i ⟨#[]⟩=f[i]:=by rw[Pl,Pq h];rfl
inductive ShT(kk:Int->Int):Ltl->Prop
 |mk (k n:Int) (kids:List Ltl):kk k=kids.length->0<=n->n<=63->(∀x∈kids,ShT kk x)->ShT kk (.mk k n kids)
mutual
theorem kJ:∀(t:Ltl) (d c:Int),(kD t d c).1=0->ShT Af t/\(kD t d c).2=c+t.nodes
 |.mk k n kids,d,c,h=>by
  simp only[kD]at h⊢
  split at h
  .cases h
  split at h
  .cases h
  split at h
  .cases h
  rename_i h1 h2 h3;rw[Tm h1,Tm h2,Tm h3];have⟨g1,g2⟩:=kG kids (d+1) (c+1) h;simp only[Tr]at h3
  refine⟨.mk k n kids TK TK TK g1,?_⟩;rw[g2];simp only[Ltl.nodes];omega
theorem kG:∀(l:List Ltl) (d c:Int),(kE l d c).1=0->(∀x∈l,ShT Af x)/\(kE l d c).2=c+Ltl.nodesL l
 |[],d,c,h=>⟨λx a=>by(cases a),by simp[kE,Ltl.nodesL]⟩
 |y::r,d,c,h=>by
  simp only[kE]at h⊢
  split at h
  .rename_i h1;exact absurd h h1
  rename_i h1;rw[Tm h1];have⟨g1,g2⟩:=kJ y d c (by simpa using h1);have⟨g3,g4⟩:=kG r d _ h;refine⟨λx a=>?_,?_⟩
  .rcases Qo.1 a with rfl|a
   .exact g1
   .exact g3 x a
  .rw[g4,g2];simp only[Ltl.nodesL];omega
end
section
variable {P:Program}{Q:Exit->Act->World->Prop}{n:Nat}{σ:Sg}{w wc:World}{L:List Oper}{S:World->Prop}{ord:List (Nat×Bool)}{i d:Nat}{ty:TypeId}{pos:String}{af:Array Edge}{g:Option (Nat×Bool)}{t e:TypeId}{x:Operand}{b o:Nat}{cells:List Value}
theorem cw{v:Value}(q:∀f,S f->Blk f b e cells)(l:C4 L i=some ⟨some d,.load t x,ty,pos,af,g⟩)(m:gd L σ ⟨some d,.load t x,ty,pos,af,g⟩=some true)(hd:ble (d+1) n=true)(j:ev σ x=some (.pointer (some ⟨b,o,none⟩)))[r:IsC P t 1 false](k:C8 cells o=some v)
  (h:HL P L S Q ord n ((d,v)::σ) wc):HL P L S Q ((i,true)::ord) n σ wc:=by
 refine VP l m hd (λa p w' c=>?_) h;simp[execOp,p.ev j,Hw (P:=P) (t:=t) w' (q w' c) k]
theorem cq{vs:List Value}{k:Nat}(r:∀f,S f->Blk f b e cells)(m:C4 L i=some ⟨some d,.load t x,ty,pos,af,g⟩)(p:gd L σ ⟨some d,.load t x,ty,pos,af,g⟩=some true)(hd:ble (d+1) n=true)(j:ev σ x=some (.pointer (some ⟨b,o,none⟩)))[s:IsC P t k true](l:H9 cells o k=some vs)
  (h:HL P L S Q ord n ((d,.agg vs.toArray)::σ) wc):HL P L S Q ((i,true)::ord) n σ wc:=by
 refine VP m p hd (λa q w' c=>?_) h;simp[execOp,q.ev j,Hx (P:=P) (t:=t) w' (r w' c) l]
end
instance:IsFd Vy 254 0 0:=qA TL
instance:IsFd Vy 254 1 1:=qA TL
instance:IsBd Vy 254 [(0,1),(1,1)]:=VI TL
instance:IsZC Vy 254 [.slice none 0 0,.bool false]:=v2 (z:=.agg #[.slice none 0 0,.bool false]) TL rfl
instance:IsAr Vy 298 10 9:=⟨underlying298⟩
abbrev CB:Value:=.string ⟨#[]⟩
instance:IsZC Vy 298 [CB,CB,CB,CB,CB,CB,CB,CB,CB,CB]:=v2 (z:=.agg #[CB,CB,CB,CB,CB,CB,CB,CB,CB,CB]) TL rfl
def A6(w0:World)(hn:Sl w0 (dk w0) C B f)(n:Int)(p:0<=n):
  Rt Vy 226 [Ub n,.slice C f.length B].toArray w0 λv w'=>v=tV (Cx f n)/\Ext w0 w':=by
 have r:=hn.len63;refine dS func226 ntmps226 rfl rfl ?_;obtain⟨i,rfl⟩:=Om p;refine UR ?_;apply ld rfl<;>intro h
 .refine Up ?_;refine d6 ⟨?_,p7 _⟩;have:(i:Int)=63:=by simpa using h
  unfold Cx;rw[Tn this];rfl
 have c:¬(i:Int)=63:=by simpa using h
 refine U5 ?_;(refine a6 (λh=>?_) (λh=>?_))
 .have h1:(i:Int)>=(f.length:Int):=by simpa using h
  refine Us ?_;refine d6 ⟨?_,p7 _⟩;unfold Cx;rw[Tm c,Tn h1];rfl
 have h1:¬(i:Int)>=(f.length:Int):=by simpa using h
 have hi:i<f.length:=by omega
 refine U9 ?_;refine fe hn hi TV (λk l a=>?_);obtain⟨rfl,_⟩:=a.str;refine eK (df w0 f[i]) ?_;rintro _ m ⟨rfl,j⟩;refine U9 ?_;(refine a6 (λh=>?_) (λh=>?_))
 .refine Us ?_;refine d6 ⟨?_,j⟩;unfold Cx;rw[Tm c,Tm h1,Tn (by rw[Oy,tm hi];simpa using h)];rfl
 have h2:¬B8 f[i]=false:=by simpa using h
 refine U9 ?_;refine fe (hn.up j) hi TV (λk l a=>?_);obtain⟨rfl,_⟩:=a.str;refine eK (yT m f[i] (hn.up j)) ?_;rintro _ q ⟨rfl,rfl⟩;refine Ug ?_;apply ld rfl<;>intro h
 .refine Up ?_;refine d6 ⟨?_,j⟩;unfold Cx;rw[Tm c,Tm h1,Tm (by rw[Oy,tm hi];exact h2),Tn (by rw[Oy,tm hi,<-yg];simpa using h)];rfl
 refine UB ?_;refine fe (hn.up j) hi TV (λk l a=>?_);obtain⟨rfl,_⟩:=a.str;refine Uf ?_;refine d6 ⟨?_,j⟩;unfold Cx;rw[Tm c,Tm h1,Tm (by rw[Oy,tm hi];exact h2),Tm (by rw[Oy,tm hi,<-yg];simpa using h)];rw[Oy,tm hi,tV,LM]
theorem AE(w0:World)(k i x:Int):Rt Vy 271 [Ub k,Ub i,Ub x].toArray w0 λv w'=>v=.bool (iW k i x)/\w0=w':=by
 refine dT Tryz.func271 Tryz.ntmps271 rfl rfl ?_;unfold iW;refine Ux ?_;apply CW.cond rfl<;>intro h
 .have a:x=5:=by simpa using h
  rw[Tn a];clear h;refine U4 ?_
  (refine fH rfl rfl (λh=>?_) (λh=>?_))
  .refine UK ?_
   exact bd rfl rfl ⟨by rw[h];rfl,rfl⟩
  .rw[h]
   clear h;refine U9 ?_
   (refine fH rfl rfl (λh=>?_) (λh=>?_))
   .refine UX ?_
    exact bd rfl rfl ⟨by rw[h];rfl,rfl⟩
   .refine UK ?_
    exact bd rfl rfl ⟨by rw[h];rfl,rfl⟩
 have f:¬x=5:=by simpa using h
 rw[Tm f];refine UR ?_;apply CW.cond rfl<;>intro h
 .have h:x=6:=by simpa using h
  rw[Tn h];clear h;refine U4 ?_
  (refine fH rfl rfl (λh=>?_) (λh=>?_))
  .refine UX ?_
   exact bd rfl rfl ⟨by rw[h];rfl,rfl⟩
  .refine UK ?_
   exact bd rfl rfl ⟨by rw[h];rfl,rfl⟩
 have c:¬x=6:=by simpa using h
 rw[Tm c];refine aA [(0,Ub k),(1,Ub i),(2,Ub x),(28,.bool (decide (x=8\/x=9)))] ?_ ?_
 .refine UR ?_
  apply CW.cond rfl<;>intro h
  .refine UH ?_
   refine aT ⟨rfl,rfl,rfl,?_,trivial⟩;refine S9 (λb=>some (Value.bool b)) ?_;have:x=8:=by simpa using h
   simp[this]
  .refine UR ?_
   refine aT ⟨rfl,rfl,rfl,?_,trivial⟩;refine S9 (λb=>some (Value.bool b)) ?_;have:¬x=8:=by simpa using h
   rw[NU];simp[this]
 apply CW.cond rfl<;>intro h
 .rw[Tn (by simpa using h)]
  clear h;refine U4 ?_
  (refine fH rfl rfl (λh=>?_) (λh=>?_))
  .refine UX ?_
   exact bd rfl rfl ⟨by rw[h];rfl,rfl⟩
  .refine UK ?_
   exact bd rfl rfl ⟨by rw[h];rfl,rfl⟩
 .rw[Tm (by simpa using h)]
  refine Uw ?_;exact be ⟨rfl,rfl⟩
def BW(k n:Int)(l:List Ltl):(Ltl.mk k n l).k=k:=rfl
def BY(k n:Int)(l:List Ltl):(Ltl.mk k n l).n=n:=rfl
def BX(k n:Int)(l:List Ltl):(Ltl.mk k n l).kids=l:=rfl
def IR{kk:Int->Int}{k n:Int}{kids:List Ltl}(h:ShT kk (.mk k n kids)):kk k=kids.length/\0<=n/\n<=63/\∀x∈kids,ShT kk x:=by
 cases h with
 |mk _ _ _ h1 h2 h3 h4=>exact⟨h1,h2,h3,h4⟩
def LV{nm:Int->ar}{k n:Int}{x y:Ltl}(a:k=5\/k=6\/k=8\/k=9):
  LU nm (.mk k n [x,y])=Aa (iW k 0 x.k) (LU nm x)++[32]++I0 k++[32]++Aa (iW k 1 y.k) (LU nm y):=by
 rcases a with rfl|rfl|rfl|rfl<;>simp[LU,LX,zr]
def Ac{x:Ltl}(h:rd w F r x){b:Nat}(c:Cells w b B r):Cells w b B [Ub x.k]:=by
 obtain⟨ao,cap,rfl,_⟩:=RdT.sl h;intro j u a;cases j with
 |zero=>exact c 0 u a
 |succ j=>simp at a
abbrev gh(w:World)(bw:Nat)(no:Option Addr)(len a:Nat)(b:Bool):Prop:=Blk w bw 254 [.slice no len a,.bool b]
def cP(t:Ltl):Prop:=∀(w:World) (F:Nat->Prop) (bw:Nat) (ao:Option Addr) (cap:Nat) (no:Option Addr) (c:Nat) (a:List ByteArray) (b:Bool),Sl w F ao cap t.kids->Sl w F no c a->(∀k,F k->k<w.heap.size)->¬F bw->gh w bw no a.length c b->
 Rt Vy 156 [.pointer (some ⟨bw,0,none⟩),Bi t.k t.n ao t.kids.length cap].toArray w λv w'=>v=tV (LU (Cx a) t)/\gh w' bw no a.length c (b||iO (Cx a) t)/\w.grownBy w' (some bw)
def A2{t:Ltl}{i:Nat}(hi:i<t.kids.length)(N:cP t.kids[i])(V:t.kids[i].nodes<=1000)(w:World)(F:Nat->Prop)(bw:Nat)(ao:Option Addr)(cap:Nat)(no:Option Addr)(m:Nat)(c:List ByteArray)(b:Bool)
  (z:Sl w F ao cap t.kids) (hn:Sl w F no m c) (hF:∀k,F k->k<w.heap.size) (hnb:¬F bw) (K:gh w bw no c.length m b):
  Rt Vy 227 [Uc bw,Bi t.k t.n ao t.kids.length cap,Ub (i:Int)].toArray w λv w'=>v=tV (Aa (iW t.k i t.kids[i].k) (LU (Cx c) t.kids[i]))/\gh w' bw no c.length m (b||iO (Cx c) t.kids[i])/\w.grownBy w' (some bw):=by
 have U:=z.len63;have R:=K.lt;have Q:=LW (Cy c) t.kids[i];obtain⟨kb,koff,rfl,g,X,D,A⟩:=z.el i hi;refine dT func227 ntmps227 rfl rfl (UZ ?_);refine eH λs G l=>?_;have j:∀k,F k->k<s.heap.size:=λk d=>Rv (hF k d) l.size;have x:Sl s F _ cap t.kids:=z.mono (λk d=>l.block k (hF k d)) λ_ h=>h;have B:Sl s F no m c:=hn.mono (λk d=>l.block k (hF k d)) λ_ h=>h;refine Uy ?_;refine fe x hi TV (λu q P=>?_);obtain⟨ao',cap',rfl,O⟩:=P.ltl;refine eK (N s F bw ao' cap' no m c b O B j hnb (K.ext l)) ?_;rintro _ r ⟨rfl,H,f⟩;have J:=G.kept f T3;have o:∀k,F k->k<r.heap.size:=λk d=>Rv (j k d) f.size;have C:r.heap[kb]?=w.heap[kb]?:=(f.block kb (j kb g) (λe=>by cases e;exact hnb g)).trans (l.block kb (hF kb g));have E:Cells r kb (koff+i*sz Ltl) [Ub t.kids[i].k]:=Ac (Rep.mono A (λk d=>(f.block k (j k d) (λe=>by cases e;exact hnb d)).trans (l.block k (hF k d))) λ_ h=>h) (D.mono C);have S:w.grownBy r (some bw):=uC (l.grw (some bw)) f;generalize W:LU (Cx c) t.kids[i]=T at*;refine U6 ?_;refine dB (α:=Ltl) rfl rfl rfl rfl TK TK (Vi ?_);refine V2 (α:=Int) (F:=F) (y:=t.kids[i].k) rfl rfl rfl (o kb g) o (by rw[Oy];exact E) rfl ?_;rw[show Me Int [Ub t.kids[i].k]=Ub t.kids[i].k from rfl];refine VX rfl rfl rfl (λw' h=>VR (AE w' t.k i t.kids[i].k) (λv w'' I=>⟨I.1,I.2▸p7 _⟩)) (VD (λM L=>?_));have p:w.grownBy M (some bw):=uC S (L.grw (some bw));have n:=H.ext L;unfold Aa;refine UQ ?_;apply ld rfl<;>intro h
 .rw[Tn h];refine Up ?_;exact be ⟨rfl,n,p⟩
 .rw[Tm (by rw[h];decide)];refine UB ?_;refine eN (a:=[40]) (b:=T) rfl rfl rfl rfl TS (eN (a:=[40]++T) (b:=[41]) rfl rfl rfl rfl TT (Uf ?_));exact be ⟨rfl,n,p⟩
theorem Bf:∀(m:Nat) (t:Ltl),t.nodes<=m->m<=1000->ShT Af t->cP t
 |0,t,hm,_,_=>by have:=t.nodes_pos;omega
 |m+1,.mk k n kids,hm,hm1,Y=>by
  intro w F bw ao cap no V c b hs hn hF hnb hb
  obtain⟨j,h0,h63,J⟩:=IR Y;simp only[Ltl.nodes]at hm
  have C:∀i (hi:i<kids.length),kids[i].nodes<=m:=λi hi=>by have:=Ltl.nodes_kid kids _ (PL hi);omega
  have ihk:∀i (hi:i<kids.length),cP kids[i]:=λi hi=>Bf m kids[i] (C i hi) TK (J _ (PL hi))
  have v:∀i (hi:i<kids.length),(LU (Cx c) kids[i]).length<=8000:=λi hi=>by have:=LW (Cy c) kids[i];have:=C i hi;omega
  have hbl:=hb.lt;simp only[BX]at hs
  simp only[BW,BY,BX];refine dS Tryz.func156 Tryz.ntmps156 rfl rfl ?_;refine UZ ?_;refine eH λs S M=>?_
  have r:∀k,F k->k<s.heap.size:=λk j=>Rv (hF k j) M.size
  have I:Sl s F ao cap kids:=hs.mono (λk j=>M.block k (hF k j)) λ_ h=>h
  have E:Sl s F no V c:=hn.mono (λk j=>M.block k (hF k j)) λ_ h=>h
  have D:=hb.ext M;have p:w.grownBy s (some bw):=M.grw (some bw);have hl3:=S.lt;refine UE ?_;apply CW.cond rfl<;>intro h
  .obtain rfl:k=1:=by simpa using h
   obtain rfl:kids=[]:=O2 (by have:Af 1=0:=rfl;omega);refine Ud ?_;exact bd rfl rfl ⟨rfl,by simpa[iO,iP]using D,p⟩
  have k1:¬k=1:=by simpa using h
  refine UR ?_;apply CW.cond rfl<;>intro h
  .obtain rfl:k=2:=by simpa using h
   obtain rfl:kids=[]:=O2 (by have:Af 2=0:=rfl;omega);refine Ud ?_;exact bd rfl rfl ⟨rfl,by simpa[iO,iP]using D,p⟩
  have k2:¬k=2:=by simpa using h
  refine UR ?_;apply CW.cond rfl<;>intro h
  .obtain rfl:k=3:=by simpa using h
   obtain rfl:kids=[]:=O2 (by have:Af 3=0:=rfl;omega);refine U7 ?_;refine QL.call rfl rfl rfl (λw' h=>A6 w' ((E.mono (λk j=>h.block k (r k j)) λ_ h=>h).lift λk j=>Rv (r k j) h.size) n h0) ?_;refine U_ ?_;refine QL.nil (λB e2=>?_);have d:=D.ext e2;refine UM ?_
   (refine fH rfl rfl (λh=>?_) (λh=>?_))
   .refine Vh ?_
    refine f7 d (λW l A=>?_);refine Ud ?_;refine bd rfl rfl ⟨by simp[LU,zr],?_,uC (uC p (e2.grw _)) A⟩;rw[h];exact l
   .refine Vg ?_
    refine f7 d (λW l A=>?_);refine Ud ?_;refine bd rfl rfl ⟨by simp[LU,zr],?_,uC (uC p (e2.grw _)) A⟩;rw[h,show(false||iO (Cx c) (.mk 3 n []))=((LK (Cx c n)).data.toList==(⟨#[]⟩:ByteArray).data.toList) by rw[LN];simp[iO,iP]];exact l
  have k3:¬k=3:=by simpa using h
  have u:∀K,Af K=1->k=K->∃x,kids=[x]:=λK hK e=>P0.1 (by rw[e]at j;omega)
  have q:∀i (hi:i<kids.length),_:=λi hi=>A2 (t:=.mk k n kids) (i:=i) hi (ihk i hi) (by have:=C i hi;show kids[i].nodes<=1000;omega) s F bw ao cap no V c b I E r hnb D
  simp only[BW,BY,BX]at q
  refine UR ?_;apply CW.cond rfl<;>intro h
  .have g:k=4:=by simpa using h
   obtain⟨x,rfl⟩:=u 4 rfl g;have o:=v 0 TO;have G:=Ab (iW k ((0:Nat):Int) x.k) (LU (Cx c) x);simp only[PE]at o
   refine UD ?_;refine eK (q 0 TO) ?_;rintro _ B ⟨rfl,d,f⟩
   simp only[PE]at d⊢
   refine eN (a:=[33]) rfl rfl rfl rfl TS ?_;refine UX ?_;subst g;exact bd rfl rfl ⟨by simp[LU,LX,zr],by simpa[iO,iP]using d,uC p f⟩
  refine UR ?_;apply CW.cond rfl<;>intro h
  .have g:k=7:=by simpa using h
   obtain⟨x,rfl⟩:=u 7 rfl g;have o:=v 0 TO;have G:=Ab (iW k ((0:Nat):Int) x.k) (LU (Cx c) x);simp only[PE]at o
   refine UD ?_;refine eK (q 0 TO) ?_;rintro _ B ⟨rfl,d,f⟩
   simp only[PE]at d⊢
   refine eN (a:=[88,32]) rfl rfl rfl rfl TS ?_;refine UX ?_;subst g;exact bd rfl rfl ⟨by simp[LU,LX,zr],by simpa[iO,iP]using d,uC p f⟩
  refine UR ?_;apply CW.cond rfl<;>intro h
  .have g:k=10:=by simpa using h
   obtain⟨x,rfl⟩:=u 10 rfl g;have o:=v 0 TO;have G:=Ab (iW k ((0:Nat):Int) x.k) (LU (Cx c) x);simp only[PE]at o
   refine UD ?_;refine eK (q 0 TO) ?_;rintro _ B ⟨rfl,d,f⟩
   simp only[PE]at d⊢
   refine eN (a:=[70,32]) rfl rfl rfl rfl TS ?_;refine UX ?_;subst g;exact bd rfl rfl ⟨by simp[LU,LX,zr],by simpa[iO,iP]using d,uC p f⟩
  refine UR ?_;apply CW.cond rfl<;>intro h
  .have g:k=11:=by simpa using h
   obtain⟨x,rfl⟩:=u 11 rfl g;have o:=v 0 TO;have G:=Ab (iW k ((0:Nat):Int) x.k) (LU (Cx c) x);simp only[PE]at o
   refine UD ?_;refine eK (q 0 TO) ?_;rintro _ B ⟨rfl,d,f⟩
   simp only[PE]at d⊢
   refine eN (a:=[71,32]) rfl rfl rfl rfl TS ?_;refine UX ?_;subst g;exact bd rfl rfl ⟨by simp[LU,LX,zr],by simpa[iO,iP]using d,uC p f⟩
  have Q:(k=5\/k=6\/k=8\/k=9)/\kids.length=2:=by
   rcases Ag j with⟨_,e⟩|⟨_,e⟩|⟨M,e⟩
   .omega
   .simp only[S3,S2]at*;omega
   .exact⟨e,M⟩
  obtain⟨L,hk2⟩:=Q;obtain⟨x,y,rfl⟩:∃x y,kids=[x,y]:=by
   match kids,hk2 with
   |[x,y],_=>exact⟨x,y,rfl⟩
  have o:=v 0 TO;have hly:=v 1 TO;simp only[PE,PD]at o hly
  have hkx:=Ab (iW k ((0:Nat):Int) x.k) (LU (Cx c) x);have G:=Ab (iW k ((1:Nat):Int) y.k) (LU (Cx c) y);obtain⟨ki,rfl,hki,Z⟩:∃i:Nat,k=(i:Int)/\i<10/\C8 [CB,CB,CB,CB,CB,tV [38],tV [47],CB,tV [85],tV [82]] i=some (tV (I0 k)):=by
   rcases L with rfl|rfl|rfl|rfl
   .exact⟨5,rfl,by decide,rfl⟩
   .exact⟨6,rfl,by decide,rfl⟩
   .exact⟨8,rfl,by decide,rfl⟩
   .exact⟨9,rfl,by decide,rfl⟩
  have hsl:(I0 (ki:Int)).length<=1:=by unfold I0;(repeat' split)<;>decide
  generalize O:I0 (ki:Int)=sg at*
  refine Uw ?_;refine eI (out:=[CB,CB,CB,CB,CB,tV [38],tV [47],CB,tV [85],tV [82]]) rfl rfl rfl rfl ?_;refine Vc ?_;refine fp rfl rfl rfl rfl hki Z ?_;refine UR ?_;have U:Ext s (drew s):=Ext.drew s;have R:=S.ext U;refine aG (λz:World=>z.heap[w.heap.size]?=(drew s).heap[w.heap.size]?) [(0,true),(1,true),(4,true),(7,true),(8,true),(2,false),(3,true),(5,true),(6,true),(9,false),(10,true),(11,true)] mixed TL rfl ?_;have T:∀z:World,(λz:World=>z.heap[w.heap.size]?=(drew s).heap[w.heap.size]?) z->Blk z w.heap.size 32 [Ub (ki:Int),Ub n,.slice ao 2 cap]:=λz hz=>hz.trans R
  refine Vo ?_;refine cq T rfl rfl rfl rfl rfl ?_;refine Vo ?_;refine cq T rfl rfl rfl rfl rfl ?_;refine cy rfl (eK (A2 (t:=.mk (ki:Int) n [x,y]) (i:=0) (by simp[BX]) (ihk 0 TO) (by have:=C 0 TO;show x.nodes<=1000;simp only[PE]at this;omega) (drew s) F bw ao cap no V c b (I.mono (λk j=>U.block k (r k j)) λ_ h=>h) (E.mono (λk j=>U.block k (r k j)) λ_ h=>h) r hnb (D.ext U)) ?_);rintro _ B ⟨rfl,d,f⟩
  have N:B.heap[w.heap.size]?=(drew s).heap[w.heap.size]?:=f.block _ hl3 T3;have hF2:∀k,F k->k<B.heap.size:=λk j=>Rv (r k j) f.size
  have P:s.grownBy B (some bw):=uC (U.grw _) f;have H:∀k,F k->B.heap[k]?=s.heap[k]?:=λk j=>P.block k (r k j) (λe=>by cases e;exact hnb j)
  refine WL.nil (a8 N ?_);simp only[BW,BX,PE]at d⊢
  refine b_ (b:=[32]) rfl rfl rfl rfl rfl TS ?_;refine b_ (b:=sg) rfl rfl rfl rfl rfl TT ?_;refine b_ (b:=[32]) rfl rfl rfl rfl rfl TT ?_;refine cy rfl (eK (A2 (t:=.mk (ki:Int) n [x,y]) (i:=1) (by simp[BX]) (ihk 1 TO) (by have:=C 1 TO;show y.nodes<=1000;simp only[PD,PE]at this;omega) B F bw ao cap no V c _ (I.mono H λ_ h=>h) (E.mono H λ_ h=>h) hF2 hnb d) ?_);rintro _ W ⟨rfl,l,A⟩
  have X:W.heap[w.heap.size]?=(drew s).heap[w.heap.size]?:=(A.block _ (by have:=f.size;have:s.heap.size<=B.heap.size:=this;omega) T3).trans N;refine WL.nil (a8 X ?_);simp only[BW,BX,PD,PE]at l⊢
  refine b_ rfl rfl rfl rfl rfl TT ?_;refine Vr ?_;refine UQ ?_;refine bd rfl rfl ⟨by rw[LV L,O];rfl,?_,uC (uC p P) A⟩;rw[show(b||iO (Cx c) (.mk (ki:Int) n [x,y]))=(b||iO (Cx c) x||iO (Cx c) y) by
   have:((ki:Int)==3)=false:=by rcases L with e|e|e|e<;>rw[e]<;>rfl
   simp[iO,iP,this,Bool.or_assoc]]
  exact l
def Be(w0:World){ao:Option Addr}{cap:Nat}{t:Ltl}(o:Sl w0 (dk w0) ao cap t.kids)(hn:Sl w0 (dk w0) C B f):
  Rt Vy 90 [Bi t.k t.n ao t.kids.length cap,.slice C f.length B].toArray w0 λv w'=>v=.tuple ⟨[tV (Fy t f).1,Ub (Fy t f).2]⟩/\Ext w0 w':=by
 refine dS func90 ntmps90 rfl rfl ?_;unfold Fy;refine UZ ?_;refine eH λx b s=>?_
 refine UD ?_;refine eK (Bg x (o.up s) T0) ?_;rintro _ n ⟨rfl,r⟩
 have b:=b.ext r;have e:=s.trans r;refine UR ?_;apply ld rfl<;>intro h
 .rw[Tn (by simpa using h)]
  refine Up ?_;exact f0 ⟨rfl,e⟩
 have p:(kD t 1 0).1=0:=by simpa using h
 rw[Tm (by simpa using h)];obtain⟨i,y⟩:=kJ t 1 0 p;have z:=(kI t 1 0 p).2;refine UB ?_;refine r4 rfl rfl rfl rfl ?_;refine eH λw c q=>?_
 have b:=b.ext q;have a:=e.trans q;refine UD ?_;refine eK (Bf t.nodes t T8 TK i w (dk w0) n.heap.size ao cap C B f false (o.at a) (hn.at a) (λk j=>Rv j a.size) (λj=>by have h1:n.heap.size<w0.heap.size:=j;have:=e.size;omega) c) ?_;rintro _ u ⟨rfl,m,l⟩
 have d:Ext w0 u:=a.grown l a.size (λg A=>by cases A;exact e.size);rw[NX]at m
 refine UN ?_;apply ld rfl<;>intro h
 .rw[Tn h]
  refine Up ?_;exact f0 ⟨rfl,d⟩
 .rw[Tm (by rw[h];decide)]
  refine Uw ?_;exact f0 ⟨rfl,d⟩
mutual
theorem kA:∀(t:Ltl) (d c:Int),(kp t d c).1=0->ShT Ad t/\(kp t d c).2=c+t.nodes
 |.mk k n kids,d,c,h=>by
  simp only[kp]at h⊢
  split at h
  .cases h
  split at h
  .cases h
  split at h
  .cases h
  rename_i h1 h2 h3;rw[Tm h1,Tm h2,Tm h3];have⟨g1,g2⟩:=ku kids (d+1) (c+1) h;simp only[Tr]at h3
  refine⟨.mk k n kids TK TK TK g1,?_⟩;rw[g2];simp only[Ltl.nodes];omega
theorem ku:∀(l:List Ltl) (d c:Int),(kq l d c).1=0->(∀x∈l,ShT Ad x)/\(kq l d c).2=c+Ltl.nodesL l
 |[],d,c,h=>⟨λx a=>by(cases a),by simp[kq,Ltl.nodesL]⟩
 |y::r,d,c,h=>by
  simp only[kq]at h⊢
  split at h
  .rename_i h1;exact absurd h h1
  rename_i h1;rw[Tm h1];have⟨g1,g2⟩:=kA y d c (by simpa using h1);have⟨g3,g4⟩:=ku r d _ h;refine⟨λx a=>?_,?_⟩
  .rcases Qo.1 a with rfl|a
   .exact g1
   .exact g3 x a
  .rw[g4,g2];simp only[Ltl.nodesL];omega
end
def txtC_bin{nm:Int->ar}{n:Int}{x y:Ltl}:
  LP nm (.mk 5 n [x,y])=Aa (iV 5 0 x.k) (LP nm x)++[32,38,32]++Aa (iV 5 1 y.k) (LP nm y)/\LP nm (.mk 6 n [x,y])=Aa (iV 6 0 x.k) (LP nm x)++[32,47,32]++Aa (iV 6 1 y.k) (LP nm y)/\
  LP nm (.mk 10 n [x,y])=[69,32,91]++LP nm x++[32,85,32]++LP nm y++[93]/\LP nm (.mk 14 n [x,y])=[65,32,91]++LP nm x++[32,85,32]++LP nm y++[93]:=by
 refine⟨?_,?_,?_,?_⟩<;>simp[LP,LS,zp]
def LR{nm:Int->ar}{k n:Int}{x:Ltl}(a:k=4\/k=7\/k=8\/k=9\/k=11\/k=12\/k=13):LP nm (.mk k n [x])=IZ k++Aa (iV k 0 x.k) (LP nm x):=by rcases a with rfl|rfl|rfl|rfl|rfl|rfl|rfl<;>simp[LP,LS,zp]
def iM{nm:Int->ar}{k n:Int}{x y:Ltl}(a:k≠3)(b:Bool):(b||iO nm (.mk k n [x,y]))=(b||iO nm x||iO nm y):=by
 have:(k==3)=false:=by simpa using a
 simp[iO,iP,this,Bool.or_assoc]
def iL{nm:Int->ar}{k n:Int}{x:Ltl}(a:k≠3)(b:Bool):(b||iO nm (.mk k n [x]))=(b||iO nm x):=by
 have:(k==3)=false:=by simpa using a
 simp[iO,iP,this]
instance:IsFd Vy 258 0 0:=qA TL
instance:IsFd Vy 258 1 1:=qA TL
instance:IsBd Vy 258 [(0,1),(1,1)]:=VI TL
instance:IsZC Vy 258 [.slice none 0 0,.bool false]:=v2 (z:=.agg #[.slice none 0 0,.bool false]) TL rfl
instance:IsAr Vy 331 14 9:=⟨underlying331⟩
abbrev CC:Value:=.string ⟨#[]⟩
instance:IsZC Vy 331 [CC,CC,CC,CC,CC,CC,CC,CC,CC,CC,CC,CC,CC,CC]:=v2 (z:=.agg #[CC,CC,CC,CC,CC,CC,CC,CC,CC,CC,CC,CC,CC,CC]) TL rfl
def mB(w0:World){k:Int}(c:k=4\/k=7\/k=8\/k=9\/k=11\/k=12\/k=13):Rt Vy 230 [Ub k].toArray w0 λv w'=>v=tV (IZ k)/\Ext w0 w':=by
 obtain⟨ki,rfl,b,a⟩:∃i:Nat,k=(i:Int)/\i<14/\C8 [CC,CC,CC,CC,tV [33],CC,CC,tV [69,88,32],tV [69,70,32],tV [69,71,32],CC,tV [65,88,32],tV [65,70,32],tV [65,71,32]] i=some (tV (IZ k)):=by
  obtain rfl|rfl|rfl|rfl|rfl|rfl|rfl:=c
  .exact⟨4,rfl,by decide,rfl⟩
  .exact⟨7,rfl,by decide,rfl⟩
  .exact⟨8,rfl,by decide,rfl⟩
  .exact⟨9,rfl,by decide,rfl⟩
  .exact⟨11,rfl,by decide,rfl⟩
  .exact⟨12,rfl,by decide,rfl⟩
  .exact⟨13,rfl,by decide,rfl⟩
 generalize IZ (ki:Int)=sg at*;refine dR func230 ntmps230 rfl rfl (UR ?_);refine eI (out:=[CC,CC,CC,CC,tV [33],CC,CC,tV [69,88,32],tV [69,70,32],tV [69,71,32],CC,tV [65,88,32],tV [65,70,32],tV [65,71,32]]) rfl rfl rfl rfl (U9 ?_);refine fp rfl rfl rfl rfl b a (Uf ?_);exact be ⟨rfl,p7 _⟩
theorem j0(w0:World)(k i x:Int):Rt Vy 272 [Ub k,Ub i,Ub x].toArray w0 λv w'=>v=.bool (iV k i x)/\w0=w':=by
 refine dT Tryz.func272 Tryz.ntmps272 rfl rfl ?_;unfold iV;refine Ux ?_;apply CW.cond rfl<;>intro h
 .have a:x=5:=by simpa using h
  rw[Tn a];clear h;refine U4 ?_
  (refine fH rfl rfl (λh=>?_) (λh=>?_))
  .refine UK ?_
   exact bd rfl rfl ⟨by rw[h];rfl,rfl⟩
  .rw[h]
   clear h;refine U9 ?_
   (refine fH rfl rfl (λh=>?_) (λh=>?_))
   .refine UX ?_
    exact bd rfl rfl ⟨by rw[h];rfl,rfl⟩
   .refine UK ?_
    exact bd rfl rfl ⟨by rw[h];rfl,rfl⟩
 have c:¬x=5:=by simpa using h
 rw[Tm c];refine UR ?_;apply CW.cond rfl<;>intro h
 .have h:x=6:=by simpa using h
  rw[Tn h];clear h;refine U4 ?_
  (refine fH rfl rfl (λh=>?_) (λh=>?_))
  .refine UX ?_
   exact bd rfl rfl ⟨by rw[h];rfl,rfl⟩
  .refine UK ?_
   exact bd rfl rfl ⟨by rw[h];rfl,rfl⟩
 have b:¬x=6:=by simpa using h
 rw[Tm b];refine Uw ?_;exact be ⟨rfl,rfl⟩
abbrev gi(w:World)(bw:Nat)(no:Option Addr)(len a:Nat)(b:Bool):Prop:=Blk w bw 258 [.slice no len a,.bool b]
def aw(t:Ltl):Prop:=∀(w:World) (F:Nat->Prop) (bw:Nat) (ao:Option Addr) (cap:Nat) (no:Option Addr) (c:Nat) (a:List ByteArray) (b:Bool),Sl w F ao cap t.kids->Sl w F no c a->(∀k,F k->k<w.heap.size)->¬F bw->gi w bw no a.length c b->
 Rt Vy 157 [.pointer (some ⟨bw,0,none⟩),Bi t.k t.n ao t.kids.length cap].toArray w λv w'=>v=tV (LP (Cx a) t)/\gi w' bw no a.length c (b||iO (Cx a) t)/\w.grownBy w' (some bw)
def lB{t:Ltl}{i:Nat}(hi:i<t.kids.length)(N:aw t.kids[i])(V:t.kids[i].nodes<=1000)(w:World)(F:Nat->Prop)(bw:Nat)(ao:Option Addr)(cap:Nat)(no:Option Addr)(m:Nat)(c:List ByteArray)(b:Bool)
  (z:Sl w F ao cap t.kids) (hn:Sl w F no m c) (hF:∀k,F k->k<w.heap.size) (hnb:¬F bw) (K:gi w bw no c.length m b):
  Rt Vy 229 [Uc bw,Bi t.k t.n ao t.kids.length cap,Ub (i:Int)].toArray w λv w'=>v=tV (Aa (iV t.k i t.kids[i].k) (LP (Cx c) t.kids[i]))/\gi w' bw no c.length m (b||iO (Cx c) t.kids[i])/\w.grownBy w' (some bw):=by
 have U:=z.len63;have R:=K.lt;have Q:=LQ (Cy c) t.kids[i];obtain⟨kb,koff,rfl,g,X,D,A⟩:=z.el i hi;refine dT func229 ntmps229 rfl rfl (UZ ?_);refine eH λs G l=>?_;have j:∀k,F k->k<s.heap.size:=λk d=>Rv (hF k d) l.size;have x:Sl s F _ cap t.kids:=z.mono (λk d=>l.block k (hF k d)) λ_ h=>h;have B:Sl s F no m c:=hn.mono (λk d=>l.block k (hF k d)) λ_ h=>h;refine Uy ?_;refine fe x hi TV (λu q P=>?_);obtain⟨ao',cap',rfl,O⟩:=P.ltl;refine eK (N s F bw ao' cap' no m c b O B j hnb (K.ext l)) ?_;rintro _ r ⟨rfl,H,f⟩;have J:=G.kept f T3;have o:∀k,F k->k<r.heap.size:=λk d=>Rv (j k d) f.size;have C:r.heap[kb]?=w.heap[kb]?:=(f.block kb (j kb g) (λe=>by cases e;exact hnb g)).trans (l.block kb (hF kb g));have E:Cells r kb (koff+i*sz Ltl) [Ub t.kids[i].k]:=Ac (Rep.mono A (λk d=>(f.block k (j k d) (λe=>by cases e;exact hnb d)).trans (l.block k (hF k d))) λ_ h=>h) (D.mono C);have S:w.grownBy r (some bw):=uC (l.grw (some bw)) f;generalize W:LP (Cx c) t.kids[i]=T at*;refine U6 ?_;refine dB (α:=Ltl) rfl rfl rfl rfl TK TK (Vi ?_);refine V2 (α:=Int) (F:=F) (y:=t.kids[i].k) rfl rfl rfl (o kb g) o (by rw[Oy];exact E) rfl ?_;rw[show Me Int [Ub t.kids[i].k]=Ub t.kids[i].k from rfl];refine VX rfl rfl rfl (λw' h=>VR (j0 w' t.k i t.kids[i].k) (λv w'' I=>⟨I.1,I.2▸p7 _⟩)) (VD (λM L=>?_));have p:w.grownBy M (some bw):=uC S (L.grw (some bw));have n:=H.ext L;unfold Aa;refine UQ ?_;apply ld rfl<;>intro h
 .rw[Tn h];refine Up ?_;exact be ⟨rfl,n,p⟩
 .rw[Tm (by rw[h];decide)];refine UB ?_;refine eN (a:=[40]) (b:=T) rfl rfl rfl rfl TS (eN (a:=[40]++T) (b:=[41]) rfl rfl rfl rfl TT (Uf ?_));exact be ⟨rfl,n,p⟩
def lK(w:World){b:Bool}(q:Sl w F C B f)(hF:∀k,F k->k<w.heap.size)(o:gi w a C f.length B b)(n:Int)(z:0<=n):
  Rt Vy 228 [Uc a,Ub n].toArray w λv w'=>v=tV (Cx f n)/\gi w' a C f.length B (b||Cx f n==[])/\w.grownBy w' (some a):=by
 have hn:=q.lift hF;have A:=hn.len63;refine dS func228 ntmps228 rfl rfl ?_;obtain⟨i,rfl⟩:=Om z;refine UR ?_;apply ld rfl<;>intro h
 .have d:(i:Int)=63:=by simpa using h
  refine Up ?_;refine d6 ?_;unfold Cx;rw[Tn d];exact⟨rfl,by rw[show(b||Kf==[])=b by simp[Kf]];exact o,World.grownBy.refl _ _⟩
 have d:¬(i:Int)=63:=by simpa using h
 have y:∀{w':World} {σ:Sg},Cx f (i:Int)=[]->Ext w w'->True:=λ_ _=>trivial;refine U8 ?_;(refine dG rfl rfl (λh=>?_) (λh=>?_))
 .have h1:(i:Int)>=(f.length:Int):=by simpa using h
  refine Vb ?_;refine VD (λs m=>?_);have c:=o.ext m;refine UN ?_;refine f7 c (λr l j=>?_);refine Up ?_;refine d6 ?_;unfold Cx;rw[Tm d,Tn h1];exact⟨rfl,by simpa using l,uC (m.grw _) j⟩
 have h1:¬(i:Int)>=(f.length:Int):=by simpa using h
 have hi:i<f.length:=by omega
 refine Vi ?_;refine dz rfl rfl rfl rfl rfl T0 hn hi TV (λt u g=>?_);obtain⟨rfl,_⟩:=g.str;refine VX rfl rfl rfl (λw' h=>df w' f[i]) (U_ ?_);(refine dG rfl rfl (λh=>?_) (λh=>?_))
 .refine Vb ?_;refine VD (λs m=>?_);have c:=o.ext m;refine UN ?_;refine f7 c (λr l j=>?_);refine Up ?_;refine d6 ?_;unfold Cx;rw[Tm d,Tm h1,Tn (by rw[Oy,tm hi];simpa using h)];exact⟨rfl,by simpa using l,uC (m.grw _) j⟩
 have h2:¬B8 f[i]=false:=by simpa using h
 refine Vi ?_;refine dz rfl rfl rfl rfl rfl T0 hn hi TV (λt u g=>?_);obtain⟨rfl,_⟩:=g.str;refine VX rfl rfl rfl (λw' h=>VR (yT w' f[i] (hn.up h)) (λv w'' x=>⟨x.1,x.2▸p7 _⟩)) (U_ ?_);refine VD (λs m=>?_);have c:=o.ext m;refine UQ ?_;apply ld rfl<;>intro h
 .refine UN ?_;refine f7 c (λr l j=>?_);refine Up ?_;refine d6 ?_;unfold Cx;rw[Tm d,Tm h1,Tm (by rw[Oy,tm hi];exact h2),Tn (by rw[Oy,tm hi,<-yg];simpa using h)];exact⟨rfl,by simpa using l,uC (m.grw _) j⟩
 refine UM ?_;refine fe (hn.up m) hi TV (λt u g=>?_);obtain⟨rfl,_⟩:=g.str;refine Uf ?_;refine d6 ?_;have p:B9 f[i].data.toList=true:=by simpa using h2
 have e:Cx f (i:Int)=f[i].data.toList:=by unfold Cx;rw[Tm d,Tm h1,Tm (by rw[Oy,tm hi];exact h2),Tm (by rw[Oy,tm hi,<-yg];simpa using h)];rw[Oy,tm hi]
 rw[e];exact⟨by rw[tV,LM],by rw[show(f[i].data.toList==[])=false from by rw[S2];exact(Ca p).1,N7];exact c,m.grw _⟩
theorem mC:∀(m:Nat) (t:Ltl),t.nodes<=m->m<=1000->ShT Ad t->aw t
 |0,t,hm,_,_=>by have:=t.nodes_pos;omega
 |m+1,.mk k n kids,hm,hm1,hsh=>by
  intro w F bw ao cap no J g b hs hn hF hnb hb
  obtain⟨r,h0,h63,X⟩:=IR hsh;simp only[Ltl.nodes]at hm
  have G:∀i (hi:i<kids.length),kids[i].nodes<=m:=λi hi=>by have:=Ltl.nodes_kid kids _ (PL hi);omega
  have ihk:∀i (hi:i<kids.length),aw kids[i]:=λi hi=>mC m kids[i] (G i hi) TK (X _ (PL hi))
  have C:∀i (hi:i<kids.length),(LP (Cx g) kids[i]).length<=8000:=λi hi=>by have:=LQ (Cy g) kids[i];have:=G i hi;omega
  have hbl:=hb.lt;simp only[BX]at hs
  simp only[BW,BY,BX];refine dS Tryz.func157 Tryz.ntmps157 rfl rfl ?_;refine UZ ?_;refine eH λd hb3 Y=>?_
  have B:∀k,F k->k<d.heap.size:=λk r=>Rv (hF k r) Y.size
  have hs1:Sl d F ao cap kids:=hs.mono (λk r=>Y.block k (hF k r)) λ_ h=>h
  have hn1:Sl d F no J g:=hn.mono (λk r=>Y.block k (hF k r)) λ_ h=>h
  have U:=hb.ext Y;have T:w.grownBy d (some bw):=Y.grw (some bw);have hl3:=hb3.lt;have I:∀K,Ad K=2->k=K->∃x y,kids=[x,y]:=λK hK e=>by
   have:kids.length=2:=by rw[e]at r;omega
   match kids,this with
   |[x,y],_=>exact⟨x,y,rfl⟩
  have hD:Ext d (drew d):=Ext.drew d;have hb3d:=hb3.ext hD;have P:=U.ext hD;have D:Sl (drew d) F ao cap kids:=hs1.mono (λk r=>hD.block k (B k r)) λ_ h=>h
  have j:Sl (drew d) F no J g:=hn1.mono (λk r=>hD.block k (B k r)) λ_ h=>h
  have V:∀k,F k->k<(drew d).heap.size:=B;have O:w.grownBy (drew d) (some bw):=uC T (hD.grw _);have hw3:w.heap.size≠bw:=by omega
  have s:∀{z Z:World},(z.heap[w.heap.size]?=(drew d).heap[w.heap.size]?/\d.heap.size<=z.heap.size/\∀k,F k->z.heap[k]?=(drew d).heap[k]?)->z.grownBy Z (some bw)->(Z.heap[w.heap.size]?=(drew d).heap[w.heap.size]?/\d.heap.size<=Z.heap.size/\∀k,F k->Z.heap[k]?=(drew d).heap[k]?):=
   λ {z Z} R hg=>⟨(hg.block _ TK (λe=>hw3 (R4 e))).trans R.1,Rr R.2.1 hg.size,λk r=>(hg.block k (Rv (B k r) R.2.1) (λe=>by cases e;exact hnb r)).trans (R.2.2 k r)⟩
  have A:∀z:World,(λz:World=>z.heap[w.heap.size]?=(drew d).heap[w.heap.size]?/\d.heap.size<=z.heap.size/\∀k,F k->z.heap[k]?=(drew d).heap[k]?) z->Blk z w.heap.size 35 [Ub k,Ub n,.slice ao kids.length cap]:=λz R=>R.1.trans hb3d
  have v:(λz:World=>z.heap[w.heap.size]?=(drew d).heap[w.heap.size]?/\d.heap.size<=z.heap.size/\∀k,F k->z.heap[k]?=(drew d).heap[k]?) (drew d):=⟨rfl,Rq _,λ_ _=>rfl⟩;refine UE ?_;apply CW.cond rfl<;>intro h
  .obtain rfl:k=1:=by simpa using h
   obtain rfl:kids=[]:=O2 (by have:Ad 1=0:=rfl;omega);refine Ud ?_;exact bd rfl rfl ⟨rfl,by simpa[iO,iP]using U,T⟩
  have k1:¬k=1:=by simpa using h
  clear h;refine UR ?_;apply CW.cond rfl<;>intro h
  .obtain rfl:k=2:=by simpa using h
   obtain rfl:kids=[]:=O2 (by have:Ad 2=0:=rfl;omega);refine Ud ?_;exact bd rfl rfl ⟨rfl,by simpa[iO,iP]using U,T⟩
  have k2:¬k=2:=by simpa using h
  clear h;refine UR ?_;apply CW.cond rfl<;>intro h
  .obtain rfl:k=3:=by simpa using h
   obtain rfl:kids=[]:=O2 (by have:Ad 3=0:=rfl;omega);refine UV ?_;refine eK (lK d hn1 B U n h0) ?_;rintro _ Q ⟨rfl,p,o⟩
   refine UX ?_;exact bd rfl rfl ⟨by simp[LP,zp],by simpa[iO,iP]using p,uC T o⟩
  have k3:¬k=3:=by simpa using h
  clear h;refine UR ?_;apply CW.cond rfl<;>intro h
  .obtain rfl:k=5:=by simpa using h
   obtain⟨x,y,rfl⟩:=I 5 rfl rfl;have E:=C 0 TO;have H:=C 1 TO;simp only[PE,PD]at E H
   have hkx:=Ab (iV 5 ((0:Nat):Int) x.k) (LP (Cx g) x);have hky:=Ab (iV 5 ((1:Nat):Int) y.k) (LP (Cx g) y);refine UZ ?_;refine aG (λz:World=>z.heap[w.heap.size]?=(drew d).heap[w.heap.size]?/\d.heap.size<=z.heap.size/\∀k,F k->z.heap[k]?=(drew d).heap[k]?) [(0,true),(1,true),(4,true),(5,true),(2,false),(3,true),(6,false),(7,true),(8,true)] mixed TL v ?_;refine Vo ?_;refine cq A rfl rfl rfl rfl rfl ?_;refine Vo ?_;refine cq A rfl rfl rfl rfl rfl ?_;refine cy rfl (eK (lB (t:=.mk 5 n [x,y]) (i:=0) (by simp[BX]) (ihk 0 TO) (by have:=G 0 TO;show x.nodes<=1000;simp only[PE]at this;omega) (drew d) F bw ao cap no J g b D j V hnb P) ?_);rintro _ Q ⟨rfl,p,o⟩
   have c:=s v o;refine WL.nil (a8 c ?_);simp only[BW,BX,PE]at p⊢
   refine b_ (b:=[32,38,32]) rfl rfl rfl rfl rfl TS ?_;refine cy rfl (eK (lB (t:=.mk 5 n [x,y]) (i:=1) (by simp[BX]) (ihk 1 TO) (by have:=G 1 TO;show y.nodes<=1000;simp only[PD,PE]at this;omega) Q F bw ao cap no J g _ (D.mono c.2.2 λ_ h=>h) (j.mono c.2.2 λ_ h=>h) (λk r=>Rv (B k r) c.2.1) hnb p) ?_);rintro _ w3 ⟨rfl,f,l⟩
   refine WL.nil (a8 (s c l) ?_);simp only[BW,BX,PD,PE]at f⊢
   refine b_ rfl rfl rfl rfl rfl TT ?_;refine Vr ?_;refine Uk ?_;refine bd rfl rfl ⟨by rw[txtC_bin.1];rfl,?_,uC (uC O o) l⟩;rw[iM TN];exact f
  have k5:¬k=5:=by simpa using h
  clear h;refine UR ?_;apply CW.cond rfl<;>intro h
  .obtain rfl:k=6:=by simpa using h
   obtain⟨x,y,rfl⟩:=I 6 rfl rfl;have E:=C 0 TO;have H:=C 1 TO;simp only[PE,PD]at E H
   have hkx:=Ab (iV 6 ((0:Nat):Int) x.k) (LP (Cx g) x);have hky:=Ab (iV 6 ((1:Nat):Int) y.k) (LP (Cx g) y);refine UZ ?_;refine aG (λz:World=>z.heap[w.heap.size]?=(drew d).heap[w.heap.size]?/\d.heap.size<=z.heap.size/\∀k,F k->z.heap[k]?=(drew d).heap[k]?) [(0,true),(1,true),(4,true),(5,true),(2,false),(3,true),(6,false),(7,true),(8,true)] mixed TL v ?_;refine Vo ?_;refine cq A rfl rfl rfl rfl rfl ?_;refine Vo ?_;refine cq A rfl rfl rfl rfl rfl ?_;refine cy rfl (eK (lB (t:=.mk 6 n [x,y]) (i:=0) (by simp[BX]) (ihk 0 TO) (by have:=G 0 TO;show x.nodes<=1000;simp only[PE]at this;omega) (drew d) F bw ao cap no J g b D j V hnb P) ?_);rintro _ Q ⟨rfl,p,o⟩
   have c:=s v o;refine WL.nil (a8 c ?_);simp only[BW,BX,PE]at p⊢
   refine b_ (b:=[32,47,32]) rfl rfl rfl rfl rfl TS ?_;refine cy rfl (eK (lB (t:=.mk 6 n [x,y]) (i:=1) (by simp[BX]) (ihk 1 TO) (by have:=G 1 TO;show y.nodes<=1000;simp only[PD,PE]at this;omega) Q F bw ao cap no J g _ (D.mono c.2.2 λ_ h=>h) (j.mono c.2.2 λ_ h=>h) (λk r=>Rv (B k r) c.2.1) hnb p) ?_);rintro _ w3 ⟨rfl,f,l⟩
   refine WL.nil (a8 (s c l) ?_);simp only[BW,BX,PD,PE]at f⊢
   refine b_ rfl rfl rfl rfl rfl TT ?_;refine Vr ?_;refine Uk ?_;refine bd rfl rfl ⟨by rw[txtC_bin.2.1];rfl,?_,uC (uC O o) l⟩;rw[iM TN];exact f
  have k6:¬k=6:=by simpa using h
  clear h;refine UR ?_;apply CW.cond rfl<;>intro h
  .obtain rfl:k=10:=by simpa using h
   obtain⟨x,y,rfl⟩:=I 10 rfl rfl;have E:=C 0 TO;have H:=C 1 TO;simp only[PE,PD]at E H
   have N:∀z:World,(λz:World=>z.heap[w.heap.size]?=(drew d).heap[w.heap.size]?/\d.heap.size<=z.heap.size/\∀k,F k->z.heap[k]?=(drew d).heap[k]?) z->∀b,F b->z.heap[b]?=(drew d).heap[b]?:=λz R=>R.2.2
   refine UZ ?_;refine aG (λz:World=>z.heap[w.heap.size]?=(drew d).heap[w.heap.size]?/\d.heap.size<=z.heap.size/\∀k,F k->z.heap[k]?=(drew d).heap[k]?) [(0,true),(1,true),(2,true),(3,true),(4,true),(8,true),(9,true),(10,true),(11,true),(12,true),(5,false),(6,true),(7,true),(13,false),(14,true),(15,true),(16,true)] mixed TL v ?_;refine Vo ?_;refine cw A rfl rfl rfl rfl rfl ?_;refine cb (w:=drew d) (k:=0) N rfl rfl rfl rfl rfl rfl rfl D TO TV (λu q W=>?_);obtain⟨ao0,cap0,rfl,M⟩:=W.ltl;refine Vo ?_;refine cw A rfl rfl rfl rfl rfl ?_;refine cb (w:=drew d) (k:=1) N rfl rfl rfl rfl rfl rfl rfl D TO TV (λu q W=>?_);obtain⟨ao1,cap1,rfl,L⟩:=W.ltl;simp only[PD,PE]at M L⊢
   refine cy rfl (eK (ihk 0 TO (drew d) F bw ao0 cap0 no J g b M j V hnb P) ?_);rintro _ Q ⟨rfl,p,o⟩
   have c:=s v o;refine WL.nil (a8 c ?_);simp only[PE]at p⊢
   refine b_ (a:=[69,32,91]) rfl rfl rfl rfl rfl TS ?_;refine b_ (b:=[32,85,32]) rfl rfl rfl rfl rfl TT ?_;refine cy rfl (eK (ihk 1 TO Q F bw ao1 cap1 no J g _ (L.mono c.2.2 λ_ h=>h) (j.mono c.2.2 λ_ h=>h) (λk r=>Rv (B k r) c.2.1) hnb p) ?_);rintro _ w3 ⟨rfl,f,l⟩
   refine WL.nil (a8 (s c l) ?_);simp only[PD,PE]at f⊢
   refine b_ rfl rfl rfl rfl rfl TT ?_;refine b_ (b:=[93]) rfl rfl rfl rfl rfl TT ?_;refine Vr ?_;refine Uk ?_;refine bd rfl rfl ⟨by rw[txtC_bin.2.2.1],?_,uC (uC O o) l⟩;rw[iM TN];exact f
  have k10:¬k=10:=by simpa using h
  clear h;refine UR ?_;apply CW.cond rfl<;>intro h
  .obtain rfl:k=14:=by simpa using h
   obtain⟨x,y,rfl⟩:=I 14 rfl rfl;have E:=C 0 TO;have H:=C 1 TO;simp only[PE,PD]at E H
   have N:∀z:World,(λz:World=>z.heap[w.heap.size]?=(drew d).heap[w.heap.size]?/\d.heap.size<=z.heap.size/\∀k,F k->z.heap[k]?=(drew d).heap[k]?) z->∀b,F b->z.heap[b]?=(drew d).heap[b]?:=λz R=>R.2.2
   refine UZ ?_;refine aG (λz:World=>z.heap[w.heap.size]?=(drew d).heap[w.heap.size]?/\d.heap.size<=z.heap.size/\∀k,F k->z.heap[k]?=(drew d).heap[k]?) [(0,true),(1,true),(2,true),(3,true),(4,true),(8,true),(9,true),(10,true),(11,true),(12,true),(5,false),(6,true),(7,true),(13,false),(14,true),(15,true),(16,true)] mixed TL v ?_;refine Vo ?_;refine cw A rfl rfl rfl rfl rfl ?_;refine cb (w:=drew d) (k:=0) N rfl rfl rfl rfl rfl rfl rfl D TO TV (λu q W=>?_);obtain⟨ao0,cap0,rfl,M⟩:=W.ltl;refine Vo ?_;refine cw A rfl rfl rfl rfl rfl ?_;refine cb (w:=drew d) (k:=1) N rfl rfl rfl rfl rfl rfl rfl D TO TV (λu q W=>?_);obtain⟨ao1,cap1,rfl,L⟩:=W.ltl;simp only[PD,PE]at M L⊢
   refine cy rfl (eK (ihk 0 TO (drew d) F bw ao0 cap0 no J g b M j V hnb P) ?_);rintro _ Q ⟨rfl,p,o⟩
   have c:=s v o;refine WL.nil (a8 c ?_);simp only[PE]at p⊢
   refine b_ (a:=[65,32,91]) rfl rfl rfl rfl rfl TS ?_;refine b_ (b:=[32,85,32]) rfl rfl rfl rfl rfl TT ?_;refine cy rfl (eK (ihk 1 TO Q F bw ao1 cap1 no J g _ (L.mono c.2.2 λ_ h=>h) (j.mono c.2.2 λ_ h=>h) (λk r=>Rv (B k r) c.2.1) hnb p) ?_);rintro _ w3 ⟨rfl,f,l⟩
   refine WL.nil (a8 (s c l) ?_);simp only[PD,PE]at f⊢
   refine b_ rfl rfl rfl rfl rfl TT ?_;refine b_ (b:=[93]) rfl rfl rfl rfl rfl TT ?_;refine Vr ?_;refine Uk ?_;refine bd rfl rfl ⟨by rw[txtC_bin.2.2.2],?_,uC (uC O o) l⟩;rw[iM TN];exact f
  have k14:¬k=14:=by simpa using h
  clear h;have S:(k=4\/k=7\/k=8\/k=9\/k=11\/k=12\/k=13)/\kids.length=1:=by
   rcases Ae r with⟨_,e⟩|⟨Y,e⟩|⟨_,e⟩
   .omega
   .exact⟨e,Y⟩
   .omega
  obtain⟨S,hk1⟩:=S;obtain⟨x,rfl⟩:=P0.1 hk1;have E:=C 0 TO;simp only[PE]at E
  have hkx:=Ab (iV k ((0:Nat):Int) x.k) (LP (Cx g) x);have hsl:(IZ k).length<=3:=by unfold IZ;(repeat' split)<;>decide
  refine Uw ?_;refine aG (λz:World=>z.heap[w.heap.size]?=(drew d).heap[w.heap.size]?/\d.heap.size<=z.heap.size/\∀k,F k->z.heap[k]?=(drew d).heap[k]?) [(0,true),(1,true),(3,true),(4,true),(2,false),(5,false),(6,true),(7,true)] mixed TL v ?_;refine Vo ?_;refine cw A rfl rfl rfl rfl rfl ?_;refine Vo ?_;refine cq A rfl rfl rfl rfl rfl ?_;refine cy rfl (eK (mB (drew d) S) ?_);rintro _ Q ⟨rfl,e2⟩
  have c:=s v (e2.grw (some bw));refine WL.nil (a8 c ?_);refine cy rfl (eK (lB (t:=.mk k n [x]) (i:=0) (by simp[BX]) (ihk 0 TO) (by have:=G 0 TO;show x.nodes<=1000;simp only[PE]at this;omega) Q F bw ao cap no J g b (D.mono c.2.2 λ_ h=>h) (j.mono c.2.2 λ_ h=>h) (λk r=>Rv (B k r) c.2.1) hnb (P.ext e2)) ?_);rintro _ w3 ⟨rfl,f,l⟩
  refine WL.nil (a8 (s c l) ?_);simp only[BW,BX,PE]at f⊢
  refine b_ rfl rfl rfl rfl rfl TK ?_;refine Vr ?_;refine UQ ?_;refine bd rfl rfl ⟨by rw[LR S];rfl,?_,uC (uC O (e2.grw _)) l⟩;rw[iL k3];exact f
def mz(w0:World){ao:Option Addr}{cap:Nat}{t:Ltl}(o:Sl w0 (dk w0) ao cap t.kids)(hn:Sl w0 (dk w0) C B f):
  Rt Vy 91 [Bi t.k t.n ao t.kids.length cap,.slice C f.length B].toArray w0 λv w'=>v=.tuple ⟨[tV (Fx t f).1,Ub (Fx t f).2]⟩/\Ext w0 w':=by
 refine dS func91 ntmps91 rfl rfl ?_;unfold Fx;refine UZ ?_;refine eH λx b s=>?_
 refine UD ?_;refine eK (mD x (o.up s) T0) ?_;rintro _ n ⟨rfl,r⟩
 have b:=b.ext r;have e:=s.trans r;refine UR ?_;apply ld rfl<;>intro h
 .rw[Tn (by simpa using h)]
  refine Up ?_;exact f0 ⟨rfl,e⟩
 have p:(kp t 1 0).1=0:=by simpa using h
 rw[Tm (by simpa using h)];obtain⟨i,y⟩:=kA t 1 0 p;have z:=(kx t 1 0 p).2;refine UB ?_;refine r4 rfl rfl rfl rfl ?_;refine eH λw c q=>?_
 have b:=b.ext q;have a:=e.trans q;refine UD ?_;refine eK (mC t.nodes t T8 TK i w (dk w0) n.heap.size ao cap C B f false (o.at a) (hn.at a) (λk j=>Rv j a.size) (λj=>by have h1:n.heap.size<w0.heap.size:=j;have:=e.size;omega) c) ?_;rintro _ u ⟨rfl,m,l⟩
 have d:Ext w0 u:=a.grown l a.size (λg A=>by cases A;exact e.size);rw[NX]at m
 refine UN ?_;apply ld rfl<;>intro h
 .rw[Tn h]
  refine Up ?_;exact f0 ⟨rfl,d⟩
 .rw[Tm (by rw[h];decide)]
  refine Uw ?_;exact f0 ⟨rfl,d⟩
abbrev Ha(r:cN)(lo:Option Addr)(a:Nat)(b:Option Addr)(c:Nat):Value:=.agg [.string r.1,.int .i64 r.2.1,
 .int .i64 r.2.2.1.1,.int .i64 r.2.2.1.2.1,.int .i64 r.2.2.1.2.2.1,.int .i64 r.2.2.1.2.2.2.1,.int .i64 r.2.2.1.2.2.2.2.1,.int .i64 r.2.2.1.2.2.2.2.2.1,.int .i64 r.2.2.1.2.2.2.2.2.2,
 .int .i64 r.2.2.2.1.1,.int .i64 r.2.2.2.1.2.1,.int .i64 r.2.2.2.1.2.2.1,.int .i64 r.2.2.2.1.2.2.2,
 .int .i64 r.2.2.2.2.1.k,.int .i64 r.2.2.2.2.1.n,.slice lo r.2.2.2.2.1.kids.length a,.int .i64 r.2.2.2.2.2.k,.int .i64 r.2.2.2.2.2.n,.slice b r.2.2.2.2.2.kids.length c].toArray
def Rd.rule{r:cN}(h:Rd w F v r):∃lo a b c,v=Ha r lo a b c/\Sl w F lo a r.2.2.2.2.1.kids/\Sl w F b c r.2.2.2.2.2.kids/\r.1.size<=maxLen:=by obtain⟨c1,d1,rfl,h1,k1⟩:=h.pr;obtain⟨c2,d2,rfl,h2,k2⟩:=Gr k1;obtain⟨c3,d3,rfl,h3,k3⟩:=Gr k2;obtain⟨c4,d4,rfl,h4,k4⟩:=Gr k3;obtain⟨O,d5,rfl,t,k5⟩:=Gr k4;obtain⟨lo,a,rfl,q⟩:=RdT.sl t;obtain⟨b,c,rfl,s⟩:=RdT.sl k5;obtain⟨p1,N,rfl,p,g1⟩:=Gr h3;obtain⟨p2,M,rfl,o,g2⟩:=Gr g1;obtain⟨D,L,rfl,n,g3⟩:=Gr g2;obtain⟨C,K,rfl,m,g4⟩:=Gr g3;obtain⟨B,J,rfl,l,g5⟩:=Gr g4;obtain⟨A,I,rfl,k,u⟩:=Gr g5;obtain⟨z,H,rfl,j,f⟩:=Gr h4;obtain⟨y,G,rfl,i,e⟩:=Gr f;obtain⟨x,E,rfl,g,d⟩:=Gr e;refine⟨lo,a,b,c,?_,q,s,h1.2⟩;rw[h1.1,Gl h2,Gl p,Gl o,Gl n,Gl m,Gl l,Gl k,Gl u,Gl j,Gl i,Gl g,Gl d];rfl
instance:IsFd Vy 37 0 0:=qA TL
instance:IsFd Vy 37 1 1:=qA TL
instance:IsFd Vy 37 2 2:=qA TL
instance:IsFd Vy 37 3 9:=qA TL
instance:IsFd Vy 37 4 13:=qA TL
instance:IsFd Vy 37 5 16:=qA TL
instance:IsC Vy 37 19 true:=VA TL SE rfl
theorem G3(w0:World){no:Option Addr}{l:Nat}{a:List ByteArray}(hn:Sl w0 (dk w0) no l a)(n:Int)(s:Bool):
  Rt Vy 93 [Ub n,.slice no a.length l,.bool s].toArray w0 λv w'=>v=tV (G5 a n s)/\Ext w0 w':=by
 have t:=hn.len63;refine dT Tryz.func93 Tryz.ntmps93 rfl rfl ?_;have b:(n<0\/n>=(a.length:Int)\/n>=63)->¬(n=63/\s=true)->G5 a n s=[]:=λh q=>by
  unfold G5;rw[Tm q,Tn];rcases h with h|h|h
  .exact .inl h
  .exact .inr (.inl h)
  .exact .inr (.inr (.inl h))
 refine UR ?_
 (refine fH rfl rfl (λh=>?_) (λh=>?_))
 .have e:n=63:=by simpa using h
  cases s with
  |true=>
   refine Us ?_;exact bd rfl rfl ⟨by unfold G5;rw[Tn ⟨e,rfl⟩];rfl,Ext.refl _⟩
  |false=>
   rw[b (.inr (.inr TK)) TO];have hd:decide (n<0)=false:=Ta TK;have o:decide (n>=63)=true:=Tc TK;refine UY ?_;rw[hd];refine Vf ?_
   (refine fH rfl rfl (λh=>?_) (λh=>?_))
   .refine Us ?_
    exact be ⟨rfl,Ext.refl _⟩
   .refine U9 ?_
    rw[o];refine Us ?_;exact be ⟨rfl,Ext.refl _⟩
 have e:¬n=63:=by simpa using h
 have d:¬(n=63/\s=true):=λh=>e h.1
 refine UA ?_
 (refine fH rfl rfl (λh=>?_) (λh=>?_))
 .rw[b (.inl (by simpa using h)) d]
  refine Us ?_;exact be ⟨rfl,Ext.refl _⟩
 have p:¬n<0:=by simpa using h
 obtain⟨i,rfl⟩:=Om (show 0<=n by omega);clear h;refine Vf ?_
 (refine fH rfl rfl (λh=>?_) (λh=>?_))
 .rw[b (.inr (.inl (by simpa using h))) d]
  refine Us ?_;exact be ⟨rfl,Ext.refl _⟩
 have h1:¬(i:Int)>=(a.length:Int):=by simpa using h
 have hi:i<a.length:=by omega
 clear h;refine U9 ?_
 (refine fH rfl rfl (λh=>?_) (λh=>?_))
 .rw[b (.inr (.inr (by simpa using h))) d]
  refine Us ?_;exact be ⟨rfl,Ext.refl _⟩
 have h2:¬(i:Int)>=63:=by simpa using h
 clear h b;have g:a.getD (i:Int).toNat ⟨#[]⟩=a[i]:=by rw[Oy,tm hi]
 unfold G5;rw[Tm d,g];refine U9 ?_;refine fe hn hi TV (λj k c=>?_);obtain⟨rfl,_⟩:=c.str;skip;refine eK (df w0 a[i]) ?_;rintro _ m ⟨rfl,f⟩
 refine U9 ?_
 (refine fH rfl rfl (λh=>?_) (λh=>?_))
 .rw[Tn (.inr (.inr (.inr (.inl (by simpa using h)))))]
  refine Us ?_;exact be ⟨rfl,f⟩
 have h3:¬B8 a[i]=false:=by simpa using h
 clear h;refine U9 ?_;refine fe (hn.up f) hi TV (λj k c=>?_);obtain⟨rfl,_⟩:=c.str;skip;refine eK (yT m a[i] (hn.up f)) ?_;rintro _ r ⟨rfl,rfl⟩
 rw[yg];refine Ug ?_;apply CW.cond rfl<;>intro h
 .rw[Tn (.inr (.inr (.inr (.inr (by simpa using h)))))]
  refine Up ?_;exact be ⟨rfl,f⟩
 have h4:¬yf a a[i].data.toList≠(i:Int):=by simpa using h
 rw[Tm (by simp only[Tr];exact⟨p,h1,h2,h3,h4⟩)];refine UB ?_;refine fe (hn.up f) hi TV (λj k c=>?_);obtain⟨rfl,_⟩:=c.str;refine Uf ?_;exact bd rfl rfl ⟨by rw[tV,LM],f⟩
def gN(w0:World)(k:Int):Rt Vy 89 [Ub k].toArray w0 λv w'=>v=.bool (gM k)/\w0=w':=by refine dR func89 ntmps89 rfl rfl (Up ?_);exact be ⟨rfl,rfl⟩
theorem G8(w0:World){no:Option Addr}{b d c:Nat}{a:List ByteArray}{s:Bool}(hn:Sl w0 (dk w0) no b a)(h3:Blk w0 d 66 [.slice no a.length b])(g:Blk w0 c 4 [.bool s])(n:Int):
  Rt Vy 92 [Ub n,Uc d,Uc c].toArray w0 λv w'=>v=.bool (G5 a n s==[])/\Ext w0 w':=by
 refine dT Tryz.func92 Tryz.ntmps92 rfl rfl ?_;refine Uy ?_;refine eK (G3 w0 hn n s) ?_;rintro _ f ⟨rfl,e⟩
 refine Uf ?_;exact bd rfl rfl ⟨by rw[show(LK (G5 a n s)).data.toList=G5 a n s from LN _],e⟩
def iG(w0:World)(pt:cL):Rt Vy 87 [EE pt].toArray w0 λv w'=>(∃x u,v=.tuple ⟨[x,u]⟩/\Own w' w0.heap.size 3 dh x (Ec pt)/\Own w' w0.heap.size 3 dh u (H7 pt))/\Ext w0 w':=by
 obtain⟨k,sc,P,S,Q,R,c⟩:=pt;refine dR func87 ntmps87 rfl rfl (UZ ?_);refine eH λt y r=>?_;refine Uy ?_;refine VN (F:=dh) (ys:=[P]) rfl rfl rfl rfl rfl ⟨V0 _ _ _,trivial⟩ (by show 1*1<=16777216;decide) TY (λj ho2 l=>?_);have q:Ext t j:=(NP _ _).grown l T8 T2;have f:=y.ext q;have a:=r.trans q;have s:=r.size;generalize n:Value.slice (some ⟨t.heap.size,0,none⟩) 1 1=ov at*;refine U9 ?_;apply p0;apply bA;refine aC (S:=Value) (λv=>[(1,Uc w0.heap.size),(2,v),(3,.slice none 0 0)])
  (λv w=>Own w w0.heap.size 3 dh v (Ec (k,sc,P,S,Q,R,c))/\Blk w w0.heap.size 27 [Ub k,Ub sc,Ub P,Ub S,Ub Q,Ub R,Ub c]/\Ext w0 w) ?_ ?_
 .refine UV ?_;have i:(k=5\/k=6)->Ec (k,sc,P,S,Q,R,c)=[S,P]:=λh=>by unfold Ec;rw[Tn h]
  have o:¬(k=5\/k=6)->Ec (k,sc,P,S,Q,R,c)=[P]:=λh=>by unfold Ec;rw[Tm h]
  (refine a6 (λh=>?_) (λh=>?_))
  .refine UI ?_;refine VN (F:=dh) (ys:=[S,P]) rfl rfl rfl rfl rfl ⟨V0 _ _ _,V0 _ _ _,trivial⟩ (by show 2*1<=16777216;decide) TY (λg ho3 d=>?_);have e:Ext j g:=(NP _ _).grown d T8 T2;refine Ur ?_;exact aV _ TJ ⟨by rw[i (.inl (by simpa using h))];exact ho3.low a.size,f.ext e,a.trans e⟩
  .have A:¬k=5:=by simpa using h
   refine Uu ?_;apply ld rfl<;>intro h
   .have z:k=6:=by simpa using h
    refine UV ?_;refine VN (F:=dh) (ys:=[S,P]) rfl rfl rfl rfl rfl ⟨V0 _ _ _,V0 _ _ _,trivial⟩ (by show 2*1<=16777216;decide) TY (λg ho3 d=>?_);have e:Ext j g:=(NP _ _).grown d T8 T2;refine Ur ?_;exact aV _ TJ ⟨by rw[i (.inr z)];exact ho3.low a.size,f.ext e,a.trans e⟩
   .have z:¬k=6:=by simpa using h
    refine UH ?_;exact aV ov TJ ⟨by rw[o TK];exact ho2.low s,f,a⟩
 clear ho2 l f a q n ov y r s;rintro ov j ⟨ho2,f,a⟩;refine aC (S:=Value) (λv=>[(2,ov),(3,v)]) (λv w=>Own w w0.heap.size 3 dh ov (Ec (k,sc,P,S,Q,R,c))/\Own w w0.heap.size 3 dh v (H7 (k,sc,P,S,Q,R,c))/\Ext w0 w) ?_ ?_
 .refine UE ?_;apply ld rfl<;>intro h
  .have h2:sc=2:=by simpa using h
   refine UV ?_;refine VN (F:=dh) (ys:=[R]) rfl rfl rfl rfl rfl ⟨V0 _ _ _,trivial⟩ (by show 1*1<=16777216;decide) TY (λg ho3 d=>?_);have e:Ext j g:=(NP _ _).grown d T8 T2;refine Ur ?_;exact aV _ TJ ⟨ho2.extN e,by unfold H7;rw[Tn h2];exact ho3.low a.size,a.trans e⟩
  have h2:¬sc=2:=by simpa using h
  clear h;refine UR ?_;apply ld rfl<;>intro h
  .have h3:sc=3:=by simpa using h
   refine UV ?_;refine VN (F:=dh) (ys:=[Q]) rfl rfl rfl rfl rfl ⟨V0 _ _ _,trivial⟩ (by show 1*1<=16777216;decide) TY (λg ho3 d=>?_);have e:Ext j g:=(NP _ _).grown d T8 T2;refine Ur ?_;exact aV _ TJ ⟨ho2.extN e,by unfold H7;rw[Tm h2,Tn h3];exact ho3.low a.size,a.trans e⟩
  have h3:¬sc=3:=by simpa using h
  clear h;refine aA [(1,Uc w0.heap.size),(2,ov),(3,.slice none 0 0),(32,.bool (decide (sc=4\/sc=5)))] ?_ ?_
  .refine UR ?_;apply ld rfl<;>intro h
   .refine UH ?_;refine aT ⟨rfl,rfl,rfl,(S9 (λb=>some (Value.bool b)) ?_),trivial⟩;have:sc=4:=by simpa using h
    simp[this]
   .refine UR ?_;refine aT ⟨rfl,rfl,rfl,(S9 (λb=>some (Value.bool b)) ?_),trivial⟩;have:¬sc=4:=by simpa using h
    rw[NU];simp[this]
  apply ld rfl<;>intro h
  .have h4:sc=4\/sc=5:=by simpa using h
   refine UV ?_;refine VN (F:=dh) (ys:=[Q,R]) rfl rfl rfl rfl rfl ⟨V0 _ _ _,V0 _ _ _,trivial⟩ (by show 2*1<=16777216;decide) TY (λg ho3 d=>?_);have e:Ext j g:=(NP _ _).grown d T8 T2;refine Ur ?_;exact aV _ TJ ⟨ho2.extN e,by unfold H7;rw[Tm h2,Tm h3,Tn h4];exact ho3.low a.size,a.trans e⟩
  .have h4:¬(sc=4\/sc=5):=by simpa using h
   refine Uq ?_;exact aV _ TJ ⟨ho2,by unfold H7;rw[Tm h2,Tm h3,Tm h4];exact r3,a⟩
 rintro v g ⟨ho3,m,p⟩;refine Up ?_;exact f0 ⟨⟨_,_,rfl,ho3,m⟩,p⟩
def pz(x:cL)(w:World):(Op.equalIn 10000 27 (EE x) (EE EF)).run Vy w=.ok (x==EF) w:=by
 have m:=Sz;have a3:=Sf;have l:=Sk;have hS:Tryz.prog.underlying 27=some (.struct (Tryz.prog.fieldsOf 27)):=by kernel_rfl
 have j:Tryz.prog.stoodInHeld 27=false:=by kernel_rfl
 obtain⟨a,b,c,d,e,f,g⟩:=x;simp only[EE,EF];rw[show(10000:Nat)=9999+1 from rfl,run_equalIn_agg w 9999 27 _ _ hS j];simp only[Program.fieldsOf,Sv]
 go_simp
 by_cases h1:a=0
 .by_cases h2:b=0
  .by_cases h3:c=0
   .by_cases h4:d=0
    .by_cases h:e=0
     .by_cases i:f=0
      .by_cases k:g=0<;>simp[h1,h2,h3,h4,h,i,k]
      .simp[h1,h2,h3,h4,h,i]
     .simp[h1,h2,h3,h4,h]
    .simp[h1,h2,h3,h4]
   .simp[h1,h2,h3]
  .simp[h1,h2]
 .simp[h1]
def HF(x:cL)(p q:Operand)(w:World):((do eqGuard .neq 27 p q (EE x) (EE EF);binOp .neq 27 (EE x) (EE EF):Sem Value)).run Vy w=.ok (.bool (x != EF)) w:=by
 have a:Tryz.prog.eqGuardType Tryz.prog.depth 27=false:=by kernel_rfl
 rw[Sb];have b:(eqGuard .neq 27 p q (EE x) (EE EF)).run Vy w=.ok () w:=run_eqGuard_agg w .neq 27 p q _ _ a;have h:=pz x w;rw[b,Sa];unfold EE at h⊢;rw[run_neq_struct,h];rfl
def pA(x:cQ)(w:World):(Op.equalIn 10000 29 (K1 x) (K1 K2)).run Vy w=.ok (x==K2) w:=by
 have h:=Sz;have a3:=Sf;have f:=Sk;have hS:Tryz.prog.underlying 29=some (.struct (Tryz.prog.fieldsOf 29)):=by kernel_rfl
 have e:Tryz.prog.stoodInHeld 29=false:=by kernel_rfl
 obtain⟨a,b,c,d⟩:=x;simp only[K1,K2];rw[show(10000:Nat)=9999+1 from rfl,run_equalIn_agg w 9999 29 _ _ hS e];simp only[Program.fieldsOf,Sy]
 go_simp
 by_cases h1:a=0
 .by_cases h2:b=0
  .by_cases h3:c=0
   .by_cases h4:d=0<;>simp[h1,h2,h3,h4]
   .simp[h1,h2,h3]
  .simp[h1,h2]
 .simp[h1]
def HG(x:cQ)(p q:Operand)(w:World):((do eqGuard .neq 29 p q (K1 x) (K1 K2);binOp .neq 29 (K1 x) (K1 K2):Sem Value)).run Vy w=.ok (.bool (x != K2)) w:=by
 have a:Tryz.prog.eqGuardType Tryz.prog.depth 29=false:=by kernel_rfl
 rw[Sb];have b:(eqGuard .neq 29 p q (K1 x) (K1 K2)).run Vy w=.ok () w:=run_eqGuard_agg w .neq 29 p q _ _ a;have h:=pA x w;rw[b,Sa];unfold K1 at h⊢;rw[run_neq_struct,h];rfl
section
variable {Q:Exit->Act->World->Prop}{n:Nat}{σ:Sg}{w:World}{L rest:List Oper}{d:Nat}{ty:TypeId}{pos:String}{af:Array Edge}{g:Option (Nat×Bool)}{yt:TypeId}{x y:Operand}
theorem fR{a:cL}(i:gd L σ ⟨some d,.binOp .neq 27 x y yt,ty,pos,af,g⟩=some true)(hd:ble (d+1) n=true)(f:ev σ x=some (EE a))(e:ev σ y=some (EE EF))
  (h:WL Vy L Q rest n ((d,.bool (a != EF))::σ) w):WL Vy L Q (⟨some d,.binOp .neq 27 x y yt,ty,pos,af,g⟩::rest) n σ w:=by
 refine VG i hd (λc b=>?_) h;have:=HF a x y w;simp only[execOp,b.ev f,b.ev e];rw[Sb,this];rfl
theorem fS{a:cQ}(i:gd L σ ⟨some d,.binOp .neq 29 x y yt,ty,pos,af,g⟩=some true)(hd:ble (d+1) n=true)(f:ev σ x=some (K1 a))(e:ev σ y=some (K1 K2))
  (h:WL Vy L Q rest n ((d,.bool (a != K2))::σ) w):WL Vy L Q (⟨some d,.binOp .neq 29 x y yt,ty,pos,af,g⟩::rest) n σ w:=by
 refine VG i hd (λc b=>?_) h;have:=HG a x y w;simp only[execOp,b.ev f,b.ev e];rw[Sb,this];rfl
end
def G9(w0:World){r:cN}{lo:Option Addr}(hl:Sl w0 (dk w0) lo B r.2.2.2.2.1.kids)(hc:Sl w0 (dk w0) C a r.2.2.2.2.2.kids)(hn:Sl w0 (dk w0) D K f):
  Rt Vy 52 [Ha r lo B C a,.slice D f.length K].toArray w0 λv w'=>v=Ub (Eu r f)/\Ext w0 w':=by
 obtain⟨nm,so,pt,tp,lt,ct⟩:=r;dsimp only at hl hc⊢
 refine dS func52 ntmps52 rfl rfl ?_;refine UZ ?_;refine eH λw1 j e1=>?_
 skip;refine eH λP b e2=>?_
 have j:=j.ext e2;have Y:=e1.trans e2;have l3:=b.lt;refine UR ?_;refine eC (λw3 l e3=>?_);refine f7 l (λO l R=>?_);have e4:Ext P O:=e3.grown R e3.size TX;have j:=j.ext e4;have b:=b.ext e4;have J:=Y.trans e4;have z1:=e1.size;have z2:=e2.size;have l7:=l.lt;clear R e3;apply p0;apply bA;have X:so=1->iF (nm,so,pt,tp,lt,ct)=Ec pt++H7 pt:=λh=>by unfold iF;rw[Tn h]
 have M:so=2->iF (nm,so,pt,tp,lt,ct)=(if gM tp.1=true then [tp.2.1]else [tp.2.1,tp.2.2.1]):=λh=>by unfold iF;rw[Tm (by show¬so=1;omega),Tn h]
 have A:so≠1->so≠2->iF (nm,so,pt,tp,lt,ct)=[]:=λh h'=>by unfold iF;rw[Tm h,Tm h']
 refine aC (S:=Value) (λv=>[(2,Uc w0.heap.size),(3,Uc w1.heap.size),(5,Ub (Ev (nm,so,pt,tp,lt,ct) f)),(6,v),(7,Uc P.heap.size)])
  (λv w=>Rd w (dk w) v (iF (nm,so,pt,tp,lt,ct))/\Blk w w1.heap.size 66 [.slice D f.length K]/\Blk w P.heap.size 4 [.bool (decide (so=1))]/\Ext w0 w) ?_ ?_
 .have t:∀w:World,Rd w (dk w) (Value.slice none 0 0) ([]:List Int):=λw=>(v1 (α:=Int) w (dk w)).rd
  refine UE ?_;apply ld rfl<;>intro h
  .have h1:so=1:=by simpa using h
   clear h;refine UV ?_;refine eK (oq O pt) ?_;rintro _ G ⟨rfl,k⟩
   have j:=j.ext k;have b:=b.ext k;have l:=l.ext k;have m:=J.trans k;refine UI ?_;refine eK (iG G pt) ?_;rintro _ Z ⟨⟨u1,u2,rfl,ho1,ho2⟩,p⟩
   have j:=j.ext p;have b:=b.ext p;have l:=l.ext p;have s:=m.trans p;have hl1:(Ec pt).length<=2:=by unfold Ec;split<;>simp
   have hl2:(H7 pt).length<=2:=by unfold H7;(repeat' split)<;>simp
   obtain⟨so2,sc2,rfl,hs2⟩:=ho2.oldN.sl;have z5:=k.size;have z4:=e4.size;refine UR ?_;refine V7 (F:=dh) rfl rfl rfl rfl ho1 hs2.srcN p.size TY TQ TK (λv' w7 ho7 o _=>?_);have hnb:∀g,u1.ownBlock=some g->G.heap.size<=g:=λg H=>(ho1.lt g H).1
   have z:=b.kept o (λe=>by have:=hnb _ e.symm;omega);have u:=l.kept o (λe=>by have:=hnb _ e.symm;omega);have I:Ext w0 w7:=s.grown o s.size (λg H=>by have:=hnb g H;omega);refine U9 ?_;refine f7 u (λw8 T N=>?_);have V:=z.kept N T3;have hE8:Ext w0 w8:=I.grown N I.size (λg H=>by cases H;have:=Y.size;omega);have ho8:=ho7.keptN N (λg H e=>by have:=(ho7.lt g H).1;have:=R4 e;omega);refine Ur ?_;refine aV v' ⟨rfl,rfl,?_,rfl,rfl,trivial⟩ ⟨by rw[X h1];exact ho8.oldN,V,by rw[Tc h1];exact T,hE8⟩;unfold Ev;rw[Tn h1];rfl
  have h1:¬so=1:=by simpa using h
  clear h;have c:Blk O P.heap.size 4 [.bool (decide (so=1))]:=by rw[Ta h1];exact l
  refine UR ?_;apply ld rfl<;>intro h
  .have h2:so=2:=by simpa using h
   clear h;refine UV ?_;refine eK (nE O tp) ?_;rintro _ G ⟨rfl,k⟩
   have j:=j.ext k;have b:=b.ext k;have c:=c.ext k;have m:=J.trans k;refine Uy ?_;refine VN (F:=dh) (ys:=[tp.2.1]) rfl rfl rfl rfl rfl ⟨V0 _ _ _,trivial⟩ (by show 1*1<=16777216;decide) TY (λZ ho6 hg6=>?_);have p:Ext G Z:=(NP _ _).grown hg6 T8 T2;have j:=j.ext p;have b:=b.ext p;have c:=c.ext p;have s:=m.trans p;refine Uy ?_;refine eK (gN Z tp.1) ?_;rintro _ _ ⟨rfl,rfl⟩
   refine Ug ?_;apply ld rfl<;>intro h
   .have ha:¬gM tp.1=true:=by simpa using h
    refine UV ?_;refine eF (F:=dh) (yv:=tp.2.2.1) rfl rfl TV rfl rfl TV ho6 T7 p.size TY TN (by unfold maxLen;simp) TO (λv' w7 q ho7 o hnb=>?_);have z:=b.kept o (λe=>by have:=R4 e;have:w1.heap.size=G.heap.size:=this;have:=k.size;omega);have u:=c.kept o (λe=>by have:=R4 e;have:P.heap.size=G.heap.size:=this;have:=k.size;omega);have I:Ext w0 w7:=s.grown o s.size (λg H=>by cases H;exact m.size);refine Ur ?_;refine aV v' ⟨rfl,rfl,?_,rfl,rfl,trivial⟩ ⟨by rw[M h2,Tm ha];exact ho7.oldN,z,u,I⟩;unfold Ev;rw[Tm h1,Tn h2];rfl
   .have ha:gM tp.1=true:=by simpa using h
    refine Uq ?_;refine aV _ ⟨rfl,rfl,?_,rfl,rfl,trivial⟩ ⟨by rw[M h2,Tn ha];exact ho6.oldN,b,c,s⟩;unfold Ev;rw[Tm h1,Tn h2];rfl
  have h2:¬so=2:=by simpa using h
  clear h;refine UR ?_;apply ld rfl<;>intro h
  .have h3:so=3:=by simpa using h
   clear h;refine UV ?_;refine eK (Be O (hl.up J) (hn.up J)) ?_;rintro _ G ⟨rfl,k⟩
   refine Ur ?_;refine aV (.slice none 0 0) ⟨rfl,rfl,?_,rfl,rfl,trivial⟩ ⟨by rw[A h1 h2];exact t _,b.ext k,c.ext k,J.trans k⟩;unfold Ev;rw[Tm h1,Tm h2,Tn h3];rfl
  have h3:¬so=3:=by simpa using h
  clear h;refine UR ?_;apply ld rfl<;>intro h
  .have h4:so=4:=by simpa using h
   clear h;refine UV ?_;refine eK (mz O (hc.up J) (hn.up J)) ?_;rintro _ G ⟨rfl,k⟩
   refine Ur ?_;refine aV (.slice none 0 0) ⟨rfl,rfl,?_,rfl,rfl,trivial⟩ ⟨by rw[A h1 h2];exact t _,b.ext k,c.ext k,J.trans k⟩;unfold Ev;rw[Tm h1,Tm h2,Tm h3,Tn h4];rfl
  .have h4:¬so=4:=by simpa using h
   refine Uq ?_;refine aV (.slice none 0 0) ⟨rfl,rfl,?_,rfl,rfl,trivial⟩ ⟨by rw[A h1 h2];exact t _,b,c,J⟩;unfold Ev;rw[Tm h1,Tm h2,Tm h3,Tm h4];rfl
 rintro lv G ⟨hlv,W,U,m⟩
 obtain⟨ao,cap,rfl,hsl⟩:=hlv.sl;unfold Eu;generalize Ev (nm,so,pt,tp,lt,ct) f=E at*
 generalize iF (nm,so,pt,tp,lt,ct)=at' at*
 dsimp only;refine U4 ?_
 (refine a6 (λh=>?_) (λh=>?_))
 .have h0:E=0:=by simpa using h
  clear h;refine Vf ?_;refine eK (l_ G (λn=>G5 f n (decide (so=1))==[]) hsl (λw hw i hi=>VE (cs:=[_,_]) (G8 w (hn.up (m.trans hw)) (W.ext hw) (U.ext hw) at'[i]))) ?_;rintro _ Z ⟨rfl,p⟩
  refine Ug ?_;apply ld rfl<;>intro h
  .rw[Tn ⟨h0,h⟩]
   refine Up ?_;exact be ⟨rfl,m.trans p⟩
  .rw[Tm (by rw[h];simp)]
   refine Uw ?_;exact be ⟨rfl,m.trans p⟩
 .have h0:¬E=0:=by simpa using h
  rw[Tm (λh=>h0 h.1)];refine UA ?_;exact be ⟨rfl,m⟩
def DY(r:cN):Bool:=(r.2.1 != 1&&r.2.2.1 != EF)||(r.2.1 != 2&&r.2.2.2.1 != K2)
def DZ(r:cN):Bool:=DY r||(r.2.1 != 3&&qQ r.2.2.2.2.1)
def D1(r:cN):D0 r=(DZ r||(r.2.1 != 4&&qQ r.2.2.2.2.2)):=rfl
def Gf(w0:World){r:cN}{lo:Option Addr}{k:Nat}(l:Sl w0 (dk w0) lo B r.2.2.2.2.1.kids)(m:Sl w0 (dk w0) C K r.2.2.2.2.2.kids)(hn:Sl w0 (dk w0) D k f):
  Rt Vy 22 [Ha r lo B C K,.slice D f.length k].toArray w0 λv w'=>v=Ub (kZ r f)/\Ext w0 w':=by
 refine dS func22 ntmps22 rfl rfl ?_;have q:=l.len63;have s:=m.len63;refine UZ ?_;refine eH λp e n=>?_;refine Uy ?_;refine eK (df p r.1) ?_;rintro _ o ⟨rfl,j⟩;have e:=e.ext j;have c:=n.trans j;unfold kZ;have d:(B8 r.1=false\/r.2.1<1\/r.2.1>4)->(if B8 r.1=false\/r.2.1<1\/r.2.1>4 then 1 else if Eu r f≠0 then Eu r f else if D0 r=true then 1 else 0)=(1:Int):=λh=>Tn h;refine U9 ?_;(refine a6 (λh=>?_) (λh=>?_))
 .rw[d (.inl (by simpa using h))];refine Us ?_;exact be ⟨rfl,c⟩
 have h1:¬B8 r.1=false:=by simpa using h
 clear h;refine Vc ?_;(refine a6 (λh=>?_) (λh=>?_))
 .rw[d (.inr (.inl (by simpa using h)))];refine Us ?_;exact be ⟨rfl,c⟩
 have h2:¬r.2.1<1:=by simpa using h
 clear h;refine Uu ?_;apply ld rfl<;>intro h
 .rw[d (.inr (.inr (by simpa using h)))];refine Up ?_;exact be ⟨rfl,c⟩
 have h3:¬r.2.1>4:=by simpa using h
 clear h d;rw[Tm (by simp only[Tr];exact⟨h1,h2,h3⟩)];refine Uv ?_;refine eK (G9 o (r:=r) (l.up c) (m.up c) (hn.up c)) ?_;rintro _ u ⟨rfl,i⟩;have t:=e.ext i;have g:=c.trans i;generalize Eu r f=E at*;refine UR ?_;apply ld rfl<;>intro h
 .rw[Tn (by simpa using h)];refine Up ?_;exact be ⟨rfl,g⟩
 rw[Tm (by simpa using h)];clear h e i j n c;apply CW.skip;apply bA;refine aA [(2,Uc w0.heap.size),(6,.bool (DY r))] ?_ ?_
 .unfold DY;refine UV ?_;(refine a6 (λh=>?_) (λh=>?_))
  .rw[h];refine Vh ?_;refine r4 (parts:=[]) rfl rfl rfl rfl (fR (a:=r.2.2.1) rfl rfl rfl rfl (U9 ?_));(refine a6 (λh=>?_) (λh=>?_))
   .rw[h];refine Ue ?_;exact aT TJ
   .rw[h];refine Vc ?_;(refine a6 (λh=>?_) (λh=>?_))
    .rw[h];refine Vh ?_;refine r4 (parts:=[]) rfl rfl rfl rfl (fS (a:=r.2.2.2.1) rfl rfl rfl rfl (Ur ?_));exact aT TJ
    .rw[h];refine Ue ?_;exact aT TJ
  .rw[h];refine Vh ?_;(refine a6 (λh=>?_) (λh=>?_))
   .rw[h];refine Vh ?_;refine r4 (parts:=[]) rfl rfl rfl rfl (fS (a:=r.2.2.2.1) rfl rfl rfl rfl (Ur ?_));exact aT TJ
   .rw[h];refine Ue ?_;exact aT TJ
 refine aA [(2,Uc w0.heap.size),(6,.bool (DZ r))] ?_ ?_
 .unfold DZ qQ;refine U4 ?_;(refine a6 (λh=>?_) (λh=>?_))
  .rw[h];refine Ue ?_;exact aT TJ
  rw[h];refine Vc ?_;(refine a6 (λh=>?_) (λh=>?_))
  .rw[h];refine Vc ?_;(refine a6 (λh=>?_) (λh=>?_))
   .rw[h];refine Ue ?_;exact aT TJ
   rw[h];refine Vc ?_;(refine a6 (λh=>?_) (λh=>?_))
   .rw[h];refine Ue ?_;exact aT TJ
   rw[h];refine Uu ?_;refine aT ⟨rfl,(S9 (λb=>some (Value.bool b)) ?_),trivial⟩;rw[NU];simp
  .rw[h];refine Ue ?_;exact aT TJ
 rw[D1];unfold qQ;refine U4 ?_;(refine a6 (λh=>?_) (λh=>?_))
 .rw[h];refine Us ?_;exact be ⟨rfl,g⟩
 rw[h];clear h;refine Vc ?_;(refine a6 (λh=>?_) (λh=>?_))
 .rw[h];refine Vc ?_;(refine a6 (λh=>?_) (λh=>?_))
  .rw[h];refine Us ?_;exact be ⟨rfl,g⟩
  rw[h];refine Vc ?_;(refine a6 (λh=>?_) (λh=>?_))
  .rw[h];refine Us ?_;exact be ⟨rfl,g⟩
  rw[h];refine Uu ?_;apply ld rfl<;>intro h
  .rw[Tn (by simpa using h)];refine Up ?_;exact be ⟨rfl,g⟩
  .rw[Tm (by simpa using h)];refine Uw ?_;exact be ⟨rfl,g⟩
 .rw[h];refine UA ?_;exact be ⟨rfl,g⟩
def Grow.low[Rep α]{B':Nat}{e:TypeId}{xs:List α}(h:Grow B e w v xs)(c:B'<=B):Grow B' e w v xs:=by obtain⟨F,h1,h2⟩:=h;exact⟨F,λb a=>⟨Rr c (h1 b a).1,(h1 b a).2⟩,h2.low c⟩
instance:IsC Vy 37 19 true:=VA TL SE rfl
instance:IsFd Vy 37 1 1:=qA TL
instance:IsFd Vy 37 4 13:=qA TL
def mg:∀(m:Nat) (t:Ltl),t.nodes<=m->MK t->∀(w:World) (F:Nat->Prop) (ao:Option Addr) (cap:Nat),Sl w F ao cap t.kids->(∀b,F b->b<w.heap.size)->
  Rt Vy 59 [Bi t.k t.n ao t.kids.length cap].toArray w λv w'=>(∃kv,v=.agg [Ub t.k,Ub t.n,kv].toArray/\Grow w.heap.size 32 w' kv t.kids)/\Ext w w':=by
 intro m;induction m with
 |zero=>intro t h;have:=t.nodes_pos;omega
 |succ m ih=>
  rintro⟨k,n,kids⟩ hm K w F ao cap hs hF;simp only[Ltl.k,Ltl.n,Ltl.kids]at hs⊢;have hkl:=Ah K;refine dR func59 ntmps59 rfl rfl (UZ ?_);refine eH λw1 hf hE1=>?_;refine eC (λp hr hE2=>?_);have hf:=hf.ext hE2;have s:=hE1.trans hE2;have hz1:w.heap.size<=w1.heap.size:=hE1.size;have hlf:=hf.lt;have hlr:=hr.lt;refine Uy ?_;refine r4 rfl rfl rfl rfl (eC (λw3 ho G=>?_));refine f7 ho (λI ho4 T=>?_);have e4:Ext p I:=G.grown T G.size TX;have W:=hf.ext e4;have M:=hr.ext e4;have hE4:=s.trans e4;have hlo:=ho4.lt;have hsz:=s.size;clear hf hr ho T G e4 s;refine UE ?_;refine p8 (S:=Nat×Value) (λx=>[(1,Uc w.heap.size),(2,Uc w1.heap.size),(3,Uc p.heap.size),(12,.slice ao kids.length cap),(13,Ub kids.length),(14,Ub x.1)])
   (λx w'=>x.1<=kids.length/\Ext w w'/\I.heap.size<=w'.heap.size/\Blk w' w.heap.size 32 [Ub k,Ub n,.slice ao kids.length cap]/\Blk w' w1.heap.size 32 [Ub 0,Ub 0,.slice none 0 0]/\
    Blk w' p.heap.size 32 [Ub k,Ub n,x.2]/\Grow I.heap.size 32 w' x.2 (kids.take x.1)) (λx=>kids.length -x.1) (0,.slice none 0 0) TJ ⟨by simp,hE4,Rq _,W,M,ho4,by simpa using Grow.nil⟩ ?_
  rintro⟨i,kv⟩ z ⟨hi,o,A,V,B,ho5,l⟩;dsimp only at hi o A V B ho5 l⊢;clear W M ho4;refine UR ?_;apply ld rfl<;>intro h
  .have h:i<kids.length:=by simpa using h
   refine UC ?_;refine fe (hs.up0 o hF) h TV (λu q hu=>?_);obtain⟨uo,uc,rfl,hku⟩:=r0 hu;refine eC (λw6 hx hE6=>?_);refine f7 hx (λc J hg7=>?_);have H:Ext z c:=hE6.grown hg7 hE6.size TX;have hE7:=o.trans H;have ed:=mm c;have hd:=hE7.trans ed;have ho7:=(ho5.ext H).ext ed;have hxd:=J.ext ed;have X:=(l.ext H).ext ed;have P:=J.lt;have hz7:=H.size;have hKo:∀x,(λx:World=>x.heap[p.heap.size]?=(drew c).heap[p.heap.size]?/\x.heap[z.heap.size]?=(drew c).heap[z.heap.size]?) x->x.heap[p.heap.size]?=(drew c).heap[p.heap.size]?:=λ_ h=>h.1;have hKx:∀x,(λx:World=>x.heap[p.heap.size]?=(drew c).heap[p.heap.size]?/\x.heap[z.heap.size]?=(drew c).heap[z.heap.size]?) x->x.heap[z.heap.size]?=(drew c).heap[z.heap.size]?:=λ_ h=>h.2;refine UG ?_;refine aF (λx:World=>x.heap[p.heap.size]?=(drew c).heap[p.heap.size]?/\x.heap[z.heap.size]?=(drew c).heap[z.heap.size]?) [Wr 0,Wr 1,Wr 2,Ws 3,Ws 4,Ws 5,Wr 6] 7 mixed TL ⟨rfl,rfl⟩ (Vn ?_);refine ck hKx rfl rfl rfl rfl hxd rfl ?_;have hFd:∀b,F b->b<(drew c).heap.size:=λb j=>Rv (hF b j) hd.size;have Q:Sl (drew c) F uo uc (kids[i]).kids:=hku.up0 (H.trans ed) (λb j=>Rv (hF b j) o.size);refine cy rfl (eK (ih kids[i] (CT hm h) (MQ K h) (drew c) F uo uc Q hFd) ?_);rintro v w8 ⟨⟨kv8,rfl,hK8⟩,y⟩;obtain⟨ko,kc,rfl,hks⟩:=hK8.sl;have hv:Rd w8 (Nw (drew c) w8) (Bi (kids[i]).k (kids[i]).n ko (kids[i]).kids.length kc) kids[i]:=by have:=VJ (k:=(kids[i]).k) (n:=(kids[i]).n) hks;rwa[show Ltl.mk (kids[i]).k (kids[i]).n (kids[i]).kids=kids[i] by cases kids[i];rfl]at this
   have ho8:=ho7.ext y;have hG8:=X.ext y;have hsz8:c.heap.size<=w8.heap.size:=y.size;refine p0 (a8 ⟨y.block _ ho7.lt,y.block _ P⟩ ?_);have hgl:=X.lt;obtain⟨F',E,hO,L⟩:=hG8.open (Fu:=Nw (drew c) w8) (λb j=>⟨Rr A (Rr hz7 j.1),j.2⟩) (λg hg j=>by have:=(hgl g hg).2;have:=j.1;omega);have O:(kids.take i).length=i:=by rw[Qb];omega
   have d:=l.lt;refine bW (bytes:=40) (F:=F') rfl rfl rfl rfl TV rfl rfl TV hO (hv.wk L) TK (λb j=>(E b j).2) TN (by rw[O];unfold maxLen;omega) (by rw[O];omega)
    (λw' U=>⟨(U.block _ ho8.lt (λe=>?_)).trans (y.block _ ho7.lt),(U.block _ TK (λe=>?_)).trans (y.block _ P)⟩) (λcV w9 q2 hO9 f hnb=>?_)
   .have:=(d _ e.symm).1;omega
   .have:=(d _ e.symm).2;omega
   have D:Grow I.heap.size 32 w9 cV (kids.take i++[kids[i]]):=⟨F',λb j=>⟨(E b j).1,Rv (E b j).2 f.size⟩,hO9⟩;rw[show kids.take i++[kids[i]]=kids.take (i+1) by rw[Q4 h]]at D;obtain⟨co,cc,rfl,_⟩:=D.sl;have C:∀r,r<I.heap.size->some r≠kv.ownBlock:=λr hr e=>by have:=(d _ e.symm).1;omega
   have ho9:=ho8.kept f (C _ TK);have hf9:=((((V.ext H).ext ed).ext y)).kept f (C _ TK);have hr9:=((((B.ext H).ext ed).ext y)).kept f (C _ TK);have Z:=hd.trans y;have Y:Ext w w9:=Z.grown f Z.size (λg hg=>by have:=(d g hg).1;omega);refine Vs ?_;refine bu rfl (f7 ho9 (λw10 N a=>p0 (bx ?_)));have hE10:Ext w w10:=Y.grown a Y.size TZ;have hsz9:=f.size;have hsz10:=a.size;refine Ui ?_;exact m5 (i+1,.slice co (kids.take (i+1)).length cc) TJ ⟨h,hE10,by omega,hf9.kept a T3,hr9.kept a T3,N,D.kept a TK⟩ TP
  .have h:¬i<kids.length:=by simpa using h
   have hik:i=kids.length:=by omega
   subst hik;rw[Q0]at l;obtain⟨co,cc,rfl,hsl⟩:=l.sl;refine U1 ?_;refine f7 B (λw6 hr6 R=>?_);have hG6:=l.kept R TK;refine Uh ?_;exact e0 hr6 ⟨⟨_,rfl,hG6.low TK⟩,o.grown R o.size TZ⟩
def GX(w:World){r:cN}{lo:Option Addr}(A:Sl w (dk w) lo B r.2.2.2.2.1.kids):
  Rt Vy 25 [Ha r lo B C a].toArray w λu w'=>∃x,u=.tuple ⟨[x,Ub (sh r).2]⟩/\GL w.heap.size w' x (sh r).1/\Ext w w':=by
 refine dR func25 ntmps25 rfl rfl ?_;have H:=A.len63;refine UZ ?_;refine eH λL hf v=>?_;refine eC (λy o t=>?_);have hf:=hf.ext t;have i:=v.trans t;have G:=v.size;have p:=o.lt;unfold sh;refine UE ?_;apply ld rfl<;>intro h
 .rw[Tn (by simpa using h)];refine UV ?_;refine eK (nP y r.2.2.1) ?_;rintro _ l ⟨x,rfl,f,e⟩;obtain⟨uo,uc,rfl,_⟩:=r0 f;have b:=i.trans e;refine U9 ?_;refine f7 (o.ext e) (λj d c=>?_);refine UX ?_;exact fG d ⟨_,rfl,(f.st c p).low TK,b.grown c b.size TZ⟩
 have h1:¬r.2.1=1:=by simpa using h
 rw[Tm h1];clear h;refine UR ?_;apply ld rfl<;>intro h
 .rw[Tn (by simpa using h)];refine UV ?_;refine eK (mX y r.2.2.2.1) ?_;rintro _ l ⟨x,rfl,f,e⟩;obtain⟨uo,uc,rfl,_⟩:=r0 f;have b:=i.trans e;refine U9 ?_;refine f7 (o.ext e) (λj d c=>?_);refine UX ?_;exact fG d ⟨_,rfl,(f.st c p).low TK,b.grown c b.size TZ⟩
 have h2:¬r.2.1=2:=by simpa using h
 rw[Tm h2];clear h;refine UR ?_;apply ld rfl<;>intro h
 .rw[Tn (by simpa using h)];clear h;refine UV ?_;refine eK (Bg y (A.up i) T0) ?_;rintro _ l ⟨rfl,e⟩;have I:=hf.ext e;have m:=o.ext e;have b:=i.trans e;have F:=e.size;refine UR ?_;apply ld rfl<;>intro g
  .have g:(kD r.2.2.2.2.1 1 0).1≠0:=by simpa using g
   rw[Tn g];refine UZ ?_;refine r4 (parts:=[]) rfl rfl rfl rfl (U9 ?_);refine f7 m (λj d c=>?_);refine UX ?_;exact fG d ⟨_,rfl,VJ (kids:=[]) (v1 _ _),b.grown c b.size TZ⟩
  .have g:(kD r.2.2.2.2.1 1 0).1=0:=by simpa using g
   rw[Tm (by simp[g])];refine U3 ?_;refine eK (mg r.2.2.2.2.1.nodes r.2.2.2.2.1 T8 (kK r.2.2.2.2.1 1 0 g) l (dk l) lo B (A.up b) T0) ?_;rintro _ j ⟨⟨kv,rfl,J⟩,E⟩;obtain⟨ko,kc,rfl,D⟩:=J.sl;have s:=b.trans E;have f:GL l.heap.size j (Bi r.2.2.2.2.1.k r.2.2.2.2.1.n ko r.2.2.2.2.1.kids.length kc) r.2.2.2.2.1:=by have:=VJ (k:=r.2.2.2.2.1.k) (n:=r.2.2.2.2.1.n) D;rwa[show Ltl.mk r.2.2.2.2.1.k r.2.2.2.2.1.n r.2.2.2.2.1.kids=r.2.2.2.2.1 by cases r.2.2.2.2.1;rfl]at this
   refine f7 (m.ext E) (λK z q=>?_);refine UX ?_;exact fG z ⟨_,rfl,(f.st q TK).low TK,s.grown q s.size TZ⟩
 .rw[Tm (by simpa using h)];refine Uw ?_;refine r4 (parts:=[]) rfl rfl rfl rfl (f7 o (λj d c=>?_));refine Uf ?_;exact fG d ⟨_,rfl,VJ (kids:=[]) (v1 _ _),i.grown c i.size TZ⟩
def eB(w:World)(v:Value)(p:cM)(r:cN)(tok st:Int):Prop:=∃b s l e so sc lo a,v=.tuple ⟨[Mg b so sc lo a s l,.int .i64 e]⟩/\Sl w (dk w) so sc s/\Sl w (dk w) lo a l/\JdgR p r tok st b s l e
def zG(w0:World){so fo lo:Option Addr}{sc fc:Nat}{ns:List cK}{fl:List cJ}{r:cN}(hs:Sl w0 (dk w0) so sc ns)(hf:Sl w0 (dk w0) fo fc fl)(hl:Sl w0 (dk w0) lo B r.2.2.2.2.1.kids)(hc:Sl w0 (dk w0) C a r.2.2.2.2.2.kids)(tok st:Int):
  Rt Vy 7 [FC so sc fo fc ns.length fl.length,Ha r lo B C a,Ub tok,Ub st].toArray w0 λv w'=>eB w' v (ns,fl) r tok st/\Ext w0 w':=by
 refine dU func7 ntmps7 rfl rfl ?_;refine UZ ?_;refine eH λw1 l e1=>?_
 skip;refine eH λw2 u e2=>?_
 have l:=l.ext e2;skip;refine eC (λw3 c e3=>?_);have l:=l.ext e3;have u:=u.ext e3;have f:=(e1.trans e2).trans e3;have z1:=e1.size;have z2:=e2.size;have l8:=c.lt;generalize hb8n:w2.heap.size=b8 at*
 clear e1 e2 e3;refine UD ?_;refine eK (HW w3 (hs.up f) (hf.up f) tok st) ?_;rintro _ w4 ⟨⟨x,oo,oc,rfl,hx,G⟩,e4⟩
 have l:=l.ext e4;have u:=u.ext e4;have c:=c.ext e4;have f:=f.trans e4;obtain⟨a1,c1,a2,c2,a3,c3,a4,c4,rfl,g1,g2,g3,g4⟩:=hx.ok;have z4:=e4.size;clear hx e4;refine U9 ?_;refine eC (λw5 d e5=>?_);refine f7 d (λw6 d hg6=>?_);have X:Ext w4 w6:=e5.grown hg6 e5.size TX;have l:=l.ext X;have u:=u.ext X;have c:=c.ext X;have f:=f.trans X;have g1:=g1.up X;have g2:=g2.up X;have g3:=g3.up X;have g4:=g4.up X;have G:=G.up X;have z6:=X.size;generalize hb10n:w4.heap.size=b10 at*
 clear e5 X hg6;refine UR ?_;apply ld rfl<;>intro h
 .have h:(HT (ns,fl) tok st).2≠0:=by simpa using h
  refine UZ ?_;refine r4 (parts:=[]) rfl rfl rfl rfl ?_;refine U9 ?_;refine f7 c (λw7 U hg7=>?_);refine UX ?_;exact fG U ⟨⟨false,[],[],_,none,0,none,0,rfl,v1 _ _,v1 _ _,zl h (λM _=>h M) (by unfold zk;rw[Tn h])⟩,f.grown hg7 f.size TZ⟩
 have j:(HT (ns,fl) tok st).2=0:=by simpa using h
 have hK:=HV j;clear h;have hz0:=f.size;refine UW ?_;have J:Ext w6 (drew w6):=mm w6;have hb4d:=l.ext J;have hb5d:=u.ext J;refine aG (λz:World=>Ext (drew w6) z) [Wr 0,Wr 1,Ws 2,Ws 3,Wr 4] mixed TL T_ ?_;refine cq (λz hz=>hb5d.ext hz) rfl rfl rfl rfl rfl ?_;refine cq (λz hz=>hb4d.ext hz) rfl rfl rfl rfl rfl ?_;refine cy rfl (eK (zn (drew w6) ((hs.up f).up J) (by have:ns.length<=20:=hK.n;omega)) ?_);rintro nv w7 ⟨hnv,e7⟩
 refine p0 (a8 e7 ?_);obtain⟨no,nc,rfl,hn⟩:=hnv.oldN.sl;have hE7:=(f.trans J).trans e7;refine cy rfl (eK (Gf w7 (hl.up hE7) (hc.up hE7) hn) ?_);rintro _ w8 ⟨rfl,e8⟩
 have N:=(J.trans e7).trans e8;refine p0 (a8 (e7.trans e8) ?_);have l:=l.ext N;have u:=u.ext N;have c:=c.ext N;have d:=d.ext N;have f:=f.trans N;have g1:=g1.up N;have g2:=g2.up N;have g3:=g3.up N;have g4:=g4.up N;have G:=G.up N;have z8:=N.size;clear e7 e8 N hnv hn hb4d hb5d J hE7;refine Vr ?_;refine UR ?_;apply ld rfl<;>intro h
 .have h:kZ r (CA (ns,fl))≠0:=by simpa using h
  refine UZ ?_;refine r4 (parts:=[]) rfl rfl rfl rfl ?_;refine U9 ?_;refine f7 c (λw7 U hg7=>?_);refine UX ?_;exact fG U ⟨⟨false,[],[],_,none,0,none,0,rfl,v1 _ _,v1 _ _,zl h (λ_ M=>h M) (by unfold zk;rw[Tm (by rw[j];simp),Tn h])⟩,f.grown hg7 f.size TZ⟩
 have L:kZ r (CA (ns,fl))=0:=by simpa using h
 clear h;refine UM ?_;apply ld rfl<;>intro h
 .
  have h4:r.2.1=4:=by simpa using h
  clear h;refine UV ?_;refine eK (cT w8 (t:=r.2.2.2.2.2) g1 g2 g3 g4 (hc.up f) hK.ed) ?_;rintro _ w9 ⟨x,rfl,hx,y⟩
  have c:=c.ext y;have d:=d.ext y;have g1:=g1.up y;have hE9:=f.trans y;have z9:=y.size;have hlab:Aq (rW (ns,fl) tok st).1 (rW (ns,fl) tok st).2.1 (rW (ns,fl) tok st).2.2.1.length (rW (ns,fl) tok st).2.2.2 r.2.2.2.2.2=0:=by
   unfold Aq;rw[Tm (by have:=hK.chk;simpa using this)];exact k7 L h4
  rw[hlab]at hx⊢
  rw[Tn rfl]at hx
  have hst:Dy (rW (ns,fl) tok st).2.1.length (rW (ns,fl) tok st).1:=(lh hK.chk).2.2.2.1;have hbl:=jw (n:=(rW (ns,fl) tok st).2.1.length) (P:=mE (rW (ns,fl) tok st).2.1 (rW (ns,fl) tok st).2.2.1 (rW (ns,fl) tok st).2.2.2 r.2.2.2.2.2);obtain⟨xo,xc,rfl,hxs⟩:=hx.oldN.sl;have hm1:(rW (ns,fl) tok st).1.length<=1048576:=hK.start;refine UM ?_;refine p8 (S:=Nat) (λi=>[(8,Uc b8),(14,.slice xo (jt (rW (ns,fl) tok st).2.1.length (mE (rW (ns,fl) tok st).2.1 (rW (ns,fl) tok st).2.2.1 (rW (ns,fl) tok st).2.2.2 r.2.2.2.2.2)).length xc),(56,.slice a1 (rW (ns,fl) tok st).1.length c1),(57,Ub (rW (ns,fl) tok st).1.length),(58,Ub i)])
   (λi w=>i<=(rW (ns,fl) tok st).1.length/\(∀n∈(rW (ns,fl) tok st).1.take i,mE (rW (ns,fl) tok st).2.1 (rW (ns,fl) tok st).2.2.1 (rW (ns,fl) tok st).2.2.2 r.2.2.2.2.2 n.toNat)/\w=w9) (λi=>(rW (ns,fl) tok st).1.length -i) 0 TJ ⟨RU _,(λn hn=>by simp at hn),rfl⟩ ?_
  rintro i _ ⟨hi,W,rfl⟩
  have hjr:∀(b:Bool),(b=true↔∀n∈(rW (ns,fl) tok st).1,mE (rW (ns,fl) tok st).2.1 (rW (ns,fl) tok st).2.2.1 (rW (ns,fl) tok st).2.2.2 r.2.2.2.2.2 n.toNat)->JdgR (ns,fl) r tok st b [] [] 0:=λb hb=>
   ⟨λh=>absurd rfl h,λ_=>⟨j,L⟩,λ_ _=>⟨rfl,rfl,hb⟩,λ_ h=>absurd h4 h,λ_ _ h _ _=>absurd h4 h,λ_ _ _=>rfl,λh=>absurd rfl h⟩
  refine UR ?_;apply ld rfl<;>intro h
  .have O:i<(rW (ns,fl) tok st).1.length:=by simpa using h
   clear h;have hk:=hst _ (PL O);obtain⟨m,em⟩:=Om hk.1;have hm:m<(rW (ns,fl) tok st).2.1.length:=by omega
   have hm':m<(jt (rW (ns,fl) tok st).2.1.length (mE (rW (ns,fl) tok st).2.1 (rW (ns,fl) tok st).2.2.1 (rW (ns,fl) tok st).2.2.2 r.2.2.2.2.2)).length:=by rw[hbl];exact hm
   have hiff:=jv (P:=mE (rW (ns,fl) tok st).2.1 (rW (ns,fl) tok st).2.2.1 (rW (ns,fl) tok st).2.2.2 r.2.2.2.2.2) hm;refine UC ?_;refine e_ g1 O em TV (λq=>?_);refine UR ?_;refine eY rfl rfl rfl rfl rfl hxs hm' (MR hm').symm TV (λq=>?_);refine Ug ?_;apply ld rfl<;>intro h
   .have hno:¬mE (rW (ns,fl) tok st).2.1 (rW (ns,fl) tok st).2.2.1 (rW (ns,fl) tok st).2.2.2 r.2.2.2.2.2 m:=λhp=>by rw[hiff.2 hp]at h;cases h
    refine UZ ?_;refine r4 (parts:=[]) rfl rfl rfl rfl ?_;refine f7 c (λw10 D R=>?_);refine UX ?_;exact fG D ⟨⟨false,[],[],_,none,0,none,0,rfl,v1 _ _,v1 _ _,hjr false ⟨λh=>by(cases h),λhp=>absurd (by have:=hp _ (PL O);rwa[em,Oy]at this) hno⟩⟩,hE9.grown R hE9.size TZ⟩
   .have hyes:mE (rW (ns,fl) tok st).2.1 (rW (ns,fl) tok st).2.2.1 (rW (ns,fl) tok st).2.2.2 r.2.2.2.2.2 m:=hiff.1 (by simpa using h)
    refine US ?_;refine m5 (i+1) TJ ⟨O,λn hn=>?_,rfl⟩ TK;rw[Q4 O]at hn
    rcases Ql.1 hn with hn|hn
    .exact W n hn
    .rw[QC.1 hn,em,Oy];exact hyes
  .obtain rfl:i=(rW (ns,fl) tok st).1.length:=by simp at h;omega
   rw[Q0]at W
   refine UF ?_;refine r4 (parts:=[(0,.const (.bool true))]) rfl rfl rfl rfl ?_;refine f7 c (λw10 D R=>?_);refine UX ?_;exact fG D ⟨⟨true,[],[],_,none,0,none,0,rfl,v1 _ _,v1 _ _,hjr true ⟨λ_=>W,λ_=>rfl⟩⟩,hE9.grown R hE9.size TZ⟩
 have h4:¬r.2.1=4:=by simpa using h
 clear h;refine Uo ?_;refine eK (GX w8 (hl.up f)) ?_;rintro _ w9 ⟨x,rfl,hx,y⟩
 obtain⟨ko,kc,rfl,hkx⟩:=r0 hx.old;have c:=c.ext y;have d:=d.ext y;have f:=f.trans y;have g1:=g1.up y;have g2:=g2.up y;have g3:=g3.up y;have g4:=g4.up y;have G:=G.up y;have z9:=y.size;clear y hx;refine U9 ?_;refine eC (λw10 V e10=>?_);refine f7 V (λw11 V hg11=>?_);have o:Ext w9 w11:=e10.grown hg11 e10.size TX;have c:=c.ext o;have d:=d.ext o;have f:=f.trans o;have g1:=g1.up o;have g2:=g2.up o;have g3:=g3.up o;have g4:=g4.up o;have G:=G.up o;have hkx:=hkx.up o;have z11:=o.size;clear e10 o hg11;refine UR ?_;apply ld rfl<;>intro h
 .have h:(sh r).2≠0:=by simpa using h
  refine UZ ?_;refine r4 (parts:=[]) rfl rfl rfl rfl ?_;refine U9 ?_;refine f7 c (λs hb812 hg12=>?_);refine UX ?_;exact fG hb812 ⟨⟨false,[],[],_,none,0,none,0,rfl,v1 _ _,v1 _ _,⟨λ_=>⟨rfl,rfl,rfl⟩,λM=>absurd M h,λM=>absurd M h,λM=>absurd M h,λ_ _ _ M _=>absurd M h,λ_ _ M=>absurd M h4,λ_=>by unfold zk;rw[Tm (by rw[j];simp),Tm (by rw[L];simp),Tm h4,Tn h]⟩⟩,f.grown hg12 f.size TZ⟩
 have T:(sh r).2=0:=by simpa using h
 clear h;have hRL:RL w11 (Bi (sh r).1.k (sh r).1.n ko (sh r).1.kids.length kc) (sh r).1:=by
  have:=VJ (k:=(sh r).1.k) (n:=(sh r).1.n) hkx;rwa[show Ltl.mk (sh r).1.k (sh r).1.n (sh r).1.kids=(sh r).1 by cases (sh r).1;rfl]at this
 refine Uo ?_;refine eK (zj w11 g1 g2 g3 g4 hRL hK.row hK.start) ?_;rintro _ s ⟨⟨ps,pl,is,err,po,pc,qo,qc,rfl,hps,hpl,hJ⟩,Z⟩
 have c:=c.ext Z;have f:=f.trans Z;have G:=G.up Z;have z12:=Z.size;clear g1 g2 g3 g4 d V hRL hkx;refine U9 ?_;refine eC (λw13 I e13=>?_);refine f7 I (λp I hg14=>?_);have F:Ext s p:=e13.grown hg14 e13.size TX;have c:=c.ext F;have f:=f.trans F;have G:=G.up F;have hps:=hps.up F;have hpl:=hpl.up F;have z14:=F.size;clear Z e13 F hg14;have hend:(err≠0\/is=true)->JdgR (ns,fl) r tok st is [] [] err:=λh=>by
  refine⟨λhe=>⟨(hJ.bad he).1,rfl,rfl⟩,λ_=>⟨j,L⟩,λ_ h=>absurd h h4,λhe _=>?_,λ_ _ _ _ hm=>hJ.good hK.chk (si T) hm,λ_ _ h=>absurd h h4,λhe=>by unfold zk;rw[Tm (by rw[j];simp),Tm (by rw[L];simp),Tm h4,Tm (by rw[T];simp)];exact hJ.err hK.chk (si T) he⟩;obtain⟨_,j1,j2,j3,j4,j5,_⟩:=hJ.ok he;have his:is=true:=h.resolve_left (λh=>h he);exact⟨T,j1,j2,j3,j4,λ_=>⟨rfl,rfl⟩,λh=>by rw[his]at h;cases h⟩
 refine UR ?_
 (refine a6 (λh=>?_) (λh=>?_))
 .have h:err≠0:=by simpa using h
  refine Us ?_;refine r4 (parts:=[(0,.tmp 91)]) rfl rfl rfl rfl ?_;refine U9 ?_;refine f7 c (λw15 A Q=>?_);refine UX ?_;exact fG A ⟨⟨is,[],[],_,none,0,none,0,rfl,v1 _ _,v1 _ _,hend (.inl h)⟩,f.grown Q f.size TZ⟩
 have he0:err=0:=by simpa using h
 clear h;refine Ug ?_;apply ld rfl<;>intro h
 .refine U4 ?_
  refine r4 (parts:=[(0,.tmp 91)]) rfl rfl rfl rfl ?_;refine U9 ?_;refine f7 c (λw15 A Q=>?_);refine UX ?_;exact fG A ⟨⟨is,[],[],_,none,0,none,0,rfl,v1 _ _,v1 _ _,hend (.inr h)⟩,f.grown Q f.size TZ⟩
 obtain⟨_,j1,j2,j3,j4,j5,j6⟩:=hJ.ok he0;have hP:=j6 h;have hof:=hK.of;have hfin:JdgR (ns,fl) r tok st false (ps.map λn=>((rO (ns,fl) tok st).getD n.toNat (0,0)).1) (pl.map λn=>((rO (ns,fl) tok st).getD n.toNat (0,0)).1) 0:=
  ⟨λh=>absurd rfl h,λ_=>⟨j,L⟩,λ_ h=>absurd h h4,λ_ _=>⟨T,j1,j2,j3,by rw[<-h];exact j4,(λh=>by cases h),λ_=>⟨ps,pl,hP,rfl,rfl⟩⟩,λ_ _ _ _ _=>rfl,λ_ _ h=>absurd h h4,λh=>absurd rfl h⟩
 have hso:Dy (rO (ns,fl) tok st).length ps:=by rw[hof];exact hP.so
 have hlo:Dy (rO (ns,fl) tok st).length pl:=by rw[hof];exact hP.lo
 have l19:=I.lt;have z0:=f.size;refine UW ?_;have J:Ext p (drew p):=mm p;have hb19d:=I.ext J;have hb8d:=c.ext J;refine aG (λz:World=>z.heap[s.heap.size]?=(drew p).heap[s.heap.size]?) [Wr 0,Wr 1,Wr 2,Wr 4,Wr 5,Wr 6,Ws 3,Ws 7,Wr 8,Ws 9,Wr 10] mixed TL rfl ?_;have hKS:∀z:World,(λz:World=>z.heap[s.heap.size]?=(drew p).heap[s.heap.size]?) z->Blk z s.heap.size 86 [.slice po ps.length pc,.slice qo pl.length qc]:=λz hz=>hz.trans hb19d
 refine Vo ?_;refine cw hKS rfl rfl rfl rfl rfl ?_;refine Vo ?_;refine cw hKS rfl rfl rfl rfl rfl ?_;refine cy rfl (eK (gU (drew p) (G.up J) (hps.up J) hso hP.sz.1) ?_);rintro sv w15 ⟨K,E⟩
 refine p0 (a8 (E.block _ l19) ?_);refine cy rfl (eK (gU w15 (G.up (J.trans E)) (hpl.up (J.trans E)) hlo hP.sz.2) ?_);rintro lv w16 ⟨hlv,Y⟩
 have z15:p.heap.size<=w15.heap.size:=E.size;have hS16:w16.heap[s.heap.size]?=(drew p).heap[s.heap.size]?:=(Y.block _ TK).trans (E.block _ l19);refine p0 (a8 hS16 ?_);have K:=K.extN Y;have hE16:=f.trans (J.trans (E.trans Y));obtain⟨so2,sc2,rfl⟩:=K.val;obtain⟨lo2,lc2,rfl⟩:=hlv.val;refine HL.build (parts:=[(1,.tmp 97),(2,.tmp 101)]) rfl rfl rfl rfl rfl ?_;refine cy rfl (f7 (hb8d.ext (E.trans Y)) (λw17 hb17 H=>p0 (a8 ?_ ?_)))
 .exact(H.block _ (by have:=Y.size;omega) T3).trans hS16
 have hsv17:=K.keptN H (λg hg e=>by have:=(K.lt g hg).1;have:=R4 e;have:p.heap.size<=g:=(K.lt g hg).1;omega);have hlv17:=hlv.keptN H (λg hg e=>by have:=(hlv.lt g hg).1;have:=R4 e;omega);obtain⟨_,_,he1,hs17⟩:=hsv17.oldN.sl;obtain⟨_,_,he2,hl17⟩:=hlv17.oldN.sl;cases he1
 cases he2
 refine Vr ?_;refine UQ ?_;exact fG hb17 ⟨⟨false,_,_,_,_,_,_,_,rfl,hs17,hl17,hfin⟩,hE16.grown H hE16.size TZ⟩
abbrev bR:=ByteArray×ByteArray×Int
abbrev jO(s:ByteArray):ar:=s.data.toList
def M3(k:Int):ar:=
 if k=1 then [115,116,97,114,116]else if k=2 then [101,110,100]else if k=3 then [115,116,111,112]else if k=4 then [116,97,115,107]
 else if k=5 then [120,111,114]else if k=6 then [97,110,100]else if k=7 then [111,114]else []
def rQ:ar:=[102,108,111,119]
def CI(n:cK):ar:=M3 n.2++[32]++jO n.1++[10]
def Cv(ns:List cK)(i:Int):ar:=jO (ns.getD i.toNat (⟨#[]⟩,0)).1
def AS(a b:ar):ar:=[102,108,111,119,32]++a++[32]++b++[10]
def rP(ns:List cK)(f:cJ):ar:=AS (Cv ns f.1) (Cv ns f.2)
def FA(p:cM):ar:=(p.1.map CI).flatten++(p.2.map (rP p.1)).flatten
def Jp(c:UInt8):ar->List ar
 |[]=>[[]]
 |b::l=>if b=c then []::Jp c l else match Jp c l with
  |[]=>[[b]]
  |x::r=>(b::x)::r
def zu(c:UInt8):List ar->ar
 |[]=>[]
 |[x]=>x
 |x::y::r=>x++c::zu c (y::r)
def Jr(c:UInt8):∀s,Jp c s≠[]
 |[]=>by simp[Jp]
 |b::l=>by
  unfold Jp;split
  .simp
  .split<;>simp
def Js{c:UInt8}:∀{a:ar},c∉a->Jp c a=[a]
 |[],_=>rfl
 |b::l,h=>by have f:¬b=c:=λe=>h (by simp[e]);have d:c∉l:=λe=>h (by simp[e]);unfold Jp;rw[Tm f,Js d]
def Jq{c:UInt8}:∀{a b:ar},c∉a->Jp c (a++c::b)=a::Jp c b
 |[],b,_=>by simp[Jp]
 |d::l,b,h=>by have g:¬d=c:=λe=>h (by simp[e]);have f:c∉l:=λe=>h (by simp[e]);simp only[OK];rw[Jp,Tm g,Jq f]
def zv(c:UInt8):∀s,zu c (Jp c s)=s
 |[]=>rfl
 |b::l=>by
  have a:=zv c l;have d:=Jr c l;unfold Jp;cases h:Jp c l with
  |nil=>exact absurd h d
  |cons x r=>
   rw[h]at a;split
   .rename_i e;simp only[zu,QE];rw[a,e]
   .cases r with
    |nil=>simp only[zu]at a⊢;rw[a]
    |cons y r=>simp only[zu,OK]at a⊢;rw[a]
def mK(c:UInt8):ar->Option (ar×ar)
 |[]=>none
 |b::l=>if b=c then some ([],l)else(mK c l).map λx=>(b::x.1,x.2)
def mN{c:UInt8}:∀{s a r:ar},mK c s=some (a,r)->s=a++c::r
 |[],a,r,h=>by cases h
 |b::l,a,r,h=>by
  unfold mK at h;split at h
  .rename_i e;injection h with h;injection h with h1 h2;rw[<-h1,<-h2,e];rfl
  .cases h2:mK c l with
   |none=>rw[h2]at h;cases h
   |some x=>
    rw[h2]at h;injection h with h;injection h with h3 h4;have:=mN (a:=x.1) (r:=x.2) h2;rw[<-h3,<-h4,this];rfl
def mL{c:UInt8}:∀{a r:ar},c∉a->mK c (a++c::r)=some (a,r)
 |[],r,_=>by simp[mK]
 |b::l,r,h=>by have f:¬b=c:=λe=>h (by simp[e]);have d:c∉l:=λe=>h (by simp[e]);simp only[OK];rw[mK,Tm f,mL d];rfl
def Al(a:ar):Int:=if a=M3 1 then 1 else if a=M3 2 then 2 else if a=M3 3 then 3 else if a=M3 4 then 4 else if a=M3 5 then 5 else if a=M3 6 then 6 else if a=M3 7 then 7 else 0
def AT(ns:List cK)(fs:List bR)(l:ar)(ln:Int):Option (List cK×List bR):=
 if(Jp 32 l).getD 0 []=rQ then
  if(Jp 32 l).length=3/\B9 ((Jp 32 l).getD 1 [])=true/\B9 ((Jp 32 l).getD 2 [])=true then some (ns,fs++[(LK ((Jp 32 l).getD 1 []),LK ((Jp 32 l).getD 2 []),ln)])else none
 else if Al ((Jp 32 l).getD 0 [])=0 then none
 else if(Jp 32 l).length=2/\B9 ((Jp 32 l).getD 1 [])=true/\fs=[]then some (ns++[(LK ((Jp 32 l).getD 1 []),Al ((Jp 32 l).getD 0 []))],fs)else none
def Gw:Nat->ar->Int->List cK->List bR->Option (List cK×List bR)×Int
 |0,_,ln,ns,fs=>(some (ns,fs),ln)
 |f+1,s,ln,ns,fs=>if s=[]then(some (ns,fs),ln)else match mK 10 s with
  |none=>(none,ln)
  |some x=>match AT ns fs x.1 ln with
   |none=>(none,ln)
   |some y=>Gw f x.2 (ln+1) y.1 y.2
def CG(ns:List cK)(nm:ByteArray):Int:=idxOf (λn:cK=>B7 n.1 nm) ns
def r5(ns:List cK):List bR->List cJ->Option (List cJ)×Int
 |[],acc=>(some acc,0)
 |f::r,acc=>if CG ns f.1<0\/CG ns f.2.1<0 then(none,f.2.2)else r5 ns r (acc++[(CG ns f.1,CG ns f.2.1)])
noncomputable def Er(s:ar):cM×Int×Int:=
 if s.length>4096 then(([],[]),0,2)else match Gw s.length s 1 [] []with
 |(none,ln)=>(([],[]),ln,3)
 |(some x,_)=>match r5 x.1 x.2 []with
  |(none,ln)=>(([],[]),ln,4)
  |(some fl,_)=>if kU (x.1,fl)≠0 then(([],[]),0,kU (x.1,fl))else((x.1,fl),0,0)
def M4{k:Int}(h1:1<=k)(h2:k<=7):Al (M3 k)=k/\M3 k≠rQ/\(32:UInt8)∉M3 k/\(10:UInt8)∉M3 k/\(M3 k).length<=5:=by
 obtain rfl|rfl|rfl|rfl|rfl|rfl|rfl:k=1\/k=2\/k=3\/k=4\/k=5\/k=6\/k=7:=by omega
 all_goals decide
def flT(f:bR):ar:=AS (jO f.1) (jO f.2.1)
def Cb{l:ar}(h:B9 l=true):(32:UInt8)∉l/\(10:UInt8)∉l/\l.length<=8:=by have a:=B_ h;exact⟨λe=>by have:=a _ e;exact absurd this TN,λe=>by have:=a _ e;exact absurd this TN,(Ca h).2.2.2.2⟩
def AW{ns:List cK}{n:cK}{ln:Int}(h1:1<=n.2)(h2:n.2<=7)(hn:B8 n.1=true):AT ns [] (M3 n.2++[32]++jO n.1) ln=some (ns++[n],[]):=by
 obtain⟨g1,g2,g3,g4,g5⟩:=M4 h1 h2;obtain⟨b,d,c⟩:=Cb hn;have a:Jp 32 (M3 n.2++[32]++jO n.1)=[M3 n.2,jO n.1]:=by rw[OG];show Jp 32 (M3 n.2++32::jO n.1)=_;rw[Jq g3,Js b]
 unfold AT;rw[a];simp only[Pk,Pj,PY,P5];rw[Tm g2,g1,Tm TK,Tn (by simpa using hn)];rfl
def AV{ns:List cK}{fs:List bR}{a b:ByteArray}{ln:Int}(d:B8 a=true)(c:B8 b=true):AT ns fs ([102,108,111,119,32]++jO a++[32]++jO b) ln=some (ns,fs++[(a,b,ln)]):=by
 obtain⟨g,k,j⟩:=Cb d;obtain⟨f,i,h⟩:=Cb c;have e:Jp 32 ([102,108,111,119,32]++jO a++[32]++jO b)=[rQ,jO a,jO b]:=by rw[show [102,108,111,119,32]++jO a++[32]++jO b=rQ++32::(jO a++32::jO b) by simp[rQ],Jq TN,Jq g,Js f]
 unfold AT;rw[e];simp only[Pk,Pj,PY,P5];rw[Tn trivial,Tn ⟨trivial,d,c⟩];rfl
def Gy{f:Nat}{l r:ar}{ln:Int}{ns:List cK}{fs:List bR}{y:List cK×List bR}(h:(10:UInt8)∉l)(a:AT ns fs l ln=some y):Gw (f+1) (l++10::r) ln ns fs=Gw f r (ln+1) y.1 y.2:=by rw[Gw,Tm TO,mL h];dsimp only;rw[a]
def Gz{rest:ar}:∀(ms:List cK) (ns:List cK) (f:Nat) (ln:Int),(∀n∈ms,1<=n.2/\n.2<=7/\B8 n.1=true)->((ms.map CI).flatten++rest).length<=f->
  ∃a ln',rest.length<=a/\Gw f ((ms.map CI).flatten++rest) ln ns []=Gw a rest ln' (ns++ms) []
 |[],ns,f,ln,_,hf=>⟨f,ln,by simpa using hf,by simp⟩
 |n::ms,ns,f,ln,h,hf=>by
  obtain⟨h1,h2,h3⟩:=h n TO;obtain⟨g1,g2,g3,g4,g5⟩:=M4 h1 h2;obtain⟨i,c,g⟩:=Cb h3;have e:((n::ms).map CI).flatten++rest=(M3 n.2++[32]++jO n.1)++10::((ms.map CI).flatten++rest):=by simp[CI]
  rw[e]at hf⊢;have d:1<=f:=by simp at hf;omega
  obtain⟨f,rfl⟩:∃a,f=a+1:=⟨f -1,by omega⟩;rw[Gy (by simp only[Ql,QC,Tr];exact⟨⟨g4,by decide⟩,c⟩) (AW h1 h2 h3)];obtain⟨a,ln',k1,k2⟩:=Gz (rest:=rest) ms (ns++[n]) f (ln+1) (λm b=>h m (by simp[b])) (by simp only[PX,PY]at hf⊢;omega);exact⟨a,ln',k1,by rw[k2];simp⟩
def Gx{ns:List cK}:∀(fl:List cJ) (fs:List bR) (f:Nat) (ln:Int),(∀x∈fl,B9 (Cv ns x.1)=true/\B9 (Cv ns x.2)=true)->((fl.map (rP ns)).flatten).length<=f->
  ∃gs ln',Gw f ((fl.map (rP ns)).flatten) ln ns fs=(some (ns,fs++gs),ln')/\gs.map (λg=>(g.1,g.2.1))=fl.map λx=>(LK (Cv ns x.1),LK (Cv ns x.2))
 |[],fs,f,ln,_,hf=>⟨[],ln,by cases f<;>simp[Gw],rfl⟩
 |x::fl,fs,f,ln,h,hf=>by
  obtain⟨h1,h2⟩:=h x TO;obtain⟨g1,g2,g3⟩:=Cb h1;obtain⟨g4,g5,j⟩:=Cb h2;have e:((x::fl).map (rP ns)).flatten=([102,108,111,119,32]++jO (LK (Cv ns x.1))++[32]++jO (LK (Cv ns x.2)))++10::((fl.map (rP ns)).flatten):=by simp[rP,AS,LK]
  rw[e]at hf⊢;have i:1<=f:=by simp at hf;omega
  obtain⟨f,rfl⟩:∃d,f=d+1:=⟨f -1,by omega⟩;rw[Gy (by simp only[Ql,QC,Tr];exact⟨⟨⟨by decide,g2⟩,by decide⟩,g5⟩) (AV (a:=LK (Cv ns x.1)) (b:=LK (Cv ns x.2)) h1 h2)];obtain⟨gs,ln',k1,k2⟩:=Gx fl (fs++[(LK (Cv ns x.1),LK (Cv ns x.2),ln)]) f (ln+1) (λm c=>h m (by simp[c])) (by simp only[PX,PY]at hf⊢;omega);exact⟨(LK (Cv ns x.1),LK (Cv ns x.2),ln)::gs,ln',by rw[k1];simp,by simp[k2]⟩
def r9{ns:List cK}:∀(fl:List cJ) (gs:List bR) (acc:List cJ),gs.map (λg=>(g.1,g.2.1))=fl.map (λx=>(LK (Cv ns x.1),LK (Cv ns x.2)))->(∀x∈fl,CG ns (LK (Cv ns x.1))=x.1/\CG ns (LK (Cv ns x.2))=x.2/\0<=x.1/\0<=x.2)->
  r5 ns gs acc=(some (acc++fl),0)
 |[],[],acc,_,_=>by simp[r5]
 |[],g::gs,acc,h,_=>by simp at h
 |x::fl,[],acc,h,_=>by simp at h
 |x::fl,g::gs,acc,h,a=>by simp only[Qg,OJ,R7]at h;obtain⟨⟨h1,h2⟩,h3⟩:=h;obtain⟨k1,k2,k3,k4⟩:=a x TO;unfold r5;rw[h1,h2,k1,k2,Tm TK,r9 fl gs _ h3 (λy b=>a y (by simp[b]))];simp
def CJ{ns:List cK}(h:∀i,i<ns.length->CF ns i=0):(∀n∈ns,1<=n.2/\n.2<=7/\B8 n.1=true)/\∀i (hi:i<ns.length),CG ns (ns[i]).1=(i:Int):=by
 have key:∀i (hi:i<ns.length),(1<=(ns[i]).2/\(ns[i]).2<=7/\B8 (ns[i]).1=true)/\∀j (hj:j<ns.length),j<i->B7 (ns[j]).1 (ns[i]).1=false:=by
  intro i hi;have h1:=h i hi;have b:ns.getD i (⟨#[]⟩,0)=ns[i]:=by rw[Pl,Pq hi];rfl
  unfold CF at h1;rw[b]at h1;split at h1
  .cases h1
  split at h1
  .cases h1
  rename_i h2 h3;simp only[N6,Tr,NZ,Td,Bool.not_eq_false]at h2;refine⟨⟨by omega,by omega,h2.1.1⟩,λj hj a=>?_⟩;simp only[OE,not_exists,not_and,NY]at h3;exact h3 ns[j] (List.mem_take_iff_getElem.2 ⟨j,by omega,rfl⟩)
 refine⟨λn hn=>?_,λi hi=>?_⟩
 .obtain⟨i,hi,rfl⟩:=Qu.1 hn;exact(key i hi).1
 .exact yl hi (λj hj a=>(key i hi).2 j hj a) (by simp[B7])
def rM{α:Type}(g:α->ar)(c:Nat):∀l:List α,(∀x∈l,(g x).length<=c)->((l.map g).flatten).length<=c*l.length
 |[],_=>by simp
 |x::r,h=>by have h1:=rM g c r (λy a=>h y (by simp[a]));have h2:=h x TO;simp only[Qg,Pf,PX,PY,Nat.mul_add,RE];omega
def Cw{ns:List cK}{i:Nat}(hi:i<ns.length):Cv ns (i:Int)=jO (ns[i]).1:=by unfold Cv;rw[Oy,Pl,Pq hi];rfl
def DE{p:cM}(h:OkPr p):∀x∈p.2,(B9 (Cv p.1 x.1)=true/\B9 (Cv p.1 x.2)=true)/\CG p.1 (LK (Cv p.1 x.1))=x.1/\CG p.1 (LK (Cv p.1 x.2))=x.2/\0<=x.1/\0<=x.2:=by
 obtain⟨g1,g2⟩:=CJ h.nodes;intro x c;obtain⟨h1,h2,h3,h4⟩:=h.flows x c;obtain⟨i,hi⟩:∃i:Nat,x.1=(i:Int):=⟨x.1.toNat,by omega⟩;obtain⟨j,hj⟩:∃j:Nat,x.2=(j:Int):=⟨x.2.toNat,by omega⟩;have b:i<p.1.length:=by omega
 have a:j<p.1.length:=by omega
 rw[hi,hj,Cw b,Cw a,LM,LM];exact⟨⟨(g1 _ (PL b)).2.2,(g1 _ (PL a)).2.2⟩,g2 i b,g2 j a,by omega,by omega⟩
def FB{p:cM}(h:OkPr p):(FA p).length<=1000:=by obtain⟨g1,g2⟩:=CJ h.nodes;have h1:=rM CI 15 p.1 (λn hn=>by obtain⟨k1,k2,k3⟩:=g1 n hn;have:=(M4 k1 k2).2.2.2.2;have:(jO n.1).length<=8:=(Cb k3).2.2;simp only[CI,PX,PY,P5];omega);have h2:=rM (rP p.1) 23 p.2 (λx a=>by obtain⟨⟨k1,k2⟩,-⟩:=DE h x a;have:=(Cb k1).2.2;have:=(Cb k2).2.2;simp only[rP,AS,PX,PY,P5];omega);have:=h.n;have:=h.f;unfold FA;rw[PX];omega
def EJ{p:cM}(h:kU p=0):Er (FA p)=(p,0,0):=by
 have b:=kV h;have e:=FB b;obtain⟨g1,g2⟩:=CJ b.nodes;have hn:=DE b;unfold Er;rw[Tm TK];obtain⟨d,ln',k1,k2⟩:=Gz (rest:=(p.2.map (rP p.1)).flatten) p.1 [] (FA p).length 1 g1 T8;obtain⟨gs,ln2,k3,k4⟩:=Gx (ns:=p.1) p.2 [] d ln' (λx a=>(hn x a).1) k1;have c:Gw (FA p).length (FA p) 1 [] []=(some (p.1,gs),ln2):=by show Gw (FA p).length ((p.1.map CI).flatten++(p.2.map (rP p.1)).flatten) 1 [] []=_;rw[k2,QE,k3,QE]
 rw[c];dsimp only;rw[r9 p.2 gs [] k4 (λx a=>(hn x a).2)];dsimp only;rw[QE,Tm (by simpa using h)]
def twP:cM:=([(⟨#[97]⟩,1),(⟨#[98]⟩,4),(⟨#[120]⟩,5),(⟨#[99]⟩,4),(⟨#[101]⟩,2)],[(0,1),(1,2),(2,1),(2,3),(3,4)])
def Ly:ar:=[115,116,97,114,116,32,97,10,116,97,115,107,32,98,10,120,111,114,32,120,10,116,97,115,107,32,99,10,101,110,100,32,101,10,102,108,111,119,32,97,32,98,10,102,108,111,119,32,98,32,120,10,102,108,111,119,32,120,32,98,10,102,108,111,119,32,120,32,99,10,102,108,111,119,32,99,32,101,10]
def LB:kU twP=0:=by
 have a:JC twP.1 twP.1.length=[0]:=by decide
 have b:okG (rR twP.1.length twP.2):=(kN (by decide:kL (rR twP.1.length twP.2)=0)).1;have hR:kX twP=0:=by have:=kY (ns:=twP.1) (fl:=twP.2) a;rw[F9 b (by intro x c;simp at c;subst c;decide) 20 TN]at this;rw[show kX twP=kX (twP.1,twP.2) from rfl,this];decide
 unfold kU;rw[hR,Tm TN,Tm TN,Tm TN,Tm TN,Tm TN]
def LE:Er Ly=(twP,0,0):=by rw[show Ly=FA twP by decide];exact EJ LB
def LI:JU twP=[(1,0,1),(1,2,1),(2,1,1),(2,1,2),(3,3,1),(4,4,0)]:=by decide
def LH:JL twP=([(1,0,1),(1,2,1),(2,1,1),(2,1,2),(3,3,1),(4,4,0)],0):=by unfold JL;rw[Tm (by simp[LB]),LI];rfl
def Fm:cN:=(⟨#[114]⟩,1,(5,1,3,1,0,0,0),(0,0,0,0),.mk 0 0 [],.mk 0 0 [])
def pU:cN:=(⟨#[114]⟩,1,(3,1,3,0,0,0,0),(0,0,0,0),.mk 0 0 [],.mk 0 0 [])
def Fq:kZ Fm (CA twP)=0:=by decide+kernel
def pW:kZ pU (CA twP)=0:=by decide+kernel
def LD(m:List Int)(a:m.length=5)(h:∀x∈m,0<=x/\x<=9):kO twP m=0:=
 BG (by rw[LH]) ⟨a,λj=>by
  by_cases hj:j<m.length
  .rw[Pl,Pq hj];exact h _ (PL hj)
  .rw[Pl,Pr TK];decide⟩
def LC{a:List Int}{k:Int}(b:kO twP m=0)(h:(k<0\/k>=(JU twP).length)\/o6 twP m ((JU twP).getD k.toNat (0,0,0))=false->False)(c:rz twP m ((JU twP).getD k.toNat (0,0,0))=some a):rt twP m k=(a,0):=by unfold rt;rw[Tm (by simp[b]),Tm (λe=>h (.inl e)),Tm (λe=>h (.inr e)),c];rfl
def LA(a:kO twP m=0):jQ twP m=jT twP m:=by unfold jQ;rw[Tn a]
def LG:qa twP 1 20=(([[1,0,0,0,0],[0,1,0,0,0],[0,0,1,0,0],[0,0,0,1,0],[0,0,0,0,1],[0,0,0,0,0]],[[(0,1)],[(2,2),(3,3)],[(1,1)],[(4,4)],[(5,5)],[]]),0):=by
 have g:(JL twP).2=0:=by rw[LH]
 have e:=LD [1,0,0,0,0] rfl TN;have a:=LD [0,1,0,0,0] rfl TN;have d:=LD [0,0,1,0,0] rfl TN;have c:=LD [0,0,0,1,0] rfl TN;have b:=LD [0,0,0,0,1] rfl TN;have f:=LD [0,0,0,0,0] rfl TN;have m:rt twP [1,0,0,0,0] 0=([0,1,0,0,0],0):=LC e (by rw[LI];decide) (by rw[LI];decide);have l:rt twP [0,1,0,0,0] 2=([0,0,1,0,0],0):=LC a (by rw[LI];decide) (by rw[LI];decide);have k:rt twP [0,1,0,0,0] 3=([0,0,0,1,0],0):=LC a (by rw[LI];decide) (by rw[LI];decide);have j:rt twP [0,0,1,0,0] 1=([0,1,0,0,0],0):=LC d (by rw[LI];decide) (by rw[LI];decide);have f4:rt twP [0,0,0,1,0] 4=([0,0,0,0,1],0):=LC c (by rw[LI];decide) (by rw[LI];decide);have i:rt twP [0,0,0,0,1] 5=([0,0,0,0,0],0):=LC b (by rw[LI];decide) (by rw[LI];decide);have c0:jQ twP [1,0,0,0,0]=[0]:=(LA e).trans TN;have c1:jQ twP [0,1,0,0,0]=[2,3]:=(LA a).trans TN;have c2:jQ twP [0,0,1,0,0]=[1]:=(LA d).trans TN;have c3:jQ twP [0,0,0,1,0]=[4]:=(LA c).trans TN;have c4:jQ twP [0,0,0,0,1]=[5]:=(LA b).trans TN;have n:jQ twP [0,0,0,0,0]=[]:=(LA f).trans TN;have h:iZ twP=[1,0,0,0,0]:=by decide
 simp[qa,Hl,g,Hb,runB,h,FQ,K0,Hi,oz,oB,c0,c1,c2,c3,c4,n,m,l,k,j,f4,i,E4]
def LF:(HT twP 1 20).2=0:=by unfold HT;rw[LG,LH];dsimp only;rw[Tm TN,Tm TN]
def Lz:(HT twP 1 20).1.1=([0],[[1,2],[3],[4],[1,2],[5],[6],[6]],[2,4,4,2,8,16,9223372036854775808],[[0,1,2,3,4,5,6],[0,1,2,3,4,5,6],[0,1,3,4,5,6],[0,2,3,4,5,6],[0,1,2,3,4,5,6],[0,1,2,3,4,5,6]]):=by unfold HT;rw[LG,LH];dsimp only;rw[Tm TN,Tm TN];decide+kernel
def Fs:sh Fm=(.mk 6 0 [.mk 8 0 [.mk 4 0 [.mk 3 3 []],.mk 3 1 []],.mk 11 0 [.mk 4 0 [.mk 3 3 []]]],0):=by rfl
def pX:sh pU=(.mk 10 0 [.mk 3 3 []],0):=by rfl
def Br{t:Ltl}(h1:(EV t).2=0)(h2:¬(sD (EV t).1 ([],[])).1.length+(sD (EV t).1 ([],[])).2.length>10):(Bo t).2=0:=by unfold Bo;rw[Tm (by simp[h1]),Tm (by show¬(Ja _).length+_>10;rw[Jb];exact h2)]
def Fv:(Bo (C2 (.mk 6 0 [.mk 8 0 [.mk 4 0 [.mk 3 3 []],.mk 3 1 []],.mk 11 0 [.mk 4 0 [.mk 3 3 []]]]))).2=0:=Br (by decide+kernel) (by decide+kernel)
def pZ:(Bo (C2 (.mk 10 0 [.mk 3 3 []]))).2=0:=Br (by decide+kernel) (by decide+kernel)
def semK_atom{L:Nat->Nat}{n:Int}{i:Nat}:Iq L 3 n [] i↔L i >>> n.toNat&&&1=1:=by simp[Iq]
def Fp:ai (rW twP 1 20) (.mk 6 0 [.mk 8 0 [.mk 4 0 [.mk 3 3 []],.mk 3 1 []],.mk 11 0 [.mk 4 0 [.mk 3 3 []]]]):=by
 unfold rW;rw[Lz];rintro ρ ⟨a,_,_⟩;have a:ρ 0=0:=by simpa using a
 simp only[If,Ir,Iq];refine .inl ⟨0,Rq _,(semK_atom.2 ?_),λj h1 h2=>absurd h2 TK⟩;simp only[a];decide
def Lv(i:Nat):Nat:=if i=0 then 0 else if i % 2=1 then 1 else 3
def Lx(i:Nat):Lv i=0/\i=0\/Lv i=1/\i % 2=1\/Lv i=3/\i % 2=0:=by
 unfold Lv;split
 .exact .inl ⟨rfl,by assumption⟩
 .split
  .exact .inr (.inl ⟨rfl,by assumption⟩)
  .exact .inr (.inr ⟨rfl,by omega⟩)
def p_:¬ai (rW twP 1 20) (.mk 10 0 [.mk 3 3 []]):=by
 unfold rW;rw[Lz];intro h;have h1:=h Lv ⟨by decide,λi=>?_,λF hF i=>?_⟩
 .simp only[If,Ir,Iq]at h1;obtain⟨j,_,hj,_⟩:=h1;have hj:Iq (λi=>([2,4,4,2,8,16,9223372036854775808]:List Nat).getD (Lv i) 0) 3 3 [] j:=hj;have hj:=semK_atom.1 hj;rcases Lx j with⟨e,_⟩|⟨e,_⟩|⟨e,_⟩<;>(rw[e]at hj;revert hj;decide)
 .rcases Lx i with⟨e,_⟩|⟨e,_⟩|⟨e,_⟩<;>rcases Lx (i+1)with⟨a,_⟩|⟨a,_⟩|⟨a,_⟩<;>(rw[e,a];first|(exfalso;omega)|decide)
 .rcases(by simpa using hF:F=_\/_)with rfl|rfl|rfl|rfl|rfl|rfl
  all_goals
   rcases Lx (i+1)with⟨e,_⟩|⟨e,_⟩|⟨e,_⟩<;>rcases Lx (i+2)with⟨a,_⟩|⟨a,_⟩|⟨a,_⟩
   all_goals first
    |(exfalso;omega)
    |exact⟨i+1,by omega,by rw[e];decide⟩
    |exact⟨i+2,by omega,by rw[a];decide⟩
def Ft{h:Bool}{s l:List Int}{e:Int}(b:JdgR twP Fm 1 20 h s l e):e=0/\h=true:=by have a:=b.good LF Fq TN (by rw[Fs]) (by rw[Fs];exact Fv);obtain⟨_,_,_,_,h1,_⟩:=b.ltl a TN;rw[Fs]at h1;exact⟨a,h1.2 Fp⟩
def pY{h:Bool}{s l:List Int}{e:Int}(b:JdgR twP pU 1 20 h s l e):e=0/\h=false/\0<l.length:=by
 have a:=b.good LF pW TN (by rw[pX]) (by rw[pX];exact pZ);obtain⟨_,_,_,_,h1,_,h2⟩:=b.ltl a TN;rw[pX]at h1 h2;cases h with
 |true=>exact absurd (h1.1 rfl) p_
 |false=>
  obtain⟨ps,pl,hP,_,rfl⟩:=h2 rfl;exact⟨a,rfl,by rw[P4];exact hP.l0⟩
open Go.Shelf
def A_:List (Nat×Nat)->Nat->Nat
 |[],_=>0
 |(a,b)::r,x=>match beq a x with|true=>b|false=>A_ r x
def IK:List (Nat×Nat):=
 (138,81)::
 (143,82)::
 (145,83)::
 (146,15)::
 (166,77)::
 (169,40)::
 (195,146)::
 (197,147)::
 (217,222)::
 (218,148)::
 (219,149)::
 (220,150)::
 (221,41)::
 (224,224)::
 (225,223)::
 (240,144)::
 (260,221)::
 (266,269)::
 (267,225)::
 (268,80)::
 (276,216)::
 (314,270)::
 []
def IQ:List (Nat×Nat):=
 (0,0)::
 (3,3)::
 (4,4)::
 (5,5)::
 (9,9)::
 (20,20)::
 (21,21)::
 (31,66)::
 (37,110)::
 (46,275)::
 (51,315)::
 (59,182)::
 (70,109)::
 (72,112)::
 (75,171)::
 (76,172)::
 (80,121)::
 (105,246)::
 (119,325)::
 (127,175)::
 (138,327)::
 (139,328)::
 (146,329)::
 (164,288)::
 []
def IL:List (Nat×Nat):=
 (1,0)::
 (3,2)::
 (4,3)::
 []
def shR:Ren:=⟨λx=>A_ IK x,λx=>A_ IQ x,λx=>A_ IL x⟩
set_option maxRecDepth 100000 in
def IN:Lays.n145 Vy shR where
 mixed:=by kernel_rfl
 f145:=(func83).trans (S9 some TL)
 f217:=(func222).trans (S9 some TL)
 f219:=(func149).trans (S9 some TL)
 f220:=(func150).trans (S9 some TL)
 f224:=(func224).trans (S9 some TL)
 f225:=(func223).trans (S9 some TL)
 f266:=(func269).trans (S9 some TL)
 f267:=(func225).trans (S9 some TL)
 f314:=(func270).trans (S9 some TL)
 t3:=Sz
 a3:=Sf
 z3:=Sk
 v3:=SQ
 t4:=SH
 a4:=Sh
 z4:=Sn
 v4:=SS
 t5:=SI
 a5:=isAgg5
 z5:=sizeOf5
 v5:=ST
 t9:=SN
 a9:=isAgg9
 z9:=sizeOf9
 v9:=SU
 t46:=Sx
 a46:=isAgg275
 z46:=Sj
 v46:=SP
 t51:=SB
 a51:=isAgg315
 z51:=Sm
 v51:=SR
 t59:=underlying182
 a59:=isAgg182
 z59:=sizeOf182
 v59:=zeroValue182
 t146:=underlying329
 a146:=isAgg329
 z146:=sizeOf329
 v146:=zeroValue329
 g1:=by kernel_rfl
set_option maxRecDepth 100000 in
def IP:Lays.n146 Vy shR where
 mixed:=by kernel_rfl
 f138:=(func81).trans (S9 some TL)
 f143:=(func82).trans (S9 some TL)
 f146:=(func15).trans (S9 some TL)
 f195:=(func146).trans (S9 some TL)
 f197:=(func147).trans (S9 some TL)
 f217:=(func222).trans (S9 some TL)
 f218:=(func148).trans (S9 some TL)
 f219:=(func149).trans (S9 some TL)
 f221:=(func41).trans (S9 some TL)
 f224:=(func224).trans (S9 some TL)
 f225:=(func223).trans (S9 some TL)
 f260:=(func221).trans (S9 some TL)
 f266:=(func269).trans (S9 some TL)
 f267:=(func225).trans (S9 some TL)
 f268:=(func80).trans (S9 some TL)
 f314:=(func270).trans (S9 some TL)
 t0:=by kernel_rfl
 a0:=λw=>rfl
 z0:=λw=>rfl
 v0:=λw=>rfl
 t3:=Sz
 a3:=Sf
 z3:=Sk
 v3:=SQ
 t4:=SH
 a4:=Sh
 z4:=Sn
 v4:=SS
 t5:=SI
 a5:=isAgg5
 z5:=sizeOf5
 v5:=ST
 t9:=SN
 a9:=isAgg9
 z9:=sizeOf9
 v9:=SU
 t21:=underlying21
 a21:=isAgg21
 z21:=sizeOf21
 v21:=zeroValue21
 t31:=SK
 a31:=isAgg66
 z31:=sizeOf66
 v31:=zeroValue66
 t46:=Sx
 a46:=isAgg275
 z46:=Sj
 v46:=SP
 t51:=SB
 a51:=isAgg315
 z51:=Sm
 v51:=SR
 t105:=underlying246
 a105:=isAgg246
 z105:=sizeOf246
 v105:=zeroValue246
 t119:=underlying325
 a119:=isAgg325
 z119:=sizeOf325
 t138:=underlying327
 a138:=isAgg327
 z138:=sizeOf327
 v138:=zeroValue327
 t139:=underlying328
 a139:=isAgg328
 z139:=sizeOf328
 v139:=zeroValue328
 t146:=underlying329
 a146:=isAgg329
 z146:=sizeOf329
 v146:=zeroValue329
 g1:=by kernel_rfl
 g3:=by kernel_rfl
 g4:=by kernel_rfl
def IM:(Tryz.prog.info? (shR.t 9)).map (λi=>(i.zero,i.size,i.bytes))=some (some (.string ByteArray.empty),1,16):=by kernel_rfl
def MaxH(w:World):Prop:=∃m,w.cell? ⟨0,0,none⟩=some (.int .i64 m)
def BL(h:w.ShapedOpen Vy):MaxH w:=
 Go.Proofs.cell_of_shapedOpen_int (zero:=#[Ub 0]) (t:=3) h (Tu TL) TL rfl TL TL Sz
def yM(c:UInt8):∀l:ar,(c∉l/\Lib.index l [c]= -1)\/∃a b,l=a++c::b/\c∉a/\Lib.index l [c]=(a.length:Int)
 |[]=>.inl ⟨by simp,by simp[Lib.index]⟩
 |d::l=>by
  by_cases h:d=c
  .subst h;exact .inr ⟨[],l,rfl,by simp,by simp[Lib.index,List.isPrefixOf]⟩
  .have f:List.isPrefixOf [c] (d::l)=false:=by
    have:(c==d)=false:=by simpa using λe:c=d=>h e.symm
    simp[List.isPrefixOf,this]
   obtain⟨h1,h2⟩|⟨a,b,rfl,h1,h2⟩:=yM c l
   .refine .inl ⟨by simp[h1,RW h],?_⟩;unfold Lib.index;rw[f,h2];rfl
   .refine .inr ⟨d::a,b,rfl,by simp[h1,RW h],?_⟩;unfold Lib.index;have hn:((a.length:Int)== -1)=false:=by rw[S2];omega
    rw[f,h2,hn];simp
def mM{c:UInt8}:∀{s:ar},c∉s->mK c s=none
 |[],_=>rfl
 |b::l,h=>by have d:¬b=c:=λe=>h (by simp[e]);have a:c∉l:=λe=>h (by simp[e]);unfold mK;rw[Tm d,mM a];rfl
def mO(c:UInt8)(s:ar):ar×ar×Bool:=match mK c s with
 |none=>(s,[],false)
 |some x=>(x.1,x.2,true)
def mJ(c:UInt8)(s:ar):Lib.cut s [c]=mO c s:=by
 unfold Lib.cut mO;obtain⟨h1,h2⟩|⟨a,b,rfl,h1,h2⟩:=yM c s
 .rw[h2,mM h1];rfl
 .rw[h2,mL h1,Tn TK];simp
def Jo(c:UInt8):∀(n:Nat) (s:ar),s.length<=n->∀k,Lib.count s [c]<=k->Lib.splitK [c] 0 k s=Jp c s:=by
 intro n;induction n with
 |zero=>
  intro s d k g;have:s=[]:=P1.1 TK;subst this;cases k with
  |zero=>rfl
  |succ k=>simp[Lib.splitK,Lib.index,Jp]
 |succ n f=>
  intro s d k g;obtain⟨h1,h2⟩|⟨a,b,rfl,h1,h2⟩:=yM c s
  .rw[Js h1];cases k with
   |zero=>rfl
   |succ k=>unfold Lib.splitK;rw[h2];rfl
  .have h:=Lib.count_hit (sub:=[c]) TO h2;have hd:(a++c::b).drop (a.length+[c].length)=b:=by simp
   rw[hd]at h;rw[Jq h1];cases k with
   |zero=>omega
   |succ k=>
    unfold Lib.splitK;have hn:((a.length:Int)== -1)=false:=by rw[S2];omega
    rw[h2,hn];simp only[Oy,NW,Tl];rw[hd,f b (by simp at d;omega) k TK];simp
def Jn(s:ar):Lib.splitB (LK [32]) 0 (Lib.countB (LK s) (LK [32])) (LK s)=(Jp 32 s).map LK:=by
 have h:=Lib.splitB_data (LK [32]) 0 (Lib.countB (LK s) (LK [32])) (LK s);rw[show(LK [32]).data.toList=[32] from rfl,LN,Jo 32 _ s T8 (Lib.countB (LK s) (LK [32])) (Rn rfl)]at h;rw[<-h,Qh];have:(LK∘λx:ByteArray=>x.data.toList)=id:=by funext x;exact LM x
 rw[this,List.map_id]
def mn(s:ar):Lib.countB (LK s) (LK [32])+1=(Jp 32 s).length:=by have h:=Lib.splitB_all (LK [32]) TN 0 _ (LK s) rfl;rw[Jn,P4]at h;omega
section
variable {α β:Type}[Rep α][Rep β]{w w':World}{B B':Nat}{e e':TypeId}{F F':Nat->Prop}{v v':Value}{xs:List α}{ys:List β}
theorem Ed(h:Own w B e F v xs)(a:Own w B' e' F' v' ys)(hn:e≠e'):∀g,v.ownBlock=some g->v'.ownBlock≠some g:=by
 intro g h1 h2;obtain⟨rfl,_⟩|⟨g1,off,cap,cur,rfl,h⟩:=h
 .cases h1
 obtain⟨rfl,_⟩|⟨g2,off',cap',cur',rfl,a⟩:=a
 .cases h2
 injection h1 with h1;injection h2 with h2;dsimp only at h1 h2;subst h1;subst h2;have:=h.blk.symm.trans a.blk;injection this with this;injection this with _ h3 _;exact hn h3
theorem Ee{b:Nat}{T:TypeId}{cells:List Value}(h:Own w B e F v xs)(a:Blk w b T cells)(hn:e≠T):v.ownBlock≠some b:=by
 intro h1;obtain⟨rfl,_⟩|⟨g1,off,cap,cur,rfl,h⟩:=h
 .cases h1
 injection h1 with h1;dsimp only at h1;subst h1;have:=h.blk.symm.trans a;injection this with this;injection this with _ h3 _;exact hn h3
end
def MaxH.ext{w':World}(h:MaxH w)(c:Ext w w'):MaxH w':=by
 obtain⟨m,b⟩:=h;refine⟨m,?_⟩;have a:0<w.heap.size:=by apply Ob;intro hn;simp[World.cell?,NA (Rp hn)]at b
 rw[c.cell (p:=⟨0,0,none⟩) a];exact b
def qh(w:World)(n:Nat):Ext w (w.drewN n):=⟨rfl,rfl,rfl,Rq _,λ_ _=>rfl⟩
def mP(w:World)(s:ar)(c:s.length<=100000)(b:MaxH w):Rt Vy 83 [tV s,tV [10]].toArray w λv w'=>v=.tuple ⟨[tV (mO 10 s).1,tV (mO 10 s).2.1,.bool (mO 10 s).2.2]⟩/\Ext w w':=by obtain⟨m,a⟩:=b;refine Oa (Any.strings_Cut IN (LK s) (LK [10]) m w (by rw[LO];omega) a) ?_;rintro e w' ⟨rfl,n,rfl⟩;refine⟨_,rfl,?_,qh w n⟩;rw[show(LK [10]).data.toList=[10] from rfl,LN,mJ];rfl
def Jt(w:World)(s:ar)(p:s.length<=100000)(o:MaxH w):Rt Vy 15 [tV s,tV [32]].toArray w λv w'=>(∃ao cap,v=.slice ao ((Jp 32 s).map LK).length cap/\Sl w' (λb=>b=w.heap.size/\b<w'.heap.size) ao cap ((Jp 32 s).map LK))/\Ext w w':=by
 obtain⟨m,g⟩:=o;refine Oa (Any.strings_Split IP IM (LK s) (LK [32]) m w (by rw[LO];omega) g TN) ?_;rintro e w' ⟨rfl,rfl⟩;have k:=mn s;rw[Jn,k];have c:∀x∈Jp 32 s,x.length<=s.length:=by
  intro x f;have h:=Lib.splitB_data (LK [32]) 0 (Lib.countB (LK s) (LK [32])) (LK s);clear h;have:∀(l:List ar),x∈l->x.length<=(zu 32 l).length:=by
   intro l;induction l with
   |nil=>intro h;cases h
   |cons y r d=>
    intro h;cases r with
    |nil=>simp only[zu];rw[QC.1 h];exact Rq _
    |cons z r=>
     simp only[zu,PX,PY];obtain rfl|h:=Qo.1 h
     .omega
     .have:=d h;omega
  have:=this _ f;rwa[zv]at this
 have hn:(Jp 32 s).length<=100001:=by have:=Lib.countB_le (LK [32]) TN _ (LK s) T8;rw[LO]at this;omega
 refine⟨_,rfl,⟨_,_,by rw[P4],⟨by rw[P4];exact Rq _,by unfold maxLen;omega,(λh=>by cases h),λi hi=>?_⟩⟩,V6 w _⟩;rw[P4]at hi;refine⟨w.heap.size,0,rfl,⟨rfl,(Wp w (((Jp 32 s).map LK).map Value.string) 9).lt⟩,[.string (LK (Jp 32 s)[i])],?_,?_⟩
 .have n:Blk (w.alloc (.cells (((Jp 32 s).map LK).map Value.string).toArray 9)) w.heap.size 9 (((Jp 32 s).map LK).map Value.string):=Wp w _ _;intro j u a;have hj:j=0:=by
   cases j with
   |zero=>rfl
   |succ j=>simp at a
  subst hj;refine n.cell ?_;simp only[List.getElem?_cons_zero,R5]at a;rw[<-a];show(((Jp 32 s).map LK).map Value.string)[0+i*1+0]?=_;simp[Pq hi]
 .rw[PK];obtain⟨cs,h1,h2⟩:=Rd.mkStr (w.alloc (.cells (((Jp 32 s).map LK).map Value.string).toArray 9)) (λb=>b=w.heap.size/\b<(w.alloc (.cells (((Jp 32 s).map LK).map Value.string).toArray 9)).heap.size) (LK (Jp 32 s)[i]) (by rw[LO];have:=c _ (PL hi);unfold maxLen;omega);obtain⟨v,rfl⟩:∃v,cs=[v]:=by
   have:=Rep.len h2
   match cs,this with
   |[v],_=>exact⟨v,rfl⟩
  have:v=.string (LK (Jp 32 s)[i]):=h1.symm;rw[<-this];exact h2
instance:IsAr Vy 295 8 9:=⟨underlying295⟩
abbrev CD:Value:=.string ⟨#[]⟩
instance:IsZC Vy 295 [CD,CD,CD,CD,CD,CD,CD,CD]:=v2 (z:=.agg #[CD,CD,CD,CD,CD,CD,CD,CD]) TL rfl
abbrev M2:List Value:=[CD,tV (M3 1),tV (M3 2),tV (M3 3),tV (M3 4),tV (M3 5),tV (M3 6),tV (M3 7)]
def F2(w0:World){k:Int}(h1:1<=k)(h2:k<=7):Rt Vy 151 [Ub k].toArray w0 λv w'=>v=tV (M3 k)/\Ext w0 w':=by
 obtain⟨ki,rfl,b,a⟩:∃i:Nat,k=(i:Int)/\i<8/\C8 M2 i=some (tV (M3 k)):=by
  obtain rfl|rfl|rfl|rfl|rfl|rfl|rfl:k=1\/k=2\/k=3\/k=4\/k=5\/k=6\/k=7:=by omega
  .exact⟨1,rfl,by decide,rfl⟩
  .exact⟨2,rfl,by decide,rfl⟩
  .exact⟨3,rfl,by decide,rfl⟩
  .exact⟨4,rfl,by decide,rfl⟩
  .exact⟨5,rfl,by decide,rfl⟩
  .exact⟨6,rfl,by decide,rfl⟩
  .exact⟨7,rfl,by decide,rfl⟩
 generalize M3 (ki:Int)=sg at*;refine dR func151 ntmps151 rfl rfl (UR ?_);refine eI (out:=M2) rfl rfl rfl rfl (U9 ?_);refine fp rfl rfl rfl rfl b a (Uf ?_);exact be ⟨rfl,p7 _⟩
section
variable {P:Program}{Q:Exit->Act->World->Prop}{n:Nat}{σ:Sg}{w:World}{L rest:List Oper}{d:Nat}{op:Op}{ty:TypeId}{pos:String}{af:Array Edge}{g:Option (Nat×Bool)}{t yt:TypeId}{x y ix:Operand}
end
instance:IsT Vy 186 bR:=VL TL underlying186 rfl
instance:IsC Vy 186 3 true:=VA TL underlying186 rfl
instance:IsFd Vy 186 0 0:=qA TL
instance:IsFd Vy 186 1 1:=qA TL
instance:IsFd Vy 186 2 2:=qA TL
instance:IsZC Vy 186 [.string ⟨#[]⟩,.string ⟨#[]⟩,Ub 0]:=v2 (z:=.agg #[.string ⟨#[]⟩,.string ⟨#[]⟩,Ub 0]) TL rfl
instance:IsBd Vy 186 [(0,1),(1,1),(2,1)]:=VI TL
instance:IsZ Vy 186 ((⟨#[]⟩,⟨#[]⟩,0):bR) 40:=VV (z:=.agg #[.string ⟨#[]⟩,.string ⟨#[]⟩,Ub 0]) TL (λw F=>⟨[.string ⟨#[]⟩],[.string ⟨#[]⟩,Ub 0],rfl,⟨rfl,by decide⟩,⟨[.string ⟨#[]⟩],[Ub 0],rfl,⟨rfl,by decide⟩,rfl⟩⟩)
instance:IsS Vy 179 186:=⟨underlying179⟩
instance:IsC Vy 179 1 false:=VA TL underlying179 rfl
instance:IsFd Vy 181 0 0:=qA TL
instance:IsFd Vy 181 1 2:=qA TL
instance:IsZC Vy 181 [.slice none 0 0,.slice none 0 0,.slice none 0 0]:=v2 (z:=.agg #[.slice none 0 0,.slice none 0 0,.slice none 0 0]) TL rfl
instance:IsBd Vy 181 [(0,2),(2,1)]:=VI TL
instance:IsF Vy 151:=Vz func151
instance:IsF Vy 84:=Vz func84
instance:IsF Vy 85:=Vz func85
instance:IsF Vy 153:=Vz func153
structure PRd(w:World)(B b:Nat)(ns:List cK)(fs:List bR)(pf:List cJ)(vn vp vf:Value):Prop where
 blk:Blk w b 181 [vn,vp,vf]
 ge:B<=b
 own:Own w B 123 dh vn ns
 opf:Own w B 48 dh vp pf
 ofl:Own w B 186 dh vf fs
section
variable {w w' w2:World}{B b:Nat}{ns:List cK}{fs:List bR}{pf:List cJ}{vn vp vf:Value}
theorem PRd.ext(h:PRd w B b ns fs pf vn vp vf)(a:Ext w w'):PRd w' B b ns fs pf vn vp vf:=⟨h.blk.ext a,h.ge,h.own.extN a,h.opf.extN a,h.ofl.extN a⟩
theorem PRd.dis(h:PRd w B b ns fs pf vn vp vf):(vn.ownBlock≠some b/\vp.ownBlock≠some b/\vf.ownBlock≠some b)/\(∀g,vn.ownBlock=some g->vf.ownBlock≠some g)/\(∀g,vp.ownBlock=some g->vf.ownBlock≠some g)/\∀g,vp.ownBlock=some g->vn.ownBlock≠some g:=
 ⟨⟨Ee h.own h.blk TN,Ee h.opf h.blk TN,Ee h.ofl h.blk TN⟩,Ed h.own h.ofl TN,Ed h.opf h.ofl TN,Ed h.opf h.own TN⟩
theorem PRd.pushF(h:PRd w B b ns fs pf vn vp vf){fs':List bR}{vf':Value}(d:Own w' B 186 dh vf' fs')(f:w.grownBy w' vf.ownBlock)(i:Blk w2 b 181 [vn,vp,vf'])(a:w'.grownBy w2 (some b))(c:Blk w' b 181 [vn,vp,vf]):
  PRd w2 B b ns fs' pf vn vp vf':=by
 obtain⟨⟨d1,d2,d3⟩,d4,d5,l⟩:=h.dis;have e:=Ee d c TN;exact⟨i,h.ge,(h.own.keptN f (λg k e=>d4 g k e.symm)).keptN a (λg k e=>d1 (by rw[k,e])),(h.opf.keptN f (λg k e=>d5 g k e.symm)).keptN a (λg k e=>d2 (by rw[k,e])),d.keptN a (λg k j=>e (by rw[k,j]))⟩
theorem PRd.pushN(h:PRd w B b ns fs pf vn vp vf){ns':List cK}{vn':Value}(d:Own w' B 123 dh vn' ns')(f:w.grownBy w' vn.ownBlock)(i:Blk w2 b 181 [vn',vp,vf])(a:w'.grownBy w2 (some b))(c:Blk w' b 181 [vn,vp,vf]):
  PRd w2 B b ns' fs pf vn' vp vf:=by
 obtain⟨⟨d1,d2,d3⟩,d4,d5,l⟩:=h.dis;have e:=Ee d c TN;exact⟨i,h.ge,d.keptN a (λg k j=>e (by rw[k,j])),(h.opf.keptN f (λg k e=>l g k e.symm)).keptN a (λg k e=>d2 (by rw[k,e])),(h.ofl.keptN f (λg k e=>d4 g e.symm k)).keptN a (λg k e=>d3 (by rw[k,e]))⟩
theorem PRd.pushP(h:PRd w B b ns fs pf vn vp vf){pf':List cJ}{vp':Value}(d:Own w' B 48 dh vp' pf')(f:w.grownBy w' vp.ownBlock)(i:Blk w2 b 181 [vn,vp',vf])(a:w'.grownBy w2 (some b))(c:Blk w' b 181 [vn,vp,vf]):
  PRd w2 B b ns fs pf' vn vp' vf:=by
 obtain⟨⟨d1,d2,d3⟩,d4,d5,l⟩:=h.dis;have e:=Ee d c TN;exact⟨i,h.ge,(h.own.keptN f (λg k e=>l g e.symm k)).keptN a (λg k e=>d1 (by rw[k,e])),d.keptN a (λg k j=>e (by rw[k,j])),(h.ofl.keptN f (λg k e=>d5 g e.symm k)).keptN a (λg k e=>d3 (by rw[k,e]))⟩
end
def Am{a:ar}(h:∀j:Nat,1<=j->j<8->a≠M3 j):Al a=0:=by unfold Al;rw[Tm (show¬a=M3 1 from h 1 TN TN),Tm (show¬a=M3 2 from h 2 TN TN),Tm (show¬a=M3 3 from h 3 TN TN),Tm (show¬a=M3 4 from h 4 TN TN),Tm (show¬a=M3 5 from h 5 TN TN),Tm (show¬a=M3 6 from h 6 TN TN),Tm (show¬a=M3 7 from h 7 TN TN)]
def cU(w w':World)(B b:Nat)(pf:List cJ)(vp:Value)(v:Value):Option (List cK×List bR)->Prop
 |none=>v=.bool false/\Ext w w'
 |some x=>v=.bool true/\Below B w w'/\∃vn vf,PRd w' B b x.1 x.2 pf vn vp vf
def Gg(w:World)(F:Nat->Prop)(s:ByteArray)(k:Int)(h:s.size<=maxLen):Rd w F (.agg [.string s,Ub k].toArray) ((s,k):cK):=VZ (c1:=[.string s]) (c2:=[Ub k]) ⟨rfl,h⟩ rfl
def AX(w:World){b:Nat}{ns:List cK}{fs:List bR}{vf:Value}{s:ar}{ln:Int}(hM:MaxH w)(h:PRd w B b ns fs [] A (.slice none 0 0) vf)(hs:s.length<=4096)(hl:ns.length+fs.length<=100000):
  Rt Vy 84 [Uc b,tV s,Ub ln].toArray w λv w'=>cU w w' B b [] (.slice none 0 0) v (AT ns fs s ln):=by
 refine dT func84 ntmps84 rfl rfl (UR ?_);refine eK (Jt w s TK hM) ?_;rintro _ w1 ⟨⟨ao,cap,rfl,J⟩,e1⟩;have h1:=h.ext e1;have m:=Jr 32 s;unfold AT;generalize Jp 32 s=ws at*;have hwl:(ws.map LK).length=ws.length:=P4 ..;have h0:0<(ws.map LK).length:=by rw[hwl];exact P6.2 m
 refine UR ?_;refine fd (i:=0) rfl rfl rfl rfl rfl J h0 TV (λu q a=>?_);have d:∀i (h:i<(ws.map LK).length),(ws.map LK)[i]=LK (ws.getD i []):=λi h=>by rw[PK,Pl,Pq (by rwa[hwl]at h)];rfl
 obtain⟨rfl,-⟩:=a.str;rw[d 0 h0];clear a;refine Ug ?_;have hd0:=h1.dis;apply ld rfl<;>intro h
 .have hF:ws.getD 0 []=rQ:=S3.1 h;clear h;rw[Tn hF];refine Ut ?_;cases h3:(((ws.map LK).length:Int) != 3)with
  |true=>
   have h3:ws.length≠3:=by simp at h3;omega
   rw[Tm (λe=>h3 e.1)];refine Us ?_;exact be ⟨rfl,e1⟩
  |false=>
  have h3:ws.length=3:=by simp at h3;omega
  have K:1<(ws.map LK).length:=by omega
  have i2:2<(ws.map LK).length:=by omega
  refine U9 ?_;refine fd (i:=1) rfl rfl rfl rfl rfl J K TV (λu q1 a=>?_);obtain⟨rfl,-⟩:=a.str;rw[d 1 K];clear a;refine eK (df w1 _) ?_;rintro _ w2 ⟨rfl,T⟩;have J:=J.mono (F':=λb=>b=w.heap.size/\b<w2.heap.size) (λb f=>T.block b f.2) (λb f=>⟨f.1,Rv f.2 T.size⟩);have h2:=h1.ext T;have hE2:=e1.trans T;have C:B8 (LK (ws.getD 1 []))=B9 (ws.getD 1 []):=rfl;rw[C];cases hn1:B9 (ws.getD 1 [])with
  |false=>
   rw[Tm (λe=>by cases e.2.1)];refine Us ?_;exact be ⟨rfl,hE2⟩
  |true=>
  refine U9 ?_;refine fd (i:=2) rfl rfl rfl rfl rfl J i2 TV (λu q2 a=>?_);obtain⟨rfl,-⟩:=a.str;rw[d 2 i2];clear a;refine eK (df w2 _) ?_;rintro _ l ⟨rfl,x⟩;have J:=J.mono (F':=λb=>b=w.heap.size/\b<l.heap.size) (λb f=>x.block b f.2) (λb f=>⟨f.1,Rv f.2 x.size⟩);have Y:=h2.ext x;have I:=hE2.trans x;have hnb2:B8 (LK (ws.getD 2 []))=B9 (ws.getD 2 []):=rfl;rw[hnb2];cases hn2:B9 (ws.getD 2 [])with
  |false=>
   rw[Tm (λe=>by cases e.2.2)];refine Us ?_;exact be ⟨rfl,I⟩
  |true=>
  rw[Tn ⟨h3,rfl,rfl⟩];have P:=mm l;have R:=Y.ext P;have G:=Y.dis;have H:=Y.blk.lt;have U:∀g,vf.ownBlock=some g->g<w.heap.size:=λg hg=>(h.ofl.lt g hg).2.1;have hKs:∀u,(λz:World=>∀c,c<l.heap.size->vf.ownBlock≠some c->z.heap[c]?=(drew l).heap[c]?) u->u.heap[b]?=(drew l).heap[b]?:=λu a=>a _ H G.1.2.2;have O:∀u,(λz:World=>∀c,c<l.heap.size->vf.ownBlock≠some c->z.heap[c]?=(drew l).heap[c]?) u->∀c,(c=w.heap.size/\c<l.heap.size)->u.heap[c]?=(drew l).heap[c]?:=λu a c n=>a c n.2 (λe=>by have:=U _ e;omega);have hb3:=R.blk;have L:=J.mono (w':=drew l) (F':=λc=>c=w.heap.size/\c<l.heap.size) (λc n=>P.block c n.2) (λc n=>n);refine UY ?_;refine aF (λz:World=>∀c,c<l.heap.size->vf.ownBlock≠some c->z.heap[c]?=(drew l).heap[c]?) [Wr 0,Wr 1,Wr 2,Wr 3,Wr 4,Wr 5,Wr 6,Wr 7,Wr 8,Wr 9,Wr 10,Wr 11,Wr 12,Ws 13,Ws 14,Ws 15,Ws 16] 17 mixed TL (λ_ _ _=>rfl) (Vq ?_);refine cb (k:=1) O rfl rfl rfl rfl rfl rfl rfl L K TV (λu r1 a=>?_);obtain⟨rfl,y⟩:=a.str;rw[d 1 K]at y⊢;refine Vo ?_;refine cb (k:=2) O rfl rfl rfl rfl rfl rfl rfl L i2 TV (λu r2 a=>?_);obtain⟨rfl,Z⟩:=a.str;rw[d 2 i2]at Z⊢;refine Vp ?_;refine bW (α:=bR) (F:=dh) (bytes:=40) (yv:=((LK (ws.getD 1 []),LK (ws.getD 2 []),ln):bR)) rfl rfl rfl rfl TV rfl rfl TV R.ofl
   (VZ (c1:=[.string (LK (ws.getD 1 []))]) (c2:=[.string (LK (ws.getD 2 [])),Ub ln]) ⟨rfl,y⟩ ⟨[.string (LK (ws.getD 2 []))],[Ub ln],rfl,⟨rfl,Z⟩,rfl⟩)
   (by have:=h.ge;have:=P.size;have:b<l.heap.size:=H;omega) TY TN TQ TK
   (λz hz c n m=>hz.block c n (λe=>m e.symm)) (λvf2 o q3 ho4 D hnb4=>?_)
  have N:=hb3.kept D (λe=>G.1.2.2 e.symm);have hS4:(λz:World=>∀c,c<l.heap.size->vf.ownBlock≠some c->z.heap[c]?=(drew l).heap[c]?) o:=λc n m=>D.block c n (λe=>m e.symm);obtain⟨fo,fcap,hv4⟩:=ho4.val;subst hv4;refine cy rfl (fQ rfl rfl rfl (p0 (a8 hS4 (cy rfl (fj rfl rfl rfl (p0 (a8 hS4 (VK (bu rfl (f7 N (λw5 M p=>p0 (bx ?_))))))))))));have r:B<=w.heap.size:=Ro (Ru h.ge h.blk.lt);have V:=(I.trans P).mono r;have hX5:=(V.grown D (Rr r V.size) (λk e=>(R.ofl.lt k e).1)).grown p (Rr (Rr r V.size) D.size) (λk e=>by cases e;exact h.ge);refine Up ?_;exact be ⟨rfl,hX5,A,_,R.pushF ho4 D M p N⟩
 .have hF:¬ws.getD 0 []=rQ:=λe=>by rw[e]at h;exact absurd h TN
  clear h;rw[Tm hF];refine Ux ?_;refine p8 (S:=Nat) (λk=>[(0,Uc b),(7,.slice ao (ws.map LK).length cap),(8,Ub (k:Int))])
   (λk w'=>1<=k/\k<=8/\(∀j:Nat,1<=j->j<k->ws.getD 0 []≠M3 j)/\Ext w1 w') (λk=>8 -k) 1 TJ ⟨by omega,by omega,(λj h1 h2=>by omega),p7 _⟩ ?_
  rintro k w2 ⟨hk1,hk8,hno,T⟩;refine UR ?_;apply ld rfl<;>intro h
  .have hk7:k<=7:=by simp at h;omega
   clear h;have hw2:=J.mono (F':=λb=>b=w.heap.size/\b<w2.heap.size) (λb f=>T.block b f.2) (λb f=>⟨f.1,Rv f.2 T.size⟩);refine U8 ?_;refine dz (i:=0) rfl rfl rfl rfl rfl (λ_ h=>h.2) hw2 h0 TV (λu q0 a=>?_);obtain⟨rfl,-⟩:=a.str;rw[d 0 h0];clear a;refine U_ ?_;refine VX rfl rfl rfl (λw' _=>F2 w' TK TK) (U_ ?_);refine VD (λl x=>?_);have x:=T.trans x;refine UQ ?_;apply ld rfl<;>intro h
   .have hW:ws.getD 0 []=M3 k:=S3.1 h;clear h;have hk:Al (ws.getD 0 [])=k:=by rw[hW];exact(M4 TK TK).1
    rw[hk,Tm TK];have hw3:=J.mono (F':=λb=>b=w.heap.size/\b<l.heap.size) (λb f=>x.block b f.2) (λb f=>⟨f.1,Rv f.2 x.size⟩);have I:=e1.trans x;obtain⟨fo0,fc0,hvf⟩:=h1.ofl.val;subst hvf;have h3:=h1.ext x;refine Ut ?_;cases t:(((ws.map LK).length:Int) != 2)with
    |true=>
     have t:ws.length≠2:=by simp at t;omega
     rw[Tm (λe=>t e.1)];refine U0 ?_;exact be ⟨rfl,I⟩
    |false=>
    have t:ws.length=2:=by simp at t;omega
    have K:1<(ws.map LK).length:=by omega
    refine U9 ?_;refine fd (i:=1) rfl rfl rfl rfl rfl hw3 K TV (λu q1 a=>?_);obtain⟨rfl,-⟩:=a.str;rw[d 1 K];clear a;refine eK (df l _) ?_;rintro _ o ⟨rfl,e4⟩;have hw4:=hw3.mono (F':=λb=>b=w.heap.size/\b<o.heap.size) (λb f=>e4.block b f.2) (λb f=>⟨f.1,Rv f.2 e4.size⟩);have h4:=h3.ext e4;have X:=I.trans e4;have C:B8 (LK (ws.getD 1 []))=B9 (ws.getD 1 []):=rfl;rw[C];cases hn1:B9 (ws.getD 1 [])with
    |false=>
     rw[Tm (λe=>by cases e.2.1)];refine U0 ?_;exact be ⟨rfl,X⟩
    |true=>
    have hb4':=h4.blk;refine UE ?_;cases E:decide ((fs.length:Int)>0)with
    |true=>
     rw[Tm (λe=>by rw[e.2.2]at E;exact absurd E TN)];refine U0 ?_;exact be ⟨rfl,X⟩
    |false=>
    have E:fs=[]:=P1.1 (by have:=Tt E;omega);rw[Tn ⟨t,rfl,E⟩];clear hb4';have P:=mm o;have Q:=h4.ext P;have G:=h4.dis;have H:=h4.blk.lt;obtain⟨no0,nc0,hvn⟩:=h1.own.val;subst hvn;have U:∀g,(Value.slice no0 ns.length nc0).ownBlock=some g->g<w.heap.size:=λg hg=>(h.own.lt g hg).2.1;have hKs:∀u,(λz:World=>∀c,c<o.heap.size->(Value.slice no0 ns.length nc0).ownBlock≠some c->z.heap[c]?=(drew o).heap[c]?) u->u.heap[b]?=(drew o).heap[b]?:=λu a=>a _ H G.1.1;have O:∀u,(λz:World=>∀c,c<o.heap.size->(Value.slice no0 ns.length nc0).ownBlock≠some c->z.heap[c]?=(drew o).heap[c]?) u->∀c,(c=w.heap.size/\c<o.heap.size)->u.heap[c]?=(drew o).heap[c]?:=λu a c n=>a c n.2 (λe=>by have:=U _ e;omega);have N:=Q.blk;have L:=hw4.mono (w':=drew o) (F':=λc=>c=w.heap.size/\c<o.heap.size) (λc n=>P.block c n.2) (λc n=>n);refine UW ?_;refine aF (λz:World=>∀c,c<o.heap.size->(Value.slice no0 ns.length nc0).ownBlock≠some c->z.heap[c]?=(drew o).heap[c]?) [Wr 0,Wr 1,Wr 2,Wr 3,Wr 4,Wr 5,Wr 6,Wr 7,Wr 8,Wr 9,Wr 10,Ws 11,Ws 12,Ws 13,Ws 14,Ws 15] 16 mixed TL (λ_ _ _=>rfl) (Vq ?_);refine cb (k:=1) O rfl rfl rfl rfl rfl rfl rfl L K TV (λu r1 a=>?_);obtain⟨rfl,y⟩:=a.str;rw[d 1 K]at y⊢;refine Vp ?_;refine bW (α:=cK) (F:=dh) (bytes:=24) (yv:=((LK (ws.getD 1 []),(k:Int)):cK)) rfl rfl rfl rfl TV rfl rfl TV Q.own (Gg _ _ _ _ y)
     (by have:=h.ge;have:=P.size;have:b<o.heap.size:=H;omega) TY TN TQ TK
     (λz hz c n m=>hz.block c n (λe=>m e.symm)) (λvn2 w5 q3 ho5 p hnb5=>?_)
    have M:=N.kept p (λe=>G.1.1 e.symm);have W:(λz:World=>∀c,c<o.heap.size->(Value.slice no0 ns.length nc0).ownBlock≠some c->z.heap[c]?=(drew o).heap[c]?) w5:=λc n m=>p.block c n (λe=>m e.symm);obtain⟨fo,fcap,hv5⟩:=ho5.val;subst hv5;refine cy rfl (fQ rfl rfl rfl (p0 (a8 W (cy rfl (fj rfl rfl rfl (p0 (a8 W (cy rfl (fj rfl rfl rfl (p0 (a8 W (VK (bu rfl (f7 M (λw6 hb6 hg6=>p0 (bx ?_))))))))))))))));have r:B<=w.heap.size:=Ro (Ru h.ge h.blk.lt);have V:=(X.trans P).mono r;have hX6:=(V.grown p (Rr r V.size) (λk e=>(Q.own.lt k e).1)).grown hg6 (Rr (Rr r V.size) p.size) (λk e=>by cases e;exact h.ge);refine Ud ?_;exact be ⟨rfl,hX6,_,_,Q.pushN ho5 p hb6 hg6 M⟩
   .have hW:¬ws.getD 0 []=M3 k:=λe=>by rw[e]at h;exact absurd h (by simp[LK])
    clear h;refine US ?_;refine m5 (k+1) TJ ⟨by omega,by omega,?_,x⟩ TK;intro j hj1 hj2;by_cases e:j=k
    .subst e;exact hW
    .exact hno j hj1 TK
  .obtain rfl:k=8:=by simp at h;omega
   rw[Am hno,Tn rfl];refine UF ?_;exact be ⟨rfl,e1.trans T⟩
def GI{u s:Nat}(h:z.results=#[.cell a t,.tmp u,.tmp s])(tmps:Array Value)(P:Program)(w:World){p:Addr}(b:tmps.getD a undef=.pointer (some p))(c:(loadVar t p).run P w=.ok v w):
  (results z tmps).run P w=.ok (.tuple ⟨[v,tmps.getD u undef,tmps.getD s undef]⟩) w:=by
 simp only[Ny]at b⊢;simp[results,h,b,asAddr,c]
def bp{n:Nat}{σ:Sg}{b u s:Nat}{e:TypeId}{k:Nat}{x y:Value}(A:z.results=#[.cell a t,.tmp u,.tmp s])(D:fnd σ a=some (Uc b))(o:fnd σ u=some x)(q:fnd σ s=some y)[B:IsC P t k true](C:Blk w b e r)(p:AN r=k)(h:c (.tuple ⟨[.agg r.toArray,x,y]⟩) w):
  EX (bodyPost P z λe w'=>∃v,e=.returned v/\c v w') .ret n σ w:=by
 unfold EX;intro ac f;refine S7 (GI A _ _ _ (f.slot a _ D) (v:=.agg r.toArray) ?_) f.defers ⟨_,by rw[f.slot u x o,f.slot s y q],h⟩;rw[AO]at p;have l:=Tx (P:=P) w ⟨b,0,none⟩ r (λj u o=>by rw[SW,RT];exact C.cell o);obtain⟨i,dd,h1,h2,h3,h4⟩:=B.ok;have m:(isAgg t).run P w=.ok true w:=by unfold isAgg;rw[Sb,TA h3 w,<-h4];cases dd<;>rfl
 rw[p]at l;simp[loadVar,m,sizeOf,typeInfo,h1,h2,l]
section
variable {P:Program}{Q:Exit->Act->World->Prop}{n:Nat}{σ:Sg}{w:World}{L rest:List Oper}{d:Nat}{op:Op}{ty:TypeId}{pos:String}{af:Array Edge}{g:Option (Nat×Bool)}{t:TypeId}{x:Operand}
theorem fA{s:ar}(b:gd L σ ⟨some d,.call ⟨.builtin .len,#[x],#[t]⟩,ty,pos,af,g⟩=some true)(hd:ble (d+1) n=true)
  (a:ev σ x=some (tV s)) [c:IsStr P t] (h:WL P L Q rest n ((d,Ub (s.length:Int))::σ) w):WL P L Q (⟨some d,.call ⟨.builtin .len,#[x],#[t]⟩,ty,pos,af,g⟩::rest) n σ w:=
 fC b hd a (by rw[LO];exact h)
end
def CE(w:World)(m:cK)(b:Nat)(nm:ByteArray)(a:Blk w b 9 [.string nm]):
  Rt Vy 153 [.agg [.string m.1,Ub m.2].toArray,Uc b].toArray w λv w'=>v=.bool (B7 m.1 nm)/\Ext w w':=by
 refine dS func153 ntmps153 rfl rfl ?_;refine UZ ?_;refine eH λf e c=>?_
 have a:=a.ext c;refine U2 ?_;exact be ⟨rfl,c⟩
def CK(w:World){b:Nat}{ns:List cK}{fs:List bR}{pf:List cJ}{vp vf:Value}(h:PRd w B b ns fs pf A vp vf)(nm:ByteArray):
  Rt Vy 85 [Uc b,.string nm].toArray w λv w'=>v=Ub (CG ns nm)/\Ext w w':=by
 refine dS func85 ntmps85 rfl rfl (UZ ?_);refine eH λf a e=>?_;have h1:=h.ext e;have o:=h1.blk;obtain⟨ao,cap,m,l⟩:=h1.own.oldN.sl;subst m;refine U3 ?_;refine eK (yQ f (λn:cK=>B7 n.1 nm) l (λc j i hi u k=>by obtain rfl:=k.node;exact VE (cs:=[_]) (CE c _ _ nm (a.ext j)))) ?_;rintro _ c ⟨rfl,p⟩;refine Uf ?_;exact be ⟨rfl,e.trans p⟩
def AU{ns:List cK}{fs:List bR}{l:ar}{ln:Int}{x:List cK×List bR}(h:AT ns fs l ln=some x):x.1.length+x.2.length=ns.length+fs.length+1:=by
 unfold AT at h;split at h
 .split at h
  .injection h with h;rw[<-h];simp;omega
  .cases h
 .split at h
  .cases h
  .split at h
   .injection h with h;rw[<-h];simp;omega
   .cases h
def PG(w:World)(v:Value)(p:cM):Prop:=∃so sc fo fc,v=FC so sc fo fc p.1.length p.2.length/\Sl w (dk w) so sc p.1/\Sl w (dk w) fo fc p.2
def PG.zero(w:World):PG w (FC none 0 none 0 0 0) ([],[]):=by have h1:Sl w (dk w) none 0 ([]:List cK):=⟨Rq _,by decide,TV,λi h=>by cases h⟩;have h2:Sl w (dk w) none 0 ([]:List cJ):=⟨Rq _,by decide,TV,λi h=>by cases h⟩;exact⟨none,0,none,0,rfl,h1,h2⟩
def Wi:=@PG.zero
def Rd.flT{x:bR}(h:Rd w F v x):v=.agg [.string x.1,.string x.2.1,Ub x.2.2].toArray:=by obtain⟨c1,a,rfl,h1,k1⟩:=h.pr;obtain⟨c2,c3,rfl,h2,h3⟩:=Gr k1;rw[h1.1,h2.1,Gl h3];rfl
def r8{ns:List cK}{f:bR}{r:List bR}{acc:List cJ}:r5 ns (f::r) acc=if CG ns f.1<0\/CG ns f.2.1<0 then(none,f.2.2)else r5 ns r (acc++[(CG ns f.1,CG ns f.2.1)]):=by rw[r5]
noncomputable def q_:Option (List cK×List bR)×Int->cM×Int×Int
 |(none,ln)=>(([],[]),ln,3)
 |(some x,_)=>match r5 x.1 x.2 []with
  |(none,ln)=>(([],[]),ln,4)
  |(some fl,_)=>if kU (x.1,fl)≠0 then(([],[]),0,kU (x.1,fl))else((x.1,fl),0,0)
def Es(s:ar):Er s=if s.length>4096 then(([],[]),0,2)else q_ (Gw s.length s 1 [] []):=by
 unfold Er;split
 .rfl
 .split<;>(rename_i h;rw[h];rfl)
theorem Ff(w0:World)(hM:MaxH w0){s:ar}:
  Rt Vy 45 [tV s].toArray w0 λv w'=>∃x,v=.tuple ⟨[x,Ub (Er s).2.1,Ub (Er s).2.2]⟩∧PG w' x (Er s).1∧Ext w0 w':=by
 refine dR Tryz.func45 Tryz.ntmps45 rfl rfl ?_;rw[Es];refine UZ ?_;refine eC (λY l e1=>?_);refine UR ?_;refine fA rfl rfl rfl ?_;refine Ug ?_;apply CW.cond rfl<;>intro h
 .have h:s.length>4096:=by have:(s.length:Int)>4096:=by simpa using h
                           omega
  rw[Tn h];refine UZ ?_;refine WL.build (parts:=[]) rfl rfl rfl rfl ?_;skip;refine f7 l (λw2 hb22 hg2=>?_);refine UX ?_;exact bp rfl rfl rfl rfl hb22 rfl ⟨_,rfl,PG.zero _,e1.grown hg2 e1.size TX⟩
 have hs:s.length≤4096:=by have:¬(s.length:Int)>4096:=by simpa using h
                           omega
 rw[Tm TK];clear h;have l2:=l.lt;refine Uo ?_;refine WL.build (parts:=[]) rfl rfl rfl rfl ?_;refine eH λw2 hb5 e2=>?_
 have hP0:PRd w2 Y.heap.size Y.heap.size [] [] [] (.slice none 0 0) (.slice none 0 0) (.slice none 0 0):=⟨hb5,Rq _,Own.nil,Own.nil,Own.nil⟩;have hM2:=(hM.ext e1).ext e2;generalize hb5e:Y.heap.size=K at*
 have O:∀w,Below K Y w→Blk w w0.heap.size 25 [.slice none 0 0,.slice none 0 0]∧Ext w0 w∧MaxH w:=λw N=>by
  have hX':Ext Y w:=by unfold Ext;rw[hb5e];exact N
  exact⟨l.ext hX',e1.trans hX',(hM.ext e1).ext hX'⟩
 have e2:Below K Y w2:=by have:=e2;unfold Ext at this;rwa[hb5e]at this
 have fin:∀(ln:Int),Gw s.length s 1 [] []=(none,ln)→q_ (Gw s.length s 1 [] [])=(([],[]),ln,3):=λln h=>by rw[h];rfl
 refine Ux ?_;refine CW.loop (S:=ar×Int×List cK×List bR×Value×Value) (λt=>[(0,tV t.1),(2,Uc w0.heap.size),(5,Uc K),(6,Ub t.2.1)])
  (λt w=>(∃f,t.1.length≤f∧Gw s.length s 1 [] []=Gw f t.1 t.2.1 t.2.2.1 t.2.2.2.1)∧PRd w K K t.2.2.1 t.2.2.2.1 [] t.2.2.2.2.1 (.slice none 0 0) t.2.2.2.2.2∧Below K Y w∧t.2.2.1.length+t.2.2.2.1.length+t.1.length≤4096∧0≤t.2.1∧t.2.1+t.1.length≤5000)
  (λt=>t.1.length) (s,1,[],[],.slice none 0 0,.slice none 0 0) TJ ⟨⟨s.length,Rq _,rfl⟩,hP0,e2,by simpa using hs,by dsimp only;omega,by dsimp only;omega⟩ ?_
 rintro⟨u,ln,ns,fs,vn,vf⟩ w ⟨⟨f,hf,B⟩,hP,N,hl,hl0,hl1⟩
 dsimp only at hf B hP N hl hl0 hl1⊢
 obtain⟨p,A,W⟩:=O w N;refine UR ?_;apply CW.cond rfl<;>intro h
 .have J:u≠[]:=λe=>by rw[e]at h;exact absurd h TN
  clear h;have hu0:0<u.length:=P6.2 J;obtain⟨f,rfl⟩:∃f',f=f'+1:=⟨f -1,by omega⟩;rw[Gw,Tm J]at B
  refine UB ?_;refine eK (mP w u TK W) ?_;rintro _ w3 ⟨rfl,D⟩
  have I:=hP.ext D;have hb3:=p.ext D;unfold mO;cases hc:mK 10 u with
  |none=>
   rw[hc]at B
   dsimp only at B⊢
   rw[fin ln B];refine Us ?_;refine WL.build (parts:=[]) rfl rfl rfl rfl ?_;refine U9 ?_;refine f7 hb3 (λw4 E o=>?_);refine UX ?_;exact bp rfl rfl rfl rfl E rfl ⟨_,rfl,PG.zero _,(A.trans D).grown o (A.trans D).size TX⟩
  |some x=>
  rw[hc]at B
  dsimp only at B⊢
  have hcl:x.1.length+1+x.2.length=u.length:=by
   have:=S9 List.length (mN (a:=x.1) (r:=x.2) hc);simp at this;omega
  refine UR ?_;refine eK (AX w3 (s:=x.1) (ln:=ln) (W.ext D) I TK TK) ?_;rintro v w4 hL
  cases hy:AT ns fs x.1 ln with
  |none=>
   rw[hy]at B hL
   dsimp only at B
   obtain⟨rfl,X⟩:=hL;have E:=hb3.ext X;rw[fin ln B];refine UY ?_;refine WL.build (parts:=[]) rfl rfl rfl rfl ?_;refine U9 ?_;refine f7 E (λT hb5 hg5=>?_);refine UX ?_;exact bp rfl rfl rfl rfl hb5 rfl ⟨_,rfl,PG.zero _,((A.trans D).trans X).grown hg5 ((A.trans D).trans X).size TX⟩
  |some y=>
   have hyl:=AU hy;rw[hy]at B hL
   dsimp only at B
   obtain⟨rfl,X,vn',vf',V⟩:=hL;refine US ?_;have C:K≤w.heap.size:=by have:=hP.blk.lt;omega
   exact EX.back (x.2,ln+1,y.1,y.2,vn',vf') TJ ⟨⟨f,by dsimp only;omega,B⟩,V,(N.trans (D.mono C)).trans X,by dsimp only;omega,by dsimp only;omega,by dsimp only;omega⟩ TP
 have J:u=[]:=by
  cases u with
  |nil=>rfl
  |cons c u=>exact absurd h (by simp[LK])
 subst J;have B:Gw s.length s 1 [] []=(some (ns,fs),ln):=by rw[B];cases f<;>simp[Gw]
 rw[B];clear h hf B fin hM2 hP0 p A W;obtain⟨fo0,fc0,hvf⟩:=hP.ofl.val;subst hvf;have G:=hP.blk;refine UU ?_;have hfin:q_ (some (ns,fs),ln)=match r5 ns fs []with
   |(none,ln)=>(([],[]),ln,4)
   |(some fl,_)=>if kU (ns,fl)≠0 then(([],[]),0,kU (ns,fl))else((ns,fl),0,0):=rfl
 rw[hfin];refine CW.loop (S:=Nat×Value×List cJ) (λt=>[(2,Uc w0.heap.size),(5,Uc K),(46,.slice fo0 fs.length fc0),(47,Ub fs.length),(48,Ub t.1)])
  (λt w=>t.1≤fs.length∧r5 ns fs []=r5 ns (fs.drop t.1) t.2.2∧t.2.2.length=t.1∧PRd w K K ns fs t.2.2 vn t.2.1 (.slice fo0 fs.length fc0)∧Below K Y w)
  (λt=>fs.length -t.1) (0,.slice none 0 0,[]) TJ ⟨RU _,by rw[O1],rfl,hP,N⟩ ?_
 clear hP N G;rintro⟨k,vp,pf⟩ w ⟨hk,j,hpl,hP,N⟩
 dsimp only at hk j hpl hP N⊢
 obtain⟨p,A,W⟩:=O w N;have C:K≤w.heap.size:=by have:=hP.blk.lt;omega
 refine UR ?_;apply CW.cond rfl<;>intro h
 .have hi:k<fs.length:=by simpa using h
  clear h;rw[OX hi]at j
  rw[r8]at j
  generalize hff:fs[k]=ff at*
  refine UC ?_;refine fh (i:=k) rfl rfl rfl rfl rfl hP.ofl hi TV (λu q J=>?_);rw[hff]at J
  rw[J.flT];clear J;skip;refine eC (λw3 b D=>?_);skip;refine f7 b (λw4 b o=>?_);have X:Ext w w4:=D.grown o D.size TX;have V:=hP.ext X;have hb2d:=p.ext X;clear D o;refine U6 ?_;refine QL.call rfl rfl rfl (λw' hw'=>CK w' (V.ext hw') ff.1) ?_;refine Vi ?_;refine QL.call rfl rfl rfl (λw' hw'=>CK w' (V.ext hw') ff.2.1) ?_;refine U_ ?_;refine QL.nil (λT R=>?_);have b:=b.ext R;have R:=X.trans R;have H:=hP.ext R;have l:=p.ext R;generalize CG ns ff.1=a at*
  generalize CG ns ff.2.1=c at*
  refine UB ?_;cases ha:decide (a<0)with
  |true=>
   rw[Tn (.inl (Tu ha))]at j
   refine Us ?_;have hD:=Ext.drew T;have l:=l.ext hD;have b:=b.ext hD;have M:=(A.trans R).trans hD;have l11:w0.heap.size<w.heap.size:=Rv l2 C;have hKs:∀u,(λz:World=>z.heap[w.heap.size]?=(drew T).heap[w.heap.size]?) u→u.heap[w.heap.size]?=(drew T).heap[w.heap.size]?:=λu J=>J
   rw[j];skip;refine aG (λz:World=>z.heap[w.heap.size]?=(drew T).heap[w.heap.size]?) [(0,true),(1,true),(2,true),(3,false),(4,true),(5,true)] mixed TL rfl ?_;refine Vn ?_;refine cy rfl (f7 l (λw6 hb6 m=>?_));refine WL.nil (a8 (m.block _ b.lt T3) ?_);refine Vr ?_;refine Uk ?_;exact bp rfl rfl rfl rfl hb6 rfl ⟨_,rfl,PG.zero _,M.grown m M.size TX⟩
  |false=>
  refine Ug ?_;cases hc:decide (c<0)with
  |true=>
   rw[Tn (.inr (Tu hc))]at j
   refine U4 ?_;have hD:=Ext.drew T;have l:=l.ext hD;have b:=b.ext hD;have M:=(A.trans R).trans hD;have l11:w0.heap.size<w.heap.size:=Rv l2 C;have hKs:∀u,(λz:World=>z.heap[w.heap.size]?=(drew T).heap[w.heap.size]?) u→u.heap[w.heap.size]?=(drew T).heap[w.heap.size]?:=λu J=>J
   rw[j];skip;refine aG (λz:World=>z.heap[w.heap.size]?=(drew T).heap[w.heap.size]?) [(0,true),(1,true),(2,true),(3,false),(4,true),(5,true)] mixed TL rfl ?_;refine Vn ?_;refine cy rfl (f7 l (λw6 hb6 m=>?_));refine WL.nil (a8 (m.block _ b.lt T3) ?_);refine Vr ?_;refine Uk ?_;exact bp rfl rfl rfl rfl hb6 rfl ⟨_,rfl,PG.zero _,M.grown m M.size TX⟩
  |false=>
  rw[Tm (λh=>h.elim (Tt ha) (Tt hc))]at j
  have G:=H.blk;have hdi:=H.dis;refine UM ?_;refine WL.build (parts:=[(0,.tmp 75),(1,.tmp 76)]) rfl rfl rfl rfl ?_;refine eF (α:=cJ) (F:=dh) (yv:=((a,c):cJ)) rfl rfl TV rfl rfl TV H.opf (Rd.mkPr (c1:=[Ub a]) (c2:=[Ub c]) rfl rfl) (Rr C R.size) TY TN (by unfold maxLen;have:=H.ofl.oldN.sl;omega) TK (λvp2 w6 q6 ho6 m hnb=>?_);have Z:=G.kept m (λe=>hdi.1.2.1 e.symm);obtain⟨po,pc,hv6⟩:=ho6.val;subst hv6;have hX6:=((N.trans (R.mono C)).grown m (Rr C R.size) (λk e=>(H.opf.lt k e).1));refine Vg ?_;refine f7 Z (λw7 hb7 hg7=>?_);refine Ui ?_;exact EX.back (k+1,_,pf++[(a,c)]) TJ ⟨hi,j,by simp[hpl],H.pushP ho6 m hb7 hg7 Z,hX6.grown hg7 (Rr (Rr C R.size) m.size) (λk e=>by cases e;exact Rq _)⟩ TP
 .obtain rfl:k=fs.length:=by simp at h;omega
  rw[OZ]at j
  have j:r5 ns fs []=(some pf,0):=by rw[j,r5]
  rw[j];clear h hk;obtain⟨no,nc,hvn⟩:=hP.own.val;obtain⟨po,pc,hvp⟩:=hP.opf.val;subst hvn;subst hvp;obtain⟨xo,xc,he,hsn⟩:=hP.own.oldN.sl;obtain⟨rfl,_,rfl⟩:=SV he;obtain⟨yo,yc,he,hsp⟩:=hP.opf.oldN.sl;obtain⟨rfl,_,rfl⟩:=SV he;have G:=hP.blk;refine U1 ?_;refine eK (aL w hsn hsp) ?_;rintro _ w3 ⟨rfl,D⟩
  have G:=G.ext D;have l:=p.ext D;have U:=A.trans D;refine UR ?_;apply CW.cond rfl<;>intro h
  .have h:kU (ns,pf)≠0:=by simpa using h
   dsimp only;rw[Tn h];refine UZ ?_;refine WL.build (parts:=[]) rfl rfl rfl rfl ?_;refine U9 ?_;refine f7 l (λw4 E o=>?_);refine UX ?_;exact bp rfl rfl rfl rfl E rfl ⟨_,rfl,PG.zero _,U.grown o U.size TX⟩
  .have h:kU (ns,pf)=0:=by simpa using h
   dsimp only;rw[Tm (by simpa using h)];refine U3 ?_;refine f7 l (λw4 E o=>?_);have I:=hP.ext D;have hn4:=I.own.keptN o (λg k e=>by have:=(I.own.lt g k).1;have:=R4 e;omega);have hp4:=I.opf.keptN o (λg k e=>by have:=(I.opf.lt g k).1;have:=R4 e;omega);obtain⟨xo,xc,he,hsn⟩:=hn4.oldN.sl;obtain⟨rfl,_,rfl⟩:=SV he;obtain⟨yo,yc,he,hsp⟩:=hp4.oldN.sl;obtain⟨rfl,_,rfl⟩:=SV he;refine Uf ?_;exact bp rfl rfl rfl rfl E rfl ⟨_,rfl,⟨_,_,_,_,rfl,hsn,hsp⟩,U.grown o U.size TX⟩
def Sl.notC[Rep α]{ao:Option Addr}{cap b:Nat}{xs:List α}{e:TypeId}(h:Sl w F ao cap xs)(o:Blk w b e r)
  (n:∀a (x:α),Rep.rd w F a x->(∀F',Rep.rd w F' a x)/\∃v,a[0]?=some v/\∀k:Nat,r[k]?≠some v):Sl w (λc=>F c/\c≠b) ao cap xs:=by
 refine⟨h.le,h.mx,h.nil,λi hi=>?_⟩;obtain⟨c,off,p,hf,a,d,j⟩:=h.el i hi;obtain⟨f,v,g,l⟩:=n a _ j;refine⟨c,off,p,⟨hf,λm=>?_⟩,a,d,f _⟩;have h1:=d 0 _ g;rw[m,S8 w b _ r.toArray e (0,0) o]at h1;exact l _ (by simpa using h1)
instance:IsZC Vy 37 [.string ⟨#[]⟩,Ub 0,Ub 0,Ub 0,Ub 0,Ub 0,Ub 0,Ub 0,Ub 0,Ub 0,Ub 0,Ub 0,Ub 0,Ub 0,Ub 0,.slice none 0 0,Ub 0,Ub 0,.slice none 0 0]:=
 v2 (z:=.agg #[.string ⟨#[]⟩,Ub 0,Ub 0,Ub 0,Ub 0,Ub 0,Ub 0,Ub 0,Ub 0,Ub 0,Ub 0,Ub 0,Ub 0,Ub 0,Ub 0,.slice none 0 0,Ub 0,Ub 0,.slice none 0 0]) TL rfl
instance:IsBd Vy 37 [(0,1),(1,1),(2,7),(9,4),(13,3),(16,3)]:=VI TL
instance:IsF Vy 19:=Vz func19
instance:IsF Vy 20:=Vz func20
instance:IsF Vy 6:=Vz func6
def LJ(w0:World)(D:MaxH w0):Rt Vy 19 [].toArray w0 λv w'=>(∃so sc fo fc,v=FC so sc fo fc 5 5/\Sl w' (dk w') so sc twP.1/\Sl w' (dk w') fo fc twP.2)/\Ext w0 w':=by refine dQ func19 ntmps19 rfl (UZ ?_);refine eC (λC a y=>?_);refine UR ?_;obtain⟨T,G⟩:∃T,T=Ly:=⟨_,rfl⟩;refine WL.call (vs:=[tV Ly]) rfl rfl rfl (Ff C (D.ext y) (s:=Ly)) ?_;rintro _ B ⟨x,rfl,t,w⟩;rw[LE]at t⊢;obtain⟨so2,sc2,fo2,fc2,rfl,f,g⟩:=t;dsimp only at f g⊢;have q:=y.trans w;have a:=a.ext w;refine U9 ?_;refine eC (λF i u=>?_);refine f7 i (λA i n=>?_);have l:Ext B A:=u.grown n u.size TX;have a:=a.ext l;have j:=q.trans l;have m:=(f.up l).notC a (λE x h=>by obtain⟨c1,c2,rfl,h1,h2⟩:=Gr h;obtain⟨rfl,h1⟩:=h1;exact⟨λF'=>⟨_,_,rfl,⟨rfl,h1⟩,h2⟩,_,rfl,λk=>by rcases k with _|_|k<;>simp⟩);have o:=(g.up l).notC a (λE x h=>by obtain⟨c1,c2,rfl,h1,h2⟩:=Gr h;have r:c1=[Ub x.1]:=h1;subst r;exact⟨λF'=>⟨_,_,rfl,h1,h2⟩,_,rfl,λk=>by rcases k with _|_|k<;>simp⟩);refine UD ?_;refine f7 a (λz a c=>?_);have p:Ext w0 z:=j.grown c j.size TX;refine Uh ?_;exact e0 a ⟨⟨so2,sc2,fo2,fc2,rfl,m.mono (λb d=>c.block b d.1 (λe=>d.2 (R4 e))) (λb d=>Rv d.1 c.size),o.mono (λb d=>c.block b d.1 (λe=>d.2 (R4 e))) (λb d=>Rv d.1 c.size)⟩,p⟩
def EI(w0:World)(k c p s q r:Int):Rt Vy 20 [Ub k,Ub c,Ub p,Ub s,Ub q,Ub r].toArray w0 λv w'=>v=Ha (⟨#[114]⟩,1,(k,c,p,s,q,r,0),(0,0,0,0),.mk 0 0 [],.mk 0 0 []) none 0 none 0/\Ext w0 w':=by refine Wb func20 rfl ntmps20 rfl ?_;change CW _ _ _ _ [(0,Ub k),(1,Ub c),(2,Ub p),(3,Ub s),(4,Ub q),(5,Ub r)] _;refine UZ ?_;refine eC (λg e d=>?_);refine UR ?_;refine r4 rfl rfl rfl rfl (r4 rfl rfl rfl rfl (f7 e (λf b a=>?_)));refine Uh ?_;exact e0 b ⟨rfl,d.grown a d.size TX⟩
def H0(w0:World)(x:MaxH w0):Rt Vy 6 [].toArray w0 λv w'=>v=.bool true/\Ext w0 w':=by
 refine dQ func6 ntmps6 rfl ?_;refine UR ?_;refine eK (LJ w0 x) ?_;rintro _ G ⟨⟨p1,I,p2,H,rfl,g1,g2⟩,A⟩
 skip;refine eK (EI G 5 1 3 1 0 0) ?_;rintro _ F ⟨rfl,m⟩
 have b:=A.trans m;skip;refine eK (zG F (ns:=twP.1) (fl:=twP.2) (r:=Fm) (g1.up m) (g2.up m) (v1 _ _) (v1 _ _) 1 20) ?_;rintro _ E ⟨⟨L,s,l,e,ao,ac,P,bc,rfl,f,c,j⟩,z⟩
 obtain⟨rfl,rfl⟩:=Ft j;have b:=b.trans z;clear A m z g1 g2 j f c;refine U9 ?_;refine eC (λN a u=>?_);refine f7 a (λw a h=>?_);have y:Ext E w:=u.grown h u.size TX;have b:=b.trans y;clear u y h;refine UR ?_;refine eK (LJ w (x.ext b)) ?_;rintro _ D ⟨⟨p1,I,p2,H,rfl,g1,g2⟩,t⟩
 have a:=a.ext t;have b:=b.trans t;skip;refine eK (EI D 3 1 3 0 0 0) ?_;rintro _ C ⟨rfl,k⟩
 have a:=a.ext k;have b:=b.trans k;skip;refine eK (zG C (ns:=twP.1) (fl:=twP.2) (r:=pU) (g1.up k) (g2.up k) (v1 _ _) (v1 _ _) 1 20) ?_;rintro _ B ⟨⟨L,O,l',e,ao',ac',bo',bc',rfl,f,c,j⟩,q⟩
 obtain⟨rfl,rfl,K⟩:=pY j;have a:=a.ext q;have b:=b.trans q;have J:=c.len63;clear t k q g1 g2 j f c;refine U9 ?_;refine eC (λM i p=>?_);refine f7 i (λn i d=>?_);have g:Ext B n:=p.grown d p.size TX;have a:=a.ext g;have b:=b.trans g;have o:decide ((l'.length:Int)>0)=true:=Tc TK;clear p g d;refine UU ?_;rw[o];skip;exact be ⟨rfl,b⟩
def ri(F:Nat)(x:Int):Int:=(F:Int) -1 -x
def GS{l:List α}{i:Nat}{d:α}(h:i<l.length):l.reverse.getD i d=l.getD (l.length -1 -i) d:=by rw[Pl,Pl,Px h]
def F4(F:Nat):range F=((range F).map λi=>F -1 -i).reverse:=by refine O3 TO λi h1 h2=>?_;simp at h1;simp only[PM,PO,PK,P4,P7];omega
def Ie(P Q:Nat->Bool)(F:Nat)(h:∀i,i<F->Q (F -1 -i)=P i):((range F).filter Q).map (λi:Nat=>(i:Int))=((((range F).filter P).map λi:Nat=>(i:Int)).map (ri F)).reverse:=by
 have a:(range F).filter Q=(((range F).filter P).map λi=>F -1 -i).reverse:=by rw[F4 F,Pa,List.filter_map,<-F4 F];congr 2;exact O6 λi hi=>h i (QA.1 hi)
 rw[a,Qj,Qh,Qh];congr 1;refine Qf λi hi=>?_;have:=QA.1 (Qs.1 hi).1;show((F -1 -i:Nat):Int)=ri F (i:Int);unfold ri;omega
def zb{fl:List cJ}{n:Int}:yV fl.reverse n=((yV fl n).map (ri fl.length)).reverse:=by show yX fl.reverse n fl.reverse.length=((yX fl n fl.length).map (ri fl.length)).reverse;unfold yX;rw[P9];exact Ie (λi=>(fl.getD i (0,0)).2==n) (λi=>(fl.reverse.getD i (0,0)).2==n) _ λi hi=>by rw[GS TK];congr 3;omega
def D9{fl:List cJ}{n:Int}:D2 fl.reverse n=((D2 fl n).map (ri fl.length)).reverse:=by show D4 fl.reverse n fl.reverse.length=((D4 fl n fl.length).map (ri fl.length)).reverse;unfold D4;rw[P9];exact Ie (λi=>(fl.getD i (0,0)).1==n) (λi=>(fl.reverse.getD i (0,0)).1==n) _ λi hi=>by rw[GS TK];congr 3;omega
def GY{F:Nat}:ri F (ri F x)=x:=by unfold ri;omega
def BS{fl:List cJ}{n:Int}:x∈yV fl.reverse n↔ri fl.length x∈yV fl n:=by rw[zb,QB,Qv];exact⟨λ⟨y,a,e⟩=>by rw[<-e,GY];exact a,λh=>⟨_,h,GY⟩⟩
def BU{fl:List cJ}{n:Int}:x∈D2 fl.reverse n↔ri fl.length x∈D2 fl n:=by rw[D9,QB,Qv];exact⟨λ⟨y,a,e⟩=>by rw[<-e,GY];exact a,λh=>⟨_,h,GY⟩⟩
inductive Com(fl:List cJ)(but:Int)(flow:Nat):Nat->Prop
 |here:Com fl but flow flow
 |step {x i:Nat}:Com fl but flow x->(fl.getD x (0,0)).1≠but->i<fl.length->(fl.getD i (0,0)).2=(fl.getD x (0,0)).1->Com fl but flow i
structure StepI(fl:List cJ)(n:Int)(l:List Nat)(out:List Bool)(r:List Int)(out':List Bool)(r':List Int):Prop where
 len:out'.length=out.length
 on:∀i,out'.getD i false=true↔out.getD i false=true\/(i∈l/\(fl.getD i (0,0)).2=n)
 sub:∀x∈r,x∈r'
 new:∀x∈r',x∈r\/∃i∈l,x=(i:Int)/\(fl.getD i (0,0)).2=n
 todo:∀i,out'.getD i false=true->out.getD i false=true\/(i:Int)∈r'
 cnt:r'.length+qw out'=r.length+qw out
def lU{fl:List cJ}{n:Int}:∀(l:List Nat) (out:List Bool) (r:List Int),(∀i∈l,i<out.length)->StepI fl n l out r (l.foldl (lT fl n) (out,r)).1 (l.foldl (lT fl n) (out,r)).2
 |[],out,r,_=>⟨rfl,λi=>by simp,λ_ h=>h,λ_ h=>.inl h,λ_ h=>.inl h,rfl⟩
 |a::l,out,r,f=>by
  have k:a<out.length:=f a (Qq ..);simp only[Ph];by_cases c:(fl.getD a (0,0)).2=n/\out.getD a false=false
  .have e:lT fl n (out,r) a=(out.set a true,r++[(a:Int)]):=by unfold lT;rw[Tn c]
   rw[e];have b:=lU (fl:=fl) (n:=n) l (out.set a true) (r++[(a:Int)]) (λi hi=>by rw[P_];exact f i (Qp _ hi));generalize l.foldl (lT fl n) (out.set a true,r++[(a:Int)])=z at*;have j:∀i,(out.set a true).getD i false=true↔out.getD i false=true\/i=a:=λi=>by
    rw[Pl,Py];by_cases h:a=i
    .subst h;simp[k]
    .rw[Tm h,<-Pl];exact⟨.inl,λo=>o.resolve_right (λg=>h g.symm)⟩
   refine⟨by rw[b.len,P_],λi=>?_,λx d=>b.sub x (Qm _ d),λx d=>?_,λi hi=>?_,?_⟩
   .rw[b.on,j];constructor
    .rintro((h|h)|⟨h1,h2⟩)
     .exact .inl h
     .subst h;exact .inr ⟨Qq ..,c.1⟩
     .exact .inr ⟨Qp _ h1,h2⟩
    .rintro(h|⟨h1,h2⟩)
     .exact .inl (.inl h)
     .obtain h1|h1:=Qo.1 h1
      .exact .inl (.inr h1)
      .exact .inr ⟨h1,h2⟩
   .obtain h|⟨i,h1,h2⟩:=b.new x d
    .obtain h|h:=Ql.1 h
     .exact .inl h
     .exact .inr ⟨a,Qq ..,QC.1 h,c.1⟩
    .exact .inr ⟨i,Qp _ h1,h2⟩
   .obtain h|h:=b.todo i hi
    .rcases(j i).1 h with h|h
     .exact .inl h
     .subst h;exact .inr (b.sub _ (Qn _ (QC.2 rfl)))
    .exact .inr h
   .have:=b.cnt;have h1:=qz k c.2;rw[PX]at this;simp only[PY,P5]at this;omega
  .have e:lT fl n (out,r) a=(out,r):=by unfold lT;rw[Tm c]
   rw[e];have b:=lU (fl:=fl) (n:=n) l out r (λi hi=>f i (Qp _ hi));refine⟨b.len,λi=>?_,b.sub,λx d=>?_,b.todo,b.cnt⟩
   .rw[b.on];constructor
    .rintro(h|⟨h1,h2⟩)
     .exact .inl h
     .exact .inr ⟨Qp _ h1,h2⟩
    .rintro(h|⟨h1,h2⟩)
     .exact .inl h
     .obtain h1|h1:=Qo.1 h1
      .subst h1;refine .inl ?_;cases m:out.getD i false with
       |true=>rfl
       |false=>exact absurd ⟨h2,m⟩ c
      .exact .inr ⟨h1,h2⟩
   .obtain h|⟨i,h1,h2⟩:=b.new x d
    .exact .inl h
    .exact .inr ⟨i,Qp _ h1,h2⟩
structure ComI(fl:List cJ)(but:Int)(flow f:Nat)(out:List Bool)(todo:List Int):Prop where
 len:out.length=fl.length
 com:∀i,out.getD i false=true->Com fl but flow i
 start:out.getD flow false=true
 ok:∀x∈todo,∃i:Nat,x=(i:Int)/\i<fl.length/\out.getD i false=true
 ex:∀x,out.getD x false=true->(x:Int)∈todo\/(fl.getD x (0,0)).1=but\/∀i,i<fl.length->(fl.getD i (0,0)).2=(fl.getD x (0,0)).1->out.getD i false=true
 fuel:todo.length+qw out<=f
def lN{fl:List cJ}{but:Int}{flow:Nat}:∀(f:Nat) (out:List Bool) (todo:List Int),ComI fl but flow f out todo->ComI fl but flow 0 (lM fl but f out todo) []\/∀i,(lM fl but f out todo).getD i false=true↔Com fl but flow i:=by
 have fin:∀(f:Nat) (out:List Bool),ComI fl but flow f out []->∀i,out.getD i false=true↔Com fl but flow i:=λf out h i=>by
  refine⟨h.com i,λm=>?_⟩;induction m with
  |here=>exact h.start
  |@step x i h1 h2 h3 h4 d=>
   obtain c|c|c:=h.ex x d
   .cases c
   .exact absurd c h2
   .exact c i h3 h4
 intro f;induction f with
 |zero=>
  intro out todo h;have:todo=[]:=P1.1 (by have:=h.fuel;omega);subst this;exact .inr (fin 0 out h)
 |succ f d=>
  intro out todo h;cases todo with
  |nil=>rw[lQ];exact .inr (fin _ out h)
  |cons x r=>
   obtain⟨a,rfl,o,k⟩:=h.ok x (Qq ..);unfold lM;have hf:=h.fuel;rw[PY]at hf;rw[Oy];by_cases g:(fl.getD a (0,0)).1=but
   .rw[Tn g];refine d out r ⟨h.len,h.com,h.start,λy b=>h.ok y (Qp _ b),λy b=>?_,by omega⟩;obtain h1|h1:=h.ex y b
    .obtain h1|h1:=Qo.1 h1
     .have:y=a:=by omega
      subst this;exact .inr (.inl g)
     .exact .inl h1
    .exact .inr h1
   .rw[Tm g];have hS:=lU (fl:=fl) (n:=(fl.getD a (0,0)).1) (range fl.length) out r (λi hi=>by rw[h.len];exact QA.1 hi);generalize (range fl.length).foldl (lT fl (fl.getD a (0,0)).1) (out,r)=z at*;refine d z.1 z.2 ⟨by rw[hS.len,h.len],λi hi=>?_,(hS.on _).2 (.inl h.start),λy b=>?_,λy b=>?_,by have:=hS.cnt;omega⟩
    .rcases(hS.on i).1 hi with h1|⟨h1,h2⟩
     .exact h.com i h1
     .exact .step (h.com a k) g (QA.1 h1) h2
    .obtain h1|⟨i,h1,rfl,h2⟩:=hS.new y b
     .obtain⟨i,e,hi,l⟩:=h.ok y (Qp _ h1);exact⟨i,e,hi,(hS.on i).2 (.inl l)⟩
     .exact⟨i,rfl,QA.1 h1,(hS.on i).2 (.inr ⟨h1,h2⟩)⟩
    .obtain h1|h1:=hS.todo y b
     .obtain h2|h2|h2:=h.ex y h1
      .obtain h2|h2:=Qo.1 h2
       .have:y=a:=by omega
        subst this;exact .inr (.inr λi hi j=>(hS.on i).2 (.inr ⟨QA.2 hi,j⟩))
       .exact .inl (hS.sub _ h2)
      .exact .inr (.inl h2)
      .exact .inr (.inr λi hi j=>(hS.on i).2 (.inl (h2 i hi j)))
     .exact .inl h1
def lX{fl:List cJ}{but:Int}{flow:Nat}(hf:flow<fl.length)(i:Nat):(lR fl flow but).getD i false=true↔Com fl but flow i:=by
 have b:∀i,((replicate fl.length false).set flow true).getD i false=true↔i=flow:=λi=>by
  rw[Pl,Py];by_cases h:flow=i
  .subst h;simp[hf]
  .rw[Tm h,Pw];split<;>simp<;>omega
 have e:ComI fl but flow fl.length ((replicate fl.length false).set flow true) [(flow:Int)]:=by
  refine⟨by simp,λi hi=>?_,(b _).2 rfl,λx c=>⟨flow,QC.1 c,hf,(b _).2 rfl⟩,λx c=>?_,?_⟩
  .rw[(b i).1 hi];exact .here
  .rw[(b x).1 c];exact .inl (QC.2 rfl)
  .have:=qz (l:=replicate fl.length false) (k:=flow) (by simpa using hf) (by rw[Pl,Pw];simp[hf]);rw[qy]at this;simp only[PY,P5];omega
 obtain h|h:=lN _ _ _ e
 .have f:=h;refine⟨h.com i,λhi=>?_⟩;show(lM fl but fl.length _ _).getD i false=true;induction hi with
  |here=>exact h.start
  |@step x i h1 h2 h3 h4 d=>
   obtain a|a|a:=h.ex x d
   .cases a
   .exact absurd a h2
   .exact a i h3 h4
 .exact h i
def lL{fl:List cJ}{but:Int}{flow i:Nat}(hf:flow<fl.length)(h:Com fl but flow i):i<fl.length/\Com fl.reverse but (fl.length -1 -flow) (fl.length -1 -i):=by
 induction h with
 |here=>exact⟨hf,.here⟩
 |@step x i h1 h2 h3 h4 a=>
  refine⟨h3,.step a.2 ?_ (by rw[P9];omega) ?_⟩
  .rw[GS TK,show fl.length -1 -(fl.length -1 -x)=x by omega];exact h2
  .rw[GS TK,GS TK,show fl.length -1 -(fl.length -1 -x)=x by omega,show fl.length -1 -(fl.length -1 -i)=i by omega];exact h4
def lZ{fl:List cJ}{but:Int}{flow i:Nat}(hf:flow<fl.length)(hi:i<fl.length):(lR fl.reverse (fl.length -1 -flow) but).getD (fl.length -1 -i) false=(lR fl flow but).getD i false:=by rw[NU,lX (by rw[P9];omega),lX hf];refine⟨λh=>?_,λh=>(lL hf h).2⟩;have:=(lL (by rw[P9];omega) h).2;rw[QT,P9,show fl.length -1 -(fl.length -1 -flow)=flow by omega,show fl.length -1 -(fl.length -1 -i)=i by omega]at this;exact this
def GK:Nat->Int->Int
 |0,_=>0
 |o+1,n=>(n % 2)*2 ^ o+GK o (n / 2)
def GQ:∀(o:Nat) (n:Int),0<=GK o n/\GK o n<2 ^ o
 |0,n=>⟨On 0,by show(0:Int)<1;decide⟩
 |o+1,n=>by have a:=GQ o (n / 2);have b:=Fe o;unfold GK;rw[Ox];rcases Int.emod_two_eq n with h|h<;>rw[h]<;>omega
def GN:∀(o:Nat) (n:Int) (k:Nat),k<o->je (GK o n) k=je n (o -1 -k)
 |0,n,k,h=>by omega
 |o+1,n,k,h=>by
  have c:=GQ o (n / 2);have f:=Fe o;unfold GK je;by_cases d:k=o
  .subst d;rw[show k+1 -1 -k=0 by omega,Int.pow_zero,Ol,Int.add_comm,Oi _ _ TK,Ok c.1 c.2];omega
  .have b:=GN o (n / 2) k TK;unfold je at b;have e:(n % 2*2 ^ o+GK o (n / 2)) / 2 ^ k % 2=GK o (n / 2) / 2 ^ k % 2:=by
    have h2:(2:Int) ^ o=2 ^ k*2 ^ (o -k):=by rw[<-Ow];congr 1;omega
    have h3:(2:Int) ^ (o -k)=2*2 ^ (o -k -1):=by rw[show o -k=(o -k -1)+1 by omega,Ox,Or];rfl
    have a:(2:Int) ^ k≠0:=by have:=Fe k;omega
    rw[h2,show n % 2*(2 ^ k*2 ^ (o -k))=(n % 2*2 ^ (o -k))*2 ^ k by rw[Or (2 ^ k),<-Oq],Int.add_comm,Oi _ _ a,h3];have:n % 2*(2*2 ^ (o -k -1))=2*(n % 2*2 ^ (o -k -1)):=by rw[<-Oq,Or (n % 2) 2,Oq]
    rw[this];omega
   rw[e,b,show o+1 -1 -k=(o -1 -k)+1 by omega,Ox,Or,Oj TN]
def jo:∀(o:Nat) (a b:Int),0<=a->a<2 ^ o->0<=b->b<2 ^ o->(∀k,k<o->je a k=je b k)->a=b
 |0,a,b,h1,h2,h3,h4,_=>by simp at h2 h4;omega
 |o+1,a,b,h1,h2,h3,h4,h=>by
  rw[Ox]at h2 h4;have c:=h 0 TK;unfold je at c;rw[Int.pow_zero,Ol,Ol]at c;have:=jo o (a / 2) (b / 2) TK TK TK TK λk d=>by have:=h (k+1) TK;unfold je at this⊢;rwa[Ox,Or,<-Oj TN,<-Oj TN]at this
  omega
def GR{o:Nat}{n:Int}(b:0<=n)(h:n<2 ^ o):GK o (GK o n)=n:=
 jo o _ _ (GQ _ _).1 (GQ _ _).2 b h λk a=>by rw[GN _ _ _ a,GN _ _ _ TK,show o -1 -(o -1 -k)=k by omega]
def ji(i k:Nat):je (2 ^ i) k=if k=i then 1 else 0:=by
 unfold je;by_cases h:k=i
 .subst h;rw[Tn rfl,Int.ediv_self (by have:=Fe k;omega)];rfl
 .rw[Tm h];by_cases b:k<i
  .have a:(2:Int) ^ k≠0:=by have:=Fe k;omega
   rw[show i=k+((i -k -1)+1) by omega,Ow,Int.mul_ediv_cancel_left _ a,Ox];omega
  .rw[Ok (by have:=Fe i;omega) (Fd TK)];rfl
def jg{o k:Nat}(h:k<o):je (2 ^ o -1) k=1:=by
 unfold je;have c:=Fe k;have h2:(2:Int) ^ o=2 ^ k*(2*2 ^ (o -k -1)):=by rw[show(2:Int)*2 ^ (o -k -1)=2 ^ (o -k) by rw[Or,<-Ox];congr 1;omega,<-Ow];congr 1;omega
 have h3:=Fe (o -k -1);have:((2:Int) ^ o -1) / 2 ^ k=2*2 ^ (o -k -1) -1:=by rw[h2];generalize (2:Int)*2 ^ (o -k -1)=b at*;generalize (2:Int) ^ k=a at*;rw[show a*b -1=(a -1)+a*(b -1) by rw[Int.mul_sub,Int.mul_one];omega,Int.add_mul_ediv_left _ _ TK,Ok TK TK];omega
 rw[this];omega
def GM(o:Nat):GK o (2 ^ o -1)=2 ^ o -1:=
 jo o _ _ (GQ _ _).1 (GQ _ _).2 (by have:=Fe o;omega) TK λk a=>by rw[GN _ _ _ a,jg TK,jg a]
def GP{o i:Nat}(h:i<o):GK o (2 ^ i)=2 ^ (o -1 -i):=
 jo o _ _ (GQ _ _).1 (GQ _ _).2 (by have:=Fe (o -1 -i);omega) (Fd TK) λk a=>by
  rw[GN _ _ _ a,ji,ji];by_cases e:k=o -1 -i
  .rw[Tn e,Tn TK]
  .rw[Tm e,Tm TK]
def GO{o:Nat}{n:Int}(b:0<n)(h:n<2 ^ o):0<GK o n:=by
 refine Ob λhn=>?_;have h1:GK o n=0:=by have:=(GQ o n).1;omega
 have h2:=GR (o:=o) (by omega:0<=n) h;rw[h1]at h2;have h3:∀o,GK o 0=0:=λo=>by
  induction o with
  |zero=>rfl
  |succ o a=>unfold GK;simpa using a
 rw[h3]at h2;omega
def rs(fl:List cJ)(s:cO):cO:=(s.1,if s.2.1<0 then s.2.1 else ri fl.length s.2.1,GK (D2 fl s.1).length s.2.2)
def D7{fl:List cJ}{n:Int}:(D2 fl.reverse n).length=(D2 fl n).length:=by rw[D9,P9,P4]
def y_{fl:List cJ}{n:Int}:(yV fl.reverse n).length=(yV fl n).length:=by rw[zb,P9,P4]
def y0{fl:List cJ}{n:Int}(h:x∈yV fl n):0<=x/\x<fl.length:=yH x h
def J4{ns:List cK}{fl:List cJ}{n:Nat}{s:cO}(h:s∈JX (ns,fl) n):rs fl s∈JX (ns,fl.reverse) n:=by
 have h1:=JR s h;unfold JX at h⊢;dsimp only at h⊢;rw[D7];have a:Aj (ns,fl.reverse) n=Aj (ns,fl) n:=rfl;rw[a];have l:(D2 fl s.1).length=(D2 fl (n:Int)).length:=by rw[h1]
 unfold rs;rw[l,h1];generalize (D2 fl (n:Int)).length=o at*;generalize Aj (ns,fl) n=kd at*;have inn:∀{x:Int},x∈yV fl (n:Int)->¬x<0/\ri fl.length x∈yV fl.reverse (n:Int):=λj=>⟨by have:=(y0 j).1;omega,by rw[BS,GY];exact j⟩;unfold JO at h⊢;split at h
 .rename_i e;rw[Tn e];obtain⟨f,hf,rfl⟩:=Qv.1 h;obtain⟨c,b⟩:=inn hf;rw[Tm c];refine Qv.2 ⟨_,b,?_⟩;rw[GM]
 rename_i e;rw[Tm e];split at h
 .rename_i i;rw[Tn i];obtain⟨f,hf,h⟩:=Qt.1 h;obtain⟨k,a,rfl⟩:=Qv.1 h;have a:=QA.1 a;obtain⟨c,b⟩:=inn hf;rw[Tm c];refine Qt.2 ⟨_,b,Qv.2 ⟨o -1 -k,QA.2 TK,?_⟩⟩;rw[GP a]
 rename_i i;rw[Tm i];split at h
 .rename_i g;rw[Tn g];obtain rfl:=QC.1 h;rw[GM];exact QC.2 rfl
 rename_i g;rw[Tm g];split at h
 .rename_i m;rw[Tn m];obtain⟨k,a,rfl⟩:=Qv.1 h;have a:=QA.1 a;have d:((2 ^ o:Nat):Int)=(2:Int) ^ o:=by norm_cast
  have p:=Fe o;have h1:=@GO o ((k:Int)+1);have h2:=(GQ o ((k:Int)+1)).2;rw[<-d]at h1 h2;generalize 2 ^ o=M at*;have h1:=h1 TK TK;refine Qv.2 ⟨(GK o ((k:Int)+1) -1).toNat,QA.2 TK,?_⟩;show((n:Int),(-1:Int),(((GK o ((k:Int)+1) -1).toNat:Nat):Int)+1)=((n:Int),(-1:Int),GK o ((k:Int)+1));rw[Oz TK];congr 2;omega
 .cases h
def J5{ns:List cK}{fl:List cJ}{s:cO}(h:s∈JU (ns,fl)):rs fl s∈JU (ns,fl.reverse):=by obtain⟨n,hn,a⟩:=stepsP_mem.1 h;exact stepsP_mem.2 ⟨n,hn,J4 a⟩
def JJ{ns:List cK}{fl:List cJ}{s:cO}(h:s∈JU (ns,fl)):(s.2.1= -1\/s.2.1∈yV fl s.1)/\0<=s.2.2/\s.2.2<2 ^ (D2 fl s.1).length:=by obtain⟨n,hn,a⟩:=stepsP_mem.1 h;rw[JR s a];exact⟨JP s a,JT s a⟩
def G_{ns:List cK}{fl:List cJ}{s:cO}(h:s∈JU (ns,fl)):rs fl.reverse (rs fl s)=s:=by
 obtain⟨h1,h2,h3⟩:=JJ h;unfold rs;dsimp only;rw[D7,GR h2 h3,P9];obtain⟨a,b,c⟩:=s;dsimp only at*;congr 2;obtain h1|h1:=h1
 .subst h1;rfl
 .have:=y0 h1;rw[Tm (show¬b<0 by omega),Tm (by unfold ri;omega),GY]
def JY{ns:List cK}{fl:List cJ}{n:Nat}:(JX (ns,fl.reverse) n).length=(JX (ns,fl) n).length:=by
 unfold JX;dsimp only;rw[D7,show Aj (ns,fl.reverse) n=Aj (ns,fl) n from rfl];unfold JO;split
 .rw[P4,P4,y_]
 split
 .have:∀l:List Int,(l.flatMap λf=>(range (D2 fl (n:Int)).length).map λk:Nat=>((n:Int),f,(2:Int) ^ k)).length=l.length*(D2 fl (n:Int)).length:=λl=>by
   induction l with
   |nil=>simp
   |cons a l b=>rw[Pe,PX,b,P4,P7,PY,Q9];omega
  rw[this,this,y_]
 split
 .rfl
 split
 .rfl
 .rfl
def J1{ns:List cK}{fl:List cJ}:∀k,(JZ (ns,fl.reverse) k).length=(JZ (ns,fl) k).length
 |0=>rfl
 |k+1=>by rw[J2,J2,PX,PX,J1 k,JY]
def AJ(p:cM)(m:List Int)(s:cO)(j:Nat):Int:=if(j:Int)∈yV p.2 s.1 then KB m s (j:Int)else m.getD j 0
def FX(p:cM)(s:cO)(j:Nat):Int:=ja s.2.2 0 (D2 p.2 s.1) (j:Int)
def FY{p:cM}{s:cO}{j:Nat}(h:(j:Int)∉D2 p.2 s.1):FX p s j=0:=jd _ _ _ h
def rA{p:cM}{s:cO}(g:m.length=p.2.length)(h3:Aj p s.1.toNat≠3):
  ((∀j:Nat,(j:Int)∈D2 p.2 s.1->AJ p m s j+FX p s j<=9\/FX p s j=0)->∃b,rz p m s=some b)/\
  (∀b,rz p m s=some b->(∀j:Nat,(j:Int)∈D2 p.2 s.1->AJ p m s j+FX p s j<=9\/FX p s j=0)/\b.length=p.2.length/\∀j:Nat,b.getD j 0=AJ p m s j+FX p s j):=by
 have i:yG m.length (yV p.2 s.1):=by rw[g];exact yH
 have k:=Ku (s:=s) (yV p.2 s.1) m i yW;have d:(Kt s m (yV p.2 s.1)).length=m.length:=Kv _ _;have f:yG (Kt s m (yV p.2 s.1)).length (D2 p.2 s.1):=by rw[d,g];exact yI
 have hP:=FO (n:=s.2.2) (D2 p.2 s.1) 0 _ f D3;have a:(∀x∈D2 p.2 s.1,(Kt s m (yV p.2 s.1)).getD x.toNat 0+ja s.2.2 0 (D2 p.2 s.1) x<=9\/ja s.2.2 0 (D2 p.2 s.1) x=0)↔
   (∀j:Nat,(j:Int)∈D2 p.2 s.1->AJ p m s j+FX p s j<=9\/FX p s j=0):=by
  constructor
  .intro h j hj;have:=h _ hj;rw[Oy,k]at this;exact this
  .intro h x l;have e:=(yI (fl:=p.2) x l).1;have c:((x.toNat:Nat):Int)=x:=Oz e;have:=h x.toNat (by rw[c];exact l);unfold FX AJ at this;rw[k];rw[c]at this⊢;exact this
 have hf:rz p m s=FN s.2.2 0 (Kt s m (yV p.2 s.1)) (D2 p.2 s.1):=by unfold rz;rw[Tm h3]
 rw[hf];refine⟨λh=>?_,λb h=>?_⟩
 .obtain⟨b,h1,_⟩:=hP.1 (a.2 h);exact⟨b,h1⟩
 .have o:=hP.2 b h;obtain⟨q,h1,h2⟩:=hP.1 o;rw[h]at h1;injection h1 with h1;subst h1;refine⟨a.1 o,by rw[FP _ _ _ _ h,d,g],λj=>?_⟩;rw[h2 j,k j];rfl
def py{a b:List Int}(c:a.length=b.length)(h:∀j:Nat,a.getD j 0=b.getD j 0):a=b:=by refine O3 c λj h1 h2=>?_;have:=h j;rw[tH h1,tH h2]at this;exact this
def gZ{l:List α}{P Q:α->Bool}(h:∀x∈l,P x=Q x):l.any P=l.any Q:=by
 induction l with
 |nil=>rfl
 |cons a l b=>rw[List.any_cons,List.any_cons,h a (Qq ..),b λx c=>h x (Qp _ c)]
section
variable {ns:List cK}{fl:List cJ}{m:List Int}
theorem g_{n:Int}{P Q:Int->Bool}(h:∀x∈yV fl n,P (ri fl.length x)=Q x):(yV fl.reverse n).any P=(yV fl n).any Q:=by rw[zb,OF,List.any_map];exact gZ h
theorem hZ{F:Nat}{P Q:Nat->Bool}(h:∀i,i<F->P (F -1 -i)=Q i):(range F).any P=(range F).any Q:=by rw[F4 F,OF,List.any_map,<-F4 F];exact gZ λi hi=>h i (QA.1 hi)
theorem GT(a:m.length=fl.length){x:Int}(h:0<=x/\x<fl.length):m.reverse.getD (ri fl.length x).toNat 0=m.getD x.toNat 0:=by unfold ri;rw[GS TK];congr 1;omega
theorem iS(a:m.length=fl.length){node f:Int}(hf:0<=f/\f<fl.length):iQ (ns,fl.reverse) m.reverse node (ri fl.length f)=iQ (ns,fl) m node f:=by
 unfold iQ;dsimp only;rw[P9];refine hZ λi hi=>?_;have e:(ri fl.length f).toNat=fl.length -1 -f.toNat:=by unfold ri;omega
 rw[e,lZ TK hi,GS TK,GS TK,a,show fl.length -1 -(fl.length -1 -i)=i by omega]
theorem zD(b:m.length=fl.length){node:Int}:zx (ns,fl.reverse) m.reverse node=zx (ns,fl) m node:=by
 unfold zx;dsimp only;rw[g_ (Q:=λf=>!decide (m.getD f.toNat 0>0)&&iQ (ns,fl) m node f) λx a=>by rw[GT b (y0 a),iS b (y0 a)],
  g_ (Q:=λf=>decide (m.getD f.toNat 0>0)) λx a=>by rw[GT b (y0 a)]]
theorem oZ(b:m.length=fl.length){s:cO}(d:s∈JU (ns,fl)):o6 (ns,fl.reverse) m.reverse (rs fl s)=o6 (ns,fl) m s:=by
 obtain⟨h1,_⟩:=JJ d;unfold o6 rs;dsimp only;by_cases c:0<=s.2.1
 .have a:=y0 (h1.resolve_left TK);rw[Tm (show¬s.2.1<0 by omega),Tn c,Tn (by unfold ri;omega),GT b a]
 .rw[Tn (show s.2.1<0 by omega),Tm c,Tm c,zD b,show Aj (ns,fl.reverse) s.1.toNat=Aj (ns,fl) s.1.toNat from rfl,
   g_ (Q:=λf=>m.getD f.toNat 0==0) λx a=>by rw[GT b (y0 a)]]
theorem jc{n:Int}:∀(l:List Int) (k i:Nat) (h:i<l.length),l.Nodup->ja n k l l[i]=je n (k+i)
 |f::r,k,0,_,_=>by simp[ja]
 |f::r,k,i+1,h,hd=>by
  rw[QG]at hd;have hi:i<r.length:=by simpa using h
  have a:f≠r[i]:=λe=>hd.1 (e▸PL hi);simp only[PD,ja];rw[Tm a,jc r (k+1) i hi hd.2];congr 1;omega
theorem FZ{s:cO}{j:Nat}(hj:j<fl.length):FX (ns,fl.reverse) (rs fl s) (fl.length -1 -j)=FX (ns,fl) s j:=by
 have ej:((fl.length -1 -j:Nat):Int)=ri fl.length (j:Int):=by unfold ri;omega
 by_cases h:(j:Int)∈D2 fl s.1
 .unfold FX;show ja (GK (D2 fl s.1).length s.2.2) 0 (D2 fl.reverse s.1) _=ja s.2.2 0 (D2 fl s.1) _;obtain⟨i,hi,c⟩:=Qu.1 h;have hd:=D3 (fl:=fl) (n:=s.1);have hd':=D3 (fl:=fl.reverse) (n:=s.1);rw[ej,<-c,jc _ 0 i hi hd];have a:=D7 (fl:=fl) (n:=s.1);have b:(D2 fl.reverse s.1)[(D2 fl s.1).length -1 -i]'TK=ri fl.length (D2 fl s.1)[i]:=by simp only[D9,PO,PK,P4];congr 2;omega
  rw[<-b,jc _ 0 _ TK hd',RT,RT,GN _ _ _ TK];congr 1;omega
 .rw[FY (p:=(ns,fl)) h,FY];show¬_∈D2 fl.reverse s.1;rw[BU,ej,GY];exact h
theorem AK(f:m.length=fl.length){s:cO}(e:s∈JU (ns,fl)){j:Nat}(hj:j<fl.length):AJ (ns,fl.reverse) m.reverse (rs fl s) (fl.length -1 -j)=AJ (ns,fl) m s j:=by
 have ej:((fl.length -1 -j:Nat):Int)=ri fl.length (j:Int):=by unfold ri;omega
 have a:m.reverse.getD (fl.length -1 -j) 0=m.getD j 0:=by rw[GS TK,f];congr 1;omega
 obtain⟨h1,_⟩:=JJ e;have d:KB m.reverse (rs fl s) ((fl.length -1 -j:Nat):Int)=KB m s (j:Int):=by
  unfold KB;rw[Oy,a,Oy];have b:((rs fl s).2.1=((fl.length -1 -j:Nat):Int)\/(rs fl s).2.1<0/\m.getD j 0>0)↔(s.2.1=(j:Int)\/s.2.1<0/\m.getD j 0>0):=by
   show((if s.2.1<0 then s.2.1 else ri fl.length s.2.1)=_\/(if s.2.1<0 then s.2.1 else ri fl.length s.2.1)<0/\_)↔_;rw[ej];by_cases c:s.2.1<0
   .rw[Tn c];unfold ri;constructor<;>rintro(h|h)<;>first|(exfalso;omega)|exact .inr h
   .have i:=y0 (h1.resolve_left TK);rw[Tm c];unfold ri;constructor<;>rintro(h|h)<;>first|(exfalso;omega)|exact .inl TK
  by_cases h:s.2.1=(j:Int)\/s.2.1<0/\m.getD j 0>0
  .rw[Tn h,Tn (b.2 h)]
  .rw[Tm h,Tm (λg=>h (b.1 g))]
 unfold AJ;rw[d,a];show(if _∈yV fl.reverse s.1 then _ else _)=_;by_cases h:(j:Int)∈yV fl s.1
 .rw[Tn h,Tn (by rw[BS,ej,GY];exact h)]
 .rw[Tm h,Tm (by rw[BS,ej,GY];exact h)]
theorem rF(g:m.length=fl.length){s:cO}(n:s∈JU (ns,fl)){f:List Int}(h:rz (ns,fl) m s=some f):rz (ns,fl.reverse) m.reverse (rs fl s)=some f.reverse:=by
 by_cases h3:Aj (ns,fl) s.1.toNat=3
 .unfold rz at h⊢;rw[Tn h3]at h;injection h with h;subst h;rw[Tn (show Aj (ns,fl.reverse) (rs fl s).1.toNat=3 from h3),Qj]
 .have d:Aj (ns,fl.reverse) (rs fl s).1.toNat≠3:=h3;have a:m.reverse.length=((ns,fl.reverse):cM).2.length:=by simpa using g
  obtain⟨c1,c2,c3⟩:=(rA g h3).2 f h;have key:∀j:Nat,(j:Int)∈D2 fl.reverse s.1->AJ (ns,fl.reverse) m.reverse (rs fl s) j+FX (ns,fl.reverse) (rs fl s) j<=9\/FX (ns,fl.reverse) (rs fl s) j=0:=λj hj=>by
   have i:=yI (fl:=fl.reverse) _ hj;rw[P9]at i;rw[BU]at hj;have e:ri fl.length (j:Int)=((fl.length -1 -j:Nat):Int):=by unfold ri;omega
   rw[e]at hj;have:=c1 _ hj;have k:fl.length -1 -(fl.length -1 -j)=j:=by omega
   have c:=AK (ns:=ns) g n (j:=fl.length -1 -j) TK;have b:=FZ (ns:=ns) (fl:=fl) (s:=s) (j:=fl.length -1 -j) TK;rw[k]at c b;rw[c,b];exact this
  obtain⟨x,l⟩:=(rA (p:=(ns,fl.reverse)) (s:=rs fl s) a d).1 key;obtain⟨_,d2,d3⟩:=(rA (p:=(ns,fl.reverse)) (s:=rs fl s) a d).2 x l;rw[l];congr 1;have d2:x.length=fl.length:=by simpa using d2
  have c2:f.length=fl.length:=c2;refine py (by rw[d2,P9,c2]) λj=>?_;by_cases hj:j<fl.length
  .rw[d3,GS TK,c2,c3];have k:fl.length -1 -(fl.length -1 -j)=j:=by omega
   have c:=AK (ns:=ns) g n (j:=fl.length -1 -j) TK;have b:=FZ (ns:=ns) (fl:=fl) (s:=s) (j:=fl.length -1 -j) TK;rw[k]at c b;rw[c,b]
  .rw[Pl,Pr TK,Pl,Pr (by rw[P9];omega)]
end
noncomputable def IG(ns:List cK)(fl:List cJ)(k:Nat):Nat:=(JU (ns,fl.reverse)).idxOf (rs fl ((JU (ns,fl)).getD k (0,0,0)))
section
variable {ns:List cK}{fl:List cJ}
theorem Jv{p:cM}{k:Nat}(h:k<(JU p).length):(JU p).getD k (0,0,0)∈JU p:=by rw[Pl,Pq h];exact PL h
theorem IH{k:Nat}(h:k<(JU (ns,fl)).length):IG ns fl k<(JU (ns,fl.reverse)).length/\(JU (ns,fl.reverse)).getD (IG ns fl k) (0,0,0)=rs fl ((JU (ns,fl)).getD k (0,0,0)):=by have b:=J5 (Jv h);have a:=PV b;refine⟨a,?_⟩;unfold IG;rw[Pl,Pq a];exact PI a
theorem II{k:Nat}(h:k<(JU (ns,fl)).length):IG ns fl.reverse (IG ns fl k)=k:=by obtain⟨h1,h2⟩:=IH h;obtain⟨h3,h4⟩:=IH (ns:=ns) (fl:=fl.reverse) (k:=IG ns fl k) h1;rw[QT]at h3 h4;rw[h2,G_ (Jv h)]at h4;have a:=J3 (p:=(ns,fl)) (k:=(ns,fl).1.length);rw[Pl,Pq h3,Pl,Pq h]at h4;exact(PJ a).1 (by simpa using h4)
theorem IJ{k:Nat}(h:k<(JU (ns,fl)).length):((JU (ns,fl.reverse)).getD (IG ns fl k) (0,0,0)).1=((JU (ns,fl)).getD k (0,0,0)).1:=by rw[(IH h).2];rfl
theorem JK{m:List Int}(c:m.length=fl.length){k:Nat}{b:List Int}(h:d_ (ns,fl) m (k:Int) b):d_ (ns,fl.reverse) m.reverse ((IG ns fl k:Nat):Int) b.reverse:=by
 obtain⟨_,h1,h2,h3⟩:=h;rw[Oy]at h2 h3;have a:k<(JU (ns,fl)).length:=by omega
 obtain⟨h4,d⟩:=IH a;refine⟨by omega,by omega,?_,?_⟩
 .rw[Oy,d,oZ c (Jv a)];exact h2
 .rw[Oy,d];exact rF c (Jv a) h3
theorem jZ{m:List Int}(c:m.length=fl.length){k:Nat}(h:(k:Int)∈jT (ns,fl) m):((IG ns fl k:Nat):Int)∈jT (ns,fl.reverse) m.reverse:=by
 obtain⟨i,hi,b⟩:=Qv.1 h;obtain⟨h1,h2⟩:=Qs.1 hi;have a:=QA.1 h1;have b:i=k:=by omega
 subst b;obtain⟨h4,d⟩:=IH a;refine Qv.2 ⟨_,Qs.2 ⟨QA.2 h4,?_⟩,rfl⟩;rw[d,oZ c (Jv a)];exact h2
end
structure Hom(γ:Nat->Nat)(nx:bV)(lb:List Nat)(fr:bV)(nx':bV)(lb':List Nat)(fr':bV):Prop where
 ok:okG nx
 lt:∀k,k<nx.length->γ k<nx'.length
 to:∀k m,Eg nx k m->Eg nx' (γ k) (γ m)
 lab:∀k,k<nx.length->lb'.getD (γ k) 0=lb.getD k 0
 fs:∀j',j'<fr'.length->∃j,j<fr.length/\∀x:Nat,x<nx.length->(x:Int)∈fr.getD j []->((γ x:Nat):Int)∈fr'.getD j' []
section
variable {γ δ:Nat->Nat}{nx nx' fr fr':bV}{lb lb':List Nat}{A A' B B':Nat->Prop}
theorem Hom.way(h:Hom γ nx lb fr nx' lb' fr'){r:Nat->Nat}(a:Way8 (Eg nx) (IA fr) r):Way8 (Eg nx') (IA fr') λi=>γ (r i):=by refine⟨λi=>h.to _ _ (a.1 i),setPs_iff.2 λc b i=>?_⟩;obtain⟨j,hj,d⟩:=h.fs c b;obtain⟨k,f,e⟩:=setPs_iff.1 a.2 j hj i;exact⟨k,f,d _ (a.lt h.ok k) e⟩
theorem Hom.fair(h:Hom γ nx lb fr nx' lb' fr'){k:Nat}:qr nx fr k->qr nx' fr' (γ k):=by rintro⟨r,rfl,a⟩;exact⟨_,rfl,h.way a⟩
theorem Hom.eg(h:Hom γ nx lb fr nx' lb' fr')(c:∀k,k<nx.length->A k->A' (γ k)){k:Nat}:oJ nx fr A k->oJ nx' fr' A' (γ k):=by rintro⟨r,rfl,a,b⟩;exact⟨_,rfl,h.way a,λi=>c _ (a.lt h.ok i) (b i)⟩
theorem Hom.ex(h:Hom γ nx lb fr nx' lb' fr')(a:∀k,k<nx.length->A k->A' (γ k)){k:Nat}:pT nx fr A k->pT nx' fr' A' (γ k):=by rintro⟨m,h1,h2,h3⟩;exact⟨γ m,h.to _ _ h1,a m (h1.lt h.ok) h2,h.fair h3⟩
theorem Hom.eu(h:Hom γ nx lb fr nx' lb' fr')(f:∀k,k<nx.length->A k->A' (γ k))(e:∀k,k<nx.length->B k->B' (γ k)){k:Nat}(b:k<nx.length)(a:pK nx fr A B k):pK nx' fr' A' B' (γ k):=by
 unfold pK at a⊢;induction a with
 |here c=>exact .here ⟨e _ b c.1,h.fair c.2⟩
 |step h1 h2 h3 d=>exact .step (f _ b h1) (h.to _ _ h2) (d (h2.lt h.ok))
structure Iso(γ δ:Nat->Nat)(nx:bV)(lb:List Nat)(fr:bV)(nx':bV)(lb':List Nat)(fr':bV):Prop where
 a:Hom γ nx lb fr nx' lb' fr'
 b:Hom δ nx' lb' fr' nx lb fr
 inv:∀k,k<nx.length->δ (γ k)=k
 inv':∀k,k<nx'.length->γ (δ k)=k
theorem Iso.back(h:Iso γ δ nx lb fr nx' lb' fr')(b:∀k,k<nx.length->(A k↔A' (γ k))):∀k,k<nx'.length->A' k->A (δ k):=λk a h1=>(b _ (h.b.lt k a)).2 (by rw[h.inv' k a];exact h1)
theorem Iso.eg(h:Iso γ δ nx lb fr nx' lb' fr')(b:∀k,k<nx.length->(A k↔A' (γ k))){k:Nat}(a:k<nx.length):oJ nx fr A k↔oJ nx' fr' A' (γ k):=
 ⟨h.a.eg (λk a=>(b k a).1),λc=>by have:=h.b.eg (h.back b) c;rwa[h.inv k a]at this⟩
theorem Iso.ex(h:Iso γ δ nx lb fr nx' lb' fr')(b:∀k,k<nx.length->(A k↔A' (γ k))){k:Nat}(a:k<nx.length):pT nx fr A k↔pT nx' fr' A' (γ k):=
 ⟨h.a.ex (λk a=>(b k a).1),λc=>by have:=h.b.ex (h.back b) c;rwa[h.inv k a]at this⟩
theorem Iso.eu(h:Iso γ δ nx lb fr nx' lb' fr')(c:∀k,k<nx.length->(A k↔A' (γ k)))(b:∀k,k<nx.length->(B k↔B' (γ k))){k:Nat}(a:k<nx.length):pK nx fr A B k↔pK nx' fr' A' B' (γ k):=
 ⟨h.a.eu (λk a=>(c k a).1) (λk a=>(b k a).1) a,λd=>by have:=h.b.eu (h.back c) (h.back b) (h.a.lt k a) d;rwa[h.inv k a]at this⟩
theorem Iso.au(h:Iso γ δ nx lb fr nx' lb' fr')(c:∀k,k<nx.length->(A k↔A' (γ k)))(b:∀k,k<nx.length->(B k↔B' (γ k))){k:Nat}(a:k<nx.length):iH nx fr A B k↔iH nx' fr' A' B' (γ k):=by unfold iH;rw[h.eu (A':=λi=>¬B' i) (B':=λi=>¬A' i/\¬B' i) (λk a=>Tq (b k a)) (λk a=>SZ (Tq (c k a)) (Tq (b k a))) a,h.eg (A':=λi=>¬B' i) (λk a=>Tq (b k a)) a]
mutual
theorem Iso.form(h:Iso γ δ nx lb fr nx' lb' fr'):∀(t:Ltl) (k:Nat),k<nx.length->(mE nx lb fr t k↔mE nx' lb' fr' t (γ k))
 |.mk c n kids,k,a=>by
  have b:∀i,∀k,k<nx.length->((mF nx lb fr kids).getD i (λ_=>False) k↔(mF nx' lb' fr' kids).getD i (λ_=>False) (γ k)):=λi k a=>Iso.forms h kids i k a
  simp only[mE];generalize mF nx' lb' fr' kids=ks' at*
  generalize mF nx lb fr kids=ks at*
  unfold mG;refine zi Og (zi ?_ (zi (Tq (b 0 k a)) (zi (SZ (b 0 k a) (b 1 k a)) (zi (Tv (b 0 k a) (b 1 k a)) (zi (h.ex (b 0) a) (zi (h.eu (A':=λ_=>True) (λ_ _=>Og) (b 0) a) (zi (h.eg (b 0) a) (zi (h.eu (b 0) (b 1) a)
   (zi (Tq (h.ex (A':=λj=>¬ks'.getD 0 (λ_=>False) j) (λk a=>Tq (b 0 k a)) a)) (zi (Tq (h.eg (A':=λj=>¬ks'.getD 0 (λ_=>False) j) (λk a=>Tq (b 0 k a)) a))
   (zi (Tq (h.eu (A':=λ_=>True) (B':=λj=>¬ks'.getD 0 (λ_=>False) j) (λ_ _=>Og) (λk a=>Tq (b 0 k a)) a)) (zi (h.au (b 0) (b 1) a) Og))))))))))))
  show _=_↔_=_;rw[h.a.lab k a]
theorem Iso.forms(h:Iso γ δ nx lb fr nx' lb' fr'):∀(l:List Ltl) (i k:Nat),k<nx.length->((mF nx lb fr l).getD i (λ_=>False) k↔(mF nx' lb' fr' l).getD i (λ_=>False) (γ k))
 |[],i,k,a=>by simp[mF]
 |x::r,0,k,a=>by simpa[mF]using Iso.form h x k a
 |x::r,i+1,k,a=>by simpa[mF]using Iso.forms h r i k a
end
end
def Hom.all{γ:Nat->Nat}{W W':cR}(h:Hom γ W.2.1 W.2.2.1 W.2.2.2 W'.2.1 W'.2.2.1 W'.2.2.2)(l:∀k:Nat,(k:Int)∈W.1->((γ k:Nat):Int)∈W'.1){f:Ltl}(o:ai W' f):ai W f:=by
 intro ρ hρ;have a:∀i,ρ i<W.2.1.length:=λi=>by have:=hρ.step i;exact Ob λhn=>by rw[Pl,Pr TK]at this;cases this
 have g:WWay W' λi=>γ (ρ i):=by refine⟨l _ hρ.first,λi=>h.to _ _ (hρ.step i),λF hF i=>?_⟩;obtain⟨c,b,rfl⟩:=Qu.1 hF;obtain⟨j,hj,d⟩:=h.fs c b;obtain⟨k,n,m⟩:=hρ.fair (W.2.2.2.getD j []) (by rw[MS hj];exact PL hj) i;refine⟨k,n,?_⟩;have:=d _ (a k) m;rwa[MS b]at this
 have:=o _ g;have e:(λi=>W'.2.2.1.getD (γ (ρ i)) 0)=λi=>W.2.2.1.getD (ρ i) 0:=by funext i;exact h.lab _ (a i)
 rw[e]at this;exact this
def eA(nx:List (List cI)):Prop:=∀m,m<nx.length->∀i j,i<(nx.getD m []).length->j<(nx.getD m []).length->((nx.getD m []).getD i (0,0)).1=((nx.getD m []).getD j (0,0)).1->i=j
structure SpH(γ σ τ:Nat->Nat)(sl:List cO)(nx:List (List cI))(sl':List cO)(nx':List (List cI)):Prop where
 ok:NxOk sl nx
 ok':NxOk sl' nx'
 un':eA nx'
 g:∀m,m<nx.length->γ m<nx'.length
 s:∀k,k<sl.length->σ k<sl'.length/\τ (σ k)=k
 t:∀k,k<sl'.length->τ k<sl.length/\σ (τ k)=k
 node:∀k,k<sl.length->(sl'.getD (σ k) (0,0,0)).1=(sl.getD k (0,0,0)).1
 edge:∀m,m<nx.length->∀e∈nx.getD m [],(((σ e.1.toNat:Nat):Int),((γ e.2.toNat:Nat):Int))∈nx'.getD (γ m) []
 can:∀m,m<nx.length->∀e'∈nx'.getD (γ m) [],∃e∈nx.getD m [],e'.1=((σ e.1.toNat:Nat):Int)
def JA(γ σ:Nat->Nat)(nx nx':List (List cI))(j:Nat):Nat:=
 if(Dk nx j).1<0 then it nx' (γ (Dk nx j).2.toNat)else it nx' (γ (Dk nx j).2.toNat)+EQ (nx'.getD (γ (Dk nx j).2.toNat) []) ((σ (Dk nx j).1.toNat:Nat):Int)
section
variable {γ σ τ:Nat->Nat}{sl sl':List cO}{nx nx':List (List cI)}
theorem SpH.bare(h:SpH γ σ τ sl nx sl' nx'){m:Nat}(c:m<nx.length)(d:nx.getD m []=[]):nx'.getD (γ m) []=[]:=by
 cases b:nx'.getD (γ m) []with
 |nil=>rfl
 |cons e r=>
  obtain⟨x,a,_⟩:=h.can m c e (by rw[b];exact Qq ..);rw[d]at a;cases a
structure StA(γ σ:Nat->Nat)(nx nx':List (List cI))(j n i:Nat):Prop where
 hn:n<nx.length
 hi:i<B3 nx n
 hj:j=it nx n+i
 lt:JA γ σ nx nx' j<it nx' nx'.length
 no:nx.getD n []=[]->Dk nx j=(-1,(n:Int))/\JA γ σ nx nx' j=it nx' (γ n)/\Dk nx' (JA γ σ nx nx' j)=(-1,((γ n:Nat):Int))
 yes:nx.getD n []≠[]->i<(nx.getD n []).length/\Dk nx j=(((nx.getD n []).getD i (0,0)).1,(n:Int))/\
  ∃p,p<(nx'.getD (γ n) []).length/\JA γ σ nx nx' j=it nx' (γ n)+p/\(nx'.getD (γ n) []).getD p (0,0)=(((σ ((nx.getD n []).getD i (0,0)).1.toNat:Nat):Int),((γ ((nx.getD n []).getD i (0,0)).2.toNat:Nat):Int))/\
   Dk nx' (JA γ σ nx nx' j)=(((σ ((nx.getD n []).getD i (0,0)).1.toNat:Nat):Int),((γ n:Nat):Int))
theorem SpH.at(h:SpH γ σ τ sl nx sl' nx'){j:Nat}(hj:j<it nx nx.length):∃n i,StA γ σ nx nx' j n i:=by
 obtain⟨n,i,hn,hi,rfl⟩:=Dp hj;have k:=h.g n hn;refine⟨n,i,?_⟩;by_cases m:nx.getD n []=[]
 .have h1:Dk nx (it nx n+i)=(-1,(n:Int)):=by rw[Dl hn hi,Tn m]
  have h2:JA γ σ nx nx' (it nx n+i)=it nx' (γ n):=by unfold JA;rw[h1,Tn (by show(-1:Int)<0;decide)];show it nx' (γ ((n:Int)).toNat)=_;rw[Oy]
  have h3:=Dl (nx:=nx') (i:=0) k B4;rw[Tn (h.bare hn m),Re]at h3;refine⟨hn,hi,rfl,by rw[h2];have:=iy (nx:=nx') (i:=0) k B4;omega,λ_=>⟨h1,h2,by rw[h2];exact h3⟩,λd=>absurd m d⟩
 .have a:i<(nx.getD n []).length:=by rwa[B5 m]at hi
  have h1:=Dn hn a;have b:(nx.getD n []).getD i (0,0)∈nx.getD n []:=by rw[tJ a];exact PL a
  have s:=(h.ok.ed n hn _ b).1;have l:=h.edge n hn _ b;generalize r:(nx.getD n []).getD i (0,0)=e at*;have o:((nx'.getD (γ n) []).any λy=>y.1==((σ e.1.toNat:Nat):Int))=true:=OE.2 ⟨_,l,by simp⟩;obtain⟨c,g⟩:=ER o;have h2:JA γ σ nx nx' (it nx n+i)=it nx' (γ n)+EQ (nx'.getD (γ n) []) ((σ e.1.toNat:Nat):Int):=by unfold JA;rw[h1,Tm (by show¬e.1<0;omega)];show it nx' (γ ((n:Int)).toNat)+EQ (nx'.getD (γ ((n:Int)).toNat) []) _=_;rw[Oy]
  have p:(nx'.getD (γ n) []).getD (EQ (nx'.getD (γ n) []) ((σ e.1.toNat:Nat):Int)) (0,0)=(((σ e.1.toNat:Nat):Int),((γ e.2.toNat:Nat):Int)):=by obtain⟨q,hq,f⟩:=Qu.1 l;have:=h.un' _ k _ q c hq (by rw[g,tJ hq,f]);rw[this,tJ hq,f]
  have h3:=Dn k c;rw[g]at h3;refine⟨hn,hi,rfl,by rw[h2];exact iy k (by rw[B5 (λd=>by rw[d]at c;simp at c)];exact c),λd=>absurd d m,λ_=>?_⟩;rw[r];exact⟨a,h1,_,c,h2,p,by rw[h2];exact h3⟩
theorem SpH.back{δ:Nat->Nat}(h:SpH γ σ τ sl nx sl' nx')(l:eA nx)(hd:∀m,m<nx.length->δ (γ m)=m){j:Nat}(hj:j<it nx nx.length):JA δ τ nx' nx (JA γ σ nx nx' j)=j:=by
 obtain⟨n,i,b⟩:=h.at hj;have d:=hd n b.hn;by_cases g:nx.getD n []=[]
 .obtain⟨_,_,h3⟩:=b.no g;have hi:i=0:=by have:=b.hi;unfold B3 at this;rw[g]at this;simp at this;omega
  generalize JA γ σ nx nx' j=k at*;unfold JA;rw[h3,Tn (by show(-1:Int)<0;decide)];show it nx (δ (((γ n:Nat):Int)).toNat)=_;rw[Oy,d,b.hj,hi];rfl
 .obtain⟨c,h1,p,q,_,_,h3⟩:=b.yes g;have a:(nx.getD n []).getD i (0,0)∈nx.getD n []:=by rw[tJ c];exact PL c
  have o:=h.ok.ed n b.hn _ a;generalize JA γ σ nx nx' j=k at*;unfold JA;rw[h3,Tm (by show¬((_:Nat):Int)<0;omega)];show it nx (δ (((γ n:Nat):Int)).toNat)+EQ (nx.getD (δ (((γ n:Nat):Int)).toNat) []) ((τ (((σ _:Nat):Int)).toNat:Nat):Int)=_;rw[Oy,Oy,d,(h.s _ TK).2,Oz o.1];have e:((nx.getD n []).any λy=>y.1==((nx.getD n []).getD i (0,0)).1)=true:=OE.2 ⟨_,a,by simp⟩;obtain⟨hq,f⟩:=ER e;rw[l n b.hn _ i hq c f,b.hj]
theorem mem_allL{m x:Nat}:(x:Int)∈gE nx m↔∃i,i<B3 nx m/\x=it nx m+i:=by
 unfold gE;rw[Qv];constructor
 .rintro⟨i,hi,a⟩;exact⟨i,QA.1 hi,by omega⟩
 .rintro⟨i,hi,rfl⟩;exact⟨i,QA.2 hi,rfl⟩
theorem iu{n b i d:Nat}(hi:i<B3 nx n)(c:d<B3 nx b)(h:it nx n+i=it nx b+d):n=b:=by
 have h1:=@iy nx;obtain a|a|a:=Rx n b
 .have:=h1 a hi;omega
 .exact a
 .have:=h1 a c;omega
theorem SpH.all(h:SpH γ σ τ sl nx sl' nx'){m x:Nat}(e:m<nx.length)(b:(x:Int)∈gE nx m):((JA γ σ nx nx' x:Nat):Int)∈gE nx' (γ m):=by
 obtain⟨i,hi,rfl⟩:=mem_allL.1 b;obtain⟨n,f,a⟩:=h.at (iy e hi);obtain rfl:n=m:=iu a.hi hi a.hj.symm;by_cases d:nx.getD n []=[]
 .obtain⟨_,h2,_⟩:=a.no d;rw[h2];exact mem_allL.2 ⟨0,B4,rfl⟩
 .obtain⟨_,_,p,c,h2,_⟩:=a.yes d;rw[h2];exact mem_allL.2 ⟨p,by rw[B5 (λb=>by rw[b]at c;simp at c)];exact c,rfl⟩
theorem yz{k:Int}{j:Nat}(hj:j<it nx nx.length):(j:Int)∈ql nx k↔yy nx k j=true:=by
 refine⟨λh=>?_,yA hj⟩;unfold ql qn at h;obtain⟨i,hi,a⟩:=Qv.1 h;have a:i=j:=by omega
 subst a;exact(Qs.1 hi).2
theorem BD{α:Type}{f:Nat->α}{n j:Nat}{d:α}(h:j<n):((range n).map f).getD j d=f j:=by rw[Pl,Pq (by simpa using h)];simp
theorem SpH.hom(h:SpH γ σ τ sl nx sl' nx'):Hom (JA γ σ nx nx') (HX sl nx).2.1 (HX sl nx).2.2.1 (HX sl nx).2.2.2 (HX sl' nx').2.1 (HX sl' nx').2.2.1 (HX sl' nx').2.2.2:=by
 have s:(HX sl nx).2.1.length=it nx nx.length:=by show((range _).map _).length=_;simp
 have A:(HX sl' nx').2.1.length=it nx' nx'.length:=by show((range _).map _).length=_;simp
 refine⟨λr D=>?_,λk f=>?_,λk m g=>?_,λk f=>?_,λj H=>?_⟩
 .rw[s];exact(Hh h.ok r D).2.2
 .rw[s]at f;obtain⟨n,i,a⟩:=h.at f;rw[A];exact a.lt
 .have f:k<it nx nx.length:=by rw[<-s];exact g.lt1
  have g:(m:Int)∈(HX sl nx).2.1.getD k []:=g;show((_:Nat):Int)∈(HX sl' nx').2.1.getD _ [];obtain⟨n,i,a⟩:=h.at f;have v:(HX sl nx).2.1.getD k []=Cn nx k:=BD f;have u:(HX sl' nx').2.1.getD (JA γ σ nx nx' k) []=Cn nx' (JA γ σ nx nx' k):=BD a.lt;rw[v]at g;rw[u];unfold Cn at g⊢;by_cases l:nx.getD n []=[]
  .obtain⟨h1,_,h3⟩:=a.no l;rw[h1,Tn (by show(-1:Int)<0;decide)]at g;rw[h3,Tn (by show(-1:Int)<0;decide)];have g:m=k:=by have:=QC.1 g;omega
   rw[g];exact QC.2 rfl
  .obtain⟨c,h1,p,E,h2,o,h3⟩:=a.yes l;have b:(nx.getD n []).getD i (0,0)∈nx.getD n []:=by rw[tJ c];exact PL c
   have F:=h.ok.ed n a.hn _ b;have z:KJ nx k=(nx.getD n []).getD i (0,0):=by unfold KJ;rw[h1];show(nx.getD ((n:Int)).toNat []).getD (k -it nx ((n:Int)).toNat) (0,0)=_;rw[Oy,a.hj,Rb]
   have q:KJ nx' (JA γ σ nx nx' k)=(nx'.getD (γ n) []).getD p (0,0):=by unfold KJ;rw[h3];show(nx'.getD (((γ n:Nat):Int)).toNat []).getD (JA γ σ nx nx' k -it nx' (((γ n:Nat):Int)).toNat) (0,0)=_;rw[Oy,h2,Rb]
   rw[z,h1,Tm (by show¬_<(0:Int);omega)]at g;rw[q,h3,o,Tm (by show¬((_:Nat):Int)<0;omega)];show _∈gE nx' (((γ _:Nat):Int)).toNat;rw[Oy];exact h.all TK g
 .rw[s]at f;obtain⟨n,i,a⟩:=h.at f;have v:(HX sl nx).2.2.1.getD k 0=Av sl nx k:=BD f;have u:(HX sl' nx').2.2.1.getD (JA γ σ nx nx' k) 0=Av sl' nx' (JA γ σ nx nx' k):=BD a.lt;rw[v,u];unfold Av;by_cases l:nx.getD n []=[]
  .obtain⟨h1,_,h3⟩:=a.no l;rw[h1,h3];rfl
  .obtain⟨c,h1,p,E,h2,o,h3⟩:=a.yes l;have b:(nx.getD n []).getD i (0,0)∈nx.getD n []:=by rw[tJ c];exact PL c
   have F:=h.ok.ed n a.hn _ b;rw[h1,h3,Tm (by show¬((_:Nat):Int)<0;omega),Tm (by show¬_<(0:Int);omega)];show 2 ^ (sl'.getD (((σ _:Nat):Int)).toNat (0,0,0)).1.toNat=_;rw[Oy,h.node _ TK]
 .have hj:j<sl'.length:=by
   have:(HX sl' nx').2.2.2.length=sl'.length:=by show((range _).map _).length=_;simp
   omega
  obtain⟨C,y⟩:=h.t j hj;refine⟨τ j,by show _<((range _).map _).length;simpa using C,λx w d=>?_⟩;rw[s]at w;have v:(HX sl nx).2.2.2.getD (τ j) []=ql nx ((τ j:Nat):Int):=BD C;have u:(HX sl' nx').2.2.2.getD j []=ql nx' (j:Int):=BD hj;obtain⟨n,i,a⟩:=h.at w;rw[v,yz w]at d;rw[u,yz a.lt];unfold yy jS at d⊢;by_cases l:nx.getD n []=[]
  .obtain⟨h1,_,h3⟩:=a.no l;rw[h3];show(!((nx'.getD (((γ n:Nat):Int)).toNat []).any _)||_)=true;rw[Oy,h.bare a.hn l];rfl
  .obtain⟨c,h1,p,E,h2,o,h3⟩:=a.yes l;have b:(nx.getD n []).getD i (0,0)∈nx.getD n []:=by rw[tJ c];exact PL c
   have F:=h.ok.ed n a.hn _ b;rw[h1]at d;rw[h3];change (!((nx.getD ((n:Int)).toNat []).any _)||_)=true at d;show(!((nx'.getD (((γ n:Nat):Int)).toNat []).any _)||_)=true;rw[Oy]at d⊢;simp only[N6,NZ,S3]at d⊢;obtain d|d:=d
   .refine .inl ?_;rw[OD]at d⊢;intro G B f;obtain⟨e,t,I⟩:=h.can n a.hn G B;have D:=h.ok.ed n a.hn e t;have f:G.1=(j:Int):=by simpa using f
    refine d e t ?_;have:σ e.1.toNat=j:=by omega
    have J:=(h.s e.1.toNat TK).2;rw[this]at J;simp;omega
   .refine .inr ?_;rw[d,Oy,y]
theorem SpH.first(h:SpH γ σ τ sl nx sl' nx')(b:γ 0=0){k:Nat}(a:(k:Int)∈(HX sl nx).1):((JA γ σ nx nx' k:Nat):Int)∈(HX sl' nx').1:=by have:=h.all h.ok.pos a;rwa[b]at this
end
def Jh{γ σ τ:Nat->Nat}{sl sl':List cO}{nx nx':List (List cI)}(h:SpH γ σ τ sl nx sl' nx')(g:SpH p τ σ sl' nx' sl nx)(c:γ 0=0)(g0:p 0=0)(f:Ltl):ai (HX sl nx) f↔ai (HX sl' nx') f:=
 ⟨λb=>g.hom.all (λk a=>g.first g0 a) b,λb=>h.hom.all (λk a=>h.first c a) b⟩
def Ji{γ σ τ:Nat->Nat}{sl sl':List cO}{nx nx':List (List cI)}(h:SpH γ σ τ sl nx sl' nx')(g:SpH p τ σ sl' nx' sl nx)(e:γ 0=0)(g0:p 0=0)(hd:∀m,m<nx.length->p (γ m)=m)(gd:∀m,m<nx'.length->γ (p m)=m)(t:Ltl):
  (∀n∈(HX sl nx).1,mE (HX sl nx).2.1 (HX sl nx).2.2.1 (HX sl nx).2.2.2 t n.toNat)↔∀n∈(HX sl' nx').1,mE (HX sl' nx').2.1 (HX sl' nx').2.2.1 (HX sl' nx').2.2.2 t n.toNat:=by
 have b:∀(sl:List cO) (nx:List (List cI)),(HX sl nx).2.1.length=it nx nx.length:=λsl nx=>by show((range _).map _).length=_;simp
 have hi:Iso (JA γ σ nx nx') (JA p τ nx' nx) (HX sl nx).2.1 (HX sl nx).2.2.1 (HX sl nx).2.2.2 (HX sl' nx').2.1 (HX sl' nx').2.2.1 (HX sl' nx').2.2.2:=
  ⟨h.hom,g.hom,λk a=>h.back g.un' hd (by rwa[b]at a),λk a=>g.back h.un' gd (by rwa[b]at a)⟩
 have st:∀{sl:List cO} {nx:List (List cI)},0<nx.length->∀n∈(HX sl nx).1,∃k:Nat,n=(k:Int)/\k<(HX sl nx).2.1.length:=λ {sl nx} d n hn=>by obtain⟨i,hi,rfl⟩:=Qv.1 hn;exact⟨_,rfl,by rw[b];exact iy d (QA.1 hi)⟩
 constructor
 .intro c n hn;obtain⟨k,rfl,a⟩:=st g.ok.pos n hn;have h1:=c _ (g.first g0 hn);rw[Oy]at h1⊢;rw[hi.form t _ (hi.b.lt k a),hi.inv' k a]at h1;exact h1
 .intro c n hn;obtain⟨k,rfl,a⟩:=st h.ok.pos n hn;have h1:=c _ (h.first e hn);rw[Oy]at h1⊢;rw[hi.form t _ a];exact h1
instance:IsF Vy 31:=Vz func31
instance:IsF Vy 74:=Vz func74
instance:IsF Vy 33:=Vz func33
instance:IsF Vy 34:=Vz func34
instance:IsF Vy 29:=Vz func29
instance:IsF Vy 67:=Vz func67
instance:IsF Vy 11:=Vz func11
instance:IsFd Vy 53 0 0:=qA TL
instance:IsFd Vy 53 1 1:=qA TL
def Jf(mo:Option Addr)(mc:Nat)(no:Option Addr)(a:Nat)(ml nl:Nat):Value:=.agg [.slice mo ml mc,.slice no nl a].toArray
def KN(nl:List (List cI))(n:Nat):List Int:=(nl.getD n []).map Prod.snd
def ui(nl:List (List cI)):List (List Int):=(range nl.length).map (KN nl)
def KP{nl:List (List cI)}{n j:Nat}(hn:n<nl.length)(hj:j<nl[n].length):(KN nl n).take (j+1)=(KN nl n).take j++[nl[n][j].2]:=by
 have e:KN nl n=nl[n].map Prod.snd:=by unfold KN;rw[Pl,Pq hn];rfl
 rw[e,<-List.map_take,<-List.map_take,<-QZ hj,Qe];rfl
def KO{nl:List (List cI)}{n:Nat}(hn:n<nl.length):(KN nl n).length=nl[n].length:=by unfold KN;rw[Pl,Pq hn,P4];rfl
def Gj{x:cI}(h:Rd w F v x):v=.agg [Ub x.1,Ub x.2].toArray:=by obtain⟨c1,c2,rfl,h1,h2⟩:=h.pr;rw[Gl h1,Gl h2];rfl
def um(w0:World){mo:Option Addr}{mc ml:Nat}{nl:List (List cI)}(hn:Sl w0 (dk w0) C B nl)(hl:nl.length<=200)(hr:∀r∈nl,r.length<=60):
  Rt Vy 31 [Jf mo mc C B ml nl.length].toArray w0 λv w'=>∃vs,OwnN w' w0.heap.size 39 3 v vs (ui nl)/\Ext w0 w':=by
 refine dR func31 ntmps31 rfl rfl ?_;unfold Jf;refine UZ ?_;refine eH λd hb1 V=>?_;refine UE ?_;refine fI (α:=Raw) rfl rfl rfl rfl TK TQ (λw3 ho3 P=>?_);have T:Ext d w3:=(NP _ _).grown P T8 T2;have R:OwnN w3 d.heap.size 39 3 (.slice (some ⟨d.heap.size,0,none⟩) nl.length nl.length) _ (replicate nl.length ([]:List Int)):=Wg ho3;rw[<-ux (full:=KN nl)]at R;have X:=V.size;clear ho3 P;have hb1x:=hb1.ext T;refine UE ?_;refine p8 (S:=Nat×List Raw) (λs=>[(3,.slice (some ⟨d.heap.size,0,none⟩) nl.length nl.length),(13,.slice C nl.length B),(14,Ub nl.length),(15,Ub s.1)])
  (λs x=>s.1<=nl.length/\OwnN x d.heap.size 39 3 (.slice (some ⟨d.heap.size,0,none⟩) nl.length nl.length) s.2 (uq nl.length (KN nl) s.1 [])/\Ext d x) (λs=>nl.length -s.1) (0,_) TJ ⟨RU _,R,T⟩ ?_
 rintro⟨i,vs⟩ w4 ⟨hi,k,U⟩;dsimp only at hi k U⊢;refine UR ?_;apply ld rfl<;>intro h
 .have c:i<nl.length:=by simp at h;omega
  have hr60:=hr _ (PL c);refine UB ?_;refine fd (i:=i) rfl rfl rfl rfl rfl (hn.at (V.trans U)) c TV (λu q J=>?_);obtain⟨ro,rc,rfl,L⟩:=J.sl;refine Ut ?_;refine p8 (S:=Nat×List Raw) (λs=>[(3,.slice (some ⟨d.heap.size,0,none⟩) nl.length nl.length),(4,Ub i),(13,.slice C nl.length B),(14,Ub nl.length),(15,Ub i),(20,.slice ro nl[i].length rc),(21,Ub nl[i].length),(22,Ub s.1)])
   (λs z=>s.1<=nl[i].length/\OwnN z d.heap.size 39 3 (.slice (some ⟨d.heap.size,0,none⟩) nl.length nl.length) s.2 (uq nl.length (KN nl) i ((KN nl i).take s.1))/\Ext d z) (λs=>nl[i].length -s.1) (0,vs) TJ ⟨RU _,by rw[Q5];exact k,U⟩ ?_
  rintro⟨j,vs⟩ A ⟨hj,k,W⟩;dsimp only at hj k W⊢;have D:Sl A (dk w0) ro rc nl[i]:=L.mono (λb n=>((V.trans W).block b n).trans ((V.trans U).block b n).symm) T0;refine UR ?_;apply ld rfl<;>intro h
  .have G:j<nl[i].length:=by simp at h;omega
   have E:=KP c G;have htl:=KO c;refine UC ?_;refine fd (i:=j) rfl rfl rfl rfl rfl D G TV (λu q J=>?_);rw[Gj J];clear J;generalize nl[i][j]=x at*;refine eC (λw6 t e6=>?_);refine f7 t (λI t O=>?_);have e7:Ext A I:=e6.grown O e6.size TX;have hsz:d.heap.size<A.heap.size:=(k.out.lt _ rfl).2.1;have m:=k.len;rw[uu]at m;have f:i<vs.length:=by omega
   have hbi:=λg Z=>((k.inn i f (by rw[uu];exact c)).lt g Z).2.1;have k:=k.ext e7;have e7':=VB W e7;clear e6 O;apply p0;apply bA;have hd:=mm I;have l:=k.ext hd;have hb7d:=t.ext hd;have H:=l.inn i f (by rw[uu];exact c);rw[ut c]at H;obtain⟨oo,oc,Y,y⟩:=l.out.slF (F':=λb=>b=d.heap.size) TY (λg Z=>by cases Z;rfl);obtain⟨rfl,_,rfl⟩:=SV Y;have hszd:=hd.size;have hsz7:=e7.size;have hl7:=t.lt;have hK:∀z,(λz:World=>∀b,b=d.heap.size\/b=A.heap.size->z.heap[b]?=(drew I).heap[b]?) z->z.heap[A.heap.size]?=(drew I).heap[A.heap.size]?:=λz K=>K _ (.inr rfl);refine aF (λz:World=>∀b,b=d.heap.size\/b=A.heap.size->z.heap[b]?=(drew I).heap[b]?) [Wr 0,Wr 1,Wr 2,Wr 3,Wr 4,Wr 5,Wr 6,Wr 7,Ws 8,Ws 9,Wr 10] 11 mixed TL T5 (Vo ?_);rw[<-m]at y⊢;refine cb (w:=drew I) (F:=λb=>b=d.heap.size) (λz K b n=>K b (.inl n)) rfl rfl rfl rfl rfl rfl rfl y f TV (λu q J=>?_);obtain⟨rfl,_⟩:=J.raw;rw[m];refine Vn ?_;refine bW (bytes:=8) rfl rfl rfl rfl TV rfl rfl TV H T7 TK TY TN (by rw[Qb];unfold maxLen;omega) (by rw[Qb];omega)
    (λz K b n=>K.block b TK (λe=>?_)) (λv' w8 p ho8 o hnb=>?_)
   .obtain rfl|rfl:=n
    .exact l.dio i f _ e.symm rfl
    .have:=(k.inn i f (by rw[uu];exact c)).lt _ e.symm;have:=hbi _ e.symm;omega
   rw[<-E]at ho8;have M:=l.mid f o;refine cC (yv:=(⟨v'⟩:Raw)) rfl rfl rfl rfl rfl rfl M f TV TV (VO _ _ _ ?_) (λw9 q ho9 N=>?_)
   .obtain⟨a,b,rfl⟩:=ho8.val;rfl
   have Q:=l.set f ho8 o hnb ho9 N;rw[uw c]at Q;have e5d:=e7'.trans hd;have e9:Ext d w9:=(e5d.grown o e5d.size (λb n=>(H.lt b n).1)).grown N (Rr e5d.size o.size) (λb n=>(l.out.lt b n).1);refine Ui ?_;exact m5 (j+1,vs.set i ⟨v'⟩) TJ ⟨G,Q,e9⟩ TP
  .obtain rfl:j=nl[i].length:=by simp at h;omega
   refine Uj ?_;refine m5 (i+1,vs) TJ ⟨c,?_,W⟩ TP;rw[<-KO c,Q0,uv]at k;exact k
 .obtain rfl:i=nl.length:=by simp at h;omega
  rw[ur]at k;refine UF ?_;exact be ⟨_,k.low X,V.trans U⟩
end Go.Proofs.YtfpjecjadlgdcaaGreatDoor
