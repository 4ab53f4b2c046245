import Derived.Test.YtfpjecjadlgdcaaGreatDoorPtTopOrder1
set_option linter.unusedVariables false
set_option linter.unusedSimpArgs false
set_option linter.defProp false
namespace Go.Proofs.YtfpjecjadlgdcaaGreatDoor
set_option maxHeartbeats 4000000
variable{P:Program}{α:Type}{B a K E:Nat}{m:List Int}{F:Nat→Prop}{w:World}{v A:Value}{g:List (List Int)}{x:Int}{l:List Bool}{r:List Value}{t:TypeId}{Q:Exit→Act→World→Prop}{p:Nat→Nat}{e:Nat→Nat→Prop}{L:List Oper}{c:Value→World→Prop}{f:List ByteArray}{y:Array Bool}{S:World→Prop}{b:Value→(Nat→Nat)→World→Prop}{j:Array Edge}{o:Oper}{z:Func}{H:String}{I:Array TypeId}{u:Array Value}
open Go.RowKit
open _root_.Go.Proofs.Tryz
open List(range)
open List(replicate)
open Nat(ble)
open Nat(beq)
open Region(ready)
def uC{c b:World}{r:Option Nat}(h1:w.grownBy c r)(h2:c.grownBy b r):w.grownBy b r:=
 ⟨h2.os.trans h1.os,h2.tape.trans h1.tape,h2.output.trans h1.output,Rr h1.size h2.size,λk d a=>(h2.block k (Rv d h1.size) a).trans (h1.block k d a)⟩
def Ext.grw{a:World}(h:Ext w a)(r:Option Nat):w.grownBy a r:=⟨h.os,h.tape,h.output,h.size,λk b _=>h.block k b⟩
mutual
def kD:Ltl->Int->Int->Int×Int
 |.mk k n kids,deep,c=>if c+1>60 then(2,c+1)else if deep>20 then(5,c+1)else if Af k≠kids.length\/n<0\/n>63\/(k≠3/\n≠0)then(1,c+1)else kE kids (deep+1) (c+1)
def kE:List Ltl->Int->Int->Int×Int
 |[],_,c=>(0,c)
 |x::r,deep,c=>if(kD x deep c).1≠0 then kD x deep c else kE r deep (kD x deep c).2
end
mutual
theorem kI:∀(t:Ltl) (deep c:Int),(kD t deep c).1=0->c<(kD t deep c).2/\(kD t deep c).2<=60
 |.mk k n kids,deep,c,h=>by
  simp only[kD]at h⊢
  split at h
  .cases h
  .rename_i h1
   rw[Tm h1];split at h
   .cases h
   .rename_i h2
    rw[Tm h2];split at h
    .cases h
    .rename_i h3
     rw[Tm h3];have:=kF kids (deep+1) (c+1) TK h;omega
theorem kF:∀(l:List Ltl) (deep c:Int),c<=60->(kE l deep c).1=0->c<=(kE l deep c).2/\(kE l deep c).2<=60
 |[],deep,c,a,h=>by simp only[kE];omega
 |x::r,deep,c,a,h=>by
  simp only[kE]at h⊢
  split at h
  .rename_i h1;exact absurd h h1
  .rename_i h1
   rw[Tm h1];have h2:=kI x deep c (by simpa using h1);have h3:=kF r deep _ h2.2 h;omega
end
def Bh:∀(m:Nat) (t:Ltl),t.nodes<=m->∀(w:World) (F:Nat->Prop) (deep c:Int) (bn:Nat) (ao:Option Addr) (cap:Nat),Sl w F ao cap t.kids->(∀b,F b->b<w.heap.size)->¬F bn->
  Blk w bn 3 [Ub c]->0<=c->c<=60->0<=deep->deep<=1000->
  Rt Vy 108 [Bi t.k t.n ao t.kids.length cap,Ub deep,Uc bn].toArray w λv w'=>v=Ub (kD t deep c).1/\Blk w' bn 3 [Ub (kD t deep c).2]/\w.grownBy w' (some bn)
 |0,t,Z=>by have:=t.nodes_pos;omega
 |m+1,.mk k n kids,Z=>by
  intro w F deep c bn ao cap Y hF hn f hc0 hc1 hd0 hd1;simp only[Ltl.kids,Ltl.k,Ltl.n]at*;refine dT func108 ntmps108 rfl rfl ?_;have hlen:=Y.len63;have hbn:=f.lt;refine UZ ?_;refine eH λw1 hf N=>?_;have V:=f.ext N;have R:=N.grw (some bn);refine UN ?_;refine f7 V (λw2 A D=>?_);have G:=hf.kept D TR;have p:=uC R D;simp only[kD];refine UE ?_;refine ld rfl (λh=>?_) (λh=>?_)<;>simp only[Td,Tb,Tj]at h
  .refine Ud ?_;refine d6 ?_;rw[Tn h];exact⟨rfl,A,p⟩
  rw[Tm TK];refine UR ?_;refine ld rfl (λh1=>?_) (λh1=>?_)<;>simp only[Td,Tb,Tj]at h1
  .refine Ud ?_;refine d6 ?_;rw[Tn h1];exact⟨rfl,A,p⟩
  rw[Tm TK];refine aB [(1,Ub deep),(2,Uc bn),(3,Uc w.heap.size),(23,.bool (decide (Af k≠kids.length\/n<0\/n>63\/(k≠3/\n≠0))))] ?_ ?_
  .refine U7 ?_;refine VX rfl rfl rfl (λw' h=>VR (Ai w' k) (λv w'' X=>⟨X.1,X.2▸p7 _⟩)) (Vi ?_);refine VD λw3 a=>?_;have T:=G.ext a;refine UQ ?_;refine ld rfl (λh2=>?_) (λh2=>?_)<;>simp at h2
   .refine UH ?_;refine aU ⟨rfl,rfl,rfl,(S9 (λb=>some (Value.bool b)) ?_),trivial⟩ a;have:(Af k != (kids.length:Int))=true:=by simpa using h2
    rw[this,Tc (.inl h2)]
   .refine UV ?_;(refine a6 (λh=>?_) (λh=>?_))<;>simp at h
    .refine UI ?_;refine aU ⟨rfl,rfl,rfl,(S9 (λb=>some (Value.bool b)) ?_),trivial⟩ a;rw[Tc (.inr (.inl h))]
    .refine Uu ?_;refine ld rfl (λh3=>?_) (λh3=>?_)<;>simp at h3
     .refine UH ?_;refine aU ⟨rfl,rfl,rfl,(S9 (λb=>some (Value.bool b)) ?_),trivial⟩ a;rw[Tc h3,Tc (.inr (.inr (.inl h3)))]
     .refine UV ?_;(refine a6 (λh=>?_) (λh=>?_))<;>simp at h
      .refine Uu ?_;refine aU ⟨rfl,rfl,rfl,(S9 (λb=>some (Value.bool b)) ?_),trivial⟩ a;(rw[NU];simp;try omega)
      .refine Ue ?_;refine aU ⟨rfl,rfl,rfl,(S9 (λb=>some (Value.bool b)) ?_),trivial⟩ a;(rw[NU];simp;try omega)
  intro w3 a;have K:=A.ext a;have T:=G.ext a;have E:=uC p (a.grw (some bn));refine ld rfl (λh2=>?_) (λh2=>?_)<;>simp only[Td,Tb]at h2
  .rw[Tn h2];refine Ud ?_;exact be ⟨rfl,K,E⟩
  rw[Tm h2];refine UM ?_;refine p8 (S:=Nat×Int) (λx=>[(1,Ub deep),(2,Uc bn),(48,.slice ao kids.length cap),(49,Ub (kids.length:Int)),(50,Ub (x.1:Int))])
   (λx w'=>w.grownBy w' (some bn)/\Blk w' bn 3 [Ub x.2]/\0<=x.2/\x.2<=60/\x.1<=kids.length/\kE kids (deep+1) (c+1)=kE (kids.drop x.1) (deep+1) x.2) (λx=>kids.length -x.1) (0,c+1) TJ ⟨E,K,by simp only;omega,by simp only;omega,by omega,rfl⟩ ?_
  rintro⟨i,ci⟩ O ⟨d,z,l,I,hi,H⟩;simp only at z l I hi H;rw[H];refine UR ?_;refine ld rfl (λh3=>?_) (λh3=>?_)<;>simp at h3
  .have P:Sl O F ao cap kids:=Y.mono (λb f=>d.block b (hF b f) (by intro e;cases e;exact hn f)) λ_ h=>h;have L:∀b,F b->b<O.heap.size:=λb f=>Rv (hF b f) d.size;refine UC ?_;refine fe P h3 TV (λu q hu=>?_);have s:kids.drop i=kids[i]::kids.drop (i+1):=OX h3;have o:(kids[i]).nodes<=m:=by have:=VU kids _ (PL h3);simp only[Ltl.nodes]at Z;omega
   rw[s];simp only[kE];generalize kids[i]=x at*;obtain⟨ao',cap',rfl,hx⟩:=hu.ltl;have hw4:w.heap.size<=O.heap.size:=d.size;refine eC (λw5 U M=>?_);refine f7 U (λW hb6 C=>?_);have j:Ext O W:=M.grown C M.size TX;have J:=z.ext j;have Q:=uC d (j.grw (some bn));refine UI ?_;refine eK (Bh m x o W F (deep+1) ci bn ao' cap' (hx.mono (λb f=>j.block b (L b f)) λ_ h=>h) (λb f=>Rv (L b f) j.size) hn J l I TK TK) ?_;rintro v w7 ⟨rfl,y,g⟩;have g:=uC Q g;have B:=kI x (deep+1) ci;generalize kD x (deep+1) ci=r at*;obtain⟨e,c'⟩:=r;simp only at B y;refine UR ?_;refine ld rfl (λh4=>?_) (λh4=>?_)<;>simp at h4
   .refine Ud ?_;refine d6 ?_;rw[Tn h4];exact⟨rfl,y,g⟩
   .have:=B h4;refine US ?_;refine m5 (i+1,c') TJ ⟨g,y,by simp only;omega,by simp only;omega,by simp only;omega,?_⟩ (by simp only;omega);simp only;rw[Tm (by simp[h4])]
  .refine UF ?_;refine d6 ?_;rw[OY TK];exact⟨rfl,z,d⟩
def Bg(w:World){t:Ltl}{ao:Option Addr}{cap:Nat}(o:Sl w F ao cap t.kids)(hF:∀b,F b->b<w.heap.size):
  Rt Vy 58 [Bi t.k t.n ao t.kids.length cap].toArray w λv w'=>v=Ub (kD t 1 0).1/\Ext w w':=by
 refine dR func58 ntmps58 rfl rfl (UZ ?_);refine eH λm hf c=>?_;refine UR ?_;refine eC (λu d i=>?_);have p:=d.lt;refine f7 d (λl d f=>?_);have e:=c.trans i;have a:Ext w l:=e.grown f e.size (λg k=>by cases k;exact c.size);have q:=(hf.ext i).kept f (by have:=hf.lt;simp;omega);have n:w.heap.size<=m.heap.size:=c.size;refine UD ?_;refine eK (Bh t.nodes t T8 l F 1 0 m.heap.size ao cap (o.mono (λb d=>a.block b (hF b d)) λ_ h=>h) (λb d=>Rv (hF b d) a.size) (λh=>by have:=hF _ h;omega) d TK TK TK TK) ?_;rintro v s ⟨rfl,r,j⟩;refine Uf ?_;exact d6 ⟨rfl,a.grown j a.size (λg k=>by cases k;exact c.size)⟩
abbrev ar:=List UInt8
def Kg:ar:=[116,114,117,101]
def Kd:ar:=[102,97,108,115,101]
def Kf:ar:=[115,105,108,101,110,116]
def yf(a:List ByteArray)(l:ar):Int:=match a.findIdx? (λx=>x.data.toList==l)with
 |some i=>(i:Int)
 |none=> -1
def Cx(a:List ByteArray)(n:Int):ar:=
 if n=63 then Kf else if n>=(a.length:Int)then []else if B8 (a.getD n.toNat ⟨#[]⟩)=false then []
 else if yf a (a.getD n.toNat ⟨#[]⟩).data.toList≠n then []else(a.getD n.toNat ⟨#[]⟩).data.toList
def B_{l:ar}(h:B9 l=true):∀c∈l,Bb c=true:=by unfold B9 at h;simp only[NS]at h;exact OA.1 h.2
def Ca{l:ar}(h:B9 l=true):l≠[]/\l≠Kg/\l≠Kd/\l≠Kf/\l.length<=8:=by unfold B9 at h;simp only[NS,NZ,S2,Tb]at h;obtain⟨⟨⟨⟨⟨h1,h2⟩,h3⟩,h4⟩,a⟩,_⟩:=h;exact⟨h1,h3,h4,a,by omega⟩
def Cy(a:List ByteArray)(n:Int):(Cx a n).length<=8:=by
 unfold Cx;split
 .decide
 split
 .simp
 split
 .simp
 rename_i h;split
 .simp
 exact(Ca (l:=(a.getD n.toNat ⟨#[]⟩).data.toList) (by simpa using h)).2.2.2.2
def iW(k i kid:Int):Bool:=if kid=5 then k==6||(k==5&&i==0)else if kid=6 then k==6&&i==0 else if kid=8\/kid=9 then k==kid&&i==1 else true
def Aa(b:Bool)(t:ar):ar:=if b=true then t else 40::(t++[41])
def I0(k:Int):ar:=if k=5 then [38]else if k=6 then [47]else if k=8 then [85]else if k=9 then [82]else []
def zr(nm:Int->ar)(k n:Int)(ks:List (Int×ar)):ar:=
 if k=1 then Kg else if k=2 then Kd else if k=3 then nm n
 else if k=4 then 33::Aa (iW k 0 (ks.getD 0 (0,[])).1) (ks.getD 0 (0,[])).2
 else if k=7 then 88::32::Aa (iW k 0 (ks.getD 0 (0,[])).1) (ks.getD 0 (0,[])).2
 else if k=10 then 70::32::Aa (iW k 0 (ks.getD 0 (0,[])).1) (ks.getD 0 (0,[])).2
 else if k=11 then 71::32::Aa (iW k 0 (ks.getD 0 (0,[])).1) (ks.getD 0 (0,[])).2
 else Aa (iW k 0 (ks.getD 0 (0,[])).1) (ks.getD 0 (0,[])).2++[32]++I0 k++[32]++Aa (iW k 1 (ks.getD 1 (0,[])).1) (ks.getD 1 (0,[])).2
mutual
def LU(nm:Int->ar):Ltl->ar
 |.mk k n kids=>zr nm k n (LX nm kids)
def LX(nm:Int->ar):List Ltl->List (Int×ar)
 |[]=>[]
 |x::r=>(x.k,LU nm x)::LX nm r
end
mutual
def iO(nm:Int->ar):Ltl->Bool
 |.mk k n kids=>(k==3&&nm n==[])||iP nm kids
def iP(nm:Int->ar):List Ltl->Bool
 |[]=>false
 |x::r=>iO nm x||iP nm r
end
def Fy(f:Ltl)(a:List ByteArray):ar×Int:=
 if(kD f 1 0).1≠0 then([],(kD f 1 0).1)else if iO (Cx a) f=true then([],4)else(LU (Cx a) f,0)
def Ab(b:Bool)(t:ar):(Aa b t).length<=t.length+2:=by unfold Aa;split<;>simp
def zt{nm:Int->ar}(hn:∀n,(nm n).length<=8)(k n:Int)(ks:List (Int×ar)):(zr nm k n ks).length<=(ks.getD 0 (0,[])).2.length+(ks.getD 1 (0,[])).2.length+8:=by
 have a:=Ab (iW k 0 (ks.getD 0 (0,[])).1) (ks.getD 0 (0,[])).2;have h1:=Ab (iW k 1 (ks.getD 1 (0,[])).1) (ks.getD 1 (0,[])).2;have h2:=hn n;have h3:(I0 k).length<=1:=by unfold I0;repeat (first|split|simp)
 unfold zr Kg Kd
 iterate 7 (split;·(first|omega|(simp only[PX,PY,P5];omega)))
 simp only[PX,PY,P5];omega
mutual
theorem LW{nm:Int->ar}(hn:∀n,(nm n).length<=8):∀f:Ltl,(LU nm f).length<=8*f.nodes
 |.mk k n kids=>by
  have h:=zt hn k n (LX nm kids);have h2:=LY hn kids;simp only[LU,Ltl.nodes];have:((LX nm kids).getD 0 (0,[])).2.length+((LX nm kids).getD 1 (0,[])).2.length<=((LX nm kids).map λx=>x.2.length).sum:=by
   rcases LX nm kids with _|⟨a,_|⟨b,r⟩⟩<;>simp<;>omega
  omega
theorem LY{nm:Int->ar}(hn:∀n,(nm n).length<=8):∀l:List Ltl,((LX nm l).map λx=>x.2.length).sum<=8*Ltl.nodesL l
 |[]=>by simp[LX,Ltl.nodesL]
 |x::r=>by
  have h1:=LW hn x;have h2:=LY hn r;simp only[LX,Ltl.nodesL,Qg,QX];omega
end
inductive PR where
 |er (c:Int) (a:Nat):PR
 |ok (f:Ltl) (st:ar×ar):PR
def Ag{k:Int}{m:Nat}(h:Af k=(m:Int)):(m=0/\(k=1\/k=2\/k=3))\/(m=1/\(k=4\/k=7\/k=10\/k=11))\/(m=2/\(k=5\/k=6\/k=8\/k=9)):=by
 unfold Af at h;split at h
 .left;exact⟨by omega,by assumption⟩
 split at h
 .right;left;exact⟨by omega,by assumption⟩
 split at h
 .right;right;exact⟨by omega,by assumption⟩
 .omega
def UT(t:ar):Prop:=t≠[85]/\t≠[82]/\t≠[87]
instance(t:ar):Decidable (UT t):=by unfold UT;infer_instance
section
variable {nms:List ByteArray}{t u:ar}{f g:Ltl}
end
section
variable {nms:List ByteArray}{t:ar}{f:Ltl}
end
section
variable {nms:List ByteArray}{N:Nat}{PF:Ltl->Prop}
end
instance:IsT Vy 35 Ltl:=VL TL underlying35 rfl
instance:IsS Vy 33 35:=⟨SD⟩
instance:IsT Vy 33 (List Ltl):=VL TL SD rfl
instance:IsC Vy 35 3 true:=VA TL underlying35 rfl
instance:IsC Vy 33 1 false:=VA TL SD rfl
instance:IsFd Vy 35 0 0:=qA TL
instance:IsFd Vy 35 1 1:=qA TL
instance:IsFd Vy 35 2 2:=qA TL
instance:IsZC Vy 35 [Ub 0,Ub 0,.slice none 0 0]:=v2 (z:=.agg #[Ub 0,Ub 0,.slice none 0 0]) TL rfl
def Ad(k:Int):Int:=if k=1\/k=2\/k=3 then 0 else if k=4\/k=7\/k=8\/k=9\/k=11\/k=12\/k=13 then 1 else if k=5\/k=6\/k=10\/k=14 then 2 else -1
def lD(w:World)(k:Int):Rt Vy 231 [Ub k].toArray w λv w'=>v=Ub (Ad k)/\w=w':=by
 refine dR func231 ntmps231 rfl rfl ?_;unfold Ad;refine Ux ?_;refine ld rfl (λh=>?_) (λh=>?_)<;>simp at h
 .subst h;refine U0 ?_;exact be ⟨rfl,rfl⟩
 refine UR ?_;refine ld rfl (λh=>?_) (λh=>?_)<;>simp at h
 .subst h;refine U0 ?_;exact be ⟨rfl,rfl⟩
 refine UR ?_;refine ld rfl (λh=>?_) (λh=>?_)<;>simp at h
 .subst h;refine Ud ?_;exact be ⟨rfl,rfl⟩
 rw[Tm TK];refine UR ?_;refine ld rfl (λh=>?_) (λh=>?_)<;>simp at h
 .subst h;refine U0 ?_;exact be ⟨rfl,rfl⟩
 refine UR ?_;refine ld rfl (λh=>?_) (λh=>?_)<;>simp at h
 .subst h;refine U0 ?_;exact be ⟨rfl,rfl⟩
 refine UR ?_;refine ld rfl (λh=>?_) (λh=>?_)<;>simp at h
 .subst h;refine U0 ?_;exact be ⟨rfl,rfl⟩
 refine UR ?_;refine ld rfl (λh=>?_) (λh=>?_)<;>simp at h
 .subst h;refine U0 ?_;exact be ⟨rfl,rfl⟩
 refine UR ?_;refine ld rfl (λh=>?_) (λh=>?_)<;>simp at h
 .subst h;refine U0 ?_;exact be ⟨rfl,rfl⟩
 refine UR ?_;refine ld rfl (λh=>?_) (λh=>?_)<;>simp at h
 .subst h;refine U0 ?_;exact be ⟨rfl,rfl⟩
 refine UR ?_;refine ld rfl (λh=>?_) (λh=>?_)<;>simp at h
 .subst h;refine Ud ?_;exact be ⟨rfl,rfl⟩
 rw[Tm TK];refine UR ?_;refine ld rfl (λh=>?_) (λh=>?_)<;>simp at h
 .subst h;refine U0 ?_;exact be ⟨rfl,rfl⟩
 refine UR ?_;refine ld rfl (λh=>?_) (λh=>?_)<;>simp at h
 .subst h;refine U0 ?_;exact be ⟨rfl,rfl⟩
 refine UR ?_;refine ld rfl (λh=>?_) (λh=>?_)<;>simp at h
 .subst h;refine U0 ?_;exact be ⟨rfl,rfl⟩
 refine UR ?_;refine ld rfl (λh=>?_) (λh=>?_)<;>simp at h
 .subst h;refine Ud ?_;exact be ⟨rfl,rfl⟩
 rw[Tm TK];refine Uw ?_;exact be ⟨rfl,rfl⟩
mutual
def kp:Ltl->Int->Int->Int×Int
 |.mk k n kids,deep,c=>if c+1>60 then(2,c+1)else if deep>20 then(5,c+1)else if Ad k≠kids.length\/n<0\/n>63\/(k≠3/\n≠0)then(1,c+1)else kq kids (deep+1) (c+1)
def kq:List Ltl->Int->Int->Int×Int
 |[],_,c=>(0,c)
 |x::r,deep,c=>if(kp x deep c).1≠0 then kp x deep c else kq r deep (kp x deep c).2
end
mutual
theorem kx:∀(t:Ltl) (deep c:Int),(kp t deep c).1=0->c<(kp t deep c).2/\(kp t deep c).2<=60
 |.mk k n kids,deep,c,h=>by
  simp only[kp]at h⊢
  split at h
  .cases h
  .rename_i h1
   rw[Tm h1];split at h
   .cases h
   .rename_i h2
    rw[Tm h2];split at h
    .cases h
    .rename_i h3
     rw[Tm h3];have:=kr kids (deep+1) (c+1) TK h;omega
theorem kr:∀(l:List Ltl) (deep c:Int),c<=60->(kq l deep c).1=0->c<=(kq l deep c).2/\(kq l deep c).2<=60
 |[],deep,c,a,h=>by simp only[kq];omega
 |x::r,deep,c,a,h=>by
  simp only[kq]at h⊢
  split at h
  .rename_i h1;exact absurd h h1
  .rename_i h1
   rw[Tm h1];have h2:=kx x deep c (by simpa using h1);have h3:=kr r deep _ h2.2 h;omega
end
def j7:∀(m:Nat) (t:Ltl),t.nodes<=m->∀(w:World) (F:Nat->Prop) (deep c:Int) (bn:Nat) (ao:Option Addr) (cap:Nat),Sl w F ao cap t.kids->(∀b,F b->b<w.heap.size)->¬F bn->
  Blk w bn 3 [Ub c]->0<=c->c<=60->0<=deep->deep<=1000->
  Rt Vy 159 [Bi t.k t.n ao t.kids.length cap,Ub deep,Uc bn].toArray w λv w'=>v=Ub (kp t deep c).1/\Blk w' bn 3 [Ub (kp t deep c).2]/\w.grownBy w' (some bn)
 |0,t,Z=>by have:=t.nodes_pos;omega
 |m+1,.mk k n kids,Z=>by
  intro w F deep c bn ao cap Y hF hn f hc0 hc1 hd0 hd1;simp only[Ltl.kids,Ltl.k,Ltl.n]at*;refine dT func159 ntmps159 rfl rfl ?_;have hlen:=Y.len63;have hbn:=f.lt;refine UZ ?_;refine eH λw1 hf N=>?_;have V:=f.ext N;have R:=N.grw (some bn);refine UN ?_;refine f7 V (λw2 A D=>?_);have G:=hf.kept D TR;have p:=uC R D;simp only[kp];refine UE ?_;refine ld rfl (λh=>?_) (λh=>?_)<;>simp only[Td,Tb,Tj]at h
  .refine Ud ?_;refine d6 ?_;rw[Tn h];exact⟨rfl,A,p⟩
  rw[Tm TK];refine UR ?_;refine ld rfl (λh1=>?_) (λh1=>?_)<;>simp only[Td,Tb,Tj]at h1
  .refine Ud ?_;refine d6 ?_;rw[Tn h1];exact⟨rfl,A,p⟩
  rw[Tm TK];refine aB [(1,Ub deep),(2,Uc bn),(3,Uc w.heap.size),(23,.bool (decide (Ad k≠kids.length\/n<0\/n>63\/(k≠3/\n≠0))))] ?_ ?_
  .refine U7 ?_;refine VX rfl rfl rfl (λw' h=>VR (lD w' k) (λv w'' X=>⟨X.1,X.2▸p7 _⟩)) (Vi ?_);refine VD λw3 a=>?_;have T:=G.ext a;refine UQ ?_;refine ld rfl (λh2=>?_) (λh2=>?_)<;>simp at h2
   .refine UH ?_;refine aU ⟨rfl,rfl,rfl,(S9 (λb=>some (Value.bool b)) ?_),trivial⟩ a;have:(Ad k != (kids.length:Int))=true:=by simpa using h2
    rw[this,Tc (.inl h2)]
   .refine UV ?_;(refine a6 (λh=>?_) (λh=>?_))<;>simp at h
    .refine UI ?_;refine aU ⟨rfl,rfl,rfl,(S9 (λb=>some (Value.bool b)) ?_),trivial⟩ a;rw[Tc (.inr (.inl h))]
    .refine Uu ?_;refine ld rfl (λh3=>?_) (λh3=>?_)<;>simp at h3
     .refine UH ?_;refine aU ⟨rfl,rfl,rfl,(S9 (λb=>some (Value.bool b)) ?_),trivial⟩ a;rw[Tc h3,Tc (.inr (.inr (.inl h3)))]
     .refine UV ?_;(refine a6 (λh=>?_) (λh=>?_))<;>simp at h
      .refine Uu ?_;refine aU ⟨rfl,rfl,rfl,(S9 (λb=>some (Value.bool b)) ?_),trivial⟩ a;(rw[NU];simp;try omega)
      .refine Ue ?_;refine aU ⟨rfl,rfl,rfl,(S9 (λb=>some (Value.bool b)) ?_),trivial⟩ a;(rw[NU];simp;try omega)
  intro w3 a;have K:=A.ext a;have T:=G.ext a;have E:=uC p (a.grw (some bn));refine ld rfl (λh2=>?_) (λh2=>?_)<;>simp only[Td,Tb]at h2
  .rw[Tn h2];refine Ud ?_;exact be ⟨rfl,K,E⟩
  rw[Tm h2];refine UM ?_;refine p8 (S:=Nat×Int) (λx=>[(1,Ub deep),(2,Uc bn),(48,.slice ao kids.length cap),(49,Ub (kids.length:Int)),(50,Ub (x.1:Int))])
   (λx w'=>w.grownBy w' (some bn)/\Blk w' bn 3 [Ub x.2]/\0<=x.2/\x.2<=60/\x.1<=kids.length/\kq kids (deep+1) (c+1)=kq (kids.drop x.1) (deep+1) x.2) (λx=>kids.length -x.1) (0,c+1) TJ ⟨E,K,by simp only;omega,by simp only;omega,by omega,rfl⟩ ?_
  rintro⟨i,ci⟩ O ⟨d,z,l,I,hi,H⟩;simp only at z l I hi H;rw[H];refine UR ?_;refine ld rfl (λh3=>?_) (λh3=>?_)<;>simp at h3
  .have P:Sl O F ao cap kids:=Y.mono (λb f=>d.block b (hF b f) (by intro e;cases e;exact hn f)) λ_ h=>h;have L:∀b,F b->b<O.heap.size:=λb f=>Rv (hF b f) d.size;refine UC ?_;refine fe P h3 TV (λu q hu=>?_);have s:kids.drop i=kids[i]::kids.drop (i+1):=OX h3;have o:(kids[i]).nodes<=m:=by have:=VU kids _ (PL h3);simp only[Ltl.nodes]at Z;omega
   rw[s];simp only[kq];generalize kids[i]=x at*;obtain⟨ao',cap',rfl,hx⟩:=hu.ltl;have hw4:w.heap.size<=O.heap.size:=d.size;refine eC (λw5 U M=>?_);refine f7 U (λW hb6 C=>?_);have j:Ext O W:=M.grown C M.size TX;have J:=z.ext j;have Q:=uC d (j.grw (some bn));refine UI ?_;refine eK (j7 m x o W F (deep+1) ci bn ao' cap' (hx.mono (λb f=>j.block b (L b f)) λ_ h=>h) (λb f=>Rv (L b f) j.size) hn J l I TK TK) ?_;rintro v w7 ⟨rfl,y,g⟩;have g:=uC Q g;have B:=kx x (deep+1) ci;generalize kp x (deep+1) ci=r at*;obtain⟨e,c'⟩:=r;simp only at B y;refine UR ?_;refine ld rfl (λh4=>?_) (λh4=>?_)<;>simp at h4
   .refine Ud ?_;refine d6 ?_;rw[Tn h4];exact⟨rfl,y,g⟩
   .have:=B h4;refine US ?_;refine m5 (i+1,c') TJ ⟨g,y,by simp only;omega,by simp only;omega,by simp only;omega,?_⟩ (by simp only;omega);simp only;rw[Tm (by simp[h4])]
  .refine UF ?_;refine d6 ?_;rw[OY TK];exact⟨rfl,z,d⟩
def mD(w:World){t:Ltl}{ao:Option Addr}{cap:Nat}(o:Sl w F ao cap t.kids)(hF:∀b,F b->b<w.heap.size):
  Rt Vy 94 [Bi t.k t.n ao t.kids.length cap].toArray w λv w'=>v=Ub (kp t 1 0).1/\Ext w w':=by
 refine dR func94 ntmps94 rfl rfl (UZ ?_);refine eH λm hf c=>?_;refine UR ?_;refine eC (λu d i=>?_);have p:=d.lt;refine f7 d (λl d f=>?_);have e:=c.trans i;have a:Ext w l:=e.grown f e.size (λg k=>by cases k;exact c.size);have q:=(hf.ext i).kept f (by have:=hf.lt;simp;omega);have n:w.heap.size<=m.heap.size:=c.size;refine UD ?_;refine eK (j7 t.nodes t T8 l F 1 0 m.heap.size ao cap (o.mono (λb d=>a.block b (hF b d)) λ_ h=>h) (λb d=>Rv (hF b d) a.size) (λh=>by have:=hF _ h;omega) d TK TK TK TK) ?_;rintro v s ⟨rfl,r,j⟩;refine Uf ?_;exact d6 ⟨rfl,a.grown j a.size (λg k=>by cases k;exact c.size)⟩
def iV(k i kid:Int):Bool:=if kid=5 then k==6||(k==5&&i==0)else if kid=6 then k==6&&i==0 else true
def IZ(k:Int):ar:=if k=4 then [33]else if k=7 then [69,88,32]else if k=8 then [69,70,32]else if k=9 then [69,71,32]else if k=11 then [65,88,32]else if k=12 then [65,70,32]else if k=13 then [65,71,32]else []
def zp(nm:Int->ar)(k n:Int)(ks:List (Int×ar)):ar:=
 if k=1 then Kg else if k=2 then Kd else if k=3 then nm n
 else if k=5 then Aa (iV k 0 (ks.getD 0 (0,[])).1) (ks.getD 0 (0,[])).2++[32,38,32]++Aa (iV k 1 (ks.getD 1 (0,[])).1) (ks.getD 1 (0,[])).2
 else if k=6 then Aa (iV k 0 (ks.getD 0 (0,[])).1) (ks.getD 0 (0,[])).2++[32,47,32]++Aa (iV k 1 (ks.getD 1 (0,[])).1) (ks.getD 1 (0,[])).2
 else if k=10 then [69,32,91]++(ks.getD 0 (0,[])).2++[32,85,32]++(ks.getD 1 (0,[])).2++[93]
 else if k=14 then [65,32,91]++(ks.getD 0 (0,[])).2++[32,85,32]++(ks.getD 1 (0,[])).2++[93]
 else IZ k++Aa (iV k 0 (ks.getD 0 (0,[])).1) (ks.getD 0 (0,[])).2
mutual
def LP(nm:Int->ar):Ltl->ar
 |.mk k n kids=>zp nm k n (LS nm kids)
def LS(nm:Int->ar):List Ltl->List (Int×ar)
 |[]=>[]
 |x::r=>(x.k,LP nm x)::LS nm r
end
def Fx(f:Ltl)(nms:List ByteArray):ar×Int:=
 if(kp f 1 0).1≠0 then([],(kp f 1 0).1)else if iO (Cx nms) f=true then([],4)else(LP (Cx nms) f,0)
def zq{nm:Int->ar}(hn:∀n,(nm n).length<=8)(k n:Int)(ks:List (Int×ar)):(zp nm k n ks).length<=(ks.getD 0 (0,[])).2.length+(ks.getD 1 (0,[])).2.length+8:=by
 have a:=Ab (iV k 0 (ks.getD 0 (0,[])).1) (ks.getD 0 (0,[])).2;have h1:=Ab (iV k 1 (ks.getD 1 (0,[])).1) (ks.getD 1 (0,[])).2;have h2:=hn n;have h3:(IZ k).length<=3:=by unfold IZ;repeat (first|split|simp)
 unfold zp Kg Kd
 iterate 7 (split;·(first|omega|(simp only[PX,PY,P5];omega)))
 simp only[PX,PY,P5];omega
mutual
theorem LQ{nm:Int->ar}(hn:∀n,(nm n).length<=8):∀f:Ltl,(LP nm f).length<=8*f.nodes
 |.mk k n kids=>by
  have h:=zq hn k n (LS nm kids);have h2:=LT hn kids;simp only[LP,Ltl.nodes];have:((LS nm kids).getD 0 (0,[])).2.length+((LS nm kids).getD 1 (0,[])).2.length<=((LS nm kids).map λx=>x.2.length).sum:=by
   rcases LS nm kids with _|⟨a,_|⟨b,r⟩⟩<;>simp<;>omega
  omega
theorem LT{nm:Int->ar}(hn:∀n,(nm n).length<=8):∀l:List Ltl,((LS nm l).map λx=>x.2.length).sum<=8*Ltl.nodesL l
 |[]=>by simp[LS,Ltl.nodesL]
 |x::r=>by
  have h1:=LQ hn x;have h2:=LT hn r;simp only[LS,Ltl.nodesL,Qg,QX];omega
end
def Ae{k:Int}{m:Nat}(h:Ad k=(m:Int)):(m=0/\(k=1\/k=2\/k=3))\/(m=1/\(k=4\/k=7\/k=8\/k=9\/k=11\/k=12\/k=13))\/(m=2/\(k=5\/k=6\/k=10\/k=14)):=by
 unfold Ad at h;split at h
 .left;exact⟨by omega,by assumption⟩
 split at h
 .right;left;exact⟨by omega,by assumption⟩
 split at h
 .right;right;exact⟨by omega,by assumption⟩
 .omega
section
variable {nms:List ByteArray}{t u:ar}{f g:Ltl}
def ea(a:Bool):UInt8:=if a=true then 65 else 69
end
section
variable {nms:List ByteArray}{t:ar}{f:Ltl}
end
def AA(s l:List Nat)(i:Nat):Nat:=if i<s.length then s.getD i 0 else l.getD ((i -s.length) % l.length) 0
abbrev EE(pt:cL):Value:=.agg [.int .i64 pt.1,.int .i64 pt.2.1,.int .i64 pt.2.2.1,.int .i64 pt.2.2.2.1,.int .i64 pt.2.2.2.2.1,.int .i64 pt.2.2.2.2.2.1,.int .i64 pt.2.2.2.2.2.2].toArray
def GZ(n:Int)(a:Bool):Bool:=decide (0<=n/\n<=63)&&(a||decide (n=0))
def kR(pt:cL):Int:=
 if pt.1<1\/pt.1>6\/pt.2.1<1\/pt.2.1>5 then 1
 else if(GZ pt.2.2.1 true&&GZ pt.2.2.2.1 (decide (pt.1=5\/pt.1=6))&&GZ pt.2.2.2.2.1 (decide (pt.2.1=3\/pt.2.1=4\/pt.2.1=5))&&GZ pt.2.2.2.2.2.1 (decide (pt.2.1=2\/pt.2.1=4\/pt.2.1=5)))=false then 1
 else if pt.2.2.2.2.2.2<0\/pt.2.2.2.2.2.2>3\/(pt.1≠4/\pt.2.2.2.2.2.2≠0)then 1 else 0
def G0(w:World)(n:Int)(a:Bool):Rt Vy 154 [Ub n,.bool a].toArray w λv w'=>v=.bool (GZ n a)/\w=w':=by
 refine dS func154 ntmps154 rfl rfl (UR ?_);(refine a6 (λh=>?_) (λh=>?_))
 .simp at h;refine U9 ?_;(refine a6 (λh=>?_) (λh=>?_))
  .simp at h;refine U9 ?_;(refine a6 (λh=>?_) (λh=>?_))
   .subst h;refine UK ?_;refine d6 ⟨?_,rfl⟩;simp[GZ];omega
   .subst h;refine Uf ?_;refine d6 ⟨?_,rfl⟩;have:(decide (0<=n)&&decide (n<=63))=true:=by simp;omega
    simp[GZ,this];by_cases hn:n=0<;>simp[hn]
  .simp at h;refine UK ?_;refine d6 ⟨?_,rfl⟩;simp[GZ];intro _ h3;omega
 .simp at h;refine UK ?_;refine d6 ⟨?_,rfl⟩;simp[GZ];intro h3;omega
def oq(w:World)(pt:cL):Rt Vy 86 [EE pt].toArray w λv w'=>v=Ub (kR pt)/\Ext w w':=by
 refine dR func86 ntmps86 rfl rfl ?_;obtain⟨k,sc,p,s,q,r,c⟩:=pt;refine UZ ?_;refine eH λf j a=>?_;apply fU;rfl;rfl;rfl;apply p0;apply bA;refine aA [(1,Uc w.heap.size),(3,.bool (decide (k=5\/k=6)))] ?_ ?_
 .refine UV ?_;(refine a6 (λh=>?_) (λh=>?_))<;>simp at h
  .refine Ue ?_;refine aT ⟨rfl,(S9 (λb=>some (Value.bool b)) ?_),trivial⟩;(rw[NU];simp;try omega)
  .refine Uu ?_;refine aT ⟨rfl,(S9 (λb=>some (Value.bool b)) ?_),trivial⟩;(rw[NU];simp;try omega)
 refine aA [(1,Uc w.heap.size),(3,.bool (decide (k=5\/k=6))),(4,.bool (decide (sc=3\/sc=4\/sc=5)))] ?_ ?_
 .refine UV ?_;(refine a6 (λh=>?_) (λh=>?_))<;>simp at h
  .refine Ue ?_;refine aT ⟨rfl,rfl,(S9 (λb=>some (Value.bool b)) ?_),trivial⟩;(rw[NU];simp;try omega)
  .refine Vc ?_;(refine a6 (λh=>?_) (λh=>?_))<;>simp at h
   .refine Ue ?_;refine aT ⟨rfl,rfl,(S9 (λb=>some (Value.bool b)) ?_),trivial⟩;(rw[NU];simp;try omega)
   .refine Uu ?_;refine aT ⟨rfl,rfl,(S9 (λb=>some (Value.bool b)) ?_),trivial⟩;(rw[NU];simp;try omega)
 refine aA [(1,Uc w.heap.size),(3,.bool (decide (k=5\/k=6))),(4,.bool (decide (sc=3\/sc=4\/sc=5))),(5,.bool (decide (sc=2\/sc=4\/sc=5)))] ?_ ?_
 .refine UV ?_;(refine a6 (λh=>?_) (λh=>?_))<;>simp at h
  .refine Ue ?_;refine aT ⟨rfl,rfl,rfl,(S9 (λb=>some (Value.bool b)) ?_),trivial⟩;(rw[NU];simp;try omega)
  .refine Vc ?_;(refine a6 (λh=>?_) (λh=>?_))<;>simp at h
   .refine Ue ?_;refine aT ⟨rfl,rfl,rfl,(S9 (λb=>some (Value.bool b)) ?_),trivial⟩;(rw[NU];simp;try omega)
   .refine Uu ?_;refine aT ⟨rfl,rfl,rfl,(S9 (λb=>some (Value.bool b)) ?_),trivial⟩;(rw[NU];simp;try omega)
 generalize hS:decide (k=5\/k=6)=bs;generalize hQ:decide (sc=3\/sc=4\/sc=5)=bq;generalize hR:decide (sc=2\/sc=4\/sc=5)=br;have i:kR (k,sc,p,s,q,r,c)=if k<1\/k>6\/sc<1\/sc>5 then 1 else if(GZ p true&&GZ s bs&&GZ q bq&&GZ r br)=false then 1 else if c<0\/c>3\/(k≠4/\c≠0)then 1 else 0:=by simp only[kR,hS,hQ,hR]
 rw[i];clear i hS hQ hR;refine UE ?_;(refine a6 (λh=>?_) (λh=>?_))<;>simp at h
 .refine U0 ?_;refine d6 ⟨?_,a⟩;rw[Tn TK]
 .refine Vc ?_;(refine a6 (λh=>?_) (λh=>?_))<;>simp at h
  .refine U0 ?_;refine d6 ⟨?_,a⟩;rw[Tn TK]
  .refine Vc ?_;(refine a6 (λh=>?_) (λh=>?_))<;>simp at h
   .refine U0 ?_;refine d6 ⟨?_,a⟩;rw[Tn TK]
   .refine Uu ?_;(refine ld rfl (λh=>?_) (λh=>?_))<;>simp at h
    .refine Ud ?_;refine d6 ⟨?_,a⟩;rw[Tn TK]
    .refine UV ?_;have d:¬(k<1\/k>6\/sc<1\/sc>5):=by omega
     refine eK (G0 f p true) ?_;rintro v g ⟨rfl,rfl⟩;refine U9 ?_;(refine a6 (λh=>?_) (λh=>?_))<;>simp at h
     .refine U0 ?_;refine d6 ⟨?_,a⟩;rw[Tm d,Tn (by simp[*])]
     .refine Vc ?_;refine eK (G0 f s bs) ?_;rintro v g ⟨rfl,rfl⟩;refine U9 ?_;(refine a6 (λh=>?_) (λh=>?_))<;>simp at h
      .refine U0 ?_;refine d6 ⟨?_,a⟩;rw[Tm d,Tn (by simp[*])]
      .refine Vc ?_;refine eK (G0 f q bq) ?_;rintro v g ⟨rfl,rfl⟩;refine U9 ?_;(refine a6 (λh=>?_) (λh=>?_))<;>simp at h
       .refine U0 ?_;refine d6 ⟨?_,a⟩;rw[Tm d,Tn (by simp[*])]
       .refine Vc ?_;refine eK (G0 f r br) ?_;rintro v g ⟨rfl,rfl⟩;refine Ug ?_;(refine ld rfl (λh=>?_) (λh=>?_))<;>simp at h
        .refine Ud ?_;refine d6 ⟨?_,a⟩;rw[Tm d,Tn (by simp[*])]
        .refine UV ?_;have e:¬((GZ p true&&GZ s bs&&GZ q bq&&GZ r br)=false):=by simp[*]
         (refine a6 (λh=>?_) (λh=>?_))<;>simp at h
         .refine U0 ?_;refine d6 ⟨?_,a⟩;rw[Tm d,Tm e,Tn TK]
         .refine Vc ?_;(refine a6 (λh=>?_) (λh=>?_))<;>simp at h
          .refine U0 ?_;refine d6 ⟨?_,a⟩;rw[Tm d,Tm e,Tn TK]
          .refine Vc ?_;(refine a6 (λh=>?_) (λh=>?_))<;>simp at h
           .refine Uu ?_;(refine ld rfl (λh=>?_) (λh=>?_))<;>simp at h
            .refine Ud ?_;refine d6 ⟨?_,a⟩;rw[Tm d,Tm e,Tn TK]
            .refine Uw ?_;refine d6 ⟨?_,a⟩;rw[Tm d,Tm e,Tm TK]
           .refine UA ?_;refine d6 ⟨?_,a⟩;rw[Tm d,Tm e,Tm TK]
abbrev cQ:=Int×Int×Int×Int
abbrev K1(t:cQ):Value:=.agg [.int .i64 t.1,.int .i64 t.2.1,.int .i64 t.2.2.1,.int .i64 t.2.2.2].toArray
def mq(k:Int):Bool:=decide (1<=k/\k<=3)
def k8(t:cQ):Int:=
 if t.1<1\/t.1>14\/t.2.1<0\/t.2.1>=63\/t.2.2.1<0\/t.2.2.1>=63\/((mq t.1||decide (t.1=4))=true/\t.2.2.1≠0)then 1
 else if(mq t.1=true/\(t.2.2.2<1\/t.2.2.2>3))\/(mq t.1=false/\t.2.2.2≠0)then 1 else 0
def mr(w:World)(k:Int):Rt Vy 155 [Ub k].toArray w λv w'=>v=.bool (mq k)/\w=w':=by
 refine dR func155 ntmps155 rfl rfl (UR ?_);(refine a6 (λh=>?_) (λh=>?_))<;>simp at h
 .refine Uf ?_;refine d6 ⟨S9 Value.bool ?_,rfl⟩;unfold mq;(rw[NU];simp;try omega)
 .refine UK ?_;refine d6 ⟨S9 Value.bool ?_,rfl⟩;unfold mq;(rw[NU];simp;try omega)
def nE(w:World)(t:cQ):Rt Vy 88 [K1 t].toArray w λv w'=>v=Ub (k8 t)/\Ext w w':=by
 refine dR func88 ntmps88 rfl rfl ?_;obtain⟨k,A,B,c⟩:=t;refine UZ ?_;refine eH λe i a=>?_;apply fU;rfl;rfl;rfl;apply p0;apply bA;refine aA [(1,Uc w.heap.size),(3,.bool (mq k||decide (k=4)))] ?_ ?_
 .refine UV ?_;refine eK (mr e k) ?_;rintro v f ⟨rfl,rfl⟩;refine U9 ?_;(refine a6 (λh=>?_) (λh=>?_))
  .refine Ue ?_;refine aT ⟨rfl,(S9 (λb=>some (Value.bool b)) ?_),trivial⟩;rw[h];rfl
  .refine Uu ?_;refine aT ⟨rfl,(S9 (λb=>some (Value.bool b)) ?_),trivial⟩;rw[h];(rw[NU];simp;try omega)
 have g:k8 (k,A,B,c)=if k<1\/k>14\/A<0\/A>=63\/B<0\/B>=63\/((mq k||decide (k=4))=true/\B≠0)then 1 else if(mq k=true/\(c<1\/c>3))\/(mq k=false/\c≠0)then 1 else 0:=rfl;rw[g];clear g;generalize (mq k||decide (k=4))=al;apply Wa;apply CW.block;refine aA [(1,Uc w.heap.size),(12,.bool (decide (k<1\/k>14\/A<0\/A>=63\/B<0\/B>=63\/(al=true/\B≠0))))] ?_ ?_
 .refine UV ?_;(refine a6 (λh=>?_) (λh=>?_))<;>simp at h
  .refine Ue ?_;refine aT ⟨rfl,(S9 (λb=>some (Value.bool b)) ?_),trivial⟩;simp;omega
  refine Vc ?_;(refine a6 (λh=>?_) (λh=>?_))<;>simp at h
  .refine Ue ?_;refine aT ⟨rfl,(S9 (λb=>some (Value.bool b)) ?_),trivial⟩;simp;omega
  refine Vc ?_;(refine a6 (λh=>?_) (λh=>?_))<;>simp at h
  .refine Ue ?_;refine aT ⟨rfl,(S9 (λb=>some (Value.bool b)) ?_),trivial⟩;simp;omega
  refine Vc ?_;(refine a6 (λh=>?_) (λh=>?_))<;>simp at h
  .refine Ue ?_;refine aT ⟨rfl,(S9 (λb=>some (Value.bool b)) ?_),trivial⟩;simp;omega
  refine Vc ?_;(refine a6 (λh=>?_) (λh=>?_))<;>simp at h
  .refine Ue ?_;refine aT ⟨rfl,(S9 (λb=>some (Value.bool b)) ?_),trivial⟩;simp;omega
  refine Vc ?_;(refine a6 (λh=>?_) (λh=>?_))<;>simp at h
  .refine Ue ?_;refine aT ⟨rfl,(S9 (λb=>some (Value.bool b)) ?_),trivial⟩;simp;omega
  refine U9 ?_;(refine a6 (λh=>?_) (λh=>?_))
  .subst h;refine Uu ?_;refine aT ⟨rfl,(S9 (λb=>some (Value.bool b)) ?_),trivial⟩;(rw[NU];simp;try omega)
  .subst h;refine Ue ?_;refine aT ⟨rfl,(S9 (λb=>some (Value.bool b)) ?_),trivial⟩;simp;omega
 apply ld rfl<;>intro h1
 .rw[Td]at h1;refine Ud ?_;refine d6 ⟨?_,a⟩;rw[Tn h1]
 .rw[Tb]at h1;rw[Tm h1];refine UV ?_;refine eK (mr e k) ?_;rintro v f ⟨rfl,rfl⟩;refine U9 ?_;(refine a6 (λh=>?_) (λh=>?_))
  .have d:=h;refine Vc ?_;(refine a6 (λh=>?_) (λh=>?_))<;>simp at h
   .refine U0 ?_;refine d6 ⟨?_,a⟩;rw[Tn (.inl ⟨d,.inl h⟩)]
   .refine Vc ?_;(refine a6 (λh=>?_) (λh=>?_))<;>simp at h
    .refine U0 ?_;refine d6 ⟨?_,a⟩;rw[Tn (.inl ⟨d,.inr h⟩)]
    .refine Vc ?_;refine eK (mr e k) ?_;rintro v f ⟨rfl,rfl⟩;rw[d];refine UA ?_;refine d6 ⟨?_,a⟩;rw[Tm];simp;omega
  .have d:=h;refine Vh ?_;refine eK (mr e k) ?_;rintro v f ⟨rfl,rfl⟩;rw[d];refine Uu ?_;refine ld rfl (λh2=>?_) (λh2=>?_)<;>simp at h2
   .refine Ud ?_;refine d6 ⟨?_,a⟩;rw[Tn (.inr ⟨rfl,h2⟩)]
   .refine Uw ?_;refine d6 ⟨?_,a⟩;rw[Tm];simp;exact h2
abbrev cN:=ByteArray×Int×cL×cQ×Ltl×Ltl
def G5(a:List ByteArray)(n:Int)(silent:Bool):ar:=
 if n=63/\silent=true then Kf else if n<0\/n>=(a.length:Int)\/n>=63\/B8 (a.getD n.toNat ⟨#[]⟩)=false\/yf a (a.getD n.toNat ⟨#[]⟩).data.toList≠n then []
 else(a.getD n.toNat ⟨#[]⟩).data.toList
def Ec(pt:cL):List Int:=if pt.1=5\/pt.1=6 then [pt.2.2.2.1,pt.2.2.1]else [pt.2.2.1]
def H7(pt:cL):List Int:=if pt.2.1=2 then [pt.2.2.2.2.2.1]else if pt.2.1=3 then [pt.2.2.2.2.1]else if pt.2.1=4\/pt.2.1=5 then [pt.2.2.2.2.1,pt.2.2.2.2.2.1]else []
def gM(k:Int):Bool:=decide (k<=4)
def iF(r:cN):List Int:=if r.2.1=1 then Ec r.2.2.1++H7 r.2.2.1 else if r.2.1=2 then(if gM r.2.2.2.1.1=true then [r.2.2.2.1.2.1]else [r.2.2.2.1.2.1,r.2.2.2.1.2.2.1])else []
def Ev(r:cN)(a:List ByteArray):Int:=
 if r.2.1=1 then kR r.2.2.1 else if r.2.1=2 then k8 r.2.2.2.1 else if r.2.1=3 then(Fy r.2.2.2.2.1 a).2 else if r.2.1=4 then(Fx r.2.2.2.2.2 a).2 else 0
def Eu(r:cN)(a:List ByteArray):Int:=
 if Ev r a=0/\(iF r).any (λn=>G5 a n (decide (r.2.1=1))==[])=true then 4 else Ev r a
def EF:cL:=(0,0,0,0,0,0,0)
def K2:cQ:=(0,0,0,0)
def qQ(t:Ltl):Bool:=t.k != 0||t.n != 0||decide (0<t.kids.length)
def D0(r:cN):Bool:=(r.2.1 != 1&&r.2.2.1 != EF)||(r.2.1 != 2&&r.2.2.2.1 != K2)||(r.2.1 != 3&&qQ r.2.2.2.2.1)||(r.2.1 != 4&&qQ r.2.2.2.2.2)
def kZ(r:cN)(a:List ByteArray):Int:=
 if B8 r.1=false\/r.2.1<1\/r.2.1>4 then 1 else if Eu r a≠0 then Eu r a else if D0 r=true then 1 else 0

mutual
def MK:Ltl->Prop
 |.mk k n kids=>Af k=kids.length/\0<=n/\n<=63/\(k≠3->n=0)/\MM kids
def MM:List Ltl->Prop
 |[]=>True
 |x::r=>MK x/\MM r
end
mutual
theorem kK:∀(t:Ltl) (deep c:Int),(kD t deep c).1=0->MK t
 |.mk k n kids,deep,c,h=>by
  simp only[kD]at h
  split at h
  .cases h
  .split at h
   .cases h
   .split at h
    .cases h
    .rename_i h3
     simp only[MK];have:=kH kids _ _ h;refine⟨by omega,by omega,by omega,by omega,this⟩
theorem kH:∀(l:List Ltl) (deep c:Int),(kE l deep c).1=0->MM l
 |[],_,_,_=>trivial
 |x::r,deep,c,h=>by
  simp only[kE]at h
  split at h
  .rename_i h1;exact absurd h h1
  .rename_i h1
   exact⟨kK x deep c (by simpa using h1),kH r _ _ h⟩
end
def MN:∀(kids:List Ltl) (i:Nat) (h:i<kids.length),MM kids->MK kids[i]
 |x::r,0,h,a=>a.1
 |x::r,i+1,h,a=>MN r i (by simpa using h) a.2
def Til(A B:Nat->Prop)(i:Nat):Prop:=∃j,i<=j/\B j/\∀m,i<=m->m<j->A m
def Til.step{A B:Nat->Prop}{i:Nat}:Til A B i↔B i\/(A i/\Til A B (i+1)):=by
 constructor
 .rintro⟨j,hj,c,d⟩;by_cases h:i=j
  .subst h;exact .inl c
  .exact .inr ⟨d i T8 TK,j,by omega,c,λm h1 h2=>d m TK h2⟩
 .rintro(c|⟨d,j,hj,c,e⟩)
  .exact⟨i,Rq _,c,λm h1 h2=>by omega⟩
  .refine⟨j,by omega,c,λm h1 h2=>?_⟩;by_cases h:m=i
   .subst h;exact d
   .exact e m TK h2
def Wl:=@Til.step
def Iq(L:Nat->Nat)(k n:Int)(ks:List (Nat->Prop))(i:Nat):Prop:=
 if k=1 then True
 else if k=3 then L i >>> n.toNat&&&1=1
 else if k=4 then¬ks.getD 0 (λ_=>False) i
 else if k=5 then ks.getD 0 (λ_=>False) i/\ks.getD 1 (λ_=>False) i
 else if k=6 then ks.getD 0 (λ_=>False) i\/ks.getD 1 (λ_=>False) i
 else if k=7 then ks.getD 0 (λ_=>False) (i+1)
 else if k=8 then Til (ks.getD 0 (λ_=>False)) (ks.getD 1 (λ_=>False)) i
 else if k=9 then¬Til (λj=>¬ks.getD 0 (λ_=>False) j) (λj=>¬ks.getD 1 (λ_=>False) j) i
 else if k=10 then Til (λ_=>True) (ks.getD 0 (λ_=>False)) i
 else if k=11 then¬Til (λ_=>True) (λj=>¬ks.getD 0 (λ_=>False) j) i
 else False
mutual
def If(L:Nat->Nat):Ltl->Nat->Prop
 |.mk k n kids=>Iq L k n (Ir L kids)
def Ir(L:Nat->Nat):List Ltl->List (Nat->Prop)
 |[]=>[]
 |x::r=>If L x::Ir L r
end
def Til.shift{A B A' B':Nat->Prop}{i:Nat}(h:∀j,A (i+j)↔A' (a+j))(g:∀j,B (i+j)↔B' (a+j)):Til A B i↔Til A' B' a:=by
 constructor
 .rintro⟨j,hj,h1,h2⟩;obtain⟨d,rfl⟩:=Rl hj;refine⟨a+d,by omega,(g d).1 h1,λm f c=>?_⟩;obtain⟨e,rfl⟩:=Rl f;exact(h e).1 (h2 (i+e) TK TK)
 .rintro⟨j,hj,h1,h2⟩;obtain⟨d,rfl⟩:=Rl hj;refine⟨i+d,by omega,(g d).2 h1,λm f c=>?_⟩;obtain⟨e,rfl⟩:=Rl f;exact(h e).2 (h2 (a+e) TK TK)
section
variable {s l:List Nat}{a b:List Bool}{A B:Nat->Prop}{N:Nat}
end
def notB{xs:List Bool}{N i:Nat}(c:xs.length=N)(hi:i<N):((xs.map (!.)).getD i false=true↔¬xs.getD i false=true):=by rw[Pl,Pl,Pu,Pq TK];simp
def MP{M:Ltl->Prop}(h1:M (.mk 1 0 []))(h2:M (.mk 2 0 []))(h3:∀n,0<=n->n<=63->M (.mk 3 n []))
  (p:∀k a,k=4\/k=7\/k=10\/k=11->MK a->M a->M (.mk k 0 [a]))
  (q:∀k a b,k=5\/k=6\/k=8\/k=9->MK a->MK b->M a->M b->M (.mk k 0 [a,b])):∀t,MK t->M t:=by
 have key:∀m (t:Ltl),t.nodes<=m->MK t->M t:=by
  intro m;induction m with
  |zero=>intro t h;have:=t.nodes_pos;omega
  |succ m j=>
   rintro⟨k,n,kids⟩ h g;simp only[MK]at g;simp only[Ltl.nodes]at h;obtain⟨e,o,l,d,c⟩:=g;unfold Af at e;split at e
   .rename_i f;have:kids=[]:=O2 TK;subst this;obtain rfl|rfl|rfl:=f
    .rw[d TN];exact h1
    .rw[d TN];exact h2
    .exact h3 n o l
   .split at e
    .rename_i f;rw[d TK]
     match kids,e with
     |[a],_=>
      simp only[Ltl.nodesL,MM]at h c;exact p k a f c.1 (j a TK c.1)
    .split at e
     .rename_i f;rw[d TK]
      match kids,e with
      |[a,b],_=>
       simp only[Ltl.nodesL,MM]at h c;have:=a.nodes_pos;have:=b.nodes_pos;exact q k a b f c.1 c.2.1 (j a TK c.1) (j b TK c.2.1)
     .omega
 exact λt g=>key t.nodes t T8 g
mutual
def Ltl.deep:Ltl->Nat
 |.mk _ _ kids=>1+Ltl.deepL kids
def Ltl.deepL:List Ltl->Nat
 |[]=>0
 |x::r=>max x.deep (Ltl.deepL r)
end
mutual
theorem ls:∀(t:Ltl) (d c:Int),(kD t d c).1=0->(kD t d c).2=c+t.nodes/\d+t.deep<=21
 |.mk k n kids,d,c,h=>by
  simp only[kD]at h⊢
  split at h
  .cases h
  .rename_i h1
   rw[Tm h1];split at h
   .cases h
   .rename_i h2
    rw[Tm h2];split at h
    .cases h
    .rename_i h3
     rw[Tm h3];have:=lx kids (d+1) (c+1) TK h;simp only[Ltl.nodes,Ltl.deep];omega
theorem lx:∀(l:List Ltl) (d c:Int),d<=21->(kE l d c).1=0->(kE l d c).2=c+Ltl.nodesL l/\d+Ltl.deepL l<=21
 |[],d,c,hd,h=>by simp only[kE,Ltl.nodesL,Ltl.deepL];omega
 |x::r,d,c,hd,h=>by
  simp only[kE]at h⊢
  split at h
  .rename_i h1;exact absurd h h1
  .rename_i h1
   rw[Tm h1];have h2:=ls x d c (by simpa using h1);have h3:=lx r d _ hd h;simp only[Ltl.nodesL,Ltl.deepL];omega
end
mutual
theorem lq:∀(t:Ltl) (d c:Int),MK t->c+t.nodes<=60->d+t.deep<=21->(kD t d c).1=0
 |.mk k n kids,d,c,e,h1,h2=>by
  simp only[MK]at e
  simp only[Ltl.nodes,Ltl.deep]at h1 h2
  simp only[kD];have h3:¬(Af k≠kids.length\/n<0\/n>63\/(k≠3/\n≠0)):=by
   intro h
   rcases h with h|h|h|h
   .exact h e.1
   .omega
   .omega
   .exact h.2 (e.2.2.2.1 h.1)
  rw[Tm TK,Tm TK,Tm h3];exact lu kids _ _ e.2.2.2.2 TK TK
theorem lu:∀(l:List Ltl) (d c:Int),MM l->c+Ltl.nodesL l<=60->d+Ltl.deepL l<=21->(kE l d c).1=0
 |[],d,c,_,_,_=>by simp only[kE]
 |x::r,d,c,e,h1,h2=>by
  simp only[MM]at e
  simp only[Ltl.nodesL,Ltl.deepL]at h1 h2
  have h3:=lq x d c e.1 TK TK;have h4:=ls x d c h3;simp only[kE];rw[Tm (by simp[h3]),h4.1];exact lu r d _ e.2 TK TK
end
def lj(t:Ltl):(kD t 1 0).1=0↔MK t/\t.nodes<=60/\t.deep<=20:=by
 constructor
 .intro h;have h1:=ls t 1 0 h;have h2:=kI t 1 0 h;exact⟨kK t 1 0 h,by omega,by omega⟩
 .rintro⟨h1,h2,h3⟩;exact lq t 1 0 h1 TK TK
mutual
def H2:Ltl->Ltl->Bool
 |.mk k n l,.mk k' c l'=>k==k'&&n==c&&H5 l l'
def H5:List Ltl->List Ltl->Bool
 |[],[]=>true
 |x::r,y::q=>H2 x y&&H5 r q
 |[],_::_=>false
 |_::_,[]=>false
end
mutual
theorem H3:∀(a b:Ltl),H2 a b=true↔a=b
 |.mk k n l,.mk k' c l'=>by
  simp only[H2,NS,S3,H6 l l',Ltl.mk.injEq];exact SY
theorem H6:∀(a b:List Ltl),H5 a b=true↔a=b
 |[],[]=>by simp[H5]
 |x::r,y::q=>by simp only[H5,NS,H3 x y,H6 r q,OJ]
 |[],_::_=>by simp[H5]
 |_::_,[]=>by simp[H5]
end
def H4(a:Ltl):H2 a a=true:=(H3 a a).2 rfl
section
variable {L:Nat->Nat}{n:Int}{a b:Ltl}{i:Nat}
theorem Ig:If L (.mk 1 n []) i↔True:=by simp[If,Ir,Iq]
theorem Ij:If L (.mk 2 n []) i↔False:=by simp[If,Ir,Iq]
theorem Ik:If L (.mk 3 n []) i↔L i >>> n.toNat&&&1=1:=by simp[If,Ir,Iq]
theorem Il:If L (.mk 4 n [a]) i↔¬If L a i:=by simp[If,Ir,Iq]
theorem Im:If L (.mk 5 n [a,b]) i↔If L a i/\If L b i:=by simp[If,Ir,Iq]
theorem In:If L (.mk 6 n [a,b]) i↔If L a i\/If L b i:=by simp[If,Ir,Iq]
theorem Io:If L (.mk 7 n [a]) i↔If L a (i+1):=by simp[If,Ir,Iq]
theorem sem8:If L (.mk 8 n [a,b]) i↔Til (If L a) (If L b) i:=by simp[If,Ir,Iq]
theorem Ip:If L (.mk 9 n [a,b]) i↔¬Til (λj=>¬If L a j) (λj=>¬If L b j) i:=by simp[If,Ir,Iq]
theorem Ih:If L (.mk 10 n [a]) i↔Til (λ_=>True) (If L a) i:=by simp[If,Ir,Iq]
theorem Ii:If L (.mk 11 n [a]) i↔¬Til (λ_=>True) (λj=>¬If L a j) i:=by simp[If,Ir,Iq]
end
def Til.congr{A B A' B':Nat->Prop}(d:∀j,A j↔A' j)(c:∀j,B j↔B' j)(i:Nat):Til A B i↔Til A' B' i:=
 Til.shift (λ_=>d _) (λ_=>c _)
def Wn:=@Til.congr
mutual
def EY:Ltl->Ltl
 |.mk k n kids=>if k=10 then .mk 8 0 [.mk 1 0 [],(EZ kids).getD 0 (.mk 0 0 [])]else if k=11 then .mk 9 0 [.mk 2 0 [],(EZ kids).getD 0 (.mk 0 0 [])]else .mk k n (EZ kids)
def EZ:List Ltl->List Ltl
 |[]=>[]
 |x::r=>EY x::EZ r
end
def E0:∀l,EZ l=l.map EY
 |[]=>rfl
 |x::r=>by simp[EZ,E0 r]
mutual
def uG:Ltl->Int->Bool
 |.mk k _ kids,q=>k==q||uH kids q
def uH:List Ltl->Int->Bool
 |[],_=>false
 |x::r,q=>uG x q||uH r q
end
def E1:∀t,MK t->uG (EY t) 10=false/\uG (EY t) 11=false:=by
 refine MP ?_ ?_ ?_ ?_ ?_
 .constructor<;>simp[EY,EZ,uG,uH]
 .constructor<;>simp[EY,EZ,uG,uH]
 .intro n _ _;constructor<;>simp[EY,EZ,uG,uH]
 .rintro k a (rfl|rfl|rfl|rfl) _ ⟨h1,h2⟩<;>constructor<;>simp[EY,EZ,uG,uH,h1,h2]
 .rintro k a b (rfl|rfl|rfl|rfl) _ _ ⟨h1,h2⟩ ⟨h3,h4⟩<;>constructor<;>simp[EY,EZ,uG,uH,h1,h2,h3,h4]
def E3{L:Nat->Nat}:∀t,MK t->∀i,If L (EY t) i↔If L t i:=by
 refine MP ?_ ?_ ?_ ?_ ?_
 .intro i;simp[EY,EZ]
 .intro i;simp[EY,EZ]
 .intro n _ _ i;simp[EY,EZ]
 .rintro k a (rfl|rfl|rfl|rfl) _ h i
  .simp[EY,EZ,Il,h]
  .simp[EY,EZ,Io,h]
  .simp[EY,EZ,sem8,Ih];exact Wn (λ_=>by simp[Ig]) h i
  .simp[EY,EZ,Ip,Ii];exact Tq (Wn (λ_=>by simp[Ij]) (λj=>Tq (h j)) i)
 .rintro k a b (rfl|rfl|rfl|rfl) _ _ h1 h2 i
  .simp[EY,EZ,Im,h1,h2]
  .simp[EY,EZ,In,h1,h2]
  .simp[EY,EZ,sem8];exact Wn h1 h2 i
  .simp[EY,EZ,Ip];exact Tq (Wn (λj=>Tq (h1 j)) (λj=>Tq (h2 j)) i)
section
variable {L:Nat->Nat}
end
def GD(h:z.results=#[.cell a t])(tmps:Array Value)(P:Program)(w:World){p:Addr}(b:tmps.getD a undef=.pointer (some p))(c:(loadVar t p).run P w=.ok v w):
  (results z tmps).run P w=.ok v w:=by
 simp only[Ny]at b;simp[results,h,b,asAddr,c]
theorem bh{n:Nat}{σ:Sg}{b:Nat}{e:TypeId}{k:Nat}(q:z.results=#[.cell a t])(y:fnd σ a=some (Uc b))[s:IsC P t k true](x:Blk w b e r)(o:AN r=k)(h:c (.agg r.toArray) w):
  EX (bodyPost P z λe w'=>∃v,e=.returned v/\c v w') .ret n σ w:=by
 unfold EX;intro ac m;refine S7 (GD q _ _ _ (m.slot a _ y) (v:=.agg r.toArray) ?_) m.defers ⟨_,rfl,h⟩;rw[AO]at o;have f:=Tx (P:=P) w ⟨b,0,none⟩ r (λj u p=>by rw[SW,RT];exact x.cell p);obtain⟨i,dd,h1,h2,h3,h4⟩:=s.ok;have l:(isAgg t).run P w=.ok true w:=by unfold isAgg;rw[Sb,TA h3 w,<-h4];cases dd<;>rfl
 rw[o]at f;simp[loadVar,l,sizeOf,typeInfo,h1,h2,f]
theorem e0{n:Nat}{σ:Sg}{b:Nat}{e:TypeId}{k:Nat}[s:IsC P t k true](x:Blk w b e r)(h:c (.agg r.toArray) w)(q:z.results=#[.cell a t]:=by exact rfl)(y:fnd σ a=some (Uc b):=by exact rfl)(o:AN r=k:=by exact rfl):EX (bodyPost P z λe w'=>∃v,e=.returned v/\c v w') .ret n σ w:=bh q y x o h
def GE{u:Nat}(h:z.results=#[.cell a t,.tmp u])(tmps:Array Value)(P:Program)(w:World){p:Addr}(b:tmps.getD a undef=.pointer (some p))(c:(loadVar t p).run P w=.ok v w):
  (results z tmps).run P w=.ok (.tuple ⟨[v,tmps.getD u undef]⟩) w:=by
 simp only[Ny]at b⊢;simp[results,h,b,asAddr,c]
theorem bi{n:Nat}{σ:Sg}{b u:Nat}{e:TypeId}{k:Nat}{x:Value}(q:z.results=#[.cell a t,.tmp u])(A:fnd σ a=some (Uc b))(o:fnd σ u=some x)[s:IsC P t k true](y:Blk w b e r)(p:AN r=k)(h:c (.tuple ⟨[.agg r.toArray,x]⟩) w):
  EX (bodyPost P z λe w'=>∃v,e=.returned v/\c v w') .ret n σ w:=by
 unfold EX;intro ac f;refine S7 (GE q _ _ _ (f.slot a _ A) (v:=.agg r.toArray) ?_) f.defers ⟨_,by rw[f.slot u x o],h⟩;rw[AO]at p;have l:=Tx (P:=P) w ⟨b,0,none⟩ r (λj u o=>by rw[SW,RT];exact y.cell o);obtain⟨i,dd,h1,h2,h3,h4⟩:=s.ok;have m:(isAgg t).run P w=.ok true w:=by unfold isAgg;rw[Sb,TA h3 w,<-h4];cases dd<;>rfl
 rw[p]at l;simp[loadVar,m,sizeOf,typeInfo,h1,h2,l]
theorem fG{n:Nat}{σ:Sg}{b u:Nat}{e:TypeId}{k:Nat}{x:Value}[s:IsC P t k true](y:Blk w b e r)(h:c (.tuple ⟨[.agg r.toArray,x]⟩) w)(q:z.results=#[.cell a t,.tmp u]:=by exact rfl)(A:fnd σ a=some (Uc b):=by exact rfl)(o:fnd σ u=some x:=by exact rfl)(p:AN r=k:=by exact rfl):EX (bodyPost P z λe w'=>∃v,e=.returned v/\c v w') .ret n σ w:=bi q A o y p h
def Sl.zero[Rep α](w:World)(F:Nat->Prop):Sl w F none 0 ([]:List α):=⟨by simp,by simp[maxLen],λ_=>rfl,λi hi=>absurd hi TO⟩
def v1:=@Sl.zero
def Sl.up0[Rep α]{w':World}{ao:Option Addr}{cap:Nat}{xs:List α}(h:Sl w F ao cap xs)(c:Ext w w')(hF:∀b,F b->b<w.heap.size):Sl w' F ao cap xs:=h.mono (λb a=>c.block b (hF b a)) λ_ h=>h
section
variable {P:Program}{Q:Exit->Act->World->Prop}{n:Nat}{σ:Sg}{w:World}{L rest:List Oper}{d:Nat}{ty:TypeId}{pos:String}{af:Array Edge}{g:Option (Nat×Bool)}{t e:TypeId}{α:Type}[Rep α]{F:Nat->Prop}
end
def RL(w:World)(v:Value)(t:Ltl):Prop:=Rd w (dk w) v t
def RL.ext{w':World}{t:Ltl}(h:RL w v t)(c:Ext w w'):RL w' v t:=V8 h (λb a=>c.block b a) (λb a=>Rv a c.size)
def dp(F:Nat->Prop)(w w':World):Nat->Prop:=λb=>F b\/(w.heap.size<=b/\b<w'.heap.size)
def iT(ops:Array Oper)(r:List (Nat×Bool)):Nat->List Nat->Array Bool->Bool
 |0,J,a=>J.isEmpty&&DR ops r a
 |k+1,J,a=>(ready .any ops a).all (λi=>J.contains i)&&!(ready .any ops a).isEmpty&&
   (ready .any ops a).all λi=>iT ops r k (J.erase i) (a.setIfInBounds i true)
def DS(ops:Array Oper)(J:List Nat)(r:List (Nat×Bool)):List (Nat×Bool)->Array Bool->Bool
 |[],a=>iT ops r J.length J a
 |(i,true)::s,a=>(ready .any ops a).contains i&&Region.free .any ops a i&&DS ops J r s (a.setIfInBounds i true)
 |(i,false)::s,a=>decide (ready .any ops a=[i])&&DS ops J r s (a.setIfInBounds i true)
def iU(l:List Oper)(s:List (Nat×Bool))(J:List Nat)(r:List (Nat×Bool)):Bool:=
 Region.noSelect l.toArray&&decide (s.length+J.length+r.length=l.length)&&DS l.toArray J r s (Array.replicate l.length false)
def dg:Exit->Act->World->Prop:=λ_ _ _=>False
def Nc(P:Program)(ops:List Oper)(S:World->Prop)(K:Act->World->Prop):Nat->List Nat->Act->World->Prop
 |0,_,a,w=>K a w
 |k+1,J,a,w=>∀i∈J,∃o,ops[i]?=some o/\Region.wanted o (yielded ops.toArray a.tmps)=true/\o.wp P a w (λb w'=>S w'/\Nc P ops S K k (J.erase i) b w') dg
def No{a:Act}{K:Act->World->Prop}{Q':Exit->Act->World->Prop}(hq:∀e a w,e≠.normal->Q e a w->Q' e a w)(h:o.wp P a w K Q):o.wp P a w K Q':=by
 unfold Oper.wp at*;generalize (execOp a.eval o).run P w=r at*;cases r with
 |ok k w'=>
  cases k<;>simp only[Oper.upon]at h⊢<;>first
   |exact h
   |(refine Oa h (λe w'' b=>?_);cases e<;>first|exact b|exact hq _ _ _ TO b|(obtain⟨a1,c,d⟩:=b;exact⟨a1,c,hq _ _ _ TO d⟩))
 |halt x w'=>cases x<;>simp only[Oper.upon]at h⊢<;>first|exact h|exact hq _ _ _ TO h
def Nf{P:Program}{ops:List Oper}{S:World->Prop}{Q:Act->World->Prop}(p:Region.noSelect ops.toArray=true)(r:List (Nat×Bool)):
  ∀(k:Nat) (J:List Nat) (b:Array Bool) (a:Act) (w:World),iT ops.toArray r k J b=true->S w->Nc P ops S (Ng P ops S Q r) k J a w->wpAnyH P .any ops.toArray (λe a w=>e=.normal/\Q a w) S (r.length+k) b a w
 |0,J,b,a,w,d,hS,h=>by simp only[iT,NS]at d;exact Ni p r _ _ _ d.2 hS h
 |k+1,J,b,a,w,d,hS,h=>by
  simp only[iT,NS,OA,NZ,List.isEmpty_eq_false_iff]at d;obtain⟨⟨l,j⟩,c⟩:=d;refine TD rfl j ?_;intro i hi;obtain⟨o,s,q,f⟩:=h i (by simpa using l i hi);unfold wpOp;have g:ops.toArray[i]?=some o:=by simpa using s
  simp only[g,q,To];refine .inl (RX (λt w' m=>⟨m.1,Nf p r k (J.erase i) _ _ _ (c i hi) m.1 m.2⟩) (No (λe a w _ hf=>hf.elim) f))
def Nh{P:Program}{ops:List Oper}{S:World->Prop}{Q:Act->World->Prop}(d:Region.noSelect ops.toArray=true)(J:List Nat)(r:List (Nat×Bool)):
  ∀(s:List (Nat×Bool)) (b:Array Bool) (a:Act) (w:World),DS ops.toArray J r s b=true->S w->Ng P ops S (λa w=>S w/\Nc P ops S (Ng P ops S Q r) J.length J a w) s a w->wpAnyH P .any ops.toArray (λe a w=>e=.normal/\Q a w) S (r.length+J.length+s.length) b a w
 |[],b,a,w,c,hS,h=>Nf d r _ _ _ _ _ c hS h.2
 |(i,true)::s,b,a,w,c,hS,⟨o,v,k,q,h⟩=>by simp only[DS,NS]at c;exact wpAnyH_take (by simpa using k) d c.1.2 c.1.1 (λ_ _ _ h=>by cases h.1) q hS (Nh d J r s _ _ _ c.2 hS h)
 |(i,false)::s,b,a,w,c,hS,⟨o,k,h⟩=>by
  simp only[DS,NS,Td]at c;refine TD c.1 TO ?_;intro j hj;have m:j=i:=by simpa using hj
  subst m;have g:ops.toArray[j]?=some o:=by simpa using k
  unfold wpOp;simp only[g];split
  .rename_i f;rw[Tn f]at h;exact .inl (RX (λt w' p=>⟨p.1,Nh d J r s _ _ _ c.2 p.1 p.2⟩) (No (λe a w l hf=>absurd hf.1 l) h))
  .rename_i f;rw[Tm f]at h;exact⟨h.1,Nh d J r s _ _ _ c.2 h.1 h.2⟩
structure BE where
 i:Nat
 d:Nat
 Φ:Value->(Nat->Prop)->World->Prop
def am(P:Program)(ops:List Oper)(S:World->Prop)(Q:Exit->Act->World->Prop)(J:List Nat)(r:List (Nat×Bool)):Exit->Act->World->Prop:=
 λe a w=>e=.normal/\(S w/\Nc P ops S (Ng P ops S (λa w=>Q .normal a w) r) J.length J a w)
def ad(S:World->Prop)(w:World)(e:BE):Exit->Act->World->Prop:=
 λx a w'=>x=.normal/\a.defers=[]/\S w'/\Ext w w'/\∃N,e.Φ (a.tmps.getD e.d undef) N w'/\∀b,N b->w.heap.size<=b/\b<w'.heap.size
def BC(P:Program)(L:List Oper)(S:World->Prop)(n:Nat)(σ:Sg)(e:BE):Prop:=
 (∃o,C4 L e.i=some o/\o.dst=some e.d/\gd L σ o=some true/\∀w,S w->WL P L (ad S w e) [o] n σ w)/\ble (e.d+1) n=true/\fnd σ e.d=none/\∀v N w w',e.Φ v N w->Ext w w'->e.Φ v N w'
def aS{w':World}{e:BE}{n:Nat}{σ:Sg}(N:Nat->Prop)(d:fnd σ e.d=some v)(hS:S w')(g:Ext w w')(hΦ:e.Φ v N w')(f:∀b,N b->w.heap.size<=b/\b<w'.heap.size):EX (ad S w e) .normal n σ w':=by unfold EX;intro a c;exact⟨rfl,c.defers,hS,g,by rw[c.slot _ _ d];exact⟨N,hΦ,f⟩⟩
def iX{n:Nat}{σ:Sg}{e:BE}(h:BC P L S n σ e){a:Act}(l:Fr n σ a)(hS:S w):
  ∃o,L[e.i]?=some o/\Region.wanted o (yielded L.toArray a.tmps)=true/\o.wp P a w (λt w'=>S w'/\Ext w w'/\∃v N,t=a.put (some e.d) v/\e.Φ v N w'/\∀b,N b->w.heap.size<=b/\b<w'.heap.size) dg:=by
 obtain⟨⟨o,m,hd,s,p⟩,hn,hf,_⟩:=h;rw[C5]at m;have f:=sZ l s;refine⟨o,m,f,?_⟩;have h1:=p w hS;unfold WL at h1;have h2:=h1 a l;simp only[wpList,f,To]at h2;have j:e.d<n:=Rm hn;have c:∀v,(a.put (some e.d) v).tmps.getD e.d undef=v:=by intro v;simp[Act.put,Array.getD,l.size,j]
 obtain h2|⟨_,q⟩:=h2
 .unfold Oper.wp at*;obtain⟨dst,op,ty,pos,af,g⟩:=o;simp only at hd;subst hd;generalize (execOp a.eval _).run P w=r at*;cases r with
  |ok k w'=>
   cases k<;>simp only[Oper.upon]at h2⊢<;>first
    |exact⟨h2.2.2.1,h2.2.2.2.1,by have:=h2.2.2.2.2;rw[c]at this;obtain⟨N,h3,h4⟩:=this;exact⟨_,N,rfl,h3,h4⟩⟩
    |(exfalso;have:=h2.2.1;simp[Act.put]at this;done)
    |(refine Oa h2 (λx w'' d=>?_)
      cases x
      .exact⟨d.2.2.1,d.2.2.2.1,by have:=d.2.2.2.2;rw[c]at this;obtain⟨N,h3,h4⟩:=this;exact⟨_,N,rfl,h3,h4⟩⟩
      .exact absurd d.1 TO
      .obtain⟨_,_,i⟩:=d;exact absurd i.1 TO)
    |exact Rows.mono h2 (λv w'' d=>⟨d.2.2.1,d.2.2.2.1,by have:=d.2.2.2.2;rw[c]at this;obtain⟨N,h3,h4⟩:=this;exact⟨_,N,rfl,h3,h4⟩⟩)
    |exact h2
  |halt x w'=>cases x<;>simp only[Oper.upon]at h2⊢<;>first|exact h2|exact absurd h2.1 TO
 .obtain⟨_,_,i⟩:=q;exact absurd i.1 TO
def BagK(w':World)(G:Sg->Prop):List (Nat->Prop)->List BE->Sg->Prop
 |_,[],σ=>G σ
 |D,e::r,σ=>∀v N,e.Φ v N w'->(∀p∈D,∀b,p b->N b->False)->BagK w' G (N::D) r ((e.d,v)::σ)
def BagK.get{w':World}{G:Sg->Prop}{n:Nat}{a:Act}(NN:Nat->Nat->Prop):∀(E:List BE) {D:List (Nat->Prop)} {σ:Sg},BagK w' G D E σ->Fr n σ a->(∀e∈E,e.d<n/\e.Φ (a.tmps.getD e.d undef) (NN e.i) w')->
  (∀e∈E,∀p∈D,∀b,p b->NN e.i b->False)->(E.map (·.i)).Nodup->(∀e∈E,∀f∈E,e.i≠f.i->∀b,NN e.i b->NN f.i b->False)->∃τ,Fr n τ a/\G τ
 |[],D,σ,h,i,_,_,_,_=>⟨σ,i,h⟩
 |e::r,D,σ,h,i,o,q,d,hP=>by
  have v:=o e TO;rw[Qg,QG]at d;refine BagK.get NN r (h _ _ v.2 (q e TO)) ?_ (λx c=>o x (by simp[c])) ?_ d.2 (λx c y s=>hP x (by simp[c]) y (by simp[s]))
  rotate_left
  .intro x c p k b m g;obtain rfl|k:=Qo.1 k
   .exact hP e TO x (by simp[c]) (λhi=>d.1 (by rw[hi];exact Qw c)) b m g
   .exact q x (by simp[c]) p k b m g
  refine⟨i.size,i.defers,λt u j=>?_⟩;by_cases l:e.d=t
  .subst l;rw[sd]at j;cases j;rfl
  .rw[se l]at j;exact i.slot _ _ j
def nI:List Nat->Bool
 |[]=>true
 |x::r=>!r.contains x&&nI r
def nJ:∀{l:List Nat},nI l=true->l.Nodup
 |[],_=>List.nodup_nil
 |x::r,h=>by simp only[nI,NS,NZ]at h;rw[QG];exact⟨by simpa using h.1,nJ h.2⟩
def Ma(NN:Nat->Nat->Prop)(i:Nat)(N:Nat->Prop):Nat->Nat->Prop:=λj=>if j=i then N else NN j
def Mb{i:Nat}{N:Nat->Prop}:Ma e i N i=N:=Tn rfl
def Mc{i:Nat}{N:Nat->Prop}{j:Nat}(h:j≠i):Ma e i N j=e j:=Tm h
def CY{β γ:Type}{f:β->γ}:∀{l:List β},(l.map f).Nodup->∀x∈l,∀y∈l,f x=f y->x=y
 |[],_,x,a,_,_,_=>by simp at a
 |z::r,h,x,a,y,b,e=>by
  rw[Qg,QG]at h;obtain h1|h1:=Qo.1 a
  .obtain h2|h2:=Qo.1 b
   .rw[h1,h2]
   .exact absurd (show f z∈r.map f by rw[<-h1,e];exact Qw h2) h.1
  .obtain h2|h2:=Qo.1 b
   .exact absurd (show f z∈r.map f by rw[<-h2,<-e];exact Qw h1) h.1
   .exact CY h.2 x h1 y h2 e
def Nd{P:Program}{L:List Oper}{S:World->Prop}{n:Nat}{σ:Sg}{E:List BE}(T:∀e∈E,BC P L S n σ e)(hd:(E.map (·.d)).Nodup)(hi:(E.map (·.i)).Nodup){w0:World}{K:Act->World->Prop}
  (hK:∀a w (NN:Nat->Nat->Prop),Fr n σ a->S w->Ext w0 w->(∀e∈E,e.Φ (a.tmps.getD e.d undef) (NN e.i) w)->(∀e∈E,∀f∈E,e.i≠f.i->∀b,NN e.i b->NN f.i b->False)->K a w):
  ∀(k:Nat) (J:List Nat) (a:Act) (w:World) (NN:Nat->Nat->Prop),J.length=k->J.Nodup->(∀i∈J,i∈E.map (·.i))->Fr n σ a->S w->Ext w0 w->(∀e∈E,e.i∉J->e.Φ (a.tmps.getD e.d undef) (NN e.i) w/\∀b,NN e.i b->b<w.heap.size)->
   (∀e∈E,∀f∈E,e.i∉J->f.i∉J->e.i≠f.i->∀b,NN e.i b->NN f.i b->False)->Nc P L S K k J a w
 |0,J,a,w,NN,H,_,_,A,hS,Z,R,hP=>hK a w NN A hS Z (λe p=>(R e p (by rw[O2 H];simp)).1) (λe p f hf=>hP e p f hf (by rw[O2 H];simp) (by rw[O2 H];simp))
 |k+1,J,a,w,NN,H,W,q,A,hS,Z,R,hP=>by
  intro i I;obtain⟨e,p,rfl⟩:=Qv.1 (q i I);obtain⟨o,ho,hw,U⟩:=iX (T e p) A hS;refine⟨o,ho,hw,RX (λa' w' h'=>?_) U⟩;obtain⟨O,B,v,N,rfl,hΦ,Y⟩:=h';have hn:e.d<n:=Rm (T e p).2.1;have hf:=(T e p).2.2.1;have M:(a.put (some e.d) v).tmps.getD e.d undef=v:=by simp[Act.put,Array.getD,A.size,hn]
  have r:∀t,t≠e.d->(a.put (some e.d) v).tmps.getD t undef=a.tmps.getD t undef:=by intro t ht;simp only[Act.put,Ny];rw[NG (RW ht)]
  have nne:Ma NN e.i N e.i=N:=Mb;have nno:∀j,j≠e.i->Ma NN e.i N j=NN j:=λj hj=>Mc hj;refine⟨O,Nd T hd hi hK k (J.erase e.i) _ _ (Ma NN e.i N) (by rw[P2 I,H];rfl) (W.erase _) (λj hj=>q j (List.mem_of_mem_erase hj)) ?_ O (Z.trans B) ?_ ?_⟩
  .refine⟨by simpa[Act.put]using A.size,by simpa[Act.put]using A.defers,λt u V=>?_⟩;have:t≠e.d:=λh=>by rw[h,hf]at V;cases V
   rw[r t this];exact A.slot t u V
  .intro x z s;by_cases c:x.d=e.d
   .have F:x=e:=CY hd x z e p c;subst F;rw[M,nne];exact⟨hΦ,λb X=>(Y b X).2⟩
   .rw[r _ c];have G:x.i≠e.i:=λhh=>c (by rw[CY hi x z e p hh]);have h0:=R x z (λd=>s ((Qr G).2 d));rw[nno _ G];exact⟨(T x z).2.2.2 _ _ _ _ h0.1 B,λb X=>Rv (h0.2 b X) B.size⟩
  .intro x z y hy s C D b m l;by_cases c:x.i=e.i
   .rw[c,nne]at m;have g:y.i≠e.i:=λh=>D (by rw[c,h]);rw[nno _ g]at l;have h1:=(R y hy (λh=>C ((Qr g).2 h))).2 b l;have h2:=(Y b m).1;omega
   .rw[nno _ c]at m;have d:x.i∉J:=λh=>s ((Qr c).2 h);by_cases g:y.i=e.i
    .rw[g,nne]at l;have h1:=(R x z d).2 b m;have h2:=(Y b l).1;omega
    .rw[nno _ g]at l;exact hP x z y hy d (λh=>C ((Qr g).2 h)) D b m l
section
variable {P:Program}{Q:Exit->Act->World->Prop}{n:Nat}{σ:Sg}{w:World}{L:List Oper}{S:World->Prop}
theorem aE{id:Nat}(S:World->Prop)(s:List (Nat×Bool))(J:List Nat)(r:List (Nat×Bool))(f:P.follows .mixedOrders=true)(b:iU L s J r=true)(hS:S (drew w))(h:HL P L S (am P L S Q J r) s n σ (drew w)):CW P (.region id L.toArray true) Q n σ w:=by
 unfold CW;unfold HL at h;intro a i;simp only[iU,NS,Td]at b;obtain⟨⟨d,k⟩,b⟩:=b;have j:=h a i;have c:Ng P L S (λa w=>S w/\Nc P L S (Ng P L S (λa w=>Q .normal a w) r) J.length J a w) s a (Go.Proofs.YtfpjecjadlgdcaaGreatDoor.drew w):=by
  have:(λa w=>am P L S Q J r .normal a w)=(λa w=>S w/\Nc P L S (Ng P L S (λa w=>Q .normal a w) r) J.length J a w):=by funext a w;simp[am]
  rw[<-this];exact j
 have h1:=Nh d J r s (Array.replicate L.length false) a (Go.Proofs.YtfpjecjadlgdcaaGreatDoor.drew w) b hS c;rw[show r.length+J.length+s.length=L.length by omega]at h1;have h2:=wp_region_held (id:=id) (S:=S) f (w:=w) (ops:=L.toArray) (by simpa using h1);exact TH h2 (λe l w' ⟨g,hq⟩=>by subst g;exact hq)
theorem aR{J:List Nat}{r:List (Nat×Bool)}(E:List BE)(o:E.map (·.i)=J)(b:nI (E.map (·.i))=true)(d:nI (E.map (·.d))=true)(hS:S w)(k:∀e∈E,BC P L S n σ e)
  (m:∀w',S w'->Ext w w'->BagK w' (λτ=>HL P L S Q r n τ w') [] E σ):EX (am P L S Q J r) .normal n σ w:=by
 unfold EX;intro a g;subst o;refine⟨rfl,hS,(Nd k (nJ d) (nJ b) (w0:=w) (λa w' NN g h q hΦ hP=>?_) _ _ a w (λ_ _=>False) rfl (nJ b) (λi hi=>hi) g hS T_ (λe c hn=>absurd (Qw c) hn) (λe c f hf hn=>absurd (Qw c) hn))⟩;obtain⟨τ,hτ,j⟩:=BagK.get NN E (m w' h q) g (λe c=>⟨Rm (k e c).2.1,hΦ e c⟩) (λ_ _ p l=>by simp at l) (nJ b) hP;unfold HL at j;exact j a hτ
end
def M6(P:Program)(ops:Array Oper)(Q:Exit->Act->World->Prop)(S:World->Prop)(e:Nat):Nat->Array Bool->Act->World->Prop
 |0,c,a,w=>ready .any ops c=[]/\Q .normal a w
 |k+1,c,a,w=>(ready .any ops c=[]->Q .normal a w)/\∀i∈ready .any ops c,wpOp P ops Q i (λf w'=>(i≠e->S w')/\M6 P ops Q S e k (c.setIfInBounds i true) f w') a w
def Na{P:Program}{ops:Array Oper}{Q:Exit->Act->World->Prop}{S:World->Prop}{e:Nat}:∀(k:Nat) (c:Array Bool) (a:Act) (w:World),M6 P ops Q S e k c a w->wpAny P .any ops Q k c a w
 |0,_,_,_,h=>h
 |k+1,_,_,_,h=>⟨h.1,λi hi=>TF (λl w' f=>Na k _ l w' f.2) (h.2 i hi)⟩
def Mm(ops:Array Oper)(e i:Nat):Bool:=match ops[e]? with
 |some o=>o.after.toList.any λed=>Region.binds .any ed&&(ed.on==i)
 |none=>false
def Mn{ops:Array Oper}{e i:Nat}(c:Mm ops e i=true)(hi:y.getD i false=false):e∉ready .any ops y:=by intro h;obtain⟨_,o,f,a⟩:=Tp.1 h;unfold Mm at c;rw[f]at c;obtain⟨ed,h1,h2⟩:=OE.1 c;simp only[NS,S3]at h2;have:=a ed (by simpa using h1) h2.1;rw[h2.2,hi]at this;cases this
def GA{ops:Array Oper}{i:Nat}(h:i∈ready .any ops y):y.getD i false=false:=by
 have c:=(Tp.1 h).1;obtain a|a:=Rw i y.size
 .simp[a]at c⊢;exact c
 .simp[a]
def M7{ops:Array Oper}{e i:Nat}(z:ops[i]?=some o)(N:Region.noSelect ops=true)(O:i≠e)(I:Mm ops e i=true)(hQ:∀c a w,Q (.panic c) (a.put o.dst v) w->Q (.panic c) a w):
  ∀(k:Nat) (f:Array Bool) (a:Act) (w:World),(∀j oj,ops[j]?=some oj->j≠i->f.getD j true=false->(∀ed∈oj.after,Region.binds .any ed=true->ed.on≠i)->o.apart ops oj=true)->
   i∈ready .any ops f->YieldsIf P ops S o v a->S w->M6 P ops Q S e k (f.setIfInBounds i true) (a.put o.dst v) w->M6 P ops Q S e (k+1) f a w:=by
 have r:=R_ N;intro k;induction k with
 |zero=>
  intro f a w _ s G hS H;refine⟨λh=>(by rw[h]at s;cases s),λj hj=>?_⟩;by_cases l:j=i
  .subst l;exact G.wpOp z hS ⟨λ_=>hS,H⟩
  .have:=Tw hj l;rw[H.1]at this;cases this
 |succ k M=>
  intro f a w q s G hS H;refine⟨λh=>(by rw[h]at s;cases s),λj hj=>?_⟩;by_cases l:j=i
  .subst l;exact G.wpOp z hS ⟨λ_=>hS,H⟩
  .have D:j≠e:=λh=>Mn I (GA s) (h▸hj);obtain⟨p,oj,u,E⟩:=Tp.1 hj;have J:∀ed∈oj.after,Region.binds .any ed=true->ed.on≠i:=λed h1 h2 h3=>by have h4:=E ed h1 h2;rw[h3,GA s]at h4;cases h4
   have B:=wpOp_putIf u (q j oj u l p J) (λcs b=>r i o cs b z) (λcs b=>r j oj cs b u) hQ G (H.2 j (Tw hj l));refine TF (λT w' h3=>⟨λ_=>h3.2.1 D,M (f.setIfInBounds j true) T w' (λm om R K A hn=>q m om R K ?_ hn) (Tw s (RW l)) h3.1 (h3.2.1 D) ?_⟩) B
   .by_cases C:j=m
    .subst C;exact p
    .rw[getD_set_ne true C]at A;exact A
   .rw[NJ _ _ l];exact h3.2.2
def DT(ops:Array Oper)(e:Nat):List (Nat×Bool)->Array Bool->Bool
 |[],a=>decide (ready .any ops a=[e])&&(ready .any ops (a.setIfInBounds e true)).isEmpty
 |(i,true)::s,a=>(ready .any ops a).contains i&&Region.free .any ops a i&&!(i==e)&&Mm ops e i&&DT ops e s (a.setIfInBounds i true)
 |(i,false)::s,a=>decide (ready .any ops a=[i])&&DT ops e s (a.setIfInBounds i true)
def DU(l:List Oper)(s:List (Nat×Bool))(e:Nat):Bool:=Region.noSelect l.toArray&&decide (s.length+1=l.length)&&DT l.toArray e s (Array.replicate l.length false)
def eh(P:Program)(ops:List Oper)(Q:Exit->Act->World->Prop)(e:Nat):Exit->Act->World->Prop:=
 λx a w=>x=.normal/\∃o,ops[e]?=some o/\wpList P ops.toArray (λx a w=>x=.normal/\Q .normal a w) [o] a w
def Nj{P:Program}{ops:List Oper}{S:World->Prop}{Q:Exit->Act->World->Prop}{e:Nat}(u:Region.noSelect ops.toArray=true):
  ∀(s:List (Nat×Bool)) (c:Array Bool) (a:Act) (w:World),DT ops.toArray e s c=true->S w->Ng P ops S (λa w=>eh P ops Q e .normal a w) s a w->M6 P ops.toArray (λx a w=>x=.normal/\Q .normal a w) S e (s.length+1) c a w
 |[],c,a,w,f,hS,h=>by
  simp only[DT,NS,Td,PW]at f;obtain⟨_,o,m,p⟩:=h;refine⟨λq=>(by rw[f.1]at q;cases q),λi hi=>?_⟩;rw[f.1,QC]at hi;subst hi;have k:ops.toArray[i]?=some o:=by simpa using m
  unfold wpOp;simp only[k];simp only[wpList]at p;split
  .rename_i l;rw[Tn l]at p;exact p.imp (RX λC w' r=>⟨λh=>absurd rfl h,f.2,rfl,r.2⟩) id
  .rename_i l;rw[Tm l]at p;exact⟨λh=>absurd rfl h,f.2,rfl,p.2⟩
 |(i,true)::s,c,a,w,f,hS,⟨o,v,m,A,h⟩=>by
  simp only[DT,NS,NZ,S2]at f;obtain⟨⟨⟨⟨h1,h2⟩,h3⟩,h4⟩,B⟩:=f;have k:ops.toArray[i]?=some o:=by simpa using m
  exact M7 k u h3 h4 (λ_ _ _ h=>by cases h.1) _ _ _ _ (R9 k h2) (by simpa using h1) A hS (Nj u s _ _ _ B hS h)
 |(i,false)::s,c,a,w,f,hS,⟨o,m,h⟩=>by
  simp only[DT,NS,Td]at f;refine⟨λq=>(by rw[f.1]at q;cases q),λj hj=>?_⟩;rw[f.1,QC]at hj;subst hj;have k:ops.toArray[j]?=some o:=by simpa using m
  unfold wpOp;simp only[k];split
  .rename_i l;rw[Tn l]at h;exact .inl (RX (λC w' r=>⟨λ_=>r.1,Nj u s _ _ _ f.2 r.1 r.2⟩) (No (λx a w z hf=>absurd hf.1 z) h))
  .rename_i l;rw[Tm l]at h;exact⟨λ_=>h.1,Nj u s _ _ _ f.2 h.1 h.2⟩
section
variable {P:Program}{Q:Exit->Act->World->Prop}{n:Nat}{σ:Sg}{w:World}{L:List Oper}{S:World->Prop}
theorem aF{id:Nat}(S:World->Prop)(s:List (Nat×Bool))(e:Nat)(k:P.follows .mixedOrders=true)(c:DU L s e=true)(hS:S (drew w))(h:HL P L S (eh P L Q e) s n σ (drew w)):CW P (.region id L.toArray true) Q n σ w:=by unfold CW;unfold HL at h;intro a p;simp only[DU,NS,Td]at c;obtain⟨⟨f,l⟩,c⟩:=c;have h1:=Nj (Q:=Q) f s (Array.replicate L.length false) a (Go.Proofs.YtfpjecjadlgdcaaGreatDoor.drew w) c hS (h a p);rw[l]at h1;have h2:(Code.region id L.toArray true).wp P (λx a w=>x=.normal/\Q .normal a w) a w:=TI k (by simpa using Na _ _ _ _ h1);exact TH h2 (λe q w' ⟨m,hq⟩=>by subst m;exact hq)
theorem bu{e:Nat}{o:Oper}(c:C4 L e=some o)(h:WL P L (λx a w=>x=.normal/\Q .normal a w) [o] n σ w):EX (eh P L Q e) .normal n σ w:=by unfold EX;unfold WL at h;intro a f;rw[C5]at c;exact⟨rfl,o,c,h a f⟩
theorem bx(h:EX Q .normal n σ w):EX (λx a w=>x=.normal/\Q .normal a w) .normal n σ w:=by unfold EX at*;exact λa c=>⟨rfl,h a c⟩
end
section
variable {P:Program}{Q:Exit->Act->World->Prop}{n:Nat}{σ:Sg}{wc:World}{L:List Oper}{S:World->Prop}{i j d:Nat}{ty:TypeId}{pos:String}{af:Array Edge}{g:Option (Nat×Bool)}{ty':TypeId}{pos':String}{af':Array Edge}{g':Option (Nat×Bool)}{t e:TypeId}{x ix y:Operand}
variable {α:Type}[Rep α]{F:Nat->Prop}
theorem cC{v u:Value}{B:Nat}{xs:List α}{yv:α}{k:Nat}{kd:IntKind}
  (ho1:C4 L i=some ⟨some d,.indexAddr t x ix,ty,pos,af,g⟩) (ho2:C4 L j=some ⟨none,.store e (.tmp d) y,ty',pos',af',g'⟩)
  (E:gd L σ ⟨some d,.indexAddr t x ix,ty,pos,af,g⟩=some true) (hd:ble (d+1) n=true)
  (z:ev σ x=some v) (hi:ev σ ix=some (.int kd (k:Int))) [I:IsS P t e] [H:IsT P e α] (c:Own wc B e F v xs) (h1:k<xs.length)
  (m:∀p,gd L ((d,.pointer p)::σ) ⟨none,.store e (.tmp d) y,ty',pos',af',g'⟩=some true) (s:∀p,ev ((d,.pointer p)::σ) y=some u) (A:Rd wc F u yv)
  (h:∀w' p,Own w' B e F v (xs.set k yv)->wc.grownBy w' v.ownBlock->EX Q .normal n ((d,.pointer p)::σ) w'):
  HL P L S (eh P L Q j) [(i,true)] n σ wc:=by
 obtain⟨rfl,rfl⟩|⟨b,off,cap,cur,rfl,D⟩:=c
 .simp at h1
 .refine cf (α:=α) ho1 E hd z hi TK TK ?_;obtain⟨w',C,f,l⟩:=HM (P:=P) (v:=u) (i:=k) D h1 A;refine VK (bu ho2 (fV (m _) (λa q=>?_) (p0 (bx (h w' _ f l)))));have r:=q.ev (x:=.tmp d) sd;have G:=q.ev (s _);simp only[Oy]at r;simp[execOp,r,G,Instr.storeAt,Instr.sureAddr,C]
end
section
variable {P:Program}{Q:Exit->Act->World->Prop}{n:Nat}{σ:Sg}{w wc:World}{L:List Oper}{S:World->Prop}{ord:List (Nat×Bool)}{i d:Nat}{ty:TypeId}{pos:String}{af:Array Edge}{g:Option (Nat×Bool)}{t e:TypeId}{x:Operand}{b o:Nat}{cells:List Value}
theorem cu{v:Value}(u:∀k,S k->k.heap[b]?=w.heap[b]?)(p:C4 L i=some ⟨some d,.load t x,ty,pos,af,g⟩)(q:gd L σ ⟨some d,.load t x,ty,pos,af,g⟩=some true)(hd:ble (d+1) n=true)(l:ev σ x=some (.pointer (some ⟨b,o,none⟩)))[z:IsC P t 1 false](r:Blk w b e cells)(m:C8 cells o=some v)
  (h:HL P L S Q ord n ((d,v)::σ) wc):HL P L S Q ((i,true)::ord) n σ wc:=by
 refine VP p q hd (λa s w' c=>?_) h;have f:Blk w' b e cells:=(u w' c).trans r;simp[execOp,s.ev l,Hw (P:=P) (t:=t) w' f m]
end
def ck{n:Nat}{σ:Sg}{wc:World}{ord:List (Nat×Bool)}{i d:Nat}{ty:TypeId}{g:Option (Nat×Bool)}{e:TypeId}{x:Operand}{b o:Nat}{vs:List Value}{k:Nat}
  (z:∀l,S l->l.heap[b]?=w.heap[b]?) (q:C4 L i=some ⟨some d,.load t x,ty,H,j,g⟩) (s:gd L σ ⟨some d,.load t x,ty,H,j,g⟩=some true) (hd:ble (d+1) n=true) (m:ev σ x=some (.pointer (some ⟨b,o,none⟩))) [A:IsC P t k true] (u:Blk w b e r) (p:H9 r o k=some vs)
  (h:HL P L S Q ord n ((d,.agg vs.toArray)::σ) wc):HL P L S Q ((i,true)::ord) n σ wc:=by
 refine VP q s hd (λa y w' c=>?_) h;have f:Blk w' b e r:=(z w' c).trans u;simp[execOp,y.ev m,Hx (P:=P) (t:=t) w' f p]
def Nw(w w':World):Nat->Prop:=λb=>w.heap.size<=b/\b<w'.heap.size
def Rd.kept[Rep α]{w':World}{x:α}{row:Option Nat}(h:Rd w F v x)(c:w.grownBy w' row)(hF:∀b,F b->b<w.heap.size/\some b≠row):Rd w' F v x:=
 h.mono (λb a=>c.block b (hF b a).1 (hF b a).2) λ_ h=>h
def Rd.up0[Rep α]{w':World}{x:α}(h:Rd w F v x)(c:Ext w w')(hF:∀b,F b->b<w.heap.size):Rd w' F v x:=h.mono (λb a=>c.block b (hF b a)) λ_ h=>h
def VS:=@Rd.up0
def Rd.wk[Rep α]{F':Nat->Prop}{x:α}(h:Rd w F v x)(hF:∀b,F b->F' b):Rd w F' v x:=h.mono T5 hF
def SO(r:Nat)(w:World):World->Prop:=λx=>w.heap.size<=x.heap.size/\∀b,b≠r->b<w.heap.size->x.heap[b]?=w.heap[b]?
def SO.refl(r:Nat)(w:World):SO r w w:=⟨Rq _,λ_ _ _=>rfl⟩
def VH:=@SO.refl
def SO.ext{r:Nat}{x y:World}(h:SO r w x)(a:Ext x y):SO r w y:=⟨Rr h.1 a.size,λb h1 h2=>(a.block b (Rv h2 h.1)).trans (h.2 b h1 h2)⟩
def SO.st{r:Nat}{x y:World}(h:SO r w x)(a:x.grownBy y (some r)):SO r w y:=⟨Rr h.1 a.size,λb h1 h2=>(a.block b (Rv h2 h.1) (λe=>h1 (by cases e;rfl))).trans (h.2 b h1 h2)⟩
section
variable {α:Type}[Rep α]
def Grow(B:Nat)(e:TypeId)(w:World)(v:Value)(xs:List α):Prop:=∃F,(∀b,F b->B<=b/\b<w.heap.size)/\Own w B e F v xs
variable {B:Nat}{e:TypeId}{w w':World}{v:Value}{xs:List α}
theorem Grow.nil:Grow B e w (.slice none 0 0) ([]:List α):=⟨dh,λ_ h=>h.elim,r3⟩
theorem Grow.ext(h:Grow B e w v xs)(c:Ext w w'):Grow B e w' v xs:=by obtain⟨F,h1,h2⟩:=h;exact⟨F,λb a=>⟨(h1 b a).1,Rv (h1 b a).2 c.size⟩,h2.ext c λb a=>(h1 b a).2⟩
theorem Grow.kept{r:Nat}(h:Grow B e w v xs)(d:w.grownBy w' (some r))(f:r<B):Grow B e w' v xs:=by
 obtain⟨F,h1,h2⟩:=h;refine⟨F,λb a=>⟨(h1 b a).1,Rv (h1 b a).2 d.size⟩,h2.kept d (λg c e=>?_) (λb a=>⟨(h1 b a).2,λe=>?_⟩)⟩
 .have:=(h2.lt g c).1;cases e;omega
 .have:=(h1 b a).1;cases e;omega
theorem Grow.lt(h:Grow B e w v xs):∀g,v.ownBlock=some g->B<=g/\g<w.heap.size:=by obtain⟨F,h1,h2⟩:=h;exact λg a=>⟨(h2.lt g a).1,(h2.lt g a).2.1⟩
theorem Grow.sl(h:Grow B e w v xs):∃ao cap,v=.slice ao xs.length cap/\Sl w (λb=>B<=b/\b<w.heap.size) ao cap xs:=by obtain⟨F,h1,h2⟩:=h;exact h2.slF (λb c=>h1 b c) (λg a=>⟨(h2.lt g a).1,(h2.lt g a).2.1⟩)
theorem Grow.open(h:Grow B e w v xs){Fu:Nat->Prop}(c:∀b,Fu b->B<=b/\b<w.heap.size)(hn:∀g,v.ownBlock=some g->¬Fu g):∃F,(∀b,F b->B<=b/\b<w.heap.size)/\Own w B e F v xs/\(∀b,Fu b->F b):=by obtain⟨F,h1,h2⟩:=h;exact⟨λb=>F b\/Fu b,λb a=>a.elim (h1 b) (c b),h2.wk (λb a=>.inl a) (λg d a=>a.elim (h2.lt g d).2.2 (hn g d)),λb a=>.inr a⟩
end
def FJ(w:World)(hF:∀b,F b->b<w.heap.size)(k:Int){t j:Ltl}(h:Rd w F v t)(H:Rd w F A j):Rt Vy 241 [Ub k,v,A].toArray w λv w'=>Rd w' (dp F w w') v (.mk k 0 [t,j]:Ltl)/\Ext w w':=by
 obtain⟨ao,cap,rfl,R⟩:=r0 h;obtain⟨ao',cap',rfl,O⟩:=r0 H;refine dT func241 ntmps241 rfl rfl ?_;refine UZ ?_;refine eH λw0 i z=>?_
 refine eH λJ d c=>?_
 have i:=i.ext c;have c:=z.trans c;refine eC (λn E m=>?_);have i:=i.ext m;have Q:=d.ext m;have a:=c.trans m;refine UD ?_;have N:Rd n F (Bi t.k t.n ao t.kids.length cap) t:=V8 h (λb d=>a.block b (hF b d)) T0;have s:Rd n F (Bi j.k j.n ao' j.kids.length cap') j:=V8 H (λb d=>a.block b (hF b d)) T0;have p:w.heap.size<=n.heap.size:=a.size;have M:=E.lt;have K:w.heap.size<=J.heap.size:=c.size;refine VN (F:=F) (ys:=[t,j]) rfl rfl rfl rfl rfl (.cons N (.cons s .nil)) (by show 2*3<=16777216;decide) (λb d=>Rv (hF b d) p) (λI G u=>?_);have l:Ext n I:=(p7 n).grown u T8 T2;have r:=E.ext l;have f:=a.trans l;refine r4 rfl rfl rfl rfl ?_;refine f7 r (λC q o=>?_);have y:Ext w C:=f.grown o f.size (λg x=>by cases x;exact c.size);have ho4:=G.kept o (λg x=>by have:=(G.lt g x).1;simp;omega) (λb d=>⟨Rv (hF b d) f.size,by have:b<w.heap.size:=hF b d;simp;omega⟩);obtain⟨uo,uc,P,L⟩:=(ho4.rd.mono (F':=dp F w C) T5 (λb d=>d.elim .inl λD=>.inr ⟨Rr a.size (ho4.lt b D).1,(ho4.lt b D).2.1⟩)).sl;obtain⟨rfl,_,rfl⟩:=SV P;refine Uh ?_;exact e0 q ⟨VJ (kids:=[t,j]) L,y⟩
def FI(w:World)(F:Nat->Prop)(k:Int):Rt Vy 242 [Ub k].toArray w λv w'=>Rd w' F v (.mk k 0 []:Ltl)/\Ext w w':=by refine dR func242 ntmps242 rfl rfl (UZ ?_);refine eC (λh g d=>?_);refine UR ?_;refine r4 rfl rfl rfl rfl (f7 g (λf b a=>?_));have c:Ext w f:=d.grown a d.size TX;refine Uh ?_;exact e0 b ⟨VJ (kids:=[]) ⟨by simp,by simp[maxLen],λ_=>rfl,λi hi=>absurd hi TO⟩,c⟩
abbrev GL(B:Nat)(w:World)(v:Value)(t:Ltl):Prop:=Rd w (λb=>B<=b/\b<w.heap.size) v t
def GL.ext{w':World}{t:Ltl}(h:GL B w v t)(c:Ext w w'):GL B w' v t:=(VS h c (λb a=>a.2)).wk (λb a=>⟨a.1,Rv a.2 c.size⟩)
def GL.st{r:Nat}{w':World}{t:Ltl}(h:GL B w v t)(c:w.grownBy w' (some r))(d:r<B):GL B w' v t:=
 (Rd.kept h c (λb a=>⟨a.2,λe=>by have:=R4 e;have:=a.1;omega⟩)).wk (λb a=>⟨a.1,Rv a.2 c.size⟩)
def GL.low{B':Nat}{t:Ltl}(h:GL B w v t)(c:B'<=B):GL B' w v t:=Rd.wk h (λb a=>⟨Rr c a.1,a.2⟩)
def GL.plus{w':World}(d:B<=w.heap.size)(c:Ext w w'):∀b,dp (λb=>B<=b/\b<w.heap.size) w w' b->B<=b/\b<w'.heap.size:=λb a=>by
 have:=c.size;obtain a|a:=a
 .exact⟨a.1,by omega⟩
 .exact⟨by omega,a.2⟩
def VY:=@GL.plus
def GL.old{t:Ltl}(h:GL B w v t):Rd w (dk w) v t:=Rd.wk h (λb a=>a.2)
def rh{g d c f:World}{t:Ltl}(i:Rd c (dp F d c) v t)(h:c.grownBy f (some g.heap.size))(hF:∀b,F b->b<w.heap.size)(h1:w.heap.size<=g.heap.size)(h2:g.heap.size<d.heap.size)(h3:w.heap.size<=d.heap.size)(h4:d.heap.size<=c.heap.size):
  Rd f (dp F w f) v t:=by
 refine(i.kept h (λb a=>⟨?_,λe=>?_⟩)).wk (λb a=>?_)
 .obtain a|a:=a
  .have:=hF b a;omega
  .exact a.2
 .have:=R4 e;obtain a|a:=a
  .have:=hF b a;omega
  .have:=a.1;omega
 .obtain a|a:=a
  .exact .inl a
  .exact .inr ⟨by have:=a.1;omega,Rv a.2 h.size⟩
def GJ{w':World}{r:Nat}(h:Ext w w'){b:World}(a:w'.grownBy b (some r))(c:w.heap.size<=r):Ext w b:=h.grown a h.size (λg a=>by cases a;exact c)
def nY(w:World)(hF:∀b,F b->b<w.heap.size)(k:Int){t:Ltl}(h:Rd w F v t):Rt Vy 167 [Ub k,v].toArray w λv w'=>Rd w' (dp F w w') v (.mk k 0 [t]:Ltl)/\Ext w w':=by obtain⟨ao,cap,rfl,I⟩:=r0 h;refine dS func167 ntmps167 rfl rfl (UZ ?_);refine eH λA d f=>?_;refine eC (λl x j=>?_);have H:=d.ext j;have a:=f.trans j;refine UD ?_;have E:Rd l F (Bi t.k t.n ao t.kids.length cap) t:=V8 h (λb d=>a.block b (hF b d)) T0;have m:w.heap.size<=l.heap.size:=a.size;have D:=x.lt;have B:w.heap.size<=A.heap.size:=f.size;refine VN (F:=F) (ys:=[t]) rfl rfl rfl rfl rfl (.cons E .nil) (by show 1*3<=16777216;decide) (λb d=>Rv (hF b d) m) (λz y p=>?_);have e:Ext l z:=(p7 l).grown p T8 T2;have o:=x.ext e;have c:=a.trans e;refine r4 rfl rfl rfl rfl (f7 o (λs n i=>?_));have r:Ext w s:=c.grown i c.size (λg q=>by cases q;exact f.size);have ho4:=y.kept i (λg q=>by have:=(y.lt g q).1;simp;omega) (λb d=>⟨Rv (hF b d) c.size,by have:b<w.heap.size:=hF b d;simp;omega⟩);obtain⟨uo,uc,G,C⟩:=(ho4.rd.mono (F':=dp F w s) T5 (λb d=>d.elim .inl λu=>.inr ⟨Rr a.size (ho4.lt b u).1,(ho4.lt b u).2.1⟩)).sl;obtain⟨rfl,_,rfl⟩:=SV G;refine Uh ?_;exact e0 n ⟨VJ (kids:=[t]) C,r⟩
def oe(w:World)(hF:∀b,F b->b<w.heap.size)(k:Int){t i:Ltl}(h:Rd w F v t)(E:Rd w F A i):Rt Vy 233 [Ub k,v,A].toArray w λv w'=>Rd w' (dp F w w') v (.mk k 0 [t,i]:Ltl)/\Ext w w':=by
 obtain⟨ao,cap,rfl,P⟩:=r0 h;obtain⟨ao',cap',rfl,M⟩:=r0 E;refine dT func233 ntmps233 rfl rfl ?_;refine UZ ?_;refine eH λw0 f y=>?_
 refine eH λH d c=>?_
 have f:=f.ext c;have c:=y.trans c;refine eC (λm C l=>?_);have f:=f.ext l;have O:=d.ext l;have a:=c.trans l;refine UD ?_;have L:Rd m F (Bi t.k t.n ao t.kids.length cap) t:=V8 h (λb d=>a.block b (hF b d)) T0;have r:Rd m F (Bi i.k i.n ao' i.kids.length cap') i:=V8 E (λb d=>a.block b (hF b d)) T0;have o:w.heap.size<=m.heap.size:=a.size;have K:=C.lt;have I:w.heap.size<=H.heap.size:=c.size;refine VN (F:=F) (ys:=[t,i]) rfl rfl rfl rfl rfl (.cons L (.cons r .nil)) (by show 2*3<=16777216;decide) (λb d=>Rv (hF b d) o) (λG D s=>?_);have j:Ext m G:=(p7 m).grown s T8 T2;have q:=C.ext j;have e:=a.trans j;refine r4 rfl rfl rfl rfl ?_;refine f7 q (λz p n=>?_);have x:Ext w z:=e.grown n e.size (λg u=>by cases u;exact c.size);have ho4:=D.kept n (λg u=>by have:=(D.lt g u).1;simp;omega) (λb d=>⟨Rv (hF b d) e.size,by have:b<w.heap.size:=hF b d;simp;omega⟩);obtain⟨uo,uc,N,J⟩:=(ho4.rd.mono (F':=dp F w z) T5 (λb d=>d.elim .inl λB=>.inr ⟨Rr a.size (ho4.lt b B).1,(ho4.lt b B).2.1⟩)).sl;obtain⟨rfl,_,rfl⟩:=SV N;refine Uh ?_;exact e0 p ⟨VJ (kids:=[t,i]) J,x⟩
def nZ(w:World)(c:B<=w.heap.size)(k:Int){t:Ltl}(h:GL B w v t):Rt Vy 167 [Ub k,v].toArray w λu w'=>GL B w' u (.mk k 0 [t])/\Ext w w':=
 (nY w (λb a=>a.2) k h).mono λu w' h=>⟨h.1.wk (VY c h.2),h.2⟩
def nW(w:World)(hF:∀b,F b->b<w.heap.size){t:Ltl}(h:Rd w F v t):Rt Vy 165 [v].toArray w λu w'=>Rd w' (dp F w w') u (.mk 4 0 [t]:Ltl)/\Ext w w':=by obtain⟨ao,cap,rfl,s⟩:=r0 h;refine dR func165 ntmps165 rfl rfl (UZ ?_);refine eH λo f e=>?_;refine eC (λn m d=>?_);have f:=f.ext d;have g:=e.trans d;have a:w.heap.size<=o.heap.size:=e.size;have j:=m.lt;refine UD ?_;refine eK (nY n (λb f=>Rv (hF b f) g.size) 4 (VS h g hF)) ?_;rintro u r ⟨l,k⟩;obtain⟨uo,uc,rfl,p⟩:=r0 l;refine f7 (m.ext k) (λq i c=>?_);refine Uh ?_;exact e0 i ⟨rh l c hF a j g.size k.size,GJ (g.trans k) c a⟩
def nX(w:World)(c:B<=w.heap.size){t:Ltl}(h:GL B w v t):Rt Vy 165 [v].toArray w λu w'=>GL B w' u (.mk 4 0 [t])/\Ext w w':=
 (nW w (λb a=>a.2) h).mono λu w' h=>⟨h.1.wk (VY c h.2),h.2⟩
def nQ(w:World)(hF:∀b,F b->b<w.heap.size){t:Ltl}(h:Rd w F v t):Rt Vy 169 [v].toArray w λu w'=>Rd w' (dp F w w') u (.mk 11 0 [t]:Ltl)/\Ext w w':=by obtain⟨ao,cap,rfl,s⟩:=r0 h;refine dR func169 ntmps169 rfl rfl (UZ ?_);refine eH λo f e=>?_;refine eC (λn m d=>?_);have f:=f.ext d;have g:=e.trans d;have a:w.heap.size<=o.heap.size:=e.size;have j:=m.lt;refine UD ?_;refine eK (nY n (λb f=>Rv (hF b f) g.size) 11 (VS h g hF)) ?_;rintro u r ⟨l,k⟩;obtain⟨uo,uc,rfl,p⟩:=r0 l;refine f7 (m.ext k) (λq i c=>?_);refine Uh ?_;exact e0 i ⟨rh l c hF a j g.size k.size,GJ (g.trans k) c a⟩
def nR(w:World)(c:B<=w.heap.size){t:Ltl}(h:GL B w v t):Rt Vy 169 [v].toArray w λu w'=>GL B w' u (.mk 11 0 [t])/\Ext w w':=
 (nQ w (λb a=>a.2) h).mono λu w' h=>⟨h.1.wk (VY c h.2),h.2⟩
def nS(w:World)(hF:∀b,F b->b<w.heap.size){t n:Ltl}(h:Rd w F v t)(q:Rd w F A n):Rt Vy 171 [v,A].toArray w λu w'=>Rd w' (dp F w w') u (.mk 5 0 [t,n]:Ltl)/\Ext w w':=by
 obtain⟨ao,cap,rfl,C⟩:=r0 h;obtain⟨ao',cap',rfl,y⟩:=r0 q;refine dS func171 ntmps171 rfl rfl ?_;refine UZ ?_;refine eH λw0 c l=>?_
 refine eH λs i a=>?_
 have c:=c.ext a;have a:=l.trans a;refine eC (λr p d=>?_);have c:=c.ext d;have i:=i.ext d;have g:=a.trans d;have e:w.heap.size<=s.heap.size:=a.size;have k:=p.lt;refine UD ?_;refine eK (oe r (F:=F) (λb i=>Rv (hF b i) g.size) 5 (VS h g hF) (VS q g hF)) ?_;rintro u B ⟨o,m⟩
 obtain⟨uo,uc,rfl,x⟩:=r0 o;refine f7 (p.ext m) (λz j f=>?_);refine Uh ?_;exact e0 j ⟨rh o f hF e k g.size m.size,GJ (g.trans m) f e⟩
def nT(w:World)(d:B<=w.heap.size){t a:Ltl}(h:GL B w v t)(e:GL B w A a):Rt Vy 171 [v,A].toArray w λu w'=>GL B w' u (.mk 5 0 [t,a])/\Ext w w':=
 (nS w (F:=λb=>B<=b/\b<w.heap.size) (λb c=>c.2) h e).mono λu w' h=>⟨h.1.wk (VY d h.2),h.2⟩
def n_(w:World)(hF:∀b,F b->b<w.heap.size){t n:Ltl}(h:Rd w F v t)(q:Rd w F A n):Rt Vy 166 [v,A].toArray w λu w'=>Rd w' (dp F w w') u (.mk 6 0 [t,n]:Ltl)/\Ext w w':=by
 obtain⟨ao,cap,rfl,C⟩:=r0 h;obtain⟨ao',cap',rfl,y⟩:=r0 q;refine dS func166 ntmps166 rfl rfl ?_;refine UZ ?_;refine eH λw0 c l=>?_
 refine eH λs i a=>?_
 have c:=c.ext a;have a:=l.trans a;refine eC (λr p d=>?_);have c:=c.ext d;have i:=i.ext d;have g:=a.trans d;have e:w.heap.size<=s.heap.size:=a.size;have k:=p.lt;refine UD ?_;refine eK (oe r (F:=F) (λb i=>Rv (hF b i) g.size) 6 (VS h g hF) (VS q g hF)) ?_;rintro u B ⟨o,m⟩
 obtain⟨uo,uc,rfl,x⟩:=r0 o;refine f7 (p.ext m) (λz j f=>?_);refine Uh ?_;exact e0 j ⟨rh o f hF e k g.size m.size,GJ (g.trans m) f e⟩
def od(w:World)(d:B<=w.heap.size){t a:Ltl}(h:GL B w v t)(e:GL B w A a):Rt Vy 166 [v,A].toArray w λu w'=>GL B w' u (.mk 6 0 [t,a])/\Ext w w':=
 (n_ w (F:=λb=>B<=b/\b<w.heap.size) (λb c=>c.2) h e).mono λu w' h=>⟨h.1.wk (VY d h.2),h.2⟩
def og(w:World)(hF:∀b,F b->b<w.heap.size){t n:Ltl}(h:Rd w F v t)(q:Rd w F A n):Rt Vy 170 [v,A].toArray w λu w'=>Rd w' (dp F w w') u (.mk 8 0 [t,n]:Ltl)/\Ext w w':=by
 obtain⟨ao,cap,rfl,C⟩:=r0 h;obtain⟨ao',cap',rfl,y⟩:=r0 q;refine dS func170 ntmps170 rfl rfl ?_;refine UZ ?_;refine eH λw0 c l=>?_
 refine eH λs i a=>?_
 have c:=c.ext a;have a:=l.trans a;refine eC (λr p d=>?_);have c:=c.ext d;have i:=i.ext d;have g:=a.trans d;have e:w.heap.size<=s.heap.size:=a.size;have k:=p.lt;refine UD ?_;refine eK (oe r (F:=F) (λb i=>Rv (hF b i) g.size) 8 (VS h g hF) (VS q g hF)) ?_;rintro u B ⟨o,m⟩
 obtain⟨uo,uc,rfl,x⟩:=r0 o;refine f7 (p.ext m) (λz j f=>?_);refine Uh ?_;exact e0 j ⟨rh o f hF e k g.size m.size,GJ (g.trans m) f e⟩
def oh(w:World)(d:B<=w.heap.size){t a:Ltl}(h:GL B w v t)(e:GL B w A a):Rt Vy 170 [v,A].toArray w λu w'=>GL B w' u (.mk 8 0 [t,a])/\Ext w w':=
 (og w (F:=λb=>B<=b/\b<w.heap.size) (λb c=>c.2) h e).mono λu w' h=>⟨h.1.wk (VY d h.2),h.2⟩
abbrev bT(w:World)(t:Ltl):Value->World->Prop:=λv w'=>GL w.heap.size w' v t/\Ext w w'
def Rt.low{f:FuncId}{t:Ltl}(h:Rt P f u w (bT w t))(a:B<=w.heap.size):Rt P f u w λv w'=>GL B w' v t/\Ext w w':=h.mono λv w' h=>⟨h.1.low a,h.2⟩
def FnV.low{fv:Value}{t:Ltl}(h:FnV P fv r w (bT w t))(a:B<=w.heap.size):FnV P fv r w λv w'=>GL B w' v t/\Ext w w':=h.mono λv w' h=>⟨h.1.low a,h.2⟩

section
variable {w w':World}{F:Nat->Prop}{b:Nat}{pt:cL}{so:Option Addr}{sc:Nat}{lo:Option Addr}{lc:Nat}{s l:List Nat}{e:Nat}
end
section
variable {w w':World}{F:Nat->Prop}{b:Nat}{pt:cL}{so:Option Addr}{sc:Nat}{lo:Option Addr}{lc:Nat}{s l:List Nat}{e:Nat}
abbrev KS:=Nat×Bool×Bool×Bool
end
section
variable {w w':World}{F:Nat->Prop}{b:Nat}{pt:cL}{so:Option Addr}{sc:Nat}{lo:Option Addr}{lc:Nat}{s l:List Nat}{e:Nat}
end

section
variable {k p S q r c:Int}{s l:List Nat}
end
abbrev AI(n:Int):Ltl:=.mk 3 n []
abbrev C1(a:Ltl):Ltl:=.mk 4 0 [a]
abbrev gX(a b:Ltl):Ltl:=.mk 5 0 [a,b]
abbrev DQ(a b:Ltl):Ltl:=.mk 6 0 [a,b]
abbrev L1(a b:Ltl):Ltl:=.mk 8 0 [a,b]
abbrev gW(a:Ltl):Ltl:=.mk 11 0 [a]
abbrev q8(a:Ltl):Ltl:=.mk 10 0 [a]
abbrev Cm(a:Ltl):Ltl:=.mk 7 0 [a]
def jz(P:Int):Nat->Ltl
 |0=>gW (C1 (AI P))
 |n+1=>DQ (L1 (C1 (AI P)) (gX (AI P) (Cm (jz P n)))) (gW (C1 (AI P)))
def tR(k P S:Int)(n:Nat):Ltl:=
 if k=2 then gW (AI P)
 else if k=3 then q8 (AI P)
 else if k=5 then DQ (L1 (C1 (AI P)) (AI S)) (gW (C1 (AI P)))
 else if k=6 then gW (DQ (C1 (AI P)) (q8 (AI S)))
 else if k=4 then jz P n
 else gW (C1 (AI P))
def MI(weak:Bool)(a b:Ltl):Ltl:=if weak=true then DQ (L1 a b) (gW a)else L1 a b
def jA(P R:Int)(weak:Bool):Nat->Ltl
 |0=>MI weak (C1 (AI P)) (AI R)
 |n+1=>MI weak (C1 (AI P)) (DQ (AI R) (gX (gX (AI P) (C1 (AI R))) (Cm (jA P R weak n))))
def L8(k P S R:Int)(n:Nat)(weak:Bool):Ltl:=
 if k=2 then MI weak (AI P) (AI R)
 else if k=3 then L1 (C1 (AI R)) (gX (AI P) (C1 (AI R)))
 else if k=5 then MI weak (C1 (AI P)) (DQ (AI S) (AI R))
 else if k=6 then MI weak (DQ (C1 (AI P)) (L1 (C1 (AI R)) (gX (AI S) (C1 (AI R))))) (AI R)
 else if k=4 then jA P R weak n
 else MI weak (C1 (AI P)) (AI R)
def ol(pt:cL):Ltl:=
 let k:=pt.1
 let P:=pt.2.2.1
 let S:=pt.2.2.2.1
 let Q:=pt.2.2.2.2.1
 let R:=pt.2.2.2.2.2.1
 let c:=pt.2.2.2.2.2.2.toNat
 if pt.2.1=2 then DQ (C1 (q8 (AI R))) (L8 k P S R c false)
 else if pt.2.1=3 then DQ (gW (C1 (AI Q))) (L1 (C1 (AI Q)) (gX (AI Q) (tR k P S c)))
 else if pt.2.1=4 then gW (DQ (C1 (gX (gX (AI Q) (C1 (AI R))) (q8 (AI R)))) (L8 k P S R c false))
 else if pt.2.1=5 then gW (DQ (C1 (gX (AI Q) (C1 (AI R)))) (L8 k P S R c true))
 else tR k P S c
section
variable {L:Nat->Nat}{i:Nat}
end
inductive ME where
 |kn (i d:Nat) (v:Value)
 |fc (i d:Nat) (Φ:Value->(Nat->Nat)->World->Prop)
def ME.i:ME->Nat|.kn i _ _=>i|.fc i _ _=>i
def ME.d:ME->Nat|.kn _ d _=>d|.fc _ d _=>d
def ME.Φ:ME->Value->(Nat->Nat)->World->Prop|.kn _ _ v=>λu _ _=>u=v|.fc _ _ Φ=>Φ
def d9(Φ:Value->(Nat->Nat)->World->Prop):Prop:=∀v γ a w w',Φ v γ w->Ext w w'->(∀b,b<w.heap.size->a b=γ b)->Φ v a w'
def ME.ok(m:ME):Prop:=d9 m.Φ
def jM(γ:Nat->Nat)(w:World)(i:Nat):Nat->Nat:=λb=>if b<w.heap.size then γ b else i
abbrev aO:=List ME
def rk:aO->Nat->Option ME
 |[],_=>none
 |m::r,j=>match beq m.i j with|true=>some m|false=>rk r j
def rl:∀{Γ:aO} {j:Nat} {m:ME},rk Γ j=some m->m∈Γ/\m.i=j
 |[],_,_,h=>by cases h
 |x::r,j,m,h=>by
  unfold rk at h;split at h
  .rename_i e;injection h with h;subst h;exact⟨by simp,Ri e⟩
  .obtain⟨h1,h2⟩:=rl h;exact⟨by simp[h1],h2⟩
def oN(j:Nat):List Nat->Bool
 |[]=>false
 |x::r=>match beq x j with|true=>true|false=>oN j r
def oO{j:Nat}:∀{l:List Nat},oN j l=true->j∈l
 |[],h=>by cases h
 |x::r,h=>by
  unfold oN at h;split at h
  .rename_i e;rw[Ri e];simp
  .exact Qp _ (oO h)
def DK:List Edge->List Nat
 |[]=>[]
 |e::r=>match Region.binds .any e with
  |true=>(match oN e.on (DK r)with|true=>DK r|false=>e.on::DK r)
  |false=>DK r
def DI(o:Oper):List Nat:=DK o.after.toList
def DL{j:Nat}:∀{l:List Edge},j∈DK l->∃e∈l,Region.binds .any e=true/\e.on=j
 |[],h=>by cases h
 |e::r,h=>by
  have up:j∈DK r->∃a∈e::r,Region.binds .any a=true/\a.on=j:=λh=>by obtain⟨a,h1,h2⟩:=DL h;exact⟨a,by simp[h1],h2⟩
  unfold DK at h;split at h
  .rename_i b;split at h
   .exact up h
   .obtain rfl|h:=Qo.1 h
    .exact⟨e,by simp,b,rfl⟩
    .exact up h
  .exact up h
def DM{j:Nat}(h:j∈DI o):∃e∈o.after,Region.binds .any e=true/\e.on=j:=by obtain⟨e,h1,h2⟩:=DL h;exact⟨e,by simpa using h1,h2⟩
def kS(Γ:aO)(σ:Sg):List Nat->Sg
 |[]=>σ
 |j::r=>match rk Γ j with|some (.kn _ d v)=>(d,v)::kS Γ σ r|_=>kS Γ σ r
def Cd(Γ:aO)(γ:Nat->Nat)(w:World)(k:Sg->Prop):List Nat->Sg->Prop
 |[],σ=>k σ
 |j::r,σ=>match rk Γ j with
  |some (.kn _ d v)=>Cd Γ γ w k r ((d,v)::σ)
  |some (.fc _ d Φ)=>∀v,Φ v γ w->Cd Γ γ w k r ((d,v)::σ)
  |none=>Cd Γ γ w k r σ
def gC(γ:Nat->Nat)(w:World)(k:Sg->Prop):aO->Sg->Prop
 |[],σ=>k σ
 |.kn _ d v::r,σ=>gC γ w k r ((d,v)::σ)
 |.fc _ d Φ::r,σ=>∀v,Φ v γ w->gC γ w k r ((d,v)::σ)
def sr{n:Nat}{σ:Sg}{a:Act}{d:Nat}(h:Fr n σ a)(c:a.tmps.getD d undef=v):Fr n ((d,v)::σ) a:=by
 refine⟨h.size,h.defers,λt u b=>?_⟩;by_cases e:d=t
 .subst e;rw[sd]at b;cases b;exact c
 .rw[se e]at b;exact h.slot _ _ b
def zH{Γ:aO}{n:Nat}{σ:Sg}{a:Act}{γ:Nat->Nat}{w:World}(c:Fr n σ a):∀(l:List Nat),(∀j∈l,∀m∈Γ,m.i=j->m.Φ (a.tmps.getD m.d undef) γ w)->Fr n (kS Γ σ l) a
 |[],_=>c
 |j::r,h=>by
  have b:=zH (γ:=γ) (w:=w) c r (λx e=>h x (by simp[e]));unfold kS;split
  .rename_i i d v hf;obtain⟨h1,h2⟩:=rl hf;exact sr b (h j TO _ h1 h2)
  .exact b
def Ce{Γ:aO}{n:Nat}{a:Act}{γ:Nat->Nat}{w:World}{k:Sg->Prop}:∀(l:List Nat) (σ:Sg),Cd Γ γ w k l σ->Fr n σ a->(∀j∈l,∀m∈Γ,m.i=j->m.Φ (a.tmps.getD m.d undef) γ w)->∃τ,Fr n τ a/\k τ
 |[],σ,h,b,_=>⟨σ,b,h⟩
 |j::r,σ,h,b,hΦ=>by
  unfold Cd at h;have c:∀x∈r,∀m∈Γ,m.i=x->m.Φ (a.tmps.getD m.d undef) γ w:=λx e=>hΦ x (by simp[e]);split at h
  .rename_i i d v hf;obtain⟨h1,h2⟩:=rl hf;exact Ce r _ h (sr b (hΦ j TO _ h1 h2)) c
  .rename_i i d Φ hf;obtain⟨h1,h2⟩:=rl hf;exact Ce r _ (h _ (hΦ j TO _ h1 h2)) (sr b rfl) c
  .exact Ce r _ h b c
def gD{n:Nat}{a:Act}{γ:Nat->Nat}{w:World}{k:Sg->Prop}:∀(Γ:aO) (σ:Sg),gC γ w k Γ σ->Fr n σ a->(∀m∈Γ,m.Φ (a.tmps.getD m.d undef) γ w)->∃τ,Fr n τ a/\k τ
 |[],σ,h,b,_=>⟨σ,b,h⟩
 |.kn i d v::r,σ,h,b,hΦ=>gD r _ h (sr b (hΦ (.kn i d v) TO)) (λm c=>hΦ m (by simp[c]))
 |.fc i d Φ::r,σ,h,b,hΦ=>gD r _ (h _ (hΦ (.fc i d Φ) TO)) (sr b rfl) (λm c=>hΦ m (by simp[c]))
def ab(γ:Nat->Nat)(w:World)(i d:Nat)(Φ:Value->(Nat->Nat)->World->Prop):Exit->Act->World->Prop:=
 λx a w'=>x=.normal/\a.defers=[]/\Ext w w'/\Φ (a.tmps.getD d undef) (jM γ w i) w'
def a7{γ:Nat->Nat}{w':World}{n i d:Nat}{σ:Sg}(e:fnd σ d=some v)(f:Ext w w')(hΦ:b v (jM γ w i) w'):EX (ab γ w i d b) .normal n σ w':=by unfold EX;intro a c;exact⟨rfl,c.defers,f,by rw[c.slot _ _ e];exact hΦ⟩
def ML.en{P:Program}{l:List Oper}{γ:Nat->Nat}{n i d:Nat}{σ:Sg}(hR:∀v w',c v w'->b v (jM γ w i) w'/\Ext w w':=by exact λ_ _ h=>h):
  ∀v w',c v w'->WL P l (ab γ w i d b) [] n ((d,v)::σ) w':=
 λv w' h=>p0 (a7 sd (hR v w' h).2 (hR v w' h).1)
def u3:=@ML.en
def OB(P:Program)(L:List Oper)(w0:World)(n:Nat)(σ:Sg)(Γ:aO)(o:Oper)(i d:Nat)(Φ:Value->(Nat->Nat)->World->Prop):Prop:=
 ∀w γ,Ext w0 w->∀a,Fr n σ a->(∀j∈DI o,∀m∈Γ,m.i=j->m.Φ (a.tmps.getD m.d undef) γ w)->
  (Region.wanted o (yielded L.toArray a.tmps)=true/\o.wp P a w (λb w'=>Ext w w'/\∃v,b=a.put (some d) v/\Φ v (jM γ w i) w') dg)\/(Region.wanted o (yielded L.toArray a.tmps)=false/\Φ undef (jM γ w i) w)
def ML(P:Program)(L:List Oper)(w0:World)(n:Nat)(σ:Sg)(K:aO->Prop):Nat->aO->List Oper->Prop
 |_,Γ,[]=>K Γ
 |i,Γ,o::r=>∃m:ME,m.i=i/\o.dst=some m.d/\ble (m.d+1) n=true/\fnd σ m.d=none/\m.ok/\OB P L w0 n σ Γ o i m.d m.Φ/\ML P L w0 n σ K (i+1) (m::Γ) r
def gw{i d n:Nat}{γ:Nat->Nat}{a:Act}{τ:Sg}(hd:o.dst=some d)(hn:ble (d+1) n=true)(l:Fr n τ a)(m:Region.wanted o (yielded L.toArray a.tmps)=true)(h:WL P L (ab γ w i d b) [o] n τ w):
  o.wp P a w (λq w'=>Ext w w'/\∃v,q=a.put (some d) v/\b v (jM γ w i) w') dg:=by
 unfold WL at h;have h2:=h a l;simp only[wpList,m,To]at h2;have j:d<n:=Rm hn;have c:∀v,(a.put (some d) v).tmps.getD d undef=v:=by intro v;simp[Act.put,Array.getD,l.size,j]
 obtain h2|⟨_,p⟩:=h2
 .unfold Oper.wp at*;obtain⟨dst,op,ty,pos,af,g⟩:=o;simp only at hd;subst hd;generalize (execOp a.eval _).run P w=r at*;cases r with
  |ok k w'=>
   cases k<;>simp only[Oper.upon]at h2⊢<;>first
    |exact⟨h2.2.2.1,_,rfl,by have:=h2.2.2.2;rw[c]at this;exact this⟩
    |(exfalso;have:=h2.2.1;simp[Act.put]at this;done)
    |(refine Oa h2 (λx w'' e=>?_)
      cases x
      .exact⟨e.2.2.1,_,rfl,by have:=e.2.2.2;rw[c]at this;exact this⟩
      .exact absurd e.1 TO
      .obtain⟨_,_,f⟩:=e;exact absurd f.1 TO)
    |exact Rows.mono h2 (λv w'' e=>⟨e.2.2.1,_,rfl,by have:=e.2.2.2;rw[c]at this;exact this⟩)
    |exact h2
  |halt x w'=>cases x<;>simp only[Oper.upon]at h2⊢<;>first|exact h2|exact absurd h2.1 TO
 .obtain⟨_,_,f⟩:=p;exact absurd f.1 TO
section
variable {P:Program}{L:List Oper}{w0:World}{n:Nat}{σ:Sg}{K:aO->Prop}{i d:Nat}{Γ:aO}{r:List Oper}{op:Op}{ty:TypeId}{pos:String}{af:Array Edge}{g:Option (Nat×Bool)}
theorem c6{v:Value}(j:gd L (kS Γ σ (DK af.toList)) ⟨some d,op,ty,pos,af,g⟩=some true)(hn:ble (d+1) n=true)(hf:fnd σ d=none)
  (h:∀γ w,Ext w0 w->WL P L (ab γ w i d (λu _ _=>u=v)) [⟨some d,op,ty,pos,af,g⟩] n (kS Γ σ (DK af.toList)) w) (f:ML P L w0 n σ K (i+1) (.kn i d v::Γ) r):
  ML P L w0 n σ K i Γ (⟨some d,op,ty,pos,af,g⟩::r):=by
 refine⟨.kn i d v,rfl,rfl,hn,hf,λu _ _ w w' h _ _=>h,λw γ e a k hΦ=>.inl ?_,f⟩;have c:Fr n (kS Γ σ (DK af.toList)) a:=zH k _ hΦ;have b:=sZ c j;exact⟨b,gw rfl hn c b (h γ w e)⟩
theorem c7{v:Value}(h:∀γ w,Ext w0 w->WL P L (ab γ w i d (λu _ _=>u=v)) [⟨some d,op,ty,pos,af,g⟩] n (kS Γ σ (DK af.toList)) w)(a:ML P L w0 n σ K (i+1) (.kn i d v::Γ) r)(b:gd L (kS Γ σ (DK af.toList)) ⟨some d,op,ty,pos,af,g⟩=some true:=by exact rfl)(hn:ble (d+1) n=true:=by exact rfl)(hf:fnd σ d=none:=by exact rfl):ML P L w0 n σ K i Γ (⟨some d,op,ty,pos,af,g⟩::r):=c6 b hn hf h a
theorem ML.fc(Φ:Value->(Nat->Nat)->World->Prop)(l:gd L (kS Γ σ (DK af.toList)) ⟨some d,op,ty,pos,af,g⟩=some true)(hn:ble (d+1) n=true)(hf:fnd σ d=none)(f:d9 Φ)
  (h:∀γ w,Ext w0 w->Cd Γ γ w (λτ=>WL P L (ab γ w i d Φ) [⟨some d,op,ty,pos,af,g⟩] n τ w) (DK af.toList) σ) (j:ML P L w0 n σ K (i+1) (.fc i d Φ::Γ) r):
  ML P L w0 n σ K i Γ (⟨some d,op,ty,pos,af,g⟩::r):=by
 refine⟨.fc i d Φ,rfl,rfl,hn,hf,f,λw γ e a c hΦ=>.inl ?_,j⟩;have k:Fr n (kS Γ σ (DK af.toList)) a:=zH c _ hΦ;have b:=sZ k l;obtain⟨τ,hτ,m⟩:=Ce _ _ (h γ w e) c hΦ;exact⟨b,gw rfl hn hτ b m⟩
def V1:=@ML.fc
end
def mS(L:List Oper)(i:Nat):Option Nat:=match L[i]? with|some o=>o.dst|none=>none
def mark(L:List Oper):Nat->List Bool->List Bool
 |0,m=>m
 |i+1,m=>match m.getD i false,L[i]? with
  |true,some o=>mark L i ((DI o).foldl (λm j=>m.set j true) m)
  |_,_=>mark L i m
def B6(L:List Oper)(k:Nat):Bool:=
 Region.noSelect L.toArray&&(range L.length).all (λi=>match L[i]? with|some o=>(DI o).all λj=>decide (j<i)|none=>false)&&
 (range k).all (λi=>(range i).all λj=>match mS L i,mS L j with|some x,some y=>!(beq x y)|_,_=>false)&&
 decide (k<=L.length)&&(range (L.length -k)).all λp=>(range (k+p)).all λi=>(mark L (k+p+1) ((replicate (k+p+1) false).set (k+p) true)).getD i false
def BI{L:List Oper}{S:Nat->Prop}(hS:∀i o,S i->L[i]?=some o->∀j∈DI o,S j):∀(i:Nat) (m:List Bool),(∀x,m.getD x false=true->S x)->∀x,(mark L i m).getD x false=true->S x
 |0,m,h,x,a=>h x a
 |i+1,m,h,x,a=>by
  unfold mark at a;split at a
  .rename_i o q p;refine BI hS i _ ?_ x a;have c:=hS i o (h i q) p;have key:∀(l:List Nat) (m:List Bool),(∀j∈l,S j)->(∀x,m.getD x false=true->S x)->∀x,(l.foldl (λm j=>m.set j true) m).getD x false=true->S x:=by
    intro l;induction l with
    |nil=>intro m _ h x a;exact h x a
    |cons j l k=>
     intro m f h x a;refine k _ (λy b=>f y (by simp[b])) (λy b=>?_) x a;by_cases e:j=y
     .subst e;exact f _ TO
     .refine h y ?_;simpa[Pl,Py,e]using b
   exact key _ _ c h
  .exact BI hS i _ h x a
structure MG(P:Program)(L:List Oper)(w0:World)(n:Nat)(σ:Sg)(Γ:aO)(i:Nat)(o:Oper):Prop where
 ex:∃m∈Γ,∃Δ:aO,(∀x∈Δ,x∈Γ)/\m.i=i/\o.dst=some m.d/\ble (m.d+1) n=true/\fnd σ m.d=none/\OB P L w0 n σ Δ o i m.d m.Φ
def c8{P:Program}{L:List Oper}{w0:World}{n:Nat}{σ:Sg}{K:aO->Prop}:∀(r:List Oper) (i:Nat) (Γ:aO),ML P L w0 n σ K i Γ r->(∀m∈Γ,m.i<i/\m.ok)->(Γ.map (·.i)).Nodup->
  ∃Γ':aO,K Γ'/\(∀m∈Γ,m∈Γ')/\(∀m∈Γ',m.i<i+r.length/\m.ok)/\(Γ'.map (·.i)).Nodup/\∀j o,r[j]?=some o->MG P L w0 n σ Γ' (i+j) o
 |[],i,Γ,h,hΓ,hd=>⟨Γ,h,λm h=>h,hΓ,hd,λj o h=>by simp at h⟩
 |o::r,i,Γ,h,hΓ,hd=>by
  obtain⟨m,h1,h2,h3,h4,l,k,f⟩:=h;obtain⟨Γ',g1,g2,g3,g4,g5⟩:=c8 r (i+1) (m::Γ) f (λx a=>by
   obtain rfl|a:=Qo.1 a
   .exact⟨by omega,l⟩
   .have:=hΓ x a;exact⟨by omega,this.2⟩) (by
   rw[Qg,QG];refine⟨λc=>?_,hd⟩;obtain⟨x,a,e⟩:=Qv.1 c;have:=(hΓ x a).1;omega)
  refine⟨Γ',g1,λx a=>g2 x (by simp[a]),λx a=>by have:=g3 x a;simp only[PY];exact⟨by omega,this.2⟩,g4,λj b hj=>?_⟩;cases j with
  |zero=>
   simp at hj;subst hj;exact⟨m,g2 m TO,Γ,λx a=>g2 x (by simp[a]),h1,h2,h3,h4,k⟩
  |succ j=>
   have:=g5 j b (by simpa using hj);rwa[show i+(j+1)=i+1+j by omega]
def BF{γ:Type}{f:α->γ}{l:List α}(h:(l.map f).Nodup):∀x∈l,∀y∈l,f x=f y->x=y:=λx b y a=>CY h x b y a
structure MInv(L:List Oper)(w0:World)(n:Nat)(σ:Sg)(Γ:aO)(k:Nat)(listed:Array Bool)(a:Act)(γ:Nat->Nat)(w:World):Prop where
 size:listed.size=L.length
 fr:Fr n σ a
 ext:Ext w0 w
 facts:∀m∈Γ,listed.getD m.i false=true->m.Φ (a.tmps.getD m.d undef) γ w
 closed:∀i o,listed.getD i false=true->L[i]?=some o->∀j∈DI o,listed.getD j false=true
 low:∀i,listed.getD i false=true->i<k
def listed_set{l:Array Bool}{i j:Nat}:(l.setIfInBounds i true).getD j false=true↔(j=i/\i<l.size)\/l.getD j false=true:=by
 simp only[Ny,NF];by_cases e:i=j
 .subst e;by_cases h:i<l.size
  .simp[h]
  .simp[h]
 .rw[Tm e];constructor
  .exact λh=>.inr h
  .rintro(⟨h,_⟩|h)
   .exact absurd h.symm e
   .exact h
def mp{l:Array Bool}{i:Nat}(h:l.getD i true=false):(l.setIfInBounds i true).toList.countP (λb=>!b)+1=l.toList.countP λb=>!b:=by
 have hi:i<l.size:=by
  obtain a|a:=Rw i l.size
  .exact a
  .simp[Ny,NA a]at h
 have e:l[i]=false:=by simpa[Ny,hi]using h
 have h1:(l.setIfInBounds i true).toList=l.toList.set i true:=by simp
 rw[h1,OS (by simpa using hi)];have h2:l.toList[i]'(by simpa using hi)=false:=by simpa using e
 rw[h2];have:0<l.toList.countP λb=>!b:=OQ.2 ⟨false,h2▸PL _,rfl⟩;generalize (l.toList.countP λb=>!b)=c at*;simp only[N0,N4,To,NW,Tl];omega
def MInv.step{w0 w':World}{n k i:Nat}{σ:Sg}{Γ:aO}{a:Act}{γ:Nat->Nat}{m:ME}(h:MInv L w0 n σ Γ k y a γ w)(G:m∈Γ)(s:m.i=i)(J:L[i]?=some o)(hn:ble (m.d+1) n=true)
  (hf:fnd σ m.d=none) (C:∀m∈Γ,m.ok) (p:(Γ.map (·.i)).Nodup) (F:∀x∈Γ,x.i≠i->x.d≠m.d) (H:Ext w w') (hΦ:m.Φ v (jM γ w i) w') (l:∀j∈DI o,y.getD j false=true) (M:i<k):MInv L w0 n σ Γ k (y.setIfInBounds i true) (a.put (some m.d) v) (jM γ w i) w':=by
 have z:m.d<n:=Rm hn;have B:=h.fr.put (d:=some m.d) (v:=v) hn;refine⟨by simpa using h.size,⟨B.size,B.defers,λt u A=>B.slot t u ?_⟩,h.ext.trans H,λx f E=>?_,λj I hj c q hq=>?_,λj hj=>?_⟩
 .show fnd ((m.d,v)::σ) t=some u;rw[se (λe=>by subst e;rw[hf]at A;cases A)];exact A
 .obtain⟨e,_⟩|E:=listed_set.1 E
  .obtain rfl:x=m:=BF p x f m G (by show x.i=m.i;rw[e,s]);have:(a.put (some x.d) v).tmps.getD x.d undef=v:=by simp[Act.put,Array.getD,h.fr.size,z]
   rw[this];exact hΦ
  .by_cases e:x.i=i
   .obtain rfl:x=m:=BF p x f m G (by show x.i=m.i;rw[e,s]);have:(a.put (some x.d) v).tmps.getD x.d undef=v:=by simp[Act.put,Array.getD,h.fr.size,z]
    rw[this];exact hΦ
   .have D:=F x f e;have:(a.put (some m.d) v).tmps.getD x.d undef=a.tmps.getD x.d undef:=by simp only[Act.put,Ny];rw[NG (λe=>D e.symm)]
    rw[this];exact C x f _ _ _ _ _ (h.facts x f E) H (λb N=>Tn N)
 .obtain⟨e,_⟩|hj:=listed_set.1 hj
  .subst e;rw[J]at c;cases c;exact listed_set.2 (.inr (l q hq))
  .exact listed_set.2 (.inr (h.closed j I hj c q hq))
 .obtain⟨e,_⟩|hj:=listed_set.1 hj
  .omega
  .exact h.low j hj
def BT{e:Edge}(a:e∈o.after)(b:Region.binds .any e=true):e.on∈DI o:=by
 unfold DI;have key:∀l:List Edge,e∈l->e.on∈DK l:=by
  intro l;induction l with
  |nil=>intro h;cases h
  |cons x l ih2=>
   intro h;unfold DK;obtain rfl|h:=Qo.1 h
   .rw[b];dsimp only;split
    .rename_i a;exact oO a
    .simp
   .split
    .split
     .exact ih2 h
     .exact Qp _ (ih2 h)
    .exact ih2 h
 exact key _ (by simpa using a)
def DJ(h:∀e∈o.after,Region.binds .any e=true->y.getD e.on false=true):∀j∈DI o,y.getD j false=true:=λj hj=>by obtain⟨e,h1,h2,rfl⟩:=DM hj;exact h e h1 h2
def tG{l:Array Bool}{i:Nat}(hi:i<l.size):l.getD i true=l.getD i false:=by simp[Ny,hi]
def gH{i:Nat}(c:∀x,x<i->(mark L (i+1) ((replicate (i+1) false).set i true)).getD x false=true)(k:L[i]?=some o)(b:∀j∈DI o,y.getD j false=true)
  (f:∀i o,y.getD i false=true->L[i]?=some o->∀j∈DI o,y.getD j false=true):∀x,x<i->y.getD x false=true:=λx a=>by
 have hS:=BI (L:=L) (S:=λx=>x=i\/y.getD x false=true) (λx h a ho2 j hj=>by
  obtain rfl|a:=a
  .rw[k]at ho2;cases ho2;exact .inr (b j hj)
  .exact .inr (f x h a ho2 j hj)) (i+1) ((replicate (i+1) false).set i true) (λx a=>by
  by_cases e:i=x
  .exact .inl e.symm
  .exfalso;simp[Pl,Py,e,Pw]at a;split at a<;>simp at a)
 exact(hS x (c x a)).resolve_left TK
def Ks{P:Program}{L:List Oper}{Q:Exit->Act->World->Prop}{k:Nat}(u:∀p,k<=p->p<L.length->∀x,x<p->(mark L (p+1) ((replicate (p+1) false).set p true)).getD x false=true)(c:∀i o,L[i]?=some o->∀j∈DI o,j<i):
  ∀(fuel p:Nat) (b:Array Bool) (a:Act) (w:World),k<=p->fuel+p=L.length->b.size=L.length->(∀i,b.getD i false=true↔i<p)->wpList P L.toArray (λx a w=>x=.normal/\Q .normal a w) (L.drop p) a w->
   wpAny P .any L.toArray (λx a w=>x=.normal/\Q .normal a w) fuel b a w
 |0,p,b,a,w,M,I,s,m,h=>by
  rw[List.drop_of_length_le TK]at h;refine⟨List.eq_nil_iff_forall_not_mem.2 λi hi=>?_,h⟩;obtain⟨y,oi,t,_⟩:=Tp.1 hi;have B:i<L.length:=by have:=(NB.1 t).1;simpa using this
  rw[tG TK,(m i).2 TK]at y;cases y
 |fuel+1,p,b,a,w,M,I,s,m,h=>by
  have l:p<L.length:=by omega
  have F:∀i o,b.getD i false=true->L[i]?=some o->∀j∈DI o,b.getD j false=true:=λi o hi D j hj=>(m j).2 (by have:=c i o D j hj;have:=(m i).1 hi;omega);have f:∀i,i∈ready .any L.toArray b->i=p:=λi hi=>by
   obtain⟨y,oi,t,E⟩:=Tp.1 hi;have q:L[i]?=some oi:=by simpa using t
   have B:i<L.length:=(Pt.1 q).1;rw[tG TK]at y;have N:¬i<p:=λv=>by rw[(m i).2 v]at y;cases y
   obtain v|J:=Rw p i
   .have:=gH (u i TK B) q (DJ E) F p v;exact absurd ((m p).1 this) (Rs _)
   .omega
  have A:p∈ready .any L.toArray b:=Tp.2 ⟨by
   rw[tG TK];cases G:b.getD p false with
   |false=>rfl
   |true=>exact absurd ((m p).1 G) (Rs _),L[p],by simp[l],λe O R=>(m _).2 (c p L[p] (Pq l) _ (BT O R))⟩
  refine⟨λH=>(by rw[H]at A;cases A),λi hi=>?_⟩;obtain rfl:=f i hi;rw[OX l]at h;simp only[wpList]at h;have D:L.toArray[i]?=some L[i]:=by simp[l]
  unfold wpOp;simp only[D];have z:∀j,(b.setIfInBounds i true).getD j false=true↔j<i+1:=λj=>by rw[listed_set,m];omega
  split
  .rename_i C;rw[Tn C]at h;exact h.imp (RX λT w' S=>Ks u c fuel (i+1) _ _ _ TK TK (by simpa using s) z S) id
  .rename_i C;rw[Tm C]at h;exact Ks u c fuel (i+1) _ _ _ TK TK (by simpa using s) z h
def M_{w0:World}{n k:Nat}{σ:Sg}{Γ:aO}(hB:B6 L k=true)(hΓ:∀m∈Γ,m.i<k/\m.ok)(I:(Γ.map (·.i)).Nodup)(hM:∀j o,j<k->L[j]?=some o->MG P L w0 n σ Γ j o)
  (hK:∀γ w',Ext w0 w'->gC γ w' (λτ=>WL P L (λx a w=>x=.normal/\Q .normal a w) (L.drop k) n τ w') Γ σ):
  ∀(fuel:Nat) (c:Array Bool) (a:Act) (γ:Nat->Nat) (w:World),MInv L w0 n σ Γ k c a γ w->c.toList.countP (λb=>!b)=fuel->wpAny P .any L.toArray (λx a w=>x=.normal/\Q .normal a w) fuel c a w:=by
 simp only[B6,NS,Td,OA,QA]at hB;obtain⟨⟨⟨⟨hs,O⟩,T⟩,hkl⟩,J⟩:=hB;have C:∀p,k<=p->p<L.length->∀x,x<p->(mark L (p+1) ((replicate (p+1) false).set p true)).getD x false=true:=λp h1 h2 x s=>by have:=J (p -k) TK x TK;rwa[show k+(p -k)=p by omega]at this
 have t:∀i o,L[i]?=some o->∀j∈DI o,j<i:=λi o H j hj=>by have h:=O i (Pt.1 H).1;rw[H]at h;simp only[OA,Td]at h;exact h j hj
 have hdd:∀x∈Γ,∀m∈Γ,x.i≠m.i->x.d≠m.d:=by
  have S:∀x∈Γ,mS L x.i=some x.d:=λx s=>by
   have X:=(hΓ x s).1;have F:x.i<L.length:=by omega
   obtain⟨m,q,_,_,e,hd,_⟩:=(hM x.i L[x.i] X (Pq F)).ex;obtain rfl:m=x:=BF I m q x s e;unfold mS;rw[Pq F];exact hd
  have lt:∀x∈Γ,∀m∈Γ,x.i<m.i->x.d≠m.d:=λx s m q h e=>by have h1:=T m.i (hΓ m q).1 x.i h;rw[S x s,S m q,e]at h1;simp at h1
  intro x s m q B;obtain h|h:=Nat.lt_or_gt_of_ne B
  .exact lt x s m q h
  .exact λe=>lt m q x s h e.symm
 have V:∀(c:Array Bool),c.size=L.length->ready .any L.toArray c=[]->∀i,i<L.length->c.getD i false=true:=by
  intro c hsz hr i;induction i using Nat.strongRecOn with
  |ind i W=>
   intro hi;by_cases E:c.getD i false=true
   .exact E
   .have:i∈ready .any L.toArray c:=Tp.2 ⟨by
     rw[tG TK];simpa using E,L[i],by simp[hi],λe he hb=>by
     have D:=t i L[i] (Pq hi) _ (BT he hb);exact W _ D TK⟩
    rw[hr]at this;cases this
 intro fuel;induction fuel with
 |zero=>
  intro c a γ w f hc;have E:∀i,i<L.length->c.getD i false=true:=λi hi=>by
   cases s:c.getD i false with
   |true=>rfl
   |false=>
    have:=mp (l:=c) (i:=i) (by rw[tG (by have:=f.size;omega)];exact s);omega
  obtain⟨τ,hτ,hF⟩:=gD Γ σ (hK γ w f.ext) f.fr (λm q=>f.facts m q (E m.i (by have:=(hΓ m q).1;omega)));have hke:k=L.length:=by
   obtain h|h:=Rw k L.length
   .exact absurd (f.low k (E k h)) (Rs _)
   .omega
  unfold WL at hF;exact Ks C t 0 k c a w T8 TK f.size (λi=>⟨f.low i,λh=>E i TK⟩) (hF a hτ)
 |succ fuel W=>
  intro c a γ w f hc;by_cases u:∀i,i<k->c.getD i false=true
  .
   obtain⟨τ,hτ,hF⟩:=gD Γ σ (hK γ w f.ext) f.fr (λm q=>f.facts m q (u m.i (hΓ m q).1));unfold WL at hF;have z:fuel+1+k=L.length:=by
    have D:c.toList=(range L.length).map (λi=>decide (i<k)):=by
     refine O3 (by simpa using f.size) λi h1 h2=>?_;simp only[PK,PM,Array.getElem_toList];have h3:c.getD i false=c[i]'(by simpa using h1):=by simp[Ny,show i<c.size by simpa using h1]
     by_cases h:i<k
     .have:=u i h;rw[h3]at this;rw[this];simp[h]
     .cases s:c[i]'(by simpa using h1)with
      |false=>simp[h]
      |true=>exact absurd (f.low i (by rw[h3,s])) h
    rw[D]at hc;have U:∀N,k<=N->((range N).map λi=>decide (i<k)).countP (λb=>!b)+k=N:=by
     intro N;induction N with
     |zero=>intro h;simp at h⊢;omega
     |succ N ihN=>
      intro h;rw[QQ,Qe,ON];by_cases hN:k<=N
      .have:=ihN hN;have e1:([N].map λi=>decide (i<k)).countP (λb=>!b)=1:=by simp;omega
       omega
      .obtain rfl:k=N+1:=by omega
       have h0:((range N).map λi=>decide (i<N+1)).countP (λb=>!b)=0:=by rw[List.countP_eq_zero];intro b hb;obtain⟨i,hi,rfl⟩:=Qv.1 hb;have:=QA.1 hi;simp;omega
       rw[h0];simp
    have:=U L.length hkl;omega
   exact Ks C t (fuel+1) k c a w T8 z f.size (λi=>⟨f.low i,u i⟩) (hF a hτ)
  .refine⟨λhr=>absurd (λi hi=>V c f.size hr i TK) u,λi hi=>?_⟩;obtain⟨hun,o,H,hed⟩:=Tp.1 hi;have hcs:=mp hun;have y:L[i]?=some o:=by simpa using H
   have hil:i<L.length:=(Pt.1 y).1;have A:=DJ hed;have R:i<k:=by
    obtain h|h:=Rw i k
    .exact h
    .exact absurd (λx s=>gH (C i h hil) y A f.closed x TK) u
   unfold wpOp;simp only[H];obtain⟨m,q,Δ,hΔ,M,hd,hn,hf,hob⟩:=(hM i o R y).ex;have G:∀(w':World) (v:Value),Ext w w'->m.Φ v (jM γ w i) w'->wpAny P .any L.toArray (λx a w=>x=.normal/\Q .normal a w) fuel (c.setIfInBounds i true) (a.put (some m.d) v) w':=λw' v hE hΦ=>
    W _ _ _ _ (f.step q M y hn hf (λm q=>(hΓ m q).2) I (λx s B=>hdd x s m q (by rw[M];exact B)) hE hΦ A R) TK
   rcases hob w γ f.ext a f.fr (λj hj x s e=>f.facts x (hΔ x s) (by rw[e];exact A j hj))with⟨Z,Y⟩|⟨Z,hΦ⟩
   .simp only[Z,To];refine .inl (RX (λa' w' h'=>?_) (No (λe a w _ hf=>hf.elim) Y));obtain⟨hE,v,rfl,hΦ⟩:=h';exact G w' v hE hΦ
   .simp only[Z,NW,Tl];rw[hd];exact G w undef (p7 w) hΦ
section
variable {P:Program}{Q:Exit->Act->World->Prop}{n:Nat}{σ:Sg}{w:World}{L:List Oper}
def bL(P:Program)(L:List Oper)(Q:Exit->Act->World->Prop)(n:Nat)(σ:Sg)(w:World)(T:List Oper):aO->Prop:=
 λΓ=>∀γ w',Ext w w'->gC γ w' (λτ=>WL P L (λx a w=>x=.normal/\Q .normal a w) T n τ w') Γ σ
theorem aH{id:Nat}(k:Nat)(c:P.follows .mixedOrders=true)(f:B6 L k=true)(h:ML P L (drew w) n σ (bL P L Q n σ (drew w) (L.drop k)) 0 [] (L.take k)):CW P (.region id L.toArray true) Q n σ w:=by
 unfold CW;intro a s;have p:k<=L.length:=by simp only[B6,NS,Td]at f;exact f.1.2
 obtain⟨Γ,g1,_,g3,g4,g5⟩:=c8 _ _ _ h (λm c=>by cases c) List.Pairwise.nil;have h1:=M_ (P:=P) (Q:=Q) (w0:=drew w) f (λm c=>by have:=g3 m c;simp only[Qb,RT]at this;exact⟨by omega,this.2⟩) g4 (λj o hj l=>by
  have:=g5 j o (by rw[PA hj];exact l);rwa[RT]at this) g1 L.length (Array.replicate L.length false) a (λ_=>0) (drew w) ⟨by simp,s,p7 _,λm c b=>by
   exfalso;simp[Ny,NE]at b;split at b<;>simp at b,λi o b=>by
   exfalso;simp[Ny,NE]at b;split at b<;>simp at b,λi b=>by
   exfalso;simp[Ny,NE]at b;split at b<;>simp at b⟩ (by simp[OR])
 have h2:(Code.region id L.toArray true).wp P (λx a w=>x=.normal/\Q .normal a w) a w:=TI c (by simpa using h1);exact TH h2 (λe t w' ⟨q,hq⟩=>by subst q;exact hq)
theorem ML.nil{w0:World}{K:aO->Prop}{i:Nat}{Γ:aO}(h:K Γ):ML P L w0 n σ K i Γ []:=h
def VT:=@ML.nil
end
def cZ{w0:World}{n:Nat}{σ:Sg}{K:aO->Prop}{i d:Nat}{Γ:aO}{r:List Oper}{op:Op}{ty:TypeId}{g:Option (Nat×Bool)}(X:Ltl)(b:gd L (kS Γ σ (DK j.toList)) ⟨some d,op,ty,H,j,g⟩=some true)(hn:ble (d+1) n=true)(hf:fnd σ d=none)
  (h:∀γ w,Ext w0 w->Cd Γ γ w (λτ=>WL P L (ab γ w i d (λv γ w=>GL B w v X)) [⟨some d,op,ty,H,j,g⟩] n τ w) (DK j.toList) σ) (a:ML P L w0 n σ K (i+1) (.fc i d (λv γ w=>GL B w v X)::Γ) r):
  ML P L w0 n σ K i Γ (⟨some d,op,ty,H,j,g⟩::r):=V1 _ b hn hf TW h a
instance:IsC Vy 268 1 false:=VA TL underlying268 rfl
instance:IsZC Vy 268 [.nilFunc]:=v2 (z:=.nilFunc) TL rfl
def tQ(B:Nat)(w:World)(k:Int):GL B w (Bi 3 k none 0 0) (AI k):=VJ (kids:=[]) (v1 _ _)
def G2(F:Nat->Prop)(w:World)(k:Int):Rd w F (Bi 3 k none 0 0) (AI k):=VJ (kids:=[]) (v1 _ _)
def nU(w:World)(k:Int):Rt Vy 164 [Ub k].toArray w λv w'=>v=Bi 3 k none 0 0/\Ext w w':=by refine dR func164 ntmps164 rfl rfl (UZ ?_);refine eC (λg f d=>?_);refine UR ?_;refine r4 rfl rfl rfl rfl (f7 f (λe b a=>?_));have c:Ext w e:=d.grown a d.size TX;refine Uh ?_;exact e0 b ⟨rfl,c⟩
def FM(B k:Nat)(γ:Nat->Nat)(w:World):Nat->Prop:=λb=>B<=b/\b<w.heap.size/\γ b<=k
def jN{γ:Nat->Nat}{i:Nat}:jM γ w i w.heap.size=i:=by unfold jM;rw[Tm (Rs _)]
def FM.lt{k:Nat}{γ:Nat->Nat}:∀b,FM B k γ w b->b<w.heap.size:=λb h=>h.2.1
def Jx{k:Nat}{t:Ltl}:d9 (λv γ w=>Rd w (FM B k γ w) v t):=λv γ c w w' h e hγ=>(VS h e FM.lt).wk (λb a=>⟨a.1,Rv a.2.1 e.size,by rw[hγ b a.2.1];exact a.2.2⟩)
def stA{i:Nat}{e:TypeId}:d9 (λv γ w=>∃b,v=Uc b/\γ b=i/\B<=b/\Blk w b e r):=by rintro v γ a w w' ⟨b,h1,h2,h3,h4⟩ e hγ;exact⟨b,h1,by rw[hγ b h4.lt];exact h2,h3,h4.ext e⟩
def FM.call{f:FuncId}{k i:Nat}{γ:Nat->Nat}{t:Ltl}(hi:i<=k)(c:B<=w.heap.size)(h:Rt P f u w λv w'=>Rd w' (dp (FM B k γ w) w w') v t/\Ext w w'):
  Rt P f u w λv w'=>Rd w' (FM B k (jM γ w i) w') v t/\Ext w w':=h.mono λv w' h=>⟨h.1.wk (λb a=>by
 have:=h.2.size;obtain a|a:=a
 .exact⟨a.1,by have:=a.2.1;omega,by unfold jM;rw[Tn a.2.1];exact a.2.2⟩
 .exact⟨by have:=a.1;omega,a.2,by unfold jM;rw[Tm (by have:=a.1;omega)];exact hi⟩),h.2⟩
def FM.fresh{f:FuncId}{k i:Nat}{γ:Nat->Nat}{t:Ltl}(hi:i<=k)(c:B<=w.heap.size)(h:Rt P f u w (bT w t)):
  Rt P f u w λv w'=>Rd w' (FM B k (jM γ w i) w') v t/\Ext w w':=h.mono λv w' h=>⟨h.1.wk (λb a=>⟨by have:=a.1;omega,a.2,by unfold jM;rw[Tm (by have:=a.1;omega)];exact hi⟩),h.2⟩
def FM.st{k b:Nat}{γ:Nat->Nat}{w':World}{t:Ltl}(h:Rd w (FM B k γ w) v t)(f:k<γ b)(d:w.grownBy w' (some b)):GL B w' v t:=
 (Rd.kept h d (λc a=>⟨a.2.1,λe=>by have:=R4 e;subst this;have:=a.2.2;omega⟩)).wk (λc a=>⟨a.1,Rv a.2.1 d.size⟩)
abbrev ED(k sc P S Q R c:Int):List Value:=[.int .i64 k,.int .i64 sc,.int .i64 P,.int .i64 S,.int .i64 Q,.int .i64 R,.int .i64 c]
set_option maxRecDepth 10000 in
def tT(k sc P S Q R c:Int):∀(n:Nat),n<=1000->∀(w:World),Rt Vy 172 [.agg (ED k sc P S Q R c).toArray,Ub (n:Int)].toArray w (bT w (tR k P S n)):=by
 intro n
 induction n with
 |zero=>
  intro _ w
  refine dS func172 ntmps172 rfl rfl ?_;refine UZ ?_;refine eH λw1 p e1=>?_
  refine eC (λq d e2=>?_);have p:=p.ext e2;have f:=e1.trans e2;have hlr:=d.lt;have hs1:=e1.size;have a:q.heap.size<=q.heap.size:=Rq _;unfold tR;refine UE ?_;by_cases h2:k=2
  .subst h2
   rw[Tn rfl];refine UN ?_;skip;refine eK (nU q P) ?_;rintro _ A ⟨rfl,l⟩
   have p:=p.ext l;have d:=d.ext l;have f:=f.trans l;have a:=Rr a l.size;refine eK (nR A a (tQ _ _ _)) ?_;rintro v13 O ⟨N,j⟩
   have p:=p.ext j;have d:=d.ext j;have f:=f.trans j;have a:=Rr a j.size;obtain⟨uo,uc,rfl,s⟩:=r0 N;skip;refine f7 d (λz t g=>?_);refine UX ?_;exact e0 t ⟨(N.st g TK).low TK,GJ f g TK⟩
  by_cases h3:k=3
  .subst h3
   rw[Tm TN,Tn rfl];refine UO ?_;skip;refine eK (nU q P) ?_;rintro _ A ⟨rfl,l⟩
   have p:=p.ext l;have d:=d.ext l;have f:=f.trans l;have a:=Rr a l.size;refine eK (nZ A a 10 (tQ _ _ _)) ?_;rintro v19 O ⟨M,j⟩
   have p:=p.ext j;have d:=d.ext j;have f:=f.trans j;have a:=Rr a j.size;obtain⟨uo,uc,rfl,s⟩:=r0 M;skip;refine f7 d (λz t g=>?_);refine UX ?_;exact e0 t ⟨(M.st g TK).low TK,GJ f g TK⟩
  by_cases h5:k=5
  .subst h5
   rw[Tm TN,Tm TN,Tn rfl];have ed:=mm q;have p:=p.ext ed;have d:=d.ext ed;have f:=f.trans ed;have a:q.heap.size<=(drew q).heap.size:=Rr a ed.size;refine UY ?_;refine aH 14 mixed TL ?_;refine Vt ?_;refine c7 (λγ w m=>eK (nU w P) u3) ?_;refine cZ (B:=q.heap.size) (C1 (AI P)) rfl rfl rfl (λγ w m=>eK (nX w (Rr a m.size) (tQ _ _ _)) u3) ?_;refine Vt ?_;refine c7 (λγ w m=>eK (nU w S) u3) ?_;refine cZ (B:=q.heap.size) (L1 (C1 (AI P)) (AI S)) rfl rfl rfl (λγ w m v25 L=>eK (oh w (Rr a m.size) L (tQ _ _ _)) u3) ?_;refine Vt ?_;refine c7 (λγ w m=>eK (nU w P) u3) ?_;refine cZ (B:=q.heap.size) (C1 (AI P)) rfl rfl rfl (λγ w m=>eK (nX w (Rr a m.size) (tQ _ _ _)) u3) ?_;refine cZ (B:=q.heap.size) (gW (C1 (AI P))) rfl rfl rfl (λγ w m Y J=>eK (nR w (Rr a m.size) J) u3) ?_;refine cZ (B:=q.heap.size) (DQ (L1 (C1 (AI P)) (AI S)) (gW (C1 (AI P)))) rfl rfl rfl (λγ w m Z K X I=>eK (od w (Rr a m.size) K I) u3) ?_;refine VT λγ w' o v35 H X I Y J Z K v25 L=>?_
   change WL _ _ _ _ _ _ _
   have p:=p.ext o;have d:=d.ext o;have f:=f.trans o;have a:=Rr a o.size;obtain⟨uo,uc,rfl,s⟩:=r0 H;refine f7 d (λz t g=>p0 (bx ?_));refine Uk ?_;exact e0 t ⟨(H.st g TK).low TK,GJ f g TK⟩
  by_cases h6:k=6
  .subst h6
   rw[Tm TN,Tm TN,Tm TN,Tn rfl];have ed:=mm q;have p:=p.ext ed;have d:=d.ext ed;have f:=f.trans ed;have a:q.heap.size<=(drew q).heap.size:=Rr a ed.size;refine UY ?_;refine aH 10 mixed TL ?_;refine Vt ?_;refine c7 (λγ w m=>eK (nU w P) u3) ?_;refine cZ (B:=q.heap.size) (C1 (AI P)) rfl rfl rfl (λγ w m=>eK (nX w (Rr a m.size) (tQ _ _ _)) u3) ?_;refine Vt ?_;refine c7 (λγ w m=>eK (nU w S) u3) ?_;refine cZ (B:=q.heap.size) (q8 (AI S)) rfl rfl rfl (λγ w m=>eK (nZ w (Rr a m.size) 10 (tQ _ _ _)) u3) ?_;refine cZ (B:=q.heap.size) (DQ (C1 (AI P)) (q8 (AI S))) rfl rfl rfl (λγ w m W G V F=>eK (od w (Rr a m.size) G F) u3) ?_;refine cZ (B:=q.heap.size) (gW (DQ (C1 (AI P)) (q8 (AI S)))) rfl rfl rfl (λγ w m U E=>eK (nR w (Rr a m.size) E) u3) ?_;refine VT λγ w' o v47 D U E V F W G=>?_
   change WL _ _ _ _ _ _ _
   have p:=p.ext o;have d:=d.ext o;have f:=f.trans o;have a:=Rr a o.size;obtain⟨uo,uc,rfl,s⟩:=r0 D;refine f7 d (λz t g=>p0 (bx ?_));refine Uk ?_;exact e0 t ⟨(D.st g TK).low TK,GJ f g TK⟩
  rw[Tm h2,Tm h3,Tm h5,Tm h6];rw[show(k==2)=false by simpa using h2];refine Ul ?_;rw[show(k==3)=false by simpa using h3];refine Ul ?_;rw[show(k==5)=false by simpa using h5];refine Ul ?_;rw[show(k==6)=false by simpa using h6];refine Ul ?_;by_cases h4:k=4
  .subst h4
   rw[Tn rfl];refine U3 ?_;unfold jz;skip;skip;refine eK (nU q P) ?_;rintro _ A ⟨rfl,l⟩
   have p:=p.ext l;have d:=d.ext l;have f:=f.trans l;have a:=Rr a l.size;refine eK (nX A a (tQ _ _ _)) ?_;rintro v76 O ⟨u,j⟩
   have p:=p.ext j;have d:=d.ext j;have f:=f.trans j;have a:=Rr a j.size;refine eK (nR O a u) ?_;rintro v77 y3 ⟨x,r⟩
   have u:=u.ext r;have p:=p.ext r;have d:=d.ext r;have f:=f.trans r;have a:=Rr a r.size;obtain⟨uo,uc,rfl,s⟩:=r0 x;skip;refine f7 d (λz t g=>?_);refine Uh ?_;exact e0 t ⟨(x.st g TK).low TK,GJ f g TK⟩
  rw[Tm h4];rw[show(k==4)=false by simpa using h4];refine U3 ?_;skip;skip;refine eK (nU q P) ?_;rintro _ A ⟨rfl,l⟩
  have p:=p.ext l;have d:=d.ext l;have f:=f.trans l;have a:=Rr a l.size;refine eK (nX A a (tQ _ _ _)) ?_;rintro v76 O ⟨u,j⟩
  have p:=p.ext j;have d:=d.ext j;have f:=f.trans j;have a:=Rr a j.size;refine eK (nR O a u) ?_;rintro v77 y3 ⟨x,r⟩
  have u:=u.ext r;have p:=p.ext r;have d:=d.ext r;have f:=f.trans r;have a:=Rr a r.size;obtain⟨uo,uc,rfl,s⟩:=r0 x;skip;refine f7 d (λz t g=>?_);refine Uh ?_;exact e0 t ⟨(x.st g TK).low TK,GJ f g TK⟩
 |succ n ih=>
  intro hn w
  have ih:∀w:World,Rt Vy 172 [.agg (ED k sc P S Q R c).toArray,Ub (((n+1:Nat):Int) -1)].toArray w (bT w (tR k P S n)):=by
   rw[show((n+1:Nat):Int) -1=(n:Int) by omega];exact ih TK
  refine dS func172 ntmps172 rfl rfl ?_;refine UZ ?_;refine eH λw1 p e1=>?_
  refine eC (λq d e2=>?_);have p:=p.ext e2;have f:=e1.trans e2;have hlr:=d.lt;have hs1:=e1.size;have a:q.heap.size<=q.heap.size:=Rq _;unfold tR;refine UE ?_;by_cases h2:k=2
  .subst h2
   rw[Tn rfl];refine UN ?_;skip;refine eK (nU q P) ?_;rintro _ A ⟨rfl,l⟩
   have p:=p.ext l;have d:=d.ext l;have f:=f.trans l;have a:=Rr a l.size;refine eK (nR A a (tQ _ _ _)) ?_;rintro v13 O ⟨N,j⟩
   have p:=p.ext j;have d:=d.ext j;have f:=f.trans j;have a:=Rr a j.size;obtain⟨uo,uc,rfl,s⟩:=r0 N;skip;refine f7 d (λz t g=>?_);refine UX ?_;exact e0 t ⟨(N.st g TK).low TK,GJ f g TK⟩
  by_cases h3:k=3
  .subst h3
   rw[Tm TN,Tn rfl];refine UO ?_;skip;refine eK (nU q P) ?_;rintro _ A ⟨rfl,l⟩
   have p:=p.ext l;have d:=d.ext l;have f:=f.trans l;have a:=Rr a l.size;refine eK (nZ A a 10 (tQ _ _ _)) ?_;rintro v19 O ⟨M,j⟩
   have p:=p.ext j;have d:=d.ext j;have f:=f.trans j;have a:=Rr a j.size;obtain⟨uo,uc,rfl,s⟩:=r0 M;skip;refine f7 d (λz t g=>?_);refine UX ?_;exact e0 t ⟨(M.st g TK).low TK,GJ f g TK⟩
  by_cases h5:k=5
  .subst h5
   rw[Tm TN,Tm TN,Tn rfl];have ed:=mm q;have p:=p.ext ed;have d:=d.ext ed;have f:=f.trans ed;have a:q.heap.size<=(drew q).heap.size:=Rr a ed.size;refine UY ?_;refine aH 14 mixed TL ?_;refine Vt ?_;refine c7 (λγ w m=>eK (nU w P) u3) ?_;refine cZ (B:=q.heap.size) (C1 (AI P)) rfl rfl rfl (λγ w m=>eK (nX w (Rr a m.size) (tQ _ _ _)) u3) ?_;refine Vt ?_;refine c7 (λγ w m=>eK (nU w S) u3) ?_;refine cZ (B:=q.heap.size) (L1 (C1 (AI P)) (AI S)) rfl rfl rfl (λγ w m v25 L=>eK (oh w (Rr a m.size) L (tQ _ _ _)) u3) ?_;refine Vt ?_;refine c7 (λγ w m=>eK (nU w P) u3) ?_;refine cZ (B:=q.heap.size) (C1 (AI P)) rfl rfl rfl (λγ w m=>eK (nX w (Rr a m.size) (tQ _ _ _)) u3) ?_;refine cZ (B:=q.heap.size) (gW (C1 (AI P))) rfl rfl rfl (λγ w m Y J=>eK (nR w (Rr a m.size) J) u3) ?_;refine cZ (B:=q.heap.size) (DQ (L1 (C1 (AI P)) (AI S)) (gW (C1 (AI P)))) rfl rfl rfl (λγ w m Z K X I=>eK (od w (Rr a m.size) K I) u3) ?_;refine VT λγ w' o v35 H X I Y J Z K v25 L=>?_
   change WL _ _ _ _ _ _ _
   have p:=p.ext o;have d:=d.ext o;have f:=f.trans o;have a:=Rr a o.size;obtain⟨uo,uc,rfl,s⟩:=r0 H;refine f7 d (λz t g=>p0 (bx ?_));refine Uk ?_;exact e0 t ⟨(H.st g TK).low TK,GJ f g TK⟩
  by_cases h6:k=6
  .subst h6
   rw[Tm TN,Tm TN,Tm TN,Tn rfl];have ed:=mm q;have p:=p.ext ed;have d:=d.ext ed;have f:=f.trans ed;have a:q.heap.size<=(drew q).heap.size:=Rr a ed.size;refine UY ?_;refine aH 10 mixed TL ?_;refine Vt ?_;refine c7 (λγ w m=>eK (nU w P) u3) ?_;refine cZ (B:=q.heap.size) (C1 (AI P)) rfl rfl rfl (λγ w m=>eK (nX w (Rr a m.size) (tQ _ _ _)) u3) ?_;refine Vt ?_;refine c7 (λγ w m=>eK (nU w S) u3) ?_;refine cZ (B:=q.heap.size) (q8 (AI S)) rfl rfl rfl (λγ w m=>eK (nZ w (Rr a m.size) 10 (tQ _ _ _)) u3) ?_;refine cZ (B:=q.heap.size) (DQ (C1 (AI P)) (q8 (AI S))) rfl rfl rfl (λγ w m W G V F=>eK (od w (Rr a m.size) G F) u3) ?_;refine cZ (B:=q.heap.size) (gW (DQ (C1 (AI P)) (q8 (AI S)))) rfl rfl rfl (λγ w m U E=>eK (nR w (Rr a m.size) E) u3) ?_;refine VT λγ w' o v47 D U E V F W G=>?_
   change WL _ _ _ _ _ _ _
   have p:=p.ext o;have d:=d.ext o;have f:=f.trans o;have a:=Rr a o.size;obtain⟨uo,uc,rfl,s⟩:=r0 D;refine f7 d (λz t g=>p0 (bx ?_));refine Uk ?_;exact e0 t ⟨(D.st g TK).low TK,GJ f g TK⟩
  rw[Tm h2,Tm h3,Tm h5,Tm h6];rw[show(k==2)=false by simpa using h2];refine Ul ?_;rw[show(k==3)=false by simpa using h3];refine Ul ?_;rw[show(k==5)=false by simpa using h5];refine Ul ?_;rw[show(k==6)=false by simpa using h6];refine Ul ?_;by_cases h4:k=4
  .subst h4
   rw[Tn rfl];refine UY ?_;rw[Tc (show((n+1:Nat):Int)>0 by omega)];refine U4 ?_;have ed:=mm q;have p:=p.ext ed;have d:=d.ext ed;have f:=f.trans ed;have a:q.heap.size<=(drew q).heap.size:=Rr a ed.size;skip;refine aH 10 mixed TL ?_;refine Vt ?_;refine c7 (λγ w m=>eK (nU w P) u3) ?_;refine Vu ?_;refine V1 (λv γ w=>Rd w (FM q.heap.size 8 γ w) v (tR 4 P S n)) rfl rfl rfl Jx (λγ w m=>eK (FM.fresh (i:=6) (by omega) (Rr a m.size) ((ih w))) (λv w' h=>p0 (a7 rfl h.2 h.1))) ?_;refine V1 (λv γ w=>Rd w (FM q.heap.size 8 γ w) v (Cm (tR 4 P S n))) rfl rfl rfl Jx (λγ w m v58 g58=>eK (FM.call (i:=7) (by omega) (Rr a m.size) (nY w FM.lt 7 g58)) (λv w' h=>p0 (a7 rfl h.2 h.1))) ?_;refine V1 (λv γ w=>Rd w (FM q.heap.size 8 γ w) v (gX (AI P) (Cm (tR 4 P S n)))) rfl rfl rfl Jx (λγ w m v59 g59=>eK (FM.call (i:=8) (by omega) (Rr a m.size) (nS w FM.lt (G2 _ _ _) g59)) (λv w' h=>p0 (a7 rfl h.2 h.1))) ?_;refine V1 (λv γ w=>∃b,v=Uc b/\γ b=9/\q.heap.size<=b/\Blk w b 32 [Ub 0,Ub 0,.slice none 0 0]) rfl rfl rfl stA (λγ w m=>eC (λw' hb e=>p0 (a7 rfl e ⟨_,rfl,jN,Rr a m.size,hb⟩))) ?_;refine VT λγ w' o v5 g5 v60 g60 v59 g59 v58 g58=>?_
   change WL _ _ _ _ _ _ _
   have p:=p.ext o;have d:=d.ext o;have f:=f.trans o;have a:=Rr a o.size;obtain⟨b,rfl,hγ,hBb,y⟩:=g5;obtain⟨uo,uc,rfl,s⟩:=r0 g60;refine f7 y (λw3 y C=>p0 (bx ?_));have hv:=FM.st g60 (b:=b) (by rw[hγ];decide) C;have hlb:=y.lt;have d:=d.kept C T3;have p:=p.kept C T3;have f:Ext w w3:=f.grown C f.size TZ;have a:=Rr a C.size;clear o g58 g59 C g60 s;have ed:=mm w3;have p:=p.ext ed;have d:=d.ext ed;have y:=y.ext ed;have hv:=hv.ext ed;have f:=f.trans ed;have a:q.heap.size<=(drew w3).heap.size:=Rr a ed.size;refine UW ?_;refine aH 12 mixed TL ?_;refine Vt ?_;refine c7 (λγ w m=>eK (nU w P) u3) ?_;refine cZ (B:=q.heap.size) (C1 (AI P)) rfl rfl rfl (λγ w m=>eK (nX w (Rr a m.size) (tQ _ _ _)) u3) ?_;refine Vj ?_;refine cZ (B:=q.heap.size) (L1 (C1 (AI P)) (gX (AI P) (Cm (tR 4 P S n)))) rfl rfl rfl (λγ w m v64 g64=>eK (oh w (Rr a m.size) g64 (hv.ext m)) u3) ?_;refine Vt ?_;refine c7 (λγ w m=>eK (nU w P) u3) ?_;refine cZ (B:=q.heap.size) (C1 (AI P)) rfl rfl rfl (λγ w m=>eK (nX w (Rr a m.size) (tQ _ _ _)) u3) ?_;refine cZ (B:=q.heap.size) (gW (C1 (AI P))) rfl rfl rfl (λγ w m v70 g70=>eK (nR w (Rr a m.size) g70) u3) ?_;refine cZ (B:=q.heap.size) (DQ (L1 (C1 (AI P)) (gX (AI P) (Cm (tR 4 P S n)))) (gW (C1 (AI P)))) rfl rfl rfl (λγ w m v66 g66 v71 g71=>eK (od w (Rr a m.size) g66 g71) u3) ?_;refine VT λγ w' o v72 g72 v71 g71 v70 g70 v66 g66 v64 g64=>?_
   change WL _ _ _ _ _ _ _
   have p:=p.ext o;have d:=d.ext o;have y:=y.ext o;have hv:=hv.ext o;have f:=f.trans o;have a:=Rr a o.size;obtain⟨uo,uc,rfl,s⟩:=r0 g72;refine f7 d (λz t g=>p0 (bx ?_));refine Uk ?_;have T:=(g72.st g TK).low (show w.heap.size<=q.heap.size by omega);rw[show tR 4 P S n=jz P n by unfold tR;rw[Tm TN,Tm TN,Tm TN,Tm TN,Tn rfl]]at T
   exact e0 t ⟨T,GJ f g TK⟩
  rw[Tm h4];rw[show(k==4)=false by simpa using h4];refine U3 ?_;skip;skip;refine eK (nU q P) ?_;rintro _ A ⟨rfl,l⟩
  have p:=p.ext l;have d:=d.ext l;have f:=f.trans l;have a:=Rr a l.size;refine eK (nX A a (tQ _ _ _)) ?_;rintro v76 O ⟨u,j⟩
  have p:=p.ext j;have d:=d.ext j;have f:=f.trans j;have a:=Rr a j.size;refine eK (nR O a u) ?_;rintro v77 y3 ⟨x,r⟩
  have p:=p.ext r;have d:=d.ext r;have f:=f.trans r;have a:=Rr a r.size;obtain⟨uo,uc,rfl,s⟩:=r0 x;skip;refine f7 d (λz t g=>?_);refine Uh ?_;exact e0 t ⟨(x.st g TK).low TK,GJ f g TK⟩
def MJ(w:World)(weak:Bool){fa fb:Value}{ta tb:Ltl}(t:∀g,Ext w g->FnV Vy fa [] g (bT g ta))(C:∀g,Ext w g->FnV Vy fb [] g (bT g tb)):
  Rt Vy 236 [.bool weak,fa,fb].toArray w (bT w (MI weak ta tb)):=by
 refine dT func236 ntmps236 rfl rfl (UZ ?_);refine eC (λg c D=>?_);have b:=D;have P:=c.lt;have O:=D.size;have a:g.heap.size<=g.heap.size:=Rq _;unfold MI;refine UR ?_;cases weak with
 |true=>
  rw[Tn rfl];refine U4 ?_;refine eL (xs:=[]) (vs:=[]) rfl rfl rfl rfl ((t g b).low a) ?_;rintro R q ⟨u,f⟩;have c:=c.ext f;have b:=b.trans f;have a:=Rr a f.size;refine U9 ?_;refine eL (xs:=[]) (vs:=[]) rfl rfl rfl rfl ((C q b).low a) ?_;rintro N p ⟨A,d⟩;have u:=u.ext d;have c:=c.ext d;have b:=b.trans d;have a:=Rr a d.size;refine eK (oh p a u A) ?_;rintro M B ⟨i,e⟩;have c:=c.ext e;have b:=b.trans e;have a:=Rr a e.size;refine U9 ?_;refine eL (xs:=[]) (vs:=[]) rfl rfl rfl rfl ((t B b).low a) ?_;rintro L F ⟨y,k⟩;have i:=i.ext k;have c:=c.ext k;have b:=b.trans k;have a:=Rr a k.size;refine eK (nR F a y) ?_;rintro K E ⟨x,j⟩;have i:=i.ext j;have c:=c.ext j;have b:=b.trans j;have a:=Rr a j.size;refine eK (od E a i x) ?_;rintro J Q ⟨o,m⟩;have c:=c.ext m;have b:=b.trans m;have a:=Rr a m.size;obtain⟨uo,uc,rfl,s⟩:=r0 o;refine f7 c (λz r h=>?_);refine UX ?_;exact e0 r ⟨(o.st h TK).low TK,GJ b h TK⟩
 |false=>
  rw[Tm TN];refine UY ?_;refine eL (xs:=[]) (vs:=[]) rfl rfl rfl rfl ((t g b).low a) ?_;rintro I q ⟨l,f⟩;have c:=c.ext f;have b:=b.trans f;have a:=Rr a f.size;refine U9 ?_;refine eL (xs:=[]) (vs:=[]) rfl rfl rfl rfl ((C q b).low a) ?_;rintro H p ⟨v,d⟩;have l:=l.ext d;have c:=c.ext d;have b:=b.trans d;have a:=Rr a d.size;refine eK (oh p a l v) ?_;rintro G B ⟨n,e⟩;have c:=c.ext e;have b:=b.trans e;have a:=Rr a e.size;obtain⟨uo,uc,rfl,s⟩:=r0 n;refine f7 c (λz r h=>?_);refine Uh ?_;exact e0 r ⟨(n.st h TK).low TK,GJ b h TK⟩
def L2(w:World){k sc P S Q c:Int}(d:Blk w B 27 (ED k sc P S Q x c)):FnV Vy (.func (.func 234) [].toArray [Uc B].toArray) [] w (bT w (C1 (AI P))):=by
 refine VE (cs:=[_]) ?_;refine dR func234 ntmps234 rfl rfl ?_;refine UZ ?_;refine eC (λi e j=>?_);have g:=j;have o:=e.lt;have n:=j.size;have d:=d.ext j;have h:i.heap.size<=i.heap.size:=Rq _;refine Uy ?_;skip;refine eK (nU i P) ?_;rintro _ l ⟨rfl,b⟩
 have d:=d.ext b;have e:=e.ext b;have g:=g.trans b;have h:=Rr h b.size;refine eK (nX l h (tQ _ _ _)) ?_;rintro r q ⟨g5,a⟩
 have d:=d.ext a;have e:=e.ext a;have g:=g.trans a;have h:=Rr h a.size;obtain⟨uo,uc,rfl,p⟩:=r0 g5;skip;refine f7 e (λz m f=>?_);refine Uh ?_;exact e0 m ⟨(g5.st f TK).low TK,GJ g f TK⟩
def L3(w:World){k sc P S Q c:Int}(f:Blk w B 27 (ED k sc P S Q x c)):FnV Vy (.func (.func 235) [].toArray [Uc B].toArray) [] w (bT w (AI x)):=by
 refine VE (cs:=[_]) ?_;refine dR func235 ntmps235 rfl rfl ?_;refine UZ ?_;refine eC (λe g i=>?_);have h:=i;have o:=g.lt;have n:=i.size;have f:=f.ext i;have j:e.heap.size<=e.heap.size:=Rq _;refine Uy ?_;skip;refine eK (nU e x) ?_;rintro _ l ⟨rfl,a⟩
 have f:=f.ext a;have g:=g.ext a;have h:=h.trans a;have j:=Rr j a.size;have d:GL e.heap.size l (Bi 3 x none 0 0) (AI x):=tQ _ _ _;skip;refine f7 g (λz m b=>?_);refine Uh ?_;exact e0 m ⟨(d.st b TK).low TK,GJ h b TK⟩
def L4(w:World){k sc P S Q c:Int}(f:Blk w B 27 (ED k sc P S Q x c)):FnV Vy (.func (.func 237) [].toArray [Uc B].toArray) [] w (bT w (AI P)):=by
 refine VE (cs:=[_]) ?_;refine dR func237 ntmps237 rfl rfl ?_;refine UZ ?_;refine eC (λe g i=>?_);have h:=i;have o:=g.lt;have n:=i.size;have f:=f.ext i;have j:e.heap.size<=e.heap.size:=Rq _;refine Uy ?_;skip;refine eK (nU e P) ?_;rintro _ l ⟨rfl,a⟩
 have f:=f.ext a;have g:=g.ext a;have h:=h.trans a;have j:=Rr j a.size;have d:GL e.heap.size l (Bi 3 P none 0 0) (AI P):=tQ _ _ _;skip;refine f7 g (λz m b=>?_);refine Uh ?_;exact e0 m ⟨(d.st b TK).low TK,GJ h b TK⟩
def L5(w:World){k sc P S Q c:Int}(e:Blk w a 27 (ED k sc P S Q x c))(h:Blk w K 268 [(.func (.func 235) [].toArray [Uc a].toArray)]):FnV Vy (.func (.func 238) [].toArray [Uc a,Uc K].toArray) [] w (bT w (DQ (AI S) (AI x))):=by
 refine VE (cs:=[_,_]) ?_;refine dS func238 ntmps238 rfl rfl ?_;refine UZ ?_;refine eC (λd f m=>?_);have l:=m;have s:=f.lt;have r:=m.size;have e:=e.ext m;have g:d.heap.size<=d.heap.size:=Rq _;have h:=h.ext m;have ed:=mm d;have e:=e.ext ed;have f:=f.ext ed;have h:=h.ext ed;have l:=l.trans ed;have g:d.heap.size<=(drew d).heap.size:=Rr g ed.size;refine UR ?_;refine aH 6 mixed TL ?_;refine Vt ?_;refine c7 (λγ w i=>eK (nU w S) u3) ?_;refine Vj ?_;refine cZ (B:=d.heap.size) (AI x) rfl rfl rfl (λγ w i=>eL (xs:=[]) (vs:=[]) rfl rfl rfl rfl ((L3 w (e.ext i)).low (Rr g i.size)) u3) ?_;refine cZ (B:=d.heap.size) (DQ (AI S) (AI x)) rfl rfl rfl (λγ w i p o=>eK (od w (Rr g i.size) (tQ _ _ _) o) u3) ?_;refine VT λγ w' b u n p o=>?_
 change WL _ _ _ _ _ _ _
 have e:=e.ext b;have f:=f.ext b;have h:=h.ext b;have l:=l.trans b;have g:=Rr g b.size;obtain⟨uo,uc,rfl,t⟩:=r0 n;refine f7 f (λz q j=>p0 (bx ?_));refine UQ ?_;exact e0 q ⟨(n.st j TK).low TK,GJ l j TK⟩
def L6(w:World){k sc P S Q c:Int}(g:Blk w a 27 (ED k sc P S Q x c))(j:Blk w K 268 [(.func (.func 234) [].toArray [Uc a].toArray)])(i:Blk w E 268 [(.func (.func 235) [].toArray [Uc a].toArray)]):FnV Vy (.func (.func 239) [].toArray [Uc K,Uc E,Uc a].toArray) [] w (bT w (DQ (C1 (AI P)) (L1 (C1 (AI x)) (gX (AI S) (C1 (AI x)))))):=by
 refine VE (cs:=[_,_,_]) ?_;refine dT func239 ntmps239 rfl rfl ?_;refine UZ ?_;refine eC (λd h s=>?_);have m:=s;have L:=h.lt;have J:=s.size;have g:=g.ext s;have f:d.heap.size<=d.heap.size:=Rq _;have j:=j.ext s;have i:=i.ext s;have ed:=mm d;have g:=g.ext ed;have h:=h.ext ed;have j:=j.ext ed;have i:=i.ext ed;have m:=m.trans ed;have f:d.heap.size<=(drew d).heap.size:=Rr f ed.size;refine UR ?_;refine aH 14 mixed TL ?_;refine Vj ?_;refine cZ (B:=d.heap.size) (C1 (AI P)) rfl rfl rfl (λγ w b=>eL (xs:=[]) (vs:=[]) rfl rfl rfl rfl ((L2 w (g.ext b)).low (Rr f b.size)) u3) ?_;refine Vj ?_;refine cZ (B:=d.heap.size) (AI x) rfl rfl rfl (λγ w b A g5=>eL (xs:=[]) (vs:=[]) rfl rfl rfl rfl ((L3 w (g.ext b)).low (Rr f b.size)) u3) ?_;refine cZ (B:=d.heap.size) (C1 (AI x)) rfl rfl rfl (λγ w b G D=>eK (nX w (Rr f b.size) D) u3) ?_;refine Vt ?_;refine c7 (λγ w b=>eK (nU w S) u3) ?_;refine Vj ?_;refine cZ (B:=d.heap.size) (AI x) rfl rfl rfl (λγ w b=>eL (xs:=[]) (vs:=[]) rfl rfl rfl rfl ((L3 w (g.ext b)).low (Rr f b.size)) u3) ?_;refine cZ (B:=d.heap.size) (C1 (AI x)) rfl rfl rfl (λγ w b y r=>eK (nX w (Rr f b.size) r) u3) ?_;refine cZ (B:=d.heap.size) (gX (AI S) (C1 (AI x))) rfl rfl rfl (λγ w b v q=>eK (nT w (Rr f b.size) (tQ _ _ _) q) u3) ?_;refine cZ (B:=d.heap.size) (L1 (C1 (AI x)) (gX (AI S) (C1 (AI x)))) rfl rfl rfl (λγ w b F C u p=>eK (oh w (Rr f b.size) C p) u3) ?_;refine cZ (B:=d.heap.size) (DQ (C1 (AI P)) (L1 (C1 (AI x)) (gX (AI S) (C1 (AI x))))) rfl rfl rfl (λγ w b A g5 t o=>eK (od w (Rr f b.size) g5 o) u3) ?_;refine VT λγ w' e H n t o u p v q y r F C G D A g5=>?_
 change WL _ _ _ _ _ _ _
 have g:=g.ext e;have h:=h.ext e;have j:=j.ext e;have i:=i.ext e;have m:=m.trans e;have f:=Rr f e.size;obtain⟨uo,uc,rfl,M⟩:=r0 n;refine f7 h (λz I l=>p0 (bx ?_));refine UQ ?_;exact e0 I ⟨(n.st l TK).low TK,GJ m l TK⟩
def L7(w:World){I:Nat}{k sc P S Q c:Int}{n:Nat}{weak:Bool}{u:Ltl}(g:Blk w a 27 (ED k sc P S Q x c))(l:Blk w I 268 [(.func (.func 235) [].toArray [Uc a].toArray)])(hn:Blk w K 3 [Ub ((n+1:Nat):Int)])(j:Blk w E 4 [.bool weak])(U:n<1000)(N:∀w:World,Rt Vy 168 [.agg (ED k sc P S Q x c).toArray,Ub (((n+1:Nat):Int) -1),.bool weak].toArray w (bT w u)):FnV Vy (.func (.func 240) [].toArray [Uc I,Uc a,Uc K,Uc E].toArray) [] w (bT w (DQ (AI x) (gX (gX (AI P) (C1 (AI x))) (Cm u)))):=by
 refine VE (cs:=[_,_,_,_]) ?_;refine dU func240 ntmps240 rfl rfl ?_;refine UZ ?_;refine eC (λe i m=>?_);have q:=m;have T:=i.lt;have R:=m.size;have g:=g.ext m;have f:e.heap.size<=e.heap.size:=Rq _;have l:=l.ext m;have hn:=hn.ext m;have j:=j.ext m;have ed:=mm e;have g:=g.ext ed;have i:=i.ext ed;have l:=l.ext ed;have hn:=hn.ext ed;have j:=j.ext ed;have q:=q.trans ed;have f:e.heap.size<=(drew e).heap.size:=Rr f ed.size;refine UR ?_;refine aH 17 mixed TL ?_;refine Vj ?_;refine cZ (B:=e.heap.size) (AI x) rfl rfl rfl (λγ w b=>eL (xs:=[]) (vs:=[]) rfl rfl rfl rfl ((L3 w (g.ext b)).low (Rr f b.size)) u3) ?_;refine Vt ?_;refine c7 (λγ w b=>eK (nU w P) u3) ?_;refine Vj ?_;refine cZ (B:=e.heap.size) (AI x) rfl rfl rfl (λγ w b=>eL (xs:=[]) (vs:=[]) rfl rfl rfl rfl ((L3 w (g.ext b)).low (Rr f b.size)) u3) ?_;refine cZ (B:=e.heap.size) (C1 (AI x)) rfl rfl rfl (λγ w b H A=>eK (nX w (Rr f b.size) A) u3) ?_;refine cZ (B:=e.heap.size) (gX (AI P) (C1 (AI x))) rfl rfl rfl (λγ w b G y=>eK (nT w (Rr f b.size) (tQ _ _ _) y) u3) ?_;refine Vj ?_;refine cZ (B:=e.heap.size) (u) rfl rfl rfl (λγ w b o h=>eK ((N w).low (Rr f b.size)) u3) ?_;refine cZ (B:=e.heap.size) (Cm (u)) rfl rfl rfl (λγ w b F v=>eK (nZ w (Rr f b.size) 7 v) u3) ?_;refine cZ (B:=e.heap.size) (gX (gX (AI P) (C1 (AI x))) (Cm (u))) rfl rfl rfl (λγ w b o h D t=>eK (nT w (Rr f b.size) h t) u3) ?_;refine cZ (B:=e.heap.size) (DQ (AI x) (gX (gX (AI P) (C1 (AI x))) (Cm (u)))) rfl rfl rfl (λγ w b L J C s=>eK (od w (Rr f b.size) J s) u3) ?_;refine VT λγ w' d M r C s D t F v o h G y H A L J=>?_
 change WL _ _ _ _ _ _ _
 have g:=g.ext d;have i:=i.ext d;have l:=l.ext d;have hn:=hn.ext d;have j:=j.ext d;have q:=q.trans d;have f:=Rr f d.size;obtain⟨uo,uc,rfl,V⟩:=r0 r;refine f7 i (λz O p=>p0 (bx ?_));refine UQ ?_;exact e0 O ⟨(r.st p TK).low TK,GJ q p TK⟩
def L9(k sc P S Q R c:Int)(weak:Bool):∀(n:Nat),n<=1000->∀(w:World),Rt Vy 168 [.agg (ED k sc P S Q R c).toArray,Ub (n:Int),.bool weak].toArray w (bT w (L8 k P S R n weak)):=by
 intro n;induction n with
 |zero=>
  intro _ w;refine dT func168 ntmps168 rfl rfl (UZ ?_);refine eH λw1 h e1=>?_;refine eH λw2 hn T=>?_;refine eH λw3 t O=>?_;refine eC (λw4 d A=>?_);have h:=((h.ext T).ext O).ext A;have hn:=(hn.ext O).ext A;have t:=t.ext A;have f:=((e1.trans T).trans O).trans A;have s1:=e1.size;have s2:=T.size;have s3:=O.size;have s4:=A.size;have hlr:=d.lt;refine Um ?_;refine eC (λw5 E e5=>?_);refine f7 E (λw6 E D=>?_);have v:Ext w4 w6:=e5.grown D e5.size TX;have h:=h.ext v;have hn:=hn.ext v;have t:=t.ext v;have d:=d.ext v;have f:=f.trans v;refine Um ?_;refine eC (λw7 q e7=>?_);refine f7 q (λg q C=>?_);have s:Ext w6 g:=e7.grown C e7.size TX;have h:=h.ext s;have hn:=hn.ext s;have t:=t.ext s;have d:=d.ext s;have E:=E.ext s;have f:=f.trans s;have s6:=v.size;have s8:=s.size;have o:g.heap.size<=g.heap.size:=Rq _;clear e1 T O A e5 v e7 s D C;unfold L8;refine UE ?_;by_cases k2:k=2
  .subst k2;rw[Tn rfl];refine UO ?_;refine eK (MJ g weak (ta:=AI P) (tb:=AI R) (λx e=>L4 x (h.ext e)) (λx e=>L3 x (h.ext e))) ?_;rintro v19 y ⟨H,ey⟩;have d:=d.ext ey;have f:=f.trans ey;have p:=ey.size;obtain⟨uo,uc,rfl,m⟩:=r0 H;refine f7 d (λz j a=>?_);refine UX ?_;have b:=(H.st a TK).low (show w.heap.size<=g.heap.size by omega);exact e0 j ⟨b,GJ f a TK⟩
  by_cases k3:k=3
  .subst k3;rw[Tm TN,Tn rfl];have ed:=mm g;have h:=h.ext ed;have d:=d.ext ed;have q:=q.ext ed;have f:=f.trans ed;have o:g.heap.size<=(drew g).heap.size:=Rr o ed.size;refine UY ?_;refine aH 11 mixed TL (Vj ?_);refine cZ (B:=g.heap.size) (AI R) rfl rfl rfl (λγ w i=>eL (xs:=[]) (vs:=[]) rfl rfl rfl rfl ((L3 w (h.ext i)).low (Rr o i.size)) u3) (cZ (B:=g.heap.size) (C1 (AI R)) rfl rfl rfl (λγ w i Y N=>eK (nX w (Rr o i.size) N) u3) (Vt ?_));refine c7 (λγ w i=>eK (nU w P) u3) ?_;refine Vj ?_;refine cZ (B:=g.heap.size) (AI R) rfl rfl rfl (λγ w i=>eL (xs:=[]) (vs:=[]) rfl rfl rfl rfl ((L3 w (h.ext i)).low (Rr o i.size)) u3) (cZ (B:=g.heap.size) (C1 (AI R)) rfl rfl rfl (λγ w i W L=>eK (nX w (Rr o i.size) L) u3) (cZ (B:=g.heap.size) (gX (AI P) (C1 (AI R))) rfl rfl rfl (λγ w i V K=>eK (nT w (Rr o i.size) (tQ _ _ _) K) u3) (cZ (B:=g.heap.size) (L1 (C1 (AI R)) (gX (AI P) (C1 (AI R)))) rfl rfl rfl (λγ w i X M U J=>eK (oh w (Rr o i.size) M J) u3) (VT λγ w' l v32 I U J V K W L X M Y N=>?_))));change WL _ _ _ _ _ _ _;have h:=h.ext l;have d:=d.ext l;have q:=q.ext l;have f:=f.trans l;have o:=Rr o l.size;obtain⟨uo,uc,rfl,m⟩:=r0 I;refine f7 d (λz j a=>p0 (bx ?_));refine Uk ?_;exact e0 j ⟨(I.st a TK).low TK,GJ f a TK⟩
  by_cases k5:k=5
  .subst k5;rw[Tm TN,Tm TN,Tn rfl];refine UO ?_;refine eK (MJ g weak (ta:=C1 (AI P)) (tb:=DQ (AI S) (AI R)) (λx e=>L2 x (h.ext e)) (λx e=>L5 x (h.ext e) (q.ext e))) ?_;rintro v38 y ⟨G,ey⟩;have d:=d.ext ey;have f:=f.trans ey;have p:=ey.size;obtain⟨uo,uc,rfl,m⟩:=r0 G;refine f7 d (λz j a=>?_);refine UX ?_;have b:=(G.st a TK).low (show w.heap.size<=g.heap.size by omega);exact e0 j ⟨b,GJ f a TK⟩
  by_cases Z:k=6
  .subst Z;rw[Tm TN,Tm TN,Tm TN,Tn rfl];refine UO ?_;refine eK (MJ g weak (ta:=DQ (C1 (AI P)) (L1 (C1 (AI R)) (gX (AI S) (C1 (AI R))))) (tb:=AI R) (λx e=>L6 x (h.ext e) (E.ext e) (q.ext e)) (λx e=>L3 x (h.ext e))) ?_;rintro v45 y ⟨F,ey⟩;have d:=d.ext ey;have f:=f.trans ey;have p:=ey.size;obtain⟨uo,uc,rfl,m⟩:=r0 F;refine f7 d (λz j a=>?_);refine UX ?_;have b:=(F.st a TK).low (show w.heap.size<=g.heap.size by omega);exact e0 j ⟨b,GJ f a TK⟩
  rw[Tm k2,Tm k3,Tm k5,Tm Z];rw[show(k==2)=false by simpa using k2];refine Ul ?_;rw[show(k==3)=false by simpa using k3];refine Ul ?_;rw[show(k==5)=false by simpa using k5];refine Ul ?_;rw[show(k==6)=false by simpa using Z];refine Ul ?_;by_cases k4:k=4
  .subst k4;rw[Tn rfl];refine U3 ?_;unfold jA;refine eK (MJ g weak (ta:=C1 (AI P)) (tb:=AI R) (λx e=>L2 x (h.ext e)) (λx e=>L3 x (h.ext e))) ?_;rintro v57 y ⟨r,ey⟩;have d:=d.ext ey;have f:=f.trans ey;have p:=ey.size;obtain⟨uo,uc,rfl,m⟩:=r0 r;refine f7 d (λz j a=>?_);refine Uh ?_;have b:=(r.st a TK).low (show w.heap.size<=g.heap.size by omega);exact e0 j ⟨b,GJ f a TK⟩
  rw[Tm k4];rw[show(k==4)=false by simpa using k4];refine U3 ?_;refine eK (MJ g weak (ta:=C1 (AI P)) (tb:=AI R) (λx e=>L2 x (h.ext e)) (λx e=>L3 x (h.ext e))) ?_;rintro v57 y ⟨r,ey⟩;have d:=d.ext ey;have f:=f.trans ey;have p:=ey.size;obtain⟨uo,uc,rfl,m⟩:=r0 r;refine f7 d (λz j a=>?_);refine Uh ?_;have b:=(r.st a TK).low (show w.heap.size<=g.heap.size by omega);exact e0 j ⟨b,GJ f a TK⟩
 |succ n ih=>
  intro hle w;have ih:k=4->∀w:World,Rt Vy 168 [.agg (ED k sc P S Q R c).toArray,Ub (((n+1:Nat):Int) -1),.bool weak].toArray w (bT w (jA P R weak n)):=by rw[show((n+1:Nat):Int) -1=(n:Int) by omega];intro t w;have:=ih TK w;rwa[show L8 k P S R n weak=jA P R weak n by subst t;unfold L8;rw[Tm TN,Tm TN,Tm TN,Tm TN,Tn rfl]]at this
  refine dT func168 ntmps168 rfl rfl (UZ ?_);refine eH λw1 h e1=>?_;refine eH λw2 hn T=>?_;refine eH λw3 t O=>?_;refine eC (λw4 d A=>?_);have h:=((h.ext T).ext O).ext A;have hn:=(hn.ext O).ext A;have t:=t.ext A;have f:=((e1.trans T).trans O).trans A;have s1:=e1.size;have s2:=T.size;have s3:=O.size;have s4:=A.size;have hlr:=d.lt;refine Um ?_;refine eC (λw5 E e5=>?_);refine f7 E (λw6 E D=>?_);have v:Ext w4 w6:=e5.grown D e5.size TX;have h:=h.ext v;have hn:=hn.ext v;have t:=t.ext v;have d:=d.ext v;have f:=f.trans v;refine Um ?_;refine eC (λw7 q e7=>?_);refine f7 q (λg q C=>?_);have s:Ext w6 g:=e7.grown C e7.size TX;have h:=h.ext s;have hn:=hn.ext s;have t:=t.ext s;have d:=d.ext s;have E:=E.ext s;have f:=f.trans s;have s6:=v.size;have s8:=s.size;have o:g.heap.size<=g.heap.size:=Rq _;clear e1 T O A e5 v e7 s D C;unfold L8;refine UE ?_;by_cases k2:k=2
  .subst k2;rw[Tn rfl];refine UO ?_;refine eK (MJ g weak (ta:=AI P) (tb:=AI R) (λx e=>L4 x (h.ext e)) (λx e=>L3 x (h.ext e))) ?_;rintro v19 y ⟨H,ey⟩;have d:=d.ext ey;have f:=f.trans ey;have p:=ey.size;obtain⟨uo,uc,rfl,m⟩:=r0 H;refine f7 d (λz j a=>?_);refine UX ?_;have b:=(H.st a TK).low (show w.heap.size<=g.heap.size by omega);exact e0 j ⟨b,GJ f a TK⟩
  by_cases k3:k=3
  .subst k3;rw[Tm TN,Tn rfl];have ed:=mm g;have h:=h.ext ed;have d:=d.ext ed;have q:=q.ext ed;have f:=f.trans ed;have o:g.heap.size<=(drew g).heap.size:=Rr o ed.size;refine UY ?_;refine aH 11 mixed TL (Vj ?_);refine cZ (B:=g.heap.size) (AI R) rfl rfl rfl (λγ w i=>eL (xs:=[]) (vs:=[]) rfl rfl rfl rfl ((L3 w (h.ext i)).low (Rr o i.size)) u3) (cZ (B:=g.heap.size) (C1 (AI R)) rfl rfl rfl (λγ w i Y N=>eK (nX w (Rr o i.size) N) u3) (Vt ?_));refine c7 (λγ w i=>eK (nU w P) u3) ?_;refine Vj ?_;refine cZ (B:=g.heap.size) (AI R) rfl rfl rfl (λγ w i=>eL (xs:=[]) (vs:=[]) rfl rfl rfl rfl ((L3 w (h.ext i)).low (Rr o i.size)) u3) (cZ (B:=g.heap.size) (C1 (AI R)) rfl rfl rfl (λγ w i W L=>eK (nX w (Rr o i.size) L) u3) (cZ (B:=g.heap.size) (gX (AI P) (C1 (AI R))) rfl rfl rfl (λγ w i V K=>eK (nT w (Rr o i.size) (tQ _ _ _) K) u3) (cZ (B:=g.heap.size) (L1 (C1 (AI R)) (gX (AI P) (C1 (AI R)))) rfl rfl rfl (λγ w i X M U J=>eK (oh w (Rr o i.size) M J) u3) (VT λγ w' l v32 I U J V K W L X M Y N=>?_))));change WL _ _ _ _ _ _ _;have h:=h.ext l;have d:=d.ext l;have q:=q.ext l;have f:=f.trans l;have o:=Rr o l.size;obtain⟨uo,uc,rfl,m⟩:=r0 I;refine f7 d (λz j a=>p0 (bx ?_));refine Uk ?_;exact e0 j ⟨(I.st a TK).low TK,GJ f a TK⟩
  by_cases k5:k=5
  .subst k5;rw[Tm TN,Tm TN,Tn rfl];refine UO ?_;refine eK (MJ g weak (ta:=C1 (AI P)) (tb:=DQ (AI S) (AI R)) (λx e=>L2 x (h.ext e)) (λx e=>L5 x (h.ext e) (q.ext e))) ?_;rintro v38 y ⟨G,ey⟩;have d:=d.ext ey;have f:=f.trans ey;have p:=ey.size;obtain⟨uo,uc,rfl,m⟩:=r0 G;refine f7 d (λz j a=>?_);refine UX ?_;have b:=(G.st a TK).low (show w.heap.size<=g.heap.size by omega);exact e0 j ⟨b,GJ f a TK⟩
  by_cases Z:k=6
  .subst Z;rw[Tm TN,Tm TN,Tm TN,Tn rfl];refine UO ?_;refine eK (MJ g weak (ta:=DQ (C1 (AI P)) (L1 (C1 (AI R)) (gX (AI S) (C1 (AI R))))) (tb:=AI R) (λx e=>L6 x (h.ext e) (E.ext e) (q.ext e)) (λx e=>L3 x (h.ext e))) ?_;rintro v45 y ⟨F,ey⟩;have d:=d.ext ey;have f:=f.trans ey;have p:=ey.size;obtain⟨uo,uc,rfl,m⟩:=r0 F;refine f7 d (λz j a=>?_);refine UX ?_;have b:=(F.st a TK).low (show w.heap.size<=g.heap.size by omega);exact e0 j ⟨b,GJ f a TK⟩
  rw[Tm k2,Tm k3,Tm k5,Tm Z];rw[show(k==2)=false by simpa using k2];refine Ul ?_;rw[show(k==3)=false by simpa using k3];refine Ul ?_;rw[show(k==5)=false by simpa using k5];refine Ul ?_;rw[show(k==6)=false by simpa using Z];refine Ul ?_;by_cases k4:k=4
  .subst k4;rw[Tn rfl];refine UI ?_;have ih:=ih rfl;rw[Tc (show((n+1:Nat):Int)>0 by omega)];unfold jA;refine UO ?_;refine eK (MJ g weak (ta:=C1 (AI P)) (tb:=DQ (AI R) (gX (gX (AI P) (C1 (AI R))) (Cm (jA P R weak n)))) (λx e=>L2 x (h.ext e)) (λx e=>L7 (n:=n) (weak:=weak) (u:=jA P R weak n) x (h.ext e) (q.ext e) (hn.ext e) (t.ext e) TK ih)) ?_;rintro v53 y ⟨h53,ey⟩;have d:=d.ext ey;have f:=f.trans ey;have p:=ey.size;obtain⟨uo,uc,rfl,m⟩:=r0 h53;refine f7 d (λz j a=>?_);refine UX ?_;have b:=(h53.st a TK).low (show w.heap.size<=g.heap.size by omega);exact e0 j ⟨b,GJ f a TK⟩
  rw[Tm k4];rw[show(k==4)=false by simpa using k4];refine U3 ?_;refine eK (MJ g weak (ta:=C1 (AI P)) (tb:=AI R) (λx e=>L2 x (h.ext e)) (λx e=>L3 x (h.ext e))) ?_;rintro v57 y ⟨r,ey⟩;have d:=d.ext ey;have f:=f.trans ey;have p:=ey.size;obtain⟨uo,uc,rfl,m⟩:=r0 r;refine f7 d (λz j a=>?_);refine Uh ?_;have b:=(r.st a TK).low (show w.heap.size<=g.heap.size by omega);exact e0 j ⟨b,GJ f a TK⟩
def FM.keep{k b:Nat}{γ:Nat->Nat}{w':World}{t:Ltl}(h:Rd w (FM B k γ w) v t)(f:k<γ b)(d:w.grownBy w' (some b)):Rd w' (FM B k γ w') v t:=
 (Rd.kept h d (λc a=>⟨a.2.1,λe=>by have:=R4 e;subst this;have:=a.2.2;omega⟩)).wk (λc a=>⟨a.1,Rv a.2.1 d.size,a.2.2⟩)
def sj(w:World)(k sc P S Q R:Int)(n:Nat)(hn:n<=1000):Rt Vy 106 [.agg (ED k sc P S Q R (n:Int)).toArray].toArray w (bT w (ol (k,sc,P,S,Q,R,(n:Int)))):=by
 refine dR func106 ntmps106 rfl rfl ?_;have hg:=tT k sc P S Q R (n:Int) n hn;have hu:=λweak=>L9 k sc P S Q R (n:Int) weak n hn
 refine UZ ?_;refine eH λw1 p e1=>?_
 refine eC (λj m e2=>?_);have p:=p.ext e2;have l:=e1.trans e2;have hlr:=m.lt;have hs1:=e1.size;have d:j.heap.size<=j.heap.size:=Rq _;unfold ol;dsimp only;rw[Oy];have ed:=mm j;have p:=p.ext ed;have m:=m.ext ed;have l:=l.trans ed;have d:j.heap.size<=(drew j).heap.size:=Rr d ed.size;refine UR ?_;refine aH 9 mixed TL ?_;refine Vt ?_;refine c7 (λγ w c=>eK (nU w Q) u3) ?_;refine Vt ?_;refine c7 (λγ w c=>eK (nU w R) u3) ?_;refine V1 (λv γ w=>Rd w (FM j.heap.size 6 γ w) v (C1 (AI R))) rfl rfl rfl Jx (λγ w c=>eK (FM.call (i:=6) (by omega) (Rr d c.size) (nW w FM.lt (G2 _ _ _))) (λv w' h=>p0 (a7 rfl h.2 h.1))) ?_;refine V1 (λv γ w=>∃b,v=Uc b/\γ b=7/\j.heap.size<=b/\Blk w b 32 [Ub 0,Ub 0,.slice none 0 0]) rfl rfl rfl stA (λγ w c=>eC (λw' hb e=>p0 (a7 rfl e ⟨_,rfl,jN,Rr d c.size,hb⟩))) ?_;refine V1 (λv γ w=>∃b,v=Uc b/\γ b=8/\j.heap.size<=b/\Blk w b 32 [Ub 0,Ub 0,.slice none 0 0]) rfl rfl rfl stA (λγ w c=>eC (λw' hb e=>p0 (a7 rfl e ⟨_,rfl,jN,Rr d c.size,hb⟩))) ?_;refine VT λγ w' a v4 g4 v3 g3 v11 u=>?_
 change WL _ _ _ _ _ _ _
 have p:=p.ext a;have m:=m.ext a;have l:=l.trans a;have d:=Rr d a.size;obtain⟨b4,rfl,hγ4,hB4,f⟩:=g4;obtain⟨b3,rfl,hγ3,hB3,g⟩:=g3;have I:b3≠b4:=λe=>by subst e;rw[hγ3]at hγ4;cases hγ4
 obtain⟨uo,uc,rfl,t⟩:=r0 u;refine f7 g (λw3 g s=>?_);have f:=f.kept s (λe=>I (R4 e).symm);have u:=FM.keep u (b:=b3) (by rw[hγ3];decide) s;have m:=m.kept s T3;have p:=p.kept s T3;have l:Ext w w3:=l.grown s l.size TZ;have d:=Rr d s.size;refine f7 f (λx f r=>p0 (bx ?_));have q:=FM.st u (b:=b4) (by rw[hγ4];decide) r;have g:=g.kept r (λe=>I (R4 e));have m:=m.kept r T3;have p:=p.kept r T3;have l:Ext w x:=l.grown r l.size TZ;have d:=Rr d r.size;clear u t s r a e1 e2;refine UE ?_;by_cases s2:sc=2
 .subst s2
  rw[Tn rfl];have ed:=mm x;have p:=p.ext ed;have m:=m.ext ed;have g:=g.ext ed;have f:=f.ext ed;have q:=q.ext ed;have l:=l.trans ed;have d:j.heap.size<=(drew x).heap.size:=Rr d ed.size;refine U4 ?_;refine aH 10 mixed TL ?_;refine Vt ?_;refine c7 (λγ w c=>eK (nU w R) u3) ?_;refine cZ (B:=j.heap.size) (q8 (AI R)) rfl rfl rfl (λγ w c=>eK (nZ w (Rr d c.size) 10 (tQ _ _ _)) u3) ?_;refine cZ (B:=j.heap.size) (C1 (q8 (AI R))) rfl rfl rfl (λγ w c v19 g19=>eK (nX w (Rr d c.size) g19) u3) ?_;refine Vv ?_;refine cZ (B:=j.heap.size) (L8 k P S R n false) rfl rfl rfl (λγ w c H E=>eK ((hu false w).low (Rr d c.size)) u3) ?_;refine cZ (B:=j.heap.size) (DQ (C1 (q8 (AI R))) (L8 k P S R n false)) rfl rfl rfl (λγ w c H E v24 g24=>eK (od w (Rr d c.size) E g24) u3) ?_;refine VT λγ w' a v25 g25 v24 g24 H E v19 g19=>?_
  change WL _ _ _ _ _ _ _
  have p:=p.ext a;have m:=m.ext a;have g:=g.ext a;have f:=f.ext a;have q:=q.ext a;have l:=l.trans a;have d:=Rr d a.size;obtain⟨uo,uc,rfl,t⟩:=r0 g25;refine f7 m (λz y o=>p0 (bx ?_));refine Uk ?_;exact e0 y ⟨(g25.st o TK).low TK,GJ l o TK⟩
 by_cases s3:sc=3
 .subst s3
  rw[Tm TN,Tn rfl];have ed:=mm x;have p:=p.ext ed;have m:=m.ext ed;have g:=g.ext ed;have f:=f.ext ed;have q:=q.ext ed;have l:=l.trans ed;have d:j.heap.size<=(drew x).heap.size:=Rr d ed.size;refine UY ?_;refine aH 17 mixed TL ?_;refine Vj ?_;refine cZ (B:=j.heap.size) (C1 (AI Q)) rfl rfl rfl (λγ w c=>eK (nX w (Rr d c.size) (tQ _ _ _)) u3) ?_;refine cZ (B:=j.heap.size) (gW (C1 (AI Q))) rfl rfl rfl (λγ w c v29 g29=>eK (nR w (Rr d c.size) g29) u3) ?_;refine Vt ?_;refine c7 (λγ w c=>eK (nU w Q) u3) ?_;refine cZ (B:=j.heap.size) (C1 (AI Q)) rfl rfl rfl (λγ w c=>eK (nX w (Rr d c.size) (tQ _ _ _)) u3) ?_;refine Vt ?_;refine c7 (λγ w c=>eK (nU w Q) u3) ?_;refine Vv ?_;refine cZ (B:=j.heap.size) (tR k P S n) rfl rfl rfl (λγ w c=>eK ((hg w).low (Rr d c.size)) u3) ?_;refine cZ (B:=j.heap.size) (gX (AI Q) (tR k P S n)) rfl rfl rfl (λγ w c v41 g41=>eK (nT w (Rr d c.size) (tQ _ _ _) g41) u3) ?_;refine cZ (B:=j.heap.size) (L1 (C1 (AI Q)) (gX (AI Q) (tR k P S n))) rfl rfl rfl (λγ w c v34 g34 v42 g42=>eK (oh w (Rr d c.size) g34 g42) u3) ?_;refine cZ (B:=j.heap.size) (DQ (gW (C1 (AI Q))) (L1 (C1 (AI Q)) (gX (AI Q) (tR k P S n)))) rfl rfl rfl (λγ w c v30 g30 v43 Z=>eK (od w (Rr d c.size) g30 Z) u3) ?_;refine VT λγ w' a v44 Y v43 Z v42 g42 v41 g41 v34 g34 v30 g30 v29 g29=>?_
  change WL _ _ _ _ _ _ _
  have p:=p.ext a;have m:=m.ext a;have g:=g.ext a;have f:=f.ext a;have q:=q.ext a;have l:=l.trans a;have d:=Rr d a.size;obtain⟨uo,uc,rfl,t⟩:=r0 Y;refine f7 m (λz y o=>p0 (bx ?_));refine Uk ?_;exact e0 y ⟨(Y.st o TK).low TK,GJ l o TK⟩
 by_cases s4:sc=4
 .subst s4
  rw[Tm TN,Tm TN,Tn rfl];have ed:=mm x;have p:=p.ext ed;have m:=m.ext ed;have g:=g.ext ed;have f:=f.ext ed;have q:=q.ext ed;have l:=l.trans ed;have d:j.heap.size<=(drew x).heap.size:=Rr d ed.size;refine UY ?_;refine aH 15 mixed TL ?_;refine Vj ?_;refine cZ (B:=j.heap.size) (gX (AI Q) (C1 (AI R))) rfl rfl rfl (λγ w c=>eK (nT w (Rr d c.size) (tQ _ _ _) (q.ext c)) u3) ?_;refine Vt ?_;refine c7 (λγ w c=>eK (nU w R) u3) ?_;refine cZ (B:=j.heap.size) (q8 (AI R)) rfl rfl rfl (λγ w c=>eK (nZ w (Rr d c.size) 10 (tQ _ _ _)) u3) ?_;refine cZ (B:=j.heap.size) (gX (gX (AI Q) (C1 (AI R))) (q8 (AI R))) rfl rfl rfl (λγ w c v49 X v53 W=>eK (nT w (Rr d c.size) X W) u3) ?_;refine cZ (B:=j.heap.size) (C1 (gX (gX (AI Q) (C1 (AI R))) (q8 (AI R)))) rfl rfl rfl (λγ w c v54 V=>eK (nX w (Rr d c.size) V) u3) ?_;refine Vv ?_;refine cZ (B:=j.heap.size) (L8 k P S R n false) rfl rfl rfl (λγ w c G D=>eK ((hu false w).low (Rr d c.size)) u3) ?_;refine V1 (λv γ w=>GL j.heap.size w v (DQ (C1 (gX (gX (AI Q) (C1 (AI R))) (q8 (AI R)))) (L8 k P S R n false))) rfl rfl rfl TW (λγ w c G D v59 U=>eK (od w (Rr d c.size) D U) u3) ?_;refine V1 (λv γ w=>GL j.heap.size w v (gW (DQ (C1 (gX (gX (AI Q) (C1 (AI R))) (q8 (AI R)))) (L8 k P S R n false)))) rfl rfl rfl TW (λγ w c v60 T=>eK (nR w (Rr d c.size) T) u3) ?_;refine VT λγ w' a v61 O v60 T v59 U G D v54 V v53 W v49 X=>?_
  change WL _ _ _ _ _ _ _
  have p:=p.ext a;have m:=m.ext a;have g:=g.ext a;have f:=f.ext a;have q:=q.ext a;have l:=l.trans a;have d:=Rr d a.size;obtain⟨uo,uc,rfl,t⟩:=r0 O;refine f7 m (λz y o=>p0 (bx ?_));refine Uk ?_;exact e0 y ⟨(O.st o TK).low TK,GJ l o TK⟩
 by_cases s5:sc=5
 .subst s5
  rw[Tm TN,Tm TN,Tm TN,Tn rfl];have ed:=mm x;have p:=p.ext ed;have m:=m.ext ed;have g:=g.ext ed;have f:=f.ext ed;have q:=q.ext ed;have l:=l.trans ed;have d:j.heap.size<=(drew x).heap.size:=Rr d ed.size;refine UY ?_;refine aH 10 mixed TL ?_;refine Vj ?_;refine cZ (B:=j.heap.size) (gX (AI Q) (C1 (AI R))) rfl rfl rfl (λγ w c=>eK (nT w (Rr d c.size) (tQ _ _ _) (q.ext c)) u3) ?_;refine cZ (B:=j.heap.size) (C1 (gX (AI Q) (C1 (AI R)))) rfl rfl rfl (λγ w c v66 N=>eK (nX w (Rr d c.size) N) u3) ?_;refine Vv ?_;refine cZ (B:=j.heap.size) (L8 k P S R n true) rfl rfl rfl (λγ w c F C=>eK ((hu true w).low (Rr d c.size)) u3) ?_;refine cZ (B:=j.heap.size) (DQ (C1 (gX (AI Q) (C1 (AI R)))) (L8 k P S R n true)) rfl rfl rfl (λγ w c F C v71 M=>eK (od w (Rr d c.size) C M) u3) ?_;refine V1 (λv γ w=>GL j.heap.size w v (gW (DQ (C1 (gX (AI Q) (C1 (AI R)))) (L8 k P S R n true)))) rfl rfl rfl TW (λγ w c v72 L=>eK (nR w (Rr d c.size) L) u3) ?_;refine VT λγ w' a v73 K v72 L v71 M F C v66 N=>?_
  change WL _ _ _ _ _ _ _
  have p:=p.ext a;have m:=m.ext a;have g:=g.ext a;have f:=f.ext a;have q:=q.ext a;have l:=l.trans a;have d:=Rr d a.size;obtain⟨uo,uc,rfl,t⟩:=r0 K;refine f7 m (λz y o=>p0 (bx ?_));refine Uk ?_;exact e0 y ⟨(K.st o TK).low TK,GJ l o TK⟩
 rw[Tm s2,Tm s3,Tm s4,Tm s5];rw[show(sc==2)=false by simpa using s2];refine Ul ?_;rw[show(sc==3)=false by simpa using s3];refine Ul ?_;rw[show(sc==4)=false by simpa using s4];refine Ul ?_;rw[show(sc==5)=false by simpa using s5];refine U3 ?_;skip;skip;refine eK ((hg x).low d) ?_;rintro v77 y1 ⟨J,A⟩
 have p:=p.ext A;have m:=m.ext A;have l:=l.trans A;have d:=Rr d A.size;obtain⟨uo,uc,rfl,t⟩:=r0 J;skip;refine f7 m (λz y o=>?_);refine Uh ?_;exact e0 y ⟨(J.st o TK).low TK,GJ l o TK⟩
section
variable {s l:List Nat}{e P S to i:Nat}{k:Int}{st:KS}
abbrev Hs(s l:List Nat)(a:Nat)(j:Nat):Prop:=AA s l j >>> a&&&1=1
end
section
variable {pt:cL}{s l:List Nat}{i to:Nat}
abbrev cnt(pt:cL):Nat:=pt.2.2.2.2.2.2.toNat
abbrev hP(pt:cL)(s l:List Nat):Nat->Prop:=Hs s l pt.2.2.1.toNat
abbrev hS(pt:cL)(s l:List Nat):Nat->Prop:=Hs s l pt.2.2.2.1.toNat
abbrev hQ(pt:cL)(s l:List Nat):Nat->Prop:=Hs s l pt.2.2.2.2.1.toNat
abbrev hR(pt:cL)(s l:List Nat):Nat->Prop:=Hs s l pt.2.2.2.2.2.1.toNat
end
def nN(pt:cL):Ltl×Int:=if kR pt≠0 then(.mk 0 0 [],kR pt)else if(kD (ol pt) 1 0).1≠0 then(.mk 0 0 [],(kD (ol pt) 1 0).1)else(ol pt,0)
def kT{pt:cL}(h:kR pt=0):∃n:Nat,pt.2.2.2.2.2.2=(n:Int)/\n<=3:=by
 unfold kR at h;split at h
 .cases h
 split at h
 .cases h
 split at h
 .cases h
 .rename_i h3;exact⟨pt.2.2.2.2.2.2.toNat,by omega,by omega⟩
def nP(w:World)(pt:cL):
  Rt Vy 56 [EE pt].toArray w λu w'=>∃x,u=.tuple ⟨[x,Ub (nN pt).2]⟩/\GL w.heap.size w' x (nN pt).1/\Ext w w':=by
 refine dR func56 ntmps56 rfl rfl (UZ ?_);refine eH λw1 z p=>?_;refine eC (λV O h=>?_);have z:=z.ext h;have o:=p.trans h;refine UD ?_;refine eK (oq V pt) ?_;rintro _ t ⟨rfl,s⟩;have ht3:=z.ext s;have m:=O.ext s;have g:=o.trans s;have hz1:=p.size;have hz2:=h.size;have hlr:=O.lt;have hz3:=s.size;refine UR ?_;unfold nN;apply ld rfl<;>intro i
 .have i:kR pt≠0:=by simpa using i
  rw[Tn i];refine UZ ?_;refine r4 (parts:=[]) rfl rfl rfl rfl (U9 ?_);refine f7 m (λM B E=>?_);refine UX ?_;exact fG B ⟨_,rfl,VJ (kids:=[]) (v1 _ _),g.grown E g.size TZ⟩
 .have i:kR pt=0:=by simpa using i
  rw[Tm (by simp[i])];refine Uo ?_;have F:Rt Vy 106 [EE pt].toArray t (bT t (ol pt)):=by obtain⟨n,hn,hn3⟩:=kT i;obtain⟨k,sc,P,S,Q,R,c⟩:=pt;dsimp only at hn;subst hn;exact sj t k sc P S Q R n TK
  refine eK F ?_;rintro v M ⟨N,T⟩;have Z:=T.size;refine eC (λw5 H K=>?_);have Y:=K.size;obtain⟨uo,uc,rfl,_⟩:=r0 N;refine f7 H (λL G D=>?_);have J:Ext M L:=K.grown D K.size TX;have j:=N.ext J;obtain⟨uo',uc',e,C⟩:=r0 j;obtain⟨rfl,rfl⟩:uo'=uo/\uc'=uc:=by simp[Bi]at e;exact⟨e.1.symm,e.2.symm⟩
  have r:=T.trans J;have A:=m.ext r;have I:=g.trans r;have X:=J.size;refine UD ?_;refine eK (Bg L C (λb hb=>hb.2)) ?_;rintro _ w7 ⟨rfl,q⟩;have l:=A.ext q;have hb7:=G.ext q;have d:=I.trans q;have y:=j.ext q;have W:=q.size;refine UR ?_;apply ld rfl<;>intro h2
  .have h2:(kD (ol pt) 1 0).1≠0:=by simpa using h2
   rw[Tn h2];refine UZ ?_;refine r4 (parts:=[]) rfl rfl rfl rfl (U9 ?_);refine f7 l (λU f a=>?_);refine UX ?_;exact fG f ⟨_,rfl,VJ (kids:=[]) (v1 _ _),d.grown a d.size TZ⟩
  .have h2:(kD (ol pt) 1 0).1=0:=by simpa using h2
   rw[Tm (by simp[h2])];refine Uo ?_;refine f7 l (λU f a=>?_);refine Uf ?_;exact fG f ⟨_,rfl,(y.st a TK).low TK,d.grown a d.size TZ⟩
def ng(w:World)(hF:∀b,F b->b<w.heap.size)(k:Int){t:Ltl}(h:Rd w F v t):Rt Vy 186 [Ub k,v].toArray w λv w'=>Rd w' (dp F w w') v (.mk k 0 [t]:Ltl)/\Ext w w':=by obtain⟨ao,cap,rfl,I⟩:=r0 h;refine dS func186 ntmps186 rfl rfl (UZ ?_);refine eH λA d f=>?_;refine eC (λl x j=>?_);have H:=d.ext j;have a:=f.trans j;refine UD ?_;have E:Rd l F (Bi t.k t.n ao t.kids.length cap) t:=V8 h (λb d=>a.block b (hF b d)) T0;have m:w.heap.size<=l.heap.size:=a.size;have D:=x.lt;have B:w.heap.size<=A.heap.size:=f.size;refine VN (F:=F) (ys:=[t]) rfl rfl rfl rfl rfl (.cons E .nil) (by show 1*3<=16777216;decide) (λb d=>Rv (hF b d) m) (λz y p=>?_);have e:Ext l z:=(p7 l).grown p T8 T2;have o:=x.ext e;have c:=a.trans e;refine r4 rfl rfl rfl rfl (f7 o (λs n i=>?_));have r:Ext w s:=c.grown i c.size (λg q=>by cases q;exact f.size);have ho4:=y.kept i (λg q=>by have:=(y.lt g q).1;simp;omega) (λb d=>⟨Rv (hF b d) c.size,by have:b<w.heap.size:=hF b d;simp;omega⟩);obtain⟨uo,uc,G,C⟩:=(ho4.rd.mono (F':=dp F w s) T5 (λb d=>d.elim .inl λu=>.inr ⟨Rr a.size (ho4.lt b u).1,(ho4.lt b u).2.1⟩)).sl;obtain⟨rfl,_,rfl⟩:=SV G;refine Uh ?_;exact e0 n ⟨VJ (kids:=[t]) C,r⟩
def nt(w:World)(hF:∀b,F b->b<w.heap.size)(k:Int){t i:Ltl}(h:Rd w F v t)(E:Rd w F A i):Rt Vy 182 [Ub k,v,A].toArray w λv w'=>Rd w' (dp F w w') v (.mk k 0 [t,i]:Ltl)/\Ext w w':=by
 obtain⟨ao,cap,rfl,P⟩:=r0 h;obtain⟨ao',cap',rfl,M⟩:=r0 E;refine dT func182 ntmps182 rfl rfl ?_;refine UZ ?_;refine eH λw0 f y=>?_
 refine eH λH d c=>?_
 have f:=f.ext c;have c:=y.trans c;refine eC (λm C l=>?_);have f:=f.ext l;have O:=d.ext l;have a:=c.trans l;refine UD ?_;have L:Rd m F (Bi t.k t.n ao t.kids.length cap) t:=V8 h (λb d=>a.block b (hF b d)) T0;have r:Rd m F (Bi i.k i.n ao' i.kids.length cap') i:=V8 E (λb d=>a.block b (hF b d)) T0;have o:w.heap.size<=m.heap.size:=a.size;have K:=C.lt;have I:w.heap.size<=H.heap.size:=c.size;refine VN (F:=F) (ys:=[t,i]) rfl rfl rfl rfl rfl (.cons L (.cons r .nil)) (by show 2*3<=16777216;decide) (λb d=>Rv (hF b d) o) (λG D s=>?_);have j:Ext m G:=(p7 m).grown s T8 T2;have q:=C.ext j;have e:=a.trans j;refine r4 rfl rfl rfl rfl ?_;refine f7 q (λz p n=>?_);have x:Ext w z:=e.grown n e.size (λg u=>by cases u;exact c.size);have ho4:=D.kept n (λg u=>by have:=(D.lt g u).1;simp;omega) (λb d=>⟨Rv (hF b d) e.size,by have:b<w.heap.size:=hF b d;simp;omega⟩);obtain⟨uo,uc,N,J⟩:=(ho4.rd.mono (F':=dp F w z) T5 (λb d=>d.elim .inl λB=>.inr ⟨Rr a.size (ho4.lt b B).1,(ho4.lt b B).2.1⟩)).sl;obtain⟨rfl,_,rfl⟩:=SV N;refine Uh ?_;exact e0 p ⟨VJ (kids:=[t,i]) J,x⟩
def nh(w:World)(c:B<=w.heap.size)(k:Int){t:Ltl}(h:GL B w v t):Rt Vy 186 [Ub k,v].toArray w λu w'=>GL B w' u (.mk k 0 [t])/\Ext w w':=
 (ng w (λb a=>a.2) k h).mono λu w' h=>⟨h.1.wk (VY c h.2),h.2⟩
def nu(w:World)(d:B<=w.heap.size)(k:Int){t a:Ltl}(h:GL B w v t)(e:GL B w A a):Rt Vy 182 [Ub k,v,A].toArray w λu w'=>GL B w' u (.mk k 0 [t,a])/\Ext w w':=
 (nt w (F:=λb=>B<=b/\b<w.heap.size) (λb c=>c.2) k h e).mono λu w' h=>⟨h.1.wk (VY d h.2),h.2⟩
def m_(w:World)(hF:∀b,F b->b<w.heap.size){t:Ltl}(h:Rd w F v t):Rt Vy 179 [v].toArray w λu w'=>Rd w' (dp F w w') u (.mk 4 0 [t]:Ltl)/\Ext w w':=by obtain⟨ao,cap,rfl,s⟩:=r0 h;refine dR func179 ntmps179 rfl rfl (UZ ?_);refine eH λo f e=>?_;refine eC (λn m d=>?_);have f:=f.ext d;have g:=e.trans d;have a:w.heap.size<=o.heap.size:=e.size;have j:=m.lt;refine UD ?_;refine eK (ng n (λb f=>Rv (hF b f) g.size) 4 (VS h g hF)) ?_;rintro u r ⟨l,k⟩;obtain⟨uo,uc,rfl,p⟩:=r0 l;refine f7 (m.ext k) (λq i c=>?_);refine Uh ?_;exact e0 i ⟨rh l c hF a j g.size k.size,GJ (g.trans k) c a⟩
def nf(w:World)(c:B<=w.heap.size){t:Ltl}(h:GL B w v t):Rt Vy 179 [v].toArray w λu w'=>GL B w' u (.mk 4 0 [t])/\Ext w w':=
 (m_ w (λb a=>a.2) h).mono λu w' h=>⟨h.1.wk (VY c h.2),h.2⟩
def nq(w:World)(hF:∀b,F b->b<w.heap.size){t:Ltl}(h:Rd w F v t):Rt Vy 180 [v].toArray w λu w'=>Rd w' (dp F w w') u (.mk 10 0 [t]:Ltl)/\Ext w w':=by obtain⟨ao,cap,rfl,s⟩:=r0 h;refine dR func180 ntmps180 rfl rfl (UZ ?_);refine eH λo f e=>?_;refine eC (λn m d=>?_);have f:=f.ext d;have g:=e.trans d;have a:w.heap.size<=o.heap.size:=e.size;have j:=m.lt;refine UD ?_;refine eK (ng n (λb f=>Rv (hF b f) g.size) 10 (VS h g hF)) ?_;rintro u r ⟨l,k⟩;obtain⟨uo,uc,rfl,p⟩:=r0 l;refine f7 (m.ext k) (λq i c=>?_);refine Uh ?_;exact e0 i ⟨rh l c hF a j g.size k.size,GJ (g.trans k) c a⟩
def nr(w:World)(c:B<=w.heap.size){t:Ltl}(h:GL B w v t):Rt Vy 180 [v].toArray w λu w'=>GL B w' u (.mk 10 0 [t])/\Ext w w':=
 (nq w (λb a=>a.2) h).mono λu w' h=>⟨h.1.wk (VY c h.2),h.2⟩
def mY(w:World)(hF:∀b,F b->b<w.heap.size){t:Ltl}(h:Rd w F v t):Rt Vy 177 [v].toArray w λu w'=>Rd w' (dp F w w') u (.mk 11 0 [t]:Ltl)/\Ext w w':=by obtain⟨ao,cap,rfl,s⟩:=r0 h;refine dR func177 ntmps177 rfl rfl (UZ ?_);refine eH λo f e=>?_;refine eC (λn m d=>?_);have f:=f.ext d;have g:=e.trans d;have a:w.heap.size<=o.heap.size:=e.size;have j:=m.lt;refine UD ?_;refine eK (ng n (λb f=>Rv (hF b f) g.size) 11 (VS h g hF)) ?_;rintro u r ⟨l,k⟩;obtain⟨uo,uc,rfl,p⟩:=r0 l;refine f7 (m.ext k) (λq i c=>?_);refine Uh ?_;exact e0 i ⟨rh l c hF a j g.size k.size,GJ (g.trans k) c a⟩
def mZ(w:World)(c:B<=w.heap.size){t:Ltl}(h:GL B w v t):Rt Vy 177 [v].toArray w λu w'=>GL B w' u (.mk 11 0 [t])/\Ext w w':=
 (mY w (λb a=>a.2) h).mono λu w' h=>⟨h.1.wk (VY c h.2),h.2⟩
def m7(w:World)(hF:∀b,F b->b<w.heap.size){t n:Ltl}(h:Rd w F v t)(q:Rd w F A n):Rt Vy 184 [v,A].toArray w λu w'=>Rd w' (dp F w w') u (.mk 5 0 [t,n]:Ltl)/\Ext w w':=by
 obtain⟨ao,cap,rfl,C⟩:=r0 h;obtain⟨ao',cap',rfl,y⟩:=r0 q;refine dS func184 ntmps184 rfl rfl ?_;refine UZ ?_;refine eH λw0 c l=>?_
 refine eH λs i a=>?_
 have c:=c.ext a;have a:=l.trans a;refine eC (λr p d=>?_);have c:=c.ext d;have i:=i.ext d;have g:=a.trans d;have e:w.heap.size<=s.heap.size:=a.size;have k:=p.lt;refine UD ?_;refine eK (nt r (F:=F) (λb i=>Rv (hF b i) g.size) 5 (VS h g hF) (VS q g hF)) ?_;rintro u B ⟨o,m⟩
 obtain⟨uo,uc,rfl,x⟩:=r0 o;refine f7 (p.ext m) (λz j f=>?_);refine Uh ?_;exact e0 j ⟨rh o f hF e k g.size m.size,GJ (g.trans m) f e⟩
def m8(w:World)(d:B<=w.heap.size){t a:Ltl}(h:GL B w v t)(e:GL B w A a):Rt Vy 184 [v,A].toArray w λu w'=>GL B w' u (.mk 5 0 [t,a])/\Ext w w':=
 (m7 w (F:=λb=>B<=b/\b<w.heap.size) (λb c=>c.2) h e).mono λu w' h=>⟨h.1.wk (VY d h.2),h.2⟩
def nj(w:World)(hF:∀b,F b->b<w.heap.size){t n:Ltl}(h:Rd w F v t)(q:Rd w F A n):Rt Vy 178 [v,A].toArray w λu w'=>Rd w' (dp F w w') u (.mk 6 0 [t,n]:Ltl)/\Ext w w':=by
 obtain⟨ao,cap,rfl,C⟩:=r0 h;obtain⟨ao',cap',rfl,y⟩:=r0 q;refine dS func178 ntmps178 rfl rfl ?_;refine UZ ?_;refine eH λw0 c l=>?_
 refine eH λs i a=>?_
 have c:=c.ext a;have a:=l.trans a;refine eC (λr p d=>?_);have c:=c.ext d;have i:=i.ext d;have g:=a.trans d;have e:w.heap.size<=s.heap.size:=a.size;have k:=p.lt;refine UD ?_;refine eK (nt r (F:=F) (λb i=>Rv (hF b i) g.size) 6 (VS h g hF) (VS q g hF)) ?_;rintro u B ⟨o,m⟩
 obtain⟨uo,uc,rfl,x⟩:=r0 o;refine f7 (p.ext m) (λz j f=>?_);refine Uh ?_;exact e0 j ⟨rh o f hF e k g.size m.size,GJ (g.trans m) f e⟩
def nk(w:World)(d:B<=w.heap.size){t a:Ltl}(h:GL B w v t)(e:GL B w A a):Rt Vy 178 [v,A].toArray w λu w'=>GL B w' u (.mk 6 0 [t,a])/\Ext w w':=
 (nj w (F:=λb=>B<=b/\b<w.heap.size) (λb c=>c.2) h e).mono λu w' h=>⟨h.1.wk (VY d h.2),h.2⟩
def m9(w:World)(B:Nat)(k:Int):Rt Vy 185 [Ub k].toArray w λv w'=>GL B w' v (.mk 3 k []:Ltl)/\Ext w w':=by refine dR func185 ntmps185 rfl rfl (UZ ?_);refine eC (λg f d=>?_);refine UR ?_;refine r4 rfl rfl rfl rfl (f7 f (λe b a=>?_));have c:Ext w e:=d.grown a d.size TX;refine Uh ?_;exact e0 b ⟨VJ (kids:=[]) (v1 _ _),c⟩
def bX{n:Nat}{σ:Sg}{w0:World}{r i d:Nat}{t:Ltl}{rest:List (Nat×Bool)}{ty:TypeId}{g:Option (Nat×Bool)}{f:FuncId}{xs:List Operand}{vs:List Value}
  (c:C4 L i=some ⟨some d,.call ⟨.value (.func f),xs.toArray,I⟩,ty,H,j,g⟩) (e:gd L σ ⟨some d,.call ⟨.value (.func f),xs.toArray,I⟩,ty,H,j,g⟩=some true) (hd:ble (d+1) n=true) (b:pN σ xs=some vs) [hf:IsF P f]
  (k:Rt P f vs.toArray w λv w'=>GL B w' v t/\Ext w w') (a:Ext w0 w) (h:∀v y,GL B y v t->Ext w y->Ext w0 y->HL P L (λx=>SO r w0 x) Q rest n ((d,v)::σ) y):HL P L (λx=>SO r w0 x) Q ((i,false)::rest) n σ w:=
 cy c (WL.call e hd b k λv y hR=>p0 (a8 ((VH _ _).ext (a.trans hR.2)) (h v y hR.1 hR.2 (a.trans hR.2))))
def bY{n:Nat}{σ:Sg}{w0:World}{r i d:Nat}{t:Ltl}{rest:List (Nat×Bool)}{ty:TypeId}{g:Option (Nat×Bool)}{f:FuncId}{xs:List Operand}{vs:List Value}[hf:IsF P f](e:Rt P f vs.toArray w λv w'=>GL B w' v t/\Ext w w')(k:Ext w0 w)(h:∀v y,GL B y v t->Ext w y->Ext w0 y->HL P L (λx=>SO r w0 x) Q rest n ((d,v)::σ) y)(b:C4 L i=some ⟨some d,.call ⟨.value (.func f),xs.toArray,I⟩,ty,H,j,g⟩:=by exact rfl)(c:gd L σ ⟨some d,.call ⟨.value (.func f),xs.toArray,I⟩,ty,H,j,g⟩=some true:=by exact rfl)(hd:ble (d+1) n=true:=by exact rfl)(a:pN σ xs=some vs:=by exact rfl):HL P L (λx=>SO r w0 x) Q ((i,false)::rest) n σ w:=bX b c hd a e k h
def bZ{n:Nat}{σ:Sg}{w0:World}{r i d:Nat}{t:Ltl}{rest:List (Nat×Bool)}{ty:TypeId}{g:Option (Nat×Bool)}{x:Operand}{xs:List Operand}{vs:List Value}{fv:Value}
  (e:C4 L i=some ⟨some d,.call ⟨.value x,xs.toArray,I⟩,ty,H,j,g⟩) (f:gd L σ ⟨some d,.call ⟨.value x,xs.toArray,I⟩,ty,H,j,g⟩=some true) (hd:ble (d+1) n=true) (b:ev σ x=some fv) (c:pN σ xs=some vs)
  (k:FnV P fv vs w λv w'=>GL B w' v t/\Ext w w') (a:Ext w0 w) (h:∀v y,GL B y v t->Ext w y->Ext w0 y->HL P L (λx=>SO r w0 x) Q rest n ((d,v)::σ) y):HL P L (λx=>SO r w0 x) Q ((i,false)::rest) n σ w:=
 cy e (eL f hd b c k λv y hR=>p0 (a8 ((VH _ _).ext (a.trans hR.2)) (h v y hR.1 hR.2 (a.trans hR.2))))
def pL(n:Int):Ltl:=.mk 5 0 [.mk 3 n [],.mk 4 0 [.mk 3 63 []]]
def Bs(a:Int):Nat->Ltl
 |0=>.mk 10 0 [pL a]
 |n+1=>.mk 10 0 [.mk 5 0 [pL a,.mk 7 0 [Bs a n]]]
instance:IsC Vy 268 1 false:=VA TL underlying268 rfl
instance:IsZC Vy 268 [.nilFunc]:=v2 (z:=.nilFunc) TL rfl
def pM(w:World)(n:Int):Rt Vy 174 [Ub n].toArray w (bT w (pL n)):=by
 refine dR func174 ntmps174 rfl rfl (UZ ?_);refine eC (λc b j=>?_);have r:=b.lt;have a:c.heap.size<=c.heap.size:=by omega
 have d:=j;refine UR ?_;refine eK (m9 c c.heap.size n) ?_;rintro y m ⟨g4,h⟩;have b:=b.ext h;have d:=d.trans h;have a:c.heap.size<=m.heap.size:=Rr a h.size;refine eK (m9 m c.heap.size 63) ?_;rintro x l ⟨g5,f⟩;have g4:=g4.ext f;have b:=b.ext f;have d:=d.trans f;have a:c.heap.size<=l.heap.size:=Rr a f.size;refine eK (nf l a g5) ?_;rintro v k ⟨t,e⟩;have g4:=g4.ext e;have b:=b.ext e;have d:=d.trans e;have a:c.heap.size<=k.heap.size:=Rr a e.size;refine eK (m8 k a g4 t) ?_;rintro u p ⟨o,g⟩;have b:=b.ext g;have d:=d.trans g;have a:c.heap.size<=p.heap.size:=Rr a g.size;obtain⟨uo,uc,rfl,s⟩:=r0 o;refine f7 b (λz q i=>?_);refine Uh ?_;exact e0 q ⟨(o.st i TK).low TK,GJ d i TK⟩
def Bw(a:Int):∀(n:Nat),n<=10->∀(w:World),Rt Vy 183 [Ub a,Ub ((n+1:Nat):Int)].toArray w (bT w (Bs a n)):=by
 intro n;induction n with
 |zero=>
  intro _ w;refine dS func183 ntmps183 rfl rfl (UZ ?_);refine eC (λg c k=>?_);have t:=c.lt;refine UY ?_;have b:g.heap.size<=g.heap.size:=by omega
  have d:=k;refine eK ((pM g a).low b) ?_;rintro L o ⟨J,f⟩;have c:=c.ext f;have d:=d.trans f;have b:g.heap.size<=o.heap.size:=Rr b f.size;refine eK (nr o b J) ?_;rintro K q ⟨C,e⟩;have c:=c.ext e;have d:=d.trans e;have b:g.heap.size<=q.heap.size:=Rr b e.size;obtain⟨uo,uc,rfl,u⟩:=r0 C;refine f7 c (λz s h=>?_);refine UX ?_;exact e0 s ⟨(C.st h TK).low TK,GJ d h TK⟩
 |succ n r=>
  intro hn w;have r:=r TK;refine dS func183 ntmps183 rfl rfl (UZ ?_);refine eC (λg c k=>?_);have t:=c.lt;refine UY ?_;have b:g.heap.size<=g.heap.size:=by omega
  have d:=k;refine eK ((pM g a).low b) ?_;rintro I o ⟨i,f⟩;have c:=c.ext f;have d:=d.trans f;have b:g.heap.size<=o.heap.size:=Rr b f.size;refine Ve ?_;rw[show((n+1+1:Nat):Int) -1=((n+1:Nat):Int) by omega];refine eK ((r o).low b) ?_;rintro H q ⟨y,e⟩;have i:=i.ext e;have c:=c.ext e;have d:=d.trans e;have b:g.heap.size<=q.heap.size:=Rr b e.size;refine eK (nh q b 7 y) ?_;rintro G B ⟨x,j⟩;have i:=i.ext j;have c:=c.ext j;have d:=d.trans j;have b:g.heap.size<=B.heap.size:=Rr b j.size;refine eK (m8 B b i x) ?_;rintro F A ⟨v,m⟩;have c:=c.ext m;have d:=d.trans m;have b:g.heap.size<=A.heap.size:=Rr b m.size;refine eK (nr A b v) ?_;rintro E D ⟨p,l⟩;have c:=c.ext l;have d:=d.trans l;have b:g.heap.size<=D.heap.size:=Rr b l.size;obtain⟨uo,uc,rfl,u⟩:=r0 p;refine f7 c (λz s h=>?_);refine Uh ?_;exact e0 s ⟨(p.st h TK).low TK,GJ d h TK⟩
def lG(p:Nat)(w:World){k A B c:Int}{j:Nat}(i:Blk w p 29 [Ub k,Ub A,Ub B,Ub c]):
  Rt Vy 173 [Uc p].toArray w (bT w (pL A))/\Rt Vy 175 [Uc p].toArray w (bT w (pL B)):=by
 have hlb:=i.lt;constructor
 .refine dR func173 ntmps173 rfl rfl ?_
  refine UZ ?_;refine eC (λf g e=>?_);have n:=g.lt;have i:=i.ext e;have a:f.heap.size<=f.heap.size:=by omega
  have h:=e;refine Uy ?_;refine eK ((pM f A).low a) ?_;rintro q l ⟨g4,b⟩
  have g:=g.ext b;have h:=h.trans b;have a:f.heap.size<=l.heap.size:=Rr a b.size;obtain⟨uo,uc,rfl,o⟩:=r0 g4;refine f7 g (λz m d=>?_);refine Uh ?_;exact e0 m ⟨(g4.st d TK).low TK,GJ h d TK⟩
 .refine dR func175 ntmps175 rfl rfl ?_
  refine UZ ?_;refine eC (λf g e=>?_);have n:=g.lt;have i:=i.ext e;have a:f.heap.size<=f.heap.size:=by omega
  have h:=e;refine Uy ?_;refine eK ((pM f B).low a) ?_;rintro q l ⟨g4,b⟩
  have g:=g.ext b;have h:=h.trans b;have a:f.heap.size<=l.heap.size:=Rr a b.size;obtain⟨uo,uc,rfl,o⟩:=r0 g4;refine f7 g (λz m d=>?_);refine Uh ?_;exact e0 m ⟨(g4.st d TK).low TK,GJ h d TK⟩
structure CloD(w:World)(pt pa pb:Nat)(A B:Int):Prop where
 t:∃k c,Blk w pt 29 [.int .i64 k,.int .i64 A,.int .i64 B,.int .i64 c]
 a:Blk w pa 268 [.func (.func 173) [].toArray [.pointer (some ⟨pt,0,none⟩)].toArray]
 b:Blk w pb 268 [.func (.func 175) [].toArray [.pointer (some ⟨pt,0,none⟩)].toArray]
def CloD.ext{w':World}{A B:Int}(h:CloD w a K E A B)(b:Ext w w'):CloD w' a K E A B:=by obtain⟨⟨k,c,h1⟩,h2,h3⟩:=h;exact⟨⟨k,c,h1.ext b⟩,h2.ext b,h3.ext b⟩
def CloD.runA{A B:Int}(h:CloD w a K E A B):FnV Vy (.func (.func 173) [].toArray [Uc a].toArray) [] w (bT w (pL A)):=by obtain⟨k,c,b⟩:=h.t;exact VE (cs:=[_]) ((lG a w (j:=0) b).1)
def CloD.runB{A B:Int}(h:CloD w a K E A B):FnV Vy (.func (.func 175) [].toArray [Uc a].toArray) [] w (bT w (pL B)):=by obtain⟨k,c,b⟩:=h.t;exact VE (cs:=[_]) ((lG a w (j:=0) b).2)
def GC(A B:Int):Ltl:=.mk 11 0 [.mk 6 0 [.mk 4 0 [pL A],.mk 10 0 [pL B]]]
def Fw(A B:Int):Ltl:=.mk 6 0 [.mk 8 0 [.mk 4 0 [pL B],pL A],.mk 11 0 [.mk 4 0 [pL B]]]
def lE(w:World){A B:Int}(d:CloD w a K E A B):Rt Vy 176 [Uc K,Uc E].toArray w (bT w (GC A B)):=by
 have G:=d.a.lt;have hlb:=d.b.lt;refine dS func176 ntmps176 rfl rfl (UZ ?_);refine eC (λc e j=>?_);have F:=e.lt;have d:=d.ext j;have n:=d.a;have m:=d.b;have ed:=mm c;have d:=d.ext ed;have e:=e.ext ed;have r:=e.lt;have n:=n.ext ed;have halt:=n.lt;have m:=m.ext ed;have i:=m.lt;have L:=j.trans ed;have J:∀x,(λx:World=>SO w.heap.size (drew c) x) x->x.heap[K]?=(drew c).heap[K]?:=λx l=>l.2 _ TK halt;have I:∀x,(λx:World=>SO w.heap.size (drew c) x) x->x.heap[E]?=(drew c).heap[E]?:=λx l=>l.2 _ TK i;refine UR ?_;refine aG (λx:World=>SO w.heap.size (drew c) x) [Wr 0,Wr 3,Ws 1,Ws 2,Ws 4,Ws 5,Ws 6,Ws 7,Ws 8] mixed TL (VH _ _) ?_;have o:c.heap.size<=(drew c).heap.size:=by have:=ed.size;omega
 have g:∀{y:World},Ext (drew c) y->c.heap.size<=y.heap.size:=λh=>Rr o h.size;have b:=p7 (drew c);refine Vk ?_;refine bZ (xs:=[]) (vs:=[]) rfl rfl rfl rfl rfl ((d.ext b).runA.low (g b)) b (λZ v g4 S b=>bY (nf v (g b) g4) b (λY U g5 R b=>?_));refine bZ (xs:=[]) (vs:=[]) rfl rfl rfl rfl rfl ((d.ext b).runB.low (g b)) b (λX u O q b=>?_);have g5:=g5.ext q;refine bY (nr u (g b) O) b (λW t N p b=>?_);have g5:=g5.ext p;refine bY (nk t (g b) g5 N) b (λV s M Q b=>?_);refine bY (mZ s (g b) M) b (λC T k P b=>?_);obtain⟨uo,uc,rfl,H⟩:=r0 k;have e:=e.ext b;refine cy rfl (f7 e (λz D f=>p0 (a8 (((VH _ _).ext b).st f) (VK (UQ ?_)))));exact e0 D ⟨(k.st f TK).low TK,GJ (L.trans b) f TK⟩
def lF(w:World){A B:Int}(d:CloD w a K E A B):Rt Vy 181 [Uc E,Uc K].toArray w (bT w (Fw A B)):=by
 have R:=d.a.lt;have hlb:=d.b.lt;refine dS func181 ntmps181 rfl rfl (UZ ?_);refine eC (λc f k=>?_);have Q:=f.lt;have d:=d.ext k;have o:=d.a;have n:=d.b;have ed:=mm c;have d:=d.ext ed;have f:=f.ext ed;have D:=f.lt;have o:=o.ext ed;have halt:=o.lt;have n:=n.ext ed;have j:=n.lt;have V:=k.trans ed;have U:∀x,(λx:World=>SO w.heap.size (drew c) x) x->x.heap[K]?=(drew c).heap[K]?:=λx m=>m.2 _ TK halt;have T:∀x,(λx:World=>SO w.heap.size (drew c) x) x->x.heap[E]?=(drew c).heap[E]?:=λx m=>m.2 _ TK j;refine UR ?_;refine aG (λx:World=>SO w.heap.size (drew c) x) [Wr 0,Wr 3,Wr 6,Ws 1,Ws 2,Ws 4,Ws 5,Ws 7,Ws 8,Ws 9,Ws 10,Ws 11] mixed TL (VH _ _) ?_;have p:c.heap.size<=(drew c).heap.size:=by have:=ed.size;omega
 have e:∀{y:World},Ext (drew c) y->c.heap.size<=y.heap.size:=λh=>Rr p h.size;have b:=p7 (drew c);refine Vk ?_;refine bZ (xs:=[]) (vs:=[]) rfl rfl rfl rfl rfl ((d.ext b).runB.low (e b)) b (λv4 J g4 ey1 b=>bY (nf J (e b) g4) b (λv5 y2 g5 Z b=>?_));refine bZ (xs:=[]) (vs:=[]) rfl rfl rfl rfl rfl ((d.ext b).runA.low (e b)) b (λv7 I W C b=>?_);have g5:=g5.ext C;refine bY (nu I (e b) 8 g5 W) b (λv8 y4 i Y b=>?_);refine bZ (xs:=[]) (vs:=[]) rfl rfl rfl rfl rfl ((d.ext b).runB.low (e b)) b (λO H s v b=>?_);have i:=i.ext v;refine bY (nf H (e b) s) b (λN G r u b=>?_);have i:=i.ext u;refine bY (mZ G (e b) r) b (λM F q t b=>?_);have i:=i.ext t;refine bY (nk F (e b) i q) b (λL y8 l X b=>?_);obtain⟨uo,uc,rfl,S⟩:=r0 l;have f:=f.ext b;refine cy rfl (f7 f (λz P g=>p0 (a8 (((VH _ _).ext b).st g) (VK (UQ ?_)))));exact e0 P ⟨(l.st g TK).low TK,GJ (V.trans b) g TK⟩
def nD(k A B c:Int):Ltl:=
 if k=1 then Bs A (c.toNat -1)
 else if k=2 then .mk 4 0 [Bs A (c.toNat -1)]
 else if k=3 then .mk 5 0 [Bs A (c.toNat -1),.mk 4 0 [Bs A c.toNat]]
 else if k=4 then(Ltl.mk 6 0 [(Ltl.mk 8 0 [(Ltl.mk 3 63 []),(pL A)]),(Ltl.mk 11 0 [(Ltl.mk 3 63 [])])])
 else if k=5 then(Ltl.mk 6 0 [(Ltl.mk 10 0 [(pL A)]),(Ltl.mk 10 0 [(pL B)])])
 else if k=6 then(Ltl.mk 6 0 [(Ltl.mk 4 0 [(Ltl.mk 10 0 [(pL A)])]),(Ltl.mk 10 0 [(pL B)])])
 else if k=7 then(Ltl.mk 5 0 [(Ltl.mk 6 0 [(Ltl.mk 4 0 [(Ltl.mk 10 0 [(pL A)])]),(Ltl.mk 10 0 [(pL B)])]),(Ltl.mk 6 0 [(Ltl.mk 4 0 [(Ltl.mk 10 0 [(pL B)])]),(Ltl.mk 10 0 [(pL A)])])])
 else if k=13 then(Ltl.mk 4 0 [(Ltl.mk 5 0 [(Ltl.mk 10 0 [(pL A)]),(Ltl.mk 10 0 [(pL B)])])])
 else if k=8 then(GC A B)
 else if k=9 then(Fw A B)
 else if k=10 then(Ltl.mk 5 0 [(GC A B),(Fw A B)])
 else if k=11 then(Ltl.mk 11 0 [(Ltl.mk 6 0 [(Ltl.mk 4 0 [(pL A)]),(Ltl.mk 7 0 [(Ltl.mk 8 0 [(Ltl.mk 4 0 [(pL A)]),(pL B)])])])])
 else if k=12 then(Ltl.mk 11 0 [(Ltl.mk 6 0 [(Ltl.mk 4 0 [(pL A)]),(Ltl.mk 7 0 [(Ltl.mk 8 0 [(Ltl.mk 3 63 []),(pL B)])])])])
 else(Ltl.mk 11 0 [(Ltl.mk 6 0 [(Ltl.mk 4 0 [(pL A)]),(Ltl.mk 4 0 [(Ltl.mk 7 0 [(Ltl.mk 10 0 [(pL B)])])])])])
def mU(w:World)(k A B c:Int)(hc:1<=k/\k<=3->1<=c/\c<=3):Rt Vy 107 [.agg [Ub k,Ub A,Ub B,Ub c].toArray].toArray w (bT w (nD k A B c)):=by
 refine dR func107 ntmps107 rfl rfl (UZ ?_);refine eH λu p hE1=>?_;have hl0:=p.lt;refine eC (λN g W=>?_);have hl1:=g.lt;have p:=p.ext W;have W:=hE1.trans W;have hz1:=hE1.size;refine Um ?_;refine eC (λw3 q hE3=>?_);refine f7 q (λM q hg4=>?_);have e4:Ext N M:=hE3.grown hg4 hE3.size TX;have hl2:=q.lt;have p:=p.ext e4;have g:=g.ext e4;have hE4:=W.trans e4;refine Um ?_;refine eC (λw5 r hE5=>?_);refine f7 r (λb r hg6=>?_);have e6:Ext M b:=hE5.grown hg6 hE5.size TX;have hl4:=r.lt;have p:=p.ext e6;have g:=g.ext e6;have q:=q.ext e6;have D:=hE4.trans e6;have hz2:=W.size;have hz4:=e4.size;have hz6:=e6.size;have j:CloD b w.heap.size N.heap.size M.heap.size A B:=⟨⟨k,c,p⟩,q,r⟩;clear hE1 W hE3 hE4 hE5 hg4 hg6 e4 e6;unfold nD;by_cases h1:k=1
 .subst h1;obtain⟨c',rfl⟩:∃c':Nat,c=((c'+1:Nat):Int):=⟨(c -1).toNat,by omega⟩;have hc':c'<=2:=by omega
  rw[show(((c'+1:Nat):Int)).toNat -1=c' by omega];refine UO ?_;have f:b.heap.size<=b.heap.size:=by omega
  have t:=D;refine eK ((Bw A c' TK b).low f) ?_;rintro v19 H ⟨g19,e⟩;have j:=j.ext e;have g:=g.ext e;have p:=p.ext e;have q:=q.ext e;have r:=r.ext e;have t:=t.trans e;have f:b.heap.size<=H.heap.size:=Rr f e.size;obtain⟨uo,uc,rfl,J⟩:=r0 g19;refine f7 g (λz I d=>?_);refine UX ?_;exact e0 I ⟨(g19.st d TK).low TK,GJ t d TK⟩
 by_cases h2:k=2
 .subst h2;obtain⟨c',rfl⟩:∃c':Nat,c=((c'+1:Nat):Int):=⟨(c -1).toNat,by omega⟩;have hc':c'<=2:=by omega
  rw[show(((c'+1:Nat):Int)).toNat -1=c' by omega];refine UO ?_;have f:b.heap.size<=b.heap.size:=by omega
  have t:=D;refine eK ((Bw A c' TK b).low f) ?_;rintro v26 H ⟨g26,e⟩;have j:=j.ext e;have g:=g.ext e;have p:=p.ext e;have q:=q.ext e;have r:=r.ext e;have t:=t.trans e;have f:b.heap.size<=H.heap.size:=Rr f e.size;refine eK (nf H f g26) ?_;rintro v27 P ⟨g27,l⟩;have j:=j.ext l;have g:=g.ext l;have p:=p.ext l;have q:=q.ext l;have r:=r.ext l;have t:=t.trans l;have f:b.heap.size<=P.heap.size:=Rr f l.size;obtain⟨uo,uc,rfl,J⟩:=r0 g27;refine f7 g (λz I d=>?_);refine UX ?_;exact e0 I ⟨(g27.st d TK).low TK,GJ t d TK⟩
 by_cases h3:k=3
 .subst h3;obtain⟨c',rfl⟩:∃c':Nat,c=((c'+1:Nat):Int):=⟨(c -1).toNat,by omega⟩;have hc':c'<=2:=by omega
  rw[show(((c'+1:Nat):Int)).toNat -1=c' by omega];rw[show(((c'+1:Nat):Int)).toNat=c'+1 by omega];refine UO ?_;have ed:=mm b;have j:=j.ext ed;have g:=g.ext ed;have L:=g.lt;have p:=p.ext ed;have n:=p.lt;have q:=q.ext ed;have halt:=q.lt;have r:=r.ext ed;have o:=r.lt;have t:=D.trans ed;have Q:∀x,(λx:World=>SO u.heap.size (drew b) x) x->x.heap[w.heap.size]?=(drew b).heap[w.heap.size]?:=λx m=>m.2 _ TK n;have S:∀x,(λx:World=>SO u.heap.size (drew b) x) x->x.heap[N.heap.size]?=(drew b).heap[N.heap.size]?:=λx m=>m.2 _ TK halt;have R:∀x,(λx:World=>SO u.heap.size (drew b) x) x->x.heap[M.heap.size]?=(drew b).heap[M.heap.size]?:=λx m=>m.2 _ TK o;refine aG (λx:World=>SO u.heap.size (drew b) x) [Wr 0,Wr 1,Wr 2,Wr 3,Wr 5,Wr 6,Wr 7,Wr 8,Wr 9,Ws 4,Ws 10,Ws 11,Ws 12,Ws 13] mixed TL (VH _ _) ?_;have f:b.heap.size<=(drew b).heap.size:=by have:=ed.size;omega
  have i:∀{y:World},Ext (drew b) y->b.heap.size<=y.heap.size:=λh=>Rr f h.size;have a:=p7 (drew b);refine Vn ?_;refine bY ((Bw A c' TK (drew b)).low (i a)) a (λv34 H g34 e a=>?_);refine bY ((Bw A (c'+1) TK H).low (i a)) a (λv40 P g40 l a=>?_);have g34:=g34.ext l;refine bY (nf P (i a) g40) a (λv41 T g41 s a=>?_);have g34:=g34.ext s;refine bY (m8 T (i a) g34 g41) a (λv42 U g42 C a=>?_);obtain⟨uo,uc,rfl,J⟩:=r0 g42;have g:=g.ext a;refine cy rfl (f7 g (λz I d=>p0 (a8 (((VH _ _).ext a).st d) (VK (Uk ?_)))));exact e0 I ⟨(g42.st d TK).low TK,GJ (t.trans a) d TK⟩
 by_cases h4:k=4
 .subst h4;refine UO ?_;have ed:=mm b;have j:=j.ext ed;have g:=g.ext ed;have L:=g.lt;have p:=p.ext ed;have n:=p.lt;have q:=q.ext ed;have halt:=q.lt;have r:=r.ext ed;have o:=r.lt;have t:=D.trans ed;have Q:∀x,(λx:World=>SO u.heap.size (drew b) x) x->x.heap[w.heap.size]?=(drew b).heap[w.heap.size]?:=λx m=>m.2 _ TK n;have S:∀x,(λx:World=>SO u.heap.size (drew b) x) x->x.heap[N.heap.size]?=(drew b).heap[N.heap.size]?:=λx m=>m.2 _ TK halt;have R:∀x,(λx:World=>SO u.heap.size (drew b) x) x->x.heap[M.heap.size]?=(drew b).heap[M.heap.size]?:=λx m=>m.2 _ TK o;refine aG (λx:World=>SO u.heap.size (drew b) x) [Wr 1,Ws 0,Ws 2,Ws 3,Ws 4,Ws 5,Ws 6,Ws 7] mixed TL (VH _ _) ?_;have f:b.heap.size<=(drew b).heap.size:=by have:=ed.size;omega
  have i:∀{y:World},Ext (drew b) y->b.heap.size<=y.heap.size:=λh=>Rr f h.size;have a:=p7 (drew b);refine Vk ?_;refine bY (m9 (drew b) b.heap.size 63) a (λv45 H g45 e a=>?_);refine bZ (xs:=[]) (vs:=[]) rfl rfl rfl rfl rfl ((j.ext a).runA.low (i a)) a (λv47 P g47 l a=>?_);have g45:=g45.ext l;refine bY (nu P (i a) 8 g45 g47) a (λv48 T g48 s a=>?_);refine bY (m9 T b.heap.size 63) a (λv49 U g49 C a=>?_);have g48:=g48.ext C;refine bY (mZ U (i a) g49) a (λv50 V g50 G a=>?_);have g48:=g48.ext G;refine bY (nk V (i a) g48 g50) a (λv51 y6 g51 O a=>?_);obtain⟨uo,uc,rfl,J⟩:=r0 g51;have g:=g.ext a;refine cy rfl (f7 g (λz I d=>p0 (a8 (((VH _ _).ext a).st d) (VK (Uk ?_)))));exact e0 I ⟨(g51.st d TK).low TK,GJ (t.trans a) d TK⟩
 by_cases h5:k=5
 .subst h5;refine UO ?_;have ed:=mm b;have j:=j.ext ed;have g:=g.ext ed;have L:=g.lt;have p:=p.ext ed;have n:=p.lt;have q:=q.ext ed;have halt:=q.lt;have r:=r.ext ed;have o:=r.lt;have t:=D.trans ed;have Q:∀x,(λx:World=>SO u.heap.size (drew b) x) x->x.heap[w.heap.size]?=(drew b).heap[w.heap.size]?:=λx m=>m.2 _ TK n;have S:∀x,(λx:World=>SO u.heap.size (drew b) x) x->x.heap[N.heap.size]?=(drew b).heap[N.heap.size]?:=λx m=>m.2 _ TK halt;have R:∀x,(λx:World=>SO u.heap.size (drew b) x) x->x.heap[M.heap.size]?=(drew b).heap[M.heap.size]?:=λx m=>m.2 _ TK o;refine aG (λx:World=>SO u.heap.size (drew b) x) [Wr 0,Wr 3,Ws 1,Ws 2,Ws 4,Ws 5,Ws 6,Ws 7] mixed TL (VH _ _) ?_;have f:b.heap.size<=(drew b).heap.size:=by have:=ed.size;omega
  have i:∀{y:World},Ext (drew b) y->b.heap.size<=y.heap.size:=λh=>Rr f h.size;have a:=p7 (drew b);refine Vk ?_;refine bZ (xs:=[]) (vs:=[]) rfl rfl rfl rfl rfl ((j.ext a).runA.low (i a)) a (λv55 H g55 e a=>bY (nr H (i a) g55) a (λv56 P g56 l a=>?_));refine bZ (xs:=[]) (vs:=[]) rfl rfl rfl rfl rfl ((j.ext a).runB.low (i a)) a (λv58 T g58 s a=>?_);have g56:=g56.ext s;refine bY (nr T (i a) g58) a (λv59 U g59 C a=>?_);have g56:=g56.ext C;refine bY (nk U (i a) g56 g59) a (λv60 V g60 G a=>?_);obtain⟨uo,uc,rfl,J⟩:=r0 g60;have g:=g.ext a;refine cy rfl (f7 g (λz I d=>p0 (a8 (((VH _ _).ext a).st d) (VK (Uk ?_)))));exact e0 I ⟨(g60.st d TK).low TK,GJ (t.trans a) d TK⟩
 by_cases h6:k=6
 .subst h6;refine UO ?_;have ed:=mm b;have j:=j.ext ed;have g:=g.ext ed;have L:=g.lt;have p:=p.ext ed;have n:=p.lt;have q:=q.ext ed;have halt:=q.lt;have r:=r.ext ed;have o:=r.lt;have t:=D.trans ed;have Q:∀x,(λx:World=>SO u.heap.size (drew b) x) x->x.heap[w.heap.size]?=(drew b).heap[w.heap.size]?:=λx m=>m.2 _ TK n;have S:∀x,(λx:World=>SO u.heap.size (drew b) x) x->x.heap[N.heap.size]?=(drew b).heap[N.heap.size]?:=λx m=>m.2 _ TK halt;have R:∀x,(λx:World=>SO u.heap.size (drew b) x) x->x.heap[M.heap.size]?=(drew b).heap[M.heap.size]?:=λx m=>m.2 _ TK o;refine aG (λx:World=>SO u.heap.size (drew b) x) [Wr 0,Wr 4,Ws 1,Ws 2,Ws 3,Ws 5,Ws 6,Ws 7,Ws 8] mixed TL (VH _ _) ?_;have f:b.heap.size<=(drew b).heap.size:=by have:=ed.size;omega
  have i:∀{y:World},Ext (drew b) y->b.heap.size<=y.heap.size:=λh=>Rr f h.size;have a:=p7 (drew b);refine Vk ?_;refine bZ (xs:=[]) (vs:=[]) rfl rfl rfl rfl rfl ((j.ext a).runA.low (i a)) a (λv64 H g64 e a=>bY (nr H (i a) g64) a (λv65 P g65 l a=>?_));refine bY (nf P (i a) g65) a (λv66 T g66 s a=>?_);refine bZ (xs:=[]) (vs:=[]) rfl rfl rfl rfl rfl ((j.ext a).runB.low (i a)) a (λv68 U g68 C a=>?_);have g66:=g66.ext C;refine bY (nr U (i a) g68) a (λv69 V g69 G a=>?_);have g66:=g66.ext G;refine bY (nk V (i a) g66 g69) a (λv70 y6 g70 O a=>?_);obtain⟨uo,uc,rfl,J⟩:=r0 g70;have g:=g.ext a;refine cy rfl (f7 g (λz I d=>p0 (a8 (((VH _ _).ext a).st d) (VK (Uk ?_)))));exact e0 I ⟨(g70.st d TK).low TK,GJ (t.trans a) d TK⟩
 by_cases h7:k=7
 .subst h7;refine UO ?_;have ed:=mm b;have j:=j.ext ed;have g:=g.ext ed;have L:=g.lt;have p:=p.ext ed;have n:=p.lt;have q:=q.ext ed;have halt:=q.lt;have r:=r.ext ed;have o:=r.lt;have t:=D.trans ed;have Q:∀x,(λx:World=>SO u.heap.size (drew b) x) x->x.heap[w.heap.size]?=(drew b).heap[w.heap.size]?:=λx m=>m.2 _ TK n;have S:∀x,(λx:World=>SO u.heap.size (drew b) x) x->x.heap[N.heap.size]?=(drew b).heap[N.heap.size]?:=λx m=>m.2 _ TK halt;have R:∀x,(λx:World=>SO u.heap.size (drew b) x) x->x.heap[M.heap.size]?=(drew b).heap[M.heap.size]?:=λx m=>m.2 _ TK o;refine aG (λx:World=>SO u.heap.size (drew b) x) [Wr 0,Wr 4,Wr 8,Wr 12,Ws 1,Ws 2,Ws 3,Ws 5,Ws 6,Ws 7,Ws 9,Ws 10,Ws 11,Ws 13,Ws 14,Ws 15,Ws 16,Ws 17] mixed TL (VH _ _) ?_;have f:b.heap.size<=(drew b).heap.size:=by have:=ed.size;omega
  have i:∀{y:World},Ext (drew b) y->b.heap.size<=y.heap.size:=λh=>Rr f h.size;have a:=p7 (drew b);refine Vk ?_;refine bZ (xs:=[]) (vs:=[]) rfl rfl rfl rfl rfl ((j.ext a).runA.low (i a)) a (λv74 H g74 e a=>bY (nr H (i a) g74) a (λv75 P g75 l a=>?_));refine bY (nf P (i a) g75) a (λv76 T Z s a=>?_);refine bZ (xs:=[]) (vs:=[]) rfl rfl rfl rfl rfl ((j.ext a).runB.low (i a)) a (λv78 U g78 C a=>?_);have Z:=Z.ext C;refine bY (nr U (i a) g78) a (λv79 V g79 G a=>?_);have Z:=Z.ext G;refine bY (nk V (i a) Z g79) a (λv80 y6 K O a=>?_);refine bZ (xs:=[]) (vs:=[]) rfl rfl rfl rfl rfl ((j.ext a).runB.low (i a)) a (λv82 y7 g82 ey7 a=>?_);have K:=K.ext ey7;refine bY (nr y7 (i a) g82) a (λv83 y8 g83 ey8 a=>?_);have K:=K.ext ey8;refine bY (nf y8 (i a) g83) a (λv84 y9 Y ey9 a=>?_);have K:=K.ext ey9;refine bZ (xs:=[]) (vs:=[]) rfl rfl rfl rfl rfl ((j.ext a).runA.low (i a)) a (λv86 y10 g86 ey10 a=>?_);have K:=K.ext ey10;have Y:=Y.ext ey10;refine bY (nr y10 (i a) g86) a (λv87 y11 g87 ey11 a=>?_);have K:=K.ext ey11;have Y:=Y.ext ey11;refine bY (nk y11 (i a) Y g87) a (λv88 y12 g88 ey12 a=>?_);have K:=K.ext ey12;refine bY (m8 y12 (i a) K g88) a (λv89 y13 g89 ey13 a=>?_);obtain⟨uo,uc,rfl,J⟩:=r0 g89;have g:=g.ext a;refine cy rfl (f7 g (λz I d=>p0 (a8 (((VH _ _).ext a).st d) (VK (Uk ?_)))));exact e0 I ⟨(g89.st d TK).low TK,GJ (t.trans a) d TK⟩
 by_cases h13:k=13
 .subst h13;refine UO ?_;have ed:=mm b;have j:=j.ext ed;have g:=g.ext ed;have L:=g.lt;have p:=p.ext ed;have n:=p.lt;have q:=q.ext ed;have halt:=q.lt;have r:=r.ext ed;have o:=r.lt;have t:=D.trans ed;have Q:∀x,(λx:World=>SO u.heap.size (drew b) x) x->x.heap[w.heap.size]?=(drew b).heap[w.heap.size]?:=λx m=>m.2 _ TK n;have S:∀x,(λx:World=>SO u.heap.size (drew b) x) x->x.heap[N.heap.size]?=(drew b).heap[N.heap.size]?:=λx m=>m.2 _ TK halt;have R:∀x,(λx:World=>SO u.heap.size (drew b) x) x->x.heap[M.heap.size]?=(drew b).heap[M.heap.size]?:=λx m=>m.2 _ TK o;refine aG (λx:World=>SO u.heap.size (drew b) x) [Wr 0,Wr 3,Ws 1,Ws 2,Ws 4,Ws 5,Ws 6,Ws 7,Ws 8] mixed TL (VH _ _) ?_;have f:b.heap.size<=(drew b).heap.size:=by have:=ed.size;omega
  have i:∀{y:World},Ext (drew b) y->b.heap.size<=y.heap.size:=λh=>Rr f h.size;have a:=p7 (drew b);refine Vk ?_;refine bZ (xs:=[]) (vs:=[]) rfl rfl rfl rfl rfl ((j.ext a).runA.low (i a)) a (λv93 H g93 e a=>bY (nr H (i a) g93) a (λv94 P X l a=>?_));refine bZ (xs:=[]) (vs:=[]) rfl rfl rfl rfl rfl ((j.ext a).runB.low (i a)) a (λv96 T g96 s a=>?_);have X:=X.ext s;refine bY (nr T (i a) g96) a (λv97 U g97 C a=>?_);have X:=X.ext C;refine bY (m8 U (i a) X g97) a (λv98 V g98 G a=>?_);refine bY (nf V (i a) g98) a (λv99 y6 g99 O a=>?_);obtain⟨uo,uc,rfl,J⟩:=r0 g99;have g:=g.ext a;refine cy rfl (f7 g (λz I d=>p0 (a8 (((VH _ _).ext a).st d) (VK (Uk ?_)))));exact e0 I ⟨(g99.st d TK).low TK,GJ (t.trans a) d TK⟩
 by_cases h8:k=8
 .subst h8;refine UO ?_;have f:b.heap.size<=b.heap.size:=by omega
  have t:=D;refine eL (xs:=[]) (vs:=[]) rfl rfl rfl rfl (FnV.low (VE (cs:=[_,_]) (lE b j)) f) ?_;rintro v103 H ⟨g103,e⟩;have j:=j.ext e;have g:=g.ext e;have p:=p.ext e;have q:=q.ext e;have r:=r.ext e;have t:=t.trans e;have f:b.heap.size<=H.heap.size:=Rr f e.size;obtain⟨uo,uc,rfl,J⟩:=r0 g103;refine f7 g (λz I d=>?_);refine UX ?_;exact e0 I ⟨(g103.st d TK).low TK,GJ t d TK⟩
 by_cases h9:k=9
 .subst h9;refine UO ?_;have f:b.heap.size<=b.heap.size:=by omega
  have t:=D;refine eL (xs:=[]) (vs:=[]) rfl rfl rfl rfl (FnV.low (VE (cs:=[_,_]) (lF b j)) f) ?_;rintro v107 H ⟨g107,e⟩;have j:=j.ext e;have g:=g.ext e;have p:=p.ext e;have q:=q.ext e;have r:=r.ext e;have t:=t.trans e;have f:b.heap.size<=H.heap.size:=Rr f e.size;obtain⟨uo,uc,rfl,J⟩:=r0 g107;refine f7 g (λz I d=>?_);refine UX ?_;exact e0 I ⟨(g107.st d TK).low TK,GJ t d TK⟩
 by_cases h10:k=10
 .subst h10;refine UO ?_;have f:b.heap.size<=b.heap.size:=by omega
  have t:=D;refine eL (xs:=[]) (vs:=[]) rfl rfl rfl rfl (FnV.low (VE (cs:=[_,_]) (lE b j)) f) ?_;rintro v111 H ⟨g111,e⟩;have j:=j.ext e;have g:=g.ext e;have p:=p.ext e;have q:=q.ext e;have r:=r.ext e;have t:=t.trans e;have f:b.heap.size<=H.heap.size:=Rr f e.size;refine U9 ?_;refine eL (xs:=[]) (vs:=[]) rfl rfl rfl rfl (FnV.low (VE (cs:=[_,_]) (lF H j)) f) ?_;rintro v113 P ⟨g113,l⟩;have j:=j.ext l;have g111:=g111.ext l;have g:=g.ext l;have p:=p.ext l;have q:=q.ext l;have r:=r.ext l;have t:=t.trans l;have f:b.heap.size<=P.heap.size:=Rr f l.size;refine eK (m8 P f g111 g113) ?_;rintro v114 T ⟨g114,s⟩;have j:=j.ext s;have g:=g.ext s;have p:=p.ext s;have q:=q.ext s;have r:=r.ext s;have t:=t.trans s;have f:b.heap.size<=T.heap.size:=Rr f s.size;obtain⟨uo,uc,rfl,J⟩:=r0 g114;refine f7 g (λz I d=>?_);refine UX ?_;exact e0 I ⟨(g114.st d TK).low TK,GJ t d TK⟩
 by_cases h11:k=11
 .subst h11;refine UO ?_;have ed:=mm b;have j:=j.ext ed;have g:=g.ext ed;have L:=g.lt;have p:=p.ext ed;have n:=p.lt;have q:=q.ext ed;have halt:=q.lt;have r:=r.ext ed;have o:=r.lt;have t:=D.trans ed;have Q:∀x,(λx:World=>SO u.heap.size (drew b) x) x->x.heap[w.heap.size]?=(drew b).heap[w.heap.size]?:=λx m=>m.2 _ TK n;have S:∀x,(λx:World=>SO u.heap.size (drew b) x) x->x.heap[N.heap.size]?=(drew b).heap[N.heap.size]?:=λx m=>m.2 _ TK halt;have R:∀x,(λx:World=>SO u.heap.size (drew b) x) x->x.heap[M.heap.size]?=(drew b).heap[M.heap.size]?:=λx m=>m.2 _ TK o;refine aG (λx:World=>SO u.heap.size (drew b) x) [Wr 0,Wr 3,Wr 6,Ws 1,Ws 2,Ws 4,Ws 5,Ws 7,Ws 8,Ws 9,Ws 10,Ws 11,Ws 12] mixed TL (VH _ _) ?_;have f:b.heap.size<=(drew b).heap.size:=by have:=ed.size;omega
  have i:∀{y:World},Ext (drew b) y->b.heap.size<=y.heap.size:=λh=>Rr f h.size;have a:=p7 (drew b);refine Vk ?_;refine bZ (xs:=[]) (vs:=[]) rfl rfl rfl rfl rfl ((j.ext a).runA.low (i a)) a (λv118 H g118 e a=>bY (nf H (i a) g118) a (λv119 P v l a=>?_));refine bZ (xs:=[]) (vs:=[]) rfl rfl rfl rfl rfl ((j.ext a).runA.low (i a)) a (λv121 T g121 s a=>?_);have v:=v.ext s;refine bY (nf T (i a) g121) a (λv122 U g122 C a=>?_);have v:=v.ext C;refine bZ (xs:=[]) (vs:=[]) rfl rfl rfl rfl rfl ((j.ext a).runB.low (i a)) a (λv124 V g124 G a=>?_);have v:=v.ext G;have g122:=g122.ext G;refine bY (nu V (i a) 8 g122 g124) a (λv125 y6 g125 O a=>?_);have v:=v.ext O;refine bY (nh y6 (i a) 7 g125) a (λv126 y7 g126 ey7 a=>?_);have v:=v.ext ey7;refine bY (nk y7 (i a) v g126) a (λv127 y8 g127 ey8 a=>?_);refine bY (mZ y8 (i a) g127) a (λv128 y9 g128 ey9 a=>?_);obtain⟨uo,uc,rfl,J⟩:=r0 g128;have g:=g.ext a;refine cy rfl (f7 g (λz I d=>p0 (a8 (((VH _ _).ext a).st d) (VK (Uk ?_)))));exact e0 I ⟨(g128.st d TK).low TK,GJ (t.trans a) d TK⟩
 by_cases h12:k=12
 .subst h12;refine UO ?_;have ed:=mm b;have j:=j.ext ed;have g:=g.ext ed;have L:=g.lt;have p:=p.ext ed;have n:=p.lt;have q:=q.ext ed;have halt:=q.lt;have r:=r.ext ed;have o:=r.lt;have t:=D.trans ed;have Q:∀x,(λx:World=>SO u.heap.size (drew b) x) x->x.heap[w.heap.size]?=(drew b).heap[w.heap.size]?:=λx m=>m.2 _ TK n;have S:∀x,(λx:World=>SO u.heap.size (drew b) x) x->x.heap[N.heap.size]?=(drew b).heap[N.heap.size]?:=λx m=>m.2 _ TK halt;have R:∀x,(λx:World=>SO u.heap.size (drew b) x) x->x.heap[M.heap.size]?=(drew b).heap[M.heap.size]?:=λx m=>m.2 _ TK o;refine aG (λx:World=>SO u.heap.size (drew b) x) [Wr 0,Wr 4,Ws 1,Ws 2,Ws 3,Ws 5,Ws 6,Ws 7,Ws 8,Ws 9,Ws 10] mixed TL (VH _ _) ?_;have f:b.heap.size<=(drew b).heap.size:=by have:=ed.size;omega
  have i:∀{y:World},Ext (drew b) y->b.heap.size<=y.heap.size:=λh=>Rr f h.size;have a:=p7 (drew b);refine Vk ?_;refine bZ (xs:=[]) (vs:=[]) rfl rfl rfl rfl rfl ((j.ext a).runA.low (i a)) a (λv132 H g132 e a=>bY (nf H (i a) g132) a (λv133 P F l a=>?_));refine bY (m9 P b.heap.size 63) a (λv134 T g134 s a=>?_);have F:=F.ext s;refine bZ (xs:=[]) (vs:=[]) rfl rfl rfl rfl rfl ((j.ext a).runB.low (i a)) a (λv136 U g136 C a=>?_);have F:=F.ext C;have g134:=g134.ext C;refine bY (nu U (i a) 8 g134 g136) a (λv137 V g137 G a=>?_);have F:=F.ext G;refine bY (nh V (i a) 7 g137) a (λv138 y6 g138 O a=>?_);have F:=F.ext O;refine bY (nk y6 (i a) F g138) a (λv139 y7 g139 ey7 a=>?_);refine bY (mZ y7 (i a) g139) a (λv140 y8 g140 ey8 a=>?_);obtain⟨uo,uc,rfl,J⟩:=r0 g140;have g:=g.ext a;refine cy rfl (f7 g (λz I d=>p0 (a8 (((VH _ _).ext a).st d) (VK (Uk ?_)))));exact e0 I ⟨(g140.st d TK).low TK,GJ (t.trans a) d TK⟩
 have b1:(k==1)=false:=by simpa using h1
 rw[Tm h1];have b2:(k==2)=false:=by simpa using h2
 rw[Tm h2];have b3:(k==3)=false:=by simpa using h3
 rw[Tm h3];have b4:(k==4)=false:=by simpa using h4
 rw[Tm h4];have b5:(k==5)=false:=by simpa using h5
 rw[Tm h5];have b6:(k==6)=false:=by simpa using h6
 rw[Tm h6];have b7:(k==7)=false:=by simpa using h7
 rw[Tm h7];have b13:(k==13)=false:=by simpa using h13
 rw[Tm h13];have b8:(k==8)=false:=by simpa using h8
 rw[Tm h8];have b9:(k==9)=false:=by simpa using h9
 rw[Tm h9];have b10:(k==10)=false:=by simpa using h10
 rw[Tm h10];have b11:(k==11)=false:=by simpa using h11
 rw[Tm h11];have b12:(k==12)=false:=by simpa using h12
 rw[Tm h12];refine UO ?_;rw[b1];refine Ul ?_;rw[b2];refine Ul ?_;rw[b3];refine Ul ?_;rw[b4];refine Ul ?_;rw[b5];refine Ul ?_;rw[b6];refine Ul ?_;rw[b7];refine Ul ?_;rw[b13];refine Ul ?_;rw[b8];refine Ul ?_;rw[b9];refine Ul ?_;rw[b10];refine Ul ?_;rw[b11];refine Ul ?_;rw[b12];refine UW ?_;have ed:=mm b;have j:=j.ext ed;have g:=g.ext ed;have L:=g.lt;have p:=p.ext ed;have n:=p.lt;have q:=q.ext ed;have halt:=q.lt;have r:=r.ext ed;have o:=r.lt;have t:=D.trans ed;have Q:∀x,(λx:World=>SO u.heap.size (drew b) x) x->x.heap[w.heap.size]?=(drew b).heap[w.heap.size]?:=λx m=>m.2 _ TK n;have S:∀x,(λx:World=>SO u.heap.size (drew b) x) x->x.heap[N.heap.size]?=(drew b).heap[N.heap.size]?:=λx m=>m.2 _ TK halt;have R:∀x,(λx:World=>SO u.heap.size (drew b) x) x->x.heap[M.heap.size]?=(drew b).heap[M.heap.size]?:=λx m=>m.2 _ TK o;refine aG (λx:World=>SO u.heap.size (drew b) x) [Wr 0,Wr 3,Ws 1,Ws 2,Ws 4,Ws 5,Ws 6,Ws 7,Ws 8,Ws 9,Ws 10] mixed TL (VH _ _) ?_;have f:b.heap.size<=(drew b).heap.size:=by have:=ed.size;omega
 have i:∀{y:World},Ext (drew b) y->b.heap.size<=y.heap.size:=λh=>Rr f h.size;have a:=p7 (drew b);refine Vk ?_;refine bZ (xs:=[]) (vs:=[]) rfl rfl rfl rfl rfl ((j.ext a).runA.low (i a)) a (λv142 H g142 e a=>bY (nf H (i a) g142) a (λv143 P E l a=>?_));refine bZ (xs:=[]) (vs:=[]) rfl rfl rfl rfl rfl ((j.ext a).runB.low (i a)) a (λv145 T g145 s a=>?_);have E:=E.ext s;refine bY (nr T (i a) g145) a (λv146 U g146 C a=>?_);have E:=E.ext C;refine bY (nh U (i a) 7 g146) a (λv147 V g147 G a=>?_);have E:=E.ext G;refine bY (nf V (i a) g147) a (λv148 y6 g148 O a=>?_);have E:=E.ext O;refine bY (nk y6 (i a) E g148) a (λv149 y7 g149 ey7 a=>?_);refine bY (mZ y7 (i a) g149) a (λv150 y8 g150 ey8 a=>?_);obtain⟨uo,uc,rfl,J⟩:=r0 g150;have g:=g.ext a;refine cy rfl (f7 g (λz I d=>p0 (a8 (((VH _ _).ext a).st d) (VK (UQ ?_)))));exact e0 I ⟨(g150.st d TK).low TK,GJ (t.trans a) d TK⟩

section
variable {w w0:World}{F:Nat->Prop}{ao:Option Addr}{cap:Nat}{xs:List (Bool×Bool)}
end
section
variable {w w0:World}{F:Nat->Prop}{ao:Option Addr}{cap:Nat}{xs:List (Bool×Bool)}
end

abbrev mT(t:cQ):Ltl:=nD t.1 t.2.1 t.2.2.1 t.2.2.2
def mW(t:cQ):Ltl×Int:=if k8 t≠0 then(.mk 0 0 [],k8 t)else if(kD (mT t) 1 0).1≠0 then(.mk 0 0 [],(kD (mT t) 1 0).1)else(mT t,0)
def k9{t:cQ}(a:k8 t=0):1<=t.1/\t.1<=3->1<=t.2.2.2/\t.2.2.2<=3:=by
 unfold k8 mq at a;split at a
 .cases a
 .rename_i h1;split at a
  .cases a
  .rename_i h2;simp at h1 h2;omega
def mX(w:World)(t:cQ):
  Rt Vy 57 [K1 t].toArray w λu w'=>∃x,u=.tuple ⟨[x,Ub (mW t).2]⟩/\GL w.heap.size w' x (mW t).1/\Ext w w':=by
 refine dR func57 ntmps57 rfl rfl (UZ ?_);refine eH λw1 r m=>?_;refine eC (λO K g=>?_);have r:=r.ext g;have l:=m.trans g;refine UD ?_;refine eK (nE O t) ?_;rintro _ N ⟨rfl,p⟩;have W:=r.ext p;have k:=K.ext p;have f:=l.trans p;have V:=m.size;have U:=g.size;have X:=K.lt;have T:=p.size;refine UR ?_;unfold mW;apply ld rfl<;>intro h
 .have h:k8 t≠0:=by simpa using h
  rw[Tn h];refine UZ ?_;refine r4 (parts:=[]) rfl rfl rfl rfl (U9 ?_);refine f7 k (λI y B=>?_);refine UX ?_;exact fG y ⟨_,rfl,VJ (kids:=[]) (v1 _ _),f.grown B f.size TZ⟩
 .have h:k8 t=0:=by simpa using h
  rw[Tm (by simp[h])];refine Uo ?_;refine eK (mU N t.1 t.2.1 t.2.2.1 t.2.2.2 (k9 h)) ?_;rintro v I ⟨J,L⟩;have S:=L.size;refine eC (λw5 D G=>?_);have R:=G.size;obtain⟨uo,uc,rfl,_⟩:=r0 J;refine f7 D (λH C A=>?_);have F:Ext I H:=G.grown A G.size TX;have i:=J.ext F;obtain⟨uo',uc',d,z⟩:=r0 i;obtain⟨rfl,rfl⟩:uo'=uo/\uc'=uc:=by simp[Bi]at d;exact⟨d.1.symm,d.2.symm⟩
  have o:=L.trans F;have s:=k.ext o;have E:=f.trans o;have Q:=F.size;refine UD ?_;refine eK (Bg H z (λb Z=>Z.2)) ?_;rintro _ w7 ⟨rfl,n⟩;have j:=s.ext n;have Y:=C.ext n;have c:=E.trans n;have q:=i.ext n;have P:=n.size;refine UR ?_;apply ld rfl<;>intro h2
  .have h2:(kD (mT t) 1 0).1≠0:=by simpa using h2
   rw[Tn h2];refine UZ ?_;refine r4 (parts:=[]) rfl rfl rfl rfl (U9 ?_);refine f7 j (λM e a=>?_);refine UX ?_;exact fG e ⟨_,rfl,VJ (kids:=[]) (v1 _ _),c.grown a c.size TZ⟩
  .have h2:(kD (mT t) 1 0).1=0:=by simpa using h2
   rw[Tm (by simp[h2])];refine Uo ?_;refine f7 j (λM e a=>?_);refine Uf ?_;exact fG e ⟨_,rfl,(q.st a TK).low TK,c.grown a c.size TZ⟩
def sh(r:cN):Ltl×Int:=
 if r.2.1=1 then nN r.2.2.1 else if r.2.1=2 then mW r.2.2.2.1
 else if r.2.1=3 then(if(kD r.2.2.2.2.1 1 0).1≠0 then(.mk 0 0 [],(kD r.2.2.2.2.1 1 0).1)else(r.2.2.2.2.1,0))else(.mk 0 0 [],1)
end Go.Proofs.YtfpjecjadlgdcaaGreatDoor
