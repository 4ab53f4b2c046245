import Derived.Test.YtfpjecjadlgdcaaGreatDoorPtTopOrder3
set_option linter.unusedVariables false
set_option linter.unusedSimpArgs false
set_option linter.defProp false
namespace Go.Proofs.YtfpjecjadlgdcaaGreatDoor
set_option maxHeartbeats 4000000
variable{P:Program}{α:Type}{B a K E:Nat}{C D:Option Addr}{m:List Int}{F:Nat→Prop}{w:World}{v A:Value}{g:List (List Int)}{x:Int}{l:List Bool}{r:List Value}{t:TypeId}{Q:Exit→Act→World→Prop}{p:Nat→Nat}{e:Nat→Nat→Prop}{s:List Nat}{L:List Oper}{c:Value→World→Prop}{y:Array Bool}{S:World→Prop}{b:Value→(Nat→Nat)→World→Prop}{j:Array Edge}{o:Oper}{z:Func}{H:String}{u:Array Value}
open Go.RowKit
open _root_.Go.Proofs.Tryz
open List(range)
open List(replicate)
open Nat(ble)
open Nat(beq)
open Region(ready)
class IsM(P:Program)(t:TypeId)(k e:outParam TypeId):Prop where
 ok:P.underlying t=some (.map k e)
class IsKy(P:Program)(k:TypeId):Prop where
 ok:WideMaps.KeyLaw P k
theorem IsKy.of{k:TypeId}{d:TypeDesc}(h:laidOutB P=true){m:Nat}(f:ble (m+1) 10000=true)(a:ble (k+1) P.types.size=true)(i:P.keyTypeAt m k=true)(c:P.underlying k=some d)(hd:gx d=true):IsKy P k:=
 ⟨deep_law_laid h (Rm f) (Nat.lt_of_succ_le (Rm a)) i (by rw[c];cases d<;>first|rfl|(cases hd))⟩
class IsZ0(P:Program)(e:TypeId):Prop where
 ok:(P.info? e).map (λi=>i.zero)=some (some (.int .i64 0))
def KeyV(P:Program)(k:TypeId)(v:Value):Prop:=∃l,keyOf P k v=some l
def NumM(P:Program)(k:TypeId)(w:World)(b:Nat)(ks:List Value):Prop:=
 ∃(a:Array MapEntry) (clock:Nat),w.heap[b]?=some (.map a clock)/\a.toList.map (·.key)=ks/\(∀(i:Nat) (e:MapEntry),a.toList[i]?=some e->e.val=.int .i64 (i:Int))/\(∀x∈ks,KeyV P k x)/\ks.Nodup
section
variable {P:Program}{k:TypeId}{w w':World}{b:Nat}{ks:List Value}
theorem NumM.lt(h:NumM P k w b ks):b<w.heap.size:=by obtain⟨c,clock,a,_⟩:=h;exact(NB.1 a).1
theorem NumM.at(h:NumM P k w b ks)(a:w'.heap[b]?=w.heap[b]?):NumM P k w' b ks:=by obtain⟨c,clock,h1,h2⟩:=h;exact⟨c,clock,a.trans h1,h2⟩
theorem NumM.ext(h:NumM P k w b ks)(a:Ext w w'):NumM P k w' b ks:=h.at (a.block b h.lt)
theorem NumM.kept{row:Option Nat}(h:NumM P k w b ks)(c:w.grownBy w' row)(a:some b≠row):NumM P k w' b ks:=h.at (c.block b h.lt a)
theorem NumM.made(w:World):NumM P k (w.alloc (.map #[] 0)) w.heap.size []:=
 ⟨#[],0,Tk w _,rfl,λi e h=>by simp at h,λx h=>by simp at h,List.Pairwise.nil⟩
theorem HH{t e:TypeId}{x:Value}[u:IsM P t k e][r:IsKy P k][D:IsZ0 P e](h:NumM P k w b ks)(f:KeyV P k x):
  (x∉ks/\(Instr.lookup t (.map (some b)) x true).run P w=.ok (.tuple #[.int .i64 0,.bool false]) w)\/
  ∃(j:Nat) (hj:j<ks.length),ks[j]=x/\(Instr.lookup t (.map (some b)) x true).run P w=.ok (.tuple #[.int .i64 (j:Int),.bool true]) w:=by
 obtain⟨C,clock,B,a,E,p,F⟩:=h;obtain⟨l,f⟩:=f;obtain⟨i,h1,h2⟩:=R2.1 D.ok;have o:(zeroValue e).run P w=.ok (.int .i64 0) w:=by simp[zeroValue,typeInfo,h1,h2]
 have c:∀e∈C.toList,∃l,keyOf P k e.key=some l:=λe s=>p _ (a▸Qv.2 ⟨e,s,rfl⟩);obtain⟨g1,g2⟩|⟨j,G,g1,g2,g3⟩:=r.ok.find w f C.toList c
 .refine .inl ⟨λA=>?_,by simp[Instr.lookup,TA u.ok,Q6 B,r.ok.check w _ f,g1,o,Result.andThen]⟩;rw[<-a]at A;obtain⟨e,s,q⟩:=Qv.1 A;exact g2 e s q
 .have hj:j<ks.length:=by rw[<-a,P4];exact(Pt.1 g2).1
  refine .inr ⟨j,hj,?_,?_⟩
  .subst a;rw[PK,<-g3];congr 1;exact(Pt.1 g2).2
  .have m:=E j G g2;simp[Instr.lookup,TA u.ok,Q6 B,r.ok.check w _ f,g1,Result.andThen,m]
theorem HI{t e:TypeId}{x:Value}[G:IsM P t k e][C:IsKy P k](h:NumM P k w b ks)(E:KeyV P k x)(hn:x∉ks):
  ∃w',(Instr.mapUpdate t (.map (some b)) x (.int .i64 (ks.length:Int))).run P w=.ok () w'/\NumM P k w' b (ks++[x])/\w.grownBy w' (some b):=by
 obtain⟨r,clock,B,m,F,s,u⟩:=h;obtain⟨l,o⟩:=E;have p:∀e∈r.toList,∃l,keyOf P k e.key=some l:=λe f=>s _ (m▸Qv.2 ⟨e,f,rfl⟩);have H:r.toList.length=ks.length:=by rw[<-m,P4]
 have A:=(NB.1 B).1;obtain⟨g1,g2⟩|⟨j,K,g1,g2,g3⟩:=C.ok.find w o r.toList p
 .refine⟨_,by simp[Instr.mapUpdate,TA G.ok,Q6 B,C.ok.check w false o,g1,Q7 _ B,Result.andThen];rfl,?_,?_⟩
  .refine⟨r.push ⟨x,.int .i64 (ks.length:Int),clock⟩,clock+1,by simp[A],by simp[m],λi e f=>?_,λy q=>?_,?_⟩
   .rw[Array.toList_push]at f;obtain hi|hi:=Rw i r.toList.length
    .rw[Pm hi]at f;exact F i e f
    .rw[Pn hi]at f;have J:i -r.toList.length=0:=by have:=(Pt.1 f).1;simp at this;omega
     rw[J]at f;simp at f;subst f;show Value.int .i64 (ks.length:Int)=_;congr 1;omega
   .obtain q|q:=Ql.1 q
    .exact s y q
    .rw[QC]at q;subst q;exact⟨l,o⟩
   .rw[QF];refine⟨u,by simp,λa I c D e=>?_⟩;rw[QC]at D;subst D;subst e;exact hn I
  .exact⟨rfl,rfl,rfl,by simp,λi _ hi=>by simp only[NF];rw[Tm (λe=>hi (by rw[e]))]⟩
 .exact absurd (m▸Qv.2 ⟨K,Qx g2,g3⟩) hn
end
section
variable {P:Program}{Q:Exit->Act->World->Prop}{n:Nat}{σ:Sg}{w:World}{L rest:List Oper}{d:Nat}{ty:TypeId}{pos:String}{af:Array Edge}{g:Option (Nat×Bool)}{t k e:TypeId}{b:Nat}{ks:List Value}{x y z:Operand}{v:Value}
theorem fT(o:gd L σ ⟨none,.mapUpdate t x y z,ty,pos,af,g⟩=some true)(j:ev σ x=some (.map (some b)))(i:ev σ y=some v)(c:ev σ z=some (.int .i64 (ks.length:Int)))[p:IsM P t k e][q:IsKy P k]
  (h:NumM P k w b ks) (l:KeyV P k v) (hn:v∉ks)
  (m:∀w',NumM P k w' b (ks++[v])->w.grownBy w' (some b)->WL P L Q rest n σ w'):
  WL P L Q (⟨none,.mapUpdate t x y z,ty,pos,af,g⟩::rest) n σ w:=by
 obtain⟨w',g1,g2,g3⟩:=HI (t:=t) h l hn;refine fV o (λa f=>?_) (m w' g2 g3);simp[execOp,f.ev j,f.ev i,f.ev c,g1]
theorem fN(c:gd L σ ⟨some d,.makeMap t none,ty,pos,af,g⟩=some true)(hd:ble (d+1) n=true)
  (h:NumM P k (w.alloc (.map #[] 0)) w.heap.size []->WL P L Q rest n ((d,.map (some w.heap.size))::σ) (w.alloc (.map #[] 0))):
  WL P L Q (⟨some d,.makeMap t none,ty,pos,af,g⟩::rest) n σ w:=by
 refine VG c hd (λa f=>?_) (h (NumM.made w));simp[execOp,Instr.makeMap]
end
def KeyV.pair{k fa fb:TypeId}{y:Int}(h:(P.keyType k&&Value.formed P k (.agg #[.int .i64 0,.int .i64 0]))=true)
  (i:∀a b:Int,P.keyLits (P.types.size+1) k [.int .i64 a,.int .i64 b]=(if(Lit.int .i64 a).wf=true/\(Lit.int .i64 b).wf=true then some [.int .i64 a,.int .i64 b]else none))
  (hd:∃d,P.underlying k=some (.struct d)) (f:(Lit.int .i64 x).wf=true) (c:(Lit.int .i64 y).wf=true):KeyV P k (.agg ⟨[.int .i64 x,.int .i64 y]⟩):=by
 obtain⟨d,hd⟩:=hd;refine⟨.string (keyBytes [.int .i64 x,.int .i64 y]),?_⟩;unfold keyOf;rw[hd];dsimp only;have hf:Value.formed P k (.agg ⟨[.int .i64 x,.int .i64 y]⟩)=Value.formed P k (.agg #[.int .i64 0,.int .i64 0]):=by unfold Value.formed;rw[hd];rfl
 rw[hf,Tn h];show Option.map _ (P.keyLits (P.types.size+1) k [.int .i64 x,.int .i64 y])=_;rw[i,Tn ⟨f,c⟩];rfl
def CX{l:List α}(h:l.Nodup){i j:Nat}(hi:i<l.length)(hj:j<l.length)(e:l[i]=l[j]):i=j:=by
 have h:=List.pairwise_iff_getElem.1 h;obtain a|c|a:=Rx i j
 .exact absurd e (h i j hi hj a)
 .exact c
 .exact absurd e.symm (h j i hj hi a)
section
variable {P:Program}{Q:Exit->Act->World->Prop}{n:Nat}{σ:Sg}{w:World}{L rest:List Oper}{d:Nat}{ty:TypeId}{pos:String}{af:Array Edge}{g:Option (Nat×Bool)}{t k e:TypeId}{b:Nat}{ks:List Value}{x y z:Operand}{v:Value}
theorem dI(p:gd L σ ⟨some d,.lookup t x y true,ty,pos,af,g⟩=some true)(hd:ble (d+1) n=true)(l:ev σ x=some (.map (some b)))(i:ev σ y=some v)[r:IsM P t k e][s:IsKy P k][q:IsZ0 P e]
  (h:NumM P k w b ks) (m:KeyV P k v) (hn:v∉ks) (o:QL P L w Q rest n ((d,.tuple ⟨[Ub 0,.bool false]⟩)::σ)):QL P L w Q (⟨some d,.lookup t x y true,ty,pos,af,g⟩::rest) n σ:=by
 refine V4 p hd (λa f w' c=>?_) o;rcases HH (t:=t) (h.ext c) m with⟨_,g2⟩|⟨j,hj,g1,g2⟩
 .simp[execOp,f.ev l,f.ev i,g2]
 .exact absurd (g1▸PL hj) hn
theorem dJ{j:Nat}(hj:j<ks.length)(c:ks[j]=v)(s:gd L σ ⟨some d,.lookup t x y true,ty,pos,af,g⟩=some true)(hd:ble (d+1) n=true)(p:ev σ x=some (.map (some b)))(o:ev σ y=some v)[A:IsM P t k e][B:IsKy P k][u:IsZ0 P e]
  (h:NumM P k w b ks) (q:KeyV P k v) (r:QL P L w Q rest n ((d,.tuple ⟨[Ub (j:Int),.bool true]⟩)::σ)):QL P L w Q (⟨some d,.lookup t x y true,ty,pos,af,g⟩::rest) n σ:=by
 refine V4 s hd (λa m w' f=>?_) r;rcases HH (t:=t) (h.ext f) q with⟨g1,_⟩|⟨i,hi,g1,g2⟩
 .exact absurd (c▸PL hj) g1
 .obtain⟨_,_,_,_,_,_,l⟩:=h;obtain rfl:i=j:=CX l hi hj (g1.trans c.symm);simp[execOp,m.ev p,m.ev o,g2]
end
def cm{n:Nat}{σ:Sg}{wc:World}{ord:List (Nat×Bool)}{i d:Nat}{ty:TypeId}{g:Option (Nat×Bool)}{e:TypeId}{x:Operand}{b o k:Nat}{vs:List Value}
  (B:∀l,S l->l.heap[b]?=w.heap[b]?) (q:C4 L i=some ⟨some d,.load t x,ty,H,j,g⟩) (s:gd L σ ⟨some d,.load t x,ty,H,j,g⟩=some true) (hd:ble (d+1) n=true) (m:ev σ x=some (.pointer (some ⟨b,o,none⟩))) [C:IsC P t k true] (u:Blk w b e r) (p:H9 r o k=some vs)
  (h:HL P L S Q ord n ((d,.agg vs.toArray)::σ) wc):HL P L S Q ((i,true)::ord) n σ wc:=by
 refine VP q s hd (λa A w' c=>?_) h;have f:Blk w' b e r:=(B w' c).trans u;simp[execOp,A.ev m,Hx (P:=P) (t:=t) w' f p]
def Fz(w:World)(M:Nat->Prop):Nat->Prop:=λb=>b<w.heap.size/\¬M b
section
variable {α:Type}[Rep α]
theorem Fz.keep{w w':World}{M M':Nat->Prop}(c:Chg M w w')(d:∀b,M' b->M b\/w.heap.size<=b):(∀b,Fz w M b->w'.heap[b]?=w.heap[b]?)/\∀b,Fz w M b->Fz w' M' b:=
 ⟨λb a=>c.block b a.1 a.2,λb a=>⟨Rv a.1 c.size,λh=>(d b h).elim a.2 (λh=>absurd a.1 TK)⟩⟩
theorem Rd.fz{w w':World}{M M':Nat->Prop}{v:Value}{x:α}(h:Rd w (Fz w M) v x)(c:Chg M w w')(a:∀b,M' b->M b\/w.heap.size<=b):Rd w' (Fz w' M') v x:=h.mono (Fz.keep c a).1 (Fz.keep c a).2
theorem Sl.fz{w w':World}{M M':Nat->Prop}{ao:Option Addr}{cap:Nat}{xs:List α}(h:Sl w (Fz w M) ao cap xs)(c:Chg M w w')(a:∀b,M' b->M b\/w.heap.size<=b):Sl w' (Fz w' M') ao cap xs:=h.mono (Fz.keep c a).1 (Fz.keep c a).2
theorem Sl.old'{w:World}{M:Nat->Prop}{ao:Option Addr}{cap:Nat}{xs:List α}(h:Sl w (Fz w M) ao cap xs):Sl w (dk w) ao cap xs:=h.mono T5 λ_ h=>h.1
theorem Chg.of_ext{w w':World}(M:Nat->Prop)(h:Ext w w'):Chg M w w':=⟨h.os,h.tape,h.output,h.size,λk a _=>h.block k a⟩
def t1:=@Chg.of_ext
theorem Chg.trans{M:Nat->Prop}{a b c:World}(h:Chg M a b)(k:Chg M b c):Chg M a c:=
 ⟨k.os.trans h.os,k.tape.trans h.tape,k.output.trans h.output,Rr h.size k.size,λi hi hn=>(k.block i (Rv hi h.size) hn).trans (h.block i hi hn)⟩
theorem Chg.then{M M':Nat->Prop}{a b c:World}(h:Chg M a b)(k:Chg M' b c)(e:∀i,M' i->M i\/a.heap.size<=i):Chg M a c:=
 ⟨k.os.trans h.os,k.tape.trans h.tape,k.output.trans h.output,Rr h.size k.size,λi hi hn=>(k.block i (Rv hi h.size) (λd=>(e i d).elim hn TK)).trans (h.block i hi hn)⟩
theorem Chg.wk{M M':Nat->Prop}{a b:World}(h:Chg M a b)(d:∀i,M i->M' i):Chg M' a b:=⟨h.os,h.tape,h.output,h.size,λi hi hn=>h.block i hi (λc=>hn (d i c))⟩
theorem Chg.of_grown{w w':World}{row:Option Nat}(a:w.grownBy w' row):Chg (λb=>row=some b) w w':=(VM _ w).grown a λg h=>h
def VC:=@Chg.of_grown
structure InnR(w:World)(M:Nat->Prop)(vs:List Raw)(xs:List (List α)):Prop where
 len:vs.length=xs.length
 el:∀i (h:i<vs.length) (h':i<xs.length),Rd w (Fz w M) vs[i].v xs[i]
theorem InnR.nil{w:World}{M:Nat->Prop}:InnR w M [] ([]:List (List α)):=⟨rfl,λi h=>absurd h TO⟩
def Wc:=@InnR.nil
theorem InnR.to{w w':World}{M M':Nat->Prop}{vs:List Raw}{xs:List (List α)}(h:InnR w M vs xs)(c:Chg M w w')(a:∀b,M' b->M b\/w.heap.size<=b):InnR w' M' vs xs:=⟨h.len,λi h1 h2=>(h.el i h1 h2).fz c a⟩
theorem InnR.push{w:World}{M:Nat->Prop}{vs:List Raw}{xs:List (List α)}{v:Value}{x:List α}(h:InnR w M vs xs)(a:Rd w (Fz w M) v x):InnR w M (vs++[(⟨v⟩:Raw)]) (xs++[x]):=by
 refine⟨by simp[h.len],λi h1 h2=>?_⟩;obtain hi|hi:=Rw i vs.length
 .rw[PB hi,PB (by rw[<-h.len];exact hi)];exact h.el i hi _
 .have b:=h.len;obtain rfl:i=vs.length:=by simp at h1;omega
  rw[PC T8,PC TK];simp only[b,RP,PE];exact a
theorem InnR.sl{w:World}{M F:Nat->Prop}{B:Nat}{e:TypeId}{v:Value}{vs:List Raw}{xs:List (List α)}(h:InnR w M vs xs)(l:Own w B e dh v vs)(hF:∀b,Fz w M b->F b)(j:∀g,v.ownBlock=some g->F g):∃ao cap,v=.slice ao xs.length cap/\Sl w F ao cap xs:=by
 obtain⟨ao,cap,e,c⟩:=l.slF (F':=F) TY j;refine⟨ao,cap,by rw[<-h.len];exact e,⟨by rw[<-h.len];exact c.le,c.mx,c.nil,λi hi=>?_⟩⟩;have a:i<vs.length:=by rw[h.len];exact hi
 obtain⟨b,off,o,f,p,m,k⟩:=c.el i a;obtain⟨rfl,h1⟩:=k;obtain⟨io,ic,n,d⟩:=(h.el i a hi).sl;exact⟨b,off,o,f,[vs[i].v],m,io,ic,by rw[n],d.mono T5 hF⟩
theorem InnR.old{w:World}{M:Nat->Prop}{B:Nat}{e:TypeId}{v:Value}{vs:List Raw}{xs:List (List α)}(h:InnR w M vs xs)(a:Own w B e dh v vs):∃ao cap,v=.slice ao xs.length cap/\Sl w (dk w) ao cap xs:=
 h.sl a (λ_ h=>h.1) (λg b=>(a.lt g b).2.1)
end
instance:IsM Vy 220 226 3:=⟨underlying220⟩
instance:IsC Vy 220 1 false:=VA TL underlying220 rfl
instance:IsZ0 Vy 3:=⟨by kernel_rfl⟩
def oT:laidOutB Vy=true:=by kernel_rfl
instance:IsKy Vy 226:=IsKy.of (m:=2) oT TN TL TL Sp rfl
abbrev EM(p:dt):Value:=.agg ⟨[.int .i64 p.1,.int .i64 p.2]⟩
def dZ(p:dt):Prop:=0<=p.1/\p.1<4096/\0<=p.2/\p.2<4096
def EO{p:dt}(h:dZ p):KeyV Vy 226 (EM p):=by
 obtain⟨h1,h2,h3,h4⟩:=h;refine KeyV.pair (fa:=3) (fb:=3) TL (λa b=>?_) ⟨_,Sp⟩ ?_ ?_
 .obtain⟨s,c⟩:∃s,Tryz.prog.types.size=s+1:=by
   have:ble 1 Tryz.prog.types.size=true:=by kernel_rfl
   have:=Rm this;exact⟨Tryz.prog.types.size -1,by omega⟩
  have d:Tryz.prog.cellsOf 3=1:=by kernel_rfl
  have e:∀(x:Int),Tryz.prog.keyLits (s+1) 3 [.int .i64 x]=if(Lit.int .i64 x).wf=true then some [.int .i64 x]else none:=λx=>by rw[R8];simp only[Sz];by_cases h:(Lit.int .i64 x).wf=true<;>simp[h]
  rw[c,R8];simp only[Sp];rw[Tn ⟨by kernel_rfl,by kernel_rfl⟩];simp only[Qc,Qd,d,O1,Q3,Q5,O0,e];by_cases h1:(Lit.int .i64 a).wf=true<;>by_cases h2:(Lit.int .i64 b).wf=true<;>simp[h1,h2]
 .simp[Lit.wf,IntKind.min,IntKind.max,IntKind.signed,IntKind.bits];omega
 .simp[Lit.wf,IntKind.min,IntKind.max,IntKind.signed,IntKind.bits];omega
def EN{p q:dt}(h:EM p=EM q):p=q:=by obtain⟨a,b⟩:=p;obtain⟨c,d⟩:=q;simp[EM]at h;exact Prod.ext h.1 h.2
structure EA where
 a1:Option Addr
 c1:Nat
 a2:Option Addr
 c2:Nat
 a3:Option Addr
 c3:Nat
 a4:Option Addr
 c4:Nat
 k1:Option Addr
 d1:Nat
 k2:Option Addr
 d2:Nat
 k3:Option Addr
 d3:Nat
 k4:Option Addr
 d4:Nat
 k5:Option Addr
 d5:Nat
 W:cR
 A:cH
abbrev ot(e:EA)(mb:Nat)(lv nv fv:Value):List Value:=[.slice e.a1 e.W.1.length e.c1,.slice e.a2 e.W.2.1.length e.c2,.slice e.a3 e.W.2.2.1.length e.c3,.slice e.a4 e.W.2.2.2.length e.c4,.slice e.k1 e.A.1.length e.d1,.slice e.k2 e.A.2.1.length e.d2,.slice e.k3 e.A.2.2.1.length e.d3,.slice e.k4 e.A.2.2.2.1.length e.d4,.slice e.k5 e.A.2.2.2.2.length e.d5,.map (some mb),lv,nv,fv]
structure EIn(w:World)(F:Nat->Prop)(e:EA):Prop where
 h1:Sl w F e.a1 e.c1 e.W.1
 h2:Sl w F e.a2 e.c2 e.W.2.1
 h3:Sl w F e.a3 e.c3 e.W.2.2.1
 h4:Sl w F e.a4 e.c4 e.W.2.2.2
 g1:Sl w F e.k1 e.d1 e.A.1
 g2:Sl w F e.k2 e.d2 e.A.2.1
 g3:Sl w F e.k3 e.d3 e.A.2.2.1
 g4:Sl w F e.k4 e.d4 e.A.2.2.2.1
 g5:Sl w F e.k5 e.d5 e.A.2.2.2.2
def EIn.to{w':World}{F':Nat->Prop}{e:EA}(h:EIn w F e)(a:∀b,F b->w'.heap[b]?=w.heap[b]?)(hF:∀b,F b->F' b):EIn w' F' e:=
 ⟨h.h1.mono a hF,h.h2.mono a hF,h.h3.mono a hF,h.h4.mono a hF,h.g1.mono a hF,h.g2.mono a hF,h.g3.mono a hF,h.g4.mono a hF,h.g5.mono a hF⟩
def rJ(e:EA)(p:dt):Bool:=rI e.A.2.2.1 e.A.2.2.2.1 p.2.toNat (e.W.2.2.1.getD p.1.toNat 0)
def InE(e:EA)(p:dt):Prop:=(0<=p.1/\p.1<(e.W.2.1.length:Int))/\0<=p.2/\p.2<(e.A.2.1.length:Int)
structure OkE(e:EA):Prop where
 wn:e.W.2.1.length<=600
 an:e.A.2.1.length<=2048
 lb:e.W.2.2.1.length=e.W.2.1.length
 mu:e.A.2.2.1.length=e.A.2.1.length
 no:e.A.2.2.2.1.length=e.A.2.1.length
def InE.sm{e:EA}{p:dt}(a:OkE e)(h:InE e p):dZ p:=by obtain⟨⟨h1,h2⟩,h3,h4⟩:=h;have:=a.wn;have:=a.an;exact⟨h1,by omega,h3,by omega⟩
structure Em(w:World)(B:Nat)(e:EA)(sb mb:Nat)(lv nv fv:Value)(ps:List dt):Prop where
 blk:Blk w sb 223 (ot e mb lv nv fv)
 num:NumM Vy 226 w mb (ps.map EM)
 lo:Own w B 226 dh lv ps
 inn:EIn w (λb=>b<B) e
 ge:B<=sb/\B<=mb
 ne:sb≠mb
 nl:∀g,lv.ownBlock=some g->g≠sb/\g≠mb
 nd:ps.Nodup
 ins:∀p∈ps,InE e p
 ok:OkE e
def Em.ext{w':World}{e:EA}{fv:Value}{ps:List dt}(h:Em w B e a K v A fv ps)(f:B<=w.heap.size)(c:Ext w w'):Em w' B e a K v A fv ps:=
 ⟨h.blk.ext c,h.num.ext c,h.lo.extN c,h.inn.to (λb d=>c.block b (Rv d f)) T0,h.ge,h.ne,h.nl,h.nd,h.ins,h.ok⟩
def Em.len{e:EA}{fv:Value}{ps:List dt}(h:Em w B e a K v A fv ps):ps.length<=1228800:=by have h1:=CV h.nd h.ins;have h2:=RB h.ok.wn h.ok.an;omega
def oS(sb mb:Nat)(lv:Value):Nat->Prop:=λb=>b=sb\/b=mb\/lv.ownBlock=some b
def ow(w0:World){e:EA}{nv fv:Value}{ps:List dt}{p:dt}(h:Em w0 B e K E A nv fv ps)(hB:B<=w0.heap.size)(hp:InE e p):
  Rt Vy 200 [.pointer (some ⟨K,0,none⟩),EM p].toArray w0 λv w'=>∃lv',v=.int .i64 (if rJ e p=true then(ps.idxOf p:Int)else -1)/\Em w' B e K E lv' nv fv (if rJ e p=true then gq ps p else ps)/\
   Chg (oS K E A) w0 w'/\(∀g,lv'.ownBlock=some g->A.ownBlock=some g\/w0.heap.size<=g):=by
 obtain⟨x,y,rfl⟩:∃x y:Nat,p=((x:Int),(y:Int)):=⟨p.1.toNat,p.2.toNat,by
  obtain⟨⟨p1,p2⟩,p3,p4⟩:=hp;exact Prod.ext (by show p.1=((p.1.toNat:Nat):Int);omega) (by show p.2=((p.2.toNat:Nat):Int);omega)⟩
 have N:=EO (hp.sm h.ok);have hlen:=h.len;have U:EM ((x:Int),(y:Int))∈ps.map EM↔((x:Int),(y:Int))∈ps:=by
  rw[Qv];exact⟨λ⟨q,h1,h2⟩=>by rw[<-EN h2];exact h1,λh=>⟨_,h,rfl⟩⟩
 refine dS func200 ntmps200 rfl rfl ?_;refine UZ ?_;refine eH λT H e1=>?_
 have h1:=h.ext hB e1;have m:=h1.blk;have z1:=e1.size;have l3:=H.lt;obtain⟨lo,lc,rfl⟩:=h.lo.val;have Q:=h.ok;have hxl:x<e.W.2.2.1.length:=by have:=hp.1.2;have:=Q.lb;dsimp only at*;omega
 have hym:y<e.A.2.2.1.length:=by have:=hp.2.2;have:=Q.mu;dsimp only at*;omega
 have hyn:y<e.A.2.2.2.1.length:=by have:=hp.2.2;have:=Q.no;dsimp only at*;omega
 have hI:=h1.inn.to (F':=dk T) T5 (λb o=>(show b<T.heap.size by omega));have hfe:rJ e ((x:Int),(y:Int))=rI e.A.2.2.1 e.A.2.2.2.1 y e.W.2.2.1[x]:=by
  unfold rJ;dsimp only;rw[Oy,Oy,Pl,Pq hxl];rfl
 have hSE:∀z,(λz:World=>Ext T z) z->Ext T z:=λ_ h=>h
 generalize hpp:(((x:Int),(y:Int)):dt)=pp at*
 have hp1:pp.1=(x:Int):=by rw[<-hpp]
 have hp2:pp.2=(y:Int):=by rw[<-hpp]
 refine UR ?_;refine aG (λz=>Ext T z) [Wr 0,Wr 1,Wr 2,Wr 3,Wr 4,Wr 5,Wr 6,Wr 7,Wr 8,Wr 9,Wr 10,Wr 11,Wr 12,Wr 13,Wr 14,Ws 15,Wr 16] mixed TL (mm T) ?_;refine Vm ?_;rw[hp1,hp2];refine cd (α:=Nat) (k:=x) hSE rfl rfl rfl rfl rfl rfl rfl T0 hI.h3 hxl TV (λu q hu=>?_);obtain⟨rfl,hu64⟩:=hu.u64;have hd:=mm T;refine cy rfl (eK (bN (drew T) (hI.g3.at hd) (hI.g4.at hd) y e.W.2.2.1[x] hym hyn hu64) ?_);rintro _ w2 ⟨rfl,e2⟩
 have e2:=hd.trans e2;refine p0 (a8 e2 ?_);rw[<-hfe];refine Vr ?_;have P:=e1.trans e2;by_cases D:rJ e pp=true
 case neg=>
  have D:rJ e pp=false:=by simpa using D
  rw[D];refine Us ?_;exact d6 ⟨.slice lo ps.length lc,rfl,by simpa using h.ext hB P,⟨P.os,P.tape,P.output,P.size,λb o _=>P.block b o⟩,λg w=>.inl w⟩
 rw[D,Tn rfl,Tn rfl];apply bA;refine ax rfl ?_;apply CW.skip;apply bA;have h2:=h.ext hB P;have W:=H.ext e2;have hz2:=P.size;refine aB [(0,.pointer (some ⟨K,0,none⟩)),(3,.pointer (some ⟨w0.heap.size,0,none⟩)),(5,.int .i64 (if pp∈ps then(ps.idxOf pp:Int)else 0)),(6,.bool (decide (pp∈ps)))] ?_ (λs e3=>?_)
 .have m:=h2.blk
  by_cases c:pp∈ps
  .rw[Tn c,Tc c]
   obtain⟨j,hj,hjm⟩:=Qu.1 c;have Z:ps.idxOf pp=j:=by rw[<-hjm];exact h.nd.idxOf_getElem j hj
   rw[Z];refine U7 ?_;refine dJ (j:=j) (by simpa using hj) (by rw[PK,hjm]) rfl rfl rfl rfl h2.num N ?_;refine U_ ?_;refine VD (λs e3=>?_);exact aU TJ e3
  .rw[Tm c,Ta c]
   refine U7 ?_;refine dI rfl rfl rfl rfl h2.num N (λh=>c (U.1 h)) ?_;refine U_ ?_;refine VD (λs e3=>?_);exact aU TJ e3
 have C:=P.trans e3;have h3:=h.ext hB C;have H:=W.ext e3;have hz3:=C.size;have d:Chg (oS K E (.slice lo ps.length lc)) w0 s:=⟨C.os,C.tape,C.output,C.size,λb o _=>C.block b o⟩;clear h1 m hI hSE W h2 e2 e1 P hd;by_cases c:pp∈ps
 .rw[Tn c,Tc c,show gq ps pp=ps from Tn c]
  refine UA ?_;exact d6 ⟨.slice lo ps.length lc,rfl,h3,d,λg w=>.inl w⟩
 rw[Tm c,Ta c,show gq ps pp=ps++[pp] from Tm c];have Z:=yq c;have m:=h3.blk;have hmb0:=h.num.lt;have hsb0:=h.blk.lt;have M:=h.lo.lt;have R:=h.ne;have t:=h.nl;have hl3x:=H.lt;rw[Z];have f:Ext s (drew s):=mm s;have i:=m.ext f;have n:=H.ext f;have S:∀u,(λx:World=>x.heap[w0.heap.size]?=(drew s).heap[w0.heap.size]?/\x.heap[K]?=(drew s).heap[K]?) u->u.heap[w0.heap.size]?=(drew s).heap[w0.heap.size]?:=λ_ h=>h.1
 have hKs:∀u,(λx:World=>x.heap[w0.heap.size]?=(drew s).heap[w0.heap.size]?/\x.heap[K]?=(drew s).heap[K]?) u->u.heap[K]?=(drew s).heap[K]?:=λ_ h=>h.2
 refine U3 ?_;refine aG (λx:World=>x.heap[w0.heap.size]?=(drew s).heap[w0.heap.size]?/\x.heap[K]?=(drew s).heap[K]?) [Wr 0,Wr 1,Wr 2,Wr 3,Wr 4,Wr 5,Ws 6] mixed TL ⟨rfl,rfl⟩ ?_;refine Vq ?_;refine cm S rfl rfl rfl rfl n rfl ?_;refine Vo ?_;refine cy rfl (fT (ks:=ps.map EM) rfl rfl rfl (by simp[ev,fnd,P4]) (h3.num.ext f) N (λh=>c (U.1 h)) (λr Y l=>?_));have hzd:=f.size;refine p0 (a8 ⟨?_,?_⟩ (VK ?_))
 .exact l.block _ TK T3
 .exact l.block _ TK (λe=>R (R4 e))
 have hz4:=l.size;have O:=i.kept l (λe=>R (R4 e));have V:=n.kept l T3;have hlo4:=(h3.lo.extN f).keptN l (λg w e=>(t g w).2 (R4 e));have I:Chg (oS K E (.slice lo ps.length lc)) w0 r:=(⟨f.os.trans d.os,f.tape.trans d.tape,f.output.trans d.output,Rr d.size f.size,λb o hn=>(f.block b (Rv o d.size)).trans (d.block b o hn)⟩:Chg _ w0 (drew s)).grown l (λg w=>by cases w;exact .inr (.inl rfl));clear i n S hKs f hzd l m H;have f:Ext r (drew r):=mm r;have i:=O.ext f;have n:=V.ext f;have hlsb:=O.lt;have hl3:=V.lt;have S:∀u,(λx:World=>x.heap[w0.heap.size]?=(drew r).heap[w0.heap.size]?/\x.heap[K]?=(drew r).heap[K]?) u->u.heap[w0.heap.size]?=(drew r).heap[w0.heap.size]?:=λ_ h=>h.1
 have hKs:∀u,(λx:World=>x.heap[w0.heap.size]?=(drew r).heap[w0.heap.size]?/\x.heap[K]?=(drew r).heap[K]?) u->u.heap[K]?=(drew r).heap[K]?:=λ_ h=>h.2
 have hzd:=f.size;refine UQ ?_;refine aF (λx:World=>x.heap[w0.heap.size]?=(drew r).heap[w0.heap.size]?/\x.heap[K]?=(drew r).heap[K]?) [Wr 0,Wr 1,Wr 2,Wr 3,Wr 4,Wr 5,Ws 6,Ws 7,Ws 8,Ws 9] 10 mixed TL ⟨rfl,rfl⟩ ?_;refine Vq ?_;refine cm S rfl rfl rfl rfl n rfl ?_;refine bW (α:=Int×Int) (F:=dh) (bytes:=16) (yv:=pp) rfl rfl rfl rfl TV rfl rfl TV (hlo4.extN f) (VZ (c1:=[.int .i64 pp.1]) (c2:=[.int .i64 pp.2]) (Gn _ _ _) (Gn _ _ _)) TK TY TN TQ TK
  (λz hz=>⟨hz.block _ TK (λe=>by have:=M _ e.symm;omega),hz.block _ TK (λe=>(t _ e.symm).1 rfl)⟩) (λcl w5 q5 ho5 G L=>?_)
 obtain⟨lo',lc',rfl⟩:=ho5.val;have hblk5:=i.kept G (λe=>(t _ e.symm).1 rfl);have X:=(Y.ext f).kept G (λe=>(t _ e.symm).2 rfl);have hS5:w5.heap[w0.heap.size]?=(drew r).heap[w0.heap.size]?/\w5.heap[K]?=(drew r).heap[K]?:=⟨G.block _ TK (λe=>by have:=M _ e.symm;omega),G.block _ TK (λe=>(t _ e.symm).1 rfl)⟩;refine cy rfl (fQ rfl rfl rfl (p0 (a8 hS5 ?_)));refine cy rfl (fj rfl rfl rfl (p0 (a8 hS5 (VK ?_))));refine bu rfl (f7 hblk5 (λw6 hblk6 hg6=>p0 (bx ?_)));have hlo6:=ho5.keptN hg6 (λg w e=>by
  rcases L g w with h|h
  .exact(t g h).1 (R4 e)
  .have:=R4 e;omega)
 have J:=X.kept hg6 (λe=>R (R4 e).symm);have hC5:=(⟨f.os.trans I.os,f.tape.trans I.tape,f.output.trans I.output,Rr I.size f.size,λb o hn=>(f.block b (Rv o I.size)).trans (I.block b o hn)⟩:Chg (oS K E (.slice lo ps.length lc)) w0 (drew r)).grown G (λg w=>.inr (.inr w));have hC6:=hC5.grown hg6 T4;have hz5:=G.size;rw[show ps.map EM++[EM pp]=(ps++[pp]).map EM by simp]at J
 have hge:=h.ge;have hSb:∀b,oS K E (.slice lo ps.length lc) b->B<=b:=λb o=>by
  rcases o with h'|h'|h'
  .omega
  .omega
  .exact(M b h').1
 refine Up ?_;refine d6 ⟨.slice lo' (ps++[pp]).length lc',rfl,⟨hblk6,J,hlo6,h.inn.to (λb o=>hC6.block b TK (λhs=>by have:=hSb b hs;omega)) T0,hge,R,λg w=>?_,?_,λq hq=>?_,Q⟩,hC6,λg w=>?_⟩
 .rcases L g w with h|h
  .exact t g h
  .exact⟨by omega,by omega⟩
 .rw[QF]
  refine⟨h.nd,QP _ _,λa ha b o e'=>?_⟩;rw[QC]at o
  exact c (by rw[<-o,<-e'];exact ha)
 .rcases Ql.1 hq with hq|hq
  .exact h.ins q hq
  .rw[QC]at hq;rw[hq];exact hp
 .rcases L g w with h|h
  .exact .inl h
  .exact .inr TK
def Em.chg{S:Nat->Prop}{w':World}{e:EA}{fv:Value}{ps:List dt}(h:Em w B e a K v A fv ps)(f:B<=w.heap.size)(c:Chg S w w')(hS:∀b,S b->B<=b/\b≠a/\b≠K/\v.ownBlock≠some b):Em w' B e a K v A fv ps:=
 ⟨(c.block a h.blk.lt (λk=>(hS _ k).2.1 rfl)).trans h.blk,h.num.at (c.block K h.num.lt (λk=>(hS _ k).2.2.1 rfl)),h.lo.chg c (λb d k=>(hS b k).2.2.2 d),h.inn.to (λb d=>c.block b (Rv d f) (λk=>by have:=(hS b k).1;omega)) T0,h.ge,h.ne,h.nl,h.nd,h.ins,h.ok⟩
structure CrI(w0 w:World)(B:Nat)(e:EA)(sb mb:Nat)(lv0 lv ov nv fv:Value)(ps:List dt)(out:List Int):Prop where
 em:Em w B e sb mb lv nv fv ps
 own:Own w w0.heap.size 3 dh ov out
 chg:Chg (oS sb mb lv0) w0 w
 new:∀g,lv.ownBlock=some g->lv0.ownBlock=some g\/w0.heap.size<=g
 dis:∀g,ov.ownBlock=some g->lv.ownBlock≠some g
def Eo{l k:List Int}:En (x::l) k=(k.map λy=>(x,y))++En l k:=rfl
def Ep(l k:List Int):(En l k).length=l.length*k.length:=by
 unfold En;induction l with
 |nil=>simp
 |cons x r a=>rw[Pe,PX,a,P4,PY,Nat.succ_mul];omega
def mA(w0:World){e:EA}{nv fv:Value}{ps:List dt}{lo:Option Addr}{kc:Nat}{l k:List Int}(h:Em w0 B e a K A nv fv ps)(hB:B<=w0.heap.size)(P:Sl w0 (λb=>b<B) lo E l)(hk:Sl w0 (λb=>b<B) C kc k)
  (okl:Dy e.W.2.1.length l) (okk:Dy e.A.2.1.length k) (hln:l.length<=1048576) (hkn:k.length<=1048576):
  Rt Vy 122 [Uc a,.slice lo l.length E,.slice C k.length kc].toArray w0 λv w'=>∃lv',CrI w0 w' B e a K A lv' v nv fv (FU (rJ e) (En l k) ps []).1 (FU (rJ e) (En l k) ps []).2:=by
 have hT:(En l k).length<=1099511627776:=by rw[Ep];exact RB hln hkn
 have hge:=h.ge;have hsb0:=h.blk.lt;have hmb0:=h.num.lt;have U:=h.lo.lt;have hSB:∀b,oS a K A b->B<=b:=λb n=>by
  obtain p|p|p:=n
  .omega
  .omega
  .exact(U b p).1
 generalize hG:FU (rJ e) (En l k) ps []=G at*;refine dT func122 ntmps122 rfl rfl (Ut ?_);refine p8 (S:=Nat×Value×Value×List dt×List Int) (λs=>[(0,Uc a),(2,.slice C k.length kc),(7,s.2.2.1),(13,.slice lo l.length E),(14,Ub l.length),(15,Ub s.1)])
  (λs w=>s.1<=l.length/\FU (rJ e) (En (l.drop s.1) k) s.2.2.2.1 s.2.2.2.2=G/\CrI w0 w B e a K A s.2.1 s.2.2.1 nv fv s.2.2.2.1 s.2.2.2.2/\s.2.2.2.2.length+(En (l.drop s.1) k).length<=(En l k).length)
  (λs=>l.length -s.1) (0,A,.slice none 0 0,ps,[]) TJ ⟨RU _,hG,⟨h,r3,VM _ _,λg m=>.inl m,λg m=>by cases m⟩,by simp⟩ ?_
 rintro⟨i,lv1,ov,ps1,out⟩ D ⟨hi,c,d,o⟩;dsimp only at hi c d o⊢;refine UR ?_;apply ld rfl<;>intro Z
 .have z:i<l.length:=by simp at Z;omega
  rw[OX z,Eo]at c o;have W:=P.mono (w':=D) (λb n=>d.chg.block b TK (λM=>by have:=hSB b M;omega)) (F':=dk D) (λb n=>by have:=d.chg.size;exact(show b<D.heap.size by omega));have hxr:=okl _ (PL z);refine UC ?_;refine e_ W z rfl TV (λq=>?_);generalize l[i]=x at*;generalize hR:En (l.drop (i+1)) k=R at*;refine Ut ?_;refine p8 (S:=Nat×Value×Value×List dt×List Int) (λs=>[(0,Uc a),(2,.slice C k.length kc),(7,s.2.2.1),(9,Ub x),(13,.slice lo l.length E),(14,Ub l.length),(15,Ub i),(19,.slice C k.length kc),(20,Ub k.length),(21,Ub s.1)])
   (λs w=>s.1<=k.length/\FU (rJ e) (((k.drop s.1).map λy=>(x,y))++R) s.2.2.2.1 s.2.2.2.2=G/\CrI w0 w B e a K A s.2.1 s.2.2.1 nv fv s.2.2.2.1 s.2.2.2.2/\s.2.2.2.2.length+(k.length -s.1)+R.length<=(En l k).length)
   (λs=>k.length -s.1) (0,lv1,ov,ps1,out) TJ ⟨RU _,c,d,by simp only[PX,P4]at o;dsimp only;omega⟩ ?_
  clear c d o W;rintro⟨j,lv1,ov,ps1,out⟩ D ⟨hj,c,d,o⟩;dsimp only at hj c d o⊢;have z1:=d.chg.size;refine UR ?_;apply ld rfl<;>intro Z
  .have t:j<k.length:=by simp at Z;omega
   rw[OX t,Qg,OK,FU]at c;have hk1:=hk.mono (w':=D) (λb n=>d.chg.block b TK (λM=>by have:=hSB b M;omega)) (F':=dk D) (λb n=>(show b<D.heap.size by omega));have hyr:=okk _ (PL t);refine UC ?_;refine e_ hk1 t rfl TV (λq=>?_);generalize k[j]=y at*;have hin:InE e (x,y):=⟨hxr,hyr⟩;refine UR ?_;refine r4 rfl rfl rfl rfl ?_;have J:=ow D d.em TK hin;rw[show EM (x,y)=.agg [Ub x,Ub y].toArray from rfl]at J;refine eK J ?_;rintro _ w2 ⟨lv2,rfl,u,O,T⟩;have I:=λg m=>d.own.lt g m;have hll1:=λg m=>d.em.lo.lt g m;have z2:=O.size;have r:=d.own.chg O (λb n M=>by
    have:=I b n;obtain p|p|p:=M
    .omega
    .omega
    .exact d.dis b n p)
   have L:Chg (oS a K A) w0 w2:=d.chg.then O (λb M=>by
    obtain p|p|p:=M
    .exact .inl (.inl p)
    .exact .inl (.inr (.inl p))
    .exact(d.new b p).imp (λh=>.inr (.inr h)) id)
   have H:∀g,lv2.ownBlock=some g->A.ownBlock=some g\/w0.heap.size<=g:=λg m=>(T g m).elim (d.new g) (λh=>.inr TK);have N:∀g,ov.ownBlock=some g->lv2.ownBlock≠some g:=λg m P=>(T g P).elim (d.dis g m) (λh=>by have:=(I g m).2;omega);by_cases hf:rJ e (x,y)=true
   .rw[Tn hf]at c u;rw[Tn hf];have X:decide (((ps1.idxOf (x,y):Nat):Int)>=0)=true:=Tc TK;refine UY ?_;rw[X];refine eF (α:=Int) (F:=dh) (bytes:=8) (yv:=((ps1.idxOf (x,y):Nat):Int)) rfl rfl TV rfl rfl TV r T7 TK TY TN TQ TK (λov' w3 q ho3 Y Q=>?_);have V:=λg m=>u.lo.lt g m;have f:=λg m=>r.lt g m;have hE3:=u.chg TK (VC Y) (λb n=>⟨by have:=(f b n).1;omega,by have:=(f b n).1;omega,by have:=(f b n).1;omega,N b n⟩);refine Ui ?_;exact m5 (j+1,lv2,ov',_,_) TJ ⟨t,c,⟨hE3,ho3,L.then (VC Y) (λb n=>.inr (f b n).1),H,λg m P=>(Q g m).elim (λh=>N g h P) (λh=>by have:=(V g P).2.1;omega)⟩,by simp;omega⟩ TP
   .rw[Tm hf]at c u;rw[Tm hf];refine UA ?_;exact m5 (j+1,lv2,ov,_,_) TJ ⟨t,c,⟨u,r,L,H,N⟩,by dsimp only;omega⟩ TP
  .obtain rfl:j=k.length:=by simp at Z;omega
   rw[OZ,Qi,QE]at c;refine Uj ?_;exact m5 (i+1,lv1,ov,ps1,out) TJ ⟨z,by rw[hR];exact c,d,by dsimp only;rw[hR];omega⟩ TP
 .obtain rfl:i=l.length:=by simp at Z;omega
  rw[OZ]at c;have c:(ps1,out)=G:=c;subst c;refine UF ?_;exact be ⟨lv1,d⟩
instance:IsT Vy 80 Raw:=VL TL SM rfl
instance:IsZ Vy 80 (⟨.slice none 0 0⟩:Raw) 24:=VV (z:=.slice none 0 0) TL (λ_ _=>⟨rfl,rfl⟩)
def Gq{x:dt}(h:Rd w F v x):v=EM x:=by obtain⟨c1,c2,rfl,h1,h2⟩:=h.pr;rw[Gl h1,Gl h2];rfl
def pG(w:World)(p:dt):Rt Vy 203 [EM p].toArray w λv w'=>v=Ub p.1/\Ext w w':=by refine dR func203 ntmps203 rfl rfl (UZ ?_);refine eH λc a b=>?_;refine U2 ?_;exact be ⟨rfl,b⟩
def pH(w:World)(p:dt):Rt Vy 204 [EM p].toArray w λv w'=>v=Ub p.2/\Ext w w':=by refine dR func204 ntmps204 rfl rfl (UZ ?_);refine eH λc a b=>?_;refine U2 ?_;exact be ⟨rfl,b⟩
def pm(w0:World){n:Nat}{x0 x2 x3 x4 x5 x6 x7 x8 x9 x11 x12 ov ofv:Value}{lo fo:Option Addr}{lc fc:Nat}{ps:List dt}{vs:List Raw}{xs:List (List Bool)}{of:dt->Int}
  (hb1:Blk w0 B 219 [Uc K]) (hb:Blk w0 K 223 [x0,A,x2,x3,x4,x5,x6,x7,x8,x9,.slice lo ps.length lc,x11,x12]) (hbo:Blk w0 a 200 [ov]) (hn:Own w0 E 80 dh ov vs) (hB:E<=w0.heap.size)
  (inn:InnR w0 (λb=>b=a\/ov.ownBlock=some b) vs xs) (Z:Sl w0 (dk w0) lo lc ps) (hfr:Sl w0 (dk w0) fo fc m) (hok:Dy n m) (hnn:n<=1099511627776)
  (hof:∀w p,p∈ps->FnV Vy ofv [EM p] w λv w'=>v=Ub (of p)/\Ext w w') (hin:∀p∈ps,0<=of p/\of p<n) (hps:ps.length<=1228800) (hxs:xs.length<=4096) (W:∀g,ov.ownBlock=some g->g≠a):
  Rt Vy 202 [.slice fo m.length fc,ofv,Ub (n:Int),Uc B,Uc a].toArray w0 λv w'=>∃ov' vs',Blk w' a 200 [ov']/\Own w' E 80 dh ov' vs'/\
   InnR w' (λb=>b=a\/ov'.ownBlock=some b) vs' (xs++[ps.map λp=>decide (of p∈m)])/\Chg (λb=>b=a\/ov.ownBlock=some b) w0 w'/\∀g,ov'.ownBlock=some g->ov.ownBlock=some g\/w0.heap.size<=g:=by
 have hfl:=hfr.len63;have hll:=Z.len63;have hlbo:=hbo.lt;refine dV func202 ntmps202 rfl rfl (U4 ?_);refine fI (α:=Bool) rfl rfl rfl rfl TK TQ (λw1 ho1 hg1=>?_);have hE1:Ext w0 w1:=(NP _ _).grown hg1 T8 T2;generalize hsv:Value.slice (some ⟨w0.heap.size,0,none⟩) n n=sv at*;refine Ut ?_;refine p8 (S:=Nat×List Bool) (λs=>[(1,ofv),(3,Uc B),(4,Uc a),(8,sv),(16,.slice fo m.length fc),(17,Ub m.length),(18,Ub s.1)])
  (λs w=>s.1<=m.length/\Own w w0.heap.size 4 dh sv s.2/\s.2.length=n/\(∀c:Nat,c<n->(s.2.getD c false=true↔(c:Int)∈m.take s.1))/\Ext w0 w) (λs=>m.length -s.1) (0,replicate n false) TJ
  ⟨RU _,ho1,by simp,λc G=>by simp[Pw,G],hE1⟩ ?_
 clear ho1 hg1 hE1;rintro⟨i,il⟩ w ⟨hi,U,hil,hr,L⟩;dsimp only at hi U hil hr⊢;refine UR ?_;apply ld rfl<;>intro h
 .have D:i<m.length:=by simp at h;omega
  have hxr:=hok _ (PL D);have htk:m.take (i+1)=m.take i++[m[i]]:=Q4 D;refine UC ?_;refine e_ (hfr.up L) D rfl TV (λq=>?_);generalize m[i]=x at*;obtain⟨c0,rfl⟩:=Om hxr.1;refine UR ?_;refine fX (u:=.bool true) (yv:=true) rfl rfl rfl rfl U (show c0<il.length by omega) TV TV (VF _ _ _) (λw4 q2 ho4 t=>?_);have hE4:Ext w0 w4:=L.grown t L.size (λb hb=>(U.lt b hb).1);refine Ui ?_;refine m5 (i+1,il.set c0 true) TJ ⟨D,ho4,by simpa using hil,λc G=>?_,hE4⟩ TP;dsimp only;rw[tC TK,htk,Ql,QC];by_cases e:c0=c
  .subst e;simp
  .rw[Tm e,hr c G];exact⟨.inl,λh=>h.resolve_right (λh=>e TK)⟩
 obtain rfl:i=m.length:=by simp at h;omega
 clear h hi;rw[Q0]at hr;have hbit:∀p∈ps,∀c:Nat,of p=(c:Int)->il.getD c false=decide (of p∈m):=λp hp c G=>by have h1:=hin p hp;rw[NU,hr c TK,G];simp
 have z:=hb1.ext L;have P:=hb.ext L;have hzw:=L.size;have hltw:=λg f=>U.lt g f;obtain⟨mo,mc,rfl,hms⟩:=U.oldN.sl;refine UU ?_;refine fI (α:=Bool) rfl rfl rfl rfl TK TQ (λw2 ho2 hg2=>?_);have I:Ext w w2:=(NP _ _).grown hg2 T8 T2;generalize hsv2:Value.slice (some ⟨w.heap.size,0,none⟩) ps.length ps.length=sv2 at*;have z:=z.ext I;have P:=P.ext I;refine UE ?_;refine p8 (S:=Nat×List Bool) (λs=>[(1,ofv),(4,Uc a),(8,.slice mo il.length mc),(11,sv2),(35,.slice lo ps.length lc),(36,Ub ps.length),(37,Ub s.1)])
  (λs u=>s.1<=ps.length/\Own u w.heap.size 4 dh sv2 s.2/\s.2.length=ps.length/\(∀c:Nat,c<s.1->s.2.getD c false=decide (of (ps.getD c (0,0))∈m))/\Ext w u) (λs=>ps.length -s.1) (0,replicate ps.length false) TJ
  ⟨RU _,ho2,by simp,λc G=>absurd G TO,I⟩ ?_
 clear ho2 hg2 I z P;rintro⟨j,sl⟩ w3 ⟨hj,ho3,N,o,H⟩;dsimp only at hj ho3 N o⊢;refine UR ?_;apply ld rfl<;>intro h
 .have C:j<ps.length:=by simp at h;omega
  clear h;have O:=PL C;have hpg:ps.getD j (0,0)=ps[j]:=by rw[Pl,Pq C];rfl
  have hip:=hin _ O;refine UB ?_;refine fd (i:=j) rfl rfl rfl rfl rfl (Z.up (L.trans H)) C TV (λu q hu=>?_);rw[Gq hu];clear hu;generalize ps[j]=p at*;refine eC (λw4 hb4 e4=>?_);refine U9 ?_;refine f7 hb4 (λw5 hb5 l=>?_);have e5:Ext w3 w5:=NM e4 l e4.size TX;clear l e4 hb4;refine UD ?_;refine eL rfl rfl rfl rfl (hof w5 p O) ?_;rintro _ w6 ⟨rfl,e6⟩;have e36:=e5.trans e6;have Q:=H.trans e36;have ho6:=ho3.extN e36;obtain⟨k,hk⟩:∃k:Nat,of p=(k:Int):=⟨(of p).toNat,by omega⟩;have hkn:k<n:=by omega
  have hbk:=hbit p O k hk;rw[hk];refine eY rfl rfl rfl rfl rfl (hms.up Q) (i:=k) TK (y:=decide (of p∈m)) (by rw[<-hbk,Pl,Pq TK];rfl) TV (λq=>fX (yv:=decide (of p∈m)) rfl rfl rfl rfl ho6 (show j<sl.length by omega) TV TV (VF _ _ _) (λw7 q2 ho7 hg7=>?_));have hE7:Ext w w7:=Q.grown hg7 Q.size (λb hb=>(ho6.lt b hb).1);refine Ui ?_;refine m5 (j+1,sl.set j (decide (of p∈m))) TJ ⟨C,ho7,by simpa using N,λc G=>?_,hE7⟩ TP;dsimp only at G⊢;rw[tC TK];by_cases e:j=c
  .subst e;rw[Tn rfl,hpg]
  .rw[Tm e];exact o c TK
 obtain rfl:j=ps.length:=by simp at h;omega
 have R:sl=ps.map λp=>decide (of p∈m):=by
  refine O3 (by rw[P4];exact N) λi h1 h2=>?_;have h3:i<ps.length:=by omega
  have h4:=o i h3;rw[Pl,Pq h1,Pl,Pq h3]at h4;rw[PK];exact h4
 subst R;have d:=L.trans H;have hbo3:=hbo.ext d;have X:=hn.extN d;have hz3:=H.size;obtain⟨so,sc,rfl⟩:=ho3.val;have J:=λg f=>ho3.lt g f;have Y:=λg f=>hn.lt g f;have hcsl:=inn.len;obtain⟨vo,vc,rfl⟩:=X.val;refine U1 ?_;refine eF (α:=Raw) (F:=dh) (bytes:=24) (yv:=(⟨.slice so (ps.map λp=>decide (of p∈m)).length sc⟩:Raw)) rfl rfl TV rfl rfl TV X (VO _ _ _ rfl) TK TY TN TQ TK (λnv' w4 q ho4 t r=>?_);obtain⟨nvo,nvc,rfl⟩:=ho4.val;have hbo4:=hbo3.kept t (λe=>W _ e.symm rfl);have z4:=t.size;refine f7 hbo4 (λw5 hb5 l=>?_);have z5:=l.size;have V:∀g,(Value.slice nvo (vs++[(⟨.slice so (ps.map λp=>decide (of p∈m)).length sc⟩:Raw)]).length nvc).ownBlock=some g->g≠a:=λg f=>by
  obtain h|h:=r g f
  .exact W g h
  .omega
 have ho5:=ho4.keptN l (λg f e=>V g f (R4 e));have T:Rd w3 (Fz w3 (λb=>b=a\/Value.ownBlock (.slice vo vs.length vc)=some b)) (.slice so (ps.map λp=>decide (of p∈m)).length sc) (ps.map λp=>decide (of p∈m)):=
  ho3.rd.mono T5 (λg f=>f.elim (λh=>h.elim) (λf=>⟨(J g f).2.1,λh=>by
   have h1:=(J g f).1;obtain h|h:=h
   .omega
   .have:=(Y g h).2.1;omega⟩))
 have hin3:=(inn.to (t1 _ d) (λb h=>.inl h)).push T;have M:Chg (λb=>b=a\/Value.ownBlock (.slice vo vs.length vc)=some b) w3 w5:=((VC t).wk (λb h=>.inr h)).grown l T4;have hin5:=hin3.to M (M':=λb=>b=a\/(Value.slice nvo (vs++[(⟨.slice so (ps.map λp=>decide (of p∈m)).length sc⟩:Raw)]).length nvc).ownBlock=some b) (λb h=>by
  obtain h|h:=h
  .exact .inl (.inl h)
  .exact(r b h).imp .inr id)
 have hC5:=(t1 (λb=>b=a\/Value.ownBlock (.slice vo vs.length vc)=some b) d).trans M;refine UG ?_;exact aW rfl ⟨_,_,hb5,ho5,hin5,hC5,λg f=>(r g f).imp id (λh=>by have:=d.size;omega)⟩
def IE(W:List Int×List (List Int)×List Nat×List (List Int))(A:cH)(ps:List dt):List (List Bool):=W.2.2.2.map (λF=>ps.map λp=>decide (p.1∈F))++A.2.2.2.2.map λF=>ps.map λp=>decide (p.2∈F)
def pI(w0:World){e:EA}{nv fv:Value}{ps:List dt}(h:Em w0 B e a K A nv fv ps)(hB:B<=w0.heap.size)(X:∀r∈e.W.2.2.2,Dy e.W.2.1.length r)(W:∀r∈e.A.2.2.2.2,Dy e.A.2.1.length r)
  (hl1:e.W.2.2.2.length<=80) (hl2:e.A.2.2.2.2.length<=80):
  Rt Vy 124 [Uc a].toArray w0 λv w'=>∃so sc,v=.slice so (IE e.W e.A ps).length sc/\Sl w' (dk w') so sc (IE e.W e.A ps)/\Ext w0 w':=by
 have O:=h.ok;have hwn:=O.wn;have han:=O.an;have M:=h.len;have hsb0:=h.blk.lt;obtain⟨lo,lc,rfl⟩:=h.lo.val;obtain⟨lo',lc',Y,V⟩:=h.lo.oldN.sl;have Y:=SV Y;obtain⟨rfl,-,rfl⟩:=Y;refine dR func124 ntmps124 rfl rfl (UZ ?_);refine eH λw1 t e1=>?_;have l10:=t.lt;refine UR ?_;refine eC (λx T Z=>?_);have t:=t.ext Z;have y:=e1.trans Z;have z1:=e1.size;have z2:=Z.size;have l1:=t.lt;have l3:=T.lt;generalize hbo:w1.heap.size=l at*;generalize U:w0.heap.size=b1 at*;have I:b1<l:=by omega
 have P:=V.mono (w':=x) (λb j=>y.block b j) (F':=λb=>b<b1) (λb j=>by rw[<-U];exact j);have Q:=h.inn.to (w':=x) (λb j=>y.block b TK) (F':=λb=>b<b1) (λb j=>by omega);have H:=h.blk.ext y;have k:∀{w:World},Chg (λb=>b=l) x w->(∀b,b<l->w.heap[b]?=x.heap[b]?)/\x.heap.size<=w.heap.size:=λ {w} d=>⟨λb j=>d.block b TK TK,d.size⟩;have R:∀{w:World},Chg (λb=>b=l) x w->Blk w b1 219 [Uc a]/\Blk w a 223 (ot e K (.slice lo ps.length lc) nv fv)/\Sl w (dk w) lo lc ps/\EIn w (dk w) e:=λ {w} d=>
  ⟨(k d).1 b1 I|>.trans t,((k d).1 a TK).trans H,P.mono (λb j=>(k d).1 b TK) (λb j=>by have:=(k d).2;exact(show b<w.heap.size by omega)),Q.to (λb j=>(k d).1 b TK) (λb j=>by have:=(k d).2;exact(show b<w.heap.size by omega))⟩
 refine U3 ?_;refine p8 (S:=Nat×Value×List Raw) (λs=>[(1,Uc b1),(3,Uc l),(4,.func (.func 202) [].toArray [Uc b1,Uc l].toArray),(14,.slice e.a4 e.W.2.2.2.length e.c4),(15,Ub e.W.2.2.2.length),(16,Ub s.1)])
  (λs w=>s.1<=e.W.2.2.2.length/\Blk w l 200 [s.2.1]/\Own w x.heap.size 80 dh s.2.1 s.2.2/\InnR w (λb=>b=l\/s.2.1.ownBlock=some b) s.2.2 ((e.W.2.2.2.take s.1).map λF=>ps.map λp=>decide (p.1∈F))/\Chg (λb=>b=l) x w)
  (λs=>e.W.2.2.2.length -s.1) (0,.slice none 0 0,[]) TJ ⟨RU _,T,r3,Wc,VM _ _⟩ ?_
 rintro⟨i,ov,vs⟩ w ⟨hi,c,hn,inn,d⟩;dsimp only at hi c hn inn d⊢;obtain⟨kb1,kblk,klo,kin⟩:=R d;have kz:=(k d).2;have klt:=λg E=>hn.lt g E;refine UR ?_;apply ld rfl<;>intro h
 .have f:i<e.W.2.2.2.length:=by simp at h;omega
  have G:=X _ (PL f);have z:(e.W.2.2.2.take (i+1)).map (λF=>ps.map λp=>decide (p.1∈F))=(e.W.2.2.2.take i).map (λF=>ps.map λp=>decide (p.1∈F))++[ps.map λp=>decide (p.1∈e.W.2.2.2[i])]:=by rw[QY,Pq f,Qe];rfl
  refine UC ?_;refine fe kin.h4 f TV (λu q L=>?_);obtain⟨ro,rc,rfl,m⟩:=L.sl;clear L;generalize e.W.2.2.2[i]=F at*;refine UE ?_;refine eM (fv:=[]) rfl rfl rfl rfl (pm w (n:=e.W.2.1.length) (of:=Prod.fst) kb1 kblk c hn kz inn klo m G TK (λw p N=>VE (cs:=[]) (pG w p)) (λp N=>(‹Em w0 B e a K _ nv fv ps›.ins p N).1) M (by rw[P4,Qb];omega) (λg E=>by have:=(klt g E).1;omega)) ?_;rintro _ w' ⟨ov',vs',o,D,inn4,J,C⟩;rw[<-z]at inn4;refine Ui ?_;exact m5 (i+1,ov',vs') TJ ⟨f,o,D,inn4,d.then J (λb j=>j.imp id (λj=>(klt b j).1))⟩ TP
 obtain rfl:i=e.W.2.2.2.length:=by simp at h;omega
 rw[Q0]at inn;clear h hi;refine UU ?_;refine p8 (S:=Nat×Value×List Raw) (λs=>[(1,Uc b1),(3,Uc l),(4,.func (.func 202) [].toArray [Uc b1,Uc l].toArray),(34,.slice e.k5 e.A.2.2.2.2.length e.d5),(35,Ub e.A.2.2.2.2.length),(36,Ub s.1)])
  (λs w=>s.1<=e.A.2.2.2.2.length/\Blk w l 200 [s.2.1]/\Own w x.heap.size 80 dh s.2.1 s.2.2/\InnR w (λb=>b=l\/s.2.1.ownBlock=some b) s.2.2 ((e.W.2.2.2.map λF=>ps.map λp=>decide (p.1∈F))++(e.A.2.2.2.2.take s.1).map λF=>ps.map λp=>decide (p.2∈F))/\Chg (λb=>b=l) x w)
  (λs=>e.A.2.2.2.2.length -s.1) (0,ov,vs) TJ ⟨RU _,c,hn,by simpa using inn,d⟩ ?_
 clear c hn inn d kb1 kblk klo kin kz klt;rintro⟨i,ov,vs⟩ w ⟨hi,c,hn,inn,d⟩;dsimp only at hi c hn inn d⊢;obtain⟨kb1,kblk,klo,kin⟩:=R d;have kz:=(k d).2;have klt:=λg E=>hn.lt g E;refine UR ?_;apply ld rfl<;>intro h
 .have f:i<e.A.2.2.2.2.length:=by simp at h;omega
  have G:=W _ (PL f);have z:(e.A.2.2.2.2.take (i+1)).map (λF=>ps.map λp=>decide (p.2∈F))=(e.A.2.2.2.2.take i).map (λF=>ps.map λp=>decide (p.2∈F))++[ps.map λp=>decide (p.2∈e.A.2.2.2.2[i])]:=by rw[QY,Pq f,Qe];rfl
  refine UC ?_;refine fe kin.g5 f TV (λu q L=>?_);obtain⟨ro,rc,rfl,m⟩:=L.sl;clear L;generalize e.A.2.2.2.2[i]=F at*;refine UE ?_;refine eM (fv:=[]) rfl rfl rfl rfl (pm w (n:=e.A.2.1.length) (of:=Prod.snd) kb1 kblk c hn kz inn klo m G TK (λw p N=>VE (cs:=[]) (pH w p)) (λp N=>(‹Em w0 B e a K _ nv fv ps›.ins p N).2) M (by rw[PX,P4,P4,Qb];omega) (λg E=>by have:=(klt g E).1;omega)) ?_;rintro _ w' ⟨ov',vs',o,D,inn4,J,C⟩;rw[OG,<-z]at inn4;refine Ui ?_;exact m5 (i+1,ov',vs') TJ ⟨f,o,D,inn4,d.then J (λb j=>j.imp id (λj=>(klt b j).1))⟩ TP
 obtain rfl:i=e.A.2.2.2.2.length:=by simp at h;omega
 rw[Q0]at inn;obtain⟨so,sc,rfl,hs⟩:=inn.old hn;refine UU ?_;exact d6 ⟨so,sc,rfl,hs,V3 y d (λb j=>by omega)⟩
class IsKx(P:Program)(k:TypeId):Prop where
 ok:Go.Maps.Keyed P k
theorem IsKx.int{k:TypeId}(h:P.underlying k=some (.int .i64)):IsKx P k:=⟨Go.Maps.int_keyed h⟩
def KeyV.int{k:TypeId}(h:P.underlying k=some (.int .i64))(a: -9223372036854775808<=x/\x<=9223372036854775807):KeyV P k (.int .i64 x):=by refine⟨.int .i64 x,?_⟩;unfold keyOf;rw[h];dsimp only;unfold mapKey;rw[h];dsimp only;rw[Tn ⟨rfl,by simp[Lit.wf,IntKind.min,IntKind.max,IntKind.signed,IntKind.bits];omega⟩]
def MapI(P:Program)(k:TypeId)(w:World)(b:Nat)(kv:List (Value×Value)):Prop:=
 ∃(a:Array MapEntry) (clock:Nat),w.heap[b]?=some (.map a clock)/\a.toList.map (λe=>(e.key,e.val))=kv/\(∀x∈kv,KeyV P k x.1)/\(kv.map Prod.fst).Nodup
section
variable {P:Program}{k:TypeId}{w w':World}{b:Nat}{kv:List (Value×Value)}
theorem MapI.lt(h:MapI P k w b kv):b<w.heap.size:=by obtain⟨c,clock,a,_⟩:=h;exact(NB.1 a).1
theorem MapI.at(h:MapI P k w b kv)(a:w'.heap[b]?=w.heap[b]?):MapI P k w' b kv:=by obtain⟨c,clock,h1,h2⟩:=h;exact⟨c,clock,a.trans h1,h2⟩
theorem MapI.ext(h:MapI P k w b kv)(a:Ext w w'):MapI P k w' b kv:=h.at (a.block b h.lt)
theorem MapI.kept{row:Option Nat}(h:MapI P k w b kv)(c:w.grownBy w' row)(a:some b≠row):MapI P k w' b kv:=h.at (c.block b h.lt a)
theorem MapI.made(w:World):MapI P k (w.alloc (.map #[] 0)) w.heap.size []:=
 ⟨#[],0,Tk w _,rfl,λx h=>by simp at h,List.Pairwise.nil⟩
theorem HC{t e:TypeId}{x:Value}[r:IsM P t k e][o:IsKx P k][E:IsZ0 P e](h:MapI P k w b kv)(m:KeyV P k x):
  (x∉kv.map Prod.fst/\(Instr.lookup t (.map (some b)) x true).run P w=.ok (.tuple #[.int .i64 0,.bool false]) w)\/
  ∃(j:Nat) (hj:j<kv.length),kv[j].1=x/\(Instr.lookup t (.map (some b)) x true).run P w=.ok (.tuple #[kv[j].2,.bool true]) w/\(Instr.lookup t (.map (some b)) x false).run P w=.ok kv[j].2 w:=by
 obtain⟨p,clock,C,a,s,F⟩:=h;obtain⟨l,m⟩:=m;obtain⟨i,h1,h2⟩:=R2.1 E.ok;have q:(zeroValue e).run P w=.ok (.int .i64 0) w:=by simp[zeroValue,typeInfo,h1,h2]
 have c:∀e∈p.toList,∃l,keyOf P k e.key=some l:=λe B=>s (e.key,e.val) (a▸Qv.2 ⟨e,B,rfl⟩);obtain⟨g1,g2⟩|⟨j,H,g1,g2,g3⟩:=o.ok.find w m p.toList c
 .refine .inl ⟨λD=>?_,by simp[Instr.lookup,TA r.ok,Q6 C,o.ok.check w _ m,g1,q,Result.andThen]⟩;rw[<-a,Qh]at D;obtain⟨e,B,A⟩:=Qv.1 D;exact g2 e B A
 .have hj:j<kv.length:=by rw[<-a,P4];exact(Pt.1 g2).1
  have G:j<p.toList.length:=(Pt.1 g2).1;have f:p.toList[j]=H:=(Pt.1 g2).2;subst a;refine .inr ⟨j,hj,?_,?_,?_⟩
  .rw[PK,<-g3,f]
  .rw[PK,f];simp[Instr.lookup,TA r.ok,Q6 C,o.ok.check w _ m,g1,Result.andThen]
  .rw[PK,f];simp[Instr.lookup,TA r.ok,Q6 C,o.ok.check w _ m,g1,Result.andThen]
theorem HE{t e:TypeId}{x y:Value}[F:IsM P t k e][C:IsKx P k](h:MapI P k w b kv)(E:KeyV P k x)(hn:x∉kv.map Prod.fst):
  ∃w',(Instr.mapUpdate t (.map (some b)) x y).run P w=.ok () w'/\MapI P k w' b (kv++[(x,y)])/\w.grownBy w' (some b):=by
 obtain⟨B,clock,A,o,q,r⟩:=h;obtain⟨l,f⟩:=E;have m:∀e∈B.toList,∃l,keyOf P k e.key=some l:=λe G=>q (e.key,e.val) (o▸Qv.2 ⟨e,G,rfl⟩);have s:=(NB.1 A).1;obtain⟨g1,g2⟩|⟨j,I,g1,g2,g3⟩:=C.ok.find w f B.toList m
 .refine⟨_,by simp[Instr.mapUpdate,TA F.ok,Q6 A,C.ok.check w false f,g1,Q7 _ A,Result.andThen];rfl,?_,?_⟩
  .refine⟨B.push ⟨x,y,clock⟩,clock+1,by simp[s],by simp[o],λz p=>?_,?_⟩
   .obtain p|p:=Ql.1 p
    .exact q z p
    .rw[QC]at p;subst p;exact⟨l,f⟩
   .rw[Qe,QF];refine⟨r,by simp,λa H c D e=>?_⟩;simp at D;subst D;subst e;exact hn H
  .exact⟨rfl,rfl,rfl,by simp,λi _ hi=>by simp only[NF];rw[Tm (λe=>hi (by rw[e]))]⟩
 .refine absurd ?_ hn;rw[<-o,Qh];exact Qv.2 ⟨I,Qx g2,g3⟩
end
section
variable {P:Program}{Q:Exit->Act->World->Prop}{n:Nat}{σ:Sg}{w:World}{L rest:List Oper}{d:Nat}{ty:TypeId}{pos:String}{af:Array Edge}{g:Option (Nat×Bool)}{t k e:TypeId}{b:Nat}{kv:List (Value×Value)}{x y z:Operand}{v u:Value}
theorem fK(l:gd L σ ⟨some d,.lookup t x y true,ty,pos,af,g⟩=some true)(hd:ble (d+1) n=true)(i:ev σ x=some (.map (some b)))(f:ev σ y=some v)[p:IsM P t k e][q:IsKx P k][o:IsZ0 P e]
  (h:MapI P k w b kv) (m:KeyV P k v)
  (h1:v∉kv.map Prod.fst->WL P L Q rest n ((d,.tuple ⟨[.int .i64 0,.bool false]⟩)::σ) w)
  (h2:∀(j:Nat) (hj:j<kv.length),kv[j].1=v->WL P L Q rest n ((d,.tuple ⟨[kv[j].2,.bool true]⟩)::σ) w):
  WL P L Q (⟨some d,.lookup t x y true,ty,pos,af,g⟩::rest) n σ w:=by
 rcases HC (t:=t) h m with⟨g1,g2⟩|⟨j,hj,g1,g2,_⟩
 .refine VG l hd (λa c=>?_) (h1 g1);simp[execOp,c.ev i,c.ev f,g2]
 .refine VG l hd (λa c=>?_) (h2 j hj g1);simp[execOp,c.ev i,c.ev f,g2]
theorem fL{j:Nat}(hj:j<kv.length)(c:kv[j].1=v)(s:gd L σ ⟨some d,.lookup t x y false,ty,pos,af,g⟩=some true)(hd:ble (d+1) n=true)(p:ev σ x=some (.map (some b)))(o:ev σ y=some v)[B:IsM P t k e][C:IsKx P k][A:IsZ0 P e]
  (h:MapI P k w b kv) (q:KeyV P k v)
  (r:WL P L Q rest n ((d,kv[j].2)::σ) w):WL P L Q (⟨some d,.lookup t x y false,ty,pos,af,g⟩::rest) n σ w:=by
 have f:(kv.map Prod.fst).Nodup:=by obtain⟨_,_,_,_,_,h⟩:=h;exact h
 rcases HC (t:=t) h q with⟨g1,g2⟩|⟨i,hi,g1,_,g3⟩
 .exact absurd (Qv.2 ⟨kv[j],PL hj,c⟩) g1
 .have l:i=j:=by
   have h1:(kv.map Prod.fst)[i]'(by simpa using hi)=(kv.map Prod.fst)[j]'(by simpa using hj):=by simp[g1,c]
   exact(PJ f).1 h1
  subst l;refine VG s hd (λa m=>?_) r;simp[execOp,m.ev p,m.ev o,g3]
theorem fP(o:gd L σ ⟨none,.mapUpdate t x y z,ty,pos,af,g⟩=some true)(j:ev σ x=some (.map (some b)))(i:ev σ y=some v)(c:ev σ z=some u)[p:IsM P t k e][q:IsKx P k]
  (h:MapI P k w b kv) (l:KeyV P k v) (hn:v∉kv.map Prod.fst)
  (m:∀w',MapI P k w' b (kv++[(v,u)])->w.grownBy w' (some b)->WL P L Q rest n σ w'):
  WL P L Q (⟨none,.mapUpdate t x y z,ty,pos,af,g⟩::rest) n σ w:=by
 obtain⟨w',g1,g2,g3⟩:=HE (t:=t) (y:=u) h l hn;refine fV o (λa f=>?_) (m w' g2 g3);simp[execOp,f.ev j,f.ev i,f.ev c,g1]
theorem fO(c:gd L σ ⟨some d,.makeMap t none,ty,pos,af,g⟩=some true)(hd:ble (d+1) n=true)
  (h:MapI P k (w.alloc (.map #[] 0)) w.heap.size []->WL P L Q rest n ((d,.map (some w.heap.size))::σ) (w.alloc (.map #[] 0))):
  WL P L Q (⟨some d,.makeMap t none,ty,pos,af,g⟩::rest) n σ w:=by
 refine VG c hd (λa f=>?_) (h (MapI.made w));simp[execOp,Instr.makeMap]
end
open Go.Shelf
def GV:Ren:=⟨λ_=>206,λx=>if beq x 3=true then 3 else if beq x 4=true then 4 else if beq x 28=true then 39 else 0,λx=>x⟩
set_option maxRecDepth 100000 in
def GU:Lays.n112 Vy GV where
 mixed:=by kernel_rfl
 f112:=(func206).trans TL
 t0:=by kernel_rfl
 a0:=λw=>rfl
 z0:=λw=>rfl
 v0:=λw=>rfl
 t3:=Sz
 a3:=Sf
 z3:=Sk
 v3:=SQ
 t4:=SH
 a4:=Sh
 z4:=Sn
 v4:=SS
 t28:=SF
 a28:=isAgg39
 z28:=sizeOf39
 v28:=zeroValue39
def oP{xs:List Int}(h:Elems w F r xs):r=xs.map λx=>Ub x:=by refine O3 (by rw[P4,h.1];show _*1=_;omega) λi h1 h2=>?_;rw[P4]at h2;have h3:=h.2 i h2;have b:sz Int=1:=rfl;rw[b,RE]at h3;have h4:=Gl h3;have a:=S9 (λl:List Value=>l[0]?) h4;simp only[PA (show 0<1 by omega),Pp,Re,Pq h1]at a;simpa using a
def oQ(w:World)(F:Nat->Prop):∀xs:List Int,Elems w F (xs.map λx=>Ub x) xs
 |[]=>VW
 |x::r=>by have:=(Wd (Gn w F x)).append (oQ w F r);simpa using this
def GW(w:World){xs:List Int}(a:Own w B 3 dh v xs):
  Rt Vy 206 [v].toArray w λu w'=>u=.tuple #[]/\Own w' B 3 dh v xs.reverse/\w.grownBy w' v.ownBlock:=by
 have z:w.grownBy w v.ownBlock:=⟨rfl,rfl,rfl,Rq _,λ_ _ _=>rfl⟩;obtain⟨rfl,rfl⟩|⟨g,off,cap,cur,rfl,a⟩:=a
 .refine Oa (Any.slices_Reverse_int_empty GU none 0 w) ?_;rintro e w' ⟨rfl,rfl⟩;exact⟨_,rfl,rfl,r3,z⟩
 .have m:sz Int=1:=rfl;have i:=a.fit;have t:=a.le;have f:=a.mx;have l:=oP a.el;rw[m,RE]at i l;have b:∀j (hj:j<xs.length),cur[off+j]?=some (Ub xs[j]):=λj hj=>by
   have h1:((cur.toList.drop off).take xs.length)[j]?=(xs.map λx=>Ub x)[j]?:=by rw[l]
   rw[PA hj,Pp,Pu,Pq hj]at h1;simpa using h1
  have A:Sort.Holds (Value.int .i64) w g off xs.toArray:=λj hj=>by
   have h:j<xs.length:=by simpa using hj
   constructor
   .have:xs.toArray[j]! =xs[j]:=by simp[h]
    rw[this];simp[World.cell?,a.blk,b j h]
   .simp[World.frozen?,a.blk]
  refine Oa (Any.slices_Reverse_int GU g off cap xs w A (by unfold maxLen at f;omega)) ?_;rintro e w' ⟨rfl,n,rfl⟩;have d:(Sort.putRow (Value.int .i64) (Sort.ahead w n) g off xs.reverse.toArray).heap[g]?=some (.cells (Sort.putCells (Value.int .i64) off xs.reverse.toArray cur) 3 (0,0)):=by show(w.heap.modify g _)[g]?=_;rw[ND,Tn rfl,a.blk];rfl
  have c:∀k,k≠g->(Sort.putRow (Value.int .i64) (Sort.ahead w n) g off xs.reverse.toArray).heap[k]?=w.heap[k]?:=λk y=>by show(w.heap.modify g _)[k]?=_;rw[ND,Tm (λe=>y e.symm)]
  have p:(Sort.putRow (Value.int .i64) (Sort.ahead w n) g off xs.reverse.toArray).heap.size=w.heap.size:=by show(w.heap.modify g _).size=_;rw[NK]
  have s:(Sort.putRow (Value.int .i64) (Sort.ahead w n) g off xs.reverse.toArray).os=w.os:=rfl;have o:(Sort.putRow (Value.int .i64) (Sort.ahead w n) g off xs.reverse.toArray).tape=w.tape:=rfl;have r:(Sort.putRow (Value.int .i64) (Sort.ahead w n) g off xs.reverse.toArray).output=w.output:=rfl;generalize Sort.putRow (Value.int .i64) (Sort.ahead w n) g off xs.reverse.toArray=w' at*;have q:(Sort.putCells (Value.int .i64) off xs.reverse.toArray cur).size=cur.size:=by simp[Sort.putCells]
  refine⟨_,rfl,rfl,.inr ⟨g,off,cap,_,by rw[P9],⟨d,a.ge,a.nF,by simpa using t,f,by rw[q,m];omega,?_⟩⟩,⟨s,o,r,by omega,λk _ y=>c k (λe=>y (by rw[e];rfl))⟩⟩;have C:(((Sort.putCells (Value.int .i64) off xs.reverse.toArray cur).toList.drop off).take (xs.reverse.length*sz Int))=xs.reverse.map λx=>Ub x:=by
   rw[m,RE];refine O4 λj=>?_;by_cases hj:j<xs.length
   .rw[PA (by simpa using hj),Pp,NH,Sort.putCells,NC,b j hj,Pu,Pq (by simpa using hj)];simp[hj,show off+j<off+xs.length by omega]
   .rw[Pr (by simp;try omega),Pr (by simp;try omega)]
  rw[C];exact oQ _ _ _
def aP{to al:Nat->Bool}{up:UP}{h:Nat}{x:Int×Int}(hh:h<=up.length)
  (hd:∀i (hi:i<up.length),i<h->to up[i].1.toNat=false/\∀k∈g.getD up[i].1.toNat [],al k.toNat=true->k∈z_ up):
  ∀i (hi:i<(up++[x]).length),i<h->to (up++[x])[i].1.toNat=false/\∀k∈g.getD (up++[x])[i].1.toNat [],al k.toNat=true->k∈z_ (up++[x]):=λi hi a=>by
 have b:i<up.length:=by omega
 rw[PB b];refine⟨(hd i b a).1,λk c d=>?_⟩;unfold z_;rw[Qe];exact Qm _ ((hd i b a).2 k c d)
instance:IsM Vy 282 3 3:=⟨underlying282⟩
instance:IsZ0 Vy 3:=⟨by kernel_rfl⟩
instance:IsKx Vy 3:=IsKx.int Sz
def An(up:UP):List (Value×Value):=up.map λx=>(Value.int .i64 x.1,Value.int .i64 x.2)
def Ap{up:UP}{x:Int×Int}:An up++[(Ub x.1,Ub x.2)]=An (up++[x]):=by unfold An;simp
def kvU_key{up:UP}:Ub x∈(An up).map Prod.fst↔x∈z_ up:=by
 unfold An z_;simp only[Qh,Qv,Function.comp];constructor
 .rintro⟨a,b,e⟩;injection e with _ e;exact⟨a,b,e⟩
 .rintro⟨a,b,e⟩;exact⟨a,b,by rw[e]⟩
def Ao{up:UP}:(An up).length=up.length:=by unfold An;simp
def zL(h:0<=x/\x<9223372036854775807):KeyV Vy 3 (Ub x):=KeyV.int Sz ⟨by omega,by omega⟩
def pR(w0:World){x0 x2 x3 x4 x5 x6 x7 x8 x9 x10 x12 fv:Value}{fo:Option Addr}{fc:Nat}{fr part:List Int}{only:Int}{to:Nat->Bool}
  (hb:Blk w0 B 223 [x0,A,x2,x3,x4,x5,x6,x7,x8,x9,x10,.slice C g.length a,x12]) (o:Sl w0 (dk w0) C a g) (hf:Sl w0 (dk w0) fo fc fr) (hp:Sl w0 (dk w0) D K part)
  (hG:okG g) (hfr:Dy g.length fr) (hpl:part.length=g.length) (hN:g.length<=1228800)
  (hto:∀w,Ext w0 w->∀n:Nat,n<g.length->FnV Vy fv [Ub (n:Int)] w λv w'=>v=.bool (to n)/\Ext w w'):
  Rt Vy 126 [Uc B,.slice fo fr.length fc,fv,.slice D part.length K,Ub only].toArray w0 λv w'=>∃r,Own w' w0.heap.size 3 dh v r/\((r=[]/\gj g fr to (gy part only))\/WyOK g fr to (gy part only) r)/\Ext w0 w':=by
 have hfl:=hf.len63;refine dV func126 ntmps126 rfl rfl (UR ?_);refine fO (k:=3) rfl rfl (λhmap=>?_);have e1:Ext w0 (w0.alloc (.map #[] 0)):=V6 w0 _;generalize hmb:w0.heap.size=mb at*;generalize w0.alloc (.map #[] 0)=Q at*;have lmb:=hmap.lt;have hle1:=e1.size;refine Ut ?_;refine p8 (S:=Nat×UP×Value) (λs=>[(0,Uc B),(2,fv),(3,.slice D part.length K),(4,Ub only),(11,.map (some mb)),(12,s.2.2),(24,.slice fo fr.length fc),(25,Ub fr.length),(26,Ub s.1)])
  (λs w=>s.1<=fr.length/\WyC g fr (gy part only) s.2.1/\(∀x∈fr.take s.1,x∈z_ s.2.1)/\MapI Vy 3 w mb (An s.2.1)/\Own w Q.heap.size 3 dh s.2.2 (z_ s.2.1)/\Ext w0 w/\Q.heap.size<=w.heap.size) (λs=>fr.length -s.1) (0,[],.slice none 0 0) TJ ⟨RU _,WyC.nil,(λx J=>by simp at J),hmap,r3,e1,Rq _⟩ ?_
 clear hmap;rintro⟨i,up,tv⟩ w2 ⟨hi,I,c,L,G,z,T⟩;dsimp only at hi I c L G z T⊢;have hul:=I.len;have hkl:(z_ up).length=up.length:=P4 _;have H:=λg o=>G.lt g o;refine UR ?_;apply ld rfl<;>intro h
 .have Y:i<fr.length:=by simp at h;omega
  have hxr:=hfr _ (PL Y);have htk:fr.take (i+1)=fr.take i++[fr[i]]:=Q4 Y;have hxm:=PL Y;refine UC ?_;refine e_ (hf.up z) Y rfl TV (λq=>?_);generalize fr[i]=x at*;refine UR ?_;refine fK rfl rfl rfl rfl L (zL ⟨hxr.1,by omega⟩) (λhn=>?_) (λj hj hjx=>?_)
  .have hn:=λh=>hn (kvU_key.2 h);refine UY ?_;refine fP rfl rfl rfl rfl L (zL ⟨hxr.1,by omega⟩) (λh=>hn (kvU_key.1 h)) (λw3 W hg3=>?_);rw[Ap (x:=(x,-1))]at W;have ho3:=G.keptN hg3 (λg o e=>by have:=(H g o).1;have:=R4 e;omega);have O:Ext w0 w3:=z.grown hg3 z.size TZ;have hz3:=hg3.size;refine UR ?_;refine eF (F:=dh) (yv:=x) rfl rfl TV rfl rfl TV ho3 T7 TK TY TN TQ TK (λtv' w4 p ho4 hg4 hnb4=>?_);have hM4:=W.kept hg4 (λe=>by have:=(H _ e.symm).1;omega);have X:Ext w0 w4:=O.grown hg4 O.size (λg o=>by have:=(H g o).1;omega);have R:=hg4.size;refine Ui ?_;refine m5 (i+1,up++[(x,-1)],tv') TJ ⟨Y,I.push hn hxr (.inl ⟨rfl,hxm⟩),λy M=>?_,hM4,by simpa[z_]using ho4,X,by omega⟩ TP;dsimp only at M⊢;rw[htk]at M;unfold z_;rw[Qe];obtain M|M:=Ql.1 M
   .exact Qm _ (c y M)
   .rw[QC]at M;subst M;exact Qn _ TO
  .have hxk:x∈z_ up:=kvU_key.1 (by rw[<-hjx];exact Qv.2 ⟨_,PL hj,rfl⟩);refine UA ?_;refine m5 (i+1,up,tv) TJ ⟨Y,I,λy M=>?_,L,G,z,T⟩ TP;dsimp only at M⊢;rw[htk]at M;obtain M|M:=Ql.1 M
   .exact c y M
   .rw[QC]at M;subst M;exact hxk
 obtain rfl:i=fr.length:=by simp at h;omega
 rw[Q0]at c;clear h hi;refine U1 ?_;refine p8 (S:=Nat×UP×Value) (λs=>[(0,Uc B),(2,fv),(3,.slice D part.length K),(4,Ub only),(11,.map (some mb)),(12,s.2.2)])
  (λs w=>s.1<=s.2.1.length/\WyC g fr (gy part only) s.2.1/\(∀x∈fr,x∈z_ s.2.1)/\(∀i (hi:i<s.2.1.length),i<s.1->to s.2.1[i].1.toNat=false/\∀k∈g.getD s.2.1[i].1.toNat [],gy part only k.toNat=true->k∈z_ s.2.1)/\MapI Vy 3 w mb (An s.2.1)/\Own w Q.heap.size 3 dh s.2.2 ((z_ s.2.1).drop s.1)/\Ext w0 w/\Q.heap.size<=w.heap.size) (λs=>g.length -s.1) (0,up,tv) TJ ⟨RU _,I,c,λi hi h=>absurd h TO,L,by simpa using G,z,T⟩ ?_
 clear I c L G z T hul hkl H;rintro⟨h,up,tv⟩ w2 ⟨hh,I,c,hD,L,G,z,T⟩;dsimp only at hh I c hD L G z T⊢;have hul:=I.len;have hkl:(z_ up).length=up.length:=P4 _;have H:=λg o=>G.lt g o;have hdl:((z_ up).drop h).length=up.length -h:=by rw[PZ,hkl]
 refine U5 ?_;apply ld rfl<;>intro P
 .have f:h<up.length:=by rw[hdl]at P;simp at P;omega
  have hhk:h<(z_ up).length:=by omega
  have hd0:0<((z_ up).drop h).length:=by omega
  have hget:((z_ up).drop h)[0]=up[h].1:=by rw[PH];simp[z_]
  have hnr:=I.rg _ (Qv.2 ⟨up[h],PL f,rfl⟩);refine UB ?_;refine fh (i:=0) rfl rfl rfl rfl rfl G hd0 TV (λu q hu=>?_);obtain rfl:=hu.int;rw[hget];obtain⟨n,hn⟩:∃n:Nat,up[h].1=(n:Int):=⟨up[h].1.toNat,by omega⟩;rw[hn];rw[hn]at hnr;refine UR ?_;refine eV (α:=Int) 1 rfl rfl rfl rfl rfl G TK (λtv2 ho2 hob=>?_);rw[OW]at ho2;refine UR ?_;refine eL rfl rfl rfl rfl (hto w2 z n TK) ?_;rintro _ w3 ⟨rfl,e3⟩;have W:=L.ext e3;have ho3:=ho2.extN e3;have O:=z.trans e3;have hz3:Q.heap.size<=w3.heap.size:=Rr T e3.size;have hlt3:=λg o=>ho3.lt g o;cases htn:to n
  .
   have hgn:n<g.length:=by omega
   have hrow:g.getD n []=g[n]:=by rw[Pl,Pq hgn];rfl
   have hrr:Dy g.length g[n]:=hG _ (PL hgn);have hb3:=hb.ext O;refine UM ?_;refine fd (i:=n) rfl rfl rfl rfl rfl (o.mono (w':=w3) O.block (F':=dk w0) T0) hgn TV (λu q hu=>?_);obtain⟨ro,rc,rfl,hrs⟩:=hu.sl;generalize g[n]=row at*;have hrl:=hrs.len63;refine Uz ?_;refine p8 (S:=Nat×UP×Value) (λs=>[(0,Uc B),(2,fv),(3,.slice D part.length K),(4,Ub only),(11,.map (some mb)),(12,s.2.2),(17,Ub n),(74,.slice ro row.length rc),(75,Ub row.length),(76,Ub s.1)])
    (λs w=>s.1<=row.length/\WyC g fr (gy part only) s.2.1/\(∀x∈fr,x∈z_ s.2.1)/\(∀i (hi:i<s.2.1.length),i<h->to s.2.1[i].1.toNat=false/\∀k∈g.getD s.2.1[i].1.toNat [],gy part only k.toNat=true->k∈z_ s.2.1)/\(∃f:h<s.2.1.length,s.2.1[h].1=(n:Int))/\(∀k∈row.take s.1,gy part only k.toNat=true->k∈z_ s.2.1)/\MapI Vy 3 w mb (An s.2.1)/\Own w Q.heap.size 3 dh s.2.2 ((z_ s.2.1).drop (h+1))/\Ext w0 w/\Q.heap.size<=w.heap.size) (λs=>row.length -s.1) (0,up,tv2) TJ ⟨RU _,I,c,hD,⟨f,hn⟩,(λk hk=>by simp at hk),W,by simpa[Q8]using ho3,O,hz3⟩ ?_
   clear I c hD W ho3 hul P ho2 hob hlt3;rintro⟨j,up,tv⟩ w4 ⟨hj,I,c,hD,⟨f,hn⟩,hpt,L,G,d,R⟩;dsimp only at hj I c hD f hn hpt L G d R⊢;have hul:=I.len;have hkl:(z_ up).length=up.length:=P4 _;have H:=λg o=>G.lt g o;refine UR ?_;apply ld rfl<;>intro P
   .have U:j<row.length:=by simp at P;omega
    have hkr:=hrr _ (PL U);have hkm:row[j]∈g.getD n []:=by rw[hrow];exact PL U
    have htk:row.take (j+1)=row.take j++[row[j]]:=Q4 U;have skip:∀(J:gy part only row[j].toNat=true->row[j]∈z_ up),∀k∈row.take (j+1),gy part only k.toNat=true->k∈z_ up:=λJ k hk Z=>by
     rw[htk]at hk;obtain hk|hk:=Ql.1 hk
     .exact hpt k hk Z
     .rw[QC]at hk;subst hk;exact J Z
    refine UC ?_;refine e_ (hrs.mono (w':=w4) (λb hb=>(d.block b hb).trans (O.block b hb).symm) (F':=dk w0) T0) U rfl TV (λq=>?_);generalize row[j]=k at*;obtain⟨kn,rfl⟩:∃m:Nat,k=(m:Int):=⟨k.toNat,by omega⟩;have hkp:kn<part.length:=by omega
    have hpk:part.getD kn 0=part[kn]:=by rw[Pl,Pq hkp];rfl
    rw[Oy]at skip;refine UR ?_;refine fK rfl rfl rfl rfl L (zL ⟨hkr.1,by omega⟩) (λhnk=>?_) (λi hi hix=>?_)
    .have hnk:=λh=>hnk (kvU_key.2 h);have hpush:∀(Z:gy part only kn=true) (E:World) (tv':Value),MapI Vy 3 E mb (An (up++[((kn:Int),(n:Int))]))->Own E Q.heap.size 3 dh tv' ((z_ up).drop (h+1)++[(kn:Int)])->Ext w0 E->Q.heap.size<=E.heap.size->
       (j+1<=row.length/\WyC g fr (gy part only) (up++[((kn:Int),(n:Int))])/\(∀x∈fr,x∈z_ (up++[((kn:Int),(n:Int))]))/\(∀i (hi:i<(up++[((kn:Int),(n:Int))]).length),i<h->to (up++[((kn:Int),(n:Int))])[i].1.toNat=false/\∀k∈g.getD (up++[((kn:Int),(n:Int))])[i].1.toNat [],gy part only k.toNat=true->k∈z_ (up++[((kn:Int),(n:Int))]))/\(∃f:h<(up++[((kn:Int),(n:Int))]).length,(up++[((kn:Int),(n:Int))])[h].1=(n:Int))/\(∀k∈row.take (j+1),gy part only k.toNat=true->k∈z_ (up++[((kn:Int),(n:Int))]))/\MapI Vy 3 E mb (An (up++[((kn:Int),(n:Int))]))/\Own E Q.heap.size 3 dh tv' ((z_ (up++[((kn:Int),(n:Int))])).drop (h+1))/\Ext w0 E/\Q.heap.size<=E.heap.size):=by
      intro Z E tv' t ho5 N hz5;have hin:∀x,x∈z_ up->x∈z_ (up++[((kn:Int),(n:Int))]):=λx J=>by unfold z_;rw[Qe];exact Qm _ J
      refine⟨U,I.push hnk hkr (.inr ⟨h,f,by rw[hn],by rw[hn,Oy];exact hkm,by rw[Oy];exact Z⟩),λx J=>hin x (c x J),aP TK hD,⟨by simp;omega,by rw[PB f];exact hn⟩,λx J hxa=>?_,t,?_,N,hz5⟩
      .rw[htk]at J;obtain J|J:=Ql.1 J
       .exact hin x (hpt x J hxa)
       .rw[QC]at J;subst J;unfold z_;rw[Qe];exact Qn _ TO
      .rw[show(z_ (up++[((kn:Int),(n:Int))])).drop (h+1)=(z_ up).drop (h+1)++[(kn:Int)] by unfold z_;rw[Qe,OU TR];rfl];exact ho5
     have hdlen:((z_ up).drop (h+1)).length<=1228800:=by rw[PZ];omega
     have ins:∀(E:World) (t:MapI Vy 3 E mb (An up++[(Ub (kn:Int),Ub (n:Int))])) (l:w4.grownBy E (some mb)),Own E Q.heap.size 3 dh tv ((z_ up).drop (h+1))/\Ext w0 E/\Q.heap.size<=E.heap.size:=λE t l=>
      ⟨G.keptN l (λg o e=>by have:=(H g o).1;have:=R4 e;omega),d.grown l d.size TZ,by have:=l.size;omega⟩
     by_cases hon:only<0
     .have Z:gy part only kn=true:=by unfold gy;rw[Tc hon];rfl
      refine UR ?_;rw[Tc hon];refine Us ?_;refine fP rfl rfl rfl rfl L (zL ⟨hkr.1,by omega⟩) (λh=>hnk (kvU_key.1 h)) (λE t l=>?_);obtain⟨ho5,N,hz5⟩:=ins E t l;refine UR ?_;refine eF (F:=dh) (yv:=(kn:Int)) rfl rfl TV rfl rfl TV ho5 T7 TK TY TN TQ TK (λtv' w6 p ho6 V hnb6=>?_);have hM6:=t.kept V (λe=>by have:=(H _ e.symm).1;omega);rw[Ap (x:=((kn:Int),(n:Int)))]at hM6;refine Ui ?_;exact m5 (j+1,up++[((kn:Int),(n:Int))],tv') TJ (hpush Z w6 tv' hM6 ho6 (N.grown V N.size (λg o=>by have:=(H g o).1;omega)) (by have:=V.size;omega)) TP
     by_cases hpe:part[kn]=only
     .have Z:gy part only kn=true:=by unfold gy;rw[hpk,Tc hpe,N8]
      refine UR ?_;rw[Ta hon];refine U9 ?_;refine e_ (hp.at d) hkp rfl TV (λq=>?_);rw[hpe];refine Ug ?_;refine ld rfl (λ_=>U4 ?_) (λJ=>by simp at J);refine fP rfl rfl rfl rfl L (zL ⟨hkr.1,by omega⟩) (λh=>hnk (kvU_key.1 h)) (λE t l=>?_);obtain⟨ho5,N,hz5⟩:=ins E t l;refine UR ?_;refine eF (F:=dh) (yv:=(kn:Int)) rfl rfl TV rfl rfl TV ho5 T7 TK TY TN TQ TK (λtv' w6 p ho6 V hnb6=>?_);have hM6:=t.kept V (λe=>by have:=(H _ e.symm).1;omega);rw[Ap (x:=((kn:Int),(n:Int)))]at hM6;refine Ui ?_;exact m5 (j+1,up++[((kn:Int),(n:Int))],tv') TJ (hpush Z w6 tv' hM6 ho6 (N.grown V N.size (λg o=>by have:=(H g o).1;omega)) (by have:=V.size;omega)) TP
     .have Z:¬gy part only kn=true:=by unfold gy;rw[hpk,Ta hpe,Ta hon];decide
      refine UR ?_;rw[Ta hon];refine U9 ?_;refine e_ (hp.at d) hkp rfl TV (λq=>?_);refine Ug ?_;refine ld rfl (λJ=>absurd (by simpa using J) hpe) (λ_=>US ?_);exact m5 (j+1,up,tv) TJ ⟨U,I,c,hD,⟨f,hn⟩,skip (λh=>absurd h Z),L,G,d,R⟩ TP
    .have hxk:(kn:Int)∈z_ up:=kvU_key.1 (by rw[<-hix];exact Qv.2 ⟨_,PL hi,rfl⟩);refine UA ?_;exact m5 (j+1,up,tv) TJ ⟨U,I,c,hD,⟨f,hn⟩,skip (λ_=>hxk),L,G,d,R⟩ TP
   .obtain rfl:j=row.length:=by simp at P;omega
    rw[Q0]at hpt;refine Un ?_;refine m5 (h+1,up,tv) TJ ⟨f,I,c,λi hi hih=>?_,L,G,d,R⟩ TP;dsimp only at hi hih⊢;by_cases e:i<h
    .exact hD i hi e
    .obtain rfl:i=h:=by omega
     rw[hn,Oy];exact⟨htn,λk hk Z=>hpt k (by rw[<-hrow];exact hk) Z⟩
  .
   have hq1:Ub (n:Int)=Ub (Da up (h+1)):=by rw[<-hn];unfold Da;rw[Ti ⟨by omega,by omega⟩];rfl
   refine U3 ?_;rw[hq1];refine p8 (S:=Nat×List Int×Value) (λs=>[(11,.map (some mb)),(17,Ub (Da up s.1)),(18,s.2.2)])
    (λs w=>BackI g fr (gy part only) up h s.1 s.2.1/\MapI Vy 3 w mb (An up)/\Own w Q.heap.size 3 dh s.2.2 s.2.1/\Ext w0 w/\Q.heap.size<=w.heap.size) (λs=>s.1) (h+1,[],.slice none 0 0) TJ ⟨BackI.start f,W,r3,O,hz3⟩ ?_
   clear W ho3 hlt3;rintro⟨q,out,ov⟩ w4 ⟨hI,L,G,X,R⟩;dsimp only at hI L G X R⊢;have hq:=hI.hq;have hlen:=hI.len;have hltq:=λg o=>G.lt g o;refine UR ?_;apply ld rfl<;>intro P
   .have P:0<=Da up q:=by simpa using P
    have h0:0<q:=by
     obtain e|e:=Rk q
     .subst e;simp[Da]at P
     .exact e
    have hqn:Da up q=up[q -1].1:=by unfold Da;rw[Ti ⟨h0,hq⟩]
    obtain⟨q',hq',hv,hI'⟩:=hI.step I h0;have hqr:=I.rg _ (Qv.2 ⟨up[q -1],PL TK,rfl⟩);have hkq:q -1<(An up).length:=by rw[Ao];omega
    have hk1:(An up)[q -1].1=Ub (Da up q):=by rw[hqn];simp[An]
    have hk2:(An up)[q -1].2=Ub (Da up q'):=by rw[<-hv];simp[An]
    refine UB ?_;refine eF (F:=dh) (yv:=Da up q) rfl rfl TV rfl rfl TV G T7 TK TY TN TQ TK (λov' E p ho5 l hnb5=>?_);have t:=L.kept l (λe=>by have:=(hltq _ e.symm).1;omega);have N:Ext w0 E:=X.grown l X.size (λg o=>by have:=(hltq g o).1;omega);rw[hqn]at ho5;refine Ui ?_;refine fL (j:=q -1) hkq hk1 rfl rfl rfl rfl t (zL ⟨P,by rw[hqn];omega⟩) ?_;rw[hk2];refine Ur ?_;exact m5 (q',out++[up[q -1].1],ov') TJ ⟨hI',t,ho5,N,by have:=l.size;omega⟩ hq'
   .have P:¬0<=Da up q:=by simpa using P
    obtain rfl:q=0:=by
     obtain e|e:=Rk q
     .exact e
     .refine absurd ?_ P;unfold Da;rw[Ti ⟨e,hq⟩];exact(I.rg _ (Qv.2 ⟨up[q -1],PL TK,rfl⟩)).1
    refine UF ?_;refine eK (GW w4 G) ?_;rintro _ E ⟨rfl,hor,hgr⟩;refine Ud ?_;exact d6 ⟨out.reverse,hor.low TK,.inr (hI.done I (by rw[hn];exact htn)),X.grown hgr X.size (λg o=>by have:=(hltq g o).1;omega)⟩
 .obtain rfl:h=up.length:=by rw[hdl]at P;simp at P;omega
  refine UF ?_;exact d6 ⟨[],r3,.inl ⟨rfl,z_ up,c,λx J=>by obtain⟨y,M,rfl⟩:=Qv.1 J;obtain⟨i,hi,rfl⟩:=Qu.1 M;exact hD i hi hi⟩,z⟩
def Ll{g:bV}{m:Nat}(h:m<(Lh g).length):(Lh g)[m]=((range g.length).filter (λk=>(g.getD k []).contains (m:Int))).map (λk:Nat=>(k:Int)):=by have e:(Lh g)[m]=K5 g g.length 0 m:=Ln _;rw[e];unfold K5;simp
def Gc{g:bV}{b:Nat}(h:Rch (Lh g) [(a:Int)] b):Rch g [(b:Int)] a:=by
 induction h with
 |@base x c=>
  have:x=(a:Int):=by simpa using c
  subst this;simpa using V5 a
 |@step m x _ c e=>
  by_cases f:m<g.length
  .have d:0<=x:=((Dx (Lk g) m) x c).1;obtain⟨k,rfl⟩:=Om d;exact(Rch.edge ((Lj f).1 c).2).trans e
  .rw[Pl,Pr (by rw[Li];omega)]at c;simp at c
def Gd{g:bV}(i:okG g){b:Nat}(h:Rch g [(b:Int)] a):Rch (Lh g) [(a:Int)] b:=by
 induction h with
 |@base x c=>
  have:x=(b:Int):=by simpa using c
  subst this;simpa using V5 b
 |@step m x _ c f=>
  have d:=Dx i m x c;obtain⟨k,rfl⟩:=Om d.1;have e:m<g.length:=by apply Ob;intro e;rw[Pl,Pr TK]at c;simp at c
  have:(m:Int)∈(Lh g).getD k []:=(Lj TK).2 ⟨e,c⟩;exact(Rch.edge this).trans f
def Gb{g:bV}(c:okG g){b:Nat}:Rch (Lh g) [(a:Int)] b↔Rch g [(b:Int)] a:=⟨Gc,Gd c⟩
def oF:∀(g:bV) (c:Nat),(∀l∈g,l.length<=c)->edges g<=g.length*c
 |[],c,_=>by simp[edges]
 |l::g,c,h=>by have h1:=oF g c (λx a=>h x (by simp[a]));have h2:=h l TO;simp only[edges,Qg,QX,PY]at h1⊢;rw[Q9,RH];omega
def oI(g:bV):edges (Lh g)<=g.length*(g.length+1):=by have h:=oF (Lh g) (g.length+1) (λl a=>by obtain⟨m,b,rfl⟩:=Qu.1 a;have e:(Lh g)[m]=K5 g g.length 0 m:=Ln _;rw[e];exact K7 _ _ _ _);rwa[Li]at h
def MT{l:List Int}{j:Nat}(h:j<l.length):l.getD j 0=l[j]:=by rw[Pl,Pq h];rfl
def MS{l:List (List Int)}{j:Nat}(h:j<l.length):l.getD j []=l[j]:=by rw[Pl,Pq h];rfl
def MR{j:Nat}(h:j<l.length):l.getD j false=l[j]:=by rw[Pl,Pq h];rfl
def sk(w:World)(b d:Nat){part:List Int}{to n:Nat}(i:Blk w b 39 [.slice C part.length B])(e:Blk w d 3 [Ub (n:Int)])(c:Sl w (dk w) C B part)(a:to<part.length)(hn:n<part.length):
  Rt Vy 273 [Ub (to:Int),Uc b,Uc d].toArray w λv w'=>v=.bool (part.getD to 0==part.getD n 0)/\Ext w w':=by
 refine dT func273 ntmps273 rfl rfl (U6 ?_);refine dy rfl rfl rfl rfl rfl T0 c a rfl TV (λq=>Vi ?_);refine dy rfl rfl rfl rfl rfl T0 c hn rfl TV (λh=>U_ ?_);refine VD (λg f=>UQ ?_);exact d6 ⟨by rw[MT a,MT hn],f⟩
def FD(g:bV)(part:List Int)(n c:Nat):Prop:=∃u,u<n/\part.getD u 0=c/\∃to∈g.getD u [],part.getD to.toNat 0=c
def FE{g:bV}{part:List Int}{n c:Nat}:FD g part (n+1) c↔FD g part n c\/(part.getD n 0=c/\∃to∈g.getD n [],part.getD to.toNat 0=part.getD n 0):=by
 unfold FD;constructor
 .rintro⟨u,h1,h2,h3⟩;by_cases e:u=n
  .subst e;exact .inr ⟨h2,by rw[h2];exact h3⟩
  .exact .inl ⟨u,by omega,h2,h3⟩
 .rintro(⟨u,h1,h2⟩|⟨h1,h2⟩)
  .exact⟨u,by omega,h2⟩
  .exact⟨n,by omega,h1,by rw[<-h1];exact h2⟩
def qs(w0:World){ao so:Option Addr}{cap sc:Nat}{g sets:bV}{part:List Int}(hs:Sl w0 (dk w0) ao cap g)(hp:Sl w0 (dk w0) C B part)(hfs:Sl w0 (dk w0) so sc sets)(hg:okG g)(hpt:PartsOK g part)(hl:g.length<=1099511627776)
  (hsets:∀F∈sets,Dy g.length F):
  Rt Vy 232 [.slice ao g.length cap,.slice C part.length B,.slice so sets.length sc].toArray w0 λv w'=>∃out:List Bool,Own w' w0.heap.size 4 dh v out/\out.length=g.length/\
   (∀c,c<g.length->(out.getD c false=true↔FD g part g.length c/\∀F∈sets,∃x∈F,part.getD x.toNat 0=c))/\Ext w0 w':=by
 have hm:=hs.len63;have hmp:=hp.len63;have hms:=hfs.len63;have hpl:=hpt.len;refine dT func232 ntmps232 rfl rfl ?_;refine UZ ?_;refine eH λJ N hE1=>?_
 have hb40:=N;have hl1:=N.lt;refine Ut ?_;refine fI (α:=Bool) rfl rfl rfl rfl TK TQ (λw2 ho2 hg2=>?_);have e2:Ext J w2:=(NP _ _).grown hg2 T8 T2;generalize hsv:Value.slice (some ⟨J.heap.size,0,none⟩) g.length g.length=sv at*
 have hpc:∀n,n<part.length->∃c0:Nat,part[n]! =(c0:Int)/\c0<g.length/\part.getD n 0=(c0:Int):=λn hn=>by
  have h0:=hpt.ge n hn;have h1:=hpt.lt n hn;obtain⟨c0,j⟩:=Om h0;exact⟨c0,by rw[<-j,MT hn];simp[hn],by omega,j⟩
 refine Ut ?_;refine p8 (S:=Nat×List Bool) (λs=>[(0,.slice ao g.length cap),(2,.slice so sets.length sc),(4,Uc w0.heap.size),(7,sv),(19,.slice ao g.length cap),(20,Ub g.length),(21,Ub s.1)])
  (λs w=>s.1<=g.length/\Own w J.heap.size 4 dh sv s.2/\s.2.length=g.length/\(∀c,c<g.length->(s.2.getD c false=true↔FD g part s.1 c))/\Ext J w) (λs=>g.length -s.1) (0,replicate g.length false) TJ
  ⟨RU _,ho2,by simp,λc z=>by dsimp only;rw[tB];unfold FD;simp,e2⟩ ?_
 rintro⟨n,out⟩ w ⟨hn,A,d,P,e⟩
 dsimp only at hn A d P⊢
 have X:=hE1.trans e;refine UR ?_;apply ld rfl<;>intro h
 .have L:n<g.length:=by simp at h;omega
  have erow:g.getD n []=g[n]:=MS L;have R:n<part.length:=by omega
  obtain⟨c0,_,hc0l,j⟩:=hpc n R;have hpn:part[n]=(c0:Int):=by rw[<-MT R];exact j
  refine UB ?_;refine fe (hs.at X) L TV (λu q hu=>?_);obtain⟨ro,rc,rfl,Z⟩:=hu.sl;have hrl:=Z.len63;skip;refine eC (λQ I e3=>?_);have z3:=I.lt;skip;refine f7 I (λw4 I hg4=>?_);have e4:Ext w w4:=e3.grown hg4 e3.size TX;have W:=X.trans e4;have hb44:=N.ext (e.trans e4);have A:=A.extN e4;refine Um ?_;refine eK (l_ w4 (λx=>part.getD x.toNat 0==part.getD n 0) (Z.mono (λb l=>(W.block b l).trans (X.block b l).symm) (λb l=>Rv l W.size)) (λw5 hw i hi=>?_)) ?_
  .have hto:=hg _ (PL L) _ (PL hi)
   obtain⟨to,eto⟩:=Om hto.1;rw[eto,Oy];exact VE (cs:=[_,_]) (sk w5 _ _ (hb44.ext hw) (I.ext hw) (hp.up (W.trans hw)) TK R)
  rintro _ w5 ⟨rfl,D⟩
  have hb45:=hb44.ext D;have I:=I.ext D;have A:=A.extN D;have V:=W.trans D;have D:=(e.trans e4).trans D;have hany:(g[n].any λx=>part.getD x.toNat 0==part.getD n 0)=true↔∃to∈g.getD n [],part.getD to.toNat 0=part.getD n 0:=by
   rw[OE,erow];simp
  refine UG ?_;apply ld rfl<;>intro h2
  .refine UV ?_
   refine e_ (hp.at V) R hpn TV (λq=>?_);skip;refine fX (u:=.bool true) (yv:=true) rfl rfl rfl rfl A (show c0<out.length by omega) TV TV (VF _ _ _) (λw6 q2 ho6 hg6=>?_);have e6:Ext J w6:=D.grown hg6 D.size (λb l=>(A.lt b l).1);refine Ui ?_;refine m5 (n+1,out.set c0 true) TJ ⟨L,ho6,by simpa using d,λc z=>?_,e6⟩ TP;dsimp only;rw[tC TK,FE,<-hany];by_cases e:c0=c
   .subst e
    rw[Tn rfl];exact⟨λ_=>.inr ⟨j,h2⟩,λ_=>rfl⟩
   .rw[Tm e,P c z]
    exact⟨.inl,λh=>h.resolve_right (λ⟨h1,_⟩=>e (by have:=j.symm.trans h1;omega))⟩
  .refine US ?_
   refine m5 (n+1,out) TJ ⟨L,A,d,λc z=>?_,D⟩ TP;dsimp only;rw[P c z,FE,<-hany,h2];simp
 obtain rfl:n=g.length:=by simp at h;omega
 clear h hn;have N:=N.ext e;have hsb:∀b,sv.ownBlock=some b->b<w.heap.size:=λb l=>(A.lt b l).2.1
 refine UU ?_;refine p8 (S:=Nat×List Bool) (λs=>[(0,.slice ao g.length cap),(4,Uc w0.heap.size),(7,sv),(36,.slice so sets.length sc),(37,Ub sets.length),(38,Ub s.1)])
  (λs w=>s.1<=sets.length/\Own w J.heap.size 4 dh sv s.2/\s.2.length=g.length/\(∀c,c<g.length->(s.2.getD c false=true↔FD g part g.length c/\∀F∈sets.take s.1,∃x∈F,part.getD x.toNat 0=c))/\Ext J w) (λs=>sets.length -s.1) (0,out) TJ
  ⟨RU _,A,d,λc z=>by dsimp only;rw[P c z];simp,e⟩ ?_
 clear P A d X;rintro⟨f,out⟩ Q ⟨hf,A,d,P,e3⟩
 dsimp only at hf A d P⊢
 have X:=hE1.trans e3;refine UR ?_;apply ld rfl<;>intro h
 .have U:f<sets.length:=by simp at h;omega
  have hFok:=hsets _ (PL U);refine UC ?_;refine fe (hfs.at X) U TV (λu q hu=>?_);obtain⟨Fo,Fc,rfl,hF⟩:=hu.sl;have hFl:=hF.len63;refine Ut ?_;refine fI (α:=Bool) rfl rfl rfl rfl TK TQ (λw4 ho4 hg4=>?_);have e4:Ext Q w4:=(NP _ _).grown hg4 T8 T2;have Y:∀b,sv.ownBlock=some b->b<Q.heap.size:=λb l=>(A.lt b l).2.1
  generalize hhv:Value.slice (some ⟨Q.heap.size,0,none⟩) g.length g.length=hv at*
  have hhb:hv.ownBlock=some Q.heap.size:=by rw[<-hhv];rfl
  refine Ut ?_;refine p8 (S:=Nat×List Bool) (λs=>[(0,.slice ao g.length cap),(4,Uc w0.heap.size),(7,sv),(12,hv),(36,.slice so sets.length sc),(37,Ub sets.length),(38,Ub f),(45,.slice Fo sets[f].length Fc),(46,Ub sets[f].length),(47,Ub s.1)])
   (λs w=>s.1<=sets[f].length/\Own w Q.heap.size 4 dh hv s.2/\s.2.length=g.length/\(∀c,c<g.length->(s.2.getD c false=true↔∃x∈sets[f].take s.1,part.getD x.toNat 0=c))/\Ext Q w) (λs=>sets[f].length -s.1) (0,replicate g.length false) TJ
   ⟨RU _,ho4,by simp,λc z=>by dsimp only;rw[tB];simp,e4⟩ ?_
  rintro⟨i,m⟩ w5 ⟨hi,o,hhl,G,D⟩
  dsimp only at hi o hhl G⊢
  have V:=X.trans D;have hb5:=hb40.ext (e3.trans D);refine UR ?_;apply ld rfl<;>intro h
  .have T:i<sets[f].length:=by simp at h;omega
   have hto:=hFok _ (PL T);obtain⟨x,ex⟩:=Om hto.1;have hxp:x<part.length:=by omega
   obtain⟨c0,_,hc0l,j⟩:=hpc x hxp;have hpx:part[x]=(c0:Int):=by rw[<-MT hxp];exact j
   have hF5:Sl w5 (dk w0) Fo Fc sets[f]:=hF.mono (λb l=>(V.block b l).trans (X.block b l).symm) T0;refine UC ?_;refine e_ hF5 T ex TV (λq=>?_);refine Uy ?_;refine e_ (hp.at V) hxp hpx TV (λq=>?_);skip;refine fX (u:=.bool true) (yv:=true) rfl rfl rfl rfl o (show c0<m.length by omega) TV TV (VF _ _ _) (λw6 q2 ho6 hg6=>?_);have e6:Ext Q w6:=D.grown hg6 D.size (λb l=>(o.lt b l).1);refine Ui ?_;refine m5 (i+1,m.set c0 true) TJ ⟨T,ho6,by simpa using hhl,λc z=>?_,e6⟩ TP;dsimp only;rw[tC TK,<-QZ T,ex];by_cases e:c0=c
   .subst e
    rw[Tn rfl];exact⟨λ_=>⟨(x:Int),by simp,by simpa using j⟩,λ_=>rfl⟩
   .rw[Tm e,G c z]
    constructor
    .rintro⟨y,h1,h2⟩;exact⟨y,Ql.2 (.inl h1),h2⟩
    .rintro⟨y,h1,h2⟩
     rcases Ql.1 h1 with h1|h1
     .exact⟨y,h1,h2⟩
     .rw[QC]at h1;subst h1
      rw[Oy,j]at h2;omega
  .obtain rfl:i=sets[f].length:=by simp at h;omega
   rw[Q0]at G
   have ho5:=A.extN D;refine UU ?_;refine p8 (S:=Nat×List Bool) (λs=>[(0,.slice ao g.length cap),(4,Uc w0.heap.size),(7,sv),(12,hv),(36,.slice so sets.length sc),(37,Ub sets.length),(38,Ub f),(59,Ub g.length),(60,Ub s.1)])
    (λs w=>s.1<=g.length/\Own w J.heap.size 4 dh sv s.2/\s.2.length=g.length/\(∀c,c<g.length->s.2.getD c false=if c<s.1 then out.getD c false&&m.getD c false else out.getD c false)/\Own w Q.heap.size 4 dh hv m/\Ext J w) (λs=>g.length -s.1) (0,out) ?_
    ⟨RU _,ho5,d,λc z=>by dsimp only;rw[Tm TK],o,e3.trans D⟩ ?_
   .rw[d];exact TJ
   rintro⟨k,gd'⟩ w14 ⟨hk,a,p,r,o,O⟩
   dsimp only at hk a p r o⊢
   refine UR ?_;apply ld rfl<;>intro h
   .have hk':k<g.length:=by simp at h;omega
    have M:k<gd'.length:=by omega
    have hkh:k<m.length:=by omega
    have hgk:gd'[k]=out.getD k false:=by rw[<-MR M,r k hk',Tm TK]
    have hst:∀b:Bool,b=(out.getD k false&&m.getD k false)->∀c,c<g.length->(gd'.set k b).getD c false=if c<k+1 then out.getD c false&&m.getD c false else out.getD c false:=by
     intro b l c z
     rw[tC M];by_cases e:k=c
     .subst e;rw[Tn rfl,Tn TK,l]
     .rw[Tm e,r c z]
      by_cases h1:c<k
      .rw[Tn h1,Tn TK]
      .rw[Tm h1,Tm TK]
    refine Ux ?_;refine fh rfl rfl rfl rfl rfl a M TV (λu q hu=>?_);obtain rfl:=hu.bool;rw[hgk];by_cases H:out.getD k false=true
    .rw[H]
     refine U9 ?_;refine fh rfl rfl rfl rfl rfl o hkh TV (λu q hu=>?_);obtain rfl:=hu.bool;refine U9 ?_;refine fX (u:=.bool m[k]) (yv:=m[k]) rfl rfl rfl rfl a M TV TV (VF _ _ _) (λw15 q K t=>?_);have e15:Ext J w15:=O.grown t O.size (λb l=>(a.lt b l).1);have E:=o.keptN t (λg hg e=>by rw[hhb]at hg;cases hg;exact absurd (Y _ e.symm) (Rs _));refine Ui ?_;exact m5 (k+1,gd'.set k m[k]) TJ ⟨hk',K,by simpa using p,hst _ (by rw[H,MR hkh];rfl),E,e15⟩ TP
    .have H:out.getD k false=false:=by simpa using H
     rw[H];refine Ve ?_;refine fX (u:=.bool false) (yv:=false) rfl rfl rfl rfl a M TV TV (VF _ _ _) (λw15 q K t=>?_);have e15:Ext J w15:=O.grown t O.size (λb l=>(a.lt b l).1);have E:=o.keptN t (λg hg e=>by rw[hhb]at hg;cases hg;exact absurd (Y _ e.symm) (Rs _));refine Ui ?_;exact m5 (k+1,gd'.set k false) TJ ⟨hk',K,by simpa using p,hst _ (by rw[H];rfl),E,e15⟩ TP
   .obtain rfl:k=g.length:=by simp at h;omega
    refine Uj ?_;refine m5 (f+1,gd') TJ ⟨U,a,p,λc z=>?_,O⟩ TP;dsimp only;rw[r c z,Tn z,NS,P c z,G c z,<-QZ U,SY];refine SZ Og ⟨λ⟨h1,h2⟩ F hF=>?_,λh1=>⟨λF hF=>h1 F (Ql.2 (.inl hF)),h1 sets[f] (Ql.2 (.inr TO))⟩⟩;rcases Ql.1 hF with hF|hF
    .exact h1 F hF
    .rw[QC]at hF;subst hF;exact h2
 .obtain rfl:f=sets.length:=by simp at h;omega
  rw[Q0]at P
  refine UF ?_;exact d6 ⟨out,A.low TK,d,P,X⟩
def yJ(nx:bV)(inn:List Bool)(n j:Nat):List Int:=((nx.getD n []).take j).filter λto=>inn.getD n false&&inn.getD to.toNat false
def yB(nx:bV)(inn:List Bool)(n:Nat):List Int:=(nx.getD n []).filter λto=>inn.getD n false&&inn.getD to.toNat false
def inG(nx:bV)(inn:List Bool):bV:=(range nx.length).map (yB nx inn)
def yD{nx:bV}{inn:List Bool}:(inG nx inn).length=nx.length:=by simp[inG]
def yF{nx:bV}{inn:List Bool}{n:Nat}(h:n<nx.length):(inG nx inn).getD n []=yB nx inn n:=by unfold inG;rw[Pl,Pu,Pv h];rfl
def inG_edge{nx:bV}{inn:List Bool}{u v:Nat}:Eg (inG nx inn) u v↔Eg nx u v/\inn.getD u false=true/\inn.getD v false=true:=by
 by_cases h:u<nx.length
 .unfold Eg;rw[yF h];unfold yB;rw[Qs];simp
 .constructor
  .intro k;have:=k.lt1;rw[yD]at this;exact absurd this h
  .intro k;exact absurd k.1.lt1 h
def yE{nx:bV}{inn:List Bool}(h:okG nx):okG (inG nx inn):=by intro r b x a;rw[yD];obtain⟨n,hn,rfl⟩:=Qv.1 b;exact Dx h n x (Qs.1 a).1
def yC{nx:bV}{inn:List Bool}:edges (inG nx inn)<=edges nx:=by
 unfold edges inG;rw[Qh];have e:nx.map List.length=(range nx.length).map λk=>(nx.getD k []).length:=by refine O3 TO λi h1 h2=>?_;simp at h1;simp[h1]
 rw[e];have:∀l:List Nat,(l.map (List.length∘yB nx inn)).sum<=(l.map λk=>(nx.getD k []).length).sum:=by
  intro l;induction l with
  |nil=>exact Rq _
  |cons x r a=>
   simp only[Qg,QX];have:(List.length∘yB nx inn) x<=(nx.getD x []).length:=P3 _ _;omega
 exact this _
def yL{nx:bV}{inn:List Bool}{n j:Nat}(h:j<(nx.getD n []).length):yJ nx inn n (j+1)=yJ nx inn n j++if(inn.getD n false&&inn.getD ((nx.getD n [])[j]).toNat false)=true then [(nx.getD n [])[j]]else []:=by
 unfold yJ;rw[<-QZ h,O5];congr 1;by_cases e:(inn.getD n false&&inn.getD ((nx.getD n [])[j]).toNat false)=true
 .rw[Tn e];simp only[O7,e,O_];rfl
 .rw[Tm e];simp only[O7,e,O_];rfl
def yK{nx:bV}{inn:List Bool}{n:Nat}:yJ nx inn n (nx.getD n []).length=yB nx inn n:=by unfold yJ yB;rw[Q0]
abbrev IA(fr:bV):List (Nat->Prop):=fr.map λF x=>((x:Nat):Int)∈F
open Classical in
noncomputable def MV(nx:bV)(inn:List Bool)(fr:bV):List Bool:=(range nx.length).map λn=>decide (∃r,r 0=n/\Way8 (Eg (inG nx inn)) (IA fr) r)
def MX{nx:bV}{inn:List Bool}{fr:bV}:(MV nx inn fr).length=nx.length:=by simp[MV]
def MW{nx:bV}{inn:List Bool}{fr:bV}{n:Nat}(h:n<nx.length):(MV nx inn fr).getD n false=true↔∃r,r 0=n/\Way8 (Eg (inG nx inn)) (IA fr) r:=by unfold MV;rw[Pl,Pu,Pv h];simp
def iJ{g:bV}(a:okG g){ends:List Int}(c:Dy g.length ends){n:Nat}:Rch (Lh g) ends n↔∃v:Nat,(v:Int)∈ends/\Rc (Eg g) n v:=by rw[F_ (Lk g) (λx b=>(c x b).1)];refine exists_congr λv=>S0 λ_=>?_;rw[<-F5 (Lk g),Gb a,F5 a]
def MZ{nx fr:bV}{inn good:List Bool}{part ends:List Int}(p:okG nx)(hP:PartsOK (inG nx inn) part)(r:∀F∈fr,Dy nx.length F)
  (e:∀c,c<nx.length->(good.getD c false=true↔FD (inG nx inn) part nx.length c/\∀F∈fr,∃x∈F,part.getD x.toNat 0=c))
  (a:∀v:Nat,(v:Int)∈ends↔v<nx.length/\inn.getD v false=true/\good.getD (part.getD v 0).toNat false=true) (i:∀x∈ends,0<=x):
  F6 (Lh (inG nx inn)) ends=MV nx inn fr:=by
 have q:=yE (inn:=inn) p;have A:Dy (inG nx inn).length ends:=λx f=>by have C:=i x f;have:=((a x.toNat).1 (by rw[show((x.toNat:Nat):Int)=x by omega];exact f)).1;rw[yD];omega
 refine O3 (by rw[F8,Li,yD,MX]) λn h1 h2=>?_;have hn:n<nx.length:=by rw[MX]at h2;exact h2
 rw[NU,F7 h1,iJ q A,<-MR h2,MW hn,qt (N:=nx.length) (λu v h=>by have:=h.lt q;rwa[yD]at this) hn];have b:∀v,v<nx.length->(good.getD (part.getD v 0).toNat false=true↔aN (Eg (inG nx inn)) (IA fr) v):=by
  intro v d;have g:v<part.length:=by rw[hP.len,yD];exact d
  have B:=hP.ge v g;have k1:=hP.lt v g;rw[yD]at k1;rw[mh q hP (by rw[yD];exact d),e _ TK,show(((part.getD v 0).toNat:Nat):Int)=part.getD v 0 by omega,yD];unfold FD;rw[show(((part.getD v 0).toNat:Nat):Int)=part.getD v 0 by omega];refine SZ Og ⟨λk P t=>?_,λk F hF=>?_⟩
  .obtain⟨F,hF,rfl⟩:=Qv.1 t;obtain⟨x,f,j⟩:=k F hF;have:=r F hF x f;exact⟨x.toNat,by omega,by show((x.toNat:Nat):Int)∈F;rw[show((x.toNat:Nat):Int)=x by omega];exact f,j⟩
  .obtain⟨x,z,m,l⟩:=k _ (Qv.2 ⟨F,hF,rfl⟩);exact⟨(x:Int),m,by simpa using l⟩
 constructor
 .rintro⟨v,d,o⟩;obtain⟨h3,_,h4⟩:=(a v).1 d;exact⟨v,o,(b v h3).1 h4⟩
 .rintro⟨v,o,y⟩;have s:=y;obtain⟨⟨u,w,_⟩,_⟩:=y;have d:v<nx.length:=by have:=w.lt1;rwa[yD]at this
  exact⟨v,(a v).2 ⟨d,(inG_edge.1 w).2.1,(b v d).2 s⟩,o⟩
def oH{g:bV}:∀{i:Nat},(h:i<g.length)->g[i].length<=edges g:=by
 unfold edges;induction g with
 |nil=>intro i h;cases h
 |cons r g a=>
  intro i h;cases i with
  |zero=>simp
  |succ i=>have:=a (i:=i) (by simpa using h);simp at this⊢;omega
def o9(inn good:List Bool)(part:List Int)(n:Nat):List Int:=((range n).filter λv=>inn.getD v false&&good.getD (part.getD v 0).toNat false).map λv:Nat=>(v:Int)
def pg{inn good:List Bool}{part:List Int}{n:Nat}:o9 inn good part (n+1)=o9 inn good part n++if(inn.getD n false&&good.getD (part.getD n 0).toNat false)=true then [(n:Int)]else []:=by
 unfold o9;rw[QQ,O5,Qe];congr 1;by_cases e:(inn.getD n false&&good.getD (part.getD n 0).toNat false)=true
 .rw[Tn e];simp only[O7,e,O_];rfl
 .rw[Tm e];simp only[O7,e,O_];rfl
def o_{inn good:List Bool}{part:List Int}{n:Nat}:(o9 inn good part n).length<=n:=by unfold o9;rw[P4];exact Rr (P3 _ _) TO
def pd{inn good:List Bool}{part:List Int}{n v:Nat}:(v:Int)∈o9 inn good part n↔v<n/\inn.getD v false=true/\good.getD (part.getD v 0).toNat false=true:=by
 unfold o9;rw[Qv];constructor
 .rintro⟨u,h1,h2⟩;obtain rfl:u=v:=by omega
  have:=Qs.1 h1;rw[QA,NS]at this;exact this
 .rintro⟨h1,h2,h3⟩;exact⟨v,Qs.2 ⟨QA.2 h1,by rw[h2,h3];rfl⟩,rfl⟩
def pj{inn good:List Bool}{part:List Int}{n:Nat}:∀x∈o9 inn good part n,0<=x:=by intro x a;obtain⟨u,_,rfl⟩:=Qv.1 a;omega
def gg(w0:World){a1 a4 io:Option Addr}{c1 c2 n1 ic:Nat}{nx fr:bV}{inn:List Bool}(h2:Sl w0 (dk w0) C c2 nx)(h4:Sl w0 (dk w0) a4 K fr)(hin:Sl w0 (dk w0) io ic inn)
  (R:okG nx) (hfr:∀F∈fr,Dy nx.length F) (hil:inn.length=nx.length) (hn:nx.length<=600) (hT:edges nx<=8589934592):
  Rt Vy 160 [M5 a1 c1 C c2 D B a4 K n1 nx.length E fr.length,.slice io inn.length ic].toArray w0 λv w'=>Own w' w0.heap.size 4 dh v (MV nx inn fr)/\Ext w0 w':=by
 have hm2:=h2.len63;refine dS func160 ntmps160 rfl rfl (UZ ?_);refine eH λH g e1=>?_;have hl1:=g.lt;refine UE ?_;refine fI (α:=Raw) rfl rfl rfl rfl TK TQ (λw2 ho2 hg2=>?_);have e2:Ext H w2:=(NP _ _).grown hg2 T8 T2;generalize hsv:Value.slice (some ⟨H.heap.size,0,none⟩) nx.length nx.length=sv at*;have hN2:OwnN w2 H.heap.size 39 3 sv _ (replicate nx.length ([]:List Int)):=Wg ho2;rw[<-ux (full:=yB nx inn)]at hN2;clear ho2 hg2;have N:=g;have g:=g.ext e2;refine UE ?_;refine p8 (S:=Nat×List Raw) (λs=>[(1,.slice io inn.length ic),(2,Uc w0.heap.size),(5,sv),(23,.slice C nx.length c2),(24,Ub nx.length),(25,Ub s.1)])
  (λs w=>s.1<=nx.length/\OwnN w H.heap.size 39 3 sv s.2 (uq nx.length (yB nx inn) s.1 [])/\Ext H w) (λs=>nx.length -s.1) (0,_) TJ ⟨RU _,hN2,e2⟩ ?_
 rintro⟨n,vs⟩ w3 ⟨hn3,i,e3⟩;dsimp only at hn3 i⊢;have W:=e1.trans e3;have hb23:=N.ext e3;refine UR ?_;apply ld rfl<;>intro h
 .have f:n<nx.length:=by simp at h;omega
  have t:n<inn.length:=by omega
  have erow:nx.getD n []=nx[n]:=MS f;have hre:=oH f;refine UB ?_;refine fe (h2.at W) f TV (λu q hu=>?_);obtain⟨ro,rc,rfl,L⟩:=hu.sl;have hrl:=L.len63;refine Ut ?_;refine p8 (S:=Nat×List Raw) (λs=>[(1,.slice io inn.length ic),(2,Uc w0.heap.size),(5,sv),(6,Ub n),(23,.slice C nx.length c2),(24,Ub nx.length),(25,Ub n),(30,.slice ro nx[n].length rc),(31,Ub nx[n].length),(32,Ub s.1)])
   (λs w=>s.1<=nx[n].length/\OwnN w H.heap.size 39 3 sv s.2 (uq nx.length (yB nx inn) n (yJ nx inn n s.1))/\Ext H w) (λs=>nx[n].length -s.1) (0,vs) TJ ⟨RU _,by show OwnN _ _ _ _ _ _ (uq _ _ _ (yJ nx inn n 0));rw[show yJ nx inn n 0=[] by simp[yJ]];exact i,e3⟩ ?_
  rintro⟨j,vs⟩ w4 ⟨hj,i,m⟩;dsimp only at hj i⊢;have G:=e1.trans m;have Q:Sl w4 (dk w0) ro rc nx[n]:=L.mono (λb O=>(G.block b O).trans (W.block b O).symm) T0;have M:=hin.at G;refine UR ?_;apply ld rfl<;>intro h
  .have k:j<nx[n].length:=by simp at h;omega
   have hto:=R _ (PL f) _ (PL k);obtain⟨to,eto⟩:=Om hto.1;have Y:to<inn.length:=by omega
   have c:=yL (nx:=nx) (inn:=inn) (n:=n) (j:=j) (by rw[erow];exact k);have hgj:(nx.getD n [])[j]'(by rw[erow];exact k)=(to:Int):=by simp only[erow];exact eto
   rw[hgj,Oy]at c;have hlen:=i.len;rw[uu]at hlen;have r:n<vs.length:=by omega
   have y:=i.inn n r (by rw[uu];exact f);rw[ut f]at y;have hil2:(yJ nx inn n j).length<=nx[n].length:=by unfold yJ;rw[erow];exact Rr (P3 _ _) (by rw[Qb];omega)
   refine UC ?_;refine e_ Q k eto TV (λq=>?_);refine UR ?_;refine eY rfl rfl rfl rfl rfl M t (MR t).symm TV (λq=>?_);have skipc:(inn.getD n false&&inn.getD to false)=false->OwnN w4 H.heap.size 39 3 sv vs (uq nx.length (yB nx inn) n (yJ nx inn n (j+1))):=λh=>by rw[c,Tm (by rw[h];simp),OH];exact i
   by_cases e:inn.getD n false=true
   .rw[e];refine U9 ?_;refine eY rfl rfl rfl rfl rfl M Y (MR Y).symm TV (λq=>?_);by_cases d:inn.getD to false=true
    .rw[d];rw[Tn (by rw[e,d];rfl)]at c;refine UY ?_;refine fh rfl rfl rfl rfl rfl i.out r TV (λu q hu=>?_);obtain⟨rfl,_⟩:=hu.raw;refine U9 ?_;refine eF (F:=dh) (yv:=(to:Int)) rfl rfl TV rfl rfl TV y T7 m.size TY TN TQ TK (λX w5 p ho5 J hnb=>?_);rw[<-c]at ho5;have hmid:=i.mid r J;refine fX (u:=X) (yv:=⟨X⟩) rfl rfl rfl rfl hmid r TV TV (VO _ _ _ ?_) (λw6 q ho6 hg6=>?_)
     .obtain⟨a,b,rfl⟩:=ho5.val;rfl
     have hN6:=i.set r ho5 J hnb ho6 hg6;rw[uw f]at hN6;have o:Ext H w6:=(m.grown J m.size (λb O=>(y.lt b O).1)).grown hg6 (Rr m.size J.size) (λb O=>(i.out.lt b O).1);refine Ui ?_;exact m5 (j+1,vs.set n ⟨X⟩) TJ ⟨k,hN6,o⟩ TP
    .have d:inn.getD to false=false:=by simpa using d
     rw[d];refine US ?_;exact m5 (j+1,vs) TJ ⟨k,skipc (by rw[d,Bool.and_false]),m⟩ TP
   .have e:inn.getD n false=false:=by simpa using e
    rw[e];refine UA ?_;exact m5 (j+1,vs) TJ ⟨k,skipc (by rw[e,NV]),m⟩ TP
  .obtain rfl:j=nx[n].length:=by simp at h;omega
   refine Uj ?_;refine m5 (n+1,vs) TJ ⟨f,?_,m⟩ TP;rw[<-erow,yK,uv]at i;exact i
 obtain rfl:n=nx.length:=by simp at h;omega
 rw[ur]at i;have hgG:(range nx.length).map (yB nx inn)=inG nx inn:=rfl;rw[hgG]at i;have T:=yD (nx:=nx) (inn:=inn);have A:=yE (inn:=inn) R;have hge:=yC (nx:=nx) (inn:=inn);have g:Blk w3 w0.heap.size 74 (j8 (M5 a1 c1 C c2 D B a4 K n1 nx.length E fr.length)):=N.ext e3;obtain⟨go,gc,rfl,U⟩:=i.old.sl;have hfr':∀F∈fr,Dy (inG nx inn).length F:=by rw[T];exact hfr
 clear h hn3 i;refine UF ?_;refine eK (d7 w3 U T0 A TK) ?_;rintro _ w4 ⟨part,Z,hP,m⟩;have G:=W.trans m;have g:=g.ext m;have U:=U.up m;obtain⟨po,pc,rfl,hp⟩:=Z.oldN.sl;have hpl:=hP.len;refine Uy ?_;refine eK (qs w4 U hp (h4.up G) A hP TK hfr') ?_;rintro _ w5 ⟨good,hgo,hgol,z,e5⟩;have hE5:=G.trans e5;have hp:=hp.up e5;have U:=U.up e5;obtain⟨oo,oc,rfl,hgd⟩:=hgo.oldN.sl;clear hgo Z m e5 g;rw[T]at z;refine Ut ?_;refine p8 (S:=Nat×Value) (λs=>[(1,.slice io inn.length ic),(5,.slice go (inG nx inn).length gc),(10,.slice po part.length pc),(11,.slice oo good.length oc),(12,s.2),(66,Ub (inG nx inn).length),(67,Ub s.1)])
  (λs w=>s.1<=nx.length/\Own w w5.heap.size 3 dh s.2 (o9 inn good part s.1)/\Ext w5 w) (λs=>nx.length -s.1) (0,.slice none 0 0) TJ ⟨RU _,r3,p7 _⟩ ?_
 rintro⟨n,ev⟩ w6 ⟨hn6,l,o⟩;dsimp only at hn6 l⊢;have hel:=o_ (inn:=inn) (good:=good) (part:=part) (n:=n);refine UR ?_;apply ld rfl<;>intro h
 .have f:n<nx.length:=by simp at h;omega
  have t:n<inn.length:=by omega
  have I:n<part.length:=by omega
  have h0:=hP.ge n I;have h1:=hP.lt n I;obtain⟨c0,hc0⟩:=Om h0;have hpn:part[n]=(c0:Int):=by rw[<-MT I];exact hc0
  have hcg:c0<good.length:=by omega
  have c:=pg (inn:=inn) (good:=good) (part:=part) (n:=n);rw[hc0,Oy]at c;refine Ux ?_;refine eY rfl rfl rfl rfl rfl (hin.at (hE5.trans o)) t (MR t).symm TV (λq=>?_);by_cases e:inn.getD n false=true
  .rw[e];refine U9 ?_;refine e_ (hp.up o) I hpn TV (λq=>?_);refine eY rfl rfl rfl rfl rfl (hgd.up o) hcg (MR hcg).symm TV (λq=>?_);by_cases d:good.getD c0 false=true
   .rw[d];rw[Tn (by rw[e,d];rfl)]at c;refine UY ?_;refine eF (F:=dh) (yv:=(n:Int)) rfl rfl TV rfl rfl TV l T7 o.size TY TN TQ TK (λX w7 p ho7 hg7 hnb=>?_);rw[<-c]at ho7;have e7:Ext w5 w7:=o.grown hg7 o.size (λb O=>(l.lt b O).1);refine Ui ?_;exact m5 (n+1,X) TJ ⟨f,ho7,e7⟩ TP
   .have d:good.getD c0 false=false:=by simpa using d
    rw[d];rw[Tm (by rw[d];simp),OH]at c;refine US ?_;exact m5 (n+1,ev) TJ ⟨f,by dsimp only;rw[c];exact l,o⟩ TP
  .have e:inn.getD n false=false:=by simpa using e
   rw[e];rw[Tm (by rw[e];simp),OH]at c;refine UA ?_;exact m5 (n+1,ev) TJ ⟨f,by dsimp only;rw[c];exact l,o⟩ TP
 obtain rfl:n=nx.length:=by simp at h;omega
 obtain⟨eo,ec,rfl,hes⟩:=l.oldN.sl;have hE6:=hE5.trans o;have hch:kL (inG nx inn)=0:=kM A TK;refine UF ?_;refine eK (ez w6 (U.up o)) ?_;rintro _ w7 ⟨tv,ts,rfl,V,e7⟩;unfold Lg at V;rw[Tn hch]at V;obtain⟨to,tc,rfl,htu⟩:=V.old.sl;have htl:=Li (inG nx inn);have hte:=oI (inG nx inn);have hte2:(inG nx inn).length*((inG nx inn).length+1)<=600*601:=RB TK TK;have P:=MZ (ends:=o9 inn good part nx.length) R hP hfr z (λv=>pd) pj;have heok:Dy (Lh (inG nx inn)).length (o9 inn good part nx.length):=λx hx=>by have h0:=pj x hx;have:=(pd (v:=x.toNat)).1 (by rw[show((x.toNat:Nat):Int)=x by omega];exact hx);rw[htl,T];omega
 have hrF:=Gu (Lk (inG nx inn)) heok TK;refine UR ?_;refine eK (dN w7 htu (hes.up e7) TK) ?_;rw[hrF,P];rintro _ w8 ⟨rv,rfl,hor,e8⟩;refine Up ?_;exact be ⟨hor.low (Rr hE6.size e7.size),(hE6.trans e7).trans e8⟩
def yu{k:Nat}(a:l.length=k):(idxOf (λy=>true==y) l= -1/\∀c,l.getD c false=false)\/∃c:Nat,idxOf (λy=>true==y) l=(c:Int)/\c<k/\l.getD c false=true:=by
 unfold idxOf;cases h:l.findIdx? λy=>true==y with
 |none=>
  refine .inl ⟨rfl,λc=>?_⟩;rw[Pb]at h;rw[Pl];cases e:l[c]? with
  |none=>rfl
  |some b=>
   have:=h b (Qx e);cases b<;>simp_all
 |some i=>
  obtain⟨h1,h2,h3⟩:=Pc.1 h;refine .inr ⟨i,rfl,by omega,?_⟩;rw[MR h1];simpa using h2.symm
def oK(w:World)(b d:Nat){part:List Int}{to n:Nat}(i:Blk w b 39 [.slice C part.length B])(e:Blk w d 3 [Ub (n:Int)])(c:Sl w (dk w) C B part)(a:to<part.length)(hn:n<part.length):
  Rt Vy 205 [Ub (to:Int),Uc b,Uc d].toArray w λv w'=>v=.bool (part.getD to 0==part.getD n 0)/\Ext w w':=by
 refine dT func205 ntmps205 rfl rfl (U6 ?_);refine dy rfl rfl rfl rfl rfl T0 c a rfl TV (λq=>Vi ?_);refine dy rfl rfl rfl rfl rfl T0 c hn rfl TV (λh=>U_ ?_);refine VD (λg f=>UQ ?_);exact d6 ⟨by rw[MT a,MT hn],f⟩
def oL(w0:World){N:Nat}{x0 x2 x3 x4 x5 x6 x7 x8 x9 x12:Value}{lo so:Option Addr}{sc:Nat}{part:List Int}{sets:List (List Bool)}
  (l:Blk w0 B 223 [x0,A,x2,x3,x4,x5,x6,x7,x8,x9,.slice lo N a,.slice C g.length K,x12]) (hN:N=g.length) (hs:Sl w0 (dk w0) C K g) (hp:Sl w0 (dk w0) D E part) (hfs:Sl w0 (dk w0) so sc sets)
  (hg:okG g) (hpt:PartsOK g part) (hl:g.length<=1228800) (hsl:∀S∈sets,S.length=g.length):
  Rt Vy 125 [Uc B,.slice D part.length E,.slice so sets.length sc].toArray w0 λv w'=>∃p:Int,v=Ub p/\((p= -1/\∀c:Int,0<=c->c<g.length->¬bU g part sets c)\/(0<=p/\p<g.length/\bU g part sets p))/\Ext w0 w':=by
 have hm:=hs.len63;have hmp:=hp.len63;have hms:=hfs.len63;have hpl:=hpt.len;subst hN;have hsb0:=l.lt;refine dT func125 ntmps125 rfl rfl ?_;refine UZ ?_;refine eH λX hb4 hE1=>?_
 have hb40:=hb4;have hl1:=hb4.lt;have hb1:=l.ext hE1;refine UE ?_;refine fI (α:=Bool) rfl rfl rfl rfl TK TQ (λw2 ho2 hg2=>?_);have e2:Ext X w2:=(NP _ _).grown hg2 T8 T2;generalize hsv:Value.slice (some ⟨X.heap.size,0,none⟩) g.length g.length=sv at*
 have hpc:∀n,n<part.length->∃c0:Nat,part[n]! =(c0:Int)/\c0<g.length/\part.getD n 0=(c0:Int):=λn hn=>by
  have h0:=hpt.ge n hn;have h1:=hpt.lt n hn;obtain⟨c0,T⟩:=Om h0;exact⟨c0,by rw[<-T,MT hn];simp[hn],by omega,T⟩
 have hb2:=hb1.ext e2;refine UE ?_;refine p8 (S:=Nat×List Bool) (λs=>[(0,Uc B),(2,.slice so sets.length sc),(4,Uc w0.heap.size),(7,sv),(25,.slice C g.length K),(26,Ub g.length),(27,Ub s.1)])
  (λs w=>s.1<=g.length/\Own w X.heap.size 4 dh sv s.2/\s.2.length=g.length/\(∀c:Nat,c<g.length->(s.2.getD c false=true↔FD g part s.1 c))/\Ext X w) (λs=>g.length -s.1) (0,replicate g.length false) TJ
  ⟨RU _,ho2,by simp,λc r=>by dsimp only;rw[tB];unfold FD;simp,e2⟩ ?_
 rintro⟨n,out⟩ w ⟨hn,M,o,hr,e⟩
 dsimp only at hn M o hr⊢
 have hE:=hE1.trans e;refine UR ?_;apply ld rfl<;>intro h
 .have hn':n<g.length:=by simp at h;omega
  have erow:g.getD n []=g[n]:=MS hn';have hnp:n<part.length:=by omega
  obtain⟨c0,_,hc0l,T⟩:=hpc n hnp;have hpn:part[n]=(c0:Int):=by rw[<-MT hnp];exact T
  refine UB ?_;refine fe (hs.at hE) hn' TV (λu q Q=>?_);obtain⟨ro,rc,rfl,hrow⟩:=Q.sl;have hrl:=hrow.len63;skip;refine eC (λm W e3=>?_);have z3:=W.lt;skip;refine f7 W (λw4 W hg4=>?_);have e4:Ext w w4:=e3.grown hg4 e3.size TX;have hE4:=hE.trans e4;have hb44:=hb4.ext (e.trans e4);have M:=M.extN e4;refine Um ?_;refine eK (l_ w4 (λx=>part.getD x.toNat 0==part.getD n 0) (hrow.mono (λb l=>(hE4.block b l).trans (hE.block b l).symm) (λb l=>Rv l hE4.size)) (λU hw i hi=>?_)) ?_
  .have hto:=hg _ (PL hn') _ (PL hi)
   obtain⟨to,eto⟩:=Om hto.1;rw[eto,Oy];exact VE (cs:=[_,_]) (oK U _ _ (hb44.ext hw) (W.ext hw) (hp.up (hE4.trans hw)) TK hnp)
  rintro _ U ⟨rfl,I⟩
  have hb45:=hb44.ext I;have W:=W.ext I;have M:=M.extN I;have hE5:=hE4.trans I;have I:=(e.trans e4).trans I;have hany:(g[n].any λx=>part.getD x.toNat 0==part.getD n 0)=true↔∃to∈g.getD n [],part.getD to.toNat 0=part.getD n 0:=by
   rw[OE,erow];simp
  refine UG ?_;apply ld rfl<;>intro h2
  .refine UV ?_
   refine e_ (hp.at hE5) hnp hpn TV (λq=>?_);skip;refine fX (u:=.bool true) (yv:=true) rfl rfl rfl rfl M (show c0<out.length by omega) TV TV (VF _ _ _) (λw6 q2 ho6 hg6=>?_);have e6:Ext X w6:=I.grown hg6 I.size (λb l=>(M.lt b l).1);refine Ui ?_;refine m5 (n+1,out.set c0 true) TJ ⟨hn',ho6,by simpa using o,λc r=>?_,e6⟩ TP;dsimp only;rw[tC TK,FE,<-hany];by_cases e:c0=c
   .subst e
    rw[Tn rfl];exact⟨λ_=>.inr ⟨T,h2⟩,λ_=>rfl⟩
   .rw[Tm e,hr c r]
    exact⟨.inl,λh=>h.resolve_right (λ⟨h1,_⟩=>e (by have:=T.symm.trans h1;omega))⟩
  .refine US ?_
   refine m5 (n+1,out) TJ ⟨hn',M,o,λc r=>?_,I⟩ TP;dsimp only;rw[hr c r,FE,<-hany,h2];simp
 obtain rfl:n=g.length:=by simp at h;omega
 clear h hn;have hb4:=hb4.ext e;refine UU ?_;refine p8 (S:=Nat×List Bool) (λs=>[(0,Uc B),(4,Uc w0.heap.size),(7,sv),(42,.slice so sets.length sc),(43,Ub sets.length),(44,Ub s.1)])
  (λs w=>s.1<=sets.length/\Own w X.heap.size 4 dh sv s.2/\s.2.length=g.length/\(∀c:Nat,c<g.length->(s.2.getD c false=true↔FD g part g.length c/\∀S∈sets.take s.1,∃x,x<g.length/\S.getD x false=true/\part.getD x 0=c))/\Ext X w) (λs=>sets.length -s.1) (0,out) TJ
  ⟨RU _,M,o,λc r=>by dsimp only;rw[hr c r];simp,e⟩ ?_
 clear hr M o hE;rintro⟨f,out⟩ m ⟨hf,M,o,hr,e3⟩
 dsimp only at hf M o hr⊢
 have hE:=hE1.trans e3;have hbs3:=l.ext hE;refine UR ?_;apply ld rfl<;>intro h
 .have hf':f<sets.length:=by simp at h;omega
  have hSl:=hsl _ (PL hf');refine UC ?_;refine fe (hfs.at hE) hf' TV (λu q Q=>?_);obtain⟨Fo,Fc,rfl,hF⟩:=Q.sl;have hFl:=hF.len63;refine UE ?_;refine fI (α:=Bool) rfl rfl rfl rfl TK TQ (λw4 ho4 hg4=>?_);have e4:Ext m w4:=(NP _ _).grown hg4 T8 T2;have hslt:∀b,sv.ownBlock=some b->b<m.heap.size:=λb l=>(M.lt b l).2.1
  refine Ut ?_;refine p8 (S:=Nat×List Bool) (λs=>[(0,Uc B),(4,Uc w0.heap.size),(7,sv),(12,.slice (some ⟨m.heap.size,0,none⟩) g.length g.length),(42,.slice so sets.length sc),(43,Ub sets.length),(44,Ub f),(54,.slice Fo sets[f].length Fc),(55,Ub sets[f].length),(56,Ub s.1)])
   (λs w=>s.1<=sets[f].length/\Own w m.heap.size 4 dh (.slice (some ⟨m.heap.size,0,none⟩) g.length g.length) s.2/\s.2.length=g.length/\(∀c:Nat,c<g.length->(s.2.getD c false=true↔∃x,x<s.1/\sets[f].getD x false=true/\part.getD x 0=c))/\Ext m w) (λs=>sets[f].length -s.1) (0,replicate g.length false) TJ
   ⟨RU _,ho4,by simp,λc r=>by dsimp only;rw[tB];simp,e4⟩ ?_
  rintro⟨i,d⟩ U ⟨hi,L,hhl,O,I⟩
  dsimp only at hi L hhl O⊢
  have hE5:=hE.trans I;have hb5:=hb40.ext (e3.trans I);refine UR ?_;apply ld rfl<;>intro h
  .have hi':i<sets[f].length:=by simp at h;omega
   have hip:i<part.length:=by omega
   obtain⟨c0,_,T,ec0⟩:=hpc i hip;have hpc':part[i]=(c0:Int):=by rw[<-MT hip];exact ec0
   have hch:c0<d.length:=by omega
   have hF5:Sl U (dk w0) Fo Fc sets[f]:=hF.mono (λb l=>(hE5.block b l).trans (hE.block b l).symm) T0;refine UB ?_;refine eY rfl rfl rfl rfl rfl hF5 hi' rfl TV (λq=>?_);have hsg:sets[f].getD i false=sets[f][i]:=MR hi';generalize sets[f][i]=is at*
   refine U9 ?_;apply p0;apply bA;have hd:=mm U;have hpd:=hp.at (hE5.trans hd);have hbd:=hb5.ext hd;have J:=L.extN hd;obtain⟨ho',hc',hv',hhs⟩:=J.slF (F':=λb=>b=m.heap.size) TY (λg hg=>by cases hg;rfl);obtain⟨rfl,_,rfl⟩:=SV hv';rw[<-hhl]at hhs
   have hKK:∀(F:Nat->Prop) z,(λx:World=>x=drew U) z->∀b,F b->z.heap[b]?=(drew U).heap[b]?:=λF z hz b _=>by rw[hz]
   have hK1:∀u,(λx:World=>x=drew U) u->u.heap[w0.heap.size]?=(drew U).heap[w0.heap.size]?:=λu Q=>by rw[Q]
   have Z:∀(b:Bool),(b=true↔d[c0]=true\/is=true)->∀w',Own w' m.heap.size 4 dh (.slice (some ⟨m.heap.size,0,none⟩) g.length g.length) (d.set c0 b)->Ext m w'->
     (i+1<=sets[f].length/\Own w' m.heap.size 4 dh (.slice (some ⟨m.heap.size,0,none⟩) g.length g.length) (d.set c0 b)/\(d.set c0 b).length=g.length/\(∀c:Nat,c<g.length->((d.set c0 b).getD c false=true↔∃y,y<i+1/\sets[f].getD y false=true/\part.getD y 0=c))/\Ext m w'):=by
    intro b l w' M he
    refine⟨hi',M,by simpa using hhl,λc r=>?_,he⟩;have hsplit:(∃y,y<i+1/\sets[f].getD y false=true/\part.getD y 0=c)↔(∃y,y<i/\sets[f].getD y false=true/\part.getD y 0=c)\/(is=true/\c0=c):=by
     constructor
     .rintro⟨y,hy1,Y,hy3⟩
      by_cases e:y=i
      .subst e;exact .inr ⟨by rw[<-hsg];exact Y,by omega⟩
      .exact .inl ⟨y,by omega,Y,hy3⟩
     .rintro(⟨y,hy1,Y⟩|⟨hy1,Y⟩)
      .exact⟨y,by omega,Y⟩
      .exact⟨i,by omega,by rw[hsg];exact hy1,by omega⟩
    rw[tC hch,hsplit];by_cases e:c0=c
    .subst e
     rw[Tn rfl,l,<-s7 hch,O _ r];simp
    .rw[Tm e,O c r]
     simp[e]
   refine aF (λx:World=>x=drew U) [Wr 0,Wr 1,Wr 2,Wr 3,Wr 4,Wr 5,Wr 6,Wr 7,Wr 8,Wr 9,Wr 10,Wr 11,Wr 12,Wr 13,Wr 14,Wr 15] 16 mixed TL rfl ?_;refine Vq ?_;refine cb (w:=drew U) (F:=dk w0) (hKK _) rfl rfl rfl rfl rfl rfl rfl hpd hip TV (λu q Q=>?_);obtain rfl:=Q.int;rw[hpc'];refine Vq ?_;refine cb (w:=drew U) (F:=dk w0) (hKK _) rfl rfl rfl rfl rfl rfl rfl hpd hip TV (λu q Q=>?_);obtain rfl:=Q.int;rw[hpc'];skip;rw[<-hhl];refine cb (w:=drew U) (F:=λb=>b=m.heap.size) (hKK _) rfl rfl rfl rfl rfl rfl rfl hhs hch TV (λu q Q=>?_);obtain rfl:=Q.bool;rw[hhl];by_cases hh:d[c0]=true
   .rw[hh]
    refine Vp ?_;refine cC (yv:=true) rfl rfl rfl rfl rfl rfl J hch TV TV (VF _ _ _) (λw14 q ho14 j=>?_);have H:Ext m w14:=(I.trans hd).grown j (I.trans hd).size (λb l=>(J.lt b l).1);refine Ui ?_;exact m5 (i+1,d.set c0 true) TJ (Z true (by simp[hh]) _ ho14 H) TP
   .have hh:d[c0]=false:=by simpa using hh
    rw[hh];refine Vo ?_;refine cC (yv:=is) rfl rfl rfl rfl rfl rfl J hch TV TV (VF _ _ _) (λw14 q ho14 j=>?_);have H:Ext m w14:=(I.trans hd).grown j (I.trans hd).size (λb l=>(J.lt b l).1);refine Ui ?_;exact m5 (i+1,d.set c0 is) TJ (Z _ (by simp[hh]) _ ho14 H) TP
  .obtain rfl:i=sets[f].length:=by simp at h;omega
   have ho5:=M.extN I;rw[hSl]at O
   generalize hhv:Value.slice (some ⟨m.heap.size,0,none⟩) g.length g.length=hv at*
   have hhb:hv.ownBlock=some m.heap.size:=by rw[<-hhv];rfl
   refine UU ?_;refine p8 (S:=Nat×List Bool) (λs=>[(0,Uc B),(4,Uc w0.heap.size),(7,sv),(12,hv),(42,.slice so sets.length sc),(43,Ub sets.length),(44,Ub f),(79,Ub g.length),(80,Ub s.1)])
    (λs w=>s.1<=g.length/\Own w X.heap.size 4 dh sv s.2/\s.2.length=g.length/\(∀c:Nat,c<g.length->s.2.getD c false=if c<s.1 then out.getD c false&&d.getD c false else out.getD c false)/\Own w m.heap.size 4 dh hv d/\Ext X w) (λs=>g.length -s.1) (0,out) ?_
    ⟨RU _,ho5,o,λc r=>by dsimp only;rw[Tm TK],L,e3.trans I⟩ ?_
   .rw[o];exact TJ
   rintro⟨k,gd'⟩ w14 ⟨hk,j,t,G,L,H⟩
   dsimp only at hk j t G L⊢
   refine UR ?_;apply ld rfl<;>intro h
   .have hk':k<g.length:=by simp at h;omega
    have hkg:k<gd'.length:=by omega
    have hkh:k<d.length:=by omega
    have hgk:gd'[k]=out.getD k false:=by rw[<-MR hkg,G k hk',Tm TK]
    have hst:∀b:Bool,b=(out.getD k false&&d.getD k false)->∀c:Nat,c<g.length->(gd'.set k b).getD c false=if c<k+1 then out.getD c false&&d.getD c false else out.getD c false:=by
     intro b l c r
     rw[tC hkg];by_cases e:k=c
     .subst e;rw[Tn rfl,Tn TK,l]
     .rw[Tm e,G c r]
      by_cases h1:c<k
      .rw[Tn h1,Tn TK]
      .rw[Tm h1,Tm TK]
    refine Ux ?_;refine fh rfl rfl rfl rfl rfl j hkg TV (λu q Q=>?_);obtain rfl:=Q.bool;rw[hgk];by_cases V:out.getD k false=true
    .rw[V]
     refine U9 ?_;refine fh rfl rfl rfl rfl rfl L hkh TV (λu q Q=>?_);obtain rfl:=Q.bool;refine U9 ?_;refine fX (u:=.bool d[k]) (yv:=d[k]) rfl rfl rfl rfl j hkg TV TV (VF _ _ _) (λw15 q ho15 P=>?_);have e15:Ext X w15:=H.grown P H.size (λb l=>(j.lt b l).1);have R:=L.keptN P (λg hg e=>by rw[hhb]at hg;cases hg;exact absurd (hslt _ e.symm) (Rs _));refine Ui ?_;exact m5 (k+1,gd'.set k d[k]) TJ ⟨hk',ho15,by simpa using t,hst _ (by rw[V,MR hkh];rfl),R,e15⟩ TP
    .have V:out.getD k false=false:=by simpa using V
     rw[V];refine Ve ?_;refine fX (u:=.bool false) (yv:=false) rfl rfl rfl rfl j hkg TV TV (VF _ _ _) (λw15 q ho15 P=>?_);have e15:Ext X w15:=H.grown P H.size (λb l=>(j.lt b l).1);have R:=L.keptN P (λg hg e=>by rw[hhb]at hg;cases hg;exact absurd (hslt _ e.symm) (Rs _));refine Ui ?_;exact m5 (k+1,gd'.set k false) TJ ⟨hk',ho15,by simpa using t,hst _ (by rw[V];rfl),R,e15⟩ TP
   .obtain rfl:k=g.length:=by simp at h;omega
    refine Uj ?_;refine m5 (f+1,gd') TJ ⟨hf',j,t,λc r=>?_,H⟩ TP;dsimp only;rw[G c r,Tn r,NS,hr c r,O c r,<-QZ hf',SY];refine SZ Og ⟨λ⟨h1,h2⟩ F hF=>?_,λh1=>⟨λF hF=>h1 F (Ql.2 (.inl hF)),h1 sets[f] (Ql.2 (.inr TO))⟩⟩;rcases Ql.1 hF with hF|hF
    .exact h1 F hF
    .rw[QC]at hF;subst hF;exact h2
 .obtain rfl:f=sets.length:=by simp at h;omega
  rw[Q0]at hr
  obtain⟨oo,oc,rfl,hos⟩:=M.oldN.sl;refine UF ?_;refine eK (yR m true hos) ?_;rintro _ w4 ⟨rfl,e4⟩
  have hiff:∀c:Nat,c<g.length->(out.getD c false=true↔bU g part sets (c:Int)):=λc r=>hr c r
  refine Uf ?_;refine d6 ⟨_,rfl,?_,hE.trans e4⟩;rcases yu o with⟨h1,h2⟩|⟨c,h1,h2,h3⟩
  .refine .inl ⟨h1,λc h0 h3 h4=>?_⟩
   obtain⟨c,rfl⟩:=Om h0;have:=(hiff c TK).2 h4;rw[h2]at this
   cases this
  .exact .inr ⟨by omega,by omega,by rw[h1];exact(hiff c h2).1 h3⟩
def Cells.nthE{b:Nat}{cs:List Value}(h:Cells w b B cs){j:Nat}(c:cs[j]?=some v):Cells w b (B+j) [v]:=by
 intro k u a;cases k with
 |zero=>simp at a;subst a;exact h j _ c
 |succ k=>simp at a
def Sl.pairAt{ao:Option Addr}{cap:Nat}{xs:List dt}(h:Sl w F ao cap xs)(i:Nat)(hi:i<xs.length):∃b off,ao=some ⟨b,off,none⟩/\F b/\Cells w b (off+i*2+0) [Ub xs[i].1]/\Cells w b (off+i*2+1) [Ub xs[i].2]:=by obtain⟨b,off,e,hF,d,a,c⟩:=h.el i hi;obtain⟨c1,c2,rfl,h1,h2⟩:=Gr c;rw[Gl h1,Gl h2]at a;exact⟨b,off,e,hF,a.nthE rfl,a.nthE rfl⟩
def nM{l:List Int}(h:0<l.length):l.drop (l.length -1)=[l.getD (l.length -1) 0]:=by
 refine O3 TR λi h1 h2=>?_;rw[PZ]at h1;obtain rfl:i=0:=by omega
 rw[PH,Pl,Pq TK];rfl
def uh{g:bV}{part:List Int}{sets:List (List Bool)}(a:okG g)(c:PartsOK g part){i:Nat}(hi:i<g.length)(h:bU g part sets (part.getD i 0)):∃u:Nat,u<g.length/\(u:Int)∈g.getD i []/\part.getD u 0=part.getD i 0:=by obtain⟨⟨u,h1,h2⟩,_⟩:=(ug a c hi).2 h;have b:u<g.length:=Eg.lt a h1;exact⟨u,b,h1,(c.same u i b hi).2 ⟨(F5 a).2 h2,(F5 a).2 (Rc.one h1)⟩⟩
def pC(w:World)(b:Nat){S:List Bool}{k:Nat}(d:Blk w b 80 [.slice C S.length B])(c:Sl w (dk w) C B S)(a:k<S.length):
  Rt Vy 207 [Ub (k:Int),Uc b].toArray w λv w'=>v=.bool (S.getD k false)/\Ext w w':=by
 refine dS func207 ntmps207 rfl rfl (Uy ?_);refine eY rfl rfl rfl rfl rfl c a rfl TV (λq=>Uf ?_);exact d6 ⟨by rw[MR a],p7 w⟩
def pD(w:World)(b:Nat){S:List Bool}{k:Nat}(d:Blk w b 80 [.slice C S.length B])(c:Sl w (dk w) C B S)(a:k<S.length):
  Rt Vy 208 [Ub (k:Int),Uc b].toArray w λv w'=>v=.bool (S.getD k false)/\Ext w w':=by
 refine dS func208 ntmps208 rfl rfl (Uy ?_);refine eY rfl rfl rfl rfl rfl c a rfl TV (λq=>Uf ?_);exact d6 ⟨by rw[MR a],p7 w⟩
def pE(w:World)(b:Nat){k n:Nat}(a:Blk w b 3 [Ub (n:Int)]):
  Rt Vy 209 [Ub (k:Int),Uc b].toArray w λv w'=>v=.bool (decide (k=n))/\Ext w w':=by
 refine dS func209 ntmps209 rfl rfl (U2 ?_);refine d6 ⟨?_,p7 w⟩;congr 1;(rw[NU];simp;try omega)
def pF(w0:World){n:Nat}{x0 x2 x3 x4 x5 x6 x7 x8 x9 x10 x12:Value}{so:Option Addr}{sc:Nat}{part:List Int}{sets:List (List Bool)}
  (m:Blk w0 B 223 [x0,A,x2,x3,x4,x5,x6,x7,x8,x9,x10,.slice C g.length a,x12]) (hs:Sl w0 (dk w0) C a g) (hp:Sl w0 (dk w0) D K part) (hfs:Sl w0 (dk w0) so sc sets)
  (P:okG g) (I:PartsOK g part) (hl:g.length<=1228800) (hsl:∀S∈sets,S.length=g.length) (hsn:sets.length<=160) (hrw0:∀r∈g,r.length<=1099511627776) (hn:n<g.length) (hgd:bU g part sets (part.getD n 0)):
  Rt Vy 128 [Uc B,Ub (n:Int),.slice D part.length K,.slice so sets.length sc].toArray w0 λv w'=>∃out,Own w' w0.heap.size 3 dh v out/\RoOK g n sets out/\Ext w0 w':=by
 have hpl:=I.len;have hms:=hfs.len63;have hnp:n<part.length:=by omega
 have h0:=I.ge n hnp;have hpn:part[n]=part.getD n 0:=(MT hnp).symm;have hsb0:=m.lt;have hsg:sets.length*g.length<=160*1228800:=RB hsn hl;refine dU func128 ntmps128 rfl rfl (UZ ?_);refine eH λw1 hb5 V=>?_;have hl5:=hb5.lt;generalize E:w0.heap.size=b5 at*;refine Uy ?_;refine e_ (hp.at V) hnp hpn TV (λq=>?_);generalize T:part.getD n 0=c at*;refine Uy ?_;refine VN (F:=dh) (ys:=[(n:Int)]) rfl rfl rfl rfl rfl (.cons T7 .nil) (by show 1*1<=16777216;decide) TY (λw2 ho2 hg2=>?_);have e2:Ext w1 w2:=(NP _ _).grown hg2 T8 T2;generalize hov:Value.slice (some ⟨w1.heap.size,0,none⟩) 1 1=ov0 at*;refine Ut ?_;refine p8 (S:=Nat×List Int×Value) (λs=>[(0,Uc B),(2,.slice D part.length K),(5,Uc b5),(9,Ub c),(10,s.2.2),(24,.slice so sets.length sc),(25,Ub sets.length),(26,Ub s.1)])
  (λs w=>s.1<=sets.length/\RoI g part n (sets.take s.1) s.2.1/\Own w w1.heap.size 3 dh s.2.2 s.2.1/\Ext w1 w) (λs=>sets.length -s.1) (0,[(n:Int)],ov0) TJ
  ⟨RU _,by simpa using RoI.start (part:=part) hn,ho2,e2⟩ ?_
 clear ho2 hg2 e2;rintro⟨i,out,ov⟩ w ⟨hi,hR,ho,e⟩;dsimp only at hi hR ho e⊢;have W:=V.trans e;have hRl:=hR.len;have hRn:=hR.ne;have hlt:=λg P=>ho.lt g P;have hbw:=m.ext W;have hb5w:=hb5.ext e;have htl:(sets.take i).length<=160:=by rw[Qb];omega
 have htg:(sets.take i).length*g.length<=160*1228800:=RB htl hl;have hol:out.length<=196608001:=by omega
 have t:out.getD (out.length -1) 0∈out:=by rw[Pl,Pq TK];exact PL _
 have hlr:=hR.rg _ t;have J:=hR.pt _ t;obtain⟨la,R⟩:=Om hlr.1;rw[R,Oy,T]at J;have f:la<g.length:=by omega
 refine UR ?_;apply ld rfl<;>intro h
 .have M:i<sets.length:=by simp at h;omega
  clear h;have hSm:=PL M;have hSl:=hsl _ hSm;have H:sets.take (i+1)=sets.take i++[sets[i]]:=Q4 M;refine UC ?_;refine fe (hfs.mono (w':=w) W.block (F':=λb=>b<b5) (λb m=>by rw[<-E];exact m)) M TV (λu q hu=>?_);obtain⟨Fo,Fc,rfl,hF⟩:=hu.sl;clear hu;generalize sets[i]=S at*;refine eC (λw3 U G=>?_);refine f7 U (λw4 U hg4=>?_);have e4:Ext w w4:=G.grown hg4 G.size TX;have hE4:=W.trans e4;have ho4:=ho.extN e4;have hz4:=hE4.size;have hF4:∀{x:World},Ext w4 x->Sl x (dk x) Fo Fc S:=λ {x} hx=>hF.mono (λb m=>((hE4.trans hx).block b (by rw[E];exact m)).trans (W.block b (by rw[E];exact m)).symm) (λb m=>by have:=(hE4.trans hx).size;exact(show b<x.heap.size by omega));obtain⟨oo,oc,rfl,hos⟩:=ho4.oldN.sl;refine Um ?_;refine eK (l_ w4 (λx=>S.getD x.toNat false) hos (λw5 d j hj=>?_)) ?_
  .have hto:=hR.rg _ (PL hj);obtain⟨to,eto⟩:=Om hto.1;rw[eto,Oy];exact VE (cs:=[_]) (pC w5 _ (U.ext d) (hF4 d) TK)
  rintro _ w5 ⟨rfl,e5⟩;have e45:=e4.trans e5;have hE5:=W.trans e45;have O:=e.trans e45;have ho5:=ho4.extN e5;refine UG ?_;apply ld rfl<;>intro h2
  .refine Uj ?_;refine m5 (i+1,out,.slice oo out.length oc) TJ ⟨M,?_,ho5,O⟩ TP;dsimp only;rw[H];rw[OE]at h2;exact hR.skip h2
  .have hdl:=nM hRn;refine U5 ?_;refine eV (α:=Int) (out.length -1) TK rfl rfl rfl rfl ho5 TK (λtv2 ho2 hob=>?_);rw[hdl]at ho2;obtain⟨fo,fc,rfl,hfr⟩:=ho2.oldN.sl;have hfin:=hgd.2 S hSm;obtain⟨x,hx,hxs,hxp⟩:=hfin;refine Vf ?_;refine eK (pR w5 (fr:=[out.getD (out.length -1) 0]) (to:=λk=>S.getD k false) (m.ext hE5) (hs.up hE5) hfr (hp.up hE5) P (λy hy=>by rw[QC]at hy;subst hy;exact hlr) hpl hl (λz hz k hk=>VE (cs:=[_]) (pD z _ ((U.ext e5).ext hz) (hF4 (e5.trans hz)) TK))) ?_;rintro v6 w6 ⟨r,hor,d,e6⟩;have d:WyOK g [out.getD (out.length -1) 0] (λk=>S.getD k false) (gy part c) r:=by
    obtain⟨_,d⟩|d:=d
    .exact absurd d (MD P I h0 f hx J hxp (by rw[R];simp) hxs)
    .exact d
   have hrl:=d.len;have hrn:=d.ne;have hR':=hR.go (S:=S) (l:=r) (by rw[T];exact h0) (by rw[T];exact d);have ho6:=ho5.extN e6;have hz5:=O.size;refine UR ?_;refine eV (α:=Int) 1 rfl rfl rfl rfl rfl hor TK (λv7 ho7 hob7=>?_);obtain⟨ro,rc,rfl,Q⟩:=ho7.oldN.sl;refine V7 (F:=dh) rfl rfl rfl rfl ho6 Q.srcN (by have:=(O.trans e6).size;omega) TY (by unfold maxLen;rw[PZ];omega) (by rw[PZ];omega) (λv8 w8 ho8 hg8 hnb8=>?_);have e8:Ext w1 w8:=(O.trans e6).grown hg8 (O.trans e6).size (λb m=>(ho6.lt b m).1);refine Ui ?_;exact m5 (i+1,out++r.drop 1,v8) TJ ⟨M,by dsimp only;rw[H];exact hR',ho8,e8⟩ TP
 obtain rfl:i=sets.length:=by simp at h;omega
 rw[Q0]at hR;clear h hi htl htg;obtain⟨oo,oc,rfl,hos⟩:=ho.oldN.sl;have X:g.getD la []=g[la]:=MS f;refine U8 ?_;have Y:out.length -1<out.length:=by omega
 have hlael:out[out.length -1]=(la:Int):=by rw[<-R,MT Y]
 rw[show((out.length:Nat):Int) -1=((out.length -1:Nat):Int) by omega];refine dy rfl rfl rfl rfl rfl T0 hos Y hlael TV (λq=>dz rfl rfl rfl rfl rfl (λb m=>by have:=W.size;omega) (hs.mono (w':=w) W.block (F':=λb=>b<b5) (λb m=>by rw[<-E];exact m)) f TV (λu q hu=>?_));obtain⟨ro,rc,rfl,Q⟩:=hu.sl;clear hu;have hrr:Dy g.length g[la]:=P _ (PL f);have hrwl:=hrw0 _ (PL f);generalize hrw:g[la]=row at*;have hrl:=Q.len63;refine Vd ?_;refine VD (λw2 e2=>?_);have e12:=e.trans e2;have hE2:=W.trans e2;have ho2:=ho.extN e2;have hz2:=hE2.size;refine UC ?_;refine p8 (S:=Nat×List Int×Value) (λs=>[(0,Uc B),(2,.slice D part.length K),(5,Uc b5),(9,Ub c),(10,.slice oo out.length oc),(14,s.2.2),(59,.slice ro row.length rc),(60,Ub row.length),(61,Ub s.1)])
  (λs w=>s.1<=row.length/\s.2.1=(row.take s.1).filter (λk=>decide (part.getD k.toNat 0=c))/\Own w w2.heap.size 3 dh s.2.2 s.2.1/\Ext w2 w) (λs=>row.length -s.1) (0,[],.slice none 0 0) TJ
  ⟨RU _,by simp,r3,p7 _⟩ ?_
 rintro⟨j,th,tv⟩ w3 ⟨hj,o,ht,G⟩;dsimp only at hj o ht G⊢;have N:=hE2.trans G;have hthl:th.length<=j:=by rw[o];exact Rr (P3 _ _) (by rw[Qb];omega)
 refine UR ?_;apply ld rfl<;>intro h
 .have L:j<row.length:=by simp at h;omega
  clear h;have hkr:=hrr _ (PL L);have H:row.take (j+1)=row.take j++[row[j]]:=Q4 L;refine UC ?_;refine e_ (Q.mono (w':=w3) (λb m=>(N.block b (by rw[E];exact m)).trans (W.block b (by rw[E];exact m)).symm) (F':=λb=>b<b5) T0) L rfl TV (λq=>?_);generalize row[j]=k at*;obtain⟨kn,rfl⟩:=Om hkr.1;have hkp:kn<part.length:=by omega
  have hpk:part.getD kn 0=part[kn]:=MT hkp;refine UR ?_;refine e_ (hp.at N) hkp rfl TV (λq=>?_);refine Ug ?_;apply ld rfl<;>intro h2
  .have h2:part[kn]=c:=by simpa using h2
   refine U4 ?_;refine eF (F:=dh) (yv:=(kn:Int)) rfl rfl TV rfl rfl TV ht T7 G.size TY TN TQ TK (λtv' w4 p ho4 hg4 hnb4=>Ui ?_);refine m5 (j+1,th++[(kn:Int)],tv') TJ ⟨L,?_,ho4,G.grown hg4 G.size (λg P=>(ht.lt g P).1)⟩ TP;dsimp only;rw[H,O5,<-o,O7,O_,Oy,hpk,Tc h2,Tn rfl]
  .have h2:¬part[kn]=c:=by simpa using h2
   refine US ?_;refine m5 (j+1,th,tv) TJ ⟨L,?_,ht,G⟩ TP;dsimp only;rw[H,O5,<-o,O7,O_,Oy,hpk,Ta h2,Tm TN,OH]
 obtain rfl:j=row.length:=by simp at h;omega
 rw[Q0]at o;clear h hj hthl;have Z:∀x∈th,x∈row:=λx hx=>by rw[o]at hx;exact(Qs.1 hx).1
 obtain⟨tt,tc,rfl,hts⟩:=ht.oldN.sl;have ho3:=ho2.extN G;obtain⟨u,hu,hue,hup⟩:=uh P I f (sets:=sets) (by rw[J];exact hgd);rw[X]at hue;have hut:(u:Int)∈th:=by rw[o];exact Qs.2 ⟨hue,Tc (by rw[Oy,hup,J])⟩
 have hb53:=hb5w.ext (e2.trans G);refine U1 ?_;refine eK (pR w3 (fr:=th) (to:=λk=>decide (k=n)) (m.ext N) (hs.up N) hts (hp.up N) P (λy hy=>hrr y (Z y hy)) hpl hl (λz hz k hk=>VE (cs:=[_]) (pE z _ (hb53.ext hz)))) ?_;rintro v6 w6 ⟨r,hor,d,e6⟩;have d:WyOK g th (λk=>decide (k=n)) (gy part c) r:=by
  obtain⟨_,d⟩|d:=d
  .exact absurd d (MD P I h0 hu hn (by rw[hup,J]) T hut TO)
  .exact d
 have hrl2:=d.len;have hrn:=d.ne;have hRO:=hR.close (l:=r) (fr:=th) (by rw[R,Oy,X];exact Z) d;have ho6:=ho3.extN e6;have e16:=(e12.trans G).trans e6;refine U5 ?_;refine eT (α:=Int) (r.length -1) TK rfl rfl rfl rfl hor TK (λv7 ho7 hob7=>?_);obtain⟨ro7,rc7,rfl,hrs7⟩:=ho7.oldN.sl;refine V7 (F:=dh) rfl rfl rfl rfl ho6 hrs7.srcN e16.size TY (by unfold maxLen;rw[Qb];omega) (by rw[Qb];omega) (λv8 w8 ho8 hg8 hnb8=>?_);have e8:Ext w1 w8:=e16.grown hg8 e16.size (λb m=>(ho6.lt b m).1);refine Uf ?_;exact d6 ⟨_,ho8.low (by have:=V.size;omega),hRO,V.trans e8⟩
def pJ(w0:World){x0 M L J I H G E D m j:Value}{lo ao:Option Addr}{ps:List dt}{l:List Int}
  (U:Blk w0 B 223 [x0,A,M,L,J,I,H,G,E,D,.slice lo ps.length a,m,j]) (t:Sl w0 (dk w0) lo a ps) (O:Sl w0 (dk w0) ao K l) (Q:Dy ps.length l) (P:l.length<=1099511627776):
  Rt Vy 129 [Uc B,.slice ao l.length K].toArray w0 λv w'=>Own w' w0.heap.size 3 dh v (l.map λn=>(ps.getD n.toNat (0,0)).1)/\Ext w0 w':=by
 refine dS func129 ntmps129 rfl rfl (Ut ?_);refine p8 (S:=Nat×Value) (λs=>[(0,Uc B),(5,s.2),(8,.slice ao l.length K),(9,Ub l.length),(10,Ub s.1)])
  (λs w=>s.1<=l.length/\Own w w0.heap.size 3 dh s.2 ((l.take s.1).map λn=>(ps.getD n.toNat (0,0)).1)/\Ext w0 w) (λs=>l.length -s.1) (0,.slice none 0 0) TJ ⟨RU _,r3,p7 _⟩ ?_
 rintro⟨i,ov⟩ w ⟨hi,f,d⟩;dsimp only at hi f d⊢;have T:=U.ext d;refine UR ?_;apply ld rfl<;>intro h
 .have c:i<l.length:=by simp at h;omega
  have o:=Q _ (PL c);have e:(l.take (i+1)).map (λn=>(ps.getD n.toNat (0,0)).1)=(l.take i).map (λn=>(ps.getD n.toNat (0,0)).1)++[(ps.getD l[i].toNat (0,0)).1]:=by rw[Q4 c,Qe];rfl
  have N:(List.map (λn:Int=>(ps.getD n.toNat (0,0)).1) (l.take i)).length=i:=by rw[P4,Qb];omega
  refine UC ?_;refine e_ (O.up d) c rfl TV (λq=>?_);generalize l[i]=x at*;obtain⟨k,rfl⟩:=Om o.1;rw[Oy]at e;have C:k<ps.length:=by omega
  have r:ps.getD k (0,0)=ps[k]:=by rw[Pl,Pq C];rfl
  rw[r]at e;obtain⟨b,off,rfl,V,y,_⟩:=(t.up d).pairAt k C;refine UN ?_;refine fk (α:=dt) rfl rfl rfl rfl TK TK (fj rfl rfl rfl (VQ (α:=Int) (F:=dh) rfl rfl rfl y rfl (eF (F:=dh) (yv:=ps[k].1) rfl rfl TV rfl rfl TV f T7 d.size TY TN TQ TK (λtv' W p ho4 u z=>Ui ?_))));refine m5 (i+1,tv') TJ ⟨c,?_,d.grown u d.size (λg R=>(f.lt g R).1)⟩ TP;dsimp only;rw[e];exact ho4
 .obtain rfl:i=l.length:=by simp at h;omega
  rw[Q0]at f;refine UF ?_;exact be ⟨f,d⟩
def bt(m j:Nat):Bool:=beq (Nat.land (Nat.shiftRight m j) 1) 1
def J9(m M:Nat):Bool:=beq (Nat.land m M) m
def alone(i M:Nat):Nat->List Nat->Bool
 |_,[]=>true
 |j,m::r=>match beq j i with
  |true=>alone i M (j+1) r
  |false=>match bt M j with
   |true=>alone i M (j+1) r
   |false=>match J9 m M with
    |true=>false
    |false=>alone i M (j+1) r
section
variable {L:List Oper}{listed:Array Bool}{M i:Nat}
end
section
variable {P:Program}{Q:Exit->Act->World->Prop}{n:Nat}{σ:Sg}{w:World}{L:List Oper}
end
def M8(P:Program)(ops:Array Oper)(Q:Exit->Act->World->Prop)(S:Array Bool->World->Prop):Nat->Array Bool->Act->World->Prop
 |0,f,a,w=>ready .any ops f=[]/\Q .normal a w
 |fuel+1,f,a,w=>
  (ready .any ops f=[]->Q .normal a w)/\
  ∀i∈ready .any ops f,wpOp P ops Q i (λh w'=>S (f.setIfInBounds i true) w'/\M8 P ops Q S fuel (f.setIfInBounds i true) h w') a w
section
variable {P:Program}{ops:Array Oper}{Q:Exit->Act->World->Prop}{S:Array Bool->World->Prop}
theorem Nb:∀(fuel:Nat) (f:Array Bool) (a:Act) (w:World),M8 P ops Q S fuel f a w->wpAny P .any ops Q fuel f a w
 |0,_,_,_,h=>h
 |fuel+1,_,_,_,h=>⟨h.1,λi hi=>TF (λk w' j=>Nb fuel _ k w' j.2) (h.2 i hi)⟩
theorem M9{i:Nat}{oi:Oper}{v:Value}(hi:ops[i]?=some oi)(r:∀(j:Nat) (o:Oper) cs b,ops[j]?=some o->o.op≠.select cs b)
  (hQ:∀c a w,Q (.panic c) (a.put oi.dst v) w->Q (.panic c) a w) (Rch:Array Bool->Prop) (hR:∀L j,Rch L->j≠i->j∈ready .any ops L->Rch (L.setIfInBounds j true))
  (z:∀L w,S (L.setIfInBounds i true) w↔S L w):
  ∀(fuel:Nat) (f:Array Bool) (a:Act) (w:World),Rch f->
   (∀j oj,ops[j]?=some oj->j≠i->f.getD j true=false->(∀e∈oj.after,Region.binds .any e=true->e.on≠i)->oi.apart ops oj=true)->
   i∈ready .any ops f->YieldsIf P ops (λw=>∃L,Rch L/\S L w) oi v a->S f w->
   M8 P ops Q S fuel (f.setIfInBounds i true) (a.put oi.dst v) w->M8 P ops Q S (fuel+1) f a w:=by
 intro fuel;induction fuel with
 |zero=>
  intro f a w q _ u F hS H;refine⟨λh=>(by rw[h]at u;cases u),λj hj=>?_⟩;by_cases l:j=i
  .subst l;exact F.wpOp hi ⟨f,q,hS⟩ ⟨(z _ _).2 hS,H⟩
  .have:=Tw hj l;rw[H.1]at this;cases this
 |succ fuel O=>
  intro f a w q m u F hS H;refine⟨λh=>(by rw[h]at u;cases u),λj hj=>?_⟩;by_cases l:j=i
  .subst l;exact F.wpOp hi ⟨f,q,hS⟩ ⟨(z _ _).2 hS,H⟩
  .have h1:=H.2 j (Tw hj l);obtain⟨s,oj,y,D⟩:=Tp.1 hj;have B:∀e∈oj.after,Region.binds .any e=true->e.on≠i:=λe T U J=>by
    have h1:=D e T U;have N:=(Tp.1 u).1;rw[J]at h1;obtain M|M:=Rw i f.size
    .simp[M]at N h1;rw[N]at h1;cases h1
    .simp[NA M]at h1
   have h2:=wpOp_putIf y (m j oj y l s B) (λcs b=>r i oi cs b hi) (λcs b=>r j oj cs b y) hQ F h1;have p:∀k ok,ops[k]?=some ok->k≠i->(f.setIfInBounds j true).getD k true=false->
     (∀e∈ok.after,Region.binds .any e=true->e.on≠i)->oi.apart ops ok=true:=λk ok R I A G=>by
    refine m k ok R I ?_ G;by_cases C:j=k
    .subst C;exact s
    .rw[getD_set_ne true C]at A;exact A
   refine TF (λV w' h3=>?_) h2;have K:(f.setIfInBounds i true).setIfInBounds j true=(f.setIfInBounds j true).setIfInBounds i true:=NJ _ _ (RW l);rw[K]at h3;have E:=(z _ _).1 h3.2.1;exact⟨E,O (f.setIfInBounds j true) V w' (hR _ _ q l hj) p (Tw u (RW l)) h3.1 E h3.2.2⟩
end
structure Cls(L:List Oper)(l:Array Bool):Prop where
 size:l.size=L.length
 cl:∀k o,l.getD k false=true->L[k]?=some o->∀j∈DI o,l.getD j false=true
def Cls.put{l:Array Bool}(h:Cls L l){j:Nat}(hj:j∈ready .any L.toArray l):Cls L (l.setIfInBounds j true):=by
 obtain⟨_,o,q,r⟩:=Tp.1 hj;have a:L[j]?=some o:=by simpa using q
 refine⟨by simpa using h.size,λk p f ho2 x m=>?_⟩;refine listed_set.2 (.inr ?_);obtain⟨rfl,_⟩|f:=listed_set.1 f
 .rw[a]at ho2;cases ho2;exact DJ r x m
 .exact h.cl k p f ho2 x m
def SG(c e:Nat)(Sw Ss:World->Prop):Array Bool->World->Prop:=λl w=>l.getD e false=false->Sw w/\(l.getD c false=false->Ss w)
def tF{l:Array Bool}{i c:Nat}(a:i≠c):(l.setIfInBounds i true).getD c false=l.getD c false:=by simp only[Ny];rw[NG a]
def dW{c e i:Nat}(f:i≠c)(a:i≠e){Ss:World->Prop}(l:Array Bool)(w:World):SG c e S Ss (l.setIfInBounds i true) w↔SG c e S Ss l w:=by unfold SG;rw[tF f,tF a]
def i7(L:List Oper)(c i:Nat):Bool:=(mark L (c+1) ((replicate (c+1) false).set c true)).getD i false
def i9{l:Array Bool}{c i:Nat}(h:i7 L c i=true)(m:Cls L l)(hi:l.getD i false=false):l.getD c false=false:=by
 cases f:l.getD c false with
 |false=>rfl
 |true=>
  have:=BI (L:=L) (S:=λx=>l.getD x false=true) (λx o a k j hj=>m.cl x o a k j hj) (c+1) ((replicate (c+1) false).set c true) (λx a=>by
   by_cases e:c=x
   .subst e;exact f
   .exfalso;simp[Pl,Py,e,Pw]at a;split at a<;>simp at a) i h
  rw[hi]at this;cases this
def DW(L:List Oper)(c e:Nat):List (Nat×Nat)->Array Bool->Bool
 |[],a=>(ready .any L.toArray a).isEmpty
 |(i,k)::r,a=>match k with
  |0=>decide (ready .any L.toArray a=[i])&&decide (i≠e)&&DW L c e r (a.setIfInBounds i true)
  |1=>(ready .any L.toArray a).contains i&&Region.free .any L.toArray a i&&decide (i≠c)&&decide (i≠e)&&(decide (L.length<=e)||i7 L e i)&&DW L c e r (a.setIfInBounds i true)
  |2=>(ready .any L.toArray a).contains i&&Region.free .any L.toArray a i&&decide (i≠c)&&decide (i≠e)&&(decide (L.length<=e)||i7 L e i)&&i7 L c i&&DW L c e r (a.setIfInBounds i true)
  |_=>decide (ready .any L.toArray a=[i])&&decide (i=e)&&DW L c e r (a.setIfInBounds i true)
def Nk(P:Program)(ops:List Oper)(c e:Nat)(Sw Ss:World->Prop)(Q:Act->World->Prop):Bool->List (Nat×Nat)->Act->World->Prop
 |_,[],a,w=>Q a w
 |ph,(i,k)::r,a,w=>match k with
  |0=>∃o,ops[i]?=some o/\(if Region.wanted o (yielded ops.toArray a.tmps)=true then o.wp P a w (λf w'=>Sw w'/\((ph||beq i c)=false->Ss w')/\Nk P ops c e Sw Ss Q (ph||beq i c) r f w') (λe a w=>e=.normal/\Q a w)else Sw w/\((ph||beq i c)=false->Ss w)/\Nk P ops c e Sw Ss Q (ph||beq i c) r (a.put o.dst undef) w)
  |1=>∃o v,ops[i]?=some o/\YieldsIf P ops.toArray Sw o v a/\Nk P ops c e Sw Ss Q ph r (a.put o.dst v) w
  |2=>∃o v,ops[i]?=some o/\YieldsIf P ops.toArray Ss o v a/\Nk P ops c e Sw Ss Q ph r (a.put o.dst v) w
  |_=>r=[]/\∃o,ops[i]?=some o/\(if Region.wanted o (yielded ops.toArray a.tmps)=true then o.wp P a w Q (λe a w=>e=.normal/\Q a w)else Q (a.put o.dst undef) w)
def Ns{ops:Array Oper}{S':World->Prop}{a:Act}(h:YieldsIf P ops S o v a)(hS:∀w,S' w->S w):YieldsIf P ops S' o v a:=
 h.imp (λ⟨h1,h2⟩=>⟨h1,λw f=>h2 w (hS w f)⟩) id
def Nm{P:Program}{L:List Oper}{c e:Nat}{Sw Ss:World->Prop}{Q:Act->World->Prop}(R:Region.noSelect L.toArray=true):
  ∀(ord:List (Nat×Nat)) (ph:Bool) (f:Array Bool) (a:Act) (w:World),DW L c e ord f=true->Cls L f->(f.getD c false=ph)->SG c e Sw Ss f w->Nk P L c e Sw Ss Q ph ord a w->
   M8 P L.toArray (λe a w=>e=.normal/\Q a w) (SG c e Sw Ss) ord.length f a w
 |[],ph,f,a,w,z,_,_,_,h=>by simp only[DW,PW]at z;exact⟨z,rfl,h⟩
 |(i,0)::r,ph,f,a,w,z,B,A,hS,⟨o,D,h⟩=>by
  simp only[DW,NS,Td]at z;obtain⟨⟨G,_⟩,H⟩:=z;have p:i∈ready .any L.toArray f:=by rw[G];simp
  have U:=B.put p;have M:i<L.length:=(Pt.1 D).1;have m:(f.setIfInBounds i true).getD c false=(ph||beq i c):=by
   cases e:beq i c with
   |true=>
    obtain rfl:=Ri e;have:=B.size;simp[Ny,show i<f.size by omega]
   |false=>
    have s:i≠c:=λh=>by subst h;rw[Rf]at e;cases e
    rw[tF s,A,N7]
  refine⟨λZ=>(by rw[Z]at p;cases p),λj hj=>?_⟩;rw[G,QC]at hj;subst hj;have q:L.toArray[j]?=some o:=by simpa using D
  unfold wpOp;simp only[q];split
  .rename_i C;rw[Tn C]at h;exact .inl (RX (λT w' O=>⟨λ_=>⟨O.1,λJ=>O.2.1 (m▸J)⟩,Nm R r _ _ _ _ H U m (λ_=>⟨O.1,λJ=>O.2.1 (m▸J)⟩) O.2.2⟩) h)
  .rename_i C;rw[Tm C]at h;exact⟨λ_=>⟨h.1,λJ=>h.2.1 (m▸J)⟩,Nm R r _ _ _ _ H U m (λ_=>⟨h.1,λJ=>h.2.1 (m▸J)⟩) h.2.2⟩
 |(i,1)::r,ph,f,a,w,z,B,A,hS,⟨o,v,D,V,h⟩=>by
  simp only[DW,NS,Td,N6]at z;obtain⟨⟨⟨⟨⟨h1,h2⟩,s⟩,y⟩,N⟩,h3⟩:=z;have p:i∈ready .any L.toArray f:=by simpa using h1
  have q:L.toArray[i]?=some o:=by simpa using D
  have m:(f.setIfInBounds i true).getD c false=ph:=by rw[tF s];exact A
  have M:i<L.length:=(Pt.1 D).1;have K:f.getD i false=false:=by have:=(Tp.1 p).1;have W:=B.size;rw[tG TK]at this;simpa using this
  have F:∀l:Array Bool,Cls L l->l.getD i false=false->l.getD e false=false:=λl u hi=>N.elim (λh=>by have:=u.size;simp[Ny,NA (show l.size<=e by omega)]) (λh=>i9 h u hi);exact M9 q (R_ R) (λ_ _ _ h=>by cases h.1) (λl=>Cls L l/\l.getD i false=false) (λl j u E hj=>⟨u.1.put hj,by rw[tF E];exact u.2⟩) (λl w=>dW s y l w) r.length f a w ⟨B,K⟩ (R9 q h2) p
   (Ns V λw ⟨l,u,C⟩=>(C (F l u.1 u.2)).1) hS (Nm R r ph _ _ _ h3 (B.put p) m ((dW s y _ _).2 hS) h)
 |(i,2)::r,ph,f,a,w,z,B,A,hS,⟨o,v,D,V,h⟩=>by
  simp only[DW,NS,Td,N6]at z;obtain⟨⟨⟨⟨⟨⟨h1,h2⟩,s⟩,y⟩,N⟩,X⟩,h3⟩:=z;have p:i∈ready .any L.toArray f:=by simpa using h1
  have q:L.toArray[i]?=some o:=by simpa using D
  have m:(f.setIfInBounds i true).getD c false=ph:=by rw[tF s];exact A
  have M:i<L.length:=(Pt.1 D).1;have K:f.getD i false=false:=by have:=(Tp.1 p).1;have W:=B.size;rw[tG TK]at this;simpa using this
  have F:∀l:Array Bool,Cls L l->l.getD i false=false->l.getD e false=false:=λl u hi=>N.elim (λh=>by have:=u.size;simp[Ny,NA (show l.size<=e by omega)]) (λh=>i9 h u hi);exact M9 q (R_ R) (λ_ _ _ h=>by cases h.1) (λl=>Cls L l/\l.getD i false=false) (λl j u E hj=>⟨u.1.put hj,by rw[tF E];exact u.2⟩) (λl w=>dW s y l w) r.length f a w ⟨B,K⟩ (R9 q h2) p
   (Ns V λw ⟨l,u,C⟩=>(C (F l u.1 u.2)).2 (i9 X u.1 u.2)) hS (Nm R r ph _ _ _ h3 (B.put p) m ((dW s y _ _).2 hS) h)
 |(i,k+3)::r,ph,f,a,w,z,B,A,hS,⟨hr,o,D,h⟩=>by
  subst hr;simp only[DW,NS,Td]at z;obtain⟨⟨G,rfl⟩,H⟩:=z;have p:i∈ready .any L.toArray f:=by rw[G];simp
  have M:i<L.length:=(Pt.1 D).1;have Y:(f.setIfInBounds i true).getD i false=true:=by have:=B.size;simp[Ny,show i<f.size by omega]
  refine⟨λZ=>(by rw[Z]at p;cases p),λj hj=>?_⟩;rw[G,QC]at hj;subst hj;have q:L.toArray[j]?=some o:=by simpa using D
  have I:∀T w',Q T w'->SG c j Sw Ss (f.setIfInBounds j true) w'/\M8 P L.toArray (λe a w=>e=.normal/\Q a w) (SG c j Sw Ss) ([]:List (Nat×Nat)).length (f.setIfInBounds j true) T w':=λT w' hq=>
   ⟨λh=>(by rw[Y]at h;cases h),by simpa using H,rfl,hq⟩
  unfold wpOp;simp only[q];split
  .rename_i C;rw[Tn C]at h;exact .inl (RX (λT w' O=>I T w' O) h)
  .rename_i C;rw[Tm C]at h;exact I _ _ h
@[irreducible] def HP (P:Program) (ops:List Oper) (c e:Nat) (Sw Ss:World->Prop) (Q:Exit->Act->World->Prop) (ph:Bool) (ord:List (Nat×Nat)) (n:Nat) (σ:Sg) (w:World):Prop:=
  ∀a,Fr n σ a->Nk P ops c e Sw Ss (λa w=>Q .normal a w) ph ord a w
section
variable {P:Program}{Q:Exit->Act->World->Prop}{n:Nat}{σ:Sg}{w:World}{L:List Oper}{c e:Nat}{Sw Ss:World->Prop}
theorem aI{id:Nat}(c e:Nat)(Sw Ss:World->Prop)(ord:List (Nat×Nat))(q:P.follows .mixedOrders=true)(f:(Region.noSelect L.toArray&&decide (ord.length=L.length)&&DW L c e ord (Array.replicate L.length false))=true)(m:Sw (drew w))(hS:Ss (drew w))(h:HP P L c e Sw Ss Q false ord n σ (drew w)):CW P (.region id L.toArray true) Q n σ w:=by
 unfold CW;unfold HP at h;intro a u;simp only[NS,Td]at f;obtain⟨⟨p,r⟩,f⟩:=f;have l:∀k,(Array.replicate L.length false).getD k false=false:=λk=>by simp[Ny,NE];split<;>rfl
 have h1:=Nm (Q:=λa w=>Q .normal a w) p ord false (Array.replicate L.length false) a (Go.Proofs.YtfpjecjadlgdcaaGreatDoor.drew w) f ⟨by simp,λk o j=>by rw[l k]at j;cases j⟩ (l c) (λ_=>⟨m,λ_=>hS⟩) (h a u);rw[r]at h1;have h2:(Code.region id L.toArray true).wp P (λx a w=>x=.normal/\Q .normal a w) a w:=TI q (by simpa using Nb _ _ _ _ h1);exact TH h2 (λx v w' ⟨s,hq⟩=>by subst s;exact hq)
theorem HP.nil{ph:Bool}(h:EX Q .normal n σ w):HP P L c e Sw Ss Q ph [] n σ w:=by unfold HP;unfold EX at h;exact λa f=>h a f
def ah(P:Program)(ops:List Oper)(c e:Nat)(Sw Ss:World->Prop)(Q:Exit->Act->World->Prop)(ph:Bool)(ord:List (Nat×Nat)):Exit->Act->World->Prop:=
 λx a w=>x=.normal/\Sw w/\(ph=false->Ss w)/\Nk P ops c e Sw Ss (λa w=>Q .normal a w) ph ord a w
def KL(k:Nat):List (Nat×Bool)->List (Nat×Nat)
 |[]=>[]
 |(i,_)::r=>(i,k)::KL k r
def gG:List (Nat×Bool)->Bool
 |[]=>true
 |(_,b)::r=>b&&gG r
theorem Nl{Q:Act->World->Prop}{ph:Bool}{r:List (Nat×Nat)}{S:World->Prop}{k:Nat}(j:∀i r a w,Nk P L c e Sw Ss Q ph ((i,k)::r) a w↔∃o v,L[i]?=some o/\YieldsIf P L.toArray S o v a/\Nk P L c e Sw Ss Q ph r (a.put o.dst v) w):∀(s:List (Nat×Bool)) (a:Act) (w:World),gG s=true->Ng P L S (λa w=>Nk P L c e Sw Ss Q ph r a w) s a w->Nk P L c e Sw Ss Q ph (KL k s++r) a w
 |[],a,w,_,h=>h
 |(i,true)::s,a,w,f,⟨o,v,m,l,h⟩=>(j i _ a w).2 ⟨o,v,m,l,Nl j s _ _ (by simpa[gG]using f) h⟩
 |(i,false)::s,a,w,f,_=>by simp[gG]at f
def dP(P:Program)(ops:List Oper)(c e:Nat)(Sw Ss:World->Prop)(Q:Exit->Act->World->Prop)(ph:Bool)(ord:List (Nat×Nat)):Exit->Act->World->Prop:=
 λx a w=>x=.normal/\Nk P ops c e Sw Ss (λa w=>Q .normal a w) ph ord a w
theorem HP.weak{ph:Bool}{r:List (Nat×Nat)}(s:List (Nat×Bool))(j:gG s=true)(h:HL P L Sw (dP P L c e Sw Ss Q ph r) s n σ w):HP P L c e Sw Ss Q ph (KL 1 s++r) n σ w:=by
 unfold HP;unfold HL at h;intro a q;have h2:Ng P L Sw (λa w=>Nk P L c e Sw Ss (λa w=>Q .normal a w) ph r a w) s a w:=by
  have f:∀(s:List (Nat×Bool)) (a:Act) (w:World),gG s=true->Ng P L Sw (λa w=>dP P L c e Sw Ss Q ph r .normal a w) s a w->Ng P L Sw (λa w=>Nk P L c e Sw Ss (λa w=>Q .normal a w) ph r a w) s a w:=by
   intro s;induction s with
   |nil=>intro a w _ h;exact h.2
   |cons x s l=>
    obtain⟨i,b⟩:=x;intro a w j h;cases b with
    |false=>simp[gG]at j
    |true=>
     obtain⟨o,v,p,m,h⟩:=h;exact⟨o,v,p,m,l _ _ (by simpa[gG]using j) h⟩
  exact f s a w j (h a q)
 exact Nl (S:=Sw) (k:=1) (λi r a w=>Og) s a w j h2
def We:=@HP.weak
theorem HP.early{ph:Bool}{r:List (Nat×Nat)}(s:List (Nat×Bool))(j:gG s=true)(h:HL P L Ss (dP P L c e Sw Ss Q ph r) s n σ w):HP P L c e Sw Ss Q ph (KL 2 s++r) n σ w:=by
 unfold HP;unfold HL at h;intro a q;have h2:Ng P L Ss (λa w=>Nk P L c e Sw Ss (λa w=>Q .normal a w) ph r a w) s a w:=by
  have f:∀(s:List (Nat×Bool)) (a:Act) (w:World),gG s=true->Ng P L Ss (λa w=>dP P L c e Sw Ss Q ph r .normal a w) s a w->Ng P L Ss (λa w=>Nk P L c e Sw Ss (λa w=>Q .normal a w) ph r a w) s a w:=by
   intro s;induction s with
   |nil=>intro a w _ h;exact h.2
   |cons x s l=>
    obtain⟨i,b⟩:=x;intro a w j h;cases b with
    |false=>simp[gG]at j
    |true=>
     obtain⟨o,v,p,m,h⟩:=h;exact⟨o,v,p,m,l _ _ (by simpa[gG]using j) h⟩
  exact f s a w j (h a q)
 exact Nl (S:=Ss) (k:=2) (λi r a w=>Og) s a w j h2
theorem ba{ph:Bool}{r:List (Nat×Nat)}(h:HP P L c e Sw Ss Q ph r n σ w):EX (dP P L c e Sw Ss Q ph r) .normal n σ w:=by unfold EX;unfold HP at h;exact λa f=>⟨rfl,h a f⟩
theorem HP.mut{ph:Bool}{i:Nat}{r:List (Nat×Nat)}{o:Oper}(k:C4 L i=some o)(h:WL P L (ah P L c e Sw Ss Q (ph||beq i c) r) [o] n σ w):HP P L c e Sw Ss Q ph ((i,0)::r) n σ w:=by
 unfold HP;unfold WL at h;intro a p;rw[C5]at k;have h2:=h a p;simp only[wpList]at h2;refine⟨o,k,?_⟩;split
 .rename_i f;rw[Tn f]at h2;obtain h2|⟨_,m⟩:=h2
  .refine RX (λs w' q=>q.2) (No (λx a w j hf=>absurd hf.1 j) h2)
  .obtain⟨_,_,l⟩:=m;exact absurd l.1 TO
 .rename_i f;rw[Tm f]at h2;exact h2.2
def Wq:=@HP.mut
theorem a_{ph:Bool}{r:List (Nat×Nat)}(f:Sw w)(j:ph=false->Ss w)(h:HP P L c e Sw Ss Q ph r n σ w):EX (ah P L c e Sw Ss Q ph r) .normal n σ w:=by unfold EX;unfold HP at h;exact λa k=>⟨rfl,f,j,h a k⟩
theorem HP.last{ph:Bool}{i:Nat}{o:Oper}(k:C4 L i=some o)(h:WL P L (λx a w=>x=.normal/\Q .normal a w) [o] n σ w):HP P L c e Sw Ss Q ph [(i,3)] n σ w:=by
 unfold HP;unfold WL at h;intro a p;rw[C5]at k;have h2:=h a p;simp only[wpList]at h2;refine⟨rfl,o,k,?_⟩;split
 .rename_i f;rw[Tn f]at h2;obtain h2|⟨_,m⟩:=h2
  .refine RX (λr w' q=>q.2) (No (λx a w j hf=>absurd hf.1 j) h2)
  .obtain⟨_,_,l⟩:=m;exact absurd l.1 TO
 .rename_i f;rw[Tm f]at h2;exact h2.2
theorem HP.app1{α:Type}[Rep α]{x0:α}{bytes:Nat}{F:Nat->Prop}{i I d d1:Nat}{ty ty1:TypeId}{pos pos1:String}{af af1:Array Edge}{g g1:Option (Nat×Bool)}{t et:TypeId}{x y:Operand}{rest:List (Nat×Nat)}{v u:Value}{xs:List α}{yv:α}{B:Nat}{wc:World}
  (ho1:C4 L I=some ⟨some d1,.buildSlice t 1 [(0,y)].toArray,ty1,pos1,af1,g1⟩) (N:C4 L i=some ⟨some d,.call ⟨.builtin .append,#[x,.tmp d1],#[t,t]⟩,ty,pos,af,g⟩)
  (E:gd L σ ⟨some d1,.buildSlice t 1 [(0,y)].toArray,ty1,pos1,af1,g1⟩=some true) (H:ble (d1+1) n=true)
  (G:∀u,gd L ((d1,.slice u 1 1)::σ) ⟨some d,.call ⟨.builtin .append,#[x,.tmp d1],#[t,t]⟩,ty,pos,af,g⟩=some true) (hd:ble (d+1) n=true)
  (J:ev σ y=some u) (K:∀u,ev ((d1,.slice u 1 1)::σ) x=some v) [V:IsS P t et] [U:IsT P et α] [T:IsZ P et x0 bytes] (q:Own wc B et F v xs) (M:Rd wc F u yv) (R:B<=wc.heap.size) (hF:∀b,F b->b<wc.heap.size)
  (A:sz α<=16777216) (O:xs.length+1<=maxLen) (r:(xs.length+1)*bytes<=140737488355328) (hS:∀w',wc.grownBy w' v.ownBlock->Sw w')
  (h:∀m w' p,Own w' B et F m (xs++[yv])->wc.grownBy w' v.ownBlock->(∀g,m.ownBlock=some g->v.ownBlock=some g\/wc.heap.size<=g)->HP P L c e Sw Ss Q true rest n ((d,m)::(d1,.slice p 1 1)::σ) w'):
  HP P L c e Sw Ss Q true ((I,0)::(i,0)::rest) n σ wc:=by
 refine Wq ho1 (VN (vs:=[u]) (ys:=[yv]) E H rfl (by simp[I_,pN,J]) rfl ⟨M,trivial⟩ (by simpa using A) hF (λz ho1 a=>?_));have f:wc.heap.size<=z.heap.size:=a.size;have l:Own z B et F v xs:=q.kept a (λ_ _ h=>by cases h) λb r=>⟨hF b r,λh=>by cases h⟩;have g2:wc.grownBy z v.ownBlock:=⟨a.os,a.tape,a.output,a.size,λk s _=>a.block k s (λh=>by cases h)⟩;refine p0 (a_ (ph:=true) (hS _ g2) (λh=>by cases h) (Wq N (V7 (ys:=[yv]) (G _) hd (K _) sd l ho1.src (Rr R f) (λb r=>Rv (hF b r) f) (by simpa using O) (by simpa using r) (λm w' C j hnb=>?_))));have g3:wc.grownBy w' v.ownBlock:=⟨j.os.trans a.os,j.tape.trans a.tape,j.output.trans a.output,Rr f j.size,λk s D=>(j.block k (Rv s f) D).trans (a.block k s (λh=>by cases h))⟩;exact p0 (a_ (ph:=true) (hS _ g3) (λh=>by cases h) (h m w' _ C g3 (λg G=>(hnb g G).imp id (λh=>Rr f h))))
end
section
variable {P:Program}{Q:Exit->Act->World->Prop}{n:Nat}{σ:Sg}{wc:World}{L:List Oper}{S:World->Prop}{ord:List (Nat×Bool)}{i d:Nat}{ty:TypeId}{pos:String}{af:Array Edge}{g:Option (Nat×Bool)}{t:TypeId}{x:Operand}{b o:Nat}
theorem cr{v:Value}(s:∀k,S k->∃e cells,Blk k b e cells/\C8 cells o=some v)(p:C4 L i=some ⟨some d,.load t x,ty,pos,af,g⟩)(q:gd L σ ⟨some d,.load t x,ty,pos,af,g⟩=some true)(hd:ble (d+1) n=true)(l:ev σ x=some (.pointer (some ⟨b,o,none⟩)))[u:IsC P t 1 false]
  (h:HL P L S Q ord n ((d,v)::σ) wc):HL P L S Q ((i,true)::ord) n σ wc:=by
 refine VP p q hd (λa r w' f=>?_) h;obtain⟨e,cells,j,m⟩:=s w' f;simp[execOp,r.ev l,Hw (P:=P) (t:=t) w' j m]
end
def GH{u s:Nat}(h:z.results=#[.cell a t,.tmp u,.tmp s])(tmps:Array Value)(P:Program)(w:World){p:Addr}(b:tmps.getD a undef=.pointer (some p))(c:(loadVar t p).run P w=.ok v w):
  (results z tmps).run P w=.ok (.tuple ⟨[v,tmps.getD u undef,tmps.getD s undef]⟩) w:=by
 simp only[Ny]at b⊢;simp[results,h,b,asAddr,c]
def bm{n:Nat}{σ:Sg}{b u s:Nat}{e:TypeId}{k:Nat}{x y:Value}(p:z.results=#[.cell a t,.tmp u,.tmp s])(B:fnd σ a=some (Uc b))(l:fnd σ u=some x)(o:fnd σ s=some y)[q:IsC P t k true](A:Blk w b e r)(m:AN r=k)(h:c (.tuple ⟨[.agg r.toArray,x,y]⟩) w):
  EX (bodyPost P z λe w'=>∃v,e=.returned v/\c v w') .ret n σ w:=by
 unfold EX;intro ac d;refine S7 (GH p _ _ _ (d.slot a _ B) (v:=.agg r.toArray) ?_) d.defers ⟨_,by rw[d.slot u x l,d.slot s y o],h⟩;rw[AO]at m;have f:=Tx (P:=P) w ⟨b,0,none⟩ r (λj u l=>by rw[SW,RT];exact A.cell l);obtain⟨i,dd,h1,h2,h3,h4⟩:=q.ok;have g:(isAgg t).run P w=.ok true w:=by unfold isAgg;rw[Sb,TA h3 w,<-h4];cases dd<;>rfl
 rw[m]at f;simp[loadVar,g,sizeOf,typeInfo,h1,h2,f]
def bS(W:cR)(A:cH)(s l:List Int)(is:Bool)(err:Int):Prop:=
 (err≠0/\is=false/\s=[]/\l=[]/\(kB W=0->kg A=0->False))\/(err=0/\kB W=0/\kg A=0/\((is=false/\s=[]/\l=[]/\¬aQ W A)\/(is=true/\aQ W A/\PathE W A s l)))
def qj(sb mb:Nat)(lv nv:Value):Nat->Prop:=λb=>b=sb\/b=mb\/lv.ownBlock=some b\/nv.ownBlock=some b
structure FndI(w8 w:World)(B:Nat)(e:EA)(sb mb:Nat)(lv nv fv:Value)(fr:List Int)(vs:List Raw)(ps:List dt)(nx:List (List Int)):Prop where
 em:Em w B e sb mb lv nv fv ps
 run:RunE (rK e.W e.A) (Cl e.W e.A) (JB e.W e.A) ps fr nx
 hn:Own w w8.heap.size 39 dh nv vs
 inn:InnR w (qj sb mb lv nv) vs nx
 hf:∃fo fc,fv=.slice fo fr.length fc/\Sl w (Fz w (qj sb mb lv nv)) fo fc fr
 chg:Chg (λb=>b=sb\/b=mb) w8 w
 lvn:∀g,lv.ownBlock=some g->w8.heap.size<=g
 dis:∀g,nv.ownBlock=some g->lv.ownBlock≠some g
 rows:∀r∈nx,r.length<=1099511627776
def rj(w:World)(b c:Nat){part:List Int}{p:Int}{k:Nat}(h:Blk w b 39 [.slice C part.length B])(e:Blk w c 3 [Ub p])(d:Sl w (dk w) C B part)(a:k<part.length):
  Rt Vy 127 [Ub (k:Int),Uc b,Uc c].toArray w λv w'=>v=.bool (decide (part.getD k 0=p))/\Ext w w':=by
 refine dT func127 ntmps127 rfl rfl (U6 ?_);refine dy rfl rfl rfl rfl rfl T0 d a rfl TV (λq=>Vi ?_);refine VD (λg f=>UQ ?_);refine d6 ⟨?_,f⟩;rw[MT a];rfl
def rp(w0:World){va:Value}{W:cR}{A:cH}{o3 o4:Option Addr}{c1 c2:Nat}(h1:Sl w0 (dk w0) C c1 W.1)(h2:Sl w0 (dk w0) D c2 W.2.1)(h3:Sl w0 (dk w0) o3 K W.2.2.1)(h4:Sl w0 (dk w0) o4 E W.2.2.2)(ha:AutoAt w0 (dk w0) va A)
  (sW:∀j,(W.2.1.getD j []).length<=1048576) (sA:∀j,(A.2.1.getD j []).length<=1048576) (tW:W.1.length<=1048576) (tA:A.1.length<=1048576):
  Rt Vy 62 [M5 C c1 D c2 o3 K o4 E W.1.length W.2.1.length W.2.2.1.length W.2.2.2.length,va].toArray w0 λv w'=>(∃s l is err so sc lo lc,v=.tuple ⟨[EG so sc lo lc s l,.bool is,Ub err]⟩/\Sl w' (dk w') so sc s/\Sl w' (dk w') lo lc l/\bS W A s l is err)/\Ext w0 w':=by
 obtain⟨k1,d1,k2,d2,k3,d3,k4,d4,k5,d5,rfl,g1,g2,g3,g4,g5⟩:=ha.ok;refine dS func62 ntmps62 rfl rfl ?_;have G:=p7 w0;refine UZ ?_;refine eH λw1 P e1=>?_;have G:=G.trans e1;refine eH λw2 U e2=>?_;have P:=P.ext e2;have G:=G.trans e2;refine eC (λw3 R e3=>?_);have P:=P.ext e3;have U:=U.ext e3;have G:=G.trans e3;have y1:=e1.size;have y2:=e2.size;have y3:=R.lt;have l2:=P.lt;have l3:=U.lt;refine UD ?_;refine eK (Ml w3 (h1.up G) (h2.up G) h3.len63 (h4.up G)) ?_;rintro _ w4 ⟨rfl,e4⟩;have P:=P.ext e4;have U:=U.ext e4;have R:=R.ext e4;have G:=G.trans e4;have y4:=e4.size;have nilS:=λ(w:World)=>v1 (α:=Int) w (dk w);refine UR ?_;apply ld rfl<;>intro h
 .have h:kB W≠0:=by simpa using h
  refine UZ ?_;refine r4 (parts:=[]) rfl rfl rfl rfl (U9 ?_);refine f7 R (λw5 hb5 hg5=>?_);have hE5:Ext w0 w5:=G.grown hg5 G.size TZ;refine UX ?_;exact bm rfl rfl rfl rfl hb5 rfl ⟨⟨[],[],false,_,_,_,_,_,rfl,nilS _,nilS _,.inl ⟨h,rfl,rfl,rfl,λh'=>absurd h' h⟩⟩,hE5⟩
 have hW:kB W=0:=by simpa using h
 clear h;refine Uo ?_;refine eK (gk w4 (A:=A) ⟨k1,d1,k2,d2,k3,d3,k4,d4,k5,d5,rfl,g1.up G,g2.up G,g3.up G,g4.up G,g5.up G⟩) ?_;rintro _ w5 ⟨rfl,e5⟩;have P:=P.ext e5;have U:=U.ext e5;have R:=R.ext e5;have G:=G.trans e5;have y5:=e5.size;refine UR ?_;apply ld rfl<;>intro h
 .have h:kg A≠0:=by simpa using h
  refine UZ ?_;refine r4 (parts:=[]) rfl rfl rfl rfl (U9 ?_);refine f7 R (λw6 hb5 hg5=>?_);have hE5:Ext w0 w6:=G.grown hg5 G.size TZ;refine UX ?_;exact bm rfl rfl rfl rfl hb5 rfl ⟨⟨[],[],false,_,_,_,_,_,rfl,nilS _,nilS _,.inl ⟨h,rfl,rfl,rfl,λ_ h'=>absurd h' h⟩⟩,hE5⟩
 have hA:kg A=0:=by simpa using h
 clear h;have okA:=kj hA;obtain⟨w600,w80,wlb,wst,wnx,wfr⟩:=lh hW;refine Uo ?_;refine fN (k:=226) rfl rfl (λhnum=>?_);have e6:Ext w5 (w5.alloc (.map #[] 0)):=V6 w5 _;generalize w5.alloc (.map #[] 0)=w6 at*;refine r4 rfl rfl rfl rfl (eH λw7 hsb e7=>?_);have lm:=hnum.lt;have P:=(P.ext e6).ext e7;have U:=(U.ext e6).ext e7;have R:=(R.ext e6).ext e7;have hnum:=hnum.ext e7;have hE7:=(G.trans e6).trans e7;have y6:=e6.size;have y7:=hsb.lt;obtain⟨e,heW,heA,hein,hecells⟩:∃e:EA,e.W=W/\e.A=A/\EIn w5 (dk w5) e/\∀mb lv nv fv,ot e mb lv nv fv=[.slice C W.1.length c1,.slice D W.2.1.length c2,.slice o3 W.2.2.1.length K,.slice o4 W.2.2.2.length E,.slice k1 A.1.length d1,.slice k2 A.2.1.length d2,.slice k3 A.2.2.1.length d3,.slice k4 A.2.2.2.1.length d4,.slice k5 A.2.2.2.2.length d5,.map (some mb),lv,nv,fv]:=
  ⟨⟨C,c1,D,c2,o3,K,o4,E,k1,d1,k2,d2,k3,d3,k4,d4,k5,d5,W,A⟩,rfl,rfl,⟨h1.up G,h2.up G,h3.up G,h4.up G,g1.up G,g2.up G,g3.up G,g4.up G,g5.up G⟩,λ_ _ _ _=>rfl⟩
 subst heW heA;have hEm7:Em w7 w5.heap.size e w6.heap.size w5.heap.size (.slice none 0 0) (.slice none 0 0) (.slice none 0 0) []:=
  ⟨by rw[hecells];exact hsb,hnum,r3,hein.to (λb o=>(e6.trans e7).block b o) (λb h=>h),⟨y6,Rq _⟩,by omega,(λg i=>by cases i),List.Pairwise.nil,(λp hp=>by cases hp),⟨w600,okA.n,wlb,okA.mu,okA.no⟩⟩
 have hG1:=h1.up G;have hG2:=h2.up G;have hK1:=g1.up G;have hK2:=g2.up G;have lb4:=R.lt;clear hecells hein hsb hnum h1 h2 h3 h4 g1 g2 g3 g4 g5 ha;have e57:=e6.trans e7;clear e6 e7;have Z:w0.heap.size<w5.heap.size/\w1.heap.size<w5.heap.size/\w2.heap.size<w5.heap.size:=by omega
 generalize hBn:w5.heap.size=B at*;generalize hsbn:w6.heap.size=sb at*;have hB7:B<=w7.heap.size:=by omega
 have M:∀b,b<B->w7.heap[b]?=w5.heap[b]?:=λb o=>e57.block b TK;refine Uy ?_;refine eK (mA w7 hEm7 hB7 (hG1.mono (w':=w7) (λb o=>M b (by rw[<-hBn];exact o)) (λb o=>by rw[<-hBn];exact o)) (hK1.mono (w':=w7) (λb o=>M b (by rw[<-hBn];exact o)) (λb o=>by rw[<-hBn];exact o)) wst okA.st tW tA) ?_;rintro fv w8 ⟨lv,d⟩;obtain⟨fo,fc,rfl⟩:=d.own.val;change CrI w7 w8 B e sb B (.slice none 0 0) lv (.slice fo (FU (rK e.W e.A) (JB e.W e.A) [] []).2.length fc) (.slice none 0 0) (.slice none 0 0) (FU (rK e.W e.A) (JB e.W e.A) [] []).1 (FU (rK e.W e.A) (JB e.W e.A) [] []).2 at d;have z8:=d.chg.size;have N:=d.em.blk;have hlt8:=λg i=>d.em.lo.lt g i;have hof8:=λg i=>d.own.lt g i;have hnl8:=d.em.nl;have hlv8:∀g,lv.ownBlock=some g->w7.heap.size<=g:=λg i=>(d.new g i).resolve_left (λh=>by cases h);have hC8:Chg (λb=>b=sb\/b=B) w7 w8:=d.chg.wk (λb h=>by
  obtain h|h|h:=h
  .exact .inl h
  .exact .inr h
  .cases h)
 refine Vg ?_;refine f7 N (λw9 hblk9 J=>?_);have z9:=J.size;have hC9:Chg (λb=>b=sb\/b=B) w7 w9:=hC8.grown J T4;have hPW:dr e.W:=kC hW;have hold9:∀{w:World},Chg (λb=>b=sb\/b=B) w7 w->∀b,b<B->w.heap[b]?=w5.heap[b]?:=λ {w} hC b o=>(hC.block b TK TK).trans (M b o);have hstart:=RunE.init (fit:=rK e.W e.A) (next:=Cl e.W e.A) (start:=JB e.W e.A);have hI0:FndI w7 w9 B e sb B lv (.slice none 0 0) (.slice fo (FU (rK e.W e.A) (JB e.W e.A) [] []).2.length fc) (FU (rK e.W e.A) (JB e.W e.A) [] []).2 [] (FU (rK e.W e.A) (JB e.W e.A) [] []).1 []:=by
  refine⟨⟨hblk9,d.em.num.kept J T3,d.em.lo.keptN J (λg i e=>(hnl8 g i).1 (R4 e)),d.em.inn.to (λb o=>J.block b TK T3) T0,d.em.ge,d.em.ne,hnl8,d.em.nd,d.em.ins,d.em.ok⟩,hstart,r3,Wc,?_,hC9,hlv8,(λg i=>by cases i),(λr hr=>by cases hr)⟩;have ho9:=d.own.keptN J (λg i e=>by have:=(hof8 g i).1;have:=R4 e;omega);obtain⟨fo',fc',e,hsl⟩:=ho9.slF (F':=Fz w9 (qj sb B lv (.slice none 0 0))) TY (λg i=>⟨(ho9.lt g i).2.1,λh=>by
   have h1:=(hof8 g i).1;obtain h|h|h|h:=h
   .omega
   .omega
   .exact d.dis g i h
   .cases h⟩)
  exact⟨fo',fc',e,hsl⟩
 generalize hfrn:(FU (rK e.W e.A) (JB e.W e.A) [] []).2=fr at*;generalize (FU (rK e.W e.A) (JB e.W e.A) [] []).1=ps0 at*;clear d N hlt8 hof8 hnl8 hlv8 hC8 hblk9 J hC9 hstart;have z79:w7.heap.size<=w9.heap.size:=by omega
 clear z8 z9 w8;refine Ux ?_;refine p8 (S:=Nat×Value×Value×List Raw×List dt×List (List Int)) (λs=>[(2,Uc w0.heap.size),(3,Uc w1.heap.size),(4,Uc w2.heap.size),(9,Uc sb),(10,Ub s.1)])
  (λs w=>FndI w7 w B e sb B s.2.1 s.2.2.1 (.slice fo fr.length fc) fr s.2.2.2.1 s.2.2.2.2.1 s.2.2.2.2.2/\s.2.2.2.2.2.length=s.1) (λs=>1228801 -s.1) (0,lv,.slice none 0 0,[],ps0,[]) TJ ⟨hI0,rfl⟩ ?_
 clear hI0 hEm7;rintro⟨n,lv,nv,vs,ps,nx⟩ w ⟨t,hnl⟩;dsimp only at t hnl⊢;have Q:=t.em.blk;have hpl:=t.em.len;have hle:=t.run.le;have hcw:=hold9 t.chg;have hb2w:Blk w _ _ _:=((hcw _ Z.1).trans (M _ Z.1).symm).trans P;have hb3w:Blk w _ _ _:=((hcw _ Z.2.1).trans (M _ Z.2.1).symm).trans U;have hb4w:Blk w _ _ _:=((hcw _ Z.2.2).trans (M _ Z.2.2).symm).trans R;have zw:=t.chg.size;obtain⟨lo,lc,rfl⟩:=t.em.lo.val;obtain⟨no,nc,rfl⟩:=t.hn.val;refine UE ?_;apply ld rfl<;>intro h
 .have hn':n<ps.length:=by simp at h;omega
  clear h;have hpn:ps.getD n (0,0)=ps[n]:=by rw[Pl,Pq hn'];rfl
  have X:=t.em.ins _ (PL hn');obtain⟨x,hx⟩:=Om X.1.1;obtain⟨y,hy⟩:=Om X.2.1;have hxl:x<e.W.2.1.length:=by have:=X.1.2;omega
  have hyl:y<e.A.2.1.length:=by have:=X.2.2;omega
  have hrX:e.W.2.1.getD x []=e.W.2.1[x]:=MS hxl;have hrY:e.A.2.1.getD y []=e.A.2.1[y]:=MS hyl;have hnext:Cl e.W e.A (ps.getD nx.length (0,0))=En e.W.2.1[x] e.A.2.1[y]:=by rw[hnl,hpn];unfold Cl;rw[hx,hy,Oy,Oy,hrX,hrY]
  have V:=t.run.step TK;rw[hnext]at V;have hsX:=sW x;rw[hrX]at hsX;have hsY:=sA y;rw[hrY]at hsY;have hokX:Dy e.W.2.1.length e.W.2.1[x]:=(wnx _ (PL hxl)).2;have hokY:Dy e.A.2.1.length e.A.2.1[y]:=okA.nx _ (PL hyl);have hD:Ext w (drew w):=mm w;have zd:(drew w).heap.size=w.heap.size:=rfl;have hblkd:=Q.ext hD;have hb2d:=hb2w.ext hD;have hb3d:=hb3w.ext hD;obtain⟨lo',lc',el,hlsl⟩:=(t.em.lo.extN hD).oldN.sl;obtain⟨rfl,_,rfl⟩:=SV el;obtain⟨lb,off,rfl,hFb,hc1,hc2⟩:=hlsl.pairAt n hn';rw[hx]at hc1;rw[hy]at hc2;have hG2d:=hG2.mono (w':=drew w) (λb o=>(hD.block b (by have h':b<w5.heap.size:=o;omega)).trans (hcw b (by rw[<-hBn];exact o))) (F':=λb=>b<B) (λb o=>by rw[<-hBn];exact o);have hK2d:=hK2.mono (w':=drew w) (λb o=>(hD.block b (by have h':b<w5.heap.size:=o;omega)).trans (hcw b (by rw[<-hBn];exact o))) (F':=λb=>b<B) (λb o=>by rw[<-hBn];exact o);have hKs:∀u,(λz:World=>z=drew w) u->u.heap[sb]?=(drew w).heap[sb]?:=λu hu=>by rw[hu]
  have hKb2:∀u,(λz:World=>z=drew w) u->u.heap[w0.heap.size]?=(drew w).heap[w0.heap.size]?:=λu hu=>by rw[hu]
  have hKb3:∀u,(λz:World=>z=drew w) u->u.heap[w1.heap.size]?=(drew w).heap[w1.heap.size]?:=λu hu=>by rw[hu]
  have hKK:∀(F:Nat->Prop) z,(λx:World=>x=drew w) z->∀b,F b->z.heap[b]?=(drew w).heap[b]?:=λF z hz b _=>by rw[hz]
  have hSE:∀z,(λx:World=>x=drew w) z->Ext (drew w) z:=λz hz=>by rw[hz];exact p7 _
  refine UC ?_;refine aI 30 35 (λz:World=>∃l',Blk z sb 223 (ot e B l' (.slice no vs.length nc) (.slice fo fr.length fc))) (λz:World=>z=drew w)
   (KL 1 [Wr 0,Wr 1,Wr 2,Wr 3,Wr 4]++(KL 2 [Wr 5,Wr 6,Wr 7,Wr 8,Wr 9,Wr 10,Wr 11,Wr 12,Wr 13,Wr 14,Wr 15,Wr 16,Wr 17,Wr 18,Wr 19,Wr 20,Wr 21,Wr 22,Wr 23,Wr 24,Wr 25,Wr 26,Wr 27,Wr 28,Wr 29]++[(30,0),(31,0),(32,0),(33,1),(34,1),(35,3)])) mixed TL ⟨_,hblkd⟩ rfl ?_
  refine We [Wr 0,Wr 1,Wr 2,Wr 3,Wr 4] rfl (Vq ?_);refine cr (v:=.slice no vs.length nc) (λz hz=>by obtain⟨l',o⟩:=hz;exact⟨_,_,o,rfl⟩) rfl rfl rfl rfl (Vr ?_);refine ba (HP.early [Wr 5,Wr 6,Wr 7,Wr 8,Wr 9,Wr 10,Wr 11,Wr 12,Wr 13,Wr 14,Wr 15,Wr 16,Wr 17,Wr 18,Wr 19,Wr 20,Wr 21,Wr 22,Wr 23,Wr 24,Wr 25,Wr 26,Wr 27,Wr 28,Wr 29] rfl (Vq ?_));refine cf (α:=dt) rfl rfl rfl rfl rfl TK TK (Vo ?_);refine Wj (α:=Int) (F:=dh) hSE rfl rfl rfl rfl (by have:=hFb;exact this) TY hc1 rfl (cb (k:=x) (F:=λb=>b<B) (hKK _) rfl rfl rfl rfl rfl rfl rfl hG2d hxl TV (λu q hu=>?_));obtain⟨ro,rc,rfl,hrow⟩:=hu.sl;clear hu;refine Vq ?_;refine cf (α:=dt) rfl rfl rfl rfl rfl TK TK (Vo ?_);refine Wj (α:=Int) (F:=dh) hSE rfl rfl rfl rfl (by have:=hFb;exact this) TY hc2 rfl (cb (k:=y) (F:=λb=>b<B) (hKK _) rfl rfl rfl rfl rfl rfl rfl hK2d hyl TV (λu q hu=>?_));obtain⟨so,sc,rfl,hsow⟩:=hu.sl;clear hu;refine Vr ?_;refine ba (Wq rfl (eK (mA (drew w) (t.em.ext TK hD) TK hrow hsow hokX hokY hsX hsY) ?_));rintro rv w8 ⟨lv',d⟩;obtain⟨uo,uc,rfl⟩:=d.own.val;rw[show rJ e=rK e.W e.A from rfl]at d⊢;have hput:=FV (fit:=rK e.W e.A) (En e.W.2.1[x] e.A.2.1[y]) ps [] t.em.nd;have hplen:=hput.len;rw[Ep]at hplen;have hmulX:=RB hsX hsY;generalize hP:FU (rK e.W e.A) (En e.W.2.1[x] e.A.2.1[y]) ps []=pq at*;have N:=d.em.blk;have z8:=d.chg.size;have lsb:=Q.lt;have H:=λg i=>t.hn.lt g i;have hllt:=λg i=>t.em.lo.lt g i;have hlu:=λg i=>d.own.lt g i;have hlc:=λg i=>d.em.lo.lt g i;have hnle:=d.em.nl;have hvl:=t.inn.len;refine p0 (a_ (ph:=true) ⟨_,N⟩ (λh=>by cases h) ?_);have hn8:Own w8 w7.heap.size 39 dh (.slice no vs.length nc) vs:=(t.hn.extN hD).chg d.chg (λb o hs=>by
   have hx:=H b o;obtain h|h|h:=hs
   .omega
   .omega
   .exact t.dis b o h)
  refine HP.app1 (α:=Raw) (F:=dh) (bytes:=24) (yv:=(⟨.slice uo pq.2.length uc⟩:Raw)) rfl rfl rfl rfl TV rfl rfl TV hn8 (VO _ _ _ rfl) TK TY TN TQ TK
   (λz hz=>⟨_,N.kept hz (λe=>by have:=H sb e.symm;omega)⟩) (λnv' w9 q9 ho9 J hnb9=>?_)
  obtain⟨no',nc',rfl⟩:=ho9.val;have hblk9:=N.kept J (λe=>by have:=H sb e.symm;omega);have z9:=J.size;refine We (r:=[(35,3)]) [Wr 33,Wr 34] rfl (Vs ?_);refine ba (HP.last rfl (f7 hblk9 (λw10 hblk10 Y=>p0 (bx ?_))));have z10:=Y.size;have hlv':∀g,lv'.ownBlock=some g->w7.heap.size<=g:=λg i=>(d.new g i).elim (t.lvn g) (λh=>by omega);have hdis8:∀g,(Value.slice no vs.length nc).ownBlock=some g->lv'.ownBlock≠some g:=λg i hl=>(d.new g hl).elim (t.dis g i) (λh=>by have:=(H g i).2.1;omega);have hM68:∀b,qj sb B lv' (.slice no vs.length nc) b->qj sb B (.slice (some ⟨lb,off,none⟩) ps.length lc) (.slice no vs.length nc) b\/w.heap.size<=b:=λb h=>by
   obtain h|h|h|h:=h
   .exact .inl (.inl h)
   .exact .inl (.inr (.inl h))
   .exact(d.new b h).imp (λh=>.inr (.inr (.inl h))) id
   .exact .inl (.inr (.inr (.inr h)))
  have hC68:Chg (qj sb B (.slice (some ⟨lb,off,none⟩) ps.length lc) (.slice no vs.length nc)) w w8:=(t1 _ hD).trans (d.chg.wk (λb h=>by
   obtain h|h|h:=h
   .exact .inl h
   .exact .inr (.inl h)
   .exact .inr (.inr (.inl h))))
  have hC810:Chg (qj sb B lv' (.slice no vs.length nc)) w8 w10:=((VC J).wk (λb h=>.inr (.inr (.inr h)))).grown Y T4;have hM810:∀b,qj sb B lv' (.slice no' (vs++[(⟨.slice uo pq.2.length uc⟩:Raw)]).length nc') b->qj sb B lv' (.slice no vs.length nc) b\/w8.heap.size<=b:=λb h=>by
   obtain h|h|h|h:=h
   .exact .inl (.inl h)
   .exact .inl (.inr (.inl h))
   .exact .inl (.inr (.inr (.inl h)))
   .exact(hnb9 b h).imp (λh=>.inr (.inr (.inr h))) id
  have hrow8:Rd w8 (Fz w8 (qj sb B lv' (.slice no vs.length nc))) (.slice uo pq.2.length uc) pq.2:=
   d.own.rd.mono T5 (λg i=>i.elim (λh=>h.elim) (λi=>⟨(hlu g i).2.1,λh=>by
    have h1:=(hlu g i).1;obtain h|h|h|h:=h
    .omega
    .omega
    .exact d.dis g i h
    .have:=(H g h).2.1;omega⟩))
  have hin10:=((t.inn.to hC68 hM68).push hrow8).to hC810 hM810;obtain⟨fo',fc',ef,hfs⟩:=t.hf;obtain⟨rfl,_,rfl⟩:=SV ef;have hfs10:=(hfs.fz hC68 hM68).fz hC810 hM810;have hC10:Chg (λb=>b=sb\/b=B) w7 w10:=(t.chg.then hC68 (λb h=>by
   obtain h|h|h|h:=h
   .exact .inl (.inl h)
   .exact .inl (.inr h)
   .exact .inr (t.lvn b h)
   .exact .inr (H b h).1)).then hC810 (λb h=>by
   obtain h|h|h|h:=h
   .exact .inl (.inl h)
   .exact .inl (.inr h)
   .exact .inr (hlv' b h)
   .exact .inr (H b h).1)
  have hne10:=d.em.ne;refine Ui ?_;refine m5 (n+1,lv',.slice no' (vs++[(⟨.slice uo pq.2.length uc⟩:Raw)]).length nc',vs++[(⟨.slice uo pq.2.length uc⟩:Raw)],pq.1,nx++[pq.2]) TJ
   ⟨⟨⟨hblk10,(d.em.num.kept J (λe=>by have:=H B e.symm;omega)).kept Y T3,(d.em.lo.keptN J (λg i e=>hdis8 g e.symm i)).keptN Y (λg i e=>(hnle g i).1 (R4 e)),
     d.em.inn.to (λb o=>(Y.block b TK T3).trans (J.block b TK (λe=>by have:=H b e.symm;omega))) T0,d.em.ge,hne10,hnle,d.em.nd,d.em.ins,d.em.ok⟩,V,ho9.keptN Y (λg i e=>by
      have:=R4 e;obtain h|h:=hnb9 g i
      .have:=(H g h).1;omega
      .omega),hin10,⟨fo,fc,rfl,hfs10⟩,hC10,hlv',λg i hl=>?_,λr hr=>?_⟩,by dsimp only;rw[PX,hnl];rfl⟩ TP
  .obtain h|h:=hnb9 g i
   .exact hdis8 g h hl
   .have:=(hlc g hl).2.1;omega
  .obtain hr|hr:=Ql.1 hr
   .exact t.rows r hr
   .rw[QC]at hr;subst hr;simp at hplen;omega
 have T:nx.length=ps.length:=by simp at h;omega
 clear h;have i:=t.run.okG T;have hfl:=t.run.okF T;have hN:nx.length<=1228800:=by omega
 obtain⟨no',nc',en,hns⟩:=t.inn.old t.hn;obtain⟨rfl,hvl,rfl⟩:=SV en;obtain⟨fo',fc',ef,hfs⟩:=t.hf;obtain⟨rfl,_,rfl⟩:=SV ef;have hfs:=hfs.old';obtain⟨lo',lc',el,hls⟩:=t.em.lo.oldN.sl;obtain⟨rfl,_,rfl⟩:=SV el;have hem:=t.em;have V:=t.run;have hrows:=t.rows;have X:=t.em.ins;rw[hvl]at Q hem;have hE0w:Ext w0 w:=V3 hE7 t.chg (λb o=>by rcases o with h|h<;>omega);have hE0:∀{x:World},Ext w x->Ext w0 x:=λ {x} hx=>hE0w.trans hx;clear t;refine U1 ?_;refine eK (d7 w hns T0 i TK) ?_;rintro pv w10 ⟨part,hpo,hPt,e10⟩;obtain⟨po,pc,rfl,hps⟩:=hpo.oldN.sl;have hppl:=hPt.len;refine eC (λw11 L e11=>?_);refine f7 L (λw12 L hg12=>?_);have e12:Ext w10 w12:=e11.grown hg12 e11.size TX;have x12:=e10.trans e12;clear e11 hg12;refine UR ?_;refine eK (pI w12 (hem.ext TK x12) (by have:=x12.size;omega) wfr okA.fr w80 okA.f) ?_;rintro _ w13 ⟨so,sc,rfl,hss,e13⟩;have x13:=x12.trans e13;have hsx:IE e.W e.A ps=IC (Ju e.W e.A) ps:=by unfold IE IC Ju;rw[Qe,Qh,Qh];rfl
 have hslen:∀S∈IE e.W e.A ps,S.length=nx.length:=λS hS=>by rw[hsx]at hS;obtain⟨f,_,rfl⟩:=Qv.1 hS;rw[P4,T]
 have hsn:(IE e.W e.A ps).length<=160:=by unfold IE;rw[PX,P4,P4];have:=okA.f;omega
 generalize hsets:IE e.W e.A ps=sets at*;have L:=L.ext e13;refine Uy ?_;refine eK (oL w13 (Q.ext x13) T.symm (hns.up x13) (hps.up (e12.trans e13)) hss i hPt hN hslen) ?_;rintro _ w14 ⟨p,rfl,hp,e14⟩;have x14:=x13.trans e14;have L:=L.ext e14;refine eC (λw15 hb13 e15=>?_);refine f7 hb13 (λw16 hb13 hg16=>?_);have e16:Ext w14 w16:=e15.grown hg16 e15.size TX;have x16:=x14.trans e16;clear e15 hg16;have L:=L.ext e16;have hpway:=F0 (Ss:=Ju e.W e.A) V T hPt;rw[<-hsx]at hpway;refine Uy ?_;apply ld rfl<;>intro h
 .have h:p<0:=by simpa using h
  have hno:¬aQ e.W e.A:=λhr=>by
   obtain⟨c,h1,h2,h3⟩:=hpway.1 hr;obtain⟨_,hp⟩|⟨hp,_⟩:=hp
   .exact hp c h1 h2 h3
   .omega
  refine UZ ?_;refine r4 (parts:=[]) rfl rfl rfl rfl (f7 (hb4w.ext x16) (λI hb17 hg17=>?_));have hE17:Ext w0 I:=(hE0 x16).grown hg17 (hE0 x16).size TZ;refine UX ?_;exact bm rfl rfl rfl rfl hb17 rfl ⟨⟨[],[],false,_,_,_,_,_,rfl,nilS _,nilS _,.inr ⟨rfl,hW,hA,.inl ⟨rfl,rfl,rfl,hno⟩⟩⟩,hE17⟩
 have h:¬p<0:=by simpa using h
 obtain⟨hp0,hpN,hgood⟩:0<=p/\p<nx.length/\bU nx part sets p:=hp.resolve_left (λh'=>by omega);have hyes:aQ e.W e.A:=hpway.2 ⟨p,hp0,hpN,hgood⟩;clear hp h hpway;obtain⟨u,hu,hup,_⟩:=id hgood.1;obtain⟨a,haf,hrc⟩:=V.reach T u hu;have hD:Ext w16 (drew w16):=mm w16;have xd:=x16.trans hD;have hblkd:=Q.ext xd;have hb11d:=L.ext hD;have hb13d:=hb13.ext hD;have hSE:∀z,(λz:World=>Ext (drew w16) z) z->Ext (drew w16) z:=λ_ h=>h;refine UW ?_;refine aG (λz:World=>Ext (drew w16) z) [Wr 0,Wr 1,Wr 2,Wr 3,Wr 4,Wr 5,Wr 6,Ws 7,Wr 8] mixed TL T_ (Vm ?_);have hpd:=((hps.up (e12.trans e13)).up (e14.trans e16)).up hD;refine cy rfl (eK (pR (drew w16) (fr:=fr) (part:=part) (only:= -1) (to:=λk=>decide (part.getD k 0=p)) hblkd (hns.up xd) (hfs.up xd) hpd i hfl hppl hN (λz hz k hk=>VE (cs:=[_,_]) (rj z _ _ (hb11d.ext hz) (hb13d.ext hz) (hpd.up hz) TK))) ?_);rintro stv I ⟨st,hso,O,e17⟩;have O:WyOK nx fr (λk=>decide (part.getD k 0=p)) (gy part (-1)) st:=by
  obtain⟨_,O⟩|O:=O
  .exact absurd O (MC haf hrc (Tc hup))
  .exact O
 refine p0 (a8 e17 (Vr ?_));have x17:=xd.trans e17;have hb1117:=hb11d.ext e17;have hp17:=hpd.up e17;have hstn:=O.ne;have hstl:=O.len;obtain⟨sto,stc,rfl,hsts⟩:=hso.oldN.sl;have hlast:0<=st.getD (st.length -1) 0/\st.getD (st.length -1) 0<nx.length:=by rw[Pl,Pq TK];exact O.rg _ (PL _)
 obtain⟨m,hm⟩:=Om hlast.1;have hml:m<nx.length:=by omega
 have hmp:part.getD m 0=p:=by have:=O.en;rw[hm]at this;simpa using this
 have hlel:st[st.length -1]'TK=(m:Int):=by rw[<-hm,Pl,Pq TK];rfl
 have hgd2:bU nx part sets (part.getD m 0):=by rw[hmp];exact hgood
 have hD2:Ext I (drew I):=mm I;have hblk2:=Q.ext (x17.trans hD2);have hb112:=hb1117.ext hD2;have hsts2:=hsts.up hD2;have hSE:∀z,(λz:World=>Ext (drew I) z) z->Ext (drew I) z:=λ_ h=>h;have hKK:∀(F:Nat->Prop) (hF:∀b,F b->b<(drew I).heap.size) z,(λz:World=>Ext (drew I) z) z->∀b,F b->z.heap[b]?=(drew I).heap[b]?:=λF hF z hz b o=>hz.block b (hF b o);refine UW ?_;refine aG (λz:World=>Ext (drew I) z) [Wr 0,Wr 1,Wr 2,Wr 3,Wr 4,Wr 5,Wr 6,Wr 7,Wr 8,Ws 9,Wr 10] mixed TL T_ (Vp ?_);rw[show((st.length:Nat):Int) -1=((st.length -1:Nat):Int) by omega];refine cb (w:=drew I) (F:=dk (drew I)) (k:=st.length -1) (hKK _ T0) rfl rfl rfl rfl rfl rfl rfl hsts2 TK TV (λu q hu=>?_);obtain rfl:=hu.int;rw[hlel];refine Vq ?_;refine cy rfl (eK (pF (drew I) hblk2 (hns.up (x17.trans hD2)) (hp17.up hD2) (((hss.up e14).up e16).up ((hD.trans e17).trans hD2)) i hPt hN hslen hsn hrows hml hgd2) ?_);rintro lov w18 ⟨lo2,hlo,hRO,e18⟩;refine p0 (a8 e18 (Vr ?_));have x18:=(x17.trans hD2).trans e18;have e1718:=hD2.trans e18;have hlol:=hRO.len;have hlsl:sets.length+1<=161:=by omega
 have hlmul:=RB hlsl hN;obtain⟨loo,loc,rfl,hlos⟩:=hlo.oldN.sl;have hso18:=hso.extN e1718;have hblk18:=Q.ext x18;have hls18:=hls.up x18;rw[T]at hlmul hlol;have hokst:Dy ps.length (st.take (st.length -1)):=λy hy=>by rw[<-T];exact O.rg y (Qz hy)
 have hoklo:Dy ps.length lo2:=λy hy=>by rw[<-T];exact hRO.rg y hy
 have hb418:=hb4w.ext x18;refine U5 ?_;refine eT (α:=Int) (st.length -1) TK rfl rfl rfl rfl hso18 TK (λv19 ho19 hob19=>?_);obtain⟨cuo,cuc,rfl,hcus⟩:=ho19.oldN.sl;refine eK (pJ w18 hblk18 hls18 hcus hokst (by rw[Qb];omega)) ?_;rintro sv w19 ⟨hsv,e19⟩;obtain⟨svo,svc,rfl,hsvs⟩:=hsv.slF (F':=λb=>w18.heap.size<=b/\b<w19.heap.size) TY (λg i=>⟨(hsv.lt g i).1,(hsv.lt g i).2.1⟩);refine U9 ?_;refine eK (pJ w19 (hblk18.ext e19) (hls18.up e19) (hlos.up e19) hoklo TK) ?_;rintro lv2 w20 ⟨hlv2,e20⟩;obtain⟨lvo,lvc,rfl,hlvs⟩:=hlv2.slF (F':=λb=>w19.heap.size<=b/\b<w20.heap.size) TY (λg i=>⟨(hlv2.lt g i).1,(hlv2.lt g i).2.1⟩);have x20:=(x18.trans e19).trans e20;refine r4 rfl rfl rfl rfl (f7 (hb418.ext (e19.trans e20)) (λw21 hb21 hg21=>?_));have hE21:Ext w0 w21:=(hE0 x20).grown hg21 (hE0 x20).size TZ;have hRO':RoOK nx (st.getD (st.length -1) 0).toNat (IC (Ju e.W e.A) ps) lo2:=by rw[hm,Oy,<-hsx];exact hRO
 have hpath:=EH V T X hPW (Ds okA) O hRO' TK TK;have q18:=x18.size;have q19:=e19.size;have q20:=e20.size;have r1:=hsvs.mono (w':=w21) (λb o=>(hg21.block b TK T3).trans (e20.block b o.2)) (F':=dk w21) (λb o=>by have:=hg21.size;exact(show b<w21.heap.size by omega));have r2:=hlvs.mono (w':=w21) (λb o=>hg21.block b o.2 T3) (F':=dk w21) (λb o=>by have:=hg21.size;exact(show b<w21.heap.size by omega));refine Uf ?_;exact bm rfl rfl rfl rfl hb21 rfl ⟨⟨_,_,true,0,_,_,_,_,rfl,r1,r2,.inr ⟨rfl,hW,hA,.inr ⟨rfl,hyes,hpath⟩⟩⟩,hE21⟩

section
variable {fr:List (List Int)}{q:Nat->dt}
end







instance:IsZC Vy 144 [.slice none 0 0,.slice none 0 0,.slice none 0 0,.slice none 0 0,.slice none 0 0]:=v2 (z:=.agg #[.slice none 0 0,.slice none 0 0,.slice none 0 0,.slice none 0 0,.slice none 0 0]) TL rfl


def Ef(f:Nat->Bool):Nat->Nat
 |0=>0
 |c+1=>if f c=true then Ef f c|||(1 <<< c)else Ef f c
def jl(c j:Nat):(1 <<< c).testBit j=decide (j=c):=by rw[RI,Nat.testBit_two_pow];exact S_.2 ⟨λh=>h.symm,λh=>h.symm⟩
def Eh{f:Nat->Bool}:∀{c j:Nat},(Ef f c).testBit j=(decide (j<c)&&f j)
 |0,j=>by simp[Ef]
 |c+1,j=>by
  rw[Ef];by_cases hf:f c=true
  .rw[Tn hf,Nat.testBit_or,Eh,jl];by_cases e:j=c
   .subst e;simp[hf]
   .have:decide (j<c+1)=decide (j<c):=S_.2 TK;rw[this,Ta e,N7]
  .rw[Tm hf,Eh];by_cases e:j=c
   .subst e;simp[hf]
   .have:decide (j<c+1)=decide (j<c):=S_.2 TK;rw[this]
def Ei{f:Nat->Bool}:∀{c:Nat},Ef f c<2 ^ c
 |0=>by simp[Ef]
 |c+1=>by
  have h:=Ei (f:=f) (c:=c);rw[Ef];have h2:2 ^ c<=2 ^ (c+1):=RK TK TK;split
  .exact RJ (Rv h h2) (by rw[RI];exact RM TK TK)
  .omega
abbrev de:=List Int×List Ltl
def sS(k n:Int)(t:Ltl)(m:de):de:=if k=3 then(if n∈m.1 then m.1 else m.1++[n],m.2)else if k=7\/k=8\/k=9 then(m.1,if m.2.any (H2 t)=true then m.2 else m.2++[t])else m
mutual
def sD:Ltl->de->de
 |.mk k n kids,m=>sL kids (sS k n (.mk k n kids) m)
def sL:List Ltl->de->de
 |[],m=>m
 |x::r,m=>sL r (sD x m)
end
mutual
def Cov(m:de):Ltl->Prop
 |.mk k n kids=>(k=3->n∈m.1)/\((k=7\/k=8\/k=9)->.mk k n kids∈m.2)/\Covs m kids
def Covs(m:de):List Ltl->Prop
 |[]=>True
 |x::r=>Cov m x/\Covs m r
end
def Les(m c:de):Prop:=(∀x∈m.1,x∈c.1)/\∀x∈m.2,x∈c.2
def Les.refl(m:de):Les m m:=⟨λ_ h=>h,λ_ h=>h⟩
def Les.trans{a b c:de}(h:Les a b)(k:Les b c):Les a c:=⟨λx d=>k.1 x (h.1 x d),λx d=>k.2 x (h.2 x d)⟩
mutual
theorem Cov.les{m d:de}(h:Les m d):∀t,Cov m t->Cov d t
 |.mk k n kids,c=>by
  simp only[Cov]at c⊢
  exact⟨λe=>h.1 _ (c.1 e),λe=>h.2 _ (c.2.1 e),Covs.les h kids c.2.2⟩
theorem Covs.les{m d:de}(h:Les m d):∀l,Covs m l->Covs d l
 |[],_=>trivial
 |x::r,c=>by
  simp only[Covs]at c⊢
  exact⟨Cov.les h x c.1,Covs.les h r c.2⟩
end
def sU(k n:Int)(t:Ltl)(m:de):Les m (sS k n t m):=by
 unfold sS;split
 .refine⟨λx c=>?_,λ_ h=>h⟩;dsimp only;split
  .exact c
  .exact Qm _ c
 .split
  .refine⟨λ_ h=>h,λx c=>?_⟩;dsimp only;split
   .exact c
   .exact Qm _ c
  .exact Les.refl m
mutual
theorem sI:∀(t:Ltl) (m:de),Les m (sD t m)
 |.mk k n kids,m=>by
  simp only[sD];exact(sU k n _ m).trans (sP kids _)
theorem sP:∀(l:List Ltl) (m:de),Les m (sL l m)
 |[],m=>Les.refl m
 |x::r,m=>by
  simp only[sL];exact(sI x m).trans (sP r _)
end
def sT(k n:Int)(kids:List Ltl)(m:de):(k=3->n∈(sS k n (.mk k n kids) m).1)/\((k=7\/k=8\/k=9)->.mk k n kids∈(sS k n (.mk k n kids) m).2):=by
 unfold sS;refine⟨λh=>?_,λh=>?_⟩
 .rw[Tn h];dsimp only;split
  .assumption
  .exact Qn _ TO
 .rw[Tm TK,Tn h];dsimp only;split
  .rename_i c;rw[OE]at c;obtain⟨x,d,c⟩:=c;rw[(H3 _ _).1 c];exact d
  .exact Qn _ TO
mutual
theorem sF:∀(t:Ltl) (m:de),Cov (sD t m) t
 |.mk k n kids,m=>by
  simp only[Cov,sD];have h:=sT k n kids m;have c:=sP kids (sS k n (.mk k n kids) m);exact⟨λe=>c.1 _ (h.1 e),λe=>c.2 _ (h.2 e),sN kids _⟩
theorem sN:∀(l:List Ltl) (m:de),Covs (sL l m) l
 |[],m=>trivial
 |x::r,m=>by
  simp only[Covs,sL];exact⟨Cov.les (sP r _) x (sF x m),sN r _⟩
end
structure OkM(m:de):Prop where
 na:m.1.Nodup
 ra:∀x∈m.1,0<=x/\x<=63
 wp:∀g∈m.2,MK g/\(g.k=7\/g.k=8\/g.k=9)/\uG g 10=false/\uG g 11=false
def OkM.nil:OkM ([],[]):=⟨List.Pairwise.nil,(λx c=>by cases c),(λx c=>by cases c)⟩
def sX{k n:Int}{kids:List Ltl}{m:de}(c:OkM m)(h:MK (.mk k n kids))(o:uG (.mk k n kids) 10=false)(h1:uG (.mk k n kids) 11=false):OkM (sS k n (.mk k n kids) m):=by
 unfold sS;simp only[MK]at h;split
 .refine⟨?_,λx d=>?_,c.wp⟩
  .dsimp only;split
   .exact c.na
   .rename_i hn;rw[QF];exact⟨c.na,QP _ _,λa l b i e=>hn (by rw[QC]at i;rw[<-i,<-e];exact l)⟩
  .dsimp only at d;split at d
   .exact c.ra x d
   .obtain d|d:=Ql.1 d
    .exact c.ra x d
    .rw[QC]at d;subst d;exact⟨h.2.1,h.2.2.1⟩
 .split
  .rename_i j;refine⟨c.na,c.ra,λg f=>?_⟩;dsimp only at f;split at f
   .exact c.wp g f
   .obtain f|f:=Ql.1 f
    .exact c.wp g f
    .rw[QC]at f;subst f;exact⟨by simp only[MK];exact h,j,o,h1⟩
  .exact c
mutual
theorem sK:∀(t:Ltl) (m:de),OkM m->MK t->uG t 10=false->uG t 11=false->OkM (sD t m)
 |.mk k n kids,m,e,c,d,h1=>by
  have h:=sX e c d h1;simp only[sD];simp only[MK]at c
  simp only[uG,N5]at d h1
  exact sQ kids _ h c.2.2.2.2 d.2 h1.2
theorem sQ:∀(l:List Ltl) (m:de),OkM m->MM l->uH l 10=false->uH l 11=false->OkM (sL l m)
 |[],m,e,_,_,_=>e
 |x::r,m,e,c,d,h1=>by
  simp only[sL];simp only[MM]at c
  simp only[uH,N5]at d h1
  exact sQ r _ (sK x m e c.1 d.1 h1.1) c.2 d.2 h1.2
end
def aM(m c:de):Prop:=∀g∈m.2,Cov c g
mutual
theorem sE:∀(t:Ltl) (m d:de),Les (sD t m) d->aM m d->aM (sD t m) d
 |.mk k n kids,m,d,f,e=>by
  have h1:=Cov.les f _ (sF (.mk k n kids) m);simp only[sD]at f⊢
  refine sM kids _ d f λg c=>?_
  unfold sS at c
  split at c
  .exact e g c
  .split at c
   .dsimp only at c
    split at c
    .exact e g c
    .rcases Ql.1 c with c|c
     .exact e g c
     .rw[QC]at c;subst c;exact h1
   .exact e g c
theorem sM:∀(l:List Ltl) (m d:de),Les (sL l m) d->aM m d->aM (sL l m) d
 |[],m,d,_,e=>e
 |x::r,m,d,f,e=>by
  simp only[sL]at f⊢
  exact sM r _ d f (sE x m d ((sP r _).trans f) e)
end
def Ew(m:de)(t:Ltl):Int:=idxOf (H2 t) m.2
def iC(m:de)(n:Int):Int:=idxOf (λy=>n==y) m.1
def ly(m:de)(s:Nat)(t:Ltl):Bool:=if t.k=3 then s.testBit (iC m t.n).toNat else s.testBit (m.1.length+(Ew m t).toNat)
mutual
def uI(m:de)(s:Nat):Ltl->Bool
 |.mk k n kids=>
  if k=1 then true else if k=2 then false
  else if k=4 then !((uJ m s kids).getD 0 false)
  else if k=5 then(uJ m s kids).getD 0 false&&(uJ m s kids).getD 1 false
  else if k=6 then(uJ m s kids).getD 0 false||(uJ m s kids).getD 1 false
  else if k=8 then(uJ m s kids).getD 1 false||((uJ m s kids).getD 0 false&&ly m s (.mk k n kids))
  else if k=9 then(uJ m s kids).getD 1 false&&((uJ m s kids).getD 0 false||ly m s (.mk k n kids))
  else ly m s (.mk k n kids)
def uJ(m:de)(s:Nat):List Ltl->List Bool
 |[]=>[]
 |x::r=>uI m s x::uJ m s r
end
def ie(g:Ltl):Ltl:=if g.k=7 then g.kids.getD 0 (.mk 0 0 [])else g
def Cs:Ltl:=.mk 0 0 []
def zI(m:de)(s:Nat):Nat:=Ef (λi=>uI m s (ie (m.2.getD i Cs))) m.2.length
def jj(at':List Int)(s:Nat)(is:Bool):Nat->Nat
 |0=>0
 |c+1=>if s.testBit c=is then jj at' s is c|||(1 <<< (at'.getD c 0).toNat)else jj at' s is c
def jm(m:de)(s:Nat)(is:Bool):Nat:=jj m.1 s is m.1.length
def qk(m:de)(g:Ltl)(s:Nat):Bool:=if g.k=8 then !(uI m s g)||uI m s (g.kids.getD 1 Cs)else uI m s g||!(uI m s (g.kids.getD 1 Cs))
def bitP_bit{at':List Int}{s:Nat}{is:Bool}{a:Nat}:∀{c:Nat},(jj at' s is c).testBit a=true↔∃i,i<c/\s.testBit i=is/\(at'.getD i 0).toNat=a
 |0=>by simp[jj]
 |c+1=>by
  rw[jj];by_cases h:s.testBit c=is
  .rw[Tn h,Nat.testBit_or,N6,bitP_bit,jl,Td];constructor
   .rintro(⟨i,h1,h2⟩|h1)
    .exact⟨i,by omega,h2⟩
    .exact⟨c,by omega,h,h1.symm⟩
   .rintro⟨i,h1,h2,h3⟩;by_cases e:i=c
    .subst e;exact .inr h3.symm
    .exact .inl ⟨i,by omega,h2,h3⟩
  .rw[Tm h,bitP_bit];constructor
   .rintro⟨i,h1,h2⟩;exact⟨i,by omega,h2⟩
   .rintro⟨i,h1,h2,h3⟩;by_cases e:i=c
    .subst e;exact absurd h2 h
    .exact⟨i,by omega,h2,h3⟩
def jk{at':List Int}{s:Nat}{is:Bool}(h:∀x∈at',x<=63):∀{c:Nat},c<=at'.length->jj at' s is c<2 ^ 64
 |0,_=>by simp[jj]
 |c+1,d=>by
  have h1:=jk (s:=s) (is:=is) h (c:=c) TK;rw[jj];split
  .refine RJ h1 ?_;rw[RI];have:=h (at'.getD c 0) (by rw[Pl,Pq TK];exact PL _);exact RM TK TK
  .exact h1
def ym{p:α->Bool}{l:List α}{x:α}(d:x∈l)(c:p x=true)(f:∀y,p y=true->y=x):∃i,∃h:i<l.length,idxOf p l=(i:Int)/\l[i]=x:=by
 unfold idxOf;cases e:l.findIdx? p with
 |none=>
  rw[Pb]at e;rw[e x d]at c;cases c
 |some i=>
  obtain⟨h1,h2,_⟩:=Pc.1 e;exact⟨i,h1,rfl,f _ h2⟩
def Ex{m:de}{t:Ltl}(h:t∈m.2):∃i,∃h:i<m.2.length,Ew m t=(i:Int)/\m.2[i]=t:=
 ym h (H4 t) (λy c=>((H3 _ _).1 c).symm)
def iD{m:de}{n:Int}(h:n∈m.1):∃i,∃h:i<m.1.length,iC m n=(i:Int)/\m.1[i]=n:=
 ym h TO (λy c=>by simpa using Eq.symm (by simpa using c))
section
variable {m:de}{s:Nat}{n:Int}{a b:Ltl}
theorem ho1:uI m s (.mk 1 n [])=true:=by simp[uI]
theorem ho2:uI m s (.mk 2 n [])=false:=by simp[uI]
theorem ho3:uI m s (.mk 3 n [])=s.testBit (iC m n).toNat:=by simp[uI,ly,Ltl.k,Ltl.n]
theorem ho4:uI m s (.mk 4 n [a])=!uI m s a:=by simp[uI,uJ]
theorem ho5:uI m s (.mk 5 n [a,b])=(uI m s a&&uI m s b):=by simp[uI,uJ]
theorem ho6:uI m s (.mk 6 n [a,b])=(uI m s a||uI m s b):=by simp[uI,uJ]
theorem ho7:uI m s (.mk 7 n [a])=s.testBit (m.1.length+(Ew m (.mk 7 n [a])).toNat):=by simp[uI,ly,Ltl.k]
theorem ho8:uI m s (.mk 8 n [a,b])=(uI m s b||(uI m s a&&s.testBit (m.1.length+(Ew m (.mk 8 n [a,b])).toNat))):=by simp[uI,uJ,ly,Ltl.k]
theorem ho9:uI m s (.mk 9 n [a,b])=(uI m s b&&(uI m s a||s.testBit (m.1.length+(Ew m (.mk 9 n [a,b])).toNat))):=by simp[uI,uJ,ly,Ltl.k]
end
def IW{x:Nat}:x >>> a&&&1=1↔x.testBit a=true:=by rw[Nat.testBit_eq_decide_div_mod_eq,Td,Nat.and_one_is_mod,RN]
structure OkF(m:de)(t:Ltl):Prop where
 wf:MK t
 h10:uG t 10=false
 h11:uG t 11=false
 cov:Cov m t
def OkF.un{m:de}{k n:Int}{a:Ltl}(h:OkF m (.mk k n [a])):OkF m a:=by obtain⟨h1,h2,h3,h4⟩:=h;simp only[MK,MM]at h1;simp only[uG,uH,N5]at h2 h3;simp only[Cov,Covs]at h4;exact⟨h1.2.2.2.2.1,h2.2.1,h3.2.1,h4.2.2.1⟩
def OkF.b1{m:de}{k n:Int}{a b:Ltl}(h:OkF m (.mk k n [a,b])):OkF m a:=by obtain⟨h1,h2,h3,h4⟩:=h;simp only[MK,MM]at h1;simp only[uG,uH,N5]at h2 h3;simp only[Cov,Covs]at h4;exact⟨h1.2.2.2.2.1,h2.2.1,h3.2.1,h4.2.2.1⟩
def OkF.b2{m:de}{k n:Int}{a b:Ltl}(h:OkF m (.mk k n [a,b])):OkF m b:=by obtain⟨h1,h2,h3,h4⟩:=h;simp only[MK,MM]at h1;simp only[uG,uH,N5]at h2 h3;simp only[Cov,Covs]at h4;exact⟨h1.2.2.2.2.2.1,h2.2.2.1,h3.2.2.1,h4.2.2.2.1⟩
structure OkT(m:de):Prop where
 ok:OkM m
 clo:aM m m
def EC{g:Ltl}(c:MK g)(d:g.k=7\/g.k=8\/g.k=9):(∃a,g=.mk 7 0 [a])\/∃k a b,(k=8\/k=9)/\g=.mk k 0 [a,b]:=by
 obtain⟨k,n,kids⟩:=g;simp only[Ltl.k]at d;simp only[MK]at c;obtain⟨h1,_,_,h4,_⟩:=c;have hn:n=0:=h4 TK;subst hn;obtain rfl|rfl|rfl:=d
 .have:kids.length=1:=by simp[Af]at h1;omega
  obtain⟨a,rfl⟩:=P0.1 this;exact .inl ⟨a,rfl⟩
 .have:kids.length=2:=by simp[Af]at h1;omega
  match kids,this with
  |[a,b],_=>exact .inr ⟨8,a,b,.inl rfl,rfl⟩
 .have:kids.length=2:=by simp[Af]at h1;omega
  match kids,this with
  |[a,b],_=>exact .inr ⟨9,a,b,.inr rfl,rfl⟩
def OkT.part{m:de}(h:OkT m){g:Ltl}(a:g∈m.2):OkF m g:=⟨(h.ok.wp g a).1,(h.ok.wp g a).2.2.1,(h.ok.wp g a).2.2.2,h.clo g a⟩
def OkT.arg{m:de}(h:OkT m){g:Ltl}(c:g∈m.2):OkF m (ie g):=by
 have h1:=h.part c;obtain⟨a,rfl⟩|⟨k,a,b,d,rfl⟩:=EC h1.wf (h.ok.wp g c).2.1
 .exact h1.un
 .unfold ie;rw[Tm (by simp only[Ltl.k];omega)];exact h1
abbrev C_(m:de):Nat:=m.1.length+m.2.length
def Kh(m:de)(f:Ltl):cH:=
 (((range (2 ^ C_ m)).filter λs=>uI m s f).map λs:Nat=>(s:Int),
  (range (2 ^ C_ m)).map λs=>((range (2 ^ C_ m)).filter λt=>decide (zI m t=s >>> m.1.length)).map λt:Nat=>(t:Int),
  (range (2 ^ C_ m)).map λs=>jm m s true,(range (2 ^ C_ m)).map λs=>jm m s false,
  (m.2.filter λg=>decide (g.k≠7)).map λg=>((range (2 ^ C_ m)).filter λs=>qk m g s).map λs:Nat=>(s:Int))
section
variable {m:de}{L:Nat->Nat}
theorem tN{l:List Ltl}{j:Nat}(h:j<l.length):l.getD j Cs=l[j]:=by rw[Pl,Pq h];rfl
theorem zJ{s j:Nat}:(zI m s).testBit j=(decide (j<m.2.length)&&uI m s (ie (m.2.getD j Cs))):=Eh
theorem Ey{s t:Nat}(h:zI m t=s >>> m.1.length){g:Ltl}(b:g∈m.2):s.testBit (m.1.length+(Ew m g).toNat)=uI m t (ie g):=by obtain⟨j,hj,e,a⟩:=Ex b;rw[e,Oy,<-RS,<-h,zJ,Tc hj,N9,tN hj,a]
theorem KI{H A B:Nat->Prop}(c:∀i,H i↔B i\/(A i/\H (i+1)))(hf:∀i,∃j,i<=j/\(¬H j\/B j))(i:Nat):H i↔Til A B i:=by
 constructor
 .intro h;refine Ob λhn=>?_;have:∀d,H (i+d)/\¬Til A B (i+d):=λd=>by
   induction d with
   |zero=>exact⟨h,hn⟩
   |succ d b=>
    obtain⟨h1,h2⟩:=b;have h3:¬B (i+d):=λe=>h2 (Wl.2 (.inl e));have h4:=((c _).1 h1).resolve_left h3;exact⟨h4.2,λk=>h2 (Wl.2 (.inr ⟨h4.1,k⟩))⟩
  obtain⟨j,hj,a⟩:=hf i;have h1:=this (j -i);rw[show i+(j -i)=j by omega]at h1;obtain a|a:=a
  .exact a h1.1
  .exact h1.2 (Wl.2 (.inl a))
 .rintro⟨j,f,e,g⟩;have:∀d,d<=j -i->H (j -d):=λd=>by
   induction d with
   |zero=>intro _;exact(c _).2 (.inl e)
   |succ d b=>
    intro hd;refine(c _).2 (.inr ⟨g _ TK TK,?_⟩);rw[show j -(d+1)+1=j -d by omega];exact b TK
  have h1:=this (j -i) T8;rwa[show j -(j -i)=i by omega]at h1
theorem HK(w:OkT m){r:Nat->Nat}(c:∀i,zI m (r (i+1))=r i >>> m.1.length)(p:∀i,∀n∈m.1,(r i).testBit (iC m n).toNat=(L i).testBit n.toNat)
  (d:∀g∈m.2,g.k≠7->∀i,∃j,i<=j/\qk m g (r j)=true):∀t,OkF m t->∀i,uI m (r i) t=true↔If L t i:=by
 intro t s;refine MP (M:=λt=>OkF m t->∀i,uI m (r i) t=true↔If L t i) ?_ ?_ ?_ ?_ ?_ t s.wf s
 .intro _ i;rw[ho1,Ig];simp
 .intro _ i;rw[ho2,Ij];simp
 .intro n _ _ hf i;have e:=hf.cov;simp only[Cov]at e;rw[ho3,Ik,IW,p i n (e.1 trivial)]
 .intro k a q _ u hf i;have l:=u hf.un;have e:=hf.cov;simp only[Cov]at e;obtain rfl|rfl|rfl|rfl:=q
  .rw[ho4,Il,<-l i];simp
  .have f:=e.2.1 (.inl rfl);rw[ho7,Io,<-l (i+1),Ey (c i) f];exact Og
  .have:=hf.h10;simp[uG]at this
  .have:=hf.h11;simp[uG]at this
 .intro k a b q _ _ iha ihb hf i;have l:=iha hf.b1;have o:=ihb hf.b2;have e:=hf.cov;simp only[Cov]at e;obtain rfl|rfl|rfl|rfl:=q
  .rw[ho5,Im,<-l i,<-o i];simp
  .rw[ho6,In,<-l i,<-o i];simp
  .have f:=e.2.1 (.inr (.inl rfl));rw[sem8];refine KI (H:=λi=>uI m (r i) (.mk 8 0 [a,b])=true) (λi=>?_) (λi=>?_) i
   .rw[ho8,Ey (c i) f,N6,NS,l i,o i];exact Og
   .obtain⟨j,h1,h2⟩:=d _ f (by simp[Ltl.k]) i;refine⟨j,h1,?_⟩;unfold qk at h2;rw[Tn (by rfl),N6]at h2;obtain h2|h2:=h2
    .exact .inl (by simpa using h2)
    .exact .inr ((o j).1 h2)
  .have f:=e.2.1 (.inr (.inr rfl));rw[Ip];have v:=KI (H:=λi=>¬uI m (r i) (.mk 9 0 [a,b])=true) (A:=λj=>¬If L a j) (B:=λj=>¬If L b j) (λi=>?_) (λi=>?_) i
   .rw[<-v];exact Of.symm
   .rw[ho9,Ey (c i) f,NS,N6,l i,o i,Od,Tr];exact Og
   .obtain⟨j,h1,h2⟩:=d _ f (by simp[Ltl.k]) i;refine⟨j,h1,?_⟩;unfold qk at h2;rw[Tm (by simp[Ltl.k]),N6]at h2;obtain h2|h2:=h2
    .exact .inl (λh=>h h2)
    .refine .inr λh=>?_;have h2:(!uI m (r j) b)=true:=h2;have h3:uI m (r j) b=false:=by simpa using h2
     rw[(o j).2 h]at h3;cases h3
theorem rL(g:OkM m){s x:Nat}:(x&&&jm m s true=jm m s true/\x&&&jm m s false=0)↔∀j,j<m.1.length->x.testBit (m.1.getD j 0).toNat=s.testBit j:=by
 have f:∀y,x&&&y=y↔∀a,y.testBit a=true->x.testBit a=true:=λy=>by
  constructor
  .intro h a b;have:=S9 (λz=>z.testBit a) h;simp only[RR,b,Bool.and_true]at this;exact this
  .intro h;refine Rj λa=>?_;rw[RR];cases d:y.testBit a
   .simp
   .rw[h a d];rfl
 have e:∀y,x&&&y=0↔∀a,y.testBit a=true->x.testBit a=false:=λy=>by
  constructor
  .intro h a b;have:=S9 (λz=>z.testBit a) h;simp only[RR,b,Bool.and_true,RV]at this;exact this
  .intro h;refine Rj λa=>?_;rw[RR,RV];cases d:y.testBit a
   .simp
   .rw[h a d];rfl
 rw[f,e];unfold jm;constructor
 .rintro⟨h1,h2⟩ j hj;cases c:s.testBit j
  .exact h2 _ (bitP_bit.2 ⟨j,hj,c,rfl⟩)
  .exact h1 _ (bitP_bit.2 ⟨j,hj,c,rfl⟩)
 .intro h;refine⟨λa b=>?_,λa b=>?_⟩
  .obtain⟨j,hj,c,rfl⟩:=bitP_bit.1 b;rw[h j hj,c]
  .obtain⟨j,hj,c,rfl⟩:=bitP_bit.1 b;rw[h j hj,c]
theorem iE{n:Int}(h:n∈m.1):(iC m n).toNat<m.1.length/\m.1.getD (iC m n).toNat 0=n:=by obtain⟨j,hj,e,hn⟩:=iD h;rw[e,Oy];exact⟨hj,by rw[Pl,Pq hj];exact hn⟩
open Classical in
noncomputable def I1(L:Nat->Nat)(m:de)(i:Nat):Nat:=
 Ef (λj=>if j<m.1.length then(L i).testBit (m.1.getD j 0).toNat else decide (If L (ie (m.2.getD (j -m.1.length) Cs)) (i+1))) (C_ m)
theorem I2{i j:Nat}(h:j<m.1.length):(I1 L m i).testBit j=(L i).testBit (m.1.getD j 0).toNat:=by unfold I1;rw[Eh,Tc (show j<C_ m by unfold C_;omega),Tn h,N9]
theorem I3{i j:Nat}(h:j<m.2.length):(I1 L m i).testBit (m.1.length+j)=true↔If L (ie (m.2.getD j Cs)) (i+1):=by unfold I1;rw[Eh,Tc (show m.1.length+j<C_ m by unfold C_;omega),Tm TK,N9,Rb];exact @Te _ (Classical.propDecidable _)
theorem I4{i:Nat}{g:Ltl}(b:g∈m.2):(I1 L m i).testBit (m.1.length+(Ew m g).toNat)=true↔If L (ie g) (i+1):=by obtain⟨j,hj,e,a⟩:=Ex b;rw[e,Oy,I3 hj,tN hj,a]
theorem I6(o:OkT m):∀t,OkF m t->∀i,uI m (I1 L m i) t=true↔If L t i:=by
 intro t h;refine MP (M:=λt=>OkF m t->∀i,uI m (I1 L m i) t=true↔If L t i) ?_ ?_ ?_ ?_ ?_ t h.wf h
 .intro _ i;rw[ho1,Ig];simp
 .intro _ i;rw[ho2,Ij];simp
 .intro n _ _ hf i;have c:=hf.cov;simp only[Cov]at c;obtain⟨h1,h2⟩:=iE (c.1 trivial);rw[ho3,Ik,IW,I2 h1,h2]
 .intro k a g _ l hf i;have d:=l hf.un;have c:=hf.cov;simp only[Cov]at c;obtain rfl|rfl|rfl|rfl:=g
  .rw[ho4,Il,<-d i];simp
  .have e:=c.2.1 (.inl rfl);rw[ho7,Io,I4 e];exact Og
  .have:=hf.h10;simp[uG]at this
  .have:=hf.h11;simp[uG]at this
 .intro k a b g _ _ iha ihb hf i;have d:=iha hf.b1;have f:=ihb hf.b2;have c:=hf.cov;simp only[Cov]at c;obtain rfl|rfl|rfl|rfl:=g
  .rw[ho5,Im,<-d i,<-f i];simp
  .rw[ho6,In,<-d i,<-f i];simp
  .have e:=c.2.1 (.inr (.inl rfl));rw[ho8,N6,NS,I4 e,d i,f i,sem8,Wl];have:If L (ie (.mk 8 0 [a,b])) (i+1)↔Til (If L a) (If L b) (i+1):=sem8;rw[this]
  .have e:=c.2.1 (.inr (.inr rfl));rw[ho9,NS,N6,I4 e,d i,f i,Ip,Wl];have:If L (ie (.mk 9 0 [a,b])) (i+1)↔¬Til (λj=>¬If L a j) (λj=>¬If L b j) (i+1):=Ip;rw[this,Tr,Od,Of,Of]
theorem I7(a:OkT m)(i:Nat):zI m (I1 L m (i+1))=I1 L m i >>> m.1.length:=by
 refine Rj λj=>?_;rw[zJ,RS];by_cases hj:j<m.2.length
 .rw[Tc hj,N9,NU,I3 hj];exact I6 a _ (a.arg (by rw[tN hj];exact PL hj)) (i+1)
 .rw[Ta hj,NV];unfold I1;rw[Eh,Ta (show¬m.1.length+j<C_ m by unfold C_;omega),NV]
theorem I5(d:OkT m){g:Ltl}(l:g∈m.2)(p:g.k≠7)(i:Nat):∃j,i<=j/\qk m g (I1 L m j)=true:=by
 have hf:=d.part l;obtain⟨a,rfl⟩|⟨k,a,b,f,rfl⟩:=EC hf.wf (d.ok.wp g l).2.1
 .exact absurd rfl p
 have n:=λj=>I6 (L:=L) d b hf.b2 j;have c:=λj=>I6 (L:=L) d _ hf j;obtain rfl|rfl:=f
 .by_cases h:uI m (I1 L m i) (.mk 8 0 [a,b])=true
  .obtain⟨j,h1,h2,_⟩:=sem8.1 ((c i).1 h);refine⟨j,h1,?_⟩;unfold qk;rw[Tn (by rfl),N6];exact .inr ((n j).2 h2)
  .refine⟨i,Rq _,?_⟩;unfold qk;rw[Tn (by rfl),N6];exact .inl (by simpa using h)
 .by_cases h:uI m (I1 L m i) (.mk 9 0 [a,b])=true
  .refine⟨i,Rq _,?_⟩;unfold qk;rw[Tm (by simp[Ltl.k]),N6];exact .inl h
  .have o:¬If L (.mk 9 0 [a,b]) i:=λh2=>h ((c i).2 h2);rw[Ip,Of]at o;obtain⟨j,h1,h2,_⟩:=o;refine⟨j,h1,?_⟩;unfold qk;rw[Tm (by simp[Ltl.k]),N6];refine .inr ?_;show(!uI m (I1 L m j) b)=true;cases e:uI m (I1 L m j) b
   .rfl
   .exact absurd ((n j).1 e) h2
theorem rangeN_mem{N:Nat}{p:Nat->Bool}{x:Nat}:(x:Int)∈((range N).filter p).map (λs:Nat=>(s:Int))↔x<N/\p x=true:=by
 rw[Qv];constructor
 .rintro⟨y,a,e⟩;rw[Qs,QA]at a;have:y=x:=by omega
  subst this;exact a
 .intro h;exact⟨x,Qs.2 ⟨QA.2 h.1,h.2⟩,rfl⟩
theorem BB{N:Nat}{f:Nat->Nat}{x:Nat}(h:x<N):((range N).map f).getD x 0=f x:=by rw[Pl,Pu,Pv h];rfl
theorem Bx{N:Nat}{f:Nat->List Int}{x:Nat}(h:x<N):((range N).map f).getD x []=f x:=by rw[Pl,Pu,Pv h];rfl
theorem Kr{f:Ltl}{x:Nat}(h:x<2 ^ C_ m):(Kh m f).2.1.getD x []=((range (2 ^ C_ m)).filter λt=>decide (zI m t=x >>> m.1.length)).map λt:Nat=>(t:Int):=Bx (f:=λs=>((range (2 ^ C_ m)).filter λt=>decide (zI m t=s >>> m.1.length)).map λt:Nat=>(t:Int)) h
theorem Kp{f:Ltl}{x:Nat}(h:x<2 ^ C_ m):(Kh m f).2.2.1.getD x 0=jm m x true:=BB (f:=λs=>jm m s true) h
theorem Kq{f:Ltl}{x:Nat}(h:x<2 ^ C_ m):(Kh m f).2.2.2.1.getD x 0=jm m x false:=BB (f:=λs=>jm m s false) h
theorem Ko(d:OkT m){f:Ltl}(hf:OkF m f):aa (Kh m f) L↔If L f 0:=by
 constructor
 .rintro⟨r,e⟩;have o:=rangeN_mem.1 e.first;have a:∀i,r i<2 ^ C_ m:=λi=>by
   induction i with
   |zero=>exact o.1
   |succ i p=>
    have h1:=e.step i;rw[Kr p]at h1;exact(rangeN_mem.1 h1).1
  have b:∀i,zI m (r (i+1))=r i >>> m.1.length:=λi=>by have h1:=e.step i;rw[Kr (a i)]at h1;exact Tu (rangeN_mem.1 h1).2
  have l:∀i,∀n∈m.1,(r i).testBit (iC m n).toNat=(L i).testBit n.toNat:=λi n hn=>by have h1:=e.fits i;unfold rI at h1;rw[NS,Td,Td,Kp (a i),Kq (a i)]at h1;obtain⟨h2,h3⟩:=iE hn;have h4:=(rL d.ok).1 h1 _ h2;rw[h3]at h4;exact h4.symm
  have c:∀g∈m.2,g.k≠7->∀i,∃j,i<=j/\qk m g (r j)=true:=λg k q i=>by obtain⟨j,h1,h2⟩:=e.fair _ (Qv.2 ⟨g,Qs.2 ⟨k,Tc q⟩,rfl⟩) i;exact⟨j,h1,(rangeN_mem.1 h2).2⟩
  exact(HK d b l c f hf 0).1 o.2
 .intro h;have a:∀i,I1 L m i<2 ^ C_ m:=λi=>Ei;refine⟨I1 L m,rangeN_mem.2 ⟨a 0,(I6 d f hf 0).2 h⟩,λi=>?_,λi=>?_,λF hF i=>?_⟩
  .unfold rI;rw[NS,Td,Td,Kp (a i),Kq (a i)];exact(rL d.ok).2 λj hj=>(I2 hj).symm
  .rw[Kr (a i)];exact rangeN_mem.2 ⟨a (i+1),Tc (I7 d i)⟩
  .obtain⟨g,k,rfl⟩:=Qv.1 hF;rw[Qs]at k;obtain⟨j,h1,h2⟩:=I5 (L:=L) d k.1 (Tu k.2) i;exact⟨j,h1,rangeN_mem.2 ⟨a j,h2⟩⟩
end
def FH:∀(m:Nat) (a b:Ltl),a.nodes<=m->∀(w:World) (F:Nat->Prop) (ao C:Option Addr) (ac bc:Nat),Sl w F ao ac a.kids->Sl w F C bc b.kids->(∀b,F b->b<w.heap.size)->
  Rt Vy 246 [Bi a.k a.n ao a.kids.length ac,Bi b.k b.n C b.kids.length bc].toArray w λv w'=>v=.bool (H2 a b)/\Ext w w':=by
 intro m;induction m with
 |zero=>intro a b h;have:=a.nodes_pos;omega
 |succ m K=>
  rintro⟨k,n,xs⟩ ⟨k',x,ys⟩ U w F ao C ac bc E f hF;simp only[Ltl.k,Ltl.n,Ltl.kids,Ltl.nodes]at*;have L:=E.len63;refine dS func246 ntmps246 rfl rfl (UZ ?_);refine eH λJ hf B=>?_;refine eH λI P d=>?_;have hf:=hf.ext d;have d:=B.trans d;have hS:H2 (.mk k n xs) (.mk k' x ys)=(k==k'&&n==x&&H5 xs ys):=by simp[H2]
  rw[hS];refine Uy ?_;cases h1:(k != k')with
  |true=>
   refine Us ?_;refine d6 ⟨?_,d⟩;simp at h1;simp[h1]
  |false=>
  have h1:k=k':=by simpa using h1
  refine Vc ?_;cases h2:(n != x)with
  |true=>
   refine Us ?_;refine d6 ⟨?_,d⟩;simp at h2;simp[h2]
  |false=>
  have h2:n=x:=by simpa using h2
  refine Uu ?_;cases h3:((xs.length:Int) != (ys.length:Int))with
  |true=>
   refine Us ?_;refine d6 ⟨?_,d⟩;have h3:xs.length≠ys.length:=by simp at h3;omega
   have:H5 xs ys=false:=by rw[NT,Ne,H6];exact λe=>h3 (by rw[e])
   rw[this];simp
  |false=>
  have h3:xs.length=ys.length:=by simp at h3;omega
  refine UM ?_;refine p8 (S:=Nat) (λi=>[(2,Uc w.heap.size),(3,Uc J.heap.size),(29,Ub xs.length),(30,Ub i)])
   (λi w'=>i<=xs.length/\Ext I w'/\∀j (h:j<xs.length) (G:j<ys.length),j<i->H2 xs[j] ys[j]=true) (λi=>xs.length -i) 0 TJ ⟨by omega,p7 _,by omega⟩ ?_
  rintro i H ⟨hi,g,l⟩;have Q:=hf.ext g;have O:=P.ext g;have c:=d.trans g;refine UR ?_;apply ld rfl<;>intro h
  .have h:i<xs.length:=by simpa using h
   have G:i<ys.length:=by omega
   refine U8 ?_;refine dz rfl rfl rfl rfl rfl (λb f=>Rv (hF b f) c.size) (E.up0 c hF) h TV (λu q M=>Vi ?_);refine dz rfl rfl rfl rfl rfl (λb f=>Rv (hF b f) c.size) (f.up0 c hF) G TV (λR T y=>?_);obtain⟨uo,uc,rfl,A⟩:=r0 M;obtain⟨uo',uc',rfl,t⟩:=r0 y;have r:∀b,F b->b<H.heap.size:=λb f=>Rv (hF b f) c.size;have o:(xs[i]).nodes<=m:=by have:=VU xs xs[i] (PL h);omega
   refine VX (v:=.bool (H2 xs[i] ys[i])) rfl rfl rfl (λD s=>K xs[i] ys[i] o D F uo uo' uc uc' (A.up0 s r) (t.up0 s r) (λb f=>Rv (r b f) s.size)) (U_ ?_);refine VD (λD s=>?_);cases z:H2 xs[i] ys[i]with
   |true=>
    refine US ?_;refine m5 (i+1) TJ ⟨h,g.trans s,λj hj p N=>?_⟩ TK;by_cases e:j=i
    .subst e;exact z
    .exact l j hj p TK
   |false=>
    refine U0 ?_;refine d6 ⟨?_,c.trans s⟩;have:H5 xs ys=false:=by rw[NT,Ne,H6];intro e;subst e;rw[H4]at z;cases z
    rw[this];simp
  .have h:¬i<xs.length:=by simpa using h
   refine UF ?_;refine d6 ⟨?_,c⟩;have:H5 xs ys=true:=by rw[H6];exact O3 h3 (λj hj p=>(H3 _ _).1 (l j hj p TK))
   rw[this];simp[h1,h2]
def Ah{k n:Int}{kids:List Ltl}(h:MK (.mk k n kids)):kids.length<=2:=by
 simp only[MK]at h;have h1:=h.1;unfold Af at h1;split at h1
 .omega
 .split at h1
  .omega
  .split at h1<;>omega
def MQ{k n:Int}{kids:List Ltl}(h:MK (.mk k n kids)){i:Nat}(hi:i<kids.length):MK kids[i]:=by simp only[MK]at h;exact MN kids i hi h.2.2.2.2
def CT{k n:Int}{kids:List Ltl}{m:Nat}(h:(Ltl.mk k n kids).nodes<=m+1){i:Nat}(hi:i<kids.length):(kids[i]).nodes<=m:=by have:=VU kids kids[i] (PL hi);simp only[Ltl.nodes]at h;omega

def E2:∀(m:Nat) (t:Ltl),t.nodes<=m->MK t->∀(w:World) (F:Nat->Prop) (ao:Option Addr) (cap:Nat),Sl w F ao cap t.kids->(∀b,F b->b<w.heap.size)->
  Rt Vy 191 [Bi t.k t.n ao t.kids.length cap].toArray w λv w'=>Rd w' (Nw w w') v (EY t)/\Ext w w':=by
 intro m;induction m with
 |zero=>intro t h;have:=t.nodes_pos;omega
 |succ m ih=>
  rintro⟨k,n,kids⟩ hm W w F ao cap hs hF;simp only[Ltl.k,Ltl.n,Ltl.kids]at*;have hkl:=Ah W;refine dR func191 ntmps191 rfl rfl (UZ ?_);refine eH λP hf hE1=>?_;refine eC (λs hr hE2=>?_);have hf:=hf.ext hE2;have H:=hE1.trans hE2;have hz1:w.heap.size<=P.heap.size:=hE1.size;have O:=hf.lt;have hlr:=hr.lt;refine Uy ?_;refine r4 rfl rfl rfl rfl (eC (λw3 ho hE3=>?_));refine f7 ho (λC ho4 hg4=>?_);have e4:Ext s C:=hE3.grown hg4 hE3.size TX;have hf4:=hf.ext e4;have hr4:=hr.ext e4;have hE4:=H.trans e4;have hlo:=ho4.lt;have hsz:=H.size;clear hf hr ho hg4 hE3 e4 H;refine UE ?_;refine p8 (S:=Nat×Value) (λx=>[(1,Uc w.heap.size),(2,Uc P.heap.size),(3,Uc s.heap.size),(12,.slice ao kids.length cap),(13,Ub kids.length),(14,Ub x.1)])
   (λx w'=>x.1<=kids.length/\Ext w w'/\C.heap.size<=w'.heap.size/\Blk w' w.heap.size 32 [Ub k,Ub n,.slice ao kids.length cap]/\Blk w' P.heap.size 32 [Ub 0,Ub 0,.slice none 0 0]/\
    Blk w' s.heap.size 32 [Ub k,Ub n,x.2]/\Grow C.heap.size 32 w' x.2 (EZ (kids.take x.1))) (λx=>kids.length -x.1) (0,.slice none 0 0) TJ ⟨by simp,hE4,Rq _,hf4,hr4,ho4,by simpa[EZ]using Grow.nil⟩ ?_
  rintro⟨i,kv⟩ c ⟨hi,p,Q,hf5,E,ho5,G⟩;dsimp only at hi p Q hf5 E ho5 G⊢;clear hf4 hr4 ho4;refine UR ?_;apply ld rfl<;>intro h
  .have h:i<kids.length:=by simpa using h
   refine UC ?_;refine fe (hs.up0 p hF) h TV (λu q hu=>?_);obtain⟨uo,uc,rfl,hku⟩:=r0 hu;refine eC (λK L hE6=>?_);refine f7 L (λj hx7 hg7=>?_);have f:Ext c j:=hE6.grown hg7 hE6.size TX;have z:=p.trans f;have ed:=mm j;have hd:=z.trans ed;have ho7:=(ho5.ext f).ext ed;have hxd:=hx7.ext ed;have hG7:=(G.ext f).ext ed;have hlx:=hx7.lt;have U:=f.size;have hKo:∀x,(λx:World=>x.heap[s.heap.size]?=(drew j).heap[s.heap.size]?/\x.heap[c.heap.size]?=(drew j).heap[c.heap.size]?) x->x.heap[s.heap.size]?=(drew j).heap[s.heap.size]?:=λ_ h=>h.1;have hKx:∀x,(λx:World=>x.heap[s.heap.size]?=(drew j).heap[s.heap.size]?/\x.heap[c.heap.size]?=(drew j).heap[c.heap.size]?) x->x.heap[c.heap.size]?=(drew j).heap[c.heap.size]?:=λ_ h=>h.2;refine UG ?_;refine aF (λx:World=>x.heap[s.heap.size]?=(drew j).heap[s.heap.size]?/\x.heap[c.heap.size]?=(drew j).heap[c.heap.size]?) [Wr 0,Wr 1,Wr 2,Ws 3,Ws 4,Ws 5,Wr 6] 7 mixed TL ⟨rfl,rfl⟩ (Vn ?_);refine ck hKx rfl rfl rfl rfl hxd rfl ?_;have hFd:∀b,F b->b<(drew j).heap.size:=λb a=>Rv (hF b a) hd.size;have hku':Sl (drew j) F uo uc (kids[i]).kids:=hku.up0 (f.trans ed) (λb a=>Rv (hF b a) p.size);refine cy rfl (eK (ih kids[i] (CT hm h) (MQ W h) (drew j) F uo uc hku' hFd) ?_);rintro v J ⟨M,I⟩;have ho8:=ho7.ext I;have hG8:=hG7.ext I;have hsz8:j.heap.size<=J.heap.size:=I.size;refine p0 (a8 ⟨I.block _ ho7.lt,I.block _ hlx⟩ ?_);have hgl:=hG7.lt;obtain⟨F',o,hO,hsub⟩:=hG8.open (Fu:=Nw (drew j) J) (λb a=>⟨Rr Q (Rr U a.1),a.2⟩) (λg hg a=>by have:=(hgl g hg).2;have:=a.1;omega);have N:(EZ (kids.take i)).length=i:=by rw[E0,P4,Qb];omega
   have B:=G.lt;refine bW (bytes:=40) (F:=F') rfl rfl rfl rfl TV rfl rfl TV hO (M.wk hsub) TK (λb a=>(o b a).2) TN (by rw[N];unfold maxLen;omega) (by rw[N];omega)
    (λw' hg'=>⟨(hg'.block _ ho8.lt (λe=>?_)).trans (I.block _ ho7.lt),(hg'.block _ TK (λe=>?_)).trans (I.block _ hlx)⟩) (λcV T q2 hO9 D hnb=>?_)
   .have:=(B _ e.symm).1;omega
   .have:=(B _ e.symm).2;omega
   have hG9:Grow C.heap.size 32 T cV (EZ (kids.take i)++[EY kids[i]]):=⟨F',λb a=>⟨(o b a).1,Rv (o b a).2 D.size⟩,hO9⟩;rw[show EZ (kids.take i)++[EY kids[i]]=EZ (kids.take (i+1)) by rw[E0,E0,Q4 h,Qe];rfl]at hG9;obtain⟨co,cc,rfl,_⟩:=hG9.sl;have hnr:∀r,r<C.heap.size->some r≠kv.ownBlock:=λr hr e=>by have:=(B _ e.symm).1;omega
   have ho9:=ho8.kept D (hnr _ TK);have hf9:=((((hf5.ext f).ext ed).ext I)).kept D (hnr _ TK);have hr9:=((((E.ext f).ext ed).ext I)).kept D (hnr _ TK);have hE8:=hd.trans I;have hE9:Ext w T:=hE8.grown D hE8.size (λg hg=>by have:=(B g hg).1;omega);refine Vs ?_;refine bu rfl (f7 ho9 (λw10 ho10 l=>p0 (bx ?_)));have hE10:Ext w w10:=hE9.grown l hE9.size TZ;have hsz9:=D.size;have hsz10:=l.size;refine Ui ?_;exact m5 (i+1,.slice co (EZ (kids.take (i+1))).length cc) TJ ⟨h,hE10,by omega,hf9.kept l T3,hr9.kept l T3,ho10,hG9.kept l TK⟩ TP
  .have h:¬i<kids.length:=by simpa using h
   have hik:i=kids.length:=by omega
   subst hik;rw[Q0]at G;obtain⟨co,cc,rfl,Y⟩:=G.sl;have N:(EZ kids).length=kids.length:=by rw[E0,P4]
   have hout:Rd c (λb=>C.heap.size<=b/\b<c.heap.size) (Bi k n co (EZ kids).length cc) (Ltl.mk k n (EZ kids)):=VJ Y;have hN:EY (.mk k n kids)=if k=10 then Ltl.mk 8 0 [.mk 1 0 [],(EZ kids).getD 0 (.mk 0 0 [])]else if k=11 then .mk 9 0 [.mk 2 0 [],(EZ kids).getD 0 (.mk 0 0 [])]else .mk k n (EZ kids):=by simp only[EY]
   rw[hN];have R:k=10\/k=11->0<(EZ kids).length:=by intro hc;rw[N];have h:=W;simp only[MK]at h;have h1:=h.1;unfold Af at h1;rw[Tm TK,Tn TK]at h1;omega
   have fin:∀(J T:World) (F':Nat->Prop) (v:Value) (t':Ltl),Rd J F' v t'->(∀b,F' b->C.heap.size<=b/\b<J.heap.size)->J.grownBy T (some P.heap.size)->Rd T (Nw w T) v t':=by intro J T F' v t' M o hg;exact(M.kept hg (λb a=>⟨(o b a).2,λe=>by have:=R4 e;have:=(o b a).1;omega⟩)).wk (λb a=>⟨by have:=(o b a).1;omega,Rv (o b a).2 hg.size⟩)
   refine UU ?_;cases h10:(k==10)with
   |true=>
    have h10:k=10:=by simpa using h10
    have h0:=R (.inl h10);rw[Tn h10];have d:=mm c;have ho6:=ho5.ext d;have hz5:c.heap.size=(drew c).heap.size:=rfl;have hK:∀x,(λx:World=>SO P.heap.size (drew c) x) x->x.heap[s.heap.size]?=(drew c).heap[s.heap.size]?:=λx L=>L.2 _ TK ho6.lt;refine U4 ?_;refine aG (λx:World=>SO P.heap.size (drew c) x) [Wr 1,Wr 2,Wr 3,Wr 4,Ws 0,Ws 5,Ws 6] mixed TL (VH _ _) (Vn ?_);refine cb (w:=drew c) (F:=λb=>C.heap.size<=b/\b<c.heap.size) (k:=0) (λx L b a=>L.2 b (by have:=a.1;omega) a.2) rfl rfl rfl rfl rfl rfl rfl (Y.up0 d (λb a=>a.2)) h0 TV (λu q hu=>cy rfl (eK (FI (drew c) dh 1) ?_));rintro lf K ⟨O,A⟩;refine p0 (a8 ((VH _ _).ext A) ?_);have V:c.heap.size<=K.heap.size:=A.size;have X:Rd K (λb=>C.heap.size<=b/\b<c.heap.size) u (EZ kids)[0]:=hu.up0 A (λb a=>a.2);refine cy rfl (eK (FJ K (F:=λb=>C.heap.size<=b/\b<c.heap.size) (λb a=>Rv a.2 V) 8 (O.wk λ_ h=>h.elim) X) ?_);rintro v j ⟨M,f⟩;obtain⟨vo,vc,rfl,hkv⟩:=r0 M;refine p0 (a8 (((VH _ _).ext A).ext f) ?_);have U:=f.size;refine cy rfl (f7 (((E.ext d).ext A).ext f) (λJ Z y=>p0 (a8 ((((VH _ _).ext A).ext f).st y) (VK ?_))));have z:=((p.trans d).trans A).trans f;have hgd:(EZ kids).getD 0 (.mk 0 0 [])=(EZ kids)[0]:=by simp[Pl,h0]
    refine Uk ?_;refine e0 Z ⟨?_,z.grown y z.size TZ⟩;rw[hgd];refine fin _ _ _ _ _ M (λb a=>?_) y;obtain a|a:=a
    .exact⟨a.1,by have:=a.2;omega⟩
    .exact⟨by have:=a.1;omega,a.2⟩
   |false=>
   have h10:k≠10:=by simpa using h10
   rw[Tm h10];refine Ul ?_;cases h11:(k==11)with
   |true=>
    have h11:k=11:=by simpa using h11
    have h0:=R (.inr h11);rw[Tn h11];have d:=mm c;have ho6:=ho5.ext d;have hz5:c.heap.size=(drew c).heap.size:=rfl;have hK:∀x,(λx:World=>SO P.heap.size (drew c) x) x->x.heap[s.heap.size]?=(drew c).heap[s.heap.size]?:=λx L=>L.2 _ TK ho6.lt;refine U4 ?_;refine aG (λx:World=>SO P.heap.size (drew c) x) [Wr 1,Wr 2,Wr 3,Wr 4,Ws 0,Ws 5,Ws 6] mixed TL (VH _ _) (Vn ?_);refine cb (w:=drew c) (F:=λb=>C.heap.size<=b/\b<c.heap.size) (k:=0) (λx L b a=>L.2 b (by have:=a.1;omega) a.2) rfl rfl rfl rfl rfl rfl rfl (Y.up0 d (λb a=>a.2)) h0 TV (λu q hu=>cy rfl (eK (FI (drew c) dh 2) ?_));rintro lf K ⟨O,A⟩;refine p0 (a8 ((VH _ _).ext A) ?_);have V:c.heap.size<=K.heap.size:=A.size;have X:Rd K (λb=>C.heap.size<=b/\b<c.heap.size) u (EZ kids)[0]:=hu.up0 A (λb a=>a.2);refine cy rfl (eK (FJ K (F:=λb=>C.heap.size<=b/\b<c.heap.size) (λb a=>Rv a.2 V) 9 (O.wk λ_ h=>h.elim) X) ?_);rintro v j ⟨M,f⟩;obtain⟨vo,vc,rfl,hkv⟩:=r0 M;refine p0 (a8 (((VH _ _).ext A).ext f) ?_);have U:=f.size;refine cy rfl (f7 (((E.ext d).ext A).ext f) (λJ Z y=>p0 (a8 ((((VH _ _).ext A).ext f).st y) (VK ?_))));have z:=((p.trans d).trans A).trans f;have hgd:(EZ kids).getD 0 (.mk 0 0 [])=(EZ kids)[0]:=by simp[Pl,h0]
    refine Uk ?_;refine e0 Z ⟨?_,z.grown y z.size TZ⟩;rw[hgd];refine fin _ _ _ _ _ M (λb a=>?_) y;obtain a|a:=a
    .exact⟨a.1,by have:=a.2;omega⟩
    .exact⟨by have:=a.1;omega,a.2⟩
   |false=>
    have h11:k≠11:=by simpa using h11
    rw[Tm h11];refine U3 ?_;refine f7 E (λK hr6 hg6=>?_);refine Uh ?_;exact e0 hr6 ⟨fin _ _ _ _ _ hout (λb a=>a) hg6,p.grown hg6 p.size TZ⟩
def KX(t:Ltl):Ltl×Int:=if(kD t 1 0).1≠0 then(.mk 0 0 [],(kD t 1 0).1)else(t,0)
def KY(w:World){t:Ltl}(h:Rd w F v t)(hF:∀b,F b->b<w.heap.size):
  Rt Vy 190 [v].toArray w λu w'=>∃x,u=.tuple ⟨[x,Ub (KX t).2]⟩/\Rd w' F x (KX t).1/\Ext w w':=by
 obtain⟨ao,cap,rfl,s⟩:=r0 h;refine dR func190 ntmps190 rfl rfl (UZ ?_);refine eH λp hf j=>?_;refine eC (λo r i=>?_);have hf:=hf.ext i;have a:=j.trans i;refine UD ?_;refine eK (Bg o (s.up0 a hF) (λb A=>Rv (hF b A) a.size)) ?_;rintro _ n ⟨rfl,l⟩;have z:=hf.ext l;have f:=r.ext l;have g:=a.trans l;have q:=j.size;have fin:∀k,n.grownBy k (some p.heap.size)->Ext w k:=λk y=>g.grown y g.size TZ;refine UR ?_;unfold KX;apply ld rfl<;>intro e
 .have e:(kD t 1 0).1≠0:=by simpa using e
  rw[Tn e];refine UZ ?_;refine r4 (parts:=[]) rfl rfl rfl rfl (U9 ?_);refine f7 f (λm d c=>?_);refine UX ?_;exact fG d ⟨_,rfl,VJ (kids:=[]) (v1 _ _),fin _ c⟩
 .have e:(kD t 1 0).1=0:=by simpa using e
  rw[Tm (by simp[e])];refine Uo ?_;refine f7 f (λm d c=>?_);refine Uf ?_;exact fG d ⟨_,rfl,VS h (fin _ c) hF,fin _ c⟩
def EV(t:Ltl):Ltl×Int:=if(kD t 1 0).1≠0 then(.mk 0 0 [],(kD t 1 0).1)else KX (EY t)
def dn(w:World){t:Ltl}{ao:Option Addr}{cap:Nat}(C:Sl w F ao cap t.kids)(hF:∀b,F b->b<w.heap.size):
  Rt Vy 112 [Bi t.k t.n ao t.kids.length cap].toArray w λu w'=>∃x,u=.tuple ⟨[x,Ub (EV t).2]⟩/\Rd w' (Nw w w') x (EV t).1/\Ext w w':=by
 refine dR func112 ntmps112 rfl rfl (UZ ?_);refine eH λP hf l=>?_;refine eC (λz B g=>?_);have hf:=hf.ext g;have d:=l.trans g;have q:∀b,F b->b<z.heap.size:=λb a=>Rv (hF b a) d.size;refine UD ?_;refine eK (Bg z (C.up0 d hF) q) ?_;rintro _ D ⟨rfl,m⟩;have M:=hf.ext m;have j:=B.ext m;have c:=d.trans m;have I:=l.size;have H:=g.size;have K:=B.lt;have G:=m.size;refine UR ?_;unfold EV;apply ld rfl<;>intro h
 .have h:(kD t 1 0).1≠0:=by simpa using h
  rw[Tn h];refine UZ ?_;refine r4 (parts:=[]) rfl rfl rfl rfl (U9 ?_);refine f7 j (λy o p=>?_);refine UX ?_;exact fG o ⟨_,rfl,VJ (kids:=[]) (v1 _ _),c.grown p c.size TZ⟩
 .have h:(kD t 1 0).1=0:=by simpa using h
  rw[Tm (by simp[h])];refine Uo ?_;refine eK (E2 t.nodes t T8 (kK t 1 0 h) D F ao cap (C.up0 c hF) (λb a=>Rv (hF b a) c.size)) ?_;rintro v y ⟨J,s⟩;refine eK (KY y J (λb a=>a.2)) ?_;rintro _ O ⟨x,rfl,A,r⟩;obtain⟨xo,xc,rfl,L⟩:=r0 A;have k:=(c.trans s).trans r;have E:=s.size;have i:=r.size;refine U9 ?_;refine f7 ((j.ext s).ext r) (λN n f=>?_);refine Uf ?_;refine fG n ⟨_,rfl,?_,k.grown f k.size TZ⟩;exact(A.kept f (λb a=>⟨Rv a.2 i,λe=>by have:=R4 e;have:=a.1;omega⟩)).wk (λb a=>⟨by have:=a.1;omega,Rv a.2 (Rr i f.size)⟩)
end Go.Proofs.YtfpjecjadlgdcaaGreatDoor
