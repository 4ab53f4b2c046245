import Derived.Test.YtodmkmobdmcfbaaGreatPtJudgeProves6
set_option linter.unusedVariables false
set_option linter.unusedSimpArgs false
set_option linter.defProp false
namespace Go.Proofs.YtodmkmobdmcfbaaGreat
open Go.RowKit
class IsM(P:Program)(t:TypeId)(k e:outParam TypeId):Prop where
 ok:P.underlying t=some (.map k e)
class IsKy(P:Program)(k:TypeId):Prop where
 ok:WideMaps.KeyLaw P k
theorem IsKy.of{P:Program}{k:TypeId}{d:TypeDesc}(h:laidOutB P=true){m:Nat}(f:Nat.ble (m+1) 10000=true)(a:Nat.ble (k+1) P.types.size=true)(i:P.keyTypeAt m k=true)(c:P.underlying k=some d)(hd:fR d=true):IsKy P k:=
 ⟨deep_law_laid h (MJ f) (Nat.lt_of_succ_le (MJ a)) i (by
  rw[c];cases d<;>first|rfl|(cases hd))⟩
class IsZ0(P:Program)(e:TypeId):Prop where
 ok:(P.info? e).map (fun i=>i.zero)=some (some (.int .i64 0))
def KeyV(P:Program)(k:TypeId)(v:Value):Prop:=∃l,keyOf P k v=some l
def NumM(P:Program)(k:TypeId)(w:World)(b:Nat)(ks:List Value):Prop:=
 ∃(a:Array MapEntry) (clock:Nat),w.heap[b]?=some (.map a clock)∧a.toList.map (·.key)=ks∧(∀(i:Nat) (e:MapEntry),a.toList[i]?=some e→e.val=.int .i64 (i:Int))∧(∀x∈ks,KeyV P k x)∧ks.Nodup
section
variable {P:Program}{k:TypeId}{w w':World}{b:Nat}{ks:List Value}
theorem NumM.lt(h:NumM P k w b ks):b<w.heap.size:=by
 obtain⟨c,clock,a,_⟩:=h;exact(Jw.1 a).1
theorem NumM.at(h:NumM P k w b ks)(a:w'.heap[b]?=w.heap[b]?):NumM P k w' b ks:=by
 obtain⟨c,clock,h1,h2⟩:=h;exact⟨c,clock,a.trans h1,h2⟩
theorem NumM.ext(h:NumM P k w b ks)(a:Ext w w'):NumM P k w' b ks:=h.at (a.block b h.lt)
theorem NumM.kept{row:Option Nat}(h:NumM P k w b ks)(c:w.grownBy w' row)(a:some b≠row):NumM P k w' b ks:=h.at (c.block b h.lt a)
theorem NumM.made(w:World):NumM P k (w.alloc (.map #[] 0)) w.heap.size []:=
 ⟨#[],0,Or w _,rfl,fun i e h=>by simp at h,fun x h=>by simp at h,List.Pairwise.nil⟩
theorem Ei{t e:TypeId}{x:Value}[u:IsM P t k e][r:IsKy P k][E:IsZ0 P e](h:NumM P k w b ks)(f:KeyV P k x):
  (x∉ks∧(Instr.lookup t (.map (some b)) x true).run P w=.ok (.tuple #[.int .i64 0,.bool false]) w)∨
  ∃(j:Nat) (B:j<ks.length),ks[j]=x∧(Instr.lookup t (.map (some b)) x true).run P w=.ok (.tuple #[.int .i64 (j:Int),.bool true]) w:=by
 obtain⟨D,clock,C,a,F,p,G⟩:=h;obtain⟨l,f⟩:=f;obtain⟨i,h1,h2⟩:=Nl.1 E.ok;have o:(zeroValue e).run P w=.ok (.int .i64 0) w:=by simp[zeroValue,typeInfo,h1,h2]
 have c:∀e∈D.toList,∃l,keyOf P k e.key=some l:=fun e s=>p _ (a▸LU.2 ⟨e,s,rfl⟩)
 rcases r.ok.find w f D.toList c with⟨g1,g2⟩|⟨j,H,g1,g2,g3⟩
 ·refine .inl ⟨fun A=>?_,by simp[Instr.lookup,OI u.ok,Mr C,r.ok.check w _ f,g1,o,Result.andThen]⟩
  rw[←a]at A
  obtain⟨e,s,q⟩:=LU.1 A;exact g2 e s q
 ·have B:j<ks.length:=by rw[←a,Lq];exact(KZ.1 g2).1
  refine .inr ⟨j,B,?_,?_⟩
  ·subst a
   rw[La,←g3]
   congr 1
   exact(KZ.1 g2).2
  ·have m:=F j H g2
   simp[Instr.lookup,OI u.ok,Mr C,r.ok.check w _ f,g1,Result.andThen,m]
theorem Ej{t e:TypeId}{x:Value}[G:IsM P t k e][C:IsKy P k](h:NumM P k w b ks)(E:KeyV P k x)(hn:x∉ks):
  ∃w',(Instr.mapUpdate t (.map (some b)) x (.int .i64 (ks.length:Int))).run P w=.ok () w'∧NumM P k w' b (ks++[x])∧w.grownBy w' (some b):=by
 obtain⟨r,clock,B,m,F,s,u⟩:=h;obtain⟨l,o⟩:=E;have p:∀e∈r.toList,∃l,keyOf P k e.key=some l:=fun e f=>s _ (m▸LU.2 ⟨e,f,rfl⟩)
 have H:r.toList.length=ks.length:=by rw[←m,Lq]
 have A:=(Jw.1 B).1;rcases C.ok.find w o r.toList p with⟨g1,g2⟩|⟨j,K,g1,g2,g3⟩
 ·refine⟨_,by simp[Instr.mapUpdate,OI G.ok,Mr B,C.ok.check w false o,g1,Ms _ B,Result.andThen];rfl,?_,?_⟩
  ·refine⟨r.push ⟨x,.int .i64 (ks.length:Int),clock⟩,clock+1,by simp[A],by simp[m],fun i e f=>?_,fun y q=>?_,?_⟩
   ·rw[Array.toList_push]at f
    rcases MR i r.toList.length with hi|hi
    ·rw[KT hi]at f
     exact F i e f
    ·rw[KU hi]at f
     have J:i -r.toList.length=0:=by
      have:=(KZ.1 f).1;simp at this;omega
     rw[J]at f
     simp at f
     subst f;show Value.int .i64 (ks.length:Int)=_
     congr 1;omega
   ·rcases LK.1 q with q|q
    ·exact s y q
    ·rw[L0]at q;subst q;exact⟨l,o⟩
   ·rw[L3]
    refine⟨u,by simp,fun a I c D e=>?_⟩;rw[L0]at D
    subst D;subst e;exact hn I
  ·exact⟨rfl,rfl,rfl,by simp,fun i _ hi=>by
    simp only[JA];rw[Ou (fun e=>hi (by rw[e]))]⟩
 ·exact absurd (m▸LU.2 ⟨K,LW g2,g3⟩) hn
end
section
variable {P:Program}{Q:Exit→Act→World→Prop}{n:Nat}{σ:Sg}{w:World}{L rest:List Oper}{d:Nat}{ty:TypeId}{pos:String}{af:Array Edge}{g:Option (Nat×Bool)}{t k e:TypeId}{b:Nat}{ks:List Value}{x y z:Operand}{v:Value}
theorem fm(o:gd L σ ⟨none,.mapUpdate t x y z,ty,pos,af,g⟩=some true)(j:ev σ x=some (.map (some b)))(i:ev σ y=some v)(c:ev σ z=some (.int .i64 (ks.length:Int)))[p:IsM P t k e][q:IsKy P k]
  (h:NumM P k w b ks) (l:KeyV P k v) (hn:v∉ks)
  (m:∀w',NumM P k w' b (ks++[v])→w.grownBy w' (some b)→WL P L Q rest n σ w'):
  WL P L Q (⟨none,.mapUpdate t x y z,ty,pos,af,g⟩::rest) n σ w:=by
 obtain⟨w',g1,g2,g3⟩:=Ej (t:=t) h l hn;refine fq o (fun a f=>?_) (m w' g2 g3);simp[execOp,f.ev j,f.ev i,f.ev c,g1]
theorem ff(c:gd L σ ⟨some d,.makeMap t none,ty,pos,af,g⟩=some true)(hd:Nat.ble (d+1) n=true)
  (h:NumM P k (w.alloc (.map #[] 0)) w.heap.size []→WL P L Q rest n ((d,.map (some w.heap.size))::σ) (w.alloc (.map #[] 0))):
  WL P L Q (⟨some d,.makeMap t none,ty,pos,af,g⟩::rest) n σ w:=by
 refine WL.run c hd (fun a f=>?_) (h (NumM.made w));simp[execOp,Instr.makeMap]
end
theorem KeyV.pair{P:Program}{k fa fb:TypeId}{x y:Int}(h:(P.keyType k&&Value.formed P k (.agg #[.int .i64 0,.int .i64 0]))=true)
  (i:∀a b:Int,P.keyLits (P.types.size+1) k [.int .i64 a,.int .i64 b]=(if(Lit.int .i64 a).wf=true∧(Lit.int .i64 b).wf=true then some [.int .i64 a,.int .i64 b]else none))
  (hd:∃d,P.underlying k=some (.struct d)) (f:(Lit.int .i64 x).wf=true) (c:(Lit.int .i64 y).wf=true):KeyV P k (.agg ⟨[.int .i64 x,.int .i64 y]⟩):=by
 obtain⟨d,hd⟩:=hd;refine⟨.string (keyBytes [.int .i64 x,.int .i64 y]),?_⟩;unfold keyOf;rw[hd];dsimp only;have hf:Value.formed P k (.agg ⟨[.int .i64 x,.int .i64 y]⟩)=Value.formed P k (.agg #[.int .i64 0,.int .i64 0]):=by
  unfold Value.formed;rw[hd];rfl
 rw[hf,Ov h];show Option.map _ (P.keyLits (P.types.size+1) k [.int .i64 x,.int .i64 y])=_;rw[i,Ov ⟨f,c⟩];rfl
theorem zX{α:Type}{l:List α}(h:l.Nodup){i j:Nat}(hi:i<l.length)(c:j<l.length)(e:l[i]=l[j]):i=j:=by
 have h:=L9.1 h;rcases Nat.lt_trichotomy i j with a|f|a
 ·exact absurd e (h i j hi c a)
 ·exact f
 ·exact absurd e.symm (h j i c hi a)
section
variable {P:Program}{Q:Exit→Act→World→Prop}{n:Nat}{σ:Sg}{w:World}{L rest:List Oper}{d:Nat}{ty:TypeId}{pos:String}{af:Array Edge}{g:Option (Nat×Bool)}{t k e:TypeId}{b:Nat}{ks:List Value}{x y z:Operand}{v:Value}
theorem dy(q:gd L σ ⟨some d,.lookup t x y true,ty,pos,af,g⟩=some true)(hd:Nat.ble (d+1) n=true)(l:ev σ x=some (.map (some b)))(i:ev σ y=some v)[s:IsM P t k e][u:IsKy P k][r:IsZ0 P e]
  (h:NumM P k w b ks) (m:KeyV P k v) (hn:v∉ks) (o:QL P L w Q rest n ((d,.tuple ⟨[Pj 0,.bool false]⟩)::σ)):QL P L w Q (⟨some d,.lookup t x y true,ty,pos,af,g⟩::rest) n σ:=by
 refine QL.run q hd (fun a f w' c=>?_) o;rcases Ei (t:=t) (h.ext c) m with⟨_,g2⟩|⟨j,p,g1,g2⟩
 ·simp[execOp,f.ev l,f.ev i,g2]
 ·exact absurd (g1▸Lb p) hn
theorem dz{j:Nat}(m:j<ks.length)(c:ks[j]=v)(u:gd L σ ⟨some d,.lookup t x y true,ty,pos,af,g⟩=some true)(hd:Nat.ble (d+1) n=true)(q:ev σ x=some (.map (some b)))(p:ev σ y=some v)[B:IsM P t k e][C:IsKy P k][A:IsZ0 P e]
  (h:NumM P k w b ks) (r:KeyV P k v) (s:QL P L w Q rest n ((d,.tuple ⟨[Pj (j:Int),.bool true]⟩)::σ)):QL P L w Q (⟨some d,.lookup t x y true,ty,pos,af,g⟩::rest) n σ:=by
 refine QL.run u hd (fun a o w' f=>?_) s;rcases Ei (t:=t) (h.ext f) r with⟨g1,_⟩|⟨i,hi,g1,g2⟩
 ·exact absurd (c▸Lb m) g1
 ·obtain⟨_,_,_,_,_,_,l⟩:=h
  obtain rfl:i=j:=zX l hi m (g1.trans c.symm);simp[execOp,o.ev q,o.ev p,g2]
end
theorem cg{P:Program}{Q:Exit→Act→World→Prop}{n:Nat}{σ:Sg}{w wc:World}{L:List Oper}{S:World→Prop}{ord:List (Nat×Bool)}{i d:Nat}{ty:TypeId}{pos:String}{af:Array Edge}{g:Option (Nat×Bool)}{t e:TypeId}{x:Operand}{b o k:Nat}{cells vs:List Value}
  (u:∀j,S j→j.heap[b]?=w.heap[b]?) (p:Ac L i=some ⟨some d,.load t x,ty,pos,af,g⟩) (q:gd L σ ⟨some d,.load t x,ty,pos,af,g⟩=some true) (hd:Nat.ble (d+1) n=true) (l:ev σ x=some (.pointer (some ⟨b,o,none⟩))) [A:IsC P t k true] (r:Blk w b e cells) (m:EK cells o k=some vs)
  (h:HL P L S Q ord n ((d,.agg vs.toArray)::σ) wc):HL P L S Q ((i,true)::ord) n σ wc:=by
 refine HL.run p q hd (fun a s w' c=>?_) h;have f:Blk w' b e cells:=(u w' c).trans r;simp[execOp,s.ev l,D8 (P:=P) (t:=t) w' f m]
def Fz(w:World)(M:Nat→Prop):Nat→Prop:=fun b=>b<w.heap.size∧¬M b
section
variable {α:Type}[Rep α]
theorem Fz.keep{w w':World}{M M':Nat→Prop}(c:Chg M w w')(d:∀b,M' b→M b∨w.heap.size≤b):(∀b,Fz w M b→w'.heap[b]?=w.heap[b]?)∧∀b,Fz w M b→Fz w' M' b:=
 ⟨fun b a=>c.block b a.1 a.2,fun b a=>⟨MQ a.1 c.size,fun h=>(d b h).elim a.2 (fun h=>absurd a.1 OS)⟩⟩
theorem Rd.fz{w w':World}{M M':Nat→Prop}{v:Value}{x:α}(h:Rd w (Fz w M) v x)(c:Chg M w w')(a:∀b,M' b→M b∨w.heap.size≤b):Rd w' (Fz w' M') v x:=h.mono (Fz.keep c a).1 (Fz.keep c a).2
theorem Sl.fz{w w':World}{M M':Nat→Prop}{ao:Option Addr}{cap:Nat}{xs:List α}(h:Sl w (Fz w M) ao cap xs)(c:Chg M w w')(a:∀b,M' b→M b∨w.heap.size≤b):Sl w' (Fz w' M') ao cap xs:=h.mono (Fz.keep c a).1 (Fz.keep c a).2
theorem Sl.old'{w:World}{M:Nat→Prop}{ao:Option Addr}{cap:Nat}{xs:List α}(h:Sl w (Fz w M) ao cap xs):Sl w (c9 w) ao cap xs:=h.mono Pc fun _ h=>h.1
theorem Chg.of_ext{w w':World}(M:Nat→Prop)(h:Ext w w'):Chg M w w':=⟨h.os,h.tape,h.output,h.size,fun k a _=>h.block k a⟩
theorem Chg.trans{M:Nat→Prop}{a b c:World}(h:Chg M a b)(k:Chg M b c):Chg M a c:=
 ⟨k.os.trans h.os,k.tape.trans h.tape,k.output.trans h.output,MN h.size k.size,fun i hi hn=>(k.block i (MQ hi h.size) hn).trans (h.block i hi hn)⟩
theorem Chg.then{M M':Nat→Prop}{a b c:World}(h:Chg M a b)(k:Chg M' b c)(e:∀i,M' i→M i∨a.heap.size≤i):Chg M a c:=
 ⟨k.os.trans h.os,k.tape.trans h.tape,k.output.trans h.output,MN h.size k.size,fun i hi hn=>(k.block i (MQ hi h.size) (fun d=>(e i d).elim hn OS)).trans (h.block i hi hn)⟩
theorem Chg.wk{M M':Nat→Prop}{a b:World}(h:Chg M a b)(d:∀i,M i→M' i):Chg M' a b:=⟨h.os,h.tape,h.output,h.size,fun i hi hn=>h.block i hi (fun c=>hn (d i c))⟩
theorem Chg.of_grown{w w':World}{row:Option Nat}(a:w.grownBy w' row):Chg (fun b=>row=some b) w w':=(Chg.refl _ w).grown a fun g h=>h
structure InnR(w:World)(M:Nat→Prop)(vs:List Raw)(xs:List (List α)):Prop where
 len:vs.length=xs.length
 el:∀i (h:i<vs.length) (h':i<xs.length),Rd w (Fz w M) vs[i].v xs[i]
theorem InnR.nil{w:World}{M:Nat→Prop}:InnR w M [] ([]:List (List α)):=⟨rfl,fun i h=>absurd h OW⟩
theorem InnR.to{w w':World}{M M':Nat→Prop}{vs:List Raw}{xs:List (List α)}(h:InnR w M vs xs)(c:Chg M w w')(a:∀b,M' b→M b∨w.heap.size≤b):InnR w' M' vs xs:=⟨h.len,fun i h1 h2=>(h.el i h1 h2).fz c a⟩
theorem InnR.push{w:World}{M:Nat→Prop}{vs:List Raw}{xs:List (List α)}{v:Value}{x:List α}(h:InnR w M vs xs)(a:Rd w (Fz w M) v x):InnR w M (vs++[(⟨v⟩:Raw)]) (xs++[x]):=by
 refine⟨by simp[h.len],fun i h1 h2=>?_⟩;rcases MR i vs.length with hi|hi
 ·rw[K6 hi,K6 (by rw[←h.len];exact hi)]
  exact h.el i hi _
 ·have b:=h.len
  obtain rfl:i=vs.length:=by simp at h1;omega
  rw[K7 Pf,K7 OS];simp only[b,M8,K9];exact a
theorem InnR.sl{w:World}{M F:Nat→Prop}{B:Nat}{e:TypeId}{v:Value}{vs:List Raw}{xs:List (List α)}(h:InnR w M vs xs)(l:Own w B e c7 v vs)(hF:∀b,Fz w M b→F b)(j:∀g,v.ownBlock=some g→F g):∃ao cap,v=.slice ao xs.length cap∧Sl w F ao cap xs:=by
 obtain⟨ao,cap,e,c⟩:=l.slF (F':=F) O6 j;refine⟨ao,cap,by rw[←h.len];exact e,⟨by rw[←h.len];exact c.le,c.mx,c.nil,fun i hi=>?_⟩⟩;have a:i<vs.length:=by rw[h.len];exact hi
 obtain⟨b,off,o,f,p,m,k⟩:=c.el i a;obtain⟨rfl,h1⟩:=k;obtain⟨io,ic,n,d⟩:=(h.el i a hi).sl;exact⟨b,off,o,f,[vs[i].v],m,io,ic,by rw[n],d.mono Pc hF⟩
theorem InnR.old{w:World}{M:Nat→Prop}{B:Nat}{e:TypeId}{v:Value}{vs:List Raw}{xs:List (List α)}(h:InnR w M vs xs)(a:Own w B e c7 v vs):∃ao cap,v=.slice ao xs.length cap∧Sl w (c9 w) ao cap xs:=
 h.sl a (fun _ h=>h.1) (fun g b=>(a.lt g b).2.1)
end
instance sM:IsM Tryz.prog 168 174 3:=⟨Tryz.underlying168⟩
instance sN:IsC Tryz.prog 168 1 false:=IsC.of OT Tryz.underlying168 rfl
instance sO:IsZ0 Tryz.prog 3:=⟨by kernel_rfl⟩
theorem nz:laidOutB Tryz.prog=true:=by kernel_rfl
instance sP:IsKy Tryz.prog 174:=IsKy.of (m:=2) nz OU OT OT NF rfl
abbrev BS(p:dg):Value:=.agg ⟨[.int .i64 p.1,.int .i64 p.2]⟩
def dO(p:dg):Prop:=0≤p.1∧p.1<4096∧0≤p.2∧p.2<4096
theorem BU{p:dg}(h:dO p):KeyV Tryz.prog 174 (BS p):=by
 obtain⟨h1,h2,h3,h4⟩:=h;refine KeyV.pair (fa:=3) (fb:=3) OT (fun a b=>?_) ⟨_,NF⟩ ?_ ?_
 ·obtain⟨s,c⟩:∃s,Tryz.prog.types.size=s+1:=by
   have:Nat.ble 1 Tryz.prog.types.size=true:=by kernel_rfl
   have:=MJ this;exact⟨Tryz.prog.types.size -1,by omega⟩
  have d:Tryz.prog.cellsOf 3=1:=by kernel_rfl
  have e:∀(x:Int),Tryz.prog.keyLits (s+1) 3 [.int .i64 x]=if(Lit.int .i64 x).wf=true then some [.int .i64 x]else none:=fun x=>by
   rw[Nr];simp only[NM];by_cases h:(Lit.int .i64 x).wf=true<;>simp[h]
  rw[c,Nr];simp only[NF];rw[Ov ⟨by kernel_rfl,by kernel_rfl⟩];simp only[LA,LB,d,KC,Mo,Mq,KB,e];by_cases h1:(Lit.int .i64 a).wf=true<;>by_cases h2:(Lit.int .i64 b).wf=true<;>simp[h1,h2]
 ·simp[Lit.wf,IntKind.min,IntKind.max,IntKind.signed,IntKind.bits];omega
 ·simp[Lit.wf,IntKind.min,IntKind.max,IntKind.signed,IntKind.bits];omega
theorem BT{p q:dg}(h:BS p=BS q):p=q:=by
 obtain⟨a,b⟩:=p;obtain⟨c,d⟩:=q;simp[BS]at h
 exact Prod.ext h.1 h.2
structure EA where
 a1:Option Addr
 c1:Nat
 a2:Option Addr
 c2:Nat
 a3:Option Addr
 c3:Nat
 a4:Option Addr
 c4:Nat
 k1:Option Addr
 d1:Nat
 k2:Option Addr
 d2:Nat
 k3:Option Addr
 d3:Nat
 k4:Option Addr
 d4:Nat
 k5:Option Addr
 d5:Nat
 W:cQ
 A:cG
abbrev mS(e:EA)(mb:Nat)(lv nv fv:Value):List Value:=[.slice e.a1 e.W.1.length e.c1,.slice e.a2 e.W.2.1.length e.c2,.slice e.a3 e.W.2.2.1.length e.c3,.slice e.a4 e.W.2.2.2.length e.c4,.slice e.k1 e.A.1.length e.d1,.slice e.k2 e.A.2.1.length e.d2,.slice e.k3 e.A.2.2.1.length e.d3,.slice e.k4 e.A.2.2.2.1.length e.d4,.slice e.k5 e.A.2.2.2.2.length e.d5,.map (some mb),lv,nv,fv]
structure EIn(w:World)(F:Nat→Prop)(e:EA):Prop where
 h1:Sl w F e.a1 e.c1 e.W.1
 h2:Sl w F e.a2 e.c2 e.W.2.1
 h3:Sl w F e.a3 e.c3 e.W.2.2.1
 h4:Sl w F e.a4 e.c4 e.W.2.2.2
 g1:Sl w F e.k1 e.d1 e.A.1
 g2:Sl w F e.k2 e.d2 e.A.2.1
 g3:Sl w F e.k3 e.d3 e.A.2.2.1
 g4:Sl w F e.k4 e.d4 e.A.2.2.2.1
 g5:Sl w F e.k5 e.d5 e.A.2.2.2.2
theorem EIn.to{w w':World}{F F':Nat→Prop}{e:EA}(h:EIn w F e)(a:∀b,F b→w'.heap[b]?=w.heap[b]?)(hF:∀b,F b→F' b):EIn w' F' e:=
 ⟨h.h1.mono a hF,h.h2.mono a hF,h.h3.mono a hF,h.h4.mono a hF,h.g1.mono a hF,h.g2.mono a hF,h.g3.mono a hF,h.g4.mono a hF,h.g5.mono a hF⟩
def pJ(e:EA)(p:dg):Bool:=pI e.A.2.2.1 e.A.2.2.2.1 p.2.toNat (e.W.2.2.1.getD p.1.toNat 0)
def InE(e:EA)(p:dg):Prop:=(0≤p.1∧p.1<(e.W.2.1.length:Int))∧0≤p.2∧p.2<(e.A.2.1.length:Int)
structure OkE(e:EA):Prop where
 wn:e.W.2.1.length≤600
 an:e.A.2.1.length≤2048
 lb:e.W.2.2.1.length=e.W.2.1.length
 mu:e.A.2.2.1.length=e.A.2.1.length
 no:e.A.2.2.2.1.length=e.A.2.1.length
theorem InE.sm{e:EA}{p:dg}(a:OkE e)(h:InE e p):dO p:=by
 obtain⟨⟨h1,h2⟩,h3,h4⟩:=h;have:=a.wn;have:=a.an;exact⟨h1,by omega,h3,by omega⟩
structure Em(w:World)(B:Nat)(e:EA)(sb mb:Nat)(lv nv fv:Value)(ps:List dg):Prop where
 blk:Blk w sb 171 (mS e mb lv nv fv)
 num:NumM Tryz.prog 174 w mb (ps.map BS)
 lo:Own w B 174 c7 lv ps
 inn:EIn w (fun b=>b<B) e
 ge:B≤sb∧B≤mb
 ne:sb≠mb
 nl:∀g,lv.ownBlock=some g→g≠sb∧g≠mb
 nd:ps.Nodup
 ins:∀p∈ps,InE e p
 ok:OkE e
theorem Em.ext{w w':World}{B:Nat}{e:EA}{sb mb:Nat}{lv nv fv:Value}{ps:List dg}(h:Em w B e sb mb lv nv fv ps)(d:B≤w.heap.size)(a:Ext w w'):Em w' B e sb mb lv nv fv ps:=
 ⟨h.blk.ext a,h.num.ext a,h.lo.extN a,h.inn.to (fun b c=>a.block b (MQ c d)) O8,h.ge,h.ne,h.nl,h.nd,h.ins,h.ok⟩
theorem Em.len{w:World}{B:Nat}{e:EA}{sb mb:Nat}{lv nv fv:Value}{ps:List dg}(h:Em w B e sb mb lv nv fv ps):ps.length≤1228800:=by
 have h1:=zW h.nd h.ins;have h2:=MV h.ok.wn h.ok.an;omega
def ny(sb mb:Nat)(lv:Value):Nat→Prop:=fun b=>b=sb∨b=mb∨lv.ownBlock=some b
set_option maxHeartbeats 2000000 in
theorem mU(w0:World){B:Nat}{e:EA}{sb mb:Nat}{lv nv fv:Value}{ps:List dg}{p:dg}(h:Em w0 B e sb mb lv nv fv ps)(hB:B≤w0.heap.size)(hp:InE e p):
  Rt Tryz.prog 157 [.pointer (some ⟨sb,0,none⟩),BS p].toArray w0 fun v w'=>∃lv',v=.int .i64 (if pJ e p=true then(ps.idxOf p:Int)else -1)∧Em w' B e sb mb lv' nv fv (if pJ e p=true then fM ps p else ps)∧
   Chg (ny sb mb lv) w0 w'∧(∀g,lv'.ownBlock=some g→lv.ownBlock=some g∨w0.heap.size≤g):=by
 obtain⟨x,y,rfl⟩:∃x y:Nat,p=((x:Int),(y:Int)):=⟨p.1.toNat,p.2.toNat,by
  obtain⟨⟨p1,p2⟩,p3,p4⟩:=hp;exact Prod.ext (by show p.1=((p.1.toNat:Nat):Int);omega) (by show p.2=((p.2.toNat:Nat):Int);omega)⟩
 have K:=BU (hp.sm h.ok);have hlen:=h.len;have R:BS ((x:Int),(y:Int))∈ps.map BS↔((x:Int),(y:Int))∈ps:=by
  rw[LU];exact⟨fun⟨q,h1,h2⟩=>by rw[←BT h2];exact h1,fun h=>⟨_,h,rfl⟩⟩
 refine dH Tryz.func157 Tryz.ntmps157 rfl rfl ?_;refine Pm ?_;refine dZ rfl rfl rfl fun Q E e1=>?_
 have h1:=h.ext hB e1;have m:=h1.blk;have z1:=e1.size;have l3:=E.lt;obtain⟨lo,lc,rfl⟩:=h.lo.val;have N:=h.ok;have hxl:x<e.W.2.2.1.length:=by have:=hp.1.2;have:=N.lb;dsimp only at*;omega
 have hym:y<e.A.2.2.1.length:=by have:=hp.2.2;have:=N.mu;dsimp only at*;omega
 have hyn:y<e.A.2.2.2.1.length:=by have:=hp.2.2;have:=N.no;dsimp only at*;omega
 have hI:=h1.inn.to (F':=c9 Q) Pc (fun b o=>(show b<Q.heap.size by omega));have hfe:pJ e ((x:Int),(y:Int))=pI e.A.2.2.1 e.A.2.2.2.1 y e.W.2.2.1[x]:=by
  unfold pJ;dsimp only;rw[Kd,Kd,KR,KX hxl];rfl
 have hSE:∀z,(fun z:World=>Ext Q z) z→Ext Q z:=fun _ h=>h
 generalize hpp:(((x:Int),(y:Int)):dg)=pp at*
 have hp1:pp.1=(x:Int):=by rw[←hpp]
 have hp2:pp.2=(y:Int):=by rw[←hpp]
 refine Qw ?_;refine aF (fun z=>Ext Q z) [(0,true),(1,true),(2,true),(3,true),(4,true),(5,true),(6,true),(7,true),(8,true),(9,true),(10,true),(11,true),(12,true),(13,true),(14,true),(15,false),(16,true)] mixed OT (Ext.drew Q) ?_;refine Q9 ?_;rw[hp1,hp2];refine b_ (α:=Nat) (k:=x) hSE rfl rfl rfl rfl rfl rfl rfl O8 hI.h3 hxl O3 (fun u q hu=>?_);obtain⟨rfl,hu64⟩:=hu.u64;skip;have hd:=Ext.drew Q;refine cu rfl (WL.call rfl rfl rfl (bL (drew Q) (hI.g3.at hd) (hI.g4.at hd) y e.W.2.2.1[x] hym hyn hu64) ?_);rintro _ w2 ⟨rfl,e2⟩
 have e2:=hd.trans e2;refine WL.nil (a_ e2 ?_);rw[←hfe];refine Rf ?_;have M:=e1.trans e2;by_cases C:pJ e pp=true
 case neg=>
  have C:pJ e pp=false:=by simpa using C
  rw[C];refine Qr ?_;exact be rfl rfl ⟨.slice lo ps.length lc,rfl,by simpa using h.ext hB M,⟨M.os,M.tape,M.output,M.size,fun b o _=>M.block b o⟩,fun g w=>.inl w⟩
 rw[C,Ov rfl,Ov rfl];apply bx;refine aw rfl ?_;apply CW.skip;apply bx;have h2:=h.ext hB M;have T:=E.ext e2;have hz2:=M.size;refine aA [(0,.pointer (some ⟨sb,0,none⟩)),(3,.pointer (some ⟨w0.heap.size,0,none⟩)),(5,.int .i64 (if pp∈ps then(ps.idxOf pp:Int)else 0)),(6,.bool (decide (pp∈ps)))] ?_ (fun s e3=>?_)
 ·have m:=h2.blk
  by_cases c:pp∈ps
  ·rw[Ov c,Ol c]
   obtain⟨j,hj,hjm⟩:=LT.1 c;have W:ps.idxOf pp=j:=by rw[←hjm];exact h.nd.idxOf_getElem j hj
   rw[W];refine QM ?_;refine dz (j:=j) (by simpa using hj) (by rw[La,hjm]) rfl rfl rfl rfl h2.num K ?_;refine QP ?_;refine QL.nil (fun s e3=>?_);exact aT OR e3
  ·rw[Ou c,Oj c]
   refine QM ?_;refine dy rfl rfl rfl rfl h2.num K (fun h=>c (R.1 h)) ?_;refine QP ?_;refine QL.nil (fun s e3=>?_);exact aT OR e3
 have A:=M.trans e3;have h3:=h.ext hB A;have E:=T.ext e3;have hz3:=A.size;have d:Chg (ny sb mb (.slice lo ps.length lc)) w0 s:=⟨A.os,A.tape,A.output,A.size,fun b o _=>A.block b o⟩;clear h1 m hI hSE T h2 e2 e1 M hd;by_cases c:pp∈ps
 ·rw[Ov c,Ol c,show fM ps pp=ps from Ov c]
  refine QF ?_;exact be rfl rfl ⟨.slice lo ps.length lc,rfl,h3,d,fun g w=>.inl w⟩
 rw[Ou c,Oj c,show fM ps pp=ps++[pp] from Ou c];have W:=vr c;have m:=h3.blk;have hmb0:=h.num.lt;have hsb0:=h.blk.lt;have J:=h.lo.lt;have O:=h.ne;have t:=h.nl;have hl3x:=E.lt;rw[W];have f:Ext s (drew s):=Ext.drew s;have i:=m.ext f;have n:=E.ext f;have P:∀u,(fun x:World=>x.heap[w0.heap.size]?=(drew s).heap[w0.heap.size]?∧x.heap[sb]?=(drew s).heap[sb]?) u→u.heap[w0.heap.size]?=(drew s).heap[w0.heap.size]?:=fun _ h=>h.1
 have hKs:∀u,(fun x:World=>x.heap[w0.heap.size]?=(drew s).heap[w0.heap.size]?∧x.heap[sb]?=(drew s).heap[sb]?) u→u.heap[sb]?=(drew s).heap[sb]?:=fun _ h=>h.2
 refine Qq ?_;refine aF (fun x:World=>x.heap[w0.heap.size]?=(drew s).heap[w0.heap.size]?∧x.heap[sb]?=(drew s).heap[sb]?) [(0,true),(1,true),(2,true),(3,true),(4,true),(5,true),(6,false)] mixed OT ⟨rfl,rfl⟩ ?_;refine Q7 ?_;refine cg P rfl rfl rfl rfl n rfl ?_;refine Q3 ?_;refine cu rfl (fm (ks:=ps.map BS) rfl rfl rfl (by simp[ev,fnd,Lq]) (h3.num.ext f) K (fun h=>c (R.1 h)) (fun r V l=>?_));have hzd:=f.size;refine WL.nil (a_ ⟨?_,?_⟩ (HL.nil ?_))
 ·exact l.block _ OS Pa
 ·exact l.block _ OS (fun e=>O (Nn e))
 have hz4:=l.size;have L:=i.kept l (fun e=>O (Nn e));have S:=n.kept l Pa;have hlo4:=(h3.lo.extN f).keptN l (fun g w e=>(t g w).2 (Nn e));have G:Chg (ny sb mb (.slice lo ps.length lc)) w0 r:=(⟨f.os.trans d.os,f.tape.trans d.tape,f.output.trans d.output,MN d.size f.size,fun b o hn=>(f.block b (MQ o d.size)).trans (d.block b o hn)⟩:Chg _ w0 (drew s)).grown l (fun g w=>by cases w;exact .inr (.inl rfl));clear i n P hKs f hzd l m E;have f:Ext r (drew r):=Ext.drew r;have i:=L.ext f;have n:=S.ext f;have hlsb:=L.lt;have hl3:=S.lt;have P:∀u,(fun x:World=>x.heap[w0.heap.size]?=(drew r).heap[w0.heap.size]?∧x.heap[sb]?=(drew r).heap[sb]?) u→u.heap[w0.heap.size]?=(drew r).heap[w0.heap.size]?:=fun _ h=>h.1
 have hKs:∀u,(fun x:World=>x.heap[w0.heap.size]?=(drew r).heap[w0.heap.size]?∧x.heap[sb]?=(drew r).heap[sb]?) u→u.heap[sb]?=(drew r).heap[sb]?:=fun _ h=>h.2
 have hzd:=f.size;refine Pn ?_;refine aE (fun x:World=>x.heap[w0.heap.size]?=(drew r).heap[w0.heap.size]?∧x.heap[sb]?=(drew r).heap[sb]?) [(0,true),(1,true),(2,true),(3,true),(4,true),(5,true),(6,false),(7,false),(8,false),(9,false)] 10 mixed OT ⟨rfl,rfl⟩ ?_;refine Q7 ?_;refine cg P rfl rfl rfl rfl n rfl ?_;refine bV (α:=Int×Int) (F:=c7) (bytes:=16) (yv:=pp) rfl rfl rfl rfl O3 rfl rfl O3 (hlo4.extN f) (Rd.mkPr (c1:=[.int .i64 pp.1]) (c2:=[.int .i64 pp.2]) (C2 _ _ _) (C2 _ _ _)) OS O6 OU OY OS
  (fun z hz=>⟨hz.block _ OS (fun e=>by have:=J _ e.symm;omega),hz.block _ OS (fun e=>(t _ e.symm).1 rfl)⟩) (fun cl w5 q5 ho5 D I=>?_)
 obtain⟨lo',lc',rfl⟩:=ho5.val;have Z:=i.kept D (fun e=>(t _ e.symm).1 rfl);have U:=(V.ext f).kept D (fun e=>(t _ e.symm).2 rfl);have hS5:w5.heap[w0.heap.size]?=(drew r).heap[w0.heap.size]?∧w5.heap[sb]?=(drew r).heap[sb]?:=⟨D.block _ OS (fun e=>by have:=J _ e.symm;omega),D.block _ OS (fun e=>(t _ e.symm).1 rfl)⟩;refine cu rfl (fi rfl rfl rfl (WL.nil (a_ hS5 ?_)));refine cu rfl (eI rfl rfl rfl (WL.nil (a_ hS5 (HL.nil ?_))));refine bm rfl (WL.st rfl rfl rfl Z rfl rfl Pd (fun w6 Y X=>WL.nil (bp ?_)));have hlo6:=ho5.keptN X (fun g w e=>by
  rcases I g w with h|h
  ·exact(t g h).1 (Nn e)
  ·have:=Nn e;omega)
 have H:=U.kept X (fun e=>O (Nn e).symm);have hC5:=(⟨f.os.trans G.os,f.tape.trans G.tape,f.output.trans G.output,MN G.size f.size,fun b o hn=>(f.block b (MQ o G.size)).trans (G.block b o hn)⟩:Chg (ny sb mb (.slice lo ps.length lc)) w0 (drew r)).grown D (fun g w=>.inr (.inr w));have hC6:=hC5.grown X Pb;have hz5:=D.size;rw[show ps.map BS++[BS pp]=(ps++[pp]).map BS by simp]at H
 have hge:=h.ge;have hSb:∀b,ny sb mb (.slice lo ps.length lc) b→B≤b:=fun b o=>by
  rcases o with h'|h'|h'
  ·omega
  ·omega
  ·exact(J b h').1
 refine P7 ?_;refine be rfl rfl ⟨.slice lo' (ps++[pp]).length lc',rfl,⟨Y,H,hlo6,h.inn.to (fun b o=>hC6.block b OS (fun hs=>by have:=hSb b hs;omega)) O8,hge,O,fun g w=>?_,?_,fun q hq=>?_,N⟩,hC6,fun g w=>?_⟩
 ·rcases I g w with h|h
  ·exact t g h
  ·exact⟨by omega,by omega⟩
 ·rw[L3]
  refine⟨h.nd,Ma _ _,fun a ha b o e'=>?_⟩;rw[L0]at o
  exact c (by rw[←o,←e'];exact ha)
 ·rcases LK.1 hq with hq|hq
  ·exact h.ins q hq
  ·rw[L0]at hq;rw[hq];exact hp
 ·rcases I g w with h|h
  ·exact .inl h
  ·exact .inr OS
theorem Em.chg{S:Nat→Prop}{w w':World}{B:Nat}{e:EA}{sb mb:Nat}{lv nv fv:Value}{ps:List dg}(h:Em w B e sb mb lv nv fv ps)(d:B≤w.heap.size)(a:Chg S w w')(hS:∀b,S b→B≤b∧b≠sb∧b≠mb∧lv.ownBlock≠some b):Em w' B e sb mb lv nv fv ps:=
 ⟨(a.block sb h.blk.lt (fun k=>(hS _ k).2.1 rfl)).trans h.blk,h.num.at (a.block mb h.num.lt (fun k=>(hS _ k).2.2.1 rfl)),h.lo.chg a (fun b c k=>(hS b k).2.2.2 c),h.inn.to (fun b c=>a.block b (MQ c d) (fun k=>by have:=(hS b k).1;omega)) O8,h.ge,h.ne,h.nl,h.nd,h.ins,h.ok⟩
structure CrI(w0 w:World)(B:Nat)(e:EA)(sb mb:Nat)(lv0 lv ov nv fv:Value)(ps:List dg)(out:List Int):Prop where
 em:Em w B e sb mb lv nv fv ps
 own:Own w w0.heap.size 3 c7 ov out
 chg:Chg (ny sb mb lv0) w0 w
 new:∀g,lv.ownBlock=some g→lv0.ownBlock=some g∨w0.heap.size≤g
 dis:∀g,ov.ownBlock=some g→lv.ownBlock≠some g
theorem Bw{x:Int}{l k:List Int}:Bv (x::l) k=(k.map fun y=>(x,y))++Bv l k:=rfl
theorem Bx(l k:List Int):(Bv l k).length=l.length*k.length:=by
 unfold Bv
 induction l with
 |nil=>simp
 |cons x r a=>rw[KO,Lk,a,Lq,Ll,Nat.succ_mul];omega
set_option maxHeartbeats 2000000 in
theorem lB(w0:World){B:Nat}{e:EA}{sb mb:Nat}{lv nv fv:Value}{ps:List dg}{lo ko:Option Addr}{W kc:Nat}{l k:List Int}(h:Em w0 B e sb mb lv nv fv ps)(hB:B≤w0.heap.size)(K:Sl w0 (fun b=>b<B) lo W l)(hk:Sl w0 (fun b=>b<B) ko kc k)
  (okl:AG e.W.2.1.length l) (okk:AG e.A.2.1.length k) (Z:l.length≤1048576) (hkn:k.length≤1048576):
  Rt Tryz.prog 87 [Pk sb,.slice lo l.length W,.slice ko k.length kc].toArray w0 fun v w'=>∃lv',CrI w0 w' B e sb mb lv lv' v nv fv (CB (pJ e) (Bv l k) ps []).1 (CB (pJ e) (Bv l k) ps []).2:=by
 have hT:(Bv l k).length≤1099511627776:=by rw[Bx];exact MV Z hkn
 have hge:=h.ge;have hsb0:=h.blk.lt;have hmb0:=h.num.lt;have N:=h.lo.lt;have V:∀b,ny sb mb lv b→B≤b:=fun b m=>by
  rcases m with o|o|o
  ·omega
  ·omega
  ·exact(N b o).1
 generalize hG:CB (pJ e) (Bv l k) ps []=G at*
 refine dI Tryz.func87 Tryz.ntmps87 rfl rfl ?_;refine Qp ?_;refine CW.loop (S:=Nat×Value×Value×List dg×List Int) (fun s=>[(0,Pk sb),(2,.slice ko k.length kc),(7,s.2.2.1),(13,.slice lo l.length W),(14,Pj l.length),(15,Pj s.1)])
  (fun s w=>s.1≤l.length∧CB (pJ e) (Bv (l.drop s.1) k) s.2.2.2.1 s.2.2.2.2=G∧CrI w0 w B e sb mb lv s.2.1 s.2.2.1 nv fv s.2.2.2.1 s.2.2.2.2∧s.2.2.2.2.length+(Bv (l.drop s.1) k).length≤(Bv l k).length)
  (fun s=>l.length -s.1) (0,lv,.slice none 0 0,ps,[]) OR ⟨Nc _,hG,⟨h,Own.nil,Chg.refl _ _,fun g f=>.inl f,fun g f=>by cases f⟩,by simp⟩ ?_
 rintro⟨i,lv1,ov,ps1,out⟩ z ⟨hi,a,c,n⟩
 dsimp only at hi a c n⊢
 refine Qw ?_;apply CW.cond rfl<;>intro U
 ·have u:i<l.length:=by simp at U;omega
  rw[Ky u,Bw]at a n
  have P:=K.mono (w':=z) (fun b m=>c.chg.block b OS (fun H=>by have:=V b H;omega)) (F':=c9 z) (fun b m=>by have:=c.chg.size;exact(show b<z.heap.size by omega));have Y:=okl _ (Lb u);refine Qo ?_;refine eD rfl rfl rfl rfl rfl P u rfl O3 (fun q=>?_);generalize l[i]=x at*
  generalize hR:Bv (l.drop (i+1)) k=R at*
  refine Qp ?_;refine CW.loop (S:=Nat×Value×Value×List dg×List Int) (fun s=>[(0,Pk sb),(2,.slice ko k.length kc),(7,s.2.2.1),(9,Pj x),(13,.slice lo l.length W),(14,Pj l.length),(15,Pj i),(19,.slice ko k.length kc),(20,Pj k.length),(21,Pj s.1)])
   (fun s w=>s.1≤k.length∧CB (pJ e) (((k.drop s.1).map fun y=>(x,y))++R) s.2.2.2.1 s.2.2.2.2=G∧CrI w0 w B e sb mb lv s.2.1 s.2.2.1 nv fv s.2.2.2.1 s.2.2.2.2∧s.2.2.2.2.length+(k.length -s.1)+R.length≤(Bv l k).length)
   (fun s=>k.length -s.1) (0,lv1,ov,ps1,out) OR ⟨Nc _,a,c,by simp only[Lk,Lq]at n;dsimp only;omega⟩ ?_
  clear a c n P;rintro⟨j,lv1,ov,ps1,out⟩ z ⟨hj,a,c,n⟩
  dsimp only at hj a c n⊢
  have z1:=c.chg.size;refine Qw ?_;apply CW.cond rfl<;>intro U
  ·have r:j<k.length:=by simp at U;omega
   rw[Ky r,LE,Km,CB]at a
   have hk1:=hk.mono (w':=z) (fun b m=>c.chg.block b OS (fun H=>by have:=V b H;omega)) (F':=c9 z) (fun b m=>(show b<z.heap.size by omega));have X:=okk _ (Lb r);refine Qo ?_;refine eD rfl rfl rfl rfl rfl hk1 r rfl O3 (fun q=>?_);generalize k[j]=y at*
   have hin:InE e (x,y):=⟨Y,X⟩;refine Qw ?_;refine WL.build rfl rfl rfl rfl ?_;have D:=mU z c.em OS hin;rw[show BS (x,y)=.agg [Pj x,Pj y].toArray from rfl]at D
   refine WL.call rfl rfl rfl D ?_;rintro _ w2 ⟨lv2,rfl,t,J,M⟩
   have C:=fun g f=>c.own.lt g f
   have hll1:=fun g f=>c.em.lo.lt g f
   have z2:=J.size;have p:=c.own.chg J (fun b m H=>by
    have:=C b m;rcases H with o|o|o
    ·omega
    ·omega
    ·exact c.dis b m o)
   have E:Chg (ny sb mb lv) w0 w2:=c.chg.then J (fun b H=>by
    rcases H with o|o|o
    ·exact .inl (.inl o)
    ·exact .inl (.inr (.inl o))
    ·exact(c.new b o).imp (fun h=>.inr (.inr h)) id)
   have A:∀g,lv2.ownBlock=some g→lv.ownBlock=some g∨w0.heap.size≤g:=fun g f=>(M g f).elim (c.new g) (fun h=>.inr OS)
   have I:∀g,ov.ownBlock=some g→lv2.ownBlock≠some g:=fun g f K=>(M g K).elim (c.dis g f) (fun h=>by have:=(C g f).2;omega)
   by_cases hf:pJ e (x,y)=true
   ·rw[Ov hf]at a t
    rw[Ov hf];have Q:decide (((ps1.idxOf (x,y):Nat):Int)≥0)=true:=Ol OS;refine Qb ?_;rw[Q];skip;refine dY (α:=Int) (F:=c7) (bytes:=8) (yv:=((ps1.idxOf (x,y):Nat):Int)) rfl rfl O3 rfl rfl O3 p Pe OS O6 OU OY OS (fun ov' w3 q ho3 T L=>?_);have O:=fun g f=>t.lo.lt g f
    have d:=fun g f=>p.lt g f
    have hE3:=t.chg OS (Chg.of_grown T) (fun b m=>⟨by have:=(d b m).1;omega,by have:=(d b m).1;omega,by have:=(d b m).1;omega,I b m⟩);refine PI ?_;exact EX.back (j+1,lv2,ov',_,_) OR ⟨r,a,⟨hE3,ho3,E.then (Chg.of_grown T) (fun b m=>.inr (d b m).1),A,fun g f K=>(L g f).elim (fun h=>I g h K) (fun h=>by have:=(O g K).2.1;omega)⟩,by simp;omega⟩ OX
   ·rw[Ou hf]at a t
    rw[Ou hf];refine QF ?_;exact EX.back (j+1,lv2,ov,_,_) OR ⟨r,a,⟨t,p,E,A,I⟩,by dsimp only;omega⟩ OX
  ·obtain rfl:j=k.length:=by simp at U;omega
   rw[KA,LH,L2]at a
   refine PJ ?_;exact EX.back (i+1,lv1,ov,ps1,out) OR ⟨u,by rw[hR];exact a,c,by dsimp only;rw[hR];omega⟩ OX
 ·obtain rfl:i=l.length:=by simp at U;omega
  rw[KA]at a
  have a:(ps1,out)=G:=a;subst a;refine PG ?_;exact be rfl rfl ⟨lv1,c⟩
instance sQ:IsT Tryz.prog 61 Raw:=IsT.of OT NX rfl
instance sR:IsZ Tryz.prog 61 (⟨.slice none 0 0⟩:Raw) 24:=IsZ.of (z:=.slice none 0 0) OT (fun _ _=>⟨rfl,rfl⟩)
theorem C4{w:World}{F:Nat→Prop}{v:Value}{x:dg}(h:Rd w F v x):v=BS x:=by
 obtain⟨c1,c2,rfl,h1,h2⟩:=h.pr;rw[C0 h1,C0 h2];rfl
theorem nU(w:World)(p:dg):Rt Tryz.prog 160 [BS p].toArray w fun v w'=>v=Pj p.1∧Ext w w':=by
 refine dG Tryz.func160 Tryz.ntmps160 rfl rfl ?_;refine Pm ?_;refine dZ rfl rfl rfl fun c a b=>?_
 refine Qn ?_;exact be rfl rfl ⟨rfl,b⟩
theorem nW(w:World)(p:dg):Rt Tryz.prog 161 [BS p].toArray w fun v w'=>v=Pj p.2∧Ext w w':=by
 refine dG Tryz.func161 Tryz.ntmps161 rfl rfl ?_;refine Pm ?_;refine dZ rfl rfl rfl fun c a b=>?_
 refine Qn ?_;exact be rfl rfl ⟨rfl,b⟩
set_option maxHeartbeats 1000000 in
theorem nK(w0:World){b1 f sb B2 n:Nat}{x0 x1 x2 x3 x4 x5 x6 x7 x8 x9 x11 x12 ov ofv:Value}{lo fo:Option Addr}{lc fc:Nat}{ps:List dg}{Fl:List Int}{vs:List Raw}{xs:List (List Bool)}{of:dg→Int}
  (hb1:Blk w0 b1 167 [Pk sb]) (hb:Blk w0 sb 171 [x0,x1,x2,x3,x4,x5,x6,x7,x8,x9,.slice lo ps.length lc,x11,x12]) (hbo:Blk w0 f 124 [ov]) (hn:Own w0 B2 61 c7 ov vs) (hB:B2≤w0.heap.size)
  (inn:InnR w0 (fun b=>b=f∨ov.ownBlock=some b) vs xs) (U:Sl w0 (c9 w0) lo lc ps) (hfr:Sl w0 (c9 w0) fo fc Fl) (hok:AG n Fl) (hnn:n≤1099511627776)
  (hof:∀w p,p∈ps→FnV Tryz.prog ofv [BS p] w fun v w'=>v=Pj (of p)∧Ext w w') (X:∀p∈ps,0≤of p∧of p<n) (hps:ps.length≤1228800) (hxs:xs.length≤4096) (Q:∀g,ov.ownBlock=some g→g≠f):
  Rt Tryz.prog 159 [.slice fo Fl.length fc,ofv,Pj (n:Int),Pk b1,Pk f].toArray w0 fun v w'=>∃ov' vs',Blk w' f 124 [ov']∧Own w' B2 61 c7 ov' vs'∧
   InnR w' (fun b=>b=f∨ov'.ownBlock=some b) vs' (xs++[ps.map fun p=>decide (of p∈Fl)])∧Chg (fun b=>b=f∨ov.ownBlock=some b) w0 w'∧∀g,ov'.ownBlock=some g→ov.ownBlock=some g∨w0.heap.size≤g:=by
 have hfl:=hfr.len63;have hll:=U.len63;have hlbo:=hbo.lt;refine dK Tryz.func159 Tryz.ntmps159 rfl rfl ?_;refine PB ?_;refine eY (α:=Bool) rfl rfl rfl rfl OS OY (fun w1 ho1 hg1=>?_);have hE1:Ext w0 w1:=(JJ _ _).grown hg1 Pf O_;generalize hsv:Value.slice (some ⟨w0.heap.size,0,none⟩) n n=sv at*
 refine Qp ?_;refine CW.loop (S:=Nat×List Bool) (fun s=>[(1,ofv),(3,Pk b1),(4,Pk f),(8,sv),(16,.slice fo Fl.length fc),(17,Pj Fl.length),(18,Pj s.1)])
  (fun s w=>s.1≤Fl.length∧Own w w0.heap.size 4 c7 sv s.2∧s.2.length=n∧(∀c:Nat,c<n→(s.2.getD c false=true↔(c:Int)∈Fl.take s.1))∧Ext w0 w) (fun s=>Fl.length -s.1) (0,List.replicate n false) OR
  ⟨Nc _,ho1,by simp,fun c B=>by simp[K2,B],hE1⟩ ?_
 clear ho1 hg1 hE1;rintro⟨i,il⟩ w ⟨hi,O,Y,hr,G⟩
 dsimp only at hi O Y hr⊢
 refine Qw ?_;apply CW.cond rfl<;>intro h
 ·have A:i<Fl.length:=by simp at h;omega
  have hxr:=hok _ (Lb A);have htk:Fl.take (i+1)=Fl.take i++[Fl[i]]:=Mp A;refine Qo ?_;refine eD rfl rfl rfl rfl rfl (hfr.up G) A rfl O3 (fun q=>?_);generalize Fl[i]=x at*
  obtain⟨c0,rfl⟩:=J9 hxr.1;refine PP ?_;refine fu (u:=.bool true) (yv:=true) rfl rfl rfl rfl O (show c0<il.length by omega) O3 O3 (Rd.mkBool _ _ _) (fun w4 q2 ho4 r=>?_);have hE4:Ext w0 w4:=G.grown r G.size (fun b hb=>(O.lt b hb).1);refine PI ?_;refine EX.back (i+1,il.set c0 true) OR ⟨A,ho4,by simpa using Y,fun c B=>?_,hE4⟩ OX;dsimp only;rw[ri OS,htk,LK,L0];by_cases e:c0=c
  ·subst e;simp
  ·rw[Ou e,hr c B]
   exact⟨.inl,fun h=>h.resolve_right (fun h=>e OS)⟩
 obtain rfl:i=Fl.length:=by simp at h;omega
 clear h hi;rw[Ml]at hr
 have hbit:∀p∈ps,∀c:Nat,of p=(c:Int)→il.getD c false=decide (of p∈Fl):=fun p hp c B=>by
  have h1:=X p hp;rw[JO,hr c OS,B];simp
 have t:=hb1.ext G;have K:=hb.ext G;have hzw:=G.size;have hltw:=fun g d=>O.lt g d
 obtain⟨mo,mc,rfl,hms⟩:=O.oldN.sl;refine PX ?_;refine eY (α:=Bool) rfl rfl rfl rfl OS OY (fun w2 ho2 Z=>?_);have D:Ext w w2:=(JJ _ _).grown Z Pf O_;generalize hsv2:Value.slice (some ⟨w.heap.size,0,none⟩) ps.length ps.length=sv2 at*
 have t:=t.ext D;have K:=K.ext D;refine QH ?_;refine CW.loop (S:=Nat×List Bool) (fun s=>[(1,ofv),(4,Pk f),(8,.slice mo il.length mc),(11,sv2),(35,.slice lo ps.length lc),(36,Pj ps.length),(37,Pj s.1)])
  (fun s u=>s.1≤ps.length∧Own u w.heap.size 4 c7 sv2 s.2∧s.2.length=ps.length∧(∀c:Nat,c<s.1→s.2.getD c false=decide (of (ps.getD c (0,0))∈Fl))∧Ext w u) (fun s=>ps.length -s.1) (0,List.replicate ps.length false) OR
  ⟨Nc _,ho2,by simp,fun c B=>absurd B OW,D⟩ ?_
 clear ho2 Z D t K;rintro⟨j,sl⟩ w3 ⟨hj,ho3,I,m,C⟩
 dsimp only at hj ho3 I m⊢
 refine Qw ?_;apply CW.cond rfl<;>intro h
 ·have z:j<ps.length:=by simp at h;omega
  clear h;have J:=Lb z;have hpg:ps.getD j (0,0)=ps[j]:=by rw[KR,KX z];rfl
  have hip:=X _ J;refine Qv ?_;refine eE (i:=j) rfl rfl rfl rfl rfl (U.up (G.trans C)) z O3 (fun u q hu=>?_);rw[C4 hu];clear hu;generalize ps[j]=p at*
  skip;refine WL.alloc rfl rfl (fun w4 hb4 e4=>?_);refine QO ?_;refine WL.st rfl rfl rfl hb4 rfl rfl Pd (fun w5 hb5 l=>?_);have e5:Ext w3 w5:=JH e4 l e4.size O5;clear l e4 hb4;refine Qm ?_;refine d8 rfl rfl rfl rfl (hof w5 p J) ?_;rintro _ w6 ⟨rfl,e6⟩
  have e36:=e5.trans e6;have L:=C.trans e36;have ho6:=ho3.extN e36;obtain⟨k,hk⟩:∃k:Nat,of p=(k:Int):=⟨(of p).toNat,by omega⟩;have hkn:k<n:=by omega
  have hbk:=hbit p J k hk;rw[hk];skip;refine eC rfl rfl rfl rfl rfl (hms.up L) (i:=k) OS (y:=decide (of p∈Fl)) (by rw[←hbk,KR,KX OS];rfl) O3 (fun q=>?_);refine fu (yv:=decide (of p∈Fl)) rfl rfl rfl rfl ho6 (show j<sl.length by omega) O3 O3 (Rd.mkBool _ _ _) (fun w7 q2 ho7 hg7=>?_);have hE7:Ext w w7:=L.grown hg7 L.size (fun b hb=>(ho6.lt b hb).1);refine PI ?_;refine EX.back (j+1,sl.set j (decide (of p∈Fl))) OR ⟨z,ho7,by simpa using I,fun c B=>?_,hE7⟩ OX;dsimp only at B⊢
  rw[ri OS];by_cases e:j=c
  ·subst e;rw[Ov rfl,hpg]
  ·rw[Ou e];exact m c OS
 obtain rfl:j=ps.length:=by simp at h;omega
 have M:sl=ps.map fun p=>decide (of p∈Fl):=by
  refine KE (by rw[Lq];exact I) fun i h1 h2=>?_
  have h3:i<ps.length:=by omega
  have h4:=m i h3;rw[KR,KX h1,KR,KX h3]at h4
  rw[La];exact h4
 subst M;have a:=G.trans C;have hbo3:=hbo.ext a;have R:=hn.extN a;have hz3:=C.size;obtain⟨so,sc,rfl⟩:=ho3.val;have E:=fun g d=>ho3.lt g d
 have T:=fun g d=>hn.lt g d
 have hcsl:=inn.len;obtain⟨vo,vc,rfl⟩:=R.val;refine Qc ?_;refine dY (α:=Raw) (F:=c7) (bytes:=24) (yv:=(⟨.slice so (ps.map fun p=>decide (of p∈Fl)).length sc⟩:Raw)) rfl rfl O3 rfl rfl O3 R (Rd.mkRaw _ _ _ rfl) OS O6 OU OY OS (fun nv' w4 q ho4 r o=>?_);obtain⟨nvo,nvc,rfl⟩:=ho4.val;have hbo4:=hbo3.kept r (fun e=>Q _ e.symm rfl);have z4:=r.size;skip;refine WL.st rfl rfl rfl hbo4 rfl rfl Pd (fun w5 hb5 l=>?_);have z5:=l.size;have P:∀g,(Value.slice nvo (vs++[(⟨.slice so (ps.map fun p=>decide (of p∈Fl)).length sc⟩:Raw)]).length nvc).ownBlock=some g→g≠f:=fun g d=>by
  rcases o g d with h|h
  ·exact Q g h
  ·omega
 have ho5:=ho4.keptN l (fun g d e=>P g d (Nn e));have N:Rd w3 (Fz w3 (fun b=>b=f∨Value.ownBlock (.slice vo vs.length vc)=some b)) (.slice so (ps.map fun p=>decide (of p∈Fl)).length sc) (ps.map fun p=>decide (of p∈Fl)):=
  ho3.rd.mono Pc (fun g d=>d.elim (fun h=>h.elim) (fun d=>⟨(E g d).2.1,fun h=>by
   have h1:=(E g d).1;rcases h with h|h
   ·omega
   ·have:=(T g h).2.1;omega⟩))
 have W:=(inn.to (Chg.of_ext _ a) (fun b h=>.inl h)).push N;have H:Chg (fun b=>b=f∨Value.ownBlock (.slice vo vs.length vc)=some b) w3 w5:=((Chg.of_grown r).wk (fun b h=>.inr h)).grown l Pb;have V:=W.to H (M':=fun b=>b=f∨(Value.slice nvo (vs++[(⟨.slice so (ps.map fun p=>decide (of p∈Fl)).length sc⟩:Raw)]).length nvc).ownBlock=some b) (fun b h=>by
  rcases h with h|h
  ·exact .inl (.inl h)
  ·exact(o b h).imp .inr id)
 have hC5:=(Chg.of_ext (fun b=>b=f∨Value.ownBlock (.slice vo vs.length vc)=some b) a).trans H;refine QB ?_;exact aV rfl ⟨_,_,hb5,ho5,V,hC5,fun g d=>(o g d).imp id (fun h=>by have:=a.size;omega)⟩
def Fi(W:List Int×List (List Int)×List Nat×List (List Int))(A:cG)(ps:List dg):List (List Bool):=W.2.2.2.map (fun F=>ps.map fun p=>decide (p.1∈F))++A.2.2.2.2.map fun F=>ps.map fun p=>decide (p.2∈F)
set_option maxHeartbeats 2000000 in
theorem nX(w0:World){B:Nat}{e:EA}{sb mb:Nat}{lv nv fv:Value}{ps:List dg}(h:Em w0 B e sb mb lv nv fv ps)(hB:B≤w0.heap.size)(U:∀r∈e.W.2.2.2,AG e.W.2.1.length r)(T:∀r∈e.A.2.2.2.2,AG e.A.2.1.length r)
  (hl1:e.W.2.2.2.length≤80) (hl2:e.A.2.2.2.2.length≤80):
  Rt Tryz.prog 89 [Pk sb].toArray w0 fun v w'=>∃so sc,v=.slice so (Fi e.W e.A ps).length sc∧Sl w' (c9 w') so sc (Fi e.W e.A ps)∧Ext w0 w':=by
 have L:=h.ok;have hwn:=L.wn;have han:=L.an;have J:=h.len;have Y:=h.blk.lt;obtain⟨lo,X,rfl⟩:=h.lo.val;obtain⟨lo',lc',V,R⟩:=h.lo.oldN.sl;have V:=N5 V;obtain⟨rfl,-,rfl⟩:=V;refine dG Tryz.func89 Tryz.ntmps89 rfl rfl ?_;refine Pm ?_;refine dZ rfl rfl rfl fun w1 o Z=>?_
 have l10:=o.lt;refine Qw ?_;refine WL.alloc rfl rfl (fun t P W=>?_);have o:=o.ext W;have x:=Z.trans W;have z1:=Z.size;have z2:=W.size;have l1:=o.lt;have l3:=P.lt;generalize hbo:w1.heap.size=k at*
 generalize Q:w0.heap.size=b1 at*
 have G:b1<k:=by omega
 have M:=R.mono (w':=t) (fun b f=>x.block b f) (F':=fun b=>b<b1) (fun b f=>by rw[←Q];exact f);have N:=h.inn.to (w':=t) (fun b f=>x.block b OS) (F':=fun b=>b<b1) (fun b f=>by omega);have E:=h.blk.ext x;have j:∀{w:World},Chg (fun b=>b=k) t w→(∀b,b<k→w.heap[b]?=t.heap[b]?)∧t.heap.size≤w.heap.size:=fun {w} c=>⟨fun b f=>c.block b OS OS,c.size⟩
 have O:∀{w:World},Chg (fun b=>b=k) t w→Blk w b1 167 [Pk sb]∧Blk w sb 171 (mS e mb (.slice lo ps.length X) nv fv)∧Sl w (c9 w) lo X ps∧EIn w (c9 w) e:=fun {w} c=>
  ⟨(j c).1 b1 G|>.trans o,((j c).1 sb OS).trans E,M.mono (fun b f=>(j c).1 b OS) (fun b f=>by have:=(j c).2;exact(show b<w.heap.size by omega)),N.to (fun b f=>(j c).1 b OS) (fun b f=>by have:=(j c).2;exact(show b<w.heap.size by omega))⟩
 refine Qq ?_;refine CW.loop (S:=Nat×Value×List Raw) (fun s=>[(1,Pk b1),(3,Pk k),(4,.func (.func 159) [].toArray [Pk b1,Pk k].toArray),(14,.slice e.a4 e.W.2.2.2.length e.c4),(15,Pj e.W.2.2.2.length),(16,Pj s.1)])
  (fun s w=>s.1≤e.W.2.2.2.length∧Blk w k 124 [s.2.1]∧Own w t.heap.size 61 c7 s.2.1 s.2.2∧InnR w (fun b=>b=k∨s.2.1.ownBlock=some b) s.2.2 ((e.W.2.2.2.take s.1).map fun F=>ps.map fun p=>decide (p.1∈F))∧Chg (fun b=>b=k) t w)
  (fun s=>e.W.2.2.2.length -s.1) (0,.slice none 0 0,[]) OR ⟨Nc _,P,Own.nil,InnR.nil,Chg.refl _ _⟩ ?_
 rintro⟨i,ov,vs⟩ w ⟨hi,a,hn,inn,c⟩
 dsimp only at hi a hn inn c⊢
 obtain⟨kb1,kblk,klo,kin⟩:=O c;have kz:=(j c).2;have klt:=fun g C=>hn.lt g C
 refine Qw ?_;apply CW.cond rfl<;>intro h
 ·have d:i<e.W.2.2.2.length:=by simp at h;omega
  have D:=U _ (Lb d);have y:(e.W.2.2.2.take (i+1)).map (fun F=>ps.map fun p=>decide (p.1∈F))=(e.W.2.2.2.take i).map (fun F=>ps.map fun p=>decide (p.1∈F))++[ps.map fun p=>decide (p.1∈e.W.2.2.2[i])]:=by
   rw[Mj,KX d,LC];rfl
  refine Qo ?_;refine eE rfl rfl rfl rfl rfl kin.h4 d O3 (fun u q I=>?_);obtain⟨ro,rc,rfl,l⟩:=I.sl;clear I;generalize e.W.2.2.2[i]=F at*
  refine QH ?_;refine d9 (fv:=[]) rfl rfl rfl rfl (nK w (n:=e.W.2.1.length) (of:=Prod.fst) kb1 kblk a hn kz inn klo l D OS (fun w p K=>FnV.mk (cs:=[]) (nU w p)) (fun p K=>(‹Em w0 B e sb mb _ nv fv ps›.ins p K).1) J (by rw[Lq,Lz];omega) (fun g C=>by have:=(klt g C).1;omega)) ?_;rintro _ w' ⟨ov',vs',m,A,inn4,H,z⟩
  rw[←y]at inn4
  refine PI ?_;exact EX.back (i+1,ov',vs') OR ⟨d,m,A,inn4,c.then H (fun b f=>f.imp id (fun f=>(klt b f).1))⟩ OX
 obtain rfl:i=e.W.2.2.2.length:=by simp at h;omega
 rw[Ml]at inn
 clear h hi;refine Qc ?_;refine CW.loop (S:=Nat×Value×List Raw) (fun s=>[(1,Pk b1),(3,Pk k),(4,.func (.func 159) [].toArray [Pk b1,Pk k].toArray),(34,.slice e.k5 e.A.2.2.2.2.length e.d5),(35,Pj e.A.2.2.2.2.length),(36,Pj s.1)])
  (fun s w=>s.1≤e.A.2.2.2.2.length∧Blk w k 124 [s.2.1]∧Own w t.heap.size 61 c7 s.2.1 s.2.2∧InnR w (fun b=>b=k∨s.2.1.ownBlock=some b) s.2.2 ((e.W.2.2.2.map fun F=>ps.map fun p=>decide (p.1∈F))++(e.A.2.2.2.2.take s.1).map fun F=>ps.map fun p=>decide (p.2∈F))∧Chg (fun b=>b=k) t w)
  (fun s=>e.A.2.2.2.2.length -s.1) (0,ov,vs) OR ⟨Nc _,a,hn,by simpa using inn,c⟩ ?_
 clear a hn inn c kb1 kblk klo kin kz klt;rintro⟨i,ov,vs⟩ w ⟨hi,a,hn,inn,c⟩
 dsimp only at hi a hn inn c⊢
 obtain⟨kb1,kblk,klo,kin⟩:=O c;have kz:=(j c).2;have klt:=fun g C=>hn.lt g C
 refine Qw ?_;apply CW.cond rfl<;>intro h
 ·have d:i<e.A.2.2.2.2.length:=by simp at h;omega
  have D:=T _ (Lb d);have y:(e.A.2.2.2.2.take (i+1)).map (fun F=>ps.map fun p=>decide (p.2∈F))=(e.A.2.2.2.2.take i).map (fun F=>ps.map fun p=>decide (p.2∈F))++[ps.map fun p=>decide (p.2∈e.A.2.2.2.2[i])]:=by
   rw[Mj,KX d,LC];rfl
  refine Qo ?_;refine eE rfl rfl rfl rfl rfl kin.g5 d O3 (fun u q I=>?_);obtain⟨ro,rc,rfl,l⟩:=I.sl;clear I;generalize e.A.2.2.2.2[i]=F at*
  refine QH ?_;refine d9 (fv:=[]) rfl rfl rfl rfl (nK w (n:=e.A.2.1.length) (of:=Prod.snd) kb1 kblk a hn kz inn klo l D OS (fun w p K=>FnV.mk (cs:=[]) (nW w p)) (fun p K=>(‹Em w0 B e sb mb _ nv fv ps›.ins p K).2) J (by rw[Lk,Lq,Lq,Lz];omega) (fun g C=>by have:=(klt g C).1;omega)) ?_;rintro _ w' ⟨ov',vs',m,A,inn4,H,z⟩
  rw[Kj,←y]at inn4
  refine PI ?_;exact EX.back (i+1,ov',vs') OR ⟨d,m,A,inn4,c.then H (fun b f=>f.imp id (fun f=>(klt b f).1))⟩ OX
 obtain rfl:i=e.A.2.2.2.2.length:=by simp at h;omega
 rw[Ml]at inn
 obtain⟨so,sc,rfl,hs⟩:=inn.old hn;refine Qc ?_;exact be rfl rfl ⟨so,sc,rfl,hs,Chg.ext x c (fun b f=>by omega)⟩
class IsKx(P:Program)(k:TypeId):Prop where
 ok:Go.Maps.Keyed P k
theorem IsKx.int{P:Program}{k:TypeId}(h:P.underlying k=some (.int .i64)):IsKx P k:=⟨Go.Maps.int_keyed h⟩
theorem KeyV.int{P:Program}{k:TypeId}(h:P.underlying k=some (.int .i64)){x:Int}(a: -9223372036854775808≤x∧x≤9223372036854775807):KeyV P k (.int .i64 x):=by
 refine⟨.int .i64 x,?_⟩;unfold keyOf;rw[h];dsimp only;unfold mapKey;rw[h];dsimp only;rw[Ov ⟨rfl,by simp[Lit.wf,IntKind.min,IntKind.max,IntKind.signed,IntKind.bits];omega⟩]
def MapI(P:Program)(k:TypeId)(w:World)(b:Nat)(kv:List (Value×Value)):Prop:=
 ∃(a:Array MapEntry) (clock:Nat),w.heap[b]?=some (.map a clock)∧a.toList.map (fun e=>(e.key,e.val))=kv∧(∀x∈kv,KeyV P k x.1)∧(kv.map Prod.fst).Nodup
section
variable {P:Program}{k:TypeId}{w w':World}{b:Nat}{kv:List (Value×Value)}
theorem MapI.lt(h:MapI P k w b kv):b<w.heap.size:=by
 obtain⟨c,clock,a,_⟩:=h;exact(Jw.1 a).1
theorem MapI.at(h:MapI P k w b kv)(a:w'.heap[b]?=w.heap[b]?):MapI P k w' b kv:=by
 obtain⟨c,clock,h1,h2⟩:=h;exact⟨c,clock,a.trans h1,h2⟩
theorem MapI.ext(h:MapI P k w b kv)(a:Ext w w'):MapI P k w' b kv:=h.at (a.block b h.lt)
theorem MapI.kept{row:Option Nat}(h:MapI P k w b kv)(c:w.grownBy w' row)(a:some b≠row):MapI P k w' b kv:=h.at (c.block b h.lt a)
theorem MapI.made(w:World):MapI P k (w.alloc (.map #[] 0)) w.heap.size []:=
 ⟨#[],0,Or w _,rfl,fun x h=>by simp at h,List.Pairwise.nil⟩
theorem Ec{t e:TypeId}{x:Value}[r:IsM P t k e][o:IsKx P k][F:IsZ0 P e](h:MapI P k w b kv)(m:KeyV P k x):
  (x∉kv.map Prod.fst∧(Instr.lookup t (.map (some b)) x true).run P w=.ok (.tuple #[.int .i64 0,.bool false]) w)∨
  ∃(j:Nat) (E:j<kv.length),kv[j].1=x∧(Instr.lookup t (.map (some b)) x true).run P w=.ok (.tuple #[kv[j].2,.bool true]) w∧(Instr.lookup t (.map (some b)) x false).run P w=.ok kv[j].2 w:=by
 obtain⟨p,clock,C,a,s,G⟩:=h;obtain⟨l,m⟩:=m;obtain⟨i,h1,h2⟩:=Nl.1 F.ok;have q:(zeroValue e).run P w=.ok (.int .i64 0) w:=by simp[zeroValue,typeInfo,h1,h2]
 have c:∀e∈p.toList,∃l,keyOf P k e.key=some l:=fun e B=>s (e.key,e.val) (a▸LU.2 ⟨e,B,rfl⟩)
 rcases o.ok.find w m p.toList c with⟨g1,g2⟩|⟨j,I,g1,g2,g3⟩
 ·refine .inl ⟨fun D=>?_,by simp[Instr.lookup,OI r.ok,Mr C,o.ok.check w _ m,g1,q,Result.andThen]⟩
  rw[←a,LG]at D
  obtain⟨e,B,A⟩:=LU.1 D;exact g2 e B A
 ·have E:j<kv.length:=by rw[←a,Lq];exact(KZ.1 g2).1
  have H:j<p.toList.length:=(KZ.1 g2).1;have f:p.toList[j]=I:=(KZ.1 g2).2;subst a;refine .inr ⟨j,E,?_,?_,?_⟩
  ·rw[La,←g3,f]
  ·rw[La,f]
   simp[Instr.lookup,OI r.ok,Mr C,o.ok.check w _ m,g1,Result.andThen]
  ·rw[La,f]
   simp[Instr.lookup,OI r.ok,Mr C,o.ok.check w _ m,g1,Result.andThen]
theorem Ee{t e:TypeId}{x y:Value}[F:IsM P t k e][C:IsKx P k](h:MapI P k w b kv)(E:KeyV P k x)(hn:x∉kv.map Prod.fst):
  ∃w',(Instr.mapUpdate t (.map (some b)) x y).run P w=.ok () w'∧MapI P k w' b (kv++[(x,y)])∧w.grownBy w' (some b):=by
 obtain⟨B,clock,A,o,q,r⟩:=h;obtain⟨l,f⟩:=E;have m:∀e∈B.toList,∃l,keyOf P k e.key=some l:=fun e G=>q (e.key,e.val) (o▸LU.2 ⟨e,G,rfl⟩)
 have s:=(Jw.1 A).1;rcases C.ok.find w f B.toList m with⟨g1,g2⟩|⟨j,I,g1,g2,g3⟩
 ·refine⟨_,by simp[Instr.mapUpdate,OI F.ok,Mr A,C.ok.check w false f,g1,Ms _ A,Result.andThen];rfl,?_,?_⟩
  ·refine⟨B.push ⟨x,y,clock⟩,clock+1,by simp[s],by simp[o],fun z p=>?_,?_⟩
   ·rcases LK.1 p with p|p
    ·exact q z p
    ·rw[L0]at p;subst p;exact⟨l,f⟩
   ·rw[LC,L3]
    refine⟨r,by simp,fun a H c D e=>?_⟩;simp at D
    subst D;subst e;exact hn H
  ·exact⟨rfl,rfl,rfl,by simp,fun i _ hi=>by
    simp only[JA];rw[Ou (fun e=>hi (by rw[e]))]⟩
 ·refine absurd ?_ hn
  rw[←o,LG];exact LU.2 ⟨I,LW g2,g3⟩
end
section
variable {P:Program}{Q:Exit→Act→World→Prop}{n:Nat}{σ:Sg}{w:World}{L rest:List Oper}{d:Nat}{ty:TypeId}{pos:String}{af:Array Edge}{g:Option (Nat×Bool)}{t k e:TypeId}{b:Nat}{kv:List (Value×Value)}{x y z:Operand}{v u:Value}
theorem e_(m:gd L σ ⟨some d,.lookup t x y true,ty,pos,af,g⟩=some true)(hd:Nat.ble (d+1) n=true)(i:ev σ x=some (.map (some b)))(f:ev σ y=some v)[q:IsM P t k e][r:IsKx P k][p:IsZ0 P e]
  (h:MapI P k w b kv) (o:KeyV P k v)
  (h1:v∉kv.map Prod.fst→WL P L Q rest n ((d,.tuple ⟨[.int .i64 0,.bool false]⟩)::σ) w)
  (h2:∀(j:Nat) (l:j<kv.length),kv[j].1=v→WL P L Q rest n ((d,.tuple ⟨[kv[j].2,.bool true]⟩)::σ) w):
  WL P L Q (⟨some d,.lookup t x y true,ty,pos,af,g⟩::rest) n σ w:=by
 rcases Ec (t:=t) h o with⟨g1,g2⟩|⟨j,l,g1,g2,_⟩
 ·refine WL.run m hd (fun a c=>?_) (h1 g1)
  simp[execOp,c.ev i,c.ev f,g2]
 ·refine WL.run m hd (fun a c=>?_) (h2 j l g1)
  simp[execOp,c.ev i,c.ev f,g2]
theorem fd{j:Nat}(m:j<kv.length)(c:kv[j].1=v)(A:gd L σ ⟨some d,.lookup t x y false,ty,pos,af,g⟩=some true)(hd:Nat.ble (d+1) n=true)(q:ev σ x=some (.map (some b)))(p:ev σ y=some v)[C:IsM P t k e][D:IsKx P k][B:IsZ0 P e]
  (h:MapI P k w b kv) (r:KeyV P k v)
  (s:WL P L Q rest n ((d,kv[j].2)::σ) w):WL P L Q (⟨some d,.lookup t x y false,ty,pos,af,g⟩::rest) n σ w:=by
 have f:(kv.map Prod.fst).Nodup:=by obtain⟨_,_,_,_,_,h⟩:=h;exact h
 rcases Ec (t:=t) h r with⟨g1,g2⟩|⟨i,hi,g1,_,g3⟩
 ·exact absurd (LU.2 ⟨kv[j],Lb m,c⟩) g1
 ·have l:i=j:=by
   have h1:(kv.map Prod.fst)[i]'(by simpa using hi)=(kv.map Prod.fst)[j]'(by simpa using m):=by simp[g1,c]
   exact(List.getElem_inj f).1 h1
  subst l;refine WL.run A hd (fun a o=>?_) s;simp[execOp,o.ev q,o.ev p,g3]
theorem fh(o:gd L σ ⟨none,.mapUpdate t x y z,ty,pos,af,g⟩=some true)(j:ev σ x=some (.map (some b)))(i:ev σ y=some v)(c:ev σ z=some u)[p:IsM P t k e][q:IsKx P k]
  (h:MapI P k w b kv) (l:KeyV P k v) (hn:v∉kv.map Prod.fst)
  (m:∀w',MapI P k w' b (kv++[(v,u)])→w.grownBy w' (some b)→WL P L Q rest n σ w'):
  WL P L Q (⟨none,.mapUpdate t x y z,ty,pos,af,g⟩::rest) n σ w:=by
 obtain⟨w',g1,g2,g3⟩:=Ee (t:=t) (y:=u) h l hn;refine fq o (fun a f=>?_) (m w' g2 g3);simp[execOp,f.ev j,f.ev i,f.ev c,g1]
theorem fg(c:gd L σ ⟨some d,.makeMap t none,ty,pos,af,g⟩=some true)(hd:Nat.ble (d+1) n=true)
  (h:MapI P k (w.alloc (.map #[] 0)) w.heap.size []→WL P L Q rest n ((d,.map (some w.heap.size))::σ) (w.alloc (.map #[] 0))):
  WL P L Q (⟨some d,.makeMap t none,ty,pos,af,g⟩::rest) n σ w:=by
 refine WL.run c hd (fun a f=>?_) (h (MapI.made w));simp[execOp,Instr.makeMap]
end
open Go.Shelf
def Dm:Ren:=⟨fun _=>164,fun x=>if Nat.beq x 3=true then 3 else if Nat.beq x 4=true then 4 else if Nat.beq x 28=true then 38 else 0,fun x=>x⟩
set_option maxRecDepth 100000 in
theorem Dl:Lays.n112 Tryz.prog Dm where
 mixed:=by kernel_rfl
 f112:=(Tryz.func164).trans OT
 t0:=by kernel_rfl
 a0:=fun w=>rfl
 z0:=fun w=>rfl
 v0:=fun w=>rfl
 t3:=NM
 a3:=Nz
 z3:=NB
 v3:=Tryz.zeroValue3
 t4:=NS
 a4:=Tryz.isAgg4
 z4:=Tryz.sizeOf4
 v4:=Tryz.zeroValue4
 t28:=NR
 a28:=Tryz.isAgg38
 z28:=Tryz.sizeOf38
 v28:=Tryz.zeroValue38
theorem nt{w:World}{F:Nat→Prop}{cells:List Value}{xs:List Int}(h:Elems w F cells xs):cells=xs.map fun x=>Pj x:=by
 refine KE (by rw[Lq,h.1];show _*1=_;omega) fun i h1 h2=>?_
 rw[Lq]at h2
 have h3:=h.2 i h2;have b:sz Int=1:=rfl;rw[b,MY]at h3
 have h4:=C0 h3;have a:=Oh (fun l:List Value=>l[0]?) h4;simp only[K5 (show 0<1 by omega),KW,Mz,KX h1]at a
 simpa using a
theorem nu(w:World)(F:Nat→Prop):∀xs:List Int,Elems w F (xs.map fun x=>Pj x) xs
 |[]=>Elems.nil
 |x::r=>by
  have:=(Elems.one (C2 w F x)).append (nu w F r);simpa using this
theorem Dn(w:World){B:Nat}{v:Value}{xs:List Int}(a:Own w B 3 c7 v xs):
  Rt Tryz.prog 164 [v].toArray w fun u w'=>u=.tuple #[]∧Own w' B 3 c7 v xs.reverse∧w.grownBy w' v.ownBlock:=by
 have A:w.grownBy w v.ownBlock:=⟨rfl,rfl,rfl,MM _,fun _ _ _=>rfl⟩;rcases a with⟨rfl,rfl⟩|⟨g,off,cap,cur,rfl,a⟩
 ·refine J2 (Any.slices_Reverse_int_empty Dl none 0 w) ?_
  rintro e w' ⟨rfl,rfl⟩
  exact⟨_,rfl,rfl,Own.nil,A⟩
 ·have o:sz Int=1:=rfl
  have l:=a.fit;have y:=a.le;have h:=a.mx;have m:=nt a.el;rw[o,MY]at l m
  have b:∀j (c:j<xs.length),cur[off+j]?=some (Pj xs[j]):=fun j c=>by
   have h1:((cur.toList.drop off).take xs.length)[j]?=(xs.map fun x=>Pj x)[j]?:=by rw[m]
   rw[K5 c,KW,K0,KX c]at h1
   simpa using h1
  have C:Sort.Holds (Value.int .i64) w g off xs.toArray:=fun j c=>by
   have i:j<xs.length:=by simpa using c
   constructor
   ·have:xs.toArray[j]! =xs[j]:=by simp[i]
    rw[this];simp[World.cell?,a.blk,b j i]
   ·simp[World.frozen?,a.blk]
  refine J2 (Any.slices_Reverse_int Dl g off cap xs w C (by unfold maxLen at h;omega)) ?_;rintro e w' ⟨rfl,n,rfl⟩
  have f:(Sort.putRow (Value.int .i64) (Sort.ahead w n) g off xs.reverse.toArray).heap[g]?=some (.cells (Sort.putCells (Value.int .i64) off xs.reverse.toArray cur) 3 (0,0)):=by
   show(w.heap.modify g _)[g]?=_;rw[Jy,Ov rfl,a.blk];rfl
  have d:∀k,k≠g→(Sort.putRow (Value.int .i64) (Sort.ahead w n) g off xs.reverse.toArray).heap[k]?=w.heap[k]?:=fun k z=>by
   show(w.heap.modify g _)[k]?=_;rw[Jy,Ou (fun e=>z e.symm)]
  have q:(Sort.putRow (Value.int .i64) (Sort.ahead w n) g off xs.reverse.toArray).heap.size=w.heap.size:=by
   show(w.heap.modify g _).size=_;rw[JF]
  have t:(Sort.putRow (Value.int .i64) (Sort.ahead w n) g off xs.reverse.toArray).os=w.os:=rfl;have p:(Sort.putRow (Value.int .i64) (Sort.ahead w n) g off xs.reverse.toArray).tape=w.tape:=rfl;have s:(Sort.putRow (Value.int .i64) (Sort.ahead w n) g off xs.reverse.toArray).output=w.output:=rfl;generalize Sort.putRow (Value.int .i64) (Sort.ahead w n) g off xs.reverse.toArray=w' at*
  have r:(Sort.putCells (Value.int .i64) off xs.reverse.toArray cur).size=cur.size:=by simp[Sort.putCells]
  refine⟨_,rfl,rfl,.inr ⟨g,off,cap,_,by rw[Lv],⟨f,a.ge,a.nF,by simpa using y,h,by rw[r,o];omega,?_⟩⟩,⟨t,p,s,by omega,fun k _ z=>d k (fun e=>z (by rw[e];rfl))⟩⟩;have D:(((Sort.putCells (Value.int .i64) off xs.reverse.toArray cur).toList.drop off).take (xs.reverse.length*sz Int))=xs.reverse.map fun x=>Pj x:=by
   rw[o,MY];refine KF fun j=>?_
   by_cases c:j<xs.length
   ·rw[K5 (by simpa using c),KW,JC,Sort.putCells,Jx,b j c,K0,KX (by simpa using c)]
    simp[c,show off+j<off+xs.length by omega]
   ·rw[KY (by simp;try omega),KY (by simp;try omega)]
  rw[D];exact nu _ _ _
theorem aO{g:List (List Int)}{to al:Nat→Bool}{up:UP}{h:Nat}{x:Int×Int}(hh:h≤up.length)
  (hd:∀i (hi:i<up.length),i<h→to up[i].1.toNat=false∧∀k∈g.getD up[i].1.toNat [],al k.toNat=true→k∈wO up):
  ∀i (hi:i<(up++[x]).length),i<h→to (up++[x])[i].1.toNat=false∧∀k∈g.getD (up++[x])[i].1.toNat [],al k.toNat=true→k∈wO (up++[x]):=fun i hi a=>by
 have b:i<up.length:=by omega
 rw[K6 b];refine⟨(hd i b a).1,fun k c d=>?_⟩;unfold wO;rw[LC];exact LL _ ((hd i b a).2 k c d)
instance sS:IsM Tryz.prog 227 3 3:=⟨Tryz.underlying227⟩
instance sT:IsZ0 Tryz.prog 3:=⟨by kernel_rfl⟩
instance sU:IsKx Tryz.prog 3:=IsKx.int NM
def xb(up:UP):List (Value×Value):=up.map fun x=>(Value.int .i64 x.1,Value.int .i64 x.2)
theorem xf{up:UP}{x:Int×Int}:xb up++[(Pj x.1,Pj x.2)]=xb (up++[x]):=by unfold xb;simp
theorem kvU_key{up:UP}{x:Int}:Pj x∈(xb up).map Prod.fst↔x∈wO up:=by
 unfold xb wO;simp only[LG,LU,Function.comp];constructor
 ·rintro⟨a,b,e⟩;injection e with _ e;exact⟨a,b,e⟩
 ·rintro⟨a,b,e⟩;exact⟨a,b,by rw[e]⟩
theorem xe{up:UP}:(xb up).length=up.length:=by unfold xb;simp
theorem wz{x:Int}(h:0≤x∧x<9223372036854775807):KeyV Tryz.prog 3 (Pj x):=KeyV.int NM ⟨by omega,by omega⟩
set_option maxHeartbeats 4000000 in
theorem oq(w0:World){sb:Nat}{x0 x1 x2 x3 x4 x5 x6 x7 x8 x9 x10 x12 fv:Value}{no fo po:Option Addr}{nc fc pc:Nat}{g:List (List Int)}{fr part:List Int}{only:Int}{to:Nat→Bool}
  (hb:Blk w0 sb 171 [x0,x1,x2,x3,x4,x5,x6,x7,x8,x9,x10,.slice no g.length nc,x12]) (l:Sl w0 (c9 w0) no nc g) (hf:Sl w0 (c9 w0) fo fc fr) (hp:Sl w0 (c9 w0) po pc part)
  (hG:okG g) (hfr:AG g.length fr) (hpl:part.length=g.length) (hN:g.length≤1228800)
  (hto:∀w,Ext w0 w→∀n:Nat,n<g.length→FnV Tryz.prog fv [Pj (n:Int)] w fun v w'=>v=.bool (to n)∧Ext w w'):
  Rt Tryz.prog 91 [Pk sb,.slice fo fr.length fc,fv,.slice po part.length pc,Pj only].toArray w0 fun v w'=>∃r,Own w' w0.heap.size 3 c7 v r∧((r=[]∧fI g fr to (fS part only))∨WyOK g fr to (fS part only) r)∧Ext w0 w':=by
 have hfl:=hf.len63;refine dK Tryz.func91 Tryz.ntmps91 rfl rfl ?_;refine Qw ?_;refine fg (k:=3) rfl rfl (fun Z=>?_);have e1:Ext w0 (w0.alloc (.map #[] 0)):=Ext.alloc w0 _;generalize hmb:w0.heap.size=mb at*
 generalize w0.alloc (.map #[] 0)=K at*
 have lmb:=Z.lt;have hle1:=e1.size;refine Qp ?_;refine CW.loop (S:=Nat×UP×Value) (fun s=>[(0,Pk sb),(2,fv),(3,.slice po part.length pc),(4,Pj only),(11,.map (some mb)),(12,s.2.2),(24,.slice fo fr.length fc),(25,Pj fr.length),(26,Pj s.1)])
  (fun s w=>s.1≤fr.length∧WyC g fr (fS part only) s.2.1∧(∀x∈fr.take s.1,x∈wO s.2.1)∧MapI Tryz.prog 3 w mb (xb s.2.1)∧Own w K.heap.size 3 c7 s.2.2 (wO s.2.1)∧Ext w0 w∧K.heap.size≤w.heap.size) (fun s=>fr.length -s.1) (0,[],.slice none 0 0) OR ⟨Nc _,WyC.nil,(fun x D=>by simp at D),Z,Own.nil,e1,MM _⟩ ?_
 clear Z;rintro⟨i,up,tv⟩ w2 ⟨hi,C,a,E,A,t,M⟩
 dsimp only at hi C a E A t M⊢
 have hul:=C.len;have hkl:(wO up).length=up.length:=Lq _;have B:=fun g l=>A.lt g l
 refine Qw ?_;apply CW.cond rfl<;>intro h
 ·have R:i<fr.length:=by simp at h;omega
  have hxr:=hfr _ (Lb R);have U:fr.take (i+1)=fr.take i++[fr[i]]:=Mp R;have hxm:=Lb R;refine Qo ?_;refine eD rfl rfl rfl rfl rfl (hf.up t) R rfl O3 (fun q=>?_);generalize fr[i]=x at*
  refine Qw ?_;refine e_ rfl rfl rfl rfl E (wz ⟨hxr.1,by omega⟩) (fun hn=>?_) (fun j hj hjx=>?_)
  ·have hn:=fun h=>hn (kvU_key.2 h)
   refine Qb ?_;refine fh rfl rfl rfl rfl E (wz ⟨hxr.1,by omega⟩) (fun h=>hn (kvU_key.1 h)) (fun w3 P hg3=>?_);rw[xf (x:=(x,-1))]at P
   have ho3:=A.keptN hg3 (fun g l e=>by have:=(B g l).1;have:=Nn e;omega);have I:Ext w0 w3:=t.grown hg3 t.size O7;have hz3:=hg3.size;refine PP ?_;refine dY (F:=c7) (yv:=x) rfl rfl O3 rfl rfl O3 ho3 Pe OS O6 OU OY OS (fun tv' w4 p ho4 hg4 hnb4=>?_);have hM4:=P.kept hg4 (fun e=>by have:=(B _ e.symm).1;omega);have Q:Ext w0 w4:=I.grown hg4 I.size (fun g l=>by have:=(B g l).1;omega);have L:=hg4.size;refine PI ?_;refine EX.back (i+1,up++[(x,-1)],tv') OR ⟨R,C.push hn hxr (.inl ⟨rfl,hxm⟩),fun y G=>?_,hM4,by simpa[wO]using ho4,Q,by omega⟩ OX;dsimp only at G⊢
   rw[U]at G
   unfold wO;rw[LC];rcases LK.1 G with G|G
   ·exact LL _ (a y G)
   ·rw[L0]at G;subst G;exact LM _ OW
  ·have hxk:x∈wO up:=kvU_key.1 (by rw[←hjx];exact LU.2 ⟨_,Lb hj,rfl⟩)
   refine QF ?_;refine EX.back (i+1,up,tv) OR ⟨R,C,fun y G=>?_,E,A,t,M⟩ OX;dsimp only at G⊢
   rw[U]at G
   rcases LK.1 G with G|G
   ·exact a y G
   ·rw[L0]at G;subst G;exact hxk
 obtain rfl:i=fr.length:=by simp at h;omega
 rw[Ml]at a
 clear h hi;refine Qy ?_;refine CW.loop (S:=Nat×UP×Value) (fun s=>[(0,Pk sb),(2,fv),(3,.slice po part.length pc),(4,Pj only),(11,.map (some mb)),(12,s.2.2)])
  (fun s w=>s.1≤s.2.1.length∧WyC g fr (fS part only) s.2.1∧(∀x∈fr,x∈wO s.2.1)∧(∀i (hi:i<s.2.1.length),i<s.1→to s.2.1[i].1.toNat=false∧∀k∈g.getD s.2.1[i].1.toNat [],fS part only k.toNat=true→k∈wO s.2.1)∧MapI Tryz.prog 3 w mb (xb s.2.1)∧Own w K.heap.size 3 c7 s.2.2 ((wO s.2.1).drop s.1)∧Ext w0 w∧K.heap.size≤w.heap.size) (fun s=>g.length -s.1) (0,up,tv) OR ⟨Nc _,C,a,fun i hi h=>absurd h OW,E,by simpa using A,t,M⟩ ?_
 clear C a E A t M hul hkl B;rintro⟨h,up,tv⟩ w2 ⟨hh,C,a,hD,E,A,t,M⟩
 dsimp only at hh C a hD E A t M⊢
 have hul:=C.len;have hkl:(wO up).length=up.length:=Lq _;have B:=fun g l=>A.lt g l
 have hdl:((wO up).drop h).length=up.length -h:=by rw[Lm,hkl]
 refine Qu ?_;apply CW.cond rfl<;>intro J
 ·have d:h<up.length:=by rw[hdl]at J;simp at J;omega
  have hhk:h<(wO up).length:=by omega
  have hd0:0<((wO up).drop h).length:=by omega
  have hget:((wO up).drop h)[0]=up[h].1:=by rw[K_];simp[wO]
  have hnr:=C.rg _ (LU.2 ⟨up[h],Lb d,rfl⟩);refine Qv ?_;refine eG (i:=0) rfl rfl rfl rfl rfl A hd0 O3 (fun u q hu=>?_);obtain rfl:=hu.int;rw[hget];obtain⟨n,hn⟩:∃n:Nat,up[h].1=(n:Int):=⟨up[h].1.toNat,by omega⟩;rw[hn];rw[hn]at hnr
  refine Qw ?_;refine eA (α:=Int) 1 rfl rfl rfl rfl rfl A OS (fun tv2 ho2 hob=>?_);rw[Kx]at ho2
  refine Qw ?_;refine d8 rfl rfl rfl rfl (hto w2 t n OS) ?_;rintro _ w3 ⟨rfl,e3⟩
  have P:=E.ext e3;have ho3:=ho2.extN e3;have I:=t.trans e3;have hz3:K.heap.size≤w3.heap.size:=MN M e3.size;have hlt3:=fun g l=>ho3.lt g l
  cases htn:to n
  ·
   have hgn:n<g.length:=by omega
   have hrow:g.getD n []=g[n]:=by rw[KR,KX hgn];rfl
   have hrr:AG g.length g[n]:=hG _ (Lb hgn);have hb3:=hb.ext I;refine PU ?_;refine eE (i:=n) rfl rfl rfl rfl rfl (l.mono (w':=w3) I.block (F':=c9 w0) O8) hgn O3 (fun u q hu=>?_);obtain⟨ro,rc,rfl,hrs⟩:=hu.sl;generalize g[n]=row at*
   have hrl:=hrs.len63;refine PS ?_;refine CW.loop (S:=Nat×UP×Value) (fun s=>[(0,Pk sb),(2,fv),(3,.slice po part.length pc),(4,Pj only),(11,.map (some mb)),(12,s.2.2),(17,Pj n),(74,.slice ro row.length rc),(75,Pj row.length),(76,Pj s.1)])
    (fun s w=>s.1≤row.length∧WyC g fr (fS part only) s.2.1∧(∀x∈fr,x∈wO s.2.1)∧(∀i (hi:i<s.2.1.length),i<h→to s.2.1[i].1.toNat=false∧∀k∈g.getD s.2.1[i].1.toNat [],fS part only k.toNat=true→k∈wO s.2.1)∧(∃d:h<s.2.1.length,s.2.1[h].1=(n:Int))∧(∀k∈row.take s.1,fS part only k.toNat=true→k∈wO s.2.1)∧MapI Tryz.prog 3 w mb (xb s.2.1)∧Own w K.heap.size 3 c7 s.2.2 ((wO s.2.1).drop (h+1))∧Ext w0 w∧K.heap.size≤w.heap.size) (fun s=>row.length -s.1) (0,up,tv2) OR ⟨Nc _,C,a,hD,⟨d,hn⟩,(fun k hk=>by simp at hk),P,by simpa[Mu]using ho3,I,hz3⟩ ?_
   clear C a hD P ho3 hul J ho2 hob hlt3;rintro⟨j,up,tv⟩ w4 ⟨hj,C,a,hD,⟨d,hn⟩,W,E,A,c,L⟩
   dsimp only at hj C a hD d hn W E A c L⊢
   have hul:=C.len;have hkl:(wO up).length=up.length:=Lq _;have B:=fun g l=>A.lt g l
   refine Qw ?_;apply CW.cond rfl<;>intro J
   ·have N:j<row.length:=by simp at J;omega
    have hkr:=hrr _ (Lb N);have hkm:row[j]∈g.getD n []:=by rw[hrow];exact Lb N
    have U:row.take (j+1)=row.take j++[row[j]]:=Mp N;have skip:∀(D:fS part only row[j].toNat=true→row[j]∈wO up),∀k∈row.take (j+1),fS part only k.toNat=true→k∈wO up:=fun D k hk T=>by
     rw[U]at hk
     rcases LK.1 hk with hk|hk
     ·exact W k hk T
     ·rw[L0]at hk;subst hk;exact D T
    refine Qo ?_;refine eD rfl rfl rfl rfl rfl (hrs.mono (w':=w4) (fun b hb=>(c.block b hb).trans (I.block b hb).symm) (F':=c9 w0) O8) N rfl O3 (fun q=>?_);generalize row[j]=k at*
    obtain⟨kn,rfl⟩:∃m:Nat,k=(m:Int):=⟨k.toNat,by omega⟩;have hkp:kn<part.length:=by omega
    have hpk:part.getD kn 0=part[kn]:=by rw[KR,KX hkp];rfl
    rw[Kd]at skip
    refine Qw ?_;refine e_ rfl rfl rfl rfl E (wz ⟨hkr.1,by omega⟩) (fun Y=>?_) (fun i hi hix=>?_)
    ·have Y:=fun h=>Y (kvU_key.2 h)
     have V:∀(T:fS part only kn=true) (z:World) (tv':Value),MapI Tryz.prog 3 z mb (xb (up++[((kn:Int),(n:Int))]))→Own z K.heap.size 3 c7 tv' ((wO up).drop (h+1)++[(kn:Int)])→Ext w0 z→K.heap.size≤z.heap.size→
       (j+1≤row.length∧WyC g fr (fS part only) (up++[((kn:Int),(n:Int))])∧(∀x∈fr,x∈wO (up++[((kn:Int),(n:Int))]))∧(∀i (hi:i<(up++[((kn:Int),(n:Int))]).length),i<h→to (up++[((kn:Int),(n:Int))])[i].1.toNat=false∧∀k∈g.getD (up++[((kn:Int),(n:Int))])[i].1.toNat [],fS part only k.toNat=true→k∈wO (up++[((kn:Int),(n:Int))]))∧(∃d:h<(up++[((kn:Int),(n:Int))]).length,(up++[((kn:Int),(n:Int))])[h].1=(n:Int))∧(∀k∈row.take (j+1),fS part only k.toNat=true→k∈wO (up++[((kn:Int),(n:Int))]))∧MapI Tryz.prog 3 z mb (xb (up++[((kn:Int),(n:Int))]))∧Own z K.heap.size 3 c7 tv' ((wO (up++[((kn:Int),(n:Int))])).drop (h+1))∧Ext w0 z∧K.heap.size≤z.heap.size):=by
      intro T z tv' o ho5 H hz5
      have hin:∀x,x∈wO up→x∈wO (up++[((kn:Int),(n:Int))]):=fun x D=>by unfold wO;rw[LC];exact LL _ D
      refine⟨N,C.push Y hkr (.inr ⟨h,d,by rw[hn],by rw[hn,Kd];exact hkm,by rw[Kd];exact T⟩),fun x D=>hin x (a x D),aO OS hD,⟨by simp;omega,by rw[K6 d];exact hn⟩,fun x D hxa=>?_,o,?_,H,hz5⟩
      ·rw[U]at D
       rcases LK.1 D with D|D
       ·exact hin x (W x D hxa)
       ·rw[L0]at D;subst D;unfold wO;rw[LC];exact LM _ OW
      ·rw[show(wO (up++[((kn:Int),(n:Int))])).drop (h+1)=(wO up).drop (h+1)++[(kn:Int)] by
        unfold wO;rw[LC,Kw OZ];rfl]
       exact ho5
     have hdlen:((wO up).drop (h+1)).length≤1228800:=by rw[Lm];omega
     have ins:∀(z:World) (o:MapI Tryz.prog 3 z mb (xb up++[(Pj (kn:Int),Pj (n:Int))])) (f:w4.grownBy z (some mb)),Own z K.heap.size 3 c7 tv ((wO up).drop (h+1))∧Ext w0 z∧K.heap.size≤z.heap.size:=fun z o f=>
      ⟨A.keptN f (fun g l e=>by have:=(B g l).1;have:=Nn e;omega),c.grown f c.size O7,by have:=f.size;omega⟩
     by_cases X:only<0
     ·have T:fS part only kn=true:=by unfold fS;rw[Ol X];rfl
      refine Qw ?_;rw[Ol X];refine Qr ?_;refine fh rfl rfl rfl rfl E (wz ⟨hkr.1,by omega⟩) (fun h=>Y (kvU_key.1 h)) (fun z o f=>?_);obtain⟨ho5,H,hz5⟩:=ins z o f;refine PP ?_;refine dY (F:=c7) (yv:=(kn:Int)) rfl rfl O3 rfl rfl O3 ho5 Pe OS O6 OU OY OS (fun tv' w6 p ho6 O hnb6=>?_);have hM6:=o.kept O (fun e=>by have:=(B _ e.symm).1;omega);rw[xf (x:=((kn:Int),(n:Int)))]at hM6
      refine PI ?_;exact EX.back (j+1,up++[((kn:Int),(n:Int))],tv') OR (V T w6 tv' hM6 ho6 (H.grown O H.size (fun g l=>by have:=(B g l).1;omega)) (by have:=O.size;omega)) OX
     by_cases hpe:part[kn]=only
     ·have T:fS part only kn=true:=by unfold fS;rw[hpk,Ol hpe,JZ]
      refine Qw ?_;rw[Oj X];refine QO ?_;refine eD rfl rfl rfl rfl rfl (hp.at c) hkp rfl O3 (fun q=>?_);rw[hpe];refine Pv ?_;refine CW.cond rfl (fun _=>?_) (fun D=>by simp at D);refine PB ?_;refine fh rfl rfl rfl rfl E (wz ⟨hkr.1,by omega⟩) (fun h=>Y (kvU_key.1 h)) (fun z o f=>?_);obtain⟨ho5,H,hz5⟩:=ins z o f;refine PP ?_;refine dY (F:=c7) (yv:=(kn:Int)) rfl rfl O3 rfl rfl O3 ho5 Pe OS O6 OU OY OS (fun tv' w6 p ho6 O hnb6=>?_);have hM6:=o.kept O (fun e=>by have:=(B _ e.symm).1;omega);rw[xf (x:=((kn:Int),(n:Int)))]at hM6
      refine PI ?_;exact EX.back (j+1,up++[((kn:Int),(n:Int))],tv') OR (V T w6 tv' hM6 ho6 (H.grown O H.size (fun g l=>by have:=(B g l).1;omega)) (by have:=O.size;omega)) OX
     ·have T:¬fS part only kn=true:=by unfold fS;rw[hpk,Oj hpe,Oj X];decide
      refine Qw ?_;rw[Oj X];refine QO ?_;refine eD rfl rfl rfl rfl rfl (hp.at c) hkp rfl O3 (fun q=>?_);refine Pv ?_;refine CW.cond rfl (fun D=>absurd (by simpa using D) hpe) (fun _=>?_);refine Pq ?_;exact EX.back (j+1,up,tv) OR ⟨N,C,a,hD,⟨d,hn⟩,skip (fun h=>absurd h T),E,A,c,L⟩ OX
    ·have hxk:(kn:Int)∈wO up:=kvU_key.1 (by rw[←hix];exact LU.2 ⟨_,Lb hi,rfl⟩)
     refine QF ?_;exact EX.back (j+1,up,tv) OR ⟨N,C,a,hD,⟨d,hn⟩,skip (fun _=>hxk),E,A,c,L⟩ OX
   ·obtain rfl:j=row.length:=by simp at J;omega
    rw[Ml]at W
    refine PZ ?_;refine EX.back (h+1,up,tv) OR ⟨d,C,a,fun i hi hih=>?_,E,A,c,L⟩ OX;dsimp only at hi hih⊢
    by_cases e:i<h
    ·exact hD i hi e
    ·obtain rfl:i=h:=by omega
     rw[hn,Kd];exact⟨htn,fun k hk T=>W k (by rw[←hrow];exact hk) T⟩
  ·
   have hq1:Pj (n:Int)=Pj (Aj up (h+1)):=by
    rw[←hn];unfold Aj;rw[Oo ⟨by omega,by omega⟩];rfl
   refine Qq ?_;rw[hq1];refine CW.loop (S:=Nat×List Int×Value) (fun s=>[(11,.map (some mb)),(17,Pj (Aj up s.1)),(18,s.2.2)])
    (fun s w=>BackI g fr (fS part only) up h s.1 s.2.1∧MapI Tryz.prog 3 w mb (xb up)∧Own w K.heap.size 3 c7 s.2.2 s.2.1∧Ext w0 w∧K.heap.size≤w.heap.size) (fun s=>s.1) (h+1,[],.slice none 0 0) OR ⟨BackI.start d,P,Own.nil,I,hz3⟩ ?_
   clear P ho3 hlt3;rintro⟨q,out,ov⟩ w4 ⟨hI,E,A,Q,L⟩
   dsimp only at hI E A Q L⊢
   have hq:=hI.hq;have hlen:=hI.len;have hltq:=fun g l=>A.lt g l
   refine Qw ?_;apply CW.cond rfl<;>intro J
   ·have J:0≤Aj up q:=by simpa using J
    have h0:0<q:=by
     rcases MH q with e|e
     ·subst e;simp[Aj]at J
     ·exact e
    have hqn:Aj up q=up[q -1].1:=by unfold Aj;rw[Oo ⟨h0,hq⟩]
    obtain⟨q',hq',hv,hI'⟩:=hI.step C h0;have hqr:=C.rg _ (LU.2 ⟨up[q -1],Lb OS,rfl⟩);have hkq:q -1<(xb up).length:=by rw[xe];omega
    have hk1:(xb up)[q -1].1=Pj (Aj up q):=by rw[hqn];simp[xb]
    have hk2:(xb up)[q -1].2=Pj (Aj up q'):=by rw[←hv];simp[xb]
    refine Qv ?_;refine dY (F:=c7) (yv:=Aj up q) rfl rfl O3 rfl rfl O3 A Pe OS O6 OU OY OS (fun ov' z p ho5 f hnb5=>?_);have o:=E.kept f (fun e=>by have:=(hltq _ e.symm).1;omega);have H:Ext w0 z:=Q.grown f Q.size (fun g l=>by have:=(hltq g l).1;omega);rw[hqn]at ho5
    refine PI ?_;refine fd (j:=q -1) hkq hk1 rfl rfl rfl rfl o (wz ⟨J,by rw[hqn];omega⟩) ?_;rw[hk2];refine Qf ?_;exact EX.back (q',out++[up[q -1].1],ov') OR ⟨hI',o,ho5,H,by have:=f.size;omega⟩ hq'
   ·have J:¬0≤Aj up q:=by simpa using J
    obtain rfl:q=0:=by
     rcases MH q with e|e
     ·exact e
     ·refine absurd ?_ J
      unfold Aj;rw[Oo ⟨e,hq⟩];exact(C.rg _ (LU.2 ⟨up[q -1],Lb OS,rfl⟩)).1
    refine P9 ?_;refine WL.call rfl rfl rfl (Dn w4 A) ?_;rintro _ z ⟨rfl,hor,hgr⟩
    refine Pl ?_;exact be rfl rfl ⟨out.reverse,hor.low OS,.inr (hI.done C (by rw[hn];exact htn)),Q.grown hgr Q.size (fun g l=>by have:=(hltq g l).1;omega)⟩
 ·obtain rfl:h=up.length:=by rw[hdl]at J;simp at J;omega
  refine PG ?_;exact be rfl rfl ⟨[],Own.nil,.inl ⟨rfl,wO up,a,fun x D=>by
   obtain⟨y,G,rfl⟩:=LU.1 D;obtain⟨i,hi,rfl⟩:=LT.1 G;exact hD i hi hi⟩,t⟩
theorem HI{g:bU}{m:Nat}(h:m<(HE g).length):(HE g)[m]=((List.range g.length).filter (fun k=>(g.getD k []).contains (m:Int))).map (fun k:Nat=>(k:Int)):=by
 have e:(HE g)[m]=Hq g g.length 0 m:=HK _;rw[e];unfold Hq;simp
theorem CR{g:bU}{a b:Nat}(h:Rch (HE g) [(a:Int)] b):Rch g [(b:Int)] a:=by
 induction h with
 |@base x c=>
  have:x=(a:Int):=by simpa using c
  subst this;simpa using Rch.self a
 |@step m x _ c e=>
  by_cases f:m<g.length
  ·have d:0≤x:=((AF (HH g) m) x c).1
   obtain⟨k,rfl⟩:=J9 d;exact(Rch.edge ((HG f).1 c).2).trans e
  ·rw[KR,KY (by rw[HF];omega)]at c
   simp at c
theorem CS{g:bU}(i:okG g){a b:Nat}(h:Rch g [(b:Int)] a):Rch (HE g) [(a:Int)] b:=by
 induction h with
 |@base x c=>
  have:x=(b:Int):=by simpa using c
  subst this;simpa using Rch.self b
 |@step m x _ c f=>
  have d:=AF i m x c;obtain⟨k,rfl⟩:=J9 d.1;have e:m<g.length:=by
   apply J3;intro e
   rw[KR,KY OS]at c
   simp at c
  have:(m:Int)∈(HE g).getD k []:=(HG OS).2 ⟨e,c⟩;exact(Rch.edge this).trans f
theorem CQ{g:bU}(c:okG g){a b:Nat}:Rch (HE g) [(a:Int)] b↔Rch g [(b:Int)] a:=⟨CR,CS c⟩
theorem m9:∀(g:bU) (c:Nat),(∀l∈g,l.length≤c)→mX g≤g.length*c
 |[],c,_=>by simp[mX]
 |l::g,c,h=>by
  have h1:=m9 g c (fun x a=>h x (by simp[a]));have h2:=h l OW;simp only[mX,LE,Mi,Ll]at h1⊢
  rw[Mv,M1];omega
theorem ng(g:bU):mX (HE g)≤g.length*(g.length+1):=by
 have h:=m9 (HE g) (g.length+1) (fun l a=>by
  obtain⟨m,b,rfl⟩:=LT.1 a;have e:(HE g)[m]=Hq g g.length 0 m:=HK _;rw[e];exact Ht _ _ _ _)
 rwa[HF]at h
theorem IT{l:List Int}{j:Nat}(h:j<l.length):l.getD j 0=l[j]:=by rw[KR,KX h];rfl
theorem IS{l:List (List Int)}{j:Nat}(h:j<l.length):l.getD j []=l[j]:=by rw[KR,KX h];rfl
theorem IR{l:List Bool}{j:Nat}(h:j<l.length):l.getD j false=l[j]:=by rw[KR,KX h];rfl
theorem qb(w:World)(b f:Nat){a:Option Addr}{c:Nat}{part:List Int}{to n:Nat}(k:Blk w b 38 [.slice a part.length c])(g:Blk w f 3 [Pj (n:Int)])(e:Sl w (c9 w) a c part)(d:to<part.length)(hn:n<part.length):
  Rt Tryz.prog 219 [Pj (to:Int),Pk b,Pk f].toArray w fun v w'=>v=.bool (part.getD to 0==part.getD n 0)∧Ext w w':=by
 refine dI Tryz.func219 Tryz.ntmps219 rfl rfl ?_;refine QJ ?_;refine dm rfl rfl rfl rfl rfl O8 e d rfl O3 (fun q=>?_);refine Q0 ?_;refine dm rfl rfl rfl rfl rfl O8 e hn rfl O3 (fun j=>?_);refine QP ?_;refine QL.nil (fun i h=>?_);refine Pz ?_;exact be rfl rfl ⟨by rw[IT d,IT hn],h⟩
def Cm(g:bU)(part:List Int)(n c:Nat):Prop:=∃u,u<n∧part.getD u 0=c∧∃to∈g.getD u [],part.getD to.toNat 0=c
theorem Cn{g:bU}{part:List Int}{n c:Nat}:Cm g part (n+1) c↔Cm g part n c∨(part.getD n 0=c∧∃to∈g.getD n [],part.getD to.toNat 0=part.getD n 0):=by
 unfold Cm;constructor
 ·rintro⟨u,h1,h2,h3⟩
  by_cases e:u=n
  ·subst e;exact .inr ⟨h2,by rw[h2];exact h3⟩
  ·exact .inl ⟨u,by omega,h2,h3⟩
 ·rintro(⟨u,h1,h2⟩|⟨h1,h2⟩)
  ·exact⟨u,by omega,h2⟩
  ·exact⟨n,by omega,h1,by rw[←h1];exact h2⟩
theorem oK(w0:World){ao po so:Option Addr}{cap pc sc:Nat}{g sets:bU}{part:List Int}(hs:Sl w0 (c9 w0) ao cap g)(hp:Sl w0 (c9 w0) po pc part)(hfs:Sl w0 (c9 w0) so sc sets)(hg:okG g)(hpt:PartsOK g part)(hl:g.length≤1099511627776)
  (hsets:∀F∈sets,AG g.length F):
  Rt Tryz.prog 193 [.slice ao g.length cap,.slice po part.length pc,.slice so sets.length sc].toArray w0 fun v w'=>∃out:List Bool,Own w' w0.heap.size 4 c7 v out∧out.length=g.length∧
   (∀c,c<g.length→(out.getD c false=true↔Cm g part g.length c∧∀F∈sets,∃x∈F,part.getD x.toNat 0=c))∧Ext w0 w':=by
 have hm:=hs.len63;have hmp:=hp.len63;have hms:=hfs.len63;have hpl:=hpt.len;refine dI Tryz.func193 Tryz.ntmps193 rfl rfl ?_;refine Pm ?_;refine dZ rfl rfl rfl fun H L hE1=>?_
 have hb40:=L;have hl1:=L.lt;refine Qp ?_;refine eY (α:=Bool) rfl rfl rfl rfl OS OY (fun w2 ho2 hg2=>?_);have e2:Ext H w2:=(JJ _ _).grown hg2 Pf O_;generalize hsv:Value.slice (some ⟨H.heap.size,0,none⟩) g.length g.length=sv at*
 have hpc:∀n,n<part.length→∃c0:Nat,part[n]! =(c0:Int)∧c0<g.length∧part.getD n 0=(c0:Int):=fun n hn=>by
  have h0:=hpt.ge n hn;have h1:=hpt.lt n hn;obtain⟨c0,j⟩:=J9 h0;exact⟨c0,by rw[←j,IT hn];simp[hn],by omega,j⟩
 refine Qp ?_;refine CW.loop (S:=Nat×List Bool) (fun s=>[(0,.slice ao g.length cap),(2,.slice so sets.length sc),(4,Pk w0.heap.size),(7,sv),(19,.slice ao g.length cap),(20,Pj g.length),(21,Pj s.1)])
  (fun s w=>s.1≤g.length∧Own w H.heap.size 4 c7 sv s.2∧s.2.length=g.length∧(∀c,c<g.length→(s.2.getD c false=true↔Cm g part s.1 c))∧Ext H w) (fun s=>g.length -s.1) (0,List.replicate g.length false) OR
  ⟨Nc _,ho2,by simp,fun c z=>by dsimp only;rw[rh];unfold Cm;simp,e2⟩ ?_
 rintro⟨n,out⟩ w ⟨hn,A,d,N,e⟩
 dsimp only at hn A d N⊢
 have V:=hE1.trans e;refine Qw ?_;apply CW.cond rfl<;>intro h
 ·have J:n<g.length:=by simp at h;omega
  have erow:g.getD n []=g[n]:=IS J;have P:n<part.length:=by omega
  obtain⟨c0,_,hc0l,j⟩:=hpc n P;have hpn:part[n]=(c0:Int):=by rw[←IT P];exact j
  refine Qv ?_;refine eE rfl rfl rfl rfl rfl (hs.at V) J O3 (fun u q hu=>?_);obtain⟨ro,rc,rfl,X⟩:=hu.sl;have hrl:=X.len63;skip;refine WL.alloc rfl rfl (fun O G e3=>?_);have z3:=G.lt;skip;refine WL.st rfl rfl rfl G rfl rfl Pd (fun w4 G hg4=>?_);have e4:Ext w w4:=e3.grown hg4 e3.size O5;have U:=V.trans e4;have Y:=L.ext (e.trans e4);have A:=A.extN e4;refine PK ?_;refine WL.call rfl rfl rfl (k7 w4 (fun x=>part.getD x.toNat 0==part.getD n 0) (X.mono (fun b l=>(U.block b l).trans (V.block b l).symm) (fun b l=>MQ l U.size)) (fun w5 hw i hi=>?_)) ?_
  ·have hto:=hg _ (Lb J) _ (Lb hi)
   obtain⟨to,eto⟩:=J9 hto.1;rw[eto,Kd];exact FnV.mk (cs:=[_,_]) (qb w5 _ _ (Y.ext hw) (G.ext hw) (hp.up (U.trans hw)) OS P)
  rintro _ w5 ⟨rfl,B⟩
  have hb45:=Y.ext B;have G:=G.ext B;have A:=A.extN B;have T:=U.trans B;have B:=(e.trans e4).trans B;have Z:(g[n].any fun x=>part.getD x.toNat 0==part.getD n 0)=true↔∃to∈g.getD n [],part.getD to.toNat 0=part.getD n 0:=by
   rw[Ki,erow];simp
  refine QB ?_;apply CW.cond rfl<;>intro h2
  ·refine Qj ?_
   refine eD rfl rfl rfl rfl rfl (hp.at T) P hpn O3 (fun q=>?_);skip;refine fu (u:=.bool true) (yv:=true) rfl rfl rfl rfl A (show c0<out.length by omega) O3 O3 (Rd.mkBool _ _ _) (fun w6 q2 ho6 hg6=>?_);have e6:Ext H w6:=B.grown hg6 B.size (fun b l=>(A.lt b l).1);refine PI ?_;refine EX.back (n+1,out.set c0 true) OR ⟨J,ho6,by simpa using d,fun c z=>?_,e6⟩ OX;dsimp only;rw[ri OS,Cn,←Z];by_cases e:c0=c
   ·subst e
    rw[Ov rfl];exact⟨fun _=>.inr ⟨j,h2⟩,fun _=>rfl⟩
   ·rw[Ou e,N c z]
    exact⟨.inl,fun h=>h.resolve_right (fun⟨h1,_⟩=>e (by have:=j.symm.trans h1;omega))⟩
  ·refine Pq ?_
   refine EX.back (n+1,out) OR ⟨J,A,d,fun c z=>?_,B⟩ OX;dsimp only;rw[N c z,Cn,←Z,h2];simp
 obtain rfl:n=g.length:=by simp at h;omega
 clear h hn;have L:=L.ext e;have hsb:∀b,sv.ownBlock=some b→b<w.heap.size:=fun b l=>(A.lt b l).2.1
 refine P5 ?_;refine CW.loop (S:=Nat×List Bool) (fun s=>[(0,.slice ao g.length cap),(4,Pk w0.heap.size),(7,sv),(36,.slice so sets.length sc),(37,Pj sets.length),(38,Pj s.1)])
  (fun s w=>s.1≤sets.length∧Own w H.heap.size 4 c7 sv s.2∧s.2.length=g.length∧(∀c,c<g.length→(s.2.getD c false=true↔Cm g part g.length c∧∀F∈sets.take s.1,∃x∈F,part.getD x.toNat 0=c))∧Ext H w) (fun s=>sets.length -s.1) (0,out) OR
  ⟨Nc _,A,d,fun c z=>by dsimp only;rw[N c z];simp,e⟩ ?_
 clear N A d V;rintro⟨f,out⟩ O ⟨hf,A,d,N,e3⟩
 dsimp only at hf A d N⊢
 have V:=hE1.trans e3;refine Qw ?_;apply CW.cond rfl<;>intro h
 ·have R:f<sets.length:=by simp at h;omega
  have hFok:=hsets _ (Lb R);refine Qo ?_;refine eE rfl rfl rfl rfl rfl (hfs.at V) R O3 (fun u q hu=>?_);obtain⟨Fo,Fc,rfl,hF⟩:=hu.sl;have hFl:=hF.len63;refine Qp ?_;refine eY (α:=Bool) rfl rfl rfl rfl OS OY (fun w4 ho4 hg4=>?_);have e4:Ext O w4:=(JJ _ _).grown hg4 Pf O_;have W:∀b,sv.ownBlock=some b→b<O.heap.size:=fun b l=>(A.lt b l).2.1
  generalize hhv:Value.slice (some ⟨O.heap.size,0,none⟩) g.length g.length=hv at*
  have hhb:hv.ownBlock=some O.heap.size:=by rw[←hhv];rfl
  refine Qp ?_;refine CW.loop (S:=Nat×List Bool) (fun s=>[(0,.slice ao g.length cap),(4,Pk w0.heap.size),(7,sv),(12,hv),(36,.slice so sets.length sc),(37,Pj sets.length),(38,Pj f),(45,.slice Fo sets[f].length Fc),(46,Pj sets[f].length),(47,Pj s.1)])
   (fun s w=>s.1≤sets[f].length∧Own w O.heap.size 4 c7 hv s.2∧s.2.length=g.length∧(∀c,c<g.length→(s.2.getD c false=true↔∃x∈sets[f].take s.1,part.getD x.toNat 0=c))∧Ext O w) (fun s=>sets[f].length -s.1) (0,List.replicate g.length false) OR
   ⟨Nc _,ho4,by simp,fun c z=>by dsimp only;rw[rh];simp,e4⟩ ?_
  rintro⟨i,m⟩ w5 ⟨hi,o,hhl,D,B⟩
  dsimp only at hi o hhl D⊢
  have T:=V.trans B;have hb5:=hb40.ext (e3.trans B);refine Qw ?_;apply CW.cond rfl<;>intro h
  ·have Q:i<sets[f].length:=by simp at h;omega
   have hto:=hFok _ (Lb Q);obtain⟨x,ex⟩:=J9 hto.1;have hxp:x<part.length:=by omega
   obtain⟨c0,_,hc0l,j⟩:=hpc x hxp;have hpx:part[x]=(c0:Int):=by rw[←IT hxp];exact j
   have hF5:Sl w5 (c9 w0) Fo Fc sets[f]:=hF.mono (fun b l=>(T.block b l).trans (V.block b l).symm) O8;refine Qo ?_;refine eD rfl rfl rfl rfl rfl hF5 Q ex O3 (fun q=>?_);refine Qm ?_;refine eD rfl rfl rfl rfl rfl (hp.at T) hxp hpx O3 (fun q=>?_);skip;refine fu (u:=.bool true) (yv:=true) rfl rfl rfl rfl o (show c0<m.length by omega) O3 O3 (Rd.mkBool _ _ _) (fun w6 q2 ho6 hg6=>?_);have e6:Ext O w6:=B.grown hg6 B.size (fun b l=>(o.lt b l).1);refine PI ?_;refine EX.back (i+1,m.set c0 true) OR ⟨Q,ho6,by simpa using hhl,fun c z=>?_,e6⟩ OX;dsimp only;rw[ri OS,←Mk Q,ex];by_cases e:c0=c
   ·subst e
    rw[Ov rfl];exact⟨fun _=>⟨(x:Int),by simp,by simpa using j⟩,fun _=>rfl⟩
   ·rw[Ou e,D c z]
    constructor
    ·rintro⟨y,h1,h2⟩;exact⟨y,LK.2 (.inl h1),h2⟩
    ·rintro⟨y,h1,h2⟩
     rcases LK.1 h1 with h1|h1
     ·exact⟨y,h1,h2⟩
     ·rw[L0]at h1;subst h1
      rw[Kd,j]at h2;omega
  ·obtain rfl:i=sets[f].length:=by simp at h;omega
   rw[Ml]at D
   have ho5:=A.extN B;refine P5 ?_;refine CW.loop (S:=Nat×List Bool) (fun s=>[(0,.slice ao g.length cap),(4,Pk w0.heap.size),(7,sv),(12,hv),(36,.slice so sets.length sc),(37,Pj sets.length),(38,Pj f),(59,Pj g.length),(60,Pj s.1)])
    (fun s w=>s.1≤g.length∧Own w H.heap.size 4 c7 sv s.2∧s.2.length=g.length∧(∀c,c<g.length→s.2.getD c false=if c<s.1 then out.getD c false&&m.getD c false else out.getD c false)∧Own w O.heap.size 4 c7 hv m∧Ext H w) (fun s=>g.length -s.1) (0,out) ?_
    ⟨Nc _,ho5,d,fun c z=>by dsimp only;rw[Ou OS],o,e3.trans B⟩ ?_
   ·rw[d];exact OR
   rintro⟨k,gd'⟩ w14 ⟨hk,a,p,r,o,M⟩
   dsimp only at hk a p r o⊢
   refine Qw ?_;apply CW.cond rfl<;>intro h
   ·have hk':k<g.length:=by simp at h;omega
    have K:k<gd'.length:=by omega
    have hkh:k<m.length:=by omega
    have hgk:gd'[k]=out.getD k false:=by rw[←IR K,r k hk',Ou OS]
    have hst:∀b:Bool,b=(out.getD k false&&m.getD k false)→∀c,c<g.length→(gd'.set k b).getD c false=if c<k+1 then out.getD c false&&m.getD c false else out.getD c false:=by
     intro b l c z
     rw[ri K];by_cases e:k=c
     ·subst e;rw[Ov rfl,Ov OS,l]
     ·rw[Ou e,r c z]
      by_cases h1:c<k
      ·rw[Ov h1,Ov OS]
      ·rw[Ou h1,Ou OS]
    refine PA ?_;refine eG rfl rfl rfl rfl rfl a K O3 (fun u q hu=>?_);obtain rfl:=hu.bool;rw[hgk];by_cases E:out.getD k false=true
    ·rw[E]
     refine QO ?_;refine eG rfl rfl rfl rfl rfl o hkh O3 (fun u q hu=>?_);obtain rfl:=hu.bool;refine QO ?_;refine fu (u:=.bool m[k]) (yv:=m[k]) rfl rfl rfl rfl a K O3 O3 (Rd.mkBool _ _ _) (fun w15 q I t=>?_);have e15:Ext H w15:=M.grown t M.size (fun b l=>(a.lt b l).1);have C:=o.keptN t (fun g hg e=>by rw[hhb]at hg;cases hg;exact absurd (W _ e.symm) (MO _));refine PI ?_;exact EX.back (k+1,gd'.set k m[k]) OR ⟨hk',I,by simpa using p,hst _ (by rw[E,IR hkh];rfl),C,e15⟩ OX
    ·have E:out.getD k false=false:=by simpa using E
     rw[E];refine QZ ?_;refine fu (u:=.bool false) (yv:=false) rfl rfl rfl rfl a K O3 O3 (Rd.mkBool _ _ _) (fun w15 q I t=>?_);have e15:Ext H w15:=M.grown t M.size (fun b l=>(a.lt b l).1);have C:=o.keptN t (fun g hg e=>by rw[hhb]at hg;cases hg;exact absurd (W _ e.symm) (MO _));refine PI ?_;exact EX.back (k+1,gd'.set k false) OR ⟨hk',I,by simpa using p,hst _ (by rw[E];rfl),C,e15⟩ OX
   ·obtain rfl:k=g.length:=by simp at h;omega
    refine PJ ?_;refine EX.back (f+1,gd') OR ⟨R,a,p,fun c z=>?_,M⟩ OX;dsimp only;rw[r c z,Ov z,JM,N c z,D c z,←Mk R,N8];refine N9 J8 ⟨fun⟨h1,h2⟩ F hF=>?_,fun h1=>⟨fun F hF=>h1 F (LK.2 (.inl hF)),h1 sets[f] (LK.2 (.inr OW))⟩⟩;rcases LK.1 hF with hF|hF
    ·exact h1 F hF
    ·rw[L0]at hF;subst hF;exact h2
 ·obtain rfl:f=sets.length:=by simp at h;omega
  rw[Ml]at N
  refine PG ?_;exact be rfl rfl ⟨out,A.low OS,d,N,V⟩
def vE(nx:bU)(inn:List Bool)(n j:Nat):List Int:=((nx.getD n []).take j).filter fun to=>inn.getD n false&&inn.getD to.toNat false
def vw(nx:bU)(inn:List Bool)(n:Nat):List Int:=(nx.getD n []).filter fun to=>inn.getD n false&&inn.getD to.toNat false
def inG(nx:bU)(inn:List Bool):bU:=(List.range nx.length).map (vw nx inn)
theorem vy{nx:bU}{inn:List Bool}:(inG nx inn).length=nx.length:=by simp[inG]
theorem vA{nx:bU}{inn:List Bool}{n:Nat}(h:n<nx.length):(inG nx inn).getD n []=vw nx inn n:=by
 unfold inG;rw[KR,K0,K1 h];rfl
theorem inG_edge{nx:bU}{inn:List Bool}{u v:Nat}:Eg (inG nx inn) u v↔Eg nx u v∧inn.getD u false=true∧inn.getD v false=true:=by
 by_cases h:u<nx.length
 ·unfold Eg
  rw[vA h];unfold vw;rw[LR];simp
 ·constructor
  ·intro k;have:=k.lt1;rw[vy]at this;exact absurd this h
  ·intro k;exact absurd k.1.lt1 h
theorem vz{nx:bU}{inn:List Bool}(h:okG nx):okG (inG nx inn):=by
 intro r b x a
 rw[vy];obtain⟨n,hn,rfl⟩:=LU.1 b;exact AF h n x (LR.1 a).1
theorem vx{nx:bU}{inn:List Bool}:mX (inG nx inn)≤mX nx:=by
 unfold mX inG;rw[LG];have e:nx.map List.length=(List.range nx.length).map fun k=>(nx.getD k []).length:=by
  refine KE OW fun i h1 h2=>?_
  simp at h1;simp[h1]
 rw[e];have:∀l:List Nat,(l.map (List.length∘vw nx inn)).sum≤(l.map fun k=>(nx.getD k []).length).sum:=by
  intro l
  induction l with
  |nil=>exact MM _
  |cons x r a=>
   simp only[LE,Mi];have:(List.length∘vw nx inn) x≤(nx.getD x []).length:=Lp _ _;omega
 exact this _
theorem vG{nx:bU}{inn:List Bool}{n j:Nat}(h:j<(nx.getD n []).length):vE nx inn n (j+1)=vE nx inn n j++if(inn.getD n false&&inn.getD ((nx.getD n [])[j]).toNat false)=true then [(nx.getD n [])[j]]else []:=by
 unfold vE;rw[←Mk h,KG]
 congr 1
 by_cases e:(inn.getD n false&&inn.getD ((nx.getD n [])[j]).toNat false)=true
 ·rw[Ov e];simp only[KH,e,KK];rfl
 ·rw[Ou e];simp only[KH,e,KK];rfl
theorem vF{nx:bU}{inn:List Bool}{n:Nat}:vE nx inn n (nx.getD n []).length=vw nx inn n:=by unfold vE vw;rw[Ml]
abbrev Fe(fr:bU):List (Nat→Prop):=fr.map fun F x=>((x:Nat):Int)∈F
open Classical in
noncomputable def IV(nx:bU)(inn:List Bool)(fr:bU):List Bool:=(List.range nx.length).map fun n=>decide (∃r,r 0=n∧Way8 (Eg (inG nx inn)) (Fe fr) r)
theorem IX{nx:bU}{inn:List Bool}{fr:bU}:(IV nx inn fr).length=nx.length:=by simp[IV]
theorem IW{nx:bU}{inn:List Bool}{fr:bU}{n:Nat}(h:n<nx.length):(IV nx inn fr).getD n false=true↔∃r,r 0=n∧Way8 (Eg (inG nx inn)) (Fe fr) r:=by
 unfold IV;rw[KR,K0,K1 h];simp
theorem gQ{g:bU}(a:okG g){ends:List Int}(c:AG g.length ends){n:Nat}:Rch (HE g) ends n↔∃v:Nat,(v:Int)∈ends∧Rc (Eg g) n v:=by
 rw[CP (HH g) (fun x b=>(c x b).1)];refine exists_congr fun v=>N_ fun _=>?_
 rw[←CK (HH g),CQ a,CK a]
theorem IZ{nx fr:bU}{inn good:List Bool}{part ends:List Int}(p:okG nx)(hP:PartsOK (inG nx inn) part)(r:∀F∈fr,AG nx.length F)
  (e:∀c,c<nx.length→(good.getD c false=true↔Cm (inG nx inn) part nx.length c∧∀F∈fr,∃x∈F,part.getD x.toNat 0=c))
  (a:∀v:Nat,(v:Int)∈ends↔v<nx.length∧inn.getD v false=true∧good.getD (part.getD v 0).toNat false=true) (i:∀x∈ends,0≤x):
  CL (HE (inG nx inn)) ends=IV nx inn fr:=by
 have q:=vz (inn:=inn) p;have A:AG (inG nx inn).length ends:=fun x f=>by
  have C:=i x f;have:=((a x.toNat).1 (by rw[show((x.toNat:Nat):Int)=x by omega];exact f)).1;rw[vy];omega
 refine KE (by rw[CN,HF,vy,IX]) fun n h1 h2=>?_
 have hn:n<nx.length:=by rw[IX]at h2;exact h2
 rw[JO,CM h1,gQ q A,←IR h2,IW hn,oO (N:=nx.length) (fun u v h=>by have:=h.lt q;rwa[vy]at this) hn];have b:∀v,v<nx.length→(good.getD (part.getD v 0).toNat false=true↔aM (Eg (inG nx inn)) (Fe fr) v):=by
  intro v d
  have g:v<part.length:=by rw[hP.len,vy];exact d
  have B:=hP.ge v g;have k1:=hP.lt v g;rw[vy]at k1
  rw[lk q hP (by rw[vy];exact d),e _ OS,show(((part.getD v 0).toNat:Nat):Int)=part.getD v 0 by omega,vy];unfold Cm;rw[show(((part.getD v 0).toNat:Nat):Int)=part.getD v 0 by omega];refine N9 J8 ⟨fun k P t=>?_,fun k F hF=>?_⟩
  ·obtain⟨F,hF,rfl⟩:=LU.1 t
   obtain⟨x,f,j⟩:=k F hF;have:=r F hF x f;exact⟨x.toNat,by omega,by show((x.toNat:Nat):Int)∈F;rw[show((x.toNat:Nat):Int)=x by omega];exact f,j⟩
  ·obtain⟨x,z,m,l⟩:=k _ (LU.2 ⟨F,hF,rfl⟩)
   exact⟨(x:Int),m,by simpa using l⟩
 constructor
 ·rintro⟨v,d,o⟩
  obtain⟨h3,_,h4⟩:=(a v).1 d;exact⟨v,o,(b v h3).1 h4⟩
 ·rintro⟨v,o,y⟩
  have s:=y;obtain⟨⟨u,w,_⟩,_⟩:=y;have d:v<nx.length:=by have:=w.lt1;rwa[vy]at this
  exact⟨v,(a v).2 ⟨d,(inG_edge.1 w).2.1,(b v d).2 s⟩,o⟩
theorem nf{g:bU}:∀{i:Nat},(h:i<g.length)→g[i].length≤mX g:=by
 unfold mX
 induction g with
 |nil=>intro i h;cases h
 |cons r g a=>
  intro i h
  cases i with
  |zero=>simp
  |succ i=>have:=a (i:=i) (by simpa using h);simp at this⊢;omega
def nE(inn good:List Bool)(part:List Int)(n:Nat):List Int:=((List.range n).filter fun v=>inn.getD v false&&good.getD (part.getD v 0).toNat false).map fun v:Nat=>(v:Int)
theorem nI{inn good:List Bool}{part:List Int}{n:Nat}:nE inn good part (n+1)=nE inn good part n++if(inn.getD n false&&good.getD (part.getD n 0).toNat false)=true then [(n:Int)]else []:=by
 unfold nE;rw[Mb,KG,LC]
 congr 1
 by_cases e:(inn.getD n false&&good.getD (part.getD n 0).toNat false)=true
 ·rw[Ov e];simp only[KH,e,KK];rfl
 ·rw[Ou e];simp only[KH,e,KK];rfl
theorem nG{inn good:List Bool}{part:List Int}{n:Nat}:(nE inn good part n).length≤n:=by
 unfold nE;rw[Lq];exact MN (Lp _ _) OW
theorem nH{inn good:List Bool}{part:List Int}{n v:Nat}:(v:Int)∈nE inn good part n↔v<n∧inn.getD v false=true∧good.getD (part.getD v 0).toNat false=true:=by
 unfold nE;rw[LU];constructor
 ·rintro⟨u,h1,h2⟩
  obtain rfl:u=v:=by omega
  have:=LR.1 h1;rw[LZ,JM]at this
  exact this
 ·rintro⟨h1,h2,h3⟩
  exact⟨v,LR.2 ⟨LZ.2 h1,by rw[h2,h3];rfl⟩,rfl⟩
theorem nJ{inn good:List Bool}{part:List Int}{n:Nat}:∀x∈nE inn good part n,0≤x:=by
 intro x a
 obtain⟨u,_,rfl⟩:=LU.1 a;omega
theorem fF(w0:World){a1 a2 a3 a4 io:Option Addr}{c1 c2 c3 c4 n1 n3 ic:Nat}{nx fr:bU}{inn:List Bool}(h2:Sl w0 (c9 w0) a2 c2 nx)(h4:Sl w0 (c9 w0) a4 c4 fr)(Y:Sl w0 (c9 w0) io ic inn)
  (M:okG nx) (hfr:∀F∈fr,AG nx.length F) (hil:inn.length=nx.length) (hn:nx.length≤600) (hT:mX nx≤8589934592):
  Rt Tryz.prog 140 [I2 a1 c1 a2 c2 a3 c3 a4 c4 n1 nx.length n3 fr.length,.slice io inn.length ic].toArray w0 fun v w'=>Own w' w0.heap.size 4 c7 v (IV nx inn fr)∧Ext w0 w':=by
 have hm2:=h2.len63;refine dH Tryz.func140 Tryz.ntmps140 rfl rfl ?_;refine Pm ?_;refine dZ rfl rfl rfl fun C g e1=>?_
 have hl1:=g.lt;refine QH ?_;refine eY (α:=Raw) rfl rfl rfl rfl OS OY (fun w2 ho2 hg2=>?_);have e2:Ext C w2:=(JJ _ _).grown hg2 Pf O_;generalize hsv:Value.slice (some ⟨C.heap.size,0,none⟩) nx.length nx.length=sv at*
 have hN2:OwnN w2 C.heap.size 38 3 sv _ (List.replicate nx.length ([]:List Int)):=OwnN.made ho2;rw[←rU (full:=vw nx inn)]at hN2
 clear ho2 hg2;have I:=g;have g:=g.ext e2;refine QH ?_;refine CW.loop (S:=Nat×List Raw) (fun s=>[(1,.slice io inn.length ic),(2,Pk w0.heap.size),(5,sv),(23,.slice a2 nx.length c2),(24,Pj nx.length),(25,Pj s.1)])
  (fun s w=>s.1≤nx.length∧OwnN w C.heap.size 38 3 sv s.2 (rN nx.length (vw nx inn) s.1 [])∧Ext C w) (fun s=>nx.length -s.1) (0,_) OR ⟨Nc _,hN2,e2⟩ ?_
 rintro⟨n,vs⟩ w3 ⟨V,i,e3⟩
 dsimp only at V i⊢
 have Q:=e1.trans e3;have hb23:=I.ext e3;refine Qw ?_;apply CW.cond rfl<;>intro h
 ·have f:n<nx.length:=by simp at h;omega
  have t:n<inn.length:=by omega
  have erow:nx.getD n []=nx[n]:=IS f;have hre:=nf f;refine Qv ?_;refine eE rfl rfl rfl rfl rfl (h2.at Q) f O3 (fun u q hu=>?_);obtain⟨ro,rc,rfl,G⟩:=hu.sl;have hrl:=G.len63;refine Qp ?_;refine CW.loop (S:=Nat×List Raw) (fun s=>[(1,.slice io inn.length ic),(2,Pk w0.heap.size),(5,sv),(6,Pj n),(23,.slice a2 nx.length c2),(24,Pj nx.length),(25,Pj n),(30,.slice ro nx[n].length rc),(31,Pj nx[n].length),(32,Pj s.1)])
   (fun s w=>s.1≤nx[n].length∧OwnN w C.heap.size 38 3 sv s.2 (rN nx.length (vw nx inn) n (vE nx inn n s.1))∧Ext C w) (fun s=>nx[n].length -s.1) (0,vs) OR ⟨Nc _,by show OwnN _ _ _ _ _ _ (rN _ _ _ (vE nx inn n 0));rw[show vE nx inn n 0=[] by simp[vE]];exact i,e3⟩ ?_
  rintro⟨j,vs⟩ w4 ⟨hj,i,m⟩
  dsimp only at hj i⊢
  have B:=e1.trans m;have L:Sl w4 (c9 w0) ro rc nx[n]:=G.mono (fun b J=>(B.block b J).trans (Q.block b J).symm) O8;have H:=Y.at B;refine Qw ?_;apply CW.cond rfl<;>intro h
  ·have k:j<nx[n].length:=by simp at h;omega
   have hto:=M _ (Lb f) _ (Lb k);obtain⟨to,eto⟩:=J9 hto.1;have T:to<inn.length:=by omega
   have c:=vG (nx:=nx) (inn:=inn) (n:=n) (j:=j) (by rw[erow];exact k);have hgj:(nx.getD n [])[j]'(by rw[erow];exact k)=(to:Int):=by simp only[erow];exact eto
   rw[hgj,Kd]at c
   have X:=i.len;rw[rR]at X
   have r:n<vs.length:=by omega
   have y:=i.inn n r (by rw[rR];exact f);rw[rQ f]at y
   have hil2:(vE nx inn n j).length≤nx[n].length:=by
    unfold vE;rw[erow];exact MN (Lp _ _) (by rw[Lz];omega)
   refine Qo ?_;refine eD rfl rfl rfl rfl rfl L k eto O3 (fun q=>?_);refine Qw ?_;refine eC rfl rfl rfl rfl rfl H t (IR t).symm O3 (fun q=>?_);have skipc:(inn.getD n false&&inn.getD to false)=false→OwnN w4 C.heap.size 38 3 sv vs (rN nx.length (vw nx inn) n (vE nx inn n (j+1))):=fun h=>by
    rw[c,Ou (by rw[h];simp),Kk];exact i
   by_cases e:inn.getD n false=true
   ·rw[e]
    refine QO ?_;refine eC rfl rfl rfl rfl rfl H T (IR T).symm O3 (fun q=>?_);by_cases d:inn.getD to false=true
    ·rw[d]
     rw[Ov (by rw[e,d];rfl)]at c
     refine Qb ?_;refine eG rfl rfl rfl rfl rfl i.out r O3 (fun u q hu=>?_);obtain⟨rfl,_⟩:=hu.raw;refine QO ?_;refine dY (F:=c7) (yv:=(to:Int)) rfl rfl O3 rfl rfl O3 y Pe m.size O6 OU OY OS (fun R w5 p ho5 E hnb=>?_);rw[←c]at ho5
     have W:=i.mid r E;skip;refine fu (u:=R) (yv:=⟨R⟩) rfl rfl rfl rfl W r O3 O3 (Rd.mkRaw _ _ _ ?_) (fun w6 q ho6 hg6=>?_)
     ·obtain⟨a,b,rfl⟩:=ho5.val;rfl
     have hN6:=i.set r ho5 E hnb ho6 hg6;rw[rT f]at hN6
     have o:Ext C w6:=(m.grown E m.size (fun b J=>(y.lt b J).1)).grown hg6 (MN m.size E.size) (fun b J=>(i.out.lt b J).1);refine PI ?_;exact EX.back (j+1,vs.set n ⟨R⟩) OR ⟨k,hN6,o⟩ OX
    ·have d:inn.getD to false=false:=by simpa using d
     rw[d];refine QD ?_;exact EX.back (j+1,vs) OR ⟨k,skipc (by rw[d,Bool.and_false]),m⟩ OX
   ·have e:inn.getD n false=false:=by simpa using e
    rw[e];refine QF ?_;exact EX.back (j+1,vs) OR ⟨k,skipc (by rw[e,JP]),m⟩ OX
  ·obtain rfl:j=nx[n].length:=by simp at h;omega
   refine PJ ?_;refine EX.back (n+1,vs) OR ⟨f,?_,m⟩ OX;rw[←erow,vF,rS]at i
   exact i
 obtain rfl:n=nx.length:=by simp at h;omega
 rw[rP]at i
 have hgG:(List.range nx.length).map (vw nx inn)=inG nx inn:=rfl;rw[hgG]at i
 have N:=vy (nx:=nx) (inn:=inn);have A:=vz (inn:=inn) M;have hge:=vx (nx:=nx) (inn:=inn);have g:Blk w3 w0.heap.size 54 (jj (I2 a1 c1 a2 c2 a3 c3 a4 c4 n1 nx.length n3 fr.length)):=I.ext e3;obtain⟨go,gc,rfl,O⟩:=i.old.sl;have hfr':∀F∈fr,AG (inG nx inn).length F:=by rw[N];exact hfr
 clear h V i;refine P9 ?_;refine WL.call rfl rfl rfl (dP w3 O O8 A OS) ?_;rintro _ w4 ⟨part,U,hP,m⟩
 have B:=Q.trans m;have g:=g.ext m;have O:=O.up m;obtain⟨po,pc,rfl,hp⟩:=U.oldN.sl;have hpl:=hP.len;refine QE ?_;refine WL.call rfl rfl rfl (oK w4 O hp (h4.up B) A hP OS hfr') ?_;rintro _ w5 ⟨good,Z,hgol,z,e5⟩
 have hE5:=B.trans e5;have hp:=hp.up e5;have O:=O.up e5;obtain⟨oo,oc,rfl,hgd⟩:=Z.oldN.sl;clear Z U m e5 g;rw[N]at z
 refine Qp ?_;refine CW.loop (S:=Nat×Value) (fun s=>[(1,.slice io inn.length ic),(5,.slice go (inG nx inn).length gc),(10,.slice po part.length pc),(11,.slice oo good.length oc),(12,s.2),(66,Pj (inG nx inn).length),(67,Pj s.1)])
  (fun s w=>s.1≤nx.length∧Own w w5.heap.size 3 c7 s.2 (nE inn good part s.1)∧Ext w5 w) (fun s=>nx.length -s.1) (0,.slice none 0 0) OR ⟨Nc _,Own.nil,Ext.refl _⟩ ?_
 rintro⟨n,ev⟩ w6 ⟨hn6,l,o⟩
 dsimp only at hn6 l⊢
 have hel:=nG (inn:=inn) (good:=good) (part:=part) (n:=n);refine Qw ?_;apply CW.cond rfl<;>intro h
 ·have f:n<nx.length:=by simp at h;omega
  have t:n<inn.length:=by omega
  have D:n<part.length:=by omega
  have h0:=hP.ge n D;have h1:=hP.lt n D;obtain⟨c0,hc0⟩:=J9 h0;have hpn:part[n]=(c0:Int):=by rw[←IT D];exact hc0
  have hcg:c0<good.length:=by omega
  have c:=nI (inn:=inn) (good:=good) (part:=part) (n:=n);rw[hc0,Kd]at c
  refine PA ?_;refine eC rfl rfl rfl rfl rfl (Y.at (hE5.trans o)) t (IR t).symm O3 (fun q=>?_);by_cases e:inn.getD n false=true
  ·rw[e]
   refine QO ?_;refine eD rfl rfl rfl rfl rfl (hp.up o) D hpn O3 (fun q=>?_);skip;refine eC rfl rfl rfl rfl rfl (hgd.up o) hcg (IR hcg).symm O3 (fun q=>?_);by_cases d:good.getD c0 false=true
   ·rw[d]
    rw[Ov (by rw[e,d];rfl)]at c
    refine Qb ?_;refine dY (F:=c7) (yv:=(n:Int)) rfl rfl O3 rfl rfl O3 l Pe o.size O6 OU OY OS (fun R w7 p ho7 hg7 hnb=>?_);rw[←c]at ho7
    have e7:Ext w5 w7:=o.grown hg7 o.size (fun b J=>(l.lt b J).1);refine PI ?_;exact EX.back (n+1,R) OR ⟨f,ho7,e7⟩ OX
   ·have d:good.getD c0 false=false:=by simpa using d
    rw[d];rw[Ou (by rw[d];simp),Kk]at c
    refine QD ?_;exact EX.back (n+1,ev) OR ⟨f,by dsimp only;rw[c];exact l,o⟩ OX
  ·have e:inn.getD n false=false:=by simpa using e
   rw[e];rw[Ou (by rw[e];simp),Kk]at c
   refine QF ?_;exact EX.back (n+1,ev) OR ⟨f,by dsimp only;rw[c];exact l,o⟩ OX
 obtain rfl:n=nx.length:=by simp at h;omega
 obtain⟨eo,ec,rfl,hes⟩:=l.oldN.sl;have hE6:=hE5.trans o;have hch:jL (inG nx inn)=0:=jM A OS;refine P9 ?_;refine WL.call rfl rfl rfl (dV w6 (O.up o)) ?_;rintro _ w7 ⟨tv,ts,rfl,P,e7⟩
 unfold HD at P
 rw[Ov hch]at P
 obtain⟨to,tc,rfl,htu⟩:=P.old.sl;have htl:=HF (inG nx inn);have hte:=ng (inG nx inn);have hte2:(inG nx inn).length*((inG nx inn).length+1)≤600*601:=MV OS OS;have K:=IZ (ends:=nE inn good part nx.length) M hP hfr z (fun v=>nH) nJ;have heok:AG (HE (inG nx inn)).length (nE inn good part nx.length):=fun x hx=>by
  have h0:=nJ x hx;have:=(nH (v:=x.toNat)).1 (by rw[show((x.toNat:Nat):Int)=x by omega];exact hx);rw[htl,N];omega
 have hrF:=C8 (HH (inG nx inn)) heok OS;refine Qw ?_;refine WL.call rfl rfl rfl (dD w7 htu (hes.up e7) OS) ?_;rw[hrF,K];rintro _ w8 ⟨rv,rfl,hor,e8⟩
 refine P7 ?_;exact be rfl rfl ⟨hor.low (MN hE6.size e7.size),(hE6.trans e7).trans e8⟩
theorem vu{l:List Bool}{k:Nat}(a:l.length=k):(idxOf (fun y=>true==y) l= -1∧∀c,l.getD c false=false)∨∃c:Nat,idxOf (fun y=>true==y) l=(c:Int)∧c<k∧l.getD c false=true:=by
 unfold idxOf;cases h:l.findIdx? fun y=>true==y with
 |none=>
  refine .inl ⟨rfl,fun c=>?_⟩;rw[KL]at h
  rw[KR];cases e:l[c]? with
  |none=>rfl
  |some b=>
   have:=h b (LW e);cases b<;>simp_all
 |some i=>
  obtain⟨h1,h2,h3⟩:=KM.1 h;refine .inr ⟨i,rfl,by omega,?_⟩;rw[IR h1];simpa using h2.symm
theorem nj(w:World)(b f:Nat){a:Option Addr}{c:Nat}{part:List Int}{to n:Nat}(k:Blk w b 38 [.slice a part.length c])(g:Blk w f 3 [Pj (n:Int)])(e:Sl w (c9 w) a c part)(d:to<part.length)(hn:n<part.length):
  Rt Tryz.prog 162 [Pj (to:Int),Pk b,Pk f].toArray w fun v w'=>v=.bool (part.getD to 0==part.getD n 0)∧Ext w w':=by
 refine dI Tryz.func162 Tryz.ntmps162 rfl rfl ?_;refine QJ ?_;refine dm rfl rfl rfl rfl rfl O8 e d rfl O3 (fun q=>?_);refine Q0 ?_;refine dm rfl rfl rfl rfl rfl O8 e hn rfl O3 (fun j=>?_);refine QP ?_;refine QL.nil (fun i h=>?_);refine Pz ?_;exact be rfl rfl ⟨by rw[IT d,IT hn],h⟩
set_option maxHeartbeats 2000000 in
theorem nk(w0:World){sb N:Nat}{x0 x1 x2 x3 x4 x5 x6 x7 x8 x9 x12:Value}{lo no po so:Option Addr}{lc nc pc sc:Nat}{g:List (List Int)}{part:List Int}{sets:List (List Bool)}
  (j:Blk w0 sb 171 [x0,x1,x2,x3,x4,x5,x6,x7,x8,x9,.slice lo N lc,.slice no g.length nc,x12]) (hN:N=g.length) (hs:Sl w0 (c9 w0) no nc g) (hp:Sl w0 (c9 w0) po pc part) (hfs:Sl w0 (c9 w0) so sc sets)
  (hg:okG g) (hpt:PartsOK g part) (hl:g.length≤1228800) (hsl:∀S∈sets,S.length=g.length):
  Rt Tryz.prog 90 [Pk sb,.slice po part.length pc,.slice so sets.length sc].toArray w0 fun v w'=>∃p:Int,v=Pj p∧((p= -1∧∀c:Int,0≤c→c<g.length→¬bT g part sets c)∨(0≤p∧p<g.length∧bT g part sets p))∧Ext w0 w':=by
 have hm:=hs.len63;have hmp:=hp.len63;have hms:=hfs.len63;have hpl:=hpt.len;subst hN;have hsb0:=j.lt;refine dI Tryz.func90 Tryz.ntmps90 rfl rfl ?_;refine Pm ?_;refine dZ rfl rfl rfl fun P Z hE1=>?_
 have hb40:=Z;have hl1:=Z.lt;have hb1:=j.ext hE1;refine QH ?_;refine eY (α:=Bool) rfl rfl rfl rfl OS OY (fun w2 ho2 hg2=>?_);have e2:Ext P w2:=(JJ _ _).grown hg2 Pf O_;generalize hsv:Value.slice (some ⟨P.heap.size,0,none⟩) g.length g.length=sv at*
 have hpc:∀n,n<part.length→∃c0:Nat,part[n]! =(c0:Int)∧c0<g.length∧part.getD n 0=(c0:Int):=fun n hn=>by
  have h0:=hpt.ge n hn;have h1:=hpt.lt n hn;obtain⟨c0,K⟩:=J9 h0;exact⟨c0,by rw[←K,IT hn];simp[hn],by omega,K⟩
 have hb2:=hb1.ext e2;refine QH ?_;refine CW.loop (S:=Nat×List Bool) (fun s=>[(0,Pk sb),(2,.slice so sets.length sc),(4,Pk w0.heap.size),(7,sv),(25,.slice no g.length nc),(26,Pj g.length),(27,Pj s.1)])
  (fun s w=>s.1≤g.length∧Own w P.heap.size 4 c7 sv s.2∧s.2.length=g.length∧(∀c:Nat,c<g.length→(s.2.getD c false=true↔Cm g part s.1 c))∧Ext P w) (fun s=>g.length -s.1) (0,List.replicate g.length false) OR
  ⟨Nc _,ho2,by simp,fun c o=>by dsimp only;rw[rh];unfold Cm;simp,e2⟩ ?_
 rintro⟨n,out⟩ w ⟨hn,E,m,hr,e⟩
 dsimp only at hn E m hr⊢
 have hE:=hE1.trans e;refine Qw ?_;apply CW.cond rfl<;>intro h
 ·have V:n<g.length:=by simp at h;omega
  have erow:g.getD n []=g[n]:=IS V;have hnp:n<part.length:=by omega
  obtain⟨c0,_,hc0l,K⟩:=hpc n hnp;have hpn:part[n]=(c0:Int):=by rw[←IT hnp];exact K
  refine Qv ?_;refine eE rfl rfl rfl rfl rfl (hs.at hE) V O3 (fun u q I=>?_);obtain⟨ro,rc,rfl,hrow⟩:=I.sl;have hrl:=hrow.len63;skip;refine WL.alloc rfl rfl (fun l O e3=>?_);have z3:=O.lt;skip;refine WL.st rfl rfl rfl O rfl rfl Pd (fun w4 O hg4=>?_);have e4:Ext w w4:=e3.grown hg4 e3.size O5;have hE4:=hE.trans e4;have hb44:=Z.ext (e.trans e4);have E:=E.extN e4;refine PK ?_;refine WL.call rfl rfl rfl (k7 w4 (fun x=>part.getD x.toNat 0==part.getD n 0) (hrow.mono (fun b j=>(hE4.block b j).trans (hE.block b j).symm) (fun b j=>MQ j hE4.size)) (fun L hw i hi=>?_)) ?_
  ·have hto:=hg _ (Lb V) _ (Lb hi)
   obtain⟨to,eto⟩:=J9 hto.1;rw[eto,Kd];exact FnV.mk (cs:=[_,_]) (nj L _ _ (hb44.ext hw) (O.ext hw) (hp.up (hE4.trans hw)) OS hnp)
  rintro _ L ⟨rfl,B⟩
  have hb45:=hb44.ext B;have O:=O.ext B;have E:=E.extN B;have hE5:=hE4.trans B;have B:=(e.trans e4).trans B;have hany:(g[n].any fun x=>part.getD x.toNat 0==part.getD n 0)=true↔∃to∈g.getD n [],part.getD to.toNat 0=part.getD n 0:=by
   rw[Ki,erow];simp
  refine QB ?_;apply CW.cond rfl<;>intro h2
  ·refine Qj ?_
   refine eD rfl rfl rfl rfl rfl (hp.at hE5) hnp hpn O3 (fun q=>?_);skip;refine fu (u:=.bool true) (yv:=true) rfl rfl rfl rfl E (show c0<out.length by omega) O3 O3 (Rd.mkBool _ _ _) (fun w6 q2 ho6 hg6=>?_);have e6:Ext P w6:=B.grown hg6 B.size (fun b j=>(E.lt b j).1);refine PI ?_;refine EX.back (n+1,out.set c0 true) OR ⟨V,ho6,by simpa using m,fun c o=>?_,e6⟩ OX;dsimp only;rw[ri OS,Cn,←hany];by_cases e:c0=c
   ·subst e
    rw[Ov rfl];exact⟨fun _=>.inr ⟨K,h2⟩,fun _=>rfl⟩
   ·rw[Ou e,hr c o]
    exact⟨.inl,fun h=>h.resolve_right (fun⟨h1,_⟩=>e (by have:=K.symm.trans h1;omega))⟩
  ·refine Pq ?_
   refine EX.back (n+1,out) OR ⟨V,E,m,fun c o=>?_,B⟩ OX;dsimp only;rw[hr c o,Cn,←hany,h2];simp
 obtain rfl:n=g.length:=by simp at h;omega
 clear h hn;have Z:=Z.ext e;refine P5 ?_;refine CW.loop (S:=Nat×List Bool) (fun s=>[(0,Pk sb),(4,Pk w0.heap.size),(7,sv),(42,.slice so sets.length sc),(43,Pj sets.length),(44,Pj s.1)])
  (fun s w=>s.1≤sets.length∧Own w P.heap.size 4 c7 sv s.2∧s.2.length=g.length∧(∀c:Nat,c<g.length→(s.2.getD c false=true↔Cm g part g.length c∧∀S∈sets.take s.1,∃x,x<g.length∧S.getD x false=true∧part.getD x 0=c))∧Ext P w) (fun s=>sets.length -s.1) (0,out) OR
  ⟨Nc _,E,m,fun c o=>by dsimp only;rw[hr c o];simp,e⟩ ?_
 clear hr E m hE;rintro⟨f,out⟩ l ⟨hf,E,m,hr,e3⟩
 dsimp only at hf E m hr⊢
 have hE:=hE1.trans e3;have hbs3:=j.ext hE;refine Qw ?_;apply CW.cond rfl<;>intro h
 ·have hf':f<sets.length:=by simp at h;omega
  have hSl:=hsl _ (Lb hf');refine Qo ?_;refine eE rfl rfl rfl rfl rfl (hfs.at hE) hf' O3 (fun u q I=>?_);obtain⟨Fo,Fc,rfl,hF⟩:=I.sl;have hFl:=hF.len63;refine QH ?_;refine eY (α:=Bool) rfl rfl rfl rfl OS OY (fun w4 ho4 hg4=>?_);have e4:Ext l w4:=(JJ _ _).grown hg4 Pf O_;have hslt:∀b,sv.ownBlock=some b→b<l.heap.size:=fun b j=>(E.lt b j).2.1
  refine Qp ?_;refine CW.loop (S:=Nat×List Bool) (fun s=>[(0,Pk sb),(4,Pk w0.heap.size),(7,sv),(12,.slice (some ⟨l.heap.size,0,none⟩) g.length g.length),(42,.slice so sets.length sc),(43,Pj sets.length),(44,Pj f),(54,.slice Fo sets[f].length Fc),(55,Pj sets[f].length),(56,Pj s.1)])
   (fun s w=>s.1≤sets[f].length∧Own w l.heap.size 4 c7 (.slice (some ⟨l.heap.size,0,none⟩) g.length g.length) s.2∧s.2.length=g.length∧(∀c:Nat,c<g.length→(s.2.getD c false=true↔∃x,x<s.1∧sets[f].getD x false=true∧part.getD x 0=c))∧Ext l w) (fun s=>sets[f].length -s.1) (0,List.replicate g.length false) OR
   ⟨Nc _,ho4,by simp,fun c o=>by dsimp only;rw[rh];simp,e4⟩ ?_
  rintro⟨i,a⟩ L ⟨hi,D,X,G,B⟩
  dsimp only at hi D X G⊢
  have hE5:=hE.trans B;have hb5:=hb40.ext (e3.trans B);refine Qw ?_;apply CW.cond rfl<;>intro h
  ·have hi':i<sets[f].length:=by simp at h;omega
   have hip:i<part.length:=by omega
   obtain⟨c0,_,K,ec0⟩:=hpc i hip;have hpc':part[i]=(c0:Int):=by rw[←IT hip];exact ec0
   have Y:c0<a.length:=by omega
   have hF5:Sl L (c9 w0) Fo Fc sets[f]:=hF.mono (fun b j=>(hE5.block b j).trans (hE.block b j).symm) O8;refine Qv ?_;refine eC rfl rfl rfl rfl rfl hF5 hi' rfl O3 (fun q=>?_);have hsg:sets[f].getD i false=sets[f][i]:=IR hi';generalize sets[f][i]=is at*
   refine QO ?_;apply WL.nil;apply bx;have hd:=Ext.drew L;have hpd:=hp.at (hE5.trans hd);have hbd:=hb5.ext hd;have C:=D.extN hd;obtain⟨ho',hc',hv',hhs⟩:=C.slF (F':=fun b=>b=l.heap.size) O6 (fun g hg=>by cases hg;rfl);obtain⟨rfl,_,rfl⟩:=N5 hv';rw[←X]at hhs
   have hKK:∀(F:Nat→Prop) z,(fun x:World=>x=drew L) z→∀b,F b→z.heap[b]?=(drew L).heap[b]?:=fun F z hz b _=>by rw[hz]
   have hK1:∀u,(fun x:World=>x=drew L) u→u.heap[w0.heap.size]?=(drew L).heap[w0.heap.size]?:=fun u I=>by rw[I]
   have R:∀(b:Bool),(b=true↔a[c0]=true∨is=true)→∀w',Own w' l.heap.size 4 c7 (.slice (some ⟨l.heap.size,0,none⟩) g.length g.length) (a.set c0 b)→Ext l w'→
     (i+1≤sets[f].length∧Own w' l.heap.size 4 c7 (.slice (some ⟨l.heap.size,0,none⟩) g.length g.length) (a.set c0 b)∧(a.set c0 b).length=g.length∧(∀c:Nat,c<g.length→((a.set c0 b).getD c false=true↔∃y,y<i+1∧sets[f].getD y false=true∧part.getD y 0=c))∧Ext l w'):=by
    intro b j w' E he
    refine⟨hi',E,by simpa using X,fun c o=>?_,he⟩;have hsplit:(∃y,y<i+1∧sets[f].getD y false=true∧part.getD y 0=c)↔(∃y,y<i∧sets[f].getD y false=true∧part.getD y 0=c)∨(is=true∧c0=c):=by
     constructor
     ·rintro⟨y,hy1,Q,hy3⟩
      by_cases e:y=i
      ·subst e;exact .inr ⟨by rw[←hsg];exact Q,by omega⟩
      ·exact .inl ⟨y,by omega,Q,hy3⟩
     ·rintro(⟨y,hy1,Q⟩|⟨hy1,Q⟩)
      ·exact⟨y,by omega,Q⟩
      ·exact⟨i,by omega,by rw[hsg];exact hy1,by omega⟩
    rw[ri Y,hsplit];by_cases e:c0=c
    ·subst e
     rw[Ov rfl,j,←qO Y,G _ o];simp
    ·rw[Ou e,G c o]
     simp[e]
   refine aE (fun x:World=>x=drew L) [(0,true),(1,true),(2,true),(3,true),(4,true),(5,true),(6,true),(7,true),(8,true),(9,true),(10,true),(11,true),(12,true),(13,true),(14,true),(15,true)] 16 mixed OT rfl ?_;refine Q7 ?_;refine bY (w:=drew L) (F:=c9 w0) (hKK _) rfl rfl rfl rfl rfl rfl rfl hpd hip O3 (fun u q I=>?_);obtain rfl:=I.int;rw[hpc'];refine Q7 ?_;refine bY (w:=drew L) (F:=c9 w0) (hKK _) rfl rfl rfl rfl rfl rfl rfl hpd hip O3 (fun u q I=>?_);obtain rfl:=I.int;rw[hpc'];skip;rw[←X];refine bY (w:=drew L) (F:=fun b=>b=l.heap.size) (hKK _) rfl rfl rfl rfl rfl rfl rfl hhs Y O3 (fun u q I=>?_);obtain rfl:=I.bool;rw[X];by_cases hh:a[c0]=true
   ·rw[hh]
    refine Rb ?_;refine cA (yv:=true) rfl rfl rfl rfl rfl rfl C Y O3 O3 (Rd.mkBool _ _ _) (fun w14 q U d=>?_);have A:Ext l w14:=(B.trans hd).grown d (B.trans hd).size (fun b j=>(C.lt b j).1);refine PI ?_;exact EX.back (i+1,a.set c0 true) OR (R true (by simp[hh]) _ U A) OX
   ·have hh:a[c0]=false:=by simpa using hh
    rw[hh];refine Q3 ?_;refine cA (yv:=is) rfl rfl rfl rfl rfl rfl C Y O3 O3 (Rd.mkBool _ _ _) (fun w14 q U d=>?_);have A:Ext l w14:=(B.trans hd).grown d (B.trans hd).size (fun b j=>(C.lt b j).1);refine PI ?_;exact EX.back (i+1,a.set c0 is) OR (R _ (by simp[hh]) _ U A) OX
  ·obtain rfl:i=sets[f].length:=by simp at h;omega
   have ho5:=E.extN B;rw[hSl]at G
   generalize hhv:Value.slice (some ⟨l.heap.size,0,none⟩) g.length g.length=hv at*
   have hhb:hv.ownBlock=some l.heap.size:=by rw[←hhv];rfl
   refine P5 ?_;refine CW.loop (S:=Nat×List Bool) (fun s=>[(0,Pk sb),(4,Pk w0.heap.size),(7,sv),(12,hv),(42,.slice so sets.length sc),(43,Pj sets.length),(44,Pj f),(79,Pj g.length),(80,Pj s.1)])
    (fun s w=>s.1≤g.length∧Own w P.heap.size 4 c7 sv s.2∧s.2.length=g.length∧(∀c:Nat,c<g.length→s.2.getD c false=if c<s.1 then out.getD c false&&a.getD c false else out.getD c false)∧Own w l.heap.size 4 c7 hv a∧Ext P w) (fun s=>g.length -s.1) (0,out) ?_
    ⟨Nc _,ho5,m,fun c o=>by dsimp only;rw[Ou OS],D,e3.trans B⟩ ?_
   ·rw[m];exact OR
   rintro⟨k,gd'⟩ w14 ⟨hk,d,r,t,D,A⟩
   dsimp only at hk d r t D⊢
   refine Qw ?_;apply CW.cond rfl<;>intro h
   ·have hk':k<g.length:=by simp at h;omega
    have W:k<gd'.length:=by omega
    have hkh:k<a.length:=by omega
    have hgk:gd'[k]=out.getD k false:=by rw[←IR W,t k hk',Ou OS]
    have hst:∀b:Bool,b=(out.getD k false&&a.getD k false)→∀c:Nat,c<g.length→(gd'.set k b).getD c false=if c<k+1 then out.getD c false&&a.getD c false else out.getD c false:=by
     intro b j c o
     rw[ri W];by_cases e:k=c
     ·subst e;rw[Ov rfl,Ov OS,j]
     ·rw[Ou e,t c o]
      by_cases h1:c<k
      ·rw[Ov h1,Ov OS]
      ·rw[Ou h1,Ou OS]
    refine PA ?_;refine eG rfl rfl rfl rfl rfl d W O3 (fun u q I=>?_);obtain rfl:=I.bool;rw[hgk];by_cases M:out.getD k false=true
    ·rw[M]
     refine QO ?_;refine eG rfl rfl rfl rfl rfl D hkh O3 (fun u q I=>?_);obtain rfl:=I.bool;refine QO ?_;refine fu (u:=.bool a[k]) (yv:=a[k]) rfl rfl rfl rfl d W O3 O3 (Rd.mkBool _ _ _) (fun w15 q T H=>?_);have e15:Ext P w15:=A.grown H A.size (fun b j=>(d.lt b j).1);have J:=D.keptN H (fun g hg e=>by rw[hhb]at hg;cases hg;exact absurd (hslt _ e.symm) (MO _));refine PI ?_;exact EX.back (k+1,gd'.set k a[k]) OR ⟨hk',T,by simpa using r,hst _ (by rw[M,IR hkh];rfl),J,e15⟩ OX
    ·have M:out.getD k false=false:=by simpa using M
     rw[M];refine QZ ?_;refine fu (u:=.bool false) (yv:=false) rfl rfl rfl rfl d W O3 O3 (Rd.mkBool _ _ _) (fun w15 q T H=>?_);have e15:Ext P w15:=A.grown H A.size (fun b j=>(d.lt b j).1);have J:=D.keptN H (fun g hg e=>by rw[hhb]at hg;cases hg;exact absurd (hslt _ e.symm) (MO _));refine PI ?_;exact EX.back (k+1,gd'.set k false) OR ⟨hk',T,by simpa using r,hst _ (by rw[M];rfl),J,e15⟩ OX
   ·obtain rfl:k=g.length:=by simp at h;omega
    refine PJ ?_;refine EX.back (f+1,gd') OR ⟨hf',d,r,fun c o=>?_,A⟩ OX;dsimp only;rw[t c o,Ov o,JM,hr c o,G c o,←Mk hf',N8];refine N9 J8 ⟨fun⟨h1,h2⟩ F hF=>?_,fun h1=>⟨fun F hF=>h1 F (LK.2 (.inl hF)),h1 sets[f] (LK.2 (.inr OW))⟩⟩;rcases LK.1 hF with hF|hF
    ·exact h1 F hF
    ·rw[L0]at hF;subst hF;exact h2
 ·obtain rfl:f=sets.length:=by simp at h;omega
  rw[Ml]at hr
  obtain⟨oo,oc,rfl,hos⟩:=E.oldN.sl;refine P9 ?_;refine WL.call rfl rfl rfl (vL l true hos) ?_;rintro _ w4 ⟨rfl,e4⟩
  have hiff:∀c:Nat,c<g.length→(out.getD c false=true↔bT g part sets (c:Int)):=fun c o=>hr c o
  refine Pr ?_;refine be rfl rfl ⟨_,rfl,?_,hE.trans e4⟩;rcases vu m with⟨h1,h2⟩|⟨c,h1,h2,h3⟩
  ·refine .inl ⟨h1,fun c h0 h3 h4=>?_⟩
   obtain⟨c,rfl⟩:=J9 h0;have:=(hiff c OS).2 h4;rw[h2]at this
   cases this
  ·exact .inr ⟨by omega,by omega,by rw[h1];exact(hiff c h2).1 h3⟩
end Go.Proofs.YtodmkmobdmcfbaaGreat
