import Derived.Test.YtfpjecjadlgdcaaGreatDoorPtTopBounds6
set_option linter.unusedVariables false
set_option linter.unusedSimpArgs false
set_option linter.defProp false
namespace Go.Proofs.YtfpjecjadlgdcaaGreatDoor
open Go.RowKit
theorem zW{α:Type}{l:List α}(h:l.Nodup){i j:Nat}(hi:i<l.length)(c:j<l.length)(e:l[i]=l[j]):i=j:=by
 have h:=List.pairwise_iff_getElem.1 h;rcases Nat.lt_trichotomy i j with a|f|a
 ·exact absurd e (h i j hi c a)
 ·exact f
 ·exact absurd e.symm (h j i c hi a)
section
variable {P:Program}{Q:Exit→Act→World→Prop}{n:Nat}{σ:Sg}{w:World}{L rest:List Oper}{d:Nat}{ty:TypeId}{pos:String}{af:Array Edge}{g:Option (Nat×Bool)}{t k e:TypeId}{b:Nat}{ks:List Value}{x y z:Operand}{v:Value}
theorem dv(q:gd L σ ⟨some d,.lookup t x y true,ty,pos,af,g⟩=some true)(hd:Nat.ble (d+1) n=true)(l:ev σ x=some (.map (some b)))(i:ev σ y=some v)[s:IsM P t k e][u:IsKy P k][r:IsZ0 P e]
  (h:NumM P k w b ks) (m:KeyV P k v) (hn:v∉ks) (o:QL P L w Q rest n ((d,.tuple ⟨[Py 0,.bool false]⟩)::σ)):QL P L w Q (⟨some d,.lookup t x y true,ty,pos,af,g⟩::rest) n σ:=by
 refine QL.run q hd (fun a f w' c=>?_) o;rcases Ea (t:=t) (h.ext c) m with⟨_,g2⟩|⟨j,p,g1,g2⟩
 ·simp[execOp,f.ev l,f.ev i,g2]
 ·exact absurd (g1▸Lc p) hn
theorem dw{j:Nat}(m:j<ks.length)(c:ks[j]=v)(u:gd L σ ⟨some d,.lookup t x y true,ty,pos,af,g⟩=some true)(hd:Nat.ble (d+1) n=true)(q:ev σ x=some (.map (some b)))(p:ev σ y=some v)[B:IsM P t k e][C:IsKy P k][A:IsZ0 P e]
  (h:NumM P k w b ks) (r:KeyV P k v) (s:QL P L w Q rest n ((d,.tuple ⟨[Py (j:Int),.bool true]⟩)::σ)):QL P L w Q (⟨some d,.lookup t x y true,ty,pos,af,g⟩::rest) n σ:=by
 refine QL.run u hd (fun a o w' f=>?_) s;rcases Ea (t:=t) (h.ext f) r with⟨g1,_⟩|⟨i,hi,g1,g2⟩
 ·exact absurd (c▸Lc m) g1
 ·obtain⟨_,_,_,_,_,_,l⟩:=h
  obtain rfl:i=j:=zW l hi m (g1.trans c.symm);simp[execOp,o.ev q,o.ev p,g2]
end
theorem cf{P:Program}{Q:Exit→Act→World→Prop}{n:Nat}{σ:Sg}{w wc:World}{L:List Oper}{S:World→Prop}{ord:List (Nat×Bool)}{i d:Nat}{ty:TypeId}{pos:String}{af:Array Edge}{g:Option (Nat×Bool)}{t e:TypeId}{x:Operand}{b o k:Nat}{cells vs:List Value}
  (u:∀j,S j→j.heap[b]?=w.heap[b]?) (p:Ab L i=some ⟨some d,.load t x,ty,pos,af,g⟩) (q:gd L σ ⟨some d,.load t x,ty,pos,af,g⟩=some true) (hd:Nat.ble (d+1) n=true) (l:ev σ x=some (.pointer (some ⟨b,o,none⟩))) [A:IsC P t k true] (r:Blk w b e cells) (m:EB cells o k=some vs)
  (h:HL P L S Q ord n ((d,.agg vs.toArray)::σ) wc):HL P L S Q ((i,true)::ord) n σ wc:=by
 refine HL.run p q hd (fun a s w' c=>?_) h;have f:Blk w' b e cells:=(u w' c).trans r;simp[execOp,s.ev l,D1 (P:=P) (t:=t) w' f m]
def Fz(w:World)(M:Nat→Prop):Nat→Prop:=fun b=>b<w.heap.size∧¬M b
section
variable {α:Type}[Rep α]
theorem Fz.keep{w w':World}{M M':Nat→Prop}(c:Chg M w w')(d:∀b,M' b→M b∨w.heap.size≤b):(∀b,Fz w M b→w'.heap[b]?=w.heap[b]?)∧∀b,Fz w M b→Fz w' M' b:=
 ⟨fun b a=>c.block b a.1 a.2,fun b a=>⟨MQ a.1 c.size,fun h=>(d b h).elim a.2 (fun h=>absurd a.1 O7)⟩⟩
theorem Rd.fz{w w':World}{M M':Nat→Prop}{v:Value}{x:α}(h:Rd w (Fz w M) v x)(c:Chg M w w')(a:∀b,M' b→M b∨w.heap.size≤b):Rd w' (Fz w' M') v x:=h.mono (Fz.keep c a).1 (Fz.keep c a).2
theorem Sl.fz{w w':World}{M M':Nat→Prop}{ao:Option Addr}{cap:Nat}{xs:List α}(h:Sl w (Fz w M) ao cap xs)(c:Chg M w w')(a:∀b,M' b→M b∨w.heap.size≤b):Sl w' (Fz w' M') ao cap xs:=h.mono (Fz.keep c a).1 (Fz.keep c a).2
theorem Sl.old'{w:World}{M:Nat→Prop}{ao:Option Addr}{cap:Nat}{xs:List α}(h:Sl w (Fz w M) ao cap xs):Sl w (c7 w) ao cap xs:=h.mono Pq fun _ h=>h.1
theorem Chg.of_ext{w w':World}(M:Nat→Prop)(h:Ext w w'):Chg M w w':=⟨h.os,h.tape,h.output,h.size,fun k a _=>h.block k a⟩
theorem Chg.trans{M:Nat→Prop}{a b c:World}(h:Chg M a b)(k:Chg M b c):Chg M a c:=
 ⟨k.os.trans h.os,k.tape.trans h.tape,k.output.trans h.output,MN h.size k.size,fun i hi hn=>(k.block i (MQ hi h.size) hn).trans (h.block i hi hn)⟩
theorem Chg.then{M M':Nat→Prop}{a b c:World}(h:Chg M a b)(k:Chg M' b c)(e:∀i,M' i→M i∨a.heap.size≤i):Chg M a c:=
 ⟨k.os.trans h.os,k.tape.trans h.tape,k.output.trans h.output,MN h.size k.size,fun i hi hn=>(k.block i (MQ hi h.size) (fun d=>(e i d).elim hn O7)).trans (h.block i hi hn)⟩
theorem Chg.wk{M M':Nat→Prop}{a b:World}(h:Chg M a b)(d:∀i,M i→M' i):Chg M' a b:=⟨h.os,h.tape,h.output,h.size,fun i hi hn=>h.block i hi (fun c=>hn (d i c))⟩
theorem Chg.of_grown{w w':World}{row:Option Nat}(a:w.grownBy w' row):Chg (fun b=>row=some b) w w':=(Chg.refl _ w).grown a fun g h=>h
structure InnR(w:World)(M:Nat→Prop)(vs:List Raw)(xs:List (List α)):Prop where
 len:vs.length=xs.length
 el:∀i (h:i<vs.length) (h':i<xs.length),Rd w (Fz w M) vs[i].v xs[i]
theorem InnR.nil{w:World}{M:Nat→Prop}:InnR w M [] ([]:List (List α)):=⟨rfl,fun i h=>absurd h O_⟩
theorem InnR.to{w w':World}{M M':Nat→Prop}{vs:List Raw}{xs:List (List α)}(h:InnR w M vs xs)(c:Chg M w w')(a:∀b,M' b→M b∨w.heap.size≤b):InnR w' M' vs xs:=⟨h.len,fun i h1 h2=>(h.el i h1 h2).fz c a⟩
theorem InnR.push{w:World}{M:Nat→Prop}{vs:List Raw}{xs:List (List α)}{v:Value}{x:List α}(h:InnR w M vs xs)(a:Rd w (Fz w M) v x):InnR w M (vs++[(⟨v⟩:Raw)]) (xs++[x]):=by
 refine⟨by simp[h.len],fun i h1 h2=>?_⟩;rcases MR i vs.length with hi|hi
 ·rw[K7 hi,K7 (by rw[←h.len];exact hi)]
  exact h.el i hi _
 ·have b:=h.len
  obtain rfl:i=vs.length:=by simp at h1;omega
  rw[K8 Pu,K8 O7];simp only[b,M8,K_];exact a
theorem InnR.sl{w:World}{M F:Nat→Prop}{B:Nat}{e:TypeId}{v:Value}{vs:List Raw}{xs:List (List α)}(h:InnR w M vs xs)(l:Own w B e cZ v vs)(hF:∀b,Fz w M b→F b)(j:∀g,v.ownBlock=some g→F g):∃ao cap,v=.slice ao xs.length cap∧Sl w F ao cap xs:=by
 obtain⟨ao,cap,e,c⟩:=l.slF (F':=F) Pj j;refine⟨ao,cap,by rw[←h.len];exact e,⟨by rw[←h.len];exact c.le,c.mx,c.nil,fun i hi=>?_⟩⟩;have a:i<vs.length:=by rw[h.len];exact hi
 obtain⟨b,off,o,f,p,m,k⟩:=c.el i a;obtain⟨rfl,h1⟩:=k;obtain⟨io,ic,n,d⟩:=(h.el i a hi).sl;exact⟨b,off,o,f,[vs[i].v],m,io,ic,by rw[n],d.mono Pq hF⟩
theorem InnR.old{w:World}{M:Nat→Prop}{B:Nat}{e:TypeId}{v:Value}{vs:List Raw}{xs:List (List α)}(h:InnR w M vs xs)(a:Own w B e cZ v vs):∃ao cap,v=.slice ao xs.length cap∧Sl w (c7 w) ao cap xs:=
 h.sl a (fun _ h=>h.1) (fun g b=>(a.lt g b).2.1)
end
instance si:IsM Tryz.prog 220 226 3:=⟨Tryz.underlying220⟩
instance sj:IsC Tryz.prog 220 1 false:=IsC.of O8 Tryz.underlying220 rfl
instance sk:IsZ0 Tryz.prog 3:=⟨by kernel_rfl⟩
theorem m8:laidOutB Tryz.prog=true:=by kernel_rfl
instance sr:IsKy Tryz.prog 226:=IsKy.of (m:=2) m8 O9 O8 O8 NM rfl
abbrev BR(p:de):Value:=.agg ⟨[.int .i64 p.1,.int .i64 p.2]⟩
def dL(p:de):Prop:=0≤p.1∧p.1<4096∧0≤p.2∧p.2<4096
theorem BT{p:de}(h:dL p):KeyV Tryz.prog 226 (BR p):=by
 obtain⟨h1,h2,h3,h4⟩:=h;refine KeyV.pair (fa:=3) (fb:=3) O8 (fun a b=>?_) ⟨_,NM⟩ ?_ ?_
 ·obtain⟨s,c⟩:∃s,Tryz.prog.types.size=s+1:=by
   have:Nat.ble 1 Tryz.prog.types.size=true:=by kernel_rfl
   have:=MH this;exact⟨Tryz.prog.types.size -1,by omega⟩
  have d:Tryz.prog.cellsOf 3=1:=by kernel_rfl
  have e:∀(x:Int),Tryz.prog.keyLits (s+1) 3 [.int .i64 x]=if(Lit.int .i64 x).wf=true then some [.int .i64 x]else none:=fun x=>by
   rw[Nr];simp only[NU];by_cases h:(Lit.int .i64 x).wf=true<;>simp[h]
  rw[c,Nr];simp only[NM];rw[OK ⟨by kernel_rfl,by kernel_rfl⟩];simp only[LC,LD,d,KB,Mn,Mp,KA,e];by_cases h1:(Lit.int .i64 a).wf=true<;>by_cases h2:(Lit.int .i64 b).wf=true<;>simp[h1,h2]
 ·simp[Lit.wf,IntKind.min,IntKind.max,IntKind.signed,IntKind.bits];omega
 ·simp[Lit.wf,IntKind.min,IntKind.max,IntKind.signed,IntKind.bits];omega
theorem BS{p q:de}(h:BR p=BR q):p=q:=by
 obtain⟨a,b⟩:=p;obtain⟨c,d⟩:=q;simp[BR]at h
 exact Prod.ext h.1 h.2
structure EA where
 a1:Option Addr
 c1:Nat
 a2:Option Addr
 c2:Nat
 a3:Option Addr
 c3:Nat
 a4:Option Addr
 c4:Nat
 k1:Option Addr
 d1:Nat
 k2:Option Addr
 d2:Nat
 k3:Option Addr
 d3:Nat
 k4:Option Addr
 d4:Nat
 k5:Option Addr
 d5:Nat
 W:cN
 A:cD
abbrev mC(e:EA)(mb:Nat)(lv nv fv:Value):List Value:=[.slice e.a1 e.W.1.length e.c1,.slice e.a2 e.W.2.1.length e.c2,.slice e.a3 e.W.2.2.1.length e.c3,.slice e.a4 e.W.2.2.2.length e.c4,.slice e.k1 e.A.1.length e.d1,.slice e.k2 e.A.2.1.length e.d2,.slice e.k3 e.A.2.2.1.length e.d3,.slice e.k4 e.A.2.2.2.1.length e.d4,.slice e.k5 e.A.2.2.2.2.length e.d5,.map (some mb),lv,nv,fv]
structure EIn(w:World)(F:Nat→Prop)(e:EA):Prop where
 h1:Sl w F e.a1 e.c1 e.W.1
 h2:Sl w F e.a2 e.c2 e.W.2.1
 h3:Sl w F e.a3 e.c3 e.W.2.2.1
 h4:Sl w F e.a4 e.c4 e.W.2.2.2
 g1:Sl w F e.k1 e.d1 e.A.1
 g2:Sl w F e.k2 e.d2 e.A.2.1
 g3:Sl w F e.k3 e.d3 e.A.2.2.1
 g4:Sl w F e.k4 e.d4 e.A.2.2.2.1
 g5:Sl w F e.k5 e.d5 e.A.2.2.2.2
theorem EIn.to{w w':World}{F F':Nat→Prop}{e:EA}(h:EIn w F e)(a:∀b,F b→w'.heap[b]?=w.heap[b]?)(hF:∀b,F b→F' b):EIn w' F' e:=
 ⟨h.h1.mono a hF,h.h2.mono a hF,h.h3.mono a hF,h.h4.mono a hF,h.g1.mono a hF,h.g2.mono a hF,h.g3.mono a hF,h.g4.mono a hF,h.g5.mono a hF⟩
def pC(e:EA)(p:de):Bool:=pB e.A.2.2.1 e.A.2.2.2.1 p.2.toNat (e.W.2.2.1.getD p.1.toNat 0)
def InE(e:EA)(p:de):Prop:=(0≤p.1∧p.1<(e.W.2.1.length:Int))∧0≤p.2∧p.2<(e.A.2.1.length:Int)
structure OkE(e:EA):Prop where
 wn:e.W.2.1.length≤600
 an:e.A.2.1.length≤2048
 lb:e.W.2.2.1.length=e.W.2.1.length
 mu:e.A.2.2.1.length=e.A.2.1.length
 no:e.A.2.2.2.1.length=e.A.2.1.length
theorem InE.sm{e:EA}{p:de}(a:OkE e)(h:InE e p):dL p:=by
 obtain⟨⟨h1,h2⟩,h3,h4⟩:=h;have:=a.wn;have:=a.an;exact⟨h1,by omega,h3,by omega⟩
structure Em(w:World)(B:Nat)(e:EA)(sb mb:Nat)(lv nv fv:Value)(ps:List de):Prop where
 blk:Blk w sb 223 (mC e mb lv nv fv)
 num:NumM Tryz.prog 226 w mb (ps.map BR)
 lo:Own w B 226 cZ lv ps
 inn:EIn w (fun b=>b<B) e
 ge:B≤sb∧B≤mb
 ne:sb≠mb
 nl:∀g,lv.ownBlock=some g→g≠sb∧g≠mb
 nd:ps.Nodup
 ins:∀p∈ps,InE e p
 ok:OkE e
theorem Em.ext{w w':World}{B:Nat}{e:EA}{sb mb:Nat}{lv nv fv:Value}{ps:List de}(h:Em w B e sb mb lv nv fv ps)(d:B≤w.heap.size)(a:Ext w w'):Em w' B e sb mb lv nv fv ps:=
 ⟨h.blk.ext a,h.num.ext a,h.lo.extN a,h.inn.to (fun b c=>a.block b (MQ c d)) Pl,h.ge,h.ne,h.nl,h.nd,h.ins,h.ok⟩
theorem Em.len{w:World}{B:Nat}{e:EA}{sb mb:Nat}{lv nv fv:Value}{ps:List de}(h:Em w B e sb mb lv nv fv ps):ps.length≤1228800:=by
 have h1:=zV h.nd h.ins;have h2:=MV h.ok.wn h.ok.an;omega
def m7(sb mb:Nat)(lv:Value):Nat→Prop:=fun b=>b=sb∨b=mb∨lv.ownBlock=some b
set_option maxHeartbeats 2000000 in
theorem mE(w0:World){B:Nat}{e:EA}{sb mb:Nat}{lv nv fv:Value}{ps:List de}{p:de}(h:Em w0 B e sb mb lv nv fv ps)(hB:B≤w0.heap.size)(hp:InE e p):
  Rt Tryz.prog 200 [.pointer (some ⟨sb,0,none⟩),BR p].toArray w0 fun v w'=>∃lv',v=.int .i64 (if pC e p=true then(ps.idxOf p:Int)else -1)∧Em w' B e sb mb lv' nv fv (if pC e p=true then fK ps p else ps)∧
   Chg (m7 sb mb lv) w0 w'∧(∀g,lv'.ownBlock=some g→lv.ownBlock=some g∨w0.heap.size≤g):=by
 obtain⟨x,y,rfl⟩:∃x y:Nat,p=((x:Int),(y:Int)):=⟨p.1.toNat,p.2.toNat,by
  obtain⟨⟨p1,p2⟩,p3,p4⟩:=hp;exact Prod.ext (by show p.1=((p.1.toNat:Nat):Int);omega) (by show p.2=((p.2.toNat:Nat):Int);omega)⟩
 have K:=BT (hp.sm h.ok);have hlen:=h.len;have R:BR ((x:Int),(y:Int))∈ps.map BR↔((x:Int),(y:Int))∈ps:=by
  rw[LU];exact⟨fun⟨q,h1,h2⟩=>by rw[←BS h2];exact h1,fun h=>⟨_,h,rfl⟩⟩
 refine dE Tryz.func200 Tryz.ntmps200 rfl rfl ?_;refine PB ?_;refine dX rfl rfl rfl fun Q E e1=>?_
 have h1:=h.ext hB e1;have m:=h1.blk;have z1:=e1.size;have l3:=E.lt;obtain⟨lo,lc,rfl⟩:=h.lo.val;have N:=h.ok;have hxl:x<e.W.2.2.1.length:=by have:=hp.1.2;have:=N.lb;dsimp only at*;omega
 have hym:y<e.A.2.2.1.length:=by have:=hp.2.2;have:=N.mu;dsimp only at*;omega
 have hyn:y<e.A.2.2.2.1.length:=by have:=hp.2.2;have:=N.no;dsimp only at*;omega
 have hI:=h1.inn.to (F':=c7 Q) Pq (fun b o=>(show b<Q.heap.size by omega));have hfe:pC e ((x:Int),(y:Int))=pB e.A.2.2.1 e.A.2.2.2.1 y e.W.2.2.1[x]:=by
  unfold pC;dsimp only;rw[Kb,Kb,KT,KY hxl];rfl
 have hSE:∀z,(fun z:World=>Ext Q z) z→Ext Q z:=fun _ h=>h
 generalize hpp:(((x:Int),(y:Int)):de)=pp at*
 have hp1:pp.1=(x:Int):=by rw[←hpp]
 have hp2:pp.2=(y:Int):=by rw[←hpp]
 refine Qt ?_;refine aF (fun z=>Ext Q z) [(0,true),(1,true),(2,true),(3,true),(4,true),(5,true),(6,true),(7,true),(8,true),(9,true),(10,true),(11,true),(12,true),(13,true),(14,true),(15,false),(16,true)] mixed O8 (Ext.drew Q) ?_;refine RO ?_;rw[hp1,hp2];refine bZ (α:=Nat) (k:=x) hSE rfl rfl rfl rfl rfl rfl rfl Pl hI.h3 hxl Pg (fun u q hu=>?_);obtain⟨rfl,hu64⟩:=hu.u64;skip;have hd:=Ext.drew Q;refine cr rfl (WL.call rfl rfl rfl (bM (drew Q) (hI.g3.at hd) (hI.g4.at hd) y e.W.2.2.1[x] hym hyn hu64) ?_);rintro _ w2 ⟨rfl,e2⟩
 have e2:=hd.trans e2;refine WL.nil (a_ e2 ?_);rw[←hfe];refine RR ?_;have M:=e1.trans e2;by_cases C:pC e pp=true
 case neg=>
  have C:pC e pp=false:=by simpa using C
  rw[C];refine Q6 ?_;exact be rfl rfl ⟨.slice lo ps.length lc,rfl,by simpa using h.ext hB M,⟨M.os,M.tape,M.output,M.size,fun b o _=>M.block b o⟩,fun g w=>.inl w⟩
 rw[C,OK rfl,OK rfl];apply bz;refine aw rfl ?_;apply CW.skip;apply bz;have h2:=h.ext hB M;have T:=E.ext e2;have hz2:=M.size;refine aA [(0,.pointer (some ⟨sb,0,none⟩)),(3,.pointer (some ⟨w0.heap.size,0,none⟩)),(5,.int .i64 (if pp∈ps then(ps.idxOf pp:Int)else 0)),(6,.bool (decide (pp∈ps)))] ?_ (fun s e3=>?_)
 ·have m:=h2.blk
  by_cases c:pp∈ps
  ·rw[OK c,OC c]
   obtain⟨j,hj,hjm⟩:=LT.1 c;have W:ps.idxOf pp=j:=by rw[←hjm];exact h.nd.idxOf_getElem j hj
   rw[W];refine Rg ?_;refine dw (j:=j) (by simpa using hj) (by rw[Lb,hjm]) rfl rfl rfl rfl h2.num K ?_;refine Rl ?_;refine QL.nil (fun s e3=>?_);exact aT O6 e3
  ·rw[OJ c,Oz c]
   refine Rg ?_;refine dv rfl rfl rfl rfl h2.num K (fun h=>c (R.1 h)) ?_;refine Rl ?_;refine QL.nil (fun s e3=>?_);exact aT O6 e3
 have A:=M.trans e3;have h3:=h.ext hB A;have E:=T.ext e3;have hz3:=A.size;have d:Chg (m7 sb mb (.slice lo ps.length lc)) w0 s:=⟨A.os,A.tape,A.output,A.size,fun b o _=>A.block b o⟩;clear h1 m hI hSE T h2 e2 e1 M hd;by_cases c:pp∈ps
 ·rw[OK c,OC c,show fK ps pp=ps from OK c]
  refine Qh ?_;exact be rfl rfl ⟨.slice lo ps.length lc,rfl,h3,d,fun g w=>.inl w⟩
 rw[OJ c,Oz c,show fK ps pp=ps++[pp] from OJ c];have W:=vv c;have m:=h3.blk;have hmb0:=h.num.lt;have hsb0:=h.blk.lt;have J:=h.lo.lt;have O:=h.ne;have t:=h.nl;have hl3x:=E.lt;rw[W];have f:Ext s (drew s):=Ext.drew s;have i:=m.ext f;have n:=E.ext f;have P:∀u,(fun x:World=>x.heap[w0.heap.size]?=(drew s).heap[w0.heap.size]?∧x.heap[sb]?=(drew s).heap[sb]?) u→u.heap[w0.heap.size]?=(drew s).heap[w0.heap.size]?:=fun _ h=>h.1
 have hKs:∀u,(fun x:World=>x.heap[w0.heap.size]?=(drew s).heap[w0.heap.size]?∧x.heap[sb]?=(drew s).heap[sb]?) u→u.heap[sb]?=(drew s).heap[sb]?:=fun _ h=>h.2
 refine QQ ?_;refine aF (fun x:World=>x.heap[w0.heap.size]?=(drew s).heap[w0.heap.size]?∧x.heap[sb]?=(drew s).heap[sb]?) [(0,true),(1,true),(2,true),(3,true),(4,true),(5,true),(6,false)] mixed O8 ⟨rfl,rfl⟩ ?_;refine RJ ?_;refine cf P rfl rfl rfl rfl n rfl ?_;refine RE ?_;refine cr rfl (fk (ks:=ps.map BR) rfl rfl rfl (by simp[ev,fnd,Ls]) (h3.num.ext f) K (fun h=>c (R.1 h)) (fun r V l=>?_));have hzd:=f.size;refine WL.nil (a_ ⟨?_,?_⟩ (HL.nil ?_))
 ·exact l.block _ O7 Po
 ·exact l.block _ O7 (fun e=>O (Nn e))
 have hz4:=l.size;have L:=i.kept l (fun e=>O (Nn e));have S:=n.kept l Po;have hlo4:=(h3.lo.extN f).keptN l (fun g w e=>(t g w).2 (Nn e));have G:Chg (m7 sb mb (.slice lo ps.length lc)) w0 r:=(⟨f.os.trans d.os,f.tape.trans d.tape,f.output.trans d.output,MN d.size f.size,fun b o hn=>(f.block b (MQ o d.size)).trans (d.block b o hn)⟩:Chg _ w0 (drew s)).grown l (fun g w=>by cases w;exact .inr (.inl rfl));clear i n P hKs f hzd l m E;have f:Ext r (drew r):=Ext.drew r;have i:=L.ext f;have n:=S.ext f;have hlsb:=L.lt;have hl3:=S.lt;have P:∀u,(fun x:World=>x.heap[w0.heap.size]?=(drew r).heap[w0.heap.size]?∧x.heap[sb]?=(drew r).heap[sb]?) u→u.heap[w0.heap.size]?=(drew r).heap[w0.heap.size]?:=fun _ h=>h.1
 have hKs:∀u,(fun x:World=>x.heap[w0.heap.size]?=(drew r).heap[w0.heap.size]?∧x.heap[sb]?=(drew r).heap[sb]?) u→u.heap[sb]?=(drew r).heap[sb]?:=fun _ h=>h.2
 have hzd:=f.size;refine PC ?_;refine aE (fun x:World=>x.heap[w0.heap.size]?=(drew r).heap[w0.heap.size]?∧x.heap[sb]?=(drew r).heap[sb]?) [(0,true),(1,true),(2,true),(3,true),(4,true),(5,true),(6,false),(7,false),(8,false),(9,false)] 10 mixed O8 ⟨rfl,rfl⟩ ?_;refine RJ ?_;refine cf P rfl rfl rfl rfl n rfl ?_;refine bV (α:=Int×Int) (F:=cZ) (bytes:=16) (yv:=pp) rfl rfl rfl rfl Pg rfl rfl Pg (hlo4.extN f) (Rd.mkPr (c1:=[.int .i64 pp.1]) (c2:=[.int .i64 pp.2]) (C5 _ _ _) (C5 _ _ _)) O7 Pj O9 Pb O7
  (fun z hz=>⟨hz.block _ O7 (fun e=>by have:=J _ e.symm;omega),hz.block _ O7 (fun e=>(t _ e.symm).1 rfl)⟩) (fun cl w5 q5 ho5 D I=>?_)
 obtain⟨lo',lc',rfl⟩:=ho5.val;have Z:=i.kept D (fun e=>(t _ e.symm).1 rfl);have U:=(V.ext f).kept D (fun e=>(t _ e.symm).2 rfl);have hS5:w5.heap[w0.heap.size]?=(drew r).heap[w0.heap.size]?∧w5.heap[sb]?=(drew r).heap[sb]?:=⟨D.block _ O7 (fun e=>by have:=J _ e.symm;omega),D.block _ O7 (fun e=>(t _ e.symm).1 rfl)⟩;refine cr rfl (fh rfl rfl rfl (WL.nil (a_ hS5 ?_)));refine cr rfl (eG rfl rfl rfl (WL.nil (a_ hS5 (HL.nil ?_))));refine bp rfl (WL.st rfl rfl rfl Z rfl rfl Pr (fun w6 Y X=>WL.nil (bu ?_)));have hlo6:=ho5.keptN X (fun g w e=>by
  rcases I g w with h|h
  ·exact(t g h).1 (Nn e)
  ·have:=Nn e;omega)
 have H:=U.kept X (fun e=>O (Nn e).symm);have hC5:=(⟨f.os.trans G.os,f.tape.trans G.tape,f.output.trans G.output,MN G.size f.size,fun b o hn=>(f.block b (MQ o G.size)).trans (G.block b o hn)⟩:Chg (m7 sb mb (.slice lo ps.length lc)) w0 (drew r)).grown D (fun g w=>.inr (.inr w));have hC6:=hC5.grown X Pp;have hz5:=D.size;rw[show ps.map BR++[BR pp]=(ps++[pp]).map BR by simp]at H
 have hge:=h.ge;have hSb:∀b,m7 sb mb (.slice lo ps.length lc) b→B≤b:=fun b o=>by
  rcases o with h'|h'|h'
  ·omega
  ·omega
  ·exact(J b h').1
 refine QO ?_;refine be rfl rfl ⟨.slice lo' (ps++[pp]).length lc',rfl,⟨Y,H,hlo6,h.inn.to (fun b o=>hC6.block b O7 (fun hs=>by have:=hSb b hs;omega)) Pl,hge,O,fun g w=>?_,?_,fun q hq=>?_,N⟩,hC6,fun g w=>?_⟩
 ·rcases I g w with h|h
  ·exact t g h
  ·exact⟨by omega,by omega⟩
 ·rw[L3]
  refine⟨h.nd,Ma _ _,fun a ha b o e'=>?_⟩;rw[L0]at o
  exact c (by rw[←o,←e'];exact ha)
 ·rcases LK.1 hq with hq|hq
  ·exact h.ins q hq
  ·rw[L0]at hq;rw[hq];exact hp
 ·rcases I g w with h|h
  ·exact .inl h
  ·exact .inr O7
theorem Em.chg{S:Nat→Prop}{w w':World}{B:Nat}{e:EA}{sb mb:Nat}{lv nv fv:Value}{ps:List de}(h:Em w B e sb mb lv nv fv ps)(d:B≤w.heap.size)(a:Chg S w w')(hS:∀b,S b→B≤b∧b≠sb∧b≠mb∧lv.ownBlock≠some b):Em w' B e sb mb lv nv fv ps:=
 ⟨(a.block sb h.blk.lt (fun k=>(hS _ k).2.1 rfl)).trans h.blk,h.num.at (a.block mb h.num.lt (fun k=>(hS _ k).2.2.1 rfl)),h.lo.chg a (fun b c k=>(hS b k).2.2.2 c),h.inn.to (fun b c=>a.block b (MQ c d) (fun k=>by have:=(hS b k).1;omega)) Pl,h.ge,h.ne,h.nl,h.nd,h.ins,h.ok⟩
structure CrI(w0 w:World)(B:Nat)(e:EA)(sb mb:Nat)(lv0 lv ov nv fv:Value)(ps:List de)(out:List Int):Prop where
 em:Em w B e sb mb lv nv fv ps
 own:Own w w0.heap.size 3 cZ ov out
 chg:Chg (m7 sb mb lv0) w0 w
 new:∀g,lv.ownBlock=some g→lv0.ownBlock=some g∨w0.heap.size≤g
 dis:∀g,ov.ownBlock=some g→lv.ownBlock≠some g
theorem Bt{x:Int}{l k:List Int}:Bs (x::l) k=(k.map fun y=>(x,y))++Bs l k:=rfl
theorem Bu(l k:List Int):(Bs l k).length=l.length*k.length:=by
 unfold Bs
 induction l with
 |nil=>simp
 |cons x r a=>rw[KN,Ll,a,Ls,Lm,Nat.succ_mul];omega
set_option maxHeartbeats 2000000 in
theorem kT(w0:World){B:Nat}{e:EA}{sb mb:Nat}{lv nv fv:Value}{ps:List de}{lo ko:Option Addr}{W kc:Nat}{l k:List Int}(h:Em w0 B e sb mb lv nv fv ps)(hB:B≤w0.heap.size)(K:Sl w0 (fun b=>b<B) lo W l)(hk:Sl w0 (fun b=>b<B) ko kc k)
  (okl:AF e.W.2.1.length l) (okk:AF e.A.2.1.length k) (Z:l.length≤1048576) (hkn:k.length≤1048576):
  Rt Tryz.prog 122 [Pz sb,.slice lo l.length W,.slice ko k.length kc].toArray w0 fun v w'=>∃lv',CrI w0 w' B e sb mb lv lv' v nv fv (CH (pC e) (Bs l k) ps []).1 (CH (pC e) (Bs l k) ps []).2:=by
 have hT:(Bs l k).length≤1099511627776:=by rw[Bu];exact MV Z hkn
 have hge:=h.ge;have hsb0:=h.blk.lt;have hmb0:=h.num.lt;have N:=h.lo.lt;have V:∀b,m7 sb mb lv b→B≤b:=fun b m=>by
  rcases m with o|o|o
  ·omega
  ·omega
  ·exact(N b o).1
 generalize hG:CH (pC e) (Bs l k) ps []=G at*
 refine dF Tryz.func122 Tryz.ntmps122 rfl rfl ?_;refine Q3 ?_;refine CW.loop (S:=Nat×Value×Value×List de×List Int) (fun s=>[(0,Pz sb),(2,.slice ko k.length kc),(7,s.2.2.1),(13,.slice lo l.length W),(14,Py l.length),(15,Py s.1)])
  (fun s w=>s.1≤l.length∧CH (pC e) (Bs (l.drop s.1) k) s.2.2.2.1 s.2.2.2.2=G∧CrI w0 w B e sb mb lv s.2.1 s.2.2.1 nv fv s.2.2.2.1 s.2.2.2.2∧s.2.2.2.2.length+(Bs (l.drop s.1) k).length≤(Bs l k).length)
  (fun s=>l.length -s.1) (0,lv,.slice none 0 0,ps,[]) O6 ⟨Nc _,hG,⟨h,Own.nil,Chg.refl _ _,fun g f=>.inl f,fun g f=>by cases f⟩,by simp⟩ ?_
 rintro⟨i,lv1,ov,ps1,out⟩ z ⟨hi,a,c,n⟩
 dsimp only at hi a c n⊢
 refine Qt ?_;apply CW.cond rfl<;>intro U
 ·have u:i<l.length:=by simp at U;omega
  rw[Kx u,Bt]at a n
  have P:=K.mono (w':=z) (fun b m=>c.chg.block b O7 (fun H=>by have:=V b H;omega)) (F':=c7 z) (fun b m=>by have:=c.chg.size;exact(show b<z.heap.size by omega));have Y:=okl _ (Lc u);refine Rb ?_;refine eB rfl rfl rfl rfl rfl P u rfl Pg (fun q=>?_);generalize l[i]=x at*
  generalize hR:Bs (l.drop (i+1)) k=R at*
  refine Q3 ?_;refine CW.loop (S:=Nat×Value×Value×List de×List Int) (fun s=>[(0,Pz sb),(2,.slice ko k.length kc),(7,s.2.2.1),(9,Py x),(13,.slice lo l.length W),(14,Py l.length),(15,Py i),(19,.slice ko k.length kc),(20,Py k.length),(21,Py s.1)])
   (fun s w=>s.1≤k.length∧CH (pC e) (((k.drop s.1).map fun y=>(x,y))++R) s.2.2.2.1 s.2.2.2.2=G∧CrI w0 w B e sb mb lv s.2.1 s.2.2.1 nv fv s.2.2.2.1 s.2.2.2.2∧s.2.2.2.2.length+(k.length -s.1)+R.length≤(Bs l k).length)
   (fun s=>k.length -s.1) (0,lv1,ov,ps1,out) O6 ⟨Nc _,a,c,by simp only[Ll,Ls]at n;dsimp only;omega⟩ ?_
  clear a c n P;rintro⟨j,lv1,ov,ps1,out⟩ z ⟨hj,a,c,n⟩
  dsimp only at hj a c n⊢
  have z1:=c.chg.size;refine Qt ?_;apply CW.cond rfl<;>intro U
  ·have r:j<k.length:=by simp at U;omega
   rw[Kx r,LG,Kl,CH]at a
   have hk1:=hk.mono (w':=z) (fun b m=>c.chg.block b O7 (fun H=>by have:=V b H;omega)) (F':=c7 z) (fun b m=>(show b<z.heap.size by omega));have X:=okk _ (Lc r);refine Rb ?_;refine eB rfl rfl rfl rfl rfl hk1 r rfl Pg (fun q=>?_);generalize k[j]=y at*
   have hin:InE e (x,y):=⟨Y,X⟩;refine Qt ?_;refine WL.build rfl rfl rfl rfl ?_;have D:=mE z c.em O7 hin;rw[show BR (x,y)=.agg [Py x,Py y].toArray from rfl]at D
   refine WL.call rfl rfl rfl D ?_;rintro _ w2 ⟨lv2,rfl,t,J,M⟩
   have C:=fun g f=>c.own.lt g f
   have hll1:=fun g f=>c.em.lo.lt g f
   have z2:=J.size;have p:=c.own.chg J (fun b m H=>by
    have:=C b m;rcases H with o|o|o
    ·omega
    ·omega
    ·exact c.dis b m o)
   have E:Chg (m7 sb mb lv) w0 w2:=c.chg.then J (fun b H=>by
    rcases H with o|o|o
    ·exact .inl (.inl o)
    ·exact .inl (.inr (.inl o))
    ·exact(c.new b o).imp (fun h=>.inr (.inr h)) id)
   have A:∀g,lv2.ownBlock=some g→lv.ownBlock=some g∨w0.heap.size≤g:=fun g f=>(M g f).elim (c.new g) (fun h=>.inr O7)
   have I:∀g,ov.ownBlock=some g→lv2.ownBlock≠some g:=fun g f K=>(M g K).elim (c.dis g f) (fun h=>by have:=(C g f).2;omega)
   by_cases hf:pC e (x,y)=true
   ·rw[OK hf]at a t
    rw[OK hf];have Q:decide (((ps1.idxOf (x,y):Nat):Int)≥0)=true:=OC O7;refine Ra ?_;rw[Q];skip;refine dW (α:=Int) (F:=cZ) (bytes:=8) (yv:=((ps1.idxOf (x,y):Nat):Int)) rfl rfl Pg rfl rfl Pg p Pt O7 Pj O9 Pb O7 (fun ov' w3 q ho3 T L=>?_);have O:=fun g f=>t.lo.lt g f
    have d:=fun g f=>p.lt g f
    have hE3:=t.chg O7 (Chg.of_grown T) (fun b m=>⟨by have:=(d b m).1;omega,by have:=(d b m).1;omega,by have:=(d b m).1;omega,I b m⟩);refine Qc ?_;exact EX.back (j+1,lv2,ov',_,_) O6 ⟨r,a,⟨hE3,ho3,E.then (Chg.of_grown T) (fun b m=>.inr (d b m).1),A,fun g f K=>(L g f).elim (fun h=>I g h K) (fun h=>by have:=(O g K).2.1;omega)⟩,by simp;omega⟩ Pa
   ·rw[OJ hf]at a t
    rw[OJ hf];refine Qx ?_;exact EX.back (j+1,lv2,ov,_,_) O6 ⟨r,a,⟨t,p,E,A,I⟩,by dsimp only;omega⟩ Pa
  ·obtain rfl:j=k.length:=by simp at U;omega
   rw[Kz,LI,L2]at a
   refine Qe ?_;exact EX.back (i+1,lv1,ov,ps1,out) O6 ⟨u,by rw[hR];exact a,c,by dsimp only;rw[hR];omega⟩ Pa
 ·obtain rfl:i=l.length:=by simp at U;omega
  rw[Kz]at a
  have a:(ps1,out)=G:=a;subst a;refine P_ ?_;exact be rfl rfl ⟨lv1,c⟩
instance ss:IsT Tryz.prog 80 Raw:=IsT.of O8 N_ rfl
instance su:IsZ Tryz.prog 80 (⟨.slice none 0 0⟩:Raw) 24:=IsZ.of (z:=.slice none 0 0) O8 (fun _ _=>⟨rfl,rfl⟩)
theorem C7{w:World}{F:Nat→Prop}{v:Value}{x:de}(h:Rd w F v x):v=BR x:=by
 obtain⟨c1,c2,rfl,h1,h2⟩:=h.pr;rw[C3 h1,C3 h2];rfl
theorem nD(w:World)(p:de):Rt Tryz.prog 203 [BR p].toArray w fun v w'=>v=Py p.1∧Ext w w':=by
 refine dD Tryz.func203 Tryz.ntmps203 rfl rfl ?_;refine PB ?_;refine dX rfl rfl rfl fun c a b=>?_
 refine Q8 ?_;exact be rfl rfl ⟨rfl,b⟩
theorem nE(w:World)(p:de):Rt Tryz.prog 204 [BR p].toArray w fun v w'=>v=Py p.2∧Ext w w':=by
 refine dD Tryz.func204 Tryz.ntmps204 rfl rfl ?_;refine PB ?_;refine dX rfl rfl rfl fun c a b=>?_
 refine Q8 ?_;exact be rfl rfl ⟨rfl,b⟩
set_option maxHeartbeats 1000000 in
theorem nr(w0:World){b1 f sb B2 n:Nat}{x0 x1 x2 x3 x4 x5 x6 x7 x8 x9 x11 x12 ov ofv:Value}{lo fo:Option Addr}{lc fc:Nat}{ps:List de}{Fl:List Int}{vs:List Raw}{xs:List (List Bool)}{of:de→Int}
  (hb1:Blk w0 b1 219 [Pz sb]) (hb:Blk w0 sb 223 [x0,x1,x2,x3,x4,x5,x6,x7,x8,x9,.slice lo ps.length lc,x11,x12]) (hbo:Blk w0 f 200 [ov]) (hn:Own w0 B2 80 cZ ov vs) (hB:B2≤w0.heap.size)
  (inn:InnR w0 (fun b=>b=f∨ov.ownBlock=some b) vs xs) (U:Sl w0 (c7 w0) lo lc ps) (hfr:Sl w0 (c7 w0) fo fc Fl) (hok:AF n Fl) (hnn:n≤1099511627776)
  (hof:∀w p,p∈ps→FnV Tryz.prog ofv [BR p] w fun v w'=>v=Py (of p)∧Ext w w') (X:∀p∈ps,0≤of p∧of p<n) (hps:ps.length≤1228800) (hxs:xs.length≤4096) (Q:∀g,ov.ownBlock=some g→g≠f):
  Rt Tryz.prog 202 [.slice fo Fl.length fc,ofv,Py (n:Int),Pz b1,Pz f].toArray w0 fun v w'=>∃ov' vs',Blk w' f 200 [ov']∧Own w' B2 80 cZ ov' vs'∧
   InnR w' (fun b=>b=f∨ov'.ownBlock=some b) vs' (xs++[ps.map fun p=>decide (of p∈Fl)])∧Chg (fun b=>b=f∨ov.ownBlock=some b) w0 w'∧∀g,ov'.ownBlock=some g→ov.ownBlock=some g∨w0.heap.size≤g:=by
 have hfl:=hfr.len63;have hll:=U.len63;have hlbo:=hbo.lt;refine dH Tryz.func202 Tryz.ntmps202 rfl rfl ?_;refine PW ?_;refine eW (α:=Bool) rfl rfl rfl rfl O7 Pb (fun w1 ho1 hg1=>?_);have hE1:Ext w0 w1:=(JI _ _).grown hg1 Pu Pn;generalize hsv:Value.slice (some ⟨w0.heap.size,0,none⟩) n n=sv at*
 refine Q3 ?_;refine CW.loop (S:=Nat×List Bool) (fun s=>[(1,ofv),(3,Pz b1),(4,Pz f),(8,sv),(16,.slice fo Fl.length fc),(17,Py Fl.length),(18,Py s.1)])
  (fun s w=>s.1≤Fl.length∧Own w w0.heap.size 4 cZ sv s.2∧s.2.length=n∧(∀c:Nat,c<n→(s.2.getD c false=true↔(c:Int)∈Fl.take s.1))∧Ext w0 w) (fun s=>Fl.length -s.1) (0,List.replicate n false) O6
  ⟨Nc _,ho1,by simp,fun c B=>by simp[K3,B],hE1⟩ ?_
 clear ho1 hg1 hE1;rintro⟨i,il⟩ w ⟨hi,O,Y,hr,G⟩
 dsimp only at hi O Y hr⊢
 refine Qt ?_;apply CW.cond rfl<;>intro h
 ·have A:i<Fl.length:=by simp at h;omega
  have hxr:=hok _ (Lc A);have htk:Fl.take (i+1)=Fl.take i++[Fl[i]]:=Mo A;refine Rb ?_;refine eB rfl rfl rfl rfl rfl (hfr.up G) A rfl Pg (fun q=>?_);generalize Fl[i]=x at*
  obtain⟨c0,rfl⟩:=J7 hxr.1;refine Qq ?_;refine ft (u:=.bool true) (yv:=true) rfl rfl rfl rfl O (show c0<il.length by omega) Pg Pg (Rd.mkBool _ _ _) (fun w4 q2 ho4 r=>?_);have hE4:Ext w0 w4:=G.grown r G.size (fun b hb=>(O.lt b hb).1);refine Qc ?_;refine EX.back (i+1,il.set c0 true) O6 ⟨A,ho4,by simpa using Y,fun c B=>?_,hE4⟩ Pa;dsimp only;rw[qV O7,htk,LK,L0];by_cases e:c0=c
  ·subst e;simp
  ·rw[OJ e,hr c B]
   exact⟨.inl,fun h=>h.resolve_right (fun h=>e O7)⟩
 obtain rfl:i=Fl.length:=by simp at h;omega
 clear h hi;rw[Mk]at hr
 have hbit:∀p∈ps,∀c:Nat,of p=(c:Int)→il.getD c false=decide (of p∈Fl):=fun p hp c B=>by
  have h1:=X p hp;rw[JN,hr c O7,B];simp
 have t:=hb1.ext G;have K:=hb.ext G;have hzw:=G.size;have hltw:=fun g d=>O.lt g d
 obtain⟨mo,mc,rfl,hms⟩:=O.oldN.sl;refine Qy ?_;refine eW (α:=Bool) rfl rfl rfl rfl O7 Pb (fun w2 ho2 Z=>?_);have D:Ext w w2:=(JI _ _).grown Z Pu Pn;generalize hsv2:Value.slice (some ⟨w.heap.size,0,none⟩) ps.length ps.length=sv2 at*
 have t:=t.ext D;have K:=K.ext D;refine QE ?_;refine CW.loop (S:=Nat×List Bool) (fun s=>[(1,ofv),(4,Pz f),(8,.slice mo il.length mc),(11,sv2),(35,.slice lo ps.length lc),(36,Py ps.length),(37,Py s.1)])
  (fun s u=>s.1≤ps.length∧Own u w.heap.size 4 cZ sv2 s.2∧s.2.length=ps.length∧(∀c:Nat,c<s.1→s.2.getD c false=decide (of (ps.getD c (0,0))∈Fl))∧Ext w u) (fun s=>ps.length -s.1) (0,List.replicate ps.length false) O6
  ⟨Nc _,ho2,by simp,fun c B=>absurd B O_,D⟩ ?_
 clear ho2 Z D t K;rintro⟨j,sl⟩ w3 ⟨hj,ho3,I,m,C⟩
 dsimp only at hj ho3 I m⊢
 refine Qt ?_;apply CW.cond rfl<;>intro h
 ·have z:j<ps.length:=by simp at h;omega
  clear h;have J:=Lc z;have hpg:ps.getD j (0,0)=ps[j]:=by rw[KT,KY z];rfl
  have hip:=X _ J;refine PX ?_;refine eC (i:=j) rfl rfl rfl rfl rfl (U.up (G.trans C)) z Pg (fun u q hu=>?_);rw[C7 hu];clear hu;generalize ps[j]=p at*
  skip;refine WL.alloc rfl rfl (fun w4 hb4 e4=>?_);refine Ri ?_;refine WL.st rfl rfl rfl hb4 rfl rfl Pr (fun w5 hb5 l=>?_);have e5:Ext w3 w5:=JG e4 l e4.size Pi;clear l e4 hb4;refine Q4 ?_;refine d7 rfl rfl rfl rfl (hof w5 p J) ?_;rintro _ w6 ⟨rfl,e6⟩
  have e36:=e5.trans e6;have L:=C.trans e36;have ho6:=ho3.extN e36;obtain⟨k,hk⟩:∃k:Nat,of p=(k:Int):=⟨(of p).toNat,by omega⟩;have hkn:k<n:=by omega
  have hbk:=hbit p J k hk;rw[hk];skip;refine eA rfl rfl rfl rfl rfl (hms.up L) (i:=k) O7 (y:=decide (of p∈Fl)) (by rw[←hbk,KT,KY O7];rfl) Pg (fun q=>?_);refine ft (yv:=decide (of p∈Fl)) rfl rfl rfl rfl ho6 (show j<sl.length by omega) Pg Pg (Rd.mkBool _ _ _) (fun w7 q2 ho7 hg7=>?_);have hE7:Ext w w7:=L.grown hg7 L.size (fun b hb=>(ho6.lt b hb).1);refine Qc ?_;refine EX.back (j+1,sl.set j (decide (of p∈Fl))) O6 ⟨z,ho7,by simpa using I,fun c B=>?_,hE7⟩ Pa;dsimp only at B⊢
  rw[qV O7];by_cases e:j=c
  ·subst e;rw[OK rfl,hpg]
  ·rw[OJ e];exact m c O7
 obtain rfl:j=ps.length:=by simp at h;omega
 have M:sl=ps.map fun p=>decide (of p∈Fl):=by
  refine KD (by rw[Ls];exact I) fun i h1 h2=>?_
  have h3:i<ps.length:=by omega
  have h4:=m i h3;rw[KT,KY h1,KT,KY h3]at h4
  rw[Lb];exact h4
 subst M;have a:=G.trans C;have hbo3:=hbo.ext a;have R:=hn.extN a;have hz3:=C.size;obtain⟨so,sc,rfl⟩:=ho3.val;have E:=fun g d=>ho3.lt g d
 have T:=fun g d=>hn.lt g d
 have hcsl:=inn.len;obtain⟨vo,vc,rfl⟩:=R.val;refine QT ?_;refine dW (α:=Raw) (F:=cZ) (bytes:=24) (yv:=(⟨.slice so (ps.map fun p=>decide (of p∈Fl)).length sc⟩:Raw)) rfl rfl Pg rfl rfl Pg R (Rd.mkRaw _ _ _ rfl) O7 Pj O9 Pb O7 (fun nv' w4 q ho4 r o=>?_);obtain⟨nvo,nvc,rfl⟩:=ho4.val;have hbo4:=hbo3.kept r (fun e=>Q _ e.symm rfl);have z4:=r.size;skip;refine WL.st rfl rfl rfl hbo4 rfl rfl Pr (fun w5 hb5 l=>?_);have z5:=l.size;have P:∀g,(Value.slice nvo (vs++[(⟨.slice so (ps.map fun p=>decide (of p∈Fl)).length sc⟩:Raw)]).length nvc).ownBlock=some g→g≠f:=fun g d=>by
  rcases o g d with h|h
  ·exact Q g h
  ·omega
 have ho5:=ho4.keptN l (fun g d e=>P g d (Nn e));have N:Rd w3 (Fz w3 (fun b=>b=f∨Value.ownBlock (.slice vo vs.length vc)=some b)) (.slice so (ps.map fun p=>decide (of p∈Fl)).length sc) (ps.map fun p=>decide (of p∈Fl)):=
  ho3.rd.mono Pq (fun g d=>d.elim (fun h=>h.elim) (fun d=>⟨(E g d).2.1,fun h=>by
   have h1:=(E g d).1;rcases h with h|h
   ·omega
   ·have:=(T g h).2.1;omega⟩))
 have W:=(inn.to (Chg.of_ext _ a) (fun b h=>.inl h)).push N;have H:Chg (fun b=>b=f∨Value.ownBlock (.slice vo vs.length vc)=some b) w3 w5:=((Chg.of_grown r).wk (fun b h=>.inr h)).grown l Pp;have V:=W.to H (M':=fun b=>b=f∨(Value.slice nvo (vs++[(⟨.slice so (ps.map fun p=>decide (of p∈Fl)).length sc⟩:Raw)]).length nvc).ownBlock=some b) (fun b h=>by
  rcases h with h|h
  ·exact .inl (.inl h)
  ·exact(o b h).imp .inr id)
 have hC5:=(Chg.of_ext (fun b=>b=f∨Value.ownBlock (.slice vo vs.length vc)=some b) a).trans H;refine PZ ?_;exact aV rfl ⟨_,_,hb5,ho5,V,hC5,fun g d=>(o g d).imp id (fun h=>by have:=a.size;omega)⟩
def E4(W:List Int×List (List Int)×List Nat×List (List Int))(A:cD)(ps:List de):List (List Bool):=W.2.2.2.map (fun F=>ps.map fun p=>decide (p.1∈F))++A.2.2.2.2.map fun F=>ps.map fun p=>decide (p.2∈F)
set_option maxHeartbeats 2000000 in
theorem nG(w0:World){B:Nat}{e:EA}{sb mb:Nat}{lv nv fv:Value}{ps:List de}(h:Em w0 B e sb mb lv nv fv ps)(hB:B≤w0.heap.size)(U:∀r∈e.W.2.2.2,AF e.W.2.1.length r)(T:∀r∈e.A.2.2.2.2,AF e.A.2.1.length r)
  (hl1:e.W.2.2.2.length≤80) (hl2:e.A.2.2.2.2.length≤80):
  Rt Tryz.prog 124 [Pz sb].toArray w0 fun v w'=>∃so sc,v=.slice so (E4 e.W e.A ps).length sc∧Sl w' (c7 w') so sc (E4 e.W e.A ps)∧Ext w0 w':=by
 have L:=h.ok;have hwn:=L.wn;have han:=L.an;have J:=h.len;have Y:=h.blk.lt;obtain⟨lo,X,rfl⟩:=h.lo.val;obtain⟨lo',lc',V,R⟩:=h.lo.oldN.sl;have V:=Oi V;obtain⟨rfl,-,rfl⟩:=V;refine dD Tryz.func124 Tryz.ntmps124 rfl rfl ?_;refine PB ?_;refine dX rfl rfl rfl fun w1 o Z=>?_
 have l10:=o.lt;refine Qt ?_;refine WL.alloc rfl rfl (fun t P W=>?_);have o:=o.ext W;have x:=Z.trans W;have z1:=Z.size;have z2:=W.size;have l1:=o.lt;have l3:=P.lt;generalize hbo:w1.heap.size=k at*
 generalize Q:w0.heap.size=b1 at*
 have G:b1<k:=by omega
 have M:=R.mono (w':=t) (fun b f=>x.block b f) (F':=fun b=>b<b1) (fun b f=>by rw[←Q];exact f);have N:=h.inn.to (w':=t) (fun b f=>x.block b O7) (F':=fun b=>b<b1) (fun b f=>by omega);have E:=h.blk.ext x;have j:∀{w:World},Chg (fun b=>b=k) t w→(∀b,b<k→w.heap[b]?=t.heap[b]?)∧t.heap.size≤w.heap.size:=fun {w} c=>⟨fun b f=>c.block b O7 O7,c.size⟩
 have O:∀{w:World},Chg (fun b=>b=k) t w→Blk w b1 219 [Pz sb]∧Blk w sb 223 (mC e mb (.slice lo ps.length X) nv fv)∧Sl w (c7 w) lo X ps∧EIn w (c7 w) e:=fun {w} c=>
  ⟨(j c).1 b1 G|>.trans o,((j c).1 sb O7).trans E,M.mono (fun b f=>(j c).1 b O7) (fun b f=>by have:=(j c).2;exact(show b<w.heap.size by omega)),N.to (fun b f=>(j c).1 b O7) (fun b f=>by have:=(j c).2;exact(show b<w.heap.size by omega))⟩
 refine QQ ?_;refine CW.loop (S:=Nat×Value×List Raw) (fun s=>[(1,Pz b1),(3,Pz k),(4,.func (.func 202) [].toArray [Pz b1,Pz k].toArray),(14,.slice e.a4 e.W.2.2.2.length e.c4),(15,Py e.W.2.2.2.length),(16,Py s.1)])
  (fun s w=>s.1≤e.W.2.2.2.length∧Blk w k 200 [s.2.1]∧Own w t.heap.size 80 cZ s.2.1 s.2.2∧InnR w (fun b=>b=k∨s.2.1.ownBlock=some b) s.2.2 ((e.W.2.2.2.take s.1).map fun F=>ps.map fun p=>decide (p.1∈F))∧Chg (fun b=>b=k) t w)
  (fun s=>e.W.2.2.2.length -s.1) (0,.slice none 0 0,[]) O6 ⟨Nc _,P,Own.nil,InnR.nil,Chg.refl _ _⟩ ?_
 rintro⟨i,ov,vs⟩ w ⟨hi,a,hn,inn,c⟩
 dsimp only at hi a hn inn c⊢
 obtain⟨kb1,kblk,klo,kin⟩:=O c;have kz:=(j c).2;have klt:=fun g C=>hn.lt g C
 refine Qt ?_;apply CW.cond rfl<;>intro h
 ·have d:i<e.W.2.2.2.length:=by simp at h;omega
  have D:=U _ (Lc d);have y:(e.W.2.2.2.take (i+1)).map (fun F=>ps.map fun p=>decide (p.1∈F))=(e.W.2.2.2.take i).map (fun F=>ps.map fun p=>decide (p.1∈F))++[ps.map fun p=>decide (p.1∈e.W.2.2.2[i])]:=by
   rw[Mi,KY d,LE];rfl
  refine Rb ?_;refine eC rfl rfl rfl rfl rfl kin.h4 d Pg (fun u q I=>?_);obtain⟨ro,rc,rfl,l⟩:=I.sl;clear I;generalize e.W.2.2.2[i]=F at*
  refine QE ?_;refine d8 (fv:=[]) rfl rfl rfl rfl (nr w (n:=e.W.2.1.length) (of:=Prod.fst) kb1 kblk a hn kz inn klo l D O7 (fun w p K=>FnV.mk (cs:=[]) (nD w p)) (fun p K=>(‹Em w0 B e sb mb _ nv fv ps›.ins p K).1) J (by rw[Ls,LB];omega) (fun g C=>by have:=(klt g C).1;omega)) ?_;rintro _ w' ⟨ov',vs',m,A,inn4,H,z⟩
  rw[←y]at inn4
  refine Qc ?_;exact EX.back (i+1,ov',vs') O6 ⟨d,m,A,inn4,c.then H (fun b f=>f.imp id (fun f=>(klt b f).1))⟩ Pa
 obtain rfl:i=e.W.2.2.2.length:=by simp at h;omega
 rw[Mk]at inn
 clear h hi;refine Qy ?_;refine CW.loop (S:=Nat×Value×List Raw) (fun s=>[(1,Pz b1),(3,Pz k),(4,.func (.func 202) [].toArray [Pz b1,Pz k].toArray),(34,.slice e.k5 e.A.2.2.2.2.length e.d5),(35,Py e.A.2.2.2.2.length),(36,Py s.1)])
  (fun s w=>s.1≤e.A.2.2.2.2.length∧Blk w k 200 [s.2.1]∧Own w t.heap.size 80 cZ s.2.1 s.2.2∧InnR w (fun b=>b=k∨s.2.1.ownBlock=some b) s.2.2 ((e.W.2.2.2.map fun F=>ps.map fun p=>decide (p.1∈F))++(e.A.2.2.2.2.take s.1).map fun F=>ps.map fun p=>decide (p.2∈F))∧Chg (fun b=>b=k) t w)
  (fun s=>e.A.2.2.2.2.length -s.1) (0,ov,vs) O6 ⟨Nc _,a,hn,by simpa using inn,c⟩ ?_
 clear a hn inn c kb1 kblk klo kin kz klt;rintro⟨i,ov,vs⟩ w ⟨hi,a,hn,inn,c⟩
 dsimp only at hi a hn inn c⊢
 obtain⟨kb1,kblk,klo,kin⟩:=O c;have kz:=(j c).2;have klt:=fun g C=>hn.lt g C
 refine Qt ?_;apply CW.cond rfl<;>intro h
 ·have d:i<e.A.2.2.2.2.length:=by simp at h;omega
  have D:=T _ (Lc d);have y:(e.A.2.2.2.2.take (i+1)).map (fun F=>ps.map fun p=>decide (p.2∈F))=(e.A.2.2.2.2.take i).map (fun F=>ps.map fun p=>decide (p.2∈F))++[ps.map fun p=>decide (p.2∈e.A.2.2.2.2[i])]:=by
   rw[Mi,KY d,LE];rfl
  refine Rb ?_;refine eC rfl rfl rfl rfl rfl kin.g5 d Pg (fun u q I=>?_);obtain⟨ro,rc,rfl,l⟩:=I.sl;clear I;generalize e.A.2.2.2.2[i]=F at*
  refine QE ?_;refine d8 (fv:=[]) rfl rfl rfl rfl (nr w (n:=e.A.2.1.length) (of:=Prod.snd) kb1 kblk a hn kz inn klo l D O7 (fun w p K=>FnV.mk (cs:=[]) (nE w p)) (fun p K=>(‹Em w0 B e sb mb _ nv fv ps›.ins p K).2) J (by rw[Ll,Ls,Ls,LB];omega) (fun g C=>by have:=(klt g C).1;omega)) ?_;rintro _ w' ⟨ov',vs',m,A,inn4,H,z⟩
  rw[Kh,←y]at inn4
  refine Qc ?_;exact EX.back (i+1,ov',vs') O6 ⟨d,m,A,inn4,c.then H (fun b f=>f.imp id (fun f=>(klt b f).1))⟩ Pa
 obtain rfl:i=e.A.2.2.2.2.length:=by simp at h;omega
 rw[Mk]at inn
 obtain⟨so,sc,rfl,hs⟩:=inn.old hn;refine Qy ?_;exact be rfl rfl ⟨so,sc,rfl,hs,Chg.ext x c (fun b f=>by omega)⟩
class IsKx(P:Program)(k:TypeId):Prop where
 ok:Go.Maps.Keyed P k
theorem IsKx.int{P:Program}{k:TypeId}(h:P.underlying k=some (.int .i64)):IsKx P k:=⟨Go.Maps.int_keyed h⟩
theorem KeyV.int{P:Program}{k:TypeId}(h:P.underlying k=some (.int .i64)){x:Int}(a: -9223372036854775808≤x∧x≤9223372036854775807):KeyV P k (.int .i64 x):=by
 refine⟨.int .i64 x,?_⟩;unfold keyOf;rw[h];dsimp only;unfold mapKey;rw[h];dsimp only;rw[OK ⟨rfl,by simp[Lit.wf,IntKind.min,IntKind.max,IntKind.signed,IntKind.bits];omega⟩]
def MapI(P:Program)(k:TypeId)(w:World)(b:Nat)(kv:List (Value×Value)):Prop:=
 ∃(a:Array MapEntry) (clock:Nat),w.heap[b]?=some (.map a clock)∧a.toList.map (fun e=>(e.key,e.val))=kv∧(∀x∈kv,KeyV P k x.1)∧(kv.map Prod.fst).Nodup
section
variable {P:Program}{k:TypeId}{w w':World}{b:Nat}{kv:List (Value×Value)}
theorem MapI.lt(h:MapI P k w b kv):b<w.heap.size:=by
 obtain⟨c,clock,a,_⟩:=h;exact(Jv.1 a).1
theorem MapI.at(h:MapI P k w b kv)(a:w'.heap[b]?=w.heap[b]?):MapI P k w' b kv:=by
 obtain⟨c,clock,h1,h2⟩:=h;exact⟨c,clock,a.trans h1,h2⟩
theorem MapI.ext(h:MapI P k w b kv)(a:Ext w w'):MapI P k w' b kv:=h.at (a.block b h.lt)
theorem MapI.kept{row:Option Nat}(h:MapI P k w b kv)(c:w.grownBy w' row)(a:some b≠row):MapI P k w' b kv:=h.at (c.block b h.lt a)
theorem MapI.made(w:World):MapI P k (w.alloc (.map #[] 0)) w.heap.size []:=
 ⟨#[],0,OH w _,rfl,fun x h=>by simp at h,List.Pairwise.nil⟩
theorem D6{t e:TypeId}{x:Value}[r:IsM P t k e][o:IsKx P k][F:IsZ0 P e](h:MapI P k w b kv)(m:KeyV P k x):
  (x∉kv.map Prod.fst∧(Instr.lookup t (.map (some b)) x true).run P w=.ok (.tuple #[.int .i64 0,.bool false]) w)∨
  ∃(j:Nat) (E:j<kv.length),kv[j].1=x∧(Instr.lookup t (.map (some b)) x true).run P w=.ok (.tuple #[kv[j].2,.bool true]) w∧(Instr.lookup t (.map (some b)) x false).run P w=.ok kv[j].2 w:=by
 obtain⟨p,clock,C,a,s,G⟩:=h;obtain⟨l,m⟩:=m;obtain⟨i,h1,h2⟩:=Nl.1 F.ok;have q:(zeroValue e).run P w=.ok (.int .i64 0) w:=by simp[zeroValue,typeInfo,h1,h2]
 have c:∀e∈p.toList,∃l,keyOf P k e.key=some l:=fun e B=>s (e.key,e.val) (a▸LU.2 ⟨e,B,rfl⟩)
 rcases o.ok.find w m p.toList c with⟨g1,g2⟩|⟨j,I,g1,g2,g3⟩
 ·refine .inl ⟨fun D=>?_,by simp[Instr.lookup,OW r.ok,Mq C,o.ok.check w _ m,g1,q,Result.andThen]⟩
  rw[←a,LH]at D
  obtain⟨e,B,A⟩:=LU.1 D;exact g2 e B A
 ·have E:j<kv.length:=by rw[←a,Ls];exact(K0.1 g2).1
  have H:j<p.toList.length:=(K0.1 g2).1;have f:p.toList[j]=I:=(K0.1 g2).2;subst a;refine .inr ⟨j,E,?_,?_,?_⟩
  ·rw[Lb,←g3,f]
  ·rw[Lb,f]
   simp[Instr.lookup,OW r.ok,Mq C,o.ok.check w _ m,g1,Result.andThen]
  ·rw[Lb,f]
   simp[Instr.lookup,OW r.ok,Mq C,o.ok.check w _ m,g1,Result.andThen]
theorem D8{t e:TypeId}{x y:Value}[F:IsM P t k e][C:IsKx P k](h:MapI P k w b kv)(E:KeyV P k x)(hn:x∉kv.map Prod.fst):
  ∃w',(Instr.mapUpdate t (.map (some b)) x y).run P w=.ok () w'∧MapI P k w' b (kv++[(x,y)])∧w.grownBy w' (some b):=by
 obtain⟨B,clock,A,o,q,r⟩:=h;obtain⟨l,f⟩:=E;have m:∀e∈B.toList,∃l,keyOf P k e.key=some l:=fun e G=>q (e.key,e.val) (o▸LU.2 ⟨e,G,rfl⟩)
 have s:=(Jv.1 A).1;rcases C.ok.find w f B.toList m with⟨g1,g2⟩|⟨j,I,g1,g2,g3⟩
 ·refine⟨_,by simp[Instr.mapUpdate,OW F.ok,Mq A,C.ok.check w false f,g1,Mr _ A,Result.andThen];rfl,?_,?_⟩
  ·refine⟨B.push ⟨x,y,clock⟩,clock+1,by simp[s],by simp[o],fun z p=>?_,?_⟩
   ·rcases LK.1 p with p|p
    ·exact q z p
    ·rw[L0]at p;subst p;exact⟨l,f⟩
   ·rw[LE,L3]
    refine⟨r,by simp,fun a H c D e=>?_⟩;simp at D
    subst D;subst e;exact hn H
  ·exact⟨rfl,rfl,rfl,by simp,fun i _ hi=>by
    simp only[Jz];rw[OJ (fun e=>hi (by rw[e]))]⟩
 ·refine absurd ?_ hn
  rw[←o,LH];exact LU.2 ⟨I,LW g2,g3⟩
end
section
variable {P:Program}{Q:Exit→Act→World→Prop}{n:Nat}{σ:Sg}{w:World}{L rest:List Oper}{d:Nat}{ty:TypeId}{pos:String}{af:Array Edge}{g:Option (Nat×Bool)}{t k e:TypeId}{b:Nat}{kv:List (Value×Value)}{x y z:Operand}{v u:Value}
theorem eY(m:gd L σ ⟨some d,.lookup t x y true,ty,pos,af,g⟩=some true)(hd:Nat.ble (d+1) n=true)(i:ev σ x=some (.map (some b)))(f:ev σ y=some v)[q:IsM P t k e][r:IsKx P k][p:IsZ0 P e]
  (h:MapI P k w b kv) (o:KeyV P k v)
  (h1:v∉kv.map Prod.fst→WL P L Q rest n ((d,.tuple ⟨[.int .i64 0,.bool false]⟩)::σ) w)
  (h2:∀(j:Nat) (l:j<kv.length),kv[j].1=v→WL P L Q rest n ((d,.tuple ⟨[kv[j].2,.bool true]⟩)::σ) w):
  WL P L Q (⟨some d,.lookup t x y true,ty,pos,af,g⟩::rest) n σ w:=by
 rcases D6 (t:=t) h o with⟨g1,g2⟩|⟨j,l,g1,g2,_⟩
 ·refine WL.run m hd (fun a c=>?_) (h1 g1)
  simp[execOp,c.ev i,c.ev f,g2]
 ·refine WL.run m hd (fun a c=>?_) (h2 j l g1)
  simp[execOp,c.ev i,c.ev f,g2]
theorem eZ{j:Nat}(m:j<kv.length)(c:kv[j].1=v)(A:gd L σ ⟨some d,.lookup t x y false,ty,pos,af,g⟩=some true)(hd:Nat.ble (d+1) n=true)(q:ev σ x=some (.map (some b)))(p:ev σ y=some v)[C:IsM P t k e][D:IsKx P k][B:IsZ0 P e]
  (h:MapI P k w b kv) (r:KeyV P k v)
  (s:WL P L Q rest n ((d,kv[j].2)::σ) w):WL P L Q (⟨some d,.lookup t x y false,ty,pos,af,g⟩::rest) n σ w:=by
 have f:(kv.map Prod.fst).Nodup:=by obtain⟨_,_,_,_,_,h⟩:=h;exact h
 rcases D6 (t:=t) h r with⟨g1,g2⟩|⟨i,hi,g1,_,g3⟩
 ·exact absurd (LU.2 ⟨kv[j],Lc m,c⟩) g1
 ·have l:i=j:=by
   have h1:(kv.map Prod.fst)[i]'(by simpa using hi)=(kv.map Prod.fst)[j]'(by simpa using m):=by simp[g1,c]
   exact(List.getElem_inj f).1 h1
  subst l;refine WL.run A hd (fun a o=>?_) s;simp[execOp,o.ev q,o.ev p,g3]
theorem fg(o:gd L σ ⟨none,.mapUpdate t x y z,ty,pos,af,g⟩=some true)(j:ev σ x=some (.map (some b)))(i:ev σ y=some v)(c:ev σ z=some u)[p:IsM P t k e][q:IsKx P k]
  (h:MapI P k w b kv) (l:KeyV P k v) (hn:v∉kv.map Prod.fst)
  (m:∀w',MapI P k w' b (kv++[(v,u)])→w.grownBy w' (some b)→WL P L Q rest n σ w'):
  WL P L Q (⟨none,.mapUpdate t x y z,ty,pos,af,g⟩::rest) n σ w:=by
 obtain⟨w',g1,g2,g3⟩:=D8 (t:=t) (y:=u) h l hn;refine fp o (fun a f=>?_) (m w' g2 g3);simp[execOp,f.ev j,f.ev i,f.ev c,g1]
theorem fe(c:gd L σ ⟨some d,.makeMap t none,ty,pos,af,g⟩=some true)(hd:Nat.ble (d+1) n=true)
  (h:MapI P k (w.alloc (.map #[] 0)) w.heap.size []→WL P L Q rest n ((d,.map (some w.heap.size))::σ) (w.alloc (.map #[] 0))):
  WL P L Q (⟨some d,.makeMap t none,ty,pos,af,g⟩::rest) n σ w:=by
 refine WL.run c hd (fun a f=>?_) (h (MapI.made w));simp[execOp,Instr.makeMap]
end
open Go.Shelf
def Dq:Ren:=⟨fun _=>206,fun x=>if Nat.beq x 3=true then 3 else if Nat.beq x 4=true then 4 else if Nat.beq x 28=true then 39 else 0,fun x=>x⟩
set_option maxRecDepth 100000 in
theorem Dp:Lays.n112 Tryz.prog Dq where
 mixed:=by kernel_rfl
 f112:=(Tryz.func206).trans O8
 t0:=by kernel_rfl
 a0:=fun w=>rfl
 z0:=fun w=>rfl
 v0:=fun w=>rfl
 t3:=NU
 a3:=NA
 z3:=NE
 v3:=Od
 t4:=N0
 a4:=NB
 z4:=NG
 v4:=Of
 t28:=NZ
 a28:=Tryz.isAgg39
 z28:=Tryz.sizeOf39
 v28:=Tryz.zeroValue39
theorem mY{w:World}{F:Nat→Prop}{cells:List Value}{xs:List Int}(h:Elems w F cells xs):cells=xs.map fun x=>Py x:=by
 refine KD (by rw[Ls,h.1];show _*1=_;omega) fun i h1 h2=>?_
 rw[Ls]at h2
 have h3:=h.2 i h2;have b:sz Int=1:=rfl;rw[b,MY]at h3
 have h4:=C3 h3;have a:=Ox (fun l:List Value=>l[0]?) h4;simp only[K6 (show 0<1 by omega),KX,Mx,KY h1]at a
 simpa using a
theorem mZ(w:World)(F:Nat→Prop):∀xs:List Int,Elems w F (xs.map fun x=>Py x) xs
 |[]=>Elems.nil
 |x::r=>by
  have:=(Elems.one (C5 w F x)).append (mZ w F r);simpa using this
theorem Dr(w:World){B:Nat}{v:Value}{xs:List Int}(a:Own w B 3 cZ v xs):
  Rt Tryz.prog 206 [v].toArray w fun u w'=>u=.tuple #[]∧Own w' B 3 cZ v xs.reverse∧w.grownBy w' v.ownBlock:=by
 have A:w.grownBy w v.ownBlock:=⟨rfl,rfl,rfl,MM _,fun _ _ _=>rfl⟩;rcases a with⟨rfl,rfl⟩|⟨g,off,cap,cur,rfl,a⟩
 ·refine J0 (Any.slices_Reverse_int_empty Dp none 0 w) ?_
  rintro e w' ⟨rfl,rfl⟩
  exact⟨_,rfl,rfl,Own.nil,A⟩
 ·have o:sz Int=1:=rfl
  have l:=a.fit;have y:=a.le;have h:=a.mx;have m:=mY a.el;rw[o,MY]at l m
  have b:∀j (c:j<xs.length),cur[off+j]?=some (Py xs[j]):=fun j c=>by
   have h1:((cur.toList.drop off).take xs.length)[j]?=(xs.map fun x=>Py x)[j]?:=by rw[m]
   rw[K6 c,KX,K1,KY c]at h1
   simpa using h1
  have C:Sort.Holds (Value.int .i64) w g off xs.toArray:=fun j c=>by
   have i:j<xs.length:=by simpa using c
   constructor
   ·have:xs.toArray[j]! =xs[j]:=by simp[i]
    rw[this];simp[World.cell?,a.blk,b j i]
   ·simp[World.frozen?,a.blk]
  refine J0 (Any.slices_Reverse_int Dp g off cap xs w C (by unfold maxLen at h;omega)) ?_;rintro e w' ⟨rfl,n,rfl⟩
  have f:(Sort.putRow (Value.int .i64) (Sort.ahead w n) g off xs.reverse.toArray).heap[g]?=some (.cells (Sort.putCells (Value.int .i64) off xs.reverse.toArray cur) 3 (0,0)):=by
   show(w.heap.modify g _)[g]?=_;rw[Jx,OK rfl,a.blk];rfl
  have d:∀k,k≠g→(Sort.putRow (Value.int .i64) (Sort.ahead w n) g off xs.reverse.toArray).heap[k]?=w.heap[k]?:=fun k z=>by
   show(w.heap.modify g _)[k]?=_;rw[Jx,OJ (fun e=>z e.symm)]
  have q:(Sort.putRow (Value.int .i64) (Sort.ahead w n) g off xs.reverse.toArray).heap.size=w.heap.size:=by
   show(w.heap.modify g _).size=_;rw[JE]
  have t:(Sort.putRow (Value.int .i64) (Sort.ahead w n) g off xs.reverse.toArray).os=w.os:=rfl;have p:(Sort.putRow (Value.int .i64) (Sort.ahead w n) g off xs.reverse.toArray).tape=w.tape:=rfl;have s:(Sort.putRow (Value.int .i64) (Sort.ahead w n) g off xs.reverse.toArray).output=w.output:=rfl;generalize Sort.putRow (Value.int .i64) (Sort.ahead w n) g off xs.reverse.toArray=w' at*
  have r:(Sort.putCells (Value.int .i64) off xs.reverse.toArray cur).size=cur.size:=by simp[Sort.putCells]
  refine⟨_,rfl,rfl,.inr ⟨g,off,cap,_,by rw[Ly],⟨f,a.ge,a.nF,by simpa using y,h,by rw[r,o];omega,?_⟩⟩,⟨t,p,s,by omega,fun k _ z=>d k (fun e=>z (by rw[e];rfl))⟩⟩;have D:(((Sort.putCells (Value.int .i64) off xs.reverse.toArray cur).toList.drop off).take (xs.reverse.length*sz Int))=xs.reverse.map fun x=>Py x:=by
   rw[o,MY];refine KE fun j=>?_
   by_cases c:j<xs.length
   ·rw[K6 (by simpa using c),KX,JB,Sort.putCells,Jw,b j c,K1,KY (by simpa using c)]
    simp[c,show off+j<off+xs.length by omega]
   ·rw[KZ (by simp;try omega),KZ (by simp;try omega)]
  rw[D];exact mZ _ _ _
theorem aO{g:List (List Int)}{to al:Nat→Bool}{up:UP}{h:Nat}{x:Int×Int}(hh:h≤up.length)
  (hd:∀i (hi:i<up.length),i<h→to up[i].1.toNat=false∧∀k∈g.getD up[i].1.toNat [],al k.toNat=true→k∈wR up):
  ∀i (hi:i<(up++[x]).length),i<h→to (up++[x])[i].1.toNat=false∧∀k∈g.getD (up++[x])[i].1.toNat [],al k.toNat=true→k∈wR (up++[x]):=fun i hi a=>by
 have b:i<up.length:=by omega
 rw[K7 b];refine⟨(hd i b a).1,fun k c d=>?_⟩;unfold wR;rw[LE];exact LL _ ((hd i b a).2 k c d)
instance sw:IsM Tryz.prog 282 3 3:=⟨Tryz.underlying282⟩
instance sx:IsZ0 Tryz.prog 3:=⟨by kernel_rfl⟩
instance sy:IsKx Tryz.prog 3:=IsKx.int NU
def xh(up:UP):List (Value×Value):=up.map fun x=>(Value.int .i64 x.1,Value.int .i64 x.2)
theorem xj{up:UP}{x:Int×Int}:xh up++[(Py x.1,Py x.2)]=xh (up++[x]):=by unfold xh;simp
theorem kvU_key{up:UP}{x:Int}:Py x∈(xh up).map Prod.fst↔x∈wR up:=by
 unfold xh wR;simp only[LH,LU,Function.comp];constructor
 ·rintro⟨a,b,e⟩;injection e with _ e;exact⟨a,b,e⟩
 ·rintro⟨a,b,e⟩;exact⟨a,b,by rw[e]⟩
theorem xi{up:UP}:(xh up).length=up.length:=by unfold xh;simp
theorem wC{x:Int}(h:0≤x∧x<9223372036854775807):KeyV Tryz.prog 3 (Py x):=KeyV.int NU ⟨by omega,by omega⟩
set_option maxHeartbeats 4000000 in
theorem nQ(w0:World){sb:Nat}{x0 x1 x2 x3 x4 x5 x6 x7 x8 x9 x10 x12 fv:Value}{no fo po:Option Addr}{nc fc pc:Nat}{g:List (List Int)}{fr part:List Int}{only:Int}{to:Nat→Bool}
  (hb:Blk w0 sb 223 [x0,x1,x2,x3,x4,x5,x6,x7,x8,x9,x10,.slice no g.length nc,x12]) (l:Sl w0 (c7 w0) no nc g) (hf:Sl w0 (c7 w0) fo fc fr) (hp:Sl w0 (c7 w0) po pc part)
  (hG:okG g) (hfr:AF g.length fr) (hpl:part.length=g.length) (hN:g.length≤1228800)
  (hto:∀w,Ext w0 w→∀n:Nat,n<g.length→FnV Tryz.prog fv [Py (n:Int)] w fun v w'=>v=.bool (to n)∧Ext w w'):
  Rt Tryz.prog 126 [Pz sb,.slice fo fr.length fc,fv,.slice po part.length pc,Py only].toArray w0 fun v w'=>∃r,Own w' w0.heap.size 3 cZ v r∧((r=[]∧fG g fr to (fQ part only))∨WyOK g fr to (fQ part only) r)∧Ext w0 w':=by
 have hfl:=hf.len63;refine dH Tryz.func126 Tryz.ntmps126 rfl rfl ?_;refine Qt ?_;refine fe (k:=3) rfl rfl (fun Z=>?_);have e1:Ext w0 (w0.alloc (.map #[] 0)):=Ext.alloc w0 _;generalize hmb:w0.heap.size=mb at*
 generalize w0.alloc (.map #[] 0)=K at*
 have lmb:=Z.lt;have hle1:=e1.size;refine Q3 ?_;refine CW.loop (S:=Nat×UP×Value) (fun s=>[(0,Pz sb),(2,fv),(3,.slice po part.length pc),(4,Py only),(11,.map (some mb)),(12,s.2.2),(24,.slice fo fr.length fc),(25,Py fr.length),(26,Py s.1)])
  (fun s w=>s.1≤fr.length∧WyC g fr (fQ part only) s.2.1∧(∀x∈fr.take s.1,x∈wR s.2.1)∧MapI Tryz.prog 3 w mb (xh s.2.1)∧Own w K.heap.size 3 cZ s.2.2 (wR s.2.1)∧Ext w0 w∧K.heap.size≤w.heap.size) (fun s=>fr.length -s.1) (0,[],.slice none 0 0) O6 ⟨Nc _,WyC.nil,(fun x D=>by simp at D),Z,Own.nil,e1,MM _⟩ ?_
 clear Z;rintro⟨i,up,tv⟩ w2 ⟨hi,C,a,E,A,t,M⟩
 dsimp only at hi C a E A t M⊢
 have hul:=C.len;have hkl:(wR up).length=up.length:=Ls _;have B:=fun g l=>A.lt g l
 refine Qt ?_;apply CW.cond rfl<;>intro h
 ·have R:i<fr.length:=by simp at h;omega
  have hxr:=hfr _ (Lc R);have U:fr.take (i+1)=fr.take i++[fr[i]]:=Mo R;have hxm:=Lc R;refine Rb ?_;refine eB rfl rfl rfl rfl rfl (hf.up t) R rfl Pg (fun q=>?_);generalize fr[i]=x at*
  refine Qt ?_;refine eY rfl rfl rfl rfl E (wC ⟨hxr.1,by omega⟩) (fun hn=>?_) (fun j hj hjx=>?_)
  ·have hn:=fun h=>hn (kvU_key.2 h)
   refine Ra ?_;refine fg rfl rfl rfl rfl E (wC ⟨hxr.1,by omega⟩) (fun h=>hn (kvU_key.1 h)) (fun w3 P hg3=>?_);rw[xj (x:=(x,-1))]at P
   have ho3:=A.keptN hg3 (fun g l e=>by have:=(B g l).1;have:=Nn e;omega);have I:Ext w0 w3:=t.grown hg3 t.size Pk;have hz3:=hg3.size;refine Qq ?_;refine dW (F:=cZ) (yv:=x) rfl rfl Pg rfl rfl Pg ho3 Pt O7 Pj O9 Pb O7 (fun tv' w4 p ho4 hg4 hnb4=>?_);have hM4:=P.kept hg4 (fun e=>by have:=(B _ e.symm).1;omega);have Q:Ext w0 w4:=I.grown hg4 I.size (fun g l=>by have:=(B g l).1;omega);have L:=hg4.size;refine Qc ?_;refine EX.back (i+1,up++[(x,-1)],tv') O6 ⟨R,C.push hn hxr (.inl ⟨rfl,hxm⟩),fun y G=>?_,hM4,by simpa[wR]using ho4,Q,by omega⟩ Pa;dsimp only at G⊢
   rw[U]at G
   unfold wR;rw[LE];rcases LK.1 G with G|G
   ·exact LL _ (a y G)
   ·rw[L0]at G;subst G;exact LM _ O_
  ·have hxk:x∈wR up:=kvU_key.1 (by rw[←hjx];exact LU.2 ⟨_,Lc hj,rfl⟩)
   refine Qx ?_;refine EX.back (i+1,up,tv) O6 ⟨R,C,fun y G=>?_,E,A,t,M⟩ Pa;dsimp only at G⊢
   rw[U]at G
   rcases LK.1 G with G|G
   ·exact a y G
   ·rw[L0]at G;subst G;exact hxk
 obtain rfl:i=fr.length:=by simp at h;omega
 rw[Mk]at a
 clear h hi;refine Q9 ?_;refine CW.loop (S:=Nat×UP×Value) (fun s=>[(0,Pz sb),(2,fv),(3,.slice po part.length pc),(4,Py only),(11,.map (some mb)),(12,s.2.2)])
  (fun s w=>s.1≤s.2.1.length∧WyC g fr (fQ part only) s.2.1∧(∀x∈fr,x∈wR s.2.1)∧(∀i (hi:i<s.2.1.length),i<s.1→to s.2.1[i].1.toNat=false∧∀k∈g.getD s.2.1[i].1.toNat [],fQ part only k.toNat=true→k∈wR s.2.1)∧MapI Tryz.prog 3 w mb (xh s.2.1)∧Own w K.heap.size 3 cZ s.2.2 ((wR s.2.1).drop s.1)∧Ext w0 w∧K.heap.size≤w.heap.size) (fun s=>g.length -s.1) (0,up,tv) O6 ⟨Nc _,C,a,fun i hi h=>absurd h O_,E,by simpa using A,t,M⟩ ?_
 clear C a E A t M hul hkl B;rintro⟨h,up,tv⟩ w2 ⟨hh,C,a,hD,E,A,t,M⟩
 dsimp only at hh C a hD E A t M⊢
 have hul:=C.len;have hkl:(wR up).length=up.length:=Ls _;have B:=fun g l=>A.lt g l
 have hdl:((wR up).drop h).length=up.length -h:=by rw[Ln,hkl]
 refine PV ?_;apply CW.cond rfl<;>intro J
 ·have d:h<up.length:=by rw[hdl]at J;simp at J;omega
  have hhk:h<(wR up).length:=by omega
  have hd0:0<((wR up).drop h).length:=by omega
  have hget:((wR up).drop h)[0]=up[h].1:=by rw[La];simp[wR]
  have hnr:=C.rg _ (LU.2 ⟨up[h],Lc d,rfl⟩);refine PX ?_;refine eE (i:=0) rfl rfl rfl rfl rfl A hd0 Pg (fun u q hu=>?_);obtain rfl:=hu.int;rw[hget];obtain⟨n,hn⟩:∃n:Nat,up[h].1=(n:Int):=⟨up[h].1.toNat,by omega⟩;rw[hn];rw[hn]at hnr
  refine Qt ?_;refine ew (α:=Int) 1 rfl rfl rfl rfl rfl A O7 (fun tv2 ho2 hob=>?_);rw[Kw]at ho2
  refine Qt ?_;refine d7 rfl rfl rfl rfl (hto w2 t n O7) ?_;rintro _ w3 ⟨rfl,e3⟩
  have P:=E.ext e3;have ho3:=ho2.extN e3;have I:=t.trans e3;have hz3:K.heap.size≤w3.heap.size:=MN M e3.size;have hlt3:=fun g l=>ho3.lt g l
  cases htn:to n
  ·
   have hgn:n<g.length:=by omega
   have hrow:g.getD n []=g[n]:=by rw[KT,KY hgn];rfl
   have hrr:AF g.length g[n]:=hG _ (Lc hgn);have hb3:=hb.ext I;refine QI ?_;refine eC (i:=n) rfl rfl rfl rfl rfl (l.mono (w':=w3) I.block (F':=c7 w0) Pl) hgn Pg (fun u q hu=>?_);obtain⟨ro,rc,rfl,hrs⟩:=hu.sl;generalize g[n]=row at*
   have hrl:=hrs.len63;refine Qs ?_;refine CW.loop (S:=Nat×UP×Value) (fun s=>[(0,Pz sb),(2,fv),(3,.slice po part.length pc),(4,Py only),(11,.map (some mb)),(12,s.2.2),(17,Py n),(74,.slice ro row.length rc),(75,Py row.length),(76,Py s.1)])
    (fun s w=>s.1≤row.length∧WyC g fr (fQ part only) s.2.1∧(∀x∈fr,x∈wR s.2.1)∧(∀i (hi:i<s.2.1.length),i<h→to s.2.1[i].1.toNat=false∧∀k∈g.getD s.2.1[i].1.toNat [],fQ part only k.toNat=true→k∈wR s.2.1)∧(∃d:h<s.2.1.length,s.2.1[h].1=(n:Int))∧(∀k∈row.take s.1,fQ part only k.toNat=true→k∈wR s.2.1)∧MapI Tryz.prog 3 w mb (xh s.2.1)∧Own w K.heap.size 3 cZ s.2.2 ((wR s.2.1).drop (h+1))∧Ext w0 w∧K.heap.size≤w.heap.size) (fun s=>row.length -s.1) (0,up,tv2) O6 ⟨Nc _,C,a,hD,⟨d,hn⟩,(fun k hk=>by simp at hk),P,by simpa[Ms]using ho3,I,hz3⟩ ?_
   clear C a hD P ho3 hul J ho2 hob hlt3;rintro⟨j,up,tv⟩ w4 ⟨hj,C,a,hD,⟨d,hn⟩,W,E,A,c,L⟩
   dsimp only at hj C a hD d hn W E A c L⊢
   have hul:=C.len;have hkl:(wR up).length=up.length:=Ls _;have B:=fun g l=>A.lt g l
   refine Qt ?_;apply CW.cond rfl<;>intro J
   ·have N:j<row.length:=by simp at J;omega
    have hkr:=hrr _ (Lc N);have hkm:row[j]∈g.getD n []:=by rw[hrow];exact Lc N
    have U:row.take (j+1)=row.take j++[row[j]]:=Mo N;have skip:∀(D:fQ part only row[j].toNat=true→row[j]∈wR up),∀k∈row.take (j+1),fQ part only k.toNat=true→k∈wR up:=fun D k hk T=>by
     rw[U]at hk
     rcases LK.1 hk with hk|hk
     ·exact W k hk T
     ·rw[L0]at hk;subst hk;exact D T
    refine Rb ?_;refine eB rfl rfl rfl rfl rfl (hrs.mono (w':=w4) (fun b hb=>(c.block b hb).trans (I.block b hb).symm) (F':=c7 w0) Pl) N rfl Pg (fun q=>?_);generalize row[j]=k at*
    obtain⟨kn,rfl⟩:∃m:Nat,k=(m:Int):=⟨k.toNat,by omega⟩;have hkp:kn<part.length:=by omega
    have hpk:part.getD kn 0=part[kn]:=by rw[KT,KY hkp];rfl
    rw[Kb]at skip
    refine Qt ?_;refine eY rfl rfl rfl rfl E (wC ⟨hkr.1,by omega⟩) (fun Y=>?_) (fun i hi hix=>?_)
    ·have Y:=fun h=>Y (kvU_key.2 h)
     have V:∀(T:fQ part only kn=true) (z:World) (tv':Value),MapI Tryz.prog 3 z mb (xh (up++[((kn:Int),(n:Int))]))→Own z K.heap.size 3 cZ tv' ((wR up).drop (h+1)++[(kn:Int)])→Ext w0 z→K.heap.size≤z.heap.size→
       (j+1≤row.length∧WyC g fr (fQ part only) (up++[((kn:Int),(n:Int))])∧(∀x∈fr,x∈wR (up++[((kn:Int),(n:Int))]))∧(∀i (hi:i<(up++[((kn:Int),(n:Int))]).length),i<h→to (up++[((kn:Int),(n:Int))])[i].1.toNat=false∧∀k∈g.getD (up++[((kn:Int),(n:Int))])[i].1.toNat [],fQ part only k.toNat=true→k∈wR (up++[((kn:Int),(n:Int))]))∧(∃d:h<(up++[((kn:Int),(n:Int))]).length,(up++[((kn:Int),(n:Int))])[h].1=(n:Int))∧(∀k∈row.take (j+1),fQ part only k.toNat=true→k∈wR (up++[((kn:Int),(n:Int))]))∧MapI Tryz.prog 3 z mb (xh (up++[((kn:Int),(n:Int))]))∧Own z K.heap.size 3 cZ tv' ((wR (up++[((kn:Int),(n:Int))])).drop (h+1))∧Ext w0 z∧K.heap.size≤z.heap.size):=by
      intro T z tv' o ho5 H hz5
      have hin:∀x,x∈wR up→x∈wR (up++[((kn:Int),(n:Int))]):=fun x D=>by unfold wR;rw[LE];exact LL _ D
      refine⟨N,C.push Y hkr (.inr ⟨h,d,by rw[hn],by rw[hn,Kb];exact hkm,by rw[Kb];exact T⟩),fun x D=>hin x (a x D),aO O7 hD,⟨by simp;omega,by rw[K7 d];exact hn⟩,fun x D hxa=>?_,o,?_,H,hz5⟩
      ·rw[U]at D
       rcases LK.1 D with D|D
       ·exact hin x (W x D hxa)
       ·rw[L0]at D;subst D;unfold wR;rw[LE];exact LM _ O_
      ·rw[show(wR (up++[((kn:Int),(n:Int))])).drop (h+1)=(wR up).drop (h+1)++[(kn:Int)] by
        unfold wR;rw[LE,Kv Pc];rfl]
       exact ho5
     have hdlen:((wR up).drop (h+1)).length≤1228800:=by rw[Ln];omega
     have ins:∀(z:World) (o:MapI Tryz.prog 3 z mb (xh up++[(Py (kn:Int),Py (n:Int))])) (f:w4.grownBy z (some mb)),Own z K.heap.size 3 cZ tv ((wR up).drop (h+1))∧Ext w0 z∧K.heap.size≤z.heap.size:=fun z o f=>
      ⟨A.keptN f (fun g l e=>by have:=(B g l).1;have:=Nn e;omega),c.grown f c.size Pk,by have:=f.size;omega⟩
     by_cases X:only<0
     ·have T:fQ part only kn=true:=by unfold fQ;rw[OC X];rfl
      refine Qt ?_;rw[OC X];refine Q6 ?_;refine fg rfl rfl rfl rfl E (wC ⟨hkr.1,by omega⟩) (fun h=>Y (kvU_key.1 h)) (fun z o f=>?_);obtain⟨ho5,H,hz5⟩:=ins z o f;refine Qq ?_;refine dW (F:=cZ) (yv:=(kn:Int)) rfl rfl Pg rfl rfl Pg ho5 Pt O7 Pj O9 Pb O7 (fun tv' w6 p ho6 O hnb6=>?_);have hM6:=o.kept O (fun e=>by have:=(B _ e.symm).1;omega);rw[xj (x:=((kn:Int),(n:Int)))]at hM6
      refine Qc ?_;exact EX.back (j+1,up++[((kn:Int),(n:Int))],tv') O6 (V T w6 tv' hM6 ho6 (H.grown O H.size (fun g l=>by have:=(B g l).1;omega)) (by have:=O.size;omega)) Pa
     by_cases hpe:part[kn]=only
     ·have T:fQ part only kn=true:=by unfold fQ;rw[hpk,OC hpe,JY]
      refine Qt ?_;rw[Oz X];refine Ri ?_;refine eB rfl rfl rfl rfl rfl (hp.at c) hkp rfl Pg (fun q=>?_);rw[hpe];refine PN ?_;refine CW.cond rfl (fun _=>?_) (fun D=>by simp at D);refine PW ?_;refine fg rfl rfl rfl rfl E (wC ⟨hkr.1,by omega⟩) (fun h=>Y (kvU_key.1 h)) (fun z o f=>?_);obtain⟨ho5,H,hz5⟩:=ins z o f;refine Qq ?_;refine dW (F:=cZ) (yv:=(kn:Int)) rfl rfl Pg rfl rfl Pg ho5 Pt O7 Pj O9 Pb O7 (fun tv' w6 p ho6 O hnb6=>?_);have hM6:=o.kept O (fun e=>by have:=(B _ e.symm).1;omega);rw[xj (x:=((kn:Int),(n:Int)))]at hM6
      refine Qc ?_;exact EX.back (j+1,up++[((kn:Int),(n:Int))],tv') O6 (V T w6 tv' hM6 ho6 (H.grown O H.size (fun g l=>by have:=(B g l).1;omega)) (by have:=O.size;omega)) Pa
     ·have T:¬fQ part only kn=true:=by unfold fQ;rw[hpk,Oz hpe,Oz X];decide
      refine Qt ?_;rw[Oz X];refine Ri ?_;refine eB rfl rfl rfl rfl rfl (hp.at c) hkp rfl Pg (fun q=>?_);refine PN ?_;refine CW.cond rfl (fun D=>absurd (by simpa using D) hpe) (fun _=>?_);refine PI ?_;exact EX.back (j+1,up,tv) O6 ⟨N,C,a,hD,⟨d,hn⟩,skip (fun h=>absurd h T),E,A,c,L⟩ Pa
    ·have hxk:(kn:Int)∈wR up:=kvU_key.1 (by rw[←hix];exact LU.2 ⟨_,Lc hi,rfl⟩)
     refine Qx ?_;exact EX.back (j+1,up,tv) O6 ⟨N,C,a,hD,⟨d,hn⟩,skip (fun _=>hxk),E,A,c,L⟩ Pa
   ·obtain rfl:j=row.length:=by simp at J;omega
    rw[Mk]at W
    refine QF ?_;refine EX.back (h+1,up,tv) O6 ⟨d,C,a,fun i hi hih=>?_,E,A,c,L⟩ Pa;dsimp only at hi hih⊢
    by_cases e:i<h
    ·exact hD i hi e
    ·obtain rfl:i=h:=by omega
     rw[hn,Kb];exact⟨htn,fun k hk T=>W k (by rw[←hrow];exact hk) T⟩
  ·
   have hq1:Py (n:Int)=Py (Ai up (h+1)):=by
    rw[←hn];unfold Ai;rw[OF ⟨by omega,by omega⟩];rfl
   refine Qd ?_;rw[hq1];refine CW.loop (S:=Nat×List Int×Value) (fun s=>[(11,.map (some mb)),(17,Py (Ai up s.1)),(18,s.2.2)])
    (fun s w=>BackI g fr (fQ part only) up h s.1 s.2.1∧MapI Tryz.prog 3 w mb (xh up)∧Own w K.heap.size 3 cZ s.2.2 s.2.1∧Ext w0 w∧K.heap.size≤w.heap.size) (fun s=>s.1) (h+1,[],.slice none 0 0) O6 ⟨BackI.start d,P,Own.nil,I,hz3⟩ ?_
   clear P ho3 hlt3;rintro⟨q,out,ov⟩ w4 ⟨hI,E,A,Q,L⟩
   dsimp only at hI E A Q L⊢
   have hq:=hI.hq;have hlen:=hI.len;have hltq:=fun g l=>A.lt g l
   refine Qt ?_;apply CW.cond rfl<;>intro J
   ·have J:0≤Ai up q:=by simpa using J
    have h0:0<q:=by
     rcases MD q with e|e
     ·subst e;simp[Ai]at J
     ·exact e
    have hqn:Ai up q=up[q -1].1:=by unfold Ai;rw[OF ⟨h0,hq⟩]
    obtain⟨q',hq',hv,hI'⟩:=hI.step C h0;have hqr:=C.rg _ (LU.2 ⟨up[q -1],Lc O7,rfl⟩);have hkq:q -1<(xh up).length:=by rw[xi];omega
    have hk1:(xh up)[q -1].1=Py (Ai up q):=by rw[hqn];simp[xh]
    have hk2:(xh up)[q -1].2=Py (Ai up q'):=by rw[←hv];simp[xh]
    refine PX ?_;refine dW (F:=cZ) (yv:=Ai up q) rfl rfl Pg rfl rfl Pg A Pt O7 Pj O9 Pb O7 (fun ov' z p ho5 f hnb5=>?_);have o:=E.kept f (fun e=>by have:=(hltq _ e.symm).1;omega);have H:Ext w0 z:=Q.grown f Q.size (fun g l=>by have:=(hltq g l).1;omega);rw[hqn]at ho5
    refine Qc ?_;refine eZ (j:=q -1) hkq hk1 rfl rfl rfl rfl o (wC ⟨J,by rw[hqn];omega⟩) ?_;rw[hk2];refine Q0 ?_;exact EX.back (q',out++[up[q -1].1],ov') O6 ⟨hI',o,ho5,H,by have:=f.size;omega⟩ hq'
   ·have J:¬0≤Ai up q:=by simpa using J
    obtain rfl:q=0:=by
     rcases MD q with e|e
     ·exact e
     ·refine absurd ?_ J
      unfold Ai;rw[OF ⟨e,hq⟩];exact(C.rg _ (LU.2 ⟨up[q -1],Lc O7,rfl⟩)).1
    refine Qo ?_;refine WL.call rfl rfl rfl (Dr w4 A) ?_;rintro _ z ⟨rfl,hor,hgr⟩
    refine PA ?_;exact be rfl rfl ⟨out.reverse,hor.low O7,.inr (hI.done C (by rw[hn];exact htn)),Q.grown hgr Q.size (fun g l=>by have:=(hltq g l).1;omega)⟩
 ·obtain rfl:h=up.length:=by rw[hdl]at J;simp at J;omega
  refine P_ ?_;exact be rfl rfl ⟨[],Own.nil,.inl ⟨rfl,wR up,a,fun x D=>by
   obtain⟨y,G,rfl⟩:=LU.1 D;obtain⟨i,hi,rfl⟩:=LT.1 G;exact hD i hi hi⟩,t⟩
theorem Hx{g:bU}{m:Nat}(h:m<(Ht g).length):(Ht g)[m]=((List.range g.length).filter (fun k=>(g.getD k []).contains (m:Int))).map (fun k:Nat=>(k:Int)):=by
 have e:(Ht g)[m]=Hf g g.length 0 m:=Hz _;rw[e];unfold Hf;simp
theorem CV{g:bU}{a b:Nat}(h:Rch (Ht g) [(a:Int)] b):Rch g [(b:Int)] a:=by
 induction h with
 |@base x c=>
  have:x=(a:Int):=by simpa using c
  subst this;simpa using Rch.self a
 |@step m x _ c e=>
  by_cases f:m<g.length
  ·have d:0≤x:=((AE (Hw g) m) x c).1
   obtain⟨k,rfl⟩:=J7 d;exact(Rch.edge ((Hv f).1 c).2).trans e
  ·rw[KT,KZ (by rw[Hu];omega)]at c
   simp at c
theorem CX{g:bU}(i:okG g){a b:Nat}(h:Rch g [(b:Int)] a):Rch (Ht g) [(a:Int)] b:=by
 induction h with
 |@base x c=>
  have:x=(b:Int):=by simpa using c
  subst this;simpa using Rch.self b
 |@step m x _ c f=>
  have d:=AE i m x c;obtain⟨k,rfl⟩:=J7 d.1;have e:m<g.length:=by
   apply J1;intro e
   rw[KT,KZ O7]at c
   simp at c
  have:(m:Int)∈(Ht g).getD k []:=(Hv O7).2 ⟨e,c⟩;exact(Rch.edge this).trans f
theorem CU{g:bU}(c:okG g){a b:Nat}:Rch (Ht g) [(a:Int)] b↔Rch g [(b:Int)] a:=⟨CV,CX c⟩
theorem mO:∀(g:bU) (c:Nat),(∀l∈g,l.length≤c)→mG g≤g.length*c
 |[],c,_=>by simp[mG]
 |l::g,c,h=>by
  have h1:=mO g c (fun x a=>h x (by simp[a]));have h2:=h l O_;simp only[mG,LG,Mh,Lm]at h1⊢
  rw[Mt,M1];omega
theorem mR(g:bU):mG (Ht g)≤g.length*(g.length+1):=by
 have h:=mO (Ht g) (g.length+1) (fun l a=>by
  obtain⟨m,b,rfl⟩:=LT.1 a;have e:(Ht g)[m]=Hf g g.length 0 m:=Hz _;rw[e];exact Hh _ _ _ _)
 rwa[Hu]at h
theorem IP{l:List Int}{j:Nat}(h:j<l.length):l.getD j 0=l[j]:=by rw[KT,KY h];rfl
theorem IN{l:List (List Int)}{j:Nat}(h:j<l.length):l.getD j []=l[j]:=by rw[KT,KY h];rfl
theorem IM{l:List Bool}{j:Nat}(h:j<l.length):l.getD j false=l[j]:=by rw[KT,KY h];rfl
theorem qa(w:World)(b f:Nat){a:Option Addr}{c:Nat}{part:List Int}{to n:Nat}(k:Blk w b 39 [.slice a part.length c])(g:Blk w f 3 [Py (n:Int)])(e:Sl w (c7 w) a c part)(d:to<part.length)(hn:n<part.length):
  Rt Tryz.prog 273 [Py (to:Int),Pz b,Pz f].toArray w fun v w'=>v=.bool (part.getD to 0==part.getD n 0)∧Ext w w':=by
 refine dF Tryz.func273 Tryz.ntmps273 rfl rfl ?_;refine Re ?_;refine di rfl rfl rfl rfl rfl Pl e d rfl Pg (fun q=>?_);refine Rz ?_;refine di rfl rfl rfl rfl rfl Pl e hn rfl Pg (fun j=>?_);refine Rl ?_;refine QL.nil (fun i h=>?_);refine PQ ?_;exact be rfl rfl ⟨by rw[IP d,IP hn],h⟩
def Cr(g:bU)(part:List Int)(n c:Nat):Prop:=∃u,u<n∧part.getD u 0=c∧∃to∈g.getD u [],part.getD to.toNat 0=c
theorem Cs{g:bU}{part:List Int}{n c:Nat}:Cr g part (n+1) c↔Cr g part n c∨(part.getD n 0=c∧∃to∈g.getD n [],part.getD to.toNat 0=part.getD n 0):=by
 unfold Cr;constructor
 ·rintro⟨u,h1,h2,h3⟩
  by_cases e:u=n
  ·subst e;exact .inr ⟨h2,by rw[h2];exact h3⟩
  ·exact .inl ⟨u,by omega,h2,h3⟩
 ·rintro(⟨u,h1,h2⟩|⟨h1,h2⟩)
  ·exact⟨u,by omega,h2⟩
  ·exact⟨n,by omega,h1,by rw[←h1];exact h2⟩
theorem oD(w0:World){ao po so:Option Addr}{cap pc sc:Nat}{g sets:bU}{part:List Int}(hs:Sl w0 (c7 w0) ao cap g)(hp:Sl w0 (c7 w0) po pc part)(hfs:Sl w0 (c7 w0) so sc sets)(hg:okG g)(hpt:PartsOK g part)(hl:g.length≤1099511627776)
  (hsets:∀F∈sets,AF g.length F):
  Rt Tryz.prog 232 [.slice ao g.length cap,.slice po part.length pc,.slice so sets.length sc].toArray w0 fun v w'=>∃out:List Bool,Own w' w0.heap.size 4 cZ v out∧out.length=g.length∧
   (∀c,c<g.length→(out.getD c false=true↔Cr g part g.length c∧∀F∈sets,∃x∈F,part.getD x.toNat 0=c))∧Ext w0 w':=by
 have hm:=hs.len63;have hmp:=hp.len63;have hms:=hfs.len63;have hpl:=hpt.len;refine dF Tryz.func232 Tryz.ntmps232 rfl rfl ?_;refine PB ?_;refine dX rfl rfl rfl fun H L hE1=>?_
 have hb40:=L;have hl1:=L.lt;refine Q3 ?_;refine eW (α:=Bool) rfl rfl rfl rfl O7 Pb (fun w2 ho2 hg2=>?_);have e2:Ext H w2:=(JI _ _).grown hg2 Pu Pn;generalize hsv:Value.slice (some ⟨H.heap.size,0,none⟩) g.length g.length=sv at*
 have hpc:∀n,n<part.length→∃c0:Nat,part[n]! =(c0:Int)∧c0<g.length∧part.getD n 0=(c0:Int):=fun n hn=>by
  have h0:=hpt.ge n hn;have h1:=hpt.lt n hn;obtain⟨c0,j⟩:=J7 h0;exact⟨c0,by rw[←j,IP hn];simp[hn],by omega,j⟩
 refine Q3 ?_;refine CW.loop (S:=Nat×List Bool) (fun s=>[(0,.slice ao g.length cap),(2,.slice so sets.length sc),(4,Pz w0.heap.size),(7,sv),(19,.slice ao g.length cap),(20,Py g.length),(21,Py s.1)])
  (fun s w=>s.1≤g.length∧Own w H.heap.size 4 cZ sv s.2∧s.2.length=g.length∧(∀c,c<g.length→(s.2.getD c false=true↔Cr g part s.1 c))∧Ext H w) (fun s=>g.length -s.1) (0,List.replicate g.length false) O6
  ⟨Nc _,ho2,by simp,fun c z=>by dsimp only;rw[qU];unfold Cr;simp,e2⟩ ?_
 rintro⟨n,out⟩ w ⟨hn,A,d,N,e⟩
 dsimp only at hn A d N⊢
 have V:=hE1.trans e;refine Qt ?_;apply CW.cond rfl<;>intro h
 ·have J:n<g.length:=by simp at h;omega
  have erow:g.getD n []=g[n]:=IN J;have P:n<part.length:=by omega
  obtain⟨c0,_,hc0l,j⟩:=hpc n P;have hpn:part[n]=(c0:Int):=by rw[←IP P];exact j
  refine PX ?_;refine eC rfl rfl rfl rfl rfl (hs.at V) J Pg (fun u q hu=>?_);obtain⟨ro,rc,rfl,X⟩:=hu.sl;have hrl:=X.len63;skip;refine WL.alloc rfl rfl (fun O G e3=>?_);have z3:=G.lt;skip;refine WL.st rfl rfl rfl G rfl rfl Pr (fun w4 G hg4=>?_);have e4:Ext w w4:=e3.grown hg4 e3.size Pi;have U:=V.trans e4;have Y:=L.ext (e.trans e4);have A:=A.extN e4;refine QJ ?_;refine WL.call rfl rfl rfl (kD w4 (fun x=>part.getD x.toNat 0==part.getD n 0) (X.mono (fun b l=>(U.block b l).trans (V.block b l).symm) (fun b l=>MQ l U.size)) (fun w5 hw i hi=>?_)) ?_
  ·have hto:=hg _ (Lc J) _ (Lc hi)
   obtain⟨to,eto⟩:=J7 hto.1;rw[eto,Kb];exact FnV.mk (cs:=[_,_]) (qa w5 _ _ (Y.ext hw) (G.ext hw) (hp.up (U.trans hw)) O7 P)
  rintro _ w5 ⟨rfl,B⟩
  have hb45:=Y.ext B;have G:=G.ext B;have A:=A.extN B;have T:=U.trans B;have B:=(e.trans e4).trans B;have Z:(g[n].any fun x=>part.getD x.toNat 0==part.getD n 0)=true↔∃to∈g.getD n [],part.getD to.toNat 0=part.getD n 0:=by
   rw[Kg,erow];simp
  refine PU ?_;apply CW.cond rfl<;>intro h2
  ·refine Q1 ?_
   refine eB rfl rfl rfl rfl rfl (hp.at T) P hpn Pg (fun q=>?_);skip;refine ft (u:=.bool true) (yv:=true) rfl rfl rfl rfl A (show c0<out.length by omega) Pg Pg (Rd.mkBool _ _ _) (fun w6 q2 ho6 hg6=>?_);have e6:Ext H w6:=B.grown hg6 B.size (fun b l=>(A.lt b l).1);refine Qc ?_;refine EX.back (n+1,out.set c0 true) O6 ⟨J,ho6,by simpa using d,fun c z=>?_,e6⟩ Pa;dsimp only;rw[qV O7,Cs,←Z];by_cases e:c0=c
   ·subst e
    rw[OK rfl];exact⟨fun _=>.inr ⟨j,h2⟩,fun _=>rfl⟩
   ·rw[OJ e,N c z]
    exact⟨.inl,fun h=>h.resolve_right (fun⟨h1,_⟩=>e (by have:=j.symm.trans h1;omega))⟩
  ·refine PI ?_
   refine EX.back (n+1,out) O6 ⟨J,A,d,fun c z=>?_,B⟩ Pa;dsimp only;rw[N c z,Cs,←Z,h2];simp
 obtain rfl:n=g.length:=by simp at h;omega
 clear h hn;have L:=L.ext e;have hsb:∀b,sv.ownBlock=some b→b<w.heap.size:=fun b l=>(A.lt b l).2.1
 refine Q9 ?_;refine CW.loop (S:=Nat×List Bool) (fun s=>[(0,.slice ao g.length cap),(4,Pz w0.heap.size),(7,sv),(36,.slice so sets.length sc),(37,Py sets.length),(38,Py s.1)])
  (fun s w=>s.1≤sets.length∧Own w H.heap.size 4 cZ sv s.2∧s.2.length=g.length∧(∀c,c<g.length→(s.2.getD c false=true↔Cr g part g.length c∧∀F∈sets.take s.1,∃x∈F,part.getD x.toNat 0=c))∧Ext H w) (fun s=>sets.length -s.1) (0,out) O6
  ⟨Nc _,A,d,fun c z=>by dsimp only;rw[N c z];simp,e⟩ ?_
 clear N A d V;rintro⟨f,out⟩ O ⟨hf,A,d,N,e3⟩
 dsimp only at hf A d N⊢
 have V:=hE1.trans e3;refine Qt ?_;apply CW.cond rfl<;>intro h
 ·have R:f<sets.length:=by simp at h;omega
  have hFok:=hsets _ (Lc R);refine Rb ?_;refine eC rfl rfl rfl rfl rfl (hfs.at V) R Pg (fun u q hu=>?_);obtain⟨Fo,Fc,rfl,hF⟩:=hu.sl;have hFl:=hF.len63;refine Q3 ?_;refine eW (α:=Bool) rfl rfl rfl rfl O7 Pb (fun w4 ho4 hg4=>?_);have e4:Ext O w4:=(JI _ _).grown hg4 Pu Pn;have W:∀b,sv.ownBlock=some b→b<O.heap.size:=fun b l=>(A.lt b l).2.1
  generalize hhv:Value.slice (some ⟨O.heap.size,0,none⟩) g.length g.length=hv at*
  have hhb:hv.ownBlock=some O.heap.size:=by rw[←hhv];rfl
  refine Q3 ?_;refine CW.loop (S:=Nat×List Bool) (fun s=>[(0,.slice ao g.length cap),(4,Pz w0.heap.size),(7,sv),(12,hv),(36,.slice so sets.length sc),(37,Py sets.length),(38,Py f),(45,.slice Fo sets[f].length Fc),(46,Py sets[f].length),(47,Py s.1)])
   (fun s w=>s.1≤sets[f].length∧Own w O.heap.size 4 cZ hv s.2∧s.2.length=g.length∧(∀c,c<g.length→(s.2.getD c false=true↔∃x∈sets[f].take s.1,part.getD x.toNat 0=c))∧Ext O w) (fun s=>sets[f].length -s.1) (0,List.replicate g.length false) O6
   ⟨Nc _,ho4,by simp,fun c z=>by dsimp only;rw[qU];simp,e4⟩ ?_
  rintro⟨i,m⟩ w5 ⟨hi,o,hhl,D,B⟩
  dsimp only at hi o hhl D⊢
  have T:=V.trans B;have hb5:=hb40.ext (e3.trans B);refine Qt ?_;apply CW.cond rfl<;>intro h
  ·have Q:i<sets[f].length:=by simp at h;omega
   have hto:=hFok _ (Lc Q);obtain⟨x,ex⟩:=J7 hto.1;have hxp:x<part.length:=by omega
   obtain⟨c0,_,hc0l,j⟩:=hpc x hxp;have hpx:part[x]=(c0:Int):=by rw[←IP hxp];exact j
   have hF5:Sl w5 (c7 w0) Fo Fc sets[f]:=hF.mono (fun b l=>(T.block b l).trans (V.block b l).symm) Pl;refine Rb ?_;refine eB rfl rfl rfl rfl rfl hF5 Q ex Pg (fun q=>?_);refine Qa ?_;refine eB rfl rfl rfl rfl rfl (hp.at T) hxp hpx Pg (fun q=>?_);skip;refine ft (u:=.bool true) (yv:=true) rfl rfl rfl rfl o (show c0<m.length by omega) Pg Pg (Rd.mkBool _ _ _) (fun w6 q2 ho6 hg6=>?_);have e6:Ext O w6:=B.grown hg6 B.size (fun b l=>(o.lt b l).1);refine Qc ?_;refine EX.back (i+1,m.set c0 true) O6 ⟨Q,ho6,by simpa using hhl,fun c z=>?_,e6⟩ Pa;dsimp only;rw[qV O7,←Mj Q,ex];by_cases e:c0=c
   ·subst e
    rw[OK rfl];exact⟨fun _=>⟨(x:Int),by simp,by simpa using j⟩,fun _=>rfl⟩
   ·rw[OJ e,D c z]
    constructor
    ·rintro⟨y,h1,h2⟩;exact⟨y,LK.2 (.inl h1),h2⟩
    ·rintro⟨y,h1,h2⟩
     rcases LK.1 h1 with h1|h1
     ·exact⟨y,h1,h2⟩
     ·rw[L0]at h1;subst h1
      rw[Kb,j]at h2;omega
  ·obtain rfl:i=sets[f].length:=by simp at h;omega
   rw[Mk]at D
   have ho5:=A.extN B;refine Q9 ?_;refine CW.loop (S:=Nat×List Bool) (fun s=>[(0,.slice ao g.length cap),(4,Pz w0.heap.size),(7,sv),(12,hv),(36,.slice so sets.length sc),(37,Py sets.length),(38,Py f),(59,Py g.length),(60,Py s.1)])
    (fun s w=>s.1≤g.length∧Own w H.heap.size 4 cZ sv s.2∧s.2.length=g.length∧(∀c,c<g.length→s.2.getD c false=if c<s.1 then out.getD c false&&m.getD c false else out.getD c false)∧Own w O.heap.size 4 cZ hv m∧Ext H w) (fun s=>g.length -s.1) (0,out) ?_
    ⟨Nc _,ho5,d,fun c z=>by dsimp only;rw[OJ O7],o,e3.trans B⟩ ?_
   ·rw[d];exact O6
   rintro⟨k,gd'⟩ w14 ⟨hk,a,p,r,o,M⟩
   dsimp only at hk a p r o⊢
   refine Qt ?_;apply CW.cond rfl<;>intro h
   ·have hk':k<g.length:=by simp at h;omega
    have K:k<gd'.length:=by omega
    have hkh:k<m.length:=by omega
    have hgk:gd'[k]=out.getD k false:=by rw[←IM K,r k hk',OJ O7]
    have hst:∀b:Bool,b=(out.getD k false&&m.getD k false)→∀c,c<g.length→(gd'.set k b).getD c false=if c<k+1 then out.getD c false&&m.getD c false else out.getD c false:=by
     intro b l c z
     rw[qV K];by_cases e:k=c
     ·subst e;rw[OK rfl,OK O7,l]
     ·rw[OJ e,r c z]
      by_cases h1:c<k
      ·rw[OK h1,OK O7]
      ·rw[OJ h1,OJ O7]
    refine PT ?_;refine eE rfl rfl rfl rfl rfl a K Pg (fun u q hu=>?_);obtain rfl:=hu.bool;rw[hgk];by_cases E:out.getD k false=true
    ·rw[E]
     refine Ri ?_;refine eE rfl rfl rfl rfl rfl o hkh Pg (fun u q hu=>?_);obtain rfl:=hu.bool;refine Ri ?_;refine ft (u:=.bool m[k]) (yv:=m[k]) rfl rfl rfl rfl a K Pg Pg (Rd.mkBool _ _ _) (fun w15 q I t=>?_);have e15:Ext H w15:=M.grown t M.size (fun b l=>(a.lt b l).1);have C:=o.keptN t (fun g hg e=>by rw[hhb]at hg;cases hg;exact absurd (W _ e.symm) (MO _));refine Qc ?_;exact EX.back (k+1,gd'.set k m[k]) O6 ⟨hk',I,by simpa using p,hst _ (by rw[E,IM hkh];rfl),C,e15⟩ Pa
    ·have E:out.getD k false=false:=by simpa using E
     rw[E];refine Rj ?_;refine ft (u:=.bool false) (yv:=false) rfl rfl rfl rfl a K Pg Pg (Rd.mkBool _ _ _) (fun w15 q I t=>?_);have e15:Ext H w15:=M.grown t M.size (fun b l=>(a.lt b l).1);have C:=o.keptN t (fun g hg e=>by rw[hhb]at hg;cases hg;exact absurd (W _ e.symm) (MO _));refine Qc ?_;exact EX.back (k+1,gd'.set k false) O6 ⟨hk',I,by simpa using p,hst _ (by rw[E];rfl),C,e15⟩ Pa
   ·obtain rfl:k=g.length:=by simp at h;omega
    refine Qe ?_;refine EX.back (f+1,gd') O6 ⟨R,a,p,fun c z=>?_,M⟩ Pa;dsimp only;rw[r c z,OK z,JL,N c z,D c z,←Mj R,Ol];refine Om J6 ⟨fun⟨h1,h2⟩ F hF=>?_,fun h1=>⟨fun F hF=>h1 F (LK.2 (.inl hF)),h1 sets[f] (LK.2 (.inr O_))⟩⟩;rcases LK.1 hF with hF|hF
    ·exact h1 F hF
    ·rw[L0]at hF;subst hF;exact h2
 ·obtain rfl:f=sets.length:=by simp at h;omega
  rw[Mk]at N
  refine P_ ?_;exact be rfl rfl ⟨out,A.low O7,d,N,V⟩
def vH(nx:bU)(inn:List Bool)(n j:Nat):List Int:=((nx.getD n []).take j).filter fun to=>inn.getD n false&&inn.getD to.toNat false
def vz(nx:bU)(inn:List Bool)(n:Nat):List Int:=(nx.getD n []).filter fun to=>inn.getD n false&&inn.getD to.toNat false
def inG(nx:bU)(inn:List Bool):bU:=(List.range nx.length).map (vz nx inn)
theorem vB{nx:bU}{inn:List Bool}:(inG nx inn).length=nx.length:=by simp[inG]
theorem vD{nx:bU}{inn:List Bool}{n:Nat}(h:n<nx.length):(inG nx inn).getD n []=vz nx inn n:=by
 unfold inG;rw[KT,K1,K2 h];rfl
theorem inG_edge{nx:bU}{inn:List Bool}{u v:Nat}:Eg (inG nx inn) u v↔Eg nx u v∧inn.getD u false=true∧inn.getD v false=true:=by
 by_cases h:u<nx.length
 ·unfold Eg
  rw[vD h];unfold vz;rw[LR];simp
 ·constructor
  ·intro k;have:=k.lt1;rw[vB]at this;exact absurd this h
  ·intro k;exact absurd k.1.lt1 h
theorem vC{nx:bU}{inn:List Bool}(h:okG nx):okG (inG nx inn):=by
 intro r b x a
 rw[vB];obtain⟨n,hn,rfl⟩:=LU.1 b;exact AE h n x (LR.1 a).1
theorem vA{nx:bU}{inn:List Bool}:mG (inG nx inn)≤mG nx:=by
 unfold mG inG;rw[LH];have e:nx.map List.length=(List.range nx.length).map fun k=>(nx.getD k []).length:=by
  refine KD O_ fun i h1 h2=>?_
  simp at h1;simp[h1]
 rw[e];have:∀l:List Nat,(l.map (List.length∘vz nx inn)).sum≤(l.map fun k=>(nx.getD k []).length).sum:=by
  intro l
  induction l with
  |nil=>exact MM _
  |cons x r a=>
   simp only[LG,Mh];have:(List.length∘vz nx inn) x≤(nx.getD x []).length:=Lr _ _;omega
 exact this _
theorem vJ{nx:bU}{inn:List Bool}{n j:Nat}(h:j<(nx.getD n []).length):vH nx inn n (j+1)=vH nx inn n j++if(inn.getD n false&&inn.getD ((nx.getD n [])[j]).toNat false)=true then [(nx.getD n [])[j]]else []:=by
 unfold vH;rw[←Mj h,KF]
 congr 1
 by_cases e:(inn.getD n false&&inn.getD ((nx.getD n [])[j]).toNat false)=true
 ·rw[OK e];simp only[KG,e,KJ];rfl
 ·rw[OJ e];simp only[KG,e,KJ];rfl
theorem vI{nx:bU}{inn:List Bool}{n:Nat}:vH nx inn n (nx.getD n []).length=vz nx inn n:=by unfold vH vz;rw[Mk]
abbrev E0(fr:bU):List (Nat→Prop):=fr.map fun F x=>((x:Nat):Int)∈F
open Classical in
noncomputable def IR(nx:bU)(inn:List Bool)(fr:bU):List Bool:=(List.range nx.length).map fun n=>decide (∃r,r 0=n∧Way8 (Eg (inG nx inn)) (E0 fr) r)
theorem IT{nx:bU}{inn:List Bool}{fr:bU}:(IR nx inn fr).length=nx.length:=by simp[IR]
theorem IS{nx:bU}{inn:List Bool}{fr:bU}{n:Nat}(h:n<nx.length):(IR nx inn fr).getD n false=true↔∃r,r 0=n∧Way8 (Eg (inG nx inn)) (E0 fr) r:=by
 unfold IR;rw[KT,K1,K2 h];simp
theorem gM{g:bU}(a:okG g){ends:List Int}(c:AF g.length ends){n:Nat}:Rch (Ht g) ends n↔∃v:Nat,(v:Int)∈ends∧Rc (Eg g) n v:=by
 rw[CT (Hw g) (fun x b=>(c x b).1)];refine exists_congr fun v=>On fun _=>?_
 rw[←CO (Hw g),CU a,CO a]
theorem IV{nx fr:bU}{inn good:List Bool}{part ends:List Int}(p:okG nx)(hP:PartsOK (inG nx inn) part)(r:∀F∈fr,AF nx.length F)
  (e:∀c,c<nx.length→(good.getD c false=true↔Cr (inG nx inn) part nx.length c∧∀F∈fr,∃x∈F,part.getD x.toNat 0=c))
  (a:∀v:Nat,(v:Int)∈ends↔v<nx.length∧inn.getD v false=true∧good.getD (part.getD v 0).toNat false=true) (i:∀x∈ends,0≤x):
  CP (Ht (inG nx inn)) ends=IR nx inn fr:=by
 have q:=vC (inn:=inn) p;have A:AF (inG nx inn).length ends:=fun x f=>by
  have C:=i x f;have:=((a x.toNat).1 (by rw[show((x.toNat:Nat):Int)=x by omega];exact f)).1;rw[vB];omega
 refine KD (by rw[CR,Hu,vB,IT]) fun n h1 h2=>?_
 have hn:n<nx.length:=by rw[IT]at h2;exact h2
 rw[JN,CQ h1,gM q A,←IM h2,IS hn,oE (N:=nx.length) (fun u v h=>by have:=h.lt q;rwa[vB]at this) hn];have b:∀v,v<nx.length→(good.getD (part.getD v 0).toNat false=true↔aM (Eg (inG nx inn)) (E0 fr) v):=by
  intro v d
  have g:v<part.length:=by rw[hP.len,vB];exact d
  have B:=hP.ge v g;have k1:=hP.lt v g;rw[vB]at k1
  rw[kJ q hP (by rw[vB];exact d),e _ O7,show(((part.getD v 0).toNat:Nat):Int)=part.getD v 0 by omega,vB];unfold Cr;rw[show(((part.getD v 0).toNat:Nat):Int)=part.getD v 0 by omega];refine Om J6 ⟨fun k P t=>?_,fun k F hF=>?_⟩
  ·obtain⟨F,hF,rfl⟩:=LU.1 t
   obtain⟨x,f,j⟩:=k F hF;have:=r F hF x f;exact⟨x.toNat,by omega,by show((x.toNat:Nat):Int)∈F;rw[show((x.toNat:Nat):Int)=x by omega];exact f,j⟩
  ·obtain⟨x,z,m,l⟩:=k _ (LU.2 ⟨F,hF,rfl⟩)
   exact⟨(x:Int),m,by simpa using l⟩
 constructor
 ·rintro⟨v,d,o⟩
  obtain⟨h3,_,h4⟩:=(a v).1 d;exact⟨v,o,(b v h3).1 h4⟩
 ·rintro⟨v,o,y⟩
  have s:=y;obtain⟨⟨u,w,_⟩,_⟩:=y;have d:v<nx.length:=by have:=w.lt1;rwa[vB]at this
  exact⟨v,(a v).2 ⟨d,(inG_edge.1 w).2.1,(b v d).2 s⟩,o⟩
theorem mQ{g:bU}:∀{i:Nat},(h:i<g.length)→g[i].length≤mG g:=by
 unfold mG
 induction g with
 |nil=>intro i h;cases h
 |cons r g a=>
  intro i h
  cases i with
  |zero=>simp
  |succ i=>have:=a (i:=i) (by simpa using h);simp at this⊢;omega
def ng(inn good:List Bool)(part:List Int)(n:Nat):List Int:=((List.range n).filter fun v=>inn.getD v false&&good.getD (part.getD v 0).toNat false).map fun v:Nat=>(v:Int)
theorem nk{inn good:List Bool}{part:List Int}{n:Nat}:ng inn good part (n+1)=ng inn good part n++if(inn.getD n false&&good.getD (part.getD n 0).toNat false)=true then [(n:Int)]else []:=by
 unfold ng;rw[Mb,KF,LE]
 congr 1
 by_cases e:(inn.getD n false&&good.getD (part.getD n 0).toNat false)=true
 ·rw[OK e];simp only[KG,e,KJ];rfl
 ·rw[OJ e];simp only[KG,e,KJ];rfl
theorem nh{inn good:List Bool}{part:List Int}{n:Nat}:(ng inn good part n).length≤n:=by
 unfold ng;rw[Ls];exact MN (Lr _ _) O_
theorem nj{inn good:List Bool}{part:List Int}{n v:Nat}:(v:Int)∈ng inn good part n↔v<n∧inn.getD v false=true∧good.getD (part.getD v 0).toNat false=true:=by
 unfold ng;rw[LU];constructor
 ·rintro⟨u,h1,h2⟩
  obtain rfl:u=v:=by omega
  have:=LR.1 h1;rw[LZ,JL]at this
  exact this
 ·rintro⟨h1,h2,h3⟩
  exact⟨v,LR.2 ⟨LZ.2 h1,by rw[h2,h3];rfl⟩,rfl⟩
theorem nq{inn good:List Bool}{part:List Int}{n:Nat}:∀x∈ng inn good part n,0≤x:=by
 intro x a
 obtain⟨u,_,rfl⟩:=LU.1 a;omega
theorem fD(w0:World){a1 a2 a3 a4 io:Option Addr}{c1 c2 c3 c4 n1 n3 ic:Nat}{nx fr:bU}{inn:List Bool}(h2:Sl w0 (c7 w0) a2 c2 nx)(h4:Sl w0 (c7 w0) a4 c4 fr)(Y:Sl w0 (c7 w0) io ic inn)
  (M:okG nx) (hfr:∀F∈fr,AF nx.length F) (hil:inn.length=nx.length) (hn:nx.length≤600) (hT:mG nx≤8589934592):
  Rt Tryz.prog 160 [I1 a1 c1 a2 c2 a3 c3 a4 c4 n1 nx.length n3 fr.length,.slice io inn.length ic].toArray w0 fun v w'=>Own w' w0.heap.size 4 cZ v (IR nx inn fr)∧Ext w0 w':=by
 have hm2:=h2.len63;refine dE Tryz.func160 Tryz.ntmps160 rfl rfl ?_;refine PB ?_;refine dX rfl rfl rfl fun C g e1=>?_
 have hl1:=g.lt;refine QX ?_;refine eW (α:=Raw) rfl rfl rfl rfl O7 Pb (fun w2 ho2 hg2=>?_);have e2:Ext C w2:=(JI _ _).grown hg2 Pu Pn;generalize hsv:Value.slice (some ⟨C.heap.size,0,none⟩) nx.length nx.length=sv at*
 have hN2:OwnN w2 C.heap.size 39 3 sv _ (List.replicate nx.length ([]:List Int)):=OwnN.made ho2;rw[←rF (full:=vz nx inn)]at hN2
 clear ho2 hg2;have I:=g;have g:=g.ext e2;refine QX ?_;refine CW.loop (S:=Nat×List Raw) (fun s=>[(1,.slice io inn.length ic),(2,Pz w0.heap.size),(5,sv),(23,.slice a2 nx.length c2),(24,Py nx.length),(25,Py s.1)])
  (fun s w=>s.1≤nx.length∧OwnN w C.heap.size 39 3 sv s.2 (rz nx.length (vz nx inn) s.1 [])∧Ext C w) (fun s=>nx.length -s.1) (0,_) O6 ⟨Nc _,hN2,e2⟩ ?_
 rintro⟨n,vs⟩ w3 ⟨V,i,e3⟩
 dsimp only at V i⊢
 have Q:=e1.trans e3;have hb23:=I.ext e3;refine Qt ?_;apply CW.cond rfl<;>intro h
 ·have f:n<nx.length:=by simp at h;omega
  have t:n<inn.length:=by omega
  have erow:nx.getD n []=nx[n]:=IN f;have hre:=mQ f;refine PX ?_;refine eC rfl rfl rfl rfl rfl (h2.at Q) f Pg (fun u q hu=>?_);obtain⟨ro,rc,rfl,G⟩:=hu.sl;have hrl:=G.len63;refine Q3 ?_;refine CW.loop (S:=Nat×List Raw) (fun s=>[(1,.slice io inn.length ic),(2,Pz w0.heap.size),(5,sv),(6,Py n),(23,.slice a2 nx.length c2),(24,Py nx.length),(25,Py n),(30,.slice ro nx[n].length rc),(31,Py nx[n].length),(32,Py s.1)])
   (fun s w=>s.1≤nx[n].length∧OwnN w C.heap.size 39 3 sv s.2 (rz nx.length (vz nx inn) n (vH nx inn n s.1))∧Ext C w) (fun s=>nx[n].length -s.1) (0,vs) O6 ⟨Nc _,by show OwnN _ _ _ _ _ _ (rz _ _ _ (vH nx inn n 0));rw[show vH nx inn n 0=[] by simp[vH]];exact i,e3⟩ ?_
  rintro⟨j,vs⟩ w4 ⟨hj,i,m⟩
  dsimp only at hj i⊢
  have B:=e1.trans m;have L:Sl w4 (c7 w0) ro rc nx[n]:=G.mono (fun b J=>(B.block b J).trans (Q.block b J).symm) Pl;have H:=Y.at B;refine Qt ?_;apply CW.cond rfl<;>intro h
  ·have k:j<nx[n].length:=by simp at h;omega
   have hto:=M _ (Lc f) _ (Lc k);obtain⟨to,eto⟩:=J7 hto.1;have T:to<inn.length:=by omega
   have c:=vJ (nx:=nx) (inn:=inn) (n:=n) (j:=j) (by rw[erow];exact k);have hgj:(nx.getD n [])[j]'(by rw[erow];exact k)=(to:Int):=by simp only[erow];exact eto
   rw[hgj,Kb]at c
   have X:=i.len;rw[rC]at X
   have r:n<vs.length:=by omega
   have y:=i.inn n r (by rw[rC];exact f);rw[rB f]at y
   have hil2:(vH nx inn n j).length≤nx[n].length:=by
    unfold vH;rw[erow];exact MN (Lr _ _) (by rw[LB];omega)
   refine Rb ?_;refine eB rfl rfl rfl rfl rfl L k eto Pg (fun q=>?_);refine Qt ?_;refine eA rfl rfl rfl rfl rfl H t (IM t).symm Pg (fun q=>?_);have skipc:(inn.getD n false&&inn.getD to false)=false→OwnN w4 C.heap.size 39 3 sv vs (rz nx.length (vz nx inn) n (vH nx inn n (j+1))):=fun h=>by
    rw[c,OJ (by rw[h];simp),Ki];exact i
   by_cases e:inn.getD n false=true
   ·rw[e]
    refine Ri ?_;refine eA rfl rfl rfl rfl rfl H T (IM T).symm Pg (fun q=>?_);by_cases d:inn.getD to false=true
    ·rw[d]
     rw[OK (by rw[e,d];rfl)]at c
     refine Ra ?_;refine eE rfl rfl rfl rfl rfl i.out r Pg (fun u q hu=>?_);obtain⟨rfl,_⟩:=hu.raw;refine Ri ?_;refine dW (F:=cZ) (yv:=(to:Int)) rfl rfl Pg rfl rfl Pg y Pt m.size Pj O9 Pb O7 (fun R w5 p ho5 E hnb=>?_);rw[←c]at ho5
     have W:=i.mid r E;skip;refine ft (u:=R) (yv:=⟨R⟩) rfl rfl rfl rfl W r Pg Pg (Rd.mkRaw _ _ _ ?_) (fun w6 q ho6 hg6=>?_)
     ·obtain⟨a,b,rfl⟩:=ho5.val;rfl
     have hN6:=i.set r ho5 E hnb ho6 hg6;rw[rE f]at hN6
     have o:Ext C w6:=(m.grown E m.size (fun b J=>(y.lt b J).1)).grown hg6 (MN m.size E.size) (fun b J=>(i.out.lt b J).1);refine Qc ?_;exact EX.back (j+1,vs.set n ⟨R⟩) O6 ⟨k,hN6,o⟩ Pa
    ·have d:inn.getD to false=false:=by simpa using d
     rw[d];refine P0 ?_;exact EX.back (j+1,vs) O6 ⟨k,skipc (by rw[d,Bool.and_false]),m⟩ Pa
   ·have e:inn.getD n false=false:=by simpa using e
    rw[e];refine Qx ?_;exact EX.back (j+1,vs) O6 ⟨k,skipc (by rw[e,JO]),m⟩ Pa
  ·obtain rfl:j=nx[n].length:=by simp at h;omega
   refine Qe ?_;refine EX.back (n+1,vs) O6 ⟨f,?_,m⟩ Pa;rw[←erow,vI,rD]at i
   exact i
 obtain rfl:n=nx.length:=by simp at h;omega
 rw[rA]at i
 have hgG:(List.range nx.length).map (vz nx inn)=inG nx inn:=rfl;rw[hgG]at i
 have N:=vB (nx:=nx) (inn:=inn);have A:=vC (inn:=inn) M;have hge:=vA (nx:=nx) (inn:=inn);have g:Blk w3 w0.heap.size 74 (jc (I1 a1 c1 a2 c2 a3 c3 a4 c4 n1 nx.length n3 fr.length)):=I.ext e3;obtain⟨go,gc,rfl,O⟩:=i.old.sl;have hfr':∀F∈fr,AF (inG nx inn).length F:=by rw[N];exact hfr
 clear h V i;refine Qo ?_;refine WL.call rfl rfl rfl (dM w3 O Pl A O7) ?_;rintro _ w4 ⟨part,U,hP,m⟩
 have B:=Q.trans m;have g:=g.ext m;have O:=O.up m;obtain⟨po,pc,rfl,hp⟩:=U.oldN.sl;have hpl:=hP.len;refine QR ?_;refine WL.call rfl rfl rfl (oD w4 O hp (h4.up B) A hP O7 hfr') ?_;rintro _ w5 ⟨good,Z,hgol,z,e5⟩
 have hE5:=B.trans e5;have hp:=hp.up e5;have O:=O.up e5;obtain⟨oo,oc,rfl,hgd⟩:=Z.oldN.sl;clear Z U m e5 g;rw[N]at z
 refine Q3 ?_;refine CW.loop (S:=Nat×Value) (fun s=>[(1,.slice io inn.length ic),(5,.slice go (inG nx inn).length gc),(10,.slice po part.length pc),(11,.slice oo good.length oc),(12,s.2),(66,Py (inG nx inn).length),(67,Py s.1)])
  (fun s w=>s.1≤nx.length∧Own w w5.heap.size 3 cZ s.2 (ng inn good part s.1)∧Ext w5 w) (fun s=>nx.length -s.1) (0,.slice none 0 0) O6 ⟨Nc _,Own.nil,Ext.refl _⟩ ?_
 rintro⟨n,ev⟩ w6 ⟨hn6,l,o⟩
 dsimp only at hn6 l⊢
 have hel:=nh (inn:=inn) (good:=good) (part:=part) (n:=n);refine Qt ?_;apply CW.cond rfl<;>intro h
 ·have f:n<nx.length:=by simp at h;omega
  have t:n<inn.length:=by omega
  have D:n<part.length:=by omega
  have h0:=hP.ge n D;have h1:=hP.lt n D;obtain⟨c0,hc0⟩:=J7 h0;have hpn:part[n]=(c0:Int):=by rw[←IP D];exact hc0
  have hcg:c0<good.length:=by omega
  have c:=nk (inn:=inn) (good:=good) (part:=part) (n:=n);rw[hc0,Kb]at c
  refine PT ?_;refine eA rfl rfl rfl rfl rfl (Y.at (hE5.trans o)) t (IM t).symm Pg (fun q=>?_);by_cases e:inn.getD n false=true
  ·rw[e]
   refine Ri ?_;refine eB rfl rfl rfl rfl rfl (hp.up o) D hpn Pg (fun q=>?_);skip;refine eA rfl rfl rfl rfl rfl (hgd.up o) hcg (IM hcg).symm Pg (fun q=>?_);by_cases d:good.getD c0 false=true
   ·rw[d]
    rw[OK (by rw[e,d];rfl)]at c
    refine Ra ?_;refine dW (F:=cZ) (yv:=(n:Int)) rfl rfl Pg rfl rfl Pg l Pt o.size Pj O9 Pb O7 (fun R w7 p ho7 hg7 hnb=>?_);rw[←c]at ho7
    have e7:Ext w5 w7:=o.grown hg7 o.size (fun b J=>(l.lt b J).1);refine Qc ?_;exact EX.back (n+1,R) O6 ⟨f,ho7,e7⟩ Pa
   ·have d:good.getD c0 false=false:=by simpa using d
    rw[d];rw[OJ (by rw[d];simp),Ki]at c
    refine P0 ?_;exact EX.back (n+1,ev) O6 ⟨f,by dsimp only;rw[c];exact l,o⟩ Pa
  ·have e:inn.getD n false=false:=by simpa using e
   rw[e];rw[OJ (by rw[e];simp),Ki]at c
   refine Qx ?_;exact EX.back (n+1,ev) O6 ⟨f,by dsimp only;rw[c];exact l,o⟩ Pa
 obtain rfl:n=nx.length:=by simp at h;omega
 obtain⟨eo,ec,rfl,hes⟩:=l.oldN.sl;have hE6:=hE5.trans o;have hch:jD (inG nx inn)=0:=jE A O7;refine Qo ?_;refine WL.call rfl rfl rfl (dT w6 (O.up o)) ?_;rintro _ w7 ⟨tv,ts,rfl,P,e7⟩
 unfold Hr at P
 rw[OK hch]at P
 obtain⟨to,tc,rfl,htu⟩:=P.old.sl;have htl:=Hu (inG nx inn);have hte:=mR (inG nx inn);have hte2:(inG nx inn).length*((inG nx inn).length+1)≤600*601:=MV O7 O7;have K:=IV (ends:=ng inn good part nx.length) M hP hfr z (fun v=>nj) nq;have heok:AF (Ht (inG nx inn)).length (ng inn good part nx.length):=fun x hx=>by
  have h0:=nq x hx;have:=(nj (v:=x.toNat)).1 (by rw[show((x.toNat:Nat):Int)=x by omega];exact hx);rw[htl,N];omega
 have hrF:=Da (Hw (inG nx inn)) heok O7;refine Qt ?_;refine WL.call rfl rfl rfl (dA w7 htu (hes.up e7) O7) ?_;rw[hrF,K];rintro _ w8 ⟨rv,rfl,hor,e8⟩
 refine QO ?_;exact be rfl rfl ⟨hor.low (MN hE6.size e7.size),(hE6.trans e7).trans e8⟩
theorem vx{l:List Bool}{k:Nat}(a:l.length=k):(idxOf (fun y=>true==y) l= -1∧∀c,l.getD c false=false)∨∃c:Nat,idxOf (fun y=>true==y) l=(c:Int)∧c<k∧l.getD c false=true:=by
 unfold idxOf;cases h:l.findIdx? fun y=>true==y with
 |none=>
  refine .inl ⟨rfl,fun c=>?_⟩;rw[KK]at h
  rw[KT];cases e:l[c]? with
  |none=>rfl
  |some b=>
   have:=h b (LW e);cases b<;>simp_all
 |some i=>
  obtain⟨h1,h2,h3⟩:=KL.1 h;refine .inr ⟨i,rfl,by omega,?_⟩;rw[IM h1];simpa using h2.symm
theorem mT(w:World)(b f:Nat){a:Option Addr}{c:Nat}{part:List Int}{to n:Nat}(k:Blk w b 39 [.slice a part.length c])(g:Blk w f 3 [Py (n:Int)])(e:Sl w (c7 w) a c part)(d:to<part.length)(hn:n<part.length):
  Rt Tryz.prog 205 [Py (to:Int),Pz b,Pz f].toArray w fun v w'=>v=.bool (part.getD to 0==part.getD n 0)∧Ext w w':=by
 refine dF Tryz.func205 Tryz.ntmps205 rfl rfl ?_;refine Re ?_;refine di rfl rfl rfl rfl rfl Pl e d rfl Pg (fun q=>?_);refine Rz ?_;refine di rfl rfl rfl rfl rfl Pl e hn rfl Pg (fun j=>?_);refine Rl ?_;refine QL.nil (fun i h=>?_);refine PQ ?_;exact be rfl rfl ⟨by rw[IP d,IP hn],h⟩
set_option maxHeartbeats 2000000 in
theorem mU(w0:World){sb N:Nat}{x0 x1 x2 x3 x4 x5 x6 x7 x8 x9 x12:Value}{lo no po so:Option Addr}{lc nc pc sc:Nat}{g:List (List Int)}{part:List Int}{sets:List (List Bool)}
  (j:Blk w0 sb 223 [x0,x1,x2,x3,x4,x5,x6,x7,x8,x9,.slice lo N lc,.slice no g.length nc,x12]) (hN:N=g.length) (hs:Sl w0 (c7 w0) no nc g) (hp:Sl w0 (c7 w0) po pc part) (hfs:Sl w0 (c7 w0) so sc sets)
  (hg:okG g) (hpt:PartsOK g part) (hl:g.length≤1228800) (hsl:∀S∈sets,S.length=g.length):
  Rt Tryz.prog 125 [Pz sb,.slice po part.length pc,.slice so sets.length sc].toArray w0 fun v w'=>∃p:Int,v=Py p∧((p= -1∧∀c:Int,0≤c→c<g.length→¬bT g part sets c)∨(0≤p∧p<g.length∧bT g part sets p))∧Ext w0 w':=by
 have hm:=hs.len63;have hmp:=hp.len63;have hms:=hfs.len63;have hpl:=hpt.len;subst hN;have hsb0:=j.lt;refine dF Tryz.func125 Tryz.ntmps125 rfl rfl ?_;refine PB ?_;refine dX rfl rfl rfl fun P Z hE1=>?_
 have hb40:=Z;have hl1:=Z.lt;have hb1:=j.ext hE1;refine QE ?_;refine eW (α:=Bool) rfl rfl rfl rfl O7 Pb (fun w2 ho2 hg2=>?_);have e2:Ext P w2:=(JI _ _).grown hg2 Pu Pn;generalize hsv:Value.slice (some ⟨P.heap.size,0,none⟩) g.length g.length=sv at*
 have hpc:∀n,n<part.length→∃c0:Nat,part[n]! =(c0:Int)∧c0<g.length∧part.getD n 0=(c0:Int):=fun n hn=>by
  have h0:=hpt.ge n hn;have h1:=hpt.lt n hn;obtain⟨c0,K⟩:=J7 h0;exact⟨c0,by rw[←K,IP hn];simp[hn],by omega,K⟩
 have hb2:=hb1.ext e2;refine QE ?_;refine CW.loop (S:=Nat×List Bool) (fun s=>[(0,Pz sb),(2,.slice so sets.length sc),(4,Pz w0.heap.size),(7,sv),(25,.slice no g.length nc),(26,Py g.length),(27,Py s.1)])
  (fun s w=>s.1≤g.length∧Own w P.heap.size 4 cZ sv s.2∧s.2.length=g.length∧(∀c:Nat,c<g.length→(s.2.getD c false=true↔Cr g part s.1 c))∧Ext P w) (fun s=>g.length -s.1) (0,List.replicate g.length false) O6
  ⟨Nc _,ho2,by simp,fun c o=>by dsimp only;rw[qU];unfold Cr;simp,e2⟩ ?_
 rintro⟨n,out⟩ w ⟨hn,E,m,hr,e⟩
 dsimp only at hn E m hr⊢
 have hE:=hE1.trans e;refine Qt ?_;apply CW.cond rfl<;>intro h
 ·have V:n<g.length:=by simp at h;omega
  have erow:g.getD n []=g[n]:=IN V;have hnp:n<part.length:=by omega
  obtain⟨c0,_,hc0l,K⟩:=hpc n hnp;have hpn:part[n]=(c0:Int):=by rw[←IP hnp];exact K
  refine PX ?_;refine eC rfl rfl rfl rfl rfl (hs.at hE) V Pg (fun u q I=>?_);obtain⟨ro,rc,rfl,hrow⟩:=I.sl;have hrl:=hrow.len63;skip;refine WL.alloc rfl rfl (fun l O e3=>?_);have z3:=O.lt;skip;refine WL.st rfl rfl rfl O rfl rfl Pr (fun w4 O hg4=>?_);have e4:Ext w w4:=e3.grown hg4 e3.size Pi;have hE4:=hE.trans e4;have hb44:=Z.ext (e.trans e4);have E:=E.extN e4;refine QJ ?_;refine WL.call rfl rfl rfl (kD w4 (fun x=>part.getD x.toNat 0==part.getD n 0) (hrow.mono (fun b j=>(hE4.block b j).trans (hE.block b j).symm) (fun b j=>MQ j hE4.size)) (fun L hw i hi=>?_)) ?_
  ·have hto:=hg _ (Lc V) _ (Lc hi)
   obtain⟨to,eto⟩:=J7 hto.1;rw[eto,Kb];exact FnV.mk (cs:=[_,_]) (mT L _ _ (hb44.ext hw) (O.ext hw) (hp.up (hE4.trans hw)) O7 hnp)
  rintro _ L ⟨rfl,B⟩
  have hb45:=hb44.ext B;have O:=O.ext B;have E:=E.extN B;have hE5:=hE4.trans B;have B:=(e.trans e4).trans B;have hany:(g[n].any fun x=>part.getD x.toNat 0==part.getD n 0)=true↔∃to∈g.getD n [],part.getD to.toNat 0=part.getD n 0:=by
   rw[Kg,erow];simp
  refine PU ?_;apply CW.cond rfl<;>intro h2
  ·refine Q1 ?_
   refine eB rfl rfl rfl rfl rfl (hp.at hE5) hnp hpn Pg (fun q=>?_);skip;refine ft (u:=.bool true) (yv:=true) rfl rfl rfl rfl E (show c0<out.length by omega) Pg Pg (Rd.mkBool _ _ _) (fun w6 q2 ho6 hg6=>?_);have e6:Ext P w6:=B.grown hg6 B.size (fun b j=>(E.lt b j).1);refine Qc ?_;refine EX.back (n+1,out.set c0 true) O6 ⟨V,ho6,by simpa using m,fun c o=>?_,e6⟩ Pa;dsimp only;rw[qV O7,Cs,←hany];by_cases e:c0=c
   ·subst e
    rw[OK rfl];exact⟨fun _=>.inr ⟨K,h2⟩,fun _=>rfl⟩
   ·rw[OJ e,hr c o]
    exact⟨.inl,fun h=>h.resolve_right (fun⟨h1,_⟩=>e (by have:=K.symm.trans h1;omega))⟩
  ·refine PI ?_
   refine EX.back (n+1,out) O6 ⟨V,E,m,fun c o=>?_,B⟩ Pa;dsimp only;rw[hr c o,Cs,←hany,h2];simp
 obtain rfl:n=g.length:=by simp at h;omega
 clear h hn;have Z:=Z.ext e;refine Q9 ?_;refine CW.loop (S:=Nat×List Bool) (fun s=>[(0,Pz sb),(4,Pz w0.heap.size),(7,sv),(42,.slice so sets.length sc),(43,Py sets.length),(44,Py s.1)])
  (fun s w=>s.1≤sets.length∧Own w P.heap.size 4 cZ sv s.2∧s.2.length=g.length∧(∀c:Nat,c<g.length→(s.2.getD c false=true↔Cr g part g.length c∧∀S∈sets.take s.1,∃x,x<g.length∧S.getD x false=true∧part.getD x 0=c))∧Ext P w) (fun s=>sets.length -s.1) (0,out) O6
  ⟨Nc _,E,m,fun c o=>by dsimp only;rw[hr c o];simp,e⟩ ?_
 clear hr E m hE;rintro⟨f,out⟩ l ⟨hf,E,m,hr,e3⟩
 dsimp only at hf E m hr⊢
 have hE:=hE1.trans e3;have hbs3:=j.ext hE;refine Qt ?_;apply CW.cond rfl<;>intro h
 ·have hf':f<sets.length:=by simp at h;omega
  have hSl:=hsl _ (Lc hf');refine Rb ?_;refine eC rfl rfl rfl rfl rfl (hfs.at hE) hf' Pg (fun u q I=>?_);obtain⟨Fo,Fc,rfl,hF⟩:=I.sl;have hFl:=hF.len63;refine QE ?_;refine eW (α:=Bool) rfl rfl rfl rfl O7 Pb (fun w4 ho4 hg4=>?_);have e4:Ext l w4:=(JI _ _).grown hg4 Pu Pn;have hslt:∀b,sv.ownBlock=some b→b<l.heap.size:=fun b j=>(E.lt b j).2.1
  refine Q3 ?_;refine CW.loop (S:=Nat×List Bool) (fun s=>[(0,Pz sb),(4,Pz w0.heap.size),(7,sv),(12,.slice (some ⟨l.heap.size,0,none⟩) g.length g.length),(42,.slice so sets.length sc),(43,Py sets.length),(44,Py f),(54,.slice Fo sets[f].length Fc),(55,Py sets[f].length),(56,Py s.1)])
   (fun s w=>s.1≤sets[f].length∧Own w l.heap.size 4 cZ (.slice (some ⟨l.heap.size,0,none⟩) g.length g.length) s.2∧s.2.length=g.length∧(∀c:Nat,c<g.length→(s.2.getD c false=true↔∃x,x<s.1∧sets[f].getD x false=true∧part.getD x 0=c))∧Ext l w) (fun s=>sets[f].length -s.1) (0,List.replicate g.length false) O6
   ⟨Nc _,ho4,by simp,fun c o=>by dsimp only;rw[qU];simp,e4⟩ ?_
  rintro⟨i,a⟩ L ⟨hi,D,X,G,B⟩
  dsimp only at hi D X G⊢
  have hE5:=hE.trans B;have hb5:=hb40.ext (e3.trans B);refine Qt ?_;apply CW.cond rfl<;>intro h
  ·have hi':i<sets[f].length:=by simp at h;omega
   have hip:i<part.length:=by omega
   obtain⟨c0,_,K,ec0⟩:=hpc i hip;have hpc':part[i]=(c0:Int):=by rw[←IP hip];exact ec0
   have Y:c0<a.length:=by omega
   have hF5:Sl L (c7 w0) Fo Fc sets[f]:=hF.mono (fun b j=>(hE5.block b j).trans (hE.block b j).symm) Pl;refine PX ?_;refine eA rfl rfl rfl rfl rfl hF5 hi' rfl Pg (fun q=>?_);have hsg:sets[f].getD i false=sets[f][i]:=IM hi';generalize sets[f][i]=is at*
   refine Ri ?_;apply WL.nil;apply bz;have hd:=Ext.drew L;have hpd:=hp.at (hE5.trans hd);have hbd:=hb5.ext hd;have C:=D.extN hd;obtain⟨ho',hc',hv',hhs⟩:=C.slF (F':=fun b=>b=l.heap.size) Pj (fun g hg=>by cases hg;rfl);obtain⟨rfl,_,rfl⟩:=Oi hv';rw[←X]at hhs
   have hKK:∀(F:Nat→Prop) z,(fun x:World=>x=drew L) z→∀b,F b→z.heap[b]?=(drew L).heap[b]?:=fun F z hz b _=>by rw[hz]
   have hK1:∀u,(fun x:World=>x=drew L) u→u.heap[w0.heap.size]?=(drew L).heap[w0.heap.size]?:=fun u I=>by rw[I]
   have R:∀(b:Bool),(b=true↔a[c0]=true∨is=true)→∀w',Own w' l.heap.size 4 cZ (.slice (some ⟨l.heap.size,0,none⟩) g.length g.length) (a.set c0 b)→Ext l w'→
     (i+1≤sets[f].length∧Own w' l.heap.size 4 cZ (.slice (some ⟨l.heap.size,0,none⟩) g.length g.length) (a.set c0 b)∧(a.set c0 b).length=g.length∧(∀c:Nat,c<g.length→((a.set c0 b).getD c false=true↔∃y,y<i+1∧sets[f].getD y false=true∧part.getD y 0=c))∧Ext l w'):=by
    intro b j w' E he
    refine⟨hi',E,by simpa using X,fun c o=>?_,he⟩;have hsplit:(∃y,y<i+1∧sets[f].getD y false=true∧part.getD y 0=c)↔(∃y,y<i∧sets[f].getD y false=true∧part.getD y 0=c)∨(is=true∧c0=c):=by
     constructor
     ·rintro⟨y,hy1,Q,hy3⟩
      by_cases e:y=i
      ·subst e;exact .inr ⟨by rw[←hsg];exact Q,by omega⟩
      ·exact .inl ⟨y,by omega,Q,hy3⟩
     ·rintro(⟨y,hy1,Q⟩|⟨hy1,Q⟩)
      ·exact⟨y,by omega,Q⟩
      ·exact⟨i,by omega,by rw[hsg];exact hy1,by omega⟩
    rw[qV Y,hsplit];by_cases e:c0=c
    ·subst e
     rw[OK rfl,j,←qF Y,G _ o];simp
    ·rw[OJ e,G c o]
     simp[e]
   refine aE (fun x:World=>x=drew L) [(0,true),(1,true),(2,true),(3,true),(4,true),(5,true),(6,true),(7,true),(8,true),(9,true),(10,true),(11,true),(12,true),(13,true),(14,true),(15,true)] 16 mixed O8 rfl ?_;refine RJ ?_;refine bY (w:=drew L) (F:=c7 w0) (hKK _) rfl rfl rfl rfl rfl rfl rfl hpd hip Pg (fun u q I=>?_);obtain rfl:=I.int;rw[hpc'];refine RJ ?_;refine bY (w:=drew L) (F:=c7 w0) (hKK _) rfl rfl rfl rfl rfl rfl rfl hpd hip Pg (fun u q I=>?_);obtain rfl:=I.int;rw[hpc'];skip;rw[←X];refine bY (w:=drew L) (F:=fun b=>b=l.heap.size) (hKK _) rfl rfl rfl rfl rfl rfl rfl hhs Y Pg (fun u q I=>?_);obtain rfl:=I.bool;rw[X];by_cases hh:a[c0]=true
   ·rw[hh]
    refine RM ?_;refine cy (yv:=true) rfl rfl rfl rfl rfl rfl C Y Pg Pg (Rd.mkBool _ _ _) (fun w14 q U d=>?_);have A:Ext l w14:=(B.trans hd).grown d (B.trans hd).size (fun b j=>(C.lt b j).1);refine Qc ?_;exact EX.back (i+1,a.set c0 true) O6 (R true (by simp[hh]) _ U A) Pa
   ·have hh:a[c0]=false:=by simpa using hh
    rw[hh];refine RE ?_;refine cy (yv:=is) rfl rfl rfl rfl rfl rfl C Y Pg Pg (Rd.mkBool _ _ _) (fun w14 q U d=>?_);have A:Ext l w14:=(B.trans hd).grown d (B.trans hd).size (fun b j=>(C.lt b j).1);refine Qc ?_;exact EX.back (i+1,a.set c0 is) O6 (R _ (by simp[hh]) _ U A) Pa
  ·obtain rfl:i=sets[f].length:=by simp at h;omega
   have ho5:=E.extN B;rw[hSl]at G
   generalize hhv:Value.slice (some ⟨l.heap.size,0,none⟩) g.length g.length=hv at*
   have hhb:hv.ownBlock=some l.heap.size:=by rw[←hhv];rfl
   refine Q9 ?_;refine CW.loop (S:=Nat×List Bool) (fun s=>[(0,Pz sb),(4,Pz w0.heap.size),(7,sv),(12,hv),(42,.slice so sets.length sc),(43,Py sets.length),(44,Py f),(79,Py g.length),(80,Py s.1)])
    (fun s w=>s.1≤g.length∧Own w P.heap.size 4 cZ sv s.2∧s.2.length=g.length∧(∀c:Nat,c<g.length→s.2.getD c false=if c<s.1 then out.getD c false&&a.getD c false else out.getD c false)∧Own w l.heap.size 4 cZ hv a∧Ext P w) (fun s=>g.length -s.1) (0,out) ?_
    ⟨Nc _,ho5,m,fun c o=>by dsimp only;rw[OJ O7],D,e3.trans B⟩ ?_
   ·rw[m];exact O6
   rintro⟨k,gd'⟩ w14 ⟨hk,d,r,t,D,A⟩
   dsimp only at hk d r t D⊢
   refine Qt ?_;apply CW.cond rfl<;>intro h
   ·have hk':k<g.length:=by simp at h;omega
    have W:k<gd'.length:=by omega
    have hkh:k<a.length:=by omega
    have hgk:gd'[k]=out.getD k false:=by rw[←IM W,t k hk',OJ O7]
    have hst:∀b:Bool,b=(out.getD k false&&a.getD k false)→∀c:Nat,c<g.length→(gd'.set k b).getD c false=if c<k+1 then out.getD c false&&a.getD c false else out.getD c false:=by
     intro b j c o
     rw[qV W];by_cases e:k=c
     ·subst e;rw[OK rfl,OK O7,j]
     ·rw[OJ e,t c o]
      by_cases h1:c<k
      ·rw[OK h1,OK O7]
      ·rw[OJ h1,OJ O7]
    refine PT ?_;refine eE rfl rfl rfl rfl rfl d W Pg (fun u q I=>?_);obtain rfl:=I.bool;rw[hgk];by_cases M:out.getD k false=true
    ·rw[M]
     refine Ri ?_;refine eE rfl rfl rfl rfl rfl D hkh Pg (fun u q I=>?_);obtain rfl:=I.bool;refine Ri ?_;refine ft (u:=.bool a[k]) (yv:=a[k]) rfl rfl rfl rfl d W Pg Pg (Rd.mkBool _ _ _) (fun w15 q T H=>?_);have e15:Ext P w15:=A.grown H A.size (fun b j=>(d.lt b j).1);have J:=D.keptN H (fun g hg e=>by rw[hhb]at hg;cases hg;exact absurd (hslt _ e.symm) (MO _));refine Qc ?_;exact EX.back (k+1,gd'.set k a[k]) O6 ⟨hk',T,by simpa using r,hst _ (by rw[M,IM hkh];rfl),J,e15⟩ Pa
    ·have M:out.getD k false=false:=by simpa using M
     rw[M];refine Rj ?_;refine ft (u:=.bool false) (yv:=false) rfl rfl rfl rfl d W Pg Pg (Rd.mkBool _ _ _) (fun w15 q T H=>?_);have e15:Ext P w15:=A.grown H A.size (fun b j=>(d.lt b j).1);have J:=D.keptN H (fun g hg e=>by rw[hhb]at hg;cases hg;exact absurd (hslt _ e.symm) (MO _));refine Qc ?_;exact EX.back (k+1,gd'.set k false) O6 ⟨hk',T,by simpa using r,hst _ (by rw[M];rfl),J,e15⟩ Pa
   ·obtain rfl:k=g.length:=by simp at h;omega
    refine Qe ?_;refine EX.back (f+1,gd') O6 ⟨hf',d,r,fun c o=>?_,A⟩ Pa;dsimp only;rw[t c o,OK o,JL,hr c o,G c o,←Mj hf',Ol];refine Om J6 ⟨fun⟨h1,h2⟩ F hF=>?_,fun h1=>⟨fun F hF=>h1 F (LK.2 (.inl hF)),h1 sets[f] (LK.2 (.inr O_))⟩⟩;rcases LK.1 hF with hF|hF
    ·exact h1 F hF
    ·rw[L0]at hF;subst hF;exact h2
 ·obtain rfl:f=sets.length:=by simp at h;omega
  rw[Mk]at hr
  obtain⟨oo,oc,rfl,hos⟩:=E.oldN.sl;refine Qo ?_;refine WL.call rfl rfl rfl (vP l true hos) ?_;rintro _ w4 ⟨rfl,e4⟩
  have hiff:∀c:Nat,c<g.length→(out.getD c false=true↔bT g part sets (c:Int)):=fun c o=>hr c o
  refine PK ?_;refine be rfl rfl ⟨_,rfl,?_,hE.trans e4⟩;rcases vx m with⟨h1,h2⟩|⟨c,h1,h2,h3⟩
  ·refine .inl ⟨h1,fun c h0 h3 h4=>?_⟩
   obtain⟨c,rfl⟩:=J7 h0;have:=(hiff c O7).2 h4;rw[h2]at this
   cases this
  ·exact .inr ⟨by omega,by omega,by rw[h1];exact(hiff c h2).1 h3⟩
theorem Cells.nthE{w:World}{b off:Nat}{cs:List Value}(h:Cells w b off cs){j:Nat}{v:Value}(c:cs[j]?=some v):Cells w b (off+j) [v]:=by
 intro k u a
 cases k with
 |zero=>simp at a;subst a;exact h j _ c
 |succ k=>simp at a
theorem Sl.pairAt{w:World}{F:Nat→Prop}{ao:Option Addr}{cap:Nat}{xs:List de}(h:Sl w F ao cap xs)(i:Nat)(hi:i<xs.length):∃b off,ao=some ⟨b,off,none⟩∧F b∧Cells w b (off+i*2+0) [Py xs[i].1]∧Cells w b (off+i*2+1) [Py xs[i].2]:=by
 obtain⟨b,off,e,hF,d,a,c⟩:=h.el i hi;obtain⟨c1,c2,rfl,h1,h2⟩:=C8 c;rw[C3 h1,C3 h2]at a
 exact⟨b,off,e,hF,a.nthE rfl,a.nthE rfl⟩
theorem lY{l:List Int}(h:0<l.length):l.drop (l.length -1)=[l.getD (l.length -1) 0]:=by
 refine KD Pc fun i h1 h2=>?_
 rw[Ln]at h1
 obtain rfl:i=0:=by omega
 rw[La,KT,KY O7];rfl
theorem ry{g:bU}{part:List Int}{sets:List (List Bool)}(a:okG g)(c:PartsOK g part){i:Nat}(hi:i<g.length)(h:bT g part sets (part.getD i 0)):∃u:Nat,u<g.length∧(u:Int)∈g.getD i []∧part.getD u 0=part.getD i 0:=by
 obtain⟨⟨u,h1,h2⟩,_⟩:=(rx a c hi).2 h;have b:u<g.length:=Eg.lt a h1;exact⟨u,b,h1,(c.same u i b hi).2 ⟨(CO a).2 h2,(CO a).2 (Rc.one h1)⟩⟩
theorem ny(w:World)(b:Nat){a:Option Addr}{c:Nat}{S:List Bool}{k:Nat}(f:Blk w b 80 [.slice a S.length c])(e:Sl w (c7 w) a c S)(d:k<S.length):
  Rt Tryz.prog 207 [Py (k:Int),Pz b].toArray w fun v w'=>v=.bool (S.getD k false)∧Ext w w':=by
 refine dE Tryz.func207 Tryz.ntmps207 rfl rfl ?_;refine Qa ?_;refine eA rfl rfl rfl rfl rfl e d rfl Pg (fun q=>?_);refine PK ?_;exact be rfl rfl ⟨by rw[IM d],Ext.refl w⟩
theorem nz(w:World)(b:Nat){a:Option Addr}{c:Nat}{S:List Bool}{k:Nat}(f:Blk w b 80 [.slice a S.length c])(e:Sl w (c7 w) a c S)(d:k<S.length):
  Rt Tryz.prog 208 [Py (k:Int),Pz b].toArray w fun v w'=>v=.bool (S.getD k false)∧Ext w w':=by
 refine dE Tryz.func208 Tryz.ntmps208 rfl rfl ?_;refine Qa ?_;refine eA rfl rfl rfl rfl rfl e d rfl Pg (fun q=>?_);refine PK ?_;exact be rfl rfl ⟨by rw[IM d],Ext.refl w⟩
theorem nA(w:World)(b:Nat){k n:Nat}(a:Blk w b 3 [Py (n:Int)]):
  Rt Tryz.prog 209 [Py (k:Int),Pz b].toArray w fun v w'=>v=.bool (decide (k=n))∧Ext w w':=by
 refine dE Tryz.func209 Tryz.ntmps209 rfl rfl ?_;refine Q8 ?_;refine be rfl rfl ⟨?_,Ext.refl w⟩
 congr 1
 (rw[JN];simp;try omega)
set_option maxHeartbeats 2000000 in
theorem nB(w0:World){sb n:Nat}{x0 x1 x2 x3 x4 x5 x6 x7 x8 x9 x10 x12:Value}{no po so:Option Addr}{nc pc sc:Nat}{g:List (List Int)}{part:List Int}{sets:List (List Bool)}
  (f:Blk w0 sb 223 [x0,x1,x2,x3,x4,x5,x6,x7,x8,x9,x10,.slice no g.length nc,x12]) (hs:Sl w0 (c7 w0) no nc g) (hp:Sl w0 (c7 w0) po pc part) (hfs:Sl w0 (c7 w0) so sc sets)
  (J:okG g) (C:PartsOK g part) (hl:g.length≤1228800) (hsl:∀S∈sets,S.length=g.length) (hsn:sets.length≤160) (hrw0:∀r∈g,r.length≤1099511627776) (hn:n<g.length) (hgd:bT g part sets (part.getD n 0)):
  Rt Tryz.prog 128 [Pz sb,Py (n:Int),.slice po part.length pc,.slice so sets.length sc].toArray w0 fun v w'=>∃out,Own w' w0.heap.size 3 cZ v out∧RoOK g n sets out∧Ext w0 w':=by
 have hpl:=C.len;have hms:=hfs.len63;have Y:n<part.length:=by omega
 have h0:=C.ge n Y;have hpn:part[n]=part.getD n 0:=(IP Y).symm;have hsb0:=f.lt;have hsg:sets.length*g.length≤160*1228800:=MV hsn hl;refine dG Tryz.func128 Tryz.ntmps128 rfl rfl ?_;refine PB ?_;refine dX rfl rfl rfl fun w1 hb5 O=>?_
 have hl5:=hb5.lt;generalize t:w0.heap.size=b5 at*
 refine Qa ?_;refine eB rfl rfl rfl rfl rfl (hp.at O) Y hpn Pg (fun q=>?_);generalize M:part.getD n 0=c at*
 refine Qa ?_;refine WL.lit (F:=cZ) (ys:=[(n:Int)]) rfl rfl rfl rfl rfl (.cons Pt .nil) (by show 1*1≤16777216;decide) Pj (fun w2 ho2 hg2=>?_);have e2:Ext w1 w2:=(JI _ _).grown hg2 Pu Pn;generalize hov:Value.slice (some ⟨w1.heap.size,0,none⟩) 1 1=ov0 at*
 refine Q3 ?_;refine CW.loop (S:=Nat×List Int×Value) (fun s=>[(0,Pz sb),(2,.slice po part.length pc),(5,Pz b5),(9,Py c),(10,s.2.2),(24,.slice so sets.length sc),(25,Py sets.length),(26,Py s.1)])
  (fun s w=>s.1≤sets.length∧RoI g part n (sets.take s.1) s.2.1∧Own w w1.heap.size 3 cZ s.2.2 s.2.1∧Ext w1 w) (fun s=>sets.length -s.1) (0,[(n:Int)],ov0) O6
  ⟨Nc _,by simpa using RoI.start (part:=part) hn,ho2,e2⟩ ?_
 clear ho2 hg2 e2;rintro⟨i,out,ov⟩ w ⟨hi,hR,ho,e⟩
 dsimp only at hi hR ho e⊢
 have P:=O.trans e;have hRl:=hR.len;have hRn:=hR.ne;have hlt:=fun g J=>ho.lt g J
 have hbw:=f.ext P;have hb5w:=hb5.ext e;have htl:(sets.take i).length≤160:=by rw[LB];omega
 have htg:(sets.take i).length*g.length≤160*1228800:=MV htl hl;have hol:out.length≤196608001:=by omega
 have o:out.getD (out.length -1) 0∈out:=by rw[KT,KY O7];exact Lc _
 have hlr:=hR.rg _ o;have D:=hR.pt _ o;obtain⟨la,L⟩:=J7 hlr.1;rw[L,Kb,M]at D
 have d:la<g.length:=by omega
 refine Qt ?_;apply CW.cond rfl<;>intro h
 ·have G:i<sets.length:=by simp at h;omega
  clear h;have hSm:=Lc G;have hSl:=hsl _ hSm;have B:sets.take (i+1)=sets.take i++[sets[i]]:=Mo G;refine Rb ?_;refine eC rfl rfl rfl rfl rfl (hfs.mono (w':=w) P.block (F':=fun b=>b<b5) (fun b f=>by rw[←t];exact f)) G Pg (fun u q V=>?_);obtain⟨Fo,Fc,rfl,hF⟩:=V.sl;clear V;generalize sets[i]=S at*
  skip;refine WL.alloc rfl rfl (fun w3 N A=>?_);skip;refine WL.st rfl rfl rfl N rfl rfl Pr (fun w4 N hg4=>?_);have e4:Ext w w4:=A.grown hg4 A.size Pi;have hE4:=P.trans e4;have ho4:=ho.extN e4;have hz4:=hE4.size;have hF4:∀{x:World},Ext w4 x→Sl x (c7 x) Fo Fc S:=fun {x} U=>hF.mono (fun b f=>((hE4.trans U).block b (by rw[t];exact f)).trans (P.block b (by rw[t];exact f)).symm) (fun b f=>by have:=(hE4.trans U).size;exact(show b<x.heap.size by omega))
  obtain⟨oo,oc,rfl,W⟩:=ho4.oldN.sl;refine QJ ?_;refine WL.call rfl rfl rfl (kD w4 (fun x=>S.getD x.toNat false) W (fun w5 a j hj=>?_)) ?_
  ·have hto:=hR.rg _ (Lc hj)
   obtain⟨to,eto⟩:=J7 hto.1;rw[eto,Kb];exact FnV.mk (cs:=[_]) (ny w5 _ (N.ext a) (hF4 a) O7)
  rintro _ w5 ⟨rfl,e5⟩
  have e45:=e4.trans e5;have hE5:=P.trans e45;have I:=e.trans e45;have ho5:=ho4.extN e5;refine PU ?_;apply CW.cond rfl<;>intro h2
  ·refine Qe ?_
   refine EX.back (i+1,out,.slice oo out.length oc) O6 ⟨G,?_,ho5,I⟩ Pa;dsimp only;rw[B];rw[Kg]at h2
   exact hR.skip h2
  ·have hdl:=lY hRn
   refine QS ?_;refine ew (α:=Int) (out.length -1) O7 rfl rfl rfl rfl ho5 O7 (fun tv2 ho2 hob=>?_);rw[hdl]at ho2
   obtain⟨fo,fc,rfl,hfr⟩:=ho2.oldN.sl;have hfin:=hgd.2 S hSm;obtain⟨x,U,hxs,hxp⟩:=hfin;refine Rq ?_;refine WL.call rfl rfl rfl (nQ w5 (fr:=[out.getD (out.length -1) 0]) (to:=fun k=>S.getD k false) (f.ext hE5) (hs.up hE5) hfr (hp.up hE5) J (fun y hy=>by rw[L0]at hy;subst hy;exact hlr) hpl hl (fun z hz k hk=>FnV.mk (cs:=[_]) (nz z _ ((N.ext e5).ext hz) (hF4 (e5.trans hz)) O7))) ?_;rintro v6 w6 ⟨r,X,a,e6⟩
   have a:WyOK g [out.getD (out.length -1) 0] (fun k=>S.getD k false) (fQ part c) r:=by
    rcases a with⟨_,a⟩|a
    ·exact absurd a (IC J C h0 d U D hxp (by rw[L];simp) hxs)
    ·exact a
   have hrl:=a.len;have hrn:=a.ne;have hR':=hR.go (S:=S) (l:=r) (by rw[M];exact h0) (by rw[M];exact a);have ho6:=ho5.extN e6;have hz5:=I.size;refine Qq ?_;refine ew (α:=Int) 1 rfl rfl rfl rfl rfl X O7 (fun v7 ho7 hob7=>?_);obtain⟨ro,rc,rfl,K⟩:=ho7.oldN.sl;skip;refine WL.app (F:=cZ) rfl rfl rfl rfl ho6 K.srcN (by have:=(I.trans e6).size;omega) Pj (by unfold maxLen;rw[Ln];omega) (by rw[Ln];omega) (fun v8 w8 ho8 hg8 hnb8=>?_);have e8:Ext w1 w8:=(I.trans e6).grown hg8 (I.trans e6).size (fun b f=>(ho6.lt b f).1);refine Qc ?_;exact EX.back (i+1,out++r.drop 1,v8) O6 ⟨G,by dsimp only;rw[B];exact hR',ho8,e8⟩ Pa
 obtain rfl:i=sets.length:=by simp at h;omega
 rw[Mk]at hR
 clear h hi htl htg;obtain⟨oo,oc,rfl,W⟩:=ho.oldN.sl;have Q:g.getD la []=g[la]:=IN d;refine Rh ?_;have R:out.length -1<out.length:=by omega
 have Z:out[out.length -1]=(la:Int):=by rw[←L,IP R]
 rw[show((out.length:Nat):Int) -1=((out.length -1:Nat):Int) by omega];refine di rfl rfl rfl rfl rfl Pl W R Z Pg (fun q=>?_);skip;refine dk rfl rfl rfl rfl rfl (fun b f=>by have:=P.size;omega) (hs.mono (w':=w) P.block (F':=fun b=>b<b5) (fun b f=>by rw[←t];exact f)) d Pg (fun u q V=>?_);obtain⟨ro,rc,rfl,K⟩:=V.sl;clear V;have hrr:AF g.length g[la]:=J _ (Lc d);have hrwl:=hrw0 _ (Lc d);generalize hrw:g[la]=row at*
 have hrl:=K.len63;refine Ry ?_;refine QL.nil (fun w2 e2=>?_);have e12:=e.trans e2;have hE2:=P.trans e2;have ho2:=ho.extN e2;have hz2:=hE2.size;refine Rb ?_;refine CW.loop (S:=Nat×List Int×Value) (fun s=>[(0,Pz sb),(2,.slice po part.length pc),(5,Pz b5),(9,Py c),(10,.slice oo out.length oc),(14,s.2.2),(59,.slice ro row.length rc),(60,Py row.length),(61,Py s.1)])
  (fun s w=>s.1≤row.length∧s.2.1=(row.take s.1).filter (fun k=>decide (part.getD k.toNat 0=c))∧Own w w2.heap.size 3 cZ s.2.2 s.2.1∧Ext w2 w) (fun s=>row.length -s.1) (0,[],.slice none 0 0) O6
  ⟨Nc _,by simp,Own.nil,Ext.refl _⟩ ?_
 rintro⟨j,th,tv⟩ w3 ⟨hj,m,ht,A⟩
 dsimp only at hj m ht A⊢
 have H:=hE2.trans A;have hthl:th.length≤j:=by
  rw[m];exact MN (Lr _ _) (by rw[LB];omega)
 refine Qt ?_;apply CW.cond rfl<;>intro h
 ·have E:j<row.length:=by simp at h;omega
  clear h;have hkr:=hrr _ (Lc E);have B:row.take (j+1)=row.take j++[row[j]]:=Mo E;refine Rb ?_;refine eB rfl rfl rfl rfl rfl (K.mono (w':=w3) (fun b f=>(H.block b (by rw[t];exact f)).trans (P.block b (by rw[t];exact f)).symm) (F':=fun b=>b<b5) Pl) E rfl Pg (fun q=>?_);generalize row[j]=k at*
  obtain⟨kn,rfl⟩:=J7 hkr.1;have hkp:kn<part.length:=by omega
  have hpk:part.getD kn 0=part[kn]:=IP hkp;refine Qt ?_;refine eB rfl rfl rfl rfl rfl (hp.at H) hkp rfl Pg (fun q=>?_);refine PN ?_;apply CW.cond rfl<;>intro h2
  ·have h2:part[kn]=c:=by simpa using h2
   refine PY ?_;refine dW (F:=cZ) (yv:=(kn:Int)) rfl rfl Pg rfl rfl Pg ht Pt A.size Pj O9 Pb O7 (fun tv' w4 p ho4 hg4 hnb4=>?_);refine Qc ?_;refine EX.back (j+1,th++[(kn:Int)],tv') O6 ⟨E,?_,ho4,A.grown hg4 A.size (fun g J=>(ht.lt g J).1)⟩ Pa;dsimp only;rw[B,KF,←m,KG,KJ,Kb,hpk,OC h2,OK rfl]
  ·have h2:¬part[kn]=c:=by simpa using h2
   refine PI ?_;refine EX.back (j+1,th,tv) O6 ⟨E,?_,ht,A⟩ Pa;dsimp only;rw[B,KF,←m,KG,KJ,Kb,hpk,Oz h2,OJ O9,Ki]
 obtain rfl:j=row.length:=by simp at h;omega
 rw[Mk]at m
 clear h hj hthl;have T:∀x∈th,x∈row:=fun x U=>by rw[m]at U;exact(LR.1 U).1
 obtain⟨tt,tc,rfl,hts⟩:=ht.oldN.sl;have ho3:=ho2.extN A;obtain⟨u,V,hue,hup⟩:=ry J C d (sets:=sets) (by rw[D];exact hgd);rw[Q]at hue
 have hut:(u:Int)∈th:=by rw[m];exact LR.2 ⟨hue,OC (by rw[Kb,hup,D])⟩
 have hb53:=hb5w.ext (e2.trans A);refine QV ?_;refine WL.call rfl rfl rfl (nQ w3 (fr:=th) (to:=fun k=>decide (k=n)) (f.ext H) (hs.up H) hts (hp.up H) J (fun y hy=>hrr y (T y hy)) hpl hl (fun z hz k hk=>FnV.mk (cs:=[_]) (nA z _ (hb53.ext hz)))) ?_;rintro v6 w6 ⟨r,X,a,e6⟩
 have a:WyOK g th (fun k=>decide (k=n)) (fQ part c) r:=by
  rcases a with⟨_,a⟩|a
  ·exact absurd a (IC J C h0 V hn (by rw[hup,D]) M hut O_)
  ·exact a
 have hrl2:=a.len;have hrn:=a.ne;have hRO:=hR.close (l:=r) (fr:=th) (by rw[L,Kb,Q];exact T) a;have ho6:=ho3.extN e6;have e16:=(e12.trans A).trans e6;refine QS ?_;refine eq (α:=Int) (r.length -1) O7 rfl rfl rfl rfl X O7 (fun v7 ho7 hob7=>?_);obtain⟨ro7,rc7,rfl,hrs7⟩:=ho7.oldN.sl;skip;refine WL.app (F:=cZ) rfl rfl rfl rfl ho6 hrs7.srcN e16.size Pj (by unfold maxLen;rw[LB];omega) (by rw[LB];omega) (fun v8 w8 ho8 hg8 hnb8=>?_);have e8:Ext w1 w8:=e16.grown hg8 e16.size (fun b f=>(ho6.lt b f).1);refine PK ?_;exact be rfl rfl ⟨_,ho8.low (by have:=O.size;omega),hRO,O.trans e8⟩
theorem nH(w0:World){sb:Nat}{x0 K J I H G E D C B j f:Value}{lo ao:Option Addr}{y ac:Nat}{ps:List de}{l:List Int}
  (R:Blk w0 sb 223 [x0,K,J,I,H,G,E,D,C,B,.slice lo ps.length y,j,f]) (r:Sl w0 (c7 w0) lo y ps) (M:Sl w0 (c7 w0) ao ac l) (O:AF ps.length l) (N:l.length≤1099511627776):
  Rt Tryz.prog 129 [Pz sb,.slice ao l.length ac].toArray w0 fun v w'=>Own w' w0.heap.size 3 cZ v (l.map fun n=>(ps.getD n.toNat (0,0)).1)∧Ext w0 w':=by
 refine dE Tryz.func129 Tryz.ntmps129 rfl rfl ?_;refine Q3 ?_;refine CW.loop (S:=Nat×Value) (fun s=>[(0,Pz sb),(5,s.2),(8,.slice ao l.length ac),(9,Py l.length),(10,Py s.1)])
  (fun s w=>s.1≤l.length∧Own w w0.heap.size 3 cZ s.2 ((l.take s.1).map fun n=>(ps.getD n.toNat (0,0)).1)∧Ext w0 w) (fun s=>l.length -s.1) (0,.slice none 0 0) O6 ⟨Nc _,Own.nil,Ext.refl _⟩ ?_
 rintro⟨i,ov⟩ w ⟨hi,e,c⟩
 dsimp only at hi e c⊢
 have Q:=R.ext c;refine Qt ?_;apply CW.cond rfl<;>intro h
 ·have a:i<l.length:=by simp at h;omega
  have m:=O _ (Lc a);have d:(l.take (i+1)).map (fun n=>(ps.getD n.toNat (0,0)).1)=(l.take i).map (fun n=>(ps.getD n.toNat (0,0)).1)++[(ps.getD l[i].toNat (0,0)).1]:=by
   rw[Mo a,LE];rfl
  have L:(List.map (fun n:Int=>(ps.getD n.toNat (0,0)).1) (l.take i)).length=i:=by rw[Ls,LB];omega
  refine Rb ?_;refine eB rfl rfl rfl rfl rfl (M.up c) a rfl Pg (fun q=>?_);generalize l[i]=x at*
  obtain⟨k,rfl⟩:=J7 m.1;rw[Kb]at d
  have A:k<ps.length:=by omega
  have o:ps.getD k (0,0)=ps[k]:=by rw[KT,KY A];rfl
  rw[o]at d
  obtain⟨b,off,rfl,T,u,_⟩:=(r.up c).pairAt k A;refine P9 ?_;refine eH (α:=de) rfl rfl rfl rfl O7 O7 ?_;refine eG rfl rfl rfl ?_;refine WL.load (α:=Int) (F:=cZ) rfl rfl rfl u rfl ?_;refine dW (F:=cZ) (yv:=ps[k].1) rfl rfl Pg rfl rfl Pg e Pt c.size Pj O9 Pb O7 (fun tv' U p ho4 t z=>?_);refine Qc ?_;refine EX.back (i+1,tv') O6 ⟨a,?_,c.grown t c.size (fun g P=>(e.lt g P).1)⟩ Pa;dsimp only;rw[d];exact ho4
 ·obtain rfl:i=l.length:=by simp at h;omega
  rw[Mk]at e
  refine P_ ?_;exact be rfl rfl ⟨e,c⟩
def bt(m j:Nat):Bool:=Nat.beq (Nat.land (Nat.shiftRight m j) 1) 1
def Gi(m M:Nat):Bool:=Nat.beq (Nat.land m M) m
def alone(i M:Nat):Nat→List Nat→Bool
 |_,[]=>true
 |j,m::r=>match Nat.beq j i with
  |true=>alone i M (j+1) r
  |false=>match bt M j with
   |true=>alone i M (j+1) r
   |false=>match Gi m M with
    |true=>false
    |false=>alone i M (j+1) r
section
variable {L:List Oper}{listed:Array Bool}{M i:Nat}
end
section
variable {P:Program}{Q:Exit→Act→World→Prop}{n:Nat}{σ:Sg}{w:World}{L:List Oper}
end
end Go.Proofs.YtfpjecjadlgdcaaGreatDoor
