import Derived.Test.YtodmkmobdmcfbaaGreatPtJudgeProves10
set_option linter.unusedVariables false
set_option linter.unusedSimpArgs false
set_option linter.defProp false
namespace Go.Proofs.YtodmkmobdmcfbaaGreat
open Go.RowKit
instance uM:IsFd Tryz.prog 136 0 0:=IsFd.of OT
instance uP:IsFd Tryz.prog 136 1 2:=IsFd.of OT
instance uQ:IsFd Tryz.prog 136 2 3:=IsFd.of OT
instance uR:IsFd Tryz.prog 136 3 4:=IsFd.of OT
instance uS:IsFd Tryz.prog 136 4 6:=IsFd.of OT
instance uT:IsFd Tryz.prog 136 5 7:=IsFd.of OT
instance uU:IsFd Tryz.prog 136 6 8:=IsFd.of OT
instance uV:IsZC Tryz.prog 136 [.slice none 0 0,.slice none 0 0,.int .i64 0,.int .i64 0,.slice none 0 0,.slice none 0 0,.map none,.slice none 0 0,.int .i64 0,.int .i64 0]:=IsZC.of (z:=.agg #[.slice none 0 0,.slice none 0 0,.int .i64 0,.int .i64 0,.slice none 0 0,.slice none 0 0,.map none,.slice none 0 0,.int .i64 0,.int .i64 0]) OT rfl
instance uC:IsBd Tryz.prog 136 [(0,2),(2,1),(3,1),(4,2),(6,1),(7,1),(8,2)]:=IsBd.of OT
instance uD:IsC Tryz.prog 234 30 true:=IsC.of OT NJ rfl
abbrev zKey:List Value:=[.int .i8 0,.int .i8 0,.int .i8 0,.int .i8 0,.int .i8 0,.int .i8 0,.int .i8 0,.int .i8 0,.int .i8 0,.int .i8 0,.int .i8 0,.int .i8 0,.int .i8 0,.int .i8 0,.int .i8 0,.int .i8 0,.int .i8 0,.int .i8 0,.int .i8 0,.int .i8 0,.int .i8 0,.int .i8 0,.int .i8 0,.int .i8 0,.int .i8 0,.int .i8 0,.int .i8 0,.int .i8 0,.int .i8 0,.int .i8 0]
instance uE:IsZC Tryz.prog 234 zKey:=IsZC.of (z:=.agg zKey.toArray) OT rfl
instance uF:IsA Tryz.prog 234 30 232:=⟨NJ⟩
instance uG:IsC Tryz.prog 232 1 false:=IsC.of OT NI rfl
instance uH:IsI Tryz.prog 232 .i8:=⟨NI⟩
instance uI:IsM Tryz.prog 131 234 3:=⟨Tryz.underlying131⟩
instance uJ:IsC Tryz.prog 131 1 false:=IsC.of OT Tryz.underlying131 rfl
instance uK:IsZ0 Tryz.prog 3:=⟨by kernel_rfl⟩
theorem FR:laidOutB Tryz.prog=true:=by kernel_rfl
instance uL:IsKy Tryz.prog 234:=IsKy.of (m:=2) FR OU OT OT NJ rfl
abbrev wH(m:List Int):Value:=.agg ((wK m).map fun x=>.int .i8 x).toArray
def Tok(m:List Int):Prop:=∀x∈m,0≤x∧x≤9
theorem Tok.at{m:List Int}(h:Tok m)(j:Nat):0≤m.getD j 0∧m.getD j 0≤9:=by
 rw[KR];cases a:m[j]? with
 |none=>exact⟨J_ _,by decide⟩
 |some x=>exact h x (LW a)
theorem wJ{m:List Int}(b:Tok m):KeyV Tryz.prog 234 (wH m):=
 KeyV.arr (n:=30) NJ NI OT OT OT OT (wM m) (fun x a=>by
  unfold wK at a
  obtain⟨i,_,rfl⟩:=LU.1 a;have:=b.at i;rw[KR]at this
  simp[Lit.wf,IntKind.min,IntKind.max,IntKind.signed,IntKind.bits];omega)
theorem wI{a b:List Int}(d:a.length≤30)(h:a.length=b.length)(c:wH a=wH b):a=b:=by
 refine wL d h ?_;have h1:((wK a).map fun x=>Value.int .i8 x).toArray=((wK b).map fun x=>Value.int .i8 x).toArray:=by injection c
 have h2:(wK a).map (fun x=>Value.int .i8 x)=(wK b).map (fun x=>Value.int .i8 x):=by simpa using h1
 exact List.map_inj_right (fun x y e=>by injection e)|>.1 h2
theorem su{x:Int}(h:0≤x∧x≤9):IntKind.i8.wrap x=x:=by
 simp[IntKind.wrap,IntKind.bits,IntKind.signed];omega
@[irreducible] def wB (m:List Int) (i:Nat):List Value:=(List.range 30).map fun j=>.int .i8 (if j<i then m.getD j 0 else 0)
theorem wD{m:List Int}{i:Nat}:(wB m i).length=30:=by simp[wB]
theorem wG{m:List Int}:wB m 0=zKey:=by
 unfold wB;simp only[MZ,Ot];rfl
theorem wF{m:List Int}{i:Nat}(hi:i<m.length):(wB m i).set i (.int .i8 m[i])=wB m (i+1):=by
 unfold wB;refine KE OW fun j h1 h2=>?_
 rw[Le];simp only[La,Lc];by_cases e:i=j
 ·subst e
  rw[Ov rfl,Ov OS,KR,KX hi];rfl
 ·rw[Ou e]
  by_cases a:j<i
  ·rw[Ov a,Ov OS]
  ·rw[Ou a,Ou OS]
theorem wC{m:List Int}:wB m m.length=(wK m).map fun x=>.int .i8 x:=by
 unfold wB wK;rw[LG];refine LD fun j _=>?_
 show Value.int .i8 _=Value.int .i8 _
 congr 1
 split
 ·rfl
 ·show(0:Int)=m.getD j 0
  rw[KR,KY OS];rfl
theorem wE{m:List Int}{i:Nat}:∀u∈wB m i,u.oneCell'=true:=by
 intro u a
 unfold wB at a
 obtain⟨j,_,rfl⟩:=LU.1 a;rfl
theorem wA(w0:World){mo:Option Addr}{mc:Nat}{m:List Int}(x:Sl w0 (c9 w0) mo mc m)(C:m.length≤30)(u:Tok m):
  Rt Tryz.prog 181 [.slice mo m.length mc].toArray w0 fun v w'=>v=wH m∧Ext w0 w':=by
 refine dG Tryz.func181 Tryz.ntmps181 rfl rfl ?_;refine Pm ?_;refine WL.alloc rfl rfl (fun n a t=>?_);refine PV ?_;refine WL.alloc rfl rfl (fun B b s=>?_);have y:=a.lt;have a:=a.ext s;have j:=t.trans s;have o:=t.size;have p:w0.heap.size≠n.heap.size:=by omega
 rw[←wG (m:=m)]at b
 refine Qp ?_;refine CW.loop (S:=Nat) (fun i=>[(2,.pointer (some ⟨w0.heap.size,0,none⟩)),(3,.pointer (some ⟨n.heap.size,0,none⟩)),(6,.slice mo m.length mc),(7,.int .i64 m.length),(8,.int .i64 i)])
  (fun i w=>i≤m.length∧Ext w0 w∧Blk w w0.heap.size 234 zKey∧Blk w n.heap.size 234 (wB m i)) (fun i=>m.length -i) 0 OR ⟨Nc _,j,a,b⟩ ?_
 clear a b j;rintro i A ⟨hi,j,a,b⟩
 refine Qw ?_;refine CW.cond rfl (fun h=>?_) (fun h=>?_)
 ·have c:i<m.length:=by simp at h;omega
  have r:=u _ (Lb c);refine Qv ?_;refine eD rfl rfl rfl rfl rfl (x.up j) c rfl O3 (fun q=>?_);refine PP ?_;refine eh (k':=.i8) rfl rfl rfl ?_;rw[su r];refine eK rfl rfl rfl rfl OS ?_;refine fA rfl rfl rfl b (by rw[wD];omega) rfl rfl (fun l f d=>?_);rw[Nb,wF c]at f
  have a:=a.kept d (fun e=>p (Nn e));have k:Ext w0 l:=j.grown d j.size (fun g z=>by cases z;exact o);refine PI ?_;exact EX.back (i+1) OR ⟨c,k,a,f⟩ OS
 ·obtain rfl:i=m.length:=by simp at h;omega
  refine P9 ?_;refine eP rfl rfl rfl b wD ?_;refine fB rfl rfl rfl a wD rfl wE (fun l f d=>?_);have k:Ext w0 l:=j.grown d j.size O5;refine Px ?_;exact bj rfl rfl f wD ⟨by rw[wC],k⟩
structure SC where
 sb:Nat
 mb:Nat
 mv:Value
 nv:Value
 ov:Value
 mvs:List Raw
 nvs:List Raw
 p1:Value
 p2:Value
 tok:Int
 st:Int
 N:Nat
 xt:Value
 lo:Nat
def iT(c:SC):Nat→Prop:=fun b=>b=c.sb∨b=c.mb∨c.mv.ownBlock=some b∨c.nv.ownBlock=some b∨c.ov.ownBlock=some b∨c.xt.ownBlock=some b
def Fb(c:SC)(w:World):Nat→Prop:=fun b=>c.lo≤b∧b<w.heap.size∧¬iT c b
structure Inn{α:Type}[Rep α](w:World)(c:SC)(vs:List Raw)(xs:List (List α)):Prop where
 len:vs.length=xs.length
 el:∀i (h:i<vs.length) (h':i<xs.length),∃ao cap,vs[i].v=.slice ao xs[i].length cap∧Sl w (Fb c w) ao cap xs[i]
 ty:∀i (h:i<vs.length),RowT (Fb c w) w (sz α) vs[i].v
theorem Fb.toT{w w':World}{c c':SC}{z:Nat}{v:Value}(h:RowT (Fb c w) w z v)(d:Chg (iT c) w w')(f:∀b,iT c' b→iT c b∨w.heap.size≤b)(e:c'.lo≤c.lo:=by exact MM _):RowT (Fb c' w') w' z v:=
 h.to fun b a _=>⟨⟨MN e a.1,MQ a.2.1 d.size,fun h=>(f b h).elim a.2.2 (fun h=>by have:=a.2.1;omega)⟩,d.block b a.2.1 a.2.2⟩
theorem Fb.to{α:Type}[Rep α]{w w':World}{c c':SC}{ao:Option Addr}{cap:Nat}{xs:List α}(h:Sl w (Fb c w) ao cap xs)(d:Chg (iT c) w w')(f:∀b,iT c' b→iT c b∨w.heap.size≤b)(e:c'.lo≤c.lo:=by exact MM _):Sl w' (Fb c' w') ao cap xs:=
 h.mono (fun b a=>d.block b a.2.1 a.2.2) fun b a=>⟨MN e a.1,MQ a.2.1 d.size,fun h=>(f b h).elim a.2.2 (fun h=>by have:=a.2.1;omega)⟩
theorem Inn.to{α:Type}[Rep α]{w w':World}{c c':SC}{vs:List Raw}{xs:List (List α)}(h:Inn w c vs xs)(d:Chg (iT c) w w')(f:∀b,iT c' b→iT c b∨w.heap.size≤b)(a:c'.lo≤c.lo:=by exact MM _):Inn w' c' vs xs:=
 ⟨h.len,fun i h1 h2=>by
  obtain⟨ao,cap,e,g⟩:=h.el i h1 h2;exact⟨ao,cap,e,Fb.to g d f a⟩,fun i h1=>Fb.toT (h.ty i h1) d f a⟩
theorem Inn.push{α:Type}[Rep α]{w:World}{c:SC}{vs:List Raw}{xs:List (List α)}{ao:Option Addr}{cap:Nat}{m:List α}(h:Inn w c vs xs)(l:Sl w (Fb c w) ao cap m)(f:RowT (Fb c w) w (sz α) (.slice ao m.length cap)):Inn w c (vs++[⟨.slice ao m.length cap⟩]) (xs++[m]):=by
 refine⟨by simp[h.len],fun i h1 h2=>?_,fun i h1=>?_⟩
 case refine_2=>
  by_cases hi:i<vs.length
  ·rw[K6 hi];exact h.ty i hi
  ·have b:i=vs.length:=by simp at h1;omega
   subst b;rw[K7 Pf];simpa using f
 by_cases hi:i<vs.length
 ·have d:i<xs.length:=by rw[←h.len];exact hi
  obtain⟨a,k,e,j⟩:=h.el i hi d;refine⟨a,k,?_,?_⟩
  ·rw[K6 hi,e];simp only[K6 d]
  ·rw[K6 d];exact j
 ·have b:i=vs.length:=by simp at h1;omega
  have g:i=xs.length:=by rw[←h.len];exact b
  refine⟨ao,cap,?_,?_⟩
  ·rw[K7 OS,K7 OS]
   simp[b,h.len]
  ·rw[K7 OS]
   simp only[g,M8,K9];exact l
def ap(a b:Option Nat):Prop:=∀g,a=some g→b=some g→False
theorem ap.new{a c b:Option Nat}{k:Nat}(h:ap a b)(hn:∀g,c=some g→a=some g∨k≤g)(d:∀g,b=some g→g<k):ap c b:=fun g h1 h2=>by
 rcases hn g h1 with h3|h3
 ·exact h g h3 h2
 ·have:=d g h2;omega
theorem ap.sym{a b:Option Nat}(h:ap a b):ap b a:=fun g h1 h2=>h g h2 h1
structure ApartS(c:SC):Prop where
 d01:c.sb≠c.mb
 d02:ap (some c.sb) c.mv.ownBlock
 d03:ap (some c.sb) c.nv.ownBlock
 d04:ap (some c.sb) c.ov.ownBlock
 d12:ap (some c.mb) c.mv.ownBlock
 d13:ap (some c.mb) c.nv.ownBlock
 d14:ap (some c.mb) c.ov.ownBlock
 d23:ap c.mv.ownBlock c.nv.ownBlock
 d24:ap c.mv.ownBlock c.ov.ownBlock
 d34:ap c.nv.ownBlock c.ov.ownBlock
 d05:ap (some c.sb) c.xt.ownBlock
 d15:ap (some c.mb) c.xt.ownBlock
 d25:ap c.mv.ownBlock c.xt.ownBlock
 d35:ap c.nv.ownBlock c.xt.ownBlock
 d45:ap c.ov.ownBlock c.xt.ownBlock
structure Srch(w:World)(B:Nat)(c:SC)(s:Sr)(nx:List (List cH)):Prop where
 blk:Blk w c.sb 136 [c.p1,c.p2,.int .i64 c.tok,.int .i64 c.st,c.mv,c.nv,.map (some c.mb),c.ov,.int .i64 s.2.2.1,.int .i64 s.2.2.2]
 num:NumM Tryz.prog 234 w c.mb (s.1.map wH)
 mo:Own w B 38 c7 c.mv c.mvs
 no:Own w B 55 c7 c.nv c.nvs
 oo:Own w B 134 c7 c.ov s.2.1
 mi:Inn w c c.mvs s.1
 ni:Inn w c c.nvs nx
 ge:B≤c.sb∧B≤c.mb
 lob:c.lo≤B
 xo:∀g,c.xt.ownBlock=some g→B≤g∧g<w.heap.size
 dis:ApartS c
 ok:∀m∈s.1,m.length=c.N∧Tok m
 nd:s.1.Nodup
 lim:(s.1.length:Int)≤c.st∧0<c.st∧c.st≤200∧s.2.1.length=s.1.length∧c.N≤30
theorem iU{w:World}{B:Nat}{c:SC}{s:Sr}{nx:List (List cH)}(h:Srch w B c s nx):∀b,iT c b→B≤b∧b<w.heap.size:=fun b a=>by
 rcases a with rfl|rfl|a|a|a|a
 ·exact⟨h.ge.1,h.blk.lt⟩
 ·exact⟨h.ge.2,h.num.lt⟩
 ·exact⟨(h.mo.lt b a).1,(h.mo.lt b a).2.1⟩
 ·exact⟨(h.no.lt b a).1,(h.no.lt b a).2.1⟩
 ·exact⟨(h.oo.lt b a).1,(h.oo.lt b a).2.1⟩
 ·exact h.xo b a
theorem Chg.ofExt{S:Nat→Prop}{w w':World}(h:Ext w w'):Chg S w w':=⟨h.os,h.tape,h.output,h.size,fun b a _=>h.block b a⟩
theorem Srch.ext{w w':World}{B:Nat}{c:SC}{s:Sr}{nx:List (List cH)}(h:Srch w B c s nx)(a:Ext w w'):Srch w' B c s nx:=
 ⟨h.blk.ext a,h.num.ext a,h.mo.extN a,h.no.extN a,h.oo.extN a,h.mi.to (.ofExt a) (fun _ h=>.inl h),h.ni.to (.ofExt a) (fun _ h=>.inl h),h.ge,h.lob,(fun g b=>⟨(h.xo g b).1,MQ (h.xo g b).2 a.size⟩),h.dis,h.ok,h.nd,h.lim⟩
def busyI(c:SC):Nat→Prop:=fun b=>b=c.sb∨b=c.mb∨c.mv.ownBlock=some b∨c.nv.ownBlock=some b∨c.ov.ownBlock=some b∨False
theorem busyI.to{c:SC}{b:Nat}(h:busyI c b):iT c b:=by
 rcases h with h|h|h|h|h|h
 ·exact .inl h
 ·exact .inr (.inl h)
 ·exact .inr (.inr (.inl h))
 ·exact .inr (.inr (.inr (.inl h)))
 ·exact .inr (.inr (.inr (.inr (.inl h))))
 ·exact h.elim
theorem bI{c:SC}{w w':World}(h:Chg (busyI c) w w'):Chg (iT c) w w':=⟨h.os,h.tape,h.output,h.size,fun b a hn=>h.block b a (fun k=>hn k.to)⟩
theorem Hk(w:World)(a:Nat){c:SC}{u v:Value}{vs:List Value}(x:Int)(h3:Blk w a 128 [Pk c.sb])(b:Blk w c.sb 136 (u::v:: Pj c.tok::vs)):
  Rt Tryz.prog 180 [Pj x,Pk a].toArray w fun v w'=>v=.bool (decide (x>c.tok))∧Ext w w':=by
 refine dH Tryz.func180 Tryz.ntmps180 rfl rfl ?_;refine PU ?_;exact be rfl rfl ⟨rfl,Ext.refl w⟩
def dM(c c':SC):Prop:=c'.sb=c.sb∧c'.p1=c.p1∧c'.p2=c.p2∧c'.tok=c.tok∧c'.st=c.st∧c'.N=c.N∧c'.xt=c.xt∧c'.lo=c.lo
theorem Srch.last{w w':World}{B:Nat}{c:SC}{s:Sr}{nx:List (List cH)}{fr:Int×Int}(h:Srch w B c s nx)(a:w.grownBy w' (some c.sb))(d:Blk w' c.sb 136 [c.p1,c.p2,Pj c.tok,Pj c.st,c.mv,c.nv,.map (some c.mb),c.ov,Pj fr.1,Pj fr.2]):Srch w' B c (s.1,s.2.1,fr) nx:=by
 have b:Chg (iT c) w w':=(Chg.refl _ w).grown a Pb;exact⟨d,h.num.kept a (fun e=>h.dis.d01 (Nn e).symm),h.mo.keptN a (fun g a e=>h.dis.d02 g e.symm a),h.no.keptN a (fun g a e=>h.dis.d03 g e.symm a),h.oo.keptN a (fun g a e=>h.dis.d04 g e.symm a),h.mi.to b (fun _ h=>.inl h),h.ni.to b (fun _ h=>.inl h),h.ge,h.lob,(fun g k=>⟨(h.xo g k).1,MQ (h.xo g k).2 a.size⟩),h.dis,h.ok,h.nd,h.lim⟩
theorem wN{m:List Int}{l:List (List Int)}{N:Nat}(d:N≤30)(b:∀x∈l,x.length=N∧Tok x)(c:m.length=N):wH m∈l.map wH↔m∈l:=by
 constructor
 ·intro h
  obtain⟨x,a,e⟩:=LU.1 h;obtain rfl:=wI (by rw[(b x a).1];exact d) (by rw[(b x a).1,c]) e;exact a
 ·exact fun h=>LU.2 ⟨m,h,rfl⟩
set_option maxHeartbeats 1000000 in
theorem F5{B:Nat}(w0:World){c:SC}{s:Sr}{nx:List (List cH)}(hS:Srch w0 B c s nx)(hBw:B≤w0.heap.size){mo:Option Addr}{mc:Nat}{m:List Int}(hm:Sl w0 (Fb c w0) mo mc m)(hmT:RowT (Fb c w0) w0 1 (.slice mo m.length mc))(hN:m.length=c.N)(hT:Tok m)(fr:Int×Int):
  Rt Tryz.prog 125 [Pk c.sb,.slice mo m.length mc,.agg [Pj fr.1,Pj fr.2].toArray].toArray w0 fun v w'=>∃c',v=.tuple ⟨[Pj (Cy c.tok c.st s m fr).2.1,Pj (Cy c.tok c.st s m fr).2.2]⟩∧
   Srch w' B c' (Cy c.tok c.st s m fr).1 nx∧dM c c'∧Chg (busyI c) w0 w'∧∀b,iT c' b→iT c b∨w0.heap.size≤b:=by
 have same:dM c c:=⟨rfl,rfl,rfl,rfl,rfl,rfl,rfl,rfl⟩;have hbg:=iU hS;refine dI Tryz.func125 Tryz.ntmps125 rfl rfl ?_;refine Pm ?_;refine dZ rfl rfl rfl fun w1 o e1=>?_
 skip;refine dZ rfl rfl rfl fun w2 t e2=>?_
 have hl3:=o.lt;have o:=o.ext e2;have e2:=e1.trans e2;have hS2:=hS.ext e2;have hm2:=Fb.to hm (.ofExt e2) (fun _ h=>.inl h);have f:=hS2.blk;have hz1:=e1.size;have T:∀b,iT c b→b≠w0.heap.size:=fun b p e=>by have:=hbg b p;omega
 have hn5:∀b,iT c b→b≠w1.heap.size:=fun b p e=>by have:=hbg b p;omega
 refine PU ?_;refine WL.st rfl rfl rfl f rfl rfl Pd (fun w3 p hg3=>?_);have o:=o.kept hg3 (fun e=>T c.sb (.inl rfl) (Nn e).symm);have t:=t.kept hg3 (fun e=>hn5 c.sb (.inl rfl) (Nn e).symm);have hS3:=hS2.last hg3 p;have hC3:Chg (busyI c) w0 w3:=(Chg.ofExt e2).grown hg3 Pb;have hm3:=Fb.to hm (bI hC3) (fun _ h=>.inl h);clear f hg3 hm2 hS2;refine PK ?_;refine WL.call rfl rfl rfl (k7 w3 (fun x=>decide (x>c.tok)) (hm3.mono Pc (fun b p=>p.2.1)) (fun w hE i hi=>FnV.mk (cs:=[_]) (Hk w _ _ (o.ext hE) (p.ext hE)))) ?_;rintro _ w4 ⟨rfl,e4⟩
 have o:=o.ext e4;have t:=t.ext e4;have O:=hS3.ext e4;have A:Chg (busyI c) w0 w4:=⟨e4.os.trans hC3.os,e4.tape.trans hC3.tape,e4.output.trans hC3.output,MN hC3.size e4.size,fun b p hn=>(e4.block b (MQ p hC3.size)).trans (hC3.block b p hn)⟩;have hm4:=Fb.to hm (bI A) (fun _ h=>.inl h);clear p hS3 hm3 e4;unfold Cy;refine QB ?_;apply CW.cond rfl<;>intro h
 ·rw[Ov (show Hl c.tok m=true from h)]
  refine P7 ?_;exact bf rfl rfl rfl ⟨c,rfl,O,same,A,fun _ h=>.inl h⟩
 rw[Ou (show¬Hl c.tok m=true by rw[show Hl c.tok m=false from h];decide)];have hkey:=wJ hT;have hmem:=wN O.lim.2.2.2.2 O.ok hN;have hmold:Sl w4 (c9 w4) mo mc m:=hm4.mono Pc (fun b p=>p.2.1);have h30:m.length≤30:=by rw[hN];exact O.lim.2.2.2.2
 have f:=O.blk;dsimp only at f hmem
 refine QK ?_;refine QL.call rfl rfl rfl (fun w hE=>wA w (hmold.up hE) h30 hT) ?_;by_cases hin:m∈s.1
 ·rw[Ov hin]
  obtain⟨j,hj,hjm⟩:=LT.1 hin;rw[B9 hj hS.nd hjm];refine dz (j:=j) (by simpa using hj) (by rw[La,hjm]) rfl rfl rfl rfl O.num hkey ?_;refine QP ?_;refine QL.nil (fun W Z=>?_);have J:Chg (busyI c) w0 W:=⟨Z.os.trans A.os,Z.tape.trans A.tape,Z.output.trans A.output,MN A.size Z.size,fun b p hn=>(Z.block b (MQ p A.size)).trans (A.block b p hn)⟩;refine Qr ?_;exact bf rfl rfl rfl ⟨c,rfl,O.ext Z,same,J,fun _ h=>.inl h⟩
 rw[Ou hin];refine dy rfl rfl rfl rfl O.num hkey (fun h=>hin (hmem.1 h)) ?_;refine QP ?_;refine QL.nil (fun W Z=>?_);have o:=o.ext Z;have t:=t.ext Z;have J:Chg (busyI c) w0 W:=⟨Z.os.trans A.os,Z.tape.trans A.tape,Z.output.trans A.output,MN A.size Z.size,fun b p hn=>(Z.block b (MQ p A.size)).trans (A.block b p hn)⟩;have V:=O.ext Z;clear f hm4 hmold O Z;obtain⟨sb,mb,mv,nv,ov,mvs,nvs,p1,p2,tok,st,N,xt,lo⟩:=c;dsimp only at*
 have hmoA:=V.mo;have hooA:=V.oo;dsimp only at hmoA hooA
 obtain⟨ao,ac,rfl⟩:=hmoA.val;obtain⟨oo,oc,rfl⟩:=hooA.val;have U:=V.mi.len;dsimp only at U
 have f:=V.blk;have hlim:=V.lim;dsimp only at hlim f
 rw[U]at f
 refine P2 ?_;apply CW.cond rfl<;>intro h
 ·have h:(s.1.length:Int)=st:=by simpa using h
  rw[Ov h];refine P7 ?_;exact bf rfl rfl rfl ⟨_,rfl,V,same,J,fun _ h=>.inl h⟩
 have h:¬(s.1.length:Int)=st:=by simpa using h
 rw[Ou h];have hm5:=Fb.to hm (bI J) (fun _ h=>.inl h);have hmo5:Sl W (c9 W) mo mc m:=hm5.mono Pc (fun b p=>p.2.1);have d:=V.dis;have n:Ext W (drew W):=Ext.drew W;have q:=f.lt;have hlmb:=V.num.lt;have hl35:=o.lt;have hz5:=J.size;have R:=o.ext n;have r:=f.ext n;have hK3:∀u,(fun x:World=>x.heap[w0.heap.size]?=(drew W).heap[w0.heap.size]?∧x.heap[sb]?=(drew W).heap[sb]?) u→u.heap[w0.heap.size]?=(drew W).heap[w0.heap.size]?:=fun _ h=>h.1
 have hKs:∀u,(fun x:World=>x.heap[w0.heap.size]?=(drew W).heap[w0.heap.size]?∧x.heap[sb]?=(drew W).heap[sb]?) u→u.heap[sb]?=(drew W).heap[sb]?:=fun _ h=>h.2
 refine P8 ?_;refine aF (fun x:World=>x.heap[w0.heap.size]?=(drew W).heap[w0.heap.size]?∧x.heap[sb]?=(drew W).heap[sb]?) [(0,true),(1,true),(2,true),(3,true),(4,true),(6,true),(5,false),(7,false)] mixed OT ⟨rfl,rfl⟩ ?_;refine Q7 ?_;refine cu rfl (WL.call rfl rfl rfl (wA (drew W) (hmo5.up n) h30 hT) ?_);rintro _ w6 ⟨rfl,e6⟩
 have P:=n.trans e6;refine WL.nil (a_ ⟨e6.block _ (MQ hl35 n.size),e6.block _ (MQ q n.size)⟩ ?_);have hS6:=V.ext P;have hnum6:=hS6.num;dsimp only at hnum6
 skip;refine cu rfl (fm (ks:=s.1.map wH) rfl rfl rfl (by simp[ev,fnd,Lq]) hnum6 hkey (fun h=>hin (hmem.1 h)) (fun K hnum7 M=>?_));have hl31:w0.heap.size≠mb:=fun e=>T mb (.inr (.inl rfl)) e.symm
 refine WL.nil (a_ ⟨?_,?_⟩ (HL.nil ?_))
 ·exact(M.block _ (MQ hl35 P.size) (fun e=>hl31 (Nn e))).trans (e6.block _ (MQ hl35 n.size))
 ·exact(M.block _ (MQ q P.size) (fun e=>d.d01 (Nn e))).trans (e6.block _ (MQ q n.size))
 have o:Blk K w0.heap.size 128 [Pk sb]:=(R.ext e6).kept M (fun e=>hl31 (Nn e));have t:Blk K w1.heap.size 134 [Pj fr.1,Pj fr.2]:=(t.ext P).kept M (fun e=>hn5 mb (.inr (.inl rfl)) (Nn e).symm);have f:Blk K sb 136 _:=(r.ext e6).kept M (fun e=>d.d01 (Nn e));have hmo:=hS6.mo.keptN M (fun g k e=>d.d12 g e.symm k);have L:=hS6.no.keptN M (fun g k e=>d.d13 g e.symm k);have hoo:=hS6.oo.keptN M (fun g k e=>d.d14 g e.symm k);dsimp only at hmo L hoo
 rw[U]at hmo
 have hC7:Chg (busyI ⟨sb,mb,.slice ao mvs.length ac,nv,.slice oo s.2.1.length oc,mvs,nvs,p1,p2,tok,st,N,xt,lo⟩) w0 K:=
  (⟨P.os.trans J.os,P.tape.trans J.tape,P.output.trans J.output,MN J.size P.size,fun b p hn=>(P.block b (MQ p J.size)).trans (J.block b p hn)⟩:Chg _ w0 w6).grown M (fun g k=>by cases k;exact .inr (.inl rfl))
 rw[U]at hC7 T hn5 hbg d
 have hz7:=hC7.size;clear hnum6 hS6 hK3 hKs R r M e6 P n;have n:Ext K (drew K):=Ext.drew K;have q:=f.lt;have X:=o.lt;have hl57:=t.lt;have R:=o.ext n;have hb5d:=t.ext n;have r:=f.ext n;have hK3:∀u,(fun x:World=>x.heap[w0.heap.size]?=(drew K).heap[w0.heap.size]?∧x.heap[sb]?=(drew K).heap[sb]?) u→u.heap[w0.heap.size]?=(drew K).heap[w0.heap.size]?:=fun _ h=>h.1
 have hKs:∀u,(fun x:World=>x.heap[w0.heap.size]?=(drew K).heap[w0.heap.size]?∧x.heap[sb]?=(drew K).heap[sb]?) u→u.heap[sb]?=(drew K).heap[sb]?:=fun _ h=>h.2
 have hlen200:s.1.length≤200:=by omega
 refine P8 ?_;refine aE (fun x:World=>x.heap[w0.heap.size]?=(drew K).heap[w0.heap.size]?∧x.heap[sb]?=(drew K).heap[sb]?) [(0,true),(1,true),(2,true),(3,true),(4,true),(5,true),(6,true),(7,false),(8,false),(9,false),(10,false),(11,false)] 12 mixed OT ⟨rfl,rfl⟩ ?_;refine Q7 ?_;refine bV (α:=Raw) (F:=c7) (bytes:=24) (yv:=(⟨.slice mo m.length mc⟩:Raw)) rfl rfl rfl rfl O3 rfl rfl O3 (hmo.extN n) (Rd.mkRaw _ _ _ rfl) (MN hBw (MN hz7 n.size)) O6 OU (by rw[U];unfold maxLen;omega) (by rw[U];omega)
  (fun z hz=>⟨hz.block _ (MQ X n.size) (fun e=>T _ (.inr (.inr (.inl e.symm))) rfl),hz.block _ (MQ q n.size) (fun e=>d.d02 _ rfl e.symm)⟩) (fun mv' w9 p9 ho9 H hnb9=>?_)
 obtain⟨ao',ac',rfl⟩:=ho9.val;have o:=R.kept H (fun e=>T _ (.inr (.inr (.inl e.symm))) rfl);have t:=hb5d.kept H (fun e=>hn5 _ (.inr (.inr (.inl e.symm))) rfl);have f:=r.kept H (fun e=>d.d02 _ rfl e.symm);have G:=(hnum7.ext n).kept H (fun e=>d.d12 _ rfl e.symm);have L:=(L.extN n).keptN H (fun g k e=>d.d23 g e.symm k);have hoo:=(hoo.extN n).keptN H (fun g k e=>d.d24 g e.symm k);have hS9:w9.heap[w0.heap.size]?=(drew K).heap[w0.heap.size]?∧w9.heap[sb]?=(drew K).heap[sb]?:=⟨H.block _ (MQ X n.size) (fun e=>T _ (.inr (.inr (.inl e.symm))) rfl),H.block _ (MQ q n.size) (fun e=>d.d02 _ rfl e.symm)⟩;refine cu rfl (fi rfl rfl rfl (WL.nil (a_ hS9 ?_)));refine cu rfl (eI rfl rfl rfl (WL.nil (a_ hS9 ?_)));refine cu rfl (eI rfl rfl rfl (WL.nil (a_ hS9 (HL.nil ?_))));refine bm rfl (WL.st rfl rfl rfl f rfl rfl Pd (fun l f y=>WL.nil (bp ?_)));have hz9:=H.size;have hzd:=n.size;have Q:∀g,Value.ownBlock (.slice ao' (mvs++[(⟨.slice mo m.length mc⟩:Raw)]).length ac')=some g→Value.ownBlock (.slice ao s.1.length ac)=some g∨K.heap.size≤g:=fun g k=>(hnb9 g k).imp id (fun h=>MN hzd h)
 have D:∀b,iT ⟨sb,mb,.slice ao s.1.length ac,nv,.slice oo s.2.1.length oc,mvs,nvs,p1,p2,tok,st,N,xt,lo⟩ b→b<K.heap.size:=fun b p=>MQ (hbg b p).2 hz7
 have n2:ap (Value.ownBlock (.slice ao' (mvs++[(⟨.slice mo m.length mc⟩:Raw)]).length ac')) (some sb):=d.d02.sym.new Q (fun g k=>by cases k;exact D _ (.inl rfl));have n12:ap (Value.ownBlock (.slice ao' (mvs++[(⟨.slice mo m.length mc⟩:Raw)]).length ac')) (some mb):=d.d12.sym.new Q (fun g k=>by cases k;exact D _ (.inr (.inl rfl)));have n23:ap (Value.ownBlock (.slice ao' (mvs++[(⟨.slice mo m.length mc⟩:Raw)]).length ac')) nv.ownBlock:=d.d23.new Q (fun g k=>D _ (.inr (.inr (.inr (.inl k)))));have n24:ap (Value.ownBlock (.slice ao' (mvs++[(⟨.slice mo m.length mc⟩:Raw)]).length ac')) (Value.ownBlock (.slice oo s.2.1.length oc)):=d.d24.new Q (fun g k=>D _ (.inr (.inr (.inr (.inr (.inl k))))));have n25:ap (Value.ownBlock (.slice ao' (mvs++[(⟨.slice mo m.length mc⟩:Raw)]).length ac')) xt.ownBlock:=d.d25.new Q (fun g k=>D _ (.inr (.inr (.inr (.inr (.inr k))))));have o:=o.kept y (fun e=>T sb (.inl rfl) (Nn e).symm);have t:=t.kept y (fun e=>hn5 sb (.inl rfl) (Nn e).symm);have G:=G.kept y (fun e=>d.d01 (Nn e).symm);have ho10:=ho9.keptN y (fun g k e=>n2 g k e.symm);have L:=L.keptN y (fun g k e=>d.d03 g e.symm k);have hoo:=hoo.keptN y (fun g k e=>d.d04 g e.symm k);have hC10:=((hC7.grown (⟨n.os,n.tape,n.output,n.size,fun b p _=>n.block b p⟩:K.grownBy (drew K) none) (fun g k=>by cases k)).grown H (fun g k=>.inr (.inr (.inl k)))).grown y Pb;have hz10:=hC10.size;have hz710:K.heap.size≤l.heap.size:=MN hzd (MN hz9 y.size);have hlt10:∀g,Value.ownBlock (.slice ao' (mvs++[(⟨.slice mo m.length mc⟩:Raw)]).length ac')=some g→g<l.heap.size:=fun g k=>(ho10.lt g k).2.1
 clear hmo hnum7 r R hb5d hK3 hKs n H y ho9 hS9;have n:Ext l (drew l):=Ext.drew l;have q:=f.lt;have X:=o.lt;have hl57:=t.lt;have R:=o.ext n;have hb5d:=t.ext n;have r:=f.ext n;have hK3:∀u,(fun x:World=>x.heap[w0.heap.size]?=(drew l).heap[w0.heap.size]?∧x.heap[sb]?=(drew l).heap[sb]?∧x.heap[w1.heap.size]?=(drew l).heap[w1.heap.size]?) u→u.heap[w0.heap.size]?=(drew l).heap[w0.heap.size]?:=fun _ h=>h.1
 have hKs:∀u,(fun x:World=>x.heap[w0.heap.size]?=(drew l).heap[w0.heap.size]?∧x.heap[sb]?=(drew l).heap[sb]?∧x.heap[w1.heap.size]?=(drew l).heap[w1.heap.size]?) u→u.heap[sb]?=(drew l).heap[sb]?:=fun _ h=>h.2.1
 have hK5:∀u,(fun x:World=>x.heap[w0.heap.size]?=(drew l).heap[w0.heap.size]?∧x.heap[sb]?=(drew l).heap[sb]?∧x.heap[w1.heap.size]?=(drew l).heap[w1.heap.size]?) u→u.heap[w1.heap.size]?=(drew l).heap[w1.heap.size]?:=fun _ h=>h.2.2
 refine P8 ?_;refine aE (fun x:World=>x.heap[w0.heap.size]?=(drew l).heap[w0.heap.size]?∧x.heap[sb]?=(drew l).heap[sb]?∧x.heap[w1.heap.size]?=(drew l).heap[w1.heap.size]?) [(0,true),(1,true),(2,true),(3,true),(4,true),(5,true),(6,false),(7,false),(8,false),(9,false)] 10 mixed OT ⟨rfl,rfl,rfl⟩ ?_;refine Q7 ?_;refine cg hK5 rfl rfl rfl rfl hb5d rfl ?_;refine bV (α:=Int×Int) (F:=c7) (bytes:=16) (yv:=fr) rfl rfl rfl rfl O3 rfl rfl O3 (hoo.extN n) (Rd.mkPr (c1:=[Pj fr.1]) (c2:=[Pj fr.2]) (C2 _ _ _) (C2 _ _ _)) (MN hBw (MN hz10 n.size)) O6 OU (by rw[hlim.2.2.2.1];unfold maxLen;omega) (by rw[hlim.2.2.2.1];omega)
  (fun z hz=>⟨hz.block _ (MQ X n.size) (fun e=>T _ (.inr (.inr (.inr (.inr (.inl e.symm))))) rfl),hz.block _ (MQ q n.size) (fun e=>d.d04 _ rfl e.symm),hz.block _ (MQ hl57 n.size) (fun e=>hn5 _ (.inr (.inr (.inr (.inr (.inl e.symm))))) rfl)⟩) (fun ov' w12 p12 ho12 E hnb12=>?_)
 obtain⟨oo',oc',rfl⟩:=ho12.val;have f:=r.kept E (fun e=>d.d04 _ rfl e.symm);have G:=(G.ext n).kept E (fun e=>d.d14 _ rfl e.symm);have L:=(L.extN n).keptN E (fun g k e=>d.d34 g k e.symm);have ho10:=(ho10.extN n).keptN E (fun g k e=>n24 g k e.symm);have hS12:w12.heap[w0.heap.size]?=(drew l).heap[w0.heap.size]?∧w12.heap[sb]?=(drew l).heap[sb]?∧w12.heap[w1.heap.size]?=(drew l).heap[w1.heap.size]?:=⟨E.block _ (MQ X n.size) (fun e=>T _ (.inr (.inr (.inr (.inr (.inl e.symm))))) rfl),E.block _ (MQ q n.size) (fun e=>d.d04 _ rfl e.symm),E.block _ (MQ hl57 n.size) (fun e=>hn5 _ (.inr (.inr (.inr (.inr (.inl e.symm))))) rfl)⟩;refine cu rfl (fi rfl rfl rfl (WL.nil (a_ hS12 ?_)));refine cu rfl (eI rfl rfl rfl (WL.nil (a_ hS12 (HL.nil ?_))));refine bm rfl (WL.st rfl rfl rfl f rfl rfl Pd (fun w13 f Y=>WL.nil (bp ?_)));have hzd:=n.size;have C:∀g,Value.ownBlock (.slice oo' (s.2.1++[fr]).length oc')=some g→Value.ownBlock (.slice oo s.2.1.length oc)=some g∨l.heap.size≤g:=fun g k=>(hnb12 g k).imp id (fun h=>MN hzd h)
 have m4:ap (Value.ownBlock (.slice oo' (s.2.1++[fr]).length oc')) (some sb):=d.d04.sym.new C (fun g k=>by cases k;exact q);have m14:ap (Value.ownBlock (.slice oo' (s.2.1++[fr]).length oc')) (some mb):=d.d14.sym.new C (fun g k=>by cases k;exact MQ (D _ (.inr (.inl rfl))) hz710);have m34:ap (Value.ownBlock (.slice oo' (s.2.1++[fr]).length oc')) nv.ownBlock:=d.d34.sym.new C (fun g k=>MQ (D _ (.inr (.inr (.inr (.inl k))))) hz710);have m24:ap (Value.ownBlock (.slice oo' (s.2.1++[fr]).length oc')) (Value.ownBlock (.slice ao' (mvs++[(⟨.slice mo m.length mc⟩:Raw)]).length ac')):=n24.sym.new C hlt10;have m45:ap (Value.ownBlock (.slice oo' (s.2.1++[fr]).length oc')) xt.ownBlock:=d.d45.new C (fun g k=>MQ (D _ (.inr (.inr (.inr (.inr (.inr k)))))) hz710);have L:=L.keptN Y (fun g k e=>d.d03 g e.symm k);have G:=G.kept Y (fun e=>d.d01 (Nn e).symm);have hmoF:=ho10.keptN Y (fun g k e=>n2 g k e.symm);have hooF:=ho12.keptN Y (fun g k e=>m4 g k e.symm);have S:=((hC10.grown (⟨n.os,n.tape,n.output,n.size,fun b p _=>n.block b p⟩:l.grownBy (drew l) none) (fun g k=>by cases k)).grown E (fun g k=>.inr (.inr (.inr (.inr (.inl k)))))).grown Y Pb;have I:∀b,iT ⟨sb,mb,.slice ao' (mvs++[(⟨.slice mo m.length mc⟩:Raw)]).length ac',nv,.slice oo' (s.2.1++[fr]).length oc',mvs++[(⟨.slice mo m.length mc⟩:Raw)],nvs,p1,p2,tok,st,N,xt,lo⟩ b→
   iT ⟨sb,mb,.slice ao s.1.length ac,nv,.slice oo s.2.1.length oc,mvs,nvs,p1,p2,tok,st,N,xt,lo⟩ b∨w0.heap.size≤b:=by
  intro b p
  rcases p with h|h|h|h|h|h
  ·exact .inl (.inl h)
  ·exact .inl (.inr (.inl h))
  ·exact(Q b h).imp (fun h=>.inr (.inr (.inl h))) (fun h=>by omega)
  ·exact .inl (.inr (.inr (.inr (.inl h))))
  ·exact(C b h).imp (fun h=>.inr (.inr (.inr (.inr (.inl h))))) (fun h=>by omega)
  ·exact .inl (.inr (.inr (.inr (.inr (.inr h)))))
 rw[U]at hS hm hmT same
 have hmi:=(hS.mi.to (bI S) I).push (Fb.to hm (bI S) I) (Fb.toT hmT (bI S) I);have hni:=hS.ni.to (bI S) I;dsimp only at hmi hni
 have hml2:(mvs++[(⟨.slice mo m.length mc⟩:Raw)]).length=s.1.length+1:=by rw[Lk,U];rfl
 refine P7 ?_;rw[U];refine bf rfl rfl rfl ⟨⟨sb,mb,.slice ao' (mvs++[(⟨.slice mo m.length mc⟩:Raw)]).length ac',nv,.slice oo' (s.2.1++[fr]).length oc',mvs++[(⟨.slice mo m.length mc⟩:Raw)],nvs,p1,p2,tok,st,N,xt,lo⟩,rfl,?_,same,S,I⟩;refine⟨f,?_,hmoF,L,hooF,hmi,hni,hS.ge,hS.lob,(fun g k=>⟨(hS.xo g k).1,MQ (hS.xo g k).2 S.size⟩),⟨d.d01,n2.sym,d.d03,m4.sym,n12.sym,d.d13,m14.sym,n23,m24.sym,m34.sym,d.d05,d.d15,n25,d.d35,m45⟩,?_,?_,?_⟩
 ·dsimp only
  rw[LC];exact G
 ·intro x hx
  rcases LK.1 hx with hx|hx
  ·exact hS.ok x hx
  ·rw[L0]at hx;subst hx;exact⟨hN,hT⟩
 ·rw[L3]
  refine⟨hS.nd,by simp,fun a ha b p e=>?_⟩;rw[L0]at p
  subst p;subst e;exact hin ha
 ·have:=hlim
  dsimp only;simp only[Lk,Ll,Lr];omega
theorem Chg.step{S S':Nat→Prop}{w0 w w':World}(h:Chg S w0 w)(k:Chg S' w w')(hS:∀b,S' b→S b∨w0.heap.size≤b):Chg S w0 w':=
 ⟨k.os.trans h.os,k.tape.trans h.tape,k.output.trans h.output,MN h.size k.size,fun b a hn=>(k.block b (MQ a h.size) (fun c=>(hS b c).elim hn (fun h=>by omega))).trans (h.block b a hn)⟩
theorem Chg.stepE{S:Nat→Prop}{w0 w w':World}(h:Chg S w0 w)(k:Ext w w'):Chg S w0 w':=h.step (S':=fun _=>False) (.ofExt k) O6
theorem Chg.stepG{S:Nat→Prop}{w0 w w':World}{row:Option Nat}(h:Chg S w0 w)(k:w.grownBy w' row)(hS:∀b,row=some b→S b∨w0.heap.size≤b):Chg S w0 w':=
 h.step (S':=fun b=>row=some b) ⟨k.os,k.tape,k.output,k.size,fun b a hn=>k.block b a (fun e=>hn e.symm)⟩ hS
def Lw(B:Nat):Nat→Prop:=fun b=>b<B
theorem Lw.at{α:Type}[Rep α]{w w':World}{B:Nat}{S:Nat→Prop}{ao:Option Addr}{cap:Nat}{xs:List α}(h:Sl w (Lw B) ao cap xs)(d:Chg S w w')(e:B≤w.heap.size)(hS:∀b,S b→B≤b):Sl w' (Lw B) ao cap xs:=
 h.mono (fun b a=>d.block b (MQ a e) (fun c=>by have:=hS b c;have:b<B:=a;omega)) fun _ h=>h
theorem Lw.old{α:Type}[Rep α]{w:World}{B:Nat}{ao:Option Addr}{cap:Nat}{xs:List α}(h:Sl w (Lw B) ao cap xs)(c:B≤w.heap.size):Sl w (c9 w) ao cap xs:=h.mono Pc fun b a=>MQ a c
theorem Cz{tok st:Int}{s:Sr}{m:List Int}{fr:Int×Int}:(Cy tok st s m fr).1.1=s.1∨(Cy tok st s m fr).1.1=s.1++[m]:=by
 unfold Cy;split
 ·exact .inl rfl
 split
 ·exact .inl rfl
 split
 ·exact .inl rfl
 ·exact .inr rfl
theorem r5{l a:List (List Int)}{m c:List Int}{n:Nat}(h:a=l∨a=l++[c])(hn:n<l.length)(b:l.getD n []=m):n<a.length∧a.getD n []=m:=by
 rcases h with rfl|rfl
 ·exact⟨hn,b⟩
 ·refine⟨by simp;omega,?_⟩
  rw[KR,KT hn,←KR];exact b
theorem Hg{p:cL}{m:List Int}(a:m.length=p.2.length)(b:Tok m):cX p m:=⟨a,fun j=>b.at j⟩
theorem yN{p:cL}{m:List Int}(h:cX p m):Tok m:=fun x a=>by
 obtain⟨j,b,rfl⟩:=LT.1 a;have:=h.2 j;rwa[rn b]at this
theorem pF{p:cL}{m:List Int}{k:Int}(b:cX p m)(h:(pB p m k).2=0):cX p (pB p m k).1:=by
 obtain⟨_,a⟩:=pD h;exact pG b a.2.2.1 a.2.2.2
def dN(c c':SC):Prop:=c'.sb=c.sb∧c'.p1=c.p1∧c'.p2=c.p2∧c'.tok=c.tok∧c'.st=c.st∧c'.N=c.N∧c'.lo=c.lo
theorem Srch.grow{w w':World}{B:Nat}{c:SC}{s:Sr}{nx:List (List cH)}{x':Value}(h:Srch w B c s nx)(d:w.grownBy w' c.xt.ownBlock)(hnb:∀g,x'.ownBlock=some g→c.xt.ownBlock=some g∨w.heap.size≤g)(j:∀g,x'.ownBlock=some g→B≤g∧g<w'.heap.size):
  Srch w' B ⟨c.sb,c.mb,c.mv,c.nv,c.ov,c.mvs,c.nvs,c.p1,c.p2,c.tok,c.st,c.N,x',c.lo⟩ s nx∧(∀b,iT ⟨c.sb,c.mb,c.mv,c.nv,c.ov,c.mvs,c.nvs,c.p1,c.p2,c.tok,c.st,c.N,x',c.lo⟩ b→iT c b∨w.heap.size≤b):=by
 have hd:=h.dis;have l:Chg (iT c) w w':=(Chg.refl _ w).grown d (fun g d=>.inr (.inr (.inr (.inr (.inr d)))));have i:∀b,iT ⟨c.sb,c.mb,c.mv,c.nv,c.ov,c.mvs,c.nvs,c.p1,c.p2,c.tok,c.st,c.N,x',c.lo⟩ b→iT c b∨w.heap.size≤b:=by
  intro b i
  rcases i with h|h|h|h|h|h
  ·exact .inl (.inl h)
  ·exact .inl (.inr (.inl h))
  ·exact .inl (.inr (.inr (.inl h)))
  ·exact .inl (.inr (.inr (.inr (.inl h))))
  ·exact .inl (.inr (.inr (.inr (.inr (.inl h)))))
  ·exact(hnb b h).imp (fun h=>.inr (.inr (.inr (.inr (.inr h))))) id
 have f:=iU h;have na:∀{a:Option Nat},ap a c.xt.ownBlock→(∀g,a=some g→g<w.heap.size)→ap a x'.ownBlock:=fun k kl=>(k.sym.new hnb kl).sym
 refine⟨⟨h.blk.kept d (fun e=>hd.d05 _ rfl e.symm),h.num.kept d (fun e=>hd.d15 _ rfl e.symm),h.mo.keptN d (fun g k e=>hd.d25 g k e.symm),h.no.keptN d (fun g k e=>hd.d35 g k e.symm),h.oo.keptN d (fun g k e=>hd.d45 g k e.symm),h.mi.to l i,h.ni.to l i,h.ge,h.lob,j,
  ⟨hd.d01,hd.d02,hd.d03,hd.d04,hd.d12,hd.d13,hd.d14,hd.d23,hd.d24,hd.d34,na hd.d05 (fun g e=>by cases e;exact(f _ (.inl rfl)).2),na hd.d15 (fun g e=>by cases e;exact(f _ (.inr (.inl rfl))).2),na hd.d25 (fun g e=>(f _ (.inr (.inr (.inl e)))).2),na hd.d35 (fun g e=>(f _ (.inr (.inr (.inr (.inl e))))).2),na hd.d45 (fun g e=>(f _ (.inr (.inr (.inr (.inr (.inl e)))))).2)⟩,h.ok,h.nd,h.lim⟩,i⟩
set_option maxHeartbeats 2000000 in
theorem m_{B:Nat}(w0:World){c:SC}{s:Sr}{nx:List (List cH)}{so fo:Option Addr}{sc fc:Nat}{ns:List cJ}{fl:List cI}(hS:Srch w0 B c s nx)(y:B≤w0.heap.size)(hs:Sl w0 (Lw B) so sc ns)(hf:Sl w0 (Lw B) fo fc fl)
  (I:c.p1=.slice so ns.length sc) (H:c.p2=.slice fo fl.length fc) (J:c.N=fl.length) (hz:(F_ (ns,fl)).2=0) (hxt:c.xt=.slice none 0 0) {n:Nat} (hn:n<s.1.length):
  Rt Tryz.prog 126 [Pk c.sb,Pj (n:Int)].toArray w0 fun v w'=>∃c' x,v=.tuple ⟨[x,Pj (mY (ns,fl) c.tok c.st n s).2.2]⟩∧Srch w' B c' (mY (ns,fl) c.tok c.st n s).1 nx∧dN c c'∧
   Chg (iT c) w0 w'∧(∀b,iT c' b→iT c b∨w0.heap.size≤b)∧Own w' w0.heap.size 109 c7 x (mY (ns,fl) c.tok c.st n s).2.1∧∀g,x.ownBlock=some g→c'.xt.ownBlock=some g:=by
 have hbg:=iU hS;have hBb:∀b,iT c b→B≤b:=fun b h=>(hbg b h).1
 have hlo:=hS.lob;have hmok:∀m∈s.1,cX (ns,fl) m:=fun m hm=>Hg (by rw[(hS.ok m hm).1];exact J) (hS.ok m hm).2
 obtain⟨m,hmd⟩:∃m,m=s.1.getD n []:=⟨_,rfl⟩;have hmn:s.1[n]=m:=by rw[hmd,KR,KX hn];rfl
 have hmk:cX (ns,fl) m:=hmok m (hmn▸Lb hn);have hcm:=yL hz hmk;unfold mY;rw[←hmd];refine dH Tryz.func126 Tryz.ntmps126 rfl rfl ?_;have O:∀{w:World} {d:SC} {r:Sr},Srch w B d r nx→n<r.1.length∧r.1.getD n []=m→∃ao ac,d.mv=.slice ao d.mvs.length ac∧∃hv:n<d.mvs.length,Sl w (c9 w) ao ac d.mvs∧∃mo mc,d.mvs[n].v=.slice mo m.length mc∧Sl w (c9 w) mo mc m:=by
  intro w d r hR hr
  obtain⟨ao,ac,hv,D⟩:=hR.mo.oldN.sl;have hlen:=hR.mi.len;have hn1:n<d.mvs.length:=by rw[hlen];exact hr.1
  obtain⟨mo,mc,he,hms⟩:=hR.mi.el n hn1 hr.1;obtain⟨hr1,hr2⟩:=hr;have e1:r.1[n]=m:=by
   rw[KR,KX hr1]at hr2
   exact hr2
  rw[e1]at he hms
  exact⟨ao,ac,hv,hn1,D,mo,mc,he,hms.mono Pc (fun b f=>f.2.1)⟩
 have A:Ext w0 (drew w0):=Ext.drew w0;obtain⟨ao,ac,Q,Y,D,mo,mc,l,Z⟩:=O hS ⟨hn,hmd.symm⟩;have o:=hS.blk;rw[Q,I,H]at o
 refine Qw ?_;have hSE:∀w1,(fun x=>Ext w0 x) w1→Ext w0 w1:=fun _ h=>h
 refine aF (fun x=>Ext w0 x) [(0,true),(1,true),(2,true),(3,true),(4,true),(5,true),(6,true),(7,true),(8,true),(9,true),(10,true),(11,true),(12,false),(13,true),(14,true),(15,true),(16,true),(17,true)] mixed OT A ?_;refine Q9 ?_;refine bY (w:=w0) (F:=c9 w0) (fun z hz b f=>hz.block b f) rfl rfl rfl rfl rfl rfl rfl D Y O3 (fun u q hu=>?_);obtain⟨rfl,_⟩:=hu.raw;rw[l];refine cu rfl (WL.call rfl rfl rfl (bB (drew w0) ((hs.mono Pc fun _ h=>h:Sl (drew w0) (Lw B) so sc ns)|>fun h=>Lw.old h (MN y A.size)) ((hf.mono Pc fun _ h=>h:Sl (drew w0) (Lw B) fo fc fl)|>fun h=>Lw.old h (MN y A.size)) (Z.up A)) ?_);rintro _ w1 ⟨x,rfl,P,e1⟩
 have hE1:=A.trans e1;refine WL.nil (a_ hE1 ?_);rw[Ov hcm]at P
 rw[hcm];obtain⟨xo,xc,rfl,G⟩:=P.slF (F':=fun b=>w0.heap.size≤b∧b<w1.heap.size) O6 (fun g a=>⟨MN A.size (P.lt g a).1,(P.lt g a).2.1⟩);have hcan:i6 (ns,fl) m=jc (ns,fl) m:=by unfold i6;rw[Ov hcm]
 have hcl:=i7 (p:=(ns,fl)) (m:=m);rw[hcan]at hcl⊢
 generalize jc (ns,fl) m=can at*
 refine Rf ?_;refine Qp ?_;refine CW.loop (S:=Nat×SC×Sr×List cH) (fun t=>[(0,Pk c.sb),(1,Pj (n:Int)),(6,t.2.1.xt),(30,.slice xo can.length xc),(31,Pj can.length),(32,Pj t.1)])
  (fun t w=>t.1≤can.length∧m5 (ns,fl) c.tok c.st (n:Int) m (can.drop t.1) t.2.2.1 t.2.2.2=m5 (ns,fl) c.tok c.st (n:Int) m can s []∧Srch w B t.2.1 t.2.2.1 nx∧dN c t.2.1∧Chg (iT c) w0 w∧(∀b,iT t.2.1 b→iT c b∨w0.heap.size≤b)∧Own w w0.heap.size 109 c7 t.2.1.xt t.2.2.2∧t.2.2.2.length≤t.1
   ∧n<t.2.2.1.1.length∧t.2.2.1.1.getD n []=m∧Sl w (Fb t.2.1 w) xo xc can) (fun t=>can.length -t.1) (0,c,s,[]) (by rw[hxt];exact OR) ⟨Nc _,by rw[KC],hS.ext hE1,⟨rfl,rfl,rfl,rfl,rfl,rfl,rfl⟩,.ofExt hE1,fun _ h=>.inl h,by rw[hxt];exact Own.nil,MM _,hn,hmd.symm,
   G.mono Pc (fun b f=>⟨by show c.lo≤b;have:=f.1;have:=hlo;omega,f.2,fun h=>by have:=(hbg b h).2;have:=f.1;omega⟩)⟩ ?_
 clear o G P D Z Q l hS;rintro⟨i,d,r,out⟩ w2 ⟨hi,M,hS,hsx,hC,K,X,hol,hrn,hrm,G⟩
 dsimp only at hi M hS hsx hC K X hol hrn hrm G⊢
 obtain⟨sb,mb,mv,nv,ov,mvs,nvs,p1,p2,tok,st,N,xt,lo⟩:=d;obtain⟨q1,q2,q3,q4,q5,q6,q7⟩:=hsx;dsimp only at q1 q2 q3 q4 q5 q6 q7 X
 subst q1 q4 q5 q7;rw[I]at q2
 rw[H]at q3
 rw[J]at q6
 subst q2 q3 q6;have hz2:=hC.size;have hB2:B≤w2.heap.size:=MN y hz2;have hbg2:=iU hS;refine Qw ?_;apply CW.cond rfl<;>intro h
 ·have hi':i<can.length:=by simp at h;omega
  rw[Ky hi',m5]at M
  have o:=hS.blk;refine Qo ?_;refine eD rfl rfl rfl rfl rfl G hi' rfl O3 (fun q=>?_);generalize can[i]=k at*
  refine Qw ?_;refine WL.build rfl rfl rfl rfl ?_;refine QQ ?_;refine WL.st rfl rfl rfl o rfl rfl Pd (fun L E R=>?_);have hS3:=hS.last (fr:=((n:Int),k)) R E;have hC3:Chg (iT c) w0 L:=hC.stepG R (fun b h=>by cases h;exact K _ (.inl rfl));have hxs3:=Fb.to G ((Chg.refl _ w2).grown R (fun g h=>by cases h;exact .inl rfl)) (fun _ h=>.inl h);have hxo3:=X.keptN R (fun g a e=>hS.dis.d05 g e.symm a);obtain⟨ao,ac,Q,Y,D,mo,mc,l,Z⟩:=O hS3 ⟨hrn,hrm⟩;dsimp only at Q Y D l
  subst Q;have o:=E;have A:Ext L (drew L):=Ext.drew L;have hSE:∀w1,(fun x=>Ext L x) w1→Ext L w1:=fun _ h=>h
  have hB3:B≤L.heap.size:=MN y hC3.size;have hs3:=Lw.at hs hC3 y hBb;have hf3:=Lw.at hf hC3 y hBb;clear E R;refine Qw ?_;refine aF (fun x=>Ext L x) [(0,true),(1,true),(2,true),(3,true),(4,true),(5,true),(6,true),(7,true),(8,true),(9,true),(10,true),(11,true),(12,true),(13,false),(14,true),(15,true),(16,true),(17,true),(18,true)] mixed OT A ?_;refine Q9 ?_;refine bY (w:=L) (F:=c9 L) (fun z hz b f=>hz.block b f) rfl rfl rfl rfl rfl rfl rfl D Y O3 (fun u q hu=>?_);obtain⟨rfl,_⟩:=hu.raw;rw[l];refine Q3 ?_;refine cu rfl (WL.call rfl rfl rfl (bK (drew L) ((Lw.old hs3 hB3).up A) ((Lw.old hf3 hB3).up A) (Z.up A) k) ?_);rintro _ w4 ⟨x,rfl,j,e4⟩
  have W:=A.trans e4;refine WL.nil (a_ W ?_);refine Rf ?_;have hS4:=hS3.ext W;have hC4:=hC3.stepE W;have hxs4:=Fb.to hxs3 (.ofExt W) (fun _ h=>.inl h);have hxo4:=hxo3.extN W;have hlt3:∀b,iT ⟨c.sb,mb,.slice ao mvs.length ac,nv,ov,mvs,nvs,.slice so ns.length sc,.slice fo fl.length fc,c.tok,c.st,fl.length,xt,c.lo⟩ b→b<L.heap.size:=fun b f=>(iU hS3 b f).2
  by_cases he:(pB (ns,fl) m k).2=0
  case neg=>
   have hz1:((pB (ns,fl) m k).2 != 0)=true:=by simpa using he
   rw[Ov he]at M
   rw[←M];refine Qw ?_;rw[hz1];refine Qa ?_;exact bf rfl rfl rfl ⟨_,_,rfl,hS4,⟨rfl,I.symm,H.symm,rfl,rfl,J.symm,rfl⟩,hC4,K,Own.nil,fun g a=>by cases a⟩
  rw[Ou (by simp[he])]at M
  have hmk4:=pF hmk he;have hT4:=yN hmk4;rw[he];generalize (pB (ns,fl) m k).1=m' at*
  have hyT:=j.rowT (F:=Fb ⟨c.sb,mb,.slice ao mvs.length ac,nv,ov,mvs,nvs,.slice so ns.length sc,.slice fo fl.length fc,c.tok,c.st,fl.length,xt,c.lo⟩ w4) (fun g a=>⟨by have:=(j.lt g a).1;have:=A.size;have:=hlo;dsimp only;omega,(j.lt g a).2.1,fun h=>by have:=hlt3 g h;have:=(j.lt g a).1;have:=A.size;omega⟩);obtain⟨yo,yc,rfl,hys⟩:=j.slF (F':=Fb ⟨c.sb,mb,.slice ao mvs.length ac,nv,ov,mvs,nvs,.slice so ns.length sc,.slice fo fl.length fc,c.tok,c.st,fl.length,xt,c.lo⟩ w4) O6 (fun g a=>⟨by have:=(j.lt g a).1;have:=A.size;have:=hlo;dsimp only;omega,(j.lt g a).2.1,fun h=>by have:=hlt3 g h;have:=(j.lt g a).1;have:=A.size;omega⟩);refine PT ?_;refine WL.build rfl rfl rfl rfl ?_;refine WL.call rfl rfl rfl (F5 w4 hS4 (MN y hC4.size) hys hyT hmk4.1 hT4 ((n:Int),k)) ?_;rintro _ w5 ⟨C,rfl,V,hsc,hC5,hby5⟩
  dsimp only at V hsc
  have hpe:Cy c.tok c.st (r.1,r.2.1,((n:Int),k)) m' ((n:Int),k)=Cy c.tok c.st r m' ((n:Int),k):=rfl;rw[hpe]at V⊢
  have hby':∀b,iT C b→iT c b∨w0.heap.size≤b:=fun b h=>(hby5 b h).elim (K b) (fun h=>.inr (MN hC4.size h))
  have hC6:Chg (iT c) w0 w5:=hC4.step (bI hC5) K;have hxs5:=Fb.to hxs4 (bI hC5) hby5 (Nat.le_of_eq hsc.2.2.2.2.2.2.2);have U:=hS4.dis;have hxo5:Own w5 w0.heap.size 109 c7 xt out:=hxo4.chg hC5 (fun b f hbb=>by
   rcases hbb with h|h|h|h|h|h
   ·exact U.d05 b (by rw[h]) f
   ·exact U.d15 b (by rw[h]) f
   ·exact U.d25 b h f
   ·exact U.d35 b h f
   ·exact U.d45 b h f
   ·exact h)
  obtain⟨g1,g2,g3,g4,g5,g6,g7,g8⟩:=hsc;dsimp only at g1 g2 g3 g4 g5 g6 g7 g8
  have hgr:=r5 (Cz (tok:=c.tok) (st:=c.st) (s:=r) (m:=m') (fr:=((n:Int),k))) hrn hrm;by_cases T:(Cy c.tok c.st r m' ((n:Int),k)).2.2=0
  case neg=>
   have hz1:((Cy c.tok c.st r m' ((n:Int),k)).2.2 != 0)=true:=by simpa using T
   rw[Ov T]at M
   rw[←M];refine Qw ?_;rw[hz1];refine Qa ?_;exact bf rfl rfl rfl ⟨C,_,rfl,V,⟨g1,by rw[g2,I],by rw[g3,H],g4,g5,by rw[g6,J],g8⟩,hC6,hby',Own.nil,fun g a=>by cases a⟩
  rw[Ou (by simp[T])]at M
  rw[T];generalize Cy c.tok c.st r m' ((n:Int),k)=pe at*
  obtain⟨r',to,er⟩:=pe;dsimp only at M V hgr T⊢
  have hC5z:=hC6.size;refine PT ?_;refine WL.build rfl rfl rfl rfl ?_;refine dY (α:=Int×Int) (F:=c7) (bytes:=16) (yv:=(k,to)) rfl rfl O3 rfl rfl O3 hxo5 (Rd.mkPr (c1:=[Pj k]) (c2:=[Pj to]) (C2 _ _ _) (C2 _ _ _)) hC5z O6 OU OY OS (fun xt' w6 p6 ho6 hg6 hnb6=>?_);rw[←g7]at hg6 hnb6
  obtain⟨hS6,hb6⟩:=V.grow hg6 hnb6 (fun g a=>⟨MN y (ho6.lt g a).1,(ho6.lt g a).2.1⟩);have hxlt:∀g,C.xt.ownBlock=some g→w0.heap.size≤g:=fun g a=>by rw[g7]at a;exact(hxo5.lt g a).1
  have hC7:=hC6.stepG hg6 (fun b f=>.inr (hxlt b f));have hxs6:=Fb.to hxs5 ((Chg.refl _ w5).grown hg6 (fun g a=>.inr (.inr (.inr (.inr (.inr a)))))) hb6;refine PI ?_;refine EX.back (i+1,⟨C.sb,C.mb,C.mv,C.nv,C.ov,C.mvs,C.nvs,C.p1,C.p2,C.tok,C.st,C.N,xt',C.lo⟩,r',out++[(k,to)]) OR ⟨hi',M,hS6,⟨g1,by rw[g2,I],by rw[g3,H],g4,g5,by rw[g6,J],g8⟩,hC7,fun b f=>(hb6 b f).elim (hby' b) (fun h=>.inr (MN hC5z h)),ho6,by simp;omega,hgr.1,hgr.2,hxs6⟩ OX
 ·obtain rfl:i=can.length:=by simp at h;omega
  rw[KA,m5]at M
  rw[←M];refine PG ?_;exact bf rfl rfl rfl ⟨_,_,rfl,hS,⟨rfl,I.symm,H.symm,rfl,rfl,J.symm,rfl⟩,hC,K,X,fun g a=>a⟩
instance uN:IsT Tryz.prog 55 Raw:=IsT.of OT NV rfl
instance uO:IsZ Tryz.prog 55 (⟨.slice none 0 0⟩:Raw) 24:=IsZ.of (z:=.slice none 0 0) OT (fun _ _=>⟨rfl,rfl⟩)
theorem rY(w:World)(row:Option Nat):w.grownBy w row:=⟨rfl,rfl,rfl,MM _,fun _ _ _=>rfl⟩
theorem Srch.pushN{w o m:World}{B:Nat}{c:SC}{s:Sr}{nx:List (List cH)}{nv':Value}{xo:Option Addr}{xc:Nat}{i:List cH}(h:Srch w B c s nx)(D:B≤w.heap.size)(A:Sl w (Fb c w) xo xc i)(p:RowT (Fb c w) w 2 (.slice xo i.length xc))
  (C:Own o B 55 c7 nv' (c.nvs++[(⟨.slice xo i.length xc⟩:Raw)])) (j:w.grownBy o c.nv.ownBlock) (hnb:∀g,nv'.ownBlock=some g→c.nv.ownBlock=some g∨w.heap.size≤g) (d:o.grownBy m (some c.sb))
  (q:Blk m c.sb 136 [c.p1,c.p2,Pj c.tok,Pj c.st,c.mv,nv',.map (some c.mb),c.ov,Pj s.2.2.1,Pj s.2.2.2]):
  Srch m B ⟨c.sb,c.mb,c.mv,nv',c.ov,c.mvs,c.nvs++[(⟨.slice xo i.length xc⟩:Raw)],c.p1,c.p2,c.tok,c.st,c.N,c.xt,c.lo⟩ s (nx++[i])∧Chg (busyI c) w m∧
   ∀b,iT ⟨c.sb,c.mb,c.mv,nv',c.ov,c.mvs,c.nvs++[(⟨.slice xo i.length xc⟩:Raw)],c.p1,c.p2,c.tok,c.st,c.N,c.xt,c.lo⟩ b→iT c b∨w.heap.size≤b:=by
 have hd:=h.dis;have n:=iU h;have l:Chg (busyI c) w m:=((Chg.refl _ w).grown j (fun g j=>.inr (.inr (.inr (.inl j))))).grown d Pb;have f:∀b,iT ⟨c.sb,c.mb,c.mv,nv',c.ov,c.mvs,c.nvs++[(⟨.slice xo i.length xc⟩:Raw)],c.p1,c.p2,c.tok,c.st,c.N,c.xt,c.lo⟩ b→iT c b∨w.heap.size≤b:=by
  intro b q
  rcases q with h|h|h|h|h|h
  ·exact .inl (.inl h)
  ·exact .inl (.inr (.inl h))
  ·exact .inl (.inr (.inr (.inl h)))
  ·exact(hnb b h).imp (fun h=>.inr (.inr (.inr (.inl h)))) id
  ·exact .inl (.inr (.inr (.inr (.inr (.inl h)))))
  ·exact .inl (.inr (.inr (.inr (.inr (.inr h)))))
 have na:∀{a:Option Nat},ap a c.nv.ownBlock→(∀g,a=some g→g<w.heap.size)→ap a nv'.ownBlock:=fun k kl=>(k.sym.new hnb kl).sym
 have n0:ap (some c.sb) nv'.ownBlock:=na hd.d03 (fun g e=>by cases e;exact(n _ (.inl rfl)).2);have n1:ap (some c.mb) nv'.ownBlock:=na hd.d13 (fun g e=>by cases e;exact(n _ (.inr (.inl rfl))).2);have z:ap c.mv.ownBlock nv'.ownBlock:=na hd.d23 (fun g e=>(n _ (.inr (.inr (.inl e)))).2);have u:ap c.ov.ownBlock nv'.ownBlock:=na hd.d34.sym (fun g e=>(n _ (.inr (.inr (.inr (.inr (.inl e)))))).2);have r:ap c.xt.ownBlock nv'.ownBlock:=na hd.d35.sym (fun g e=>(n _ (.inr (.inr (.inr (.inr (.inr e)))))).2);refine⟨⟨q,(h.num.kept j (fun e=>hd.d13 _ rfl e.symm)).kept d (fun e=>hd.d01 (Nn e).symm),(h.mo.keptN j (fun g k e=>hd.d23 g k e.symm)).keptN d (fun g k e=>hd.d02 g e.symm k),C.keptN d (fun g k e=>n0 g e.symm k),(h.oo.keptN j (fun g k e=>hd.d34 g e.symm k)).keptN d (fun g k e=>hd.d04 g e.symm k),
  h.mi.to (bI l) f,(h.ni.to (bI l) f).push (Fb.to A (bI l) f) (Fb.toT p (bI l) f),h.ge,h.lob,(fun g k=>⟨(h.xo g k).1,MQ (h.xo g k).2 l.size⟩),
  ⟨hd.d01,hd.d02,n0,hd.d04,hd.d12,n1,hd.d14,z,hd.d24,u.sym,hd.d05,hd.d15,hd.d25,r.sym,hd.d45⟩,h.ok,h.nd,h.lim⟩,l,f⟩
theorem m6{p:cL}{tok st n:Int}{m:List Int}:∀(l:List Int) (s:Sr) (out:List cH),s.1.length≤(m5 p tok st n m l s out).1.1.length
 |[],s,out=>MM _
 |k::r,s,out=>by
  rw[m5];split
  ·exact MM _
  have h:s.1.length≤(Cy tok st s (pB p m k).1 (n,k)).1.1.length:=by
   rcases Cz (tok:=tok) (st:=st) (s:=s) (m:=(pB p m k).1) (fr:=(n,k))with h|h<;>rw[h]
   ·exact MM _
   ·simp
  split
  ·exact h
  ·exact MN h (m6 r _ _)
theorem mZ{p:cL}{tok st:Int}{n:Nat}{s:Sr}:s.1.length≤(mY p tok st n s).1.1.length:=m6 _ _ _
set_option maxHeartbeats 2000000 in
theorem Ek(w0:World){so fo:Option Addr}{sc fc:Nat}{ns:List cJ}{fl:List cI}(hs:Sl w0 (c9 w0) so sc ns)(hf:Sl w0 (c9 w0) fo fc fl)(tok st:Int):
  Rt Tryz.prog 51 [Ck so sc fo fc ns.length fl.length,Pj tok,Pj st].toArray w0 fun v w'=>Ext w0 w'∧((DX (ns,fl) tok st≠0∧v=.tuple ⟨[.pointer none,Pj (DX (ns,fl) tok st)]⟩)∨
   (DX (ns,fl) tok st=0∧∃c,v=.tuple ⟨[Pk c.sb,Pj (runB (ns,fl) tok st).2.2]⟩∧Srch w' w0.heap.size c (runB (ns,fl) tok st).1 (runB (ns,fl) tok st).2.1∧c.lo=w0.heap.size)):=by
 refine dI Tryz.func51 Tryz.ntmps51 rfl rfl ?_;refine Pm ?_;refine dZ rfl rfl rfl fun w1 C e1=>?_
 refine Pw ?_;refine WL.call rfl rfl rfl (c8 w1 (hs.up e1) (hf.up e1)) ?_;rintro _ V ⟨x,rfl,l,e2⟩
 have C:=C.ext e2;have U:=e1.trans e2;unfold DX;by_cases P:(F_ (ns,fl)).2=0
 case neg=>
  have E:((F_ (ns,fl)).2 != 0)=true:=by simpa using P
  rw[Ov P];refine Qw ?_;rw[E];refine Qr ?_;exact bf rfl rfl rfl ⟨U,.inl ⟨P,rfl⟩⟩
 rw[Ou (by simp[P]),P];obtain⟨hc0,hse,hl60⟩:=Gc P;have hpok:=jU hc0;have hf30:=hpok.f;dsimp only at hf30
 by_cases ha:tok<1∨tok>9∨st<1∨st>200
 ·have X:DN tok st=1:=by unfold DN;rw[Ov ha]
  rw[X];have fin:∀(Q:Exit→Act→World→Prop),True:=fun _=>trivial
  refine PT ?_;by_cases h1:tok<1
  ·rw[Ol h1]
   refine Qr ?_;exact bf rfl rfl rfl ⟨U,.inl ⟨by decide,rfl⟩⟩
  rw[Oj h1];refine QO ?_;by_cases h2:tok>9
  ·rw[Ol h2]
   refine Qr ?_;exact bf rfl rfl rfl ⟨U,.inl ⟨by decide,rfl⟩⟩
  rw[Oj h2];refine QO ?_;by_cases h3:st<1
  ·rw[Ol h3]
   refine Qr ?_;exact bf rfl rfl rfl ⟨U,.inl ⟨by decide,rfl⟩⟩
  rw[Oj h3];refine Pv ?_;rw[Ol (show st>200 by omega)];refine Qr ?_;exact bf rfl rfl rfl ⟨U,.inl ⟨by decide,rfl⟩⟩
 have X:DN tok st=0:=by unfold DN;rw[Ou ha]
 rw[X];refine PT ?_;rw[Oj (show¬tok<1 by omega)];refine QO ?_;rw[Oj (show¬tok>9 by omega)];refine QO ?_;rw[Oj (show¬st<1 by omega)];refine Pv ?_;rw[Oj (show¬st>200 by omega)];refine Qt ?_;refine ff (k:=234) rfl rfl (fun H=>?_);have e3:Ext V (V.alloc (.map #[] 0)):=Ext.alloc V _;generalize V.alloc (.map #[] 0)=w3 at*
 have C:=C.ext e3;have U:=U.trans e3;refine WL.build rfl rfl rfl rfl ?_;refine dZ rfl rfl rfl fun w4 B e4=>?_
 have hlm:=H.lt;have hz2:=e1.size;have hz3:=e2.size;have hz4:=e3.size;have C:=C.ext e4;have K:=U.trans e4;have hS0:Srch w4 w0.heap.size ⟨w3.heap.size,V.heap.size,.slice none 0 0,.slice none 0 0,.slice none 0 0,[],[],.slice so ns.length sc,.slice fo fl.length fc,tok,st,fl.length,.slice none 0 0,w0.heap.size⟩ ([],[],(0,0)) []:=by
  have no:∀{a:Option Nat},ap a none:=fun g _ h=>by cases h
  have no2:∀{a:Option Nat},ap none a:=fun g h _=>by cases h
  refine⟨B,H.ext e4,Own.nil,Own.nil,Own.nil,⟨rfl,fun i h _=>absurd h OW,fun i h=>absurd h OW⟩,⟨rfl,fun i h _=>absurd h OW,fun i h=>absurd h OW⟩,⟨by dsimp only;omega,by dsimp only;omega⟩,MM _,(fun g h=>by cases h),⟨by dsimp only;omega,no,no,no,no,no,no,no2,no2,no2,no,no,no2,no2,no2⟩,(fun m h=>by cases h),List.Pairwise.nil,⟨by dsimp only;simp;omega,by dsimp only;omega,by dsimp only;omega,rfl,by dsimp only;omega⟩⟩
 refine Pw ?_;refine WL.call rfl rfl rfl (aq w4 (hs.up K) (hf.up K)) ?_;rintro _ w5 ⟨x,rfl,l,e5⟩
 rw[Ov P]at l
 have hS5:=hS0.ext e5;have hE5:=K.trans e5;have hbm:=ig (p:=(ns,fl));have Y:=fun b h=>(iU hS0 b h).2
 have W:=l.rowT (F:=Fb ⟨w3.heap.size,V.heap.size,.slice none 0 0,.slice none 0 0,.slice none 0 0,[],[],.slice so ns.length sc,.slice fo fl.length fc,tok,st,fl.length,.slice none 0 0,w0.heap.size⟩ w5) (fun g z=>⟨by have:=(l.lt g z).1;have:=K.size;dsimp only;omega,(l.lt g z).2.1,fun h=>by have:=Y g h;have:=(l.lt g z).1;omega⟩);obtain⟨xo,xc,rfl,M⟩:=l.slF (F':=Fb ⟨w3.heap.size,V.heap.size,.slice none 0 0,.slice none 0 0,.slice none 0 0,[],[],.slice so ns.length sc,.slice fo fl.length fc,tok,st,fl.length,.slice none 0 0,w0.heap.size⟩ w5) O6 (fun g z=>⟨by have:=(l.lt g z).1;have:=K.size;dsimp only;omega,(l.lt g z).2.1,fun h=>by have:=Y g h;have:=(l.lt g z).1;omega⟩);unfold runB;generalize ie (ns,fl)=m0 at*
 refine Qw ?_;refine WL.build rfl rfl rfl rfl ?_;refine WL.call rfl rfl rfl (F5 w5 hS5 hE5.size M W hbm.1 (yN hbm) (-1,-1)) ?_;rintro _ w6 ⟨c,rfl,N,j,hC6,hby6⟩
 dsimp only at N j
 have hE6:Ext w0 w6:=(bI hC6).ext hE5 (fun b h=>(iU hS5 b h).1);by_cases hp:(Cy tok st ([],[],(0,0)) m0 (-1,-1)).2.2=0
 case neg=>
  have E:((Cy tok st ([],[],(0,0)) m0 (-1,-1)).2.2 != 0)=true:=by simpa using hp
  rw[Ov hp];have R:=j.2.2.2.2.2.2.2;obtain⟨g1,_⟩:=j;dsimp only at g1 R
  refine Qw ?_;rw[E];refine Qr ?_;exact bf rfl rfl rfl ⟨hE6,.inr ⟨rfl,c,by rw[g1],N,R⟩⟩
 rw[Ou (by simp[hp]),hp];generalize (Cy tok st ([],[],(0,0)) m0 (-1,-1)).1=s0 at*
 clear hS0 hS5 M l Y B H hby6 hC6;refine QA ?_;refine CW.loop (S:=Nat×SC×Sr×List (List cH)) (fun t=>[(10,Pk w3.heap.size),(15,Pj t.1)])
  (fun t w=>t.1≤t.2.2.1.1.length∧DU (ns,fl) tok st (201 -t.1) t.1 t.2.2.1 t.2.2.2=DU (ns,fl) tok st 201 0 s0 []∧Srch w w0.heap.size t.2.1 t.2.2.1 t.2.2.2∧t.2.1.xt=.slice none 0 0∧t.2.2.2.length=t.1∧t.2.1.sb=w3.heap.size∧t.2.1.p1=.slice so ns.length sc∧t.2.1.p2=.slice fo fl.length fc∧t.2.1.tok=tok∧t.2.1.st=st∧t.2.1.N=fl.length∧t.2.1.lo=w0.heap.size∧Ext w0 w)
  (fun t=>201 -t.1) (0,c,s0,[]) OR ⟨Nc _,rfl,N,j.2.2.2.2.2.2.1,rfl,j.1,j.2.1,j.2.2.1,j.2.2.2.1,j.2.2.2.2.1,j.2.2.2.2.2.1,j.2.2.2.2.2.2.2,hE6⟩ ?_
 clear N j;rintro⟨n,c,s,nx⟩ w7 ⟨hn,L,hS,hxt,hnl,q1,q2,q3,q4,q5,q6,q7,u⟩
 dsimp only at hn L hS hxt hnl q1 q2 q3 q4 q5 q6 q7 u⊢
 have T:=hS.lim;have hml:=hS.mi.len;obtain⟨ao,ac,hmv⟩:=hS.mo.val;have B:=hS.blk;rw[hmv,q1,hml]at B
 have hn200:s.1.length≤200:=by have:=T.1;have:=T.2.2.1;omega
 obtain⟨f,hf201⟩:∃f,201 -n=f+1:=⟨200 -n,by omega⟩;rw[hf201,DU]at L
 refine QH ?_;apply CW.cond rfl<;>intro h
 ·have hn':n<s.1.length:=by simp at h;omega
  rw[Ov hn']at L
  refine Qv ?_;rw[←q1];refine WL.call rfl rfl rfl (m_ w7 hS u.size (hs.at u) (hf.at u) q2 q3 q6 P hxt hn') ?_;rintro _ w8 ⟨c',x,rfl,J,hsx,hC8,hby8,d,hxx⟩
  rw[q4,q5]at J d⊢
  obtain⟨g1,g2,g3,g4,g5,g6,g7⟩:=hsx;have O:Ext w0 w8:=hC8.ext u (fun b h=>(iU hS b h).1);by_cases he:(mY (ns,fl) tok st n s).2.2=0
  case neg=>
   have E:((mY (ns,fl) tok st n s).2.2 != 0)=true:=by simpa using he
   rw[Ov he]at L
   rw[←L];refine Qw ?_;rw[E];refine Qa ?_;exact bf rfl rfl rfl ⟨O,.inr ⟨rfl,c',by rw[g1],J,by rw[g7,q7]⟩⟩
  rw[Ou (by simp[he])]at L
  rw[he];have Z:=mZ (p:=(ns,fl)) (tok:=tok) (st:=st) (n:=n) (s:=s);generalize mY (ns,fl) tok st n s=ee at*
  obtain⟨s',es,er⟩:=ee;dsimp only at L J d he Z⊢
  have q:=J.dis;obtain⟨D,hb9⟩:=J.grow (x':=.slice none 0 0) (rY w8 _) (fun g h=>by cases h) (fun g h=>by cases h);have W:=d.rowT (F:=Fb ⟨c'.sb,c'.mb,c'.mv,c'.nv,c'.ov,c'.mvs,c'.nvs,c'.p1,c'.p2,c'.tok,c'.st,c'.N,.slice none 0 0,c'.lo⟩ w8) (fun g z=>⟨by have:=(d.lt g z).1;have:=u.size;dsimp only;omega,(d.lt g z).2.1,fun h=>by
   have o:=hxx g z;rcases h with h|h|h|h|h|h
   ·exact q.d05 g (by rw[h]) o
   ·exact q.d15 g (by rw[h]) o
   ·exact q.d25 g h o
   ·exact q.d35 g h o
   ·exact q.d45 g h o
   ·cases h⟩)
  obtain⟨xo,xc,rfl,M⟩:=d.slF (F':=Fb ⟨c'.sb,c'.mb,c'.mv,c'.nv,c'.ov,c'.mvs,c'.nvs,c'.p1,c'.p2,c'.tok,c'.st,c'.N,.slice none 0 0,c'.lo⟩ w8) O6 (fun g z=>⟨by have:=(d.lt g z).1;have:=u.size;dsimp only;omega,(d.lt g z).2.1,fun h=>by
   have o:=hxx g z;rcases h with h|h|h|h|h|h
   ·exact q.d05 g (by rw[h]) o
   ·exact q.d15 g (by rw[h]) o
   ·exact q.d25 g h o
   ·exact q.d35 g h o
   ·exact q.d45 g h o
   ·cases h⟩)
  have I:=D.no;have A:=D.blk;have hnl9:=D.ni.len;dsimp only at I A hnl9
  obtain⟨no,nc,G⟩:=I.val;rw[G,g1]at A
  refine PU ?_;refine dY (α:=Raw) (F:=c7) (bytes:=24) (yv:=(⟨.slice xo es.length xc⟩:Raw)) rfl rfl O3 rfl rfl O3 (G▸I) (Rd.mkRaw _ _ _ rfl) O.size O6 OU OY OS (fun nv' w9 p9 ho9 hg9 hnb9=>?_);obtain⟨no',nc',rfl⟩:=ho9.val;have r:=A.kept hg9 (fun e=>D.dis.d03 c.sb (by dsimp only;rw[g1]) (by dsimp only;rw[G];exact e.symm));refine QQ ?_;refine WL.st rfl rfl rfl r rfl rfl Pd (fun w10 r hg10=>?_);obtain⟨hS10,hC10,hb10⟩:=D.pushN O.size M W ho9 (by dsimp only;rw[G];exact hg9) (by dsimp only;rw[G];exact hnb9) (by dsimp only;rw[g1];exact hg10) (by dsimp only;rw[g1];exact r);have hE10:Ext w0 w10:=(bI hC10).ext O (fun b h=>(iU D b h).1);refine PI ?_;refine EX.back (n+1,_,s',nx++[es]) OR ⟨?_,?_,hS10,rfl,by simp[hnl],by dsimp only;rw[g1,q1],by dsimp only;rw[g2,q2],by dsimp only;rw[g3,q3],by dsimp only;rw[g4,q4],by dsimp only;rw[g5,q5],by dsimp only;rw[g6,q6],by dsimp only;rw[g7,q7],hE10⟩ OX
  ·dsimp only;omega
  ·rw[show 201 -(n+1)=f by omega];exact L
 ·obtain rfl:n=s.1.length:=by simp at h;omega
  rw[Ou (MO _)]at L
  rw[←L];refine PG ?_;exact bf rfl rfl rfl ⟨u,.inr ⟨rfl,c,by rw[q1],hS,q7⟩⟩
def GF(lo hi:Nat)(x y:Value):Nat→Prop:=fun b=>lo≤b∧b<hi∧x.ownBlock≠some b∧y.ownBlock≠some b
structure LOut{α:Type}[Rep α](w:World)(lo hi:Nat)(x y:Value)(t:TypeId)(v:Value)(vs:List Raw)(xs:List (List α)):Prop where
 own:Own w lo t c7 v vs
 top:∀g,v.ownBlock=some g→g<hi
 len:vs.length=xs.length
 el:∀i (h:i<vs.length) (h':i<xs.length),∃ao cap,vs[i].v=.slice ao xs[i].length cap∧Sl w (GF lo hi x y) ao cap xs[i]
 ty:∀i (h:i<vs.length),RowT (GF lo hi x y) w (sz α) vs[i].v
section
variable {α:Type}[Rep α]{w w':World}{lo hi:Nat}{x y v:Value}{t:TypeId}{vs:List Raw}{xs:List (List α)}
theorem LOut.to(h:LOut w lo hi x y t v vs xs)(a:∀b,lo≤b→b<hi→w'.heap[b]?=w.heap[b]?):LOut w' lo hi x y t v vs xs:=
 ⟨h.own.keep (fun g c=>a g (h.own.lt g c).1 (h.top g c)) O6,h.top,h.len,fun i h1 h2=>by
  obtain⟨ao,cap,e,d⟩:=h.el i h1 h2;exact⟨ao,cap,e,d.mono (fun b h=>a b h.1 h.2.1) fun _ h=>h⟩,fun i h1=>(h.ty i h1).to fun b h _=>⟨h,a b h.1 h.2.1⟩⟩
theorem LOut.low(h:LOut w lo hi x y t v vs xs){lo':Nat}(a:lo'≤lo):LOut w lo' hi x y t v vs xs:=
 ⟨h.own.low a,h.top,h.len,fun i h1 h2=>by
  obtain⟨ao,cap,e,c⟩:=h.el i h1 h2;exact⟨ao,cap,e,c.mono Pc fun b h=>⟨MN a h.1,h.2⟩⟩,fun i h1=>(h.ty i h1).to fun b h _=>⟨⟨MN a h.1,h.2⟩,rfl⟩⟩
theorem LOut.nil:LOut w lo hi x y t (.slice none 0 0) [] ([]:List (List α)):=⟨Own.nil,(fun g h=>by cases h),rfl,fun i h _=>absurd h OW,fun i h=>absurd h OW⟩
theorem LOut.rd(h:LOut w lo hi x y t v vs xs){F:Nat→Prop}(hF:∀b,lo≤b→b<hi→F b):Rd w F v xs:=by
 obtain⟨ao,cap,e,c⟩:=h.own.slF (F':=F) O6 (fun g k=>hF g (h.own.lt g k).1 (h.top g k));have d:Sl w F ao cap xs:=by
  refine⟨by rw[←h.len];exact c.le,c.mx,c.nil,fun i hi=>?_⟩;have a:i<vs.length:=by rw[h.len];exact hi
  obtain⟨b,off,p,j,q,n,m⟩:=c.el i a;obtain⟨rfl,h1⟩:=m;obtain⟨io,ic,o,f⟩:=h.el i a hi;exact⟨b,off,p,j,[vs[i].v],n,io,ic,by rw[o],f.mono Pc (fun b l=>hF b l.1 l.2.1)⟩
 rw[e,h.len];exact d.rd
end
theorem bE(w0:World){so fo:Option Addr}{sc fc:Nat}{ns:List cJ}{fl:List cI}(p:Sl w0 (c9 w0) so sc ns)(hf:Sl w0 (c9 w0) fo fc fl)(tok st:Int):
  Rt Tryz.prog 23 [Ck so sc fo fc ns.length fl.length,Pj tok,Pj st].toArray w0 fun v w'=>∃x y mvs nvs,v=.tuple ⟨[.agg [x,y].toArray,Pj (ow (ns,fl) tok st).2]⟩∧LOut w' w0.heap.size w'.heap.size x y 38 x mvs (ow (ns,fl) tok st).1.1∧LOut w' w0.heap.size w'.heap.size x y 55 y nvs (ow (ns,fl) tok st).1.2∧Ext w0 w':=by
 refine dI Tryz.func23 Tryz.ntmps23 rfl rfl ?_;refine Pm ?_;refine dZ rfl rfl rfl fun I r C=>?_
 skip;refine WL.alloc rfl rfl (fun s a H=>?_);have r:=r.ext H;have B:=C.trans H;have L:=a.lt;refine Pw ?_;refine WL.call rfl rfl rfl (Ek s (p.up B) (hf.up B) tok st) ?_;rintro _ n ⟨G,J⟩
 have a:=a.ext G;have f:=B.trans G;unfold ow;rcases J with⟨u,rfl⟩|⟨u,c,rfl,hS,D⟩
 ·rw[Ov u]
  have k:(DX (ns,fl) tok st != 0)=true:=by simpa using u
  refine Qw ?_;rw[k];refine P6 ?_;refine WL.build (parts:=[]) rfl rfl rfl rfl ?_;refine QO ?_;refine WL.st rfl rfl rfl a rfl rfl Pd (fun o a d=>?_);refine PL ?_;exact bh rfl rfl rfl a rfl ⟨_,_,[],[],rfl,LOut.nil,LOut.nil,f.grown d f.size (fun g j=>by cases j;exact C.size)⟩
 rw[Ou (by simp[u])];by_cases z:(runB (ns,fl) tok st).2.2=0
 case neg=>
  rw[Ov z];have k:((runB (ns,fl) tok st).2.2 != 0)=true:=by simpa using z
  refine Qw ?_;rw[k];refine P6 ?_;refine WL.build (parts:=[]) rfl rfl rfl rfl ?_;refine QO ?_;refine WL.st rfl rfl rfl a rfl rfl Pd (fun o a d=>?_);refine PL ?_;exact bh rfl rfl rfl a rfl ⟨_,_,[],[],rfl,LOut.nil,LOut.nil,f.grown d f.size (fun g j=>by cases j;exact C.size)⟩
 rw[Ou (by simp[z]),z];have q:=hS.blk;have K:c.sb≠I.heap.size:=by have:=hS.ge.1;omega
 obtain⟨ao,ac,m⟩:=hS.mo.val;obtain⟨no,M,l⟩:=hS.no.val;rw[m,l]at q
 refine PU ?_;refine WL.st rfl rfl rfl a rfl rfl Pd (fun o a d=>?_);have rdl:∀{α:Type} [Rep α] {t:TypeId} {v:Value} {vs:List Raw} {xs:List (List α)},Own n s.heap.size t c7 v vs→Inn n c vs xs→LOut o w0.heap.size o.heap.size c.mv c.nv t v vs xs:=by
  intro α _ t v vs xs E hi
  have F:∀b,Fb c n b→GF s.heap.size n.heap.size c.mv c.nv b:=fun b A=>⟨by rw[←D];exact A.1,A.2.1,fun e=>A.2.2 (.inr (.inr (.inl e))),fun e=>A.2.2 (.inr (.inr (.inr (.inl e))))⟩
  have h3:LOut n s.heap.size n.heap.size c.mv c.nv t v vs xs:=⟨E,fun g j=>(E.lt g j).2.1,hi.len,fun i h1 h2=>by
   obtain⟨ao,cap,e,p⟩:=hi.el i h1 h2;exact⟨ao,cap,e,p.mono Pc F⟩,fun i h1=>(hi.ty i h1).to fun b h _=>⟨F b h,rfl⟩⟩
  have h4:=(h3.to (w':=o) fun b h1 h2=>d.block b h2 Pa).low B.size;exact⟨h4.own,fun g j=>MQ (h4.top g j) d.size,h4.len,fun i k1 k2=>by
   obtain⟨ao,cap,e,p⟩:=h4.el i k1 k2;exact⟨ao,cap,e,p.mono Pc fun b h=>⟨h.1,MQ h.2.1 d.size,h.2.2⟩⟩,fun i k1=>(h4.ty i k1).to fun b h _=>⟨⟨h.1,MQ h.2.1 d.size,h.2.2⟩,rfl⟩⟩
 refine Pr ?_;exact bh rfl rfl rfl a rfl ⟨_,_,c.mvs,c.nvs,rfl,by rw[←m,←l];exact rdl hS.mo hS.mi,by rw[←m,←l];exact rdl hS.no hS.ni,f.grown d f.size (fun g j=>by cases j;exact C.size)⟩
theorem bD(w0:World){so fo:Option Addr}{sc fc:Nat}{ns:List cJ}{fl:List cI}(a:Sl w0 (c9 w0) so sc ns)(hf:Sl w0 (c9 w0) fo fc fl)(tok st:Int):
  Rt Tryz.prog 23 [Ck so sc fo fc ns.length fl.length,Pj tok,Pj st].toArray w0 fun v w'=>∃x y,v=.tuple ⟨[.agg [x,y].toArray,Pj (ow (ns,fl) tok st).2]⟩∧Rd w' (c9 w') x (ow (ns,fl) tok st).1.1∧Rd w' (c9 w') y (ow (ns,fl) tok st).1.2∧Ext w0 w':=
 Rt.mono (bE w0 a hf tok st) fun v w' ⟨x,y,_,_,e,h1,h2,c⟩=>⟨x,y,e,h1.rd (fun b _ h=>h),h2.rd (fun b _ h=>h),c⟩
theorem Cells.hd'{w:World}{b o:Nat}{x:Value}{r:List Value}(h:Cells w b o (x::r)):Cells w b o [x]:=fun j u a=>by
 match j,a with
 |0,a=>exact h 0 u (by simpa using a)
theorem Sl.edge0{w:World}{F:Nat→Prop}{ao:Option Addr}{cap:Nat}{xs:List cH}(h:Sl w F ao cap xs){i:Nat}(hi:i<xs.length):∃b off,ao=some ⟨b,off,none⟩∧F b∧Cells w b (off+i*2) [Pj xs[i].1]∧Cells w b (off+i*2+1) [Pj xs[i].2]:=by
 obtain⟨b,off,e,d,f,a,c⟩:=h.el i hi;obtain⟨c1,c2,rfl,h1,h2⟩:=C5 c;rw[C0 h1,C0 h2]at a
 exact⟨b,off,e,d,a.hd',a.tl'⟩
theorem Sl.step0{w:World}{F:Nat→Prop}{ao:Option Addr}{cap:Nat}{xs:List cN}(h:Sl w F ao cap xs){i:Nat}(hi:i<xs.length):∃b off,ao=some ⟨b,off,none⟩∧F b∧Cells w b (off+i*3) [Pj xs[i].1]:=by
 obtain⟨b,off,e,d,f,a,c⟩:=h.el i hi;obtain⟨c1,c2,rfl,h1,h2⟩:=C5 c;rw[C0 h1]at a
 exact⟨b,off,e,d,a.hd'⟩
theorem CZ{w:World}{F:Nat→Prop}{v:Value}{x:cH}(h:Rd w F v x):v=.agg [Pj x.1,Pj x.2].toArray:=by
 obtain⟨c1,c2,rfl,h1,h2⟩:=h.pr;rw[C0 h1,C0 h2];rfl
theorem rq{l:List cH}{j:Nat}(h:j<l.length):l.getD j (0,0)=l[j]:=by rw[KR,KX h];rfl
theorem rx{l:List (List cH)}{j:Nat}(h:j<l.length):l.getD j []=l[j]:=by rw[KR,KX h];rfl
theorem ry{l:List cN}{j:Nat}(h:j<l.length):l.getD j (0,0,0)=l[j]:=by rw[KR,KX h];rfl
theorem Fm{s:Nat}(a:s<62):IntKind.u64.wrap (1*2 ^ min ((s:Int)).toNat IntKind.u64.bits)=((2 ^ s:Nat):Int):=by
 have h1:min ((s:Int)).toNat IntKind.u64.bits=s:=by
  rw[Kd];exact MS (by show s≤64;omega)
 rw[h1,Kc];have h2:(2:Nat) ^ s<2 ^ 62:=M5 OU a;have h3:((2:Int)) ^ s=((2 ^ s:Nat):Int):=by push_cast;rfl
 rw[h3];generalize (2:Nat) ^ s=q at*
 simp[IntKind.wrap,IntKind.bits,IntKind.signed]<;>omega
def RunAt(w:World)(sb:Nat)(sl:List cN)(nx:List (List cH)):Prop:=
 ∃(lo:Option Addr) (b:Nat) (mv:Value) (no:Option Addr) (a:Nat) (oo:Option Addr) (oc:Nat) (ao:Option Addr) (ac:Nat) (yo:Option Addr) (yc:Nat) (f e d c:Value),
  Blk w sb 90 [.slice lo sl.length b,mv,.slice no nx.length a,.slice oo (gD nx nx.length) oc,.slice ao nx.length ac,.slice yo nx.length yc,f,e,d,c]∧
  Sl w (c9 w) lo b sl∧Sl w (c9 w) no a nx∧Sl w (c9 w) oo oc (Ap nx nx.length)∧Sl w (c9 w) ao ac (gz nx nx.length)∧Sl w (c9 w) yo yc (yx nx nx.length)
theorem RunAt.up{w w':World}{sb:Nat}{sl:List cN}{nx:List (List cH)}(h:RunAt w sb sl nx)(a:Ext w w'):RunAt w' sb sl nx:=by
 obtain⟨lo,g,mv,no,f,oo,oc,ao,ac,yo,yc,e,d,c,b,i,h1,h2,h3,h4,j⟩:=h;exact⟨lo,g,mv,no,f,oo,oc,ao,ac,yo,yc,e,d,c,b,i.ext a,h1.up a,h2.up a,h3.up a,h4.up a,j.up a⟩
theorem atL_len{nx:List (List cH)}{k:Nat}:(gz nx k).length=k:=by simp[gz]
theorem manyL_len{nx:List (List cH)}{k:Nat}:(yx nx k).length=k:=by simp[yx]
theorem gA{nx:List (List cH)}{k m:Nat}(h:m<(gz nx k).length):(gz nx k)[m]=((gD nx m:Nat):Int):=by simp[gz]
theorem yy{nx:List (List cH)}{k m:Nat}(h:m<(yx nx k).length):(yx nx k)[m]=((yV nx m:Nat):Int):=by simp[yx]
theorem gE{nx:List (List cH)}(h:∀j,(nx.getD j []).length≤60):∀n,gD nx n≤60*n
 |0=>by rw[gI];omega
 |n+1=>by
  rw[gH];have:=gE h n;have:=h n;unfold yV;omega
theorem Av{sl:List cN}{nx:List (List cH)}(c:NxOk sl nx){j:Nat}(b:j<gD nx nx.length):
  ∃n i,n<nx.length∧i<yV nx n∧j=gD nx n+i∧(At nx j).2=(n:Int)∧((At nx j).1= -1∧nx.getD n []=[]∨0≤(At nx j).1∧(At nx j).1<sl.length∧i<(nx.getD n []).length∧At nx j=(((nx.getD n []).getD i (0,0)).1,(n:Int))):=by
 obtain⟨n,i,hn,hi,rfl⟩:=Ax b;refine⟨n,i,hn,hi,rfl,?_⟩;rw[Au hn hi];by_cases h:nx.getD n []=[]
 ·rw[Ov h];exact⟨rfl,.inl ⟨rfl,h⟩⟩
 ·rw[Ou h]
  have d:0<(nx.getD n []).length:=Ls.2 h;have a:i<(nx.getD n []).length:=by unfold yV at hi;omega
  have:=c.ed n hn _ (Lb a);rw[←rq a]at this
  exact⟨rfl,.inr ⟨this.1,this.2.1,a,rfl⟩⟩
theorem ga(w0:World){sb m:Nat}{sl:List cN}{nx:List (List cH)}(hR:RunAt w0 sb sl nx)(n:NxOk sl nx)(H:m<nx.length):
  Rt Tryz.prog 28 [Pk sb,Pj (m:Int)].toArray w0 fun v w'=>Own w' w0.heap.size 3 c7 v (fY nx m)∧Ext w0 w':=by
 obtain⟨lo,G,mv,no,E,oo,oc,ao,ac,yo,yc,B,A,z,y,p,h1,h2,h3,h4,x⟩:=hR;have u:=gE n.row m;have r:yV nx m≤60:=by have:=n.row m;unfold yV;omega
 have d:=n.n;have f:nx.length=(gz nx nx.length).length:=atL_len.symm;have e:nx.length=(yx nx nx.length).length:=manyL_len.symm;refine dH Tryz.func28 Tryz.ntmps28 rfl rfl ?_;refine Qn ?_;rw[show Value.slice yo nx.length yc=.slice yo (yx nx nx.length).length yc by rw[←e]];refine eD (i:=m) rfl rfl rfl rfl rfl x OS (yy _) O3 (fun q=>?_);refine PS ?_;refine CW.loop (S:=Nat×Value) (fun s=>[(0,Pk sb),(1,Pj m),(5,s.2),(13,Pj ((yV nx m:Nat):Int)),(14,Pj s.1)])
  (fun s w=>s.1≤yV nx m∧Own w w0.heap.size 3 c7 s.2 ((List.range s.1).map fun i:Nat=>((gD nx m+i:Nat):Int))∧Ext w0 w) (fun s=>yV nx m -s.1) (0,.slice none 0 0) OR ⟨Nc _,Own.nil,Ext.refl _⟩ ?_
 rintro⟨i,ov⟩ D ⟨hi,b,a⟩
 dsimp only at hi b a⊢
 have p:=p.ext a;refine Qw ?_;apply CW.cond rfl<;>intro h
 ·have k:i<yV nx m:=by simp only[Om]at h;omega
  clear h;refine P2 ?_;rw[show Value.slice ao nx.length ac=.slice ao (gz nx nx.length).length ac by rw[←f]];refine eD (i:=m) rfl rfl rfl rfl rfl (h4.up a) OS (gA _) O3 (fun q=>?_);refine QW ?_;refine dY (α:=Int) (F:=c7) (bytes:=8) (yv:=((gD nx m:Nat):Int)+(i:Int)) rfl rfl O3 rfl rfl O3 b Pe a.size O6 OU (by unfold maxLen;simp;omega) OZ (fun ov' C q ho2 l o=>?_);have c:(List.range (i+1)).map (fun i:Nat=>((gD nx m+i:Nat):Int))=(List.range i).map (fun i:Nat=>((gD nx m+i:Nat):Int))++[((gD nx m:Nat):Int)+(i:Int)]:=by
   rw[Mb,LC];simp
  rw[←c]at ho2
  refine PI ?_;exact EX.back (i+1,ov') OR ⟨k,ho2,JH a l a.size (fun g t=>(b.lt g t).1)⟩ OX
 have j:i=yV nx m:=by simp only[Ok]at h;omega
 subst j;refine PG ?_;exact be rfl rfl ⟨b,a⟩
theorem Dx(w0:World){sb j:Nat}{sl:List cN}{nx:List (List cH)}(hR:RunAt w0 sb sl nx)(l:NxOk sl nx)(w:j<gD nx nx.length):
  Rt Tryz.prog 26 [Pk sb,Pj (j:Int)].toArray w0 fun v w'=>Own w' w0.heap.size 3 c7 v (zt nx j)∧Ext w0 w':=by
 have L:=hR;obtain⟨lo,lc,mv,no,nc,oo,oc,ao,ac,yo,yc,x1,x2,Z,Y,S,h1,h2,h3,h4,h5⟩:=hR;obtain⟨n,i,hn,hi,W,m,Q⟩:=Av l w;have X:=gE l.row n;have G:=l.n;have H:nx.length=(gz nx nx.length).length:=atL_len.symm;have D:gD nx nx.length=(Ap nx nx.length).length:=rfl;have I:(Ap nx nx.length)[j]'w=At nx j:=(rq w).symm;unfold zt;refine dH Tryz.func26 Tryz.ntmps26 rfl rfl ?_;refine Qn ?_;rw[D];refine eE (i:=j) rfl rfl rfl rfl rfl h3 w O3 (fun u q b=>?_);rw[I]at b
 rw[CZ b];clear b;skip;refine WL.alloc rfl rfl (fun w1 f O=>?_);skip;refine WL.st rfl rfl rfl f rfl rfl Pd (fun d f p=>?_);have e:Ext w0 d:=JH O p O.size O5;have S:=S.ext e;have hR:=L.up e;clear O p;refine QE ?_;by_cases a:(At nx j).1<0
 ·rw[Ol a,Ov a]
  refine P0 ?_;refine WL.lit (F:=c7) (ys:=[(j:Int)]) rfl rfl rfl rfl rfl (.cons Pe .nil) (by show 1*1≤16777216;decide) O6 (fun P E J=>?_);have N:Ext d P:=(JJ _ _).grown J Pf O_;refine PL ?_;exact be rfl rfl ⟨E.low e.size,e.trans N⟩
 rw[Oj a,Ou a];rcases Q with⟨Q,_⟩|⟨_,_,c,U⟩
 ·omega
 have K:=l.ed n hn _ (Lb c);rw[←rq c]at K
 have x:G9 nx j=(nx.getD n []).getD i (0,0):=by
  unfold G9;rw[m,Kd,show j -gD nx n=i by omega]
 rw[x];obtain⟨t,R⟩:∃t:Nat,((nx.getD n []).getD i (0,0)).2=(t:Int):=⟨((nx.getD n []).getD i (0,0)).2.toNat,by omega⟩;rw[R,Kd];rw[m]at f
 have g:∀z,(fun z:World=>Ext d z) z→Ext d z:=fun _ h=>h
 refine Qz ?_;refine aF (fun z:World=>Ext d z) [(0,true),(1,true),(2,true),(3,true),(4,true),(5,true),(6,true),(7,true),(8,true),(9,true),(10,true),(11,true),(12,true),(13,true),(14,true),(15,true),(16,true),(17,true),(18,true),(19,true),(20,true),(21,true),(22,true),(23,false),(24,true)] mixed OT (Ext.drew d) ?_;refine Ra ?_;refine b_ (k:=n) g rfl rfl rfl rfl rfl rfl rfl O8 (h2.up e) hn O3 (fun u q b=>?_);rw[←rx hn]at b
 obtain⟨ro,rc,rfl,V⟩:=b.sl;refine Ra ?_;rw[show Value.slice ao nx.length ac=.slice ao (gz nx nx.length).length ac by rw[←H]];refine b_ (k:=n) g rfl rfl rfl rfl rfl rfl rfl O8 (h4.up e) OS O3 (fun u q b=>?_);rw[gA]at b
 obtain rfl:=b.int;have o:(j:Int) -((gD nx n:Nat):Int)=(i:Int):=by omega
 have T:=gE l.row nx.length;refine Q_ ?_;rw[o];clear b;have B:(nx.getD n [])[i].2=(t:Int):=by rw[←rq c];exact R
 have A:t<nx.length:=by omega
 obtain⟨rb,rf,rfl,C,_,r⟩:=V.edge0 c;rw[B]at r
 refine cb (α:=cH) rfl rfl rfl rfl rfl OS OS ?_;refine Q4 ?_;refine HL.load (α:=Int) (F:=c7) (y:=(t:Int)) g rfl rfl rfl rfl C O6 (by rw[Kd];exact r) rfl ?_;rw[show Iu Int [Pj (t:Int)]=Pj (t:Int) from rfl];have M:=Ext.drew d;refine cu rfl (WL.call rfl rfl rfl (ga (drew d) (hR.up M) l A) ?_);rintro v P ⟨E,N⟩
 have s:=M.trans N;refine WL.nil (a_ s ?_);refine Rf ?_;refine Pz ?_;exact be rfl rfl ⟨E.low (by have:=M.size;have:=e.size;omega),e.trans s⟩
theorem Dt(w0:World){sb j:Nat}{sl:List cN}{nx:List (List cH)}(hR:RunAt w0 sb sl nx)(m:NxOk sl nx)(e:j<gD nx nx.length):
  Rt Tryz.prog 27 [Pk sb,Pj (j:Int)].toArray w0 fun v w'=>v=.int .u64 ((xl sl nx j:Nat):Int)∧xl sl nx j<18446744073709551616∧Ext w0 w':=by
 obtain⟨lo,G,mv,no,E,oo,oc,ao,ac,yo,yc,C,B,A,z,H,h1,h2,h3,h4,I⟩:=hR;obtain⟨n,i,hn,hi,u,p,l⟩:=Av m e;have g:(Ap nx nx.length)[j]'e=At nx j:=(rq e).symm;obtain⟨ob,off,rfl,f,b,h⟩:=h3.edge0 e;rw[g]at b h
 unfold xl;refine dH Tryz.func27 Tryz.ntmps27 rfl rfl ?_;refine Qn ?_;refine eJ (α:=cH) rfl rfl rfl rfl OS OS ?_;refine QR ?_;refine WL.load (α:=Int) (F:=c7) (y:=(At nx j).1) rfl rfl rfl (by rw[Kd];exact b) rfl ?_;rw[show Iu Int [Pj (At nx j).1]=Pj (At nx j).1 from rfl];refine Pv ?_;by_cases a:(At nx j).1<0
 ·rw[Ol a,Ov a]
  refine Qr ?_;exact be rfl rfl ⟨rfl,by decide,Ext.refl _⟩
 rw[Oj a,Ou a];rcases l with⟨l,_⟩|⟨g0,g1,w,o⟩
 ·omega
 obtain⟨k,t⟩:∃k:Nat,(At nx j).1=(k:Int):=⟨(At nx j).1.toNat,by omega⟩;rw[t]at b g1⊢
 rw[Kd];have c:k<sl.length:=by omega
 obtain⟨lb,lf,rfl,hlb,d⟩:=h1.step0 c;have r:=m.node _ (Lb c);rw[ry c];obtain⟨s,q⟩:∃s:Nat,sl[k].1=(s:Int):=⟨(sl[k].1).toNat,by omega⟩;rw[q]at d⊢
 rw[Kd];refine QK ?_;refine dq (α:=cH) rfl rfl rfl rfl OS OS ?_;refine QT ?_;refine QL.load (α:=Int) (F:=c7) (y:=(k:Int)) rfl rfl rfl f O6 (by rw[Kd];exact b) rfl ?_;rw[show Iu Int [Pj (k:Int)]=Pj (k:Int) from rfl];skip;refine dq (α:=cN) rfl rfl rfl rfl OS OS ?_;refine QT ?_;refine QL.load (α:=Int) (F:=c7) (y:=(s:Int)) rfl rfl rfl hlb O6 (by rw[Kd];exact d) rfl ?_;rw[show Iu Int [Pj (s:Int)]=Pj (s:Int) from rfl];refine QP ?_;rw[Fm (show s<62 by omega)];refine QL.nil fun D x=>?_
 refine Pz ?_;refine be rfl rfl ⟨rfl,?_,x⟩;have h2:(2:Nat) ^ s<2 ^ 64:=M5 OU OS;exact h2
theorem gl{l:List cH}{p:cH→Bool}{i:Nat}(h:i<l.length):(l.take (i+1)).any p=((l.take i).any p||p l[i]):=by
 rw[Mj,KX h,Kg];simp
set_option maxHeartbeats 1000000 in
theorem oP(w0:World){sb k:Nat}{sl:List cN}{nx:List (List cH)}(hR:RunAt w0 sb sl nx)(H:NxOk sl nx):
  Rt Tryz.prog 29 [Pk sb,Pj (k:Int)].toArray w0 fun v w'=>Own w' w0.heap.size 3 c7 v (oE nx (k:Int))∧Ext w0 w':=by
 obtain⟨lo,lc,mv,no,nc,oo,oc,ao,ac,yo,yc,x1,x2,x3,x4,Y,h1,h2,h3,h4,h5⟩:=hR;have hat:=gE H.row nx.length;have L:=H.n;have hol:(Ap nx nx.length).length=gD nx nx.length:=rfl;refine dH Tryz.func29 Tryz.ntmps29 rfl rfl ?_;refine QH ?_;refine CW.loop (S:=Nat×Value) (fun s=>[(0,Pk sb),(1,Pj k),(5,s.2),(14,.slice oo (Ap nx nx.length).length oc),(15,Pj (gD nx nx.length:Nat)),(16,Pj s.1)])
  (fun s w=>s.1≤gD nx nx.length∧Own w w0.heap.size 3 c7 s.2 (oG nx (k:Int) s.1)∧Ext w0 w) (fun s=>gD nx nx.length -s.1) (0,.slice none 0 0) OR ⟨Nc _,Own.nil,Ext.refl _⟩ ?_
 rintro⟨j,ov⟩ X ⟨N,A,D⟩
 dsimp only at N A D⊢
 refine Qw ?_;apply CW.cond rfl<;>intro h
 ·have o:j<gD nx nx.length:=by simp only[Om]at h;omega
  clear h;have O:(Ap nx nx.length)[j]'o=At nx j:=(rq o).symm;obtain⟨n,i,hn,hi,hji,z,hx⟩:=Av H o;have hfl:=oH (nx:=nx) (k:=(k:Int)) (n:=j);have a:=oI (nx:=nx) (k:=(k:Int)) (n:=j);refine Qv ?_;refine eE (i:=j) rfl rfl rfl rfl rfl (h3.up D) o O3 (fun u q d=>?_);rw[O]at d
  rw[CZ d];clear d;skip;refine WL.alloc rfl rfl (fun w2 b T=>?_);refine QO ?_;refine WL.st rfl rfl rfl b rfl rfl Pd (fun w3 b C=>?_);have R:Ext X w3:=JH T C T.size O5;have E:=D.trans R;have Y:=Y.ext E;have ho3:=A.extN R;clear T C;rw[z]at b
  have f:ja nx j (k:Int)=(nx.getD n []).any fun y=>y.1==(k:Int):=by unfold ja;rw[z,Kd]
  refine QJ ?_;refine dn (i:=n) rfl rfl rfl rfl rfl O8 (h2.up E) hn O3 (fun u q d=>?_);rw[←rx hn]at d
  obtain⟨ro,rc,rfl,hr⟩:=d.sl;clear d;refine Q0 ?_;refine QL.nil fun w4 I=>?_
  have V:=R.trans I;have K:=hr.up I;have b:=b.ext I;have ho4:=ho3.extN I;have hrl:=H.row n;generalize nx.getD n []=row at*
  refine Qo ?_;refine CW.loop (S:=Nat) (fun s=>[(0,Pk sb),(1,Pj k),(5,ov),(6,Pj j),(7,Pk X.heap.size),(8,.bool ((row.take s).any fun y=>y.1==(k:Int))),(14,.slice oo (Ap nx nx.length).length oc),(15,Pj (gD nx nx.length:Nat)),(16,Pj j),(29,.slice ro row.length rc),(30,Pj row.length),(31,Pj s)])
   (fun s w=>s≤row.length∧Ext w4 w) (fun s=>row.length -s) 0 OR ⟨Nc _,Ext.refl _⟩ ?_
  rintro r w5 ⟨hr0,x⟩
  refine Qw ?_;apply CW.cond rfl<;>intro h
  ·have e:r<row.length:=by simp only[Om]at h;omega
   clear h;have m:=gl (p:=fun y=>y.1==(k:Int)) e;refine Qo ?_;refine eE (i:=r) rfl rfl rfl rfl rfl (K.up x) e O3 (fun u q d=>?_);rw[CZ d];clear d;generalize row[r]=ed at*
   generalize (row.take r).any (fun y=>y.1==(k:Int))=can at*
   skip;refine WL.alloc rfl rfl (fun W l e6=>?_);skip;refine WL.st rfl rfl rfl l rfl rfl Pd (fun w7 l P=>?_);have Z:Ext w5 w7:=JH e6 P e6.size O5;cases can with
   |true=>
    refine QF ?_;refine EX.back (r+1) ?_ ⟨e,x.trans Z⟩ OS;rw[m,J1];exact OR
   |false=>
    refine PQ ?_;refine EX.back (r+1) ?_ ⟨e,x.trans Z⟩ OS;rw[m,JR];exact OR
  have J:r=row.length:=by simp only[Ok]at h;omega
  subst J;rw[Ml,←f];have b:=b.ext x;have ho5:=ho4.extN x;have U:=V.trans x;have c:=D.trans U;unfold vv at a
  clear h f;generalize ja nx j (k:Int)=can at*
  have app:∀(hf:oG nx (k:Int) (j+1)=oG nx (k:Int) j++[(j:Int)]),True:=fun _=>trivial
  cases can with
  |false=>
   rw[JU,J1,Ov rfl]at a
   refine Ql ?_;refine dY (α:=Int) (F:=c7) (bytes:=8) (yv:=(j:Int)) rfl rfl O3 rfl rfl O3 ho5 Pe c.size O6 OU OY OS (fun ov' W q ho6 t B=>?_);rw[←a]at ho6
   refine PI ?_;exact EX.back (j+1,ov') OR ⟨o,ho6,JH c t c.size (fun g Q=>(A.lt g Q).1)⟩ OX
  |true=>
   rw[JV,JR]at a
   refine Qc ?_;by_cases G:(At nx j).1=(k:Int)
   ·rw[show((At nx j).1==(k:Int))=true by rw[G];exact Oc _,Ov rfl]at a
    rw[show((At nx j).1==(k:Int))=true by rw[G];exact Oc _];refine P0 ?_;refine dY (α:=Int) (F:=c7) (bytes:=8) (yv:=(j:Int)) rfl rfl O3 rfl rfl O3 ho5 Pe c.size O6 OU OY OS (fun ov' W q ho6 t B=>?_);rw[←a]at ho6
    refine PI ?_;exact EX.back (j+1,ov') OR ⟨o,ho6,JH c t c.size (fun g Q=>(A.lt g Q).1)⟩ OX
   ·rw[show((At nx j).1==(k:Int))=false by simpa using G,Ou OW,Kk]at a
    rw[show((At nx j).1==(k:Int))=false by simpa using G];rw[←a]at ho5
    refine QD ?_;exact EX.back (j+1,ov) OR ⟨o,ho5,c⟩ OX
 have M:j=gD nx nx.length:=by simp only[Ok]at h;omega
 subst M;refine PG ?_;exact be rfl rfl ⟨A,D⟩
theorem eZ{P:Program}{Q:Exit→Act→World→Prop}{n:Nat}{σ:Sg}{w:World}{L rest:List Oper}{d:Nat}{ty:TypeId}{pos:String}{af:Array Edge}{g:Option (Nat×Bool)}{x y:Operand}{a c:Int}{b:Array TypeId}
  (k:gd L σ ⟨some d,.call ⟨.builtin .max,#[x,y],b⟩,ty,pos,af,g⟩=some true) (hd:Nat.ble (d+1) n=true) (j:ev σ x=some (Pj a)) (i:ev σ y=some (Pj c))
  (h:WL P L Q rest n ((d,Pj (max a c))::σ) w):WL P L Q (⟨some d,.call ⟨.builtin .max,#[x,y],b⟩,ty,pos,af,g⟩::rest) n σ w:=by
 refine WL.run k hd (fun u f=>?_) h;have e:(if a<c then c else a)=max a c:=by omega
 simp[execOp,resolve,invoke,builtin,f.ev j,f.ev i,run_max_int2,e]
structure Fld3(w:World)(B sb:Nat)(ov av yv:Value)(os:List cH)(bs ys:List Int):Prop where
 o:Own w B 109 c7 ov os
 a:Own w B 3 c7 av bs
 y:Own w B 3 c7 yv ys
 oa:∀g,ov.ownBlock=some g→av.ownBlock≠some g
 oy:∀g,ov.ownBlock=some g→yv.ownBlock≠some g
 ay:∀g,av.ownBlock=some g→yv.ownBlock≠some g
 sb:sb<B
section
variable {w w0 w1 w2:World}{B sb:Nat}{ov av yv ov' av' yv':Value}{os os':List cH}{bs ys bs' ys':List Int}
theorem Fld3.ext(h:Fld3 w B sb ov av yv os bs ys)(a:Ext w w1):Fld3 w1 B sb ov av yv os bs ys:=⟨h.o.extN a,h.a.extN a,h.y.extN a,h.oa,h.oy,h.ay,h.sb⟩
theorem Fld3.setO(h:Fld3 w B sb ov av yv os bs ys)(k:B=w0.heap.size)(j:Chg (fun b=>b=sb) w0 w)(f:Own w1 B 109 c7 ov' os')(a:w.grownBy w1 ov.ownBlock)(hnb:∀g,ov'.ownBlock=some g→ov.ownBlock=some g∨w.heap.size≤g)(c:w1.grownBy w2 (some sb)):
  Fld3 w2 B sb ov' av yv os' bs ys∧Chg (fun b=>b=sb) w0 w2:=by
 have d:=h.sb;refine⟨⟨f.keptN c (fun g a e=>by have:=(f.lt g a).1;have:=Nn e;omega),(h.a.keptN a (fun g a e=>h.oa g e.symm a)).keptN c (fun g a e=>by have:=(h.a.lt g a).1;have:=Nn e;omega),(h.y.keptN a (fun g a e=>h.oy g e.symm a)).keptN c (fun g a e=>by have:=(h.y.lt g a).1;have:=Nn e;omega),fun g a e=>?_,fun g a e=>?_,h.ay,d⟩,?_⟩
 ·rcases hnb g a with h1|h1
  ·exact h.oa g h1 e
  ·have:=(h.a.lt g e).2.1;omega
 ·rcases hnb g a with h1|h1
  ·exact h.oy g h1 e
  ·have:=(h.y.lt g e).2.1;omega
 ·exact(j.then (Chg.of_grown a) (fun b i=>.inr (by have:=(h.o.lt b i).1;omega))).grown c (fun g a=>by cases a;rfl)
theorem Fld3.setA(h:Fld3 w B sb ov av yv os bs ys)(k:B=w0.heap.size)(j:Chg (fun b=>b=sb) w0 w)(f:Own w1 B 3 c7 av' bs')(a:w.grownBy w1 av.ownBlock)(hnb:∀g,av'.ownBlock=some g→av.ownBlock=some g∨w.heap.size≤g)(c:w1.grownBy w2 (some sb)):
  Fld3 w2 B sb ov av' yv os bs' ys∧Chg (fun b=>b=sb) w0 w2:=by
 have d:=h.sb;refine⟨⟨(h.o.keptN a (fun g a e=>h.oa g a e.symm)).keptN c (fun g a e=>by have:=(h.o.lt g a).1;have:=Nn e;omega),f.keptN c (fun g a e=>by have:=(f.lt g a).1;have:=Nn e;omega),(h.y.keptN a (fun g a e=>h.ay g e.symm a)).keptN c (fun g a e=>by have:=(h.y.lt g a).1;have:=Nn e;omega),fun g a e=>?_,h.oy,fun g a e=>?_,d⟩,?_⟩
 ·rcases hnb g e with h1|h1
  ·exact h.oa g a h1
  ·have:=(h.o.lt g a).2.1;omega
 ·rcases hnb g a with h1|h1
  ·exact h.ay g h1 e
  ·have:=(h.y.lt g e).2.1;omega
 ·exact(j.then (Chg.of_grown a) (fun b i=>.inr (by have:=(h.a.lt b i).1;omega))).grown c (fun g a=>by cases a;rfl)
theorem Fld3.setY(h:Fld3 w B sb ov av yv os bs ys)(k:B=w0.heap.size)(j:Chg (fun b=>b=sb) w0 w)(f:Own w1 B 3 c7 yv' ys')(a:w.grownBy w1 yv.ownBlock)(hnb:∀g,yv'.ownBlock=some g→yv.ownBlock=some g∨w.heap.size≤g)(c:w1.grownBy w2 (some sb)):
  Fld3 w2 B sb ov av yv' os bs ys'∧Chg (fun b=>b=sb) w0 w2:=by
 have d:=h.sb;refine⟨⟨(h.o.keptN a (fun g a e=>h.oy g a e.symm)).keptN c (fun g a e=>by have:=(h.o.lt g a).1;have:=Nn e;omega),(h.a.keptN a (fun g a e=>h.ay g a e.symm)).keptN c (fun g a e=>by have:=(h.a.lt g a).1;have:=Nn e;omega),f.keptN c (fun g a e=>by have:=(f.lt g a).1;have:=Nn e;omega),h.oa,fun g a e=>?_,fun g a e=>?_,d⟩,?_⟩
 ·rcases hnb g e with h1|h1
  ·exact h.oy g a h1
  ·have:=(h.o.lt g a).2.1;omega
 ·rcases hnb g e with h1|h1
  ·exact h.ay g a h1
  ·have:=(h.a.lt g a).2.1;omega
 ·exact(j.then (Chg.of_grown a) (fun b i=>.inr (by have:=(h.y.lt b i).1;omega))).grown c (fun g a=>by cases a;rfl)
end
theorem gB{nx:List (List cH)}{k:Nat}:gz nx (k+1)=gz nx k++[((gD nx k:Nat):Int)]:=by unfold gz;rw[Mb,LC];rfl
theorem yz{nx:List (List cH)}{k:Nat}:yx nx (k+1)=yx nx k++[((yV nx k:Nat):Int)]:=by unfold yx;rw[Mb,LC];rfl
set_option maxHeartbeats 2000000 in
theorem F7(w0:World){F:Nat→Prop}{sb:Nat}{lV mV U T R Q:Value}{no:Option Addr}{y:Nat}{nx:List (List cH)}
  (a:Blk w0 sb 90 [lV,mV,.slice no nx.length y,.slice none 0 0,.slice none 0 0,.slice none 0 0,U,T,R,Q]) (hn:Sl w0 F no y nx) (hF:∀b,F b→b<w0.heap.size∧b≠sb) (D:∀j,(nx.getD j []).length≤60) (hn200:nx.length≤200):
  Rt Tryz.prog 25 [Pk sb].toArray w0 fun v w'=>v=.bool (decide (gD nx nx.length≤600))∧∃ov av yv,Blk w' sb 90 [lV,mV,.slice no nx.length y,ov,av,yv,U,T,R,Q]∧
   Fld3 w' w0.heap.size sb ov av yv (Ap nx nx.length) (gz nx nx.length) (yx nx nx.length)∧Chg (fun b=>b=sb) w0 w':=by
 have W:=a.lt;refine dG Tryz.func25 Tryz.ntmps25 rfl rfl ?_;refine QH ?_;refine CW.loop (S:=Nat×Value×Value×Value) (fun s=>[(0,Pk sb),(11,.slice no nx.length y),(12,Pj nx.length),(13,Pj s.1)])
  (fun s w=>s.1≤nx.length∧Blk w sb 90 [lV,mV,.slice no nx.length y,s.2.1,s.2.2.1,s.2.2.2,U,T,R,Q]∧Fld3 w w0.heap.size sb s.2.1 s.2.2.1 s.2.2.2 (Ap nx s.1) (gz nx s.1) (yx nx s.1)∧Chg (fun b=>b=sb) w0 w)
  (fun s=>nx.length -s.1) (0,.slice none 0 0,.slice none 0 0,.slice none 0 0) OR ⟨Nc _,a,⟨Own.nil,Own.nil,Own.nil,(fun g o=>by cases o),(fun g o=>by cases o),(fun g o=>by cases o),W⟩,Chg.refl _ _⟩ ?_
 clear a;rintro⟨n,ov,av,yv⟩ w1 ⟨hi,a,hf,c⟩
 dsimp only at hi a hf c⊢
 have z1:=c.size;obtain⟨oo,oc,rfl⟩:=hf.o.val;have hatn:=gE D n;have I:(Ap nx n).length=gD nx n:=rfl;rw[I]at a
 refine Qw ?_;apply CW.cond rfl<;>intro h
 ·have L:n<nx.length:=by simp only[Om]at h;omega
  clear h;have hnF:∀{w:World},Chg (fun b=>b=sb) w0 w→Sl w F no y nx:=fun h=>hn.mono (fun b a=>h.block b (hF b a).1 (hF b a).2) O8
  have hFl:∀{w:World},Chg (fun b=>b=sb) w0 w→∀b,F b→b<w.heap.size:=fun h b a=>MQ (hF b a).1 h.size
  obtain⟨ao,ac,rfl⟩:=hf.a.val;have K:=fun g o=>hf.a.lt g o
  have hal:(gz nx n).length=n:=atL_len;have hrl:=D n;refine Qv ?_;refine eE (i:=n) rfl rfl rfl rfl rfl (hnF c) L O3 (fun u q P=>?_);rw[←rx L]at P
  obtain⟨V,rc,rfl,hr⟩:=P.sl;clear P;refine Qw ?_;have p:Ext w1 (drew w1):=Ext.drew w1;have C:=a.ext p;have hKs:∀u,(fun z:World=>∀b,b<w1.heap.size→(Value.slice ao (gz nx n).length ac).ownBlock≠some b→z.heap[b]?=(drew w1).heap[b]?) u→u.heap[sb]?=(drew w1).heap[sb]?:=fun u h=>h _ OS (fun e=>by have:=K _ e;omega)
  skip;refine aE (fun z:World=>∀b,b<w1.heap.size→(Value.slice ao (gz nx n).length ac).ownBlock≠some b→z.heap[b]?=(drew w1).heap[b]?) [(0,true),(1,true),(2,true),(3,true),(4,true),(5,true),(6,true),(7,true),(8,true),(9,true),(10,false),(11,false),(12,false),(13,false)] 14 mixed OT (fun _ _ _=>rfl) ?_;refine Q_ ?_;refine bV (α:=Int) (F:=c7) (bytes:=8) (yv:=((gD nx n:Nat):Int)) rfl rfl rfl rfl O3 rfl rfl O3 (hf.a.extN p) Pe (by have:=p.size;omega) O6 OU OY OS
   (fun z hz b a d=>hz.block b a (fun e=>d e.symm)) (fun av' w2 q2 ho2 A E=>?_)
  rw[←gB]at ho2
  have hb2:=C.kept A (fun e=>by have:=K _ e.symm;omega);have N:(fun z:World=>∀b,b<w1.heap.size→(Value.slice ao (gz nx n).length ac).ownBlock≠some b→z.heap[b]?=(drew w1).heap[b]?) w2:=fun b a d=>A.block b a (fun e=>d e.symm)
  obtain⟨ao',ac',rfl⟩:=ho2.val;refine cu rfl (fi rfl rfl rfl (WL.nil (a_ N ?_)));refine cu rfl (eI rfl rfl rfl (WL.nil (a_ N (HL.nil ?_))));refine bm rfl (WL.st rfl rfl rfl hb2 rfl rfl Pd (fun w3 hb3 hg3=>WL.nil (bp ?_)));obtain⟨hf3,O⟩:=(hf.ext p).setA rfl (c.trans (Chg.of_ext _ p)) ho2 A E hg3;have hr3:Sl w3 F V rc (nx.getD n []):=hr.mono (fun b a=>(O.block b (hF b a).1 (hF b a).2).trans (c.block b (hF b a).1 (hF b a).2).symm) O8;clear hKs N p C hb2 A hg3 ho2 E hf K c a hr z1;have X:Ap nx (n+1)=Ap nx n++Ar (nx.getD n []) n:=Aq;have hmn:yx nx (n+1)=yx nx n++[((max 1 (nx.getD n []).length:Nat):Int)]:=yz;generalize nx.getD n []=row at*
  have hrF:∀{w:World},Chg (fun b=>b=sb) w0 w→Sl w F V rc row:=fun h=>hr3.mono (fun b a=>(h.block b (hF b a).1 (hF b a).2).trans (O.block b (hF b a).1 (hF b a).2).symm) O8
  apply bx;refine Qp ?_;refine CW.loop (S:=Nat×Value) (fun s=>[(0,Pk sb),(3,Pj n),(4,.slice V row.length rc),(11,.slice no nx.length y),(12,Pj nx.length),(13,Pj n),(32,.slice V row.length rc),(33,Pj row.length),(34,Pj s.1)])
   (fun s w=>s.1≤row.length∧Blk w sb 90 [lV,mV,.slice no nx.length y,s.2,.slice ao' (gz nx (n+1)).length ac',yv,U,T,R,Q]∧Fld3 w w0.heap.size sb s.2 (.slice ao' (gz nx (n+1)).length ac') yv (Ap nx n++(row.take s.1).map fun x=>(x.1,(n:Int))) (gz nx (n+1)) (yx nx n)∧Chg (fun b=>b=sb) w0 w)
   (fun s=>row.length -s.1) (0,.slice oo (Ap nx n).length oc) OR ⟨Nc _,hb3,by simpa using hf3,O⟩ ?_
  clear hb3 hf3;rintro⟨r,ov⟩ w4 ⟨hr0,a,hf,c⟩
  dsimp only at hr0 a hf c⊢
  have z4:=c.size;refine Qw ?_;apply CW.cond rfl<;>intro h
  ·have G:r<row.length:=by simp only[Om]at h;omega
   clear h;have hnx:Ap nx n++(row.take (r+1)).map (fun x:cH=>(x.1,(n:Int)))=(Ap nx n++(row.take r).map (fun x:cH=>(x.1,(n:Int))))++[(row[r].1,(n:Int))]:=by
    rw[Mj,KX G,LC,Kj];rfl
   have hln:(Ap nx n++(row.take r).map (fun x:cH=>(x.1,(n:Int)))).length=gD nx n+r:=by
    rw[Lk,Lq,Lz,I];omega
   obtain⟨oo,oc,rfl⟩:=hf.o.val;have m:=fun g o=>hf.o.lt g o
   refine Qo ?_;refine eE (i:=r) rfl rfl rfl rfl rfl (hrF c) G O3 (fun u q P=>?_);rw[CZ P];clear P;generalize row[r]=ed at*
   skip;refine WL.alloc rfl rfl (fun w5 f e5=>?_);skip;refine WL.st rfl rfl rfl f rfl rfl Pd (fun k f l=>?_);have e6:Ext w4 k:=JH e5 l e5.size O5;have z6:=e6.size;have a:=a.ext e6;have hf:=hf.ext e6;have c:=c.trans (Chg.of_ext _ e6);have l6:=f.lt;clear e5 l;have p:Ext k (drew k):=Ext.drew k;have C:=a.ext p;have hb6d:=f.ext p;generalize hOV:Ap nx n++(row.take r).map (fun x:cH=>(x.1,(n:Int)))=OV at*
   have hKs:∀u,(fun z:World=>∀b,b<k.heap.size→(Value.slice oo OV.length oc).ownBlock≠some b→z.heap[b]?=(drew k).heap[b]?) u→u.heap[sb]?=(drew k).heap[sb]?:=fun u h=>h _ OS (fun e=>by have:=m _ e;omega)
   have hK6:∀u,(fun z:World=>∀b,b<k.heap.size→(Value.slice oo OV.length oc).ownBlock≠some b→z.heap[b]?=(drew k).heap[b]?) u→u.heap[w4.heap.size]?=(drew k).heap[w4.heap.size]?:=fun u h=>h _ OS (fun e=>by have:=(m _ e).2.1;omega)
   refine QB ?_;refine aE (fun z:World=>∀b,b<k.heap.size→(Value.slice oo OV.length oc).ownBlock≠some b→z.heap[b]?=(drew k).heap[b]?) [(0,true),(1,true),(2,true),(3,true),(4,true),(5,true),(6,true),(7,true),(8,true),(9,false),(10,false),(11,false),(12,false)] 13 mixed OT (fun _ _ _=>rfl) ?_;refine Q_ ?_;refine bV (α:=cH) (F:=c7) (bytes:=16) (yv:=(ed.1,(n:Int))) rfl rfl rfl rfl O3 rfl rfl O3 (hf.o.extN p) (Rd.mkPr (c1:=[Pj ed.1]) (c2:=[Pj (n:Int)]) (C2 _ _ _) (C2 _ _ _)) (by have:=p.size;omega) O6 OU OY OS
    (fun z hz b a d=>hz.block b a (fun e=>d e.symm)) (fun ov' w7 q2 ho7 t Y=>?_)
   rw[←hnx]at ho7
   have M:=C.kept t (fun e=>by have:=m _ e.symm;omega);have hS7:(fun z:World=>∀b,b<k.heap.size→(Value.slice oo OV.length oc).ownBlock≠some b→z.heap[b]?=(drew k).heap[b]?) w7:=fun b a d=>t.block b a (fun e=>d e.symm)
   obtain⟨oo',oc',rfl⟩:=ho7.val;refine cu rfl (fi rfl rfl rfl (WL.nil (a_ hS7 ?_)));refine cu rfl (eI rfl rfl rfl (WL.nil (a_ hS7 (HL.nil ?_))));refine bm rfl (WL.st rfl rfl rfl M rfl rfl Pd (fun w8 hb8 hg8=>WL.nil (bp ?_)));obtain⟨hf8,hC8⟩:=(hf.ext p).setO rfl (c.trans (Chg.of_ext _ p)) ho7 t Y hg8;refine PI ?_;exact EX.back (r+1,_) OR ⟨G,hb8,hf8,hC8⟩ OX
  have hre:r=row.length:=by simp only[Ok]at h;omega
  subst hre;rw[Ml]at hf
  clear h;have hln:(Ap nx n++row.map (fun x:cH=>(x.1,(n:Int)))).length=gD nx n+row.length:=by
   rw[Lk,Lq,I]
  obtain⟨oo,oc,rfl⟩:=hf.o.val;have m:=fun g o=>hf.o.lt g o
  apply CW.exit
  repeat (first|apply bA|apply aZ|apply bx)
  refine aB (S:=Option Addr×Nat) (fun _=>[(0,Pk sb),(4,.slice V row.length rc),(11,.slice no nx.length y),(12,Pj nx.length),(13,Pj n)])
   (fun s w=>Blk w sb 90 [lV,mV,.slice no nx.length y,.slice s.1 (Ap nx (n+1)).length s.2,.slice ao' (gz nx (n+1)).length ac',yv,U,T,R,Q]∧Fld3 w w0.heap.size sb (.slice s.1 (Ap nx (n+1)).length s.2) (.slice ao' (gz nx (n+1)).length ac') yv (Ap nx (n+1)) (gz nx (n+1)) (yx nx n)∧Chg (fun b=>b=sb) w0 w) ?_ ?_
  ·by_cases h0:row=[]
   ·have H:Ap nx (n+1)=(Ap nx n++row.map (fun x:cH=>(x.1,(n:Int))))++[(-1,(n:Int))]:=by
     rw[X];unfold Ar;rw[Ov h0,h0];simp
    have J:((row.length:Int)==0)=true:=by rw[h0];rfl
    generalize Ap nx n++row.map (fun x:cH=>(x.1,(n:Int)))=OV at*
    refine Qp ?_;rw[J];refine P3 ?_;refine WL.build rfl rfl rfl rfl ?_;refine dY (α:=cH) (F:=c7) (bytes:=16) (yv:=(-1,(n:Int))) rfl rfl O3 rfl rfl O3 hf.o (Rd.mkPr (c1:=[Pj (-1)]) (c2:=[Pj (n:Int)]) (C2 _ _ _) (C2 _ _ _)) z4 O6 OU OY OS (fun ov' w5 q ho5 hg5 hnb5=>?_);rw[←H]at ho5
    have hb5:=a.kept hg5 (fun e=>by have:=m _ e.symm;omega);obtain⟨oo',oc',rfl⟩:=ho5.val;refine QQ ?_;refine WL.st rfl rfl rfl hb5 rfl rfl Pd (fun k f l=>?_);obtain⟨hf6,hC6⟩:=hf.setO rfl c ho5 hg5 hnb5 l;refine QB ?_;exact aU (oo',oc') OR ⟨f,hf6,hC6⟩
   ·have H:Ap nx (n+1)=Ap nx n++row.map (fun x:cH=>(x.1,(n:Int))):=by
     rw[X];unfold Ar;rw[Ou h0]
    have J:((row.length:Int)==0)=false:=by
     have:0<row.length:=Ls.2 h0;have:(row.length:Int)≠0:=by omega
     simpa using this
    rw[←H]at hf a
    refine Qp ?_;rw[J];refine Qz ?_;exact aU (oo,oc) OR ⟨a,hf,c⟩
  clear a hf m c z4;rintro⟨oo,oc⟩ w5 ⟨a,hf,c⟩
  dsimp only at a hf c
  have z5:=c.size;obtain⟨yo,yc,rfl⟩:=hf.y.val;have hly:=fun g o=>hf.y.lt g o
  have hyl:(yx nx n).length=n:=manyL_len;refine QH ?_;refine eZ rfl rfl rfl rfl ?_;rw[show max (1:Int) (row.length:Int)=((max 1 row.length:Nat):Int) by omega];refine dY (α:=Int) (F:=c7) (bytes:=8) (yv:=((max 1 row.length:Nat):Int)) rfl rfl O3 rfl rfl O3 hf.y Pe z5 O6 OU OY OS (fun yv' k q ho6 l Z=>?_);rw[←hmn]at ho6
  have f:=a.kept l (fun e=>by have:=hly _ e.symm;omega);obtain⟨yo',yc',rfl⟩:=ho6.val;refine QQ ?_;refine WL.st rfl rfl rfl f rfl rfl Pd (fun w7 M t=>?_);obtain⟨hf7,hC7⟩:=hf.setY rfl c ho6 l Z t;refine PI ?_;exact EX.back (n+1,_,_,_) OR ⟨L,M,hf7,hC7⟩ OX
 have d:n=nx.length:=by simp only[Ok]at h;omega
 subst d;have hde:decide (((gD nx nx.length:Nat):Int)≤600)=decide (gD nx nx.length≤600):=by
  by_cases h:gD nx nx.length≤600
  ·rw[Ol h,Ol OS]
  ·rw[Oj h,Oj OS]
 rw[←hde];refine Qc ?_;exact be rfl rfl ⟨rfl,_,_,_,a,hf,c⟩
theorem Di{fn:Func}{a u s:Nat}{t:TypeId}(h:fn.results=#[.cell a t,.tmp u,.tmp s])(tmps:Array Value)(P:Program)(w:World){p:Addr}{v:Value}(b:tmps.getD a undef=.pointer (some p))(c:(loadVar t p).run P w=.ok v w):
  (results fn tmps).run P w=.ok (.tuple ⟨[v,tmps.getD u undef,tmps.getD s undef]⟩) w:=by
 simp only[Jt]at b⊢
 simp[results,h,b,asAddr,c]
theorem bi{P:Program}{n:Nat}{σ:Sg}{w:World}{fn:Func}{a b u s:Nat}{t e:TypeId}{cells:List Value}{k:Nat}{x y:Value}{R:Value→World→Prop}(o:fn.results=#[.cell a t,.tmp u,.tmp s])(r:fnd σ a=some (Pk b))(g:fnd σ u=some x)(m:fnd σ s=some y)[p:IsC P t k true](q:Blk w b e cells)(l:xG cells=k)(h:R (.tuple ⟨[.agg cells.toArray,x,y]⟩) w):
  EX (bodyPost P fn fun e w'=>∃v,e=.returned v∧R v w') .ret n σ w:=by
 unfold EX;intro ac c
 refine Of (Di o _ _ _ (c.slot a _ r) (v:=.agg cells.toArray) ?_) c.defers ⟨_,by rw[c.slot u x g,c.slot s y m],h⟩;rw[xH]at l
 have d:=OF (P:=P) w ⟨b,0,none⟩ cells (fun j u g=>by rw[N6,Nb];exact q.cell g);obtain⟨i,dd,h1,h2,h3,h4⟩:=p.ok;have f:(isAgg t).run P w=.ok true w:=by
  unfold isAgg;rw[Nv,OI h3 w,←h4];cases dd<;>rfl
 rw[l]at d
 simp[loadVar,f,sizeOf,typeInfo,h1,h2,d]
structure WorldAt(w:World)(F:Nat→Prop)(v:Value)(A:cR):Prop where
 ok:∃a1 c1 a2 c2 a3 c3 a4 c4,v=I2 a1 c1 a2 c2 a3 c3 a4 c4 A.1.length A.2.1.length A.2.2.1.length A.2.2.2.length∧Sl w F a1 c1 A.1∧Sl w F a2 c2 A.2.1∧Sl w F a3 c3 A.2.2.1∧Sl w F a4 c4 A.2.2.2
theorem CI{α:Type}{f:Nat→α}{n:Nat}:(List.range (n+1)).map f=(List.range n).map f++[f n]:=by rw[Mb,LC];rfl
theorem zE(w:World)(F:Nat→Prop):WorldAt w F (.agg #[.slice none 0 0,.slice none 0 0,.slice none 0 0,.slice none 0 0]) zD:=
 ⟨none,0,none,0,none,0,none,0,rfl,Sl.zero w _,Sl.zero w _,Sl.zero w _,Sl.zero w _⟩
set_option maxHeartbeats 4000000 in
theorem Ex(w0:World){so fo:Option Addr}{sc fc:Nat}{ns:List cJ}{fl:List cI}(hs:Sl w0 (c9 w0) so sc ns)(hf:Sl w0 (c9 w0) fo fc fl)(tok st:Int):
  Rt Tryz.prog 9 [Ck so sc fo fc ns.length fl.length,Pj tok,Pj st].toArray w0 fun v w'=>(∃x oo oc,v=.tuple ⟨[x,.slice oo (Eu (ns,fl) tok st).1.2.length oc,Pj (Eu (ns,fl) tok st).2]⟩∧WorldAt w' (c9 w') x (Eu (ns,fl) tok st).1.1∧Sl w' (c9 w') oo oc (Eu (ns,fl) tok st).1.2)∧Ext w0 w':=by
 refine dI Tryz.func9 Tryz.ntmps9 rfl rfl ?_;have U:=Ext.refl w0;refine Pm ?_;refine dZ rfl rfl rfl fun w1 Y e1=>?_
 have U:=U.trans e1;skip;refine WL.alloc rfl rfl (fun w2 C e2=>?_);have Y:=Y.ext e2;have U:=U.trans e2;have l1:=Y.lt;have l2:=C.lt;have z1:=e1.size;unfold Eu;refine Pw ?_;refine WL.call rfl rfl rfl (bD w2 (hs.up U) (hf.up U) tok st) ?_;rintro _ w3 ⟨mv,nv,rfl,hmv,hnv,e3⟩
 have Y:=Y.ext e3;have C:=C.ext e3;have U:=U.trans e3;have hnx:=oA (p:=(ns,fl)) (tok:=tok) (st:=st);have hexl:=oz (p:=(ns,fl)) (tok:=tok) (st:=st);generalize ow (ns,fl) tok st=r1 at*
 obtain⟨⟨ml,nx⟩,x1⟩:=r1;dsimp only at hmv hnv hnx hexl⊢
 obtain⟨mo,mc,rfl,hms⟩:=hmv.sl;obtain⟨no,nc,rfl,hns⟩:=hnv.sl;clear hmv hnv;refine QO ?_;refine WL.alloc rfl rfl (fun w4 hb9 e4=>?_);skip;refine WL.st rfl rfl rfl hb9 rfl rfl Pd (fun i hb9 hg5=>?_);have e5:Ext w3 i:=JH e4 hg5 e4.size O5;have Y:=Y.ext e5;have C:=C.ext e5;have U:=U.trans e5;have hns:=hns.up e5;have z3:=e3.size;have z5:=e5.size;clear e1 e2 e3 e4 e5 hg5 hms;by_cases hx:x1=0
 case neg=>
  have d:(x1 != 0)=true:=by simpa using hx
  rw[Ov hx];refine Qw ?_;rw[d];refine P6 ?_;refine WL.build (parts:=[]) rfl rfl rfl rfl ?_;refine QO ?_;refine WL.st rfl rfl rfl C rfl rfl Pd (fun w6 C hg6=>?_);have hE6:Ext w0 w6:=U.grown hg6 U.size O7;refine PL ?_;exact bi rfl rfl rfl rfl C rfl ⟨⟨_,none,0,rfl,zE _ _,Sl.zero _ _⟩,hE6⟩
 subst hx;have hN:=hnx rfl;have hst0:=(hexl rfl).1;rw[Ou OW];clear hnx hexl;refine Qt ?_;refine WL.build rfl rfl rfl rfl ?_;skip;refine dZ rfl rfl rfl fun w6 hsb e6=>?_
 have Y:=Y.ext e6;have C:=C.ext e6;have U:=U.trans e6;have hns6:Sl w6 (c9 i) no nc nx:=hns.at e6;have z6:=e6.size;have l6:=hsb.lt;refine Pw ?_;refine WL.call rfl rfl rfl (c8 w6 (hs.up U) (hf.up U)) ?_;rintro _ w7 ⟨lv,rfl,hlo,e7⟩
 have C:=C.ext e7;have hsb:=hsb.ext e7;have U:=U.trans e7;have z7:=e7.size;have hll:=fun g a=>hlo.lt g a
 generalize (F_ (ns,fl)).1=sl at*
 obtain⟨lo,lc,rfl⟩:=hlo.val;obtain⟨lo',lc',el,hls⟩:=hlo.sl;obtain⟨rfl,_,rfl⟩:=N5 el;refine QW ?_;refine WL.st rfl rfl rfl hsb rfl rfl Pd (fun w8 hsb hg8=>?_);have z8:=hg8.size;have l8:=hsb.lt;have hb68:=C.kept hg8 Pa;have hE8:Ext w0 w8:=U.grown hg8 U.size O7;have hk8:∀b,b<w7.heap.size→b≠i.heap.size→w8.heap[b]?=w7.heap[b]?:=fun b d E=>hg8.block b d (fun e=>E (Nn e))
 have hls8:Sl w8 (fun b=>b<w8.heap.size∧b≠i.heap.size) lo lc sl:=hls.mono (fun b d=>d.elim (fun h=>h.elim) (fun h=>hk8 b (hll b h).2.1 (by have:=(hll b h).1;omega))) (fun b d=>d.elim (fun h=>h.elim) (fun h=>⟨by have:=(hll b h).2.1;omega,by have:=(hll b h).1;omega⟩));have hns8:Sl w8 (c9 i) no nc nx:=hns6.mono (fun b d=>by
  have d:b<i.heap.size:=d;exact(hk8 b OS OS).trans (e7.block b OS)) O8
 clear hk8 e7 hls hns hns6 hlo hll C U;refine Qw ?_;refine WL.call rfl rfl rfl (F7 w8 hsb hns8 (fun b d=>by
  have d:b<i.heap.size:=d;exact⟨by omega,by omega⟩) hN.row hN.n) ?_
 rintro _ o ⟨rfl,ov,av,yv,hsb9,T,hC9⟩
 have z9:=hC9.size;have l9:=hsb9.lt;have hb69:Blk o _ _ _:=(hC9.block _ OS (fun h=>by omega)).trans hb68;have hE9:Ext w0 o:=Chg.ext hE8 hC9 (fun b d=>by subst d;omega);have q1:Sl o (Fz o (fun b=>b=i.heap.size)) lo lc sl:=Sl.fz (M:=fun b=>b=i.heap.size) hls8 hC9 (fun b h=>.inl h);have q2:Sl o (Fz o (fun b=>b=i.heap.size)) no nc nx:=Sl.fz (M:=fun b=>b=i.heap.size) (hns8.mono Pc (fun b d=>by
  have d:b<i.heap.size:=d;exact⟨by omega,by omega⟩)) hC9 (fun b h=>.inl h)
 obtain⟨oo,oc,rfl,q3⟩:=T.o.slF (F':=fun b=>w8.heap.size≤b∧b<o.heap.size) O6 (fun g a=>⟨(T.o.lt g a).1,(T.o.lt g a).2.1⟩);obtain⟨ao,ac,rfl,q4⟩:=T.a.slF (F':=fun b=>w8.heap.size≤b∧b<o.heap.size) O6 (fun g a=>⟨(T.a.lt g a).1,(T.a.lt g a).2.1⟩);obtain⟨yo,yc,rfl,q5⟩:=T.y.slF (F':=fun b=>w8.heap.size≤b∧b<o.heap.size) O6 (fun g a=>⟨(T.y.lt g a).1,(T.y.lt g a).2.1⟩);rw[atL_len,manyL_len,show(Ap nx nx.length).length=gD nx nx.length from rfl]at hsb9
 have hmk:∀{w:World} {x1 x2 x3 x4:Value},Chg (fun b=>b=i.heap.size) o w→Blk w i.heap.size 90 [.slice lo sl.length lc,.agg [.slice mo ml.length mc,.slice no nx.length nc].toArray,.slice no nx.length nc,.slice oo (gD nx nx.length) oc,.slice ao nx.length ac,.slice yo nx.length yc,x1,x2,x3,x4]→True:=fun _ _=>trivial
 have hrun:∀{w:World} {mv x1 x2 x3 x4:Value},Chg (fun b=>b=i.heap.size) o w→Blk w i.heap.size 90 [.slice lo sl.length lc,mv,.slice no nx.length nc,.slice oo (gD nx nx.length) oc,.slice ao nx.length ac,.slice yo nx.length yc,x1,x2,x3,x4]→RunAt w i.heap.size sl nx:=fun {w} {mv} {x1} {x2} {x3} {x4} hC d=>by
  have hk:∀b,w8.heap.size≤b∧b<o.heap.size→w.heap[b]?=o.heap[b]?:=fun b d=>hC.block b d.2 (fun h=>by omega)
  have hl:∀b,w8.heap.size≤b∧b<o.heap.size→c9 w b:=fun b d=>MQ d.2 hC.size
  exact⟨lo,lc,mv,no,nc,oo,oc,ao,ac,yo,yc,x1,x2,x3,x4,d,(q1.fz hC (fun b h=>.inl h)).old',(q2.fz hC (fun b h=>.inl h)).old',q3.mono hk hl,q4.mono hk hl,q5.mono hk hl⟩
 clear hmk T hC9 hsb hb68 hls8 hns8;have hat:=gE hN.row nx.length;have hn200:=hN.n;have hsl:=hN.sl;by_cases h600:gD nx nx.length≤600
 case neg=>
  rw[Oj h600,Ov OS];refine Qb ?_;refine WL.build (parts:=[]) rfl rfl rfl rfl ?_;skip;refine WL.st rfl rfl rfl hb69 rfl rfl Pd (fun r C hg6=>?_);have hE6:Ext w0 r:=hE9.grown hg6 hE9.size O7;refine PL ?_;exact bi rfl rfl rfl rfl C rfl ⟨⟨_,none,0,rfl,zE _ _,Sl.zero _ _⟩,hE6⟩
 rw[Ol h600,Ou OS];generalize hNN:gD nx nx.length=NN at*
 refine P2 ?_;refine CW.loop (S:=Nat×Value×Value×List Raw) (fun s=>[(6,Pk w1.heap.size),(11,Pk i.heap.size),(44,Pj (NN:Nat)),(45,Pj s.1)])
  (fun s w=>s.1≤NN∧Blk w i.heap.size 90 [.slice lo sl.length lc,.slice mo ml.length mc,.slice no nx.length nc,.slice oo NN oc,.slice ao nx.length ac,.slice yo nx.length yc,.slice none 0 0,s.2.1,s.2.2.1,.slice none 0 0]∧Own w o.heap.size 38 c7 s.2.1 s.2.2.2∧
   InnR w (fun b=>b=i.heap.size∨s.2.1.ownBlock=some b∨s.2.2.1.ownBlock=some b∨b<o.heap.size) s.2.2.2 ((List.range s.1).map (zt nx))∧Own w o.heap.size 95 c7 s.2.2.1 ((List.range s.1).map (xl sl nx))∧(∀g,s.2.1.ownBlock=some g→s.2.2.1.ownBlock≠some g)∧Chg (fun b=>b=i.heap.size) o w)
  (fun s=>NN -s.1) (0,.slice none 0 0,.slice none 0 0,[]) OR ⟨Nc _,hsb9,Own.nil,InnR.nil,Own.nil,(fun g a=>by cases a),Chg.refl _ _⟩ ?_
 rintro⟨j,nv,lbv,vs⟩ r ⟨hj0,D,hon,inn,hol,hdis,A⟩
 dsimp only at hj0 D hon inn hol hdis A⊢
 have z10:=A.size;have hln:=fun g a=>hon.lt g a
 have H:=fun g a=>hol.lt g a
 have hvl:vs.length=j:=by rw[inn.len];simp
 obtain⟨nvo,nvc,rfl⟩:=hon.val;obtain⟨lbo,lbc,rfl⟩:=hol.val;refine Qw ?_;apply CW.cond rfl<;>intro h
 ·have hj:j<NN:=by simp only[Om]at h;omega
  clear h;have hD:Ext r (drew r):=Ext.drew r;have K:=D.ext hD;have hKs:∀u,(fun z:World=>∀b,b<r.heap.size→(Value.slice nvo vs.length nvc).ownBlock≠some b→z.heap[b]?=(drew r).heap[b]?) u→u.heap[i.heap.size]?=(drew r).heap[i.heap.size]?:=fun u h=>h _ OS (fun e=>by have:=hln _ e;omega)
  refine PA ?_;refine aE (fun z:World=>∀b,b<r.heap.size→(Value.slice nvo vs.length nvc).ownBlock≠some b→z.heap[b]?=(drew r).heap[b]?) [(0,true),(1,true),(2,true),(3,true),(4,true),(5,true),(6,true),(7,true),(8,false),(9,false),(10,false),(11,false),(12,false),(13,false)] 14 mixed OT (fun _ _ _=>rfl) ?_;refine Q7 ?_;refine cu rfl (WL.call rfl rfl rfl (Dx (drew r) ((hrun A D).up hD) hN (by rw[hNN];exact hj)) ?_);rintro rv w11 ⟨hro,I⟩
  have J:=hD.trans I;have z11:=J.size;have hlr:=fun g a=>hro.lt g a
  obtain⟨ro,rc,rfl⟩:=hro.val;refine WL.nil (a_ (fun b d _=>I.block b d) ?_);refine bV (α:=Raw) (F:=c7) (bytes:=24) (yv:=(⟨.slice ro (zt nx j).length rc⟩:Raw)) rfl rfl rfl rfl O3 rfl rfl O3 (hon.extN J) (Rd.mkRaw _ _ _ rfl) OS O6 OU OY OS
   (fun z hz b d E=>(hz.block b OS (fun e=>E e.symm)).trans (I.block b d)) (fun nv' G q12 ho12 l hnb12=>?_)
  have P:=(K.ext I).kept l (fun e=>by have:=hln _ e.symm;omega);have z12:=l.size;have hS12:(fun z:World=>∀b,b<r.heap.size→(Value.slice nvo vs.length nvc).ownBlock≠some b→z.heap[b]?=(drew r).heap[b]?) G:=fun b d E=>(l.block b OS (fun e=>E e.symm)).trans (I.block b d)
  obtain⟨nvo',nvc',rfl⟩:=ho12.val;refine cu rfl (fi rfl rfl rfl (WL.nil (a_ hS12 ?_)));refine cu rfl (eI rfl rfl rfl (WL.nil (a_ hS12 ?_)));refine cu rfl (eI rfl rfl rfl (WL.nil (a_ hS12 (HL.nil ?_))));refine bm rfl (WL.st rfl rfl rfl P rfl rfl Pd (fun c t V=>WL.nil (bp ?_)));have z13:=V.size;have hnn:∀g,(Value.slice nvo' (vs++[(⟨.slice ro (zt nx j).length rc⟩:Raw)]).length nvc').ownBlock=some g→g≠i.heap.size∧o.heap.size≤g:=fun g a=>⟨fun e=>by have:=(ho12.lt g a).1;omega,(ho12.lt g a).1⟩
  have hon13:=ho12.keptN V (fun g a e=>(hnn g a).1 (Nn e));have hol13:=((hol.extN J).keptN l (fun g a e=>hdis g e.symm a)).keptN V (fun g a e=>by have:=Nn e;have:=H g a;omega);have hdis13:∀g,(Value.slice nvo' (vs++[(⟨.slice ro (zt nx j).length rc⟩:Raw)]).length nvc').ownBlock=some g→(Value.slice lbo ((List.range j).map (xl sl nx)).length lbc).ownBlock≠some g:=fun g a e=>by
   rcases hnb12 g a with h|h
   ·exact hdis g h e
   ·have:=(H g e).2.1;omega
  have y:Chg (fun b=>b=i.heap.size) o c:=((A.trans (Chg.of_ext _ J)).then (Chg.of_grown l) (fun b h=>.inr (hln b h).1)).grown V (fun g a=>by cases a;rfl);have W:Rd w11 (Fz w11 (fun b=>b=i.heap.size∨(Value.slice nvo vs.length nvc).ownBlock=some b∨(Value.slice lbo ((List.range j).map (xl sl nx)).length lbc).ownBlock=some b∨b<o.heap.size)) (.slice ro (zt nx j).length rc) (zt nx j):=
   hro.rd.mono Pc (fun g a=>a.elim (fun h=>h.elim) (fun a=>⟨(hlr g a).2.1,fun h=>by
    have h1:r.heap.size≤g:=(hlr g a).1;rcases h with h|h|h|h
    ·omega
    ·have:=(hln g h).2.1;omega
    ·have:=(H g h).2.1;omega
    ·omega⟩))
  have inn11:=(inn.to (Chg.of_ext _ J) (fun b h=>.inl h)).push W;have hC1113:Chg (fun b=>b=i.heap.size∨(Value.slice nvo vs.length nvc).ownBlock=some b∨(Value.slice lbo ((List.range j).map (xl sl nx)).length lbc).ownBlock=some b∨b<o.heap.size) w11 c:=((Chg.of_grown l).wk (fun b h=>.inr (.inl h))).grown V Pb;have inn13:=inn11.to hC1113 (M':=fun b=>b=i.heap.size∨(Value.slice nvo' (vs++[(⟨.slice ro (zt nx j).length rc⟩:Raw)]).length nvc').ownBlock=some b∨(Value.slice lbo ((List.range j).map (xl sl nx)).length lbc).ownBlock=some b∨b<o.heap.size) (fun b h=>by
   rcases h with h|h|h|h
   ·exact .inl (.inl h)
   ·exact(hnb12 b h).imp (fun h=>.inr (.inl h)) id
   ·exact .inl (.inr (.inr (.inl h)))
   ·exact .inl (.inr (.inr (.inr h))))
  rw[←CI]at inn13
  have hln13:=fun g a=>hon13.lt g a
  clear hKs hS12 hD K I J hlr hro P l V hnb12 ho12 W inn11 hC1113 inn hon hol hdis hnn A D hln;apply bx;have hD:Ext c (drew c):=Ext.drew c;have K:=t.ext hD;have hKs:∀u,(fun z:World=>∀b,b<c.heap.size→(Value.slice lbo ((List.range j).map (xl sl nx)).length lbc).ownBlock≠some b→z.heap[b]?=(drew c).heap[b]?) u→u.heap[i.heap.size]?=(drew c).heap[i.heap.size]?:=fun u h=>h _ OS (fun e=>by have:=H _ e;omega)
  have hlbl:((List.range j).map (xl sl nx)).length=j:=by simp
  skip;refine aE (fun z:World=>∀b,b<c.heap.size→(Value.slice lbo ((List.range j).map (xl sl nx)).length lbc).ownBlock≠some b→z.heap[b]?=(drew c).heap[b]?) [(0,true),(1,true),(2,true),(3,true),(4,true),(5,true),(6,true),(7,true),(8,false),(9,false),(10,false),(11,false),(12,false),(13,false)] 14 mixed OT (fun _ _ _=>rfl) ?_;refine Q7 ?_;refine cu rfl (WL.call rfl rfl rfl (Dt (drew c) ((hrun y t).up hD) hN (by rw[hNN];exact hj)) ?_);rintro _ B ⟨rfl,hlt64,R⟩
  have n:=hD.trans R;have z14:=n.size;refine WL.nil (a_ (fun b d _=>R.block b d) ?_);refine bV (α:=Nat) (F:=c7) (bytes:=8) (yv:=xl sl nx j) rfl rfl rfl rfl O3 rfl rfl O3 (hol13.extN n) ⟨_,rfl,C3 _ _ _ hlt64⟩ OS O6 OU OY OS
   (fun z hz b d E=>(hz.block b OS (fun e=>E e.symm)).trans (R.block b d)) (fun lb' w15 q15 L q X=>?_)
  rw[←CI]at L
  have hsb15:=(K.ext R).kept q (fun e=>by have:=H _ e.symm;omega);have z15:=q.size;have Q:(fun z:World=>∀b,b<c.heap.size→(Value.slice lbo ((List.range j).map (xl sl nx)).length lbc).ownBlock≠some b→z.heap[b]?=(drew c).heap[b]?) w15:=fun b d E=>(q.block b OS (fun e=>E e.symm)).trans (R.block b d)
  obtain⟨lbo',lbc',rfl⟩:=L.val;refine cu rfl (fi rfl rfl rfl (WL.nil (a_ Q ?_)));refine cu rfl (eI rfl rfl rfl (WL.nil (a_ Q ?_)));refine cu rfl (eI rfl rfl rfl (WL.nil (a_ Q (HL.nil ?_))));refine bm rfl (WL.st rfl rfl rfl hsb15 rfl rfl Pd (fun w16 hsb16 N=>WL.nil (bp ?_)));have hol16:=L.keptN N (fun g a e=>by have:=Nn e;have:=(L.lt g a).1;omega);have hon16:=((hon13.extN n).keptN q (fun g a e=>hdis13 g a e.symm)).keptN N (fun g a e=>by have:=Nn e;have:=hln13 g a;omega);have hC16:Chg (fun b=>b=i.heap.size) o w16:=((y.trans (Chg.of_ext _ n)).then (Chg.of_grown q) (fun b h=>.inr (H b h).1)).grown N (fun g a=>by cases a;rfl);have Z:Chg (fun b=>b=i.heap.size∨(Value.slice nvo' (vs++[(⟨.slice ro (zt nx j).length rc⟩:Raw)]).length nvc').ownBlock=some b∨(Value.slice lbo ((List.range j).map (xl sl nx)).length lbc).ownBlock=some b∨b<o.heap.size) B w16:=((Chg.of_grown q).wk (fun b h=>.inr (.inr (.inl h)))).grown N Pb;have inn16:=(inn13.to (Chg.of_ext _ n) (fun b h=>.inl h)).to Z (M':=fun b=>b=i.heap.size∨(Value.slice nvo' (vs++[(⟨.slice ro (zt nx j).length rc⟩:Raw)]).length nvc').ownBlock=some b∨(Value.slice lbo' ((List.range (j+1)).map (xl sl nx)).length lbc').ownBlock=some b∨b<o.heap.size) (fun b h=>by
   rcases h with h|h|h|h
   ·exact .inl (.inl h)
   ·exact .inl (.inr (.inl h))
   ·exact(X b h).imp (fun h=>.inr (.inr (.inl h))) id
   ·exact .inl (.inr (.inr (.inr h))))
  have hdis16:∀g,(Value.slice nvo' (vs++[(⟨.slice ro (zt nx j).length rc⟩:Raw)]).length nvc').ownBlock=some g→(Value.slice lbo' ((List.range (j+1)).map (xl sl nx)).length lbc').ownBlock≠some g:=fun g a e=>by
   rcases X g e with h|h
   ·exact hdis13 g a h
   ·have:=(hln13 g a).2.1;omega
  refine PI ?_;exact EX.back (j+1,_,_,_) OR ⟨hj,hsb16,hon16,inn16,hol16,hdis16,hC16⟩ OX
 have hje:j=NN:=by simp only[Ok]at h;omega
 subst hje;clear h;have hC10':=A;have hR10:=hrun A D;have hb610:Blk r _ _ _:=(A.block _ OS (fun h=>by omega)).trans hb69;have hE10:Ext w0 r:=Chg.ext hE9 A (fun b d=>by subst d;omega);refine P9 ?_;refine WL.call rfl rfl rfl (ga r (m:=0) hR10 hN hN.pos) ?_;rintro sv w11 ⟨hos,I⟩
 have hsb11:=D.ext I;have z11:=I.size;have hlos:=fun g a=>hos.lt g a
 obtain⟨sto,stc,rfl⟩:=hos.val;refine QQ ?_;refine WL.st rfl rfl rfl hsb11 rfl rfl Pd (fun G P l=>?_);have z12:=l.size;have O:Chg (fun b=>b=i.heap.size) r G:=(Chg.of_ext _ I).grown l (fun g a=>by cases a;rfl);have hC12:=A.trans O;have hb612:Blk G _ _ _:=(O.block _ OS (fun h=>by omega)).trans hb610;have hE12:Ext w0 G:=Chg.ext hE10 O (fun b d=>by subst d;omega);have hon12:=(hon.extN I).keptN l (fun g a e=>by have:=Nn e;have:=hln g a;omega);have hol12:=(hol.extN I).keptN l (fun g a e=>by have:=Nn e;have:=H g a;omega);have hos12:=hos.keptN l (fun g a e=>by have:=Nn e;have:=hlos g a;omega);have inn12:=inn.to (O.wk (M':=fun b=>b=i.heap.size∨(Value.slice nvo vs.length nvc).ownBlock=some b∨(Value.slice lbo ((List.range j).map (xl sl nx)).length lbc).ownBlock=some b∨b<o.heap.size) (fun b h=>.inl h)) (fun b h=>.inl h);obtain⟨nvo2,nvc2,en,s2⟩:=inn12.sl (F:=Fz G (fun b=>b=i.heap.size∨b<o.heap.size)) hon12 (fun b d=>⟨d.1,fun h=>d.2 (h.elim .inl fun h=>.inr (.inr (.inr h)))⟩) (fun g a=>⟨(hon12.lt g a).2.1,fun h=>by have:=(hln g a).1;rcases h with h|h<;>omega⟩);obtain⟨rfl,hnlen,rfl⟩:=N5 en;obtain⟨lbo2,lbc2,en2,s3⟩:=hol12.slF (F':=Fz G (fun b=>b=i.heap.size∨b<o.heap.size)) O6 (fun g a=>⟨(hol12.lt g a).2.1,fun h=>by have:=(H g a).1;rcases h with h|h<;>omega⟩);obtain⟨rfl,_,rfl⟩:=N5 en2;obtain⟨sto2,stc2,en3,s1⟩:=hos12.slF (F':=Fz G (fun b=>b=i.heap.size∨b<o.heap.size)) O6 (fun g a=>⟨(hos12.lt g a).2.1,fun h=>by have:=(hlos g a).1;rcases h with h|h<;>omega⟩);obtain⟨rfl,_,rfl⟩:=N5 en3;rw[hnlen]at P
 clear hon hol hos inn hdis hC10' hon12 hol12 hos12 inn12 hln H hlos en en2 en3 hR10 D hsb11 I l hE10 hb610 A;refine QH ?_;refine CW.loop (S:=Nat×Value×List Raw) (fun s=>[(6,Pk w1.heap.size),(11,Pk i.heap.size),(87,Pj sl.length),(88,Pj s.1)])
  (fun s w=>s.1≤sl.length∧Blk w i.heap.size 90 [.slice lo sl.length lc,.slice mo ml.length mc,.slice no nx.length nc,.slice oo j oc,.slice ao nx.length ac,.slice yo nx.length yc,.slice sto (fY nx 0).length stc,.slice nvo ((List.range j).map (zt nx)).length nvc,.slice lbo ((List.range j).map (xl sl nx)).length lbc,s.2.1]∧Own w G.heap.size 38 c7 s.2.1 s.2.2∧
   InnR w (fun b=>b=i.heap.size∨s.2.1.ownBlock=some b∨b<o.heap.size) s.2.2 ((List.range s.1).map fun k:Nat=>oE nx (k:Int))∧Chg (fun b=>b=i.heap.size) G w)
  (fun s=>sl.length -s.1) (0,.slice none 0 0,[]) OR ⟨Nc _,P,Own.nil,InnR.nil,Chg.refl _ _⟩ ?_
 rintro⟨k,fv,ws⟩ c ⟨hk0,t,hof,inf,y⟩
 dsimp only at hk0 t hof inf y⊢
 have z13:=y.size;have hlf:=fun g a=>hof.lt g a
 have hwl:ws.length=k:=by rw[inf.len];simp
 obtain⟨fvo,fvc,rfl⟩:=hof.val;refine Qw ?_;apply CW.cond rfl<;>intro h
 ·have hk:k<sl.length:=by simp only[Om]at h;omega
  clear h;have hD:Ext c (drew c):=Ext.drew c;have K:=t.ext hD;have hKs:∀u,(fun z:World=>∀b,b<c.heap.size→(Value.slice fvo ws.length fvc).ownBlock≠some b→z.heap[b]?=(drew c).heap[b]?) u→u.heap[i.heap.size]?=(drew c).heap[i.heap.size]?:=fun u h=>h _ OS (fun e=>by have:=hlf _ e;omega)
  refine PA ?_;refine aE (fun z:World=>∀b,b<c.heap.size→(Value.slice fvo ws.length fvc).ownBlock≠some b→z.heap[b]?=(drew c).heap[b]?) [(0,true),(1,true),(2,true),(3,true),(4,true),(5,true),(6,true),(7,true),(8,false),(9,false),(10,false),(11,false),(12,false),(13,false)] 14 mixed OT (fun _ _ _=>rfl) ?_;refine Q7 ?_;refine cu rfl (WL.call rfl rfl rfl (oP (drew c) (k:=k) ((hrun (hC12.trans y) t).up hD) hN) ?_);rintro rv B ⟨hro,R⟩
  have n:=hD.trans R;have z14:=n.size;have hlr:=fun g a=>hro.lt g a
  obtain⟨ro,rc,rfl⟩:=hro.val;refine WL.nil (a_ (fun b d _=>R.block b d) ?_);refine bV (α:=Raw) (F:=c7) (bytes:=24) (yv:=(⟨.slice ro (oE nx (k:Int)).length rc⟩:Raw)) rfl rfl rfl rfl O3 rfl rfl O3 (hof.extN n) (Rd.mkRaw _ _ _ rfl) OS O6 OU OY OS
   (fun z hz b d E=>(hz.block b OS (fun e=>E e.symm)).trans (R.block b d)) (fun fv' w15 q15 L q X=>?_)
  have hsb15:=(K.ext R).kept q (fun e=>by have:=hlf _ e.symm;omega);have z15:=q.size;have Q:(fun z:World=>∀b,b<c.heap.size→(Value.slice fvo ws.length fvc).ownBlock≠some b→z.heap[b]?=(drew c).heap[b]?) w15:=fun b d E=>(q.block b OS (fun e=>E e.symm)).trans (R.block b d)
  obtain⟨fvo',fvc',rfl⟩:=L.val;refine cu rfl (fi rfl rfl rfl (WL.nil (a_ Q ?_)));refine cu rfl (eI rfl rfl rfl (WL.nil (a_ Q ?_)));refine cu rfl (eI rfl rfl rfl (WL.nil (a_ Q (HL.nil ?_))));refine bm rfl (WL.st rfl rfl rfl hsb15 rfl rfl Pd (fun w16 hsb16 N=>WL.nil (bp ?_)));have hof16:=L.keptN N (fun g a e=>by have:=Nn e;have:=(L.lt g a).1;omega);have hC16:Chg (fun b=>b=i.heap.size) G w16:=((y.trans (Chg.of_ext _ n)).then (Chg.of_grown q) (fun b h=>.inr (hlf b h).1)).grown N (fun g a=>by cases a;rfl);have W:Rd B (Fz B (fun b=>b=i.heap.size∨(Value.slice fvo ws.length fvc).ownBlock=some b∨b<o.heap.size)) (.slice ro (oE nx (k:Int)).length rc) (oE nx (k:Int)):=
   hro.rd.mono Pc (fun g a=>a.elim (fun h=>h.elim) (fun a=>⟨(hlr g a).2.1,fun h=>by
    have h1:c.heap.size≤g:=(hlr g a).1;rcases h with h|h|h
    ·omega
    ·have:=(hlf g h).2.1;omega
    ·omega⟩))
  have inf14:=(inf.to (Chg.of_ext _ n) (fun b h=>.inl h)).push W;have Z:Chg (fun b=>b=i.heap.size∨(Value.slice fvo ws.length fvc).ownBlock=some b∨b<o.heap.size) B w16:=((Chg.of_grown q).wk (fun b h=>.inr (.inl h))).grown N Pb;have inf16:=inf14.to Z (M':=fun b=>b=i.heap.size∨(Value.slice fvo' (ws++[(⟨.slice ro (oE nx (k:Int)).length rc⟩:Raw)]).length fvc').ownBlock=some b∨b<o.heap.size) (fun b h=>by
   rcases h with h|h|h
   ·exact .inl (.inl h)
   ·exact(X b h).imp (fun h=>.inr (.inl h)) id
   ·exact .inl (.inr (.inr h)))
  rw[←CI (f:=fun k:Nat=>oE nx (k:Int))]at inf16
  refine PI ?_;exact EX.back (k+1,_,_) OR ⟨hk,hsb16,hof16,inf16,hC16⟩ OX
 have hke:k=sl.length:=by simp only[Ok]at h;omega
 subst hke;clear h;obtain⟨fvo2,fvc2,en4,s4⟩:=inf.sl (F:=Fz c (fun b=>b=i.heap.size∨b<o.heap.size)) hof (fun b d=>⟨d.1,fun h=>d.2 (h.elim .inl fun h=>.inr (.inr h))⟩) (fun g a=>⟨(hof.lt g a).2.1,fun h=>by have:=(hlf g a).1;rcases h with h|h<;>omega⟩);obtain⟨rfl,hflen,rfl⟩:=N5 en4;rw[hflen]at t
 have hb613:Blk c _ _ _:=(y.block _ OS (fun h=>by omega)).trans hb612;have hE13:Ext w0 c:=Chg.ext hE12 y (fun b d=>by subst d;omega);have hD:Ext c (drew c):=Ext.drew c;have K:=t.ext hD;have hb6d:=hb613.ext hD;have hKs:∀u,(fun z:World=>z.heap[i.heap.size]?=(drew c).heap[i.heap.size]?) u→u.heap[i.heap.size]?=(drew c).heap[i.heap.size]?:=fun u h=>h
 refine Qy ?_;refine aF (fun z:World=>z.heap[i.heap.size]?=(drew c).heap[i.heap.size]?) [(0,true),(1,true),(2,true),(3,true),(4,true),(5,true),(6,true),(7,true),(8,false),(9,true),(10,true)] mixed OT rfl ?_;refine Ra ?_;refine cg hKs rfl rfl rfl rfl K rfl ?_;refine Q7 ?_;refine cu rfl (WL.st rfl rfl rfl hb6d rfl rfl Pd (fun B hb14 hg14=>WL.nil (a_ ?_ ?_)))
 ·exact hg14.block _ (by have:=hD.size;omega) Pa
 refine Rf ?_;have z14:c.heap.size≤B.heap.size:=hg14.size;have hE14:Ext w0 B:=(hE13.trans hD).grown hg14 (by have:=hE13.size;have:=hD.size;omega) O7;have hk13:∀b,b<c.heap.size→b≠w1.heap.size→B.heap[b]?=c.heap[b]?:=fun b d E=>hg14.block b d (fun e=>E (Nn e))
 have hfin:∀b,Fz G (fun b=>b=i.heap.size∨b<o.heap.size) b→B.heap[b]?=G.heap[b]?:=fun b d=>by
  have h1:o.heap.size≤b:=MK (fun hx=>d.2 (.inr hx));have h2:=d.1;exact(hk13 b OS OS).trans (y.block b d.1 (fun h=>d.2 (.inl h)))
 have hle:∀b,Fz G (fun b=>b=i.heap.size∨b<o.heap.size) b→c9 B b:=fun b d=>(show b<B.heap.size by have:=d.1;omega)
 have hC913:=hC12.trans y;have s5:Sl B (c9 B) oo oc (Ap nx nx.length):=q3.mono (fun b d=>(hk13 b (by have:=d.2;omega) (by have:=d.1;omega)).trans (hC913.block b d.2 (fun h=>by have:=d.1;omega))) (fun b d=>(show b<B.heap.size by have:=d.2;omega));refine Pz ?_;subst hNN;exact bi rfl rfl rfl rfl hb14 rfl ⟨⟨_,oo,oc,rfl,⟨sto,stc,nvo,nvc,lbo,lbc,fvo,fvc,rfl,s1.mono hfin hle,s2.mono hfin hle,s3.mono hfin hle,s4.mono (fun b d=>hk13 b d.1 (by have:=MK (fun hx=>d.2 (.inr hx));omega)) (fun b d=>(show b<B.heap.size by have:=d.1;omega))⟩,s5⟩,hE14⟩
theorem straight_runs:(Eu straightP 1 9).2=0∧(Eu straightP 1 9).1.1.2.2.1=[2,4,9223372036854775808]∧(Eu straightP 1 9).1.2=[(0,0),(1,1),(-1,2)]∧(Eu straightP 1 9).1.1.1=[0]:=by
 have a:F_ straightP=([(1,0,1),(2,1,0)],0):=Gv;unfold Eu;rw[straight_sp.2.2,a];dsimp only;rw[Ou OU,Ou OU];refine⟨rfl,by decide,by decide,by decide⟩
theorem Ev{p:cL}{tok st:Int}(h:(Eu p tok st).2=0):(ow p tok st).2=0∧gD (ow p tok st).1.2 (ow p tok st).1.2.length≤600∧(Eu p tok st).1=(Ey (F_ p).1 (ow p tok st).1.2,Ap (ow p tok st).1.2 (ow p tok st).1.2.length):=by
 unfold Eu at h⊢
 split at h
 ·rename_i g;exact absurd h g
 rename_i g1;split at h
 ·cases h
 rename_i g2;rw[Ou g1,Ou g2];exact⟨by simpa using g1,by omega,rfl⟩
theorem De{n k:Nat}(h:k<n):(List.replicate n true).getD k false=true:=by
 rw[KR,K2,Ov h];rfl
noncomputable abbrev fU(nx fr:bU):List Bool:=IV nx (List.replicate nx.length true) fr
theorem f8{nx:bU}(a:okG nx){u v:Nat}:Eg (inG nx (List.replicate nx.length true)) u v↔Eg nx u v:=by
 rw[inG_edge];exact⟨fun h=>h.1,fun h=>⟨h,De h.lt1,De (h.lt a)⟩⟩
theorem fV{nx fr:bU}(a:okG nx){n:Nat}(h:n<nx.length):(fU nx fr).getD n false=true↔∃r,r 0=n∧Way8 (Eg nx) (Fe fr) r:=by
 rw[IW h,show Eg (inG nx (List.replicate nx.length true))=Eg nx from funext fun u=>funext fun v=>propext (f8 a)]
theorem bH(w0:World){a1 a2 a3 a4:Option Addr}{c1 c2 c3 c4 k:Nat}{st:List Int}{nx fr:bU}(h1:Sl w0 (c9 w0) a1 c1 st)(h2:Sl w0 (c9 w0) a2 c2 nx)(U:k≤9223372036854775807)(h4:Sl w0 (c9 w0) a4 c4 fr)(X:mX nx≤8589934592):
  Rt Tryz.prog 62 [I2 a1 c1 a2 c2 a3 c3 a4 c4 st.length nx.length k fr.length].toArray w0 fun v w'=>∃x,v=.tuple ⟨[x,Pj (j7 st nx k fr)]⟩∧Own w' w0.heap.size 4 c7 x (if j7 st nx k fr=0 then fU nx fr else [])∧Ext w0 w':=by
 have Q:=h2.len63;refine dG Tryz.func62 Tryz.ntmps62 rfl rfl ?_;have d:=Ext.refl w0;refine Pm ?_;refine dZ rfl rfl rfl fun O n Z=>?_
 have d:=d.trans Z;refine Pw ?_;refine WL.call rfl rfl rfl (IB O (h1.up d) (h2.up d) U (h4.up d)) ?_;rintro _ o ⟨rfl,L⟩
 have n:=n.ext L;have d:=d.trans L;refine Qw ?_;apply CW.cond rfl<;>intro h
 ·have h:j7 st nx k fr≠0:=by simpa using h
  refine P7 ?_;exact bf rfl rfl rfl ⟨_,rfl,by rw[Ou h];exact Own.nil,d⟩
 have h:j7 st nx k fr=0:=by simpa using h
 obtain⟨j,K,T,A,f,g⟩:=j8 h;have B:okG nx:=fun r P=>(f r P).2
 rw[Ov h,h];refine Qg ?_;refine eY (α:=Bool) rfl rfl rfl rfl OS OY (fun N ho3 G=>?_);have Y:Ext o N:=(JJ _ _).grown G Pf O_;generalize y:Value.slice (some ⟨o.heap.size,0,none⟩) nx.length nx.length=sv at*
 have R:∃ao cap,sv=.slice ao nx.length cap:=⟨_,_,y.symm⟩;refine Qu ?_;rw[Lu];refine CW.loop (S:=Nat×List Bool) (fun s=>[(1,Pk w0.heap.size),(5,sv),(17,Pj nx.length),(18,Pj s.1)])
  (fun s w=>s.1≤nx.length∧Own w o.heap.size 4 c7 sv s.2∧s.2.length=nx.length∧(∀c,c<s.1→s.2.getD c false=true)∧Ext o w) (fun s=>nx.length -s.1) (0,List.replicate nx.length false) OR ⟨Nc _,ho3,by simp,fun c H=>absurd H OX,Y⟩ ?_
 rintro⟨i,inn⟩ M ⟨hi,q,m,l,t⟩
 dsimp only at hi q m l⊢
 have a:=d.trans t;have V:=n.ext t;refine Qw ?_;apply CW.cond rfl<;>intro h
 ·have E:i<nx.length:=by simp at h;omega
  refine PA ?_;refine fu (u:=.bool true) (yv:=true) rfl rfl rfl rfl q (show i<inn.length by omega) O3 O3 (Rd.mkBool _ _ _) (fun J q2 ho5 F=>?_);have I:Ext o J:=t.grown F t.size (fun b W=>(q.lt b W).1);refine PI ?_;refine EX.back (i+1,inn.set i true) OR ⟨E,ho5,by simpa using m,fun c H=>?_,I⟩ OX;dsimp only at H⊢
  rw[ri OS];by_cases e:i=c
  ·rw[Ov e]
  ·rw[Ou e];exact l c OS
 obtain rfl:i=nx.length:=by simp at h;omega
 have p:inn=List.replicate nx.length true:=by
  refine KE (by simpa using m) fun c h1 h2=>?_
  rw[←IR h1,Ld];exact l c OS
 subst p;obtain⟨io,ic,C,D⟩:=q.oldN.sl;subst C;refine P9 ?_;refine WL.call rfl rfl rfl (fF M (h2.up a) (h4.up a) D B g OW j X) ?_;rintro v J ⟨z,I⟩
 refine Pr ?_;exact bf rfl rfl rfl ⟨_,rfl,z.low a.size,a.trans I⟩
def DP(nx:List (List cH)):List (List Int):=(List.range (gD nx nx.length)).map (zt nx)
def DW(K:Nat)(nx:List (List cH)):List (List Int):=(List.range K).map fun k:Nat=>oE nx (k:Int)
theorem DS{nx:List (List cH)}:(DP nx).length=gD nx nx.length:=by simp[DP]
theorem DR{nx:List (List cH)}{j:Nat}(h:j<gD nx nx.length):(DP nx).getD j []=zt nx j:=by
 unfold DP;rw[KR,K0,K1 h];rfl
theorem fZ{nx:List (List cH)}{m:Nat}(b:m<nx.length):AG (gD nx nx.length) (fY nx m):=fun x a=>by
 unfold fY at a
 obtain⟨i,hi,rfl⟩:=LU.1 a;have:=gF (nx:=nx) b (LZ.1 hi);omega
theorem G_{sl:List cN}{nx:List (List cH)}(d:NxOk sl nx){j:Nat}(g:j<gD nx nx.length)(k:¬(At nx j).1<0):(G9 nx j).2.toNat<nx.length:=by
 obtain⟨n,i,hn,hi,f,b,c⟩:=Av d g;rcases c with⟨c,_⟩|⟨_,_,a,e⟩
 ·omega
 have h:=d.ed n hn _ (Lb a);unfold G9;rw[b,Kd,show j -gD nx n=i by omega,rq a];omega
theorem zu{sl:List cN}{nx:List (List cH)}(c:NxOk sl nx){j:Nat}(b:j<gD nx nx.length):AG (gD nx nx.length) (zt nx j):=by
 unfold zt;split
 ·intro x a
  rw[L0]at a
  subst a;omega
 ·rename_i d
  exact fZ (G_ c b d)
theorem zv{sl:List cN}{nx:List (List cH)}(a:NxOk sl nx){j:Nat}:0<(zt nx j).length∧(zt nx j).length≤60:=by
 unfold zt;split
 ·simp
 ·have h1:=yW (nx:=nx) (n:=(G9 nx j).2.toNat)
  have h2:=a.row (G9 nx j).2.toNat;unfold fY;rw[Lq,Lt];unfold yV at h1⊢
  omega
theorem DT{sl:List cN}{nx:List (List cH)}(a:NxOk sl nx):∀r∈DP nx,0<r.length∧r.length≤60∧AG (gD nx nx.length) r:=fun r b=>by
 unfold DP at b
 obtain⟨j,c,rfl⟩:=LU.1 b;exact⟨(zv a).1,(zv a).2,zu a (LZ.1 c)⟩
theorem oF{nx:List (List cH)}{k:Int}:AG (gD nx nx.length) (oE nx k):=fun x a=>by
 unfold oE oG at a
 obtain⟨i,hi,rfl⟩:=LU.1 a;have:=LZ.1 (LR.1 hi).1;omega
theorem DO{nx:List (List cH)}{K:Nat}:∀F∈DW K nx,AG (gD nx nx.length) F:=fun F hF=>by
 unfold DW at hF
 obtain⟨k,_,rfl⟩:=LU.1 hF;exact oF
theorem Ez{sl:List cN}{nx:List (List cH)}(b:NxOk sl nx)(c:gD nx nx.length≤600):j7 (fY nx 0) (DP nx) (gD nx nx.length) (DW sl.length nx)=0:=by
 have d:=b.sl;have hF:(DW sl.length nx).length=sl.length:=by simp[DW]
 unfold j7;rw[DS,Ou OS,Ou,Ou,Ou]
 ·intro h
  obtain⟨F,hF,a⟩:=Ki.1 h;rw[oddB_false.2 (DO F hF)]at a;cases a
 ·intro h
  obtain⟨r,e,a⟩:=Ki.1 h;obtain⟨h1,_,h3⟩:=DT b r e;unfold jQ at a
  rw[oddB_false.2 h3,JY]at a
  simp at a
  rw[a]at h1;simp at h1
 ·rintro(h|h)
  ·exact h rfl
  ·rw[oddB_false.2 (fZ b.pos)]at h;cases h
theorem DQ{sl:List cN}{nx:List (List cH)}(c:NxOk sl nx)(a:gD nx nx.length≤600):mX (DP nx)≤8589934592:=by
 have h:=m9 (DP nx) 60 (fun r b=>(DT c r b).2.1);rw[DS]at h
 omega
end Go.Proofs.YtodmkmobdmcfbaaGreat
