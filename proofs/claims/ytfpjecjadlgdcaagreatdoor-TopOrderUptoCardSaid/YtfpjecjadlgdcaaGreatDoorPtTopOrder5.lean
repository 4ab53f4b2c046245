import Derived.Test.YtfpjecjadlgdcaaGreatDoorPtTopOrder4
set_option linter.unusedVariables false
set_option linter.unusedSimpArgs false
set_option linter.defProp false
namespace Go.Proofs.YtfpjecjadlgdcaaGreatDoor
set_option maxHeartbeats 4000000
variable{P:Program}{α:Type}{B a K:Nat}{C D:Option Addr}{m:List Int}{F:Nat→Prop}{w:World}{v A:Value}{g:List (List Int)}{x:Int}{l:List Bool}{r:List Value}{t:TypeId}{Q:Exit→Act→World→Prop}{p:Nat→Nat}{e:Nat→Nat→Prop}{s:List Nat}{L:List Oper}{c:Value→World→Prop}{f:List ByteArray}{y:Array Bool}{S:World→Prop}{b:Value→(Nat→Nat)→World→Prop}{j:Array Edge}{o:Oper}{u:Array Value}
open Go.RowKit
open Go.Shelf
open _root_.Go.Proofs.Tryz
open List(range)
open List(replicate)
open Nat(ble)
open Nat(beq)
open Region(ready)
def Jd:Ren:=⟨λx=>if beq x 125=true then 195 else if beq x 128=true then 256 else if beq x 129=true then 257 else if beq x 189=true then 114 else if beq x 215=true then 279 else if beq x 216=true then 253 else if beq x 257=true then 194 else if beq x 294=true then 247 else if beq x 295=true then 248 else if beq x 296=true then 249 else if beq x 297=true then 250 else if beq x 298=true then 251 else if beq x 299=true then 252 else if beq x 300=true then 254 else if beq x 301=true then 255 else if beq x 328=true then 274 else if beq x 329=true then 275 else if beq x 330=true then 276 else if beq x 331=true then 277 else if beq x 332=true then 278 else if beq x 343=true then 283 else 0,λx=>if beq x 0=true then 0 else if beq x 3=true then 3 else if beq x 4=true then 4 else if beq x 5=true then 5 else if beq x 9=true then 9 else if beq x 28=true then 39 else if beq x 46=true then 275 else if beq x 51=true then 315 else if beq x 53=true then 131 else if beq x 131=true then 232 else if beq x 182=true then 307 else if beq x 183=true then 308 else if beq x 218=true then 332 else if beq x 222=true then 206 else if beq x 228=true then 338 else if beq x 229=true then 339 else 0,λx=>x⟩
set_option maxRecDepth 100000 in
def Jc:Lays.n189 Vy Jd where
 mixed:=by kernel_rfl
 f125:=(func195).trans TL
 f128:=(func256).trans TL
 f129:=(func257).trans TL
 f189:=(func114).trans TL
 f215:=(func279).trans TL
 f216:=(func253).trans TL
 f257:=(func194).trans TL
 f294:=(func247).trans TL
 f295:=(func248).trans TL
 f296:=(func249).trans TL
 f297:=(func250).trans TL
 f298:=(func251).trans TL
 f299:=(func252).trans TL
 f300:=(func254).trans TL
 f301:=(func255).trans TL
 f328:=(func274).trans TL
 f329:=(func275).trans TL
 f330:=(func276).trans TL
 f331:=(func277).trans TL
 f332:=(func278).trans TL
 f343:=(func283).trans TL
 t0:=underlying0
 a0:=isAgg0
 z0:=sizeOf0
 v0:=zeroValue0
 t3:=Sz
 a3:=Sf
 z3:=Sk
 v3:=SQ
 t4:=SH
 a4:=Sh
 z4:=Sn
 v4:=SS
 t5:=SI
 a5:=isAgg5
 z5:=sizeOf5
 v5:=ST
 t9:=SN
 a9:=isAgg9
 z9:=sizeOf9
 v9:=SU
 t28:=SF
 a28:=isAgg39
 z28:=sizeOf39
 v28:=zeroValue39
 t46:=Sx
 a46:=isAgg275
 z46:=Sj
 v46:=SP
 t51:=SB
 a51:=isAgg315
 z51:=Sm
 v51:=SR
 t53:=underlying131
 a53:=isAgg131
 z53:=sizeOf131
 v53:=zeroValue131
 t131:=underlying232
 a131:=isAgg232
 z131:=sizeOf232
 v131:=zeroValue232
 t182:=underlying307
 a182:=isAgg307
 z182:=sizeOf307
 v182:=zeroValue307
 t183:=underlying308
 a183:=isAgg308
 z183:=sizeOf308
 v183:=zeroValue308
 t218:=underlying332
 a218:=isAgg332
 z218:=sizeOf332
 v218:=zeroValue332
 t222:=underlying206
 a222:=isAgg206
 z222:=sizeOf206
 v222:=zeroValue206
 t228:=underlying338
 a228:=isAgg338
 z228:=sizeOf338
 v228:=zeroValue338
 t229:=underlying339
 a229:=isAgg339
 z229:=sizeOf339
 v229:=zeroValue339
def qi(w:World)(os:Array Obj):Ext w (Sort.grow w os):=⟨rfl,rfl,rfl,by simp[Sort.grow],λk a=>by simp[Sort.grow,Nz a]⟩
def Ja(xs:List Int):List Int:=xs.mergeSort λx y=>decide (x<=y)
def sortI_mem{xs:List Int}:x∈Ja xs↔x∈xs:=List.mem_mergeSort
def Jb{xs:List Int}:(Ja xs).length=xs.length:=List.length_mergeSort xs
def Je(w:World){xs:List Int}(a:Own w B 3 dh v xs)(m:xs.length<4611686018427387904):
  Rt Vy 114 [v].toArray w λu w'=>u=.tuple #[]/\Own w' B 3 dh v (Ja xs)/\w.grownBy w' v.ownBlock:=by
 have G:w.grownBy w v.ownBlock:=⟨rfl,rfl,rfl,Rq _,λ_ _ _=>rfl⟩;obtain⟨rfl,rfl⟩|⟨g,off,cap,cur,rfl,a⟩:=a
 .refine Oa (Any.slices_Sort_int_none Jc none 0 w) ?_;rintro e w' ⟨rfl,rfl⟩;exact⟨_,rfl,rfl,by rw[show Ja []=[] by simp[Ja]];exact r3,G⟩
 .have r:sz Int=1:=rfl;have p:=a.fit;have K:=a.le;have F:=a.mx;have q:=oP a.el;rw[r,RE]at p q;have b:∀j (hj:j<xs.length),cur[off+j]?=some (Ub xs[j]):=λj hj=>by
   have h1:((cur.toList.drop off).take xs.length)[j]?=(xs.map λx=>Ub x)[j]?:=by rw[q]
   rw[PA hj,Pp,Pu,Pq hj]at h1;simpa using h1
  have L:Sort.Holds (Value.int .i64) w g off xs.toArray:=λj hj=>by
   have o:j<xs.length:=by simpa using hj
   constructor
   .have:xs.toArray[j]! =xs[j]:=by simp[o]
    rw[this];simp[World.cell?,a.blk,b j o]
   .simp[World.frozen?,a.blk]
  have t:=Jb (xs:=xs);refine Oa (Any.slices_Sort_int Jc g off cap xs w L (NB.1 a.blk).1 m) ?_;rintro e w' ⟨rfl,n,os,rfl⟩;generalize l:(xs.mergeSort λx y=>decide (x<=y))=ys at*;have i:ys.length=xs.length:=by rw[<-l];exact t
  rw[show Ja xs=ys from l];have d:(Sort.putRow (Value.int .i64) (Sort.ahead w n) g off ys.toArray).heap[g]?=some (.cells (Sort.putCells (Value.int .i64) off ys.toArray cur) 3 (0,0)):=by show(w.heap.modify g _)[g]?=_;rw[ND,Tn rfl,a.blk];rfl
  have c:∀k,k≠g->(Sort.putRow (Value.int .i64) (Sort.ahead w n) g off ys.toArray).heap[k]?=w.heap[k]?:=λk I=>by show(w.heap.modify g _)[k]?=_;rw[ND,Tm (λe=>I e.symm)]
  have z:(Sort.putRow (Value.int .i64) (Sort.ahead w n) g off ys.toArray).heap.size=w.heap.size:=by show(w.heap.modify g _).size=_;rw[NK]
  have D:(Sort.putRow (Value.int .i64) (Sort.ahead w n) g off ys.toArray).os=w.os:=rfl;have s:(Sort.putRow (Value.int .i64) (Sort.ahead w n) g off ys.toArray).tape=w.tape:=rfl;have C:(Sort.putRow (Value.int .i64) (Sort.ahead w n) g off ys.toArray).output=w.output:=rfl;generalize Sort.putRow (Value.int .i64) (Sort.ahead w n) g off ys.toArray=h at*;have f:Ext h (Sort.grow h os):=qi h os;generalize Sort.grow h os=J at*;have A:(Sort.putCells (Value.int .i64) off ys.toArray cur).size=cur.size:=by simp[Sort.putCells]
  have ho1:Own h B 3 dh (.slice (some ⟨g,off,none⟩) xs.length cap) ys:=by
   refine .inr ⟨g,off,cap,_,by rw[i],⟨d,a.ge,a.nF,by omega,F,by rw[A,r];omega,?_⟩⟩;have M:(((Sort.putCells (Value.int .i64) off ys.toArray cur).toList.drop off).take (ys.length*sz Int))=ys.map λx=>Ub x:=by
    rw[r,RE];refine O4 λj=>?_;by_cases hj:j<xs.length
    .rw[PA TK,Pp,NH,Sort.putCells,NC,b j hj,Pu,Pq TK];simp[show j<ys.length by omega,show off+j<off+ys.length by omega]
    .rw[Pr TR,Pr TR]
   rw[M];exact oQ _ _ _
  have H:w.grownBy J (some g):=⟨f.os.trans D,f.tape.trans s,f.output.trans C,Rr TK f.size,λk I E=>(f.block k TK).trans (c k (λe=>E (by rw[e])))⟩;exact⟨_,rfl,rfl,ho1.extN f,H⟩
def Kj(f:Ltl):de:=(Ja (sD f ([],[])).1,(sD f ([],[])).2)
def nilA5:cH:=([],[],[],[],[])
def Bo(t:Ltl):cH×Int:=if(EV t).2≠0 then(nilA5,(EV t).2)else if C_ (Kj (EV t).1)>10 then(nilA5,2)else(Kh (Kj (EV t).1) (EV t).1,0)
def EW{t:Ltl}(h:(EV t).2=0):MK t/\(EV t).1=EY t/\MK (EY t)/\(EY t).nodes<=60:=by
 unfold EV at h⊢;split at h
 .rename_i h1;exact absurd h h1
 rename_i h1;rw[Tm h1];unfold KX at h⊢;split at h
 .rename_i h2;exact absurd h h2
 rename_i h2;rw[Tm h2];have h1:=(lj t).1 (by simpa using h1);have h2:=(lj (EY t)).1 (by simpa using h2);exact⟨h1.1,rfl,h2.1,h2.2.1⟩
def Kl(f:Ltl):Les (sD f ([],[])) (Kj f):=⟨λx a=>sortI_mem.2 a,λx a=>a⟩
def Kn{f:Ltl}(b:MK f)(c:uG f 10=false)(h1:uG f 11=false):OkM (Kj f):=by have h:=sK f ([],[]) OkM.nil b c h1;exact⟨(List.mergeSort_perm _ _).nodup_iff.2 h.na,λx a=>h.ra x (sortI_mem.1 a),h.wp⟩
def Km{f:Ltl}(b:MK f)(c:uG f 10=false)(h1:uG f 11=false):OkT (Kj f)/\OkF (Kj f) f:=by have d:=Cov.les (Kl f) f (sF f ([],[]));exact⟨⟨Kn b c h1,λg a=>sE f ([],[]) (Kj f) (Kl f) (λg a=>by cases a) g a⟩,b,c,h1,d⟩
def Kk(f:Ltl):(Kj f).1.length=(sD f ([],[])).1.length/\(Kj f).2=(sD f ([],[])).2:=⟨Jb,rfl⟩
def Ki{m:de}{f:Ltl}(h:C_ m<=10):OkA (Kh m f):=by
 have i:2 ^ C_ m<=2 ^ 10:=RK TK h;have b:(Kh m f).2.1.length=2 ^ C_ m:=by show(List.map _ _).length=_;rw[P4,P7]
 have c:∀(p:Nat->Bool),Dy (2 ^ C_ m) (((range (2 ^ C_ m)).filter p).map λs:Nat=>(s:Int)):=λp x e=>by
  obtain⟨y,d,rfl⟩:=Qv.1 e;rw[Qs,QA]at d;have:=d.1;constructor
  .omega
  .exact_mod_cast this
 refine⟨by rw[b];omega,?_,?_,?_,?_,λr a=>?_,λr a=>?_⟩
 .show(List.map _ (List.filter _ _)).length<=80;rw[P4];have:=P3 (λg:Ltl=>decide (g.k≠7)) m.2;unfold C_ at h;omega
 .rw[b];show(List.map _ _).length=_;rw[P4,P7]
 .rw[b];show(List.map _ _).length=_;rw[P4,P7]
 .rw[b];exact c _
 .rw[b];obtain⟨s,_,rfl⟩:=Qv.1 a;exact c _
 .rw[b];obtain⟨s,_,rfl⟩:=Qv.1 a;exact c _
def Bp{t:Ltl}{L:Nat->Nat}(h:(Bo t).2=0):OkA (Bo t).1/\(aa (Bo t).1 L↔If L t 0)/\MK t:=by
 unfold Bo at h⊢;split at h
 .rename_i h1;exact absurd h h1
 rename_i h1;rw[Tm h1];split at h
 .exact absurd h TN
 rename_i h2;rw[Tm h2];obtain⟨b,c,a,_⟩:=EW (by simpa using h1:(EV t).2=0);rw[c]at h2⊢;have hh:=E1 t b;obtain⟨d,hF⟩:=Km a hh.1 hh.2;refine⟨Ki TK,?_,b⟩;show aa (Kh (Kj (EY t)) (EY t)) L↔If L t 0;rw[Ko d hF,E3 t b 0]
def J_{n:Nat}(h:∀r∈g,r.length<=n):edges g<=g.length*n:=by
 induction g with
 |nil=>simp[edges]
 |cons a r b=>
  have h1:=b (λx c=>h x (Qp _ c));have h2:=h a (Qq ..);unfold edges at*;simp only[Qg,QX,PY,Q9];omega
def Ia{p:Nat->Bool}{N:Nat}:(((range N).filter p).map λs:Nat=>(s:Int)).length<=N:=by rw[P4];exact Rr (P3 _ _) (by rw[P7];exact Rq _)
def Bq(t:Ltl):edges (Bo t).1.2.1+(Bo t).1.1.length<=8589934592/\(∀j,((Bo t).1.2.1.getD j []).length<=1048576)/\(Bo t).1.1.length<=1048576:=by
 have c:edges nilA5.2.1+nilA5.1.length<=8589934592/\(∀j,(nilA5.2.1.getD j []).length<=1048576)/\nilA5.1.length<=1048576:=by refine⟨by decide,λj=>?_,by decide⟩;show(([]:List (List Int)).getD j []).length<=_;simp
 unfold Bo;split
 .exact c
 .split
  .exact c
  .rename_i h10;generalize Kj (EV t).1=m at*;generalize (EV t).1=f;have b:2 ^ C_ m<=2 ^ 10:=RK TK TK;have a:∀r∈(Kh m f).2.1,r.length<=1024:=λr d=>by obtain⟨s,_,rfl⟩:=Qv.1 d;exact Rr Ia b
   have e:(Kh m f).2.1.length<=1024:=by show((range (2 ^ C_ m)).map _).length<=1024;rw[P4,P7];exact b
   have h1:(Kh m f).1.length<=1024:=Rr Ia b;have h2:=J_ a;have h3:(Kh m f).2.1.length*1024<=1024*1024:=RD _ e;dsimp only;refine⟨by omega,λj=>?_,by omega⟩;rw[Pl];cases hj:(Kh m f).2.1[j]? with
   |none=>simp
   |some r=>exact Rr (a r (Qx hj)) TN


instance:IsF Vy 244:=Vz func244
def yP(w0:World){ao:Option Addr}{cap:Nat}{xs:List Ltl}{fv:Value}(p:Ltl->Bool)(d:Sl w0 (dk w0) ao cap xs)
  (hf:∀w,Ext w0 w->∀i (h:i<xs.length) u,Rd w (dk w0) u xs[i]->FnV Vy fv [u] w λv w'=>v=.bool (p xs[i])/\Ext w w'):
  Rt Vy 244 [.slice ao xs.length cap,fv].toArray w0 λv w'=>v=Ub (idxOf p xs)/\Ext w0 w':=by
 have l:=d.len63;refine dS func244 ntmps244 rfl rfl (Ut ?_);refine p8 (S:=Nat) (λk=>[(0,.slice ao xs.length cap),(1,fv),(7,Ub xs.length),(8,Ub k)])
  (λk w=>k<=xs.length/\Ext w0 w/\∀j (h:j<xs.length),j<k->p xs[j]=false) (λk=>xs.length -k) 0 TJ ⟨by omega,p7 _,by omega⟩ ?_
 rintro k w ⟨m,b,hn⟩;refine UR ?_;apply ld rfl<;>intro h
 .simp at h;refine Ux ?_;refine fe (d.at b) h TV (λu q f=>?_);refine eL rfl rfl rfl rfl (hf w b k h u f) ?_;rintro v w' ⟨rfl,a⟩;refine UG ?_;refine ld rfl (λc=>?_) (λc=>?_)
  .refine Ud ?_;refine d6 ⟨?_,b.trans a⟩;rw[yl h hn c]
  .refine US ?_;refine m5 (k+1) TJ ⟨h,b.trans a,?_⟩ TK;intro j hj g;by_cases e:j=k
   .subst e;exact c
   .exact hn j hj TK
 .simp at h;refine UF ?_;refine d6 ⟨?_,b⟩;rw[yr (λj hj=>hn j hj TK)]
def jn(a b:Nat)(f:a<4611686018427387904)(e:b<4611686018427387904):bits .and .i64 (a:Int) (b:Int)=((a&&&b:Nat):Int):=by
 have c:a&&&b<=a:=Nat.and_le_left;have h1:(BitVec.ofInt 64 (a:Int)).toNat=a:=by rw[NQ,NR];exact Rz TK
 have h2:(BitVec.ofInt 64 (b:Int)).toNat=b:=by rw[NQ,NR];exact Rz TK
 show IntKind.i64.wrap ((BitVec.ofInt 64 (a:Int)&&&BitVec.ofInt 64 (b:Int)).toNat:Int)=_;rw[BitVec.toNat_and,h1,h2,Np TK TK]
def jq(a b:Nat)(f:a<4611686018427387904)(e:b<4611686018427387904):bits .or .i64 (a:Int) (b:Int)=((a|||b:Nat):Int):=by
 have c:a|||b<2 ^ 62:=RJ TK TK;have h1:(BitVec.ofInt 64 (a:Int)).toNat=a:=by rw[NQ,NR];exact Rz TK
 have h2:(BitVec.ofInt 64 (b:Int)).toNat=b:=by rw[NQ,NR];exact Rz TK
 show IntKind.i64.wrap ((BitVec.ofInt 64 (a:Int)|||BitVec.ofInt 64 (b:Int)).toNat:Int)=_;rw[BitVec.toNat_or,h1,h2,Np TK TK]
def jr(a b:Nat)(e:a<18446744073709551616)(c:b<18446744073709551616):bits .or .u64 (a:Int) (b:Int)=((a|||b:Nat):Int):=bits_or_u64_nat a b e c
def IU{s:Nat}(a:s<62):IntKind.i64.wrap (1*2 ^ min ((s:Int)).toNat IntKind.i64.bits)=((1 <<< s:Nat):Int):=by
 have h1:min s (IntKind.bits .i64)=s:=by show min s 64=s;omega
 have h2:2 ^ s<2 ^ 62:=RM TK a;simp only[Oy,h1,Ov];have h3:((2:Int) ^ s)=((2 ^ s:Nat):Int):=by norm_cast
 rw[h3,RI];generalize 2 ^ s=x at*;rw[Np TK TK]
def IV{s:Nat}(a:s<64):IntKind.u64.wrap (1*2 ^ min ((s:Int)).toNat IntKind.u64.bits)=((1 <<< s:Nat):Int):=by
 have h1:min s (IntKind.bits .u64)=s:=by show min s 64=s;omega
 have h2:2 ^ s<2 ^ 64:=RM TK a;simp only[Oy,h1,Ov];have h3:((2:Int) ^ s)=((2 ^ s:Nat):Int):=by norm_cast
 rw[h3,RI,IntKind.wrap_u64];generalize 2 ^ s=x at*;omega
def HQ(P:Program)(w:World)(a s:Nat)(b:s<=62)(t:TypeId):(binOp .shr t (Ub (a:Int)) (Ub (s:Int))).run P w=.ok (Ub ((a >>> s:Nat):Int)) w:=by
 rw[binOp_shr,shift_shr_i64 (h₀:=by omega) (h₁:=by omega),Oy,RN];have:((a:Int) / 2 ^ s)=((a / 2 ^ s:Nat):Int):=by norm_cast
 rw[this];rfl
section
variable {P:Program}{Q:Exit->Act->World->Prop}{n:Nat}{σ:Sg}{w wc:World}{L rest:List Oper}{ord:List (Nat×Bool)}{S:World->Prop}{i d:Nat}{ty:TypeId}{pos:String}{af:Array Edge}{g:Option (Nat×Bool)}{t yt:TypeId}{x y:Operand}
theorem fY{a s:Nat}(j:gd L σ ⟨some d,.binOp .shr t x y yt,ty,pos,af,g⟩=some true)(hd:ble (d+1) n=true)(e:ev σ x=some (Ub (a:Int)))(c:ev σ y=some (Ub (s:Int)))(f:s<=62)
  (h:WL P L Q rest n ((d,Ub ((a >>> s:Nat):Int))::σ) w):WL P L Q (⟨some d,.binOp .shr t x y yt,ty,pos,af,g⟩::rest) n σ w:=by
 refine VG j hd (λk b=>?_) h;have:=HQ P w a s f t;simp[execOp,b.ev e,b.ev c,pw (op:=.shr) rfl,this]
theorem cD{a s:Nat}(k:C4 L i=some ⟨some d,.binOp .shr t x y yt,ty,pos,af,g⟩)(l:gd L σ ⟨some d,.binOp .shr t x y yt,ty,pos,af,g⟩=some true)(hd:ble (d+1) n=true)(f:ev σ x=some (Ub (a:Int)))(e:ev σ y=some (Ub (s:Int)))(j:s<=62)
  (h:HL P L S Q ord n ((d,Ub ((a >>> s:Nat):Int))::σ) wc):HL P L S Q ((i,true)::ord) n σ wc:=by
 refine VP k l hd (λm b c _=>?_) h;have:=HQ P c a s j t;simp[execOp,b.ev f,b.ev e,pw (op:=.shr) rfl,this]
end
instance:IsFd Vy 212 0 0:=qA TL
instance:IsFd Vy 212 1 1:=qA TL
instance:IsZC Vy 212 [.slice none 0 0,.slice none 0 0]:=v2 (z:=.agg #[.slice none 0 0,.slice none 0 0]) TL rfl
instance:IsBd Vy 212 [(0,1),(1,1)]:=VI TL
structure MkA(w:World)(sb:Nat)(m:de):Prop where
 ok:∃ao ac po pc,Blk w sb 212 [.slice ao m.1.length ac,.slice po m.2.length pc]/\Sl w (dk w) ao ac m.1/\Sl w (dk w) po pc m.2
def MkA.ext{w':World}{m:de}(h:MkA w B m)(a:Ext w w'):MkA w' B m:=by obtain⟨ao,ac,b,c,h1,h2,h3⟩:=h.ok;exact⟨ao,ac,b,c,h1.ext a,h2.up a,h3.up a⟩
def Et(w:World)(b:Nat){t g:Ltl}{ao:Option Addr}(e:Blk w b 32 [Ub t.k,Ub t.n,.slice ao t.kids.length B])(f:Sl w (dk w) ao B t.kids)(h:Sl w (dk w) C a g.kids):
  Rt Vy 245 [Bi g.k g.n C g.kids.length a,Uc b].toArray w λv w'=>v=.bool (H2 t g)/\Ext w w':=by
 refine dS func245 ntmps245 rfl rfl ?_;refine UZ ?_;refine eH λd i c=>?_
 have e:=e.ext c;refine UD ?_;refine eK (FH _ t g T8 d (dk d) ao C B a (f.up c) (h.up c) T0) ?_;rintro _ k ⟨rfl,j⟩
 refine Uf ?_;exact be ⟨rfl,c.trans j⟩
def EB(w:World){m:de}{t:Ltl}(o:MkA w B m)(k:Sl w (dk w) C a t.kids):
  Rt Vy 193 [Uc B,Bi t.k t.n C t.kids.length a].toArray w λv w'=>v=Ub (Ew m t)/\Ext w w':=by
 refine dS func193 ntmps193 rfl rfl (UZ ?_);refine eH λh d e=>?_;obtain⟨ao,ac,q,r,g,h1,h2⟩:=(o.ext e).ok;refine U3 ?_;refine eK (yP h (H2 t) h2 (λf c i hi u j=>?_)) ?_
 .obtain⟨go,gc,rfl,l⟩:=r0 j;exact VE (cs:=[_]) (Et f _ (d.ext c) (k.up (e.trans c)) (l.mono T5 (λb n=>Rv n c.size)))
 rintro _ f ⟨rfl,p⟩;refine Uf ?_;exact be ⟨rfl,e.trans p⟩
def lz{s i:Nat}:((((s >>> i&&&1:Nat):Int))==1)=s.testBit i:=by rw[NU,<-IW];simp only[S3];omega
def lA(w0:World){m:de}{t:Ltl}{s:Nat}(p:MkA w0 B m)(u:Sl w0 (dk w0) C a t.kids)(D:s<1048576)(E:m.1.length<=20/\m.2.length<=20)(h3:t.k=3->t.n∈m.1)(r:t.k≠3->t∈m.2):
  Rt Vy 196 [Uc B,Bi t.k t.n C t.kids.length a,Ub (s:Int)].toArray w0 λv w'=>v=.bool (ly m s t)/\Ext w0 w':=by
 refine dT func196 ntmps196 rfl rfl (UZ ?_);refine eH λb n j=>?_;obtain⟨ao,ac,x,A,f,h1,h2⟩:=(p.ext j).ok;have d:∀i:Nat,s >>> i<4611686018427387904:=λi=>by have:=RO s i;omega
 have c:=mm b;have w:∀z,(λz:World=>Ext (drew b) z) z->Ext (drew b) z:=λ_ h=>h;have l:=f.ext c;have o:=n.ext c;refine Uy ?_;apply ld rfl<;>intro h
 .have h:t.k=3:=by simpa using h
  obtain⟨i,hi,e,_⟩:=iD (h3 h);have k:ly m s t=s.testBit i:=by unfold ly;rw[Tn h,e,Oy]
  rw[k];refine UZ ?_;refine aG (λz:World=>Ext (drew b) z) [Wr 0,Wr 1,Wr 2,Wr 3,Wr 4,Wr 5,Wr 6,Ws 7,Wr 8,Wr 9,Wr 10,Wr 11] mixed TL T_ (Vq ?_);refine cy rfl (eK (yS (drew b) t.n (h1.up c)) ?_);rintro _ q ⟨rfl,g⟩;refine p0 (a8 g ?_);rw[show idxOf (λy=>t.n==y) m.1=(i:Int) from e];refine cD rfl rfl rfl rfl rfl TK (Vr ?_);rw[show bits .and .i64 ((s >>> i:Nat):Int) 1=((s >>> i&&&1:Nat):Int) from jn _ 1 (d i) TK,lz];refine Uk ?_;exact be ⟨rfl,(j.trans c).trans g⟩
 .have h:t.k≠3:=by simpa using h
  obtain⟨i,hi,e,_⟩:=Ex (r h);have k:ly m s t=s.testBit (m.1.length+i):=by unfold ly;rw[Tm h,e,Oy]
  rw[k];refine UW ?_;refine aG (λz:World=>Ext (drew b) z) [Wr 0,Wr 1,Wr 2,Wr 3,Wr 4,Wr 5,Wr 6,Wr 7,Ws 8,Wr 9,Wr 10,Wr 11,Wr 12,Wr 13] mixed TL T_ (Vm ?_);refine cy rfl (eK (EB (drew b) (t:=t) ((p.ext j).ext c) (u.up (j.trans c))) ?_);rintro _ q ⟨rfl,g⟩;refine p0 (a8 g ?_);rw[e];refine Vn ?_;rw[show((m.1.length:Nat):Int)+(i:Int)=((m.1.length+i:Nat):Int) by omega];refine cD rfl rfl rfl rfl rfl TK (Vr ?_);rw[show bits .and .i64 ((s >>> (m.1.length+i):Nat):Int) 1=((s >>> (m.1.length+i)&&&1:Nat):Int) from jn _ 1 (d _) TK,lz];refine UQ ?_;exact be ⟨rfl,(j.trans c).trans g⟩
def MO:∀t,MK t->t=.mk 1 0 []\/t=.mk 2 0 []\/(∃n,t=.mk 3 n [])\/(∃k a,(k=4\/k=7\/k=10\/k=11)/\t=.mk k 0 [a])\/∃k a b,(k=5\/k=6\/k=8\/k=9)/\t=.mk k 0 [a,b]:=
 MP (M:=λt=>t=.mk 1 0 []\/t=.mk 2 0 []\/(∃n,t=.mk 3 n [])\/(∃k a,(k=4\/k=7\/k=10\/k=11)/\t=.mk k 0 [a])\/∃k a b,(k=5\/k=6\/k=8\/k=9)/\t=.mk k 0 [a,b])
  (.inl rfl) (.inr (.inl rfl)) (λn _ _=>.inr (.inr (.inl ⟨n,rfl⟩))) (λk a c _ _=>.inr (.inr (.inr (.inl ⟨k,a,c,rfl⟩)))) (λk a b c _ _ _ _=>.inr (.inr (.inr (.inr ⟨k,a,b,c,rfl⟩))))
theorem KH:∀(d:Nat) (t:Ltl),t.nodes<=d->∀(w0:World) {sb:Nat} {m:de} {s:Nat} {ko:Option Addr} {kc:Nat},MkA w0 sb m->OkF m t->Sl w0 (dk w0) ko kc t.kids->s<1048576->(m.1.length<=20/\m.2.length<=20)->
  Rt Vy 116 [Uc sb,Bi t.k t.n ko t.kids.length kc,Ub (s:Int)].toArray w0 λv w'=>v=.bool (uI m s t)/\Ext w0 w':=by
 intro d
 induction d with
 |zero=>intro t h;have:=t.nodes_pos;omega
 |succ d D=>
  intro t hd w0 sb m s ko kc A hF y w x
  have J:=hF.cov;rcases MO t hF.wf with rfl|rfl|⟨n,rfl⟩|⟨k,a,G,rfl⟩|⟨k,a,b,G,rfl⟩
  .refine dT Sd Si rfl rfl ?_
   rw[ho1];refine UZ ?_;refine eH λp c e=>?_
   refine U2 ?_;exact be ⟨rfl,e⟩
  .refine dT Sd Si rfl rfl ?_
   rw[ho2];refine UZ ?_;refine eH λp c e=>?_
   refine U2 ?_;exact be ⟨rfl,e⟩
  .simp only[Cov]at J
   have h3:=ho3 (m:=m) (s:=s) (n:=n);refine dT Sd Si rfl rfl ?_;refine UZ ?_;refine eH λp c e=>?_
   refine U3 ?_;refine eK (lA p (t:=.mk 3 n []) (A.ext e) (y.up e) w x (λ_=>J.1 trivial) (λh=>absurd rfl h)) ?_;rintro _ C ⟨rfl,f⟩
   refine Uf ?_;exact bd rfl rfl ⟨by rw[h3];rfl,e.trans f⟩
  .have H:=hF.un
   have z:a.nodes<=d:=by simp only[Ltl.nodes,Ltl.nodesL]at hd;omega
   rcases G with rfl|rfl|rfl|rfl
   .refine dT Sd Si rfl rfl ?_
    rw[ho4];refine UZ ?_;refine eH λp c e=>?_
    refine UO ?_;refine fd (i:=0) rfl rfl rfl rfl rfl (y.up e) (by simp[Ltl.kids]) TV (λu q o=>?_);obtain⟨uo,uc,rfl,g⟩:=Rd.ltl (t:=a) o;refine U9 ?_;refine eK (D a z p (A.ext e) H g w x) ?_;rintro _ C ⟨rfl,f⟩
    refine UX ?_;exact be ⟨rfl,e.trans f⟩
   .simp only[Cov]at J
    have N:=ho7 (m:=m) (s:=s) (n:=0) (a:=a);refine dT Sd Si rfl rfl ?_;refine UZ ?_;refine eH λp c e=>?_
    refine U3 ?_;refine eK (lA p (t:=.mk 7 0 [a]) (A.ext e) (y.up e) w x (λh=>by cases h) (λ_=>J.2.1 TO)) ?_;rintro _ C ⟨rfl,f⟩
    refine Uf ?_;exact bd rfl rfl ⟨by rw[N];rfl,e.trans f⟩
   .have:=hF.h10;simp[uG]at this
   .have:=hF.h11;simp[uG]at this
  .have H:=hF.b1
   have K:=hF.b2;have z:a.nodes<=d:=by simp only[Ltl.nodes,Ltl.nodesL]at hd;omega
   have E:b.nodes<=d:=by simp only[Ltl.nodes,Ltl.nodesL]at hd;omega
   rcases G with rfl|rfl|rfl|rfl
   .refine dT Sd Si rfl rfl ?_
    rw[ho5];refine UZ ?_;refine eH λp c e=>?_
    refine UO ?_;refine fd (i:=0) rfl rfl rfl rfl rfl (y.up e) (by simp[Ltl.kids]) TV (λu q o=>?_);obtain⟨uo,uc,rfl,g⟩:=Rd.ltl (t:=a) o;refine U9 ?_;refine eK (D a z p (A.ext e) H g w x) ?_;rintro _ C ⟨rfl,f⟩
    have c:=c.ext f;cases uI m s a
    .refine UK ?_
     exact be ⟨rfl,e.trans f⟩
    .refine Vc ?_
     refine fd (i:=1) rfl rfl rfl rfl rfl (y.up (e.trans f)) (by simp[Ltl.kids]) TV (λu q o=>?_);obtain⟨vo,vc,rfl,r⟩:=Rd.ltl (t:=b) o;refine U9 ?_;refine eK (D b E C (A.ext (e.trans f)) K r w x) ?_;rintro _ I ⟨rfl,F⟩
     refine UX ?_;exact be ⟨rfl,(e.trans f).trans F⟩
   .refine dT Sd Si rfl rfl ?_
    rw[ho6];refine UZ ?_;refine eH λp c e=>?_
    refine UO ?_;refine fd (i:=0) rfl rfl rfl rfl rfl (y.up e) (by simp[Ltl.kids]) TV (λu q o=>?_);obtain⟨uo,uc,rfl,g⟩:=Rd.ltl (t:=a) o;refine U9 ?_;refine eK (D a z p (A.ext e) H g w x) ?_;rintro _ C ⟨rfl,f⟩
    have c:=c.ext f;cases uI m s a
    .refine Vc ?_
     refine fd (i:=1) rfl rfl rfl rfl rfl (y.up (e.trans f)) (by simp[Ltl.kids]) TV (λu q o=>?_);obtain⟨vo,vc,rfl,r⟩:=Rd.ltl (t:=b) o;refine U9 ?_;refine eK (D b E C (A.ext (e.trans f)) K r w x) ?_;rintro _ I ⟨rfl,F⟩
     refine UX ?_;exact be ⟨rfl,(e.trans f).trans F⟩
    .refine UK ?_
     exact be ⟨rfl,e.trans f⟩
   .have B:=hF.cov
    simp only[Cov]at B
    refine dT Sd Si rfl rfl ?_;rw[ho8];refine UZ ?_;refine eH λp c e=>?_
    refine UO ?_;refine fd (i:=1) rfl rfl rfl rfl rfl (y.up e) (by simp[Ltl.kids]) TV (λu q o=>?_);obtain⟨uo,uc,rfl,r⟩:=Rd.ltl (t:=b) o;refine U9 ?_;refine eK (D b E p (A.ext e) K r w x) ?_;rintro _ C ⟨rfl,f⟩
    have c:=c.ext f;have l:=e.trans f;cases uI m s b
    .refine Vc ?_
     refine fd (i:=0) rfl rfl rfl rfl rfl (y.up l) (by simp[Ltl.kids]) TV (λu q o=>?_);obtain⟨vo,vc,rfl,g⟩:=Rd.ltl (t:=a) o;refine U9 ?_;refine eK (D a z C (A.ext l) H g w x) ?_;rintro _ I ⟨rfl,F⟩
     have c:=c.ext F;have j:=l.trans F;cases uI m s a
     .refine UK ?_
      exact be ⟨rfl,j⟩
     .refine Vh ?_
      refine eK (lA I (t:=.mk 8 0 [a,b]) (A.ext j) (y.up j) w x (λh=>by cases h) (λ_=>B.2.1 TO)) ?_;rintro _ M ⟨rfl,L⟩
      refine UX ?_;exact be ⟨rfl,j.trans L⟩
    .refine UK ?_
     exact be ⟨rfl,l⟩
   .have B:=hF.cov
    simp only[Cov]at B
    refine dT Sd Si rfl rfl ?_;rw[ho9];refine UZ ?_;refine eH λp c e=>?_
    refine UO ?_;refine fd (i:=1) rfl rfl rfl rfl rfl (y.up e) (by simp[Ltl.kids]) TV (λu q o=>?_);obtain⟨uo,uc,rfl,r⟩:=Rd.ltl (t:=b) o;refine U9 ?_;refine eK (D b E p (A.ext e) K r w x) ?_;rintro _ C ⟨rfl,f⟩
    have c:=c.ext f;have l:=e.trans f;cases uI m s b
    .refine UK ?_
     exact be ⟨rfl,l⟩
    .refine Vc ?_
     refine fd (i:=0) rfl rfl rfl rfl rfl (y.up l) (by simp[Ltl.kids]) TV (λu q o=>?_);obtain⟨vo,vc,rfl,g⟩:=Rd.ltl (t:=a) o;refine U9 ?_;refine eK (D a z C (A.ext l) H g w x) ?_;rintro _ I ⟨rfl,F⟩
     have c:=c.ext F;have j:=l.trans F;cases uI m s a
     .refine Vh ?_
      refine eK (lA I (t:=.mk 9 0 [a,b]) (A.ext j) (y.up j) w x (λh=>by cases h) (λ_=>B.2.1 TO)) ?_;rintro _ M ⟨rfl,L⟩
      refine UX ?_;exact be ⟨rfl,j.trans L⟩
     .refine UK ?_
      exact be ⟨rfl,j⟩
def Eb(w:World){m:de}{s:Nat}(b:MkA w B m)(e:m.1.length<=20):Rt Vy 118 [Uc B,Ub (s:Int)].toArray w λv w'=>v=Ub ((s >>> m.1.length:Nat):Int)/\w=w':=by obtain⟨ao,ac,c,d,a,h1,h2⟩:=b.ok;refine dS func118 ntmps118 rfl rfl (UE ?_);refine fY rfl rfl rfl rfl TK (Uf ?_);exact be ⟨rfl,rfl⟩
def ig{n:Int}{a:Ltl}:ie (.mk 7 n [a])=a:=rfl
def ij{k n:Int}{l:List Ltl}(h:k=8\/k=9):ie (.mk k n l)=.mk k n l:=by unfold ie;rw[Tm (by simp only[Ltl.k];omega)]
def zK(w0:World){m:de}{s:Nat}(T:MkA w0 B m)(R:OkT m)(Y:s<1048576)(Z:m.1.length<=20/\m.2.length<=20):
  Rt Vy 115 [Uc B,Ub (s:Int)].toArray w0 λv w'=>v=Ub ((zI m s:Nat):Int)/\Ext w0 w':=by
 obtain⟨ao,ac,po,pc,hblk,h1,h2⟩:=T.ok;have hpl:=h2.len63;refine dS func115 ntmps115 rfl rfl (UE ?_);refine p8 (S:=Nat) (λi=>[(0,Uc B),(1,Ub (s:Int)),(5,Ub ((Ef (λi=>uI m s (ie (m.2.getD i Cs))) i:Nat):Int)),(12,.slice po m.2.length pc),(13,Ub m.2.length),(14,Ub i)])
  (λi w=>i<=m.2.length/\Ext w0 w) (λi=>m.2.length -i) 0 TJ ⟨RU _,p7 _⟩ ?_
 rintro i w ⟨hi,J⟩;have hpk:=Ei (f:=λi=>uI m s (ie (m.2.getD i Cs))) (c:=i);have y:2 ^ i<=2 ^ 20:=RK TK TK;refine UR ?_;apply ld rfl<;>intro h
 .have j:i<m.2.length:=by simp at h;omega
  have G:m.2[i]∈m.2:=PL j;have Q:m.2.getD i Cs=m.2[i]:=tN j;have hF:=R.arg G;have O:=EC (R.part G).wf (R.ok.wp _ G).2.1;have d:Ef (λi=>uI m s (ie (m.2.getD i Cs))) (i+1)=if uI m s (ie m.2[i])=true then Ef (λi=>uI m s (ie (m.2.getD i Cs))) i|||(1 <<< i)else Ef (λi=>uI m s (ie (m.2.getD i Cs))) i:=by rw[Ef,Q]
  have U:2 ^ i<4611686018427387904:=Ru y TN;generalize Ef (λi=>uI m s (ie (m.2.getD i Cs))) i=acc at*;have z:=jq acc (1 <<< i) TK (by rw[RI];exact U);refine UB ?_;refine fe (h2.up J) j TV (λu q N=>?_);generalize m.2[i]=g at*;obtain⟨go,gc,rfl,D⟩:=r0 N;refine eC (λw1 l e1=>?_);have z1:=l.lt;refine U9 ?_;refine f7 l (λX l F=>?_);have L:Ext w X:=e1.grown F e1.size TX;refine UD ?_;refine eC (λw3 o W=>?_);have l:=l.ext W;refine f7 o (λM o E=>?_);have K:Ext X M:=W.grown E W.size TX;have z2:=F.size;have n:=(J.trans L).trans K;have C:=D.up (L.trans K);have l:=l.kept E T3;obtain⟨a,rfl⟩|⟨k,a,b,hk,rfl⟩:=O
  .rw[ig]at hF d;refine UO ?_;refine fd (i:=0) rfl rfl rfl rfl rfl (D.mono (w':=M) (λb r=>(L.trans K).block b r) (F':=dk w) T0) (by simp[Ltl.kids]) TV (λu q N=>?_);obtain⟨uo,uc,rfl,P⟩:=r0 (t:=a) N;refine f7 o (λx o p=>?_);have V:Ext w0 x:=n.grown p n.size (λg G=>by cases G;have:=J.size;omega);have z4:=(L.trans K).size;have z5:=p.size;have A:Sl x (dk x) uo uc a.kids:=P.mono (λb r=>p.block b (by have H:b<w.heap.size:=r;omega) (λe=>by have:=R4 e;have H:b<w.heap.size:=r;omega)) (λb r=>by have H:b<w.heap.size:=r;exact(show b<x.heap.size by omega));refine UD ?_;refine eK (KH _ a T8 x (T.ext V) hF A Y Z) ?_;rintro _ w6 ⟨rfl,I⟩;cases hh:uI m s a
   .rw[hh,Tm TN]at d;refine US ?_;refine m5 (i+1) ?_ ⟨j,V.trans I⟩ TK;rw[d];exact TJ
   .rw[hh,Tn rfl]at d;refine UL ?_;rw[IU (show i<62 by omega),z];refine m5 (i+1) ?_ ⟨j,V.trans I⟩ TK;rw[d];exact TJ
  .rw[ij hk]at hF d;have h7:(k==7)=false:=by rw[S2];omega
   refine Uy ?_;refine ld rfl (λh=>by rw[show((Ltl.mk k 0 [a,b]).k==7)=false from h7]at h;cases h) (λ_=>Uv ?_);refine eK (KH _ (.mk k 0 [a,b]) T8 M (T.ext n) hF C Y Z) ?_;rintro _ w6 ⟨rfl,I⟩;cases hh:uI m s (.mk k 0 [a,b])
   .rw[hh,Tm TN]at d;refine US ?_;refine m5 (i+1) ?_ ⟨j,n.trans I⟩ TK;rw[d];exact TJ
   .rw[hh,Tn rfl]at d;refine UL ?_;rw[IU (show i<62 by omega),z];refine m5 (i+1) ?_ ⟨j,n.trans I⟩ TK;rw[d];exact TJ
 .obtain rfl:i=m.2.length:=by simp at h;omega
  refine UF ?_;exact be ⟨rfl,J⟩
def KF{s i:Nat}(a:s<1048576)(is:Bool):((((bits .and .i64 ((s >>> i:Nat):Int) 1:Int)==1))==is)=(s.testBit i==is):=by rw[show bits .and .i64 ((s >>> i:Nat):Int) 1=((s >>> i&&&1:Nat):Int) from jn _ 1 (by have:=RO s i;omega) TK,lz]
def jp(w0:World){m:de}{s:Nat}(is:Bool)(u:MkA w0 B m)(l:OkM m)(r:s<1048576)(C:m.1.length<=20):
  Rt Vy 119 [Uc B,Ub (s:Int),.bool is].toArray w0 λv w'=>v=.int .u64 ((jm m s is:Nat):Int)/\Ext w0 w':=by
 obtain⟨ao,ac,z,A,n,h1,h2⟩:=u.ok;refine dT func119 ntmps119 rfl rfl (UE ?_);refine p8 (S:=Nat) (λi=>[(1,Ub (s:Int)),(2,.bool is),(7,.int .u64 ((jj m.1 s is i:Nat):Int)),(13,.slice ao m.1.length ac),(14,Ub m.1.length),(15,Ub i)])
  (λi w=>i<=m.1.length/\Ext w0 w) (λi=>m.1.length -i) 0 TJ ⟨RU _,p7 _⟩ ?_
 rintro i w ⟨hi,f⟩;have t:=jk (s:=s) (is:=is) (λx p=>(l.ra x p).2) hi;refine UR ?_;apply ld rfl<;>intro h
 .have c:i<m.1.length:=by simp at h;omega
  have j:=l.ra _ (PL c);have k:m.1.getD i 0=m.1[i]:=by rw[Pl,Pq c];rfl
  have b:jj m.1 s is (i+1)=if s.testBit i=is then jj m.1 s is i|||(1 <<< (m.1.getD i 0).toNat)else jj m.1 s is i:=rfl;rw[k]at b;generalize jj m.1 s is i=acc at*;obtain⟨a,o⟩:=Om j.1;have d:a<64:=by omega
  rw[o,Oy]at b;have y:2 ^ a<2 ^ 64:=RM TK d;have g:=jr acc (1 <<< a) TK (by rw[RI];omega);refine UB ?_;refine e_ (h1.up f) c o TV (λq=>?_);refine UR ?_;refine fY rfl rfl rfl rfl TK (U2 ?_);rw[KF r];by_cases e:s.testBit i=is
  .rw[Tn e]at b;rw[show(s.testBit i==is)=true by rw[e];simp];refine UL ?_;rw[IV d,g];refine m5 (i+1) ?_ ⟨c,f⟩ TK;rw[b];exact TJ
  .rw[Tm e]at b;rw[show(s.testBit i==is)=false by rw[S2];exact e];refine US ?_;refine m5 (i+1) ?_ ⟨c,f⟩ TK;rw[b];exact TJ
 .obtain rfl:i=m.1.length:=by simp at h;omega
  refine UF ?_;exact be ⟨rfl,f⟩
def KG(w0:World){m:de}{s:Nat}{k:Int}{a b:Ltl}(l:MkA w0 B m)(hF:OkF m (.mk k 0 [a,b]))(y:k=8\/k=9)(f:Sl w0 (dk w0) C K [a,b])(h:s<1048576)(j:m.1.length<=20/\m.2.length<=20):
  Rt Vy 120 [Uc B,Bi k 0 C 2 K,Ub (s:Int)].toArray w0 λv w'=>v=.bool (qk m (.mk k 0 [a,b]) s)/\Ext w0 w':=by
 have r:qk m (.mk k 0 [a,b]) s=if k=8 then !(uI m s (.mk k 0 [a,b]))||uI m s b else uI m s (.mk k 0 [a,b])||!(uI m s b):=rfl
 rw[r];rcases y with rfl|rfl
 .rw[Tn rfl]
  refine dT func120 ntmps120 rfl rfl ?_;refine UZ ?_;refine eH λo d c=>?_
  refine UI ?_;refine eK (KH _ (.mk 8 0 [a,b]) T8 o (l.ext c) hF (f.up c) h j) ?_;rintro _ n ⟨rfl,e⟩
  have d:=d.ext e;cases uI m s (.mk 8 0 [a,b])
  .refine UK ?_
   exact be ⟨rfl,c.trans e⟩
  .refine Vc ?_
   refine fd (i:=1) rfl rfl rfl rfl rfl (f.up (c.trans e)) TO TV (λu q p=>?_);obtain⟨vo,vc,rfl,g⟩:=r0 (t:=b) p;refine U9 ?_;refine eK (KH _ b T8 n (l.ext (c.trans e)) hF.b2 g h j) ?_;rintro _ x ⟨rfl,w⟩
   refine UX ?_;exact be ⟨rfl,(c.trans e).trans w⟩
 .rw[Tm TN]
  refine dT func120 ntmps120 rfl rfl ?_;refine UZ ?_;refine eH λo d c=>?_
  refine U3 ?_;refine eK (KH _ (.mk 9 0 [a,b]) T8 o (l.ext c) hF (f.up c) h j) ?_;rintro _ n ⟨rfl,e⟩
  have d:=d.ext e;cases uI m s (.mk 9 0 [a,b])
  .refine Vc ?_
   refine fd (i:=1) rfl rfl rfl rfl rfl (f.up (c.trans e)) TO TV (λu q p=>?_);obtain⟨vo,vc,rfl,g⟩:=r0 (t:=b) p;refine U9 ?_;refine eK (KH _ b T8 n (l.ext (c.trans e)) hF.b2 g h j) ?_;rintro _ x ⟨rfl,w⟩
   refine Uf ?_;exact be ⟨rfl,(c.trans e).trans w⟩
  .refine UK ?_
   exact be ⟨rfl,c.trans e⟩
def DX(L:List Oper)(c:Nat)(B:Array Bool->Bool):List (Nat×Nat)->Array Bool->Bool
 |[],a=>B a
 |(i,k)::r,a=>match k with
  |0=>decide (ready .any L.toArray a=[i])&&DX L c B r (a.setIfInBounds i true)
  |1=>(ready .any L.toArray a).contains i&&Region.free .any L.toArray a i&&decide (i≠c)&&decide (i≠L.length)&&DX L c B r (a.setIfInBounds i true)
  |2=>(ready .any L.toArray a).contains i&&Region.free .any L.toArray a i&&decide (i≠c)&&decide (i≠L.length)&&i7 L c i&&DX L c B r (a.setIfInBounds i true)
  |_=>false
def Nn{P:Program}{L:List Oper}{c n0:Nat}{Sw Ss:World->Prop}{Q Q':Act->World->Prop}{Bc:Array Bool->Bool}(F:Region.noSelect L.toArray=true)
  (m:∀(ph:Bool) (b:Array Bool) (a:Act) (w:World),Bc b=true->Cls L b->b.getD c false=ph->SG c L.length Sw Ss b w->Q' a w->M8 P L.toArray (λe a w=>e=.normal/\Q a w) (SG c L.length Sw Ss) n0 b a w):
  ∀(ord:List (Nat×Nat)) (ph:Bool) (b:Array Bool) (a:Act) (w:World),DX L c Bc ord b=true->Cls L b->(b.getD c false=ph)->SG c L.length Sw Ss b w->Nk P L c L.length Sw Ss Q' ph ord a w->
   M8 P L.toArray (λe a w=>e=.normal/\Q a w) (SG c L.length Sw Ss) (ord.length+n0) b a w
 |[],ph,b,a,w,y,u,p,hS,h=>by rw[P5,RT];exact m ph b a w y u p hS h
 |(i,0)::r,ph,b,a,w,y,u,p,hS,⟨o,B,h⟩=>by
  simp only[DX,NS,Td]at y;obtain⟨J,I⟩:=y;have g:i∈ready .any L.toArray b:=by rw[J];simp
  have H:=u.put g;have G:i<L.length:=(Pt.1 B).1;have d:(b.setIfInBounds i true).getD c false=(ph||beq i c):=by
   cases e:beq i c with
   |true=>
    obtain rfl:=Ri e;have:=u.size;simp[Ny,show i<b.size by omega]
   |false=>
    have f:i≠c:=λh=>by subst h;rw[Rf]at e;cases e
    rw[tF f,p,N7]
  rw[PY,Ra];refine⟨λR=>(by rw[R]at g;cases g),λj hj=>?_⟩;rw[J,QC]at hj;subst hj;have s:L.toArray[j]?=some o:=by simpa using B
  unfold wpOp;simp only[s];split
  .rename_i D;rw[Tn D]at h;refine .inl (No (λx a w f hf=>absurd hf.1 f) (RX (λS w' K=>⟨λ_=>⟨K.1,λC=>K.2.1 (d▸C)⟩,Nn F m r _ _ _ _ I H d (λ_=>⟨K.1,λC=>K.2.1 (d▸C)⟩) K.2.2⟩) h))
  .rename_i D;rw[Tm D]at h;exact⟨λ_=>⟨h.1,λC=>h.2.1 (d▸C)⟩,Nn F m r _ _ _ _ I H d (λ_=>⟨h.1,λC=>h.2.1 (d▸C)⟩) h.2.2⟩
 |(i,1)::r,ph,b,a,w,y,u,p,hS,⟨o,v,B,M,h⟩=>by
  simp only[DX,NS,Td]at y;obtain⟨⟨⟨⟨h1,h2⟩,f⟩,q⟩,h3⟩:=y;have g:i∈ready .any L.toArray b:=by simpa using h1
  have s:L.toArray[i]?=some o:=by simpa using B
  have d:(b.setIfInBounds i true).getD c false=ph:=by rw[tF f];exact p
  have G:i<L.length:=(Pt.1 B).1;have E:b.getD i false=false:=by have:=(Tp.1 g).1;have N:=u.size;rw[tG TK]at this;simpa using this
  have A:∀l:Array Bool,Cls L l->l.getD L.length false=false:=λl t=>by have:=t.size;simp[Ny,NA (show l.size<=L.length by omega)]
  rw[PY,Ra];exact M9 s (R_ F) (λ_ _ _ h=>by cases h.1) (λl=>Cls L l/\l.getD i false=false) (λl j t z hj=>⟨t.1.put hj,by rw[tF z];exact t.2⟩) (λl w=>dW f q l w) (r.length+n0) b a w ⟨u,E⟩ (R9 s h2) g
   (Ns M λw ⟨l,t,D⟩=>(D (A l t.1)).1) hS (Nn F m r ph _ _ _ h3 (u.put g) d ((dW f q _ _).2 hS) h)
 |(i,2)::r,ph,b,a,w,y,u,p,hS,⟨o,v,B,M,h⟩=>by
  simp only[DX,NS,Td]at y;obtain⟨⟨⟨⟨⟨h1,h2⟩,f⟩,q⟩,O⟩,h3⟩:=y;have g:i∈ready .any L.toArray b:=by simpa using h1
  have s:L.toArray[i]?=some o:=by simpa using B
  have d:(b.setIfInBounds i true).getD c false=ph:=by rw[tF f];exact p
  have G:i<L.length:=(Pt.1 B).1;have E:b.getD i false=false:=by have:=(Tp.1 g).1;have N:=u.size;rw[tG TK]at this;simpa using this
  have A:∀l:Array Bool,Cls L l->l.getD L.length false=false:=λl t=>by have:=t.size;simp[Ny,NA (show l.size<=L.length by omega)]
  rw[PY,Ra];exact M9 s (R_ F) (λ_ _ _ h=>by cases h.1) (λl=>Cls L l/\l.getD i false=false) (λl j t z hj=>⟨t.1.put hj,by rw[tF z];exact t.2⟩) (λl w=>dW f q l w) (r.length+n0) b a w ⟨u,E⟩ (R9 s h2) g
   (Ns M λw ⟨l,t,D⟩=>(D (A l t.1)).2 (i9 O t.1 t.2)) hS (Nn F m r ph _ _ _ h3 (u.put g) d ((dW f q _ _).2 hS) h)
 |(i,k+3)::r,ph,b,a,w,y,u,p,hS,_=>by simp[DX]at y
def DN(P:Program)(ops:List Oper)(o:Oper)(a:Act)(w:World)(K:Act->World->Prop):Prop:=
 if Region.wanted o (yielded ops.toArray a.tmps)=true then o.wp P a w K (λe _ _=>e=.normal)else K (a.put o.dst undef) w
def Ej(L:List Oper)(i c:Nat)(a:Array Bool):Bool:=
 (decide (ready .any L.toArray a=[i,c])||decide (ready .any L.toArray a=[c,i]))&&decide (ready .any L.toArray (a.setIfInBounds i true)=[c])&&decide (ready .any L.toArray (a.setIfInBounds c true)=[i])&&
  (ready .any L.toArray ((a.setIfInBounds i true).setIfInBounds c true)).isEmpty&&(ready .any L.toArray ((a.setIfInBounds c true).setIfInBounds i true)).isEmpty&&decide (i≠c)
def Ek(P:Program)(L:List Oper)(i c:Nat)(Sw Ss:World->Prop)(Q:Act->World->Prop)(a:Act)(w:World):Prop:=
 ∃oi oc,L[i]?=some oi/\L[c]?=some oc/\DN P L oi a w (λd w'=>Sw w'/\Ss w'/\DN P L oc d w' (λb w''=>Sw w''/\Q b w''))/\DN P L oc a w (λd w'=>Sw w'/\True/\DN P L oi d w' (λb w''=>Sw w''/\Q b w''))
def DP{i:Nat}{Q:Act->World->Prop}{K K':Act->World->Prop}{a:Act}(j:L[i]?=some o)(h:DN P L o a w K)(g:∀a w,K a w->K' a w):wpOp P L.toArray (λe a w=>e=.normal/\Q a w) i K' a w:=by
 have d:L.toArray[i]?=some o:=by simpa using j
 unfold DN at h;unfold wpOp;simp only[d];split
 .rename_i b;rw[Tn b]at h;exact .inl (No (λx a w f hf=>absurd hf f) (RX g h))
 .rename_i b;rw[Tm b]at h;exact g _ _ h
def El{i c:Nat}{Ss:World->Prop}{Q:Act->World->Prop}(b:Array Bool)(a:Act)(w:World)(v:Ej L i c b=true)(D:Cls L b)(h:Ek P L i c S Ss Q a w):
  M8 P L.toArray (λe a w=>e=.normal/\Q a w) (SG c L.length S Ss) 2 b a w:=by
 unfold Ej at v;simp only[NS,N6,Td,PW]at v;obtain⟨⟨⟨⟨⟨h1,h2⟩,h3⟩,h4⟩,E⟩,t⟩:=v;obtain⟨oi,oc,m,f,k1,k2⟩:=h;have p:i∈ready .any L.toArray b:=by rcases h1 with h1|h1<;>rw[h1]<;>simp
 have C:c∈ready .any L.toArray b:=by rcases h1 with h1|h1<;>rw[h1]<;>simp
 have y:=D.size;have B:c<L.length:=(Pt.1 f).1;have d:(b.setIfInBounds c true).getD c false=true:=by simp[Ny,show c<b.size by omega]
 have last:∀(l:Array Bool) (j:Nat) (o:Oper) (g:Act) (w':World),L[j]?=some o->ready .any L.toArray l=[j]->ready .any L.toArray (l.setIfInBounds j true)=[]->(l.setIfInBounds j true).getD c false=true->DN P L o g w' (λq w''=>S w''/\Q q w'')->
   M8 P L.toArray (λe a w=>e=.normal/\Q a w) (SG c L.length S Ss) 1 l g w':=λl j o g w' z x s A ho1=>by
  refine⟨λr=>(by rw[x]at r;cases r),λF hj=>?_⟩;rw[x,QC]at hj;subst hj;exact DP z ho1 λq w'' hq=>⟨λ_=>⟨hq.1,λk=>by rw[A]at k;cases k⟩,s,rfl,hq.2⟩
 refine⟨λr=>(by rw[r]at p;cases p),λj hj=>?_⟩;have u:j=i\/j=c:=by rcases h1 with h1|h1<;>rw[h1]at hj<;>simp at hj<;>omega
 obtain rfl|rfl:=u
 .refine DP m k1 λg w' hq=>⟨λ_=>⟨hq.1,λ_=>hq.2.1⟩,last _ c oc g w' f h2 h4 ?_ hq.2.2⟩;simp[Ny,show c<b.size by omega]
 .refine DP f k2 λg w' hq=>⟨λ_=>⟨hq.1,λk=>by rw[d]at k;cases k⟩,last _ i oi g w' m h3 E ?_ hq.2.2⟩;rw[tF t];exact d
section
variable {P:Program}{Q:Exit->Act->World->Prop}{n:Nat}{σ:Sg}{w:World}{L:List Oper}{i c:Nat}{Sw Ss:World->Prop}
def dm(P:Program)(L:List Oper)(i c:Nat)(Sw Ss:World->Prop)(Q:Exit->Act->World->Prop):Exit->Act->World->Prop:=λx a w=>x=.normal/\Ek P L i c Sw Ss (λa w=>Q .normal a w) a w
theorem aJ{id:Nat}(i c:Nat)(Sw Ss:World->Prop)(ord:List (Nat×Nat))(l:P.follows .mixedOrders=true)(d:(Region.noSelect L.toArray&&decide (ord.length+2=L.length)&&DX L c (Ej L i c) ord (Array.replicate L.length false))=true)(g:Sw (drew w))(hS:Ss (drew w))
  (h:HP P L c L.length Sw Ss (dm P L i c Sw Ss Q) false ord n σ (drew w)):CW P (.region id L.toArray true) Q n σ w:=by
 unfold CW;unfold HP at h;intro a s;simp only[NS,Td]at d;obtain⟨⟨j,m⟩,d⟩:=d;have f:∀k,(Array.replicate L.length false).getD k false=false:=λk=>by simp[Ny,NE];split<;>rfl
 have h1:=Nn (n0:=2) (Bc:=Ej L i c) (Q:=λa w=>Q .normal a w) j (λph b a w r q _ _ hq=>El b a w r q hq.2) ord false (Array.replicate L.length false) a (Go.Proofs.YtfpjecjadlgdcaaGreatDoor.drew w) d ⟨by simp,λk o e=>by rw[f k]at e;cases e⟩ (f c) (λ_=>⟨g,λ_=>hS⟩) (h a s);rw[m]at h1;have h2:(Code.region id L.toArray true).wp P (λx a w=>x=.normal/\Q .normal a w) a w:=TI l (by simpa using Nb _ _ _ _ h1);exact TH h2 (λx t w' ⟨p,hq⟩=>by subst p;exact hq)
theorem DO{o:Oper}{K:Act->World->Prop}{a:Act}(h:wpList P L.toArray (λx a w=>x=.normal/\K a w) [o] a w):DN P L o a w K:=by
 simp only[wpList]at h;unfold DN;split
 .rename_i b;rw[Tn b]at h;obtain h2|⟨_,f⟩:=h
  .refine RX (λj w' g=>g.2) (No (λx a w d hf=>absurd hf.1 d) h2)
  .obtain⟨_,_,e⟩:=f;exact absurd e.1 TO
 .rename_i b;rw[Tm b]at h;exact h.2
def eq(P:Program)(L:List Oper)(Sw S1:World->Prop)(o:Oper)(Q:Exit->Act->World->Prop):Exit->Act->World->Prop:=λx a w=>x=.normal/\Sw w/\S1 w/\DN P L o a w (λa w=>Sw w/\Q .normal a w)
def bE(Sw:World->Prop)(Q:Exit->Act->World->Prop):Exit->Act->World->Prop:=λx a w=>x=.normal/\Sw w/\Q .normal a w
theorem EX.pair{oi oc:Oper}(hi:C4 L i=some oi)(b:C4 L c=some oc)(h1:WL P L (eq P L Sw Ss oc Q) [oi] n σ w)(h2:WL P L (eq P L Sw (λ_=>True) oi Q) [oc] n σ w):EX (dm P L i c Sw Ss Q) .normal n σ w:=by unfold EX;unfold WL at h1 h2;intro a d;rw[C5]at hi b;exact⟨rfl,oi,oc,hi,b,DO (h1 a d),DO (h2 a d)⟩
theorem bz{S1:World->Prop}{o:Oper}(b:Sw w)(d:S1 w)(h:WL P L (bE Sw Q) [o] n σ w):EX (eq P L Sw S1 o Q) .normal n σ w:=by unfold EX;unfold WL at h;exact λa e=>⟨rfl,b,d,DO (h a e)⟩
theorem aX(b:Sw w)(h:EX Q .normal n σ w):EX (bE Sw Q) .normal n σ w:=by unfold EX at*;exact λa d=>⟨rfl,b,h a d⟩
theorem HP.app1f{α:Type}[Rep α]{x0:α}{bytes:Nat}{F:Nat->Prop}{e i z d d1:Nat}{ty ty1:TypeId}{pos pos1:String}{af af1:Array Edge}{g g1:Option (Nat×Bool)}{t et:TypeId}{x y:Operand}{rest:List (Nat×Nat)}{v u:Value}{xs:List α}{yv:α}{B:Nat}{wc:World}
  (ho1:C4 L z=some ⟨some d1,.buildSlice t 1 [(0,y)].toArray,ty1,pos1,af1,g1⟩) (O:C4 L i=some ⟨some d,.call ⟨.builtin .append,#[x,.tmp d1],#[t,t]⟩,ty,pos,af,g⟩)
  (G:beq z c=false) (E:beq i c=false)
  (H:gd L σ ⟨some d1,.buildSlice t 1 [(0,y)].toArray,ty1,pos1,af1,g1⟩=some true) (J:ble (d1+1) n=true)
  (I:∀u,gd L ((d1,.slice u 1 1)::σ) ⟨some d,.call ⟨.builtin .append,#[x,.tmp d1],#[t,t]⟩,ty,pos,af,g⟩=some true) (hd:ble (d+1) n=true)
  (K:ev σ y=some u) (M:∀u,ev ((d1,.slice u 1 1)::σ) x=some v) [V:IsS P t et] [U:IsT P et α] [T:IsZ P et x0 bytes] (o:Own wc B et F v xs) (N:Rd wc F u yv) (S:B<=wc.heap.size) (hF:∀b,F b->b<wc.heap.size)
  (A:sz α<=16777216) (R:xs.length+1<=maxLen) (q:(xs.length+1)*bytes<=140737488355328) (hS:∀w',wc.grownBy w' v.ownBlock->Sw w'/\Ss w')
  (h:∀m w' p,Own w' B et F m (xs++[yv])->wc.grownBy w' v.ownBlock->(∀g,m.ownBlock=some g->v.ownBlock=some g\/wc.heap.size<=g)->HP P L c e Sw Ss Q false rest n ((d,m)::(d1,.slice p 1 1)::σ) w'):
  HP P L c e Sw Ss Q false ((z,0)::(i,0)::rest) n σ wc:=by
 refine Wq ho1 ?_;rw[G];refine VN (vs:=[u]) (ys:=[yv]) H J rfl (by simp[I_,pN,K]) rfl ⟨N,trivial⟩ (by simpa using A) hF (λs ho1 a=>?_);have f:wc.heap.size<=s.heap.size:=a.size;have l:Own s B et F v xs:=o.kept a (λ_ _ h=>by cases h) λb q=>⟨hF b q,λh=>by cases h⟩;have g2:wc.grownBy s v.ownBlock:=⟨a.os,a.tape,a.output,a.size,λk r _=>a.block k r (λh=>by cases h)⟩;refine p0 (a_ (ph:=false||false) (hS _ g2).1 (λ_=>(hS _ g2).2) (Wq O ?_));rw[E];refine V7 (ys:=[yv]) (I _) hd (M _) sd l ho1.src (Rr S f) (λb q=>Rv (hF b q) f) (by simpa using R) (by simpa using q) (λm w' C j hnb=>?_);have g3:wc.grownBy w' v.ownBlock:=⟨j.os.trans a.os,j.tape.trans a.tape,j.output.trans a.output,Rr f j.size,λk r D=>(j.block k (Rv r f) D).trans (a.block k r (λh=>by cases h))⟩;exact p0 (a_ (ph:=false||false||false) (hS _ g3).1 (λ_=>(hS _ g3).2) (h m w' _ C g3 (λg I=>(hnb g I).imp id (λh=>Rr f h))))
end
section
variable {P:Program}{Q:Exit->Act->World->Prop}{n:Nat}{σ:Sg}{w:World}{L rest:List Oper}{α:Type}[Rep α]{F:Nat->Prop}{e:TypeId}{ty:TypeId}{pos:String}{af:Array Edge}{g:Option (Nat×Bool)}
theorem f9{x y:Operand}{u:Value}{B b off cap:Nat}{xs:List α}{yv:α}{i:Nat}(z:gd L σ ⟨none,.store e x y,ty,pos,af,g⟩=some true)
  (q:ev σ x=some (.pointer (some ⟨b,off+i*sz α,none⟩))) (p:ev σ y=some u) [D:IsT P e α] (c:Own w B e F (.slice (some ⟨b,off,none⟩) xs.length cap) xs) (h1:i<xs.length) (r:Rd w F u yv)
  (h:∀w',Own w' B e F (.slice (some ⟨b,off,none⟩) xs.length cap) (xs.set i yv)->w.grownBy w' (some b)->WL P L Q rest n σ w'):WL P L Q (⟨none,.store e x y,ty,pos,af,g⟩::rest) n σ w:=by
 obtain⟨m,d⟩|⟨E,off',cap',cur,m,t⟩:=c
 .subst d;simp at h1
 .obtain⟨j,_,f⟩:=SV m;cases j;subst f;obtain⟨w',s,k,l⟩:=HM (P:=P) (v:=u) (i:=i) t h1 r;refine fV z (λa o=>?_) (h w' k l);have C:=o.ev q;have A:=o.ev p;simp[execOp,C,A,Instr.storeAt,Instr.sureAddr,s]
end
def sH(k n:Int)(t:Ltl)(m:de):(sS k n t m).1.length+(sS k n t m).2.length<=m.1.length+m.2.length+1:=by
 unfold sS;split
 .dsimp only;split<;>simp;omega
 .split
  .dsimp only;split<;>simp;omega
  .omega
mutual
theorem sG:∀(t:Ltl) (m:de),(sD t m).1.length+(sD t m).2.length<=m.1.length+m.2.length+t.nodes
 |.mk k n kids,m=>by
  simp only[sD,Ltl.nodes];have h1:=sH k n (.mk k n kids) m;have h2:=sO kids (sS k n (.mk k n kids) m);omega
theorem sO:∀(l:List Ltl) (m:de),(sL l m).1.length+(sL l m).2.length<=m.1.length+m.2.length+Ltl.nodesL l
 |[],m=>by simp[sL]
 |x::r,m=>by
  simp only[sL,Ltl.nodesL];have h1:=sG x m;have h2:=sO r (sD x m);omega
end
def sR{kids:List Ltl}{m:de}{i:Nat}(h:i<kids.length):sL (kids.take (i+1)) m=sD kids[i] (sL (kids.take i) m):=by
 have:∀(l:List Ltl) (m:de) (x:Ltl),sL (l++[x]) m=sD x (sL l m):=by
  intro l;induction l with
  |nil=>intro m x;simp[sL]
  |cons y r a=>intro m x;simp only[OK,sL];exact a _ x
 rw[Q4 h,this]
def sJ(k n:Int)(kids:List Ltl)(m:de):sD (.mk k n kids) m=sL kids (sS k n (.mk k n kids) m):=by simp only[sD]
structure MkO(w:World)(B:Nat)(F:Nat->Prop)(sb:Nat)(av pv:Value)(m:de):Prop where
 blk:Blk w sb 212 [av,pv]
 a:Own w B 3 dh av m.1
 p:Own w B 32 F pv m.2
 ge:B<=sb
 na:∀g,av.ownBlock=some g->g≠sb
 np:∀g,pv.ownBlock=some g->g≠sb
 nap:∀g,av.ownBlock=some g->pv.ownBlock≠some g
 hF:∀b,F b->b<B
def B1(sb:Nat)(av pv:Value):Nat->Prop:=λb=>b=sb\/av.ownBlock=some b\/pv.ownBlock=some b
def MkO.ext{w':World}{m:de}(h:MkO w B F a v A m)(f:B<=w.heap.size)(c:Ext w w'):MkO w' B F a v A m:=
 ⟨h.blk.ext c,h.a.extN c,h.p.ext c (λb d=>Rv (h.hF b d) f),h.ge,h.na,h.np,h.nap,h.hF⟩
def MkO.lo{m:de}(h:MkO w B F a v A m):∀b,B1 a v A b->B<=b/\b<w.heap.size:=λb d=>by
 obtain c|c|c:=d
 .have:=h.ge;have:=h.blk.lt;omega
 .exact⟨(h.a.lt b c).1,(h.a.lt b c).2.1⟩
 .exact⟨(h.p.lt b c).1,(h.p.lt b c).2.1⟩
def MkO.rd{m:de}(h:MkO w B F a v A m)(j:B<=w.heap.size):MkA w a m:=by obtain⟨ao,ac,rfl,h1⟩:=h.a.oldN.sl;obtain⟨c,d,rfl,h2⟩:=h.p.slF (F':=dk w) (λb i=>Rv (h.hF b i) j) (λg f=>(h.p.lt g f).2.1);exact⟨ao,ac,c,d,h.blk,h1,h2⟩
def IB{l:List Ltl}{x y:Ltl}:(l++[x]).set l.length y=l++[y]:=by rw[List.set_append_right _ _ T8];simp
def sY:∀(d:Nat) (t:Ltl),t.nodes<=d->MK t->∀(w:World) {B sb:Nat} {F:Nat->Prop} {av pv:Value} {m:de} {ko:Option Addr} {kc:Nat},MkO w B F sb av pv m->B<=w.heap.size->Sl w F ko kc t.kids->m.1.length+m.2.length+t.nodes<=1000->
  Rt Vy 113 [Uc sb,Bi t.k t.n ko t.kids.length kc].toArray w λv w'=>∃av' pv',MkO w' B F sb av' pv' (sD t m)/\Chg (B1 sb av pv) w w'/\(∀g,av'.ownBlock=some g->av.ownBlock=some g\/w.heap.size<=g)/\∀g,pv'.ownBlock=some g->pv.ownBlock=some g\/w.heap.size<=g:=by
 intro d
 induction d with
 |zero=>intro t h;have:=t.nodes_pos;omega
 |succ d ih=>
  rintro⟨k,n,kids⟩ hd hwf w B sb F av pv m ko kc hM hB hk hsz
  simp only[Ltl.k,Ltl.n,Ltl.kids]at hk⊢
  have hkl:=Ah hwf;have hlo:=hM.lo;have hF:=hM.hF;refine dS func113 ntmps113 rfl rfl ?_;rw[sJ];have hlen1:=sH k n (.mk k n kids) m;refine UZ ?_;refine eH λH hb3 e1=>?_
  have l3:=hb3.lt;have y1:=e1.size;have Y:=hM.ext hB e1;apply p0;apply bA;refine aC (S:=Value×Value) (λs=>[(0,Uc sb),(3,Uc w.heap.size)])
   (λs w'=>MkO w' B F sb s.1 s.2 (sS k n (.mk k n kids) m)/\Chg (B1 sb av pv) H w'/\(∀g,s.1.ownBlock=some g->av.ownBlock=some g\/H.heap.size<=g)/\∀g,s.2.ownBlock=some g->pv.ownBlock=some g\/H.heap.size<=g) ?_ ?_
  .have skip:∀(A:World) (e2:Ext H A),sS k n (.mk k n kids) m=m->MkO A B F sb av pv (sS k n (.mk k n kids) m)/\Chg (B1 sb av pv) H A/\(∀g,av.ownBlock=some g->av.ownBlock=some g\/H.heap.size<=g)/\∀g,pv.ownBlock=some g->pv.ownBlock=some g\/H.heap.size<=g:=λA e2 W=>by
    rw[W];exact⟨Y.ext TK e2,t1 _ e2,λg f=>.inl f,λg f=>.inl f⟩
   by_cases h3:k=3
   .have W:sS k n (.mk k n kids) m=(if n∈m.1 then m.1 else m.1++[n],m.2):=by unfold sS;rw[Tn h3]
    subst h3;obtain⟨ao,ac,hav,h1⟩:=Y.a.oldN.sl;subst hav;have hD:=mm H;have hSE:∀z,(λz:World=>Ext (drew H) z) z->Ext (drew H) z:=λ_ h=>h
    have hblkd:=Y.blk.ext hD;have hb3d:=hb3.ext hD;refine UO ?_;refine aG (λz:World=>Ext (drew H) z) [Wr 0,Wr 1,Wr 2,Wr 3,Wr 4,Wr 5,Ws 6,Wr 7] mixed TL T_ ?_;refine Vq ?_;refine cy rfl (eK (mf (drew H) n (h1.up hD)) ?_);rintro _ A ⟨rfl,e2⟩
    refine p0 (a8 e2 ?_);have G:Ext H A:=hD.trans e2;cases hc:m.1.contains n with
    |true=>
     have hin:n∈m.1:=by simpa using hc
     rw[Tn hin]at W
     refine Vr ?_;refine UW ?_;exact aV (.slice ao m.1.length ac,pv) TJ (skip A G W)
    |false=>
     have hin:n∉m.1:=by simpa using hc
     rw[Tm hin]at W
     refine Vr ?_;have a:=Y.ext TK G;have J:=a.blk;have V:=hb3.ext G;have z12:=G.size;have lsb:=J.lt;have y:=mm A;have O:=J.ext y;have hb3d2:=V.ext y;have hna:=a.na;have hnap:=a.nap;have E:=a.lo;have hK5:∀u,(λx:World=>x.heap[w.heap.size]?=(drew A).heap[w.heap.size]?/\x.heap[sb]?=(drew A).heap[sb]?) u->u.heap[w.heap.size]?=(drew A).heap[w.heap.size]?:=λ_ h=>h.1
     have hKs:∀u,(λx:World=>x.heap[w.heap.size]?=(drew A).heap[w.heap.size]?/\x.heap[sb]?=(drew A).heap[sb]?) u->u.heap[sb]?=(drew A).heap[sb]?:=λ_ h=>h.2
     have K:∀g,(Value.slice ao m.1.length ac).ownBlock=some g->g≠w.heap.size:=λg f=>by have:=(hlo g (.inr (.inl f))).2;omega
     refine UY ?_;refine aF (λx:World=>x.heap[w.heap.size]?=(drew A).heap[w.heap.size]?/\x.heap[sb]?=(drew A).heap[sb]?) [Wr 0,Wr 1,Wr 2,Wr 3,Wr 4,Wr 5,Wr 6,Ws 7,Ws 8,Ws 9,Ws 10] 11 mixed TL ⟨rfl,rfl⟩ ?_;refine Vq ?_;refine bW (α:=Int) (F:=dh) (bytes:=8) (yv:=n) rfl rfl rfl rfl TV rfl rfl TV (a.a.extN y) T7 (by have:=y.size;omega) TY TN TQ TK
      (λz hz=>⟨hz.block _ (by have:=y.size;omega) (λe=>K _ e.symm rfl),hz.block _ (by have:=y.size;omega) (λe=>hna _ e.symm rfl)⟩) (λcl Z q5 ho5 C D=>?_)
     obtain⟨lo',lc',rfl⟩:=ho5.val;have R:=O.kept C (λe=>hna _ e.symm rfl);have T:Z.heap[w.heap.size]?=(drew A).heap[w.heap.size]?/\Z.heap[sb]?=(drew A).heap[sb]?:=⟨C.block _ (by have:=y.size;omega) (λe=>K _ e.symm rfl),C.block _ (by have:=y.size;omega) (λe=>hna _ e.symm rfl)⟩;refine cy rfl (fQ rfl rfl rfl (p0 (a8 T ?_)));refine cy rfl (fj rfl rfl rfl (p0 (a8 T (VK ?_))));refine bu rfl (f7 R (λw6 I p=>p0 (bx ?_)));have hC6:Chg (B1 sb (.slice ao m.1.length ac) pv) H w6:=(((t1 (B1 sb (.slice ao m.1.length ac) pv) (G.trans y)).grown C (λg f=>.inr (.inl f)))).grown p T4;have hp6:Own w6 B 32 F pv m.2:=((a.p.ext y (λb j=>by have:=hF b j;omega)).kept C (λg f e=>hnap g e.symm f) (λb j=>⟨by have:=hF b j;have:=y.size;omega,λe=>by have:=(E b (.inr (.inl e.symm))).1;have:=hF b j;omega⟩)).kept p (λg f e=>a.np g f (R4 e)) (λb j=>⟨by have:=hF b j;have:=y.size;have:=C.size;omega,λe=>by have:=R4 e;have:=hF b j;have:=a.ge;omega⟩);have z5:=C.size;have zd:=y.size;have hns:∀g,(Value.slice lo' (m.1++[n]).length lc').ownBlock=some g->g≠sb:=λg f=>(D g f).elim (hna g) (λh=>by omega)
     refine Uq ?_;refine aV (.slice lo' (m.1++[n]).length lc',pv) TJ ?_;rw[W];refine⟨⟨I,ho5.keptN p (λg f e=>hns g f (R4 e)),hp6,a.ge,hns,a.np,λg f hg2=>?_,hF⟩,hC6,λg f=>(D g f).imp id (λh=>by omega),λg f=>.inl f⟩;rcases D g f with h|h
     .exact hnap g h hg2
     .have:=(E g (.inr (.inr hg2))).2;omega
   by_cases h7:k=7\/k=8\/k=9
   .have W:sS k n (.mk k n kids) m=(m.1,if m.2.any (H2 (.mk k n kids))=true then m.2 else m.2++[.mk k n kids]):=by unfold sS;rw[Tm h3,Tn h7]
    have b3:(k==3)=false:=by rw[S2];exact h3
    have hkk:(k==7)=true\/((k==7)=false/\(k==8)=true)\/((k==7)=false/\(k==8)=false/\(k==9)=true):=by
     simp only[S3,S2];omega
    refine UE ?_;rw[b3];apply ax;rfl;refine aA [(0,Uc sb),(3,Uc w.heap.size),(29,.bool true)] ?_ ?_
    .refine UR ?_
     rcases hkk with h|⟨h,h2⟩|⟨h,h2,h3⟩
     .rw[h]
      refine UH ?_;exact aT TJ
     .rw[h]
      refine Ul ?_;rw[h2];refine UH ?_;exact aT TJ
     .rw[h]
      refine Ul ?_;rw[h2];refine Ul ?_;rw[h3];exact aT TJ
    have hpart:=EB H (t:=.mk k n kids) (Y.rd TK) (hk.mono (w':=H) (λb j=>e1.block b (by have:=hF b j;omega)) (λb j=>by have:=hF b j;exact(show b<H.heap.size by omega)));refine UI ?_;refine eK hpart ?_;rintro _ A ⟨rfl,G⟩
    have a:=Y.ext TK G;have hany:=yj (H2 (.mk k n kids)) m.2;by_cases ha:m.2.any (H2 (.mk k n kids))=true
    .rw[Tn ha]at W
     rw[ha,Td]at hany
     have hlt:decide (Ew m (.mk k n kids)<0)=false:=Ta (by unfold Ew;omega);refine Ug ?_;rw[hlt];refine UW ?_;exact aV (av,pv) TJ (skip A G W)
    .rw[Tm ha]at W
     rw[NY]at ha
     rw[ha,Tb]at hany
     have hlt:decide (Ew m (.mk k n kids)<0)=true:=Tc (by unfold Ew;omega);refine Ug ?_;rw[hlt];have J:=a.blk;have V:=hb3.ext G;have z12:=G.size;have lsb:=J.lt;have y:=mm A;have zd:(drew A).heap.size=A.heap.size:=rfl;have O:=J.ext y;have hb3d2:=V.ext y;have E:=a.lo;obtain⟨po,pc,rfl⟩:=a.p.val;have hpd:=a.p.ext y (λb j=>by have:=hF b j;omega);have K:∀g,(Value.slice po m.2.length pc).ownBlock=some g->g≠w.heap.size:=λg f=>by have:=(hlo g (.inr (.inr f))).2;omega
     have hKs:∀u,(λx:World=>x.heap[sb]?=(drew A).heap[sb]?/\x.heap[w.heap.size]?=(drew A).heap[w.heap.size]?) u->u.heap[sb]?=(drew A).heap[sb]?:=λ_ h=>h.1
     have hK3:∀u,(λx:World=>x.heap[w.heap.size]?=(drew A).heap[w.heap.size]?) u->u.heap[w.heap.size]?=(drew A).heap[w.heap.size]?:=λ_ h=>h
     refine U4 ?_;refine aJ 9 12 (λx:World=>x.heap[w.heap.size]?=(drew A).heap[w.heap.size]?) (λx:World=>x.heap[sb]?=(drew A).heap[sb]?/\x.heap[w.heap.size]?=(drew A).heap[w.heap.size]?)
      (KL 1 [Wr 0,Wr 1,Wr 2,Wr 4]++(KL 2 [Wr 3,Wr 5]++((6,0)::(7,0)::(KL 1 [Wr 8,Wr 10,Wr 11]++[])))) mixed TL rfl ⟨rfl,rfl⟩ ?_
     refine We [Wr 0,Wr 1,Wr 2,Wr 4] rfl ?_;refine Vq ?_;refine cm hK3 rfl rfl rfl rfl hb3d2 rfl ?_;refine Vr ?_;refine ba ?_;refine HP.early [Wr 3,Wr 5] rfl ?_;refine Vs ?_;refine ba ?_;refine HP.app1f (α:=Ltl) (F:=F) (bytes:=40) (yv:=(.mk 0 0 []:Ltl)) rfl rfl rfl rfl rfl rfl TV rfl rfl TV hpd (VJ (kids:=[]) (v1 _ _)) TK (λb j=>by have:=hF b j;omega) TN TQ TK
      (λz hz=>⟨hz.block _ TK (λe=>K _ e.symm rfl),hz.block _ TK (λe=>a.np _ e.symm rfl),hz.block _ TK (λe=>K _ e.symm rfl)⟩) (λcl Z q5 ho5 C D=>?_)
     have z5:=C.size;obtain⟨g5,off,c5,rfl⟩:∃g5 off c5,cl=.slice (some ⟨g5,off,none⟩) (m.2++[(.mk 0 0 []:Ltl)]).length c5:=by
      rcases ho5 with⟨_,h⟩|⟨g,o,c,cur,h,_⟩
      .simp at h
      .exact⟨g,o,c,h⟩
     have hlt5:=(ho5.lt g5 rfl);have M:g5≠sb:=λe=>(D g5 rfl).elim (λh=>a.np g5 h e) (λh=>by omega)
     have U:g5≠w.heap.size:=λe=>(D g5 rfl).elim (λh=>K g5 h e) (λh=>by omega)
     have R:=O.kept C (λe=>a.np _ e.symm rfl);have T:Z.heap[w.heap.size]?=(drew A).heap[w.heap.size]?:=C.block _ TK (λe=>K _ e.symm rfl);have hS5s:Z.heap[sb]?=(drew A).heap[sb]?:=C.block _ TK (λe=>a.np _ e.symm rfl);have hkF:∀{z:World},(∀b,F b->z.heap[b]?=w.heap[b]?)->Rd z F (Bi k n ko kids.length kc) (Ltl.mk k n kids):=λ {z} hz=>VJ (hk.mono hz T0)
     have hF5:∀b,F b->Z.heap[b]?=w.heap[b]?:=λb j=>by
      have h1:=hF b j;exact(C.block b TK (λe=>by have:=(E b (.inr (.inr e.symm))).1;omega)).trans (((e1.trans G).trans y).block b TK)
     have hB5:B<=g5:=hlt5.1;refine We [Wr 8,Wr 10,Wr 11] rfl ?_;refine cf (α:=Ltl) rfl rfl rfl rfl rfl TK TR ?_;rw[Oy];refine Vs ?_;refine ba ?_;refine HP.nil ?_;have done:∀{z:World},Blk z sb 212 [av,.slice (some ⟨g5,off,none⟩) (m.2++[(.mk 0 0 []:Ltl)]).length c5]->Own z B 32 F (.slice (some ⟨g5,off,none⟩) (m.2++[(.mk 0 0 []:Ltl)]).length c5) ((m.2++[(.mk 0 0 []:Ltl)]).set m.2.length (.mk k n kids))->Own z B 3 dh av m.1->Chg (B1 sb av (.slice po m.2.length pc)) H z->
       MkO z B F sb av (.slice (some ⟨g5,off,none⟩) (m.2++[(.mk 0 0 []:Ltl)]).length c5) (sS k n (.mk k n kids) m)/\Chg (B1 sb av (.slice po m.2.length pc)) H z/\(∀g,av.ownBlock=some g->av.ownBlock=some g\/H.heap.size<=g)/\∀g,(Value.slice (some ⟨g5,off,none⟩) (m.2++[(.mk 0 0 []:Ltl)]).length c5).ownBlock=some g->(Value.slice po m.2.length pc).ownBlock=some g\/H.heap.size<=g:=by
      intro z hbz hoz haz hcz
      rw[W];rw[IB]at hoz
      refine⟨⟨hbz,haz,?_,a.ge,a.na,λg f=>by cases f;exact M,λg f hg2=>?_,hF⟩,hcz,λg f=>.inl f,λg f=>(D g f).imp id (λh=>by omega)⟩
      .rw[show(m.2++[(.mk 0 0 []:Ltl)]).length=(m.2++[(.mk k n kids:Ltl)]).length by simp]at*
       exact hoz
      .rcases D g hg2 with h|h
       .exact a.nap g f h
       .have:=(E g (.inr (.inl f))).2;omega
     have ha5:Own Z B 3 dh av m.1:=(a.a.extN y).keptN C (λg f e=>a.nap g f e.symm);have hC5:Chg (B1 sb av (.slice po m.2.length pc)) H Z:=(t1 (B1 sb av (.slice po m.2.length pc)) (G.trans y)).grown C (λg f=>.inr (.inr f));have hag5:∀g,av.ownBlock=some g->g≠g5:=λg f e=>by
      subst e;rcases D g rfl with h|h
      .exact a.nap g f h
      .have:=(E g (.inr (.inl f))).2;omega
     have hgM:B1 sb av (.slice po m.2.length pc) g5\/H.heap.size<=g5:=(D g5 rfl).imp (λh=>.inr (.inr h)) (λh=>by omega);refine EX.pair rfl rfl ?_ ?_
     .refine f9 (α:=Ltl) (i:=m.2.length) (yv:=(.mk k n kids:Ltl)) rfl rfl rfl ho5 TO (hkF hF5) (λw6 ho6 p=>p0 (bz ?_ ⟨?_,?_⟩ ?_))
      .exact(p.block _ TK (λe=>U (R4 e).symm)).trans T
      .exact(p.block _ TK (λe=>M (R4 e).symm)).trans hS5s
      .exact(p.block _ TK (λe=>U (R4 e).symm)).trans T
      .have I:=R.kept p (λe=>M (R4 e).symm)
       refine f7 I (λw7 hblk7 N=>p0 (aX ?_ ?_))
       .have z6:=p.size
        exact(N.block _ TK (λe=>by have:=R4 e;have:=hM.blk.lt;omega)).trans ((p.block _ TK (λe=>U (R4 e).symm)).trans T)
       .refine Uq ?_
        refine aV (av,_) TJ (done hblk7 (ho6.kept N (λg f e=>by cases f;exact M (R4 e)) (λb j=>⟨by have:=hF b j;have:=p.size;omega,λe=>by have:=R4 e;have:=hF b j;have:=a.ge;omega⟩)) ((ha5.keptN p (λg f e=>hag5 g f (R4 e))).keptN N (λg f e=>a.na g f (R4 e))) ?_);exact(hC5.then (VC p) (λb j=>by cases j;exact hgM)).grown N T4
     .refine f7 R (λw6 I p=>p0 (bz ?_ trivial ?_))
      .exact(p.block _ TK (λe=>by have:=R4 e;have:=(E sb (.inl rfl)).2;have:=hM.blk.lt;omega)).trans T
      .have z6:=p.size
       have ho6:=ho5.kept p (λg f e=>by cases f;exact M (R4 e)) (λb j=>⟨by have:=hF b j;omega,λe=>by have:=R4 e;have:=hF b j;have:=a.ge;omega⟩);refine f9 (α:=Ltl) (i:=m.2.length) (yv:=(.mk k n kids:Ltl)) rfl rfl rfl ho6 TO (hkF (λb j=>(p.block b (by have:=hF b j;omega) (λe=>by have:=R4 e;have:=hF b j;have:=a.ge;omega)).trans (hF5 b j))) (λw7 ho7 N=>p0 (aX ?_ ?_))
       .exact(N.block _ TK (λe=>U (R4 e).symm)).trans ((p.block _ TK (λe=>by have:=R4 e;have:=hM.blk.lt;omega)).trans T)
       .refine Uq ?_
        refine aV (av,_) TJ (done (I.kept N (λe=>M (R4 e).symm)) ho7 ((ha5.keptN p (λg f e=>a.na g f (R4 e))).keptN N (λg f e=>hag5 g f (R4 e))) ?_);exact(hC5.grown p T4).then (VC N) (λb j=>by cases j;exact hgM)
   .have W:sS k n (.mk k n kids) m=m:=by unfold sS;rw[Tm h3,Tm h7]
    have b3:(k==3)=false:=by rw[S2];exact h3
    have b7:(k==7)=false:=by rw[S2];omega
    have b8:(k==8)=false:=by rw[S2];omega
    have b9:(k==9)=false:=by rw[S2];omega
    refine UE ?_;rw[b3];refine Ul ?_;rw[b7];refine Ul ?_;rw[b8];refine Ul ?_;rw[b9];refine UW ?_;exact aV (av,pv) TJ (skip H T_ W)
  .rintro⟨av1,pv1⟩ A ⟨a,hC2,na2,np2⟩
   dsimp only at a hC2 na2 np2⊢
   have z2:=hC2.size;have V:Blk A w.heap.size 32 [Ub k,Ub n,.slice ko kids.length kc]:=(hC2.block _ l3 (λj=>by have:=(hlo _ j).2;omega)).trans hb3;have E:=a.lo;have hk2:Sl A F ko kc kids:=hk.mono (λb j=>(hC2.block b (by have:=hF b j;omega) (λhs=>by have:=(hlo b hs).1;have:=hF b j;omega)).trans (e1.block b (by have:=hF b j;omega))) T0;have hmk:(sS k n (.mk k n kids) m).1.length+(sS k n (.mk k n kids) m).2.length+Ltl.nodesL kids<=1000:=by
    simp only[Ltl.nodes]at hsz;omega
   generalize sS k n (.mk k n kids) m=m1 at*
   refine UE ?_;refine p8 (S:=Nat×Value×Value) (λs=>[(0,Uc sb),(49,.slice ko kids.length kc),(50,Ub kids.length),(51,Ub s.1)])
    (λs w'=>s.1<=kids.length/\MkO w' B F sb s.2.1 s.2.2 (sL (kids.take s.1) m1)/\Chg (B1 sb av1 pv1) A w'/\(∀g,s.2.1.ownBlock=some g->av1.ownBlock=some g\/A.heap.size<=g)/\∀g,s.2.2.ownBlock=some g->pv1.ownBlock=some g\/A.heap.size<=g) (λs=>kids.length -s.1) (0,av1,pv1) TJ
    ⟨RU _,by simpa[sL]using a,VM _ _,λg f=>.inl f,λg f=>.inl f⟩ ?_
   rintro⟨i,cv,qv⟩ w3 ⟨hi,hM3,hC3,na3,np3⟩
   dsimp only at hi hM3 hC3 na3 np3⊢
   have z3:=hC3.size;have hlo3:=hM3.lo;have hk3:Sl w3 F ko kc kids:=hk2.mono (λb j=>hC3.block b (by have:=hF b j;omega) (λhs=>by have:=(E b hs).1;have:=hF b j;omega)) T0;refine UR ?_;apply ld rfl<;>intro h
   .have X:i<kids.length:=by simp at h;omega
    have hwk:=MQ hwf X;have hnk:=CT hd X;have hlen3:=sO (kids.take i) m1;have htk:=sR (m:=m1) X;have hnn:Ltl.nodesL (kids.take i)+kids[i].nodes<=Ltl.nodesL kids:=by
     have:∀(l:List Ltl) (i:Nat) (h:i<l.length),Ltl.nodesL (l.take i)+l[i].nodes<=Ltl.nodesL l:=by
      intro l
      induction l with
      |nil=>intro i h;simp at h
      |cons x r ih2=>
       intro i h
       cases i with
       |zero=>simp[Ltl.nodesL]
       |succ i=>
        have:=ih2 i (by simpa using h);simp only[Q3,Ltl.nodesL,PD];omega
     exact this kids i X
    refine UC ?_;refine fe hk3 X TV (λu q hu=>?_);obtain⟨uo,uc,rfl,hku⟩:=r0 hu;generalize kids[i]=x at*
    refine eC (λw4 hb5 e4=>?_);refine f7 hb5 (λZ hb5 C=>?_);have e5:Ext w3 Z:=e4.grown C e4.size TX;have z5:=e5.size;refine UD ?_;refine eK (ih x hnk hwk Z (hM3.ext TK e5) TK (hku.mono (λb j=>e5.block b (by have:=hF b j;omega)) T0) TK) ?_;rintro _ w6 ⟨cv',qv',hM6,hC6,na6,np6⟩
    rw[<-htk]at hM6
    refine Ui ?_;refine m5 (i+1,cv',qv') TJ ⟨X,hM6,(hC3.trans (t1 _ e5)).then hC6 (λb j=>?_),λg f=>?_,λg f=>?_⟩ TP
    .rcases j with h|h|h
     .exact .inl (.inl h)
     .exact(na3 b h).imp (λh=>.inr (.inl h)) id
     .exact(np3 b h).imp (λh=>.inr (.inr h)) id
    .exact(na6 g f).elim (na3 g) (λh=>.inr TK)
    .exact(np6 g f).elim (np3 g) (λh=>.inr TK)
   .obtain rfl:i=kids.length:=by simp at h;omega
    rw[Q0]at hM3
    refine Un ?_;refine aW rfl ⟨cv,qv,hM3,((t1 _ e1).trans hC2).then hC3 (λb j=>?_),λg f=>?_,λg f=>?_⟩
    .rcases j with h|h|h
     .exact .inl (.inl h)
     .exact(na2 b h).imp (λh=>.inr (.inl h)) (λh=>by omega)
     .exact(np2 b h).imp (λh=>.inr (.inr h)) (λh=>by omega)
    .exact(na3 g f).elim (λh=>(na2 g h).imp id (λh=>by omega)) (λh=>.inr TK)
    .exact(np3 g f).elim (λh=>(np2 g h).imp id (λh=>by omega)) (λh=>.inr TK)
structure MkF(w:World)(F:Nat->Prop)(sb:Nat)(m:de):Prop where
 ok:∃ao ac po pc,Blk w sb 212 [.slice ao m.1.length ac,.slice po m.2.length pc]/\Sl w F ao ac m.1/\Sl w F po pc m.2
 sb:F sb
def MkF.to{w':World}{m:de}(h:MkF w F B m)(a:∀b,F b->w'.heap[b]?=w.heap[b]?):MkF w' F B m:=by obtain⟨ao,ac,d,e,h1,h2,h3⟩:=h.ok;exact⟨⟨ao,ac,d,e,(a B h.sb).trans h1,h2.mono a T0,h3.mono a T0⟩,h.sb⟩
def MkF.rd{m:de}(h:MkF w F B m)(hF:∀b,F b->b<w.heap.size):MkA w B m:=by obtain⟨ao,ac,a,d,h1,h2,h3⟩:=h.ok;exact⟨ao,ac,a,d,h1,h2.mono T5 hF,h3.mono T5 hF⟩
structure OutA(w:World)(B b7:Nat)(c:Nat->Value)(xs:List Int)(vs:List Raw)(mu no:List Nat)(us:List Raw):Prop where
 blk:Blk w b7 144 [c 0,c 1,c 2,c 3,c 4]
 o0:Own w B 3 dh (c 0) xs
 o1:Own w B 39 dh (c 1) vs
 o2:Own w B 131 dh (c 2) mu
 o3:Own w B 131 dh (c 3) no
 o4:Own w B 39 dh (c 4) us
 dj:∀i j,i<5->j<5->i≠j->∀g,(c i).ownBlock=some g->(c j).ownBlock≠some g
 lb:b7<B
def oM(b2 b7:Nat)(c:Nat->Value):Nat->Prop:=λb=>b=b2\/b=b7\/∃i,i<5/\(c i).ownBlock=some b
def Md(c:Nat->Value)(i:Nat)(v:Value):Nat->Value:=λj=>if j=i then v else c j
section
variable {w w' w'':World}{B b2 b7:Nat}{c:Nat->Value}{xs:List Int}{vs us:List Raw}{mu no:List Nat}{i:Nat}{v':Value}
theorem OutA.lt(h:OutA w B b7 c xs vs mu no us):∀j,j<5->∀g,(c j).ownBlock=some g->B<=g/\g<w.heap.size:=λj hj g a=>by
 match j,hj with
 |0,_=>exact⟨(h.o0.lt g a).1,(h.o0.lt g a).2.1⟩
 |1,_=>exact⟨(h.o1.lt g a).1,(h.o1.lt g a).2.1⟩
 |2,_=>exact⟨(h.o2.lt g a).1,(h.o2.lt g a).2.1⟩
 |3,_=>exact⟨(h.o3.lt g a).1,(h.o3.lt g a).2.1⟩
 |4,_=>exact⟨(h.o4.lt g a).1,(h.o4.lt g a).2.1⟩
theorem OutA.ext(h:OutA w B b7 c xs vs mu no us)(a:Ext w w'):OutA w' B b7 c xs vs mu no us:=
 ⟨h.blk.ext a,h.o0.extN a,h.o1.extN a,h.o2.extN a,h.o3.extN a,h.o4.extN a,h.dj,h.lb⟩
theorem OutA.step(h:OutA w B b7 c xs vs mu no us)(hi:i<5)(p:w.grownBy w' (c i).ownBlock)(o:w'.grownBy w'' (some b7))(m:∀g,v'.ownBlock=some g->(c i).ownBlock=some g\/w.heap.size<=g)(x:B<=w.heap.size):
  (∀j,j<5->j≠i->∀{α:Type} [Rep α] {e:TypeId} {ys:List α},Own w B e dh (c j) ys->Own w'' B e dh (c j) ys)/\(∀{α:Type} [Rep α] {e:TypeId} {ys:List α},Own w' B e dh v' ys->Own w'' B e dh v' ys)/\
   (∀j k,j<5->k<5->j≠k->∀g,(Md c i v' j).ownBlock=some g->(Md c i v' k).ownBlock≠some g)/\Chg (oM b2 b7 c) w w''/\(∀b,oM b2 b7 (Md c i v') b->oM b2 b7 c b\/w.heap.size<=b)/\Chg (λb=>b=b7\/B<=b) w w'':=by
 have n:=h.lt;have hlb:=h.lb;have v:=p.size;refine⟨λj hj l α _ e ys r=>(r.keptN p (λg d q=>h.dj j i hj hi l g d q.symm)).keptN o (λg d q=>by have:=(n j hj g d).1;have:=R4 q;omega),
  λr=>r.keptN o (λg d q=>by have:=(r.lt g d).1;have:=R4 q;omega),λj k hj s l g d a=>?_,((VC p).wk (λb f=>.inr (.inr ⟨i,hi,f⟩))).grown o (λg d=>by cases d;exact .inr (.inl rfl)),λb f=>?_,?_⟩
 .unfold Md at d a;by_cases u:j=i
  .subst u;rw[Tn rfl]at d;rw[Tm (λe=>l e.symm)]at a;obtain h1|h1:=m g d
   .exact h.dj j k hj s l g h1 a
   .have:=(n k s g a).2;omega
  .rw[Tm u]at d;by_cases t:k=i
   .subst t;rw[Tn rfl]at a;obtain h1|h1:=m g a
    .exact h.dj j k hj s l g d h1
    .have:=(n j hj g d).2;omega
   .rw[Tm t]at a;exact h.dj j k hj s l g d a
 .obtain f|f|⟨j,hj,f⟩:=f
  .exact .inl (.inl f)
  .exact .inl (.inr (.inl f))
  .unfold Md at f;by_cases e:j=i
   .subst e;rw[Tn rfl]at f;exact(m b f).imp (λh=>.inr (.inr ⟨j,hj,h⟩)) id
   .rw[Tm e]at f;exact .inl (.inr (.inr ⟨j,hj,f⟩))
 .exact((VC p).wk (λb f=>.inr (n i hi b f).1)).grown o T4
end
def jG(m:de)(K i:Nat):List (List Int):=(range K).map λk=>((range i).filter λt=>decide (zI m t=k)).map λt:Nat=>(t:Int)
def jI{m:de}{i:Nat}:(jG m K i).length=K:=by unfold jG;rw[P4,P7]
def jH{m:de}{i k:Nat}(h:k<(jG m K i).length):(jG m K i)[k]=((range i).filter λt=>decide (zI m t=k)).map λt:Nat=>(t:Int):=by simp only[jG,PK,PM]
def jK{m:de}{i k:Nat}(h:k<(jG m K i).length):(jG m K i)[k].length<=i:=by rw[jH,P4];exact Rr (P3 _ _) (by rw[P7];exact Rq _)
def jL{m:de}:jG m K 0=replicate K []:=by unfold jG;refine O3 TO λi h1 h2=>?_;simp
def jJ{m:de}{i:Nat}(h:zI m i<(jG m K i).length):(jG m K i).set (zI m i) ((jG m K i)[zI m i]++[(i:Int)])=jG m K (i+1):=by
 refine O3 (by rw[P_,jI,jI]) λj h1 h2=>?_;rw[PP,jH h2,QQ,O5,Qe];by_cases e:zI m i=j
 .subst e;rw[Tn rfl,jH];simp
 .rw[Tm e,jH];simp[e]
def Ib(p:Nat->Bool)(i:Nat):List Int:=((range i).filter p).map λs:Nat=>(s:Int)
def Id{p:Nat->Bool}{i:Nat}:Ib p (i+1)=if p i=true then Ib p i++[(i:Int)]else Ib p i:=by unfold Ib;rw[QQ,O5,Qe,O7,O_];cases p i<;>simp
def Ic{p:Nat->Bool}{i:Nat}:(Ib p i).length<=i:=by unfold Ib;rw[P4];exact Rr (P3 _ _) (by rw[P7];exact Rq _)
def rngM_next{f:Nat->α}{i:Nat}:(range (i+1)).map f=(range i).map f++[f i]:=by rw[QQ,Qe];rfl
def Gi(w:World)(F:Nat->Prop)(x:Nat)(h:x<18446744073709551616):Rd w F (.int .u64 (x:Int)) x:=⟨_,rfl,Gp _ _ x h⟩
def Cr(w:World):AutoAt w (dk w) (.agg #[.slice none 0 0,.slice none 0 0,.slice none 0 0,.slice none 0 0,.slice none 0 0]) nilA5:=
 ⟨none,0,none,0,none,0,none,0,none,0,rfl,v1 w _,v1 w _,v1 w _,v1 w _,v1 w _⟩
def c9(w0:World){t:Ltl}(hk:Sl w0 (dk w0) C B t.kids):
  Rt Vy 61 [Bi t.k t.n C t.kids.length B].toArray w0 λv w'=>(∃rv,v=.tuple ⟨[rv,Ub (Bo t).2]⟩/\AutoAt w' (dk w') rv (Bo t).1)/\Ext w0 w':=by
 refine dR func61 ntmps61 rfl rfl ?_;have hE:=p7 w0;refine UZ ?_;refine eH λn O e1=>?_;have hE:=hE.trans e1;have l1:=O.lt;refine eC (λw2 hb2 W=>?_);have O:=O.ext W;have hE:=hE.trans W;have l2:=hb2.lt;have y2:=W.size;refine UD ?_;refine eK (dn w2 (hk.up hE) T0) ?_;rintro _ w3 ⟨x,rfl,hx,e3⟩;unfold Bo;have hpl:=EW (t:=t);have hhas:=E1 t;generalize (EV t).2=err at*;generalize (EV t).1=f at*;obtain⟨fo,fc,rfl,hfk⟩:=r0 hx;have O:=O.ext e3;have hb2:=hb2.ext e3;have hE:=hE.trans e3;have y3:=e3.size;refine U9 ?_;refine f7 O (λw4 O hg4=>?_);have y4:=hg4.size;have hE4:Ext w0 w4:=hE.grown hg4 hE.size TZ;have hb24:=hb2.kept hg4 T3;have hfk4:Sl w4 (Nw w2 w3) fo fc f.kids:=hfk.mono (λb d=>hg4.block b d.2 (λe=>by have:=R4 e;have:=d.1;omega)) T0;clear hfk hx hg4 hb2 e1 W e3 hE;refine UR ?_;apply ld rfl<;>intro h
 .have h:err≠0:=by simpa using h
  rw[Tn h];refine UZ ?_;refine r4 (parts:=[]) rfl rfl rfl rfl (U9 ?_);refine f7 hb24 (λw5 hb5 hg5=>?_);have hE5:Ext w0 w5:=hE4.grown hg5 hE4.size TZ;refine UX ?_;exact fG hb5 ⟨⟨_,rfl,Cr _⟩,hE5⟩
 have h:err=0:=by simpa using h
 obtain⟨hw,rfl,hwp,hn60⟩:=hpl h;have hhas:=hhas hw;rw[Tm (by simp[h])];clear h hpl;generalize EY t=f at*;obtain⟨hT,hF⟩:=Km hwp hhas.1 hhas.2;have hga:=sG f ([],[]);have hmlen:=Kk f;refine Uo ?_;refine r4 (parts:=[]) rfl rfl rfl rfl (eH λw5 hsb e5=>?_);have l5:=hsb.lt;have y5:=e5.size;have hM5:MkO w5 w4.heap.size (Nw w2 w3) w4.heap.size (.slice none 0 0) (.slice none 0 0) ([],[]):=
  ⟨hsb,r3,r3,Rq _,(λg I=>by cases I),(λg I=>by cases I),(λg I=>by cases I),λb d=>by have:=d.2;omega⟩
 have hb15:=O.ext e5;have hb25:=hb24.ext e5;have hE5:=hE4.trans e5;refine UD ?_;refine eK (sY _ f T8 hwp w5 hM5 y5 (hfk4.mono (λb d=>e5.block b (by have:=d.2;omega)) T0) TR) ?_;rintro _ w6 ⟨av,pv,M,hC6,na6,np6⟩;have y6:=hC6.size;have hlo6:=M.lo;have hC6':Chg (λb=>b=w4.heap.size) w5 w6:=hC6.wk (λb d=>by
  obtain h|h|h:=d
  .exact h
  .cases h
  .cases h)
 have hblk6:=M.blk;refine UN ?_;refine eK (Je w6 M.a (by simp at hga;omega)) ?_;rintro _ w7 ⟨rfl,hso,hg7⟩;have y7:=hg7.size;have hsbE:w4.heap.size<w5.heap.size:=l5;have hM7:MkO w7 w4.heap.size (Nw w2 w3) w4.heap.size av pv (Kj f):=
  ⟨M.blk.kept hg7 (λe=>M.na _ e.symm rfl),hso,M.p.kept hg7 (λg I e=>M.nap g e.symm I) (λb d=>⟨by have:=d.2;omega,λe=>by have:=(hlo6 b (.inr (.inl e.symm))).1;have:=d.2;omega⟩),M.ge,M.na,M.np,M.nap,M.hF⟩
 have hold:∀b,b<w4.heap.size->w7.heap[b]?=w4.heap[b]?:=λb d=>(hg7.block b TK (λe=>by have:=(hlo6 b (.inr (.inl e.symm))).1;omega)).trans ((hC6'.block b TK TK).trans (e5.block b d));have hb17:Blk w7 _ _ _:=(hold _ TK).trans O;have hb27:Blk w7 _ _ _:=(hold _ TK).trans hb24;have hE7:Ext w0 w7:=by have h1:Ext w4 w7:=⟨hg7.os.trans (hC6.os.trans e5.os),hg7.tape.trans (hC6.tape.trans e5.tape),hg7.output.trans (hC6.output.trans e5.output),by omega,hold⟩;exact hE4.trans h1
 have hfk7:Sl w7 (Nw w2 w3) fo fc f.kids:=hfk4.mono (λb d=>hold b (by have:=d.2;omega)) T0;clear M hC6 na6 np6 hC6' hblk6 hso hg7 hM5 hsb hb15 hb25 hfk4 hb24 O e5 hE5 hlo6;obtain⟨ao,ac,rfl⟩:=hM7.a.val;obtain⟨po,pc,rfl⟩:=hM7.p.val;have hblk7:=hM7.blk;have hml:(Kj f).1.length+(Kj f).2.length<=60:=by rw[hmlen.1,hmlen.2];simp at hga;omega
 refine U8 ?_;refine VD (λw8 e8=>?_);have hE8:=hE7.trans e8;have hb18:=hb17.ext e8;have hb28:=hb27.ext e8;have y8:=e8.size;have hM8:=hM7.ext TK e8;have hfk8:=hfk7.mono (w':=w8) (λb d=>e8.block b (by have:=d.2;omega)) (F':=λb=>b<w8.heap.size) (λb d=>by have:=d.2;omega);rw[show(((Kj f).1.length:Nat):Int)+(((Kj f).2.length:Nat):Int)=((C_ (Kj f):Nat):Int) by unfold C_;omega];refine UR ?_;apply ld rfl<;>intro h
 .have h:C_ (Kj f)>10:=by exact_mod_cast Tu h
  rw[Tn h];refine UZ ?_;refine r4 (parts:=[]) rfl rfl rfl rfl (f7 hb28 (λw9 hb9 hg9=>?_));have hE9:Ext w0 w9:=hE8.grown hg9 hE8.size TZ;refine UX ?_;exact fG hb9 ⟨⟨_,rfl,Cr _⟩,hE9⟩
 have h10:¬C_ (Kj f)>10:=by exact_mod_cast Tt h
 rw[Tm h10];clear h;have hlo8:=hM8.lo;have hMk8:MkF w8 (λb=>b<w8.heap.size) w4.heap.size (Kj f):=by obtain⟨po',pc',ep,hps⟩:=hM8.p.slF (F':=λb=>b<w8.heap.size) (λb d=>by have:=d.2;omega) (λg I=>(hM8.p.lt g I).2.1);obtain⟨ao',ac',ea,has⟩:=hM8.a.slF (F':=λb=>b<w8.heap.size) (λb d=>d.elim) (λg I=>(hM8.a.lt g I).2.1);obtain⟨rfl,_,rfl⟩:=SV ep;obtain⟨rfl,_,rfl⟩:=SV ea;exact⟨⟨ao,ac,po,pc,hM8.blk,has,hps⟩,by omega⟩
 have hmk:=hMk8;clear hM7 hM8 hblk7 hE7 hb17 hb27 hfk7 hold hlo8 hmlen hga e8;generalize Kj f=m at*;generalize hsbn:w4.heap.size=sb at*;have Y:m.1.length<=20/\m.2.length<=20:=by unfold C_ at h10;omega
 have hpN:(1 <<< C_ m)=2 ^ C_ m:=RI _;have hp10:2 ^ C_ m<=2 ^ 10:=RK TK TK;have hpK:(1 <<< m.2.length)=2 ^ m.2.length:=RI _;have hpK10:2 ^ m.2.length<=2 ^ 10:=RK TK (by unfold C_ at h10;omega);refine Uo ?_;refine eC (λw9 hb7 e9=>?_);have l9:=hb7.lt;have hb19:=hb18.ext e9;have hb29:=hb28.ext e9;have hmk9:=hmk.to (w':=w9) (λb d=>e9.block b d);have hfk9:=hfk8.mono (w':=w9) (λb d=>e9.block b d) (F':=λb=>b<w8.heap.size) T0;have hE9:=hE8.trans e9;obtain⟨ao',ac',po',pc',hblk9,has9,hps9⟩:=hmk9.ok;generalize hb7n:w8.heap.size=b7 at*;refine UE ?_;rw[IU (show m.2.length<62 by omega)];generalize 1 <<< m.2.length=K at*;refine fI (α:=Raw) rfl rfl rfl rfl TK TQ (λw10 ho10 hg10=>?_);have e10:Ext w9 w10:=(NP _ _).grown hg10 T8 T2;generalize hbv:Value.slice (some ⟨w9.heap.size,0,none⟩) (K) (K)=bv at*;have hN10:OwnN w10 w9.heap.size 39 3 bv _ (replicate (K) ([]:List Int)):=Wg ho10;rw[<-jL (m:=m)]at hN10;clear ho10 hg10;refine Ux ?_;rw[IU (show C_ m<62 by omega)];generalize 1 <<< C_ m=N at*;refine p8 (S:=Nat×List Raw) (λs=>[(1,Uc w0.heap.size),(2,Uc n.heap.size),(5,Uc sb),(6,Ub ((C_ m:Nat):Int)),(7,Uc b7),(8,bv),(57,Ub (N:Int)),(58,Ub s.1)])
  (λs w=>s.1<=N/\OwnN w w9.heap.size 39 3 bv s.2 (jG m (K) s.1)/\Ext w9 w) (λs=>N -s.1) (0,_) TJ ⟨RU _,hN10,e10⟩ ?_
 clear hN10 e10;rintro⟨i,vs⟩ w ⟨hi,hN,e⟩;dsimp only at hi hN e⊢;have hvl:=hN.len;rw[jI]at hvl;refine UR ?_;apply ld rfl<;>intro h
 .have J:i<N:=by have h:=Tu h;omega
  clear h;refine Ux ?_;refine WL.call (rfl) rfl rfl (zK w ((hmk9.rd (λb d=>by omega)).ext e) hT (by rw[hpN]at J;omega) Y) ?_;rintro _ w11 ⟨rfl,e11⟩;have hN11:=hN.ext e11;have e911:=e.trans e11;have hkl:zI m i<K:=by rw[hpK];exact Ei
  have hkv:zI m i<vs.length:=by omega
  have hkb:zI m i<(jG m (K) i).length:=by rw[jI];exact hkl
  have hin:=hN11.inn (zI m i) hkv hkb;have hrow:=jK (m:=m) hkb;have A:=jJ (m:=m) hkb;generalize zI m i=k at*;refine UR ?_;refine fh rfl rfl rfl rfl rfl hN11.out hkv TV (λu q hu=>?_);obtain⟨rfl,_⟩:=hu.raw;refine U9 ?_;refine eF (F:=dh) (yv:=(i:Int)) rfl rfl TV rfl rfl TV hin T7 e911.size TY TN TQ TK (λv' w12 p ho12 hg12 hnb=>?_);have hmid:=hN11.mid hkv hg12;refine fX (u:=v') (yv:=⟨v'⟩) rfl rfl rfl rfl hmid hkv TV TV (VO _ _ _ ?_) (λw13 q ho13 hg13=>?_)
  .obtain⟨a,b,rfl⟩:=ho12.val;rfl
  have hN13:=hN11.set hkv ho12 hg12 hnb ho13 hg13;rw[A]at hN13;have e13:Ext w9 w13:=(e911.grown hg12 e911.size (λb d=>(hin.lt b d).1)).grown hg13 (Rr e911.size hg12.size) (λb d=>(hN11.out.lt b d).1);refine Ui ?_;exact m5 (i+1,vs.set k ⟨v'⟩) TJ ⟨J,hN13,e13⟩ TP
 obtain rfl:N=i:=by have h:=Tt h;omega
 clear h hi;have hlN:=hN.lt;obtain⟨bo,bc,rfl,hby⟩:=hN.sl;have yw:=e.size;have hbyL:=hby.mono (w':=w) T5 (F':=λb=>w9.heap.size<=b/\b<w.heap.size) (λb d=>hlN b d);have hmkL:=hmk9.to (w':=w) (λb d=>e.block b TK);have hfkL:=hfk9.mono (w':=w) (λb d=>e.block b TK) (F':=λb=>b<b7) T0;have hb7L:=hb7.ext e;have hb1L:=hb19.ext e;have hb2L:=hb29.ext e;have hEL:=hE9.trans e;have hNlt:N<=1024:=by rw[hpN];exact hp10
 clear hN hvl hby hlN hb7 hb19 hb29 hmk9 hfk9 e9 hE9 hE8 hb18 hb28 hmk hfk8 hblk9 has9 hps9 e;generalize hwLn:w.heap.size=wn at*;have r:∀{z:World},Chg (λb=>b=b7\/wn<=b) w z->∀b,b<wn->b≠b7->z.heap[b]?=w.heap[b]?:=λ {z} V b d hne=>V.block b TK TK;have hMA:∀{z:World},Chg (λb=>b=b7\/wn<=b) w z->MkA z sb m/\Sl z (dk z) fo fc f.kids/\Blk z w0.heap.size 32 [Ub f.k,Ub f.n,.slice fo f.kids.length fc]/\Sl z (λb=>w9.heap.size<=b/\b<wn) bo bc (jG m K N):=λ {z} V=>by have hz:=V.size;exact⟨(hmkL.to (λb d=>r V b TK TK)).rd (λb d=>by omega),hfkL.mono (λb d=>r V b TK TK) (λb d=>by exact(show b<z.heap.size by omega)),(r V _ TK TK).trans hb1L,hbyL.mono (λb d=>r V b d.2 TK) T0⟩
 refine UU ?_;rw[IU (show C_ m<62 by omega),show(1 <<< C_ m:Nat)=N by rw[RI,hpN]];refine p8 (S:=Nat×(Nat->Value)×List Raw) (λs=>[(1,Uc w0.heap.size),(2,Uc n.heap.size),(5,Uc sb),(6,Ub ((C_ m:Nat):Int)),(7,Uc b7),(8,.slice bo (jG m K N).length bc),(76,Ub (N:Int)),(77,Ub s.1)])
  (λs z=>s.1<=N/\OutA z wn b7 s.2.1 (Ib (λx=>uI m x f) s.1) s.2.2 ((range s.1).map λx=>jm m x true) ((range s.1).map λx=>jm m x false) []/\InnR z (oM n.heap.size b7 s.2.1) s.2.2 ((range s.1).map λx=>Ib (λt=>decide (zI m t=x >>> m.1.length)) N)/\Chg (λb=>b=b7\/wn<=b) w z)
  (λs=>N -s.1) (0,(λ_=>.slice none 0 0),[]) TJ ⟨RU _,⟨hb7L,r3,r3,r3,r3,r3,(λi j _ _ _ g I=>by cases I),by omega⟩,Wc,VM _ _⟩ ?_
 rintro⟨i,c,vs⟩ z ⟨hi,Z,hR,V⟩;dsimp only at hi Z hR V⊢;obtain⟨kMA,kfk,kb1,kby⟩:=hMA V;have hz:=V.size;have hlt:=Z.lt;have hRl:=hR.len;rw[P4,P7]at hRl;refine UR ?_;apply ld rfl<;>intro h
 .have J:i<N:=by have h:=Tu h;omega
  clear h;have hs20:i<1048576:=by omega
  apply CW.skip;apply bA;apply Wa;apply CW.block;apply Wa;apply Wh;refine U9 ?_;apply p0;apply bA;refine aC (S:=Nat->Value) (λc'=>[(1,Uc w0.heap.size),(2,Uc n.heap.size),(5,Uc sb),(6,Ub ((C_ m:Nat):Int)),(7,Uc b7),(8,.slice bo (jG m K N).length bc),(11,Ub (i:Int)),(76,Ub (N:Int)),(77,Ub (i:Int))])
   (λc' z'=>OutA z' wn b7 c' (Ib (λx=>uI m x f) (i+1)) vs ((range i).map λx=>jm m x true) ((range i).map λx=>jm m x false) []/\InnR z' (oM n.heap.size b7 c') vs ((range i).map λx=>Ib (λt=>decide (zI m t=x >>> m.1.length)) N)/\Chg (λb=>b=b7\/wn<=b) w z') ?_ ?_
  .refine UD ?_;refine eK (KH _ f T8 z kMA hF kfk hs20 Y) ?_;rintro _ z1 ⟨rfl,e1⟩;have P:=Z.ext e1;have hR1:=hR.to (t1 (oM n.heap.size b7 c) e1) (λb d=>.inl d);have hC1:=V.trans (t1 _ e1);have A:=Id (p:=λx=>uI m x f) (i:=i);have hxl:=Ic (p:=λx=>uI m x f) (i:=i);have hz1:=e1.size;cases hh:uI m i f with
   |false=>
    simp only[hh]at A;rw[Tm TN]at A;refine UY ?_;exact aV c TJ ⟨by rw[A];exact P,hR1,hC1⟩
   |true=>
    simp only[hh]at A;rw[Tn trivial]at A;have hblk1:=P.blk;have hlt1:=P.lt;refine UI ?_;refine eF (F:=dh) (yv:=(i:Int)) rfl rfl TV rfl rfl TV P.o0 T7 TK TY TN TQ TK (λv' z2 p ho2 hg2 hnb=>?_);obtain⟨so,sc,rfl⟩:=ho2.val;have hblk2:=hblk1.kept hg2 (λe=>by have:=(hlt1 0 TK b7 e.symm).1;have:=Z.lb;omega);refine Va ?_;refine f7 hblk2 (λz3 L hg3=>?_);obtain⟨kk,kn,kd,B,km,kw⟩:=P.step (b2:=n.heap.size) (i:=0) (by omega) hg2 hg3 hnb TK;have ho3:=kn ho2;rw[<-A]at ho3;refine UG ?_;refine aV (Md c 0 _) TJ ⟨⟨L,?_,kk 1 TK TK P.o1,kk 2 TK TK P.o2,kk 3 TK TK P.o3,kk 4 TK TK P.o4,kd,Z.lb⟩,hR1.to B km,hC1.then kw (λb d=>.inl d)⟩;rw[show(Ib (λx=>uI m x f) i++[(i:Int)]).length=(Ib (λx=>uI m x f) (i+1)).length by rw[A]]at*;exact ho3
  rintro c1 z1 ⟨P,hR1,hC1⟩;have hs20':i<2 ^ 20:=by omega
  have hD:Ext z1 (drew z1):=mm z1;have hzd:=hD.size;have hz1:=hC1.size;have E:=P.ext hD;have hRd:=hR1.to (t1 (oM n.heap.size b7 c1) hD) (λb d=>.inl d);have U:=hC1.trans (t1 _ hD);have o:=E.blk;have hltd:=E.lt;have lb:=E.lb;obtain⟨kMA,kfk,kb1,kby⟩:=hMA U;have howe:i >>> m.1.length<K:=by rw[hpK,RN,Rh (Nat.two_pow_pos _),<-Nat.pow_add];rw[hpN]at J;unfold C_ at J;rw[Q8];exact J
  have hkb:i >>> m.1.length<(jG m K N).length:=by rw[jI];exact howe
  have hrowN:(jG m K N)[i >>> m.1.length]=Ib (λt=>decide (zI m t=i >>> m.1.length)) N:=jH hkb;have hrowl:=Ic (p:=λt=>decide (zI m t=i >>> m.1.length)) (i:=N);refine UZ ?_;refine aF (λx:World=>∀b,b<wn->x.heap[b]?=(drew z1).heap[b]?) [Wr 0,Wr 1,Wr 2,Wr 3,Wr 4,Ws 5,Wr 6,Wr 7,Ws 8,Ws 9,Ws 10,Ws 11] 12 mixed TL T5 (Vo ?_);refine cu (λu h=>h b7 lb) rfl rfl rfl rfl o rfl (Vo ?_);refine cy rfl (eK (Eb _ kMA Y.1) ?_);rintro _ _ ⟨rfl,rfl⟩;refine p0 (a8 T5 (cb (k:=i >>> m.1.length) (λu h b d=>h b d.2) rfl rfl rfl rfl rfl rfl rfl kby hkb TV (λu q hu=>?_)));rw[hrowN]at hu;obtain⟨ro,rc,rfl,hrow⟩:=hu.sl;refine cy rfl (eK (lI (drew z1) (hrow.mono T5 (λb d=>by have:=d.2;exact(show b<(drew z1).heap.size by omega))) TK) ?_);rintro rv z2 ⟨hrv,W⟩;have hz2:=W.size;refine p0 (a8 (λb d=>W.block b TK) ?_);obtain⟨ro',rc',rfl⟩:=hrv.val;have H:=E.ext W;have hR2:=hRd.to (t1 (oM n.heap.size b7 c1) W) (λb d=>.inl d);have hC2:=U.trans (t1 _ W);have hlt2:=H.lt;have hlo1:=H.o1.lt;refine bW (α:=Raw) (F:=dh) (bytes:=24) (yv:=(⟨.slice ro' (Ib (λt=>decide (zI m t=i >>> m.1.length)) N).length rc'⟩:Raw)) rfl rfl rfl rfl TV rfl rfl TV H.o1 (VO _ _ _ rfl) TK TY TN TQ TK
   (λu hu b d=>(hu.block b TK (λe=>by have:=(hlo1 b e.symm).1;omega)).trans (W.block b TK)) (λv' z3 p ho3 hg3 hnb=>?_)
  obtain⟨so,sc,rfl⟩:=ho3.val;have L:=H.blk.kept hg3 (λe=>by have:=(hlo1 b7 e.symm).1;omega);have hz3:z2.heap.size<=z3.heap.size:=hg3.size;refine cy rfl (fj rfl rfl rfl (p0 (a8 (λb d=>(hg3.block b TK (λe=>by have:=(hlo1 b e.symm).1;omega)).trans (W.block b TK)) (VK (bu rfl (f7 L (λz4 hblk4 hg4=>p0 (bx ?_))))))));obtain⟨kk,kn,kd,B,km,kw⟩:=H.step (b2:=n.heap.size) (i:=1) (by omega) hg3 hg4 hnb TK;have hrvR:Rd z2 (Fz z2 (oM n.heap.size b7 c1)) _ _:=hrv.rd.mono T5 (λg I=>I.elim (λh=>h.elim) (λI=>⟨(hrv.lt g I).2.1,λh=>by
   have h1:=(hrv.lt g I).1;obtain h|h|⟨j,hj,h⟩:=h
   .omega
   .omega
   .have:=(hltd j hj g h).2;omega⟩))
  have hR4:=(hR2.push hrvR).to B km;rw[<-rngM_next]at hR4;have hA4:OutA z4 wn b7 (Md c1 1 _) _ _ _ _ _:=⟨hblk4,kk 0 TK TK H.o0,kn ho3,kk 2 TK TK H.o2,kk 3 TK TK H.o3,kk 4 TK TK H.o4,kd,lb⟩;have hC4:=hC2.then kw (λb d=>.inl d);generalize hc2:Md c1 1 _=c2 at hA4 hR4;clear kk kn kd B km kw hrvR hblk4 hg4 L hlt2 hlo1 hg3 hnb ho3 H hR2 hC2 W hrv hrow o hltd kMA kfk kb1 kby E hRd U hD P hR1 hC1;apply bA;have hD:Ext z4 (drew z4):=mm z4;have hzd:=hD.size;have hzi:=hC4.size;have E:=hA4.ext hD;have U:=hC4.trans (t1 _ hD);have o:=E.blk;have lb:=E.lb;obtain⟨kMA,kfk,kb1,kby⟩:=hMA U;refine UZ ?_;refine aF (λx:World=>∀b,b<wn->x.heap[b]?=(drew z4).heap[b]?) [Wr 0,Wr 1,Wr 2,Wr 3,Ws 4,Ws 5,Ws 6,Ws 7] 8 mixed TL T5 (Vo ?_);refine cu (λu h=>h b7 lb) rfl rfl rfl rfl o rfl (Vo ?_);refine cy rfl (eK (jp _ true kMA hT.ok hs20 Y.1) ?_);rintro _ zc ⟨rfl,ec⟩;have hzc:=ec.size;refine p0 (a8 (λb d=>ec.block b TK) ?_);have l:=E.ext ec;have hRc:=hR4.to (t1 (oM n.heap.size b7 c2) (hD.trans ec)) (λb d=>.inl d);have hCc:=U.trans (t1 _ ec);have G:=l.o2.lt;refine bW (α:=Nat) (F:=dh) (bytes:=8) (yv:=jm m i true) rfl rfl rfl rfl TV rfl rfl TV l.o2 (Gi _ _ _ (jk (λx hx=>(hT.ok.ra x hx).2) T8)) TK TY TN (by unfold maxLen;rw[P4,P7];omega) (by rw[P4,P7];omega)
   (λu hu b d=>(hu.block b TK (λe=>by have:=(G b e.symm).1;omega)).trans (ec.block b TK)) (λv' zA p hoA R hnb=>?_)
  obtain⟨so,sc,rfl⟩:=hoA.val;have T:=l.blk.kept R (λe=>by have:=(G b7 e.symm).1;omega);have hzA:zc.heap.size<=zA.heap.size:=R.size;refine cy rfl (fj rfl rfl rfl (p0 (a8 (λb d=>(R.block b TK (λe=>by have:=(G b e.symm).1;omega)).trans (ec.block b TK)) (VK (bu rfl (f7 T (λz5 D hgB=>p0 (bx ?_))))))));obtain⟨kk,kn,kd,B,km,kw⟩:=l.step (b2:=n.heap.size) (i:=2) (by omega) R hgB hnb TK;have hR5:=hRc.to B km;have Q:=hoA;rw[show((range i).map λx=>jm m x true)++[jm m i true]=(range (i+1)).map λx=>jm m x true from rngM_next.symm]at Q D kd km hR5 kn;have hA5:OutA z5 wn b7 (Md c2 2 _) _ _ _ _ _:=⟨D,kk 0 TK TK l.o0,kk 1 TK TK l.o1,kn Q,kk 3 TK TK l.o3,kk 4 TK TK l.o4,kd,lb⟩;have hC5:=hCc.then kw (λb d=>.inl d);generalize hcv5:Md c2 2 _=c3 at hA5 hR5;clear kk kn kd B km kw R hgB hnb hoA Q l hRc hCc ec o kMA kfk kb1 kby E U hD hA4 hR4 hC4 T D G;apply bA;have hD:Ext z5 (drew z5):=mm z5;have hzd:=hD.size;have hzi:=hC5.size;have E:=hA5.ext hD;have U:=hC5.trans (t1 _ hD);have o:=E.blk;have lb:=E.lb;obtain⟨kMA,kfk,kb1,kby⟩:=hMA U;refine aF (λx:World=>∀b,b<wn->x.heap[b]?=(drew z5).heap[b]?) [Wr 0,Wr 1,Wr 2,Wr 3,Ws 4,Ws 5,Ws 6,Ws 7] 8 mixed TL T5 (Vo ?_);refine cu (λu h=>h b7 lb) rfl rfl rfl rfl o rfl (Vo ?_);refine cy rfl (eK (jp _ false kMA hT.ok hs20 Y.1) ?_);rintro _ zc ⟨rfl,ec⟩;have hzc:=ec.size;refine p0 (a8 (λb d=>ec.block b TK) ?_);have l:=E.ext ec;have hRc:=hR5.to (t1 (oM n.heap.size b7 c3) (hD.trans ec)) (λb d=>.inl d);have hCc:=U.trans (t1 _ ec);have G:=l.o3.lt;refine bW (α:=Nat) (F:=dh) (bytes:=8) (yv:=jm m i false) rfl rfl rfl rfl TV rfl rfl TV l.o3 (Gi _ _ _ (jk (λx hx=>(hT.ok.ra x hx).2) T8)) TK TY TN (by unfold maxLen;rw[P4,P7];omega) (by rw[P4,P7];omega)
   (λu hu b d=>(hu.block b TK (λe=>by have:=(G b e.symm).1;omega)).trans (ec.block b TK)) (λv' zA p hoA R hnb=>?_)
  obtain⟨so,sc,rfl⟩:=hoA.val;have T:=l.blk.kept R (λe=>by have:=(G b7 e.symm).1;omega);have hzA:zc.heap.size<=zA.heap.size:=R.size;refine cy rfl (fj rfl rfl rfl (p0 (a8 (λb d=>(R.block b TK (λe=>by have:=(G b e.symm).1;omega)).trans (ec.block b TK)) (VK (bu rfl (f7 T (λz6 D hgB=>p0 (bx ?_))))))));obtain⟨kk,kn,kd,B,km,kw⟩:=l.step (b2:=n.heap.size) (i:=3) (by omega) R hgB hnb TK;have hR6:=hRc.to B km;have Q:=hoA;rw[show((range i).map λx=>jm m x false)++[jm m i false]=(range (i+1)).map λx=>jm m x false from rngM_next.symm]at Q D kd km hR6 kn;have hA6:OutA z6 wn b7 (Md c3 3 _) _ _ _ _ _:=⟨D,kk 0 TK TK l.o0,kk 1 TK TK l.o1,kk 2 TK TK l.o2,kn Q,kk 4 TK TK l.o4,kd,lb⟩;have hC6:=hCc.then kw (λb d=>.inl d);generalize hcv6:Md c3 3 _=c4 at hA6 hR6;clear kk kn kd B km kw R hgB hnb hoA Q l hRc hCc ec o kMA kfk kb1 kby E U hD hA5 hR5 hC5 T D G;refine Ui ?_;exact m5 (i+1,c4,_) TJ ⟨J,hA6,hR6,hC6⟩ TP
 obtain rfl:N=i:=by have h:=Tt h;omega
 clear h hi hRl;obtain⟨mao,mac,mpo,mpc,hblkw,hasw,hpsw⟩:=hmkL.ok;have hblkz:Blk z _ _ _:=(r V sb TK TK).trans hblkw;refine UU ?_;refine p8 (S:=Nat×(Nat->Value)×List Raw) (λs=>[(2,Uc n.heap.size),(5,Uc sb),(6,Ub ((C_ m:Nat):Int)),(7,Uc b7),(122,.slice mpo m.2.length mpc),(123,Ub m.2.length),(124,Ub s.1)])
  (λs z=>s.1<=m.2.length/\OutA z wn b7 s.2.1 (Ib (λx=>uI m x f) N) vs ((range N).map λx=>jm m x true) ((range N).map λx=>jm m x false) s.2.2/\InnR z (oM n.heap.size b7 s.2.1) vs ((range N).map λx=>Ib (λt=>decide (zI m t=x >>> m.1.length)) N)/\
   InnR z (oM n.heap.size b7 s.2.1) s.2.2 (((m.2.take s.1).filter λg=>decide (g.k≠7)).map λg=>Ib (qk m g) N)/\Chg (λb=>b=b7\/wn<=b) w z)
  (λs=>m.2.length -s.1) (0,c,[]) TJ ⟨RU _,Z,hR,Wc,V⟩ ?_
 clear hblkz Z hR V kMA kfk kb1 kby hlt hz c z;rintro⟨i,c,us⟩ z ⟨hi,Z,hR,hU,V⟩;dsimp only at hi Z hR hU V⊢;have hz:=V.size;have hlt:=Z.lt;have hUl:=hU.len;have hfl:((m.2.take i).filter λg=>decide (g.k≠7)).length<=i:=Rr (P3 _ _) (by rw[Qb];omega);rw[P4]at hUl;refine UR ?_;apply ld rfl<;>intro h
 .have J:i<m.2.length:=by have h:=Tu h;omega
  clear h;have hpsz:Sl z (λb=>b<b7) mpo mpc m.2:=hpsw.mono (λb d=>r V b (by have d:b<b7:=d;omega) (by have d:b<b7:=d;omega)) T0;have htk:(m.2.take (i+1))=m.2.take i++[m.2[i]]:=by rw[QY,Pq J];rfl
  have hmem:m.2[i]∈m.2:=PL J;refine UC ?_;refine fd (i:=i) rfl rfl rfl rfl rfl hpsz J TV (λu q hu=>?_);generalize m.2[i]=g at*;obtain⟨go,gc,rfl,hgk⟩:=r0 hu;clear hu hpsz;refine eC (λz1 hg1 e1=>?_);refine f7 hg1 (λz2 hg2 hgg2=>?_);have W:Ext z z2:=NM e1 hgg2 e1.size TX;have hz2:=W.size;have H:=Z.ext W;have hR2:=hR.to (t1 (oM n.heap.size b7 c) W) (λb d=>.inl d);have hU2:=hU.to (t1 (oM n.heap.size b7 c) W) (λb d=>.inl d);have hC2:=V.trans (t1 _ W);have lg:=hg2.lt;have hgk2:=hgk.mono (w':=z2) (F':=λb=>b<b7) (λb d=>W.block b (by have d:b<b7:=d;omega)) T0;have hOg:=hT.part hmem;clear hg1 e1 hgg2 Z hR hU V hgk;refine Uy ?_;apply ld rfl<;>intro h
  .have h:g.k=7:=by simpa using h
   refine Uj ?_;refine m5 (i+1,c,us) TJ ⟨J,H,hR2,?_,hC2⟩ TP;rw[htk,O5,show([g].filter λg=>decide (g.k≠7))=[] by simp[h],OH];exact hU2
  have hk7:g.k≠7:=by simpa using h
  have htk2:((m.2.take (i+1)).filter λg=>decide (g.k≠7))=((m.2.take i).filter λg=>decide (g.k≠7))++[g]:=by rw[htk,O5,show([g].filter λg=>decide (g.k≠7))=[g] by simp[hk7]]
  clear h htk;obtain⟨a,rfl⟩|⟨k,a,b,hk,rfl⟩:=EC (hT.ok.wp g hmem).1 (hT.ok.wp g hmem).2.1
  .exact absurd rfl hk7
  clear hk7;generalize hgd:Ltl.mk k 0 [a,b]=g at*;refine Ux ?_;rw[IU (show C_ m<62 by omega),show(1 <<< C_ m:Nat)=N by rw[RI,hpN]];refine p8 (S:=Nat×Value) (λs=>[(2,Uc n.heap.size),(5,Uc sb),(6,Ub ((C_ m:Nat):Int)),(7,Uc b7),(13,Uc z.heap.size),(14,s.2),(122,.slice mpo m.2.length mpc),(123,Ub m.2.length),(124,Ub i),(132,Ub (N:Int)),(133,Ub s.1)])
   (λs y=>s.1<=N/\Own y z2.heap.size 3 dh s.2 (Ib (qk m g) s.1)/\Ext z2 y) (λs=>N -s.1) (0,.slice none 0 0) TJ ⟨RU _,r3,p7 _⟩ ?_
  rintro⟨j,sv⟩ y ⟨hj,hs,ey⟩;dsimp only at hj hs ey⊢;have hy:=ey.size;have hsl:=Ic (p:=qk m g) (i:=j);refine UR ?_;apply ld rfl<;>intro h
  .have hj':j<N:=by have h:=Tu h;omega
   clear h;have hgy:=hg2.ext ey;obtain⟨kMA,kfk,kb1,kby⟩:=hMA (hC2.trans (t1 _ ey));have hgky:=hgk2.mono (w':=y) (F':=dk y) (λb d=>ey.block b (by have d:b<b7:=d;omega)) (λb d=>(show b<y.heap.size by have d:b<b7:=d;omega));have A:=Id (p:=qk m g) (i:=j);subst hgd;refine Uv ?_;refine eK (KG _ (k:=k) (a:=a) (b:=b) kMA hOg hk hgky (show j<1048576 by omega) Y) ?_;rintro v y1 ⟨hv,e1⟩;have hs1:=hs.extN e1;have hey:=ey.trans e1;have hy1:=hey.size;generalize qk m (.mk k 0 [a,b]) j=bb at hv A;subst hv;cases bb with
   |false=>
    rw[Tm TN]at A;refine US ?_;exact m5 (j+1,sv) TJ ⟨hj',by rw[A];exact hs1,hey⟩ TP
   |true=>
    rw[Tn rfl]at A;refine UY ?_;refine eF (F:=dh) (yv:=(j:Int)) rfl rfl TV rfl rfl TV hs1 T7 TK TY TN TQ TK (λv' y2 p ho2 hgr2 hnb=>?_);rw[<-A]at ho2;refine Ui ?_;exact m5 (j+1,v') TJ ⟨hj',ho2,hey.grown hgr2 hey.size (λg I=>(hs1.lt g I).1)⟩ TP
  obtain rfl:N=j:=by have h:=Tt h;omega
  clear h hj;have X:=H.ext ey;have hRy:=hR2.to (t1 (oM n.heap.size b7 c) ey) (λb d=>.inl d);have hUy:=hU2.to (t1 (oM n.heap.size b7 c) ey) (λb d=>.inl d);have hCy:=hC2.trans (t1 _ ey);have hblky:=X.blk;have hlty:=X.lt;have lb:=X.lb;have hlo4:=X.o4.lt;obtain⟨ro,rc,rfl⟩:=hs.val;clear H hR2 hU2 hC2 hg2;refine U1 ?_;refine eF (α:=Raw) (F:=dh) (yv:=(⟨.slice ro (Ib (qk m g) N).length rc⟩:Raw)) rfl rfl TV rfl rfl TV X.o4 (VO _ _ _ rfl) TK TY TN TQ TK (λv' y2 p ho2 hgr2 hnb=>?_);obtain⟨so,sc,rfl⟩:=ho2.val;have hblk2:=hblky.kept hgr2 (λe=>by have:=(hlo4 b7 e.symm).1;omega);refine Va ?_;refine f7 hblk2 (λy3 L hgr3=>?_);obtain⟨kk,kn,kd,B,km,kw⟩:=X.step (b2:=n.heap.size) (i:=4) (by omega) hgr2 hgr3 hnb TK;have hrvR:Rd y (Fz y (oM n.heap.size b7 c)) _ _:=hs.rd.mono T5 (λg I=>I.elim (λh=>h.elim) (λI=>⟨(hs.lt g I).2.1,λh=>by
   have h1:=(hs.lt g I).1;obtain h|h|⟨j,hj,h⟩:=h
   .omega
   .omega
   .have:=(hlt j hj g h).2;omega⟩))
  have hU3:=(hUy.push hrvR).to B km;rw[show((m.2.take i).filter λg=>decide (g.k≠7)).map (λg=>Ib (qk m g) N)++[Ib (qk m g) N]=((m.2.take (i+1)).filter λg=>decide (g.k≠7)).map (λg=>Ib (qk m g) N) by rw[htk2,Qe];rfl]at hU3;have hA3:OutA y3 wn b7 (Md c 4 _) _ _ _ _ _:=⟨L,kk 0 TK TK X.o0,kk 1 TK TK X.o1,kk 2 TK TK X.o2,kk 3 TK TK X.o3,kn ho2,kd,lb⟩;refine Ui ?_;exact m5 (i+1,_,_) TJ ⟨J,hA3,hRy.to B km,hU3,hCy.then kw (λb d=>.inl d)⟩ TP
 obtain rfl:i=m.2.length:=by have h:=Tt h;omega
 rw[Q0]at hU;clear h hi;have hblkz:=Z.blk;have lb:=Z.lb;have hb2z:Blk z _ _ _:=(r V n.heap.size TK TK).trans hb2L;have hE:Ext w0 z:=V3 hEL V (λb d=>by omega);have hFF:∀b,Fz z (oM n.heap.size b7 c) b->b<z.heap.size/\b≠n.heap.size:=λb d=>⟨d.1,λe=>d.2 (.inl e)⟩;have hFo:∀j,j<5->∀g,(c j).ownBlock=some g->g<z.heap.size/\g≠n.heap.size:=λj hj g I=>⟨(hlt j hj g I).2,by have:=(hlt j hj g I).1;omega⟩;obtain⟨a1,d1,e1,s1⟩:=Z.o0.slF (F':=λb=>b<z.heap.size/\b≠n.heap.size) TY (hFo 0 TK);obtain⟨a2,d2,W,s2⟩:=hR.sl (F:=λb=>b<z.heap.size/\b≠n.heap.size) Z.o1 hFF (hFo 1 TK);obtain⟨a3,d3,e3,s3⟩:=Z.o2.slF (F':=λb=>b<z.heap.size/\b≠n.heap.size) TY (hFo 2 TK);obtain⟨a4,d4,e4,s4⟩:=Z.o3.slF (F':=λb=>b<z.heap.size/\b≠n.heap.size) TY (hFo 3 TK);obtain⟨a5,d5,e5,s5⟩:=hU.sl (F:=λb=>b<z.heap.size/\b≠n.heap.size) Z.o4 hFF (hFo 4 TK);rw[e1,W,e3,e4,e5]at hblkz;clear Z hR hU;refine U1 ?_;refine f7 hb2z (λz1 O hg1=>?_);have hz1:=hg1.size;have hk1:∀b,b<z.heap.size/\b≠n.heap.size->z1.heap[b]?=z.heap[b]?:=λb d=>hg1.block b d.1 (λe=>d.2 (R4 e));have hk2:∀b,b<z.heap.size/\b≠n.heap.size->dk z1 b:=λb d=>(show b<z1.heap.size by omega);have hE1:Ext w0 z1:=hE.grown hg1 hE.size TZ;refine Uf ?_;have hT5:Kh m f=(Ib (λx=>uI m x f) N,(range N).map λx=>Ib (λt=>decide (zI m t=x >>> m.1.length)) N,(range N).map λx=>jm m x true,(range N).map λx=>jm m x false,(m.2.filter λg=>decide (g.k≠7)).map λg=>Ib (qk m g) N):=by rw[hpN];rfl
 refine fG O ⟨⟨_,rfl,?_⟩,hE1⟩;show AutoAt z1 (dk z1) _ (Kh m f);rw[hT5];exact⟨a1,d1,a2,d2,a3,d3,a4,d4,a5,d5,rfl,s1.mono hk1 hk2,s2.mono hk1 hk2,s3.mono hk1 hk2,s4.mono hk1 hk2,s5.mono hk1 hk2⟩

def Sl.notB{ao:Option Addr}{cap b:Nat}{xs:List Int}{e:TypeId}(h:Sl w F ao cap xs)(m:Blk w b e r)(l:∀(k:Nat) (x:Int),r[k]?≠some (Value.int IntKind.i64 x)):Sl w (λc=>F c/\c≠b) ao cap xs:=by refine⟨h.le,h.mx,h.nil,λi hi=>?_⟩;obtain⟨c,off,n,hf,f,d,g⟩:=h.el i hi;have a:f=[Value.int IntKind.i64 xs[i]]:=g;refine⟨c,off,n,⟨hf,λj=>?_⟩,f,d,a⟩;subst a;have h1:=d 0 _ rfl;rw[j,S8 w b _ r.toArray e (0,0) m]at h1;exact l _ _ (by simpa using h1)
def ai(W:cR)(f:Ltl):Prop:=∀ρ,WWay W ρ->If (λi=>W.2.2.1.getD (ρ i) 0) f 0
def C2(f:Ltl):Ltl:=.mk 4 0 [f]
def sem_not{L:Nat->Nat}{f:Ltl}{i:Nat}:If L (C2 f) i↔¬If L f i:=by simp[C2,If,Ir,Iq]
def pP{W:cR}{f:Ltl}(d:dr W)(h:(Bo (C2 f)).2=0):aQ W (Bo (C2 f)).1↔¬ai W f:=by
 have b:=λL=>(Bp (L:=L) h).2.1;have okA:=(Bp (L:=λ_=>0) h).1;constructor
 .rintro⟨r,c⟩ a;obtain⟨h1,h2⟩:=pS d (Dr okA) c;exact sem_not.1 ((b _).1 h2) (a _ h1)
 .intro hn;unfold ai at hn;rw[Oe]at hn;obtain⟨ρ,hρ⟩:=hn;rw[Classical.not_imp]at hρ;exact pQ hρ.1 ((b _).2 (sem_not.2 hρ.2))
structure JudE(W:cR)(f:Ltl)(s l:List Int)(is:Bool)(err:Int):Prop where
 bad:err≠0->is=false/\s=[]/\l=[]
 good:kB W=0->(kD f 1 0).1=0->(Bo (C2 f)).2=0->err=0
 ok:err=0->kB W=0/\(kD f 1 0).1=0/\MK f/\(Bo (C2 f)).2=0/\(is=true↔ai W f)/\(is=true->s=[]/\l=[])/\(is=false->PathE W (Bo (C2 f)).1 s l)
 err:kB W=0->(kD f 1 0).1=0->err≠0->err=(Bo (C2 f)).2
def zF{W:cR}{f:Ltl}{s l:List Int}{is:Bool}{err:Int}(hf:(kD f 1 0).1=0)(h:(Bo (C2 f)).2=0)(hF:bS W (Bo (C2 f)).1 s l is err):JudE W f s l (!is&&decide (err=0)) err:=by
 have d:=(Bp (L:=λ_=>0) h).2.2;have g:MK f:=by have:=d;unfold C2 at this;simp only[MK,MM]at this;exact this.2.2.2.2.1
 have okA:=(Bp (L:=λ_=>0) h).1;obtain⟨i,rfl,rfl,rfl,c⟩|⟨rfl,a,n,⟨rfl,rfl,rfl,e⟩|⟨rfl,j,hP⟩⟩:=hF
 .exact⟨λ_=>⟨by simp[i],rfl,rfl⟩,λa _ _=>(c a (kh okA)).elim,λm=>absurd m i,λa _ _=>(c a (kh okA)).elim⟩
 .exact⟨λh=>absurd rfl h,λ_ _ _=>rfl,λ_=>⟨a,hf,g,h,⟨λ_=>Of.1 (λhn=>e ((pP (kC a) h).2 hn)),λ_=>by simp⟩,λ_=>⟨rfl,rfl⟩,λb=>by simp at b⟩,λ_ _ h=>absurd rfl h⟩
 .exact⟨λh=>absurd rfl h,λ_ _ _=>rfl,λ_=>⟨a,hf,g,h,⟨λb=>by simp at b,λk=>absurd k ((pP (kC a) h).1 j)⟩,λb=>by simp at b,λ_=>hP⟩,λ_ _ h=>absurd rfl h⟩
def zE{W:cR}{f:Ltl}{err:Int}(h:err≠0)(e:kB W=0->(kD f 1 0).1=0->(Bo (C2 f)).2=0->False)(d:kB W=0->(kD f 1 0).1=0->err=(Bo (C2 f)).2):JudE W f [] [] false err:=
 ⟨λ_=>⟨rfl,rfl,rfl⟩,λa b c=>(e a b c).elim,λg=>absurd g h,λa b _=>d a b⟩
def zj(w0:World){vf:Value}{W:cR}{f:Ltl}{o3 o4:Option Addr}{c1 c2:Nat}(h1:Sl w0 (dk w0) C c1 W.1)(h2:Sl w0 (dk w0) D c2 W.2.1)(h3:Sl w0 (dk w0) o3 B W.2.2.1)(h4:Sl w0 (dk w0) o4 a W.2.2.2)(hf:RL w0 vf f)
  (sW:∀j,(W.2.1.getD j []).length<=1048576) (tW:W.1.length<=1048576):
  Rt Vy 26 [M5 C c1 D c2 o3 B o4 a W.1.length W.2.1.length W.2.2.1.length W.2.2.2.length,vf].toArray w0 λv w'=>(∃s l is err so sc lo lc,v=.tuple ⟨[EG so sc lo lc s l,.bool is,Ub err]⟩/\Sl w' (dk w') so sc s/\Sl w' (dk w') lo lc l/\JudE W f s l is err)/\Ext w0 w':=by
 have hm3:=h3.len63;obtain⟨ko,kc,rfl,hk⟩:=r0 hf;refine dS func26 ntmps26 rfl rfl ?_;have d:=p7 w0;refine UZ ?_;refine eH λw1 g e1=>?_
 have d:=d.trans e1;skip;refine eH λw2 i e2=>?_
 have g:=g.ext e2;have d:=d.trans e2;skip;refine eC (λw3 c e3=>?_);have g:=g.ext e3;have i:=i.ext e3;have l2:=d.size;have d:=d.trans e3;have l4:=c.lt;refine UD ?_;refine eK (Ml w3 (h1.up d) (h2.up d) hm3 (h4.up d)) ?_;rintro _ w4 ⟨rfl,V⟩
 have g:=g.ext V;have i:=i.ext V;have c:=c.ext V;have d:=d.trans V;clear e1 e2 e3;refine UR ?_;apply ld rfl<;>intro h
 .have h:kB W≠0:=by simpa using h
  refine UZ ?_;refine r4 (parts:=[]) rfl rfl rfl rfl ?_;refine U9 ?_;refine f7 c (λZ hb5 hg5=>?_);have hE5:Ext w0 Z:=d.grown hg5 d.size TZ;refine UX ?_;exact bm rfl rfl rfl rfl hb5 rfl ⟨⟨[],[],false,_,_,_,_,_,rfl,v1 Z _,v1 Z _,zE h (λq _ _=>h q) (λq _=>absurd q h)⟩,hE5⟩
 have hW:kB W=0:=by simpa using h
 clear h;refine Uo ?_;refine eK (Bg w4 (hk.up d) T0) ?_;rintro _ Z ⟨rfl,U⟩
 have g:=g.ext U;have i:=i.ext U;have c:=c.ext U;have d:=d.trans U;refine UR ?_;apply ld rfl<;>intro h
 .have h:(kD f 1 0).1≠0:=by simpa using h
  refine UZ ?_;refine r4 (parts:=[]) rfl rfl rfl rfl ?_;refine U9 ?_;refine f7 c (λH hb6 hg6=>?_);have hE6:Ext w0 H:=d.grown hg6 d.size TZ;refine UX ?_;exact bm rfl rfl rfl rfl hb6 rfl ⟨⟨[],[],false,_,_,_,_,_,rfl,v1 H _,v1 H _,zE h (λ_ q _=>h q) (λ_ q=>absurd q h)⟩,hE6⟩
 have hcf:(kD f 1 0).1=0:=by simpa using h
 clear h;refine Uo ?_;refine fE [f] rfl rfl rfl rfl rfl ⟨RL.ext hf d,trivial⟩ (by show 1*3<=16777216;decide) (λu H e6 hu _=>?_);obtain⟨fo,fc,rfl,M⟩:=hu.sl;skip;refine r4 (parts:=[(0,_),(2,_)]) rfl rfl rfl rfl ?_;skip;refine eK (c9 H (t:=C2 f) M) ?_;rintro _ w7 ⟨⟨rv,rfl,hr⟩,e7⟩
 have o:=e6.trans e7;have g:=g.ext o;have i:=i.ext o;have c:=c.ext o;have d:=d.trans o;have I:=Bq (C2 f);have N:=λs l is err=>zF (W:=W) (s:=s) (l:=l) (is:=is) (err:=err) hcf
 have J:=λerr h=>zE (W:=W) (f:=f) (err:=err) h
 obtain⟨q1,f1,q2,f2,q3,f3,q4,f4,q5,f5,rfl,p1,p2,p3,p4,p5⟩:=hr.ok;generalize (Bo (C2 f)).2=e at*
 generalize (Bo (C2 f)).1=A at*
 clear hr;refine U9 ?_;refine eC (λw8 P e8=>?_);skip;refine f7 P (λY P K=>?_);have r:Ext w7 Y:=e8.grown K e8.size TX;have g:=g.ext r;have c:=c.ext r;have d:=d.trans r;have hA:AutoAt Y (dk Y) _ A:=⟨q1,f1,q2,f2,q3,f3,q4,f4,q5,f5,rfl,p1.up r,p2.up r,p3.up r,p4.up r,p5.up r⟩;clear V U e6 e7 o e8 r K p1 p2 p3 p4 p5 M hu i;refine UR ?_;apply ld rfl<;>intro h
 .have h:e≠0:=by simpa using h
  refine UZ ?_;refine r4 (parts:=[]) rfl rfl rfl rfl ?_;refine U9 ?_;refine f7 c (λm R L=>?_);have T:Ext w0 m:=d.grown L d.size TZ;refine UX ?_;exact bm rfl rfl rfl rfl R rfl ⟨⟨[],[],false,_,_,_,_,_,rfl,v1 m _,v1 m _,J _ h (λ_ _ q=>h q) T5⟩,T⟩
 have he:e=0:=by simpa using h
 clear h;refine Uo ?_;refine eK (rp Y (W:=W) (A:=A) (h1.up d) (h2.up d) (h3.up d) (h4.up d) hA sW I.2.1 tW I.2.2) ?_;rintro _ m ⟨⟨s,l,is,err,so,sc,lo,lc,rfl,hs,hl,hF⟩,X⟩
 have c:=c.ext X;have d:=d.trans X;refine U9 ?_;refine eC (λw11 E G=>?_);skip;refine f7 E (λp E z=>?_);have w:Ext m p:=G.grown z G.size TX;have c:=c.ext w;have d:=d.trans w;have hs:=hs.up w;have hl:=hl.up w;have hJ:=N s l is err he hF;clear G z N J hF;have z4:w2.heap.size<p.heap.size:=c.lt;cases is<;>by_cases h0:err=0
 all_goals
  first
   |rw[show decide (err=0)=true by simpa using h0]at hJ
   |rw[show decide (err=0)=false by simpa using h0]at hJ
  first
   |have O:(err==0)=true:=by simpa using h0
   |have O:(err==0)=false:=by simpa using h0
  refine UI ?_
  try rw[O]
  skip;refine f7 c (λF Q n=>?_);have S:Ext w0 F:=d.grown n d.size TZ;have y:∀{ao:Option Addr} {cap:Nat} {xs:List Int},Sl p (dk p) ao cap xs->Sl F (dk F) ao cap xs:=λh=>(h.notB c (λk x=>by
   match k with
   |0=>simp
   |1=>simp
   |k+2=>simp)).mono (λb hb=>n.block b hb.1 (λe=>hb.2 (R4 e))) (λb hb=>Rv hb.1 n.size)
  refine Uf ?_;exact bm rfl rfl rfl rfl Q rfl ⟨⟨s,l,_,err,_,_,_,_,rfl,y hs,y hl,hJ⟩,S⟩
def HR(P:Program)(w:World)(a:Int)(s:Nat)(b:s<=62)(t:TypeId):(binOp .shr t (Ub a) (Ub (s:Int))).run P w=.ok (Ub (a / 2 ^ s)) w:=by rw[binOp_shr,shift_shr_i64 (h₀:=by omega) (h₁:=by omega),Oy];rfl
section
variable {P:Program}{Q:Exit->Act->World->Prop}{n:Nat}{σ:Sg}{w:World}{L rest:List Oper}{d:Nat}{ty:TypeId}{pos:String}{af:Array Edge}{g:Option (Nat×Bool)}{t yt:TypeId}{x y:Operand}
theorem fZ{a:Int}{s:Nat}(i:gd L σ ⟨some d,.binOp .shr t x y yt,ty,pos,af,g⟩=some true)(hd:ble (d+1) n=true)(e:ev σ x=some (Ub a))(c:ev σ y=some (Ub (s:Int)))(f:s<=62)
  (h:WL P L Q rest n ((d,Ub (a / 2 ^ s))::σ) w):WL P L Q (⟨some d,.binOp .shr t x y yt,ty,pos,af,g⟩::rest) n σ w:=by
 refine VG i hd (λj b=>?_) h;have:=HR P w a s f t;simp[execOp,b.ev e,b.ev c,pw (op:=.shr) rfl,this]
end
abbrev cO:=Int×Int×Int
def JO(kind n:Int)(ins:List Int)(o:Nat):List cO:=
 if kind=4\/kind=2\/kind=3 then ins.map λf=>(n,f,(2:Int) ^ o -1)
 else if kind=5 then ins.flatMap λf=>(range o).map λk:Nat=>(n,f,(2:Int) ^ k)
 else if kind=6 then [(n,-1,(2:Int) ^ o -1)]
 else if kind=7 then(range (2 ^ o -1)).map λk:Nat=>(n,-1,(k:Int)+1)
 else []
def Aj(p:cM)(n:Nat):Int:=(p.1.getD n (⟨#[]⟩,0)).2
def JX(p:cM)(n:Nat):List cO:=JO (Aj p n) (n:Int) (yV p.2 (n:Int)) (D2 p.2 (n:Int)).length
def JZ(p:cM)(k:Nat):List cO:=(range k).flatMap (JX p)
abbrev JU(p:cM):List cO:=JZ p p.1.length
noncomputable def JL(p:cM):List cO×Int:=if kU p≠0 then([],kU p)else if(JU p).length>60 then([],2)else(JU p,0)
def J2{p:cM}{k:Nat}:JZ p (k+1)=JZ p k++JX p k:=by unfold JZ;rw[QQ,Pd];simp
def Fe(o:Nat):(1:Int)<=2 ^ o:=by
 have:=RG (n:=o)
 exact_mod_cast this
def Fa{o m:Nat}(h:o<=m):(2:Int) ^ o<=2 ^ m:=by
 have:=RK (n:=2) TK h
 exact_mod_cast this
def Fd{o m:Nat}(h:o<m):(2:Int) ^ o<2 ^ m:=by
 have:=RM (a:=2) TK h
 exact_mod_cast this
section
variable {kind n:Int}{ins:List Int}{o:Nat}
theorem JR:∀s∈JO kind n ins o,s.1=n:=by
 intro s a;unfold JO at a;split at a
 .obtain⟨f,_,rfl⟩:=Qv.1 a;rfl
 split at a
 .obtain⟨f,_,a⟩:=Qt.1 a;obtain⟨k,_,rfl⟩:=Qv.1 a;rfl
 split at a
 .rw[QC]at a;subst a;rfl
 split at a
 .obtain⟨k,_,rfl⟩:=Qv.1 a;rfl
 .cases a
theorem JP:∀s∈JO kind n ins o,s.2.1= -1\/s.2.1∈ins:=by
 intro s a;unfold JO at a;split at a
 .obtain⟨f,h,rfl⟩:=Qv.1 a;exact .inr h
 split at a
 .obtain⟨f,h,a⟩:=Qt.1 a;obtain⟨k,_,rfl⟩:=Qv.1 a;exact .inr h
 split at a
 .rw[QC]at a;subst a;exact .inl rfl
 split at a
 .obtain⟨k,_,rfl⟩:=Qv.1 a;exact .inl rfl
 .cases a
theorem JT:∀s∈JO kind n ins o,0<=s.2.2/\s.2.2<2 ^ o:=by
 intro s a;have c:=Fe o;unfold JO at a;split at a
 .obtain⟨f,h,rfl⟩:=Qv.1 a;dsimp only;omega
 split at a
 .obtain⟨f,h,a⟩:=Qt.1 a;obtain⟨k,b,rfl⟩:=Qv.1 a;have:=Fd (QA.1 b);have:=Fe k;dsimp only;omega
 split at a
 .rw[QC]at a;subst a;dsimp only;omega
 split at a
 .obtain⟨k,b,rfl⟩:=Qv.1 a;have b:=QA.1 b;have:((2 ^ o:Nat):Int)=(2:Int) ^ o:=by push_cast;rfl
  dsimp only;omega
 .cases a
theorem JS(h:ins.Nodup):(JO kind n ins o).Nodup:=by
 unfold JO;split
 .rw[List.Nodup,QO];exact h.imp λc e=>c (by injection e with _ e;injection e)
 split
 .rw[List.Nodup,QM];refine⟨λf _=>?_,?_⟩
  .rw[QO];refine QH.imp λ {a b} c e=>c ?_;have e:(2:Int) ^ a=2 ^ b:=by injection e with _ e;injection e
   obtain h|h|h:=Rx a b
   .have:=Fd h;omega
   .exact h
   .have:=Fd h;omega
  .refine h.imp λ {a b} c x g y d e=>c ?_;obtain⟨k,_,rfl⟩:=Qv.1 g;obtain⟨j,_,rfl⟩:=Qv.1 d;injection e with _ e;injection e
 split
 .simp
 split
 .rw[List.Nodup,QO];refine QH.imp λ {a b} c e=>c ?_;have e:(a:Int)+1=b+1:=by injection e with _ e;injection e
  omega
 .simp
theorem JQ(h:ins.length<=30)(d:o<=30)(e:kind=7->o<=4):(JO kind n ins o).length<=900:=by
 unfold JO;split
 .rw[P4];omega
 split
 .rw[List.length_flatMap];have:∀l:List Int,(l.map λf:Int=>((range o).map λk:Nat=>((n,f,(2:Int) ^ k):cO)).length).sum=l.length*o:=λl=>by
   induction l with
   |nil=>simp
   |cons a l c=>rw[Qg,QX,c,P4,P7,PY,Q9];omega
  rw[this];exact RB h d
 split
 .simp
 split
 .rename_i b;have:=e b;rw[P4,P7];have:2 ^ o<=2 ^ 4:=RK TK this;omega
 .simp
end
def yW{fl:List cJ}{n:Int}:(yV fl n).Nodup:=by unfold yV yX;rw[List.Nodup,QO];exact(QH.filter _).imp λa e=>a TK
def DC{p:cM}(h:OkPr p){n:Nat}(hn:n<p.1.length)(a:Aj p n=7):(D2 p.2 (n:Int)).length<=4:=by have:=h.count n hn;unfold Aj at a;rw[a]at this;unfold mw at this;simp at this;omega
def J0{p:cM}(h:OkPr p):∀k,k<=p.1.length->(JZ p k).length<=900*k
 |0,_=>by simp[JZ]
 |k+1,c=>by have b:=J0 h k TK;rw[J2,PX];have h1:(yV p.2 (k:Int)).length<=p.2.length:=yY;have h2:(D2 p.2 (k:Int)).length<=p.2.length:=D5;have:=h.f;have:=JQ (kind:=Aj p k) (n:=(k:Int)) (ins:=yV p.2 (k:Int)) (o:=(D2 p.2 (k:Int)).length) TK TK (λa=>DC h TK a);unfold JX;omega
def stepsP_mem{p:cM}{k:Nat}{s:cO}:s∈JZ p k↔∃n,n<k/\s∈JX p n:=by unfold JZ;rw[Qt];exact exists_congr λn=>by rw[QA]
def J3{p:cM}{k:Nat}:(JZ p k).Nodup:=by unfold JZ;rw[List.Nodup,QM];refine⟨λn _=>JS yW,(QH.imp λ {a b} c x f y d e=>c ?_)⟩;have h1:=JR x f;have h2:=JR y d;rw[e]at h1;omega
def iZ(p:cM):List Int:=p.2.map λf=>if Aj p f.1.toNat=1 then 1 else 0
def KQ(n:Int):Bool:=decide (n<0)||decide (n>9)
noncomputable def kO(p:cM)(m:List Int):Int:=if(JL p).2≠0 then(JL p).2 else if m.length≠p.2.length\/m.any KQ=true then 1 else 0
def lT(fl:List cJ)(n:Int)(s:List Bool×List Int)(i:Nat):List Bool×List Int:=
 if(fl.getD i (0,0)).2=n/\s.1.getD i false=false then(s.1.set i true,s.2++[(i:Int)])else s
def lM(fl:List cJ)(but:Int):Nat->List Bool->List Int->List Bool
 |0,out,_=>out
 |_+1,out,[]=>out
 |f+1,out,x::r=>
  if(fl.getD x.toNat (0,0)).1=but then lM fl but f out r
  else lM fl but f ((range fl.length).foldl (lT fl (fl.getD x.toNat (0,0)).1) (out,r)).1 ((range fl.length).foldl (lT fl (fl.getD x.toNat (0,0)).1) (out,r)).2
def lR(fl:List cJ)(flow:Nat)(but:Int):List Bool:=lM fl but fl.length ((replicate fl.length false).set flow true) [(flow:Int)]
def qw(l:List Bool):Nat:=l.countP λb=>!b
def qz{k:Nat}(a:k<l.length)(h:l.getD k false=false):qw (l.set k true)+1=qw l:=by unfold qw;rw[Pl,Pq a]at h;have h:l[k]=false:=h;rw[OS a,h];have:0<l.countP λb=>!b:=OQ.2 ⟨l[k],PL a,by simp[h]⟩;simp;omega
def qy{n:Nat}:qw (replicate n false)=n:=by simp[qw,OR]
def qx:qw l<=l.length:=OP
structure ComeI(fl:List cJ)(out:List Bool)(todo:List Int):Prop where
 len:out.length=fl.length
 ok:∀x∈todo,0<=x/\x<fl.length
def lW{fl:List cJ}{n:Int}{out:List Bool}{i:Nat}(hi:i<fl.length)(h:ComeI fl out m):
  ComeI fl (lT fl n (out,m) i).1 (lT fl n (out,m) i).2/\(lT fl n (out,m) i).2.length+qw (lT fl n (out,m) i).1=m.length+qw out:=by
 unfold lT;split
 .rename_i b;have:=qz (l:=out) (k:=i) (by rw[h.len];exact hi) b.2;refine⟨⟨by simpa using h.len,λx a=>?_⟩,by simp only[PX,PY,P5];omega⟩;obtain a|a:=Ql.1 a
  .exact h.ok x a
  .rw[QC]at a;omega
 .exact⟨h,rfl⟩
def lQ{fl:List cJ}{but:Int}{f:Nat}{out:List Bool}:lM fl but f out []=out:=by cases f<;>rfl
def lP{fl:List cJ}{but:Int}:∀(f:Nat) (out:List Bool) (todo:List Int),out.length=fl.length->(lM fl but f out todo).length=fl.length
 |0,out,_,h=>h
 |_+1,out,[],h=>h
 |f+1,out,x::r,h=>by
  unfold lM;split
  .exact lP f _ _ h
  .refine lP f _ _ ?_;have:∀(l:List Nat) (s:List Bool×List Int),s.1.length=fl.length->(l.foldl (lT fl (fl.getD x.toNat (0,0)).1) s).1.length=fl.length:=by
    intro l;induction l with
    |nil=>intro s h;exact h
    |cons a l b=>
     intro s h;refine b _ ?_;unfold lT;split
     .simpa using h
     .exact h
   exact this _ _ h
def lS{fl:List cJ}{flow:Nat}{but:Int}:(lR fl flow but).length=fl.length:=lP _ _ _ TO
def iQ(p:cM)(m:List Int)(node f:Int):Bool:=(range p.2.length).any λi=>(lR p.2 f.toNat node).getD i false&&decide (m.getD i 0>0)&&decide ((p.2.getD i (0,0)).2≠node)
def zx(p:cM)(m:List Int)(node:Int):Bool:=
 if(yV p.2 node).any (λf=>!decide (m.getD f.toNat 0>0)&&iQ p m node f)=true then false else(yV p.2 node).any λf=>decide (m.getD f.toNat 0>0)
def o6(p:cM)(m:List Int)(s:cO):Bool:=
 if 0<=s.2.1 then decide (m.getD s.2.1.toNat 0>0)else if Aj p s.1.toNat=7 then zx p m s.1 else !(yV p.2 s.1).any λf=>m.getD f.toNat 0==0
def jU(p:cM)(m:List Int)(k:Nat):List Int:=((range k).filter λi=>o6 p m ((JU p).getD i (0,0,0))).map λi:Nat=>(i:Int)
abbrev jT(p:cM)(m:List Int):List Int:=jU p m (JU p).length
def jV{p:cM}{k:Nat}:jU p m (k+1)=jU p m k++(if o6 p m ((JU p).getD k (0,0,0))=true then [(k:Int)]else []):=by
 unfold jU;rw[QQ,O5,Qe];congr 1;by_cases h:o6 p m ((JU p).getD k (0,0,0))=true
 .rw[Tn h,O9 (p:=λi=>o6 p m ((JU p).getD i (0,0,0))) h];rfl
 .rw[Tm h,O8 (p:=λi=>o6 p m ((JU p).getD i (0,0,0))) h];rfl
def KB(m:List Int)(s:cO)(f:Int):Int:=if s.2.1=f\/s.2.1<0/\m.getD f.toNat 0>0 then m.getD f.toNat 0 -1 else m.getD f.toNat 0
def Kt(s:cO):List Int->List Int->List Int
 |m,[]=>m
 |m,f::r=>Kt s (m.set f.toNat (KB m s f)) r
def je(n:Int)(k:Nat):Int:=(n / 2 ^ k) % 2
def FN(n:Int):Nat->List Int->List Int->Option (List Int)
 |_,m,[]=>some m
 |k,m,f::r=>if je n k=1 then(if m.getD f.toNat 0+1>9 then none else FN n (k+1) (m.set f.toNat (m.getD f.toNat 0+1)) r)else FN n (k+1) m r
def rz(p:cM)(m:List Int)(s:cO):Option (List Int):=
 if Aj p s.1.toNat=3 then some (m.map λ_=>0)else FN s.2.2 0 (Kt s m (yV p.2 s.1)) (D2 p.2 s.1)
noncomputable def rt(p:cM)(m:List Int)(k:Int):List Int×Int:=
 if kO p m≠0 then([],kO p m)else if k<0\/k>=(JU p).length then([],1)
 else if o6 p m ((JU p).getD k.toNat (0,0,0))=false then([],9)
 else((rz p m ((JU p).getD k.toNat (0,0,0))).getD [],if(rz p m ((JU p).getD k.toNat (0,0,0))).isSome then 0 else 7)
noncomputable def jQ(p:cM)(m:List Int):List Int:=if kO p m=0 then jT p m else []
def yQ(w0:World){ao:Option Addr}{cap:Nat}{xs:List (ByteArray×Int)}{fv:Value}(p:(ByteArray×Int)->Bool)(d:Sl w0 (dk w0) ao cap xs)
  (hf:∀w,Ext w0 w->∀i (h:i<xs.length) u,Rd w (dk w0) u xs[i]->FnV Vy fv [u] w λv w'=>v=.bool (p xs[i])/\Ext w w'):
  Rt Vy 152 [.slice ao xs.length cap,fv].toArray w0 λv w'=>v=Ub (idxOf p xs)/\Ext w0 w':=by
 have l:=d.len63;refine dS func152 ntmps152 rfl rfl (Ut ?_);refine p8 (S:=Nat) (λk=>[(0,.slice ao xs.length cap),(1,fv),(7,Ub xs.length),(8,Ub k)])
  (λk w=>k<=xs.length/\Ext w0 w/\∀j (h:j<xs.length),j<k->p xs[j]=false) (λk=>xs.length -k) 0 TJ ⟨by omega,p7 _,by omega⟩ ?_
 rintro k w ⟨m,b,hn⟩;refine UR ?_;apply ld rfl<;>intro h
 .simp at h;refine Ux ?_;refine fe (d.at b) h TV (λu q f=>?_);refine eL rfl rfl rfl rfl (hf w b k h u f) ?_;rintro v w' ⟨rfl,a⟩;refine UG ?_;refine ld rfl (λc=>?_) (λc=>?_)
  .refine Ud ?_;refine d6 ⟨?_,b.trans a⟩;rw[yl h hn c]
  .refine US ?_;refine m5 (k+1) TJ ⟨h,b.trans a,?_⟩ TK;intro j hj g;by_cases e:j=k
   .subst e;exact c
   .exact hn j hj TK
 .simp at h;refine UF ?_;refine d6 ⟨?_,b⟩;rw[yr (λj hj=>hn j hj TK)]
def md(w0:World){ao:Option Addr}{cap:Nat}{xs:List (ByteArray×Int)}{fv:Value}(p:(ByteArray×Int)->Bool)(a:Sl w0 (dk w0) ao cap xs)
  (hf:∀w,Ext w0 w->∀i (h:i<xs.length) u,Rd w (dk w0) u xs[i]->FnV Vy fv [u] w λv w'=>v=.bool (p xs[i])/\Ext w w'):
  Rt Vy 213 [.slice ao xs.length cap,fv].toArray w0 λv w'=>v=.bool (xs.any p)/\Ext w0 w':=by
 refine dS func213 ntmps213 rfl rfl (UR ?_);refine eK (yQ w0 p a hf) ?_;rintro v w' ⟨rfl,b⟩;refine Uf ?_;refine d6 ⟨?_,b⟩;rw[<-yj]
class IsStr(P:Program)(t:TypeId):Prop where
 ok:P.underlying t=some .string
instance:IsStr Vy 9:=⟨SN⟩
section
variable {P:Program}{Q:Exit->Act->World->Prop}{n:Nat}{σ:Sg}{w:World}{L rest:List Oper}{d:Nat}{op:Op}{ty:TypeId}{pos:String}{af:Array Edge}{g:Option (Nat×Bool)}{t:TypeId}{x ix:Operand}
theorem fC{s:ByteArray}(e:gd L σ ⟨some d,.call ⟨.builtin .len,#[x],#[t]⟩,ty,pos,af,g⟩=some true)(hd:ble (d+1) n=true)
  (b:ev σ x=some (.string s)) [c:IsStr P t] (h:WL P L Q rest n ((d,Ub (s.size:Int))::σ) w):WL P L Q (⟨some d,.call ⟨.builtin .len,#[x],#[t]⟩,ty,pos,af,g⟩::rest) n σ w:=by
 refine VG e hd (λa f=>?_) h;simp[execOp,resolve,invoke,builtin,f.ev b,Builtin.len_,TA c.ok,goInt]
theorem eJ{s:ByteArray}{i:Nat}{kd:IntKind}(j:gd L σ ⟨some d,.index t x ix,ty,pos,af,g⟩=some true)(hd:ble (d+1) n=true)
  (c:ev σ x=some (.string s)) (hi:ev σ ix=some (.int kd (i:Int))) [f:IsStr P t] (h1:i<s.size) (h:WL P L Q rest n ((d,.int .u8 ((s[i]).toNat:Int))::σ) w):WL P L Q (⟨some d,.index t x ix,ty,pos,af,g⟩::rest) n σ w:=by
 refine VG j hd (λa b=>?_) h;have e:s[i]?=some s[i]:=by simp[h1]
 simp[execOp,b.ev c,b.ev hi,Instr.index,asIntOf,TA f.ok,e]
end
abbrev FC(so:Option Addr)(sc:Nat)(fo:Option Addr)(fc:Nat)(n m:Nat):Value:=.agg [.slice so n sc,.slice fo m fc].toArray
def Rd.proc{x:cM}(h:Rd w F v x):∃so sc fo fc,v=FC so sc fo fc x.1.length x.2.length/\Sl w F so sc x.1/\Sl w F fo fc x.2:=by obtain⟨c1,c2,rfl,h1,h2⟩:=h.pr;obtain⟨so,sc,rfl,k1⟩:=Gs h1;obtain⟨lo,a,rfl,k2⟩:=Gs h2;exact⟨so,sc,lo,a,rfl,k1,k2⟩
def Rd.flow{x:cJ}(h:Rd w F v x):v=.agg [Ub x.1,Ub x.2].toArray:=by obtain⟨c1,c2,rfl,h1,h2⟩:=h.pr;rw[Gl h1,Gl h2];rfl
def Rd.node{x:cK}(h:Rd w F v x):v=.agg [.string x.1,Ub x.2].toArray:=by obtain⟨c1,c2,rfl,h1,h2⟩:=h.pr;rw[Gl h2,h1.1];rfl
def te{l:List cJ}{j:Nat}(h:j<l.length):l.getD j (0,0)=l[j]:=by rw[Pl,Pq h];rfl
def tk{l:List cK}{j:Nat}(h:j<l.length):l.getD j (⟨#[]⟩,0)=l[j]:=by rw[Pl,Pq h];rfl
def I8(s:ByteArray):s.data.toList.length=s.size:=by simp
def df(w0:World)(s:ByteArray):Rt Vy 51 [.string s].toArray w0 λv w'=>v=.bool (B8 s)/\Ext w0 w':=by
 refine dR func51 ntmps51 rfl rfl ?_;unfold B8 B9;refine UR ?_;by_cases h1:(s.data.toList==[])=true
 .rw[show(s.data.toList==(ByteArray.mk #[]).data.toList)=true from h1];refine Us ?_;refine d6 ⟨?_,p7 _⟩;rfl
 have h1:(s.data.toList==[])=false:=by simpa using h1
 rw[show(s.data.toList==(ByteArray.mk #[]).data.toList)=false from h1]
 try rw[h1]
 refine U9 ?_;refine fC rfl rfl rfl ?_;rw[<-I8];refine U9 ?_;by_cases h2:decide ((s.data.toList.length:Int)>8)=true
 .rw[h2];refine Us ?_;exact be ⟨rfl,p7 _⟩
 have h2:decide ((s.data.toList.length:Int)>8)=false:=by simpa using h2
 rw[h2];refine U9 ?_;by_cases h3:(s.data.toList==[116,114,117,101])=true
 .rw[show(s.data.toList==(ByteArray.mk #[116,114,117,101]).data.toList)=true from h3]
  try rw[h3]
  refine Us ?_;exact be ⟨rfl,p7 _⟩
 have h3:(s.data.toList==[116,114,117,101])=false:=by simpa using h3
 rw[show(s.data.toList==(ByteArray.mk #[116,114,117,101]).data.toList)=false from h3]
 try rw[h3]
 refine U9 ?_;by_cases h4:(s.data.toList==[102,97,108,115,101])=true
 .rw[show(s.data.toList==(ByteArray.mk #[102,97,108,115,101]).data.toList)=true from h4]
  try rw[h4]
  refine Us ?_;exact be ⟨rfl,p7 _⟩
 have h4:(s.data.toList==[102,97,108,115,101])=false:=by simpa using h4
 rw[show(s.data.toList==(ByteArray.mk #[102,97,108,115,101]).data.toList)=false from h4]
 try rw[h4]
 refine Ug ?_;by_cases f:(s.data.toList==[115,105,108,101,110,116])=true
 .rw[show(s.data.toList==(ByteArray.mk #[115,105,108,101,110,116]).data.toList)=true from f]
  try rw[f]
  refine Us ?_;exact be ⟨rfl,p7 _⟩
 have f:(s.data.toList==[115,105,108,101,110,116])=false:=by simpa using f
 rw[show(s.data.toList==(ByteArray.mk #[115,105,108,101,110,116]).data.toList)=false from f]
 try rw[f]
 simp only[N0,N9];have n:s.size<=8:=by have:=I8 s;simp at h2;omega
 refine UY ?_;refine fC rfl rfl rfl (Uz ?_);refine p8 (S:=Nat) (λi=>[(0,.string s),(24,Ub s.size),(25,Ub i)])
  (λi w=>i<=s.size/\w=w0/\∀j (h:j<s.size),j<i->Bb s[j]=true) (λi=>s.size -i) 0 TJ ⟨by omega,rfl,by omega⟩ ?_
 rintro i w ⟨hi,rfl,hn⟩;have c:∀j (h:j<s.size),s.data.toList[j]'(by rw[I8];exact h)=s[j]:=λj h=>by simp;rfl
 refine UR ?_;apply ld rfl<;>intro h
 .have a:i<s.size:=by simp at h;omega
  have d:Bb s[i]=false->s.data.toList.all Bb=false:=λm=>by rw[List.all_eq_false];exact⟨_,PL (by rw[I8];exact a),by rw[c i a,m];simp⟩
  refine Ux ?_;refine eJ rfl rfl rfl rfl a (U9 ?_);by_cases b:decide (((s[i].toNat:Nat):Int)<97)=true
  .rw[b];refine U0 ?_;refine d6 ⟨?_,p7 _⟩;rw[d (by unfold Bb;rw[b];rfl)]
  have b:decide (((s[i].toNat:Nat):Int)<97)=false:=by simpa using b
  rw[b];refine U9 ?_;refine eJ rfl rfl rfl rfl a (Ug ?_);apply ld rfl<;>intro g
  .refine Ud ?_;refine d6 ⟨?_,p7 _⟩;rw[d (by unfold Bb;rw[b,g];rfl)]
  .refine US ?_;refine m5 (i+1) TJ ⟨a,rfl,λj hj l=>?_⟩ TK;by_cases e:j=i
   .subst e;unfold Bb;rw[b,g];rfl
   .exact hn j hj TK
 .have a:i=s.size:=by simp at h;omega
  subst a;refine UF ?_;refine d6 ⟨?_,p7 _⟩;rw[OA.2];intro x k;obtain⟨j,hj,rfl⟩:=Qu.1 k;rw[I8]at hj;rw[c j hj];exact hn j hj hj
def my(w0:World)(k:Int)(i o:Nat):Rt Vy 138 [Ub k,Ub (i:Int),Ub (o:Int)].toArray w0 λv w'=>v=.bool (mw k i o)/\w0=w':=by
 refine dT func138 ntmps138 rfl rfl ?_;have d:∀(a:Nat) (b:Nat),(((a:Int))==(b:Int))=decide (a=b):=λa b=>by rw[NU];simp;omega
 have c:∀(a:Nat),decide ((a:Int)>0)=decide (0<a):=λa=>by rw[NU];simp
 unfold mw;refine Ux ?_;by_cases h1:k=1
 .subst h1;refine UJ ?_;by_cases hi:i=0
  .subst hi;refine UX ?_;refine d6 ⟨?_,rfl⟩;rw[show((o:Int)==1)=decide (o=1) from d o 1];simp
  .have:((i:Int)==0)=false:=by simpa using hi
   rw[this];refine UK ?_;refine d6 ⟨?_,rfl⟩;simp[hi]
 have b1:(k==1)=false:=by simpa using h1
 rw[Tm h1,b1];refine UY ?_;by_cases h2:k=2
 .subst h2;refine UJ ?_;by_cases hi:0<i
  .rw[c i,Tc hi];refine UX ?_;refine d6 ⟨?_,rfl⟩;rw[show((o:Int)==0)=decide (o=0) from d o 0];simp
  .rw[c i,Ta hi];refine UK ?_;refine d6 ⟨?_,rfl⟩;simp
 have b2:(k==2)=false:=by simpa using h2
 rw[b2];refine Ul ?_;by_cases h3:k=3
 .subst h3;refine UJ ?_;by_cases hi:0<i
  .rw[c i,Tc hi];refine UX ?_;refine d6 ⟨?_,rfl⟩;rw[show((o:Int)==0)=decide (o=0) from d o 0];simp
  .rw[c i,Ta hi];refine UK ?_;refine d6 ⟨?_,rfl⟩;simp
 have p:(k==3)=false:=by simpa using h3
 rw[Tm TK,p];refine UY ?_;by_cases h4:k=4
 .subst h4;refine UJ ?_;by_cases hi:0<i
  .rw[c i,Tc hi];refine UX ?_;refine d6 ⟨?_,rfl⟩;rw[show((o:Int)==1)=decide (o=1) from d o 1];simp
  .rw[c i,Ta hi];refine UK ?_;refine d6 ⟨?_,rfl⟩;simp
 have n:(k==4)=false:=by simpa using h4
 rw[Tm h4,n];refine UY ?_;by_cases e:k=7
 .subst e;refine UL ?_;apply ld rfl<;>intro f
  .refine Ud ?_;refine d6 ⟨?_,rfl⟩;simp at f;simp;omega
  simp at f;refine UM ?_;by_cases hi:0<i
  .rw[c i,Tc hi];refine UX ?_;refine d6 ⟨?_,rfl⟩;rw[c o];simp;omega
  .rw[c i,Ta hi];refine UK ?_;refine d6 ⟨?_,rfl⟩;simp
 have j:(k==7)=false:=by simpa using e
 rw[Tm e,j];refine UY ?_;by_cases h:k=5
 .subst h;refine UJ ?_;by_cases hi:0<i
  .rw[c i,Tc hi];refine UX ?_;refine d6 ⟨?_,rfl⟩;rw[c o];simp
  .rw[c i,Ta hi];refine UK ?_;refine d6 ⟨?_,rfl⟩;simp
 have m:(k==5)=false:=by simpa using h
 rw[m];refine Ul ?_;by_cases g:k=6
 .subst g;refine UJ ?_;by_cases hi:0<i
  .rw[c i,Tc hi];refine UX ?_;refine d6 ⟨?_,rfl⟩;rw[c o];simp
  .rw[c i,Ta hi];refine UK ?_;refine d6 ⟨?_,rfl⟩;simp
 have l:(k==6)=false:=by simpa using g
 rw[Tm TK,l];refine UJ ?_;exact be ⟨rfl,rfl⟩
def za(w0:World){so fo:Option Addr}{sc fc k:Nat}{fl:List cJ}(hf:Sl w0 (dk w0) fo fc fl)(n:Int)(I:fl.length<=1000):
  Rt Vy 139 [FC so sc fo fc k fl.length,Ub n].toArray w0 λv w'=>Own w' w0.heap.size 3 dh v (yV fl n)/\Ext w0 w':=by
 refine dS func139 ntmps139 rfl rfl (UZ ?_);refine eH λg D t=>?_;refine UE ?_;refine p8 (S:=Nat×Value) (λs=>[(1,Ub n),(2,Uc w0.heap.size),(5,s.2),(9,.slice fo fl.length fc),(10,Ub fl.length),(11,Ub s.1)])
  (λs w=>s.1<=fl.length/\Own w g.heap.size 3 dh s.2 (yX fl n s.1)/\Ext g w) (λs=>fl.length -s.1) (0,.slice none 0 0) TJ ⟨RU _,r3,p7 _⟩ ?_
 rintro⟨i,ov⟩ z ⟨hi,d,r⟩;dsimp only at hi d⊢;have m:=t.trans r;have C:=yY (fl:=fl) (n:=n) (k:=i);have a:=yZ (fl:=fl) (n:=n) (k:=i);refine UR ?_;apply ld rfl<;>intro h
 .have c:i<fl.length:=by simp at h;omega
  rw[te c]at a;refine UB ?_;refine fe (hf.at m) c TV (λu q B=>?_);obtain rfl:=B.flow;refine eC (λH f o=>?_);refine U9 ?_;refine f7 f (λy f l=>?_);have e:Ext z y:=o.grown l o.size TX;have d:=d.extN e;have e:=r.trans e;refine Uy ?_;apply ld rfl<;>intro h2
  .rw[Tn h2]at a;refine U4 ?_;refine eF (F:=dh) (yv:=(i:Int)) rfl rfl TV rfl rfl TV d T7 e.size TY TN TQ TK (λA x p ho5 j hnb=>?_);rw[<-a]at ho5;have G:Ext g x:=e.grown j e.size (λb E=>(d.lt b E).1);refine Ui ?_;exact m5 (i+1,A) TJ ⟨c,ho5,G⟩ TP
  .rw[Tm (by rw[h2];simp),OH]at a;refine US ?_;exact m5 (i+1,ov) TJ ⟨c,by dsimp only;rw[a];exact d,e⟩ TP
 .obtain rfl:i=fl.length:=by simp at h;omega
  refine UF ?_;exact be ⟨d.low t.size,m⟩
def D8(w0:World){so fo:Option Addr}{sc fc k:Nat}{fl:List cJ}(hf:Sl w0 (dk w0) fo fc fl)(n:Int)(I:fl.length<=1000):
  Rt Vy 140 [FC so sc fo fc k fl.length,Ub n].toArray w0 λv w'=>Own w' w0.heap.size 3 dh v (D2 fl n)/\Ext w0 w':=by
 refine dS func140 ntmps140 rfl rfl (UZ ?_);refine eH λg D t=>?_;refine UE ?_;refine p8 (S:=Nat×Value) (λs=>[(1,Ub n),(2,Uc w0.heap.size),(5,s.2),(9,.slice fo fl.length fc),(10,Ub fl.length),(11,Ub s.1)])
  (λs w=>s.1<=fl.length/\Own w g.heap.size 3 dh s.2 (D4 fl n s.1)/\Ext g w) (λs=>fl.length -s.1) (0,.slice none 0 0) TJ ⟨RU _,r3,p7 _⟩ ?_
 rintro⟨i,ov⟩ z ⟨hi,d,r⟩;dsimp only at hi d⊢;have m:=t.trans r;have C:=D5 (fl:=fl) (n:=n) (k:=i);have a:=D6 (fl:=fl) (n:=n) (k:=i);refine UR ?_;apply ld rfl<;>intro h
 .have c:i<fl.length:=by simp at h;omega
  rw[te c]at a;refine UB ?_;refine fe (hf.at m) c TV (λu q B=>?_);obtain rfl:=B.flow;refine eC (λH f o=>?_);refine U9 ?_;refine f7 f (λy f l=>?_);have e:Ext z y:=o.grown l o.size TX;have d:=d.extN e;have e:=r.trans e;refine Uy ?_;apply ld rfl<;>intro h2
  .rw[Tn h2]at a;refine U4 ?_;refine eF (F:=dh) (yv:=(i:Int)) rfl rfl TV rfl rfl TV d T7 e.size TY TN TQ TK (λA x p ho5 j hnb=>?_);rw[<-a]at ho5;have G:Ext g x:=e.grown j e.size (λb E=>(d.lt b E).1);refine Ui ?_;exact m5 (i+1,A) TJ ⟨c,ho5,G⟩ TP
  .rw[Tm (by rw[h2];simp),OH]at a;refine US ?_;exact m5 (i+1,ov) TJ ⟨c,by dsimp only;rw[a];exact d,e⟩ TP
 .obtain rfl:i=fl.length:=by simp at h;omega
  refine UF ?_;exact be ⟨d.low t.size,m⟩
def CL(w:World)(m:cK)(b:Nat){x:cK}(a:Blk w b 123 [.string x.1,Ub x.2]):
  Rt Vy 214 [.agg [.string m.1,Ub m.2].toArray,Uc b].toArray w λv w'=>v=.bool (B7 m.1 x.1)/\Ext w w':=by
 refine dS func214 ntmps214 rfl rfl ?_;refine UZ ?_;refine eH λe d c=>?_
 have a:=a.ext c;refine U2 ?_;exact be ⟨rfl,c⟩
def CU(w0:World){so fo:Option Addr}{sc fc k:Nat}{ns:List cK}(p:Sl w0 (dk w0) so sc ns):
  Rt Vy 137 [FC so sc fo fc ns.length k].toArray w0 λv w'=>v=Ub (CM ns)/\Ext w0 w':=by
 have N:=p.len63;have H:=p.le;refine dR func137 ntmps137 rfl rfl ?_;refine UZ ?_;refine eH λF a L=>?_
 have J:=a.lt;refine UE ?_;refine p8 (S:=Nat) (λi=>[(1,Uc w0.heap.size),(6,.slice so ns.length sc),(7,Ub ns.length),(8,Ub i)])
  (λi w=>i<=ns.length/\Ext F w/\∀j,j<i->CF ns j=0) (λi=>ns.length -i) 0 TJ ⟨by omega,p7 _,by omega⟩ ?_
 rintro i w ⟨hi,e,g⟩
 have f:=L.trans e;have a:=a.ext e;refine UR ?_;apply ld rfl<;>intro h
 .have d:i<ns.length:=by simp at h;omega
  have l:=tk d;refine UB ?_;refine fe (p.at f) d TV (λu q s=>?_);obtain rfl:=s.node;skip;refine eC (λM c D=>?_);have I:=c.lt;refine U9 ?_;refine f7 c (λC c x=>?_);have A:Ext w C:=D.grown x D.size TX;have a:=a.ext A;have f:=f.trans A;refine Uy ?_;refine eK (df C ns[i].1) ?_;rintro _ E ⟨rfl,r⟩
  have a:=a.ext r;have c:=c.ext r;have f:=f.trans r;have z:=A.trans r;have b:(!B8 ns[i].1||decide (ns[i].2<1)||decide (ns[i].2>7))=true->CM ns=1:=λK=>by
   have:CF ns i=1:=by unfold CF;rw[l,Tn K]
   rw[CO d g (by rw[this];decide),this]
  refine U9 ?_;by_cases c1:B8 ns[i].1=true
  .rw[c1]at b⊢
   refine Vc ?_;by_cases c2:decide (ns[i].2<1)=true
   .rw[c2]
    refine U0 ?_;refine d6 ⟨?_,f⟩;rw[b (by rw[c2];rfl)]
   have c2:decide (ns[i].2<1)=false:=by simpa using c2
   rw[c2];refine Uu ?_;by_cases c3:decide (ns[i].2>7)=true
   .rw[c3]
    refine U0 ?_;refine d6 ⟨?_,f⟩;rw[b (by rw[c2,c3];rfl)]
   have c3:decide (ns[i].2>7)=false:=by simpa using c3
   rw[c3];refine UM ?_;refine eR (α:=cK) i rfl rfl rfl rfl rfl TK ?_;refine Vf ?_;have n:=(p.up f).take (k:=i) TK;have t:(ns.take i).length=i:=by rw[Qb];omega
   have o:=md E (fv:=.func (.func 214) [].toArray [Uc w.heap.size].toArray) (λm=>B7 m.1 ns[i].1) n (λB G j hj u s=>by
    obtain rfl:=s.node;exact VE (cs:=[_]) (CL B _ _ (c.ext G)))
   rw[t]at o
   refine eK o ?_;rintro _ B ⟨rfl,y⟩
   have a:=a.ext y;refine UG ?_;apply ld rfl<;>intro h2
   .refine Ud ?_
    refine d6 ⟨?_,f.trans y⟩;have:CF ns i=4:=by unfold CF;rw[l,Tm (by rw[show B8 ns[i].1=true from c1,c2,c3];simp),Tn h2]
    rw[CO d g (by rw[this];decide),this]
   .refine US ?_
    refine m5 (i+1) TJ ⟨d,(e.trans z).trans y,λj hj=>?_⟩ TK;by_cases ej:j=i
    .subst ej
     unfold CF;rw[l,Tm (by rw[show B8 ns[j].1=true from c1,c2,c3];simp),Tm (by rw[h2];simp)]
    .exact g j TK
  .have c1:B8 ns[i].1=false:=by simpa using c1
   rw[c1]at b⊢
   refine U0 ?_;refine d6 ⟨?_,f⟩;rw[b rfl]
 .obtain rfl:i=ns.length:=by simp at h;omega
  refine UF ?_;refine d6 ⟨?_,f⟩;rw[CP g]
def rU(n:Nat)(fl:List cJ)(i:Nat):bV:=rR n (fl.take i)
def rX{n:Nat}{fl:List cJ}{i:Nat}:(rU n fl i).length=n:=by simp[rU,rR]
def rZ{n:Nat}{fl:List cJ}:rU n fl 0=replicate n []:=by refine O3 (by simp[rU,rR]) λk h1 h2=>?_;simp[rU,rR]
def rV{n:Nat}{fl:List cJ}{i k:Nat}(h:k<n):(rU n fl i)[k]'(by rw[rX];exact h)=((fl.take i).filter λf=>f.1==(k:Int)).map (·.2):=by simp[rU,rR]
def rY{n:Nat}{fl:List cJ}{i:Nat}{b:Int}(hi:i<fl.length)(hf:fl[i]=((a:Int),b))(d:a<n):
  (rU n fl i).set a ((((fl.take i).filter λf=>f.1==(a:Int)).map (·.2))++[b])=rU n fl (i+1):=by
 refine O3 (by simp[rX]) λk h1 h2=>?_;have c:k<n:=by rw[rX]at h2;exact h2
 rw[PP,rV c,rV c,<-QZ hi,hf,O5,Qe];by_cases e:a=k
 .subst e;rw[Tn rfl];simp
 .rw[Tm e];have:((a:Int)==(k:Int))=false:=by simpa using λh:(a:Int)=k=>e TK
  simp[O7,this]
def rS{n:Nat}{fl:List cJ}:edges (rR n fl)<=n*fl.length:=by
 unfold edges rR;rw[Qh];have:∀m:List Nat,(m.map (List.length∘λk:Nat=>(fl.filter λf=>f.1==(k:Int)).map (·.2))).sum<=m.length*fl.length:=λm=>by
  induction m with
  |nil=>simp
  |cons a m b=>
   simp only[Qg,QX,PY,Q9,RH];have:(List.length∘λk:Nat=>(fl.filter λf=>f.1==(k:Int)).map (·.2)) a<=fl.length:=by show((fl.filter λf=>f.1==(a:Int)).map (·.2)).length<=_;rw[P4];exact P3 _ _
   omega
 have:=this (range n);rwa[P7]at this
def JE{ns:List cK}{k:Nat}:JC ns (k+1)=JC ns k++if((ns.getD k (⟨#[]⟩,0)).2==1)=true then [k]else []:=by
 unfold JC;rw[QQ,O5];congr 1;by_cases e:((ns.getD k (⟨#[]⟩,0)).2==1)=true
 .rw[Tn e];simp only[O7,e,O_];rfl
 .rw[Tm e];simp only[O7,e,O_];rfl
def Az(l:List Nat):Int:=(l.getLast?.map λn:Nat=>(n:Int)).getD (-1)
def JD{ns:List cK}{k:Nat}:(JC ns k).length<=k:=by unfold JC;exact Rr (P3 _ _) TO
def kY{ns:List cK}{fl:List cJ}{s:Nat}(h:JC ns ns.length=[s]):kX (ns,fl)=if(F6 (rR ns.length fl) [(s:Int)]).contains false=true then 6 else 0:=by
 have c:(rR ns.length fl).length=ns.length:=by simp[rR]
 have b:(∃n,n<ns.length/\¬Rch (rR ns.length fl) (((JC ns ns.length).getLast?.map λn:Nat=>(n:Int)).toList) n)↔(F6 (rR ns.length fl) [(s:Int)]).contains false=true:=by
  rw[h,OM,Qu];show(∃n,n<ns.length/\¬Rch (rR ns.length fl) [(s:Int)] n)↔_;constructor
  .rintro⟨n,hn,e⟩;have a:n<(F6 (rR ns.length fl) [(s:Int)]).length:=by rw[F8,c];exact hn
   refine⟨n,a,?_⟩;rw[<-NY,F7 a];exact e
  .rintro⟨n,hn,f⟩;have a:n<ns.length:=by rw[F8,c]at hn;exact hn
   exact⟨n,a,λe=>by rw[(F7 hn).2 e]at f;cases f⟩
 unfold kX;by_cases d:(F6 (rR ns.length fl) [(s:Int)]).contains false=true
 .rw[Tn d];exact Tn (b.2 d)
 .rw[Tm d];exact Tm (λh=>d (b.1 h))
def aL(w0:World){so fo:Option Addr}{sc fc:Nat}{ns:List cK}{fl:List cJ}(hs:Sl w0 (dk w0) so sc ns)(hf:Sl w0 (dk w0) fo fc fl):
  Rt Vy 75 [FC so sc fo fc ns.length fl.length].toArray w0 λv w'=>v=Ub (kU (ns,fl))/\Ext w0 w':=by
 have hms:=hs.len63;have hmf:=hf.len63;refine dR func75 ntmps75 rfl rfl ?_;have L:=p7 w0;refine UZ ?_;refine eH λw1 P e1=>?_;have L:=L.trans e1;unfold kU;dsimp only;refine UE ?_;(refine a6 (λh=>?_) (λh=>?_))
 .refine Us ?_;refine d6 ⟨?_,L⟩;rw[Tn (.inl (by simp at h;omega))]
 have c1:ns.length<=20:=by simp at h;omega
 clear h;refine Uu ?_;apply ld rfl<;>intro h
 .refine Up ?_;refine d6 ⟨?_,L⟩;rw[Tn (.inr (by simp at h;omega))]
 have c2:fl.length<=30:=by simp at h;omega
 clear h;rw[Tm TK];refine Uo ?_;refine eK (CU w1 (hs.up L)) ?_;rintro _ m ⟨rfl,e2⟩;have P:=P.ext e2;have L:=L.trans e2;refine UR ?_;apply ld rfl<;>intro h
 .have h:CM ns≠0:=by simpa using h
  refine Up ?_;refine d6 ⟨?_,L⟩;rw[Tn h]
 have h:CM ns=0:=by simpa using h
 rw[Tm (by simp[h])];clear h e1 e2;have z2:=L.size;refine UM ?_;refine fI (α:=Raw) rfl rfl rfl rfl TK TQ (λw3 ho3 hg3=>?_);have e3:Ext m w3:=(NP _ _).grown hg3 T8 T2;have hN3:OwnN w3 m.heap.size 39 3 (.slice (some ⟨m.heap.size,0,none⟩) ns.length ns.length) _ (replicate ns.length ([]:List Int)):=Wg ho3;rw[<-rZ (fl:=fl)]at hN3;have hb13:=P.ext e3;clear ho3 hg3;refine UE ?_;refine p8 (S:=Nat×List Raw) (λs=>[(1,Uc w0.heap.size),(4,.slice (some ⟨m.heap.size,0,none⟩) ns.length ns.length),(35,.slice fo fl.length fc),(36,Ub fl.length),(37,Ub s.1)])
  (λs w=>s.1<=fl.length/\(∀f∈fl.take s.1,rN ns.length f=false)/\OwnN w m.heap.size 39 3 (.slice (some ⟨m.heap.size,0,none⟩) ns.length ns.length) s.2 (rU ns.length fl s.1)/\Ext m w) (λs=>fl.length -s.1) (0,_) TJ ⟨RU _,(λf hf=>by simp at hf),hN3,e3⟩ ?_
 rintro⟨i,vs⟩ X ⟨hi,E,K,e4⟩;dsimp only at hi E K⊢;have hE4:=L.trans e4;have hN4:=K;have hsz:m.heap.size<X.heap.size:=(K.out.lt _ rfl).2.1;refine UR ?_;apply ld rfl<;>intro h
 .have d:i<fl.length:=by simp at h;omega
  have y:rN ns.length fl[i]=true->(if fl.any (rN ns.length)=true then(1:Int)else if(JC ns ns.length).length≠1 then 1 else if(range ns.length).any (iN (ns,fl))=true then 1 else kX (ns,fl))=1:=λQ=>by rw[Tn (OE.2 ⟨_,PL d,Q⟩)]
  refine UC ?_;refine fe (hf.at hE4) d TV (λu q Y=>?_);obtain rfl:=Y.flow;refine eC (λw5 O W=>?_);refine f7 O (λM O hg6=>?_);have H:Ext X M:=W.grown hg6 W.size TX;have K:=K.ext H;have l:=hE4.trans H;have e26:=e4.trans H;refine Uy ?_;by_cases d1:decide (fl[i].1<0)=true
  .rw[d1];refine U0 ?_;refine d6 ⟨?_,l⟩;rw[y (by unfold rN;rw[d1];rfl)]
  have d1:decide (fl[i].1<0)=false:=by simpa using d1
  rw[d1];refine Vf ?_;by_cases d2:decide (fl[i].1>=(ns.length:Int))=true
  .rw[d2];refine U0 ?_;refine d6 ⟨?_,l⟩;rw[y (by unfold rN;rw[d1,d2];rfl)]
  have d2:decide (fl[i].1>=(ns.length:Int))=false:=by simpa using d2
  rw[d2];refine Vc ?_;by_cases d3:decide (fl[i].2<0)=true
  .rw[d3];refine U0 ?_;refine d6 ⟨?_,l⟩;rw[y (by unfold rN;rw[d1,d2,d3];rfl)]
  have d3:decide (fl[i].2<0)=false:=by simpa using d3
  rw[d3];refine Uu ?_;apply ld rfl<;>intro d4
  .refine Ud ?_;refine d6 ⟨?_,l⟩;rw[y (by unfold rN;rw[d1,d2,d3,d4];rfl)]
  have hgd:rN ns.length fl[i]=false:=by unfold rN;rw[d1,d2,d3,d4];rfl
  simp at d1 d2 d3 d4;obtain⟨a,ea⟩:=Om d1;have R:a<ns.length:=by omega
  have hfi:fl[i]=((a:Int),fl[i].2):=by rw[<-ea]
  have c:=rY d hfi R;have t:=K.len;rw[rX]at t;have o:a<vs.length:=by omega
  have hd:=mm M;have G:=K.ext hd;have hb6d:=O.ext hd;have hin:=G.inn a o (by rw[rX];exact R);rw[rV R]at hin;have hrl:(((fl.take i).filter λf=>f.1==(a:Int)).map (·.2)).length<=30:=by rw[P4];exact Rr (P3 _ _) (by rw[Qb];omega)
  obtain⟨oo,oc,hov,T⟩:=G.out.slF (F':=λb=>b=m.heap.size) TY (λg hg=>by cases hg;rfl);obtain⟨rfl,_,rfl⟩:=SV hov;rw[<-t]at T;have hsz6:=H.size;have hszd:=hd.size;have hl6:=O.lt;rw[ea]at hb6d;refine UW ?_;have hK:∀z,(λz:World=>∀b,b=m.heap.size\/b=X.heap.size->z.heap[b]?=(drew M).heap[b]?) z->z.heap[X.heap.size]?=(drew M).heap[X.heap.size]?:=λz hz=>hz _ (.inr rfl);refine aF (λz:World=>∀b,b=m.heap.size\/b=X.heap.size->z.heap[b]?=(drew M).heap[b]?) [Wr 0,Wr 1,Wr 2,Wr 3,Wr 4,Wr 5,Wr 6,Wr 7,Wr 8,Wr 9,Ws 10,Ws 11,Wr 12] 13 mixed TL T5 (Vq ?_);rw[<-t];refine cb (w:=drew M) (F:=λb=>b=m.heap.size) (λz hz b Q=>hz b (.inl Q)) rfl rfl rfl rfl rfl rfl rfl T o TV (λu q Y=>?_);obtain⟨rfl,_⟩:=Y.raw;rw[t];refine Vn ?_;refine bW (bytes:=8) rfl rfl rfl rfl TV rfl rfl TV hin T7 TK TY TN TQ TK
   (λz hz b Q=>hz.block b TK (λe=>?_)) (λv' w7 p ho7 D hnb=>?_)
  .obtain rfl|rfl:=Q
   .exact G.dio a o _ e.symm rfl
   .exact absurd ((hN4.inn a o (by rw[rX];exact R)).lt _ e.symm).2.1 (Rs _)
  rw[hfi]at ho7;have hmid:=G.mid o D;refine cC (yv:=(⟨v'⟩:Raw)) rfl rfl rfl rfl rfl rfl hmid o TV TV (VO _ _ _ ?_) (λI q ho8 N=>?_)
  .obtain⟨a,b,rfl⟩:=ho7.val;rfl
  have hN8:=G.set o ho7 D hnb ho8 N;rw[c]at hN8;have e26d:=e26.trans hd;have e8:Ext m I:=(e26d.grown D e26d.size (λb Q=>(hin.lt b Q).1)).grown N (Rr e26d.size D.size) (λb Q=>(G.out.lt b Q).1);refine Ui ?_;refine m5 (i+1,vs.set a ⟨v'⟩) TJ ⟨d,λf hf'=>?_,hN8,e8⟩ TP;dsimp only at hf';rw[<-QZ d]at hf';obtain h1|h1:=Ql.1 hf'
  .exact E f h1
  .rw[QC]at h1;subst h1;exact hgd
 obtain rfl:i=fl.length:=by simp at h;omega
 rw[Q0]at E;have A:fl.any (rN ns.length)=false:=OD.2 (λf hf=>by simp[E f hf]);have hfok:∀f∈fl,0<=f.1/\f.1<ns.length/\0<=f.2/\f.2<ns.length:=λf hf=>by have:=E f hf;unfold rN at this;simp at this;omega
 rw[Tm (by rw[A];simp)];have hgG:rU ns.length fl fl.length=rR ns.length fl:=by unfold rU;rw[Q0]
 rw[hgG]at K;have C:(rR ns.length fl).length=ns.length:=by simp[rR]
 have hgok:okG (rR ns.length fl):=by intro r hr x hx;rw[C];obtain⟨k,_,rfl⟩:=Qv.1 hr;obtain⟨f,hf,rfl⟩:=Qv.1 hx;exact(hfok f (Qs.1 hf).1).2.2
 have hge:=rS (n:=ns.length) (fl:=fl);have hge2:ns.length*fl.length<=20*30:=RB c1 c2;obtain⟨go,gc,hgv,hg⟩:=K.old.sl;rw[C]at hgv;obtain⟨rfl,_,rfl⟩:=SV hgv;have hb14:=P.ext e4;clear h hi E K hN4 hN3 A hgv;refine UU ?_;refine p8 (S:=Nat) (λi=>[(1,Uc w0.heap.size),(4,.slice (some ⟨m.heap.size,0,none⟩) ns.length ns.length),(7,Ub (Az (JC ns i))),(8,Ub ((JC ns i).length:Int)),(78,.slice so ns.length sc),(79,Ub ns.length),(80,Ub i)])
  (λi w=>i<=ns.length/\Ext X w) (λi=>ns.length -i) 0 TJ ⟨by omega,p7 _⟩ ?_
 rintro i w5 ⟨hi,W⟩;have hE5:=hE4.trans W;have c:=JE (ns:=ns) (k:=i);have hsl:=JD (ns:=ns) (k:=i);refine UR ?_;apply ld rfl<;>intro h
 .have d:i<ns.length:=by simp at h;omega
  rw[tk d]at c;refine UB ?_;refine fe (hs.at hE5) d TV (λu q Y=>?_);obtain rfl:=Y.node;refine eC (λM U H=>?_);refine U9 ?_;refine f7 U (λw7 U D=>?_);have V:Ext w5 w7:=H.grown D H.size TX;refine Uy ?_;apply ld rfl<;>intro h2
  .rw[Tn h2]at c;have hn1:((JC ns i).length:Int)+1=((JC ns (i+1)).length:Int):=by rw[c];simp
   have hn2:(i:Int)=Az (JC ns (i+1)):=by rw[c];simp[Az]
   refine UA ?_;refine m5 (i+1) ⟨rfl,rfl,?_,?_,rfl,rfl,rfl,trivial⟩ ⟨d,W.trans V⟩ TK
   .rw[<-hn2];rfl
   .rw[<-hn1];rfl
  .rw[Tm (by rw[h2];simp),OH]at c;refine US ?_;refine m5 (i+1) ?_ ⟨d,W.trans V⟩ TK;rw[c];exact TJ
 obtain rfl:i=ns.length:=by simp at h;omega
 have hb15:=hb14.ext W;clear h hi c;refine UF ?_;apply ld rfl<;>intro h
 .have h:(JC ns ns.length).length≠1:=by simp at h;omega
  refine Up ?_;refine d6 ⟨?_,hE5⟩;rw[Tn h]
 have h1:(JC ns ns.length).length=1:=by simp at h;omega
 rw[Tm TK];obtain⟨s,Z⟩:=P0.1 h1;have hsn:s<ns.length:=by
  have:s∈JC ns ns.length:=by rw[Z];simp
  unfold JC at this;exact QA.1 (Qs.1 this).1
 rw[kY Z,Z];rw[show Az [s]=(s:Int) from rfl];clear h;refine UM ?_;refine p8 (S:=Nat) (λi=>[(1,Uc w0.heap.size),(4,.slice (some ⟨m.heap.size,0,none⟩) ns.length ns.length),(7,Ub (s:Int)),(95,.slice so ns.length sc),(96,Ub ns.length),(97,Ub i)])
  (λi w=>i<=ns.length/\Ext w5 w/\∀j,j<i->iN (ns,fl) j=false) (λi=>ns.length -i) 0 TJ ⟨by omega,p7 _,by omega⟩ ?_
 rintro i M ⟨hi,H,hno⟩;have l:=hE5.trans H;have hb16:=hb15.ext H;refine UR ?_;apply ld rfl<;>intro h
 .have d:i<ns.length:=by simp at h;omega
  have hnd:=tk d;refine UB ?_;refine fe (hs.at l) d TV (λu q Y=>?_);obtain rfl:=Y.node;refine eC (λw7 J V=>?_);refine U9 ?_;refine f7 J (λI J N=>?_);have e8:Ext M I:=V.grown N V.size TX;have hb18:=hb16.ext e8;have hE8:=l.trans e8;have hd:=mm I;have hSE:∀x,(λx=>Ext I x) x->Ext I x:=λ_ h=>h;have hb12d:=J;refine UR ?_;refine aG (λx=>Ext I x) [Wr 0,Wr 1,Wr 2,Wr 3,Wr 6,Wr 7,Ws 4,Wr 5,Ws 8,Wr 9,Ws 10,Wr 11] mixed TL (mm I) (Vm ?_);refine cy rfl (eK (za (drew I) (hf.up (hE8.trans hd)) (i:Int) TK) ?_);rintro iv w9 ⟨hoi,e9⟩;have hT9:=hd.trans e9;obtain⟨iao,ica,rfl⟩:=hoi.val;refine p0 (a8 hT9 (Vp ?_));refine cy rfl (eK (D8 w9 (hf.up (hE8.trans hT9)) (i:Int) TK) ?_);rintro ov w10 ⟨hoo,e10⟩;have B:=hT9.trans e10;obtain⟨oao,oca,rfl⟩:=hoo.val;refine p0 (a8 B (Vp ?_));refine cy rfl (eK (my w10 ns[i].2 (yV fl (i:Int)).length (D2 fl (i:Int)).length) ?_);rintro _ _ ⟨rfl,rfl⟩;refine p0 (a8 B ?_);have hbc:iN (ns,fl) i=!mw ns[i].2 (yV fl (i:Int)).length (D2 fl (i:Int)).length:=by unfold iN;rw[hnd]
  refine Vr ?_;refine UQ ?_;apply ld rfl<;>intro h2
  .refine Ud ?_;refine d6 ⟨?_,hE8.trans B⟩;rw[Tn (OE.2 ⟨i,QA.2 d,by rw[hbc];exact h2⟩)]
  .refine US ?_;refine m5 (i+1) TJ ⟨d,(H.trans e8).trans B,λj hj=>?_⟩ TK;by_cases e:j=i
   .subst e;rw[hbc];exact h2
   .exact hno j TK
 obtain rfl:i=ns.length:=by simp at h;omega
 have A:(range ns.length).any (iN (ns,fl))=false:=OD.2 (λj hj=>by simp[hno j (QA.1 hj)]);rw[Tm (by rw[A];simp)];clear h hi hno;have hg6:=hg.up (W.trans H);refine UF ?_;refine fE [(s:Int)] rfl rfl rfl rfl rfl (.cons T7 .nil) (by show 1*1<=16777216;decide) (λv7 w7 V r7 _=>?_);obtain⟨lo,lc,rfl,hls⟩:=r7.sl;have hsok:Dy (rR ns.length fl).length [(s:Int)]:=λx hx=>by rw[QC]at hx;subst hx;rw[C];omega
 have hrF:=Gu hgok hsok TK;rw[<-C];have hRR:=dN w7 (hg6.up V) hls (by simp only[Qa];omega);rw[hrF,C]at hRR;rw[C];refine eK hRR ?_;rintro _ I ⟨rv,rfl,hor,e8⟩;obtain⟨ro,rc,rfl,hrs⟩:=hor.oldN.sl;refine UR ?_;refine eK (me I false hrs) ?_;rintro _ w9 ⟨rfl,e9⟩;have hE9:=((l.trans V).trans e8).trans e9;refine UG ?_;apply ld rfl<;>intro h2
 .refine Up ?_;refine d6 ⟨?_,hE9⟩;rw[Tn h2]
 .refine Uw ?_;refine d6 ⟨?_,hE9⟩;rw[Tm (by rw[h2];simp)]
noncomputable def AY(p:cM)(n:Int):Int:=if kU p≠0 then kU p else if n<0\/n>=p.1.length then 1 else 0
def A0(w0:World){so fo:Option Addr}{sc fc:Nat}{ns:List cK}{fl:List cJ}(f:Sl w0 (dk w0) so sc ns)(hf:Sl w0 (dk w0) fo fc fl)(n:Int){fv:Value}(sel:List Int)
  (d:fl.length<=30->∀w,Ext w0 w->FnV Vy fv [FC so sc fo fc ns.length fl.length,Ub n] w λv w'=>Own w' w.heap.size 3 dh v sel/\Ext w w'):
  Rt Vy 215 [FC so sc fo fc ns.length fl.length,Ub n,fv].toArray w0 λv w'=>∃x,v=.tuple ⟨[x,Ub (AY (ns,fl) n)]⟩/\Own w' w0.heap.size 3 dh x (if AY (ns,fl) n=0 then sel else [])/\Ext w0 w':=by
 have l:=f.len63;refine dT func215 ntmps215 rfl rfl ?_;have a:=p7 w0;refine UZ ?_;refine eH λj b o=>?_
 have a:=a.trans o;unfold AY;dsimp only;refine UD ?_;refine eK (aL j (f.up a) (hf.up a)) ?_;rintro _ i ⟨rfl,g⟩
 have b:=b.ext g;have a:=a.trans g;refine UR ?_;apply ld rfl<;>intro h
 .have h:kU (ns,fl)≠0:=by simpa using h
  refine Up ?_;refine f0 ⟨_,by rw[Tn h],?_,a⟩;rw[Tn h,Tm h];exact r3
 have h:kU (ns,fl)=0:=by simpa using h
 have c:=kV h;rw[Tm (by simp[h])];clear h;refine UB ?_
 (refine a6 (λh=>?_) (λh=>?_))
 .refine Us ?_
  have e:(if n<0\/n>=(ns.length:Int)then(1:Int)else 0)=1:=Tn (.inl (by simpa using h));exact f0 ⟨_,by rw[e],by rw[e,Tm TN];exact r3,a⟩
 have h1:¬n<0:=by simpa using h
 clear h;refine Uu ?_;apply ld rfl<;>intro h
 .have h:n>=ns.length:=by simpa using h
  refine Up ?_;have e:(if n<0\/n>=(ns.length:Int)then(1:Int)else 0)=1:=Tn (.inr h);exact f0 ⟨_,by rw[e],by rw[e,Tm TN];exact r3,a⟩
 have h2:¬n>=ns.length:=by simpa using h
 rw[Tm TK,Tn rfl];clear h;refine Uv ?_;refine eL rfl rfl rfl rfl (d c.f i a) ?_;rintro x p ⟨k,m⟩
 refine Uf ?_;exact f0 ⟨_,rfl,k.low a.size,a.trans m⟩
def cF(w0:World){so fo:Option Addr}{sc fc:Nat}{ns:List cK}{fl:List cJ}(d:Sl w0 (dk w0) so sc ns)(hf:Sl w0 (dk w0) fo fc fl)(n:Int):
  Rt Vy 142 [FC so sc fo fc ns.length fl.length,Ub n].toArray w0 λv w'=>∃x,v=.tuple ⟨[x,Ub (AY (ns,fl) n)]⟩/\Own w' w0.heap.size 3 dh x (if AY (ns,fl) n=0 then yV fl n else [])/\Ext w0 w':=by
 refine dS func142 ntmps142 rfl rfl (UZ ?_);refine eH λb i a=>?_;refine UD ?_;refine eK (A0 b (d.up a) (hf.up a) n (yV fl n) (λh w c=>VE (cs:=[]) (za w (hf.up (a.trans c)) n TK))) ?_;rintro _ g ⟨x,rfl,e,f⟩;refine Uf ?_;exact f0 ⟨x,rfl,e.low a.size,a.trans f⟩
def dl(w0:World){so fo:Option Addr}{sc fc:Nat}{ns:List cK}{fl:List cJ}(d:Sl w0 (dk w0) so sc ns)(hf:Sl w0 (dk w0) fo fc fl)(n:Int):
  Rt Vy 143 [FC so sc fo fc ns.length fl.length,Ub n].toArray w0 λv w'=>∃x,v=.tuple ⟨[x,Ub (AY (ns,fl) n)]⟩/\Own w' w0.heap.size 3 dh x (if AY (ns,fl) n=0 then D2 fl n else [])/\Ext w0 w':=by
 refine dS func143 ntmps143 rfl rfl (UZ ?_);refine eH λb i a=>?_;refine UD ?_;refine eK (A0 b (d.up a) (hf.up a) n (D2 fl n) (λh w c=>VE (cs:=[]) (D8 w (hf.up (a.trans c)) n TK))) ?_;rintro _ g ⟨x,rfl,e,f⟩;refine Uf ?_;exact f0 ⟨x,rfl,e.low a.size,a.trans f⟩
def IT{s:Nat}(a:s<62):IntKind.i64.wrap (1*2 ^ min ((s:Int)).toNat IntKind.i64.bits)=(2:Int) ^ s:=by
 have h1:min s (IntKind.bits .i64)=s:=by show min s 64=s;omega
 have h2:=Fd (show s<62 by omega);have h3:=Fe s;simp only[Oy,h1,Ov];rw[Np TK TK]
def Cells.tl'{b o:Nat}{x:Value}(h:Cells w b o (x::r)):Cells w b (o+1) r:=λj u a=>by have:=h (j+1) u (by simpa using a);rwa[show o+(j+1)=o+1+j by omega]at this
def Sl.nodeK{ao:Option Addr}{cap:Nat}{xs:List cK}(h:Sl w F ao cap xs){i:Nat}(hi:i<xs.length):∃b off,ao=some ⟨b,off,none⟩/\F b/\Cells w b (off+i*2+1) [Ub xs[i].2]:=by obtain⟨b,off,e,f,g,c,d⟩:=h.el i hi;obtain⟨c1,c2,rfl,h1,h2⟩:=Gr d;have a:=h1.1;subst a;rw[Gl h2]at c;exact⟨b,off,e,f,c.tl'⟩
def Gh(w:World)(F:Nat->Prop)(a b c:Int):Rd w F (.agg [Ub a,Ub b,Ub c].toArray) ((a,b,c):cO):=VZ (c1:=[Ub a]) (c2:=[Ub b,Ub c]) (Gn _ _ _) (Gm (Gn _ _ _) (Gn _ _ _))
def Ky{β:Type}(f:α->β){l:List α}{i:Nat}(h:i<l.length):(l.take (i+1)).map f=(l.take i).map f++[f l[i]]:=by rw[<-QZ h,Qe];rfl
instance:Flat cO:=⟨λh=>h⟩
theorem Dq(w0:World){so fo:Option Addr}{sc fc:Nat}{ns:List cK}{fl:List cJ}(hs:Sl w0 (dk w0) so sc ns)(hf:Sl w0 (dk w0) fo fc fl)(P:kU (ns,fl)=0){n:Nat}(hn:n<ns.length):
  Rt Vy 76 [FC so sc fo fc ns.length fl.length,Ub (n:Int)].toArray w0 λv w'=>Own w' w0.heap.size 163 dh v (JX (ns,fl) n)∧Ext w0 w':=by
 have V:=kV P;have X:=V.f;dsimp only at X
 have J:AY (ns,fl) (n:Int)=0:=by
  unfold AY;rw[Tm (by simp[P]),Tm TP]
 have K:Aj (ns,fl) n=ns[n].2:=by unfold Aj;rw[tk hn]
 have h7:ns[n].2=7→(D2 fl (n:Int)).length≤4:=λh=>DC V hn (by rw[K];exact h)
 have hil:(yV fl (n:Int)).length≤fl.length:=yY;have hol:(D2 fl (n:Int)).length≤fl.length:=D5;have C:JX (ns,fl) n=JO ns[n].2 (n:Int) (yV fl (n:Int)) (D2 fl (n:Int)).length:=by unfold JX;rw[K]
 rw[C];refine dS Tryz.func76 Tryz.ntmps76 rfl rfl ?_;have g:=Ext.refl w0;refine UZ ?_;refine eH λw1 A e1=>?_
 have g:=g.trans e1;refine UD ?_;refine eK (cF w1 (hs.up g) (hf.up g) (n:Int)) ?_;rintro _ w2 ⟨x,rfl,H,e2⟩
 rw[J,Tn rfl]at H
 have A:=A.ext e2;have g:=g.trans e2;obtain⟨xo,xc,rfl,u⟩:=H.oldN.sl;refine UD ?_;refine eK (dl w2 (hs.up g) (hf.up g) (n:Int)) ?_;rintro _ r ⟨y,rfl,G,e3⟩
 rw[J,Tn rfl]at G
 have A:=A.ext e3;have g:=g.trans e3;have u:=u.up e3;obtain⟨yo,yc,rfl,hys⟩:=G.oldN.sl;clear H G e1 e2 e3 J C P K;generalize yV fl (n:Int)=ins at*
 generalize (D2 fl (n:Int)).length=o at*
 have Z:=g.size;refine UE ?_;rw[IT (show o<62 by omega)];obtain⟨t,z⟩:∃t,t=(2:Int) ^ o:=⟨_,rfl⟩;have hp1:=Fe o;have hp2:=Fa (show o≤30 by omega);have hp3:(2:Int) ^ 30=1073741824:=by decide
 rw[←z]at hp1 hp2⊢
 rw[Np (show -9223372036854775808≤t -1 by omega) TK];obtain⟨nb,off,rfl,hnb,W⟩:=(hs.at g).nodeK hn;skip;refine fk (α:=cK) rfl rfl rfl rfl TK TK ?_;refine Va ?_;refine WL.load (α:=Int) (F:=dh) (y:=ns[n].2) rfl rfl rfl (by rw[Oy];exact W) rfl ?_;rw[show Me Int [Ub ns[n].2]=Ub ns[n].2 from rfl];generalize ns[n].2=k at*
 clear W hnb;skip;apply WL.nil;apply bA;apply CW.block;refine aA [(1,Ub (n:Int)),(5,.slice xo ins.length xc),(7,.slice yo o yc),(9,Ub (t -1)),(10,.slice none 0 0),(38,Ub k),(39,.bool (decide (k=4∨k=2∨k=3)))] ?_ ?_
 .refine UR ?_
  by_cases h4:k=4
  .subst h4
   refine UH ?_;exact aT TJ
  have b4:(k==4)=false:=by simpa using h4
  rw[b4];refine Ul ?_;by_cases h2:k=2
  .subst h2
   refine UH ?_;exact aT TJ
  have b2:(k==2)=false:=by simpa using h2
  rw[b2];refine Ul ?_;rw[show decide (k=4∨k=2∨k=3)=(k==3) by rw[NU];simp[h4,h2]];exact aT TJ
 by_cases hd:k=4∨k=2∨k=3
 .have d:JO k (n:Int) ins o=ins.map λf=>((n:Int),f,t -1):=by unfold JO;rw[Tn hd,z]
  rw[d,Tc hd];refine U3 ?_;refine CW.loop (S:=Nat×Value) (λs=>[(1,Ub (n:Int)),(9,Ub (t -1)),(10,s.2),(43,.slice xo ins.length xc),(44,Ub ins.length),(45,Ub s.1)])
   (λs w=>s.1≤ins.length∧Own w r.heap.size 163 dh s.2 ((ins.take s.1).map λf=>(((n:Int),f,t -1):cO))∧Ext r w) (λs=>ins.length -s.1) (0,.slice none 0 0) TJ ⟨RU _,Own.nil,Ext.refl _⟩ ?_
  rintro⟨i,ov⟩ w4 ⟨hi,c,m⟩
  dsimp only at hi c⊢
  refine UR ?_;apply CW.cond rfl<;>intro h
  .have e:i<ins.length:=by simp at h;omega
   have I:=Ky (λf=>(((n:Int),f,t -1):cO)) e;refine UC ?_;refine e_ (u.up m) e rfl TV (λq=>?_);refine UR ?_;refine WL.build rfl rfl rfl rfl ?_;refine eF (F:=dh) (yv:=(((n:Int),ins[i],t -1):cO)) rfl rfl TV rfl rfl TV c (Gh _ _ _ _ _) m.size TY TN (by rw[P4,Qb];unfold maxLen;omega) (by rw[P4,Qb];omega) (λU w5 p ho5 M hnb=>?_);rw[←I]at ho5
   have E:Ext r w5:=m.grown M m.size (λb R=>(c.lt b R).1);refine Ui ?_;exact EX.back (i+1,U) TJ ⟨e,ho5,E⟩ TP
  .obtain rfl:i=ins.length:=by simp at h;omega
   rw[Q0]at c
   refine UJ ?_;exact be ⟨c.low Z,g.trans m⟩
 rw[Ta hd];refine Ul ?_;by_cases Y:k=5
 .subst Y
  have d:JO 5 (n:Int) ins o=ins.flatMap λf=>(List.range o).map λk:Nat=>((n:Int),f,(2:Int) ^ k):=by unfold JO;rw[Tm hd,Tn rfl]
  rw[d];have O:∀l:List Int,(l.flatMap λf=>(List.range o).map λk:Nat=>(((n:Int),f,(2:Int) ^ k):cO)).length=l.length*o:=λl=>by
   induction l with
   |nil=>simp
   |cons a l ih=>rw[Pe,PX,ih];simp[Q9];omega
  refine U3 ?_;refine CW.loop (S:=Nat×Value) (λs=>[(1,Ub (n:Int)),(7,.slice yo o yc),(10,s.2),(59,.slice xo ins.length xc),(60,Ub ins.length),(61,Ub s.1)])
   (λs w=>s.1≤ins.length∧Own w r.heap.size 163 dh s.2 ((ins.take s.1).flatMap λf=>(List.range o).map λk:Nat=>(((n:Int),f,(2:Int) ^ k):cO))∧Ext r w) (λs=>ins.length -s.1) (0,.slice none 0 0) TJ ⟨RU _,Own.nil,Ext.refl _⟩ ?_
  rintro⟨i,ov⟩ w4 ⟨hi,c,m⟩
  dsimp only at hi c⊢
  refine UR ?_;apply CW.cond rfl<;>intro h
  .have e:i<ins.length:=by simp at h;omega
   have D:=O (ins.take i);rw[Qb,Ry hi]at D
   have hmul:i*o≤30*30:=RB TK TK;generalize Q:((ins.take i).flatMap λf=>(List.range o).map λk:Nat=>(((n:Int),f,(2:Int) ^ k):cO))=base at c D
   refine UC ?_;refine e_ (u.up m) e rfl TV (λq=>?_);refine Ut ?_;refine CW.loop (S:=Nat×Value) (λs=>[(1,Ub (n:Int)),(7,.slice yo o yc),(10,s.2),(14,Ub ins[i]),(59,.slice xo ins.length xc),(60,Ub ins.length),(61,Ub i),(66,Ub o),(67,Ub s.1)])
    (λs w=>s.1≤o∧Own w r.heap.size 163 dh s.2 (base++(List.range s.1).map λk:Nat=>(((n:Int),ins[i],(2:Int) ^ k):cO))∧Ext r w) (λs=>o -s.1) (0,ov) TJ ⟨RU _,by simpa using c,m⟩ ?_
   rintro⟨j,ov⟩ w5 ⟨hj,c,E⟩
   dsimp only at hj c⊢
   refine UR ?_;apply CW.cond rfl<;>intro h
   .have hj':j<o:=by simp at h;omega
    refine Ux ?_;rw[IT (show j<62 by omega)];refine WL.build rfl rfl rfl rfl ?_;refine eF (F:=dh) (yv:=(((n:Int),ins[i],(2:Int) ^ j):cO)) rfl rfl TV rfl rfl TV c (Gh _ _ _ _ _) E.size TY TN (by rw[PX,P4,P7];unfold maxLen;omega) (by rw[PX,P4,P7];omega) (λU w6 p ho6 L hnb=>?_);have e6:Ext r w6:=E.grown L E.size (λb R=>(c.lt b R).1);refine Ui ?_;refine EX.back (j+1,U) TJ ⟨hj',?_,e6⟩ TP;dsimp only;rw[QQ,Qe,←OG];exact ho6
   .obtain rfl:j=o:=by simp at h;omega
    refine Uj ?_;refine EX.back (i+1,ov) TJ ⟨e,?_,E⟩ TP;dsimp only;rw[←QZ e,Pd,Q];simpa using c
  .obtain rfl:i=ins.length:=by simp at h;omega
   rw[Q0]at c
   refine UJ ?_;exact be ⟨c.low Z,g.trans m⟩
 have b5:(k==5)=false:=by simpa using Y
 rw[b5];refine Ul ?_;by_cases h6:k=6
 .subst h6
  have d:JO 6 (n:Int) ins o=[((n:Int),-1,t -1)]:=by unfold JO;rw[Tm hd,Tm Y,Tn rfl,z]
  rw[d];refine U4 ?_;refine WL.build rfl rfl rfl rfl ?_;refine eF (F:=dh) (B:=r.heap.size) (xs:=[]) (yv:=(((n:Int),-1,t -1):cO)) rfl rfl TV rfl rfl TV Own.nil (Gh _ _ _ _ _) T8 TY TN (by simp[maxLen]) TO (λU w6 p ho6 L hnb=>?_);have e6:Ext r w6:=(Ext.refl _).grown L T8 (λb R=>by cases R);refine Uw ?_;exact be ⟨ho6.low Z,g.trans e6⟩
 have b6:(k==6)=false:=by simpa using h6
 rw[b6];refine Ul ?_;by_cases T:k=7
 .subst T
  have ho4:=h7 rfl;have d:JO 7 (n:Int) ins o=(List.range (2 ^ o -1)).map λk:Nat=>((n:Int),-1,(k:Int)+1):=by unfold JO;rw[Tm hd,Tm Y,Tm h6,Tn rfl]
  rw[d];have hpn:t=((2 ^ o:Nat):Int):=by rw[z];push_cast;rfl
  have hN1:=RG (n:=o);have hN2:2 ^ o≤2 ^ 4:=RK TK ho4;obtain⟨N,hN⟩:∃N,N=2 ^ o:=⟨_,rfl⟩;rw[←hN]at hpn hN1 hN2⊢
  have hN3:N≤16:=by have:2 ^ 4=16:=by decide
                    omega
  refine U3 ?_;refine CW.loop (S:=Nat×Value) (λs=>[(1,Ub (n:Int)),(9,Ub (t -1)),(10,s.2),(16,Ub ((s.1:Int)+1))])
   (λs w=>s.1≤N -1∧Own w r.heap.size 163 dh s.2 ((List.range s.1).map λk:Nat=>(((n:Int),-1,(k:Int)+1):cO))∧Ext r w) (λs=>N -s.1) (0,.slice none 0 0) TJ ⟨RU _,Own.nil,Ext.refl _⟩ ?_
  rintro⟨i,ov⟩ w4 ⟨hi,c,m⟩
  dsimp only at hi c⊢
  refine UR ?_;apply CW.cond rfl<;>intro h
  .have e:i<N -1:=by simp at h;omega
   refine UB ?_;refine WL.build rfl rfl rfl rfl ?_;refine eF (F:=dh) (yv:=(((n:Int),-1,(i:Int)+1):cO)) rfl rfl TV rfl rfl TV c (Gh _ _ _ _ _) m.size TY TN (by rw[P4,P7];unfold maxLen;omega) (by rw[P4,P7];omega) (λU w5 p ho5 M hnb=>?_);have E:Ext r w5:=m.grown M m.size (λb R=>(c.lt b R).1);refine Ui ?_;refine EX.back (i+1,U) TJ ⟨by dsimp only;omega,?_,E⟩ TP;dsimp only;rw[QQ,Qe];exact ho5
  .obtain rfl:i=N -1:=by simp at h;omega
   refine UJ ?_;exact be ⟨c.low Z,g.trans m⟩
 have b7:(k==7)=false:=by simpa using T
 rw[b7];have d:JO k (n:Int) ins o=[]:=by unfold JO;rw[Tm hd,Tm Y,Tm h6,Tm T]
 rw[d];refine UA ?_;exact be ⟨Own.nil,g⟩
def di(w0:World){so fo:Option Addr}{sc fc:Nat}{ns:List cK}{fl:List cJ}(p:Sl w0 (dk w0) so sc ns)(hf:Sl w0 (dk w0) fo fc fl):
  Rt Vy 35 [FC so sc fo fc ns.length fl.length].toArray w0 λv w'=>∃x,v=.tuple ⟨[x,Ub (JL (ns,fl)).2]⟩/\Own w' w0.heap.size 163 dh x (JL (ns,fl)).1/\Ext w0 w':=by
 have E:=p.len63;refine dR func35 ntmps35 rfl rfl ?_;have c:=p7 w0;refine UZ ?_;refine eH λC j J=>?_;have c:=c.trans J;unfold JL;refine UD ?_;refine eK (aL C (p.up c) (hf.up c)) ?_;rintro _ n ⟨rfl,y⟩;have j:=j.ext y;have c:=c.trans y;refine UR ?_;apply ld rfl<;>intro h
 .have h:kU (ns,fl)≠0:=by simpa using h
  refine Up ?_;refine f0 ⟨_,by rw[Tn h],?_,c⟩;rw[Tn h];exact r3
 have g:kU (ns,fl)=0:=by simpa using h
 have d:=kV g;have m:=d.n;dsimp only at m;rw[Tm (by simp[g])];have z:=c.size;refine UM ?_;refine p8 (S:=Nat×Value) (λs=>[(1,Uc w0.heap.size),(5,s.2),(14,Ub ns.length),(15,Ub s.1)])
  (λs w=>s.1<=ns.length/\Own w n.heap.size 163 dh s.2 (JZ (ns,fl) s.1)/\Ext n w) (λs=>ns.length -s.1) (0,.slice none 0 0) TJ ⟨RU _,r3,p7 _⟩ ?_
 rintro⟨i,ov⟩ B ⟨hi,k,t⟩;dsimp only at hi k⊢;have G:=j.ext t;have a:=c.trans t;have u:=J0 d i hi;refine UR ?_;apply ld rfl<;>intro h
 .have f:i<ns.length:=by simp at h;omega
  have e:=J0 d (i+1) f;rw[J2,PX]at e;refine Uv ?_;refine eK (Dq B (p.up a) (hf.up a) g f) ?_;rintro sv K ⟨q,l⟩;have k:=k.extN l;have l:=t.trans l;obtain⟨so',sc',rfl,o⟩:=q.oldN.sl;refine V7 (F:=dh) rfl rfl rfl rfl k o.srcN l.size TY TQ TK (λD A ho5 r _=>?_);rw[<-J2]at ho5;have I:Ext n A:=l.grown r l.size (λb H=>(k.lt b H).1);refine Ui ?_;exact m5 (i+1,D) TJ ⟨f,ho5,I⟩ TP
 obtain rfl:i=ns.length:=by simp at h;omega
 refine UU ?_;apply ld rfl<;>intro h
 .have h:(JU (ns,fl)).length>60:=by simp at h;show(JZ (ns,fl) ns.length).length>60;omega
  refine Up ?_;refine f0 ⟨_,by rw[Tn h],?_,a⟩;rw[Tn h];exact r3
 .have h:¬(JU (ns,fl)).length>60:=by simp at h;show¬(JZ (ns,fl) ns.length).length>60;omega
  refine Uw ?_;refine f0 ⟨_,by rw[Tm h],?_,a⟩;rw[Tm h];exact k.low z
def Jz(s:cO):Value:=.agg [.int .i64 s.1,.int .i64 s.2.1,.int .i64 s.2.2].toArray
def Rd.step{x:cO}(h:Rd w F v x):v=Jz x:=by obtain⟨c1,c2,rfl,h1,h2⟩:=h.pr;obtain⟨c3,c4,rfl,h3,h4⟩:=Gr h2;rw[Gl h1,Gl h3,Gl h4];rfl
section
variable {Q:Exit->Act->World->Prop}{n:Nat}{σ:Sg}{w:World}{L rest:List Oper}{d:Nat}{ty:TypeId}{pos:String}{af:Array Edge}{g:Option (Nat×Bool)}{yt:TypeId}{x y:Operand}
end
def Cells.tl{b o:Nat}{x:Value}(h:Cells w b o (x::r)):Cells w b (o+1) r:=λj u a=>by have:=h (j+1) u (by simpa using a);rwa[show o+(j+1)=o+1+j by omega]at this
def Sl.pair{ao:Option Addr}{cap:Nat}{xs:List (Int×Int)}(h:Sl w F ao cap xs){i:Nat}(hi:i<xs.length):∃b off,ao=some ⟨b,off,none⟩/\F b/\Cells w b (off+i*2) [Ub xs[i].1]/\Cells w b (off+i*2+1) [Ub xs[i].2]:=by obtain⟨b,off,e,f,g,a,d⟩:=h.el i hi;obtain⟨c1,c2,rfl,h1,h2⟩:=Gr d;rw[Gl h1,Gl h2]at a;exact⟨b,off,e,f,λj u c=>a j u (by cases j with|zero=>simpa using c|succ j=>simp at c),a.tl⟩
def AZ{p:cM}(h:kU p=0){n:Nat}(hn:n<p.1.length):AY p (n:Int)=0:=by unfold AY;rw[Tm (by simp[h]),Tm TK]
section
variable {P:Program}{Q:Exit->Act->World->Prop}{n:Nat}{σ:Sg}{w:World}{L rest:List Oper}{d:Nat}{ty:TypeId}{pos:String}{af:Array Edge}{g:Option (Nat×Bool)}{t e:TypeId}{α:Type}[Rep α]
end
section
variable {P:Program}{Q:Exit->Act->World->Prop}{n:Nat}{σ:Sg}{w:World}{L rest:List Oper}{d:Nat}{ty:TypeId}{pos:String}{af:Array Edge}{g:Option (Nat×Bool)}{t yt:TypeId}{x y:Operand}
end
def JM{p:cM}(h:(JL p).2=0):kU p=0/\(JL p).1=JU p/\(JU p).length<=60:=by
 unfold JL at h⊢;split at h
 .rename_i h1;exact absurd h h1
 .split at h
  .simp at h
  .rename_i h1 h2;rw[Tm h1,Tm h2];exact⟨by simpa using h1,rfl,by omega⟩
def qT(f:Nat->Int)(F i:Nat):List Int:=(range F).map λj=>if j<i then f j else 0
def qU{f:Nat->Int}{F i:Nat}:(qT f F i).length=F:=by simp[qT]
def qX{f:Nat->Int}{F:Nat}:qT f F 0=replicate F 0:=by unfold qT;apply O3 TO;intro j h1 h2;simp
def qV{f:Nat->Int}{F i:Nat}(hi:i<F):(qT f F i).set i (f i)=qT f F (i+1):=by
 unfold qT;apply O3 TO;intro j h1 h2;rw[PP];simp only[PK,PM];by_cases e:i=j
 .subst e;rw[Tn rfl,Tn TK]
 .rw[Tm e];by_cases h:j<i
  .rw[Tn h,Tn TK]
  .rw[Tm h,Tm TK]
def qW{f:Nat->Int}{F i:Nat}(a:f i=0):qT f F i=qT f F (i+1):=by
 unfold qT;apply O3 TO;intro j h1 h2;simp only[PK,PM];by_cases e:i=j
 .subst e;rw[Tm TK,Tn TK,a]
 .by_cases h:j<i
  .rw[Tn h,Tn TK]
  .rw[Tm h,Tm TK]
def Rd.pairI{x:Int×Int}(h:Rd w F v x):v=.agg [Ub x.1,Ub x.2].toArray:=by obtain⟨c1,c2,rfl,h1,h2⟩:=h.pr;rw[Gl h1,Gl h2];rfl
def Ak{ns:List cK}{fl:List cJ}{n:Nat}(h:n<ns.length):Aj (ns,fl) n=ns[n].2:=by unfold Aj;rw[tk h]
def DB{ns:List cK}{fl:List cJ}(h:OkPr (ns,fl)){i:Nat}(hi:i<fl.length):∃a b:Nat,fl[i].1=(a:Int)/\fl[i].2=(b:Int)/\a<ns.length/\b<ns.length:=by have:=h.flows _ (PL hi);dsimp only at this;exact⟨fl[i].1.toNat,fl[i].2.toNat,by omega,by omega,by omega,by omega⟩
def aq(w0:World){so fo:Option Addr}{sc fc:Nat}{ns:List cK}{fl:List cJ}(B:Sl w0 (dk w0) so sc ns)(hf:Sl w0 (dk w0) fo fc fl):
  Rt Vy 63 [FC so sc fo fc ns.length fl.length].toArray w0 λv w'=>∃x,v=.tuple ⟨[x,Ub (JL (ns,fl)).2]⟩/\Own w' w0.heap.size 3 dh x (if(JL (ns,fl)).2=0 then iZ (ns,fl)else [])/\Ext w0 w':=by
 have X:=B.len63;have Y:=hf.len63;refine dR func63 ntmps63 rfl rfl ?_;have e:=p7 w0;refine UZ ?_;refine eH λV c e1=>?_
 have e:=e.trans e1;refine UD ?_;refine eK (di V (B.up e) (hf.up e)) ?_;rintro _ m ⟨x,rfl,C,Q⟩
 have c:=c.ext Q;have e:=e.trans Q;by_cases n:(JL (ns,fl)).2=0
 case neg=>
  have A:((JL (ns,fl)).2 != 0)=true:=by simpa using n
  refine UR ?_;rw[A];refine Us ?_;refine f0 ⟨_,rfl,?_,e⟩;rw[Tm n];exact r3
 obtain⟨H,_,_⟩:=JM n;rw[Tn n,n];have f:=kV H;have o:=f.n;have s:=f.f;dsimp only at o s
 clear C;refine UM ?_;refine fI (α:=Int) rfl rfl rfl rfl TK TQ (λK ho3 r=>?_);have hE3:Ext w0 K:=e.grown r e.size T2;have P:Ext m K:=(NP _ _).grown r T8 T2;have I:=c;have c:=c.ext P;have Z:=(ho3.lt _ rfl).2.1;generalize W:Value.slice (some ⟨m.heap.size,0,none⟩) fl.length fl.length=sv at*
 refine UE ?_;refine p8 (S:=Nat) (λi=>[(1,Uc w0.heap.size),(6,sv),(22,.slice fo fl.length fc),(23,Ub fl.length),(24,Ub i)])
  (λi w=>i<=fl.length/\Own w m.heap.size 3 dh sv (qT (λj=>if Aj (ns,fl) (fl.getD j (0,0)).1.toNat=1 then 1 else 0) fl.length i)/\Ext m w) (λi=>fl.length -i) 0 TJ ⟨by omega,by rw[qX];exact ho3,P⟩ ?_
 rintro i U ⟨hi,g,z⟩
 have c:=I.ext z;have k:=e.trans z;refine UR ?_;apply ld rfl<;>intro h
 .have d:i<fl.length:=by simp at h;omega
  obtain⟨a,b,ea,eb,N,M⟩:=DB f d;refine UB ?_;refine fe (hf.up k) d TV (λu q L=>?_);rw[L.pairI,ea,eb];clear L;skip;refine eC (λw5 t O=>?_);refine U9 ?_;refine f7 t (λT t G=>?_);have l:Ext U T:=O.grown G O.size TX;have c:=c.ext l;have J:=k.trans l;have g:=g.extN l;obtain⟨nb,off,rfl,hnb,D⟩:=(B.at J).nodeK N;have p:Aj (ns,fl) (fl.getD i (0,0)).1.toNat=ns[a].2:=by rw[te d,ea,Oy,Ak N]
  refine Uy ?_;refine fk (α:=cK) rfl rfl rfl rfl TK TK ?_;refine Va ?_;refine VQ (α:=Int) (F:=dh) (y:=ns[a].2) rfl rfl rfl (by rw[Oy];exact D) rfl ?_;rw[show Me Int [Ub ns[a].2]=Ub ns[a].2 from rfl];refine Ug ?_;apply ld rfl<;>intro h
  .have h:ns[a].2=1:=by simpa using h
   refine U4 ?_;refine fX (u:=Ub 1) (yv:=(1:Int)) rfl rfl rfl rfl g (by rw[qU];exact d) TV TV T7 (λR q ho7 E=>?_);have e7:Ext m R:=(z.trans l).grown E (z.trans l).size (λb M=>(g.lt b M).1);refine Ui ?_;refine m5 (i+1) TJ ⟨d,?_,e7⟩ TK;rw[<-qV d,p,Tn h];exact ho7
  .have h:¬ns[a].2=1:=by simpa using h
   refine US ?_;refine m5 (i+1) TJ ⟨d,?_,z.trans l⟩ TK;rw[<-qW (by rw[p,Tm h])];exact g
 .obtain rfl:i=fl.length:=by simp at h;omega
  have:qT (λj=>if Aj (ns,fl) (fl.getD j (0,0)).1.toNat=1 then 1 else 0) fl.length fl.length=iZ (ns,fl):=by
   unfold qT iZ;apply O3 TO;intro j h1 h2
   have hj:j<fl.length:=by simpa using h1
   simp only[PK,PM,Tn hj];rw[te hj]
  rw[this]at g
  refine UF ?_;exact f0 ⟨_,rfl,g.low e.size,k⟩
theorem KW(w:World)(n:Int):Rt Vy 262 [Ub n].toArray w λv w'=>v=.bool (KQ n)/\Ext w w':=by
 refine dR Tryz.func262 Tryz.ntmps262 rfl rfl ?_;refine UR ?_;by_cases h:n<0
 .rw[Tc h]
  refine UK ?_;exact bd rfl rfl ⟨by unfold KQ;rw[Tc h];rfl,Ext.refl _⟩
 .rw[Ta h]
  refine Uf ?_;exact bd rfl rfl ⟨by unfold KQ;rw[Ta h];rfl,Ext.refl _⟩
def kf(w0:World){so fo mo:Option Addr}{sc fc mc:Nat}{ns:List cK}{fl:List cJ}(s:Sl w0 (dk w0) so sc ns)(hf:Sl w0 (dk w0) fo fc fl)(l:Sl w0 (dk w0) mo mc m):
  Rt Vy 210 [FC so sc fo fc ns.length fl.length,.slice mo m.length mc].toArray w0 λv w'=>∃x,v=.tuple ⟨[x,Ub (kO (ns,fl) m)]⟩/\Own w' w0.heap.size 163 dh x (if kO (ns,fl) m=0 then JU (ns,fl)else [])/\Ext w0 w':=by
 have u:=hf.len63;have t:=l.len63;refine dS func210 ntmps210 rfl rfl ?_;have a:=p7 w0;refine UZ ?_;refine eH λr f p=>?_
 have a:=a.trans p;refine UD ?_;refine eK (di r (s.up a) (hf.up a)) ?_;rintro _ q ⟨x,rfl,c,o⟩
 have f:=f.ext o;have a:=a.trans o;unfold kO;by_cases d:(JL (ns,fl)).2=0
 case neg=>
  have g:((JL (ns,fl)).2 != 0)=true:=by simpa using d
  refine UR ?_;rw[g];refine Us ?_;refine f0 ⟨_,by rw[Tn d],?_,a⟩;rw[Tn d,Tm d];exact r3
 obtain⟨y,i,_⟩:=JM d;rw[Tm (by simp[d]),d];rw[i]at c
 refine UM ?_;by_cases k:m.length=fl.length
 .have e:((m.length:Int) != (fl.length:Int))=false:=by simp[k]
  rw[e];refine U9 ?_;refine eK (l_ q KQ (l.up a) (λw A j hj=>VE (cs:=[]) (KW w _))) ?_;rintro _ z ⟨rfl,n⟩
  have c:=c.extN n;have a:=a.trans n;refine Ug ?_;apply ld rfl<;>intro h
  .have h:m.any KQ=true:=by simpa using h
   refine Up ?_;have b:(if m.length≠fl.length\/m.any KQ=true then(1:Int)else 0)=1:=Tn (.inr h);dsimp only;rw[b];exact f0 ⟨_,rfl,by rw[Tm TN];exact r3,a⟩
  .have h:¬(m.length≠fl.length\/m.any KQ=true):=by
    have h:m.any KQ=false:=by simpa using h
    rw[h];simp[k]
   refine Uw ?_;have b:(if m.length≠fl.length\/m.any KQ=true then(1:Int)else 0)=0:=Tm h;dsimp only;rw[b];exact f0 ⟨_,rfl,by rw[Tn rfl];exact c.low p.size,a⟩
 .have e:((m.length:Int) != (fl.length:Int))=true:=by rw[S6];omega
  rw[e];refine Us ?_;have b:(if m.length≠fl.length\/m.any KQ=true then(1:Int)else 0)=1:=Tn (.inl k);dsimp only;rw[b];exact f0 ⟨_,rfl,by rw[Tm TN];exact r3,a⟩
def s9{j:Nat}(h:j<l.length):l.getD j false=l[j]:=by rw[Pl,Pq h];rfl
def lY(w0:World){so fo:Option Addr}{sc fc:Nat}{ns:List cK}{fl:List cJ}(hs:Sl w0 (dk w0) so sc ns)(hf:Sl w0 (dk w0) fo fc fl)(W:OkPr (ns,fl)){flow:Nat}(hfl:flow<fl.length)(but:Int):
  Rt Vy 280 [FC so sc fo fc ns.length fl.length,Ub (flow:Int),Ub but].toArray w0 λv w'=>Own w' w0.heap.size 4 dh v (lR fl flow but)/\Ext w0 w':=by
 have hf30:=W.f;dsimp only at hf30;refine dT func280 ntmps280 rfl rfl ?_;have hE:=p7 w0;refine UZ ?_;refine eH λo hb1 e1=>?_;have hE:=hE.trans e1;have z1:=e1.size;refine UE ?_;refine fI (α:=Bool) rfl rfl rfl rfl TK TQ (λw2 ho2 hg2=>?_);have e2:Ext o w2:=(NP _ _).grown hg2 T8 T2;have hlt:=(ho2.lt _ rfl).2.1;generalize hsv:Value.slice (some ⟨o.heap.size,0,none⟩) fl.length fl.length=sv at*;have M:sv.ownBlock=some o.heap.size:=by rw[<-hsv];rfl
 refine UR ?_;refine fX (u:=.bool true) (yv:=true) rfl rfl rfl rfl ho2 (by simpa using hfl) TV TV (VF _ _ _) (λw3 q ho3 hg3=>?_);have e3:Ext o w3:=e2.grown hg3 e2.size (λb K=>(ho2.lt b K).1);have hlt3:o.heap.size<w3.heap.size:=(ho3.lt _ M).2.1;refine UR ?_;refine VN (F:=dh) (ys:=[(flow:Int)]) rfl rfl rfl rfl rfl (.cons T7 .nil) (by show 1*1<=16777216;decide) TY (λw4 ho4 Z=>?_);have e4:Ext o w4:=e3.grown Z e3.size T2;have ho3:=ho3.keptN Z (λg _ h=>by cases h);have hne4:∀b,Value.ownBlock (.slice (some ⟨w3.heap.size,0,none⟩) 1 1)=some b->b≠o.heap.size:=λb K=>by have e:some w3.heap.size=some b:=K;injection e with e;omega
 have ho4:=ho4.low e3.size;generalize Value.slice (some ⟨w3.heap.size,0,none⟩) 1 1=tv at*;have hI:ComeI fl ((replicate fl.length false).set flow true) [(flow:Int)]:=⟨by simp,λx hx=>by rw[QC]at hx;omega⟩;have hm0:[(flow:Int)].length+qw ((replicate fl.length false).set flow true)<=fl.length:=by have:=qz (l:=replicate fl.length false) (k:=flow) (by simpa using hfl) (by rw[Pl,Pw];split<;>rfl);rw[qy]at this;simp only[PY,P5];omega
 clear e2 e3 hg2 hg3 Z ho2;refine Ux ?_;refine p8 (S:=Nat×List Bool×List Int×Value) (λs=>[(2,Ub but),(3,Uc w0.heap.size),(7,sv),(8,s.2.2.2)])
  (λs w=>lM fl but s.1 s.2.1 s.2.2.1=lR fl flow but/\ComeI fl s.2.1 s.2.2.1/\s.2.2.1.length+qw s.2.1<=s.1/\s.1<=fl.length/\Own w o.heap.size 4 dh sv s.2.1/\Own w o.heap.size 3 dh s.2.2.2 s.2.2.1/\(∀b,s.2.2.2.ownBlock=some b->b≠o.heap.size)/\Ext o w) (λs=>s.1)
  (fl.length,(replicate fl.length false).set flow true,[(flow:Int)],tv) TJ ⟨rfl,hI,hm0,Rq _,ho3,ho4,hne4,e4⟩ ?_
 rintro⟨f,out,todo,tv⟩ w5 ⟨m,hI,Q,hfF,C,I,hne,e5⟩;dsimp only at m hI Q hfF C I hne e5⊢;have hE5:=hE.trans e5;have hb5:=hb1.ext e5;refine U5 ?_;apply ld rfl<;>intro h0
 .simp at h0
  match todo,h0 with
  |x::r,_=>
  have hx:=hI.ok x TO;obtain⟨k,rfl⟩:=Om hx.1;have hk:k<fl.length:=by omega
  obtain⟨a,b,ea,eb,ha,K⟩:=DB W hk
  match f,Q with
  |0,Q=>simp at Q
  |f+1,Q=>
  have Q:r.length+qw out<=f:=by simp at Q;omega
  have hI':ComeI fl out r:=⟨hI.len,λy hy=>hI.ok y (by simp[hy])⟩;unfold lM at m;rw[Oy,te hk,ea]at m;obtain⟨to,tc,rfl,hts⟩:=I.oldN.sl;obtain⟨fb,off,rfl,hfb,hc1,_⟩:=(hf.up hE5).pair hk;refine U8 ?_;refine dx (i:=0) rfl rfl rfl rfl rfl T0 hts TK TO TV (λu q hu=>?_);obtain rfl:=hu.int;simp only[Int.toNat_zero,PE];refine dB (α:=cJ) rfl rfl rfl rfl TK TK (Vi ?_);refine V2 (α:=Int) (F:=dh) (y:=fl[k].1) rfl rfl rfl hfb TY (by rw[Oy];exact hc1) rfl ?_;rw[show Me Int [Ub fl[k].1]=Ub fl[k].1 from rfl,ea];refine U_ ?_;refine VD (λw6 V=>?_);have C:=C.extN V;have I:=I.extN V;have V:=e5.trans V;have hE6:=hE.trans V;have hb6:=hb1.ext V;clear hts;refine UB ?_;refine eV (α:=Int) 1 rfl rfl rfl rfl rfl I TO (λnv2 H hnb=>?_);simp only[O0,O1]at H;have P:∀b,nv2.ownBlock=some b->b≠o.heap.size:=λb K=>hne b (by rw[<-hnb];exact K);refine UR ?_;apply ld rfl<;>intro h2
  .have h2:(a:Int)=but:=by simpa using h2
   rw[Tn h2]at m;refine Un ?_;exact m5 (f,out,r,nv2) TJ ⟨m,hI',Q,by omega,C,H,P,V⟩ TP
  have h2:¬(a:Int)=but:=by simpa using h2
  rw[Tm h2]at m;refine UM ?_;refine p8 (S:=Nat×List Bool×List Int×Value) (λs=>[(2,Ub but),(3,Uc w0.heap.size),(7,sv),(8,s.2.2.2),(9,Ub (a:Int)),(38,.slice (some ⟨fb,off,none⟩) fl.length fc),(39,Ub fl.length),(40,Ub s.1)])
   (λs w=>s.1<=fl.length/\(s.2.1,s.2.2.1)=(range s.1).foldl (lT fl (a:Int)) (out,r)/\ComeI fl s.2.1 s.2.2.1/\s.2.2.1.length+qw s.2.1=r.length+qw out/\Own w o.heap.size 4 dh sv s.2.1/\Own w o.heap.size 3 dh s.2.2.2 s.2.2.1/\(∀b,s.2.2.2.ownBlock=some b->b≠o.heap.size)/\Ext o w) (λs=>fl.length -s.1)
   (0,out,r,nv2) TJ ⟨RU _,rfl,hI',rfl,C,H,P,V⟩ ?_
  rintro⟨j,out2,todo2,tv3⟩ w7 ⟨hj,B,D,L,J,G,d,e7⟩;dsimp only at hj B D L J G d e7⊢;have hE7:=hE.trans e7;refine UR ?_;apply ld rfl<;>intro h1
  .have z:j<fl.length:=by simp at h1;omega
   obtain⟨a2,b2,ea2,eb2,ha2,hb2⟩:=DB W z;have A:=lW (n:=(a:Int)) z D;have c:lT fl (a:Int) (out2,todo2) j=(range (j+1)).foldl (lT fl (a:Int)) (out,r):=by rw[QQ,Pg,<-B];rfl
   have Y:j<out2.length:=by rw[D.len];exact z
   have hcs:lT fl (a:Int) (out2,todo2) j=if(b2:Int)=(a:Int)/\out2[j]=false then(out2.set j true,todo2++[(j:Int)])else(out2,todo2):=by unfold lT;rw[te z,eb2,s9 Y]
   rw[hcs]at A c;have hlen3:todo2.length<=60:=by have:=qx (l:=out);have:=hI.len;omega
   refine UB ?_;refine fe (hf.up hE7) z TV (λu q hu=>?_);rw[hu.pairI,ea2,eb2];clear hu;refine eC (λw8 hb8 e8=>?_);refine U9 ?_;refine f7 hb8 (λw9 hb9 hg9=>?_);have U:Ext w7 w9:=e8.grown hg9 e8.size TX;have t:=J.extN U;have E:=G.extN U;have U:=e7.trans U;refine Uy ?_;by_cases h3:(b2:Int)=(a:Int)
   .rw[show((b2:Int)==(a:Int))=true by simpa using h3];refine U9 ?_;refine fh rfl rfl rfl rfl rfl t Y TV (λu q hu=>?_);obtain rfl:=hu.bool;refine Ug ?_;by_cases h4:out2[j]=false
    .rw[Tn ⟨h3,h4⟩]at A c;dsimp only at A;rw[h4];refine U4 ?_;refine fX (u:=.bool true) (yv:=true) rfl rfl rfl rfl t Y TV TV (VF _ _ _) (λw10 q O T=>?_);have e10:Ext o w10:=U.grown T U.size (λb K=>(t.lt b K).1);have N:=E.keptN T (λg hg=>by rw[M];simpa using d g hg);refine UR ?_;refine eF (F:=dh) (yv:=(j:Int)) rfl rfl TV rfl rfl TV N T7 e10.size TY TN TQ TK (λv' w11 p ho11 R X=>?_);have e11:Ext o w11:=e10.grown R e10.size (λb K=>(N.lt b K).1);have hd11:=O.keptN R (λg hg e=>by rw[M]at hg;cases hg;exact d _ e.symm rfl);refine Ui ?_;refine m5 (j+1,out2.set j true,todo2++[(j:Int)],v') TJ ⟨z,c,A.1,by rw[A.2];exact L,hd11,ho11,?_,e11⟩ TP;intro b hb';obtain h|h:=X b hb'
     .exact d b h
     .have:=(O.lt _ M).2.1;omega
    .rw[Tm (λh=>h4 h.2)]at A c;have h4:out2[j]=true:=by simpa using h4
     rw[h4];refine US ?_;exact m5 (j+1,out2,todo2,tv3) TJ ⟨z,c,D,L,t,E,d,U⟩ TP
   .rw[Tm (λh=>h3 h.1)]at A c;rw[show((b2:Int)==(a:Int))=false by simpa using h3];refine UA ?_;exact m5 (j+1,out2,todo2,tv3) TJ ⟨z,c,D,L,t,E,d,U⟩ TP
  .obtain rfl:j=fl.length:=by simp at h1;omega
   rw[<-B]at m;refine Un ?_;exact m5 (f,out2,todo2,tv3) TJ ⟨m,D,by dsimp only;omega,by dsimp only;omega,J,G,d,e7⟩ TP
 .have hnil:todo=[]:=by simpa using h0
  subst hnil;rw[lQ]at m;subst m;refine UF ?_;exact be ⟨C.low z1,hE5⟩
def h_(p:α->Bool){l:List α}{i:Nat}(h:i<l.length):(l.take (i+1)).any p=((l.take i).any p||p l[i]):=by rw[<-QZ h,OC];simp
def tH{l:List Int}{j:Nat}(h:j<l.length):l.getD j 0=l[j]:=by rw[Pl,Pq h];rfl
def zy{p:cM}{m:List Int}{n f:Int}(h:f∈yV p.2 n)(h1:¬m.getD f.toNat 0>0)(h2:iQ p m n f=true):zx p m n=false:=by unfold zx;rw[Tn];exact OE.2 ⟨f,h,by rw[Ta h1,h2];rfl⟩
def zB{p:cM}{m:List Int}{n:Int}(h:∀f∈yV p.2 n,¬m.getD f.toNat 0>0->iQ p m n f=false):zx p m n=(yV p.2 n).any λf=>decide (m.getD f.toNat 0>0):=by
 unfold zx;rw[Tm];rw[OE];rintro⟨f,hf,a⟩;rw[NS]at a;have h1:¬m.getD f.toNat 0>0:=by simpa using a.1
 rw[h f hf h1]at a;simp at a
def iK(fl:List cJ)(m:List Int)(c:List Bool)(n:Int)(i:Nat):Bool:=c.getD i false&&decide (m.getD i 0>0)&&decide ((fl.getD i (0,0)).2≠n)
def iR{p:cM}{n:Int}{f:Nat}:iQ p m n (f:Int)=(range p.2.length).any (iK p.2 m (lR p.2 f n) n):=rfl
def zC(w0:World){so fo mo:Option Addr}{sc fc mc:Nat}{ns:List cK}{fl:List cJ}(hs:Sl w0 (dk w0) so sc ns)(hf:Sl w0 (dk w0) fo fc fl)(hm:Sl w0 (dk w0) mo mc m)(V:kU (ns,fl)=0)(Z:m.length=fl.length){n:Nat}(hn:n<ns.length):
  Rt Vy 263 [FC so sc fo fc ns.length fl.length,.slice mo m.length mc,Ub (n:Int)].toArray w0 λv w'=>v=.bool (zx (ns,fl) m (n:Int))/\Ext w0 w':=by
 have M:=kV V;have U:=M.f;dsimp only at U
 have O:AY (ns,fl) (n:Int)=0:=AZ V hn;refine dT func263 ntmps263 rfl rfl ?_;have I:=p7 w0;refine UZ ?_;refine eH λw1 g e1=>?_
 have I:=I.trans e1;refine UD ?_;refine eK (cF w1 (hs.up I) (hf.up I) (n:Int)) ?_;rintro _ w2 ⟨x,rfl,E,e2⟩
 rw[O,Tn rfl]at E
 have g:=g.ext e2;have I:=I.trans e2;obtain⟨xo,xc,rfl,X⟩:=E.oldN.sl;have T:=λx (hx:x∈yV fl (n:Int))=>insP_mem.1 hx
 have R:=λf=>@zy (ns,fl) m (n:Int) f
 have P:=@zB (ns,fl) m (n:Int);have hil:(yV fl (n:Int)).length<=fl.length:=yY;dsimp only at R P
 rw[O];clear E e1;generalize yV fl (n:Int)=ins at*
 refine Ut ?_;refine p8 (S:=Nat×Bool) (λs=>[(1,.slice mo m.length mc),(2,Ub (n:Int)),(3,Uc w0.heap.size),(9,.bool s.2),(20,.slice xo ins.length xc),(21,Ub ins.length),(22,Ub s.1)])
  (λs w=>s.1<=ins.length/\s.2=((ins.take s.1).any λf=>decide (m.getD f.toNat 0>0))/\(∀j (h:j<ins.length),j<s.1->¬m.getD ins[j].toNat 0>0->iQ (ns,fl) m (n:Int) ins[j]=false)/\Ext w2 w) (λs=>ins.length -s.1)
  (0,false) TJ ⟨RU _,rfl,(λj _ h=>absurd h (RF _)),p7 _⟩ ?_
 rintro⟨i,b⟩ w3 ⟨hi,W,l,L⟩
 dsimp only at hi W l L⊢
 have g:=g.ext L;have z:=I.trans L;refine UR ?_;apply ld rfl<;>intro h
 .have u:i<ins.length:=by simp at h;omega
  have C:=PL u;obtain⟨f,ef,o,_⟩:=T _ C;have A:f<m.length:=by rw[Z];exact o
  have d:=h_ (λf:Int=>decide (m.getD f.toNat 0>0)) u;rw[ef,Oy,tH A]at d
  refine UC ?_;refine e_ (X.up L) u ef TV (λq=>?_);refine UR ?_;refine e_ (hm.up z) A rfl TV (λq=>?_);refine Ug ?_;apply ld rfl<;>intro h
  .rw[h,N8]at d
   have hp:m.getD ins[i].toNat 0>0:=by rw[ef,Oy,tH A];simpa using h
   refine UL ?_;refine m5 (i+1,true) TJ ⟨u,d.symm,λj hj o hn=>?_,L⟩ TP;dsimp only at o
   by_cases e:j=i
   .subst e;exact absurd hp hn
   .exact l j hj TK hn
  rw[h,N7,<-W]at d
  have Y:¬m.getD ins[i].toNat 0>0:=by rw[ef,Oy,tH A];simpa using h
  have B:=iR (p:=(ns,fl)) (m:=m) (n:=(n:Int)) (f:=f);rw[<-ef]at B
  dsimp only at B
  refine Uv ?_;refine eK (lY w3 (hs.up z) (hf.up z) M o (n:Int)) ?_;rintro v w4 ⟨N,e4⟩
  have g:=g.ext e4;have hE4:=z.trans e4;have hcl:=lS (fl:=fl) (flow:=f) (but:=(n:Int));generalize lR fl f (n:Int)=c at*
  obtain⟨co,cc,rfl,hcs⟩:=N.oldN.sl;clear N;refine Uz ?_;refine p8 (S:=Nat) (λj=>[(1,.slice mo m.length mc),(2,Ub (n:Int)),(3,Uc w0.heap.size),(9,.bool b),(20,.slice xo ins.length xc),(21,Ub ins.length),(22,Ub i),(34,.slice co c.length cc),(35,Ub c.length),(36,Ub j)])
   (λj w=>j<=c.length/\(∀k,k<j->iK fl m c (n:Int) k=false)/\Ext w4 w) (λj=>c.length -j) 0 TJ ⟨RU _,(λk h=>absurd h (RF _)),p7 _⟩ ?_
  rintro j w5 ⟨hj,D,J⟩
  have g:=g.ext J;have H:=hE4.trans J;refine UR ?_;apply ld rfl<;>intro h2
  .have t:j<c.length:=by simp at h2;omega
   have r:j<fl.length:=by omega
   have Q:j<m.length:=by omega
   have a:iK fl m c (n:Int) j=(c[j]&&decide (m[j]>0)&&decide (fl[j].2≠(n:Int))):=by unfold iK;rw[s9 t,tH Q,te r]
   have G:iK fl m c (n:Int) j=false->∀k,k<j+1->iK fl m c (n:Int) k=false:=λh k hk=>by
    by_cases e:k=j
    .subst e;exact h
    .exact D k TK
   refine UB ?_;refine eY rfl rfl rfl rfl rfl (hcs.up J) t rfl TV (λq=>?_);refine UR ?_;by_cases h3:c[j]=true
   .rw[h3]at a⊢
    rw[N9]at a
    refine U9 ?_;refine e_ (hm.up H) Q rfl TV (λq=>?_);refine U9 ?_;by_cases h4:m[j]>0
    .rw[Tc h4]at a⊢
     rw[N9]at a
     obtain⟨fb,off,rfl,hfb,_,hc2⟩:=(hf.up H).pair r;refine Vc ?_;refine fk (α:=cJ) rfl rfl rfl rfl TK TK ?_;refine Va ?_;refine VQ (α:=Int) (F:=dh) (y:=fl[j].2) rfl rfl rfl (by rw[Oy];exact hc2) rfl ?_;rw[show Me Int [Ub fl[j].2]=Ub fl[j].2 from rfl];refine Ug ?_;apply ld rfl<;>intro K
     .have K:fl[j].2≠(n:Int):=by simpa using K
      rw[Tc K]at a
      have hbt:iQ (ns,fl) m (n:Int) ins[i]=true:=by
       rw[B];exact OE.2 ⟨j,QA.2 r,a⟩
      refine Ud ?_;refine d6 ⟨?_,H⟩;rw[R _ C Y hbt]
     .have K:¬fl[j].2≠(n:Int):=by simpa using K
      rw[Ta K]at a
      refine US ?_;exact m5 (j+1) TJ ⟨t,G a,J⟩ TK
    .rw[Ta h4]at a⊢
     rw[NV]at a
     refine UA ?_;exact m5 (j+1) TJ ⟨t,G a,J⟩ TK
   .have h3:c[j]=false:=by simpa using h3
    rw[h3]at a⊢
    rw[NV,NV]at a
    refine UA ?_;exact m5 (j+1) TJ ⟨t,G a,J⟩ TK
  .obtain rfl:j=c.length:=by simp at h2;omega
   have hbf:iQ (ns,fl) m (n:Int) ins[i]=false:=by
    rw[B];exact OD.2 (λk hk=>by rw[D k (by rw[hcl];exact QA.1 hk)];simp)
   refine Uj ?_;refine m5 (i+1,b) TJ ⟨u,d.symm,λj hj o hn=>?_,(L.trans e4).trans J⟩ TP;dsimp only at o
   by_cases e:j=i
   .subst e;exact hbf
   .exact l j hj TK hn
 .obtain rfl:i=ins.length:=by simp at h;omega
  rw[Q0]at W
  have:=P (λf hf hn=>by
   obtain⟨j,hj,rfl⟩:=Qu.1 hf;exact l j hj hj hn)
  refine UF ?_;exact d6 ⟨by rw[this,<-W],z⟩
def o5(w:World)(b:Nat){mo:Option Addr}{mc:Nat}(d:Blk w b 39 [.slice mo m.length mc])(c:Sl w (dk w) mo mc m){f:Nat}(a:f<m.length):
  Rt Vy 264 [Ub (f:Int),Uc b].toArray w λv w'=>v=.bool (m.getD f 0==0)/\Ext w w':=by
 refine dS func264 ntmps264 rfl rfl (Uy ?_);refine e_ c a rfl TV (λq=>?_);refine Uf ?_;exact d6 ⟨by rw[tH a],p7 _⟩
def o7(w0:World){so fo mo:Option Addr}{sc fc mc:Nat}{ns:List cK}{fl:List cJ}(u:Sl w0 (dk w0) so sc ns)(hf:Sl w0 (dk w0) fo fc fl)(B:Sl w0 (dk w0) mo mc m)(i:kU (ns,fl)=0)(e:m.length=fl.length){s:cO}{n:Nat}(hn:n<ns.length)(d:s∈JX (ns,fl) n):
  Rt Vy 211 [FC so sc fo fc ns.length fl.length,.slice mo m.length mc,Jz s].toArray w0 λv w'=>v=.bool (o6 (ns,fl) m s)/\Ext w0 w':=by
 have z:=kV i;have p:=z.f;dsimp only at p
 have J:=JR _ d;have I:=JP _ d;have l:AY (ns,fl) (n:Int)=0:=AZ i hn;clear d;obtain⟨T,H,S⟩:=s;dsimp only at J I
 subst J;unfold Jz o6;dsimp only;refine dT func211 ntmps211 rfl rfl ?_;have a:=p7 w0;refine UZ ?_;refine eH λR c O=>?_
 have a:=a.trans O;skip;refine eH λQ b L=>?_
 have c:=c.ext L;have a:=a.trans L;skip;refine eH λG M D=>?_
 have c:=c.ext D;have b:=b.ext D;have a:=a.trans D;refine Uy ?_;apply ld rfl<;>intro h
 .have h:H>=0:=by simpa using h
  rcases I with rfl|C
  .omega
  obtain⟨f,rfl,g,_⟩:=insP_mem.1 C;have o:f<m.length:=by rw[e];exact g
  rw[Tn h,Oy,tH o];refine UV ?_;refine e_ (B.up a) o rfl TV (λq=>?_);refine UX ?_;exact be ⟨rfl,a⟩
 have h:¬0<=H:=by simpa using h
 rw[Tm h,Oy,Ak hn];obtain⟨U,off,rfl,hnb,A⟩:=(u.at a).nodeK hn;refine U3 ?_;refine fk (α:=cK) rfl rfl rfl rfl TK TK ?_;refine Va ?_;refine VQ (α:=Int) (F:=dh) (y:=ns[n].2) rfl rfl rfl (by rw[Oy];exact A) rfl ?_;rw[show Me Int [Ub ns[n].2]=Ub ns[n].2 from rfl];refine Ug ?_;apply ld rfl<;>intro h
 .have h:ns[n].2=7:=by simpa using h
  rw[Tn h];refine U3 ?_;refine eK (zC G (u.up a) (hf.up a) (B.up a) i e hn) ?_;rintro _ E ⟨rfl,r⟩
  refine UX ?_;exact be ⟨rfl,a.trans r⟩
 have h:¬ns[n].2=7:=by simpa using h
 rw[Tm h];refine U3 ?_;refine eK (cF G (u.up a) (hf.up a) (n:Int)) ?_;rintro _ E ⟨x,rfl,k,r⟩
 rw[l,Tn rfl]at k
 rw[l];have b:=b.ext r;have a:=a.trans r;obtain⟨xo,xc,rfl,t⟩:=k.oldN.sl;refine Um ?_;refine eK (l_ E (λf=>m.getD f.toNat 0==0) t (λw K j hj=>?_)) ?_
 .obtain⟨f,ef,g,_⟩:=insP_mem.1 (PL hj)
  rw[ef,Oy];exact VE (cs:=[_]) (o5 w _ (b.ext K) (B.up (a.trans K)) (by rw[e];exact g))
 rintro _ P ⟨rfl,N⟩
 refine Uf ?_;exact be ⟨rfl,a.trans N⟩
def JV{p:cM}{i:Nat}(h:i<(JU p).length):(JU p).getD i (0,0,0)=(JU p)[i]:=by rw[Pl,Pq h];rfl
def kP{p:cM}(h:kO p m=0):kU p=0/\m.length=p.2.length/\m.any KQ=false/\(JU p).length<=60:=by
 unfold kO at h;split at h
 .rename_i h1;exact absurd h h1
 .rename_i h1;split at h
  .cases h
  .rename_i h2;have:=JM (p:=p) (by simpa using h1);refine⟨this.1,Ob λe=>h2 (.inl e),?_,this.2.2⟩;by_cases e:m.any KQ=true
   .exact absurd (.inr e) h2
   .simpa using e
def bD(w0:World){so fo mo:Option Addr}{sc fc mc:Nat}{ns:List cK}{fl:List cJ}(E:Sl w0 (dk w0) so sc ns)(hf:Sl w0 (dk w0) fo fc fl)(G:Sl w0 (dk w0) mo mc m):
  Rt Vy 132 [FC so sc fo fc ns.length fl.length,.slice mo m.length mc].toArray w0 λv w'=>∃x,v=.tuple ⟨[x,Ub (kO (ns,fl) m)]⟩/\Own w' w0.heap.size 3 dh x (if kO (ns,fl) m=0 then jT (ns,fl) m else [])/\Ext w0 w':=by
 refine dS func132 ntmps132 rfl rfl ?_;have e:=p7 w0;refine UZ ?_;refine eH λX c e1=>?_
 have e:=e.trans e1;refine UD ?_;refine eK (kf X (E.up e) (hf.up e) (G.up e)) ?_;rintro _ D ⟨x,rfl,l,R⟩
 have c:=c.ext R;have e:=e.trans R;by_cases r:kO (ns,fl) m=0
 case neg=>
  have I:(kO (ns,fl) m != 0)=true:=by simpa using r
  refine UR ?_;rw[I];refine Us ?_;refine f0 ⟨_,rfl,?_,e⟩;rw[Tm r];exact r3
 obtain⟨M,y,_,P⟩:=kP r;rw[Tn r]at l
 rw[Tn r,r];dsimp only at y
 obtain⟨xo,xc,rfl,J⟩:=l.oldN.sl;clear l;have z:∀k,k<=(JU (ns,fl)).length->(jU (ns,fl) m k).length<=60:=λk hk=>by
  unfold jU;rw[P4];have:=P3 (λi=>o6 (ns,fl) m ((JU (ns,fl)).getD i (0,0,0))) (range k);rw[P7]at this
  omega
 have T:=e.size;refine Uv ?_;refine p8 (S:=Nat×Value) (λs=>[(1,.slice mo m.length mc),(2,Uc w0.heap.size),(8,s.2),(20,.slice xo (JU (ns,fl)).length xc),(21,Ub (JU (ns,fl)).length),(22,Ub s.1)])
  (λs w=>s.1<=(JU (ns,fl)).length/\Own w D.heap.size 3 dh s.2 (jU (ns,fl) m s.1)/\Ext D w) (λs=>(JU (ns,fl)).length -s.1) (0,.slice none 0 0) TJ ⟨RU _,r3,p7 _⟩ ?_
 rintro⟨i,ov⟩ W ⟨hi,f,C⟩
 dsimp only at hi f C⊢
 have c:=c.ext C;have B:=e.trans C;refine UR ?_;apply ld rfl<;>intro h
 .have d:i<(JU (ns,fl)).length:=by simp at h;omega
  obtain⟨n,hn,t⟩:=stepsP_mem.1 (PL d);have a:=jV (p:=(ns,fl)) (m:=m) (k:=i);rw[JV d]at a
  have Z:=z i hi;refine UB ?_;refine fe (J.up C) d TV (λu q O=>?_);rw[O.step];have A:=λw E hf G=>o7 w (so:=so) (fo:=fo) (mo:=mo) (sc:=sc) (fc:=fc) (mc:=mc) E hf G M y hn t
  clear O t;generalize (JU (ns,fl))[i]=s at*
  unfold Jz at A⊢
  skip;refine eC (λw4 g Q=>?_);refine U9 ?_;refine f7 g (λN g L=>?_);have H:Ext W N:=Q.grown L Q.size TX;have c:=c.ext H;have o:=B.trans H;have f:=f.extN H;refine UD ?_;refine eK (A N (E.up o) (hf.up o) (G.up o)) ?_;rintro _ V ⟨rfl,j⟩
  have f:=f.extN j;have j:Ext D V:=(C.trans H).trans j;have z6:=j.size;refine UG ?_;apply ld rfl<;>intro h
  .rw[Tn h]at a
   refine U4 ?_;refine eF (F:=dh) (yv:=(i:Int)) rfl rfl TV rfl rfl TV f T7 j.size TY TN TQ TK (λY U p ho7 K hnb=>?_);have e7:Ext D U:=j.grown K j.size (λb hb=>(f.lt b hb).1);rw[<-a]at ho7
   refine Ui ?_;exact m5 (i+1,Y) TJ ⟨d,ho7,e7⟩ TP
  .rw[Tm (by simp[h]),OH]at a
   refine US ?_;exact m5 (i+1,ov) TJ ⟨d,by dsimp only;rw[a];exact f,j⟩ TP
 .obtain rfl:i=(JU (ns,fl)).length:=by simp at h;omega
  refine UF ?_;exact f0 ⟨_,rfl,f.low T,B⟩
def oR(w:World)(F:Nat->Prop):∀k:Nat,Elems w F (replicate k (Ub 0)) (replicate k (0:Int))
 |0=>VW
 |k+1=>by rw[QS,QS];exact(oR w F k).append (Wd (Gn w F 0))
section
variable {P:Program}{Q:Exit->Act->World->Prop}{n:Nat}{σ:Sg}{w:World}{L rest:List Oper}{d:Nat}{ty:TypeId}{pos:String}{af:Array Edge}{g:Option (Nat×Bool)}{t e:TypeId}{bytes:Nat}
theorem fW{op:Op}{v:Value}{w':World}(f:gd L σ ⟨none,op,ty,pos,af,g⟩=some true)
  (c:∀a,Fr n σ a->(execOp a.eval ⟨none,op,ty,pos,af,g⟩).run P w=.ok (.value v) w') (h:WL P L Q rest n σ w'):WL P L Q (⟨none,op,ty,pos,af,g⟩::rest) n σ w:=by
 unfold WL at*;intro a b;refine TE λK i=>?_;rw[sZ b f,Tn rfl];unfold Oper.wp;rw[c a b];exact i _ _ (h _ (b.put (d:=none) (v:=v) rfl))
theorem Hq{v:Value}{xs:List Int}{B:Nat}(w:World)[q:IsS P t e][E:IsT P e Int][x:IsZ P e (0:Int) bytes](j:Own w B e dh v xs):
  ∃w',(Builtin.clear_ #[t] ty #[v]).run P w=.ok (.tuple #[]) w'/\Own w' B e dh v (xs.map λ_=>(0:Int))/\w.grownBy w' v.ownBlock:=by
 obtain⟨rfl,rfl⟩|⟨b,off,cap,cur,rfl,c⟩:=j
 .refine⟨w,by simp[Builtin.clear_,TA q.ok],r3,?_⟩;exact⟨rfl,rfl,rfl,Rq _,λk _ _=>rfl⟩
 .by_cases u:xs=[]
  .subst u;refine⟨w,by simp[Builtin.clear_,TA q.ok],.inr ⟨b,off,cap,cur,rfl,c⟩,?_⟩;exact⟨rfl,rfl,rfl,Rq _,λk _ _=>rfl⟩
  obtain⟨i,z,h1,h2,h3,h4⟩:=x.ok;have o:z.cells.toList=[Ub 0]:=h4 w dh;have p:z.cells=#[Ub 0]:=by apply Nv;exact o
  have s:0<xs.length:=P6.2 u;obtain⟨k,r⟩:∃k,xs.length=k+1:=⟨xs.length -1,by omega⟩;have f:sz Int=1:=rfl;have l:=c.fit;have A:=c.le;rw[f,RE]at l;have a:=Tz P b off e (replicate xs.length (Ub 0)) 0 cur w c.blk TR (λv y=>by rw[List.eq_of_mem_replicate y];rfl);simp only[Re]at a;have h:(Builtin.zeroCells z.cells xs.length).toList=replicate xs.length (Ub 0):=by
   rw[p];simp[Builtin.zeroCells];apply O3
   .simp
   .intro i h1 h2;simp[Nat.mod_one]
  refine⟨w.setRow b (cur.toList.take off++replicate xs.length (Ub 0)++cur.toList.drop (off+xs.length)).toArray,?_,.inr ⟨b,off,cap,(cur.toList.take off++replicate xs.length (Ub 0)++cur.toList.drop (off+xs.length)).toArray,by rw[P4],⟨TB w b cur _ e _ c.blk,c.ge,c.nF,by simpa using c.le,c.mx,?_,?_⟩⟩,⟨rfl,rfl,rfl,by simp,λk _ r=>TC w b k _ (λe=>r (by rw[e];rfl))⟩⟩
  .rw[P8]at a;rw[r]at a h⊢;have m:(zeroValue e).run P w=.ok z w:=by simp[zeroValue,typeInfo,h1,h2]
   simp only[OG]at a;simp[Builtin.clear_,TA q.ok,m,h,a]
  .simp only[QW,PX,Qb,PZ,NI,P8];rw[f];omega
  .rw[P4,f,RE,List.map_const'];have D:((((cur.toList.take off++replicate xs.length (Ub 0)++cur.toList.drop (off+xs.length)).toArray.toList).drop off).take xs.length)=replicate xs.length (Ub 0):=by
    have C:(cur.toList.take off).length=off:=by rw[Qb,NI];omega
    simp only[OG];rw[OT,C,RP,O1,OY TK,QE,List.take_append];simp
   rw[D];exact oR _ _ _
theorem eO{x:Operand}{v:Value}{xs:List Int}{B:Nat}(k:gd L σ ⟨none,.call ⟨.builtin .clear,#[x],#[t]⟩,ty,pos,af,g⟩=some true)
  (f:ev σ x=some v) [p:IsS P t e] [o:IsT P e Int] [m:IsZ P e (0:Int) bytes] (b:Own w B e dh v xs)
  (h:∀w',Own w' B e dh v (xs.map λ_=>(0:Int))->w.grownBy w' v.ownBlock->WL P L Q rest n σ w'):
  WL P L Q (⟨none,.call ⟨.builtin .clear,#[x],#[t]⟩,ty,pos,af,g⟩::rest) n σ w:=by
 obtain⟨w',i,j,c⟩:=Hq (P:=P) (t:=t) (ty:=ty) w b;refine fW (v:=.tuple #[]) k (λa l=>?_) (h w' j c);simp[execOp,resolve,invoke,builtin,l.ev f,i]
end
def jh{a:Int}{k:Nat}(c:0<=a)(h1:a<4611686018427387904):bits BinOp.and IntKind.i64 (a / 2 ^ k) 1=je a k:=by have h:(1:Int)<=2 ^ k:=Fe k;have b:0<=a / 2 ^ k:=Int.ediv_nonneg c TK;have f:a / 2 ^ k<=a:=Int.ediv_le_self _ c;obtain⟨q,hq⟩:=Om b;have:=Go.Proofs.and_one q TK;unfold je;rw[hq,this];omega
def KE{s:cO}{o:List Int}{f:Nat}(hf:f<o.length)(h:¬(s.2.1=(f:Int)\/s.2.1<0/\o[f]>0)):o.set f (KB o s (f:Int))=o:=by unfold KB;rw[Oy,tH hf,Tm h,QV]
def KR(b:Nat)(o:List Int):Prop:=∀k (h:k<o.length),-(b:Int)<=o[k]/\o[k]<=9
def KU{b:Nat}{o:List Int}{k:Nat}{v:Int}(h:KR b o)(c:b<=B)(a: -(B:Int)<=v)(h1:v<=9):KR B (o.set k v):=λj hj=>by
 rw[P_]at hj;rw[PP];split
 .exact⟨a,h1⟩
 .have:=h j hj;omega
def rD(w0:World){so fo mo:Option Addr}{sc fc mc:Nat}{ns:List cK}{fl:List cJ}(hs:Sl w0 (dk w0) so sc ns)(hf:Sl w0 (dk w0) fo fc fl)(hm:Sl w0 (dk w0) mo mc m)(hc0:kU (ns,fl)=0)(hml:m.length=fl.length)(hmt:KR 0 m){s:cO}{n:Nat}(hn:n<ns.length)(W:s∈JX (ns,fl) n):
  Rt Vy 212 [FC so sc fo fc ns.length fl.length,.slice mo m.length mc,Jz s].toArray w0 λv w'=>∃x,v=.tuple ⟨[x,Ub (if(rz (ns,fl) m s).isSome then 0 else 7)]⟩/\Own w' w0.heap.size 3 dh x ((rz (ns,fl) m s).getD [])/\Ext w0 w':=by
 have hok:=kV hc0;have hf30:=hok.f;dsimp only at hf30;have q1:=JR _ W;have q2:=JP _ W;have q3:=JT _ W;have X:AY (ns,fl) (n:Int)=0:=AZ hc0 hn;have hol:(D2 fl (n:Int)).length<=fl.length:=D5;have hil:(yV fl (n:Int)).length<=fl.length:=yY;clear W;obtain⟨s1,O,s3⟩:=s;dsimp only at q1 q2 q3;subst q1;have hp30:=Fa (show(D2 fl (n:Int)).length<=30 by omega);have hp31:(2:Int) ^ 30=1073741824:=by decide
 have hs30:s3<4611686018427387904:=by omega
 unfold Jz rz;dsimp only;rw[Oy,Ak hn];refine dT func212 ntmps212 rfl rfl ?_;have E:=Ext.refl w0;refine UZ ?_;refine eH λw1 z e1=>?_;have E:=E.trans e1;refine eH λU A e2=>?_;have z:=z.ext e2;have E:=E.trans e2;refine UR ?_;have hd3:=z;have hd5:=A;refine eK (lI U (hm.up E) TK) ?_;rintro ov w3 ⟨c,e3⟩;have z:=z.ext e3;have A:=A.ext e3;have z2:=E.size;have E:=E.trans e3;obtain⟨nb,off,rfl,hnb,hnc⟩:=(hs.at E).nodeK hn;refine Uy ?_;refine fk (α:=cK) rfl rfl rfl rfl TK TK (Va ?_);refine VQ (α:=Int) (F:=dh) (y:=ns[n].2) rfl rfl rfl (by rw[Oy];exact hnc) rfl ?_;rw[show Me Int [Ub ns[n].2]=Ub ns[n].2 from rfl];refine Ug ?_;apply ld rfl<;>intro h
 .have h:ns[n].2=3:=by simpa using h
  rw[Tn h];refine U4 ?_;refine eO rfl rfl c (λw4 ho4 hg4=>?_);have T:Ext U w4:=e3.grown hg4 e3.size (λb hb=>(c.lt b hb).1);refine Up ?_;exact f0 ⟨_,rfl,ho4.low z2,VB (VB e1 e2) T⟩
 have h:¬ns[n].2=3:=by simpa using h
 rw[Tm h];have e12:=VB e1 e2;clear hnc hnb e1;refine U3 ?_;have hc3:=z;have hc5:=A;have hgo:∀g,ov.ownBlock=some g->g<w3.heap.size:=λg hg=>(c.lt g hg).2.1;refine eK (cF w3 (hs.up E) (hf.up E) (n:Int)) ?_;rintro _ w4 ⟨x,rfl,p,T⟩;rw[X,Tn rfl]at p;have z:=z.ext T;have A:=A.ext T;have z34:=T.size;have c:=c.extN T;have T:=e3.trans T;obtain⟨xo,xc,rfl,_⟩:=p.oldN.sl;have hins:=λx (hx:x∈yV fl (n:Int))=>insP_mem.1 hx;rw[X];generalize hinsL:yV fl (n:Int)=ins at*;obtain⟨s,H⟩:∃s:cO,s=((n:Int),O,s3):=⟨_,rfl⟩;have hs21:s.2.1=O:=by rw[H]
 rw[<-H];have hTk:Kt s m (ins.drop 0)=Kt s m ins:=by rw[O1]
 refine Ut ?_;refine p8 (S:=Nat×List Int) (λt=>[(3,Uc w0.heap.size),(5,Uc w1.heap.size),(8,ov),(36,.slice xo ins.length xc),(37,Ub ins.length),(38,Ub t.1)])
  (λt w=>t.1<=ins.length/\t.2.length=m.length/\KR t.1 t.2/\Kt s t.2 (ins.drop t.1)=Kt s m ins/\Own w U.heap.size 3 dh ov t.2/\Own w w3.heap.size 3 dh (.slice xo ins.length xc) ins/\Ext U w/\w3.heap.size<=w.heap.size) (λt=>ins.length -t.1)
  (0,m) TJ ⟨RU _,rfl,hmt,hTk,c,p,T,z34⟩ ?_
 rintro⟨i,o⟩ w5 ⟨hi,r,l,hT,c,p,N,z5⟩;dsimp only at hi r l hT c N⊢;have hE5:=VB e12 N;have z:=hd3.ext N;have A:=hd5.ext N;obtain⟨_,_,exo,hxs⟩:=p.oldN.sl;obtain⟨rfl,_,rfl⟩:=SV exo;refine UR ?_;apply ld rfl<;>intro h
 .have C:i<ins.length:=by simp at h;omega
  obtain⟨f,ef,hlt,_⟩:=hins _ (PL C);have a:f<o.length:=by omega
  have hbd:=l f a;rw[OX C,Kt,ef,Oy]at hT;have hno:¬(O=(f:Int)\/O<0/\o[f]>0)->Kt s o (ins.drop (i+1))=Kt s m ins:=λh=>by rw[<-hT,KE a (by rw[hs21];exact h)]
  have Y:(O=(f:Int)\/O<0/\o[f]>0)->Kt s (o.set f (o[f] -1)) (ins.drop (i+1))=Kt s m ins:=λh=>by rw[<-hT];unfold KB;rw[Oy,tH a,hs21,Tn h]
  have Z:KR (i+1) o:=λj hj=>by have:=l j hj;omega
  refine UC ?_;refine e_ hxs C ef TV (λq=>?_);refine Uy ?_;by_cases h1:O=(f:Int)
  .rw[show(O==(f:Int))=true by simpa using h1];refine Us ?_;refine fh rfl rfl rfl rfl rfl c a TV (λu q V=>?_);obtain rfl:=V.int;refine Ve ?_;refine fX (u:=Ub (o[f] -1)) (yv:=o[f] -1) rfl rfl rfl rfl c a TV TV T7 (λw6 q ho6 D=>?_);have M:Ext U w6:=N.grown D N.size (λb hb=>(c.lt b hb).1);have I:=p.keptN D (λg hg e=>by have:=(p.lt g hg).1;have:=hgo g e.symm;omega);refine Ui ?_;exact m5 (i+1,o.set f (o[f] -1)) TJ ⟨C,by simpa using r,KU l TK TK TK,Y (.inl h1),ho6,I,M,Rr z5 D.size⟩ TP
  .rw[show(O==(f:Int))=false by simpa using h1];by_cases h2:O<0
   .refine Vc ?_;rw[Tc h2];refine U9 ?_;refine fh rfl rfl rfl rfl rfl c a TV (λu q V=>?_);obtain rfl:=V.int;refine Ug ?_;apply ld rfl<;>intro h3
    .have h3:o[f]>0:=by simpa using h3
     refine U4 ?_;refine fh rfl rfl rfl rfl rfl c a TV (λu q V=>?_);obtain rfl:=V.int;refine Ve ?_;refine fX (u:=Ub (o[f] -1)) (yv:=o[f] -1) rfl rfl rfl rfl c a TV TV T7 (λw6 q ho6 D=>?_);have M:Ext U w6:=N.grown D N.size (λb hb=>(c.lt b hb).1);have I:=p.keptN D (λg hg e=>by have:=(p.lt g hg).1;have:=hgo g e.symm;omega);refine Ui ?_;exact m5 (i+1,o.set f (o[f] -1)) TJ ⟨C,by simpa using r,KU l TK TK TK,Y (.inr ⟨h2,h3⟩),ho6,I,M,Rr z5 D.size⟩ TP
    .have h3:¬o[f]>0:=by simpa using h3
     refine US ?_;exact m5 (i+1,o) TJ ⟨C,r,Z,hno (λh=>h.elim h1 (λh=>h3 h.2)),c,p,N,z5⟩ TP
   .refine Vc ?_;rw[Ta h2];refine UA ?_;exact m5 (i+1,o) TJ ⟨C,r,Z,hno (λh=>h.elim h1 (λh=>h2 h.1)),c,p,N,z5⟩ TP
 obtain rfl:i=ins.length:=by simp at h;omega
 rw[OZ,Kt]at hT;rw[<-hT];clear hT exo hxs p;refine U1 ?_;refine eK (dl w5 (hs.up hE5) (hf.up hE5) (n:Int)) ?_;rintro _ w6 ⟨x,rfl,B,M⟩;rw[X,Tn rfl]at B;rw[X];have c:=c.extN M;have M:=N.trans M;obtain⟨yo,yc,rfl,_⟩:=B.oldN.sl;have houts:=λx (hx:x∈D2 fl (n:Int))=>outsP_mem.1 hx;generalize D2 fl (n:Int)=outs at*;have z:=hd3.ext M;have A:=hd5.ext M;generalize hR:FN s3 0 o outs=R;have hRk:FN s3 0 o (outs.drop 0)=R:=by rw[O1];exact hR
 have G:KR 30 o:=λj hj=>by have:=l j hj;omega
 refine Ut ?_;refine p8 (S:=Nat×List Int) (λt=>[(5,Uc w1.heap.size),(8,ov),(72,.slice yo outs.length yc),(73,Ub outs.length),(74,Ub t.1)])
  (λt w=>t.1<=outs.length/\t.2.length=m.length/\KR 30 t.2/\FN s3 t.1 t.2 (outs.drop t.1)=R/\Own w U.heap.size 3 dh ov t.2/\Own w w5.heap.size 3 dh (.slice yo outs.length yc) outs/\Ext U w) (λt=>outs.length -t.1)
  (0,o) TJ ⟨RU _,r,G,hRk,c,B,M⟩ ?_
 clear hR hRk G c B M l r A z hE5;rintro⟨k,o2⟩ w7 ⟨hk,J,l,hR,c,B,e7⟩;dsimp only at hk J l hR c e7⊢;have hE7:=VB e12 e7;have A:=hd5.ext e7;obtain⟨_,_,eyo,hys⟩:=B.oldN.sl;obtain⟨rfl,_,rfl⟩:=SV eyo;refine UR ?_;apply ld rfl<;>intro h
 .have K:k<outs.length:=by simp at h;omega
  obtain⟨f,ef,hlt,_⟩:=houts _ (PL K);have a:f<o2.length:=by omega
  have hbd:=l f a;have hbit:=jh (k:=k) q3.1 hs30;rw[OX K,FN,ef,Oy,tH a]at hR;refine UB ?_;refine e_ hys K ef TV (λq=>?_);refine Uy ?_;refine fZ (s:=k) rfl rfl rfl rfl TK (Ug ?_);rw[hbit];apply ld rfl<;>intro h1
  .have h1:je s3 k=1:=by simpa using h1
   rw[Tn h1]at hR;refine U4 ?_;refine fh rfl rfl rfl rfl rfl c a TV (λu q V=>?_);obtain rfl:=V.int;refine Vg ?_;refine fX (u:=Ub (o2[f]+1)) (yv:=o2[f]+1) rfl rfl rfl rfl c a TV TV T7 (λw8 q ho8 hg8=>?_);have e8:Ext U w8:=e7.grown hg8 e7.size (λb hb=>(c.lt b hb).1);have hoy8:=B.keptN hg8 (λg hg e=>by have:=(B.lt g hg).1;have:=hgo g e.symm;omega);have hE8:=VB e12 e8;have hfo8:f<(o2.set f (o2[f]+1)).length:=by simpa using a
   refine UR ?_;refine fh rfl rfl rfl rfl rfl ho8 hfo8 TV (λu q V=>?_);obtain rfl:=V.int;rw[PQ];refine Ug ?_;apply ld rfl<;>intro h2
   .have h2:o2[f]+1>9:=by simpa using h2
    rw[Tn h2]at hR;subst hR;refine Ud ?_;exact f0 ⟨_,rfl,r3,hE8⟩
   .have h2:¬o2[f]+1>9:=by simpa using h2
    rw[Tm h2]at hR;refine US ?_;exact m5 (k+1,o2.set f (o2[f]+1)) TJ ⟨K,by simpa using J,KU l TK TK TK,hR,ho8,hoy8,e8⟩ TP
  .have h1:¬je s3 k=1:=by simpa using h1
   rw[Tm h1]at hR;refine US ?_;exact m5 (k+1,o2) TJ ⟨K,J,l,hR,c,B,e7⟩ TP
 .obtain rfl:k=outs.length:=by simp at h;omega
  rw[OZ,FN]at hR;subst hR;refine UF ?_;exact f0 ⟨_,rfl,c.low z2,hE7⟩
def KT(h:m.any KQ=false):KR 0 m:=λk a=>by have:=OD.1 h _ (PL a);unfold KQ at this;simp at this;omega
def bM(w0:World){so fo mo:Option Addr}{sc fc mc:Nat}{ns:List cK}{fl:List cJ}(l:Sl w0 (dk w0) so sc ns)(hf:Sl w0 (dk w0) fo fc fl)(p:Sl w0 (dk w0) mo mc m)(k:Int):
  Rt Vy 133 [FC so sc fo fc ns.length fl.length,.slice mo m.length mc,Ub k].toArray w0 λv w'=>∃x,v=.tuple ⟨[x,Ub (rt (ns,fl) m k).2]⟩/\Own w' w0.heap.size 3 dh x (rt (ns,fl) m k).1/\Ext w0 w':=by
 refine dT func133 ntmps133 rfl rfl ?_;have a:=p7 w0;refine UZ ?_;refine eH λQ f S=>?_
 have a:=a.trans S;refine UD ?_;refine eK (kf Q (l.up a) (hf.up a) (p.up a)) ?_;rintro _ T ⟨x,rfl,c,O⟩
 have f:=f.ext O;have a:=a.trans O;unfold rt;by_cases r:kO (ns,fl) m=0
 case neg=>
  have F:(kO (ns,fl) m != 0)=true:=by simpa using r
  rw[Tn r];refine Ux ?_;rw[F];refine U0 ?_;exact f0 ⟨_,rfl,r3,a⟩
 obtain⟨C,o,t,N⟩:=kP r;have H:=KT t;rw[Tn r]at c
 rw[Tm (by simp[r]),r];dsimp only at o
 obtain⟨xo,xc,rfl,d⟩:=c.oldN.sl;clear c;refine Uv ?_;by_cases z:k<0\/k>=(JU (ns,fl)).length
 .rw[Tn z]
  by_cases K:k<0
  .rw[Tc K]
   refine U0 ?_;exact f0 ⟨_,rfl,r3,a⟩
  .rw[Ta K]
   refine Uz ?_;rw[Tc (show k>=((JU (ns,fl)).length:Int) from z.resolve_left K)];refine U0 ?_;exact f0 ⟨_,rfl,r3,a⟩
 rw[Tm z];have J:¬k<0:=λh=>z (.inl h)
 have I:¬k>=((JU (ns,fl)).length:Int):=λh=>z (.inr h)
 rw[Ta J];refine Uz ?_;rw[Ta I];obtain⟨i,rfl⟩:=Om (show 0<=k by omega);have e:i<(JU (ns,fl)).length:=by omega
 obtain⟨n,hn,y⟩:=stepsP_mem.1 (PL e);rw[Oy,JV e];have B:=λw l hf p=>o7 w (so:=so) (fo:=fo) (mo:=mo) (sc:=sc) (fc:=fc) (mc:=mc) l hf p C o hn y
 have A:=λw l hf p=>rD w (so:=so) (fo:=fo) (mo:=mo) (sc:=sc) (fc:=fc) (mc:=mc) l hf p C o H hn y
 obtain⟨s,b⟩:∃s,s=(JU (ns,fl))[i]:=⟨_,rfl⟩;rw[<-b]at B A⊢
 refine U7 ?_;refine dz rfl rfl rfl rfl rfl T0 d e TV (λu q E=>?_);rw[E.step,<-b];refine VX rfl rfl rfl (λw G=>B w (l.up (a.trans G)) (hf.up (a.trans G)) (p.up (a.trans G))) ?_;refine U_ ?_;refine VD (λj M=>?_);have f:=f.ext M;have a:=a.trans M;have d:=d.up M;clear E;refine UQ ?_;apply ld rfl<;>intro h
 .have h:o6 (ns,fl) m s=false:=by simpa using h
  rw[Tn h];refine Ud ?_;exact f0 ⟨_,rfl,r3,a⟩
 have h:¬o6 (ns,fl) m s=false:=by simpa using h
 rw[Tm h];have hd:=mm j;have L:∀x,(λx=>Ext j x) x->Ext j x:=λ_ h=>h
 have g:=a.trans hd;refine Uw ?_;refine aG (λx=>Ext j x) [Wr 0,Wr 1,Wr 2,Wr 3,Wr 4,Wr 5,Ws 6,Wr 7,Wr 8,Wr 9,Wr 10] mixed TL (mm j) ?_;refine Vm ?_;refine cd (α:=cO) (k:=i) L rfl rfl rfl rfl rfl rfl rfl T0 d e TV (λu q E=>?_);rw[E.step,<-b];skip;refine cy rfl (eK (A (drew j) (l.up g) (hf.up g) (p.up g)) ?_);rintro _ P ⟨x,rfl,c,R⟩
 have D:Ext j P:=hd.trans R;refine p0 (a8 D ?_);refine Vr ?_;refine UQ ?_;exact f0 ⟨_,rfl,c.low g.size,a.trans D⟩

section
variable {w w':World}{B:Nat}{mv lv:Value}{vs:List Raw}{xs:List (List Int)}{ks:List Int}
end
def jR{p:cM}:(jQ p m).length<=60:=by
 unfold jQ;split
 .rename_i h;obtain⟨_,_,_,a⟩:=kP h;unfold jT jU;rw[P4];have:=P3 (λi=>o6 p m ((JU p).getD i (0,0,0))) (range (JU p).length);rw[P7]at this;omega
 .simp
def tI{l:List Int}{i j:Nat}{v:Int}(h:i<l.length):(l.set i v).getD j 0=if i=j then v else l.getD j 0:=by
 simp only[Pl,Py];split
 .subst_vars;simp[h]
 .rfl
def yG(N:Nat)(l:List Int):Prop:=∀x∈l,0<=x/\x<N
def yH{fl:List cJ}{n:Int}:yG fl.length (yV fl n):=λx a=>by obtain⟨j,rfl,h,_⟩:=insP_mem.1 a;omega
def yI{fl:List cJ}{n:Int}:yG fl.length (D2 fl n):=λx a=>by obtain⟨j,rfl,h,_⟩:=outsP_mem.1 a;omega
def D3{fl:List cJ}{n:Int}:(D2 fl n).Nodup:=by unfold D2 D4;rw[List.Nodup,QO];exact(QH.filter _).imp λa e=>a TK
section
variable {s:cO}
theorem Kv:∀(l:List Int) (m:List Int),(Kt s m l).length=m.length
 |[],m=>rfl
 |f::r,m=>by rw[Kt,Kv r,P_]
theorem KC{m a:List Int}{f:Int}(h:m.getD f.toNat 0=a.getD f.toNat 0):KB m s f=KB a s f:=by unfold KB;rw[h]
theorem Ku:∀(l:List Int) (m:List Int),yG m.length l->l.Nodup->∀j:Nat,(Kt s m l).getD j 0=if(j:Int)∈l then KB m s (j:Int)else m.getD j 0
 |[],m,_,_,j=>by simp[Kt]
 |f::r,m,b,hd,j=>by
  rw[QG]at hd;have hf:=b f TO;have c:=Ku r (m.set f.toNat (KB m s f)) (λx d=>by rw[P_];exact b x (by simp[d])) hd.2 j;rw[Kt,c,tI TK];by_cases e:f.toNat=j
  .have ej:(j:Int)=f:=by omega
   rw[Tn e,ej,Tm hd.1,Tn TO]
  .have ej:¬(j:Int)=f:=by omega
   rw[Tm e];by_cases a:(j:Int)∈r
   .rw[Tn a,Tn (by simp[a])];exact KC (by rw[Oy,tI TK,Tm e])
   .rw[Tm a,Tm (by simp[a,ej])]
end
def FP{n:Int}:∀(l:List Int) (k:Nat) (m a:List Int),FN n k m l=some a->a.length=m.length
 |[],k,m,a,h=>by rw[FN]at h;injection h with h;rw[h]
 |f::r,k,m,a,h=>by
  rw[FN]at h;split at h
  .split at h
   .cases h
   .rw[FP r _ _ _ h,P_]
  .exact FP r _ _ _ h
def ja(n:Int):Nat->List Int->Int->Int
 |_,[],_=>0
 |k,f::r,j=>if f=j then je n k else ja n (k+1) r j
def jd{n:Int}:∀(l:List Int) (k:Nat) (j:Int),j∉l->ja n k l j=0
 |[],k,j,_=>rfl
 |f::r,k,j,h=>by rw[ja,Tm (λe=>h (by simp[e])),jd r _ j (λa=>h (by simp[a]))]
def jf(n:Int)(k:Nat):je n k=0\/je n k=1:=by unfold je;omega
def FO{n:Int}:∀(l:List Int) (k:Nat) (m:List Int),yG m.length l->l.Nodup->
  ((∀x∈l,m.getD x.toNat 0+ja n k l x<=9\/ja n k l x=0)->∃d,FN n k m l=some d/\∀j:Nat,d.getD j 0=m.getD j 0+ja n k l (j:Int))/\
  (∀d,FN n k m l=some d->∀x∈l,m.getD x.toNat 0+ja n k l x<=9\/ja n k l x=0)
 |[],k,m,_,_=>⟨λ_=>⟨m,rfl,λj=>by simp[ja]⟩,λ_ _ x a=>by cases a⟩
 |f::r,k,m,u,hd=>by
  rw[QG]at hd;have hf:=u f TO;have o:yG m.length r:=λx a=>u x (by simp[a]);have i:ja n k (f::r) f=je n k:=by rw[ja,Tn rfl]
  have c:∀x,x≠f->ja n k (f::r) x=ja n (k+1) r x:=λx h=>by rw[ja,Tm (λe=>h e.symm)]
  have b:∀x∈r,x≠f:=λx a e=>hd.1 (e▸a);obtain p|p:=jf n k
  .have q:=FO (n:=n) r (k+1) m o hd.2;have t:FN n k m (f::r)=FN n (k+1) m r:=by rw[FN,Tm TK]
   rw[t];refine⟨λh=>?_,λd h x a=>?_⟩
   .obtain⟨d,h1,h2⟩:=q.1 (λx a=>by have:=h x (by simp[a]);rwa[c x (b x a)]at this);refine⟨d,h1,λj=>?_⟩;rw[h2 j];by_cases e:(j:Int)=f
    .rw[e,i,p,jd r _ f hd.1]
    .rw[c _ e]
   .obtain rfl|a:=Qo.1 a
    .right;rw[i,p]
    .rw[c x (b x a)];exact q.2 d h x a
  .have g:∀x:Int,0<=x->x≠f->(m.set f.toNat (m.getD f.toNat 0+1)).getD x.toNat 0=m.getD x.toNat 0:=λx w h=>by rw[tI TK,Tm TK]
   have q:=FO (n:=n) r (k+1) (m.set f.toNat (m.getD f.toNat 0+1)) (λx a=>by rw[P_];exact o x a) hd.2;have t:FN n k m (f::r)=if m.getD f.toNat 0+1>9 then none else FN n (k+1) (m.set f.toNat (m.getD f.toNat 0+1)) r:=by rw[FN,Tn p]
   rw[t];refine⟨λh=>?_,λd h x a=>?_⟩
   .have v:¬m.getD f.toNat 0+1>9:=by have:=h f TO;rw[i,p]at this;omega
    rw[Tm v];obtain⟨d,h1,h2⟩:=q.1 (λx a=>by have:=h x (by simp[a]);rw[c x (b x a)]at this;rwa[g x (o x a).1 (b x a)]);refine⟨d,h1,λj=>?_⟩;rw[h2 j];by_cases e:(j:Int)=f
    .rw[tI TK,Tn TK,e,i,p,jd r _ f hd.1];have:f.toNat=j:=by omega
     rw[this];omega
    .have:=g (j:Int) TK e;rw[Oy]at this;rw[c _ e,this]
   .split at h
    .cases h
    .rename_i v;obtain rfl|a:=Qo.1 a
     .left;rw[i,p];omega
     .rw[c x (b x a)];have:=q.2 d h x a;rwa[g x (o x a).1 (b x a)]at this
end Go.Proofs.YtfpjecjadlgdcaaGreatDoor
