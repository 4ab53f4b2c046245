import Derived.Test.YtfpjecjadlgdcaaGreatDoorPtTopBounds3
set_option linter.unusedVariables false
set_option linter.unusedSimpArgs false
set_option linter.defProp false
namespace Go.Proofs.YtfpjecjadlgdcaaGreatDoor
open Go.RowKit
theorem mn(w:World){F:Nat→Prop}(hF:∀b,F b→b<w.heap.size)(k:Int){v:Value}{t:Ltl}(h:Rd w F v t):Rt Tryz.prog 167 [Py k,v].toArray w fun v w'=>Rd w' (da F w w') v (.mk k 0 [t]:Ltl)∧Ext w w':=by
 obtain⟨ao,cap,rfl,I⟩:=Rd.ltl h;refine dE Tryz.func167 Tryz.ntmps167 rfl rfl ?_;refine PB ?_;refine dX rfl rfl rfl fun A d f=>?_
 refine WL.alloc rfl rfl (fun l x j=>?_);have H:=d.ext j;have a:=f.trans j;refine Q4 ?_;have E:Rd l F (ym t.k t.n ao t.kids.length cap) t:=Rd.mono h (fun b d=>a.block b (hF b d)) Pl;have m:w.heap.size≤l.heap.size:=a.size;have D:=x.lt;have B:w.heap.size≤A.heap.size:=f.size;refine WL.lit (F:=F) (ys:=[t]) rfl rfl rfl rfl rfl (.cons E .nil) (by show 1*3≤16777216;decide) (fun b d=>MQ (hF b d) m) (fun z y p=>?_);have e:Ext l z:=(Ext.refl l).grown p Pu Pn;have o:=x.ext e;have c:=a.trans e;refine WL.build rfl rfl rfl rfl ?_;refine WL.st rfl rfl rfl o rfl rfl Pr (fun s n i=>?_);have r:Ext w s:=c.grown i c.size (fun g q=>by cases q;exact f.size);have ho4:=y.kept i (fun g q=>by have:=(y.lt g q).1;simp;omega) (fun b d=>⟨MQ (hF b d) c.size,by have:b<w.heap.size:=hF b d;simp;omega⟩);obtain⟨uo,uc,G,C⟩:=(ho4.rd.mono (F':=da F w s) Pq (fun b d=>d.elim .inl fun u=>.inr ⟨MN a.size (ho4.lt b u).1,(ho4.lt b u).2.1⟩)).sl;obtain⟨rfl,_,rfl⟩:=Oi G;refine PO ?_;exact bg rfl rfl n rfl ⟨Rd.mkLtl (kids:=[t]) C,r⟩
theorem mw(w:World){F:Nat→Prop}(hF:∀b,F b→b<w.heap.size)(k:Int){v A:Value}{t i:Ltl}(h:Rd w F v t)(E:Rd w F A i):Rt Tryz.prog 233 [Py k,v,A].toArray w fun v w'=>Rd w' (da F w w') v (.mk k 0 [t,i]:Ltl)∧Ext w w':=by
 obtain⟨ao,cap,rfl,P⟩:=Rd.ltl h;obtain⟨ao',cap',rfl,M⟩:=Rd.ltl E;refine dF Tryz.func233 Tryz.ntmps233 rfl rfl ?_;refine PB ?_;refine dX rfl rfl rfl fun w0 f y=>?_
 refine dX rfl rfl rfl fun H d c=>?_
 have f:=f.ext c;have c:=y.trans c;refine WL.alloc rfl rfl (fun m C l=>?_);have f:=f.ext l;have O:=d.ext l;have a:=c.trans l;refine Q4 ?_;have L:Rd m F (ym t.k t.n ao t.kids.length cap) t:=Rd.mono h (fun b d=>a.block b (hF b d)) Pl;have r:Rd m F (ym i.k i.n ao' i.kids.length cap') i:=Rd.mono E (fun b d=>a.block b (hF b d)) Pl;have o:w.heap.size≤m.heap.size:=a.size;have K:=C.lt;have I:w.heap.size≤H.heap.size:=c.size;refine WL.lit (F:=F) (ys:=[t,i]) rfl rfl rfl rfl rfl (.cons L (.cons r .nil)) (by show 2*3≤16777216;decide) (fun b d=>MQ (hF b d) o) (fun G D s=>?_);have j:Ext m G:=(Ext.refl m).grown s Pu Pn;have q:=C.ext j;have e:=a.trans j;refine WL.build rfl rfl rfl rfl ?_;refine WL.st rfl rfl rfl q rfl rfl Pr (fun z p n=>?_);have x:Ext w z:=e.grown n e.size (fun g u=>by cases u;exact c.size);have ho4:=D.kept n (fun g u=>by have:=(D.lt g u).1;simp;omega) (fun b d=>⟨MQ (hF b d) e.size,by have:b<w.heap.size:=hF b d;simp;omega⟩);obtain⟨uo,uc,N,J⟩:=(ho4.rd.mono (F':=da F w z) Pq (fun b d=>d.elim .inl fun B=>.inr ⟨MN a.size (ho4.lt b B).1,(ho4.lt b B).2.1⟩)).sl;obtain⟨rfl,_,rfl⟩:=Oi N;refine PO ?_;exact bg rfl rfl p rfl ⟨Rd.mkLtl (kids:=[t,i]) J,x⟩
theorem mp(w:World){B:Nat}(c:B≤w.heap.size)(k:Int){v:Value}{t:Ltl}(h:GL B w v t):Rt Tryz.prog 167 [Py k,v].toArray w fun u w'=>GL B w' u (.mk k 0 [t])∧Ext w w':=
 (mn w (fun b a=>a.2) k h).mono fun u w' h=>⟨h.1.wk (GL.plus c h.2),h.2⟩
theorem mh(w:World){F:Nat→Prop}(hF:∀b,F b→b<w.heap.size){v:Value}{t:Ltl}(h:Rd w F v t):Rt Tryz.prog 165 [v].toArray w fun u w'=>Rd w' (da F w w') u (.mk 4 0 [t]:Ltl)∧Ext w w':=by
 obtain⟨ao,cap,rfl,s⟩:=Rd.ltl h;refine dD Tryz.func165 Tryz.ntmps165 rfl rfl ?_;refine PB ?_;refine dX rfl rfl rfl fun o f e=>?_
 refine WL.alloc rfl rfl (fun n m d=>?_);have f:=f.ext d;have g:=e.trans d;have a:w.heap.size≤o.heap.size:=e.size;have j:=m.lt;refine PJ ?_;refine WL.call rfl rfl rfl (mn n (fun b f=>MQ (hF b f) g.size) 4 (Rd.up0 h g hF)) ?_;rintro u r ⟨l,k⟩
 obtain⟨uo,uc,rfl,p⟩:=Rd.ltl l;refine WL.st rfl rfl rfl (m.ext k) rfl rfl Pr (fun q i c=>?_);refine PO ?_;exact bg rfl rfl i rfl ⟨o9 l c hF a j g.size k.size,Do (g.trans k) c a⟩
theorem mj(w:World){B:Nat}(c:B≤w.heap.size){v:Value}{t:Ltl}(h:GL B w v t):Rt Tryz.prog 165 [v].toArray w fun u w'=>GL B w' u (.mk 4 0 [t])∧Ext w w':=
 (mh w (fun b a=>a.2) h).mono fun u w' h=>⟨h.1.wk (GL.plus c h.2),h.2⟩
theorem ma(w:World){F:Nat→Prop}(hF:∀b,F b→b<w.heap.size){v:Value}{t:Ltl}(h:Rd w F v t):Rt Tryz.prog 169 [v].toArray w fun u w'=>Rd w' (da F w w') u (.mk 11 0 [t]:Ltl)∧Ext w w':=by
 obtain⟨ao,cap,rfl,s⟩:=Rd.ltl h;refine dD Tryz.func169 Tryz.ntmps169 rfl rfl ?_;refine PB ?_;refine dX rfl rfl rfl fun o f e=>?_
 refine WL.alloc rfl rfl (fun n m d=>?_);have f:=f.ext d;have g:=e.trans d;have a:w.heap.size≤o.heap.size:=e.size;have j:=m.lt;refine PJ ?_;refine WL.call rfl rfl rfl (mn n (fun b f=>MQ (hF b f) g.size) 11 (Rd.up0 h g hF)) ?_;rintro u r ⟨l,k⟩
 obtain⟨uo,uc,rfl,p⟩:=Rd.ltl l;refine WL.st rfl rfl rfl (m.ext k) rfl rfl Pr (fun q i c=>?_);refine PO ?_;exact bg rfl rfl i rfl ⟨o9 l c hF a j g.size k.size,Do (g.trans k) c a⟩
theorem md(w:World){B:Nat}(c:B≤w.heap.size){v:Value}{t:Ltl}(h:GL B w v t):Rt Tryz.prog 169 [v].toArray w fun u w'=>GL B w' u (.mk 11 0 [t])∧Ext w w':=
 (ma w (fun b a=>a.2) h).mono fun u w' h=>⟨h.1.wk (GL.plus c h.2),h.2⟩
theorem me(w:World){F:Nat→Prop}(hF:∀b,F b→b<w.heap.size){v n:Value}{t o:Ltl}(h:Rd w F v t)(r:Rd w F n o):Rt Tryz.prog 171 [v,n].toArray w fun u w'=>Rd w' (da F w w') u (.mk 5 0 [t,o]:Ltl)∧Ext w w':=by
 obtain⟨ao,cap,rfl,C⟩:=Rd.ltl h;obtain⟨ao',cap',rfl,z⟩:=Rd.ltl r;refine dE Tryz.func171 Tryz.ntmps171 rfl rfl ?_;refine PB ?_;refine dX rfl rfl rfl fun w0 c l=>?_
 refine dX rfl rfl rfl fun x i a=>?_
 have c:=c.ext a;have a:=l.trans a;refine WL.alloc rfl rfl (fun s q d=>?_);have c:=c.ext d;have i:=i.ext d;have g:=a.trans d;have e:w.heap.size≤x.heap.size:=a.size;have k:=q.lt;refine PJ ?_;refine WL.call rfl rfl rfl (mw s (F:=F) (fun b i=>MQ (hF b i) g.size) 5 (Rd.up0 h g hF) (Rd.up0 r g hF)) ?_;rintro u B ⟨p,m⟩
 obtain⟨uo,uc,rfl,y⟩:=Rd.ltl p;refine WL.st rfl rfl rfl (q.ext m) rfl rfl Pr (fun A j f=>?_);refine PO ?_;exact bg rfl rfl j rfl ⟨o9 p f hF e k g.size m.size,Do (g.trans m) f e⟩
theorem mf(w:World){B:Nat}(e:B≤w.heap.size){v a:Value}{t c:Ltl}(h:GL B w v t)(f:GL B w a c):Rt Tryz.prog 171 [v,a].toArray w fun u w'=>GL B w' u (.mk 5 0 [t,c])∧Ext w w':=
 (me w (F:=fun b=>B≤b∧b<w.heap.size) (fun b d=>d.2) h f).mono fun u w' h=>⟨h.1.wk (GL.plus e h.2),h.2⟩
theorem mq(w:World){F:Nat→Prop}(hF:∀b,F b→b<w.heap.size){v n:Value}{t o:Ltl}(h:Rd w F v t)(r:Rd w F n o):Rt Tryz.prog 166 [v,n].toArray w fun u w'=>Rd w' (da F w w') u (.mk 6 0 [t,o]:Ltl)∧Ext w w':=by
 obtain⟨ao,cap,rfl,C⟩:=Rd.ltl h;obtain⟨ao',cap',rfl,z⟩:=Rd.ltl r;refine dE Tryz.func166 Tryz.ntmps166 rfl rfl ?_;refine PB ?_;refine dX rfl rfl rfl fun w0 c l=>?_
 refine dX rfl rfl rfl fun x i a=>?_
 have c:=c.ext a;have a:=l.trans a;refine WL.alloc rfl rfl (fun s q d=>?_);have c:=c.ext d;have i:=i.ext d;have g:=a.trans d;have e:w.heap.size≤x.heap.size:=a.size;have k:=q.lt;refine PJ ?_;refine WL.call rfl rfl rfl (mw s (F:=F) (fun b i=>MQ (hF b i) g.size) 6 (Rd.up0 h g hF) (Rd.up0 r g hF)) ?_;rintro u B ⟨p,m⟩
 obtain⟨uo,uc,rfl,y⟩:=Rd.ltl p;refine WL.st rfl rfl rfl (q.ext m) rfl rfl Pr (fun A j f=>?_);refine PO ?_;exact bg rfl rfl j rfl ⟨o9 p f hF e k g.size m.size,Do (g.trans m) f e⟩
theorem mr(w:World){B:Nat}(e:B≤w.heap.size){v a:Value}{t c:Ltl}(h:GL B w v t)(f:GL B w a c):Rt Tryz.prog 166 [v,a].toArray w fun u w'=>GL B w' u (.mk 6 0 [t,c])∧Ext w w':=
 (mq w (F:=fun b=>B≤b∧b<w.heap.size) (fun b d=>d.2) h f).mono fun u w' h=>⟨h.1.wk (GL.plus e h.2),h.2⟩
theorem my(w:World){F:Nat→Prop}(hF:∀b,F b→b<w.heap.size){v n:Value}{t o:Ltl}(h:Rd w F v t)(r:Rd w F n o):Rt Tryz.prog 170 [v,n].toArray w fun u w'=>Rd w' (da F w w') u (.mk 8 0 [t,o]:Ltl)∧Ext w w':=by
 obtain⟨ao,cap,rfl,C⟩:=Rd.ltl h;obtain⟨ao',cap',rfl,z⟩:=Rd.ltl r;refine dE Tryz.func170 Tryz.ntmps170 rfl rfl ?_;refine PB ?_;refine dX rfl rfl rfl fun w0 c l=>?_
 refine dX rfl rfl rfl fun x i a=>?_
 have c:=c.ext a;have a:=l.trans a;refine WL.alloc rfl rfl (fun s q d=>?_);have c:=c.ext d;have i:=i.ext d;have g:=a.trans d;have e:w.heap.size≤x.heap.size:=a.size;have k:=q.lt;refine PJ ?_;refine WL.call rfl rfl rfl (mw s (F:=F) (fun b i=>MQ (hF b i) g.size) 8 (Rd.up0 h g hF) (Rd.up0 r g hF)) ?_;rintro u B ⟨p,m⟩
 obtain⟨uo,uc,rfl,y⟩:=Rd.ltl p;refine WL.st rfl rfl rfl (q.ext m) rfl rfl Pr (fun A j f=>?_);refine PO ?_;exact bg rfl rfl j rfl ⟨o9 p f hF e k g.size m.size,Do (g.trans m) f e⟩
theorem mz(w:World){B:Nat}(e:B≤w.heap.size){v a:Value}{t c:Ltl}(h:GL B w v t)(f:GL B w a c):Rt Tryz.prog 170 [v,a].toArray w fun u w'=>GL B w' u (.mk 8 0 [t,c])∧Ext w w':=
 (my w (F:=fun b=>B≤b∧b<w.heap.size) (fun b d=>d.2) h f).mono fun u w' h=>⟨h.1.wk (GL.plus e h.2),h.2⟩
abbrev bS(w:World)(t:Ltl):Value→World→Prop:=fun v w'=>GL w.heap.size w' v t∧Ext w w'
theorem Rt.low{P:Program}{f:FuncId}{args:Array Value}{w:World}{t:Ltl}{B:Nat}(h:Rt P f args w (bS w t))(a:B≤w.heap.size):Rt P f args w fun v w'=>GL B w' v t∧Ext w w':=h.mono fun v w' h=>⟨h.1.low a,h.2⟩
theorem FnV.low{P:Program}{fv:Value}{args:List Value}{w:World}{t:Ltl}{B:Nat}(h:FnV P fv args w (bS w t))(a:B≤w.heap.size):FnV P fv args w fun v w'=>GL B w' v t∧Ext w w':=h.mono fun v w' h=>⟨h.1.low a,h.2⟩

section
variable {w w':World}{F:Nat→Prop}{b:Nat}{pt:cH}{so:Option Addr}{sc:Nat}{lo:Option Addr}{lc:Nat}{s l:List Nat}{e:Nat}
end
section
variable {w w':World}{F:Nat→Prop}{b:Nat}{pt:cH}{so:Option Addr}{sc:Nat}{lo:Option Addr}{lc:Nat}{s l:List Nat}{e:Nat}
abbrev KS:=Nat×Bool×Bool×Bool
end
section
variable {w w':World}{F:Nat→Prop}{b:Nat}{pt:cH}{so:Option Addr}{sc:Nat}{lo:Option Addr}{lc:Nat}{s l:List Nat}{e:Nat}
end

section
variable {k p S q r c:Int}{s l:List Nat}
end
abbrev xF(n:Int):Ltl:=.mk 3 n []
abbrev zZ(a:Ltl):Ltl:=.mk 4 0 [a]
abbrev gh(a b:Ltl):Ltl:=.mk 5 0 [a,b]
abbrev AW(a b:Ltl):Ltl:=.mk 6 0 [a,b]
abbrev Ic(a b:Ltl):Ltl:=.mk 8 0 [a,b]
abbrev gg(a:Ltl):Ltl:=.mk 11 0 [a]
abbrev o7(a:Ltl):Ltl:=.mk 10 0 [a]
abbrev zj(a:Ltl):Ltl:=.mk 7 0 [a]
def iK(P:Int):Nat→Ltl
 |0=>gg (zZ (xF P))
 |n+1=>AW (Ic (zZ (xF P)) (gh (xF P) (zj (iK P n)))) (gg (zZ (xF P)))
def rn(k P S:Int)(n:Nat):Ltl:=
 if k=2 then gg (xF P)
 else if k=3 then o7 (xF P)
 else if k=5 then AW (Ic (zZ (xF P)) (xF S)) (gg (zZ (xF P)))
 else if k=6 then gg (AW (zZ (xF P)) (o7 (xF S)))
 else if k=4 then iK P n
 else gg (zZ (xF P))
def IE(weak:Bool)(a b:Ltl):Ltl:=if weak=true then AW (Ic a b) (gg a)else Ic a b
def iL(P R:Int)(weak:Bool):Nat→Ltl
 |0=>IE weak (zZ (xF P)) (xF R)
 |n+1=>IE weak (zZ (xF P)) (AW (xF R) (gh (gh (xF P) (zZ (xF R))) (zj (iL P R weak n))))
def Ij(k P S R:Int)(n:Nat)(weak:Bool):Ltl:=
 if k=2 then IE weak (xF P) (xF R)
 else if k=3 then Ic (zZ (xF R)) (gh (xF P) (zZ (xF R)))
 else if k=5 then IE weak (zZ (xF P)) (AW (xF S) (xF R))
 else if k=6 then IE weak (AW (zZ (xF P)) (Ic (zZ (xF R)) (gh (xF S) (zZ (xF R))))) (xF R)
 else if k=4 then iL P R weak n
 else IE weak (zZ (xF P)) (xF R)
def mA(pt:cH):Ltl:=
 let k:=pt.1
 let P:=pt.2.2.1
 let S:=pt.2.2.2.1
 let Q:=pt.2.2.2.2.1
 let R:=pt.2.2.2.2.2.1
 let c:=pt.2.2.2.2.2.2.toNat
 if pt.2.1=2 then AW (zZ (o7 (xF R))) (Ij k P S R c false)
 else if pt.2.1=3 then AW (gg (zZ (xF Q))) (Ic (zZ (xF Q)) (gh (xF Q) (rn k P S c)))
 else if pt.2.1=4 then gg (AW (zZ (gh (gh (xF Q) (zZ (xF R))) (o7 (xF R)))) (Ij k P S R c false))
 else if pt.2.1=5 then gg (AW (zZ (gh (xF Q) (zZ (xF R)))) (Ij k P S R c true))
 else rn k P S c
section
variable {L:Nat→Nat}{i:Nat}
end
inductive ME where
 |kn (i d:Nat) (v:Value)
 |fc (i d:Nat) (Φ:Value→(Nat→Nat)→World→Prop)
def ME.i:ME→Nat|.kn i _ _=>i|.fc i _ _=>i
def ME.d:ME→Nat|.kn _ d _=>d|.fc _ d _=>d
def ME.Φ:ME→Value→(Nat→Nat)→World→Prop|.kn _ _ v=>fun u _ _=>u=v|.fc _ _ Φ=>Φ
def dO(Φ:Value→(Nat→Nat)→World→Prop):Prop:=∀v γ a w w',Φ v γ w→Ext w w'→(∀b,b<w.heap.size→a b=γ b)→Φ v a w'
def ME.ok(m:ME):Prop:=dO m.Φ
def iW(γ:Nat→Nat)(w:World)(i:Nat):Nat→Nat:=fun b=>if b<w.heap.size then γ b else i
abbrev aN:=List ME
def pd:aN→Nat→Option ME
 |[],_=>none
 |m::r,j=>match Nat.beq m.i j with|true=>some m|false=>pd r j
theorem pg:∀{Γ:aN} {j:Nat} {m:ME},pd Γ j=some m→m∈Γ∧m.i=j
 |[],_,_,h=>by cases h
 |x::r,j,m,h=>by
  unfold pd at h
  split at h
  ·rename_i e
   injection h with h
   subst h;exact⟨by simp,MB e⟩
  ·obtain⟨h1,h2⟩:=pg h
   exact⟨by simp[h1],h2⟩
def mW(j:Nat):List Nat→Bool
 |[]=>false
 |x::r=>match Nat.beq x j with|true=>true|false=>mW j r
theorem mX{j:Nat}:∀{l:List Nat},mW j l=true→j∈l
 |[],h=>by cases h
 |x::r,h=>by
  unfold mW at h
  split at h
  ·rename_i e;rw[MB e];simp
  ·exact LO _ (mX h)
def AQ:List Edge→List Nat
 |[]=>[]
 |e::r=>match Region.binds .any e with
  |true=>(match mW e.on (AQ r)with|true=>AQ r|false=>e.on::AQ r)
  |false=>AQ r
def AO(o:Oper):List Nat:=AQ o.after.toList
theorem AR{j:Nat}:∀{l:List Edge},j∈AQ l→∃e∈l,Region.binds .any e=true∧e.on=j
 |[],h=>by cases h
 |e::r,h=>by
  have up:j∈AQ r→∃a∈e::r,Region.binds .any a=true∧a.on=j:=fun h=>by
   obtain⟨a,h1,h2⟩:=AR h;exact⟨a,by simp[h1],h2⟩
  unfold AQ at h
  split at h
  ·rename_i b
   split at h
   ·exact up h
   ·rcases LN.1 h with rfl|h
    ·exact⟨e,by simp,b,rfl⟩
    ·exact up h
  ·exact up h
theorem AS{o:Oper}{j:Nat}(h:j∈AO o):∃e∈o.after,Region.binds .any e=true∧e.on=j:=by
 obtain⟨e,h1,h2⟩:=AR h;exact⟨e,by simpa using h1,h2⟩
def kS(Γ:aN)(σ:Sg):List Nat→Sg
 |[]=>σ
 |j::r=>match pd Γ j with|some (.kn _ d v)=>(d,v)::kS Γ σ r|_=>kS Γ σ r
def ze(Γ:aN)(γ:Nat→Nat)(w:World)(k:Sg→Prop):List Nat→Sg→Prop
 |[],σ=>k σ
 |j::r,σ=>match pd Γ j with
  |some (.kn _ d v)=>ze Γ γ w k r ((d,v)::σ)
  |some (.fc _ d Φ)=>∀v,Φ v γ w→ze Γ γ w k r ((d,v)::σ)
  |none=>ze Γ γ w k r σ
def fU(γ:Nat→Nat)(w:World)(k:Sg→Prop):aN→Sg→Prop
 |[],σ=>k σ
 |.kn _ d v::r,σ=>fU γ w k r ((d,v)::σ)
 |.fc _ d Φ::r,σ=>∀v,Φ v γ w→fU γ w k r ((d,v)::σ)
theorem qb{n:Nat}{σ:Sg}{a:Act}{d:Nat}{v:Value}(h:Fr n σ a)(c:a.tmps.getD d undef=v):Fr n ((d,v)::σ) a:=by
 refine⟨h.size,h.defers,fun t u b=>?_⟩;by_cases e:d=t
 ·subst e;rw[pU]at b;cases b;exact c
 ·rw[pW e]at b;exact h.slot _ _ b
theorem wy{Γ:aN}{n:Nat}{σ:Sg}{a:Act}{γ:Nat→Nat}{w:World}(c:Fr n σ a):∀(l:List Nat),(∀j∈l,∀m∈Γ,m.i=j→m.Φ (a.tmps.getD m.d undef) γ w)→Fr n (kS Γ σ l) a
 |[],_=>c
 |j::r,h=>by
  have b:=wy (γ:=γ) (w:=w) c r (fun x e=>h x (by simp[e]));unfold kS;split
  ·rename_i i d v hf
   obtain⟨h1,h2⟩:=pg hf;exact qb b (h j O_ _ h1 h2)
  ·exact b
theorem zf{Γ:aN}{n:Nat}{a:Act}{γ:Nat→Nat}{w:World}{k:Sg→Prop}:∀(l:List Nat) (σ:Sg),ze Γ γ w k l σ→Fr n σ a→(∀j∈l,∀m∈Γ,m.i=j→m.Φ (a.tmps.getD m.d undef) γ w)→∃τ,Fr n τ a∧k τ
 |[],σ,h,b,_=>⟨σ,b,h⟩
 |j::r,σ,h,b,hΦ=>by
  unfold ze at h
  have c:∀x∈r,∀m∈Γ,m.i=x→m.Φ (a.tmps.getD m.d undef) γ w:=fun x e=>hΦ x (by simp[e])
  split at h
  ·rename_i i d v hf
   obtain⟨h1,h2⟩:=pg hf;exact zf r _ h (qb b (hΦ j O_ _ h1 h2)) c
  ·rename_i i d Φ hf
   obtain⟨h1,h2⟩:=pg hf;exact zf r _ (h _ (hΦ j O_ _ h1 h2)) (qb b rfl) c
  ·exact zf r _ h b c
theorem fV{n:Nat}{a:Act}{γ:Nat→Nat}{w:World}{k:Sg→Prop}:∀(Γ:aN) (σ:Sg),fU γ w k Γ σ→Fr n σ a→(∀m∈Γ,m.Φ (a.tmps.getD m.d undef) γ w)→∃τ,Fr n τ a∧k τ
 |[],σ,h,b,_=>⟨σ,b,h⟩
 |.kn i d v::r,σ,h,b,hΦ=>fV r _ h (qb b (hΦ (.kn i d v) O_)) (fun m c=>hΦ m (by simp[c]))
 |.fc i d Φ::r,σ,h,b,hΦ=>fV r _ (h _ (hΦ (.fc i d Φ) O_)) (qb b rfl) (fun m c=>hΦ m (by simp[c]))
def ab(γ:Nat→Nat)(w:World)(i d:Nat)(Φ:Value→(Nat→Nat)→World→Prop):Exit→Act→World→Prop:=
 fun x a w'=>x=.normal∧a.defers=[]∧Ext w w'∧Φ (a.tmps.getD d undef) (iW γ w i) w'
theorem a8{γ:Nat→Nat}{w w':World}{n i d:Nat}{σ:Sg}{v:Value}{Φ:Value→(Nat→Nat)→World→Prop}(c:fnd σ d=some v)(e:Ext w w')(hΦ:Φ v (iW γ w i) w'):EX (ab γ w i d Φ) .normal n σ w':=by
 unfold EX;intro a b
 exact⟨rfl,b.defers,e,by rw[b.slot _ _ c];exact hΦ⟩
theorem ML.en{P:Program}{l:List Oper}{γ:Nat→Nat}{w:World}{n i d:Nat}{σ:Sg}{Φ:Value→(Nat→Nat)→World→Prop}{R:Value→World→Prop}(hR:∀v w',R v w'→Φ v (iW γ w i) w'∧Ext w w':=by exact fun _ _ h=>h):
  ∀v w',R v w'→WL P l (ab γ w i d Φ) [] n ((d,v)::σ) w':=
 fun v w' h=>WL.nil (a8 pU (hR v w' h).2 (hR v w' h).1)
def OB(P:Program)(L:List Oper)(w0:World)(n:Nat)(σ:Sg)(Γ:aN)(o:Oper)(i d:Nat)(Φ:Value→(Nat→Nat)→World→Prop):Prop:=
 ∀w γ,Ext w0 w→∀a,Fr n σ a→(∀j∈AO o,∀m∈Γ,m.i=j→m.Φ (a.tmps.getD m.d undef) γ w)→
  (Region.wanted o (yielded L.toArray a.tmps)=true∧o.wp P a w (fun b w'=>Ext w w'∧∃v,b=a.put (some d) v∧Φ v (iW γ w i) w') cY)∨(Region.wanted o (yielded L.toArray a.tmps)=false∧Φ undef (iW γ w i) w)
def ML(P:Program)(L:List Oper)(w0:World)(n:Nat)(σ:Sg)(K:aN→Prop):Nat→aN→List Oper→Prop
 |_,Γ,[]=>K Γ
 |i,Γ,o::r=>∃m:ME,m.i=i∧o.dst=some m.d∧Nat.ble (m.d+1) n=true∧fnd σ m.d=none∧m.ok∧OB P L w0 n σ Γ o i m.d m.Φ∧ML P L w0 n σ K (i+1) (m::Γ) r
theorem fO{P:Program}{o:Oper}{i d n:Nat}{L:List Oper}{γ:Nat→Nat}{Φ:Value→(Nat→Nat)→World→Prop}{a:Act}{w:World}{τ:Sg}(hd:o.dst=some d)(hn:Nat.ble (d+1) n=true)(j:Fr n τ a)(l:Region.wanted o (yielded L.toArray a.tmps)=true)(h:WL P L (ab γ w i d Φ) [o] n τ w):
  o.wp P a w (fun p w'=>Ext w w'∧∃v,p=a.put (some d) v∧Φ v (iW γ w i) w') cY:=by
 unfold WL at h
 have h2:=h a j;simp only[wpList,l,OL]at h2
 have f:d<n:=MH hn;have b:∀v,(a.put (some d) v).tmps.getD d undef=v:=by
  intro v
  simp[Act.put,Array.getD,j.size,f]
 rcases h2 with h2|⟨_,m⟩
 ·unfold Oper.wp at*
  obtain⟨dst,op,ty,pos,af,g⟩:=o;simp only at hd
  subst hd;generalize (execOp a.eval _).run P w=r at*
  cases r with
  |ok k w'=>
   cases k<;>simp only[Oper.upon]at h2⊢<;>first
    |exact⟨h2.2.2.1,_,rfl,by have:=h2.2.2.2;rw[b]at this;exact this⟩
    |(exfalso;have:=h2.2.1;simp[Act.put]at this;done)
    |(refine J0 h2 (fun x w'' c=>?_)
      cases x
      ·exact⟨c.2.2.1,_,rfl,by have:=c.2.2.2;rw[b]at this;exact this⟩
      ·exact absurd c.1 O_
      ·obtain⟨_,_,e⟩:=c;exact absurd e.1 O_)
    |exact Rows.mono h2 (fun v w'' c=>⟨c.2.2.1,_,rfl,by have:=c.2.2.2;rw[b]at this;exact this⟩)
    |exact h2
  |halt x w'=>cases x<;>simp only[Oper.upon]at h2⊢<;>first|exact h2|exact absurd h2.1 O_
 ·obtain⟨_,_,e⟩:=m
  exact absurd e.1 O_
section
variable {P:Program}{L:List Oper}{w0:World}{n:Nat}{σ:Sg}{K:aN→Prop}{i d:Nat}{Γ:aN}{r:List Oper}{op:Op}{ty:TypeId}{pos:String}{af:Array Edge}{g:Option (Nat×Bool)}
theorem cR{v:Value}(j:gd L (kS Γ σ (AQ af.toList)) ⟨some d,op,ty,pos,af,g⟩=some true)(hn:Nat.ble (d+1) n=true)(hf:fnd σ d=none)
  (h:∀γ w,Ext w0 w→WL P L (ab γ w i d (fun u _ _=>u=v)) [⟨some d,op,ty,pos,af,g⟩] n (kS Γ σ (AQ af.toList)) w) (f:ML P L w0 n σ K (i+1) (.kn i d v::Γ) r):
  ML P L w0 n σ K i Γ (⟨some d,op,ty,pos,af,g⟩::r):=by
 refine⟨.kn i d v,rfl,rfl,hn,hf,fun u _ _ w w' h _ _=>h,fun w γ e a k hΦ=>.inl ?_,f⟩;have c:Fr n (kS Γ σ (AQ af.toList)) a:=wy k _ hΦ;have b:=qE c j;exact⟨b,fO rfl hn c b (h γ w e)⟩
theorem ML.fc(Φ:Value→(Nat→Nat)→World→Prop)(l:gd L (kS Γ σ (AQ af.toList)) ⟨some d,op,ty,pos,af,g⟩=some true)(hn:Nat.ble (d+1) n=true)(hf:fnd σ d=none)(f:dO Φ)
  (h:∀γ w,Ext w0 w→ze Γ γ w (fun τ=>WL P L (ab γ w i d Φ) [⟨some d,op,ty,pos,af,g⟩] n τ w) (AQ af.toList) σ) (j:ML P L w0 n σ K (i+1) (.fc i d Φ::Γ) r):
  ML P L w0 n σ K i Γ (⟨some d,op,ty,pos,af,g⟩::r):=by
 refine⟨.fc i d Φ,rfl,rfl,hn,hf,f,fun w γ e a c hΦ=>.inl ?_,j⟩;have k:Fr n (kS Γ σ (AQ af.toList)) a:=wy c _ hΦ;have b:=qE k l;obtain⟨τ,hτ,m⟩:=zf _ _ (h γ w e) c hΦ;exact⟨b,fO rfl hn hτ b m⟩
end
def ls(L:List Oper)(i:Nat):Option Nat:=match L[i]? with|some o=>o.dst|none=>none
def mark(L:List Oper):Nat→List Bool→List Bool
 |0,m=>m
 |i+1,m=>match m.getD i false,L[i]? with
  |true,some o=>mark L i ((AO o).foldl (fun m j=>m.set j true) m)
  |_,_=>mark L i m
def yX(L:List Oper)(k:Nat):Bool:=
 Region.noSelect L.toArray&&(List.range L.length).all (fun i=>match L[i]? with|some o=>(AO o).all fun j=>decide (j<i)|none=>false)&&
 (List.range k).all (fun i=>(List.range i).all fun j=>match ls L i,ls L j with|some x,some y=>!(Nat.beq x y)|_,_=>false)&&
 decide (k≤L.length)&&(List.range (L.length -k)).all fun p=>(List.range (k+p)).all fun i=>(mark L (k+p+1) ((List.replicate (k+p+1) false).set (k+p) true)).getD i false
theorem yM{L:List Oper}{S:Nat→Prop}(hS:∀i o,S i→L[i]?=some o→∀j∈AO o,S j):∀(i:Nat) (m:List Bool),(∀x,m.getD x false=true→S x)→∀x,(mark L i m).getD x false=true→S x
 |0,m,h,x,a=>h x a
 |i+1,m,h,x,a=>by
  unfold mark at a
  split at a
  ·rename_i o q p
   refine yM hS i _ ?_ x a;have c:=hS i o (h i q) p;have key:∀(l:List Nat) (m:List Bool),(∀j∈l,S j)→(∀x,m.getD x false=true→S x)→∀x,(l.foldl (fun m j=>m.set j true) m).getD x false=true→S x:=by
    intro l
    induction l with
    |nil=>intro m _ h x a;exact h x a
    |cons j l k=>
     intro m f h x a
     refine k _ (fun y b=>f y (by simp[b])) (fun y b=>?_) x a;by_cases e:j=y
     ·subst e;exact f _ O_
     ·refine h y ?_
      simpa[KT,K4,e]using b
   exact key _ _ c h
  ·exact yM hS i _ h x a
structure MG(P:Program)(L:List Oper)(w0:World)(n:Nat)(σ:Sg)(Γ:aN)(i:Nat)(o:Oper):Prop where
 ex:∃m∈Γ,∃Δ:aN,(∀x∈Δ,x∈Γ)∧m.i=i∧o.dst=some m.d∧Nat.ble (m.d+1) n=true∧fnd σ m.d=none∧OB P L w0 n σ Δ o i m.d m.Φ
theorem cS{P:Program}{L:List Oper}{w0:World}{n:Nat}{σ:Sg}{K:aN→Prop}:∀(r:List Oper) (i:Nat) (Γ:aN),ML P L w0 n σ K i Γ r→(∀m∈Γ,m.i<i∧m.ok)→(Γ.map (·.i)).Nodup→
  ∃Γ':aN,K Γ'∧(∀m∈Γ,m∈Γ')∧(∀m∈Γ',m.i<i+r.length∧m.ok)∧(Γ'.map (·.i)).Nodup∧∀j o,r[j]?=some o→MG P L w0 n σ Γ' (i+j) o
 |[],i,Γ,h,hΓ,hd=>⟨Γ,h,fun m h=>h,hΓ,hd,fun j o h=>by simp at h⟩
 |o::r,i,Γ,h,hΓ,hd=>by
  obtain⟨m,h1,h2,h3,h4,p,l,k⟩:=h;obtain⟨Γ',g1,g2,g3,g4,g5⟩:=cS r (i+1) (m::Γ) k (fun x a=>by
   rcases LN.1 a with rfl|a
   ·exact⟨by omega,p⟩
   ·have:=hΓ x a;exact⟨by omega,this.2⟩) (by
   rw[LG,L4];refine⟨fun f=>?_,hd⟩;obtain⟨x,a,e⟩:=LU.1 f;have:=(hΓ x a).1;omega)
  refine⟨Γ',g1,fun x a=>g2 x (by simp[a]),fun x a=>by have:=g3 x a;simp only[Lm];exact⟨by omega,this.2⟩,g4,fun j c b=>?_⟩;cases j with
  |zero=>
   simp at b
   subst b;exact⟨m,g2 m O_,Γ,fun x a=>g2 x (by simp[a]),h1,h2,h3,h4,l⟩
  |succ j=>
   have:=g5 j c (by simpa using b);rwa[show i+(j+1)=i+1+j by omega]
theorem yK{β γ:Type}{f:β→γ}{l:List β}(h:(l.map f).Nodup):∀x∈l,∀y∈l,f x=f y→x=y:=fun x b y a=>zX h x b y a
structure MInv(L:List Oper)(w0:World)(n:Nat)(σ:Sg)(Γ:aN)(k:Nat)(listed:Array Bool)(a:Act)(γ:Nat→Nat)(w:World):Prop where
 size:listed.size=L.length
 fr:Fr n σ a
 ext:Ext w0 w
 facts:∀m∈Γ,listed.getD m.i false=true→m.Φ (a.tmps.getD m.d undef) γ w
 closed:∀i o,listed.getD i false=true→L[i]?=some o→∀j∈AO o,listed.getD j false=true
 low:∀i,listed.getD i false=true→i<k
theorem listed_set{l:Array Bool}{i j:Nat}:(l.setIfInBounds i true).getD j false=true↔(j=i∧i<l.size)∨l.getD j false=true:=by
 simp only[Js,Jz];by_cases e:i=j
 ·subst e
  by_cases h:i<l.size
  ·simp[h]
  ·simp[h]
 ·rw[OJ e]
  constructor
  ·exact fun h=>.inr h
  ·rintro(⟨h,_⟩|h)
   ·exact absurd h.symm e
   ·exact h
theorem kM{l:Array Bool}{i:Nat}(h:l.getD i true=false):(l.setIfInBounds i true).toList.countP (fun b=>!b)+1=l.toList.countP fun b=>!b:=by
 have hi:i<l.size:=by
  rcases MR i l.size with a|a
  ·exact a
  ·simp[Js,Ju a]at h
 have e:l[i]=false:=by simpa[Js,hi]using h
 have h1:(l.setIfInBounds i true).toList=l.toList.set i true:=by simp
 rw[h1,Kt (by simpa using hi)];have h2:l.toList[i]'(by simpa using hi)=false:=by simpa using e
 rw[h2];have:0<l.toList.countP fun b=>!b:=Kr.2 ⟨false,h2▸Lc _,rfl⟩
 generalize (l.toList.countP fun b=>!b)=c at*
 simp only[JT,JU,OL,JP,OI];omega
theorem MInv.step{L:List Oper}{w0 w w':World}{n k i:Nat}{σ:Sg}{Γ:aN}{c:Array Bool}{a:Act}{γ:Nat→Nat}{m:ME}{o:Oper}{v:Value}(h:MInv L w0 n σ Γ k c a γ w)(H:m∈Γ)(z:m.i=i)(M:L[i]?=some o)(hn:Nat.ble (m.d+1) n=true)
  (hf:fnd σ m.d=none) (D:∀m∈Γ,m.ok) (y:(Γ.map (·.i)).Nodup) (G:∀x∈Γ,x.i≠i→x.d≠m.d) (I:Ext w w') (hΦ:m.Φ v (iW γ w i) w') (s:∀j∈AO o,c.getD j false=true) (N:i<k):MInv L w0 n σ Γ k (c.setIfInBounds i true) (a.put (some m.d) v) (iW γ w i) w':=by
 have A:m.d<n:=MH hn;have C:=h.fr.put (d:=some m.d) (v:=v) hn;refine⟨by simpa using h.size,⟨C.size,C.defers,fun t u B=>C.slot t u ?_⟩,h.ext.trans I,fun x p F=>?_,fun j J l f q hq=>?_,fun j l=>?_⟩
 ·show fnd ((m.d,v)::σ) t=some u
  rw[pW (fun e=>by subst e;rw[hf]at B;cases B)];exact B
 ·rcases listed_set.1 F with⟨e,_⟩|F
  ·obtain rfl:x=m:=yK y x p m H (by show x.i=m.i;rw[e,z])
   have:(a.put (some x.d) v).tmps.getD x.d undef=v:=by simp[Act.put,Array.getD,h.fr.size,A]
   rw[this];exact hΦ
  ·by_cases e:x.i=i
   ·obtain rfl:x=m:=yK y x p m H (by show x.i=m.i;rw[e,z])
    have:(a.put (some x.d) v).tmps.getD x.d undef=v:=by simp[Act.put,Array.getD,h.fr.size,A]
    rw[this];exact hΦ
   ·have E:=G x p e
    have:(a.put (some m.d) v).tmps.getD x.d undef=a.tmps.getD x.d undef:=by
     simp only[Act.put,Js];rw[JA (fun e=>E e.symm)]
    rw[this];exact D x p _ _ _ _ _ (h.facts x p F) I (fun b O=>OK O)
 ·rcases listed_set.1 l with⟨e,_⟩|l
  ·subst e
   rw[M]at f
   cases f
   exact listed_set.2 (.inr (s q hq))
  ·exact listed_set.2 (.inr (h.closed j J l f q hq))
 ·rcases listed_set.1 l with⟨e,_⟩|l
  ·omega
  ·exact h.low j l
theorem yP{o:Oper}{e:Edge}(a:e∈o.after)(b:Region.binds .any e=true):e.on∈AO o:=by
 unfold AO;have key:∀l:List Edge,e∈l→e.on∈AQ l:=by
  intro l
  induction l with
  |nil=>intro h;cases h
  |cons x l ih2=>
   intro h
   unfold AQ;rcases LN.1 h with rfl|h
   ·rw[b]
    dsimp only;split
    ·rename_i a;exact mX a
    ·simp
   ·split
    ·split
     ·exact ih2 h
     ·exact LO _ (ih2 h)
    ·exact ih2 h
 exact key _ (by simpa using a)
theorem AP{o:Oper}{a:Array Bool}(h:∀e∈o.after,Region.binds .any e=true→a.getD e.on false=true):∀j∈AO o,a.getD j false=true:=fun j b=>by
 obtain⟨e,h1,h2,rfl⟩:=AS b;exact h e h1 h2
theorem qY{l:Array Bool}{i:Nat}(hi:i<l.size):l.getD i true=l.getD i false:=by simp[Js,hi]
theorem fZ{L:List Oper}{i:Nat}{o:Oper}{a:Array Bool}(f:∀x,x<i→(mark L (i+1) ((List.replicate (i+1) false).set i true)).getD x false=true)(m:L[i]?=some o)(c:∀j∈AO o,a.getD j false=true)
  (h:∀i o,a.getD i false=true→L[i]?=some o→∀j∈AO o,a.getD j false=true):∀x,x<i→a.getD x false=true:=fun x b=>by
 have hS:=yM (L:=L) (S:=fun x=>x=i∨a.getD x false=true) (fun x l b ho2 j k=>by
  rcases b with rfl|b
  ·rw[m]at ho2;cases ho2;exact .inr (c j k)
  ·exact .inr (h x l b ho2 j k)) (i+1) ((List.replicate (i+1) false).set i true) (fun x b=>by
  by_cases e:i=x
  ·exact .inl e.symm
  ·exfalso
   simp[KT,K4,e,K3]at b
   split at b<;>simp at b)
 exact(hS x (f x b)).resolve_left O7
theorem GC{P:Program}{L:List Oper}{Q:Exit→Act→World→Prop}{k:Nat}(u:∀p,k≤p→p<L.length→∀x,x<p→(mark L (p+1) ((List.replicate (p+1) false).set p true)).getD x false=true)(c:∀i o,L[i]?=some o→∀j∈AO o,j<i):
  ∀(fuel p:Nat) (b:Array Bool) (a:Act) (w:World),k≤p→fuel+p=L.length→b.size=L.length→(∀i,b.getD i false=true↔i<p)→wpList P L.toArray (fun x a w=>x=.normal∧Q .normal a w) (L.drop p) a w→
   wpAny P .any L.toArray (fun x a w=>x=.normal∧Q .normal a w) fuel b a w
 |0,p,b,a,w,M,I,s,m,h=>by
  rw[List.drop_of_length_le O7]at h
  refine⟨List.eq_nil_iff_forall_not_mem.2 fun i hi=>?_,h⟩;obtain⟨y,oi,t,_⟩:=OM.1 hi;have B:i<L.length:=by have:=(Jv.1 t).1;simpa using this
  rw[qY O7,(m i).2 O7]at y
  cases y
 |fuel+1,p,b,a,w,M,I,s,m,h=>by
  have l:p<L.length:=by omega
  have F:∀i o,b.getD i false=true→L[i]?=some o→∀j∈AO o,b.getD j false=true:=fun i o hi D j N=>(m j).2 (by have:=c i o D j N;have:=(m i).1 hi;omega)
  have f:∀i,i∈Region.ready .any L.toArray b→i=p:=fun i hi=>by
   obtain⟨y,oi,t,E⟩:=OM.1 hi;have q:L[i]?=some oi:=by simpa using t
   have B:i<L.length:=(K0.1 q).1;rw[qY O7]at y
   have O:¬i<p:=fun v=>by rw[(m i).2 v]at y;cases y
   rcases MR p i with v|J
   ·have:=fZ (u i O7 B) q (AP E) F p v
    exact absurd ((m p).1 this) (MO _)
   ·omega
  have A:p∈Region.ready .any L.toArray b:=OM.2 ⟨by
   rw[qY O7];cases G:b.getD p false with
   |false=>rfl
   |true=>exact absurd ((m p).1 G) (MO _),L[p],by simp[l],fun e R S=>(m _).2 (c p L[p] (KY l) _ (yP R S))⟩
  refine⟨fun H=>(by rw[H]at A;cases A),fun i hi=>?_⟩;obtain rfl:=f i hi;rw[Kx l]at h
  simp only[wpList]at h
  have D:L.toArray[i]?=some L[i]:=by simp[l]
  unfold wpOp;simp only[D];have z:∀j,(b.setIfInBounds i true).getD j false=true↔j<i+1:=fun j=>by
   rw[listed_set,m];omega
  split
  ·rename_i C
   rw[OK C]at h
   exact h.imp (Ng fun U w' T=>GC u c fuel (i+1) _ _ _ O7 O7 (by simpa using s) z T) id
  ·rename_i C
   rw[OJ C]at h
   exact GC u c fuel (i+1) _ _ _ O7 O7 (by simpa using s) z h
theorem I6{P:Program}{L:List Oper}{Q:Exit→Act→World→Prop}{w0:World}{n k:Nat}{σ:Sg}{Γ:aN}(hB:yX L k=true)(hΓ:∀m∈Γ,m.i<k∧m.ok)(I:(Γ.map (·.i)).Nodup)(hM:∀j o,j<k→L[j]?=some o→MG P L w0 n σ Γ j o)
  (hK:∀γ w',Ext w0 w'→fU γ w' (fun τ=>WL P L (fun x a w=>x=.normal∧Q .normal a w) (L.drop k) n τ w') Γ σ):
  ∀(fuel:Nat) (c:Array Bool) (a:Act) (γ:Nat→Nat) (w:World),MInv L w0 n σ Γ k c a γ w→c.toList.countP (fun b=>!b)=fuel→wpAny P .any L.toArray (fun x a w=>x=.normal∧Q .normal a w) fuel c a w:=by
 simp only[yX,JL,OD,Kd,LZ]at hB
 obtain⟨⟨⟨⟨hs,O⟩,T⟩,hkl⟩,J⟩:=hB;have C:∀p,k≤p→p<L.length→∀x,x<p→(mark L (p+1) ((List.replicate (p+1) false).set p true)).getD x false=true:=fun p h1 h2 x s=>by
  have:=J (p -k) O7 x O7;rwa[show k+(p -k)=p by omega]at this
 have t:∀i o,L[i]?=some o→∀j∈AO o,j<i:=fun i o H j hj=>by
  have h:=O i (K0.1 H).1;rw[H]at h
  simp only[Kd,OD]at h
  exact h j hj
 have hdd:∀x∈Γ,∀m∈Γ,x.i≠m.i→x.d≠m.d:=by
  have S:∀x∈Γ,ls L x.i=some x.d:=fun x s=>by
   have X:=(hΓ x s).1;have F:x.i<L.length:=by omega
   obtain⟨m,q,_,_,e,hd,_⟩:=(hM x.i L[x.i] X (KY F)).ex;obtain rfl:m=x:=yK I m q x s e;unfold ls;rw[KY F];exact hd
  have lt:∀x∈Γ,∀m∈Γ,x.i<m.i→x.d≠m.d:=fun x s m q h e=>by
   have h1:=T m.i (hΓ m q).1 x.i h;rw[S x s,S m q,e]at h1
   simp at h1
  intro x s m q B
  rcases Nat.lt_or_gt_of_ne B with h|h
  ·exact lt x s m q h
  ·exact fun e=>lt m q x s h e.symm
 have V:∀(c:Array Bool),c.size=L.length→Region.ready .any L.toArray c=[]→∀i,i<L.length→c.getD i false=true:=by
  intro c hsz hr i
  induction i using Nat.strongRecOn with
  |ind i W=>
   intro hi
   by_cases E:c.getD i false=true
   ·exact E
   ·have:i∈Region.ready .any L.toArray c:=OM.2 ⟨by
     rw[qY O7];simpa using E,L[i],by simp[hi],fun e he hb=>by
     have D:=t i L[i] (KY hi) _ (yP he hb);exact W _ D O7⟩
    rw[hr]at this;cases this
 intro fuel
 induction fuel with
 |zero=>
  intro c a γ w f hc
  have E:∀i,i<L.length→c.getD i false=true:=fun i hi=>by
   cases s:c.getD i false with
   |true=>rfl
   |false=>
    have:=kM (l:=c) (i:=i) (by rw[qY (by have:=f.size;omega)];exact s);omega
  obtain⟨τ,hτ,hF⟩:=fV Γ σ (hK γ w f.ext) f.fr (fun m q=>f.facts m q (E m.i (by have:=(hΓ m q).1;omega)));have hke:k=L.length:=by
   rcases MR k L.length with h|h
   ·exact absurd (f.low k (E k h)) (MO _)
   ·omega
  unfold WL at hF
  exact GC C t 0 k c a w Pu O7 f.size (fun i=>⟨f.low i,fun h=>E i O7⟩) (hF a hτ)
 |succ fuel W=>
  intro c a γ w f hc
  by_cases u:∀i,i<k→c.getD i false=true
  ·
   obtain⟨τ,hτ,hF⟩:=fV Γ σ (hK γ w f.ext) f.fr (fun m q=>f.facts m q (u m.i (hΓ m q).1));unfold WL at hF
   have z:fuel+1+k=L.length:=by
    have D:c.toList=(List.range L.length).map (fun i=>decide (i<k)):=by
     refine KD (by simpa using f.size) fun i h1 h2=>?_
     simp only[Lb,Ld,Array.getElem_toList];have h3:c.getD i false=c[i]'(by simpa using h1):=by simp[Js,show i<c.size by simpa using h1]
     by_cases h:i<k
     ·have:=u i h
      rw[h3]at this;rw[this];simp[h]
     ·cases s:c[i]'(by simpa using h1)with
      |false=>simp[h]
      |true=>exact absurd (f.low i (by rw[h3,s])) h
    rw[D]at hc
    have U:∀N,k≤N→((List.range N).map fun i=>decide (i<k)).countP (fun b=>!b)+k=N:=by
     intro N
     induction N with
     |zero=>intro h;simp at h⊢;omega
     |succ N ihN=>
      intro h
      rw[Mb,LE,Ko];by_cases hN:k≤N
      ·have:=ihN hN
       have e1:([N].map fun i=>decide (i<k)).countP (fun b=>!b)=1:=by
        simp;omega
       omega
      ·obtain rfl:k=N+1:=by omega
       have h0:((List.range N).map fun i=>decide (i<N+1)).countP (fun b=>!b)=0:=by
        rw[List.countP_eq_zero];intro b hb
        obtain⟨i,hi,rfl⟩:=LU.1 hb;have:=LZ.1 hi;simp;omega
       rw[h0];simp
    have:=U L.length hkl;omega
   exact GC C t (fuel+1) k c a w Pu z f.size (fun i=>⟨f.low i,u i⟩) (hF a hτ)
  ·refine⟨fun hr=>absurd (fun i hi=>V c f.size hr i O7) u,fun i hi=>?_⟩
   obtain⟨hun,o,H,hed⟩:=OM.1 hi;have hcs:=kM hun;have y:L[i]?=some o:=by simpa using H
   have hil:i<L.length:=(K0.1 y).1;have A:=AP hed;have R:i<k:=by
    rcases MR i k with h|h
    ·exact h
    ·exact absurd (fun x s=>fZ (C i h hil) y A f.closed x O7) u
   unfold wpOp;simp only[H];obtain⟨m,q,Δ,hΔ,M,hd,hn,hf,hob⟩:=(hM i o R y).ex;have G:∀(w':World) (v:Value),Ext w w'→m.Φ v (iW γ w i) w'→wpAny P .any L.toArray (fun x a w=>x=.normal∧Q .normal a w) fuel (c.setIfInBounds i true) (a.put (some m.d) v) w':=fun w' v hE hΦ=>
    W _ _ _ _ (f.step q M y hn hf (fun m q=>(hΓ m q).2) I (fun x s B=>hdd x s m q (by rw[M];exact B)) hE hΦ A R) O7
   rcases hob w γ f.ext a f.fr (fun j hj x s e=>f.facts x (hΔ x s) (by rw[e];exact A j hj))with⟨Z,Y⟩|⟨Z,hΦ⟩
   ·simp only[Z,OL]
    refine .inl (Ng (fun a' w' h'=>?_) (Jj (fun e a w _ hf=>hf.elim) Y));obtain⟨hE,v,rfl,hΦ⟩:=h';exact G w' v hE hΦ
   ·simp only[Z,JP,OI]
    rw[hd];exact G w undef (Ext.refl w) hΦ
section
variable {P:Program}{Q:Exit→Act→World→Prop}{n:Nat}{σ:Sg}{w:World}{L:List Oper}
def bK(P:Program)(L:List Oper)(Q:Exit→Act→World→Prop)(n:Nat)(σ:Sg)(w:World)(T:List Oper):aN→Prop:=
 fun Γ=>∀γ w',Ext w w'→fU γ w' (fun τ=>WL P L (fun x a w=>x=.normal∧Q .normal a w) T n τ w') Γ σ
theorem aG{id:Nat}(k:Nat)(c:P.follows .mixedOrders=true)(f:yX L k=true)(h:ML P L (drew w) n σ (bK P L Q n σ (drew w) (L.drop k)) 0 [] (L.take k)):CW P (.region id L.toArray true) Q n σ w:=by
 unfold CW;intro a t
 have p:k≤L.length:=by
  simp only[yX,JL,OD]at f
  exact f.1.2
 obtain⟨Γ,g1,_,g3,g4,g5⟩:=cS _ _ _ h (fun m c=>by cases c) List.Pairwise.nil;have h1:=I6 (P:=P) (Q:=Q) (w0:=drew w) f (fun m c=>by have:=g3 m c;simp only[LB,Nb]at this;exact⟨by omega,this.2⟩) g4 (fun j o q l=>by
  have:=g5 j o (by rw[K6 q];exact l);rwa[Nb]at this) g1 L.length (Array.replicate L.length false) a (fun _=>0) (drew w) ⟨by simp,t,Ext.refl _,fun m c b=>by
   exfalso;simp[Js,Jy]at b;split at b<;>simp at b,fun i o b=>by
   exfalso;simp[Js,Jy]at b;split at b<;>simp at b,fun i b=>by
   exfalso;simp[Js,Jy]at b;split at b<;>simp at b⟩ (by simp[Ks])
 have h2:(Code.region id L.toArray true).wp P (fun x a w=>x=.normal∧Q .normal a w) a w:=O5 c (by simpa using h1);exact O4 h2 (fun e u w' ⟨s,hq⟩=>by subst s;exact hq)
theorem ML.nil{w0:World}{K:aN→Prop}{i:Nat}{Γ:aN}(h:K Γ):ML P L w0 n σ K i Γ []:=h
end
instance sf:IsC Tryz.prog 268 1 false:=IsC.of O8 Tryz.underlying268 rfl
instance sh:IsZC Tryz.prog 268 [.nilFunc]:=IsZC.of (z:=.nilFunc) O8 rfl
theorem rm(B:Nat)(w:World)(k:Int):GL B w (ym 3 k none 0 0) (xF k):=Rd.mkLtl (kids:=[]) (Sl.zero _ _)
theorem Dw(F:Nat→Prop)(w:World)(k:Int):Rd w F (ym 3 k none 0 0) (xF k):=Rd.mkLtl (kids:=[]) (Sl.zero _ _)
theorem mg(w:World)(k:Int):Rt Tryz.prog 164 [Py k].toArray w fun v w'=>v=ym 3 k none 0 0∧Ext w w':=by
 refine dD Tryz.func164 Tryz.ntmps164 rfl rfl ?_;refine PB ?_;refine WL.alloc rfl rfl (fun g f d=>?_);refine Qt ?_;refine WL.build rfl rfl rfl rfl ?_;refine WL.st rfl rfl rfl f rfl rfl Pr (fun e b a=>?_);have c:Ext w e:=d.grown a d.size Pi;refine PO ?_;exact bg rfl rfl b rfl ⟨rfl,c⟩
def FM(B k:Nat)(γ:Nat→Nat)(w:World):Nat→Prop:=fun b=>B≤b∧b<w.heap.size∧γ b≤k
theorem iX{γ:Nat→Nat}{w:World}{i:Nat}:iW γ w i w.heap.size=i:=by unfold iW;rw[OJ (MO _)]
theorem FM.lt{B k:Nat}{γ:Nat→Nat}{w:World}:∀b,FM B k γ w b→b<w.heap.size:=fun b h=>h.2.1
theorem FT{B k:Nat}{t:Ltl}:dO (fun v γ w=>Rd w (FM B k γ w) v t):=fun v γ c w w' h e hγ=>(Rd.up0 h e FM.lt).wk (fun b a=>⟨a.1,MQ a.2.1 e.size,by rw[hγ b a.2.1];exact a.2.2⟩)
theorem FQ{B i:Nat}{e:TypeId}{zs:List Value}:dO (fun v γ w=>∃b,v=Pz b∧γ b=i∧B≤b∧Blk w b e zs):=by
 rintro v γ a w w' ⟨b,h1,h2,h3,h4⟩ e hγ
 exact⟨b,h1,by rw[hγ b h4.lt];exact h2,h3,h4.ext e⟩
theorem FM.call{P:Program}{f:FuncId}{args:Array Value}{w:World}{B k i:Nat}{γ:Nat→Nat}{t:Ltl}(hi:i≤k)(c:B≤w.heap.size)(h:Rt P f args w fun v w'=>Rd w' (da (FM B k γ w) w w') v t∧Ext w w'):
  Rt P f args w fun v w'=>Rd w' (FM B k (iW γ w i) w') v t∧Ext w w':=h.mono fun v w' h=>⟨h.1.wk (fun b a=>by
 have:=h.2.size;rcases a with a|a
 ·exact⟨a.1,by have:=a.2.1;omega,by unfold iW;rw[OK a.2.1];exact a.2.2⟩
 ·exact⟨by have:=a.1;omega,a.2,by unfold iW;rw[OJ (by have:=a.1;omega)];exact hi⟩),h.2⟩
theorem FM.fresh{P:Program}{f:FuncId}{args:Array Value}{w:World}{B k i:Nat}{γ:Nat→Nat}{t:Ltl}(hi:i≤k)(c:B≤w.heap.size)(h:Rt P f args w (bS w t)):
  Rt P f args w fun v w'=>Rd w' (FM B k (iW γ w i) w') v t∧Ext w w':=h.mono fun v w' h=>⟨h.1.wk (fun b a=>⟨by have:=a.1;omega,a.2,by unfold iW;rw[OJ (by have:=a.1;omega)];exact hi⟩),h.2⟩
theorem FM.st{B k b:Nat}{γ:Nat→Nat}{w w':World}{v:Value}{t:Ltl}(h:Rd w (FM B k γ w) v t)(f:k<γ b)(d:w.grownBy w' (some b)):GL B w' v t:=
 (Rd.kept h d (fun c a=>⟨a.2.1,fun e=>by have:=Nn e;subst this;have:=a.2.2;omega⟩)).wk (fun c a=>⟨a.1,MQ a.2.1 d.size⟩)
abbrev BI(k sc P S Q R c:Int):List Value:=[.int .i64 k,.int .i64 sc,.int .i64 P,.int .i64 S,.int .i64 Q,.int .i64 R,.int .i64 c]
set_option maxRecDepth 10000 in
set_option maxHeartbeats 1000000 in
theorem rp(k sc P S Q R c:Int):∀(n:Nat),n≤1000→∀(w:World),Rt Tryz.prog 172 [.agg (BI k sc P S Q R c).toArray,Py (n:Int)].toArray w (bS w (rn k P S n)):=by
 intro n
 induction n with
 |zero=>
  intro _ w
  refine dE Tryz.func172 Tryz.ntmps172 rfl rfl ?_;refine PB ?_;refine dX rfl rfl rfl fun w1 p e1=>?_
  refine WL.alloc rfl rfl (fun q d e2=>?_);have p:=p.ext e2;have f:=e1.trans e2;have hlr:=d.lt;have hs1:=e1.size;have a:q.heap.size≤q.heap.size:=MM _;unfold rn;refine QX ?_;by_cases h2:k=2
  ·subst h2
   rw[OK rfl];refine QW ?_;skip;refine WL.call rfl rfl rfl (mg q P) ?_;rintro _ A ⟨rfl,l⟩
   have p:=p.ext l;have d:=d.ext l;have f:=f.trans l;have a:=MN a l.size;refine WL.call rfl rfl rfl (md A a (rm _ _ _)) ?_;rintro v13 N ⟨M,j⟩
   have p:=p.ext j;have d:=d.ext j;have f:=f.trans j;have a:=MN a j.size;obtain⟨uo,uc,rfl,s⟩:=Rd.ltl M;skip;refine WL.st rfl rfl rfl d rfl rfl Pr (fun z t g=>?_);refine Qp ?_;exact bg rfl rfl t rfl ⟨(M.st g O7).low O7,Do f g O7⟩
  by_cases h3:k=3
  ·subst h3
   rw[OJ O9,OK rfl];refine Qz ?_;skip;refine WL.call rfl rfl rfl (mg q P) ?_;rintro _ A ⟨rfl,l⟩
   have p:=p.ext l;have d:=d.ext l;have f:=f.trans l;have a:=MN a l.size;refine WL.call rfl rfl rfl (mp A a 10 (rm _ _ _)) ?_;rintro v19 N ⟨L,j⟩
   have p:=p.ext j;have d:=d.ext j;have f:=f.trans j;have a:=MN a j.size;obtain⟨uo,uc,rfl,s⟩:=Rd.ltl L;skip;refine WL.st rfl rfl rfl d rfl rfl Pr (fun z t g=>?_);refine Qp ?_;exact bg rfl rfl t rfl ⟨(L.st g O7).low O7,Do f g O7⟩
  by_cases h5:k=5
  ·subst h5
   rw[OJ O9,OJ O9,OK rfl];have ed:=Ext.drew q;have p:=p.ext ed;have d:=d.ext ed;have f:=f.trans ed;have a:q.heap.size≤(drew q).heap.size:=MN a ed.size;refine Ra ?_;refine aG 14 mixed O8 ?_;refine RC ?_;refine cR rfl rfl rfl (fun γ w m=>WL.call rfl rfl rfl (mg w P) ML.en) ?_;refine ML.fc (fun v γ w=>GL q.heap.size w v (zZ (xF P))) rfl rfl rfl Ph (fun γ w m=>WL.call rfl rfl rfl (mj w (MN a m.size) (rm _ _ _)) ML.en) ?_;refine RC ?_;refine cR rfl rfl rfl (fun γ w m=>WL.call rfl rfl rfl (mg w S) ML.en) ?_;refine ML.fc (fun v γ w=>GL q.heap.size w v (Ic (zZ (xF P)) (xF S))) rfl rfl rfl Ph (fun γ w m Z K=>WL.call rfl rfl rfl (mz w (MN a m.size) K (rm _ _ _)) ML.en) ?_;refine RC ?_;refine cR rfl rfl rfl (fun γ w m=>WL.call rfl rfl rfl (mg w P) ML.en) ?_;refine ML.fc (fun v γ w=>GL q.heap.size w v (zZ (xF P))) rfl rfl rfl Ph (fun γ w m=>WL.call rfl rfl rfl (mj w (MN a m.size) (rm _ _ _)) ML.en) ?_;refine ML.fc (fun v γ w=>GL q.heap.size w v (gg (zZ (xF P)))) rfl rfl rfl Ph (fun γ w m X I=>WL.call rfl rfl rfl (md w (MN a m.size) I) ML.en) ?_;refine ML.fc (fun v γ w=>GL q.heap.size w v (AW (Ic (zZ (xF P)) (xF S)) (gg (zZ (xF P))))) rfl rfl rfl Ph (fun γ w m Y J W H=>WL.call rfl rfl rfl (mr w (MN a m.size) J H) ML.en) ?_;refine ML.nil fun γ w' o v35 G W H X I Y J Z K=>?_
   change WL _ _ _ _ _ _ _
   have p:=p.ext o;have d:=d.ext o;have f:=f.trans o;have a:=MN a o.size;obtain⟨uo,uc,rfl,s⟩:=Rd.ltl G;refine WL.st rfl rfl rfl d rfl rfl Pr (fun z t g=>WL.nil (bu ?_));refine Qk ?_;exact bg rfl rfl t rfl ⟨(G.st g O7).low O7,Do f g O7⟩
  by_cases h6:k=6
  ·subst h6
   rw[OJ O9,OJ O9,OJ O9,OK rfl];have ed:=Ext.drew q;have p:=p.ext ed;have d:=d.ext ed;have f:=f.trans ed;have a:q.heap.size≤(drew q).heap.size:=MN a ed.size;refine Ra ?_;refine aG 10 mixed O8 ?_;refine RC ?_;refine cR rfl rfl rfl (fun γ w m=>WL.call rfl rfl rfl (mg w P) ML.en) ?_;refine ML.fc (fun v γ w=>GL q.heap.size w v (zZ (xF P))) rfl rfl rfl Ph (fun γ w m=>WL.call rfl rfl rfl (mj w (MN a m.size) (rm _ _ _)) ML.en) ?_;refine RC ?_;refine cR rfl rfl rfl (fun γ w m=>WL.call rfl rfl rfl (mg w S) ML.en) ?_;refine ML.fc (fun v γ w=>GL q.heap.size w v (o7 (xF S))) rfl rfl rfl Ph (fun γ w m=>WL.call rfl rfl rfl (mp w (MN a m.size) 10 (rm _ _ _)) ML.en) ?_;refine ML.fc (fun v γ w=>GL q.heap.size w v (AW (zZ (xF P)) (o7 (xF S)))) rfl rfl rfl Ph (fun γ w m V F U E=>WL.call rfl rfl rfl (mr w (MN a m.size) F E) ML.en) ?_;refine ML.fc (fun v γ w=>GL q.heap.size w v (gg (AW (zZ (xF P)) (o7 (xF S))))) rfl rfl rfl Ph (fun γ w m T D=>WL.call rfl rfl rfl (md w (MN a m.size) D) ML.en) ?_;refine ML.nil fun γ w' o v47 C T D U E V F=>?_
   change WL _ _ _ _ _ _ _
   have p:=p.ext o;have d:=d.ext o;have f:=f.trans o;have a:=MN a o.size;obtain⟨uo,uc,rfl,s⟩:=Rd.ltl C;refine WL.st rfl rfl rfl d rfl rfl Pr (fun z t g=>WL.nil (bu ?_));refine Qk ?_;exact bg rfl rfl t rfl ⟨(C.st g O7).low O7,Do f g O7⟩
  rw[OJ h2,OJ h3,OJ h5,OJ h6];rw[show(k==2)=false by simpa using h2];refine QA ?_;rw[show(k==3)=false by simpa using h3];refine QA ?_;rw[show(k==5)=false by simpa using h5];refine QA ?_;rw[show(k==6)=false by simpa using h6];refine QA ?_;by_cases h4:k=4
  ·subst h4
   rw[OK rfl];refine Q5 ?_;unfold iK;skip;skip;refine WL.call rfl rfl rfl (mg q P) ?_;rintro _ A ⟨rfl,l⟩
   have p:=p.ext l;have d:=d.ext l;have f:=f.trans l;have a:=MN a l.size;refine WL.call rfl rfl rfl (mj A a (rm _ _ _)) ?_;rintro v76 N ⟨u,j⟩
   have p:=p.ext j;have d:=d.ext j;have f:=f.trans j;have a:=MN a j.size;refine WL.call rfl rfl rfl (md N a u) ?_;rintro v77 y3 ⟨x,r⟩
   have u:=u.ext r;have p:=p.ext r;have d:=d.ext r;have f:=f.trans r;have a:=MN a r.size;obtain⟨uo,uc,rfl,s⟩:=Rd.ltl x;skip;refine WL.st rfl rfl rfl d rfl rfl Pr (fun z t g=>?_);refine PO ?_;exact bg rfl rfl t rfl ⟨(x.st g O7).low O7,Do f g O7⟩
  rw[OJ h4];rw[show(k==4)=false by simpa using h4];refine Ql ?_;skip;skip;refine WL.call rfl rfl rfl (mg q P) ?_;rintro _ A ⟨rfl,l⟩
  have p:=p.ext l;have d:=d.ext l;have f:=f.trans l;have a:=MN a l.size;refine WL.call rfl rfl rfl (mj A a (rm _ _ _)) ?_;rintro v76 N ⟨u,j⟩
  have p:=p.ext j;have d:=d.ext j;have f:=f.trans j;have a:=MN a j.size;refine WL.call rfl rfl rfl (md N a u) ?_;rintro v77 y3 ⟨x,r⟩
  have u:=u.ext r;have p:=p.ext r;have d:=d.ext r;have f:=f.trans r;have a:=MN a r.size;obtain⟨uo,uc,rfl,s⟩:=Rd.ltl x;skip;refine WL.st rfl rfl rfl d rfl rfl Pr (fun z t g=>?_);refine PO ?_;exact bg rfl rfl t rfl ⟨(x.st g O7).low O7,Do f g O7⟩
 |succ n ih=>
  intro hn w
  have ih:∀w:World,Rt Tryz.prog 172 [.agg (BI k sc P S Q R c).toArray,Py (((n+1:Nat):Int) -1)].toArray w (bS w (rn k P S n)):=by
   rw[show((n+1:Nat):Int) -1=(n:Int) by omega];exact ih O7
  refine dE Tryz.func172 Tryz.ntmps172 rfl rfl ?_;refine PB ?_;refine dX rfl rfl rfl fun w1 p e1=>?_
  refine WL.alloc rfl rfl (fun q d e2=>?_);have p:=p.ext e2;have f:=e1.trans e2;have hlr:=d.lt;have hs1:=e1.size;have a:q.heap.size≤q.heap.size:=MM _;unfold rn;refine QX ?_;by_cases h2:k=2
  ·subst h2
   rw[OK rfl];refine QW ?_;skip;refine WL.call rfl rfl rfl (mg q P) ?_;rintro _ A ⟨rfl,l⟩
   have p:=p.ext l;have d:=d.ext l;have f:=f.trans l;have a:=MN a l.size;refine WL.call rfl rfl rfl (md A a (rm _ _ _)) ?_;rintro v13 N ⟨M,j⟩
   have p:=p.ext j;have d:=d.ext j;have f:=f.trans j;have a:=MN a j.size;obtain⟨uo,uc,rfl,s⟩:=Rd.ltl M;skip;refine WL.st rfl rfl rfl d rfl rfl Pr (fun z t g=>?_);refine Qp ?_;exact bg rfl rfl t rfl ⟨(M.st g O7).low O7,Do f g O7⟩
  by_cases h3:k=3
  ·subst h3
   rw[OJ O9,OK rfl];refine Qz ?_;skip;refine WL.call rfl rfl rfl (mg q P) ?_;rintro _ A ⟨rfl,l⟩
   have p:=p.ext l;have d:=d.ext l;have f:=f.trans l;have a:=MN a l.size;refine WL.call rfl rfl rfl (mp A a 10 (rm _ _ _)) ?_;rintro v19 N ⟨L,j⟩
   have p:=p.ext j;have d:=d.ext j;have f:=f.trans j;have a:=MN a j.size;obtain⟨uo,uc,rfl,s⟩:=Rd.ltl L;skip;refine WL.st rfl rfl rfl d rfl rfl Pr (fun z t g=>?_);refine Qp ?_;exact bg rfl rfl t rfl ⟨(L.st g O7).low O7,Do f g O7⟩
  by_cases h5:k=5
  ·subst h5
   rw[OJ O9,OJ O9,OK rfl];have ed:=Ext.drew q;have p:=p.ext ed;have d:=d.ext ed;have f:=f.trans ed;have a:q.heap.size≤(drew q).heap.size:=MN a ed.size;refine Ra ?_;refine aG 14 mixed O8 ?_;refine RC ?_;refine cR rfl rfl rfl (fun γ w m=>WL.call rfl rfl rfl (mg w P) ML.en) ?_;refine ML.fc (fun v γ w=>GL q.heap.size w v (zZ (xF P))) rfl rfl rfl Ph (fun γ w m=>WL.call rfl rfl rfl (mj w (MN a m.size) (rm _ _ _)) ML.en) ?_;refine RC ?_;refine cR rfl rfl rfl (fun γ w m=>WL.call rfl rfl rfl (mg w S) ML.en) ?_;refine ML.fc (fun v γ w=>GL q.heap.size w v (Ic (zZ (xF P)) (xF S))) rfl rfl rfl Ph (fun γ w m Z K=>WL.call rfl rfl rfl (mz w (MN a m.size) K (rm _ _ _)) ML.en) ?_;refine RC ?_;refine cR rfl rfl rfl (fun γ w m=>WL.call rfl rfl rfl (mg w P) ML.en) ?_;refine ML.fc (fun v γ w=>GL q.heap.size w v (zZ (xF P))) rfl rfl rfl Ph (fun γ w m=>WL.call rfl rfl rfl (mj w (MN a m.size) (rm _ _ _)) ML.en) ?_;refine ML.fc (fun v γ w=>GL q.heap.size w v (gg (zZ (xF P)))) rfl rfl rfl Ph (fun γ w m X I=>WL.call rfl rfl rfl (md w (MN a m.size) I) ML.en) ?_;refine ML.fc (fun v γ w=>GL q.heap.size w v (AW (Ic (zZ (xF P)) (xF S)) (gg (zZ (xF P))))) rfl rfl rfl Ph (fun γ w m Y J W H=>WL.call rfl rfl rfl (mr w (MN a m.size) J H) ML.en) ?_;refine ML.nil fun γ w' o v35 G W H X I Y J Z K=>?_
   change WL _ _ _ _ _ _ _
   have p:=p.ext o;have d:=d.ext o;have f:=f.trans o;have a:=MN a o.size;obtain⟨uo,uc,rfl,s⟩:=Rd.ltl G;refine WL.st rfl rfl rfl d rfl rfl Pr (fun z t g=>WL.nil (bu ?_));refine Qk ?_;exact bg rfl rfl t rfl ⟨(G.st g O7).low O7,Do f g O7⟩
  by_cases h6:k=6
  ·subst h6
   rw[OJ O9,OJ O9,OJ O9,OK rfl];have ed:=Ext.drew q;have p:=p.ext ed;have d:=d.ext ed;have f:=f.trans ed;have a:q.heap.size≤(drew q).heap.size:=MN a ed.size;refine Ra ?_;refine aG 10 mixed O8 ?_;refine RC ?_;refine cR rfl rfl rfl (fun γ w m=>WL.call rfl rfl rfl (mg w P) ML.en) ?_;refine ML.fc (fun v γ w=>GL q.heap.size w v (zZ (xF P))) rfl rfl rfl Ph (fun γ w m=>WL.call rfl rfl rfl (mj w (MN a m.size) (rm _ _ _)) ML.en) ?_;refine RC ?_;refine cR rfl rfl rfl (fun γ w m=>WL.call rfl rfl rfl (mg w S) ML.en) ?_;refine ML.fc (fun v γ w=>GL q.heap.size w v (o7 (xF S))) rfl rfl rfl Ph (fun γ w m=>WL.call rfl rfl rfl (mp w (MN a m.size) 10 (rm _ _ _)) ML.en) ?_;refine ML.fc (fun v γ w=>GL q.heap.size w v (AW (zZ (xF P)) (o7 (xF S)))) rfl rfl rfl Ph (fun γ w m V F U E=>WL.call rfl rfl rfl (mr w (MN a m.size) F E) ML.en) ?_;refine ML.fc (fun v γ w=>GL q.heap.size w v (gg (AW (zZ (xF P)) (o7 (xF S))))) rfl rfl rfl Ph (fun γ w m T D=>WL.call rfl rfl rfl (md w (MN a m.size) D) ML.en) ?_;refine ML.nil fun γ w' o v47 C T D U E V F=>?_
   change WL _ _ _ _ _ _ _
   have p:=p.ext o;have d:=d.ext o;have f:=f.trans o;have a:=MN a o.size;obtain⟨uo,uc,rfl,s⟩:=Rd.ltl C;refine WL.st rfl rfl rfl d rfl rfl Pr (fun z t g=>WL.nil (bu ?_));refine Qk ?_;exact bg rfl rfl t rfl ⟨(C.st g O7).low O7,Do f g O7⟩
  rw[OJ h2,OJ h3,OJ h5,OJ h6];rw[show(k==2)=false by simpa using h2];refine QA ?_;rw[show(k==3)=false by simpa using h3];refine QA ?_;rw[show(k==5)=false by simpa using h5];refine QA ?_;rw[show(k==6)=false by simpa using h6];refine QA ?_;by_cases h4:k=4
  ·subst h4
   rw[OK rfl];refine Ra ?_;rw[OC (show((n+1:Nat):Int)>0 by omega)];refine Qu ?_;have ed:=Ext.drew q;have p:=p.ext ed;have d:=d.ext ed;have f:=f.trans ed;have a:q.heap.size≤(drew q).heap.size:=MN a ed.size;skip;refine aG 10 mixed O8 ?_;refine RC ?_;refine cR rfl rfl rfl (fun γ w m=>WL.call rfl rfl rfl (mg w P) ML.en) ?_;refine RB ?_;refine ML.fc (fun v γ w=>Rd w (FM q.heap.size 8 γ w) v (rn 4 P S n)) rfl rfl rfl FT (fun γ w m=>WL.call rfl rfl rfl (FM.fresh (i:=6) (by omega) (MN a m.size) ((ih w))) (fun v w' h=>WL.nil (a8 rfl h.2 h.1))) ?_;refine ML.fc (fun v γ w=>Rd w (FM q.heap.size 8 γ w) v (zj (rn 4 P S n))) rfl rfl rfl FT (fun γ w m v58 g58=>WL.call rfl rfl rfl (FM.call (i:=7) (by omega) (MN a m.size) (mn w FM.lt 7 g58)) (fun v w' h=>WL.nil (a8 rfl h.2 h.1))) ?_;refine ML.fc (fun v γ w=>Rd w (FM q.heap.size 8 γ w) v (gh (xF P) (zj (rn 4 P S n)))) rfl rfl rfl FT (fun γ w m v59 g59=>WL.call rfl rfl rfl (FM.call (i:=8) (by omega) (MN a m.size) (me w FM.lt (Dw _ _ _) g59)) (fun v w' h=>WL.nil (a8 rfl h.2 h.1))) ?_;refine ML.fc (fun v γ w=>∃b,v=Pz b∧γ b=9∧q.heap.size≤b∧Blk w b 32 [Py 0,Py 0,.slice none 0 0]) rfl rfl rfl FQ (fun γ w m=>WL.alloc rfl rfl (fun w' hb e=>WL.nil (a8 rfl e ⟨_,rfl,iX,MN a m.size,hb⟩))) ?_;refine ML.nil fun γ w' o v5 g5 v60 g60 v59 g59 v58 g58=>?_
   change WL _ _ _ _ _ _ _
   have p:=p.ext o;have d:=d.ext o;have f:=f.trans o;have a:=MN a o.size;obtain⟨b,rfl,hγ,hBb,y⟩:=g5;obtain⟨uo,uc,rfl,s⟩:=Rd.ltl g60;refine WL.st rfl rfl rfl y rfl rfl Pr (fun w3 y B=>WL.nil (bu ?_));have hv:=FM.st g60 (b:=b) (by rw[hγ];decide) B;have hlb:=y.lt;have d:=d.kept B Po;have p:=p.kept B Po;have f:Ext w w3:=f.grown B f.size Pk;have a:=MN a B.size;clear o g58 g59 B g60 s;have ed:=Ext.drew w3;have p:=p.ext ed;have d:=d.ext ed;have y:=y.ext ed;have hv:=hv.ext ed;have f:=f.trans ed;have a:q.heap.size≤(drew w3).heap.size:=MN a ed.size;refine QY ?_;refine aG 12 mixed O8 ?_;refine RC ?_;refine cR rfl rfl rfl (fun γ w m=>WL.call rfl rfl rfl (mg w P) ML.en) ?_;refine ML.fc (fun v γ w=>GL q.heap.size w v (zZ (xF P))) rfl rfl rfl Ph (fun γ w m=>WL.call rfl rfl rfl (mj w (MN a m.size) (rm _ _ _)) ML.en) ?_;refine RA ?_;refine ML.fc (fun v γ w=>GL q.heap.size w v (Ic (zZ (xF P)) (gh (xF P) (zj (rn 4 P S n))))) rfl rfl rfl Ph (fun γ w m v64 g64=>WL.call rfl rfl rfl (mz w (MN a m.size) g64 (hv.ext m)) ML.en) ?_;refine RC ?_;refine cR rfl rfl rfl (fun γ w m=>WL.call rfl rfl rfl (mg w P) ML.en) ?_;refine ML.fc (fun v γ w=>GL q.heap.size w v (zZ (xF P))) rfl rfl rfl Ph (fun γ w m=>WL.call rfl rfl rfl (mj w (MN a m.size) (rm _ _ _)) ML.en) ?_;refine ML.fc (fun v γ w=>GL q.heap.size w v (gg (zZ (xF P)))) rfl rfl rfl Ph (fun γ w m v70 g70=>WL.call rfl rfl rfl (md w (MN a m.size) g70) ML.en) ?_;refine ML.fc (fun v γ w=>GL q.heap.size w v (AW (Ic (zZ (xF P)) (gh (xF P) (zj (rn 4 P S n)))) (gg (zZ (xF P))))) rfl rfl rfl Ph (fun γ w m v66 g66 v71 g71=>WL.call rfl rfl rfl (mr w (MN a m.size) g66 g71) ML.en) ?_;refine ML.nil fun γ w' o v72 g72 v71 g71 v70 g70 v66 g66 v64 g64=>?_
   change WL _ _ _ _ _ _ _
   have p:=p.ext o;have d:=d.ext o;have y:=y.ext o;have hv:=hv.ext o;have f:=f.trans o;have a:=MN a o.size;obtain⟨uo,uc,rfl,s⟩:=Rd.ltl g72;refine WL.st rfl rfl rfl d rfl rfl Pr (fun z t g=>WL.nil (bu ?_));refine Qk ?_;have O:=(g72.st g O7).low (show w.heap.size≤q.heap.size by omega);rw[show rn 4 P S n=iK P n by unfold rn;rw[OJ O9,OJ O9,OJ O9,OJ O9,OK rfl]]at O
   exact bg rfl rfl t rfl ⟨O,Do f g O7⟩
  rw[OJ h4];rw[show(k==4)=false by simpa using h4];refine Ql ?_;skip;skip;refine WL.call rfl rfl rfl (mg q P) ?_;rintro _ A ⟨rfl,l⟩
  have p:=p.ext l;have d:=d.ext l;have f:=f.trans l;have a:=MN a l.size;refine WL.call rfl rfl rfl (mj A a (rm _ _ _)) ?_;rintro v76 N ⟨u,j⟩
  have p:=p.ext j;have d:=d.ext j;have f:=f.trans j;have a:=MN a j.size;refine WL.call rfl rfl rfl (md N a u) ?_;rintro v77 y3 ⟨x,r⟩
  have p:=p.ext r;have d:=d.ext r;have f:=f.trans r;have a:=MN a r.size;obtain⟨uo,uc,rfl,s⟩:=Rd.ltl x;skip;refine WL.st rfl rfl rfl d rfl rfl Pr (fun z t g=>?_);refine PO ?_;exact bg rfl rfl t rfl ⟨(x.st g O7).low O7,Do f g O7⟩
theorem IF(w:World)(weak:Bool){fa fb:Value}{ta tb:Ltl}(t:∀g,Ext w g→FnV Tryz.prog fa [] g (bS g ta))(C:∀g,Ext w g→FnV Tryz.prog fb [] g (bS g tb)):
  Rt Tryz.prog 236 [.bool weak,fa,fb].toArray w (bS w (IE weak ta tb)):=by
 refine dF Tryz.func236 Tryz.ntmps236 rfl rfl ?_;refine PB ?_;refine WL.alloc rfl rfl (fun g c D=>?_);have b:=D;have P:=c.lt;have O:=D.size;have a:g.heap.size≤g.heap.size:=MM _;unfold IE;refine Qt ?_;cases weak with
 |true=>
  rw[OK rfl];refine QB ?_;skip;refine d7 (xs:=[]) (vs:=[]) rfl rfl rfl rfl ((t g b).low a) ?_;rintro R q ⟨u,f⟩
  have c:=c.ext f;have b:=b.trans f;have a:=MN a f.size;refine Ri ?_;refine d7 (xs:=[]) (vs:=[]) rfl rfl rfl rfl ((C q b).low a) ?_;rintro N p ⟨A,d⟩
  have u:=u.ext d;have c:=c.ext d;have b:=b.trans d;have a:=MN a d.size;refine WL.call rfl rfl rfl (mz p a u A) ?_;rintro M B ⟨i,e⟩
  have c:=c.ext e;have b:=b.trans e;have a:=MN a e.size;refine Ri ?_;refine d7 (xs:=[]) (vs:=[]) rfl rfl rfl rfl ((t B b).low a) ?_;rintro L F ⟨y,k⟩
  have i:=i.ext k;have c:=c.ext k;have b:=b.trans k;have a:=MN a k.size;refine WL.call rfl rfl rfl (md F a y) ?_;rintro K E ⟨x,j⟩
  have i:=i.ext j;have c:=c.ext j;have b:=b.trans j;have a:=MN a j.size;refine WL.call rfl rfl rfl (mr E a i x) ?_;rintro J Q ⟨o,m⟩
  have c:=c.ext m;have b:=b.trans m;have a:=MN a m.size;obtain⟨uo,uc,rfl,s⟩:=Rd.ltl o;skip;refine WL.st rfl rfl rfl c rfl rfl Pr (fun z r h=>?_);refine Qp ?_;exact bg rfl rfl r rfl ⟨(o.st h O7).low O7,Do b h O7⟩
 |false=>
  rw[OJ O9];refine Qv ?_;skip;refine d7 (xs:=[]) (vs:=[]) rfl rfl rfl rfl ((t g b).low a) ?_;rintro I q ⟨l,f⟩
  have c:=c.ext f;have b:=b.trans f;have a:=MN a f.size;refine Ri ?_;refine d7 (xs:=[]) (vs:=[]) rfl rfl rfl rfl ((C q b).low a) ?_;rintro H p ⟨v,d⟩
  have l:=l.ext d;have c:=c.ext d;have b:=b.trans d;have a:=MN a d.size;refine WL.call rfl rfl rfl (mz p a l v) ?_;rintro G B ⟨n,e⟩
  have c:=c.ext e;have b:=b.trans e;have a:=MN a e.size;obtain⟨uo,uc,rfl,s⟩:=Rd.ltl n;skip;refine WL.st rfl rfl rfl c rfl rfl Pr (fun z r h=>?_);refine PO ?_;exact bg rfl rfl r rfl ⟨(n.st h O7).low O7,Do b h O7⟩
theorem Id(w:World){l:Nat}{k sc P S Q R c:Int}(d:Blk w l 27 (BI k sc P S Q R c)):FnV Tryz.prog (.func (.func 234) [].toArray [Pz l].toArray) [] w (bS w (zZ (xF P))):=by
 refine FnV.mk (cs:=[_]) ?_;refine dD Tryz.func234 Tryz.ntmps234 rfl rfl ?_;refine PB ?_;refine WL.alloc rfl rfl (fun i e j=>?_);have g:=j;have p:=e.lt;have o:=j.size;have d:=d.ext j;have h:i.heap.size≤i.heap.size:=MM _;refine QR ?_;skip;refine WL.call rfl rfl rfl (mg i P) ?_;rintro _ m ⟨rfl,b⟩
 have d:=d.ext b;have e:=e.ext b;have g:=g.trans b;have h:=MN h b.size;refine WL.call rfl rfl rfl (mj m h (rm _ _ _)) ?_;rintro s r ⟨g5,a⟩
 have d:=d.ext a;have e:=e.ext a;have g:=g.trans a;have h:=MN h a.size;obtain⟨uo,uc,rfl,q⟩:=Rd.ltl g5;skip;refine WL.st rfl rfl rfl e rfl rfl Pr (fun z n f=>?_);refine PO ?_;exact bg rfl rfl n rfl ⟨(g5.st f O7).low O7,Do g f O7⟩
theorem Ie(w:World){j:Nat}{k sc P S Q R c:Int}(f:Blk w j 27 (BI k sc P S Q R c)):FnV Tryz.prog (.func (.func 235) [].toArray [Pz j].toArray) [] w (bS w (xF R)):=by
 refine FnV.mk (cs:=[_]) ?_;refine dD Tryz.func235 Tryz.ntmps235 rfl rfl ?_;refine PB ?_;refine WL.alloc rfl rfl (fun e g i=>?_);have h:=i;have p:=g.lt;have o:=i.size;have f:=f.ext i;have l:e.heap.size≤e.heap.size:=MM _;refine QR ?_;skip;refine WL.call rfl rfl rfl (mg e R) ?_;rintro _ m ⟨rfl,a⟩
 have f:=f.ext a;have g:=g.ext a;have h:=h.trans a;have l:=MN l a.size;have d:GL e.heap.size m (ym 3 R none 0 0) (xF R):=rm _ _ _;skip;refine WL.st rfl rfl rfl g rfl rfl Pr (fun z n b=>?_);refine PO ?_;exact bg rfl rfl n rfl ⟨(d.st b O7).low O7,Do h b O7⟩
theorem If(w:World){j:Nat}{k sc P S Q R c:Int}(f:Blk w j 27 (BI k sc P S Q R c)):FnV Tryz.prog (.func (.func 237) [].toArray [Pz j].toArray) [] w (bS w (xF P)):=by
 refine FnV.mk (cs:=[_]) ?_;refine dD Tryz.func237 Tryz.ntmps237 rfl rfl ?_;refine PB ?_;refine WL.alloc rfl rfl (fun e g i=>?_);have h:=i;have p:=g.lt;have o:=i.size;have f:=f.ext i;have l:e.heap.size≤e.heap.size:=MM _;refine QR ?_;skip;refine WL.call rfl rfl rfl (mg e P) ?_;rintro _ m ⟨rfl,a⟩
 have f:=f.ext a;have g:=g.ext a;have h:=h.trans a;have l:=MN l a.size;have d:GL e.heap.size m (ym 3 P none 0 0) (xF P):=rm _ _ _;skip;refine WL.st rfl rfl rfl g rfl rfl Pr (fun z n b=>?_);refine PO ?_;exact bg rfl rfl n rfl ⟨(d.st b O7).low O7,Do h b O7⟩
theorem Ig(w:World){m n:Nat}{k sc P S Q R c:Int}(d:Blk w m 27 (BI k sc P S Q R c))(g:Blk w n 268 [(.func (.func 235) [].toArray [Pz m].toArray)]):FnV Tryz.prog (.func (.func 238) [].toArray [Pz m,Pz n].toArray) [] w (bS w (AW (xF S) (xF R))):=by
 refine FnV.mk (cs:=[_,_]) ?_;refine dE Tryz.func238 Tryz.ntmps238 rfl rfl ?_;refine PB ?_;refine WL.alloc rfl rfl (fun b e l=>?_);have j:=l;have t:=e.lt;have s:=l.size;have d:=d.ext l;have f:b.heap.size≤b.heap.size:=MM _;have g:=g.ext l;have ed:=Ext.drew b;have d:=d.ext ed;have e:=e.ext ed;have g:=g.ext ed;have j:=j.trans ed;have f:b.heap.size≤(drew b).heap.size:=MN f ed.size;refine PP ?_;refine aG 6 mixed O8 ?_;refine RC ?_;refine cR rfl rfl rfl (fun γ w h=>WL.call rfl rfl rfl (mg w S) ML.en) ?_;refine RC ?_;refine ML.fc (fun v γ w=>GL b.heap.size w v (xF R)) rfl rfl rfl Ph (fun γ w h=>d7 (xs:=[]) (vs:=[]) rfl rfl rfl rfl ((Ie w (d.ext h)).low (MN f h.size)) ML.en) ?_;refine ML.fc (fun v γ w=>GL b.heap.size w v (AW (xF S) (xF R))) rfl rfl rfl Ph (fun γ w h q p=>WL.call rfl rfl rfl (mr w (MN f h.size) (rm _ _ _) p) ML.en) ?_;refine ML.nil fun γ w' a x o q p=>?_
 change WL _ _ _ _ _ _ _
 have d:=d.ext a;have e:=e.ext a;have g:=g.ext a;have j:=j.trans a;have f:=MN f a.size;obtain⟨uo,uc,rfl,u⟩:=Rd.ltl o;refine WL.st rfl rfl rfl e rfl rfl Pr (fun z r i=>WL.nil (bu ?_));refine PQ ?_;exact bg rfl rfl r rfl ⟨(o.st i O7).low O7,Do j i O7⟩
theorem Ih(w:World){s C B:Nat}{k sc P S Q R c:Int}(f:Blk w s 27 (BI k sc P S Q R c))(i:Blk w C 268 [(.func (.func 234) [].toArray [Pz s].toArray)])(h:Blk w B 268 [(.func (.func 235) [].toArray [Pz s].toArray)]):FnV Tryz.prog (.func (.func 239) [].toArray [Pz C,Pz B,Pz s].toArray) [] w (bS w (AW (zZ (xF P)) (Ic (zZ (xF R)) (gh (xF S) (zZ (xF R)))))):=by
 refine FnV.mk (cs:=[_,_,_]) ?_;refine dF Tryz.func239 Tryz.ntmps239 rfl rfl ?_;refine PB ?_;refine WL.alloc rfl rfl (fun b g r=>?_);have l:=r;have K:=g.lt;have J:=r.size;have f:=f.ext r;have e:b.heap.size≤b.heap.size:=MM _;have i:=i.ext r;have h:=h.ext r;have ed:=Ext.drew b;have f:=f.ext ed;have g:=g.ext ed;have i:=i.ext ed;have h:=h.ext ed;have l:=l.trans ed;have e:b.heap.size≤(drew b).heap.size:=MN e ed.size;refine PP ?_;refine aG 14 mixed O8 ?_;refine RC ?_;refine ML.fc (fun v γ w=>GL b.heap.size w v (zZ (xF P))) rfl rfl rfl Ph (fun γ w a=>d7 (xs:=[]) (vs:=[]) rfl rfl rfl rfl ((Id w (f.ext a)).low (MN e a.size)) ML.en) ?_;refine RC ?_;refine ML.fc (fun v γ w=>GL b.heap.size w v (xF R)) rfl rfl rfl Ph (fun γ w a A g5=>d7 (xs:=[]) (vs:=[]) rfl rfl rfl rfl ((Ie w (f.ext a)).low (MN e a.size)) ML.en) ?_;refine ML.fc (fun v γ w=>GL b.heap.size w v (zZ (xF R))) rfl rfl rfl Ph (fun γ w a G E=>WL.call rfl rfl rfl (mj w (MN e a.size) E) ML.en) ?_;refine RC ?_;refine cR rfl rfl rfl (fun γ w a=>WL.call rfl rfl rfl (mg w S) ML.en) ?_;refine RC ?_;refine ML.fc (fun v γ w=>GL b.heap.size w v (xF R)) rfl rfl rfl Ph (fun γ w a=>d7 (xs:=[]) (vs:=[]) rfl rfl rfl rfl ((Ie w (f.ext a)).low (MN e a.size)) ML.en) ?_;refine ML.fc (fun v γ w=>GL b.heap.size w v (zZ (xF R))) rfl rfl rfl Ph (fun γ w a y q=>WL.call rfl rfl rfl (mj w (MN e a.size) q) ML.en) ?_;refine ML.fc (fun v γ w=>GL b.heap.size w v (gh (xF S) (zZ (xF R)))) rfl rfl rfl Ph (fun γ w a x p=>WL.call rfl rfl rfl (mf w (MN e a.size) (rm _ _ _) p) ML.en) ?_;refine ML.fc (fun v γ w=>GL b.heap.size w v (Ic (zZ (xF R)) (gh (xF S) (zZ (xF R))))) rfl rfl rfl Ph (fun γ w a F D u o=>WL.call rfl rfl rfl (mz w (MN e a.size) D o) ML.en) ?_;refine ML.fc (fun v γ w=>GL b.heap.size w v (AW (zZ (xF P)) (Ic (zZ (xF R)) (gh (xF S) (zZ (xF R)))))) rfl rfl rfl Ph (fun γ w a A g5 t n=>WL.call rfl rfl rfl (mr w (MN e a.size) g5 n) ML.en) ?_;refine ML.nil fun γ w' d H m t n u o x p y q F D G E A g5=>?_
 change WL _ _ _ _ _ _ _
 have f:=f.ext d;have g:=g.ext d;have i:=i.ext d;have h:=h.ext d;have l:=l.trans d;have e:=MN e d.size;obtain⟨uo,uc,rfl,L⟩:=Rd.ltl m;refine WL.st rfl rfl rfl g rfl rfl Pr (fun z I j=>WL.nil (bu ?_));refine PQ ?_;exact bg rfl rfl I rfl ⟨(m.st j O7).low O7,Do l j O7⟩
theorem Ii(w:World){F I H G:Nat}{k sc P S Q R c:Int}{n:Nat}{weak:Bool}{u:Ltl}(f:Blk w F 27 (BI k sc P S Q R c))(j:Blk w G 268 [(.func (.func 235) [].toArray [Pz F].toArray)])(hn:Blk w I 3 [Py ((n+1:Nat):Int)])(i:Blk w H 4 [.bool weak])(U:n<1000)(M:∀w:World,Rt Tryz.prog 168 [.agg (BI k sc P S Q R c).toArray,Py (((n+1:Nat):Int) -1),.bool weak].toArray w (bS w u)):FnV Tryz.prog (.func (.func 240) [].toArray [Pz G,Pz F,Pz I,Pz H].toArray) [] w (bS w (AW (xF R) (gh (gh (xF P) (zZ (xF R))) (zj u)))):=by
 refine FnV.mk (cs:=[_,_,_,_]) ?_;refine dG Tryz.func240 Tryz.ntmps240 rfl rfl ?_;refine PB ?_;refine WL.alloc rfl rfl (fun d h l=>?_);have p:=l;have T:=h.lt;have O:=l.size;have f:=f.ext l;have e:d.heap.size≤d.heap.size:=MM _;have j:=j.ext l;have hn:=hn.ext l;have i:=i.ext l;have ed:=Ext.drew d;have f:=f.ext ed;have h:=h.ext ed;have j:=j.ext ed;have hn:=hn.ext ed;have i:=i.ext ed;have p:=p.trans ed;have e:d.heap.size≤(drew d).heap.size:=MN e ed.size;refine PP ?_;refine aG 17 mixed O8 ?_;refine RC ?_;refine ML.fc (fun v γ w=>GL d.heap.size w v (xF R)) rfl rfl rfl Ph (fun γ w a=>d7 (xs:=[]) (vs:=[]) rfl rfl rfl rfl ((Ie w (f.ext a)).low (MN e a.size)) ML.en) ?_;refine RC ?_;refine cR rfl rfl rfl (fun γ w a=>WL.call rfl rfl rfl (mg w P) ML.en) ?_;refine RC ?_;refine ML.fc (fun v γ w=>GL d.heap.size w v (xF R)) rfl rfl rfl Ph (fun γ w a=>d7 (xs:=[]) (vs:=[]) rfl rfl rfl rfl ((Ie w (f.ext a)).low (MN e a.size)) ML.en) ?_;refine ML.fc (fun v γ w=>GL d.heap.size w v (zZ (xF R))) rfl rfl rfl Ph (fun γ w a E y=>WL.call rfl rfl rfl (mj w (MN e a.size) y) ML.en) ?_;refine ML.fc (fun v γ w=>GL d.heap.size w v (gh (xF P) (zZ (xF R)))) rfl rfl rfl Ph (fun γ w a D x=>WL.call rfl rfl rfl (mf w (MN e a.size) (rm _ _ _) x) ML.en) ?_;refine RB ?_;refine ML.fc (fun v γ w=>GL d.heap.size w v (u)) rfl rfl rfl Ph (fun γ w a m g=>WL.call rfl rfl rfl ((M w).low (MN e a.size)) ML.en) ?_;refine ML.fc (fun v γ w=>GL d.heap.size w v (zj (u))) rfl rfl rfl Ph (fun γ w a C t=>WL.call rfl rfl rfl (mp w (MN e a.size) 7 t) ML.en) ?_;refine ML.fc (fun v γ w=>GL d.heap.size w v (gh (gh (xF P) (zZ (xF R))) (zj (u)))) rfl rfl rfl Ph (fun γ w a m g B s=>WL.call rfl rfl rfl (mf w (MN e a.size) g s) ML.en) ?_;refine ML.fc (fun v γ w=>GL d.heap.size w v (AW (xF R) (gh (gh (xF P) (zZ (xF R))) (zj (u))))) rfl rfl rfl Ph (fun γ w a K J A r=>WL.call rfl rfl rfl (mr w (MN e a.size) J r) ML.en) ?_;refine ML.nil fun γ w' b L q A r B s C t m g D x E y K J=>?_
 change WL _ _ _ _ _ _ _
 have f:=f.ext b;have h:=h.ext b;have j:=j.ext b;have hn:=hn.ext b;have i:=i.ext b;have p:=p.trans b;have e:=MN e b.size;obtain⟨uo,uc,rfl,V⟩:=Rd.ltl q;refine WL.st rfl rfl rfl h rfl rfl Pr (fun z N o=>WL.nil (bu ?_));refine PQ ?_;exact bg rfl rfl N rfl ⟨(q.st o O7).low O7,Do p o O7⟩
set_option maxHeartbeats 1000000 in
theorem Ik(k sc P S Q R c:Int)(weak:Bool):∀(n:Nat),n≤1000→∀(w:World),Rt Tryz.prog 168 [.agg (BI k sc P S Q R c).toArray,Py (n:Int),.bool weak].toArray w (bS w (Ij k P S R n weak)):=by
 intro n
 induction n with
 |zero=>
  intro _ w
  refine dF Tryz.func168 Tryz.ntmps168 rfl rfl ?_;refine PB ?_;refine dX rfl rfl rfl fun w1 h e1=>?_
  refine dX rfl rfl rfl fun w2 hn T=>?_
  refine dX rfl rfl rfl fun w3 t O=>?_
  refine WL.alloc rfl rfl (fun w4 d B=>?_);have h:=((h.ext T).ext O).ext B;have hn:=(hn.ext O).ext B;have t:=t.ext B;have f:=((e1.trans T).trans O).trans B;have s1:=e1.size;have s2:=T.size;have s3:=O.size;have s4:=B.size;have hlr:=d.lt;refine QJ ?_;refine WL.alloc rfl rfl (fun w5 E e5=>?_);refine WL.st rfl rfl rfl E rfl rfl Pr (fun w6 E D=>?_);have A:Ext w4 w6:=e5.grown D e5.size Pi;have h:=h.ext A;have hn:=hn.ext A;have t:=t.ext A;have d:=d.ext A;have f:=f.trans A;refine QJ ?_;refine WL.alloc rfl rfl (fun w7 q e7=>?_);refine WL.st rfl rfl rfl q rfl rfl Pr (fun g q C=>?_);have s:Ext w6 g:=e7.grown C e7.size Pi;have h:=h.ext s;have hn:=hn.ext s;have t:=t.ext s;have d:=d.ext s;have E:=E.ext s;have f:=f.trans s;have s6:=A.size;have s8:=s.size;have o:g.heap.size≤g.heap.size:=MM _;clear e1 T O B e5 A e7 s D C;unfold Ij;refine QX ?_;by_cases k2:k=2
  ·subst k2
   rw[OK rfl];refine Qg ?_;refine WL.call rfl rfl rfl (IF g weak (ta:=xF P) (tb:=xF R) (fun x e=>If x (h.ext e)) (fun x e=>Ie x (h.ext e))) ?_;rintro v19 y ⟨H,ey⟩
   have d:=d.ext ey;have f:=f.trans ey;have p:=ey.size;obtain⟨uo,uc,rfl,m⟩:=Rd.ltl H;skip;refine WL.st rfl rfl rfl d rfl rfl Pr (fun z j a=>?_);refine Qp ?_;have b:=(H.st a O7).low (show w.heap.size≤g.heap.size by omega);exact bg rfl rfl j rfl ⟨b,Do f a O7⟩
  by_cases k3:k=3
  ·subst k3
   rw[OJ O9,OK rfl];have ed:=Ext.drew g;have h:=h.ext ed;have d:=d.ext ed;have q:=q.ext ed;have f:=f.trans ed;have o:g.heap.size≤(drew g).heap.size:=MN o ed.size;refine Ra ?_;refine aG 11 mixed O8 ?_;refine RC ?_;refine ML.fc (fun v γ w=>GL g.heap.size w v (xF R)) rfl rfl rfl Ph (fun γ w i=>d7 (xs:=[]) (vs:=[]) rfl rfl rfl rfl ((Ie w (h.ext i)).low (MN o i.size)) ML.en) ?_;refine ML.fc (fun v γ w=>GL g.heap.size w v (zZ (xF R))) rfl rfl rfl Ph (fun γ w i Y N=>WL.call rfl rfl rfl (mj w (MN o i.size) N) ML.en) ?_;refine RC ?_;refine cR rfl rfl rfl (fun γ w i=>WL.call rfl rfl rfl (mg w P) ML.en) ?_;refine RC ?_;refine ML.fc (fun v γ w=>GL g.heap.size w v (xF R)) rfl rfl rfl Ph (fun γ w i=>d7 (xs:=[]) (vs:=[]) rfl rfl rfl rfl ((Ie w (h.ext i)).low (MN o i.size)) ML.en) ?_;refine ML.fc (fun v γ w=>GL g.heap.size w v (zZ (xF R))) rfl rfl rfl Ph (fun γ w i W L=>WL.call rfl rfl rfl (mj w (MN o i.size) L) ML.en) ?_;refine ML.fc (fun v γ w=>GL g.heap.size w v (gh (xF P) (zZ (xF R)))) rfl rfl rfl Ph (fun γ w i V K=>WL.call rfl rfl rfl (mf w (MN o i.size) (rm _ _ _) K) ML.en) ?_;refine ML.fc (fun v γ w=>GL g.heap.size w v (Ic (zZ (xF R)) (gh (xF P) (zZ (xF R))))) rfl rfl rfl Ph (fun γ w i X M U J=>WL.call rfl rfl rfl (mz w (MN o i.size) M J) ML.en) ?_;refine ML.nil fun γ w' l v32 I U J V K W L X M Y N=>?_
   change WL _ _ _ _ _ _ _
   have h:=h.ext l;have d:=d.ext l;have q:=q.ext l;have f:=f.trans l;have o:=MN o l.size;obtain⟨uo,uc,rfl,m⟩:=Rd.ltl I;refine WL.st rfl rfl rfl d rfl rfl Pr (fun z j a=>WL.nil (bu ?_));refine Qk ?_;exact bg rfl rfl j rfl ⟨(I.st a O7).low O7,Do f a O7⟩
  by_cases k5:k=5
  ·subst k5
   rw[OJ O9,OJ O9,OK rfl];refine Qz ?_;refine WL.call rfl rfl rfl (IF g weak (ta:=zZ (xF P)) (tb:=AW (xF S) (xF R)) (fun x e=>Id x (h.ext e)) (fun x e=>Ig x (h.ext e) (q.ext e))) ?_;rintro v38 y ⟨G,ey⟩
   have d:=d.ext ey;have f:=f.trans ey;have p:=ey.size;obtain⟨uo,uc,rfl,m⟩:=Rd.ltl G;skip;refine WL.st rfl rfl rfl d rfl rfl Pr (fun z j a=>?_);refine Qp ?_;have b:=(G.st a O7).low (show w.heap.size≤g.heap.size by omega);exact bg rfl rfl j rfl ⟨b,Do f a O7⟩
  by_cases Z:k=6
  ·subst Z
   rw[OJ O9,OJ O9,OJ O9,OK rfl];refine Qz ?_;refine WL.call rfl rfl rfl (IF g weak (ta:=AW (zZ (xF P)) (Ic (zZ (xF R)) (gh (xF S) (zZ (xF R))))) (tb:=xF R) (fun x e=>Ih x (h.ext e) (E.ext e) (q.ext e)) (fun x e=>Ie x (h.ext e))) ?_;rintro v45 y ⟨F,ey⟩
   have d:=d.ext ey;have f:=f.trans ey;have p:=ey.size;obtain⟨uo,uc,rfl,m⟩:=Rd.ltl F;skip;refine WL.st rfl rfl rfl d rfl rfl Pr (fun z j a=>?_);refine Qp ?_;have b:=(F.st a O7).low (show w.heap.size≤g.heap.size by omega);exact bg rfl rfl j rfl ⟨b,Do f a O7⟩
  rw[OJ k2,OJ k3,OJ k5,OJ Z];rw[show(k==2)=false by simpa using k2];refine QA ?_;rw[show(k==3)=false by simpa using k3];refine QA ?_;rw[show(k==5)=false by simpa using k5];refine QA ?_;rw[show(k==6)=false by simpa using Z];refine QA ?_;by_cases k4:k=4
  ·subst k4
   rw[OK rfl];refine Q5 ?_;unfold iL;skip;refine WL.call rfl rfl rfl (IF g weak (ta:=zZ (xF P)) (tb:=xF R) (fun x e=>Id x (h.ext e)) (fun x e=>Ie x (h.ext e))) ?_;rintro v57 y ⟨r,ey⟩
   have d:=d.ext ey;have f:=f.trans ey;have p:=ey.size;obtain⟨uo,uc,rfl,m⟩:=Rd.ltl r;skip;refine WL.st rfl rfl rfl d rfl rfl Pr (fun z j a=>?_);refine PO ?_;have b:=(r.st a O7).low (show w.heap.size≤g.heap.size by omega);exact bg rfl rfl j rfl ⟨b,Do f a O7⟩
  rw[OJ k4];rw[show(k==4)=false by simpa using k4];refine Ql ?_;skip;refine WL.call rfl rfl rfl (IF g weak (ta:=zZ (xF P)) (tb:=xF R) (fun x e=>Id x (h.ext e)) (fun x e=>Ie x (h.ext e))) ?_;rintro v57 y ⟨r,ey⟩
  have d:=d.ext ey;have f:=f.trans ey;have p:=ey.size;obtain⟨uo,uc,rfl,m⟩:=Rd.ltl r;skip;refine WL.st rfl rfl rfl d rfl rfl Pr (fun z j a=>?_);refine PO ?_;have b:=(r.st a O7).low (show w.heap.size≤g.heap.size by omega);exact bg rfl rfl j rfl ⟨b,Do f a O7⟩
 |succ n ih=>
  intro hle w
  have ih:k=4→∀w:World,Rt Tryz.prog 168 [.agg (BI k sc P S Q R c).toArray,Py (((n+1:Nat):Int) -1),.bool weak].toArray w (bS w (iL P R weak n)):=by
   rw[show((n+1:Nat):Int) -1=(n:Int) by omega];intro t w
   have:=ih O7 w;rwa[show Ij k P S R n weak=iL P R weak n by subst t;unfold Ij;rw[OJ O9,OJ O9,OJ O9,OJ O9,OK rfl]]at this
  refine dF Tryz.func168 Tryz.ntmps168 rfl rfl ?_;refine PB ?_;refine dX rfl rfl rfl fun w1 h e1=>?_
  refine dX rfl rfl rfl fun w2 hn T=>?_
  refine dX rfl rfl rfl fun w3 t O=>?_
  refine WL.alloc rfl rfl (fun w4 d B=>?_);have h:=((h.ext T).ext O).ext B;have hn:=(hn.ext O).ext B;have t:=t.ext B;have f:=((e1.trans T).trans O).trans B;have s1:=e1.size;have s2:=T.size;have s3:=O.size;have s4:=B.size;have hlr:=d.lt;refine QJ ?_;refine WL.alloc rfl rfl (fun w5 E e5=>?_);refine WL.st rfl rfl rfl E rfl rfl Pr (fun w6 E D=>?_);have A:Ext w4 w6:=e5.grown D e5.size Pi;have h:=h.ext A;have hn:=hn.ext A;have t:=t.ext A;have d:=d.ext A;have f:=f.trans A;refine QJ ?_;refine WL.alloc rfl rfl (fun w7 q e7=>?_);refine WL.st rfl rfl rfl q rfl rfl Pr (fun g q C=>?_);have s:Ext w6 g:=e7.grown C e7.size Pi;have h:=h.ext s;have hn:=hn.ext s;have t:=t.ext s;have d:=d.ext s;have E:=E.ext s;have f:=f.trans s;have s6:=A.size;have s8:=s.size;have o:g.heap.size≤g.heap.size:=MM _;clear e1 T O B e5 A e7 s D C;unfold Ij;refine QX ?_;by_cases k2:k=2
  ·subst k2
   rw[OK rfl];refine Qg ?_;refine WL.call rfl rfl rfl (IF g weak (ta:=xF P) (tb:=xF R) (fun x e=>If x (h.ext e)) (fun x e=>Ie x (h.ext e))) ?_;rintro v19 y ⟨H,ey⟩
   have d:=d.ext ey;have f:=f.trans ey;have p:=ey.size;obtain⟨uo,uc,rfl,m⟩:=Rd.ltl H;skip;refine WL.st rfl rfl rfl d rfl rfl Pr (fun z j a=>?_);refine Qp ?_;have b:=(H.st a O7).low (show w.heap.size≤g.heap.size by omega);exact bg rfl rfl j rfl ⟨b,Do f a O7⟩
  by_cases k3:k=3
  ·subst k3
   rw[OJ O9,OK rfl];have ed:=Ext.drew g;have h:=h.ext ed;have d:=d.ext ed;have q:=q.ext ed;have f:=f.trans ed;have o:g.heap.size≤(drew g).heap.size:=MN o ed.size;refine Ra ?_;refine aG 11 mixed O8 ?_;refine RC ?_;refine ML.fc (fun v γ w=>GL g.heap.size w v (xF R)) rfl rfl rfl Ph (fun γ w i=>d7 (xs:=[]) (vs:=[]) rfl rfl rfl rfl ((Ie w (h.ext i)).low (MN o i.size)) ML.en) ?_;refine ML.fc (fun v γ w=>GL g.heap.size w v (zZ (xF R))) rfl rfl rfl Ph (fun γ w i Y N=>WL.call rfl rfl rfl (mj w (MN o i.size) N) ML.en) ?_;refine RC ?_;refine cR rfl rfl rfl (fun γ w i=>WL.call rfl rfl rfl (mg w P) ML.en) ?_;refine RC ?_;refine ML.fc (fun v γ w=>GL g.heap.size w v (xF R)) rfl rfl rfl Ph (fun γ w i=>d7 (xs:=[]) (vs:=[]) rfl rfl rfl rfl ((Ie w (h.ext i)).low (MN o i.size)) ML.en) ?_;refine ML.fc (fun v γ w=>GL g.heap.size w v (zZ (xF R))) rfl rfl rfl Ph (fun γ w i W L=>WL.call rfl rfl rfl (mj w (MN o i.size) L) ML.en) ?_;refine ML.fc (fun v γ w=>GL g.heap.size w v (gh (xF P) (zZ (xF R)))) rfl rfl rfl Ph (fun γ w i V K=>WL.call rfl rfl rfl (mf w (MN o i.size) (rm _ _ _) K) ML.en) ?_;refine ML.fc (fun v γ w=>GL g.heap.size w v (Ic (zZ (xF R)) (gh (xF P) (zZ (xF R))))) rfl rfl rfl Ph (fun γ w i X M U J=>WL.call rfl rfl rfl (mz w (MN o i.size) M J) ML.en) ?_;refine ML.nil fun γ w' l v32 I U J V K W L X M Y N=>?_
   change WL _ _ _ _ _ _ _
   have h:=h.ext l;have d:=d.ext l;have q:=q.ext l;have f:=f.trans l;have o:=MN o l.size;obtain⟨uo,uc,rfl,m⟩:=Rd.ltl I;refine WL.st rfl rfl rfl d rfl rfl Pr (fun z j a=>WL.nil (bu ?_));refine Qk ?_;exact bg rfl rfl j rfl ⟨(I.st a O7).low O7,Do f a O7⟩
  by_cases k5:k=5
  ·subst k5
   rw[OJ O9,OJ O9,OK rfl];refine Qz ?_;refine WL.call rfl rfl rfl (IF g weak (ta:=zZ (xF P)) (tb:=AW (xF S) (xF R)) (fun x e=>Id x (h.ext e)) (fun x e=>Ig x (h.ext e) (q.ext e))) ?_;rintro v38 y ⟨G,ey⟩
   have d:=d.ext ey;have f:=f.trans ey;have p:=ey.size;obtain⟨uo,uc,rfl,m⟩:=Rd.ltl G;skip;refine WL.st rfl rfl rfl d rfl rfl Pr (fun z j a=>?_);refine Qp ?_;have b:=(G.st a O7).low (show w.heap.size≤g.heap.size by omega);exact bg rfl rfl j rfl ⟨b,Do f a O7⟩
  by_cases Z:k=6
  ·subst Z
   rw[OJ O9,OJ O9,OJ O9,OK rfl];refine Qz ?_;refine WL.call rfl rfl rfl (IF g weak (ta:=AW (zZ (xF P)) (Ic (zZ (xF R)) (gh (xF S) (zZ (xF R))))) (tb:=xF R) (fun x e=>Ih x (h.ext e) (E.ext e) (q.ext e)) (fun x e=>Ie x (h.ext e))) ?_;rintro v45 y ⟨F,ey⟩
   have d:=d.ext ey;have f:=f.trans ey;have p:=ey.size;obtain⟨uo,uc,rfl,m⟩:=Rd.ltl F;skip;refine WL.st rfl rfl rfl d rfl rfl Pr (fun z j a=>?_);refine Qp ?_;have b:=(F.st a O7).low (show w.heap.size≤g.heap.size by omega);exact bg rfl rfl j rfl ⟨b,Do f a O7⟩
  rw[OJ k2,OJ k3,OJ k5,OJ Z];rw[show(k==2)=false by simpa using k2];refine QA ?_;rw[show(k==3)=false by simpa using k3];refine QA ?_;rw[show(k==5)=false by simpa using k5];refine QA ?_;rw[show(k==6)=false by simpa using Z];refine QA ?_;by_cases k4:k=4
  ·subst k4
   rw[OK rfl];refine Q7 ?_;have ih:=ih rfl;rw[OC (show((n+1:Nat):Int)>0 by omega)];unfold iL;refine Qg ?_;refine WL.call rfl rfl rfl (IF g weak (ta:=zZ (xF P)) (tb:=AW (xF R) (gh (gh (xF P) (zZ (xF R))) (zj (iL P R weak n)))) (fun x e=>Id x (h.ext e)) (fun x e=>Ii (n:=n) (weak:=weak) (u:=iL P R weak n) x (h.ext e) (q.ext e) (hn.ext e) (t.ext e) O7 ih)) ?_;rintro v53 y ⟨h53,ey⟩
   have d:=d.ext ey;have f:=f.trans ey;have p:=ey.size;obtain⟨uo,uc,rfl,m⟩:=Rd.ltl h53;skip;refine WL.st rfl rfl rfl d rfl rfl Pr (fun z j a=>?_);refine Qp ?_;have b:=(h53.st a O7).low (show w.heap.size≤g.heap.size by omega);exact bg rfl rfl j rfl ⟨b,Do f a O7⟩
  rw[OJ k4];rw[show(k==4)=false by simpa using k4];refine Ql ?_;skip;refine WL.call rfl rfl rfl (IF g weak (ta:=zZ (xF P)) (tb:=xF R) (fun x e=>Id x (h.ext e)) (fun x e=>Ie x (h.ext e))) ?_;rintro v57 y ⟨r,ey⟩
  have d:=d.ext ey;have f:=f.trans ey;have p:=ey.size;obtain⟨uo,uc,rfl,m⟩:=Rd.ltl r;skip;refine WL.st rfl rfl rfl d rfl rfl Pr (fun z j a=>?_);refine PO ?_;have b:=(r.st a O7).low (show w.heap.size≤g.heap.size by omega);exact bg rfl rfl j rfl ⟨b,Do f a O7⟩
theorem FM.keep{B k b:Nat}{γ:Nat→Nat}{w w':World}{v:Value}{t:Ltl}(h:Rd w (FM B k γ w) v t)(f:k<γ b)(d:w.grownBy w' (some b)):Rd w' (FM B k γ w') v t:=
 (Rd.kept h d (fun c a=>⟨a.2.1,fun e=>by have:=Nn e;subst this;have:=a.2.2;omega⟩)).wk (fun c a=>⟨a.1,MQ a.2.1 d.size,a.2.2⟩)
set_option maxHeartbeats 2000000 in
theorem p_(w:World)(k sc P S Q R:Int)(n:Nat)(hn:n≤1000):Rt Tryz.prog 106 [.agg (BI k sc P S Q R (n:Int)).toArray].toArray w (bS w (mA (k,sc,P,S,Q,R,(n:Int)))):=by
 refine dD Tryz.func106 Tryz.ntmps106 rfl rfl ?_;have hg:=rp k sc P S Q R (n:Int) n hn;have hu:=fun weak=>Ik k sc P S Q R (n:Int) weak n hn
 refine PB ?_;refine dX rfl rfl rfl fun w1 p e1=>?_
 refine WL.alloc rfl rfl (fun j m e2=>?_);have p:=p.ext e2;have l:=e1.trans e2;have hlr:=m.lt;have hs1:=e1.size;have d:j.heap.size≤j.heap.size:=MM _;unfold mA;dsimp only;rw[Kb];have ed:=Ext.drew j;have p:=p.ext ed;have m:=m.ext ed;have l:=l.trans ed;have d:j.heap.size≤(drew j).heap.size:=MN d ed.size;refine PP ?_;refine aG 9 mixed O8 ?_;refine RC ?_;refine cR rfl rfl rfl (fun γ w c=>WL.call rfl rfl rfl (mg w Q) ML.en) ?_;refine RC ?_;refine cR rfl rfl rfl (fun γ w c=>WL.call rfl rfl rfl (mg w R) ML.en) ?_;refine ML.fc (fun v γ w=>Rd w (FM j.heap.size 6 γ w) v (zZ (xF R))) rfl rfl rfl FT (fun γ w c=>WL.call rfl rfl rfl (FM.call (i:=6) (by omega) (MN d c.size) (mh w FM.lt (Dw _ _ _))) (fun v w' h=>WL.nil (a8 rfl h.2 h.1))) ?_;refine ML.fc (fun v γ w=>∃b,v=Pz b∧γ b=7∧j.heap.size≤b∧Blk w b 32 [Py 0,Py 0,.slice none 0 0]) rfl rfl rfl FQ (fun γ w c=>WL.alloc rfl rfl (fun w' hb e=>WL.nil (a8 rfl e ⟨_,rfl,iX,MN d c.size,hb⟩))) ?_;refine ML.fc (fun v γ w=>∃b,v=Pz b∧γ b=8∧j.heap.size≤b∧Blk w b 32 [Py 0,Py 0,.slice none 0 0]) rfl rfl rfl FQ (fun γ w c=>WL.alloc rfl rfl (fun w' hb e=>WL.nil (a8 rfl e ⟨_,rfl,iX,MN d c.size,hb⟩))) ?_;refine ML.nil fun γ w' a v4 g4 v3 g3 v11 u=>?_
 change WL _ _ _ _ _ _ _
 have p:=p.ext a;have m:=m.ext a;have l:=l.trans a;have d:=MN d a.size;obtain⟨b4,rfl,hγ4,hB4,f⟩:=g4;obtain⟨b3,rfl,hγ3,hB3,g⟩:=g3;have H:b3≠b4:=fun e=>by subst e;rw[hγ3]at hγ4;cases hγ4
 obtain⟨uo,uc,rfl,t⟩:=Rd.ltl u;refine WL.st rfl rfl rfl g rfl rfl Pr (fun w3 g s=>?_);have f:=f.kept s (fun e=>H (Nn e).symm);have u:=FM.keep u (b:=b3) (by rw[hγ3];decide) s;have m:=m.kept s Po;have p:=p.kept s Po;have l:Ext w w3:=l.grown s l.size Pk;have d:=MN d s.size;refine WL.st rfl rfl rfl f rfl rfl Pr (fun x f r=>WL.nil (bu ?_));have q:=FM.st u (b:=b4) (by rw[hγ4];decide) r;have g:=g.kept r (fun e=>H (Nn e));have m:=m.kept r Po;have p:=p.kept r Po;have l:Ext w x:=l.grown r l.size Pk;have d:=MN d r.size;clear u t s r a e1 e2;refine QX ?_;by_cases s2:sc=2
 ·subst s2
  rw[OK rfl];have ed:=Ext.drew x;have p:=p.ext ed;have m:=m.ext ed;have g:=g.ext ed;have f:=f.ext ed;have q:=q.ext ed;have l:=l.trans ed;have d:j.heap.size≤(drew x).heap.size:=MN d ed.size;refine Qu ?_;refine aG 10 mixed O8 ?_;refine RC ?_;refine cR rfl rfl rfl (fun γ w c=>WL.call rfl rfl rfl (mg w R) ML.en) ?_;refine ML.fc (fun v γ w=>GL j.heap.size w v (o7 (xF R))) rfl rfl rfl Ph (fun γ w c=>WL.call rfl rfl rfl (mp w (MN d c.size) 10 (rm _ _ _)) ML.en) ?_;refine ML.fc (fun v γ w=>GL j.heap.size w v (zZ (o7 (xF R)))) rfl rfl rfl Ph (fun γ w c v19 g19=>WL.call rfl rfl rfl (mj w (MN d c.size) g19) ML.en) ?_;refine RB ?_;refine ML.fc (fun v γ w=>GL j.heap.size w v (Ij k P S R n false)) rfl rfl rfl Ph (fun γ w c G D=>WL.call rfl rfl rfl ((hu false w).low (MN d c.size)) ML.en) ?_;refine ML.fc (fun v γ w=>GL j.heap.size w v (AW (zZ (o7 (xF R))) (Ij k P S R n false))) rfl rfl rfl Ph (fun γ w c G D v24 g24=>WL.call rfl rfl rfl (mr w (MN d c.size) D g24) ML.en) ?_;refine ML.nil fun γ w' a v25 g25 v24 g24 G D v19 g19=>?_
  change WL _ _ _ _ _ _ _
  have p:=p.ext a;have m:=m.ext a;have g:=g.ext a;have f:=f.ext a;have q:=q.ext a;have l:=l.trans a;have d:=MN d a.size;obtain⟨uo,uc,rfl,t⟩:=Rd.ltl g25;refine WL.st rfl rfl rfl m rfl rfl Pr (fun z y o=>WL.nil (bu ?_));refine Qk ?_;exact bg rfl rfl y rfl ⟨(g25.st o O7).low O7,Do l o O7⟩
 by_cases s3:sc=3
 ·subst s3
  rw[OJ O9,OK rfl];have ed:=Ext.drew x;have p:=p.ext ed;have m:=m.ext ed;have g:=g.ext ed;have f:=f.ext ed;have q:=q.ext ed;have l:=l.trans ed;have d:j.heap.size≤(drew x).heap.size:=MN d ed.size;refine Ra ?_;refine aG 17 mixed O8 ?_;refine RA ?_;refine ML.fc (fun v γ w=>GL j.heap.size w v (zZ (xF Q))) rfl rfl rfl Ph (fun γ w c=>WL.call rfl rfl rfl (mj w (MN d c.size) (rm _ _ _)) ML.en) ?_;refine ML.fc (fun v γ w=>GL j.heap.size w v (gg (zZ (xF Q)))) rfl rfl rfl Ph (fun γ w c v29 g29=>WL.call rfl rfl rfl (md w (MN d c.size) g29) ML.en) ?_;refine RC ?_;refine cR rfl rfl rfl (fun γ w c=>WL.call rfl rfl rfl (mg w Q) ML.en) ?_;refine ML.fc (fun v γ w=>GL j.heap.size w v (zZ (xF Q))) rfl rfl rfl Ph (fun γ w c=>WL.call rfl rfl rfl (mj w (MN d c.size) (rm _ _ _)) ML.en) ?_;refine RC ?_;refine cR rfl rfl rfl (fun γ w c=>WL.call rfl rfl rfl (mg w Q) ML.en) ?_;refine RB ?_;refine ML.fc (fun v γ w=>GL j.heap.size w v (rn k P S n)) rfl rfl rfl Ph (fun γ w c=>WL.call rfl rfl rfl ((hg w).low (MN d c.size)) ML.en) ?_;refine ML.fc (fun v γ w=>GL j.heap.size w v (gh (xF Q) (rn k P S n))) rfl rfl rfl Ph (fun γ w c v41 g41=>WL.call rfl rfl rfl (mf w (MN d c.size) (rm _ _ _) g41) ML.en) ?_;refine ML.fc (fun v γ w=>GL j.heap.size w v (Ic (zZ (xF Q)) (gh (xF Q) (rn k P S n)))) rfl rfl rfl Ph (fun γ w c v34 g34 v42 Z=>WL.call rfl rfl rfl (mz w (MN d c.size) g34 Z) ML.en) ?_;refine ML.fc (fun v γ w=>GL j.heap.size w v (AW (gg (zZ (xF Q))) (Ic (zZ (xF Q)) (gh (xF Q) (rn k P S n))))) rfl rfl rfl Ph (fun γ w c v30 g30 v43 Y=>WL.call rfl rfl rfl (mr w (MN d c.size) g30 Y) ML.en) ?_;refine ML.nil fun γ w' a v44 X v43 Y v42 Z v41 g41 v34 g34 v30 g30 v29 g29=>?_
  change WL _ _ _ _ _ _ _
  have p:=p.ext a;have m:=m.ext a;have g:=g.ext a;have f:=f.ext a;have q:=q.ext a;have l:=l.trans a;have d:=MN d a.size;obtain⟨uo,uc,rfl,t⟩:=Rd.ltl X;refine WL.st rfl rfl rfl m rfl rfl Pr (fun z y o=>WL.nil (bu ?_));refine Qk ?_;exact bg rfl rfl y rfl ⟨(X.st o O7).low O7,Do l o O7⟩
 by_cases s4:sc=4
 ·subst s4
  rw[OJ O9,OJ O9,OK rfl];have ed:=Ext.drew x;have p:=p.ext ed;have m:=m.ext ed;have g:=g.ext ed;have f:=f.ext ed;have q:=q.ext ed;have l:=l.trans ed;have d:j.heap.size≤(drew x).heap.size:=MN d ed.size;refine Ra ?_;refine aG 15 mixed O8 ?_;refine RA ?_;refine ML.fc (fun v γ w=>GL j.heap.size w v (gh (xF Q) (zZ (xF R)))) rfl rfl rfl Ph (fun γ w c=>WL.call rfl rfl rfl (mf w (MN d c.size) (rm _ _ _) (q.ext c)) ML.en) ?_;refine RC ?_;refine cR rfl rfl rfl (fun γ w c=>WL.call rfl rfl rfl (mg w R) ML.en) ?_;refine ML.fc (fun v γ w=>GL j.heap.size w v (o7 (xF R))) rfl rfl rfl Ph (fun γ w c=>WL.call rfl rfl rfl (mp w (MN d c.size) 10 (rm _ _ _)) ML.en) ?_;refine ML.fc (fun v γ w=>GL j.heap.size w v (gh (gh (xF Q) (zZ (xF R))) (o7 (xF R)))) rfl rfl rfl Ph (fun γ w c v49 W v53 V=>WL.call rfl rfl rfl (mf w (MN d c.size) W V) ML.en) ?_;refine ML.fc (fun v γ w=>GL j.heap.size w v (zZ (gh (gh (xF Q) (zZ (xF R))) (o7 (xF R))))) rfl rfl rfl Ph (fun γ w c v54 U=>WL.call rfl rfl rfl (mj w (MN d c.size) U) ML.en) ?_;refine RB ?_;refine ML.fc (fun v γ w=>GL j.heap.size w v (Ij k P S R n false)) rfl rfl rfl Ph (fun γ w c F C=>WL.call rfl rfl rfl ((hu false w).low (MN d c.size)) ML.en) ?_;refine ML.fc (fun v γ w=>GL j.heap.size w v (AW (zZ (gh (gh (xF Q) (zZ (xF R))) (o7 (xF R)))) (Ij k P S R n false))) rfl rfl rfl Ph (fun γ w c F C v59 T=>WL.call rfl rfl rfl (mr w (MN d c.size) C T) ML.en) ?_;refine ML.fc (fun v γ w=>GL j.heap.size w v (gg (AW (zZ (gh (gh (xF Q) (zZ (xF R))) (o7 (xF R)))) (Ij k P S R n false)))) rfl rfl rfl Ph (fun γ w c v60 O=>WL.call rfl rfl rfl (md w (MN d c.size) O) ML.en) ?_;refine ML.nil fun γ w' a v61 N v60 O v59 T F C v54 U v53 V v49 W=>?_
  change WL _ _ _ _ _ _ _
  have p:=p.ext a;have m:=m.ext a;have g:=g.ext a;have f:=f.ext a;have q:=q.ext a;have l:=l.trans a;have d:=MN d a.size;obtain⟨uo,uc,rfl,t⟩:=Rd.ltl N;refine WL.st rfl rfl rfl m rfl rfl Pr (fun z y o=>WL.nil (bu ?_));refine Qk ?_;exact bg rfl rfl y rfl ⟨(N.st o O7).low O7,Do l o O7⟩
 by_cases s5:sc=5
 ·subst s5
  rw[OJ O9,OJ O9,OJ O9,OK rfl];have ed:=Ext.drew x;have p:=p.ext ed;have m:=m.ext ed;have g:=g.ext ed;have f:=f.ext ed;have q:=q.ext ed;have l:=l.trans ed;have d:j.heap.size≤(drew x).heap.size:=MN d ed.size;refine Ra ?_;refine aG 10 mixed O8 ?_;refine RA ?_;refine ML.fc (fun v γ w=>GL j.heap.size w v (gh (xF Q) (zZ (xF R)))) rfl rfl rfl Ph (fun γ w c=>WL.call rfl rfl rfl (mf w (MN d c.size) (rm _ _ _) (q.ext c)) ML.en) ?_;refine ML.fc (fun v γ w=>GL j.heap.size w v (zZ (gh (xF Q) (zZ (xF R))))) rfl rfl rfl Ph (fun γ w c v66 M=>WL.call rfl rfl rfl (mj w (MN d c.size) M) ML.en) ?_;refine RB ?_;refine ML.fc (fun v γ w=>GL j.heap.size w v (Ij k P S R n true)) rfl rfl rfl Ph (fun γ w c E B=>WL.call rfl rfl rfl ((hu true w).low (MN d c.size)) ML.en) ?_;refine ML.fc (fun v γ w=>GL j.heap.size w v (AW (zZ (gh (xF Q) (zZ (xF R)))) (Ij k P S R n true))) rfl rfl rfl Ph (fun γ w c E B v71 L=>WL.call rfl rfl rfl (mr w (MN d c.size) B L) ML.en) ?_;refine ML.fc (fun v γ w=>GL j.heap.size w v (gg (AW (zZ (gh (xF Q) (zZ (xF R)))) (Ij k P S R n true)))) rfl rfl rfl Ph (fun γ w c v72 K=>WL.call rfl rfl rfl (md w (MN d c.size) K) ML.en) ?_;refine ML.nil fun γ w' a v73 J v72 K v71 L E B v66 M=>?_
  change WL _ _ _ _ _ _ _
  have p:=p.ext a;have m:=m.ext a;have g:=g.ext a;have f:=f.ext a;have q:=q.ext a;have l:=l.trans a;have d:=MN d a.size;obtain⟨uo,uc,rfl,t⟩:=Rd.ltl J;refine WL.st rfl rfl rfl m rfl rfl Pr (fun z y o=>WL.nil (bu ?_));refine Qk ?_;exact bg rfl rfl y rfl ⟨(J.st o O7).low O7,Do l o O7⟩
 rw[OJ s2,OJ s3,OJ s4,OJ s5];rw[show(sc==2)=false by simpa using s2];refine QA ?_;rw[show(sc==3)=false by simpa using s3];refine QA ?_;rw[show(sc==4)=false by simpa using s4];refine QA ?_;rw[show(sc==5)=false by simpa using s5];refine Ql ?_;skip;skip;refine WL.call rfl rfl rfl ((hg x).low d) ?_;rintro v77 y1 ⟨I,A⟩
 have p:=p.ext A;have m:=m.ext A;have l:=l.trans A;have d:=MN d A.size;obtain⟨uo,uc,rfl,t⟩:=Rd.ltl I;skip;refine WL.st rfl rfl rfl m rfl rfl Pr (fun z y o=>?_);refine PO ?_;exact bg rfl rfl y rfl ⟨(I.st o O7).low O7,Do l o O7⟩
section
variable {s l:List Nat}{e P S to i:Nat}{k:Int}{st:KS}
abbrev Hs(s l:List Nat)(a:Nat)(j:Nat):Prop:=xx s l j >>> a&&&1=1
end
section
variable {pt:cH}{s l:List Nat}{i to:Nat}
abbrev cnt(pt:cH):Nat:=pt.2.2.2.2.2.2.toNat
abbrev hP(pt:cH)(s l:List Nat):Nat→Prop:=Hs s l pt.2.2.1.toNat
abbrev hS(pt:cH)(s l:List Nat):Nat→Prop:=Hs s l pt.2.2.2.1.toNat
abbrev hQ(pt:cH)(s l:List Nat):Nat→Prop:=Hs s l pt.2.2.2.2.1.toNat
abbrev hR(pt:cH)(s l:List Nat):Nat→Prop:=Hs s l pt.2.2.2.2.2.1.toNat
end
def lZ(pt:cH):Ltl×Int:=if jJ pt≠0 then(.mk 0 0 [],jJ pt)else if(jv (mA pt) 1 0).1≠0 then(.mk 0 0 [],(jv (mA pt) 1 0).1)else(mA pt,0)
theorem jK{pt:cH}(h:jJ pt=0):∃n:Nat,pt.2.2.2.2.2.2=(n:Int)∧n≤3:=by
 unfold jJ at h
 split at h
 ·cases h
 split at h
 ·cases h
 split at h
 ·cases h
 ·rename_i h3
  exact⟨pt.2.2.2.2.2.2.toNat,by omega,by omega⟩
theorem l_(w:World)(pt:cH):
  Rt Tryz.prog 56 [BJ pt].toArray w fun u w'=>∃x,u=.tuple ⟨[x,Py (lZ pt).2]⟩∧GL w.heap.size w' x (lZ pt).1∧Ext w w':=by
 refine dD Tryz.func56 Tryz.ntmps56 rfl rfl ?_;refine PB ?_;refine dX rfl rfl rfl fun w1 z p=>?_
 refine WL.alloc rfl rfl (fun V O h=>?_);have z:=z.ext h;have o:=p.trans h;refine Q4 ?_;refine WL.call rfl rfl rfl (mB V pt) ?_;rintro _ t ⟨rfl,s⟩
 have ht3:=z.ext s;have m:=O.ext s;have g:=o.trans s;have hz1:=p.size;have hz2:=h.size;have hlr:=O.lt;have hz3:=s.size;refine Qt ?_;unfold lZ;apply CW.cond rfl<;>intro i
 ·have i:jJ pt≠0:=by simpa using i
  rw[OK i];refine PB ?_;refine WL.build (parts:=[]) rfl rfl rfl rfl ?_;refine Ri ?_;refine WL.st rfl rfl rfl m rfl rfl Pr (fun M B E=>?_);refine PS ?_;exact bh rfl rfl rfl B rfl ⟨_,rfl,Rd.mkLtl (kids:=[]) (Sl.zero _ _),g.grown E g.size Pk⟩
 ·have i:jJ pt=0:=by simpa using i
  rw[OJ (by simp[i])];refine QH ?_;have F:Rt Tryz.prog 106 [BJ pt].toArray t (bS t (mA pt)):=by
   obtain⟨n,hn,hn3⟩:=jK i;obtain⟨k,sc,P,S,Q,R,c⟩:=pt;dsimp only at hn
   subst hn;exact p_ t k sc P S Q R n O7
  refine WL.call rfl rfl rfl F ?_;rintro v M ⟨N,T⟩
  have Z:=T.size;refine WL.alloc rfl rfl (fun w5 H K=>?_);have Y:=K.size;obtain⟨uo,uc,rfl,_⟩:=Rd.ltl N;refine WL.st rfl rfl rfl H rfl rfl Pr (fun L G D=>?_);have J:Ext M L:=K.grown D K.size Pi;have j:=N.ext J;obtain⟨uo',uc',e,C⟩:=Rd.ltl j;obtain⟨rfl,rfl⟩:uo'=uo∧uc'=uc:=by
   simp[ym]at e
   exact⟨e.1.symm,e.2.symm⟩
  have r:=T.trans J;have A:=m.ext r;have I:=g.trans r;have X:=J.size;refine PJ ?_;refine WL.call rfl rfl rfl (yk L C (fun b hb=>hb.2)) ?_;rintro _ w7 ⟨rfl,q⟩
  have l:=A.ext q;have hb7:=G.ext q;have d:=I.trans q;have y:=j.ext q;have W:=q.size;refine Qt ?_;apply CW.cond rfl<;>intro h2
  ·have h2:(jv (mA pt) 1 0).1≠0:=by simpa using h2
   rw[OK h2];refine PB ?_;refine WL.build (parts:=[]) rfl rfl rfl rfl ?_;refine Ri ?_;refine WL.st rfl rfl rfl l rfl rfl Pr (fun U f a=>?_);refine PS ?_;exact bh rfl rfl rfl f rfl ⟨_,rfl,Rd.mkLtl (kids:=[]) (Sl.zero _ _),d.grown a d.size Pk⟩
  ·have h2:(jv (mA pt) 1 0).1=0:=by simpa using h2
   rw[OJ (by simp[h2])];refine QH ?_;refine WL.st rfl rfl rfl l rfl rfl Pr (fun U f a=>?_);refine PK ?_;exact bh rfl rfl rfl f rfl ⟨_,rfl,(y.st a O7).low O7,d.grown a d.size Pk⟩
theorem lI(w:World){F:Nat→Prop}(hF:∀b,F b→b<w.heap.size)(k:Int){v:Value}{t:Ltl}(h:Rd w F v t):Rt Tryz.prog 186 [Py k,v].toArray w fun v w'=>Rd w' (da F w w') v (.mk k 0 [t]:Ltl)∧Ext w w':=by
 obtain⟨ao,cap,rfl,I⟩:=Rd.ltl h;refine dE Tryz.func186 Tryz.ntmps186 rfl rfl ?_;refine PB ?_;refine dX rfl rfl rfl fun A d f=>?_
 refine WL.alloc rfl rfl (fun l x j=>?_);have H:=d.ext j;have a:=f.trans j;refine Q4 ?_;have E:Rd l F (ym t.k t.n ao t.kids.length cap) t:=Rd.mono h (fun b d=>a.block b (hF b d)) Pl;have m:w.heap.size≤l.heap.size:=a.size;have D:=x.lt;have B:w.heap.size≤A.heap.size:=f.size;refine WL.lit (F:=F) (ys:=[t]) rfl rfl rfl rfl rfl (.cons E .nil) (by show 1*3≤16777216;decide) (fun b d=>MQ (hF b d) m) (fun z y p=>?_);have e:Ext l z:=(Ext.refl l).grown p Pu Pn;have o:=x.ext e;have c:=a.trans e;refine WL.build rfl rfl rfl rfl ?_;refine WL.st rfl rfl rfl o rfl rfl Pr (fun s n i=>?_);have r:Ext w s:=c.grown i c.size (fun g q=>by cases q;exact f.size);have ho4:=y.kept i (fun g q=>by have:=(y.lt g q).1;simp;omega) (fun b d=>⟨MQ (hF b d) c.size,by have:b<w.heap.size:=hF b d;simp;omega⟩);obtain⟨uo,uc,G,C⟩:=(ho4.rd.mono (F':=da F w s) Pq (fun b d=>d.elim .inl fun u=>.inr ⟨MN a.size (ho4.lt b u).1,(ho4.lt b u).2.1⟩)).sl;obtain⟨rfl,_,rfl⟩:=Oi G;refine PO ?_;exact bg rfl rfl n rfl ⟨Rd.mkLtl (kids:=[t]) C,r⟩
theorem lP(w:World){F:Nat→Prop}(hF:∀b,F b→b<w.heap.size)(k:Int){v A:Value}{t i:Ltl}(h:Rd w F v t)(E:Rd w F A i):Rt Tryz.prog 182 [Py k,v,A].toArray w fun v w'=>Rd w' (da F w w') v (.mk k 0 [t,i]:Ltl)∧Ext w w':=by
 obtain⟨ao,cap,rfl,P⟩:=Rd.ltl h;obtain⟨ao',cap',rfl,M⟩:=Rd.ltl E;refine dF Tryz.func182 Tryz.ntmps182 rfl rfl ?_;refine PB ?_;refine dX rfl rfl rfl fun w0 f y=>?_
 refine dX rfl rfl rfl fun H d c=>?_
 have f:=f.ext c;have c:=y.trans c;refine WL.alloc rfl rfl (fun m C l=>?_);have f:=f.ext l;have O:=d.ext l;have a:=c.trans l;refine Q4 ?_;have L:Rd m F (ym t.k t.n ao t.kids.length cap) t:=Rd.mono h (fun b d=>a.block b (hF b d)) Pl;have r:Rd m F (ym i.k i.n ao' i.kids.length cap') i:=Rd.mono E (fun b d=>a.block b (hF b d)) Pl;have o:w.heap.size≤m.heap.size:=a.size;have K:=C.lt;have I:w.heap.size≤H.heap.size:=c.size;refine WL.lit (F:=F) (ys:=[t,i]) rfl rfl rfl rfl rfl (.cons L (.cons r .nil)) (by show 2*3≤16777216;decide) (fun b d=>MQ (hF b d) o) (fun G D s=>?_);have j:Ext m G:=(Ext.refl m).grown s Pu Pn;have q:=C.ext j;have e:=a.trans j;refine WL.build rfl rfl rfl rfl ?_;refine WL.st rfl rfl rfl q rfl rfl Pr (fun z p n=>?_);have x:Ext w z:=e.grown n e.size (fun g u=>by cases u;exact c.size);have ho4:=D.kept n (fun g u=>by have:=(D.lt g u).1;simp;omega) (fun b d=>⟨MQ (hF b d) e.size,by have:b<w.heap.size:=hF b d;simp;omega⟩);obtain⟨uo,uc,N,J⟩:=(ho4.rd.mono (F':=da F w z) Pq (fun b d=>d.elim .inl fun B=>.inr ⟨MN a.size (ho4.lt b B).1,(ho4.lt b B).2.1⟩)).sl;obtain⟨rfl,_,rfl⟩:=Oi N;refine PO ?_;exact bg rfl rfl p rfl ⟨Rd.mkLtl (kids:=[t,i]) J,x⟩
theorem lJ(w:World){B:Nat}(c:B≤w.heap.size)(k:Int){v:Value}{t:Ltl}(h:GL B w v t):Rt Tryz.prog 186 [Py k,v].toArray w fun u w'=>GL B w' u (.mk k 0 [t])∧Ext w w':=
 (lI w (fun b a=>a.2) k h).mono fun u w' h=>⟨h.1.wk (GL.plus c h.2),h.2⟩
theorem lQ(w:World){B:Nat}(e:B≤w.heap.size)(k:Int){v a:Value}{t c:Ltl}(h:GL B w v t)(f:GL B w a c):Rt Tryz.prog 182 [Py k,v,a].toArray w fun u w'=>GL B w' u (.mk k 0 [t,c])∧Ext w w':=
 (lP w (F:=fun b=>B≤b∧b<w.heap.size) (fun b d=>d.2) k h f).mono fun u w' h=>⟨h.1.wk (GL.plus e h.2),h.2⟩
theorem lG(w:World){F:Nat→Prop}(hF:∀b,F b→b<w.heap.size){v:Value}{t:Ltl}(h:Rd w F v t):Rt Tryz.prog 179 [v].toArray w fun u w'=>Rd w' (da F w w') u (.mk 4 0 [t]:Ltl)∧Ext w w':=by
 obtain⟨ao,cap,rfl,s⟩:=Rd.ltl h;refine dD Tryz.func179 Tryz.ntmps179 rfl rfl ?_;refine PB ?_;refine dX rfl rfl rfl fun o f e=>?_
 refine WL.alloc rfl rfl (fun n m d=>?_);have f:=f.ext d;have g:=e.trans d;have a:w.heap.size≤o.heap.size:=e.size;have j:=m.lt;refine PJ ?_;refine WL.call rfl rfl rfl (lI n (fun b f=>MQ (hF b f) g.size) 4 (Rd.up0 h g hF)) ?_;rintro u r ⟨l,k⟩
 obtain⟨uo,uc,rfl,p⟩:=Rd.ltl l;refine WL.st rfl rfl rfl (m.ext k) rfl rfl Pr (fun q i c=>?_);refine PO ?_;exact bg rfl rfl i rfl ⟨o9 l c hF a j g.size k.size,Do (g.trans k) c a⟩
theorem lH(w:World){B:Nat}(c:B≤w.heap.size){v:Value}{t:Ltl}(h:GL B w v t):Rt Tryz.prog 179 [v].toArray w fun u w'=>GL B w' u (.mk 4 0 [t])∧Ext w w':=
 (lG w (fun b a=>a.2) h).mono fun u w' h=>⟨h.1.wk (GL.plus c h.2),h.2⟩
theorem lM(w:World){F:Nat→Prop}(hF:∀b,F b→b<w.heap.size){v:Value}{t:Ltl}(h:Rd w F v t):Rt Tryz.prog 180 [v].toArray w fun u w'=>Rd w' (da F w w') u (.mk 10 0 [t]:Ltl)∧Ext w w':=by
 obtain⟨ao,cap,rfl,s⟩:=Rd.ltl h;refine dD Tryz.func180 Tryz.ntmps180 rfl rfl ?_;refine PB ?_;refine dX rfl rfl rfl fun o f e=>?_
 refine WL.alloc rfl rfl (fun n m d=>?_);have f:=f.ext d;have g:=e.trans d;have a:w.heap.size≤o.heap.size:=e.size;have j:=m.lt;refine PJ ?_;refine WL.call rfl rfl rfl (lI n (fun b f=>MQ (hF b f) g.size) 10 (Rd.up0 h g hF)) ?_;rintro u r ⟨l,k⟩
 obtain⟨uo,uc,rfl,p⟩:=Rd.ltl l;refine WL.st rfl rfl rfl (m.ext k) rfl rfl Pr (fun q i c=>?_);refine PO ?_;exact bg rfl rfl i rfl ⟨o9 l c hF a j g.size k.size,Do (g.trans k) c a⟩
theorem lN(w:World){B:Nat}(c:B≤w.heap.size){v:Value}{t:Ltl}(h:GL B w v t):Rt Tryz.prog 180 [v].toArray w fun u w'=>GL B w' u (.mk 10 0 [t])∧Ext w w':=
 (lM w (fun b a=>a.2) h).mono fun u w' h=>⟨h.1.wk (GL.plus c h.2),h.2⟩
theorem lA(w:World){F:Nat→Prop}(hF:∀b,F b→b<w.heap.size){v:Value}{t:Ltl}(h:Rd w F v t):Rt Tryz.prog 177 [v].toArray w fun u w'=>Rd w' (da F w w') u (.mk 11 0 [t]:Ltl)∧Ext w w':=by
 obtain⟨ao,cap,rfl,s⟩:=Rd.ltl h;refine dD Tryz.func177 Tryz.ntmps177 rfl rfl ?_;refine PB ?_;refine dX rfl rfl rfl fun o f e=>?_
 refine WL.alloc rfl rfl (fun n m d=>?_);have f:=f.ext d;have g:=e.trans d;have a:w.heap.size≤o.heap.size:=e.size;have j:=m.lt;refine PJ ?_;refine WL.call rfl rfl rfl (lI n (fun b f=>MQ (hF b f) g.size) 11 (Rd.up0 h g hF)) ?_;rintro u r ⟨l,k⟩
 obtain⟨uo,uc,rfl,p⟩:=Rd.ltl l;refine WL.st rfl rfl rfl (m.ext k) rfl rfl Pr (fun q i c=>?_);refine PO ?_;exact bg rfl rfl i rfl ⟨o9 l c hF a j g.size k.size,Do (g.trans k) c a⟩
theorem lB(w:World){B:Nat}(c:B≤w.heap.size){v:Value}{t:Ltl}(h:GL B w v t):Rt Tryz.prog 177 [v].toArray w fun u w'=>GL B w' u (.mk 11 0 [t])∧Ext w w':=
 (lA w (fun b a=>a.2) h).mono fun u w' h=>⟨h.1.wk (GL.plus c h.2),h.2⟩
theorem lD(w:World){F:Nat→Prop}(hF:∀b,F b→b<w.heap.size){v n:Value}{t o:Ltl}(h:Rd w F v t)(r:Rd w F n o):Rt Tryz.prog 184 [v,n].toArray w fun u w'=>Rd w' (da F w w') u (.mk 5 0 [t,o]:Ltl)∧Ext w w':=by
 obtain⟨ao,cap,rfl,C⟩:=Rd.ltl h;obtain⟨ao',cap',rfl,z⟩:=Rd.ltl r;refine dE Tryz.func184 Tryz.ntmps184 rfl rfl ?_;refine PB ?_;refine dX rfl rfl rfl fun w0 c l=>?_
 refine dX rfl rfl rfl fun x i a=>?_
 have c:=c.ext a;have a:=l.trans a;refine WL.alloc rfl rfl (fun s q d=>?_);have c:=c.ext d;have i:=i.ext d;have g:=a.trans d;have e:w.heap.size≤x.heap.size:=a.size;have k:=q.lt;refine PJ ?_;refine WL.call rfl rfl rfl (lP s (F:=F) (fun b i=>MQ (hF b i) g.size) 5 (Rd.up0 h g hF) (Rd.up0 r g hF)) ?_;rintro u B ⟨p,m⟩
 obtain⟨uo,uc,rfl,y⟩:=Rd.ltl p;refine WL.st rfl rfl rfl (q.ext m) rfl rfl Pr (fun A j f=>?_);refine PO ?_;exact bg rfl rfl j rfl ⟨o9 p f hF e k g.size m.size,Do (g.trans m) f e⟩
theorem lE(w:World){B:Nat}(e:B≤w.heap.size){v a:Value}{t c:Ltl}(h:GL B w v t)(f:GL B w a c):Rt Tryz.prog 184 [v,a].toArray w fun u w'=>GL B w' u (.mk 5 0 [t,c])∧Ext w w':=
 (lD w (F:=fun b=>B≤b∧b<w.heap.size) (fun b d=>d.2) h f).mono fun u w' h=>⟨h.1.wk (GL.plus e h.2),h.2⟩
theorem lK(w:World){F:Nat→Prop}(hF:∀b,F b→b<w.heap.size){v n:Value}{t o:Ltl}(h:Rd w F v t)(r:Rd w F n o):Rt Tryz.prog 178 [v,n].toArray w fun u w'=>Rd w' (da F w w') u (.mk 6 0 [t,o]:Ltl)∧Ext w w':=by
 obtain⟨ao,cap,rfl,C⟩:=Rd.ltl h;obtain⟨ao',cap',rfl,z⟩:=Rd.ltl r;refine dE Tryz.func178 Tryz.ntmps178 rfl rfl ?_;refine PB ?_;refine dX rfl rfl rfl fun w0 c l=>?_
 refine dX rfl rfl rfl fun x i a=>?_
 have c:=c.ext a;have a:=l.trans a;refine WL.alloc rfl rfl (fun s q d=>?_);have c:=c.ext d;have i:=i.ext d;have g:=a.trans d;have e:w.heap.size≤x.heap.size:=a.size;have k:=q.lt;refine PJ ?_;refine WL.call rfl rfl rfl (lP s (F:=F) (fun b i=>MQ (hF b i) g.size) 6 (Rd.up0 h g hF) (Rd.up0 r g hF)) ?_;rintro u B ⟨p,m⟩
 obtain⟨uo,uc,rfl,y⟩:=Rd.ltl p;refine WL.st rfl rfl rfl (q.ext m) rfl rfl Pr (fun A j f=>?_);refine PO ?_;exact bg rfl rfl j rfl ⟨o9 p f hF e k g.size m.size,Do (g.trans m) f e⟩
theorem lL(w:World){B:Nat}(e:B≤w.heap.size){v a:Value}{t c:Ltl}(h:GL B w v t)(f:GL B w a c):Rt Tryz.prog 178 [v,a].toArray w fun u w'=>GL B w' u (.mk 6 0 [t,c])∧Ext w w':=
 (lK w (F:=fun b=>B≤b∧b<w.heap.size) (fun b d=>d.2) h f).mono fun u w' h=>⟨h.1.wk (GL.plus e h.2),h.2⟩
theorem lF(w:World)(B:Nat)(k:Int):Rt Tryz.prog 185 [Py k].toArray w fun v w'=>GL B w' v (.mk 3 k []:Ltl)∧Ext w w':=by
 refine dD Tryz.func185 Tryz.ntmps185 rfl rfl ?_;refine PB ?_;refine WL.alloc rfl rfl (fun g f d=>?_);refine Qt ?_;refine WL.build rfl rfl rfl rfl ?_;refine WL.st rfl rfl rfl f rfl rfl Pr (fun e b a=>?_);have c:Ext w e:=d.grown a d.size Pi;refine PO ?_;exact bg rfl rfl b rfl ⟨Rd.mkLtl (kids:=[]) (Sl.zero _ _),c⟩
end Go.Proofs.YtfpjecjadlgdcaaGreatDoor
