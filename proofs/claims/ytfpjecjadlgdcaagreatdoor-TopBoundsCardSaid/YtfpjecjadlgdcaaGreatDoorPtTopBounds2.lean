import Derived.Test.YtfpjecjadlgdcaaGreatDoorPtTopBounds1
set_option linter.unusedVariables false
set_option linter.unusedSimpArgs false
set_option linter.defProp false
namespace Go.Proofs.YtfpjecjadlgdcaaGreatDoor
open Go.RowKit
section
variable {α:Type}[Rep α]{w w':World}{F F':Nat→Prop}
def Elems(w:World)(F:Nat→Prop)(cells:List Value)(xs:List α):Prop:=
 cells.length=xs.length*sz α∧∀i (h:i<xs.length),rd w F ((cells.drop (i*sz α)).take (sz α)) xs[i]
theorem Elems.mono{cells:List Value}{xs:List α}(h:Elems w F cells xs)(a:∀b,F b→w'.heap[b]?=w.heap[b]?)(hF:∀b,F b→F' b):Elems w' F' cells xs:=
 ⟨h.1,fun i hi=>Rep.mono (h.2 i hi) a hF⟩
theorem Elems.nil:Elems w F [] ([]:List α):=⟨by simp,fun i hi=>absurd hi O_⟩
theorem Elems.one{cs:List Value}{x:α}(h:rd w F cs x):Elems w F cs [x]:=by
 have a:cs.length=sz α:=Rep.len h;refine⟨by simpa using a,fun i hi=>?_⟩;have:i=0:=by simpa using hi
 subst this;simpa[←a]using h
theorem Elems.append{c1 c2:List Value}{xs ys:List α}(h1:Elems w F c1 xs)(h2:Elems w F c2 ys):Elems w F (c1++c2) (xs++ys):=by
 refine⟨by rw[Ll,Ll,h1.1,h2.1,Mt],fun i hi=>?_⟩;by_cases a:i<xs.length
 ·have b:(i+1)*sz α≤c1.length:=by rw[h1.1];exact MX _ a
  rw[Mt,M1]at b
  rw[Kv O7,List.take_append_of_le_length (by rw[Ln];omega),K7 a];exact h1.2 i a
 ·have c:xs.length≤i:=MK a
  have f:i -xs.length<ys.length:=by rw[Ll]at hi;omega
  rw[K8 c];have e:i*sz α=c1.length+(i -xs.length)*sz α:=by rw[h1.1,←Mt];congr 1;omega
  rw[e,Ku];have j:c1.drop (c1.length+(i -xs.length)*sz α)=[]:=Ky O7;rw[j,L2];have h:c1.length+(i -xs.length)*sz α -c1.length=(i -xs.length)*sz α:=by omega
  rw[h];exact h2.2 _ f
theorem Elems.take{cells:List Value}{xs:List α}(h:Elems w F cells xs)(k:Nat)(c:k≤xs.length):Elems w F (cells.take (k*sz α)) (xs.take k):=by
 have a:k*sz α≤cells.length:=by rw[h.1];exact MX _ c
 refine⟨by rw[LB,LB,MS a,MS c],fun i hi=>?_⟩;have b:i<k:=by rw[LB]at hi;omega
 have f:(i+1)*sz α≤k*sz α:=MX _ b;rw[Mt,M1]at f
 rw[List.drop_take,List.take_take,MS O7,Lh];exact h.2 i O7
theorem Elems.drop{cells:List Value}{xs:List α}(h:Elems w F cells xs)(k:Nat)(a:k≤xs.length):Elems w F (cells.drop (k*sz α)) (xs.drop k):=by
 refine⟨by rw[Ln,Ln,h.1,Nat.sub_mul],fun i hi=>?_⟩;rw[Ln]at hi
 rw[Kw,La,←Mt];exact h.2 (k+i) O7
theorem Elems.rep{cs:List Value}{x:α}(h:∀w F,rd w F cs x)(n:Nat):Elems w F ((List.replicate n cs).flatten) (List.replicate n x):=by
 induction n with
 |zero=>exact Elems.nil
 |succ n a=>
  rw[Mc,Mc,KO];exact(Elems.one (h w F)).append a
theorem Elems.ones{cells:List Value}{xs:List α}(h:Elems w F cells xs):∀v∈cells,v.oneCell'=true:=by
 intro v f
 obtain⟨j,c,rfl⟩:=LT.1 f;have b:0<sz α:=Rep.pos;have hi:j / sz α<xs.length:=by rw[MA b,←h.1];exact c
 refine Rep.one (h.2 _ hi) _ ?_;have i:=Nat.mod_add_div j (sz α);have a:=MU j b;rw[Nat.mul_comm]at i
 refine List.mem_iff_getElem?.2 ⟨j % sz α,?_⟩;rw[K6 a,KX];have:j / sz α*sz α+j % sz α=j:=by omega
 rw[this];exact KY c
def Be(cells:List Value)(o:Nat)(a:List Value):List Value:=cells.take o++a++cells.drop (o+a.length)
theorem Elems.set{cells a:List Value}{xs:List α}{y:α}(h:Elems w F cells xs)(b:rd w F a y)(k:Nat)(c:k<xs.length):Elems w F (Be cells (k*sz α) a) (xs.set k y):=by
 have f:a.length=sz α:=Rep.len b;have h1:=(h.take k O7).append (Elems.one b);have h2:=h1.append (h.drop (k+1) c);have e:(k+1)*sz α=k*sz α+a.length:=by rw[Mt,M1,f]
 rw[e]at h2
 have i:xs.set k y=xs.take k++[y]++xs.drop (k+1):=by
  rw[Me,OK c];simp
 rw[i];exact h2
end
section
variable {α:Type}[Rep α]
structure OwnAt(w:World)(B:Nat)(e:TypeId)(F:Nat→Prop)(g off cap:Nat)(cur:Array Value)(xs:List α):Prop where
 blk:w.heap[g]?=some (.cells cur e (0,0))
 ge:B≤g
 nF:¬F g
 le:xs.length≤cap
 mx:cap≤maxLen
 fit:off+cap*sz α≤cur.size
 el:Elems w F ((cur.toList.drop off).take (xs.length*sz α)) xs
def Own(w:World)(B:Nat)(e:TypeId)(F:Nat→Prop)(v:Value)(xs:List α):Prop:=
 (v=.slice none 0 0∧xs=[])∨∃g off cap cur,v=.slice (some ⟨g,off,none⟩) xs.length cap∧OwnAt w B e F g off cap cur xs
def cZ:Nat→Prop:=fun _=>False
end
section
variable {α:Type}[Rep α]{w w':World}{B:Nat}{e:TypeId}{F F':Nat→Prop}{v:Value}{xs:List α}
theorem Own.nil:Own w B e F (.slice none 0 0) ([]:List α):=.inl ⟨rfl,rfl⟩
theorem Own.lt(h:Own w B e F v xs):∀g,v.ownBlock=some g→B≤g∧g<w.heap.size∧¬F g:=by
 intro g a
 rcases h with⟨rfl,_⟩|⟨b,off,cap,cur,rfl,h⟩
 ·simp[Value.ownBlock]at a
 ·simp[Value.ownBlock]at a;subst a
  exact⟨h.ge,(Jv.1 h.blk).1,h.nF⟩
theorem Own.keep(h:Own w B e F v xs)(a:∀g,v.ownBlock=some g→w'.heap[g]?=w.heap[g]?)(hF:∀b,F b→w'.heap[b]?=w.heap[b]?):Own w' B e F v xs:=by
 rcases h with hn|⟨g,off,cap,cur,rfl,h⟩
 ·exact .inl hn
 ·exact .inr ⟨g,off,cap,cur,rfl,⟨(a g rfl).trans h.blk,h.ge,h.nF,h.le,h.mx,h.fit,h.el.mono hF fun _ h=>h⟩⟩
theorem Own.wk(h:Own w B e F v xs)(hF:∀b,F b→F' b)(hn:∀g,v.ownBlock=some g→¬F' g):Own w B e F' v xs:=by
 rcases h with hn|⟨g,off,cap,cur,rfl,h⟩
 ·exact .inl hn
 ·exact .inr ⟨g,off,cap,cur,rfl,⟨h.blk,h.ge,hn g rfl,h.le,h.mx,h.fit,h.el.mono Pq hF⟩⟩
theorem Own.low(h:Own w B e F v xs){B':Nat}(a:B'≤B):Own w B' e F v xs:=by
 rcases h with hn|⟨g,off,cap,cur,rfl,h⟩
 ·exact .inl hn
 ·exact .inr ⟨g,off,cap,cur,rfl,⟨h.blk,MN a h.ge,h.nF,h.le,h.mx,h.fit,h.el⟩⟩
theorem Own.kept(h:Own w B e F v xs){row:Option Nat}(f:w.grownBy w' row)(c:∀g,v.ownBlock=some g→some g≠row)(hF:∀b,F b→b<w.heap.size∧some b≠row):Own w' B e F v xs:=
 h.keep (fun g a=>f.block g (h.lt g a).2.1 (c g a)) fun b i=>f.block b (hF b i).1 (hF b i).2
theorem Own.ext(h:Own w B e F v xs)(c:Ext w w')(hF:∀b,F b→b<w.heap.size):Own w' B e F v xs:=
 h.keep (fun g a=>c.block g (h.lt g a).2.1) fun b f=>c.block b (hF b f)
theorem Own.keptN(h:Own w B e cZ v xs){row:Option Nat}(b:w.grownBy w' row)(a:∀g,v.ownBlock=some g→some g≠row):Own w' B e cZ v xs:=h.kept b a fun _ h=>h.elim
theorem Own.extN(h:Own w B e cZ v xs)(a:Ext w w'):Own w' B e cZ v xs:=h.ext a fun _ h=>h.elim
theorem k8{cur:Array Value}{off m j:Nat}{u:Value}(h:((cur.toList.drop off).take m)[j]?=some u):cur[off+j]?=some u:=by
 rw[K5]at h
 split at h
 ·rw[KX]at h;simpa using h
 ·cases h
theorem Own.sl(h:Own w B e F v xs):∃ao cap,v=.slice ao xs.length cap∧Sl w (fun b=>F b∨v.ownBlock=some b) ao cap xs:=by
 rcases h with⟨rfl,rfl⟩|⟨g,off,cap,cur,rfl,h⟩
 ·exact⟨none,0,rfl,⟨by simp,by simp[maxLen],fun _=>rfl,fun i hi=>absurd hi O_⟩⟩
 ·refine⟨some ⟨g,off,none⟩,cap,rfl,⟨h.le,h.mx,(fun e=>by cases e),fun i hi=>⟨g,off,rfl,.inr rfl,_,?_,Rep.mono (h.el.2 i hi) Pq fun _ h=>.inl h⟩⟩⟩
  intro j u a
  rw[K5]at a
  split at a
  ·rw[KX]at a
   rw[Ow w g _ cur e (0,0) h.blk];have:=k8 a;rw[←this];congr 1;omega
  ·cases a
theorem Own.rd(h:Own w B e F v xs):Rd w (fun b=>F b∨v.ownBlock=some b) v xs:=by
 obtain⟨ao,cap,rfl,a⟩:=h.sl;exact a.rd
theorem Own.old(h:Own w B e F v xs)(hF:∀b,F b→b<w.heap.size):Rd w (c7 w) v xs:=h.rd.mono Pq fun b c=>c.elim (hF b) (fun a=>(h.lt b a).2.1)
theorem Own.oldN(h:Own w B e cZ v xs):Rd w (c7 w) v xs:=h.old fun _ h=>h.elim
theorem Own.slF(h:Own w B e F v xs)(hF:∀b,F b→F' b)(a:∀g,v.ownBlock=some g→F' g):∃ao cap,v=.slice ao xs.length cap∧Sl w F' ao cap xs:=by
 obtain⟨ao,cap,e,c⟩:=h.sl;exact⟨ao,cap,e,c.mono Pq fun b f=>f.elim (hF b) (fun h=>a b h)⟩
theorem Own.val(h:Own w B e F v xs):∃ao cap,v=.slice ao xs.length cap:=by obtain⟨ao,cap,e,_⟩:=h.sl;exact⟨ao,cap,e⟩
theorem Own.made(w:World)(B:Nat)(e:TypeId)(F:Nat→Prop)(cur:Array Value)(xs:List α)(f:B≤w.heap.size)(hn:¬F w.heap.size)(a:xs.length≤maxLen)
  (hF:∀b,F b→b<w.heap.size) (h:Elems w F cur.toList xs):
  Own (w.alloc (.cells cur e)) B e F (.slice (some ⟨w.heap.size,0,none⟩) xs.length xs.length) xs:=by
 refine .inr ⟨w.heap.size,0,xs.length,cur,rfl,⟨OH w _,f,hn,MM _,a,?_,?_⟩⟩
 ·have:=h.1;simp at this⊢;omega
 ·have i:(cur.toList.drop 0).take (xs.length*sz α)=cur.toList:=by rw[KB];exact Ml (MI h.1)
  rw[i];exact h.mono (fun b c=>JH w _ b (hF b c)) fun _ h=>h
theorem rH(w:World)(o:Obj)(row:Option Nat):w.grownBy (w.alloc o) row:=World.grownBy_alloc w o row
theorem yr(z:Array Value)(n:Nat)(i:0<z.size):(madeCells z (n*z.size)).toList=(List.replicate n z.toList).flatten:=by
 apply KE;intro j
 induction n generalizing j with
 |zero=>simp[madeCells]
 |succ n f=>
  rw[Mc,KO];by_cases b:j<z.size
  ·have h1:j<(n+1)*z.size:=by rw[Mt,M1];omega
   rw[KU (by simpa using b)];simp[madeCells,h1,MT b,b]
  ·have c:z.toList.length≤j:=by simpa using MK b
   rw[KV c,←f];have h:(j -z.size) % z.size=j % z.size:=by rw[←Nat.mod_eq_sub_mod O7]
   by_cases a:j<(n+1)*z.size
   ·have h2:j -z.size<n*z.size:=by rw[Mt,M1]at a;omega
    simp[madeCells,a,h2,h]
   ·have h2:¬j -z.size<n*z.size:=by rw[Mt,M1]at a;omega
    simp[madeCells,a,h2]
end
section
variable {P:Program}{α:Type}[Rep α]{w:World}{B:Nat}{e t ty:TypeId}{F:Nat→Prop}{v:Value}{xs ys:List α}{x0:α}{bytes:Nat}
theorem D7[p:IsS P t e][s:IsT P e α][o:IsZ P e x0 bytes](n:Nat)(kl kc:IntKind)(u:n*bytes≤281474976710656)(l:n≤maxLen)(q:B≤w.heap.size)(hn:¬F w.heap.size)(hF:∀b,F b→b<w.heap.size):
  ∃w',(Instr.makeSlice t (.int kl (n:Int)) (.int kc (n:Int))).run P w=.ok (.slice (some ⟨w.heap.size,0,none⟩) n n) w'∧Own w' B e F (.slice (some ⟨w.heap.size,0,none⟩) n n) (List.replicate n x0)∧w.grownBy w' none:=by
 obtain⟨i,z,h1,h2,h3,h4⟩:=o.ok;obtain⟨m,j,r⟩:=IsT.info (P:=P) (t:=e) (α:=α);obtain rfl:i=m:=Nn (h1.symm.trans j);have a:z.cells.size=sz α:=by have:=Rep.len (h4 w F);simpa using this
 have c:=l;unfold maxLen at c
 have f:(i.bytes:Int)*(n:Int)≤281474976710656:=by
  have h:((n*bytes:Nat):Int)≤281474976710656:=by omega
  rw[h3,Int.mul_comm];rwa[Int.natCast_mul]at h
 have k:=run_make (P:=P) w t e i z p.ok h1 h2 kl kc n n O7 (J8 _) f O7;simp only[Kb]at k
 refine⟨_,k,?_,rH w _ none⟩;have:=Own.made w B e F (madeCells z.cells (n*i.size)) (List.replicate n x0) q hn (by simpa using l) hF (by
  rw[r,←a,yr _ _ (by rw[a];exact Rep.pos)];exact Elems.rep h4 n)
 simpa using this
theorem Sl.cells{ao:Option Addr}{cap:Nat}{G:Nat→Prop}(h:Sl w G ao cap ys):∃a:List Value,a.length=ys.length*sz α∧Elems w G a ys∧∀b,ao=some b→ys≠[]→∀j u,a[j]?=some u→w.cell? (b.add j)=some u:=by
 have key:∀k,k≤ys.length→∃a:List Value,a.length=k*sz α∧Elems w G a (ys.take k)∧∀b,ao=some b→ys≠[]→∀j u,a[j]?=some u→w.cell? (b.add j)=some u:=by
  intro k
  induction k with
  |zero=>intro _;exact⟨[],by simp,by simpa using Elems.nil,fun b _ _ j u f=>by simp at f⟩
  |succ k q=>
   intro o
   obtain⟨a,h1,h2,h3⟩:=q O7;obtain⟨b,off,l,_,p,x,m⟩:=h.el k o;have r:p.length=sz α:=Rep.len m;refine⟨a++p,by rw[Ll,h1,r,Mt,M1],?_,?_⟩
   ·rw[Mo o]
    exact h2.append (Elems.one m)
   ·intro y c i j u f
    by_cases s:j<a.length
    ·rw[KU s]at f;exact h3 y c i j u f
    ·rw[KV O7]at f
     rw[l]at c
     cases c
     rw[Oj];have:=x (j -a.length) u f;rw[←this];congr 2;rw[←h1];omega
 obtain⟨a,h1,h2,h3⟩:=key ys.length Pu;exact⟨a,h1,by simpa using h2,h3⟩
theorem GH{cur:List Value}{off n m:Nat}{a:List Value}(hn:a.length=m)(c:off+n+m≤cur.length):
  ((cur.take (off+n)++a++cur.drop (off+n+m)).drop off).take (n+m)=(cur.drop off).take n++a:=by
 apply KE;intro j
 rw[K5];by_cases b:j<n+m
 ·rw[OK b,KX]
  by_cases h1:j<n
  ·rw[KU Pc,KU Pc,KU Pc]
   rw[K6 O7,K6 h1,KX]
  ·rw[KU Pc,KV Pc,KV Pc]
   congr 1
   simp;omega
 ·rw[OJ b,KZ]
  simp;omega
def dN(w:World)(F:Nat→Prop)(ao:Option Addr)(ys:List α):Prop:=
 (ao=none→ys=[])∧∃a:List Value,Elems w F a ys∧∀b,ao=some b→ys≠[]→∀j u,a[j]?=some u→w.cell? (b.add j)=some u
theorem Own.src{ao:Option Addr}{cap:Nat}(h:Own w B e F (.slice ao ys.length cap) ys):dN w F ao ys:=by
 rcases h with⟨h1,rfl⟩|⟨g,off,cp,cur,h1,a⟩
 ·exact⟨fun _=>rfl,[],Elems.nil,fun _ _ h=>absurd rfl h⟩
 ·obtain⟨rfl,_,rfl⟩:=Oi h1
  refine⟨(fun e=>by cases e),_,a.el,fun b f _ j u c=>?_⟩;cases f
  rw[Oj,Ow w g _ cur e (0,0) a.blk];exact k8 c
theorem DS[C:IsS P t e][ht:IsT P e α][hz:IsZ P e x0 bytes]{ao:Option Addr}{cap:Nat}(E:Own w B e F v xs)(hy:dN w F ao ys)
  (hB:B≤w.heap.size) (hF:∀b,F b→b<w.heap.size) (hm:xs.length+ys.length≤maxLen) (y:(xs.length+ys.length)*bytes≤140737488355328):
  ∃M w',(Builtin.append_ #[t,t] ty #[v,.slice ao ys.length cap]).run P w=.ok M w'∧Own w' B e F M (xs++ys)∧w.grownBy w' v.ownBlock∧(∀g,M.ownBlock=some g→v.ownBlock=some g∨w.heap.size≤g):=by
 obtain⟨i,z,h1,h2,h3,h4⟩:=hz.ok;obtain⟨i',h1',K⟩:=IsT.info (P:=P) (t:=e) (α:=α);obtain rfl:i=i':=Nn (h1.symm.trans h1');have N:z.cells.size=sz α:=by have:=Rep.len (h4 w F);simpa using this
 have G:=hm;unfold maxLen at G
 obtain⟨m,a,X,Z⟩:=hy;have r:=X.1;have T:∀u∈a,u.oneCell'=true:=X.ones;have J:∀w':World,(∀b,F b→w'.heap[b]?=w.heap[b]?)→Elems w' F a ys:=fun w' R=>X.mono R fun _ h=>h
 have U:¬F w.heap.size:=fun h=>by have:=hF _ h;omega
 have news0:ys.length=0→a=[]:=fun h=>KC (by rw[r,h,Nat.zero_mul])
 have grow:∀(olds:List Value) (old:Nat),Elems w F olds xs→∀row:Option Nat,old≤maxLen→xs.length+ys.length≤grownCap w (xs.length+ys.length) old e→
   Own (w.drew.alloc (.cells (olds.toArray++a.toArray++Builtin.zeroCells z.cells (grownCap w (xs.length+ys.length) old e -(xs.length+ys.length))) e)) B e F
    (.slice (some ⟨w.heap.size,0,none⟩) (xs.length+ys.length) (grownCap w (xs.length+ys.length) old e)) (xs++ys)∧
   w.grownBy (w.drew.alloc (.cells (olds.toArray++a.toArray++Builtin.zeroCells z.cells (grownCap w (xs.length+ys.length) old e -(xs.length+ys.length))) e)) row:=by
  intro olds old c row _ W
  have Y:grownCap w (xs.length+ys.length) old e≤maxLen:=grownCap_le_maxLen w _ old e hm;have hh:∀b,F b→(w.drew.alloc (.cells (olds.toArray++a.toArray++Builtin.zeroCells z.cells (grownCap w (xs.length+ys.length) old e -(xs.length+ys.length))) e)).heap[b]?=w.heap[b]?:=
   fun b y=>JH w.drew _ b (hF b y)
  have H:(olds++a).length=(xs++ys).length*sz α:=by rw[Ll,Ll,c.1,r,Mt]
  refine⟨.inr ⟨w.heap.size,0,_,_,by rw[Ll],⟨OH w.drew _,hB,U,by simpa using W,Y,?_,?_⟩⟩,⟨rfl,rfl,rfl,by simp,fun k V _=>JH w.drew _ k V⟩⟩
  ·simp only[Nb,Array.size_append,Mg,size_zeroCells,N,c.1,r,←Mt]
   exact MX _ O7
  ·have e1:((olds.toArray++a.toArray++Builtin.zeroCells z.cells (grownCap w (xs.length+ys.length) old e -(xs.length+ys.length))).toList.drop 0).take ((xs++ys).length*sz α)=olds++a:=by
    simp only[Array.toList_append,KB];rw[←H];exact List.take_left
   rw[e1];exact(c.mono hh fun _ h=>h).append (J _ hh)
 rcases E with⟨rfl,rfl⟩|⟨g,off,cp,cur,rfl,c⟩
 ·by_cases f:ys.length=0
  ·have hn:=news0 f
   subst hn;have O:ys=[]:=KC f;subst O;refine⟨.slice none 0 0,w,?_,Own.nil,⟨rfl,rfl,rfl,MM _,fun _ _ _=>rfl⟩,fun g h=>.inl h⟩;cases ao with
   |none=>simp[Builtin.append_,OW C.ok,sizeOf,typeInfo,h1,Builtin.lenOf,Builtin.firstCells]
   |some b=>simp[Builtin.append_,OW C.ok,sizeOf,typeInfo,h1,Builtin.lenOf,Builtin.firstCells,loadCells,loadCellsFrom]
  ·have p:ys≠[]:=fun e=>f (by rw[e];rfl)
   obtain⟨b,rfl⟩:∃b,ao=some b:=by
    cases ao with
    |none=>exact absurd (m rfl) p
    |some b=>exact⟨b,rfl⟩
   have hb0:ys.length*i.bytes≤281474976710656:=by rw[h3];simp only[Lt,Nb]at y;omega
   have S:=run_append_nil (P:=P) w t ty e i z C.ok h1 h2 _ ys.length cap a (by rw[r,K]) (Z _ rfl p) O7 (by simp only[Lt]at G;omega) hb0;have o:=grow [] 0 Elems.nil (Value.ownBlock (.slice none 0 0)) (by simp[maxLen]) (grownCap_ge _ _ _ _);simp only[Lt,Nb]at o
   exact⟨_,_,S,by simpa using o.1,by simpa using o.2,fun g h=>.inr (by simp[Value.ownBlock]at h;omega)⟩
 ·have olds_len:((cur.toList.drop off).take (xs.length*sz α)).length=xs.length*sz α:=c.el.1
  by_cases l:xs.length+ys.length≤cp
  ·
   have q:off+xs.length*sz α+a.length≤cur.size:=by
    have h6:(xs.length+ys.length)*sz α≤cp*sz α:=MX _ l;have h7:=c.fit;rw[Mt]at h6
    rw[r];omega
   have I:(Builtin.firstCells (sz α) ys.length (.slice ao ys.length cap)).run P w=.ok a.toArray w:=by
    cases ao with
    |none=>
     have:ys.length=0:=by rw[m rfl];rfl
     rw[news0 this];simp[Builtin.firstCells]
    |some b=>
     by_cases f:ys.length=0
     ·rw[news0 f,f]
      simp[Builtin.firstCells,loadCells,loadCellsFrom]
     ·exact run_firstCells_some (P:=P) w (sz α) ys.length b ys.length cap a r (Z b rfl (fun e=>f (by rw[e];rfl)))
   have A:=OU P g (off+xs.length*sz α) e a 0 cur w c.blk (by simpa using q) T;simp only[Mx]at A
   have D:(Builtin.append_ #[t,t] ty #[.slice (some ⟨g,off,none⟩) xs.length cp,.slice ao ys.length cap]).run P w=
     .ok (.slice (some ⟨g,off,none⟩) (xs.length+ys.length) cp) (w.setRow g (cur.toList.take (off+xs.length*sz α)++a++cur.toList.drop (off+xs.length*sz α+a.length)).toArray):=by
    simp[Builtin.append_,OW C.ok,sizeOf,typeInfo,h1,Builtin.lenOf,l,K,I,Oj,A]
   refine⟨_,_,D,.inr ⟨g,off,cp,_,by rw[Ll],⟨OX w g cur _ e _ c.blk,c.ge,c.nF,by simpa using l,c.mx,?_,?_⟩⟩,⟨rfl,rfl,rfl,by simp,fun k _ V=>OY w g k _ (fun e=>V (by simp[Value.ownBlock,e]))⟩,fun g h=>.inl h⟩
   ·have h7:=c.fit
    simp only[Mg,Ll,LB,Ln,JC];omega
   ·have hh:∀b,F b→(w.setRow g (cur.toList.take (off+xs.length*sz α)++a++cur.toList.drop (off+xs.length*sz α+a.length)).toArray).heap[b]?=w.heap[b]?:=
     fun b y=>OY w g b _ (fun e=>c.nF (e▸y))
    have e1:(((cur.toList.take (off+xs.length*sz α)++a++cur.toList.drop (off+xs.length*sz α+a.length)).toArray.toList.drop off).take ((xs++ys).length*sz α))=(cur.toList.drop off).take (xs.length*sz α)++a:=by
     rw[Ll,Mt];have h8:off+xs.length*sz α+ys.length*sz α≤cur.toList.length:=by rw[r]at q;rw[JC];exact q
     have h9:=GH (cur:=cur.toList) r h8;rw[r];exact h9
    rw[e1];exact(c.el.mono hh fun _ h=>h).append (J _ hh)
  ·have s:0<ys.length:=by have:=c.le;omega
   have p:ys≠[]:=fun e=>by rw[e]at s;exact absurd s O_
   obtain⟨b,rfl⟩:∃b,ao=some b:=by
    cases ao with
    |none=>exact absurd (m rfl) p
    |some b=>exact⟨b,rfl⟩
   have x:Builtin.nextslicecap (xs.length+ys.length) cp*i.bytes≤281474976710656:=growslice_fits O7 (by rw[h3];exact y);have S:=run_append_grow (P:=P) w t ty e i z C.ok h1 h2 ⟨g,off,none⟩ xs.length cp ((cur.toList.drop off).take (xs.length*sz α)) (by rw[olds_len,K])
    (fun j u hu=>by rw[Oj,Ow w g _ cur e (0,0) c.blk];exact k8 hu)
    _ ys.length cap a (by rw[r,K]) (Z _ rfl p) O7 O7 x
   have o:=grow ((cur.toList.drop off).take (xs.length*sz α)) cp c.el (Value.ownBlock (.slice (some ⟨g,off,none⟩) xs.length cp)) c.mx (grownCap_ge _ _ _ _);exact⟨_,_,S,o.1,o.2,fun g h=>.inr (by simp[Value.ownBlock]at h;omega)⟩
end
class Flat(α:Type)[Rep α]:Prop where
 ok:∀{w w':World} {F F':Nat→Prop} {cs:List Value} {x:α},rd w F cs x→rd w' F' cs x
instance tF:Flat Int:=⟨fun h=>h⟩
section
variable {P:Program}{Q:Exit→Act→World→Prop}{n:Nat}{σ:Sg}{w:World}{L rest:List Oper}{d:Nat}{ty:TypeId}{pos:String}{af:Array Edge}{g:Option (Nat×Bool)}
variable {α:Type}[Rep α]{e t:TypeId}{x0:α}{bytes:Nat}{F:Nat→Prop}
theorem eW{x y:Operand}{k:Nat}{kl kc:IntKind}(o:gd L σ ⟨some d,.makeSlice t x y,ty,pos,af,g⟩=some true)(hd:Nat.ble (d+1) n=true)
  (i:ev σ x=some (.int kl (k:Int))) (f:ev σ y=some (.int kc (k:Int))) [s:IsS P t e] [r:IsT P e α] [q:IsZ P e x0 bytes] (p:k*bytes≤281474976710656) (m:k≤maxLen)
  (h:∀w',Own w' w.heap.size e cZ (.slice (some ⟨w.heap.size,0,none⟩) k k) (List.replicate k x0)→w.grownBy w' none→WL P L Q rest n ((d,.slice (some ⟨w.heap.size,0,none⟩) k k)::σ) w'):
  WL P L Q (⟨some d,.makeSlice t x y,ty,pos,af,g⟩::rest) n σ w:=by
 obtain⟨w',j,l,b⟩:=D7 (P:=P) (t:=t) (e:=e) (x0:=x0) (w:=w) (B:=w.heap.size) (F:=cZ) k kl kc p m Pu (fun h=>h) Pj;refine WL.run o hd (fun a c=>?_) (h w' l b);simp[execOp,c.ev i,c.ev f,j]
theorem D4(w:World)[a:IsS P t e][b:IsT P e α]:(Instr.buildSlice t 0 #[]).run P w=.ok (.slice (some ⟨w.heap.size,0,none⟩) 0 0) (w.alloc (.cells #[] e)):=by
 simp[Instr.buildSlice,OW a.ok,Ek (α:=α),Instr.fill,newRow,Array.range_zero']
theorem eS(b:gd L σ ⟨some d,.buildSlice t 0 [].toArray,ty,pos,af,g⟩=some true)(hd:Nat.ble (d+1) n=true)[f:IsS P t e][c:IsT P e α]
  (h:∀w',Own w' w.heap.size e cZ (.slice (some ⟨w.heap.size,0,none⟩) 0 0) ([]:List α)→w.grownBy w' none→WL P L Q rest n ((d,.slice (some ⟨w.heap.size,0,none⟩) 0 0)::σ) w'):
  WL P L Q (⟨some d,.buildSlice t 0 [].toArray,ty,pos,af,g⟩::rest) n σ w:=by
 refine WL.run b hd (fun a i=>?_) (h _ (Own.made w w.heap.size e cZ #[] ([]:List α) Pu (fun h=>h) (by simp[maxLen]) Pj Elems.nil) (rH w _ none));have:=D4 (P:=P) (t:=t) (e:=e) (α:=α) w;simp[execOp];rw[this];rfl
theorem WL.app{x y:Operand}{v:Value}{xs ys:List α}{ao:Option Addr}{cap B:Nat}(r:gd L σ ⟨some d,.call ⟨.builtin .append,#[x,y],#[t,t]⟩,ty,pos,af,g⟩=some true)(hd:Nat.ble (d+1) n=true)
  (m:ev σ x=some v) (l:ev σ y=some (.slice ao ys.length cap)) [C:IsS P t e] [A:IsT P e α] [z:IsZ P e x0 bytes] (f:Own w B e F v xs) (i:dN w F ao ys) (u:B≤w.heap.size) (hF:∀b,F b→b<w.heap.size)
  (q:xs.length+ys.length≤maxLen) (s:(xs.length+ys.length)*bytes≤140737488355328)
  (h:∀c w',Own w' B e F c (xs++ys)→w.grownBy w' v.ownBlock→(∀g,c.ownBlock=some g→v.ownBlock=some g∨w.heap.size≤g)→WL P L Q rest n ((d,c)::σ) w'):
  WL P L Q (⟨some d,.call ⟨.builtin .append,#[x,y],#[t,t]⟩,ty,pos,af,g⟩::rest) n σ w:=by
 obtain⟨c,w',o,p,j,hnb⟩:=DS (P:=P) (t:=t) (ty:=ty) (cap:=cap) f i u hF q s;refine WL.run r hd (fun a k=>?_) (h c w' p j hnb);simp[execOp,resolve,invoke,builtin,k.ev m,k.ev l,o]
theorem Sl.srcN[b:Flat α]{ao:Option Addr}{cap:Nat}{ys:List α}{G:Nat→Prop}(h:Sl w G ao cap ys):dN w F ao ys:=by
 obtain⟨a,h1,h2,h3⟩:=h.cells;refine⟨fun e=>KC ?_,a,⟨h2.1,fun i hi=>b.ok (h2.2 i hi)⟩,h3⟩;have:=h.nil e;have:=h.le;omega
end
def vj{β:Type}:Nat→List β→List (Nat×β)
 |_,[]=>[]
 |k,x::r=>(k,x)::vj (k+1) r
def FA{β:Type}:List (Nat×β)→List β
 |[]=>[]
 |(_,x)::r=>x::FA r
theorem vk{β γ:Type}(f:β→γ):∀(l:List β) (k:Nat),(vj k l).map (fun p=>(p.1,f p.2))=vj k (l.map f)
 |[],_=>rfl
 |x::r,k=>by simp[vj,vk f r]
section
variable {α:Type}[Rep α]
def RdAll(w:World)(F:Nat→Prop):List Value→List α→Prop
 |[],[]=>True
 |v::vs,y::ys=>Rd w F v y∧RdAll w F vs ys
 |_,_=>False
theorem RdAll.nil{w:World}{F:Nat→Prop}:RdAll w F [] ([]:List α):=trivial
theorem RdAll.cons{w:World}{F:Nat→Prop}{v:Value}{y:α}{vs:List Value}{ys:List α}(h:Rd w F v y)(a:RdAll w F vs ys):RdAll w F (v::vs) (y::ys):=⟨h,a⟩
theorem RdAll.len{w:World}{F:Nat→Prop}:∀{vs:List Value} {ys:List α},RdAll w F vs ys→vs.length=ys.length
 |[],[],_=>rfl
 |v::vs,y::ys,h=>by simp[RdAll.len h.2]
 |[],_::_,h=>h.elim
 |_::_,[],h=>h.elim
theorem pX:∀(a:List Value) (k:Nat) (cells:Array Value),k+a.length≤cells.size→
  a.zipIdx.foldl (fun(cs:Array Value) (x:Value×Nat)=>cs.setIfInBounds (k+x.2) x.1) cells=(cells.toList.take k++a++cells.toList.drop (k+a.length)).toArray:=by
 intro a
 have key:∀(a:List Value) (k j:Nat) (cells:Array Value),k+j+a.length≤cells.size→
   (a.zipIdx j).foldl (fun(cs:Array Value) (x:Value×Nat)=>cs.setIfInBounds (k+x.2) x.1) cells=(cells.toList.take (k+j)++a++cells.toList.drop (k+j+a.length)).toArray:=by
  intro a
  induction a with
  |nil=>intro k j cells b;simp
  |cons u a f=>
   intro k j cells b
   simp only[List.zipIdx_cons,List.foldl_cons];rw[f k (j+1) _ (by simp at b⊢;omega)]
   congr 1
   simp only[Array.toList_setIfInBounds];have c:k+j<cells.toList.length:=by simp at b⊢;omega
   rw[←Nat.add_assoc,Mo (by simpa using c),Mm Pu,List.drop_set_of_lt O7];simp[Nat.add_assoc,Ms 1]
 intro k cells b
 have:=key a k 0 cells (by simpa using b);simpa using this
theorem o5{w:World}{F:Nat→Prop}:∀(vs:List Value) (ys:List α) (k:Nat) (cells:Array Value),RdAll w F vs ys→cells.size=(k+ys.length)*sz α→
  ∃out:List Value,Instr.fill (fun i=>some (i*sz α,sz α)) cells (vj k vs)=some (cells.toList.take (k*sz α)++out).toArray∧Elems w F out ys
 |[],[],k,cells,_,b=>⟨[],by
    simp only[vj,Instr.fill,Ki,No];rw[Ml (by simp at b⊢;omega)],Elems.nil⟩
 |v::vs,y::ys,k,cells,h,b=>by
  obtain⟨cs,q,f⟩:=h.1;have o:cs.length=sz α:=Rep.len f;have a:v.cells=cs.toArray:=by rw[q];apply Jq;simpa using Ir f
  have l:(k+1)*sz α≤cells.size:=by rw[b];exact MX _ O_
  rw[Mt,M1]at l
  have hf:=pX cs (k*sz α) cells O7;obtain⟨out,ho1,ho2⟩:=o5 vs ys (k+1) (cells.toList.take (k*sz α)++cs++cells.toList.drop (k*sz α+cs.length)).toArray h.2 (by
   simp only[Mg,Ll,LB,Ln,JC];have:(k+1+ys.length)*sz α=cells.size:=by rw[b];congr 1;simp;omega
   rw[this];omega)
  refine⟨cs++out,?_,(Elems.one f).append ho2⟩;have p:Array.foldl (fun(cs:Array Value) (x:Value×Nat)=>cs.setIfInBounds (k*sz α+x.2) x.1) cells v.cells.zipIdx=(cells.toList.take (k*sz α)++cs++cells.toList.drop (k*sz α+cs.length)).toArray:=by
   rw[←Jr,JF,a];simpa using hf
  simp only[vj,Instr.fill];rw[OJ (by simp[a,o];omega)];have h1:(v.cells.zipIdx.foldl (fun cs x=>cs.setIfInBounds (k*sz α+x.2) x.1) cells)=(cells.toList.take (k*sz α)++cs++cells.toList.drop (k*sz α+cs.length)).toArray:=p;have h2:(v.cells.zipIdx.foldl (fun cs (x:Value×Nat)=>match x with|(c,j)=>cs.setIfInBounds (k*sz α+j) c) cells)=(cells.toList.take (k*sz α)++cs++cells.toList.drop (k*sz α+cs.length)).toArray:=h1;rw[h2,ho1]
  congr 2
  rw[←Kh]
  congr 1
  have m:(cells.toList.take (k*sz α)++cs).length=(k+1)*sz α:=by
   rw[Ll,LB,JC,o,Mt,M1];omega
  rw[←m];exact List.take_left
 |[],_::_,_,_,h,_=>h.elim
 |_::_,[],_,_,h,_=>h.elim
theorem D3{P:Program}{e t:TypeId}{x0:α}{bytes:Nat}(w:World){vs:List Value}{ys:List α}{G:Nat→Prop}[k:IsS P t e][l:IsT P e α][b:IsZ P e x0 bytes](h:RdAll w G vs ys)(j:ys.length*sz α≤16777216):
  ∃out:List Value,(Instr.buildSlice t ys.length (vj 0 vs).toArray).run P w=.ok (.slice (some ⟨w.heap.size,0,none⟩) ys.length ys.length) (w.alloc (.cells out.toArray e))∧Elems w G out ys:=by
 obtain⟨i,z,h1,h2,h3,h4⟩:=b.ok;have m:0<sz α:=Rep.pos;unfold Instr.buildSlice;simp only[Nv,OW k.ok,Nu,Ek (α:=α)];rw[OJ O7];by_cases a:ys.length*sz α=0
 ·have c:ys=[]:=KC (by
   rcases Nat.mul_eq_zero.1 a with h|h
   ·exact h
   ·omega)
  subst c;have f:vs=[]:=KC (by simpa using h.len);subst f;refine⟨[],?_,Elems.nil⟩;simp[vj,Instr.fill,newRow,Array.range_zero']
 ·rw[OJ a]
  obtain⟨out,ho1,ho2⟩:=o5 vs ys 0 ((Array.range (ys.length*sz α)).map (fun x=>z.cells[x % z.cells.size]!)) h O_;refine⟨out,?_,ho2⟩;simp only[Nat.zero_mul,Mp,L2]at ho1
  simp[zeroValue,typeInfo,h1,h2,ho1,newRow]
end
section
variable {P:Program}{Q:Exit→Act→World→Prop}{n:Nat}{σ:Sg}{w:World}{L rest:List Oper}{d:Nat}{ty:TypeId}{pos:String}{af:Array Edge}{g:Option (Nat×Bool)}
variable {α:Type}[Rep α]{e t:TypeId}{x0:α}{bytes:Nat}{F:Nat→Prop}
theorem WL.lit{len:Nat}{parts:List (Nat×Operand)}{vs:List Value}{ys:List α}(o:gd L σ ⟨some d,.buildSlice t len parts.toArray,ty,pos,af,g⟩=some true)(hd:Nat.ble (d+1) n=true)
  (k:vj 0 (FA parts)=parts) (j:nL σ (FA parts)=some vs) [A:IsS P t e] [z:IsT P e α] [y:IsZ P e x0 bytes] (f:len=ys.length) (l:RdAll w F vs ys) (i:ys.length*sz α≤16777216) (hF:∀b,F b→b<w.heap.size)
  (h:∀w',Own w' w.heap.size e F (.slice (some ⟨w.heap.size,0,none⟩) len len) ys→w.grownBy w' none→WL P L Q rest n ((d,.slice (some ⟨w.heap.size,0,none⟩) len len)::σ) w'):
  WL P L Q (⟨some d,.buildSlice t len parts.toArray,ty,pos,af,g⟩::rest) n σ w:=by
 subst f;generalize FA parts=xs at k j
 subst k;obtain⟨out,c,p⟩:=D3 (P:=P) (t:=t) (e:=e) (x0:=x0) w l i;have m:ys.length≤maxLen:=by
  have:ys.length*1≤ys.length*sz α:=MW _ Rep.pos;unfold maxLen;omega
 refine WL.run o hd (fun a q=>?_) (h _ (Own.made w w.heap.size e F out.toArray ys Pu (fun h=>by have:=hF _ h;omega) m hF (by simpa using p)) (rH w _ none));have u:((vj 0 xs).toArray.map fun(x:Nat×Operand)=>(x.1,a.eval x.2))=(vj 0 vs).toArray:=by
  have s:=nM q xs vs j;simp only[LJ];rw[vk,s]
 have r:(execOp a.eval ⟨some d,.buildSlice t ys.length (vj 0 xs).toArray,ty,pos,af,g⟩)=(do let v←Instr.buildSlice t ys.length ((vj 0 xs).toArray.map fun(x:Nat×Operand)=>(x.1,a.eval x.2));Pure.pure (Next.value v):Sem Next):=rfl;rw[r,u,Nv,c];rfl
theorem eT{len:Nat}{parts:List (Nat×Operand)}{vs:List Value}(ys:List α)(o:gd L σ ⟨some d,.buildSlice t len parts.toArray,ty,pos,af,g⟩=some true)(hd:Nat.ble (d+1) n=true)
  (m:vj 0 (FA parts)=parts) (k:nL σ (FA parts)=some vs) [s:IsS P t e] [r:IsT P e α] [q:IsZ P e x0 bytes] (a:len=ys.length) (l:RdAll w (c7 w) vs ys) (c:ys.length*sz α≤16777216)
  (h:∀v w',Ext w w'→Rd w' (c7 w') v ys→Own w' w.heap.size e (c7 w) v ys→WL P L Q rest n ((d,v)::σ) w'):
  WL P L Q (⟨some d,.buildSlice t len parts.toArray,ty,pos,af,g⟩::rest) n σ w:=
 WL.lit o hd m k a l c Pl fun w' i f=>by
  have j:Ext w w':=(JI _ _).grown f Pu Pn;exact h _ w' j (i.old fun b p=>MQ p j.size) i
theorem dW{d1:Nat}{ty1:TypeId}{pos1:String}{af1:Array Edge}{g1:Option (Nat×Bool)}{x y:Operand}{v u:Value}{xs:List α}{yv:α}{B:Nat}
  (r:gd L σ ⟨some d1,.buildSlice t 1 [(0,y)].toArray,ty1,pos1,af1,g1⟩=some true) (z:Nat.ble (d1+1) n=true)
  (s:∀u,gd L ((d1,.slice u 1 1)::σ) ⟨some d,.call ⟨.builtin .append,#[x,.tmp d1],#[t,t]⟩,ty,pos,af,g⟩=some true) (hd:Nat.ble (d+1) n=true)
  (D:ev σ y=some u) (E:∀u,ev ((d1,.slice u 1 1)::σ) x=some v) [N:IsS P t e] [M:IsT P e α] [K:IsZ P e x0 bytes] (l:Own w B e F v xs) (G:Rd w F u yv) (J:B≤w.heap.size) (hF:∀b,F b→b<w.heap.size)
  (o:sz α≤16777216) (I:xs.length+1≤maxLen) (m:(xs.length+1)*bytes≤140737488355328)
  (h:∀j w' p,Own w' B e F j (xs++[yv])→w.grownBy w' v.ownBlock→(∀g,j.ownBlock=some g→v.ownBlock=some g∨w.heap.size≤g)→WL P L Q rest n ((d,j)::(d1,.slice p 1 1)::σ) w'):
  WL P L Q (⟨some d1,.buildSlice t 1 [(0,y)].toArray,ty1,pos1,af1,g1⟩::⟨some d,.call ⟨.builtin .append,#[x,.tmp d1],#[t,t]⟩,ty,pos,af,g⟩::rest) n σ w:=by
 refine WL.lit (vs:=[u]) (ys:=[yv]) r z rfl (by simp[FA,nL,D]) rfl ⟨G,trivial⟩ (by simpa using o) hF (fun A ho1 c=>?_);have a:w.heap.size≤A.heap.size:=c.size;have i:Own A B e F v xs:=l.kept c (fun _ _ h=>by cases h) fun b m=>⟨hF b m,fun h=>by cases h⟩
 refine WL.app (ys:=[yv]) (s _) hd (E _) pU i ho1.src (MN J a) (fun b m=>MQ (hF b m) a) (by simpa using I) (by simpa using m) (fun j w' H f hnb=>h j w' _ H ?_ (fun g s=>(hnb g s).imp id (fun h=>MN a h)));exact⟨f.os.trans c.os,f.tape.trans c.tape,f.output.trans c.output,MN a f.size,fun k C q=>(f.block k (MQ C a) q).trans (c.block k C (fun h=>by cases h))⟩
theorem eO{x:Operand}{v:Value}{xs:List α}{B:Nat}(c:gd L σ ⟨some d,.call ⟨.builtin .len,#[x],#[t]⟩,ty,pos,af,g⟩=some true)(hd:Nat.ble (d+1) n=true)
  (b:ev σ x=some v) [f:IsS P t e] (a:Own w B e F v xs) (h:WL P L Q rest n ((d,Py (xs.length:Int))::σ) w):WL P L Q (⟨some d,.call ⟨.builtin .len,#[x],#[t]⟩,ty,pos,af,g⟩::rest) n σ w:=by
 obtain⟨ao,cap,rfl⟩:=a.val;exact eQ c hd b h
theorem eD{x ix:Operand}{v:Value}{f B:Nat}{xs:List α}{i:Int}{kd:IntKind}{ty':TypeId}{pos':String}{af':Array Edge}{q:Option (Nat×Bool)}
  (s:gd L σ ⟨some d,.indexAddr t x ix,ty,pos,af,g⟩=some true) (hd:Nat.ble (d+1) n=true) (hd':Nat.ble (f+1) n=true)
  (r:ev σ x=some v) (hi:ev σ ix=some (.int kd i)) [A:IsS P t e] [z:IsT P e α] (c:Own w B e F v xs) (y:0≤i) (h1:i<xs.length)
  (l:∀p,gd L ((d,.pointer p)::σ) ⟨some f,.load e (.tmp d),ty',pos',af',q⟩=some true)
  (h:∀u p,Rd w F u (xs[i.toNat]'O7)→WL P L Q rest n ((f,u)::(d,.pointer p)::σ) w):
  WL P L Q (⟨some d,.indexAddr t x ix,ty,pos,af,g⟩::⟨some f,.load e (.tmp d),ty',pos',af',q⟩::rest) n σ w:=by
 rcases c with⟨rfl,rfl⟩|⟨b,off,cap,cur,rfl,o⟩
 ·simp at h1;omega
 ·refine eH (α:=α) s hd r hi y h1 ?_
  have k:i.toNat<xs.length:=by omega
  have m:=o.el.2 i.toNat k;refine WL.load (α:=α) (cs:=(((cur.toList.drop off).take (xs.length*sz α)).drop (i.toNat*sz α)).take (sz α)) (l _) hd' pU ?_ m ?_
  ·intro j u a
   rw[K5]at a
   split at a
   ·rw[KX]at a
    rw[Ow w b _ cur e (0,0) o.blk];have:=k8 a;rw[←this];congr 1;omega
   ·cases a
  ·exact h _ _ ⟨_,rfl,m⟩
theorem eE{x ix:Operand}{v:Value}{b B:Nat}{xs:List α}{i:Nat}{kd:IntKind}{ty':TypeId}{pos':String}{af':Array Edge}{f:Option (Nat×Bool)}
  (l:gd L σ ⟨some d,.indexAddr t x ix,ty,pos,af,g⟩=some true) (hd:Nat.ble (d+1) n=true) (hd':Nat.ble (b+1) n=true)
  (j:ev σ x=some v) (hi:ev σ ix=some (.int kd (i:Int))) [o:IsS P t e] [m:IsT P e α] (a:Own w B e F v xs) (h1:i<xs.length)
  (c:∀p,gd L ((d,.pointer p)::σ) ⟨some b,.load e (.tmp d),ty',pos',af',f⟩=some true)
  (h:∀u p,Rd w F u xs[i]→WL P L Q rest n ((b,u)::(d,.pointer p)::σ) w):
  WL P L Q (⟨some d,.indexAddr t x ix,ty,pos,af,g⟩::⟨some b,.load e (.tmp d),ty',pos',af',f⟩::rest) n σ w:=
 eD l hd hd' j hi a O7 O7 c (fun u p k=>h u p (by simpa using k))
theorem Ee{v u:Value}{xs:List α}{y:α}{b off cap B:Nat}{cur:Array Value}{i:Nat}(a:OwnAt w B e F b off cap cur xs)(hi:i<xs.length)(A:Rd w F u y)[E:IsT P e α]:
  ∃w',(storeVar e ⟨b,off+i*sz α,none⟩ u).run P w=.ok () w'∧Own w' B e F (.slice (some ⟨b,off,none⟩) xs.length cap) (xs.set i y)∧w.grownBy w' (some b):=by
 obtain⟨cs,z,f⟩:=A;have C:cs.length=sz α:=Rep.len f;have l:u.cells=cs.toArray:=by rw[z];apply Jq;simpa using Ir f
 have p:(i+1)*sz α≤cap*sz α:=MX _ (MN hi a.le);rw[Mt,M1]at p
 have s:=a.fit;have c:=OU P b (off+i*sz α) e cs 0 cur w a.blk O7 (Rep.one f);simp only[Mx]at c
 refine⟨w.setRow b (cur.toList.take (off+i*sz α)++cs++cur.toList.drop (off+i*sz α+cs.length)).toArray,?_,.inr ⟨b,off,cap,_,by rw[Lz],⟨OX w b cur _ e _ a.blk,a.ge,a.nF,by simpa using a.le,a.mx,?_,?_⟩⟩,⟨rfl,rfl,rfl,by simp,fun k _ q=>OY w b k _ (fun e=>q (by simp[e]))⟩⟩
 ·unfold storeVar
  rw[Nv,Ek (α:=α)];simp only[Nu,l];rw[OJ (by simp[C])];exact c
 ·simp only[Mg,Ll,LB,Ln,JC]
  omega
 ·have hh:∀k,F k→(w.setRow b (cur.toList.take (off+i*sz α)++cs++cur.toList.drop (off+i*sz α+cs.length)).toArray).heap[k]?=w.heap[k]?:=
   fun k q=>OY w b k _ (fun e=>a.nF (e▸q))
  have h1:=(a.el.mono (w':=w.setRow b (cur.toList.take (off+i*sz α)++cs++cur.toList.drop (off+i*sz α+cs.length)).toArray) hh fun _ h=>h).set (Rep.mono f hh fun _ h=>h) i hi;have D:(((cur.toList.take (off+i*sz α)++cs++cur.toList.drop (off+i*sz α+cs.length)).toArray.toList.drop off).take ((xs.set i y).length*sz α))=Be ((cur.toList.drop off).take (xs.length*sz α)) (i*sz α) cs:=by
   rw[Lz];have hn:i*sz α+cs.length≤xs.length*sz α:=by
    have:(i+1)*sz α≤xs.length*sz α:=MX _ hi;rw[Mt,M1]at this;omega
   have x:off+xs.length*sz α≤cur.toList.length:=by
    have:xs.length*sz α≤cap*sz α:=MX _ a.le;have G:cur.toList.length=cur.size:=JC;omega
   generalize i*sz α=o at*
   generalize xs.length*sz α=m at*
   unfold Be;apply KE;intro j
   simp only[K5,KX];by_cases r:j<m
   ·rw[OK r]
    by_cases h2:j<o
    ·rw[KU Pc,KU Pc,KU Pc,KU Pc]
     rw[K6 O7,K6 h2,K6 r,KX]
    ·by_cases h3:j<o+cs.length
     ·rw[KU Pc,KV Pc,KU Pc,KV Pc]
      congr 1
      simp;omega
     ·rw[KV Pc,KV Pc]
      rw[KX,KX,K6 Pc,KX]
      congr 1
      simp;omega
   ·rw[OJ r,KZ]
    simp;omega
  rw[D];exact h1
theorem WL.set{x ix y:Operand}{v u:Value}{B:Nat}{xs:List α}{yv:α}{i:Int}{kd:IntKind}{ty':TypeId}{pos':String}{af':Array Edge}{m:Option (Nat×Bool)}
  (A:gd L σ ⟨some d,.indexAddr t x ix,ty,pos,af,g⟩=some true) (hd:Nat.ble (d+1) n=true)
  (q:ev σ x=some v) (hi:ev σ ix=some (.int kd i)) [H:IsS P t e] [G:IsT P e α] (c:Own w B e F v xs) (C:0≤i) (h1:i<xs.length)
  (k:∀p,gd L ((d,.pointer p)::σ) ⟨none,.store e (.tmp d) y,ty',pos',af',m⟩=some true) (o:∀p,ev ((d,.pointer p)::σ) y=some u) (r:Rd w F u yv)
  (h:∀w' p,Own w' B e F v (xs.set i.toNat yv)→w.grownBy w' v.ownBlock→WL P L Q rest n ((d,.pointer p)::σ) w'):
  WL P L Q (⟨some d,.indexAddr t x ix,ty,pos,af,g⟩::⟨none,.store e (.tmp d) y,ty',pos',af',m⟩::rest) n σ w:=by
 rcases c with⟨rfl,rfl⟩|⟨b,off,cap,cur,rfl,z⟩
 ·simp at h1;omega
 ·refine eH (α:=α) A hd q hi C h1 ?_
  obtain⟨w',s,f,j⟩:=Ee (P:=P) (v:=u) (i:=i.toNat) z O7 r;refine fp (k _) (fun a l=>?_) (h w' _ f j);have E:=l.ev (x:=.tmp d) pU;have D:=l.ev (o _);simp[execOp,E,D,Instr.storeAt,Instr.sureAddr,s]
theorem ft{x ix y:Operand}{v u:Value}{B:Nat}{xs:List α}{yv:α}{i:Nat}{kd:IntKind}{ty':TypeId}{pos':String}{af':Array Edge}{c:Option (Nat×Bool)}
  (l:gd L σ ⟨some d,.indexAddr t x ix,ty,pos,af,g⟩=some true) (hd:Nat.ble (d+1) n=true)
  (j:ev σ x=some v) (hi:ev σ ix=some (.int kd (i:Int))) [o:IsS P t e] [m:IsT P e α] (a:Own w B e F v xs) (h1:i<xs.length)
  (b:∀p,gd L ((d,.pointer p)::σ) ⟨none,.store e (.tmp d) y,ty',pos',af',c⟩=some true) (f:∀p,ev ((d,.pointer p)::σ) y=some u) (k:Rd w F u yv)
  (h:∀w' p,Own w' B e F v (xs.set i yv)→w.grownBy w' v.ownBlock→WL P L Q rest n ((d,.pointer p)::σ) w'):
  WL P L Q (⟨some d,.indexAddr t x ix,ty,pos,af,g⟩::⟨none,.store e (.tmp d) y,ty',pos',af',c⟩::rest) n σ w:=
 WL.set l hd j hi a O7 O7 b f k (fun w' p=>by simpa using h w' p)
theorem DW{ao:Option Addr}{len cap lo hi:Nat}(w:World)[a:IsS P t e][c:IsT P e α](h1:lo≤hi)(h2:hi≤cap)(x y:Option Value)
  (b:x=none∧lo=0∨∃k,x=some (.int k (lo:Int))) (hh:y=none∧hi=len∨∃k,y=some (.int k (hi:Int))):
  (Instr.sliceAt t (.slice ao len cap) x y none).run P w=.ok (.slice (if cap=lo then ao else ao.map (·.add (lo*sz α))) (hi -lo) (cap -lo)) w:=by
 have a1:(lo:Int)≤(hi:Int):=by omega
 have a2:(hi:Int)≤(cap:Int):=by omega
 have a3:(0:Int)≤(lo:Int):=by omega
 have a4:(0:Int)≤(hi:Int):=by omega
 simp only[Instr.sliceAt,Nv,OW a.ok,Nu,Instr.slice,Instr.sliceBounds];rcases b with⟨rfl,rfl⟩|⟨k,rfl⟩
 ·rcases hh with⟨rfl,rfl⟩|⟨k',rfl⟩
  ·simp[Ek (α:=α)]
  ·simp[Ek (α:=α),Instr.sliceBound,asIntOf,h2,Jo]
 ·rcases hh with⟨rfl,rfl⟩|⟨k',rfl⟩
  ·simp[Ek (α:=α),Instr.sliceBound,asIntOf,h1]
  ·simp[Ek (α:=α),Instr.sliceBound,asIntOf,h1,h2]
theorem Own.take{v:Value}{xs:List α}{B:Nat}(h:Own w B e F v xs){ao:Option Addr}{cap k:Nat}(c:v=.slice ao xs.length cap)(f:k≤xs.length):Own w B e F (.slice ao k cap) (xs.take k):=by
 rcases h with⟨h1,rfl⟩|⟨g,off,cp,cur,h1,b⟩
 ·rw[h1]at c
  obtain⟨rfl,_,rfl⟩:=Oi c;have:k=0:=by simpa using f
  subst this;exact .inl ⟨rfl,by simp⟩
 ·rw[h1]at c
  obtain⟨rfl,_,rfl⟩:=Oi c;have a:(xs.take k).length=k:=by rw[LB];omega
  refine .inr ⟨g,off,cp,cur,by rw[a],⟨b.blk,b.ge,b.nF,by rw[a];exact MN f b.le,b.mx,b.fit,?_⟩⟩;have:=b.el.take k f;rw[List.take_take,MS (MX _ f)]at this
  rw[a];exact this
theorem Own.drop{v:Value}{xs:List α}{B:Nat}(h:Own w B e F v xs){ao:Option Addr}{cap k:Nat}(c:v=.slice ao xs.length cap)(i:k≤xs.length):
  Own w B e F (.slice (if cap=k then ao else ao.map (·.add (k*sz α))) (xs.length -k) (cap -k)) (xs.drop k):=by
 rcases h with⟨h1,rfl⟩|⟨g,off,cp,cur,h1,b⟩
 ·rw[h1]at c
  obtain⟨rfl,_,rfl⟩:=Oi c;have:k=0:=by simpa using i
  subst this;exact .inl ⟨by simp,by simp⟩
 ·rw[h1]at c
  obtain⟨rfl,_,rfl⟩:=Oi c;have a:(xs.drop k).length=xs.length -k:=Ln;have o:=b.le;have j:=b.fit;have f:k*sz α+(cp -k)*sz α=cp*sz α:=by rw[←Mt];congr 1;omega
  refine .inr ⟨g,if cp=k then off else off+k*sz α,cp -k,cur,?_,⟨b.blk,b.ge,b.nF,by rw[a];omega,?_,?_,?_⟩⟩
  ·rw[a]
   split
   ·rfl
   ·simp[Oj]
  ·have:=b.mx;omega
  ·split
   ·rename_i p;have:cp -k=0:=by omega
    rw[this];omega
   ·omega
  ·have:=b.el.drop k i
   rw[a];split
   ·rename_i p
    have l:xs.length -k=0:=by omega
    have m:xs.drop k=[]:=KC (by rw[a];exact l);rw[l,m];simpa using Elems.nil
   ·rw[List.drop_take,Kw]at this
    rw[Nat.sub_mul];exact this
theorem Sl.take{ao:Option Addr}{cap k:Nat}{xs:List α}(h:Sl w F ao cap xs)(a:k≤xs.length):Sl w F ao cap (xs.take k):=by
 refine⟨by rw[LB];have:=h.le;omega,h.mx,h.nil,fun i hi=>?_⟩;have:i<xs.length:=by rw[LB]at hi;omega
 rw[Lh];exact h.el i this
theorem eh{x y:Operand}{ao:Option Addr}{len cap:Nat}{i:Int}{kd:IntKind}(k:Nat)(b:i=(k:Int))(m:gd L σ ⟨some d,.slice t x none (some y) none,ty,pos,af,g⟩=some true)(hd:Nat.ble (d+1) n=true)
  (j:ev σ x=some (.slice ao len cap)) (f:ev σ y=some (.int kd i)) [p:IsS P t e] [o:IsT P e α] (l:k≤cap)
  (h:WL P L Q rest n ((d,.slice ao k cap)::σ) w):WL P L Q (⟨some d,.slice t x none (some y) none,ty,pos,af,g⟩::rest) n σ w:=by
 subst b;refine WL.run m hd (fun a c=>?_) h;have:=DW (P:=P) (t:=t) (e:=e) (α:=α) (ao:=ao) (len:=len) (cap:=cap) (lo:=0) (hi:=k) w O7 l none (some (.int kd (k:Int))) (.inl ⟨rfl,rfl⟩) (.inr ⟨kd,rfl⟩);simp[execOp,c.ev j,c.ev f,this,Jo]
theorem eu{x y:Operand}{ao:Option Addr}{len cap:Nat}{i:Int}{kd:IntKind}(k:Nat)(b:i=(k:Int))(m:gd L σ ⟨some d,.slice t x (some y) none none,ty,pos,af,g⟩=some true)(hd:Nat.ble (d+1) n=true)
  (j:ev σ x=some (.slice ao len cap)) (f:ev σ y=some (.int kd i)) [q:IsS P t e] [p:IsT P e α] (l:k≤len) (o:len≤cap)
  (h:WL P L Q rest n ((d,.slice (if cap=k then ao else ao.map (·.add (k*sz α))) (len -k) (cap -k))::σ) w):WL P L Q (⟨some d,.slice t x (some y) none none,ty,pos,af,g⟩::rest) n σ w:=by
 subst b;refine WL.run m hd (fun a c=>?_) h;have:=DW (P:=P) (t:=t) (e:=e) (α:=α) (ao:=ao) (len:=len) (cap:=cap) (lo:=k) (hi:=len) w l o (some (.int kd (k:Int))) none (.inr ⟨kd,rfl⟩) (.inl ⟨rfl,rfl⟩);simp[execOp,c.ev j,c.ev f,this]
theorem Own.le{v:Value}{xs:List α}{B:Nat}(h:Own w B e F v xs){ao:Option Addr}{len cap:Nat}(a:v=.slice ao len cap):xs.length≤cap:=by
 rcases h with⟨h1,rfl⟩|⟨g,off,cp,cur,h1,b⟩
 ·simp
 ·rw[h1]at a
  obtain⟨_,_,rfl⟩:=Oi a;exact b.le
theorem eq{x y:Operand}{v:Value}{xs:List α}{B:Nat}{i:Int}{kd:IntKind}(k:Nat)(c:i=(k:Int))(o:gd L σ ⟨some d,.slice t x none (some y) none,ty,pos,af,g⟩=some true)(hd:Nat.ble (d+1) n=true)
  (j:ev σ x=some v) (f:ev σ y=some (.int kd i)) [q:IsS P t e] [p:IsT P e α] (a:Own w B e F v xs) (m:k≤xs.length)
  (h:∀b,Own w B e F b (xs.take k)→b.ownBlock=v.ownBlock→WL P L Q rest n ((d,b)::σ) w):WL P L Q (⟨some d,.slice t x none (some y) none,ty,pos,af,g⟩::rest) n σ w:=by
 obtain⟨ao,cap,rfl⟩:=a.val;have l:=a.le rfl;refine eh (α:=α) k c o hd j f O7 (h _ (a.take rfl m) ?_);cases ao<;>rfl
theorem ew{x y:Operand}{v:Value}{xs:List α}{B:Nat}{i:Int}{kd:IntKind}(k:Nat)(j:i=(k:Int))(p:gd L σ ⟨some d,.slice t x (some y) none none,ty,pos,af,g⟩=some true)(hd:Nat.ble (d+1) n=true)
  (o:ev σ x=some v) (m:ev σ y=some (.int kd i)) [r:IsS P t e] [q:IsT P e α] (b:Own w B e F v xs) (l:k≤xs.length)
  (h:∀c,Own w B e F c (xs.drop k)→c.ownBlock=v.ownBlock→WL P L Q rest n ((d,c)::σ) w):WL P L Q (⟨some d,.slice t x (some y) none none,ty,pos,af,g⟩::rest) n σ w:=by
 obtain⟨ao,cap,rfl⟩:=b.val;have f:=b.le rfl;refine eu (α:=α) k j p hd o m l f (h _ (b.drop rfl l) ?_);cases ao with
 |none=>split<;>rfl
 |some a=>
  split
  ·rfl
  ·simp only[Option.map_some,Value.ownBlock,Addr.add]
   split<;>rfl
end
@[irreducible] def QL (P:Program) (ops:List Oper) (w:World) (Q:Exit→Act→World→Prop) (l:List Oper) (n:Nat) (σ:Sg):Prop:=
  ∀a,Fr n σ a→wpQuiet P ops.toArray (fun w'=>Ext w w') (fun b=>∀w',Ext w w'→Q .normal b w') l a
section
variable {P:Program}{Q:Exit→Act→World→Prop}{n:Nat}{σ:Sg}{w:World}{L rest:List Oper}{d:Nat}{op:Op}{ty:TypeId}{pos:String}{af:Array Edge}{g:Option (Nat×Bool)}
theorem aC{id:Nat}{l:List Oper}(b:P.follows .mixedOrders=true)(e:Region.lexB .any l.toArray=true)(h:QL P l w Q l n σ):CW P (.region id l.toArray true) Q n σ w:=by
 unfold CW;unfold QL at h;intro a c
 exact wp_region_quiet (C:=fun w'=>Ext w w') b e ⟨rfl,rfl,rfl,MM _,fun _ _=>rfl⟩ (by simpa using h a c)
theorem QL.nil{l:List Oper}(h:∀w',Ext w w'→EX Q .normal n σ w'):QL P l w Q [] n σ:=by
 unfold QL;unfold EX at h;intro a c
 exact wpQuiet_nil (fun w' b=>h w' b a c)
theorem QL.run{v:Value}(f:gd L σ ⟨some d,op,ty,pos,af,g⟩=some true)(hd:Nat.ble (d+1) n=true)
  (e:∀a,Fr n σ a→∀w',Ext w w'→(execOp a.eval ⟨some d,op,ty,pos,af,g⟩).run P w'=.ok (.value v) w') (h:QL P L w Q rest n ((d,v)::σ)):QL P L w Q (⟨some d,op,ty,pos,af,g⟩::rest) n σ:=by
 unfold QL at*
 intro a c
 refine O3 fun K i=>?_
 rw[qE c f,OK rfl];refine⟨v,fun w' b=>?_,i _ (h _ (c.put (d:=some d) hd))⟩;unfold Oper.quietAt;rw[e a c w' b];exact⟨rfl,rfl⟩
theorem dx{v:Value}(c:gd L σ ⟨some d,op,ty,pos,af,g⟩=some true)(hd:Nat.ble (d+1) n=true)
  (b:Cy σ op=some v) (h:QL P L w Q rest n ((d,v)::σ)):QL P L w Q (⟨some d,op,ty,pos,af,g⟩::rest) n σ:=
 QL.run c hd (fun a e _ _=>Cz e b) h
theorem QL.pass(c:gd L σ ⟨some d,op,ty,pos,af,g⟩=some false)(hd:Nat.ble (d+1) n=true)(h:QL P L w Q rest n ((d,undef)::σ)):QL P L w Q (⟨some d,op,ty,pos,af,g⟩::rest) n σ:=by
 unfold QL at*
 intro a b
 refine O3 fun K e=>?_
 rw[qE b c,OJ O_];exact e _ (h _ (b.put (d:=some d) hd))
theorem dr{s:Nat}{b:Bool}(c:fnd σ s=some (.bool b))(f:b=true→QL P L w Q rest n ((s,.bool true)::σ))(hf:b=false→QL P L w Q rest n ((s,.bool false)::σ)):QL P L w Q rest n σ:=by
 unfold QL at*
 intro a e
 cases b with
 |true=>exact f rfl a (e.set c)
 |false=>exact hf rfl a (e.set c)
theorem dt{dd:Option Nat}{j s:Nat}{want b:Bool}(e:rM L j=some s)(c:fnd σ s=some (.bool b))(a:b=true→QL P L w Q (⟨dd,op,ty,pos,af,some (j,want)⟩::rest) n ((s,.bool true)::σ))
  (hf:b=false→QL P L w Q (⟨dd,op,ty,pos,af,some (j,want)⟩::rest) n ((s,.bool false)::σ)):QL P L w Q (⟨dd,op,ty,pos,af,some (j,want)⟩::rest) n σ:=dr c a hf
theorem QL.add{t yt:TypeId}{x y:Operand}{a b:Int}(f:gd L σ ⟨some d,.binOp .add t x y yt,ty,pos,af,g⟩=some true)(hd:Nat.ble (d+1) n=true)
  (e:ev σ x=some (Py a)) (c:ev σ y=some (Py b)) (i: -9223372036854775808≤a+b) (h1:a+b<9223372036854775808) (h:QL P L w Q rest n ((d,Py (a+b))::σ)):QL P L w Q (⟨some d,.binOp .add t x y yt,ty,pos,af,g⟩::rest) n σ:=by
 refine dx f hd (v:=Py (a+b)) ?_ h;simp only[Cy,e,c,BP];rw[Jk i h1]
theorem dz{t yt:TypeId}{x y:Operand}{a b:Int}(f:gd L σ ⟨some d,.binOp .sub t x y yt,ty,pos,af,g⟩=some true)(hd:Nat.ble (d+1) n=true)
  (e:ev σ x=some (Py a)) (c:ev σ y=some (Py b)) (i: -9223372036854775808≤a -b) (h1:a -b<9223372036854775808) (h:QL P L w Q rest n ((d,Py (a -b))::σ)):QL P L w Q (⟨some d,.binOp .sub t x y yt,ty,pos,af,g⟩::rest) n σ:=by
 refine dx f hd (v:=Py (a -b)) ?_ h;simp only[Cy,e,c,BP];rw[Jk i h1]
theorem dq{t e:TypeId}{x:Operand}{ao:Option Addr}{k cap:Nat}(f:gd L σ ⟨some d,.call ⟨.builtin .len,#[x],#[t]⟩,ty,pos,af,g⟩=some true)(hd:Nat.ble (d+1) n=true)
  (b:ev σ x=some (.slice ao k cap)) [c:IsS P t e] (h:QL P L w Q rest n ((d,Py (k:Int))::σ)):QL P L w Q (⟨some d,.call ⟨.builtin .len,#[x],#[t]⟩,ty,pos,af,g⟩::rest) n σ:=by
 refine QL.run f hd (fun a i _ _=>?_) h;simp[execOp,resolve,invoke,builtin,i.ev b,Builtin.len_,OW c.ok,goInt]
theorem dm{α:Type}[Rep α]{t e:TypeId}{x ix:Operand}{b off:Nat}{k cap:Nat}{i:Int}{kd:IntKind}(l:gd L σ ⟨some d,.indexAddr t x ix,ty,pos,af,g⟩=some true)(hd:Nat.ble (d+1) n=true)
  (f:ev σ x=some (.slice (some ⟨b,off,none⟩) k cap)) (hi:ev σ ix=some (.int kd i)) [j:IsS P t e] [o:IsT P e α] (m:0≤i) (h1:i<k)
  (h:QL P L w Q rest n ((d,.pointer (some ⟨b,off+i.toNat*sz α,none⟩))::σ)):QL P L w Q (⟨some d,.indexAddr t x ix,ty,pos,af,g⟩::rest) n σ:=by
 refine QL.run l hd (fun a c _ _=>?_) h;simp[execOp,c.ev f,c.ev hi,Instr.indexAt,asIntOf,OW j.ok,m,h1,Ek (α:=α),Oj]
theorem QL.load{α:Type}[Rep α]{t:TypeId}{x:Operand}{b off:Nat}{F:Nat→Prop}{cs:List Value}{y:α}(m:gd L σ ⟨some d,.load t x,ty,pos,af,g⟩=some true)(hd:Nat.ble (d+1) n=true)
  (i:ev σ x=some (.pointer (some ⟨b,off,none⟩))) [r:IsT P t α] (p:b<w.heap.size) (hF:∀b,F b→b<w.heap.size) (o:Cells w b off cs) (j:rd w F cs y)
  (h:QL P L w Q rest n ((d,Iq α cs)::σ)):QL P L w Q (⟨some d,.load t x,ty,pos,af,g⟩::rest) n σ:=by
 refine QL.run m hd (fun a q w' c=>?_) h;have f:Cells w' b off cs:=o.mono (c.block b p);have e:rd w' F cs y:=Rep.mono j (fun k l=>c.block k (hF k l)) fun _ h=>h
 simp[execOp,q.ev i,Instr.loadAt,Instr.sureAddr,D5 f e]
theorem dh{α:Type}[Rep α]{t e:TypeId}{x ix:Operand}{ao:Option Addr}{cap a:Nat}{xs:List α}{F:Nat→Prop}{i:Int}{kd:IntKind}{ty':TypeId}{pos':String}{af':Array Edge}{l:Option (Nat×Bool)}
  (o:gd L σ ⟨some d,.indexAddr t x ix,ty,pos,af,g⟩=some true) (hd:Nat.ble (d+1) n=true) (hd':Nat.ble (a+1) n=true)
  (m:ev σ x=some (.slice ao xs.length cap)) (hi:ev σ ix=some (.int kd i)) [z:IsS P t e] [v:IsT P e α] (hF:∀b,F b→b<w.heap.size) (c:Sl w F ao cap xs) (r:0≤i) (h1:i<xs.length)
  (f:∀p,gd L ((d,.pointer p)::σ) ⟨some a,.load e (.tmp d),ty',pos',af',l⟩=some true)
  (h:∀u p,Rd w F u (xs[i.toNat]'O7)→QL P L w Q rest n ((a,u)::(d,.pointer p)::σ)):
  QL P L w Q (⟨some d,.indexAddr t x ix,ty,pos,af,g⟩::⟨some a,.load e (.tmp d),ty',pos',af',l⟩::rest) n σ:=by
 obtain⟨b,off,rfl,j,s,q,k⟩:=c.el i.toNat O7;refine dm (α:=α) o hd m hi r h1 ?_;refine QL.load (α:=α) (f _) hd' pU (hF b j) hF q k ?_;exact h _ _ ⟨s,rfl,k⟩
theorem dk{α:Type}[Rep α]{t e:TypeId}{x ix:Operand}{ao:Option Addr}{cap a:Nat}{xs:List α}{F:Nat→Prop}{i:Nat}{kd:IntKind}{ty':TypeId}{pos':String}{af':Array Edge}{j:Option (Nat×Bool)}
  (m:gd L σ ⟨some d,.indexAddr t x ix,ty,pos,af,g⟩=some true) (hd:Nat.ble (d+1) n=true) (hd':Nat.ble (a+1) n=true)
  (k:ev σ x=some (.slice ao xs.length cap)) (hi:ev σ ix=some (.int kd (i:Int))) [q:IsS P t e] [o:IsT P e α] (hF:∀b,F b→b<w.heap.size) (c:Sl w F ao cap xs) (h1:i<xs.length)
  (f:∀p,gd L ((d,.pointer p)::σ) ⟨some a,.load e (.tmp d),ty',pos',af',j⟩=some true)
  (h:∀u p,Rd w F u xs[i]→QL P L w Q rest n ((a,u)::(d,.pointer p)::σ)):
  QL P L w Q (⟨some d,.indexAddr t x ix,ty,pos,af,g⟩::⟨some a,.load e (.tmp d),ty',pos',af',j⟩::rest) n σ:=
 dh m hd hd' k hi hF c O7 O7 f (fun u p l=>h u p (by simpa using l))
theorem di{t e:TypeId}{x ix:Operand}{ao:Option Addr}{cap a:Nat}{xs:List Int}{F:Nat→Prop}{i:Nat}{y:Int}{kd:IntKind}{ty':TypeId}{pos':String}{af':Array Edge}{j:Option (Nat×Bool)}
  (o:gd L σ ⟨some d,.indexAddr t x ix,ty,pos,af,g⟩=some true) (hd:Nat.ble (d+1) n=true) (hd':Nat.ble (a+1) n=true)
  (l:ev σ x=some (.slice ao xs.length cap)) (hi:ev σ ix=some (.int kd (i:Int))) [r:IsS P t e] [q:IsT P e Int] (hF:∀b,F b→b<w.heap.size) (c:Sl w F ao cap xs) (h1:i<xs.length) (k:xs[i]=y)
  (f:∀p,gd L ((d,.pointer p)::σ) ⟨some a,.load e (.tmp d),ty',pos',af',j⟩=some true)
  (h:∀p,QL P L w Q rest n ((a,Py y)::(d,.pointer p)::σ)):
  QL P L w Q (⟨some d,.indexAddr t x ix,ty,pos,af,g⟩::⟨some a,.load e (.tmp d),ty',pos',af',j⟩::rest) n σ:=
 dk o hd hd' l hi hF c h1 f (fun u p m=>by rw[m.int,k];exact h p)
theorem dg{f:FuncId}{x:Operand}{xs:List Operand}{j:Array TypeId}{vs fv cv:List Value}{v:Value}
  (p:gd L σ ⟨some d,.call ⟨.value x,xs.toArray,j⟩,ty,pos,af,g⟩=some true) (hd:Nat.ble (d+1) n=true) (l:ev σ x=some (.func (.func f) fv.toArray cv.toArray)) (m:nL σ xs=some vs) [hf:IsF P f]
  (q:∀i,Ext w i→Rt P f (fv++vs++cv).toArray i fun u k=>u=v∧Ext i k) (h:QL P L w Q rest n ((d,v)::σ)):QL P L w Q (⟨some d,.call ⟨.value x,xs.toArray,j⟩,ty,pos,af,g⟩::rest) n σ:=by
 unfold QL at*
 intro a c
 refine O3 fun K r=>?_
 rw[qE c p,OK rfl];have A:=nM c xs vs m;have z:=c.ev l;refine⟨v,fun w' b=>?_,r _ (h _ (c.put (d:=some d) hd))⟩;have o:(execOp a.eval ⟨some d,.call ⟨.value x,xs.toArray,j⟩,ty,pos,af,g⟩).run P w'=.ok (.enter f (fv++vs++cv).toArray) w':=by
  have:=iZ (P:=P) (f:=f) (w:=w') (fv++vs++cv).toArray;simp[execOp,resolve,z,Deferred.ofValue,invoke,A];simpa using this
 unfold Oper.quietAt;rw[o];refine⟨rfl,J0 (q w' b) ?_⟩;rintro e w'' ⟨u,rfl,rfl,s⟩
 exact⟨rfl,Ext.trans b s⟩
theorem QL.call{f:FuncId}{xs:List Operand}{b:Array TypeId}{vs:List Value}{v:Value}
  (i:gd L σ ⟨some d,.call ⟨.value (.func f),xs.toArray,b⟩,ty,pos,af,g⟩=some true) (hd:Nat.ble (d+1) n=true) (e:nL σ xs=some vs) [hf:IsF P f]
  (j:∀a,Ext w a→Rt P f vs.toArray a fun u c=>u=v∧Ext a c) (h:QL P L w Q rest n ((d,v)::σ)):QL P L w Q (⟨some d,.call ⟨.value (.func f),xs.toArray,b⟩,ty,pos,af,g⟩::rest) n σ:=
 dg i hd (fv:=[]) (cv:=[]) rfl e (by simpa using j) h
end
class IsB(P:Program)(t:TypeId):Prop where
 ok:P.underlying t=some .bool
section
variable {P:Program}{Q:Exit→Act→World→Prop}{n:Nat}{σ:Sg}{w:World}{L rest:List Oper}{d:Nat}{op:Op}{ty:TypeId}{pos:String}{af:Array Edge}{g:Option (Nat×Bool)}{t yt:TypeId}{x y:Operand}
theorem DX[c:IsB P t](a b:Bool)(w:World):((do eqGuard .eql t x y (.bool a) (.bool b);binOp .eql t (.bool a) (.bool b):Sem Value)).run P w=.ok (.bool (a==b)) w:=by
 simp[eqGuard_at_bool,run_eql_bool w t a b c.ok]
theorem eF{a b:Bool}(j:gd L σ ⟨some d,.binOp .eql t x y yt,ty,pos,af,g⟩=some true)(hd:Nat.ble (d+1) n=true)(i:ev σ x=some (.bool a))(f:ev σ y=some (.bool b))[k:IsB P t]
  (h:WL P L Q rest n ((d,.bool (a==b))::σ) w):WL P L Q (⟨some d,.binOp .eql t x y yt,ty,pos,af,g⟩::rest) n σ w:=by
 refine WL.run j hd (fun c e=>?_) h;have:=DX (P:=P) (t:=t) (x:=x) (y:=y) a b w;simp only[execOp,e.ev i,e.ev f];rw[Nv,this];rfl
theorem eK{e:TypeId}{ao:Option Addr}{k cap:Nat}(i:gd L σ ⟨some d,.binOp .eql t x (.const (.slice none 0 0)) yt,ty,pos,af,g⟩=some true)(hd:Nat.ble (d+1) n=true)(b:ev σ x=some (.slice ao k cap))[f:IsS P t e]
  (h:WL P L Q rest n ((d,.bool ao.isNone)::σ) w):WL P L Q (⟨some d,.binOp .eql t x (.const (.slice none 0 0)) yt,ty,pos,af,g⟩::rest) n σ w:=by
 refine WL.run i hd (fun c a=>?_) h;have:=run_equal_slice_nil w t e ao k cap f.ok;simp[execOp,a.ev b,a.ev (x:=.const (.slice none 0 0)) rfl,eqGuard_at_slice,binOp,this]
end
def Blk(w:World)(b:Nat)(e:TypeId)(cells:List Value):Prop:=w.heap[b]?=some (.cells cells.toArray e (0,0))
section
variable {w w':World}{b:Nat}{e:TypeId}{cells:List Value}
theorem Blk.lt(h:Blk w b e cells):b<w.heap.size:=(Jv.1 h).1
theorem Blk.ext(h:Blk w b e cells)(a:Ext w w'):Blk w' b e cells:=(a.block b h.lt).trans h
theorem Blk.kept{row:Option Nat}(h:Blk w b e cells)(c:w.grownBy w' row)(a:some b≠row):Blk w' b e cells:=(c.block b h.lt a).trans h
theorem Blk.cell(h:Blk w b e cells){o:Nat}{v:Value}(a:cells[o]?=some v):w.cell? ⟨b,o,none⟩=some v:=by
 rw[Ow w b o cells.toArray e (0,0) h];simpa using a
theorem Blk.alloc(w:World)(cells:List Value)(e:TypeId):Blk (w.alloc (.cells cells.toArray e)) w.heap.size e cells:=OH w _
end
class IsFd(P:Program)(t f:Nat)(o:outParam Nat):Prop where
 ok:∃fs fld i,P.underlying t=some (.struct fs)∧fs[f]?=some fld∧fld.offset=o∧P.info? fld.type=some i∧i.size≠0
def oQ(P:Program)(t f:Nat):Option (Nat×Bool):=match P.underlying t with
 |some (.struct fs)=>(fs[f]?).bind fun fld=>(P.info? fld.type).map fun i=>(fld.offset,Nat.beq i.size 0)
 |_=>none
theorem IsFd.of{P:Program}{t f o:Nat}(h:oQ P t f=some (o,false)):IsFd P t f o:=by
 unfold oQ at h
 split at h
 ·rename_i fs a
  obtain⟨fld,h1,h2⟩:=Ni.1 h;obtain⟨i,h3,h4⟩:=Nl.1 h2;simp only[Nq]at h4
  refine⟨fs,fld,i,a,h1,h4.1,h3,fun e=>?_⟩;rw[e]at h4;exact absurd h4.2 O9
 ·cases h
class IsC(P:Program)(t:TypeId)(k:outParam Nat)(ag:outParam Bool):Prop where
 ok:∃i d,P.info? t=some i∧i.size=k∧P.underlying t=some d∧fP d=ag
theorem IsC.of{P:Program}{t:TypeId}{k:Nat}{ag:Bool}{d:TypeDesc}(h:(P.info? t).map (fun i=>Nat.beq i.size k)=some true)(a:P.underlying t=some d)(hd:fP d=ag):IsC P t k ag:=by
 obtain⟨i,hi,c⟩:=Nl.1 h;exact⟨i,d,hi,MB c,a,hd⟩
class IsZC(P:Program)(t:TypeId)(zs:outParam (List Value)):Prop where
 ok:∃i z,P.info? t=some i∧i.zero=some z∧z.cells=zs.toArray
theorem IsZC.of{P:Program}{t:TypeId}{z:Value}{zs:List Value}(h:(P.info? t).map (fun i=>i.zero)=some (some z))(a:z.cells=zs.toArray):IsZC P t zs:=by
 obtain⟨i,hi,c⟩:=Nl.1 h;exact⟨i,z,hi,c,a⟩
class IsBd(P:Program)(t:TypeId)(places:outParam (List (Nat×Nat))):Prop where
 ok:∃fs,P.underlying t=some (.struct fs)∧fs.toList.mapM (fun f=>(P.info? f.type).map fun i=>(f.offset,i.size))=some places
def hY(P:Program)(t:TypeId):Option (List (Nat×Nat)):=match P.underlying t with
 |some (.struct fs)=>fs.toList.mapM (fun f=>(P.info? f.type).map fun i=>(f.offset,i.size))
 |_=>none
theorem IsBd.of{P:Program}{t:TypeId}{places:List (Nat×Nat)}(h:hY P t=some places):IsBd P t places:=by
 unfold hY at h
 split at h
 ·rename_i fs a;exact⟨fs,a,h⟩
 ·cases h
def EB:List Value→Nat→Nat→Option (List Value)
 |_,0,0=>some []
 |v::r,0,n+1=>(EB r 0 n).map (v::·)
 |_::r,o+1,n=>EB r o n
 |[],_,_=>none
theorem EC:∀(l:List Value) (o n:Nat) (vs:List Value),EB l o n=some vs→vs.length=n∧∀j u,vs[j]?=some u→l[o+j]?=some u
 |[],0,0,vs,h=>by simp[EB]at h;subst h;exact⟨rfl,fun j u a=>by simp at a⟩
 |v::r,0,0,vs,h=>by simp[EB]at h;subst h;exact⟨rfl,fun j u a=>by simp at a⟩
 |[],0,n+1,vs,h=>by simp[EB]at h
 |[],o+1,n,vs,h=>by simp[EB]at h
 |v::r,0,n+1,vs,h=>by
  simp only[EB]at h
  obtain⟨us,h1,h2⟩:=Nl.1 h;subst h2;obtain⟨h3,h4⟩:=EC r 0 n us h1;refine⟨by simp[h3],fun j u a=>?_⟩;cases j with
  |zero=>simpa using a
  |succ j=>
   have:=h4 j u (by simpa using a);simpa using this
 |v::r,o+1,n,vs,h=>by
  have c:EB r o n=some vs:=by cases n<;>simpa[EB]using h
  obtain⟨h3,h4⟩:=EC r o n vs c;refine⟨h3,fun j u a=>?_⟩;have:=h4 j u a;rw[show o+1+j=(o+j)+1 by omega,KW];exact this
def jc:Value→List Value
 |.agg cs=>cs.toList
 |v=>[v]
theorem jd(v:Value):v.cells=(jc v).toArray:=by cases v<;>rfl
def Bf:List Value→Nat→List Value→Option (List Value)
 |l,0,[]=>some l
 |_::r,0,v::vs=>(Bf r 0 vs).map (v::·)
 |u::r,o+1,vs=>(Bf r o vs).map (u::·)
 |[],_,_=>none
theorem Bg:∀(l:List Value) (o:Nat) (vs out:List Value),Bf l o vs=some out→o+vs.length≤l.length∧out=l.take o++vs++l.drop (o+vs.length)
 |[],0,[],out,h=>by simp[Bf]at h;subst h;simp
 |v::r,0,[],out,h=>by simp[Bf]at h;subst h;simp
 |[],0,v::vs,out,h=>by simp[Bf]at h
 |[],o+1,vs,out,h=>by simp[Bf]at h
 |u::r,0,v::vs,out,h=>by
  simp only[Bf]at h
  obtain⟨us,h1,h2⟩:=Nl.1 h;subst h2;obtain⟨h3,h4⟩:=Bg r 0 vs us h1;refine⟨by simp at h3⊢;omega,?_⟩;rw[h4];simp
 |u::r,o+1,vs,out,h=>by
  have a:(Bf r o vs).map (u::·)=some out:=by cases vs<;>simpa[Bf]using h
  obtain⟨us,h1,h2⟩:=Nl.1 a;subst h2;obtain⟨h3,h4⟩:=Bg r o vs us h1;refine⟨by simp at h3⊢;omega,?_⟩;rw[h4];rw[show o+1+vs.length=(o+vs.length)+1 by omega];simp
def Ad:List (Nat×Nat)→Nat→Option (Nat×Nat)
 |[],_=>none
 |x::_,0=>some x
 |_::r,i+1=>Ad r i
theorem Ae:∀(l:List (Nat×Nat)) (i:Nat),Ad l i=l[i]?
 |[],i=>by simp[Ad]
 |x::r,0=>by simp[Ad]
 |x::r,i+1=>by simp[Ad,Ae r i]
def xI:List Value→Nat
 |[]=>0
 |_::r=>xI r+1
theorem xJ:∀l:List Value,xI l=l.length
 |[]=>rfl
 |_::r=>by simp[xI,xJ r]
def oS(places:List (Nat×Nat)):List Value→List (Nat×Value)→Option (List Value)
 |cells,[]=>some cells
 |cells,(i,v)::rest=>match Ad places i with
  |none=>none
  |some (off,k)=>match Nat.beq (xI (jc v)) k,Bf cells off (jc v)with
   |true,some out=>oS places out rest
   |_,_=>none
theorem oT(places:List (Nat×Nat)):∀(parts:List (Nat×Value)) (cells out:List Value),oS places cells parts=some out→Instr.fill (places.toArray[·]?) cells.toArray parts=some out.toArray
 |[],cells,out,h=>by simp[oS]at h;subst h;simp[Instr.fill]
 |(i,v)::rest,cells,out,h=>by
  simp only[oS]at h
  split at h
  ·cases h
  ·rename_i off k m
   split at h
   ·rename_i out1 s q
    obtain⟨h1,h2⟩:=Bg _ _ _ _ q;have r:(jc v).length=k:=by rw[←xJ];exact MB s
    have p:=oT places rest out1 out h;rw[Ae]at m
    have a:=pX (jc v) off cells.toArray (by simpa using h1);have l:(v.cells.zipIdx.foldl (fun(cs:Array Value) (x:Value×Nat)=>cs.setIfInBounds (off+x.2) x.1) cells.toArray)=out1.toArray:=by
     rw[jd,←Jr,JF,h2];simpa using a
    have f:(v.cells.zipIdx.foldl (fun cs (x:Value×Nat)=>match x with|(c,j)=>cs.setIfInBounds (off+j) c) cells.toArray)=out1.toArray:=l;simp only[Instr.fill];rw[show(places.toArray[i]?)=some (off,k) by simpa using m];simp only;rw[OJ (by rw[jd];simp[r];omega),f];exact p
   ·cases h
section
variable {P:Program}{Q:Exit→Act→World→Prop}{n:Nat}{σ:Sg}{w:World}{L rest:List Oper}{d:Nat}{ty:TypeId}{pos:String}{af:Array Edge}{g:Option (Nat×Bool)}{t e:TypeId}{x y:Operand}{b o:Nat}{cells:List Value}
theorem DY{f k:Nat}[hf:IsFd P t f k](w:World):(Instr.fieldAt t (.pointer (some ⟨b,o,none⟩)) f).run P w=.ok (.pointer (some ⟨b,o+k,none⟩)) w:=by
 obtain⟨fs,fld,i,h1,h2,h3,h4,a⟩:=hf.ok;simp[Instr.fieldAt,OW h1,h2,Instr.sureAddr,fieldPlace,sizeOf,typeInfo,h4,a,h3,Oj]
theorem eG{f k:Nat}(i:gd L σ ⟨some d,.fieldAddr t x f,ty,pos,af,g⟩=some true)(hd:Nat.ble (d+1) n=true)(c:ev σ x=some (.pointer (some ⟨b,o,none⟩)))[hf:IsFd P t f k]
  (h:WL P L Q rest n ((d,.pointer (some ⟨b,o+k,none⟩))::σ) w):WL P L Q (⟨some d,.fieldAddr t x f,ty,pos,af,g⟩::rest) n σ w:=by
 refine WL.run i hd (fun a j=>?_) h;simp[execOp,j.ev c,DY (P:=P) (t:=t) (f:=f) (k:=k)]
theorem dl{f k:Nat}(i:gd L σ ⟨some d,.fieldAddr t x f,ty,pos,af,g⟩=some true)(hd:Nat.ble (d+1) n=true)(c:ev σ x=some (.pointer (some ⟨b,o,none⟩)))[hf:IsFd P t f k]
  (h:QL P L w Q rest n ((d,.pointer (some ⟨b,o+k,none⟩))::σ)):QL P L w Q (⟨some d,.fieldAddr t x f,ty,pos,af,g⟩::rest) n σ:=by
 refine QL.run i hd (fun a j w' _=>?_) h;simp[execOp,j.ev c,DY (P:=P) (t:=t) (f:=f) (k:=k)]
theorem D0{v:Value}(w:World)(h:Blk w b e cells)(c:Af cells o=some v)[f:IsC P t 1 false]:(Instr.loadAt t (.pointer (some ⟨b,o,none⟩))).run P w=.ok v w:=by
 obtain⟨i,dd,h1,h2,h3,h4⟩:=f.ok;have a:(isAgg t).run P w=.ok false w:=by
  unfold isAgg;rw[Nv,OW h3 w,←h4];cases dd<;>rfl
 rw[Ag]at c
 simp only[Instr.loadAt,Nv,Instr.sureAddr,Nx,Nu,loadVar,a];simp[h.cell c]
theorem D1{vs:List Value}{k:Nat}(w:World)(q:Blk w b e cells)(f:EB cells o k=some vs)[p:IsC P t k true]:(Instr.loadAt t (.pointer (some ⟨b,o,none⟩))).run P w=.ok (.agg vs.toArray) w:=by
 obtain⟨i,dd,h1,h2,h3,h4⟩:=p.ok;have c:(isAgg t).run P w=.ok true w:=by
  unfold isAgg;rw[Nv,OW h3 w,←h4];cases dd<;>rfl
 obtain⟨m,l⟩:=EC _ _ _ _ f;have a:=OS (P:=P) w ⟨b,o,none⟩ vs (fun j u h=>by rw[Oj];exact q.cell (l j u h));rw[m]at a
 simp[Instr.loadAt,Instr.sureAddr,loadVar,c,sizeOf,typeInfo,h1,h2,a]
theorem eL{v:Value}(i:gd L σ ⟨some d,.load t x,ty,pos,af,g⟩=some true)(hd:Nat.ble (d+1) n=true)(c:ev σ x=some (.pointer (some ⟨b,o,none⟩)))[l:IsC P t 1 false](j:Blk w b e cells)(f:Af cells o=some v)
  (h:WL P L Q rest n ((d,v)::σ) w):WL P L Q (⟨some d,.load t x,ty,pos,af,g⟩::rest) n σ w:=by
 refine WL.run i hd (fun a k=>?_) h;simp[execOp,k.ev c,D0 (P:=P) (t:=t) w j f]
theorem dn{v:Value}(i:gd L σ ⟨some d,.load t x,ty,pos,af,g⟩=some true)(hd:Nat.ble (d+1) n=true)(c:ev σ x=some (.pointer (some ⟨b,o,none⟩)))[m:IsC P t 1 false](j:Blk w b e cells)(f:Af cells o=some v)
  (h:QL P L w Q rest n ((d,v)::σ)):QL P L w Q (⟨some d,.load t x,ty,pos,af,g⟩::rest) n σ:=by
 refine QL.run i hd (fun a k w' l=>?_) h;simp[execOp,k.ev c,D0 (P:=P) (t:=t) w' (j.ext l) f]
theorem eM{vs:List Value}{k:Nat}(i:gd L σ ⟨some d,.load t x,ty,pos,af,g⟩=some true)(hd:Nat.ble (d+1) n=true)(c:ev σ x=some (.pointer (some ⟨b,o,none⟩)))[m:IsC P t k true](j:Blk w b e cells)(f:EB cells o k=some vs)
  (h:WL P L Q rest n ((d,.agg vs.toArray)::σ) w):WL P L Q (⟨some d,.load t x,ty,pos,af,g⟩::rest) n σ w:=by
 refine WL.run i hd (fun a l=>?_) h;simp[execOp,l.ev c,D1 (P:=P) (t:=t) w j f]
theorem dp{vs:List Value}{k:Nat}(i:gd L σ ⟨some d,.load t x,ty,pos,af,g⟩=some true)(hd:Nat.ble (d+1) n=true)(c:ev σ x=some (.pointer (some ⟨b,o,none⟩)))[p:IsC P t k true](j:Blk w b e cells)(f:EB cells o k=some vs)
  (h:QL P L w Q rest n ((d,.agg vs.toArray)::σ)):QL P L w Q (⟨some d,.load t x,ty,pos,af,g⟩::rest) n σ:=by
 refine QL.run i hd (fun a l w' m=>?_) h;simp[execOp,l.ev c,D1 (P:=P) (t:=t) w' (j.ext m) f]
theorem fh{p:Addr}(f:gd L σ ⟨some d,.nilCheck x,ty,pos,af,g⟩=some true)(hd:Nat.ble (d+1) n=true)(c:ev σ x=some (.pointer (some p)))
  (h:WL P L Q rest n ((d,.pointer (some p))::σ) w):WL P L Q (⟨some d,.nilCheck x,ty,pos,af,g⟩::rest) n σ w:=by
 refine WL.run f hd (fun a i=>?_) h;simp[execOp,i.ev c]
theorem du{p:Addr}(f:gd L σ ⟨some d,.nilCheck x,ty,pos,af,g⟩=some true)(hd:Nat.ble (d+1) n=true)(c:ev σ x=some (.pointer (some p)))
  (h:QL P L w Q rest n ((d,.pointer (some p))::σ)):QL P L w Q (⟨some d,.nilCheck x,ty,pos,af,g⟩::rest) n σ:=by
 refine QL.run f hd (fun a i _ _=>?_) h;simp[execOp,i.ev c]
theorem dX{v:Value}(c:gd L σ ⟨some d,.box e x,ty,pos,af,g⟩=some true)(hd:Nat.ble (d+1) n=true)(a:ev σ x=some v)
  (h:∀w',Blk w' w.heap.size e (jc v)→Ext w w'→WL P L Q rest n ((d,Pz w.heap.size)::σ) w'):WL P L Q (⟨some d,.box e x,ty,pos,af,g⟩::rest) n σ w:=by
 refine WL.box c hd a ?_;have:=Blk.alloc w (jc v) e;rw[←jd]at this
 exact h _ this (Ext.alloc w _)
theorem WL.alloc{zs:List Value}(f:gd L σ ⟨some d,.alloc e,ty,pos,af,g⟩=some true)(hd:Nat.ble (d+1) n=true)[c:IsZC P e zs]
  (h:∀w',Blk w' w.heap.size e zs→Ext w w'→WL P L Q rest n ((d,Pz w.heap.size)::σ) w'):WL P L Q (⟨some d,.alloc e,ty,pos,af,g⟩::rest) n σ w:=by
 obtain⟨i,z,h1,h2,h3⟩:=c.ok;refine WL.run f hd (fun a j=>?_) (h _ (Blk.alloc w zs e) (Ext.alloc w _));simp[execOp,Instr.alloc,zeroValue,typeInfo,h1,h2,newVar,newRow,h3]
theorem rJ(w:World)(b:Nat)(cs:Array Value):w.grownBy (w.setRow b cs) (some b):=⟨rfl,rfl,rfl,by simp,fun k _ a=>OY w b k _ (fun e=>a (by simp[e]))⟩
theorem WL.st{v:Value}{k:Nat}{ag:Bool}{out:List Value}(A:gd L σ ⟨none,.store t x y,ty,pos,af,g⟩=some true)(z:ev σ x=some (.pointer (some ⟨b,o,none⟩)))(s:ev σ y=some v)[B:IsC P t k ag](q:Blk w b e cells)
  (p:xI (jc v)=k) (f:Bf cells o (jc v)=some out) (h1:∀u∈jc v,u.oneCell'=true)
  (h:∀w',Blk w' b e out→w.grownBy w' (some b)→WL P L Q rest n σ w'):WL P L Q (⟨none,.store t x y,ty,pos,af,g⟩::rest) n σ w:=by
 obtain⟨j,rfl⟩:=Bg _ _ _ _ f;obtain⟨i,dd,m,l,_,_⟩:=B.ok;rw[xJ]at p
 subst p;have c:=OU P b o e (jc v) 0 cells.toArray w q (by simpa using j) h1;simp only[Mx]at c
 refine fp A (fun a r=>?_) (h _ (by
  have:=OX w b cells.toArray (cells.take o++jc v++cells.drop (o+(jc v).length)).toArray e (0,0) q;exact this) (rJ w b _))
 simp only[execOp,r.ev z,r.ev s,Instr.storeAt,Nv,Instr.sureAddr,Nx,Nu,storeVar,sizeOf,typeInfo,OT,m,l,jd,c];simp;simp[c]
theorem DT{parts:List (Nat×Operand)}{vs:List Value}{places:List (Nat×Nat)}{zs out:List Value}{a:Act}(u:Fr n σ a)
  (k:nL σ (FA parts)=some vs) [m:IsZC P t zs] [q:IsBd P t places] (hf:oS places zs ((parts.map (·.1)).zip vs)=some out) {w:World} {dd:Option Nat}:
  (execOp a.eval ⟨dd,.build t parts.toArray,ty,pos,af,g⟩).run P w=.ok (.value (.agg out.toArray)) w:=by
 obtain⟨i,z,h1,h2,h3⟩:=m.ok;obtain⟨fs,h4,A⟩:=q.ok;have c:∀l:List (Nat×Operand),FA l=l.map (·.2):=by
  intro l;induction l with
  |nil=>rfl
  |cons p r h=>obtain⟨i,x⟩:=p;simp[FA,h]
 have j:=nM u (FA parts) vs k;rw[c,LH]at j
 have C:(parts.toArray.map fun(x:Nat×Operand)=>(x.1,a.eval x.2)).toList=(parts.map (·.1)).zip vs:=by
  rw[←j];simp only[LJ];clear k hf j
  induction parts with
  |nil=>rfl
  |cons p r h=>simpa using h
 have s:P.built t ((parts.map (·.1)).zip vs)=some out.toArray:=by
  unfold Program.built;rw[h1,h4];simp only[h2,A];rw[h3];exact oT places _ zs out hf
 have f:=run_build (P:=P) w t (parts.toArray.map fun(x:Nat×Operand)=>(x.1,a.eval x.2)) out.toArray (by rw[C];exact s);have B:(execOp a.eval ⟨dd,.build t parts.toArray,ty,pos,af,g⟩)=(do let v←Instr.build t (parts.toArray.map fun(x:Nat×Operand)=>(x.1,a.eval x.2));Pure.pure (Next.value v):Sem Next):=rfl;rw[B,Nv,f];rfl
theorem WL.build{parts:List (Nat×Operand)}{vs:List Value}{places:List (Nat×Nat)}{zs out:List Value}(f:gd L σ ⟨some d,.build t parts.toArray,ty,pos,af,g⟩=some true)(hd:Nat.ble (d+1) n=true)
  (c:nL σ (FA parts)=some vs) [j:IsZC P t zs] [k:IsBd P t places] (hf:oS places zs ((parts.map (·.1)).zip vs)=some out)
  (h:WL P L Q rest n ((d,.agg out.toArray)::σ) w):WL P L Q (⟨some d,.build t parts.toArray,ty,pos,af,g⟩::rest) n σ w:=by
 exact WL.run f hd (fun a i=>DT i c hf) h
end
theorem az{P:Program}{Q:Exit→Act→World→Prop}{n:Nat}{σ:Sg}{w:World}{x y:Code}(τ:Sg)(h:CW P x (fun e a w'=>e=.normal∧Fr n τ a∧w'=w) n σ w)(b:CW P y Q n τ w):CW P (.seq x y) Q n σ w:=by
 refine CW.seq ?_;unfold CW at*
 intro a c
 refine O4 (h a c) ?_;rintro e f w' ⟨rfl,hF,rfl⟩
 exact b f hF
theorem aS{n:Nat}{σ τ:Sg}{w:World}(b:Sub τ σ):EX (fun e a w'=>e=.normal∧Fr n τ a∧w'=w) .normal n σ w:=by
 unfold EX;exact fun a c=>⟨rfl,c.sub b,rfl⟩
theorem aA{P:Program}{Q:Exit→Act→World→Prop}{n:Nat}{σ:Sg}{w:World}{x y:Code}(τ:Sg)(h:CW P x (fun e a w'=>e=.normal∧Fr n τ a∧Ext w w') n σ w)(b:∀w',Ext w w'→CW P y Q n τ w'):CW P (.seq x y) Q n σ w:=by
 refine CW.seq ?_;unfold CW at*
 intro a c
 refine O4 (h a c) ?_;rintro e i w' ⟨rfl,hF,f⟩
 exact b w' f i hF
theorem aT{n:Nat}{σ τ:Sg}{w w':World}(b:Sub τ σ)(f:Ext w w'):EX (fun e a w'=>e=.normal∧Fr n τ a∧Ext w w') .normal n σ w':=by
 unfold EX;exact fun a c=>⟨rfl,c.sub b,f⟩
theorem aB{P:Program}{Q:Exit→Act→World→Prop}{n:Nat}{σ:Sg}{w:World}{x y:Code}{S:Type}(σs:S→Sg)(I:S→World→Prop)(h:CW P x (fun e a w'=>e=.normal∧∃s,Fr n (σs s) a∧I s w') n σ w)(b:∀s w',I s w'→CW P y Q n (σs s) w'):CW P (.seq x y) Q n σ w:=by
 refine CW.seq ?_;unfold CW at*
 intro a c
 refine O4 (h a c) ?_;rintro e i w' ⟨rfl,s,hF,f⟩
 exact b s w' f i hF
theorem aU{n:Nat}{σ:Sg}{w:World}{S:Type}{σs:S→Sg}{I:S→World→Prop}(s:S)(b:Sub (σs s) σ)(f:I s w):EX (fun e a w'=>e=.normal∧∃s,Fr n (σs s) a∧I s w') .normal n σ w:=by
 unfold EX;exact fun a c=>⟨rfl,s,c.sub b,f⟩
def AM:List Value→Bool
 |[]=>true
 |v::r=>match v.oneCell' with
  |true=>AM r
  |false=>false
theorem AN:∀{l:List Value},AM l=true→∀u∈l,u.oneCell'=true
 |[],_,u,a=>by cases a
 |v::r,h,u,a=>by
  simp only[AM]at h
  split at h
  ·rename_i b
   rcases LN.1 a with rfl|a
   ·exact b
   ·exact AN h u a
  ·cases h
theorem nt{op:BinOp}(h:(op==.eql||op==.neq)=false)(t:TypeId)(x y:Operand)(u v:Value):eqGuard op t x y u v=Pure.pure ():=by
 cases op<;>first|rfl|(simp at h)
theorem Fi(a s:Nat)(b:a<18446744073709551616):(a:Int) / 2 ^ min s 64=((a >>> s:Nat):Int):=by
 rw[M6];by_cases h:s≤64
 ·rw[MS h];simp
 ·rw[Nat.min_eq_right O7]
  have h1:a / 2 ^ s=0:=Mz (MQ b (by
   have:=M4 (n:=2) O7 (show 64≤s by omega);simpa using this))
  rw[h1];omega
theorem Eh(P:Program)(w:World)(a s:Nat)(b:a<18446744073709551616)(t:TypeId):(binOp .shr t (.int .u64 (a:Int)) (Py (s:Int))).run P w=.ok (.int .u64 ((a >>> s:Nat):Int)) w:=by
 have h:binOp .shr t (.int .u64 (a:Int)) (Py (s:Int))=Op.shift .shr .u64 (a:Int) .i64 (s:Int):=rfl;rw[h,shift_shr_any _ _ _ _ O7];have:=Fi a s b;simp only[Kb,IntKind.bits];rw[this];rfl
theorem Ef(P:Program)(w:World)(a:Nat)(s:Int)(c:a<18446744073709551616)(b:0≤s)(t:TypeId):(binOp .shr t (.int .u64 (a:Int)) (Py s)).run P w=.ok (.int .u64 ((a >>> s.toNat:Nat):Int)) w:=by
 have h1:=Eh P w a s.toNat c t;rwa[Kc b]at h1
theorem DR(P:Program)(w:World)(a b:Nat)(e:a<18446744073709551616)(c:b<18446744073709551616)(t:TypeId):(binOp .and t (.int .u64 (a:Int)) (.int .u64 (b:Int))).run P w=.ok (.int .u64 ((a&&&b:Nat):Int)) w:=by
 have h:binOp .and t (.int .u64 (a:Int)) (.int .u64 (b:Int))=Op.intBits .and .u64 (a:Int) (b:Int):=rfl;rw[h,intBits_and,Ot a b e c];rfl
class IsI(P:Program)(t:TypeId)(k:IntKind):Prop where
 ok:P.underlying t=some (.int k)
section
variable {P:Program}{Q:Exit→Act→World→Prop}{n:Nat}{σ:Sg}{w:World}{L rest:List Oper}{d:Nat}{ty:TypeId}{pos:String}{af:Array Edge}{g:Option (Nat×Bool)}{t yt:TypeId}{x y:Operand}
theorem dV{a:Nat}(f:gd L σ ⟨some d,.binOp .and t x y yt,ty,pos,af,g⟩=some true)(hd:Nat.ble (d+1) n=true)(e:ev σ x=some (.int .u64 (a:Int)))(c:ev σ y=some (.int .u64 1))(i:a<18446744073709551616)
  (h:WL P L Q rest n ((d,.int .u64 ((a&&&1:Nat):Int))::σ) w):WL P L Q (⟨some d,.binOp .and t x y yt,ty,pos,af,g⟩::rest) n σ w:=by
 refine WL.run f hd (fun j b=>?_) h;have:(binOp .and t (.int .u64 (a:Int)) (.int .u64 1)).run P w=.ok (.int .u64 ((a&&&1:Nat):Int)) w:=DR P w a 1 i O7 t;simp[execOp,b.ev e,b.ev c,nt (op:=.and) rfl,this]
theorem eg{a:Int}{k k':IntKind}(e:gd L σ ⟨some d,.convert t yt x,ty,pos,af,g⟩=some true)(hd:Nat.ble (d+1) n=true)(c:ev σ x=some (.int k a))[h1:IsI P t k][h2:IsI P yt k']
  (h:WL P L Q rest n ((d,.int k' (k'.wrap a))::σ) w):WL P L Q (⟨some d,.convert t yt x,ty,pos,af,g⟩::rest) n σ w:=by
 refine WL.run e hd (fun f b=>?_) h;simp[execOp,b.ev c,convert,OW h1.ok,OW h2.ok,Conv.intToInt]
theorem dy{a:Nat}{s:Int}(j:gd L σ ⟨some d,.binOp .shr t x y yt,ty,pos,af,g⟩=some true)(hd:Nat.ble (d+1) n=true)(f:ev σ x=some (.int .u64 (a:Int)))(e:ev σ y=some (Py s))(k:a<18446744073709551616)(i:0≤s)
  (h:QL P L w Q rest n ((d,.int .u64 ((a >>> s.toNat:Nat):Int))::σ)):QL P L w Q (⟨some d,.binOp .shr t x y yt,ty,pos,af,g⟩::rest) n σ:=by
 refine QL.run j hd (fun l b c _=>?_) h;have:=Ef P c a s k i t;simp[execOp,b.ev f,b.ev e,nt (op:=.shr) rfl,this]
theorem df{a:Nat}(i:gd L σ ⟨some d,.binOp .and t x y yt,ty,pos,af,g⟩=some true)(hd:Nat.ble (d+1) n=true)(f:ev σ x=some (.int .u64 (a:Int)))(e:ev σ y=some (.int .u64 1))(j:a<18446744073709551616)
  (h:QL P L w Q rest n ((d,.int .u64 ((a&&&1:Nat):Int))::σ)):QL P L w Q (⟨some d,.binOp .and t x y yt,ty,pos,af,g⟩::rest) n σ:=by
 refine QL.run i hd (fun k b c _=>?_) h;have:(binOp .and t (.int .u64 (a:Int)) (.int .u64 1)).run P c=.ok (.int .u64 ((a&&&1:Nat):Int)) c:=DR P c a 1 j O7 t;simp[execOp,b.ev f,b.ev e,nt (op:=.and) rfl,this]
end
instance tG{α β:Type}[Rep α][Rep β]:Rep (α×β)where
 sz:=sz α+sz β
 pos:=by have:=(Rep.pos:0<Rep.sz α);show 0<Rep.sz α+Rep.sz β;omega
 agg:=true
 rd:=fun w F cs x=>∃c1 c2,cs=c1++c2∧rd w F c1 x.1∧rd w F c2 x.2
 len:=by rintro w F cs x ⟨c1,c2,rfl,h1,h2⟩;rw[Ll,Rep.len h1,Rep.len h2]
 one:=by
  rintro w F cs x ⟨c1,c2,rfl,h1,h2⟩ v b
  rcases LK.1 b with h|h
  ·exact Rep.one h1 v h
  ·exact Rep.one h2 v h
 szAgg:=fun h=>by cases h
 mono:=by rintro w w' F F' cs x ⟨c1,c2,rfl,h1,h2⟩ a hF;exact⟨c1,c2,rfl,Rep.mono h1 a hF,Rep.mono h2 a hF⟩
theorem Rd.pr{α β:Type}[Rep α][Rep β]{w:World}{F:Nat→Prop}{v:Value}{x:α×β}(h:Rd w F v x):∃c1 c2,v=.agg (c1++c2).toArray∧rd w F c1 x.1∧rd w F c2 x.2:=by
 obtain⟨cs,rfl,c1,c2,rfl,h1,h2⟩:=h;exact⟨c1,c2,rfl,h1,h2⟩
theorem C8{α β:Type}[Rep α][Rep β]{w:World}{F:Nat→Prop}{cs:List Value}{x:α×β}(h:rd w F cs x):∃c1 c2,cs=c1++c2∧rd w F c1 x.1∧rd w F c2 x.2:=h
theorem C3{w:World}{F:Nat→Prop}{cs:List Value}{x:Int}(h:rd w F cs x):cs=[Py x]:=h
theorem C9{α:Type}[Rep α]{w:World}{F:Nat→Prop}{cs:List Value}{x:List α}(h:rd w F cs x):∃ao cap,cs=[.slice ao x.length cap]∧Sl w F ao cap x:=h
theorem Rd.mkPr{α β:Type}[Rep α][Rep β]{w:World}{F:Nat→Prop}{c1 c2:List Value}{x:α}{y:β}(h1:rd w F c1 x)(h2:rd w F c2 y):Rd w F (.agg (c1++c2).toArray) (x,y):=⟨_,rfl,c1,c2,rfl,h1,h2⟩
theorem C4{α β:Type}[Rep α][Rep β]{w:World}{F:Nat→Prop}{c1 c2:List Value}{x:α}{y:β}(h1:rd w F c1 x)(h2:rd w F c2 y):rd w F (c1++c2) (x,y):=⟨c1,c2,rfl,h1,h2⟩
theorem C5(w:World)(F:Nat→Prop)(x:Int):rd w F [Py x] x:=rfl
theorem C6(w:World)(F:Nat→Prop)(x:Nat)(h:x<18446744073709551616):rd w F [.int .u64 (x:Int)] x:=⟨rfl,h⟩
abbrev cH:=Int×Int×Int×Int×Int×Int×Int
def Ab:List Oper→Nat→Option Oper
 |[],_=>none
 |o::_,0=>some o
 |_::r,i+1=>Ab r i
theorem Ac:∀(l:List Oper) (i:Nat),Ab l i=l[i]?
 |[],i=>by simp[Ab]
 |o::r,0=>by simp[Ab]
 |o::r,i+1=>by simp[Ab,Ac r i]
def AX(ops:Array Oper):List (Nat×Bool)→Array Bool→Bool
 |[],a=>(Region.ready .any ops a).isEmpty
 |(i,true)::r,a=>(Region.ready .any ops a).contains i&&Region.free .any ops a i&&AX ops r (a.setIfInBounds i true)
 |(i,false)::r,a=>decide (Region.ready .any ops a=[i])&&AX ops r (a.setIfInBounds i true)
def A1(l:List Oper)(ord:List (Nat×Bool)):Bool:=Region.noSelect l.toArray&&decide (ord.length=l.length)&&AX l.toArray ord (Array.replicate l.length false)
def Jb(P:Program)(ops:List Oper)(S:World→Prop)(Q:Act→World→Prop):List (Nat×Bool)→Act→World→Prop
 |[],a,w=>Q a w
 |(i,true)::r,a,w=>∃o v,ops[i]?=some o∧YieldsIf P ops.toArray S o v a∧Jb P ops S Q r (a.put o.dst v) w
 |(i,false)::r,a,w=>∃o,ops[i]?=some o∧(if Region.wanted o (yielded ops.toArray a.tmps)=true then o.wp P a w (fun c w'=>S w'∧Jb P ops S Q r c w') (fun e a w=>e=.normal∧Q a w)else S w∧Jb P ops S Q r (a.put o.dst undef) w)
theorem Jd{P:Program}{ops:List Oper}{S:World→Prop}{Q:Act→World→Prop}(k:Region.noSelect ops.toArray=true):
  ∀(ord:List (Nat×Bool)) (c:Array Bool) (a:Act) (w:World),AX ops.toArray ord c=true→S w→Jb P ops S Q ord a w→wpAnyH P .any ops.toArray (fun e a w=>e=.normal∧Q a w) S ord.length c a w
 |[],c,a,w,f,_,h=>by
  simp only[AX,Lk]at f
  exact⟨f,rfl,h⟩
 |(i,true)::r,c,a,w,f,hS,⟨o,v,p,u,h⟩=>by
  simp only[AX,JL]at f
  exact wpAnyH_take (by simpa using p) k f.1.2 f.1.1 (fun _ _ _ h=>by cases h.1) u hS (Jd k r _ _ _ f.2 hS h)
 |(i,false)::r,c,a,w,f,hS,⟨o,p,h⟩=>by
  simp only[AX,JL,OD]at f
  refine O0 f.1 O_ ?_;intro j z
  have q:j=i:=by simpa using z
  subst q;have m:ops.toArray[j]?=some o:=by simpa using p
  unfold wpOp;simp only[m];split
  ·rename_i l
   rw[OK l]at h
   exact .inl (Ng (fun A w' s=>⟨s.1,Jd k r _ _ _ f.2 s.1 s.2⟩) h)
  ·rename_i l
   rw[OJ l]at h
   exact⟨h.1,Jd k r _ _ _ f.2 h.1 h.2⟩
@[irreducible] def HL (P:Program) (ops:List Oper) (S:World→Prop) (Q:Exit→Act→World→Prop) (ord:List (Nat×Bool)) (n:Nat) (σ:Sg) (w:World):Prop:=
  ∀a,Fr n σ a→Jb P ops S (fun a w=>Q .normal a w) ord a w
abbrev drew(w:World):World:={w with drawn:=w.drawn+1}
theorem Ext.drew(w:World):Ext w (drew w):=⟨rfl,rfl,rfl,MM _,fun _ _=>rfl⟩
def ae(P:Program)(ops:List Oper)(S:World→Prop)(Q:Exit→Act→World→Prop)(ord:List (Nat×Bool)):Exit→Act→World→Prop:=
 fun e a w=>e=.normal∧S w∧Jb P ops S (fun a w=>Q .normal a w) ord a w
section
variable {P:Program}{Q:Exit→Act→World→Prop}{n:Nat}{σ:Sg}{w:World}{L:List Oper}{S:World→Prop}{rest:List (Nat×Bool)}{i d:Nat}{op:Op}{ty:TypeId}{pos:String}{af:Array Edge}{g:Option (Nat×Bool)}
theorem aF{id:Nat}(S:World→Prop)(ord:List (Nat×Bool))(j:P.follows .mixedOrders=true)(c:A1 L ord=true)(hS:S (drew w))(h:HL P L S Q ord n σ (drew w)):CW P (.region id L.toArray true) Q n σ w:=by
 unfold CW;unfold HL at h;intro a m
 simp only[A1,JL,OD]at c
 obtain⟨⟨f,k⟩,c⟩:=c;have h1:=Jd f ord (Array.replicate L.length false) a (Go.Proofs.YtfpjecjadlgdcaaGreatDoor.drew w) c hS (h a m);rw[k]at h1
 have h2:=wp_region_held (id:=id) (S:=S) j (w:=w) (ops:=L.toArray) (by simpa using h1);exact O4 h2 (fun e p w' ⟨l,hq⟩=>by subst l;exact hq)
theorem HL.nil(h:EX Q .normal n σ w):HL P L S Q [] n σ w:=by
 unfold HL;unfold EX at h;exact fun a c=>h a c
theorem HL.run{v:Value}(j:Ab L i=some ⟨some d,op,ty,pos,af,g⟩)(l:gd L σ ⟨some d,op,ty,pos,af,g⟩=some true)(hd:Nat.ble (d+1) n=true)
  (k:∀a,Fr n σ a→∀w',S w'→(execOp a.eval ⟨some d,op,ty,pos,af,g⟩).run P w'=.ok (.value v) w') (h:HL P L S Q rest n ((d,v)::σ) w):HL P L S Q ((i,true)::rest) n σ w:=by
 unfold HL at*
 intro a f
 rw[Ac]at j
 exact⟨_,v,j,.inl ⟨qE f l,fun w' c=>k a f w' c⟩,h _ (f.put (d:=some d) hd)⟩
theorem cw{v:Value}(f:Ab L i=some ⟨some d,op,ty,pos,af,g⟩)(j:gd L σ ⟨some d,op,ty,pos,af,g⟩=some true)(hd:Nat.ble (d+1) n=true)
  (c:Cy σ op=some v) (h:HL P L S Q rest n ((d,v)::σ) w):HL P L S Q ((i,true)::rest) n σ w:=
 HL.run f j hd (fun a k _ _=>Cz k c) h
theorem HL.pass(c:Ab L i=some ⟨some d,op,ty,pos,af,g⟩)(j:gd L σ ⟨some d,op,ty,pos,af,g⟩=some false)(hd:Nat.ble (d+1) n=true)
  (h:HL P L S Q rest n ((d,undef)::σ) w):HL P L S Q ((i,true)::rest) n σ w:=by
 unfold HL at*
 intro a f
 rw[Ac]at c
 exact⟨_,undef,c,.inr ⟨qE f j,rfl⟩,h _ (f.put (d:=some d) hd)⟩
theorem cr{o:Oper}(m:Ab L i=some o)(h:WL P L (ae P L S Q rest) [o] n σ w):HL P L S Q ((i,false)::rest) n σ w:=by
 unfold HL;unfold WL at h
 intro a p
 rw[Ac]at m
 have h1:=h a p;refine⟨o,m,?_⟩;have h2:wpList P L.toArray (ae P L S Q rest) [o] a w:=h1;simp only[wpList]at h2
 split
 ·rename_i l
  rw[OK l]at h2
  rcases h2 with h2|⟨_,c⟩
  ·unfold Oper.wp at*
   generalize (execOp a.eval o).run P w=r at*
   cases r with
   |ok k w'=>
    cases k<;>simp only[Oper.upon]at h2⊢<;>first
     |exact h2.2
     |exact h2
     |(refine J0 h2 (fun e w'' f=>?_);cases e<;>first|exact f.2|(exact absurd f.1 O_)|(obtain⟨_,_,j⟩:=f;exact absurd j.1 O_))
     |exact Rows.mono h2 (fun _ _ f=>f.2)
   |halt x w'=>cases x<;>simp only[Oper.upon]at h2⊢<;>first|exact h2|(exact absurd h2.1 O_)
  ·obtain⟨_,_,j⟩:=c
   exact absurd j.1 O_
 ·rename_i l
  rw[OJ l]at h2
  exact h2.2
theorem a_(hS:S w)(h:HL P L S Q rest n σ w):EX (ae P L S Q rest) .normal n σ w:=by
 unfold EX;unfold HL at h;exact fun a c=>⟨rfl,hS,h a c⟩
end
section
variable {P:Program}{Q:Exit→Act→World→Prop}{n:Nat}{σ:Sg}{w wc:World}{L:List Oper}{S:World→Prop}{rest:List (Nat×Bool)}{i d:Nat}{op:Op}{ty:TypeId}{pos:String}{af:Array Edge}{g:Option (Nat×Bool)}{t yt e:TypeId}{x y:Operand}{b o:Nat}{cells:List Value}
theorem HL.add{t yt:TypeId}{x y:Operand}{a b:Int}(j:Ab L i=some ⟨some d,.binOp .add t x y yt,ty,pos,af,g⟩)(k:gd L σ ⟨some d,.binOp .add t x y yt,ty,pos,af,g⟩=some true)(hd:Nat.ble (d+1) n=true)
  (f:ev σ x=some (Py a)) (c:ev σ y=some (Py b)) (l: -9223372036854775808≤a+b) (h1:a+b<9223372036854775808) (h:HL P L S Q rest n ((d,Py (a+b))::σ) wc):HL P L S Q ((i,true)::rest) n σ wc:=by
 refine cw j k hd (v:=Py (a+b)) ?_ h;simp only[Cy,f,c,BP];rw[Jk l h1]
theorem cA{t yt:TypeId}{x y:Operand}{a b:Int}(j:Ab L i=some ⟨some d,.binOp .sub t x y yt,ty,pos,af,g⟩)(k:gd L σ ⟨some d,.binOp .sub t x y yt,ty,pos,af,g⟩=some true)(hd:Nat.ble (d+1) n=true)
  (f:ev σ x=some (Py a)) (c:ev σ y=some (Py b)) (l: -9223372036854775808≤a -b) (h1:a -b<9223372036854775808) (h:HL P L S Q rest n ((d,Py (a -b))::σ) wc):HL P L S Q ((i,true)::rest) n σ wc:=by
 refine cw j k hd (v:=Py (a -b)) ?_ h;simp only[Cy,f,c,BP];rw[Jk l h1]
theorem cq{t e:TypeId}{x:Operand}{ao:Option Addr}{k cap:Nat}(j:Ab L i=some ⟨some d,.call ⟨.builtin .len,#[x],#[t]⟩,ty,pos,af,g⟩)(l:gd L σ ⟨some d,.call ⟨.builtin .len,#[x],#[t]⟩,ty,pos,af,g⟩=some true)(hd:Nat.ble (d+1) n=true)
  (c:ev σ x=some (.slice ao k cap)) [f:IsS P t e] (h:HL P L S Q rest n ((d,Py (k:Int))::σ) wc):HL P L S Q ((i,true)::rest) n σ wc:=by
 refine HL.run j l hd (fun a m _ _=>?_) h;simp[execOp,resolve,invoke,builtin,m.ev c,Builtin.len_,OW f.ok,goInt]
theorem HL.makeFunc{fn:Fn}{fs cs:List Operand}{fv cv:List Value}(f:Ab L i=some ⟨some d,.makeFunc fn fs.toArray cs.toArray,ty,pos,af,g⟩)(j:gd L σ ⟨some d,.makeFunc fn fs.toArray cs.toArray,ty,pos,af,g⟩=some true)(hd:Nat.ble (d+1) n=true)
  (hf:nL σ fs=some fv) (k:nL σ cs=some cv) (h:HL P L S Q rest n ((d,.func fn fv.toArray cv.toArray)::σ) wc):HL P L S Q ((i,true)::rest) n σ wc:=by
 refine HL.run f j hd (fun a c _ _=>?_) h;have m:=nM c fs fv hf;have l:=nM c cs cv k;simp[execOp,Instr.makeFunc,m,l]
theorem b_{f k:Nat}(j:Ab L i=some ⟨some d,.fieldAddr t x f,ty,pos,af,g⟩)(l:gd L σ ⟨some d,.fieldAddr t x f,ty,pos,af,g⟩=some true)(hd:Nat.ble (d+1) n=true)(c:ev σ x=some (.pointer (some ⟨b,o,none⟩)))[hf:IsFd P t f k]
  (h:HL P L S Q rest n ((d,.pointer (some ⟨b,o+k,none⟩))::σ) wc):HL P L S Q ((i,true)::rest) n σ wc:=by
 refine HL.run j l hd (fun a m w' _=>?_) h;simp[execOp,m.ev c,DY (P:=P) (t:=t) (f:=f) (k:=k)]
theorem cb{v:Value}(f:∀j,S j→Ext w j)(m:Ab L i=some ⟨some d,.load t x,ty,pos,af,g⟩)(p:gd L σ ⟨some d,.load t x,ty,pos,af,g⟩=some true)(hd:Nat.ble (d+1) n=true)(k:ev σ x=some (.pointer (some ⟨b,o,none⟩)))[u:IsC P t 1 false](q:Blk w b e cells)(l:Af cells o=some v)
  (h:HL P L S Q rest n ((d,v)::σ) wc):HL P L S Q ((i,true)::rest) n σ wc:=by
 refine HL.run m p hd (fun a r w' c=>?_) h;have s:=f _ c;simp[execOp,r.ev k,D0 (P:=P) (t:=t) w' (q.ext s) l]
theorem cd{vs:List Value}{k:Nat}(f:∀j,S j→Ext w j)(p:Ab L i=some ⟨some d,.load t x,ty,pos,af,g⟩)(q:gd L σ ⟨some d,.load t x,ty,pos,af,g⟩=some true)(hd:Nat.ble (d+1) n=true)(l:ev σ x=some (.pointer (some ⟨b,o,none⟩)))[v:IsC P t k true](r:Blk w b e cells)(m:EB cells o k=some vs)
  (h:HL P L S Q rest n ((d,.agg vs.toArray)::σ) wc):HL P L S Q ((i,true)::rest) n σ wc:=by
 refine HL.run p q hd (fun a s w' c=>?_) h;have u:=f _ c;simp[execOp,s.ev l,D1 (P:=P) (t:=t) w' (r.ext u) m]
theorem cu{p:Addr}(f:Ab L i=some ⟨some d,.nilCheck x,ty,pos,af,g⟩)(j:gd L σ ⟨some d,.nilCheck x,ty,pos,af,g⟩=some true)(hd:Nat.ble (d+1) n=true)(c:ev σ x=some (.pointer (some p)))
  (h:HL P L S Q rest n ((d,.pointer (some p))::σ) wc):HL P L S Q ((i,true)::rest) n σ wc:=by
 refine HL.run f j hd (fun a k _ _=>?_) h;simp[execOp,k.ev c]
theorem ca{α:Type}[Rep α]{t e:TypeId}{x ix:Operand}{b off:Nat}{k cap:Nat}{ii:Int}{kd:IntKind}(l:Ab L i=some ⟨some d,.indexAddr t x ix,ty,pos,af,g⟩)(m:gd L σ ⟨some d,.indexAddr t x ix,ty,pos,af,g⟩=some true)(hd:Nat.ble (d+1) n=true)
  (f:ev σ x=some (.slice (some ⟨b,off,none⟩) k cap)) (hi:ev σ ix=some (.int kd ii)) [j:IsS P t e] [q:IsT P e α] (p:0≤ii) (h1:ii<k)
  (h:HL P L S Q rest n ((d,.pointer (some ⟨b,off+ii.toNat*sz α,none⟩))::σ) wc):HL P L S Q ((i,true)::rest) n σ wc:=by
 refine HL.run l m hd (fun a c _ _=>?_) h;simp[execOp,c.ev f,c.ev hi,Instr.indexAt,asIntOf,OW j.ok,p,h1,Ek (α:=α),Oj]
theorem HL.load{α:Type}[Rep α]{t:TypeId}{x:Operand}{b off:Nat}{F:Nat→Prop}{cs:List Value}{y:α}(m:∀p,S p→Ext w p)(s:Ab L i=some ⟨some d,.load t x,ty,pos,af,g⟩)(v:gd L σ ⟨some d,.load t x,ty,pos,af,g⟩=some true)(hd:Nat.ble (d+1) n=true)
  (q:ev σ x=some (.pointer (some ⟨b,off,none⟩))) [C:IsT P t α] (A:b<w.heap.size) (hF:∀b,F b→b<w.heap.size) (z:Cells w b off cs) (r:rd w F cs y)
  (h:HL P L S Q rest n ((d,Iq α cs)::σ) wc):HL P L S Q ((i,true)::rest) n σ wc:=by
 refine HL.run s v hd (fun a B w' f=>?_) h;have c:=m _ f;have l:Cells w' b off cs:=z.mono (c.block b A);have j:rd w' F cs y:=Rep.mono r (fun k u=>c.block k (hF k u)) fun _ h=>h
 simp[execOp,B.ev q,Instr.loadAt,Instr.sureAddr,D5 l j]
theorem HL.build{parts:List (Nat×Operand)}{vs:List Value}{places:List (Nat×Nat)}{zs out:List Value}(f:Ab L i=some ⟨some d,.build t parts.toArray,ty,pos,af,g⟩)(j:gd L σ ⟨some d,.build t parts.toArray,ty,pos,af,g⟩=some true)(hd:Nat.ble (d+1) n=true)
  (c:nL σ (FA parts)=some vs) [m:IsZC P t zs] [p:IsBd P t places] (hf:oS places zs ((parts.map (·.1)).zip vs)=some out)
  (h:HL P L S Q rest n ((d,.agg out.toArray)::σ) wc):HL P L S Q ((i,true)::rest) n σ wc:=
 HL.run f j hd (fun a k l _=>DT k c hf) h
theorem bV{α:Type}[Rep α]{x0:α}{bytes:Nat}{F:Nat→Prop}{H d1:Nat}{ty1:TypeId}{pos1:String}{af1:Array Edge}{g1:Option (Nat×Bool)}{v u:Value}{xs:List α}{yv:α}{B:Nat}
  (ho1:Ab L H=some ⟨some d1,.buildSlice t 1 [(0,y)].toArray,ty1,pos1,af1,g1⟩) (M:Ab L i=some ⟨some d,.call ⟨.builtin .append,#[x,.tmp d1],#[t,t]⟩,ty,pos,af,g⟩)
  (D:gd L σ ⟨some d1,.buildSlice t 1 [(0,y)].toArray,ty1,pos1,af1,g1⟩=some true) (G:Nat.ble (d1+1) n=true)
  (E:∀u,gd L ((d1,.slice u 1 1)::σ) ⟨some d,.call ⟨.builtin .append,#[x,.tmp d1],#[t,t]⟩,ty,pos,af,g⟩=some true) (hd:Nat.ble (d+1) n=true)
  (I:ev σ y=some u) (J:∀u,ev ((d1,.slice u 1 1)::σ) x=some v) [U:IsS P t e] [T:IsT P e α] [R:IsZ P e x0 bytes] (m:Own wc B e F v xs) (K:Rd wc F u yv) (O:B≤wc.heap.size) (hF:∀b,F b→b<wc.heap.size)
  (z:sz α≤16777216) (N:xs.length+1≤maxLen) (q:(xs.length+1)*bytes≤140737488355328) (hS:∀w',wc.grownBy w' v.ownBlock→S w')
  (h:∀l w' p,Own w' B e F l (xs++[yv])→wc.grownBy w' v.ownBlock→(∀g,l.ownBlock=some g→v.ownBlock=some g∨wc.heap.size≤g)→HL P L S Q rest n ((d,l)::(d1,.slice p 1 1)::σ) w'):
  HL P L S Q ((H,false)::(i,false)::rest) n σ wc:=by
 refine cr ho1 ?_;refine WL.lit (vs:=[u]) (ys:=[yv]) D G rfl (by simp[FA,nL,I]) rfl ⟨K,trivial⟩ (by simpa using z) hF (fun s ho1 a=>?_);have c:wc.heap.size≤s.heap.size:=a.size;have j:Own s B e F v xs:=m.kept a (fun _ _ h=>by cases h) fun b q=>⟨hF b q,fun h=>by cases h⟩
 have g2:wc.grownBy s v.ownBlock:=⟨a.os,a.tape,a.output,a.size,fun k r _=>a.block k r (fun h=>by cases h)⟩;refine WL.nil (a_ (hS _ g2) ?_);refine cr M ?_;refine WL.app (ys:=[yv]) (E _) hd (J _) pU j ho1.src (MN O c) (fun b q=>MQ (hF b q) c) (by simpa using N) (by simpa using q) (fun l w' A f hnb=>?_);have g3:wc.grownBy w' v.ownBlock:=⟨f.os.trans a.os,f.tape.trans a.tape,f.output.trans a.output,MN c f.size,fun k r C=>(f.block k (MQ r c) C).trans (a.block k r (fun h=>by cases h))⟩;exact WL.nil (a_ (hS _ g3) (h l w' _ A g3 (fun g E=>(hnb g E).imp id (fun h=>MN c h))))
end
section
variable {P:Program}{Q:Exit→Act→World→Prop}{n:Nat}{σ:Sg}{w wc:World}{L:List Oper}{S:World→Prop}{rest:List (Nat×Bool)}{i j d d':Nat}{ty:TypeId}{pos:String}{af:Array Edge}{g:Option (Nat×Bool)}{ty':TypeId}{pos':String}{af':Array Edge}{g':Option (Nat×Bool)}{t e:TypeId}{x ix y:Operand}
variable {α:Type}[Rep α]{F:Nat→Prop}
theorem bZ{ao:Option Addr}{cap:Nat}{xs:List α}{k:Nat}{kd:IntKind}(f:∀m,S m→Ext w m)
  (ho1:Ab L i=some ⟨some d,.indexAddr t x ix,ty,pos,af,g⟩) (ho2:Ab L j=some ⟨some d',.load e (.tmp d),ty',pos',af',g'⟩)
  (r:gd L σ ⟨some d,.indexAddr t x ix,ty,pos,af,g⟩=some true) (hd:Nat.ble (d+1) n=true) (hd':Nat.ble (d'+1) n=true)
  (q:ev σ x=some (.slice ao xs.length cap)) (hi:ev σ ix=some (.int kd (k:Int))) [A:IsS P t e] [z:IsT P e α] (hF:∀b,F b→b<w.heap.size) (a:Sl w F ao cap xs) (h1:k<xs.length)
  (c:∀p,gd L ((d,.pointer p)::σ) ⟨some d',.load e (.tmp d),ty',pos',af',g'⟩=some true)
  (h:∀u p,Rd w F u xs[k]→HL P L S Q rest n ((d',u)::(d,.pointer p)::σ) wc):
  HL P L S Q ((i,true)::(j,true)::rest) n σ wc:=by
 obtain⟨b,off,rfl,l,v,s,o⟩:=a.el k h1;refine ca (α:=α) ho1 r hd q hi O7 O7 ?_;refine HL.load (α:=α) f ho2 (c _) hd' pU (hF b l) hF (by simpa using s) o ?_;exact h _ _ ⟨v,rfl,o⟩
theorem bY{ao:Option Addr}{cap:Nat}{xs:List α}{k:Nat}{kd:IntKind}(A:∀s,S s→∀b,F b→s.heap[b]?=w.heap[b]?)
  (ho1:Ab L i=some ⟨some d,.indexAddr t x ix,ty,pos,af,g⟩) (ho2:Ab L j=some ⟨some d',.load e (.tmp d),ty',pos',af',g'⟩)
  (D:gd L σ ⟨some d,.indexAddr t x ix,ty,pos,af,g⟩=some true) (hd:Nat.ble (d+1) n=true) (hd':Nat.ble (d'+1) n=true)
  (C:ev σ x=some (.slice ao xs.length cap)) (hi:ev σ ix=some (.int kd (k:Int))) [I:IsS P t e] [H:IsT P e α] (l:Sl w F ao cap xs) (h1:k<xs.length)
  (o:∀p,gd L ((d,.pointer p)::σ) ⟨some d',.load e (.tmp d),ty',pos',af',g'⟩=some true)
  (h:∀u p,Rd w F u xs[k]→HL P L S Q rest n ((d',u)::(d,.pointer p)::σ) wc):
  HL P L S Q ((i,true)::(j,true)::rest) n σ wc:=by
 obtain⟨b,off,rfl,r,f,E,z⟩:=l.el k h1;refine ca (α:=α) ho1 D hd C hi O7 O7 ?_;refine HL.run ho2 (o _) hd' (v:=Iq α f) (fun a G w' c=>?_) (h _ _ ⟨f,rfl,z⟩);have q:Cells w' b (off+k*sz α) f:=E.mono (A w' c b r);have m:rd w' F f xs[k]:=Rep.mono z (A w' c) fun _ h=>h
 have B:=G.ev (x:=.tmp d) pU;simp only[Kb]at B
 simp[execOp,B,Instr.loadAt,Instr.sureAddr,D5 q m]
theorem cx{v u:Value}{B:Nat}{xs:List α}{yv:α}{k:Nat}{kd:IntKind}
  (ho1:Ab L i=some ⟨some d,.indexAddr t x ix,ty,pos,af,g⟩) (ho2:Ab L j=some ⟨none,.store e (.tmp d) y,ty',pos',af',g'⟩)
  (D:gd L σ ⟨some d,.indexAddr t x ix,ty,pos,af,g⟩=some true) (hd:Nat.ble (d+1) n=true)
  (s:ev σ x=some v) (hi:ev σ ix=some (.int kd (k:Int))) [H:IsS P t e] [G:IsT P e α] (c:Own wc B e F v xs) (h1:k<xs.length)
  (m:∀p,gd L ((d,.pointer p)::σ) ⟨none,.store e (.tmp d) y,ty',pos',af',g'⟩=some true) (r:∀p,ev ((d,.pointer p)::σ) y=some u) (z:Rd wc F u yv)
  (hS:∀w',wc.grownBy w' v.ownBlock→S w')
  (h:∀w' p,Own w' B e F v (xs.set k yv)→wc.grownBy w' v.ownBlock→HL P L S Q rest n ((d,.pointer p)::σ) w'):
  HL P L S Q ((i,true)::(j,false)::rest) n σ wc:=by
 rcases c with⟨rfl,rfl⟩|⟨b,off,cap,cur,rfl,C⟩
 ·simp at h1
 ·refine ca (α:=α) ho1 D hd s hi O7 O7 ?_
  obtain⟨w',A,l,f⟩:=Ee (P:=P) (v:=u) (i:=k) C h1 z;refine cr ho2 ?_;refine fp (m _) (fun a o=>?_) (WL.nil (a_ (hS w' f) (h w' _ l f)));have q:=o.ev (x:=.tmp d) pU;have E:=o.ev (r _);simp only[Kb]at q
  simp[execOp,q,E,Instr.storeAt,Instr.sureAddr,A]
theorem bX{ao:Option Addr}{len cap:Nat}{c:Int}{kd:IntKind}(k:Nat)(b:c=(k:Int))(p:Ab L i=some ⟨some d,.slice t x none (some y) none,ty,pos,af,g⟩)(r:gd L σ ⟨some d,.slice t x none (some y) none,ty,pos,af,g⟩=some true)(hd:Nat.ble (d+1) n=true)
  (o:ev σ x=some (.slice ao len cap)) (m:ev σ y=some (.int kd c)) [u:IsS P t e] [s:IsT P e α] (q:k≤cap)
  (h:HL P L S Q rest n ((d,.slice ao k cap)::σ) wc):HL P L S Q ((i,true)::rest) n σ wc:=by
 subst b;refine HL.run p r hd (fun a f l _=>?_) h;have:=DW (P:=P) (t:=t) (e:=e) (α:=α) (ao:=ao) (len:=len) (cap:=cap) (lo:=0) (hi:=k) l O7 q none (some (.int kd (k:Int))) (.inl ⟨rfl,rfl⟩) (.inr ⟨kd,rfl⟩);simp[execOp,f.ev o,f.ev m,this,Jo]
end
end Go.Proofs.YtfpjecjadlgdcaaGreatDoor
