import Derived.Test.YtfpjecjadlgdcaaGreatDoorPtReportTells7
set_option linter.unusedVariables false
set_option linter.unusedSimpArgs false
set_option linter.defProp false
namespace Go.Proofs.YtfpjecjadlgdcaaGreatDoor
set_option maxHeartbeats 4000000
variable{P:Program}{α:Type}{B a K:Nat}{C D:Option Addr}{m:List Int}{F:Nat→Prop}{w:World}{v o J:Value}{g:List (List Int)}{x:Int}{r:List Value}{t:TypeId}{Q:Exit→Act→World→Prop}{e:Nat→Nat→Prop}{p:Nat→Nat}{s:List Nat}{L:List Oper}{c:Value→World→Prop}{f:List ByteArray}{y:Array Bool}{S:World→Prop}{b:Value→(Nat→Nat)→World→Prop}{j:Array Edge}{u:List (Nat×Bool)}{I:Func}{M:Array Value}
open Go.RowKit
open Go.Shelf
section
variable {P:Program}{ρ:Ren}
structure WrR(B:Nat)(T e5:TypeId)(w w':World):Prop where
 below:Below B w w'
 own:∀(g:Nat) cur e z,w.heap[g]?=some (.cells cur e z)->e≠e5->e≠T->w'.heap[g]?=w.heap[g]?
section
variable {B:Nat}{T e5:TypeId}{w w' w'':World}
theorem WrR.refl:WrR B T e5 w w:=⟨MW _ _,fun _ _ _ _ _ _ _=>rfl⟩
theorem WrR.trans(h:WrR B T e5 w w')(k:WrR B T e5 w' w''):WrR B T e5 w w'':=
 ⟨h.below.trans k.below,fun g cur e z a c b=>by
  have d:=h.own g cur e z a c b;rw[<-d];exact k.own g cur e z (d.trans a) c b⟩
theorem WrR.set{b o:Nat}{cs:Array Value}{z:Nat×Nat}(d:w.heap[b]?=some (.cells cs T z))(h:B<=b)(x:Value):WrR B T e5 w (w.setCell ⟨b,o,none⟩ x):=
 ⟨(MW B w).setCell (p:=⟨b,o,none⟩) h x,fun g cur e i c j f=>MV _ _ _ _ (fun a=>by
   have a:g=b:=a;subst a;have:=d.symm.trans c
   injection this with this
   injection this with _ h3 _
   exact f h3.symm)⟩
theorem WrR.row{v:Value}{n:Nat}{xs:List Value}(d:w.ownsRow B e5 1 v n xs)(f:w.grownBy w' v.ownBlock)(i:B<=w.heap.size):WrR B T e5 w w':=
 ⟨(MW B w).grown f i (fun k h=>(d.lt k h).1),fun g cur e z a j m=>f.block g (MH.1 a).1 (fun b=>by
   rcases d.2 with⟨rfl,_⟩|⟨l,cap,cur',rfl,_,c,_⟩
   ·cases b
   ·have b:g=l:=by injection b
    subst b;have:=c.symm.trans a
    injection this with this
    injection this with _ h3 _
    exact j h3.symm)⟩
theorem WrR.ext(h:Ext w w')(c:B<=w.heap.size):WrR B T e5 w w':=
 ⟨⟨h.os,h.tape,h.output,h.size,fun k a=>h.block k (Qn a c)⟩,fun g cur e z b _ _=>h.block g (MH.1 b).1⟩
end
set_option maxRecDepth 100000 in
theorem mn(L:Lays.n240 P ρ)(X:Builder.X72 P ρ)(b:Nat)(w:World)(i:w.cell? ⟨b,3,none⟩=some (.pointer (some ⟨b,3,none⟩))):
  Calls P (ρ.f 240) #[.pointer (some ⟨b,3,none⟩)] w fun e w'=>e=.returned (.tuple #[])/\w'=w:=by
 obtain⟨j,f,_⟩:=QT.1 X.sizeBuilder;have mixed:=L.mixed;have t72:=L.t72;have a72:=L.a72;have z72:=L.z72;have v72:=L.v72;have c:=Sy L.t72;have t70:=L.t70;have a70:=L.a70;have z70:=L.z70;have v70:=L.v70;have d:=Sy L.t70;have t9:=L.t9;have a9:=L.a9;have z9:=L.z9;have v9:=L.v9;have g:=Sy L.t9;have t4:=L.t4;have a4:=L.a4;have z4:=L.z4;have v4:=L.v4;have h:=Sy L.t4;have t164:=L.t164;have a164:=L.a164;have z164:=L.z164;have v164:=L.v164;have a:=Sy L.t164
 go_enter L.f240,Body.n240_ntmps ρ
 go_wp2
 rw[Lib.run_neq_ptr_same w _ L.t70 f]
 go_wp2
 go_end0
 exact⟨rfl,rfl⟩
set_option maxRecDepth 100000 in
theorem mj(L:Lays.n240 P ρ)(X:Builder.X72 P ρ){T:TypeId}(k:liesAt P P.depth T (5 / P.cellsOf T) 3 (ρ.t 72) 1=true)(b:Nat)(w:World)(n:w.cell? ⟨b,3,none⟩=some (.pointer none))(a:w.shape? b=some (T,5))(i:w.frozen? ⟨b,3,none⟩=false):
  Calls P (ρ.f 240) #[.pointer (some ⟨b,3,none⟩)] w fun e w'=>e=.returned (.tuple #[])/\w'=w.setCell ⟨b,3,none⟩ (.pointer (some ⟨b,3,none⟩)):=by
 obtain⟨j,f,c⟩:=QT.1 X.sizeBuilder;have mixed:=L.mixed;have t72:=L.t72;have a72:=L.a72;have z72:=L.z72;have v72:=L.v72;have g:=Sy L.t72;have t70:=L.t70;have a70:=L.a70;have z70:=L.z70;have v70:=L.v70;have h:=Sy L.t70;have t9:=L.t9;have a9:=L.a9;have z9:=L.z9;have v9:=L.v9;have l:=Sy L.t9;have t4:=L.t4;have a4:=L.a4;have z4:=L.z4;have v4:=L.v4;have m:=Sy L.t4;have t164:=L.t164;have a164:=L.a164;have z164:=L.z164;have v164:=L.v164;have d:=Sy L.t164
 go_enter L.f240,Body.n240_ntmps ρ
 go_wp2
 rw[Lib.run_to_unsafe w ⟨b,3,none⟩ L.t70 L.t164 f (by rw[c];decide) a (by show 3<5;decide)];simp only[Result.andThen];rw[QO]
 go_wp2
 rw[run_callFunc_extern L.f276 SN SN SN (e:=Extern.AbiNoEscape.same) SN];rw[Lib.run_noEscape];simp only[Result.andThen];rw[QO]
 go_wp2
 rw[Lib.run_from_unsafe w ⟨b,3,none⟩ L.t164 L.t70 f a k];simp only[Result.andThen];rw[QO]
 go_wp2
 go_end0
 exact⟨rfl,rfl⟩
structure WAt(ρ:Ren)(T:TypeId)(B b:Nat)(x1 x2 x3:Value)(bs:List Value)(w:World):Prop where
 ge:B<=b
 ex:∃p v,w.heap[b]?=some (.cells #[x1,x2,x3,p,v] T (0,0))/\(p=.pointer none\/p=.pointer (some ⟨b,3,none⟩))/\w.ownsRow B (ρ.t 5) 1 v bs.length bs
theorem mh(L:Lays.n240 P ρ)(X:Builder.X72 P ρ){T:TypeId}(j:liesAt P P.depth T (5 / P.cellsOf T) 3 (ρ.t 72) 1=true)(m:T≠ρ.t 5){B b:Nat}{g f d v p:Value}{bs:List Value}(w:World)(l:B<=b)
  (a:w.heap[b]?=some (.cells #[g,f,d,p,v] T (0,0))) (h:p=.pointer none\/p=.pointer (some ⟨b,3,none⟩)) (c:w.ownsRow B (ρ.t 5) 1 v bs.length bs):
  Calls P (ρ.f 240) #[.pointer (some ⟨b,3,none⟩)] w fun e w'=>e=.returned (.tuple #[])/\w'.heap[b]?=some (.cells #[g,f,d,.pointer (some ⟨b,3,none⟩),v] T (0,0))/\w'.ownsRow B (ρ.t 5) 1 v bs.length bs/\WrR B T (ρ.t 5) w w':=by
 rcases h with rfl|rfl
 ·refine(mj L X j b w (by rw[Nx a];rfl) (by simp[World.shape?,a]) (Ny a 3)).mono ?_
  rintro e w' ⟨rfl,rfl⟩
  refine⟨rfl,by simp[World.setCell,MJ,a],?_,WrR.set a l _⟩;exact c.kept (row:=some b) ⟨rfl,rfl,rfl,by simp[World.setCell],fun k _ i=>MV _ _ _ _ (fun e=>i (by simp[e]))⟩ (Or.inr (Nz c a m))
 ·refine(mn L X b w (by rw[Nx a];rfl)).mono ?_
  rintro e w' ⟨rfl,rfl⟩
  exact⟨rfl,a,c,WrR.refl⟩
set_option maxRecDepth 100000 in
theorem Mt(L:Lays.n166 P ρ)(X:Builder.Extra P ρ){T:TypeId}(U:liesAt P P.depth T (5 / P.cellsOf T) 3 (ρ.t 72) 1=true)(G:T≠ρ.t 5){B b:Nat}{q o n:Value}{bs:List Value}(s:ByteArray)(w:World)(h:WAt ρ T B b q o n bs w)(I:bs.length+s.size<=140737488355328)(V:B<=w.heap.size):
  Calls P (ρ.f 166) #[.pointer (some ⟨b,3,none⟩),.string s] w fun e w'=>e=.returned (.tuple #[Te s.size,.nilIface])/\WAt ρ T B b q o n (bs++Lib.strCells s) w'/\WrR B T (ρ.t 5) w w':=by
 obtain⟨F,p,v,E,R,z⟩:=h;obtain⟨Q,hi,x,u,t⟩:=info_parts X.infoByte;have mixed:=L.mixed;have t72:=L.t72;have a72:=L.a72;have z72:=L.z72;have v72:=L.v72;have M:=Sy L.t72;have t70:=L.t70;have a70:=L.a70;have z70:=L.z70;have v70:=L.v70;have N:=Sy L.t70;have t37:=L.t37;have a37:=L.a37;have z37:=L.z37;have v37:=L.v37;have O:=Sy L.t37;have t3:=L.t3;have a3:=L.a3;have z3:=L.z3;have v3:=L.v3;have u3:=Sy L.t3;have t9:=L.t9;have a9:=L.a9;have z9:=L.z9;have v9:=L.v9;have W:=Sy L.t9;have t4:=L.t4;have a4:=L.a4;have z4:=L.z4;have v4:=L.v4;have Z:=Sy L.t4;have t164:=L.t164;have a164:=L.a164;have z164:=L.z164;have v164:=L.v164;have H:=Sy L.t164;have t5:=X.t5;have a5:=X.a5;have z5:=X.z5;have v5:=X.v5;have Y:=Sy X.t5;have J:∀args w,(callFunc (ρ.f 240) args).run P w=.ok (.enter (ρ.f 240) args) w:=enters_of L.f240 SN rfl
 go_enter L.f166,Body.n166_ntmps ρ
 go_wp2_with (go_at_fn (ρ.f 240);refine(mh {L with} X.toX72 U G _ F E R z).mono ?_)
 rintro e r ⟨rfl,i,d,j⟩
 have c0:r.cell? ⟨b,3,none⟩=some (.pointer (some ⟨b,3,none⟩)):=by rw[Nx i];rfl
 have c1:r.cell? ⟨b,4,none⟩=some v:=by rw[Nx i];rfl
 have A:=Nz d i G
 go_wp2_with (at_builtin;refine Lib.wpList_append_own_string _ rfl _ _ (ρ.t 37) (ρ.t 9) rfl B (ρ.t 5) Q L.t37 L.t9 hi x u t _ _ _ rfl d s rfl ?c3 ?c4 ?c5 ?_)
 case c3=>unfold maxLen;omega
 case c4=>omega
 case c5=>have:=j.below.size;omega
 intro K l a f _
 have D:b<r.heap.size:=(MH.1 i).1;have c:l.heap[b]?=some (.cells #[q,o,n,.pointer (some ⟨b,3,none⟩),v] T (0,0)):=by
  rw[f.block b D (fun e=>A e.symm)];exact i
 have d0:l.cell? ⟨b,3,none⟩=some (.pointer (some ⟨b,3,none⟩)):=by rw[Nx c];rfl
 have d1:l.cell? ⟨b,4,none⟩=some v:=by rw[Nx c];rfl
 have f1:l.frozen? ⟨b,4,none⟩=false:=Ny c 4;obtain⟨ao,m,cap,rfl⟩:∃ao m cap,K=.slice ao m cap:=by
  rcases a.2 with⟨y,_⟩|⟨g,cap,cur,y,_⟩
  ·exact⟨_,_,_,y⟩
  ·exact⟨_,_,_,y⟩
 go_wp2
 go_ret2
 have C:=Nz a c G;refine⟨rfl,⟨F,.pointer (some ⟨b,3,none⟩),.slice ao m cap,by simp[World.setCell,MJ,c],.inr rfl,?_⟩,?_⟩
 ·have:=a.kept (w':=l.setCell ⟨b,4,none⟩ (.slice ao m cap)) (row:=some b) ⟨rfl,rfl,rfl,by simp[World.setCell],fun k _ S=>MV _ _ _ _ (fun e=>S (by simp[e]))⟩ (Or.inr C)
  simpa[Lib.strCells_length]using this
 ·exact(j.trans (WrR.row d f (by have:=j.below.size;omega))).trans (WrR.set c F _)
set_option maxRecDepth 100000 in
theorem jz(L:Lays.n169 P ρ)(X:Builder.Extra P ρ){T:TypeId}{B b:Nat}{q o n:Value}{l:List UInt8}(w:World)(h:WAt ρ T B b q o n (Lib.byteCells l) w)(t:l≠[]):
  Calls P (ρ.f 169) #[.pointer (some ⟨b,3,none⟩)] w fun e w'=>e=.returned (.string ⟨l.toArray⟩)/\Below B w w':=by
 obtain⟨O,p,v,k,N,a⟩:=h;have d:l.length≠0:=by simpa using t
 rw[Nv]at a
 obtain⟨g,cap,cur,rfl,m,F,E,i,G,c⟩:∃g cap cur,v=.slice (some ⟨g,0,none⟩) l.length cap/\B<=g/\w.heap[g]?=some (.cells cur (ρ.t 5) (0,0))/\l.length<=cap/\cap<=maxLen/\cur.size=cap*1/\cur.toList.take (l.length*1)=Lib.byteCells l:=by
  rcases a.2 with⟨_,A⟩|⟨g,cap,cur,D,r⟩
  ·exact absurd A d
  ·exact⟨g,cap,cur,D,r⟩
 have c1:w.drew.cell? ⟨b,4,none⟩=some (.slice (some ⟨g,0,none⟩) l.length cap):=by
  have:w.drew.heap[b]?=some (.cells #[q,o,n,p,.slice (some ⟨g,0,none⟩) l.length cap] T (0,0)):=k;rw[Nx this];rfl
 have I:(Builtin.unsafeSliceData_ #[(ρ.t 37)] (ρ.t 127) #[.slice (some ⟨g,0,none⟩) l.length cap]).run P w.drew=.ok (Tg g) w.drew:=
  Lib.run_unsafeSliceData_row _ _ _ _ _ _ SM
 have H:(Builtin.unsafeString_ #[(ρ.t 127),(ρ.t 3)] (ρ.t 9) #[Tg g,Te l.length]).run P w.drew=.ok (.string ⟨l.toArray⟩) (w.drew.freeze ⟨g,0,none⟩ l.length):=by
  refine Lib.run_unsafeString_row w.drew (ρ.t 127) (ρ.t 3) (ρ.t 9) (ρ.t 5) L.t127 X.cellsByte g cur.size (by have f:w.drew.heap[g]?=some (.cells cur (ρ.t 5) (0,0)):=F;simp[World.shape?,f]) l t SM (by unfold maxLen at i;omega) ?_;intro j x C
  have:=a.cells (g:=g) rfl j (.int .u8 x.toNat) (by simp[Lib.byteCells,C]);exact this
 have mixed:=L.mixed;have t72:=L.t72;have a72:=L.a72;have z72:=L.z72;have v72:=L.v72;have u:=Sy L.t72;have t70:=L.t70;have a70:=L.a70;have z70:=L.z70;have v70:=L.v70;have y:=Sy L.t70;have t37:=L.t37;have a37:=L.a37;have z37:=L.z37;have v37:=L.v37;have z:=Sy L.t37;have t127:=L.t127;have a127:=L.a127;have z127:=L.z127;have v127:=L.v127;have s:=Sy L.t127;have t3:=L.t3;have a3:=L.a3;have z3:=L.z3;have v3:=L.v3;have M:=Sy L.t3;have t9:=L.t9;have a9:=L.a9;have z9:=L.z9;have v9:=L.v9;have J:=Sy L.t9;have t5:=X.t5;have a5:=X.a5;have z5:=X.z5;have v5:=X.v5;have K:=Sy X.t5
 go_enter L.f169,Body.n169_ntmps ρ
 go_wp2
 go_region_o
 all_goals (go_wp2;go_ret;exact⟨rfl,Lib.below_freeze (Below.drew (MW B w)) (p:=⟨g,0,none⟩) m _⟩)
end
def LY:liesAt UA Tryz.prog.depth 114 (5 / Tryz.prog.cellsOf 114) 3 (shR.t 72) 1=true:=by kernel_rfl
def WB(w:World)(B b:Nat)(d c a:Value)(l:ar):Prop:=WAt shR 114 B b d c a (Lib.byteCells l) w
abbrev gm(B:Nat)(w w':World):Prop:=WrR B 114 5 w w'
def WB.new{b:Nat}(h:Blk w b 114 [v,o,J,.pointer none,.slice none 0 0])(a:B<=b):WB w B b v o J []:=
 ⟨a,_,_,h,.inl rfl,World.ownsRow_nil _ _ _ _⟩
def WB.ext{w':World}{b:Nat}{a:Value}{l:ar}(h:WB w B b o J a l)(e:Ext w w'):WB w' B b o J a l:=by
 obtain⟨i,p,v,d,f,c⟩:=h;refine⟨i,p,v,(e.block b (MH.1 d).1).trans d,f,c.1,?_⟩;rcases c.2 with h|⟨g,cap,cur,h1,h2,h3,h4⟩
 ·exact .inl h
 ·exact .inr ⟨g,cap,cur,h1,h2,(e.block g (MH.1 h3).1).trans h3,h4⟩
def WB.at{b:Nat}{a:Value}{l:ar}(h:WB w B b o J a l):∃p v,Blk w b 114 [o,J,a,p,v]:=by
 obtain⟨f,p,v,c,d,e⟩:=h;exact⟨p,v,c⟩
def WrR.ownK[Rep α]{B':Nat}{w':World}{e:TypeId}{xs:List α}(h:gm B w w')(a:Own w B' e di v xs)(d:e≠5)(c:e≠114):Own w' B' e di v xs:=
 a.keep (fun g b=>by
  rcases a with⟨rfl,_⟩|⟨f,off,cap,cur,rfl,a⟩
  ·cases b
  ·have:f=g:=by injection b
   subst this;exact h.own _ _ _ _ a.blk d c) S0
def WrR.blkK{b:Nat}{w':World}{e:TypeId}(h:gm B w w')(a:Blk w b e r)(d:e≠5)(c:e≠114):Blk w' b e r:=
 (h.own _ _ _ _ a d c).trans a
set_option maxRecDepth 100000 in
def Mu(w:World){b:Nat}{a:Value}{l s:ar}(h:WB w B b o J a l)(d:l.length+s.length<=1000000)(c:B<=w.heap.size):
  Rt UA 77 [.pointer (some ⟨b,3,none⟩),tV s].toArray w fun v w'=>WB w' B b o J a (l++s)/\gm B w w':=by
 refine Ng (Mt Hq Hz LY (Sq SN) (KB s) w h (by rw[Nv,KF];omega) c) ?_;rintro e w' ⟨rfl,h1,h2⟩
 refine⟨_,rfl,?_,h2⟩;rw[Lib.strCells_eq,KE,<-Lib.byteCells_append]at h1
 exact h1
def jA(w:World){b:Nat}{a:Value}{l:ar}(h:WB w B b o J a l)(c:l≠[]):
  Rt UA 40 [.pointer (some ⟨b,3,none⟩)].toArray w fun v w'=>v=tV l/\Below B w w':=by
 refine Ng (jz Hr Hz w h c) ?_;rintro e w' ⟨rfl,h2⟩
 exact⟨_,rfl,rfl,h2⟩
section
variable {P:Program}{Q:Exit->Act->World->Prop}{n:Nat}{σ:Sg}{w wc:World}{L:List Oper}{S:World->Prop}{rest:List (Nat×Bool)}{i d:Nat}{ty:TypeId}{pos:String}{af:Array Edge}{g:Option (Nat×Bool)}{t:TypeId}{x:Operand}{b o:Nat}{v:Value}
theorem Gb(w:World)(c:w.cell? ⟨b,o,none⟩=some v)[e:IsC P t 1 false]:(Instr.loadAt t (.pointer (some ⟨b,o,none⟩))).run P w=.ok v w:=by
 obtain⟨i,dd,h1,h2,h3,h4⟩:=e.ok;have a:(isAgg t).run P w=.ok false w:=by
  unfold isAgg;rw[Q4,Sy h3 w,<-h4];cases dd<;>rfl
 simp only[Instr.loadAt,Q4,Instr.sureAddr,Q5,Q2,loadVar,a];simp[c]
theorem cB(m:∀c,S c->c.cell? ⟨b,o,none⟩=some v)(j:Cm L i=some ⟨some d,.load t x,ty,pos,af,g⟩)(k:gd L σ ⟨some d,.load t x,ty,pos,af,g⟩=some true)(hd:Nat.ble (d+1) n=true)(f:ev σ x=some (.pointer (some ⟨b,o,none⟩)))[p:IsC P t 1 false]
  (h:HL P L S Q rest n ((d,v)::σ) wc):HL P L S Q ((i,true)::rest) n σ wc:=by
 refine HL.run j k hd (fun a l c e=>?_) h;simp[execOp,l.ev f,Gb (P:=P) (t:=t) c (m c e)]
end
instance:IsF UA 77:=UB Tryz.func77
instance:IsFd UA 114 0 0:=IsFd.of SN
instance:IsFd UA 114 1 2:=IsFd.of SN
instance:IsFd UA 114 2 3:=IsFd.of SN
def Sl.node0{ao:Option Addr}{cap:Nat}{xs:List cP}(h:Sl w F ao cap xs){i:Nat}(hi:i<xs.length):∃b off,ao=some ⟨b,off,none⟩/\F b/\w.cell? ⟨b,off+i*2,none⟩=some (.string xs[i].1):=by
 obtain⟨b,off,e,f,j,a,c⟩:=h.el i hi;obtain⟨c1,c2,rfl,h1,h2⟩:=Fd c;rw[h1.1]at a
 exact⟨b,off,e,f,a 0 _ rfl⟩
def L1{p:cR}{wd:ar}{l:List Int}{i k:Nat}(h:i<l.length)(a:l[i]=(k:Int))(hn:k<p.1.length):LZ p wd (l.take (i+1))=LZ p wd (l.take i)++(32::p.1[k].1.data.toList):=by
 unfold LZ;rw[PZ h,Oc,<-NF]
 congr 1
 simp only[Od,List.flatMap_nil,NG];unfold H3;rw[a,Nt,Oi,On hn];rfl
theorem Av(w0:World){B b B':Nat}{ns:List cP}{fl:List cO}{so:Option Addr}{sc:Nat}{M K nv:Value}{l wd:ar}{nd:List Int}(h:WB w0 B b (.slice so ns.length sc) M K l)(I:B≤w0.heap.size)(hs:Sl w0 (fun k=>k<B) so sc ns)(hn:Own w0 B' 3 di nv nd)
  (hr:∀x∈nd,0≤x∧x<ns.length) (Y:OkPr (ns,fl)) (hnl:nd.length≤1000) (hl:l.length+wd.length≤500000):
  Rt UA 36 [Tg b,tV wd,nv].toArray w0 fun v w'=>WB w' B b (.slice so ns.length sc) M K (l++(LZ (ns,fl) wd nd++[10]))∧gm B w0 w':=by
 obtain⟨no,Z,rfl⟩:=hn.val;have C:=fun k=>L0 Y wd (nd.take k)
 refine dW Tryz.func36 Tryz.ntmps36 rfl rfl ?_;refine TY ?_;refine eN (Mu w0 (s:=wd) h SM I) ?_;rintro _ w1 ⟨h1,X⟩
 refine TR ?_;refine CW.loop (S:=Nat) (fun i=>[(0,Tg b),(13,.slice no nd.length Z),(14,Te nd.length),(15,Te i)])
  (fun i w=>i≤nd.length∧WB w B b (.slice so ns.length sc) M K (l++LZ (ns,fl) wd (nd.take i))∧gm B w0 w) (fun i=>nd.length -i) 0 SL ⟨QK _,by simpa[LZ]using h1,X⟩ ?_
 clear h1 X h;rintro i r ⟨hi,h2,y⟩
 have J:=y.below.size;have U:=y.ownK hn SP SP;refine T2 ?_;apply CW.cond rfl<;>intro h
 ·have f:i<nd.length:=by simpa using h
  have G:=hr _ (OG f);obtain⟨k,ek⟩:=Nn G.1;have e:k<ns.length:=by omega
  have T:=L1 (p:=(ns,fl)) (wd:=wd) f ek e;have j:=C i;rw[O9]at j
  refine T7 ?_;refine fj (i:=i) rfl rfl rfl rfl rfl U f SX (fun u q hu=>?_);obtain rfl:=Rd.int hu;rw[ek];refine Tl ?_;have H:=h2.ext (Ext.drew r);have R:=(hs.mono (fun k G=>y.below.block k G) S3).mono (fun k G=>(Ext.drew r).block k (Qn G (Qk I J))) S3;obtain⟨A,nf,rfl,hnb,m⟩:=R.node0 e;rw[show Value.string ns[k].1=tV ns[k].1.data.toList by rw[tV,KD]]at m
  have F:=B4 Y (i:=k) e;rw[Oi,On e]at F
  have E:=(JN F).2;dsimp only[Option.getD_some]at E
  generalize ns[k].1.data.toList=nm at*
  have V:∀{z:World},WB z B b (.slice (some ⟨A,nf,none⟩) ns.length sc) M K (l++LZ (ns,fl) wd (nd.take i))→z.cell? ⟨b,0,none⟩=some (.slice (some ⟨A,nf,none⟩) ns.length sc):=fun c=>by
   obtain⟨p,v,c⟩:=c.at;exact c.cell rfl
  refine aG (fun z:World=>z.cell? ⟨b,0,none⟩=some (.slice (some ⟨A,nf,none⟩) ns.length sc)∧z.cell? ⟨A,nf+k*2,none⟩=some (tV nm)) [(0,true),(1,true),(2,true),(3,true),(4,true),(5,true),(6,true),(7,true),(8,true),(9,true),(10,true),(11,true),(12,true),(13,false)] mixed SN ⟨V H,m⟩ ?_;refine Ut ?_;refine cB (fun z c=>c.1) rfl rfl rfl rfl ?_;refine Uq ?_;refine cm (α:=cP) rfl rfl rfl rfl rfl SM SM ?_;refine Uq ?_;refine cB (fun z c=>c.2) rfl rfl rfl rfl ?_;refine ce (a:=[32]) rfl rfl rfl rfl rfl ST ?_;refine cD rfl (eN (Mu (drew r) (s:=[32]++nm) H ST (Qk I J)) ?_);rintro _ W ⟨h3,N⟩
  rw[NF]at h3
  have D:LZ (ns,fl) wd (nd.take i)++([32]++nm)=LZ (ns,fl) wd (nd.take (i+1)):=by rw[T];rfl
  rw[D]at h3
  have O:gm B w0 W:=y.trans ((WrR.ext (Ext.drew r) (Qk I J)).trans N);refine WL.nil (bf ⟨by obtain⟨p,v,c⟩:=h3.at;exact c.cell rfl,(N.below.cell (p:=⟨A,nf+k*2,none⟩) hnb).trans m⟩ ?_);refine Uu ?_;refine Tn ?_;exact EX.back (i+1) SL ⟨f,h3,O⟩ SM
 ·obtain rfl:i=nd.length:=by simp at h;omega
  rw[PV]at h2
  have j:=C nd.length;rw[PV]at j
  refine Ub ?_;refine eN (Mu r (s:=[10]) h2 ST (Qk I J)) ?_;rintro _ W ⟨h3,N⟩
  refine T1 ?_;rw[NF]at h3
  exact a7 rfl ⟨h3,y.trans N⟩
def L3(w0:World){b:Nat}{z r nv:Value}{lo:Option Addr}{sl:List cT}{B':Nat}(O:Blk w0 b 114 [o,J,.slice lo sl.length B,z,r])(G:Sl w0 (dl w0) lo B sl)(hn:Own w0 B' 3 di nv m)
  (H:∀x∈m,0<=x/\x<sl.length) (R:m.length<=1000) (I:sl.length<=1000):
  Rt UA 79 [Tg b,nv].toArray w0 fun v w'=>Own w' 0 3 di v (m.map fun n=>(sl.getD n.toNat (0,0,0)).1)/\Ext w0 w':=by
 obtain⟨no,D,rfl⟩:=hn.val;refine dV Tryz.func79 Tryz.ntmps79 rfl rfl (TR ?_);refine CW.loop (S:=Nat×Value) (fun s=>[(0,Tg b),(8,.slice no m.length D),(9,Te m.length),(10,Te s.1),(5,s.2)])
  (fun s w=>s.1<=m.length/\Own w w0.heap.size 3 di s.2 ((m.take s.1).map fun n=>(sl.getD n.toNat (0,0,0)).1)/\Ext w0 w) (fun s=>m.length -s.1) (0,.slice none 0 0) SL ⟨QK _,Own.nil,Ext.refl _⟩ ?_
 rintro⟨i,v⟩ w ⟨hi,f,e⟩
 dsimp only at hi f e⊢
 have N:=O.ext e;refine T2 ?_;apply CW.cond rfl<;>intro h
 ·have c:i<m.length:=by simpa using h
  have K:=H _ (OG c);obtain⟨a,ea⟩:=Nn K.1;have p:a<sl.length:=by omega
  obtain⟨kb,koff,rfl,hF,k⟩:=(G.up e).step0 p;refine T7 ?_;refine fj (i:=i) rfl rfl rfl rfl rfl (hn.extN e) c SX (fun u q E=>?_);obtain rfl:=Rd.int E;rw[ea];refine Tv ?_;refine fp (α:=cT) rfl rfl rfl rfl SM SM (Ug ?_);refine WL.load (α:=Int) (F:=di) (y:=sl[a].1) rfl rfl rfl (by rw[Nt];exact k) rfl ?_;rw[show Lb Int [Te sl[a].1]=Te sl[a].1 from rfl];refine eH (F:=di) (yv:=sl[a].1) rfl rfl SX rfl rfl SX f S_ e.size S0 SP (by rw[O1,O9];unfold maxLen;omega) (by rw[O1,O9];omega) (fun C A q ho4 j hnb=>?_);have l:Ext w0 A:=e.grown j e.size (fun g M=>(f.lt g M).1);refine Tn ?_;refine EX.back (i+1,C) SL ⟨c,?_,l⟩ SR;rw[show(m.take (i+1)).map (fun n=>(sl.getD n.toNat (0,0,0)).1)=(m.take i).map (fun n=>(sl.getD n.toNat (0,0,0)).1)++[sl[a].1] by
   rw[PZ c,Pb];simp only[Pd,Pf];rw[ea,Nt,Oi,On p];rfl]
  exact ho4
 ·obtain rfl:i=m.length:=by simp at h;omega
  rw[PV]at f
  refine TO ?_;exact bj ⟨f.low (QK _),e⟩
instance:IsF UA 36:=UB Tryz.func36
instance:IsF UA 79:=UB Tryz.func79
structure FndO(w:World)(f:LFinding)(dv sv nv:Value):Prop where
 d:Own w 0 3 di dv f.dead
 s:Own w 0 3 di sv f.toStill
 n:Own w 0 3 di nv f.toNever
def FndO.wr{w':World}{f:LFinding}(h:FndO w f v o J)(r:gm B w w'):FndO w' f v o J:=
 ⟨r.ownK h.d SP SP,r.ownK h.s SP SP,r.ownK h.n SP SP⟩
def FndO.ext{w':World}{f:LFinding}(h:FndO w f v o J)(r:Ext w w'):FndO w' f v o J:=⟨h.d.extN r,h.s.extN r,h.n.extN r⟩
def KR(l:ar)(x:List ar)(y:ar):l++KQ x++(y++[10])=l++KQ (x++[y]):=by
 unfold KQ;rw[Oc];simp
def KV{n:Nat}:∀{x:List ar},(∀y∈x,y.length<=n)->(KQ x).length<=(n+1)*x.length
 |[],_=>by simp[KQ]
 |a::r,h=>by
  have h1:=KV (x:=r) (fun y b=>h y (Pl _ b));have h2:=h a (Pm ..);have e:KQ (a::r)=a++[10]++KQ r:=by simp[KQ]
  rw[e,OU,Nat.mul_add];simp only[OT,OU,O2]at h1⊢
  omega
structure FndL(p:cR)(f:LFinding):Prop where
 a:(∀y∈qS p f,y.length<=2000)/\(qS p f).length<=1
 b:(∀y∈qT p f,y.length<=2000)/\(qT p f).length<=1
 c:(∀y∈qU p f,y.length<=2000)/\(qU p f).length<=1
 d:(∀y∈qV p f,y.length<=2000)/\(qV p f).length<=1
def rM{p:cR}{f:LFinding}(d:OkPr p)(b:LookB p f):FndL p f:=by
 have h1:=b.deadL;have h2:=b.stillL;have h3:=b.neverL;have one:∀{c:Prop} [Decidable c] {wd:ar} {g:List Int},wd.length<=5->g.length<=200->(∀y∈(if c then [LZ p wd g]else []),y.length<=2000)/\(if c then [LZ p wd g]else []).length<=1:=fun {c _ wd g} e h=>by
  have:=L0 d wd g;split
  ·exact⟨fun y a=>by rw[Py.1 a];omega,Qj _⟩
  ·exact⟨(fun y a=>by cases a),QK _⟩
 exact⟨one SP SQ,one SP SM,one SP (by unfold Cc;rw[O1];omega),one SP (by unfold Cc;rw[O1];omega)⟩
def q8{p:cR}{f:LFinding}(h:FndL p f):(∀y∈qW p f,y.length<=2000)/\(qW p f).length<=4:=by
 unfold qW;refine⟨fun y a=>?_,by have:=h.a.2;have:=h.b.2;have:=h.c.2;have:=h.d.2;simp only[OT];omega⟩;rcases Ph.1 a with a|a
 ·rcases Ph.1 a with a|a
  ·rcases Ph.1 a with a|a
   ·exact h.a.1 y a
   ·exact h.b.1 y a
  ·exact h.c.1 y a
 ·exact h.d.1 y a
def rj(w0:World){b:Nat}{ns:List cP}{fl:List cO}{so lo:Option Addr}{sc:Nat}{sv nv:Value}{l:ar}{sl:List cT}{f:LFinding}(h:WB w0 B b (.slice so ns.length sc) o (.slice lo sl.length K) l)(E:B<=w0.heap.size)(hs:Sl w0 (fun k=>k<B) so sc ns)
  (H:Own w0 a 163 di (.slice lo sl.length K) sl) (hf:FndO w0 f J sv nv) (z:LookB (ns,fl) f) (q:(Is (ns,fl)).1=sl) (Q:∀s∈sl,0<=s.1/\s.1<ns.length) (I:OkPr (ns,fl)) (hz:sl.length<=60) (hl:l.length<=100000):
  Rt UA 38 [Tg b,qP J sv nv f.still f.never].toArray w0 fun v w'=>WB w' B b (.slice so ns.length sc) o (.slice lo sl.length K) (l++KQ (qW (ns,fl) f))/\gm B w0 w':=by
 obtain⟨dO,dC,rfl⟩:=hf.d.val;obtain⟨sO,sC,rfl⟩:=hf.s.val;obtain⟨nO,nC,rfl⟩:=hf.n.val;have hLd:=z.deadL;have hLs:=z.stillL;have hLn:=z.neverL;have t:∀{g:List Int},(∀x∈g,0<=x/\x<(Is (ns,fl)).1.length)->∀y∈Cc (ns,fl) g,0<=y/\y<ns.length:=fun hg y A=>by
  obtain⟨x,Z,rfl⟩:=Pr.1 A;have Y:=hg x Z;have M:x.toNat<(Is (ns,fl)).1.length:=by omega
  rw[Oi,On M];exact Q _ (by rw[<-q];exact OG M)
 have kS:∀{w:World},gm B w0 w->Sl w (fun k=>k<B) so sc ns:=fun r=>hs.mono (fun k hk=>r.below.block k hk) S3
 have hF:=rM I z;have lA:=hF.a.2;have lB:=hF.b.2;have lC:=hF.c.2;have u1:=KV (x:=qS (ns,fl) f) hF.a.1;have X:=KV (x:=qS (ns,fl) f++qT (ns,fl) f) (fun y A=>(Ph.1 A).elim (hF.a.1 y) (hF.b.1 y));have W:=KV (x:=qS (ns,fl) f++qT (ns,fl) f++qU (ns,fl) f) (fun y A=>(Ph.1 A).elim (fun A=>(Ph.1 A).elim (hF.a.1 y) (hF.b.1 y)) (hF.c.1 y));rw[OT]at X
 rw[OT,OT]at W
 refine dV Tryz.func38 Tryz.ntmps38 rfl rfl ?_;apply CW.seq;apply CW.region;refine eJ fun u c T=>?_
 apply WL.nil;apply bE;have h:=h.ext T;have d:gm B w0 u:=WrR.ext T E;clear T;refine aB (S:=Unit) (fun _=>[(0,Tg b),(3,Tg w0.heap.size)]) (fun _ w=>WB w B b (.slice so ns.length sc) o (.slice lo sl.length K) (l++KQ (qS (ns,fl) f))/\gm B w0 w/\Blk w w0.heap.size 57 [.slice dO f.dead.length dC,Te f.still,Te f.never,.slice sO f.toStill.length sC,.slice nO f.toNever.length nC]) ?_ ?_
 ·by_cases N:f.dead.length=0/\f.still<0/\f.never<0
  ·have O:((f.dead.length:Int)==0)=true:=by rw[RZ];omega
   have b1:decide (f.still<0)=true:=R9 N.2.1;have b2:decide (f.never<0)=true:=R9 N.2.2;unfold qS;rw[Sj N];refine Ty ?_;rw[O];refine Uh ?_;rw[b1];refine TH ?_;rw[b2];refine TZ ?_;refine eN (Av u (wd:=I8) h (Qk E d.below.size) (kS d) (Own.nil (B:=0) (e:=3)) (fun _ h=>by cases h) I SQ ST) ?_;rintro _ G ⟨h2,j⟩
   refine T1 ?_;exact aZ () SL ⟨by have:=KR l [] (LZ (ns,fl) I8 []);simpa[KQ]using h2,d.trans j,j.blkK c SP SP⟩
  ·have fin:WB u B b (.slice so ns.length sc) o (.slice lo sl.length K) (l++KQ (qS (ns,fl) f)):=by
    unfold qS;rw[Si N];simpa[KQ]using h
   by_cases h0:f.dead.length=0
   ·have O:((f.dead.length:Int)==0)=true:=by rw[RZ];omega
    refine Ty ?_;rw[O];refine Uh ?_;by_cases h1:f.still<0
    ·have b1:decide (f.still<0)=true:=R9 h1
     have b2:decide (f.never<0)=false:=R7 (fun h2=>N ⟨h0,h1,h2⟩);rw[b1];refine TH ?_;rw[b2];refine TD ?_;exact aZ () SL ⟨fin,d,c⟩
    ·have b1:decide (f.still<0)=false:=R7 h1
     rw[b1];refine Ua ?_;exact aZ () SL ⟨fin,d,c⟩
   ·have O:((f.dead.length:Int)==0)=false:=by rw[RY];omega
    refine Ty ?_;rw[O];refine Ua ?_;exact aZ () SL ⟨fin,d,c⟩
 clear h d c;rintro _ u ⟨h,d,c⟩
 refine aB (S:=Unit) (fun _=>[(0,Tg b),(3,Tg w0.heap.size)]) (fun _ w=>WB w B b (.slice so ns.length sc) o (.slice lo sl.length K) (l++KQ (qS (ns,fl) f++qT (ns,fl) f))/\gm B w0 w/\Blk w w0.heap.size 57 [.slice dO f.dead.length dC,Te f.still,Te f.never,.slice sO f.toStill.length sC,.slice nO f.toNever.length nC]) ?_ ?_
 ·refine Ty ?_
  apply CW.cond rfl<;>intro i
  ·have i:0<f.dead.length:=by have:(0:Int)<f.dead.length:=(by simpa using i);omega
   refine TY ?_;refine eN (Av u (wd:=IZ) h (Qk E d.below.size) (kS d) (hf.wr d).d z.dead I SM (by have U:List.length IZ=4:=rfl;rw[OT];omega)) ?_;rintro _ G ⟨h2,j⟩
   refine T1 ?_;exact aZ () SL ⟨by unfold qT;rw[Sj i,<-KR];exact h2,d.trans j,j.blkK c SP SP⟩
  ·have i:¬0<f.dead.length:=by have:=Sp i;omega
   refine T0 ?_;exact aZ () SL ⟨by unfold qT;rw[Si i,NG];exact h,d,c⟩
 clear h d c;rintro _ u ⟨h,d,c⟩
 refine aB (S:=Unit) (fun _=>[(0,Tg b),(3,Tg w0.heap.size)]) (fun _ w=>WB w B b (.slice so ns.length sc) o (.slice lo sl.length K) (l++KQ (qS (ns,fl) f++qT (ns,fl) f++qU (ns,fl) f))/\gm B w0 w/\Blk w w0.heap.size 57 [.slice dO f.dead.length dC,Te f.still,Te f.never,.slice sO f.toStill.length sC,.slice nO f.toNever.length nC]) ?_ ?_
 ·refine TJ ?_
  apply CW.cond rfl<;>intro i
  ·have i:0<=f.still:=by simpa using i
   obtain⟨p,v,D⟩:=h.at;obtain⟨lo',lc',R,C⟩:=(d.ownK H SP SP).oldN.sl;obtain⟨rfl,_,rfl⟩:=RS R;refine TY ?_;refine eN (L3 u D C (hf.wr d).s (by rw[<-q];exact z.still) SM SM) ?_;rintro _ G ⟨L,F⟩
   have j:=d.trans (WrR.ext F (Qk E d.below.size));have m:(f.toStill.map fun n=>(sl.getD n.toNat (0,0,0)).1)=Cc (ns,fl) f.toStill:=by unfold Cc;rw[q]
   rw[m]at L
   refine eN (Av G (wd:=I9) (h.ext F) (Qk E j.below.size) (kS j) L (t z.still) I (by unfold Cc;rw[O1];omega) (by have U:List.length I9=5:=rfl;rw[OT];omega)) ?_;rintro _ V ⟨h3,P⟩
   refine T1 ?_;exact aZ () SL ⟨by unfold qU;rw[Sj i,<-KR];exact h3,j.trans P,P.blkK (c.ext F) SP SP⟩
  ·have i:¬0<=f.still:=by simpa using i
   refine T0 ?_;exact aZ () SL ⟨by unfold qU;rw[Si i,NG];exact h,d,c⟩
 clear h d c;rintro _ u ⟨h,d,c⟩
 unfold qW;refine TJ ?_;apply CW.cond rfl<;>intro i
 ·have i:0<=f.never:=by simpa using i
  obtain⟨p,v,D⟩:=h.at;obtain⟨lo',lc',R,C⟩:=(d.ownK H SP SP).oldN.sl;obtain⟨rfl,_,rfl⟩:=RS R;refine TY ?_;refine eN (L3 u D C (hf.wr d).n (by rw[<-q];exact z.never) SM SM) ?_;rintro _ G ⟨L,F⟩
  have j:=d.trans (WrR.ext F (Qk E d.below.size));have m:(f.toNever.map fun n=>(sl.getD n.toNat (0,0,0)).1)=Cc (ns,fl) f.toNever:=by unfold Cc;rw[q]
  rw[m]at L
  refine eN (Av G (wd:=I6) (h.ext F) (Qk E j.below.size) (kS j) L (t z.never) I (by unfold Cc;rw[O1];omega) (by have U:List.length I6=5:=rfl;rw[OT];omega)) ?_;rintro _ V ⟨h3,P⟩
  refine T1 ?_;exact a7 rfl ⟨by unfold qV;rw[Sj i,<-KR];exact h3,j.trans P⟩
 ·have i:¬0<=f.never:=by simpa using i
  refine T0 ?_;exact a7 rfl ⟨by unfold qV;rw[Si i,NG];exact h,d⟩
def Hj:List (Nat×Nat):=
 (99,17)::
 (100,18)::
 (102,16)::
 (129,257)::
 (171,37)::
 (206,43)::
 (207,44)::
 (209,42)::
 (243,78)::
 (246,145)::
 (283,217)::
 (284,218)::
 (285,219)::
 (286,220)::
 (317,265)::
 (318,266)::
 (319,267)::
 (320,268)::
 (337,281)::
 (338,282)::
 []
def Hx:List (Nat×Nat):=
 (0,0)::
 (2,2)::
 (3,3)::
 (4,4)::
 (5,5)::
 (9,9)::
 (20,20)::
 (37,110)::
 (46,275)::
 (51,315)::
 (53,131)::
 (171,290)::
 (173,293)::
 (212,323)::
 (213,324)::
 (232,341)::
 (233,342)::
 []
def Hl:List (Nat×Nat):=
 (17,1)::
 (18,4)::
 (19,5)::
 []
def Hv:Ren:=⟨fun x=>AI Hj x,fun x=>AI Hx x,fun x=>AI Hl x⟩
set_option maxRecDepth 100000 in
def Hu:Lays.n99 UA Hv where
 mixed:=by kernel_rfl
 f99:=(Tryz.func17).trans (R5 some SN)
 f206:=(Tryz.func43).trans (R5 some SN)
 t3:=Rw
 a3:=Q8
 z3:=Rg
 v3:=RM
 t4:=RC
 a4:=Q9
 z4:=Ri
 v4:=RO
 t9:=RI
 a9:=Ra
 z9:=Rk
 v9:=RQ
set_option maxRecDepth 100000 in
def Hn:Lays.n100 UA Hv where
 mixed:=by kernel_rfl
 f100:=(Tryz.func18).trans (R5 some SN)
 f207:=(Tryz.func44).trans (R5 some SN)
 t3:=Rw
 a3:=Q8
 z3:=Rg
 v3:=RM
 t4:=RC
 a4:=Q9
 z4:=Ri
 v4:=RO
 t9:=RI
 a9:=Ra
 z9:=Rk
 v9:=RQ
set_option maxRecDepth 100000 in
def Ho:Lays.n102 UA Hv where
 mixed:=by kernel_rfl
 f102:=(Tryz.func16).trans (R5 some SN)
 f207:=(Tryz.func44).trans (R5 some SN)
 f209:=(Tryz.func42).trans (R5 some SN)
 t3:=Rw
 a3:=Q8
 z3:=Rg
 v3:=RM
 t4:=RC
 a4:=Q9
 z4:=Ri
 v4:=RO
 t9:=RI
 a9:=Ra
 z9:=Rk
 v9:=RQ
set_option maxRecDepth 100000 in
theorem Ht:LaysM.n171 UA Hv where
 mixed:=by kernel_rfl
 f129:=(Tryz.func257).trans (R5 some SN)
 f171:=(Tryz.func37).trans (R5 some SN)
 f243:=(Tryz.func78).trans (R5 some SN)
 f246:=(Tryz.func145).trans (R5 some SN)
 f283:=(Tryz.func217).trans (R5 some SN)
 f284:=(Tryz.func218).trans (R5 some SN)
 f285:=(Tryz.func219).trans (R5 some SN)
 f286:=(Tryz.func220).trans (R5 some SN)
 f317:=(Tryz.func265).trans (R5 some SN)
 f318:=(Tryz.func266).trans (R5 some SN)
 f319:=(Tryz.func267).trans (R5 some SN)
 f320:=(Tryz.func268).trans (R5 some SN)
 f337:=(Tryz.func281).trans (R5 some SN)
 f338:=(Tryz.func282).trans (R5 some SN)
 t0:=by kernel_rfl
 a0:=fun w=>rfl
 z0:=fun w=>rfl
 v0:=fun w=>rfl
 t2:=Tryz.underlying2
 a2:=Tryz.isAgg2
 z2:=Tryz.sizeOf2
 v2:=Tryz.zeroValue2
 t3:=Rw
 a3:=Q8
 z3:=Rg
 v3:=RM
 t4:=RC
 a4:=Q9
 z4:=Ri
 v4:=RO
 t5:=RD
 a5:=Q_
 z5:=Rj
 v5:=RP
 t9:=RI
 a9:=Ra
 z9:=Rk
 v9:=RQ
 t20:=Tryz.underlying20
 a20:=Tryz.isAgg20
 z20:=Tryz.sizeOf20
 v20:=Tryz.zeroValue20
 t37:=Rl
 a37:=Tryz.isAgg110
 z37:=Re
 v37:=RJ
 t46:=Ru
 a46:=Tryz.isAgg275
 z46:=Rf
 v46:=RK
 t51:=Ry
 a51:=Tryz.isAgg315
 z51:=Rh
 v51:=RN
 t53:=Rm
 a53:=Tryz.isAgg131
 z53:=Tryz.sizeOf131
 v53:=Tryz.zeroValue131
 t171:=Tryz.underlying290
 a171:=Tryz.isAgg290
 z171:=Tryz.sizeOf290
 v171:=Tryz.zeroValue290
 t173:=Tryz.underlying293
 a173:=Tryz.isAgg293
 z173:=Tryz.sizeOf293
 v173:=Tryz.zeroValue293
 t212:=Tryz.underlying323
 a212:=Tryz.isAgg323
 z212:=Tryz.sizeOf323
 v212:=Tryz.zeroValue323
 t213:=Tryz.underlying324
 a213:=Tryz.isAgg324
 z213:=Tryz.sizeOf324
 t232:=Tryz.underlying341
 a232:=Tryz.isAgg341
 z232:=Tryz.sizeOf341
 v232:=Tryz.zeroValue341
 t233:=Tryz.underlying342
 a233:=Tryz.isAgg342
 z233:=Tryz.sizeOf342
 v233:=Tryz.zeroValue342
 g17:=by kernel_rfl
 g18:=by kernel_rfl
 g19:=by kernel_rfl
 i0:=by kernel_rfl
 i2:=by kernel_rfl
 i3:=by kernel_rfl
 i4:=by kernel_rfl
 i5:=by kernel_rfl
 i9:=by kernel_rfl
 i20:=by kernel_rfl
 i37:=by kernel_rfl
 i46:=by kernel_rfl
 i51:=by kernel_rfl
 i53:=by kernel_rfl
 i171:=by kernel_rfl
 i173:=by kernel_rfl
 i212:=by kernel_rfl
 i232:=by kernel_rfl
 i233:=by kernel_rfl
 m17:=by kernel_rfl
 m18:=by kernel_rfl
 m19:=by kernel_rfl
instance:IsZ UA 9 (⟨#[]⟩:ByteArray) 16:=IsZ.of (z:=.string ⟨#[]⟩) SN (fun _ _=>⟨rfl,by decide⟩)
def yV(w0:World){so fo:Option Addr}{sc fc k:Nat}{ns:List cP}(y:Sl w0 (dl w0) so sc ns)(D:ns.length<=1000):
  Rt UA 23 [Er so sc fo fc ns.length k].toArray w0 fun v w'=>Own w' w0.heap.size 9 di v (ns.map (·.1))/\Ext w0 w':=by
 refine dU Tryz.func23 Tryz.ntmps23 rfl rfl (T9 ?_);refine eJ fun C E A=>?_
 refine Ty ?_;refine CW.loop (S:=Nat×Value) (fun s=>[(7,.slice so ns.length sc),(8,Te ns.length),(9,Te s.1),(3,s.2)])
  (fun s w=>s.1<=ns.length/\Own w w0.heap.size 9 di s.2 ((ns.take s.1).map (·.1))/\Ext w0 w) (fun s=>ns.length -s.1) (0,.slice none 0 0) SL ⟨QK _,Own.nil,A⟩ ?_
 rintro⟨i,v⟩ w ⟨hi,d,e⟩
 dsimp only at hi d e⊢
 refine T2 ?_;apply CW.cond rfl<;>intro h
 ·have a:i<ns.length:=by simpa using h
  refine T7 ?_;refine fh (y.up e) a SX (fun u q f=>?_);have j:ns[i].1.size<=maxLen:=by
   obtain⟨c1,c2,_,h1,_⟩:=f.pr;exact h1.2
  rw[f.node];clear f;refine eF (fun B c p=>?_);refine f_ c (fun t c m=>?_);have o:Ext w t:=p.grown m p.size SZ;have ho3:=d.extN o;have b:=e.trans o;refine TJ ?_;refine eH (F:=di) (yv:=ns[i].1) rfl rfl SX rfl rfl SX ho3 (Rd.mkStr _ _ _ j) b.size S0 SP (by rw[O1,O9];unfold maxLen;omega) (by rw[O1,O9];omega) (fun x r q ho4 l hnb=>?_);have n:Ext w0 r:=b.grown l b.size (fun g z=>(ho3.lt g z).1);refine Tn ?_;refine EX.back (i+1,x) SL ⟨a,?_,n⟩ SR;rw[show(ns.take (i+1)).map (·.1)=(ns.take i).map (·.1)++[ns[i].1] by rw[PZ a,Pb];rfl];exact ho4
 ·obtain rfl:i=ns.length:=by simp at h;omega
  rw[PV]at d
  refine TO ?_;exact bj ⟨d,e⟩
def g_(w0:World){lo:Option Addr}{b:List cN}{l:List Int}(A:Sl w0 (dl w0) C B b)(x:Sl w0 (dl w0) lo K l)(z:CQ b.length l)(J:l.length<=1099511627776):
  Rt UA 27 [.slice C b.length B,.slice lo l.length K].toArray w0 fun v w'=>Own w' w0.heap.size 3 di v (l.map fun n=>(b.getD n.toNat (0,0)).1)/\Ext w0 w':=by
 refine dV Tryz.func27 Tryz.ntmps27 rfl rfl ?_;have L:=x.len63;have H:=A.len63;refine TR ?_;refine CW.loop (S:=Nat×Value) (fun s=>[(0,.slice C b.length B),(8,.slice lo l.length K),(9,Te l.length),(10,Te s.1),(5,s.2)])
  (fun s w=>s.1<=l.length/\Own w w0.heap.size 3 di s.2 ((l.take s.1).map fun n=>(b.getD n.toNat (0,0)).1)/\Ext w0 w) (fun s=>l.length -s.1) (0,.slice none 0 0) SL ⟨QK _,Own.nil,Ext.refl _⟩ ?_
 rintro⟨i,v⟩ w ⟨hi,e,d⟩
 dsimp only at hi e d⊢
 refine T2 ?_;apply CW.cond rfl<;>intro h
 ·have c:i<l.length:=by simpa using h
  obtain⟨a,ea⟩:=Nn (z _ (OG c)).1;have D:a<b.length:=by have:=(z _ (OG c)).2;omega
  obtain⟨kb,koff,rfl,hF,cs,o,k⟩:=(A.up d).el a D;obtain⟨c1,c2,f,h1,h2⟩:=Fd k;rw[E7 h1]at f
  have p:Cells w kb (koff+a*sz cN) [Te b[a].1]:=by
   intro j u t
   cases j with
   |zero=>exact o 0 u (by rw[f];exact t)
   |succ j=>simp at t
  refine T7 ?_;refine ff (x.up d) c ea SX (fun q=>?_);refine T2 ?_;refine fp (α:=cN) rfl rfl rfl rfl SM SM (Ug ?_);refine WL.load (α:=Int) (F:=di) (y:=b[a].1) rfl rfl rfl (by rw[Nt];exact p) rfl ?_;rw[show Lb Int [Te b[a].1]=Te b[a].1 from rfl];refine eH (F:=di) (yv:=b[a].1) rfl rfl SX rfl rfl SX e S_ d.size S0 SP (by rw[O1,O9];unfold maxLen;omega) (by rw[O1,O9];omega) (fun G E q ho4 m hnb=>?_);have r:Ext w0 E:=d.grown m d.size (fun g I=>(e.lt g I).1);refine Tn ?_;refine EX.back (i+1,G) SL ⟨c,?_,r⟩ SR;rw[show(l.take (i+1)).map (fun n=>(b.getD n.toNat (0,0)).1)=(l.take i).map (fun n=>(b.getD n.toNat (0,0)).1)++[b[a].1] by
   rw[PZ c,Pb];simp only[Pd,Pf];rw[ea,Nt,Oi,On D];rfl]
  exact ho4
 ·obtain rfl:i=l.length:=by simp at h;omega
  rw[PV]at e
  refine TO ?_;exact bj ⟨e,d⟩
def xO(x:ByteArray)(a:List ByteArray):idxOf (fun y:ByteArray=>x.data.toList==y.data.toList) a=xN a x.data.toList:=by
 unfold idxOf xN;rw[show(fun y:ByteArray=>x.data.toList==y.data.toList)=fun y=>y.data.toList==x.data.toList from funext fun y=>Bool.beq_comm]
 all_goals rfl
def sU{i:Nat}(h:i<f.length):f.getD i ⟨#[]⟩=f[i]:=by rw[Oi,On h];rfl
inductive ShT(kk:Int->Int):Ltl->Prop
 |mk (k n:Int) (kids:List Ltl):kk k=kids.length->0<=n->n<=63->(∀x∈kids,ShT kk x)->ShT kk (.mk k n kids)
mutual
theorem kK:∀(t:Ltl) (d c:Int),(kD t d c).1=0->ShT zN t/\(kD t d c).2=c+t.nodes
 |.mk k n kids,d,c,h=>by
  simp only[kD]at h⊢
  split at h
  ·cases h
  split at h
  ·cases h
  split at h
  ·cases h
  rename_i h1 h2 h3;rw[Si h1,Si h2,Si h3];have⟨g1,g2⟩:=kG kids (d+1) (c+1) h;simp only[So]at h3
  refine⟨.mk k n kids SM SM SM g1,?_⟩;rw[g2];simp only[Ltl.nodes];omega
theorem kG:∀(l:List Ltl) (d c:Int),(kE l d c).1=0->(∀x∈l,ShT zN x)/\(kE l d c).2=c+Ltl.nodesL l
 |[],d,c,h=>⟨fun x a=>by(cases a),by simp[kE,Ltl.nodesL]⟩
 |y::r,d,c,h=>by
  simp only[kE]at h⊢
  split at h
  ·rename_i h1;exact absurd h h1
  rename_i h1;rw[Si h1];have⟨g1,g2⟩:=kK y d c (by simpa using h1);have⟨g3,g4⟩:=kG r d _ h;refine⟨fun x a=>?_,?_⟩
  ·rcases Pk.1 a with rfl|a
   ·exact g1
   ·exact g3 x a
  ·rw[g4,g2];simp only[Ltl.nodesL];omega
end
section
variable {P:Program}{Q:Exit->Act->World->Prop}{n:Nat}{σ:Sg}{w wc:World}{L:List Oper}{S:World->Prop}{ord:List (Nat×Bool)}{i d:Nat}{ty:TypeId}{pos:String}{af:Array Edge}{g:Option (Nat×Bool)}{t e:TypeId}{x:Operand}{b o:Nat}{cells:List Value}
theorem cA{v:Value}(q:∀f,S f->Blk f b e cells)(l:Cm L i=some ⟨some d,.load t x,ty,pos,af,g⟩)(m:gd L σ ⟨some d,.load t x,ty,pos,af,g⟩=some true)(hd:Nat.ble (d+1) n=true)(j:ev σ x=some (.pointer (some ⟨b,o,none⟩)))[r:IsC P t 1 false](k:Cq cells o=some v)
  (h:HL P L S Q ord n ((d,v)::σ) wc):HL P L S Q ((i,true)::ord) n σ wc:=by
 refine HL.run l m hd (fun a p w' c=>?_) h;simp[execOp,p.ev j,F9 (P:=P) (t:=t) w' (q w' c) k]
theorem cx{vs:List Value}{k:Nat}(r:∀f,S f->Blk f b e cells)(m:Cm L i=some ⟨some d,.load t x,ty,pos,af,g⟩)(p:gd L σ ⟨some d,.load t x,ty,pos,af,g⟩=some true)(hd:Nat.ble (d+1) n=true)(j:ev σ x=some (.pointer (some ⟨b,o,none⟩)))[s:IsC P t k true](l:GM cells o k=some vs)
  (h:HL P L S Q ord n ((d,.agg vs.toArray)::σ) wc):HL P L S Q ((i,true)::ord) n σ wc:=by
 refine HL.run m p hd (fun a q w' c=>?_) h;simp[execOp,q.ev j,F_ (P:=P) (t:=t) w' (r w' c) l]
end
instance:IsFd UA 254 0 0:=IsFd.of SN
instance:IsFd UA 254 1 1:=IsFd.of SN
instance:IsBd UA 254 [(0,1),(1,1)]:=IsBd.of SN
instance:IsZC UA 254 [.slice none 0 0,.bool false]:=IsZC.of (z:=.agg #[.slice none 0 0,.bool false]) SN rfl
instance:IsAr UA 298 10 9:=⟨Tryz.underlying298⟩
abbrev BZ:Value:=.string ⟨#[]⟩
instance:IsZC UA 298 [BZ,BZ,BZ,BZ,BZ,BZ,BZ,BZ,BZ,BZ]:=IsZC.of (z:=.agg #[BZ,BZ,BZ,BZ,BZ,BZ,BZ,BZ,BZ,BZ]) SN rfl
def AE(w0:World)(hn:Sl w0 (dl w0) C B f)(n:Int)(p:0<=n):
  Rt UA 226 [Te n,.slice C f.length B].toArray w0 fun v w'=>v=tV (BV f n)/\Ext w0 w':=by
 have r:=hn.len63;refine dV Tryz.func226 Tryz.ntmps226 rfl rfl ?_;obtain⟨i,rfl⟩:=Nn p;refine T2 ?_;apply CW.cond rfl<;>intro h
 ·refine Tw ?_
  refine bi rfl rfl ⟨?_,Ext.refl _⟩;have:(i:Int)=63:=by simpa using h
  unfold BV;rw[Sj this];rfl
 have c:¬(i:Int)=63:=by simpa using h
 refine TE ?_
 (refine fJ rfl rfl (fun h=>?_) (fun h=>?_))
 ·have h1:(i:Int)>=(f.length:Int):=by simpa using h
  refine TA ?_;refine bi rfl rfl ⟨?_,Ext.refl _⟩;unfold BV;rw[Si c,Sj h1];rfl
 have h1:¬(i:Int)>=(f.length:Int):=by simpa using h
 have hi:i<f.length:=by omega
 refine Ue ?_;refine fh hn hi SX (fun k l a=>?_);obtain⟨rfl,_⟩:=a.str;refine eN (dg w0 f[i]) ?_;rintro _ m ⟨rfl,j⟩
 refine Ue ?_
 (refine fJ rfl rfl (fun h=>?_) (fun h=>?_))
 ·refine TA ?_
  refine bi rfl rfl ⟨?_,j⟩;unfold BV;rw[Si c,Si h1,Sj (by rw[Nt,sU hi];simpa using h)];rfl
 have h2:¬Bz f[i]=false:=by simpa using h
 refine Ue ?_;refine fh (hn.up j) hi SX (fun k l a=>?_);obtain⟨rfl,_⟩:=a.str;refine eN (yy m f[i] (hn.up j)) ?_;rintro _ q ⟨rfl,rfl⟩
 refine Tl ?_;apply CW.cond rfl<;>intro h
 ·refine Tw ?_
  refine bi rfl rfl ⟨?_,j⟩;unfold BV;rw[Si c,Si h1,Si (by rw[Nt,sU hi];exact h2),Sj (by rw[Nt,sU hi,<-xO];simpa using h)];rfl
 refine TL ?_;refine fh (hn.up j) hi SX (fun k l a=>?_);obtain⟨rfl,_⟩:=a.str;refine Tk ?_;refine bi rfl rfl ⟨?_,j⟩;unfold BV;rw[Si c,Si h1,Si (by rw[Nt,sU hi];exact h2),Si (by rw[Nt,sU hi,<-xO];simpa using h)];rw[Nt,sU hi,tV,KD]
def Aj(w0:World)(k i x:Int):Rt UA 271 [Te k,Te i,Te x].toArray w0 fun v w'=>v=.bool (iW k i x)/\w0=w':=by
 refine dW Tryz.func271 Tryz.ntmps271 rfl rfl ?_;unfold iW;refine TI ?_;apply CW.cond rfl<;>intro h
 ·have a:x=5:=by simpa using h
  rw[Sj a];clear h;refine TP ?_
  (refine fJ rfl rfl (fun h=>?_) (fun h=>?_))
  ·refine TT ?_
   exact bi rfl rfl ⟨by rw[h];rfl,rfl⟩
  ·rw[h]
   clear h;refine Ue ?_
   (refine fJ rfl rfl (fun h=>?_) (fun h=>?_))
   ·refine T5 ?_
    exact bi rfl rfl ⟨by rw[h];rfl,rfl⟩
   ·refine TT ?_
    exact bi rfl rfl ⟨by rw[h];rfl,rfl⟩
 have f:¬x=5:=by simpa using h
 rw[Si f];refine T2 ?_;apply CW.cond rfl<;>intro h
 ·have h:x=6:=by simpa using h
  rw[Sj h];clear h;refine TP ?_
  (refine fJ rfl rfl (fun h=>?_) (fun h=>?_))
  ·refine T5 ?_
   exact bi rfl rfl ⟨by rw[h];rfl,rfl⟩
  ·refine TT ?_
   exact bi rfl rfl ⟨by rw[h];rfl,rfl⟩
 have c:¬x=6:=by simpa using h
 rw[Si c];refine az [(0,Te k),(1,Te i),(2,Te x),(28,.bool (decide (x=8\/x=9)))] ?_ ?_
 ·refine T2 ?_
  apply CW.cond rfl<;>intro h
  ·refine T0 ?_
   refine aX ⟨rfl,rfl,rfl,(R5 (fun b=>some (Value.bool b)) ?_),trivial⟩;have:x=8:=by simpa using h
   simp[this]
  ·refine T2 ?_
   refine aX ⟨rfl,rfl,rfl,(R5 (fun b=>some (Value.bool b)) ?_),trivial⟩;have:¬x=8:=by simpa using h
   rw[M2];simp[this]
 apply CW.cond rfl<;>intro h
 ·rw[Sj (by simpa using h)]
  clear h;refine TP ?_
  (refine fJ rfl rfl (fun h=>?_) (fun h=>?_))
  ·refine T5 ?_
   exact bi rfl rfl ⟨by rw[h];rfl,rfl⟩
  ·refine TT ?_
   exact bi rfl rfl ⟨by rw[h];rfl,rfl⟩
 ·rw[Si (by simpa using h)]
  refine Tx ?_;exact bj ⟨rfl,rfl⟩
def Bo(k n:Int)(l:List Ltl):(Ltl.mk k n l).k=k:=rfl
def Bq(k n:Int)(l:List Ltl):(Ltl.mk k n l).n=n:=rfl
def Bp(k n:Int)(l:List Ltl):(Ltl.mk k n l).kids=l:=rfl
def Hy{kk:Int->Int}{k n:Int}{kids:List Ltl}(h:ShT kk (.mk k n kids)):kk k=kids.length/\0<=n/\n<=63/\∀x∈kids,ShT kk x:=by
 cases h with
 |mk _ _ _ h1 h2 h3 h4=>exact⟨h1,h2,h3,h4⟩
def KM{nm:Int->ar}{k n:Int}{x y:Ltl}(a:k=5\/k=6\/k=8\/k=9):
  KL nm (.mk k n [x,y])=zI (iW k 0 x.k) (KL nm x)++[32]++HI k++[32]++zI (iW k 1 y.k) (KL nm y):=by
 rcases a with rfl|rfl|rfl|rfl<;>simp[KL,KO,yY]
def zK{x:Ltl}(h:rd w F r x){b:Nat}(c:Cells w b B r):Cells w b B [Te x.k]:=by
 obtain⟨ao,cap,rfl,_⟩:=RdT.sl h;intro j u a
 cases j with
 |zero=>exact c 0 u a
 |succ j=>simp at a
abbrev gk(w:World)(bw:Nat)(no:Option Addr)(len a:Nat)(b:Bool):Prop:=Blk w bw 254 [.slice no len a,.bool b]
def cU(t:Ltl):Prop:=∀(w:World) (F:Nat->Prop) (bw:Nat) (ao:Option Addr) (cap:Nat) (no:Option Addr) (c:Nat) (a:List ByteArray) (b:Bool),Sl w F ao cap t.kids->Sl w F no c a->(∀k,F k->k<w.heap.size)->¬F bw->gk w bw no a.length c b->
 Rt UA 156 [.pointer (some ⟨bw,0,none⟩),AR t.k t.n ao t.kids.length cap].toArray w fun v w'=>v=tV (KL (BV a) t)/\gk w' bw no a.length c (b||iP (BV a) t)/\w.grownBy w' (some bw)
def AA{t:Ltl}{i:Nat}(hi:i<t.kids.length)(N:cU t.kids[i])(V:t.kids[i].nodes<=1000)(w:World)(F:Nat->Prop)(bw:Nat)(ao:Option Addr)(cap:Nat)(no:Option Addr)(m:Nat)(c:List ByteArray)(b:Bool)
  (z:Sl w F ao cap t.kids) (hn:Sl w F no m c) (hF:∀k,F k->k<w.heap.size) (hnb:¬F bw) (K:gk w bw no c.length m b):
  Rt UA 227 [Tg bw,AR t.k t.n ao t.kids.length cap,Te (i:Int)].toArray w fun v w'=>v=tV (zI (iW t.k i t.kids[i].k) (KL (BV c) t.kids[i]))/\gk w' bw no c.length m (b||iP (BV c) t.kids[i])/\w.grownBy w' (some bw):=by
 have U:=z.len63;have R:=K.lt;have Q:=KN (BW c) t.kids[i];obtain⟨kb,koff,rfl,g,X,D,A⟩:=z.el i hi;refine dW Tryz.func227 Tryz.ntmps227 rfl rfl (T9 ?_);refine eJ fun s G l=>?_
 have j:∀k,F k->k<s.heap.size:=fun k d=>Qn (hF k d) l.size
 have x:Sl s F _ cap t.kids:=z.mono (fun k d=>l.block k (hF k d)) fun _ h=>h
 have B:Sl s F no m c:=hn.mono (fun k d=>l.block k (hF k d)) fun _ h=>h
 refine TJ ?_;refine fh x hi SX (fun u q P=>?_);obtain⟨ao',cap',rfl,O⟩:=P.ltl;refine eN (N s F bw ao' cap' no m c b O B j hnb (K.ext l)) ?_;rintro _ r ⟨rfl,H,f⟩
 have J:=G.kept f S6;have o:∀k,F k->k<r.heap.size:=fun k d=>Qn (j k d) f.size
 have C:r.heap[kb]?=w.heap[kb]?:=(f.block kb (j kb g) (fun e=>by cases e;exact hnb g)).trans (l.block kb (hF kb g));have E:Cells r kb (koff+i*sz Ltl) [Te t.kids[i].k]:=zK (Rep.mono A (fun k d=>(f.block k (j k d) (fun e=>by cases e;exact hnb d)).trans (l.block k (hF k d))) fun _ h=>h) (D.mono C);have S:w.grownBy r (some bw):=ue (l.grw (some bw)) f;generalize W:KL (BV c) t.kids[i]=T at*
 refine Ud ?_;refine dE (α:=Ltl) rfl rfl rfl rfl SM SM (Um ?_);refine QL.load (α:=Int) (F:=F) (y:=t.kids[i].k) rfl rfl rfl (o kb g) o (by rw[Nt];exact E) rfl ?_;rw[show Lb Int [Te t.kids[i].k]=Te t.kids[i].k from rfl];refine QL.call rfl rfl rfl (fun w' h=>Rt.mono (Aj w' t.k i t.kids[i].k) (fun v w'' I=>⟨I.1,I.2▸Ext.refl _⟩)) (QL.nil (fun M L=>?_));have p:w.grownBy M (some bw):=ue S (L.grw (some bw));have n:=H.ext L;unfold zI;refine TV ?_;apply CW.cond rfl<;>intro h
 ·rw[Sj h]
  refine Tw ?_;exact bj ⟨rfl,n,p⟩
 ·rw[Si (by rw[h];decide)]
  refine TL ?_;refine eR (a:=[40]) (b:=T) rfl rfl rfl rfl SU (eR (a:=[40]++T) (b:=[41]) rfl rfl rfl rfl SV (Tk ?_));exact bj ⟨rfl,n,p⟩
def AO:∀(m:Nat) (t:Ltl),t.nodes<=m->m<=1000->ShT zN t->cU t
 |0,t,hm,_,_=>by have:=t.nodes_pos;omega
 |m+1,.mk k n kids,hm,hm1,Y=>by
  intro w F bw ao cap no V c b hs hn hF hnb hb
  obtain⟨j,h0,h63,J⟩:=Hy Y;simp only[Ltl.nodes]at hm
  have C:∀i (hi:i<kids.length),kids[i].nodes<=m:=fun i hi=>by have:=Ltl.nodes_kid kids _ (OG hi);omega
  have ihk:∀i (hi:i<kids.length),cU kids[i]:=fun i hi=>AO m kids[i] (C i hi) SM (J _ (OG hi))
  have v:∀i (hi:i<kids.length),(KL (BV c) kids[i]).length<=8000:=fun i hi=>by have:=KN (BW c) kids[i];have:=C i hi;omega
  have hbl:=hb.lt;simp only[Bp]at hs
  simp only[Bo,Bq,Bp];refine dV Tryz.func156 Tryz.ntmps156 rfl rfl (T9 ?_);refine eJ fun s S M=>?_
  have r:∀k,F k->k<s.heap.size:=fun k j=>Qn (hF k j) M.size
  have I:Sl s F ao cap kids:=hs.mono (fun k j=>M.block k (hF k j)) fun _ h=>h
  have E:Sl s F no V c:=hn.mono (fun k j=>M.block k (hF k j)) fun _ h=>h
  have D:=hb.ext M;have p:w.grownBy s (some bw):=M.grw (some bw);have hl3:=S.lt;refine Ty ?_;apply CW.cond rfl<;>intro h
  ·obtain rfl:k=1:=by simpa using h
   obtain rfl:kids=[]:=N0 (by have:zN 1=0:=rfl;omega);refine Th ?_;exact bi rfl rfl ⟨rfl,by simpa[iP,iQ]using D,p⟩
  have k1:¬k=1:=by simpa using h
  refine T2 ?_;apply CW.cond rfl<;>intro h
  ·obtain rfl:k=2:=by simpa using h
   obtain rfl:kids=[]:=N0 (by have:zN 2=0:=rfl;omega);refine Th ?_;exact bi rfl rfl ⟨rfl,by simpa[iP,iQ]using D,p⟩
  have k2:¬k=2:=by simpa using h
  refine T2 ?_;apply CW.cond rfl<;>intro h
  ·obtain rfl:k=3:=by simpa using h
   obtain rfl:kids=[]:=N0 (by have:zN 3=0:=rfl;omega);refine Ud ?_;refine QL.call rfl rfl rfl (fun w' h=>AE w' ((E.mono (fun k j=>h.block k (r k j)) fun _ h=>h).lift fun k j=>Qn (r k j) h.size) n h0) (Uf ?_);refine QL.nil (fun B e2=>?_);have d:=D.ext e2;refine Tv ?_
   (refine fJ rfl rfl (fun h=>?_) (fun h=>?_))
   ·refine Uj ?_
    refine f_ d (fun W l A=>?_);refine Th ?_;refine bi rfl rfl ⟨by simp[KL,yY],?_,ue (ue p (e2.grw _)) A⟩;rw[h];exact l
   ·refine Uk ?_
    refine f_ d (fun W l A=>?_);refine Th ?_;refine bi rfl rfl ⟨by simp[KL,yY],?_,ue (ue p (e2.grw _)) A⟩;rw[h,show(false||iP (BV c) (.mk 3 n []))=((KB (BV c n)).data.toList==(⟨#[]⟩:ByteArray).data.toList) by rw[KE];simp[iP,iQ]];exact l
  have k3:¬k=3:=by simpa using h
  have u:∀K,zN K=1->k=K->∃x,kids=[x]:=fun K hK e=>OX.1 (by rw[e]at j;omega)
  have q:∀i (hi:i<kids.length),_:=fun i hi=>AA (t:=.mk k n kids) (i:=i) hi (ihk i hi) (by have:=C i hi;show kids[i].nodes<=1000;omega) s F bw ao cap no V c b I E r hnb D
  simp only[Bo,Bq,Bp]at q
  refine T2 ?_;apply CW.cond rfl<;>intro h
  ·have g:k=4:=by simpa using h
   obtain⟨x,rfl⟩:=u 4 rfl g;have o:=v 0 SQ;have G:=zJ (iW k ((0:Nat):Int) x.k) (KL (BV c) x);simp only[OD]at o
   refine TZ ?_;refine eN (q 0 SQ) ?_;rintro _ B ⟨rfl,d,f⟩
   simp only[OD]at d⊢
   refine eR (a:=[33]) rfl rfl rfl rfl SU (T5 ?_);subst g;exact bi rfl rfl ⟨by simp[KL,KO,yY],by simpa[iP,iQ]using d,ue p f⟩
  refine T2 ?_;apply CW.cond rfl<;>intro h
  ·have g:k=7:=by simpa using h
   obtain⟨x,rfl⟩:=u 7 rfl g;have o:=v 0 SQ;have G:=zJ (iW k ((0:Nat):Int) x.k) (KL (BV c) x);simp only[OD]at o
   refine TZ ?_;refine eN (q 0 SQ) ?_;rintro _ B ⟨rfl,d,f⟩
   simp only[OD]at d⊢
   refine eR (a:=[88,32]) rfl rfl rfl rfl SU (T5 ?_);subst g;exact bi rfl rfl ⟨by simp[KL,KO,yY],by simpa[iP,iQ]using d,ue p f⟩
  refine T2 ?_;apply CW.cond rfl<;>intro h
  ·have g:k=10:=by simpa using h
   obtain⟨x,rfl⟩:=u 10 rfl g;have o:=v 0 SQ;have G:=zJ (iW k ((0:Nat):Int) x.k) (KL (BV c) x);simp only[OD]at o
   refine TZ ?_;refine eN (q 0 SQ) ?_;rintro _ B ⟨rfl,d,f⟩
   simp only[OD]at d⊢
   refine eR (a:=[70,32]) rfl rfl rfl rfl SU (T5 ?_);subst g;exact bi rfl rfl ⟨by simp[KL,KO,yY],by simpa[iP,iQ]using d,ue p f⟩
  refine T2 ?_;apply CW.cond rfl<;>intro h
  ·have g:k=11:=by simpa using h
   obtain⟨x,rfl⟩:=u 11 rfl g;have o:=v 0 SQ;have G:=zJ (iW k ((0:Nat):Int) x.k) (KL (BV c) x);simp only[OD]at o
   refine TZ ?_;refine eN (q 0 SQ) ?_;rintro _ B ⟨rfl,d,f⟩
   simp only[OD]at d⊢
   refine eR (a:=[71,32]) rfl rfl rfl rfl SU (T5 ?_);subst g;exact bi rfl rfl ⟨by simp[KL,KO,yY],by simpa[iP,iQ]using d,ue p f⟩
  have Q:(k=5\/k=6\/k=8\/k=9)/\kids.length=2:=by
   rcases zO j with⟨_,e⟩|⟨_,e⟩|⟨M,e⟩
   ·omega
   ·simp only[RZ,RY]at*;omega
   ·exact⟨e,M⟩
  obtain⟨L,hk2⟩:=Q;obtain⟨x,y,rfl⟩:∃x y,kids=[x,y]:=by
   match kids,hk2 with
   |[x,y],_=>exact⟨x,y,rfl⟩
  have o:=v 0 SQ;have hly:=v 1 SQ;simp only[OD,OC]at o hly
  have hkx:=zJ (iW k ((0:Nat):Int) x.k) (KL (BV c) x);have G:=zJ (iW k ((1:Nat):Int) y.k) (KL (BV c) y);obtain⟨ki,rfl,hki,Z⟩:∃i:Nat,k=(i:Int)/\i<10/\Cq [BZ,BZ,BZ,BZ,BZ,tV [38],tV [47],BZ,tV [85],tV [82]] i=some (tV (HI k)):=by
   rcases L with rfl|rfl|rfl|rfl
   ·exact⟨5,rfl,by decide,rfl⟩
   ·exact⟨6,rfl,by decide,rfl⟩
   ·exact⟨8,rfl,by decide,rfl⟩
   ·exact⟨9,rfl,by decide,rfl⟩
  have hsl:(HI (ki:Int)).length<=1:=by unfold HI;(repeat' split)<;>decide
  generalize O:HI (ki:Int)=sg at*
  refine T3 ?_;refine eL (out:=[BZ,BZ,BZ,BZ,BZ,tV [38],tV [47],BZ,tV [85],tV [82]]) rfl rfl rfl rfl (Uh ?_);refine ft rfl rfl rfl rfl hki Z (T2 ?_);have U:Ext s (drew s):=Ext.drew s;have R:=S.ext U;refine aG (fun z:World=>z.heap[w.heap.size]?=(drew s).heap[w.heap.size]?) [(0,true),(1,true),(4,true),(7,true),(8,true),(2,false),(3,true),(5,true),(6,true),(9,false),(10,true),(11,true)] mixed SN rfl ?_;have T:∀z:World,(fun z:World=>z.heap[w.heap.size]?=(drew s).heap[w.heap.size]?) z->Blk z w.heap.size 32 [Te (ki:Int),Te n,.slice ao 2 cap]:=fun z hz=>hz.trans R
  refine Uq ?_;refine cx T rfl rfl rfl rfl rfl (Uq ?_);refine cx T rfl rfl rfl rfl rfl (cD rfl (eN (AA (t:=.mk (ki:Int) n [x,y]) (i:=0) (by simp[Bp]) (ihk 0 SQ) (by have:=C 0 SQ;show x.nodes<=1000;simp only[OD]at this;omega) (drew s) F bw ao cap no V c b (I.mono (fun k j=>U.block k (r k j)) fun _ h=>h) (E.mono (fun k j=>U.block k (r k j)) fun _ h=>h) r hnb (D.ext U)) ?_));rintro _ B ⟨rfl,d,f⟩
  have N:B.heap[w.heap.size]?=(drew s).heap[w.heap.size]?:=f.block _ hl3 S6;have hF2:∀k,F k->k<B.heap.size:=fun k j=>Qn (r k j) f.size
  have P:s.grownBy B (some bw):=ue (U.grw _) f;have H:∀k,F k->B.heap[k]?=s.heap[k]?:=fun k j=>P.block k (r k j) (fun e=>by cases e;exact hnb j)
  refine WL.nil (bf N ?_);simp only[Bo,Bp,OD]at d⊢
  refine ce (b:=[32]) rfl rfl rfl rfl rfl SU (ce (b:=sg) rfl rfl rfl rfl rfl SV (ce (b:=[32]) rfl rfl rfl rfl rfl SV (cD rfl (eN (AA (t:=.mk (ki:Int) n [x,y]) (i:=1) (by simp[Bp]) (ihk 1 SQ) (by have:=C 1 SQ;show y.nodes<=1000;simp only[OC,OD]at this;omega) B F bw ao cap no V c _ (I.mono H fun _ h=>h) (E.mono H fun _ h=>h) hF2 hnb d) ?_))));rintro _ W ⟨rfl,l,A⟩
  have X:W.heap[w.heap.size]?=(drew s).heap[w.heap.size]?:=(A.block _ (by have:=f.size;have:s.heap.size<=B.heap.size:=this;omega) S6).trans N;refine WL.nil (bf X ?_);simp only[Bo,Bp,OC,OD]at l⊢
  refine ce rfl rfl rfl rfl rfl SV (Uu ?_);refine TV ?_;refine bi rfl rfl ⟨by rw[KM L,O];rfl,?_,ue (ue p P) A⟩;rw[show(b||iP (BV c) (.mk (ki:Int) n [x,y]))=(b||iP (BV c) x||iP (BV c) y) by
   have:((ki:Int)==3)=false:=by rcases L with e|e|e|e<;>rw[e]<;>rfl
   simp[iP,iQ,this,Bool.or_assoc]]
  exact l
def AN(w0:World){ao:Option Addr}{cap:Nat}{t:Ltl}(o:Sl w0 (dl w0) ao cap t.kids)(hn:Sl w0 (dl w0) C B f):
  Rt UA 90 [AR t.k t.n ao t.kids.length cap,.slice C f.length B].toArray w0 fun v w'=>v=.tuple ⟨[tV (Ep t f).1,Te (Ep t f).2]⟩/\Ext w0 w':=by
 refine dV Tryz.func90 Tryz.ntmps90 rfl rfl ?_;unfold Ep;refine T9 ?_;refine eJ fun x b s=>?_
 refine TN ?_;refine eN (AP x (o.up s) S3) ?_;rintro _ n ⟨rfl,r⟩
 have b:=b.ext r;have e:=s.trans r;refine T2 ?_;apply CW.cond rfl<;>intro h
 ·rw[Sj (by simpa using h)]
  refine Tw ?_;exact bl rfl rfl rfl ⟨rfl,e⟩
 have p:(kD t 1 0).1=0:=by simpa using h
 rw[Si (by simpa using h)];obtain⟨i,y⟩:=kK t 1 0 p;have z:=(kJ t 1 0 p).2;refine TL ?_;refine eK ?_;refine eJ fun w c q=>?_
 have b:=b.ext q;have a:=e.trans q;refine TN ?_;refine eN (AO t.nodes t Ta SM i w (dl w0) n.heap.size ao cap C B f false (o.at a) (hn.at a) (fun k j=>Qn j a.size) (fun j=>by have h1:n.heap.size<w0.heap.size:=j;have:=e.size;omega) c) ?_;rintro _ u ⟨rfl,m,l⟩
 have d:Ext w0 u:=a.grown l a.size (fun g A=>by cases A;exact e.size);rw[M5]at m
 refine Tv ?_;apply CW.cond rfl<;>intro h
 ·rw[Sj h]
  refine Tw ?_;exact bl rfl rfl rfl ⟨rfl,d⟩
 ·rw[Si (by rw[h];decide)]
  refine Tx ?_;exact bl rfl rfl rfl ⟨rfl,d⟩
mutual
theorem ky:∀(t:Ltl) (d c:Int),(kh t d c).1=0->ShT zL t/\(kh t d c).2=c+t.nodes
 |.mk k n kids,d,c,h=>by
  simp only[kh]at h⊢
  split at h
  ·cases h
  split at h
  ·cases h
  split at h
  ·cases h
  rename_i h1 h2 h3;rw[Si h1,Si h2,Si h3];have⟨g1,g2⟩:=kr kids (d+1) (c+1) h;simp only[So]at h3
  refine⟨.mk k n kids SM SM SM g1,?_⟩;rw[g2];simp only[Ltl.nodes];omega
theorem kr:∀(l:List Ltl) (d c:Int),(kj l d c).1=0->(∀x∈l,ShT zL x)/\(kj l d c).2=c+Ltl.nodesL l
 |[],d,c,h=>⟨fun x a=>by(cases a),by simp[kj,Ltl.nodesL]⟩
 |y::r,d,c,h=>by
  simp only[kj]at h⊢
  split at h
  ·rename_i h1;exact absurd h h1
  rename_i h1;rw[Si h1];have⟨g1,g2⟩:=ky y d c (by simpa using h1);have⟨g3,g4⟩:=kr r d _ h;refine⟨fun x a=>?_,?_⟩
  ·rcases Pk.1 a with rfl|a
   ·exact g1
   ·exact g3 x a
  ·rw[g4,g2];simp only[Ltl.nodesL];omega
end
def txtC_bin{nm:Int->ar}{n:Int}{x y:Ltl}:
  KG nm (.mk 5 n [x,y])=zI (iV 5 0 x.k) (KG nm x)++[32,38,32]++zI (iV 5 1 y.k) (KG nm y)/\KG nm (.mk 6 n [x,y])=zI (iV 6 0 x.k) (KG nm x)++[32,47,32]++zI (iV 6 1 y.k) (KG nm y)/\
  KG nm (.mk 10 n [x,y])=[69,32,91]++KG nm x++[32,85,32]++KG nm y++[93]/\KG nm (.mk 14 n [x,y])=[65,32,91]++KG nm x++[32,85,32]++KG nm y++[93]:=by
 refine⟨?_,?_,?_,?_⟩<;>simp[KG,KJ,yW]
def KI{nm:Int->ar}{k n:Int}{x:Ltl}(a:k=4\/k=7\/k=8\/k=9\/k=11\/k=12\/k=13):KG nm (.mk k n [x])=HH k++zI (iV k 0 x.k) (KG nm x):=by
 rcases a with rfl|rfl|rfl|rfl|rfl|rfl|rfl<;>simp[KG,KJ,yW]
def iN{nm:Int->ar}{k n:Int}{x y:Ltl}(a:k≠3)(b:Bool):(b||iP nm (.mk k n [x,y]))=(b||iP nm x||iP nm y):=by
 have:(k==3)=false:=by simpa using a
 simp[iP,iQ,this,Bool.or_assoc]
def iM{nm:Int->ar}{k n:Int}{x:Ltl}(a:k≠3)(b:Bool):(b||iP nm (.mk k n [x]))=(b||iP nm x):=by
 have:(k==3)=false:=by simpa using a
 simp[iP,iQ,this]
instance:IsFd UA 258 0 0:=IsFd.of SN
instance:IsFd UA 258 1 1:=IsFd.of SN
instance:IsBd UA 258 [(0,1),(1,1)]:=IsBd.of SN
instance:IsZC UA 258 [.slice none 0 0,.bool false]:=IsZC.of (z:=.agg #[.slice none 0 0,.bool false]) SN rfl
instance:IsAr UA 331 14 9:=⟨Tryz.underlying331⟩
abbrev B0:Value:=.string ⟨#[]⟩
instance:IsZC UA 331 [B0,B0,B0,B0,B0,B0,B0,B0,B0,B0,B0,B0,B0,B0]:=IsZC.of (z:=.agg #[B0,B0,B0,B0,B0,B0,B0,B0,B0,B0,B0,B0,B0,B0]) SN rfl
def mE(w0:World){k:Int}(c:k=4\/k=7\/k=8\/k=9\/k=11\/k=12\/k=13):Rt UA 230 [Te k].toArray w0 fun v w'=>v=tV (HH k)/\Ext w0 w':=by
 obtain⟨ki,rfl,b,a⟩:∃i:Nat,k=(i:Int)/\i<14/\Cq [B0,B0,B0,B0,tV [33],B0,B0,tV [69,88,32],tV [69,70,32],tV [69,71,32],B0,tV [65,88,32],tV [65,70,32],tV [65,71,32]] i=some (tV (HH k)):=by
  rcases c with rfl|rfl|rfl|rfl|rfl|rfl|rfl
  ·exact⟨4,rfl,by decide,rfl⟩
  ·exact⟨7,rfl,by decide,rfl⟩
  ·exact⟨8,rfl,by decide,rfl⟩
  ·exact⟨9,rfl,by decide,rfl⟩
  ·exact⟨11,rfl,by decide,rfl⟩
  ·exact⟨12,rfl,by decide,rfl⟩
  ·exact⟨13,rfl,by decide,rfl⟩
 generalize HH (ki:Int)=sg at*
 refine dU Tryz.func230 Tryz.ntmps230 rfl rfl (T2 ?_);refine eL (out:=[B0,B0,B0,B0,tV [33],B0,B0,tV [69,88,32],tV [69,70,32],tV [69,71,32],B0,tV [65,88,32],tV [65,70,32],tV [65,71,32]]) rfl rfl rfl rfl (Ue ?_);refine ft rfl rfl rfl rfl b a (Tk ?_);exact bj ⟨rfl,Ext.refl _⟩
def jX(w0:World)(k i x:Int):Rt UA 272 [Te k,Te i,Te x].toArray w0 fun v w'=>v=.bool (iV k i x)/\w0=w':=by
 refine dW Tryz.func272 Tryz.ntmps272 rfl rfl ?_;unfold iV;refine TI ?_;apply CW.cond rfl<;>intro h
 ·have a:x=5:=by simpa using h
  rw[Sj a];clear h;refine TP ?_
  (refine fJ rfl rfl (fun h=>?_) (fun h=>?_))
  ·refine TT ?_
   exact bi rfl rfl ⟨by rw[h];rfl,rfl⟩
  ·rw[h]
   clear h;refine Ue ?_
   (refine fJ rfl rfl (fun h=>?_) (fun h=>?_))
   ·refine T5 ?_
    exact bi rfl rfl ⟨by rw[h];rfl,rfl⟩
   ·refine TT ?_
    exact bi rfl rfl ⟨by rw[h];rfl,rfl⟩
 have c:¬x=5:=by simpa using h
 rw[Si c];refine T2 ?_;apply CW.cond rfl<;>intro h
 ·have h:x=6:=by simpa using h
  rw[Sj h];clear h;refine TP ?_
  (refine fJ rfl rfl (fun h=>?_) (fun h=>?_))
  ·refine T5 ?_
   exact bi rfl rfl ⟨by rw[h];rfl,rfl⟩
  ·refine TT ?_
   exact bi rfl rfl ⟨by rw[h];rfl,rfl⟩
 have b:¬x=6:=by simpa using h
 rw[Si b];refine Tx ?_;exact bj ⟨rfl,rfl⟩
abbrev gl(w:World)(bw:Nat)(no:Option Addr)(len a:Nat)(b:Bool):Prop:=Blk w bw 258 [.slice no len a,.bool b]
def au(t:Ltl):Prop:=∀(w:World) (F:Nat->Prop) (bw:Nat) (ao:Option Addr) (cap:Nat) (no:Option Addr) (c:Nat) (a:List ByteArray) (b:Bool),Sl w F ao cap t.kids->Sl w F no c a->(∀k,F k->k<w.heap.size)->¬F bw->gl w bw no a.length c b->
 Rt UA 157 [.pointer (some ⟨bw,0,none⟩),AR t.k t.n ao t.kids.length cap].toArray w fun v w'=>v=tV (KG (BV a) t)/\gl w' bw no a.length c (b||iP (BV a) t)/\w.grownBy w' (some bw)
def lJ{t:Ltl}{i:Nat}(hi:i<t.kids.length)(N:au t.kids[i])(V:t.kids[i].nodes<=1000)(w:World)(F:Nat->Prop)(bw:Nat)(ao:Option Addr)(cap:Nat)(no:Option Addr)(m:Nat)(c:List ByteArray)(b:Bool)
  (z:Sl w F ao cap t.kids) (hn:Sl w F no m c) (hF:∀k,F k->k<w.heap.size) (hnb:¬F bw) (K:gl w bw no c.length m b):
  Rt UA 229 [Tg bw,AR t.k t.n ao t.kids.length cap,Te (i:Int)].toArray w fun v w'=>v=tV (zI (iV t.k i t.kids[i].k) (KG (BV c) t.kids[i]))/\gl w' bw no c.length m (b||iP (BV c) t.kids[i])/\w.grownBy w' (some bw):=by
 have U:=z.len63;have R:=K.lt;have Q:=KH (BW c) t.kids[i];obtain⟨kb,koff,rfl,g,X,D,A⟩:=z.el i hi;refine dW Tryz.func229 Tryz.ntmps229 rfl rfl (T9 ?_);refine eJ fun s G l=>?_
 have j:∀k,F k->k<s.heap.size:=fun k d=>Qn (hF k d) l.size
 have x:Sl s F _ cap t.kids:=z.mono (fun k d=>l.block k (hF k d)) fun _ h=>h
 have B:Sl s F no m c:=hn.mono (fun k d=>l.block k (hF k d)) fun _ h=>h
 refine TJ ?_;refine fh x hi SX (fun u q P=>?_);obtain⟨ao',cap',rfl,O⟩:=P.ltl;refine eN (N s F bw ao' cap' no m c b O B j hnb (K.ext l)) ?_;rintro _ r ⟨rfl,H,f⟩
 have J:=G.kept f S6;have o:∀k,F k->k<r.heap.size:=fun k d=>Qn (j k d) f.size
 have C:r.heap[kb]?=w.heap[kb]?:=(f.block kb (j kb g) (fun e=>by cases e;exact hnb g)).trans (l.block kb (hF kb g));have E:Cells r kb (koff+i*sz Ltl) [Te t.kids[i].k]:=zK (Rep.mono A (fun k d=>(f.block k (j k d) (fun e=>by cases e;exact hnb d)).trans (l.block k (hF k d))) fun _ h=>h) (D.mono C);have S:w.grownBy r (some bw):=ue (l.grw (some bw)) f;generalize W:KG (BV c) t.kids[i]=T at*
 refine Ud ?_;refine dE (α:=Ltl) rfl rfl rfl rfl SM SM (Um ?_);refine QL.load (α:=Int) (F:=F) (y:=t.kids[i].k) rfl rfl rfl (o kb g) o (by rw[Nt];exact E) rfl ?_;rw[show Lb Int [Te t.kids[i].k]=Te t.kids[i].k from rfl];refine QL.call rfl rfl rfl (fun w' h=>Rt.mono (jX w' t.k i t.kids[i].k) (fun v w'' I=>⟨I.1,I.2▸Ext.refl _⟩)) (QL.nil (fun M L=>?_));have p:w.grownBy M (some bw):=ue S (L.grw (some bw));have n:=H.ext L;unfold zI;refine TV ?_;apply CW.cond rfl<;>intro h
 ·rw[Sj h]
  refine Tw ?_;exact bj ⟨rfl,n,p⟩
 ·rw[Si (by rw[h];decide)]
  refine TL ?_;refine eR (a:=[40]) (b:=T) rfl rfl rfl rfl SU (eR (a:=[40]++T) (b:=[41]) rfl rfl rfl rfl SV (Tk ?_));exact bj ⟨rfl,n,p⟩
def lR(w:World){b:Bool}(q:Sl w F C B f)(hF:∀k,F k->k<w.heap.size)(o:gl w a C f.length B b)(n:Int)(z:0<=n):
  Rt UA 228 [Tg a,Te n].toArray w fun v w'=>v=tV (BV f n)/\gl w' a C f.length B (b||BV f n==[])/\w.grownBy w' (some a):=by
 have hn:=q.lift hF;have A:=hn.len63;refine dV Tryz.func228 Tryz.ntmps228 rfl rfl ?_;obtain⟨i,rfl⟩:=Nn z;refine T2 ?_;apply CW.cond rfl<;>intro h
 ·have d:(i:Int)=63:=by simpa using h
  refine Tw ?_;refine bi rfl rfl ?_;unfold BV;rw[Sj d];exact⟨rfl,by rw[show(b||I7==[])=b by simp[I7]];exact o,World.grownBy.refl _ _⟩
 have d:¬(i:Int)=63:=by simpa using h
 have y:∀{w':World} {σ:Sg},BV f (i:Int)=[]->Ext w w'->True:=fun _ _=>trivial
 refine Uc ?_
 (refine dJ rfl rfl (fun h=>?_) (fun h=>?_))
 ·have h1:(i:Int)>=(f.length:Int):=by simpa using h
  refine Un ?_;refine QL.nil (fun s m=>?_);have c:=o.ext m;refine TQ ?_;refine f_ c (fun r l j=>?_);refine Tw ?_;refine bi rfl rfl ?_;unfold BV;rw[Si d,Sj h1];exact⟨rfl,by simpa using l,ue (m.grw _) j⟩
 have h1:¬(i:Int)>=(f.length:Int):=by simpa using h
 have hi:i<f.length:=by omega
 refine Um ?_;refine dB rfl rfl rfl rfl rfl S3 hn hi SX (fun t u g=>?_);obtain⟨rfl,_⟩:=g.str;refine QL.call rfl rfl rfl (fun w' h=>dg w' f[i]) (Uf ?_)
 (refine dJ rfl rfl (fun h=>?_) (fun h=>?_))
 ·refine Un ?_
  refine QL.nil (fun s m=>?_);have c:=o.ext m;refine TQ ?_;refine f_ c (fun r l j=>?_);refine Tw ?_;refine bi rfl rfl ?_;unfold BV;rw[Si d,Si h1,Sj (by rw[Nt,sU hi];simpa using h)];exact⟨rfl,by simpa using l,ue (m.grw _) j⟩
 have h2:¬Bz f[i]=false:=by simpa using h
 refine Um ?_;refine dB rfl rfl rfl rfl rfl S3 hn hi SX (fun t u g=>?_);obtain⟨rfl,_⟩:=g.str;refine QL.call rfl rfl rfl (fun w' h=>Rt.mono (yy w' f[i] (hn.up h)) (fun v w'' x=>⟨x.1,x.2▸Ext.refl _⟩)) (Uf ?_);refine QL.nil (fun s m=>?_);have c:=o.ext m;refine TV ?_;apply CW.cond rfl<;>intro h
 ·refine TY ?_
  refine f_ c (fun r l j=>?_);refine Tw ?_;refine bi rfl rfl ?_;unfold BV;rw[Si d,Si h1,Si (by rw[Nt,sU hi];exact h2),Sj (by rw[Nt,sU hi,<-xO];simpa using h)];exact⟨rfl,by simpa using l,ue (m.grw _) j⟩
 refine TS ?_;refine fh (hn.up m) hi SX (fun t u g=>?_);obtain⟨rfl,_⟩:=g.str;refine Tk ?_;refine bi rfl rfl ?_;have p:BA f[i].data.toList=true:=by simpa using h2
 have e:BV f (i:Int)=f[i].data.toList:=by
  unfold BV;rw[Si d,Si h1,Si (by rw[Nt,sU hi];exact h2),Si (by rw[Nt,sU hi,<-xO];simpa using h)];rw[Nt,sU hi]
 rw[e];exact⟨by rw[tV,KD],by rw[show(f[i].data.toList==[])=false from by rw[RY];exact(BB p).1,Nb];exact c,m.grw _⟩
def mF:∀(m:Nat) (t:Ltl),t.nodes<=m->m<=1000->ShT zL t->au t
 |0,t,hm,_,_=>by have:=t.nodes_pos;omega
 |m+1,.mk k n kids,hm,hm1,hsh=>by
  intro w F bw ao cap no J g b hs hn hF hnb hb
  obtain⟨r,h0,h63,X⟩:=Hy hsh;simp only[Ltl.nodes]at hm
  have G:∀i (hi:i<kids.length),kids[i].nodes<=m:=fun i hi=>by have:=Ltl.nodes_kid kids _ (OG hi);omega
  have ihk:∀i (hi:i<kids.length),au kids[i]:=fun i hi=>mF m kids[i] (G i hi) SM (X _ (OG hi))
  have C:∀i (hi:i<kids.length),(KG (BV g) kids[i]).length<=8000:=fun i hi=>by have:=KH (BW g) kids[i];have:=G i hi;omega
  have hbl:=hb.lt;simp only[Bp]at hs
  simp only[Bo,Bq,Bp];refine dV Tryz.func157 Tryz.ntmps157 rfl rfl (T9 ?_);refine eJ fun d hb3 Y=>?_
  have B:∀k,F k->k<d.heap.size:=fun k r=>Qn (hF k r) Y.size
  have hs1:Sl d F ao cap kids:=hs.mono (fun k r=>Y.block k (hF k r)) fun _ h=>h
  have hn1:Sl d F no J g:=hn.mono (fun k r=>Y.block k (hF k r)) fun _ h=>h
  have U:=hb.ext Y;have T:w.grownBy d (some bw):=Y.grw (some bw);have hl3:=hb3.lt;have I:∀K,zL K=2->k=K->∃x y,kids=[x,y]:=fun K hK e=>by
   have:kids.length=2:=by rw[e]at r;omega
   match kids,this with
   |[x,y],_=>exact⟨x,y,rfl⟩
  have hD:Ext d (drew d):=Ext.drew d;have hb3d:=hb3.ext hD;have P:=U.ext hD;have D:Sl (drew d) F ao cap kids:=hs1.mono (fun k r=>hD.block k (B k r)) fun _ h=>h
  have j:Sl (drew d) F no J g:=hn1.mono (fun k r=>hD.block k (B k r)) fun _ h=>h
  have V:∀k,F k->k<(drew d).heap.size:=B;have O:w.grownBy (drew d) (some bw):=ue T (hD.grw _);have hw3:w.heap.size≠bw:=by omega
  have s:∀{z Z:World},(z.heap[w.heap.size]?=(drew d).heap[w.heap.size]?/\d.heap.size<=z.heap.size/\∀k,F k->z.heap[k]?=(drew d).heap[k]?)->z.grownBy Z (some bw)->(Z.heap[w.heap.size]?=(drew d).heap[w.heap.size]?/\d.heap.size<=Z.heap.size/\∀k,F k->Z.heap[k]?=(drew d).heap[k]?):=
   fun {z Z} R hg=>⟨(hg.block _ SM (fun e=>hw3 (QV e))).trans R.1,Qk R.2.1 hg.size,fun k r=>(hg.block k (Qn (B k r) R.2.1) (fun e=>by cases e;exact hnb r)).trans (R.2.2 k r)⟩
  have A:∀z:World,(fun z:World=>z.heap[w.heap.size]?=(drew d).heap[w.heap.size]?/\d.heap.size<=z.heap.size/\∀k,F k->z.heap[k]?=(drew d).heap[k]?) z->Blk z w.heap.size 35 [Te k,Te n,.slice ao kids.length cap]:=fun z R=>R.1.trans hb3d
  have v:(fun z:World=>z.heap[w.heap.size]?=(drew d).heap[w.heap.size]?/\d.heap.size<=z.heap.size/\∀k,F k->z.heap[k]?=(drew d).heap[k]?) (drew d):=⟨rfl,Qj _,fun _ _=>rfl⟩;refine Ty ?_;apply CW.cond rfl<;>intro h
  ·obtain rfl:k=1:=by simpa using h
   obtain rfl:kids=[]:=N0 (by have:zL 1=0:=rfl;omega);refine Th ?_;exact bi rfl rfl ⟨rfl,by simpa[iP,iQ]using U,T⟩
  have k1:¬k=1:=by simpa using h
  clear h;refine T2 ?_;apply CW.cond rfl<;>intro h
  ·obtain rfl:k=2:=by simpa using h
   obtain rfl:kids=[]:=N0 (by have:zL 2=0:=rfl;omega);refine Th ?_;exact bi rfl rfl ⟨rfl,by simpa[iP,iQ]using U,T⟩
  have k2:¬k=2:=by simpa using h
  clear h;refine T2 ?_;apply CW.cond rfl<;>intro h
  ·obtain rfl:k=3:=by simpa using h
   obtain rfl:kids=[]:=N0 (by have:zL 3=0:=rfl;omega);refine TY ?_;refine eN (lR d hn1 B U n h0) ?_;rintro _ Q ⟨rfl,p,o⟩
   refine T5 ?_;exact bi rfl rfl ⟨by simp[KG,yW],by simpa[iP,iQ]using p,ue T o⟩
  have k3:¬k=3:=by simpa using h
  clear h;refine T2 ?_;apply CW.cond rfl<;>intro h
  ·obtain rfl:k=5:=by simpa using h
   obtain⟨x,y,rfl⟩:=I 5 rfl rfl;have E:=C 0 SQ;have H:=C 1 SQ;simp only[OD,OC]at E H
   have hkx:=zJ (iV 5 ((0:Nat):Int) x.k) (KG (BV g) x);have hky:=zJ (iV 5 ((1:Nat):Int) y.k) (KG (BV g) y);refine T9 ?_;refine aG (fun z:World=>z.heap[w.heap.size]?=(drew d).heap[w.heap.size]?/\d.heap.size<=z.heap.size/\∀k,F k->z.heap[k]?=(drew d).heap[k]?) [(0,true),(1,true),(4,true),(5,true),(2,false),(3,true),(6,false),(7,true),(8,true)] mixed SN v (Uq ?_);refine cx A rfl rfl rfl rfl rfl (Uq ?_);refine cx A rfl rfl rfl rfl rfl (cD rfl (eN (lJ (t:=.mk 5 n [x,y]) (i:=0) (by simp[Bp]) (ihk 0 SQ) (by have:=G 0 SQ;show x.nodes<=1000;simp only[OD]at this;omega) (drew d) F bw ao cap no J g b D j V hnb P) ?_));rintro _ Q ⟨rfl,p,o⟩
   have c:=s v o;refine WL.nil (bf c ?_);simp only[Bo,Bp,OD]at p⊢
   refine ce (b:=[32,38,32]) rfl rfl rfl rfl rfl SU (cD rfl (eN (lJ (t:=.mk 5 n [x,y]) (i:=1) (by simp[Bp]) (ihk 1 SQ) (by have:=G 1 SQ;show y.nodes<=1000;simp only[OC,OD]at this;omega) Q F bw ao cap no J g _ (D.mono c.2.2 fun _ h=>h) (j.mono c.2.2 fun _ h=>h) (fun k r=>Qn (B k r) c.2.1) hnb p) ?_));rintro _ w3 ⟨rfl,f,l⟩
   refine WL.nil (bf (s c l) ?_);simp only[Bo,Bp,OC,OD]at f⊢
   refine ce rfl rfl rfl rfl rfl SV (Uu ?_);refine Tp ?_;refine bi rfl rfl ⟨by rw[txtC_bin.1];rfl,?_,ue (ue O o) l⟩;rw[iN SP];exact f
  have k5:¬k=5:=by simpa using h
  clear h;refine T2 ?_;apply CW.cond rfl<;>intro h
  ·obtain rfl:k=6:=by simpa using h
   obtain⟨x,y,rfl⟩:=I 6 rfl rfl;have E:=C 0 SQ;have H:=C 1 SQ;simp only[OD,OC]at E H
   have hkx:=zJ (iV 6 ((0:Nat):Int) x.k) (KG (BV g) x);have hky:=zJ (iV 6 ((1:Nat):Int) y.k) (KG (BV g) y);refine T9 ?_;refine aG (fun z:World=>z.heap[w.heap.size]?=(drew d).heap[w.heap.size]?/\d.heap.size<=z.heap.size/\∀k,F k->z.heap[k]?=(drew d).heap[k]?) [(0,true),(1,true),(4,true),(5,true),(2,false),(3,true),(6,false),(7,true),(8,true)] mixed SN v (Uq ?_);refine cx A rfl rfl rfl rfl rfl (Uq ?_);refine cx A rfl rfl rfl rfl rfl (cD rfl (eN (lJ (t:=.mk 6 n [x,y]) (i:=0) (by simp[Bp]) (ihk 0 SQ) (by have:=G 0 SQ;show x.nodes<=1000;simp only[OD]at this;omega) (drew d) F bw ao cap no J g b D j V hnb P) ?_));rintro _ Q ⟨rfl,p,o⟩
   have c:=s v o;refine WL.nil (bf c ?_);simp only[Bo,Bp,OD]at p⊢
   refine ce (b:=[32,47,32]) rfl rfl rfl rfl rfl SU (cD rfl (eN (lJ (t:=.mk 6 n [x,y]) (i:=1) (by simp[Bp]) (ihk 1 SQ) (by have:=G 1 SQ;show y.nodes<=1000;simp only[OC,OD]at this;omega) Q F bw ao cap no J g _ (D.mono c.2.2 fun _ h=>h) (j.mono c.2.2 fun _ h=>h) (fun k r=>Qn (B k r) c.2.1) hnb p) ?_));rintro _ w3 ⟨rfl,f,l⟩
   refine WL.nil (bf (s c l) ?_);simp only[Bo,Bp,OC,OD]at f⊢
   refine ce rfl rfl rfl rfl rfl SV (Uu ?_);refine Tp ?_;refine bi rfl rfl ⟨by rw[txtC_bin.2.1];rfl,?_,ue (ue O o) l⟩;rw[iN SP];exact f
  have k6:¬k=6:=by simpa using h
  clear h;refine T2 ?_;apply CW.cond rfl<;>intro h
  ·obtain rfl:k=10:=by simpa using h
   obtain⟨x,y,rfl⟩:=I 10 rfl rfl;have E:=C 0 SQ;have H:=C 1 SQ;simp only[OD,OC]at E H
   have N:∀z:World,(fun z:World=>z.heap[w.heap.size]?=(drew d).heap[w.heap.size]?/\d.heap.size<=z.heap.size/\∀k,F k->z.heap[k]?=(drew d).heap[k]?) z->∀b,F b->z.heap[b]?=(drew d).heap[b]?:=fun z R=>R.2.2
   refine T9 ?_;refine aG (fun z:World=>z.heap[w.heap.size]?=(drew d).heap[w.heap.size]?/\d.heap.size<=z.heap.size/\∀k,F k->z.heap[k]?=(drew d).heap[k]?) [(0,true),(1,true),(2,true),(3,true),(4,true),(8,true),(9,true),(10,true),(11,true),(12,true),(5,false),(6,true),(7,true),(13,false),(14,true),(15,true),(16,true)] mixed SN v (Uq ?_);refine cA A rfl rfl rfl rfl rfl (cg (w:=drew d) (k:=0) N rfl rfl rfl rfl rfl rfl rfl D SQ SX (fun u q W=>?_));obtain⟨ao0,cap0,rfl,M⟩:=W.ltl;refine Uq ?_;refine cA A rfl rfl rfl rfl rfl (cg (w:=drew d) (k:=1) N rfl rfl rfl rfl rfl rfl rfl D SQ SX (fun u q W=>?_));obtain⟨ao1,cap1,rfl,L⟩:=W.ltl;simp only[OC,OD]at M L⊢
   refine cD rfl (eN (ihk 0 SQ (drew d) F bw ao0 cap0 no J g b M j V hnb P) ?_);rintro _ Q ⟨rfl,p,o⟩
   have c:=s v o;refine WL.nil (bf c ?_);simp only[OD]at p⊢
   refine ce (a:=[69,32,91]) rfl rfl rfl rfl rfl SU (ce (b:=[32,85,32]) rfl rfl rfl rfl rfl SV (cD rfl (eN (ihk 1 SQ Q F bw ao1 cap1 no J g _ (L.mono c.2.2 fun _ h=>h) (j.mono c.2.2 fun _ h=>h) (fun k r=>Qn (B k r) c.2.1) hnb p) ?_)));rintro _ w3 ⟨rfl,f,l⟩
   refine WL.nil (bf (s c l) ?_);simp only[OC,OD]at f⊢
   refine ce rfl rfl rfl rfl rfl SV (ce (b:=[93]) rfl rfl rfl rfl rfl SV (Uu ?_));refine Tp ?_;refine bi rfl rfl ⟨by rw[txtC_bin.2.2.1],?_,ue (ue O o) l⟩;rw[iN SP];exact f
  have k10:¬k=10:=by simpa using h
  clear h;refine T2 ?_;apply CW.cond rfl<;>intro h
  ·obtain rfl:k=14:=by simpa using h
   obtain⟨x,y,rfl⟩:=I 14 rfl rfl;have E:=C 0 SQ;have H:=C 1 SQ;simp only[OD,OC]at E H
   have N:∀z:World,(fun z:World=>z.heap[w.heap.size]?=(drew d).heap[w.heap.size]?/\d.heap.size<=z.heap.size/\∀k,F k->z.heap[k]?=(drew d).heap[k]?) z->∀b,F b->z.heap[b]?=(drew d).heap[b]?:=fun z R=>R.2.2
   refine T9 ?_;refine aG (fun z:World=>z.heap[w.heap.size]?=(drew d).heap[w.heap.size]?/\d.heap.size<=z.heap.size/\∀k,F k->z.heap[k]?=(drew d).heap[k]?) [(0,true),(1,true),(2,true),(3,true),(4,true),(8,true),(9,true),(10,true),(11,true),(12,true),(5,false),(6,true),(7,true),(13,false),(14,true),(15,true),(16,true)] mixed SN v (Uq ?_);refine cA A rfl rfl rfl rfl rfl (cg (w:=drew d) (k:=0) N rfl rfl rfl rfl rfl rfl rfl D SQ SX (fun u q W=>?_));obtain⟨ao0,cap0,rfl,M⟩:=W.ltl;refine Uq ?_;refine cA A rfl rfl rfl rfl rfl (cg (w:=drew d) (k:=1) N rfl rfl rfl rfl rfl rfl rfl D SQ SX (fun u q W=>?_));obtain⟨ao1,cap1,rfl,L⟩:=W.ltl;simp only[OC,OD]at M L⊢
   refine cD rfl (eN (ihk 0 SQ (drew d) F bw ao0 cap0 no J g b M j V hnb P) ?_);rintro _ Q ⟨rfl,p,o⟩
   have c:=s v o;refine WL.nil (bf c ?_);simp only[OD]at p⊢
   refine ce (a:=[65,32,91]) rfl rfl rfl rfl rfl SU (ce (b:=[32,85,32]) rfl rfl rfl rfl rfl SV (cD rfl (eN (ihk 1 SQ Q F bw ao1 cap1 no J g _ (L.mono c.2.2 fun _ h=>h) (j.mono c.2.2 fun _ h=>h) (fun k r=>Qn (B k r) c.2.1) hnb p) ?_)));rintro _ w3 ⟨rfl,f,l⟩
   refine WL.nil (bf (s c l) ?_);simp only[OC,OD]at f⊢
   refine ce rfl rfl rfl rfl rfl SV (ce (b:=[93]) rfl rfl rfl rfl rfl SV (Uu ?_));refine Tp ?_;refine bi rfl rfl ⟨by rw[txtC_bin.2.2.2],?_,ue (ue O o) l⟩;rw[iN SP];exact f
  have k14:¬k=14:=by simpa using h
  clear h;have S:(k=4\/k=7\/k=8\/k=9\/k=11\/k=12\/k=13)/\kids.length=1:=by
   rcases zM r with⟨_,e⟩|⟨Y,e⟩|⟨_,e⟩
   ·omega
   ·exact⟨e,Y⟩
   ·omega
  obtain⟨S,hk1⟩:=S;obtain⟨x,rfl⟩:=OX.1 hk1;have E:=C 0 SQ;simp only[OD]at E
  have hkx:=zJ (iV k ((0:Nat):Int) x.k) (KG (BV g) x);have hsl:(HH k).length<=3:=by unfold HH;(repeat' split)<;>decide
  refine T3 ?_;refine aG (fun z:World=>z.heap[w.heap.size]?=(drew d).heap[w.heap.size]?/\d.heap.size<=z.heap.size/\∀k,F k->z.heap[k]?=(drew d).heap[k]?) [(0,true),(1,true),(3,true),(4,true),(2,false),(5,false),(6,true),(7,true)] mixed SN v (Uq ?_);refine cA A rfl rfl rfl rfl rfl (Uq ?_);refine cx A rfl rfl rfl rfl rfl (cD rfl (eN (mE (drew d) S) ?_));rintro _ Q ⟨rfl,e2⟩
  have c:=s v (e2.grw (some bw));refine WL.nil (bf c (cD rfl (eN (lJ (t:=.mk k n [x]) (i:=0) (by simp[Bp]) (ihk 0 SQ) (by have:=G 0 SQ;show x.nodes<=1000;simp only[OD]at this;omega) Q F bw ao cap no J g b (D.mono c.2.2 fun _ h=>h) (j.mono c.2.2 fun _ h=>h) (fun k r=>Qn (B k r) c.2.1) hnb (P.ext e2)) ?_)));rintro _ w3 ⟨rfl,f,l⟩
  refine WL.nil (bf (s c l) ?_);simp only[Bo,Bp,OD]at f⊢
  refine ce rfl rfl rfl rfl rfl SM (Uu ?_);refine TV ?_;refine bi rfl rfl ⟨by rw[KI S];rfl,?_,ue (ue O (e2.grw _)) l⟩;rw[iM k3];exact f
def mC(w0:World){ao:Option Addr}{cap:Nat}{t:Ltl}(o:Sl w0 (dl w0) ao cap t.kids)(hn:Sl w0 (dl w0) C B f):
  Rt UA 91 [AR t.k t.n ao t.kids.length cap,.slice C f.length B].toArray w0 fun v w'=>v=.tuple ⟨[tV (Eo t f).1,Te (Eo t f).2]⟩/\Ext w0 w':=by
 refine dV Tryz.func91 Tryz.ntmps91 rfl rfl ?_;unfold Eo;refine T9 ?_;refine eJ fun x b s=>?_
 refine TN ?_;refine eN (mG x (o.up s) S3) ?_;rintro _ n ⟨rfl,r⟩
 have b:=b.ext r;have e:=s.trans r;refine T2 ?_;apply CW.cond rfl<;>intro h
 ·rw[Sj (by simpa using h)]
  refine Tw ?_;exact bl rfl rfl rfl ⟨rfl,e⟩
 have p:(kh t 1 0).1=0:=by simpa using h
 rw[Si (by simpa using h)];obtain⟨i,y⟩:=ky t 1 0 p;have z:=(ku t 1 0 p).2;refine TL ?_;refine eK ?_;refine eJ fun w c q=>?_
 have b:=b.ext q;have a:=e.trans q;refine TN ?_;refine eN (mF t.nodes t Ta SM i w (dl w0) n.heap.size ao cap C B f false (o.at a) (hn.at a) (fun k j=>Qn j a.size) (fun j=>by have h1:n.heap.size<w0.heap.size:=j;have:=e.size;omega) c) ?_;rintro _ u ⟨rfl,m,l⟩
 have d:Ext w0 u:=a.grown l a.size (fun g A=>by cases A;exact e.size);rw[M5]at m
 refine Tv ?_;apply CW.cond rfl<;>intro h
 ·rw[Sj h]
  refine Tw ?_;exact bl rfl rfl rfl ⟨rfl,d⟩
 ·rw[Si (by rw[h];decide)]
  refine Tx ?_;exact bl rfl rfl rfl ⟨rfl,d⟩
abbrev FN(r:cS)(lo:Option Addr)(a:Nat)(b:Option Addr)(c:Nat):Value:=.agg [.string r.1,.int .i64 r.2.1,
 .int .i64 r.2.2.1.1,.int .i64 r.2.2.1.2.1,.int .i64 r.2.2.1.2.2.1,.int .i64 r.2.2.1.2.2.2.1,.int .i64 r.2.2.1.2.2.2.2.1,.int .i64 r.2.2.1.2.2.2.2.2.1,.int .i64 r.2.2.1.2.2.2.2.2.2,
 .int .i64 r.2.2.2.1.1,.int .i64 r.2.2.2.1.2.1,.int .i64 r.2.2.2.1.2.2.1,.int .i64 r.2.2.2.1.2.2.2,
 .int .i64 r.2.2.2.2.1.k,.int .i64 r.2.2.2.2.1.n,.slice lo r.2.2.2.2.1.kids.length a,.int .i64 r.2.2.2.2.2.k,.int .i64 r.2.2.2.2.2.n,.slice b r.2.2.2.2.2.kids.length c].toArray
def Rd.rule{r:cS}(h:Rd w F v r):∃lo a b c,v=FN r lo a b c/\Sl w F lo a r.2.2.2.2.1.kids/\Sl w F b c r.2.2.2.2.2.kids/\r.1.size<=maxLen:=by
 obtain⟨c1,d1,rfl,h1,k1⟩:=h.pr;obtain⟨c2,d2,rfl,h2,k2⟩:=Fd k1;obtain⟨c3,d3,rfl,h3,k3⟩:=Fd k2;obtain⟨c4,d4,rfl,h4,k4⟩:=Fd k3;obtain⟨c5,d5,rfl,t,k5⟩:=Fd k4;obtain⟨lo,a,rfl,q⟩:=RdT.sl t;obtain⟨b,c,rfl,s⟩:=RdT.sl k5;obtain⟨p1,M,rfl,p,g1⟩:=Fd h3;obtain⟨p2,L,rfl,o,g2⟩:=Fd g1;obtain⟨C,K,rfl,n,g3⟩:=Fd g2;obtain⟨B,J,rfl,m,g4⟩:=Fd g3;obtain⟨A,I,rfl,l,g5⟩:=Fd g4;obtain⟨z,H,rfl,k,u⟩:=Fd g5;obtain⟨y,G,rfl,j,f⟩:=Fd h4;obtain⟨x,E,rfl,i,e⟩:=Fd f;obtain⟨t3,D,rfl,g,d⟩:=Fd e;refine⟨lo,a,b,c,?_,q,s,h1.2⟩;rw[h1.1,E7 h2,E7 p,E7 o,E7 n,E7 m,E7 l,E7 k,E7 u,E7 j,E7 i,E7 g,E7 d];rfl
instance:IsFd UA 37 0 0:=IsFd.of SN
instance:IsFd UA 37 1 1:=IsFd.of SN
instance:IsFd UA 37 2 2:=IsFd.of SN
instance:IsFd UA 37 3 9:=IsFd.of SN
instance:IsFd UA 37 4 13:=IsFd.of SN
instance:IsFd UA 37 5 16:=IsFd.of SN
instance:IsC UA 37 19 true:=IsC.of SN RA rfl
def FF(w0:World)(hn:Sl w0 (dl w0) C B f)(n:Int)(s:Bool):
  Rt UA 93 [Te n,.slice C f.length B,.bool s].toArray w0 fun v w'=>v=tV (FH f n s)/\Ext w0 w':=by
 have r:=hn.len63;refine dW Tryz.func93 Tryz.ntmps93 rfl rfl ?_;have a:(n<0\/n>=(f.length:Int)\/n>=63)->¬(n=63/\s=true)->FH f n s=[]:=fun h p=>by
  unfold FH;rw[Si p,Sj];rcases h with h|h|h
  ·exact .inl h
  ·exact .inr (.inl h)
  ·exact .inr (.inr (.inl h))
 refine T2 ?_
 (refine fJ rfl rfl (fun h=>?_) (fun h=>?_))
 ·have d:n=63:=by simpa using h
  cases s with
  |true=>
   refine TA ?_;exact bi rfl rfl ⟨by unfold FH;rw[Sj ⟨d,rfl⟩];rfl,Ext.refl _⟩
  |false=>
   rw[a (.inr (.inr SM)) SQ];have hd:decide (n<0)=false:=R7 SM;have m:decide (n>=63)=true:=R9 SM;refine T4 ?_;rw[hd];refine Ui ?_
   (refine fJ rfl rfl (fun h=>?_) (fun h=>?_))
   ·refine TA ?_
    exact bj ⟨rfl,Ext.refl _⟩
   ·refine Ue ?_
    rw[m];refine TA ?_;exact bj ⟨rfl,Ext.refl _⟩
 have d:¬n=63:=by simpa using h
 have c:¬(n=63/\s=true):=fun h=>d h.1
 refine Ua ?_
 (refine fJ rfl rfl (fun h=>?_) (fun h=>?_))
 ·rw[a (.inl (by simpa using h)) c]
  refine TA ?_;exact bj ⟨rfl,Ext.refl _⟩
 have o:¬n<0:=by simpa using h
 obtain⟨i,rfl⟩:=Nn (show 0<=n by omega);clear h;refine Ui ?_
 (refine fJ rfl rfl (fun h=>?_) (fun h=>?_))
 ·rw[a (.inr (.inl (by simpa using h))) c]
  refine TA ?_;exact bj ⟨rfl,Ext.refl _⟩
 have h1:¬(i:Int)>=(f.length:Int):=by simpa using h
 have hi:i<f.length:=by omega
 clear h;refine Ue ?_
 (refine fJ rfl rfl (fun h=>?_) (fun h=>?_))
 ·rw[a (.inr (.inr (by simpa using h))) c]
  refine TA ?_;exact bj ⟨rfl,Ext.refl _⟩
 have h2:¬(i:Int)>=63:=by simpa using h
 clear h a;have g:f.getD (i:Int).toNat ⟨#[]⟩=f[i]:=by rw[Nt,sU hi]
 unfold FH;rw[Si c,g];refine Ue ?_;refine fh hn hi SX (fun j k b=>?_);obtain⟨rfl,_⟩:=b.str;refine eN (dg w0 f[i]) ?_;rintro _ l ⟨rfl,e⟩
 refine Ue ?_
 (refine fJ rfl rfl (fun h=>?_) (fun h=>?_))
 ·rw[Sj (.inr (.inr (.inr (.inl (by simpa using h)))))]
  refine TA ?_;exact bj ⟨rfl,e⟩
 have h3:¬Bz f[i]=false:=by simpa using h
 clear h;refine Ue ?_;refine fh (hn.up e) hi SX (fun j k b=>?_);obtain⟨rfl,_⟩:=b.str;refine eN (yy l f[i] (hn.up e)) ?_;rintro _ q ⟨rfl,rfl⟩
 rw[xO];refine Tl ?_;apply CW.cond rfl<;>intro h
 ·rw[Sj (.inr (.inr (.inr (.inr (by simpa using h)))))]
  refine Tw ?_;exact bj ⟨rfl,e⟩
 have h4:¬xN f f[i].data.toList≠(i:Int):=by simpa using h
 rw[Si (by simp only[So];exact⟨o,h1,h2,h3,h4⟩)];refine TL ?_;refine fh (hn.up e) hi SX (fun j k b=>?_);obtain⟨rfl,_⟩:=b.str;refine Tk ?_;exact bi rfl rfl ⟨by rw[tV,KD],e⟩
def gR(w0:World)(k:Int):Rt UA 89 [Te k].toArray w0 fun v w'=>v=.bool (gQ k)/\w0=w':=by
 refine dU Tryz.func89 Tryz.ntmps89 rfl rfl (Tw ?_);exact bj ⟨rfl,rfl⟩
def FK(w0:World){s:Bool}(hn:Sl w0 (dl w0) C B f)(h3:Blk w0 a 66 [.slice C f.length B])(d:Blk w0 K 4 [.bool s])(n:Int):
  Rt UA 92 [Te n,Tg a,Tg K].toArray w0 fun v w'=>v=.bool (FH f n s==[])/\Ext w0 w':=by
 refine dW Tryz.func92 Tryz.ntmps92 rfl rfl (TJ ?_);refine eN (FF w0 hn n s) ?_;rintro _ c ⟨rfl,b⟩
 refine Tk ?_;exact bi rfl rfl ⟨by rw[show(KB (FH f n s)).data.toList=FH f n s from KE _],b⟩
def iH(w0:World)(pt:cQ):Rt UA 87 [DM pt].toArray w0 fun v w'=>(∃x u,v=.tuple ⟨[x,u]⟩/\Own w' w0.heap.size 3 di x (Ds pt)/\Own w' w0.heap.size 3 di u (GJ pt))/\Ext w0 w':=by
 obtain⟨k,sc,P,S,Q,R,c⟩:=pt;refine dU Tryz.func87 Tryz.ntmps87 rfl rfl (T9 ?_);refine eJ fun t y r=>?_
 refine TJ ?_;refine WL.lit (F:=di) (ys:=[P]) rfl rfl rfl rfl rfl ⟨Rd.mkInt _ _ _,trivial⟩ (by show 1*1<=16777216;decide) S0 (fun j ho2 l=>?_);have q:Ext t j:=(MW _ _).grown l Ta S5;have f:=y.ext q;have a:=r.trans q;have s:=r.size;generalize n:Value.slice (some ⟨t.heap.size,0,none⟩) 1 1=ov at*
 refine Ue ?_;apply WL.nil;apply bE;refine aB (S:=Value) (fun v=>[(1,Tg w0.heap.size),(2,v),(3,.slice none 0 0)])
  (fun v w=>Own w w0.heap.size 3 di v (Ds (k,sc,P,S,Q,R,c))/\Blk w w0.heap.size 27 [Te k,Te sc,Te P,Te S,Te Q,Te R,Te c]/\Ext w0 w) ?_ ?_
 ·refine TY ?_
  have i:(k=5\/k=6)->Ds (k,sc,P,S,Q,R,c)=[S,P]:=fun h=>by unfold Ds;rw[Sj h]
  have o:¬(k=5\/k=6)->Ds (k,sc,P,S,Q,R,c)=[P]:=fun h=>by unfold Ds;rw[Si h]
  (refine fJ rfl rfl (fun h=>?_) (fun h=>?_))
  ·refine TW ?_
   refine WL.lit (F:=di) (ys:=[S,P]) rfl rfl rfl rfl rfl ⟨Rd.mkInt _ _ _,Rd.mkInt _ _ _,trivial⟩ (by show 2*1<=16777216;decide) S0 (fun g ho3 d=>?_);have e:Ext j g:=(MW _ _).grown d Ta S5;refine TK ?_;exact aZ _ SL ⟨by rw[i (.inl (by simpa using h))];exact ho3.low a.size,f.ext e,a.trans e⟩
  ·have A:¬k=5:=by simpa using h
   refine TH ?_;apply CW.cond rfl<;>intro h
   ·have z:k=6:=by simpa using h
    refine TG ?_;refine WL.lit (F:=di) (ys:=[S,P]) rfl rfl rfl rfl rfl ⟨Rd.mkInt _ _ _,Rd.mkInt _ _ _,trivial⟩ (by show 2*1<=16777216;decide) S0 (fun g ho3 d=>?_);have e:Ext j g:=(MW _ _).grown d Ta S5;refine TK ?_;exact aZ _ SL ⟨by rw[i (.inr z)];exact ho3.low a.size,f.ext e,a.trans e⟩
   ·have z:¬k=6:=by simpa using h
    refine T0 ?_;exact aZ ov SL ⟨by rw[o SM];exact ho2.low s,f,a⟩
 clear ho2 l f a q n ov y r s;rintro ov j ⟨ho2,f,a⟩
 refine aB (S:=Value) (fun v=>[(2,ov),(3,v)]) (fun v w=>Own w w0.heap.size 3 di ov (Ds (k,sc,P,S,Q,R,c))/\Own w w0.heap.size 3 di v (GJ (k,sc,P,S,Q,R,c))/\Ext w0 w) ?_ ?_
 ·refine Ty ?_
  apply CW.cond rfl<;>intro h
  ·have h2:sc=2:=by simpa using h
   refine TG ?_;refine WL.lit (F:=di) (ys:=[R]) rfl rfl rfl rfl rfl ⟨Rd.mkInt _ _ _,trivial⟩ (by show 1*1<=16777216;decide) S0 (fun g ho3 d=>?_);have e:Ext j g:=(MW _ _).grown d Ta S5;refine TK ?_;exact aZ _ SL ⟨ho2.extN e,by unfold GJ;rw[Sj h2];exact ho3.low a.size,a.trans e⟩
  have h2:¬sc=2:=by simpa using h
  clear h;refine T2 ?_;apply CW.cond rfl<;>intro h
  ·have h3:sc=3:=by simpa using h
   refine TG ?_;refine WL.lit (F:=di) (ys:=[Q]) rfl rfl rfl rfl rfl ⟨Rd.mkInt _ _ _,trivial⟩ (by show 1*1<=16777216;decide) S0 (fun g ho3 d=>?_);have e:Ext j g:=(MW _ _).grown d Ta S5;refine TK ?_;exact aZ _ SL ⟨ho2.extN e,by unfold GJ;rw[Si h2,Sj h3];exact ho3.low a.size,a.trans e⟩
  have h3:¬sc=3:=by simpa using h
  clear h;refine az [(1,Tg w0.heap.size),(2,ov),(3,.slice none 0 0),(32,.bool (decide (sc=4\/sc=5)))] ?_ ?_
  ·refine T2 ?_
   apply CW.cond rfl<;>intro h
   ·refine T0 ?_
    refine aX ⟨rfl,rfl,rfl,(R5 (fun b=>some (Value.bool b)) ?_),trivial⟩;have:sc=4:=by simpa using h
    simp[this]
   ·refine T2 ?_
    refine aX ⟨rfl,rfl,rfl,(R5 (fun b=>some (Value.bool b)) ?_),trivial⟩;have:¬sc=4:=by simpa using h
    rw[M2];simp[this]
  apply CW.cond rfl<;>intro h
  ·have h4:sc=4\/sc=5:=by simpa using h
   refine TG ?_;refine WL.lit (F:=di) (ys:=[Q,R]) rfl rfl rfl rfl rfl ⟨Rd.mkInt _ _ _,Rd.mkInt _ _ _,trivial⟩ (by show 2*1<=16777216;decide) S0 (fun g ho3 d=>?_);have e:Ext j g:=(MW _ _).grown d Ta S5;refine TK ?_;exact aZ _ SL ⟨ho2.extN e,by unfold GJ;rw[Si h2,Si h3,Sj h4];exact ho3.low a.size,a.trans e⟩
  ·have h4:¬(sc=4\/sc=5):=by simpa using h
   refine TD ?_;exact aZ _ SL ⟨ho2,by unfold GJ;rw[Si h2,Si h3,Si h4];exact Own.nil,a⟩
 rintro v g ⟨ho3,m,p⟩
 refine Tw ?_;exact bl rfl rfl rfl ⟨⟨_,_,rfl,ho3,m⟩,p⟩
def py(x:cQ)(w:World):(Op.equalIn 10000 27 (DM x) (DM DN)).run UA w=.ok (x==DN) w:=by
 have l:=Rw;have a3:=Q8;have z3:=Rg;have hS:Tryz.prog.underlying 27=some (.struct (Tryz.prog.fieldsOf 27)):=by kernel_rfl
 have j:Tryz.prog.stoodInHeld 27=false:=by kernel_rfl
 obtain⟨a,b,c,d,e,f,g⟩:=x;simp only[DM,DN];rw[show(10000:Nat)=9999+1 from rfl,run_equalIn_agg w 9999 27 _ _ hS j];simp only[Program.fieldsOf,Rs]
 go_simp
 by_cases h1:a=0
 ·by_cases h2:b=0
  ·by_cases h3:c=0
   ·by_cases h4:d=0
    ·by_cases h:e=0
     ·by_cases i:f=0
      ·by_cases k:g=0<;>simp[h1,h2,h3,h4,h,i,k]
      ·simp[h1,h2,h3,h4,h,i]
     ·simp[h1,h2,h3,h4,h]
    ·simp[h1,h2,h3,h4]
   ·simp[h1,h2,h3]
  ·simp[h1,h2]
 ·simp[h1]
def Gj(x:cQ)(p q:Operand)(w:World):((do eqGuard .neq 27 p q (DM x) (DM DN);binOp .neq 27 (DM x) (DM DN):Sem Value)).run UA w=.ok (.bool (x != DN)) w:=by
 have a:Tryz.prog.eqGuardType Tryz.prog.depth 27=false:=by kernel_rfl
 rw[Q4];have b:(eqGuard .neq 27 p q (DM x) (DM DN)).run UA w=.ok () w:=run_eqGuard_agg w .neq 27 p q _ _ a;have h:=py x w;rw[b,Q2];unfold DM at h⊢
 rw[run_neq_struct,h];rfl
def pz(x:cW)(w:World):(Op.equalIn 10000 29 (J5 x) (J5 J6)).run UA w=.ok (x==J6) w:=by
 have f:=Rw;have a3:=Q8;have z3:=Rg;have hS:Tryz.prog.underlying 29=some (.struct (Tryz.prog.fieldsOf 29)):=by kernel_rfl
 have e:Tryz.prog.stoodInHeld 29=false:=by kernel_rfl
 obtain⟨a,b,c,d⟩:=x;simp only[J5,J6];rw[show(10000:Nat)=9999+1 from rfl,run_equalIn_agg w 9999 29 _ _ hS e];simp only[Program.fieldsOf,Rv]
 go_simp
 by_cases h1:a=0
 ·by_cases h2:b=0
  ·by_cases h3:c=0
   ·by_cases h4:d=0<;>simp[h1,h2,h3,h4]
   ·simp[h1,h2,h3]
  ·simp[h1,h2]
 ·simp[h1]
def Gk(x:cW)(p q:Operand)(w:World):((do eqGuard .neq 29 p q (J5 x) (J5 J6);binOp .neq 29 (J5 x) (J5 J6):Sem Value)).run UA w=.ok (.bool (x != J6)) w:=by
 have a:Tryz.prog.eqGuardType Tryz.prog.depth 29=false:=by kernel_rfl
 rw[Q4];have b:(eqGuard .neq 29 p q (J5 x) (J5 J6)).run UA w=.ok () w:=run_eqGuard_agg w .neq 29 p q _ _ a;have h:=pz x w;rw[b,Q2];unfold J5 at h⊢
 rw[run_neq_struct,h];rfl
section
variable {Q:Exit->Act->World->Prop}{n:Nat}{σ:Sg}{w:World}{L rest:List Oper}{d:Nat}{ty:TypeId}{pos:String}{af:Array Edge}{g:Option (Nat×Bool)}{yt:TypeId}{x y:Operand}
theorem fU{a:cQ}(i:gd L σ ⟨some d,.binOp .neq 27 x y yt,ty,pos,af,g⟩=some true)(hd:Nat.ble (d+1) n=true)(f:ev σ x=some (DM a))(e:ev σ y=some (DM DN))
  (h:WL UA L Q rest n ((d,.bool (a != DN))::σ) w):WL UA L Q (⟨some d,.binOp .neq 27 x y yt,ty,pos,af,g⟩::rest) n σ w:=by
 refine WL.run i hd (fun c b=>?_) h;have:=Gj a x y w;simp only[execOp,b.ev f,b.ev e];rw[Q4,this];rfl
theorem fV{a:cW}(i:gd L σ ⟨some d,.binOp .neq 29 x y yt,ty,pos,af,g⟩=some true)(hd:Nat.ble (d+1) n=true)(f:ev σ x=some (J5 a))(e:ev σ y=some (J5 J6))
  (h:WL UA L Q rest n ((d,.bool (a != J6))::σ) w):WL UA L Q (⟨some d,.binOp .neq 29 x y yt,ty,pos,af,g⟩::rest) n σ w:=by
 refine WL.run i hd (fun c b=>?_) h;have:=Gk a x y w;simp only[execOp,b.ev f,b.ev e];rw[Q4,this];rfl
end
def FL(w0:World){r:cS}{lo:Option Addr}(hl:Sl w0 (dl w0) lo B r.2.2.2.2.1.kids)(hc:Sl w0 (dl w0) C a r.2.2.2.2.2.kids)(hn:Sl w0 (dl w0) D K f):
  Rt UA 52 [FN r lo B C a,.slice D f.length K].toArray w0 fun v w'=>v=Te (DD r f)/\Ext w0 w':=by
 obtain⟨nm,so,pt,tp,lt,ct⟩:=r;dsimp only at hl hc⊢
 refine dV Tryz.func52 Tryz.ntmps52 rfl rfl ?_;refine T9 ?_;refine eJ fun w1 j e1=>?_
 skip;refine eJ fun O b e2=>?_
 have j:=j.ext e2;have X:=e1.trans e2;have l3:=b.lt;refine T2 ?_;refine eF (fun w3 l e3=>?_);refine f_ l (fun N l P=>?_);have Z:Ext O N:=e3.grown P e3.size SZ;have j:=j.ext Z;have b:=b.ext Z;have I:=X.trans Z;have z1:=e1.size;have z2:=e2.size;have l7:=l.lt;clear P e3;apply WL.nil;apply bE;have W:so=1->iG (nm,so,pt,tp,lt,ct)=Ds pt++GJ pt:=fun h=>by unfold iG;rw[Sj h]
 have J:so=2->iG (nm,so,pt,tp,lt,ct)=(if gQ tp.1=true then [tp.2.1]else [tp.2.1,tp.2.2.1]):=fun h=>by unfold iG;rw[Si (by show¬so=1;omega),Sj h]
 have A:so≠1->so≠2->iG (nm,so,pt,tp,lt,ct)=[]:=fun h h'=>by unfold iG;rw[Si h,Si h']
 refine aB (S:=Value) (fun v=>[(2,Tg w0.heap.size),(3,Tg w1.heap.size),(5,Te (DE (nm,so,pt,tp,lt,ct) f)),(6,v),(7,Tg O.heap.size)])
  (fun v w=>Rd w (dl w) v (iG (nm,so,pt,tp,lt,ct))/\Blk w w1.heap.size 66 [.slice D f.length K]/\Blk w O.heap.size 4 [.bool (decide (so=1))]/\Ext w0 w) ?_ ?_
 ·have t:∀w:World,Rd w (dl w) (Value.slice none 0 0) ([]:List Int):=fun w=>(Sl.zero (α:=Int) w (dl w)).rd
  refine Ty ?_;apply CW.cond rfl<;>intro h
  ·have h1:so=1:=by simpa using h
   clear h;refine TG ?_;refine eN (ol N pt) ?_;rintro _ w5 ⟨rfl,k⟩
   have j:=j.ext k;have b:=b.ext k;have l:=l.ext k;have m:=I.trans k;refine TW ?_;refine eN (iH w5 pt) ?_;rintro _ Y ⟨⟨u1,u2,rfl,ho1,ho2⟩,p⟩
   have j:=j.ext p;have b:=b.ext p;have l:=l.ext p;have s:=m.trans p;have hl1:(Ds pt).length<=2:=by unfold Ds;split<;>simp
   have hl2:(GJ pt).length<=2:=by unfold GJ;(repeat' split)<;>simp
   obtain⟨so2,sc2,rfl,hs2⟩:=ho2.oldN.sl;have z5:=k.size;have z4:=Z.size;refine T2 ?_;refine WL.app (F:=di) rfl rfl rfl rfl ho1 hs2.srcN p.size S0 SS SM (fun v' w7 ho7 o _=>?_);have hnb:∀g,u1.ownBlock=some g->w5.heap.size<=g:=fun g G=>(ho1.lt g G).1
   have z:=b.kept o (fun e=>by have:=hnb _ e.symm;omega);have u:=l.kept o (fun e=>by have:=hnb _ e.symm;omega);have H:Ext w0 w7:=s.grown o s.size (fun g G=>by have:=hnb g G;omega);refine Ue ?_;refine f_ u (fun w8 R M=>?_);have U:=z.kept M S6;have hE8:Ext w0 w8:=H.grown M H.size (fun g G=>by cases G;have:=X.size;omega);have ho8:=ho7.keptN M (fun g G e=>by have:=(ho7.lt g G).1;have:=QV e;omega);refine TK ?_;refine aZ v' ⟨rfl,rfl,?_,rfl,rfl,trivial⟩ ⟨by rw[W h1];exact ho8.oldN,U,by rw[R9 h1];exact R,hE8⟩;unfold DE;rw[Sj h1];rfl
  have h1:¬so=1:=by simpa using h
  clear h;have c:Blk N O.heap.size 4 [.bool (decide (so=1))]:=by rw[R7 h1];exact l
  refine T2 ?_;apply CW.cond rfl<;>intro h
  ·have h2:so=2:=by simpa using h
   clear h;refine TG ?_;refine eN (nB N tp) ?_;rintro _ w5 ⟨rfl,k⟩
   have j:=j.ext k;have b:=b.ext k;have c:=c.ext k;have m:=I.trans k;refine TJ ?_;refine WL.lit (F:=di) (ys:=[tp.2.1]) rfl rfl rfl rfl rfl ⟨Rd.mkInt _ _ _,trivial⟩ (by show 1*1<=16777216;decide) S0 (fun Y ho6 hg6=>?_);have p:Ext w5 Y:=(MW _ _).grown hg6 Ta S5;have j:=j.ext p;have b:=b.ext p;have c:=c.ext p;have s:=m.trans p;refine TJ ?_;refine eN (gR Y tp.1) ?_;rintro _ _ ⟨rfl,rfl⟩
   refine Tl ?_;apply CW.cond rfl<;>intro h
   ·have ha:¬gQ tp.1=true:=by simpa using h
    refine TY ?_;refine eH (F:=di) (yv:=tp.2.2.1) rfl rfl SX rfl rfl SX ho6 S_ p.size S0 SP (by unfold maxLen;simp) SQ (fun v' w7 q ho7 o hnb=>?_);have z:=b.kept o (fun e=>by have:=QV e;have:w1.heap.size=w5.heap.size:=this;have:=k.size;omega);have u:=c.kept o (fun e=>by have:=QV e;have:O.heap.size=w5.heap.size:=this;have:=k.size;omega);have H:Ext w0 w7:=s.grown o s.size (fun g G=>by cases G;exact m.size);refine TK ?_;refine aZ v' ⟨rfl,rfl,?_,rfl,rfl,trivial⟩ ⟨by rw[J h2,Si ha];exact ho7.oldN,z,u,H⟩;unfold DE;rw[Si h1,Sj h2];rfl
   ·have ha:gQ tp.1=true:=by simpa using h
    refine TD ?_;refine aZ _ ⟨rfl,rfl,?_,rfl,rfl,trivial⟩ ⟨by rw[J h2,Sj ha];exact ho6.oldN,b,c,s⟩;unfold DE;rw[Si h1,Sj h2];rfl
  have h2:¬so=2:=by simpa using h
  clear h;refine T2 ?_;apply CW.cond rfl<;>intro h
  ·have h3:so=3:=by simpa using h
   clear h;refine TG ?_;refine eN (AN N (hl.up I) (hn.up I)) ?_;rintro _ w5 ⟨rfl,k⟩
   refine TK ?_;refine aZ (.slice none 0 0) ⟨rfl,rfl,?_,rfl,rfl,trivial⟩ ⟨by rw[A h1 h2];exact t _,b.ext k,c.ext k,I.trans k⟩;unfold DE;rw[Si h1,Si h2,Sj h3];rfl
  have h3:¬so=3:=by simpa using h
  clear h;refine T2 ?_;apply CW.cond rfl<;>intro h
  ·have h4:so=4:=by simpa using h
   clear h;refine TG ?_;refine eN (mC N (hc.up I) (hn.up I)) ?_;rintro _ w5 ⟨rfl,k⟩
   refine TK ?_;refine aZ (.slice none 0 0) ⟨rfl,rfl,?_,rfl,rfl,trivial⟩ ⟨by rw[A h1 h2];exact t _,b.ext k,c.ext k,I.trans k⟩;unfold DE;rw[Si h1,Si h2,Si h3,Sj h4];rfl
  ·have h4:¬so=4:=by simpa using h
   refine TD ?_;refine aZ (.slice none 0 0) ⟨rfl,rfl,?_,rfl,rfl,trivial⟩ ⟨by rw[A h1 h2];exact t _,b,c,I⟩;unfold DE;rw[Si h1,Si h2,Si h3,Si h4];rfl
 rintro lv w5 ⟨hlv,V,T,m⟩
 obtain⟨ao,cap,rfl,hsl⟩:=hlv.sl;unfold DD;generalize DE (nm,so,pt,tp,lt,ct) f=E at*
 generalize iG (nm,so,pt,tp,lt,ct)=at' at*
 dsimp only;refine TP ?_
 (refine fJ rfl rfl (fun h=>?_) (fun h=>?_))
 ·have h0:E=0:=by simpa using h
  clear h;refine Uj ?_;refine eN (ma w5 (fun n=>FH f n (decide (so=1))==[]) hsl (fun w hw i hi=>FnV.mk (cs:=[_,_]) (FK w (hn.up (m.trans hw)) (V.ext hw) (T.ext hw) at'[i]))) ?_;rintro _ Y ⟨rfl,p⟩
  refine Tl ?_;apply CW.cond rfl<;>intro h
  ·rw[Sj ⟨h0,h⟩]
   refine Tw ?_;exact bj ⟨rfl,m.trans p⟩
  ·rw[Si (by rw[h];simp)]
   refine Tx ?_;exact bj ⟨rfl,m.trans p⟩
 ·have h0:¬E=0:=by simpa using h
  rw[Si (fun h=>h0 h.1)];refine Ua ?_;exact bj ⟨rfl,m⟩
def Df(r:cS):Bool:=(r.2.1 != 1&&r.2.2.1 != DN)||(r.2.1 != 2&&r.2.2.2.1 != J6)
def Dg(r:cS):Bool:=Df r||(r.2.1 != 3&&qE r.2.2.2.2.1)
def Di(r:cS):Dh r=(Dg r||(r.2.1 != 4&&qE r.2.2.2.2.2)):=rfl
def E0(w0:World){r:cS}{lo:Option Addr}{k:Nat}(l:Sl w0 (dl w0) lo B r.2.2.2.2.1.kids)(m:Sl w0 (dl w0) C K r.2.2.2.2.2.kids)(hn:Sl w0 (dl w0) D k f):
  Rt UA 22 [FN r lo B C K,.slice D f.length k].toArray w0 fun v w'=>v=Te (k8 r f)/\Ext w0 w':=by
 refine dV Tryz.func22 Tryz.ntmps22 rfl rfl ?_;have q:=l.len63;have s:=m.len63;refine T9 ?_;refine eJ fun p e n=>?_
 refine TJ ?_;refine eN (dg p r.1) ?_;rintro _ o ⟨rfl,j⟩
 have e:=e.ext j;have c:=n.trans j;unfold k8;have d:(Bz r.1=false\/r.2.1<1\/r.2.1>4)->(if Bz r.1=false\/r.2.1<1\/r.2.1>4 then 1 else if DD r f≠0 then DD r f else if Dh r=true then 1 else 0)=(1:Int):=fun h=>Sj h
 refine Ue ?_
 (refine fJ rfl rfl (fun h=>?_) (fun h=>?_))
 ·rw[d (.inl (by simpa using h))]
  refine TA ?_;exact bj ⟨rfl,c⟩
 have h1:¬Bz r.1=false:=by simpa using h
 clear h;refine Uh ?_
 (refine fJ rfl rfl (fun h=>?_) (fun h=>?_))
 ·rw[d (.inr (.inl (by simpa using h)))]
  refine TA ?_;exact bj ⟨rfl,c⟩
 have h2:¬r.2.1<1:=by simpa using h
 clear h;refine TH ?_;apply CW.cond rfl<;>intro h
 ·rw[d (.inr (.inr (by simpa using h)))]
  refine Tw ?_;exact bj ⟨rfl,c⟩
 have h3:¬r.2.1>4:=by simpa using h
 clear h d;rw[Si (by simp only[So];exact⟨h1,h2,h3⟩)];refine TE ?_;refine eN (FL o (r:=r) (l.up c) (m.up c) (hn.up c)) ?_;rintro _ u ⟨rfl,i⟩
 have t:=e.ext i;have g:=c.trans i;generalize DD r f=E at*
 refine T2 ?_;apply CW.cond rfl<;>intro h
 ·rw[Sj (by simpa using h)]
  refine Tw ?_;exact bj ⟨rfl,g⟩
 rw[Si (by simpa using h)];clear h e i j n c;apply CW.skip;apply bE;refine az [(2,Tg w0.heap.size),(6,.bool (Df r))] ?_ ?_
 ·unfold Df
  refine TY ?_
  (refine fJ rfl rfl (fun h=>?_) (fun h=>?_))
  ·rw[h]
   refine Uk ?_;refine WL.build (parts:=[]) rfl rfl rfl rfl (fU (a:=r.2.2.1) rfl rfl rfl rfl (Ue ?_))
   (refine fJ rfl rfl (fun h=>?_) (fun h=>?_))
   ·rw[h]
    refine Ti ?_;exact aX SL
   ·rw[h]
    refine Uh ?_
    (refine fJ rfl rfl (fun h=>?_) (fun h=>?_))
    ·rw[h]
     refine Uk ?_;refine WL.build (parts:=[]) rfl rfl rfl rfl (fV (a:=r.2.2.2.1) rfl rfl rfl rfl (TK ?_));exact aX SL
    ·rw[h]
     refine Ti ?_;exact aX SL
  ·rw[h]
   refine Uj ?_
   (refine fJ rfl rfl (fun h=>?_) (fun h=>?_))
   ·rw[h]
    refine Uk ?_;refine WL.build (parts:=[]) rfl rfl rfl rfl (fV (a:=r.2.2.2.1) rfl rfl rfl rfl (TK ?_));exact aX SL
   ·rw[h]
    refine Ti ?_;exact aX SL
 refine az [(2,Tg w0.heap.size),(6,.bool (Dg r))] ?_ ?_
 ·unfold Dg qE
  refine TP ?_
  (refine fJ rfl rfl (fun h=>?_) (fun h=>?_))
  ·rw[h]
   refine Ti ?_;exact aX SL
  rw[h];refine Uh ?_
  (refine fJ rfl rfl (fun h=>?_) (fun h=>?_))
  ·rw[h]
   refine Uh ?_
   (refine fJ rfl rfl (fun h=>?_) (fun h=>?_))
   ·rw[h]
    refine Ti ?_;exact aX SL
   rw[h];refine Uh ?_
   (refine fJ rfl rfl (fun h=>?_) (fun h=>?_))
   ·rw[h]
    refine Ti ?_;exact aX SL
   rw[h];refine TH ?_;refine aX ⟨rfl,(R5 (fun b=>some (Value.bool b)) ?_),trivial⟩;rw[M2];simp
  ·rw[h]
   refine Ti ?_;exact aX SL
 rw[Di];unfold qE;refine TP ?_
 (refine fJ rfl rfl (fun h=>?_) (fun h=>?_))
 ·rw[h]
  refine TA ?_;exact bj ⟨rfl,g⟩
 rw[h];clear h;refine Uh ?_
 (refine fJ rfl rfl (fun h=>?_) (fun h=>?_))
 ·rw[h]
  refine Uh ?_
  (refine fJ rfl rfl (fun h=>?_) (fun h=>?_))
  ·rw[h]
   refine TA ?_;exact bj ⟨rfl,g⟩
  rw[h];refine Uh ?_
  (refine fJ rfl rfl (fun h=>?_) (fun h=>?_))
  ·rw[h]
   refine TA ?_;exact bj ⟨rfl,g⟩
  rw[h];refine TH ?_;apply CW.cond rfl<;>intro h
  ·rw[Sj (by simpa using h)]
   refine Tw ?_;exact bj ⟨rfl,g⟩
  ·rw[Si (by simpa using h)]
   refine Tx ?_;exact bj ⟨rfl,g⟩
 ·rw[h]
  refine Ua ?_;exact bj ⟨rfl,g⟩
def Grow.low[Rep α]{B':Nat}{e:TypeId}{xs:List α}(h:Grow B e w v xs)(c:B'<=B):Grow B' e w v xs:=by
 obtain⟨F,h1,h2⟩:=h;exact⟨F,fun b a=>⟨Qk c (h1 b a).1,(h1 b a).2⟩,h2.low c⟩
instance:IsC UA 37 19 true:=IsC.of SN RA rfl
instance:IsFd UA 37 1 1:=IsFd.of SN
instance:IsFd UA 37 4 13:=IsFd.of SN
def mp:∀(m:Nat) (t:Ltl),t.nodes<=m->LJ t->∀(w:World) (F:Nat->Prop) (ao:Option Addr) (cap:Nat),Sl w F ao cap t.kids->(∀b,F b->b<w.heap.size)->
  Rt UA 59 [AR t.k t.n ao t.kids.length cap].toArray w fun v w'=>(∃kv,v=.agg [Te t.k,Te t.n,kv].toArray/\Grow w.heap.size 32 w' kv t.kids)/\Ext w w':=by
 intro m
 induction m with
 |zero=>intro t h;have:=t.nodes_pos;omega
 |succ m ih=>
  rintro⟨k,n,kids⟩ hm J w F ao cap hs hF
  simp only[Ltl.k,Ltl.n,Ltl.kids]at hs⊢
  have hkl:=zP J;refine dU Tryz.func59 Tryz.ntmps59 rfl rfl (T9 ?_);refine eJ fun w1 hf hE1=>?_
  refine eF (fun p hr hE2=>?_);have hf:=hf.ext hE2;have s:=hE1.trans hE2;have hz1:w.heap.size<=w1.heap.size:=hE1.size;have hlf:=hf.lt;have hlr:=hr.lt;refine TJ ?_;refine eK ?_;refine eF (fun w3 ho E=>?_);refine f_ ho (fun H ho4 R=>?_);have e4:Ext p H:=E.grown R E.size SZ;have V:=hf.ext e4;have L:=hr.ext e4;have hE4:=s.trans e4;have hlo:=ho4.lt;have hsz:=s.size;clear hf hr ho R E e4 s;refine Ty ?_;refine CW.loop (S:=Nat×Value) (fun x=>[(1,Tg w.heap.size),(2,Tg w1.heap.size),(3,Tg p.heap.size),(12,.slice ao kids.length cap),(13,Te kids.length),(14,Te x.1)])
   (fun x w'=>x.1<=kids.length/\Ext w w'/\H.heap.size<=w'.heap.size/\Blk w' w.heap.size 32 [Te k,Te n,.slice ao kids.length cap]/\Blk w' w1.heap.size 32 [Te 0,Te 0,.slice none 0 0]/\
    Blk w' p.heap.size 32 [Te k,Te n,x.2]/\Grow H.heap.size 32 w' x.2 (kids.take x.1)) (fun x=>kids.length -x.1) (0,.slice none 0 0) SL ⟨by simp,hE4,Qj _,V,L,ho4,by simpa using Grow.nil⟩ ?_
  rintro⟨i,kv⟩ w5 ⟨hi,o,z,U,A,ho5,l⟩
  dsimp only at hi o z U A ho5 l⊢
  clear V L ho4;refine T2 ?_;apply CW.cond rfl<;>intro h
  ·have h:i<kids.length:=by simpa using h
   refine T7 ?_;refine fh (hs.up0 o hF) h SX (fun u q hu=>?_);obtain⟨uo,uc,rfl,hku⟩:=Rd.ltl hu;refine eF (fun w6 hx Z=>?_);refine f_ hx (fun c I hg7=>?_);have G:Ext w5 c:=Z.grown hg7 Z.size SZ;have hE7:=o.trans G;have ed:=Ext.drew c;have hd:=hE7.trans ed;have ho7:=(ho5.ext G).ext ed;have hxd:=I.ext ed;have W:=(l.ext G).ext ed;have O:=I.lt;have hz7:=G.size;have hKo:∀x,(fun x:World=>x.heap[p.heap.size]?=(drew c).heap[p.heap.size]?/\x.heap[w5.heap.size]?=(drew c).heap[w5.heap.size]?) x->x.heap[p.heap.size]?=(drew c).heap[p.heap.size]?:=fun _ h=>h.1
   have hKx:∀x,(fun x:World=>x.heap[p.heap.size]?=(drew c).heap[p.heap.size]?/\x.heap[w5.heap.size]?=(drew c).heap[w5.heap.size]?) x->x.heap[w5.heap.size]?=(drew c).heap[w5.heap.size]?:=fun _ h=>h.2
   refine T1 ?_;refine aF (fun x:World=>x.heap[p.heap.size]?=(drew c).heap[p.heap.size]?/\x.heap[w5.heap.size]?=(drew c).heap[w5.heap.size]?) [(0,true),(1,true),(2,true),(3,false),(4,false),(5,false),(6,true)] 7 mixed SN ⟨rfl,rfl⟩ (Ur ?_);refine cu hKx rfl rfl rfl rfl hxd rfl ?_;have hFd:∀b,F b->b<(drew c).heap.size:=fun b j=>Qn (hF b j) hd.size
   have P:Sl (drew c) F uo uc (kids[i]).kids:=hku.up0 (G.trans ed) (fun b j=>Qn (hF b j) o.size);refine cD rfl (eN (ih kids[i] (Cd hm h) (LO J h) (drew c) F uo uc P hFd) ?_);rintro v w8 ⟨⟨kv8,rfl,hK8⟩,y⟩
   obtain⟨ko,kc,rfl,hks⟩:=hK8.sl;have hv:Rd w8 (Nw (drew c) w8) (AR (kids[i]).k (kids[i]).n ko (kids[i]).kids.length kc) kids[i]:=by
    have:=Rd.mkLtl (k:=(kids[i]).k) (n:=(kids[i]).n) hks;rwa[show Ltl.mk (kids[i]).k (kids[i]).n (kids[i]).kids=kids[i] by cases kids[i];rfl]at this
   have ho8:=ho7.ext y;have hG8:=W.ext y;have hsz8:c.heap.size<=w8.heap.size:=y.size;refine WL.nil (bf ⟨y.block _ ho7.lt,y.block _ O⟩ ?_);have hgl:=W.lt;obtain⟨F',D,hO,K⟩:=hG8.open (Fu:=Nw (drew c) w8) (fun b j=>⟨Qk z (Qk hz7 j.1),j.2⟩) (fun g hg j=>by have:=(hgl g hg).2;have:=j.1;omega);have N:(kids.take i).length=i:=by rw[O9];omega
   have d:=l.lt;refine b_ (bytes:=40) (F:=F') rfl rfl rfl rfl SX rfl rfl SX hO (hv.wk K) SM (fun b j=>(D b j).2) SP (by rw[N];unfold maxLen;omega) (by rw[N];omega)
    (fun w' T=>⟨(T.block _ ho8.lt (fun e=>?_)).trans (y.block _ ho7.lt),(T.block _ SM (fun e=>?_)).trans (y.block _ O)⟩) (fun cV w9 q2 hO9 f hnb=>?_)
   ·have:=(d _ e.symm).1;omega
   ·have:=(d _ e.symm).2;omega
   have C:Grow H.heap.size 32 w9 cV (kids.take i++[kids[i]]):=⟨F',fun b j=>⟨(D b j).1,Qn (D b j).2 f.size⟩,hO9⟩;rw[show kids.take i++[kids[i]]=kids.take (i+1) by rw[PZ h]]at C
   obtain⟨co,cc,rfl,_⟩:=C.sl;have B:∀r,r<H.heap.size->some r≠kv.ownBlock:=fun r hr e=>by have:=(d _ e.symm).1;omega
   have ho9:=ho8.kept f (B _ SM);have hf9:=((((U.ext G).ext ed).ext y)).kept f (B _ SM);have hr9:=((((A.ext G).ext ed).ext y)).kept f (B _ SM);have Y:=hd.trans y;have X:Ext w w9:=Y.grown f Y.size (fun g hg=>by have:=(d g hg).1;omega);refine Uv ?_;refine bB rfl (f_ ho9 (fun w10 M a=>WL.nil (bC ?_)));have hE10:Ext w w10:=X.grown a X.size S2;have hsz9:=f.size;have hsz10:=a.size;refine Tn ?_;exact EX.back (i+1,.slice co (kids.take (i+1)).length cc) SL ⟨h,hE10,by omega,hf9.kept a S6,hr9.kept a S6,M,C.kept a SM⟩ SR
  ·have h:¬i<kids.length:=by simpa using h
   have hik:i=kids.length:=by omega
   subst hik;rw[PV]at l
   obtain⟨co,cc,rfl,hsl⟩:=l.sl;refine Ub ?_;refine f_ A (fun w6 hr6 Q=>?_);have hG6:=l.kept Q SM;refine Tm ?_;exact bp rfl rfl hr6 rfl ⟨⟨_,rfl,hG6.low SM⟩,o.grown Q o.size S2⟩
def FA(w:World){r:cS}{lo:Option Addr}(A:Sl w (dl w) lo B r.2.2.2.2.1.kids):
  Rt UA 25 [FN r lo B C a].toArray w fun u w'=>∃x,u=.tuple ⟨[x,Te (rP r).2]⟩/\GL w.heap.size w' x (rP r).1/\Ext w w':=by
 refine dU Tryz.func25 Tryz.ntmps25 rfl rfl ?_;have H:=A.len63;refine T9 ?_;refine eJ fun L hf v=>?_
 refine eF (fun y o t=>?_);have hf:=hf.ext t;have i:=v.trans t;have G:=v.size;have p:=o.lt;unfold rP;refine Ty ?_;apply CW.cond rfl<;>intro h
 ·rw[Sj (by simpa using h)]
  refine TG ?_;refine eN (nM y r.2.2.1) ?_;rintro _ l ⟨x,rfl,f,e⟩
  obtain⟨uo,uc,rfl,_⟩:=Rd.ltl f;have b:=i.trans e;refine Ue ?_;refine f_ (o.ext e) (fun j d c=>?_);refine T5 ?_;exact bu rfl rfl rfl d rfl ⟨_,rfl,(f.st c p).low SM,b.grown c b.size S2⟩
 have h1:¬r.2.1=1:=by simpa using h
 rw[Si h1];clear h;refine T2 ?_;apply CW.cond rfl<;>intro h
 ·rw[Sj (by simpa using h)]
  refine TG ?_;refine eN (mS y r.2.2.2.1) ?_;rintro _ l ⟨x,rfl,f,e⟩
  obtain⟨uo,uc,rfl,_⟩:=Rd.ltl f;have b:=i.trans e;refine Ue ?_;refine f_ (o.ext e) (fun j d c=>?_);refine T5 ?_;exact bu rfl rfl rfl d rfl ⟨_,rfl,(f.st c p).low SM,b.grown c b.size S2⟩
 have h2:¬r.2.1=2:=by simpa using h
 rw[Si h2];clear h;refine T2 ?_;apply CW.cond rfl<;>intro h
 ·rw[Sj (by simpa using h)]
  clear h;refine TG ?_;refine eN (AP y (A.up i) S3) ?_;rintro _ l ⟨rfl,e⟩
  have I:=hf.ext e;have m:=o.ext e;have b:=i.trans e;have F:=e.size;refine T2 ?_;apply CW.cond rfl<;>intro g
  ·have g:(kD r.2.2.2.2.1 1 0).1≠0:=by simpa using g
   rw[Sj g];refine T9 ?_;refine WL.build (parts:=[]) rfl rfl rfl rfl (Ue ?_);refine f_ m (fun j d c=>?_);refine T5 ?_;exact bu rfl rfl rfl d rfl ⟨_,rfl,Rd.mkLtl (kids:=[]) (Sl.zero _ _),b.grown c b.size S2⟩
  ·have g:(kD r.2.2.2.2.1 1 0).1=0:=by simpa using g
   rw[Si (by simp[g])];refine T3 ?_;refine eN (mp r.2.2.2.2.1.nodes r.2.2.2.2.1 Ta (kM r.2.2.2.2.1 1 0 g) l (dl l) lo B (A.up b) S3) ?_;rintro _ j ⟨⟨kv,rfl,J⟩,E⟩
   obtain⟨ko,kc,rfl,D⟩:=J.sl;have s:=b.trans E;have f:GL l.heap.size j (AR r.2.2.2.2.1.k r.2.2.2.2.1.n ko r.2.2.2.2.1.kids.length kc) r.2.2.2.2.1:=by
    have:=Rd.mkLtl (k:=r.2.2.2.2.1.k) (n:=r.2.2.2.2.1.n) D;rwa[show Ltl.mk r.2.2.2.2.1.k r.2.2.2.2.1.n r.2.2.2.2.1.kids=r.2.2.2.2.1 by cases r.2.2.2.2.1;rfl]at this
   refine f_ (m.ext E) (fun K z q=>?_);refine T5 ?_;exact bu rfl rfl rfl z rfl ⟨_,rfl,(f.st q SM).low SM,s.grown q s.size S2⟩
 ·rw[Si (by simpa using h)]
  refine T3 ?_;refine WL.build (parts:=[]) rfl rfl rfl rfl (f_ o (fun j d c=>?_));refine Tk ?_;exact bu rfl rfl rfl d rfl ⟨_,rfl,Rd.mkLtl (kids:=[]) (Sl.zero _ _),i.grown c i.size S2⟩
def eE(w:World)(v:Value)(p:cR)(r:cS)(tok st:Int):Prop:=∃b s l e so sc lo a,v=.tuple ⟨[Lf b so sc lo a s l,.int .i64 e]⟩/\Sl w (dl w) so sc s/\Sl w (dl w) lo a l/\JdgR p r tok st b s l e
def zi(w0:World){so fo lo:Option Addr}{sc fc:Nat}{ns:List cP}{fl:List cO}{r:cS}(hs:Sl w0 (dl w0) so sc ns)(hf:Sl w0 (dl w0) fo fc fl)(hl:Sl w0 (dl w0) lo B r.2.2.2.2.1.kids)(hc:Sl w0 (dl w0) C a r.2.2.2.2.2.kids)(tok st:Int):
  Rt UA 7 [Er so sc fo fc ns.length fl.length,FN r lo B C a,Te tok,Te st].toArray w0 fun v w'=>eE w' v (ns,fl) r tok st/\Ext w0 w':=by
 refine dX Tryz.func7 Tryz.ntmps7 rfl rfl ?_;refine T9 ?_;refine eJ fun w1 l e1=>?_
 skip;refine eJ fun w2 u e2=>?_
 have l:=l.ext e2;skip;refine eF (fun w3 c e3=>?_);have l:=l.ext e3;have u:=u.ext e3;have f:=(e1.trans e2).trans e3;have z1:=e1.size;have z2:=e2.size;have l8:=c.lt;generalize hb8n:w2.heap.size=b8 at*
 clear e1 e2 e3;refine TN ?_;refine eN (Gz w3 (hs.up f) (hf.up f) tok st) ?_;rintro _ w4 ⟨⟨x,oo,oc,rfl,hx,G⟩,e4⟩
 have l:=l.ext e4;have u:=u.ext e4;have c:=c.ext e4;have f:=f.trans e4;obtain⟨a1,c1,a2,c2,a3,c3,a4,c4,rfl,g1,g2,g3,g4⟩:=hx.ok;have z4:=e4.size;clear hx e4;refine Ue ?_;refine eF (fun w5 d e5=>?_);refine f_ d (fun w6 d hg6=>?_);have X:Ext w4 w6:=e5.grown hg6 e5.size SZ;have l:=l.ext X;have u:=u.ext X;have c:=c.ext X;have f:=f.trans X;have g1:=g1.up X;have g2:=g2.up X;have g3:=g3.up X;have g4:=g4.up X;have G:=G.up X;have z6:=X.size;generalize hb10n:w4.heap.size=b10 at*
 clear e5 X hg6;refine T2 ?_;apply CW.cond rfl<;>intro h
 ·have h:(Gw (ns,fl) tok st).2≠0:=by simpa using h
  refine T9 ?_;refine WL.build (parts:=[]) rfl rfl rfl rfl ?_;refine Ue ?_;refine f_ c (fun w7 U hg7=>?_);refine T5 ?_;exact bu rfl rfl rfl U rfl ⟨⟨false,[],[],_,none,0,none,0,rfl,Sl.zero _ _,Sl.zero _ _,yS h (fun M _=>h M) (by unfold yR;rw[Sj h])⟩,f.grown hg7 f.size S2⟩
 have j:(Gw (ns,fl) tok st).2=0:=by simpa using h
 have hK:=Gy j;clear h;have hz0:=f.size;refine T7 ?_;have J:Ext w6 (drew w6):=Ext.drew w6;have hb4d:=l.ext J;have hb5d:=u.ext J;refine aG (fun z:World=>Ext (drew w6) z) [(0,true),(1,true),(2,false),(3,false),(4,true)] mixed SN Tc ?_;refine cx (fun z hz=>hb5d.ext hz) rfl rfl rfl rfl rfl ?_;refine cx (fun z hz=>hb4d.ext hz) rfl rfl rfl rfl rfl ?_;refine cD rfl (eN (yV (drew w6) ((hs.up f).up J) (by have:ns.length<=20:=hK.n;omega)) ?_);rintro nv w7 ⟨hnv,e7⟩
 refine WL.nil (bf e7 ?_);obtain⟨no,nc,rfl,hn⟩:=hnv.oldN.sl;have hE7:=(f.trans J).trans e7;refine cD rfl (eN (E0 w7 (hl.up hE7) (hc.up hE7) hn) ?_);rintro _ w8 ⟨rfl,e8⟩
 have N:=(J.trans e7).trans e8;refine WL.nil (bf (e7.trans e8) ?_);have l:=l.ext N;have u:=u.ext N;have c:=c.ext N;have d:=d.ext N;have f:=f.trans N;have g1:=g1.up N;have g2:=g2.up N;have g3:=g3.up N;have g4:=g4.up N;have G:=G.up N;have z8:=N.size;clear e7 e8 N hnv hn hb4d hb5d J hE7;refine Uu ?_;refine T2 ?_;apply CW.cond rfl<;>intro h
 ·have h:k8 r (BY (ns,fl))≠0:=by simpa using h
  refine T9 ?_;refine WL.build (parts:=[]) rfl rfl rfl rfl ?_;refine Ue ?_;refine f_ c (fun w7 U hg7=>?_);refine T5 ?_;exact bu rfl rfl rfl U rfl ⟨⟨false,[],[],_,none,0,none,0,rfl,Sl.zero _ _,Sl.zero _ _,yS h (fun _ M=>h M) (by unfold yR;rw[Si (by rw[j];simp),Sj h])⟩,f.grown hg7 f.size S2⟩
 have L:k8 r (BY (ns,fl))=0:=by simpa using h
 clear h;refine TS ?_;apply CW.cond rfl<;>intro h
 ·
  have h4:r.2.1=4:=by simpa using h
  clear h;refine TG ?_;refine eN (c6 w8 (t:=r.2.2.2.2.2) g1 g2 g3 g4 (hc.up f) hK.ed) ?_;rintro _ w9 ⟨x,rfl,hx,y⟩
  have c:=c.ext y;have d:=d.ext y;have g1:=g1.up y;have hE9:=f.trans y;have z9:=y.size;have hlab:zW (rW (ns,fl) tok st).1 (rW (ns,fl) tok st).2.1 (rW (ns,fl) tok st).2.2.1.length (rW (ns,fl) tok st).2.2.2 r.2.2.2.2.2=0:=by
   unfold zW;rw[Si (by have:=hK.chk;simpa using this)];exact k9 L h4
  rw[hlab]at hx⊢
  rw[Sj rfl]at hx
  have hst:CQ (rW (ns,fl) tok st).2.1.length (rW (ns,fl) tok st).1:=(lr hK.chk).2.2.2.1;have hbl:=jv (n:=(rW (ns,fl) tok st).2.1.length) (P:=mH (rW (ns,fl) tok st).2.1 (rW (ns,fl) tok st).2.2.1 (rW (ns,fl) tok st).2.2.2 r.2.2.2.2.2);obtain⟨xo,xc,rfl,hxs⟩:=hx.oldN.sl;have hm1:(rW (ns,fl) tok st).1.length<=1048576:=hK.start;refine TS ?_;refine CW.loop (S:=Nat) (fun i=>[(8,Tg b8),(14,.slice xo (js (rW (ns,fl) tok st).2.1.length (mH (rW (ns,fl) tok st).2.1 (rW (ns,fl) tok st).2.2.1 (rW (ns,fl) tok st).2.2.2 r.2.2.2.2.2)).length xc),(56,.slice a1 (rW (ns,fl) tok st).1.length c1),(57,Te (rW (ns,fl) tok st).1.length),(58,Te i)])
   (fun i w=>i<=(rW (ns,fl) tok st).1.length/\(∀n∈(rW (ns,fl) tok st).1.take i,mH (rW (ns,fl) tok st).2.1 (rW (ns,fl) tok st).2.2.1 (rW (ns,fl) tok st).2.2.2 r.2.2.2.2.2 n.toNat)/\w=w9) (fun i=>(rW (ns,fl) tok st).1.length -i) 0 SL ⟨QK _,(fun n hn=>by simp at hn),rfl⟩ ?_
  rintro i _ ⟨hi,W,rfl⟩
  have hjr:∀(b:Bool),(b=true↔∀n∈(rW (ns,fl) tok st).1,mH (rW (ns,fl) tok st).2.1 (rW (ns,fl) tok st).2.2.1 (rW (ns,fl) tok st).2.2.2 r.2.2.2.2.2 n.toNat)->JdgR (ns,fl) r tok st b [] [] 0:=fun b hb=>
   ⟨fun h=>absurd rfl h,fun _=>⟨j,L⟩,fun _ _=>⟨rfl,rfl,hb⟩,fun _ h=>absurd h4 h,fun _ _ h _ _=>absurd h4 h,fun _ _ _=>rfl,fun h=>absurd rfl h⟩
  refine T2 ?_;apply CW.cond rfl<;>intro h
  ·have O:i<(rW (ns,fl) tok st).1.length:=by simpa using h
   clear h;have hk:=hst _ (OG O);obtain⟨m,em⟩:=Nn hk.1;have hm:m<(rW (ns,fl) tok st).2.1.length:=by omega
   have hm':m<(js (rW (ns,fl) tok st).2.1.length (mH (rW (ns,fl) tok st).2.1 (rW (ns,fl) tok st).2.2.1 (rW (ns,fl) tok st).2.2.2 r.2.2.2.2.2)).length:=by rw[hbl];exact hm
   have hiff:=ju (P:=mH (rW (ns,fl) tok st).2.1 (rW (ns,fl) tok st).2.2.1 (rW (ns,fl) tok st).2.2.2 r.2.2.2.2.2) hm;refine T7 ?_;refine ff g1 O em SX (fun q=>?_);refine T2 ?_;refine fd rfl rfl rfl rfl rfl hxs hm' (LP hm').symm SX (fun q=>?_);refine Tl ?_;apply CW.cond rfl<;>intro h
   ·have hno:¬mH (rW (ns,fl) tok st).2.1 (rW (ns,fl) tok st).2.2.1 (rW (ns,fl) tok st).2.2.2 r.2.2.2.2.2 m:=fun hp=>by rw[hiff.2 hp]at h;cases h
    refine T9 ?_;refine WL.build (parts:=[]) rfl rfl rfl rfl ?_;refine f_ c (fun w10 D R=>?_);refine T5 ?_;exact bu rfl rfl rfl D rfl ⟨⟨false,[],[],_,none,0,none,0,rfl,Sl.zero _ _,Sl.zero _ _,hjr false ⟨fun h=>by(cases h),fun hp=>absurd (by have:=hp _ (OG O);rwa[em,Nt]at this) hno⟩⟩,hE9.grown R hE9.size S2⟩
   ·have hyes:mH (rW (ns,fl) tok st).2.1 (rW (ns,fl) tok st).2.2.1 (rW (ns,fl) tok st).2.2.2 r.2.2.2.2.2 m:=hiff.1 (by simpa using h)
    refine Tj ?_;refine EX.back (i+1) SL ⟨O,fun n hn=>?_,rfl⟩ SM;rw[PZ O]at hn
    rcases Ph.1 hn with hn|hn
    ·exact W n hn
    ·rw[Py.1 hn,em,Nt];exact hyes
  ·obtain rfl:i=(rW (ns,fl) tok st).1.length:=by simp at h;omega
   rw[PV]at W
   refine TO ?_;refine WL.build (parts:=[(0,.const (.bool true))]) rfl rfl rfl rfl ?_;refine f_ c (fun w10 D R=>?_);refine T5 ?_;exact bu rfl rfl rfl D rfl ⟨⟨true,[],[],_,none,0,none,0,rfl,Sl.zero _ _,Sl.zero _ _,hjr true ⟨fun _=>W,fun _=>rfl⟩⟩,hE9.grown R hE9.size S2⟩
 have h4:¬r.2.1=4:=by simpa using h
 clear h;refine Tq ?_;refine eN (FA w8 (hl.up f)) ?_;rintro _ w9 ⟨x,rfl,hx,y⟩
 obtain⟨ko,kc,rfl,hkx⟩:=Rd.ltl hx.old;have c:=c.ext y;have d:=d.ext y;have f:=f.trans y;have g1:=g1.up y;have g2:=g2.up y;have g3:=g3.up y;have g4:=g4.up y;have G:=G.up y;have z9:=y.size;clear y hx;refine Ue ?_;refine eF (fun w10 V e10=>?_);refine f_ V (fun w11 V hg11=>?_);have o:Ext w9 w11:=e10.grown hg11 e10.size SZ;have c:=c.ext o;have d:=d.ext o;have f:=f.trans o;have g1:=g1.up o;have g2:=g2.up o;have g3:=g3.up o;have g4:=g4.up o;have G:=G.up o;have hkx:=hkx.up o;have z11:=o.size;clear e10 o hg11;refine T2 ?_;apply CW.cond rfl<;>intro h
 ·have h:(rP r).2≠0:=by simpa using h
  refine T9 ?_;refine WL.build (parts:=[]) rfl rfl rfl rfl ?_;refine Ue ?_;refine f_ c (fun s hb812 hg12=>?_);refine T5 ?_;exact bu rfl rfl rfl hb812 rfl ⟨⟨false,[],[],_,none,0,none,0,rfl,Sl.zero _ _,Sl.zero _ _,⟨fun _=>⟨rfl,rfl,rfl⟩,fun M=>absurd M h,fun M=>absurd M h,fun M=>absurd M h,fun _ _ _ M _=>absurd M h,fun _ _ M=>absurd M h4,fun _=>by unfold yR;rw[Si (by rw[j];simp),Si (by rw[L];simp),Si h4,Sj h]⟩⟩,f.grown hg12 f.size S2⟩
 have T:(rP r).2=0:=by simpa using h
 clear h;have hRL:RL w11 (AR (rP r).1.k (rP r).1.n ko (rP r).1.kids.length kc) (rP r).1:=by
  have:=Rd.mkLtl (k:=(rP r).1.k) (n:=(rP r).1.n) hkx;rwa[show Ltl.mk (rP r).1.k (rP r).1.n (rP r).1.kids=(rP r).1 by cases (rP r).1;rfl]at this
 refine Tq ?_;refine eN (yQ w11 g1 g2 g3 g4 hRL hK.row hK.start) ?_;rintro _ s ⟨⟨ps,pl,is,err,po,pc,qo,qc,rfl,hps,hpl,hJ⟩,Z⟩
 have c:=c.ext Z;have f:=f.trans Z;have G:=G.up Z;have z12:=Z.size;clear g1 g2 g3 g4 d V hRL hkx;refine Ue ?_;refine eF (fun w13 I e13=>?_);refine f_ I (fun p I hg14=>?_);have F:Ext s p:=e13.grown hg14 e13.size SZ;have c:=c.ext F;have f:=f.trans F;have G:=G.up F;have hps:=hps.up F;have hpl:=hpl.up F;have z14:=F.size;clear Z e13 F hg14;have hend:(err≠0\/is=true)->JdgR (ns,fl) r tok st is [] [] err:=fun h=>by
  refine⟨fun he=>⟨(hJ.bad he).1,rfl,rfl⟩,fun _=>⟨j,L⟩,fun _ h=>absurd h h4,fun he _=>?_,fun _ _ _ _ hm=>hJ.good hK.chk (rQ T) hm,fun _ _ h=>absurd h h4,fun he=>by unfold yR;rw[Si (by rw[j];simp),Si (by rw[L];simp),Si h4,Si (by rw[T];simp)];exact hJ.err hK.chk (rQ T) he⟩;obtain⟨_,j1,j2,j3,j4,j5,_⟩:=hJ.ok he;have his:is=true:=h.resolve_left (fun h=>h he);exact⟨T,j1,j2,j3,j4,fun _=>⟨rfl,rfl⟩,fun h=>by rw[his]at h;cases h⟩
 refine T2 ?_
 (refine fJ rfl rfl (fun h=>?_) (fun h=>?_))
 ·have h:err≠0:=by simpa using h
  refine TA ?_;refine WL.build (parts:=[(0,.tmp 91)]) rfl rfl rfl rfl ?_;refine Ue ?_;refine f_ c (fun w15 A Q=>?_);refine T5 ?_;exact bu rfl rfl rfl A rfl ⟨⟨is,[],[],_,none,0,none,0,rfl,Sl.zero _ _,Sl.zero _ _,hend (.inl h)⟩,f.grown Q f.size S2⟩
 have he0:err=0:=by simpa using h
 clear h;refine Tl ?_;apply CW.cond rfl<;>intro h
 ·refine TP ?_
  refine WL.build (parts:=[(0,.tmp 91)]) rfl rfl rfl rfl ?_;refine Ue ?_;refine f_ c (fun w15 A Q=>?_);refine T5 ?_;exact bu rfl rfl rfl A rfl ⟨⟨is,[],[],_,none,0,none,0,rfl,Sl.zero _ _,Sl.zero _ _,hend (.inr h)⟩,f.grown Q f.size S2⟩
 obtain⟨_,j1,j2,j3,j4,j5,j6⟩:=hJ.ok he0;have hP:=j6 h;have hof:=hK.of;have hfin:JdgR (ns,fl) r tok st false (ps.map fun n=>((rO (ns,fl) tok st).getD n.toNat (0,0)).1) (pl.map fun n=>((rO (ns,fl) tok st).getD n.toNat (0,0)).1) 0:=
  ⟨fun h=>absurd rfl h,fun _=>⟨j,L⟩,fun _ h=>absurd h h4,fun _ _=>⟨T,j1,j2,j3,by rw[<-h];exact j4,(fun h=>by cases h),fun _=>⟨ps,pl,hP,rfl,rfl⟩⟩,fun _ _ _ _ _=>rfl,fun _ _ h=>absurd h h4,fun h=>absurd rfl h⟩
 have hso:CQ (rO (ns,fl) tok st).length ps:=by rw[hof];exact hP.so
 have hlo:CQ (rO (ns,fl) tok st).length pl:=by rw[hof];exact hP.lo
 have l19:=I.lt;have z0:=f.size;refine T7 ?_;have J:Ext p (drew p):=Ext.drew p;have hb19d:=I.ext J;have hb8d:=c.ext J;refine aG (fun z:World=>z.heap[s.heap.size]?=(drew p).heap[s.heap.size]?) [(0,true),(1,true),(2,true),(4,true),(5,true),(6,true),(3,false),(7,false),(8,true),(9,false),(10,true)] mixed SN rfl ?_;have hKS:∀z:World,(fun z:World=>z.heap[s.heap.size]?=(drew p).heap[s.heap.size]?) z->Blk z s.heap.size 86 [.slice po ps.length pc,.slice qo pl.length qc]:=fun z hz=>hz.trans hb19d
 refine Uq ?_;refine cA hKS rfl rfl rfl rfl rfl ?_;refine Uq ?_;refine cA hKS rfl rfl rfl rfl rfl ?_;refine cD rfl (eN (g_ (drew p) (G.up J) (hps.up J) hso hP.sz.1) ?_);rintro sv w15 ⟨K,E⟩
 refine WL.nil (bf (E.block _ l19) ?_);refine cD rfl (eN (g_ w15 (G.up (J.trans E)) (hpl.up (J.trans E)) hlo hP.sz.2) ?_);rintro lv w16 ⟨hlv,Y⟩
 have z15:p.heap.size<=w15.heap.size:=E.size;have hS16:w16.heap[s.heap.size]?=(drew p).heap[s.heap.size]?:=(Y.block _ SM).trans (E.block _ l19);refine WL.nil (bf hS16 ?_);have K:=K.extN Y;have hE16:=f.trans (J.trans (E.trans Y));obtain⟨so2,sc2,rfl⟩:=K.val;obtain⟨lo2,lc2,rfl⟩:=hlv.val;refine HL.build (parts:=[(1,.tmp 97),(2,.tmp 101)]) rfl rfl rfl rfl rfl ?_;refine cD rfl (f_ (hb8d.ext (E.trans Y)) (fun w17 hb17 H=>WL.nil (bf ?_ ?_)))
 ·exact(H.block _ (by have:=Y.size;omega) S6).trans hS16
 have hsv17:=K.keptN H (fun g hg e=>by have:=(K.lt g hg).1;have:=QV e;have:p.heap.size<=g:=(K.lt g hg).1;omega);have hlv17:=hlv.keptN H (fun g hg e=>by have:=(hlv.lt g hg).1;have:=QV e;omega);obtain⟨_,_,he1,hs17⟩:=hsv17.oldN.sl;obtain⟨_,_,he2,hl17⟩:=hlv17.oldN.sl;cases he1
 cases he2
 refine Uu ?_;refine TV ?_;exact bu rfl rfl rfl hb17 rfl ⟨⟨false,_,_,_,_,_,_,_,rfl,hs17,hl17,hfin⟩,hE16.grown H hE16.size S2⟩
section
variable {P:Program}{Q:Exit->Act->World->Prop}{n:Nat}{σ:Sg}{w:World}{L:List Oper}{S:World->Prop}
end
def lF(ops:Array Oper)(e:Nat)(r:List (Nat×Bool)):List (Nat×Bool)->Array Bool->Bool
 |[],a=>C9 ops ((e,false)::r) a
 |(i,true)::c,a=>(Region.ready .any ops a).contains i&&Region.free .any ops a i&&lF ops e r c (a.setIfInBounds i true)
 |(i,false)::c,a=>(Region.ready .any ops a).all (fun j=>j==i||j==e)&&!(Region.ready .any ops a).isEmpty&&lF ops e r c (a.setIfInBounds i true)&&
    C9 ops ((i,false)::c++r) (a.setIfInBounds e true)
def j9(l:List Oper)(e:Nat)(c:List (Nat×Bool))(r:List (Nat×Bool)):Bool:=
 Region.noSelect l.toArray&&decide ((c.length+1)+r.length=l.length)&&lF l.toArray e r c (Array.replicate l.length false)
def Mg(P:Program)(ops:List Oper)(S:World->Prop)(Q:Act->World->Prop)(e:Nat)(r:List (Nat×Bool)):List (Nat×Bool)->Act->World->Prop
 |[],a,w=>Mj P ops S Q ((e,false)::r) a w
 |(i,true)::c,a,w=>∃o v,ops[i]?=some o/\YieldsIf P ops.toArray S o v a/\Mg P ops S Q e r c (a.put o.dst v) w
 |(i,false)::c,a,w=>(∃o,ops[i]?=some o/\(if Region.wanted o (yielded ops.toArray a.tmps)=true then o.wp P a w (fun b w'=>S w'/\Mg P ops S Q e r c b w') (fun x a w=>x=.normal/\Q a w)else S w/\Mg P ops S Q e r c (a.put o.dst undef) w))/\
    Mj P ops S Q ((e,false)::((i,false)::c++r)) a w
def Mi{P:Program}{ops:List Oper}{S:World->Prop}{Q:Act->World->Prop}(m:Region.noSelect ops.toArray=true)(e:Nat)(r:List (Nat×Bool)):
  ∀(c:List (Nat×Bool)) (b:Array Bool) (a:Act) (w:World),lF ops.toArray e r c b=true->S w->Mg P ops S Q e r c a w->wpAnyH P .any ops.toArray (fun x a w=>x=.normal/\Q a w) S (r.length+(c.length+1)) b a w
 |[],b,a,w,f,hS,h=>by
  have:=Ml (Q:=Q) m ((e,false)::r) b a w f hS h;simpa using this
 |(i,true)::c,b,a,w,f,hS,⟨o,v,A,E,h⟩=>by
  simp only[lF,MZ]at f
  have:=SD (fuel:=r.length+(c.length+1)) (by simpa using A) m f.1.2 f.1.1 (fun _ _ _ h=>by cases h.1) E hS (Mi m e r c _ _ _ f.2 hS h);rw[show r.length+(((i,true)::c).length+1)=(r.length+(c.length+1))+1 by simp;omega];exact this
 |(i,false)::c,b,a,w,f,hS,⟨⟨o,A,h⟩,⟨oe,z,s⟩⟩=>by
  simp only[lF,MZ,NB,M7,OQ,Na,RZ]at f
  obtain⟨⟨⟨C,d⟩,g⟩,k⟩:=f;have t:r.length+(((i,false)::c).length+1)=(r.length+(c.length+1))+1:=by simp;omega
  rw[t];refine SB rfl d ?_;intro j F
  by_cases y:j=i
  ·subst y
   have p:ops.toArray[j]?=some o:=by simpa using A
   unfold wpOp;simp only[p];split
   ·rename_i l
    rw[Sj l]at h
    exact .inl (QP (fun D w' q=>⟨q.1,Mi m e r c _ _ _ g q.1 q.2⟩) (Mr (fun x a w d hf=>absurd hf.1 d) h))
   ·rename_i l
    rw[Si l]at h
    exact⟨h.1,Mi m e r c _ _ _ g h.1 h.2⟩
  ·have B:j=e:=(C j F).resolve_left y
   subst B;have p:ops.toArray[j]?=some oe:=by simpa using z
   have u:((i,false)::c++r).length=r.length+(c.length+1):=by simp;omega
   unfold wpOp;simp only[p];split
   ·rename_i l
    rw[Sj l]at s
    refine .inl (QP (fun D w' q=>⟨q.1,?_⟩) (Mr (fun x a w d hf=>absurd hf.1 d) s));have:=Ml (Q:=Q) m _ _ D w' k q.1 q.2;rw[u]at this
    exact this
   ·rename_i l
    rw[Si l]at s
    refine⟨s.1,?_⟩;have:=Ml (Q:=Q) m _ _ _ w k s.1 s.2;rw[u]at this
    exact this
def gK:List (Nat×Bool)->Bool
 |[]=>true
 |(_,b)::r=>b&&gK r
def aL(P:Program)(ops:List Oper)(S:World->Prop)(Q:Exit->Act->World->Prop)(e:Nat)(c:List (Nat×Bool))(r:List (Nat×Bool)):Exit->Act->World->Prop:=
 fun x a w=>x=.normal/\(S w/\Mg P ops S (fun a w=>Q .normal a w) e r c a w)
def Mh{P:Program}{L:List Oper}{S:World->Prop}{Q K:Act->World->Prop}{e:Nat}{c r:List (Nat×Bool)}(d:∀a w,K a w->Mg P L S Q e r c a w):∀(s:List (Nat×Bool)) (a:Act) (w:World),gK s=true->Mj P L S K s a w->Mg P L S Q e r (s++c) a w
 |[],a,w,_,h=>d _ _ h
 |(i,true)::s,a,w,b,⟨o,v,g,f,h⟩=>⟨o,v,g,f,Mh d s _ _ (by simpa[gK]using b) h⟩
 |(i,false)::s,a,w,b,_=>by simp[gK]at b
section
variable {P:Program}{Q:Exit->Act->World->Prop}{n:Nat}{σ:Sg}{w:World}{L:List Oper}{S:World->Prop}
theorem aE{id:Nat}(S:World->Prop)(e:Nat)(c:List (Nat×Bool))(r:List (Nat×Bool))(f:P.follows .mixedOrders=true)(b:j9 L e c r=true)(hS:S (drew w))(h:EX (aL P L S Q e c r) .normal n σ (drew w)):CW P (.region id L.toArray true) Q n σ w:=by
 unfold CW;unfold EX at h;intro a i
 simp only[j9,MZ,R_]at b
 obtain⟨⟨d,k⟩,b⟩:=b;obtain⟨_,_,j⟩:=h a i;have h1:=Mi d e r c (Array.replicate L.length false) a (Go.Proofs.YtfpjecjadlgdcaaGreatDoor.drew w) b hS j;rw[show r.length+(c.length+1)=L.length by omega]at h1
 have h2:=SK (id:=id) (S:=S) f (w:=w) (ops:=L.toArray) (by simpa using h1);exact SI h2 (fun x l w' ⟨g,hq⟩=>by subst g;exact hq)
theorem aW{e:Nat}(s:List (Nat×Bool)){c r:List (Nat×Bool)}(d:gK s=true)(hS:S w)(h:HL P L S (aL P L S Q e c r) s n σ w):EX (aL P L S Q e (s++c) r) .normal n σ w:=by
 unfold EX;unfold HL at h
 intro a b
 exact⟨rfl,hS,Mh (fun a w h=>h.2.2) s a w d (h a b)⟩
theorem aU{e i:Nat}{c:List (Nat×Bool)}{r:List (Nat×Bool)}{o:Oper}(hS:S w)(h:Cm L i=some o)(h1:WL P L (aL P L S Q e c r) [o] n σ w)(h2:HL P L S Q ((e,false)::((i,false)::c++r)) n σ w):EX (aL P L S Q e ((i,false)::c) r) .normal n σ w:=by
 unfold EX;unfold WL at h1;unfold HL at h2
 intro a j
 refine⟨rfl,hS,?_,h2 a j⟩;rw[Cn]at h
 refine⟨o,h,?_⟩;have h2:wpList P L.toArray (aL P L S Q e c r) [o] a w:=h1 a j;simp only[wpList]at h2
 split
 ·rename_i g
  rw[Sj g]at h2
  rcases h2 with h2|⟨_,b⟩
  ·unfold Oper.wp at*
   generalize (execOp a.eval o).run P w=r at*
   cases r with
   |ok k w'=>
    cases k<;>simp only[Oper.upon]at h2⊢<;>first
     |exact h2.2
     |exact h2
     |(refine Ng h2 (fun e w'' d=>?_);cases e<;>first|exact d.2|(exact absurd d.1 SQ)|(obtain⟨_,_,f⟩:=d;exact absurd f.1 SQ))
     |exact Q3 h2 (fun _ _ d=>d.2)
   |halt x w'=>cases x<;>simp only[Oper.upon]at h2⊢<;>first|exact h2|(exact absurd h2.1 SQ)
  ·obtain⟨_,_,f⟩:=b
   exact absurd f.1 SQ
 ·rename_i g
  rw[Si g]at h2
  exact h2.2
theorem aV{e:Nat}{r:List (Nat×Bool)}(hS:S w)(h:HL P L S Q ((e,false)::r) n σ w):EX (aL P L S Q e [] r) .normal n σ w:=by
 unfold EX;unfold HL at h
 exact fun a b=>⟨rfl,hS,h a b⟩
end
instance:IsF UA 37:=UB Tryz.func37
abbrev eq(B:Nat)(w:World):Prop:=Lib.TabBelow UA B w "internal/strconv.uint64pow10" .u64 Lib.pow10Tab
def yO(w:World)(h:eq B w){n:Int}(a:0<=n)(h1:n<=1000000):Rt UA 37 [Te n].toArray w fun v w'=>v=tV (Lib.itoa n)/\Ext w w':=by
 refine Ng (Any.strconv_Itoa Ht n SM SM w h.here) ?_;rintro e w' ⟨rfl,k,os,rfl⟩
 exact⟨_,rfl,rfl,Lib.below_grow _ _ Ta k os⟩
def yL{n:Int}(a:0<=n)(h1:n<=1000000):(Lib.itoa n).length<=21:=Lib.itoa_length_le n SM SM
def Lg(w0:World){B b:Nat}{ns:List cP}{fl:List cO}{so fo lo co:Option Addr}{sc fc J cc:Nat}{F:Value}{l:ar}{r:cS}(h:WB w0 B b (.slice so ns.length sc) (.slice fo fl.length fc) F l)(Y:B<=w0.heap.size)(T:Sl w0 (fun k=>k<B) so sc ns)(hf:Sl w0 (fun k=>k<B) fo fc fl)
  (hl:Sl w0 (fun k=>k<B) lo J r.2.2.2.2.1.kids) (hc:Sl w0 (fun k=>k<B) co cc r.2.2.2.2.2.kids) (hT:eq B w0) {tok st:Int} (hx:(pS (ns,fl) tok st).2=0) (hp:OkPr (ns,fl)) (N:l.length<=200000):
  Rt UA 39 [Tg b,FN r lo J co cc,Te tok,Te st].toArray w0 fun v w'=>∃t,eC (ns,fl) r tok st t/\t.length<=40/\WB w' B b (.slice so ns.length sc) (.slice fo fl.length fc) F (l++(t++[10]))/\gm B w0 w':=by
 refine dX Tryz.func39 Tryz.ntmps39 rfl rfl (T9 ?_);refine eJ fun w1 C e1=>?_
 apply WL.nil;apply bE;apply CW.seq;apply CW.region;refine Uh ?_;apply WL.nil;apply bE;refine aB (S:=Unit) (fun _=>[(0,Tg b),(2,Te tok),(3,Te st),(5,Tg w0.heap.size),(8,tV (Bx r.1))]) (fun _ w=>Ext w1 w) ?_ ?_
 ·refine TP ?_
  refine eN (dg w1 r.1) ?_;rintro _ m ⟨rfl,I⟩
  refine Tl ?_;apply CW.cond rfl<;>intro h
  ·have h:¬Bz r.1=true:=by simpa using h
   refine T2 ?_;have Z:Bx r.1=[63]:=by unfold Bx;rw[Si h]
   rw[Z];exact aZ () SL I
  ·have h:Bz r.1=true:=by simpa using h
   refine T0 ?_;have Z:tV (Bx r.1)=.string r.1:=by unfold Bx;rw[Sj h,tV,KD]
   rw[Z];exact aZ () SL I
 rintro _ m I
 have P:=e1.trans I;have O:=h.ext P;have C:=C.ext I;have z2:=P.size;clear e1 I h;have hnm:=(By r.1).2;generalize U:Bx r.1=nm at*
 have n:=O.ext (Ext.drew m);have p:=C.ext (Ext.drew m);obtain⟨pp,vv,L⟩:=n.at;have A:∀w,Ext (drew m) w->Rt UA 7 [Er so sc fo fc ns.length fl.length,FN r lo J co cc,Te tok,Te st].toArray w fun v w'=>eE w' v (ns,fl) r tok st/\Ext w w':=fun w O=>by
  have M:=(P.trans (Ext.drew m)).trans O;have up:∀{α:Type} [Rep α] {ao:Option Addr} {c:Nat} {xs:List α},Sl w0 (fun k=>k<B) ao c xs->Sl w (dl w) ao c xs:=fun h=>h.mono (fun k y=>M.block k (by have:k<B:=y;omega)) (fun k y=>by have:k<B:=y;have:=M.size;show k<w.heap.size;omega)
  exact zi w (up T) (up hf) (up hl) (up hc) tok st
 refine aB (S:=Nat×Bool×Int) (fun x=>[(0,Tg b),(8,tV nm),(9,Tg x.1),(10,Te x.2.2)]) (fun x w=>Ext m w/\∃s l so sc lo J,Blk w x.1 41 [.bool x.2.1,.slice so (s:List Int).length sc,.slice lo (l:List Int).length J]/\JdgR (ns,fl) r tok st x.2.1 s l x.2.2) ?_ ?_
 ·refine aE (fun x=>Ext (drew m) x) 11 [(0,true),(1,true),(2,true),(3,true),(4,true),(5,true),(6,true),(7,false),(8,true),(9,true),(10,true)] [(12,false),(13,true)] mixed SN Tc (aW [(0,true),(1,true),(2,true),(3,true),(4,true),(5,true),(6,true)] rfl Tc (Ut ?_))
  refine cx (fun z N=>L.ext N) rfl rfl rfl rfl rfl (cx (fun z N=>p.ext N) rfl rfl rfl rfl rfl (Uu ?_));refine aU Tc rfl ?_ ?_
  ·refine eN (A (drew m) Tc) ?_
   rintro _ x1 ⟨⟨D,s,K,e,so',sc',lo',lc',rfl,_,_,E⟩,f⟩
   refine WL.nil (aW [(8,true),(9,true),(10,true)] rfl f (Uu ?_));refine aV f (cD rfl (eF (fun x2 d i=>WL.nil (bf (f.trans i) (cD rfl (f_ d (fun F d j=>WL.nil (bf ?_ ?_))))))))
   ·exact(f.trans i).grown j (f.trans i).size (fun g V=>by cases V;exact f.size)
   refine Uu ?_;exact aZ (_,D,e) SL ⟨(Ext.drew m).trans ((f.trans i).grown j (f.trans i).size (fun g V=>by cases V;exact f.size)),s,K,so',sc',lo',lc',d,E⟩
  ·refine cD rfl (eF (fun x2 d i=>WL.nil (bf i (cD rfl (eN (A x2 i) ?_)))))
   rintro _ x1 ⟨⟨D,s,K,e,so',sc',lo',lc',rfl,_,_,E⟩,f⟩
   refine WL.nil (bf (i.trans f) ?_);have d:=d.ext f;refine Uq ?_;refine cD rfl (f_ d (fun F d j=>WL.nil (bf ?_ ?_)))
   ·exact(i.trans f).grown j (i.trans f).size SZ
   refine Uu ?_;exact aZ (_,D,e) SL ⟨(Ext.drew m).trans ((i.trans f).grown j (i.trans f).size SZ),s,K,so',sc',lo',lc',d,E⟩
 rintro⟨b9,D,e⟩ G ⟨e3,s,K,so',sc',lo',lc',d,E⟩
 dsimp only at d E⊢
 have o:=yU hx E;have X:=P.trans e3;have u:=O.ext e3;have H:gm B w0 G:=WrR.ext X Y;have W:eq B G:=hT.on H.below;have hs3:Sl G (fun k=>k<B) so sc ns:=T.mono (fun k y=>H.below.block k y) S3;have fin:∀{q w5:World} {wd:ar},WB q B b (.slice so ns.length sc) (.slice fo fl.length fc) F l->gm B w0 q->wd=nm++Jz D e e->wd.length<=40->Rt UA 36 [Tg b,tV wd,.slice none 0 0].toArray q fun v w5=>∃t,eC (ns,fl) r tok st t/\t.length<=40/\WB w5 B b (.slice so ns.length sc) (.slice fo fl.length fc) F (l++(t++[10]))/\gm B w0 w5:=fun {q w5 wd} h4 Q n R=>by
  refine Ng (Av q (wd:=wd) h4 (Qk Y Q.below.size) (T.mono (fun k y=>Q.below.block k y) S3) (Own.nil (B:=0) (e:=3)) (fun _ h=>by cases h) hp SQ SM) ?_;rintro e' w5 ⟨v,rfl,h5,r5⟩
  refine⟨v,rfl,wd,⟨D,s,K,e,e,E,by rw[U];exact n⟩,R,?_,Q.trans r5⟩;simpa[LZ]using h5
 clear A n p L;refine TI ?_;apply CW.cond rfl<;>intro h
 ·have h:e≠0:=by simpa using h
  have hil:=yL o.1 (by have:=o.2;omega);refine TP ?_;refine eR (a:=nm) (b:=I1) rfl rfl rfl rfl ST (Ue ?_);refine eN (yO G W o.1 (by have:=o.2;omega)) ?_;rintro _ q ⟨rfl,e4⟩
  refine eR (a:=nm++I1) rfl rfl rfl rfl ST (eN (fin (w5:=q) (wd:=nm++I1++Lib.itoa e) (u.ext e4) (H.trans (WrR.ext e4 (Qk Y H.below.size))) (by unfold Jz;rw[Sj h,NF]) ST) ?_);rintro _ w5 ⟨t,h1,h2,h3,h4⟩
  refine TK ?_;exact a7 rfl ⟨t,h1,h2,h3,h4⟩
 have he:e=0:=by simpa using h
 subst he;clear h;cases D with
 |true=>
  refine TW ?_;refine eR (a:=nm) (b:=I3) rfl rfl rfl rfl ST (eN (fin (w5:=G) (wd:=nm++I3) u H rfl ST) ?_);rintro _ w5 ⟨t,h1,h2,h3,h4⟩
  refine TK ?_;exact a7 rfl ⟨t,h1,h2,h3,h4⟩
 |false=>
  refine TX ?_;refine eR (a:=nm) (b:=IX) rfl rfl rfl rfl ST (eN (fin (w5:=G) (wd:=nm++IX) u H rfl ST) ?_);rintro _ w5 ⟨t,h1,h2,h3,h4⟩
  refine TK ?_;exact a7 rfl ⟨t,h1,h2,h3,h4⟩
open Go.ChangeShapes
open Go.WideShapes
open Go.ChangeAt
def jC{H:Type}(d:DataW H):1<=Rows.uptoBulk d:=by
 cases d with
 |lit l=>cases l<;>simp[Rows.uptoBulk]
 |nil=>simp[Rows.uptoBulk]
 |ptr d=>simp[Rows.uptoBulk]
 |slice elems spare=>simp[Rows.uptoBulk]
 |agg parts=>simp[Rows.uptoBulk]
 |iface t d=>simp[Rows.uptoBulk]
 |map entries=>simp[Rows.uptoBulk]
 |held h=>simp[Rows.uptoBulk]
def jB{H:Type}(l r:List (DataW H)):Rows.uptoBulkAll (l++r)=Rows.uptoBulkAll l+Rows.uptoBulkAll r:=by
 induction l with
 |nil=>simp[Rows.uptoBulkAll]
 |cons x l a=>simp only[NI,Rows.uptoBulkAll,a];omega
class Bk(α:Type)where
 bk:α->Nat
abbrev bk{α:Type}[Bk α]:α->Nat:=Bk.bk
instance:Bk Int:=⟨fun _=>1⟩
instance:Bk ByteArray:=⟨fun s=>s.size+1⟩
def jr{α:Type}[Bk α]:List α->Nat
 |[]=>0
 |x::r=>bk x+jr r
instance vz{α:Type}[Bk α]:Bk (List α):=⟨fun l=>jr l+1⟩
class Opn(P:Program)(t:TypeId)(α:Type)[Rep α][Bk α]:Prop where
 op:∀{H:Type} {enc:TypeId×Value->H} {w:World} {fuel:Nat} {cs:List Value} {d:DataW H} {ps:List MemPlace},DataW.trod enc P w 0 (fun _=>true) true fuel t cs=some (d,ps)->∃x:α,rd w (dl w) cs x/\bk x<=Rows.uptoBulk d
theorem Opn.int(h:P.underlying t=some (.int .i64)):Opn P t Int where
 op:=by
  intro H enc w fuel cs d ps hd
  cases fuel with
  |zero=>simp[DataW.trod]at hd
  |succ fuel=>
   unfold DataW.trod at hd
   rw[h]at hd
   split at hd<;>try (simp at*;done)
   rename_i k k' n a;simp at a
   split at hd
   ·rename_i b
    simp at hd
    obtain⟨rfl,rfl⟩:=hd;exact⟨n,by rw[b.1,<-a];rfl,jC _⟩
   ·cases hd
theorem Opn.string(h:P.underlying t=some .string):Opn P t ByteArray where
 op:=by
  intro H enc w fuel cs d ps hd
  cases fuel with
  |zero=>simp[DataW.trod]at hd
  |succ fuel=>
   unfold DataW.trod at hd
   rw[h]at hd
   split at hd<;>try (simp at*;done)
   rename_i s b;split at hd
   ·rename_i a
    simp at hd
    obtain⟨rfl,rfl⟩:=hd;refine⟨s,⟨rfl,a⟩,?_⟩;show s.size+1<=_;simp only[Rows.uptoBulk];have e:s.data.toList.length=s.size:=by rw[MP];rfl
    omega
   ·cases hd
def A7{β:Type}(f:Nat->Option β):∀(n:Nat) (a:List β),(List.range n).mapM f=some a->a.length=n/\∀i (h:i<a.length),f i=some a[i]
 |0,a,h=>by
  simp at h;subst h
  exact⟨rfl,fun i hi=>absurd hi SQ⟩
 |n+1,a,h=>by
  rw[PL,List.mapM_append]at h
  simp only[O_,Pa,QQ,QU]at h
  cases h1:(List.range n).mapM f with
  |none=>rw[h1]at h;cases h
  |some l=>
   rw[h1]at h
   cases h2:f n with
   |none=>rw[h2]at h;cases h
   |some y=>
    rw[h2]at h
    simp at h
    subst h;obtain⟨d,hi⟩:=A7 f n l h1;refine⟨by simp[d],fun i c=>?_⟩;by_cases b:i<l.length
    ·rw[Oz b];exact hi i b
    ·have:i=n:=by simp at c;omega
     subst this;rw[OA SM];simpa[d]using h2
def A6{a:Addr}{n:Nat}{cs:List Value}(h:w.cells? 0 a n=some cs):cs.length=n/\∀j (b:j<cs.length),w.cell? (a.add j)=some cs[j]:=by
 unfold World.cells? at h
 rw[Sj (QK _)]at h
 exact A7 _ n cs h
def HU{e:TypeId}[Rep α][Bk α][L:IsS P t e][V:IsT P e α]{H:Type}{enc:TypeId×Value->H}{fuel:Nat}
  (N:∀{cs:List Value} {d:DataW H} {ps:List MemPlace},DataW.trod enc P w 0 (fun _=>true) true fuel e cs=some (d,ps)->∃x:α,rd w (dl w) cs x/\bk x<=Rows.uptoBulk d)
  {cs:List Value} {d:DataW H} {ps:List MemPlace} (hd:DataW.trod enc P w 0 (fun _=>true) true (fuel+1) t cs=some (d,ps)):∃x:List α,rd w (dl w) cs x/\bk x<=Rows.uptoBulk d:=by
 unfold DataW.trod at hd
 rw[L.ok]at hd
 obtain⟨U,D,C⟩:=IsT.info (P:=P) (t:=e) (α:=α);have v:P.cellsOf e=sz α:=by simp[Program.cellsOf,D,C]
 have W:0<sz α:=Rep.pos;split at hd<;>try (simp at*;done)
 ·simp at hd
  obtain⟨rfl,rfl⟩:=hd;exact⟨[],⟨none,0,rfl,by simp,by simp[maxLen],fun _=>rfl,fun i hi=>absurd hi SQ⟩,jC _⟩
 ·rename_i e' a len cap T
  cases T
  simp only at hd
  split at hd
  ·rename_i q
   obtain⟨_,O,A⟩:=q;rw[v]at hd
   cases B:(List.range len).mapM (fun i=>(w.cells? 0 (a.add (i*sz α)) (sz α)).bind (DataW.trod enc P w 0 (fun _=>true) true fuel e))with
   |none=>rw[B]at hd;cases hd
   |some elems=>
    rw[B]at hd
    simp only[QS,Sk]at hd
    obtain⟨rest,_,p⟩:=QT.1 hd;simp only[QY]at p
    obtain⟨rfl,_⟩:=p;obtain⟨G,f⟩:=A7 _ len elems B;have one:∀i (h:i<elems.length),∃x:α,(∃b off,some a=some ⟨b,off,none⟩/\dl w b/\∃n,Cells w b (off+i*sz α) n/\rd w (dl w) n x)/\bk x<=Rows.uptoBulk (elems[i]).1:=by
     intro i hi
     have h1:=f i hi;cases m:w.cells? 0 (a.add (i*sz α)) (sz α)with
     |none=>rw[m]at h1;cases h1
     |some n=>
      rw[m]at h1
      simp only[QS]at h1
      obtain⟨x,M,F⟩:=N (d:=(elems[i]).1) (ps:=(elems[i]).2) h1;obtain⟨X,q⟩:=A6 m;have I:=q 0 SM;have c:a.spot=none:=by
       cases z:a.spot with
       |none=>rfl
       |some k=>
        have h2:=f 0 SM;cases g:w.cells? 0 (a.add (0*sz α)) (sz α)with
        |none=>rw[g]at h2;cases h2
        |some es0=>
         obtain⟨Q,E⟩:=A6 g;have h3:=E 0 SM;have S:(a.add (0*sz α)).add 0=a:=by simp[Addr.add]
         rw[S]at h3
         unfold World.cell? at h3
         split at h3
         ·simp[z]at h3
         ·cases h3
      obtain⟨b,off,sp⟩:=a;simp only at c
      subst c;rw[RT]at q I
      have r:b<w.heap.size:=RU w _ I;refine⟨x,⟨b,off,rfl,r,n,?_,M⟩,F⟩;intro j u K
      obtain⟨R,rfl⟩:=Oq.1 K;have:=q j R;rwa[RT]at this
    have all:∀k,k<=elems.length->∃xs:List α,xs.length=k/\(∀i (h:i<xs.length),∃b off,some a=some ⟨b,off,none⟩/\dl w b/\∃n,Cells w b (off+i*sz α) n/\rd w (dl w) n xs[i])/\jr xs<=Rows.uptoBulkAll ((elems.map (·.1)).take k):=by
     intro k
     induction k with
     |zero=>intro _;exact⟨[],rfl,fun i hi=>absurd hi SQ,by simp[jr,Rows.uptoBulkAll]⟩
     |succ k s=>
      intro Y
      obtain⟨xs,h1,h2,h3⟩:=s SM;obtain⟨x,h4,Z⟩:=one k SM;refine⟨xs++[x],by simp[h1],?_,?_⟩
      ·intro i hi
       by_cases o:i<xs.length
       ·rw[Oz o];exact h2 i o
       ·have:i=k:=by simp at hi;omega
        subst this;rw[OA SM];simpa[h1]using h4
      ·have F:∀(l:List α),jr (l++[x])=jr l+bk x:=by
        intro l;induction l with
        |nil=>simp[jr]
        |cons y l s=>simp only[NI,jr,s];omega
       rw[F,PZ ST,jB];simp only[OF,Rows.uptoBulkAll];omega
    obtain⟨xs,h1,h2,h3⟩:=all elems.length Ta;have J:xs.length=len:=by omega
    refine⟨xs,⟨some a,cap,by rw[J],⟨by omega,A,(fun h=>by cases h),h2⟩⟩,?_⟩;show jr xs+1<=_;rw[PW SQ]at h3
    simp only[Rows.uptoBulk];omega
  ·cases hd
theorem Opn.slice{e:TypeId}[Rep α][Bk α][c:IsS P t e][b:IsT P e α][a:Opn P e α]:Opn P t (List α)where
 op:=by
  intro H enc w fuel cs d ps hd
  cases fuel with
  |zero=>simp[DataW.trod]at hd
  |succ fuel=>exact HU (e:=e) (fun h=>a.op h) hd
def CV{r:Reach}{d:TypeDesc}(a:P.underlying t=some d)(h:Value.okWide P w r B t v):
  (gA d=false->v.oneCell'=true)/\(gA d=true->∃cs,v=.agg cs):=by
 unfold Value.okWide at h
 rw[a]at h
 constructor
 ·intro hd
  cases v<;>first
   |rfl
   |(exfalso;cases d<;>simp[gA]at hd<;>simp[Cell.okWide,Cell.ok,a]at h)
 ·intro hd
  cases d<;>simp[gA]at hd<;>(obtain⟨cs,rfl,_⟩:=h;exact⟨cs,rfl⟩)
def Opn.arg[Rep α][Bk α][c:IsT P t α][f:Opn P t α]{H:Type}{enc:TypeId×Value->H}{d:DataW H}{ps:List MemPlace}{r:Reach}
  (b:Value.okWide P w r B t v) (h:DataW.Trod enc P w 0 (fun _=>true) true t v d ps):∃x:α,Rd w (dl w) v x/\bk x<=Rows.uptoBulk d:=by
 obtain⟨i,dd,_,_,h3,h4⟩:=c.ok;obtain⟨k,j⟩:=CV h3 b;obtain⟨fuel,hf⟩:=h;obtain⟨x,e,g⟩:=f.op hf;refine⟨x,⟨v.cells.toList,?_,e⟩,g⟩;unfold Lb;split
 ·rename_i a
  obtain⟨cs,rfl⟩:=j (h4.trans a);simp[Value.cells]
 ·rename_i a
  have:=k (h4.trans a);cases v<;>first|rfl|(simp[Value.oneCell']at this)
def J_{H:Type}{enc:TypeId×Value->H}{P:Program}(i:laidOutB P=true){W W':World}(j:Ext W W'):∀{c:List TypeId} {vs:List Value} {g:List (DataW H)} {ps:List MemPlace},
  (∀t∈c,P.readableRec t=true/\t<P.types.size)->DataW.TrodAll enc P W 0 (fun _=>true) true c vs g ps->(∀x∈ps,x.block<W.heap.size)->
  DataW.TrodAll enc P W' 0 (fun b=>decide (b<W.heap.size)) true c vs g ps
 |[],[],[],_,_,h,_=>h
 |t::c,v::vs,d::g,ps,f,h,a=>by
  obtain⟨p,q,h1,h2,rfl⟩:=h;exact⟨p,q,Below.trod i (f t SQ).1 (f t SQ).2 h1 j (fun x e=>a x (by simp[e])),
   J_ i j (fun t k=>f t (by simp[k])) h2 (fun x e=>a x (by simp[e])),rfl⟩
 |[],[],_::_,_,_,h,_=>h.elim
 |[],_::_,[],_,_,h,_=>h.elim
 |[],_::_,_::_,_,_,h,_=>h.elim
 |_::_,[],[],_,_,h,_=>h.elim
 |_::_,[],_::_,_,_,h,_=>h.elim
 |_::_,_::_,[],_,_,h,_=>h.elim
def law_post{H:Type}{enc:TypeId×Value->H}{s:ChangeSpec}{W:World}{a gs:List (DataW H)}{before:List MemPlace}{tb:TypeId}
  (l:laidOutB P=true) (f:DataW.Whole enc P I.params.toList s.vars false W M.toList a gs before) (g:s.vars=[]) (k:∀t∈I.params.toList,P.readableRec t=true/\t<P.types.size)
  (c:(s.fn H (a++gs)).results=[.lit (.bool true)]/\(s.fn H (a++gs)).args=a/\(s.fn H (a++gs)).vars=[]) (b:I.resultTypes=#[tb]) (m:P.underlying tb=some .bool) (i:Ext W w):
  s.post enc P I false true false false W M (.bool true) w:=by
 have d:=f.lt;have e:=f;obtain⟨p,q,o,n,rfl,_,_⟩:=f;rw[g]at n
 obtain⟨v,u,r⟩:=c;refine⟨a,gs,p++q,[],p,[],e,?_,?_,?_,i.frame _,fun h=>by cases h⟩
 ·rw[v,b]
  exact trodAll_mk1 (shut_bool m true)
 ·rw[u]
  exact J_ l i k o (fun x j=>d x (by simp[j]))
 ·rw[r,g]
  exact rfl
instance vA{α β:Type}[Bk α][Bk β]:Bk (α×β):=⟨fun x=>bk x.1+bk x.2⟩
class OpnFs(P:Program)(fs:List (TypeId×Nat))(off:Nat)(α:Type)[Rep α][Bk α]:Prop where
 op:∀{H:Type} {enc:TypeId×Value->H} {w:World} {fuel:Nat} {cs:List Value} {xs:List (DataW H×List MemPlace)},off+sz α=cs.length->
  (fs.mapM fun f=>DataW.trod enc P w 0 (fun _=>true) true fuel f.1 ((cs.drop f.2).take (P.cellsOf f.1)))=some xs->∃x:α,rd w (dl w) (cs.drop off) x/\bk x<=Rows.uptoBulkAll (xs.map (·.1))
def j7[Rep α][a:IsT P t α]:P.cellsOf t=sz α:=by
 obtain⟨i,h1,h2⟩:=IsT.info (P:=P) (t:=t) (α:=α);simp[Program.cellsOf,h1,h2]
instance OpnFs.one{P:Program}{t:TypeId}{off:Nat}{α:Type}[Rep α][Bk α][e:IsT P t α][b:Opn P t α]:OpnFs P [(t,off)] off α where
 op:=by
  intro H enc w fuel cs xs f h
  simp only[O_,Pa,QQ,QU]at h
  cases h1:DataW.trod enc P w 0 (fun _=>true) true fuel t ((cs.drop off).take (P.cellsOf t))with
  |none=>rw[h1]at h;cases h
  |some d=>
   rw[h1]at h;simp at h;subst h
   obtain⟨d,ps⟩:=d;obtain⟨x,a,c⟩:=b.op h1;rw[j7 (α:=α),PW (by rw[OW];omega)]at a
   exact⟨x,a,by simpa[Rows.uptoBulkAll]using c⟩
instance OpnFs.cons{P:Program}{t:TypeId}{off:Nat}{f:TypeId×Nat}{fs:List (TypeId×Nat)}{α β:Type}[Rep α][Bk α][Rep β][Bk β][i:IsT P t α][g:Opn P t α][e:OpnFs P (f::fs) (off+sz α) β]:OpnFs P ((t,off)::f::fs) off (α×β)where
 op:=by
  intro H enc w fuel cs xs j h
  rw[O_]at h
  simp only[QQ,QU]at h
  have a:off+sz α+sz β=cs.length:=by
   have:sz (α×β)=sz α+sz β:=rfl;omega
  cases h1:DataW.trod enc P w 0 (fun _=>true) true fuel t ((cs.drop off).take (P.cellsOf t))with
  |none=>rw[h1]at h;cases h
  |some d=>
   rw[h1]at h
   simp only[QS]at h
   obtain⟨ys,h2,h3⟩:=QR.1 h;cases h3
   obtain⟨d,ps⟩:=d;obtain⟨x,b,l⟩:=g.op h1;obtain⟨y,c,k⟩:=e.op a h2;rw[j7 (α:=α)]at b
   refine⟨(x,y),⟨(cs.drop off).take (sz α),cs.drop (off+sz α),?_,b,c⟩,?_⟩
   ·rw[<-NU,List.take_append_drop]
   ·show bk x+bk y<=_
    simp only[Pd,Rows.uptoBulkAll];omega
def Ii(P:Program)(t:TypeId):Option (List (TypeId×Nat)):=match P.underlying t with
 |some (.struct fs)=>some (fs.toList.map fun f=>(f.type,f.offset))
 |_=>none
theorem Opn.struct{fs:List (TypeId×Nat)}[Rep α][Bk α][e:IsT P t α][hf:OpnFs P fs 0 α](h:Ii P t=some fs):Opn P t α where
 op:=by
  intro H enc w fuel cs d ps hd
  unfold Ii at h
  split at h
  ·rename_i gs a
   cases h
   cases fuel with
   |zero=>simp[DataW.trod]at hd
   |succ fuel=>
    unfold DataW.trod at hd
    rw[a]at hd
    simp only at hd
    split at hd
    ·rename_i c
     obtain⟨xs,h1,h2⟩:=QT.1 hd;cases h2
     have:=hf.op (enc:=enc) (w:=w) (fuel:=fuel) (cs:=cs) (xs:=xs) (by rw[c,j7 (α:=α)];omega) (by rw[List.mapM_map];exact h1);obtain⟨x,b,f⟩:=this;exact⟨x,by simpa using b,by simp only[Rows.uptoBulk];omega⟩
    ·cases hd
  ·cases h
instance:Opn UA 3 Int:=Opn.int Rw
instance:Opn UA 9 ByteArray:=Opn.string RI
instance:Opn UA 123 (ByteArray×Int):=Opn.struct (fs:=[(9,0),(3,1)]) SN
instance:Opn UA 48 (Int×Int):=Opn.struct (fs:=[(3,0),(3,1)]) SN
instance:Opn UA 22 (List (ByteArray×Int)):=Opn.slice
instance:Opn UA 23 (List (Int×Int)):=Opn.slice
instance:Opn UA 27 (Int×Int×Int×Int×Int×Int×Int):=Opn.struct (fs:=[(3,0),(3,1),(3,2),(3,3),(3,4),(3,5),(3,6)]) SN
instance:Opn UA 29 (Int×Int×Int×Int):=Opn.struct (fs:=[(3,0),(3,1),(3,2),(3,3)]) SN
instance:Opn UA 25 (List (ByteArray×Int)×List (Int×Int)):=Opn.struct (fs:=[(22,0),(23,1)]) SN
instance:Bk Ltl:=⟨Ltl.nodes⟩
def Ap{cs:List Value}(h:cs.length=3):∃c0 c1 c2,cs=[c0,c1,c2]:=by
 match cs,h with
 |[a,b,c],_=>exact⟨a,b,c,rfl⟩
def AS{H:Type}{enc:TypeId×Value->H}:∀(fuel:Nat) {cs:List Value} {d:DataW H} {ps:List MemPlace},DataW.trod enc UA w 0 (fun _=>true) true fuel 32 cs=some (d,ps)->∃x:Ltl,rd w (dl w) cs x/\bk x<=Rows.uptoBulk d:=by
 intro fuel
 induction fuel using Nat.strongRecOn with
 |_ fuel u=>
  intro cs d ps hd
  have a:Ii UA 32=some [(3,0),(3,1),(30,2)]:=by kernel_rfl
  unfold Ii at a
  split at a
  ·rename_i gs v
   have a:=QV a;cases fuel with
   |zero=>simp[DataW.trod]at hd
   |succ fuel=>
    unfold DataW.trod at hd
    rw[v]at hd
    simp only at hd
    split at hd
    ·rename_i y
     obtain⟨xs,h1,h2⟩:=QT.1 hd;cases h2
     have h3:(List.map (fun f:Field=>(f.type,f.offset)) gs.toList).mapM (fun f:TypeId×Nat=>DataW.trod enc UA w 0 (fun _=>true) true fuel f.1 ((cs.drop f.2).take (Tryz.prog.cellsOf f.1)))=some xs:=by rw[List.mapM_map];exact h1
     rw[a]at h3
     rw[j7 (α:=Ltl)]at y
     have o:cs.length=3:=y;simp only[O_,Pa,QQ,QU]at h3
     obtain⟨B,s,h3⟩:=QR.1 h3;obtain⟨K,h3,g⟩:=QR.1 h3;obtain⟨A,q,h3⟩:=QR.1 h3;obtain⟨J,h3,c⟩:=QR.1 h3;obtain⟨z,i,h3⟩:=QR.1 h3;simp at h3 c g
     subst h3 c g;obtain⟨d1,p1⟩:=B;obtain⟨d2,p2⟩:=A;obtain⟨d3,L⟩:=z;rw[j7 (α:=Int)]at s q
     rw[j7 (α:=List Ltl)]at i
     obtain⟨k,D,bk1⟩:=Opn.op (P:=UA) (t:=3) (α:=Int) s;obtain⟨n,hn,bk2⟩:=Opn.op (P:=UA) (t:=3) (α:=Int) q;cases fuel with
     |zero=>simp[DataW.trod]at i
     |succ fuel=>
      obtain⟨kids,b,bk3⟩:=HU (α:=Ltl) (e:=32) (fun h=>u fuel SM h) i;obtain⟨ao,cap,E,C⟩:=Fe b;have p:=E7 D;have m:=E7 hn;refine⟨.mk k n kids,?_,?_⟩
      ·clear v a h1 s q i u bk1 bk2 bk3
       obtain⟨c0,c1,c2,rfl⟩:=Ap o;have I:[c0]=[.int .i64 k]:=p;have a1:[c1]=[.int .i64 n]:=m;have a2:[c2]=[.slice ao kids.length cap]:=E;rw[NH I|>.1,NH a1|>.1,NH a2|>.1];exact RdT.of C
      ·have j:∀l:List Ltl,jr l=Ltl.nodesL l:=by
        intro l
        induction l with
        |nil=>rfl
        |cons x r ihl=>simp only[jr,Ltl.nodesL,ihl];rfl
       have G:bk kids=jr kids+1:=rfl;have F:bk (Ltl.mk k n kids)=1+Ltl.nodesL kids:=by show Ltl.nodes _=_;simp[Ltl.nodes]
       rw[F,<-j];simp only[Pd,Pf,Rows.uptoBulk,Rows.uptoBulkAll];omega
    ·cases hd
  ·cases a
instance:Opn UA 32 Ltl where
 op:=fun h=>AS _ h
def mK{H:Type}{enc:TypeId×Value->H}:∀(fuel:Nat) {cs:List Value} {d:DataW H} {ps:List MemPlace},DataW.trod enc UA w 0 (fun _=>true) true fuel 35 cs=some (d,ps)->∃x:Ltl,rd w (dl w) cs x/\bk x<=Rows.uptoBulk d:=by
 intro fuel
 induction fuel using Nat.strongRecOn with
 |_ fuel u=>
  intro cs d ps hd
  have a:Ii UA 35=some [(3,0),(3,1),(33,2)]:=by kernel_rfl
  unfold Ii at a
  split at a
  ·rename_i gs v
   have a:=QV a;cases fuel with
   |zero=>simp[DataW.trod]at hd
   |succ fuel=>
    unfold DataW.trod at hd
    rw[v]at hd
    simp only at hd
    split at hd
    ·rename_i y
     obtain⟨xs,h1,h2⟩:=QT.1 hd;cases h2
     have h3:(List.map (fun f:Field=>(f.type,f.offset)) gs.toList).mapM (fun f:TypeId×Nat=>DataW.trod enc UA w 0 (fun _=>true) true fuel f.1 ((cs.drop f.2).take (Tryz.prog.cellsOf f.1)))=some xs:=by rw[List.mapM_map];exact h1
     rw[a]at h3
     rw[j7 (α:=Ltl)]at y
     have o:cs.length=3:=y;simp only[O_,Pa,QQ,QU]at h3
     obtain⟨B,s,h3⟩:=QR.1 h3;obtain⟨K,h3,g⟩:=QR.1 h3;obtain⟨A,q,h3⟩:=QR.1 h3;obtain⟨J,h3,c⟩:=QR.1 h3;obtain⟨z,i,h3⟩:=QR.1 h3;simp at h3 c g
     subst h3 c g;obtain⟨d1,p1⟩:=B;obtain⟨d2,p2⟩:=A;obtain⟨d3,L⟩:=z;rw[j7 (α:=Int)]at s q
     rw[j7 (α:=List Ltl)]at i
     obtain⟨k,D,bk1⟩:=Opn.op (P:=UA) (t:=3) (α:=Int) s;obtain⟨n,hn,bk2⟩:=Opn.op (P:=UA) (t:=3) (α:=Int) q;cases fuel with
     |zero=>simp[DataW.trod]at i
     |succ fuel=>
      obtain⟨kids,b,bk3⟩:=HU (α:=Ltl) (e:=35) (fun h=>u fuel SM h) i;obtain⟨ao,cap,E,C⟩:=Fe b;have p:=E7 D;have m:=E7 hn;refine⟨.mk k n kids,?_,?_⟩
      ·clear v a h1 s q i u bk1 bk2 bk3
       obtain⟨c0,c1,c2,rfl⟩:=Ap o;have I:[c0]=[.int .i64 k]:=p;have a1:[c1]=[.int .i64 n]:=m;have a2:[c2]=[.slice ao kids.length cap]:=E;rw[NH I|>.1,NH a1|>.1,NH a2|>.1];exact RdT.of C
      ·have j:∀l:List Ltl,jr l=Ltl.nodesL l:=by
        intro l
        induction l with
        |nil=>rfl
        |cons x r ihl=>simp only[jr,Ltl.nodesL,ihl];rfl
       have G:bk kids=jr kids+1:=rfl;have F:bk (Ltl.mk k n kids)=1+Ltl.nodesL kids:=by show Ltl.nodes _=_;simp[Ltl.nodes]
       rw[F,<-j];simp only[Pd,Pf,Rows.uptoBulk,Rows.uptoBulkAll];omega
    ·cases hd
  ·cases a
instance:Opn UA 35 Ltl where
 op:=fun h=>mK _ h
instance:IsT UA 37 (ByteArray×Int×(Int×Int×Int×Int×Int×Int×Int)×(Int×Int×Int×Int)×Ltl×Ltl):=IsT.of SN RA rfl
instance:Opn UA 37 (ByteArray×Int×(Int×Int×Int×Int×Int×Int×Int)×(Int×Int×Int×Int)×Ltl×Ltl):=Opn.struct (fs:=[(9,0),(3,1),(27,2),(29,9),(32,13),(35,16)]) SN
instance:IsF UA 38:=UB Tryz.func38
instance:IsF UA 39:=UB Tryz.func39
instance:IsF UA 40:=UB Tryz.func40
instance:IsZC UA 114 [.slice none 0 0,.slice none 0 0,.slice none 0 0,.pointer none,.slice none 0 0]:=IsZC.of (z:=.agg #[.slice none 0 0,.slice none 0 0,.slice none 0 0,.pointer none,.slice none 0 0]) SN rfl
instance:IsBd UA 114 [(0,2),(2,1),(3,2)]:=IsBd.of SN
instance:IsZC UA 37 [.string ⟨#[]⟩,Te 0,Te 0,Te 0,Te 0,Te 0,Te 0,Te 0,Te 0,Te 0,Te 0,Te 0,Te 0,Te 0,Te 0,.slice none 0 0,Te 0,Te 0,.slice none 0 0]:=
 IsZC.of (z:=.agg #[.string ⟨#[]⟩,Te 0,Te 0,Te 0,Te 0,Te 0,Te 0,Te 0,Te 0,Te 0,Te 0,Te 0,Te 0,Te 0,Te 0,.slice none 0 0,Te 0,Te 0,.slice none 0 0]) SN rfl
instance:IsS UA 62 37:=⟨Tryz.underlying62⟩
instance:IsT UA 62 (List cS):=IsT.of SN Tryz.underlying62 rfl
def KT(x y:List ar):KQ (x++y)=KQ x++KQ y:=by unfold KQ;rw[Oc]
def oA{nl:List (List cN)}{i:Nat}(h:i<nl.length):ox (nl.take (i+1))=ox (nl.take i)+nl[i].length:=by
 unfold ox;rw[PZ h];simp only[Pb,List.sum_append,Pd,Pf,PS,List.sum_nil,P9]
def oz{nl:List (List cN)}(h:∀r∈nl,r.length<=60)(i:Nat):ox (nl.take i)<=60*nl.length:=by
 unfold ox
 induction nl generalizing i with
 |nil=>simp
 |cons r l a=>
  cases i with
  |zero=>simp
  |succ i=>
   have h1:=a (fun x b=>h x (Pl _ b)) i;have h2:=h r (Pm ..);simp only[PY,Pd,PS,OU]at h1⊢
   omega
def ez(w0:World){so fo:Option Addr}{sc fc:Nat}{ns:List cP}{fl:List cO}{rs:List cS}(hs:Sl w0 (dl w0) so sc ns)(hf:Sl w0 (dl w0) fo fc fl)(hr:Sl w0 (dl w0) C K rs)(hT:eq w0.heap.size w0)(tok st:Int):
  Rt UA 13 [Er so sc fo fc ns.length fl.length,.slice C rs.length K,Te tok,Te st].toArray w0 fun v w'=>(∃T e,v=.tuple ⟨[tV T,Te e]⟩/\(e≠0->T=[])/\((pS (ns,fl) tok st).2=0->rs.length<=20->e=0)/\
   (e=0->ew (ns,fl) rs tok st T/\(pS (ns,fl) tok st).2=0/\T.length<=90000))/\Ext w0 w':=by
 have hrl:=hr.len63;refine dX Tryz.func13 Tryz.ntmps13 rfl rfl (T9 ?_);refine eJ fun w1 f e1=>?_
 refine TN ?_;refine eN (bM w1 (hs.up e1) (hf.up e1) tok st) ?_;rintro _ w2 ⟨mv,nv,rfl,hmv,D,e2⟩
 obtain⟨mo,mc,rfl,hm⟩:=hmv.sl;obtain⟨no,nc,rfl,hn⟩:=D.sl;have f:=f.ext e2;have N:=e1.trans e2;have hlaw:=pU (p:=(ns,fl)) (tok:=tok) (st:=st);have hlb:=AJ (p:=(ns,fl)) (tok:=tok) (st:=st);have hvd:=fun w=>@Lg w
 clear hmv D e1 e2;refine Ue ?_;refine eF (fun w3 d e3=>?_);refine f_ d (fun l d hg4=>?_);have e4:Ext w2 l:=e3.grown hg4 e3.size SZ;have f:=f.ext e4;have N:=N.trans e4;have hm:=hm.up e4;have hn:=hn.up e4;clear e3 e4 hg4;refine T2 ?_;apply CW.cond rfl<;>intro h
 ·have h:(pS (ns,fl) tok st).2≠0:=by simpa using h
  refine Tw ?_;exact bl rfl rfl rfl ⟨⟨[],_,rfl,fun _=>rfl,fun h'=>absurd h' h,fun h'=>absurd h' h⟩,N⟩
 have L:(pS (ns,fl) tok st).2=0:=by simpa using h
 clear h;refine TE ?_;apply CW.cond rfl<;>intro h
 ·have h:20<rs.length:=by have:=Sq h;omega
  refine Tw ?_;exact bl rfl rfl rfl ⟨⟨[],_,rfl,fun _=>rfl,fun _ h'=>by omega,fun h'=>by cases h'⟩,N⟩
 have hr20:rs.length<=20:=by have:=Sp h;omega
 clear h;obtain⟨hz,hsr,hsp,hnl,hml0,_,h200⟩:=hlaw L;obtain⟨hc0,hse,hl60⟩:=It hz;have hp:=kY hc0;have hst:=hsr.st;have hrow:=H5 hsp hl60;have hLB:=hlb L;have hed:=oz hrow;have n4:=f.lt;have n10:=d.lt;clear hlaw hlb;refine Tq ?_;refine WL.build (parts:=[(0,_)]) rfl rfl rfl rfl (eJ fun w5 m Y=>?_)
 have l12:=m.lt;have f:=f.ext Y;have d:=d.ext Y;have hE5:=N.trans Y;have hm5:=hm.up Y;have hn5:=hn.up Y;refine TN ?_;refine eN (dk w5 (hs.up hE5) (hf.up hE5)) ?_;rintro _ w6 ⟨sv,rfl,W,e6⟩
 obtain⟨lo,lc,rfl⟩:=W.val;have m:=m.ext e6;have d:=d.ext e6;have f:=f.ext e6;have z5:=Y.size;have z6:=e6.size;refine Uk ?_;refine f_ m (fun E m I=>?_);have e7:Ext l E:=(Y.trans e6).grown I (Y.trans e6).size SZ;have hsl7:=W.keptN I (fun g hg e=>by cases e;have:=(W.lt _ hg).1;omega);have dn:∀{α:Type} [Rep α] {ao:Option Addr} {c:Nat} {xs:List α},Sl l (dl l) ao c xs->Sl E (fun k=>k<l.heap.size) ao c xs:=fun h=>h.mono (fun k M=>e7.block k M) S3
 have X:=dn (hs.up N);have hf7:=dn (hf.up N);have hr7:=dn (hr.up N);have hm7:=dn hm;have hn7:=dn hn;have f:Blk E w0.heap.size 25 [.slice so ns.length sc,.slice fo fl.length fc]:=f.kept I S6;have d:Blk E w2.heap.size 53 [.slice mo (pS (ns,fl) tok st).1.1.length mc,.slice no (pS (ns,fl) tok st).1.2.length nc]:=d.kept I S6;have hE7:=N.trans e7;have hz7:=e7.size;have y:l.heap.size<=E.heap.size:=e7.size;have hW:=WB.new m Ta;have hX:∀{w'},Below l.heap.size E w'->Ext w0 w':=fun {w'} h=>Below.trans hE7 (⟨h.os,h.tape,h.output,h.size,fun k M=>h.block k SM⟩:Below w0.heap.size E w')
 have hT7:eq l.heap.size E:=fun w' hb=>hT w' (hX hb)
 have toO:∀{α:Type} [Rep α] {w:World} {ao:Option Addr} {c:Nat} {xs:List α},gm l.heap.size E w->Sl E (fun k=>k<l.heap.size) ao c xs->Sl w (fun k=>k<l.heap.size) ao c xs/\Sl w (dl w) ao c xs:=fun r h=>by
  have h1:=h.mono (w':=_) (fun k M=>r.below.block k M) S3;exact⟨h1,h1.mono S8 (fun k M=>by have:=r.below.size;have M:k<l.heap.size:=M;show k<_;omega)⟩
 have hgz:(ox (pS (ns,fl) tok st).1.2:Int)<=12000:=by have:=hed (pS (ns,fl) tok st).1.2.length;rw[PV]at this;omega
 clear hs hf hr hm hn hm5 hn5 N hE5 Y e6 e7 I W hT dn m;refine Ty ?_;refine CW.loop (S:=Nat) (fun i=>[(1,.slice C rs.length K),(2,Te tok),(3,Te st),(4,Tg w0.heap.size),(10,Tg w2.heap.size),(12,Tg l.heap.size),(13,Te (ox ((pS (ns,fl) tok st).1.2.take i):Nat)),(45,.slice no (pS (ns,fl) tok st).1.2.length nc),(46,Te (pS (ns,fl) tok st).1.2.length),(47,Te i)])
  (fun i w=>i<=(pS (ns,fl) tok st).1.2.length/\w=E) (fun i=>(pS (ns,fl) tok st).1.2.length -i) 0 SL ⟨QK _,rfl⟩ ?_
 rintro i w ⟨hi,rfl⟩
 refine T2 ?_;apply CW.cond rfl<;>intro h
 ·have A:i<(pS (ns,fl) tok st).1.2.length:=by simpa using h
  have hnx:=oA A;have hed1:=hed i;have hrl1:=hrow _ (OG A);refine T7 ?_;refine fg (i:=i) rfl rfl rfl rfl rfl hn7 A SX (fun u q hu=>?_);obtain⟨va,vc,rfl,hvs⟩:=hu.sl;refine TF ?_;refine EX.back (i+1) (by rw[hnx];exact SL) ⟨A,rfl⟩ SM
 obtain rfl:i=(pS (ns,fl) tok st).1.2.length:=by simp at h;omega
 rw[PV];clear h;have hlm:(pS (ns,fl) tok st).1.1.length<=200:=by omega
 have i1:=yL (n:=((pS (ns,fl) tok st).1.1.length:Nat)) SM SM;have i2:=yL (n:=(ox (pS (ns,fl) tok st).1.2:Nat)) SM SM;refine T6 ?_;refine eN (yO w hT7 (show (0:Int)<=((pS (ns,fl) tok st).1.1.length:Nat) by omega) SM) ?_;rintro _ w8 ⟨rfl,e8⟩
 refine eR (a:=I5) rfl rfl rfl rfl ST (eR (b:=I0) rfl rfl rfl rfl ST (Ue ?_));have r8:gm l.heap.size w w8:=WrR.ext e8 y;refine eN (yO w8 (hT7.on r8.below) (show (0:Int)<=(ox (pS (ns,fl) tok st).1.2:Nat) by omega) SM) ?_;rintro _ w9 ⟨rfl,e9⟩
 refine eR rfl rfl rfl rfl ST ?_;have e89:=e8.trans e9;have r9:gm l.heap.size w w9:=WrR.ext e89 y;have hhl:(um (ns,fl) tok st).length<=60:=by unfold um uq;simp;omega
 refine eN (Av w9 (wd:=um (ns,fl) tok st) (hW.ext e89) (Qk y r9.below.size) (toO r9 X).1 (Own.nil (B:=0) (e:=3)) (fun _ h=>(by cases h)) hp SQ ST) ?_;rintro _ w10 ⟨h10,o⟩
 rw[show []++(LZ (ns,fl) (um (ns,fl) tok st) []++[10])=KQ [um (ns,fl) tok st] by simp[LZ,KQ]]at h10
 have o:=r9.trans o;have f:=o.blkK f SP SP;have H:=o.ownK hsl7 SP SP;clear r8 r9 e8 e9 e89 hW;refine TN ?_;refine eN (c7 w10 (toO o X).2 (toO o hf7).2 tok st) ?_;rintro _ Q ⟨dv,sv,nv,rfl,hd,hsv,D,Z⟩
 have r11:gm l.heap.size w Q:=o.trans (WrR.ext Z (Qk y o.below.size));have h11:=h10.ext Z;have hfo:FndO Q (AH (ns,fl) tok st).1 dv sv nv:=⟨hd,hsv,D⟩;have G:=H.extN Z;have hFL:=rM hp hLB;obtain⟨hf1,hf2⟩:=q8 hFL;have hstp:∀s∈(Is (ns,fl)).1,0<=s.1/\s.1<ns.length:=by rw[hse];exact IB
 obtain⟨dO,dC,rfl⟩:=hd.val;obtain⟨sO,sC,rfl⟩:=hsv.val;obtain⟨nO,nC,rfl⟩:=D.val;clear hd hsv D d h10;refine Ue ?_;refine eF (fun w12 t e12=>?_);refine f_ t (fun P t hg13=>?_);have J:Ext Q P:=e12.grown hg13 e12.size SZ;have V:gm l.heap.size w P:=r11.trans (WrR.ext J (Qk y r11.below.size));have h13:=h11.ext J;have t:Blk P Q.heap.size 57 [.slice dO (AH (ns,fl) tok st).1.dead.length dC,Te (AH (ns,fl) tok st).1.still,Te (AH (ns,fl) tok st).1.never,.slice sO (AH (ns,fl) tok st).1.toStill.length sC,.slice nO (AH (ns,fl) tok st).1.toNever.length nC]:=t;refine TN ?_;refine eN (rj P h13 (Qk y V.below.size) (toO V X).1 (G.extN J) (hfo.ext J) hLB rfl hstp hp (by rw[hse];exact hl60) (by simp[KQ];omega)) ?_;rintro _ w14 ⟨h14,U⟩
 have U:=V.trans U;rw[<-KT]at h14
 clear h11 h13 t f H G hsl7 hfo Z e12 J hg13 o r11 V;refine TR ?_;refine CW.loop (S:=Nat) (fun i=>[(2,Te tok),(3,Te st),(12,Tg l.heap.size),(77,.slice C rs.length K),(78,Te rs.length),(79,Te i)])
  (fun i z=>i<=rs.length/\gm l.heap.size w z/\∃vs:List ar,vs.length=i/\(∀j (h:j<rs.length),j<i->eC (ns,fl) rs[j] tok st (vs.getD j []))/\(∀x∈vs,x.length<=2000)/\(KQ vs).length<=41*i/\WB z l.heap.size l.heap.size (.slice so ns.length sc) (.slice fo fl.length fc) (.slice lo (Is (ns,fl)).1.length lc) (KQ ([um (ns,fl) tok st]++qW (ns,fl) (AH (ns,fl) tok st).1++vs)))
  (fun i=>rs.length -i) 0 SL ⟨QK _,U,[],rfl,(fun _ _ h=>by omega),(fun _ h=>by cases h),by simp[KQ],by rw[NG];exact h14⟩ ?_
 clear h14 U;rintro i w15 ⟨hi,R,vs,hvl,hv1,hv2,hv3,h15⟩
 have hfl:=KV hf1;have htot:(KQ ([um (ns,fl) tok st]++qW (ns,fl) (AH (ns,fl) tok st).1++vs)).length<=61+2001*4+41*i:=by
  rw[KT,KT];have e1:(KQ [um (ns,fl) tok st]).length=(um (ns,fl) tok st).length+1:=by simp[KQ]
  simp only[OT,O2,e1];omega
 refine T2 ?_;apply CW.cond rfl<;>intro h
 ·have A:i<rs.length:=by simpa using h
  refine T7 ?_;refine fg (i:=i) rfl rfl rfl rfl rfl (toO R hr7).1 A SX (fun u q hu=>?_);obtain⟨lo',lc',co',cc',rfl,f1,f2,f3⟩:=hu.rule;clear hu;refine eF (fun w16 hb19 e16=>?_);refine f_ hb19 (fun O hb19 hg17=>?_);have e17:Ext w15 O:=e16.grown hg17 e16.size SZ;have z15:=Qk y R.below.size;have F:gm l.heap.size w O:=R.trans (WrR.ext e17 z15);have up:∀{α:Type} [Rep α] {ao:Option Addr} {c:Nat} {xs:List α},Sl w15 (fun k=>k<l.heap.size) ao c xs->Sl O (fun k=>k<l.heap.size) ao c xs:=fun h=>h.mono (fun k M=>e17.block k (by have M:k<l.heap.size:=M;omega)) S3
  refine TN ?_;refine eN (hvd O (h15.ext e17) (Qk y F.below.size) (toO F X).1 (toO F hf7).1 (up f1) (up f2) (hT7.on F.below) L hp SM) ?_;rintro _ w18 ⟨v,hv,hvn,h18,r18⟩
  refine Tn ?_;refine EX.back (i+1) SL ⟨A,F.trans r18,vs++[v],by simp[hvl],fun j hj hji=>?_,fun x L=>?_,?_,?_⟩ SM
  ·rw[Oi]
   by_cases hji':j<i
   ·rw[Oj SM,<-Oi]
    exact hv1 j hj hji'
   ·obtain rfl:j=i:=by omega
    rw[Ok SM,hvl];simpa using hv
  ·rcases Ph.1 L with L|L
   ·exact hv2 x L
   ·rw[Py.1 L];omega
  ·have:KQ (vs++[v])=KQ vs++(v++[10]):=by simp[KQ]
   rw[this];simp only[OT,OU,O2];omega
  ·have:KQ ([um (ns,fl) tok st]++qW (ns,fl) (AH (ns,fl) tok st).1++(vs++[v]))=KQ ([um (ns,fl) tok st]++qW (ns,fl) (AH (ns,fl) tok st).1++vs)++(v++[10]):=by simp[KQ]
   rw[this];exact h18
 obtain rfl:i=rs.length:=by simp at h;omega
 clear h;refine T6 ?_;refine eN (jA w15 h15 (by simp[KQ])) ?_;rintro _ w16 ⟨rfl,b16⟩
 refine Tk ?_;exact bl rfl rfl rfl ⟨⟨_,0,rfl,fun h=>absurd rfl h,fun _ _=>rfl,fun _=>⟨⟨vs,hvl,fun j hj=>hv1 j hj hj,rfl⟩,L,by omega⟩⟩,hX (R.below.trans b16)⟩
instance:IsF UA 16:=UB Tryz.func16
instance:IsF UA 17:=UB Tryz.func17
instance:IsF UA 18:=UB Tryz.func18
def J8(w:World)(s:ar)(a:s.length<=1000000):Rt UA 16 [tV s,tV [10]].toArray w fun v w'=>v=tV (Lib.trimSuffix s [10])/\Ext w w':=by
 refine Ng (Any.strings_TrimSuffix Ho (KB s) (KB [10]) w (by rw[KF];omega)) ?_;rintro e w' ⟨rfl,rfl⟩
 exact⟨_,rfl,rfl,Ext.refl _⟩
def uk(w:World)(s p:ar):Rt UA 17 [tV s,tV p].toArray w fun v w'=>v=.bool (Lib.hasPrefix s p)/\Ext w w':=by
 refine Ng (Any.strings_HasPrefix Hu (KB s) (KB p) w) ?_;rintro e w' ⟨rfl,rfl⟩
 exact⟨_,rfl,rfl,Ext.refl _⟩
def ul(w:World)(s p:ar)(a:s.length<=1000000):Rt UA 18 [tV s,tV p].toArray w fun v w'=>v=.bool (Lib.hasSuffix s p)/\Ext w w':=by
 refine Ng (Any.strings_HasSuffix Hn (KB s) (KB p) w (by rw[KF];omega)) ?_;rintro e w' ⟨rfl,rfl⟩
 exact⟨_,rfl,rfl,Ext.refl _⟩
def H7(s:ar):Lib.splitB (KB [10]) 0 (Lib.countB (KB s) (KB [10])) (KB s)=(H9 10 s).map KB:=by
 have h:=Lib.splitB_data (KB [10]) 0 (Lib.countB (KB s) (KB [10])) (KB s);rw[show(KB [10]).data.toList=[10] from rfl,KE,H8 10 _ s Ta (Lib.countB (KB s) (KB [10])) (Qh rfl)]at h
 rw[<-h,Pe];have:(KB∘fun x:ByteArray=>x.data.toList)=id:=by funext x;exact KD x
 rw[this,List.map_id]
def Id{c:UInt8}{s x:ar}(b:x∈H9 c s):x.length<=s.length:=by
 have:∀(l:List ar),x∈l->x.length<=(y0 c l).length:=by
  intro l
  induction l with
  |nil=>intro h;cases h
  |cons y r a=>
   intro h
   cases r with
   |nil=>simp only[y0];rw[Py.1 h];exact Qj _
   |cons z r=>
    simp only[y0,OT,OU];rcases Pk.1 h with rfl|h
    ·omega
    ·have:=a h;omega
 have:=this _ b;rwa[y_]at this
def HT(w:World)(l:List ar)(hn:l.length<=maxLen)(c:∀x∈l,x.length<=maxLen):
  Sl (w.alloc (.cells ((l.map KB).map Value.string).toArray 9)) (dl (w.alloc (.cells ((l.map KB).map Value.string).toArray 9))) (some ⟨w.heap.size,0,none⟩) l.length (l.map KB):=by
 refine⟨by rw[O1];exact Qj _,hn,(fun h=>by cases h),fun i hi=>?_⟩;rw[O1]at hi
 have b:=(Blk.alloc w ((l.map KB).map Value.string) 9).lt;refine⟨w.heap.size,0,rfl,b,[.string (KB l[i])],?_,?_⟩
 ·have c:Blk (w.alloc (.cells ((l.map KB).map Value.string).toArray 9)) w.heap.size 9 ((l.map KB).map Value.string):=Blk.alloc w _ _
  intro j u a
  have d:j=0:=by
   cases j with
   |zero=>rfl
   |succ j=>simp at a
  subst d;refine c.cell ?_;simp only[List.getElem?_cons_zero,QW]at a
  rw[<-a];show((l.map KB).map Value.string)[0+i*1+0]?=_;simp[On hi]
 ·rw[OF]
  exact⟨rfl,by rw[KF];exact c _ (OG hi)⟩
def Ie(w:World)(s:ar)(f:s.length<=100000)(d:MaxH w):Rt UA 15 [tV s,tV [10]].toArray w fun v w'=>(∃ao cap,v=.slice ao ((H9 10 s).map KB).length cap/\Sl w' (dl w') ao cap ((H9 10 s).map KB))/\Ext w w':=by
 obtain⟨m,b⟩:=d;refine Ng (Any.strings_Split Hp Hm (KB s) (KB [10]) m w (by rw[KF];omega) b SP) ?_;rintro e w' ⟨rfl,rfl⟩
 have c:Lib.countB (KB s) (KB [10])+1=(H9 10 s).length:=by
  have h:=Lib.splitB_all (KB [10]) SP 0 _ (KB s) rfl;rw[H7,O1]at h
  omega
 have hn:Lib.countB (KB s) (KB [10])<=100000:=by
  have:=Lib.countB_le (KB [10]) SP _ (KB s) Ta;rw[KF]at this
  omega
 rw[H7,c];refine⟨_,rfl,⟨_,_,by rw[O1],HT w (H9 10 s) SS (fun x a=>by have:=Id a;unfold maxLen;omega)⟩,Ext.alloc w _⟩
def EQ{g:bZ}{f:List Int}(c:okG g)(hf:CQ g.length f){b:List Bool}(k:Nat)(a:f.length+oB g+g.length<=k)(h:nD g k (List.replicate g.length false) f=b):EP g f=b:=(ET c hf k a).trans h
def IM:AH straightP 1 9=(⟨[],-1,-1,[],[]⟩,0):=by
 have c:Iz straightP=[(1,0,1),(2,1,0)]:=by decide
 have h1:IH [[1,0],[0,1],[0,0]] [[(0,1)],[(1,2)],[]]=[false,false,false]:=by decide
 have h2:BI [[1,0],[0,1],[0,0]] [[(0,1)],[(1,2)],[]]=[false,false,false]:=by
  unfold BI;rw[EQ (b:=[true,true,true]) (Kq _) (f:=o9 [[1,0],[0,1],[0,0]]) (by
   intro x a
   have:o9 [[1,0],[0,1],[0,0]]=[2]:=by decide
   rw[this,Py]at a
   subst a;decide) 20 SP SP]
  rfl
 have h3:deadL straightP [[(0,1)],[(1,2)],[]]=[]:=by
  unfold deadL nq nI;rw[c];decide
 have h4:rt [[(0,1)],[(1,2)],[]] [false,false,false]=(-1,[]):=by
  unfold rt;rw[Sj SP]
 unfold AH;rw[straight_sp.2.2,Si SQ];dsimp only;unfold ri;rw[h1,h2,h3,h4]
instance:IsF UA 13:=UB Tryz.func13
instance:IsF UA 15:=UB Tryz.func15
abbrev IJ:ar:=[109,97,114,107,105,110,103,115,32,51,32,101,100,103,101,115,32,50,10,115,111,117,110,100,10]
def yP{k:Nat}(h:k<10):Lib.itoa (k:Int)=[UInt8.ofNat (48+k)]:=by
 unfold Lib.itoa;rw[Si SM,Nt,Lib.decDigits,Sd h]
def IQ{T:ar}(h:ew straightP [] 1 9 T):T=IJ:=by
 obtain⟨vs,a,_,rfl⟩:=h;obtain rfl:=OY.1 a;unfold um uq;rw[straight_sp.2.2,IM,show(([[1,0],[0,1],[0,0]]:List (List Int)).length:Nat)=3 from rfl,show ox [[(0,1)],[(1,2)],[]]=2 from rfl,yP SP,yP SP];decide
def Fk(w0:World)(hM:MaxH w0)(hT:eq w0.heap.size w0){so fo:Option Addr}{sc fc:Nat}{ns:List cP}{fl:List cO}{rs:List cS}(hs:Sl w0 (dl w0) so sc ns)(hf:Sl w0 (dl w0) fo fc fl)(hr:Sl w0 (dl w0) C B rs)(tok st:Int):
  Rt UA 5 [Er so sc fo fc ns.length fl.length,.slice C rs.length B,Te tok,Te st].toArray w0 fun v w'=>v=.bool true/\Ext w0 w':=by
 have hrl:=hr.len63;have W:∀{w},Ext w0 w->eq w.heap.size w:=fun hE=>NA (hT _ hE)
 refine dX Q7 Tryz.ntmps5 rfl rfl ?_;refine T9 ?_;refine eJ fun w1 a e1=>?_
 refine T2 ?_;refine eN (IN w1) ?_;rintro _ w2 ⟨⟨ao,ac,bo,bc,rfl,g1,g2⟩,e2⟩
 have I:=e1.trans e2;have A:=ez w2 (ns:=straightP.1) (fl:=straightP.2) (rs:=[]) g1 g2 (Sl.zero _ _) (W I) 1 9;rw[show((straightP.1,straightP.2):cR)=straightP from rfl]at A
 skip;refine eN A ?_;rintro _ w3 ⟨⟨T,e,rfl,_,t2,t3⟩,e3⟩
 obtain rfl:=t2 (by rw[straight_sp.2.2]) SP;obtain rfl:=IQ (t3 rfl).1;clear A t2 t3 g1 g2;have f:=I.trans e3;have a:=a.ext (e2.trans e3);clear e1 e2 e3 I;refine TE ?_;refine eN (ez w3 (hs.up f) (hf.up f) (hr.up f) (W f) tok st) ?_;rintro _ w4 ⟨⟨T,e,rfl,t1,t2,t3⟩,e4⟩
 have H:=f.trans e4;have a:=a.ext e4;clear e4 f;refine T2 ?_;apply CW.cond rfl<;>intro h
 ·have h:e≠0:=by simpa using h
  obtain rfl:=t1 h;refine Tw ?_;exact bj ⟨rfl,H⟩
 have h:e=0:=by simpa using h
 obtain⟨y,hx,X⟩:=t3 h;obtain⟨hz,_⟩:=pU hx;have hp:=kY (It hz).1;obtain⟨k1,k2,k3⟩:=Jy hp y;clear t1 t2 t3 y hz;have Q:(Lib.trimSuffix T [10]).length<=90000:=by
  unfold Lib.trimSuffix;split
  ·rw[O9];omega
  ·exact X
 have hlm:∀x∈H9 10 (Lib.trimSuffix T [10]),x.length<=90000:=fun x hx=>Qk (Id hx) Q
 refine TL ?_;refine eN (J8 w4 T SM) ?_;rintro _ w5 ⟨rfl,e5⟩
 have G:=H.trans e5;refine eN (Ie w5 (Lib.trimSuffix T [10]) SM (hM.ext G)) ?_;rintro _ w6 ⟨⟨lo,lc,rfl,U⟩,e6⟩
 have Y:=G.trans e6;have a:=a.ext (e5.trans e6);generalize H9 10 (Lib.trimSuffix T [10])=L at*
 have hml:=U.len63;have hLl:(L.map KB).length=L.length:=O1 _;have h0:0<L.length:=by omega
 have b0:decide (((L.map KB).length:Int)<2+(rs.length:Int))=false:=R7 SM;rw[Oi,On h0,Option.getD_some]at k2
 clear e5 e6 G H h Q X;refine TF ?_;rw[b0];refine Ue ?_;refine fg (i:=0) rfl rfl rfl rfl rfl U SM SX (fun u q K=>?_);obtain⟨rfl,_⟩:=K.str;rw[OF];skip;refine eN (uk w6 _ I5) ?_;rintro _ w7 ⟨rfl,e7⟩
 rw[k2];have hE7:=Y.trans e7;have a:=a.ext e7;have U:=U.up e7;clear e7 Y;refine TE ?_;refine CW.loop (S:=Nat) (fun i=>[(1,.slice C rs.length B),(2,Te tok),(3,Te st),(4,Tg w0.heap.size),(13,.slice lo (L.map KB).length lc),(58,.slice C rs.length B),(59,Te rs.length),(60,Te i)])
  (fun i w=>i<=rs.length/\Ext w7 w) (fun i=>rs.length -i) 0 SL ⟨QK _,Ext.refl _⟩ ?_
 rintro i w8 ⟨hi,e8⟩
 have F:=hE7.trans e8;have a:=a.ext e8;have hl8:=U.up e8;refine T2 ?_;apply CW.cond rfl<;>intro h
 rotate_left
 ·refine TO ?_;exact bj ⟨rfl,F⟩
 have g:i<rs.length:=by simpa using h
 have D:=k3 i g;have V:L.length -rs.length+i<L.length:=by omega
 rw[Oi,On V,Option.getD_some]at D
 have hlx:=hlm _ (OG V);clear h k2;refine TL ?_;refine fg (i:=i) rfl rfl rfl rfl rfl (hr.up F) g SX (fun u q K=>?_);obtain⟨lo',lc',co',cc',rfl,f1,f2,f3⟩:=K.rule;clear K;skip;refine eF (fun w9 j e9=>?_);refine Ue ?_;refine f_ j (fun O j t=>?_);have d:Ext w8 O:=e9.grown t e9.size SZ;have k:=F.trans d;have a:=a.ext d;have f1:=f1.up d;have f2:=f2.up d;clear e9 t;refine TN ?_;refine eN (zi O (r:=rs[i]) (hs.up k) (hf.up k) f1 f2 tok st) ?_;rintro _ w11 ⟨⟨E,s,l',e',xo,xc,yo,yc,rfl,_,_,hJ⟩,o⟩
 obtain⟨v1,P⟩:=Ld D hJ;have Z:=k.trans o;clear hJ D;refine Ue ?_;refine eF (fun w12 b J=>?_);skip;refine f_ b (fun N b p=>?_);have n:Ext w11 N:=J.grown p J.size SZ;have hE13:=Z.trans n;have R:=hl8.up ((d.trans o).trans n);have l:=((e8.trans d).trans o).trans n;clear d o J n p j a;refine TF ?_;rw[show((L.map KB).length:Int) -(rs.length:Int)+(i:Int)=((L.length -rs.length+i:Nat):Int) by omega];skip;refine fg (i:=L.length -rs.length+i) rfl rfl rfl rfl rfl R SM SX (fun u q K=>?_);obtain⟨rfl,_⟩:=K.str;rw[OF];generalize L[L.length -rs.length+i]=line at*
 refine T2 ?_;refine eN (ul N line I3 SM) ?_;rintro _ z ⟨rfl,m⟩
 have b:=b.ext m;rw[v1];by_cases he:e'=0
 ·subst he
  rw[show(decide ((0:Int)=0)&&E)=E by simp];rw[show(decide ((0:Int)=0)&&!E)=!E by simp]at P
  cases E with
  |true=>
   refine Ui ?_;refine eN (ul z line IX SM) ?_;rintro _ M ⟨rfl,c⟩
   have b:=b.ext c;rw[P];refine TC ?_;exact EX.back (i+1) SL ⟨g,(l.trans m).trans c⟩ SM
  |false=>
   refine Ui ?_;refine eN (ul z line IX SM) ?_;rintro _ M ⟨rfl,c⟩
   have b:=b.ext c;rw[P];refine TC ?_;exact EX.back (i+1) SL ⟨g,(l.trans m).trans c⟩ SM
 ·rw[show(decide (e'=0)&&E)=false by simp[he]]
  rw[show(decide (e'=0)&&!E)=false by simp[he]]at P
  have be:(e'==0)=false:=by simpa using he
  refine Ue ?_;rw[be];refine Ul ?_;refine eN (ul z line IX SM) ?_;rintro _ M ⟨rfl,c⟩
  rw[P];refine Ue ?_;rw[be];refine TC ?_;exact EX.back (i+1) SL ⟨g,(l.trans m).trans c⟩ SM
def JF:Tryz.pinned.checked.prog.inPlace 5=Rows.reportTellsRow.inPlace:=by kernel_rfl
def JH:Tryz.pinned.checked.prog.unfollowed 5=true:=by kernel_rfl
def JG:Tryz.pinned.checked.prog.recurses 5=true:=by kernel_rfl
def JI:Tryz.pinned.checked.prog.varsNamed 5=Rows.reportTellsRow.named:=by kernel_rfl
def JE:joinedFacts Tryz.pinned.checked.prog 5 Tryz.f5 Rows.reportTellsSpec Rows.reportTellsRow=true:=by
 unfold joinedFacts;rw[JF,JH,JG,JI];kernel_rfl
end Go.Proofs.YtfpjecjadlgdcaaGreatDoor
