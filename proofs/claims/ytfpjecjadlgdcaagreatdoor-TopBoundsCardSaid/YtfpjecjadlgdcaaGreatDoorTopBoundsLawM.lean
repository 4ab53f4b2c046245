/-
  The law TopBounds of watchtop.
  The tied card. Conditions: none.
-/
import Derived.Test.YtfpjecjadlgdcaaGreatDoorCards
import Derived.Test.YtfpjecjadlgdcaaGreatDoorTie
import Derived.ChangeSame
import Derived.ChangeVars
import Derived.JoinedOf
import Derived.RowKit
import Derived.RowKitTokens
import Derived.LaidLaws
import Derived.Lay
import Derived.MakeChecks
import Derived.Stop.Joined
import Derived.SevenTiedAt
import Derived.WalkKit
import Derived.ProofKit
import Derived.Test.YtfpjecjadlgdcaaGreatDoorPtTopBounds13
set_option linter.unusedVariables false
set_option linter.unusedSimpArgs false
set_option linter.defProp false
namespace Go.Proofs.YtfpjecjadlgdcaaGreatDoor.lawTopBounds
open Go.ChangeShapes Go.WideShapes Go.ChangeAt Go.RowKit
theorem own:ownKnob Tryz.prog.godebug=none:=by kernel_rfl
theorem laid:laidOutB Tryz.prog=true:=by kernel_rfl
theorem rows:∀t∈Tryz.f3.params.toList,Tryz.prog.readableRec t=true∧t<Tryz.prog.types.size:=by
 rw[Tryz.params3];intro t a
 have c:Tryz.prog.readableRec 25=true:=by kernel_rfl
 have b:decide (25<Tryz.prog.types.size)=true:=by kernel_rfl
 have h1:Tryz.prog.readableRec 37=true:=by kernel_rfl
 have k1:decide (37<Tryz.prog.types.size)=true:=by kernel_rfl
 have h2:Tryz.prog.readableRec 3=true:=by kernel_rfl
 have k2:decide (3<Tryz.prog.types.size)=true:=by kernel_rfl
 simp at a
 rcases a with rfl|rfl|rfl
 ·exact⟨c,OQ b⟩
 ·exact⟨h1,OQ k1⟩
 ·exact⟨h2,OQ k2⟩
abbrev lst:List (String×DataW Unit):=Rows.topBoundsRow.laid
theorem wrap{H:Type}{enc:TypeId×Value→H}{a:Assume}{C:Checked}{os:Os}{f:FuncId}{fn:Func}{s:ChangeSpec}{conds:List PathCond}{apart fresh b again:Bool}{X:World→Array Value→Prop}
  (own:ownKnob C.prog.godebug=none) (started:os.Started) (noInit:C.prog.inits.idxOf? f=none) (l:C.prog.funcs[f]?=some fn)
  (witness:∃(w:World) (tape:Tape) (i:Input),w.os=os∧(w.forCall tape i).Shaped C.prog∧i.vars=[]∧Input.okWide C.prog (w.forCall tape i) .any w.heap.size f i∧
   ((s.pre enc C.prog fn conds apart (w.forCall tape i).memory i.args∧X (w.forCall tape i).memory i.args)∧sizedMet enc C.prog fn (OpenSpec.ofChange s) apart (w.forCall tape i).memory i.args)∧a.holds C.prog (lone (Frame.enter C.prog f i.args .normal) [] (w.forCall tape i)))
  (contract:∀(W:World) (base:Nat) (args:Array Value) (m gs:List (DataW H)) (before:List MemPlace),
   (∀(j:Nat) t v,fn.params[j]?=some t→args[j]?=some v→Value.okWide C.prog W .any base t v)→
   DataW.Whole enc C.prog fn.params.toList s.vars apart W args.toList m gs before→W.ShapedOpen C.prog→
   Calls C.prog f args W fun e W'=>∃v,e=.returned v∧s.post enc C.prog fn apart fresh b again W args v W'):
  ReturnsInHanded a C os f .any (fun w args=>(s.pre enc C.prog fn conds apart w args∧X w args)∧sizedMet enc C.prog fn (OpenSpec.ofChange s) apart w args) (s.post enc C.prog fn apart fresh b again):=by
 refine returnsInHanded_of_calls own started noInit witness ?_;intro w tape i _ h _ k d _
 obtain⟨_,_,_,fn',g,_,_,_,_,c⟩:=k;obtain rfl:fn'=fn:=Nn (g.symm.trans l);obtain⟨⟨⟨m,gs,before,n,_⟩,_⟩,_⟩:=d;refine(contract (w.forCall tape i) w.heap.size i.args m gs before c (DataW.Whole.of_heap (by rfl) n) h).mono fun e W' ⟨v,p,o⟩=>?_
 subst p;exact ChangeSpec.post_blind o
set_option maxRecDepth 100000 in
theorem contract(H:Type)(enc:TypeId×Value→H)(W:World)(base:Nat)(args:Array Value)(S gs:List (DataW H))(before:List MemPlace)
  (a:∀(j:Nat) t v,Tryz.f3.params[j]?=some t→args[j]?=some v→Value.okWide Tryz.prog W .any base t v)
  (k:DataW.Whole enc Tryz.prog Tryz.f3.params.toList Rows.topBoundsSpec.vars false W args.toList S gs before) (N:MaxH W):
  Calls Tryz.prog 3 args W fun e W'=>∃v,e=.returned v∧Rows.topBoundsSpec.post enc Tryz.prog Tryz.f3 false true false false W args v W':=by
 have i:=k;obtain⟨p,q,l,M,rfl,_,_⟩:=k;rw[Tryz.params3]at l a
 obtain⟨rfl,rfl⟩:=trodVars_none M;obtain⟨B,A,z,y,x,w,Z,d1,d2,d3,d4,d5,X,p1,p2,V,U,T,rfl,rfl,rfl,R,h1,h2,h3,h4,Q⟩:=He l;have h:=a 0 25 B O_ O_;have g:=a 1 37 A O_ O_;have f:=a 2 3 z O_ O_;have d:=a 3 3 y O_ O_;have c:=a 4 3 x O_ O_;have b:=a 5 3 w O_ O_;clear a;obtain⟨x0,I,b0⟩:=Opn.arg (α:=(List (ByteArray×Int)×List (Int×Int))) (P:=Tryz.prog) (t:=25) h R;obtain⟨u,G,b1⟩:=Opn.arg (α:=(ByteArray×Int×(Int×Int×Int×Int×Int×Int×Int)×(Int×Int×Int×Int)×Ltl×Ltl)) (P:=Tryz.prog) (t:=37) g h1;obtain⟨s,F,b2⟩:=Opn.arg (α:=Int) (P:=Tryz.prog) (t:=3) f h2;obtain⟨o,E,b3⟩:=Opn.arg (α:=Int) (P:=Tryz.prog) (t:=3) d h3;obtain⟨n,D,b4⟩:=Opn.arg (α:=Int) (P:=Tryz.prog) (t:=3) c h4;obtain⟨m,C,b5⟩:=Opn.arg (α:=Int) (P:=Tryz.prog) (t:=3) b Q;obtain⟨so,sc,fo,fc,rfl,J,hf⟩:=I.proc;obtain⟨lo,Y,co,cc,rfl,K,L,_⟩:=Rd.rule G;obtain rfl:=F.int;obtain rfl:=E.int;obtain rfl:=D.int;obtain rfl:=C.int;refine J0 (dS W N (r:=u) J hf K L s o n m) ?_;rintro e W' ⟨v,rfl,rfl,O⟩
 exact⟨_,rfl,law_post laid i rfl rows ⟨rfl,rfl,rfl⟩ rfl N0 O⟩
set_option maxRecDepth 100000 in
theorem lifted(os:Os)(started:os.Started)(H:Type)(enc:TypeId×Value→H):
  ReturnsInHanded {} Tryz.checked os 3 .any (fun w args=>(Rows.topBoundsSpec.pre enc Tryz.prog Tryz.f3 [] false w args∧laidMetH Tryz.prog lst w)∧sizedMet enc Tryz.prog Tryz.f3 (OpenSpec.ofChange Rows.topBoundsSpec) false w args)
   (Rows.topBoundsSpec.post enc Tryz.prog Tryz.f3 false true false false):=by
 refine wrap (C:=Tryz.checked) (X:=fun w _=>laidMetH Tryz.prog lst w) own started O8 Nz
  (ChangeSpec.witness_shaped (enc:=enc) (C:=Tryz.checked) (os:=os) (X:=fun w _=>laidMetH Tryz.prog lst w) false (World.laidAll Tryz.prog os lst) #[.agg #[.slice none 0 0,.slice none 0 0],.agg #[.string ⟨#[]⟩,.int .i64 0,.int .i64 0,.int .i64 0,.int .i64 0,.int .i64 0,.int .i64 0,.int .i64 0,.int .i64 0,.int .i64 0,.int .i64 0,.int .i64 0,.int .i64 0,.int .i64 0,.int .i64 0,.slice none 0 0,.int .i64 0,.int .i64 0,.slice none 0 0],.int .i64 0,.int .i64 0,.int .i64 0,.int .i64 0] 8 (World.laidAll_os _ _ _)
   (World.shaped_of_ZipB O8 O8) O8 O8 O8
   (by rw[MakeChecks.laidMetH_plain _ _ _ O8];exact laidMet_laidAll _ O8 O8)) ?_
 intro W base args d gs before a c b
 exact contract H enc W base args d gs before a c (yO b)
theorem row:Rows.TopBoundsSaid:=
 OpenClaim.holds_of_wide 3 Tryz.f3 rfl rfl rfl rfl rfl rfl rfl ⟨rfl,rfl,rfl,rfl,rfl⟩ rfl rfl rfl rfl rfl O8 Nz O8
  (OQ O8) (by unfold Func.isWrapper;first|(rw[OK (by decide+kernel)];kernel_rfl)|(rw[OJ (by decide+kernel)];exact⟨rfl,rfl⟩))
  (fun os started H enc _=>lifted os started H enc)
theorem proved:Rows.TopBoundsCardSaid:=
 Claim7.holds_tied_plain_at .later [] [.data,.pinned] true (true,"36f2d9fde328af654401ca2dc9fc35fe7dc61730a5417fae3e70cdeca3f6c215") false
  row (fun _ h=>by cases h) O8 (fun _ h=>by cases h) topBounds_row_tie rfl ⟨rfl,rfl⟩ O8 rfl
  (fun f fn hf b=>by
   obtain rfl:f=3:=Nn ((show Tryz.prog.funcNamed "watchway/watchtop.TopBounds"=some 3 by kernel_rfl).symm.trans hf)|>.symm;obtain rfl:fn=Tryz.f3:=(Nn (Nz.symm.trans b)).symm;exact⟨by kernel_rfl,fun j t c=>by
    rw[Tryz.params3]at c
    have d:t∈[25,37,3,3,3,3]:=by
     have:=LW (by simpa using c);simpa using this
    have g:Tryz.prog.wantsStandIn 25=false:=by kernel_rfl
    have e:Tryz.prog.wantsStandIn 37=false:=by kernel_rfl
    have a:Tryz.prog.wantsStandIn 3=false:=by kernel_rfl
    simp only[LN,L6,or_false]at d
    rcases d with rfl|rfl|rfl|rfl|rfl|rfl
    ·exact g
    ·exact e
    ·exact a
    ·exact a
    ·exact a
    ·exact a⟩)
  O8
end Go.Proofs.YtfpjecjadlgdcaaGreatDoor.lawTopBounds
