/-
  The law TopNot of watchtop.
  The tied card. Conditions: none.
-/
import Derived.Test.YtodmkmobdmcfbaaGreatDoorCards
import Derived.Test.YtodmkmobdmcfbaaGreatDoorTie
import Derived.ChangeSame
import Derived.ChangeVars
import Derived.JoinedOf
import Derived.RowKit
import Derived.RowKitTokens
import Derived.LaidLaws
import Derived.Lay
import Derived.MakeChecks
import Derived.Stop.Joined
import Derived.SevenTiedAt
import Derived.WalkKit
import Derived.ProofKit
import Derived.Test.YtodmkmobdmcfbaaGreatDoorPtTopNot13
set_option linter.unusedVariables false
set_option linter.unusedSimpArgs false
set_option linter.defProp false
namespace Go.Proofs.YtodmkmobdmcfbaaGreatDoor.lawTopNot
open Go.ChangeShapes Go.WideShapes Go.ChangeAt Go.RowKit
theorem own:ownKnob Tryz.prog.godebug=none:=by kernel_rfl
theorem laid:laidOutB Tryz.prog=true:=by kernel_rfl
theorem rows:∀t∈Tryz.f3.params.toList,Tryz.prog.readableRec t=true∧t<Tryz.prog.types.size:=by
 rw[Tryz.params3];intro t a
 have c:Tryz.prog.readableRec 25=true:=by kernel_rfl
 have b:decide (25<Tryz.prog.types.size)=true:=by kernel_rfl
 have h1:Tryz.prog.readableRec 28=true:=by kernel_rfl
 have k1:decide (28<Tryz.prog.types.size)=true:=by kernel_rfl
 have h2:Tryz.prog.readableRec 3=true:=by kernel_rfl
 have k2:decide (3<Tryz.prog.types.size)=true:=by kernel_rfl
 simp at a
 rcases a with rfl|rfl|rfl
 ·exact⟨c,OK b⟩
 ·exact⟨h1,OK k1⟩
 ·exact⟨h2,OK k2⟩
abbrev lst:List (String×DataW Unit):=Rows.topNotRow.laid
theorem wrap{H:Type}{enc:TypeId×Value→H}{a:Assume}{C:Checked}{os:Os}{f:FuncId}{fn:Func}{s:ChangeSpec}{conds:List PathCond}{apart fresh b again:Bool}{X:World→Array Value→Prop}
  (own:ownKnob C.prog.godebug=none) (started:os.Started) (noInit:C.prog.inits.idxOf? f=none) (l:C.prog.funcs[f]?=some fn)
  (witness:∃(w:World) (tape:Tape) (i:Input),w.os=os∧(w.forCall tape i).Shaped C.prog∧i.vars=[]∧Input.okWide C.prog (w.forCall tape i) .any w.heap.size f i∧
   ((s.pre enc C.prog fn conds apart (w.forCall tape i).memory i.args∧X (w.forCall tape i).memory i.args)∧sizedMet enc C.prog fn (OpenSpec.ofChange s) apart (w.forCall tape i).memory i.args)∧a.holds C.prog (lone (Frame.enter C.prog f i.args .normal) [] (w.forCall tape i)))
  (contract:∀(W:World) (base:Nat) (args:Array Value) (m gs:List (DataW H)) (before:List MemPlace),
   (∀(j:Nat) t v,fn.params[j]?=some t→args[j]?=some v→Value.okWide C.prog W .any base t v)→
   DataW.Whole enc C.prog fn.params.toList s.vars apart W args.toList m gs before→W.ShapedOpen C.prog→
   Calls C.prog f args W fun e W'=>∃v,e=.returned v∧s.post enc C.prog fn apart fresh b again W args v W'):
  ReturnsInHanded a C os f .any (fun w args=>(s.pre enc C.prog fn conds apart w args∧X w args)∧sizedMet enc C.prog fn (OpenSpec.ofChange s) apart w args) (s.post enc C.prog fn apart fresh b again):=by
 refine returnsInHanded_of_calls own started noInit witness ?_;intro w tape i _ h _ k d _
 obtain⟨_,_,_,fn',g,_,_,_,_,c⟩:=k;obtain rfl:fn'=fn:=Nj (g.symm.trans l);obtain⟨⟨⟨m,gs,before,n,_⟩,_⟩,_⟩:=d;refine(contract (w.forCall tape i) w.heap.size i.args m gs before c (DataW.Whole.of_heap (by rfl) n) h).mono fun e W' ⟨v,p,o⟩=>?_
 subst p;exact ChangeSpec.post_blind o
set_option maxRecDepth 100000 in
theorem contract(H:Type)(enc:TypeId×Value→H)(W:World)(base:Nat)(args:Array Value)(G gs:List (DataW H))(before:List MemPlace)
  (a:∀(j:Nat) t v,Tryz.f3.params[j]?=some t→args[j]?=some v→Value.okWide Tryz.prog W .any base t v)
  (i:DataW.Whole enc Tryz.prog Tryz.f3.params.toList Rows.topNotSpec.vars false W args.toList G gs before) (D:MaxH W):
  Calls Tryz.prog 3 args W fun e W'=>∃v,e=.returned v∧Rows.topNotSpec.post enc Tryz.prog Tryz.f3 false true false false W args v W':=by
 have h:=i;obtain⟨p,q,k,C,rfl,_,_⟩:=i;rw[Tryz.params3]at k a
 obtain⟨rfl,rfl⟩:=trodVars_none C;obtain⟨u,s,r,o,K,d1,d2,d3,J,p1,p2,I,rfl,rfl,rfl,F,h1,h2,h3⟩:=trodAll_four k;have g:=a 0 25 u O3 O3;have d:=a 1 28 s O3 O3;have c:=a 2 3 r O3 O3;have b:=a 3 3 o O3 O3;clear a;obtain⟨x0,z,M⟩:=Opn.arg (α:=(List (ByteArray×Int)×List (Int×Int))) (P:=Tryz.prog) (t:=25) g F;obtain⟨n,y,b1⟩:=Opn.arg (α:=Ltl) (P:=Tryz.prog) (t:=28) d h1;obtain⟨m,x,b2⟩:=Opn.arg (α:=Int) (P:=Tryz.prog) (t:=3) c h2;obtain⟨l,w,L⟩:=Opn.arg (α:=Int) (P:=Tryz.prog) (t:=3) b h3;obtain⟨so,sc,fo,fc,rfl,A,hf⟩:=z.proc;obtain⟨ko,kc,rfl,B⟩:=Rd.ltl y;obtain rfl:=x.int;obtain rfl:=w.int;refine JV (dS W D (f:=n) A hf B m l) ?_;rintro e W' ⟨v,rfl,rfl,E⟩
 exact⟨_,rfl,law_post laid h rfl rows ⟨rfl,rfl,rfl⟩ rfl NT E⟩
set_option maxRecDepth 100000 in
theorem lifted(os:Os)(started:os.Started)(H:Type)(enc:TypeId×Value→H):
  ReturnsInHanded {} Tryz.checked os 3 .any (fun w args=>(Rows.topNotSpec.pre enc Tryz.prog Tryz.f3 [] false w args∧laidMetH Tryz.prog lst w)∧sizedMet enc Tryz.prog Tryz.f3 (OpenSpec.ofChange Rows.topNotSpec) false w args)
   (Rows.topNotSpec.post enc Tryz.prog Tryz.f3 false true false false):=by
 refine wrap (C:=Tryz.checked) (X:=fun w _=>laidMetH Tryz.prog lst w) own started O1 Nt
  (ChangeSpec.witness_shaped (enc:=enc) (C:=Tryz.checked) (os:=os) (X:=fun w _=>laidMetH Tryz.prog lst w) false (World.laidAll Tryz.prog os lst) #[.agg #[.slice none 0 0,.slice none 0 0],.agg #[.int .i64 0,.int .i64 0,.slice none 0 0],.int .i64 0,.int .i64 0] 8 (World.laidAll_os _ _ _)
   (World.shaped_of_ZipB O1 O1) O1 O1 O1
   (by rw[MakeChecks.laidMetH_plain _ _ _ O1];exact laidMet_laidAll _ O1 O1)) ?_
 intro W base args d gs before a c b
 exact contract H enc W base args d gs before a c (yG b)
theorem row:Rows.TopNotSaid:=
 OpenClaim.holds_of_wide 3 Tryz.f3 rfl rfl rfl rfl rfl rfl rfl ⟨rfl,rfl,rfl,rfl,rfl⟩ rfl rfl rfl rfl rfl O1 Nt O1
  (OK O1) (by unfold Func.isWrapper;first|(rw[OE (by decide+kernel)];kernel_rfl)|(rw[OD (by decide+kernel)];exact⟨rfl,rfl⟩))
  (fun os started H enc _=>lifted os started H enc)
theorem proved:Rows.TopNotCardSaid:=
 Claim7.holds_tied_plain_at .later [] [.data,.pinned] true (true,"443561322e71e8bb3aa1171e2d11c4753f86ed9ec534769996b28ce8ded8b4f7") false
  row (fun _ h=>by cases h) O1 (fun _ h=>by cases h) topNot_row_tie rfl ⟨rfl,rfl⟩ O1 rfl
  (fun f fn hf a=>by
   obtain rfl:f=3:=Nj ((show Tryz.prog.funcNamed "watchway/watchtop.TopNot"=some 3 by kernel_rfl).symm.trans hf)|>.symm;obtain rfl:fn=Tryz.f3:=(Nj (Nt.symm.trans a)).symm;exact⟨by kernel_rfl,fun j t c=>by
    rw[Tryz.params3]at c
    have d:t∈[25,28,3,3]:=by
     have:=LR (by simpa using c);simpa using this
    have g:Tryz.prog.wantsStandIn 25=false:=by kernel_rfl
    have e:Tryz.prog.wantsStandIn 28=false:=by kernel_rfl
    have b:Tryz.prog.wantsStandIn 3=false:=by kernel_rfl
    simp only[LI,L1,or_false]at d
    rcases d with rfl|rfl|rfl|rfl
    ·exact g
    ·exact e
    ·exact b
    ·exact b⟩)
  O1
end Go.Proofs.YtodmkmobdmcfbaaGreatDoor.lawTopNot
