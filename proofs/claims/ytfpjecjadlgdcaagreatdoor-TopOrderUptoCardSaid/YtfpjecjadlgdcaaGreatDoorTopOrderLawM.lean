/-
  The law TopOrder of watchtop.
  The tied card of the second form. Conditions: the arguments are together of bulk at most 1048576.
-/
import Derived.Test.YtfpjecjadlgdcaaGreatDoorCards
import Derived.Test.YtfpjecjadlgdcaaGreatDoorTie
import Derived.Test.YtfpjecjadlgdcaaGreatDoorPtTopOrder8
set_option linter.unusedVariables false
set_option linter.unusedSimpArgs false
set_option linter.defProp false
namespace Go.Proofs.YtfpjecjadlgdcaaGreatDoor.lawTopOrder
open Go.ChangeShapes Go.WideShapes Go.ChangeAt Go.RowKit
theorem own:ownKnob Tryz.prog.godebug=none:=by kernel_rfl
theorem laid:laidOutB Tryz.prog=true:=by kernel_rfl
theorem rows:∀t∈Tryz.f4.params.toList,Tryz.prog.readableRec t=true/\t<Tryz.prog.types.size:=by
 rw[Tryz.params4];intro t a
 have c:Tryz.prog.readableRec 25=true:=by kernel_rfl
 have b:decide (25<Tryz.prog.types.size)=true:=by kernel_rfl
 have h1:Tryz.prog.readableRec 37=true:=by kernel_rfl
 have k1:decide (37<Tryz.prog.types.size)=true:=by kernel_rfl
 have h2:Tryz.prog.readableRec 3=true:=by kernel_rfl
 have k2:decide (3<Tryz.prog.types.size)=true:=by kernel_rfl
 simp at a
 rcases a with rfl|rfl|rfl
 .exact⟨c,Tu b⟩
 .exact⟨h1,Tu k1⟩
 .exact⟨h2,Tu k2⟩
abbrev lst:List (String×DataW Unit):=Rows.topOrderUptoRow.laid
set_option maxRecDepth 100000 in
theorem contract(H:Type)(enc:TypeId×Value->H)(W:World)(base:Nat)(args:Array Value)(l gs:List (DataW H))(before:List MemPlace)
  (a:∀(j:Nat) t v,Tryz.f4.params[j]?=some t->args[j]?=some v->Value.okWide Tryz.prog W .any base t v)
  (i:DataW.Whole enc Tryz.prog Tryz.f4.params.toList Rows.topOrderSpec.vars false W args.toList l gs before) (J:MaxH W) (h:Rows.uptoSmall H (l++gs)=true):
  Calls Tryz.prog 4 args W λe W'=>∃v,e=.returned v/\Rows.topOrderSpec.post enc Tryz.prog Tryz.f4 false true false false W args v W':=by
 have g:=i;obtain⟨p,q,k,I,rfl,_,_⟩:=i;rw[Tryz.params4]at k a
 obtain⟨rfl,rfl⟩:=trodVars_none I;obtain⟨y,w,u,s,S,d1,d2,d3,N,p1,p2,M,rfl,rfl,rfl,L,h1,h2,h3⟩:=trodAll_four k;have f:=a 0 25 y TO TO;have d:=a 1 37 w TO TO;have c:=a 2 3 u TO TO;have b:=a 3 3 s TO TO;clear a;obtain⟨x0,C,X⟩:=Opn.arg (α:=(List (ByteArray×Int)×List (Int×Int))) (P:=Tryz.prog) (t:=25) f L;obtain⟨o,B,b1⟩:=Opn.arg (α:=(ByteArray×Int×(Int×Int×Int×Int×Int×Int×Int)×(Int×Int×Int×Int)×Ltl×Ltl)) (P:=Tryz.prog) (t:=37) d h1;obtain⟨n,A,b2⟩:=Opn.arg (α:=Int) (P:=Tryz.prog) (t:=3) c h2;obtain⟨m,z,V⟩:=Opn.arg (α:=Int) (P:=Tryz.prog) (t:=3) b h3;simp only[OH]at h
 have G:=jy h;simp only[Rows.uptoBulkAll]at G
 have R:=jC (α:=Int×Int) (λx=>by have:bk x=1+1:=rfl;omega) x0.2;have Q:bk x0=(js x0.1+1)+(js x0.2+1):=rfl;obtain⟨so,sc,fo,fc,rfl,D,hf⟩:=C.proc;obtain⟨lo,O,T,U,rfl,E,F,_⟩:=Rd.rule B;obtain rfl:=A.int;obtain rfl:=z.int;refine Oa (ew W J (r:=o) D hf E F TK n m) ?_;rintro e W' ⟨v,rfl,rfl,K⟩
 exact⟨_,rfl,law_post laid g rfl rows ⟨rfl,rfl,rfl⟩ rfl SH K⟩
set_option maxRecDepth 100000 in
theorem world_met(os:Os)(args:Array Value):laidMetH Tryz.prog lst ((World.laidAll Tryz.prog os lst).forCall (λ_ _=>0) ⟨#[],args,[]⟩).memory:=by
 rw[MakeChecks.laidMetH_plain _ _ _ TL];exact laidMet_laidAll _ TL TL
set_option maxRecDepth 100000 in
theorem lifted(os:Os)(started:os.Started)(H:Type)(enc:TypeId×Value->H)(F:Stop.Interp):
  ReturnsInHanded {} Tryz.checked os 4 .any ((Rows.OpenSpec.upto Rows.topOrderSpec).preRow enc Tryz.prog Tryz.f4 Rows.topOrderUptoRow.domain false lst) (((Rows.OpenSpec.upto Rows.topOrderSpec).at F).post enc Tryz.prog Tryz.f4 false true false false):=by
 have c:Input.okWideB Tryz.checked.prog ((World.laidAll Tryz.prog os lst).forCall (λ_ _=>0) ⟨#[],#[.agg #[.slice none 0 0,.slice none 0 0],.agg #[.string ⟨#[]⟩,.int .i64 0,.int .i64 0,.int .i64 0,.int .i64 0,.int .i64 0,.int .i64 0,.int .i64 0,.int .i64 0,.int .i64 0,.int .i64 0,.int .i64 0,.int .i64 0,.int .i64 0,.int .i64 0,.slice none 0 0,.int .i64 0,.int .i64 0,.slice none 0 0],.int .i64 0,.int .i64 0],[]⟩) 4 ⟨#[],#[.agg #[.slice none 0 0,.slice none 0 0],.agg #[.string ⟨#[]⟩,.int .i64 0,.int .i64 0,.int .i64 0,.int .i64 0,.int .i64 0,.int .i64 0,.int .i64 0,.int .i64 0,.int .i64 0,.int .i64 0,.int .i64 0,.int .i64 0,.int .i64 0,.int .i64 0,.slice none 0 0,.int .i64 0,.int .i64 0,.slice none 0 0],.int .i64 0,.int .i64 0],[]⟩=true:=by kernel_rfl
 refine returnsInHanded_of_row (C:=Tryz.checked) (s:=Rows.OpenSpec.upto Rows.topOrderSpec) own started TL Se
  ⟨World.laidAll Tryz.prog os lst,λ_ _=>0,⟨#[],#[.agg #[.slice none 0 0,.slice none 0 0],.agg #[.string ⟨#[]⟩,.int .i64 0,.int .i64 0,.int .i64 0,.int .i64 0,.int .i64 0,.int .i64 0,.int .i64 0,.int .i64 0,.int .i64 0,.int .i64 0,.int .i64 0,.int .i64 0,.int .i64 0,.int .i64 0,.slice none 0 0,.int .i64 0,.int .i64 0,.slice none 0 0],.int .i64 0,.int .i64 0],[]⟩,World.laidAll_os _ _ _,World.shaped_of_ZipB TL TL,(Oh (base:=0) c).1,(Oh c).2,
   OpenSpec.preRow_of_cond 8 (x:=([.agg [.nil,.nil],.agg [.lit (.string []),.lit (.int .i64 0),.agg [.lit (.int .i64 0),.lit (.int .i64 0),.lit (.int .i64 0),.lit (.int .i64 0),.lit (.int .i64 0),.lit (.int .i64 0),.lit (.int .i64 0)],.agg [.lit (.int .i64 0),.lit (.int .i64 0),.lit (.int .i64 0),.lit (.int .i64 0)],.agg [.lit (.int .i64 0),.lit (.int .i64 0),.nil],.agg [.lit (.int .i64 0),.lit (.int .i64 0),.nil]],.lit (.int .i64 0),.lit (.int .i64 0)],[],[])) TL TL (λk e=>by cases e;kernel_rfl) TL (world_met os _),by
    simp only[Assume.holds];exact⟨by simp,by simp,λ_=>Modest.zero,by simp,by simp⟩⟩ ?_
 intro W base args g gs before b f _ a _ _ d _
 exact contract H enc W base args g gs before b f (BL d) (a _ rfl)
theorem row:Rows.TopOrderUptoSaid:=
 OpenClaim.holds_of_cond 4 Tryz.f4 rfl rfl rfl rfl rfl rfl rfl ⟨rfl,rfl,rfl,rfl,rfl⟩ rfl rfl rfl rfl rfl TL Se TL
  (Tu TL) (by unfold Func.isWrapper;first|(rw[Tn (by decide+kernel)];kernel_rfl)|(rw[Tm (by decide+kernel)];exact⟨rfl,rfl⟩))
  (λos started H enc _ F=>by rw[OpenClaim.pre_eq_preRow];exact lifted os started H enc F)
theorem proved:Rows.TopOrderUptoCardSaid:=
 Claim7.holds_tied_plain_at .later [] [.data,.pinned] true (true,"36f2d9fde328af654401ca2dc9fc35fe7dc61730a5417fae3e70cdeca3f6c215") false
  row (λ_ h=>by cases h) TL (λ_ h=>by cases h) topOrderUpto_row_tie rfl ⟨rfl,rfl⟩ TL rfl
  (λf fn hf a=>by
   obtain rfl:f=4:=R4 ((show Tryz.prog.funcNamed "watchway/watchtop.TopOrder"=some 4 by kernel_rfl).symm.trans hf)|>.symm;obtain rfl:fn=Tryz.f4:=(R4 (Se.symm.trans a)).symm;exact⟨by kernel_rfl,λj t c=>by
    rw[Tryz.params4]at c
    have d:t∈[25,37,3,3]:=by
     have:=Qx (by simpa using c);simpa using this
    have g:Tryz.prog.wantsStandIn 25=false:=by kernel_rfl
    have e:Tryz.prog.wantsStandIn 37=false:=by kernel_rfl
    have b:Tryz.prog.wantsStandIn 3=false:=by kernel_rfl
    simp only[Qo,QI,or_false]at d
    rcases d with rfl|rfl|rfl|rfl
    .exact g
    .exact e
    .exact b
    .exact b⟩)
  TL
end Go.Proofs.YtfpjecjadlgdcaaGreatDoor.lawTopOrder
