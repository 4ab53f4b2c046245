/-
  The law JudgeProves of watchkeep holds for every input: if a rule is violated, the returned steps prove it.
  Conditions: none.
-/
import Derived.WalkKit
import Derived.ProofKit
import Derived.Test.YtodmkmobdmcfbaaGreatPtJudgeProves14
set_option linter.unusedVariables false
set_option linter.unusedSimpArgs false
set_option linter.defProp false
namespace Go.Proofs.YtodmkmobdmcfbaaGreat.lawJudgeProves
open Go.ChangeShapes Go.WideShapes Go.ChangeAt Go.RowKit
theorem own:ownKnob Tryz.prog.godebug=none:=by kernel_rfl
theorem laid:laidOutB Tryz.prog=true:=by kernel_rfl
theorem rows:∀t∈Tryz.f3.params.toList,Tryz.prog.readableRec t=true∧t<Tryz.prog.types.size:=by
 rw[Tryz.params3];intro t a
 have c:Tryz.prog.readableRec 25=true:=by kernel_rfl
 have b:decide (25<Tryz.prog.types.size)=true:=by kernel_rfl
 have h1:Tryz.prog.readableRec 37=true:=by kernel_rfl
 have k1:decide (37<Tryz.prog.types.size)=true:=by kernel_rfl
 have h2:Tryz.prog.readableRec 3=true:=by kernel_rfl
 have k2:decide (3<Tryz.prog.types.size)=true:=by kernel_rfl
 simp at a
 rcases a with rfl|rfl|rfl
 ·exact⟨c,OC b⟩
 ·exact⟨h1,OC k1⟩
 ·exact⟨h2,OC k2⟩
set_option maxRecDepth 100000 in
theorem contract(H:Type)(enc:TypeId×Value→H)(W:World)(base:Nat)(args:Array Value)(G gs:List (DataW H))(before:List MemPlace)
  (a:∀(j:Nat) t v,Tryz.f3.params[j]?=some t→args[j]?=some v→Value.okWide Tryz.prog W .any base t v)
  (h:DataW.Whole enc Tryz.prog Tryz.f3.params.toList Rows.judgeProvesSpec.vars false W args.toList G gs before):
  Calls Tryz.prog 3 args W fun e W'=>∃v,e=.returned v∧Rows.judgeProvesSpec.post enc Tryz.prog Tryz.f3 false true false false W args v W':=by
 have g:=h;obtain⟨p,q,i,D,rfl,_,_⟩:=h;rw[Tryz.params3]at i a
 obtain⟨rfl,rfl⟩:=trodVars_none D;obtain⟨u,s,o,n,L,d1,d2,d3,J,p1,p2,I,rfl,rfl,rfl,F,h1,h2,h3⟩:=trodAll_four i;have f:=a 0 25 u OW OW;have d:=a 1 37 s OW OW;have c:=a 2 3 o OW OW;have b:=a 3 3 n OW OW;clear a;obtain⟨x0,z,Q⟩:=Opn.arg (α:=(List (ByteArray×Int)×List (Int×Int))) (P:=Tryz.prog) (t:=25) f F;obtain⟨m,y,b1⟩:=Opn.arg (α:=(ByteArray×Int×(Int×Int×Int×Int×Int×Int×Int)×(Int×Int×Int×Int)×Ltl×Ltl)) (P:=Tryz.prog) (t:=37) d h1;obtain⟨l,x,b2⟩:=Opn.arg (α:=Int) (P:=Tryz.prog) (t:=3) c h2;obtain⟨k,w,O⟩:=Opn.arg (α:=Int) (P:=Tryz.prog) (t:=3) b h3;obtain⟨so,sc,fo,fc,rfl,A,hf⟩:=z.proc;obtain⟨lo,K,M,N,rfl,B,C,_⟩:=Rd.rule y;obtain rfl:=x.int;obtain rfl:=w.int;refine J2 (cE W (r:=m) A hf B C l k) ?_;rintro e W' ⟨v,rfl,rfl,E⟩
 exact⟨_,rfl,law_post laid g rfl rows ⟨rfl,rfl,rfl⟩ rfl NS E⟩
set_option maxRecDepth 100000 in
theorem lifted(os:Os)(started:os.Started)(H:Type)(enc:TypeId×Value→H):
  ReturnsInHanded {} Tryz.checked os 3 .any (Rows.judgeProvesSpec.pre6 enc Tryz.prog Tryz.f3 Rows.judgeProvesRow.domain false) (Rows.judgeProvesSpec.post enc Tryz.prog Tryz.f3 false true false false):=by
 refine returnsInHanded_of_change (C:=Tryz.checked) own started OT Tryz.func3
  (ChangeSpec.witness6 (enc:=enc) (C:=Tryz.checked) false ⟨#[],#[.agg #[.slice none 0 0,.slice none 0 0],.agg #[.string ⟨#[]⟩,.int .i64 0,.int .i64 0,.int .i64 0,.int .i64 0,.int .i64 0,.int .i64 0,.int .i64 0,.int .i64 0,.int .i64 0,.int .i64 0,.int .i64 0,.int .i64 0,.int .i64 0,.int .i64 0,.slice none 0 0,.int .i64 0,.int .i64 0,.slice none 0 0],.int .i64 0,.int .i64 0],[]⟩ 8 OT OT OT OT) ?_
 intro W base args c gs before a b _ _
 exact contract H enc W base args c gs before a b
theorem proved:Rows.JudgeProvesSaid:=
 OpenClaim.holds_of_wide 3 Tryz.f3 rfl rfl rfl rfl rfl rfl rfl ⟨rfl,rfl,rfl,rfl,rfl⟩ rfl rfl rfl rfl rfl OT Tryz.func3 OT
  (OC OT) (by unfold Func.isWrapper;first|(rw[Ov (by decide+kernel)];kernel_rfl)|(rw[Ou (by decide+kernel)];exact⟨rfl,rfl⟩))
  (fun os started H enc _=>lifted os started H enc)
end Go.Proofs.YtodmkmobdmcfbaaGreat.lawJudgeProves
