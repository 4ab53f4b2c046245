/-
  The law ReportTells of watchkeep.
  The tied card. Conditions: none.
-/
import Derived.Test.YtfpjecjadlgdcaaGreatDoorCards
import Derived.Test.YtfpjecjadlgdcaaGreatDoorTie
import Derived.Test.YtfpjecjadlgdcaaGreatDoorPtReportTells8
set_option linter.unusedVariables false
set_option linter.unusedSimpArgs false
set_option linter.defProp false
namespace Go.Proofs.YtfpjecjadlgdcaaGreatDoor.lawReportTells
open Go.ChangeShapes Go.WideShapes Go.ChangeAt Go.RowKit
theorem own:ownKnob Tryz.prog.godebug=none:=by kernel_rfl
theorem laid:laidOutB Tryz.prog=true:=by kernel_rfl
theorem rows:∀t∈Tryz.f5.params.toList,Tryz.prog.readableRec t=true/\t<Tryz.prog.types.size:=by
 rw[Tryz.params5];intro t a
 have c:Tryz.prog.readableRec 25=true:=by kernel_rfl
 have b:decide (25<Tryz.prog.types.size)=true:=by kernel_rfl
 have h1:Tryz.prog.readableRec 62=true:=by kernel_rfl
 have k1:decide (62<Tryz.prog.types.size)=true:=by kernel_rfl
 have h2:Tryz.prog.readableRec 3=true:=by kernel_rfl
 have k2:decide (3<Tryz.prog.types.size)=true:=by kernel_rfl
 simp at a
 rcases a with rfl|rfl|rfl
 ·exact⟨c,Sq b⟩
 ·exact⟨h1,Sq k1⟩
 ·exact⟨h2,Sq k2⟩
abbrev lst:List (String×DataW Unit):=Rows.reportTellsRow.laid
theorem wrap{H:Type}{enc:TypeId×Value->H}{a:Assume}{C:Checked}{os:Os}{f:FuncId}{fn:Func}{s:ChangeSpec}{conds:List PathCond}{apart fresh b again:Bool}{X:World->Array Value->Prop}
  (r:∀(w w':World) (args:Array Value),w.heap=w'.heap->X w args->X w' args)
  (own:ownKnob C.prog.godebug=none) (started:os.Started) (noInit:C.prog.inits.idxOf? f=none) (l:C.prog.funcs[f]?=some fn)
  (witness:∃(w:World) (tape:Tape) (i:Input),w.os=os/\(w.forCall tape i).Shaped C.prog/\i.vars=[]/\Input.okWide C.prog (w.forCall tape i) .any w.heap.size f i/\
   ((s.pre enc C.prog fn conds apart (w.forCall tape i).memory i.args/\X (w.forCall tape i).memory i.args)/\sizedMet enc C.prog fn (OpenSpec.ofChange s) apart (w.forCall tape i).memory i.args)/\a.holds C.prog (lone (Frame.enter C.prog f i.args .normal) [] (w.forCall tape i)))
  (contract:∀(W:World) (base:Nat) (args:Array Value) (m gs:List (DataW H)) (before:List MemPlace),
   (∀(j:Nat) t v,fn.params[j]?=some t->args[j]?=some v->Value.okWide C.prog W .any base t v)->
   DataW.Whole enc C.prog fn.params.toList s.vars apart W args.toList m gs before->X W args->W.ShapedOpen C.prog->
   Calls C.prog f args W fun e W'=>∃v,e=.returned v/\s.post enc C.prog fn apart fresh b again W args v W'):
  ReturnsInHanded a C os f .any (fun w args=>(s.pre enc C.prog fn conds apart w args/\X w args)/\sizedMet enc C.prog fn (OpenSpec.ofChange s) apart w args) (s.post enc C.prog fn apart fresh b again):=by
 refine returnsInHanded_of_calls own started noInit witness ?_;intro w tape i _ h _ k d _
 obtain⟨_,_,_,fn',g,_,_,_,_,c⟩:=k;obtain rfl:fn'=fn:=QV (g.symm.trans l);obtain⟨⟨⟨m,gs,before,o,_⟩,n⟩,_⟩:=d;refine(contract (w.forCall tape i) w.heap.size i.args m gs before c (DataW.Whole.of_heap (by rfl) o) (r _ _ _ (by rfl) n) h).mono fun e W' ⟨v,q,p⟩=>?_
 subst q;exact ChangeSpec.post_blind p
instance iTel22:Opn Tryz.prog 62 (List cS):=Opn.slice
theorem tab_of_laid{W:World}(h:laidMetH Tryz.prog lst W):eq W.heap.size W:=by
 rw[P1 _ _ _ SN]at h
 have tl:∀{x:String×DataW Unit} {r:List (String×DataW Unit)},laidMet Tryz.prog (x::r) W->laidMet Tryz.prog r W:=fun h=>by
  obtain⟨ps,⟨j,i,cs,fuel,p,q,_,_,_,_,a,d⟩,hn,f⟩:=h;subst d;exact⟨q,a,(PB.1 hn).2.1,fun b off c=>f b off (Pj _ c)⟩
 exact NA (Lib.tabIs_of_head (g:=1) (t:=323) (e:=131) (n:=20) SN SN Tryz.underlying323 Rm SN SN (tl (tl h)))
set_option maxRecDepth 100000 in
theorem contract(H:Type)(enc:TypeId×Value->H)(W:World)(base:Nat)(args:Array Value)(E gs:List (DataW H))(before:List MemPlace)
  (a:∀(j:Nat) t v,Tryz.f5.params[j]?=some t->args[j]?=some v->Value.okWide Tryz.prog W .any base t v)
  (h:DataW.Whole enc Tryz.prog Tryz.f5.params.toList Rows.reportTellsSpec.vars false W args.toList E gs before) (B:MaxH W) (A:eq W.heap.size W):
  Calls Tryz.prog 5 args W fun e W'=>∃v,e=.returned v/\Rows.reportTellsSpec.post enc Tryz.prog Tryz.f5 false true false false W args v W':=by
 have g:=h;obtain⟨p,q,i,z,rfl,_,_⟩:=h;rw[Tryz.params5]at i a
 obtain⟨rfl,rfl⟩:=trodVars_none z;obtain⟨o,n,m,v3,K,d1,d2,d3,J,p1,p2,I,rfl,rfl,rfl,D,h1,h2,h3⟩:=trodAll_four i;have f:=a 0 25 o SQ SQ;have d:=a 1 62 n SQ SQ;have c:=a 2 3 m SQ SQ;have b:=a 3 3 v3 SQ SQ;clear a;obtain⟨x0,w,M⟩:=Opn.arg (α:=cR) (P:=Tryz.prog) (t:=25) f D;obtain⟨F,u,b1⟩:=Opn.arg (α:=(List cS)) (P:=Tryz.prog) (t:=62) d h1;obtain⟨l,s,b2⟩:=Opn.arg (α:=Int) (P:=Tryz.prog) (t:=3) c h2;obtain⟨k,r,L⟩:=Opn.arg (α:=Int) (P:=Tryz.prog) (t:=3) b h3;obtain⟨so,sc,fo,fc,rfl,x,hf⟩:=w.proc;obtain⟨G,rc,rfl,y⟩:=u.sl;obtain rfl:=s.int;obtain rfl:=r.int;refine Ng (Fk W B A x hf y l k) ?_;rintro e W' ⟨v,rfl,rfl,C⟩
 exact⟨_,rfl,law_post laid g rfl rows ⟨rfl,rfl,rfl⟩ rfl RC C⟩
set_option maxRecDepth 100000 in
theorem lifted(os:Os)(started:os.Started)(H:Type)(enc:TypeId×Value->H):
  ReturnsInHanded {} Tryz.checked os 5 .any (fun w args=>(Rows.reportTellsSpec.pre enc Tryz.prog Tryz.f5 [] false w args/\laidMetH Tryz.prog lst w)/\sizedMet enc Tryz.prog Tryz.f5 (OpenSpec.ofChange Rows.reportTellsSpec) false w args)
   (Rows.reportTellsSpec.post enc Tryz.prog Tryz.f5 false true false false):=by
 refine wrap (C:=Tryz.checked) (X:=fun w _=>laidMetH Tryz.prog lst w) (fun _ _ _ hh h=>h.of_heap hh) own started SN Q7
  (ChangeSpec.witness_shaped (enc:=enc) (C:=Tryz.checked) (os:=os) (X:=fun w _=>laidMetH Tryz.prog lst w) false (World.laidAll Tryz.prog os lst) #[.agg #[.slice none 0 0,.slice none 0 0],.slice none 0 0,.int .i64 0,.int .i64 0] 8 (World.laidAll_os _ _ _)
   (World.shaped_of_ZipB SN SN) SN SN SN
   (by rw[P1 _ _ _ SN];exact laidMet_laidAll _ SN SN)) ?_
 intro W base args e gs before a c d b
 exact contract H enc W base args e gs before a c (Be b) (tab_of_laid d)
theorem row:Rows.ReportTellsSaid:=
 OpenClaim.holds_of_wide 5 Tryz.f5 rfl rfl rfl rfl rfl rfl rfl ⟨rfl,rfl,rfl,rfl,rfl⟩ rfl rfl rfl rfl rfl SN Q7 JE
  (Sq SN) (by unfold Func.isWrapper;first|(rw[Sj (by decide+kernel)];kernel_rfl)|(rw[Si (by decide+kernel)];exact⟨rfl,rfl⟩))
  (fun os started H enc _=>lifted os started H enc)
theorem proved:Rows.ReportTellsCardSaid:=
 Claim7.holds_tied_plain_at .later [] [.data,.data,.data,.data,.pinned] true (true,"36f2d9fde328af654401ca2dc9fc35fe7dc61730a5417fae3e70cdeca3f6c215") false
  row (fun _ h=>by cases h) SN (fun _ h=>by cases h) reportTells_row_tie rfl ⟨rfl,rfl⟩ SN rfl
  (fun f fn hf a=>by
   obtain rfl:f=5:=QV ((show Tryz.prog.funcNamed "watchway/watchkeep.ReportTells"=some 5 by kernel_rfl).symm.trans hf)|>.symm;obtain rfl:fn=Tryz.f5:=(QV (Q7.symm.trans a)).symm;exact⟨by kernel_rfl,fun j t c=>by
    rw[Tryz.params5]at c
    have d:t∈[25,62,3,3]:=by
     have:=Pu (by simpa using c);simpa using this
    have g:Tryz.prog.wantsStandIn 25=false:=by kernel_rfl
    have e:Tryz.prog.wantsStandIn 62=false:=by kernel_rfl
    have b:Tryz.prog.wantsStandIn 3=false:=by kernel_rfl
    simp only[Pk,PE,or_false]at d
    rcases d with rfl|rfl|rfl|rfl
    ·exact g
    ·exact e
    ·exact b
    ·exact b⟩)
  SN
end Go.Proofs.YtfpjecjadlgdcaaGreatDoor.lawReportTells
