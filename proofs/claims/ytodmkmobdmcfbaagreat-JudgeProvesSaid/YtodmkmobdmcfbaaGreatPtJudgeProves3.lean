import Derived.Test.YtodmkmobdmcfbaaGreatPtJudgeProves2
set_option linter.unusedVariables false
set_option linter.unusedSimpArgs false
set_option linter.defProp false
namespace Go.Proofs.YtodmkmobdmcfbaaGreat
theorem mixed:Tryz.prog.follows .mixedOrders=true:=by kernel_rfl
instance:IsT Tryz.prog 3 Int:=IsT.of OT NM rfl
instance:IsZ Tryz.prog 3 (0:Int) 8:=IsZ.of (z:=Pj 0) OT Pc
instance:IsC Tryz.prog 3 1 false:=IsC.of OT NM rfl
instance:IsZC Tryz.prog 3 [Pj 0]:=IsZC.of (z:=Pj 0) OT rfl
instance:IsT Tryz.prog 4 Bool:=IsT.of OT NS rfl
instance:IsZ Tryz.prog 4 false 1:=IsZ.of (z:=.bool false) OT Pc
instance:IsC Tryz.prog 4 1 false:=IsC.of OT NS rfl
instance:IsZC Tryz.prog 4 [.bool false]:=IsZC.of (z:=.bool false) OT rfl
instance:IsT Tryz.prog 95 Nat:=IsT.of OT N4 rfl
instance:IsZ Tryz.prog 95 (0:Nat) 8:=IsZ.of (z:=.int .u64 0) OT (fun _ _=>⟨rfl,by decide⟩)
instance:IsC Tryz.prog 95 1 false:=IsC.of OT N4 rfl
instance:IsZC Tryz.prog 95 [.int .u64 0]:=IsZC.of (z:=.int .u64 0) OT rfl
instance:IsT Tryz.prog 9 ByteArray:=IsT.of OT N0 rfl
instance:IsC Tryz.prog 9 1 false:=IsC.of OT N0 rfl
instance:IsZC Tryz.prog 9 [.string ⟨#[]⟩]:=IsZC.of (z:=.string ⟨#[]⟩) OT rfl
instance:IsT Tryz.prog 41 Int:=IsT.of OT Tryz.underlying41 rfl
instance:IsZ Tryz.prog 41 (0:Int) 8:=IsZ.of (z:=Pj 0) OT Pc
instance:IsC Tryz.prog 41 1 false:=IsC.of OT Tryz.underlying41 rfl
instance:IsZC Tryz.prog 41 [Pj 0]:=IsZC.of (z:=Pj 0) OT rfl
instance:IsB Tryz.prog 4:=⟨NS⟩
instance:IsI Tryz.prog 3 .i64:=⟨NM⟩
instance:IsI Tryz.prog 95 .u64:=⟨N4⟩
instance:IsI Tryz.prog 5 .u8:=⟨Tryz.underlying5⟩
instance:IsT Tryz.prog 38 (List Int):=IsT.of OT NR rfl
instance:IsS Tryz.prog 38 3:=⟨NR⟩
instance:IsZ Tryz.prog 38 ([]:List Int) 24:=IsZ.of (z:=.slice none 0 0) OT (fun _ _=>⟨none,0,rfl,by simp,by simp[maxLen],fun _=>rfl,fun i hi=>absurd hi OW⟩)
instance:IsC Tryz.prog 38 1 false:=IsC.of OT NR rfl
instance:IsZC Tryz.prog 38 [.slice none 0 0]:=IsZC.of (z:=.slice none 0 0) OT rfl
instance:IsT Tryz.prog 51 (List (List Int)):=IsT.of OT NT rfl
instance:IsS Tryz.prog 51 38:=⟨NT⟩
instance:IsZ Tryz.prog 51 ([]:List (List Int)) 24:=IsZ.of (z:=.slice none 0 0) OT (fun _ _=>⟨none,0,rfl,by simp,by simp[maxLen],fun _=>rfl,fun i hi=>absurd hi OW⟩)
instance:IsC Tryz.prog 51 1 false:=IsC.of OT NT rfl
instance:IsZC Tryz.prog 51 [.slice none 0 0]:=IsZC.of (z:=.slice none 0 0) OT rfl
instance:IsT Tryz.prog 61 (List Bool):=IsT.of OT NX rfl
instance:IsS Tryz.prog 61 4:=⟨NX⟩
instance:IsZ Tryz.prog 61 ([]:List Bool) 24:=IsZ.of (z:=.slice none 0 0) OT (fun _ _=>⟨none,0,rfl,by simp,by simp[maxLen],fun _=>rfl,fun i hi=>absurd hi OW⟩)
instance:IsC Tryz.prog 61 1 false:=IsC.of OT NX rfl
instance:IsZC Tryz.prog 61 [.slice none 0 0]:=IsZC.of (z:=.slice none 0 0) OT rfl
instance:IsT Tryz.prog 52 (List Nat):=IsT.of OT NU rfl
instance:IsS Tryz.prog 52 95:=⟨NU⟩
instance:IsZ Tryz.prog 52 ([]:List Nat) 24:=IsZ.of (z:=.slice none 0 0) OT (fun _ _=>⟨none,0,rfl,by simp,by simp[maxLen],fun _=>rfl,fun i hi=>absurd hi OW⟩)
instance:IsC Tryz.prog 52 1 false:=IsC.of OT NU rfl
instance:IsZC Tryz.prog 52 [.slice none 0 0]:=IsZC.of (z:=.slice none 0 0) OT rfl
instance:IsT Tryz.prog 59 (List ByteArray):=IsT.of OT NW rfl
instance:IsS Tryz.prog 59 9:=⟨NW⟩
instance:IsZ Tryz.prog 59 ([]:List ByteArray) 24:=IsZ.of (z:=.slice none 0 0) OT (fun _ _=>⟨none,0,rfl,by simp,by simp[maxLen],fun _=>rfl,fun i hi=>absurd hi OW⟩)
instance:IsC Tryz.prog 59 1 false:=IsC.of OT NW rfl
instance:IsZC Tryz.prog 59 [.slice none 0 0]:=IsZC.of (z:=.slice none 0 0) OT rfl
instance:IsT Tryz.prog 65 (List Int×List Int):=IsT.of OT Tryz.underlying65 rfl
instance:IsC Tryz.prog 65 2 true:=IsC.of OT Tryz.underlying65 rfl
instance:IsFd Tryz.prog 65 0 0:=IsFd.of OT
instance:IsFd Tryz.prog 65 1 1:=IsFd.of OT
instance:IsZC Tryz.prog 65 [.slice none 0 0,.slice none 0 0]:=IsZC.of (z:=.agg #[.slice none 0 0,.slice none 0 0]) OT rfl
instance:IsBd Tryz.prog 65 [(0,1),(1,1)]:=IsBd.of OT
instance:IsT Tryz.prog 27 (Int×Int×Int×Int×Int×Int×Int):=IsT.of OT NK rfl
instance:IsC Tryz.prog 27 7 true:=IsC.of OT NK rfl
instance:IsFd Tryz.prog 27 0 0:=IsFd.of OT
instance:IsFd Tryz.prog 27 1 1:=IsFd.of OT
instance:IsFd Tryz.prog 27 2 2:=IsFd.of OT
instance:IsFd Tryz.prog 27 3 3:=IsFd.of OT
instance:IsFd Tryz.prog 27 4 4:=IsFd.of OT
instance:IsFd Tryz.prog 27 5 5:=IsFd.of OT
instance:IsFd Tryz.prog 27 6 6:=IsFd.of OT
instance:IsZC Tryz.prog 27 [Pj 0,Pj 0,Pj 0,Pj 0,Pj 0,Pj 0,Pj 0]:=IsZC.of (z:=.agg #[Pj 0,Pj 0,Pj 0,Pj 0,Pj 0,Pj 0,Pj 0]) OT rfl
instance:IsBd Tryz.prog 27 [(0,1),(1,1),(2,1),(3,1),(4,1),(5,1),(6,1)]:=IsBd.of OT
instance:IsZ Tryz.prog 27 ((0,0,0,0,0,0,0):(Int×Int×Int×Int×Int×Int×Int)) 56:=IsZ.of (z:=.agg #[Pj 0,Pj 0,Pj 0,Pj 0,Pj 0,Pj 0,Pj 0]) OT (fun _ _=>C1 (C2 _ _ _) (C1 (C2 _ _ _) (C1 (C2 _ _ _) (C1 (C2 _ _ _) (C1 (C2 _ _ _) (C1 (C2 _ _ _) (C2 _ _ _)))))))
instance:IsT Tryz.prog 29 (Int×Int×Int×Int):=IsT.of OT NL rfl
instance:IsC Tryz.prog 29 4 true:=IsC.of OT NL rfl
instance:IsFd Tryz.prog 29 0 0:=IsFd.of OT
instance:IsFd Tryz.prog 29 1 1:=IsFd.of OT
instance:IsFd Tryz.prog 29 2 2:=IsFd.of OT
instance:IsFd Tryz.prog 29 3 3:=IsFd.of OT
instance:IsZC Tryz.prog 29 [Pj 0,Pj 0,Pj 0,Pj 0]:=IsZC.of (z:=.agg #[Pj 0,Pj 0,Pj 0,Pj 0]) OT rfl
instance:IsBd Tryz.prog 29 [(0,1),(1,1),(2,1),(3,1)]:=IsBd.of OT
instance:IsZ Tryz.prog 29 ((0,0,0,0):(Int×Int×Int×Int)) 32:=IsZ.of (z:=.agg #[Pj 0,Pj 0,Pj 0,Pj 0]) OT (fun _ _=>C1 (C2 _ _ _) (C1 (C2 _ _ _) (C1 (C2 _ _ _) (C2 _ _ _))))
instance:IsT Tryz.prog 54 (List Int×List (List Int)×List Nat×List (List Int)):=IsT.of OT Tryz.underlying54 rfl
instance:IsC Tryz.prog 54 4 true:=IsC.of OT Tryz.underlying54 rfl
instance:IsFd Tryz.prog 54 0 0:=IsFd.of OT
instance:IsFd Tryz.prog 54 1 1:=IsFd.of OT
instance:IsFd Tryz.prog 54 2 2:=IsFd.of OT
instance:IsFd Tryz.prog 54 3 3:=IsFd.of OT
instance:IsZC Tryz.prog 54 [.slice none 0 0,.slice none 0 0,.slice none 0 0,.slice none 0 0]:=IsZC.of (z:=.agg #[.slice none 0 0,.slice none 0 0,.slice none 0 0,.slice none 0 0]) OT rfl
instance:IsBd Tryz.prog 54 [(0,1),(1,1),(2,1),(3,1)]:=IsBd.of OT
instance:IsT Tryz.prog 104 (List Int×List (List Int)×List Nat×List Nat×List (List Int)):=IsT.of OT Tryz.underlying104 rfl
instance:IsC Tryz.prog 104 5 true:=IsC.of OT Tryz.underlying104 rfl
instance:IsFd Tryz.prog 104 0 0:=IsFd.of OT
instance:IsFd Tryz.prog 104 1 1:=IsFd.of OT
instance:IsFd Tryz.prog 104 2 2:=IsFd.of OT
instance:IsFd Tryz.prog 104 3 3:=IsFd.of OT
instance:IsFd Tryz.prog 104 4 4:=IsFd.of OT
instance:IsZC Tryz.prog 104 [.slice none 0 0,.slice none 0 0,.slice none 0 0,.slice none 0 0,.slice none 0 0]:=IsZC.of (z:=.agg #[.slice none 0 0,.slice none 0 0,.slice none 0 0,.slice none 0 0,.slice none 0 0]) OT rfl
instance:IsBd Tryz.prog 104 [(0,1),(1,1),(2,1),(3,1),(4,1)]:=IsBd.of OT
instance:IsT Tryz.prog 70 (ByteArray×Int):=IsT.of OT Tryz.underlying70 rfl
instance:IsC Tryz.prog 70 2 true:=IsC.of OT Tryz.underlying70 rfl
instance:IsFd Tryz.prog 70 0 0:=IsFd.of OT
instance:IsFd Tryz.prog 70 1 1:=IsFd.of OT
instance:IsZC Tryz.prog 70 [.string ⟨#[]⟩,Pj 0]:=IsZC.of (z:=.agg #[.string ⟨#[]⟩,Pj 0]) OT rfl
instance:IsBd Tryz.prog 70 [(0,1),(1,1)]:=IsBd.of OT
instance:IsZ Tryz.prog 70 ((⟨#[]⟩,0):(ByteArray×Int)) 24:=IsZ.of (z:=.agg #[.string ⟨#[]⟩,Pj 0]) OT (fun _ _=>C1 (c1:=[.string ⟨#[]⟩]) (c2:=[Pj 0]) ⟨rfl,by decide⟩ (C2 _ _ _))
instance:IsT Tryz.prog 72 (Int×Int):=IsT.of OT Tryz.underlying72 rfl
instance:IsC Tryz.prog 72 2 true:=IsC.of OT Tryz.underlying72 rfl
instance:IsFd Tryz.prog 72 0 0:=IsFd.of OT
instance:IsFd Tryz.prog 72 1 1:=IsFd.of OT
instance:IsZC Tryz.prog 72 [Pj 0,Pj 0]:=IsZC.of (z:=.agg #[Pj 0,Pj 0]) OT rfl
instance:IsBd Tryz.prog 72 [(0,1),(1,1)]:=IsBd.of OT
instance:IsZ Tryz.prog 72 ((0,0):(Int×Int)) 16:=IsZ.of (z:=.agg #[Pj 0,Pj 0]) OT (fun _ _=>C1 (C2 _ _ _) (C2 _ _ _))
instance:IsT Tryz.prog 25 (List (ByteArray×Int)×List (Int×Int)):=IsT.of OT Tryz.underlying25 rfl
instance:IsC Tryz.prog 25 2 true:=IsC.of OT Tryz.underlying25 rfl
instance:IsFd Tryz.prog 25 0 0:=IsFd.of OT
instance:IsFd Tryz.prog 25 1 1:=IsFd.of OT
instance:IsZC Tryz.prog 25 [.slice none 0 0,.slice none 0 0]:=IsZC.of (z:=.agg #[.slice none 0 0,.slice none 0 0]) OT rfl
instance:IsBd Tryz.prog 25 [(0,1),(1,1)]:=IsBd.of OT
instance:IsT Tryz.prog 127 (Int×Int×Int):=IsT.of OT Tryz.underlying127 rfl
instance:IsC Tryz.prog 127 3 true:=IsC.of OT Tryz.underlying127 rfl
instance:IsFd Tryz.prog 127 0 0:=IsFd.of OT
instance:IsFd Tryz.prog 127 1 1:=IsFd.of OT
instance:IsFd Tryz.prog 127 2 2:=IsFd.of OT
instance:IsZC Tryz.prog 127 [Pj 0,Pj 0,Pj 0]:=IsZC.of (z:=.agg #[Pj 0,Pj 0,Pj 0]) OT rfl
instance:IsBd Tryz.prog 127 [(0,1),(1,1),(2,1)]:=IsBd.of OT
instance:IsZ Tryz.prog 127 ((0,0,0):(Int×Int×Int)) 24:=IsZ.of (z:=.agg #[Pj 0,Pj 0,Pj 0]) OT (fun _ _=>C1 (C2 _ _ _) (C1 (C2 _ _ _) (C2 _ _ _)))
instance:IsT Tryz.prog 109 (Int×Int):=IsT.of OT Tryz.underlying109 rfl
instance:IsC Tryz.prog 109 2 true:=IsC.of OT Tryz.underlying109 rfl
instance:IsFd Tryz.prog 109 0 0:=IsFd.of OT
instance:IsFd Tryz.prog 109 1 1:=IsFd.of OT
instance:IsZC Tryz.prog 109 [Pj 0,Pj 0]:=IsZC.of (z:=.agg #[Pj 0,Pj 0]) OT rfl
instance:IsBd Tryz.prog 109 [(0,1),(1,1)]:=IsBd.of OT
instance:IsZ Tryz.prog 109 ((0,0):(Int×Int)) 16:=IsZ.of (z:=.agg #[Pj 0,Pj 0]) OT (fun _ _=>C1 (C2 _ _ _) (C2 _ _ _))
instance:IsT Tryz.prog 84 (List (List Int)×List (List (Int×Int))):=IsT.of OT Tryz.underlying84 rfl
instance:IsC Tryz.prog 84 2 true:=IsC.of OT Tryz.underlying84 rfl
instance:IsFd Tryz.prog 84 0 0:=IsFd.of OT
instance:IsFd Tryz.prog 84 1 1:=IsFd.of OT
instance:IsZC Tryz.prog 84 [.slice none 0 0,.slice none 0 0]:=IsZC.of (z:=.agg #[.slice none 0 0,.slice none 0 0]) OT rfl
instance:IsBd Tryz.prog 84 [(0,1),(1,1)]:=IsBd.of OT
instance:IsT Tryz.prog 40 (Bool×List Int×List Int):=IsT.of OT Tryz.underlying40 rfl
instance:IsC Tryz.prog 40 3 true:=IsC.of OT Tryz.underlying40 rfl
instance:IsFd Tryz.prog 40 0 0:=IsFd.of OT
instance:IsFd Tryz.prog 40 1 1:=IsFd.of OT
instance:IsFd Tryz.prog 40 2 2:=IsFd.of OT
instance:IsZC Tryz.prog 40 [.bool false,.slice none 0 0,.slice none 0 0]:=IsZC.of (z:=.agg #[.bool false,.slice none 0 0,.slice none 0 0]) OT rfl
instance:IsBd Tryz.prog 40 [(0,1),(1,1),(2,1)]:=IsBd.of OT
instance:IsT Tryz.prog 134 (Int×Int):=IsT.of OT Tryz.underlying134 rfl
instance:IsC Tryz.prog 134 2 true:=IsC.of OT Tryz.underlying134 rfl
instance:IsFd Tryz.prog 134 0 0:=IsFd.of OT
instance:IsFd Tryz.prog 134 1 1:=IsFd.of OT
instance:IsZC Tryz.prog 134 [Pj 0,Pj 0]:=IsZC.of (z:=.agg #[Pj 0,Pj 0]) OT rfl
instance:IsBd Tryz.prog 134 [(0,1),(1,1)]:=IsBd.of OT
instance:IsZ Tryz.prog 134 ((0,0):(Int×Int)) 16:=IsZ.of (z:=.agg #[Pj 0,Pj 0]) OT (fun _ _=>C1 (C2 _ _ _) (C2 _ _ _))
instance:IsC Tryz.prog 149 6 true:=IsC.of OT Tryz.underlying149 rfl
instance:IsFd Tryz.prog 149 0 0:=IsFd.of OT
instance:IsFd Tryz.prog 149 1 4:=IsFd.of OT
instance:IsFd Tryz.prog 149 2 5:=IsFd.of OT
instance:IsZC Tryz.prog 149 [.slice none 0 0,.slice none 0 0,.slice none 0 0,.slice none 0 0,.slice none 0 0,.slice none 0 0]:=IsZC.of (z:=.agg #[.slice none 0 0,.slice none 0 0,.slice none 0 0,.slice none 0 0,.slice none 0 0,.slice none 0 0]) OT rfl
instance:IsBd Tryz.prog 149 [(0,4),(4,1),(5,1)]:=IsBd.of OT
instance:IsC Tryz.prog 90 10 true:=IsC.of OT Tryz.underlying90 rfl
instance:IsFd Tryz.prog 90 0 0:=IsFd.of OT
instance:IsFd Tryz.prog 90 1 1:=IsFd.of OT
instance:IsFd Tryz.prog 90 2 3:=IsFd.of OT
instance:IsFd Tryz.prog 90 3 4:=IsFd.of OT
instance:IsFd Tryz.prog 90 4 5:=IsFd.of OT
instance:IsFd Tryz.prog 90 5 6:=IsFd.of OT
instance:IsZC Tryz.prog 90 [.slice none 0 0,.slice none 0 0,.slice none 0 0,.slice none 0 0,.slice none 0 0,.slice none 0 0,.slice none 0 0,.slice none 0 0,.slice none 0 0,.slice none 0 0]:=IsZC.of (z:=.agg #[.slice none 0 0,.slice none 0 0,.slice none 0 0,.slice none 0 0,.slice none 0 0,.slice none 0 0,.slice none 0 0,.slice none 0 0,.slice none 0 0,.slice none 0 0]) OT rfl
instance:IsBd Tryz.prog 90 [(0,1),(1,2),(3,1),(4,1),(5,1),(6,4)]:=IsBd.of OT
instance:IsT Tryz.prog 174 (Int×Int):=IsT.of OT NF rfl
instance:IsC Tryz.prog 174 2 true:=IsC.of OT NF rfl
instance:IsFd Tryz.prog 174 0 0:=IsFd.of OT
instance:IsFd Tryz.prog 174 1 1:=IsFd.of OT
instance:IsZC Tryz.prog 174 [Pj 0,Pj 0]:=IsZC.of (z:=.agg #[Pj 0,Pj 0]) OT rfl
instance:IsBd Tryz.prog 174 [(0,1),(1,1)]:=IsBd.of OT
instance:IsZ Tryz.prog 174 ((0,0):(Int×Int)) 16:=IsZ.of (z:=.agg #[Pj 0,Pj 0]) OT (fun _ _=>C1 (C2 _ _ _) (C2 _ _ _))
instance:IsC Tryz.prog 171 13 true:=IsC.of OT Tryz.underlying171 rfl
instance:IsFd Tryz.prog 171 0 0:=IsFd.of OT
instance:IsFd Tryz.prog 171 1 4:=IsFd.of OT
instance:IsFd Tryz.prog 171 2 9:=IsFd.of OT
instance:IsFd Tryz.prog 171 3 10:=IsFd.of OT
instance:IsFd Tryz.prog 171 4 11:=IsFd.of OT
instance:IsFd Tryz.prog 171 5 12:=IsFd.of OT
instance:IsZC Tryz.prog 171 [.slice none 0 0,.slice none 0 0,.slice none 0 0,.slice none 0 0,.slice none 0 0,.slice none 0 0,.slice none 0 0,.slice none 0 0,.slice none 0 0,.map none,.slice none 0 0,.slice none 0 0,.slice none 0 0]:=IsZC.of (z:=.agg #[.slice none 0 0,.slice none 0 0,.slice none 0 0,.slice none 0 0,.slice none 0 0,.slice none 0 0,.slice none 0 0,.slice none 0 0,.slice none 0 0,.map none,.slice none 0 0,.slice none 0 0,.slice none 0 0]) OT rfl
instance:IsBd Tryz.prog 171 [(0,4),(4,5),(9,1),(10,1),(11,1),(12,1)]:=IsBd.of OT
instance:IsC Tryz.prog 223 7 true:=IsC.of OT Tryz.underlying223 rfl
instance:IsFd Tryz.prog 223 0 0:=IsFd.of OT
instance:IsFd Tryz.prog 223 1 1:=IsFd.of OT
instance:IsFd Tryz.prog 223 2 2:=IsFd.of OT
instance:IsFd Tryz.prog 223 3 3:=IsFd.of OT
instance:IsFd Tryz.prog 223 4 4:=IsFd.of OT
instance:IsFd Tryz.prog 223 5 5:=IsFd.of OT
instance:IsFd Tryz.prog 223 6 6:=IsFd.of OT
instance:IsZC Tryz.prog 223 [.slice none 0 0,.slice none 0 0,.slice none 0 0,.slice none 0 0,.slice none 0 0,Pj 0,Pj 0]:=IsZC.of (z:=.agg #[.slice none 0 0,.slice none 0 0,.slice none 0 0,.slice none 0 0,.slice none 0 0,Pj 0,Pj 0]) OT rfl
instance:IsBd Tryz.prog 223 [(0,1),(1,1),(2,1),(3,1),(4,1),(5,1),(6,1)]:=IsBd.of OT
instance:IsT Tryz.prog 22 (List (ByteArray×Int)):=IsT.of OT NG rfl
instance:IsS Tryz.prog 22 70:=⟨NG⟩
instance:IsZ Tryz.prog 22 ([]:List (ByteArray×Int)) 24:=IsZ.of (z:=.slice none 0 0) OT (fun _ _=>⟨none,0,rfl,by simp,by simp[maxLen],fun _=>rfl,fun i hi=>absurd hi OW⟩)
instance:IsC Tryz.prog 22 1 false:=IsC.of OT NG rfl
instance:IsZC Tryz.prog 22 [.slice none 0 0]:=IsZC.of (z:=.slice none 0 0) OT rfl
instance:IsT Tryz.prog 23 (List (Int×Int)):=IsT.of OT NH rfl
instance:IsS Tryz.prog 23 72:=⟨NH⟩
instance:IsZ Tryz.prog 23 ([]:List (Int×Int)) 24:=IsZ.of (z:=.slice none 0 0) OT (fun _ _=>⟨none,0,rfl,by simp,by simp[maxLen],fun _=>rfl,fun i hi=>absurd hi OW⟩)
instance:IsC Tryz.prog 23 1 false:=IsC.of OT NH rfl
instance:IsZC Tryz.prog 23 [.slice none 0 0]:=IsZC.of (z:=.slice none 0 0) OT rfl
instance:IsT Tryz.prog 88 (List (Int×Int×Int)):=IsT.of OT NZ rfl
instance:IsS Tryz.prog 88 127:=⟨NZ⟩
instance:IsZ Tryz.prog 88 ([]:List (Int×Int×Int)) 24:=IsZ.of (z:=.slice none 0 0) OT (fun _ _=>⟨none,0,rfl,by simp,by simp[maxLen],fun _=>rfl,fun i hi=>absurd hi OW⟩)
instance:IsC Tryz.prog 88 1 false:=IsC.of OT NZ rfl
instance:IsZC Tryz.prog 88 [.slice none 0 0]:=IsZC.of (z:=.slice none 0 0) OT rfl
instance:IsT Tryz.prog 55 (List (Int×Int)):=IsT.of OT NV rfl
instance:IsS Tryz.prog 55 109:=⟨NV⟩
instance:IsZ Tryz.prog 55 ([]:List (Int×Int)) 24:=IsZ.of (z:=.slice none 0 0) OT (fun _ _=>⟨none,0,rfl,by simp,by simp[maxLen],fun _=>rfl,fun i hi=>absurd hi OW⟩)
instance:IsC Tryz.prog 55 1 false:=IsC.of OT NV rfl
instance:IsZC Tryz.prog 55 [.slice none 0 0]:=IsZC.of (z:=.slice none 0 0) OT rfl
instance:IsT Tryz.prog 82 (List (List (Int×Int))):=IsT.of OT NY rfl
instance:IsS Tryz.prog 82 55:=⟨NY⟩
instance:IsZ Tryz.prog 82 ([]:List (List (Int×Int))) 24:=IsZ.of (z:=.slice none 0 0) OT (fun _ _=>⟨none,0,rfl,by simp,by simp[maxLen],fun _=>rfl,fun i hi=>absurd hi OW⟩)
instance:IsC Tryz.prog 82 1 false:=IsC.of OT NY rfl
instance:IsZC Tryz.prog 82 [.slice none 0 0]:=IsZC.of (z:=.slice none 0 0) OT rfl
instance:IsT Tryz.prog 169 (List (Int×Int)):=IsT.of OT NE rfl
instance:IsS Tryz.prog 169 174:=⟨NE⟩
instance:IsZ Tryz.prog 169 ([]:List (Int×Int)) 24:=IsZ.of (z:=.slice none 0 0) OT (fun _ _=>⟨none,0,rfl,by simp,by simp[maxLen],fun _=>rfl,fun i hi=>absurd hi OW⟩)
instance:IsC Tryz.prog 169 1 false:=IsC.of OT NE rfl
instance:IsZC Tryz.prog 169 [.slice none 0 0]:=IsZC.of (z:=.slice none 0 0) OT rfl
instance:IsT Tryz.prog 132 (List (Int×Int)):=IsT.of OT ND rfl
instance:IsS Tryz.prog 132 134:=⟨ND⟩
instance:IsZ Tryz.prog 132 ([]:List (Int×Int)) 24:=IsZ.of (z:=.slice none 0 0) OT (fun _ _=>⟨none,0,rfl,by simp,by simp[maxLen],fun _=>rfl,fun i hi=>absurd hi OW⟩)
instance:IsC Tryz.prog 132 1 false:=IsC.of OT ND rfl
instance:IsZC Tryz.prog 132 [.slice none 0 0]:=IsZC.of (z:=.slice none 0 0) OT rfl
instance:IsT Tryz.prog 124 (List (List Bool)):=IsT.of OT NC rfl
instance:IsS Tryz.prog 124 61:=⟨NC⟩
instance:IsZ Tryz.prog 124 ([]:List (List Bool)) 24:=IsZ.of (z:=.slice none 0 0) OT (fun _ _=>⟨none,0,rfl,by simp,by simp[maxLen],fun _=>rfl,fun i hi=>absurd hi OW⟩)
instance:IsC Tryz.prog 124 1 false:=IsC.of OT NC rfl
instance:IsZC Tryz.prog 124 [.slice none 0 0]:=IsZC.of (z:=.slice none 0 0) OT rfl
instance:IsC Tryz.prog 99 1 false:=IsC.of OT Tryz.underlying99 rfl
instance:IsC Tryz.prog 87 1 false:=IsC.of OT Tryz.underlying87 rfl
instance:IsC Tryz.prog 167 1 false:=IsC.of OT Tryz.underlying167 rfl
instance:IsC Tryz.prog 221 1 false:=IsC.of OT Tryz.underlying221 rfl
instance:IsC Tryz.prog 128 1 false:=IsC.of OT Tryz.underlying128 rfl
instance:IsF Tryz.prog 222:=⟨_,Tryz.func222,rfl,by decide⟩
instance:IsF Tryz.prog 190:=⟨_,Tryz.func190,rfl,by decide⟩
instance:IsF Tryz.prog 189:=⟨_,Tryz.func189,rfl,by decide⟩
instance:IsF Tryz.prog 136:=⟨_,Tryz.func136,rfl,by decide⟩
instance:IsF Tryz.prog 157:=⟨_,Tryz.func157,rfl,by decide⟩
instance:IsF Tryz.prog 87:=⟨_,Tryz.func87,rfl,by decide⟩
instance:IsF Tryz.prog 90:=⟨_,Tryz.func90,rfl,by decide⟩
instance:IsF Tryz.prog 162:=⟨_,Tryz.func162,rfl,by decide⟩
instance:IsF Tryz.prog 93:=⟨_,Tryz.func93,rfl,by decide⟩
instance:IsF Tryz.prog 165:=⟨_,Tryz.func165,rfl,by decide⟩
instance:IsF Tryz.prog 166:=⟨_,Tryz.func166,rfl,by decide⟩
instance:IsF Tryz.prog 167:=⟨_,Tryz.func167,rfl,by decide⟩
instance:IsF Tryz.prog 89:=⟨_,Tryz.func89,rfl,by decide⟩
instance:IsF Tryz.prog 159:=⟨_,Tryz.func159,rfl,by decide⟩
instance:IsF Tryz.prog 160:=⟨_,Tryz.func160,rfl,by decide⟩
instance:IsF Tryz.prog 161:=⟨_,Tryz.func161,rfl,by decide⟩
instance:IsF Tryz.prog 94:=⟨_,Tryz.func94,rfl,by decide⟩
instance:IsF Tryz.prog 91:=⟨_,Tryz.func91,rfl,by decide⟩
instance:IsF Tryz.prog 73:=⟨_,Tryz.func73,rfl,by decide⟩
instance:IsF Tryz.prog 68:=⟨_,Tryz.func68,rfl,by decide⟩
instance:IsF Tryz.prog 144:=⟨_,Tryz.func144,rfl,by decide⟩
instance:IsF Tryz.prog 64:=⟨_,Tryz.func64,rfl,by decide⟩
instance:IsF Tryz.prog 72:=⟨_,Tryz.func72,rfl,by decide⟩
instance:IsF Tryz.prog 71:=⟨_,Tryz.func71,rfl,by decide⟩
instance:IsF Tryz.prog 70:=⟨_,Tryz.func70,rfl,by decide⟩
instance:IsF Tryz.prog 145:=⟨_,Tryz.func145,rfl,by decide⟩
instance:IsF Tryz.prog 34:=⟨_,Tryz.func34,rfl,by decide⟩
instance:IsF Tryz.prog 65:=⟨_,Tryz.func65,rfl,by decide⟩
instance:IsF Tryz.prog 66:=⟨_,Tryz.func66,rfl,by decide⟩
instance:IsF Tryz.prog 69:=⟨_,Tryz.func69,rfl,by decide⟩
instance:IsF Tryz.prog 67:=⟨_,Tryz.func67,rfl,by decide⟩
instance:IsF Tryz.prog 143:=⟨_,Tryz.func143,rfl,by decide⟩
instance:IsF Tryz.prog 188:=⟨_,Tryz.func188,rfl,by decide⟩
instance:IsF Tryz.prog 135:=⟨_,Tryz.func135,rfl,by decide⟩
instance:IsF Tryz.prog 28:=⟨_,Tryz.func28,rfl,by decide⟩
instance:IsF Tryz.prog 29:=⟨_,Tryz.func29,rfl,by decide⟩
instance:IsF Tryz.prog 27:=⟨_,Tryz.func27,rfl,by decide⟩
instance:IsF Tryz.prog 26:=⟨_,Tryz.func26,rfl,by decide⟩
instance:IsF Tryz.prog 25:=⟨_,Tryz.func25,rfl,by decide⟩
instance:IsF Tryz.prog 212:=⟨_,Tryz.func212,rfl,by decide⟩
instance:IsF Tryz.prog 213:=⟨_,Tryz.func213,rfl,by decide⟩
instance:IsF Tryz.prog 158:=⟨_,Tryz.func158,rfl,by decide⟩
instance:IsF Tryz.prog 126:=⟨_,Tryz.func126,rfl,by decide⟩
instance:IsF Tryz.prog 125:=⟨_,Tryz.func125,rfl,by decide⟩
instance:IsF Tryz.prog 180:=⟨_,Tryz.func180,rfl,by decide⟩
instance:IsF Tryz.prog 84:=⟨_,Tryz.func84,rfl,by decide⟩
instance:IsF Tryz.prog 153:=⟨_,Tryz.func153,rfl,by decide⟩
instance:IsF Tryz.prog 85:=⟨_,Tryz.func85,rfl,by decide⟩
instance:IsF Tryz.prog 78:=⟨_,Tryz.func78,rfl,by decide⟩
instance:IsF Tryz.prog 81:=⟨_,Ny,rfl,by decide⟩
instance:IsF Tryz.prog 80:=⟨_,Tryz.func80,rfl,by decide⟩
instance:IsF Tryz.prog 83:=⟨_,Tryz.func83,rfl,by decide⟩
instance:IsF Tryz.prog 150:=⟨_,Tryz.func150,rfl,by decide⟩
instance:IsF Tryz.prog 197:=⟨_,Tryz.func197,rfl,by decide⟩
instance:IsF Tryz.prog 205:=⟨_,Tryz.func205,rfl,by decide⟩
instance:IsF Tryz.prog 225:=⟨_,Tryz.func225,rfl,by decide⟩
instance:IsF Tryz.prog 152:=⟨_,Tryz.func152,rfl,by decide⟩
instance:IsF Tryz.prog 208:=⟨_,Tryz.func208,rfl,by decide⟩
instance:IsF Tryz.prog 209:=⟨_,Tryz.func209,rfl,by decide⟩
instance:IsF Tryz.prog 82:=⟨_,Tryz.func82,rfl,by decide⟩
instance:IsF Tryz.prog 48:=⟨_,Tryz.func48,rfl,by decide⟩
instance:IsF Tryz.prog 75:=⟨_,Tryz.func75,rfl,by decide⟩
instance:IsF Tryz.prog 58:=⟨_,Tryz.func58,rfl,by decide⟩
instance:IsF Tryz.prog 182:=⟨_,Tryz.func182,rfl,by decide⟩
instance:IsF Tryz.prog 132:=⟨_,Tryz.func132,rfl,by decide⟩
instance:IsF Tryz.prog 47:=⟨_,Tryz.func47,rfl,by decide⟩
instance:IsF Tryz.prog 45:=⟨_,Tryz.func45,rfl,by decide⟩
instance:IsF Tryz.prog 147:=⟨_,Tryz.func147,rfl,by decide⟩
instance:IsF Tryz.prog 137:=⟨_,Tryz.func137,rfl,by decide⟩
instance:IsF Tryz.prog 196:=⟨_,Tryz.func196,rfl,by decide⟩
instance:IsF Tryz.prog 215:=⟨_,Tryz.func215,rfl,by decide⟩
instance:IsF Tryz.prog 163:=⟨_,Tryz.func163,rfl,by decide⟩
instance:IsF Tryz.prog 124:=⟨_,Tryz.func124,rfl,by decide⟩
instance:IsF Tryz.prog 138:=⟨_,Tryz.func138,rfl,by decide⟩
instance:IsF Tryz.prog 164:=⟨_,Tryz.func164,rfl,by decide⟩
instance:IsF Tryz.prog 79:=⟨_,Tryz.func79,rfl,by decide⟩
instance:IsF Tryz.prog 201:=⟨_,Tryz.func201,rfl,by decide⟩
instance:IsF Tryz.prog 202:=⟨_,Tryz.func202,rfl,by decide⟩
instance:IsF Tryz.prog 200:=⟨_,Tryz.func200,rfl,by decide⟩
instance:IsF Tryz.prog 199:=⟨_,Tryz.func199,rfl,by decide⟩
instance:IsF Tryz.prog 223:=⟨_,Tryz.func223,rfl,by decide⟩
instance:IsF Tryz.prog 224:=⟨_,Tryz.func224,rfl,by decide⟩
instance:IsF Tryz.prog 221:=⟨_,Tryz.func221,rfl,by decide⟩
instance:IsF Tryz.prog 226:=⟨_,Tryz.func226,rfl,by decide⟩
instance:IsF Tryz.prog 204:=⟨_,Tryz.func204,rfl,by decide⟩
instance:IsF Tryz.prog 206:=⟨_,Tryz.func206,rfl,by decide⟩
instance:IsF Tryz.prog 207:=⟨_,Tryz.func207,rfl,by decide⟩
instance:IsF Tryz.prog 151:=⟨_,Tryz.func151,rfl,by decide⟩
instance:IsF Tryz.prog 203:=⟨_,Tryz.func203,rfl,by decide⟩
instance:IsF Tryz.prog 220:=⟨_,Tryz.func220,rfl,by decide⟩
instance:IsF Tryz.prog 86:=⟨_,Tryz.func86,rfl,by decide⟩
instance:IsF Tryz.prog 155:=⟨_,Tryz.func155,rfl,by decide⟩
instance:IsF Tryz.prog 156:=⟨_,Tryz.func156,rfl,by decide⟩
instance:IsF Tryz.prog 211:=⟨_,Tryz.func211,rfl,by decide⟩
instance:IsF Tryz.prog 154:=⟨_,Tryz.func154,rfl,by decide⟩
instance:IsF Tryz.prog 210:=⟨_,Tryz.func210,rfl,by decide⟩
instance:IsF Tryz.prog 61:=⟨_,Tryz.func61,rfl,by decide⟩
instance:IsF Tryz.prog 57:=⟨_,Tryz.func57,rfl,by decide⟩
instance:IsF Tryz.prog 218:=⟨_,Tryz.func218,rfl,by decide⟩
instance:IsF Tryz.prog 139:=⟨_,Tryz.func139,rfl,by decide⟩
instance:IsF Tryz.prog 192:=⟨_,Tryz.func192,rfl,by decide⟩
instance:IsF Tryz.prog 191:=⟨_,Tryz.func191,rfl,by decide⟩
instance:IsF Tryz.prog 40:=⟨_,Tryz.func40,rfl,by decide⟩
instance:IsF Tryz.prog 16:=⟨_,Tryz.func16,rfl,by decide⟩
instance:IsF Tryz.prog 110:=⟨_,Tryz.func110,rfl,by decide⟩
instance:IsF Tryz.prog 117:=⟨_,Tryz.func117,rfl,by decide⟩
instance:IsF Tryz.prog 118:=⟨_,Tryz.func118,rfl,by decide⟩
instance:IsF Tryz.prog 105:=⟨_,Tryz.func105,rfl,by decide⟩
instance:IsF Tryz.prog 107:=⟨_,Tryz.func107,rfl,by decide⟩
instance:IsF Tryz.prog 41:=⟨_,Tryz.func41,rfl,by decide⟩
instance:IsF Tryz.prog 106:=⟨_,Tryz.func106,rfl,by decide⟩
instance:IsF Tryz.prog 108:=⟨_,Tryz.func108,rfl,by decide⟩
instance:IsF Tryz.prog 109:=⟨_,Tryz.func109,rfl,by decide⟩
instance:IsF Tryz.prog 114:=⟨_,Tryz.func114,rfl,by decide⟩
instance:IsF Tryz.prog 116:=⟨_,Tryz.func116,rfl,by decide⟩
instance:IsF Tryz.prog 112:=⟨_,Tryz.func112,rfl,by decide⟩
instance:IsF Tryz.prog 119:=⟨_,Tryz.func119,rfl,by decide⟩
instance:IsF Tryz.prog 111:=⟨_,Tryz.func111,rfl,by decide⟩
instance:IsF Tryz.prog 113:=⟨_,Tryz.func113,rfl,by decide⟩
instance:IsF Tryz.prog 115:=⟨_,Tryz.func115,rfl,by decide⟩
instance:IsF Tryz.prog 38:=⟨_,Tryz.func38,rfl,by decide⟩
instance:IsF Tryz.prog 15:=⟨_,Tryz.func15,rfl,by decide⟩
instance:IsF Tryz.prog 101:=⟨_,Tryz.func101,rfl,by decide⟩
instance:IsF Tryz.prog 103:=⟨_,Tryz.func103,rfl,by decide⟩
instance:IsF Tryz.prog 39:=⟨_,Tryz.func39,rfl,by decide⟩
instance:IsF Tryz.prog 104:=⟨_,Tryz.func104,rfl,by decide⟩
instance:IsF Tryz.prog 96:=⟨_,Tryz.func96,rfl,by decide⟩
instance:IsF Tryz.prog 97:=⟨_,Tryz.func97,rfl,by decide⟩
instance:IsF Tryz.prog 99:=⟨_,Tryz.func99,rfl,by decide⟩
instance:IsF Tryz.prog 98:=⟨_,Tryz.func98,rfl,by decide⟩
instance:IsF Tryz.prog 95:=⟨_,Tryz.func95,rfl,by decide⟩
instance:IsF Tryz.prog 168:=⟨_,Tryz.func168,rfl,by decide⟩
instance:IsF Tryz.prog 102:=⟨_,Tryz.func102,rfl,by decide⟩
instance:IsF Tryz.prog 100:=⟨_,Tryz.func100,rfl,by decide⟩
instance:IsF Tryz.prog 169:=⟨_,Tryz.func169,rfl,by decide⟩
instance:IsF Tryz.prog 170:=⟨_,Tryz.func170,rfl,by decide⟩
instance:IsF Tryz.prog 172:=⟨_,Tryz.func172,rfl,by decide⟩
instance:IsF Tryz.prog 173:=⟨_,Tryz.func173,rfl,by decide⟩
instance:IsF Tryz.prog 174:=⟨_,Tryz.func174,rfl,by decide⟩
instance:IsF Tryz.prog 175:=⟨_,Tryz.func175,rfl,by decide⟩
instance:IsF Tryz.prog 171:=⟨_,Tryz.func171,rfl,by decide⟩
instance:IsF Tryz.prog 37:=⟨_,Tryz.func37,rfl,by decide⟩
instance:IsF Tryz.prog 92:=⟨_,Tryz.func92,rfl,by decide⟩
instance:IsF Tryz.prog 43:=⟨_,Tryz.func43,rfl,by decide⟩
instance:IsF Tryz.prog 46:=⟨_,Tryz.func46,rfl,by decide⟩
instance:IsF Tryz.prog 121:=⟨_,Tryz.func121,rfl,by decide⟩
instance:IsF Tryz.prog 122:=⟨_,Tryz.func122,rfl,by decide⟩
instance:IsF Tryz.prog 177:=⟨_,Tryz.func177,rfl,by decide⟩
instance:IsF Tryz.prog 214:=⟨_,Tryz.func214,rfl,by decide⟩
instance:IsF Tryz.prog 123:=⟨_,Tryz.func123,rfl,by decide⟩
instance:IsF Tryz.prog 179:=⟨_,Tryz.func179,rfl,by decide⟩
instance:IsF Tryz.prog 176:=⟨_,Tryz.func176,rfl,by decide⟩
instance:IsF Tryz.prog 178:=⟨_,Tryz.func178,rfl,by decide⟩
instance:IsF Tryz.prog 13:=⟨_,Tryz.func13,rfl,by decide⟩
instance:IsF Tryz.prog 4:=⟨_,Tryz.func4,rfl,by decide⟩
instance:IsF Tryz.prog 14:=⟨_,Tryz.func14,rfl,by decide⟩
instance:IsF Tryz.prog 11:=⟨_,Tryz.func11,rfl,by decide⟩
instance:IsF Tryz.prog 12:=⟨_,Tryz.func12,rfl,by decide⟩
instance:IsF Tryz.prog 33:=⟨_,Tryz.func33,rfl,by decide⟩
instance:IsF Tryz.prog 32:=⟨_,Tryz.func32,rfl,by decide⟩
instance:IsF Tryz.prog 17:=⟨_,Tryz.func17,rfl,by decide⟩
instance:IsF Tryz.prog 56:=⟨_,Tryz.func56,rfl,by decide⟩
instance:IsF Tryz.prog 217:=⟨_,Tryz.func217,rfl,by decide⟩
instance:IsF Tryz.prog 42:=⟨_,Tryz.func42,rfl,by decide⟩
instance:IsF Tryz.prog 120:=⟨_,Tryz.func120,rfl,by decide⟩
instance:IsF Tryz.prog 187:=⟨_,Tryz.func187,rfl,by decide⟩
instance:IsF Tryz.prog 52:=⟨_,Tryz.func52,rfl,by decide⟩
instance:IsF Tryz.prog 133:=⟨_,Tryz.func133,rfl,by decide⟩
instance:IsF Tryz.prog 30:=⟨_,Tryz.func30,rfl,by decide⟩
instance:IsF Tryz.prog 134:=⟨_,Tryz.func134,rfl,by decide⟩
instance:IsF Tryz.prog 128:=⟨_,Tryz.func128,rfl,by decide⟩
instance:IsF Tryz.prog 129:=⟨_,Tryz.func129,rfl,by decide⟩
instance:IsF Tryz.prog 186:=⟨_,Tryz.func186,rfl,by decide⟩
instance:IsF Tryz.prog 127:=⟨_,Tryz.func127,rfl,by decide⟩
instance:IsF Tryz.prog 183:=⟨_,Tryz.func183,rfl,by decide⟩
instance:IsF Tryz.prog 130:=⟨_,Tryz.func130,rfl,by decide⟩
instance:IsF Tryz.prog 77:=⟨_,Tryz.func77,rfl,by decide⟩
instance:IsF Tryz.prog 198:=⟨_,Tryz.func198,rfl,by decide⟩
instance:IsF Tryz.prog 195:=⟨_,Tryz.func195,rfl,by decide⟩
instance:IsF Tryz.prog 149:=⟨_,Tryz.func149,rfl,by decide⟩
instance:IsF Tryz.prog 148:=⟨_,Tryz.func148,rfl,by decide⟩
instance:IsF Tryz.prog 194:=⟨_,Tryz.func194,rfl,by decide⟩
instance:IsF Tryz.prog 19:=⟨_,Tryz.func19,rfl,by decide⟩
instance:IsF Tryz.prog 8:=⟨_,Tryz.func8,rfl,by decide⟩
instance:IsF Tryz.prog 50:=⟨_,Tryz.func50,rfl,by decide⟩
instance:IsF Tryz.prog 20:=⟨_,Tryz.func20,rfl,by decide⟩
instance:IsF Tryz.prog 21:=⟨_,Tryz.func21,rfl,by decide⟩
instance:IsF Tryz.prog 49:=⟨_,Tryz.func49,rfl,by decide⟩
instance:IsF Tryz.prog 22:=⟨_,Tryz.func22,rfl,by decide⟩
instance:IsF Tryz.prog 44:=⟨_,Tryz.func44,rfl,by decide⟩
instance:IsF Tryz.prog 10:=⟨_,Tryz.func10,rfl,by decide⟩
instance:IsF Tryz.prog 7:=⟨_,Tryz.func7,rfl,by decide⟩
instance:IsF Tryz.prog 55:=⟨_,Tryz.func55,rfl,by decide⟩
instance:IsF Tryz.prog 54:=⟨_,Tryz.func54,rfl,by decide⟩
instance:IsF Tryz.prog 18:=⟨_,Tryz.func18,rfl,by decide⟩
instance:IsF Tryz.prog 60:=⟨_,Tryz.func60,rfl,by decide⟩
instance:IsF Tryz.prog 31:=⟨_,Tryz.func31,rfl,by decide⟩
instance:IsF Tryz.prog 59:=⟨_,Tryz.func59,rfl,by decide⟩
instance:IsF Tryz.prog 9:=⟨_,Tryz.func9,rfl,by decide⟩
instance:IsF Tryz.prog 141:=⟨_,Tryz.func141,rfl,by decide⟩
instance:IsF Tryz.prog 131:=⟨_,Tryz.func131,rfl,by decide⟩
instance:IsF Tryz.prog 88:=⟨_,Tryz.func88,rfl,by decide⟩
instance:IsF Tryz.prog 63:=⟨_,Tryz.func63,rfl,by decide⟩
instance:IsF Tryz.prog 184:=⟨_,Tryz.func184,rfl,by decide⟩
instance:IsF Tryz.prog 216:=⟨_,Tryz.func216,rfl,by decide⟩
instance:IsF Tryz.prog 185:=⟨_,Tryz.func185,rfl,by decide⟩
instance:IsF Tryz.prog 142:=⟨_,Tryz.func142,rfl,by decide⟩
instance:IsF Tryz.prog 23:=⟨_,Tryz.func23,rfl,by decide⟩
instance:IsF Tryz.prog 181:=⟨_,Tryz.func181,rfl,by decide⟩
instance:IsF Tryz.prog 51:=⟨_,Tryz.func51,rfl,by decide⟩
instance:IsF Tryz.prog 24:=⟨_,Tryz.func24,rfl,by decide⟩
instance:IsF Tryz.prog 53:=⟨_,Tryz.func53,rfl,by decide⟩
instance:IsF Tryz.prog 36:=⟨_,Tryz.func36,rfl,by decide⟩
instance:IsF Tryz.prog 5:=⟨_,Tryz.func5,rfl,by decide⟩
instance:IsF Tryz.prog 35:=⟨_,Tryz.func35,rfl,by decide⟩
instance:IsF Tryz.prog 76:=⟨_,Tryz.func76,rfl,by decide⟩
instance:IsF Tryz.prog 62:=⟨_,Tryz.func62,rfl,by decide⟩
instance:IsF Tryz.prog 140:=⟨_,Tryz.func140,rfl,by decide⟩
instance:IsF Tryz.prog 193:=⟨_,Tryz.func193,rfl,by decide⟩
instance:IsF Tryz.prog 219:=⟨_,Tryz.func219,rfl,by decide⟩
instance:IsF Tryz.prog 74:=⟨_,Tryz.func74,rfl,by decide⟩
instance:IsF Tryz.prog 146:=⟨_,Tryz.func146,rfl,by decide⟩
open Go.RowKit
inductive Ltl where
 |mk (k n:Int) (kids:List Ltl):Ltl
def Ltl.k:Ltl→Int|.mk k _ _=>k
def Ltl.n:Ltl→Int|.mk _ n _=>n
def Ltl.kids:Ltl→List Ltl|.mk _ _ l=>l
mutual
def Ltl.nodes:Ltl→Nat
 |.mk _ _ kids=>1+Ltl.nodesL kids
def Ltl.nodesL:List Ltl→Nat
 |[]=>0
 |x::r=>x.nodes+Ltl.nodesL r
end
theorem Ltl.nodes_pos(t:Ltl):0<t.nodes:=by cases t;simp[Ltl.nodes];omega
theorem Ltl.nodes_kid:∀(l:List Ltl) (x:Ltl),x∈l→x.nodes≤Ltl.nodesL l
 |[],x,h=>by cases h
 |y::r,x,h=>by
  simp only[Ltl.nodesL];rcases LN.1 h with rfl|h
  ·omega
  ·have:=Ltl.nodes_kid r x h;omega
inductive RdT(w:World)(F:Nat→Prop):List Value→Ltl→Prop
 |mk (k n:Int) (kids:List Ltl) (ao:Option Addr) (cap:Nat) (es:Nat→List Value):kids.length≤cap→cap≤maxLen→(ao=none→cap=0)→
   (∀i,i<kids.length→∃b off,ao=some ⟨b,off,none⟩∧F b∧Cells w b (off+i*3) (es i))→(∀i (h:i<kids.length),RdT w F (es i) kids[i])→
   RdT w F [.int .i64 k,.int .i64 n,.slice ao kids.length cap] (.mk k n kids)
instance te:Rep Ltl where
 sz:=3
 pos:=by decide
 agg:=true
 rd:=RdT
 len:=by intro w F cs x h;cases h;rfl
 one:=by
  intro w F cs x h v a
  cases h
  simp at a
  rcases a with rfl|rfl|rfl<;>rfl
 szAgg:=fun h=>by cases h
 mono:=by
  intro w w' F F' cs x h f hF
  induction h with
  |mk k n kids ao cap g h1 h2 h3 h4 j c=>
   refine .mk k n kids ao cap g h1 h2 h3 (fun i hi=>?_) (fun i hi=>c i hi);obtain⟨b,off,e,hf,d⟩:=h4 i hi;exact⟨b,off,e,hF b hf,d.mono (f b hf)⟩
theorem RdT.sl{w:World}{F:Nat→Prop}{cs:List Value}{t:Ltl}(h:rd w F cs t):∃ao cap,cs=[Pj t.k,Pj t.n,.slice ao t.kids.length cap]∧Sl w F ao cap t.kids:=by
 cases h with
 |mk k n kids ao cap d h1 h2 h3 h4 c=>
  refine⟨ao,cap,rfl,h1,h2,h3,fun i hi=>?_⟩;obtain⟨b,off,e,hf,a⟩:=h4 i hi;exact⟨b,off,e,hf,d i,a,c i hi⟩
theorem RdT.of{w:World}{F:Nat→Prop}{k n:Int}{kids:List Ltl}{ao:Option Addr}{cap:Nat}(h:Sl w F ao cap kids):rd w F [Pj k,Pj n,.slice ao kids.length cap] (Ltl.mk k n kids):=by
 have h4:∀i,∃c:List Value,∀hi:i<kids.length,∃b off,ao=some ⟨b,off,none⟩∧F b∧Cells w b (off+i*3) c∧rd w F c kids[i]:=by
  intro i
  by_cases hi:i<kids.length
  ·obtain⟨b,off,e,hf,c,a,d⟩:=h.el i hi
   exact⟨c,fun _=>⟨b,off,e,hf,a,d⟩⟩
  ·exact⟨[],fun h=>absurd h hi⟩
 refine .mk k n kids ao cap (fun i=>Classical.choose (h4 i)) h.le h.mx h.nil (fun i hi=>?_) (fun i hi=>?_)
 ·obtain⟨b,off,e,hf,a,_⟩:=J4 (h4 i) hi
  exact⟨b,off,e,hf,a⟩
 ·obtain⟨b,off,e,hf,a,d⟩:=J4 (h4 i) hi
  exact d
abbrev yj(k n:Int)(ao:Option Addr)(len cap:Nat):Value:=.agg [.int .i64 k,.int .i64 n,.slice ao len cap].toArray
theorem Rd.ltl{w:World}{F:Nat→Prop}{v:Value}{t:Ltl}(h:Rd w F v t):∃ao cap,v=yj t.k t.n ao t.kids.length cap∧Sl w F ao cap t.kids:=by
 obtain⟨cs,e,b⟩:=h;obtain⟨ao,cap,rfl,a⟩:=RdT.sl b;exact⟨ao,cap,e,a⟩
theorem Rd.mkLtl{w:World}{F:Nat→Prop}{k n:Int}{kids:List Ltl}{ao:Option Addr}{cap:Nat}(h:Sl w F ao cap kids):Rd w F (yj k n ao kids.length cap) (Ltl.mk k n kids):=⟨_,rfl,RdT.of h⟩
instance tk:IsT Tryz.prog 32 Ltl:=IsT.of OT Tryz.underlying32 rfl
instance tm:IsS Tryz.prog 30 32:=⟨NO⟩
instance tn:IsT Tryz.prog 30 (List Ltl):=IsT.of OT NO rfl
instance tq:IsZ Tryz.prog 32 (Ltl.mk 0 0 []) 40:=IsZ.of (z:=.agg #[Pj 0,Pj 0,.slice none 0 0]) OT (fun _ _=>RdT.of (kids:=[]) ⟨by simp,by simp[maxLen],fun _=>rfl,fun i hi=>absurd hi OW⟩)
instance tr:IsC Tryz.prog 32 3 true:=IsC.of OT Tryz.underlying32 rfl
instance tu:IsC Tryz.prog 30 1 false:=IsC.of OT NO rfl
instance tw:IsFd Tryz.prog 32 0 0:=IsFd.of OT
instance tf:IsFd Tryz.prog 32 1 1:=IsFd.of OT
instance tg:IsFd Tryz.prog 32 2 2:=IsFd.of OT
instance ti:IsZC Tryz.prog 32 [Pj 0,Pj 0,.slice none 0 0]:=IsZC.of (z:=.agg #[Pj 0,Pj 0,.slice none 0 0]) OT rfl
instance tj:IsBd Tryz.prog 32 [(0,1),(1,1),(2,1)]:=IsBd.of OT
def wU(k:Int):Int:=if k=1∨k=2∨k=3 then 0 else if k=4∨k=7∨k=10∨k=11 then 1 else if k=5∨k=6∨k=8∨k=9 then 2 else -1
theorem wZ(w:World)(k:Int):Rt Tryz.prog 120 [Pj k].toArray w fun v w'=>v=Pj (wU k)∧w=w':=by
 refine dG Tryz.func120 Tryz.ntmps120 rfl rfl ?_;unfold wU;refine Qu ?_;refine CW.cond rfl (fun h=>?_) (fun h=>?_)<;>simp at h
 ·subst h;refine Qa ?_
  exact be rfl rfl ⟨rfl,rfl⟩
 refine Qw ?_;refine CW.cond rfl (fun h=>?_) (fun h=>?_)<;>simp at h
 ·subst h;refine Qa ?_
  exact be rfl rfl ⟨rfl,rfl⟩
 refine PP ?_;refine CW.cond rfl (fun h=>?_) (fun h=>?_)<;>simp at h
 ·subst h;refine Pl ?_
  exact be rfl rfl ⟨rfl,rfl⟩
 rw[Ou OS];refine Qw ?_;refine CW.cond rfl (fun h=>?_) (fun h=>?_)<;>simp at h
 ·subst h;refine Qa ?_
  exact be rfl rfl ⟨rfl,rfl⟩
 refine Qw ?_;refine CW.cond rfl (fun h=>?_) (fun h=>?_)<;>simp at h
 ·subst h;refine Qa ?_
  exact be rfl rfl ⟨rfl,rfl⟩
 refine Qw ?_;refine CW.cond rfl (fun h=>?_) (fun h=>?_)<;>simp at h
 ·subst h;refine Qa ?_
  exact be rfl rfl ⟨rfl,rfl⟩
 refine PP ?_;refine CW.cond rfl (fun h=>?_) (fun h=>?_)<;>simp at h
 ·subst h;refine Pl ?_
  exact be rfl rfl ⟨rfl,rfl⟩
 rw[Ou OS];refine Qw ?_;refine CW.cond rfl (fun h=>?_) (fun h=>?_)<;>simp at h
 ·subst h;refine Qa ?_
  exact be rfl rfl ⟨rfl,rfl⟩
 refine Qw ?_;refine CW.cond rfl (fun h=>?_) (fun h=>?_)<;>simp at h
 ·subst h;refine Qa ?_
  exact be rfl rfl ⟨rfl,rfl⟩
 refine Qw ?_;refine CW.cond rfl (fun h=>?_) (fun h=>?_)<;>simp at h
 ·subst h;refine Qa ?_
  exact be rfl rfl ⟨rfl,rfl⟩
 refine PP ?_;refine CW.cond rfl (fun h=>?_) (fun h=>?_)<;>simp at h
 ·subst h;refine Pl ?_
  exact be rfl rfl ⟨rfl,rfl⟩
 rw[Ou OS];refine Qd ?_;exact be rfl rfl ⟨rfl,rfl⟩
theorem r4{w c b:World}{r:Option Nat}(h1:w.grownBy c r)(h2:c.grownBy b r):w.grownBy b r:=
 ⟨h2.os.trans h1.os,h2.tape.trans h1.tape,h2.output.trans h1.output,MN h1.size h2.size,fun k d a=>(h2.block k (MQ d h1.size) a).trans (h1.block k d a)⟩
theorem Ext.grw{w a:World}(h:Ext w a)(r:Option Nat):w.grownBy a r:=⟨h.os,h.tape,h.output,h.size,fun k b _=>h.block k b⟩
mutual
def jD:Ltl→Int→Int→Int×Int
 |.mk k n kids,deep,c=>if c+1>60 then(2,c+1)else if deep>20 then(5,c+1)else if wU k≠kids.length∨n<0∨n>63∨(k≠3∧n≠0)then(1,c+1)else jE kids (deep+1) (c+1)
def jE:List Ltl→Int→Int→Int×Int
 |[],_,c=>(0,c)
 |x::r,deep,c=>if(jD x deep c).1≠0 then jD x deep c else jE r deep (jD x deep c).2
end
mutual
theorem jI:∀(t:Ltl) (deep c:Int),(jD t deep c).1=0→c<(jD t deep c).2∧(jD t deep c).2≤60
 |.mk k n kids,deep,c,h=>by
  simp only[jD]at h⊢
  split at h
  ·cases h
  ·rename_i h1
   rw[Ou h1];split at h
   ·cases h
   ·rename_i h2
    rw[Ou h2];split at h
    ·cases h
    ·rename_i h3
     rw[Ou h3];have:=jF kids (deep+1) (c+1) OS h;omega
theorem jF:∀(l:List Ltl) (deep c:Int),c≤60→(jE l deep c).1=0→c≤(jE l deep c).2∧(jE l deep c).2≤60
 |[],deep,c,a,h=>by simp only[jE];omega
 |x::r,deep,c,a,h=>by
  simp only[jE]at h⊢
  split at h
  ·rename_i h1;exact absurd h h1
  ·rename_i h1
   rw[Ou h1];have h2:=jI x deep c (by simpa using h1);have h3:=jF r deep _ h2.2 h;omega
end
theorem yi:∀(m:Nat) (t:Ltl),t.nodes≤m→∀(w:World) (F:Nat→Prop) (deep c:Int) (bn:Nat) (ao:Option Addr) (cap:Nat),Sl w F ao cap t.kids→(∀b,F b→b<w.heap.size)→¬F bn→
  Blk w bn 3 [Pj c]→0≤c→c≤60→0≤deep→deep≤1000→
  Rt Tryz.prog 42 [yj t.k t.n ao t.kids.length cap,Pj deep,Pk bn].toArray w fun v w'=>v=Pj (jD t deep c).1∧Blk w' bn 3 [Pj (jD t deep c).2]∧w.grownBy w' (some bn)
 |0,t,Z=>by have:=t.nodes_pos;omega
 |m+1,.mk k n kids,Z=>by
  intro w F deep c bn ao cap Y hF hn f hc0 hc1 hd0 hd1
  simp only[Ltl.kids,Ltl.k,Ltl.n]at*
  refine dI Tryz.func42 Tryz.ntmps42 rfl rfl ?_;have hlen:=Y.len63;have hbn:=f.lt;refine Pm ?_;refine dZ rfl rfl rfl fun w1 hf N=>?_
  have V:=f.ext N;have R:=N.grw (some bn);refine PQ ?_;refine WL.st rfl rfl rfl V rfl rfl Pd (fun w2 A D=>?_);have G:=hf.kept D OZ;have p:=r4 R D;simp only[jD];refine QH ?_;refine CW.cond rfl (fun h=>?_) (fun h=>?_)<;>simp only[Om,Ok,Oq]at h
  ·refine Pl ?_
   refine be rfl rfl ?_;rw[Ov h];exact⟨rfl,A,p⟩
  rw[Ou OS];refine Qw ?_;refine CW.cond rfl (fun h1=>?_) (fun h1=>?_)<;>simp only[Om,Ok,Oq]at h1
  ·refine Pl ?_
   refine be rfl rfl ?_;rw[Ov h1];exact⟨rfl,A,p⟩
  rw[Ou OS];refine aA [(1,Pj deep),(2,Pk bn),(3,Pk w.heap.size),(23,.bool (decide (wU k≠kids.length∨n<0∨n>63∨(k≠3∧n≠0))))] ?_ ?_
  ·refine QM ?_
   refine QL.call rfl rfl rfl (fun w' h=>Rt.mono (wZ w' k) (fun v w'' X=>⟨X.1,X.2▸Ext.refl _⟩)) ?_;refine Q0 ?_;refine QL.nil fun w3 a=>?_
   have T:=G.ext a;refine Pn ?_;refine CW.cond rfl (fun h2=>?_) (fun h2=>?_)<;>simp at h2
   ·refine Po ?_
    refine aT ⟨rfl,rfl,rfl,?_,trivial⟩ a;refine Oh (fun b=>some (Value.bool b)) ?_;have:(wU k != (kids.length:Int))=true:=by simpa using h2
    rw[this,Ol (.inl h2)]
   ·refine Qj ?_
    (refine eX rfl rfl (fun h=>?_) (fun h=>?_))<;>simp at h
    ·refine Ql ?_
     refine aT ⟨rfl,rfl,rfl,?_,trivial⟩ a;refine Oh (fun b=>some (Value.bool b)) ?_;rw[Ol (.inr (.inl h))]
    ·refine P_ ?_
     refine CW.cond rfl (fun h3=>?_) (fun h3=>?_)<;>simp at h3
     ·refine Po ?_
      refine aT ⟨rfl,rfl,rfl,?_,trivial⟩ a;refine Oh (fun b=>some (Value.bool b)) ?_;rw[Ol h3,Ol (.inr (.inr (.inl h3)))]
     ·refine Qj ?_
      (refine eX rfl rfl (fun h=>?_) (fun h=>?_))<;>simp at h
      ·refine P_ ?_
       refine aT ⟨rfl,rfl,rfl,?_,trivial⟩ a;refine Oh (fun b=>some (Value.bool b)) ?_
       (rw[JO];simp;try omega)
      ·refine Pp ?_
       refine aT ⟨rfl,rfl,rfl,?_,trivial⟩ a;refine Oh (fun b=>some (Value.bool b)) ?_
       (rw[JO];simp;try omega)
  intro w3 a
  have K:=A.ext a;have T:=G.ext a;have E:=r4 p (a.grw (some bn));refine CW.cond rfl (fun h2=>?_) (fun h2=>?_)<;>simp only[Om,Ok]at h2
  ·rw[Ov h2]
   refine Pl ?_;exact be rfl rfl ⟨rfl,K,E⟩
  rw[Ou h2];refine Qh ?_;refine CW.loop (S:=Nat×Int) (fun x=>[(1,Pj deep),(2,Pk bn),(48,.slice ao kids.length cap),(49,Pj (kids.length:Int)),(50,Pj (x.1:Int))])
   (fun x w'=>w.grownBy w' (some bn)∧Blk w' bn 3 [Pj x.2]∧0≤x.2∧x.2≤60∧x.1≤kids.length∧jE kids (deep+1) (c+1)=jE (kids.drop x.1) (deep+1) x.2) (fun x=>kids.length -x.1) (0,c+1) OR ⟨E,K,by simp only;omega,by simp only;omega,by omega,rfl⟩ ?_
  rintro⟨i,ci⟩ O ⟨d,z,l,I,hi,H⟩
  simp only at z l I hi H
  rw[H];refine Qw ?_;refine CW.cond rfl (fun h3=>?_) (fun h3=>?_)<;>simp at h3
  ·have P:Sl O F ao cap kids:=Y.mono (fun b f=>d.block b (hF b f) (by intro e;cases e;exact hn f)) fun _ h=>h
   have L:∀b,F b→b<O.heap.size:=fun b f=>MQ (hF b f) d.size
   refine Qo ?_;refine eE rfl rfl rfl rfl rfl P h3 O3 (fun u q hu=>?_);have s:kids.drop i=kids[i]::kids.drop (i+1):=Ky h3;have o:(kids[i]).nodes≤m:=by
    have:=Ltl.nodes_kid kids _ (Lb h3);simp only[Ltl.nodes]at Z;omega
   rw[s];simp only[jE];generalize kids[i]=x at*
   obtain⟨ao',cap',rfl,hx⟩:=hu.ltl;have hw4:w.heap.size≤O.heap.size:=d.size;refine WL.alloc rfl rfl (fun w5 U M=>?_);refine WL.st rfl rfl rfl U rfl rfl Pd (fun W hb6 C=>?_);have j:Ext O W:=M.grown C M.size O5;have J:=z.ext j;have Q:=r4 d (j.grw (some bn));refine Qi ?_;refine WL.call rfl rfl rfl (yi m x o W F (deep+1) ci bn ao' cap' (hx.mono (fun b f=>j.block b (L b f)) fun _ h=>h) (fun b f=>MQ (L b f) j.size) hn J l I OS OS) ?_;rintro v w7 ⟨rfl,y,g⟩
   have g:=r4 Q g;have B:=jI x (deep+1) ci;generalize jD x (deep+1) ci=r at*
   obtain⟨e,c'⟩:=r;simp only at B y
   refine Qw ?_;refine CW.cond rfl (fun h4=>?_) (fun h4=>?_)<;>simp at h4
   ·refine Pl ?_
    refine be rfl rfl ?_;rw[Ov h4];exact⟨rfl,y,g⟩
   ·have:=B h4
    refine Pq ?_;refine EX.back (i+1,c') OR ⟨g,y,by simp only;omega,by simp only;omega,by simp only;omega,?_⟩ (by simp only;omega);simp only;rw[Ou (by simp[h4])]
  ·refine PG ?_
   refine be rfl rfl ?_;rw[Kz OS];exact⟨rfl,z,d⟩
theorem yh(w:World){F:Nat→Prop}{t:Ltl}{ao:Option Addr}{cap:Nat}(o:Sl w F ao cap t.kids)(hF:∀b,F b→b<w.heap.size):
  Rt Tryz.prog 17 [yj t.k t.n ao t.kids.length cap].toArray w fun v w'=>v=Pj (jD t 1 0).1∧Ext w w':=by
 refine dG Tryz.func17 Tryz.ntmps17 rfl rfl ?_;refine Pm ?_;refine dZ rfl rfl rfl fun m hf c=>?_
 refine Qw ?_;refine WL.alloc rfl rfl (fun u d i=>?_);have p:=d.lt;refine WL.st rfl rfl rfl d rfl rfl Pd (fun l d f=>?_);have e:=c.trans i;have a:Ext w l:=e.grown f e.size (fun g k=>by cases k;exact c.size);have q:=(hf.ext i).kept f (by have:=hf.lt;simp;omega);have n:w.heap.size≤m.heap.size:=c.size;refine PV ?_;refine WL.call rfl rfl rfl (yi t.nodes t Pf l F 1 0 m.heap.size ao cap (o.mono (fun b d=>a.block b (hF b d)) fun _ h=>h) (fun b d=>MQ (hF b d) a.size) (fun h=>by have:=hF _ h;omega) d OS OS OS OS) ?_;rintro v s ⟨rfl,r,j⟩
 refine Pr ?_;exact be rfl rfl ⟨rfl,a.grown j a.size (fun g k=>by cases k;exact c.size)⟩
abbrev ar:=List UInt8
def GD:ar:=[116,114,117,101]
def GA:ar:=[102,97,108,115,101]
def GC:ar:=[115,105,108,101,110,116]
def vg(a:List ByteArray)(l:ar):Int:=match a.findIdx? (fun x=>x.data.toList==l)with
 |some i=>(i:Int)
 |none=> -1
def zF(a:List ByteArray)(n:Int):ar:=
 if n=63 then GC else if n≥(a.length:Int)then []else if y_ (a.getD n.toNat ⟨#[]⟩)=false then []
 else if vg a (a.getD n.toNat ⟨#[]⟩).data.toList≠n then []else(a.getD n.toNat ⟨#[]⟩).data.toList
theorem zb{l:ar}(h:za l=true):l≠[]∧l≠GD∧l≠GA∧l≠GC∧l.length≤8:=by
 unfold za at h
 simp only[JM,JT,Oa,Ok]at h
 obtain⟨⟨⟨⟨⟨h1,h2⟩,h3⟩,h4⟩,a⟩,_⟩:=h;exact⟨h1,h3,h4,a,by omega⟩
theorem zG(a:List ByteArray)(n:Int):(zF a n).length≤8:=by
 unfold zF;split
 ·decide
 split
 ·simp
 split
 ·simp
 rename_i h;split
 ·simp
 exact(zb (l:=(a.getD n.toNat ⟨#[]⟩).data.toList) (by simpa using h)).2.2.2.2
def h_(k i kid:Int):Bool:=if kid=5 then k==6||(k==5&&i==0)else if kid=6 then k==6&&i==0 else if kid=8∨kid=9 then k==kid&&i==1 else true
def wP(b:Bool)(t:ar):ar:=if b=true then t else 40::(t++[41])
def Fy(k:Int):ar:=if k=5 then [38]else if k=6 then [47]else if k=8 then [85]else if k=9 then [82]else []
def wg(nm:Int→ar)(k n:Int)(ks:List (Int×ar)):ar:=
 if k=1 then GD else if k=2 then GA else if k=3 then nm n
 else if k=4 then 33::wP (h_ k 0 (ks.getD 0 (0,[])).1) (ks.getD 0 (0,[])).2
 else if k=7 then 88::32::wP (h_ k 0 (ks.getD 0 (0,[])).1) (ks.getD 0 (0,[])).2
 else if k=10 then 70::32::wP (h_ k 0 (ks.getD 0 (0,[])).1) (ks.getD 0 (0,[])).2
 else if k=11 then 71::32::wP (h_ k 0 (ks.getD 0 (0,[])).1) (ks.getD 0 (0,[])).2
 else wP (h_ k 0 (ks.getD 0 (0,[])).1) (ks.getD 0 (0,[])).2++[32]++Fy k++[32]++wP (h_ k 1 (ks.getD 1 (0,[])).1) (ks.getD 1 (0,[])).2
mutual
def H3(nm:Int→ar):Ltl→ar
 |.mk k n kids=>wg nm k n (H6 nm kids)
def H6(nm:Int→ar):List Ltl→List (Int×ar)
 |[]=>[]
 |x::r=>(x.k,H3 nm x)::H6 nm r
end
mutual
def gW(nm:Int→ar):Ltl→Bool
 |.mk k n kids=>(k==3&&nm n==[])||gX nm kids
def gX(nm:Int→ar):List Ltl→Bool
 |[]=>false
 |x::r=>gW nm x||gX nm r
end
def Cj(f:Ltl)(a:List ByteArray):ar×Int:=
 if(jD f 1 0).1≠0 then([],(jD f 1 0).1)else if gW (zF a) f=true then([],4)else(H3 (zF a) f,0)
theorem wQ(b:Bool)(t:ar):(wP b t).length≤t.length+2:=by
 unfold wP;split<;>simp
theorem wh{nm:Int→ar}(hn:∀n,(nm n).length≤8)(k n:Int)(ks:List (Int×ar)):(wg nm k n ks).length≤(ks.getD 0 (0,[])).2.length+(ks.getD 1 (0,[])).2.length+8:=by
 have a:=wQ (h_ k 0 (ks.getD 0 (0,[])).1) (ks.getD 0 (0,[])).2;have h1:=wQ (h_ k 1 (ks.getD 1 (0,[])).1) (ks.getD 1 (0,[])).2;have h2:=hn n;have h3:(Fy k).length≤1:=by unfold Fy;repeat (first|split|simp)
 unfold wg GD GA
 iterate 7 (split;·(first|omega|(simp only[Lk,Ll,Lr];omega)))
 simp only[Lk,Ll,Lr];omega
mutual
theorem H5{nm:Int→ar}(hn:∀n,(nm n).length≤8):∀f:Ltl,(H3 nm f).length≤8*f.nodes
 |.mk k n kids=>by
  have h:=wh hn k n (H6 nm kids);have h2:=H7 hn kids;simp only[H3,Ltl.nodes];have:((H6 nm kids).getD 0 (0,[])).2.length+((H6 nm kids).getD 1 (0,[])).2.length≤((H6 nm kids).map fun x=>x.2.length).sum:=by
   rcases H6 nm kids with _|⟨a,_|⟨b,r⟩⟩<;>simp<;>omega
  omega
theorem H7{nm:Int→ar}(hn:∀n,(nm n).length≤8):∀l:List Ltl,((H6 nm l).map fun x=>x.2.length).sum≤8*Ltl.nodesL l
 |[]=>by simp[H6,Ltl.nodesL]
 |x::r=>by
  have h1:=H5 hn x;have h2:=H7 hn r;simp only[H6,Ltl.nodesL,LE,Mi];omega
end
inductive PR where
 |er (c:Int) (a:Nat):PR
 |ok (f:Ltl) (st:ar×ar):PR
theorem wX{k:Int}{m:Nat}(h:wU k=(m:Int)):(m=0∧(k=1∨k=2∨k=3))∨(m=1∧(k=4∨k=7∨k=10∨k=11))∨(m=2∧(k=5∨k=6∨k=8∨k=9)):=by
 unfold wU at h
 split at h
 ·left;exact⟨by omega,by assumption⟩
 split at h
 ·right;left;exact⟨by omega,by assumption⟩
 split at h
 ·right;right;exact⟨by omega,by assumption⟩
 ·omega
def UT(t:ar):Prop:=t≠[85]∧t≠[82]∧t≠[87]
instance(t:ar):Decidable (UT t):=by unfold UT;infer_instance
section
variable {nms:List ByteArray}{t u:ar}{f g:Ltl}
end
section
variable {nms:List ByteArray}{t:ar}{f:Ltl}
end
section
variable {nms:List ByteArray}{N:Nat}{PF:Ltl→Prop}
end
instance sC:IsT Tryz.prog 35 Ltl:=IsT.of OT Tryz.underlying35 rfl
instance sD:IsS Tryz.prog 33 35:=⟨NP⟩
instance sE:IsT Tryz.prog 33 (List Ltl):=IsT.of OT NP rfl
instance sF:IsC Tryz.prog 35 3 true:=IsC.of OT Tryz.underlying35 rfl
instance sG:IsC Tryz.prog 33 1 false:=IsC.of OT NP rfl
instance sH:IsFd Tryz.prog 35 0 0:=IsFd.of OT
instance sx:IsFd Tryz.prog 35 1 1:=IsFd.of OT
instance sy:IsFd Tryz.prog 35 2 2:=IsFd.of OT
instance sB:IsZC Tryz.prog 35 [Pj 0,Pj 0,.slice none 0 0]:=IsZC.of (z:=.agg #[Pj 0,Pj 0,.slice none 0 0]) OT rfl
def wS(k:Int):Int:=if k=1∨k=2∨k=3 then 0 else if k=4∨k=7∨k=8∨k=9∨k=11∨k=12∨k=13 then 1 else if k=5∨k=6∨k=10∨k=14 then 2 else -1
theorem kt(w:World)(k:Int):Rt Tryz.prog 192 [Pj k].toArray w fun v w'=>v=Pj (wS k)∧w=w':=by
 refine dG Tryz.func192 Tryz.ntmps192 rfl rfl ?_;unfold wS;refine Qu ?_;refine CW.cond rfl (fun h=>?_) (fun h=>?_)<;>simp at h
 ·subst h;refine Qa ?_
  exact be rfl rfl ⟨rfl,rfl⟩
 refine Qw ?_;refine CW.cond rfl (fun h=>?_) (fun h=>?_)<;>simp at h
 ·subst h;refine Qa ?_
  exact be rfl rfl ⟨rfl,rfl⟩
 refine PP ?_;refine CW.cond rfl (fun h=>?_) (fun h=>?_)<;>simp at h
 ·subst h;refine Pl ?_
  exact be rfl rfl ⟨rfl,rfl⟩
 rw[Ou OS];refine Qw ?_;refine CW.cond rfl (fun h=>?_) (fun h=>?_)<;>simp at h
 ·subst h;refine Qa ?_
  exact be rfl rfl ⟨rfl,rfl⟩
 refine Qw ?_;refine CW.cond rfl (fun h=>?_) (fun h=>?_)<;>simp at h
 ·subst h;refine Qa ?_
  exact be rfl rfl ⟨rfl,rfl⟩
 refine Qw ?_;refine CW.cond rfl (fun h=>?_) (fun h=>?_)<;>simp at h
 ·subst h;refine Qa ?_
  exact be rfl rfl ⟨rfl,rfl⟩
 refine Qw ?_;refine CW.cond rfl (fun h=>?_) (fun h=>?_)<;>simp at h
 ·subst h;refine Qa ?_
  exact be rfl rfl ⟨rfl,rfl⟩
 refine Qw ?_;refine CW.cond rfl (fun h=>?_) (fun h=>?_)<;>simp at h
 ·subst h;refine Qa ?_
  exact be rfl rfl ⟨rfl,rfl⟩
 refine Qw ?_;refine CW.cond rfl (fun h=>?_) (fun h=>?_)<;>simp at h
 ·subst h;refine Qa ?_
  exact be rfl rfl ⟨rfl,rfl⟩
 refine PP ?_;refine CW.cond rfl (fun h=>?_) (fun h=>?_)<;>simp at h
 ·subst h;refine Pl ?_
  exact be rfl rfl ⟨rfl,rfl⟩
 rw[Ou OS];refine Qw ?_;refine CW.cond rfl (fun h=>?_) (fun h=>?_)<;>simp at h
 ·subst h;refine Qa ?_
  exact be rfl rfl ⟨rfl,rfl⟩
 refine Qw ?_;refine CW.cond rfl (fun h=>?_) (fun h=>?_)<;>simp at h
 ·subst h;refine Qa ?_
  exact be rfl rfl ⟨rfl,rfl⟩
 refine Qw ?_;refine CW.cond rfl (fun h=>?_) (fun h=>?_)<;>simp at h
 ·subst h;refine Qa ?_
  exact be rfl rfl ⟨rfl,rfl⟩
 refine PP ?_;refine CW.cond rfl (fun h=>?_) (fun h=>?_)<;>simp at h
 ·subst h;refine Pl ?_
  exact be rfl rfl ⟨rfl,rfl⟩
 rw[Ou OS];refine Qd ?_;exact be rfl rfl ⟨rfl,rfl⟩
mutual
def jt:Ltl→Int→Int→Int×Int
 |.mk k n kids,deep,c=>if c+1>60 then(2,c+1)else if deep>20 then(5,c+1)else if wS k≠kids.length∨n<0∨n>63∨(k≠3∧n≠0)then(1,c+1)else ju kids (deep+1) (c+1)
def ju:List Ltl→Int→Int→Int×Int
 |[],_,c=>(0,c)
 |x::r,deep,c=>if(jt x deep c).1≠0 then jt x deep c else ju r deep (jt x deep c).2
end
mutual
theorem jy:∀(t:Ltl) (deep c:Int),(jt t deep c).1=0→c<(jt t deep c).2∧(jt t deep c).2≤60
 |.mk k n kids,deep,c,h=>by
  simp only[jt]at h⊢
  split at h
  ·cases h
  ·rename_i h1
   rw[Ou h1];split at h
   ·cases h
   ·rename_i h2
    rw[Ou h2];split at h
    ·cases h
    ·rename_i h3
     rw[Ou h3];have:=jv kids (deep+1) (c+1) OS h;omega
theorem jv:∀(l:List Ltl) (deep c:Int),c≤60→(ju l deep c).1=0→c≤(ju l deep c).2∧(ju l deep c).2≤60
 |[],deep,c,a,h=>by simp only[ju];omega
 |x::r,deep,c,a,h=>by
  simp only[ju]at h⊢
  split at h
  ·rename_i h1;exact absurd h h1
  ·rename_i h1
   rw[Ou h1];have h2:=jy x deep c (by simpa using h1);have h3:=jv r deep _ h2.2 h;omega
end
theorem ji:∀(m:Nat) (t:Ltl),t.nodes≤m→∀(w:World) (F:Nat→Prop) (deep c:Int) (bn:Nat) (ao:Option Addr) (cap:Nat),Sl w F ao cap t.kids→(∀b,F b→b<w.heap.size)→¬F bn→
  Blk w bn 3 [Pj c]→0≤c→c≤60→0≤deep→deep≤1000→
  Rt Tryz.prog 139 [yj t.k t.n ao t.kids.length cap,Pj deep,Pk bn].toArray w fun v w'=>v=Pj (jt t deep c).1∧Blk w' bn 3 [Pj (jt t deep c).2]∧w.grownBy w' (some bn)
 |0,t,Z=>by have:=t.nodes_pos;omega
 |m+1,.mk k n kids,Z=>by
  intro w F deep c bn ao cap Y hF hn f hc0 hc1 hd0 hd1
  simp only[Ltl.kids,Ltl.k,Ltl.n]at*
  refine dI Tryz.func139 Tryz.ntmps139 rfl rfl ?_;have hlen:=Y.len63;have hbn:=f.lt;refine Pm ?_;refine dZ rfl rfl rfl fun w1 hf N=>?_
  have V:=f.ext N;have R:=N.grw (some bn);refine PQ ?_;refine WL.st rfl rfl rfl V rfl rfl Pd (fun w2 A D=>?_);have G:=hf.kept D OZ;have p:=r4 R D;simp only[jt];refine QH ?_;refine CW.cond rfl (fun h=>?_) (fun h=>?_)<;>simp only[Om,Ok,Oq]at h
  ·refine Pl ?_
   refine be rfl rfl ?_;rw[Ov h];exact⟨rfl,A,p⟩
  rw[Ou OS];refine Qw ?_;refine CW.cond rfl (fun h1=>?_) (fun h1=>?_)<;>simp only[Om,Ok,Oq]at h1
  ·refine Pl ?_
   refine be rfl rfl ?_;rw[Ov h1];exact⟨rfl,A,p⟩
  rw[Ou OS];refine aA [(1,Pj deep),(2,Pk bn),(3,Pk w.heap.size),(23,.bool (decide (wS k≠kids.length∨n<0∨n>63∨(k≠3∧n≠0))))] ?_ ?_
  ·refine QM ?_
   refine QL.call rfl rfl rfl (fun w' h=>Rt.mono (kt w' k) (fun v w'' X=>⟨X.1,X.2▸Ext.refl _⟩)) ?_;refine Q0 ?_;refine QL.nil fun w3 a=>?_
   have T:=G.ext a;refine Pn ?_;refine CW.cond rfl (fun h2=>?_) (fun h2=>?_)<;>simp at h2
   ·refine Po ?_
    refine aT ⟨rfl,rfl,rfl,?_,trivial⟩ a;refine Oh (fun b=>some (Value.bool b)) ?_;have:(wS k != (kids.length:Int))=true:=by simpa using h2
    rw[this,Ol (.inl h2)]
   ·refine Qj ?_
    (refine eX rfl rfl (fun h=>?_) (fun h=>?_))<;>simp at h
    ·refine Ql ?_
     refine aT ⟨rfl,rfl,rfl,?_,trivial⟩ a;refine Oh (fun b=>some (Value.bool b)) ?_;rw[Ol (.inr (.inl h))]
    ·refine P_ ?_
     refine CW.cond rfl (fun h3=>?_) (fun h3=>?_)<;>simp at h3
     ·refine Po ?_
      refine aT ⟨rfl,rfl,rfl,?_,trivial⟩ a;refine Oh (fun b=>some (Value.bool b)) ?_;rw[Ol h3,Ol (.inr (.inr (.inl h3)))]
     ·refine Qj ?_
      (refine eX rfl rfl (fun h=>?_) (fun h=>?_))<;>simp at h
      ·refine P_ ?_
       refine aT ⟨rfl,rfl,rfl,?_,trivial⟩ a;refine Oh (fun b=>some (Value.bool b)) ?_
       (rw[JO];simp;try omega)
      ·refine Pp ?_
       refine aT ⟨rfl,rfl,rfl,?_,trivial⟩ a;refine Oh (fun b=>some (Value.bool b)) ?_
       (rw[JO];simp;try omega)
  intro w3 a
  have K:=A.ext a;have T:=G.ext a;have E:=r4 p (a.grw (some bn));refine CW.cond rfl (fun h2=>?_) (fun h2=>?_)<;>simp only[Om,Ok]at h2
  ·rw[Ov h2]
   refine Pl ?_;exact be rfl rfl ⟨rfl,K,E⟩
  rw[Ou h2];refine Qh ?_;refine CW.loop (S:=Nat×Int) (fun x=>[(1,Pj deep),(2,Pk bn),(48,.slice ao kids.length cap),(49,Pj (kids.length:Int)),(50,Pj (x.1:Int))])
   (fun x w'=>w.grownBy w' (some bn)∧Blk w' bn 3 [Pj x.2]∧0≤x.2∧x.2≤60∧x.1≤kids.length∧ju kids (deep+1) (c+1)=ju (kids.drop x.1) (deep+1) x.2) (fun x=>kids.length -x.1) (0,c+1) OR ⟨E,K,by simp only;omega,by simp only;omega,by omega,rfl⟩ ?_
  rintro⟨i,ci⟩ O ⟨d,z,l,I,hi,H⟩
  simp only at z l I hi H
  rw[H];refine Qw ?_;refine CW.cond rfl (fun h3=>?_) (fun h3=>?_)<;>simp at h3
  ·have P:Sl O F ao cap kids:=Y.mono (fun b f=>d.block b (hF b f) (by intro e;cases e;exact hn f)) fun _ h=>h
   have L:∀b,F b→b<O.heap.size:=fun b f=>MQ (hF b f) d.size
   refine Qo ?_;refine eE rfl rfl rfl rfl rfl P h3 O3 (fun u q hu=>?_);have s:kids.drop i=kids[i]::kids.drop (i+1):=Ky h3;have o:(kids[i]).nodes≤m:=by
    have:=Ltl.nodes_kid kids _ (Lb h3);simp only[Ltl.nodes]at Z;omega
   rw[s];simp only[ju];generalize kids[i]=x at*
   obtain⟨ao',cap',rfl,hx⟩:=hu.ltl;have hw4:w.heap.size≤O.heap.size:=d.size;refine WL.alloc rfl rfl (fun w5 U M=>?_);refine WL.st rfl rfl rfl U rfl rfl Pd (fun W hb6 C=>?_);have j:Ext O W:=M.grown C M.size O5;have J:=z.ext j;have Q:=r4 d (j.grw (some bn));refine Qi ?_;refine WL.call rfl rfl rfl (ji m x o W F (deep+1) ci bn ao' cap' (hx.mono (fun b f=>j.block b (L b f)) fun _ h=>h) (fun b f=>MQ (L b f) j.size) hn J l I OS OS) ?_;rintro v w7 ⟨rfl,y,g⟩
   have g:=r4 Q g;have B:=jy x (deep+1) ci;generalize jt x (deep+1) ci=r at*
   obtain⟨e,c'⟩:=r;simp only at B y
   refine Qw ?_;refine CW.cond rfl (fun h4=>?_) (fun h4=>?_)<;>simp at h4
   ·refine Pl ?_
    refine be rfl rfl ?_;rw[Ov h4];exact⟨rfl,y,g⟩
   ·have:=B h4
    refine Pq ?_;refine EX.back (i+1,c') OR ⟨g,y,by simp only;omega,by simp only;omega,by simp only;omega,?_⟩ (by simp only;omega);simp only;rw[Ou (by simp[h4])]
  ·refine PG ?_
   refine be rfl rfl ?_;rw[Kz OS];exact⟨rfl,z,d⟩
theorem lF(w:World){F:Nat→Prop}{t:Ltl}{ao:Option Addr}{cap:Nat}(o:Sl w F ao cap t.kids)(hF:∀b,F b→b<w.heap.size):
  Rt Tryz.prog 61 [yj t.k t.n ao t.kids.length cap].toArray w fun v w'=>v=Pj (jt t 1 0).1∧Ext w w':=by
 refine dG Tryz.func61 Tryz.ntmps61 rfl rfl ?_;refine Pm ?_;refine dZ rfl rfl rfl fun m hf c=>?_
 refine Qw ?_;refine WL.alloc rfl rfl (fun u d i=>?_);have p:=d.lt;refine WL.st rfl rfl rfl d rfl rfl Pd (fun l d f=>?_);have e:=c.trans i;have a:Ext w l:=e.grown f e.size (fun g k=>by cases k;exact c.size);have q:=(hf.ext i).kept f (by have:=hf.lt;simp;omega);have n:w.heap.size≤m.heap.size:=c.size;refine PV ?_;refine WL.call rfl rfl rfl (ji t.nodes t Pf l F 1 0 m.heap.size ao cap (o.mono (fun b d=>a.block b (hF b d)) fun _ h=>h) (fun b d=>MQ (hF b d) a.size) (fun h=>by have:=hF _ h;omega) d OS OS OS OS) ?_;rintro v s ⟨rfl,r,j⟩
 refine Pr ?_;exact be rfl rfl ⟨rfl,a.grown j a.size (fun g k=>by cases k;exact c.size)⟩
def hZ(k i kid:Int):Bool:=if kid=5 then k==6||(k==5&&i==0)else if kid=6 then k==6&&i==0 else true
def Fw(k:Int):ar:=if k=4 then [33]else if k=7 then [69,88,32]else if k=8 then [69,70,32]else if k=9 then [69,71,32]else if k=11 then [65,88,32]else if k=12 then [65,70,32]else if k=13 then [65,71,32]else []
def wd(nm:Int→ar)(k n:Int)(ks:List (Int×ar)):ar:=
 if k=1 then GD else if k=2 then GA else if k=3 then nm n
 else if k=5 then wP (hZ k 0 (ks.getD 0 (0,[])).1) (ks.getD 0 (0,[])).2++[32,38,32]++wP (hZ k 1 (ks.getD 1 (0,[])).1) (ks.getD 1 (0,[])).2
 else if k=6 then wP (hZ k 0 (ks.getD 0 (0,[])).1) (ks.getD 0 (0,[])).2++[32,47,32]++wP (hZ k 1 (ks.getD 1 (0,[])).1) (ks.getD 1 (0,[])).2
 else if k=10 then [69,32,91]++(ks.getD 0 (0,[])).2++[32,85,32]++(ks.getD 1 (0,[])).2++[93]
 else if k=14 then [65,32,91]++(ks.getD 0 (0,[])).2++[32,85,32]++(ks.getD 1 (0,[])).2++[93]
 else Fw k++wP (hZ k 0 (ks.getD 0 (0,[])).1) (ks.getD 0 (0,[])).2
mutual
def HY(nm:Int→ar):Ltl→ar
 |.mk k n kids=>wd nm k n (H1 nm kids)
def H1(nm:Int→ar):List Ltl→List (Int×ar)
 |[]=>[]
 |x::r=>(x.k,HY nm x)::H1 nm r
end
def Ci(f:Ltl)(nms:List ByteArray):ar×Int:=
 if(jt f 1 0).1≠0 then([],(jt f 1 0).1)else if gW (zF nms) f=true then([],4)else(HY (zF nms) f,0)
theorem we{nm:Int→ar}(hn:∀n,(nm n).length≤8)(k n:Int)(ks:List (Int×ar)):(wd nm k n ks).length≤(ks.getD 0 (0,[])).2.length+(ks.getD 1 (0,[])).2.length+8:=by
 have a:=wQ (hZ k 0 (ks.getD 0 (0,[])).1) (ks.getD 0 (0,[])).2;have h1:=wQ (hZ k 1 (ks.getD 1 (0,[])).1) (ks.getD 1 (0,[])).2;have h2:=hn n;have h3:(Fw k).length≤3:=by unfold Fw;repeat (first|split|simp)
 unfold wd GD GA
 iterate 7 (split;·(first|omega|(simp only[Lk,Ll,Lr];omega)))
 simp only[Lk,Ll,Lr];omega
mutual
theorem HZ{nm:Int→ar}(hn:∀n,(nm n).length≤8):∀f:Ltl,(HY nm f).length≤8*f.nodes
 |.mk k n kids=>by
  have h:=we hn k n (H1 nm kids);have h2:=H2 hn kids;simp only[HY,Ltl.nodes];have:((H1 nm kids).getD 0 (0,[])).2.length+((H1 nm kids).getD 1 (0,[])).2.length≤((H1 nm kids).map fun x=>x.2.length).sum:=by
   rcases H1 nm kids with _|⟨a,_|⟨b,r⟩⟩<;>simp<;>omega
  omega
theorem H2{nm:Int→ar}(hn:∀n,(nm n).length≤8):∀l:List Ltl,((H1 nm l).map fun x=>x.2.length).sum≤8*Ltl.nodesL l
 |[]=>by simp[H1,Ltl.nodesL]
 |x::r=>by
  have h1:=HZ hn x;have h2:=H2 hn r;simp only[H1,Ltl.nodesL,LE,Mi];omega
end
theorem wT{k:Int}{m:Nat}(h:wS k=(m:Int)):(m=0∧(k=1∨k=2∨k=3))∨(m=1∧(k=4∨k=7∨k=8∨k=9∨k=11∨k=12∨k=13))∨(m=2∧(k=5∨k=6∨k=10∨k=14)):=by
 unfold wS at h
 split at h
 ·left;exact⟨by omega,by assumption⟩
 split at h
 ·right;left;exact⟨by omega,by assumption⟩
 split at h
 ·right;right;exact⟨by omega,by assumption⟩
 ·omega
section
variable {nms:List ByteArray}{t u:ar}{f g:Ltl}
def ea(a:Bool):UInt8:=if a=true then 65 else 69
end
section
variable {nms:List ByteArray}{t:ar}{f:Ltl}
end
def xu(s l:List Nat)(i:Nat):Nat:=if i<s.length then s.getD i 0 else l.getD ((i -s.length) % l.length) 0
abbrev BK(pt:cK):Value:=.agg [.int .i64 pt.1,.int .i64 pt.2.1,.int .i64 pt.2.2.1,.int .i64 pt.2.2.2.1,.int .i64 pt.2.2.2.2.1,.int .i64 pt.2.2.2.2.2.1,.int .i64 pt.2.2.2.2.2.2].toArray
def Dr(n:Int)(a:Bool):Bool:=decide (0≤n∧n≤63)&&(a||decide (n=0))
def jR(pt:cK):Int:=
 if pt.1<1∨pt.1>6∨pt.2.1<1∨pt.2.1>5 then 1
 else if(Dr pt.2.2.1 true&&Dr pt.2.2.2.1 (decide (pt.1=5∨pt.1=6))&&Dr pt.2.2.2.2.1 (decide (pt.2.1=3∨pt.2.1=4∨pt.2.1=5))&&Dr pt.2.2.2.2.2.1 (decide (pt.2.1=2∨pt.2.1=4∨pt.2.1=5)))=false then 1
 else if pt.2.2.2.2.2.2<0∨pt.2.2.2.2.2.2>3∨(pt.1≠4∧pt.2.2.2.2.2.2≠0)then 1 else 0
theorem Ds(w:World)(n:Int)(a:Bool):Rt Tryz.prog 95 [Pj n,.bool a].toArray w fun v w'=>v=.bool (Dr n a)∧w=w':=by
 refine dH Tryz.func95 Tryz.ntmps95 rfl rfl ?_;refine Qw ?_
 (refine eX rfl rfl (fun h=>?_) (fun h=>?_))
 ·simp at h
  refine QO ?_
  (refine eX rfl rfl (fun h=>?_) (fun h=>?_))
  ·simp at h
   refine QO ?_
   (refine eX rfl rfl (fun h=>?_) (fun h=>?_))
   ·subst h
    refine Pt ?_;refine be rfl rfl ⟨?_,rfl⟩;simp[Dr];omega
   ·subst h
    refine Pr ?_;refine be rfl rfl ⟨?_,rfl⟩;have:(decide (0≤n)&&decide (n≤63))=true:=by simp;omega
    simp[Dr,this];by_cases hn:n=0<;>simp[hn]
  ·simp at h
   refine Pt ?_;refine be rfl rfl ⟨?_,rfl⟩;simp[Dr];intro _ h3;omega
 ·simp at h
  refine Pt ?_;refine be rfl rfl ⟨?_,rfl⟩;simp[Dr];intro h3;omega
theorem mR(w:World)(pt:cK):Rt Tryz.prog 38 [BK pt].toArray w fun v w'=>v=Pj (jR pt)∧Ext w w':=by
 refine dG Tryz.func38 Tryz.ntmps38 rfl rfl ?_;obtain⟨k,sc,p,s,q,r,c⟩:=pt;refine Pm ?_;refine dZ rfl rfl rfl fun f j a=>?_
 apply fp;rfl;rfl;rfl;apply WL.nil;apply bx;refine az [(1,Pk w.heap.size),(3,.bool (decide (k=5∨k=6)))] ?_ ?_
 ·refine Qj ?_
  (refine eX rfl rfl (fun h=>?_) (fun h=>?_))<;>simp at h
  ·refine Pp ?_
   refine aS ⟨rfl,?_,trivial⟩;refine Oh (fun b=>some (Value.bool b)) ?_
   (rw[JO];simp;try omega)
  ·refine P_ ?_
   refine aS ⟨rfl,?_,trivial⟩;refine Oh (fun b=>some (Value.bool b)) ?_
   (rw[JO];simp;try omega)
 refine az [(1,Pk w.heap.size),(3,.bool (decide (k=5∨k=6))),(4,.bool (decide (sc=3∨sc=4∨sc=5)))] ?_ ?_
 ·refine Qj ?_
  (refine eX rfl rfl (fun h=>?_) (fun h=>?_))<;>simp at h
  ·refine Pp ?_
   refine aS ⟨rfl,rfl,?_,trivial⟩;refine Oh (fun b=>some (Value.bool b)) ?_
   (rw[JO];simp;try omega)
  ·refine QV ?_
   (refine eX rfl rfl (fun h=>?_) (fun h=>?_))<;>simp at h
   ·refine Pp ?_
    refine aS ⟨rfl,rfl,?_,trivial⟩;refine Oh (fun b=>some (Value.bool b)) ?_
    (rw[JO];simp;try omega)
   ·refine P_ ?_
    refine aS ⟨rfl,rfl,?_,trivial⟩;refine Oh (fun b=>some (Value.bool b)) ?_
    (rw[JO];simp;try omega)
 refine az [(1,Pk w.heap.size),(3,.bool (decide (k=5∨k=6))),(4,.bool (decide (sc=3∨sc=4∨sc=5))),(5,.bool (decide (sc=2∨sc=4∨sc=5)))] ?_ ?_
 ·refine Qj ?_
  (refine eX rfl rfl (fun h=>?_) (fun h=>?_))<;>simp at h
  ·refine Pp ?_
   refine aS ⟨rfl,rfl,rfl,?_,trivial⟩;refine Oh (fun b=>some (Value.bool b)) ?_
   (rw[JO];simp;try omega)
  ·refine QV ?_
   (refine eX rfl rfl (fun h=>?_) (fun h=>?_))<;>simp at h
   ·refine Pp ?_
    refine aS ⟨rfl,rfl,rfl,?_,trivial⟩;refine Oh (fun b=>some (Value.bool b)) ?_
    (rw[JO];simp;try omega)
   ·refine P_ ?_
    refine aS ⟨rfl,rfl,rfl,?_,trivial⟩;refine Oh (fun b=>some (Value.bool b)) ?_
    (rw[JO];simp;try omega)
 generalize hS:decide (k=5∨k=6)=bs;generalize hQ:decide (sc=3∨sc=4∨sc=5)=bq;generalize hR:decide (sc=2∨sc=4∨sc=5)=br;have i:jR (k,sc,p,s,q,r,c)=if k<1∨k>6∨sc<1∨sc>5 then 1 else if(Dr p true&&Dr s bs&&Dr q bq&&Dr r br)=false then 1 else if c<0∨c>3∨(k≠4∧c≠0)then 1 else 0:=by
  simp only[jR,hS,hQ,hR]
 rw[i];clear i hS hQ hR;refine QH ?_
 (refine eX rfl rfl (fun h=>?_) (fun h=>?_))<;>simp at h
 ·refine Pu ?_
  refine be rfl rfl ⟨?_,a⟩;rw[Ov OS]
 ·refine QV ?_
  (refine eX rfl rfl (fun h=>?_) (fun h=>?_))<;>simp at h
  ·refine Pu ?_
   refine be rfl rfl ⟨?_,a⟩;rw[Ov OS]
  ·refine QV ?_
   (refine eX rfl rfl (fun h=>?_) (fun h=>?_))<;>simp at h
   ·refine Pu ?_
    refine be rfl rfl ⟨?_,a⟩;rw[Ov OS]
   ·refine P_ ?_
    (refine CW.cond rfl (fun h=>?_) (fun h=>?_))<;>simp at h
    ·refine Pl ?_
     refine be rfl rfl ⟨?_,a⟩;rw[Ov OS]
    ·refine Qj ?_
     have d:¬(k<1∨k>6∨sc<1∨sc>5):=by omega
     refine WL.call rfl rfl rfl (Ds f p true) ?_;rintro v g ⟨rfl,rfl⟩
     refine QO ?_
     (refine eX rfl rfl (fun h=>?_) (fun h=>?_))<;>simp at h
     ·refine Pu ?_
      refine be rfl rfl ⟨?_,a⟩;rw[Ou d,Ov (by simp[*])]
     ·refine QV ?_
      refine WL.call rfl rfl rfl (Ds f s bs) ?_;rintro v g ⟨rfl,rfl⟩
      refine QO ?_
      (refine eX rfl rfl (fun h=>?_) (fun h=>?_))<;>simp at h
      ·refine Pu ?_
       refine be rfl rfl ⟨?_,a⟩;rw[Ou d,Ov (by simp[*])]
      ·refine QV ?_
       refine WL.call rfl rfl rfl (Ds f q bq) ?_;rintro v g ⟨rfl,rfl⟩
       refine QO ?_
       (refine eX rfl rfl (fun h=>?_) (fun h=>?_))<;>simp at h
       ·refine Pu ?_
        refine be rfl rfl ⟨?_,a⟩;rw[Ou d,Ov (by simp[*])]
       ·refine QV ?_
        refine WL.call rfl rfl rfl (Ds f r br) ?_;rintro v g ⟨rfl,rfl⟩
        refine Pv ?_
        (refine CW.cond rfl (fun h=>?_) (fun h=>?_))<;>simp at h
        ·refine Pl ?_
         refine be rfl rfl ⟨?_,a⟩;rw[Ou d,Ov (by simp[*])]
        ·refine Qj ?_
         have e:¬((Dr p true&&Dr s bs&&Dr q bq&&Dr r br)=false):=by simp[*]
         (refine eX rfl rfl (fun h=>?_) (fun h=>?_))<;>simp at h
         ·refine Pu ?_
          refine be rfl rfl ⟨?_,a⟩;rw[Ou d,Ou e,Ov OS]
         ·refine QV ?_
          (refine eX rfl rfl (fun h=>?_) (fun h=>?_))<;>simp at h
          ·refine Pu ?_
           refine be rfl rfl ⟨?_,a⟩;rw[Ou d,Ou e,Ov OS]
          ·refine QV ?_
           (refine eX rfl rfl (fun h=>?_) (fun h=>?_))<;>simp at h
           ·refine P_ ?_
            (refine CW.cond rfl (fun h=>?_) (fun h=>?_))<;>simp at h
            ·refine Pl ?_
             refine be rfl rfl ⟨?_,a⟩;rw[Ou d,Ou e,Ov OS]
            ·refine Qd ?_
             refine be rfl rfl ⟨?_,a⟩;rw[Ou d,Ou e,Ou OS]
           ·refine QF ?_
            refine be rfl rfl ⟨?_,a⟩;rw[Ou d,Ou e,Ou OS]
abbrev cP:=Int×Int×Int×Int
abbrev Hm(t:cP):Value:=.agg [.int .i64 t.1,.int .i64 t.2.1,.int .i64 t.2.2.1,.int .i64 t.2.2.2].toArray
def ls(k:Int):Bool:=decide (1≤k∧k≤3)
def jZ(t:cP):Int:=
 if t.1<1∨t.1>14∨t.2.1<0∨t.2.1≥63∨t.2.2.1<0∨t.2.2.1≥63∨((ls t.1||decide (t.1=4))=true∧t.2.2.1≠0)then 1
 else if(ls t.1=true∧(t.2.2.2<1∨t.2.2.2>3))∨(ls t.1=false∧t.2.2.2≠0)then 1 else 0
theorem lx(w:World)(k:Int):Rt Tryz.prog 105 [Pj k].toArray w fun v w'=>v=.bool (ls k)∧w=w':=by
 refine dG Tryz.func105 Tryz.ntmps105 rfl rfl ?_;refine Qw ?_
 (refine eX rfl rfl (fun h=>?_) (fun h=>?_))<;>simp at h
 ·refine Pr ?_
  refine be rfl rfl ⟨Oh Value.bool ?_,rfl⟩;unfold ls
  (rw[JO];simp;try omega)
 ·refine Pt ?_
  refine be rfl rfl ⟨Oh Value.bool ?_,rfl⟩;unfold ls
  (rw[JO];simp;try omega)
theorem mn(w:World)(t:cP):Rt Tryz.prog 40 [Hm t].toArray w fun v w'=>v=Pj (jZ t)∧Ext w w':=by
 refine dG Tryz.func40 Tryz.ntmps40 rfl rfl ?_;obtain⟨k,A,B,c⟩:=t;refine Pm ?_;refine dZ rfl rfl rfl fun e i a=>?_
 apply fp;rfl;rfl;rfl;apply WL.nil;apply bx;refine az [(1,Pk w.heap.size),(3,.bool (ls k||decide (k=4)))] ?_ ?_
 ·refine Qx ?_
  refine WL.call rfl rfl rfl (lx e k) ?_;rintro v f ⟨rfl,rfl⟩
  refine QO ?_
  (refine eX rfl rfl (fun h=>?_) (fun h=>?_))
  ·refine Pp ?_
   refine aS ⟨rfl,?_,trivial⟩;refine Oh (fun b=>some (Value.bool b)) ?_;rw[h];rfl
  ·refine P_ ?_
   refine aS ⟨rfl,?_,trivial⟩;refine Oh (fun b=>some (Value.bool b)) ?_;rw[h]
   (rw[JO];simp;try omega)
 have g:jZ (k,A,B,c)=if k<1∨k>14∨A<0∨A≥63∨B<0∨B≥63∨((ls k||decide (k=4))=true∧B≠0)then 1 else if(ls k=true∧(c<1∨c>3))∨(ls k=false∧c≠0)then 1 else 0:=rfl
 rw[g];clear g;generalize (ls k||decide (k=4))=al;apply CW.seq;apply CW.block;refine az [(1,Pk w.heap.size),(12,.bool (decide (k<1∨k>14∨A<0∨A≥63∨B<0∨B≥63∨(al=true∧B≠0))))] ?_ ?_
 ·refine Qj ?_
  (refine eX rfl rfl (fun h=>?_) (fun h=>?_))<;>simp at h
  ·refine Pp ?_
   refine aS ⟨rfl,?_,trivial⟩;refine Oh (fun b=>some (Value.bool b)) ?_;simp;omega
  refine QV ?_
  (refine eX rfl rfl (fun h=>?_) (fun h=>?_))<;>simp at h
  ·refine Pp ?_
   refine aS ⟨rfl,?_,trivial⟩;refine Oh (fun b=>some (Value.bool b)) ?_;simp;omega
  refine QV ?_
  (refine eX rfl rfl (fun h=>?_) (fun h=>?_))<;>simp at h
  ·refine Pp ?_
   refine aS ⟨rfl,?_,trivial⟩;refine Oh (fun b=>some (Value.bool b)) ?_;simp;omega
  refine QV ?_
  (refine eX rfl rfl (fun h=>?_) (fun h=>?_))<;>simp at h
  ·refine Pp ?_
   refine aS ⟨rfl,?_,trivial⟩;refine Oh (fun b=>some (Value.bool b)) ?_;simp;omega
  refine QV ?_
  (refine eX rfl rfl (fun h=>?_) (fun h=>?_))<;>simp at h
  ·refine Pp ?_
   refine aS ⟨rfl,?_,trivial⟩;refine Oh (fun b=>some (Value.bool b)) ?_;simp;omega
  refine QV ?_
  (refine eX rfl rfl (fun h=>?_) (fun h=>?_))<;>simp at h
  ·refine Pp ?_
   refine aS ⟨rfl,?_,trivial⟩;refine Oh (fun b=>some (Value.bool b)) ?_;simp;omega
  refine QO ?_
  (refine eX rfl rfl (fun h=>?_) (fun h=>?_))
  ·subst h
   refine P_ ?_;refine aS ⟨rfl,?_,trivial⟩;refine Oh (fun b=>some (Value.bool b)) ?_
   (rw[JO];simp;try omega)
  ·subst h
   refine Pp ?_;refine aS ⟨rfl,?_,trivial⟩;refine Oh (fun b=>some (Value.bool b)) ?_;simp;omega
 apply CW.cond rfl<;>intro h1
 ·rw[Om]at h1
  refine Pl ?_;refine be rfl rfl ⟨?_,a⟩;rw[Ov h1]
 ·rw[Ok]at h1
  rw[Ou h1];refine Qj ?_;refine WL.call rfl rfl rfl (lx e k) ?_;rintro v f ⟨rfl,rfl⟩
  refine QO ?_
  (refine eX rfl rfl (fun h=>?_) (fun h=>?_))
  ·have d:=h
   refine QV ?_
   (refine eX rfl rfl (fun h=>?_) (fun h=>?_))<;>simp at h
   ·refine Pu ?_
    refine be rfl rfl ⟨?_,a⟩;rw[Ov (.inl ⟨d,.inl h⟩)]
   ·refine QV ?_
    (refine eX rfl rfl (fun h=>?_) (fun h=>?_))<;>simp at h
    ·refine Pu ?_
     refine be rfl rfl ⟨?_,a⟩;rw[Ov (.inl ⟨d,.inr h⟩)]
    ·refine QV ?_
     refine WL.call rfl rfl rfl (lx e k) ?_;rintro v f ⟨rfl,rfl⟩
     rw[d];refine QF ?_;refine be rfl rfl ⟨?_,a⟩;rw[Ou];simp;omega
  ·have d:=h
   refine QU ?_;refine WL.call rfl rfl rfl (lx e k) ?_;rintro v f ⟨rfl,rfl⟩
   rw[d];refine P_ ?_;refine CW.cond rfl (fun h2=>?_) (fun h2=>?_)<;>simp at h2
   ·refine Pl ?_
    refine be rfl rfl ⟨?_,a⟩;rw[Ov (.inr ⟨rfl,h2⟩)]
   ·refine Qd ?_
    refine be rfl rfl ⟨?_,a⟩;rw[Ou];simp;exact h2
abbrev cM:=ByteArray×Int×cK×cP×Ltl×Ltl
def Dy(a:List ByteArray)(n:Int)(silent:Bool):ar:=
 if n=63∧silent=true then GC else if n<0∨n≥(a.length:Int)∨n≥63∨y_ (a.getD n.toNat ⟨#[]⟩)=false∨vg a (a.getD n.toNat ⟨#[]⟩).data.toList≠n then []
 else(a.getD n.toNat ⟨#[]⟩).data.toList
def Bo(pt:cK):List Int:=if pt.1=5∨pt.1=6 then [pt.2.2.2.1,pt.2.2.1]else [pt.2.2.1]
def EJ(pt:cK):List Int:=if pt.2.1=2 then [pt.2.2.2.2.2.1]else if pt.2.1=3 then [pt.2.2.2.2.1]else if pt.2.1=4∨pt.2.1=5 then [pt.2.2.2.2.1,pt.2.2.2.2.2.1]else []
def gf(k:Int):Bool:=decide (k≤4)
def gM(r:cM):List Int:=if r.2.1=1 then Bo r.2.2.1++EJ r.2.2.1 else if r.2.1=2 then(if gf r.2.2.2.1.1=true then [r.2.2.2.1.2.1]else [r.2.2.2.1.2.1,r.2.2.2.1.2.2.1])else []
def BA(r:cM)(a:List ByteArray):Int:=
 if r.2.1=1 then jR r.2.2.1 else if r.2.1=2 then jZ r.2.2.2.1 else if r.2.1=3 then(Cj r.2.2.2.2.1 a).2 else if r.2.1=4 then(Ci r.2.2.2.2.2 a).2 else 0
def Bz(r:cM)(a:List ByteArray):Int:=
 if BA r a=0∧(gM r).any (fun n=>Dy a n (decide (r.2.1=1))==[])=true then 4 else BA r a
def BL:cK:=(0,0,0,0,0,0,0)
def Hn:cP:=(0,0,0,0)
def o6(t:Ltl):Bool:=t.k != 0||t.n != 0||decide (0<t.kids.length)
def Ba(r:cM):Bool:=(r.2.1 != 1&&r.2.2.1 != BL)||(r.2.1 != 2&&r.2.2.2.1 != Hn)||(r.2.1 != 3&&o6 r.2.2.2.2.1)||(r.2.1 != 4&&o6 r.2.2.2.2.2)
def jX(r:cM)(a:List ByteArray):Int:=
 if y_ r.1=false∨r.2.1<1∨r.2.1>4 then 1 else if Bz r a≠0 then Bz r a else if Ba r=true then 1 else 0
def zx(s l:List Nat)(i:Nat):Nat:=if i+1=s.length+l.length then s.length else i+1
def Id(s l:List Nat)(a b:List Bool):Nat→List Bool→List Bool
 |0,out=>out
 |i+1,out=>Id s l a b i (out.set i (b.getD i false||(a.getD i false&&out.getD (zx s l i) false)))
def Ia(s l:List Nat)(a b:List Bool):List Bool:=Id s l a b a.length (Id s l a b a.length (List.replicate a.length false))
theorem If(s l:List Nat)(a b:List Bool):∀i out,(Id s l a b i out).length=out.length
 |0,out=>rfl
 |i+1,out=>by rw[Id,If s l a b i,Lx]
theorem Ib(s l:List Nat)(a b:List Bool):(Ia s l a b).length=a.length:=by unfold Ia;rw[If,If,Lu]
def iC(s l:List Nat)(i a:Nat):Bool:=decide (xu s l i >>> a&&&1=1)
def BV(s l:List Nat)(k n:Int)(ks:List (List Bool))(i:Nat):Bool:=
 if k=3 then iC s l i n.toNat
 else if k=5 then(ks.getD 0 []).getD i false&&(ks.getD 1 []).getD i false
 else if k=6 then(ks.getD 0 []).getD i false||(ks.getD 1 []).getD i false
 else if k=7 then(ks.getD 0 []).getD (zx s l i) false
 else false
def kO(s l:List Nat)(k n:Int)(ks:List (List Bool)):List Bool:=
 if k=8 then Ia s l (ks.getD 0 []) (ks.getD 1 [])
 else if k=9 then(Ia s l ((ks.getD 0 []).map (!·)) ((ks.getD 1 []).map (!·))).map (!·)
 else if k=10 then Ia s l (List.replicate (s.length+l.length) true) (ks.getD 0 [])
 else if k=11 then(Ia s l (List.replicate (s.length+l.length) true) ((ks.getD 0 []).map (!·))).map (!·)
 else if k=4 then(ks.getD 0 []).map (!·)
 else if k=1 then List.replicate (s.length+l.length) true
 else(List.range (s.length+l.length)).map (BV s l k n ks)
mutual
def se(s l:List Nat):Ltl→List Bool
 |.mk k n kids=>kO s l k n (sh s l kids)
def sh(s l:List Nat):List Ltl→List (List Bool)
 |[]=>[]
 |x::r=>se s l x::sh s l r
end
mutual
def IK:Ltl→Prop
 |.mk k n kids=>wU k=kids.length∧0≤n∧n≤63∧(k≠3→n=0)∧IL kids
def IL:List Ltl→Prop
 |[]=>True
 |x::r=>IK x∧IL r
end
mutual
theorem jK:∀(t:Ltl) (deep c:Int),(jD t deep c).1=0→IK t
 |.mk k n kids,deep,c,h=>by
  simp only[jD]at h
  split at h
  ·cases h
  ·split at h
   ·cases h
   ·split at h
    ·cases h
    ·rename_i h3
     simp only[IK];have:=jH kids _ _ h;refine⟨by omega,by omega,by omega,by omega,this⟩
theorem jH:∀(l:List Ltl) (deep c:Int),(jE l deep c).1=0→IL l
 |[],_,_,_=>trivial
 |x::r,deep,c,h=>by
  simp only[jE]at h
  split at h
  ·rename_i h1;exact absurd h h1
  ·rename_i h1
   exact⟨jK x deep c (by simpa using h1),jH r _ _ h⟩
end
theorem si(s l:List Nat):∀kids,(sh s l kids).length=kids.length
 |[]=>rfl
 |x::r=>by simp[sh,si s l r]
theorem wW(k:Int):(wU k=0∧(k=1∨k=2∨k=3))∨(wU k=1∧(k=4∨k=7∨k=10∨k=11))∨(wU k=2∧(k=5∨k=6∨k=8∨k=9))∨wU k= -1:=by
 unfold wU;split
 ·omega
 ·split
  ·omega
  ·split<;>omega
theorem kP{s l:List Nat}{k n:Int}{ks:List (List Bool)}(b:wU k=ks.length)(h:∀x∈ks,x.length=s.length+l.length):(kO s l k n ks).length=s.length+l.length:=by
 have g0:0<ks.length→(ks.getD 0 []).length=s.length+l.length:=by
  intro a
  rw[KR,KX a];exact h _ (Lb a)
 have c:=wW k;unfold kO;split
 ·rw[Ib];exact g0 OS
 ·split
  ·rw[Lq,Ib,Lq];exact g0 OS
  ·split
   ·rw[Ib,Lu]
   ·split
    ·rw[Lq,Ib,Lu]
    ·split
     ·rw[Lq];exact g0 OS
     ·split
      ·rw[Lu]
      ·simp
mutual
theorem sf{s l:List Nat}:∀t,IK t→(se s l t).length=s.length+l.length
 |.mk k n kids,h=>by
  simp only[IK]at h
  simp only[se];exact kP (by rw[si];exact h.1) (sj kids h.2.2.2.2)
theorem sj{s l:List Nat}:∀kids,IL kids→∀x∈sh s l kids,x.length=s.length+l.length
 |[],_,x,a=>by simp[sh]at a
 |t::r,h,x,a=>by
  simp only[sh,LN]at a
  rcases a with rfl|a
  ·exact sf t h.1
  ·exact sj r h.2 x a
end
theorem IM:∀(kids:List Ltl) (i:Nat) (h:i<kids.length),IL kids→IK kids[i]
 |x::r,0,h,a=>a.1
 |x::r,i+1,h,a=>IM r i (by simpa using h) a.2
theorem sk(s l:List Nat):∀(kids:List Ltl) (i:Nat) (h:i<kids.length),sh s l (kids.take (i+1))=sh s l (kids.take i)++[se s l kids[i]]
 |x::r,0,h=>by simp[sh]
 |x::r,i+1,h=>by
  simp only[Mo,sh,Km,K8];rw[sk s l r i (by simpa using h)]
def Til(A B:Nat→Prop)(i:Nat):Prop:=∃j,i≤j∧B j∧∀m,i≤m→m<j→A m
theorem Til.step{A B:Nat→Prop}{i:Nat}:Til A B i↔B i∨(A i∧Til A B (i+1)):=by
 constructor
 ·rintro⟨j,f,c,d⟩
  by_cases h:i=j
  ·subst h;exact .inl c
  ·exact .inr ⟨d i Pf OS,j,by omega,c,fun m h1 h2=>d m OS h2⟩
 ·rintro(c|⟨d,j,f,c,e⟩)
  ·exact⟨i,MM _,c,fun m h1 h2=>by omega⟩
  ·refine⟨j,by omega,c,fun m h1 h2=>?_⟩
   by_cases h:m=i
   ·subst h;exact d
   ·exact e m OS h2
def E2(L:Nat→Nat)(k n:Int)(ks:List (Nat→Prop))(i:Nat):Prop:=
 if k=1 then True
 else if k=3 then L i >>> n.toNat&&&1=1
 else if k=4 then¬ks.getD 0 (fun _=>False) i
 else if k=5 then ks.getD 0 (fun _=>False) i∧ks.getD 1 (fun _=>False) i
 else if k=6 then ks.getD 0 (fun _=>False) i∨ks.getD 1 (fun _=>False) i
 else if k=7 then ks.getD 0 (fun _=>False) (i+1)
 else if k=8 then Til (ks.getD 0 (fun _=>False)) (ks.getD 1 (fun _=>False)) i
 else if k=9 then¬Til (fun j=>¬ks.getD 0 (fun _=>False) j) (fun j=>¬ks.getD 1 (fun _=>False) j) i
 else if k=10 then Til (fun _=>True) (ks.getD 0 (fun _=>False)) i
 else if k=11 then¬Til (fun _=>True) (fun j=>¬ks.getD 0 (fun _=>False) j) i
 else False
mutual
def EQ(L:Nat→Nat):Ltl→Nat→Prop
 |.mk k n kids=>E2 L k n (E6 L kids)
def E6(L:Nat→Nat):List Ltl→List (Nat→Prop)
 |[]=>[]
 |x::r=>EQ L x::E6 L r
end
theorem Til.shift{A B A' B':Nat→Prop}{i c:Nat}(n:∀j,A (i+j)↔A' (c+j))(k:∀j,B (i+j)↔B' (c+j)):Til A B i↔Til A' B' c:=by
 constructor
 ·rintro⟨j,h,h1,h2⟩
  obtain⟨d,rfl⟩:=MI h;refine⟨c+d,by omega,(k d).1 h1,fun m g f=>?_⟩;obtain⟨e,rfl⟩:=MI g;exact(n e).1 (h2 (i+e) OS OS)
 ·rintro⟨j,h,h1,h2⟩
  obtain⟨d,rfl⟩:=MI h;refine⟨i+d,by omega,(k d).2 h1,fun m g f=>?_⟩;obtain⟨e,rfl⟩:=MI g;exact(n e).2 (h2 (c+e) OS OS)
mutual
theorem E3{L L':Nat→Nat}:∀(t:Ltl) (i e:Nat),(∀j,L (i+j)=L' (e+j))→(EQ L t i↔EQ L' t e)
 |.mk k n kids,i,e,h=>by
  have f:∀c d,(E6 L kids).getD c (fun _=>False) (i+d)↔(E6 L' kids).getD c (fun _=>False) (e+d):=fun c d=>E7 kids (i+d) (e+d) (fun j=>by rw[Mt,Mt];exact h (d+j)) c
  simp only[EQ,E2];split
  ·exact J8
  ·split
   ·rw[show L i=L' e from h 0]
   ·split
    ·exact Oy (f 0 0)
    ·split
     ·exact N9 (f 0 0) (f 1 0)
     ·split
      ·exact OD (f 0 0) (f 1 0)
      ·split
       ·exact f 0 1
       ·split
        ·exact Til.shift (f 0) (f 1)
        ·split
         ·exact Oy (Til.shift (fun j=>Oy (f 0 j)) (fun j=>Oy (f 1 j)))
         ·split
          ·exact Til.shift (fun _=>J8) (f 0)
          ·split
           ·exact Oy (Til.shift (fun _=>J8) (fun j=>Oy (f 0 j)))
           ·exact J8
theorem E7{L L':Nat→Nat}:∀(kids:List Ltl) (i e:Nat),(∀j,L (i+j)=L' (e+j))→∀c,((E6 L kids).getD c (fun _=>False) i↔(E6 L' kids).getD c (fun _=>False) e)
 |[],i,e,h,c=>by simp[E6]
 |x::r,i,e,h,0=>by simpa[E6]using E3 x i e h
 |x::r,i,e,h,c+1=>by simpa[E6]using E7 r i e h c
end
section
variable {s l:List Nat}{a b:List Bool}{A B:Nat→Prop}{N:Nat}
theorem Ig(n:N=s.length+l.length)(o:0<l.length)(g:∀i,i<N→(a.getD i false=true→A i))(f:∀i,i<N→(b.getD i false=true→B i))(j:∀i,i<N→Til A B (zx s l i)→Til A B (i+1)):
  ∀i out,i≤N→out.length=N→(∀m,m<N→out.getD m false=true→Til A B m)→∀m,m<N→(Id s l a b i out).getD m false=true→Til A B m
 |0,out,_,_,h,m,d,c=>h m d c
 |i+1,out,hi,k,h,m,d,c=>by
  refine Ig n o g f j i _ OS (by simpa using k) (fun m d c=>?_) m d c;rw[KR,K3]at c
  split at c
  ·rename_i e
   subst e;rw[Ov OS]at c
   simp only[Nk,JX,JM]at c
   refine Til.step.2 ?_;rcases c with c|⟨h1,h2⟩
   ·exact .inl (f i OS c)
   ·refine .inr ⟨g i OS h1,j i OS (h _ ?_ h2)⟩
    unfold zx;split<;>omega
  ·rw[←KR]at c
   exact h m d c
theorem Ie(o:N=s.length+l.length)(good:Nat→Prop)(g:∀m,m+1<N→good m→b.getD m false=true∨(a.getD m false=true∧good (m+1))):
  ∀i out,i+1≤N→out.length=N→(∀m,i≤m→m<N→good m→out.getD m false=true)→∀m,m<N→good m→(Id s l a b i out).getD m false=true
 |0,out,_,_,h,m,e,c=>h m (Nc _) e c
 |i+1,out,hi,j,h,m,e,c=>by
  refine Ie o good g i _ OS (by simpa using j) (fun m h1 e c=>?_) m e c;rw[KR,K3];split
  ·rename_i d
   subst d;rw[Ov OS];simp only[Nk,JX,JM];rcases g i OS c with k|⟨n,f⟩
   ·exact .inl k
   ·refine .inr ⟨n,?_⟩
    have:zx s l i=i+1:=by unfold zx;rw[Ou OS]
    rw[this];exact h (i+1) Pf OS f
  ·rename_i d
   rw[←KR];exact h m OS e c
theorem Ic(w:N=s.length+l.length)(J:0<l.length)(C:a.length=N)(t:∀i,i<N→(a.getD i false=true↔A i))(o:∀i,i<N→(b.getD i false=true↔B i))
  (Q:∀j,s.length≤j→(A (j+l.length)↔A j)) (I:∀j,s.length≤j→(B (j+l.length)↔B j)):∀i,i<N→((Ia s l a b).getD i false=true↔Til A B i):=by
 have u:Til A B N↔Til A B s.length:=by
  refine Til.shift (fun j=>?_) (fun j=>?_)
  ·rw[show N+j=(s.length+j)+l.length by omega];exact Q _ OS
  ·rw[show N+j=(s.length+j)+l.length by omega];exact I _ OS
 have H:∀i,i<N→(Til A B (zx s l i)↔Til A B (i+1)):=by
  intro i hi
  unfold zx;split
  ·rw[show i+1=N by omega];exact u.symm
  ·exact J8
 have F:∀d j,j -N=d→s.length≤j→B j→(∀m,s.length≤m→m<j→A m)→∃k,s.length≤k∧k<N∧B k∧∀m,s.length≤m→m<k→A m:=by
  intro d
  induction d using Nat.strongRecOn with
  |_ d L=>
   intro j hd E e c
   by_cases h:j<N
   ·exact⟨j,E,h,e,c⟩
   ·have v:B (j -l.length):=by
     have:=I (j -l.length) OS;rw[show j -l.length+l.length=j by omega]at this
     exact this.1 e
    by_cases D:j -l.length<N
    ·exact⟨j -l.length,by omega,D,v,fun m h1 h2=>c m h1 OS⟩
    ·exact L (j -l.length -N) OS (j -l.length) rfl OS v (fun m h1 h2=>c m h1 OS)
 let good1:Nat→Prop:=fun m=>∃j,m≤j∧j<N∧B j∧∀r,m≤r→r<j→A r
 have f:(List.replicate a.length false).length=N:=by simp[C]
 have G:0<N:=by omega
 obtain⟨M,P⟩:∃M,N=M+1:=⟨N -1,by omega⟩;have K:∀m,m<N→good1 m→(Id s l a b a.length (List.replicate a.length false)).getD m false=true:=by
  intro m n g
  rw[show a.length=M+1 by omega];simp only[Id];refine Ie (N:=N) w good1 ?_ M _ OS OZ (fun m h1 h2 g=>?_) m n g
  ·rintro m n ⟨j,h1,h2,h3,h4⟩
   by_cases z:m=j
   ·subst z;exact .inl ((o m h2).2 h3)
   ·exact .inr ⟨(t m OS).2 (h4 m Pf OS),j,by omega,h2,h3,fun r O x=>h4 r OS x⟩
  ·have:m=M:=by omega
   subst this;obtain⟨j,h1,h2,h3,h4⟩:=g;have:j=m:=by omega
   subst this;rw[KR,K3,Ov rfl,Ov OW];simp only[Nk,(o j h2).2 h3,J1]
 have q:(Id s l a b a.length (List.replicate a.length false)).length=N:=by rw[If];exact f
 intro i hi
 constructor
 ·intro h
  unfold Ia at h
  refine Ig w J (fun i hi=>(t i hi).1) (fun i hi=>(o i hi).1) (fun i hi=>(H i hi).1) a.length _ OS q (fun m n p=>?_) i hi h;refine Ig w J (fun i hi=>(t i hi).1) (fun i hi=>(o i hi).1) (fun i hi=>(H i hi).1) a.length _ OS f (fun m n p=>?_) m n p;rw[KR,K2]at p
  split at p<;>simp at p
 ·intro h
  unfold Ia;generalize Id s l a b a.length (List.replicate a.length false)=out1 at*
  rw[show a.length=M+1 by omega];simp only[Id];refine Ie (N:=N) w (Til A B) ?_ M _ OS (by simpa using q) (fun m h1 h2 g=>?_) i hi h
  ·intro m n g
   rcases Til.step.1 g with h1|⟨h1,h2⟩
   ·exact .inl ((o m OS).2 h1)
   ·exact .inr ⟨(t m OS).2 h1,h2⟩
  ·have:m=M:=by omega
   subst this;rw[KR,K3,Ov rfl,Ov OS];simp only[Nk,JX,JM];rcases Til.step.1 g with h3|⟨h3,h4⟩
   ·exact .inl ((o m h2).2 h3)
   ·refine .inr ⟨(t m h2).2 h3,?_⟩
    have y:zx s l m=s.length:=by unfold zx;rw[Ov OS]
    rw[y];rw[←P]at h4
    obtain⟨j,E,e,c⟩:=u.1 h4;obtain⟨k,k1,k2,k3,k4⟩:=F (j -N) j rfl E e c;exact K s.length OS ⟨k,k1,k2,k3,k4⟩
end
theorem xw{s l:List Nat}{j:Nat}(c:s.length≤j):xu s l (j+l.length)=xu s l j:=by
 unfold xu;rw[Ou OS,Ou OS]
 congr 1
 rw[show j+l.length -s.length=(j -s.length)+l.length by omega,Nat.add_mod_right]
theorem E4{s l:List Nat}(t:Ltl){j:Nat}(c:s.length≤j):EQ (xu s l) t (j+l.length)↔EQ (xu s l) t j:=by
 refine E3 t _ _ (fun d=>?_);rw[show j+l.length+d=(j+d)+l.length by omega];exact xw OS
theorem notB{xs:List Bool}{N i:Nat}(c:xs.length=N)(hi:i<N):((xs.map (!·)).getD i false=true↔¬xs.getD i false=true):=by
 rw[KR,KR,K0,KX OS];simp
theorem Da{N i:Nat}(hi:i<N):(List.replicate N true).getD i false=true:=by
 rw[KR,K2,Ov hi];rfl
theorem E5{s l:List Nat}(t:Ltl){i:Nat}(hi:i<s.length+l.length):EQ (xu s l) t (zx s l i)↔EQ (xu s l) t (i+1):=by
 unfold zx;split
 ·rename_i h
  rw[show i+1=s.length+l.length from h];exact(E4 t Pf).symm
 ·exact J8
theorem kQ{s l:List Nat}(I:0<l.length){k n:Int}{kids:List Ltl}(Q:wU k=kids.length)(O:IL kids)
  (J:∀c (h:c<kids.length),∀i,i<s.length+l.length→((se s l kids[c]).getD i false=true↔EQ (xu s l) kids[c] i)):
  ∀i,i<s.length+l.length→((kO s l k n (sh s l kids)).getD i false=true↔E2 (xu s l) k n (E6 (xu s l) kids) i):=by
 intro i hi
 have P:=wW k;have t:=sj (s:=s) (l:=l) kids O;generalize o:s.length+l.length=N at*
 have one:kids.length=1→∃x,kids=[x]:=fun h=>Ln.1 h
 have two:kids.length=2→∃x y,kids=[x,y]:=fun h=>by
  match kids,h with
  |[x,y],_=>exact⟨x,y,rfl⟩
 have pl:∀f:Nat→Bool,((List.range N).map f).getD i false=f i:=fun f=>by
  rw[KR,K0,K1 hi];rfl
 have m:∀i,i<N→((List.replicate N true).getD i false=true↔True):=fun i hi=>by rw[Da hi];simp
 have C:(List.replicate N true).length=N:=by simp
 have L:zx s l i<N:=by unfold zx;split<;>omega
 rcases P with⟨h1,w⟩|⟨h1,w⟩|⟨h1,w⟩|h1
 ·
  rcases w with rfl|rfl|rfl
  ·have e:∀ks,kO s l 1 n ks=List.replicate N true:=fun ks=>by simp[kO,o]
   have d:∀ks,E2 (xu s l) 1 n ks i=True:=fun ks=>by simp[E2]
   rw[e,d];exact m i hi
  ·have e:∀ks,kO s l 2 n ks=(List.range N).map (BV s l 2 n ks):=fun ks=>by simp[kO,o]
   have d:∀ks,E2 (xu s l) 2 n ks i=False:=fun ks=>by simp[E2]
   rw[e,d,pl];simp[BV]
  ·have e:∀ks,kO s l 3 n ks=(List.range N).map (BV s l 3 n ks):=fun ks=>by simp[kO,o]
   have d:∀ks,E2 (xu s l) 3 n ks i=(xu s l i >>> n.toNat&&&1=1):=fun ks=>by simp[E2]
   have D:∀ks,BV s l 3 n ks i=decide (xu s l i >>> n.toNat&&&1=1):=fun ks=>by unfold BV;rw[Ov rfl];rfl
   rw[e,d,pl,D,Om]
 ·obtain⟨x,rfl⟩:=one OS
  have p:=J 0 OW;simp only[K9]at p
  have g:(se s l x).length=N:=t _ (by simp[sh]);have H:∀j,s.length≤j→(EQ (xu s l) x (j+l.length)↔EQ (xu s l) x j):=fun j z=>E4 x z
  have K:=E5 (s:=s) (l:=l) x (i:=i) OS;rw[show sh s l [x]=[se s l x] by simp[sh],show E6 (xu s l) [x]=[EQ (xu s l) x] by simp[E6]];generalize se s l x=u at*
  generalize EQ (xu s l) x=q at*
  rcases w with rfl|rfl|rfl|rfl
  ·have e:kO s l 4 n [u]=u.map (!·):=by simp[kO]
   have d:E2 (xu s l) 4 n [q] i=¬q i:=by simp[E2]
   rw[e,d];exact(notB g hi).trans (Oy (p i hi))
  ·have e:kO s l 7 n [u]=(List.range N).map (BV s l 7 n [u]):=by simp[kO,o]
   have d:E2 (xu s l) 7 n [q] i=q (i+1):=by simp[E2]
   have D:BV s l 7 n [u] i=u.getD (zx s l i) false:=by simp[BV]
   rw[e,d,pl,D];exact(p _ L).trans K
  ·have e:kO s l 10 n [u]=Ia s l (List.replicate N true) u:=by simp[kO,o]
   have d:E2 (xu s l) 10 n [q] i=Til (fun _=>True) q i:=by simp[E2]
   rw[e,d];exact Ic (A:=fun _=>True) (B:=q) o.symm I C m p (fun _ _=>J8) H i hi
  ·have e:kO s l 11 n [u]=(Ia s l (List.replicate N true) (u.map (!·))).map (!·):=by simp[kO,o]
   have d:E2 (xu s l) 11 n [q] i=¬Til (fun _=>True) (fun j=>¬q j) i:=by simp[E2]
   rw[e,d];refine(notB (by rw[Ib,C]) hi).trans (Oy ?_);exact Ic (A:=fun _=>True) (B:=fun j=>¬q j) o.symm I C m (fun i hi=>(notB g hi).trans (Oy (p i hi))) (fun _ _=>J8) (fun j z=>Oy (H j z)) i hi
 ·obtain⟨x,y,rfl⟩:=two OS
  have p:=J 0 OW;have E:=J 1 OW;simp only[K9,K8]at p E
  have g:(se s l x).length=N:=t _ (by simp[sh]);have M:(se s l y).length=N:=t _ (by simp[sh]);have G:∀j,s.length≤j→(EQ (xu s l) x (j+l.length)↔EQ (xu s l) x j):=fun j z=>E4 x z
  have F:∀j,s.length≤j→(EQ (xu s l) y (j+l.length)↔EQ (xu s l) y j):=fun j z=>E4 y z
  rw[show sh s l [x,y]=[se s l x,se s l y] by simp[sh],show E6 (xu s l) [x,y]=[EQ (xu s l) x,EQ (xu s l) y] by simp[E6]];generalize se s l x=u at*
  generalize se s l y=v at*
  generalize EQ (xu s l) x=q at*
  generalize EQ (xu s l) y=r at*
  rcases w with rfl|rfl|rfl|rfl
  ·have e:kO s l 5 n [u,v]=(List.range N).map (BV s l 5 n [u,v]):=by simp[kO,o]
   have d:E2 (xu s l) 5 n [q,r] i=(q i∧r i):=by simp[E2]
   have D:BV s l 5 n [u,v] i=(u.getD i false&&v.getD i false):=by simp[BV]
   rw[e,d,pl,D,JM];exact N9 (p i hi) (E i hi)
  ·have e:kO s l 6 n [u,v]=(List.range N).map (BV s l 6 n [u,v]):=by simp[kO,o]
   have d:E2 (xu s l) 6 n [q,r] i=(q i∨r i):=by simp[E2]
   have D:BV s l 6 n [u,v] i=(u.getD i false||v.getD i false):=by simp[BV]
   rw[e,d,pl,D,JX];exact OD (p i hi) (E i hi)
  ·have e:kO s l 8 n [u,v]=Ia s l u v:=by simp[kO]
   have d:E2 (xu s l) 8 n [q,r] i=Til q r i:=by simp[E2]
   rw[e,d];exact Ic o.symm I g p E G F i hi
  ·have e:kO s l 9 n [u,v]=(Ia s l (u.map (!·)) (v.map (!·))).map (!·):=by simp[kO]
   have d:E2 (xu s l) 9 n [q,r] i=¬Til (fun j=>¬q j) (fun j=>¬r j) i:=by simp[E2]
   rw[e,d];refine(notB (by rw[Ib,Lq];exact g) hi).trans (Oy ?_);exact Ic (A:=fun j=>¬q j) (B:=fun j=>¬r j) o.symm I (by rw[Lq];exact g) (fun i hi=>(notB g hi).trans (Oy (p i hi))) (fun i hi=>(notB M hi).trans (Oy (E i hi))) (fun j z=>Oy (G j z)) (fun j z=>Oy (F j z)) i hi
 ·omega
mutual
theorem sr{s l:List Nat}(e:0<l.length):∀t,IK t→∀i,i<s.length+l.length→((se s l t).getD i false=true↔EQ (xu s l) t i)
 |.mk k n kids,d=>by
  simp only[IK]at d
  simp only[se,EQ];exact kQ e d.1 d.2.2.2.2 (fun c h=>ss e kids d.2.2.2.2 c h)
theorem ss{s l:List Nat}(e:0<l.length):∀(kids:List Ltl),IL kids→∀c (h:c<kids.length),∀i,i<s.length+l.length→((se s l kids[c]).getD i false=true↔EQ (xu s l) kids[c] i)
 |x::r,d,0,h=>sr e x d.1
 |x::r,d,c+1,h=>ss e r d.2 c (by simpa using h)
end
theorem IP{M:Ltl→Prop}(h1:M (.mk 1 0 []))(h2:M (.mk 2 0 []))(h3:∀n,0≤n→n≤63→M (.mk 3 n []))
  (p:∀k a,k=4∨k=7∨k=10∨k=11→IK a→M a→M (.mk k 0 [a]))
  (q:∀k a b,k=5∨k=6∨k=8∨k=9→IK a→IK b→M a→M b→M (.mk k 0 [a,b])):∀t,IK t→M t:=by
 have key:∀m (t:Ltl),t.nodes≤m→IK t→M t:=by
  intro m
  induction m with
  |zero=>intro t h;have:=t.nodes_pos;omega
  |succ m j=>
   rintro⟨k,n,kids⟩ h g
   simp only[IK]at g
   simp only[Ltl.nodes]at h
   obtain⟨e,o,l,d,c⟩:=g;unfold wU at e
   split at e
   ·rename_i f
    have:kids=[]:=KD OS;subst this;rcases f with rfl|rfl|rfl
    ·rw[d OU];exact h1
    ·rw[d OU];exact h2
    ·exact h3 n o l
   ·split at e
    ·rename_i f
     rw[d OS]
     match kids,e with
     |[a],_=>
      simp only[Ltl.nodesL,IL]at h c
      exact p k a f c.1 (j a OS c.1)
    ·split at e
     ·rename_i f
      rw[d OS]
      match kids,e with
      |[a,b],_=>
       simp only[Ltl.nodesL,IL]at h c
       have:=a.nodes_pos;have:=b.nodes_pos;exact q k a b f c.1 c.2.1 (j a OS c.1) (j b OS c.2.1)
     ·omega
 exact fun t g=>key t.nodes t Pf g
mutual
def Ltl.deep:Ltl→Nat
 |.mk _ _ kids=>1+Ltl.deepL kids
def Ltl.deepL:List Ltl→Nat
 |[]=>0
 |x::r=>max x.deep (Ltl.deepL r)
end
mutual
theorem kf:∀(t:Ltl) (d c:Int),(jD t d c).1=0→(jD t d c).2=c+t.nodes∧d+t.deep≤21
 |.mk k n kids,d,c,h=>by
  simp only[jD]at h⊢
  split at h
  ·cases h
  ·rename_i h1
   rw[Ou h1];split at h
   ·cases h
   ·rename_i h2
    rw[Ou h2];split at h
    ·cases h
    ·rename_i h3
     rw[Ou h3];have:=kh kids (d+1) (c+1) OS h;simp only[Ltl.nodes,Ltl.deep];omega
theorem kh:∀(l:List Ltl) (d c:Int),d≤21→(jE l d c).1=0→(jE l d c).2=c+Ltl.nodesL l∧d+Ltl.deepL l≤21
 |[],d,c,hd,h=>by simp only[jE,Ltl.nodesL,Ltl.deepL];omega
 |x::r,d,c,hd,h=>by
  simp only[jE]at h⊢
  split at h
  ·rename_i h1;exact absurd h h1
  ·rename_i h1
   rw[Ou h1];have h2:=kf x d c (by simpa using h1);have h3:=kh r d _ hd h;simp only[Ltl.nodesL,Ltl.deepL];omega
end
mutual
theorem ka:∀(t:Ltl) (d c:Int),IK t→c+t.nodes≤60→d+t.deep≤21→(jD t d c).1=0
 |.mk k n kids,d,c,e,h1,h2=>by
  simp only[IK]at e
  simp only[Ltl.nodes,Ltl.deep]at h1 h2
  simp only[jD];have h3:¬(wU k≠kids.length∨n<0∨n>63∨(k≠3∧n≠0)):=by
   intro h
   rcases h with h|h|h|h
   ·exact h e.1
   ·omega
   ·omega
   ·exact h.2 (e.2.2.2.1 h.1)
  rw[Ou OS,Ou OS,Ou h3];exact kg kids _ _ e.2.2.2.2 OS OS
theorem kg:∀(l:List Ltl) (d c:Int),IL l→c+Ltl.nodesL l≤60→d+Ltl.deepL l≤21→(jE l d c).1=0
 |[],d,c,_,_,_=>by simp only[jE]
 |x::r,d,c,e,h1,h2=>by
  simp only[IL]at e
  simp only[Ltl.nodesL,Ltl.deepL]at h1 h2
  have h3:=ka x d c e.1 OS OS;have h4:=kf x d c h3;simp only[jE];rw[Ou (by simp[h3]),h4.1];exact kg r d _ e.2 OS OS
end
theorem j9(t:Ltl):(jD t 1 0).1=0↔IK t∧t.nodes≤60∧t.deep≤20:=by
 constructor
 ·intro h
  have h1:=kf t 1 0 h;have h2:=jI t 1 0 h;exact⟨jK t 1 0 h,by omega,by omega⟩
 ·rintro⟨h1,h2,h3⟩
  exact ka t 1 0 h1 OS OS
mutual
def EB:Ltl→Ltl→Bool
 |.mk k n l,.mk k' c d=>k==k'&&n==c&&EE l d
def EE:List Ltl→List Ltl→Bool
 |[],[]=>true
 |x::r,y::q=>EB x y&&EE r q
 |[],_::_=>false
 |_::_,[]=>false
end
mutual
theorem EC:∀(a b:Ltl),EB a b=true↔a=b
 |.mk k n l,.mk k' d c=>by
  simp only[EB,JM,Ob,EF l c,Ltl.mk.injEq];exact N8
theorem EF:∀(a b:List Ltl),EE a b=true↔a=b
 |[],[]=>by simp[EE]
 |x::r,y::q=>by simp only[EE,JM,EC x y,EF r q,List.cons.injEq]
 |[],_::_=>by simp[EE]
 |_::_,[]=>by simp[EE]
end
theorem ED(a:Ltl):EB a a=true:=(EC a a).2 rfl
section
variable {L:Nat→Nat}{n:Int}{a b:Ltl}{i:Nat}
theorem ER:EQ L (.mk 1 n []) i↔True:=by simp[EQ,E6,E2]
theorem EU:EQ L (.mk 2 n []) i↔False:=by simp[EQ,E6,E2]
theorem EV:EQ L (.mk 3 n []) i↔L i >>> n.toNat&&&1=1:=by simp[EQ,E6,E2]
theorem EW:EQ L (.mk 4 n [a]) i↔¬EQ L a i:=by simp[EQ,E6,E2]
theorem EY:EQ L (.mk 5 n [a,b]) i↔EQ L a i∧EQ L b i:=by simp[EQ,E6,E2]
theorem EZ:EQ L (.mk 6 n [a,b]) i↔EQ L a i∨EQ L b i:=by simp[EQ,E6,E2]
theorem E0:EQ L (.mk 7 n [a]) i↔EQ L a (i+1):=by simp[EQ,E6,E2]
theorem sem8:EQ L (.mk 8 n [a,b]) i↔Til (EQ L a) (EQ L b) i:=by simp[EQ,E6,E2]
theorem E1:EQ L (.mk 9 n [a,b]) i↔¬Til (fun j=>¬EQ L a j) (fun j=>¬EQ L b j) i:=by simp[EQ,E6,E2]
theorem ES:EQ L (.mk 10 n [a]) i↔Til (fun _=>True) (EQ L a) i:=by simp[EQ,E6,E2]
theorem ET:EQ L (.mk 11 n [a]) i↔¬Til (fun _=>True) (fun j=>¬EQ L a j) i:=by simp[EQ,E6,E2]
end
theorem Til.congr{A B A' B':Nat→Prop}(d:∀j,A j↔A' j)(c:∀j,B j↔B' j)(i:Nat):Til A B i↔Til A' B' i:=
 Til.shift (fun _=>d _) (fun _=>c _)
mutual
def B0:Ltl→Ltl
 |.mk k n kids=>if k=10 then .mk 8 0 [.mk 1 0 [],(B1 kids).getD 0 (.mk 0 0 [])]else if k=11 then .mk 9 0 [.mk 2 0 [],(B1 kids).getD 0 (.mk 0 0 [])]else .mk k n (B1 kids)
def B1:List Ltl→List Ltl
 |[]=>[]
 |x::r=>B0 x::B1 r
end
theorem B3:∀l,B1 l=l.map B0
 |[]=>rfl
 |x::r=>by simp[B1,B3 r]
mutual
def r9:Ltl→Int→Bool
 |.mk k _ kids,q=>k==q||r_ kids q
def r_:List Ltl→Int→Bool
 |[],_=>false
 |x::r,q=>r9 x q||r_ r q
end
theorem B4:∀t,IK t→r9 (B0 t) 10=false∧r9 (B0 t) 11=false:=by
 refine IP ?_ ?_ ?_ ?_ ?_
 ·constructor<;>simp[B0,B1,r9,r_]
 ·constructor<;>simp[B0,B1,r9,r_]
 ·intro n _ _
  constructor<;>simp[B0,B1,r9,r_]
 ·rintro k a (rfl|rfl|rfl|rfl) _ ⟨h1,h2⟩<;>constructor<;>simp[B0,B1,r9,r_,h1,h2]
 ·rintro k a b (rfl|rfl|rfl|rfl) _ _ ⟨h1,h2⟩ ⟨h3,h4⟩<;>constructor<;>simp[B0,B1,r9,r_,h1,h2,h3,h4]
theorem B6{L:Nat→Nat}:∀t,IK t→∀i,EQ L (B0 t) i↔EQ L t i:=by
 refine IP ?_ ?_ ?_ ?_ ?_
 ·intro i;simp[B0,B1]
 ·intro i;simp[B0,B1]
 ·intro n _ _ i;simp[B0,B1]
 ·rintro k a (rfl|rfl|rfl|rfl) _ h i
  ·simp[B0,B1,EW,h]
  ·simp[B0,B1,E0,h]
  ·simp[B0,B1,sem8,ES];exact Til.congr (fun _=>by simp[ER]) h i
  ·simp[B0,B1,E1,ET];exact Oy (Til.congr (fun _=>by simp[EU]) (fun j=>Oy (h j)) i)
 ·rintro k a b (rfl|rfl|rfl|rfl) _ _ h1 h2 i
  ·simp[B0,B1,EY,h1,h2]
  ·simp[B0,B1,EZ,h1,h2]
  ·simp[B0,B1,sem8];exact Til.congr h1 h2 i
  ·simp[B0,B1,E1];exact Oy (Til.congr (fun j=>Oy (h1 j)) (fun j=>Oy (h2 j)) i)
section
variable {L:Nat→Nat}
end
theorem Dg{fn:Func}{a:Nat}{t:TypeId}(h:fn.results=#[.cell a t])(tmps:Array Value)(P:Program)(w:World){p:Addr}{v:Value}(b:tmps.getD a undef=.pointer (some p))(c:(loadVar t p).run P w=.ok v w):
  (results fn tmps).run P w=.ok v w:=by
 simp only[Jt]at b
 simp[results,h,b,asAddr,c]
theorem bg{P:Program}{n:Nat}{σ:Sg}{w:World}{fn:Func}{a b:Nat}{t e:TypeId}{cells:List Value}{k:Nat}{R:Value→World→Prop}(p:fn.results=#[.cell a t])(s:fnd σ a=some (Pk b))[q:IsC P t k true](r:Blk w b e cells)(m:xG cells=k)(h:R (.agg cells.toArray) w):
  EX (bodyPost P fn fun e w'=>∃v,e=.returned v∧R v w') .ret n σ w:=by
 unfold EX;intro ac l
 refine Of (Dg p _ _ _ (l.slot a _ s) (v:=.agg cells.toArray) ?_) l.defers ⟨_,rfl,h⟩;rw[xH]at m
 have c:=OF (P:=P) w ⟨b,0,none⟩ cells (fun j u o=>by rw[N6,Nb];exact r.cell o);obtain⟨i,dd,h1,h2,h3,h4⟩:=q.ok;have f:(isAgg t).run P w=.ok true w:=by
  unfold isAgg;rw[Nv,OI h3 w,←h4];cases dd<;>rfl
 rw[m]at c
 simp[loadVar,f,sizeOf,typeInfo,h1,h2,c]
theorem Dh{fn:Func}{a u:Nat}{t:TypeId}(h:fn.results=#[.cell a t,.tmp u])(tmps:Array Value)(P:Program)(w:World){p:Addr}{v:Value}(b:tmps.getD a undef=.pointer (some p))(c:(loadVar t p).run P w=.ok v w):
  (results fn tmps).run P w=.ok (.tuple ⟨[v,tmps.getD u undef]⟩) w:=by
 simp only[Jt]at b⊢
 simp[results,h,b,asAddr,c]
theorem bh{P:Program}{n:Nat}{σ:Sg}{w:World}{fn:Func}{a b u:Nat}{t e:TypeId}{cells:List Value}{k:Nat}{x:Value}{R:Value→World→Prop}(p:fn.results=#[.cell a t,.tmp u])(s:fnd σ a=some (Pk b))(m:fnd σ u=some x)[q:IsC P t k true](r:Blk w b e cells)(o:xG cells=k)(h:R (.tuple ⟨[.agg cells.toArray,x]⟩) w):
  EX (bodyPost P fn fun e w'=>∃v,e=.returned v∧R v w') .ret n σ w:=by
 unfold EX;intro ac c
 refine Of (Dh p _ _ _ (c.slot a _ s) (v:=.agg cells.toArray) ?_) c.defers ⟨_,by rw[c.slot u x m],h⟩;rw[xH]at o
 have f:=OF (P:=P) w ⟨b,0,none⟩ cells (fun j u m=>by rw[N6,Nb];exact r.cell m);obtain⟨i,dd,h1,h2,h3,h4⟩:=q.ok;have l:(isAgg t).run P w=.ok true w:=by
  unfold isAgg;rw[Nv,OI h3 w,←h4];cases dd<;>rfl
 rw[o]at f
 simp[loadVar,l,sizeOf,typeInfo,h1,h2,f]
theorem Sl.zero{α:Type}[Rep α](w:World)(F:Nat→Prop):Sl w F none 0 ([]:List α):=⟨by simp,by simp[maxLen],fun _=>rfl,fun i hi=>absurd hi OW⟩
theorem Sl.up0{α:Type}[Rep α]{w w':World}{F:Nat→Prop}{ao:Option Addr}{cap:Nat}{xs:List α}(h:Sl w F ao cap xs)(c:Ext w w')(hF:∀b,F b→b<w.heap.size):Sl w' F ao cap xs:=h.mono (fun b a=>c.block b (hF b a)) fun _ h=>h
section
variable {P:Program}{Q:Exit→Act→World→Prop}{n:Nat}{σ:Sg}{w:World}{L rest:List Oper}{d:Nat}{ty:TypeId}{pos:String}{af:Array Edge}{g:Option (Nat×Bool)}{t e:TypeId}{α:Type}[Rep α]{F:Nat→Prop}
end
def RL(w:World)(v:Value)(t:Ltl):Prop:=Rd w (c9 w) v t
theorem RL.ext{w w':World}{v:Value}{t:Ltl}(h:RL w v t)(c:Ext w w'):RL w' v t:=Rd.mono h (fun b a=>c.block b a) (fun b a=>MQ a c.size)
def dc(F:Nat→Prop)(w w':World):Nat→Prop:=fun b=>F b∨(w.heap.size≤b∧b<w'.heap.size)
def g_(ops:Array Oper)(r:List (Nat×Bool)):Nat→List Nat→Array Bool→Bool
 |0,J,a=>J.isEmpty&&A2 ops r a
 |k+1,J,a=>(Region.ready .any ops a).all (fun i=>J.contains i)&&!(Region.ready .any ops a).isEmpty&&
   (Region.ready .any ops a).all fun i=>g_ ops r k (J.erase i) (a.setIfInBounds i true)
def A3(ops:Array Oper)(J:List Nat)(r:List (Nat×Bool)):List (Nat×Bool)→Array Bool→Bool
 |[],a=>g_ ops r J.length J a
 |(i,true)::s,a=>(Region.ready .any ops a).contains i&&Region.free .any ops a i&&A3 ops J r s (a.setIfInBounds i true)
 |(i,false)::s,a=>decide (Region.ready .any ops a=[i])&&A3 ops J r s (a.setIfInBounds i true)
def hY(l:List Oper)(s:List (Nat×Bool))(J:List Nat)(r:List (Nat×Bool)):Bool:=
 Region.noSelect l.toArray&&decide (s.length+J.length+r.length=l.length)&&A3 l.toArray J r s (Array.replicate l.length false)
def c6:Exit→Act→World→Prop:=fun _ _ _=>False
def I_(P:Program)(ops:List Oper)(S:World→Prop)(K:Act→World→Prop):Nat→List Nat→Act→World→Prop
 |0,_,a,w=>K a w
 |k+1,J,a,w=>∀i∈J,∃o,ops[i]?=some o∧Region.wanted o (yielded ops.toArray a.tmps)=true∧o.wp P a w (fun b w'=>S w'∧I_ P ops S K k (J.erase i) b w') c6
theorem Jk{P:Program}{o:Oper}{a:Act}{w:World}{K:Act→World→Prop}{Q Q':Exit→Act→World→Prop}(hq:∀e a w,e≠.normal→Q e a w→Q' e a w)(h:o.wp P a w K Q):o.wp P a w K Q':=by
 unfold Oper.wp at*
 generalize (execOp a.eval o).run P w=r at*
 cases r with
 |ok k w'=>
  cases k<;>simp only[Oper.upon]at h⊢<;>first
   |exact h
   |(refine J2 h (fun e w'' b=>?_);cases e<;>first|exact b|exact hq _ _ _ OW b|(obtain⟨a1,c,d⟩:=b;exact⟨a1,c,hq _ _ _ OW d⟩))
 |halt x w'=>cases x<;>simp only[Oper.upon]at h⊢<;>first|exact h|exact hq _ _ _ OW h
theorem Jb{P:Program}{ops:List Oper}{S:World→Prop}{Q:Act→World→Prop}(p:Region.noSelect ops.toArray=true)(r:List (Nat×Bool)):
  ∀(k:Nat) (J:List Nat) (b:Array Bool) (a:Act) (w:World),g_ ops.toArray r k J b=true→S w→I_ P ops S (Jc P ops S Q r) k J a w→wpAnyH P .any ops.toArray (fun e a w=>e=.normal∧Q a w) S (r.length+k) b a w
 |0,J,b,a,w,d,hS,h=>by
  simp only[g_,JM]at d
  exact Je p r _ _ _ d.2 hS h
 |k+1,J,b,a,w,d,hS,h=>by
  simp only[g_,JM,Kf,JT,List.isEmpty_eq_false_iff]at d
  obtain⟨⟨l,j⟩,c⟩:=d;refine OL rfl j ?_;intro i hi
  obtain⟨o,s,q,f⟩:=h i (by simpa using l i hi);unfold wpOp;have g:ops.toArray[i]?=some o:=by simpa using s
  simp only[g,q,Ow];refine .inl (Ng (fun t w' m=>⟨m.1,Jb p r k (J.erase i) _ _ _ (c i hi) m.1 m.2⟩) (Jk (fun e a w _ hf=>hf.elim) f))
theorem Jd{P:Program}{ops:List Oper}{S:World→Prop}{Q:Act→World→Prop}(d:Region.noSelect ops.toArray=true)(J:List Nat)(r:List (Nat×Bool)):
  ∀(s:List (Nat×Bool)) (b:Array Bool) (a:Act) (w:World),A3 ops.toArray J r s b=true→S w→Jc P ops S (fun a w=>S w∧I_ P ops S (Jc P ops S Q r) J.length J a w) s a w→wpAnyH P .any ops.toArray (fun e a w=>e=.normal∧Q a w) S (r.length+J.length+s.length) b a w
 |[],b,a,w,c,hS,h=>Jb d r _ _ _ _ _ c hS h.2
 |(i,true)::s,b,a,w,c,hS,⟨o,v,k,q,h⟩=>by
  simp only[A3,JM]at c
  exact wpAnyH_take (by simpa using k) d c.1.2 c.1.1 (fun _ _ _ h=>by cases h.1) q hS (Jd d J r s _ _ _ c.2 hS h)
 |(i,false)::s,b,a,w,c,hS,⟨o,k,h⟩=>by
  simp only[A3,JM,Om]at c
  refine OL c.1 OW ?_;intro j t
  have m:j=i:=by simpa using t
  subst m;have g:ops.toArray[j]?=some o:=by simpa using k
  unfold wpOp;simp only[g];split
  ·rename_i f
   rw[Ov f]at h
   exact .inl (Ng (fun u w' p=>⟨p.1,Jd d J r s _ _ _ c.2 p.1 p.2⟩) (Jk (fun e a w l hf=>absurd hf.1 l) h))
  ·rename_i f
   rw[Ou f]at h
   exact⟨h.1,Jd d J r s _ _ _ c.2 h.1 h.2⟩
structure BE where
 i:Nat
 d:Nat
 Φ:Value→(Nat→Prop)→World→Prop
def am(P:Program)(ops:List Oper)(S:World→Prop)(Q:Exit→Act→World→Prop)(J:List Nat)(r:List (Nat×Bool)):Exit→Act→World→Prop:=
 fun e a w=>e=.normal∧(S w∧I_ P ops S (Jc P ops S (fun a w=>Q .normal a w) r) J.length J a w)
def ad(S:World→Prop)(w:World)(e:BE):Exit→Act→World→Prop:=
 fun x a w'=>x=.normal∧a.defers=[]∧S w'∧Ext w w'∧∃N,e.Φ (a.tmps.getD e.d undef) N w'∧∀b,N b→w.heap.size≤b∧b<w'.heap.size
def BC(P:Program)(L:List Oper)(S:World→Prop)(n:Nat)(σ:Sg)(e:BE):Prop:=
 (∃o,Ac L e.i=some o∧o.dst=some e.d∧gd L σ o=some true∧∀w,S w→WL P L (ad S w e) [o] n σ w)∧Nat.ble (e.d+1) n=true∧fnd σ e.d=none∧∀v N w w',e.Φ v N w→Ext w w'→e.Φ v N w'
theorem aR{S:World→Prop}{w w':World}{e:BE}{n:Nat}{σ:Sg}{v:Value}(N:Nat→Prop)(d:fnd σ e.d=some v)(hS:S w')(g:Ext w w')(hΦ:e.Φ v N w')(f:∀b,N b→w.heap.size≤b∧b<w'.heap.size):EX (ad S w e) .normal n σ w':=by
 unfold EX;intro a c
 exact⟨rfl,c.defers,hS,g,by rw[c.slot _ _ d];exact⟨N,hΦ,f⟩⟩
theorem ia{P:Program}{L:List Oper}{S:World→Prop}{n:Nat}{σ:Sg}{e:BE}(h:BC P L S n σ e){a:Act}{w:World}(l:Fr n σ a)(hS:S w):
  ∃o,L[e.i]?=some o∧Region.wanted o (yielded L.toArray a.tmps)=true∧o.wp P a w (fun t w'=>S w'∧Ext w w'∧∃v N,t=a.put (some e.d) v∧e.Φ v N w'∧∀b,N b→w.heap.size≤b∧b<w'.heap.size) c6:=by
 obtain⟨⟨o,m,hd,s,p⟩,hn,hf,_⟩:=h;rw[Ad]at m
 have f:=qN l s;refine⟨o,m,f,?_⟩;have h1:=p w hS;unfold WL at h1
 have h2:=h1 a l;simp only[wpList,f,Ow]at h2
 have j:e.d<n:=MJ hn;have c:∀v,(a.put (some e.d) v).tmps.getD e.d undef=v:=by
  intro v
  simp[Act.put,Array.getD,l.size,j]
 rcases h2 with h2|⟨_,q⟩
 ·unfold Oper.wp at*
  obtain⟨dst,op,ty,pos,af,g⟩:=o;simp only at hd
  subst hd;generalize (execOp a.eval _).run P w=r at*
  cases r with
  |ok k w'=>
   cases k<;>simp only[Oper.upon]at h2⊢<;>first
    |exact⟨h2.2.2.1,h2.2.2.2.1,by have:=h2.2.2.2.2;rw[c]at this;obtain⟨N,h3,h4⟩:=this;exact⟨_,N,rfl,h3,h4⟩⟩
    |(exfalso;have:=h2.2.1;simp[Act.put]at this;done)
    |(refine J2 h2 (fun x w'' d=>?_)
      cases x
      ·exact⟨d.2.2.1,d.2.2.2.1,by have:=d.2.2.2.2;rw[c]at this;obtain⟨N,h3,h4⟩:=this;exact⟨_,N,rfl,h3,h4⟩⟩
      ·exact absurd d.1 OW
      ·obtain⟨_,_,i⟩:=d;exact absurd i.1 OW)
    |exact Rows.mono h2 (fun v w'' d=>⟨d.2.2.1,d.2.2.2.1,by have:=d.2.2.2.2;rw[c]at this;obtain⟨N,h3,h4⟩:=this;exact⟨_,N,rfl,h3,h4⟩⟩)
    |exact h2
  |halt x w'=>cases x<;>simp only[Oper.upon]at h2⊢<;>first|exact h2|exact absurd h2.1 OW
 ·obtain⟨_,_,i⟩:=q
  exact absurd i.1 OW
def BagK(w':World)(G:Sg→Prop):List (Nat→Prop)→List BE→Sg→Prop
 |_,[],σ=>G σ
 |D,e::r,σ=>∀v N,e.Φ v N w'→(∀p∈D,∀b,p b→N b→False)→BagK w' G (N::D) r ((e.d,v)::σ)
theorem BagK.get{w':World}{G:Sg→Prop}{n:Nat}{a:Act}(NN:Nat→Nat→Prop):∀(E:List BE) {D:List (Nat→Prop)} {σ:Sg},BagK w' G D E σ→Fr n σ a→(∀e∈E,e.d<n∧e.Φ (a.tmps.getD e.d undef) (NN e.i) w')→
  (∀e∈E,∀p∈D,∀b,p b→NN e.i b→False)→(E.map (·.i)).Nodup→(∀e∈E,∀f∈E,e.i≠f.i→∀b,NN e.i b→NN f.i b→False)→∃τ,Fr n τ a∧G τ
 |[],D,σ,h,i,_,_,_,_=>⟨σ,i,h⟩
 |e::r,D,σ,h,i,o,q,d,hP=>by
  have v:=o e OW;rw[LE,L4]at d
  refine BagK.get NN r (h _ _ v.2 (q e OW)) ?_ (fun x c=>o x (by simp[c])) ?_ d.2 (fun x c y s=>hP x (by simp[c]) y (by simp[s]))
  rotate_left
  ·intro x c p k b m g
   rcases LN.1 k with rfl|k
   ·exact hP e OW x (by simp[c]) (fun hi=>d.1 (by rw[hi];exact LV c)) b m g
   ·exact q x (by simp[c]) p k b m g
  refine⟨i.size,i.defers,fun t u j=>?_⟩;by_cases l:e.d=t
  ·subst l;rw[pW]at j;cases j;rfl
  ·rw[pX l]at j;exact i.slot _ _ j
def mr:List Nat→Bool
 |[]=>true
 |x::r=>!r.contains x&&mr r
theorem mw:∀{l:List Nat},mr l=true→l.Nodup
 |[],_=>List.nodup_nil
 |x::r,h=>by
  simp only[mr,JM,JT]at h
  rw[L4];exact⟨by simpa using h.1,mw h.2⟩
def Iq(NN:Nat→Nat→Prop)(i:Nat)(N:Nat→Prop):Nat→Nat→Prop:=fun j=>if j=i then N else NN j
theorem Ir{NN:Nat→Nat→Prop}{i:Nat}{N:Nat→Prop}:Iq NN i N i=N:=Ov rfl
theorem Is{NN:Nat→Nat→Prop}{i:Nat}{N:Nat→Prop}{j:Nat}(h:j≠i):Iq NN i N j=NN j:=Ou h
theorem zY{β γ:Type}{f:β→γ}:∀{l:List β},(l.map f).Nodup→∀x∈l,∀y∈l,f x=f y→x=y
 |[],_,x,a,_,_,_=>by simp at a
 |z::r,h,x,a,y,b,e=>by
  rw[LE,L4]at h
  rcases LN.1 a with h1|h1
  ·rcases LN.1 b with h2|h2
   ·rw[h1,h2]
   ·exact absurd (show f z∈r.map f by rw[←h1,e];exact LV h2) h.1
  ·rcases LN.1 b with h2|h2
   ·exact absurd (show f z∈r.map f by rw[←h2,←e];exact LV h1) h.1
   ·exact zY h.2 x h1 y h2 e
theorem Ja{P:Program}{L:List Oper}{S:World→Prop}{n:Nat}{σ:Sg}{E:List BE}(T:∀e∈E,BC P L S n σ e)(hd:(E.map (·.d)).Nodup)(hi:(E.map (·.i)).Nodup){w0:World}{K:Act→World→Prop}
  (hK:∀a w (NN:Nat→Nat→Prop),Fr n σ a→S w→Ext w0 w→(∀e∈E,e.Φ (a.tmps.getD e.d undef) (NN e.i) w)→(∀e∈E,∀f∈E,e.i≠f.i→∀b,NN e.i b→NN f.i b→False)→K a w):
  ∀(k:Nat) (J:List Nat) (a:Act) (w:World) (NN:Nat→Nat→Prop),J.length=k→J.Nodup→(∀i∈J,i∈E.map (·.i))→Fr n σ a→S w→Ext w0 w→(∀e∈E,e.i∉J→e.Φ (a.tmps.getD e.d undef) (NN e.i) w∧∀b,NN e.i b→b<w.heap.size)→
   (∀e∈E,∀f∈E,e.i∉J→f.i∉J→e.i≠f.i→∀b,NN e.i b→NN f.i b→False)→I_ P L S K k J a w
 |0,J,a,w,NN,H,_,_,A,hS,hE,R,hP=>hK a w NN A hS hE (fun e p=>(R e p (by rw[KD H];simp)).1) (fun e p f hf=>hP e p f hf (by rw[KD H];simp) (by rw[KD H];simp))
 |k+1,J,a,w,NN,H,W,q,A,hS,hE,R,hP=>by
  intro i I
  obtain⟨e,p,rfl⟩:=LU.1 (q i I);obtain⟨o,ho,hw,U⟩:=ia (T e p) A hS;refine⟨o,ho,hw,Ng (fun a' w' h'=>?_) U⟩;obtain⟨O,B,v,N,rfl,hΦ,Z⟩:=h';have hn:e.d<n:=MJ (T e p).2.1;have hf:=(T e p).2.2.1;have M:(a.put (some e.d) v).tmps.getD e.d undef=v:=by simp[Act.put,Array.getD,A.size,hn]
  have r:∀t,t≠e.d→(a.put (some e.d) v).tmps.getD t undef=a.tmps.getD t undef:=by
   intro t ht
   simp only[Act.put,Jt];rw[JB (Nf ht)]
  have nne:Iq NN e.i N e.i=N:=Ir;have nno:∀j,j≠e.i→Iq NN e.i N j=NN j:=fun j X=>Is X
  refine⟨O,Ja T hd hi hK k (J.erase e.i) _ _ (Iq NN e.i N) (by rw[Lo I,H];rfl) (W.erase _) (fun j X=>q j (List.mem_of_mem_erase X)) ?_ O (hE.trans B) ?_ ?_⟩
  ·refine⟨by simpa[Act.put]using A.size,by simpa[Act.put]using A.defers,fun t u V=>?_⟩
   have:t≠e.d:=fun h=>by rw[h,hf]at V;cases V
   rw[r t this];exact A.slot t u V
  ·intro x z s
   by_cases c:x.d=e.d
   ·have F:x=e:=zY hd x z e p c
    subst F;rw[M,nne];exact⟨hΦ,fun b Y=>(Z b Y).2⟩
   ·rw[r _ c]
    have G:x.i≠e.i:=fun hh=>c (by rw[zY hi x z e p hh])
    have h0:=R x z (fun d=>s ((LQ G).2 d));rw[nno _ G];exact⟨(T x z).2.2.2 _ _ _ _ h0.1 B,fun b Y=>MQ (h0.2 b Y) B.size⟩
  ·intro x z y hy s C D b m l
   by_cases c:x.i=e.i
   ·rw[c,nne]at m
    have g:y.i≠e.i:=fun h=>D (by rw[c,h])
    rw[nno _ g]at l
    have h1:=(R y hy (fun h=>C ((LQ g).2 h))).2 b l;have h2:=(Z b m).1;omega
   ·rw[nno _ c]at m
    have d:x.i∉J:=fun h=>s ((LQ c).2 h)
    by_cases g:y.i=e.i
    ·rw[g,nne]at l
     have h1:=(R x z d).2 b m;have h2:=(Z b l).1;omega
    ·rw[nno _ g]at l
     exact hP x z y hy d (fun h=>C ((LQ g).2 h)) D b m l
section
variable {P:Program}{Q:Exit→Act→World→Prop}{n:Nat}{σ:Sg}{w:World}{L:List Oper}{S:World→Prop}
theorem aD{id:Nat}(S:World→Prop)(s:List (Nat×Bool))(J:List Nat)(r:List (Nat×Bool))(f:P.follows .mixedOrders=true)(b:hY L s J r=true)(hS:S (drew w))(h:HL P L S (am P L S Q J r) s n σ (drew w)):CW P (.region id L.toArray true) Q n σ w:=by
 unfold CW;unfold HL at h;intro a i
 simp only[hY,JM,Om]at b
 obtain⟨⟨d,k⟩,b⟩:=b;have j:=h a i;have c:Jc P L S (fun a w=>S w∧I_ P L S (Jc P L S (fun a w=>Q .normal a w) r) J.length J a w) s a (Go.Proofs.YtodmkmobdmcfbaaGreat.drew w):=by
  have:(fun a w=>am P L S Q J r .normal a w)=(fun a w=>S w∧I_ P L S (Jc P L S (fun a w=>Q .normal a w) r) J.length J a w):=by funext a w;simp[am]
  rw[←this];exact j
 have h1:=Jd d J r s (Array.replicate L.length false) a (Go.Proofs.YtodmkmobdmcfbaaGreat.drew w) b hS c;rw[show r.length+J.length+s.length=L.length by omega]at h1
 have h2:=wp_region_held (id:=id) (S:=S) f (w:=w) (ops:=L.toArray) (by simpa using h1);exact OP h2 (fun e l w' ⟨g,hq⟩=>by subst g;exact hq)
theorem aQ{J:List Nat}{r:List (Nat×Bool)}(E:List BE)(o:E.map (·.i)=J)(b:mr (E.map (·.i))=true)(d:mr (E.map (·.d))=true)(hS:S w)(k:∀e∈E,BC P L S n σ e)
  (m:∀w',S w'→Ext w w'→BagK w' (fun τ=>HL P L S Q r n τ w') [] E σ):EX (am P L S Q J r) .normal n σ w:=by
 unfold EX;intro a g
 subst o;refine⟨rfl,hS,?_⟩;refine Ja k (mw d) (mw b) (w0:=w) (fun a w' NN g h q hΦ hP=>?_) _ _ a w (fun _ _=>False) rfl (mw b) (fun i hi=>hi) g hS Ph (fun e c hn=>absurd (LV c) hn) (fun e c f hf hn=>absurd (LV c) hn);obtain⟨τ,hτ,j⟩:=BagK.get NN E (m w' h q) g (fun e c=>⟨MJ (k e c).2.1,hΦ e c⟩) (fun _ _ p l=>by simp at l) (mw b) hP;unfold HL at j
 exact j a hτ
end
end Go.Proofs.YtodmkmobdmcfbaaGreat
