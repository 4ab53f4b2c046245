import Derived.Test.YtodmkmobdmcfbaaGreatDoorPtTopNot2
set_option linter.unusedVariables false
set_option linter.unusedSimpArgs false
set_option linter.defProp false
namespace Go.Proofs.YtodmkmobdmcfbaaGreatDoor
theorem mixed:Tryz.prog.follows .mixedOrders=true:=by kernel_rfl
instance:IsT Tryz.prog 3 Int:=IsT.of O1 NP rfl
instance:IsZ Tryz.prog 3 (0:Int) 8:=IsZ.of (z:=Pq 0) O1 Pj
instance:IsC Tryz.prog 3 1 false:=IsC.of O1 NP rfl
instance:IsZC Tryz.prog 3 [Pq 0]:=IsZC.of (z:=Pq 0) O1 rfl
instance:IsT Tryz.prog 4 Bool:=IsT.of O1 NT rfl
instance:IsZ Tryz.prog 4 false 1:=IsZ.of (z:=.bool false) O1 Pj
instance:IsC Tryz.prog 4 1 false:=IsC.of O1 NT rfl
instance:IsZC Tryz.prog 4 [.bool false]:=IsZC.of (z:=.bool false) O1 rfl
instance:IsT Tryz.prog 82 Nat:=IsT.of O1 N5 rfl
instance:IsZ Tryz.prog 82 (0:Nat) 8:=IsZ.of (z:=.int .u64 0) O1 (fun _ _=>⟨rfl,by decide⟩)
instance:IsC Tryz.prog 82 1 false:=IsC.of O1 N5 rfl
instance:IsZC Tryz.prog 82 [.int .u64 0]:=IsZC.of (z:=.int .u64 0) O1 rfl
instance:IsT Tryz.prog 9 ByteArray:=IsT.of O1 N6 rfl
instance:IsC Tryz.prog 9 1 false:=IsC.of O1 N6 rfl
instance:IsZC Tryz.prog 9 [.string ⟨#[]⟩]:=IsZC.of (z:=.string ⟨#[]⟩) O1 rfl
instance:IsT Tryz.prog 42 Int:=IsT.of O1 Tryz.underlying42 rfl
instance:IsZ Tryz.prog 42 (0:Int) 8:=IsZ.of (z:=Pq 0) O1 Pj
instance:IsC Tryz.prog 42 1 false:=IsC.of O1 Tryz.underlying42 rfl
instance:IsZC Tryz.prog 42 [Pq 0]:=IsZC.of (z:=Pq 0) O1 rfl
instance:IsB Tryz.prog 4:=⟨NT⟩
instance:IsI Tryz.prog 3 .i64:=⟨NP⟩
instance:IsI Tryz.prog 82 .u64:=⟨N5⟩
instance:IsI Tryz.prog 5 .u8:=⟨NW⟩
instance:IsT Tryz.prog 39 (List Int):=IsT.of O1 NS rfl
instance:IsS Tryz.prog 39 3:=⟨NS⟩
instance:IsZ Tryz.prog 39 ([]:List Int) 24:=IsZ.of (z:=.slice none 0 0) O1 (fun _ _=>⟨none,0,rfl,by simp,by simp[maxLen],fun _=>rfl,fun i hi=>absurd hi O3⟩)
instance:IsC Tryz.prog 39 1 false:=IsC.of O1 NS rfl
instance:IsZC Tryz.prog 39 [.slice none 0 0]:=IsZC.of (z:=.slice none 0 0) O1 rfl
instance:IsT Tryz.prog 48 (List (List Int)):=IsT.of O1 NU rfl
instance:IsS Tryz.prog 48 39:=⟨NU⟩
instance:IsZ Tryz.prog 48 ([]:List (List Int)) 24:=IsZ.of (z:=.slice none 0 0) O1 (fun _ _=>⟨none,0,rfl,by simp,by simp[maxLen],fun _=>rfl,fun i hi=>absurd hi O3⟩)
instance:IsC Tryz.prog 48 1 false:=IsC.of O1 NU rfl
instance:IsZC Tryz.prog 48 [.slice none 0 0]:=IsZC.of (z:=.slice none 0 0) O1 rfl
instance:IsT Tryz.prog 58 (List Bool):=IsT.of O1 NZ rfl
instance:IsS Tryz.prog 58 4:=⟨NZ⟩
instance:IsZ Tryz.prog 58 ([]:List Bool) 24:=IsZ.of (z:=.slice none 0 0) O1 (fun _ _=>⟨none,0,rfl,by simp,by simp[maxLen],fun _=>rfl,fun i hi=>absurd hi O3⟩)
instance:IsC Tryz.prog 58 1 false:=IsC.of O1 NZ rfl
instance:IsZC Tryz.prog 58 [.slice none 0 0]:=IsZC.of (z:=.slice none 0 0) O1 rfl
instance:IsT Tryz.prog 49 (List Nat):=IsT.of O1 NV rfl
instance:IsS Tryz.prog 49 82:=⟨NV⟩
instance:IsZ Tryz.prog 49 ([]:List Nat) 24:=IsZ.of (z:=.slice none 0 0) O1 (fun _ _=>⟨none,0,rfl,by simp,by simp[maxLen],fun _=>rfl,fun i hi=>absurd hi O3⟩)
instance:IsC Tryz.prog 49 1 false:=IsC.of O1 NV rfl
instance:IsZC Tryz.prog 49 [.slice none 0 0]:=IsZC.of (z:=.slice none 0 0) O1 rfl
instance:IsT Tryz.prog 56 (List ByteArray):=IsT.of O1 NY rfl
instance:IsS Tryz.prog 56 9:=⟨NY⟩
instance:IsZ Tryz.prog 56 ([]:List ByteArray) 24:=IsZ.of (z:=.slice none 0 0) O1 (fun _ _=>⟨none,0,rfl,by simp,by simp[maxLen],fun _=>rfl,fun i hi=>absurd hi O3⟩)
instance:IsC Tryz.prog 56 1 false:=IsC.of O1 NY rfl
instance:IsZC Tryz.prog 56 [.slice none 0 0]:=IsZC.of (z:=.slice none 0 0) O1 rfl
instance:IsT Tryz.prog 64 (List Int×List Int):=IsT.of O1 Tryz.underlying64 rfl
instance:IsC Tryz.prog 64 2 true:=IsC.of O1 Tryz.underlying64 rfl
instance:IsFd Tryz.prog 64 0 0:=IsFd.of O1
instance:IsFd Tryz.prog 64 1 1:=IsFd.of O1
instance:IsZC Tryz.prog 64 [.slice none 0 0,.slice none 0 0]:=IsZC.of (z:=.agg #[.slice none 0 0,.slice none 0 0]) O1 rfl
instance:IsBd Tryz.prog 64 [(0,1),(1,1)]:=IsBd.of O1
instance:IsT Tryz.prog 31 (Int×Int×Int×Int×Int×Int×Int):=IsT.of O1 NQ rfl
instance:IsC Tryz.prog 31 7 true:=IsC.of O1 NQ rfl
instance:IsFd Tryz.prog 31 0 0:=IsFd.of O1
instance:IsFd Tryz.prog 31 1 1:=IsFd.of O1
instance:IsFd Tryz.prog 31 2 2:=IsFd.of O1
instance:IsFd Tryz.prog 31 3 3:=IsFd.of O1
instance:IsFd Tryz.prog 31 4 4:=IsFd.of O1
instance:IsFd Tryz.prog 31 5 5:=IsFd.of O1
instance:IsFd Tryz.prog 31 6 6:=IsFd.of O1
instance:IsZC Tryz.prog 31 [Pq 0,Pq 0,Pq 0,Pq 0,Pq 0,Pq 0,Pq 0]:=IsZC.of (z:=.agg #[Pq 0,Pq 0,Pq 0,Pq 0,Pq 0,Pq 0,Pq 0]) O1 rfl
instance:IsBd Tryz.prog 31 [(0,1),(1,1),(2,1),(3,1),(4,1),(5,1),(6,1)]:=IsBd.of O1
instance:IsZ Tryz.prog 31 ((0,0,0,0,0,0,0):(Int×Int×Int×Int×Int×Int×Int)) 56:=IsZ.of (z:=.agg #[Pq 0,Pq 0,Pq 0,Pq 0,Pq 0,Pq 0,Pq 0]) O1 (fun _ _=>CY (CZ _ _ _) (CY (CZ _ _ _) (CY (CZ _ _ _) (CY (CZ _ _ _) (CY (CZ _ _ _) (CY (CZ _ _ _) (CZ _ _ _)))))))
instance:IsT Tryz.prog 33 (Int×Int×Int×Int):=IsT.of O1 NR rfl
instance:IsC Tryz.prog 33 4 true:=IsC.of O1 NR rfl
instance:IsFd Tryz.prog 33 0 0:=IsFd.of O1
instance:IsFd Tryz.prog 33 1 1:=IsFd.of O1
instance:IsFd Tryz.prog 33 2 2:=IsFd.of O1
instance:IsFd Tryz.prog 33 3 3:=IsFd.of O1
instance:IsZC Tryz.prog 33 [Pq 0,Pq 0,Pq 0,Pq 0]:=IsZC.of (z:=.agg #[Pq 0,Pq 0,Pq 0,Pq 0]) O1 rfl
instance:IsBd Tryz.prog 33 [(0,1),(1,1),(2,1),(3,1)]:=IsBd.of O1
instance:IsZ Tryz.prog 33 ((0,0,0,0):(Int×Int×Int×Int)) 32:=IsZ.of (z:=.agg #[Pq 0,Pq 0,Pq 0,Pq 0]) O1 (fun _ _=>CY (CZ _ _ _) (CY (CZ _ _ _) (CY (CZ _ _ _) (CZ _ _ _))))
instance:IsT Tryz.prog 51 (List Int×List (List Int)×List Nat×List (List Int)):=IsT.of O1 Tryz.underlying51 rfl
instance:IsC Tryz.prog 51 4 true:=IsC.of O1 Tryz.underlying51 rfl
instance:IsFd Tryz.prog 51 0 0:=IsFd.of O1
instance:IsFd Tryz.prog 51 1 1:=IsFd.of O1
instance:IsFd Tryz.prog 51 2 2:=IsFd.of O1
instance:IsFd Tryz.prog 51 3 3:=IsFd.of O1
instance:IsZC Tryz.prog 51 [.slice none 0 0,.slice none 0 0,.slice none 0 0,.slice none 0 0]:=IsZC.of (z:=.agg #[.slice none 0 0,.slice none 0 0,.slice none 0 0,.slice none 0 0]) O1 rfl
instance:IsBd Tryz.prog 51 [(0,1),(1,1),(2,1),(3,1)]:=IsBd.of O1
instance:IsT Tryz.prog 97 (List Int×List (List Int)×List Nat×List Nat×List (List Int)):=IsT.of O1 Tryz.underlying97 rfl
instance:IsC Tryz.prog 97 5 true:=IsC.of O1 Tryz.underlying97 rfl
instance:IsFd Tryz.prog 97 0 0:=IsFd.of O1
instance:IsFd Tryz.prog 97 1 1:=IsFd.of O1
instance:IsFd Tryz.prog 97 2 2:=IsFd.of O1
instance:IsFd Tryz.prog 97 3 3:=IsFd.of O1
instance:IsFd Tryz.prog 97 4 4:=IsFd.of O1
instance:IsZC Tryz.prog 97 [.slice none 0 0,.slice none 0 0,.slice none 0 0,.slice none 0 0,.slice none 0 0]:=IsZC.of (z:=.agg #[.slice none 0 0,.slice none 0 0,.slice none 0 0,.slice none 0 0,.slice none 0 0]) O1 rfl
instance:IsBd Tryz.prog 97 [(0,1),(1,1),(2,1),(3,1),(4,1)]:=IsBd.of O1
instance:IsT Tryz.prog 86 (ByteArray×Int):=IsT.of O1 Tryz.underlying86 rfl
instance:IsC Tryz.prog 86 2 true:=IsC.of O1 Tryz.underlying86 rfl
instance:IsFd Tryz.prog 86 0 0:=IsFd.of O1
instance:IsFd Tryz.prog 86 1 1:=IsFd.of O1
instance:IsZC Tryz.prog 86 [.string ⟨#[]⟩,Pq 0]:=IsZC.of (z:=.agg #[.string ⟨#[]⟩,Pq 0]) O1 rfl
instance:IsBd Tryz.prog 86 [(0,1),(1,1)]:=IsBd.of O1
instance:IsZ Tryz.prog 86 ((⟨#[]⟩,0):(ByteArray×Int)) 24:=IsZ.of (z:=.agg #[.string ⟨#[]⟩,Pq 0]) O1 (fun _ _=>CY (c1:=[.string ⟨#[]⟩]) (c2:=[Pq 0]) ⟨rfl,by decide⟩ (CZ _ _ _))
instance:IsT Tryz.prog 114 (Int×Int):=IsT.of O1 Tryz.underlying114 rfl
instance:IsC Tryz.prog 114 2 true:=IsC.of O1 Tryz.underlying114 rfl
instance:IsFd Tryz.prog 114 0 0:=IsFd.of O1
instance:IsFd Tryz.prog 114 1 1:=IsFd.of O1
instance:IsZC Tryz.prog 114 [Pq 0,Pq 0]:=IsZC.of (z:=.agg #[Pq 0,Pq 0]) O1 rfl
instance:IsBd Tryz.prog 114 [(0,1),(1,1)]:=IsBd.of O1
instance:IsZ Tryz.prog 114 ((0,0):(Int×Int)) 16:=IsZ.of (z:=.agg #[Pq 0,Pq 0]) O1 (fun _ _=>CY (CZ _ _ _) (CZ _ _ _))
instance:IsT Tryz.prog 25 (List (ByteArray×Int)×List (Int×Int)):=IsT.of O1 Tryz.underlying25 rfl
instance:IsC Tryz.prog 25 2 true:=IsC.of O1 Tryz.underlying25 rfl
instance:IsFd Tryz.prog 25 0 0:=IsFd.of O1
instance:IsFd Tryz.prog 25 1 1:=IsFd.of O1
instance:IsZC Tryz.prog 25 [.slice none 0 0,.slice none 0 0]:=IsZC.of (z:=.agg #[.slice none 0 0,.slice none 0 0]) O1 rfl
instance:IsBd Tryz.prog 25 [(0,1),(1,1)]:=IsBd.of O1
instance:IsT Tryz.prog 127 (Int×Int×Int):=IsT.of O1 Tryz.underlying127 rfl
instance:IsC Tryz.prog 127 3 true:=IsC.of O1 Tryz.underlying127 rfl
instance:IsFd Tryz.prog 127 0 0:=IsFd.of O1
instance:IsFd Tryz.prog 127 1 1:=IsFd.of O1
instance:IsFd Tryz.prog 127 2 2:=IsFd.of O1
instance:IsZC Tryz.prog 127 [Pq 0,Pq 0,Pq 0]:=IsZC.of (z:=.agg #[Pq 0,Pq 0,Pq 0]) O1 rfl
instance:IsBd Tryz.prog 127 [(0,1),(1,1),(2,1)]:=IsBd.of O1
instance:IsZ Tryz.prog 127 ((0,0,0):(Int×Int×Int)) 24:=IsZ.of (z:=.agg #[Pq 0,Pq 0,Pq 0]) O1 (fun _ _=>CY (CZ _ _ _) (CY (CZ _ _ _) (CZ _ _ _)))
instance:IsT Tryz.prog 102 (Int×Int):=IsT.of O1 Tryz.underlying102 rfl
instance:IsC Tryz.prog 102 2 true:=IsC.of O1 Tryz.underlying102 rfl
instance:IsFd Tryz.prog 102 0 0:=IsFd.of O1
instance:IsFd Tryz.prog 102 1 1:=IsFd.of O1
instance:IsZC Tryz.prog 102 [Pq 0,Pq 0]:=IsZC.of (z:=.agg #[Pq 0,Pq 0]) O1 rfl
instance:IsBd Tryz.prog 102 [(0,1),(1,1)]:=IsBd.of O1
instance:IsZ Tryz.prog 102 ((0,0):(Int×Int)) 16:=IsZ.of (z:=.agg #[Pq 0,Pq 0]) O1 (fun _ _=>CY (CZ _ _ _) (CZ _ _ _))
instance:IsT Tryz.prog 72 (List (List Int)×List (List (Int×Int))):=IsT.of O1 Tryz.underlying72 rfl
instance:IsC Tryz.prog 72 2 true:=IsC.of O1 Tryz.underlying72 rfl
instance:IsFd Tryz.prog 72 0 0:=IsFd.of O1
instance:IsFd Tryz.prog 72 1 1:=IsFd.of O1
instance:IsZC Tryz.prog 72 [.slice none 0 0,.slice none 0 0]:=IsZC.of (z:=.agg #[.slice none 0 0,.slice none 0 0]) O1 rfl
instance:IsBd Tryz.prog 72 [(0,1),(1,1)]:=IsBd.of O1
instance:IsT Tryz.prog 41 (Bool×List Int×List Int):=IsT.of O1 Tryz.underlying41 rfl
instance:IsC Tryz.prog 41 3 true:=IsC.of O1 Tryz.underlying41 rfl
instance:IsFd Tryz.prog 41 0 0:=IsFd.of O1
instance:IsFd Tryz.prog 41 1 1:=IsFd.of O1
instance:IsFd Tryz.prog 41 2 2:=IsFd.of O1
instance:IsZC Tryz.prog 41 [.bool false,.slice none 0 0,.slice none 0 0]:=IsZC.of (z:=.agg #[.bool false,.slice none 0 0,.slice none 0 0]) O1 rfl
instance:IsBd Tryz.prog 41 [(0,1),(1,1),(2,1)]:=IsBd.of O1
instance:IsT Tryz.prog 122 (Int×Int):=IsT.of O1 Tryz.underlying122 rfl
instance:IsC Tryz.prog 122 2 true:=IsC.of O1 Tryz.underlying122 rfl
instance:IsFd Tryz.prog 122 0 0:=IsFd.of O1
instance:IsFd Tryz.prog 122 1 1:=IsFd.of O1
instance:IsZC Tryz.prog 122 [Pq 0,Pq 0]:=IsZC.of (z:=.agg #[Pq 0,Pq 0]) O1 rfl
instance:IsBd Tryz.prog 122 [(0,1),(1,1)]:=IsBd.of O1
instance:IsZ Tryz.prog 122 ((0,0):(Int×Int)) 16:=IsZ.of (z:=.agg #[Pq 0,Pq 0]) O1 (fun _ _=>CY (CZ _ _ _) (CZ _ _ _))
instance:IsC Tryz.prog 140 6 true:=IsC.of O1 Tryz.underlying140 rfl
instance:IsFd Tryz.prog 140 0 0:=IsFd.of O1
instance:IsFd Tryz.prog 140 1 4:=IsFd.of O1
instance:IsFd Tryz.prog 140 2 5:=IsFd.of O1
instance:IsZC Tryz.prog 140 [.slice none 0 0,.slice none 0 0,.slice none 0 0,.slice none 0 0,.slice none 0 0,.slice none 0 0]:=IsZC.of (z:=.agg #[.slice none 0 0,.slice none 0 0,.slice none 0 0,.slice none 0 0,.slice none 0 0,.slice none 0 0]) O1 rfl
instance:IsBd Tryz.prog 140 [(0,4),(4,1),(5,1)]:=IsBd.of O1
instance:IsC Tryz.prog 78 10 true:=IsC.of O1 Tryz.underlying78 rfl
instance:IsFd Tryz.prog 78 0 0:=IsFd.of O1
instance:IsFd Tryz.prog 78 1 1:=IsFd.of O1
instance:IsFd Tryz.prog 78 2 3:=IsFd.of O1
instance:IsFd Tryz.prog 78 3 4:=IsFd.of O1
instance:IsFd Tryz.prog 78 4 5:=IsFd.of O1
instance:IsFd Tryz.prog 78 5 6:=IsFd.of O1
instance:IsZC Tryz.prog 78 [.slice none 0 0,.slice none 0 0,.slice none 0 0,.slice none 0 0,.slice none 0 0,.slice none 0 0,.slice none 0 0,.slice none 0 0,.slice none 0 0,.slice none 0 0]:=IsZC.of (z:=.agg #[.slice none 0 0,.slice none 0 0,.slice none 0 0,.slice none 0 0,.slice none 0 0,.slice none 0 0,.slice none 0 0,.slice none 0 0,.slice none 0 0,.slice none 0 0]) O1 rfl
instance:IsBd Tryz.prog 78 [(0,1),(1,2),(3,1),(4,1),(5,1),(6,4)]:=IsBd.of O1
instance:IsT Tryz.prog 173 (Int×Int):=IsT.of O1 NG rfl
instance:IsC Tryz.prog 173 2 true:=IsC.of O1 NG rfl
instance:IsFd Tryz.prog 173 0 0:=IsFd.of O1
instance:IsFd Tryz.prog 173 1 1:=IsFd.of O1
instance:IsZC Tryz.prog 173 [Pq 0,Pq 0]:=IsZC.of (z:=.agg #[Pq 0,Pq 0]) O1 rfl
instance:IsBd Tryz.prog 173 [(0,1),(1,1)]:=IsBd.of O1
instance:IsZ Tryz.prog 173 ((0,0):(Int×Int)) 16:=IsZ.of (z:=.agg #[Pq 0,Pq 0]) O1 (fun _ _=>CY (CZ _ _ _) (CZ _ _ _))
instance:IsC Tryz.prog 170 13 true:=IsC.of O1 Tryz.underlying170 rfl
instance:IsFd Tryz.prog 170 0 0:=IsFd.of O1
instance:IsFd Tryz.prog 170 1 4:=IsFd.of O1
instance:IsFd Tryz.prog 170 2 9:=IsFd.of O1
instance:IsFd Tryz.prog 170 3 10:=IsFd.of O1
instance:IsFd Tryz.prog 170 4 11:=IsFd.of O1
instance:IsFd Tryz.prog 170 5 12:=IsFd.of O1
instance:IsZC Tryz.prog 170 [.slice none 0 0,.slice none 0 0,.slice none 0 0,.slice none 0 0,.slice none 0 0,.slice none 0 0,.slice none 0 0,.slice none 0 0,.slice none 0 0,.map none,.slice none 0 0,.slice none 0 0,.slice none 0 0]:=IsZC.of (z:=.agg #[.slice none 0 0,.slice none 0 0,.slice none 0 0,.slice none 0 0,.slice none 0 0,.slice none 0 0,.slice none 0 0,.slice none 0 0,.slice none 0 0,.map none,.slice none 0 0,.slice none 0 0,.slice none 0 0]) O1 rfl
instance:IsBd Tryz.prog 170 [(0,4),(4,5),(9,1),(10,1),(11,1),(12,1)]:=IsBd.of O1
instance:IsC Tryz.prog 225 7 true:=IsC.of O1 Tryz.underlying225 rfl
instance:IsFd Tryz.prog 225 0 0:=IsFd.of O1
instance:IsFd Tryz.prog 225 1 1:=IsFd.of O1
instance:IsFd Tryz.prog 225 2 2:=IsFd.of O1
instance:IsFd Tryz.prog 225 3 3:=IsFd.of O1
instance:IsFd Tryz.prog 225 4 4:=IsFd.of O1
instance:IsFd Tryz.prog 225 5 5:=IsFd.of O1
instance:IsFd Tryz.prog 225 6 6:=IsFd.of O1
instance:IsZC Tryz.prog 225 [.slice none 0 0,.slice none 0 0,.slice none 0 0,.slice none 0 0,.slice none 0 0,Pq 0,Pq 0]:=IsZC.of (z:=.agg #[.slice none 0 0,.slice none 0 0,.slice none 0 0,.slice none 0 0,.slice none 0 0,Pq 0,Pq 0]) O1 rfl
instance:IsBd Tryz.prog 225 [(0,1),(1,1),(2,1),(3,1),(4,1),(5,1),(6,1)]:=IsBd.of O1
instance:IsT Tryz.prog 22 (List (ByteArray×Int)):=IsT.of O1 NH rfl
instance:IsS Tryz.prog 22 86:=⟨NH⟩
instance:IsZ Tryz.prog 22 ([]:List (ByteArray×Int)) 24:=IsZ.of (z:=.slice none 0 0) O1 (fun _ _=>⟨none,0,rfl,by simp,by simp[maxLen],fun _=>rfl,fun i hi=>absurd hi O3⟩)
instance:IsC Tryz.prog 22 1 false:=IsC.of O1 NH rfl
instance:IsZC Tryz.prog 22 [.slice none 0 0]:=IsZC.of (z:=.slice none 0 0) O1 rfl
instance:IsT Tryz.prog 23 (List (Int×Int)):=IsT.of O1 NJ rfl
instance:IsS Tryz.prog 23 114:=⟨NJ⟩
instance:IsZ Tryz.prog 23 ([]:List (Int×Int)) 24:=IsZ.of (z:=.slice none 0 0) O1 (fun _ _=>⟨none,0,rfl,by simp,by simp[maxLen],fun _=>rfl,fun i hi=>absurd hi O3⟩)
instance:IsC Tryz.prog 23 1 false:=IsC.of O1 NJ rfl
instance:IsZC Tryz.prog 23 [.slice none 0 0]:=IsZC.of (z:=.slice none 0 0) O1 rfl
instance:IsT Tryz.prog 76 (List (Int×Int×Int)):=IsT.of O1 N4 rfl
instance:IsS Tryz.prog 76 127:=⟨N4⟩
instance:IsZ Tryz.prog 76 ([]:List (Int×Int×Int)) 24:=IsZ.of (z:=.slice none 0 0) O1 (fun _ _=>⟨none,0,rfl,by simp,by simp[maxLen],fun _=>rfl,fun i hi=>absurd hi O3⟩)
instance:IsC Tryz.prog 76 1 false:=IsC.of O1 N4 rfl
instance:IsZC Tryz.prog 76 [.slice none 0 0]:=IsZC.of (z:=.slice none 0 0) O1 rfl
instance:IsT Tryz.prog 52 (List (Int×Int)):=IsT.of O1 NX rfl
instance:IsS Tryz.prog 52 102:=⟨NX⟩
instance:IsZ Tryz.prog 52 ([]:List (Int×Int)) 24:=IsZ.of (z:=.slice none 0 0) O1 (fun _ _=>⟨none,0,rfl,by simp,by simp[maxLen],fun _=>rfl,fun i hi=>absurd hi O3⟩)
instance:IsC Tryz.prog 52 1 false:=IsC.of O1 NX rfl
instance:IsZC Tryz.prog 52 [.slice none 0 0]:=IsZC.of (z:=.slice none 0 0) O1 rfl
instance:IsT Tryz.prog 70 (List (List (Int×Int))):=IsT.of O1 N0 rfl
instance:IsS Tryz.prog 70 52:=⟨N0⟩
instance:IsZ Tryz.prog 70 ([]:List (List (Int×Int))) 24:=IsZ.of (z:=.slice none 0 0) O1 (fun _ _=>⟨none,0,rfl,by simp,by simp[maxLen],fun _=>rfl,fun i hi=>absurd hi O3⟩)
instance:IsC Tryz.prog 70 1 false:=IsC.of O1 N0 rfl
instance:IsZC Tryz.prog 70 [.slice none 0 0]:=IsZC.of (z:=.slice none 0 0) O1 rfl
instance:IsT Tryz.prog 168 (List (Int×Int)):=IsT.of O1 NF rfl
instance:IsS Tryz.prog 168 173:=⟨NF⟩
instance:IsZ Tryz.prog 168 ([]:List (Int×Int)) 24:=IsZ.of (z:=.slice none 0 0) O1 (fun _ _=>⟨none,0,rfl,by simp,by simp[maxLen],fun _=>rfl,fun i hi=>absurd hi O3⟩)
instance:IsC Tryz.prog 168 1 false:=IsC.of O1 NF rfl
instance:IsZC Tryz.prog 168 [.slice none 0 0]:=IsZC.of (z:=.slice none 0 0) O1 rfl
instance:IsT Tryz.prog 120 (List (Int×Int)):=IsT.of O1 ND rfl
instance:IsS Tryz.prog 120 122:=⟨ND⟩
instance:IsZ Tryz.prog 120 ([]:List (Int×Int)) 24:=IsZ.of (z:=.slice none 0 0) O1 (fun _ _=>⟨none,0,rfl,by simp,by simp[maxLen],fun _=>rfl,fun i hi=>absurd hi O3⟩)
instance:IsC Tryz.prog 120 1 false:=IsC.of O1 ND rfl
instance:IsZC Tryz.prog 120 [.slice none 0 0]:=IsZC.of (z:=.slice none 0 0) O1 rfl
instance:IsT Tryz.prog 145 (List (List Bool)):=IsT.of O1 NE rfl
instance:IsS Tryz.prog 145 58:=⟨NE⟩
instance:IsZ Tryz.prog 145 ([]:List (List Bool)) 24:=IsZ.of (z:=.slice none 0 0) O1 (fun _ _=>⟨none,0,rfl,by simp,by simp[maxLen],fun _=>rfl,fun i hi=>absurd hi O3⟩)
instance:IsC Tryz.prog 145 1 false:=IsC.of O1 NE rfl
instance:IsZC Tryz.prog 145 [.slice none 0 0]:=IsZC.of (z:=.slice none 0 0) O1 rfl
instance:IsC Tryz.prog 88 1 false:=IsC.of O1 Tryz.underlying88 rfl
instance:IsC Tryz.prog 75 1 false:=IsC.of O1 Tryz.underlying75 rfl
instance:IsC Tryz.prog 166 1 false:=IsC.of O1 Tryz.underlying166 rfl
instance:IsC Tryz.prog 223 1 false:=IsC.of O1 Tryz.underlying223 rfl
instance:IsC Tryz.prog 116 1 false:=IsC.of O1 Tryz.underlying116 rfl
instance:IsF Tryz.prog 226:=⟨_,Tryz.func226,rfl,by decide⟩
instance:IsF Tryz.prog 177:=⟨_,Tryz.func177,rfl,by decide⟩
instance:IsF Tryz.prog 176:=⟨_,Tryz.func176,rfl,by decide⟩
instance:IsF Tryz.prog 106:=⟨_,Tryz.func106,rfl,by decide⟩
instance:IsF Tryz.prog 152:=⟨_,Tryz.func152,rfl,by decide⟩
instance:IsF Tryz.prog 79:=⟨_,Tryz.func79,rfl,by decide⟩
instance:IsF Tryz.prog 82:=⟨_,Tryz.func82,rfl,by decide⟩
instance:IsF Tryz.prog 157:=⟨_,Tryz.func157,rfl,by decide⟩
instance:IsF Tryz.prog 85:=⟨_,Tryz.func85,rfl,by decide⟩
instance:IsF Tryz.prog 160:=⟨_,Tryz.func160,rfl,by decide⟩
instance:IsF Tryz.prog 161:=⟨_,Tryz.func161,rfl,by decide⟩
instance:IsF Tryz.prog 162:=⟨_,Tryz.func162,rfl,by decide⟩
instance:IsF Tryz.prog 81:=⟨_,Tryz.func81,rfl,by decide⟩
instance:IsF Tryz.prog 154:=⟨_,Tryz.func154,rfl,by decide⟩
instance:IsF Tryz.prog 155:=⟨_,Tryz.func155,rfl,by decide⟩
instance:IsF Tryz.prog 156:=⟨_,Tryz.func156,rfl,by decide⟩
instance:IsF Tryz.prog 86:=⟨_,Tryz.func86,rfl,by decide⟩
instance:IsF Tryz.prog 83:=⟨_,Tryz.func83,rfl,by decide⟩
instance:IsF Tryz.prog 62:=⟨_,Tryz.func62,rfl,by decide⟩
instance:IsF Tryz.prog 57:=⟨_,Tryz.func57,rfl,by decide⟩
instance:IsF Tryz.prog 114:=⟨_,Tryz.func114,rfl,by decide⟩
instance:IsF Tryz.prog 53:=⟨_,Tryz.func53,rfl,by decide⟩
instance:IsF Tryz.prog 61:=⟨_,Tryz.func61,rfl,by decide⟩
instance:IsF Tryz.prog 60:=⟨_,Tryz.func60,rfl,by decide⟩
instance:IsF Tryz.prog 59:=⟨_,Tryz.func59,rfl,by decide⟩
instance:IsF Tryz.prog 115:=⟨_,Tryz.func115,rfl,by decide⟩
instance:IsF Tryz.prog 27:=⟨_,Tryz.func27,rfl,by decide⟩
instance:IsF Tryz.prog 54:=⟨_,Tryz.func54,rfl,by decide⟩
instance:IsF Tryz.prog 55:=⟨_,Tryz.func55,rfl,by decide⟩
instance:IsF Tryz.prog 58:=⟨_,Tryz.func58,rfl,by decide⟩
instance:IsF Tryz.prog 56:=⟨_,Tryz.func56,rfl,by decide⟩
instance:IsF Tryz.prog 113:=⟨_,Tryz.func113,rfl,by decide⟩
instance:IsF Tryz.prog 175:=⟨_,Tryz.func175,rfl,by decide⟩
instance:IsF Tryz.prog 105:=⟨_,Tryz.func105,rfl,by decide⟩
instance:IsF Tryz.prog 36:=⟨_,Tryz.func36,rfl,by decide⟩
instance:IsF Tryz.prog 37:=⟨_,Tryz.func37,rfl,by decide⟩
instance:IsF Tryz.prog 91:=⟨_,Tryz.func91,rfl,by decide⟩
instance:IsF Tryz.prog 21:=⟨_,Tryz.func21,rfl,by decide⟩
instance:IsF Tryz.prog 22:=⟨_,Tryz.func22,rfl,by decide⟩
instance:IsF Tryz.prog 20:=⟨_,Tryz.func20,rfl,by decide⟩
instance:IsF Tryz.prog 19:=⟨_,Tryz.func19,rfl,by decide⟩
instance:IsF Tryz.prog 18:=⟨_,Tryz.func18,rfl,by decide⟩
instance:IsF Tryz.prog 208:=⟨_,Tryz.func208,rfl,by decide⟩
instance:IsF Tryz.prog 209:=⟨_,Tryz.func209,rfl,by decide⟩
instance:IsF Tryz.prog 153:=⟨_,Tryz.func153,rfl,by decide⟩
instance:IsF Tryz.prog 100:=⟨_,Tryz.func100,rfl,by decide⟩
instance:IsF Tryz.prog 99:=⟨_,Tryz.func99,rfl,by decide⟩
instance:IsF Tryz.prog 169:=⟨_,Tryz.func169,rfl,by decide⟩
instance:IsF Tryz.prog 76:=⟨_,Tryz.func76,rfl,by decide⟩
instance:IsF Tryz.prog 148:=⟨_,Tryz.func148,rfl,by decide⟩
instance:IsF Tryz.prog 77:=⟨_,Tryz.func77,rfl,by decide⟩
instance:IsF Tryz.prog 70:=⟨_,Tryz.func70,rfl,by decide⟩
instance:IsF Tryz.prog 73:=⟨_,Nu,rfl,by decide⟩
instance:IsF Tryz.prog 72:=⟨_,Tryz.func72,rfl,by decide⟩
instance:IsF Tryz.prog 75:=⟨_,Tryz.func75,rfl,by decide⟩
instance:IsF Tryz.prog 145:=⟨_,Tryz.func145,rfl,by decide⟩
instance:IsF Tryz.prog 193:=⟨_,Tryz.func193,rfl,by decide⟩
instance:IsF Tryz.prog 201:=⟨_,Tryz.func201,rfl,by decide⟩
instance:IsF Tryz.prog 229:=⟨_,Tryz.func229,rfl,by decide⟩
instance:IsF Tryz.prog 147:=⟨_,Tryz.func147,rfl,by decide⟩
instance:IsF Tryz.prog 204:=⟨_,Tryz.func204,rfl,by decide⟩
instance:IsF Tryz.prog 205:=⟨_,Tryz.func205,rfl,by decide⟩
instance:IsF Tryz.prog 74:=⟨_,Tryz.func74,rfl,by decide⟩
instance:IsF Tryz.prog 67:=⟨_,Tryz.func67,rfl,by decide⟩
instance:IsF Tryz.prog 47:=⟨_,Tryz.func47,rfl,by decide⟩
instance:IsF Tryz.prog 165:=⟨_,Tryz.func165,rfl,by decide⟩
instance:IsF Tryz.prog 97:=⟨_,Tryz.func97,rfl,by decide⟩
instance:IsF Tryz.prog 144:=⟨_,Tryz.func144,rfl,by decide⟩
instance:IsF Tryz.prog 141:=⟨_,Tryz.func141,rfl,by decide⟩
instance:IsF Tryz.prog 107:=⟨_,Tryz.func107,rfl,by decide⟩
instance:IsF Tryz.prog 192:=⟨_,Tryz.func192,rfl,by decide⟩
instance:IsF Tryz.prog 90:=⟨_,Tryz.func90,rfl,by decide⟩
instance:IsF Tryz.prog 158:=⟨_,Tryz.func158,rfl,by decide⟩
instance:IsF Tryz.prog 191:=⟨_,Tryz.func191,rfl,by decide⟩
instance:IsF Tryz.prog 108:=⟨_,Tryz.func108,rfl,by decide⟩
instance:IsF Tryz.prog 159:=⟨_,Tryz.func159,rfl,by decide⟩
instance:IsF Tryz.prog 71:=⟨_,Tryz.func71,rfl,by decide⟩
instance:IsF Tryz.prog 197:=⟨_,Tryz.func197,rfl,by decide⟩
instance:IsF Tryz.prog 198:=⟨_,Tryz.func198,rfl,by decide⟩
instance:IsF Tryz.prog 196:=⟨_,Tryz.func196,rfl,by decide⟩
instance:IsF Tryz.prog 195:=⟨_,Tryz.func195,rfl,by decide⟩
instance:IsF Tryz.prog 227:=⟨_,Tryz.func227,rfl,by decide⟩
instance:IsF Tryz.prog 228:=⟨_,Tryz.func228,rfl,by decide⟩
instance:IsF Tryz.prog 225:=⟨_,Tryz.func225,rfl,by decide⟩
instance:IsF Tryz.prog 238:=⟨_,Tryz.func238,rfl,by decide⟩
instance:IsF Tryz.prog 200:=⟨_,Tryz.func200,rfl,by decide⟩
instance:IsF Tryz.prog 202:=⟨_,Tryz.func202,rfl,by decide⟩
instance:IsF Tryz.prog 203:=⟨_,Tryz.func203,rfl,by decide⟩
instance:IsF Tryz.prog 146:=⟨_,Tryz.func146,rfl,by decide⟩
instance:IsF Tryz.prog 199:=⟨_,Tryz.func199,rfl,by decide⟩
instance:IsF Tryz.prog 224:=⟨_,Tryz.func224,rfl,by decide⟩
instance:IsF Tryz.prog 215:=⟨_,Tryz.func215,rfl,by decide⟩
instance:IsF Tryz.prog 35:=⟨_,Tryz.func35,rfl,by decide⟩
instance:IsF Tryz.prog 216:=⟨_,Tryz.func216,rfl,by decide⟩
instance:IsF Tryz.prog 88:=⟨_,Tryz.func88,rfl,by decide⟩
instance:IsF Tryz.prog 214:=⟨_,Tryz.func214,rfl,by decide⟩
instance:IsF Tryz.prog 164:=⟨_,Tryz.func164,rfl,by decide⟩
instance:IsF Tryz.prog 233:=⟨_,Tryz.func233,rfl,by decide⟩
instance:IsF Tryz.prog 232:=⟨_,Tryz.func232,rfl,by decide⟩
instance:IsF Tryz.prog 239:=⟨_,Tryz.func239,rfl,by decide⟩
instance:IsF Tryz.prog 78:=⟨_,Tryz.func78,rfl,by decide⟩
instance:IsF Tryz.prog 150:=⟨_,Tryz.func150,rfl,by decide⟩
instance:IsF Tryz.prog 151:=⟨_,Tryz.func151,rfl,by decide⟩
instance:IsF Tryz.prog 207:=⟨_,Tryz.func207,rfl,by decide⟩
instance:IsF Tryz.prog 149:=⟨_,Tryz.func149,rfl,by decide⟩
instance:IsF Tryz.prog 206:=⟨_,Tryz.func206,rfl,by decide⟩
instance:IsF Tryz.prog 50:=⟨_,Tryz.func50,rfl,by decide⟩
instance:IsF Tryz.prog 46:=⟨_,Tryz.func46,rfl,by decide⟩
instance:IsF Tryz.prog 222:=⟨_,Tryz.func222,rfl,by decide⟩
instance:IsF Tryz.prog 109:=⟨_,Tryz.func109,rfl,by decide⟩
instance:IsF Tryz.prog 179:=⟨_,Tryz.func179,rfl,by decide⟩
instance:IsF Tryz.prog 178:=⟨_,Tryz.func178,rfl,by decide⟩
instance:IsF Tryz.prog 43:=⟨_,Tryz.func43,rfl,by decide⟩
instance:IsF Tryz.prog 29:=⟨_,Tryz.func29,rfl,by decide⟩
instance:IsF Tryz.prog 129:=⟨_,Tryz.func129,rfl,by decide⟩
instance:IsF Tryz.prog 136:=⟨_,Tryz.func136,rfl,by decide⟩
instance:IsF Tryz.prog 137:=⟨_,Tryz.func137,rfl,by decide⟩
instance:IsF Tryz.prog 104:=⟨_,Tryz.func104,rfl,by decide⟩
instance:IsF Tryz.prog 126:=⟨_,Tryz.func126,rfl,by decide⟩
instance:IsF Tryz.prog 64:=⟨_,Tryz.func64,rfl,by decide⟩
instance:IsF Tryz.prog 125:=⟨_,Tryz.func125,rfl,by decide⟩
instance:IsF Tryz.prog 127:=⟨_,Tryz.func127,rfl,by decide⟩
instance:IsF Tryz.prog 128:=⟨_,Tryz.func128,rfl,by decide⟩
instance:IsF Tryz.prog 133:=⟨_,Tryz.func133,rfl,by decide⟩
instance:IsF Tryz.prog 135:=⟨_,Tryz.func135,rfl,by decide⟩
instance:IsF Tryz.prog 131:=⟨_,Tryz.func131,rfl,by decide⟩
instance:IsF Tryz.prog 138:=⟨_,Tryz.func138,rfl,by decide⟩
instance:IsF Tryz.prog 130:=⟨_,Tryz.func130,rfl,by decide⟩
instance:IsF Tryz.prog 132:=⟨_,Tryz.func132,rfl,by decide⟩
instance:IsF Tryz.prog 134:=⟨_,Tryz.func134,rfl,by decide⟩
instance:IsF Tryz.prog 41:=⟨_,Tryz.func41,rfl,by decide⟩
instance:IsF Tryz.prog 28:=⟨_,Tryz.func28,rfl,by decide⟩
instance:IsF Tryz.prog 121:=⟨_,Tryz.func121,rfl,by decide⟩
instance:IsF Tryz.prog 123:=⟨_,Tryz.func123,rfl,by decide⟩
instance:IsF Tryz.prog 63:=⟨_,Tryz.func63,rfl,by decide⟩
instance:IsF Tryz.prog 124:=⟨_,Tryz.func124,rfl,by decide⟩
instance:IsF Tryz.prog 116:=⟨_,Tryz.func116,rfl,by decide⟩
instance:IsF Tryz.prog 117:=⟨_,Tryz.func117,rfl,by decide⟩
instance:IsF Tryz.prog 119:=⟨_,Tryz.func119,rfl,by decide⟩
instance:IsF Tryz.prog 118:=⟨_,Tryz.func118,rfl,by decide⟩
instance:IsF Tryz.prog 103:=⟨_,Tryz.func103,rfl,by decide⟩
instance:IsF Tryz.prog 181:=⟨_,Tryz.func181,rfl,by decide⟩
instance:IsF Tryz.prog 122:=⟨_,Tryz.func122,rfl,by decide⟩
instance:IsF Tryz.prog 120:=⟨_,Tryz.func120,rfl,by decide⟩
instance:IsF Tryz.prog 182:=⟨_,Tryz.func182,rfl,by decide⟩
instance:IsF Tryz.prog 183:=⟨_,Tryz.func183,rfl,by decide⟩
instance:IsF Tryz.prog 185:=⟨_,Tryz.func185,rfl,by decide⟩
instance:IsF Tryz.prog 186:=⟨_,Tryz.func186,rfl,by decide⟩
instance:IsF Tryz.prog 187:=⟨_,Tryz.func187,rfl,by decide⟩
instance:IsF Tryz.prog 188:=⟨_,Tryz.func188,rfl,by decide⟩
instance:IsF Tryz.prog 184:=⟨_,Tryz.func184,rfl,by decide⟩
instance:IsF Tryz.prog 34:=⟨_,Tryz.func34,rfl,by decide⟩
instance:IsF Tryz.prog 84:=⟨_,Tryz.func84,rfl,by decide⟩
instance:IsF Tryz.prog 98:=⟨_,Tryz.func98,rfl,by decide⟩
instance:IsF Tryz.prog 171:=⟨_,Tryz.func171,rfl,by decide⟩
instance:IsF Tryz.prog 172:=⟨_,Tryz.func172,rfl,by decide⟩
instance:IsF Tryz.prog 218:=⟨_,Tryz.func218,rfl,by decide⟩
instance:IsF Tryz.prog 235:=⟨_,Tryz.func235,rfl,by decide⟩
instance:IsF Tryz.prog 240:=⟨_,Tryz.func240,rfl,by decide⟩
instance:IsF Tryz.prog 219:=⟨_,Tryz.func219,rfl,by decide⟩
instance:IsF Tryz.prog 237:=⟨_,Tryz.func237,rfl,by decide⟩
instance:IsF Tryz.prog 220:=⟨_,Tryz.func220,rfl,by decide⟩
instance:IsF Tryz.prog 236:=⟨_,Tryz.func236,rfl,by decide⟩
instance:IsF Tryz.prog 13:=⟨_,Tryz.func13,rfl,by decide⟩
instance:IsF Tryz.prog 5:=⟨_,Tryz.func5,rfl,by decide⟩
instance:IsF Tryz.prog 14:=⟨_,Tryz.func14,rfl,by decide⟩
instance:IsF Tryz.prog 10:=⟨_,Tryz.func10,rfl,by decide⟩
instance:IsF Tryz.prog 11:=⟨_,Tryz.func11,rfl,by decide⟩
instance:IsF Tryz.prog 26:=⟨_,Tryz.func26,rfl,by decide⟩
instance:IsF Tryz.prog 25:=⟨_,Tryz.func25,rfl,by decide⟩
instance:IsF Tryz.prog 30:=⟨_,Tryz.func30,rfl,by decide⟩
instance:IsF Tryz.prog 45:=⟨_,Tryz.func45,rfl,by decide⟩
instance:IsF Tryz.prog 221:=⟨_,Tryz.func221,rfl,by decide⟩
instance:IsF Tryz.prog 65:=⟨_,Tryz.func65,rfl,by decide⟩
instance:IsF Tryz.prog 139:=⟨_,Tryz.func139,rfl,by decide⟩
instance:IsF Tryz.prog 174:=⟨_,Tryz.func174,rfl,by decide⟩
instance:IsF Tryz.prog 38:=⟨_,Tryz.func38,rfl,by decide⟩
instance:IsF Tryz.prog 101:=⟨_,Tryz.func101,rfl,by decide⟩
instance:IsF Tryz.prog 23:=⟨_,Tryz.func23,rfl,by decide⟩
instance:IsF Tryz.prog 102:=⟨_,Tryz.func102,rfl,by decide⟩
instance:IsF Tryz.prog 15:=⟨_,Tryz.func15,rfl,by decide⟩
instance:IsF Tryz.prog 93:=⟨_,Tryz.func93,rfl,by decide⟩
instance:IsF Tryz.prog 94:=⟨_,Tryz.func94,rfl,by decide⟩
instance:IsF Tryz.prog 173:=⟨_,Tryz.func173,rfl,by decide⟩
instance:IsF Tryz.prog 92:=⟨_,Tryz.func92,rfl,by decide⟩
instance:IsF Tryz.prog 166:=⟨_,Tryz.func166,rfl,by decide⟩
instance:IsF Tryz.prog 95:=⟨_,Tryz.func95,rfl,by decide⟩
instance:IsF Tryz.prog 89:=⟨_,Tryz.func89,rfl,by decide⟩
instance:IsF Tryz.prog 69:=⟨_,Tryz.func69,rfl,by decide⟩
instance:IsF Tryz.prog 194:=⟨_,Tryz.func194,rfl,by decide⟩
instance:IsF Tryz.prog 190:=⟨_,Tryz.func190,rfl,by decide⟩
instance:IsF Tryz.prog 143:=⟨_,Tryz.func143,rfl,by decide⟩
instance:IsF Tryz.prog 142:=⟨_,Tryz.func142,rfl,by decide⟩
instance:IsF Tryz.prog 189:=⟨_,Tryz.func189,rfl,by decide⟩
instance:IsF Tryz.prog 9:=⟨_,Tryz.func9,rfl,by decide⟩
instance:IsF Tryz.prog 12:=⟨_,Tryz.func12,rfl,by decide⟩
instance:IsF Tryz.prog 44:=⟨_,Tryz.func44,rfl,by decide⟩
instance:IsF Tryz.prog 42:=⟨_,Tryz.func42,rfl,by decide⟩
instance:IsF Tryz.prog 31:=⟨_,Tryz.func31,rfl,by decide⟩
instance:IsF Tryz.prog 49:=⟨_,Tryz.func49,rfl,by decide⟩
instance:IsF Tryz.prog 24:=⟨_,Tryz.func24,rfl,by decide⟩
instance:IsF Tryz.prog 48:=⟨_,Tryz.func48,rfl,by decide⟩
instance:IsF Tryz.prog 8:=⟨_,Tryz.func8,rfl,by decide⟩
instance:IsF Tryz.prog 111:=⟨_,Tryz.func111,rfl,by decide⟩
instance:IsF Tryz.prog 96:=⟨_,Tryz.func96,rfl,by decide⟩
instance:IsF Tryz.prog 80:=⟨_,Tryz.func80,rfl,by decide⟩
instance:IsF Tryz.prog 52:=⟨_,Tryz.func52,rfl,by decide⟩
instance:IsF Tryz.prog 167:=⟨_,Tryz.func167,rfl,by decide⟩
instance:IsF Tryz.prog 217:=⟨_,Tryz.func217,rfl,by decide⟩
instance:IsF Tryz.prog 168:=⟨_,Tryz.func168,rfl,by decide⟩
instance:IsF Tryz.prog 112:=⟨_,Tryz.func112,rfl,by decide⟩
instance:IsF Tryz.prog 16:=⟨_,Tryz.func16,rfl,by decide⟩
instance:IsF Tryz.prog 170:=⟨_,Tryz.func170,rfl,by decide⟩
instance:IsF Tryz.prog 39:=⟨_,Tryz.func39,rfl,by decide⟩
instance:IsF Tryz.prog 17:=⟨_,Tryz.func17,rfl,by decide⟩
instance:IsF Tryz.prog 40:=⟨_,Tryz.func40,rfl,by decide⟩
instance:IsF Tryz.prog 33:=⟨_,Tryz.func33,rfl,by decide⟩
instance:IsF Tryz.prog 7:=⟨_,Tryz.func7,rfl,by decide⟩
instance:IsF Tryz.prog 4:=⟨_,Tryz.func4,rfl,by decide⟩
instance:IsF Tryz.prog 6:=⟨_,Tryz.func6,rfl,by decide⟩
instance:IsF Tryz.prog 32:=⟨_,Tryz.func32,rfl,by decide⟩
instance:IsF Tryz.prog 68:=⟨_,Tryz.func68,rfl,by decide⟩
instance:IsF Tryz.prog 51:=⟨_,Tryz.func51,rfl,by decide⟩
instance:IsF Tryz.prog 110:=⟨_,Tryz.func110,rfl,by decide⟩
instance:IsF Tryz.prog 180:=⟨_,Tryz.func180,rfl,by decide⟩
instance:IsF Tryz.prog 223:=⟨_,Tryz.func223,rfl,by decide⟩
instance:IsF Tryz.prog 66:=⟨_,Tryz.func66,rfl,by decide⟩
instance:IsF Tryz.prog 140:=⟨_,Tryz.func140,rfl,by decide⟩
open Go.RowKit
inductive Ltl where
 |mk (k n:Int) (kids:List Ltl):Ltl
def Ltl.k:Ltl→Int|.mk k _ _=>k
def Ltl.n:Ltl→Int|.mk _ n _=>n
def Ltl.kids:Ltl→List Ltl|.mk _ _ l=>l
mutual
def Ltl.nodes:Ltl→Nat
 |.mk _ _ kids=>1+Ltl.nodesL kids
def Ltl.nodesL:List Ltl→Nat
 |[]=>0
 |x::r=>x.nodes+Ltl.nodesL r
end
theorem Ltl.nodes_pos(t:Ltl):0<t.nodes:=by cases t;simp[Ltl.nodes];omega
theorem Ltl.nodes_kid:∀(l:List Ltl) (x:Ltl),x∈l→x.nodes≤Ltl.nodesL l
 |[],x,h=>by cases h
 |y::r,x,h=>by
  simp only[Ltl.nodesL];rcases LI.1 h with rfl|h
  ·omega
  ·have:=Ltl.nodes_kid r x h;omega
inductive RdT(w:World)(F:Nat→Prop):List Value→Ltl→Prop
 |mk (k n:Int) (kids:List Ltl) (ao:Option Addr) (cap:Nat) (es:Nat→List Value):kids.length≤cap→cap≤maxLen→(ao=none→cap=0)→
   (∀i,i<kids.length→∃b off,ao=some ⟨b,off,none⟩∧F b∧Cells w b (off+i*3) (es i))→(∀i (h:i<kids.length),RdT w F (es i) kids[i])→
   RdT w F [.int .i64 k,.int .i64 n,.slice ao kids.length cap] (.mk k n kids)
instance sD:Rep Ltl where
 sz:=3
 pos:=by decide
 agg:=true
 rd:=RdT
 len:=by intro w F cs x h;cases h;rfl
 one:=by
  intro w F cs x h v a
  cases h
  simp at a
  rcases a with rfl|rfl|rfl<;>rfl
 szAgg:=fun h=>by cases h
 mono:=by
  intro w w' F F' cs x h f hF
  induction h with
  |mk k n kids ao cap g h1 h2 h3 h4 j c=>
   refine .mk k n kids ao cap g h1 h2 h3 (fun i hi=>?_) (fun i hi=>c i hi);obtain⟨b,off,e,hf,d⟩:=h4 i hi;exact⟨b,off,e,hF b hf,d.mono (f b hf)⟩
theorem RdT.sl{w:World}{F:Nat→Prop}{cs:List Value}{t:Ltl}(h:rd w F cs t):∃ao cap,cs=[Pq t.k,Pq t.n,.slice ao t.kids.length cap]∧Sl w F ao cap t.kids:=by
 cases h with
 |mk k n kids ao cap d h1 h2 h3 h4 c=>
  refine⟨ao,cap,rfl,h1,h2,h3,fun i hi=>?_⟩;obtain⟨b,off,e,hf,a⟩:=h4 i hi;exact⟨b,off,e,hf,d i,a,c i hi⟩
theorem RdT.of{w:World}{F:Nat→Prop}{k n:Int}{kids:List Ltl}{ao:Option Addr}{cap:Nat}(h:Sl w F ao cap kids):rd w F [Pq k,Pq n,.slice ao kids.length cap] (Ltl.mk k n kids):=by
 have h4:∀i,∃c:List Value,∀hi:i<kids.length,∃b off,ao=some ⟨b,off,none⟩∧F b∧Cells w b (off+i*3) c∧rd w F c kids[i]:=by
  intro i
  by_cases hi:i<kids.length
  ·obtain⟨b,off,e,hf,c,a,d⟩:=h.el i hi
   exact⟨c,fun _=>⟨b,off,e,hf,a,d⟩⟩
  ·exact⟨[],fun h=>absurd h hi⟩
 refine .mk k n kids ao cap (fun i=>Classical.choose (h4 i)) h.le h.mx h.nil (fun i hi=>?_) (fun i hi=>?_)
 ·obtain⟨b,off,e,hf,a,_⟩:=JX (h4 i) hi
  exact⟨b,off,e,hf,a⟩
 ·obtain⟨b,off,e,hf,a,d⟩:=JX (h4 i) hi
  exact d
abbrev ye(k n:Int)(ao:Option Addr)(len cap:Nat):Value:=.agg [.int .i64 k,.int .i64 n,.slice ao len cap].toArray
theorem Rd.ltl{w:World}{F:Nat→Prop}{v:Value}{t:Ltl}(h:Rd w F v t):∃ao cap,v=ye t.k t.n ao t.kids.length cap∧Sl w F ao cap t.kids:=by
 obtain⟨cs,e,b⟩:=h;obtain⟨ao,cap,rfl,a⟩:=RdT.sl b;exact⟨ao,cap,e,a⟩
theorem Rd.mkLtl{w:World}{F:Nat→Prop}{k n:Int}{kids:List Ltl}{ao:Option Addr}{cap:Nat}(h:Sl w F ao cap kids):Rd w F (ye k n ao kids.length cap) (Ltl.mk k n kids):=⟨_,rfl,RdT.of h⟩
instance sI:IsT Tryz.prog 28 Ltl:=IsT.of O1 Tryz.underlying28 rfl
instance sJ:IsS Tryz.prog 26 28:=⟨NM⟩
instance sK:IsT Tryz.prog 26 (List Ltl):=IsT.of O1 NM rfl
instance sL:IsZ Tryz.prog 28 (Ltl.mk 0 0 []) 40:=IsZ.of (z:=.agg #[Pq 0,Pq 0,.slice none 0 0]) O1 (fun _ _=>RdT.of (kids:=[]) ⟨by simp,by simp[maxLen],fun _=>rfl,fun i hi=>absurd hi O3⟩)
instance sM:IsC Tryz.prog 28 3 true:=IsC.of O1 Tryz.underlying28 rfl
instance sN:IsC Tryz.prog 26 1 false:=IsC.of O1 NM rfl
instance sO:IsFd Tryz.prog 28 0 0:=IsFd.of O1
instance sE:IsFd Tryz.prog 28 1 1:=IsFd.of O1
instance sF:IsFd Tryz.prog 28 2 2:=IsFd.of O1
instance sG:IsZC Tryz.prog 28 [Pq 0,Pq 0,.slice none 0 0]:=IsZC.of (z:=.agg #[Pq 0,Pq 0,.slice none 0 0]) O1 rfl
instance sH:IsBd Tryz.prog 28 [(0,1),(1,1),(2,1)]:=IsBd.of O1
def wO(k:Int):Int:=if k=1∨k=2∨k=3 then 0 else if k=4∨k=7∨k=10∨k=11 then 1 else if k=5∨k=6∨k=8∨k=9 then 2 else -1
theorem wR(w:World)(k:Int):Rt Tryz.prog 139 [Pq k].toArray w fun v w'=>v=Pq (wO k)∧w=w':=by
 refine dD Tryz.func139 Tryz.ntmps139 rfl rfl ?_;unfold wO;refine Qc ?_;refine CW.cond rfl (fun h=>?_) (fun h=>?_)<;>simp at h
 ·subst h;refine QF ?_
  exact be rfl rfl ⟨rfl,rfl⟩
 refine Qm ?_;refine CW.cond rfl (fun h=>?_) (fun h=>?_)<;>simp at h
 ·subst h;refine QF ?_
  exact be rfl rfl ⟨rfl,rfl⟩
 refine Qj ?_;refine CW.cond rfl (fun h=>?_) (fun h=>?_)<;>simp at h
 ·subst h;refine Pt ?_
  exact be rfl rfl ⟨rfl,rfl⟩
 rw[OD O0];refine Qm ?_;refine CW.cond rfl (fun h=>?_) (fun h=>?_)<;>simp at h
 ·subst h;refine QF ?_
  exact be rfl rfl ⟨rfl,rfl⟩
 refine Qm ?_;refine CW.cond rfl (fun h=>?_) (fun h=>?_)<;>simp at h
 ·subst h;refine QF ?_
  exact be rfl rfl ⟨rfl,rfl⟩
 refine Qm ?_;refine CW.cond rfl (fun h=>?_) (fun h=>?_)<;>simp at h
 ·subst h;refine QF ?_
  exact be rfl rfl ⟨rfl,rfl⟩
 refine Qj ?_;refine CW.cond rfl (fun h=>?_) (fun h=>?_)<;>simp at h
 ·subst h;refine Pt ?_
  exact be rfl rfl ⟨rfl,rfl⟩
 rw[OD O0];refine Qm ?_;refine CW.cond rfl (fun h=>?_) (fun h=>?_)<;>simp at h
 ·subst h;refine QF ?_
  exact be rfl rfl ⟨rfl,rfl⟩
 refine Qm ?_;refine CW.cond rfl (fun h=>?_) (fun h=>?_)<;>simp at h
 ·subst h;refine QF ?_
  exact be rfl rfl ⟨rfl,rfl⟩
 refine Qm ?_;refine CW.cond rfl (fun h=>?_) (fun h=>?_)<;>simp at h
 ·subst h;refine QF ?_
  exact be rfl rfl ⟨rfl,rfl⟩
 refine Qj ?_;refine CW.cond rfl (fun h=>?_) (fun h=>?_)<;>simp at h
 ·subst h;refine Pt ?_
  exact be rfl rfl ⟨rfl,rfl⟩
 rw[OD O0];refine QQ ?_;exact be rfl rfl ⟨rfl,rfl⟩
theorem rJ{w c b:World}{r:Option Nat}(h1:w.grownBy c r)(h2:c.grownBy b r):w.grownBy b r:=
 ⟨h2.os.trans h1.os,h2.tape.trans h1.tape,h2.output.trans h1.output,MH h1.size h2.size,fun k d a=>(h2.block k (MK d h1.size) a).trans (h1.block k d a)⟩
theorem Ext.grw{w a:World}(h:Ext w a)(r:Option Nat):w.grownBy a r:=⟨h.os,h.tape,h.output,h.size,fun k b _=>h.block k b⟩
mutual
def jw:Ltl→Int→Int→Int×Int
 |.mk k n kids,deep,c=>if c+1>60 then(2,c+1)else if deep>20 then(5,c+1)else if wO k≠kids.length∨n<0∨n>63∨(k≠3∧n≠0)then(1,c+1)else jx kids (deep+1) (c+1)
def jx:List Ltl→Int→Int→Int×Int
 |[],_,c=>(0,c)
 |x::r,deep,c=>if(jw x deep c).1≠0 then jw x deep c else jx r deep (jw x deep c).2
end
mutual
theorem jB:∀(t:Ltl) (deep c:Int),(jw t deep c).1=0→c<(jw t deep c).2∧(jw t deep c).2≤60
 |.mk k n kids,deep,c,h=>by
  simp only[jw]at h⊢
  split at h
  ·cases h
  ·rename_i h1
   rw[OD h1];split at h
   ·cases h
   ·rename_i h2
    rw[OD h2];split at h
    ·cases h
    ·rename_i h3
     rw[OD h3];have:=jy kids (deep+1) (c+1) O0 h;omega
theorem jy:∀(l:List Ltl) (deep c:Int),c≤60→(jx l deep c).1=0→c≤(jx l deep c).2∧(jx l deep c).2≤60
 |[],deep,c,a,h=>by simp only[jx];omega
 |x::r,deep,c,a,h=>by
  simp only[jx]at h⊢
  split at h
  ·rename_i h1;exact absurd h h1
  ·rename_i h1
   rw[OD h1];have h2:=jB x deep c (by simpa using h1);have h3:=jy r deep _ h2.2 h;omega
end
theorem yb:∀(m:Nat) (t:Ltl),t.nodes≤m→∀(w:World) (F:Nat→Prop) (deep c:Int) (bn:Nat) (ao:Option Addr) (cap:Nat),Sl w F ao cap t.kids→(∀b,F b→b<w.heap.size)→¬F bn→
  Blk w bn 3 [Pq c]→0≤c→c≤60→0≤deep→deep≤1000→
  Rt Tryz.prog 65 [ye t.k t.n ao t.kids.length cap,Pq deep,Pr bn].toArray w fun v w'=>v=Pq (jw t deep c).1∧Blk w' bn 3 [Pq (jw t deep c).2]∧w.grownBy w' (some bn)
 |0,t,Z=>by have:=t.nodes_pos;omega
 |m+1,.mk k n kids,Z=>by
  intro w F deep c bn ao cap Y hF hn f hc0 hc1 hd0 hd1
  simp only[Ltl.kids,Ltl.k,Ltl.n]at*
  refine dF Tryz.func65 Tryz.ntmps65 rfl rfl ?_;have hlen:=Y.len63;have hbn:=f.lt;refine Pu ?_;refine dX rfl rfl rfl fun w1 hf N=>?_
  have V:=f.ext N;have R:=N.grw (some bn);refine Qg ?_;refine WL.st rfl rfl rfl V rfl rfl Pk (fun w2 A D=>?_);have G:=hf.kept D O6;have p:=rJ R D;simp only[jw];refine Qz ?_;refine CW.cond rfl (fun h=>?_) (fun h=>?_)<;>simp only[Ow,Ou,Oz]at h
  ·refine Pt ?_
   refine be rfl rfl ?_;rw[OE h];exact⟨rfl,A,p⟩
  rw[OD O0];refine Qm ?_;refine CW.cond rfl (fun h1=>?_) (fun h1=>?_)<;>simp only[Ow,Ou,Oz]at h1
  ·refine Pt ?_
   refine be rfl rfl ?_;rw[OE h1];exact⟨rfl,A,p⟩
  rw[OD O0];refine aA [(1,Pq deep),(2,Pr bn),(3,Pr w.heap.size),(23,.bool (decide (wO k≠kids.length∨n<0∨n>63∨(k≠3∧n≠0))))] ?_ ?_
  ·refine Q9 ?_
   refine QL.call rfl rfl rfl (fun w' h=>Rt.mono (wR w' k) (fun v w'' X=>⟨X.1,X.2▸Ext.refl _⟩)) ?_;refine Rp ?_;refine QL.nil fun w3 a=>?_
   have T:=G.ext a;refine Pv ?_;refine CW.cond rfl (fun h2=>?_) (fun h2=>?_)<;>simp at h2
   ·refine Pw ?_
    refine aT ⟨rfl,rfl,rfl,?_,trivial⟩ a;refine Oq (fun b=>some (Value.bool b)) ?_;have:(wO k != (kids.length:Int))=true:=by simpa using h2
    rw[this,Ov (.inl h2)]
   ·refine QX ?_
    (refine eV rfl rfl (fun h=>?_) (fun h=>?_))<;>simp at h
    ·refine Px ?_
     refine aT ⟨rfl,rfl,rfl,?_,trivial⟩ a;refine Oq (fun b=>some (Value.bool b)) ?_;rw[Ov (.inr (.inl h))]
    ·refine QG ?_
     refine CW.cond rfl (fun h3=>?_) (fun h3=>?_)<;>simp at h3
     ·refine Pw ?_
      refine aT ⟨rfl,rfl,rfl,?_,trivial⟩ a;refine Oq (fun b=>some (Value.bool b)) ?_;rw[Ov h3,Ov (.inr (.inr (.inl h3)))]
     ·refine QX ?_
      (refine eV rfl rfl (fun h=>?_) (fun h=>?_))<;>simp at h
      ·refine QG ?_
       refine aT ⟨rfl,rfl,rfl,?_,trivial⟩ a;refine Oq (fun b=>some (Value.bool b)) ?_
       (rw[JI];simp;try omega)
      ·refine Py ?_
       refine aT ⟨rfl,rfl,rfl,?_,trivial⟩ a;refine Oq (fun b=>some (Value.bool b)) ?_
       (rw[JI];simp;try omega)
  intro w3 a
  have K:=A.ext a;have T:=G.ext a;have E:=rJ p (a.grw (some bn));refine CW.cond rfl (fun h2=>?_) (fun h2=>?_)<;>simp only[Ow,Ou]at h2
  ·rw[OE h2]
   refine Pt ?_;exact be rfl rfl ⟨rfl,K,E⟩
  rw[OD h2];refine QK ?_;refine CW.loop (S:=Nat×Int) (fun x=>[(1,Pq deep),(2,Pr bn),(48,.slice ao kids.length cap),(49,Pq (kids.length:Int)),(50,Pq (x.1:Int))])
   (fun x w'=>w.grownBy w' (some bn)∧Blk w' bn 3 [Pq x.2]∧0≤x.2∧x.2≤60∧x.1≤kids.length∧jx kids (deep+1) (c+1)=jx (kids.drop x.1) (deep+1) x.2) (fun x=>kids.length -x.1) (0,c+1) OZ ⟨E,K,by simp only;omega,by simp only;omega,by omega,rfl⟩ ?_
  rintro⟨i,ci⟩ O ⟨d,z,l,I,hi,H⟩
  simp only at z l I hi H
  rw[H];refine Qm ?_;refine CW.cond rfl (fun h3=>?_) (fun h3=>?_)<;>simp at h3
  ·have P:Sl O F ao cap kids:=Y.mono (fun b f=>d.block b (hF b f) (by intro e;cases e;exact hn f)) fun _ h=>h
   have L:∀b,F b→b<O.heap.size:=fun b f=>MK (hF b f) d.size
   refine Q6 ?_;refine eC rfl rfl rfl rfl rfl P h3 O_ (fun u q hu=>?_);have s:kids.drop i=kids[i]::kids.drop (i+1):=Ks h3;have o:(kids[i]).nodes≤m:=by
    have:=Ltl.nodes_kid kids _ (K8 h3);simp only[Ltl.nodes]at Z;omega
   rw[s];simp only[jx];generalize kids[i]=x at*
   obtain⟨ao',cap',rfl,hx⟩:=hu.ltl;have hw4:w.heap.size≤O.heap.size:=d.size;refine WL.alloc rfl rfl (fun w5 U M=>?_);refine WL.st rfl rfl rfl U rfl rfl Pk (fun W hb6 C=>?_);have j:Ext O W:=M.grown C M.size Pb;have J:=z.ext j;have Q:=rJ d (j.grw (some bn));refine P_ ?_;refine WL.call rfl rfl rfl (yb m x o W F (deep+1) ci bn ao' cap' (hx.mono (fun b f=>j.block b (L b f)) fun _ h=>h) (fun b f=>MK (L b f) j.size) hn J l I O0 O0) ?_;rintro v w7 ⟨rfl,y,g⟩
   have g:=rJ Q g;have B:=jB x (deep+1) ci;generalize jw x (deep+1) ci=r at*
   obtain⟨e,c'⟩:=r;simp only at B y
   refine Qm ?_;refine CW.cond rfl (fun h4=>?_) (fun h4=>?_)<;>simp at h4
   ·refine Pt ?_
    refine be rfl rfl ?_;rw[OE h4];exact⟨rfl,y,g⟩
   ·have:=B h4
    refine Pz ?_;refine EX.back (i+1,c') OZ ⟨g,y,by simp only;omega,by simp only;omega,by simp only;omega,?_⟩ (by simp only;omega);simp only;rw[OD (by simp[h4])]
  ·refine P3 ?_
   refine be rfl rfl ?_;rw[Kt O0];exact⟨rfl,z,d⟩
theorem ya(w:World){F:Nat→Prop}{t:Ltl}{ao:Option Addr}{cap:Nat}(o:Sl w F ao cap t.kids)(hF:∀b,F b→b<w.heap.size):
  Rt Tryz.prog 30 [ye t.k t.n ao t.kids.length cap].toArray w fun v w'=>v=Pq (jw t 1 0).1∧Ext w w':=by
 refine dD Tryz.func30 Tryz.ntmps30 rfl rfl ?_;refine Pu ?_;refine dX rfl rfl rfl fun m hf c=>?_
 refine Qm ?_;refine WL.alloc rfl rfl (fun u d i=>?_);have p:=d.lt;refine WL.st rfl rfl rfl d rfl rfl Pk (fun l d f=>?_);have e:=c.trans i;have a:Ext w l:=e.grown f e.size (fun g k=>by cases k;exact c.size);have q:=(hf.ext i).kept f (by have:=hf.lt;simp;omega);have n:w.heap.size≤m.heap.size:=c.size;refine PA ?_;refine WL.call rfl rfl rfl (yb t.nodes t Pm l F 1 0 m.heap.size ao cap (o.mono (fun b d=>a.block b (hF b d)) fun _ h=>h) (fun b d=>MK (hF b d) a.size) (fun h=>by have:=hF _ h;omega) d O0 O0 O0 O0) ?_;rintro v s ⟨rfl,r,j⟩
 refine PB ?_;exact be rfl rfl ⟨rfl,a.grown j a.size (fun g k=>by cases k;exact c.size)⟩
abbrev ar:=List UInt8
def Gi:ar:=[116,114,117,101]
def Gf:ar:=[102,97,108,115,101]
def Gh:ar:=[115,105,108,101,110,116]
def u4(a:List ByteArray)(l:ar):Int:=match a.findIdx? (fun x=>x.data.toList==l)with
 |some i=>(i:Int)
 |none=> -1
def zl(a:List ByteArray)(n:Int):ar:=
 if n=63 then Gh else if n≥(a.length:Int)then []else if yR (a.getD n.toNat ⟨#[]⟩)=false then []
 else if u4 a (a.getD n.toNat ⟨#[]⟩).data.toList≠n then []else(a.getD n.toNat ⟨#[]⟩).data.toList
theorem yT{l:ar}(h:yS l=true):∀c∈l,xX c=true:=by
 unfold yS at h
 simp only[JG]at h
 exact J9.1 h.2
theorem yU{l:ar}(h:yS l=true):l≠[]∧l≠Gi∧l≠Gf∧l≠Gh∧l.length≤8:=by
 unfold yS at h
 simp only[JG,JN,Oi,Ou]at h
 obtain⟨⟨⟨⟨⟨h1,h2⟩,h3⟩,h4⟩,a⟩,_⟩:=h;exact⟨h1,h3,h4,a,by omega⟩
theorem zm(a:List ByteArray)(n:Int):(zl a n).length≤8:=by
 unfold zl;split
 ·decide
 split
 ·simp
 split
 ·simp
 rename_i h;split
 ·simp
 exact(yU (l:=(a.getD n.toNat ⟨#[]⟩).data.toList) (by simpa using h)).2.2.2.2
def g_(k i kid:Int):Bool:=if kid=5 then k==6||(k==5&&i==0)else if kid=6 then k==6&&i==0 else if kid=8∨kid=9 then k==kid&&i==1 else true
def wJ(b:Bool)(t:ar):ar:=if b=true then t else 40::(t++[41])
def Fd(k:Int):ar:=if k=5 then [38]else if k=6 then [47]else if k=8 then [85]else if k=9 then [82]else []
def vZ(nm:Int→ar)(k n:Int)(ks:List (Int×ar)):ar:=
 if k=1 then Gi else if k=2 then Gf else if k=3 then nm n
 else if k=4 then 33::wJ (g_ k 0 (ks.getD 0 (0,[])).1) (ks.getD 0 (0,[])).2
 else if k=7 then 88::32::wJ (g_ k 0 (ks.getD 0 (0,[])).1) (ks.getD 0 (0,[])).2
 else if k=10 then 70::32::wJ (g_ k 0 (ks.getD 0 (0,[])).1) (ks.getD 0 (0,[])).2
 else if k=11 then 71::32::wJ (g_ k 0 (ks.getD 0 (0,[])).1) (ks.getD 0 (0,[])).2
 else wJ (g_ k 0 (ks.getD 0 (0,[])).1) (ks.getD 0 (0,[])).2++[32]++Fd k++[32]++wJ (g_ k 1 (ks.getD 1 (0,[])).1) (ks.getD 1 (0,[])).2
mutual
def H1(nm:Int→ar):Ltl→ar
 |.mk k n kids=>vZ nm k n (H4 nm kids)
def H4(nm:Int→ar):List Ltl→List (Int×ar)
 |[]=>[]
 |x::r=>(x.k,H1 nm x)::H4 nm r
end
mutual
def gS(nm:Int→ar):Ltl→Bool
 |.mk k n kids=>(k==3&&nm n==[])||gT nm kids
def gT(nm:Int→ar):List Ltl→Bool
 |[]=>false
 |x::r=>gS nm x||gT nm r
end
def Ci(f:Ltl)(a:List ByteArray):ar×Int:=
 if(jw f 1 0).1≠0 then([],(jw f 1 0).1)else if gS (zl a) f=true then([],4)else(H1 (zl a) f,0)
theorem wK(b:Bool)(t:ar):(wJ b t).length≤t.length+2:=by
 unfold wJ;split<;>simp
theorem v_{nm:Int→ar}(hn:∀n,(nm n).length≤8)(k n:Int)(ks:List (Int×ar)):(vZ nm k n ks).length≤(ks.getD 0 (0,[])).2.length+(ks.getD 1 (0,[])).2.length+8:=by
 have a:=wK (g_ k 0 (ks.getD 0 (0,[])).1) (ks.getD 0 (0,[])).2;have h1:=wK (g_ k 1 (ks.getD 1 (0,[])).1) (ks.getD 1 (0,[])).2;have h2:=hn n;have h3:(Fd k).length≤1:=by unfold Fd;repeat (first|split|simp)
 unfold vZ Gi Gf
 iterate 7 (split;·(first|omega|(simp only[Lg,Lh,Lo];omega)))
 simp only[Lg,Lh,Lo];omega
mutual
theorem H3{nm:Int→ar}(hn:∀n,(nm n).length≤8):∀f:Ltl,(H1 nm f).length≤8*f.nodes
 |.mk k n kids=>by
  have h:=v_ hn k n (H4 nm kids);have h2:=H5 hn kids;simp only[H1,Ltl.nodes];have:((H4 nm kids).getD 0 (0,[])).2.length+((H4 nm kids).getD 1 (0,[])).2.length≤((H4 nm kids).map fun x=>x.2.length).sum:=by
   rcases H4 nm kids with _|⟨a,_|⟨b,r⟩⟩<;>simp<;>omega
  omega
theorem H5{nm:Int→ar}(hn:∀n,(nm n).length≤8):∀l:List Ltl,((H4 nm l).map fun x=>x.2.length).sum≤8*Ltl.nodesL l
 |[]=>by simp[H4,Ltl.nodesL]
 |x::r=>by
  have h1:=H3 hn x;have h2:=H5 hn r;simp only[H4,Ltl.nodesL,LB,Mc];omega
end
inductive PR where
 |er (c:Int) (a:Nat):PR
 |ok (f:Ltl) (st:ar×ar):PR
theorem wP{k:Int}{m:Nat}(h:wO k=(m:Int)):(m=0∧(k=1∨k=2∨k=3))∨(m=1∧(k=4∨k=7∨k=10∨k=11))∨(m=2∧(k=5∨k=6∨k=8∨k=9)):=by
 unfold wO at h
 split at h
 ·left;exact⟨by omega,by assumption⟩
 split at h
 ·right;left;exact⟨by omega,by assumption⟩
 split at h
 ·right;right;exact⟨by omega,by assumption⟩
 ·omega
def UT(t:ar):Prop:=t≠[85]∧t≠[82]∧t≠[87]
instance(t:ar):Decidable (UT t):=by unfold UT;infer_instance
section
variable {nms:List ByteArray}{t u:ar}{f g:Ltl}
end
section
variable {nms:List ByteArray}{t:ar}{f:Ltl}
end
section
variable {nms:List ByteArray}{N:Nat}{PF:Ltl→Prop}
end
instance rY:IsT Tryz.prog 36 Ltl:=IsT.of O1 Tryz.underlying36 rfl
instance rZ:IsS Tryz.prog 34 36:=⟨Tryz.underlying34⟩
instance r4:IsC Tryz.prog 36 3 true:=IsC.of O1 Tryz.underlying36 rfl
instance r5:IsC Tryz.prog 34 1 false:=IsC.of O1 Tryz.underlying34 rfl
instance r6:IsFd Tryz.prog 36 0 0:=IsFd.of O1
instance rU:IsFd Tryz.prog 36 1 1:=IsFd.of O1
instance rV:IsFd Tryz.prog 36 2 2:=IsFd.of O1
instance rX:IsZC Tryz.prog 36 [Pq 0,Pq 0,.slice none 0 0]:=IsZC.of (z:=.agg #[Pq 0,Pq 0,.slice none 0 0]) O1 rfl
def wM(k:Int):Int:=if k=1∨k=2∨k=3 then 0 else if k=4∨k=7∨k=8∨k=9∨k=11∨k=12∨k=13 then 1 else if k=5∨k=6∨k=10∨k=14 then 2 else -1
theorem kf(w:World)(k:Int):Rt Tryz.prog 179 [Pq k].toArray w fun v w'=>v=Pq (wM k)∧w=w':=by
 refine dD Tryz.func179 Tryz.ntmps179 rfl rfl ?_;unfold wM;refine Qc ?_;refine CW.cond rfl (fun h=>?_) (fun h=>?_)<;>simp at h
 ·subst h;refine QF ?_
  exact be rfl rfl ⟨rfl,rfl⟩
 refine Qm ?_;refine CW.cond rfl (fun h=>?_) (fun h=>?_)<;>simp at h
 ·subst h;refine QF ?_
  exact be rfl rfl ⟨rfl,rfl⟩
 refine Qj ?_;refine CW.cond rfl (fun h=>?_) (fun h=>?_)<;>simp at h
 ·subst h;refine Pt ?_
  exact be rfl rfl ⟨rfl,rfl⟩
 rw[OD O0];refine Qm ?_;refine CW.cond rfl (fun h=>?_) (fun h=>?_)<;>simp at h
 ·subst h;refine QF ?_
  exact be rfl rfl ⟨rfl,rfl⟩
 refine Qm ?_;refine CW.cond rfl (fun h=>?_) (fun h=>?_)<;>simp at h
 ·subst h;refine QF ?_
  exact be rfl rfl ⟨rfl,rfl⟩
 refine Qm ?_;refine CW.cond rfl (fun h=>?_) (fun h=>?_)<;>simp at h
 ·subst h;refine QF ?_
  exact be rfl rfl ⟨rfl,rfl⟩
 refine Qm ?_;refine CW.cond rfl (fun h=>?_) (fun h=>?_)<;>simp at h
 ·subst h;refine QF ?_
  exact be rfl rfl ⟨rfl,rfl⟩
 refine Qm ?_;refine CW.cond rfl (fun h=>?_) (fun h=>?_)<;>simp at h
 ·subst h;refine QF ?_
  exact be rfl rfl ⟨rfl,rfl⟩
 refine Qm ?_;refine CW.cond rfl (fun h=>?_) (fun h=>?_)<;>simp at h
 ·subst h;refine QF ?_
  exact be rfl rfl ⟨rfl,rfl⟩
 refine Qj ?_;refine CW.cond rfl (fun h=>?_) (fun h=>?_)<;>simp at h
 ·subst h;refine Pt ?_
  exact be rfl rfl ⟨rfl,rfl⟩
 rw[OD O0];refine Qm ?_;refine CW.cond rfl (fun h=>?_) (fun h=>?_)<;>simp at h
 ·subst h;refine QF ?_
  exact be rfl rfl ⟨rfl,rfl⟩
 refine Qm ?_;refine CW.cond rfl (fun h=>?_) (fun h=>?_)<;>simp at h
 ·subst h;refine QF ?_
  exact be rfl rfl ⟨rfl,rfl⟩
 refine Qm ?_;refine CW.cond rfl (fun h=>?_) (fun h=>?_)<;>simp at h
 ·subst h;refine QF ?_
  exact be rfl rfl ⟨rfl,rfl⟩
 refine Qj ?_;refine CW.cond rfl (fun h=>?_) (fun h=>?_)<;>simp at h
 ·subst h;refine Pt ?_
  exact be rfl rfl ⟨rfl,rfl⟩
 rw[OD O0];refine QQ ?_;exact be rfl rfl ⟨rfl,rfl⟩
mutual
def jm:Ltl→Int→Int→Int×Int
 |.mk k n kids,deep,c=>if c+1>60 then(2,c+1)else if deep>20 then(5,c+1)else if wM k≠kids.length∨n<0∨n>63∨(k≠3∧n≠0)then(1,c+1)else jn kids (deep+1) (c+1)
def jn:List Ltl→Int→Int→Int×Int
 |[],_,c=>(0,c)
 |x::r,deep,c=>if(jm x deep c).1≠0 then jm x deep c else jn r deep (jm x deep c).2
end
mutual
theorem jr:∀(t:Ltl) (deep c:Int),(jm t deep c).1=0→c<(jm t deep c).2∧(jm t deep c).2≤60
 |.mk k n kids,deep,c,h=>by
  simp only[jm]at h⊢
  split at h
  ·cases h
  ·rename_i h1
   rw[OD h1];split at h
   ·cases h
   ·rename_i h2
    rw[OD h2];split at h
    ·cases h
    ·rename_i h3
     rw[OD h3];have:=jo kids (deep+1) (c+1) O0 h;omega
theorem jo:∀(l:List Ltl) (deep c:Int),c≤60→(jn l deep c).1=0→c≤(jn l deep c).2∧(jn l deep c).2≤60
 |[],deep,c,a,h=>by simp only[jn];omega
 |x::r,deep,c,a,h=>by
  simp only[jn]at h⊢
  split at h
  ·rename_i h1;exact absurd h h1
  ·rename_i h1
   rw[OD h1];have h2:=jr x deep c (by simpa using h1);have h3:=jo r deep _ h2.2 h;omega
end
theorem jc:∀(m:Nat) (t:Ltl),t.nodes≤m→∀(w:World) (F:Nat→Prop) (deep c:Int) (bn:Nat) (ao:Option Addr) (cap:Nat),Sl w F ao cap t.kids→(∀b,F b→b<w.heap.size)→¬F bn→
  Blk w bn 3 [Pq c]→0≤c→c≤60→0≤deep→deep≤1000→
  Rt Tryz.prog 109 [ye t.k t.n ao t.kids.length cap,Pq deep,Pr bn].toArray w fun v w'=>v=Pq (jm t deep c).1∧Blk w' bn 3 [Pq (jm t deep c).2]∧w.grownBy w' (some bn)
 |0,t,Z=>by have:=t.nodes_pos;omega
 |m+1,.mk k n kids,Z=>by
  intro w F deep c bn ao cap Y hF hn f hc0 hc1 hd0 hd1
  simp only[Ltl.kids,Ltl.k,Ltl.n]at*
  refine dF Tryz.func109 Tryz.ntmps109 rfl rfl ?_;have hlen:=Y.len63;have hbn:=f.lt;refine Pu ?_;refine dX rfl rfl rfl fun w1 hf N=>?_
  have V:=f.ext N;have R:=N.grw (some bn);refine Qg ?_;refine WL.st rfl rfl rfl V rfl rfl Pk (fun w2 A D=>?_);have G:=hf.kept D O6;have p:=rJ R D;simp only[jm];refine Qz ?_;refine CW.cond rfl (fun h=>?_) (fun h=>?_)<;>simp only[Ow,Ou,Oz]at h
  ·refine Pt ?_
   refine be rfl rfl ?_;rw[OE h];exact⟨rfl,A,p⟩
  rw[OD O0];refine Qm ?_;refine CW.cond rfl (fun h1=>?_) (fun h1=>?_)<;>simp only[Ow,Ou,Oz]at h1
  ·refine Pt ?_
   refine be rfl rfl ?_;rw[OE h1];exact⟨rfl,A,p⟩
  rw[OD O0];refine aA [(1,Pq deep),(2,Pr bn),(3,Pr w.heap.size),(23,.bool (decide (wM k≠kids.length∨n<0∨n>63∨(k≠3∧n≠0))))] ?_ ?_
  ·refine Q9 ?_
   refine QL.call rfl rfl rfl (fun w' h=>Rt.mono (kf w' k) (fun v w'' X=>⟨X.1,X.2▸Ext.refl _⟩)) ?_;refine Rp ?_;refine QL.nil fun w3 a=>?_
   have T:=G.ext a;refine Pv ?_;refine CW.cond rfl (fun h2=>?_) (fun h2=>?_)<;>simp at h2
   ·refine Pw ?_
    refine aT ⟨rfl,rfl,rfl,?_,trivial⟩ a;refine Oq (fun b=>some (Value.bool b)) ?_;have:(wM k != (kids.length:Int))=true:=by simpa using h2
    rw[this,Ov (.inl h2)]
   ·refine QX ?_
    (refine eV rfl rfl (fun h=>?_) (fun h=>?_))<;>simp at h
    ·refine Px ?_
     refine aT ⟨rfl,rfl,rfl,?_,trivial⟩ a;refine Oq (fun b=>some (Value.bool b)) ?_;rw[Ov (.inr (.inl h))]
    ·refine QG ?_
     refine CW.cond rfl (fun h3=>?_) (fun h3=>?_)<;>simp at h3
     ·refine Pw ?_
      refine aT ⟨rfl,rfl,rfl,?_,trivial⟩ a;refine Oq (fun b=>some (Value.bool b)) ?_;rw[Ov h3,Ov (.inr (.inr (.inl h3)))]
     ·refine QX ?_
      (refine eV rfl rfl (fun h=>?_) (fun h=>?_))<;>simp at h
      ·refine QG ?_
       refine aT ⟨rfl,rfl,rfl,?_,trivial⟩ a;refine Oq (fun b=>some (Value.bool b)) ?_
       (rw[JI];simp;try omega)
      ·refine Py ?_
       refine aT ⟨rfl,rfl,rfl,?_,trivial⟩ a;refine Oq (fun b=>some (Value.bool b)) ?_
       (rw[JI];simp;try omega)
  intro w3 a
  have K:=A.ext a;have T:=G.ext a;have E:=rJ p (a.grw (some bn));refine CW.cond rfl (fun h2=>?_) (fun h2=>?_)<;>simp only[Ow,Ou]at h2
  ·rw[OE h2]
   refine Pt ?_;exact be rfl rfl ⟨rfl,K,E⟩
  rw[OD h2];refine QK ?_;refine CW.loop (S:=Nat×Int) (fun x=>[(1,Pq deep),(2,Pr bn),(48,.slice ao kids.length cap),(49,Pq (kids.length:Int)),(50,Pq (x.1:Int))])
   (fun x w'=>w.grownBy w' (some bn)∧Blk w' bn 3 [Pq x.2]∧0≤x.2∧x.2≤60∧x.1≤kids.length∧jn kids (deep+1) (c+1)=jn (kids.drop x.1) (deep+1) x.2) (fun x=>kids.length -x.1) (0,c+1) OZ ⟨E,K,by simp only;omega,by simp only;omega,by omega,rfl⟩ ?_
  rintro⟨i,ci⟩ O ⟨d,z,l,I,hi,H⟩
  simp only at z l I hi H
  rw[H];refine Qm ?_;refine CW.cond rfl (fun h3=>?_) (fun h3=>?_)<;>simp at h3
  ·have P:Sl O F ao cap kids:=Y.mono (fun b f=>d.block b (hF b f) (by intro e;cases e;exact hn f)) fun _ h=>h
   have L:∀b,F b→b<O.heap.size:=fun b f=>MK (hF b f) d.size
   refine Q6 ?_;refine eC rfl rfl rfl rfl rfl P h3 O_ (fun u q hu=>?_);have s:kids.drop i=kids[i]::kids.drop (i+1):=Ks h3;have o:(kids[i]).nodes≤m:=by
    have:=Ltl.nodes_kid kids _ (K8 h3);simp only[Ltl.nodes]at Z;omega
   rw[s];simp only[jn];generalize kids[i]=x at*
   obtain⟨ao',cap',rfl,hx⟩:=hu.ltl;have hw4:w.heap.size≤O.heap.size:=d.size;refine WL.alloc rfl rfl (fun w5 U M=>?_);refine WL.st rfl rfl rfl U rfl rfl Pk (fun W hb6 C=>?_);have j:Ext O W:=M.grown C M.size Pb;have J:=z.ext j;have Q:=rJ d (j.grw (some bn));refine P_ ?_;refine WL.call rfl rfl rfl (jc m x o W F (deep+1) ci bn ao' cap' (hx.mono (fun b f=>j.block b (L b f)) fun _ h=>h) (fun b f=>MK (L b f) j.size) hn J l I O0 O0) ?_;rintro v w7 ⟨rfl,y,g⟩
   have g:=rJ Q g;have B:=jr x (deep+1) ci;generalize jm x (deep+1) ci=r at*
   obtain⟨e,c'⟩:=r;simp only at B y
   refine Qm ?_;refine CW.cond rfl (fun h4=>?_) (fun h4=>?_)<;>simp at h4
   ·refine Pt ?_
    refine be rfl rfl ?_;rw[OE h4];exact⟨rfl,y,g⟩
   ·have:=B h4
    refine Pz ?_;refine EX.back (i+1,c') OZ ⟨g,y,by simp only;omega,by simp only;omega,by simp only;omega,?_⟩ (by simp only;omega);simp only;rw[OD (by simp[h4])]
  ·refine P3 ?_
   refine be rfl rfl ?_;rw[Kt O0];exact⟨rfl,z,d⟩
theorem kX(w:World){F:Nat→Prop}{t:Ltl}{ao:Option Addr}{cap:Nat}(o:Sl w F ao cap t.kids)(hF:∀b,F b→b<w.heap.size):
  Rt Tryz.prog 50 [ye t.k t.n ao t.kids.length cap].toArray w fun v w'=>v=Pq (jm t 1 0).1∧Ext w w':=by
 refine dD Tryz.func50 Tryz.ntmps50 rfl rfl ?_;refine Pu ?_;refine dX rfl rfl rfl fun m hf c=>?_
 refine Qm ?_;refine WL.alloc rfl rfl (fun u d i=>?_);have p:=d.lt;refine WL.st rfl rfl rfl d rfl rfl Pk (fun l d f=>?_);have e:=c.trans i;have a:Ext w l:=e.grown f e.size (fun g k=>by cases k;exact c.size);have q:=(hf.ext i).kept f (by have:=hf.lt;simp;omega);have n:w.heap.size≤m.heap.size:=c.size;refine PA ?_;refine WL.call rfl rfl rfl (jc t.nodes t Pm l F 1 0 m.heap.size ao cap (o.mono (fun b d=>a.block b (hF b d)) fun _ h=>h) (fun b d=>MK (hF b d) a.size) (fun h=>by have:=hF _ h;omega) d O0 O0 O0 O0) ?_;rintro v s ⟨rfl,r,j⟩
 refine PB ?_;exact be rfl rfl ⟨rfl,a.grown j a.size (fun g k=>by cases k;exact c.size)⟩
def gZ(k i kid:Int):Bool:=if kid=5 then k==6||(k==5&&i==0)else if kid=6 then k==6&&i==0 else true
def Fa(k:Int):ar:=if k=4 then [33]else if k=7 then [69,88,32]else if k=8 then [69,70,32]else if k=9 then [69,71,32]else if k=11 then [65,88,32]else if k=12 then [65,70,32]else if k=13 then [65,71,32]else []
def vX(nm:Int→ar)(k n:Int)(ks:List (Int×ar)):ar:=
 if k=1 then Gi else if k=2 then Gf else if k=3 then nm n
 else if k=5 then wJ (gZ k 0 (ks.getD 0 (0,[])).1) (ks.getD 0 (0,[])).2++[32,38,32]++wJ (gZ k 1 (ks.getD 1 (0,[])).1) (ks.getD 1 (0,[])).2
 else if k=6 then wJ (gZ k 0 (ks.getD 0 (0,[])).1) (ks.getD 0 (0,[])).2++[32,47,32]++wJ (gZ k 1 (ks.getD 1 (0,[])).1) (ks.getD 1 (0,[])).2
 else if k=10 then [69,32,91]++(ks.getD 0 (0,[])).2++[32,85,32]++(ks.getD 1 (0,[])).2++[93]
 else if k=14 then [65,32,91]++(ks.getD 0 (0,[])).2++[32,85,32]++(ks.getD 1 (0,[])).2++[93]
 else Fa k++wJ (gZ k 0 (ks.getD 0 (0,[])).1) (ks.getD 0 (0,[])).2
mutual
def HW(nm:Int→ar):Ltl→ar
 |.mk k n kids=>vX nm k n (HZ nm kids)
def HZ(nm:Int→ar):List Ltl→List (Int×ar)
 |[]=>[]
 |x::r=>(x.k,HW nm x)::HZ nm r
end
def Ch(f:Ltl)(nms:List ByteArray):ar×Int:=
 if(jm f 1 0).1≠0 then([],(jm f 1 0).1)else if gS (zl nms) f=true then([],4)else(HW (zl nms) f,0)
theorem vY{nm:Int→ar}(hn:∀n,(nm n).length≤8)(k n:Int)(ks:List (Int×ar)):(vX nm k n ks).length≤(ks.getD 0 (0,[])).2.length+(ks.getD 1 (0,[])).2.length+8:=by
 have a:=wK (gZ k 0 (ks.getD 0 (0,[])).1) (ks.getD 0 (0,[])).2;have h1:=wK (gZ k 1 (ks.getD 1 (0,[])).1) (ks.getD 1 (0,[])).2;have h2:=hn n;have h3:(Fa k).length≤3:=by unfold Fa;repeat (first|split|simp)
 unfold vX Gi Gf
 iterate 7 (split;·(first|omega|(simp only[Lg,Lh,Lo];omega)))
 simp only[Lg,Lh,Lo];omega
mutual
theorem HX{nm:Int→ar}(hn:∀n,(nm n).length≤8):∀f:Ltl,(HW nm f).length≤8*f.nodes
 |.mk k n kids=>by
  have h:=vY hn k n (HZ nm kids);have h2:=H0 hn kids;simp only[HW,Ltl.nodes];have:((HZ nm kids).getD 0 (0,[])).2.length+((HZ nm kids).getD 1 (0,[])).2.length≤((HZ nm kids).map fun x=>x.2.length).sum:=by
   rcases HZ nm kids with _|⟨a,_|⟨b,r⟩⟩<;>simp<;>omega
  omega
theorem H0{nm:Int→ar}(hn:∀n,(nm n).length≤8):∀l:List Ltl,((HZ nm l).map fun x=>x.2.length).sum≤8*Ltl.nodesL l
 |[]=>by simp[HZ,Ltl.nodesL]
 |x::r=>by
  have h1:=HX hn x;have h2:=H0 hn r;simp only[HZ,Ltl.nodesL,LB,Mc];omega
end
theorem wN{k:Int}{m:Nat}(h:wM k=(m:Int)):(m=0∧(k=1∨k=2∨k=3))∨(m=1∧(k=4∨k=7∨k=8∨k=9∨k=11∨k=12∨k=13))∨(m=2∧(k=5∨k=6∨k=10∨k=14)):=by
 unfold wM at h
 split at h
 ·left;exact⟨by omega,by assumption⟩
 split at h
 ·right;left;exact⟨by omega,by assumption⟩
 split at h
 ·right;right;exact⟨by omega,by assumption⟩
 ·omega
section
variable {nms:List ByteArray}{t u:ar}{f g:Ltl}
def ea(a:Bool):UInt8:=if a=true then 65 else 69
end
section
variable {nms:List ByteArray}{t:ar}{f:Ltl}
end
def xl(s l:List Nat)(i:Nat):Nat:=if i<s.length then s.getD i 0 else l.getD ((i -s.length) % l.length) 0
abbrev Bz(pt:cH):Value:=.agg [.int .i64 pt.1,.int .i64 pt.2.1,.int .i64 pt.2.2.1,.int .i64 pt.2.2.2.1,.int .i64 pt.2.2.2.2.1,.int .i64 pt.2.2.2.2.2.1,.int .i64 pt.2.2.2.2.2.2].toArray
def Dn(n:Int)(a:Bool):Bool:=decide (0≤n∧n≤63)&&(a||decide (n=0))
def jK(pt:cH):Int:=
 if pt.1<1∨pt.1>6∨pt.2.1<1∨pt.2.1>5 then 1
 else if(Dn pt.2.2.1 true&&Dn pt.2.2.2.1 (decide (pt.1=5∨pt.1=6))&&Dn pt.2.2.2.2.1 (decide (pt.2.1=3∨pt.2.1=4∨pt.2.1=5))&&Dn pt.2.2.2.2.2.1 (decide (pt.2.1=2∨pt.2.1=4∨pt.2.1=5)))=false then 1
 else if pt.2.2.2.2.2.2<0∨pt.2.2.2.2.2.2>3∨(pt.1≠4∧pt.2.2.2.2.2.2≠0)then 1 else 0
theorem Do(w:World)(n:Int)(a:Bool):Rt Tryz.prog 103 [Pq n,.bool a].toArray w fun v w'=>v=.bool (Dn n a)∧w=w':=by
 refine dE Tryz.func103 Tryz.ntmps103 rfl rfl ?_;refine Qm ?_
 (refine eV rfl rfl (fun h=>?_) (fun h=>?_))
 ·simp at h
  refine Ra ?_
  (refine eV rfl rfl (fun h=>?_) (fun h=>?_))
  ·simp at h
   refine Ra ?_
   (refine eV rfl rfl (fun h=>?_) (fun h=>?_))
   ·subst h
    refine PC ?_;refine be rfl rfl ⟨?_,rfl⟩;simp[Dn];omega
   ·subst h
    refine PB ?_;refine be rfl rfl ⟨?_,rfl⟩;have:(decide (0≤n)&&decide (n≤63))=true:=by simp;omega
    simp[Dn,this];by_cases hn:n=0<;>simp[hn]
  ·simp at h
   refine PC ?_;refine be rfl rfl ⟨?_,rfl⟩;simp[Dn];intro _ h3;omega
 ·simp at h
  refine PC ?_;refine be rfl rfl ⟨?_,rfl⟩;simp[Dn];intro h3;omega
theorem mB(w:World)(pt:cH):Rt Tryz.prog 41 [Bz pt].toArray w fun v w'=>v=Pq (jK pt)∧Ext w w':=by
 refine dD Tryz.func41 Tryz.ntmps41 rfl rfl ?_;obtain⟨k,sc,p,s,q,r,c⟩:=pt;refine Pu ?_;refine dX rfl rfl rfl fun f j a=>?_
 apply fm;rfl;rfl;rfl;apply WL.nil;apply bz;refine az [(1,Pr w.heap.size),(3,.bool (decide (k=5∨k=6)))] ?_ ?_
 ·refine QX ?_
  (refine eV rfl rfl (fun h=>?_) (fun h=>?_))<;>simp at h
  ·refine Py ?_
   refine aS ⟨rfl,?_,trivial⟩;refine Oq (fun b=>some (Value.bool b)) ?_
   (rw[JI];simp;try omega)
  ·refine QG ?_
   refine aS ⟨rfl,?_,trivial⟩;refine Oq (fun b=>some (Value.bool b)) ?_
   (rw[JI];simp;try omega)
 refine az [(1,Pr w.heap.size),(3,.bool (decide (k=5∨k=6))),(4,.bool (decide (sc=3∨sc=4∨sc=5)))] ?_ ?_
 ·refine QX ?_
  (refine eV rfl rfl (fun h=>?_) (fun h=>?_))<;>simp at h
  ·refine Py ?_
   refine aS ⟨rfl,rfl,?_,trivial⟩;refine Oq (fun b=>some (Value.bool b)) ?_
   (rw[JI];simp;try omega)
  ·refine Rl ?_
   (refine eV rfl rfl (fun h=>?_) (fun h=>?_))<;>simp at h
   ·refine Py ?_
    refine aS ⟨rfl,rfl,?_,trivial⟩;refine Oq (fun b=>some (Value.bool b)) ?_
    (rw[JI];simp;try omega)
   ·refine QG ?_
    refine aS ⟨rfl,rfl,?_,trivial⟩;refine Oq (fun b=>some (Value.bool b)) ?_
    (rw[JI];simp;try omega)
 refine az [(1,Pr w.heap.size),(3,.bool (decide (k=5∨k=6))),(4,.bool (decide (sc=3∨sc=4∨sc=5))),(5,.bool (decide (sc=2∨sc=4∨sc=5)))] ?_ ?_
 ·refine QX ?_
  (refine eV rfl rfl (fun h=>?_) (fun h=>?_))<;>simp at h
  ·refine Py ?_
   refine aS ⟨rfl,rfl,rfl,?_,trivial⟩;refine Oq (fun b=>some (Value.bool b)) ?_
   (rw[JI];simp;try omega)
  ·refine Rl ?_
   (refine eV rfl rfl (fun h=>?_) (fun h=>?_))<;>simp at h
   ·refine Py ?_
    refine aS ⟨rfl,rfl,rfl,?_,trivial⟩;refine Oq (fun b=>some (Value.bool b)) ?_
    (rw[JI];simp;try omega)
   ·refine QG ?_
    refine aS ⟨rfl,rfl,rfl,?_,trivial⟩;refine Oq (fun b=>some (Value.bool b)) ?_
    (rw[JI];simp;try omega)
 generalize hS:decide (k=5∨k=6)=bs;generalize hQ:decide (sc=3∨sc=4∨sc=5)=bq;generalize hR:decide (sc=2∨sc=4∨sc=5)=br;have i:jK (k,sc,p,s,q,r,c)=if k<1∨k>6∨sc<1∨sc>5 then 1 else if(Dn p true&&Dn s bs&&Dn q bq&&Dn r br)=false then 1 else if c<0∨c>3∨(k≠4∧c≠0)then 1 else 0:=by
  simp only[jK,hS,hQ,hR]
 rw[i];clear i hS hQ hR;refine QS ?_
 (refine eV rfl rfl (fun h=>?_) (fun h=>?_))<;>simp at h
 ·refine PD ?_
  refine be rfl rfl ⟨?_,a⟩;rw[OE O0]
 ·refine Rl ?_
  (refine eV rfl rfl (fun h=>?_) (fun h=>?_))<;>simp at h
  ·refine PD ?_
   refine be rfl rfl ⟨?_,a⟩;rw[OE O0]
  ·refine Rl ?_
   (refine eV rfl rfl (fun h=>?_) (fun h=>?_))<;>simp at h
   ·refine PD ?_
    refine be rfl rfl ⟨?_,a⟩;rw[OE O0]
   ·refine QG ?_
    (refine CW.cond rfl (fun h=>?_) (fun h=>?_))<;>simp at h
    ·refine Pt ?_
     refine be rfl rfl ⟨?_,a⟩;rw[OE O0]
    ·refine QX ?_
     have d:¬(k<1∨k>6∨sc<1∨sc>5):=by omega
     refine WL.call rfl rfl rfl (Do f p true) ?_;rintro v g ⟨rfl,rfl⟩
     refine Ra ?_
     (refine eV rfl rfl (fun h=>?_) (fun h=>?_))<;>simp at h
     ·refine PD ?_
      refine be rfl rfl ⟨?_,a⟩;rw[OD d,OE (by simp[*])]
     ·refine Rl ?_
      refine WL.call rfl rfl rfl (Do f s bs) ?_;rintro v g ⟨rfl,rfl⟩
      refine Ra ?_
      (refine eV rfl rfl (fun h=>?_) (fun h=>?_))<;>simp at h
      ·refine PD ?_
       refine be rfl rfl ⟨?_,a⟩;rw[OD d,OE (by simp[*])]
      ·refine Rl ?_
       refine WL.call rfl rfl rfl (Do f q bq) ?_;rintro v g ⟨rfl,rfl⟩
       refine Ra ?_
       (refine eV rfl rfl (fun h=>?_) (fun h=>?_))<;>simp at h
       ·refine PD ?_
        refine be rfl rfl ⟨?_,a⟩;rw[OD d,OE (by simp[*])]
       ·refine Rl ?_
        refine WL.call rfl rfl rfl (Do f r br) ?_;rintro v g ⟨rfl,rfl⟩
        refine PE ?_
        (refine CW.cond rfl (fun h=>?_) (fun h=>?_))<;>simp at h
        ·refine Pt ?_
         refine be rfl rfl ⟨?_,a⟩;rw[OD d,OE (by simp[*])]
        ·refine QX ?_
         have e:¬((Dn p true&&Dn s bs&&Dn q bq&&Dn r br)=false):=by simp[*]
         (refine eV rfl rfl (fun h=>?_) (fun h=>?_))<;>simp at h
         ·refine PD ?_
          refine be rfl rfl ⟨?_,a⟩;rw[OD d,OD e,OE O0]
         ·refine Rl ?_
          (refine eV rfl rfl (fun h=>?_) (fun h=>?_))<;>simp at h
          ·refine PD ?_
           refine be rfl rfl ⟨?_,a⟩;rw[OD d,OD e,OE O0]
          ·refine Rl ?_
           (refine eV rfl rfl (fun h=>?_) (fun h=>?_))<;>simp at h
           ·refine QG ?_
            (refine CW.cond rfl (fun h=>?_) (fun h=>?_))<;>simp at h
            ·refine Pt ?_
             refine be rfl rfl ⟨?_,a⟩;rw[OD d,OD e,OE O0]
            ·refine QQ ?_
             refine be rfl rfl ⟨?_,a⟩;rw[OD d,OD e,OD O0]
           ·refine Qa ?_
            refine be rfl rfl ⟨?_,a⟩;rw[OD d,OD e,OD O0]
abbrev cM:=Int×Int×Int×Int
abbrev G4(t:cM):Value:=.agg [.int .i64 t.1,.int .i64 t.2.1,.int .i64 t.2.2.1,.int .i64 t.2.2.2].toArray
def kO(k:Int):Bool:=decide (1≤k∧k≤3)
def jS(t:cM):Int:=
 if t.1<1∨t.1>14∨t.2.1<0∨t.2.1≥63∨t.2.2.1<0∨t.2.2.1≥63∨((kO t.1||decide (t.1=4))=true∧t.2.2.1≠0)then 1
 else if(kO t.1=true∧(t.2.2.2<1∨t.2.2.2>3))∨(kO t.1=false∧t.2.2.2≠0)then 1 else 0
theorem kP(w:World)(k:Int):Rt Tryz.prog 104 [Pq k].toArray w fun v w'=>v=.bool (kO k)∧w=w':=by
 refine dD Tryz.func104 Tryz.ntmps104 rfl rfl ?_;refine Qm ?_
 (refine eV rfl rfl (fun h=>?_) (fun h=>?_))<;>simp at h
 ·refine PB ?_
  refine be rfl rfl ⟨Oq Value.bool ?_,rfl⟩;unfold kO
  (rw[JI];simp;try omega)
 ·refine PC ?_
  refine be rfl rfl ⟨Oq Value.bool ?_,rfl⟩;unfold kO
  (rw[JI];simp;try omega)
theorem lS(w:World)(t:cM):Rt Tryz.prog 43 [G4 t].toArray w fun v w'=>v=Pq (jS t)∧Ext w w':=by
 refine dD Tryz.func43 Tryz.ntmps43 rfl rfl ?_;obtain⟨k,A,B,c⟩:=t;refine Pu ?_;refine dX rfl rfl rfl fun e i a=>?_
 apply fm;rfl;rfl;rfl;apply WL.nil;apply bz;refine az [(1,Pr w.heap.size),(3,.bool (kO k||decide (k=4)))] ?_ ?_
 ·refine QB ?_
  refine WL.call rfl rfl rfl (kP e k) ?_;rintro v f ⟨rfl,rfl⟩
  refine Ra ?_
  (refine eV rfl rfl (fun h=>?_) (fun h=>?_))
  ·refine Py ?_
   refine aS ⟨rfl,?_,trivial⟩;refine Oq (fun b=>some (Value.bool b)) ?_;rw[h];rfl
  ·refine QG ?_
   refine aS ⟨rfl,?_,trivial⟩;refine Oq (fun b=>some (Value.bool b)) ?_;rw[h]
   (rw[JI];simp;try omega)
 have g:jS (k,A,B,c)=if k<1∨k>14∨A<0∨A≥63∨B<0∨B≥63∨((kO k||decide (k=4))=true∧B≠0)then 1 else if(kO k=true∧(c<1∨c>3))∨(kO k=false∧c≠0)then 1 else 0:=rfl
 rw[g];clear g;generalize (kO k||decide (k=4))=al;apply CW.seq;apply CW.block;refine az [(1,Pr w.heap.size),(12,.bool (decide (k<1∨k>14∨A<0∨A≥63∨B<0∨B≥63∨(al=true∧B≠0))))] ?_ ?_
 ·refine QX ?_
  (refine eV rfl rfl (fun h=>?_) (fun h=>?_))<;>simp at h
  ·refine Py ?_
   refine aS ⟨rfl,?_,trivial⟩;refine Oq (fun b=>some (Value.bool b)) ?_;simp;omega
  refine Rl ?_
  (refine eV rfl rfl (fun h=>?_) (fun h=>?_))<;>simp at h
  ·refine Py ?_
   refine aS ⟨rfl,?_,trivial⟩;refine Oq (fun b=>some (Value.bool b)) ?_;simp;omega
  refine Rl ?_
  (refine eV rfl rfl (fun h=>?_) (fun h=>?_))<;>simp at h
  ·refine Py ?_
   refine aS ⟨rfl,?_,trivial⟩;refine Oq (fun b=>some (Value.bool b)) ?_;simp;omega
  refine Rl ?_
  (refine eV rfl rfl (fun h=>?_) (fun h=>?_))<;>simp at h
  ·refine Py ?_
   refine aS ⟨rfl,?_,trivial⟩;refine Oq (fun b=>some (Value.bool b)) ?_;simp;omega
  refine Rl ?_
  (refine eV rfl rfl (fun h=>?_) (fun h=>?_))<;>simp at h
  ·refine Py ?_
   refine aS ⟨rfl,?_,trivial⟩;refine Oq (fun b=>some (Value.bool b)) ?_;simp;omega
  refine Rl ?_
  (refine eV rfl rfl (fun h=>?_) (fun h=>?_))<;>simp at h
  ·refine Py ?_
   refine aS ⟨rfl,?_,trivial⟩;refine Oq (fun b=>some (Value.bool b)) ?_;simp;omega
  refine Ra ?_
  (refine eV rfl rfl (fun h=>?_) (fun h=>?_))
  ·subst h
   refine QG ?_;refine aS ⟨rfl,?_,trivial⟩;refine Oq (fun b=>some (Value.bool b)) ?_
   (rw[JI];simp;try omega)
  ·subst h
   refine Py ?_;refine aS ⟨rfl,?_,trivial⟩;refine Oq (fun b=>some (Value.bool b)) ?_;simp;omega
 apply CW.cond rfl<;>intro h1
 ·rw[Ow]at h1
  refine Pt ?_;refine be rfl rfl ⟨?_,a⟩;rw[OE h1]
 ·rw[Ou]at h1
  rw[OD h1];refine QX ?_;refine WL.call rfl rfl rfl (kP e k) ?_;rintro v f ⟨rfl,rfl⟩
  refine Ra ?_
  (refine eV rfl rfl (fun h=>?_) (fun h=>?_))
  ·have d:=h
   refine Rl ?_
   (refine eV rfl rfl (fun h=>?_) (fun h=>?_))<;>simp at h
   ·refine PD ?_
    refine be rfl rfl ⟨?_,a⟩;rw[OE (.inl ⟨d,.inl h⟩)]
   ·refine Rl ?_
    (refine eV rfl rfl (fun h=>?_) (fun h=>?_))<;>simp at h
    ·refine PD ?_
     refine be rfl rfl ⟨?_,a⟩;rw[OE (.inl ⟨d,.inr h⟩)]
    ·refine Rl ?_
     refine WL.call rfl rfl rfl (kP e k) ?_;rintro v f ⟨rfl,rfl⟩
     rw[d];refine Qa ?_;refine be rfl rfl ⟨?_,a⟩;rw[OD];simp;omega
  ·have d:=h
   refine Rk ?_;refine WL.call rfl rfl rfl (kP e k) ?_;rintro v f ⟨rfl,rfl⟩
   rw[d];refine QG ?_;refine CW.cond rfl (fun h2=>?_) (fun h2=>?_)<;>simp at h2
   ·refine Pt ?_
    refine be rfl rfl ⟨?_,a⟩;rw[OE (.inr ⟨rfl,h2⟩)]
   ·refine QQ ?_
    refine be rfl rfl ⟨?_,a⟩;rw[OD];simp;exact h2
abbrev cJ:=ByteArray×Int×cH×cM×Ltl×Ltl
def Dt(a:List ByteArray)(n:Int)(silent:Bool):ar:=
 if n=63∧silent=true then Gh else if n<0∨n≥(a.length:Int)∨n≥63∨yR (a.getD n.toNat ⟨#[]⟩)=false∨u4 a (a.getD n.toNat ⟨#[]⟩).data.toList≠n then []
 else(a.getD n.toNat ⟨#[]⟩).data.toList
def A_(pt:cH):List Int:=if pt.1=5∨pt.1=6 then [pt.2.2.2.1,pt.2.2.1]else [pt.2.2.1]
def Es(pt:cH):List Int:=if pt.2.1=2 then [pt.2.2.2.2.2.1]else if pt.2.1=3 then [pt.2.2.2.2.1]else if pt.2.1=4∨pt.2.1=5 then [pt.2.2.2.2.1,pt.2.2.2.2.2.1]else []
def ga(k:Int):Bool:=decide (k≤4)
def gJ(r:cJ):List Int:=if r.2.1=1 then A_ r.2.2.1++Es r.2.2.1 else if r.2.1=2 then(if ga r.2.2.2.1.1=true then [r.2.2.2.1.2.1]else [r.2.2.2.1.2.1,r.2.2.2.1.2.2.1])else []
def Br(r:cJ)(a:List ByteArray):Int:=
 if r.2.1=1 then jK r.2.2.1 else if r.2.1=2 then jS r.2.2.2.1 else if r.2.1=3 then(Ci r.2.2.2.2.1 a).2 else if r.2.1=4 then(Ch r.2.2.2.2.2 a).2 else 0
def Bq(r:cJ)(a:List ByteArray):Int:=
 if Br r a=0∧(gJ r).any (fun n=>Dt a n (decide (r.2.1=1))==[])=true then 4 else Br r a
def BA:cH:=(0,0,0,0,0,0,0)
def G5:cM:=(0,0,0,0)
def oQ(t:Ltl):Bool:=t.k != 0||t.n != 0||decide (0<t.kids.length)
def AY(r:cJ):Bool:=(r.2.1 != 1&&r.2.2.1 != BA)||(r.2.1 != 2&&r.2.2.2.1 != G5)||(r.2.1 != 3&&oQ r.2.2.2.2.1)||(r.2.1 != 4&&oQ r.2.2.2.2.2)
def jQ(r:cJ)(a:List ByteArray):Int:=
 if yR r.1=false∨r.2.1<1∨r.2.1>4 then 1 else if Bq r a≠0 then Bq r a else if AY r=true then 1 else 0

mutual
def IB:Ltl→Prop
 |.mk k n kids=>wO k=kids.length∧0≤n∧n≤63∧(k≠3→n=0)∧IC kids
def IC:List Ltl→Prop
 |[]=>True
 |x::r=>IB x∧IC r
end
mutual
theorem jD:∀(t:Ltl) (deep c:Int),(jw t deep c).1=0→IB t
 |.mk k n kids,deep,c,h=>by
  simp only[jw]at h
  split at h
  ·cases h
  ·split at h
   ·cases h
   ·split at h
    ·cases h
    ·rename_i h3
     simp only[IB];have:=jA kids _ _ h;refine⟨by omega,by omega,by omega,by omega,this⟩
theorem jA:∀(l:List Ltl) (deep c:Int),(jx l deep c).1=0→IC l
 |[],_,_,_=>trivial
 |x::r,deep,c,h=>by
  simp only[jx]at h
  split at h
  ·rename_i h1;exact absurd h h1
  ·rename_i h1
   exact⟨jD x deep c (by simpa using h1),jA r _ _ h⟩
end
theorem ID:∀(kids:List Ltl) (i:Nat) (h:i<kids.length),IC kids→IB kids[i]
 |x::r,0,h,a=>a.1
 |x::r,i+1,h,a=>ID r i (by simpa using h) a.2
def Til(A B:Nat→Prop)(i:Nat):Prop:=∃j,i≤j∧B j∧∀m,i≤m→m<j→A m
theorem Til.step{A B:Nat→Prop}{i:Nat}:Til A B i↔B i∨(A i∧Til A B (i+1)):=by
 constructor
 ·rintro⟨j,f,c,d⟩
  by_cases h:i=j
  ·subst h;exact .inl c
  ·exact .inr ⟨d i Pm O0,j,by omega,c,fun m h1 h2=>d m O0 h2⟩
 ·rintro(c|⟨d,j,f,c,e⟩)
  ·exact⟨i,MF _,c,fun m h1 h2=>by omega⟩
  ·refine⟨j,by omega,c,fun m h1 h2=>?_⟩
   by_cases h:m=i
   ·subst h;exact d
   ·exact e m O0 h2
def EL(L:Nat→Nat)(k n:Int)(ks:List (Nat→Prop))(i:Nat):Prop:=
 if k=1 then True
 else if k=3 then L i >>> n.toNat&&&1=1
 else if k=4 then¬ks.getD 0 (fun _=>False) i
 else if k=5 then ks.getD 0 (fun _=>False) i∧ks.getD 1 (fun _=>False) i
 else if k=6 then ks.getD 0 (fun _=>False) i∨ks.getD 1 (fun _=>False) i
 else if k=7 then ks.getD 0 (fun _=>False) (i+1)
 else if k=8 then Til (ks.getD 0 (fun _=>False)) (ks.getD 1 (fun _=>False)) i
 else if k=9 then¬Til (fun j=>¬ks.getD 0 (fun _=>False) j) (fun j=>¬ks.getD 1 (fun _=>False) j) i
 else if k=10 then Til (fun _=>True) (ks.getD 0 (fun _=>False)) i
 else if k=11 then¬Til (fun _=>True) (fun j=>¬ks.getD 0 (fun _=>False) j) i
 else False
mutual
def Ez(L:Nat→Nat):Ltl→Nat→Prop
 |.mk k n kids=>EL L k n (EM L kids)
def EM(L:Nat→Nat):List Ltl→List (Nat→Prop)
 |[]=>[]
 |x::r=>Ez L x::EM L r
end
theorem Til.shift{A B A' B':Nat→Prop}{i c:Nat}(n:∀j,A (i+j)↔A' (c+j))(k:∀j,B (i+j)↔B' (c+j)):Til A B i↔Til A' B' c:=by
 constructor
 ·rintro⟨j,h,h1,h2⟩
  obtain⟨d,rfl⟩:=Mz h;refine⟨c+d,by omega,(k d).1 h1,fun m g f=>?_⟩;obtain⟨e,rfl⟩:=Mz g;exact(n e).1 (h2 (i+e) O0 O0)
 ·rintro⟨j,h,h1,h2⟩
  obtain⟨d,rfl⟩:=Mz h;refine⟨i+d,by omega,(k d).2 h1,fun m g f=>?_⟩;obtain⟨e,rfl⟩:=Mz g;exact(n e).2 (h2 (c+e) O0 O0)
section
variable {s l:List Nat}{a b:List Bool}{A B:Nat→Prop}{N:Nat}
end
theorem notB{xs:List Bool}{N i:Nat}(c:xs.length=N)(hi:i<N):((xs.map (!·)).getD i false=true↔¬xs.getD i false=true):=by
 rw[KN,KN,KW,KT O0];simp
theorem IF{M:Ltl→Prop}(h1:M (.mk 1 0 []))(h2:M (.mk 2 0 []))(h3:∀n,0≤n→n≤63→M (.mk 3 n []))
  (p:∀k a,k=4∨k=7∨k=10∨k=11→IB a→M a→M (.mk k 0 [a]))
  (q:∀k a b,k=5∨k=6∨k=8∨k=9→IB a→IB b→M a→M b→M (.mk k 0 [a,b])):∀t,IB t→M t:=by
 have key:∀m (t:Ltl),t.nodes≤m→IB t→M t:=by
  intro m
  induction m with
  |zero=>intro t h;have:=t.nodes_pos;omega
  |succ m j=>
   rintro⟨k,n,kids⟩ h g
   simp only[IB]at g
   simp only[Ltl.nodes]at h
   obtain⟨e,o,l,d,c⟩:=g;unfold wO at e
   split at e
   ·rename_i f
    have:kids=[]:=Kx O0;subst this;rcases f with rfl|rfl|rfl
    ·rw[d O2];exact h1
    ·rw[d O2];exact h2
    ·exact h3 n o l
   ·split at e
    ·rename_i f
     rw[d O0]
     match kids,e with
     |[a],_=>
      simp only[Ltl.nodesL,IC]at h c
      exact p k a f c.1 (j a O0 c.1)
    ·split at e
     ·rename_i f
      rw[d O0]
      match kids,e with
      |[a,b],_=>
       simp only[Ltl.nodesL,IC]at h c
       have:=a.nodes_pos;have:=b.nodes_pos;exact q k a b f c.1 c.2.1 (j a O0 c.1) (j b O0 c.2.1)
     ·omega
 exact fun t g=>key t.nodes t Pm g
mutual
def Ltl.deep:Ltl→Nat
 |.mk _ _ kids=>1+Ltl.deepL kids
def Ltl.deepL:List Ltl→Nat
 |[]=>0
 |x::r=>max x.deep (Ltl.deepL r)
end
mutual
theorem j0:∀(t:Ltl) (d c:Int),(jw t d c).1=0→(jw t d c).2=c+t.nodes∧d+t.deep≤21
 |.mk k n kids,d,c,h=>by
  simp only[jw]at h⊢
  split at h
  ·cases h
  ·rename_i h1
   rw[OD h1];split at h
   ·cases h
   ·rename_i h2
    rw[OD h2];split at h
    ·cases h
    ·rename_i h3
     rw[OD h3];have:=j8 kids (d+1) (c+1) O0 h;simp only[Ltl.nodes,Ltl.deep];omega
theorem j8:∀(l:List Ltl) (d c:Int),d≤21→(jx l d c).1=0→(jx l d c).2=c+Ltl.nodesL l∧d+Ltl.deepL l≤21
 |[],d,c,hd,h=>by simp only[jx,Ltl.nodesL,Ltl.deepL];omega
 |x::r,d,c,hd,h=>by
  simp only[jx]at h⊢
  split at h
  ·rename_i h1;exact absurd h h1
  ·rename_i h1
   rw[OD h1];have h2:=j0 x d c (by simpa using h1);have h3:=j8 r d _ hd h;simp only[Ltl.nodesL,Ltl.deepL];omega
end
mutual
theorem jY:∀(t:Ltl) (d c:Int),IB t→c+t.nodes≤60→d+t.deep≤21→(jw t d c).1=0
 |.mk k n kids,d,c,e,h1,h2=>by
  simp only[IB]at e
  simp only[Ltl.nodes,Ltl.deep]at h1 h2
  simp only[jw];have h3:¬(wO k≠kids.length∨n<0∨n>63∨(k≠3∧n≠0)):=by
   intro h
   rcases h with h|h|h|h
   ·exact h e.1
   ·omega
   ·omega
   ·exact h.2 (e.2.2.2.1 h.1)
  rw[OD O0,OD O0,OD h3];exact j7 kids _ _ e.2.2.2.2 O0 O0
theorem j7:∀(l:List Ltl) (d c:Int),IC l→c+Ltl.nodesL l≤60→d+Ltl.deepL l≤21→(jx l d c).1=0
 |[],d,c,_,_,_=>by simp only[jx]
 |x::r,d,c,e,h1,h2=>by
  simp only[IC]at e
  simp only[Ltl.nodesL,Ltl.deepL]at h1 h2
  have h3:=jY x d c e.1 O0 O0;have h4:=j0 x d c h3;simp only[jx];rw[OD (by simp[h3]),h4.1];exact j7 r d _ e.2 O0 O0
end
theorem jW(t:Ltl):(jw t 1 0).1=0↔IB t∧t.nodes≤60∧t.deep≤20:=by
 constructor
 ·intro h
  have h1:=j0 t 1 0 h;have h2:=jB t 1 0 h;exact⟨jD t 1 0 h,by omega,by omega⟩
 ·rintro⟨h1,h2,h3⟩
  exact jY t 1 0 h1 O0 O0
mutual
def El:Ltl→Ltl→Bool
 |.mk k n l,.mk k' c d=>k==k'&&n==c&&Ep l d
def Ep:List Ltl→List Ltl→Bool
 |[],[]=>true
 |x::r,y::q=>El x y&&Ep r q
 |[],_::_=>false
 |_::_,[]=>false
end
mutual
theorem En:∀(a b:Ltl),El a b=true↔a=b
 |.mk k n l,.mk k' d c=>by
  simp only[El,JG,Oj,Er l c,Ltl.mk.injEq];exact Of
theorem Er:∀(a b:List Ltl),Ep a b=true↔a=b
 |[],[]=>by simp[Ep]
 |x::r,y::q=>by simp only[Ep,JG,En x y,Er r q,Kf]
 |[],_::_=>by simp[Ep]
 |_::_,[]=>by simp[Ep]
end
theorem Eo(a:Ltl):El a a=true:=(En a a).2 rfl
section
variable {L:Nat→Nat}{n:Int}{a b:Ltl}{i:Nat}
theorem EB:Ez L (.mk 1 n []) i↔True:=by simp[Ez,EM,EL]
theorem EE:Ez L (.mk 2 n []) i↔False:=by simp[Ez,EM,EL]
theorem EF:Ez L (.mk 3 n []) i↔L i >>> n.toNat&&&1=1:=by simp[Ez,EM,EL]
theorem EG:Ez L (.mk 4 n [a]) i↔¬Ez L a i:=by simp[Ez,EM,EL]
theorem EH:Ez L (.mk 5 n [a,b]) i↔Ez L a i∧Ez L b i:=by simp[Ez,EM,EL]
theorem EI:Ez L (.mk 6 n [a,b]) i↔Ez L a i∨Ez L b i:=by simp[Ez,EM,EL]
theorem EJ:Ez L (.mk 7 n [a]) i↔Ez L a (i+1):=by simp[Ez,EM,EL]
theorem sem8:Ez L (.mk 8 n [a,b]) i↔Til (Ez L a) (Ez L b) i:=by simp[Ez,EM,EL]
theorem EK:Ez L (.mk 9 n [a,b]) i↔¬Til (fun j=>¬Ez L a j) (fun j=>¬Ez L b j) i:=by simp[Ez,EM,EL]
theorem EC:Ez L (.mk 10 n [a]) i↔Til (fun _=>True) (Ez L a) i:=by simp[Ez,EM,EL]
theorem ED:Ez L (.mk 11 n [a]) i↔¬Til (fun _=>True) (fun j=>¬Ez L a j) i:=by simp[Ez,EM,EL]
end
theorem Til.congr{A B A' B':Nat→Prop}(d:∀j,A j↔A' j)(c:∀j,B j↔B' j)(i:Nat):Til A B i↔Til A' B' i:=
 Til.shift (fun _=>d _) (fun _=>c _)
mutual
def BT:Ltl→Ltl
 |.mk k n kids=>if k=10 then .mk 8 0 [.mk 1 0 [],(BU kids).getD 0 (.mk 0 0 [])]else if k=11 then .mk 9 0 [.mk 2 0 [],(BU kids).getD 0 (.mk 0 0 [])]else .mk k n (BU kids)
def BU:List Ltl→List Ltl
 |[]=>[]
 |x::r=>BT x::BU r
end
theorem BV:∀l,BU l=l.map BT
 |[]=>rfl
 |x::r=>by simp[BU,BV r]
mutual
def rN:Ltl→Int→Bool
 |.mk k _ kids,q=>k==q||rP kids q
def rP:List Ltl→Int→Bool
 |[],_=>false
 |x::r,q=>rN x q||rP r q
end
theorem BW:∀t,IB t→rN (BT t) 10=false∧rN (BT t) 11=false:=by
 refine IF ?_ ?_ ?_ ?_ ?_
 ·constructor<;>simp[BT,BU,rN,rP]
 ·constructor<;>simp[BT,BU,rN,rP]
 ·intro n _ _
  constructor<;>simp[BT,BU,rN,rP]
 ·rintro k a (rfl|rfl|rfl|rfl) _ ⟨h1,h2⟩<;>constructor<;>simp[BT,BU,rN,rP,h1,h2]
 ·rintro k a b (rfl|rfl|rfl|rfl) _ _ ⟨h1,h2⟩ ⟨h3,h4⟩<;>constructor<;>simp[BT,BU,rN,rP,h1,h2,h3,h4]
theorem BY{L:Nat→Nat}:∀t,IB t→∀i,Ez L (BT t) i↔Ez L t i:=by
 refine IF ?_ ?_ ?_ ?_ ?_
 ·intro i;simp[BT,BU]
 ·intro i;simp[BT,BU]
 ·intro n _ _ i;simp[BT,BU]
 ·rintro k a (rfl|rfl|rfl|rfl) _ h i
  ·simp[BT,BU,EG,h]
  ·simp[BT,BU,EJ,h]
  ·simp[BT,BU,sem8,EC];exact Til.congr (fun _=>by simp[EB]) h i
  ·simp[BT,BU,EK,ED];exact OH (Til.congr (fun _=>by simp[EE]) (fun j=>OH (h j)) i)
 ·rintro k a b (rfl|rfl|rfl|rfl) _ _ h1 h2 i
  ·simp[BT,BU,EH,h1,h2]
  ·simp[BT,BU,EI,h1,h2]
  ·simp[BT,BU,sem8];exact Til.congr h1 h2 i
  ·simp[BT,BU,EK];exact OH (Til.congr (fun j=>OH (h1 j)) (fun j=>OH (h2 j)) i)
section
variable {L:Nat→Nat}
end
theorem Dd{fn:Func}{a:Nat}{t:TypeId}(h:fn.results=#[.cell a t])(tmps:Array Value)(P:Program)(w:World){p:Addr}{v:Value}(b:tmps.getD a undef=.pointer (some p))(c:(loadVar t p).run P w=.ok v w):
  (results fn tmps).run P w=.ok v w:=by
 simp only[Jn]at b
 simp[results,h,b,asAddr,c]
theorem bg{P:Program}{n:Nat}{σ:Sg}{w:World}{fn:Func}{a b:Nat}{t e:TypeId}{cells:List Value}{k:Nat}{R:Value→World→Prop}(p:fn.results=#[.cell a t])(s:fnd σ a=some (Pr b))[q:IsC P t k true](r:Blk w b e cells)(m:xz cells=k)(h:R (.agg cells.toArray) w):
  EX (bodyPost P fn fun e w'=>∃v,e=.returned v∧R v w') .ret n σ w:=by
 unfold EX;intro ac l
 refine On (Dd p _ _ _ (l.slot a _ s) (v:=.agg cells.toArray) ?_) l.defers ⟨_,rfl,h⟩;rw[xA]at m
 have c:=OM (P:=P) w ⟨b,0,none⟩ cells (fun j u o=>by rw[Od,M8];exact r.cell o);obtain⟨i,dd,h1,h2,h3,h4⟩:=q.ok;have f:(isAgg t).run P w=.ok true w:=by
  unfold isAgg;rw[Nr,OP h3 w,←h4];cases dd<;>rfl
 rw[m]at c
 simp[loadVar,f,sizeOf,typeInfo,h1,h2,c]
theorem De{fn:Func}{a u:Nat}{t:TypeId}(h:fn.results=#[.cell a t,.tmp u])(tmps:Array Value)(P:Program)(w:World){p:Addr}{v:Value}(b:tmps.getD a undef=.pointer (some p))(c:(loadVar t p).run P w=.ok v w):
  (results fn tmps).run P w=.ok (.tuple ⟨[v,tmps.getD u undef]⟩) w:=by
 simp only[Jn]at b⊢
 simp[results,h,b,asAddr,c]
theorem bh{P:Program}{n:Nat}{σ:Sg}{w:World}{fn:Func}{a b u:Nat}{t e:TypeId}{cells:List Value}{k:Nat}{x:Value}{R:Value→World→Prop}(p:fn.results=#[.cell a t,.tmp u])(s:fnd σ a=some (Pr b))(m:fnd σ u=some x)[q:IsC P t k true](r:Blk w b e cells)(o:xz cells=k)(h:R (.tuple ⟨[.agg cells.toArray,x]⟩) w):
  EX (bodyPost P fn fun e w'=>∃v,e=.returned v∧R v w') .ret n σ w:=by
 unfold EX;intro ac c
 refine On (De p _ _ _ (c.slot a _ s) (v:=.agg cells.toArray) ?_) c.defers ⟨_,by rw[c.slot u x m],h⟩;rw[xA]at o
 have f:=OM (P:=P) w ⟨b,0,none⟩ cells (fun j u m=>by rw[Od,M8];exact r.cell m);obtain⟨i,dd,h1,h2,h3,h4⟩:=q.ok;have l:(isAgg t).run P w=.ok true w:=by
  unfold isAgg;rw[Nr,OP h3 w,←h4];cases dd<;>rfl
 rw[o]at f
 simp[loadVar,l,sizeOf,typeInfo,h1,h2,f]
theorem Sl.zero{α:Type}[Rep α](w:World)(F:Nat→Prop):Sl w F none 0 ([]:List α):=⟨by simp,by simp[maxLen],fun _=>rfl,fun i hi=>absurd hi O3⟩
theorem Sl.up0{α:Type}[Rep α]{w w':World}{F:Nat→Prop}{ao:Option Addr}{cap:Nat}{xs:List α}(h:Sl w F ao cap xs)(c:Ext w w')(hF:∀b,F b→b<w.heap.size):Sl w' F ao cap xs:=h.mono (fun b a=>c.block b (hF b a)) fun _ h=>h
section
variable {P:Program}{Q:Exit→Act→World→Prop}{n:Nat}{σ:Sg}{w:World}{L rest:List Oper}{d:Nat}{ty:TypeId}{pos:String}{af:Array Edge}{g:Option (Nat×Bool)}{t e:TypeId}{α:Type}[Rep α]{F:Nat→Prop}
end
def RL(w:World)(v:Value)(t:Ltl):Prop:=Rd w (c7 w) v t
theorem RL.ext{w w':World}{v:Value}{t:Ltl}(h:RL w v t)(c:Ext w w'):RL w' v t:=Rd.mono h (fun b a=>c.block b a) (fun b a=>MK a c.size)
def da(F:Nat→Prop)(w w':World):Nat→Prop:=fun b=>F b∨(w.heap.size≤b∧b<w'.heap.size)
def gX(ops:Array Oper)(r:List (Nat×Bool)):Nat→List Nat→Array Bool→Bool
 |0,J,a=>J.isEmpty&&AP ops r a
 |k+1,J,a=>(Region.ready .any ops a).all (fun i=>J.contains i)&&!(Region.ready .any ops a).isEmpty&&
   (Region.ready .any ops a).all fun i=>gX ops r k (J.erase i) (a.setIfInBounds i true)
def AQ(ops:Array Oper)(J:List Nat)(r:List (Nat×Bool)):List (Nat×Bool)→Array Bool→Bool
 |[],a=>gX ops r J.length J a
 |(i,true)::s,a=>(Region.ready .any ops a).contains i&&Region.free .any ops a i&&AQ ops J r s (a.setIfInBounds i true)
 |(i,false)::s,a=>decide (Region.ready .any ops a=[i])&&AQ ops J r s (a.setIfInBounds i true)
def gY(l:List Oper)(s:List (Nat×Bool))(J:List Nat)(r:List (Nat×Bool)):Bool:=
 Region.noSelect l.toArray&&decide (s.length+J.length+r.length=l.length)&&AQ l.toArray J r s (Array.replicate l.length false)
def cY:Exit→Act→World→Prop:=fun _ _ _=>False
def I4(P:Program)(ops:List Oper)(S:World→Prop)(K:Act→World→Prop):Nat→List Nat→Act→World→Prop
 |0,_,a,w=>K a w
 |k+1,J,a,w=>∀i∈J,∃o,ops[i]?=some o∧Region.wanted o (yielded ops.toArray a.tmps)=true∧o.wp P a w (fun b w'=>S w'∧I4 P ops S K k (J.erase i) b w') cY
theorem Je{P:Program}{o:Oper}{a:Act}{w:World}{K:Act→World→Prop}{Q Q':Exit→Act→World→Prop}(hq:∀e a w,e≠.normal→Q e a w→Q' e a w)(h:o.wp P a w K Q):o.wp P a w K Q':=by
 unfold Oper.wp at*
 generalize (execOp a.eval o).run P w=r at*
 cases r with
 |ok k w'=>
  cases k<;>simp only[Oper.upon]at h⊢<;>first
   |exact h
   |(refine JV h (fun e w'' b=>?_);cases e<;>first|exact b|exact hq _ _ _ O3 b|(obtain⟨a1,c,d⟩:=b;exact⟨a1,c,hq _ _ _ O3 d⟩))
 |halt x w'=>cases x<;>simp only[Oper.upon]at h⊢<;>first|exact h|exact hq _ _ _ O3 h
theorem I6{P:Program}{ops:List Oper}{S:World→Prop}{Q:Act→World→Prop}(p:Region.noSelect ops.toArray=true)(r:List (Nat×Bool)):
  ∀(k:Nat) (J:List Nat) (b:Array Bool) (a:Act) (w:World),gX ops.toArray r k J b=true→S w→I4 P ops S (I7 P ops S Q r) k J a w→wpAnyH P .any ops.toArray (fun e a w=>e=.normal∧Q a w) S (r.length+k) b a w
 |0,J,b,a,w,d,hS,h=>by
  simp only[gX,JG]at d
  exact I9 p r _ _ _ d.2 hS h
 |k+1,J,b,a,w,d,hS,h=>by
  simp only[gX,JG,J9,JN,List.isEmpty_eq_false_iff]at d
  obtain⟨⟨l,j⟩,c⟩:=d;refine OS rfl j ?_;intro i hi
  obtain⟨o,s,q,f⟩:=h i (by simpa using l i hi);unfold wpOp;have g:ops.toArray[i]?=some o:=by simpa using s
  simp only[g,q,OF];refine .inl (Nb (fun t w' m=>⟨m.1,I6 p r k (J.erase i) _ _ _ (c i hi) m.1 m.2⟩) (Je (fun e a w _ hf=>hf.elim) f))
theorem I8{P:Program}{ops:List Oper}{S:World→Prop}{Q:Act→World→Prop}(d:Region.noSelect ops.toArray=true)(J:List Nat)(r:List (Nat×Bool)):
  ∀(s:List (Nat×Bool)) (b:Array Bool) (a:Act) (w:World),AQ ops.toArray J r s b=true→S w→I7 P ops S (fun a w=>S w∧I4 P ops S (I7 P ops S Q r) J.length J a w) s a w→wpAnyH P .any ops.toArray (fun e a w=>e=.normal∧Q a w) S (r.length+J.length+s.length) b a w
 |[],b,a,w,c,hS,h=>I6 d r _ _ _ _ _ c hS h.2
 |(i,true)::s,b,a,w,c,hS,⟨o,v,k,q,h⟩=>by
  simp only[AQ,JG]at c
  exact wpAnyH_take (by simpa using k) d c.1.2 c.1.1 (fun _ _ _ h=>by cases h.1) q hS (I8 d J r s _ _ _ c.2 hS h)
 |(i,false)::s,b,a,w,c,hS,⟨o,k,h⟩=>by
  simp only[AQ,JG,Ow]at c
  refine OS c.1 O3 ?_;intro j t
  have m:j=i:=by simpa using t
  subst m;have g:ops.toArray[j]?=some o:=by simpa using k
  unfold wpOp;simp only[g];split
  ·rename_i f
   rw[OE f]at h
   exact .inl (Nb (fun u w' p=>⟨p.1,I8 d J r s _ _ _ c.2 p.1 p.2⟩) (Je (fun e a w l hf=>absurd hf.1 l) h))
  ·rename_i f
   rw[OD f]at h
   exact⟨h.1,I8 d J r s _ _ _ c.2 h.1 h.2⟩
structure BE where
 i:Nat
 d:Nat
 Φ:Value→(Nat→Prop)→World→Prop
def am(P:Program)(ops:List Oper)(S:World→Prop)(Q:Exit→Act→World→Prop)(J:List Nat)(r:List (Nat×Bool)):Exit→Act→World→Prop:=
 fun e a w=>e=.normal∧(S w∧I4 P ops S (I7 P ops S (fun a w=>Q .normal a w) r) J.length J a w)
def ad(S:World→Prop)(w:World)(e:BE):Exit→Act→World→Prop:=
 fun x a w'=>x=.normal∧a.defers=[]∧S w'∧Ext w w'∧∃N,e.Φ (a.tmps.getD e.d undef) N w'∧∀b,N b→w.heap.size≤b∧b<w'.heap.size
def BC(P:Program)(L:List Oper)(S:World→Prop)(n:Nat)(σ:Sg)(e:BE):Prop:=
 (∃o,zU L e.i=some o∧o.dst=some e.d∧gd L σ o=some true∧∀w,S w→WL P L (ad S w e) [o] n σ w)∧Nat.ble (e.d+1) n=true∧fnd σ e.d=none∧∀v N w w',e.Φ v N w→Ext w w'→e.Φ v N w'
theorem aR{S:World→Prop}{w w':World}{e:BE}{n:Nat}{σ:Sg}{v:Value}(N:Nat→Prop)(d:fnd σ e.d=some v)(hS:S w')(g:Ext w w')(hΦ:e.Φ v N w')(f:∀b,N b→w.heap.size≤b∧b<w'.heap.size):EX (ad S w e) .normal n σ w':=by
 unfold EX;intro a c
 exact⟨rfl,c.defers,hS,g,by rw[c.slot _ _ d];exact⟨N,hΦ,f⟩⟩
theorem hY{P:Program}{L:List Oper}{S:World→Prop}{n:Nat}{σ:Sg}{e:BE}(h:BC P L S n σ e){a:Act}{w:World}(l:Fr n σ a)(hS:S w):
  ∃o,L[e.i]?=some o∧Region.wanted o (yielded L.toArray a.tmps)=true∧o.wp P a w (fun t w'=>S w'∧Ext w w'∧∃v N,t=a.put (some e.d) v∧e.Φ v N w'∧∀b,N b→w.heap.size≤b∧b<w'.heap.size) cY:=by
 obtain⟨⟨o,m,hd,s,p⟩,hn,hf,_⟩:=h;rw[zV]at m
 have f:=qD l s;refine⟨o,m,f,?_⟩;have h1:=p w hS;unfold WL at h1
 have h2:=h1 a l;simp only[wpList,f,OF]at h2
 have j:e.d<n:=MA hn;have c:∀v,(a.put (some e.d) v).tmps.getD e.d undef=v:=by
  intro v
  simp[Act.put,Array.getD,l.size,j]
 rcases h2 with h2|⟨_,q⟩
 ·unfold Oper.wp at*
  obtain⟨dst,op,ty,pos,af,g⟩:=o;simp only at hd
  subst hd;generalize (execOp a.eval _).run P w=r at*
  cases r with
  |ok k w'=>
   cases k<;>simp only[Oper.upon]at h2⊢<;>first
    |exact⟨h2.2.2.1,h2.2.2.2.1,by have:=h2.2.2.2.2;rw[c]at this;obtain⟨N,h3,h4⟩:=this;exact⟨_,N,rfl,h3,h4⟩⟩
    |(exfalso;have:=h2.2.1;simp[Act.put]at this;done)
    |(refine JV h2 (fun x w'' d=>?_)
      cases x
      ·exact⟨d.2.2.1,d.2.2.2.1,by have:=d.2.2.2.2;rw[c]at this;obtain⟨N,h3,h4⟩:=this;exact⟨_,N,rfl,h3,h4⟩⟩
      ·exact absurd d.1 O3
      ·obtain⟨_,_,i⟩:=d;exact absurd i.1 O3)
    |exact Rows.mono h2 (fun v w'' d=>⟨d.2.2.1,d.2.2.2.1,by have:=d.2.2.2.2;rw[c]at this;obtain⟨N,h3,h4⟩:=this;exact⟨_,N,rfl,h3,h4⟩⟩)
    |exact h2
  |halt x w'=>cases x<;>simp only[Oper.upon]at h2⊢<;>first|exact h2|exact absurd h2.1 O3
 ·obtain⟨_,_,i⟩:=q
  exact absurd i.1 O3
def BagK(w':World)(G:Sg→Prop):List (Nat→Prop)→List BE→Sg→Prop
 |_,[],σ=>G σ
 |D,e::r,σ=>∀v N,e.Φ v N w'→(∀p∈D,∀b,p b→N b→False)→BagK w' G (N::D) r ((e.d,v)::σ)
theorem BagK.get{w':World}{G:Sg→Prop}{n:Nat}{a:Act}(NN:Nat→Nat→Prop):∀(E:List BE) {D:List (Nat→Prop)} {σ:Sg},BagK w' G D E σ→Fr n σ a→(∀e∈E,e.d<n∧e.Φ (a.tmps.getD e.d undef) (NN e.i) w')→
  (∀e∈E,∀p∈D,∀b,p b→NN e.i b→False)→(E.map (·.i)).Nodup→(∀e∈E,∀f∈E,e.i≠f.i→∀b,NN e.i b→NN f.i b→False)→∃τ,Fr n τ a∧G τ
 |[],D,σ,h,i,_,_,_,_=>⟨σ,i,h⟩
 |e::r,D,σ,h,i,o,q,d,hP=>by
  have v:=o e O3;rw[LB,LZ]at d
  refine BagK.get NN r (h _ _ v.2 (q e O3)) ?_ (fun x c=>o x (by simp[c])) ?_ d.2 (fun x c y s=>hP x (by simp[c]) y (by simp[s]))
  rotate_left
  ·intro x c p k b m g
   rcases LI.1 k with rfl|k
   ·exact hP e O3 x (by simp[c]) (fun hi=>d.1 (by rw[hi];exact LQ c)) b m g
   ·exact q x (by simp[c]) p k b m g
  refine⟨i.size,i.defers,fun t u j=>?_⟩;by_cases l:e.d=t
  ·subst l;rw[pT]at j;cases j;rfl
  ·rw[pU l]at j;exact i.slot _ _ j
def lW:List Nat→Bool
 |[]=>true
 |x::r=>!r.contains x&&lW r
theorem lX:∀{l:List Nat},lW l=true→l.Nodup
 |[],_=>List.nodup_nil
 |x::r,h=>by
  simp only[lW,JG,JN]at h
  rw[LZ];exact⟨by simpa using h.1,lX h.2⟩
def Ih(NN:Nat→Nat→Prop)(i:Nat)(N:Nat→Prop):Nat→Nat→Prop:=fun j=>if j=i then N else NN j
theorem Ii{NN:Nat→Nat→Prop}{i:Nat}{N:Nat→Prop}:Ih NN i N i=N:=OE rfl
theorem Ij{NN:Nat→Nat→Prop}{i:Nat}{N:Nat→Prop}{j:Nat}(h:j≠i):Ih NN i N j=NN j:=OD h
theorem zP{β γ:Type}{f:β→γ}:∀{l:List β},(l.map f).Nodup→∀x∈l,∀y∈l,f x=f y→x=y
 |[],_,x,a,_,_,_=>by simp at a
 |z::r,h,x,a,y,b,e=>by
  rw[LB,LZ]at h
  rcases LI.1 a with h1|h1
  ·rcases LI.1 b with h2|h2
   ·rw[h1,h2]
   ·exact absurd (show f z∈r.map f by rw[←h1,e];exact LQ h2) h.1
  ·rcases LI.1 b with h2|h2
   ·exact absurd (show f z∈r.map f by rw[←h2,←e];exact LQ h1) h.1
   ·exact zP h.2 x h1 y h2 e
theorem I5{P:Program}{L:List Oper}{S:World→Prop}{n:Nat}{σ:Sg}{E:List BE}(T:∀e∈E,BC P L S n σ e)(hd:(E.map (·.d)).Nodup)(hi:(E.map (·.i)).Nodup){w0:World}{K:Act→World→Prop}
  (hK:∀a w (NN:Nat→Nat→Prop),Fr n σ a→S w→Ext w0 w→(∀e∈E,e.Φ (a.tmps.getD e.d undef) (NN e.i) w)→(∀e∈E,∀f∈E,e.i≠f.i→∀b,NN e.i b→NN f.i b→False)→K a w):
  ∀(k:Nat) (J:List Nat) (a:Act) (w:World) (NN:Nat→Nat→Prop),J.length=k→J.Nodup→(∀i∈J,i∈E.map (·.i))→Fr n σ a→S w→Ext w0 w→(∀e∈E,e.i∉J→e.Φ (a.tmps.getD e.d undef) (NN e.i) w∧∀b,NN e.i b→b<w.heap.size)→
   (∀e∈E,∀f∈E,e.i∉J→f.i∉J→e.i≠f.i→∀b,NN e.i b→NN f.i b→False)→I4 P L S K k J a w
 |0,J,a,w,NN,H,_,_,A,hS,hE,R,hP=>hK a w NN A hS hE (fun e p=>(R e p (by rw[Kx H];simp)).1) (fun e p f hf=>hP e p f hf (by rw[Kx H];simp) (by rw[Kx H];simp))
 |k+1,J,a,w,NN,H,W,q,A,hS,hE,R,hP=>by
  intro i I
  obtain⟨e,p,rfl⟩:=LP.1 (q i I);obtain⟨o,ho,hw,U⟩:=hY (T e p) A hS;refine⟨o,ho,hw,Nb (fun a' w' h'=>?_) U⟩;obtain⟨O,B,v,N,rfl,hΦ,Z⟩:=h';have hn:e.d<n:=MA (T e p).2.1;have hf:=(T e p).2.2.1;have M:(a.put (some e.d) v).tmps.getD e.d undef=v:=by simp[Act.put,Array.getD,A.size,hn]
  have r:∀t,t≠e.d→(a.put (some e.d) v).tmps.getD t undef=a.tmps.getD t undef:=by
   intro t ht
   simp only[Act.put,Jn];rw[Jv (Na ht)]
  have nne:Ih NN e.i N e.i=N:=Ii;have nno:∀j,j≠e.i→Ih NN e.i N j=NN j:=fun j X=>Ij X
  refine⟨O,I5 T hd hi hK k (J.erase e.i) _ _ (Ih NN e.i N) (by rw[Ll I,H];rfl) (W.erase _) (fun j X=>q j (List.mem_of_mem_erase X)) ?_ O (hE.trans B) ?_ ?_⟩
  ·refine⟨by simpa[Act.put]using A.size,by simpa[Act.put]using A.defers,fun t u V=>?_⟩
   have:t≠e.d:=fun h=>by rw[h,hf]at V;cases V
   rw[r t this];exact A.slot t u V
  ·intro x z s
   by_cases c:x.d=e.d
   ·have F:x=e:=zP hd x z e p c
    subst F;rw[M,nne];exact⟨hΦ,fun b Y=>(Z b Y).2⟩
   ·rw[r _ c]
    have G:x.i≠e.i:=fun hh=>c (by rw[zP hi x z e p hh])
    have h0:=R x z (fun d=>s ((LL G).2 d));rw[nno _ G];exact⟨(T x z).2.2.2 _ _ _ _ h0.1 B,fun b Y=>MK (h0.2 b Y) B.size⟩
  ·intro x z y hy s C D b m l
   by_cases c:x.i=e.i
   ·rw[c,nne]at m
    have g:y.i≠e.i:=fun h=>D (by rw[c,h])
    rw[nno _ g]at l
    have h1:=(R y hy (fun h=>C ((LL g).2 h))).2 b l;have h2:=(Z b m).1;omega
   ·rw[nno _ c]at m
    have d:x.i∉J:=fun h=>s ((LL c).2 h)
    by_cases g:y.i=e.i
    ·rw[g,nne]at l
     have h1:=(R x z d).2 b m;have h2:=(Z b l).1;omega
    ·rw[nno _ g]at l
     exact hP x z y hy d (fun h=>C ((LL g).2 h)) D b m l
section
variable {P:Program}{Q:Exit→Act→World→Prop}{n:Nat}{σ:Sg}{w:World}{L:List Oper}{S:World→Prop}
theorem aD{id:Nat}(S:World→Prop)(s:List (Nat×Bool))(J:List Nat)(r:List (Nat×Bool))(f:P.follows .mixedOrders=true)(b:gY L s J r=true)(hS:S (drew w))(h:HL P L S (am P L S Q J r) s n σ (drew w)):CW P (.region id L.toArray true) Q n σ w:=by
 unfold CW;unfold HL at h;intro a i
 simp only[gY,JG,Ow]at b
 obtain⟨⟨d,k⟩,b⟩:=b;have j:=h a i;have c:I7 P L S (fun a w=>S w∧I4 P L S (I7 P L S (fun a w=>Q .normal a w) r) J.length J a w) s a (Go.Proofs.YtodmkmobdmcfbaaGreatDoor.drew w):=by
  have:(fun a w=>am P L S Q J r .normal a w)=(fun a w=>S w∧I4 P L S (I7 P L S (fun a w=>Q .normal a w) r) J.length J a w):=by funext a w;simp[am]
  rw[←this];exact j
 have h1:=I8 d J r s (Array.replicate L.length false) a (Go.Proofs.YtodmkmobdmcfbaaGreatDoor.drew w) b hS c;rw[show r.length+J.length+s.length=L.length by omega]at h1
 have h2:=wp_region_held (id:=id) (S:=S) f (w:=w) (ops:=L.toArray) (by simpa using h1);exact OX h2 (fun e l w' ⟨g,hq⟩=>by subst g;exact hq)
theorem aQ{J:List Nat}{r:List (Nat×Bool)}(E:List BE)(o:E.map (·.i)=J)(b:lW (E.map (·.i))=true)(d:lW (E.map (·.d))=true)(hS:S w)(k:∀e∈E,BC P L S n σ e)
  (m:∀w',S w'→Ext w w'→BagK w' (fun τ=>HL P L S Q r n τ w') [] E σ):EX (am P L S Q J r) .normal n σ w:=by
 unfold EX;intro a g
 subst o;refine⟨rfl,hS,?_⟩;refine I5 k (lX d) (lX b) (w0:=w) (fun a w' NN g h q hΦ hP=>?_) _ _ a w (fun _ _=>False) rfl (lX b) (fun i hi=>hi) g hS Po (fun e c hn=>absurd (LQ c) hn) (fun e c f hf hn=>absurd (LQ c) hn);obtain⟨τ,hτ,j⟩:=BagK.get NN E (m w' h q) g (fun e c=>⟨MA (k e c).2.1,hΦ e c⟩) (fun _ _ p l=>by simp at l) (lX b) hP;unfold HL at j
 exact j a hτ
end
def IX(P:Program)(ops:Array Oper)(Q:Exit→Act→World→Prop)(S:World→Prop)(e:Nat):Nat→Array Bool→Act→World→Prop
 |0,c,a,w=>Region.ready .any ops c=[]∧Q .normal a w
 |k+1,c,a,w=>(Region.ready .any ops c=[]→Q .normal a w)∧∀i∈Region.ready .any ops c,wpOp P ops Q i (fun f w'=>(i≠e→S w')∧IX P ops Q S e k (c.setIfInBounds i true) f w') a w
theorem I2{P:Program}{ops:Array Oper}{Q:Exit→Act→World→Prop}{S:World→Prop}{e:Nat}:∀(k:Nat) (c:Array Bool) (a:Act) (w:World),IX P ops Q S e k c a w→wpAny P .any ops Q k c a w
 |0,_,_,_,h=>h
 |k+1,_,_,_,h=>⟨h.1,fun i hi=>OU (fun l w' f=>I2 k _ l w' f.2) (h.2 i hi)⟩
def It(ops:Array Oper)(e i:Nat):Bool:=match ops[e]? with
 |some o=>o.after.toList.any fun ed=>Region.binds .any ed&&(ed.on==i)
 |none=>false
theorem Iu{ops:Array Oper}{e i:Nat}{a:Array Bool}(f:It ops e i=true)(hi:a.getD i false=false):e∉Region.ready .any ops a:=by
 intro k
 obtain⟨_,o,h,c⟩:=OG.1 k;unfold It at f
 rw[h]at f
 obtain⟨ed,h1,h2⟩:=Kb.1 f;simp only[JG,Oj]at h2
 have:=c ed (by simpa using h1) h2.1;rw[h2.2,hi]at this
 cases this
theorem Da{ops:Array Oper}{i:Nat}{a:Array Bool}(h:i∈Region.ready .any ops a):a.getD i false=false:=by
 have f:=(OG.1 h).1;rcases MM i a.size with c|c
 ·simp[c]at f⊢;exact f
 ·simp[c]
theorem IY{P:Program}{ops:Array Oper}{Q:Exit→Act→World→Prop}{S:World→Prop}{e i:Nat}{oi:Oper}{v:Value}(z:ops[i]?=some oi)(O:Region.noSelect ops=true)(R:i≠e)(J:It ops e i=true)(hQ:∀c a w,Q (.panic c) (a.put oi.dst v) w→Q (.panic c) a w):
  ∀(k:Nat) (f:Array Bool) (a:Act) (w:World),(∀j oj,ops[j]?=some oj→j≠i→f.getD j true=false→(∀ed∈oj.after,Region.binds .any ed=true→ed.on≠i)→oi.apart ops oj=true)→
   i∈Region.ready .any ops f→YieldsIf P ops S oi v a→S w→IX P ops Q S e k (f.setIfInBounds i true) (a.put oi.dst v) w→IX P ops Q S e (k+1) f a w:=by
 have r:=Np O;intro k
 induction k with
 |zero=>
  intro f a w _ s I hS H
  refine⟨fun h=>(by rw[h]at s;cases s),fun j E=>?_⟩;by_cases l:j=i
  ·subst l;exact I.wpOp z hS ⟨fun _=>hS,H⟩
  ·have:=OL E l
   rw[H.1]at this
   cases this
 |succ k N=>
  intro f a w q s I hS H
  refine⟨fun h=>(by rw[h]at s;cases s),fun j E=>?_⟩;by_cases l:j=i
  ·subst l;exact I.wpOp z hS ⟨fun _=>hS,H⟩
  ·have D:j≠e:=fun h=>Iu J (Da s) (h▸E)
   obtain⟨p,oj,u,G⟩:=OG.1 E;have K:∀ed∈oj.after,Region.binds .any ed=true→ed.on≠i:=fun ed h1 h2 h3=>by
    have h4:=G ed h1 h2;rw[h3,Da s]at h4
    cases h4
   have B:=wpOp_putIf u (q j oj u l p K) (fun cs b=>r i oi cs b z) (fun cs b=>r j oj cs b u) hQ I (H.2 j (OL E l));refine OU (fun U w' h3=>⟨fun _=>h3.2.1 D,N (f.setIfInBounds j true) U w' (fun m om T M A hn=>q m om T M ?_ hn) (OL s (Na l)) h3.1 (h3.2.1 D) ?_⟩) B
   ·by_cases C:j=m
    ·subst C;exact p
    ·rw[getD_set_ne true C]at A;exact A
   ·rw[Jy _ _ l]
    exact h3.2.2
def AR(ops:Array Oper)(e:Nat):List (Nat×Bool)→Array Bool→Bool
 |[],a=>decide (Region.ready .any ops a=[e])&&(Region.ready .any ops (a.setIfInBounds e true)).isEmpty
 |(i,true)::s,a=>(Region.ready .any ops a).contains i&&Region.free .any ops a i&&!(i==e)&&It ops e i&&AR ops e s (a.setIfInBounds i true)
 |(i,false)::s,a=>decide (Region.ready .any ops a=[i])&&AR ops e s (a.setIfInBounds i true)
def AS(l:List Oper)(s:List (Nat×Bool))(e:Nat):Bool:=Region.noSelect l.toArray&&decide (s.length+1=l.length)&&AR l.toArray e s (Array.replicate l.length false)
def dQ(P:Program)(ops:List Oper)(Q:Exit→Act→World→Prop)(e:Nat):Exit→Act→World→Prop:=
 fun x a w=>x=.normal∧∃o,ops[e]?=some o∧wpList P ops.toArray (fun x a w=>x=.normal∧Q .normal a w) [o] a w
theorem I_{P:Program}{ops:List Oper}{S:World→Prop}{Q:Exit→Act→World→Prop}{e:Nat}(u:Region.noSelect ops.toArray=true):
  ∀(s:List (Nat×Bool)) (c:Array Bool) (a:Act) (w:World),AR ops.toArray e s c=true→S w→I7 P ops S (fun a w=>dQ P ops Q e .normal a w) s a w→IX P ops.toArray (fun x a w=>x=.normal∧Q .normal a w) S e (s.length+1) c a w
 |[],c,a,w,f,hS,h=>by
  simp only[AR,JG,Ow,Lf]at f
  obtain⟨_,o,m,p⟩:=h;refine⟨fun q=>(by rw[f.1]at q;cases q),fun i hi=>?_⟩;rw[f.1,LV]at hi
  subst hi;have k:ops.toArray[i]?=some o:=by simpa using m
  unfold wpOp;simp only[k];simp only[wpList]at p
  split
  ·rename_i l
   rw[OE l]at p
   exact p.imp (Nb fun D w' r=>⟨fun h=>absurd rfl h,f.2,rfl,r.2⟩) id
  ·rename_i l
   rw[OD l]at p
   exact⟨fun h=>absurd rfl h,f.2,rfl,p.2⟩
 |(i,true)::s,c,a,w,f,hS,⟨o,v,m,B,h⟩=>by
  simp only[AR,JG,JN,Oi]at f
  obtain⟨⟨⟨⟨h1,h2⟩,h3⟩,h4⟩,C⟩:=f;have k:ops.toArray[i]?=some o:=by simpa using m
  exact IY k u h3 h4 (fun _ _ _ h=>by cases h.1) _ _ _ _ (No k h2) (by simpa using h1) B hS (I_ u s _ _ _ C hS h)
 |(i,false)::s,c,a,w,f,hS,⟨o,m,h⟩=>by
  simp only[AR,JG,Ow]at f
  refine⟨fun q=>(by rw[f.1]at q;cases q),fun j A=>?_⟩;rw[f.1,LV]at A
  subst A;have k:ops.toArray[j]?=some o:=by simpa using m
  unfold wpOp;simp only[k];split
  ·rename_i l
   rw[OE l]at h
   exact .inl (Nb (fun D w' r=>⟨fun _=>r.1,I_ u s _ _ _ f.2 r.1 r.2⟩) (Je (fun x a w z hf=>absurd hf.1 z) h))
  ·rename_i l
   rw[OD l]at h
   exact⟨fun _=>h.1,I_ u s _ _ _ f.2 h.1 h.2⟩
section
variable {P:Program}{Q:Exit→Act→World→Prop}{n:Nat}{σ:Sg}{w:World}{L:List Oper}{S:World→Prop}
theorem aE{id:Nat}(S:World→Prop)(s:List (Nat×Bool))(e:Nat)(k:P.follows .mixedOrders=true)(c:AS L s e=true)(hS:S (drew w))(h:HL P L S (dQ P L Q e) s n σ (drew w)):CW P (.region id L.toArray true) Q n σ w:=by
 unfold CW;unfold HL at h;intro a p
 simp only[AS,JG,Ow]at c
 obtain⟨⟨f,l⟩,c⟩:=c;have h1:=I_ (Q:=Q) f s (Array.replicate L.length false) a (Go.Proofs.YtodmkmobdmcfbaaGreatDoor.drew w) c hS (h a p);rw[l]at h1
 have h2:(Code.region id L.toArray true).wp P (fun x a w=>x=.normal∧Q .normal a w) a w:=OY k (by simpa using I2 _ _ _ _ h1);exact OX h2 (fun e q w' ⟨m,hq⟩=>by subst m;exact hq)
theorem bp{e:Nat}{o:Oper}(c:zU L e=some o)(h:WL P L (fun x a w=>x=.normal∧Q .normal a w) [o] n σ w):EX (dQ P L Q e) .normal n σ w:=by
 unfold EX;unfold WL at h
 intro a f
 rw[zV]at c
 exact⟨rfl,o,c,h a f⟩
theorem bu(h:EX Q .normal n σ w):EX (fun x a w=>x=.normal∧Q .normal a w) .normal n σ w:=by
 unfold EX at*;exact fun a c=>⟨rfl,h a c⟩
end
section
variable {P:Program}{Q:Exit→Act→World→Prop}{n:Nat}{σ:Sg}{wc:World}{L:List Oper}{S:World→Prop}{i j d:Nat}{ty:TypeId}{pos:String}{af:Array Edge}{g:Option (Nat×Bool)}{ty':TypeId}{pos':String}{af':Array Edge}{g':Option (Nat×Bool)}{t e:TypeId}{x ix y:Operand}
variable {α:Type}[Rep α]{F:Nat→Prop}
theorem cy{v u:Value}{B:Nat}{xs:List α}{yv:α}{k:Nat}{kd:IntKind}
  (ho1:zU L i=some ⟨some d,.indexAddr t x ix,ty,pos,af,g⟩) (ho2:zU L j=some ⟨none,.store e (.tmp d) y,ty',pos',af',g'⟩)
  (E:gd L σ ⟨some d,.indexAddr t x ix,ty,pos,af,g⟩=some true) (hd:Nat.ble (d+1) n=true)
  (z:ev σ x=some v) (hi:ev σ ix=some (.int kd (k:Int))) [I:IsS P t e] [H:IsT P e α] (c:Own wc B e F v xs) (h1:k<xs.length)
  (m:∀p,gd L ((d,.pointer p)::σ) ⟨none,.store e (.tmp d) y,ty',pos',af',g'⟩=some true) (s:∀p,ev ((d,.pointer p)::σ) y=some u) (A:Rd wc F u yv)
  (h:∀w' p,Own w' B e F v (xs.set k yv)→wc.grownBy w' v.ownBlock→EX Q .normal n ((d,.pointer p)::σ) w'):
  HL P L S (dQ P L Q j) [(i,true)] n σ wc:=by
 rcases c with⟨rfl,rfl⟩|⟨b,off,cap,cur,rfl,D⟩
 ·simp at h1
 ·refine ca (α:=α) ho1 E hd z hi O0 O0 ?_
  obtain⟨w',C,f,l⟩:=D7 (P:=P) (v:=u) (i:=k) D h1 A;refine HL.nil (bp ho2 ?_);refine fp (m _) (fun a q=>?_) (WL.nil (bu (h w' _ f l)));have r:=q.ev (x:=.tmp d) pT;have G:=q.ev (s _);simp only[J7]at r
  simp[execOp,r,G,Instr.storeAt,Instr.sureAddr,C]
end
section
variable {P:Program}{Q:Exit→Act→World→Prop}{n:Nat}{σ:Sg}{w wc:World}{L:List Oper}{S:World→Prop}{ord:List (Nat×Bool)}{i d:Nat}{ty:TypeId}{pos:String}{af:Array Edge}{g:Option (Nat×Bool)}{t e:TypeId}{x:Operand}{b o:Nat}{cells:List Value}
theorem ck{v:Value}(u:∀k,S k→k.heap[b]?=w.heap[b]?)(p:zU L i=some ⟨some d,.load t x,ty,pos,af,g⟩)(q:gd L σ ⟨some d,.load t x,ty,pos,af,g⟩=some true)(hd:Nat.ble (d+1) n=true)(l:ev σ x=some (.pointer (some ⟨b,o,none⟩)))[z:IsC P t 1 false](r:Blk w b e cells)(m:zY cells o=some v)
  (h:HL P L S Q ord n ((d,v)::σ) wc):HL P L S Q ((i,true)::ord) n σ wc:=by
 refine HL.run p q hd (fun a s w' c=>?_) h;have f:Blk w' b e cells:=(u w' c).trans r;simp[execOp,s.ev l,DS (P:=P) (t:=t) w' f m]
end
theorem ce{P:Program}{Q:Exit→Act→World→Prop}{n:Nat}{σ:Sg}{w wc:World}{L:List Oper}{S:World→Prop}{ord:List (Nat×Bool)}{i d:Nat}{ty:TypeId}{pos:String}{af:Array Edge}{g:Option (Nat×Bool)}{t e:TypeId}{x:Operand}{b o:Nat}{cells vs:List Value}{k:Nat}
  (u:∀j,S j→j.heap[b]?=w.heap[b]?) (p:zU L i=some ⟨some d,.load t x,ty,pos,af,g⟩) (q:gd L σ ⟨some d,.load t x,ty,pos,af,g⟩=some true) (hd:Nat.ble (d+1) n=true) (l:ev σ x=some (.pointer (some ⟨b,o,none⟩))) [y:IsC P t k true] (r:Blk w b e cells) (m:Et cells o k=some vs)
  (h:HL P L S Q ord n ((d,.agg vs.toArray)::σ) wc):HL P L S Q ((i,true)::ord) n σ wc:=by
 refine HL.run p q hd (fun a s w' c=>?_) h;have f:Blk w' b e cells:=(u w' c).trans r;simp[execOp,s.ev l,DT (P:=P) (t:=t) w' f m]
def Nw(w w':World):Nat→Prop:=fun b=>w.heap.size≤b∧b<w'.heap.size
theorem Rd.kept{α:Type}[Rep α]{w w':World}{F:Nat→Prop}{v:Value}{x:α}{row:Option Nat}(h:Rd w F v x)(c:w.grownBy w' row)(hF:∀b,F b→b<w.heap.size∧some b≠row):Rd w' F v x:=
 h.mono (fun b a=>c.block b (hF b a).1 (hF b a).2) fun _ h=>h
theorem Rd.up0{α:Type}[Rep α]{w w':World}{F:Nat→Prop}{v:Value}{x:α}(h:Rd w F v x)(c:Ext w w')(hF:∀b,F b→b<w.heap.size):Rd w' F v x:=h.mono (fun b a=>c.block b (hF b a)) fun _ h=>h
theorem Rd.wk{α:Type}[Rep α]{w:World}{F F':Nat→Prop}{v:Value}{x:α}(h:Rd w F v x)(hF:∀b,F b→F' b):Rd w F' v x:=h.mono Pj hF
def SO(r:Nat)(w:World):World→Prop:=fun x=>w.heap.size≤x.heap.size∧∀b,b≠r→b<w.heap.size→x.heap[b]?=w.heap[b]?
theorem SO.refl(r:Nat)(w:World):SO r w w:=⟨MF _,fun _ _ _=>rfl⟩
theorem SO.ext{r:Nat}{w x y:World}(h:SO r w x)(a:Ext x y):SO r w y:=⟨MH h.1 a.size,fun b h1 h2=>(a.block b (MK h2 h.1)).trans (h.2 b h1 h2)⟩
theorem SO.st{r:Nat}{w x y:World}(h:SO r w x)(a:x.grownBy y (some r)):SO r w y:=⟨MH h.1 a.size,fun b h1 h2=>(a.block b (MK h2 h.1) (fun e=>h1 (by cases e;rfl))).trans (h.2 b h1 h2)⟩
section
variable {α:Type}[Rep α]
def Grow(B:Nat)(e:TypeId)(w:World)(v:Value)(xs:List α):Prop:=∃F,(∀b,F b→B≤b∧b<w.heap.size)∧Own w B e F v xs
variable {B:Nat}{e:TypeId}{w w':World}{v:Value}{xs:List α}
theorem Grow.nil:Grow B e w (.slice none 0 0) ([]:List α):=⟨cZ,fun _ h=>h.elim,Own.nil⟩
theorem Grow.ext(h:Grow B e w v xs)(c:Ext w w'):Grow B e w' v xs:=by
 obtain⟨F,h1,h2⟩:=h;exact⟨F,fun b a=>⟨(h1 b a).1,MK (h1 b a).2 c.size⟩,h2.ext c fun b a=>(h1 b a).2⟩
theorem Grow.kept{r:Nat}(h:Grow B e w v xs)(d:w.grownBy w' (some r))(f:r<B):Grow B e w' v xs:=by
 obtain⟨F,h1,h2⟩:=h;refine⟨F,fun b a=>⟨(h1 b a).1,MK (h1 b a).2 d.size⟩,h2.kept d (fun g c e=>?_) (fun b a=>⟨(h1 b a).2,fun e=>?_⟩)⟩
 ·have:=(h2.lt g c).1;cases e;omega
 ·have:=(h1 b a).1;cases e;omega
theorem Grow.lt(h:Grow B e w v xs):∀g,v.ownBlock=some g→B≤g∧g<w.heap.size:=by
 obtain⟨F,h1,h2⟩:=h;exact fun g a=>⟨(h2.lt g a).1,(h2.lt g a).2.1⟩
theorem Grow.sl(h:Grow B e w v xs):∃ao cap,v=.slice ao xs.length cap∧Sl w (fun b=>B≤b∧b<w.heap.size) ao cap xs:=by
 obtain⟨F,h1,h2⟩:=h;exact h2.slF (fun b c=>h1 b c) (fun g a=>⟨(h2.lt g a).1,(h2.lt g a).2.1⟩)
theorem Grow.open(h:Grow B e w v xs){Fu:Nat→Prop}(c:∀b,Fu b→B≤b∧b<w.heap.size)(hn:∀g,v.ownBlock=some g→¬Fu g):∃F,(∀b,F b→B≤b∧b<w.heap.size)∧Own w B e F v xs∧(∀b,Fu b→F b):=by
 obtain⟨F,h1,h2⟩:=h;refine⟨fun b=>F b∨Fu b,fun b a=>a.elim (h1 b) (c b),h2.wk (fun b a=>.inl a) (fun g d a=>?_),fun b a=>.inr a⟩;exact a.elim (h2.lt g d).2.2 (hn g d)
end
theorem Cs(w:World){F:Nat→Prop}(hF:∀b,F b→b<w.heap.size)(k:Int){v C:Value}{t j:Ltl}(h:Rd w F v t)(H:Rd w F C j):Rt Tryz.prog 189 [Pq k,v,C].toArray w fun v w'=>Rd w' (da F w w') v (.mk k 0 [t,j]:Ltl)∧Ext w w':=by
 obtain⟨ao,cap,rfl,R⟩:=Rd.ltl h;obtain⟨ao',cap',rfl,O⟩:=Rd.ltl H;refine dF Tryz.func189 Tryz.ntmps189 rfl rfl ?_;refine Pu ?_;refine dX rfl rfl rfl fun w0 i z=>?_
 refine dX rfl rfl rfl fun J d c=>?_
 have i:=i.ext c;have c:=z.trans c;refine WL.alloc rfl rfl (fun n E m=>?_);have i:=i.ext m;have Q:=d.ext m;have a:=c.trans m;refine Q0 ?_;have N:Rd n F (ye t.k t.n ao t.kids.length cap) t:=Rd.mono h (fun b d=>a.block b (hF b d)) Pe;have s:Rd n F (ye j.k j.n ao' j.kids.length cap') j:=Rd.mono H (fun b d=>a.block b (hF b d)) Pe;have p:w.heap.size≤n.heap.size:=a.size;have M:=E.lt;have K:w.heap.size≤J.heap.size:=c.size;refine WL.lit (F:=F) (ys:=[t,j]) rfl rfl rfl rfl rfl (.cons N (.cons s .nil)) (by show 2*3≤16777216;decide) (fun b d=>MK (hF b d) p) (fun I G u=>?_);have l:Ext n I:=(Ext.refl n).grown u Pm Pg;have r:=E.ext l;have f:=a.trans l;refine WL.build rfl rfl rfl rfl ?_;refine WL.st rfl rfl rfl r rfl rfl Pk (fun A q o=>?_);have y:Ext w A:=f.grown o f.size (fun g x=>by cases x;exact c.size);have ho4:=G.kept o (fun g x=>by have:=(G.lt g x).1;simp;omega) (fun b d=>⟨MK (hF b d) f.size,by have:b<w.heap.size:=hF b d;simp;omega⟩);obtain⟨uo,uc,P,L⟩:=(ho4.rd.mono (F':=da F w A) Pj (fun b d=>d.elim .inl fun D=>.inr ⟨MH a.size (ho4.lt b D).1,(ho4.lt b D).2.1⟩)).sl;obtain⟨rfl,_,rfl⟩:=Oc P;refine PH ?_;exact bg rfl rfl q rfl ⟨Rd.mkLtl (kids:=[t,j]) L,y⟩
theorem Cr(w:World)(F:Nat→Prop)(k:Int):Rt Tryz.prog 190 [Pq k].toArray w fun v w'=>Rd w' F v (.mk k 0 []:Ltl)∧Ext w w':=by
 refine dD Tryz.func190 Tryz.ntmps190 rfl rfl ?_;refine Pu ?_;refine WL.alloc rfl rfl (fun h g d=>?_);refine Qm ?_;refine WL.build rfl rfl rfl rfl ?_;refine WL.st rfl rfl rfl g rfl rfl Pk (fun f b a=>?_);have c:Ext w f:=d.grown a d.size Pb;refine PH ?_;exact bg rfl rfl b rfl ⟨Rd.mkLtl (kids:=[]) ⟨by simp,by simp[maxLen],fun _=>rfl,fun i hi=>absurd hi O3⟩,c⟩
abbrev GL(B:Nat)(w:World)(v:Value)(t:Ltl):Prop:=Rd w (fun b=>B≤b∧b<w.heap.size) v t
theorem GL.ext{B:Nat}{w w':World}{v:Value}{t:Ltl}(h:GL B w v t)(c:Ext w w'):GL B w' v t:=(Rd.up0 h c (fun b a=>a.2)).wk (fun b a=>⟨a.1,MK a.2 c.size⟩)
theorem GL.st{B r:Nat}{w w':World}{v:Value}{t:Ltl}(h:GL B w v t)(c:w.grownBy w' (some r))(d:r<B):GL B w' v t:=
 (Rd.kept h c (fun b a=>⟨a.2,fun e=>by have:=Nj e;have:=a.1;omega⟩)).wk (fun b a=>⟨a.1,MK a.2 c.size⟩)
theorem GL.low{B B':Nat}{w:World}{v:Value}{t:Ltl}(h:GL B w v t)(c:B'≤B):GL B' w v t:=Rd.wk h (fun b a=>⟨MH c a.1,a.2⟩)
theorem GL.plus{B:Nat}{w w':World}(d:B≤w.heap.size)(c:Ext w w'):∀b,da (fun b=>B≤b∧b<w.heap.size) w w' b→B≤b∧b<w'.heap.size:=fun b a=>by
 have:=c.size;rcases a with a|a
 ·exact⟨a.1,by omega⟩
 ·exact⟨by omega,a.2⟩
theorem GL.old{B:Nat}{w:World}{v:Value}{t:Ltl}(h:GL B w v t):Rd w (c7 w) v t:=Rd.wk h (fun b a=>a.2)
theorem o8{w g d c f:World}{F:Nat→Prop}{v:Value}{t:Ltl}(i:Rd c (da F d c) v t)(h:c.grownBy f (some g.heap.size))(hF:∀b,F b→b<w.heap.size)(h1:w.heap.size≤g.heap.size)(h2:g.heap.size<d.heap.size)(h3:w.heap.size≤d.heap.size)(h4:d.heap.size≤c.heap.size):
  Rd f (da F w f) v t:=by
 refine(i.kept h (fun b a=>⟨?_,fun e=>?_⟩)).wk (fun b a=>?_)
 ·rcases a with a|a
  ·have:=hF b a;omega
  ·exact a.2
 ·have:=Nj e
  rcases a with a|a
  ·have:=hF b a;omega
  ·have:=a.1;omega
 ·rcases a with a|a
  ·exact .inl a
  ·exact .inr ⟨by have:=a.1;omega,MK a.2 h.size⟩
theorem Di{w w':World}{r:Nat}(h:Ext w w'){b:World}(a:w'.grownBy b (some r))(c:w.heap.size≤r):Ext w b:=h.grown a h.size (fun g a=>by cases a;exact c)
end Go.Proofs.YtodmkmobdmcfbaaGreatDoor
