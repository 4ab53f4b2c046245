import Derived.Test.YtfpjecjadlgdcaaGreatDoorPtTopBounds2
set_option linter.unusedVariables false
set_option linter.unusedSimpArgs false
set_option linter.defProp false
namespace Go.Proofs.YtfpjecjadlgdcaaGreatDoor
theorem mixed:Tryz.prog.follows .mixedOrders=true:=by kernel_rfl
instance:IsT Tryz.prog 3 Int:=IsT.of O8 NU rfl
instance:IsZ Tryz.prog 3 (0:Int) 8:=IsZ.of (z:=Py 0) O8 Pq
instance:IsC Tryz.prog 3 1 false:=IsC.of O8 NU rfl
instance:IsZC Tryz.prog 3 [Py 0]:=IsZC.of (z:=Py 0) O8 rfl
instance:IsT Tryz.prog 4 Bool:=IsT.of O8 N0 rfl
instance:IsZ Tryz.prog 4 false 1:=IsZ.of (z:=.bool false) O8 Pq
instance:IsC Tryz.prog 4 1 false:=IsC.of O8 N0 rfl
instance:IsZC Tryz.prog 4 [.bool false]:=IsZC.of (z:=.bool false) O8 rfl
instance:IsT Tryz.prog 131 Nat:=IsT.of O8 NI rfl
instance:IsZ Tryz.prog 131 (0:Nat) 8:=IsZ.of (z:=.int .u64 0) O8 (fun _ _=>⟨rfl,by decide⟩)
instance:IsC Tryz.prog 131 1 false:=IsC.of O8 NI rfl
instance:IsZC Tryz.prog 131 [.int .u64 0]:=IsZC.of (z:=.int .u64 0) O8 rfl
instance:IsT Tryz.prog 9 ByteArray:=IsT.of O8 Oa rfl
instance:IsC Tryz.prog 9 1 false:=IsC.of O8 Oa rfl
instance:IsZC Tryz.prog 9 [.string ⟨#[]⟩]:=IsZC.of (z:=.string ⟨#[]⟩) O8 rfl
instance:IsT Tryz.prog 42 Int:=IsT.of O8 Tryz.underlying42 rfl
instance:IsZ Tryz.prog 42 (0:Int) 8:=IsZ.of (z:=Py 0) O8 Pq
instance:IsC Tryz.prog 42 1 false:=IsC.of O8 Tryz.underlying42 rfl
instance:IsZC Tryz.prog 42 [Py 0]:=IsZC.of (z:=Py 0) O8 rfl
instance:IsB Tryz.prog 4:=⟨N0⟩
instance:IsI Tryz.prog 3 .i64:=⟨NU⟩
instance:IsI Tryz.prog 131 .u64:=⟨NI⟩
instance:IsI Tryz.prog 5 .u8:=⟨N4⟩
instance:IsT Tryz.prog 39 (List Int):=IsT.of O8 NZ rfl
instance:IsS Tryz.prog 39 3:=⟨NZ⟩
instance:IsZ Tryz.prog 39 ([]:List Int) 24:=IsZ.of (z:=.slice none 0 0) O8 (fun _ _=>⟨none,0,rfl,by simp,by simp[maxLen],fun _=>rfl,fun i hi=>absurd hi O_⟩)
instance:IsC Tryz.prog 39 1 false:=IsC.of O8 NZ rfl
instance:IsZC Tryz.prog 39 [.slice none 0 0]:=IsZC.of (z:=.slice none 0 0) O8 rfl
instance:IsT Tryz.prog 50 (List (List Int)):=IsT.of O8 N5 rfl
instance:IsS Tryz.prog 50 39:=⟨N5⟩
instance:IsZ Tryz.prog 50 ([]:List (List Int)) 24:=IsZ.of (z:=.slice none 0 0) O8 (fun _ _=>⟨none,0,rfl,by simp,by simp[maxLen],fun _=>rfl,fun i hi=>absurd hi O_⟩)
instance:IsC Tryz.prog 50 1 false:=IsC.of O8 N5 rfl
instance:IsZC Tryz.prog 50 [.slice none 0 0]:=IsZC.of (z:=.slice none 0 0) O8 rfl
instance:IsT Tryz.prog 80 (List Bool):=IsT.of O8 N_ rfl
instance:IsS Tryz.prog 80 4:=⟨N_⟩
instance:IsZ Tryz.prog 80 ([]:List Bool) 24:=IsZ.of (z:=.slice none 0 0) O8 (fun _ _=>⟨none,0,rfl,by simp,by simp[maxLen],fun _=>rfl,fun i hi=>absurd hi O_⟩)
instance:IsC Tryz.prog 80 1 false:=IsC.of O8 N_ rfl
instance:IsZC Tryz.prog 80 [.slice none 0 0]:=IsZC.of (z:=.slice none 0 0) O8 rfl
instance:IsT Tryz.prog 72 (List Nat):=IsT.of O8 N8 rfl
instance:IsS Tryz.prog 72 131:=⟨N8⟩
instance:IsZ Tryz.prog 72 ([]:List Nat) 24:=IsZ.of (z:=.slice none 0 0) O8 (fun _ _=>⟨none,0,rfl,by simp,by simp[maxLen],fun _=>rfl,fun i hi=>absurd hi O_⟩)
instance:IsC Tryz.prog 72 1 false:=IsC.of O8 N8 rfl
instance:IsZC Tryz.prog 72 [.slice none 0 0]:=IsZC.of (z:=.slice none 0 0) O8 rfl
instance:IsT Tryz.prog 66 (List ByteArray):=IsT.of O8 N7 rfl
instance:IsS Tryz.prog 66 9:=⟨N7⟩
instance:IsZ Tryz.prog 66 ([]:List ByteArray) 24:=IsZ.of (z:=.slice none 0 0) O8 (fun _ _=>⟨none,0,rfl,by simp,by simp[maxLen],fun _=>rfl,fun i hi=>absurd hi O_⟩)
instance:IsC Tryz.prog 66 1 false:=IsC.of O8 N7 rfl
instance:IsZC Tryz.prog 66 [.slice none 0 0]:=IsZC.of (z:=.slice none 0 0) O8 rfl
instance:IsT Tryz.prog 86 (List Int×List Int):=IsT.of O8 Tryz.underlying86 rfl
instance:IsC Tryz.prog 86 2 true:=IsC.of O8 Tryz.underlying86 rfl
instance:IsFd Tryz.prog 86 0 0:=IsFd.of O8
instance:IsFd Tryz.prog 86 1 1:=IsFd.of O8
instance:IsZC Tryz.prog 86 [.slice none 0 0,.slice none 0 0]:=IsZC.of (z:=.agg #[.slice none 0 0,.slice none 0 0]) O8 rfl
instance:IsBd Tryz.prog 86 [(0,1),(1,1)]:=IsBd.of O8
instance:IsT Tryz.prog 27 (Int×Int×Int×Int×Int×Int×Int):=IsT.of O8 NR rfl
instance:IsC Tryz.prog 27 7 true:=IsC.of O8 NR rfl
instance:IsFd Tryz.prog 27 0 0:=IsFd.of O8
instance:IsFd Tryz.prog 27 1 1:=IsFd.of O8
instance:IsFd Tryz.prog 27 2 2:=IsFd.of O8
instance:IsFd Tryz.prog 27 3 3:=IsFd.of O8
instance:IsFd Tryz.prog 27 4 4:=IsFd.of O8
instance:IsFd Tryz.prog 27 5 5:=IsFd.of O8
instance:IsFd Tryz.prog 27 6 6:=IsFd.of O8
instance:IsZC Tryz.prog 27 [Py 0,Py 0,Py 0,Py 0,Py 0,Py 0,Py 0]:=IsZC.of (z:=.agg #[Py 0,Py 0,Py 0,Py 0,Py 0,Py 0,Py 0]) O8 rfl
instance:IsBd Tryz.prog 27 [(0,1),(1,1),(2,1),(3,1),(4,1),(5,1),(6,1)]:=IsBd.of O8
instance:IsZ Tryz.prog 27 ((0,0,0,0,0,0,0):(Int×Int×Int×Int×Int×Int×Int)) 56:=IsZ.of (z:=.agg #[Py 0,Py 0,Py 0,Py 0,Py 0,Py 0,Py 0]) O8 (fun _ _=>C4 (C5 _ _ _) (C4 (C5 _ _ _) (C4 (C5 _ _ _) (C4 (C5 _ _ _) (C4 (C5 _ _ _) (C4 (C5 _ _ _) (C5 _ _ _)))))))
instance:IsT Tryz.prog 29 (Int×Int×Int×Int):=IsT.of O8 NT rfl
instance:IsC Tryz.prog 29 4 true:=IsC.of O8 NT rfl
instance:IsFd Tryz.prog 29 0 0:=IsFd.of O8
instance:IsFd Tryz.prog 29 1 1:=IsFd.of O8
instance:IsFd Tryz.prog 29 2 2:=IsFd.of O8
instance:IsFd Tryz.prog 29 3 3:=IsFd.of O8
instance:IsZC Tryz.prog 29 [Py 0,Py 0,Py 0,Py 0]:=IsZC.of (z:=.agg #[Py 0,Py 0,Py 0,Py 0]) O8 rfl
instance:IsBd Tryz.prog 29 [(0,1),(1,1),(2,1),(3,1)]:=IsBd.of O8
instance:IsZ Tryz.prog 29 ((0,0,0,0):(Int×Int×Int×Int)) 32:=IsZ.of (z:=.agg #[Py 0,Py 0,Py 0,Py 0]) O8 (fun _ _=>C4 (C5 _ _ _) (C4 (C5 _ _ _) (C4 (C5 _ _ _) (C5 _ _ _))))
instance:IsT Tryz.prog 74 (List Int×List (List Int)×List Nat×List (List Int)):=IsT.of O8 Tryz.underlying74 rfl
instance:IsC Tryz.prog 74 4 true:=IsC.of O8 Tryz.underlying74 rfl
instance:IsFd Tryz.prog 74 0 0:=IsFd.of O8
instance:IsFd Tryz.prog 74 1 1:=IsFd.of O8
instance:IsFd Tryz.prog 74 2 2:=IsFd.of O8
instance:IsFd Tryz.prog 74 3 3:=IsFd.of O8
instance:IsZC Tryz.prog 74 [.slice none 0 0,.slice none 0 0,.slice none 0 0,.slice none 0 0]:=IsZC.of (z:=.agg #[.slice none 0 0,.slice none 0 0,.slice none 0 0,.slice none 0 0]) O8 rfl
instance:IsBd Tryz.prog 74 [(0,1),(1,1),(2,1),(3,1)]:=IsBd.of O8
instance:IsT Tryz.prog 144 (List Int×List (List Int)×List Nat×List Nat×List (List Int)):=IsT.of O8 Tryz.underlying144 rfl
instance:IsC Tryz.prog 144 5 true:=IsC.of O8 Tryz.underlying144 rfl
instance:IsFd Tryz.prog 144 0 0:=IsFd.of O8
instance:IsFd Tryz.prog 144 1 1:=IsFd.of O8
instance:IsFd Tryz.prog 144 2 2:=IsFd.of O8
instance:IsFd Tryz.prog 144 3 3:=IsFd.of O8
instance:IsFd Tryz.prog 144 4 4:=IsFd.of O8
instance:IsZC Tryz.prog 144 [.slice none 0 0,.slice none 0 0,.slice none 0 0,.slice none 0 0,.slice none 0 0]:=IsZC.of (z:=.agg #[.slice none 0 0,.slice none 0 0,.slice none 0 0,.slice none 0 0,.slice none 0 0]) O8 rfl
instance:IsBd Tryz.prog 144 [(0,1),(1,1),(2,1),(3,1),(4,1)]:=IsBd.of O8
instance:IsT Tryz.prog 123 (ByteArray×Int):=IsT.of O8 Tryz.underlying123 rfl
instance:IsC Tryz.prog 123 2 true:=IsC.of O8 Tryz.underlying123 rfl
instance:IsFd Tryz.prog 123 0 0:=IsFd.of O8
instance:IsFd Tryz.prog 123 1 1:=IsFd.of O8
instance:IsZC Tryz.prog 123 [.string ⟨#[]⟩,Py 0]:=IsZC.of (z:=.agg #[.string ⟨#[]⟩,Py 0]) O8 rfl
instance:IsBd Tryz.prog 123 [(0,1),(1,1)]:=IsBd.of O8
instance:IsZ Tryz.prog 123 ((⟨#[]⟩,0):(ByteArray×Int)) 24:=IsZ.of (z:=.agg #[.string ⟨#[]⟩,Py 0]) O8 (fun _ _=>C4 (c1:=[.string ⟨#[]⟩]) (c2:=[Py 0]) ⟨rfl,by decide⟩ (C5 _ _ _))
instance:IsT Tryz.prog 48 (Int×Int):=IsT.of O8 Tryz.underlying48 rfl
instance:IsC Tryz.prog 48 2 true:=IsC.of O8 Tryz.underlying48 rfl
instance:IsFd Tryz.prog 48 0 0:=IsFd.of O8
instance:IsFd Tryz.prog 48 1 1:=IsFd.of O8
instance:IsZC Tryz.prog 48 [Py 0,Py 0]:=IsZC.of (z:=.agg #[Py 0,Py 0]) O8 rfl
instance:IsBd Tryz.prog 48 [(0,1),(1,1)]:=IsBd.of O8
instance:IsZ Tryz.prog 48 ((0,0):(Int×Int)) 16:=IsZ.of (z:=.agg #[Py 0,Py 0]) O8 (fun _ _=>C4 (C5 _ _ _) (C5 _ _ _))
instance:IsT Tryz.prog 25 (List (ByteArray×Int)×List (Int×Int)):=IsT.of O8 Tryz.underlying25 rfl
instance:IsC Tryz.prog 25 2 true:=IsC.of O8 Tryz.underlying25 rfl
instance:IsFd Tryz.prog 25 0 0:=IsFd.of O8
instance:IsFd Tryz.prog 25 1 1:=IsFd.of O8
instance:IsZC Tryz.prog 25 [.slice none 0 0,.slice none 0 0]:=IsZC.of (z:=.agg #[.slice none 0 0,.slice none 0 0]) O8 rfl
instance:IsBd Tryz.prog 25 [(0,1),(1,1)]:=IsBd.of O8
instance:IsT Tryz.prog 163 (Int×Int×Int):=IsT.of O8 Tryz.underlying163 rfl
instance:IsC Tryz.prog 163 3 true:=IsC.of O8 Tryz.underlying163 rfl
instance:IsFd Tryz.prog 163 0 0:=IsFd.of O8
instance:IsFd Tryz.prog 163 1 1:=IsFd.of O8
instance:IsFd Tryz.prog 163 2 2:=IsFd.of O8
instance:IsZC Tryz.prog 163 [Py 0,Py 0,Py 0]:=IsZC.of (z:=.agg #[Py 0,Py 0,Py 0]) O8 rfl
instance:IsBd Tryz.prog 163 [(0,1),(1,1),(2,1)]:=IsBd.of O8
instance:IsZ Tryz.prog 163 ((0,0,0):(Int×Int×Int)) 24:=IsZ.of (z:=.agg #[Py 0,Py 0,Py 0]) O8 (fun _ _=>C4 (C5 _ _ _) (C4 (C5 _ _ _) (C5 _ _ _)))
instance:IsT Tryz.prog 149 (Int×Int):=IsT.of O8 Tryz.underlying149 rfl
instance:IsC Tryz.prog 149 2 true:=IsC.of O8 Tryz.underlying149 rfl
instance:IsFd Tryz.prog 149 0 0:=IsFd.of O8
instance:IsFd Tryz.prog 149 1 1:=IsFd.of O8
instance:IsZC Tryz.prog 149 [Py 0,Py 0]:=IsZC.of (z:=.agg #[Py 0,Py 0]) O8 rfl
instance:IsBd Tryz.prog 149 [(0,1),(1,1)]:=IsBd.of O8
instance:IsZ Tryz.prog 149 ((0,0):(Int×Int)) 16:=IsZ.of (z:=.agg #[Py 0,Py 0]) O8 (fun _ _=>C4 (C5 _ _ _) (C5 _ _ _))
instance:IsT Tryz.prog 53 (List (List Int)×List (List (Int×Int))):=IsT.of O8 Tryz.underlying53 rfl
instance:IsC Tryz.prog 53 2 true:=IsC.of O8 Tryz.underlying53 rfl
instance:IsFd Tryz.prog 53 0 0:=IsFd.of O8
instance:IsFd Tryz.prog 53 1 1:=IsFd.of O8
instance:IsZC Tryz.prog 53 [.slice none 0 0,.slice none 0 0]:=IsZC.of (z:=.agg #[.slice none 0 0,.slice none 0 0]) O8 rfl
instance:IsBd Tryz.prog 53 [(0,1),(1,1)]:=IsBd.of O8
instance:IsT Tryz.prog 41 (Bool×List Int×List Int):=IsT.of O8 Tryz.underlying41 rfl
instance:IsC Tryz.prog 41 3 true:=IsC.of O8 Tryz.underlying41 rfl
instance:IsFd Tryz.prog 41 0 0:=IsFd.of O8
instance:IsFd Tryz.prog 41 1 1:=IsFd.of O8
instance:IsFd Tryz.prog 41 2 2:=IsFd.of O8
instance:IsZC Tryz.prog 41 [.bool false,.slice none 0 0,.slice none 0 0]:=IsZC.of (z:=.agg #[.bool false,.slice none 0 0,.slice none 0 0]) O8 rfl
instance:IsBd Tryz.prog 41 [(0,1),(1,1),(2,1)]:=IsBd.of O8
instance:IsT Tryz.prog 57 (List Int×Int×Int×List Int×List Int):=IsT.of O8 Tryz.underlying57 rfl
instance:IsC Tryz.prog 57 5 true:=IsC.of O8 Tryz.underlying57 rfl
instance:IsFd Tryz.prog 57 0 0:=IsFd.of O8
instance:IsFd Tryz.prog 57 1 1:=IsFd.of O8
instance:IsFd Tryz.prog 57 2 2:=IsFd.of O8
instance:IsFd Tryz.prog 57 3 3:=IsFd.of O8
instance:IsFd Tryz.prog 57 4 4:=IsFd.of O8
instance:IsZC Tryz.prog 57 [.slice none 0 0,Py 0,Py 0,.slice none 0 0,.slice none 0 0]:=IsZC.of (z:=.agg #[.slice none 0 0,Py 0,Py 0,.slice none 0 0,.slice none 0 0]) O8 rfl
instance:IsBd Tryz.prog 57 [(0,1),(1,1),(2,1),(3,1),(4,1)]:=IsBd.of O8
instance:IsT Tryz.prog 96 (Int×Int):=IsT.of O8 Tryz.underlying96 rfl
instance:IsC Tryz.prog 96 2 true:=IsC.of O8 Tryz.underlying96 rfl
instance:IsFd Tryz.prog 96 0 0:=IsFd.of O8
instance:IsFd Tryz.prog 96 1 1:=IsFd.of O8
instance:IsZC Tryz.prog 96 [Py 0,Py 0]:=IsZC.of (z:=.agg #[Py 0,Py 0]) O8 rfl
instance:IsBd Tryz.prog 96 [(0,1),(1,1)]:=IsBd.of O8
instance:IsZ Tryz.prog 96 ((0,0):(Int×Int)) 16:=IsZ.of (z:=.agg #[Py 0,Py 0]) O8 (fun _ _=>C4 (C5 _ _ _) (C5 _ _ _))
instance:IsC Tryz.prog 197 6 true:=IsC.of O8 Tryz.underlying197 rfl
instance:IsFd Tryz.prog 197 0 0:=IsFd.of O8
instance:IsFd Tryz.prog 197 1 4:=IsFd.of O8
instance:IsFd Tryz.prog 197 2 5:=IsFd.of O8
instance:IsZC Tryz.prog 197 [.slice none 0 0,.slice none 0 0,.slice none 0 0,.slice none 0 0,.slice none 0 0,.slice none 0 0]:=IsZC.of (z:=.agg #[.slice none 0 0,.slice none 0 0,.slice none 0 0,.slice none 0 0,.slice none 0 0,.slice none 0 0]) O8 rfl
instance:IsBd Tryz.prog 197 [(0,4),(4,1),(5,1)]:=IsBd.of O8
instance:IsC Tryz.prog 129 10 true:=IsC.of O8 Tryz.underlying129 rfl
instance:IsFd Tryz.prog 129 0 0:=IsFd.of O8
instance:IsFd Tryz.prog 129 1 1:=IsFd.of O8
instance:IsFd Tryz.prog 129 2 3:=IsFd.of O8
instance:IsFd Tryz.prog 129 3 4:=IsFd.of O8
instance:IsFd Tryz.prog 129 4 5:=IsFd.of O8
instance:IsFd Tryz.prog 129 5 6:=IsFd.of O8
instance:IsZC Tryz.prog 129 [.slice none 0 0,.slice none 0 0,.slice none 0 0,.slice none 0 0,.slice none 0 0,.slice none 0 0,.slice none 0 0,.slice none 0 0,.slice none 0 0,.slice none 0 0]:=IsZC.of (z:=.agg #[.slice none 0 0,.slice none 0 0,.slice none 0 0,.slice none 0 0,.slice none 0 0,.slice none 0 0,.slice none 0 0,.slice none 0 0,.slice none 0 0,.slice none 0 0]) O8 rfl
instance:IsBd Tryz.prog 129 [(0,1),(1,2),(3,1),(4,1),(5,1),(6,4)]:=IsBd.of O8
instance:IsT Tryz.prog 226 (Int×Int):=IsT.of O8 NM rfl
instance:IsC Tryz.prog 226 2 true:=IsC.of O8 NM rfl
instance:IsFd Tryz.prog 226 0 0:=IsFd.of O8
instance:IsFd Tryz.prog 226 1 1:=IsFd.of O8
instance:IsZC Tryz.prog 226 [Py 0,Py 0]:=IsZC.of (z:=.agg #[Py 0,Py 0]) O8 rfl
instance:IsBd Tryz.prog 226 [(0,1),(1,1)]:=IsBd.of O8
instance:IsZ Tryz.prog 226 ((0,0):(Int×Int)) 16:=IsZ.of (z:=.agg #[Py 0,Py 0]) O8 (fun _ _=>C4 (C5 _ _ _) (C5 _ _ _))
instance:IsC Tryz.prog 223 13 true:=IsC.of O8 Tryz.underlying223 rfl
instance:IsFd Tryz.prog 223 0 0:=IsFd.of O8
instance:IsFd Tryz.prog 223 1 4:=IsFd.of O8
instance:IsFd Tryz.prog 223 2 9:=IsFd.of O8
instance:IsFd Tryz.prog 223 3 10:=IsFd.of O8
instance:IsFd Tryz.prog 223 4 11:=IsFd.of O8
instance:IsFd Tryz.prog 223 5 12:=IsFd.of O8
instance:IsZC Tryz.prog 223 [.slice none 0 0,.slice none 0 0,.slice none 0 0,.slice none 0 0,.slice none 0 0,.slice none 0 0,.slice none 0 0,.slice none 0 0,.slice none 0 0,.map none,.slice none 0 0,.slice none 0 0,.slice none 0 0]:=IsZC.of (z:=.agg #[.slice none 0 0,.slice none 0 0,.slice none 0 0,.slice none 0 0,.slice none 0 0,.slice none 0 0,.slice none 0 0,.slice none 0 0,.slice none 0 0,.map none,.slice none 0 0,.slice none 0 0,.slice none 0 0]) O8 rfl
instance:IsBd Tryz.prog 223 [(0,4),(4,5),(9,1),(10,1),(11,1),(12,1)]:=IsBd.of O8
instance:IsC Tryz.prog 279 7 true:=IsC.of O8 Tryz.underlying279 rfl
instance:IsFd Tryz.prog 279 0 0:=IsFd.of O8
instance:IsFd Tryz.prog 279 1 1:=IsFd.of O8
instance:IsFd Tryz.prog 279 2 2:=IsFd.of O8
instance:IsFd Tryz.prog 279 3 3:=IsFd.of O8
instance:IsFd Tryz.prog 279 4 4:=IsFd.of O8
instance:IsFd Tryz.prog 279 5 5:=IsFd.of O8
instance:IsFd Tryz.prog 279 6 6:=IsFd.of O8
instance:IsZC Tryz.prog 279 [.slice none 0 0,.slice none 0 0,.slice none 0 0,.slice none 0 0,.slice none 0 0,Py 0,Py 0]:=IsZC.of (z:=.agg #[.slice none 0 0,.slice none 0 0,.slice none 0 0,.slice none 0 0,.slice none 0 0,Py 0,Py 0]) O8 rfl
instance:IsBd Tryz.prog 279 [(0,1),(1,1),(2,1),(3,1),(4,1),(5,1),(6,1)]:=IsBd.of O8
instance:IsT Tryz.prog 22 (List (ByteArray×Int)):=IsT.of O8 NK rfl
instance:IsS Tryz.prog 22 123:=⟨NK⟩
instance:IsZ Tryz.prog 22 ([]:List (ByteArray×Int)) 24:=IsZ.of (z:=.slice none 0 0) O8 (fun _ _=>⟨none,0,rfl,by simp,by simp[maxLen],fun _=>rfl,fun i hi=>absurd hi O_⟩)
instance:IsC Tryz.prog 22 1 false:=IsC.of O8 NK rfl
instance:IsZC Tryz.prog 22 [.slice none 0 0]:=IsZC.of (z:=.slice none 0 0) O8 rfl
instance:IsT Tryz.prog 23 (List (Int×Int)):=IsT.of O8 NO rfl
instance:IsS Tryz.prog 23 48:=⟨NO⟩
instance:IsZ Tryz.prog 23 ([]:List (Int×Int)) 24:=IsZ.of (z:=.slice none 0 0) O8 (fun _ _=>⟨none,0,rfl,by simp,by simp[maxLen],fun _=>rfl,fun i hi=>absurd hi O_⟩)
instance:IsC Tryz.prog 23 1 false:=IsC.of O8 NO rfl
instance:IsZC Tryz.prog 23 [.slice none 0 0]:=IsZC.of (z:=.slice none 0 0) O8 rfl
instance:IsT Tryz.prog 108 (List (Int×Int×Int)):=IsT.of O8 NH rfl
instance:IsS Tryz.prog 108 163:=⟨NH⟩
instance:IsZ Tryz.prog 108 ([]:List (Int×Int×Int)) 24:=IsZ.of (z:=.slice none 0 0) O8 (fun _ _=>⟨none,0,rfl,by simp,by simp[maxLen],fun _=>rfl,fun i hi=>absurd hi O_⟩)
instance:IsC Tryz.prog 108 1 false:=IsC.of O8 NH rfl
instance:IsZC Tryz.prog 108 [.slice none 0 0]:=IsZC.of (z:=.slice none 0 0) O8 rfl
instance:IsT Tryz.prog 75 (List (Int×Int)):=IsT.of O8 N9 rfl
instance:IsS Tryz.prog 75 149:=⟨N9⟩
instance:IsZ Tryz.prog 75 ([]:List (Int×Int)) 24:=IsZ.of (z:=.slice none 0 0) O8 (fun _ _=>⟨none,0,rfl,by simp,by simp[maxLen],fun _=>rfl,fun i hi=>absurd hi O_⟩)
instance:IsC Tryz.prog 75 1 false:=IsC.of O8 N9 rfl
instance:IsZC Tryz.prog 75 [.slice none 0 0]:=IsZC.of (z:=.slice none 0 0) O8 rfl
instance:IsT Tryz.prog 51 (List (List (Int×Int))):=IsT.of O8 N6 rfl
instance:IsS Tryz.prog 51 75:=⟨N6⟩
instance:IsZ Tryz.prog 51 ([]:List (List (Int×Int))) 24:=IsZ.of (z:=.slice none 0 0) O8 (fun _ _=>⟨none,0,rfl,by simp,by simp[maxLen],fun _=>rfl,fun i hi=>absurd hi O_⟩)
instance:IsC Tryz.prog 51 1 false:=IsC.of O8 N6 rfl
instance:IsZC Tryz.prog 51 [.slice none 0 0]:=IsZC.of (z:=.slice none 0 0) O8 rfl
instance:IsT Tryz.prog 221 (List (Int×Int)):=IsT.of O8 NL rfl
instance:IsS Tryz.prog 221 226:=⟨NL⟩
instance:IsZ Tryz.prog 221 ([]:List (Int×Int)) 24:=IsZ.of (z:=.slice none 0 0) O8 (fun _ _=>⟨none,0,rfl,by simp,by simp[maxLen],fun _=>rfl,fun i hi=>absurd hi O_⟩)
instance:IsC Tryz.prog 221 1 false:=IsC.of O8 NL rfl
instance:IsZC Tryz.prog 221 [.slice none 0 0]:=IsZC.of (z:=.slice none 0 0) O8 rfl
instance:IsT Tryz.prog 94 (List (Int×Int)):=IsT.of O8 Ob rfl
instance:IsS Tryz.prog 94 96:=⟨Ob⟩
instance:IsZ Tryz.prog 94 ([]:List (Int×Int)) 24:=IsZ.of (z:=.slice none 0 0) O8 (fun _ _=>⟨none,0,rfl,by simp,by simp[maxLen],fun _=>rfl,fun i hi=>absurd hi O_⟩)
instance:IsC Tryz.prog 94 1 false:=IsC.of O8 Ob rfl
instance:IsZC Tryz.prog 94 [.slice none 0 0]:=IsZC.of (z:=.slice none 0 0) O8 rfl
instance:IsT Tryz.prog 200 (List (List Bool)):=IsT.of O8 NJ rfl
instance:IsS Tryz.prog 200 80:=⟨NJ⟩
instance:IsZ Tryz.prog 200 ([]:List (List Bool)) 24:=IsZ.of (z:=.slice none 0 0) O8 (fun _ _=>⟨none,0,rfl,by simp,by simp[maxLen],fun _=>rfl,fun i hi=>absurd hi O_⟩)
instance:IsC Tryz.prog 200 1 false:=IsC.of O8 NJ rfl
instance:IsZC Tryz.prog 200 [.slice none 0 0]:=IsZC.of (z:=.slice none 0 0) O8 rfl
instance:IsC Tryz.prog 135 1 false:=IsC.of O8 Tryz.underlying135 rfl
instance:IsC Tryz.prog 127 1 false:=IsC.of O8 Tryz.underlying127 rfl
instance:IsC Tryz.prog 219 1 false:=IsC.of O8 Tryz.underlying219 rfl
instance:IsC Tryz.prog 277 1 false:=IsC.of O8 Tryz.underlying277 rfl
instance:IsC Tryz.prog 90 1 false:=IsC.of O8 Tryz.underlying90 rfl
instance:IsF Tryz.prog 276:=⟨_,Tryz.func276,rfl,by decide⟩
instance:IsF Tryz.prog 40:=⟨_,Tryz.func40,rfl,by decide⟩
instance:IsF Tryz.prog 77:=⟨_,Tryz.func77,rfl,by decide⟩
instance:IsF Tryz.prog 144:=⟨_,Tryz.func144,rfl,by decide⟩
instance:IsF Tryz.prog 229:=⟨_,Tryz.func229,rfl,by decide⟩
instance:IsF Tryz.prog 228:=⟨_,Tryz.func228,rfl,by decide⟩
instance:IsF Tryz.prog 157:=⟨_,Tryz.func157,rfl,by decide⟩
instance:IsF Tryz.prog 200:=⟨_,Tryz.func200,rfl,by decide⟩
instance:IsF Tryz.prog 122:=⟨_,Tryz.func122,rfl,by decide⟩
instance:IsF Tryz.prog 125:=⟨_,Tryz.func125,rfl,by decide⟩
instance:IsF Tryz.prog 205:=⟨_,Tryz.func205,rfl,by decide⟩
instance:IsF Tryz.prog 128:=⟨_,Tryz.func128,rfl,by decide⟩
instance:IsF Tryz.prog 207:=⟨_,Tryz.func207,rfl,by decide⟩
instance:IsF Tryz.prog 208:=⟨_,Tryz.func208,rfl,by decide⟩
instance:IsF Tryz.prog 209:=⟨_,Tryz.func209,rfl,by decide⟩
instance:IsF Tryz.prog 124:=⟨_,Tryz.func124,rfl,by decide⟩
instance:IsF Tryz.prog 202:=⟨_,Tryz.func202,rfl,by decide⟩
instance:IsF Tryz.prog 203:=⟨_,Tryz.func203,rfl,by decide⟩
instance:IsF Tryz.prog 204:=⟨_,Tryz.func204,rfl,by decide⟩
instance:IsF Tryz.prog 129:=⟨_,Tryz.func129,rfl,by decide⟩
instance:IsF Tryz.prog 126:=⟨_,Tryz.func126,rfl,by decide⟩
instance:IsF Tryz.prog 105:=⟨_,Tryz.func105,rfl,by decide⟩
instance:IsF Tryz.prog 100:=⟨_,Tryz.func100,rfl,by decide⟩
instance:IsF Tryz.prog 162:=⟨_,Tryz.func162,rfl,by decide⟩
instance:IsF Tryz.prog 96:=⟨_,Tryz.func96,rfl,by decide⟩
instance:IsF Tryz.prog 104:=⟨_,Tryz.func104,rfl,by decide⟩
instance:IsF Tryz.prog 103:=⟨_,Tryz.func103,rfl,by decide⟩
instance:IsF Tryz.prog 102:=⟨_,Tryz.func102,rfl,by decide⟩
instance:IsF Tryz.prog 163:=⟨_,Tryz.func163,rfl,by decide⟩
instance:IsF Tryz.prog 55:=⟨_,Tryz.func55,rfl,by decide⟩
instance:IsF Tryz.prog 97:=⟨_,Tryz.func97,rfl,by decide⟩
instance:IsF Tryz.prog 98:=⟨_,Tryz.func98,rfl,by decide⟩
instance:IsF Tryz.prog 101:=⟨_,Tryz.func101,rfl,by decide⟩
instance:IsF Tryz.prog 99:=⟨_,Tryz.func99,rfl,by decide⟩
instance:IsF Tryz.prog 161:=⟨_,Tryz.func161,rfl,by decide⟩
instance:IsF Tryz.prog 227:=⟨_,Tryz.func227,rfl,by decide⟩
instance:IsF Tryz.prog 156:=⟨_,Tryz.func156,rfl,by decide⟩
instance:IsF Tryz.prog 84:=⟨_,Tryz.func84,rfl,by decide⟩
instance:IsF Tryz.prog 85:=⟨_,Tryz.func85,rfl,by decide⟩
instance:IsF Tryz.prog 153:=⟨_,Tryz.func153,rfl,by decide⟩
instance:IsF Tryz.prog 38:=⟨_,Tryz.func38,rfl,by decide⟩
instance:IsF Tryz.prog 36:=⟨_,Tryz.func36,rfl,by decide⟩
instance:IsF Tryz.prog 79:=⟨_,Tryz.func79,rfl,by decide⟩
instance:IsF Tryz.prog 39:=⟨_,Tryz.func39,rfl,by decide⟩
instance:IsF Tryz.prog 49:=⟨_,Tryz.func49,rfl,by decide⟩
instance:IsF Tryz.prog 50:=⟨_,Tryz.func50,rfl,by decide⟩
instance:IsF Tryz.prog 48:=⟨_,Tryz.func48,rfl,by decide⟩
instance:IsF Tryz.prog 47:=⟨_,Tryz.func47,rfl,by decide⟩
instance:IsF Tryz.prog 46:=⟨_,Tryz.func46,rfl,by decide⟩
instance:IsF Tryz.prog 260:=⟨_,Tryz.func260,rfl,by decide⟩
instance:IsF Tryz.prog 261:=⟨_,Tryz.func261,rfl,by decide⟩
instance:IsF Tryz.prog 201:=⟨_,Tryz.func201,rfl,by decide⟩
instance:IsF Tryz.prog 65:=⟨_,Tryz.func65,rfl,by decide⟩
instance:IsF Tryz.prog 64:=⟨_,Tryz.func64,rfl,by decide⟩
instance:IsF Tryz.prog 130:=⟨_,Tryz.func130,rfl,by decide⟩
instance:IsF Tryz.prog 119:=⟨_,Tryz.func119,rfl,by decide⟩
instance:IsF Tryz.prog 196:=⟨_,Tryz.func196,rfl,by decide⟩
instance:IsF Tryz.prog 120:=⟨_,Tryz.func120,rfl,by decide⟩
instance:IsF Tryz.prog 113:=⟨_,Tryz.func113,rfl,by decide⟩
instance:IsF Tryz.prog 116:=⟨_,Ny,rfl,by decide⟩
instance:IsF Tryz.prog 115:=⟨_,Tryz.func115,rfl,by decide⟩
instance:IsF Tryz.prog 118:=⟨_,Tryz.func118,rfl,by decide⟩
instance:IsF Tryz.prog 193:=⟨_,Tryz.func193,rfl,by decide⟩
instance:IsF Tryz.prog 245:=⟨_,Tryz.func245,rfl,by decide⟩
instance:IsF Tryz.prog 253:=⟨_,Tryz.func253,rfl,by decide⟩
instance:IsF Tryz.prog 279:=⟨_,Tryz.func279,rfl,by decide⟩
instance:IsF Tryz.prog 195:=⟨_,Tryz.func195,rfl,by decide⟩
instance:IsF Tryz.prog 256:=⟨_,Tryz.func256,rfl,by decide⟩
instance:IsF Tryz.prog 257:=⟨_,Tryz.func257,rfl,by decide⟩
instance:IsF Tryz.prog 268:=⟨_,Tryz.func268,rfl,by decide⟩
instance:IsF Tryz.prog 281:=⟨_,Tryz.func281,rfl,by decide⟩
instance:IsF Tryz.prog 282:=⟨_,Tryz.func282,rfl,by decide⟩
instance:IsF Tryz.prog 117:=⟨_,Tryz.func117,rfl,by decide⟩
instance:IsF Tryz.prog 110:=⟨_,Tryz.func110,rfl,by decide⟩
instance:IsF Tryz.prog 66:=⟨_,Tryz.func66,rfl,by decide⟩
instance:IsF Tryz.prog 213:=⟨_,Tryz.func213,rfl,by decide⟩
instance:IsF Tryz.prog 141:=⟨_,Tryz.func141,rfl,by decide⟩
instance:IsF Tryz.prog 192:=⟨_,Tryz.func192,rfl,by decide⟩
instance:IsF Tryz.prog 12:=⟨_,Tryz.func12,rfl,by decide⟩
instance:IsF Tryz.prog 189:=⟨_,Tryz.func189,rfl,by decide⟩
instance:IsF Tryz.prog 134:=⟨_,Tryz.func134,rfl,by decide⟩
instance:IsF Tryz.prog 244:=⟨_,Tryz.func244,rfl,by decide⟩
instance:IsF Tryz.prog 152:=⟨_,Tryz.func152,rfl,by decide⟩
instance:IsF Tryz.prog 72:=⟨_,Tryz.func72,rfl,by decide⟩
instance:IsF Tryz.prog 243:=⟨_,Tryz.func243,rfl,by decide⟩
instance:IsF Tryz.prog 158:=⟨_,Tryz.func158,rfl,by decide⟩
instance:IsF Tryz.prog 206:=⟨_,Tryz.func206,rfl,by decide⟩
instance:IsF Tryz.prog 114:=⟨_,Tryz.func114,rfl,by decide⟩
instance:IsF Tryz.prog 249:=⟨_,Tryz.func249,rfl,by decide⟩
instance:IsF Tryz.prog 250:=⟨_,Tryz.func250,rfl,by decide⟩
instance:IsF Tryz.prog 248:=⟨_,Tryz.func248,rfl,by decide⟩
instance:IsF Tryz.prog 247:=⟨_,Tryz.func247,rfl,by decide⟩
instance:IsF Tryz.prog 277:=⟨_,Tryz.func277,rfl,by decide⟩
instance:IsF Tryz.prog 278:=⟨_,Tryz.func278,rfl,by decide⟩
instance:IsF Tryz.prog 275:=⟨_,Tryz.func275,rfl,by decide⟩
instance:IsF Tryz.prog 283:=⟨_,Tryz.func283,rfl,by decide⟩
instance:IsF Tryz.prog 252:=⟨_,Tryz.func252,rfl,by decide⟩
instance:IsF Tryz.prog 254:=⟨_,Tryz.func254,rfl,by decide⟩
instance:IsF Tryz.prog 255:=⟨_,Tryz.func255,rfl,by decide⟩
instance:IsF Tryz.prog 194:=⟨_,Tryz.func194,rfl,by decide⟩
instance:IsF Tryz.prog 251:=⟨_,Tryz.func251,rfl,by decide⟩
instance:IsF Tryz.prog 274:=⟨_,Tryz.func274,rfl,by decide⟩
instance:IsF Tryz.prog 37:=⟨_,Tryz.func37,rfl,by decide⟩
instance:IsF Tryz.prog 81:=⟨_,Tryz.func81,rfl,by decide⟩
instance:IsF Tryz.prog 83:=⟨_,Tryz.func83,rfl,by decide⟩
instance:IsF Tryz.prog 17:=⟨_,Tryz.func17,rfl,by decide⟩
instance:IsF Tryz.prog 82:=⟨_,Tryz.func82,rfl,by decide⟩
instance:IsF Tryz.prog 15:=⟨_,Tryz.func15,rfl,by decide⟩
instance:IsF Tryz.prog 16:=⟨_,Tryz.func16,rfl,by decide⟩
instance:IsF Tryz.prog 80:=⟨_,Tryz.func80,rfl,by decide⟩
instance:IsF Tryz.prog 41:=⟨_,Tryz.func41,rfl,by decide⟩
instance:IsF Tryz.prog 147:=⟨_,Tryz.func147,rfl,by decide⟩
instance:IsF Tryz.prog 146:=⟨_,Tryz.func146,rfl,by decide⟩
instance:IsF Tryz.prog 221:=⟨_,Tryz.func221,rfl,by decide⟩
instance:IsF Tryz.prog 121:=⟨_,Tryz.func121,rfl,by decide⟩
instance:IsF Tryz.prog 198:=⟨_,Tryz.func198,rfl,by decide⟩
instance:IsF Tryz.prog 199:=⟨_,Tryz.func199,rfl,by decide⟩
instance:IsF Tryz.prog 259:=⟨_,Tryz.func259,rfl,by decide⟩
instance:IsF Tryz.prog 197:=⟨_,Tryz.func197,rfl,by decide⟩
instance:IsF Tryz.prog 258:=⟨_,Tryz.func258,rfl,by decide⟩
instance:IsF Tryz.prog 94:=⟨_,Tryz.func94,rfl,by decide⟩
instance:IsF Tryz.prog 91:=⟨_,Tryz.func91,rfl,by decide⟩
instance:IsF Tryz.prog 272:=⟨_,Tryz.func272,rfl,by decide⟩
instance:IsF Tryz.prog 159:=⟨_,Tryz.func159,rfl,by decide⟩
instance:IsF Tryz.prog 231:=⟨_,Tryz.func231,rfl,by decide⟩
instance:IsF Tryz.prog 230:=⟨_,Tryz.func230,rfl,by decide⟩
instance:IsF Tryz.prog 88:=⟨_,Tryz.func88,rfl,by decide⟩
instance:IsF Tryz.prog 57:=⟨_,Tryz.func57,rfl,by decide⟩
instance:IsF Tryz.prog 177:=⟨_,Tryz.func177,rfl,by decide⟩
instance:IsF Tryz.prog 184:=⟨_,Tryz.func184,rfl,by decide⟩
instance:IsF Tryz.prog 185:=⟨_,Tryz.func185,rfl,by decide⟩
instance:IsF Tryz.prog 155:=⟨_,Tryz.func155,rfl,by decide⟩
instance:IsF Tryz.prog 174:=⟨_,Tryz.func174,rfl,by decide⟩
instance:IsF Tryz.prog 107:=⟨_,Tryz.func107,rfl,by decide⟩
instance:IsF Tryz.prog 173:=⟨_,Tryz.func173,rfl,by decide⟩
instance:IsF Tryz.prog 175:=⟨_,Tryz.func175,rfl,by decide⟩
instance:IsF Tryz.prog 176:=⟨_,Tryz.func176,rfl,by decide⟩
instance:IsF Tryz.prog 181:=⟨_,Tryz.func181,rfl,by decide⟩
instance:IsF Tryz.prog 183:=⟨_,Tryz.func183,rfl,by decide⟩
instance:IsF Tryz.prog 179:=⟨_,Tryz.func179,rfl,by decide⟩
instance:IsF Tryz.prog 186:=⟨_,Tryz.func186,rfl,by decide⟩
instance:IsF Tryz.prog 178:=⟨_,Tryz.func178,rfl,by decide⟩
instance:IsF Tryz.prog 180:=⟨_,Tryz.func180,rfl,by decide⟩
instance:IsF Tryz.prog 182:=⟨_,Tryz.func182,rfl,by decide⟩
instance:IsF Tryz.prog 86:=⟨_,Tryz.func86,rfl,by decide⟩
instance:IsF Tryz.prog 56:=⟨_,Tryz.func56,rfl,by decide⟩
instance:IsF Tryz.prog 169:=⟨_,Tryz.func169,rfl,by decide⟩
instance:IsF Tryz.prog 171:=⟨_,Tryz.func171,rfl,by decide⟩
instance:IsF Tryz.prog 106:=⟨_,Tryz.func106,rfl,by decide⟩
instance:IsF Tryz.prog 172:=⟨_,Tryz.func172,rfl,by decide⟩
instance:IsF Tryz.prog 164:=⟨_,Tryz.func164,rfl,by decide⟩
instance:IsF Tryz.prog 165:=⟨_,Tryz.func165,rfl,by decide⟩
instance:IsF Tryz.prog 167:=⟨_,Tryz.func167,rfl,by decide⟩
instance:IsF Tryz.prog 166:=⟨_,Tryz.func166,rfl,by decide⟩
instance:IsF Tryz.prog 154:=⟨_,Tryz.func154,rfl,by decide⟩
instance:IsF Tryz.prog 233:=⟨_,Tryz.func233,rfl,by decide⟩
instance:IsF Tryz.prog 170:=⟨_,Tryz.func170,rfl,by decide⟩
instance:IsF Tryz.prog 168:=⟨_,Tryz.func168,rfl,by decide⟩
instance:IsF Tryz.prog 234:=⟨_,Tryz.func234,rfl,by decide⟩
instance:IsF Tryz.prog 235:=⟨_,Tryz.func235,rfl,by decide⟩
instance:IsF Tryz.prog 237:=⟨_,Tryz.func237,rfl,by decide⟩
instance:IsF Tryz.prog 238:=⟨_,Tryz.func238,rfl,by decide⟩
instance:IsF Tryz.prog 239:=⟨_,Tryz.func239,rfl,by decide⟩
instance:IsF Tryz.prog 240:=⟨_,Tryz.func240,rfl,by decide⟩
instance:IsF Tryz.prog 236:=⟨_,Tryz.func236,rfl,by decide⟩
instance:IsF Tryz.prog 62:=⟨_,Tryz.func62,rfl,by decide⟩
instance:IsF Tryz.prog 127:=⟨_,Tryz.func127,rfl,by decide⟩
instance:IsF Tryz.prog 63:=⟨_,Tryz.func63,rfl,by decide⟩
instance:IsF Tryz.prog 132:=⟨_,Tryz.func132,rfl,by decide⟩
instance:IsF Tryz.prog 133:=⟨_,Tryz.func133,rfl,by decide⟩
instance:IsF Tryz.prog 210:=⟨_,Tryz.func210,rfl,by decide⟩
instance:IsF Tryz.prog 262:=⟨_,Tryz.func262,rfl,by decide⟩
instance:IsF Tryz.prog 280:=⟨_,Tryz.func280,rfl,by decide⟩
instance:IsF Tryz.prog 211:=⟨_,Tryz.func211,rfl,by decide⟩
instance:IsF Tryz.prog 264:=⟨_,Tryz.func264,rfl,by decide⟩
instance:IsF Tryz.prog 212:=⟨_,Tryz.func212,rfl,by decide⟩
instance:IsF Tryz.prog 263:=⟨_,Tryz.func263,rfl,by decide⟩
instance:IsF Tryz.prog 26:=⟨_,Tryz.func26,rfl,by decide⟩
instance:IsF Tryz.prog 7:=⟨_,Tryz.func7,rfl,by decide⟩
instance:IsF Tryz.prog 27:=⟨_,Tryz.func27,rfl,by decide⟩
instance:IsF Tryz.prog 23:=⟨_,Tryz.func23,rfl,by decide⟩
instance:IsF Tryz.prog 24:=⟨_,Tryz.func24,rfl,by decide⟩
instance:IsF Tryz.prog 54:=⟨_,Tryz.func54,rfl,by decide⟩
instance:IsF Tryz.prog 53:=⟨_,Tryz.func53,rfl,by decide⟩
instance:IsF Tryz.prog 58:=⟨_,Tryz.func58,rfl,by decide⟩
instance:IsF Tryz.prog 90:=⟨_,Tryz.func90,rfl,by decide⟩
instance:IsF Tryz.prog 271:=⟨_,Tryz.func271,rfl,by decide⟩
instance:IsF Tryz.prog 108:=⟨_,Tryz.func108,rfl,by decide⟩
instance:IsF Tryz.prog 187:=⟨_,Tryz.func187,rfl,by decide⟩
instance:IsF Tryz.prog 226:=⟨_,Tryz.func226,rfl,by decide⟩
instance:IsF Tryz.prog 75:=⟨_,Tryz.func75,rfl,by decide⟩
instance:IsF Tryz.prog 142:=⟨_,Tryz.func142,rfl,by decide⟩
instance:IsF Tryz.prog 51:=⟨_,Tryz.func51,rfl,by decide⟩
instance:IsF Tryz.prog 143:=⟨_,Tryz.func143,rfl,by decide⟩
instance:IsF Tryz.prog 45:=⟨_,Tryz.func45,rfl,by decide⟩
instance:IsF Tryz.prog 138:=⟨_,Tryz.func138,rfl,by decide⟩
instance:IsF Tryz.prog 139:=⟨_,Tryz.func139,rfl,by decide⟩
instance:IsF Tryz.prog 215:=⟨_,Tryz.func215,rfl,by decide⟩
instance:IsF Tryz.prog 137:=⟨_,Tryz.func137,rfl,by decide⟩
instance:IsF Tryz.prog 214:=⟨_,Tryz.func214,rfl,by decide⟩
instance:IsF Tryz.prog 140:=⟨_,Tryz.func140,rfl,by decide⟩
instance:IsF Tryz.prog 151:=⟨_,Tryz.func151,rfl,by decide⟩
instance:IsF Tryz.prog 112:=⟨_,Tryz.func112,rfl,by decide⟩
instance:IsF Tryz.prog 246:=⟨_,Tryz.func246,rfl,by decide⟩
instance:IsF Tryz.prog 242:=⟨_,Tryz.func242,rfl,by decide⟩
instance:IsF Tryz.prog 191:=⟨_,Tryz.func191,rfl,by decide⟩
instance:IsF Tryz.prog 190:=⟨_,Tryz.func190,rfl,by decide⟩
instance:IsF Tryz.prog 241:=⟨_,Tryz.func241,rfl,by decide⟩
instance:IsF Tryz.prog 13:=⟨_,Tryz.func13,rfl,by decide⟩
instance:IsF Tryz.prog 22:=⟨_,Tryz.func22,rfl,by decide⟩
instance:IsF Tryz.prog 25:=⟨_,Tryz.func25,rfl,by decide⟩
instance:IsF Tryz.prog 89:=⟨_,Tryz.func89,rfl,by decide⟩
instance:IsF Tryz.prog 87:=⟨_,Tryz.func87,rfl,by decide⟩
instance:IsF Tryz.prog 59:=⟨_,Tryz.func59,rfl,by decide⟩
instance:IsF Tryz.prog 93:=⟨_,Tryz.func93,rfl,by decide⟩
instance:IsF Tryz.prog 52:=⟨_,Tryz.func52,rfl,by decide⟩
instance:IsF Tryz.prog 92:=⟨_,Tryz.func92,rfl,by decide⟩
instance:IsF Tryz.prog 21:=⟨_,Tryz.func21,rfl,by decide⟩
instance:IsF Tryz.prog 68:=⟨_,Tryz.func68,rfl,by decide⟩
instance:IsF Tryz.prog 32:=⟨_,Tryz.func32,rfl,by decide⟩
instance:IsF Tryz.prog 123:=⟨_,Tryz.func123,rfl,by decide⟩
instance:IsF Tryz.prog 30:=⟨_,Tryz.func30,rfl,by decide⟩
instance:IsF Tryz.prog 73:=⟨_,Tryz.func73,rfl,by decide⟩
instance:IsF Tryz.prog 136:=⟨_,Tryz.func136,rfl,by decide⟩
instance:IsF Tryz.prog 70:=⟨_,Tryz.func70,rfl,by decide⟩
instance:IsF Tryz.prog 135:=⟨_,Tryz.func135,rfl,by decide⟩
instance:IsF Tryz.prog 71:=⟨_,Tryz.func71,rfl,by decide⟩
instance:IsF Tryz.prog 69:=⟨_,Tryz.func69,rfl,by decide⟩
instance:IsF Tryz.prog 11:=⟨_,Tryz.func11,rfl,by decide⟩
instance:IsF Tryz.prog 74:=⟨_,Tryz.func74,rfl,by decide⟩
instance:IsF Tryz.prog 33:=⟨_,Tryz.func33,rfl,by decide⟩
instance:IsF Tryz.prog 29:=⟨_,Tryz.func29,rfl,by decide⟩
instance:IsF Tryz.prog 67:=⟨_,Tryz.func67,rfl,by decide⟩
instance:IsF Tryz.prog 34:=⟨_,Tryz.func34,rfl,by decide⟩
instance:IsF Tryz.prog 31:=⟨_,Tryz.func31,rfl,by decide⟩
instance:IsF Tryz.prog 10:=⟨_,Tryz.func10,rfl,by decide⟩
instance:IsF Tryz.prog 131:=⟨_,Tryz.func131,rfl,by decide⟩
instance:IsF Tryz.prog 28:=⟨_,Tryz.func28,rfl,by decide⟩
instance:IsF Tryz.prog 35:=⟨_,Tryz.func35,rfl,by decide⟩
instance:IsF Tryz.prog 76:=⟨_,Tryz.func76,rfl,by decide⟩
instance:IsF Tryz.prog 61:=⟨_,Tryz.func61,rfl,by decide⟩
instance:IsF Tryz.prog 14:=⟨_,Tryz.func14,rfl,by decide⟩
instance:IsF Tryz.prog 20:=⟨_,Tryz.func20,rfl,by decide⟩
instance:IsF Tryz.prog 6:=⟨_,Tryz.func6,rfl,by decide⟩
instance:IsF Tryz.prog 19:=⟨_,Tryz.func19,rfl,by decide⟩
instance:IsF Tryz.prog 60:=⟨_,Tryz.func60,rfl,by decide⟩
instance:IsF Tryz.prog 111:=⟨_,Tryz.func111,rfl,by decide⟩
instance:IsF Tryz.prog 95:=⟨_,Tryz.func95,rfl,by decide⟩
instance:IsF Tryz.prog 160:=⟨_,Tryz.func160,rfl,by decide⟩
instance:IsF Tryz.prog 232:=⟨_,Tryz.func232,rfl,by decide⟩
instance:IsF Tryz.prog 273:=⟨_,Tryz.func273,rfl,by decide⟩
instance:IsF Tryz.prog 109:=⟨_,Tryz.func109,rfl,by decide⟩
instance:IsF Tryz.prog 188:=⟨_,Tryz.func188,rfl,by decide⟩
open Go.RowKit
inductive Ltl where
 |mk (k n:Int) (kids:List Ltl):Ltl
def Ltl.k:Ltl→Int|.mk k _ _=>k
def Ltl.n:Ltl→Int|.mk _ n _=>n
def Ltl.kids:Ltl→List Ltl|.mk _ _ l=>l
mutual
def Ltl.nodes:Ltl→Nat
 |.mk _ _ kids=>1+Ltl.nodesL kids
def Ltl.nodesL:List Ltl→Nat
 |[]=>0
 |x::r=>x.nodes+Ltl.nodesL r
end
theorem Ltl.nodes_pos(t:Ltl):0<t.nodes:=by cases t;simp[Ltl.nodes];omega
theorem Ltl.nodes_kid:∀(l:List Ltl) (x:Ltl),x∈l→x.nodes≤Ltl.nodesL l
 |[],x,h=>by cases h
 |y::r,x,h=>by
  simp only[Ltl.nodesL];rcases LN.1 h with rfl|h
  ·omega
  ·have:=Ltl.nodes_kid r x h;omega
inductive RdT(w:World)(F:Nat→Prop):List Value→Ltl→Prop
 |mk (k n:Int) (kids:List Ltl) (ao:Option Addr) (cap:Nat) (es:Nat→List Value):kids.length≤cap→cap≤maxLen→(ao=none→cap=0)→
   (∀i,i<kids.length→∃b off,ao=some ⟨b,off,none⟩∧F b∧Cells w b (off+i*3) (es i))→(∀i (h:i<kids.length),RdT w F (es i) kids[i])→
   RdT w F [.int .i64 k,.int .i64 n,.slice ao kids.length cap] (.mk k n kids)
instance sH:Rep Ltl where
 sz:=3
 pos:=by decide
 agg:=true
 rd:=RdT
 len:=by intro w F cs x h;cases h;rfl
 one:=by
  intro w F cs x h v a
  cases h
  simp at a
  rcases a with rfl|rfl|rfl<;>rfl
 szAgg:=fun h=>by cases h
 mono:=by
  intro w w' F F' cs x h f hF
  induction h with
  |mk k n kids ao cap g h1 h2 h3 h4 j c=>
   refine .mk k n kids ao cap g h1 h2 h3 (fun i hi=>?_) (fun i hi=>c i hi);obtain⟨b,off,e,hf,d⟩:=h4 i hi;exact⟨b,off,e,hF b hf,d.mono (f b hf)⟩
theorem RdT.sl{w:World}{F:Nat→Prop}{cs:List Value}{t:Ltl}(h:rd w F cs t):∃ao cap,cs=[Py t.k,Py t.n,.slice ao t.kids.length cap]∧Sl w F ao cap t.kids:=by
 cases h with
 |mk k n kids ao cap d h1 h2 h3 h4 c=>
  refine⟨ao,cap,rfl,h1,h2,h3,fun i hi=>?_⟩;obtain⟨b,off,e,hf,a⟩:=h4 i hi;exact⟨b,off,e,hf,d i,a,c i hi⟩
theorem RdT.of{w:World}{F:Nat→Prop}{k n:Int}{kids:List Ltl}{ao:Option Addr}{cap:Nat}(h:Sl w F ao cap kids):rd w F [Py k,Py n,.slice ao kids.length cap] (Ltl.mk k n kids):=by
 have h4:∀i,∃c:List Value,∀hi:i<kids.length,∃b off,ao=some ⟨b,off,none⟩∧F b∧Cells w b (off+i*3) c∧rd w F c kids[i]:=by
  intro i
  by_cases hi:i<kids.length
  ·obtain⟨b,off,e,hf,c,a,d⟩:=h.el i hi
   exact⟨c,fun _=>⟨b,off,e,hf,a,d⟩⟩
  ·exact⟨[],fun h=>absurd h hi⟩
 refine .mk k n kids ao cap (fun i=>Classical.choose (h4 i)) h.le h.mx h.nil (fun i hi=>?_) (fun i hi=>?_)
 ·obtain⟨b,off,e,hf,a,_⟩:=J2 (h4 i) hi
  exact⟨b,off,e,hf,a⟩
 ·obtain⟨b,off,e,hf,a,d⟩:=J2 (h4 i) hi
  exact d
abbrev ym(k n:Int)(ao:Option Addr)(len cap:Nat):Value:=.agg [.int .i64 k,.int .i64 n,.slice ao len cap].toArray
theorem Rd.ltl{w:World}{F:Nat→Prop}{v:Value}{t:Ltl}(h:Rd w F v t):∃ao cap,v=ym t.k t.n ao t.kids.length cap∧Sl w F ao cap t.kids:=by
 obtain⟨cs,e,b⟩:=h;obtain⟨ao,cap,rfl,a⟩:=RdT.sl b;exact⟨ao,cap,e,a⟩
theorem Rd.mkLtl{w:World}{F:Nat→Prop}{k n:Int}{kids:List Ltl}{ao:Option Addr}{cap:Nat}(h:Sl w F ao cap kids):Rd w F (ym k n ao kids.length cap) (Ltl.mk k n kids):=⟨_,rfl,RdT.of h⟩
instance sM:IsT Tryz.prog 32 Ltl:=IsT.of O8 Tryz.underlying32 rfl
instance sN:IsS Tryz.prog 30 32:=⟨NV⟩
instance sO:IsT Tryz.prog 30 (List Ltl):=IsT.of O8 NV rfl
instance sP:IsZ Tryz.prog 32 (Ltl.mk 0 0 []) 40:=IsZ.of (z:=.agg #[Py 0,Py 0,.slice none 0 0]) O8 (fun _ _=>RdT.of (kids:=[]) ⟨by simp,by simp[maxLen],fun _=>rfl,fun i hi=>absurd hi O_⟩)
instance sQ:IsC Tryz.prog 32 3 true:=IsC.of O8 Tryz.underlying32 rfl
instance sR:IsC Tryz.prog 30 1 false:=IsC.of O8 NV rfl
instance sS:IsFd Tryz.prog 32 0 0:=IsFd.of O8
instance sI:IsFd Tryz.prog 32 1 1:=IsFd.of O8
instance sJ:IsFd Tryz.prog 32 2 2:=IsFd.of O8
instance sK:IsZC Tryz.prog 32 [Py 0,Py 0,.slice none 0 0]:=IsZC.of (z:=.agg #[Py 0,Py 0,.slice none 0 0]) O8 rfl
instance sL:IsBd Tryz.prog 32 [(0,1),(1,1),(2,1)]:=IsBd.of O8
def wY(k:Int):Int:=if k=1∨k=2∨k=3 then 0 else if k=4∨k=7∨k=10∨k=11 then 1 else if k=5∨k=6∨k=8∨k=9 then 2 else -1
theorem xa(w:World)(k:Int):Rt Tryz.prog 187 [Py k].toArray w fun v w'=>v=Py (wY k)∧w=w':=by
 refine dD Tryz.func187 Tryz.ntmps187 rfl rfl ?_;unfold wY;refine Qj ?_;refine CW.cond rfl (fun h=>?_) (fun h=>?_)<;>simp at h
 ·subst h;refine QK ?_
  exact be rfl rfl ⟨rfl,rfl⟩
 refine Qt ?_;refine CW.cond rfl (fun h=>?_) (fun h=>?_)<;>simp at h
 ·subst h;refine QK ?_
  exact be rfl rfl ⟨rfl,rfl⟩
 refine Qq ?_;refine CW.cond rfl (fun h=>?_) (fun h=>?_)<;>simp at h
 ·subst h;refine PA ?_
  exact be rfl rfl ⟨rfl,rfl⟩
 rw[OJ O7];refine Qt ?_;refine CW.cond rfl (fun h=>?_) (fun h=>?_)<;>simp at h
 ·subst h;refine QK ?_
  exact be rfl rfl ⟨rfl,rfl⟩
 refine Qt ?_;refine CW.cond rfl (fun h=>?_) (fun h=>?_)<;>simp at h
 ·subst h;refine QK ?_
  exact be rfl rfl ⟨rfl,rfl⟩
 refine Qt ?_;refine CW.cond rfl (fun h=>?_) (fun h=>?_)<;>simp at h
 ·subst h;refine QK ?_
  exact be rfl rfl ⟨rfl,rfl⟩
 refine Qq ?_;refine CW.cond rfl (fun h=>?_) (fun h=>?_)<;>simp at h
 ·subst h;refine PA ?_
  exact be rfl rfl ⟨rfl,rfl⟩
 rw[OJ O7];refine Qt ?_;refine CW.cond rfl (fun h=>?_) (fun h=>?_)<;>simp at h
 ·subst h;refine QK ?_
  exact be rfl rfl ⟨rfl,rfl⟩
 refine Qt ?_;refine CW.cond rfl (fun h=>?_) (fun h=>?_)<;>simp at h
 ·subst h;refine QK ?_
  exact be rfl rfl ⟨rfl,rfl⟩
 refine Qt ?_;refine CW.cond rfl (fun h=>?_) (fun h=>?_)<;>simp at h
 ·subst h;refine QK ?_
  exact be rfl rfl ⟨rfl,rfl⟩
 refine Qq ?_;refine CW.cond rfl (fun h=>?_) (fun h=>?_)<;>simp at h
 ·subst h;refine PA ?_
  exact be rfl rfl ⟨rfl,rfl⟩
 rw[OJ O7];refine QU ?_;exact be rfl rfl ⟨rfl,rfl⟩
theorem rK{w c b:World}{r:Option Nat}(h1:w.grownBy c r)(h2:c.grownBy b r):w.grownBy b r:=
 ⟨h2.os.trans h1.os,h2.tape.trans h1.tape,h2.output.trans h1.output,MN h1.size h2.size,fun k d a=>(h2.block k (MQ d h1.size) a).trans (h1.block k d a)⟩
theorem Ext.grw{w a:World}(h:Ext w a)(r:Option Nat):w.grownBy a r:=⟨h.os,h.tape,h.output,h.size,fun k b _=>h.block k b⟩
mutual
def jv:Ltl→Int→Int→Int×Int
 |.mk k n kids,deep,c=>if c+1>60 then(2,c+1)else if deep>20 then(5,c+1)else if wY k≠kids.length∨n<0∨n>63∨(k≠3∧n≠0)then(1,c+1)else jw kids (deep+1) (c+1)
def jw:List Ltl→Int→Int→Int×Int
 |[],_,c=>(0,c)
 |x::r,deep,c=>if(jv x deep c).1≠0 then jv x deep c else jw r deep (jv x deep c).2
end
mutual
theorem jA:∀(t:Ltl) (deep c:Int),(jv t deep c).1=0→c<(jv t deep c).2∧(jv t deep c).2≤60
 |.mk k n kids,deep,c,h=>by
  simp only[jv]at h⊢
  split at h
  ·cases h
  ·rename_i h1
   rw[OJ h1];split at h
   ·cases h
   ·rename_i h2
    rw[OJ h2];split at h
    ·cases h
    ·rename_i h3
     rw[OJ h3];have:=jx kids (deep+1) (c+1) O7 h;omega
theorem jx:∀(l:List Ltl) (deep c:Int),c≤60→(jw l deep c).1=0→c≤(jw l deep c).2∧(jw l deep c).2≤60
 |[],deep,c,a,h=>by simp only[jw];omega
 |x::r,deep,c,a,h=>by
  simp only[jw]at h⊢
  split at h
  ·rename_i h1;exact absurd h h1
  ·rename_i h1
   rw[OJ h1];have h2:=jA x deep c (by simpa using h1);have h3:=jx r deep _ h2.2 h;omega
end
theorem yl:∀(m:Nat) (t:Ltl),t.nodes≤m→∀(w:World) (F:Nat→Prop) (deep c:Int) (bn:Nat) (ao:Option Addr) (cap:Nat),Sl w F ao cap t.kids→(∀b,F b→b<w.heap.size)→¬F bn→
  Blk w bn 3 [Py c]→0≤c→c≤60→0≤deep→deep≤1000→
  Rt Tryz.prog 108 [ym t.k t.n ao t.kids.length cap,Py deep,Pz bn].toArray w fun v w'=>v=Py (jv t deep c).1∧Blk w' bn 3 [Py (jv t deep c).2]∧w.grownBy w' (some bn)
 |0,t,Z=>by have:=t.nodes_pos;omega
 |m+1,.mk k n kids,Z=>by
  intro w F deep c bn ao cap Y hF hn f hc0 hc1 hd0 hd1
  simp only[Ltl.kids,Ltl.k,Ltl.n]at*
  refine dF Tryz.func108 Tryz.ntmps108 rfl rfl ?_;have hlen:=Y.len63;have hbn:=f.lt;refine PB ?_;refine dX rfl rfl rfl fun w1 hf N=>?_
  have V:=f.ext N;have R:=N.grw (some bn);refine Qn ?_;refine WL.st rfl rfl rfl V rfl rfl Pr (fun w2 A D=>?_);have G:=hf.kept D Pc;have p:=rK R D;simp only[jv];refine QE ?_;refine CW.cond rfl (fun h=>?_) (fun h=>?_)<;>simp only[OD,OA,OG]at h
  ·refine PA ?_
   refine be rfl rfl ?_;rw[OK h];exact⟨rfl,A,p⟩
  rw[OJ O7];refine Qt ?_;refine CW.cond rfl (fun h1=>?_) (fun h1=>?_)<;>simp only[OD,OA,OG]at h1
  ·refine PA ?_
   refine be rfl rfl ?_;rw[OK h1];exact⟨rfl,A,p⟩
  rw[OJ O7];refine aA [(1,Py deep),(2,Pz bn),(3,Pz w.heap.size),(23,.bool (decide (wY k≠kids.length∨n<0∨n>63∨(k≠3∧n≠0))))] ?_ ?_
  ·refine Rg ?_
   refine QL.call rfl rfl rfl (fun w' h=>Rt.mono (xa w' k) (fun v w'' X=>⟨X.1,X.2▸Ext.refl _⟩)) ?_;refine Ry ?_;refine QL.nil fun w3 a=>?_
   have T:=G.ext a;refine PC ?_;refine CW.cond rfl (fun h2=>?_) (fun h2=>?_)<;>simp at h2
   ·refine PD ?_
    refine aT ⟨rfl,rfl,rfl,?_,trivial⟩ a;refine Ox (fun b=>some (Value.bool b)) ?_;have:(wY k != (kids.length:Int))=true:=by simpa using h2
    rw[this,OC (.inl h2)]
   ·refine Q1 ?_
    (refine eV rfl rfl (fun h=>?_) (fun h=>?_))<;>simp at h
    ·refine PE ?_
     refine aT ⟨rfl,rfl,rfl,?_,trivial⟩ a;refine Ox (fun b=>some (Value.bool b)) ?_;rw[OC (.inr (.inl h))]
    ·refine QM ?_
     refine CW.cond rfl (fun h3=>?_) (fun h3=>?_)<;>simp at h3
     ·refine PD ?_
      refine aT ⟨rfl,rfl,rfl,?_,trivial⟩ a;refine Ox (fun b=>some (Value.bool b)) ?_;rw[OC h3,OC (.inr (.inr (.inl h3)))]
     ·refine Q1 ?_
      (refine eV rfl rfl (fun h=>?_) (fun h=>?_))<;>simp at h
      ·refine QM ?_
       refine aT ⟨rfl,rfl,rfl,?_,trivial⟩ a;refine Ox (fun b=>some (Value.bool b)) ?_
       (rw[JN];simp;try omega)
      ·refine PH ?_
       refine aT ⟨rfl,rfl,rfl,?_,trivial⟩ a;refine Ox (fun b=>some (Value.bool b)) ?_
       (rw[JN];simp;try omega)
  intro w3 a
  have K:=A.ext a;have T:=G.ext a;have E:=rK p (a.grw (some bn));refine CW.cond rfl (fun h2=>?_) (fun h2=>?_)<;>simp only[OD,OA]at h2
  ·rw[OK h2]
   refine PA ?_;exact be rfl rfl ⟨rfl,K,E⟩
  rw[OJ h2];refine QP ?_;refine CW.loop (S:=Nat×Int) (fun x=>[(1,Py deep),(2,Pz bn),(48,.slice ao kids.length cap),(49,Py (kids.length:Int)),(50,Py (x.1:Int))])
   (fun x w'=>w.grownBy w' (some bn)∧Blk w' bn 3 [Py x.2]∧0≤x.2∧x.2≤60∧x.1≤kids.length∧jw kids (deep+1) (c+1)=jw (kids.drop x.1) (deep+1) x.2) (fun x=>kids.length -x.1) (0,c+1) O6 ⟨E,K,by simp only;omega,by simp only;omega,by omega,rfl⟩ ?_
  rintro⟨i,ci⟩ O ⟨d,z,l,I,hi,H⟩
  simp only at z l I hi H
  rw[H];refine Qt ?_;refine CW.cond rfl (fun h3=>?_) (fun h3=>?_)<;>simp at h3
  ·have P:Sl O F ao cap kids:=Y.mono (fun b f=>d.block b (hF b f) (by intro e;cases e;exact hn f)) fun _ h=>h
   have L:∀b,F b→b<O.heap.size:=fun b f=>MQ (hF b f) d.size
   refine Rb ?_;refine eC rfl rfl rfl rfl rfl P h3 Pg (fun u q hu=>?_);have s:kids.drop i=kids[i]::kids.drop (i+1):=Kx h3;have o:(kids[i]).nodes≤m:=by
    have:=Ltl.nodes_kid kids _ (Lc h3);simp only[Ltl.nodes]at Z;omega
   rw[s];simp only[jw];generalize kids[i]=x at*
   obtain⟨ao',cap',rfl,hx⟩:=hu.ltl;have hw4:w.heap.size≤O.heap.size:=d.size;refine WL.alloc rfl rfl (fun w5 U M=>?_);refine WL.st rfl rfl rfl U rfl rfl Pr (fun W hb6 C=>?_);have j:Ext O W:=M.grown C M.size Pi;have J:=z.ext j;have Q:=rK d (j.grw (some bn));refine Q7 ?_;refine WL.call rfl rfl rfl (yl m x o W F (deep+1) ci bn ao' cap' (hx.mono (fun b f=>j.block b (L b f)) fun _ h=>h) (fun b f=>MQ (L b f) j.size) hn J l I O7 O7) ?_;rintro v w7 ⟨rfl,y,g⟩
   have g:=rK Q g;have B:=jA x (deep+1) ci;generalize jv x (deep+1) ci=r at*
   obtain⟨e,c'⟩:=r;simp only at B y
   refine Qt ?_;refine CW.cond rfl (fun h4=>?_) (fun h4=>?_)<;>simp at h4
   ·refine PA ?_
    refine be rfl rfl ?_;rw[OK h4];exact⟨rfl,y,g⟩
   ·have:=B h4
    refine PI ?_;refine EX.back (i+1,c') O6 ⟨g,y,by simp only;omega,by simp only;omega,by simp only;omega,?_⟩ (by simp only;omega);simp only;rw[OJ (by simp[h4])]
  ·refine P_ ?_
   refine be rfl rfl ?_;rw[Ky O7];exact⟨rfl,z,d⟩
theorem yk(w:World){F:Nat→Prop}{t:Ltl}{ao:Option Addr}{cap:Nat}(o:Sl w F ao cap t.kids)(hF:∀b,F b→b<w.heap.size):
  Rt Tryz.prog 58 [ym t.k t.n ao t.kids.length cap].toArray w fun v w'=>v=Py (jv t 1 0).1∧Ext w w':=by
 refine dD Tryz.func58 Tryz.ntmps58 rfl rfl ?_;refine PB ?_;refine dX rfl rfl rfl fun m hf c=>?_
 refine Qt ?_;refine WL.alloc rfl rfl (fun u d i=>?_);have p:=d.lt;refine WL.st rfl rfl rfl d rfl rfl Pr (fun l d f=>?_);have e:=c.trans i;have a:Ext w l:=e.grown f e.size (fun g k=>by cases k;exact c.size);have q:=(hf.ext i).kept f (by have:=hf.lt;simp;omega);have n:w.heap.size≤m.heap.size:=c.size;refine PJ ?_;refine WL.call rfl rfl rfl (yl t.nodes t Pu l F 1 0 m.heap.size ao cap (o.mono (fun b d=>a.block b (hF b d)) fun _ h=>h) (fun b d=>MQ (hF b d) a.size) (fun h=>by have:=hF _ h;omega) d O7 O7 O7 O7) ?_;rintro v s ⟨rfl,r,j⟩
 refine PK ?_;exact be rfl rfl ⟨rfl,a.grown j a.size (fun g k=>by cases k;exact c.size)⟩
abbrev ar:=List UInt8
def Gq:ar:=[116,114,117,101]
def Gm:ar:=[102,97,108,115,101]
def Gp:ar:=[115,105,108,101,110,116]
def vh(a:List ByteArray)(l:ar):Int:=match a.findIdx? (fun x=>x.data.toList==l)with
 |some i=>(i:Int)
 |none=> -1
def zv(a:List ByteArray)(n:Int):ar:=
 if n=63 then Gp else if n≥(a.length:Int)then []else if yZ (a.getD n.toNat ⟨#[]⟩)=false then []
 else if vh a (a.getD n.toNat ⟨#[]⟩).data.toList≠n then []else(a.getD n.toNat ⟨#[]⟩).data.toList
theorem y_{l:ar}(h:y0 l=true):∀c∈l,yg c=true:=by
 unfold y0 at h
 simp only[JL]at h
 exact Kd.1 h.2
theorem za{l:ar}(h:y0 l=true):l≠[]∧l≠Gq∧l≠Gm∧l≠Gp∧l.length≤8:=by
 unfold y0 at h
 simp only[JL,JS,Oo,OA]at h
 obtain⟨⟨⟨⟨⟨h1,h2⟩,h3⟩,h4⟩,a⟩,_⟩:=h;exact⟨h1,h3,h4,a,by omega⟩
theorem zx(a:List ByteArray)(n:Int):(zv a n).length≤8:=by
 unfold zv;split
 ·decide
 split
 ·simp
 split
 ·simp
 rename_i h;split
 ·simp
 exact(za (l:=(a.getD n.toNat ⟨#[]⟩).data.toList) (by simpa using h)).2.2.2.2
def gZ(k i kid:Int):Bool:=if kid=5 then k==6||(k==5&&i==0)else if kid=6 then k==6&&i==0 else if kid=8∨kid=9 then k==kid&&i==1 else true
def wS(b:Bool)(t:ar):ar:=if b=true then t else 40::(t++[41])
def Fk(k:Int):ar:=if k=5 then [38]else if k=6 then [47]else if k=8 then [85]else if k=9 then [82]else []
def wj(nm:Int→ar)(k n:Int)(ks:List (Int×ar)):ar:=
 if k=1 then Gq else if k=2 then Gm else if k=3 then nm n
 else if k=4 then 33::wS (gZ k 0 (ks.getD 0 (0,[])).1) (ks.getD 0 (0,[])).2
 else if k=7 then 88::32::wS (gZ k 0 (ks.getD 0 (0,[])).1) (ks.getD 0 (0,[])).2
 else if k=10 then 70::32::wS (gZ k 0 (ks.getD 0 (0,[])).1) (ks.getD 0 (0,[])).2
 else if k=11 then 71::32::wS (gZ k 0 (ks.getD 0 (0,[])).1) (ks.getD 0 (0,[])).2
 else wS (gZ k 0 (ks.getD 0 (0,[])).1) (ks.getD 0 (0,[])).2++[32]++Fk k++[32]++wS (gZ k 1 (ks.getD 1 (0,[])).1) (ks.getD 1 (0,[])).2
mutual
def H6(nm:Int→ar):Ltl→ar
 |.mk k n kids=>wj nm k n (H9 nm kids)
def H9(nm:Int→ar):List Ltl→List (Int×ar)
 |[]=>[]
 |x::r=>(x.k,H6 nm x)::H9 nm r
end
mutual
def gR(nm:Int→ar):Ltl→Bool
 |.mk k n kids=>(k==3&&nm n==[])||gS nm kids
def gS(nm:Int→ar):List Ltl→Bool
 |[]=>false
 |x::r=>gR nm x||gS nm r
end
def Cn(f:Ltl)(a:List ByteArray):ar×Int:=
 if(jv f 1 0).1≠0 then([],(jv f 1 0).1)else if gR (zv a) f=true then([],4)else(H6 (zv a) f,0)
theorem wT(b:Bool)(t:ar):(wS b t).length≤t.length+2:=by
 unfold wS;split<;>simp
theorem wl{nm:Int→ar}(hn:∀n,(nm n).length≤8)(k n:Int)(ks:List (Int×ar)):(wj nm k n ks).length≤(ks.getD 0 (0,[])).2.length+(ks.getD 1 (0,[])).2.length+8:=by
 have a:=wT (gZ k 0 (ks.getD 0 (0,[])).1) (ks.getD 0 (0,[])).2;have h1:=wT (gZ k 1 (ks.getD 1 (0,[])).1) (ks.getD 1 (0,[])).2;have h2:=hn n;have h3:(Fk k).length≤1:=by unfold Fk;repeat (first|split|simp)
 unfold wj Gq Gm
 iterate 7 (split;·(first|omega|(simp only[Ll,Lm,Lt];omega)))
 simp only[Ll,Lm,Lt];omega
mutual
theorem H8{nm:Int→ar}(hn:∀n,(nm n).length≤8):∀f:Ltl,(H6 nm f).length≤8*f.nodes
 |.mk k n kids=>by
  have h:=wl hn k n (H9 nm kids);have h2:=H_ hn kids;simp only[H6,Ltl.nodes];have:((H9 nm kids).getD 0 (0,[])).2.length+((H9 nm kids).getD 1 (0,[])).2.length≤((H9 nm kids).map fun x=>x.2.length).sum:=by
   rcases H9 nm kids with _|⟨a,_|⟨b,r⟩⟩<;>simp<;>omega
  omega
theorem H_{nm:Int→ar}(hn:∀n,(nm n).length≤8):∀l:List Ltl,((H9 nm l).map fun x=>x.2.length).sum≤8*Ltl.nodesL l
 |[]=>by simp[H9,Ltl.nodesL]
 |x::r=>by
  have h1:=H8 hn x;have h2:=H_ hn r;simp only[H9,Ltl.nodesL,LG,Mh];omega
end
inductive PR where
 |er (c:Int) (a:Nat):PR
 |ok (f:Ltl) (st:ar×ar):PR
theorem wZ{k:Int}{m:Nat}(h:wY k=(m:Int)):(m=0∧(k=1∨k=2∨k=3))∨(m=1∧(k=4∨k=7∨k=10∨k=11))∨(m=2∧(k=5∨k=6∨k=8∨k=9)):=by
 unfold wY at h
 split at h
 ·left;exact⟨by omega,by assumption⟩
 split at h
 ·right;left;exact⟨by omega,by assumption⟩
 split at h
 ·right;right;exact⟨by omega,by assumption⟩
 ·omega
def UT(t:ar):Prop:=t≠[85]∧t≠[82]∧t≠[87]
instance(t:ar):Decidable (UT t):=by unfold UT;infer_instance
section
variable {nms:List ByteArray}{t u:ar}{f g:Ltl}
end
section
variable {nms:List ByteArray}{t:ar}{f:Ltl}
end
section
variable {nms:List ByteArray}{N:Nat}{PF:Ltl→Prop}
end
instance rZ:IsT Tryz.prog 35 Ltl:=IsT.of O8 Tryz.underlying35 rfl
instance r6:IsS Tryz.prog 33 35:=⟨NX⟩
instance r8:IsT Tryz.prog 33 (List Ltl):=IsT.of O8 NX rfl
instance r9:IsC Tryz.prog 35 3 true:=IsC.of O8 Tryz.underlying35 rfl
instance r_:IsC Tryz.prog 33 1 false:=IsC.of O8 NX rfl
instance sa:IsFd Tryz.prog 35 0 0:=IsFd.of O8
instance rV:IsFd Tryz.prog 35 1 1:=IsFd.of O8
instance rX:IsFd Tryz.prog 35 2 2:=IsFd.of O8
instance rY:IsZC Tryz.prog 35 [Py 0,Py 0,.slice none 0 0]:=IsZC.of (z:=.agg #[Py 0,Py 0,.slice none 0 0]) O8 rfl
def wW(k:Int):Int:=if k=1∨k=2∨k=3 then 0 else if k=4∨k=7∨k=8∨k=9∨k=11∨k=12∨k=13 then 1 else if k=5∨k=6∨k=10∨k=14 then 2 else -1
theorem ke(w:World)(k:Int):Rt Tryz.prog 231 [Py k].toArray w fun v w'=>v=Py (wW k)∧w=w':=by
 refine dD Tryz.func231 Tryz.ntmps231 rfl rfl ?_;unfold wW;refine Qj ?_;refine CW.cond rfl (fun h=>?_) (fun h=>?_)<;>simp at h
 ·subst h;refine QK ?_
  exact be rfl rfl ⟨rfl,rfl⟩
 refine Qt ?_;refine CW.cond rfl (fun h=>?_) (fun h=>?_)<;>simp at h
 ·subst h;refine QK ?_
  exact be rfl rfl ⟨rfl,rfl⟩
 refine Qq ?_;refine CW.cond rfl (fun h=>?_) (fun h=>?_)<;>simp at h
 ·subst h;refine PA ?_
  exact be rfl rfl ⟨rfl,rfl⟩
 rw[OJ O7];refine Qt ?_;refine CW.cond rfl (fun h=>?_) (fun h=>?_)<;>simp at h
 ·subst h;refine QK ?_
  exact be rfl rfl ⟨rfl,rfl⟩
 refine Qt ?_;refine CW.cond rfl (fun h=>?_) (fun h=>?_)<;>simp at h
 ·subst h;refine QK ?_
  exact be rfl rfl ⟨rfl,rfl⟩
 refine Qt ?_;refine CW.cond rfl (fun h=>?_) (fun h=>?_)<;>simp at h
 ·subst h;refine QK ?_
  exact be rfl rfl ⟨rfl,rfl⟩
 refine Qt ?_;refine CW.cond rfl (fun h=>?_) (fun h=>?_)<;>simp at h
 ·subst h;refine QK ?_
  exact be rfl rfl ⟨rfl,rfl⟩
 refine Qt ?_;refine CW.cond rfl (fun h=>?_) (fun h=>?_)<;>simp at h
 ·subst h;refine QK ?_
  exact be rfl rfl ⟨rfl,rfl⟩
 refine Qt ?_;refine CW.cond rfl (fun h=>?_) (fun h=>?_)<;>simp at h
 ·subst h;refine QK ?_
  exact be rfl rfl ⟨rfl,rfl⟩
 refine Qq ?_;refine CW.cond rfl (fun h=>?_) (fun h=>?_)<;>simp at h
 ·subst h;refine PA ?_
  exact be rfl rfl ⟨rfl,rfl⟩
 rw[OJ O7];refine Qt ?_;refine CW.cond rfl (fun h=>?_) (fun h=>?_)<;>simp at h
 ·subst h;refine QK ?_
  exact be rfl rfl ⟨rfl,rfl⟩
 refine Qt ?_;refine CW.cond rfl (fun h=>?_) (fun h=>?_)<;>simp at h
 ·subst h;refine QK ?_
  exact be rfl rfl ⟨rfl,rfl⟩
 refine Qt ?_;refine CW.cond rfl (fun h=>?_) (fun h=>?_)<;>simp at h
 ·subst h;refine QK ?_
  exact be rfl rfl ⟨rfl,rfl⟩
 refine Qq ?_;refine CW.cond rfl (fun h=>?_) (fun h=>?_)<;>simp at h
 ·subst h;refine PA ?_
  exact be rfl rfl ⟨rfl,rfl⟩
 rw[OJ O7];refine QU ?_;exact be rfl rfl ⟨rfl,rfl⟩
mutual
def jl:Ltl→Int→Int→Int×Int
 |.mk k n kids,deep,c=>if c+1>60 then(2,c+1)else if deep>20 then(5,c+1)else if wW k≠kids.length∨n<0∨n>63∨(k≠3∧n≠0)then(1,c+1)else jm kids (deep+1) (c+1)
def jm:List Ltl→Int→Int→Int×Int
 |[],_,c=>(0,c)
 |x::r,deep,c=>if(jl x deep c).1≠0 then jl x deep c else jm r deep (jl x deep c).2
end
mutual
theorem jq:∀(t:Ltl) (deep c:Int),(jl t deep c).1=0→c<(jl t deep c).2∧(jl t deep c).2≤60
 |.mk k n kids,deep,c,h=>by
  simp only[jl]at h⊢
  split at h
  ·cases h
  ·rename_i h1
   rw[OJ h1];split at h
   ·cases h
   ·rename_i h2
    rw[OJ h2];split at h
    ·cases h
    ·rename_i h3
     rw[OJ h3];have:=jn kids (deep+1) (c+1) O7 h;omega
theorem jn:∀(l:List Ltl) (deep c:Int),c≤60→(jm l deep c).1=0→c≤(jm l deep c).2∧(jm l deep c).2≤60
 |[],deep,c,a,h=>by simp only[jm];omega
 |x::r,deep,c,a,h=>by
  simp only[jm]at h⊢
  split at h
  ·rename_i h1;exact absurd h h1
  ·rename_i h1
   rw[OJ h1];have h2:=jq x deep c (by simpa using h1);have h3:=jn r deep _ h2.2 h;omega
end
theorem jb:∀(m:Nat) (t:Ltl),t.nodes≤m→∀(w:World) (F:Nat→Prop) (deep c:Int) (bn:Nat) (ao:Option Addr) (cap:Nat),Sl w F ao cap t.kids→(∀b,F b→b<w.heap.size)→¬F bn→
  Blk w bn 3 [Py c]→0≤c→c≤60→0≤deep→deep≤1000→
  Rt Tryz.prog 159 [ym t.k t.n ao t.kids.length cap,Py deep,Pz bn].toArray w fun v w'=>v=Py (jl t deep c).1∧Blk w' bn 3 [Py (jl t deep c).2]∧w.grownBy w' (some bn)
 |0,t,Z=>by have:=t.nodes_pos;omega
 |m+1,.mk k n kids,Z=>by
  intro w F deep c bn ao cap Y hF hn f hc0 hc1 hd0 hd1
  simp only[Ltl.kids,Ltl.k,Ltl.n]at*
  refine dF Tryz.func159 Tryz.ntmps159 rfl rfl ?_;have hlen:=Y.len63;have hbn:=f.lt;refine PB ?_;refine dX rfl rfl rfl fun w1 hf N=>?_
  have V:=f.ext N;have R:=N.grw (some bn);refine Qn ?_;refine WL.st rfl rfl rfl V rfl rfl Pr (fun w2 A D=>?_);have G:=hf.kept D Pc;have p:=rK R D;simp only[jl];refine QE ?_;refine CW.cond rfl (fun h=>?_) (fun h=>?_)<;>simp only[OD,OA,OG]at h
  ·refine PA ?_
   refine be rfl rfl ?_;rw[OK h];exact⟨rfl,A,p⟩
  rw[OJ O7];refine Qt ?_;refine CW.cond rfl (fun h1=>?_) (fun h1=>?_)<;>simp only[OD,OA,OG]at h1
  ·refine PA ?_
   refine be rfl rfl ?_;rw[OK h1];exact⟨rfl,A,p⟩
  rw[OJ O7];refine aA [(1,Py deep),(2,Pz bn),(3,Pz w.heap.size),(23,.bool (decide (wW k≠kids.length∨n<0∨n>63∨(k≠3∧n≠0))))] ?_ ?_
  ·refine Rg ?_
   refine QL.call rfl rfl rfl (fun w' h=>Rt.mono (ke w' k) (fun v w'' X=>⟨X.1,X.2▸Ext.refl _⟩)) ?_;refine Ry ?_;refine QL.nil fun w3 a=>?_
   have T:=G.ext a;refine PC ?_;refine CW.cond rfl (fun h2=>?_) (fun h2=>?_)<;>simp at h2
   ·refine PD ?_
    refine aT ⟨rfl,rfl,rfl,?_,trivial⟩ a;refine Ox (fun b=>some (Value.bool b)) ?_;have:(wW k != (kids.length:Int))=true:=by simpa using h2
    rw[this,OC (.inl h2)]
   ·refine Q1 ?_
    (refine eV rfl rfl (fun h=>?_) (fun h=>?_))<;>simp at h
    ·refine PE ?_
     refine aT ⟨rfl,rfl,rfl,?_,trivial⟩ a;refine Ox (fun b=>some (Value.bool b)) ?_;rw[OC (.inr (.inl h))]
    ·refine QM ?_
     refine CW.cond rfl (fun h3=>?_) (fun h3=>?_)<;>simp at h3
     ·refine PD ?_
      refine aT ⟨rfl,rfl,rfl,?_,trivial⟩ a;refine Ox (fun b=>some (Value.bool b)) ?_;rw[OC h3,OC (.inr (.inr (.inl h3)))]
     ·refine Q1 ?_
      (refine eV rfl rfl (fun h=>?_) (fun h=>?_))<;>simp at h
      ·refine QM ?_
       refine aT ⟨rfl,rfl,rfl,?_,trivial⟩ a;refine Ox (fun b=>some (Value.bool b)) ?_
       (rw[JN];simp;try omega)
      ·refine PH ?_
       refine aT ⟨rfl,rfl,rfl,?_,trivial⟩ a;refine Ox (fun b=>some (Value.bool b)) ?_
       (rw[JN];simp;try omega)
  intro w3 a
  have K:=A.ext a;have T:=G.ext a;have E:=rK p (a.grw (some bn));refine CW.cond rfl (fun h2=>?_) (fun h2=>?_)<;>simp only[OD,OA]at h2
  ·rw[OK h2]
   refine PA ?_;exact be rfl rfl ⟨rfl,K,E⟩
  rw[OJ h2];refine QP ?_;refine CW.loop (S:=Nat×Int) (fun x=>[(1,Py deep),(2,Pz bn),(48,.slice ao kids.length cap),(49,Py (kids.length:Int)),(50,Py (x.1:Int))])
   (fun x w'=>w.grownBy w' (some bn)∧Blk w' bn 3 [Py x.2]∧0≤x.2∧x.2≤60∧x.1≤kids.length∧jm kids (deep+1) (c+1)=jm (kids.drop x.1) (deep+1) x.2) (fun x=>kids.length -x.1) (0,c+1) O6 ⟨E,K,by simp only;omega,by simp only;omega,by omega,rfl⟩ ?_
  rintro⟨i,ci⟩ O ⟨d,z,l,I,hi,H⟩
  simp only at z l I hi H
  rw[H];refine Qt ?_;refine CW.cond rfl (fun h3=>?_) (fun h3=>?_)<;>simp at h3
  ·have P:Sl O F ao cap kids:=Y.mono (fun b f=>d.block b (hF b f) (by intro e;cases e;exact hn f)) fun _ h=>h
   have L:∀b,F b→b<O.heap.size:=fun b f=>MQ (hF b f) d.size
   refine Rb ?_;refine eC rfl rfl rfl rfl rfl P h3 Pg (fun u q hu=>?_);have s:kids.drop i=kids[i]::kids.drop (i+1):=Kx h3;have o:(kids[i]).nodes≤m:=by
    have:=Ltl.nodes_kid kids _ (Lc h3);simp only[Ltl.nodes]at Z;omega
   rw[s];simp only[jm];generalize kids[i]=x at*
   obtain⟨ao',cap',rfl,hx⟩:=hu.ltl;have hw4:w.heap.size≤O.heap.size:=d.size;refine WL.alloc rfl rfl (fun w5 U M=>?_);refine WL.st rfl rfl rfl U rfl rfl Pr (fun W hb6 C=>?_);have j:Ext O W:=M.grown C M.size Pi;have J:=z.ext j;have Q:=rK d (j.grw (some bn));refine Q7 ?_;refine WL.call rfl rfl rfl (jb m x o W F (deep+1) ci bn ao' cap' (hx.mono (fun b f=>j.block b (L b f)) fun _ h=>h) (fun b f=>MQ (L b f) j.size) hn J l I O7 O7) ?_;rintro v w7 ⟨rfl,y,g⟩
   have g:=rK Q g;have B:=jq x (deep+1) ci;generalize jl x (deep+1) ci=r at*
   obtain⟨e,c'⟩:=r;simp only at B y
   refine Qt ?_;refine CW.cond rfl (fun h4=>?_) (fun h4=>?_)<;>simp at h4
   ·refine PA ?_
    refine be rfl rfl ?_;rw[OK h4];exact⟨rfl,y,g⟩
   ·have:=B h4
    refine PI ?_;refine EX.back (i+1,c') O6 ⟨g,y,by simp only;omega,by simp only;omega,by simp only;omega,?_⟩ (by simp only;omega);simp only;rw[OJ (by simp[h4])]
  ·refine P_ ?_
   refine be rfl rfl ?_;rw[Ky O7];exact⟨rfl,z,d⟩
theorem kW(w:World){F:Nat→Prop}{t:Ltl}{ao:Option Addr}{cap:Nat}(o:Sl w F ao cap t.kids)(hF:∀b,F b→b<w.heap.size):
  Rt Tryz.prog 94 [ym t.k t.n ao t.kids.length cap].toArray w fun v w'=>v=Py (jl t 1 0).1∧Ext w w':=by
 refine dD Tryz.func94 Tryz.ntmps94 rfl rfl ?_;refine PB ?_;refine dX rfl rfl rfl fun m hf c=>?_
 refine Qt ?_;refine WL.alloc rfl rfl (fun u d i=>?_);have p:=d.lt;refine WL.st rfl rfl rfl d rfl rfl Pr (fun l d f=>?_);have e:=c.trans i;have a:Ext w l:=e.grown f e.size (fun g k=>by cases k;exact c.size);have q:=(hf.ext i).kept f (by have:=hf.lt;simp;omega);have n:w.heap.size≤m.heap.size:=c.size;refine PJ ?_;refine WL.call rfl rfl rfl (jb t.nodes t Pu l F 1 0 m.heap.size ao cap (o.mono (fun b d=>a.block b (hF b d)) fun _ h=>h) (fun b d=>MQ (hF b d) a.size) (fun h=>by have:=hF _ h;omega) d O7 O7 O7 O7) ?_;rintro v s ⟨rfl,r,j⟩
 refine PK ?_;exact be rfl rfl ⟨rfl,a.grown j a.size (fun g k=>by cases k;exact c.size)⟩
def gY(k i kid:Int):Bool:=if kid=5 then k==6||(k==5&&i==0)else if kid=6 then k==6&&i==0 else true
def Fj(k:Int):ar:=if k=4 then [33]else if k=7 then [69,88,32]else if k=8 then [69,70,32]else if k=9 then [69,71,32]else if k=11 then [65,88,32]else if k=12 then [65,70,32]else if k=13 then [65,71,32]else []
def wh(nm:Int→ar)(k n:Int)(ks:List (Int×ar)):ar:=
 if k=1 then Gq else if k=2 then Gm else if k=3 then nm n
 else if k=5 then wS (gY k 0 (ks.getD 0 (0,[])).1) (ks.getD 0 (0,[])).2++[32,38,32]++wS (gY k 1 (ks.getD 1 (0,[])).1) (ks.getD 1 (0,[])).2
 else if k=6 then wS (gY k 0 (ks.getD 0 (0,[])).1) (ks.getD 0 (0,[])).2++[32,47,32]++wS (gY k 1 (ks.getD 1 (0,[])).1) (ks.getD 1 (0,[])).2
 else if k=10 then [69,32,91]++(ks.getD 0 (0,[])).2++[32,85,32]++(ks.getD 1 (0,[])).2++[93]
 else if k=14 then [65,32,91]++(ks.getD 0 (0,[])).2++[32,85,32]++(ks.getD 1 (0,[])).2++[93]
 else Fj k++wS (gY k 0 (ks.getD 0 (0,[])).1) (ks.getD 0 (0,[])).2
mutual
def H1(nm:Int→ar):Ltl→ar
 |.mk k n kids=>wh nm k n (H4 nm kids)
def H4(nm:Int→ar):List Ltl→List (Int×ar)
 |[]=>[]
 |x::r=>(x.k,H1 nm x)::H4 nm r
end
def Cm(f:Ltl)(nms:List ByteArray):ar×Int:=
 if(jl f 1 0).1≠0 then([],(jl f 1 0).1)else if gR (zv nms) f=true then([],4)else(H1 (zv nms) f,0)
theorem wi{nm:Int→ar}(hn:∀n,(nm n).length≤8)(k n:Int)(ks:List (Int×ar)):(wh nm k n ks).length≤(ks.getD 0 (0,[])).2.length+(ks.getD 1 (0,[])).2.length+8:=by
 have a:=wT (gY k 0 (ks.getD 0 (0,[])).1) (ks.getD 0 (0,[])).2;have h1:=wT (gY k 1 (ks.getD 1 (0,[])).1) (ks.getD 1 (0,[])).2;have h2:=hn n;have h3:(Fj k).length≤3:=by unfold Fj;repeat (first|split|simp)
 unfold wh Gq Gm
 iterate 7 (split;·(first|omega|(simp only[Ll,Lm,Lt];omega)))
 simp only[Ll,Lm,Lt];omega
mutual
theorem H2{nm:Int→ar}(hn:∀n,(nm n).length≤8):∀f:Ltl,(H1 nm f).length≤8*f.nodes
 |.mk k n kids=>by
  have h:=wi hn k n (H4 nm kids);have h2:=H5 hn kids;simp only[H1,Ltl.nodes];have:((H4 nm kids).getD 0 (0,[])).2.length+((H4 nm kids).getD 1 (0,[])).2.length≤((H4 nm kids).map fun x=>x.2.length).sum:=by
   rcases H4 nm kids with _|⟨a,_|⟨b,r⟩⟩<;>simp<;>omega
  omega
theorem H5{nm:Int→ar}(hn:∀n,(nm n).length≤8):∀l:List Ltl,((H4 nm l).map fun x=>x.2.length).sum≤8*Ltl.nodesL l
 |[]=>by simp[H4,Ltl.nodesL]
 |x::r=>by
  have h1:=H2 hn x;have h2:=H5 hn r;simp only[H4,Ltl.nodesL,LG,Mh];omega
end
theorem wX{k:Int}{m:Nat}(h:wW k=(m:Int)):(m=0∧(k=1∨k=2∨k=3))∨(m=1∧(k=4∨k=7∨k=8∨k=9∨k=11∨k=12∨k=13))∨(m=2∧(k=5∨k=6∨k=10∨k=14)):=by
 unfold wW at h
 split at h
 ·left;exact⟨by omega,by assumption⟩
 split at h
 ·right;left;exact⟨by omega,by assumption⟩
 split at h
 ·right;right;exact⟨by omega,by assumption⟩
 ·omega
section
variable {nms:List ByteArray}{t u:ar}{f g:Ltl}
def ea(a:Bool):UInt8:=if a=true then 65 else 69
end
section
variable {nms:List ByteArray}{t:ar}{f:Ltl}
end
def xx(s l:List Nat)(i:Nat):Nat:=if i<s.length then s.getD i 0 else l.getD ((i -s.length) % l.length) 0
abbrev BJ(pt:cH):Value:=.agg [.int .i64 pt.1,.int .i64 pt.2.1,.int .i64 pt.2.2.1,.int .i64 pt.2.2.2.1,.int .i64 pt.2.2.2.2.1,.int .i64 pt.2.2.2.2.2.1,.int .i64 pt.2.2.2.2.2.2].toArray
def Dt(n:Int)(a:Bool):Bool:=decide (0≤n∧n≤63)&&(a||decide (n=0))
def jJ(pt:cH):Int:=
 if pt.1<1∨pt.1>6∨pt.2.1<1∨pt.2.1>5 then 1
 else if(Dt pt.2.2.1 true&&Dt pt.2.2.2.1 (decide (pt.1=5∨pt.1=6))&&Dt pt.2.2.2.2.1 (decide (pt.2.1=3∨pt.2.1=4∨pt.2.1=5))&&Dt pt.2.2.2.2.2.1 (decide (pt.2.1=2∨pt.2.1=4∨pt.2.1=5)))=false then 1
 else if pt.2.2.2.2.2.2<0∨pt.2.2.2.2.2.2>3∨(pt.1≠4∧pt.2.2.2.2.2.2≠0)then 1 else 0
theorem Du(w:World)(n:Int)(a:Bool):Rt Tryz.prog 154 [Py n,.bool a].toArray w fun v w'=>v=.bool (Dt n a)∧w=w':=by
 refine dE Tryz.func154 Tryz.ntmps154 rfl rfl ?_;refine Qt ?_
 (refine eV rfl rfl (fun h=>?_) (fun h=>?_))
 ·simp at h
  refine Ri ?_
  (refine eV rfl rfl (fun h=>?_) (fun h=>?_))
  ·simp at h
   refine Ri ?_
   (refine eV rfl rfl (fun h=>?_) (fun h=>?_))
   ·subst h
    refine PL ?_;refine be rfl rfl ⟨?_,rfl⟩;simp[Dt];omega
   ·subst h
    refine PK ?_;refine be rfl rfl ⟨?_,rfl⟩;have:(decide (0≤n)&&decide (n≤63))=true:=by simp;omega
    simp[Dt,this];by_cases hn:n=0<;>simp[hn]
  ·simp at h
   refine PL ?_;refine be rfl rfl ⟨?_,rfl⟩;simp[Dt];intro _ h3;omega
 ·simp at h
  refine PL ?_;refine be rfl rfl ⟨?_,rfl⟩;simp[Dt];intro h3;omega
theorem mB(w:World)(pt:cH):Rt Tryz.prog 86 [BJ pt].toArray w fun v w'=>v=Py (jJ pt)∧Ext w w':=by
 refine dD Tryz.func86 Tryz.ntmps86 rfl rfl ?_;obtain⟨k,sc,p,s,q,r,c⟩:=pt;refine PB ?_;refine dX rfl rfl rfl fun f j a=>?_
 apply fm;rfl;rfl;rfl;apply WL.nil;apply bz;refine az [(1,Pz w.heap.size),(3,.bool (decide (k=5∨k=6)))] ?_ ?_
 ·refine Q1 ?_
  (refine eV rfl rfl (fun h=>?_) (fun h=>?_))<;>simp at h
  ·refine PH ?_
   refine aS ⟨rfl,?_,trivial⟩;refine Ox (fun b=>some (Value.bool b)) ?_
   (rw[JN];simp;try omega)
  ·refine QM ?_
   refine aS ⟨rfl,?_,trivial⟩;refine Ox (fun b=>some (Value.bool b)) ?_
   (rw[JN];simp;try omega)
 refine az [(1,Pz w.heap.size),(3,.bool (decide (k=5∨k=6))),(4,.bool (decide (sc=3∨sc=4∨sc=5)))] ?_ ?_
 ·refine Q1 ?_
  (refine eV rfl rfl (fun h=>?_) (fun h=>?_))<;>simp at h
  ·refine PH ?_
   refine aS ⟨rfl,rfl,?_,trivial⟩;refine Ox (fun b=>some (Value.bool b)) ?_
   (rw[JN];simp;try omega)
  ·refine Rs ?_
   (refine eV rfl rfl (fun h=>?_) (fun h=>?_))<;>simp at h
   ·refine PH ?_
    refine aS ⟨rfl,rfl,?_,trivial⟩;refine Ox (fun b=>some (Value.bool b)) ?_
    (rw[JN];simp;try omega)
   ·refine QM ?_
    refine aS ⟨rfl,rfl,?_,trivial⟩;refine Ox (fun b=>some (Value.bool b)) ?_
    (rw[JN];simp;try omega)
 refine az [(1,Pz w.heap.size),(3,.bool (decide (k=5∨k=6))),(4,.bool (decide (sc=3∨sc=4∨sc=5))),(5,.bool (decide (sc=2∨sc=4∨sc=5)))] ?_ ?_
 ·refine Q1 ?_
  (refine eV rfl rfl (fun h=>?_) (fun h=>?_))<;>simp at h
  ·refine PH ?_
   refine aS ⟨rfl,rfl,rfl,?_,trivial⟩;refine Ox (fun b=>some (Value.bool b)) ?_
   (rw[JN];simp;try omega)
  ·refine Rs ?_
   (refine eV rfl rfl (fun h=>?_) (fun h=>?_))<;>simp at h
   ·refine PH ?_
    refine aS ⟨rfl,rfl,rfl,?_,trivial⟩;refine Ox (fun b=>some (Value.bool b)) ?_
    (rw[JN];simp;try omega)
   ·refine QM ?_
    refine aS ⟨rfl,rfl,rfl,?_,trivial⟩;refine Ox (fun b=>some (Value.bool b)) ?_
    (rw[JN];simp;try omega)
 generalize hS:decide (k=5∨k=6)=bs;generalize hQ:decide (sc=3∨sc=4∨sc=5)=bq;generalize hR:decide (sc=2∨sc=4∨sc=5)=br;have i:jJ (k,sc,p,s,q,r,c)=if k<1∨k>6∨sc<1∨sc>5 then 1 else if(Dt p true&&Dt s bs&&Dt q bq&&Dt r br)=false then 1 else if c<0∨c>3∨(k≠4∧c≠0)then 1 else 0:=by
  simp only[jJ,hS,hQ,hR]
 rw[i];clear i hS hQ hR;refine QX ?_
 (refine eV rfl rfl (fun h=>?_) (fun h=>?_))<;>simp at h
 ·refine PM ?_
  refine be rfl rfl ⟨?_,a⟩;rw[OK O7]
 ·refine Rs ?_
  (refine eV rfl rfl (fun h=>?_) (fun h=>?_))<;>simp at h
  ·refine PM ?_
   refine be rfl rfl ⟨?_,a⟩;rw[OK O7]
  ·refine Rs ?_
   (refine eV rfl rfl (fun h=>?_) (fun h=>?_))<;>simp at h
   ·refine PM ?_
    refine be rfl rfl ⟨?_,a⟩;rw[OK O7]
   ·refine QM ?_
    (refine CW.cond rfl (fun h=>?_) (fun h=>?_))<;>simp at h
    ·refine PA ?_
     refine be rfl rfl ⟨?_,a⟩;rw[OK O7]
    ·refine Q1 ?_
     have d:¬(k<1∨k>6∨sc<1∨sc>5):=by omega
     refine WL.call rfl rfl rfl (Du f p true) ?_;rintro v g ⟨rfl,rfl⟩
     refine Ri ?_
     (refine eV rfl rfl (fun h=>?_) (fun h=>?_))<;>simp at h
     ·refine PM ?_
      refine be rfl rfl ⟨?_,a⟩;rw[OJ d,OK (by simp[*])]
     ·refine Rs ?_
      refine WL.call rfl rfl rfl (Du f s bs) ?_;rintro v g ⟨rfl,rfl⟩
      refine Ri ?_
      (refine eV rfl rfl (fun h=>?_) (fun h=>?_))<;>simp at h
      ·refine PM ?_
       refine be rfl rfl ⟨?_,a⟩;rw[OJ d,OK (by simp[*])]
      ·refine Rs ?_
       refine WL.call rfl rfl rfl (Du f q bq) ?_;rintro v g ⟨rfl,rfl⟩
       refine Ri ?_
       (refine eV rfl rfl (fun h=>?_) (fun h=>?_))<;>simp at h
       ·refine PM ?_
        refine be rfl rfl ⟨?_,a⟩;rw[OJ d,OK (by simp[*])]
       ·refine Rs ?_
        refine WL.call rfl rfl rfl (Du f r br) ?_;rintro v g ⟨rfl,rfl⟩
        refine PN ?_
        (refine CW.cond rfl (fun h=>?_) (fun h=>?_))<;>simp at h
        ·refine PA ?_
         refine be rfl rfl ⟨?_,a⟩;rw[OJ d,OK (by simp[*])]
        ·refine Q1 ?_
         have e:¬((Dt p true&&Dt s bs&&Dt q bq&&Dt r br)=false):=by simp[*]
         (refine eV rfl rfl (fun h=>?_) (fun h=>?_))<;>simp at h
         ·refine PM ?_
          refine be rfl rfl ⟨?_,a⟩;rw[OJ d,OJ e,OK O7]
         ·refine Rs ?_
          (refine eV rfl rfl (fun h=>?_) (fun h=>?_))<;>simp at h
          ·refine PM ?_
           refine be rfl rfl ⟨?_,a⟩;rw[OJ d,OJ e,OK O7]
          ·refine Rs ?_
           (refine eV rfl rfl (fun h=>?_) (fun h=>?_))<;>simp at h
           ·refine QM ?_
            (refine CW.cond rfl (fun h=>?_) (fun h=>?_))<;>simp at h
            ·refine PA ?_
             refine be rfl rfl ⟨?_,a⟩;rw[OJ d,OJ e,OK O7]
            ·refine QU ?_
             refine be rfl rfl ⟨?_,a⟩;rw[OJ d,OJ e,OJ O7]
           ·refine Qh ?_
            refine be rfl rfl ⟨?_,a⟩;rw[OJ d,OJ e,OJ O7]
abbrev cM:=Int×Int×Int×Int
abbrev Ha(t:cM):Value:=.agg [.int .i64 t.1,.int .i64 t.2.1,.int .i64 t.2.2.1,.int .i64 t.2.2.2].toArray
def kN(k:Int):Bool:=decide (1≤k∧k≤3)
def jR(t:cM):Int:=
 if t.1<1∨t.1>14∨t.2.1<0∨t.2.1≥63∨t.2.2.1<0∨t.2.2.1≥63∨((kN t.1||decide (t.1=4))=true∧t.2.2.1≠0)then 1
 else if(kN t.1=true∧(t.2.2.2<1∨t.2.2.2>3))∨(kN t.1=false∧t.2.2.2≠0)then 1 else 0
theorem kO(w:World)(k:Int):Rt Tryz.prog 155 [Py k].toArray w fun v w'=>v=.bool (kN k)∧w=w':=by
 refine dD Tryz.func155 Tryz.ntmps155 rfl rfl ?_;refine Qt ?_
 (refine eV rfl rfl (fun h=>?_) (fun h=>?_))<;>simp at h
 ·refine PK ?_
  refine be rfl rfl ⟨Ox Value.bool ?_,rfl⟩;unfold kN
  (rw[JN];simp;try omega)
 ·refine PL ?_
  refine be rfl rfl ⟨Ox Value.bool ?_,rfl⟩;unfold kN
  (rw[JN];simp;try omega)
theorem lS(w:World)(t:cM):Rt Tryz.prog 88 [Ha t].toArray w fun v w'=>v=Py (jR t)∧Ext w w':=by
 refine dD Tryz.func88 Tryz.ntmps88 rfl rfl ?_;obtain⟨k,A,B,c⟩:=t;refine PB ?_;refine dX rfl rfl rfl fun e i a=>?_
 apply fm;rfl;rfl;rfl;apply WL.nil;apply bz;refine az [(1,Pz w.heap.size),(3,.bool (kN k||decide (k=4)))] ?_ ?_
 ·refine QG ?_
  refine WL.call rfl rfl rfl (kO e k) ?_;rintro v f ⟨rfl,rfl⟩
  refine Ri ?_
  (refine eV rfl rfl (fun h=>?_) (fun h=>?_))
  ·refine PH ?_
   refine aS ⟨rfl,?_,trivial⟩;refine Ox (fun b=>some (Value.bool b)) ?_;rw[h];rfl
  ·refine QM ?_
   refine aS ⟨rfl,?_,trivial⟩;refine Ox (fun b=>some (Value.bool b)) ?_;rw[h]
   (rw[JN];simp;try omega)
 have g:jR (k,A,B,c)=if k<1∨k>14∨A<0∨A≥63∨B<0∨B≥63∨((kN k||decide (k=4))=true∧B≠0)then 1 else if(kN k=true∧(c<1∨c>3))∨(kN k=false∧c≠0)then 1 else 0:=rfl
 rw[g];clear g;generalize (kN k||decide (k=4))=al;apply CW.seq;apply CW.block;refine az [(1,Pz w.heap.size),(12,.bool (decide (k<1∨k>14∨A<0∨A≥63∨B<0∨B≥63∨(al=true∧B≠0))))] ?_ ?_
 ·refine Q1 ?_
  (refine eV rfl rfl (fun h=>?_) (fun h=>?_))<;>simp at h
  ·refine PH ?_
   refine aS ⟨rfl,?_,trivial⟩;refine Ox (fun b=>some (Value.bool b)) ?_;simp;omega
  refine Rs ?_
  (refine eV rfl rfl (fun h=>?_) (fun h=>?_))<;>simp at h
  ·refine PH ?_
   refine aS ⟨rfl,?_,trivial⟩;refine Ox (fun b=>some (Value.bool b)) ?_;simp;omega
  refine Rs ?_
  (refine eV rfl rfl (fun h=>?_) (fun h=>?_))<;>simp at h
  ·refine PH ?_
   refine aS ⟨rfl,?_,trivial⟩;refine Ox (fun b=>some (Value.bool b)) ?_;simp;omega
  refine Rs ?_
  (refine eV rfl rfl (fun h=>?_) (fun h=>?_))<;>simp at h
  ·refine PH ?_
   refine aS ⟨rfl,?_,trivial⟩;refine Ox (fun b=>some (Value.bool b)) ?_;simp;omega
  refine Rs ?_
  (refine eV rfl rfl (fun h=>?_) (fun h=>?_))<;>simp at h
  ·refine PH ?_
   refine aS ⟨rfl,?_,trivial⟩;refine Ox (fun b=>some (Value.bool b)) ?_;simp;omega
  refine Rs ?_
  (refine eV rfl rfl (fun h=>?_) (fun h=>?_))<;>simp at h
  ·refine PH ?_
   refine aS ⟨rfl,?_,trivial⟩;refine Ox (fun b=>some (Value.bool b)) ?_;simp;omega
  refine Ri ?_
  (refine eV rfl rfl (fun h=>?_) (fun h=>?_))
  ·subst h
   refine QM ?_;refine aS ⟨rfl,?_,trivial⟩;refine Ox (fun b=>some (Value.bool b)) ?_
   (rw[JN];simp;try omega)
  ·subst h
   refine PH ?_;refine aS ⟨rfl,?_,trivial⟩;refine Ox (fun b=>some (Value.bool b)) ?_;simp;omega
 apply CW.cond rfl<;>intro h1
 ·rw[OD]at h1
  refine PA ?_;refine be rfl rfl ⟨?_,a⟩;rw[OK h1]
 ·rw[OA]at h1
  rw[OJ h1];refine Q1 ?_;refine WL.call rfl rfl rfl (kO e k) ?_;rintro v f ⟨rfl,rfl⟩
  refine Ri ?_
  (refine eV rfl rfl (fun h=>?_) (fun h=>?_))
  ·have d:=h
   refine Rs ?_
   (refine eV rfl rfl (fun h=>?_) (fun h=>?_))<;>simp at h
   ·refine PM ?_
    refine be rfl rfl ⟨?_,a⟩;rw[OK (.inl ⟨d,.inl h⟩)]
   ·refine Rs ?_
    (refine eV rfl rfl (fun h=>?_) (fun h=>?_))<;>simp at h
    ·refine PM ?_
     refine be rfl rfl ⟨?_,a⟩;rw[OK (.inl ⟨d,.inr h⟩)]
    ·refine Rs ?_
     refine WL.call rfl rfl rfl (kO e k) ?_;rintro v f ⟨rfl,rfl⟩
     rw[d];refine Qh ?_;refine be rfl rfl ⟨?_,a⟩;rw[OJ];simp;omega
  ·have d:=h
   refine Rr ?_;refine WL.call rfl rfl rfl (kO e k) ?_;rintro v f ⟨rfl,rfl⟩
   rw[d];refine QM ?_;refine CW.cond rfl (fun h2=>?_) (fun h2=>?_)<;>simp at h2
   ·refine PA ?_
    refine be rfl rfl ⟨?_,a⟩;rw[OK (.inr ⟨rfl,h2⟩)]
   ·refine QU ?_
    refine be rfl rfl ⟨?_,a⟩;rw[OJ];simp;exact h2
abbrev cJ:=ByteArray×Int×cH×cM×Ltl×Ltl
def Dz(a:List ByteArray)(n:Int)(silent:Bool):ar:=
 if n=63∧silent=true then Gp else if n<0∨n≥(a.length:Int)∨n≥63∨yZ (a.getD n.toNat ⟨#[]⟩)=false∨vh a (a.getD n.toNat ⟨#[]⟩).data.toList≠n then []
 else(a.getD n.toNat ⟨#[]⟩).data.toList
def Bi(pt:cH):List Int:=if pt.1=5∨pt.1=6 then [pt.2.2.2.1,pt.2.2.1]else [pt.2.2.1]
def Ez(pt:cH):List Int:=if pt.2.1=2 then [pt.2.2.2.2.2.1]else if pt.2.1=3 then [pt.2.2.2.2.1]else if pt.2.1=4∨pt.2.1=5 then [pt.2.2.2.2.1,pt.2.2.2.2.2.1]else []
def f_(k:Int):Bool:=decide (k≤4)
def gI(r:cJ):List Int:=if r.2.1=1 then Bi r.2.2.1++Ez r.2.2.1 else if r.2.1=2 then(if f_ r.2.2.2.1.1=true then [r.2.2.2.1.2.1]else [r.2.2.2.1.2.1,r.2.2.2.1.2.2.1])else []
def Bz(r:cJ)(a:List ByteArray):Int:=
 if r.2.1=1 then jJ r.2.2.1 else if r.2.1=2 then jR r.2.2.2.1 else if r.2.1=3 then(Cn r.2.2.2.2.1 a).2 else if r.2.1=4 then(Cm r.2.2.2.2.2 a).2 else 0
def By(r:cJ)(a:List ByteArray):Int:=
 if Bz r a=0∧(gI r).any (fun n=>Dz a n (decide (r.2.1=1))==[])=true then 4 else Bz r a
def BK:cH:=(0,0,0,0,0,0,0)
def Hb:cM:=(0,0,0,0)
def oR(t:Ltl):Bool:=t.k != 0||t.n != 0||decide (0<t.kids.length)
def A6(r:cJ):Bool:=(r.2.1 != 1&&r.2.2.1 != BK)||(r.2.1 != 2&&r.2.2.2.1 != Hb)||(r.2.1 != 3&&oR r.2.2.2.2.1)||(r.2.1 != 4&&oR r.2.2.2.2.2)
def jP(r:cJ)(a:List ByteArray):Int:=
 if yZ r.1=false∨r.2.1<1∨r.2.1>4 then 1 else if By r a≠0 then By r a else if A6 r=true then 1 else 0

mutual
def IG:Ltl→Prop
 |.mk k n kids=>wY k=kids.length∧0≤n∧n≤63∧(k≠3→n=0)∧IH kids
def IH:List Ltl→Prop
 |[]=>True
 |x::r=>IG x∧IH r
end
mutual
theorem jC:∀(t:Ltl) (deep c:Int),(jv t deep c).1=0→IG t
 |.mk k n kids,deep,c,h=>by
  simp only[jv]at h
  split at h
  ·cases h
  ·split at h
   ·cases h
   ·split at h
    ·cases h
    ·rename_i h3
     simp only[IG];have:=jz kids _ _ h;refine⟨by omega,by omega,by omega,by omega,this⟩
theorem jz:∀(l:List Ltl) (deep c:Int),(jw l deep c).1=0→IH l
 |[],_,_,_=>trivial
 |x::r,deep,c,h=>by
  simp only[jw]at h
  split at h
  ·rename_i h1;exact absurd h h1
  ·rename_i h1
   exact⟨jC x deep c (by simpa using h1),jz r _ _ h⟩
end
theorem II:∀(kids:List Ltl) (i:Nat) (h:i<kids.length),IH kids→IG kids[i]
 |x::r,0,h,a=>a.1
 |x::r,i+1,h,a=>II r i (by simpa using h) a.2
def Til(A B:Nat→Prop)(i:Nat):Prop:=∃j,i≤j∧B j∧∀m,i≤m→m<j→A m
theorem Til.step{A B:Nat→Prop}{i:Nat}:Til A B i↔B i∨(A i∧Til A B (i+1)):=by
 constructor
 ·rintro⟨j,f,c,d⟩
  by_cases h:i=j
  ·subst h;exact .inl c
  ·exact .inr ⟨d i Pu O7,j,by omega,c,fun m h1 h2=>d m O7 h2⟩
 ·rintro(c|⟨d,j,f,c,e⟩)
  ·exact⟨i,MM _,c,fun m h1 h2=>by omega⟩
  ·refine⟨j,by omega,c,fun m h1 h2=>?_⟩
   by_cases h:m=i
   ·subst h;exact d
   ·exact e m O7 h2
def ES(L:Nat→Nat)(k n:Int)(ks:List (Nat→Prop))(i:Nat):Prop:=
 if k=1 then True
 else if k=3 then L i >>> n.toNat&&&1=1
 else if k=4 then¬ks.getD 0 (fun _=>False) i
 else if k=5 then ks.getD 0 (fun _=>False) i∧ks.getD 1 (fun _=>False) i
 else if k=6 then ks.getD 0 (fun _=>False) i∨ks.getD 1 (fun _=>False) i
 else if k=7 then ks.getD 0 (fun _=>False) (i+1)
 else if k=8 then Til (ks.getD 0 (fun _=>False)) (ks.getD 1 (fun _=>False)) i
 else if k=9 then¬Til (fun j=>¬ks.getD 0 (fun _=>False) j) (fun j=>¬ks.getD 1 (fun _=>False) j) i
 else if k=10 then Til (fun _=>True) (ks.getD 0 (fun _=>False)) i
 else if k=11 then¬Til (fun _=>True) (fun j=>¬ks.getD 0 (fun _=>False) j) i
 else False
mutual
def EH(L:Nat→Nat):Ltl→Nat→Prop
 |.mk k n kids=>ES L k n (ET L kids)
def ET(L:Nat→Nat):List Ltl→List (Nat→Prop)
 |[]=>[]
 |x::r=>EH L x::ET L r
end
theorem Til.shift{A B A' B':Nat→Prop}{i c:Nat}(n:∀j,A (i+j)↔A' (c+j))(k:∀j,B (i+j)↔B' (c+j)):Til A B i↔Til A' B' c:=by
 constructor
 ·rintro⟨j,h,h1,h2⟩
  obtain⟨d,rfl⟩:=MF h;refine⟨c+d,by omega,(k d).1 h1,fun m g f=>?_⟩;obtain⟨e,rfl⟩:=MF g;exact(n e).1 (h2 (i+e) O7 O7)
 ·rintro⟨j,h,h1,h2⟩
  obtain⟨d,rfl⟩:=MF h;refine⟨i+d,by omega,(k d).2 h1,fun m g f=>?_⟩;obtain⟨e,rfl⟩:=MF g;exact(n e).2 (h2 (c+e) O7 O7)
section
variable {s l:List Nat}{a b:List Bool}{A B:Nat→Prop}{N:Nat}
end
theorem notB{xs:List Bool}{N i:Nat}(c:xs.length=N)(hi:i<N):((xs.map (!·)).getD i false=true↔¬xs.getD i false=true):=by
 rw[KT,KT,K1,KY O7];simp
theorem IK{M:Ltl→Prop}(h1:M (.mk 1 0 []))(h2:M (.mk 2 0 []))(h3:∀n,0≤n→n≤63→M (.mk 3 n []))
  (p:∀k a,k=4∨k=7∨k=10∨k=11→IG a→M a→M (.mk k 0 [a]))
  (q:∀k a b,k=5∨k=6∨k=8∨k=9→IG a→IG b→M a→M b→M (.mk k 0 [a,b])):∀t,IG t→M t:=by
 have key:∀m (t:Ltl),t.nodes≤m→IG t→M t:=by
  intro m
  induction m with
  |zero=>intro t h;have:=t.nodes_pos;omega
  |succ m j=>
   rintro⟨k,n,kids⟩ h g
   simp only[IG]at g
   simp only[Ltl.nodes]at h
   obtain⟨e,o,l,d,c⟩:=g;unfold wY at e
   split at e
   ·rename_i f
    have:kids=[]:=KC O7;subst this;rcases f with rfl|rfl|rfl
    ·rw[d O9];exact h1
    ·rw[d O9];exact h2
    ·exact h3 n o l
   ·split at e
    ·rename_i f
     rw[d O7]
     match kids,e with
     |[a],_=>
      simp only[Ltl.nodesL,IH]at h c
      exact p k a f c.1 (j a O7 c.1)
    ·split at e
     ·rename_i f
      rw[d O7]
      match kids,e with
      |[a,b],_=>
       simp only[Ltl.nodesL,IH]at h c
       have:=a.nodes_pos;have:=b.nodes_pos;exact q k a b f c.1 c.2.1 (j a O7 c.1) (j b O7 c.2.1)
     ·omega
 exact fun t g=>key t.nodes t Pu g
mutual
def Ltl.deep:Ltl→Nat
 |.mk _ _ kids=>1+Ltl.deepL kids
def Ltl.deepL:List Ltl→Nat
 |[]=>0
 |x::r=>max x.deep (Ltl.deepL r)
end
mutual
theorem jZ:∀(t:Ltl) (d c:Int),(jv t d c).1=0→(jv t d c).2=c+t.nodes∧d+t.deep≤21
 |.mk k n kids,d,c,h=>by
  simp only[jv]at h⊢
  split at h
  ·cases h
  ·rename_i h1
   rw[OJ h1];split at h
   ·cases h
   ·rename_i h2
    rw[OJ h2];split at h
    ·cases h
    ·rename_i h3
     rw[OJ h3];have:=j7 kids (d+1) (c+1) O7 h;simp only[Ltl.nodes,Ltl.deep];omega
theorem j7:∀(l:List Ltl) (d c:Int),d≤21→(jw l d c).1=0→(jw l d c).2=c+Ltl.nodesL l∧d+Ltl.deepL l≤21
 |[],d,c,hd,h=>by simp only[jw,Ltl.nodesL,Ltl.deepL];omega
 |x::r,d,c,hd,h=>by
  simp only[jw]at h⊢
  split at h
  ·rename_i h1;exact absurd h h1
  ·rename_i h1
   rw[OJ h1];have h2:=jZ x d c (by simpa using h1);have h3:=j7 r d _ hd h;simp only[Ltl.nodesL,Ltl.deepL];omega
end
mutual
theorem jX:∀(t:Ltl) (d c:Int),IG t→c+t.nodes≤60→d+t.deep≤21→(jv t d c).1=0
 |.mk k n kids,d,c,e,h1,h2=>by
  simp only[IG]at e
  simp only[Ltl.nodes,Ltl.deep]at h1 h2
  simp only[jv];have h3:¬(wY k≠kids.length∨n<0∨n>63∨(k≠3∧n≠0)):=by
   intro h
   rcases h with h|h|h|h
   ·exact h e.1
   ·omega
   ·omega
   ·exact h.2 (e.2.2.2.1 h.1)
  rw[OJ O7,OJ O7,OJ h3];exact j0 kids _ _ e.2.2.2.2 O7 O7
theorem j0:∀(l:List Ltl) (d c:Int),IH l→c+Ltl.nodesL l≤60→d+Ltl.deepL l≤21→(jw l d c).1=0
 |[],d,c,_,_,_=>by simp only[jw]
 |x::r,d,c,e,h1,h2=>by
  simp only[IH]at e
  simp only[Ltl.nodesL,Ltl.deepL]at h1 h2
  have h3:=jX x d c e.1 O7 O7;have h4:=jZ x d c h3;simp only[jw];rw[OJ (by simp[h3]),h4.1];exact j0 r d _ e.2 O7 O7
end
theorem jV(t:Ltl):(jv t 1 0).1=0↔IG t∧t.nodes≤60∧t.deep≤20:=by
 constructor
 ·intro h
  have h1:=jZ t 1 0 h;have h2:=jA t 1 0 h;exact⟨jC t 1 0 h,by omega,by omega⟩
 ·rintro⟨h1,h2,h3⟩
  exact jX t 1 0 h1 O7 O7
mutual
def Eu:Ltl→Ltl→Bool
 |.mk k n l,.mk k' c d=>k==k'&&n==c&&Ex l d
def Ex:List Ltl→List Ltl→Bool
 |[],[]=>true
 |x::r,y::q=>Eu x y&&Ex r q
 |[],_::_=>false
 |_::_,[]=>false
end
mutual
theorem Ev:∀(a b:Ltl),Eu a b=true↔a=b
 |.mk k n l,.mk k' d c=>by
  simp only[Eu,JL,Oq,Ey l c,Ltl.mk.injEq];exact Ol
theorem Ey:∀(a b:List Ltl),Ex a b=true↔a=b
 |[],[]=>by simp[Ex]
 |x::r,y::q=>by simp only[Ex,JL,Ev x y,Ey r q,Kk]
 |[],_::_=>by simp[Ex]
 |_::_,[]=>by simp[Ex]
end
theorem Ew(a:Ltl):Eu a a=true:=(Ev a a).2 rfl
section
variable {L:Nat→Nat}{n:Int}{a b:Ltl}{i:Nat}
theorem EI:EH L (.mk 1 n []) i↔True:=by simp[EH,ET,ES]
theorem EL:EH L (.mk 2 n []) i↔False:=by simp[EH,ET,ES]
theorem EM:EH L (.mk 3 n []) i↔L i >>> n.toNat&&&1=1:=by simp[EH,ET,ES]
theorem EN:EH L (.mk 4 n [a]) i↔¬EH L a i:=by simp[EH,ET,ES]
theorem EO:EH L (.mk 5 n [a,b]) i↔EH L a i∧EH L b i:=by simp[EH,ET,ES]
theorem EP:EH L (.mk 6 n [a,b]) i↔EH L a i∨EH L b i:=by simp[EH,ET,ES]
theorem EQ:EH L (.mk 7 n [a]) i↔EH L a (i+1):=by simp[EH,ET,ES]
theorem sem8:EH L (.mk 8 n [a,b]) i↔Til (EH L a) (EH L b) i:=by simp[EH,ET,ES]
theorem ER:EH L (.mk 9 n [a,b]) i↔¬Til (fun j=>¬EH L a j) (fun j=>¬EH L b j) i:=by simp[EH,ET,ES]
theorem EJ:EH L (.mk 10 n [a]) i↔Til (fun _=>True) (EH L a) i:=by simp[EH,ET,ES]
theorem EK:EH L (.mk 11 n [a]) i↔¬Til (fun _=>True) (fun j=>¬EH L a j) i:=by simp[EH,ET,ES]
end
theorem Til.congr{A B A' B':Nat→Prop}(d:∀j,A j↔A' j)(c:∀j,B j↔B' j)(i:Nat):Til A B i↔Til A' B' i:=
 Til.shift (fun _=>d _) (fun _=>c _)
mutual
def BY:Ltl→Ltl
 |.mk k n kids=>if k=10 then .mk 8 0 [.mk 1 0 [],(BZ kids).getD 0 (.mk 0 0 [])]else if k=11 then .mk 9 0 [.mk 2 0 [],(BZ kids).getD 0 (.mk 0 0 [])]else .mk k n (BZ kids)
def BZ:List Ltl→List Ltl
 |[]=>[]
 |x::r=>BY x::BZ r
end
theorem B0:∀l,BZ l=l.map BY
 |[]=>rfl
 |x::r=>by simp[BZ,B0 r]
mutual
def rP:Ltl→Int→Bool
 |.mk k _ kids,q=>k==q||rQ kids q
def rQ:List Ltl→Int→Bool
 |[],_=>false
 |x::r,q=>rP x q||rQ r q
end
theorem B1:∀t,IG t→rP (BY t) 10=false∧rP (BY t) 11=false:=by
 refine IK ?_ ?_ ?_ ?_ ?_
 ·constructor<;>simp[BY,BZ,rP,rQ]
 ·constructor<;>simp[BY,BZ,rP,rQ]
 ·intro n _ _
  constructor<;>simp[BY,BZ,rP,rQ]
 ·rintro k a (rfl|rfl|rfl|rfl) _ ⟨h1,h2⟩<;>constructor<;>simp[BY,BZ,rP,rQ,h1,h2]
 ·rintro k a b (rfl|rfl|rfl|rfl) _ _ ⟨h1,h2⟩ ⟨h3,h4⟩<;>constructor<;>simp[BY,BZ,rP,rQ,h1,h2,h3,h4]
theorem B4{L:Nat→Nat}:∀t,IG t→∀i,EH L (BY t) i↔EH L t i:=by
 refine IK ?_ ?_ ?_ ?_ ?_
 ·intro i;simp[BY,BZ]
 ·intro i;simp[BY,BZ]
 ·intro n _ _ i;simp[BY,BZ]
 ·rintro k a (rfl|rfl|rfl|rfl) _ h i
  ·simp[BY,BZ,EN,h]
  ·simp[BY,BZ,EQ,h]
  ·simp[BY,BZ,sem8,EJ];exact Til.congr (fun _=>by simp[EI]) h i
  ·simp[BY,BZ,ER,EK];exact ON (Til.congr (fun _=>by simp[EL]) (fun j=>ON (h j)) i)
 ·rintro k a b (rfl|rfl|rfl|rfl) _ _ h1 h2 i
  ·simp[BY,BZ,EO,h1,h2]
  ·simp[BY,BZ,EP,h1,h2]
  ·simp[BY,BZ,sem8];exact Til.congr h1 h2 i
  ·simp[BY,BZ,ER];exact ON (Til.congr (fun j=>ON (h1 j)) (fun j=>ON (h2 j)) i)
section
variable {L:Nat→Nat}
end
theorem Dj{fn:Func}{a:Nat}{t:TypeId}(h:fn.results=#[.cell a t])(tmps:Array Value)(P:Program)(w:World){p:Addr}{v:Value}(b:tmps.getD a undef=.pointer (some p))(c:(loadVar t p).run P w=.ok v w):
  (results fn tmps).run P w=.ok v w:=by
 simp only[Js]at b
 simp[results,h,b,asAddr,c]
theorem bg{P:Program}{n:Nat}{σ:Sg}{w:World}{fn:Func}{a b:Nat}{t e:TypeId}{cells:List Value}{k:Nat}{R:Value→World→Prop}(p:fn.results=#[.cell a t])(s:fnd σ a=some (Pz b))[q:IsC P t k true](r:Blk w b e cells)(m:xI cells=k)(h:R (.agg cells.toArray) w):
  EX (bodyPost P fn fun e w'=>∃v,e=.returned v∧R v w') .ret n σ w:=by
 unfold EX;intro ac l
 refine Ov (Dj p _ _ _ (l.slot a _ s) (v:=.agg cells.toArray) ?_) l.defers ⟨_,rfl,h⟩;rw[xJ]at m
 have c:=OS (P:=P) w ⟨b,0,none⟩ cells (fun j u o=>by rw[Oj,Nb];exact r.cell o);obtain⟨i,dd,h1,h2,h3,h4⟩:=q.ok;have f:(isAgg t).run P w=.ok true w:=by
  unfold isAgg;rw[Nv,OW h3 w,←h4];cases dd<;>rfl
 rw[m]at c
 simp[loadVar,f,sizeOf,typeInfo,h1,h2,c]
theorem Dk{fn:Func}{a u:Nat}{t:TypeId}(h:fn.results=#[.cell a t,.tmp u])(tmps:Array Value)(P:Program)(w:World){p:Addr}{v:Value}(b:tmps.getD a undef=.pointer (some p))(c:(loadVar t p).run P w=.ok v w):
  (results fn tmps).run P w=.ok (.tuple ⟨[v,tmps.getD u undef]⟩) w:=by
 simp only[Js]at b⊢
 simp[results,h,b,asAddr,c]
theorem bh{P:Program}{n:Nat}{σ:Sg}{w:World}{fn:Func}{a b u:Nat}{t e:TypeId}{cells:List Value}{k:Nat}{x:Value}{R:Value→World→Prop}(p:fn.results=#[.cell a t,.tmp u])(s:fnd σ a=some (Pz b))(m:fnd σ u=some x)[q:IsC P t k true](r:Blk w b e cells)(o:xI cells=k)(h:R (.tuple ⟨[.agg cells.toArray,x]⟩) w):
  EX (bodyPost P fn fun e w'=>∃v,e=.returned v∧R v w') .ret n σ w:=by
 unfold EX;intro ac c
 refine Ov (Dk p _ _ _ (c.slot a _ s) (v:=.agg cells.toArray) ?_) c.defers ⟨_,by rw[c.slot u x m],h⟩;rw[xJ]at o
 have f:=OS (P:=P) w ⟨b,0,none⟩ cells (fun j u m=>by rw[Oj,Nb];exact r.cell m);obtain⟨i,dd,h1,h2,h3,h4⟩:=q.ok;have l:(isAgg t).run P w=.ok true w:=by
  unfold isAgg;rw[Nv,OW h3 w,←h4];cases dd<;>rfl
 rw[o]at f
 simp[loadVar,l,sizeOf,typeInfo,h1,h2,f]
theorem Sl.zero{α:Type}[Rep α](w:World)(F:Nat→Prop):Sl w F none 0 ([]:List α):=⟨by simp,by simp[maxLen],fun _=>rfl,fun i hi=>absurd hi O_⟩
theorem Sl.up0{α:Type}[Rep α]{w w':World}{F:Nat→Prop}{ao:Option Addr}{cap:Nat}{xs:List α}(h:Sl w F ao cap xs)(c:Ext w w')(hF:∀b,F b→b<w.heap.size):Sl w' F ao cap xs:=h.mono (fun b a=>c.block b (hF b a)) fun _ h=>h
section
variable {P:Program}{Q:Exit→Act→World→Prop}{n:Nat}{σ:Sg}{w:World}{L rest:List Oper}{d:Nat}{ty:TypeId}{pos:String}{af:Array Edge}{g:Option (Nat×Bool)}{t e:TypeId}{α:Type}[Rep α]{F:Nat→Prop}
end
def RL(w:World)(v:Value)(t:Ltl):Prop:=Rd w (c7 w) v t
theorem RL.ext{w w':World}{v:Value}{t:Ltl}(h:RL w v t)(c:Ext w w'):RL w' v t:=Rd.mono h (fun b a=>c.block b a) (fun b a=>MQ a c.size)
def da(F:Nat→Prop)(w w':World):Nat→Prop:=fun b=>F b∨(w.heap.size≤b∧b<w'.heap.size)
def gW(ops:Array Oper)(r:List (Nat×Bool)):Nat→List Nat→Array Bool→Bool
 |0,J,a=>J.isEmpty&&AX ops r a
 |k+1,J,a=>(Region.ready .any ops a).all (fun i=>J.contains i)&&!(Region.ready .any ops a).isEmpty&&
   (Region.ready .any ops a).all fun i=>gW ops r k (J.erase i) (a.setIfInBounds i true)
def AY(ops:Array Oper)(J:List Nat)(r:List (Nat×Bool)):List (Nat×Bool)→Array Bool→Bool
 |[],a=>gW ops r J.length J a
 |(i,true)::s,a=>(Region.ready .any ops a).contains i&&Region.free .any ops a i&&AY ops J r s (a.setIfInBounds i true)
 |(i,false)::s,a=>decide (Region.ready .any ops a=[i])&&AY ops J r s (a.setIfInBounds i true)
def gX(l:List Oper)(s:List (Nat×Bool))(J:List Nat)(r:List (Nat×Bool)):Bool:=
 Region.noSelect l.toArray&&decide (s.length+J.length+r.length=l.length)&&AY l.toArray J r s (Array.replicate l.length false)
def cY:Exit→Act→World→Prop:=fun _ _ _=>False
def I9(P:Program)(ops:List Oper)(S:World→Prop)(K:Act→World→Prop):Nat→List Nat→Act→World→Prop
 |0,_,a,w=>K a w
 |k+1,J,a,w=>∀i∈J,∃o,ops[i]?=some o∧Region.wanted o (yielded ops.toArray a.tmps)=true∧o.wp P a w (fun b w'=>S w'∧I9 P ops S K k (J.erase i) b w') cY
theorem Jj{P:Program}{o:Oper}{a:Act}{w:World}{K:Act→World→Prop}{Q Q':Exit→Act→World→Prop}(hq:∀e a w,e≠.normal→Q e a w→Q' e a w)(h:o.wp P a w K Q):o.wp P a w K Q':=by
 unfold Oper.wp at*
 generalize (execOp a.eval o).run P w=r at*
 cases r with
 |ok k w'=>
  cases k<;>simp only[Oper.upon]at h⊢<;>first
   |exact h
   |(refine J0 h (fun e w'' b=>?_);cases e<;>first|exact b|exact hq _ _ _ O_ b|(obtain⟨a1,c,d⟩:=b;exact⟨a1,c,hq _ _ _ O_ d⟩))
 |halt x w'=>cases x<;>simp only[Oper.upon]at h⊢<;>first|exact h|exact hq _ _ _ O_ h
theorem Ja{P:Program}{ops:List Oper}{S:World→Prop}{Q:Act→World→Prop}(p:Region.noSelect ops.toArray=true)(r:List (Nat×Bool)):
  ∀(k:Nat) (J:List Nat) (b:Array Bool) (a:Act) (w:World),gW ops.toArray r k J b=true→S w→I9 P ops S (Jb P ops S Q r) k J a w→wpAnyH P .any ops.toArray (fun e a w=>e=.normal∧Q a w) S (r.length+k) b a w
 |0,J,b,a,w,d,hS,h=>by
  simp only[gW,JL]at d
  exact Jd p r _ _ _ d.2 hS h
 |k+1,J,b,a,w,d,hS,h=>by
  simp only[gW,JL,Kd,JS,List.isEmpty_eq_false_iff]at d
  obtain⟨⟨l,j⟩,c⟩:=d;refine O0 rfl j ?_;intro i hi
  obtain⟨o,s,q,f⟩:=h i (by simpa using l i hi);unfold wpOp;have g:ops.toArray[i]?=some o:=by simpa using s
  simp only[g,q,OL];refine .inl (Ng (fun t w' m=>⟨m.1,Ja p r k (J.erase i) _ _ _ (c i hi) m.1 m.2⟩) (Jj (fun e a w _ hf=>hf.elim) f))
theorem Jc{P:Program}{ops:List Oper}{S:World→Prop}{Q:Act→World→Prop}(d:Region.noSelect ops.toArray=true)(J:List Nat)(r:List (Nat×Bool)):
  ∀(s:List (Nat×Bool)) (b:Array Bool) (a:Act) (w:World),AY ops.toArray J r s b=true→S w→Jb P ops S (fun a w=>S w∧I9 P ops S (Jb P ops S Q r) J.length J a w) s a w→wpAnyH P .any ops.toArray (fun e a w=>e=.normal∧Q a w) S (r.length+J.length+s.length) b a w
 |[],b,a,w,c,hS,h=>Ja d r _ _ _ _ _ c hS h.2
 |(i,true)::s,b,a,w,c,hS,⟨o,v,k,q,h⟩=>by
  simp only[AY,JL]at c
  exact wpAnyH_take (by simpa using k) d c.1.2 c.1.1 (fun _ _ _ h=>by cases h.1) q hS (Jc d J r s _ _ _ c.2 hS h)
 |(i,false)::s,b,a,w,c,hS,⟨o,k,h⟩=>by
  simp only[AY,JL,OD]at c
  refine O0 c.1 O_ ?_;intro j t
  have m:j=i:=by simpa using t
  subst m;have g:ops.toArray[j]?=some o:=by simpa using k
  unfold wpOp;simp only[g];split
  ·rename_i f
   rw[OK f]at h
   exact .inl (Ng (fun u w' p=>⟨p.1,Jc d J r s _ _ _ c.2 p.1 p.2⟩) (Jj (fun e a w l hf=>absurd hf.1 l) h))
  ·rename_i f
   rw[OJ f]at h
   exact⟨h.1,Jc d J r s _ _ _ c.2 h.1 h.2⟩
structure BE where
 i:Nat
 d:Nat
 Φ:Value→(Nat→Prop)→World→Prop
def am(P:Program)(ops:List Oper)(S:World→Prop)(Q:Exit→Act→World→Prop)(J:List Nat)(r:List (Nat×Bool)):Exit→Act→World→Prop:=
 fun e a w=>e=.normal∧(S w∧I9 P ops S (Jb P ops S (fun a w=>Q .normal a w) r) J.length J a w)
def ad(S:World→Prop)(w:World)(e:BE):Exit→Act→World→Prop:=
 fun x a w'=>x=.normal∧a.defers=[]∧S w'∧Ext w w'∧∃N,e.Φ (a.tmps.getD e.d undef) N w'∧∀b,N b→w.heap.size≤b∧b<w'.heap.size
def BC(P:Program)(L:List Oper)(S:World→Prop)(n:Nat)(σ:Sg)(e:BE):Prop:=
 (∃o,Ab L e.i=some o∧o.dst=some e.d∧gd L σ o=some true∧∀w,S w→WL P L (ad S w e) [o] n σ w)∧Nat.ble (e.d+1) n=true∧fnd σ e.d=none∧∀v N w w',e.Φ v N w→Ext w w'→e.Φ v N w'
theorem aR{S:World→Prop}{w w':World}{e:BE}{n:Nat}{σ:Sg}{v:Value}(N:Nat→Prop)(d:fnd σ e.d=some v)(hS:S w')(g:Ext w w')(hΦ:e.Φ v N w')(f:∀b,N b→w.heap.size≤b∧b<w'.heap.size):EX (ad S w e) .normal n σ w':=by
 unfold EX;intro a c
 exact⟨rfl,c.defers,hS,g,by rw[c.slot _ _ d];exact⟨N,hΦ,f⟩⟩
theorem g_{P:Program}{L:List Oper}{S:World→Prop}{n:Nat}{σ:Sg}{e:BE}(h:BC P L S n σ e){a:Act}{w:World}(l:Fr n σ a)(hS:S w):
  ∃o,L[e.i]?=some o∧Region.wanted o (yielded L.toArray a.tmps)=true∧o.wp P a w (fun t w'=>S w'∧Ext w w'∧∃v N,t=a.put (some e.d) v∧e.Φ v N w'∧∀b,N b→w.heap.size≤b∧b<w'.heap.size) cY:=by
 obtain⟨⟨o,m,hd,s,p⟩,hn,hf,_⟩:=h;rw[Ac]at m
 have f:=qE l s;refine⟨o,m,f,?_⟩;have h1:=p w hS;unfold WL at h1
 have h2:=h1 a l;simp only[wpList,f,OL]at h2
 have j:e.d<n:=MH hn;have c:∀v,(a.put (some e.d) v).tmps.getD e.d undef=v:=by
  intro v
  simp[Act.put,Array.getD,l.size,j]
 rcases h2 with h2|⟨_,q⟩
 ·unfold Oper.wp at*
  obtain⟨dst,op,ty,pos,af,g⟩:=o;simp only at hd
  subst hd;generalize (execOp a.eval _).run P w=r at*
  cases r with
  |ok k w'=>
   cases k<;>simp only[Oper.upon]at h2⊢<;>first
    |exact⟨h2.2.2.1,h2.2.2.2.1,by have:=h2.2.2.2.2;rw[c]at this;obtain⟨N,h3,h4⟩:=this;exact⟨_,N,rfl,h3,h4⟩⟩
    |(exfalso;have:=h2.2.1;simp[Act.put]at this;done)
    |(refine J0 h2 (fun x w'' d=>?_)
      cases x
      ·exact⟨d.2.2.1,d.2.2.2.1,by have:=d.2.2.2.2;rw[c]at this;obtain⟨N,h3,h4⟩:=this;exact⟨_,N,rfl,h3,h4⟩⟩
      ·exact absurd d.1 O_
      ·obtain⟨_,_,i⟩:=d;exact absurd i.1 O_)
    |exact Rows.mono h2 (fun v w'' d=>⟨d.2.2.1,d.2.2.2.1,by have:=d.2.2.2.2;rw[c]at this;obtain⟨N,h3,h4⟩:=this;exact⟨_,N,rfl,h3,h4⟩⟩)
    |exact h2
  |halt x w'=>cases x<;>simp only[Oper.upon]at h2⊢<;>first|exact h2|exact absurd h2.1 O_
 ·obtain⟨_,_,i⟩:=q
  exact absurd i.1 O_
def BagK(w':World)(G:Sg→Prop):List (Nat→Prop)→List BE→Sg→Prop
 |_,[],σ=>G σ
 |D,e::r,σ=>∀v N,e.Φ v N w'→(∀p∈D,∀b,p b→N b→False)→BagK w' G (N::D) r ((e.d,v)::σ)
theorem BagK.get{w':World}{G:Sg→Prop}{n:Nat}{a:Act}(NN:Nat→Nat→Prop):∀(E:List BE) {D:List (Nat→Prop)} {σ:Sg},BagK w' G D E σ→Fr n σ a→(∀e∈E,e.d<n∧e.Φ (a.tmps.getD e.d undef) (NN e.i) w')→
  (∀e∈E,∀p∈D,∀b,p b→NN e.i b→False)→(E.map (·.i)).Nodup→(∀e∈E,∀f∈E,e.i≠f.i→∀b,NN e.i b→NN f.i b→False)→∃τ,Fr n τ a∧G τ
 |[],D,σ,h,i,_,_,_,_=>⟨σ,i,h⟩
 |e::r,D,σ,h,i,o,q,d,hP=>by
  have v:=o e O_;rw[LG,L4]at d
  refine BagK.get NN r (h _ _ v.2 (q e O_)) ?_ (fun x c=>o x (by simp[c])) ?_ d.2 (fun x c y s=>hP x (by simp[c]) y (by simp[s]))
  rotate_left
  ·intro x c p k b m g
   rcases LN.1 k with rfl|k
   ·exact hP e O_ x (by simp[c]) (fun hi=>d.1 (by rw[hi];exact LV c)) b m g
   ·exact q x (by simp[c]) p k b m g
  refine⟨i.size,i.defers,fun t u j=>?_⟩;by_cases l:e.d=t
  ·subst l;rw[pU]at j;cases j;rfl
  ·rw[pW l]at j;exact i.slot _ _ j
def lW:List Nat→Bool
 |[]=>true
 |x::r=>!r.contains x&&lW r
theorem lX:∀{l:List Nat},lW l=true→l.Nodup
 |[],_=>List.nodup_nil
 |x::r,h=>by
  simp only[lW,JL,JS]at h
  rw[L4];exact⟨by simpa using h.1,lX h.2⟩
def Im(NN:Nat→Nat→Prop)(i:Nat)(N:Nat→Prop):Nat→Nat→Prop:=fun j=>if j=i then N else NN j
theorem In{NN:Nat→Nat→Prop}{i:Nat}{N:Nat→Prop}:Im NN i N i=N:=OK rfl
theorem Io{NN:Nat→Nat→Prop}{i:Nat}{N:Nat→Prop}{j:Nat}(h:j≠i):Im NN i N j=NN j:=OJ h
theorem zX{β γ:Type}{f:β→γ}:∀{l:List β},(l.map f).Nodup→∀x∈l,∀y∈l,f x=f y→x=y
 |[],_,x,a,_,_,_=>by simp at a
 |z::r,h,x,a,y,b,e=>by
  rw[LG,L4]at h
  rcases LN.1 a with h1|h1
  ·rcases LN.1 b with h2|h2
   ·rw[h1,h2]
   ·exact absurd (show f z∈r.map f by rw[←h1,e];exact LV h2) h.1
  ·rcases LN.1 b with h2|h2
   ·exact absurd (show f z∈r.map f by rw[←h2,←e];exact LV h1) h.1
   ·exact zX h.2 x h1 y h2 e
theorem I_{P:Program}{L:List Oper}{S:World→Prop}{n:Nat}{σ:Sg}{E:List BE}(T:∀e∈E,BC P L S n σ e)(hd:(E.map (·.d)).Nodup)(hi:(E.map (·.i)).Nodup){w0:World}{K:Act→World→Prop}
  (hK:∀a w (NN:Nat→Nat→Prop),Fr n σ a→S w→Ext w0 w→(∀e∈E,e.Φ (a.tmps.getD e.d undef) (NN e.i) w)→(∀e∈E,∀f∈E,e.i≠f.i→∀b,NN e.i b→NN f.i b→False)→K a w):
  ∀(k:Nat) (J:List Nat) (a:Act) (w:World) (NN:Nat→Nat→Prop),J.length=k→J.Nodup→(∀i∈J,i∈E.map (·.i))→Fr n σ a→S w→Ext w0 w→(∀e∈E,e.i∉J→e.Φ (a.tmps.getD e.d undef) (NN e.i) w∧∀b,NN e.i b→b<w.heap.size)→
   (∀e∈E,∀f∈E,e.i∉J→f.i∉J→e.i≠f.i→∀b,NN e.i b→NN f.i b→False)→I9 P L S K k J a w
 |0,J,a,w,NN,H,_,_,A,hS,hE,R,hP=>hK a w NN A hS hE (fun e p=>(R e p (by rw[KC H];simp)).1) (fun e p f hf=>hP e p f hf (by rw[KC H];simp) (by rw[KC H];simp))
 |k+1,J,a,w,NN,H,W,q,A,hS,hE,R,hP=>by
  intro i I
  obtain⟨e,p,rfl⟩:=LU.1 (q i I);obtain⟨o,ho,hw,U⟩:=g_ (T e p) A hS;refine⟨o,ho,hw,Ng (fun a' w' h'=>?_) U⟩;obtain⟨O,B,v,N,rfl,hΦ,Z⟩:=h';have hn:e.d<n:=MH (T e p).2.1;have hf:=(T e p).2.2.1;have M:(a.put (some e.d) v).tmps.getD e.d undef=v:=by simp[Act.put,Array.getD,A.size,hn]
  have r:∀t,t≠e.d→(a.put (some e.d) v).tmps.getD t undef=a.tmps.getD t undef:=by
   intro t ht
   simp only[Act.put,Js];rw[JA (Nf ht)]
  have nne:Im NN e.i N e.i=N:=In;have nno:∀j,j≠e.i→Im NN e.i N j=NN j:=fun j X=>Io X
  refine⟨O,I_ T hd hi hK k (J.erase e.i) _ _ (Im NN e.i N) (by rw[Lq I,H];rfl) (W.erase _) (fun j X=>q j (List.mem_of_mem_erase X)) ?_ O (hE.trans B) ?_ ?_⟩
  ·refine⟨by simpa[Act.put]using A.size,by simpa[Act.put]using A.defers,fun t u V=>?_⟩
   have:t≠e.d:=fun h=>by rw[h,hf]at V;cases V
   rw[r t this];exact A.slot t u V
  ·intro x z s
   by_cases c:x.d=e.d
   ·have F:x=e:=zX hd x z e p c
    subst F;rw[M,nne];exact⟨hΦ,fun b Y=>(Z b Y).2⟩
   ·rw[r _ c]
    have G:x.i≠e.i:=fun hh=>c (by rw[zX hi x z e p hh])
    have h0:=R x z (fun d=>s ((LQ G).2 d));rw[nno _ G];exact⟨(T x z).2.2.2 _ _ _ _ h0.1 B,fun b Y=>MQ (h0.2 b Y) B.size⟩
  ·intro x z y hy s C D b m l
   by_cases c:x.i=e.i
   ·rw[c,nne]at m
    have g:y.i≠e.i:=fun h=>D (by rw[c,h])
    rw[nno _ g]at l
    have h1:=(R y hy (fun h=>C ((LQ g).2 h))).2 b l;have h2:=(Z b m).1;omega
   ·rw[nno _ c]at m
    have d:x.i∉J:=fun h=>s ((LQ c).2 h)
    by_cases g:y.i=e.i
    ·rw[g,nne]at l
     have h1:=(R x z d).2 b m;have h2:=(Z b l).1;omega
    ·rw[nno _ g]at l
     exact hP x z y hy d (fun h=>C ((LQ g).2 h)) D b m l
section
variable {P:Program}{Q:Exit→Act→World→Prop}{n:Nat}{σ:Sg}{w:World}{L:List Oper}{S:World→Prop}
theorem aD{id:Nat}(S:World→Prop)(s:List (Nat×Bool))(J:List Nat)(r:List (Nat×Bool))(f:P.follows .mixedOrders=true)(b:gX L s J r=true)(hS:S (drew w))(h:HL P L S (am P L S Q J r) s n σ (drew w)):CW P (.region id L.toArray true) Q n σ w:=by
 unfold CW;unfold HL at h;intro a i
 simp only[gX,JL,OD]at b
 obtain⟨⟨d,k⟩,b⟩:=b;have j:=h a i;have c:Jb P L S (fun a w=>S w∧I9 P L S (Jb P L S (fun a w=>Q .normal a w) r) J.length J a w) s a (Go.Proofs.YtfpjecjadlgdcaaGreatDoor.drew w):=by
  have:(fun a w=>am P L S Q J r .normal a w)=(fun a w=>S w∧I9 P L S (Jb P L S (fun a w=>Q .normal a w) r) J.length J a w):=by funext a w;simp[am]
  rw[←this];exact j
 have h1:=Jc d J r s (Array.replicate L.length false) a (Go.Proofs.YtfpjecjadlgdcaaGreatDoor.drew w) b hS c;rw[show r.length+J.length+s.length=L.length by omega]at h1
 have h2:=wp_region_held (id:=id) (S:=S) f (w:=w) (ops:=L.toArray) (by simpa using h1);exact O4 h2 (fun e l w' ⟨g,hq⟩=>by subst g;exact hq)
theorem aQ{J:List Nat}{r:List (Nat×Bool)}(E:List BE)(o:E.map (·.i)=J)(b:lW (E.map (·.i))=true)(d:lW (E.map (·.d))=true)(hS:S w)(k:∀e∈E,BC P L S n σ e)
  (m:∀w',S w'→Ext w w'→BagK w' (fun τ=>HL P L S Q r n τ w') [] E σ):EX (am P L S Q J r) .normal n σ w:=by
 unfold EX;intro a g
 subst o;refine⟨rfl,hS,?_⟩;refine I_ k (lX d) (lX b) (w0:=w) (fun a w' NN g h q hΦ hP=>?_) _ _ a w (fun _ _=>False) rfl (lX b) (fun i hi=>hi) g hS Pw (fun e c hn=>absurd (LV c) hn) (fun e c f hf hn=>absurd (LV c) hn);obtain⟨τ,hτ,j⟩:=BagK.get NN E (m w' h q) g (fun e c=>⟨MH (k e c).2.1,hΦ e c⟩) (fun _ _ p l=>by simp at l) (lX b) hP;unfold HL at j
 exact j a hτ
end
def I2(P:Program)(ops:Array Oper)(Q:Exit→Act→World→Prop)(S:World→Prop)(e:Nat):Nat→Array Bool→Act→World→Prop
 |0,c,a,w=>Region.ready .any ops c=[]∧Q .normal a w
 |k+1,c,a,w=>(Region.ready .any ops c=[]→Q .normal a w)∧∀i∈Region.ready .any ops c,wpOp P ops Q i (fun f w'=>(i≠e→S w')∧I2 P ops Q S e k (c.setIfInBounds i true) f w') a w
theorem I7{P:Program}{ops:Array Oper}{Q:Exit→Act→World→Prop}{S:World→Prop}{e:Nat}:∀(k:Nat) (c:Array Bool) (a:Act) (w:World),I2 P ops Q S e k c a w→wpAny P .any ops Q k c a w
 |0,_,_,_,h=>h
 |k+1,_,_,_,h=>⟨h.1,fun i hi=>O2 (fun l w' f=>I7 k _ l w' f.2) (h.2 i hi)⟩
def Iy(ops:Array Oper)(e i:Nat):Bool:=match ops[e]? with
 |some o=>o.after.toList.any fun ed=>Region.binds .any ed&&(ed.on==i)
 |none=>false
theorem Iz{ops:Array Oper}{e i:Nat}{a:Array Bool}(f:Iy ops e i=true)(hi:a.getD i false=false):e∉Region.ready .any ops a:=by
 intro k
 obtain⟨_,o,h,c⟩:=OM.1 k;unfold Iy at f
 rw[h]at f
 obtain⟨ed,h1,h2⟩:=Kg.1 f;simp only[JL,Oq]at h2
 have:=c ed (by simpa using h1) h2.1;rw[h2.2,hi]at this
 cases this
theorem Dg{ops:Array Oper}{i:Nat}{a:Array Bool}(h:i∈Region.ready .any ops a):a.getD i false=false:=by
 have f:=(OM.1 h).1;rcases MR i a.size with c|c
 ·simp[c]at f⊢;exact f
 ·simp[c]
theorem I3{P:Program}{ops:Array Oper}{Q:Exit→Act→World→Prop}{S:World→Prop}{e i:Nat}{oi:Oper}{v:Value}(z:ops[i]?=some oi)(O:Region.noSelect ops=true)(R:i≠e)(J:Iy ops e i=true)(hQ:∀c a w,Q (.panic c) (a.put oi.dst v) w→Q (.panic c) a w):
  ∀(k:Nat) (f:Array Bool) (a:Act) (w:World),(∀j oj,ops[j]?=some oj→j≠i→f.getD j true=false→(∀ed∈oj.after,Region.binds .any ed=true→ed.on≠i)→oi.apart ops oj=true)→
   i∈Region.ready .any ops f→YieldsIf P ops S oi v a→S w→I2 P ops Q S e k (f.setIfInBounds i true) (a.put oi.dst v) w→I2 P ops Q S e (k+1) f a w:=by
 have r:=Nt O;intro k
 induction k with
 |zero=>
  intro f a w _ s I hS H
  refine⟨fun h=>(by rw[h]at s;cases s),fun j E=>?_⟩;by_cases l:j=i
  ·subst l;exact I.wpOp z hS ⟨fun _=>hS,H⟩
  ·have:=OR E l
   rw[H.1]at this
   cases this
 |succ k N=>
  intro f a w q s I hS H
  refine⟨fun h=>(by rw[h]at s;cases s),fun j E=>?_⟩;by_cases l:j=i
  ·subst l;exact I.wpOp z hS ⟨fun _=>hS,H⟩
  ·have D:j≠e:=fun h=>Iz J (Dg s) (h▸E)
   obtain⟨p,oj,u,G⟩:=OM.1 E;have K:∀ed∈oj.after,Region.binds .any ed=true→ed.on≠i:=fun ed h1 h2 h3=>by
    have h4:=G ed h1 h2;rw[h3,Dg s]at h4
    cases h4
   have B:=wpOp_putIf u (q j oj u l p K) (fun cs b=>r i oi cs b z) (fun cs b=>r j oj cs b u) hQ I (H.2 j (OR E l));refine O2 (fun U w' h3=>⟨fun _=>h3.2.1 D,N (f.setIfInBounds j true) U w' (fun m om T M A hn=>q m om T M ?_ hn) (OR s (Nf l)) h3.1 (h3.2.1 D) ?_⟩) B
   ·by_cases C:j=m
    ·subst C;exact p
    ·rw[getD_set_ne true C]at A;exact A
   ·rw[JD _ _ l]
    exact h3.2.2
def AZ(ops:Array Oper)(e:Nat):List (Nat×Bool)→Array Bool→Bool
 |[],a=>decide (Region.ready .any ops a=[e])&&(Region.ready .any ops (a.setIfInBounds e true)).isEmpty
 |(i,true)::s,a=>(Region.ready .any ops a).contains i&&Region.free .any ops a i&&!(i==e)&&Iy ops e i&&AZ ops e s (a.setIfInBounds i true)
 |(i,false)::s,a=>decide (Region.ready .any ops a=[i])&&AZ ops e s (a.setIfInBounds i true)
def A0(l:List Oper)(s:List (Nat×Bool))(e:Nat):Bool:=Region.noSelect l.toArray&&decide (s.length+1=l.length)&&AZ l.toArray e s (Array.replicate l.length false)
def dQ(P:Program)(ops:List Oper)(Q:Exit→Act→World→Prop)(e:Nat):Exit→Act→World→Prop:=
 fun x a w=>x=.normal∧∃o,ops[e]?=some o∧wpList P ops.toArray (fun x a w=>x=.normal∧Q .normal a w) [o] a w
theorem Je{P:Program}{ops:List Oper}{S:World→Prop}{Q:Exit→Act→World→Prop}{e:Nat}(u:Region.noSelect ops.toArray=true):
  ∀(s:List (Nat×Bool)) (c:Array Bool) (a:Act) (w:World),AZ ops.toArray e s c=true→S w→Jb P ops S (fun a w=>dQ P ops Q e .normal a w) s a w→I2 P ops.toArray (fun x a w=>x=.normal∧Q .normal a w) S e (s.length+1) c a w
 |[],c,a,w,f,hS,h=>by
  simp only[AZ,JL,OD,Lk]at f
  obtain⟨_,o,m,p⟩:=h;refine⟨fun q=>(by rw[f.1]at q;cases q),fun i hi=>?_⟩;rw[f.1,L0]at hi
  subst hi;have k:ops.toArray[i]?=some o:=by simpa using m
  unfold wpOp;simp only[k];simp only[wpList]at p
  split
  ·rename_i l
   rw[OK l]at p
   exact p.imp (Ng fun D w' r=>⟨fun h=>absurd rfl h,f.2,rfl,r.2⟩) id
  ·rename_i l
   rw[OJ l]at p
   exact⟨fun h=>absurd rfl h,f.2,rfl,p.2⟩
 |(i,true)::s,c,a,w,f,hS,⟨o,v,m,B,h⟩=>by
  simp only[AZ,JL,JS,Oo]at f
  obtain⟨⟨⟨⟨h1,h2⟩,h3⟩,h4⟩,C⟩:=f;have k:ops.toArray[i]?=some o:=by simpa using m
  exact I3 k u h3 h4 (fun _ _ _ h=>by cases h.1) _ _ _ _ (Ns k h2) (by simpa using h1) B hS (Je u s _ _ _ C hS h)
 |(i,false)::s,c,a,w,f,hS,⟨o,m,h⟩=>by
  simp only[AZ,JL,OD]at f
  refine⟨fun q=>(by rw[f.1]at q;cases q),fun j A=>?_⟩;rw[f.1,L0]at A
  subst A;have k:ops.toArray[j]?=some o:=by simpa using m
  unfold wpOp;simp only[k];split
  ·rename_i l
   rw[OK l]at h
   exact .inl (Ng (fun D w' r=>⟨fun _=>r.1,Je u s _ _ _ f.2 r.1 r.2⟩) (Jj (fun x a w z hf=>absurd hf.1 z) h))
  ·rename_i l
   rw[OJ l]at h
   exact⟨fun _=>h.1,Je u s _ _ _ f.2 h.1 h.2⟩
section
variable {P:Program}{Q:Exit→Act→World→Prop}{n:Nat}{σ:Sg}{w:World}{L:List Oper}{S:World→Prop}
theorem aE{id:Nat}(S:World→Prop)(s:List (Nat×Bool))(e:Nat)(k:P.follows .mixedOrders=true)(c:A0 L s e=true)(hS:S (drew w))(h:HL P L S (dQ P L Q e) s n σ (drew w)):CW P (.region id L.toArray true) Q n σ w:=by
 unfold CW;unfold HL at h;intro a p
 simp only[A0,JL,OD]at c
 obtain⟨⟨f,l⟩,c⟩:=c;have h1:=Je (Q:=Q) f s (Array.replicate L.length false) a (Go.Proofs.YtfpjecjadlgdcaaGreatDoor.drew w) c hS (h a p);rw[l]at h1
 have h2:(Code.region id L.toArray true).wp P (fun x a w=>x=.normal∧Q .normal a w) a w:=O5 k (by simpa using I7 _ _ _ _ h1);exact O4 h2 (fun e q w' ⟨m,hq⟩=>by subst m;exact hq)
theorem bp{e:Nat}{o:Oper}(c:Ab L e=some o)(h:WL P L (fun x a w=>x=.normal∧Q .normal a w) [o] n σ w):EX (dQ P L Q e) .normal n σ w:=by
 unfold EX;unfold WL at h
 intro a f
 rw[Ac]at c
 exact⟨rfl,o,c,h a f⟩
theorem bu(h:EX Q .normal n σ w):EX (fun x a w=>x=.normal∧Q .normal a w) .normal n σ w:=by
 unfold EX at*;exact fun a c=>⟨rfl,h a c⟩
end
section
variable {P:Program}{Q:Exit→Act→World→Prop}{n:Nat}{σ:Sg}{wc:World}{L:List Oper}{S:World→Prop}{i j d:Nat}{ty:TypeId}{pos:String}{af:Array Edge}{g:Option (Nat×Bool)}{ty':TypeId}{pos':String}{af':Array Edge}{g':Option (Nat×Bool)}{t e:TypeId}{x ix y:Operand}
variable {α:Type}[Rep α]{F:Nat→Prop}
theorem cy{v u:Value}{B:Nat}{xs:List α}{yv:α}{k:Nat}{kd:IntKind}
  (ho1:Ab L i=some ⟨some d,.indexAddr t x ix,ty,pos,af,g⟩) (ho2:Ab L j=some ⟨none,.store e (.tmp d) y,ty',pos',af',g'⟩)
  (E:gd L σ ⟨some d,.indexAddr t x ix,ty,pos,af,g⟩=some true) (hd:Nat.ble (d+1) n=true)
  (z:ev σ x=some v) (hi:ev σ ix=some (.int kd (k:Int))) [I:IsS P t e] [H:IsT P e α] (c:Own wc B e F v xs) (h1:k<xs.length)
  (m:∀p,gd L ((d,.pointer p)::σ) ⟨none,.store e (.tmp d) y,ty',pos',af',g'⟩=some true) (s:∀p,ev ((d,.pointer p)::σ) y=some u) (A:Rd wc F u yv)
  (h:∀w' p,Own w' B e F v (xs.set k yv)→wc.grownBy w' v.ownBlock→EX Q .normal n ((d,.pointer p)::σ) w'):
  HL P L S (dQ P L Q j) [(i,true)] n σ wc:=by
 rcases c with⟨rfl,rfl⟩|⟨b,off,cap,cur,rfl,D⟩
 ·simp at h1
 ·refine ca (α:=α) ho1 E hd z hi O7 O7 ?_
  obtain⟨w',C,f,l⟩:=Ee (P:=P) (v:=u) (i:=k) D h1 A;refine HL.nil (bp ho2 ?_);refine fp (m _) (fun a q=>?_) (WL.nil (bu (h w' _ f l)));have r:=q.ev (x:=.tmp d) pU;have G:=q.ev (s _);simp only[Kb]at r
  simp[execOp,r,G,Instr.storeAt,Instr.sureAddr,C]
end
section
variable {P:Program}{Q:Exit→Act→World→Prop}{n:Nat}{σ:Sg}{w wc:World}{L:List Oper}{S:World→Prop}{ord:List (Nat×Bool)}{i d:Nat}{ty:TypeId}{pos:String}{af:Array Edge}{g:Option (Nat×Bool)}{t e:TypeId}{x:Operand}{b o:Nat}{cells:List Value}
theorem ck{v:Value}(u:∀k,S k→k.heap[b]?=w.heap[b]?)(p:Ab L i=some ⟨some d,.load t x,ty,pos,af,g⟩)(q:gd L σ ⟨some d,.load t x,ty,pos,af,g⟩=some true)(hd:Nat.ble (d+1) n=true)(l:ev σ x=some (.pointer (some ⟨b,o,none⟩)))[z:IsC P t 1 false](r:Blk w b e cells)(m:Af cells o=some v)
  (h:HL P L S Q ord n ((d,v)::σ) wc):HL P L S Q ((i,true)::ord) n σ wc:=by
 refine HL.run p q hd (fun a s w' c=>?_) h;have f:Blk w' b e cells:=(u w' c).trans r;simp[execOp,s.ev l,D0 (P:=P) (t:=t) w' f m]
end
theorem ce{P:Program}{Q:Exit→Act→World→Prop}{n:Nat}{σ:Sg}{w wc:World}{L:List Oper}{S:World→Prop}{ord:List (Nat×Bool)}{i d:Nat}{ty:TypeId}{pos:String}{af:Array Edge}{g:Option (Nat×Bool)}{t e:TypeId}{x:Operand}{b o:Nat}{cells vs:List Value}{k:Nat}
  (u:∀j,S j→j.heap[b]?=w.heap[b]?) (p:Ab L i=some ⟨some d,.load t x,ty,pos,af,g⟩) (q:gd L σ ⟨some d,.load t x,ty,pos,af,g⟩=some true) (hd:Nat.ble (d+1) n=true) (l:ev σ x=some (.pointer (some ⟨b,o,none⟩))) [y:IsC P t k true] (r:Blk w b e cells) (m:EB cells o k=some vs)
  (h:HL P L S Q ord n ((d,.agg vs.toArray)::σ) wc):HL P L S Q ((i,true)::ord) n σ wc:=by
 refine HL.run p q hd (fun a s w' c=>?_) h;have f:Blk w' b e cells:=(u w' c).trans r;simp[execOp,s.ev l,D1 (P:=P) (t:=t) w' f m]
def Nw(w w':World):Nat→Prop:=fun b=>w.heap.size≤b∧b<w'.heap.size
theorem Rd.kept{α:Type}[Rep α]{w w':World}{F:Nat→Prop}{v:Value}{x:α}{row:Option Nat}(h:Rd w F v x)(c:w.grownBy w' row)(hF:∀b,F b→b<w.heap.size∧some b≠row):Rd w' F v x:=
 h.mono (fun b a=>c.block b (hF b a).1 (hF b a).2) fun _ h=>h
theorem Rd.up0{α:Type}[Rep α]{w w':World}{F:Nat→Prop}{v:Value}{x:α}(h:Rd w F v x)(c:Ext w w')(hF:∀b,F b→b<w.heap.size):Rd w' F v x:=h.mono (fun b a=>c.block b (hF b a)) fun _ h=>h
theorem Rd.wk{α:Type}[Rep α]{w:World}{F F':Nat→Prop}{v:Value}{x:α}(h:Rd w F v x)(hF:∀b,F b→F' b):Rd w F' v x:=h.mono Pq hF
def SO(r:Nat)(w:World):World→Prop:=fun x=>w.heap.size≤x.heap.size∧∀b,b≠r→b<w.heap.size→x.heap[b]?=w.heap[b]?
theorem SO.refl(r:Nat)(w:World):SO r w w:=⟨MM _,fun _ _ _=>rfl⟩
theorem SO.ext{r:Nat}{w x y:World}(h:SO r w x)(a:Ext x y):SO r w y:=⟨MN h.1 a.size,fun b h1 h2=>(a.block b (MQ h2 h.1)).trans (h.2 b h1 h2)⟩
theorem SO.st{r:Nat}{w x y:World}(h:SO r w x)(a:x.grownBy y (some r)):SO r w y:=⟨MN h.1 a.size,fun b h1 h2=>(a.block b (MQ h2 h.1) (fun e=>h1 (by cases e;rfl))).trans (h.2 b h1 h2)⟩
section
variable {α:Type}[Rep α]
def Grow(B:Nat)(e:TypeId)(w:World)(v:Value)(xs:List α):Prop:=∃F,(∀b,F b→B≤b∧b<w.heap.size)∧Own w B e F v xs
variable {B:Nat}{e:TypeId}{w w':World}{v:Value}{xs:List α}
theorem Grow.nil:Grow B e w (.slice none 0 0) ([]:List α):=⟨cZ,fun _ h=>h.elim,Own.nil⟩
theorem Grow.ext(h:Grow B e w v xs)(c:Ext w w'):Grow B e w' v xs:=by
 obtain⟨F,h1,h2⟩:=h;exact⟨F,fun b a=>⟨(h1 b a).1,MQ (h1 b a).2 c.size⟩,h2.ext c fun b a=>(h1 b a).2⟩
theorem Grow.kept{r:Nat}(h:Grow B e w v xs)(d:w.grownBy w' (some r))(f:r<B):Grow B e w' v xs:=by
 obtain⟨F,h1,h2⟩:=h;refine⟨F,fun b a=>⟨(h1 b a).1,MQ (h1 b a).2 d.size⟩,h2.kept d (fun g c e=>?_) (fun b a=>⟨(h1 b a).2,fun e=>?_⟩)⟩
 ·have:=(h2.lt g c).1;cases e;omega
 ·have:=(h1 b a).1;cases e;omega
theorem Grow.lt(h:Grow B e w v xs):∀g,v.ownBlock=some g→B≤g∧g<w.heap.size:=by
 obtain⟨F,h1,h2⟩:=h;exact fun g a=>⟨(h2.lt g a).1,(h2.lt g a).2.1⟩
theorem Grow.sl(h:Grow B e w v xs):∃ao cap,v=.slice ao xs.length cap∧Sl w (fun b=>B≤b∧b<w.heap.size) ao cap xs:=by
 obtain⟨F,h1,h2⟩:=h;exact h2.slF (fun b c=>h1 b c) (fun g a=>⟨(h2.lt g a).1,(h2.lt g a).2.1⟩)
theorem Grow.open(h:Grow B e w v xs){Fu:Nat→Prop}(c:∀b,Fu b→B≤b∧b<w.heap.size)(hn:∀g,v.ownBlock=some g→¬Fu g):∃F,(∀b,F b→B≤b∧b<w.heap.size)∧Own w B e F v xs∧(∀b,Fu b→F b):=by
 obtain⟨F,h1,h2⟩:=h;refine⟨fun b=>F b∨Fu b,fun b a=>a.elim (h1 b) (c b),h2.wk (fun b a=>.inl a) (fun g d a=>?_),fun b a=>.inr a⟩;exact a.elim (h2.lt g d).2.2 (hn g d)
end
theorem Cx(w:World){F:Nat→Prop}(hF:∀b,F b→b<w.heap.size)(k:Int){v C:Value}{t j:Ltl}(h:Rd w F v t)(H:Rd w F C j):Rt Tryz.prog 241 [Py k,v,C].toArray w fun v w'=>Rd w' (da F w w') v (.mk k 0 [t,j]:Ltl)∧Ext w w':=by
 obtain⟨ao,cap,rfl,R⟩:=Rd.ltl h;obtain⟨ao',cap',rfl,O⟩:=Rd.ltl H;refine dF Tryz.func241 Tryz.ntmps241 rfl rfl ?_;refine PB ?_;refine dX rfl rfl rfl fun w0 i z=>?_
 refine dX rfl rfl rfl fun J d c=>?_
 have i:=i.ext c;have c:=z.trans c;refine WL.alloc rfl rfl (fun n E m=>?_);have i:=i.ext m;have Q:=d.ext m;have a:=c.trans m;refine Q4 ?_;have N:Rd n F (ym t.k t.n ao t.kids.length cap) t:=Rd.mono h (fun b d=>a.block b (hF b d)) Pl;have s:Rd n F (ym j.k j.n ao' j.kids.length cap') j:=Rd.mono H (fun b d=>a.block b (hF b d)) Pl;have p:w.heap.size≤n.heap.size:=a.size;have M:=E.lt;have K:w.heap.size≤J.heap.size:=c.size;refine WL.lit (F:=F) (ys:=[t,j]) rfl rfl rfl rfl rfl (.cons N (.cons s .nil)) (by show 2*3≤16777216;decide) (fun b d=>MQ (hF b d) p) (fun I G u=>?_);have l:Ext n I:=(Ext.refl n).grown u Pu Pn;have r:=E.ext l;have f:=a.trans l;refine WL.build rfl rfl rfl rfl ?_;refine WL.st rfl rfl rfl r rfl rfl Pr (fun A q o=>?_);have y:Ext w A:=f.grown o f.size (fun g x=>by cases x;exact c.size);have ho4:=G.kept o (fun g x=>by have:=(G.lt g x).1;simp;omega) (fun b d=>⟨MQ (hF b d) f.size,by have:b<w.heap.size:=hF b d;simp;omega⟩);obtain⟨uo,uc,P,L⟩:=(ho4.rd.mono (F':=da F w A) Pq (fun b d=>d.elim .inl fun D=>.inr ⟨MN a.size (ho4.lt b D).1,(ho4.lt b D).2.1⟩)).sl;obtain⟨rfl,_,rfl⟩:=Oi P;refine PO ?_;exact bg rfl rfl q rfl ⟨Rd.mkLtl (kids:=[t,j]) L,y⟩
theorem Cw(w:World)(F:Nat→Prop)(k:Int):Rt Tryz.prog 242 [Py k].toArray w fun v w'=>Rd w' F v (.mk k 0 []:Ltl)∧Ext w w':=by
 refine dD Tryz.func242 Tryz.ntmps242 rfl rfl ?_;refine PB ?_;refine WL.alloc rfl rfl (fun h g d=>?_);refine Qt ?_;refine WL.build rfl rfl rfl rfl ?_;refine WL.st rfl rfl rfl g rfl rfl Pr (fun f b a=>?_);have c:Ext w f:=d.grown a d.size Pi;refine PO ?_;exact bg rfl rfl b rfl ⟨Rd.mkLtl (kids:=[]) ⟨by simp,by simp[maxLen],fun _=>rfl,fun i hi=>absurd hi O_⟩,c⟩
abbrev GL(B:Nat)(w:World)(v:Value)(t:Ltl):Prop:=Rd w (fun b=>B≤b∧b<w.heap.size) v t
theorem GL.ext{B:Nat}{w w':World}{v:Value}{t:Ltl}(h:GL B w v t)(c:Ext w w'):GL B w' v t:=(Rd.up0 h c (fun b a=>a.2)).wk (fun b a=>⟨a.1,MQ a.2 c.size⟩)
theorem GL.st{B r:Nat}{w w':World}{v:Value}{t:Ltl}(h:GL B w v t)(c:w.grownBy w' (some r))(d:r<B):GL B w' v t:=
 (Rd.kept h c (fun b a=>⟨a.2,fun e=>by have:=Nn e;have:=a.1;omega⟩)).wk (fun b a=>⟨a.1,MQ a.2 c.size⟩)
theorem GL.low{B B':Nat}{w:World}{v:Value}{t:Ltl}(h:GL B w v t)(c:B'≤B):GL B' w v t:=Rd.wk h (fun b a=>⟨MN c a.1,a.2⟩)
theorem GL.plus{B:Nat}{w w':World}(d:B≤w.heap.size)(c:Ext w w'):∀b,da (fun b=>B≤b∧b<w.heap.size) w w' b→B≤b∧b<w'.heap.size:=fun b a=>by
 have:=c.size;rcases a with a|a
 ·exact⟨a.1,by omega⟩
 ·exact⟨by omega,a.2⟩
theorem GL.old{B:Nat}{w:World}{v:Value}{t:Ltl}(h:GL B w v t):Rd w (c7 w) v t:=Rd.wk h (fun b a=>a.2)
theorem o9{w g d c f:World}{F:Nat→Prop}{v:Value}{t:Ltl}(i:Rd c (da F d c) v t)(h:c.grownBy f (some g.heap.size))(hF:∀b,F b→b<w.heap.size)(h1:w.heap.size≤g.heap.size)(h2:g.heap.size<d.heap.size)(h3:w.heap.size≤d.heap.size)(h4:d.heap.size≤c.heap.size):
  Rd f (da F w f) v t:=by
 refine(i.kept h (fun b a=>⟨?_,fun e=>?_⟩)).wk (fun b a=>?_)
 ·rcases a with a|a
  ·have:=hF b a;omega
  ·exact a.2
 ·have:=Nn e
  rcases a with a|a
  ·have:=hF b a;omega
  ·have:=a.1;omega
 ·rcases a with a|a
  ·exact .inl a
  ·exact .inr ⟨by have:=a.1;omega,MQ a.2 h.size⟩
theorem Do{w w':World}{r:Nat}(h:Ext w w'){b:World}(a:w'.grownBy b (some r))(c:w.heap.size≤r):Ext w b:=h.grown a h.size (fun g a=>by cases a;exact c)
end Go.Proofs.YtfpjecjadlgdcaaGreatDoor
