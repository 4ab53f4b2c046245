import Derived.Test.YtfpjecjadlgdcaaGreatDoorPtReportTells1
set_option linter.unusedVariables false
set_option linter.unusedSimpArgs false
set_option linter.defProp false
namespace Go.Proofs.YtfpjecjadlgdcaaGreatDoor
set_option maxHeartbeats 4000000
variable{P:Program}{α:Type}{B a K E:Nat}{m:List Int}{F:Nat→Prop}{w:World}{v o:Value}{g:List (List Int)}{x:Int}{l:List Bool}{r:List Value}{t:TypeId}{Q:Exit→Act→World→Prop}{e:Nat→Nat→Prop}{p:Nat→Nat}{L:List Oper}{c:Value→World→Prop}{f:List ByteArray}{y:Array Bool}{S:World→Prop}{b:Value→(Nat→Nat)→World→Prop}{j:Array Edge}{u:List (Nat×Bool)}{G:String}{I:Func}{M:Array Value}
def mixed:Tryz.prog.follows .mixedOrders=true:=by kernel_rfl
instance:IsT UA 3 Int:=IsT.of SN Rw rfl
instance:IsZ UA 3 (0:Int) 8:=IsZ.of (z:=Te 0) SN S8
instance:IsC UA 3 1 false:=IsC.of SN Rw rfl
instance:IsZC UA 3 [Te 0]:=IsZC.of (z:=Te 0) SN rfl
instance:IsT UA 4 Bool:=IsT.of SN RC rfl
instance:IsZ UA 4 false 1:=IsZ.of (z:=.bool false) SN S8
instance:IsC UA 4 1 false:=IsC.of SN RC rfl
instance:IsZC UA 4 [.bool false]:=IsZC.of (z:=.bool false) SN rfl
instance:IsT UA 131 Nat:=IsT.of SN Rm rfl
instance:IsZ UA 131 (0:Nat) 8:=IsZ.of (z:=.int .u64 0) SN (fun _ _=>⟨rfl,by decide⟩)
instance:IsT UA 9 ByteArray:=IsT.of SN RI rfl
instance:IsC UA 9 1 false:=IsC.of SN RI rfl
instance:IsB UA 4:=⟨RC⟩
instance:IsI UA 3 .i64:=⟨Rw⟩
instance:IsT UA 39 (List Int):=IsT.of SN RB rfl
instance:IsS UA 39 3:=⟨RB⟩
instance:IsC UA 39 1 false:=IsC.of SN RB rfl
instance:IsZC UA 39 [.slice none 0 0]:=IsZC.of (z:=.slice none 0 0) SN rfl
instance:IsT UA 50 (List (List Int)):=IsT.of SN RE rfl
instance:IsS UA 50 39:=⟨RE⟩
instance:IsC UA 50 1 false:=IsC.of SN RE rfl
instance:IsT UA 80 (List Bool):=IsT.of SN RH rfl
instance:IsS UA 80 4:=⟨RH⟩
instance:IsC UA 80 1 false:=IsC.of SN RH rfl
instance:IsZC UA 80 [.slice none 0 0]:=IsZC.of (z:=.slice none 0 0) SN rfl
instance:IsS UA 72 131:=⟨Tryz.underlying72⟩
instance:IsC UA 72 1 false:=IsC.of SN Tryz.underlying72 rfl
instance:IsS UA 66 9:=⟨RF⟩
instance:IsC UA 66 1 false:=IsC.of SN RF rfl
instance:IsC UA 86 2 true:=IsC.of SN Tryz.underlying86 rfl
instance:IsFd UA 86 0 0:=IsFd.of SN
instance:IsFd UA 86 1 1:=IsFd.of SN
instance:IsZC UA 86 [.slice none 0 0,.slice none 0 0]:=IsZC.of (z:=.agg #[.slice none 0 0,.slice none 0 0]) SN rfl
instance:IsBd UA 86 [(0,1),(1,1)]:=IsBd.of SN
instance:IsT UA 27 (Int×Int×Int×Int×Int×Int×Int):=IsT.of SN Rs rfl
instance:IsC UA 27 7 true:=IsC.of SN Rs rfl
instance:IsFd UA 27 0 0:=IsFd.of SN
instance:IsFd UA 27 1 1:=IsFd.of SN
instance:IsFd UA 27 2 2:=IsFd.of SN
instance:IsFd UA 27 3 3:=IsFd.of SN
instance:IsFd UA 27 4 4:=IsFd.of SN
instance:IsFd UA 27 5 5:=IsFd.of SN
instance:IsFd UA 27 6 6:=IsFd.of SN
instance:IsZC UA 27 [Te 0,Te 0,Te 0,Te 0,Te 0,Te 0,Te 0]:=IsZC.of (z:=.agg #[Te 0,Te 0,Te 0,Te 0,Te 0,Te 0,Te 0]) SN rfl
instance:IsBd UA 27 [(0,1),(1,1),(2,1),(3,1),(4,1),(5,1),(6,1)]:=IsBd.of SN
instance:IsT UA 29 (Int×Int×Int×Int):=IsT.of SN Rv rfl
instance:IsC UA 29 4 true:=IsC.of SN Rv rfl
instance:IsFd UA 29 0 0:=IsFd.of SN
instance:IsFd UA 29 1 1:=IsFd.of SN
instance:IsFd UA 29 2 2:=IsFd.of SN
instance:IsFd UA 29 3 3:=IsFd.of SN
instance:IsZC UA 29 [Te 0,Te 0,Te 0,Te 0]:=IsZC.of (z:=.agg #[Te 0,Te 0,Te 0,Te 0]) SN rfl
instance:IsBd UA 29 [(0,1),(1,1),(2,1),(3,1)]:=IsBd.of SN
instance:IsC UA 74 4 true:=IsC.of SN Tryz.underlying74 rfl
instance:IsFd UA 74 0 0:=IsFd.of SN
instance:IsFd UA 74 1 1:=IsFd.of SN
instance:IsFd UA 74 2 2:=IsFd.of SN
instance:IsFd UA 74 3 3:=IsFd.of SN
instance:IsZC UA 74 [.slice none 0 0,.slice none 0 0,.slice none 0 0,.slice none 0 0]:=IsZC.of (z:=.agg #[.slice none 0 0,.slice none 0 0,.slice none 0 0,.slice none 0 0]) SN rfl
instance:IsBd UA 74 [(0,1),(1,1),(2,1),(3,1)]:=IsBd.of SN
instance:IsC UA 144 5 true:=IsC.of SN Tryz.underlying144 rfl
instance:IsFd UA 144 0 0:=IsFd.of SN
instance:IsFd UA 144 1 1:=IsFd.of SN
instance:IsFd UA 144 2 2:=IsFd.of SN
instance:IsFd UA 144 3 3:=IsFd.of SN
instance:IsFd UA 144 4 4:=IsFd.of SN
instance:IsZC UA 144 [.slice none 0 0,.slice none 0 0,.slice none 0 0,.slice none 0 0,.slice none 0 0]:=IsZC.of (z:=.agg #[.slice none 0 0,.slice none 0 0,.slice none 0 0,.slice none 0 0,.slice none 0 0]) SN rfl
instance:IsBd UA 144 [(0,1),(1,1),(2,1),(3,1),(4,1)]:=IsBd.of SN
instance:IsT UA 123 (ByteArray×Int):=IsT.of SN Tryz.underlying123 rfl
instance:IsC UA 123 2 true:=IsC.of SN Tryz.underlying123 rfl
instance:IsFd UA 123 0 0:=IsFd.of SN
instance:IsFd UA 123 1 1:=IsFd.of SN
instance:IsZC UA 123 [.string ⟨#[]⟩,Te 0]:=IsZC.of (z:=.agg #[.string ⟨#[]⟩,Te 0]) SN rfl
instance:IsBd UA 123 [(0,1),(1,1)]:=IsBd.of SN
instance:IsZ UA 123 ((⟨#[]⟩,0):(ByteArray×Int)) 24:=IsZ.of (z:=.agg #[.string ⟨#[]⟩,Te 0]) SN (fun _ _=>E8 (c1:=[.string ⟨#[]⟩]) (c2:=[Te 0]) ⟨rfl,by decide⟩ (E9 _ _ _))
instance:IsT UA 48 (Int×Int):=IsT.of SN Tryz.underlying48 rfl
instance:IsC UA 48 2 true:=IsC.of SN Tryz.underlying48 rfl
instance:IsFd UA 48 0 0:=IsFd.of SN
instance:IsFd UA 48 1 1:=IsFd.of SN
instance:IsZC UA 48 [Te 0,Te 0]:=IsZC.of (z:=.agg #[Te 0,Te 0]) SN rfl
instance:IsBd UA 48 [(0,1),(1,1)]:=IsBd.of SN
instance:IsZ UA 48 ((0,0):(Int×Int)) 16:=IsZ.of (z:=.agg #[Te 0,Te 0]) SN (fun _ _=>E8 (E9 _ _ _) (E9 _ _ _))
instance:IsT UA 25 (List (ByteArray×Int)×List (Int×Int)):=IsT.of SN Tryz.underlying25 rfl
instance:IsC UA 25 2 true:=IsC.of SN Tryz.underlying25 rfl
instance:IsFd UA 25 0 0:=IsFd.of SN
instance:IsFd UA 25 1 1:=IsFd.of SN
instance:IsZC UA 25 [.slice none 0 0,.slice none 0 0]:=IsZC.of (z:=.agg #[.slice none 0 0,.slice none 0 0]) SN rfl
instance:IsBd UA 25 [(0,1),(1,1)]:=IsBd.of SN
instance:IsT UA 163 (Int×Int×Int):=IsT.of SN Tryz.underlying163 rfl
instance:IsC UA 163 3 true:=IsC.of SN Tryz.underlying163 rfl
instance:IsFd UA 163 0 0:=IsFd.of SN
instance:IsFd UA 163 1 1:=IsFd.of SN
instance:IsFd UA 163 2 2:=IsFd.of SN
instance:IsZC UA 163 [Te 0,Te 0,Te 0]:=IsZC.of (z:=.agg #[Te 0,Te 0,Te 0]) SN rfl
instance:IsBd UA 163 [(0,1),(1,1),(2,1)]:=IsBd.of SN
instance:IsZ UA 163 ((0,0,0):(Int×Int×Int)) 24:=IsZ.of (z:=.agg #[Te 0,Te 0,Te 0]) SN (fun _ _=>E8 (E9 _ _ _) (E8 (E9 _ _ _) (E9 _ _ _)))
instance:IsT UA 149 (Int×Int):=IsT.of SN Tryz.underlying149 rfl
instance:IsC UA 149 2 true:=IsC.of SN Tryz.underlying149 rfl
instance:IsFd UA 149 0 0:=IsFd.of SN
instance:IsFd UA 149 1 1:=IsFd.of SN
instance:IsZC UA 149 [Te 0,Te 0]:=IsZC.of (z:=.agg #[Te 0,Te 0]) SN rfl
instance:IsBd UA 149 [(0,1),(1,1)]:=IsBd.of SN
instance:IsZ UA 149 ((0,0):(Int×Int)) 16:=IsZ.of (z:=.agg #[Te 0,Te 0]) SN (fun _ _=>E8 (E9 _ _ _) (E9 _ _ _))
instance:IsC UA 53 2 true:=IsC.of SN Tryz.underlying53 rfl
instance:IsFd UA 53 0 0:=IsFd.of SN
instance:IsFd UA 53 1 1:=IsFd.of SN
instance:IsZC UA 53 [.slice none 0 0,.slice none 0 0]:=IsZC.of (z:=.agg #[.slice none 0 0,.slice none 0 0]) SN rfl
instance:IsBd UA 53 [(0,1),(1,1)]:=IsBd.of SN
instance:IsC UA 41 3 true:=IsC.of SN Tryz.underlying41 rfl
instance:IsFd UA 41 0 0:=IsFd.of SN
instance:IsZC UA 41 [.bool false,.slice none 0 0,.slice none 0 0]:=IsZC.of (z:=.agg #[.bool false,.slice none 0 0,.slice none 0 0]) SN rfl
instance:IsBd UA 41 [(0,1),(1,1),(2,1)]:=IsBd.of SN
instance:IsC UA 57 5 true:=IsC.of SN Tryz.underlying57 rfl
instance:IsZC UA 57 [.slice none 0 0,Te 0,Te 0,.slice none 0 0,.slice none 0 0]:=IsZC.of (z:=.agg #[.slice none 0 0,Te 0,Te 0,.slice none 0 0,.slice none 0 0]) SN rfl
instance:IsBd UA 57 [(0,1),(1,1),(2,1),(3,1),(4,1)]:=IsBd.of SN
instance:IsT UA 96 (Int×Int):=IsT.of SN Tryz.underlying96 rfl
instance:IsC UA 96 2 true:=IsC.of SN Tryz.underlying96 rfl
instance:IsZC UA 96 [Te 0,Te 0]:=IsZC.of (z:=.agg #[Te 0,Te 0]) SN rfl
instance:IsBd UA 96 [(0,1),(1,1)]:=IsBd.of SN
instance:IsZ UA 96 ((0,0):(Int×Int)) 16:=IsZ.of (z:=.agg #[Te 0,Te 0]) SN (fun _ _=>E8 (E9 _ _ _) (E9 _ _ _))
instance:IsFd UA 197 0 0:=IsFd.of SN
instance:IsFd UA 197 1 4:=IsFd.of SN
instance:IsFd UA 197 2 5:=IsFd.of SN
instance:IsZC UA 197 [.slice none 0 0,.slice none 0 0,.slice none 0 0,.slice none 0 0,.slice none 0 0,.slice none 0 0]:=IsZC.of (z:=.agg #[.slice none 0 0,.slice none 0 0,.slice none 0 0,.slice none 0 0,.slice none 0 0,.slice none 0 0]) SN rfl
instance:IsBd UA 197 [(0,4),(4,1),(5,1)]:=IsBd.of SN
instance:IsFd UA 129 0 0:=IsFd.of SN
instance:IsFd UA 129 1 1:=IsFd.of SN
instance:IsFd UA 129 2 3:=IsFd.of SN
instance:IsFd UA 129 3 4:=IsFd.of SN
instance:IsFd UA 129 4 5:=IsFd.of SN
instance:IsFd UA 129 5 6:=IsFd.of SN
instance:IsZC UA 129 [.slice none 0 0,.slice none 0 0,.slice none 0 0,.slice none 0 0,.slice none 0 0,.slice none 0 0,.slice none 0 0,.slice none 0 0,.slice none 0 0,.slice none 0 0]:=IsZC.of (z:=.agg #[.slice none 0 0,.slice none 0 0,.slice none 0 0,.slice none 0 0,.slice none 0 0,.slice none 0 0,.slice none 0 0,.slice none 0 0,.slice none 0 0,.slice none 0 0]) SN rfl
instance:IsBd UA 129 [(0,1),(1,2),(3,1),(4,1),(5,1),(6,4)]:=IsBd.of SN
instance:IsT UA 226 (Int×Int):=IsT.of SN Ro rfl
instance:IsC UA 226 2 true:=IsC.of SN Ro rfl
instance:IsFd UA 226 0 0:=IsFd.of SN
instance:IsFd UA 226 1 1:=IsFd.of SN
instance:IsZC UA 226 [Te 0,Te 0]:=IsZC.of (z:=.agg #[Te 0,Te 0]) SN rfl
instance:IsBd UA 226 [(0,1),(1,1)]:=IsBd.of SN
instance:IsZ UA 226 ((0,0):(Int×Int)) 16:=IsZ.of (z:=.agg #[Te 0,Te 0]) SN (fun _ _=>E8 (E9 _ _ _) (E9 _ _ _))
instance:IsFd UA 223 0 0:=IsFd.of SN
instance:IsFd UA 223 1 4:=IsFd.of SN
instance:IsFd UA 223 2 9:=IsFd.of SN
instance:IsFd UA 223 3 10:=IsFd.of SN
instance:IsFd UA 223 4 11:=IsFd.of SN
instance:IsFd UA 223 5 12:=IsFd.of SN
instance:IsZC UA 223 [.slice none 0 0,.slice none 0 0,.slice none 0 0,.slice none 0 0,.slice none 0 0,.slice none 0 0,.slice none 0 0,.slice none 0 0,.slice none 0 0,.map none,.slice none 0 0,.slice none 0 0,.slice none 0 0]:=IsZC.of (z:=.agg #[.slice none 0 0,.slice none 0 0,.slice none 0 0,.slice none 0 0,.slice none 0 0,.slice none 0 0,.slice none 0 0,.slice none 0 0,.slice none 0 0,.map none,.slice none 0 0,.slice none 0 0,.slice none 0 0]) SN rfl
instance:IsBd UA 223 [(0,4),(4,5),(9,1),(10,1),(11,1),(12,1)]:=IsBd.of SN
instance:IsFd UA 279 0 0:=IsFd.of SN
instance:IsFd UA 279 1 1:=IsFd.of SN
instance:IsFd UA 279 2 2:=IsFd.of SN
instance:IsFd UA 279 3 3:=IsFd.of SN
instance:IsFd UA 279 4 4:=IsFd.of SN
instance:IsFd UA 279 5 5:=IsFd.of SN
instance:IsFd UA 279 6 6:=IsFd.of SN
instance:IsZC UA 279 [.slice none 0 0,.slice none 0 0,.slice none 0 0,.slice none 0 0,.slice none 0 0,Te 0,Te 0]:=IsZC.of (z:=.agg #[.slice none 0 0,.slice none 0 0,.slice none 0 0,.slice none 0 0,.slice none 0 0,Te 0,Te 0]) SN rfl
instance:IsBd UA 279 [(0,1),(1,1),(2,1),(3,1),(4,1),(5,1),(6,1)]:=IsBd.of SN
instance:IsT UA 22 (List (ByteArray×Int)):=IsT.of SN Rn rfl
instance:IsS UA 22 123:=⟨Rn⟩
instance:IsC UA 22 1 false:=IsC.of SN Rn rfl
instance:IsT UA 23 (List (Int×Int)):=IsT.of SN Rp rfl
instance:IsS UA 23 48:=⟨Rp⟩
instance:IsC UA 23 1 false:=IsC.of SN Rp rfl
instance:IsS UA 108 163:=⟨Tryz.underlying108⟩
instance:IsC UA 108 1 false:=IsC.of SN Tryz.underlying108 rfl
instance:IsT UA 75 (List (Int×Int)):=IsT.of SN RG rfl
instance:IsS UA 75 149:=⟨RG⟩
instance:IsC UA 75 1 false:=IsC.of SN RG rfl
instance:IsS UA 51 75:=⟨Tryz.underlying51⟩
instance:IsC UA 51 1 false:=IsC.of SN Tryz.underlying51 rfl
instance:IsS UA 221 226:=⟨Tryz.underlying221⟩
instance:IsC UA 221 1 false:=IsC.of SN Tryz.underlying221 rfl
instance:IsS UA 94 96:=⟨Tryz.underlying94⟩
instance:IsC UA 94 1 false:=IsC.of SN Tryz.underlying94 rfl
instance:IsS UA 200 80:=⟨Tryz.underlying200⟩
instance:IsC UA 200 1 false:=IsC.of SN Tryz.underlying200 rfl
instance:IsZC UA 200 [.slice none 0 0]:=IsZC.of (z:=.slice none 0 0) SN rfl
instance:IsC UA 135 1 false:=IsC.of SN Tryz.underlying135 rfl
instance:IsC UA 219 1 false:=IsC.of SN Tryz.underlying219 rfl
instance:IsC UA 90 1 false:=IsC.of SN Tryz.underlying90 rfl
instance:IsF UA 229:=UB Tryz.func229
instance:IsF UA 228:=UB Tryz.func228
instance:IsF UA 157:=UB Tryz.func157
instance:IsF UA 200:=UB Tryz.func200
instance:IsF UA 122:=UB Tryz.func122
instance:IsF UA 125:=UB Tryz.func125
instance:IsF UA 205:=UB Tryz.func205
instance:IsF UA 128:=UB Tryz.func128
instance:IsF UA 207:=UB Tryz.func207
instance:IsF UA 208:=UB Tryz.func208
instance:IsF UA 209:=UB Tryz.func209
instance:IsF UA 124:=UB Tryz.func124
instance:IsF UA 202:=UB Tryz.func202
instance:IsF UA 203:=UB Tryz.func203
instance:IsF UA 204:=UB Tryz.func204
instance:IsF UA 129:=UB Tryz.func129
instance:IsF UA 126:=UB Tryz.func126
instance:IsF UA 105:=UB Tryz.func105
instance:IsF UA 100:=UB Tryz.func100
instance:IsF UA 162:=UB Tryz.func162
instance:IsF UA 96:=UB Tryz.func96
instance:IsF UA 104:=UB Tryz.func104
instance:IsF UA 103:=UB Tryz.func103
instance:IsF UA 102:=UB Tryz.func102
instance:IsF UA 163:=UB Tryz.func163
instance:IsF UA 55:=UB Tryz.func55
instance:IsF UA 97:=UB Tryz.func97
instance:IsF UA 98:=UB Tryz.func98
instance:IsF UA 101:=UB Tryz.func101
instance:IsF UA 99:=UB Tryz.func99
instance:IsF UA 161:=UB Tryz.func161
instance:IsF UA 227:=UB Tryz.func227
instance:IsF UA 156:=UB Tryz.func156
instance:IsF UA 49:=UB Tryz.func49
instance:IsF UA 50:=UB Tryz.func50
instance:IsF UA 48:=UB Tryz.func48
instance:IsF UA 47:=UB Tryz.func47
instance:IsF UA 46:=UB Tryz.func46
instance:IsF UA 260:=UB Tryz.func260
instance:IsF UA 261:=UB Tryz.func261
instance:IsF UA 201:=UB Tryz.func201
instance:IsF UA 65:=UB Tryz.func65
instance:IsF UA 64:=UB Tryz.func64
instance:IsF UA 130:=UB Tryz.func130
instance:IsF UA 119:=UB Tryz.func119
instance:IsF UA 196:=UB Tryz.func196
instance:IsF UA 120:=UB Tryz.func120
instance:IsF UA 113:=UB Tryz.func113
instance:IsF UA 116:=⟨_,Q6,rfl,by decide⟩
instance:IsF UA 115:=UB Tryz.func115
instance:IsF UA 118:=UB Tryz.func118
instance:IsF UA 193:=UB Tryz.func193
instance:IsF UA 245:=UB Tryz.func245
instance:IsF UA 117:=UB Tryz.func117
instance:IsF UA 110:=UB Tryz.func110
instance:IsF UA 66:=UB Tryz.func66
instance:IsF UA 213:=UB Tryz.func213
instance:IsF UA 141:=UB Tryz.func141
instance:IsF UA 192:=UB Tryz.func192
instance:IsF UA 189:=UB Tryz.func189
instance:IsF UA 134:=UB Tryz.func134
instance:IsF UA 152:=UB Tryz.func152
instance:IsF UA 72:=UB Tryz.func72
instance:IsF UA 243:=UB Tryz.func243
instance:IsF UA 158:=UB Tryz.func158
instance:IsF UA 206:=UB Tryz.func206
instance:IsF UA 114:=UB Tryz.func114
instance:IsF UA 121:=UB Tryz.func121
instance:IsF UA 198:=UB Tryz.func198
instance:IsF UA 199:=UB Tryz.func199
instance:IsF UA 259:=UB Tryz.func259
instance:IsF UA 197:=UB Tryz.func197
instance:IsF UA 258:=UB Tryz.func258
instance:IsF UA 94:=UB Tryz.func94
instance:IsF UA 91:=UB Tryz.func91
instance:IsF UA 272:=UB Tryz.func272
instance:IsF UA 159:=UB Tryz.func159
instance:IsF UA 231:=UB Tryz.func231
instance:IsF UA 230:=UB Tryz.func230
instance:IsF UA 88:=UB Tryz.func88
instance:IsF UA 57:=UB Tryz.func57
instance:IsF UA 177:=UB Tryz.func177
instance:IsF UA 184:=UB Tryz.func184
instance:IsF UA 185:=UB Tryz.func185
instance:IsF UA 155:=UB Tryz.func155
instance:IsF UA 174:=UB Tryz.func174
instance:IsF UA 107:=UB Tryz.func107
instance:IsF UA 173:=UB Tryz.func173
instance:IsF UA 175:=UB Tryz.func175
instance:IsF UA 176:=UB Tryz.func176
instance:IsF UA 181:=UB Tryz.func181
instance:IsF UA 183:=UB Tryz.func183
instance:IsF UA 179:=UB Tryz.func179
instance:IsF UA 186:=UB Tryz.func186
instance:IsF UA 178:=UB Tryz.func178
instance:IsF UA 180:=UB Tryz.func180
instance:IsF UA 182:=UB Tryz.func182
instance:IsF UA 86:=UB Tryz.func86
instance:IsF UA 56:=UB Tryz.func56
instance:IsF UA 169:=UB Tryz.func169
instance:IsF UA 171:=UB Tryz.func171
instance:IsF UA 106:=UB Tryz.func106
instance:IsF UA 172:=UB Tryz.func172
instance:IsF UA 164:=UB Tryz.func164
instance:IsF UA 165:=UB Tryz.func165
instance:IsF UA 167:=UB Tryz.func167
instance:IsF UA 166:=UB Tryz.func166
instance:IsF UA 154:=UB Tryz.func154
instance:IsF UA 233:=UB Tryz.func233
instance:IsF UA 170:=UB Tryz.func170
instance:IsF UA 168:=UB Tryz.func168
instance:IsF UA 234:=UB Tryz.func234
instance:IsF UA 235:=UB Tryz.func235
instance:IsF UA 237:=UB Tryz.func237
instance:IsF UA 238:=UB Tryz.func238
instance:IsF UA 239:=UB Tryz.func239
instance:IsF UA 240:=UB Tryz.func240
instance:IsF UA 236:=UB Tryz.func236
instance:IsF UA 62:=UB Tryz.func62
instance:IsF UA 127:=UB Tryz.func127
instance:IsF UA 63:=UB Tryz.func63
instance:IsF UA 132:=UB Tryz.func132
instance:IsF UA 133:=UB Tryz.func133
instance:IsF UA 210:=UB Tryz.func210
instance:IsF UA 262:=UB Tryz.func262
instance:IsF UA 280:=UB Tryz.func280
instance:IsF UA 211:=UB Tryz.func211
instance:IsF UA 264:=UB Tryz.func264
instance:IsF UA 212:=UB Tryz.func212
instance:IsF UA 263:=UB Tryz.func263
instance:IsF UA 26:=UB Tryz.func26
instance:IsF UA 7:=UB Tryz.func7
instance:IsF UA 27:=UB Tryz.func27
instance:IsF UA 23:=UB Tryz.func23
instance:IsF UA 24:=UB Tryz.func24
instance:IsF UA 54:=UB Tryz.func54
instance:IsF UA 53:=UB Tryz.func53
instance:IsF UA 58:=UB Tryz.func58
instance:IsF UA 90:=UB Tryz.func90
instance:IsF UA 271:=UB Tryz.func271
instance:IsF UA 108:=UB Tryz.func108
instance:IsF UA 187:=UB Tryz.func187
instance:IsF UA 226:=UB Tryz.func226
instance:IsF UA 75:=UB Tryz.func75
instance:IsF UA 142:=UB Tryz.func142
instance:IsF UA 51:=UB Tryz.func51
instance:IsF UA 143:=UB Tryz.func143
instance:IsF UA 138:=UB Tryz.func138
instance:IsF UA 139:=UB Tryz.func139
instance:IsF UA 215:=UB Tryz.func215
instance:IsF UA 137:=UB Tryz.func137
instance:IsF UA 214:=UB Tryz.func214
instance:IsF UA 140:=UB Tryz.func140
instance:IsF UA 112:=UB Tryz.func112
instance:IsF UA 246:=UB Tryz.func246
instance:IsF UA 242:=UB Tryz.func242
instance:IsF UA 191:=UB Tryz.func191
instance:IsF UA 190:=UB Tryz.func190
instance:IsF UA 241:=UB Tryz.func241
instance:IsF UA 22:=UB Tryz.func22
instance:IsF UA 25:=UB Tryz.func25
instance:IsF UA 89:=UB Tryz.func89
instance:IsF UA 87:=UB Tryz.func87
instance:IsF UA 59:=UB Tryz.func59
instance:IsF UA 93:=UB Tryz.func93
instance:IsF UA 52:=UB Tryz.func52
instance:IsF UA 92:=UB Tryz.func92
instance:IsF UA 21:=UB Tryz.func21
instance:IsF UA 68:=UB Tryz.func68
instance:IsF UA 32:=UB Tryz.func32
instance:IsF UA 123:=UB Tryz.func123
instance:IsF UA 30:=UB Tryz.func30
instance:IsF UA 73:=UB Tryz.func73
instance:IsF UA 136:=UB Tryz.func136
instance:IsF UA 70:=UB Tryz.func70
instance:IsF UA 135:=UB Tryz.func135
instance:IsF UA 71:=UB Tryz.func71
instance:IsF UA 69:=UB Tryz.func69
instance:IsF UA 10:=UB Tryz.func10
instance:IsF UA 131:=UB Tryz.func131
instance:IsF UA 28:=UB Tryz.func28
instance:IsF UA 35:=UB Tryz.func35
instance:IsF UA 76:=UB Tryz.func76
instance:IsF UA 61:=UB Tryz.func61
instance:IsF UA 14:=UB Tryz.func14
instance:IsF UA 60:=UB Tryz.func60
instance:IsF UA 111:=UB Tryz.func111
instance:IsF UA 95:=UB Tryz.func95
instance:IsF UA 160:=UB Tryz.func160
instance:IsF UA 232:=UB Tryz.func232
instance:IsF UA 273:=UB Tryz.func273
instance:IsF UA 109:=UB Tryz.func109
instance:IsF UA 188:=UB Tryz.func188
open Go.RowKit
inductive Ltl where
 |mk (k n:Int) (kids:List Ltl):Ltl
def Ltl.k:Ltl->Int|.mk k _ _=>k
def Ltl.n:Ltl->Int|.mk _ n _=>n
def Ltl.kids:Ltl->List Ltl|.mk _ _ l=>l
mutual
def Ltl.nodes:Ltl->Nat
 |.mk _ _ kids=>1+Ltl.nodesL kids
def Ltl.nodesL:List Ltl->Nat
 |[]=>0
 |x::r=>x.nodes+Ltl.nodesL r
end
def Ltl.nodes_pos(t:Ltl):0<t.nodes:=by cases t;simp[Ltl.nodes];omega
def Ltl.nodes_kid:∀(l:List Ltl) (x:Ltl),x∈l->x.nodes<=Ltl.nodesL l
 |[],x,h=>by cases h
 |y::r,x,h=>by
  simp only[Ltl.nodesL];rcases Pk.1 h with rfl|h
  ·omega
  ·have:=Ltl.nodes_kid r x h;omega
inductive RdT(w:World)(F:Nat->Prop):List Value->Ltl->Prop
 |mk (k n:Int) (kids:List Ltl) (ao:Option Addr) (cap:Nat) (es:Nat->List Value):kids.length<=cap->cap<=maxLen->(ao=none->cap=0)->
   (∀i,i<kids.length->∃b off,ao=some ⟨b,off,none⟩/\F b/\Cells w b (off+i*3) (es i))->(∀i (h:i<kids.length),RdT w F (es i) kids[i])->
   RdT w F [.int .i64 k,.int .i64 n,.slice ao kids.length cap] (.mk k n kids)
instance:Rep Ltl where
 sz:=3
 pos:=by decide
 agg:=true
 rd:=RdT
 len:=by intro w F cs x h;cases h;rfl
 one:=by
  intro w F cs x h v a
  cases h
  simp at a
  rcases a with rfl|rfl|rfl<;>rfl
 szAgg:=fun h=>by cases h
 mono:=by
  intro w w' F F' cs x h f hF
  induction h with
  |mk k n kids ao cap g h1 h2 h3 h4 j c=>
   refine .mk k n kids ao cap g h1 h2 h3 (fun i hi=>?_) (fun i hi=>c i hi);obtain⟨b,off,e,hf,d⟩:=h4 i hi;exact⟨b,off,e,hF b hf,d.mono (f b hf)⟩
def RdT.sl{cs:List Value}{t:Ltl}(h:rd w F cs t):∃ao cap,cs=[Te t.k,Te t.n,.slice ao t.kids.length cap]/\Sl w F ao cap t.kids:=by
 cases h with
 |mk k n kids ao cap d h1 h2 h3 h4 c=>
  refine⟨ao,cap,rfl,h1,h2,h3,fun i hi=>?_⟩;obtain⟨b,off,e,hf,a⟩:=h4 i hi;exact⟨b,off,e,hf,d i,a,c i hi⟩
def RdT.of{k n:Int}{kids:List Ltl}{ao:Option Addr}{cap:Nat}(h:Sl w F ao cap kids):rd w F [Te k,Te n,.slice ao kids.length cap] (Ltl.mk k n kids):=by
 have h4:∀i,∃c:List Value,∀hi:i<kids.length,∃b off,ao=some ⟨b,off,none⟩/\F b/\Cells w b (off+i*3) c/\rd w F c kids[i]:=by
  intro i
  by_cases hi:i<kids.length
  ·obtain⟨b,off,e,hf,c,a,d⟩:=h.el i hi
   exact⟨c,fun _=>⟨b,off,e,hf,a,d⟩⟩
  ·exact⟨[],fun h=>absurd h hi⟩
 refine .mk k n kids ao cap (fun i=>Classical.choose (h4 i)) h.le h.mx h.nil (fun i hi=>?_) (fun i hi=>?_)
 ·obtain⟨b,off,e,hf,a,_⟩:=Ni (h4 i) hi
  exact⟨b,off,e,hf,a⟩
 ·obtain⟨b,off,e,hf,a,d⟩:=Ni (h4 i) hi
  exact d
abbrev AR(k n:Int)(ao:Option Addr)(len cap:Nat):Value:=.agg [.int .i64 k,.int .i64 n,.slice ao len cap].toArray
def Rd.ltl{t:Ltl}(h:Rd w F v t):∃ao cap,v=AR t.k t.n ao t.kids.length cap/\Sl w F ao cap t.kids:=by
 obtain⟨cs,e,b⟩:=h;obtain⟨ao,cap,rfl,a⟩:=RdT.sl b;exact⟨ao,cap,e,a⟩
def Rd.mkLtl{k n:Int}{kids:List Ltl}{ao:Option Addr}{cap:Nat}(h:Sl w F ao cap kids):Rd w F (AR k n ao kids.length cap) (Ltl.mk k n kids):=⟨_,rfl,RdT.of h⟩
instance:IsT UA 32 Ltl:=IsT.of SN Tryz.underlying32 rfl
instance:IsS UA 30 32:=⟨Rx⟩
instance:IsT UA 30 (List Ltl):=IsT.of SN Rx rfl
instance:IsZ UA 32 (Ltl.mk 0 0 []) 40:=IsZ.of (z:=.agg #[Te 0,Te 0,.slice none 0 0]) SN (fun _ _=>RdT.of (kids:=[]) ⟨by simp,by simp[maxLen],fun _=>rfl,fun i hi=>absurd hi SQ⟩)
instance:IsC UA 32 3 true:=IsC.of SN Tryz.underlying32 rfl
instance:IsC UA 30 1 false:=IsC.of SN Rx rfl
instance:IsFd UA 32 0 0:=IsFd.of SN
instance:IsFd UA 32 1 1:=IsFd.of SN
instance:IsFd UA 32 2 2:=IsFd.of SN
instance:IsZC UA 32 [Te 0,Te 0,.slice none 0 0]:=IsZC.of (z:=.agg #[Te 0,Te 0,.slice none 0 0]) SN rfl
instance:IsBd UA 32 [(0,1),(1,1),(2,1)]:=IsBd.of SN
def zN(k:Int):Int:=if k=1\/k=2\/k=3 then 0 else if k=4\/k=7\/k=10\/k=11 then 1 else if k=5\/k=6\/k=8\/k=9 then 2 else -1
def zQ(w:World)(k:Int):Rt UA 187 [Te k].toArray w fun v w'=>v=Te (zN k)/\w=w':=by
 refine dU Tryz.func187 Tryz.ntmps187 rfl rfl ?_;unfold zN;refine TI ?_;refine CW.cond rfl (fun h=>?_) (fun h=>?_)<;>simp at h
 ·subst h;refine T8 ?_
  exact bj ⟨rfl,rfl⟩
 refine T2 ?_;refine CW.cond rfl (fun h=>?_) (fun h=>?_)<;>simp at h
 ·subst h;refine T8 ?_
  exact bj ⟨rfl,rfl⟩
 refine T2 ?_;refine CW.cond rfl (fun h=>?_) (fun h=>?_)<;>simp at h
 ·subst h;refine Th ?_
  exact bj ⟨rfl,rfl⟩
 rw[Si SM];refine T2 ?_;refine CW.cond rfl (fun h=>?_) (fun h=>?_)<;>simp at h
 ·subst h;refine T8 ?_
  exact bj ⟨rfl,rfl⟩
 refine T2 ?_;refine CW.cond rfl (fun h=>?_) (fun h=>?_)<;>simp at h
 ·subst h;refine T8 ?_
  exact bj ⟨rfl,rfl⟩
 refine T2 ?_;refine CW.cond rfl (fun h=>?_) (fun h=>?_)<;>simp at h
 ·subst h;refine T8 ?_
  exact bj ⟨rfl,rfl⟩
 refine T2 ?_;refine CW.cond rfl (fun h=>?_) (fun h=>?_)<;>simp at h
 ·subst h;refine Th ?_
  exact bj ⟨rfl,rfl⟩
 rw[Si SM];refine T2 ?_;refine CW.cond rfl (fun h=>?_) (fun h=>?_)<;>simp at h
 ·subst h;refine T8 ?_
  exact bj ⟨rfl,rfl⟩
 refine T2 ?_;refine CW.cond rfl (fun h=>?_) (fun h=>?_)<;>simp at h
 ·subst h;refine T8 ?_
  exact bj ⟨rfl,rfl⟩
 refine T2 ?_;refine CW.cond rfl (fun h=>?_) (fun h=>?_)<;>simp at h
 ·subst h;refine T8 ?_
  exact bj ⟨rfl,rfl⟩
 refine T2 ?_;refine CW.cond rfl (fun h=>?_) (fun h=>?_)<;>simp at h
 ·subst h;refine Th ?_
  exact bj ⟨rfl,rfl⟩
 rw[Si SM];refine Tx ?_;exact bj ⟨rfl,rfl⟩
def ue{c b:World}{r:Option Nat}(h1:w.grownBy c r)(h2:c.grownBy b r):w.grownBy b r:=
 ⟨h2.os.trans h1.os,h2.tape.trans h1.tape,h2.output.trans h1.output,Qk h1.size h2.size,fun k d a=>(h2.block k (Qn d h1.size) a).trans (h1.block k d a)⟩
def Ext.grw{a:World}(h:Ext w a)(r:Option Nat):w.grownBy a r:=⟨h.os,h.tape,h.output,h.size,fun k b _=>h.block k b⟩
mutual
def kD:Ltl->Int->Int->Int×Int
 |.mk k n kids,deep,c=>if c+1>60 then(2,c+1)else if deep>20 then(5,c+1)else if zN k≠kids.length\/n<0\/n>63\/(k≠3/\n≠0)then(1,c+1)else kE kids (deep+1) (c+1)
def kE:List Ltl->Int->Int->Int×Int
 |[],_,c=>(0,c)
 |x::r,deep,c=>if(kD x deep c).1≠0 then kD x deep c else kE r deep (kD x deep c).2
end
mutual
theorem kJ:∀(t:Ltl) (deep c:Int),(kD t deep c).1=0->c<(kD t deep c).2/\(kD t deep c).2<=60
 |.mk k n kids,deep,c,h=>by
  simp only[kD]at h⊢
  split at h
  ·cases h
  ·rename_i h1
   rw[Si h1];split at h
   ·cases h
   ·rename_i h2
    rw[Si h2];split at h
    ·cases h
    ·rename_i h3
     rw[Si h3];have:=kF kids (deep+1) (c+1) SM h;omega
theorem kF:∀(l:List Ltl) (deep c:Int),c<=60->(kE l deep c).1=0->c<=(kE l deep c).2/\(kE l deep c).2<=60
 |[],deep,c,a,h=>by simp only[kE];omega
 |x::r,deep,c,a,h=>by
  simp only[kE]at h⊢
  split at h
  ·rename_i h1;exact absurd h h1
  ·rename_i h1
   rw[Si h1];have h2:=kJ x deep c (by simpa using h1);have h3:=kF r deep _ h2.2 h;omega
end
def AQ:∀(m:Nat) (t:Ltl),t.nodes<=m->∀(w:World) (F:Nat->Prop) (deep c:Int) (bn:Nat) (ao:Option Addr) (cap:Nat),Sl w F ao cap t.kids->(∀b,F b->b<w.heap.size)->¬F bn->
  Blk w bn 3 [Te c]->0<=c->c<=60->0<=deep->deep<=1000->
  Rt UA 108 [AR t.k t.n ao t.kids.length cap,Te deep,Tg bn].toArray w fun v w'=>v=Te (kD t deep c).1/\Blk w' bn 3 [Te (kD t deep c).2]/\w.grownBy w' (some bn)
 |0,t,Z=>by have:=t.nodes_pos;omega
 |m+1,.mk k n kids,Z=>by
  intro w F deep c bn ao cap Y hF hn f hc0 hc1 hd0 hd1
  simp only[Ltl.kids,Ltl.k,Ltl.n]at*
  refine dW Tryz.func108 Tryz.ntmps108 rfl rfl ?_;have hlen:=Y.len63;have hbn:=f.lt;refine T9 ?_;refine eJ fun w1 hf N=>?_
  have V:=f.ext N;have R:=N.grw (some bn);refine Tv ?_;refine f_ V (fun w2 A D=>?_);have G:=hf.kept D ST;have p:=ue R D;simp only[kD];refine TQ ?_;refine CW.cond rfl (fun h=>?_) (fun h=>?_)<;>simp only[R_,R8,Se]at h
  ·refine Th ?_
   refine bi rfl rfl ?_;rw[Sj h];exact⟨rfl,A,p⟩
  rw[Si SM];refine T2 ?_;refine CW.cond rfl (fun h1=>?_) (fun h1=>?_)<;>simp only[R_,R8,Se]at h1
  ·refine Th ?_
   refine bi rfl rfl ?_;rw[Sj h1];exact⟨rfl,A,p⟩
  rw[Si SM];refine aA [(1,Te deep),(2,Tg bn),(3,Tg w.heap.size),(23,.bool (decide (zN k≠kids.length\/n<0\/n>63\/(k≠3/\n≠0))))] ?_ ?_
  ·refine Ud ?_
   refine QL.call rfl rfl rfl (fun w' h=>Rt.mono (zQ w' k) (fun v w'' X=>⟨X.1,X.2▸Ext.refl _⟩)) ?_;refine Um ?_;refine QL.nil fun w3 a=>?_
   have T:=G.ext a;refine TV ?_;refine CW.cond rfl (fun h2=>?_) (fun h2=>?_)<;>simp at h2
   ·refine T0 ?_
    refine aY ⟨rfl,rfl,rfl,?_,trivial⟩ a;refine R5 (fun b=>some (Value.bool b)) ?_;have:(zN k != (kids.length:Int))=true:=by simpa using h2
    rw[this,R9 (.inl h2)]
   ·refine TY ?_
    (refine fJ rfl rfl (fun h=>?_) (fun h=>?_))<;>simp at h
    ·refine Ua ?_
     refine aY ⟨rfl,rfl,rfl,?_,trivial⟩ a;refine R5 (fun b=>some (Value.bool b)) ?_;rw[R9 (.inr (.inl h))]
    ·refine TH ?_
     refine CW.cond rfl (fun h3=>?_) (fun h3=>?_)<;>simp at h3
     ·refine T0 ?_
      refine aY ⟨rfl,rfl,rfl,?_,trivial⟩ a;refine R5 (fun b=>some (Value.bool b)) ?_;rw[R9 h3,R9 (.inr (.inr (.inl h3)))]
     ·refine TY ?_
      (refine fJ rfl rfl (fun h=>?_) (fun h=>?_))<;>simp at h
      ·refine TH ?_
       refine aY ⟨rfl,rfl,rfl,?_,trivial⟩ a;refine R5 (fun b=>some (Value.bool b)) ?_
       (rw[M2];simp;try omega)
      ·refine Ti ?_
       refine aY ⟨rfl,rfl,rfl,?_,trivial⟩ a;refine R5 (fun b=>some (Value.bool b)) ?_
       (rw[M2];simp;try omega)
  intro w3 a
  have K:=A.ext a;have T:=G.ext a;have E:=ue p (a.grw (some bn));refine CW.cond rfl (fun h2=>?_) (fun h2=>?_)<;>simp only[R_,R8]at h2
  ·rw[Sj h2]
   refine Th ?_;exact bj ⟨rfl,K,E⟩
  rw[Si h2];refine TS ?_;refine CW.loop (S:=Nat×Int) (fun x=>[(1,Te deep),(2,Tg bn),(48,.slice ao kids.length cap),(49,Te (kids.length:Int)),(50,Te (x.1:Int))])
   (fun x w'=>w.grownBy w' (some bn)/\Blk w' bn 3 [Te x.2]/\0<=x.2/\x.2<=60/\x.1<=kids.length/\kE kids (deep+1) (c+1)=kE (kids.drop x.1) (deep+1) x.2) (fun x=>kids.length -x.1) (0,c+1) SL ⟨E,K,by simp only;omega,by simp only;omega,by omega,rfl⟩ ?_
  rintro⟨i,ci⟩ O ⟨d,z,l,I,hi,H⟩
  simp only at z l I hi H
  rw[H];refine T2 ?_;refine CW.cond rfl (fun h3=>?_) (fun h3=>?_)<;>simp at h3
  ·have P:Sl O F ao cap kids:=Y.mono (fun b f=>d.block b (hF b f) (by intro e;cases e;exact hn f)) fun _ h=>h
   have L:∀b,F b->b<O.heap.size:=fun b f=>Qn (hF b f) d.size
   refine T7 ?_;refine fh P h3 SX (fun u q hu=>?_);have s:kids.drop i=kids[i]::kids.drop (i+1):=NV h3;have o:(kids[i]).nodes<=m:=by
    have:=Ltl.nodes_kid kids _ (OG h3);simp only[Ltl.nodes]at Z;omega
   rw[s];simp only[kE];generalize kids[i]=x at*
   obtain⟨ao',cap',rfl,hx⟩:=hu.ltl;have hw4:w.heap.size<=O.heap.size:=d.size;refine eF (fun w5 U M=>?_);refine f_ U (fun W hb6 C=>?_);have j:Ext O W:=M.grown C M.size SZ;have J:=z.ext j;have Q:=ue d (j.grw (some bn));refine TW ?_;refine eN (AQ m x o W F (deep+1) ci bn ao' cap' (hx.mono (fun b f=>j.block b (L b f)) fun _ h=>h) (fun b f=>Qn (L b f) j.size) hn J l I SM SM) ?_;rintro v w7 ⟨rfl,y,g⟩
   have g:=ue Q g;have B:=kJ x (deep+1) ci;generalize kD x (deep+1) ci=r at*
   obtain⟨e,c'⟩:=r;simp only at B y
   refine T2 ?_;refine CW.cond rfl (fun h4=>?_) (fun h4=>?_)<;>simp at h4
   ·refine Th ?_
    refine bi rfl rfl ?_;rw[Sj h4];exact⟨rfl,y,g⟩
   ·have:=B h4
    refine Tj ?_;refine EX.back (i+1,c') SL ⟨g,y,by simp only;omega,by simp only;omega,by simp only;omega,?_⟩ (by simp only;omega);simp only;rw[Si (by simp[h4])]
  ·refine TO ?_
   refine bi rfl rfl ?_;rw[NW SM];exact⟨rfl,z,d⟩
def AP(w:World){t:Ltl}{ao:Option Addr}{cap:Nat}(o:Sl w F ao cap t.kids)(hF:∀b,F b->b<w.heap.size):
  Rt UA 58 [AR t.k t.n ao t.kids.length cap].toArray w fun v w'=>v=Te (kD t 1 0).1/\Ext w w':=by
 refine dU Tryz.func58 Tryz.ntmps58 rfl rfl ?_;refine T9 ?_;refine eJ fun m hf c=>?_
 refine T2 ?_;refine eF (fun u d i=>?_);have p:=d.lt;refine f_ d (fun l d f=>?_);have e:=c.trans i;have a:Ext w l:=e.grown f e.size (fun g k=>by cases k;exact c.size);have q:=(hf.ext i).kept f (by have:=hf.lt;simp;omega);have n:w.heap.size<=m.heap.size:=c.size;refine TN ?_;refine eN (AQ t.nodes t Ta l F 1 0 m.heap.size ao cap (o.mono (fun b d=>a.block b (hF b d)) fun _ h=>h) (fun b d=>Qn (hF b d) a.size) (fun h=>by have:=hF _ h;omega) d SM SM SM SM) ?_;rintro v s ⟨rfl,r,j⟩
 refine Tk ?_;exact bi rfl rfl ⟨rfl,a.grown j a.size (fun g k=>by cases k;exact c.size)⟩
abbrev ar:=List UInt8
def I_:ar:=[116,114,117,101]
def I2:ar:=[102,97,108,115,101]
def I7:ar:=[115,105,108,101,110,116]
def xN(a:List ByteArray)(l:ar):Int:=match a.findIdx? (fun x=>x.data.toList==l)with
 |some i=>(i:Int)
 |none=> -1
def BV(a:List ByteArray)(n:Int):ar:=
 if n=63 then I7 else if n>=(a.length:Int)then []else if Bz (a.getD n.toNat ⟨#[]⟩)=false then []
 else if xN a (a.getD n.toNat ⟨#[]⟩).data.toList≠n then []else(a.getD n.toNat ⟨#[]⟩).data.toList
def BB{l:ar}(h:BA l=true):l≠[]/\l≠I_/\l≠I2/\l≠I7/\l.length<=8:=by
 unfold BA at h
 simp only[MZ,M7,RY,R8]at h
 obtain⟨⟨⟨⟨⟨h1,h2⟩,h3⟩,h4⟩,a⟩,_⟩:=h;exact⟨h1,h3,h4,a,by omega⟩
def BW(a:List ByteArray)(n:Int):(BV a n).length<=8:=by
 unfold BV;split
 ·decide
 split
 ·simp
 split
 ·simp
 rename_i h;split
 ·simp
 exact(BB (l:=(a.getD n.toNat ⟨#[]⟩).data.toList) (by simpa using h)).2.2.2.2
def iW(k i kid:Int):Bool:=if kid=5 then k==6||(k==5&&i==0)else if kid=6 then k==6&&i==0 else if kid=8\/kid=9 then k==kid&&i==1 else true
def zI(b:Bool)(t:ar):ar:=if b=true then t else 40::(t++[41])
def HI(k:Int):ar:=if k=5 then [38]else if k=6 then [47]else if k=8 then [85]else if k=9 then [82]else []
def yY(nm:Int->ar)(k n:Int)(ks:List (Int×ar)):ar:=
 if k=1 then I_ else if k=2 then I2 else if k=3 then nm n
 else if k=4 then 33::zI (iW k 0 (ks.getD 0 (0,[])).1) (ks.getD 0 (0,[])).2
 else if k=7 then 88::32::zI (iW k 0 (ks.getD 0 (0,[])).1) (ks.getD 0 (0,[])).2
 else if k=10 then 70::32::zI (iW k 0 (ks.getD 0 (0,[])).1) (ks.getD 0 (0,[])).2
 else if k=11 then 71::32::zI (iW k 0 (ks.getD 0 (0,[])).1) (ks.getD 0 (0,[])).2
 else zI (iW k 0 (ks.getD 0 (0,[])).1) (ks.getD 0 (0,[])).2++[32]++HI k++[32]++zI (iW k 1 (ks.getD 1 (0,[])).1) (ks.getD 1 (0,[])).2
mutual
def KL(nm:Int->ar):Ltl->ar
 |.mk k n kids=>yY nm k n (KO nm kids)
def KO(nm:Int->ar):List Ltl->List (Int×ar)
 |[]=>[]
 |x::r=>(x.k,KL nm x)::KO nm r
end
mutual
def iP(nm:Int->ar):Ltl->Bool
 |.mk k n kids=>(k==3&&nm n==[])||iQ nm kids
def iQ(nm:Int->ar):List Ltl->Bool
 |[]=>false
 |x::r=>iP nm x||iQ nm r
end
def Ep(f:Ltl)(a:List ByteArray):ar×Int:=
 if(kD f 1 0).1≠0 then([],(kD f 1 0).1)else if iP (BV a) f=true then([],4)else(KL (BV a) f,0)
def zJ(b:Bool)(t:ar):(zI b t).length<=t.length+2:=by
 unfold zI;split<;>simp
def yZ{nm:Int->ar}(hn:∀n,(nm n).length<=8)(k n:Int)(ks:List (Int×ar)):(yY nm k n ks).length<=(ks.getD 0 (0,[])).2.length+(ks.getD 1 (0,[])).2.length+8:=by
 have a:=zJ (iW k 0 (ks.getD 0 (0,[])).1) (ks.getD 0 (0,[])).2;have h1:=zJ (iW k 1 (ks.getD 1 (0,[])).1) (ks.getD 1 (0,[])).2;have h2:=hn n;have h3:(HI k).length<=1:=by unfold HI;repeat (first|split|simp)
 unfold yY I_ I2
 iterate 7 (split;·(first|omega|(simp only[OT,OU,O2];omega)))
 simp only[OT,OU,O2];omega
mutual
theorem KN{nm:Int->ar}(hn:∀n,(nm n).length<=8):∀f:Ltl,(KL nm f).length<=8*f.nodes
 |.mk k n kids=>by
  have h:=yZ hn k n (KO nm kids);have h2:=KP hn kids;simp only[KL,Ltl.nodes];have:((KO nm kids).getD 0 (0,[])).2.length+((KO nm kids).getD 1 (0,[])).2.length<=((KO nm kids).map fun x=>x.2.length).sum:=by
   rcases KO nm kids with _|⟨a,_|⟨b,r⟩⟩<;>simp<;>omega
  omega
theorem KP{nm:Int->ar}(hn:∀n,(nm n).length<=8):∀l:List Ltl,((KO nm l).map fun x=>x.2.length).sum<=8*Ltl.nodesL l
 |[]=>by simp[KO,Ltl.nodesL]
 |x::r=>by
  have h1:=KN hn x;have h2:=KP hn r;simp only[KO,Ltl.nodesL,Pd,PS];omega
end
inductive PR where
 |er (c:Int) (a:Nat):PR
 |ok (f:Ltl) (st:ar×ar):PR
def zO{k:Int}{m:Nat}(h:zN k=(m:Int)):(m=0/\(k=1\/k=2\/k=3))\/(m=1/\(k=4\/k=7\/k=10\/k=11))\/(m=2/\(k=5\/k=6\/k=8\/k=9)):=by
 unfold zN at h
 split at h
 ·left;exact⟨by omega,by assumption⟩
 split at h
 ·right;left;exact⟨by omega,by assumption⟩
 split at h
 ·right;right;exact⟨by omega,by assumption⟩
 ·omega
def UT(t:ar):Prop:=t≠[85]/\t≠[82]/\t≠[87]
instance(t:ar):Decidable (UT t):=by unfold UT;infer_instance
section
variable {nms:List ByteArray}{t u:ar}{f g:Ltl}
end
section
variable {nms:List ByteArray}{t:ar}{f:Ltl}
end
section
variable {nms:List ByteArray}{N:Nat}{PF:Ltl->Prop}
end
instance:IsT UA 35 Ltl:=IsT.of SN Tryz.underlying35 rfl
instance:IsS UA 33 35:=⟨Rz⟩
instance:IsT UA 33 (List Ltl):=IsT.of SN Rz rfl
instance:IsC UA 35 3 true:=IsC.of SN Tryz.underlying35 rfl
instance:IsC UA 33 1 false:=IsC.of SN Rz rfl
instance:IsFd UA 35 0 0:=IsFd.of SN
instance:IsFd UA 35 1 1:=IsFd.of SN
instance:IsFd UA 35 2 2:=IsFd.of SN
instance:IsZC UA 35 [Te 0,Te 0,.slice none 0 0]:=IsZC.of (z:=.agg #[Te 0,Te 0,.slice none 0 0]) SN rfl
def zL(k:Int):Int:=if k=1\/k=2\/k=3 then 0 else if k=4\/k=7\/k=8\/k=9\/k=11\/k=12\/k=13 then 1 else if k=5\/k=6\/k=10\/k=14 then 2 else -1
def lK(w:World)(k:Int):Rt UA 231 [Te k].toArray w fun v w'=>v=Te (zL k)/\w=w':=by
 refine dU Tryz.func231 Tryz.ntmps231 rfl rfl ?_;unfold zL;refine TI ?_;refine CW.cond rfl (fun h=>?_) (fun h=>?_)<;>simp at h
 ·subst h;refine T8 ?_
  exact bj ⟨rfl,rfl⟩
 refine T2 ?_;refine CW.cond rfl (fun h=>?_) (fun h=>?_)<;>simp at h
 ·subst h;refine T8 ?_
  exact bj ⟨rfl,rfl⟩
 refine T2 ?_;refine CW.cond rfl (fun h=>?_) (fun h=>?_)<;>simp at h
 ·subst h;refine Th ?_
  exact bj ⟨rfl,rfl⟩
 rw[Si SM];refine T2 ?_;refine CW.cond rfl (fun h=>?_) (fun h=>?_)<;>simp at h
 ·subst h;refine T8 ?_
  exact bj ⟨rfl,rfl⟩
 refine T2 ?_;refine CW.cond rfl (fun h=>?_) (fun h=>?_)<;>simp at h
 ·subst h;refine T8 ?_
  exact bj ⟨rfl,rfl⟩
 refine T2 ?_;refine CW.cond rfl (fun h=>?_) (fun h=>?_)<;>simp at h
 ·subst h;refine T8 ?_
  exact bj ⟨rfl,rfl⟩
 refine T2 ?_;refine CW.cond rfl (fun h=>?_) (fun h=>?_)<;>simp at h
 ·subst h;refine T8 ?_
  exact bj ⟨rfl,rfl⟩
 refine T2 ?_;refine CW.cond rfl (fun h=>?_) (fun h=>?_)<;>simp at h
 ·subst h;refine T8 ?_
  exact bj ⟨rfl,rfl⟩
 refine T2 ?_;refine CW.cond rfl (fun h=>?_) (fun h=>?_)<;>simp at h
 ·subst h;refine T8 ?_
  exact bj ⟨rfl,rfl⟩
 refine T2 ?_;refine CW.cond rfl (fun h=>?_) (fun h=>?_)<;>simp at h
 ·subst h;refine Th ?_
  exact bj ⟨rfl,rfl⟩
 rw[Si SM];refine T2 ?_;refine CW.cond rfl (fun h=>?_) (fun h=>?_)<;>simp at h
 ·subst h;refine T8 ?_
  exact bj ⟨rfl,rfl⟩
 refine T2 ?_;refine CW.cond rfl (fun h=>?_) (fun h=>?_)<;>simp at h
 ·subst h;refine T8 ?_
  exact bj ⟨rfl,rfl⟩
 refine T2 ?_;refine CW.cond rfl (fun h=>?_) (fun h=>?_)<;>simp at h
 ·subst h;refine T8 ?_
  exact bj ⟨rfl,rfl⟩
 refine T2 ?_;refine CW.cond rfl (fun h=>?_) (fun h=>?_)<;>simp at h
 ·subst h;refine Th ?_
  exact bj ⟨rfl,rfl⟩
 rw[Si SM];refine Tx ?_;exact bj ⟨rfl,rfl⟩
mutual
def kh:Ltl->Int->Int->Int×Int
 |.mk k n kids,deep,c=>if c+1>60 then(2,c+1)else if deep>20 then(5,c+1)else if zL k≠kids.length\/n<0\/n>63\/(k≠3/\n≠0)then(1,c+1)else kj kids (deep+1) (c+1)
def kj:List Ltl->Int->Int->Int×Int
 |[],_,c=>(0,c)
 |x::r,deep,c=>if(kh x deep c).1≠0 then kh x deep c else kj r deep (kh x deep c).2
end
mutual
theorem ku:∀(t:Ltl) (deep c:Int),(kh t deep c).1=0->c<(kh t deep c).2/\(kh t deep c).2<=60
 |.mk k n kids,deep,c,h=>by
  simp only[kh]at h⊢
  split at h
  ·cases h
  ·rename_i h1
   rw[Si h1];split at h
   ·cases h
   ·rename_i h2
    rw[Si h2];split at h
    ·cases h
    ·rename_i h3
     rw[Si h3];have:=kp kids (deep+1) (c+1) SM h;omega
theorem kp:∀(l:List Ltl) (deep c:Int),c<=60->(kj l deep c).1=0->c<=(kj l deep c).2/\(kj l deep c).2<=60
 |[],deep,c,a,h=>by simp only[kj];omega
 |x::r,deep,c,a,h=>by
  simp only[kj]at h⊢
  split at h
  ·rename_i h1;exact absurd h h1
  ·rename_i h1
   rw[Si h1];have h2:=ku x deep c (by simpa using h1);have h3:=kp r deep _ h2.2 h;omega
end
def jY:∀(m:Nat) (t:Ltl),t.nodes<=m->∀(w:World) (F:Nat->Prop) (deep c:Int) (bn:Nat) (ao:Option Addr) (cap:Nat),Sl w F ao cap t.kids->(∀b,F b->b<w.heap.size)->¬F bn->
  Blk w bn 3 [Te c]->0<=c->c<=60->0<=deep->deep<=1000->
  Rt UA 159 [AR t.k t.n ao t.kids.length cap,Te deep,Tg bn].toArray w fun v w'=>v=Te (kh t deep c).1/\Blk w' bn 3 [Te (kh t deep c).2]/\w.grownBy w' (some bn)
 |0,t,Z=>by have:=t.nodes_pos;omega
 |m+1,.mk k n kids,Z=>by
  intro w F deep c bn ao cap Y hF hn f hc0 hc1 hd0 hd1
  simp only[Ltl.kids,Ltl.k,Ltl.n]at*
  refine dW Tryz.func159 Tryz.ntmps159 rfl rfl ?_;have hlen:=Y.len63;have hbn:=f.lt;refine T9 ?_;refine eJ fun w1 hf N=>?_
  have V:=f.ext N;have R:=N.grw (some bn);refine Tv ?_;refine f_ V (fun w2 A D=>?_);have G:=hf.kept D ST;have p:=ue R D;simp only[kh];refine TQ ?_;refine CW.cond rfl (fun h=>?_) (fun h=>?_)<;>simp only[R_,R8,Se]at h
  ·refine Th ?_
   refine bi rfl rfl ?_;rw[Sj h];exact⟨rfl,A,p⟩
  rw[Si SM];refine T2 ?_;refine CW.cond rfl (fun h1=>?_) (fun h1=>?_)<;>simp only[R_,R8,Se]at h1
  ·refine Th ?_
   refine bi rfl rfl ?_;rw[Sj h1];exact⟨rfl,A,p⟩
  rw[Si SM];refine aA [(1,Te deep),(2,Tg bn),(3,Tg w.heap.size),(23,.bool (decide (zL k≠kids.length\/n<0\/n>63\/(k≠3/\n≠0))))] ?_ ?_
  ·refine Ud ?_
   refine QL.call rfl rfl rfl (fun w' h=>Rt.mono (lK w' k) (fun v w'' X=>⟨X.1,X.2▸Ext.refl _⟩)) ?_;refine Um ?_;refine QL.nil fun w3 a=>?_
   have T:=G.ext a;refine TV ?_;refine CW.cond rfl (fun h2=>?_) (fun h2=>?_)<;>simp at h2
   ·refine T0 ?_
    refine aY ⟨rfl,rfl,rfl,?_,trivial⟩ a;refine R5 (fun b=>some (Value.bool b)) ?_;have:(zL k != (kids.length:Int))=true:=by simpa using h2
    rw[this,R9 (.inl h2)]
   ·refine TY ?_
    (refine fJ rfl rfl (fun h=>?_) (fun h=>?_))<;>simp at h
    ·refine Ua ?_
     refine aY ⟨rfl,rfl,rfl,?_,trivial⟩ a;refine R5 (fun b=>some (Value.bool b)) ?_;rw[R9 (.inr (.inl h))]
    ·refine TH ?_
     refine CW.cond rfl (fun h3=>?_) (fun h3=>?_)<;>simp at h3
     ·refine T0 ?_
      refine aY ⟨rfl,rfl,rfl,?_,trivial⟩ a;refine R5 (fun b=>some (Value.bool b)) ?_;rw[R9 h3,R9 (.inr (.inr (.inl h3)))]
     ·refine TY ?_
      (refine fJ rfl rfl (fun h=>?_) (fun h=>?_))<;>simp at h
      ·refine TH ?_
       refine aY ⟨rfl,rfl,rfl,?_,trivial⟩ a;refine R5 (fun b=>some (Value.bool b)) ?_
       (rw[M2];simp;try omega)
      ·refine Ti ?_
       refine aY ⟨rfl,rfl,rfl,?_,trivial⟩ a;refine R5 (fun b=>some (Value.bool b)) ?_
       (rw[M2];simp;try omega)
  intro w3 a
  have K:=A.ext a;have T:=G.ext a;have E:=ue p (a.grw (some bn));refine CW.cond rfl (fun h2=>?_) (fun h2=>?_)<;>simp only[R_,R8]at h2
  ·rw[Sj h2]
   refine Th ?_;exact bj ⟨rfl,K,E⟩
  rw[Si h2];refine TS ?_;refine CW.loop (S:=Nat×Int) (fun x=>[(1,Te deep),(2,Tg bn),(48,.slice ao kids.length cap),(49,Te (kids.length:Int)),(50,Te (x.1:Int))])
   (fun x w'=>w.grownBy w' (some bn)/\Blk w' bn 3 [Te x.2]/\0<=x.2/\x.2<=60/\x.1<=kids.length/\kj kids (deep+1) (c+1)=kj (kids.drop x.1) (deep+1) x.2) (fun x=>kids.length -x.1) (0,c+1) SL ⟨E,K,by simp only;omega,by simp only;omega,by omega,rfl⟩ ?_
  rintro⟨i,ci⟩ O ⟨d,z,l,I,hi,H⟩
  simp only at z l I hi H
  rw[H];refine T2 ?_;refine CW.cond rfl (fun h3=>?_) (fun h3=>?_)<;>simp at h3
  ·have P:Sl O F ao cap kids:=Y.mono (fun b f=>d.block b (hF b f) (by intro e;cases e;exact hn f)) fun _ h=>h
   have L:∀b,F b->b<O.heap.size:=fun b f=>Qn (hF b f) d.size
   refine T7 ?_;refine fh P h3 SX (fun u q hu=>?_);have s:kids.drop i=kids[i]::kids.drop (i+1):=NV h3;have o:(kids[i]).nodes<=m:=by
    have:=Ltl.nodes_kid kids _ (OG h3);simp only[Ltl.nodes]at Z;omega
   rw[s];simp only[kj];generalize kids[i]=x at*
   obtain⟨ao',cap',rfl,hx⟩:=hu.ltl;have hw4:w.heap.size<=O.heap.size:=d.size;refine eF (fun w5 U M=>?_);refine f_ U (fun W hb6 C=>?_);have j:Ext O W:=M.grown C M.size SZ;have J:=z.ext j;have Q:=ue d (j.grw (some bn));refine TW ?_;refine eN (jY m x o W F (deep+1) ci bn ao' cap' (hx.mono (fun b f=>j.block b (L b f)) fun _ h=>h) (fun b f=>Qn (L b f) j.size) hn J l I SM SM) ?_;rintro v w7 ⟨rfl,y,g⟩
   have g:=ue Q g;have B:=ku x (deep+1) ci;generalize kh x (deep+1) ci=r at*
   obtain⟨e,c'⟩:=r;simp only at B y
   refine T2 ?_;refine CW.cond rfl (fun h4=>?_) (fun h4=>?_)<;>simp at h4
   ·refine Th ?_
    refine bi rfl rfl ?_;rw[Sj h4];exact⟨rfl,y,g⟩
   ·have:=B h4
    refine Tj ?_;refine EX.back (i+1,c') SL ⟨g,y,by simp only;omega,by simp only;omega,by simp only;omega,?_⟩ (by simp only;omega);simp only;rw[Si (by simp[h4])]
  ·refine TO ?_
   refine bi rfl rfl ?_;rw[NW SM];exact⟨rfl,z,d⟩
def mG(w:World){t:Ltl}{ao:Option Addr}{cap:Nat}(o:Sl w F ao cap t.kids)(hF:∀b,F b->b<w.heap.size):
  Rt UA 94 [AR t.k t.n ao t.kids.length cap].toArray w fun v w'=>v=Te (kh t 1 0).1/\Ext w w':=by
 refine dU Tryz.func94 Tryz.ntmps94 rfl rfl ?_;refine T9 ?_;refine eJ fun m hf c=>?_
 refine T2 ?_;refine eF (fun u d i=>?_);have p:=d.lt;refine f_ d (fun l d f=>?_);have e:=c.trans i;have a:Ext w l:=e.grown f e.size (fun g k=>by cases k;exact c.size);have q:=(hf.ext i).kept f (by have:=hf.lt;simp;omega);have n:w.heap.size<=m.heap.size:=c.size;refine TN ?_;refine eN (jY t.nodes t Ta l F 1 0 m.heap.size ao cap (o.mono (fun b d=>a.block b (hF b d)) fun _ h=>h) (fun b d=>Qn (hF b d) a.size) (fun h=>by have:=hF _ h;omega) d SM SM SM SM) ?_;rintro v s ⟨rfl,r,j⟩
 refine Tk ?_;exact bi rfl rfl ⟨rfl,a.grown j a.size (fun g k=>by cases k;exact c.size)⟩
def iV(k i kid:Int):Bool:=if kid=5 then k==6||(k==5&&i==0)else if kid=6 then k==6&&i==0 else true
def HH(k:Int):ar:=if k=4 then [33]else if k=7 then [69,88,32]else if k=8 then [69,70,32]else if k=9 then [69,71,32]else if k=11 then [65,88,32]else if k=12 then [65,70,32]else if k=13 then [65,71,32]else []
def yW(nm:Int->ar)(k n:Int)(ks:List (Int×ar)):ar:=
 if k=1 then I_ else if k=2 then I2 else if k=3 then nm n
 else if k=5 then zI (iV k 0 (ks.getD 0 (0,[])).1) (ks.getD 0 (0,[])).2++[32,38,32]++zI (iV k 1 (ks.getD 1 (0,[])).1) (ks.getD 1 (0,[])).2
 else if k=6 then zI (iV k 0 (ks.getD 0 (0,[])).1) (ks.getD 0 (0,[])).2++[32,47,32]++zI (iV k 1 (ks.getD 1 (0,[])).1) (ks.getD 1 (0,[])).2
 else if k=10 then [69,32,91]++(ks.getD 0 (0,[])).2++[32,85,32]++(ks.getD 1 (0,[])).2++[93]
 else if k=14 then [65,32,91]++(ks.getD 0 (0,[])).2++[32,85,32]++(ks.getD 1 (0,[])).2++[93]
 else HH k++zI (iV k 0 (ks.getD 0 (0,[])).1) (ks.getD 0 (0,[])).2
mutual
def KG(nm:Int->ar):Ltl->ar
 |.mk k n kids=>yW nm k n (KJ nm kids)
def KJ(nm:Int->ar):List Ltl->List (Int×ar)
 |[]=>[]
 |x::r=>(x.k,KG nm x)::KJ nm r
end
def Eo(f:Ltl)(nms:List ByteArray):ar×Int:=
 if(kh f 1 0).1≠0 then([],(kh f 1 0).1)else if iP (BV nms) f=true then([],4)else(KG (BV nms) f,0)
def yX{nm:Int->ar}(hn:∀n,(nm n).length<=8)(k n:Int)(ks:List (Int×ar)):(yW nm k n ks).length<=(ks.getD 0 (0,[])).2.length+(ks.getD 1 (0,[])).2.length+8:=by
 have a:=zJ (iV k 0 (ks.getD 0 (0,[])).1) (ks.getD 0 (0,[])).2;have h1:=zJ (iV k 1 (ks.getD 1 (0,[])).1) (ks.getD 1 (0,[])).2;have h2:=hn n;have h3:(HH k).length<=3:=by unfold HH;repeat (first|split|simp)
 unfold yW I_ I2
 iterate 7 (split;·(first|omega|(simp only[OT,OU,O2];omega)))
 simp only[OT,OU,O2];omega
mutual
theorem KH{nm:Int->ar}(hn:∀n,(nm n).length<=8):∀f:Ltl,(KG nm f).length<=8*f.nodes
 |.mk k n kids=>by
  have h:=yX hn k n (KJ nm kids);have h2:=KK hn kids;simp only[KG,Ltl.nodes];have:((KJ nm kids).getD 0 (0,[])).2.length+((KJ nm kids).getD 1 (0,[])).2.length<=((KJ nm kids).map fun x=>x.2.length).sum:=by
   rcases KJ nm kids with _|⟨a,_|⟨b,r⟩⟩<;>simp<;>omega
  omega
theorem KK{nm:Int->ar}(hn:∀n,(nm n).length<=8):∀l:List Ltl,((KJ nm l).map fun x=>x.2.length).sum<=8*Ltl.nodesL l
 |[]=>by simp[KJ,Ltl.nodesL]
 |x::r=>by
  have h1:=KH hn x;have h2:=KK hn r;simp only[KJ,Ltl.nodesL,Pd,PS];omega
end
def zM{k:Int}{m:Nat}(h:zL k=(m:Int)):(m=0/\(k=1\/k=2\/k=3))\/(m=1/\(k=4\/k=7\/k=8\/k=9\/k=11\/k=12\/k=13))\/(m=2/\(k=5\/k=6\/k=10\/k=14)):=by
 unfold zL at h
 split at h
 ·left;exact⟨by omega,by assumption⟩
 split at h
 ·right;left;exact⟨by omega,by assumption⟩
 split at h
 ·right;right;exact⟨by omega,by assumption⟩
 ·omega
section
variable {nms:List ByteArray}{t u:ar}{f g:Ltl}
def ea(a:Bool):UInt8:=if a=true then 65 else 69
end
section
variable {nms:List ByteArray}{t:ar}{f:Ltl}
end
def Af(s l:List Nat)(i:Nat):Nat:=if i<s.length then s.getD i 0 else l.getD ((i -s.length) % l.length) 0
abbrev DM(pt:cQ):Value:=.agg [.int .i64 pt.1,.int .i64 pt.2.1,.int .i64 pt.2.2.1,.int .i64 pt.2.2.2.1,.int .i64 pt.2.2.2.2.1,.int .i64 pt.2.2.2.2.2.1,.int .i64 pt.2.2.2.2.2.2].toArray
def FB(n:Int)(a:Bool):Bool:=decide (0<=n/\n<=63)&&(a||decide (n=0))
def kU(pt:cQ):Int:=
 if pt.1<1\/pt.1>6\/pt.2.1<1\/pt.2.1>5 then 1
 else if(FB pt.2.2.1 true&&FB pt.2.2.2.1 (decide (pt.1=5\/pt.1=6))&&FB pt.2.2.2.2.1 (decide (pt.2.1=3\/pt.2.1=4\/pt.2.1=5))&&FB pt.2.2.2.2.2.1 (decide (pt.2.1=2\/pt.2.1=4\/pt.2.1=5)))=false then 1
 else if pt.2.2.2.2.2.2<0\/pt.2.2.2.2.2.2>3\/(pt.1≠4/\pt.2.2.2.2.2.2≠0)then 1 else 0
def FC(w:World)(n:Int)(a:Bool):Rt UA 154 [Te n,.bool a].toArray w fun v w'=>v=.bool (FB n a)/\w=w':=by
 refine dV Tryz.func154 Tryz.ntmps154 rfl rfl ?_;refine T2 ?_
 (refine fJ rfl rfl (fun h=>?_) (fun h=>?_))
 ·simp at h
  refine Ue ?_
  (refine fJ rfl rfl (fun h=>?_) (fun h=>?_))
  ·simp at h
   refine Ue ?_
   (refine fJ rfl rfl (fun h=>?_) (fun h=>?_))
   ·subst h
    refine TT ?_;refine bi rfl rfl ⟨?_,rfl⟩;simp[FB];omega
   ·subst h
    refine Tk ?_;refine bi rfl rfl ⟨?_,rfl⟩;have:(decide (0<=n)&&decide (n<=63))=true:=by simp;omega
    simp[FB,this];by_cases hn:n=0<;>simp[hn]
  ·simp at h
   refine TT ?_;refine bi rfl rfl ⟨?_,rfl⟩;simp[FB];intro _ h3;omega
 ·simp at h
  refine TT ?_;refine bi rfl rfl ⟨?_,rfl⟩;simp[FB];intro h3;omega
def ol(w:World)(pt:cQ):Rt UA 86 [DM pt].toArray w fun v w'=>v=Te (kU pt)/\Ext w w':=by
 refine dU Tryz.func86 Tryz.ntmps86 rfl rfl ?_;obtain⟨k,sc,p,s,q,r,c⟩:=pt;refine T9 ?_;refine eJ fun f j a=>?_
 apply fX;rfl;rfl;rfl;apply WL.nil;apply bE;refine az [(1,Tg w.heap.size),(3,.bool (decide (k=5\/k=6)))] ?_ ?_
 ·refine TY ?_
  (refine fJ rfl rfl (fun h=>?_) (fun h=>?_))<;>simp at h
  ·refine Ti ?_
   refine aX ⟨rfl,?_,trivial⟩;refine R5 (fun b=>some (Value.bool b)) ?_
   (rw[M2];simp;try omega)
  ·refine TH ?_
   refine aX ⟨rfl,?_,trivial⟩;refine R5 (fun b=>some (Value.bool b)) ?_
   (rw[M2];simp;try omega)
 refine az [(1,Tg w.heap.size),(3,.bool (decide (k=5\/k=6))),(4,.bool (decide (sc=3\/sc=4\/sc=5)))] ?_ ?_
 ·refine TY ?_
  (refine fJ rfl rfl (fun h=>?_) (fun h=>?_))<;>simp at h
  ·refine Ti ?_
   refine aX ⟨rfl,rfl,?_,trivial⟩;refine R5 (fun b=>some (Value.bool b)) ?_
   (rw[M2];simp;try omega)
  ·refine Uh ?_
   (refine fJ rfl rfl (fun h=>?_) (fun h=>?_))<;>simp at h
   ·refine Ti ?_
    refine aX ⟨rfl,rfl,?_,trivial⟩;refine R5 (fun b=>some (Value.bool b)) ?_
    (rw[M2];simp;try omega)
   ·refine TH ?_
    refine aX ⟨rfl,rfl,?_,trivial⟩;refine R5 (fun b=>some (Value.bool b)) ?_
    (rw[M2];simp;try omega)
 refine az [(1,Tg w.heap.size),(3,.bool (decide (k=5\/k=6))),(4,.bool (decide (sc=3\/sc=4\/sc=5))),(5,.bool (decide (sc=2\/sc=4\/sc=5)))] ?_ ?_
 ·refine TY ?_
  (refine fJ rfl rfl (fun h=>?_) (fun h=>?_))<;>simp at h
  ·refine Ti ?_
   refine aX ⟨rfl,rfl,rfl,?_,trivial⟩;refine R5 (fun b=>some (Value.bool b)) ?_
   (rw[M2];simp;try omega)
  ·refine Uh ?_
   (refine fJ rfl rfl (fun h=>?_) (fun h=>?_))<;>simp at h
   ·refine Ti ?_
    refine aX ⟨rfl,rfl,rfl,?_,trivial⟩;refine R5 (fun b=>some (Value.bool b)) ?_
    (rw[M2];simp;try omega)
   ·refine TH ?_
    refine aX ⟨rfl,rfl,rfl,?_,trivial⟩;refine R5 (fun b=>some (Value.bool b)) ?_
    (rw[M2];simp;try omega)
 generalize hS:decide (k=5\/k=6)=bs;generalize hQ:decide (sc=3\/sc=4\/sc=5)=bq;generalize hR:decide (sc=2\/sc=4\/sc=5)=br;have i:kU (k,sc,p,s,q,r,c)=if k<1\/k>6\/sc<1\/sc>5 then 1 else if(FB p true&&FB s bs&&FB q bq&&FB r br)=false then 1 else if c<0\/c>3\/(k≠4/\c≠0)then 1 else 0:=by
  simp only[kU,hS,hQ,hR]
 rw[i];clear i hS hQ hR;refine Ty ?_
 (refine fJ rfl rfl (fun h=>?_) (fun h=>?_))<;>simp at h
 ·refine T8 ?_
  refine bi rfl rfl ⟨?_,a⟩;rw[Sj SM]
 ·refine Uh ?_
  (refine fJ rfl rfl (fun h=>?_) (fun h=>?_))<;>simp at h
  ·refine T8 ?_
   refine bi rfl rfl ⟨?_,a⟩;rw[Sj SM]
  ·refine Uh ?_
   (refine fJ rfl rfl (fun h=>?_) (fun h=>?_))<;>simp at h
   ·refine T8 ?_
    refine bi rfl rfl ⟨?_,a⟩;rw[Sj SM]
   ·refine TH ?_
    (refine CW.cond rfl (fun h=>?_) (fun h=>?_))<;>simp at h
    ·refine Th ?_
     refine bi rfl rfl ⟨?_,a⟩;rw[Sj SM]
    ·refine TY ?_
     have d:¬(k<1\/k>6\/sc<1\/sc>5):=by omega
     refine eN (FC f p true) ?_;rintro v g ⟨rfl,rfl⟩
     refine Ue ?_
     (refine fJ rfl rfl (fun h=>?_) (fun h=>?_))<;>simp at h
     ·refine T8 ?_
      refine bi rfl rfl ⟨?_,a⟩;rw[Si d,Sj (by simp[*])]
     ·refine Uh ?_
      refine eN (FC f s bs) ?_;rintro v g ⟨rfl,rfl⟩
      refine Ue ?_
      (refine fJ rfl rfl (fun h=>?_) (fun h=>?_))<;>simp at h
      ·refine T8 ?_
       refine bi rfl rfl ⟨?_,a⟩;rw[Si d,Sj (by simp[*])]
      ·refine Uh ?_
       refine eN (FC f q bq) ?_;rintro v g ⟨rfl,rfl⟩
       refine Ue ?_
       (refine fJ rfl rfl (fun h=>?_) (fun h=>?_))<;>simp at h
       ·refine T8 ?_
        refine bi rfl rfl ⟨?_,a⟩;rw[Si d,Sj (by simp[*])]
       ·refine Uh ?_
        refine eN (FC f r br) ?_;rintro v g ⟨rfl,rfl⟩
        refine Tl ?_
        (refine CW.cond rfl (fun h=>?_) (fun h=>?_))<;>simp at h
        ·refine Th ?_
         refine bi rfl rfl ⟨?_,a⟩;rw[Si d,Sj (by simp[*])]
        ·refine TY ?_
         have e:¬((FB p true&&FB s bs&&FB q bq&&FB r br)=false):=by simp[*]
         (refine fJ rfl rfl (fun h=>?_) (fun h=>?_))<;>simp at h
         ·refine T8 ?_
          refine bi rfl rfl ⟨?_,a⟩;rw[Si d,Si e,Sj SM]
         ·refine Uh ?_
          (refine fJ rfl rfl (fun h=>?_) (fun h=>?_))<;>simp at h
          ·refine T8 ?_
           refine bi rfl rfl ⟨?_,a⟩;rw[Si d,Si e,Sj SM]
          ·refine Uh ?_
           (refine fJ rfl rfl (fun h=>?_) (fun h=>?_))<;>simp at h
           ·refine TH ?_
            (refine CW.cond rfl (fun h=>?_) (fun h=>?_))<;>simp at h
            ·refine Th ?_
             refine bi rfl rfl ⟨?_,a⟩;rw[Si d,Si e,Sj SM]
            ·refine Tx ?_
             refine bi rfl rfl ⟨?_,a⟩;rw[Si d,Si e,Si SM]
           ·refine Ua ?_
            refine bi rfl rfl ⟨?_,a⟩;rw[Si d,Si e,Si SM]
abbrev cW:=Int×Int×Int×Int
abbrev J5(t:cW):Value:=.agg [.int .i64 t.1,.int .i64 t.2.1,.int .i64 t.2.2.1,.int .i64 t.2.2.2].toArray
def my(k:Int):Bool:=decide (1<=k/\k<=3)
def lh(t:cW):Int:=
 if t.1<1\/t.1>14\/t.2.1<0\/t.2.1>=63\/t.2.2.1<0\/t.2.2.1>=63\/((my t.1||decide (t.1=4))=true/\t.2.2.1≠0)then 1
 else if(my t.1=true/\(t.2.2.2<1\/t.2.2.2>3))\/(my t.1=false/\t.2.2.2≠0)then 1 else 0
def mz(w:World)(k:Int):Rt UA 155 [Te k].toArray w fun v w'=>v=.bool (my k)/\w=w':=by
 refine dU Tryz.func155 Tryz.ntmps155 rfl rfl ?_;refine T2 ?_
 (refine fJ rfl rfl (fun h=>?_) (fun h=>?_))<;>simp at h
 ·refine Tk ?_
  refine bi rfl rfl ⟨R5 Value.bool ?_,rfl⟩;unfold my
  (rw[M2];simp;try omega)
 ·refine TT ?_
  refine bi rfl rfl ⟨R5 Value.bool ?_,rfl⟩;unfold my
  (rw[M2];simp;try omega)
def nB(w:World)(t:cW):Rt UA 88 [J5 t].toArray w fun v w'=>v=Te (lh t)/\Ext w w':=by
 refine dU Tryz.func88 Tryz.ntmps88 rfl rfl ?_;obtain⟨k,A,B,c⟩:=t;refine T9 ?_;refine eJ fun e i a=>?_
 apply fX;rfl;rfl;rfl;apply WL.nil;apply bE;refine az [(1,Tg w.heap.size),(3,.bool (my k||decide (k=4)))] ?_ ?_
 ·refine TG ?_
  refine eN (mz e k) ?_;rintro v f ⟨rfl,rfl⟩
  refine Ue ?_
  (refine fJ rfl rfl (fun h=>?_) (fun h=>?_))
  ·refine Ti ?_
   refine aX ⟨rfl,?_,trivial⟩;refine R5 (fun b=>some (Value.bool b)) ?_;rw[h];rfl
  ·refine TH ?_
   refine aX ⟨rfl,?_,trivial⟩;refine R5 (fun b=>some (Value.bool b)) ?_;rw[h]
   (rw[M2];simp;try omega)
 have g:lh (k,A,B,c)=if k<1\/k>14\/A<0\/A>=63\/B<0\/B>=63\/((my k||decide (k=4))=true/\B≠0)then 1 else if(my k=true/\(c<1\/c>3))\/(my k=false/\c≠0)then 1 else 0:=rfl
 rw[g];clear g;generalize (my k||decide (k=4))=al;apply CW.seq;apply CW.block;refine az [(1,Tg w.heap.size),(12,.bool (decide (k<1\/k>14\/A<0\/A>=63\/B<0\/B>=63\/(al=true/\B≠0))))] ?_ ?_
 ·refine TY ?_
  (refine fJ rfl rfl (fun h=>?_) (fun h=>?_))<;>simp at h
  ·refine Ti ?_
   refine aX ⟨rfl,?_,trivial⟩;refine R5 (fun b=>some (Value.bool b)) ?_;simp;omega
  refine Uh ?_
  (refine fJ rfl rfl (fun h=>?_) (fun h=>?_))<;>simp at h
  ·refine Ti ?_
   refine aX ⟨rfl,?_,trivial⟩;refine R5 (fun b=>some (Value.bool b)) ?_;simp;omega
  refine Uh ?_
  (refine fJ rfl rfl (fun h=>?_) (fun h=>?_))<;>simp at h
  ·refine Ti ?_
   refine aX ⟨rfl,?_,trivial⟩;refine R5 (fun b=>some (Value.bool b)) ?_;simp;omega
  refine Uh ?_
  (refine fJ rfl rfl (fun h=>?_) (fun h=>?_))<;>simp at h
  ·refine Ti ?_
   refine aX ⟨rfl,?_,trivial⟩;refine R5 (fun b=>some (Value.bool b)) ?_;simp;omega
  refine Uh ?_
  (refine fJ rfl rfl (fun h=>?_) (fun h=>?_))<;>simp at h
  ·refine Ti ?_
   refine aX ⟨rfl,?_,trivial⟩;refine R5 (fun b=>some (Value.bool b)) ?_;simp;omega
  refine Uh ?_
  (refine fJ rfl rfl (fun h=>?_) (fun h=>?_))<;>simp at h
  ·refine Ti ?_
   refine aX ⟨rfl,?_,trivial⟩;refine R5 (fun b=>some (Value.bool b)) ?_;simp;omega
  refine Ue ?_
  (refine fJ rfl rfl (fun h=>?_) (fun h=>?_))
  ·subst h
   refine TH ?_;refine aX ⟨rfl,?_,trivial⟩;refine R5 (fun b=>some (Value.bool b)) ?_
   (rw[M2];simp;try omega)
  ·subst h
   refine Ti ?_;refine aX ⟨rfl,?_,trivial⟩;refine R5 (fun b=>some (Value.bool b)) ?_;simp;omega
 apply CW.cond rfl<;>intro h1
 ·rw[R_]at h1
  refine Th ?_;refine bi rfl rfl ⟨?_,a⟩;rw[Sj h1]
 ·rw[R8]at h1
  rw[Si h1];refine TY ?_;refine eN (mz e k) ?_;rintro v f ⟨rfl,rfl⟩
  refine Ue ?_
  (refine fJ rfl rfl (fun h=>?_) (fun h=>?_))
  ·have d:=h
   refine Uh ?_
   (refine fJ rfl rfl (fun h=>?_) (fun h=>?_))<;>simp at h
   ·refine T8 ?_
    refine bi rfl rfl ⟨?_,a⟩;rw[Sj (.inl ⟨d,.inl h⟩)]
   ·refine Uh ?_
    (refine fJ rfl rfl (fun h=>?_) (fun h=>?_))<;>simp at h
    ·refine T8 ?_
     refine bi rfl rfl ⟨?_,a⟩;rw[Sj (.inl ⟨d,.inr h⟩)]
    ·refine Uh ?_
     refine eN (mz e k) ?_;rintro v f ⟨rfl,rfl⟩
     rw[d];refine Ua ?_;refine bi rfl rfl ⟨?_,a⟩;rw[Si];simp;omega
  ·have d:=h
   refine Uj ?_;refine eN (mz e k) ?_;rintro v f ⟨rfl,rfl⟩
   rw[d];refine TH ?_;refine CW.cond rfl (fun h2=>?_) (fun h2=>?_)<;>simp at h2
   ·refine Th ?_
    refine bi rfl rfl ⟨?_,a⟩;rw[Sj (.inr ⟨rfl,h2⟩)]
   ·refine Tx ?_
    refine bi rfl rfl ⟨?_,a⟩;rw[Si];simp;exact h2
abbrev cS:=ByteArray×Int×cQ×cW×Ltl×Ltl
def FH(a:List ByteArray)(n:Int)(silent:Bool):ar:=
 if n=63/\silent=true then I7 else if n<0\/n>=(a.length:Int)\/n>=63\/Bz (a.getD n.toNat ⟨#[]⟩)=false\/xN a (a.getD n.toNat ⟨#[]⟩).data.toList≠n then []
 else(a.getD n.toNat ⟨#[]⟩).data.toList
def Ds(pt:cQ):List Int:=if pt.1=5\/pt.1=6 then [pt.2.2.2.1,pt.2.2.1]else [pt.2.2.1]
def GJ(pt:cQ):List Int:=if pt.2.1=2 then [pt.2.2.2.2.2.1]else if pt.2.1=3 then [pt.2.2.2.2.1]else if pt.2.1=4\/pt.2.1=5 then [pt.2.2.2.2.1,pt.2.2.2.2.2.1]else []
def gQ(k:Int):Bool:=decide (k<=4)
def iG(r:cS):List Int:=if r.2.1=1 then Ds r.2.2.1++GJ r.2.2.1 else if r.2.1=2 then(if gQ r.2.2.2.1.1=true then [r.2.2.2.1.2.1]else [r.2.2.2.1.2.1,r.2.2.2.1.2.2.1])else []
def DE(r:cS)(a:List ByteArray):Int:=
 if r.2.1=1 then kU r.2.2.1 else if r.2.1=2 then lh r.2.2.2.1 else if r.2.1=3 then(Ep r.2.2.2.2.1 a).2 else if r.2.1=4 then(Eo r.2.2.2.2.2 a).2 else 0
def DD(r:cS)(a:List ByteArray):Int:=
 if DE r a=0/\(iG r).any (fun n=>FH a n (decide (r.2.1=1))==[])=true then 4 else DE r a
def DN:cQ:=(0,0,0,0,0,0,0)
def J6:cW:=(0,0,0,0)
def qE(t:Ltl):Bool:=t.k != 0||t.n != 0||decide (0<t.kids.length)
def Dh(r:cS):Bool:=(r.2.1 != 1&&r.2.2.1 != DN)||(r.2.1 != 2&&r.2.2.2.1 != J6)||(r.2.1 != 3&&qE r.2.2.2.2.1)||(r.2.1 != 4&&qE r.2.2.2.2.2)
def k8(r:cS)(a:List ByteArray):Int:=
 if Bz r.1=false\/r.2.1<1\/r.2.1>4 then 1 else if DD r a≠0 then DD r a else if Dh r=true then 1 else 0

mutual
def LJ:Ltl->Prop
 |.mk k n kids=>zN k=kids.length/\0<=n/\n<=63/\(k≠3->n=0)/\LK kids
def LK:List Ltl->Prop
 |[]=>True
 |x::r=>LJ x/\LK r
end
mutual
theorem kM:∀(t:Ltl) (deep c:Int),(kD t deep c).1=0->LJ t
 |.mk k n kids,deep,c,h=>by
  simp only[kD]at h
  split at h
  ·cases h
  ·split at h
   ·cases h
   ·split at h
    ·cases h
    ·rename_i h3
     simp only[LJ];have:=kI kids _ _ h;refine⟨by omega,by omega,by omega,by omega,this⟩
theorem kI:∀(l:List Ltl) (deep c:Int),(kE l deep c).1=0->LK l
 |[],_,_,_=>trivial
 |x::r,deep,c,h=>by
  simp only[kE]at h
  split at h
  ·rename_i h1;exact absurd h h1
  ·rename_i h1
   exact⟨kM x deep c (by simpa using h1),kI r _ _ h⟩
end
def LL:∀(kids:List Ltl) (i:Nat) (h:i<kids.length),LK kids->LJ kids[i]
 |x::r,0,h,a=>a.1
 |x::r,i+1,h,a=>LL r i (by simpa using h) a.2
def Til(A B:Nat->Prop)(i:Nat):Prop:=∃j,i<=j/\B j/\∀m,i<=m->m<j->A m
def Til.step{A B:Nat->Prop}{i:Nat}:Til A B i↔B i\/(A i/\Til A B (i+1)):=by
 constructor
 ·rintro⟨j,f,c,d⟩
  by_cases h:i=j
  ·subst h;exact .inl c
  ·exact .inr ⟨d i Ta SM,j,by omega,c,fun m h1 h2=>d m SM h2⟩
 ·rintro(c|⟨d,j,f,c,e⟩)
  ·exact⟨i,Qj _,c,fun m h1 h2=>by omega⟩
  ·refine⟨j,by omega,c,fun m h1 h2=>?_⟩
   by_cases h:m=i
   ·subst h;exact d
   ·exact e m SM h2
def G3(L:Nat->Nat)(k n:Int)(ks:List (Nat->Prop))(i:Nat):Prop:=
 if k=1 then True
 else if k=3 then L i >>> n.toNat&&&1=1
 else if k=4 then¬ks.getD 0 (fun _=>False) i
 else if k=5 then ks.getD 0 (fun _=>False) i/\ks.getD 1 (fun _=>False) i
 else if k=6 then ks.getD 0 (fun _=>False) i\/ks.getD 1 (fun _=>False) i
 else if k=7 then ks.getD 0 (fun _=>False) (i+1)
 else if k=8 then Til (ks.getD 0 (fun _=>False)) (ks.getD 1 (fun _=>False)) i
 else if k=9 then¬Til (fun j=>¬ks.getD 0 (fun _=>False) j) (fun j=>¬ks.getD 1 (fun _=>False) j) i
 else if k=10 then Til (fun _=>True) (ks.getD 0 (fun _=>False)) i
 else if k=11 then¬Til (fun _=>True) (fun j=>¬ks.getD 0 (fun _=>False) j) i
 else False
mutual
def GS(L:Nat->Nat):Ltl->Nat->Prop
 |.mk k n kids=>G3 L k n (G4 L kids)
def G4(L:Nat->Nat):List Ltl->List (Nat->Prop)
 |[]=>[]
 |x::r=>GS L x::G4 L r
end
def Til.shift{A B B':Nat->Prop}{i:Nat}(k:∀j,A (i+j)↔F (a+j))(h:∀j,B (i+j)↔B' (a+j)):Til A B i↔Til F B' a:=by
 constructor
 ·rintro⟨j,g,h1,h2⟩
  obtain⟨d,rfl⟩:=Qf g;refine⟨a+d,by omega,(h d).1 h1,fun m f c=>?_⟩;obtain⟨e,rfl⟩:=Qf f;exact(k e).1 (h2 (i+e) SM SM)
 ·rintro⟨j,g,h1,h2⟩
  obtain⟨d,rfl⟩:=Qf g;refine⟨i+d,by omega,(h d).2 h1,fun m f c=>?_⟩;obtain⟨e,rfl⟩:=Qf f;exact(k e).2 (h2 (a+e) SM SM)
section
variable {s l:List Nat}{a b:List Bool}{A B:Nat->Prop}{N:Nat}
end
def notB{xs:List Bool}{N i:Nat}(c:xs.length=N)(hi:i<N):((xs.map (!·)).getD i false=true↔¬xs.getD i false=true):=by
 rw[Oi,Oi,Ot,On SM];simp
def LN{M:Ltl->Prop}(h1:M (.mk 1 0 []))(h2:M (.mk 2 0 []))(h3:∀n,0<=n->n<=63->M (.mk 3 n []))
  (p:∀k a,k=4\/k=7\/k=10\/k=11->LJ a->M a->M (.mk k 0 [a]))
  (q:∀k a b,k=5\/k=6\/k=8\/k=9->LJ a->LJ b->M a->M b->M (.mk k 0 [a,b])):∀t,LJ t->M t:=by
 have key:∀m (t:Ltl),t.nodes<=m->LJ t->M t:=by
  intro m
  induction m with
  |zero=>intro t h;have:=t.nodes_pos;omega
  |succ m j=>
   rintro⟨k,n,kids⟩ h g
   simp only[LJ]at g
   simp only[Ltl.nodes]at h
   obtain⟨e,o,l,d,c⟩:=g;unfold zN at e
   split at e
   ·rename_i f
    have:kids=[]:=N0 SM;subst this;rcases f with rfl|rfl|rfl
    ·rw[d SP];exact h1
    ·rw[d SP];exact h2
    ·exact h3 n o l
   ·split at e
    ·rename_i f
     rw[d SM]
     match kids,e with
     |[a],_=>
      simp only[Ltl.nodesL,LK]at h c
      exact p k a f c.1 (j a SM c.1)
    ·split at e
     ·rename_i f
      rw[d SM]
      match kids,e with
      |[a,b],_=>
       simp only[Ltl.nodesL,LK]at h c
       have:=a.nodes_pos;have:=b.nodes_pos;exact q k a b f c.1 c.2.1 (j a SM c.1) (j b SM c.2.1)
     ·omega
 exact fun t g=>key t.nodes t Ta g
mutual
def Ltl.deep:Ltl->Nat
 |.mk _ _ kids=>1+Ltl.deepL kids
def Ltl.deepL:List Ltl->Nat
 |[]=>0
 |x::r=>max x.deep (Ltl.deepL r)
end
mutual
theorem lz:∀(t:Ltl) (d c:Int),(kD t d c).1=0->(kD t d c).2=c+t.nodes/\d+t.deep<=21
 |.mk k n kids,d,c,h=>by
  simp only[kD]at h⊢
  split at h
  ·cases h
  ·rename_i h1
   rw[Si h1];split at h
   ·cases h
   ·rename_i h2
    rw[Si h2];split at h
    ·cases h
    ·rename_i h3
     rw[Si h3];have:=lE kids (d+1) (c+1) SM h;simp only[Ltl.nodes,Ltl.deep];omega
theorem lE:∀(l:List Ltl) (d c:Int),d<=21->(kE l d c).1=0->(kE l d c).2=c+Ltl.nodesL l/\d+Ltl.deepL l<=21
 |[],d,c,hd,h=>by simp only[kE,Ltl.nodesL,Ltl.deepL];omega
 |x::r,d,c,hd,h=>by
  simp only[kE]at h⊢
  split at h
  ·rename_i h1;exact absurd h h1
  ·rename_i h1
   rw[Si h1];have h2:=lz x d c (by simpa using h1);have h3:=lE r d _ hd h;simp only[Ltl.nodesL,Ltl.deepL];omega
end
mutual
theorem lx:∀(t:Ltl) (d c:Int),LJ t->c+t.nodes<=60->d+t.deep<=21->(kD t d c).1=0
 |.mk k n kids,d,c,e,h1,h2=>by
  simp only[LJ]at e
  simp only[Ltl.nodes,Ltl.deep]at h1 h2
  simp only[kD];have h3:¬(zN k≠kids.length\/n<0\/n>63\/(k≠3/\n≠0)):=by
   intro h
   rcases h with h|h|h|h
   ·exact h e.1
   ·omega
   ·omega
   ·exact h.2 (e.2.2.2.1 h.1)
  rw[Si SM,Si SM,Si h3];exact lD kids _ _ e.2.2.2.2 SM SM
theorem lD:∀(l:List Ltl) (d c:Int),LK l->c+Ltl.nodesL l<=60->d+Ltl.deepL l<=21->(kE l d c).1=0
 |[],d,c,_,_,_=>by simp only[kE]
 |x::r,d,c,e,h1,h2=>by
  simp only[LK]at e
  simp only[Ltl.nodesL,Ltl.deepL]at h1 h2
  have h3:=lx x d c e.1 SM SM;have h4:=lz x d c h3;simp only[kE];rw[Si (by simp[h3]),h4.1];exact lD r d _ e.2 SM SM
end
def ls(t:Ltl):(kD t 1 0).1=0↔LJ t/\t.nodes<=60/\t.deep<=20:=by
 constructor
 ·intro h
  have h1:=lz t 1 0 h;have h2:=kJ t 1 0 h;exact⟨kM t 1 0 h,by omega,by omega⟩
 ·rintro⟨h1,h2,h3⟩
  exact lx t 1 0 h1 SM SM
mutual
def GD:Ltl->Ltl->Bool
 |.mk k n l,.mk k' c d=>k==k'&&n==c&&GH l d
def GH:List Ltl->List Ltl->Bool
 |[],[]=>true
 |x::r,y::q=>GD x y&&GH r q
 |[],_::_=>false
 |_::_,[]=>false
end
mutual
theorem GE:∀(a b:Ltl),GD a b=true↔a=b
 |.mk k n l,.mk k' d c=>by
  simp only[GD,MZ,RZ,GI l c,Ltl.mk.injEq];exact RV
theorem GI:∀(a b:List Ltl),GH a b=true↔a=b
 |[],[]=>by simp[GH]
 |x::r,y::q=>by simp only[GH,MZ,GE x y,GI r q,List.cons.injEq]
 |[],_::_=>by simp[GH]
 |_::_,[]=>by simp[GH]
end
def GG(a:Ltl):GD a a=true:=(GE a a).2 rfl
section
variable {L:Nat->Nat}{n:Int}{a b:Ltl}{i:Nat}
theorem GT:GS L (.mk 1 n []) i↔True:=by simp[GS,G4,G3]
theorem GW:GS L (.mk 2 n []) i↔False:=by simp[GS,G4,G3]
theorem GX:GS L (.mk 3 n []) i↔L i >>> n.toNat&&&1=1:=by simp[GS,G4,G3]
theorem GY:GS L (.mk 4 n [a]) i↔¬GS L a i:=by simp[GS,G4,G3]
theorem GZ:GS L (.mk 5 n [a,b]) i↔GS L a i/\GS L b i:=by simp[GS,G4,G3]
theorem G0:GS L (.mk 6 n [a,b]) i↔GS L a i\/GS L b i:=by simp[GS,G4,G3]
theorem G1:GS L (.mk 7 n [a]) i↔GS L a (i+1):=by simp[GS,G4,G3]
theorem sem8:GS L (.mk 8 n [a,b]) i↔Til (GS L a) (GS L b) i:=by simp[GS,G4,G3]
theorem G2:GS L (.mk 9 n [a,b]) i↔¬Til (fun j=>¬GS L a j) (fun j=>¬GS L b j) i:=by simp[GS,G4,G3]
theorem GU:GS L (.mk 10 n [a]) i↔Til (fun _=>True) (GS L a) i:=by simp[GS,G4,G3]
theorem GV:GS L (.mk 11 n [a]) i↔¬Til (fun _=>True) (fun j=>¬GS L a j) i:=by simp[GS,G4,G3]
end
def Til.congr{A B B':Nat->Prop}(d:∀j,A j↔F j)(c:∀j,B j↔B' j)(i:Nat):Til A B i↔Til F B' i:=
 Til.shift (fun _=>d _) (fun _=>c _)
mutual
def D1:Ltl->Ltl
 |.mk k n kids=>if k=10 then .mk 8 0 [.mk 1 0 [],(D2 kids).getD 0 (.mk 0 0 [])]else if k=11 then .mk 9 0 [.mk 2 0 [],(D2 kids).getD 0 (.mk 0 0 [])]else .mk k n (D2 kids)
def D2:List Ltl->List Ltl
 |[]=>[]
 |x::r=>D1 x::D2 r
end
def D3:∀l,D2 l=l.map D1
 |[]=>rfl
 |x::r=>by simp[D2,D3 r]
mutual
def ui:Ltl->Int->Bool
 |.mk k _ kids,q=>k==q||uj kids q
def uj:List Ltl->Int->Bool
 |[],_=>false
 |x::r,q=>ui x q||uj r q
end
def D4:∀t,LJ t->ui (D1 t) 10=false/\ui (D1 t) 11=false:=by
 refine LN ?_ ?_ ?_ ?_ ?_
 ·constructor<;>simp[D1,D2,ui,uj]
 ·constructor<;>simp[D1,D2,ui,uj]
 ·intro n _ _
  constructor<;>simp[D1,D2,ui,uj]
 ·rintro k a (rfl|rfl|rfl|rfl) _ ⟨h1,h2⟩<;>constructor<;>simp[D1,D2,ui,uj,h1,h2]
 ·rintro k a b (rfl|rfl|rfl|rfl) _ _ ⟨h1,h2⟩ ⟨h3,h4⟩<;>constructor<;>simp[D1,D2,ui,uj,h1,h2,h3,h4]
def D6{L:Nat->Nat}:∀t,LJ t->∀i,GS L (D1 t) i↔GS L t i:=by
 refine LN ?_ ?_ ?_ ?_ ?_
 ·intro i;simp[D1,D2]
 ·intro i;simp[D1,D2]
 ·intro n _ _ i;simp[D1,D2]
 ·rintro k a (rfl|rfl|rfl|rfl) _ h i
  ·simp[D1,D2,GY,h]
  ·simp[D1,D2,G1,h]
  ·simp[D1,D2,sem8,GU];exact Til.congr (fun _=>by simp[GT]) h i
  ·simp[D1,D2,G2,GV];exact Sn (Til.congr (fun _=>by simp[GW]) (fun j=>Sn (h j)) i)
 ·rintro k a b (rfl|rfl|rfl|rfl) _ _ h1 h2 i
  ·simp[D1,D2,GZ,h1,h2]
  ·simp[D1,D2,G0,h1,h2]
  ·simp[D1,D2,sem8];exact Til.congr h1 h2 i
  ·simp[D1,D2,G2];exact Sn (Til.congr (fun j=>Sn (h1 j)) (fun j=>Sn (h2 j)) i)
section
variable {L:Nat->Nat}
end
def Fp(h:I.results=#[.cell a t])(tmps:Array Value)(P:Program)(w:World){p:Addr}(b:tmps.getD a undef=.pointer (some p))(c:(loadVar t p).run P w=.ok v w):
  (results I tmps).run P w=.ok v w:=by
 simp only[MC]at b
 simp[results,h,b,asAddr,c]
def bp{n:Nat}{σ:Sg}{b:Nat}{e:TypeId}{k:Nat}(q:I.results=#[.cell a t])(y:fnd σ a=some (Tg b))[s:IsC P t k true](x:Blk w b e r)(o:Aq r=k)(h:c (.agg r.toArray) w):
  EX (bodyPost P I fun e w'=>∃v,e=.returned v/\c v w') .ret n σ w:=by
 unfold EX;intro ac m
 refine R3 (Fp q _ _ _ (m.slot a _ y) (v:=.agg r.toArray) ?_) m.defers ⟨_,rfl,h⟩;rw[Ar]at o
 have f:=Su (P:=P) w ⟨b,0,none⟩ r (fun j u p=>by rw[RT,QJ];exact x.cell p);obtain⟨i,dd,h1,h2,h3,h4⟩:=s.ok;have l:(isAgg t).run P w=.ok true w:=by
  unfold isAgg;rw[Q4,Sy h3 w,<-h4];cases dd<;>rfl
 rw[o]at f
 simp[loadVar,l,sizeOf,typeInfo,h1,h2,f]
def Fq{u:Nat}(h:I.results=#[.cell a t,.tmp u])(tmps:Array Value)(P:Program)(w:World){p:Addr}(b:tmps.getD a undef=.pointer (some p))(c:(loadVar t p).run P w=.ok v w):
  (results I tmps).run P w=.ok (.tuple ⟨[v,tmps.getD u undef]⟩) w:=by
 simp only[MC]at b⊢
 simp[results,h,b,asAddr,c]
def bu{n:Nat}{σ:Sg}{b u:Nat}{e:TypeId}{k:Nat}{x:Value}(q:I.results=#[.cell a t,.tmp u])(z:fnd σ a=some (Tg b))(o:fnd σ u=some x)[s:IsC P t k true](y:Blk w b e r)(p:Aq r=k)(h:c (.tuple ⟨[.agg r.toArray,x]⟩) w):
  EX (bodyPost P I fun e w'=>∃v,e=.returned v/\c v w') .ret n σ w:=by
 unfold EX;intro ac f
 refine R3 (Fq q _ _ _ (f.slot a _ z) (v:=.agg r.toArray) ?_) f.defers ⟨_,by rw[f.slot u x o],h⟩;rw[Ar]at p
 have l:=Su (P:=P) w ⟨b,0,none⟩ r (fun j u o=>by rw[RT,QJ];exact y.cell o);obtain⟨i,dd,h1,h2,h3,h4⟩:=s.ok;have m:(isAgg t).run P w=.ok true w:=by
  unfold isAgg;rw[Q4,Sy h3 w,<-h4];cases dd<;>rfl
 rw[p]at l
 simp[loadVar,m,sizeOf,typeInfo,h1,h2,l]
def Sl.zero[Rep α](w:World)(F:Nat->Prop):Sl w F none 0 ([]:List α):=⟨by simp,by simp[maxLen],fun _=>rfl,fun i hi=>absurd hi SQ⟩
def Sl.up0[Rep α]{w':World}{ao:Option Addr}{cap:Nat}{xs:List α}(h:Sl w F ao cap xs)(c:Ext w w')(hF:∀b,F b->b<w.heap.size):Sl w' F ao cap xs:=h.mono (fun b a=>c.block b (hF b a)) fun _ h=>h
section
variable {P:Program}{Q:Exit->Act->World->Prop}{n:Nat}{σ:Sg}{w:World}{L rest:List Oper}{d:Nat}{ty:TypeId}{pos:String}{af:Array Edge}{g:Option (Nat×Bool)}{t e:TypeId}{α:Type}[Rep α]{F:Nat->Prop}
end
def RL(w:World)(v:Value)(t:Ltl):Prop:=Rd w (dl w) v t
def RL.ext{w':World}{t:Ltl}(h:RL w v t)(c:Ext w w'):RL w' v t:=Rd.mono h (fun b a=>c.block b a) (fun b a=>Qn a c.size)
def dr(F:Nat->Prop)(w w':World):Nat->Prop:=fun b=>F b\/(w.heap.size<=b/\b<w'.heap.size)
def iT(ops:Array Oper)(r:List (Nat×Bool)):Nat->List Nat->Array Bool->Bool
 |0,J,a=>J.isEmpty&&C9 ops r a
 |k+1,J,a=>(Region.ready .any ops a).all (fun i=>J.contains i)&&!(Region.ready .any ops a).isEmpty&&
   (Region.ready .any ops a).all fun i=>iT ops r k (J.erase i) (a.setIfInBounds i true)
def C_(ops:Array Oper)(J:List Nat)(r:List (Nat×Bool)):List (Nat×Bool)->Array Bool->Bool
 |[],a=>iT ops r J.length J a
 |(i,true)::s,a=>(Region.ready .any ops a).contains i&&Region.free .any ops a i&&C_ ops J r s (a.setIfInBounds i true)
 |(i,false)::s,a=>decide (Region.ready .any ops a=[i])&&C_ ops J r s (a.setIfInBounds i true)
def iU(l:List Oper)(s:List (Nat×Bool))(J:List Nat)(r:List (Nat×Bool)):Bool:=
 Region.noSelect l.toArray&&decide (s.length+J.length+r.length=l.length)&&C_ l.toArray J r s (Array.replicate l.length false)
def dh:Exit->Act->World->Prop:=fun _ _ _=>False
def Md(P:Program)(ops:List Oper)(S:World->Prop)(K:Act->World->Prop):Nat->List Nat->Act->World->Prop
 |0,_,a,w=>K a w
 |k+1,J,a,w=>∀i∈J,∃o,ops[i]?=some o/\Region.wanted o (yielded ops.toArray a.tmps)=true/\o.wp P a w (fun b w'=>S w'/\Md P ops S K k (J.erase i) b w') dh
def Mr{o:Oper}{a:Act}{K:Act->World->Prop}{Q':Exit->Act->World->Prop}(hq:∀e a w,e≠.normal->Q e a w->Q' e a w)(h:o.wp P a w K Q):o.wp P a w K Q':=by
 unfold Oper.wp at*
 generalize (execOp a.eval o).run P w=r at*
 cases r with
 |ok k w'=>
  cases k<;>simp only[Oper.upon]at h⊢<;>first
   |exact h
   |(refine Ng h (fun e w'' b=>?_);cases e<;>first|exact b|exact hq _ _ _ SQ b|(obtain⟨a1,c,d⟩:=b;exact⟨a1,c,hq _ _ _ SQ d⟩))
 |halt x w'=>cases x<;>simp only[Oper.upon]at h⊢<;>first|exact h|exact hq _ _ _ SQ h
def Mf{P:Program}{ops:List Oper}{S:World->Prop}{Q:Act->World->Prop}(p:Region.noSelect ops.toArray=true)(r:List (Nat×Bool)):
  ∀(k:Nat) (J:List Nat) (b:Array Bool) (a:Act) (w:World),iT ops.toArray r k J b=true->S w->Md P ops S (Mj P ops S Q r) k J a w->wpAnyH P .any ops.toArray (fun e a w=>e=.normal/\Q a w) S (r.length+k) b a w
 |0,J,b,a,w,d,hS,h=>by
  simp only[iT,MZ]at d
  exact Ml p r _ _ _ d.2 hS h
 |k+1,J,b,a,w,d,hS,h=>by
  simp only[iT,MZ,NB,M7,OQ]at d
  obtain⟨⟨l,j⟩,c⟩:=d;refine SB rfl j ?_;intro i hi
  obtain⟨o,s,q,f⟩:=h i (by simpa using l i hi);unfold wpOp;have g:ops.toArray[i]?=some o:=by simpa using s
  simp only[g,q,Sk];refine .inl (QP (fun t w' m=>⟨m.1,Mf p r k (J.erase i) _ _ _ (c i hi) m.1 m.2⟩) (Mr (fun e a w _ hf=>hf.elim) f))
def Mk{P:Program}{ops:List Oper}{S:World->Prop}{Q:Act->World->Prop}(d:Region.noSelect ops.toArray=true)(J:List Nat)(r:List (Nat×Bool)):
  ∀(s:List (Nat×Bool)) (b:Array Bool) (a:Act) (w:World),C_ ops.toArray J r s b=true->S w->Mj P ops S (fun a w=>S w/\Md P ops S (Mj P ops S Q r) J.length J a w) s a w->wpAnyH P .any ops.toArray (fun e a w=>e=.normal/\Q a w) S (r.length+J.length+s.length) b a w
 |[],b,a,w,c,hS,h=>Mf d r _ _ _ _ _ c hS h.2
 |(i,true)::s,b,a,w,c,hS,⟨o,v,k,q,h⟩=>by
  simp only[C_,MZ]at c
  exact SD (by simpa using k) d c.1.2 c.1.1 (fun _ _ _ h=>by cases h.1) q hS (Mk d J r s _ _ _ c.2 hS h)
 |(i,false)::s,b,a,w,c,hS,⟨o,k,h⟩=>by
  simp only[C_,MZ,R_]at c
  refine SB c.1 SQ ?_;intro j t
  have m:j=i:=by simpa using t
  subst m;have g:ops.toArray[j]?=some o:=by simpa using k
  unfold wpOp;simp only[g];split
  ·rename_i f
   rw[Sj f]at h
   exact .inl (QP (fun u w' p=>⟨p.1,Mk d J r s _ _ _ c.2 p.1 p.2⟩) (Mr (fun e a w l hf=>absurd hf.1 l) h))
  ·rename_i f
   rw[Si f]at h
   exact⟨h.1,Mk d J r s _ _ _ c.2 h.1 h.2⟩
structure BE where
 i:Nat
 d:Nat
 Φ:Value->(Nat->Prop)->World->Prop
def am(P:Program)(ops:List Oper)(S:World->Prop)(Q:Exit->Act->World->Prop)(J:List Nat)(r:List (Nat×Bool)):Exit->Act->World->Prop:=
 fun e a w=>e=.normal/\(S w/\Md P ops S (Mj P ops S (fun a w=>Q .normal a w) r) J.length J a w)
def ad(S:World->Prop)(w:World)(e:BE):Exit->Act->World->Prop:=
 fun x a w'=>x=.normal/\a.defers=[]/\S w'/\Ext w w'/\∃N,e.Φ (a.tmps.getD e.d undef) N w'/\∀b,N b->w.heap.size<=b/\b<w'.heap.size
def BC(P:Program)(L:List Oper)(S:World->Prop)(n:Nat)(σ:Sg)(e:BE):Prop:=
 (∃o,Cm L e.i=some o/\o.dst=some e.d/\gd L σ o=some true/\∀w,S w->WL P L (ad S w e) [o] n σ w)/\Nat.ble (e.d+1) n=true/\fnd σ e.d=none/\∀v N w w',e.Φ v N w->Ext w w'->e.Φ v N w'
def aT{w':World}{e:BE}{n:Nat}{σ:Sg}(N:Nat->Prop)(d:fnd σ e.d=some v)(hS:S w')(g:Ext w w')(hΦ:e.Φ v N w')(f:∀b,N b->w.heap.size<=b/\b<w'.heap.size):EX (ad S w e) .normal n σ w':=by
 unfold EX;intro a c
 exact⟨rfl,c.defers,hS,g,by rw[c.slot _ _ d];exact⟨N,hΦ,f⟩⟩
def iX{n:Nat}{σ:Sg}{e:BE}(h:BC P L S n σ e){a:Act}(l:Fr n σ a)(hS:S w):
  ∃o,L[e.i]?=some o/\Region.wanted o (yielded L.toArray a.tmps)=true/\o.wp P a w (fun t w'=>S w'/\Ext w w'/\∃v N,t=a.put (some e.d) v/\e.Φ v N w'/\∀b,N b->w.heap.size<=b/\b<w'.heap.size) dh:=by
 obtain⟨⟨o,m,hd,s,p⟩,hn,hf,_⟩:=h;rw[Cn]at m
 have f:=sJ l s;refine⟨o,m,f,?_⟩;have h1:=p w hS;unfold WL at h1
 have h2:=h1 a l;simp only[wpList,f,Sk]at h2
 have j:e.d<n:=Qg hn;have c:∀v,(a.put (some e.d) v).tmps.getD e.d undef=v:=by
  intro v
  simp[Act.put,Array.getD,l.size,j]
 rcases h2 with h2|⟨_,q⟩
 ·unfold Oper.wp at*
  obtain⟨dst,op,ty,pos,af,g⟩:=o;simp only at hd
  subst hd;generalize (execOp a.eval _).run P w=r at*
  cases r with
  |ok k w'=>
   cases k<;>simp only[Oper.upon]at h2⊢<;>first
    |exact⟨h2.2.2.1,h2.2.2.2.1,by have:=h2.2.2.2.2;rw[c]at this;obtain⟨N,h3,h4⟩:=this;exact⟨_,N,rfl,h3,h4⟩⟩
    |(exfalso;have:=h2.2.1;simp[Act.put]at this;done)
    |(refine Ng h2 (fun x w'' d=>?_)
      cases x
      ·exact⟨d.2.2.1,d.2.2.2.1,by have:=d.2.2.2.2;rw[c]at this;obtain⟨N,h3,h4⟩:=this;exact⟨_,N,rfl,h3,h4⟩⟩
      ·exact absurd d.1 SQ
      ·obtain⟨_,_,i⟩:=d;exact absurd i.1 SQ)
    |exact Q3 h2 (fun v w'' d=>⟨d.2.2.1,d.2.2.2.1,by have:=d.2.2.2.2;rw[c]at this;obtain⟨N,h3,h4⟩:=this;exact⟨_,N,rfl,h3,h4⟩⟩)
    |exact h2
  |halt x w'=>cases x<;>simp only[Oper.upon]at h2⊢<;>first|exact h2|exact absurd h2.1 SQ
 ·obtain⟨_,_,i⟩:=q
  exact absurd i.1 SQ
def BagK(w':World)(G:Sg->Prop):List (Nat->Prop)->List BE->Sg->Prop
 |_,[],σ=>G σ
 |D,e::r,σ=>∀v N,e.Φ v N w'->(∀p∈D,∀b,p b->N b->False)->BagK w' G (N::D) r ((e.d,v)::σ)
def BagK.get{w':World}{G:Sg->Prop}{n:Nat}{a:Act}(NN:Nat->Nat->Prop):∀(E:List BE) {D:List (Nat->Prop)} {σ:Sg},BagK w' G D E σ->Fr n σ a->(∀e∈E,e.d<n/\e.Φ (a.tmps.getD e.d undef) (NN e.i) w')->
  (∀e∈E,∀p∈D,∀b,p b->NN e.i b->False)->(E.map (·.i)).Nodup->(∀e∈E,∀f∈E,e.i≠f.i->∀b,NN e.i b->NN f.i b->False)->∃τ,Fr n τ a/\G τ
 |[],D,σ,h,i,_,_,_,_=>⟨σ,i,h⟩
 |e::r,D,σ,h,i,o,q,d,hP=>by
  have v:=o e SQ;rw[Pd,PC]at d
  refine BagK.get NN r (h _ _ v.2 (q e SQ)) ?_ (fun x c=>o x (by simp[c])) ?_ d.2 (fun x c y s=>hP x (by simp[c]) y (by simp[s]))
  rotate_left
  ·intro x c p k b m g
   rcases Pk.1 k with rfl|k
   ·exact hP e SQ x (by simp[c]) (fun hi=>d.1 (by rw[hi];exact Pt c)) b m g
   ·exact q x (by simp[c]) p k b m g
  refine⟨i.size,i.defers,fun t u j=>?_⟩;by_cases l:e.d=t
  ·subst l;rw[rK]at j;cases j;rfl
  ·rw[rL l]at j;exact i.slot _ _ j
def nG:List Nat->Bool
 |[]=>true
 |x::r=>!r.contains x&&nG r
def nH:∀{l:List Nat},nG l=true->l.Nodup
 |[],_=>List.nodup_nil
 |x::r,h=>by
  simp only[nG,MZ,M7]at h
  rw[PC];exact⟨by simpa using h.1,nH h.2⟩
def K8(NN:Nat->Nat->Prop)(i:Nat)(N:Nat->Prop):Nat->Nat->Prop:=fun j=>if j=i then N else NN j
def K9{i:Nat}{N:Nat->Prop}:K8 e i N i=N:=Sj rfl
def K_{i:Nat}{N:Nat->Prop}{j:Nat}(h:j≠i):K8 e i N j=e j:=Si h
def Ch{β γ:Type}{f:β->γ}:∀{l:List β},(l.map f).Nodup->∀x∈l,∀y∈l,f x=f y->x=y
 |[],_,x,a,_,_,_=>by simp at a
 |z::r,h,x,a,y,b,e=>by
  rw[Pd,PC]at h
  rcases Pk.1 a with h1|h1
  ·rcases Pk.1 b with h2|h2
   ·rw[h1,h2]
   ·exact absurd (show f z∈r.map f by rw[<-h1,e];exact Pt h2) h.1
  ·rcases Pk.1 b with h2|h2
   ·exact absurd (show f z∈r.map f by rw[<-h2,<-e];exact Pt h1) h.1
   ·exact Ch h.2 x h1 y h2 e
def Me{P:Program}{L:List Oper}{S:World->Prop}{n:Nat}{σ:Sg}{E:List BE}(T:∀e∈E,BC P L S n σ e)(hd:(E.map (·.d)).Nodup)(hi:(E.map (·.i)).Nodup){w0:World}{K:Act->World->Prop}
  (hK:∀a w (NN:Nat->Nat->Prop),Fr n σ a->S w->Ext w0 w->(∀e∈E,e.Φ (a.tmps.getD e.d undef) (NN e.i) w)->(∀e∈E,∀f∈E,e.i≠f.i->∀b,NN e.i b->NN f.i b->False)->K a w):
  ∀(k:Nat) (J:List Nat) (a:Act) (w:World) (NN:Nat->Nat->Prop),J.length=k->J.Nodup->(∀i∈J,i∈E.map (·.i))->Fr n σ a->S w->Ext w0 w->(∀e∈E,e.i∉J->e.Φ (a.tmps.getD e.d undef) (NN e.i) w/\∀b,NN e.i b->b<w.heap.size)->
   (∀e∈E,∀f∈E,e.i∉J->f.i∉J->e.i≠f.i->∀b,NN e.i b->NN f.i b->False)->Md P L S K k J a w
 |0,J,a,w,NN,H,_,_,A,hS,hE,R,hP=>hK a w NN A hS hE (fun e p=>(R e p (by rw[N0 H];simp)).1) (fun e p f hf=>hP e p f hf (by rw[N0 H];simp) (by rw[N0 H];simp))
 |k+1,J,a,w,NN,H,W,q,A,hS,hE,R,hP=>by
  intro i I
  obtain⟨e,p,rfl⟩:=Pr.1 (q i I);obtain⟨o,ho,hw,U⟩:=iX (T e p) A hS;refine⟨o,ho,hw,QP (fun a' w' h'=>?_) U⟩;obtain⟨O,B,v,N,rfl,hΦ,Z⟩:=h';have hn:e.d<n:=Qg (T e p).2.1;have hf:=(T e p).2.2.1;have M:(a.put (some e.d) v).tmps.getD e.d undef=v:=by simp[Act.put,Array.getD,A.size,hn]
  have r:∀t,t≠e.d->(a.put (some e.d) v).tmps.getD t undef=a.tmps.getD t undef:=by
   intro t ht
   simp only[Act.put,MC];rw[MN (QN ht)]
  have nne:K8 NN e.i N e.i=N:=K9;have nno:∀j,j≠e.i->K8 NN e.i N j=NN j:=fun j X=>K_ X
  refine⟨O,Me T hd hi hK k (J.erase e.i) _ _ (K8 NN e.i N) (by rw[OZ I,H];rfl) (W.erase _) (fun j X=>q j (List.mem_of_mem_erase X)) ?_ O (hE.trans B) ?_ ?_⟩
  ·refine⟨by simpa[Act.put]using A.size,by simpa[Act.put]using A.defers,fun t u V=>?_⟩
   have:t≠e.d:=fun h=>by rw[h,hf]at V;cases V
   rw[r t this];exact A.slot t u V
  ·intro x z s
   by_cases c:x.d=e.d
   ·have F:x=e:=Ch hd x z e p c
    subst F;rw[M,nne];exact⟨hΦ,fun b Y=>(Z b Y).2⟩
   ·rw[r _ c]
    have G:x.i≠e.i:=fun hh=>c (by rw[Ch hi x z e p hh])
    have h0:=R x z (fun d=>s ((Pn G).2 d));rw[nno _ G];exact⟨(T x z).2.2.2 _ _ _ _ h0.1 B,fun b Y=>Qn (h0.2 b Y) B.size⟩
  ·intro x z y hy s C D b m l
   by_cases c:x.i=e.i
   ·rw[c,nne]at m
    have g:y.i≠e.i:=fun h=>D (by rw[c,h])
    rw[nno _ g]at l
    have h1:=(R y hy (fun h=>C ((Pn g).2 h))).2 b l;have h2:=(Z b m).1;omega
   ·rw[nno _ c]at m
    have d:x.i∉J:=fun h=>s ((Pn c).2 h)
    by_cases g:y.i=e.i
    ·rw[g,nne]at l
     have h1:=(R x z d).2 b m;have h2:=(Z b l).1;omega
    ·rw[nno _ g]at l
     exact hP x z y hy d (fun h=>C ((Pn g).2 h)) D b m l
section
variable {P:Program}{Q:Exit->Act->World->Prop}{n:Nat}{σ:Sg}{w:World}{L:List Oper}{S:World->Prop}
theorem aD{id:Nat}(S:World->Prop)(s:List (Nat×Bool))(J:List Nat)(r:List (Nat×Bool))(f:P.follows .mixedOrders=true)(b:iU L s J r=true)(hS:S (drew w))(h:HL P L S (am P L S Q J r) s n σ (drew w)):CW P (.region id L.toArray true) Q n σ w:=by
 unfold CW;unfold HL at h;intro a i
 simp only[iU,MZ,R_]at b
 obtain⟨⟨d,k⟩,b⟩:=b;have j:=h a i;have c:Mj P L S (fun a w=>S w/\Md P L S (Mj P L S (fun a w=>Q .normal a w) r) J.length J a w) s a (Go.Proofs.YtfpjecjadlgdcaaGreatDoor.drew w):=by
  have:(fun a w=>am P L S Q J r .normal a w)=(fun a w=>S w/\Md P L S (Mj P L S (fun a w=>Q .normal a w) r) J.length J a w):=by funext a w;simp[am]
  rw[<-this];exact j
 have h1:=Mk d J r s (Array.replicate L.length false) a (Go.Proofs.YtfpjecjadlgdcaaGreatDoor.drew w) b hS c;rw[show r.length+J.length+s.length=L.length by omega]at h1
 have h2:=SK (id:=id) (S:=S) f (w:=w) (ops:=L.toArray) (by simpa using h1);exact SI h2 (fun e l w' ⟨g,hq⟩=>by subst g;exact hq)
theorem aS{J:List Nat}{r:List (Nat×Bool)}(E:List BE)(o:E.map (·.i)=J)(b:nG (E.map (·.i))=true)(d:nG (E.map (·.d))=true)(hS:S w)(k:∀e∈E,BC P L S n σ e)
  (m:∀w',S w'->Ext w w'->BagK w' (fun τ=>HL P L S Q r n τ w') [] E σ):EX (am P L S Q J r) .normal n σ w:=by
 unfold EX;intro a g
 subst o;refine⟨rfl,hS,?_⟩;refine Me k (nH d) (nH b) (w0:=w) (fun a w' NN g h q hΦ hP=>?_) _ _ a w (fun _ _=>False) rfl (nH b) (fun i hi=>hi) g hS Tc (fun e c hn=>absurd (Pt c) hn) (fun e c f hf hn=>absurd (Pt c) hn);obtain⟨τ,hτ,j⟩:=BagK.get NN E (m w' h q) g (fun e c=>⟨Qg (k e c).2.1,hΦ e c⟩) (fun _ _ p l=>by simp at l) (nH b) hP;unfold HL at j
 exact j a hτ
end
def L7(P:Program)(ops:Array Oper)(Q:Exit->Act->World->Prop)(S:World->Prop)(e:Nat):Nat->Array Bool->Act->World->Prop
 |0,c,a,w=>Region.ready .any ops c=[]/\Q .normal a w
 |k+1,c,a,w=>(Region.ready .any ops c=[]->Q .normal a w)/\∀i∈Region.ready .any ops c,wpOp P ops Q i (fun f w'=>(i≠e->S w')/\L7 P ops Q S e k (c.setIfInBounds i true) f w') a w
def Mb{P:Program}{ops:Array Oper}{Q:Exit->Act->World->Prop}{S:World->Prop}{e:Nat}:∀(k:Nat) (c:Array Bool) (a:Act) (w:World),L7 P ops Q S e k c a w->wpAny P .any ops Q k c a w
 |0,_,_,_,h=>h
 |k+1,_,_,_,h=>⟨h.1,fun i hi=>SF (fun l w' f=>Mb k _ l w' f.2) (h.2 i hi)⟩
def Lm(ops:Array Oper)(e i:Nat):Bool:=match ops[e]? with
 |some o=>o.after.toList.any fun ed=>Region.binds .any ed&&(ed.on==i)
 |none=>false
def Ln{ops:Array Oper}{e i:Nat}(c:Lm ops e i=true)(hi:y.getD i false=false):e∉Region.ready .any ops y:=by
 intro h
 obtain⟨_,o,f,a⟩:=Sm.1 h;unfold Lm at c
 rw[f]at c
 obtain⟨ed,h1,h2⟩:=NE.1 c;simp only[MZ,RZ]at h2
 have:=a ed (by simpa using h1) h2.1;rw[h2.2,hi]at this
 cases this
def Fi{ops:Array Oper}{i:Nat}(h:i∈Region.ready .any ops y):y.getD i false=false:=by
 have c:=(Sm.1 h).1;rcases Qo i y.size with a|a
 ·simp[a]at c⊢;exact c
 ·simp[a]
def L8{ops:Array Oper}{e i:Nat}{oi:Oper}(z:ops[i]?=some oi)(O:Region.noSelect ops=true)(R:i≠e)(J:Lm ops e i=true)(hQ:∀c a w,Q (.panic c) (a.put oi.dst v) w->Q (.panic c) a w):
  ∀(k:Nat) (f:Array Bool) (a:Act) (w:World),(∀j oj,ops[j]?=some oj->j≠i->f.getD j true=false->(∀ed∈oj.after,Region.binds .any ed=true->ed.on≠i)->oi.apart ops oj=true)->
   i∈Region.ready .any ops f->YieldsIf P ops S oi v a->S w->L7 P ops Q S e k (f.setIfInBounds i true) (a.put oi.dst v) w->L7 P ops Q S e (k+1) f a w:=by
 have r:=Q1 O;intro k
 induction k with
 |zero=>
  intro f a w _ s I hS H
  refine⟨fun h=>(by rw[h]at s;cases s),fun j E=>?_⟩;by_cases l:j=i
  ·subst l;exact I.wpOp z hS ⟨fun _=>hS,H⟩
  ·have:=St E l
   rw[H.1]at this
   cases this
 |succ k N=>
  intro f a w q s I hS H
  refine⟨fun h=>(by rw[h]at s;cases s),fun j E=>?_⟩;by_cases l:j=i
  ·subst l;exact I.wpOp z hS ⟨fun _=>hS,H⟩
  ·have D:j≠e:=fun h=>Ln J (Fi s) (h▸E)
   obtain⟨p,oj,u,G⟩:=Sm.1 E;have K:∀ed∈oj.after,Region.binds .any ed=true->ed.on≠i:=fun ed h1 h2 h3=>by
    have h4:=G ed h1 h2;rw[h3,Fi s]at h4
    cases h4
   have B:=wpOp_putIf u (q j oj u l p K) (fun cs b=>r i oi cs b z) (fun cs b=>r j oj cs b u) hQ I (H.2 j (St E l));refine SF (fun U w' h3=>⟨fun _=>h3.2.1 D,N (f.setIfInBounds j true) U w' (fun m om T M A hn=>q m om T M ?_ hn) (St s (QN l)) h3.1 (h3.2.1 D) ?_⟩) B
   ·by_cases C:j=m
    ·subst C;exact p
    ·rw[getD_set_ne true C]at A;exact A
   ·rw[MQ _ _ l]
    exact h3.2.2
def Da(ops:Array Oper)(e:Nat):List (Nat×Bool)->Array Bool->Bool
 |[],a=>decide (Region.ready .any ops a=[e])&&(Region.ready .any ops (a.setIfInBounds e true)).isEmpty
 |(i,true)::s,a=>(Region.ready .any ops a).contains i&&Region.free .any ops a i&&!(i==e)&&Lm ops e i&&Da ops e s (a.setIfInBounds i true)
 |(i,false)::s,a=>decide (Region.ready .any ops a=[i])&&Da ops e s (a.setIfInBounds i true)
def Db(l:List Oper)(s:List (Nat×Bool))(e:Nat):Bool:=Region.noSelect l.toArray&&decide (s.length+1=l.length)&&Da l.toArray e s (Array.replicate l.length false)
def eu(P:Program)(ops:List Oper)(Q:Exit->Act->World->Prop)(e:Nat):Exit->Act->World->Prop:=
 fun x a w=>x=.normal/\∃o,ops[e]?=some o/\wpList P ops.toArray (fun x a w=>x=.normal/\Q .normal a w) [o] a w
def Mm{P:Program}{ops:List Oper}{S:World->Prop}{Q:Exit->Act->World->Prop}{e:Nat}(u:Region.noSelect ops.toArray=true):
  ∀(s:List (Nat×Bool)) (c:Array Bool) (a:Act) (w:World),Da ops.toArray e s c=true->S w->Mj P ops S (fun a w=>eu P ops Q e .normal a w) s a w->L7 P ops.toArray (fun x a w=>x=.normal/\Q .normal a w) S e (s.length+1) c a w
 |[],c,a,w,f,hS,h=>by
  simp only[Da,MZ,R_,OR]at f
  obtain⟨_,o,m,p⟩:=h;refine⟨fun q=>(by rw[f.1]at q;cases q),fun i hi=>?_⟩;rw[f.1,Py]at hi
  subst hi;have k:ops.toArray[i]?=some o:=by simpa using m
  unfold wpOp;simp only[k];simp only[wpList]at p
  split
  ·rename_i l
   rw[Sj l]at p
   exact p.imp (QP fun D w' r=>⟨fun h=>absurd rfl h,f.2,rfl,r.2⟩) id
  ·rename_i l
   rw[Si l]at p
   exact⟨fun h=>absurd rfl h,f.2,rfl,p.2⟩
 |(i,true)::s,c,a,w,f,hS,⟨o,v,m,B,h⟩=>by
  simp only[Da,MZ,M7,RY]at f
  obtain⟨⟨⟨⟨h1,h2⟩,h3⟩,h4⟩,C⟩:=f;have k:ops.toArray[i]?=some o:=by simpa using m
  exact L8 k u h3 h4 (fun _ _ _ h=>by cases h.1) _ _ _ _ (Q0 k h2) (by simpa using h1) B hS (Mm u s _ _ _ C hS h)
 |(i,false)::s,c,a,w,f,hS,⟨o,m,h⟩=>by
  simp only[Da,MZ,R_]at f
  refine⟨fun q=>(by rw[f.1]at q;cases q),fun j A=>?_⟩;rw[f.1,Py]at A
  subst A;have k:ops.toArray[j]?=some o:=by simpa using m
  unfold wpOp;simp only[k];split
  ·rename_i l
   rw[Sj l]at h
   exact .inl (QP (fun D w' r=>⟨fun _=>r.1,Mm u s _ _ _ f.2 r.1 r.2⟩) (Mr (fun x a w z hf=>absurd hf.1 z) h))
  ·rename_i l
   rw[Si l]at h
   exact⟨fun _=>h.1,Mm u s _ _ _ f.2 h.1 h.2⟩
section
variable {P:Program}{Q:Exit->Act->World->Prop}{n:Nat}{σ:Sg}{w:World}{L:List Oper}{S:World->Prop}
theorem aF{id:Nat}(S:World->Prop)(s:List (Nat×Bool))(e:Nat)(k:P.follows .mixedOrders=true)(c:Db L s e=true)(hS:S (drew w))(h:HL P L S (eu P L Q e) s n σ (drew w)):CW P (.region id L.toArray true) Q n σ w:=by
 unfold CW;unfold HL at h;intro a p
 simp only[Db,MZ,R_]at c
 obtain⟨⟨f,l⟩,c⟩:=c;have h1:=Mm (Q:=Q) f s (Array.replicate L.length false) a (Go.Proofs.YtfpjecjadlgdcaaGreatDoor.drew w) c hS (h a p);rw[l]at h1
 have h2:(Code.region id L.toArray true).wp P (fun x a w=>x=.normal/\Q .normal a w) a w:=SJ k (by simpa using Mb _ _ _ _ h1);exact SI h2 (fun e q w' ⟨m,hq⟩=>by subst m;exact hq)
theorem bB{e:Nat}{o:Oper}(c:Cm L e=some o)(h:WL P L (fun x a w=>x=.normal/\Q .normal a w) [o] n σ w):EX (eu P L Q e) .normal n σ w:=by
 unfold EX;unfold WL at h
 intro a f
 rw[Cn]at c
 exact⟨rfl,o,c,h a f⟩
theorem bC(h:EX Q .normal n σ w):EX (fun x a w=>x=.normal/\Q .normal a w) .normal n σ w:=by
 unfold EX at*;exact fun a c=>⟨rfl,h a c⟩
end
section
variable {P:Program}{Q:Exit->Act->World->Prop}{n:Nat}{σ:Sg}{wc:World}{L:List Oper}{S:World->Prop}{i j d:Nat}{ty:TypeId}{pos:String}{af:Array Edge}{g:Option (Nat×Bool)}{ty':TypeId}{pos':String}{af':Array Edge}{g':Option (Nat×Bool)}{t e:TypeId}{x ix y:Operand}
variable {α:Type}[Rep α]{F:Nat->Prop}
theorem cH{v u:Value}{B:Nat}{xs:List α}{yv:α}{k:Nat}{kd:IntKind}
  (ho1:Cm L i=some ⟨some d,.indexAddr t x ix,ty,pos,af,g⟩) (ho2:Cm L j=some ⟨none,.store e (.tmp d) y,ty',pos',af',g'⟩)
  (E:gd L σ ⟨some d,.indexAddr t x ix,ty,pos,af,g⟩=some true) (hd:Nat.ble (d+1) n=true)
  (z:ev σ x=some v) (hi:ev σ ix=some (.int kd (k:Int))) [I:IsS P t e] [H:IsT P e α] (c:Own wc B e F v xs) (h1:k<xs.length)
  (m:∀p,gd L ((d,.pointer p)::σ) ⟨none,.store e (.tmp d) y,ty',pos',af',g'⟩=some true) (s:∀p,ev ((d,.pointer p)::σ) y=some u) (A:Rd wc F u yv)
  (h:∀w' p,Own w' B e F v (xs.set k yv)->wc.grownBy w' v.ownBlock->EX Q .normal n ((d,.pointer p)::σ) w'):
  HL P L S (eu P L Q j) [(i,true)] n σ wc:=by
 rcases c with⟨rfl,rfl⟩|⟨b,off,cap,cur,rfl,D⟩
 ·simp at h1
 ·refine cm (α:=α) ho1 E hd z hi SM SM ?_
  obtain⟨w',C,f,l⟩:=Gq (P:=P) (v:=u) (i:=k) D h1 A;refine HL.nil (bB ho2 ?_);refine fY (m _) (fun a q=>?_) (WL.nil (bC (h w' _ f l)));have r:=q.ev (x:=.tmp d) rK;have G:=q.ev (s _);simp only[Nt]at r
  simp[execOp,r,G,Instr.storeAt,Instr.sureAddr,C]
end
section
variable {P:Program}{Q:Exit->Act->World->Prop}{n:Nat}{σ:Sg}{w wc:World}{L:List Oper}{S:World->Prop}{ord:List (Nat×Bool)}{i d:Nat}{ty:TypeId}{pos:String}{af:Array Edge}{g:Option (Nat×Bool)}{t e:TypeId}{x:Operand}{b o:Nat}{cells:List Value}
theorem cz{v:Value}(u:∀k,S k->k.heap[b]?=w.heap[b]?)(p:Cm L i=some ⟨some d,.load t x,ty,pos,af,g⟩)(q:gd L σ ⟨some d,.load t x,ty,pos,af,g⟩=some true)(hd:Nat.ble (d+1) n=true)(l:ev σ x=some (.pointer (some ⟨b,o,none⟩)))[z:IsC P t 1 false](r:Blk w b e cells)(m:Cq cells o=some v)
  (h:HL P L S Q ord n ((d,v)::σ) wc):HL P L S Q ((i,true)::ord) n σ wc:=by
 refine HL.run p q hd (fun a s w' c=>?_) h;have f:Blk w' b e cells:=(u w' c).trans r;simp[execOp,s.ev l,F9 (P:=P) (t:=t) w' f m]
end
def cu{n:Nat}{σ:Sg}{wc:World}{i d:Nat}{ty:TypeId}{g:Option (Nat×Bool)}{e:TypeId}{x:Operand}{b o:Nat}{vs:List Value}{k:Nat}
  (A:∀l,S l->l.heap[b]?=w.heap[b]?) (q:Cm L i=some ⟨some d,.load t x,ty,G,j,g⟩) (s:gd L σ ⟨some d,.load t x,ty,G,j,g⟩=some true) (hd:Nat.ble (d+1) n=true) (m:ev σ x=some (.pointer (some ⟨b,o,none⟩))) [C:IsC P t k true] (y:Blk w b e r) (p:GM r o k=some vs)
  (h:HL P L S Q u n ((d,.agg vs.toArray)::σ) wc):HL P L S Q ((i,true)::u) n σ wc:=by
 refine HL.run q s hd (fun a z w' c=>?_) h;have f:Blk w' b e r:=(A w' c).trans y;simp[execOp,z.ev m,F_ (P:=P) (t:=t) w' f p]
def Nw(w w':World):Nat->Prop:=fun b=>w.heap.size<=b/\b<w'.heap.size
def Rd.kept[Rep α]{w':World}{x:α}{row:Option Nat}(h:Rd w F v x)(c:w.grownBy w' row)(hF:∀b,F b->b<w.heap.size/\some b≠row):Rd w' F v x:=
 h.mono (fun b a=>c.block b (hF b a).1 (hF b a).2) fun _ h=>h
def Rd.up0[Rep α]{w':World}{x:α}(h:Rd w F v x)(c:Ext w w')(hF:∀b,F b->b<w.heap.size):Rd w' F v x:=h.mono (fun b a=>c.block b (hF b a)) fun _ h=>h
def Rd.wk[Rep α]{F':Nat->Prop}{x:α}(h:Rd w F v x)(hF:∀b,F b->F' b):Rd w F' v x:=h.mono S8 hF
def SO(r:Nat)(w:World):World->Prop:=fun x=>w.heap.size<=x.heap.size/\∀b,b≠r->b<w.heap.size->x.heap[b]?=w.heap[b]?
def SO.refl(r:Nat)(w:World):SO r w w:=⟨Qj _,fun _ _ _=>rfl⟩
def SO.ext{r:Nat}{x y:World}(h:SO r w x)(a:Ext x y):SO r w y:=⟨Qk h.1 a.size,fun b h1 h2=>(a.block b (Qn h2 h.1)).trans (h.2 b h1 h2)⟩
def SO.st{r:Nat}{x y:World}(h:SO r w x)(a:x.grownBy y (some r)):SO r w y:=⟨Qk h.1 a.size,fun b h1 h2=>(a.block b (Qn h2 h.1) (fun e=>h1 (by cases e;rfl))).trans (h.2 b h1 h2)⟩
section
variable {α:Type}[Rep α]
def Grow(B:Nat)(e:TypeId)(w:World)(v:Value)(xs:List α):Prop:=∃F,(∀b,F b->B<=b/\b<w.heap.size)/\Own w B e F v xs
variable {B:Nat}{e:TypeId}{w w':World}{v:Value}{xs:List α}
theorem Grow.nil:Grow B e w (.slice none 0 0) ([]:List α):=⟨di,fun _ h=>h.elim,Own.nil⟩
theorem Grow.ext(h:Grow B e w v xs)(c:Ext w w'):Grow B e w' v xs:=by
 obtain⟨F,h1,h2⟩:=h;exact⟨F,fun b a=>⟨(h1 b a).1,Qn (h1 b a).2 c.size⟩,h2.ext c fun b a=>(h1 b a).2⟩
theorem Grow.kept{r:Nat}(h:Grow B e w v xs)(d:w.grownBy w' (some r))(f:r<B):Grow B e w' v xs:=by
 obtain⟨F,h1,h2⟩:=h;refine⟨F,fun b a=>⟨(h1 b a).1,Qn (h1 b a).2 d.size⟩,h2.kept d (fun g c e=>?_) (fun b a=>⟨(h1 b a).2,fun e=>?_⟩)⟩
 ·have:=(h2.lt g c).1;cases e;omega
 ·have:=(h1 b a).1;cases e;omega
theorem Grow.lt(h:Grow B e w v xs):∀g,v.ownBlock=some g->B<=g/\g<w.heap.size:=by
 obtain⟨F,h1,h2⟩:=h;exact fun g a=>⟨(h2.lt g a).1,(h2.lt g a).2.1⟩
theorem Grow.sl(h:Grow B e w v xs):∃ao cap,v=.slice ao xs.length cap/\Sl w (fun b=>B<=b/\b<w.heap.size) ao cap xs:=by
 obtain⟨F,h1,h2⟩:=h;exact h2.slF (fun b c=>h1 b c) (fun g a=>⟨(h2.lt g a).1,(h2.lt g a).2.1⟩)
theorem Grow.open(h:Grow B e w v xs){Fu:Nat->Prop}(c:∀b,Fu b->B<=b/\b<w.heap.size)(hn:∀g,v.ownBlock=some g->¬Fu g):∃F,(∀b,F b->B<=b/\b<w.heap.size)/\Own w B e F v xs/\(∀b,Fu b->F b):=by
 obtain⟨F,h1,h2⟩:=h;refine⟨fun b=>F b\/Fu b,fun b a=>a.elim (h1 b) (c b),h2.wk (fun b a=>.inl a) (fun g d a=>?_),fun b a=>.inr a⟩;exact a.elim (h2.lt g d).2.2 (hn g d)
end
def Ey(w:World)(hF:∀b,F b->b<w.heap.size)(k:Int){t j:Ltl}(h:Rd w F v t)(H:Rd w F o j):Rt UA 241 [Te k,v,o].toArray w fun v w'=>Rd w' (dr F w w') v (.mk k 0 [t,j]:Ltl)/\Ext w w':=by
 obtain⟨ao,cap,rfl,R⟩:=Rd.ltl h;obtain⟨ao',cap',rfl,O⟩:=Rd.ltl H;refine dW Tryz.func241 Tryz.ntmps241 rfl rfl ?_;refine T9 ?_;refine eJ fun w0 i A=>?_
 refine eJ fun J d c=>?_
 have i:=i.ext c;have c:=A.trans c;refine eF (fun n E m=>?_);have i:=i.ext m;have Q:=d.ext m;have a:=c.trans m;refine TN ?_;have N:Rd n F (AR t.k t.n ao t.kids.length cap) t:=Rd.mono h (fun b d=>a.block b (hF b d)) S3;have u:Rd n F (AR j.k j.n ao' j.kids.length cap') j:=Rd.mono H (fun b d=>a.block b (hF b d)) S3;have q:w.heap.size<=n.heap.size:=a.size;have M:=E.lt;have K:w.heap.size<=J.heap.size:=c.size;refine WL.lit (F:=F) (ys:=[t,j]) rfl rfl rfl rfl rfl (.cons N (.cons u .nil)) (by show 2*3<=16777216;decide) (fun b d=>Qn (hF b d) q) (fun I G x=>?_);have l:Ext n I:=(Ext.refl n).grown x Ta S5;have s:=E.ext l;have f:=a.trans l;refine eK ?_;refine f_ s (fun C r p=>?_);have z:Ext w C:=f.grown p f.size (fun g y=>by cases y;exact c.size);have ho4:=G.kept p (fun g y=>by have:=(G.lt g y).1;simp;omega) (fun b d=>⟨Qn (hF b d) f.size,by have:b<w.heap.size:=hF b d;simp;omega⟩);obtain⟨uo,uc,P,L⟩:=(ho4.rd.mono (F':=dr F w C) S8 (fun b d=>d.elim .inl fun D=>.inr ⟨Qk a.size (ho4.lt b D).1,(ho4.lt b D).2.1⟩)).sl;obtain⟨rfl,_,rfl⟩:=RS P;refine Tm ?_;exact bp rfl rfl r rfl ⟨Rd.mkLtl (kids:=[t,j]) L,z⟩
def Ex(w:World)(F:Nat->Prop)(k:Int):Rt UA 242 [Te k].toArray w fun v w'=>Rd w' F v (.mk k 0 []:Ltl)/\Ext w w':=by
 refine dU Tryz.func242 Tryz.ntmps242 rfl rfl ?_;refine T9 ?_;refine eF (fun h g d=>?_);refine T2 ?_;refine eK ?_;refine f_ g (fun f b a=>?_);have c:Ext w f:=d.grown a d.size SZ;refine Tm ?_;exact bp rfl rfl b rfl ⟨Rd.mkLtl (kids:=[]) ⟨by simp,by simp[maxLen],fun _=>rfl,fun i hi=>absurd hi SQ⟩,c⟩
abbrev GL(B:Nat)(w:World)(v:Value)(t:Ltl):Prop:=Rd w (fun b=>B<=b/\b<w.heap.size) v t
def GL.ext{w':World}{t:Ltl}(h:GL B w v t)(c:Ext w w'):GL B w' v t:=(Rd.up0 h c (fun b a=>a.2)).wk (fun b a=>⟨a.1,Qn a.2 c.size⟩)
def GL.st{r:Nat}{w':World}{t:Ltl}(h:GL B w v t)(c:w.grownBy w' (some r))(d:r<B):GL B w' v t:=
 (Rd.kept h c (fun b a=>⟨a.2,fun e=>by have:=QV e;have:=a.1;omega⟩)).wk (fun b a=>⟨a.1,Qn a.2 c.size⟩)
def GL.low{B':Nat}{t:Ltl}(h:GL B w v t)(c:B'<=B):GL B' w v t:=Rd.wk h (fun b a=>⟨Qk c a.1,a.2⟩)
def GL.plus{w':World}(d:B<=w.heap.size)(c:Ext w w'):∀b,dr (fun b=>B<=b/\b<w.heap.size) w w' b->B<=b/\b<w'.heap.size:=fun b a=>by
 have:=c.size;rcases a with a|a
 ·exact⟨a.1,by omega⟩
 ·exact⟨by omega,a.2⟩
def GL.old{t:Ltl}(h:GL B w v t):Rd w (dl w) v t:=Rd.wk h (fun b a=>a.2)
def qQ{g d c f:World}{t:Ltl}(i:Rd c (dr F d c) v t)(h:c.grownBy f (some g.heap.size))(hF:∀b,F b->b<w.heap.size)(h1:w.heap.size<=g.heap.size)(h2:g.heap.size<d.heap.size)(h3:w.heap.size<=d.heap.size)(h4:d.heap.size<=c.heap.size):
  Rd f (dr F w f) v t:=by
 refine(i.kept h (fun b a=>⟨?_,fun e=>?_⟩)).wk (fun b a=>?_)
 ·rcases a with a|a
  ·have:=hF b a;omega
  ·exact a.2
 ·have:=QV e
  rcases a with a|a
  ·have:=hF b a;omega
  ·have:=a.1;omega
 ·rcases a with a|a
  ·exact .inl a
  ·exact .inr ⟨by have:=a.1;omega,Qn a.2 h.size⟩
def Fv{w':World}{r:Nat}(h:Ext w w'){b:World}(a:w'.grownBy b (some r))(c:w.heap.size<=r):Ext w b:=h.grown a h.size (fun g a=>by cases a;exact c)
def nW(w:World)(hF:∀b,F b->b<w.heap.size)(k:Int){t:Ltl}(h:Rd w F v t):Rt UA 167 [Te k,v].toArray w fun v w'=>Rd w' (dr F w w') v (.mk k 0 [t]:Ltl)/\Ext w w':=by
 obtain⟨ao,cap,rfl,I⟩:=Rd.ltl h;refine dV Tryz.func167 Tryz.ntmps167 rfl rfl ?_;refine T9 ?_;refine eJ fun A d f=>?_
 refine eF (fun l x j=>?_);have H:=d.ext j;have a:=f.trans j;refine TN ?_;have E:Rd l F (AR t.k t.n ao t.kids.length cap) t:=Rd.mono h (fun b d=>a.block b (hF b d)) S3;have m:w.heap.size<=l.heap.size:=a.size;have D:=x.lt;have B:w.heap.size<=A.heap.size:=f.size;refine WL.lit (F:=F) (ys:=[t]) rfl rfl rfl rfl rfl (.cons E .nil) (by show 1*3<=16777216;decide) (fun b d=>Qn (hF b d) m) (fun z y p=>?_);have e:Ext l z:=(Ext.refl l).grown p Ta S5;have o:=x.ext e;have c:=a.trans e;refine eK ?_;refine f_ o (fun s n i=>?_);have r:Ext w s:=c.grown i c.size (fun g q=>by cases q;exact f.size);have ho4:=y.kept i (fun g q=>by have:=(y.lt g q).1;simp;omega) (fun b d=>⟨Qn (hF b d) c.size,by have:b<w.heap.size:=hF b d;simp;omega⟩);obtain⟨uo,uc,G,C⟩:=(ho4.rd.mono (F':=dr F w s) S8 (fun b d=>d.elim .inl fun u=>.inr ⟨Qk a.size (ho4.lt b u).1,(ho4.lt b u).2.1⟩)).sl;obtain⟨rfl,_,rfl⟩:=RS G;refine Tm ?_;exact bp rfl rfl n rfl ⟨Rd.mkLtl (kids:=[t]) C,r⟩
def n_(w:World)(hF:∀b,F b->b<w.heap.size)(k:Int){t i:Ltl}(h:Rd w F v t)(E:Rd w F o i):Rt UA 233 [Te k,v,o].toArray w fun v w'=>Rd w' (dr F w w') v (.mk k 0 [t,i]:Ltl)/\Ext w w':=by
 obtain⟨ao,cap,rfl,P⟩:=Rd.ltl h;obtain⟨ao',cap',rfl,M⟩:=Rd.ltl E;refine dW Tryz.func233 Tryz.ntmps233 rfl rfl ?_;refine T9 ?_;refine eJ fun w0 f z=>?_
 refine eJ fun H d c=>?_
 have f:=f.ext c;have c:=z.trans c;refine eF (fun m C l=>?_);have f:=f.ext l;have O:=d.ext l;have a:=c.trans l;refine TN ?_;have L:Rd m F (AR t.k t.n ao t.kids.length cap) t:=Rd.mono h (fun b d=>a.block b (hF b d)) S3;have s:Rd m F (AR i.k i.n ao' i.kids.length cap') i:=Rd.mono E (fun b d=>a.block b (hF b d)) S3;have p:w.heap.size<=m.heap.size:=a.size;have K:=C.lt;have I:w.heap.size<=H.heap.size:=c.size;refine WL.lit (F:=F) (ys:=[t,i]) rfl rfl rfl rfl rfl (.cons L (.cons s .nil)) (by show 2*3<=16777216;decide) (fun b d=>Qn (hF b d) p) (fun G D u=>?_);have j:Ext m G:=(Ext.refl m).grown u Ta S5;have r:=C.ext j;have e:=a.trans j;refine eK ?_;refine f_ r (fun A q n=>?_);have y:Ext w A:=e.grown n e.size (fun g x=>by cases x;exact c.size);have ho4:=D.kept n (fun g x=>by have:=(D.lt g x).1;simp;omega) (fun b d=>⟨Qn (hF b d) e.size,by have:b<w.heap.size:=hF b d;simp;omega⟩);obtain⟨uo,uc,N,J⟩:=(ho4.rd.mono (F':=dr F w A) S8 (fun b d=>d.elim .inl fun B=>.inr ⟨Qk a.size (ho4.lt b B).1,(ho4.lt b B).2.1⟩)).sl;obtain⟨rfl,_,rfl⟩:=RS N;refine Tm ?_;exact bp rfl rfl q rfl ⟨Rd.mkLtl (kids:=[t,i]) J,y⟩
def nX(w:World)(c:B<=w.heap.size)(k:Int){t:Ltl}(h:GL B w v t):Rt UA 167 [Te k,v].toArray w fun u w'=>GL B w' u (.mk k 0 [t])/\Ext w w':=
 (nW w (fun b a=>a.2) k h).mono fun u w' h=>⟨h.1.wk (GL.plus c h.2),h.2⟩
def nT(w:World)(hF:∀b,F b->b<w.heap.size){t:Ltl}(h:Rd w F v t):Rt UA 165 [v].toArray w fun u w'=>Rd w' (dr F w w') u (.mk 4 0 [t]:Ltl)/\Ext w w':=by
 obtain⟨ao,cap,rfl,s⟩:=Rd.ltl h;refine dU Tryz.func165 Tryz.ntmps165 rfl rfl ?_;refine T9 ?_;refine eJ fun o f e=>?_
 refine eF (fun n m d=>?_);have f:=f.ext d;have g:=e.trans d;have a:w.heap.size<=o.heap.size:=e.size;have j:=m.lt;refine TN ?_;refine eN (nW n (fun b f=>Qn (hF b f) g.size) 4 (Rd.up0 h g hF)) ?_;rintro u r ⟨l,k⟩
 obtain⟨uo,uc,rfl,p⟩:=Rd.ltl l;refine f_ (m.ext k) (fun q i c=>?_);refine Tm ?_;exact bp rfl rfl i rfl ⟨qQ l c hF a j g.size k.size,Fv (g.trans k) c a⟩
def nU(w:World)(c:B<=w.heap.size){t:Ltl}(h:GL B w v t):Rt UA 165 [v].toArray w fun u w'=>GL B w' u (.mk 4 0 [t])/\Ext w w':=
 (nT w (fun b a=>a.2) h).mono fun u w' h=>⟨h.1.wk (GL.plus c h.2),h.2⟩
def nN(w:World)(hF:∀b,F b->b<w.heap.size){t:Ltl}(h:Rd w F v t):Rt UA 169 [v].toArray w fun u w'=>Rd w' (dr F w w') u (.mk 11 0 [t]:Ltl)/\Ext w w':=by
 obtain⟨ao,cap,rfl,s⟩:=Rd.ltl h;refine dU Tryz.func169 Tryz.ntmps169 rfl rfl ?_;refine T9 ?_;refine eJ fun o f e=>?_
 refine eF (fun n m d=>?_);have f:=f.ext d;have g:=e.trans d;have a:w.heap.size<=o.heap.size:=e.size;have j:=m.lt;refine TN ?_;refine eN (nW n (fun b f=>Qn (hF b f) g.size) 11 (Rd.up0 h g hF)) ?_;rintro u r ⟨l,k⟩
 obtain⟨uo,uc,rfl,p⟩:=Rd.ltl l;refine f_ (m.ext k) (fun q i c=>?_);refine Tm ?_;exact bp rfl rfl i rfl ⟨qQ l c hF a j g.size k.size,Fv (g.trans k) c a⟩
def nP(w:World)(c:B<=w.heap.size){t:Ltl}(h:GL B w v t):Rt UA 169 [v].toArray w fun u w'=>GL B w' u (.mk 11 0 [t])/\Ext w w':=
 (nN w (fun b a=>a.2) h).mono fun u w' h=>⟨h.1.wk (GL.plus c h.2),h.2⟩
def nQ(w:World)(hF:∀b,F b->b<w.heap.size){t n:Ltl}(h:Rd w F v t)(r:Rd w F o n):Rt UA 171 [v,o].toArray w fun u w'=>Rd w' (dr F w w') u (.mk 5 0 [t,n]:Ltl)/\Ext w w':=by
 obtain⟨ao,cap,rfl,C⟩:=Rd.ltl h;obtain⟨ao',cap',rfl,z⟩:=Rd.ltl r;refine dV Tryz.func171 Tryz.ntmps171 rfl rfl ?_;refine T9 ?_;refine eJ fun w0 c l=>?_
 refine eJ fun x i a=>?_
 have c:=c.ext a;have a:=l.trans a;refine eF (fun s q d=>?_);have c:=c.ext d;have i:=i.ext d;have g:=a.trans d;have e:w.heap.size<=x.heap.size:=a.size;have k:=q.lt;refine TN ?_;refine eN (n_ s (F:=F) (fun b i=>Qn (hF b i) g.size) 5 (Rd.up0 h g hF) (Rd.up0 r g hF)) ?_;rintro u B ⟨p,m⟩
 obtain⟨uo,uc,rfl,y⟩:=Rd.ltl p;refine f_ (q.ext m) (fun A j f=>?_);refine Tm ?_;exact bp rfl rfl j rfl ⟨qQ p f hF e k g.size m.size,Fv (g.trans m) f e⟩
def nR(w:World)(d:B<=w.heap.size){t a:Ltl}(h:GL B w v t)(e:GL B w o a):Rt UA 171 [v,o].toArray w fun u w'=>GL B w' u (.mk 5 0 [t,a])/\Ext w w':=
 (nQ w (F:=fun b=>B<=b/\b<w.heap.size) (fun b c=>c.2) h e).mono fun u w' h=>⟨h.1.wk (GL.plus d h.2),h.2⟩
def nY(w:World)(hF:∀b,F b->b<w.heap.size){t n:Ltl}(h:Rd w F v t)(r:Rd w F o n):Rt UA 166 [v,o].toArray w fun u w'=>Rd w' (dr F w w') u (.mk 6 0 [t,n]:Ltl)/\Ext w w':=by
 obtain⟨ao,cap,rfl,C⟩:=Rd.ltl h;obtain⟨ao',cap',rfl,z⟩:=Rd.ltl r;refine dV Tryz.func166 Tryz.ntmps166 rfl rfl ?_;refine T9 ?_;refine eJ fun w0 c l=>?_
 refine eJ fun x i a=>?_
 have c:=c.ext a;have a:=l.trans a;refine eF (fun s q d=>?_);have c:=c.ext d;have i:=i.ext d;have g:=a.trans d;have e:w.heap.size<=x.heap.size:=a.size;have k:=q.lt;refine TN ?_;refine eN (n_ s (F:=F) (fun b i=>Qn (hF b i) g.size) 6 (Rd.up0 h g hF) (Rd.up0 r g hF)) ?_;rintro u B ⟨p,m⟩
 obtain⟨uo,uc,rfl,y⟩:=Rd.ltl p;refine f_ (q.ext m) (fun A j f=>?_);refine Tm ?_;exact bp rfl rfl j rfl ⟨qQ p f hF e k g.size m.size,Fv (g.trans m) f e⟩
def nZ(w:World)(d:B<=w.heap.size){t a:Ltl}(h:GL B w v t)(e:GL B w o a):Rt UA 166 [v,o].toArray w fun u w'=>GL B w' u (.mk 6 0 [t,a])/\Ext w w':=
 (nY w (F:=fun b=>B<=b/\b<w.heap.size) (fun b c=>c.2) h e).mono fun u w' h=>⟨h.1.wk (GL.plus d h.2),h.2⟩
def od(w:World)(hF:∀b,F b->b<w.heap.size){t n:Ltl}(h:Rd w F v t)(r:Rd w F o n):Rt UA 170 [v,o].toArray w fun u w'=>Rd w' (dr F w w') u (.mk 8 0 [t,n]:Ltl)/\Ext w w':=by
 obtain⟨ao,cap,rfl,C⟩:=Rd.ltl h;obtain⟨ao',cap',rfl,z⟩:=Rd.ltl r;refine dV Tryz.func170 Tryz.ntmps170 rfl rfl ?_;refine T9 ?_;refine eJ fun w0 c l=>?_
 refine eJ fun x i a=>?_
 have c:=c.ext a;have a:=l.trans a;refine eF (fun s q d=>?_);have c:=c.ext d;have i:=i.ext d;have g:=a.trans d;have e:w.heap.size<=x.heap.size:=a.size;have k:=q.lt;refine TN ?_;refine eN (n_ s (F:=F) (fun b i=>Qn (hF b i) g.size) 8 (Rd.up0 h g hF) (Rd.up0 r g hF)) ?_;rintro u B ⟨p,m⟩
 obtain⟨uo,uc,rfl,y⟩:=Rd.ltl p;refine f_ (q.ext m) (fun A j f=>?_);refine Tm ?_;exact bp rfl rfl j rfl ⟨qQ p f hF e k g.size m.size,Fv (g.trans m) f e⟩
def og(w:World)(d:B<=w.heap.size){t a:Ltl}(h:GL B w v t)(e:GL B w o a):Rt UA 170 [v,o].toArray w fun u w'=>GL B w' u (.mk 8 0 [t,a])/\Ext w w':=
 (od w (F:=fun b=>B<=b/\b<w.heap.size) (fun b c=>c.2) h e).mono fun u w' h=>⟨h.1.wk (GL.plus d h.2),h.2⟩
abbrev bW(w:World)(t:Ltl):Value->World->Prop:=fun v w'=>GL w.heap.size w' v t/\Ext w w'
def Rt.low{f:FuncId}{t:Ltl}(h:Rt P f M w (bW w t))(a:B<=w.heap.size):Rt P f M w fun v w'=>GL B w' v t/\Ext w w':=h.mono fun v w' h=>⟨h.1.low a,h.2⟩
def FnV.low{fv:Value}{t:Ltl}(h:FnV P fv r w (bW w t))(a:B<=w.heap.size):FnV P fv r w fun v w'=>GL B w' v t/\Ext w w':=h.mono fun v w' h=>⟨h.1.low a,h.2⟩

section
variable {w w':World}{F:Nat->Prop}{b:Nat}{pt:cQ}{so:Option Addr}{sc:Nat}{lo:Option Addr}{lc:Nat}{s l:List Nat}{e:Nat}
end
section
variable {w w':World}{F:Nat->Prop}{b:Nat}{pt:cQ}{so:Option Addr}{sc:Nat}{lo:Option Addr}{lc:Nat}{s l:List Nat}{e:Nat}
abbrev KS:=Nat×Bool×Bool×Bool
end
section
variable {w w':World}{F:Nat->Prop}{b:Nat}{pt:cQ}{so:Option Addr}{sc:Nat}{lo:Option Addr}{lc:Nat}{s l:List Nat}{e:Nat}
end

section
variable {k p S q r c:Int}{s l:List Nat}
end
abbrev An(n:Int):Ltl:=.mk 3 n []
abbrev Cj(a:Ltl):Ltl:=.mk 4 0 [a]
abbrev hZ(a b:Ltl):Ltl:=.mk 5 0 [a,b]
abbrev C8(a b:Ltl):Ltl:=.mk 6 0 [a,b]
abbrev KY(a b:Ltl):Ltl:=.mk 8 0 [a,b]
abbrev hY(a:Ltl):Ltl:=.mk 11 0 [a]
abbrev qO(a:Ltl):Ltl:=.mk 10 0 [a]
abbrev BM(a:Ltl):Ltl:=.mk 7 0 [a]
def jx(P:Int):Nat->Ltl
 |0=>hY (Cj (An P))
 |n+1=>C8 (KY (Cj (An P)) (hZ (An P) (BM (jx P n)))) (hY (Cj (An P)))
def tF(k P S:Int)(n:Nat):Ltl:=
 if k=2 then hY (An P)
 else if k=3 then qO (An P)
 else if k=5 then C8 (KY (Cj (An P)) (An S)) (hY (Cj (An P)))
 else if k=6 then hY (C8 (Cj (An P)) (qO (An S)))
 else if k=4 then jx P n
 else hY (Cj (An P))
def LH(weak:Bool)(a b:Ltl):Ltl:=if weak=true then C8 (KY a b) (hY a)else KY a b
def jy(P R:Int)(weak:Bool):Nat->Ltl
 |0=>LH weak (Cj (An P)) (An R)
 |n+1=>LH weak (Cj (An P)) (C8 (An R) (hZ (hZ (An P) (Cj (An R))) (BM (jy P R weak n))))
def K5(k P S R:Int)(n:Nat)(weak:Bool):Ltl:=
 if k=2 then LH weak (An P) (An R)
 else if k=3 then KY (Cj (An R)) (hZ (An P) (Cj (An R)))
 else if k=5 then LH weak (Cj (An P)) (C8 (An S) (An R))
 else if k=6 then LH weak (C8 (Cj (An P)) (KY (Cj (An R)) (hZ (An S) (Cj (An R))))) (An R)
 else if k=4 then jy P R weak n
 else LH weak (Cj (An P)) (An R)
def oh(pt:cQ):Ltl:=
 let k:=pt.1
 let P:=pt.2.2.1
 let S:=pt.2.2.2.1
 let Q:=pt.2.2.2.2.1
 let R:=pt.2.2.2.2.2.1
 let c:=pt.2.2.2.2.2.2.toNat
 if pt.2.1=2 then C8 (Cj (qO (An R))) (K5 k P S R c false)
 else if pt.2.1=3 then C8 (hY (Cj (An Q))) (KY (Cj (An Q)) (hZ (An Q) (tF k P S c)))
 else if pt.2.1=4 then hY (C8 (Cj (hZ (hZ (An Q) (Cj (An R))) (qO (An R)))) (K5 k P S R c false))
 else if pt.2.1=5 then hY (C8 (Cj (hZ (An Q) (Cj (An R)))) (K5 k P S R c true))
 else tF k P S c
section
variable {L:Nat->Nat}{i:Nat}
end
inductive ME where
 |kn (i d:Nat) (v:Value)
 |fc (i d:Nat) (Φ:Value->(Nat->Nat)->World->Prop)
def ME.i:ME->Nat|.kn i _ _=>i|.fc i _ _=>i
def ME.d:ME->Nat|.kn _ d _=>d|.fc _ d _=>d
def ME.Φ:ME->Value->(Nat->Nat)->World->Prop|.kn _ _ v=>fun u _ _=>u=v|.fc _ _ Φ=>Φ
def eg(Φ:Value->(Nat->Nat)->World->Prop):Prop:=∀v γ a w w',Φ v γ w->Ext w w'->(∀b,b<w.heap.size->a b=γ b)->Φ v a w'
def ME.ok(m:ME):Prop:=eg m.Φ
def jL(γ:Nat->Nat)(w:World)(i:Nat):Nat->Nat:=fun b=>if b<w.heap.size then γ b else i
abbrev aP:=List ME
def qX:aP->Nat->Option ME
 |[],_=>none
 |m::r,j=>match Nat.beq m.i j with|true=>some m|false=>qX r j
def qY:∀{Γ:aP} {j:Nat} {m:ME},qX Γ j=some m->m∈Γ/\m.i=j
 |[],_,_,h=>by cases h
 |x::r,j,m,h=>by
  unfold qX at h
  split at h
  ·rename_i e
   injection h with h
   subst h;exact⟨by simp,Qc e⟩
  ·obtain⟨h1,h2⟩:=qY h
   exact⟨by simp[h1],h2⟩
def oQ(j:Nat):List Nat->Bool
 |[]=>false
 |x::r=>match Nat.beq x j with|true=>true|false=>oQ j r
def oR{j:Nat}:∀{l:List Nat},oQ j l=true->j∈l
 |[],h=>by cases h
 |x::r,h=>by
  unfold oQ at h
  split at h
  ·rename_i e;rw[Qc e];simp
  ·exact Pl _ (oR h)
def C2:List Edge->List Nat
 |[]=>[]
 |e::r=>match Region.binds .any e with
  |true=>(match oQ e.on (C2 r)with|true=>C2 r|false=>e.on::C2 r)
  |false=>C2 r
def C0(o:Oper):List Nat:=C2 o.after.toList
def C3{j:Nat}:∀{l:List Edge},j∈C2 l->∃e∈l,Region.binds .any e=true/\e.on=j
 |[],h=>by cases h
 |e::r,h=>by
  have up:j∈C2 r->∃a∈e::r,Region.binds .any a=true/\a.on=j:=fun h=>by
   obtain⟨a,h1,h2⟩:=C3 h;exact⟨a,by simp[h1],h2⟩
  unfold C2 at h
  split at h
  ·rename_i b
   split at h
   ·exact up h
   ·rcases Pk.1 h with rfl|h
    ·exact⟨e,by simp,b,rfl⟩
    ·exact up h
  ·exact up h
def C4{o:Oper}{j:Nat}(h:j∈C0 o):∃e∈o.after,Region.binds .any e=true/\e.on=j:=by
 obtain⟨e,h1,h2⟩:=C3 h;exact⟨e,by simpa using h1,h2⟩
def kS(Γ:aP)(σ:Sg):List Nat->Sg
 |[]=>σ
 |j::r=>match qX Γ j with|some (.kn _ d v)=>(d,v)::kS Γ σ r|_=>kS Γ σ r
def BD(Γ:aP)(γ:Nat->Nat)(w:World)(k:Sg->Prop):List Nat->Sg->Prop
 |[],σ=>k σ
 |j::r,σ=>match qX Γ j with
  |some (.kn _ d v)=>BD Γ γ w k r ((d,v)::σ)
  |some (.fc _ d Φ)=>∀v,Φ v γ w->BD Γ γ w k r ((d,v)::σ)
  |none=>BD Γ γ w k r σ
def gF(γ:Nat->Nat)(w:World)(k:Sg->Prop):aP->Sg->Prop
 |[],σ=>k σ
 |.kn _ d v::r,σ=>gF γ w k r ((d,v)::σ)
 |.fc _ d Φ::r,σ=>∀v,Φ v γ w->gF γ w k r ((d,v)::σ)
def rU{n:Nat}{σ:Sg}{a:Act}{d:Nat}(h:Fr n σ a)(c:a.tmps.getD d undef=v):Fr n ((d,v)::σ) a:=by
 refine⟨h.size,h.defers,fun t u b=>?_⟩;by_cases e:d=t
 ·subst e;rw[rK]at b;cases b;exact c
 ·rw[rL e]at b;exact h.slot _ _ b
def zj{Γ:aP}{n:Nat}{σ:Sg}{a:Act}{γ:Nat->Nat}{w:World}(c:Fr n σ a):∀(l:List Nat),(∀j∈l,∀m∈Γ,m.i=j->m.Φ (a.tmps.getD m.d undef) γ w)->Fr n (kS Γ σ l) a
 |[],_=>c
 |j::r,h=>by
  have b:=zj (γ:=γ) (w:=w) c r (fun x e=>h x (by simp[e]));unfold kS;split
  ·rename_i i d v hf
   obtain⟨h1,h2⟩:=qY hf;exact rU b (h j SQ _ h1 h2)
  ·exact b
def BF{Γ:aP}{n:Nat}{a:Act}{γ:Nat->Nat}{w:World}{k:Sg->Prop}:∀(l:List Nat) (σ:Sg),BD Γ γ w k l σ->Fr n σ a->(∀j∈l,∀m∈Γ,m.i=j->m.Φ (a.tmps.getD m.d undef) γ w)->∃τ,Fr n τ a/\k τ
 |[],σ,h,b,_=>⟨σ,b,h⟩
 |j::r,σ,h,b,hΦ=>by
  unfold BD at h
  have c:∀x∈r,∀m∈Γ,m.i=x->m.Φ (a.tmps.getD m.d undef) γ w:=fun x e=>hΦ x (by simp[e])
  split at h
  ·rename_i i d v hf
   obtain⟨h1,h2⟩:=qY hf;exact BF r _ h (rU b (hΦ j SQ _ h1 h2)) c
  ·rename_i i d Φ hf
   obtain⟨h1,h2⟩:=qY hf;exact BF r _ (h _ (hΦ j SQ _ h1 h2)) (rU b rfl) c
  ·exact BF r _ h b c
def gG{n:Nat}{a:Act}{γ:Nat->Nat}{w:World}{k:Sg->Prop}:∀(Γ:aP) (σ:Sg),gF γ w k Γ σ->Fr n σ a->(∀m∈Γ,m.Φ (a.tmps.getD m.d undef) γ w)->∃τ,Fr n τ a/\k τ
 |[],σ,h,b,_=>⟨σ,b,h⟩
 |.kn i d v::r,σ,h,b,hΦ=>gG r _ h (rU b (hΦ (.kn i d v) SQ)) (fun m c=>hΦ m (by simp[c]))
 |.fc i d Φ::r,σ,h,b,hΦ=>gG r _ (h _ (hΦ (.fc i d Φ) SQ)) (rU b rfl) (fun m c=>hΦ m (by simp[c]))
def ab(γ:Nat->Nat)(w:World)(i d:Nat)(Φ:Value->(Nat->Nat)->World->Prop):Exit->Act->World->Prop:=
 fun x a w'=>x=.normal/\a.defers=[]/\Ext w w'/\Φ (a.tmps.getD d undef) (jL γ w i) w'
def bd{γ:Nat->Nat}{w':World}{n i d:Nat}{σ:Sg}(e:fnd σ d=some v)(f:Ext w w')(hΦ:b v (jL γ w i) w'):EX (ab γ w i d b) .normal n σ w':=by
 unfold EX;intro a c
 exact⟨rfl,c.defers,f,by rw[c.slot _ _ e];exact hΦ⟩
def ML.en{P:Program}{l:List Oper}{γ:Nat->Nat}{n i d:Nat}{σ:Sg}(hR:∀v w',c v w'->b v (jL γ w i) w'/\Ext w w':=by exact fun _ _ h=>h):
  ∀v w',c v w'->WL P l (ab γ w i d b) [] n ((d,v)::σ) w':=
 fun v w' h=>WL.nil (bd rK (hR v w' h).2 (hR v w' h).1)
def OB(P:Program)(L:List Oper)(w0:World)(n:Nat)(σ:Sg)(Γ:aP)(o:Oper)(i d:Nat)(Φ:Value->(Nat->Nat)->World->Prop):Prop:=
 ∀w γ,Ext w0 w->∀a,Fr n σ a->(∀j∈C0 o,∀m∈Γ,m.i=j->m.Φ (a.tmps.getD m.d undef) γ w)->
  (Region.wanted o (yielded L.toArray a.tmps)=true/\o.wp P a w (fun b w'=>Ext w w'/\∃v,b=a.put (some d) v/\Φ v (jL γ w i) w') dh)\/(Region.wanted o (yielded L.toArray a.tmps)=false/\Φ undef (jL γ w i) w)
def ML(P:Program)(L:List Oper)(w0:World)(n:Nat)(σ:Sg)(K:aP->Prop):Nat->aP->List Oper->Prop
 |_,Γ,[]=>K Γ
 |i,Γ,o::r=>∃m:ME,m.i=i/\o.dst=some m.d/\Nat.ble (m.d+1) n=true/\fnd σ m.d=none/\m.ok/\OB P L w0 n σ Γ o i m.d m.Φ/\ML P L w0 n σ K (i+1) (m::Γ) r
def gz{o:Oper}{i d n:Nat}{γ:Nat->Nat}{a:Act}{τ:Sg}(hd:o.dst=some d)(hn:Nat.ble (d+1) n=true)(l:Fr n τ a)(m:Region.wanted o (yielded L.toArray a.tmps)=true)(h:WL P L (ab γ w i d b) [o] n τ w):
  o.wp P a w (fun q w'=>Ext w w'/\∃v,q=a.put (some d) v/\b v (jL γ w i) w') dh:=by
 unfold WL at h
 have h2:=h a l;simp only[wpList,m,Sk]at h2
 have j:d<n:=Qg hn;have c:∀v,(a.put (some d) v).tmps.getD d undef=v:=by
  intro v
  simp[Act.put,Array.getD,l.size,j]
 rcases h2 with h2|⟨_,p⟩
 ·unfold Oper.wp at*
  obtain⟨dst,op,ty,pos,af,g⟩:=o;simp only at hd
  subst hd;generalize (execOp a.eval _).run P w=r at*
  cases r with
  |ok k w'=>
   cases k<;>simp only[Oper.upon]at h2⊢<;>first
    |exact⟨h2.2.2.1,_,rfl,by have:=h2.2.2.2;rw[c]at this;exact this⟩
    |(exfalso;have:=h2.2.1;simp[Act.put]at this;done)
    |(refine Ng h2 (fun x w'' e=>?_)
      cases x
      ·exact⟨e.2.2.1,_,rfl,by have:=e.2.2.2;rw[c]at this;exact this⟩
      ·exact absurd e.1 SQ
      ·obtain⟨_,_,f⟩:=e;exact absurd f.1 SQ)
    |exact Q3 h2 (fun v w'' e=>⟨e.2.2.1,_,rfl,by have:=e.2.2.2;rw[c]at this;exact this⟩)
    |exact h2
  |halt x w'=>cases x<;>simp only[Oper.upon]at h2⊢<;>first|exact h2|exact absurd h2.1 SQ
 ·obtain⟨_,_,f⟩:=p
  exact absurd f.1 SQ
section
variable {P:Program}{L:List Oper}{w0:World}{n:Nat}{σ:Sg}{K:aP->Prop}{i d:Nat}{Γ:aP}{r:List Oper}{op:Op}{ty:TypeId}{pos:String}{af:Array Edge}{g:Option (Nat×Bool)}
theorem c9{v:Value}(j:gd L (kS Γ σ (C2 af.toList)) ⟨some d,op,ty,pos,af,g⟩=some true)(hn:Nat.ble (d+1) n=true)(hf:fnd σ d=none)
  (h:∀γ w,Ext w0 w->WL P L (ab γ w i d (fun u _ _=>u=v)) [⟨some d,op,ty,pos,af,g⟩] n (kS Γ σ (C2 af.toList)) w) (f:ML P L w0 n σ K (i+1) (.kn i d v::Γ) r):
  ML P L w0 n σ K i Γ (⟨some d,op,ty,pos,af,g⟩::r):=by
 refine⟨.kn i d v,rfl,rfl,hn,hf,fun u _ _ w w' h _ _=>h,fun w γ e a k hΦ=>.inl ?_,f⟩;have c:Fr n (kS Γ σ (C2 af.toList)) a:=zj k _ hΦ;have b:=sJ c j;exact⟨b,gz rfl hn c b (h γ w e)⟩
theorem c_{v:Value}(h:∀γ w,Ext w0 w->WL P L (ab γ w i d (fun u _ _=>u=v)) [⟨some d,op,ty,pos,af,g⟩] n (kS Γ σ (C2 af.toList)) w)(a:ML P L w0 n σ K (i+1) (.kn i d v::Γ) r)(b:gd L (kS Γ σ (C2 af.toList)) ⟨some d,op,ty,pos,af,g⟩=some true:=by exact rfl)(hn:Nat.ble (d+1) n=true:=by exact rfl)(hf:fnd σ d=none:=by exact rfl):ML P L w0 n σ K i Γ (⟨some d,op,ty,pos,af,g⟩::r):=c9 b hn hf h a
theorem ML.fc(Φ:Value->(Nat->Nat)->World->Prop)(l:gd L (kS Γ σ (C2 af.toList)) ⟨some d,op,ty,pos,af,g⟩=some true)(hn:Nat.ble (d+1) n=true)(hf:fnd σ d=none)(f:eg Φ)
  (h:∀γ w,Ext w0 w->BD Γ γ w (fun τ=>WL P L (ab γ w i d Φ) [⟨some d,op,ty,pos,af,g⟩] n τ w) (C2 af.toList) σ) (j:ML P L w0 n σ K (i+1) (.fc i d Φ::Γ) r):
  ML P L w0 n σ K i Γ (⟨some d,op,ty,pos,af,g⟩::r):=by
 refine⟨.fc i d Φ,rfl,rfl,hn,hf,f,fun w γ e a c hΦ=>.inl ?_,j⟩;have k:Fr n (kS Γ σ (C2 af.toList)) a:=zj c _ hΦ;have b:=sJ k l;obtain⟨τ,hτ,m⟩:=BF _ _ (h γ w e) c hΦ;exact⟨b,gz rfl hn hτ b m⟩
end
def mO(L:List Oper)(i:Nat):Option Nat:=match L[i]? with|some o=>o.dst|none=>none
def mark(L:List Oper):Nat->List Bool->List Bool
 |0,m=>m
 |i+1,m=>match m.getD i false,L[i]? with
  |true,some o=>mark L i ((C0 o).foldl (fun m j=>m.set j true) m)
  |_,_=>mark L i m
def Bv(L:List Oper)(k:Nat):Bool:=
 Region.noSelect L.toArray&&(List.range L.length).all (fun i=>match L[i]? with|some o=>(C0 o).all fun j=>decide (j<i)|none=>false)&&
 (List.range k).all (fun i=>(List.range i).all fun j=>match mO L i,mO L j with|some x,some y=>!(Nat.beq x y)|_,_=>false)&&
 decide (k<=L.length)&&(List.range (L.length -k)).all fun p=>(List.range (k+p)).all fun i=>(mark L (k+p+1) ((List.replicate (k+p+1) false).set (k+p) true)).getD i false
def Bb{L:List Oper}{S:Nat->Prop}(hS:∀i o,S i->L[i]?=some o->∀j∈C0 o,S j):∀(i:Nat) (m:List Bool),(∀x,m.getD x false=true->S x)->∀x,(mark L i m).getD x false=true->S x
 |0,m,h,x,a=>h x a
 |i+1,m,h,x,a=>by
  unfold mark at a
  split at a
  ·rename_i o q p
   refine Bb hS i _ ?_ x a;have c:=hS i o (h i q) p;have key:∀(l:List Nat) (m:List Bool),(∀j∈l,S j)->(∀x,m.getD x false=true->S x)->∀x,(l.foldl (fun m j=>m.set j true) m).getD x false=true->S x:=by
    intro l
    induction l with
    |nil=>intro m _ h x a;exact h x a
    |cons j l k=>
     intro m f h x a
     refine k _ (fun y b=>f y (by simp[b])) (fun y b=>?_) x a;by_cases e:j=y
     ·subst e;exact f _ SQ
     ·refine h y ?_
      simpa[Oi,Ow,e]using b
   exact key _ _ c h
  ·exact Bb hS i _ h x a
structure MG(P:Program)(L:List Oper)(w0:World)(n:Nat)(σ:Sg)(Γ:aP)(i:Nat)(o:Oper):Prop where
 ex:∃m∈Γ,∃Δ:aP,(∀x∈Δ,x∈Γ)/\m.i=i/\o.dst=some m.d/\Nat.ble (m.d+1) n=true/\fnd σ m.d=none/\OB P L w0 n σ Δ o i m.d m.Φ
def da{P:Program}{L:List Oper}{w0:World}{n:Nat}{σ:Sg}{K:aP->Prop}:∀(r:List Oper) (i:Nat) (Γ:aP),ML P L w0 n σ K i Γ r->(∀m∈Γ,m.i<i/\m.ok)->(Γ.map (·.i)).Nodup->
  ∃Γ':aP,K Γ'/\(∀m∈Γ,m∈Γ')/\(∀m∈Γ',m.i<i+r.length/\m.ok)/\(Γ'.map (·.i)).Nodup/\∀j o,r[j]?=some o->MG P L w0 n σ Γ' (i+j) o
 |[],i,Γ,h,hΓ,hd=>⟨Γ,h,fun m h=>h,hΓ,hd,fun j o h=>by simp at h⟩
 |o::r,i,Γ,h,hΓ,hd=>by
  obtain⟨m,h1,h2,h3,h4,p,l,k⟩:=h;obtain⟨Γ',g1,g2,g3,g4,g5⟩:=da r (i+1) (m::Γ) k (fun x a=>by
   rcases Pk.1 a with rfl|a
   ·exact⟨by omega,p⟩
   ·have:=hΓ x a;exact⟨by omega,this.2⟩) (by
   rw[Pd,PC];refine⟨fun f=>?_,hd⟩;obtain⟨x,a,e⟩:=Pr.1 f;have:=(hΓ x a).1;omega)
  refine⟨Γ',g1,fun x a=>g2 x (by simp[a]),fun x a=>by have:=g3 x a;simp only[OU];exact⟨by omega,this.2⟩,g4,fun j c b=>?_⟩;cases j with
  |zero=>
   simp at b
   subst b;exact⟨m,g2 m SQ,Γ,fun x a=>g2 x (by simp[a]),h1,h2,h3,h4,l⟩
  |succ j=>
   have:=g5 j c (by simpa using b);rwa[show i+(j+1)=i+1+j by omega]
def A_{γ:Type}{f:α->γ}{l:List α}(h:(l.map f).Nodup):∀x∈l,∀y∈l,f x=f y->x=y:=fun x b y a=>Ch h x b y a
structure MInv(L:List Oper)(w0:World)(n:Nat)(σ:Sg)(Γ:aP)(k:Nat)(listed:Array Bool)(a:Act)(γ:Nat->Nat)(w:World):Prop where
 size:listed.size=L.length
 fr:Fr n σ a
 ext:Ext w0 w
 facts:∀m∈Γ,listed.getD m.i false=true->m.Φ (a.tmps.getD m.d undef) γ w
 closed:∀i o,listed.getD i false=true->L[i]?=some o->∀j∈C0 o,listed.getD j false=true
 low:∀i,listed.getD i false=true->i<k
def listed_set{l:Array Bool}{i j:Nat}:(l.setIfInBounds i true).getD j false=true↔(j=i/\i<l.size)\/l.getD j false=true:=by
 simp only[MC,MM];by_cases e:i=j
 ·subst e
  by_cases h:i<l.size
  ·simp[h]
  ·simp[h]
 ·rw[Si e]
  constructor
  ·exact fun h=>.inr h
  ·rintro(⟨h,_⟩|h)
   ·exact absurd h.symm e
   ·exact h
def mw{l:Array Bool}{i:Nat}(h:l.getD i true=false):(l.setIfInBounds i true).toList.countP (fun b=>!b)+1=l.toList.countP fun b=>!b:=by
 have hi:i<l.size:=by
  rcases Qo i l.size with a|a
  ·exact a
  ·simp[MC,MF a]at h
 have e:l[i]=false:=by simpa[MC,hi]using h
 have h1:(l.setIfInBounds i true).toList=l.toList.set i true:=by simp
 rw[h1,NR (by simpa using hi)];have h2:l.toList[i]'(by simpa using hi)=false:=by simpa using e
 rw[h2];have:0<l.toList.countP fun b=>!b:=NP.2 ⟨false,h2▸OG _,rfl⟩
 generalize (l.toList.countP fun b=>!b)=c at*
 simp only[M8,M9,Sk,M4,Sh];omega
def MInv.step{w0 w':World}{n k i:Nat}{σ:Sg}{Γ:aP}{a:Act}{γ:Nat->Nat}{m:ME}{o:Oper}(h:MInv L w0 n σ Γ k y a γ w)(H:m∈Γ)(z:m.i=i)(M:L[i]?=some o)(hn:Nat.ble (m.d+1) n=true)
  (hf:fnd σ m.d=none) (D:∀m∈Γ,m.ok) (s:(Γ.map (·.i)).Nodup) (G:∀x∈Γ,x.i≠i->x.d≠m.d) (I:Ext w w') (hΦ:m.Φ v (jL γ w i) w') (p:∀j∈C0 o,y.getD j false=true) (N:i<k):MInv L w0 n σ Γ k (y.setIfInBounds i true) (a.put (some m.d) v) (jL γ w i) w':=by
 have A:m.d<n:=Qg hn;have C:=h.fr.put (d:=some m.d) (v:=v) hn;refine⟨by simpa using h.size,⟨C.size,C.defers,fun t u B=>C.slot t u ?_⟩,h.ext.trans I,fun x l F=>?_,fun j J f c q hq=>?_,fun j f=>?_⟩
 ·show fnd ((m.d,v)::σ) t=some u
  rw[rL (fun e=>by subst e;rw[hf]at B;cases B)];exact B
 ·rcases listed_set.1 F with⟨e,_⟩|F
  ·obtain rfl:x=m:=A_ s x l m H (by show x.i=m.i;rw[e,z])
   have:(a.put (some x.d) v).tmps.getD x.d undef=v:=by simp[Act.put,Array.getD,h.fr.size,A]
   rw[this];exact hΦ
  ·by_cases e:x.i=i
   ·obtain rfl:x=m:=A_ s x l m H (by show x.i=m.i;rw[e,z])
    have:(a.put (some x.d) v).tmps.getD x.d undef=v:=by simp[Act.put,Array.getD,h.fr.size,A]
    rw[this];exact hΦ
   ·have E:=G x l e
    have:(a.put (some m.d) v).tmps.getD x.d undef=a.tmps.getD x.d undef:=by
     simp only[Act.put,MC];rw[MN (fun e=>E e.symm)]
    rw[this];exact D x l _ _ _ _ _ (h.facts x l F) I (fun b O=>Sj O)
 ·rcases listed_set.1 f with⟨e,_⟩|f
  ·subst e
   rw[M]at c
   cases c
   exact listed_set.2 (.inr (p q hq))
  ·exact listed_set.2 (.inr (h.closed j J f c q hq))
 ·rcases listed_set.1 f with⟨e,_⟩|f
  ·omega
  ·exact h.low j f
def Bm{o:Oper}{e:Edge}(a:e∈o.after)(b:Region.binds .any e=true):e.on∈C0 o:=by
 unfold C0;have key:∀l:List Edge,e∈l->e.on∈C2 l:=by
  intro l
  induction l with
  |nil=>intro h;cases h
  |cons x l ih2=>
   intro h
   unfold C2;rcases Pk.1 h with rfl|h
   ·rw[b]
    dsimp only;split
    ·rename_i a;exact oR a
    ·simp
   ·split
    ·split
     ·exact ih2 h
     ·exact Pl _ (ih2 h)
    ·exact ih2 h
 exact key _ (by simpa using a)
def C1{o:Oper}(h:∀e∈o.after,Region.binds .any e=true->y.getD e.on false=true):∀j∈C0 o,y.getD j false=true:=fun j a=>by
 obtain⟨e,h1,h2,rfl⟩:=C4 a;exact h e h1 h2
def tm{l:Array Bool}{i:Nat}(hi:i<l.size):l.getD i true=l.getD i false:=by simp[MC,hi]
def gL{i:Nat}{o:Oper}(c:∀x,x<i->(mark L (i+1) ((List.replicate (i+1) false).set i true)).getD x false=true)(l:L[i]?=some o)(b:∀j∈C0 o,y.getD j false=true)
  (f:∀i o,y.getD i false=true->L[i]?=some o->∀j∈C0 o,y.getD j false=true):∀x,x<i->y.getD x false=true:=fun x a=>by
 have hS:=Bb (L:=L) (S:=fun x=>x=i\/y.getD x false=true) (fun x k a ho2 j h=>by
  rcases a with rfl|a
  ·rw[l]at ho2;cases ho2;exact .inr (b j h)
  ·exact .inr (f x k a ho2 j h)) (i+1) ((List.replicate (i+1) false).set i true) (fun x a=>by
  by_cases e:i=x
  ·exact .inl e.symm
  ·exfalso
   simp[Oi,Ow,e,Ov]at a
   split at a<;>simp at a)
 exact(hS x (c x a)).resolve_left SM
def Jl{P:Program}{L:List Oper}{Q:Exit->Act->World->Prop}{k:Nat}(u:∀p,k<=p->p<L.length->∀x,x<p->(mark L (p+1) ((List.replicate (p+1) false).set p true)).getD x false=true)(c:∀i o,L[i]?=some o->∀j∈C0 o,j<i):
  ∀(fuel p:Nat) (b:Array Bool) (a:Act) (w:World),k<=p->fuel+p=L.length->b.size=L.length->(∀i,b.getD i false=true↔i<p)->wpList P L.toArray (fun x a w=>x=.normal/\Q .normal a w) (L.drop p) a w->
   wpAny P .any L.toArray (fun x a w=>x=.normal/\Q .normal a w) fuel b a w
 |0,p,b,a,w,M,I,s,m,h=>by
  rw[List.drop_of_length_le SM]at h
  refine⟨List.eq_nil_iff_forall_not_mem.2 fun i hi=>?_,h⟩;obtain⟨y,oi,t,_⟩:=Sm.1 hi;have B:i<L.length:=by have:=(MH.1 t).1;simpa using this
  rw[tm SM,(m i).2 SM]at y
  cases y
 |fuel+1,p,b,a,w,M,I,s,m,h=>by
  have l:p<L.length:=by omega
  have F:∀i o,b.getD i false=true->L[i]?=some o->∀j∈C0 o,b.getD j false=true:=fun i o hi D j N=>(m j).2 (by have:=c i o D j N;have:=(m i).1 hi;omega)
  have f:∀i,i∈Region.ready .any L.toArray b->i=p:=fun i hi=>by
   obtain⟨y,oi,t,E⟩:=Sm.1 hi;have q:L[i]?=some oi:=by simpa using t
   have B:i<L.length:=(Oq.1 q).1;rw[tm SM]at y
   have O:¬i<p:=fun v=>by rw[(m i).2 v]at y;cases y
   rcases Qo p i with v|J
   ·have:=gL (u i SM B) q (C1 E) F p v
    exact absurd ((m p).1 this) (Ql _)
   ·omega
  have A:p∈Region.ready .any L.toArray b:=Sm.2 ⟨by
   rw[tm SM];cases G:b.getD p false with
   |false=>rfl
   |true=>exact absurd ((m p).1 G) (Ql _),L[p],by simp[l],fun e R S=>(m _).2 (c p L[p] (On l) _ (Bm R S))⟩
  refine⟨fun H=>(by rw[H]at A;cases A),fun i hi=>?_⟩;obtain rfl:=f i hi;rw[NV l]at h
  simp only[wpList]at h
  have D:L.toArray[i]?=some L[i]:=by simp[l]
  unfold wpOp;simp only[D];have z:∀j,(b.setIfInBounds i true).getD j false=true↔j<i+1:=fun j=>by
   rw[listed_set,m];omega
  split
  ·rename_i C
   rw[Sj C]at h
   exact h.imp (QP fun U w' T=>Jl u c fuel (i+1) _ _ _ SM SM (by simpa using s) z T) id
  ·rename_i C
   rw[Si C]at h
   exact Jl u c fuel (i+1) _ _ _ SM SM (by simpa using s) z h
def Ma{w0:World}{n k:Nat}{σ:Sg}{Γ:aP}(hB:Bv L k=true)(hΓ:∀m∈Γ,m.i<k/\m.ok)(I:(Γ.map (·.i)).Nodup)(hM:∀j o,j<k->L[j]?=some o->MG P L w0 n σ Γ j o)
  (hK:∀γ w',Ext w0 w'->gF γ w' (fun τ=>WL P L (fun x a w=>x=.normal/\Q .normal a w) (L.drop k) n τ w') Γ σ):
  ∀(fuel:Nat) (c:Array Bool) (a:Act) (γ:Nat->Nat) (w:World),MInv L w0 n σ Γ k c a γ w->c.toList.countP (fun b=>!b)=fuel->wpAny P .any L.toArray (fun x a w=>x=.normal/\Q .normal a w) fuel c a w:=by
 simp only[Bv,MZ,R_,NB,Px]at hB
 obtain⟨⟨⟨⟨hs,O⟩,T⟩,hkl⟩,J⟩:=hB;have C:∀p,k<=p->p<L.length->∀x,x<p->(mark L (p+1) ((List.replicate (p+1) false).set p true)).getD x false=true:=fun p h1 h2 x s=>by
  have:=J (p -k) SM x SM;rwa[show k+(p -k)=p by omega]at this
 have t:∀i o,L[i]?=some o->∀j∈C0 o,j<i:=fun i o H j hj=>by
  have h:=O i (Oq.1 H).1;rw[H]at h
  simp only[NB,R_]at h
  exact h j hj
 have hdd:∀x∈Γ,∀m∈Γ,x.i≠m.i->x.d≠m.d:=by
  have S:∀x∈Γ,mO L x.i=some x.d:=fun x s=>by
   have X:=(hΓ x s).1;have F:x.i<L.length:=by omega
   obtain⟨m,q,_,_,e,hd,_⟩:=(hM x.i L[x.i] X (On F)).ex;obtain rfl:m=x:=A_ I m q x s e;unfold mO;rw[On F];exact hd
  have lt:∀x∈Γ,∀m∈Γ,x.i<m.i->x.d≠m.d:=fun x s m q h e=>by
   have h1:=T m.i (hΓ m q).1 x.i h;rw[S x s,S m q,e]at h1
   simp at h1
  intro x s m q B
  rcases Nat.lt_or_gt_of_ne B with h|h
  ·exact lt x s m q h
  ·exact fun e=>lt m q x s h e.symm
 have V:∀(c:Array Bool),c.size=L.length->Region.ready .any L.toArray c=[]->∀i,i<L.length->c.getD i false=true:=by
  intro c hsz hr i
  induction i using Nat.strongRecOn with
  |ind i W=>
   intro hi
   by_cases E:c.getD i false=true
   ·exact E
   ·have:i∈Region.ready .any L.toArray c:=Sm.2 ⟨by
     rw[tm SM];simpa using E,L[i],by simp[hi],fun e he hb=>by
     have D:=t i L[i] (On hi) _ (Bm he hb);exact W _ D SM⟩
    rw[hr]at this;cases this
 intro fuel
 induction fuel with
 |zero=>
  intro c a γ w f hc
  have E:∀i,i<L.length->c.getD i false=true:=fun i hi=>by
   cases s:c.getD i false with
   |true=>rfl
   |false=>
    have:=mw (l:=c) (i:=i) (by rw[tm (by have:=f.size;omega)];exact s);omega
  obtain⟨τ,hτ,hF⟩:=gG Γ σ (hK γ w f.ext) f.fr (fun m q=>f.facts m q (E m.i (by have:=(hΓ m q).1;omega)));have hke:k=L.length:=by
   rcases Qo k L.length with h|h
   ·exact absurd (f.low k (E k h)) (Ql _)
   ·omega
  unfold WL at hF
  exact Jl C t 0 k c a w Ta SM f.size (fun i=>⟨f.low i,fun h=>E i SM⟩) (hF a hτ)
 |succ fuel W=>
  intro c a γ w f hc
  by_cases u:∀i,i<k->c.getD i false=true
  ·
   obtain⟨τ,hτ,hF⟩:=gG Γ σ (hK γ w f.ext) f.fr (fun m q=>f.facts m q (u m.i (hΓ m q).1));unfold WL at hF
   have z:fuel+1+k=L.length:=by
    have D:c.toList=(List.range L.length).map (fun i=>decide (i<k)):=by
     refine N4 (by simpa using f.size) fun i h1 h2=>?_
     simp only[OF,OH,Array.getElem_toList];have h3:c.getD i false=c[i]'(by simpa using h1):=by simp[MC,show i<c.size by simpa using h1]
     by_cases h:i<k
     ·have:=u i h
      rw[h3]at this;rw[this];simp[h]
     ·cases s:c[i]'(by simpa using h1)with
      |false=>simp[h]
      |true=>exact absurd (f.low i (by rw[h3,s])) h
    rw[D]at hc
    have U:∀N,k<=N->((List.range N).map fun i=>decide (i<k)).countP (fun b=>!b)+k=N:=by
     intro N
     induction N with
     |zero=>intro h;simp at h⊢;omega
     |succ N ihN=>
      intro h
      rw[PL,Pb,NL];by_cases hN:k<=N
      ·have:=ihN hN
       have e1:([N].map fun i=>decide (i<k)).countP (fun b=>!b)=1:=by
        simp;omega
       omega
      ·obtain rfl:k=N+1:=by omega
       have h0:((List.range N).map fun i=>decide (i<N+1)).countP (fun b=>!b)=0:=by
        rw[List.countP_eq_zero];intro b hb
        obtain⟨i,hi,rfl⟩:=Pr.1 hb;have:=Px.1 hi;simp;omega
       rw[h0];simp
    have:=U L.length hkl;omega
   exact Jl C t (fuel+1) k c a w Ta z f.size (fun i=>⟨f.low i,u i⟩) (hF a hτ)
  ·refine⟨fun hr=>absurd (fun i hi=>V c f.size hr i SM) u,fun i hi=>?_⟩
   obtain⟨hun,o,H,hed⟩:=Sm.1 hi;have hcs:=mw hun;have y:L[i]?=some o:=by simpa using H
   have hil:i<L.length:=(Oq.1 y).1;have A:=C1 hed;have R:i<k:=by
    rcases Qo i k with h|h
    ·exact h
    ·exact absurd (fun x s=>gL (C i h hil) y A f.closed x SM) u
   unfold wpOp;simp only[H];obtain⟨m,q,Δ,hΔ,M,hd,hn,hf,hob⟩:=(hM i o R y).ex;have G:∀(w':World) (v:Value),Ext w w'->m.Φ v (jL γ w i) w'->wpAny P .any L.toArray (fun x a w=>x=.normal/\Q .normal a w) fuel (c.setIfInBounds i true) (a.put (some m.d) v) w':=fun w' v hE hΦ=>
    W _ _ _ _ (f.step q M y hn hf (fun m q=>(hΓ m q).2) I (fun x s B=>hdd x s m q (by rw[M];exact B)) hE hΦ A R) SM
   rcases hob w γ f.ext a f.fr (fun j hj x s e=>f.facts x (hΔ x s) (by rw[e];exact A j hj))with⟨Z,Y⟩|⟨Z,hΦ⟩
   ·simp only[Z,Sk]
    refine .inl (QP (fun a' w' h'=>?_) (Mr (fun e a w _ hf=>hf.elim) Y));obtain⟨hE,v,rfl,hΦ⟩:=h';exact G w' v hE hΦ
   ·simp only[Z,M4,Sh]
    rw[hd];exact G w undef (Ext.refl w) hΦ
section
variable {P:Program}{Q:Exit->Act->World->Prop}{n:Nat}{σ:Sg}{w:World}{L:List Oper}
def bS(P:Program)(L:List Oper)(Q:Exit->Act->World->Prop)(n:Nat)(σ:Sg)(w:World)(T:List Oper):aP->Prop:=
 fun Γ=>∀γ w',Ext w w'->gF γ w' (fun τ=>WL P L (fun x a w=>x=.normal/\Q .normal a w) T n τ w') Γ σ
theorem aH{id:Nat}(k:Nat)(c:P.follows .mixedOrders=true)(f:Bv L k=true)(h:ML P L (drew w) n σ (bS P L Q n σ (drew w) (L.drop k)) 0 [] (L.take k)):CW P (.region id L.toArray true) Q n σ w:=by
 unfold CW;intro a t
 have p:k<=L.length:=by
  simp only[Bv,MZ,R_]at f
  exact f.1.2
 obtain⟨Γ,g1,_,g3,g4,g5⟩:=da _ _ _ h (fun m c=>by cases c) List.Pairwise.nil;have h1:=Ma (P:=P) (Q:=Q) (w0:=drew w) f (fun m c=>by have:=g3 m c;simp only[O9,QJ]at this;exact⟨by omega,this.2⟩) g4 (fun j o q l=>by
  have:=g5 j o (by rw[Oy q];exact l);rwa[QJ]at this) g1 L.length (Array.replicate L.length false) a (fun _=>0) (drew w) ⟨by simp,t,Ext.refl _,fun m c b=>by
   exfalso;simp[MC,MK]at b;split at b<;>simp at b,fun i o b=>by
   exfalso;simp[MC,MK]at b;split at b<;>simp at b,fun i b=>by
   exfalso;simp[MC,MK]at b;split at b<;>simp at b⟩ (by simp[NQ])
 have h2:(Code.region id L.toArray true).wp P (fun x a w=>x=.normal/\Q .normal a w) a w:=SJ c (by simpa using h1);exact SI h2 (fun e u w' ⟨s,hq⟩=>by subst s;exact hq)
theorem ML.nil{w0:World}{K:aP->Prop}{i:Nat}{Γ:aP}(h:K Γ):ML P L w0 n σ K i Γ []:=h
end
def c8{w0:World}{n:Nat}{σ:Sg}{K:aP->Prop}{i d:Nat}{Γ:aP}{r:List Oper}{op:Op}{ty:TypeId}{g:Option (Nat×Bool)}(X:Ltl)(b:gd L (kS Γ σ (C2 j.toList)) ⟨some d,op,ty,G,j,g⟩=some true)(hn:Nat.ble (d+1) n=true)(hf:fnd σ d=none)
  (h:∀γ w,Ext w0 w->BD Γ γ w (fun τ=>WL P L (ab γ w i d (fun v γ w=>GL B w v X)) [⟨some d,op,ty,G,j,g⟩] n τ w) (C2 j.toList) σ) (a:ML P L w0 n σ K (i+1) (.fc i d (fun v γ w=>GL B w v X)::Γ) r):
  ML P L w0 n σ K i Γ (⟨some d,op,ty,G,j,g⟩::r):=ML.fc _ b hn hf SY h a
instance:IsC UA 268 1 false:=IsC.of SN Tryz.underlying268 rfl
instance:IsZC UA 268 [.nilFunc]:=IsZC.of (z:=.nilFunc) SN rfl
def tE(B:Nat)(w:World)(k:Int):GL B w (AR 3 k none 0 0) (An k):=Rd.mkLtl (kids:=[]) (Sl.zero _ _)
def FE(F:Nat->Prop)(w:World)(k:Int):Rd w F (AR 3 k none 0 0) (An k):=Rd.mkLtl (kids:=[]) (Sl.zero _ _)
def nS(w:World)(k:Int):Rt UA 164 [Te k].toArray w fun v w'=>v=AR 3 k none 0 0/\Ext w w':=by
 refine dU Tryz.func164 Tryz.ntmps164 rfl rfl ?_;refine T9 ?_;refine eF (fun g f d=>?_);refine T2 ?_;refine eK ?_;refine f_ f (fun e b a=>?_);have c:Ext w e:=d.grown a d.size SZ;refine Tm ?_;exact bp rfl rfl b rfl ⟨rfl,c⟩
def FM(B k:Nat)(γ:Nat->Nat)(w:World):Nat->Prop:=fun b=>B<=b/\b<w.heap.size/\γ b<=k
def jM{γ:Nat->Nat}{i:Nat}:jL γ w i w.heap.size=i:=by unfold jL;rw[Si (Ql _)]
def FM.lt{k:Nat}{γ:Nat->Nat}:∀b,FM B k γ w b->b<w.heap.size:=fun b h=>h.2.1
def Ih{k:Nat}{t:Ltl}:eg (fun v γ w=>Rd w (FM B k γ w) v t):=fun v γ c w w' h e hγ=>(Rd.up0 h e FM.lt).wk (fun b a=>⟨a.1,Qn a.2.1 e.size,by rw[hγ b a.2.1];exact a.2.2⟩)
def stA{i:Nat}{e:TypeId}:eg (fun v γ w=>∃b,v=Tg b/\γ b=i/\B<=b/\Blk w b e r):=by
 rintro v γ a w w' ⟨b,h1,h2,h3,h4⟩ e hγ
 exact⟨b,h1,by rw[hγ b h4.lt];exact h2,h3,h4.ext e⟩
def FM.call{f:FuncId}{k i:Nat}{γ:Nat->Nat}{t:Ltl}(hi:i<=k)(c:B<=w.heap.size)(h:Rt P f M w fun v w'=>Rd w' (dr (FM B k γ w) w w') v t/\Ext w w'):
  Rt P f M w fun v w'=>Rd w' (FM B k (jL γ w i) w') v t/\Ext w w':=h.mono fun v w' h=>⟨h.1.wk (fun b a=>by
 have:=h.2.size;rcases a with a|a
 ·exact⟨a.1,by have:=a.2.1;omega,by unfold jL;rw[Sj a.2.1];exact a.2.2⟩
 ·exact⟨by have:=a.1;omega,a.2,by unfold jL;rw[Si (by have:=a.1;omega)];exact hi⟩),h.2⟩
def FM.fresh{f:FuncId}{k i:Nat}{γ:Nat->Nat}{t:Ltl}(hi:i<=k)(c:B<=w.heap.size)(h:Rt P f M w (bW w t)):
  Rt P f M w fun v w'=>Rd w' (FM B k (jL γ w i) w') v t/\Ext w w':=h.mono fun v w' h=>⟨h.1.wk (fun b a=>⟨by have:=a.1;omega,a.2,by unfold jL;rw[Si (by have:=a.1;omega)];exact hi⟩),h.2⟩
def FM.st{k b:Nat}{γ:Nat->Nat}{w':World}{t:Ltl}(h:Rd w (FM B k γ w) v t)(f:k<γ b)(d:w.grownBy w' (some b)):GL B w' v t:=
 (Rd.kept h d (fun c a=>⟨a.2.1,fun e=>by have:=QV e;subst this;have:=a.2.2;omega⟩)).wk (fun c a=>⟨a.1,Qn a.2.1 d.size⟩)
abbrev DL(k sc P S Q R c:Int):List Value:=[.int .i64 k,.int .i64 sc,.int .i64 P,.int .i64 S,.int .i64 Q,.int .i64 R,.int .i64 c]
set_option maxRecDepth 10000 in
def tG(k sc P S Q R c:Int):∀(n:Nat),n<=1000->∀(w:World),Rt UA 172 [.agg (DL k sc P S Q R c).toArray,Te (n:Int)].toArray w (bW w (tF k P S n)):=by
 intro n
 induction n with
 |zero=>
  intro _ w
  refine dV Tryz.func172 Tryz.ntmps172 rfl rfl ?_;refine T9 ?_;refine eJ fun w1 p e1=>?_
  refine eF (fun q d e2=>?_);have p:=p.ext e2;have f:=e1.trans e2;have hlr:=d.lt;have hs1:=e1.size;have a:q.heap.size<=q.heap.size:=Qj _;unfold tF;refine Ty ?_;by_cases h2:k=2
  ·subst h2
   rw[Sj rfl];refine TW ?_;skip;refine eN (nS q P) ?_;rintro _ A ⟨rfl,l⟩
   have p:=p.ext l;have d:=d.ext l;have f:=f.trans l;have a:=Qk a l.size;refine eN (nP A a (tE _ _ _)) ?_;rintro v13 O ⟨N,j⟩
   have p:=p.ext j;have d:=d.ext j;have f:=f.trans j;have a:=Qk a j.size;obtain⟨uo,uc,rfl,s⟩:=Rd.ltl N;skip;refine f_ d (fun z t g=>?_);refine T5 ?_;exact bp rfl rfl t rfl ⟨(N.st g SM).low SM,Fv f g SM⟩
  by_cases h3:k=3
  ·subst h3
   rw[Si SP,Sj rfl];refine TX ?_;skip;refine eN (nS q P) ?_;rintro _ A ⟨rfl,l⟩
   have p:=p.ext l;have d:=d.ext l;have f:=f.trans l;have a:=Qk a l.size;refine eN (nX A a 10 (tE _ _ _)) ?_;rintro v19 O ⟨M,j⟩
   have p:=p.ext j;have d:=d.ext j;have f:=f.trans j;have a:=Qk a j.size;obtain⟨uo,uc,rfl,s⟩:=Rd.ltl M;skip;refine f_ d (fun z t g=>?_);refine T5 ?_;exact bp rfl rfl t rfl ⟨(M.st g SM).low SM,Fv f g SM⟩
  by_cases h5:k=5
  ·subst h5
   rw[Si SP,Si SP,Sj rfl];have ed:=Ext.drew q;have p:=p.ext ed;have d:=d.ext ed;have f:=f.trans ed;have a:q.heap.size<=(drew q).heap.size:=Qk a ed.size;refine T4 ?_;refine aH 14 mixed SN ?_;refine Uw ?_;refine c_ (fun γ w m=>eN (nS w P) ML.en) ?_;refine c8 (B:=q.heap.size) (Cj (An P)) rfl rfl rfl (fun γ w m=>eN (nU w (Qk a m.size) (tE _ _ _)) ML.en) ?_;refine Uw ?_;refine c_ (fun γ w m=>eN (nS w S) ML.en) ?_;refine c8 (B:=q.heap.size) (KY (Cj (An P)) (An S)) rfl rfl rfl (fun γ w m v25 L=>eN (og w (Qk a m.size) L (tE _ _ _)) ML.en) ?_;refine Uw ?_;refine c_ (fun γ w m=>eN (nS w P) ML.en) ?_;refine c8 (B:=q.heap.size) (Cj (An P)) rfl rfl rfl (fun γ w m=>eN (nU w (Qk a m.size) (tE _ _ _)) ML.en) ?_;refine c8 (B:=q.heap.size) (hY (Cj (An P))) rfl rfl rfl (fun γ w m Y J=>eN (nP w (Qk a m.size) J) ML.en) ?_;refine c8 (B:=q.heap.size) (C8 (KY (Cj (An P)) (An S)) (hY (Cj (An P)))) rfl rfl rfl (fun γ w m Z K X I=>eN (nZ w (Qk a m.size) K I) ML.en) ?_;refine ML.nil fun γ w' o v35 H X I Y J Z K v25 L=>?_
   change WL _ _ _ _ _ _ _
   have p:=p.ext o;have d:=d.ext o;have f:=f.trans o;have a:=Qk a o.size;obtain⟨uo,uc,rfl,s⟩:=Rd.ltl H;refine f_ d (fun z t g=>WL.nil (bC ?_));refine Tp ?_;exact bp rfl rfl t rfl ⟨(H.st g SM).low SM,Fv f g SM⟩
  by_cases h6:k=6
  ·subst h6
   rw[Si SP,Si SP,Si SP,Sj rfl];have ed:=Ext.drew q;have p:=p.ext ed;have d:=d.ext ed;have f:=f.trans ed;have a:q.heap.size<=(drew q).heap.size:=Qk a ed.size;refine T4 ?_;refine aH 10 mixed SN ?_;refine Uw ?_;refine c_ (fun γ w m=>eN (nS w P) ML.en) ?_;refine c8 (B:=q.heap.size) (Cj (An P)) rfl rfl rfl (fun γ w m=>eN (nU w (Qk a m.size) (tE _ _ _)) ML.en) ?_;refine Uw ?_;refine c_ (fun γ w m=>eN (nS w S) ML.en) ?_;refine c8 (B:=q.heap.size) (qO (An S)) rfl rfl rfl (fun γ w m=>eN (nX w (Qk a m.size) 10 (tE _ _ _)) ML.en) ?_;refine c8 (B:=q.heap.size) (C8 (Cj (An P)) (qO (An S))) rfl rfl rfl (fun γ w m W G V F=>eN (nZ w (Qk a m.size) G F) ML.en) ?_;refine c8 (B:=q.heap.size) (hY (C8 (Cj (An P)) (qO (An S)))) rfl rfl rfl (fun γ w m U E=>eN (nP w (Qk a m.size) E) ML.en) ?_;refine ML.nil fun γ w' o v47 D U E V F W G=>?_
   change WL _ _ _ _ _ _ _
   have p:=p.ext o;have d:=d.ext o;have f:=f.trans o;have a:=Qk a o.size;obtain⟨uo,uc,rfl,s⟩:=Rd.ltl D;refine f_ d (fun z t g=>WL.nil (bC ?_));refine Tp ?_;exact bp rfl rfl t rfl ⟨(D.st g SM).low SM,Fv f g SM⟩
  rw[Si h2,Si h3,Si h5,Si h6];rw[show(k==2)=false by simpa using h2];refine Tr ?_;rw[show(k==3)=false by simpa using h3];refine Tr ?_;rw[show(k==5)=false by simpa using h5];refine Tr ?_;rw[show(k==6)=false by simpa using h6];refine Tr ?_;by_cases h4:k=4
  ·subst h4
   rw[Sj rfl];refine T_ ?_;unfold jx;skip;skip;refine eN (nS q P) ?_;rintro _ A ⟨rfl,l⟩
   have p:=p.ext l;have d:=d.ext l;have f:=f.trans l;have a:=Qk a l.size;refine eN (nU A a (tE _ _ _)) ?_;rintro v76 O ⟨u,j⟩
   have p:=p.ext j;have d:=d.ext j;have f:=f.trans j;have a:=Qk a j.size;refine eN (nP O a u) ?_;rintro v77 y3 ⟨x,r⟩
   have u:=u.ext r;have p:=p.ext r;have d:=d.ext r;have f:=f.trans r;have a:=Qk a r.size;obtain⟨uo,uc,rfl,s⟩:=Rd.ltl x;skip;refine f_ d (fun z t g=>?_);refine Tm ?_;exact bp rfl rfl t rfl ⟨(x.st g SM).low SM,Fv f g SM⟩
  rw[Si h4];rw[show(k==4)=false by simpa using h4];refine T3 ?_;skip;skip;refine eN (nS q P) ?_;rintro _ A ⟨rfl,l⟩
  have p:=p.ext l;have d:=d.ext l;have f:=f.trans l;have a:=Qk a l.size;refine eN (nU A a (tE _ _ _)) ?_;rintro v76 O ⟨u,j⟩
  have p:=p.ext j;have d:=d.ext j;have f:=f.trans j;have a:=Qk a j.size;refine eN (nP O a u) ?_;rintro v77 y3 ⟨x,r⟩
  have u:=u.ext r;have p:=p.ext r;have d:=d.ext r;have f:=f.trans r;have a:=Qk a r.size;obtain⟨uo,uc,rfl,s⟩:=Rd.ltl x;skip;refine f_ d (fun z t g=>?_);refine Tm ?_;exact bp rfl rfl t rfl ⟨(x.st g SM).low SM,Fv f g SM⟩
 |succ n ih=>
  intro hn w
  have ih:∀w:World,Rt UA 172 [.agg (DL k sc P S Q R c).toArray,Te (((n+1:Nat):Int) -1)].toArray w (bW w (tF k P S n)):=by
   rw[show((n+1:Nat):Int) -1=(n:Int) by omega];exact ih SM
  refine dV Tryz.func172 Tryz.ntmps172 rfl rfl ?_;refine T9 ?_;refine eJ fun w1 p e1=>?_
  refine eF (fun q d e2=>?_);have p:=p.ext e2;have f:=e1.trans e2;have hlr:=d.lt;have hs1:=e1.size;have a:q.heap.size<=q.heap.size:=Qj _;unfold tF;refine Ty ?_;by_cases h2:k=2
  ·subst h2
   rw[Sj rfl];refine TW ?_;skip;refine eN (nS q P) ?_;rintro _ A ⟨rfl,l⟩
   have p:=p.ext l;have d:=d.ext l;have f:=f.trans l;have a:=Qk a l.size;refine eN (nP A a (tE _ _ _)) ?_;rintro v13 O ⟨N,j⟩
   have p:=p.ext j;have d:=d.ext j;have f:=f.trans j;have a:=Qk a j.size;obtain⟨uo,uc,rfl,s⟩:=Rd.ltl N;skip;refine f_ d (fun z t g=>?_);refine T5 ?_;exact bp rfl rfl t rfl ⟨(N.st g SM).low SM,Fv f g SM⟩
  by_cases h3:k=3
  ·subst h3
   rw[Si SP,Sj rfl];refine TX ?_;skip;refine eN (nS q P) ?_;rintro _ A ⟨rfl,l⟩
   have p:=p.ext l;have d:=d.ext l;have f:=f.trans l;have a:=Qk a l.size;refine eN (nX A a 10 (tE _ _ _)) ?_;rintro v19 O ⟨M,j⟩
   have p:=p.ext j;have d:=d.ext j;have f:=f.trans j;have a:=Qk a j.size;obtain⟨uo,uc,rfl,s⟩:=Rd.ltl M;skip;refine f_ d (fun z t g=>?_);refine T5 ?_;exact bp rfl rfl t rfl ⟨(M.st g SM).low SM,Fv f g SM⟩
  by_cases h5:k=5
  ·subst h5
   rw[Si SP,Si SP,Sj rfl];have ed:=Ext.drew q;have p:=p.ext ed;have d:=d.ext ed;have f:=f.trans ed;have a:q.heap.size<=(drew q).heap.size:=Qk a ed.size;refine T4 ?_;refine aH 14 mixed SN ?_;refine Uw ?_;refine c_ (fun γ w m=>eN (nS w P) ML.en) ?_;refine c8 (B:=q.heap.size) (Cj (An P)) rfl rfl rfl (fun γ w m=>eN (nU w (Qk a m.size) (tE _ _ _)) ML.en) ?_;refine Uw ?_;refine c_ (fun γ w m=>eN (nS w S) ML.en) ?_;refine c8 (B:=q.heap.size) (KY (Cj (An P)) (An S)) rfl rfl rfl (fun γ w m v25 L=>eN (og w (Qk a m.size) L (tE _ _ _)) ML.en) ?_;refine Uw ?_;refine c_ (fun γ w m=>eN (nS w P) ML.en) ?_;refine c8 (B:=q.heap.size) (Cj (An P)) rfl rfl rfl (fun γ w m=>eN (nU w (Qk a m.size) (tE _ _ _)) ML.en) ?_;refine c8 (B:=q.heap.size) (hY (Cj (An P))) rfl rfl rfl (fun γ w m Y J=>eN (nP w (Qk a m.size) J) ML.en) ?_;refine c8 (B:=q.heap.size) (C8 (KY (Cj (An P)) (An S)) (hY (Cj (An P)))) rfl rfl rfl (fun γ w m Z K X I=>eN (nZ w (Qk a m.size) K I) ML.en) ?_;refine ML.nil fun γ w' o v35 H X I Y J Z K v25 L=>?_
   change WL _ _ _ _ _ _ _
   have p:=p.ext o;have d:=d.ext o;have f:=f.trans o;have a:=Qk a o.size;obtain⟨uo,uc,rfl,s⟩:=Rd.ltl H;refine f_ d (fun z t g=>WL.nil (bC ?_));refine Tp ?_;exact bp rfl rfl t rfl ⟨(H.st g SM).low SM,Fv f g SM⟩
  by_cases h6:k=6
  ·subst h6
   rw[Si SP,Si SP,Si SP,Sj rfl];have ed:=Ext.drew q;have p:=p.ext ed;have d:=d.ext ed;have f:=f.trans ed;have a:q.heap.size<=(drew q).heap.size:=Qk a ed.size;refine T4 ?_;refine aH 10 mixed SN ?_;refine Uw ?_;refine c_ (fun γ w m=>eN (nS w P) ML.en) ?_;refine c8 (B:=q.heap.size) (Cj (An P)) rfl rfl rfl (fun γ w m=>eN (nU w (Qk a m.size) (tE _ _ _)) ML.en) ?_;refine Uw ?_;refine c_ (fun γ w m=>eN (nS w S) ML.en) ?_;refine c8 (B:=q.heap.size) (qO (An S)) rfl rfl rfl (fun γ w m=>eN (nX w (Qk a m.size) 10 (tE _ _ _)) ML.en) ?_;refine c8 (B:=q.heap.size) (C8 (Cj (An P)) (qO (An S))) rfl rfl rfl (fun γ w m W G V F=>eN (nZ w (Qk a m.size) G F) ML.en) ?_;refine c8 (B:=q.heap.size) (hY (C8 (Cj (An P)) (qO (An S)))) rfl rfl rfl (fun γ w m U E=>eN (nP w (Qk a m.size) E) ML.en) ?_;refine ML.nil fun γ w' o v47 D U E V F W G=>?_
   change WL _ _ _ _ _ _ _
   have p:=p.ext o;have d:=d.ext o;have f:=f.trans o;have a:=Qk a o.size;obtain⟨uo,uc,rfl,s⟩:=Rd.ltl D;refine f_ d (fun z t g=>WL.nil (bC ?_));refine Tp ?_;exact bp rfl rfl t rfl ⟨(D.st g SM).low SM,Fv f g SM⟩
  rw[Si h2,Si h3,Si h5,Si h6];rw[show(k==2)=false by simpa using h2];refine Tr ?_;rw[show(k==3)=false by simpa using h3];refine Tr ?_;rw[show(k==5)=false by simpa using h5];refine Tr ?_;rw[show(k==6)=false by simpa using h6];refine Tr ?_;by_cases h4:k=4
  ·subst h4
   rw[Sj rfl];refine T4 ?_;rw[R9 (show((n+1:Nat):Int)>0 by omega)];refine TZ ?_;have ed:=Ext.drew q;have p:=p.ext ed;have d:=d.ext ed;have f:=f.trans ed;have a:q.heap.size<=(drew q).heap.size:=Qk a ed.size;skip;refine aH 10 mixed SN ?_;refine Uw ?_;refine c_ (fun γ w m=>eN (nS w P) ML.en) ?_;refine Ux ?_;refine ML.fc (fun v γ w=>Rd w (FM q.heap.size 8 γ w) v (tF 4 P S n)) rfl rfl rfl Ih (fun γ w m=>eN (FM.fresh (i:=6) (by omega) (Qk a m.size) ((ih w))) (fun v w' h=>WL.nil (bd rfl h.2 h.1))) ?_;refine ML.fc (fun v γ w=>Rd w (FM q.heap.size 8 γ w) v (BM (tF 4 P S n))) rfl rfl rfl Ih (fun γ w m v58 g58=>eN (FM.call (i:=7) (by omega) (Qk a m.size) (nW w FM.lt 7 g58)) (fun v w' h=>WL.nil (bd rfl h.2 h.1))) ?_;refine ML.fc (fun v γ w=>Rd w (FM q.heap.size 8 γ w) v (hZ (An P) (BM (tF 4 P S n)))) rfl rfl rfl Ih (fun γ w m v59 g59=>eN (FM.call (i:=8) (by omega) (Qk a m.size) (nQ w FM.lt (FE _ _ _) g59)) (fun v w' h=>WL.nil (bd rfl h.2 h.1))) ?_;refine ML.fc (fun v γ w=>∃b,v=Tg b/\γ b=9/\q.heap.size<=b/\Blk w b 32 [Te 0,Te 0,.slice none 0 0]) rfl rfl rfl stA (fun γ w m=>eF (fun w' hb e=>WL.nil (bd rfl e ⟨_,rfl,jM,Qk a m.size,hb⟩))) ?_;refine ML.nil fun γ w' o v5 g5 v60 g60 v59 g59 v58 g58=>?_
   change WL _ _ _ _ _ _ _
   have p:=p.ext o;have d:=d.ext o;have f:=f.trans o;have a:=Qk a o.size;obtain⟨b,rfl,hγ,hBb,y⟩:=g5;obtain⟨uo,uc,rfl,s⟩:=Rd.ltl g60;refine f_ y (fun w3 y C=>WL.nil (bC ?_));have hv:=FM.st g60 (b:=b) (by rw[hγ];decide) C;have hlb:=y.lt;have d:=d.kept C S6;have p:=p.kept C S6;have f:Ext w w3:=f.grown C f.size S2;have a:=Qk a C.size;clear o g58 g59 C g60 s;have ed:=Ext.drew w3;have p:=p.ext ed;have d:=d.ext ed;have y:=y.ext ed;have hv:=hv.ext ed;have f:=f.trans ed;have a:q.heap.size<=(drew w3).heap.size:=Qk a ed.size;refine T7 ?_;refine aH 12 mixed SN ?_;refine Uw ?_;refine c_ (fun γ w m=>eN (nS w P) ML.en) ?_;refine c8 (B:=q.heap.size) (Cj (An P)) rfl rfl rfl (fun γ w m=>eN (nU w (Qk a m.size) (tE _ _ _)) ML.en) ?_;refine Uo ?_;refine c8 (B:=q.heap.size) (KY (Cj (An P)) (hZ (An P) (BM (tF 4 P S n)))) rfl rfl rfl (fun γ w m v64 g64=>eN (og w (Qk a m.size) g64 (hv.ext m)) ML.en) ?_;refine Uw ?_;refine c_ (fun γ w m=>eN (nS w P) ML.en) ?_;refine c8 (B:=q.heap.size) (Cj (An P)) rfl rfl rfl (fun γ w m=>eN (nU w (Qk a m.size) (tE _ _ _)) ML.en) ?_;refine c8 (B:=q.heap.size) (hY (Cj (An P))) rfl rfl rfl (fun γ w m v70 g70=>eN (nP w (Qk a m.size) g70) ML.en) ?_;refine c8 (B:=q.heap.size) (C8 (KY (Cj (An P)) (hZ (An P) (BM (tF 4 P S n)))) (hY (Cj (An P)))) rfl rfl rfl (fun γ w m v66 g66 v71 g71=>eN (nZ w (Qk a m.size) g66 g71) ML.en) ?_;refine ML.nil fun γ w' o v72 g72 v71 g71 v70 g70 v66 g66 v64 g64=>?_
   change WL _ _ _ _ _ _ _
   have p:=p.ext o;have d:=d.ext o;have y:=y.ext o;have hv:=hv.ext o;have f:=f.trans o;have a:=Qk a o.size;obtain⟨uo,uc,rfl,s⟩:=Rd.ltl g72;refine f_ d (fun z t g=>WL.nil (bC ?_));refine Tp ?_;have T:=(g72.st g SM).low (show w.heap.size<=q.heap.size by omega);rw[show tF 4 P S n=jx P n by unfold tF;rw[Si SP,Si SP,Si SP,Si SP,Sj rfl]]at T
   exact bp rfl rfl t rfl ⟨T,Fv f g SM⟩
  rw[Si h4];rw[show(k==4)=false by simpa using h4];refine T3 ?_;skip;skip;refine eN (nS q P) ?_;rintro _ A ⟨rfl,l⟩
  have p:=p.ext l;have d:=d.ext l;have f:=f.trans l;have a:=Qk a l.size;refine eN (nU A a (tE _ _ _)) ?_;rintro v76 O ⟨u,j⟩
  have p:=p.ext j;have d:=d.ext j;have f:=f.trans j;have a:=Qk a j.size;refine eN (nP O a u) ?_;rintro v77 y3 ⟨x,r⟩
  have p:=p.ext r;have d:=d.ext r;have f:=f.trans r;have a:=Qk a r.size;obtain⟨uo,uc,rfl,s⟩:=Rd.ltl x;skip;refine f_ d (fun z t g=>?_);refine Tm ?_;exact bp rfl rfl t rfl ⟨(x.st g SM).low SM,Fv f g SM⟩
def LI(w:World)(weak:Bool){fa fb:Value}{ta tb:Ltl}(t:∀g,Ext w g->FnV UA fa [] g (bW g ta))(C:∀g,Ext w g->FnV UA fb [] g (bW g tb)):
  Rt UA 236 [.bool weak,fa,fb].toArray w (bW w (LH weak ta tb)):=by
 refine dW Tryz.func236 Tryz.ntmps236 rfl rfl ?_;refine T9 ?_;refine eF (fun g c D=>?_);have b:=D;have P:=c.lt;have O:=D.size;have a:g.heap.size<=g.heap.size:=Qj _;unfold LH;refine T2 ?_;cases weak with
 |true=>
  rw[Sj rfl];refine TZ ?_;refine eO (xs:=[]) (vs:=[]) rfl rfl rfl rfl ((t g b).low a) ?_;rintro v9 q ⟨u,f⟩
  have c:=c.ext f;have b:=b.trans f;have a:=Qk a f.size;refine Ue ?_;refine eO (xs:=[]) (vs:=[]) rfl rfl rfl rfl ((C q b).low a) ?_;rintro N p ⟨A,d⟩
  have u:=u.ext d;have c:=c.ext d;have b:=b.trans d;have a:=Qk a d.size;refine eN (og p a u A) ?_;rintro M B ⟨i,e⟩
  have c:=c.ext e;have b:=b.trans e;have a:=Qk a e.size;refine Ue ?_;refine eO (xs:=[]) (vs:=[]) rfl rfl rfl rfl ((t B b).low a) ?_;rintro L F ⟨y,k⟩
  have i:=i.ext k;have c:=c.ext k;have b:=b.trans k;have a:=Qk a k.size;refine eN (nP F a y) ?_;rintro K E ⟨x,j⟩
  have i:=i.ext j;have c:=c.ext j;have b:=b.trans j;have a:=Qk a j.size;refine eN (nZ E a i x) ?_;rintro J Q ⟨o,m⟩
  have c:=c.ext m;have b:=b.trans m;have a:=Qk a m.size;obtain⟨uo,uc,rfl,s⟩:=Rd.ltl o;refine f_ c (fun z r h=>?_);refine T5 ?_;exact bp rfl rfl r rfl ⟨(o.st h SM).low SM,Fv b h SM⟩
 |false=>
  rw[Si SP];refine T4 ?_;refine eO (xs:=[]) (vs:=[]) rfl rfl rfl rfl ((t g b).low a) ?_;rintro I q ⟨l,f⟩
  have c:=c.ext f;have b:=b.trans f;have a:=Qk a f.size;refine Ue ?_;refine eO (xs:=[]) (vs:=[]) rfl rfl rfl rfl ((C q b).low a) ?_;rintro H p ⟨v,d⟩
  have l:=l.ext d;have c:=c.ext d;have b:=b.trans d;have a:=Qk a d.size;refine eN (og p a l v) ?_;rintro G B ⟨n,e⟩
  have c:=c.ext e;have b:=b.trans e;have a:=Qk a e.size;obtain⟨uo,uc,rfl,s⟩:=Rd.ltl n;refine f_ c (fun z r h=>?_);refine Tm ?_;exact bp rfl rfl r rfl ⟨(n.st h SM).low SM,Fv b h SM⟩
def KZ(w:World){k sc P S Q c:Int}(d:Blk w B 27 (DL k sc P S Q x c)):FnV UA (.func (.func 234) [].toArray [Tg B].toArray) [] w (bW w (Cj (An P))):=by
 refine FnV.mk (cs:=[_]) ?_;refine dU Tryz.func234 Tryz.ntmps234 rfl rfl ?_;refine T9 ?_;refine eF (fun i e j=>?_);have g:=j;have o:=e.lt;have n:=j.size;have d:=d.ext j;have h:i.heap.size<=i.heap.size:=Qj _;refine TJ ?_;skip;refine eN (nS i P) ?_;rintro _ l ⟨rfl,b⟩
 have d:=d.ext b;have e:=e.ext b;have g:=g.trans b;have h:=Qk h b.size;refine eN (nU l h (tE _ _ _)) ?_;rintro v5 q ⟨g5,a⟩
 have d:=d.ext a;have e:=e.ext a;have g:=g.trans a;have h:=Qk h a.size;obtain⟨uo,uc,rfl,p⟩:=Rd.ltl g5;skip;refine f_ e (fun z m f=>?_);refine Tm ?_;exact bp rfl rfl m rfl ⟨(g5.st f SM).low SM,Fv g f SM⟩
def K0(w:World){k sc P S Q c:Int}(f:Blk w B 27 (DL k sc P S Q x c)):FnV UA (.func (.func 235) [].toArray [Tg B].toArray) [] w (bW w (An x)):=by
 refine FnV.mk (cs:=[_]) ?_;refine dU Tryz.func235 Tryz.ntmps235 rfl rfl ?_;refine T9 ?_;refine eF (fun e g i=>?_);have h:=i;have o:=g.lt;have n:=i.size;have f:=f.ext i;have j:e.heap.size<=e.heap.size:=Qj _;refine TJ ?_;skip;refine eN (nS e x) ?_;rintro _ l ⟨rfl,a⟩
 have f:=f.ext a;have g:=g.ext a;have h:=h.trans a;have j:=Qk j a.size;have d:GL e.heap.size l (AR 3 x none 0 0) (An x):=tE _ _ _;skip;refine f_ g (fun z m b=>?_);refine Tm ?_;exact bp rfl rfl m rfl ⟨(d.st b SM).low SM,Fv h b SM⟩
def K1(w:World){k sc P S Q c:Int}(f:Blk w B 27 (DL k sc P S Q x c)):FnV UA (.func (.func 237) [].toArray [Tg B].toArray) [] w (bW w (An P)):=by
 refine FnV.mk (cs:=[_]) ?_;refine dU Tryz.func237 Tryz.ntmps237 rfl rfl ?_;refine T9 ?_;refine eF (fun e g i=>?_);have h:=i;have o:=g.lt;have n:=i.size;have f:=f.ext i;have j:e.heap.size<=e.heap.size:=Qj _;refine TJ ?_;skip;refine eN (nS e P) ?_;rintro _ l ⟨rfl,a⟩
 have f:=f.ext a;have g:=g.ext a;have h:=h.trans a;have j:=Qk j a.size;have d:GL e.heap.size l (AR 3 P none 0 0) (An P):=tE _ _ _;skip;refine f_ g (fun z m b=>?_);refine Tm ?_;exact bp rfl rfl m rfl ⟨(d.st b SM).low SM,Fv h b SM⟩
def K2(w:World){k sc P S Q c:Int}(e:Blk w a 27 (DL k sc P S Q x c))(h:Blk w K 268 [(.func (.func 235) [].toArray [Tg a].toArray)]):FnV UA (.func (.func 238) [].toArray [Tg a,Tg K].toArray) [] w (bW w (C8 (An S) (An x))):=by
 refine FnV.mk (cs:=[_,_]) ?_;refine dV Tryz.func238 Tryz.ntmps238 rfl rfl ?_;refine T9 ?_;refine eF (fun d f m=>?_);have l:=m;have s:=f.lt;have r:=m.size;have e:=e.ext m;have g:d.heap.size<=d.heap.size:=Qj _;have h:=h.ext m;have ed:=Ext.drew d;have e:=e.ext ed;have f:=f.ext ed;have h:=h.ext ed;have l:=l.trans ed;have g:d.heap.size<=(drew d).heap.size:=Qk g ed.size;refine T2 ?_;refine aH 6 mixed SN ?_;refine Uw ?_;refine c_ (fun γ w i=>eN (nS w S) ML.en) ?_;refine Uo ?_;refine c8 (B:=d.heap.size) (An x) rfl rfl rfl (fun γ w i=>eO (xs:=[]) (vs:=[]) rfl rfl rfl rfl ((K0 w (e.ext i)).low (Qk g i.size)) ML.en) ?_;refine c8 (B:=d.heap.size) (C8 (An S) (An x)) rfl rfl rfl (fun γ w i p o=>eN (nZ w (Qk g i.size) (tE _ _ _) o) ML.en) ?_;refine ML.nil fun γ w' b u n p o=>?_
 change WL _ _ _ _ _ _ _
 have e:=e.ext b;have f:=f.ext b;have h:=h.ext b;have l:=l.trans b;have g:=Qk g b.size;obtain⟨uo,uc,rfl,t⟩:=Rd.ltl n;refine f_ f (fun z q j=>WL.nil (bC ?_));refine TV ?_;exact bp rfl rfl q rfl ⟨(n.st j SM).low SM,Fv l j SM⟩
def K3(w:World){k sc P S Q c:Int}(g:Blk w a 27 (DL k sc P S Q x c))(j:Blk w K 268 [(.func (.func 234) [].toArray [Tg a].toArray)])(i:Blk w E 268 [(.func (.func 235) [].toArray [Tg a].toArray)]):FnV UA (.func (.func 239) [].toArray [Tg K,Tg E,Tg a].toArray) [] w (bW w (C8 (Cj (An P)) (KY (Cj (An x)) (hZ (An S) (Cj (An x)))))):=by
 refine FnV.mk (cs:=[_,_,_]) ?_;refine dW Tryz.func239 Tryz.ntmps239 rfl rfl ?_;refine T9 ?_;refine eF (fun d h s=>?_);have m:=s;have J:=h.lt;have I:=s.size;have g:=g.ext s;have f:d.heap.size<=d.heap.size:=Qj _;have j:=j.ext s;have i:=i.ext s;have ed:=Ext.drew d;have g:=g.ext ed;have h:=h.ext ed;have j:=j.ext ed;have i:=i.ext ed;have m:=m.trans ed;have f:d.heap.size<=(drew d).heap.size:=Qk f ed.size;refine T2 ?_;refine aH 14 mixed SN ?_;refine Uo ?_;refine c8 (B:=d.heap.size) (Cj (An P)) rfl rfl rfl (fun γ w b=>eO (xs:=[]) (vs:=[]) rfl rfl rfl rfl ((KZ w (g.ext b)).low (Qk f b.size)) ML.en) ?_;refine Uo ?_;refine c8 (B:=d.heap.size) (An x) rfl rfl rfl (fun γ w b v5 g5=>eO (xs:=[]) (vs:=[]) rfl rfl rfl rfl ((K0 w (g.ext b)).low (Qk f b.size)) ML.en) ?_;refine c8 (B:=d.heap.size) (Cj (An x)) rfl rfl rfl (fun γ w b F C=>eN (nU w (Qk f b.size) C) ML.en) ?_;refine Uw ?_;refine c_ (fun γ w b=>eN (nS w S) ML.en) ?_;refine Uo ?_;refine c8 (B:=d.heap.size) (An x) rfl rfl rfl (fun γ w b=>eO (xs:=[]) (vs:=[]) rfl rfl rfl rfl ((K0 w (g.ext b)).low (Qk f b.size)) ML.en) ?_;refine c8 (B:=d.heap.size) (Cj (An x)) rfl rfl rfl (fun γ w b y r=>eN (nU w (Qk f b.size) r) ML.en) ?_;refine c8 (B:=d.heap.size) (hZ (An S) (Cj (An x))) rfl rfl rfl (fun γ w b v q=>eN (nR w (Qk f b.size) (tE _ _ _) q) ML.en) ?_;refine c8 (B:=d.heap.size) (KY (Cj (An x)) (hZ (An S) (Cj (An x)))) rfl rfl rfl (fun γ w b D A u p=>eN (og w (Qk f b.size) A p) ML.en) ?_;refine c8 (B:=d.heap.size) (C8 (Cj (An P)) (KY (Cj (An x)) (hZ (An S) (Cj (An x))))) rfl rfl rfl (fun γ w b v5 g5 t o=>eN (nZ w (Qk f b.size) g5 o) ML.en) ?_;refine ML.nil fun γ w' e G n t o u p v q y r D A F C v5 g5=>?_
 change WL _ _ _ _ _ _ _
 have g:=g.ext e;have h:=h.ext e;have j:=j.ext e;have i:=i.ext e;have m:=m.trans e;have f:=Qk f e.size;obtain⟨uo,uc,rfl,L⟩:=Rd.ltl n;refine f_ h (fun z H l=>WL.nil (bC ?_));refine TV ?_;exact bp rfl rfl H rfl ⟨(n.st l SM).low SM,Fv m l SM⟩
def K4(w:World){I:Nat}{k sc P S Q c:Int}{n:Nat}{weak:Bool}{u:Ltl}(g:Blk w a 27 (DL k sc P S Q x c))(l:Blk w I 268 [(.func (.func 235) [].toArray [Tg a].toArray)])(hn:Blk w K 3 [Te ((n+1:Nat):Int)])(j:Blk w E 4 [.bool weak])(U:n<1000)(N:∀w:World,Rt UA 168 [.agg (DL k sc P S Q x c).toArray,Te (((n+1:Nat):Int) -1),.bool weak].toArray w (bW w u)):FnV UA (.func (.func 240) [].toArray [Tg I,Tg a,Tg K,Tg E].toArray) [] w (bW w (C8 (An x) (hZ (hZ (An P) (Cj (An x))) (BM u)))):=by
 refine FnV.mk (cs:=[_,_,_,_]) ?_;refine dX Tryz.func240 Tryz.ntmps240 rfl rfl ?_;refine T9 ?_;refine eF (fun e i m=>?_);have q:=m;have T:=i.lt;have R:=m.size;have g:=g.ext m;have f:e.heap.size<=e.heap.size:=Qj _;have l:=l.ext m;have hn:=hn.ext m;have j:=j.ext m;have ed:=Ext.drew e;have g:=g.ext ed;have i:=i.ext ed;have l:=l.ext ed;have hn:=hn.ext ed;have j:=j.ext ed;have q:=q.trans ed;have f:e.heap.size<=(drew e).heap.size:=Qk f ed.size;refine T2 ?_;refine aH 17 mixed SN ?_;refine Uo ?_;refine c8 (B:=e.heap.size) (An x) rfl rfl rfl (fun γ w b=>eO (xs:=[]) (vs:=[]) rfl rfl rfl rfl ((K0 w (g.ext b)).low (Qk f b.size)) ML.en) ?_;refine Uw ?_;refine c_ (fun γ w b=>eN (nS w P) ML.en) ?_;refine Uo ?_;refine c8 (B:=e.heap.size) (An x) rfl rfl rfl (fun γ w b=>eO (xs:=[]) (vs:=[]) rfl rfl rfl rfl ((K0 w (g.ext b)).low (Qk f b.size)) ML.en) ?_;refine c8 (B:=e.heap.size) (Cj (An x)) rfl rfl rfl (fun γ w b H A=>eN (nU w (Qk f b.size) A) ML.en) ?_;refine c8 (B:=e.heap.size) (hZ (An P) (Cj (An x))) rfl rfl rfl (fun γ w b G y=>eN (nR w (Qk f b.size) (tE _ _ _) y) ML.en) ?_;refine Uo ?_;refine c8 (B:=e.heap.size) (u) rfl rfl rfl (fun γ w b o h=>eN ((N w).low (Qk f b.size)) ML.en) ?_;refine c8 (B:=e.heap.size) (BM (u)) rfl rfl rfl (fun γ w b F v=>eN (nX w (Qk f b.size) 7 v) ML.en) ?_;refine c8 (B:=e.heap.size) (hZ (hZ (An P) (Cj (An x))) (BM (u))) rfl rfl rfl (fun γ w b o h D t=>eN (nR w (Qk f b.size) h t) ML.en) ?_;refine c8 (B:=e.heap.size) (C8 (An x) (hZ (hZ (An P) (Cj (An x))) (BM (u)))) rfl rfl rfl (fun γ w b L J C s=>eN (nZ w (Qk f b.size) J s) ML.en) ?_;refine ML.nil fun γ w' d M r C s D t F v o h G y H A L J=>?_
 change WL _ _ _ _ _ _ _
 have g:=g.ext d;have i:=i.ext d;have l:=l.ext d;have hn:=hn.ext d;have j:=j.ext d;have q:=q.trans d;have f:=Qk f d.size;obtain⟨uo,uc,rfl,V⟩:=Rd.ltl r;refine f_ i (fun z O p=>WL.nil (bC ?_));refine TV ?_;exact bp rfl rfl O rfl ⟨(r.st p SM).low SM,Fv q p SM⟩
def K6(k sc P S Q R c:Int)(weak:Bool):∀(n:Nat),n<=1000->∀(w:World),Rt UA 168 [.agg (DL k sc P S Q R c).toArray,Te (n:Int),.bool weak].toArray w (bW w (K5 k P S R n weak)):=by
 intro n
 induction n with
 |zero=>
  intro _ w
  refine dW Tryz.func168 Tryz.ntmps168 rfl rfl ?_;refine T9 ?_;refine eJ fun w1 h e1=>?_
  refine eJ fun w2 hn T=>?_
  refine eJ fun w3 t O=>?_
  refine eF (fun w4 d A=>?_);have h:=((h.ext T).ext O).ext A;have hn:=(hn.ext O).ext A;have t:=t.ext A;have f:=((e1.trans T).trans O).trans A;have s1:=e1.size;have s2:=T.size;have s3:=O.size;have s4:=A.size;have hlr:=d.lt;refine Tu ?_;refine eF (fun w5 E e5=>?_);refine f_ E (fun w6 E D=>?_);have v:Ext w4 w6:=e5.grown D e5.size SZ;have h:=h.ext v;have hn:=hn.ext v;have t:=t.ext v;have d:=d.ext v;have f:=f.trans v;refine Tu ?_;refine eF (fun w7 q e7=>?_);refine f_ q (fun g q C=>?_);have s:Ext w6 g:=e7.grown C e7.size SZ;have h:=h.ext s;have hn:=hn.ext s;have t:=t.ext s;have d:=d.ext s;have E:=E.ext s;have f:=f.trans s;have s6:=v.size;have s8:=s.size;have o:g.heap.size<=g.heap.size:=Qj _;clear e1 T O A e5 v e7 s D C;unfold K5;refine Ty ?_;by_cases k2:k=2
  ·subst k2
   rw[Sj rfl];refine TX ?_;refine eN (LI g weak (ta:=An P) (tb:=An R) (fun x e=>K1 x (h.ext e)) (fun x e=>K0 x (h.ext e))) ?_;rintro v19 y ⟨H,ey⟩
   have d:=d.ext ey;have f:=f.trans ey;have p:=ey.size;obtain⟨uo,uc,rfl,m⟩:=Rd.ltl H;refine f_ d (fun z j a=>?_);refine T5 ?_;have b:=(H.st a SM).low (show w.heap.size<=g.heap.size by omega);exact bp rfl rfl j rfl ⟨b,Fv f a SM⟩
  by_cases k3:k=3
  ·subst k3
   rw[Si SP,Sj rfl];have ed:=Ext.drew g;have h:=h.ext ed;have d:=d.ext ed;have q:=q.ext ed;have f:=f.trans ed;have o:g.heap.size<=(drew g).heap.size:=Qk o ed.size;refine T4 ?_;refine aH 11 mixed SN ?_;refine Uo ?_;refine c8 (B:=g.heap.size) (An R) rfl rfl rfl (fun γ w i=>eO (xs:=[]) (vs:=[]) rfl rfl rfl rfl ((K0 w (h.ext i)).low (Qk o i.size)) ML.en) ?_;refine c8 (B:=g.heap.size) (Cj (An R)) rfl rfl rfl (fun γ w i Y N=>eN (nU w (Qk o i.size) N) ML.en) ?_;refine Uw ?_;refine c_ (fun γ w i=>eN (nS w P) ML.en) ?_;refine Uo ?_;refine c8 (B:=g.heap.size) (An R) rfl rfl rfl (fun γ w i=>eO (xs:=[]) (vs:=[]) rfl rfl rfl rfl ((K0 w (h.ext i)).low (Qk o i.size)) ML.en) ?_;refine c8 (B:=g.heap.size) (Cj (An R)) rfl rfl rfl (fun γ w i W L=>eN (nU w (Qk o i.size) L) ML.en) ?_;refine c8 (B:=g.heap.size) (hZ (An P) (Cj (An R))) rfl rfl rfl (fun γ w i V K=>eN (nR w (Qk o i.size) (tE _ _ _) K) ML.en) ?_;refine c8 (B:=g.heap.size) (KY (Cj (An R)) (hZ (An P) (Cj (An R)))) rfl rfl rfl (fun γ w i X M U J=>eN (og w (Qk o i.size) M J) ML.en) ?_;refine ML.nil fun γ w' l v32 I U J V K W L X M Y N=>?_
   change WL _ _ _ _ _ _ _
   have h:=h.ext l;have d:=d.ext l;have q:=q.ext l;have f:=f.trans l;have o:=Qk o l.size;obtain⟨uo,uc,rfl,m⟩:=Rd.ltl I;refine f_ d (fun z j a=>WL.nil (bC ?_));refine Tp ?_;exact bp rfl rfl j rfl ⟨(I.st a SM).low SM,Fv f a SM⟩
  by_cases k5:k=5
  ·subst k5
   rw[Si SP,Si SP,Sj rfl];refine TX ?_;refine eN (LI g weak (ta:=Cj (An P)) (tb:=C8 (An S) (An R)) (fun x e=>KZ x (h.ext e)) (fun x e=>K2 x (h.ext e) (q.ext e))) ?_;rintro v38 y ⟨G,ey⟩
   have d:=d.ext ey;have f:=f.trans ey;have p:=ey.size;obtain⟨uo,uc,rfl,m⟩:=Rd.ltl G;refine f_ d (fun z j a=>?_);refine T5 ?_;have b:=(G.st a SM).low (show w.heap.size<=g.heap.size by omega);exact bp rfl rfl j rfl ⟨b,Fv f a SM⟩
  by_cases Z:k=6
  ·subst Z
   rw[Si SP,Si SP,Si SP,Sj rfl];refine TX ?_;refine eN (LI g weak (ta:=C8 (Cj (An P)) (KY (Cj (An R)) (hZ (An S) (Cj (An R))))) (tb:=An R) (fun x e=>K3 x (h.ext e) (E.ext e) (q.ext e)) (fun x e=>K0 x (h.ext e))) ?_;rintro v45 y ⟨F,ey⟩
   have d:=d.ext ey;have f:=f.trans ey;have p:=ey.size;obtain⟨uo,uc,rfl,m⟩:=Rd.ltl F;refine f_ d (fun z j a=>?_);refine T5 ?_;have b:=(F.st a SM).low (show w.heap.size<=g.heap.size by omega);exact bp rfl rfl j rfl ⟨b,Fv f a SM⟩
  rw[Si k2,Si k3,Si k5,Si Z];rw[show(k==2)=false by simpa using k2];refine Tr ?_;rw[show(k==3)=false by simpa using k3];refine Tr ?_;rw[show(k==5)=false by simpa using k5];refine Tr ?_;rw[show(k==6)=false by simpa using Z];refine Tr ?_;by_cases k4:k=4
  ·subst k4
   rw[Sj rfl];refine T_ ?_;unfold jy;refine eN (LI g weak (ta:=Cj (An P)) (tb:=An R) (fun x e=>KZ x (h.ext e)) (fun x e=>K0 x (h.ext e))) ?_;rintro v57 y ⟨r,ey⟩
   have d:=d.ext ey;have f:=f.trans ey;have p:=ey.size;obtain⟨uo,uc,rfl,m⟩:=Rd.ltl r;refine f_ d (fun z j a=>?_);refine Tm ?_;have b:=(r.st a SM).low (show w.heap.size<=g.heap.size by omega);exact bp rfl rfl j rfl ⟨b,Fv f a SM⟩
  rw[Si k4];rw[show(k==4)=false by simpa using k4];refine T3 ?_;refine eN (LI g weak (ta:=Cj (An P)) (tb:=An R) (fun x e=>KZ x (h.ext e)) (fun x e=>K0 x (h.ext e))) ?_;rintro v57 y ⟨r,ey⟩
  have d:=d.ext ey;have f:=f.trans ey;have p:=ey.size;obtain⟨uo,uc,rfl,m⟩:=Rd.ltl r;refine f_ d (fun z j a=>?_);refine Tm ?_;have b:=(r.st a SM).low (show w.heap.size<=g.heap.size by omega);exact bp rfl rfl j rfl ⟨b,Fv f a SM⟩
 |succ n ih=>
  intro hle w
  have ih:k=4->∀w:World,Rt UA 168 [.agg (DL k sc P S Q R c).toArray,Te (((n+1:Nat):Int) -1),.bool weak].toArray w (bW w (jy P R weak n)):=by
   rw[show((n+1:Nat):Int) -1=(n:Int) by omega];intro t w
   have:=ih SM w;rwa[show K5 k P S R n weak=jy P R weak n by subst t;unfold K5;rw[Si SP,Si SP,Si SP,Si SP,Sj rfl]]at this
  refine dW Tryz.func168 Tryz.ntmps168 rfl rfl ?_;refine T9 ?_;refine eJ fun w1 h e1=>?_
  refine eJ fun w2 hn T=>?_
  refine eJ fun w3 t O=>?_
  refine eF (fun w4 d A=>?_);have h:=((h.ext T).ext O).ext A;have hn:=(hn.ext O).ext A;have t:=t.ext A;have f:=((e1.trans T).trans O).trans A;have s1:=e1.size;have s2:=T.size;have s3:=O.size;have s4:=A.size;have hlr:=d.lt;refine Tu ?_;refine eF (fun w5 E e5=>?_);refine f_ E (fun w6 E D=>?_);have v:Ext w4 w6:=e5.grown D e5.size SZ;have h:=h.ext v;have hn:=hn.ext v;have t:=t.ext v;have d:=d.ext v;have f:=f.trans v;refine Tu ?_;refine eF (fun w7 q e7=>?_);refine f_ q (fun g q C=>?_);have s:Ext w6 g:=e7.grown C e7.size SZ;have h:=h.ext s;have hn:=hn.ext s;have t:=t.ext s;have d:=d.ext s;have E:=E.ext s;have f:=f.trans s;have s6:=v.size;have s8:=s.size;have o:g.heap.size<=g.heap.size:=Qj _;clear e1 T O A e5 v e7 s D C;unfold K5;refine Ty ?_;by_cases k2:k=2
  ·subst k2
   rw[Sj rfl];refine TX ?_;refine eN (LI g weak (ta:=An P) (tb:=An R) (fun x e=>K1 x (h.ext e)) (fun x e=>K0 x (h.ext e))) ?_;rintro v19 y ⟨H,ey⟩
   have d:=d.ext ey;have f:=f.trans ey;have p:=ey.size;obtain⟨uo,uc,rfl,m⟩:=Rd.ltl H;refine f_ d (fun z j a=>?_);refine T5 ?_;have b:=(H.st a SM).low (show w.heap.size<=g.heap.size by omega);exact bp rfl rfl j rfl ⟨b,Fv f a SM⟩
  by_cases k3:k=3
  ·subst k3
   rw[Si SP,Sj rfl];have ed:=Ext.drew g;have h:=h.ext ed;have d:=d.ext ed;have q:=q.ext ed;have f:=f.trans ed;have o:g.heap.size<=(drew g).heap.size:=Qk o ed.size;refine T4 ?_;refine aH 11 mixed SN ?_;refine Uo ?_;refine c8 (B:=g.heap.size) (An R) rfl rfl rfl (fun γ w i=>eO (xs:=[]) (vs:=[]) rfl rfl rfl rfl ((K0 w (h.ext i)).low (Qk o i.size)) ML.en) ?_;refine c8 (B:=g.heap.size) (Cj (An R)) rfl rfl rfl (fun γ w i Y N=>eN (nU w (Qk o i.size) N) ML.en) ?_;refine Uw ?_;refine c_ (fun γ w i=>eN (nS w P) ML.en) ?_;refine Uo ?_;refine c8 (B:=g.heap.size) (An R) rfl rfl rfl (fun γ w i=>eO (xs:=[]) (vs:=[]) rfl rfl rfl rfl ((K0 w (h.ext i)).low (Qk o i.size)) ML.en) ?_;refine c8 (B:=g.heap.size) (Cj (An R)) rfl rfl rfl (fun γ w i W L=>eN (nU w (Qk o i.size) L) ML.en) ?_;refine c8 (B:=g.heap.size) (hZ (An P) (Cj (An R))) rfl rfl rfl (fun γ w i V K=>eN (nR w (Qk o i.size) (tE _ _ _) K) ML.en) ?_;refine c8 (B:=g.heap.size) (KY (Cj (An R)) (hZ (An P) (Cj (An R)))) rfl rfl rfl (fun γ w i X M U J=>eN (og w (Qk o i.size) M J) ML.en) ?_;refine ML.nil fun γ w' l v32 I U J V K W L X M Y N=>?_
   change WL _ _ _ _ _ _ _
   have h:=h.ext l;have d:=d.ext l;have q:=q.ext l;have f:=f.trans l;have o:=Qk o l.size;obtain⟨uo,uc,rfl,m⟩:=Rd.ltl I;refine f_ d (fun z j a=>WL.nil (bC ?_));refine Tp ?_;exact bp rfl rfl j rfl ⟨(I.st a SM).low SM,Fv f a SM⟩
  by_cases k5:k=5
  ·subst k5
   rw[Si SP,Si SP,Sj rfl];refine TX ?_;refine eN (LI g weak (ta:=Cj (An P)) (tb:=C8 (An S) (An R)) (fun x e=>KZ x (h.ext e)) (fun x e=>K2 x (h.ext e) (q.ext e))) ?_;rintro v38 y ⟨G,ey⟩
   have d:=d.ext ey;have f:=f.trans ey;have p:=ey.size;obtain⟨uo,uc,rfl,m⟩:=Rd.ltl G;refine f_ d (fun z j a=>?_);refine T5 ?_;have b:=(G.st a SM).low (show w.heap.size<=g.heap.size by omega);exact bp rfl rfl j rfl ⟨b,Fv f a SM⟩
  by_cases Z:k=6
  ·subst Z
   rw[Si SP,Si SP,Si SP,Sj rfl];refine TX ?_;refine eN (LI g weak (ta:=C8 (Cj (An P)) (KY (Cj (An R)) (hZ (An S) (Cj (An R))))) (tb:=An R) (fun x e=>K3 x (h.ext e) (E.ext e) (q.ext e)) (fun x e=>K0 x (h.ext e))) ?_;rintro v45 y ⟨F,ey⟩
   have d:=d.ext ey;have f:=f.trans ey;have p:=ey.size;obtain⟨uo,uc,rfl,m⟩:=Rd.ltl F;refine f_ d (fun z j a=>?_);refine T5 ?_;have b:=(F.st a SM).low (show w.heap.size<=g.heap.size by omega);exact bp rfl rfl j rfl ⟨b,Fv f a SM⟩
  rw[Si k2,Si k3,Si k5,Si Z];rw[show(k==2)=false by simpa using k2];refine Tr ?_;rw[show(k==3)=false by simpa using k3];refine Tr ?_;rw[show(k==5)=false by simpa using k5];refine Tr ?_;rw[show(k==6)=false by simpa using Z];refine Tr ?_;by_cases k4:k=4
  ·subst k4
   rw[Sj rfl];refine TW ?_;have ih:=ih rfl;rw[R9 (show((n+1:Nat):Int)>0 by omega)];unfold jy;refine TX ?_;refine eN (LI g weak (ta:=Cj (An P)) (tb:=C8 (An R) (hZ (hZ (An P) (Cj (An R))) (BM (jy P R weak n)))) (fun x e=>KZ x (h.ext e)) (fun x e=>K4 (n:=n) (weak:=weak) (u:=jy P R weak n) x (h.ext e) (q.ext e) (hn.ext e) (t.ext e) SM ih)) ?_;rintro v53 y ⟨h53,ey⟩
   have d:=d.ext ey;have f:=f.trans ey;have p:=ey.size;obtain⟨uo,uc,rfl,m⟩:=Rd.ltl h53;refine f_ d (fun z j a=>?_);refine T5 ?_;have b:=(h53.st a SM).low (show w.heap.size<=g.heap.size by omega);exact bp rfl rfl j rfl ⟨b,Fv f a SM⟩
  rw[Si k4];rw[show(k==4)=false by simpa using k4];refine T3 ?_;refine eN (LI g weak (ta:=Cj (An P)) (tb:=An R) (fun x e=>KZ x (h.ext e)) (fun x e=>K0 x (h.ext e))) ?_;rintro v57 y ⟨r,ey⟩
  have d:=d.ext ey;have f:=f.trans ey;have p:=ey.size;obtain⟨uo,uc,rfl,m⟩:=Rd.ltl r;refine f_ d (fun z j a=>?_);refine Tm ?_;have b:=(r.st a SM).low (show w.heap.size<=g.heap.size by omega);exact bp rfl rfl j rfl ⟨b,Fv f a SM⟩
def FM.keep{k b:Nat}{γ:Nat->Nat}{w':World}{t:Ltl}(h:Rd w (FM B k γ w) v t)(f:k<γ b)(d:w.grownBy w' (some b)):Rd w' (FM B k γ w') v t:=
 (Rd.kept h d (fun c a=>⟨a.2.1,fun e=>by have:=QV e;subst this;have:=a.2.2;omega⟩)).wk (fun c a=>⟨a.1,Qn a.2.1 d.size,a.2.2⟩)
def rS(w:World)(k sc P S Q R:Int)(n:Nat)(hn:n<=1000):Rt UA 106 [.agg (DL k sc P S Q R (n:Int)).toArray].toArray w (bW w (oh (k,sc,P,S,Q,R,(n:Int)))):=by
 refine dU Tryz.func106 Tryz.ntmps106 rfl rfl ?_;have hg:=tG k sc P S Q R (n:Int) n hn;have hu:=fun weak=>K6 k sc P S Q R (n:Int) weak n hn
 refine T9 ?_;refine eJ fun w1 p e1=>?_
 refine eF (fun j m e2=>?_);have p:=p.ext e2;have l:=e1.trans e2;have hlr:=m.lt;have hs1:=e1.size;have d:j.heap.size<=j.heap.size:=Qj _;unfold oh;dsimp only;rw[Nt];have ed:=Ext.drew j;have p:=p.ext ed;have m:=m.ext ed;have l:=l.trans ed;have d:j.heap.size<=(drew j).heap.size:=Qk d ed.size;refine T2 ?_;refine aH 9 mixed SN ?_;refine Uw ?_;refine c_ (fun γ w c=>eN (nS w Q) ML.en) ?_;refine Uw ?_;refine c_ (fun γ w c=>eN (nS w R) ML.en) ?_;refine ML.fc (fun v γ w=>Rd w (FM j.heap.size 6 γ w) v (Cj (An R))) rfl rfl rfl Ih (fun γ w c=>eN (FM.call (i:=6) (by omega) (Qk d c.size) (nT w FM.lt (FE _ _ _))) (fun v w' h=>WL.nil (bd rfl h.2 h.1))) ?_;refine ML.fc (fun v γ w=>∃b,v=Tg b/\γ b=7/\j.heap.size<=b/\Blk w b 32 [Te 0,Te 0,.slice none 0 0]) rfl rfl rfl stA (fun γ w c=>eF (fun w' hb e=>WL.nil (bd rfl e ⟨_,rfl,jM,Qk d c.size,hb⟩))) ?_;refine ML.fc (fun v γ w=>∃b,v=Tg b/\γ b=8/\j.heap.size<=b/\Blk w b 32 [Te 0,Te 0,.slice none 0 0]) rfl rfl rfl stA (fun γ w c=>eF (fun w' hb e=>WL.nil (bd rfl e ⟨_,rfl,jM,Qk d c.size,hb⟩))) ?_;refine ML.nil fun γ w' a v4 g4 v3 g3 v11 u=>?_
 change WL _ _ _ _ _ _ _
 have p:=p.ext a;have m:=m.ext a;have l:=l.trans a;have d:=Qk d a.size;obtain⟨b4,rfl,hγ4,hB4,f⟩:=g4;obtain⟨b3,rfl,hγ3,hB3,g⟩:=g3;have I:b3≠b4:=fun e=>by subst e;rw[hγ3]at hγ4;cases hγ4
 obtain⟨uo,uc,rfl,t⟩:=Rd.ltl u;refine f_ g (fun w3 g s=>?_);have f:=f.kept s (fun e=>I (QV e).symm);have u:=FM.keep u (b:=b3) (by rw[hγ3];decide) s;have m:=m.kept s S6;have p:=p.kept s S6;have l:Ext w w3:=l.grown s l.size S2;have d:=Qk d s.size;refine f_ f (fun x f r=>WL.nil (bC ?_));have q:=FM.st u (b:=b4) (by rw[hγ4];decide) r;have g:=g.kept r (fun e=>I (QV e));have m:=m.kept r S6;have p:=p.kept r S6;have l:Ext w x:=l.grown r l.size S2;have d:=Qk d r.size;clear u t s r a e1 e2;refine Ty ?_;by_cases s2:sc=2
 ·subst s2
  rw[Sj rfl];have ed:=Ext.drew x;have p:=p.ext ed;have m:=m.ext ed;have g:=g.ext ed;have f:=f.ext ed;have q:=q.ext ed;have l:=l.trans ed;have d:j.heap.size<=(drew x).heap.size:=Qk d ed.size;refine TZ ?_;refine aH 10 mixed SN ?_;refine Uw ?_;refine c_ (fun γ w c=>eN (nS w R) ML.en) ?_;refine c8 (B:=j.heap.size) (qO (An R)) rfl rfl rfl (fun γ w c=>eN (nX w (Qk d c.size) 10 (tE _ _ _)) ML.en) ?_;refine c8 (B:=j.heap.size) (Cj (qO (An R))) rfl rfl rfl (fun γ w c v19 g19=>eN (nU w (Qk d c.size) g19) ML.en) ?_;refine Uy ?_;refine c8 (B:=j.heap.size) (K5 k P S R n false) rfl rfl rfl (fun γ w c H E=>eN ((hu false w).low (Qk d c.size)) ML.en) ?_;refine c8 (B:=j.heap.size) (C8 (Cj (qO (An R))) (K5 k P S R n false)) rfl rfl rfl (fun γ w c H E v24 g24=>eN (nZ w (Qk d c.size) E g24) ML.en) ?_;refine ML.nil fun γ w' a v25 g25 v24 g24 H E v19 g19=>?_
  change WL _ _ _ _ _ _ _
  have p:=p.ext a;have m:=m.ext a;have g:=g.ext a;have f:=f.ext a;have q:=q.ext a;have l:=l.trans a;have d:=Qk d a.size;obtain⟨uo,uc,rfl,t⟩:=Rd.ltl g25;refine f_ m (fun z y o=>WL.nil (bC ?_));refine Tp ?_;exact bp rfl rfl y rfl ⟨(g25.st o SM).low SM,Fv l o SM⟩
 by_cases s3:sc=3
 ·subst s3
  rw[Si SP,Sj rfl];have ed:=Ext.drew x;have p:=p.ext ed;have m:=m.ext ed;have g:=g.ext ed;have f:=f.ext ed;have q:=q.ext ed;have l:=l.trans ed;have d:j.heap.size<=(drew x).heap.size:=Qk d ed.size;refine T4 ?_;refine aH 17 mixed SN ?_;refine Uo ?_;refine c8 (B:=j.heap.size) (Cj (An Q)) rfl rfl rfl (fun γ w c=>eN (nU w (Qk d c.size) (tE _ _ _)) ML.en) ?_;refine c8 (B:=j.heap.size) (hY (Cj (An Q))) rfl rfl rfl (fun γ w c v29 g29=>eN (nP w (Qk d c.size) g29) ML.en) ?_;refine Uw ?_;refine c_ (fun γ w c=>eN (nS w Q) ML.en) ?_;refine c8 (B:=j.heap.size) (Cj (An Q)) rfl rfl rfl (fun γ w c=>eN (nU w (Qk d c.size) (tE _ _ _)) ML.en) ?_;refine Uw ?_;refine c_ (fun γ w c=>eN (nS w Q) ML.en) ?_;refine Uy ?_;refine c8 (B:=j.heap.size) (tF k P S n) rfl rfl rfl (fun γ w c=>eN ((hg w).low (Qk d c.size)) ML.en) ?_;refine c8 (B:=j.heap.size) (hZ (An Q) (tF k P S n)) rfl rfl rfl (fun γ w c v41 g41=>eN (nR w (Qk d c.size) (tE _ _ _) g41) ML.en) ?_;refine c8 (B:=j.heap.size) (KY (Cj (An Q)) (hZ (An Q) (tF k P S n))) rfl rfl rfl (fun γ w c v34 g34 v42 g42=>eN (og w (Qk d c.size) g34 g42) ML.en) ?_;refine c8 (B:=j.heap.size) (C8 (hY (Cj (An Q))) (KY (Cj (An Q)) (hZ (An Q) (tF k P S n)))) rfl rfl rfl (fun γ w c v30 g30 v43 Z=>eN (nZ w (Qk d c.size) g30 Z) ML.en) ?_;refine ML.nil fun γ w' a v44 Y v43 Z v42 g42 v41 g41 v34 g34 v30 g30 v29 g29=>?_
  change WL _ _ _ _ _ _ _
  have p:=p.ext a;have m:=m.ext a;have g:=g.ext a;have f:=f.ext a;have q:=q.ext a;have l:=l.trans a;have d:=Qk d a.size;obtain⟨uo,uc,rfl,t⟩:=Rd.ltl Y;refine f_ m (fun z y o=>WL.nil (bC ?_));refine Tp ?_;exact bp rfl rfl y rfl ⟨(Y.st o SM).low SM,Fv l o SM⟩
 by_cases s4:sc=4
 ·subst s4
  rw[Si SP,Si SP,Sj rfl];have ed:=Ext.drew x;have p:=p.ext ed;have m:=m.ext ed;have g:=g.ext ed;have f:=f.ext ed;have q:=q.ext ed;have l:=l.trans ed;have d:j.heap.size<=(drew x).heap.size:=Qk d ed.size;refine T4 ?_;refine aH 15 mixed SN ?_;refine Uo ?_;refine c8 (B:=j.heap.size) (hZ (An Q) (Cj (An R))) rfl rfl rfl (fun γ w c=>eN (nR w (Qk d c.size) (tE _ _ _) (q.ext c)) ML.en) ?_;refine Uw ?_;refine c_ (fun γ w c=>eN (nS w R) ML.en) ?_;refine c8 (B:=j.heap.size) (qO (An R)) rfl rfl rfl (fun γ w c=>eN (nX w (Qk d c.size) 10 (tE _ _ _)) ML.en) ?_;refine c8 (B:=j.heap.size) (hZ (hZ (An Q) (Cj (An R))) (qO (An R))) rfl rfl rfl (fun γ w c v49 X v53 W=>eN (nR w (Qk d c.size) X W) ML.en) ?_;refine c8 (B:=j.heap.size) (Cj (hZ (hZ (An Q) (Cj (An R))) (qO (An R)))) rfl rfl rfl (fun γ w c v54 V=>eN (nU w (Qk d c.size) V) ML.en) ?_;refine Uy ?_;refine c8 (B:=j.heap.size) (K5 k P S R n false) rfl rfl rfl (fun γ w c G D=>eN ((hu false w).low (Qk d c.size)) ML.en) ?_;refine ML.fc (fun v γ w=>GL j.heap.size w v (C8 (Cj (hZ (hZ (An Q) (Cj (An R))) (qO (An R)))) (K5 k P S R n false))) rfl rfl rfl SY (fun γ w c G D v59 U=>eN (nZ w (Qk d c.size) D U) ML.en) ?_;refine ML.fc (fun v γ w=>GL j.heap.size w v (hY (C8 (Cj (hZ (hZ (An Q) (Cj (An R))) (qO (An R)))) (K5 k P S R n false)))) rfl rfl rfl SY (fun γ w c v60 T=>eN (nP w (Qk d c.size) T) ML.en) ?_;refine ML.nil fun γ w' a v61 O v60 T v59 U G D v54 V v53 W v49 X=>?_
  change WL _ _ _ _ _ _ _
  have p:=p.ext a;have m:=m.ext a;have g:=g.ext a;have f:=f.ext a;have q:=q.ext a;have l:=l.trans a;have d:=Qk d a.size;obtain⟨uo,uc,rfl,t⟩:=Rd.ltl O;refine f_ m (fun z y o=>WL.nil (bC ?_));refine Tp ?_;exact bp rfl rfl y rfl ⟨(O.st o SM).low SM,Fv l o SM⟩
 by_cases s5:sc=5
 ·subst s5
  rw[Si SP,Si SP,Si SP,Sj rfl];have ed:=Ext.drew x;have p:=p.ext ed;have m:=m.ext ed;have g:=g.ext ed;have f:=f.ext ed;have q:=q.ext ed;have l:=l.trans ed;have d:j.heap.size<=(drew x).heap.size:=Qk d ed.size;refine T4 ?_;refine aH 10 mixed SN ?_;refine Uo ?_;refine c8 (B:=j.heap.size) (hZ (An Q) (Cj (An R))) rfl rfl rfl (fun γ w c=>eN (nR w (Qk d c.size) (tE _ _ _) (q.ext c)) ML.en) ?_;refine c8 (B:=j.heap.size) (Cj (hZ (An Q) (Cj (An R)))) rfl rfl rfl (fun γ w c v66 N=>eN (nU w (Qk d c.size) N) ML.en) ?_;refine Uy ?_;refine c8 (B:=j.heap.size) (K5 k P S R n true) rfl rfl rfl (fun γ w c F C=>eN ((hu true w).low (Qk d c.size)) ML.en) ?_;refine c8 (B:=j.heap.size) (C8 (Cj (hZ (An Q) (Cj (An R)))) (K5 k P S R n true)) rfl rfl rfl (fun γ w c F C v71 M=>eN (nZ w (Qk d c.size) C M) ML.en) ?_;refine ML.fc (fun v γ w=>GL j.heap.size w v (hY (C8 (Cj (hZ (An Q) (Cj (An R)))) (K5 k P S R n true)))) rfl rfl rfl SY (fun γ w c v72 L=>eN (nP w (Qk d c.size) L) ML.en) ?_;refine ML.nil fun γ w' a v73 K v72 L v71 M F C v66 N=>?_
  change WL _ _ _ _ _ _ _
  have p:=p.ext a;have m:=m.ext a;have g:=g.ext a;have f:=f.ext a;have q:=q.ext a;have l:=l.trans a;have d:=Qk d a.size;obtain⟨uo,uc,rfl,t⟩:=Rd.ltl K;refine f_ m (fun z y o=>WL.nil (bC ?_));refine Tp ?_;exact bp rfl rfl y rfl ⟨(K.st o SM).low SM,Fv l o SM⟩
 rw[Si s2,Si s3,Si s4,Si s5];rw[show(sc==2)=false by simpa using s2];refine Tr ?_;rw[show(sc==3)=false by simpa using s3];refine Tr ?_;rw[show(sc==4)=false by simpa using s4];refine Tr ?_;rw[show(sc==5)=false by simpa using s5];refine T3 ?_;skip;skip;refine eN ((hg x).low d) ?_;rintro v77 y1 ⟨J,A⟩
 have p:=p.ext A;have m:=m.ext A;have l:=l.trans A;have d:=Qk d A.size;obtain⟨uo,uc,rfl,t⟩:=Rd.ltl J;skip;refine f_ m (fun z y o=>?_);refine Tm ?_;exact bp rfl rfl y rfl ⟨(J.st o SM).low SM,Fv l o SM⟩
section
variable {s l:List Nat}{e P S to i:Nat}{k:Int}{st:KS}
abbrev Hs(s l:List Nat)(a:Nat)(j:Nat):Prop:=Af s l j >>> a&&&1=1
end
section
variable {pt:cQ}{s l:List Nat}{i to:Nat}
abbrev cnt(pt:cQ):Nat:=pt.2.2.2.2.2.2.toNat
abbrev hP(pt:cQ)(s l:List Nat):Nat->Prop:=Hs s l pt.2.2.1.toNat
abbrev hS(pt:cQ)(s l:List Nat):Nat->Prop:=Hs s l pt.2.2.2.1.toNat
abbrev hQ(pt:cQ)(s l:List Nat):Nat->Prop:=Hs s l pt.2.2.2.2.1.toNat
abbrev hR(pt:cQ)(s l:List Nat):Nat->Prop:=Hs s l pt.2.2.2.2.2.1.toNat
end
def nL(pt:cQ):Ltl×Int:=if kU pt≠0 then(.mk 0 0 [],kU pt)else if(kD (oh pt) 1 0).1≠0 then(.mk 0 0 [],(kD (oh pt) 1 0).1)else(oh pt,0)
def kV{pt:cQ}(h:kU pt=0):∃n:Nat,pt.2.2.2.2.2.2=(n:Int)/\n<=3:=by
 unfold kU at h
 split at h
 ·cases h
 split at h
 ·cases h
 split at h
 ·cases h
 ·rename_i h3
  exact⟨pt.2.2.2.2.2.2.toNat,by omega,by omega⟩
def nM(w:World)(pt:cQ):
  Rt UA 56 [DM pt].toArray w fun u w'=>∃x,u=.tuple ⟨[x,Te (nL pt).2]⟩/\GL w.heap.size w' x (nL pt).1/\Ext w w':=by
 refine dU Tryz.func56 Tryz.ntmps56 rfl rfl ?_;refine T9 ?_;refine eJ fun w1 z p=>?_
 refine eF (fun V O h=>?_);have z:=z.ext h;have o:=p.trans h;refine TN ?_;refine eN (ol V pt) ?_;rintro _ t ⟨rfl,s⟩
 have ht3:=z.ext s;have m:=O.ext s;have g:=o.trans s;have hz1:=p.size;have hz2:=h.size;have hlr:=O.lt;have hz3:=s.size;refine T2 ?_;unfold nL;apply CW.cond rfl<;>intro i
 ·have i:kU pt≠0:=by simpa using i
  rw[Sj i];refine T9 ?_;refine WL.build (parts:=[]) rfl rfl rfl rfl ?_;refine Ue ?_;refine f_ m (fun M B E=>?_);refine T5 ?_;exact bu rfl rfl rfl B rfl ⟨_,rfl,Rd.mkLtl (kids:=[]) (Sl.zero _ _),g.grown E g.size S2⟩
 ·have i:kU pt=0:=by simpa using i
  rw[Si (by simp[i])];refine Tq ?_;have F:Rt UA 106 [DM pt].toArray t (bW t (oh pt)):=by
   obtain⟨n,hn,hn3⟩:=kV i;obtain⟨k,sc,P,S,Q,R,c⟩:=pt;dsimp only at hn
   subst hn;exact rS t k sc P S Q R n SM
  refine eN F ?_;rintro v M ⟨N,T⟩
  have Z:=T.size;refine eF (fun w5 H K=>?_);have Y:=K.size;obtain⟨uo,uc,rfl,_⟩:=Rd.ltl N;refine f_ H (fun L G D=>?_);have J:Ext M L:=K.grown D K.size SZ;have j:=N.ext J;obtain⟨uo',uc',e,C⟩:=Rd.ltl j;obtain⟨rfl,rfl⟩:uo'=uo/\uc'=uc:=by
   simp[AR]at e
   exact⟨e.1.symm,e.2.symm⟩
  have r:=T.trans J;have A:=m.ext r;have I:=g.trans r;have X:=J.size;refine TN ?_;refine eN (AP L C (fun b hb=>hb.2)) ?_;rintro _ w7 ⟨rfl,q⟩
  have l:=A.ext q;have hb7:=G.ext q;have d:=I.trans q;have y:=j.ext q;have W:=q.size;refine T2 ?_;apply CW.cond rfl<;>intro h2
  ·have h2:(kD (oh pt) 1 0).1≠0:=by simpa using h2
   rw[Sj h2];refine T9 ?_;refine WL.build (parts:=[]) rfl rfl rfl rfl ?_;refine Ue ?_;refine f_ l (fun U f a=>?_);refine T5 ?_;exact bu rfl rfl rfl f rfl ⟨_,rfl,Rd.mkLtl (kids:=[]) (Sl.zero _ _),d.grown a d.size S2⟩
  ·have h2:(kD (oh pt) 1 0).1=0:=by simpa using h2
   rw[Si (by simp[h2])];refine Tq ?_;refine f_ l (fun U f a=>?_);refine Tk ?_;exact bu rfl rfl rfl f rfl ⟨_,rfl,(y.st a SM).low SM,d.grown a d.size S2⟩
def m7(w:World)(hF:∀b,F b->b<w.heap.size)(k:Int){t:Ltl}(h:Rd w F v t):Rt UA 186 [Te k,v].toArray w fun v w'=>Rd w' (dr F w w') v (.mk k 0 [t]:Ltl)/\Ext w w':=by
 obtain⟨ao,cap,rfl,I⟩:=Rd.ltl h;refine dV Tryz.func186 Tryz.ntmps186 rfl rfl ?_;refine T9 ?_;refine eJ fun A d f=>?_
 refine eF (fun l x j=>?_);have H:=d.ext j;have a:=f.trans j;refine TN ?_;have E:Rd l F (AR t.k t.n ao t.kids.length cap) t:=Rd.mono h (fun b d=>a.block b (hF b d)) S3;have m:w.heap.size<=l.heap.size:=a.size;have D:=x.lt;have B:w.heap.size<=A.heap.size:=f.size;refine WL.lit (F:=F) (ys:=[t]) rfl rfl rfl rfl rfl (.cons E .nil) (by show 1*3<=16777216;decide) (fun b d=>Qn (hF b d) m) (fun z y p=>?_);have e:Ext l z:=(Ext.refl l).grown p Ta S5;have o:=x.ext e;have c:=a.trans e;refine eK ?_;refine f_ o (fun s n i=>?_);have r:Ext w s:=c.grown i c.size (fun g q=>by cases q;exact f.size);have ho4:=y.kept i (fun g q=>by have:=(y.lt g q).1;simp;omega) (fun b d=>⟨Qn (hF b d) c.size,by have:b<w.heap.size:=hF b d;simp;omega⟩);obtain⟨uo,uc,G,C⟩:=(ho4.rd.mono (F':=dr F w s) S8 (fun b d=>d.elim .inl fun u=>.inr ⟨Qk a.size (ho4.lt b u).1,(ho4.lt b u).2.1⟩)).sl;obtain⟨rfl,_,rfl⟩:=RS G;refine Tm ?_;exact bp rfl rfl n rfl ⟨Rd.mkLtl (kids:=[t]) C,r⟩
def nj(w:World)(hF:∀b,F b->b<w.heap.size)(k:Int){t i:Ltl}(h:Rd w F v t)(E:Rd w F o i):Rt UA 182 [Te k,v,o].toArray w fun v w'=>Rd w' (dr F w w') v (.mk k 0 [t,i]:Ltl)/\Ext w w':=by
 obtain⟨ao,cap,rfl,P⟩:=Rd.ltl h;obtain⟨ao',cap',rfl,M⟩:=Rd.ltl E;refine dW Tryz.func182 Tryz.ntmps182 rfl rfl ?_;refine T9 ?_;refine eJ fun w0 f z=>?_
 refine eJ fun H d c=>?_
 have f:=f.ext c;have c:=z.trans c;refine eF (fun m C l=>?_);have f:=f.ext l;have O:=d.ext l;have a:=c.trans l;refine TN ?_;have L:Rd m F (AR t.k t.n ao t.kids.length cap) t:=Rd.mono h (fun b d=>a.block b (hF b d)) S3;have s:Rd m F (AR i.k i.n ao' i.kids.length cap') i:=Rd.mono E (fun b d=>a.block b (hF b d)) S3;have p:w.heap.size<=m.heap.size:=a.size;have K:=C.lt;have I:w.heap.size<=H.heap.size:=c.size;refine WL.lit (F:=F) (ys:=[t,i]) rfl rfl rfl rfl rfl (.cons L (.cons s .nil)) (by show 2*3<=16777216;decide) (fun b d=>Qn (hF b d) p) (fun G D u=>?_);have j:Ext m G:=(Ext.refl m).grown u Ta S5;have r:=C.ext j;have e:=a.trans j;refine eK ?_;refine f_ r (fun A q n=>?_);have y:Ext w A:=e.grown n e.size (fun g x=>by cases x;exact c.size);have ho4:=D.kept n (fun g x=>by have:=(D.lt g x).1;simp;omega) (fun b d=>⟨Qn (hF b d) e.size,by have:b<w.heap.size:=hF b d;simp;omega⟩);obtain⟨uo,uc,N,J⟩:=(ho4.rd.mono (F':=dr F w A) S8 (fun b d=>d.elim .inl fun B=>.inr ⟨Qk a.size (ho4.lt b B).1,(ho4.lt b B).2.1⟩)).sl;obtain⟨rfl,_,rfl⟩:=RS N;refine Tm ?_;exact bp rfl rfl q rfl ⟨Rd.mkLtl (kids:=[t,i]) J,y⟩
def m8(w:World)(c:B<=w.heap.size)(k:Int){t:Ltl}(h:GL B w v t):Rt UA 186 [Te k,v].toArray w fun u w'=>GL B w' u (.mk k 0 [t])/\Ext w w':=
 (m7 w (fun b a=>a.2) k h).mono fun u w' h=>⟨h.1.wk (GL.plus c h.2),h.2⟩
def nk(w:World)(d:B<=w.heap.size)(k:Int){t a:Ltl}(h:GL B w v t)(e:GL B w o a):Rt UA 182 [Te k,v,o].toArray w fun u w'=>GL B w' u (.mk k 0 [t,a])/\Ext w w':=
 (nj w (F:=fun b=>B<=b/\b<w.heap.size) (fun b c=>c.2) k h e).mono fun u w' h=>⟨h.1.wk (GL.plus d h.2),h.2⟩
def mZ(w:World)(hF:∀b,F b->b<w.heap.size){t:Ltl}(h:Rd w F v t):Rt UA 179 [v].toArray w fun u w'=>Rd w' (dr F w w') u (.mk 4 0 [t]:Ltl)/\Ext w w':=by
 obtain⟨ao,cap,rfl,s⟩:=Rd.ltl h;refine dU Tryz.func179 Tryz.ntmps179 rfl rfl ?_;refine T9 ?_;refine eJ fun o f e=>?_
 refine eF (fun n m d=>?_);have f:=f.ext d;have g:=e.trans d;have a:w.heap.size<=o.heap.size:=e.size;have j:=m.lt;refine TN ?_;refine eN (m7 n (fun b f=>Qn (hF b f) g.size) 4 (Rd.up0 h g hF)) ?_;rintro u r ⟨l,k⟩
 obtain⟨uo,uc,rfl,p⟩:=Rd.ltl l;refine f_ (m.ext k) (fun q i c=>?_);refine Tm ?_;exact bp rfl rfl i rfl ⟨qQ l c hF a j g.size k.size,Fv (g.trans k) c a⟩
def m5(w:World)(c:B<=w.heap.size){t:Ltl}(h:GL B w v t):Rt UA 179 [v].toArray w fun u w'=>GL B w' u (.mk 4 0 [t])/\Ext w w':=
 (mZ w (fun b a=>a.2) h).mono fun u w' h=>⟨h.1.wk (GL.plus c h.2),h.2⟩
def ng(w:World)(hF:∀b,F b->b<w.heap.size){t:Ltl}(h:Rd w F v t):Rt UA 180 [v].toArray w fun u w'=>Rd w' (dr F w w') u (.mk 10 0 [t]:Ltl)/\Ext w w':=by
 obtain⟨ao,cap,rfl,s⟩:=Rd.ltl h;refine dU Tryz.func180 Tryz.ntmps180 rfl rfl ?_;refine T9 ?_;refine eJ fun o f e=>?_
 refine eF (fun n m d=>?_);have f:=f.ext d;have g:=e.trans d;have a:w.heap.size<=o.heap.size:=e.size;have j:=m.lt;refine TN ?_;refine eN (m7 n (fun b f=>Qn (hF b f) g.size) 10 (Rd.up0 h g hF)) ?_;rintro u r ⟨l,k⟩
 obtain⟨uo,uc,rfl,p⟩:=Rd.ltl l;refine f_ (m.ext k) (fun q i c=>?_);refine Tm ?_;exact bp rfl rfl i rfl ⟨qQ l c hF a j g.size k.size,Fv (g.trans k) c a⟩
def nh(w:World)(c:B<=w.heap.size){t:Ltl}(h:GL B w v t):Rt UA 180 [v].toArray w fun u w'=>GL B w' u (.mk 10 0 [t])/\Ext w w':=
 (ng w (fun b a=>a.2) h).mono fun u w' h=>⟨h.1.wk (GL.plus c h.2),h.2⟩
def mT(w:World)(hF:∀b,F b->b<w.heap.size){t:Ltl}(h:Rd w F v t):Rt UA 177 [v].toArray w fun u w'=>Rd w' (dr F w w') u (.mk 11 0 [t]:Ltl)/\Ext w w':=by
 obtain⟨ao,cap,rfl,s⟩:=Rd.ltl h;refine dU Tryz.func177 Tryz.ntmps177 rfl rfl ?_;refine T9 ?_;refine eJ fun o f e=>?_
 refine eF (fun n m d=>?_);have f:=f.ext d;have g:=e.trans d;have a:w.heap.size<=o.heap.size:=e.size;have j:=m.lt;refine TN ?_;refine eN (m7 n (fun b f=>Qn (hF b f) g.size) 11 (Rd.up0 h g hF)) ?_;rintro u r ⟨l,k⟩
 obtain⟨uo,uc,rfl,p⟩:=Rd.ltl l;refine f_ (m.ext k) (fun q i c=>?_);refine Tm ?_;exact bp rfl rfl i rfl ⟨qQ l c hF a j g.size k.size,Fv (g.trans k) c a⟩
def mU(w:World)(c:B<=w.heap.size){t:Ltl}(h:GL B w v t):Rt UA 177 [v].toArray w fun u w'=>GL B w' u (.mk 11 0 [t])/\Ext w w':=
 (mT w (fun b a=>a.2) h).mono fun u w' h=>⟨h.1.wk (GL.plus c h.2),h.2⟩
def mW(w:World)(hF:∀b,F b->b<w.heap.size){t n:Ltl}(h:Rd w F v t)(r:Rd w F o n):Rt UA 184 [v,o].toArray w fun u w'=>Rd w' (dr F w w') u (.mk 5 0 [t,n]:Ltl)/\Ext w w':=by
 obtain⟨ao,cap,rfl,C⟩:=Rd.ltl h;obtain⟨ao',cap',rfl,z⟩:=Rd.ltl r;refine dV Tryz.func184 Tryz.ntmps184 rfl rfl ?_;refine T9 ?_;refine eJ fun w0 c l=>?_
 refine eJ fun x i a=>?_
 have c:=c.ext a;have a:=l.trans a;refine eF (fun s q d=>?_);have c:=c.ext d;have i:=i.ext d;have g:=a.trans d;have e:w.heap.size<=x.heap.size:=a.size;have k:=q.lt;refine TN ?_;refine eN (nj s (F:=F) (fun b i=>Qn (hF b i) g.size) 5 (Rd.up0 h g hF) (Rd.up0 r g hF)) ?_;rintro u B ⟨p,m⟩
 obtain⟨uo,uc,rfl,y⟩:=Rd.ltl p;refine f_ (q.ext m) (fun A j f=>?_);refine Tm ?_;exact bp rfl rfl j rfl ⟨qQ p f hF e k g.size m.size,Fv (g.trans m) f e⟩
def mX(w:World)(d:B<=w.heap.size){t a:Ltl}(h:GL B w v t)(e:GL B w o a):Rt UA 184 [v,o].toArray w fun u w'=>GL B w' u (.mk 5 0 [t,a])/\Ext w w':=
 (mW w (F:=fun b=>B<=b/\b<w.heap.size) (fun b c=>c.2) h e).mono fun u w' h=>⟨h.1.wk (GL.plus d h.2),h.2⟩
def m9(w:World)(hF:∀b,F b->b<w.heap.size){t n:Ltl}(h:Rd w F v t)(r:Rd w F o n):Rt UA 178 [v,o].toArray w fun u w'=>Rd w' (dr F w w') u (.mk 6 0 [t,n]:Ltl)/\Ext w w':=by
 obtain⟨ao,cap,rfl,C⟩:=Rd.ltl h;obtain⟨ao',cap',rfl,z⟩:=Rd.ltl r;refine dV Tryz.func178 Tryz.ntmps178 rfl rfl ?_;refine T9 ?_;refine eJ fun w0 c l=>?_
 refine eJ fun x i a=>?_
 have c:=c.ext a;have a:=l.trans a;refine eF (fun s q d=>?_);have c:=c.ext d;have i:=i.ext d;have g:=a.trans d;have e:w.heap.size<=x.heap.size:=a.size;have k:=q.lt;refine TN ?_;refine eN (nj s (F:=F) (fun b i=>Qn (hF b i) g.size) 6 (Rd.up0 h g hF) (Rd.up0 r g hF)) ?_;rintro u B ⟨p,m⟩
 obtain⟨uo,uc,rfl,y⟩:=Rd.ltl p;refine f_ (q.ext m) (fun A j f=>?_);refine Tm ?_;exact bp rfl rfl j rfl ⟨qQ p f hF e k g.size m.size,Fv (g.trans m) f e⟩
def m_(w:World)(d:B<=w.heap.size){t a:Ltl}(h:GL B w v t)(e:GL B w o a):Rt UA 178 [v,o].toArray w fun u w'=>GL B w' u (.mk 6 0 [t,a])/\Ext w w':=
 (m9 w (F:=fun b=>B<=b/\b<w.heap.size) (fun b c=>c.2) h e).mono fun u w' h=>⟨h.1.wk (GL.plus d h.2),h.2⟩
def mY(w:World)(B:Nat)(k:Int):Rt UA 185 [Te k].toArray w fun v w'=>GL B w' v (.mk 3 k []:Ltl)/\Ext w w':=by
 refine dU Tryz.func185 Tryz.ntmps185 rfl rfl ?_;refine T9 ?_;refine eF (fun g f d=>?_);refine T2 ?_;refine eK ?_;refine f_ f (fun e b a=>?_);have c:Ext w e:=d.grown a d.size SZ;refine Tm ?_;exact bp rfl rfl b rfl ⟨Rd.mkLtl (kids:=[]) (Sl.zero _ _),c⟩
end Go.Proofs.YtfpjecjadlgdcaaGreatDoor
