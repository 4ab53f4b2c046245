import Derived.WalkKit
import Derived.ProofKit
import Derived.Deep.Quiet
import Derived.Deep.LoopGhost
import Derived.Laws.Cover3
import Derived.Laws.Bits64b
import Derived.Laws.Shifts
import Derived.OrdersHeld
import Derived.Test.YtodmkmobdmcfbaaGreatDoorProg
import Derived.DeepKeys4
import Derived.Maps.Keyed
import Derived.Shelf.Slices.Reverse
import Derived.Shelf.Sort.Plain
import Derived.Shelf.Slices.In.SortNone
import Derived.Laws.StructEq
import Derived.Lib.RabinKarpLaws
import Derived.Shelf.Strings.Split
import Derived.Shelf.Strings.Cut
import Derived.Shelf.Strings.Builder1
import Derived.Shelf.Strings.OnBuilder
import Derived.Shelf.Vars
import Derived.Stop.IfaceNil
import Derived.Test.YtodmkmobdmcfbaaGreatDoorRows
import Derived.OpenShut
import Derived.JoinedCond
import Derived.RowKit
set_option linter.unusedVariables false
set_option linter.unusedSimpArgs false
set_option linter.defProp false
namespace Go.Proofs.YtodmkmobdmcfbaaGreatDoor
abbrev Pq(n:Int):Value:=.int .i64 n
abbrev Pr(b:Nat):Value:=.pointer (some ⟨b,0,none⟩)
inductive Hid_(q:Prop):Prop|mk(h:q)
theorem Hid_.o{q:Prop}:Hid_ q→q|.mk h=>h
def Jj:=@Go.Addr.add_zero'
def Jk:=@Go.Addr.mk.injEq
def Jl:=@Array.ext'
def Jm:=@Array.foldl_toList
def Jn:=@Array.getD_eq_getD_getElem?
def Jo:=@Array.getElem?_append_left
def Jp:=@Array.getElem?_eq_none
def Jq:=@Array.getElem?_eq_some_iff
def Jr:=@Array.getElem?_mapIdx
def Js:=@Array.getElem?_modify
def Jt:=@Array.getElem?_replicate
def Ju:=@Array.getElem?_setIfInBounds
def Jv:=@Array.getElem?_setIfInBounds_ne
def Jw:=@Array.getElem?_toList
def Jx:=@Array.length_toList
def Jy:=@Array.setIfInBounds_comm
def Jz:=@Array.size_modify
def JA:=@Array.toList_zipIdx
def JB:=@Go.RowKit.Below.grown
def JC:=@Go.RowKit.Below.heap_alloc
def JD:=@Go.RowKit.Below.refl
def JE:=@BitVec.ofInt_natCast
def JF:=@BitVec.toNat_ofNat
def JG:=@Bool.and_eq_true
def JH:=@Bool.eq_false_iff
def JI:=@Bool.eq_iff_iff
def JJ:=@Bool.false_and
def JK:=@Bool.false_eq_true
def JL:=@Bool.false_or
def JM:=@Bool.not_eq_true
def JN:=@Bool.not_eq_true'
def JO:=@Bool.not_false
def JP:=@Bool.not_true
def JQ:=@Bool.or_eq_false_iff
def JR:=@Bool.or_eq_true
def JS:=@Bool.or_false
def JT:=@Bool.or_true
def JU:=@Bool.true_and
def JV:=@Go.Calls.mono
def JW:=@Classical.byContradiction
def JX:=@Classical.choose_spec
def JY:=@Classical.not_and_iff_not_or_not
def JZ:=@Classical.not_forall
def J0:=@Classical.not_not
def J1:=@Iff.rfl
def J2:=@Int.eq_ofNat_of_zero_le
def J3:=@Int.le_refl
def J4:=@Int.lt_irrefl
def J5:=@Int.not_lt
def J6:=@Int.one_mul
def J7:=@Int.toNat_natCast
def J8:=@Int.toNat_of_nonneg
def J9:=@List.all_eq_true
def J_:=@List.any_append
def Ka:=@List.any_eq_false
def Kb:=@List.any_eq_true
def Kc:=@List.append_assoc
def Kd:=@List.append_nil
def Ke:=@List.cons.inj
def Kf:=@List.cons.injEq
def Kg:=@List.cons_append
def Kh:=@List.contains_eq_any_beq
def Ki:=@List.contains_iff_mem
def Kj:=@List.countP_append
def Kk:=@List.countP_cons
def Kl:=@List.countP_le_length
def Km:=@List.countP_pos_iff
def Kn:=@List.countP_replicate
def Ko:=@List.countP_set
def Kp:=@List.drop_append
def Kq:=@List.drop_append_of_le_length
def Kr:=@List.drop_drop
def Ks:=@List.drop_eq_getElem_cons
def Kt:=@List.drop_eq_nil_of_le
def Ku:=@List.drop_length
def Kv:=@List.drop_succ_cons
def Kw:=@List.drop_zero
def Kx:=@List.eq_nil_of_length_eq_zero
def Ky:=@List.ext_getElem
def Kz:=@List.ext_getElem?
def KA:=@List.filter_append
def KB:=@List.filter_cons
def KC:=@List.filter_cons_of_neg
def KD:=@List.filter_cons_of_pos
def KE:=@List.filter_nil
def KF:=@List.findIdx?_eq_none_iff
def KG:=@List.findIdx?_eq_some_iff_getElem
def KH:=@List.flatMap_append
def KI:=@List.flatMap_cons
def KJ:=@List.flatten_cons
def KK:=@List.foldr_cons
def KL:=@List.getD_cons_succ
def KM:=@List.getD_cons_zero
def KN:=@List.getD_eq_getElem?_getD
def KO:=@List.getElem?_append_left
def KP:=@List.getElem?_append_right
def KQ:=@List.getElem?_cons_succ
def KR:=@List.getElem?_drop
def KT:=@List.getElem?_eq_getElem
def KU:=@List.getElem?_eq_none
def KV:=@List.getElem?_eq_some_iff
def KW:=@List.getElem?_map
def KX:=@List.getElem?_range
def KY:=@List.getElem?_replicate
def KZ:=@List.getElem?_set
def K0:=@List.getElem?_take
def K1:=@List.getElem?_take_of_lt
def K2:=@List.getElem_append_left
def K3:=@List.getElem_append_right
def K4:=@List.getElem_cons_succ
def K5:=@List.getElem_cons_zero
def K6:=@List.getElem_drop
def K7:=@List.getElem_map
def K8:=@List.getElem_mem
def K9:=@List.getElem_range
def K_:=@List.getElem_replicate
def La:=@List.getElem_set
def Lb:=@List.getElem_set_self
def Lc:=@List.getElem_take
def Ld:=@List.idxOf_append
def Le:=@List.idxOf_lt_length_iff
def Lf:=@List.isEmpty_iff
def Lg:=@List.length_append
def Lh:=@List.length_cons
def Li:=@List.length_drop
def Lj:=@List.length_eq_one_iff
def Lk:=@List.length_eq_zero_iff
def Ll:=@List.length_erase_of_mem
def Lm:=@List.length_filter_le
def Ln:=@List.length_map
def Lo:=@List.length_nil
def Lp:=@List.length_pos_iff
def Lq:=@List.length_range
def Lr:=@List.length_replicate
def Ls:=@List.length_reverse
def Lt:=@List.length_set
def Lu:=@List.length_singleton
def Lv:=@List.length_take
def Lx:=@List.mapM_cons
def Ly:=@List.mapM_nil
def Lz:=@List.map_append
def LA:=@List.map_congr_left
def LB:=@List.map_cons
def LC:=@List.map_map
def LD:=@List.map_nil
def LE:=@List.map_toArray
def LF:=@List.mem_append
def LG:=@List.mem_append_left
def LH:=@List.mem_append_right
def LI:=@List.mem_cons
def LJ:=@List.mem_cons_of_mem
def LK:=@List.mem_cons_self
def LL:=@List.mem_erase_of_ne
def LM:=@List.mem_filter
def LN:=@List.mem_flatMap
def LO:=@List.mem_iff_getElem
def LP:=@List.mem_map
def LQ:=@List.mem_map_of_mem
def LR:=@List.mem_of_getElem?
def LS:=@List.mem_of_mem_drop
def LT:=@List.mem_of_mem_take
def LU:=@List.mem_range
def LV:=@List.mem_singleton
def LW:=@List.ne_nil_of_length_pos
def LX:=@List.nil_append
def LY:=@List.nodup_append
def LZ:=@List.nodup_cons
def L0:=@List.nodup_range
def L1:=@List.not_mem_nil
def L2:=@List.pairwise_append
def L3:=@List.pairwise_cons
def L4:=@List.pairwise_iff_forall_sublist
def L5:=@List.pairwise_map
def L6:=@List.pairwise_singleton
def L7:=@List.range_succ
def L8:=@List.replicate_succ
def L9:=@List.replicate_succ'
def L_:=@List.set_eq_take_append_cons_drop
def Ma:=@List.set_getElem_self
def Mb:=@List.size_toArray
def Mc:=@List.sum_cons
def Md:=@List.take_add_one
def Me:=@List.take_append_getElem
def Mf:=@List.take_length
def Mg:=@List.take_of_length_le
def Mh:=@List.take_set_of_le
def Mi:=@List.take_succ_cons
def Mj:=@List.take_succ_eq_append_getElem
def Mk:=@List.take_zero
def Ml:=@Go.MapKept.run_getObj_map
def Mm:=@Go.MapKept.run_setObj_map
def Mn:=@Nat.add_comm
def Mo:=@Nat.add_mul
def Mp:=@Nat.add_mul_mod_self_right
def Mq:=@Nat.add_right_comm
def Mr:=@Nat.add_sub_cancel_left
def Ms:=@Nat.add_zero
def Mt:=@Nat.beq_refl
def Mu:=@Nat.div_eq_of_lt
def Mv:=@Nat.div_lt_iff_lt_mul
def Mw:=@Nat.eq_of_beq_eq_true
def Mx:=@Nat.eq_of_testBit_eq
def My:=@Nat.eq_zero_or_pos
def Mz:=@Nat.exists_eq_add_of_le
def MA:=@Nat.le_of_ble_eq_true
def MB:=@Nat.le_of_eq
def MC:=@Nat.le_of_lt
def MD:=@Nat.le_of_not_lt
def MF:=@Nat.le_refl
def MH:=@Nat.le_trans
def MI:=@Nat.lt_irrefl
def MJ:=@Nat.lt_of_le_of_lt
def MK:=@Nat.lt_of_lt_of_le
def MM:=@Nat.lt_or_ge
def MN:=@Nat.min_eq_left
def MO:=@Nat.mod_eq_of_lt
def MP:=@Nat.mod_lt
def MQ:=@Nat.mul_add_mod
def MR:=@Nat.mul_le_mul
def MS:=@Nat.mul_le_mul_left
def MT:=@Nat.mul_le_mul_right
def MU:=@Nat.mul_one
def MV:=@Nat.not_lt_zero
def MW:=@Nat.one_le_two_pow
def MX:=@Nat.one_mul
def MY:=@Nat.one_shiftLeft
def MZ:=@Nat.or_lt_two_pow
def M0:=@Nat.pow_le_pow_right
def M1:=@Nat.pow_lt_pow_right
def M2:=@Nat.shiftRight_eq_div_pow
def M3:=@Nat.shiftRight_le
def M4:=@Nat.sub_self
def M5:=@Nat.succ_le_of_lt
def M6:=@Nat.testBit_and
def M7:=@Nat.testBit_shiftRight
def M8:=@Nat.zero_add
def M9:=@Nat.zero_le
def M_:=@Nat.zero_testBit
def Na:=@Ne.symm
def Nb:=@Go.Oper.wp_mono
def Nc:=@Option.bind_eq_bind
def Nd:=@Option.bind_eq_some_iff
def Nf:=@Option.bind_some
def Ng:=@Option.getD_some
def Nh:=@Option.map_eq_some_iff
def Ni:=@Option.pure_def
def Nj:=@Option.some.inj
def Nk:=@Option.some.injEq
def Nl:=@Prod.mk.inj
def Nm:=@Prod.mk.injEq
def Nn:=@Go.Program.keyLits.eq_def
def No:=@Go.Region.free_spec
def Np:=@Go.Region.noSelect_spec
def Nq:=@Go.Result.andThen_ok
def Nr:=@Go.Sem.run_bind
def Ns:=@Go.Sem.run_pure
def Nt:=@Go.Proofs.Tryz.func3
def Nu:=@Go.Proofs.Tryz.func73
def Nv:=@Go.Proofs.Tryz.isAgg3
def Nx:=@Go.Proofs.Tryz.isAgg4
def Ny:=@Go.Proofs.Tryz.ntmps73
def Nz:=@Go.Proofs.Tryz.sizeOf221
def NA:=@Go.Proofs.Tryz.sizeOf263
def NB:=@Go.Proofs.Tryz.sizeOf3
def NC:=@Go.Proofs.Tryz.sizeOf4
def ND:=@Go.Proofs.Tryz.underlying120
def NE:=@Go.Proofs.Tryz.underlying145
def NF:=@Go.Proofs.Tryz.underlying168
def NG:=@Go.Proofs.Tryz.underlying173
def NH:=@Go.Proofs.Tryz.underlying22
def NI:=@Go.Proofs.Tryz.underlying221
def NJ:=@Go.Proofs.Tryz.underlying23
def NK:=@Go.Proofs.Tryz.underlying237
def NL:=@Go.Proofs.Tryz.underlying239
def NM:=@Go.Proofs.Tryz.underlying26
def NO:=@Go.Proofs.Tryz.underlying263
def NP:=@Go.Proofs.Tryz.underlying3
def NQ:=@Go.Proofs.Tryz.underlying31
def NR:=@Go.Proofs.Tryz.underlying33
def NS:=@Go.Proofs.Tryz.underlying39
def NT:=@Go.Proofs.Tryz.underlying4
def NU:=@Go.Proofs.Tryz.underlying48
def NV:=@Go.Proofs.Tryz.underlying49
def NW:=@Go.Proofs.Tryz.underlying5
def NX:=@Go.Proofs.Tryz.underlying52
def NY:=@Go.Proofs.Tryz.underlying56
def NZ:=@Go.Proofs.Tryz.underlying58
def N0:=@Go.Proofs.Tryz.underlying70
def N4:=@Go.Proofs.Tryz.underlying76
def N5:=@Go.Proofs.Tryz.underlying82
def N6:=@Go.Proofs.Tryz.underlying9
def N7:=@Go.Proofs.Tryz.zeroValue221
def N8:=@Go.Proofs.Tryz.zeroValue263
def N9:=@Go.Proofs.Tryz.zeroValue3
def N_:=@Go.Proofs.Tryz.zeroValue4
def Oa:=@Go.Proofs.Tryz.zeroValue5
def Ob:=@Go.Proofs.Tryz.zeroValue9
def Oc:=@Go.Value.slice.inj
def Od:=@Go.WideShapes.add_plain
def Oe:=@Go.World.block_lt_of_cell?
def Of:=@and_assoc
def Og:=@and_congr
def Oh:=@and_congr_right
def Oi:=@beq_eq_false_iff_ne
def Oj:=@beq_iff_eq
def Ok:=@beq_self_eq_true
def Ol:=@Go.bits_and_u64_nat
def Om:=@bne_iff_ne
def On:=@Go.bodyPost_ret
def Oo:=@Go.cell_of_row
def Oq:=@congrArg
def Or:=@decide_eq_decide
def Ot:=@decide_eq_false
def Ou:=@decide_eq_false_iff_not
def Ov:=@decide_eq_true
def Ow:=@decide_eq_true_eq
def Ox:=@decide_eq_true_iff
def Oy:=@dif_pos
def Oz:=@gt_iff_lt
def OA:=@Go.heap_alloc_new
def OC:=@if_false
def OD:=@if_neg
def OE:=@if_pos
def OF:=@if_true
def OG:=@Go.mem_ready
def OH:=@not_congr
def OI:=@not_or
def OJ:=@of_decide_eq_false
def OK:=@of_decide_eq_true
def OL:=@Go.ready_mono
def OM:=@Go.run_loadCells_list
def ON:=@Go.run_program
def OO:=@Go.run_storeCells_at
def OP:=@Go.run_underlying
def OQ:=@Go.setRow_heap
def OR:=@Go.setRow_other
def OS:=@Go.wpAnyH_all
def OT:=@Go.wpList_step
def OU:=@Go.wpOp_mono
def OW:=@Go.wpQuiet_step
def OX:=@Go.wp_mono
def OY:=@Go.wp_region_any
theorem O_{p:Prop}(s:p:=by exact fun _=>rfl):p:=s
theorem Pa{p:Prop}(s:p:=by exact fun v γ γ' w w' h e _=>h.ext e):p:=s
theorem Pb{p:Prop}(s:p:=by exact fun g hg=>by cases hg;exact MF _):p:=s
theorem Pc{p:Prop}(s:p:=by exact fun _ h=>h.elim):p:=s
theorem Pd{p:Prop}(s:p:=by exact fun g hg=>by cases hg;omega):p:=s
theorem Pe{p:Prop}(s:p:=by exact fun _ h=>h):p:=s
theorem Pf{p:Prop}(s:p:=by exact fun _ _=>⟨none,0,rfl,by simp,by simp[maxLen],fun _=>rfl,fun i hi=>absurd hi (by simp)⟩):p:=s
theorem Pg{p:Prop}(s:p:=by exact fun k h=>by cases h):p:=s
theorem Ph{p:Prop}(s:p:=by exact fun e=>by have:=Nj e;omega):p:=s
theorem Pi{p:Prop}(s:p:=by exact fun g hg=>by cases hg;exact .inl rfl):p:=s
theorem Pj{p:Prop}(s:p:=by exact fun _ _=>rfl):p:=s
theorem Pk{p:Prop}(s:p:=by exact AF rfl):p:=s
theorem Pl{p:Prop}(s:p:=by exact Rd.mkInt _ _ _):p:=s
theorem Pm{p:Prop}(s:p:=by exact MF _):p:=s
theorem Pn{p:Prop}(s:p:=by exact JD _ _):p:=s
theorem Po{p:Prop}(s:p:=by exact Ext.refl _):p:=s
theorem Pp{p:Prop}(s:p:=by exact WL.nil (a8 rfl (Ext.refl _) rfl)):p:=s
theorem OZ{p:Prop}(s:p:=by repeat (first|exact trivial|refine⟨rfl,?_⟩)):p:=s
theorem O0{p:Prop}(s:p:=by omega):p:=s
theorem O1{p:Prop}(s:p:=by kernel_rfl):p:=s
theorem O2{p:Prop}(s:p:=by decide):p:=s
theorem O3{p:Prop}(s:p:=by simp):p:=s
theorem O4{p:Prop}(s:p:=by dsimp only;omega):p:=s
theorem O5{p:Prop}(s:p:=by unfold maxLen;omega):p:=s
theorem O6{p:Prop}(s:p:=by simp;omega):p:=s
theorem O7{p:Prop}(s:p:=by simp only[Lh,Lo];omega):p:=s
theorem O8{p:Prop}(s:p:=by simp only[Lg,Lh,Lo];omega):p:=s
theorem O9{p:Prop}(s:p:=by rw[Ln];omega):p:=s
theorem Pt{p q:Prop}(k:q)(s:Hid_ q→p:=by intro k;(repeat (first|(apply fm;rfl;rfl;rfl)|(apply WL.nil)|(apply bz)|(apply CW.seq)|(apply CW.region)|(apply CW.ret)|(apply bA)|(apply aY)));exact k.o):p:=s ⟨k⟩
theorem Pu{p q:Prop}(k:q)(s:Hid_ q→p:=by intro k;(repeat (first|(apply CW.seq)|(apply CW.region)));exact k.o):p:=s ⟨k⟩
theorem Pv{p q:Prop}(k:q)(s:Hid_ q→p:=by intro k;(repeat (apply bz));exact k.o):p:=s ⟨k⟩
theorem Pw{p q:Prop}(k:q)(s:Hid_ q→p:=by intro k;(repeat (apply CW.skip));exact k.o):p:=s ⟨k⟩
theorem Px{p q:Prop}(k:q)(s:Hid_ q→p:=by intro k;(repeat (first|(apply fm;rfl;rfl;rfl)|(apply WL.nil)|(apply bz)|(apply WL.pass;rfl;rfl)|(apply ax;rfl)|(apply CW.skip)));exact k.o):p:=s ⟨k⟩
theorem Py{p q:Prop}(k:q)(s:Hid_ q→p:=by intro k;(repeat (first|(apply fm;rfl;rfl;rfl)|(apply WL.nil)|(apply WL.pass;rfl;rfl)));exact k.o):p:=s ⟨k⟩
theorem Pz{p q:Prop}(k:q)(s:Hid_ q→p:=by intro k;(repeat (first|(apply WL.add;rfl;rfl;rfl;rfl;omega;omega)|(apply fm;rfl;rfl;rfl)|(apply WL.nil)|(apply bz)|(apply CW.region)|(apply aX)|(apply CW.skip)));exact k.o):p:=s ⟨k⟩
theorem PA{p q:Prop}(k:q)(s:Hid_ q→p:=by intro k;(repeat (first|(apply WL.nil)|(apply bz)|(apply CW.seq)|(apply CW.region)|(apply eM;rfl;rfl;rfl;assumption;rfl)));exact k.o):p:=s ⟨k⟩
theorem PB{p q:Prop}(k:q)(s:Hid_ q→p:=by intro k;(repeat (first|(apply fm;rfl;rfl;rfl)|(apply WL.nil)|(apply bz)|(apply CW.ret)));exact k.o):p:=s ⟨k⟩
theorem PC{p q:Prop}(k:q)(s:Hid_ q→p:=by intro k;(repeat (first|(apply fm;rfl;rfl;rfl)|(apply WL.nil)|(apply bz)|(apply WL.pass;rfl;rfl)|(apply CW.ret)));exact k.o):p:=s ⟨k⟩
theorem PD{p q:Prop}(k:q)(s:Hid_ q→p:=by intro k;(repeat (first|(apply fm;rfl;rfl;rfl)|(apply WL.nil)|(apply bz)|(apply CW.seq)|(apply CW.region)|(apply WL.pass;rfl;rfl)|(apply ax;rfl)|(apply CW.ret)|(apply bA)|(apply aY)));exact k.o):p:=s ⟨k⟩
theorem PE{p q:Prop}(k:q)(s:Hid_ q→p:=by intro k;(repeat (first|(apply fm;rfl;rfl;rfl)|(apply WL.nil)|(apply bz)));exact k.o):p:=s ⟨k⟩
theorem PH{p q:Prop}(k:q)(s:Hid_ q→p:=by intro k;(repeat (first|(apply WL.nil)|(apply bz)|(apply CW.ret)));exact k.o):p:=s ⟨k⟩
theorem PI{p q:Prop}(k:q)(s:Hid_ q→p:=by intro k;(repeat (first|(apply WL.nil)|(apply bz)|(apply CW.seq)));exact k.o):p:=s ⟨k⟩
theorem PJ{p q:Prop}(k:q)(s:Hid_ q→p:=by intro k;(repeat (first|(apply bz)|(apply CW.ret)));exact k.o):p:=s ⟨k⟩
theorem PK{p q:Prop}(k:q)(s:Hid_ q→p:=by intro k;(repeat (first|(apply fm;rfl;rfl;rfl)|(apply WL.nil)|(apply bz)|(apply CW.ret)|(apply bA)));exact k.o):p:=s ⟨k⟩
theorem PL{p q:Prop}(k:q)(s:Hid_ q→p:=by intro k;(repeat (first|(apply fm;rfl;rfl;rfl)|(apply WL.nil)|(apply bz)|(apply CW.seq)|(apply CW.region)|(apply CW.block)|(apply CW.skip)));exact k.o):p:=s ⟨k⟩
theorem PM{p q:Prop}(k:q)(s:Hid_ q→p:=by intro k;(repeat (first|(apply WL.nil)|(apply bz)));exact k.o):p:=s ⟨k⟩
theorem PN{p q:Prop}(k:q)(s:Hid_ q→p:=by intro k;(repeat (first|(apply fm;rfl;rfl;rfl)|(apply WL.nil)|(apply bz)|(apply CW.seq)|(apply CW.region)|(refine eO rfl rfl rfl (by assumption) ?_)));exact k.o):p:=s ⟨k⟩
theorem PO{p q:Prop}(k:q)(s:Hid_ q→p:=by intro k;(repeat (first|(apply fm;rfl;rfl;rfl)|(apply CW.seq)|(apply CW.region)));exact k.o):p:=s ⟨k⟩
theorem PP{p q:Prop}(k:q)(s:Hid_ q→p:=by intro k;(repeat (first|(apply fm;rfl;rfl;rfl)|(apply bz)|(apply CW.seq)|(apply CW.region)|(apply CW.block)|(apply CW.skip)));exact k.o):p:=s ⟨k⟩
theorem PQ{p q:Prop}(k:q)(s:Hid_ q→p:=by intro k;(repeat (first|(apply fm;rfl;rfl;rfl)|(apply CW.region)));exact k.o):p:=s ⟨k⟩
theorem PS{p q:Prop}(k:q)(s:Hid_ q→p:=by intro k;(repeat (apply WL.nil));exact k.o):p:=s ⟨k⟩
theorem PT{p q:Prop}(k:q)(s:Hid_ q→p:=by intro k;(repeat (first|(apply WL.add;rfl;rfl;rfl;rfl;omega;omega)|(apply fm;rfl;rfl;rfl)|(apply WL.nil)|(apply bz)|(apply CW.region)|(apply aX)|(apply aw;rfl)|(apply CW.skip)));exact k.o):p:=s ⟨k⟩
theorem PU{p q:Prop}(k:q)(s:Hid_ q→p:=by intro k;(repeat (apply CW.seq));exact k.o):p:=s ⟨k⟩
theorem PV{p q:Prop}(k:q)(s:Hid_ q→p:=by intro k;(repeat (first|(apply fm;rfl;rfl;rfl)|(apply WL.nil)|(apply bz)|(apply CW.ret)|(apply bA)|(apply aY)));exact k.o):p:=s ⟨k⟩
theorem PW{p q:Prop}(k:q)(s:Hid_ q→p:=by intro k;(repeat (first|(apply WL.add;rfl;rfl;rfl;rfl;omega;omega)|(apply fm;rfl;rfl;rfl)|(apply WL.nil)|(apply bz)|(apply CW.region)|(apply aX)|(apply ax;rfl)));exact k.o):p:=s ⟨k⟩
theorem PX{p q:Prop}(k:q)(s:Hid_ q→p:=by intro k;(repeat (first|(apply fm;rfl;rfl;rfl)|(apply bz)|(apply CW.seq)|(apply CW.region)|(apply eM;rfl;rfl;rfl;assumption;rfl)|(apply CW.skip)));exact k.o):p:=s ⟨k⟩
theorem PY{p q:Prop}(k:q)(s:Hid_ q→p:=by intro k;(repeat (first|(apply ax;rfl)|(apply CW.skip)));exact k.o):p:=s ⟨k⟩
theorem PZ{p q:Prop}(k:q)(s:Hid_ q→p:=by intro k;(repeat (first|(apply fm;rfl;rfl;rfl)|(apply WL.nil)|(apply bz)|(apply CW.seq)|(apply CW.region)|(apply aX)|(apply CW.exit)|(apply bB)|(apply aZ)|(apply CW.ret)));exact k.o):p:=s ⟨k⟩
theorem P0{p q:Prop}(k:q)(s:Hid_ q→p:=by intro k;(repeat (first|(apply CW.seq)|(apply CW.region)|(apply eG;rfl;rfl;rfl)|(apply eM;rfl;rfl;rfl;assumption;rfl)));exact k.o):p:=s ⟨k⟩
theorem P1{p q:Prop}(k:q)(s:Hid_ q→p:=by intro k;(repeat (first|(apply fm;rfl;rfl;rfl)|(apply WL.nil)|(apply bz)|(apply CW.seq)|(apply CW.region)|(apply eG;rfl;rfl;rfl)|(apply eL;rfl;rfl;rfl;assumption;rfl)|(apply CW.block)|(apply ax;rfl)|(apply aw;rfl)|(apply CW.ret)|(apply bA)|(apply aY)));exact k.o):p:=s ⟨k⟩
theorem P2{p q:Prop}(k:q)(s:Hid_ q→p:=by intro k;(repeat (first|(apply fm;rfl;rfl;rfl)|(apply WL.nil)|(apply bz)|(apply eQ;rfl;rfl;rfl)|(apply eG;rfl;rfl;rfl)|(apply eL;rfl;rfl;rfl;assumption;rfl)));exact k.o):p:=s ⟨k⟩
theorem P3{p q:Prop}(k:q)(s:Hid_ q→p:=by intro k;(repeat (first|(apply fm;rfl;rfl;rfl)|(apply WL.nil)|(apply bz)|(apply CW.seq)|(apply CW.region)|(apply CW.exit)|(apply bB)|(apply aZ)|(apply CW.ret)));exact k.o):p:=s ⟨k⟩
theorem P4{p q:Prop}(k:q)(s:Hid_ q→p:=by intro k;(repeat (first|(apply fm;rfl;rfl;rfl)|(apply WL.nil)|(apply bz)|(apply CW.seq)|(apply CW.region)|(apply eL;rfl;rfl;rfl;assumption;rfl)));exact k.o):p:=s ⟨k⟩
theorem P5{p q:Prop}(k:q)(s:Hid_ q→p:=by intro k;(repeat (first|(apply fm;rfl;rfl;rfl)|(apply WL.nil)|(apply bz)|(apply WL.pass;rfl;rfl)|(apply CW.ret)|(apply bA)|(apply aY)));exact k.o):p:=s ⟨k⟩
theorem P6{p q:Prop}(k:q)(s:Hid_ q→p:=by intro k;(repeat (first|(apply WL.add;rfl;rfl;rfl;rfl;omega;omega)|(apply fm;rfl;rfl;rfl)|(apply WL.nil)|(apply bz)|(apply CW.region)|(apply aX)));exact k.o):p:=s ⟨k⟩
theorem P7{p q:Prop}(k:q)(s:Hid_ q→p:=by intro k;(repeat (first|(apply fm;rfl;rfl;rfl)|(apply WL.nil)|(apply bz)|(apply CW.seq)|(apply CW.region)|(apply eQ;rfl;rfl;rfl)|(apply CW.block)|(apply ax;rfl)));exact k.o):p:=s ⟨k⟩
theorem P8{p q:Prop}(k:q)(s:Hid_ q→p:=by intro k;(repeat (first|(apply WL.add;rfl;rfl;rfl;rfl;omega;omega)|(apply fm;rfl;rfl;rfl)|(apply WL.nil)|(apply bz)|(apply CW.region)|(apply aX)|(apply CW.exit)|(apply bB)|(apply aZ)));exact k.o):p:=s ⟨k⟩
theorem P9{p q:Prop}(k:q)(s:Hid_ q→p:=by intro k;(repeat (first|(apply bz)|(apply aX)|(apply CW.exit)|(apply bB)|(apply aZ)|(apply CW.skip)));exact k.o):p:=s ⟨k⟩
theorem P_{p q:Prop}(k:q)(s:Hid_ q→p:=by intro k;(repeat (first|(apply WL.add;rfl;rfl;rfl;rfl;omega;omega)|(apply fm;rfl;rfl;rfl)|(apply WL.nil)|(apply bz)|(apply CW.seq)|(apply CW.region)|(apply WL.pass;rfl;rfl)|(apply eM;rfl;rfl;rfl;assumption;rfl)));exact k.o):p:=s ⟨k⟩
theorem Qa{p q:Prop}(k:q)(s:Hid_ q→p:=by intro k;(repeat (first|(apply fm;rfl;rfl;rfl)|(apply WL.nil)|(apply bz)|(apply CW.seq)|(apply CW.region)|(apply WL.pass;rfl;rfl)|(apply aX)|(apply aw;rfl)|(apply CW.ret)|(apply CW.skip)));exact k.o):p:=s ⟨k⟩
theorem Qb{p q:Prop}(k:q)(s:Hid_ q→p:=by intro k;(repeat (first|(apply fm;rfl;rfl;rfl)|(apply bz)|(apply CW.seq)|(apply CW.region)|(apply ax;rfl)|(apply CW.exit)|(apply bB)|(apply aZ)|(apply a7;rfl)|(apply CW.skip)));exact k.o):p:=s ⟨k⟩
theorem Qc{p q:Prop}(k:q)(s:Hid_ q→p:=by intro k;(repeat (first|(apply fm;rfl;rfl;rfl)|(apply WL.nil)|(apply bz)|(apply CW.seq)|(apply CW.region)|(apply CW.block)));exact k.o):p:=s ⟨k⟩
theorem Qd{p q:Prop}(k:q)(s:Hid_ q→p:=by intro k;(repeat (first|(apply bz)|(apply CW.ret)|(apply bA)|(apply aY)));exact k.o):p:=s ⟨k⟩
theorem Qe{p q:Prop}(k:q)(s:Hid_ q→p:=by intro k;(repeat (first|(apply bz)|(apply CW.seq)|(apply CW.region)|(apply eG;rfl;rfl;rfl)|(apply eL;rfl;rfl;rfl;assumption;rfl)|(apply eM;rfl;rfl;rfl;assumption;rfl)|(apply aX)|(apply aw;rfl)|(apply CW.skip)));exact k.o):p:=s ⟨k⟩
theorem Qf{p q:Prop}(k:q)(s:Hid_ q→p:=by intro k;(repeat (first|(apply fm;rfl;rfl;rfl)|(apply bz)|(apply CW.seq)|(apply CW.region)|(apply CW.skip)));exact k.o):p:=s ⟨k⟩
theorem Qg{p q:Prop}(k:q)(s:Hid_ q→p:=by intro k;(repeat (first|(apply WL.add;rfl;rfl;rfl;rfl;omega;omega)|(apply fm;rfl;rfl;rfl)|(apply WL.nil)|(apply bz)|(apply CW.seq)|(apply CW.region)|(apply eG;rfl;rfl;rfl)|(apply fh;rfl;rfl;rfl)|(apply eL;rfl;rfl;rfl;assumption;rfl)|(apply aX)));exact k.o):p:=s ⟨k⟩
theorem Qh{p q:Prop}(k:q)(s:Hid_ q→p:=by intro k;(repeat (first|(apply fm;rfl;rfl;rfl)|(apply bz)|(apply CW.seq)|(apply CW.region)|(apply CW.exit)|(apply bB)|(apply aZ)));exact k.o):p:=s ⟨k⟩
theorem Qi{p q:Prop}(k:q)(s:Hid_ q→p:=by intro k;(repeat (first|(apply WL.nil)|(apply bz)|(apply CW.ret)|(apply bA)|(apply aY)));exact k.o):p:=s ⟨k⟩
theorem Qj{p q:Prop}(k:q)(s:Hid_ q→p:=by intro k;(repeat (first|(apply fm;rfl;rfl;rfl)|(apply WL.nil)|(apply bz)|(apply CW.region)));exact k.o):p:=s ⟨k⟩
theorem Qk{p q:Prop}(k:q)(s:Hid_ q→p:=by intro k;(repeat (first|(apply bz)|(apply CW.seq)|(apply CW.region)|(apply aX)|(apply CW.skip)));exact k.o):p:=s ⟨k⟩
theorem Ql{p q:Prop}(k:q)(s:Hid_ q→p:=by intro k;(repeat (first|(apply fm;rfl;rfl;rfl)|(apply WL.nil)|(apply bz)|(apply eQ;rfl;rfl;rfl)|(apply CW.block)));exact k.o):p:=s ⟨k⟩
theorem Qm{p q:Prop}(k:q)(s:Hid_ q→p:=by intro k;(repeat (first|(apply fm;rfl;rfl;rfl)|(apply WL.nil)|(apply bz)|(apply CW.seq)|(apply CW.region)));exact k.o):p:=s ⟨k⟩
theorem Qn{p q:Prop}(k:q)(s:Hid_ q→p:=by intro k;(repeat (first|(apply CW.seq)|(apply ax;rfl)));exact k.o):p:=s ⟨k⟩
theorem Qo{p q:Prop}(k:q)(s:Hid_ q→p:=by intro k;(repeat (first|(apply fm;rfl;rfl;rfl)|(apply WL.nil)|(apply bz)|(apply CW.seq)|(apply CW.region)|(apply eQ;rfl;rfl;rfl)|(apply eG;rfl;rfl;rfl)|(apply fh;rfl;rfl;rfl)|(apply eL;rfl;rfl;rfl;assumption;rfl)|(apply CW.block)|(apply CW.exit)|(apply bB)|(apply aZ)|(apply CW.ret)));exact k.o):p:=s ⟨k⟩
theorem Qp{p q:Prop}(k:q)(s:Hid_ q→p:=by intro k;(repeat (first|(apply fm;rfl;rfl;rfl)|(apply WL.nil)|(apply bz)|(apply CW.seq)|(apply CW.region)|(apply aw;rfl)|(apply CW.skip)));exact k.o):p:=s ⟨k⟩
theorem Qq{p q:Prop}(k:q)(s:Hid_ q→p:=by intro k;(repeat (first|(apply bz)|(apply CW.seq)|(apply CW.region)|(apply WL.makeFunc;rfl;rfl;rfl;rfl)|(apply eG;rfl;rfl;rfl)|(apply eL;rfl;rfl;rfl;assumption;rfl)|(apply eM;rfl;rfl;rfl;assumption;rfl)|(apply CW.skip)));exact k.o):p:=s ⟨k⟩
theorem Qr{p q:Prop}(k:q)(s:Hid_ q→p:=by intro k;(repeat (first|(apply WL.add;rfl;rfl;rfl;rfl;omega;omega)|(apply fm;rfl;rfl;rfl)|(apply WL.nil)|(apply bz)|(apply CW.seq)|(apply CW.region)|(apply WL.pass;rfl;rfl)|(apply aX)|(apply aw;rfl)|(apply CW.skip)));exact k.o):p:=s ⟨k⟩
theorem Qs{p q:Prop}(k:q)(s:Hid_ q→p:=by intro k;(repeat (first|(apply fm;rfl;rfl;rfl)|(apply WL.nil)|(apply bz)|(apply CW.seq)|(apply CW.region)|(apply WL.makeFunc;rfl;rfl;rfl;rfl)|(apply eG;rfl;rfl;rfl)|(apply eL;rfl;rfl;rfl;assumption;rfl)|(apply CW.block)|(apply ax;rfl)|(apply aw;rfl)));exact k.o):p:=s ⟨k⟩
theorem Qt{p q:Prop}(k:q)(s:Hid_ q→p:=by intro k;(repeat (first|(apply fm;rfl;rfl;rfl)|(apply WL.nil)|(apply bz)|(apply CW.seq)|(apply CW.region)|(apply aw;rfl)));exact k.o):p:=s ⟨k⟩
theorem Qu{p q:Prop}(k:q)(s:Hid_ q→p:=by intro k;(repeat (first|(apply fm;rfl;rfl;rfl)|(apply CW.seq)|(apply CW.region)|(apply ax;rfl)));exact k.o):p:=s ⟨k⟩
theorem Qv{p q:Prop}(k:q)(s:Hid_ q→p:=by intro k;(repeat (first|(apply fm;rfl;rfl;rfl)|(apply WL.nil)|(apply bz)|(apply CW.seq)|(apply CW.region)|(apply eG;rfl;rfl;rfl)|(apply eL;rfl;rfl;rfl;assumption;rfl)|(apply CW.ret)));exact k.o):p:=s ⟨k⟩
theorem Qw{p q:Prop}(k:q)(s:Hid_ q→p:=by intro k;(repeat (first|(apply fm;rfl;rfl;rfl)|(apply WL.nil)|(apply bz)|(apply CW.seq)|(apply CW.region)|(apply eG;rfl;rfl;rfl)|(apply fh;rfl;rfl;rfl)|(apply eL;rfl;rfl;rfl;assumption;rfl)));exact k.o):p:=s ⟨k⟩
theorem Qx{p q:Prop}(k:q)(s:Hid_ q→p:=by intro k;(repeat (first|(apply fm;rfl;rfl;rfl)|(apply WL.nil)|(apply bz)|(apply CW.seq)|(apply CW.region)|(apply WL.pass;rfl;rfl)|(apply ax;rfl)|(apply aw;rfl)|(apply CW.exit)|(apply bB)|(apply aZ)|(apply a7;rfl)|(apply CW.ret)|(apply CW.skip)));exact k.o):p:=s ⟨k⟩
theorem Qy{p q:Prop}(k:q)(s:Hid_ q→p:=by intro k;(repeat (first|(apply fC;rfl;rfl;rfl;rfl;omega;omega)|(apply fm;rfl;rfl;rfl)|(apply WL.nil)|(apply bz)|(apply CW.seq)|(apply CW.region)|(apply eQ;rfl;rfl;rfl)|(apply eK;rfl;rfl;rfl)));exact k.o):p:=s ⟨k⟩
theorem Qz{p q:Prop}(k:q)(s:Hid_ q→p:=by intro k;(repeat (first|(apply fm;rfl;rfl;rfl)|(apply WL.nil)|(apply bz)|(apply CW.seq)|(apply CW.region)|(apply eQ;rfl;rfl;rfl)|(apply eG;rfl;rfl;rfl)|(apply fh;rfl;rfl;rfl)|(apply eL;rfl;rfl;rfl;assumption;rfl)|(apply CW.block)));exact k.o):p:=s ⟨k⟩
theorem QA{p q:Prop}(k:q)(s:Hid_ q→p:=by intro k;(repeat (first|(apply aX)|(apply CW.exit)|(apply bB)|(apply aZ)));exact k.o):p:=s ⟨k⟩
theorem QB{p q:Prop}(k:q)(s:Hid_ q→p:=by intro k;(repeat (first|(apply CW.region)|(apply eG;rfl;rfl;rfl)|(apply eL;rfl;rfl;rfl;assumption;rfl)|(apply eM;rfl;rfl;rfl;assumption;rfl)));exact k.o):p:=s ⟨k⟩
theorem QC{p q:Prop}(k:q)(s:Hid_ q→p:=by intro k;(repeat (first|(apply bz)|(apply CW.seq)|(apply CW.region)|(apply eM;rfl;rfl;rfl;assumption;rfl)|(apply CW.skip)));exact k.o):p:=s ⟨k⟩
theorem QD{p q:Prop}(k:q)(s:Hid_ q→p:=by intro k;(repeat (first|(apply fm;rfl;rfl;rfl)|(apply WL.nil)|(apply bz)|(apply CW.seq)|(apply CW.region)|(apply eQ;rfl;rfl;rfl)|(apply eG;rfl;rfl;rfl)|(apply fh;rfl;rfl;rfl)|(apply eL;rfl;rfl;rfl;assumption;rfl)|(apply CW.block)|(apply aw;rfl)|(apply CW.skip)));exact k.o):p:=s ⟨k⟩
theorem QE{p q:Prop}(k:q)(s:Hid_ q→p:=by intro k;(repeat (first|(apply fm;rfl;rfl;rfl)|(apply WL.nil)|(apply bz)|(apply CW.seq)|(apply CW.region)|(apply WL.makeFunc;rfl;rfl;rfl;rfl)));exact k.o):p:=s ⟨k⟩
theorem QF{p q:Prop}(k:q)(s:Hid_ q→p:=by intro k;(repeat (first|(apply fm;rfl;rfl;rfl)|(apply WL.nil)|(apply bz)|(apply CW.seq)|(apply CW.region)|(apply ax;rfl)|(apply CW.ret)|(apply bA)|(apply aY)|(apply CW.skip)));exact k.o):p:=s ⟨k⟩
theorem QG{p q:Prop}(k:q)(s:Hid_ q→p:=by intro k;(repeat (first|(apply fm;rfl;rfl;rfl)|(apply WL.nil)|(apply bz)|(apply eG;rfl;rfl;rfl)|(apply eL;rfl;rfl;rfl;assumption;rfl)));exact k.o):p:=s ⟨k⟩
theorem QH{p q:Prop}(k:q)(s:Hid_ q→p:=by intro k;(repeat (first|(apply fm;rfl;rfl;rfl)|(apply WL.nil)|(apply bz)|(apply CW.seq)|(apply CW.region)|(apply eG;rfl;rfl;rfl)|(apply fh;rfl;rfl;rfl)|(apply eL;rfl;rfl;rfl;assumption;rfl)|(apply eM;rfl;rfl;rfl;assumption;rfl)|(apply ax;rfl)));exact k.o):p:=s ⟨k⟩
theorem QI{p q:Prop}(k:q)(s:Hid_ q→p:=by intro k;(repeat (first|(apply fm;rfl;rfl;rfl)|(apply WL.nil)|(apply bz)|(apply CW.seq)|(apply CW.region)|(apply eQ;rfl;rfl;rfl)|(apply eM;rfl;rfl;rfl;assumption;rfl)|(apply CW.block)|(apply aw;rfl)|(apply CW.skip)));exact k.o):p:=s ⟨k⟩
theorem QJ{p q:Prop}(k:q)(s:Hid_ q→p:=by intro k;(repeat (first|(apply fm;rfl;rfl;rfl)|(apply WL.nil)|(apply bz)|(apply CW.seq)|(apply CW.region)|(apply CW.ret)|(apply bA)));exact k.o):p:=s ⟨k⟩
theorem QK{p q:Prop}(k:q)(s:Hid_ q→p:=by intro k;(repeat (first|(apply fm;rfl;rfl;rfl)|(apply WL.nil)|(apply bz)|(apply CW.seq)|(apply CW.region)|(apply eQ;rfl;rfl;rfl)|(apply eG;rfl;rfl;rfl)|(apply eL;rfl;rfl;rfl;assumption;rfl)|(apply CW.block)|(apply aX)|(apply CW.skip)));exact k.o):p:=s ⟨k⟩
theorem QM{p q:Prop}(k:q)(s:Hid_ q→p:=by intro k;(repeat (first|(apply fm;rfl;rfl;rfl)|(apply WL.nil)|(apply bz)|(apply CW.seq)|(apply CW.region)|(apply eG;rfl;rfl;rfl)|(apply eL;rfl;rfl;rfl;assumption;rfl)));exact k.o):p:=s ⟨k⟩
theorem QN{p q:Prop}(k:q)(s:Hid_ q→p:=by intro k;(repeat (first|(apply fC;rfl;rfl;rfl;rfl;omega;omega)|(apply fm;rfl;rfl;rfl)|(apply WL.nil)|(apply bz)|(apply CW.seq)|(apply CW.region)|(apply eQ;rfl;rfl;rfl)|(apply CW.block)|(apply CW.skip)|(refine eO rfl rfl rfl (by assumption) ?_)));exact k.o):p:=s ⟨k⟩
theorem QO{p q:Prop}(k:q)(s:Hid_ q→p:=by intro k;(repeat (first|(apply CW.seq)|(apply CW.region)|(apply WL.makeFunc;rfl;rfl;rfl;rfl)|(apply eG;rfl;rfl;rfl)|(apply eL;rfl;rfl;rfl;assumption;rfl)|(apply ax;rfl)));exact k.o):p:=s ⟨k⟩
theorem QP{p q:Prop}(k:q)(s:Hid_ q→p:=by intro k;(repeat (first|(apply fm;rfl;rfl;rfl)|(apply bz)|(apply CW.seq)|(apply CW.region)|(apply WL.makeFunc;rfl;rfl;rfl;rfl)|(apply eG;rfl;rfl;rfl)|(apply fh;rfl;rfl;rfl)|(apply eL;rfl;rfl;rfl;assumption;rfl)|(apply eM;rfl;rfl;rfl;assumption;rfl)|(apply CW.exit)|(apply bB)|(apply aZ)));exact k.o):p:=s ⟨k⟩
theorem QQ{p q:Prop}(k:q)(s:Hid_ q→p:=by intro k;(repeat (first|(apply fm;rfl;rfl;rfl)|(apply WL.nil)|(apply bz)|(apply CW.seq)|(apply CW.region)|(apply aX)|(apply CW.ret)|(apply CW.skip)));exact k.o):p:=s ⟨k⟩
theorem QR{p q:Prop}(k:q)(s:Hid_ q→p:=by intro k;(repeat (first|(apply WL.add;rfl;rfl;rfl;rfl;omega;omega)|(apply fm;rfl;rfl;rfl)|(apply WL.nil)|(apply bz)|(apply CW.seq)|(apply CW.region)|(apply WL.makeFunc;rfl;rfl;rfl;rfl)|(apply eG;rfl;rfl;rfl)|(apply fh;rfl;rfl;rfl)|(apply eL;rfl;rfl;rfl;assumption;rfl)|(apply CW.exit)|(apply bB)|(apply aZ)|(apply a7;rfl)));exact k.o):p:=s ⟨k⟩
theorem QS{p q:Prop}(k:q)(s:Hid_ q→p:=by intro k;(repeat (first|(apply fm;rfl;rfl;rfl)|(apply WL.nil)|(apply bz)|(apply CW.seq)|(apply CW.region)|(apply eQ;rfl;rfl;rfl)|(apply eG;rfl;rfl;rfl)|(apply eL;rfl;rfl;rfl;assumption;rfl)|(apply CW.block)));exact k.o):p:=s ⟨k⟩
theorem QT{p q:Prop}(k:q)(s:Hid_ q→p:=by intro k;(repeat (first|(apply bz)|(apply CW.seq)|(apply CW.skip)));exact k.o):p:=s ⟨k⟩
theorem QU{p q:Prop}(k:q)(s:Hid_ q→p:=by intro k;(repeat (first|(apply aX)|(apply CW.skip)));exact k.o):p:=s ⟨k⟩
theorem QV{p q:Prop}(k:q)(s:Hid_ q→p:=by intro k;(repeat (first|(apply fm;rfl;rfl;rfl)|(apply WL.nil)|(apply aX)));exact k.o):p:=s ⟨k⟩
theorem QW{p q:Prop}(k:q)(s:Hid_ q→p:=by intro k;(repeat (first|(apply fm;rfl;rfl;rfl)|(apply WL.nil)|(apply bz)|(apply CW.seq)|(apply CW.region)|(apply WL.pass;rfl;rfl)|(apply eQ;rfl;rfl;rfl)|(apply WL.makeFunc;rfl;rfl;rfl;rfl)|(apply eG;rfl;rfl;rfl)|(apply fh;rfl;rfl;rfl)|(apply eL;rfl;rfl;rfl;assumption;rfl)|(apply CW.block)|(apply ax;rfl)|(apply CW.ret)));exact k.o):p:=s ⟨k⟩
theorem QX{p q:Prop}(k:q)(s:Hid_ q→p:=by intro k;(repeat (first|(apply fm;rfl;rfl;rfl)|(apply CW.seq)|(apply CW.region)|(apply eG;rfl;rfl;rfl)|(apply eL;rfl;rfl;rfl;assumption;rfl)));exact k.o):p:=s ⟨k⟩
theorem QY{p q:Prop}(k:q)(s:Hid_ q→p:=by intro k;(repeat (first|(apply bz)|(apply CW.seq)|(apply aX)|(apply aw;rfl)|(apply CW.skip)));exact k.o):p:=s ⟨k⟩
theorem QZ{p q:Prop}(k:q)(s:Hid_ q→p:=by intro k;(repeat (first|(apply fm;rfl;rfl;rfl)|(apply WL.nil)|(apply bz)|(apply CW.seq)|(apply CW.region)|(apply eQ;rfl;rfl;rfl)|(apply CW.block)));exact k.o):p:=s ⟨k⟩
theorem Q0{p q:Prop}(k:q)(s:Hid_ q→p:=by intro k;(repeat (first|(apply fm;rfl;rfl;rfl)|(apply WL.nil)|(apply bz)|(apply CW.seq)|(apply CW.region)|(apply eM;rfl;rfl;rfl;assumption;rfl)));exact k.o):p:=s ⟨k⟩
theorem Q1{p q:Prop}(k:q)(s:Hid_ q→p:=by intro k;(repeat (first|(apply fm;rfl;rfl;rfl)|(apply WL.nil)|(apply bz)|(apply eF;rfl;rfl;rfl;rfl)|(apply eQ;rfl;rfl;rfl)|(apply CW.ret)));exact k.o):p:=s ⟨k⟩
theorem Q2{p q:Prop}(k:q)(s:Hid_ q→p:=by intro k;(repeat (first|(apply fm;rfl;rfl;rfl)|(apply WL.nil)|(apply bz)|(apply CW.seq)|(apply CW.region)|(apply eG;rfl;rfl;rfl)|(apply fh;rfl;rfl;rfl)|(apply eL;rfl;rfl;rfl;assumption;rfl)|(apply eM;rfl;rfl;rfl;assumption;rfl)|(apply CW.block)|(apply aX)|(apply ax;rfl)|(apply aw;rfl)|(apply CW.skip)));exact k.o):p:=s ⟨k⟩
theorem Q3{p q:Prop}(k:q)(s:Hid_ q→p:=by intro k;(repeat (first|(apply fm;rfl;rfl;rfl)|(apply WL.nil)|(apply bz)|(apply CW.seq)|(apply CW.region)|(apply WL.pass;rfl;rfl)|(apply ax;rfl)|(apply CW.ret)|(apply bA)));exact k.o):p:=s ⟨k⟩
theorem Q4{p q:Prop}(k:q)(s:Hid_ q→p:=by intro k;(repeat (first|(apply fm;rfl;rfl;rfl)|(apply WL.nil)|(apply bz)|(apply CW.seq)|(apply CW.region)|(apply eQ;rfl;rfl;rfl)|(apply CW.block)|(apply CW.exit)|(apply bB)|(apply aZ)|(refine eO rfl rfl rfl (by assumption) ?_)));exact k.o):p:=s ⟨k⟩
theorem Q5{p q:Prop}(k:q)(s:Hid_ q→p:=by intro k;(repeat (first|(apply fm;rfl;rfl;rfl)|(apply WL.nil)|(apply bz)|(apply CW.seq)|(apply CW.region)|(apply ax;rfl)|(apply aw;rfl)));exact k.o):p:=s ⟨k⟩
theorem Q6{p q:Prop}(k:q)(s:Hid_ q→p:=by intro k;(repeat (first|(apply bz)|(apply CW.seq)|(apply CW.region)|(apply CW.block)|(apply CW.skip)));exact k.o):p:=s ⟨k⟩
theorem Q7{p q:Prop}(k:q)(s:Hid_ q→p:=by intro k;(repeat (first|(apply fm;rfl;rfl;rfl)|(apply dx;rfl;rfl;rfl)|(apply WL.nil)|(apply bz)|(apply CW.seq)|(apply CW.region)|(apply dl;rfl;rfl;rfl)|(apply du;rfl;rfl;rfl)|(apply dn;rfl;rfl;rfl;assumption;rfl)|(apply aC;exact mixed;kernel_rfl)));exact k.o):p:=s ⟨k⟩
theorem Q8{p q:Prop}(k:q)(s:Hid_ q→p:=by intro k;(repeat (first|(apply QL.add;rfl;rfl;rfl;rfl;omega;omega)|(apply dx;rfl;rfl;rfl)|(apply WL.nil)|(apply bz)|(apply CW.seq)|(apply dq;rfl;rfl;rfl)|(apply dl;rfl;rfl;rfl)|(apply du;rfl;rfl;rfl)|(apply dn;rfl;rfl;rfl;assumption;rfl)|(apply aw;rfl)|(apply CW.skip)|(apply aC;exact mixed;kernel_rfl)));exact k.o):p:=s ⟨k⟩
theorem Q9{p q:Prop}(k:q)(s:Hid_ q→p:=by intro k;(repeat (first|(apply dx;rfl;rfl;rfl)|(apply CW.seq)|(apply dl;rfl;rfl;rfl)|(apply du;rfl;rfl;rfl)|(apply dn;rfl;rfl;rfl;assumption;rfl)|(apply dp;rfl;rfl;rfl;assumption;rfl)|(apply aw;rfl)|(apply aC;exact mixed;kernel_rfl)));exact k.o):p:=s ⟨k⟩
theorem Q_{p q:Prop}(k:q)(s:Hid_ q→p:=by intro k;(repeat (first|(apply dz;rfl;rfl;rfl;rfl;omega;omega)|(apply fm;rfl;rfl;rfl)|(apply dx;rfl;rfl;rfl)|(apply WL.nil)|(apply bz)|(apply CW.seq)|(apply CW.region)|(apply dq;rfl;rfl;rfl)|(apply dl;rfl;rfl;rfl)|(apply du;rfl;rfl;rfl)|(apply dn;rfl;rfl;rfl;assumption;rfl)|(apply CW.block)|(apply CW.exit)|(apply bB)|(apply aZ)|(apply CW.skip)|(apply aC;exact mixed;kernel_rfl)));exact k.o):p:=s ⟨k⟩
theorem Ra{p q:Prop}(k:q)(s:Hid_ q→p:=by intro k;(repeat (apply fm;rfl;rfl;rfl));exact k.o):p:=s ⟨k⟩
theorem Rb{p q:Prop}(k:q)(s:Hid_ q→p:=by intro k;(repeat (first|(apply fm;rfl;rfl;rfl)|(apply WL.pass;rfl;rfl)));exact k.o):p:=s ⟨k⟩
theorem Re{p q:Prop}(k:q)(s:Hid_ q→p:=by intro k;(repeat (first|(apply eG;rfl;rfl;rfl)|(apply fh;rfl;rfl;rfl)));exact k.o):p:=s ⟨k⟩
theorem Rf{p q:Prop}(k:q)(s:Hid_ q→p:=by intro k;(repeat (apply dx;rfl;rfl;rfl));exact k.o):p:=s ⟨k⟩
theorem Rg{p q:Prop}(k:q)(s:Hid_ q→p:=by intro k;(repeat (apply eG;rfl;rfl;rfl));exact k.o):p:=s ⟨k⟩
theorem Rh{p q:Prop}(k:q)(s:Hid_ q→p:=by intro k;(repeat (first|(apply dx;rfl;rfl;rfl)|(apply QL.pass;rfl;rfl)));exact k.o):p:=s ⟨k⟩
theorem Ri{p q:Prop}(k:q)(s:Hid_ q→p:=by intro k;(repeat (apply dl;rfl;rfl;rfl));exact k.o):p:=s ⟨k⟩
theorem Rj{p q:Prop}(k:q)(s:Hid_ q→p:=by intro k;(repeat (first|(apply eG;rfl;rfl;rfl)|(apply eM;rfl;rfl;rfl;assumption;rfl)));exact k.o):p:=s ⟨k⟩
theorem Rk{p q:Prop}(k:q)(s:Hid_ q→p:=by intro k;(repeat (first|(apply fm;rfl;rfl;rfl)|(apply WL.pass;rfl;rfl)|(apply eG;rfl;rfl;rfl)|(apply fh;rfl;rfl;rfl)|(apply eL;rfl;rfl;rfl;assumption;rfl)));exact k.o):p:=s ⟨k⟩
theorem Rl{p q:Prop}(k:q)(s:Hid_ q→p:=by intro k;(repeat (first|(apply fm;rfl;rfl;rfl)|(apply eG;rfl;rfl;rfl)|(apply eL;rfl;rfl;rfl;assumption;rfl)));exact k.o):p:=s ⟨k⟩
theorem Rm{p q:Prop}(k:q)(s:Hid_ q→p:=by intro k;(repeat (first|(apply fC;rfl;rfl;rfl;rfl;omega;omega)|(apply fm;rfl;rfl;rfl)));exact k.o):p:=s ⟨k⟩
theorem Rn{p q:Prop}(k:q)(s:Hid_ q→p:=by intro k;(repeat (first|(apply WL.add;rfl;rfl;rfl;rfl;omega;omega)|(apply fm;rfl;rfl;rfl)|(apply eG;rfl;rfl;rfl)|(apply fh;rfl;rfl;rfl)));exact k.o):p:=s ⟨k⟩
theorem Ro{p q:Prop}(k:q)(s:Hid_ q→p:=by intro k;(repeat (first|(apply fm;rfl;rfl;rfl)|(apply eQ;rfl;rfl;rfl)|(apply eM;rfl;rfl;rfl;assumption;rfl)));exact k.o):p:=s ⟨k⟩
theorem Rp{p q:Prop}(k:q)(s:Hid_ q→p:=by intro k;(repeat (first|(apply dx;rfl;rfl;rfl)|(apply dq;rfl;rfl;rfl)|(apply dl;rfl;rfl;rfl)|(apply dn;rfl;rfl;rfl;assumption;rfl)));exact k.o):p:=s ⟨k⟩
theorem Rq{p q:Prop}(k:q)(s:Hid_ q→p:=by intro k;(repeat (first|(apply dx;rfl;rfl;rfl)|(apply dl;rfl;rfl;rfl)|(apply du;rfl;rfl;rfl)|(apply dn;rfl;rfl;rfl;assumption;rfl)));exact k.o):p:=s ⟨k⟩
theorem Rr{p q:Prop}(k:q)(s:Hid_ q→p:=by intro k;(repeat (first|(apply fm;rfl;rfl;rfl)|(apply eQ;rfl;rfl;rfl)|(apply WL.makeFunc;rfl;rfl;rfl;rfl)|(apply eG;rfl;rfl;rfl)|(apply eL;rfl;rfl;rfl;assumption;rfl)));exact k.o):p:=s ⟨k⟩
theorem Rs{p q:Prop}(k:q)(s:Hid_ q→p:=by intro k;(repeat (apply cR;rfl;rfl;rfl;(intro γ' w' hw';apply eM;rfl;rfl;rfl;apply Blk.ext;assumption;exact hw';rfl;exact WL.nil (a8 rfl (Ext.refl _) rfl))));exact k.o):p:=s ⟨k⟩
theorem Ru{p q:Prop}(k:q)(s:Hid_ q→p:=by intro k;(repeat (first|(apply cR;rfl;rfl;rfl;(intro γ' w' hw';apply fC;rfl;rfl;rfl;rfl;omega;omega;exact WL.nil (a8 rfl (Ext.refl _) rfl)))|(refine cR rfl rfl rfl (fun γ' w' hw'=>fm rfl rfl rfl (WL.nil (a8 rfl (Ext.refl _) rfl))) ?_)|(refine cR rfl rfl rfl (fun γ' w' hw'=>eG rfl rfl rfl (WL.nil (a8 rfl (Ext.refl _) rfl))) ?_)|(apply cR;rfl;rfl;rfl;(intro γ' w' hw';apply eL;rfl;rfl;rfl;apply Blk.ext;assumption;exact hw';rfl;exact WL.nil (a8 rfl (Ext.refl _) rfl)))|(apply cR;rfl;rfl;rfl;(intro γ' w' hw';apply eM;rfl;rfl;rfl;apply Blk.ext;assumption;exact hw';rfl;exact WL.nil (a8 rfl (Ext.refl _) rfl)))));exact k.o):p:=s ⟨k⟩
theorem Rv{p q:Prop}(k:q)(s:Hid_ q→p:=by intro k;(repeat (first|(refine cR rfl rfl rfl (fun γ' w' hw'=>eG rfl rfl rfl (WL.nil (a8 rfl (Ext.refl _) rfl))) ?_)|(apply cR;rfl;rfl;rfl;(intro γ' w' hw';apply eL;rfl;rfl;rfl;apply Blk.ext;assumption;exact hw';rfl;exact WL.nil (a8 rfl (Ext.refl _) rfl)))));exact k.o):p:=s ⟨k⟩
theorem Rw{p q:Prop}(k:q)(s:Hid_ q→p:=by intro k;(repeat (refine ck (by assumption) rfl rfl rfl rfl (by assumption) rfl ?_));exact k.o):p:=s ⟨k⟩
theorem Rx{p q:Prop}(k:q)(s:Hid_ q→p:=by intro k;(repeat (apply cw;rfl;rfl;rfl;rfl));exact k.o):p:=s ⟨k⟩
theorem Ry{p q:Prop}(k:q)(s:Hid_ q→p:=by intro k;(repeat (refine b_ rfl rfl rfl rfl ?_));exact k.o):p:=s ⟨k⟩
theorem Rz{p q:Prop}(k:q)(s:Hid_ q→p:=by intro k;(repeat (refine cq rfl rfl rfl rfl ?_));exact k.o):p:=s ⟨k⟩
theorem RA{p q:Prop}(k:q)(s:Hid_ q→p:=by intro k;(repeat (refine cb (by assumption) rfl rfl rfl rfl (by assumption) rfl ?_));exact k.o):p:=s ⟨k⟩
theorem RB{p q:Prop}(k:q)(s:Hid_ q→p:=by intro k;(repeat (first|(apply cw;rfl;rfl;rfl;rfl)|(refine b_ rfl rfl rfl rfl ?_)));exact k.o):p:=s ⟨k⟩
theorem RC{p q:Prop}(k:q)(s:Hid_ q→p:=by intro k;(repeat (first|(apply cw;rfl;rfl;rfl;rfl)|(refine b_ rfl rfl rfl rfl ?_)|(apply cu;rfl;rfl;rfl;rfl)|(refine ck (by assumption) rfl rfl rfl rfl (by assumption) rfl ?_)));exact k.o):p:=s ⟨k⟩
theorem RD{p q:Prop}(k:q)(s:Hid_ q→p:=by intro k;(repeat (first|(apply cw;rfl;rfl;rfl;rfl)|(refine b_ rfl rfl rfl rfl ?_)|(apply cu;rfl;rfl;rfl;rfl)|(refine cb (by assumption) rfl rfl rfl rfl (by assumption) rfl ?_)));exact k.o):p:=s ⟨k⟩
theorem RE{p q:Prop}(k:q)(s:Hid_ q→p:=by intro k;(repeat (first|(apply cw;rfl;rfl;rfl;rfl)|(apply HL.pass;rfl;rfl;rfl)|(refine HL.build rfl rfl rfl rfl rfl ?_)));exact k.o):p:=s ⟨k⟩
theorem RF{p q:Prop}(k:q)(s:Hid_ q→p:=by intro k;(repeat (first|(apply cA;rfl;rfl;rfl;rfl;rfl;omega;omega)|(apply cw;rfl;rfl;rfl;rfl)|(refine b_ rfl rfl rfl rfl ?_)|(apply cu;rfl;rfl;rfl;rfl)|(refine ck (by assumption) rfl rfl rfl rfl (by assumption) rfl ?_)|(refine cq rfl rfl rfl rfl ?_)|(refine HL.build rfl rfl rfl rfl rfl ?_)));exact k.o):p:=s ⟨k⟩
theorem RG{p q:Prop}(k:q)(s:Hid_ q→p:=by intro k;(repeat (first|(apply cw;rfl;rfl;rfl;rfl)|(refine b_ rfl rfl rfl rfl ?_)|(apply cu;rfl;rfl;rfl;rfl)|(refine cb (by assumption) rfl rfl rfl rfl (by assumption) rfl ?_)|(refine cd (by assumption) rfl rfl rfl rfl (by assumption) rfl ?_)|(refine cq rfl rfl rfl rfl ?_)|(apply HL.makeFunc;rfl;rfl;rfl;rfl;rfl)));exact k.o):p:=s ⟨k⟩
theorem RH{p q:Prop}(k:q)(s:Hid_ q→p:=by intro k;(repeat (first|(apply HL.add;rfl;rfl;rfl;rfl;rfl;omega;omega)|(refine b_ rfl rfl rfl rfl ?_)|(refine ck (by assumption) rfl rfl rfl rfl (by assumption) rfl ?_)|(refine HL.build rfl rfl rfl rfl rfl ?_)));exact k.o):p:=s ⟨k⟩
theorem RI{p q:Prop}(k:q)(s:Hid_ q→p:=by intro k;(repeat (apply HL.nil));exact k.o):p:=s ⟨k⟩
theorem RJ{p q:Prop}(k:q)(s:Hid_ q→p:=by intro k;(repeat (first|(apply cw;rfl;rfl;rfl;rfl)|(apply HL.nil)));exact k.o):p:=s ⟨k⟩
theorem RK{p q:Prop}(k:q)(s:Hid_ q→p:=by intro k;(repeat (first|(refine ck (by assumption) rfl rfl rfl rfl (by assumption) rfl ?_)|(refine cq rfl rfl rfl rfl ?_)|(apply HL.nil)));exact k.o):p:=s ⟨k⟩
theorem RM{p q:Prop}(k:q)(s:Hid_ q→p:=by intro k;(repeat (first|(refine b_ rfl rfl rfl rfl ?_)|(apply cu;rfl;rfl;rfl;rfl)|(apply HL.nil)));exact k.o):p:=s ⟨k⟩
open Go.RowKit
abbrev Sg:=List (Nat×Value)
def fnd:Sg→Nat→Option Value
 |[],_=>none
 |(k,v)::r,t=>match Nat.beq k t with
  |true=>some v
  |false=>fnd r t
structure Fr(n:Nat)(σ:Sg)(a:Act):Prop where
 size:a.tmps.size=n
 defers:a.defers=[]
 slot:∀t v,fnd σ t=some v→a.tmps.getD t undef=v
def ev(σ:Sg):Operand→Option Value
 |.tmp t=>fnd σ t
 |.const v=>some v
 |.global g=>some (.pointer (some ⟨g,0,none⟩))
 |.func f=>some (.func (.func f) #[] #[])
theorem Fr.ev{n:Nat}{σ:Sg}{a:Act}(h:Fr n σ a){x:Operand}{v:Value}(b:ev σ x=some v):a.eval x=v:=by
 cases x with
 |tmp t=>exact h.slot t v b
 |const u=>exact Nj b
 |global g=>exact Nj b
 |func f=>exact Nj b
def CD(d:Option Nat)(v:Value)(σ:Sg):Sg:=match d with|some d=>(d,v)::σ|none=>σ
theorem pT{σ:Sg}{d:Nat}{v:Value}:fnd ((d,v)::σ) d=some v:=by
 show(match Nat.beq d d with|true=>some v|false=>fnd σ d)=_;rw[Mt d]
theorem ik{d t:Nat}(h:d≠t):Nat.beq d t=false:=by
 cases e:Nat.beq d t with
 |false=>rfl
 |true=>exact absurd (Mw e) h
theorem pU{σ:Sg}{d t:Nat}{v:Value}(h:d≠t):fnd ((d,v)::σ) t=fnd σ t:=by
 show(match Nat.beq d t with|true=>some v|false=>fnd σ t)=_;rw[ik h]
def Av(n:Nat):Option Nat→Bool|some d=>Nat.ble (d+1) n|none=>true
theorem Fr.put{n:Nat}{σ:Sg}{a:Act}(h:Fr n σ a){d:Option Nat}{v:Value}(hd:Av n d=true):Fr n (CD d v σ) (a.put d v):=by
 cases d with
 |none=>exact h
 |some d=>
  have hd':d<n:=MA hd;refine⟨by simpa[Act.put]using h.size,by simpa[Act.put]using h.defers,?_⟩;intro t u b
  by_cases e:d=t
  ·subst e
   rw[CD,pT]at b
   cases b
   simp[Act.put,Array.getD,h.size,hd']
  ·rw[CD,pU e]at b
   have:=h.slot t u b;simp only[Act.put,Jn]at this⊢
   rw[Jv e];exact this
theorem Fr.set{n:Nat}{σ:Sg}{a:Act}(h:Fr n σ a){s:Nat}{v:Value}(c:fnd σ s=some v):Fr n ((s,v)::σ) a:=by
 refine⟨h.size,h.defers,fun t u b=>?_⟩;by_cases e:s=t
 ·subst e;rw[pT]at b;cases b;exact h.slot _ _ c
 ·rw[pU e]at b;exact h.slot _ _ b
def Sub:Sg→Sg→Prop
 |[],_=>True
 |p::r,σ=>fnd σ p.1=some p.2∧Sub r σ
theorem Sub.fnd{τ σ:Sg}(h:Sub τ σ):∀t v,fnd τ t=some v→fnd σ t=some v:=by
 induction τ with
 |nil=>intro t v a;cases a
 |cons p r b=>
  intro t v a
  by_cases e:p.1=t
  ·subst e
   obtain⟨d,u⟩:=p;rw[pT]at a
   cases a
   exact h.1
  ·obtain⟨d,u⟩:=p
   rw[pU e]at a
   exact b h.2 t v a
theorem Fr.sub{n:Nat}{σ τ:Sg}{a:Act}(h:Fr n σ a)(c:Sub τ σ):Fr n τ a:=⟨h.size,h.defers,fun t v b=>h.slot t v (c.fnd t v b)⟩
@[irreducible] def CW (P:Program) (c:Code) (Q:Exit→Act→World→Prop) (n:Nat) (σ:Sg) (w:World):Prop:=∀a,Fr n σ a→c.wp P Q a w
@[irreducible] def EX (Q:Exit→Act→World→Prop) (e:Exit) (n:Nat) (σ:Sg) (w:World):Prop:=∀a,Fr n σ a→Q e a w
@[irreducible] def WL (P:Program) (ops:List Oper) (Q:Exit→Act→World→Prop) (l:List Oper) (n:Nat) (σ:Sg) (w:World):Prop:=∀a,Fr n σ a→wpList P ops.toArray Q l a w
section
variable {P:Program}{Q:Exit→Act→World→Prop}{n:Nat}{σ:Sg}{w:World}
theorem CW.seq{x y:Code}(h:CW P x (Exit.then (y.wp P Q) Q) n σ w):CW P (.seq x y) Q n σ w:=by
 unfold CW at*;exact fun a b=>wp_seq (h a b)
theorem bz{y:Code}(h:CW P y Q n σ w):EX (Exit.then (y.wp P Q) Q) .normal n σ w:=by
 unfold EX CW at*;exact fun a b=>h a b
theorem bB{id:Nat}{R:Act→World→Prop}(h:EX Q (.exit id) n σ w):EX (Exit.then R Q) (.exit id) n σ w:=by
 unfold EX at*;exact fun a b=>h a b
theorem bA{R:Act→World→Prop}(h:EX Q .ret n σ w):EX (Exit.then R Q) .ret n σ w:=by
 unfold EX at*;exact fun a b=>h a b
theorem aX{id:Nat}(h:EX Q .normal n σ w):EX (Exit.inBlock id Q) .normal n σ w:=by
 unfold EX at*;exact fun a b=>h a b
theorem aY{id:Nat}(h:EX Q .ret n σ w):EX (Exit.inBlock id Q) .ret n σ w:=by
 unfold EX at*;exact fun a b=>h a b
theorem aZ{id:Nat}(h:EX Q .normal n σ w):EX (Exit.inBlock id Q) (.exit id) n σ w:=by
 unfold EX at*;intro a b;show(if id=id then _ else _);rw[OE rfl];exact h a b
theorem a7{id id':Nat}(b:Nat.beq id' id=false)(h:EX Q (.exit id') n σ w):EX (Exit.inBlock id Q) (.exit id') n σ w:=by
 unfold EX at*;intro a c;show(if id'=id then _ else _)
 rw[OD (fun e=>by subst e;rw[Mt id']at b;cases b)];exact h a c
theorem CW.block{id:Nat}{c:Code}(h:CW P c (Exit.inBlock id Q) n σ w):CW P (.block id c) Q n σ w:=by
 unfold CW at*;exact fun a b=>wp_block (h a b)
theorem CW.exit{id:Nat}(h:EX Q (.exit id) n σ w):CW P (.exit id) Q n σ w:=by
 unfold CW EX at*;exact fun a b=>wp_exit (h a b)
theorem CW.ret(h:EX Q .ret n σ w):CW P .ret Q n σ w:=by
 unfold CW EX at*;exact fun a b=>wp_ret (h a b)
theorem CW.skip(h:EX Q .normal n σ w):CW P .skip Q n σ w:=by
 unfold CW EX at*;exact fun a b=>wp_skip (h a b)
theorem CW.cond{c:Operand}{x y:Code}{t:Bool}(f:ev σ c=some (.bool t))(e:t=true→CW P x Q n σ w)(hf:t=false→CW P y Q n σ w):CW P (.cond c x y) Q n σ w:=by
 unfold CW at*
 exact fun a b=>wp_cond_split (b.ev f) (fun h=>e h a b) (fun h=>hf h a b)
theorem ax{c:Operand}{x y:Code}(b:ev σ c=some (.bool true))(a:CW P x Q n σ w):CW P (.cond c x y) Q n σ w:=
 CW.cond b (fun _=>a) (fun h=>by cases h)
theorem aw{c:Operand}{x y:Code}(a:ev σ c=some (.bool false))(hf:CW P y Q n σ w):CW P (.cond c x y) Q n σ w:=
 CW.cond a (fun h=>by cases h) (fun _=>hf)
theorem CW.region{id:Nat}{l:List Oper}(h:WL P l Q l n σ w):CW P (.region id l.toArray false) Q n σ w:=by
 unfold CW WL at*;exact fun a b=>wp_region_lit (h a b)
theorem WL.nil{l:List Oper}(h:EX Q .normal n σ w):WL P l Q [] n σ w:=by
 unfold WL EX at*;exact fun a b=>wpList_nil (h a b)
def ak{S:Type}(n:Nat)(σs:S→Sg)(I:S→World→Prop)(μ:S→Nat)(s:S):Act→World→Prop:=
 fun a w=>∃b,Fr n (σs b) a∧I b w∧μ b<μ s
theorem CW.loop{S:Type}{c:Code}(σs:S→Sg)(I:S→World→Prop)(μ:S→Nat)(b:S)(k:Sub (σs b) σ)(q:I b w)
  (round:∀s w,I s w→CW P c (Exit.then (ak n σs I μ s) Q) n (σs s) w):CW P (.loop c) Q n σ w:=by
 unfold CW at*
 intro a o
 refine wp_loop_ghost (fun m a w=>∃s,μ s=m∧Fr n (σs s) a∧I s w) (μ b) ⟨b,rfl,o.sub k,q⟩ ?_;rintro m a w ⟨s,rfl,hF,p⟩
 refine OX (round s w p a hF) ?_;intro e r w' hq
 cases e with
 |normal=>
  obtain⟨j,i,h,f⟩:=hq;exact⟨μ j,f,j,rfl,i,h⟩
 |exit id=>exact hq
 |goto l=>exact hq
 |ret=>exact hq
 |panic ch=>exact hq
 |outgrown=>exact hq
theorem EX.back{S:Type}{σs:S→Sg}{I:S→World→Prop}{μ:S→Nat}{s:S}(b:S)(c:Sub (σs b) σ)(f:I b w)(hμ:μ b<μ s):
  EX (Exit.then (ak n σs I μ s) Q) .normal n σ w:=by
 unfold EX;exact fun a e=>⟨b,e.sub c,f,hμ⟩
def Rt(P:Program)(f:FuncId)(args:Array Value)(w:World)(R:Value→World→Prop):Prop:=
 Calls P f args w fun e w'=>∃v,e=.returned v∧R v w'
theorem Rt.mono{f:FuncId}{args:Array Value}{R R':Value→World→Prop}(h:Rt P f args w R)(b:∀v w',R v w'→R' v w'):Rt P f args w R':=
 JV h fun e w' ⟨v,c,a⟩=>⟨v,c,b v w' a⟩
def gu:Nat→List Value→Sg
 |_,[]=>[]
 |k,v::r=>(k,v)::gu (k+1) r
theorem pS:∀(vs:List Value) (k t:Nat) (v:Value),fnd (gu k vs) t=some v→k≤t∧vs[t -k]?=some v:=by
 intro vs
 induction vs with
 |nil=>intro k t v h;cases h
 |cons u r a=>
  intro k t v h
  by_cases e:k=t
  ·subst e;rw[gu,pT]at h;cases h;exact⟨MF _,by simp⟩
  ·rw[gu,pU e]at h
   obtain⟨h1,h2⟩:=a (k+1) t v h;refine⟨by omega,?_⟩;have:t -k=(t -(k+1))+1:=by omega
   rw[this,KQ];exact h2
theorem Rt.enter{f:FuncId}{fn:Func}{c:Code}{vs:List Value}{R:Value→World→Prop}(hf:P.funcs[f]?=some fn)(j:fn.body=some c)(hn:fn.ntmps=n)
  (b:Nat.ble vs.length n=true) (h:CW P c (bodyPost P fn fun e w'=>∃v,e=.returned v∧R v w') n (gu 0 vs) w):Rt P f vs.toArray w R:=by
 refine calls_of_wp hf j ?_;unfold CW at h
 have k:=MA b;refine h _ ⟨by simp[hn];omega,rfl,fun t v i=>?_⟩;obtain⟨_,h2⟩:=pS vs 0 t v i;simp only[Nat.sub_zero]at h2
 have a:=(KV.1 h2).1;simp only[Jn];rw[Jo (by simpa using a)];simp[h2]
theorem dC{f:FuncId}{fn:Func}{c:Code}{R:Value→World→Prop}(hf:P.funcs[f]?=some fn)(hn:fn.ntmps=n)(a:fn.body=some c)
  (h:CW P c (bodyPost P fn fun e w'=>∃v,e=.returned v∧R v w') n [] w):Rt P f [].toArray w R:=Rt.enter (vs:=[]) hf a hn rfl h
theorem dD{f:FuncId}{fn:Func}{c:Code}{b:Value}{R:Value→World→Prop}(hf:P.funcs[f]?=some fn)(hn:fn.ntmps=n)(i:fn.body=some c)
  (a:Nat.ble 1 n=true) (h:CW P c (bodyPost P fn fun e w'=>∃v,e=.returned v∧R v w') n [(0,b)] w):Rt P f [b].toArray w R:=Rt.enter hf i hn a h
theorem dE{f:FuncId}{fn:Func}{c:Code}{b a1:Value}{R:Value→World→Prop}(hf:P.funcs[f]?=some fn)(hn:fn.ntmps=n)(i:fn.body=some c)
  (a:Nat.ble 2 n=true) (h:CW P c (bodyPost P fn fun e w'=>∃v,e=.returned v∧R v w') n [(0,b),(1,a1)] w):Rt P f [b,a1].toArray w R:=Rt.enter hf i hn a h
theorem dF{f:FuncId}{fn:Func}{c:Code}{b a1 a2:Value}{R:Value→World→Prop}(hf:P.funcs[f]?=some fn)(hn:fn.ntmps=n)(i:fn.body=some c)
  (a:Nat.ble 3 n=true) (h:CW P c (bodyPost P fn fun e w'=>∃v,e=.returned v∧R v w') n [(0,b),(1,a1),(2,a2)] w):Rt P f [b,a1,a2].toArray w R:=Rt.enter hf i hn a h
theorem dG{f:FuncId}{fn:Func}{c:Code}{b a1 a2 a3:Value}{R:Value→World→Prop}(hf:P.funcs[f]?=some fn)(hn:fn.ntmps=n)(i:fn.body=some c)
  (a:Nat.ble 4 n=true) (h:CW P c (bodyPost P fn fun e w'=>∃v,e=.returned v∧R v w') n [(0,b),(1,a1),(2,a2),(3,a3)] w):Rt P f [b,a1,a2,a3].toArray w R:=Rt.enter hf i hn a h
theorem dH{f:FuncId}{fn:Func}{c:Code}{b a1 a2 a3 a4:Value}{R:Value→World→Prop}(hf:P.funcs[f]?=some fn)(hn:fn.ntmps=n)(i:fn.body=some c)
  (a:Nat.ble 5 n=true) (h:CW P c (bodyPost P fn fun e w'=>∃v,e=.returned v∧R v w') n [(0,b),(1,a1),(2,a2),(3,a3),(4,a4)] w):Rt P f [b,a1,a2,a3,a4].toArray w R:=Rt.enter hf i hn a h
theorem be{fn:Func}{t:Nat}{v:Value}{R:Value→World→Prop}(f:fn.results=#[.tmp t])(c:fnd σ t=some v)(h:R v w):
  EX (bodyPost P fn fun e w'=>∃v,e=.returned v∧R v w') .ret n σ w:=by
 unfold EX;intro a b
 exact On (results_tmp f _ _ _) b.defers ⟨v,by rw[b.slot t v c],h⟩
theorem bf{fn:Func}{t u:Nat}{v x:Value}{R:Value→World→Prop}(i:fn.results=#[.tmp t,.tmp u])(f:fnd σ t=some v)(c:fnd σ u=some x)(h:R (.tuple ⟨[v,x]⟩) w):
  EX (bodyPost P fn fun e w'=>∃v,e=.returned v∧R v w') .ret n σ w:=by
 unfold EX;intro a b
 exact On (results_tmp2 i _ _ _) b.defers ⟨_,by rw[b.slot t v f,b.slot u x c],h⟩
theorem aV{fn:Func}{R:Value→World→Prop}(b:fn.results=#[])(h:R (.tuple #[]) w):
  EX (bodyPost P fn fun e w'=>∃v,e=.returned v∧R v w') .normal n σ w:=by
 unfold EX;intro a c
 exact bodyPost_end (results_none b _ _ _) c.defers ⟨_,rfl,h⟩
end
def rL:List Oper→Nat→Option Nat
 |[],_=>none
 |o::_,0=>o.dst
 |_::r,j+1=>rL r j
theorem rM:∀(l:List Oper) (j:Nat),rL l j=(l[j]?).bind (·.dst)
 |[],j=>by simp[rL]
 |o::r,0=>by simp[rL]
 |o::r,j+1=>by simp[rL,rM r j]
def gd(ops:List Oper)(σ:Sg)(o:Oper):Option Bool:=
 match o.guard with
 |none=>some true
 |some (j,want)=>
  match rL ops j with
  |none=>none
  |some s=>match fnd σ s with
   |some (.bool b)=>some (match b,want with|true,true=>true|false,false=>true|_,_=>false)
   |some (.tuple _)=>some false
   |_=>none
theorem qD{ops:List Oper}{σ:Sg}{o:Oper}{b:Bool}{n:Nat}{a:Act}(p:Fr n σ a)(h:gd ops σ o=some b):Region.wanted o (yielded ops.toArray a.tmps)=b:=by
 unfold gd at h
 unfold Region.wanted;split at h
 ·rename_i f;rw[f];exact(Nj h)
 ·rename_i j want f
  rw[f];have k:∀s v,rL ops j=some s→fnd σ s=some v→yielded ops.toArray a.tmps j=(match v with|.bool b=>some b|_=>none):=by
   intro s v c m
   have:=p.slot s v m;unfold yielded;have e:ops.toArray[j]?.bind (·.dst)=some s:=by rw[←c,rM];simp
   rw[e];simp only[Nf];simp only[Jn]at this
   cases l:a.tmps[s]? with
   |none=>
    rw[l]at this
    simp only[Option.getD_none]at this
    subst this;simp[undef]
   |some u=>
    rw[l]at this
    simp only[Ng]at this
    subst this;cases u<;>rfl
  split at h
  ·cases h
  ·rename_i s c
   split at h
   ·rename_i q i
    have:=k s _ c i;simp only[this];cases q<;>cases want<;>simp at h<;>simp[←h]
   ·rename_i x i
    have:=k s _ c i;simp only[this];simp at h;subst h;simp
   ·cases h
def BH(op:BinOp)(x y:Value):Option Value:=
 match op,x,y with
 |.shl,.int k a,.int .i64 b=>match decide (0≤b)with|true=>some (.int k (k.wrap (a*2 ^ (min b.toNat k.bits))))|false=>none
 |.add,.int .i64 a,.int .i64 b=>some (.int .i64 (IntKind.i64.wrap (a+b)))
 |.sub,.int .i64 a,.int .i64 b=>some (.int .i64 (IntKind.i64.wrap (a -b)))
 |.mul,.int .i64 a,.int .i64 b=>some (.int .i64 (IntKind.i64.wrap (a*b)))
 |.eql,.int .i64 a,.int .i64 b=>some (.bool (a==b))
 |.neq,.int .i64 a,.int .i64 b=>some (.bool (a != b))
 |.lss,.int .i64 a,.int .i64 b=>some (.bool (decide (a<b)))
 |.leq,.int .i64 a,.int .i64 b=>some (.bool (decide (a≤b)))
 |.gtr,.int .i64 a,.int .i64 b=>some (.bool (decide (a>b)))
 |.geq,.int .i64 a,.int .i64 b=>some (.bool (decide (a≥b)))
 |.eql,.int .u64 a,.int .u64 b=>some (.bool (a==b))
 |.neq,.int .u64 a,.int .u64 b=>some (.bool (a != b))
 |.and,.int .u64 a,.int .u64 b=>some (.int .u64 (bits .and .u64 a b))
 |.or,.int .u64 a,.int .u64 b=>some (.int .u64 (bits .or .u64 a b))
 |.and,.int .i64 a,.int .i64 b=>some (.int .i64 (bits .and .i64 a b))
 |.or,.int .i64 a,.int .i64 b=>some (.int .i64 (bits .or .i64 a b))
 |.eql,.string a,.string b=>some (.bool (a.data.toList==b.data.toList))
 |.neq,.string a,.string b=>some (.bool !(a.data.toList==b.data.toList))
 |.eql,.int .u8 a,.int .u8 b=>some (.bool (a==b))
 |.neq,.int .u8 a,.int .u8 b=>some (.bool (a != b))
 |.lss,.int .u8 a,.int .u8 b=>some (.bool (decide (a<b)))
 |.leq,.int .u8 a,.int .u8 b=>some (.bool (decide (a≤b)))
 |.gtr,.int .u8 a,.int .u8 b=>some (.bool (decide (a>b)))
 |.geq,.int .u8 a,.int .u8 b=>some (.bool (decide (a≥b)))
 |_,_,_=>none
def zY:List Value→Nat→Option Value
 |[],_=>none
 |v::_,0=>some v
 |_::r,i+1=>zY r i
theorem zZ:∀(l:List Value) (i:Nat),zY l i=l[i]?
 |[],i=>by simp[zY]
 |v::r,0=>by simp[zY]
 |v::r,i+1=>by simp[zY,zZ r i]
def nK(σ:Sg):List Operand→Option (List Value)
 |[]=>some []
 |x::r=>match ev σ x,nK σ r with
  |some v,some vs=>some (v::vs)
  |_,_=>none
theorem nL{n:Nat}{σ:Sg}{a:Act}(b:Fr n σ a):∀(l:List Operand) (vs:List Value),nK σ l=some vs→l.map a.eval=vs
 |[],vs,h=>by cases h;rfl
 |x::r,vs,h=>by
  simp only[nK]at h
  split at h
  ·rename_i v us c e
   cases h
   simp[b.ev c,nL b r us e]
  ·cases h
def Ct(σ:Sg):Op→Option Value
 |.move x=>ev σ x
 |.assign x=>ev σ x
 |.pick c a b=>match ev σ c with
  |some (.bool true)=>ev σ a
  |some (.bool false)=>ev σ b
  |_=>none
 |.binOp op _ x y _=>match ev σ x,ev σ y with
  |some u,some v=>BH op u v
  |_,_=>none
 |.unOp .not _ x=>match ev σ x with
  |some (.bool b)=>some (.bool !b)
  |_=>none
 |.extract x i=>match ev σ x with
  |some (.tuple vs)=>zY vs.toList i
  |_=>none
 |_=>none
theorem BI{P:Program}{w:World}{op:BinOp}{t yt:TypeId}{x y:Operand}{u v r:Value}(h:BH op u v=some r):
  ((do eqGuard op t x y u v;binOp op t u v:Sem Value)).run P w=.ok r w:=by
 unfold BH at h
 split at h<;>first
  |(cases h;done)
  |(rename_i k a b;split at h
    ·rename_i e;have c:¬b<0:=by simpa using e
     cases h;simp[eqGuard,binOp,Op.shift,c]
    ·cases h)
  |(cases h;simp[eqGuard,binOp,Op.intArith,Op.intCmp,intBits_and,intBits_or];done)
  |(cases h;simp[eqGuard_at_string,binOp,Op.stringOp,ByteArray.toList_eq];done)
theorem Cu{P:Program}{w:World}{n:Nat}{σ:Sg}{a:Act}{o:Oper}{v:Value}(f:Fr n σ a)(h:Ct σ o.op=some v):
  (execOp a.eval o).run P w=.ok (.value v) w:=by
 unfold Ct at h
 unfold execOp;split at h
 ·rename_i x e;simp[e,f.ev h]
 ·rename_i x e;simp[e,f.ev h]
 ·rename_i c x y e
  split at h
  ·rename_i k;simp[e,f.ev k,asBool,f.ev h]
  ·rename_i k;simp[e,f.ev k,asBool,f.ev h]
  ·cases h
 ·rename_i op t x y yt e
  split at h
  ·rename_i u s m l
   have p:=BI (P:=P) (w:=w) (t:=t) (yt:=yt) (x:=x) (y:=y) h;simp only[e,f.ev m,f.ev l];rw[Nr,p];rfl
  ·cases h
 ·rename_i t x e
  split at h
  ·rename_i b q;cases h;simp[e,f.ev q,Op.unary]
  ·cases h
 ·rename_i x i e
  split at h
  ·rename_i vs j
   rw[zZ]at h
   have r:vs[i]?=some v:=by simpa using h
   simp[e,f.ev j,Instr.extract,r]
  ·cases h
 ·cases h
section
variable {P:Program}{Q:Exit→Act→World→Prop}{n:Nat}{σ:Sg}{w:World}{L rest:List Oper}{d:Nat}{op:Op}{ty:TypeId}{pos:String}{af:Array Edge}{g:Option (Nat×Bool)}
theorem WL.run{v:Value}{w':World}(e:gd L σ ⟨some d,op,ty,pos,af,g⟩=some true)(hd:Nat.ble (d+1) n=true)
  (c:∀a,Fr n σ a→(execOp a.eval ⟨some d,op,ty,pos,af,g⟩).run P w=.ok (.value v) w') (h:WL P L Q rest n ((d,v)::σ) w'):WL P L Q (⟨some d,op,ty,pos,af,g⟩::rest) n σ w:=by
 unfold WL at*
 intro a b
 refine OT fun K f=>?_
 rw[qD b e,OE rfl];unfold Oper.wp;rw[c a b];exact f _ _ (h _ (b.put (d:=some d) hd))
theorem fp{w':World}(e:gd L σ ⟨none,op,ty,pos,af,g⟩=some true)
  (c:∀a,Fr n σ a→(execOp a.eval ⟨none,op,ty,pos,af,g⟩).run P w=.ok .skip w') (h:WL P L Q rest n σ w'):WL P L Q (⟨none,op,ty,pos,af,g⟩::rest) n σ w:=by
 unfold WL at*
 intro a b
 refine OT fun K f=>?_
 rw[qD b e,OE rfl];unfold Oper.wp;rw[c a b];exact f _ _ (h _ b)
theorem fm{v:Value}(c:gd L σ ⟨some d,op,ty,pos,af,g⟩=some true)(hd:Nat.ble (d+1) n=true)
  (b:Ct σ op=some v) (h:WL P L Q rest n ((d,v)::σ) w):WL P L Q (⟨some d,op,ty,pos,af,g⟩::rest) n σ w:=
 WL.run c hd (fun a e=>Cu e b) h
theorem WL.pass(c:gd L σ ⟨some d,op,ty,pos,af,g⟩=some false)(hd:Nat.ble (d+1) n=true)(h:WL P L Q rest n ((d,undef)::σ) w):WL P L Q (⟨some d,op,ty,pos,af,g⟩::rest) n σ w:=by
 unfold WL at*
 intro a b
 refine OT fun K e=>?_
 rw[qD b c,OD O3];exact e _ _ (h _ (b.put (d:=some d) hd))
theorem eU{s:Nat}{b:Bool}(c:fnd σ s=some (.bool b))(f:b=true→WL P L Q rest n ((s,.bool true)::σ) w)(hf:b=false→WL P L Q rest n ((s,.bool false)::σ) w):WL P L Q rest n σ w:=by
 unfold WL at*
 intro a e
 cases b with
 |true=>exact f rfl a (e.set c)
 |false=>exact hf rfl a (e.set c)
theorem eV{dd:Option Nat}{j s:Nat}{want b:Bool}(e:rL L j=some s)(c:fnd σ s=some (.bool b))(a:b=true→WL P L Q (⟨dd,op,ty,pos,af,some (j,want)⟩::rest) n ((s,.bool true)::σ) w)
  (hf:b=false→WL P L Q (⟨dd,op,ty,pos,af,some (j,want)⟩::rest) n ((s,.bool false)::σ) w):WL P L Q (⟨dd,op,ty,pos,af,some (j,want)⟩::rest) n σ w:=eU c a hf
theorem Jf{a:Int}(b: -9223372036854775808≤a)(h1:a<9223372036854775808):IntKind.i64.wrap a=a:=IntWalk.i64_in _ ⟨b,by omega⟩
theorem WL.add{t yt:TypeId}{x y:Operand}{a b:Int}(f:gd L σ ⟨some d,.binOp .add t x y yt,ty,pos,af,g⟩=some true)(hd:Nat.ble (d+1) n=true)
  (e:ev σ x=some (Pq a)) (c:ev σ y=some (Pq b)) (i: -9223372036854775808≤a+b) (h1:a+b<9223372036854775808) (h:WL P L Q rest n ((d,Pq (a+b))::σ) w):WL P L Q (⟨some d,.binOp .add t x y yt,ty,pos,af,g⟩::rest) n σ w:=by
 refine fm f hd (v:=Pq (a+b)) ?_ h;simp only[Ct,e,c,BH];rw[Jf i h1]
theorem fC{t yt:TypeId}{x y:Operand}{a b:Int}(f:gd L σ ⟨some d,.binOp .sub t x y yt,ty,pos,af,g⟩=some true)(hd:Nat.ble (d+1) n=true)
  (e:ev σ x=some (Pq a)) (c:ev σ y=some (Pq b)) (i: -9223372036854775808≤a -b) (h1:a -b<9223372036854775808) (h:WL P L Q rest n ((d,Pq (a -b))::σ) w):WL P L Q (⟨some d,.binOp .sub t x y yt,ty,pos,af,g⟩::rest) n σ w:=by
 refine fm f hd (v:=Pq (a -b)) ?_ h;simp only[Ct,e,c,BH];rw[Jf i h1]
end
section
variable {P:Program}{Q:Exit→Act→World→Prop}{n:Nat}{σ:Sg}{w:World}{L rest:List Oper}{d:Nat}{op:Op}{ty:TypeId}{pos:String}{af:Array Edge}{g:Option (Nat×Bool)}
theorem WL.makeFunc{fn:Fn}{fs cs:List Operand}{fv cv:List Value}(c:gd L σ ⟨some d,.makeFunc fn fs.toArray cs.toArray,ty,pos,af,g⟩=some true)(hd:Nat.ble (d+1) n=true)
  (hf:nK σ fs=some fv) (e:nK σ cs=some cv) (h:WL P L Q rest n ((d,.func fn fv.toArray cv.toArray)::σ) w):WL P L Q (⟨some d,.makeFunc fn fs.toArray cs.toArray,ty,pos,af,g⟩::rest) n σ w:=by
 refine WL.run c hd (fun a b=>?_) h;have i:=nL b fs fv hf;have f:=nL b cs cv e;simp[execOp,Instr.makeFunc,i,f]
class IsF(P:Program)(f:FuncId):Prop where
 ok:∃fn,P.funcs[f]?=some fn∧fn.body.isSome=true∧(fn.name== "runtime.NumGoroutine")=false
theorem i3{f:FuncId}[hf:IsF P f](args:Array Value):(callFunc f args).run P w=.ok (.enter f args) w:=by
 obtain⟨fn,h1,h2,h3⟩:=hf.ok;have h4:fn.body≠none:=by intro e;rw[e]at h2;cases h2
 have a:fn.name≠ "runtime.NumGoroutine":=by simpa using h3
 simp[callFunc,h1,h4,a]
theorem d8{f:FuncId}{x:Operand}{xs:List Operand}{c:Array TypeId}{vs fv cv:List Value}{R:Value→World→Prop}
  (l:gd L σ ⟨some d,.call ⟨.value x,xs.toArray,c⟩,ty,pos,af,g⟩=some true) (hd:Nat.ble (d+1) n=true) (i:ev σ x=some (.func (.func f) fv.toArray cv.toArray)) (j:nK σ xs=some vs) [hf:IsF P f]
  (m:Rt P f (fv++vs++cv).toArray w R) (h:∀v w',R v w'→WL P L Q rest n ((d,v)::σ) w'):WL P L Q (⟨some d,.call ⟨.value x,xs.toArray,c⟩,ty,pos,af,g⟩::rest) n σ w:=by
 unfold WL at*
 intro a b
 refine OT fun K o=>?_
 rw[qD b l,OE rfl];have q:=nL b xs vs j;have p:=b.ev i;have k:(execOp a.eval ⟨some d,.call ⟨.value x,xs.toArray,c⟩,ty,pos,af,g⟩).run P w=.ok (.enter f (fv++vs++cv).toArray) w:=by
  have:=i3 (P:=P) (f:=f) (w:=w) (fv++vs++cv).toArray;simp[execOp,resolve,p,Deferred.ofValue,invoke,q];simpa using this
 unfold Oper.wp;rw[k];refine JV m ?_;rintro e w' ⟨v,rfl,hR⟩
 exact o _ _ (h v w' hR _ (b.put (d:=some d) hd))
theorem WL.call{f:FuncId}{xs:List Operand}{a:Array TypeId}{vs:List Value}{R:Value→World→Prop}
  (c:gd L σ ⟨some d,.call ⟨.value (.func f),xs.toArray,a⟩,ty,pos,af,g⟩=some true) (hd:Nat.ble (d+1) n=true) (b:nK σ xs=some vs) [hf:IsF P f]
  (e:Rt P f vs.toArray w R) (h:∀v w',R v w'→WL P L Q rest n ((d,v)::σ) w'):WL P L Q (⟨some d,.call ⟨.value (.func f),xs.toArray,a⟩,ty,pos,af,g⟩::rest) n σ w:=
 d8 c hd (fv:=[]) (cv:=[]) rfl b (by simpa using e) h
end
abbrev bU:=List (List Int)
inductive Rch(g:bU)(from':List Int):Nat→Prop
 |base {x:Int}:x∈from'→Rch g from' x.toNat
 |step {n:Nat} {x:Int}:Rch g from' n→x∈g.getD n []→Rch g from' x.toNat
open Classical in
noncomputable def CJ(g:bU)(from':List Int):List Bool:=(List.range g.length).map fun n=>decide (Rch g from' n)
theorem CL(g:bU)(f:List Int):(CJ g f).length=g.length:=by simp[CJ]
theorem CK{g:bU}{f:List Int}{n:Nat}(h:n<(CJ g f).length):(CJ g f)[n]=true↔Rch g f n:=by
 have a:n<g.length:=by rwa[CL]at h
 simp[CJ]
def Ax(n:Nat)(l:List Int):Prop:=∀x∈l,0≤x∧x<n
def okG(g:bU):Prop:=∀l∈g,Ax g.length l
theorem Aw{g:bU}(h:okG g)(n:Nat):Ax g.length (g.getD n []):=by
 intro x a
 by_cases hn:n<g.length
 ·rw[KN,KT hn]at a
  exact h _ (K8 hn) x a
 ·rw[KN,KU O0]at a
  simp at a
def B3:bU→List Bool→Nat
 |l::g,s::r=>(match s with|true=>0|false=>l.length+1)+B3 g r
 |_,_=>0
theorem B5:∀(g:bU) (seen:List Bool) (n:Nat),n<g.length→seen.length=g.length→seen.getD n true=false→B3 g (seen.set n true)+(g.getD n []).length+1=B3 g seen
 |[],_,n,h,_,_=>absurd h O3
 |l::g,[],n,_,h,_=>absurd h O3
 |l::g,s::r,0,_,_,h=>by
  simp at h;subst h;simp[B3];omega
 |l::g,s::r,n+1,h1,h2,h3=>by
  have:=B5 g r n (by simpa using h1) (by simpa using h2) (by simpa using h3);simp only[List.set_cons_succ,B3,KL];omega
def mG(g:bU):Nat:=(g.map List.length).sum
theorem B6:∀g:bU,B3 g (List.replicate g.length false)=mG g+g.length
 |[]=>rfl
 |l::g=>by
  simp only[Lh,L8,B3,B6 g,mG,LB,Mc];omega
structure RInv(g:bU)(f:List Int)(seen:List Bool)(todo:List Int):Prop where
 len:seen.length=g.length
 ok:Ax g.length todo
 sound:∀n,seen.getD n false=true→Rch g f n
 tsound:∀x∈todo,Rch g f x.toNat
 base:∀x∈f,seen.getD x.toNat false=true∨x∈todo
 clo:∀n,seen.getD n false=true→∀x∈g.getD n [],seen.getD x.toNat false=true∨x∈todo
theorem qU{l:List Bool}{n k:Nat}{b:Bool}(h:n<l.length):(l.set n b).getD k false=if n=k then b else l.getD k false:=by
 simp only[KN,KZ];split
 ·subst_vars;simp[h]
 ·rfl
theorem qT{n k:Nat}:(List.replicate n false).getD k false=false:=by
 simp only[KN,KY];split<;>rfl
theorem RInv.start{g:bU}{f:List Int}(hf:Ax g.length f):RInv g f (List.replicate g.length false) f where
 len:=by simp
 ok:=hf
 sound:=fun n h=>by rw[qT]at h;cases h
 tsound:=fun x a=>.base a
 base:=fun x a=>.inr a
 clo:=fun n h=>by rw[qT]at h;cases h
theorem RInv.pass{g:bU}{f:List Int}{seen:List Bool}{a:List Int}{x:Int}(h:RInv g f seen (a++[x]))(c:seen.getD x.toNat false=true):RInv g f seen a where
 len:=h.len
 ok:=fun y b=>h.ok y (by simp[b])
 sound:=h.sound
 tsound:=fun y b=>h.tsound y (by simp[b])
 base:=fun y b=>by
  rcases h.base y b with h1|h1
  ·exact .inl h1
  ·rcases LF.1 h1 with h2|h2
   ·exact .inr h2
   ·simp at h2;subst h2;exact .inl c
 clo:=fun n hn y b=>by
  rcases h.clo n hn y b with h1|h1
  ·exact .inl h1
  ·rcases LF.1 h1 with h2|h2
   ·exact .inr h2
   ·simp at h2;subst h2;exact .inl c
theorem RInv.mark{g:bU}{f:List Int}{seen:List Bool}{a:List Int}{x:Int}(d:okG g)(h:RInv g f seen (a++[x])):RInv g f (seen.set x.toNat true) (a++g.getD x.toNat []):=by
 have i:=h.ok x O3;have c:x.toNat<seen.length:=by rw[h.len];omega
 have key:∀y,seen.getD y.toNat false=true∨y∈a++[x]→(seen.set x.toNat true).getD y.toNat false=true∨y∈a++g.getD x.toNat []:=by
  intro y b
  rw[qU c];rcases b with h1|h1
  ·left;split
   ·rfl
   ·exact h1
  ·rcases LF.1 h1 with h2|h2
   ·exact .inr (by simp[h2])
   ·simp at h2;subst h2;left;simp
 refine⟨by simpa using h.len,?_,?_,?_,?_,?_⟩
 ·intro y b
  rcases LF.1 b with h1|h1
  ·exact h.ok y (by simp[h1])
  ·exact Aw d _ y h1
 ·intro n hn
  rw[qU c]at hn
  split at hn
  ·rename_i e;subst e;exact h.tsound x O3
  ·exact h.sound n hn
 ·intro y b
  rcases LF.1 b with h1|h1
  ·exact h.tsound y (by simp[h1])
  ·exact .step (h.tsound x O3) h1
 ·intro y b;exact key y (h.base y b)
 ·intro n hn y b
  rw[qU c]at hn
  split at hn
  ·rename_i e;subst e;exact .inr (LF.2 (.inr b))
  ·exact key y (h.clo n hn y b)
theorem RInv.done{g:bU}{f:List Int}{seen:List Bool}(h:RInv g f seen []):seen=CJ g f:=by
 have all:∀n,Rch g f n→seen.getD n false=true:=by
  intro n hn
  induction hn with
  |base a=>exact(h.base _ a).resolve_right O3
  |step _ a b=>exact(h.clo _ b _ a).resolve_right O3
 apply Ky (by rw[h.len,CL]);intro n h1 h2
 have c:seen.getD n false=seen[n]:=by simp[KN,h1]
 rw[JI,CK h2,←c];exact⟨h.sound n,all n⟩
def lT(g:bU):Nat→List Bool→List Int→List Bool
 |0,seen,_=>seen
 |k+1,seen,a=>match a.reverse with
  |[]=>seen
  |x::r=>match seen.getD x.toNat false with
   |true=>lT g k seen r.reverse
   |false=>lT g k (seen.set x.toNat true) (r.reverse++g.getD x.toNat [])
theorem lU{g:bU}{f:List Int}(l:okG g):∀(k:Nat) (seen:List Bool) (a:List Int),RInv g f seen a→a.length+B3 g seen≤k→lT g k seen a=CJ g f:=by
 intro k
 induction k with
 |zero=>
  intro seen a h d
  have:a=[]:=Kx O0;subst this;exact h.done
 |succ k i=>
  intro seen a h d
  unfold lT;split
  ·rename_i e
   have:a=[]:=by simpa using e
   subst this;exact h.done
  ·rename_i x r e
   have j:a=r.reverse++[x]:=by
    have:=Oq List.reverse e;simpa using this
   subst j;have m:=h.ok x O3;split
   ·rename_i b
    exact i _ _ (h.pass b) (by simp at d⊢;omega)
   ·rename_i b
    have c:x.toNat<seen.length:=by rw[h.len];omega
    have n:=B5 g seen x.toNat O0 h.len (by
     simp only[KN,KT c,Ng]at b⊢;exact b)
    exact i _ _ (RInv.mark l h) (by simp only[Lg,Lh,Lo]at d⊢;omega)
theorem CM{g:bU}{f:List Int}(a:okG g)(hf:Ax g.length f)(k:Nat)(b:f.length+mG g+g.length≤k):CJ g f=lT g k (List.replicate g.length false) f:=
 (lU a k _ _ (RInv.start hf) (by rw[B6];omega)).symm
def Ae(n:Nat)(l:List Int):Bool:=l.any fun x=>decide (x<0∨x≥n)
theorem oddB_false{n:Nat}{l:List Int}:Ae n l=false↔Ax n l:=by
 unfold Ae Ax;rw[Ka];constructor
 ·intro h x a;have:=h x a;simp at this;omega
 ·intro h x a;have:=h x a;simp;omega
def jE(g:bU):Int:=match decide (g.length>20000),g.any (Ae g.length)with
 |true,_=>2
 |false,true=>1
 |false,false=>0
theorem jG{g:bU}(h:jE g=0):okG g∧g.length≤20000:=by
 unfold jE at h
 split at h
 ·cases h
 ·cases h
 ·rename_i h1 h2
  simp at h1
  refine⟨fun l a=>oddB_false.1 ?_,h1⟩;rw[Ka]at h2
  simpa using h2 l a
abbrev cG:=ByteArray×Int
abbrev cF:=Int×Int
abbrev cI:=List cG×List cF
def xX(c:UInt8):Bool:=!(decide (((c.toNat:Nat):Int)<97))&&!(decide (((c.toNat:Nat):Int)>122))
def yS(l:List UInt8):Bool:=!(l==[])&&!(decide ((l.length:Int)>8))&&!(l==[116,114,117,101])&&!(l==[102,97,108,115,101])&&!(l==[115,105,108,101,110,116])&&l.all xX
abbrev yR(s:ByteArray):Bool:=yS s.data.toList
def yQ(a b:ByteArray):Bool:=a.data.toList==b.data.toList
def zv(ns:List cG)(i:Nat):Int:=
 if !yR (ns.getD i (⟨#[]⟩,0)).1||decide ((ns.getD i (⟨#[]⟩,0)).2<1)||decide ((ns.getD i (⟨#[]⟩,0)).2>7)then 1
 else if(ns.take i).any (fun m=>yQ m.1 (ns.getD i (⟨#[]⟩,0)).1)then 4 else 0
def zI(ns:List cG):Nat→Nat→Int
 |0,_=>0
 |f+1,i=>if zv ns i≠0 then zv ns i else zI ns f (i+1)
def zE(ns:List cG):Int:=zI ns ns.length 0
theorem zJ{ns:List cG}:∀(f i k:Nat),i≤k→k<i+f→(∀j,i≤j→j<k→zv ns j=0)→zv ns k≠0→zI ns f i=zv ns k
 |0,i,k,h1,h2,_,_=>by omega
 |f+1,i,k,h1,h2,h3,h4=>by
  unfold zI;by_cases e:i=k
  ·subst e;rw[OE h4]
  ·rw[OD (by rw[h3 i Pm O0];simp)]
   exact zJ f (i+1) k O0 O0 (fun j b a=>h3 j O0 a) h4
theorem zK{ns:List cG}:∀(f i:Nat),(∀j,i≤j→j<i+f→zv ns j=0)→zI ns f i=0
 |0,_,_=>rfl
 |f+1,i,h=>by
  unfold zI;rw[OD (by rw[h i Pm O0];simp)];exact zK f (i+1) (fun j h1 h2=>h j O0 O0)
theorem zG{ns:List cG}{k:Nat}(b:k<ns.length)(a:∀j,j<k→zv ns j=0)(h:zv ns k≠0):zE ns=zv ns k:=zJ _ 0 k (M9 _) O0 (fun j _=>a j) h
theorem zH{ns:List cG}(a:∀j,j<ns.length→zv ns j=0):zE ns=0:=zK _ 0 (fun j _ h=>a j O0)
theorem zF{ns:List cG}(h:zE ns=0):∀j,j<ns.length→zv ns j=0:=by
 intro j
 induction j using Nat.strongRecOn with
 |_ j a=>
  intro c
  apply JW;intro hn
  have:=zG c (fun k b=>a k b O0) hn;exact hn (by rw[←this];exact h)
def kQ(kind:Int)(i o:Nat):Bool:=
 if kind=1 then decide (i=0)&&decide (o=1)
 else if kind=2∨kind=3 then decide (0<i)&&decide (o=0)
 else if kind=4 then decide (0<i)&&decide (o=1)
 else if kind=7 then if o>4 then false else decide (0<i)&&decide (0<o)
 else if kind=5∨kind=6 then decide (0<i)&&decide (0<o)
 else false
def vM(fl:List cF)(n:Int)(k:Nat):List Int:=((List.range k).filter fun i=>(fl.getD i (0,0)).2==n).map fun i:Nat=>(i:Int)
def A2(fl:List cF)(n:Int)(k:Nat):List Int:=((List.range k).filter fun i=>(fl.getD i (0,0)).1==n).map fun i:Nat=>(i:Int)
abbrev vK(fl:List cF)(n:Int):List Int:=vM fl n fl.length
abbrev A0(fl:List cF)(n:Int):List Int:=A2 fl n fl.length
theorem vO{fl:List cF}{n:Int}{k:Nat}:vM fl n (k+1)=vM fl n k++if((fl.getD k (0,0)).2==n)=true then [(k:Int)]else []:=by
 unfold vM;rw[L7,KA,Lz]
 congr 1
 by_cases e:((fl.getD k (0,0)).2==n)=true
 ·rw[OE e];simp only[KB,e,KE];rfl
 ·rw[OD e];simp only[KB,e,KE];rfl
theorem A4{fl:List cF}{n:Int}{k:Nat}:A2 fl n (k+1)=A2 fl n k++if((fl.getD k (0,0)).1==n)=true then [(k:Int)]else []:=by
 unfold A2;rw[L7,KA,Lz]
 congr 1
 by_cases e:((fl.getD k (0,0)).1==n)=true
 ·rw[OE e];simp only[KB,e,KE];rfl
 ·rw[OD e];simp only[KB,e,KE];rfl
theorem vN{fl:List cF}{n:Int}{k:Nat}:(vM fl n k).length≤k:=by
 unfold vM;rw[Ln];exact MH (Lm _ _) O3
theorem A3{fl:List cF}{n:Int}{k:Nat}:(A2 fl n k).length≤k:=by
 unfold A2;rw[Ln];exact MH (Lm _ _) O3
theorem insP_mem{fl:List cF}{n:Int}{k:Nat}{x:Int}:x∈vM fl n k↔∃i:Nat,x=(i:Int)∧i<k∧(fl.getD i (0,0)).2=n:=by
 unfold vM;rw[LP];constructor
 ·rintro⟨i,h1,rfl⟩
  have:=LM.1 h1;exact⟨i,rfl,LU.1 this.1,by simpa using this.2⟩
 ·rintro⟨i,rfl,h1,h2⟩
  exact⟨i,LM.2 ⟨LU.2 h1,by simpa using h2⟩,rfl⟩
theorem outsP_mem{fl:List cF}{n:Int}{k:Nat}{x:Int}:x∈A2 fl n k↔∃i:Nat,x=(i:Int)∧i<k∧(fl.getD i (0,0)).1=n:=by
 unfold A2;rw[LP];constructor
 ·rintro⟨i,h1,rfl⟩
  have:=LM.1 h1;exact⟨i,rfl,LU.1 this.1,by simpa using this.2⟩
 ·rintro⟨i,rfl,h1,h2⟩
  exact⟨i,LM.2 ⟨LU.2 h1,by simpa using h2⟩,rfl⟩
def pF(n:Nat)(f:cF):Bool:=decide (f.1<0)||decide (f.1≥n)||decide (f.2<0)||decide (f.2≥n)
def pI(n:Nat)(fl:List cF):bU:=(List.range n).map fun k:Nat=>(fl.filter fun f=>f.1==(k:Int)).map (·.2)
def FP(ns:List cG)(k:Nat):List Nat:=(List.range k).filter fun i=>(ns.getD i (⟨#[]⟩,0)).2==1
def gR(p:cI)(i:Nat):Bool:=!kQ (p.1.getD i (⟨#[]⟩,0)).2 (vK p.2 i).length (A0 p.2 i).length
open Classical in
noncomputable def jO(p:cI):Int:=if∃n,n<p.1.length∧¬Rch (pI p.1.length p.2) (((FP p.1 p.1.length).getLast?.map fun n:Nat=>(n:Int)).toList) n then 6 else 0
noncomputable def jM(p:cI):Int:=
 if p.1.length>20∨p.2.length>30 then 2 else if zE p.1≠0 then zE p.1
 else if p.2.any (pF p.1.length)=true then 1 else if(FP p.1 p.1.length).length≠1 then 1
 else if(List.range p.1.length).any (gR p)=true then 1
 else jO p
structure OkPr(p:cI):Prop where
 n:p.1.length≤20
 f:p.2.length≤30
 nodes:∀i,i<p.1.length→zv p.1 i=0
 flows:∀f∈p.2,0≤f.1∧f.1<p.1.length∧0≤f.2∧f.2<p.1.length
 start:(FP p.1 p.1.length).length=1
 count:∀i,i<p.1.length→kQ (p.1.getD i (⟨#[]⟩,0)).2 (vK p.2 i).length (A0 p.2 i).length=true
theorem jN{p:cI}(h:jM p=0):OkPr p:=by
 unfold jM at h
 split at h
 ·cases h
 split at h
 ·rename_i h1 h2;exact absurd h h2
 split at h
 ·cases h
 split at h
 ·cases h
 split at h
 ·cases h
 rename_i h1 h2 h3 h4 a;refine⟨by omega,by omega,zF (by simpa using h2),fun f hf=>?_,by simpa using h4,fun i hi=>?_⟩
 ·have h3:=Ka.1 (by simpa using h3) f hf
  unfold pF at h3
  simp at h3
  omega
 ·have a:=Ka.1 (by simpa using a) i (LU.2 hi)
  unfold gR at a
  simpa using a
class Rep(α:Type)where
 sz:Nat
 pos:0<sz
 agg:Bool
 rd:World→(Nat→Prop)→List Value→α→Prop
 len:∀{w F cs x},rd w F cs x→cs.length=sz
 one:∀{w F cs x},rd w F cs x→∀v∈cs,v.oneCell'=true
 szAgg:agg=false→sz=1
 mono:∀{w w' F F' cs x},rd w F cs x→(∀b,F b→w'.heap[b]?=w.heap[b]?)→(∀b,F b→F' b)→rd w' F' cs x
abbrev sz(α:Type)[Rep α]:Nat:=Rep.sz α
abbrev rd{α:Type}[Rep α]:World→(Nat→Prop)→List Value→α→Prop:=Rep.rd
def Il(α:Type)[Rep α](cs:List Value):Value:=match Rep.agg α with
 |true=>.agg cs.toArray
 |false=>cs.headD undef
def Rd{α:Type}[Rep α](w:World)(F:Nat→Prop)(v:Value)(x:α):Prop:=∃cs,v=Il α cs∧rd w F cs x
theorem Rd.mono{α:Type}[Rep α]{w w':World}{F F':Nat→Prop}{v:Value}{x:α}(h:Rd w F v x)(c:∀b,F b→w'.heap[b]?=w.heap[b]?)(hF:∀b,F b→F' b):Rd w' F' v x:=by
 obtain⟨cs,e,a⟩:=h;exact⟨cs,e,Rep.mono a c hF⟩
theorem Im{α:Type}[Rep α]{w:World}{F:Nat→Prop}{cs:List Value}{x:α}(h:rd w F cs x):(Il α cs).cells.toList=cs:=by
 unfold Il;split
 ·simp[Value.cells]
 ·rename_i a
  have h1:=Rep.len h;rw[Rep.szAgg a]at h1
  match cs,h1 with
  |[v],_=>
   have:=Rep.one h v O3;cases v<;>first|rfl|(simp[Value.oneCell']at this)
instance sP:Rep Int where
 sz:=1
 pos:=by decide
 agg:=false
 rd:=fun _ _ cs x=>cs=[Pq x]
 len:=by intro w F cs x h;subst h;rfl
 one:=by intro w F cs x h v a;subst h;simp at a;subst a;rfl
 szAgg:=fun _=>rfl
 mono:=fun h _ _=>h
instance sQ:Rep Bool where
 sz:=1
 pos:=by decide
 agg:=false
 rd:=fun _ _ cs x=>cs=[.bool x]
 len:=by intro w F cs x h;subst h;rfl
 one:=by intro w F cs x h v a;subst h;simp at a;subst a;rfl
 szAgg:=fun _=>rfl
 mono:=fun h _ _=>h
instance sR:Rep Nat where
 sz:=1
 pos:=by decide
 agg:=false
 rd:=fun _ _ cs x=>cs=[.int .u64 (x:Int)]∧x<18446744073709551616
 len:=by intro w F cs x h;rw[h.1];rfl
 one:=by intro w F cs x h v a;rw[h.1]at a;simp at a;subst a;rfl
 szAgg:=fun _=>rfl
 mono:=fun h _ _=>h
instance sS:Rep ByteArray where
 sz:=1
 pos:=by decide
 agg:=false
 rd:=fun _ _ cs x=>cs=[.string x]∧x.size≤maxLen
 len:=by intro w F cs x h;rw[h.1];rfl
 one:=by intro w F cs x h v a;rw[h.1]at a;simp at a;subst a;rfl
 szAgg:=fun _=>rfl
 mono:=fun h _ _=>h
def Cells(w:World)(b off:Nat)(cs:List Value):Prop:=∀j u,cs[j]?=some u→w.cell? ⟨b,off+j,none⟩=some u
theorem Cells.mono{w w':World}{b off:Nat}{cs:List Value}(h:Cells w b off cs)(e:w'.heap[b]?=w.heap[b]?):Cells w' b off cs:=
 fun j u c=>(World.cell?_of_block (w:=w) (a:=⟨b,off+j,none⟩) e).trans (h j u c)
structure Sl{α:Type}[Rep α](w:World)(F:Nat→Prop)(ao:Option Addr)(cap:Nat)(xs:List α):Prop where
 le:xs.length≤cap
 mx:cap≤maxLen
 nil:ao=none→cap=0
 el:∀i (h:i<xs.length),∃b off,ao=some ⟨b,off,none⟩∧F b∧∃es,Cells w b (off+i*sz α) es∧rd w F es xs[i]
theorem Sl.mono{α:Type}[Rep α]{w w':World}{F F':Nat→Prop}{ao:Option Addr}{cap:Nat}{xs:List α}(h:Sl w F ao cap xs)(a:∀b,F b→w'.heap[b]?=w.heap[b]?)(hF:∀b,F b→F' b):Sl w' F' ao cap xs:=by
 refine⟨h.le,h.mx,h.nil,fun i hi=>?_⟩;obtain⟨b,off,e,hf,j,f,c⟩:=h.el i hi;exact⟨b,off,e,hF b hf,j,f.mono (a b hf),Rep.mono c a hF⟩
instance sT{α:Type}[Rep α]:Rep (List α)where
 sz:=1
 pos:=by decide
 agg:=false
 rd:=fun w F cs xs=>∃ao cap,cs=[.slice ao xs.length cap]∧Sl w F ao cap xs
 len:=by rintro w F cs x ⟨ao,cap,e,_⟩;subst e;rfl
 one:=by rintro w F cs x ⟨ao,cap,e,_⟩ v a;subst e;simp at a;subst a;rfl
 szAgg:=fun _=>rfl
 mono:=by rintro w w' F F' cs x ⟨ao,cap,e,h⟩ b hF;exact⟨ao,cap,e,h.mono b hF⟩
theorem Rd.sl{α:Type}[Rep α]{w:World}{F:Nat→Prop}{v:Value}{xs:List α}(h:Rd w F v xs):∃ao cap,v=.slice ao xs.length cap∧Sl w F ao cap xs:=by
 obtain⟨cs,e,ao,cap,rfl,a⟩:=h;exact⟨ao,cap,e,a⟩
theorem Sl.rd{α:Type}[Rep α]{w:World}{F:Nat→Prop}{ao:Option Addr}{cap:Nat}{xs:List α}(h:Sl w F ao cap xs):Rd w F (.slice ao xs.length cap) xs:=⟨[.slice ao xs.length cap],rfl,ao,cap,rfl,h⟩
theorem Sl.len63{α:Type}[Rep α]{w:World}{F:Nat→Prop}{ao:Option Addr}{cap:Nat}{xs:List α}(h:Sl w F ao cap xs):xs.length≤9223372036854775807:=by
 have:=h.le;have:=h.mx;unfold maxLen at this;omega
theorem Rd.int{w:World}{F:Nat→Prop}{v:Value}{x:Int}(h:Rd w F v x):v=Pq x:=by obtain⟨cs,e,rfl⟩:=h;exact e
theorem Rd.bool{w:World}{F:Nat→Prop}{v:Value}{x:Bool}(h:Rd w F v x):v=.bool x:=by obtain⟨cs,e,rfl⟩:=h;exact e
theorem Rd.u64{w:World}{F:Nat→Prop}{v:Value}{x:Nat}(h:Rd w F v x):v=.int .u64 (x:Int)∧x<18446744073709551616:=by obtain⟨cs,e,rfl,h2⟩:=h;exact⟨e,h2⟩
theorem Rd.str{w:World}{F:Nat→Prop}{v:Value}{x:ByteArray}(h:Rd w F v x):v=.string x∧x.size≤maxLen:=by obtain⟨cs,e,rfl,h2⟩:=h;exact⟨e,h2⟩
theorem Rd.mkInt(w:World)(F:Nat→Prop)(x:Int):Rd w F (Pq x) x:=⟨_,rfl,rfl⟩
theorem Rd.mkBool(w:World)(F:Nat→Prop)(x:Bool):Rd w F (.bool x) x:=⟨_,rfl,rfl⟩
theorem Rd.mkStr(w:World)(F:Nat→Prop)(x:ByteArray)(h:x.size≤maxLen):Rd w F (.string x) x:=⟨_,rfl,rfl,h⟩
def c7(w:World):Nat→Prop:=fun b=>b<w.heap.size
abbrev Ext(w w':World):Prop:=Below w.heap.size w w'
theorem Ext.refl(w:World):Ext w w:=JD _ _
theorem Ext.trans{a b c:World}(h:Ext a b)(k:Ext b c):Ext a c:=Below.trans h (k.mono h.size)
section
variable {α:Type}[Rep α]{w w' w0:World}{v:Value}{x:α}{ao:Option Addr}{cap:Nat}{xs:List α}
theorem Sl.at(h:Sl w0 (c7 w0) ao cap xs)(c:Below w0.heap.size w0 w):Sl w (c7 w0) ao cap xs:=h.mono (fun b a=>c.block b a) fun _ h=>h
theorem Sl.lift{F:Nat→Prop}(h:Sl w F ao cap xs)(hF:∀b,F b→b<w.heap.size):Sl w (c7 w) ao cap xs:=h.mono Pj hF
theorem Sl.up(h:Sl w0 (c7 w0) ao cap xs)(c:Below w0.heap.size w0 w):Sl w (c7 w) ao cap xs:=h.mono (fun b a=>c.block b a) fun b a=>MK a c.size
theorem Cells.lt{b off:Nat}{cs:List Value}(h:Cells w b off cs)(hn:0<cs.length):b<w.heap.size:=
 Oe w _ (h 0 cs[0] (by simp[hn]))
end
def fP:TypeDesc→Bool|.struct _=>true|.array _ _=>true|_=>false
class IsT(P:Program)(t:TypeId)(α:Type)[Rep α]:Prop where
 ok:∃i d,P.info? t=some i∧i.size=sz α∧P.underlying t=some d∧fP d=Rep.agg α
class IsS(P:Program)(t:TypeId)(e:outParam TypeId):Prop where
 ok:P.underlying t=some (.slice e)
class IsZ(P:Program)(t:TypeId){α:Type}[Rep α](x:outParam α)(bytes:outParam Nat):Prop where
 ok:∃i z,P.info? t=some i∧i.zero=some z∧i.bytes=bytes∧∀w F,rd w F z.cells.toList x
theorem IsT.of{P:Program}{t:TypeId}{α:Type}[Rep α]{d:TypeDesc}(h:(P.info? t).map (fun i=>Nat.beq i.size (sz α))=some true)(a:P.underlying t=some d)
  (hd:fP d=Rep.agg α):IsT P t α:=by
 obtain⟨i,hi,b⟩:=Nh.1 h;exact⟨i,d,hi,Mw b,a,hd⟩
theorem IsZ.of{P:Program}{t:TypeId}{α:Type}[Rep α]{x:α}{bytes:Nat}{z:Value}(h:(P.info? t).map (fun i=>(i.zero,i.bytes))=some (some z,bytes))(b:∀w F,rd w F z.cells.toList x):IsZ P t x bytes:=by
 obtain⟨i,hi,a⟩:=Nh.1 h;simp only[Nm]at a
 exact⟨i,z,hi,a.1,a.2,b⟩
theorem IsT.info{P:Program}{t:TypeId}{α:Type}[Rep α][h:IsT P t α]:∃i,P.info? t=some i∧i.size=sz α:=by
 obtain⟨i,d,h1,h2,_⟩:=h.ok;exact⟨i,h1,h2⟩
theorem Eb{P:Program}{t:TypeId}{α:Type}[Rep α][IsT P t α](w:World):(sizeOf t).run P w=.ok (sz α) w:=by
 obtain⟨i,h1,h2⟩:=IsT.info (P:=P) (t:=t) (α:=α);simp[sizeOf,typeInfo,h1,h2]
theorem DR{P:Program}{t:TypeId}{α:Type}[Rep α][h:IsT P t α](w:World):(isAgg t).run P w=.ok (Rep.agg α) w:=by
 obtain⟨i,d,h1,h2,h3,h4⟩:=h.ok;unfold isAgg;rw[Nr,OP h3 w];rw[←h4];cases d<;>rfl
theorem DX{P:Program}{t:TypeId}{α:Type}[Rep α][IsT P t α]{w:World}{F:Nat→Prop}{b off:Nat}{cs:List Value}{x:α}(c:Cells w b off cs)(f:rd w F cs x):
  (loadVar t ⟨b,off,none⟩).run P w=.ok (Il α cs) w:=by
 have a:cs.length=sz α:=Rep.len f;unfold loadVar;rw[Nr,DR (α:=α) w];simp only[Nq];unfold Il;cases h:Rep.agg α with
 |true=>
  simp only[OF];rw[Nr,Eb (α:=α) w];simp only[Nq];rw[Nr,←a,OM w ⟨b,off,none⟩ cs (fun j v e=>by rw[Od];exact c j v e)];rfl
 |false=>
  rw[show sz α=1 from Rep.szAgg h]at a
  match cs,a with
  |[v],_=>
   have:=c 0 v rfl;simp only[Ms]at this
   simp[this]
section
variable {P:Program}{Q:Exit→Act→World→Prop}{n:Nat}{σ:Sg}{w:World}{L rest:List Oper}{d:Nat}{op:Op}{ty:TypeId}{pos:String}{af:Array Edge}{g:Option (Nat×Bool)}
theorem eQ{t e:TypeId}{x:Operand}{ao:Option Addr}{k cap:Nat}(f:gd L σ ⟨some d,.call ⟨.builtin .len,#[x],#[t]⟩,ty,pos,af,g⟩=some true)(hd:Nat.ble (d+1) n=true)
  (b:ev σ x=some (.slice ao k cap)) [c:IsS P t e] (h:WL P L Q rest n ((d,Pq (k:Int))::σ) w):WL P L Q (⟨some d,.call ⟨.builtin .len,#[x],#[t]⟩,ty,pos,af,g⟩::rest) n σ w:=by
 refine WL.run f hd (fun a i=>?_) h;simp[execOp,resolve,invoke,builtin,i.ev b,Builtin.len_,OP c.ok,goInt]
theorem eH{α:Type}[Rep α]{t e:TypeId}{x ix:Operand}{b off:Nat}{k cap:Nat}{i:Int}{kd:IntKind}(l:gd L σ ⟨some d,.indexAddr t x ix,ty,pos,af,g⟩=some true)(hd:Nat.ble (d+1) n=true)
  (f:ev σ x=some (.slice (some ⟨b,off,none⟩) k cap)) (hi:ev σ ix=some (.int kd i)) [j:IsS P t e] [o:IsT P e α] (m:0≤i) (h1:i<k)
  (h:WL P L Q rest n ((d,.pointer (some ⟨b,off+i.toNat*sz α,none⟩))::σ) w):WL P L Q (⟨some d,.indexAddr t x ix,ty,pos,af,g⟩::rest) n σ w:=by
 refine WL.run l hd (fun a c=>?_) h;simp[execOp,c.ev f,c.ev hi,Instr.indexAt,asIntOf,OP j.ok,m,h1,Eb (α:=α),Od]
theorem WL.load{α:Type}[Rep α]{t:TypeId}{x:Operand}{b off:Nat}{F:Nat→Prop}{cs:List Value}{y:α}(f:gd L σ ⟨some d,.load t x,ty,pos,af,g⟩=some true)(hd:Nat.ble (d+1) n=true)
  (c:ev σ x=some (.pointer (some ⟨b,off,none⟩))) [k:IsT P t α] (i:Cells w b off cs) (e:rd w F cs y)
  (h:WL P L Q rest n ((d,Il α cs)::σ) w):WL P L Q (⟨some d,.load t x,ty,pos,af,g⟩::rest) n σ w:=by
 refine WL.run f hd (fun a j=>?_) h;simp[execOp,j.ev c,Instr.loadAt,Instr.sureAddr,DX i e]
theorem ez{α:Type}[Rep α]{t e:TypeId}{x ix:Operand}{ao:Option Addr}{cap a:Nat}{xs:List α}{F:Nat→Prop}{i:Int}{kd:IntKind}{ty':TypeId}{pos':String}{af':Array Edge}{k:Option (Nat×Bool)}
  (m:gd L σ ⟨some d,.indexAddr t x ix,ty,pos,af,g⟩=some true) (hd:Nat.ble (d+1) n=true) (hd':Nat.ble (a+1) n=true)
  (l:ev σ x=some (.slice ao xs.length cap)) (hi:ev σ ix=some (.int kd i)) [y:IsS P t e] [s:IsT P e α] (c:Sl w F ao cap xs) (q:0≤i) (h1:i<xs.length)
  (f:∀p,gd L ((d,.pointer p)::σ) ⟨some a,.load e (.tmp d),ty',pos',af',k⟩=some true)
  (h:∀u p,Rd w F u (xs[i.toNat]'O0)→WL P L Q rest n ((a,u)::(d,.pointer p)::σ) w):
  WL P L Q (⟨some d,.indexAddr t x ix,ty,pos,af,g⟩::⟨some a,.load e (.tmp d),ty',pos',af',k⟩::rest) n σ w:=by
 obtain⟨b,off,rfl,hF,r,o,j⟩:=c.el i.toNat O0;refine eH (α:=α) m hd l hi q h1 ?_;refine WL.load (α:=α) (f _) hd' pT o j ?_;exact h _ _ ⟨r,rfl,j⟩
theorem eC{α:Type}[Rep α]{t e:TypeId}{x ix:Operand}{ao:Option Addr}{cap a:Nat}{xs:List α}{F:Nat→Prop}{i:Nat}{kd:IntKind}{ty':TypeId}{pos':String}{af':Array Edge}{f:Option (Nat×Bool)}
  (l:gd L σ ⟨some d,.indexAddr t x ix,ty,pos,af,g⟩=some true) (hd:Nat.ble (d+1) n=true) (hd':Nat.ble (a+1) n=true)
  (j:ev σ x=some (.slice ao xs.length cap)) (hi:ev σ ix=some (.int kd (i:Int))) [o:IsS P t e] [m:IsT P e α] (b:Sl w F ao cap xs) (h1:i<xs.length)
  (c:∀p,gd L ((d,.pointer p)::σ) ⟨some a,.load e (.tmp d),ty',pos',af',f⟩=some true)
  (h:∀u p,Rd w F u xs[i]→WL P L Q rest n ((a,u)::(d,.pointer p)::σ) w):
  WL P L Q (⟨some d,.indexAddr t x ix,ty,pos,af,g⟩::⟨some a,.load e (.tmp d),ty',pos',af',f⟩::rest) n σ w:=
 ez l hd hd' j hi b O0 O0 c (fun u p k=>h u p (by simpa using k))
theorem eB{t e:TypeId}{x ix:Operand}{ao:Option Addr}{cap a:Nat}{xs:List Int}{F:Nat→Prop}{i:Nat}{y:Int}{kd:IntKind}{ty':TypeId}{pos':String}{af':Array Edge}{f:Option (Nat×Bool)}
  (m:gd L σ ⟨some d,.indexAddr t x ix,ty,pos,af,g⟩=some true) (hd:Nat.ble (d+1) n=true) (hd':Nat.ble (a+1) n=true)
  (k:ev σ x=some (.slice ao xs.length cap)) (hi:ev σ ix=some (.int kd (i:Int))) [q:IsS P t e] [o:IsT P e Int] (b:Sl w F ao cap xs) (h1:i<xs.length) (j:xs[i]=y)
  (c:∀p,gd L ((d,.pointer p)::σ) ⟨some a,.load e (.tmp d),ty',pos',af',f⟩=some true)
  (h:∀p,WL P L Q rest n ((a,Pq y)::(d,.pointer p)::σ) w):
  WL P L Q (⟨some d,.indexAddr t x ix,ty,pos,af,g⟩::⟨some a,.load e (.tmp d),ty',pos',af',f⟩::rest) n σ w:=
 eC m hd hd' k hi b h1 c (fun u p l=>by rw[l.int,j];exact h p)
theorem eA{t e:TypeId}{x ix:Operand}{ao:Option Addr}{cap a:Nat}{xs:List Bool}{F:Nat→Prop}{i:Nat}{y:Bool}{kd:IntKind}{ty':TypeId}{pos':String}{af':Array Edge}{f:Option (Nat×Bool)}
  (m:gd L σ ⟨some d,.indexAddr t x ix,ty,pos,af,g⟩=some true) (hd:Nat.ble (d+1) n=true) (hd':Nat.ble (a+1) n=true)
  (k:ev σ x=some (.slice ao xs.length cap)) (hi:ev σ ix=some (.int kd (i:Int))) [q:IsS P t e] [o:IsT P e Bool] (b:Sl w F ao cap xs) (h1:i<xs.length) (j:xs[i]=y)
  (c:∀p,gd L ((d,.pointer p)::σ) ⟨some a,.load e (.tmp d),ty',pos',af',f⟩=some true)
  (h:∀p,WL P L Q rest n ((a,.bool y)::(d,.pointer p)::σ) w):
  WL P L Q (⟨some d,.indexAddr t x ix,ty,pos,af,g⟩::⟨some a,.load e (.tmp d),ty',pos',af',f⟩::rest) n σ w:=
 eC m hd hd' k hi b h1 c (fun u p l=>by rw[l.bool,j];exact h p)
theorem WL.box{e:TypeId}{x:Operand}{v:Value}(c:gd L σ ⟨some d,.box e x,ty,pos,af,g⟩=some true)(hd:Nat.ble (d+1) n=true)
  (b:ev σ x=some v) (h:WL P L Q rest n ((d,Pr w.heap.size)::σ) (w.alloc (.cells v.cells e))):WL P L Q (⟨some d,.box e x,ty,pos,af,g⟩::rest) n σ w:=by
 refine WL.run c hd (fun a f=>?_) h;simp[execOp,f.ev b,Instr.box,newVar,newRow]
end
def FnV(P:Program)(fv:Value)(args:List Value)(w:World)(R:Value→World→Prop):Prop:=
 ∃f fs cs,fv=.func (.func f) (List.toArray fs) (List.toArray cs)∧IsF P f∧Rt P f (fs++args++cs).toArray w R
theorem FnV.mk{P:Program}{f:FuncId}{cs args:List Value}{w:World}{R:Value→World→Prop}[hf:IsF P f](h:Rt P f (args++cs).toArray w R):FnV P (.func (.func f) [].toArray cs.toArray) args w R:=
 ⟨f,[],cs,rfl,hf,h⟩
theorem FnV.mono{P:Program}{fv:Value}{args:List Value}{w:World}{R R':Value→World→Prop}(h:FnV P fv args w R)(a:∀v w',R v w'→R' v w'):FnV P fv args w R':=by
 obtain⟨f,fs,cs,e,hf,h⟩:=h;exact⟨f,fs,cs,e,hf,h.mono a⟩
theorem d7{P:Program}{Q:Exit→Act→World→Prop}{n:Nat}{σ:Sg}{w:World}{L rest:List Oper}{d:Nat}{ty:TypeId}{pos:String}{af:Array Edge}{g:Option (Nat×Bool)}
  {x:Operand} {xs:List Operand} {b:Array TypeId} {vs:List Value} {fv:Value} {R:Value→World→Prop}
  (i:gd L σ ⟨some d,.call ⟨.value x,xs.toArray,b⟩,ty,pos,af,g⟩=some true) (hd:Nat.ble (d+1) n=true) (c:ev σ x=some fv) (e:nK σ xs=some vs)
  (a:FnV P fv vs w R) (h:∀v w',R v w'→WL P L Q rest n ((d,v)::σ) w'):WL P L Q (⟨some d,.call ⟨.value x,xs.toArray,b⟩,ty,pos,af,g⟩::rest) n σ w:=by
 obtain⟨f,fs,cs,rfl,hf,a⟩:=a;exact d8 i hd c e a h
theorem Ext.alloc(w:World)(o:Obj):Ext w (w.alloc o):=(JD _ _).alloc Pm o
theorem Cells.alloc(w:World)(cs:Array Value)(e:TypeId):Cells (w.alloc (.cells cs e)) w.heap.size 0 cs.toList:=by
 intro j u a
 rw[World.cell?_alloc_new];simpa using a
end Go.Proofs.YtodmkmobdmcfbaaGreatDoor
