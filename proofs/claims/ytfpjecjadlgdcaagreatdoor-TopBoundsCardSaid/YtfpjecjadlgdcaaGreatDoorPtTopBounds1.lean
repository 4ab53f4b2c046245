import Derived.WalkKit
import Derived.ProofKit
import Derived.Deep.Quiet
import Derived.Deep.LoopGhost
import Derived.Laws.Cover3
import Derived.Laws.Bits64b
import Derived.Laws.Shifts
import Derived.OrdersHeld
import Derived.Test.YtfpjecjadlgdcaaGreatDoorProg
import Derived.DeepKeys4
import Derived.Maps.Keyed
import Derived.Shelf.Slices.Reverse
import Derived.Shelf.Sort.Plain
import Derived.Shelf.Slices.In.SortNone
import Derived.Laws.StructEq
import Derived.Lib.RabinKarpLaws
import Derived.Shelf.Strings.Split
import Derived.Shelf.Strings.Cut
import Derived.Shelf.Strings.Builder1
import Derived.Shelf.Strings.OnBuilder
import Derived.Shelf.Vars
import Derived.Stop.IfaceNil
import Derived.Test.YtfpjecjadlgdcaaGreatDoorRows
import Derived.OpenShut
import Derived.JoinedCond
import Derived.Carry
import Derived.RowKit
set_option linter.unusedVariables false
set_option linter.unusedSimpArgs false
set_option linter.defProp false
namespace Go.Proofs.YtfpjecjadlgdcaaGreatDoor
abbrev Py(n:Int):Value:=.int .i64 n
abbrev Pz(b:Nat):Value:=.pointer (some ⟨b,0,none⟩)
inductive Hid_(q:Prop):Prop|mk(h:q)
theorem Hid_.o{q:Prop}:Hid_ q→q|.mk h=>h
def Jo:=@Go.Addr.add_zero'
def Jp:=@Go.Addr.mk.injEq
def Jq:=@Array.ext'
def Jr:=@Array.foldl_toList
def Js:=@Array.getD_eq_getD_getElem?
def Jt:=@Array.getElem?_append_left
def Ju:=@Array.getElem?_eq_none
def Jv:=@Array.getElem?_eq_some_iff
def Jw:=@Array.getElem?_mapIdx
def Jx:=@Array.getElem?_modify
def Jy:=@Array.getElem?_replicate
def Jz:=@Array.getElem?_setIfInBounds
def JA:=@Array.getElem?_setIfInBounds_ne
def JB:=@Array.getElem?_toList
def JC:=@Array.length_toList
def JD:=@Array.setIfInBounds_comm
def JE:=@Array.size_modify
def JF:=@Array.toList_zipIdx
def JG:=@Go.RowKit.Below.grown
def JH:=@Go.RowKit.Below.heap_alloc
def JI:=@Go.RowKit.Below.refl
def JJ:=@BitVec.ofInt_natCast
def JK:=@BitVec.toNat_ofNat
def JL:=@Bool.and_eq_true
def JM:=@Bool.eq_false_iff
def JN:=@Bool.eq_iff_iff
def JO:=@Bool.false_and
def JP:=@Bool.false_eq_true
def JQ:=@Bool.false_or
def JR:=@Bool.not_eq_true
def JS:=@Bool.not_eq_true'
def JT:=@Bool.not_false
def JU:=@Bool.not_true
def JV:=@Bool.or_eq_false_iff
def JW:=@Bool.or_eq_true
def JX:=@Bool.or_false
def JY:=@Bool.or_true
def JZ:=@Bool.true_and
def J0:=@Go.Calls.mono
def J1:=@Classical.byContradiction
def J2:=@Classical.choose_spec
def J3:=@Classical.not_and_iff_not_or_not
def J4:=@Classical.not_forall
def J5:=@Classical.not_not
def J6:=@Iff.rfl
def J7:=@Int.eq_ofNat_of_zero_le
def J8:=@Int.le_refl
def J9:=@Int.lt_irrefl
def J_:=@Int.not_lt
def Ka:=@Int.one_mul
def Kb:=@Int.toNat_natCast
def Kc:=@Int.toNat_of_nonneg
def Kd:=@List.all_eq_true
def Ke:=@List.any_append
def Kf:=@List.any_eq_false
def Kg:=@List.any_eq_true
def Kh:=@List.append_assoc
def Ki:=@List.append_nil
def Kj:=@List.cons.inj
def Kk:=@List.cons.injEq
def Kl:=@List.cons_append
def Km:=@List.contains_eq_any_beq
def Kn:=@List.contains_iff_mem
def Ko:=@List.countP_append
def Kp:=@List.countP_cons
def Kq:=@List.countP_le_length
def Kr:=@List.countP_pos_iff
def Ks:=@List.countP_replicate
def Kt:=@List.countP_set
def Ku:=@List.drop_append
def Kv:=@List.drop_append_of_le_length
def Kw:=@List.drop_drop
def Kx:=@List.drop_eq_getElem_cons
def Ky:=@List.drop_eq_nil_of_le
def Kz:=@List.drop_length
def KA:=@List.drop_succ_cons
def KB:=@List.drop_zero
def KC:=@List.eq_nil_of_length_eq_zero
def KD:=@List.ext_getElem
def KE:=@List.ext_getElem?
def KF:=@List.filter_append
def KG:=@List.filter_cons
def KH:=@List.filter_cons_of_neg
def KI:=@List.filter_cons_of_pos
def KJ:=@List.filter_nil
def KK:=@List.findIdx?_eq_none_iff
def KL:=@List.findIdx?_eq_some_iff_getElem
def KM:=@List.flatMap_append
def KN:=@List.flatMap_cons
def KO:=@List.flatten_cons
def KP:=@List.foldr_cons
def KQ:=@List.getD_cons_succ
def KR:=@List.getD_cons_zero
def KT:=@List.getD_eq_getElem?_getD
def KU:=@List.getElem?_append_left
def KV:=@List.getElem?_append_right
def KW:=@List.getElem?_cons_succ
def KX:=@List.getElem?_drop
def KY:=@List.getElem?_eq_getElem
def KZ:=@List.getElem?_eq_none
def K0:=@List.getElem?_eq_some_iff
def K1:=@List.getElem?_map
def K2:=@List.getElem?_range
def K3:=@List.getElem?_replicate
def K4:=@List.getElem?_set
def K5:=@List.getElem?_take
def K6:=@List.getElem?_take_of_lt
def K7:=@List.getElem_append_left
def K8:=@List.getElem_append_right
def K9:=@List.getElem_cons_succ
def K_:=@List.getElem_cons_zero
def La:=@List.getElem_drop
def Lb:=@List.getElem_map
def Lc:=@List.getElem_mem
def Ld:=@List.getElem_range
def Le:=@List.getElem_replicate
def Lf:=@List.getElem_set
def Lg:=@List.getElem_set_self
def Lh:=@List.getElem_take
def Li:=@List.idxOf_append
def Lj:=@List.idxOf_lt_length_iff
def Lk:=@List.isEmpty_iff
def Ll:=@List.length_append
def Lm:=@List.length_cons
def Ln:=@List.length_drop
def Lo:=@List.length_eq_one_iff
def Lp:=@List.length_eq_zero_iff
def Lq:=@List.length_erase_of_mem
def Lr:=@List.length_filter_le
def Ls:=@List.length_map
def Lt:=@List.length_nil
def Lu:=@List.length_pos_iff
def Lv:=@List.length_range
def Lx:=@List.length_replicate
def Ly:=@List.length_reverse
def Lz:=@List.length_set
def LA:=@List.length_singleton
def LB:=@List.length_take
def LC:=@List.mapM_cons
def LD:=@List.mapM_nil
def LE:=@List.map_append
def LF:=@List.map_congr_left
def LG:=@List.map_cons
def LH:=@List.map_map
def LI:=@List.map_nil
def LJ:=@List.map_toArray
def LK:=@List.mem_append
def LL:=@List.mem_append_left
def LM:=@List.mem_append_right
def LN:=@List.mem_cons
def LO:=@List.mem_cons_of_mem
def LP:=@List.mem_cons_self
def LQ:=@List.mem_erase_of_ne
def LR:=@List.mem_filter
def LS:=@List.mem_flatMap
def LT:=@List.mem_iff_getElem
def LU:=@List.mem_map
def LV:=@List.mem_map_of_mem
def LW:=@List.mem_of_getElem?
def LX:=@List.mem_of_mem_drop
def LY:=@List.mem_of_mem_take
def LZ:=@List.mem_range
def L0:=@List.mem_singleton
def L1:=@List.ne_nil_of_length_pos
def L2:=@List.nil_append
def L3:=@List.nodup_append
def L4:=@List.nodup_cons
def L5:=@List.nodup_range
def L6:=@List.not_mem_nil
def L7:=@List.pairwise_append
def L8:=@List.pairwise_cons
def L9:=@List.pairwise_iff_forall_sublist
def L_:=@List.pairwise_map
def Ma:=@List.pairwise_singleton
def Mb:=@List.range_succ
def Mc:=@List.replicate_succ
def Md:=@List.replicate_succ'
def Me:=@List.set_eq_take_append_cons_drop
def Mf:=@List.set_getElem_self
def Mg:=@List.size_toArray
def Mh:=@List.sum_cons
def Mi:=@List.take_add_one
def Mj:=@List.take_append_getElem
def Mk:=@List.take_length
def Ml:=@List.take_of_length_le
def Mm:=@List.take_set_of_le
def Mn:=@List.take_succ_cons
def Mo:=@List.take_succ_eq_append_getElem
def Mp:=@List.take_zero
def Mq:=@Go.MapKept.run_getObj_map
def Mr:=@Go.MapKept.run_setObj_map
def Ms:=@Nat.add_comm
def Mt:=@Nat.add_mul
def Mu:=@Nat.add_mul_mod_self_right
def Mv:=@Nat.add_right_comm
def Mw:=@Nat.add_sub_cancel_left
def Mx:=@Nat.add_zero
def My:=@Nat.beq_refl
def Mz:=@Nat.div_eq_of_lt
def MA:=@Nat.div_lt_iff_lt_mul
def MB:=@Nat.eq_of_beq_eq_true
def MC:=@Nat.eq_of_testBit_eq
def MD:=@Nat.eq_zero_or_pos
def MF:=@Nat.exists_eq_add_of_le
def MH:=@Nat.le_of_ble_eq_true
def MI:=@Nat.le_of_eq
def MJ:=@Nat.le_of_lt
def MK:=@Nat.le_of_not_lt
def MM:=@Nat.le_refl
def MN:=@Nat.le_trans
def MO:=@Nat.lt_irrefl
def MP:=@Nat.lt_of_le_of_lt
def MQ:=@Nat.lt_of_lt_of_le
def MR:=@Nat.lt_or_ge
def MS:=@Nat.min_eq_left
def MT:=@Nat.mod_eq_of_lt
def MU:=@Nat.mod_lt
def MV:=@Nat.mul_le_mul
def MW:=@Nat.mul_le_mul_left
def MX:=@Nat.mul_le_mul_right
def MY:=@Nat.mul_one
def MZ:=@Nat.not_lt_zero
def M0:=@Nat.one_le_two_pow
def M1:=@Nat.one_mul
def M2:=@Nat.one_shiftLeft
def M3:=@Nat.or_lt_two_pow
def M4:=@Nat.pow_le_pow_right
def M5:=@Nat.pow_lt_pow_right
def M6:=@Nat.shiftRight_eq_div_pow
def M7:=@Nat.shiftRight_le
def M8:=@Nat.sub_self
def M9:=@Nat.succ_le_of_lt
def M_:=@Nat.testBit_and
def Na:=@Nat.testBit_shiftRight
def Nb:=@Nat.zero_add
def Nc:=@Nat.zero_le
def Nd:=@Nat.zero_testBit
def Nf:=@Ne.symm
def Ng:=@Go.Oper.wp_mono
def Nh:=@Option.bind_eq_bind
def Ni:=@Option.bind_eq_some_iff
def Nj:=@Option.bind_some
def Nk:=@Option.getD_some
def Nl:=@Option.map_eq_some_iff
def Nm:=@Option.pure_def
def Nn:=@Option.some.inj
def No:=@Option.some.injEq
def Np:=@Prod.mk.inj
def Nq:=@Prod.mk.injEq
def Nr:=@Go.Program.keyLits.eq_def
def Ns:=@Go.Region.free_spec
def Nt:=@Go.Region.noSelect_spec
def Nu:=@Go.Result.andThen_ok
def Nv:=@Go.Sem.run_bind
def Nx:=@Go.Sem.run_pure
def Ny:=@Go.Proofs.Tryz.func116
def Nz:=@Go.Proofs.Tryz.func3
def NA:=@Go.Proofs.Tryz.isAgg3
def NB:=@Go.Proofs.Tryz.isAgg4
def NC:=@Go.Proofs.Tryz.ntmps116
def ND:=@Go.Proofs.Tryz.sizeOf275
def NE:=@Go.Proofs.Tryz.sizeOf3
def NF:=@Go.Proofs.Tryz.sizeOf315
def NG:=@Go.Proofs.Tryz.sizeOf4
def NH:=@Go.Proofs.Tryz.underlying108
def NI:=@Go.Proofs.Tryz.underlying131
def NJ:=@Go.Proofs.Tryz.underlying200
def NK:=@Go.Proofs.Tryz.underlying22
def NL:=@Go.Proofs.Tryz.underlying221
def NM:=@Go.Proofs.Tryz.underlying226
def NO:=@Go.Proofs.Tryz.underlying23
def NP:=@Go.Proofs.Tryz.underlying233
def NQ:=@Go.Proofs.Tryz.underlying235
def NR:=@Go.Proofs.Tryz.underlying27
def NS:=@Go.Proofs.Tryz.underlying275
def NT:=@Go.Proofs.Tryz.underlying29
def NU:=@Go.Proofs.Tryz.underlying3
def NV:=@Go.Proofs.Tryz.underlying30
def NW:=@Go.Proofs.Tryz.underlying315
def NX:=@Go.Proofs.Tryz.underlying33
def NY:=@Go.Proofs.Tryz.underlying37
def NZ:=@Go.Proofs.Tryz.underlying39
def N0:=@Go.Proofs.Tryz.underlying4
def N4:=@Go.Proofs.Tryz.underlying5
def N5:=@Go.Proofs.Tryz.underlying50
def N6:=@Go.Proofs.Tryz.underlying51
def N7:=@Go.Proofs.Tryz.underlying66
def N8:=@Go.Proofs.Tryz.underlying72
def N9:=@Go.Proofs.Tryz.underlying75
def N_:=@Go.Proofs.Tryz.underlying80
def Oa:=@Go.Proofs.Tryz.underlying9
def Ob:=@Go.Proofs.Tryz.underlying94
def Oc:=@Go.Proofs.Tryz.zeroValue275
def Od:=@Go.Proofs.Tryz.zeroValue3
def Oe:=@Go.Proofs.Tryz.zeroValue315
def Of:=@Go.Proofs.Tryz.zeroValue4
def Og:=@Go.Proofs.Tryz.zeroValue5
def Oh:=@Go.Proofs.Tryz.zeroValue9
def Oi:=@Go.Value.slice.inj
def Oj:=@Go.WideShapes.add_plain
def Ok:=@Go.World.block_lt_of_cell?
def Ol:=@and_assoc
def Om:=@and_congr
def On:=@and_congr_right
def Oo:=@beq_eq_false_iff_ne
def Oq:=@beq_iff_eq
def Or:=@beq_self_eq_true
def Ot:=@Go.bits_and_u64_nat
def Ou:=@bne_iff_ne
def Ov:=@Go.bodyPost_ret
def Ow:=@Go.cell_of_row
def Ox:=@congrArg
def Oy:=@decide_eq_decide
def Oz:=@decide_eq_false
def OA:=@decide_eq_false_iff_not
def OC:=@decide_eq_true
def OD:=@decide_eq_true_eq
def OE:=@decide_eq_true_iff
def OF:=@dif_pos
def OG:=@gt_iff_lt
def OH:=@Go.heap_alloc_new
def OI:=@if_false
def OJ:=@if_neg
def OK:=@if_pos
def OL:=@if_true
def OM:=@Go.mem_ready
def ON:=@not_congr
def OO:=@not_or
def OP:=@of_decide_eq_false
def OQ:=@of_decide_eq_true
def OR:=@Go.ready_mono
def OS:=@Go.run_loadCells_list
def OT:=@Go.run_program
def OU:=@Go.run_storeCells_at
def OW:=@Go.run_underlying
def OX:=@Go.setRow_heap
def OY:=@Go.setRow_other
def OZ:=@Go.ChangeShapes.trodAll_cons
def O0:=@Go.wpAnyH_all
def O1:=@Go.wpList_step
def O2:=@Go.wpOp_mono
def O3:=@Go.wpQuiet_step
def O4:=@Go.wp_mono
def O5:=@Go.wp_region_any
theorem Pg{p:Prop}(s:p:=by exact fun _=>rfl):p:=s
theorem Ph{p:Prop}(s:p:=by exact fun v γ γ' w w' h e _=>h.ext e):p:=s
theorem Pi{p:Prop}(s:p:=by exact fun g hg=>by cases hg;exact MM _):p:=s
theorem Pj{p:Prop}(s:p:=by exact fun _ h=>h.elim):p:=s
theorem Pk{p:Prop}(s:p:=by exact fun g hg=>by cases hg;omega):p:=s
theorem Pl{p:Prop}(s:p:=by exact fun _ h=>h):p:=s
theorem Pm{p:Prop}(s:p:=by exact fun _ _=>⟨none,0,rfl,by simp,by simp[maxLen],fun _=>rfl,fun i hi=>absurd hi (by simp)⟩):p:=s
theorem Pn{p:Prop}(s:p:=by exact fun k h=>by cases h):p:=s
theorem Po{p:Prop}(s:p:=by exact fun e=>by have:=Nn e;omega):p:=s
theorem Pp{p:Prop}(s:p:=by exact fun g hg=>by cases hg;exact .inl rfl):p:=s
theorem Pq{p:Prop}(s:p:=by exact fun _ _=>rfl):p:=s
theorem Pr{p:Prop}(s:p:=by exact AN rfl):p:=s
theorem Pt{p:Prop}(s:p:=by exact Rd.mkInt _ _ _):p:=s
theorem Pu{p:Prop}(s:p:=by exact MM _):p:=s
theorem Pv{p:Prop}(s:p:=by exact JI _ _):p:=s
theorem Pw{p:Prop}(s:p:=by exact Ext.refl _):p:=s
theorem Px{p:Prop}(s:p:=by exact WL.nil (a8 rfl (Ext.refl _) rfl)):p:=s
theorem O6{p:Prop}(s:p:=by repeat (first|exact trivial|refine⟨rfl,?_⟩)):p:=s
theorem O7{p:Prop}(s:p:=by omega):p:=s
theorem O8{p:Prop}(s:p:=by kernel_rfl):p:=s
theorem O9{p:Prop}(s:p:=by decide):p:=s
theorem O_{p:Prop}(s:p:=by simp):p:=s
theorem Pa{p:Prop}(s:p:=by dsimp only;omega):p:=s
theorem Pb{p:Prop}(s:p:=by unfold maxLen;omega):p:=s
theorem Pc{p:Prop}(s:p:=by simp;omega):p:=s
theorem Pd{p:Prop}(s:p:=by simp only[Lm,Lt];omega):p:=s
theorem Pe{p:Prop}(s:p:=by simp only[Ll,Lm,Lt];omega):p:=s
theorem Pf{p:Prop}(s:p:=by rw[Ls];omega):p:=s
theorem PA{p q:Prop}(k:q)(s:Hid_ q→p:=by intro k;(repeat (first|(apply fm;rfl;rfl;rfl)|(apply WL.nil)|(apply bz)|(apply CW.seq)|(apply CW.region)|(apply CW.ret)|(apply bA)|(apply aY)));exact k.o):p:=s ⟨k⟩
theorem PB{p q:Prop}(k:q)(s:Hid_ q→p:=by intro k;(repeat (first|(apply CW.seq)|(apply CW.region)));exact k.o):p:=s ⟨k⟩
theorem PC{p q:Prop}(k:q)(s:Hid_ q→p:=by intro k;(repeat (apply bz));exact k.o):p:=s ⟨k⟩
theorem PD{p q:Prop}(k:q)(s:Hid_ q→p:=by intro k;(repeat (apply CW.skip));exact k.o):p:=s ⟨k⟩
theorem PE{p q:Prop}(k:q)(s:Hid_ q→p:=by intro k;(repeat (first|(apply fm;rfl;rfl;rfl)|(apply WL.nil)|(apply bz)|(apply WL.pass;rfl;rfl)|(apply ax;rfl)|(apply CW.skip)));exact k.o):p:=s ⟨k⟩
theorem PH{p q:Prop}(k:q)(s:Hid_ q→p:=by intro k;(repeat (first|(apply fm;rfl;rfl;rfl)|(apply WL.nil)|(apply WL.pass;rfl;rfl)));exact k.o):p:=s ⟨k⟩
theorem PI{p q:Prop}(k:q)(s:Hid_ q→p:=by intro k;(repeat (first|(apply WL.add;rfl;rfl;rfl;rfl;omega;omega)|(apply fm;rfl;rfl;rfl)|(apply WL.nil)|(apply bz)|(apply CW.region)|(apply aX)|(apply CW.skip)));exact k.o):p:=s ⟨k⟩
theorem PJ{p q:Prop}(k:q)(s:Hid_ q→p:=by intro k;(repeat (first|(apply WL.nil)|(apply bz)|(apply CW.seq)|(apply CW.region)|(apply eM;rfl;rfl;rfl;assumption;rfl)));exact k.o):p:=s ⟨k⟩
theorem PK{p q:Prop}(k:q)(s:Hid_ q→p:=by intro k;(repeat (first|(apply fm;rfl;rfl;rfl)|(apply WL.nil)|(apply bz)|(apply CW.ret)));exact k.o):p:=s ⟨k⟩
theorem PL{p q:Prop}(k:q)(s:Hid_ q→p:=by intro k;(repeat (first|(apply fm;rfl;rfl;rfl)|(apply WL.nil)|(apply bz)|(apply WL.pass;rfl;rfl)|(apply CW.ret)));exact k.o):p:=s ⟨k⟩
theorem PM{p q:Prop}(k:q)(s:Hid_ q→p:=by intro k;(repeat (first|(apply fm;rfl;rfl;rfl)|(apply WL.nil)|(apply bz)|(apply CW.seq)|(apply CW.region)|(apply WL.pass;rfl;rfl)|(apply ax;rfl)|(apply CW.ret)|(apply bA)|(apply aY)));exact k.o):p:=s ⟨k⟩
theorem PN{p q:Prop}(k:q)(s:Hid_ q→p:=by intro k;(repeat (first|(apply fm;rfl;rfl;rfl)|(apply WL.nil)|(apply bz)));exact k.o):p:=s ⟨k⟩
theorem PO{p q:Prop}(k:q)(s:Hid_ q→p:=by intro k;(repeat (first|(apply WL.nil)|(apply bz)|(apply CW.ret)));exact k.o):p:=s ⟨k⟩
theorem PP{p q:Prop}(k:q)(s:Hid_ q→p:=by intro k;(repeat (first|(apply WL.nil)|(apply bz)|(apply CW.seq)));exact k.o):p:=s ⟨k⟩
theorem PQ{p q:Prop}(k:q)(s:Hid_ q→p:=by intro k;(repeat (first|(apply bz)|(apply CW.ret)));exact k.o):p:=s ⟨k⟩
theorem PS{p q:Prop}(k:q)(s:Hid_ q→p:=by intro k;(repeat (first|(apply fm;rfl;rfl;rfl)|(apply WL.nil)|(apply bz)|(apply CW.ret)|(apply bA)));exact k.o):p:=s ⟨k⟩
theorem PT{p q:Prop}(k:q)(s:Hid_ q→p:=by intro k;(repeat (first|(apply fm;rfl;rfl;rfl)|(apply WL.nil)|(apply bz)|(apply CW.seq)|(apply CW.region)|(apply CW.block)|(apply CW.skip)));exact k.o):p:=s ⟨k⟩
theorem PU{p q:Prop}(k:q)(s:Hid_ q→p:=by intro k;(repeat (first|(apply WL.nil)|(apply bz)));exact k.o):p:=s ⟨k⟩
theorem PV{p q:Prop}(k:q)(s:Hid_ q→p:=by intro k;(repeat (first|(apply fm;rfl;rfl;rfl)|(apply WL.nil)|(apply bz)|(apply CW.seq)|(apply CW.region)|(refine eO rfl rfl rfl (by assumption) ?_)));exact k.o):p:=s ⟨k⟩
theorem PW{p q:Prop}(k:q)(s:Hid_ q→p:=by intro k;(repeat (first|(apply fm;rfl;rfl;rfl)|(apply CW.seq)|(apply CW.region)));exact k.o):p:=s ⟨k⟩
theorem PX{p q:Prop}(k:q)(s:Hid_ q→p:=by intro k;(repeat (first|(apply fm;rfl;rfl;rfl)|(apply bz)|(apply CW.seq)|(apply CW.region)|(apply CW.block)|(apply CW.skip)));exact k.o):p:=s ⟨k⟩
theorem PY{p q:Prop}(k:q)(s:Hid_ q→p:=by intro k;(repeat (first|(apply fm;rfl;rfl;rfl)|(apply CW.region)));exact k.o):p:=s ⟨k⟩
theorem PZ{p q:Prop}(k:q)(s:Hid_ q→p:=by intro k;(repeat (apply WL.nil));exact k.o):p:=s ⟨k⟩
theorem P0{p q:Prop}(k:q)(s:Hid_ q→p:=by intro k;(repeat (first|(apply WL.add;rfl;rfl;rfl;rfl;omega;omega)|(apply fm;rfl;rfl;rfl)|(apply WL.nil)|(apply bz)|(apply CW.region)|(apply aX)|(apply aw;rfl)|(apply CW.skip)));exact k.o):p:=s ⟨k⟩
theorem P1{p q:Prop}(k:q)(s:Hid_ q→p:=by intro k;(repeat (apply CW.seq));exact k.o):p:=s ⟨k⟩
theorem P2{p q:Prop}(k:q)(s:Hid_ q→p:=by intro k;(repeat (first|(apply fm;rfl;rfl;rfl)|(apply WL.nil)|(apply bz)|(apply CW.ret)|(apply bA)|(apply aY)));exact k.o):p:=s ⟨k⟩
theorem P3{p q:Prop}(k:q)(s:Hid_ q→p:=by intro k;(repeat (first|(apply WL.add;rfl;rfl;rfl;rfl;omega;omega)|(apply fm;rfl;rfl;rfl)|(apply WL.nil)|(apply bz)|(apply CW.region)|(apply aX)|(apply ax;rfl)));exact k.o):p:=s ⟨k⟩
theorem P4{p q:Prop}(k:q)(s:Hid_ q→p:=by intro k;(repeat (first|(apply fm;rfl;rfl;rfl)|(apply bz)|(apply CW.seq)|(apply CW.region)|(apply eM;rfl;rfl;rfl;assumption;rfl)|(apply CW.skip)));exact k.o):p:=s ⟨k⟩
theorem P5{p q:Prop}(k:q)(s:Hid_ q→p:=by intro k;(repeat (first|(apply ax;rfl)|(apply CW.skip)));exact k.o):p:=s ⟨k⟩
theorem P6{p q:Prop}(k:q)(s:Hid_ q→p:=by intro k;(repeat (first|(apply fm;rfl;rfl;rfl)|(apply WL.nil)|(apply bz)|(apply CW.seq)|(apply CW.region)|(apply aX)|(apply CW.exit)|(apply bB)|(apply aZ)|(apply CW.ret)));exact k.o):p:=s ⟨k⟩
theorem P7{p q:Prop}(k:q)(s:Hid_ q→p:=by intro k;(repeat (first|(apply CW.seq)|(apply CW.region)|(apply eG;rfl;rfl;rfl)|(apply eM;rfl;rfl;rfl;assumption;rfl)));exact k.o):p:=s ⟨k⟩
theorem P8{p q:Prop}(k:q)(s:Hid_ q→p:=by intro k;(repeat (first|(apply fm;rfl;rfl;rfl)|(apply WL.nil)|(apply bz)|(apply CW.seq)|(apply CW.region)|(apply eG;rfl;rfl;rfl)|(apply eL;rfl;rfl;rfl;assumption;rfl)|(apply CW.block)|(apply ax;rfl)|(apply aw;rfl)|(apply CW.ret)|(apply bA)|(apply aY)));exact k.o):p:=s ⟨k⟩
theorem P9{p q:Prop}(k:q)(s:Hid_ q→p:=by intro k;(repeat (first|(apply fm;rfl;rfl;rfl)|(apply WL.nil)|(apply bz)|(apply CW.seq)|(apply CW.region)|(apply eG;rfl;rfl;rfl)|(apply fh;rfl;rfl;rfl)|(apply eL;rfl;rfl;rfl;assumption;rfl)));exact k.o):p:=s ⟨k⟩
theorem P_{p q:Prop}(k:q)(s:Hid_ q→p:=by intro k;(repeat (first|(apply fm;rfl;rfl;rfl)|(apply WL.nil)|(apply bz)|(apply CW.seq)|(apply CW.region)|(apply CW.exit)|(apply bB)|(apply aZ)|(apply CW.ret)));exact k.o):p:=s ⟨k⟩
theorem Qa{p q:Prop}(k:q)(s:Hid_ q→p:=by intro k;(repeat (first|(apply fm;rfl;rfl;rfl)|(apply WL.nil)|(apply bz)|(apply CW.seq)|(apply CW.region)|(apply eL;rfl;rfl;rfl;assumption;rfl)));exact k.o):p:=s ⟨k⟩
theorem Qb{p q:Prop}(k:q)(s:Hid_ q→p:=by intro k;(repeat (first|(apply fm;rfl;rfl;rfl)|(apply WL.nil)|(apply bz)|(apply WL.pass;rfl;rfl)|(apply CW.ret)|(apply bA)|(apply aY)));exact k.o):p:=s ⟨k⟩
theorem Qc{p q:Prop}(k:q)(s:Hid_ q→p:=by intro k;(repeat (first|(apply WL.add;rfl;rfl;rfl;rfl;omega;omega)|(apply fm;rfl;rfl;rfl)|(apply WL.nil)|(apply bz)|(apply CW.region)|(apply aX)));exact k.o):p:=s ⟨k⟩
theorem Qd{p q:Prop}(k:q)(s:Hid_ q→p:=by intro k;(repeat (first|(apply fm;rfl;rfl;rfl)|(apply WL.nil)|(apply bz)|(apply CW.seq)|(apply CW.region)|(apply eQ;rfl;rfl;rfl)|(apply CW.block)|(apply ax;rfl)));exact k.o):p:=s ⟨k⟩
theorem Qe{p q:Prop}(k:q)(s:Hid_ q→p:=by intro k;(repeat (first|(apply WL.add;rfl;rfl;rfl;rfl;omega;omega)|(apply fm;rfl;rfl;rfl)|(apply WL.nil)|(apply bz)|(apply CW.region)|(apply aX)|(apply CW.exit)|(apply bB)|(apply aZ)));exact k.o):p:=s ⟨k⟩
theorem Qf{p q:Prop}(k:q)(s:Hid_ q→p:=by intro k;(repeat (first|(apply bz)|(apply aX)|(apply CW.exit)|(apply bB)|(apply aZ)|(apply CW.skip)));exact k.o):p:=s ⟨k⟩
theorem Qg{p q:Prop}(k:q)(s:Hid_ q→p:=by intro k;(repeat (first|(apply CW.seq)|(apply CW.region)|(apply WL.makeFunc;rfl;rfl;rfl;rfl)|(apply eL;rfl;rfl;rfl;assumption;rfl)|(apply ax;rfl)));exact k.o):p:=s ⟨k⟩
theorem Qh{p q:Prop}(k:q)(s:Hid_ q→p:=by intro k;(repeat (first|(apply fm;rfl;rfl;rfl)|(apply WL.nil)|(apply bz)|(apply CW.seq)|(apply CW.region)|(apply WL.pass;rfl;rfl)|(apply aX)|(apply aw;rfl)|(apply CW.ret)|(apply CW.skip)));exact k.o):p:=s ⟨k⟩
theorem Qi{p q:Prop}(k:q)(s:Hid_ q→p:=by intro k;(repeat (first|(apply fm;rfl;rfl;rfl)|(apply bz)|(apply CW.seq)|(apply CW.region)|(apply ax;rfl)|(apply CW.exit)|(apply bB)|(apply aZ)|(apply a7;rfl)|(apply CW.skip)));exact k.o):p:=s ⟨k⟩
theorem Qj{p q:Prop}(k:q)(s:Hid_ q→p:=by intro k;(repeat (first|(apply fm;rfl;rfl;rfl)|(apply WL.nil)|(apply bz)|(apply CW.seq)|(apply CW.region)|(apply CW.block)));exact k.o):p:=s ⟨k⟩
theorem Qk{p q:Prop}(k:q)(s:Hid_ q→p:=by intro k;(repeat (first|(apply bz)|(apply CW.ret)|(apply bA)|(apply aY)));exact k.o):p:=s ⟨k⟩
theorem Ql{p q:Prop}(k:q)(s:Hid_ q→p:=by intro k;(repeat (first|(apply bz)|(apply CW.seq)|(apply CW.region)|(apply eG;rfl;rfl;rfl)|(apply eL;rfl;rfl;rfl;assumption;rfl)|(apply eM;rfl;rfl;rfl;assumption;rfl)|(apply aX)|(apply aw;rfl)|(apply CW.skip)));exact k.o):p:=s ⟨k⟩
theorem Qm{p q:Prop}(k:q)(s:Hid_ q→p:=by intro k;(repeat (first|(apply fm;rfl;rfl;rfl)|(apply bz)|(apply CW.seq)|(apply CW.region)|(apply CW.skip)));exact k.o):p:=s ⟨k⟩
theorem Qn{p q:Prop}(k:q)(s:Hid_ q→p:=by intro k;(repeat (first|(apply WL.add;rfl;rfl;rfl;rfl;omega;omega)|(apply fm;rfl;rfl;rfl)|(apply WL.nil)|(apply bz)|(apply CW.seq)|(apply CW.region)|(apply eG;rfl;rfl;rfl)|(apply fh;rfl;rfl;rfl)|(apply eL;rfl;rfl;rfl;assumption;rfl)|(apply aX)));exact k.o):p:=s ⟨k⟩
theorem Qo{p q:Prop}(k:q)(s:Hid_ q→p:=by intro k;(repeat (first|(apply fm;rfl;rfl;rfl)|(apply bz)|(apply CW.seq)|(apply CW.region)|(apply CW.exit)|(apply bB)|(apply aZ)));exact k.o):p:=s ⟨k⟩
theorem Qp{p q:Prop}(k:q)(s:Hid_ q→p:=by intro k;(repeat (first|(apply WL.nil)|(apply bz)|(apply CW.ret)|(apply bA)|(apply aY)));exact k.o):p:=s ⟨k⟩
theorem Qq{p q:Prop}(k:q)(s:Hid_ q→p:=by intro k;(repeat (first|(apply fm;rfl;rfl;rfl)|(apply WL.nil)|(apply bz)|(apply CW.region)));exact k.o):p:=s ⟨k⟩
theorem Qr{p q:Prop}(k:q)(s:Hid_ q→p:=by intro k;(repeat (first|(apply bz)|(apply CW.seq)|(apply CW.region)|(apply aX)|(apply CW.skip)));exact k.o):p:=s ⟨k⟩
theorem Qs{p q:Prop}(k:q)(s:Hid_ q→p:=by intro k;(repeat (first|(apply fm;rfl;rfl;rfl)|(apply WL.nil)|(apply bz)|(apply eQ;rfl;rfl;rfl)|(apply CW.block)));exact k.o):p:=s ⟨k⟩
theorem Qt{p q:Prop}(k:q)(s:Hid_ q→p:=by intro k;(repeat (first|(apply fm;rfl;rfl;rfl)|(apply WL.nil)|(apply bz)|(apply CW.seq)|(apply CW.region)));exact k.o):p:=s ⟨k⟩
theorem Qu{p q:Prop}(k:q)(s:Hid_ q→p:=by intro k;(repeat (first|(apply CW.seq)|(apply ax;rfl)));exact k.o):p:=s ⟨k⟩
theorem Qv{p q:Prop}(k:q)(s:Hid_ q→p:=by intro k;(repeat (first|(apply fm;rfl;rfl;rfl)|(apply WL.nil)|(apply bz)|(apply CW.seq)|(apply CW.region)|(apply aw;rfl)|(apply CW.skip)));exact k.o):p:=s ⟨k⟩
theorem Qw{p q:Prop}(k:q)(s:Hid_ q→p:=by intro k;(repeat (first|(apply bz)|(apply CW.seq)|(apply CW.region)|(apply WL.makeFunc;rfl;rfl;rfl;rfl)|(apply eG;rfl;rfl;rfl)|(apply eL;rfl;rfl;rfl;assumption;rfl)|(apply eM;rfl;rfl;rfl;assumption;rfl)|(apply CW.skip)));exact k.o):p:=s ⟨k⟩
theorem Qx{p q:Prop}(k:q)(s:Hid_ q→p:=by intro k;(repeat (first|(apply WL.add;rfl;rfl;rfl;rfl;omega;omega)|(apply fm;rfl;rfl;rfl)|(apply WL.nil)|(apply bz)|(apply CW.seq)|(apply CW.region)|(apply WL.pass;rfl;rfl)|(apply aX)|(apply aw;rfl)|(apply CW.skip)));exact k.o):p:=s ⟨k⟩
theorem Qy{p q:Prop}(k:q)(s:Hid_ q→p:=by intro k;(repeat (first|(apply fm;rfl;rfl;rfl)|(apply WL.nil)|(apply bz)|(apply CW.seq)|(apply CW.region)|(apply eQ;rfl;rfl;rfl)|(apply eG;rfl;rfl;rfl)|(apply fh;rfl;rfl;rfl)|(apply eL;rfl;rfl;rfl;assumption;rfl)|(apply CW.block)|(apply CW.exit)|(apply bB)|(apply aZ)|(apply CW.ret)));exact k.o):p:=s ⟨k⟩
theorem Qz{p q:Prop}(k:q)(s:Hid_ q→p:=by intro k;(repeat (first|(apply fm;rfl;rfl;rfl)|(apply WL.nil)|(apply bz)|(apply CW.seq)|(apply CW.region)|(apply WL.makeFunc;rfl;rfl;rfl;rfl)|(apply eG;rfl;rfl;rfl)|(apply eL;rfl;rfl;rfl;assumption;rfl)|(apply CW.block)|(apply ax;rfl)|(apply aw;rfl)));exact k.o):p:=s ⟨k⟩
theorem QA{p q:Prop}(k:q)(s:Hid_ q→p:=by intro k;(repeat (first|(apply fm;rfl;rfl;rfl)|(apply WL.nil)|(apply bz)|(apply CW.seq)|(apply CW.region)|(apply aw;rfl)));exact k.o):p:=s ⟨k⟩
theorem QB{p q:Prop}(k:q)(s:Hid_ q→p:=by intro k;(repeat (first|(apply fm;rfl;rfl;rfl)|(apply CW.seq)|(apply CW.region)|(apply ax;rfl)));exact k.o):p:=s ⟨k⟩
theorem QC{p q:Prop}(k:q)(s:Hid_ q→p:=by intro k;(repeat (first|(apply fm;rfl;rfl;rfl)|(apply WL.nil)|(apply bz)|(apply CW.seq)|(apply CW.region)|(apply WL.pass;rfl;rfl)|(apply ax;rfl)|(apply aw;rfl)|(apply CW.exit)|(apply bB)|(apply aZ)|(apply a7;rfl)|(apply CW.ret)|(apply CW.skip)));exact k.o):p:=s ⟨k⟩
theorem QD{p q:Prop}(k:q)(s:Hid_ q→p:=by intro k;(repeat (first|(apply fC;rfl;rfl;rfl;rfl;omega;omega)|(apply fm;rfl;rfl;rfl)|(apply WL.nil)|(apply bz)|(apply CW.seq)|(apply CW.region)|(apply eQ;rfl;rfl;rfl)|(apply eK;rfl;rfl;rfl)));exact k.o):p:=s ⟨k⟩
theorem QE{p q:Prop}(k:q)(s:Hid_ q→p:=by intro k;(repeat (first|(apply fm;rfl;rfl;rfl)|(apply WL.nil)|(apply bz)|(apply CW.seq)|(apply CW.region)|(apply eQ;rfl;rfl;rfl)|(apply eG;rfl;rfl;rfl)|(apply fh;rfl;rfl;rfl)|(apply eL;rfl;rfl;rfl;assumption;rfl)|(apply CW.block)));exact k.o):p:=s ⟨k⟩
theorem QF{p q:Prop}(k:q)(s:Hid_ q→p:=by intro k;(repeat (first|(apply aX)|(apply CW.exit)|(apply bB)|(apply aZ)));exact k.o):p:=s ⟨k⟩
theorem QG{p q:Prop}(k:q)(s:Hid_ q→p:=by intro k;(repeat (first|(apply CW.region)|(apply eG;rfl;rfl;rfl)|(apply eL;rfl;rfl;rfl;assumption;rfl)|(apply eM;rfl;rfl;rfl;assumption;rfl)));exact k.o):p:=s ⟨k⟩
theorem QH{p q:Prop}(k:q)(s:Hid_ q→p:=by intro k;(repeat (first|(apply bz)|(apply CW.seq)|(apply CW.region)|(apply eM;rfl;rfl;rfl;assumption;rfl)|(apply CW.skip)));exact k.o):p:=s ⟨k⟩
theorem QI{p q:Prop}(k:q)(s:Hid_ q→p:=by intro k;(repeat (first|(apply fm;rfl;rfl;rfl)|(apply WL.nil)|(apply bz)|(apply CW.seq)|(apply CW.region)|(apply eQ;rfl;rfl;rfl)|(apply eG;rfl;rfl;rfl)|(apply fh;rfl;rfl;rfl)|(apply eL;rfl;rfl;rfl;assumption;rfl)|(apply CW.block)|(apply aw;rfl)|(apply CW.skip)));exact k.o):p:=s ⟨k⟩
theorem QJ{p q:Prop}(k:q)(s:Hid_ q→p:=by intro k;(repeat (first|(apply fm;rfl;rfl;rfl)|(apply WL.nil)|(apply bz)|(apply CW.seq)|(apply CW.region)|(apply WL.makeFunc;rfl;rfl;rfl;rfl)));exact k.o):p:=s ⟨k⟩
theorem QK{p q:Prop}(k:q)(s:Hid_ q→p:=by intro k;(repeat (first|(apply fm;rfl;rfl;rfl)|(apply WL.nil)|(apply bz)|(apply CW.seq)|(apply CW.region)|(apply ax;rfl)|(apply CW.ret)|(apply bA)|(apply aY)|(apply CW.skip)));exact k.o):p:=s ⟨k⟩
theorem QM{p q:Prop}(k:q)(s:Hid_ q→p:=by intro k;(repeat (first|(apply fm;rfl;rfl;rfl)|(apply WL.nil)|(apply bz)|(apply eG;rfl;rfl;rfl)|(apply eL;rfl;rfl;rfl;assumption;rfl)));exact k.o):p:=s ⟨k⟩
theorem QN{p q:Prop}(k:q)(s:Hid_ q→p:=by intro k;(repeat (first|(apply fm;rfl;rfl;rfl)|(apply WL.nil)|(apply bz)|(apply CW.seq)|(apply CW.region)|(apply eQ;rfl;rfl;rfl)|(apply eM;rfl;rfl;rfl;assumption;rfl)|(apply CW.block)|(apply aw;rfl)|(apply CW.skip)));exact k.o):p:=s ⟨k⟩
theorem QO{p q:Prop}(k:q)(s:Hid_ q→p:=by intro k;(repeat (first|(apply fm;rfl;rfl;rfl)|(apply WL.nil)|(apply bz)|(apply CW.seq)|(apply CW.region)|(apply CW.ret)|(apply bA)));exact k.o):p:=s ⟨k⟩
theorem QP{p q:Prop}(k:q)(s:Hid_ q→p:=by intro k;(repeat (first|(apply fm;rfl;rfl;rfl)|(apply WL.nil)|(apply bz)|(apply CW.seq)|(apply CW.region)|(apply eQ;rfl;rfl;rfl)|(apply eG;rfl;rfl;rfl)|(apply eL;rfl;rfl;rfl;assumption;rfl)|(apply CW.block)|(apply aX)|(apply CW.skip)));exact k.o):p:=s ⟨k⟩
theorem QQ{p q:Prop}(k:q)(s:Hid_ q→p:=by intro k;(repeat (first|(apply fm;rfl;rfl;rfl)|(apply WL.nil)|(apply bz)|(apply CW.seq)|(apply CW.region)|(apply eQ;rfl;rfl;rfl)|(apply WL.makeFunc;rfl;rfl;rfl;rfl)|(apply eG;rfl;rfl;rfl)|(apply fh;rfl;rfl;rfl)|(apply eL;rfl;rfl;rfl;assumption;rfl)|(apply eM;rfl;rfl;rfl;assumption;rfl)|(apply CW.block)|(apply ax;rfl)));exact k.o):p:=s ⟨k⟩
theorem QR{p q:Prop}(k:q)(s:Hid_ q→p:=by intro k;(repeat (first|(apply fm;rfl;rfl;rfl)|(apply WL.nil)|(apply bz)|(apply CW.seq)|(apply CW.region)|(apply eG;rfl;rfl;rfl)|(apply eL;rfl;rfl;rfl;assumption;rfl)));exact k.o):p:=s ⟨k⟩
theorem QS{p q:Prop}(k:q)(s:Hid_ q→p:=by intro k;(repeat (first|(apply fC;rfl;rfl;rfl;rfl;omega;omega)|(apply fm;rfl;rfl;rfl)|(apply WL.nil)|(apply bz)|(apply CW.seq)|(apply CW.region)|(apply eQ;rfl;rfl;rfl)|(apply CW.block)|(apply CW.skip)|(refine eO rfl rfl rfl (by assumption) ?_)));exact k.o):p:=s ⟨k⟩
theorem QT{p q:Prop}(k:q)(s:Hid_ q→p:=by intro k;(repeat (first|(apply fm;rfl;rfl;rfl)|(apply bz)|(apply CW.seq)|(apply CW.region)|(apply WL.makeFunc;rfl;rfl;rfl;rfl)|(apply eG;rfl;rfl;rfl)|(apply fh;rfl;rfl;rfl)|(apply eL;rfl;rfl;rfl;assumption;rfl)|(apply eM;rfl;rfl;rfl;assumption;rfl)|(apply CW.exit)|(apply bB)|(apply aZ)));exact k.o):p:=s ⟨k⟩
theorem QU{p q:Prop}(k:q)(s:Hid_ q→p:=by intro k;(repeat (first|(apply fm;rfl;rfl;rfl)|(apply WL.nil)|(apply bz)|(apply CW.seq)|(apply CW.region)|(apply aX)|(apply CW.ret)|(apply CW.skip)));exact k.o):p:=s ⟨k⟩
theorem QV{p q:Prop}(k:q)(s:Hid_ q→p:=by intro k;(repeat (first|(apply WL.add;rfl;rfl;rfl;rfl;omega;omega)|(apply fm;rfl;rfl;rfl)|(apply WL.nil)|(apply bz)|(apply CW.seq)|(apply CW.region)|(apply WL.makeFunc;rfl;rfl;rfl;rfl)|(apply eG;rfl;rfl;rfl)|(apply fh;rfl;rfl;rfl)|(apply eL;rfl;rfl;rfl;assumption;rfl)|(apply CW.exit)|(apply bB)|(apply aZ)|(apply a7;rfl)));exact k.o):p:=s ⟨k⟩
theorem QW{p q:Prop}(k:q)(s:Hid_ q→p:=by intro k;(repeat (first|(apply fm;rfl;rfl;rfl)|(apply bz)|(apply CW.seq)|(apply CW.region)|(apply eG;rfl;rfl;rfl)|(apply fh;rfl;rfl;rfl)|(apply eL;rfl;rfl;rfl;assumption;rfl)|(apply ax;rfl)));exact k.o):p:=s ⟨k⟩
theorem QX{p q:Prop}(k:q)(s:Hid_ q→p:=by intro k;(repeat (first|(apply fm;rfl;rfl;rfl)|(apply WL.nil)|(apply bz)|(apply CW.seq)|(apply CW.region)|(apply eQ;rfl;rfl;rfl)|(apply eG;rfl;rfl;rfl)|(apply eL;rfl;rfl;rfl;assumption;rfl)|(apply CW.block)));exact k.o):p:=s ⟨k⟩
theorem QY{p q:Prop}(k:q)(s:Hid_ q→p:=by intro k;(repeat (first|(apply bz)|(apply CW.seq)|(apply CW.skip)));exact k.o):p:=s ⟨k⟩
theorem QZ{p q:Prop}(k:q)(s:Hid_ q→p:=by intro k;(repeat (first|(apply aX)|(apply CW.skip)));exact k.o):p:=s ⟨k⟩
theorem Q0{p q:Prop}(k:q)(s:Hid_ q→p:=by intro k;(repeat (first|(apply fm;rfl;rfl;rfl)|(apply WL.nil)|(apply aX)));exact k.o):p:=s ⟨k⟩
theorem Q1{p q:Prop}(k:q)(s:Hid_ q→p:=by intro k;(repeat (first|(apply fm;rfl;rfl;rfl)|(apply CW.seq)|(apply CW.region)|(apply eG;rfl;rfl;rfl)|(apply eL;rfl;rfl;rfl;assumption;rfl)));exact k.o):p:=s ⟨k⟩
theorem Q2{p q:Prop}(k:q)(s:Hid_ q→p:=by intro k;(repeat (first|(apply bz)|(apply CW.seq)|(apply aX)|(apply aw;rfl)|(apply CW.skip)));exact k.o):p:=s ⟨k⟩
theorem Q3{p q:Prop}(k:q)(s:Hid_ q→p:=by intro k;(repeat (first|(apply fm;rfl;rfl;rfl)|(apply WL.nil)|(apply bz)|(apply CW.seq)|(apply CW.region)|(apply eQ;rfl;rfl;rfl)|(apply CW.block)));exact k.o):p:=s ⟨k⟩
theorem Q4{p q:Prop}(k:q)(s:Hid_ q→p:=by intro k;(repeat (first|(apply fm;rfl;rfl;rfl)|(apply WL.nil)|(apply bz)|(apply CW.seq)|(apply CW.region)|(apply eM;rfl;rfl;rfl;assumption;rfl)));exact k.o):p:=s ⟨k⟩
theorem Q5{p q:Prop}(k:q)(s:Hid_ q→p:=by intro k;(repeat (first|(apply fm;rfl;rfl;rfl)|(apply WL.nil)|(apply bz)|(apply CW.seq)|(apply CW.region)|(apply eG;rfl;rfl;rfl)|(apply fh;rfl;rfl;rfl)|(apply eL;rfl;rfl;rfl;assumption;rfl)|(apply eM;rfl;rfl;rfl;assumption;rfl)|(apply CW.block)|(apply aX)|(apply ax;rfl)|(apply aw;rfl)|(apply CW.skip)));exact k.o):p:=s ⟨k⟩
theorem Q6{p q:Prop}(k:q)(s:Hid_ q→p:=by intro k;(repeat (first|(apply fm;rfl;rfl;rfl)|(apply WL.nil)|(apply bz)|(apply CW.seq)|(apply CW.region)|(apply WL.pass;rfl;rfl)|(apply ax;rfl)|(apply CW.ret)|(apply bA)));exact k.o):p:=s ⟨k⟩
theorem Q7{p q:Prop}(k:q)(s:Hid_ q→p:=by intro k;(repeat (first|(apply WL.add;rfl;rfl;rfl;rfl;omega;omega)|(apply fm;rfl;rfl;rfl)|(apply WL.nil)|(apply bz)|(apply CW.seq)|(apply CW.region)|(apply WL.pass;rfl;rfl)|(apply eG;rfl;rfl;rfl)|(apply eL;rfl;rfl;rfl;assumption;rfl)|(apply eM;rfl;rfl;rfl;assumption;rfl)|(apply ax;rfl)));exact k.o):p:=s ⟨k⟩
theorem Q8{p q:Prop}(k:q)(s:Hid_ q→p:=by intro k;(repeat (first|(apply fm;rfl;rfl;rfl)|(apply WL.nil)|(apply bz)|(apply CW.seq)|(apply CW.region)|(apply eF;rfl;rfl;rfl;rfl)|(apply eG;rfl;rfl;rfl)|(apply eL;rfl;rfl;rfl;assumption;rfl)|(apply CW.ret)));exact k.o):p:=s ⟨k⟩
theorem Q9{p q:Prop}(k:q)(s:Hid_ q→p:=by intro k;(repeat (first|(apply fm;rfl;rfl;rfl)|(apply WL.nil)|(apply bz)|(apply CW.seq)|(apply CW.region)|(apply eQ;rfl;rfl;rfl)|(apply CW.block)|(apply CW.exit)|(apply bB)|(apply aZ)|(refine eO rfl rfl rfl (by assumption) ?_)));exact k.o):p:=s ⟨k⟩
theorem Q_{p q:Prop}(k:q)(s:Hid_ q→p:=by intro k;(repeat (first|(apply fm;rfl;rfl;rfl)|(apply WL.nil)|(apply bz)|(apply eQ;rfl;rfl;rfl)|(apply eG;rfl;rfl;rfl)|(apply eL;rfl;rfl;rfl;assumption;rfl)|(apply CW.ret)));exact k.o):p:=s ⟨k⟩
theorem Ra{p q:Prop}(k:q)(s:Hid_ q→p:=by intro k;(repeat (first|(apply fm;rfl;rfl;rfl)|(apply WL.nil)|(apply bz)|(apply CW.seq)|(apply CW.region)|(apply ax;rfl)|(apply aw;rfl)));exact k.o):p:=s ⟨k⟩
theorem Rb{p q:Prop}(k:q)(s:Hid_ q→p:=by intro k;(repeat (first|(apply bz)|(apply CW.seq)|(apply CW.region)|(apply CW.block)|(apply CW.skip)));exact k.o):p:=s ⟨k⟩
theorem Re{p q:Prop}(k:q)(s:Hid_ q→p:=by intro k;(repeat (first|(apply fm;rfl;rfl;rfl)|(apply dx;rfl;rfl;rfl)|(apply WL.nil)|(apply bz)|(apply CW.seq)|(apply CW.region)|(apply dl;rfl;rfl;rfl)|(apply du;rfl;rfl;rfl)|(apply dn;rfl;rfl;rfl;assumption;rfl)|(apply aC;exact mixed;kernel_rfl)));exact k.o):p:=s ⟨k⟩
theorem Rf{p q:Prop}(k:q)(s:Hid_ q→p:=by intro k;(repeat (first|(apply QL.add;rfl;rfl;rfl;rfl;omega;omega)|(apply dx;rfl;rfl;rfl)|(apply WL.nil)|(apply bz)|(apply CW.seq)|(apply dq;rfl;rfl;rfl)|(apply dl;rfl;rfl;rfl)|(apply du;rfl;rfl;rfl)|(apply dn;rfl;rfl;rfl;assumption;rfl)|(apply aw;rfl)|(apply CW.skip)|(apply aC;exact mixed;kernel_rfl)));exact k.o):p:=s ⟨k⟩
theorem Rg{p q:Prop}(k:q)(s:Hid_ q→p:=by intro k;(repeat (first|(apply dx;rfl;rfl;rfl)|(apply CW.seq)|(apply dl;rfl;rfl;rfl)|(apply du;rfl;rfl;rfl)|(apply dn;rfl;rfl;rfl;assumption;rfl)|(apply dp;rfl;rfl;rfl;assumption;rfl)|(apply aw;rfl)|(apply aC;exact mixed;kernel_rfl)));exact k.o):p:=s ⟨k⟩
theorem Rh{p q:Prop}(k:q)(s:Hid_ q→p:=by intro k;(repeat (first|(apply dz;rfl;rfl;rfl;rfl;omega;omega)|(apply fm;rfl;rfl;rfl)|(apply dx;rfl;rfl;rfl)|(apply WL.nil)|(apply bz)|(apply CW.seq)|(apply CW.region)|(apply dq;rfl;rfl;rfl)|(apply dl;rfl;rfl;rfl)|(apply du;rfl;rfl;rfl)|(apply dn;rfl;rfl;rfl;assumption;rfl)|(apply CW.block)|(apply CW.exit)|(apply bB)|(apply aZ)|(apply CW.skip)|(apply aC;exact mixed;kernel_rfl)));exact k.o):p:=s ⟨k⟩
theorem Ri{p q:Prop}(k:q)(s:Hid_ q→p:=by intro k;(repeat (apply fm;rfl;rfl;rfl));exact k.o):p:=s ⟨k⟩
theorem Rj{p q:Prop}(k:q)(s:Hid_ q→p:=by intro k;(repeat (first|(apply fm;rfl;rfl;rfl)|(apply WL.pass;rfl;rfl)));exact k.o):p:=s ⟨k⟩
theorem Rk{p q:Prop}(k:q)(s:Hid_ q→p:=by intro k;(repeat (first|(apply eG;rfl;rfl;rfl)|(apply fh;rfl;rfl;rfl)));exact k.o):p:=s ⟨k⟩
theorem Rl{p q:Prop}(k:q)(s:Hid_ q→p:=by intro k;(repeat (apply dx;rfl;rfl;rfl));exact k.o):p:=s ⟨k⟩
theorem Rm{p q:Prop}(k:q)(s:Hid_ q→p:=by intro k;(repeat (apply eG;rfl;rfl;rfl));exact k.o):p:=s ⟨k⟩
theorem Rn{p q:Prop}(k:q)(s:Hid_ q→p:=by intro k;(repeat (first|(apply dx;rfl;rfl;rfl)|(apply QL.pass;rfl;rfl)));exact k.o):p:=s ⟨k⟩
theorem Ro{p q:Prop}(k:q)(s:Hid_ q→p:=by intro k;(repeat (apply dl;rfl;rfl;rfl));exact k.o):p:=s ⟨k⟩
theorem Rp{p q:Prop}(k:q)(s:Hid_ q→p:=by intro k;(repeat (first|(apply eG;rfl;rfl;rfl)|(apply eM;rfl;rfl;rfl;assumption;rfl)));exact k.o):p:=s ⟨k⟩
theorem Rq{p q:Prop}(k:q)(s:Hid_ q→p:=by intro k;(repeat (first|(apply fm;rfl;rfl;rfl)|(apply WL.makeFunc;rfl;rfl;rfl;rfl)));exact k.o):p:=s ⟨k⟩
theorem Rr{p q:Prop}(k:q)(s:Hid_ q→p:=by intro k;(repeat (first|(apply fm;rfl;rfl;rfl)|(apply WL.pass;rfl;rfl)|(apply eG;rfl;rfl;rfl)|(apply fh;rfl;rfl;rfl)|(apply eL;rfl;rfl;rfl;assumption;rfl)));exact k.o):p:=s ⟨k⟩
theorem Rs{p q:Prop}(k:q)(s:Hid_ q→p:=by intro k;(repeat (first|(apply fm;rfl;rfl;rfl)|(apply eG;rfl;rfl;rfl)|(apply eL;rfl;rfl;rfl;assumption;rfl)));exact k.o):p:=s ⟨k⟩
theorem Ru{p q:Prop}(k:q)(s:Hid_ q→p:=by intro k;(repeat (first|(apply fm;rfl;rfl;rfl)|(apply eQ;rfl;rfl;rfl)|(apply WL.makeFunc;rfl;rfl;rfl;rfl)|(apply eG;rfl;rfl;rfl)|(apply eL;rfl;rfl;rfl;assumption;rfl)));exact k.o):p:=s ⟨k⟩
theorem Rv{p q:Prop}(k:q)(s:Hid_ q→p:=by intro k;(repeat (first|(apply fC;rfl;rfl;rfl;rfl;omega;omega)|(apply fm;rfl;rfl;rfl)));exact k.o):p:=s ⟨k⟩
theorem Rw{p q:Prop}(k:q)(s:Hid_ q→p:=by intro k;(repeat (first|(apply WL.add;rfl;rfl;rfl;rfl;omega;omega)|(apply fm;rfl;rfl;rfl)|(apply eG;rfl;rfl;rfl)|(apply fh;rfl;rfl;rfl)));exact k.o):p:=s ⟨k⟩
theorem Rx{p q:Prop}(k:q)(s:Hid_ q→p:=by intro k;(repeat (first|(apply fm;rfl;rfl;rfl)|(apply eQ;rfl;rfl;rfl)|(apply eM;rfl;rfl;rfl;assumption;rfl)));exact k.o):p:=s ⟨k⟩
theorem Ry{p q:Prop}(k:q)(s:Hid_ q→p:=by intro k;(repeat (first|(apply dx;rfl;rfl;rfl)|(apply dq;rfl;rfl;rfl)|(apply dl;rfl;rfl;rfl)|(apply dn;rfl;rfl;rfl;assumption;rfl)));exact k.o):p:=s ⟨k⟩
theorem Rz{p q:Prop}(k:q)(s:Hid_ q→p:=by intro k;(repeat (first|(apply dx;rfl;rfl;rfl)|(apply dl;rfl;rfl;rfl)|(apply du;rfl;rfl;rfl)|(apply dn;rfl;rfl;rfl;assumption;rfl)));exact k.o):p:=s ⟨k⟩
theorem RA{p q:Prop}(k:q)(s:Hid_ q→p:=by intro k;(repeat (apply cR;rfl;rfl;rfl;(intro γ' w' hw';apply eM;rfl;rfl;rfl;apply Blk.ext;assumption;exact hw';rfl;exact WL.nil (a8 rfl (Ext.refl _) rfl))));exact k.o):p:=s ⟨k⟩
theorem RB{p q:Prop}(k:q)(s:Hid_ q→p:=by intro k;(repeat (first|(apply cR;rfl;rfl;rfl;(intro γ' w' hw';apply fC;rfl;rfl;rfl;rfl;omega;omega;exact WL.nil (a8 rfl (Ext.refl _) rfl)))|(refine cR rfl rfl rfl (fun γ' w' hw'=>fm rfl rfl rfl (WL.nil (a8 rfl (Ext.refl _) rfl))) ?_)|(refine cR rfl rfl rfl (fun γ' w' hw'=>eG rfl rfl rfl (WL.nil (a8 rfl (Ext.refl _) rfl))) ?_)|(apply cR;rfl;rfl;rfl;(intro γ' w' hw';apply eL;rfl;rfl;rfl;apply Blk.ext;assumption;exact hw';rfl;exact WL.nil (a8 rfl (Ext.refl _) rfl)))|(apply cR;rfl;rfl;rfl;(intro γ' w' hw';apply eM;rfl;rfl;rfl;apply Blk.ext;assumption;exact hw';rfl;exact WL.nil (a8 rfl (Ext.refl _) rfl)))));exact k.o):p:=s ⟨k⟩
theorem RC{p q:Prop}(k:q)(s:Hid_ q→p:=by intro k;(repeat (first|(refine cR rfl rfl rfl (fun γ' w' hw'=>eG rfl rfl rfl (WL.nil (a8 rfl (Ext.refl _) rfl))) ?_)|(apply cR;rfl;rfl;rfl;(intro γ' w' hw';apply eL;rfl;rfl;rfl;apply Blk.ext;assumption;exact hw';rfl;exact WL.nil (a8 rfl (Ext.refl _) rfl)))));exact k.o):p:=s ⟨k⟩
theorem RD{p q:Prop}(k:q)(s:Hid_ q→p:=by intro k;(repeat (refine ck (by assumption) rfl rfl rfl rfl (by assumption) rfl ?_));exact k.o):p:=s ⟨k⟩
theorem RE{p q:Prop}(k:q)(s:Hid_ q→p:=by intro k;(repeat (apply cw;rfl;rfl;rfl;rfl));exact k.o):p:=s ⟨k⟩
theorem RF{p q:Prop}(k:q)(s:Hid_ q→p:=by intro k;(repeat (refine b_ rfl rfl rfl rfl ?_));exact k.o):p:=s ⟨k⟩
theorem RG{p q:Prop}(k:q)(s:Hid_ q→p:=by intro k;(repeat (refine cq rfl rfl rfl rfl ?_));exact k.o):p:=s ⟨k⟩
theorem RH{p q:Prop}(k:q)(s:Hid_ q→p:=by intro k;(repeat (refine cb (by assumption) rfl rfl rfl rfl (by assumption) rfl ?_));exact k.o):p:=s ⟨k⟩
theorem RI{p q:Prop}(k:q)(s:Hid_ q→p:=by intro k;(repeat (first|(apply cw;rfl;rfl;rfl;rfl)|(refine b_ rfl rfl rfl rfl ?_)));exact k.o):p:=s ⟨k⟩
theorem RJ{p q:Prop}(k:q)(s:Hid_ q→p:=by intro k;(repeat (first|(apply cw;rfl;rfl;rfl;rfl)|(refine b_ rfl rfl rfl rfl ?_)|(apply cu;rfl;rfl;rfl;rfl)|(refine ck (by assumption) rfl rfl rfl rfl (by assumption) rfl ?_)));exact k.o):p:=s ⟨k⟩
theorem RK{p q:Prop}(k:q)(s:Hid_ q→p:=by intro k;(repeat (first|(apply cw;rfl;rfl;rfl;rfl)|(refine b_ rfl rfl rfl rfl ?_)|(apply cu;rfl;rfl;rfl;rfl)|(refine cb (by assumption) rfl rfl rfl rfl (by assumption) rfl ?_)));exact k.o):p:=s ⟨k⟩
theorem RM{p q:Prop}(k:q)(s:Hid_ q→p:=by intro k;(repeat (first|(apply cw;rfl;rfl;rfl;rfl)|(apply HL.pass;rfl;rfl;rfl)|(refine HL.build rfl rfl rfl rfl rfl ?_)));exact k.o):p:=s ⟨k⟩
theorem RN{p q:Prop}(k:q)(s:Hid_ q→p:=by intro k;(repeat (first|(apply cA;rfl;rfl;rfl;rfl;rfl;omega;omega)|(apply cw;rfl;rfl;rfl;rfl)|(refine b_ rfl rfl rfl rfl ?_)|(apply cu;rfl;rfl;rfl;rfl)|(refine ck (by assumption) rfl rfl rfl rfl (by assumption) rfl ?_)|(refine cq rfl rfl rfl rfl ?_)|(refine HL.build rfl rfl rfl rfl rfl ?_)));exact k.o):p:=s ⟨k⟩
theorem RO{p q:Prop}(k:q)(s:Hid_ q→p:=by intro k;(repeat (first|(apply cw;rfl;rfl;rfl;rfl)|(refine b_ rfl rfl rfl rfl ?_)|(apply cu;rfl;rfl;rfl;rfl)|(refine cb (by assumption) rfl rfl rfl rfl (by assumption) rfl ?_)|(refine cd (by assumption) rfl rfl rfl rfl (by assumption) rfl ?_)|(refine cq rfl rfl rfl rfl ?_)|(apply HL.makeFunc;rfl;rfl;rfl;rfl;rfl)));exact k.o):p:=s ⟨k⟩
theorem RP{p q:Prop}(k:q)(s:Hid_ q→p:=by intro k;(repeat (first|(apply HL.add;rfl;rfl;rfl;rfl;rfl;omega;omega)|(refine b_ rfl rfl rfl rfl ?_)|(refine ck (by assumption) rfl rfl rfl rfl (by assumption) rfl ?_)|(refine HL.build rfl rfl rfl rfl rfl ?_)));exact k.o):p:=s ⟨k⟩
theorem RQ{p q:Prop}(k:q)(s:Hid_ q→p:=by intro k;(repeat (apply HL.nil));exact k.o):p:=s ⟨k⟩
theorem RR{p q:Prop}(k:q)(s:Hid_ q→p:=by intro k;(repeat (first|(apply cw;rfl;rfl;rfl;rfl)|(apply HL.nil)));exact k.o):p:=s ⟨k⟩
theorem RS{p q:Prop}(k:q)(s:Hid_ q→p:=by intro k;(repeat (first|(refine ck (by assumption) rfl rfl rfl rfl (by assumption) rfl ?_)|(refine cq rfl rfl rfl rfl ?_)|(apply HL.nil)));exact k.o):p:=s ⟨k⟩
theorem RT{p q:Prop}(k:q)(s:Hid_ q→p:=by intro k;(repeat (first|(refine b_ rfl rfl rfl rfl ?_)|(apply cu;rfl;rfl;rfl;rfl)|(apply HL.nil)));exact k.o):p:=s ⟨k⟩
open Go.RowKit
abbrev Sg:=List (Nat×Value)
def fnd:Sg→Nat→Option Value
 |[],_=>none
 |(k,v)::r,t=>match Nat.beq k t with
  |true=>some v
  |false=>fnd r t
structure Fr(n:Nat)(σ:Sg)(a:Act):Prop where
 size:a.tmps.size=n
 defers:a.defers=[]
 slot:∀t v,fnd σ t=some v→a.tmps.getD t undef=v
def ev(σ:Sg):Operand→Option Value
 |.tmp t=>fnd σ t
 |.const v=>some v
 |.global g=>some (.pointer (some ⟨g,0,none⟩))
 |.func f=>some (.func (.func f) #[] #[])
theorem Fr.ev{n:Nat}{σ:Sg}{a:Act}(h:Fr n σ a){x:Operand}{v:Value}(b:ev σ x=some v):a.eval x=v:=by
 cases x with
 |tmp t=>exact h.slot t v b
 |const u=>exact Nn b
 |global g=>exact Nn b
 |func f=>exact Nn b
def CJ(d:Option Nat)(v:Value)(σ:Sg):Sg:=match d with|some d=>(d,v)::σ|none=>σ
theorem pU{σ:Sg}{d:Nat}{v:Value}:fnd ((d,v)::σ) d=some v:=by
 show(match Nat.beq d d with|true=>some v|false=>fnd σ d)=_;rw[My d]
theorem ij{d t:Nat}(h:d≠t):Nat.beq d t=false:=by
 cases e:Nat.beq d t with
 |false=>rfl
 |true=>exact absurd (MB e) h
theorem pW{σ:Sg}{d t:Nat}{v:Value}(h:d≠t):fnd ((d,v)::σ) t=fnd σ t:=by
 show(match Nat.beq d t with|true=>some v|false=>fnd σ t)=_;rw[ij h]
def AD(n:Nat):Option Nat→Bool|some d=>Nat.ble (d+1) n|none=>true
theorem Fr.put{n:Nat}{σ:Sg}{a:Act}(h:Fr n σ a){d:Option Nat}{v:Value}(hd:AD n d=true):Fr n (CJ d v σ) (a.put d v):=by
 cases d with
 |none=>exact h
 |some d=>
  have hd':d<n:=MH hd;refine⟨by simpa[Act.put]using h.size,by simpa[Act.put]using h.defers,?_⟩;intro t u b
  by_cases e:d=t
  ·subst e
   rw[CJ,pU]at b
   cases b
   simp[Act.put,Array.getD,h.size,hd']
  ·rw[CJ,pW e]at b
   have:=h.slot t u b;simp only[Act.put,Js]at this⊢
   rw[JA e];exact this
theorem Fr.set{n:Nat}{σ:Sg}{a:Act}(h:Fr n σ a){s:Nat}{v:Value}(c:fnd σ s=some v):Fr n ((s,v)::σ) a:=by
 refine⟨h.size,h.defers,fun t u b=>?_⟩;by_cases e:s=t
 ·subst e;rw[pU]at b;cases b;exact h.slot _ _ c
 ·rw[pW e]at b;exact h.slot _ _ b
def Sub:Sg→Sg→Prop
 |[],_=>True
 |p::r,σ=>fnd σ p.1=some p.2∧Sub r σ
theorem Sub.fnd{τ σ:Sg}(h:Sub τ σ):∀t v,fnd τ t=some v→fnd σ t=some v:=by
 induction τ with
 |nil=>intro t v a;cases a
 |cons p r b=>
  intro t v a
  by_cases e:p.1=t
  ·subst e
   obtain⟨d,u⟩:=p;rw[pU]at a
   cases a
   exact h.1
  ·obtain⟨d,u⟩:=p
   rw[pW e]at a
   exact b h.2 t v a
theorem Fr.sub{n:Nat}{σ τ:Sg}{a:Act}(h:Fr n σ a)(c:Sub τ σ):Fr n τ a:=⟨h.size,h.defers,fun t v b=>h.slot t v (c.fnd t v b)⟩
@[irreducible] def CW (P:Program) (c:Code) (Q:Exit→Act→World→Prop) (n:Nat) (σ:Sg) (w:World):Prop:=∀a,Fr n σ a→c.wp P Q a w
@[irreducible] def EX (Q:Exit→Act→World→Prop) (e:Exit) (n:Nat) (σ:Sg) (w:World):Prop:=∀a,Fr n σ a→Q e a w
@[irreducible] def WL (P:Program) (ops:List Oper) (Q:Exit→Act→World→Prop) (l:List Oper) (n:Nat) (σ:Sg) (w:World):Prop:=∀a,Fr n σ a→wpList P ops.toArray Q l a w
section
variable {P:Program}{Q:Exit→Act→World→Prop}{n:Nat}{σ:Sg}{w:World}
theorem CW.seq{x y:Code}(h:CW P x (Exit.then (y.wp P Q) Q) n σ w):CW P (.seq x y) Q n σ w:=by
 unfold CW at*;exact fun a b=>wp_seq (h a b)
theorem bz{y:Code}(h:CW P y Q n σ w):EX (Exit.then (y.wp P Q) Q) .normal n σ w:=by
 unfold EX CW at*;exact fun a b=>h a b
theorem bB{id:Nat}{R:Act→World→Prop}(h:EX Q (.exit id) n σ w):EX (Exit.then R Q) (.exit id) n σ w:=by
 unfold EX at*;exact fun a b=>h a b
theorem bA{R:Act→World→Prop}(h:EX Q .ret n σ w):EX (Exit.then R Q) .ret n σ w:=by
 unfold EX at*;exact fun a b=>h a b
theorem aX{id:Nat}(h:EX Q .normal n σ w):EX (Exit.inBlock id Q) .normal n σ w:=by
 unfold EX at*;exact fun a b=>h a b
theorem aY{id:Nat}(h:EX Q .ret n σ w):EX (Exit.inBlock id Q) .ret n σ w:=by
 unfold EX at*;exact fun a b=>h a b
theorem aZ{id:Nat}(h:EX Q .normal n σ w):EX (Exit.inBlock id Q) (.exit id) n σ w:=by
 unfold EX at*;intro a b;show(if id=id then _ else _);rw[OK rfl];exact h a b
theorem a7{id id':Nat}(b:Nat.beq id' id=false)(h:EX Q (.exit id') n σ w):EX (Exit.inBlock id Q) (.exit id') n σ w:=by
 unfold EX at*;intro a c;show(if id'=id then _ else _)
 rw[OJ (fun e=>by subst e;rw[My id']at b;cases b)];exact h a c
theorem CW.block{id:Nat}{c:Code}(h:CW P c (Exit.inBlock id Q) n σ w):CW P (.block id c) Q n σ w:=by
 unfold CW at*;exact fun a b=>wp_block (h a b)
theorem CW.exit{id:Nat}(h:EX Q (.exit id) n σ w):CW P (.exit id) Q n σ w:=by
 unfold CW EX at*;exact fun a b=>wp_exit (h a b)
theorem CW.ret(h:EX Q .ret n σ w):CW P .ret Q n σ w:=by
 unfold CW EX at*;exact fun a b=>wp_ret (h a b)
theorem CW.skip(h:EX Q .normal n σ w):CW P .skip Q n σ w:=by
 unfold CW EX at*;exact fun a b=>wp_skip (h a b)
theorem CW.cond{c:Operand}{x y:Code}{t:Bool}(f:ev σ c=some (.bool t))(e:t=true→CW P x Q n σ w)(hf:t=false→CW P y Q n σ w):CW P (.cond c x y) Q n σ w:=by
 unfold CW at*
 exact fun a b=>wp_cond_split (b.ev f) (fun h=>e h a b) (fun h=>hf h a b)
theorem ax{c:Operand}{x y:Code}(b:ev σ c=some (.bool true))(a:CW P x Q n σ w):CW P (.cond c x y) Q n σ w:=
 CW.cond b (fun _=>a) (fun h=>by cases h)
theorem aw{c:Operand}{x y:Code}(a:ev σ c=some (.bool false))(hf:CW P y Q n σ w):CW P (.cond c x y) Q n σ w:=
 CW.cond a (fun h=>by cases h) (fun _=>hf)
theorem CW.region{id:Nat}{l:List Oper}(h:WL P l Q l n σ w):CW P (.region id l.toArray false) Q n σ w:=by
 unfold CW WL at*;exact fun a b=>wp_region_lit (h a b)
theorem WL.nil{l:List Oper}(h:EX Q .normal n σ w):WL P l Q [] n σ w:=by
 unfold WL EX at*;exact fun a b=>wpList_nil (h a b)
def ak{S:Type}(n:Nat)(σs:S→Sg)(I:S→World→Prop)(μ:S→Nat)(s:S):Act→World→Prop:=
 fun a w=>∃b,Fr n (σs b) a∧I b w∧μ b<μ s
theorem CW.loop{S:Type}{c:Code}(σs:S→Sg)(I:S→World→Prop)(μ:S→Nat)(b:S)(k:Sub (σs b) σ)(q:I b w)
  (round:∀s w,I s w→CW P c (Exit.then (ak n σs I μ s) Q) n (σs s) w):CW P (.loop c) Q n σ w:=by
 unfold CW at*
 intro a o
 refine wp_loop_ghost (fun m a w=>∃s,μ s=m∧Fr n (σs s) a∧I s w) (μ b) ⟨b,rfl,o.sub k,q⟩ ?_;rintro m a w ⟨s,rfl,hF,p⟩
 refine O4 (round s w p a hF) ?_;intro e r w' hq
 cases e with
 |normal=>
  obtain⟨j,i,h,f⟩:=hq;exact⟨μ j,f,j,rfl,i,h⟩
 |exit id=>exact hq
 |goto l=>exact hq
 |ret=>exact hq
 |panic ch=>exact hq
 |outgrown=>exact hq
theorem EX.back{S:Type}{σs:S→Sg}{I:S→World→Prop}{μ:S→Nat}{s:S}(b:S)(c:Sub (σs b) σ)(f:I b w)(hμ:μ b<μ s):
  EX (Exit.then (ak n σs I μ s) Q) .normal n σ w:=by
 unfold EX;exact fun a e=>⟨b,e.sub c,f,hμ⟩
def Rt(P:Program)(f:FuncId)(args:Array Value)(w:World)(R:Value→World→Prop):Prop:=
 Calls P f args w fun e w'=>∃v,e=.returned v∧R v w'
theorem Rt.mono{f:FuncId}{args:Array Value}{R R':Value→World→Prop}(h:Rt P f args w R)(b:∀v w',R v w'→R' v w'):Rt P f args w R':=
 J0 h fun e w' ⟨v,c,a⟩=>⟨v,c,b v w' a⟩
def gt:Nat→List Value→Sg
 |_,[]=>[]
 |k,v::r=>(k,v)::gt (k+1) r
theorem pT:∀(vs:List Value) (k t:Nat) (v:Value),fnd (gt k vs) t=some v→k≤t∧vs[t -k]?=some v:=by
 intro vs
 induction vs with
 |nil=>intro k t v h;cases h
 |cons u r a=>
  intro k t v h
  by_cases e:k=t
  ·subst e;rw[gt,pU]at h;cases h;exact⟨MM _,by simp⟩
  ·rw[gt,pW e]at h
   obtain⟨h1,h2⟩:=a (k+1) t v h;refine⟨by omega,?_⟩;have:t -k=(t -(k+1))+1:=by omega
   rw[this,KW];exact h2
theorem Rt.enter{f:FuncId}{fn:Func}{c:Code}{vs:List Value}{R:Value→World→Prop}(hf:P.funcs[f]?=some fn)(j:fn.body=some c)(hn:fn.ntmps=n)
  (b:Nat.ble vs.length n=true) (h:CW P c (bodyPost P fn fun e w'=>∃v,e=.returned v∧R v w') n (gt 0 vs) w):Rt P f vs.toArray w R:=by
 refine calls_of_wp hf j ?_;unfold CW at h
 have k:=MH b;refine h _ ⟨by simp[hn];omega,rfl,fun t v i=>?_⟩;obtain⟨_,h2⟩:=pT vs 0 t v i;simp only[Nat.sub_zero]at h2
 have a:=(K0.1 h2).1;simp only[Js];rw[Jt (by simpa using a)];simp[h2]
theorem dC{f:FuncId}{fn:Func}{c:Code}{R:Value→World→Prop}(hf:P.funcs[f]?=some fn)(hn:fn.ntmps=n)(a:fn.body=some c)
  (h:CW P c (bodyPost P fn fun e w'=>∃v,e=.returned v∧R v w') n [] w):Rt P f [].toArray w R:=Rt.enter (vs:=[]) hf a hn rfl h
theorem dD{f:FuncId}{fn:Func}{c:Code}{b:Value}{R:Value→World→Prop}(hf:P.funcs[f]?=some fn)(hn:fn.ntmps=n)(i:fn.body=some c)
  (a:Nat.ble 1 n=true) (h:CW P c (bodyPost P fn fun e w'=>∃v,e=.returned v∧R v w') n [(0,b)] w):Rt P f [b].toArray w R:=Rt.enter hf i hn a h
theorem dE{f:FuncId}{fn:Func}{c:Code}{b a1:Value}{R:Value→World→Prop}(hf:P.funcs[f]?=some fn)(hn:fn.ntmps=n)(i:fn.body=some c)
  (a:Nat.ble 2 n=true) (h:CW P c (bodyPost P fn fun e w'=>∃v,e=.returned v∧R v w') n [(0,b),(1,a1)] w):Rt P f [b,a1].toArray w R:=Rt.enter hf i hn a h
theorem dF{f:FuncId}{fn:Func}{c:Code}{b a1 a2:Value}{R:Value→World→Prop}(hf:P.funcs[f]?=some fn)(hn:fn.ntmps=n)(i:fn.body=some c)
  (a:Nat.ble 3 n=true) (h:CW P c (bodyPost P fn fun e w'=>∃v,e=.returned v∧R v w') n [(0,b),(1,a1),(2,a2)] w):Rt P f [b,a1,a2].toArray w R:=Rt.enter hf i hn a h
theorem dG{f:FuncId}{fn:Func}{c:Code}{b a1 a2 a3:Value}{R:Value→World→Prop}(hf:P.funcs[f]?=some fn)(hn:fn.ntmps=n)(i:fn.body=some c)
  (a:Nat.ble 4 n=true) (h:CW P c (bodyPost P fn fun e w'=>∃v,e=.returned v∧R v w') n [(0,b),(1,a1),(2,a2),(3,a3)] w):Rt P f [b,a1,a2,a3].toArray w R:=Rt.enter hf i hn a h
theorem dH{f:FuncId}{fn:Func}{c:Code}{b a1 a2 a3 a4:Value}{R:Value→World→Prop}(hf:P.funcs[f]?=some fn)(hn:fn.ntmps=n)(i:fn.body=some c)
  (a:Nat.ble 5 n=true) (h:CW P c (bodyPost P fn fun e w'=>∃v,e=.returned v∧R v w') n [(0,b),(1,a1),(2,a2),(3,a3),(4,a4)] w):Rt P f [b,a1,a2,a3,a4].toArray w R:=Rt.enter hf i hn a h
theorem be{fn:Func}{t:Nat}{v:Value}{R:Value→World→Prop}(f:fn.results=#[.tmp t])(c:fnd σ t=some v)(h:R v w):
  EX (bodyPost P fn fun e w'=>∃v,e=.returned v∧R v w') .ret n σ w:=by
 unfold EX;intro a b
 exact Ov (results_tmp f _ _ _) b.defers ⟨v,by rw[b.slot t v c],h⟩
theorem bf{fn:Func}{t u:Nat}{v x:Value}{R:Value→World→Prop}(i:fn.results=#[.tmp t,.tmp u])(f:fnd σ t=some v)(c:fnd σ u=some x)(h:R (.tuple ⟨[v,x]⟩) w):
  EX (bodyPost P fn fun e w'=>∃v,e=.returned v∧R v w') .ret n σ w:=by
 unfold EX;intro a b
 exact Ov (results_tmp2 i _ _ _) b.defers ⟨_,by rw[b.slot t v f,b.slot u x c],h⟩
theorem aV{fn:Func}{R:Value→World→Prop}(b:fn.results=#[])(h:R (.tuple #[]) w):
  EX (bodyPost P fn fun e w'=>∃v,e=.returned v∧R v w') .normal n σ w:=by
 unfold EX;intro a c
 exact bodyPost_end (results_none b _ _ _) c.defers ⟨_,rfl,h⟩
end
def rM:List Oper→Nat→Option Nat
 |[],_=>none
 |o::_,0=>o.dst
 |_::r,j+1=>rM r j
theorem rN:∀(l:List Oper) (j:Nat),rM l j=(l[j]?).bind (·.dst)
 |[],j=>by simp[rM]
 |o::r,0=>by simp[rM]
 |o::r,j+1=>by simp[rM,rN r j]
def gd(ops:List Oper)(σ:Sg)(o:Oper):Option Bool:=
 match o.guard with
 |none=>some true
 |some (j,want)=>
  match rM ops j with
  |none=>none
  |some s=>match fnd σ s with
   |some (.bool b)=>some (match b,want with|true,true=>true|false,false=>true|_,_=>false)
   |some (.tuple _)=>some false
   |_=>none
theorem qE{ops:List Oper}{σ:Sg}{o:Oper}{b:Bool}{n:Nat}{a:Act}(p:Fr n σ a)(h:gd ops σ o=some b):Region.wanted o (yielded ops.toArray a.tmps)=b:=by
 unfold gd at h
 unfold Region.wanted;split at h
 ·rename_i f;rw[f];exact(Nn h)
 ·rename_i j want f
  rw[f];have k:∀s v,rM ops j=some s→fnd σ s=some v→yielded ops.toArray a.tmps j=(match v with|.bool b=>some b|_=>none):=by
   intro s v c m
   have:=p.slot s v m;unfold yielded;have e:ops.toArray[j]?.bind (·.dst)=some s:=by rw[←c,rN];simp
   rw[e];simp only[Nj];simp only[Js]at this
   cases l:a.tmps[s]? with
   |none=>
    rw[l]at this
    simp only[Option.getD_none]at this
    subst this;simp[undef]
   |some u=>
    rw[l]at this
    simp only[Nk]at this
    subst this;cases u<;>rfl
  split at h
  ·cases h
  ·rename_i s c
   split at h
   ·rename_i q i
    have:=k s _ c i;simp only[this];cases q<;>cases want<;>simp at h<;>simp[←h]
   ·rename_i x i
    have:=k s _ c i;simp only[this];simp at h;subst h;simp
   ·cases h
def BP(op:BinOp)(x y:Value):Option Value:=
 match op,x,y with
 |.shl,.int k a,.int .i64 b=>match decide (0≤b)with|true=>some (.int k (k.wrap (a*2 ^ (min b.toNat k.bits))))|false=>none
 |.add,.int .i64 a,.int .i64 b=>some (.int .i64 (IntKind.i64.wrap (a+b)))
 |.sub,.int .i64 a,.int .i64 b=>some (.int .i64 (IntKind.i64.wrap (a -b)))
 |.mul,.int .i64 a,.int .i64 b=>some (.int .i64 (IntKind.i64.wrap (a*b)))
 |.eql,.int .i64 a,.int .i64 b=>some (.bool (a==b))
 |.neq,.int .i64 a,.int .i64 b=>some (.bool (a != b))
 |.lss,.int .i64 a,.int .i64 b=>some (.bool (decide (a<b)))
 |.leq,.int .i64 a,.int .i64 b=>some (.bool (decide (a≤b)))
 |.gtr,.int .i64 a,.int .i64 b=>some (.bool (decide (a>b)))
 |.geq,.int .i64 a,.int .i64 b=>some (.bool (decide (a≥b)))
 |.eql,.int .u64 a,.int .u64 b=>some (.bool (a==b))
 |.neq,.int .u64 a,.int .u64 b=>some (.bool (a != b))
 |.and,.int .u64 a,.int .u64 b=>some (.int .u64 (bits .and .u64 a b))
 |.or,.int .u64 a,.int .u64 b=>some (.int .u64 (bits .or .u64 a b))
 |.and,.int .i64 a,.int .i64 b=>some (.int .i64 (bits .and .i64 a b))
 |.or,.int .i64 a,.int .i64 b=>some (.int .i64 (bits .or .i64 a b))
 |.eql,.string a,.string b=>some (.bool (a.data.toList==b.data.toList))
 |.neq,.string a,.string b=>some (.bool !(a.data.toList==b.data.toList))
 |.eql,.int .u8 a,.int .u8 b=>some (.bool (a==b))
 |.neq,.int .u8 a,.int .u8 b=>some (.bool (a != b))
 |.lss,.int .u8 a,.int .u8 b=>some (.bool (decide (a<b)))
 |.leq,.int .u8 a,.int .u8 b=>some (.bool (decide (a≤b)))
 |.gtr,.int .u8 a,.int .u8 b=>some (.bool (decide (a>b)))
 |.geq,.int .u8 a,.int .u8 b=>some (.bool (decide (a≥b)))
 |_,_,_=>none
def Af:List Value→Nat→Option Value
 |[],_=>none
 |v::_,0=>some v
 |_::r,i+1=>Af r i
theorem Ag:∀(l:List Value) (i:Nat),Af l i=l[i]?
 |[],i=>by simp[Af]
 |v::r,0=>by simp[Af]
 |v::r,i+1=>by simp[Af,Ag r i]
def nL(σ:Sg):List Operand→Option (List Value)
 |[]=>some []
 |x::r=>match ev σ x,nL σ r with
  |some v,some vs=>some (v::vs)
  |_,_=>none
theorem nM{n:Nat}{σ:Sg}{a:Act}(b:Fr n σ a):∀(l:List Operand) (vs:List Value),nL σ l=some vs→l.map a.eval=vs
 |[],vs,h=>by cases h;rfl
 |x::r,vs,h=>by
  simp only[nL]at h
  split at h
  ·rename_i v us c e
   cases h
   simp[b.ev c,nM b r us e]
  ·cases h
def Cy(σ:Sg):Op→Option Value
 |.move x=>ev σ x
 |.assign x=>ev σ x
 |.pick c a b=>match ev σ c with
  |some (.bool true)=>ev σ a
  |some (.bool false)=>ev σ b
  |_=>none
 |.binOp op _ x y _=>match ev σ x,ev σ y with
  |some u,some v=>BP op u v
  |_,_=>none
 |.unOp .not _ x=>match ev σ x with
  |some (.bool b)=>some (.bool !b)
  |_=>none
 |.extract x i=>match ev σ x with
  |some (.tuple vs)=>Af vs.toList i
  |_=>none
 |_=>none
theorem BQ{P:Program}{w:World}{op:BinOp}{t yt:TypeId}{x y:Operand}{u v r:Value}(h:BP op u v=some r):
  ((do eqGuard op t x y u v;binOp op t u v:Sem Value)).run P w=.ok r w:=by
 unfold BP at h
 split at h<;>first
  |(cases h;done)
  |(rename_i k a b;split at h
    ·rename_i e;have c:¬b<0:=by simpa using e
     cases h;simp[eqGuard,binOp,Op.shift,c]
    ·cases h)
  |(cases h;simp[eqGuard,binOp,Op.intArith,Op.intCmp,intBits_and,intBits_or];done)
  |(cases h;simp[eqGuard_at_string,binOp,Op.stringOp,ByteArray.toList_eq];done)
theorem Cz{P:Program}{w:World}{n:Nat}{σ:Sg}{a:Act}{o:Oper}{v:Value}(f:Fr n σ a)(h:Cy σ o.op=some v):
  (execOp a.eval o).run P w=.ok (.value v) w:=by
 unfold Cy at h
 unfold execOp;split at h
 ·rename_i x e;simp[e,f.ev h]
 ·rename_i x e;simp[e,f.ev h]
 ·rename_i c x y e
  split at h
  ·rename_i k;simp[e,f.ev k,asBool,f.ev h]
  ·rename_i k;simp[e,f.ev k,asBool,f.ev h]
  ·cases h
 ·rename_i op t x y yt e
  split at h
  ·rename_i u s m l
   have p:=BQ (P:=P) (w:=w) (t:=t) (yt:=yt) (x:=x) (y:=y) h;simp only[e,f.ev m,f.ev l];rw[Nv,p];rfl
  ·cases h
 ·rename_i t x e
  split at h
  ·rename_i b q;cases h;simp[e,f.ev q,Op.unary]
  ·cases h
 ·rename_i x i e
  split at h
  ·rename_i vs j
   rw[Ag]at h
   have r:vs[i]?=some v:=by simpa using h
   simp[e,f.ev j,Instr.extract,r]
  ·cases h
 ·cases h
section
variable {P:Program}{Q:Exit→Act→World→Prop}{n:Nat}{σ:Sg}{w:World}{L rest:List Oper}{d:Nat}{op:Op}{ty:TypeId}{pos:String}{af:Array Edge}{g:Option (Nat×Bool)}
theorem WL.run{v:Value}{w':World}(e:gd L σ ⟨some d,op,ty,pos,af,g⟩=some true)(hd:Nat.ble (d+1) n=true)
  (c:∀a,Fr n σ a→(execOp a.eval ⟨some d,op,ty,pos,af,g⟩).run P w=.ok (.value v) w') (h:WL P L Q rest n ((d,v)::σ) w'):WL P L Q (⟨some d,op,ty,pos,af,g⟩::rest) n σ w:=by
 unfold WL at*
 intro a b
 refine O1 fun K f=>?_
 rw[qE b e,OK rfl];unfold Oper.wp;rw[c a b];exact f _ _ (h _ (b.put (d:=some d) hd))
theorem fp{w':World}(e:gd L σ ⟨none,op,ty,pos,af,g⟩=some true)
  (c:∀a,Fr n σ a→(execOp a.eval ⟨none,op,ty,pos,af,g⟩).run P w=.ok .skip w') (h:WL P L Q rest n σ w'):WL P L Q (⟨none,op,ty,pos,af,g⟩::rest) n σ w:=by
 unfold WL at*
 intro a b
 refine O1 fun K f=>?_
 rw[qE b e,OK rfl];unfold Oper.wp;rw[c a b];exact f _ _ (h _ b)
theorem fm{v:Value}(c:gd L σ ⟨some d,op,ty,pos,af,g⟩=some true)(hd:Nat.ble (d+1) n=true)
  (b:Cy σ op=some v) (h:WL P L Q rest n ((d,v)::σ) w):WL P L Q (⟨some d,op,ty,pos,af,g⟩::rest) n σ w:=
 WL.run c hd (fun a e=>Cz e b) h
theorem WL.pass(c:gd L σ ⟨some d,op,ty,pos,af,g⟩=some false)(hd:Nat.ble (d+1) n=true)(h:WL P L Q rest n ((d,undef)::σ) w):WL P L Q (⟨some d,op,ty,pos,af,g⟩::rest) n σ w:=by
 unfold WL at*
 intro a b
 refine O1 fun K e=>?_
 rw[qE b c,OJ O_];exact e _ _ (h _ (b.put (d:=some d) hd))
theorem eU{s:Nat}{b:Bool}(c:fnd σ s=some (.bool b))(f:b=true→WL P L Q rest n ((s,.bool true)::σ) w)(hf:b=false→WL P L Q rest n ((s,.bool false)::σ) w):WL P L Q rest n σ w:=by
 unfold WL at*
 intro a e
 cases b with
 |true=>exact f rfl a (e.set c)
 |false=>exact hf rfl a (e.set c)
theorem eV{dd:Option Nat}{j s:Nat}{want b:Bool}(e:rM L j=some s)(c:fnd σ s=some (.bool b))(a:b=true→WL P L Q (⟨dd,op,ty,pos,af,some (j,want)⟩::rest) n ((s,.bool true)::σ) w)
  (hf:b=false→WL P L Q (⟨dd,op,ty,pos,af,some (j,want)⟩::rest) n ((s,.bool false)::σ) w):WL P L Q (⟨dd,op,ty,pos,af,some (j,want)⟩::rest) n σ w:=eU c a hf
theorem Jk{a:Int}(b: -9223372036854775808≤a)(h1:a<9223372036854775808):IntKind.i64.wrap a=a:=IntWalk.i64_in _ ⟨b,by omega⟩
theorem WL.add{t yt:TypeId}{x y:Operand}{a b:Int}(f:gd L σ ⟨some d,.binOp .add t x y yt,ty,pos,af,g⟩=some true)(hd:Nat.ble (d+1) n=true)
  (e:ev σ x=some (Py a)) (c:ev σ y=some (Py b)) (i: -9223372036854775808≤a+b) (h1:a+b<9223372036854775808) (h:WL P L Q rest n ((d,Py (a+b))::σ) w):WL P L Q (⟨some d,.binOp .add t x y yt,ty,pos,af,g⟩::rest) n σ w:=by
 refine fm f hd (v:=Py (a+b)) ?_ h;simp only[Cy,e,c,BP];rw[Jk i h1]
theorem fC{t yt:TypeId}{x y:Operand}{a b:Int}(f:gd L σ ⟨some d,.binOp .sub t x y yt,ty,pos,af,g⟩=some true)(hd:Nat.ble (d+1) n=true)
  (e:ev σ x=some (Py a)) (c:ev σ y=some (Py b)) (i: -9223372036854775808≤a -b) (h1:a -b<9223372036854775808) (h:WL P L Q rest n ((d,Py (a -b))::σ) w):WL P L Q (⟨some d,.binOp .sub t x y yt,ty,pos,af,g⟩::rest) n σ w:=by
 refine fm f hd (v:=Py (a -b)) ?_ h;simp only[Cy,e,c,BP];rw[Jk i h1]
end
section
variable {P:Program}{Q:Exit→Act→World→Prop}{n:Nat}{σ:Sg}{w:World}{L rest:List Oper}{d:Nat}{op:Op}{ty:TypeId}{pos:String}{af:Array Edge}{g:Option (Nat×Bool)}
theorem WL.makeFunc{fn:Fn}{fs cs:List Operand}{fv cv:List Value}(c:gd L σ ⟨some d,.makeFunc fn fs.toArray cs.toArray,ty,pos,af,g⟩=some true)(hd:Nat.ble (d+1) n=true)
  (hf:nL σ fs=some fv) (e:nL σ cs=some cv) (h:WL P L Q rest n ((d,.func fn fv.toArray cv.toArray)::σ) w):WL P L Q (⟨some d,.makeFunc fn fs.toArray cs.toArray,ty,pos,af,g⟩::rest) n σ w:=by
 refine WL.run c hd (fun a b=>?_) h;have i:=nM b fs fv hf;have f:=nM b cs cv e;simp[execOp,Instr.makeFunc,i,f]
class IsF(P:Program)(f:FuncId):Prop where
 ok:∃fn,P.funcs[f]?=some fn∧fn.body.isSome=true∧(fn.name== "runtime.NumGoroutine")=false
theorem iZ{f:FuncId}[hf:IsF P f](args:Array Value):(callFunc f args).run P w=.ok (.enter f args) w:=by
 obtain⟨fn,h1,h2,h3⟩:=hf.ok;have h4:fn.body≠none:=by intro e;rw[e]at h2;cases h2
 have a:fn.name≠ "runtime.NumGoroutine":=by simpa using h3
 simp[callFunc,h1,h4,a]
theorem d8{f:FuncId}{x:Operand}{xs:List Operand}{c:Array TypeId}{vs fv cv:List Value}{R:Value→World→Prop}
  (l:gd L σ ⟨some d,.call ⟨.value x,xs.toArray,c⟩,ty,pos,af,g⟩=some true) (hd:Nat.ble (d+1) n=true) (i:ev σ x=some (.func (.func f) fv.toArray cv.toArray)) (j:nL σ xs=some vs) [hf:IsF P f]
  (m:Rt P f (fv++vs++cv).toArray w R) (h:∀v w',R v w'→WL P L Q rest n ((d,v)::σ) w'):WL P L Q (⟨some d,.call ⟨.value x,xs.toArray,c⟩,ty,pos,af,g⟩::rest) n σ w:=by
 unfold WL at*
 intro a b
 refine O1 fun K o=>?_
 rw[qE b l,OK rfl];have q:=nM b xs vs j;have p:=b.ev i;have k:(execOp a.eval ⟨some d,.call ⟨.value x,xs.toArray,c⟩,ty,pos,af,g⟩).run P w=.ok (.enter f (fv++vs++cv).toArray) w:=by
  have:=iZ (P:=P) (f:=f) (w:=w) (fv++vs++cv).toArray;simp[execOp,resolve,p,Deferred.ofValue,invoke,q];simpa using this
 unfold Oper.wp;rw[k];refine J0 m ?_;rintro e w' ⟨v,rfl,hR⟩
 exact o _ _ (h v w' hR _ (b.put (d:=some d) hd))
theorem WL.call{f:FuncId}{xs:List Operand}{a:Array TypeId}{vs:List Value}{R:Value→World→Prop}
  (c:gd L σ ⟨some d,.call ⟨.value (.func f),xs.toArray,a⟩,ty,pos,af,g⟩=some true) (hd:Nat.ble (d+1) n=true) (b:nL σ xs=some vs) [hf:IsF P f]
  (e:Rt P f vs.toArray w R) (h:∀v w',R v w'→WL P L Q rest n ((d,v)::σ) w'):WL P L Q (⟨some d,.call ⟨.value (.func f),xs.toArray,a⟩,ty,pos,af,g⟩::rest) n σ w:=
 d8 c hd (fv:=[]) (cv:=[]) rfl b (by simpa using e) h
end
abbrev bU:=List (List Int)
inductive Rch(g:bU)(from':List Int):Nat→Prop
 |base {x:Int}:x∈from'→Rch g from' x.toNat
 |step {n:Nat} {x:Int}:Rch g from' n→x∈g.getD n []→Rch g from' x.toNat
open Classical in
noncomputable def CP(g:bU)(from':List Int):List Bool:=(List.range g.length).map fun n=>decide (Rch g from' n)
theorem CR(g:bU)(f:List Int):(CP g f).length=g.length:=by simp[CP]
theorem CQ{g:bU}{f:List Int}{n:Nat}(h:n<(CP g f).length):(CP g f)[n]=true↔Rch g f n:=by
 have a:n<g.length:=by rwa[CR]at h
 simp[CP]
def AF(n:Nat)(l:List Int):Prop:=∀x∈l,0≤x∧x<n
def okG(g:bU):Prop:=∀l∈g,AF g.length l
theorem AE{g:bU}(h:okG g)(n:Nat):AF g.length (g.getD n []):=by
 intro x a
 by_cases hn:n<g.length
 ·rw[KT,KY hn]at a
  exact h _ (Lc hn) x a
 ·rw[KT,KZ O7]at a
  simp at a
def B8:bU→List Bool→Nat
 |l::g,s::r=>(match s with|true=>0|false=>l.length+1)+B8 g r
 |_,_=>0
theorem B_:∀(g:bU) (seen:List Bool) (n:Nat),n<g.length→seen.length=g.length→seen.getD n true=false→B8 g (seen.set n true)+(g.getD n []).length+1=B8 g seen
 |[],_,n,h,_,_=>absurd h O_
 |l::g,[],n,_,h,_=>absurd h O_
 |l::g,s::r,0,_,_,h=>by
  simp at h;subst h;simp[B8];omega
 |l::g,s::r,n+1,h1,h2,h3=>by
  have:=B_ g r n (by simpa using h1) (by simpa using h2) (by simpa using h3);simp only[List.set_cons_succ,B8,KQ];omega
def mG(g:bU):Nat:=(g.map List.length).sum
theorem Ca:∀g:bU,B8 g (List.replicate g.length false)=mG g+g.length
 |[]=>rfl
 |l::g=>by
  simp only[Lm,Mc,B8,Ca g,mG,LG,Mh];omega
structure RInv(g:bU)(f:List Int)(seen:List Bool)(todo:List Int):Prop where
 len:seen.length=g.length
 ok:AF g.length todo
 sound:∀n,seen.getD n false=true→Rch g f n
 tsound:∀x∈todo,Rch g f x.toNat
 base:∀x∈f,seen.getD x.toNat false=true∨x∈todo
 clo:∀n,seen.getD n false=true→∀x∈g.getD n [],seen.getD x.toNat false=true∨x∈todo
theorem qV{l:List Bool}{n k:Nat}{b:Bool}(h:n<l.length):(l.set n b).getD k false=if n=k then b else l.getD k false:=by
 simp only[KT,K4];split
 ·subst_vars;simp[h]
 ·rfl
theorem qU{n k:Nat}:(List.replicate n false).getD k false=false:=by
 simp only[KT,K3];split<;>rfl
theorem RInv.start{g:bU}{f:List Int}(hf:AF g.length f):RInv g f (List.replicate g.length false) f where
 len:=by simp
 ok:=hf
 sound:=fun n h=>by rw[qU]at h;cases h
 tsound:=fun x a=>.base a
 base:=fun x a=>.inr a
 clo:=fun n h=>by rw[qU]at h;cases h
theorem RInv.pass{g:bU}{f:List Int}{seen:List Bool}{a:List Int}{x:Int}(h:RInv g f seen (a++[x]))(c:seen.getD x.toNat false=true):RInv g f seen a where
 len:=h.len
 ok:=fun y b=>h.ok y (by simp[b])
 sound:=h.sound
 tsound:=fun y b=>h.tsound y (by simp[b])
 base:=fun y b=>by
  rcases h.base y b with h1|h1
  ·exact .inl h1
  ·rcases LK.1 h1 with h2|h2
   ·exact .inr h2
   ·simp at h2;subst h2;exact .inl c
 clo:=fun n hn y b=>by
  rcases h.clo n hn y b with h1|h1
  ·exact .inl h1
  ·rcases LK.1 h1 with h2|h2
   ·exact .inr h2
   ·simp at h2;subst h2;exact .inl c
theorem RInv.mark{g:bU}{f:List Int}{seen:List Bool}{a:List Int}{x:Int}(d:okG g)(h:RInv g f seen (a++[x])):RInv g f (seen.set x.toNat true) (a++g.getD x.toNat []):=by
 have i:=h.ok x O_;have c:x.toNat<seen.length:=by rw[h.len];omega
 have key:∀y,seen.getD y.toNat false=true∨y∈a++[x]→(seen.set x.toNat true).getD y.toNat false=true∨y∈a++g.getD x.toNat []:=by
  intro y b
  rw[qV c];rcases b with h1|h1
  ·left;split
   ·rfl
   ·exact h1
  ·rcases LK.1 h1 with h2|h2
   ·exact .inr (by simp[h2])
   ·simp at h2;subst h2;left;simp
 refine⟨by simpa using h.len,?_,?_,?_,?_,?_⟩
 ·intro y b
  rcases LK.1 b with h1|h1
  ·exact h.ok y (by simp[h1])
  ·exact AE d _ y h1
 ·intro n hn
  rw[qV c]at hn
  split at hn
  ·rename_i e;subst e;exact h.tsound x O_
  ·exact h.sound n hn
 ·intro y b
  rcases LK.1 b with h1|h1
  ·exact h.tsound y (by simp[h1])
  ·exact .step (h.tsound x O_) h1
 ·intro y b;exact key y (h.base y b)
 ·intro n hn y b
  rw[qV c]at hn
  split at hn
  ·rename_i e;subst e;exact .inr (LK.2 (.inr b))
  ·exact key y (h.clo n hn y b)
theorem RInv.done{g:bU}{f:List Int}{seen:List Bool}(h:RInv g f seen []):seen=CP g f:=by
 have all:∀n,Rch g f n→seen.getD n false=true:=by
  intro n hn
  induction hn with
  |base a=>exact(h.base _ a).resolve_right O_
  |step _ a b=>exact(h.clo _ b _ a).resolve_right O_
 apply KD (by rw[h.len,CR]);intro n h1 h2
 have c:seen.getD n false=seen[n]:=by simp[KT,h1]
 rw[JN,CQ h2,←c];exact⟨h.sound n,all n⟩
def lT(g:bU):Nat→List Bool→List Int→List Bool
 |0,seen,_=>seen
 |k+1,seen,a=>match a.reverse with
  |[]=>seen
  |x::r=>match seen.getD x.toNat false with
   |true=>lT g k seen r.reverse
   |false=>lT g k (seen.set x.toNat true) (r.reverse++g.getD x.toNat [])
theorem lU{g:bU}{f:List Int}(l:okG g):∀(k:Nat) (seen:List Bool) (a:List Int),RInv g f seen a→a.length+B8 g seen≤k→lT g k seen a=CP g f:=by
 intro k
 induction k with
 |zero=>
  intro seen a h d
  have:a=[]:=KC O7;subst this;exact h.done
 |succ k i=>
  intro seen a h d
  unfold lT;split
  ·rename_i e
   have:a=[]:=by simpa using e
   subst this;exact h.done
  ·rename_i x r e
   have j:a=r.reverse++[x]:=by
    have:=Ox List.reverse e;simpa using this
   subst j;have m:=h.ok x O_;split
   ·rename_i b
    exact i _ _ (h.pass b) (by simp at d⊢;omega)
   ·rename_i b
    have c:x.toNat<seen.length:=by rw[h.len];omega
    have n:=B_ g seen x.toNat O7 h.len (by
     simp only[KT,KY c,Nk]at b⊢;exact b)
    exact i _ _ (RInv.mark l h) (by simp only[Ll,Lm,Lt]at d⊢;omega)
theorem CS{g:bU}{f:List Int}(a:okG g)(hf:AF g.length f)(k:Nat)(b:f.length+mG g+g.length≤k):CP g f=lT g k (List.replicate g.length false) f:=
 (lU a k _ _ (RInv.start hf) (by rw[Ca];omega)).symm
def Am(n:Nat)(l:List Int):Bool:=l.any fun x=>decide (x<0∨x≥n)
theorem oddB_false{n:Nat}{l:List Int}:Am n l=false↔AF n l:=by
 unfold Am AF;rw[Kf];constructor
 ·intro h x a;have:=h x a;simp at this;omega
 ·intro h x a;have:=h x a;simp;omega
def jD(g:bU):Int:=match decide (g.length>20000),g.any (Am g.length)with
 |true,_=>2
 |false,true=>1
 |false,false=>0
theorem jF{g:bU}(h:jD g=0):okG g∧g.length≤20000:=by
 unfold jD at h
 split at h
 ·cases h
 ·cases h
 ·rename_i h1 h2
  simp at h1
  refine⟨fun l a=>oddB_false.1 ?_,h1⟩;rw[Kf]at h2
  simpa using h2 l a
abbrev cG:=ByteArray×Int
abbrev cF:=Int×Int
abbrev cI:=List cG×List cF
def yg(c:UInt8):Bool:=!(decide (((c.toNat:Nat):Int)<97))&&!(decide (((c.toNat:Nat):Int)>122))
def y0(l:List UInt8):Bool:=!(l==[])&&!(decide ((l.length:Int)>8))&&!(l==[116,114,117,101])&&!(l==[102,97,108,115,101])&&!(l==[115,105,108,101,110,116])&&l.all yg
abbrev yZ(s:ByteArray):Bool:=y0 s.data.toList
def yY(a b:ByteArray):Bool:=a.data.toList==b.data.toList
def zG(ns:List cG)(i:Nat):Int:=
 if !yZ (ns.getD i (⟨#[]⟩,0)).1||decide ((ns.getD i (⟨#[]⟩,0)).2<1)||decide ((ns.getD i (⟨#[]⟩,0)).2>7)then 1
 else if(ns.take i).any (fun m=>yY m.1 (ns.getD i (⟨#[]⟩,0)).1)then 4 else 0
def zQ(ns:List cG):Nat→Nat→Int
 |0,_=>0
 |f+1,i=>if zG ns i≠0 then zG ns i else zQ ns f (i+1)
def zM(ns:List cG):Int:=zQ ns ns.length 0
theorem zR{ns:List cG}:∀(f i k:Nat),i≤k→k<i+f→(∀j,i≤j→j<k→zG ns j=0)→zG ns k≠0→zQ ns f i=zG ns k
 |0,i,k,h1,h2,_,_=>by omega
 |f+1,i,k,h1,h2,h3,h4=>by
  unfold zQ;by_cases e:i=k
  ·subst e;rw[OK h4]
  ·rw[OJ (by rw[h3 i Pu O7];simp)]
   exact zR f (i+1) k O7 O7 (fun j b a=>h3 j O7 a) h4
theorem zS{ns:List cG}:∀(f i:Nat),(∀j,i≤j→j<i+f→zG ns j=0)→zQ ns f i=0
 |0,_,_=>rfl
 |f+1,i,h=>by
  unfold zQ;rw[OJ (by rw[h i Pu O7];simp)];exact zS f (i+1) (fun j h1 h2=>h j O7 O7)
theorem zO{ns:List cG}{k:Nat}(b:k<ns.length)(a:∀j,j<k→zG ns j=0)(h:zG ns k≠0):zM ns=zG ns k:=zR _ 0 k (Nc _) O7 (fun j _=>a j) h
theorem zP{ns:List cG}(a:∀j,j<ns.length→zG ns j=0):zM ns=0:=zS _ 0 (fun j _ h=>a j O7)
theorem zN{ns:List cG}(h:zM ns=0):∀j,j<ns.length→zG ns j=0:=by
 intro j
 induction j using Nat.strongRecOn with
 |_ j a=>
  intro c
  apply J1;intro hn
  have:=zO c (fun k b=>a k b O7) hn;exact hn (by rw[←this];exact h)
def kP(kind:Int)(i o:Nat):Bool:=
 if kind=1 then decide (i=0)&&decide (o=1)
 else if kind=2∨kind=3 then decide (0<i)&&decide (o=0)
 else if kind=4 then decide (0<i)&&decide (o=1)
 else if kind=7 then if o>4 then false else decide (0<i)&&decide (0<o)
 else if kind=5∨kind=6 then decide (0<i)&&decide (0<o)
 else false
def vV(fl:List cF)(n:Int)(k:Nat):List Int:=((List.range k).filter fun i=>(fl.getD i (0,0)).2==n).map fun i:Nat=>(i:Int)
def A_(fl:List cF)(n:Int)(k:Nat):List Int:=((List.range k).filter fun i=>(fl.getD i (0,0)).1==n).map fun i:Nat=>(i:Int)
abbrev vT(fl:List cF)(n:Int):List Int:=vV fl n fl.length
abbrev A8(fl:List cF)(n:Int):List Int:=A_ fl n fl.length
theorem vX{fl:List cF}{n:Int}{k:Nat}:vV fl n (k+1)=vV fl n k++if((fl.getD k (0,0)).2==n)=true then [(k:Int)]else []:=by
 unfold vV;rw[Mb,KF,LE]
 congr 1
 by_cases e:((fl.getD k (0,0)).2==n)=true
 ·rw[OK e];simp only[KG,e,KJ];rfl
 ·rw[OJ e];simp only[KG,e,KJ];rfl
theorem Bb{fl:List cF}{n:Int}{k:Nat}:A_ fl n (k+1)=A_ fl n k++if((fl.getD k (0,0)).1==n)=true then [(k:Int)]else []:=by
 unfold A_;rw[Mb,KF,LE]
 congr 1
 by_cases e:((fl.getD k (0,0)).1==n)=true
 ·rw[OK e];simp only[KG,e,KJ];rfl
 ·rw[OJ e];simp only[KG,e,KJ];rfl
theorem vW{fl:List cF}{n:Int}{k:Nat}:(vV fl n k).length≤k:=by
 unfold vV;rw[Ls];exact MN (Lr _ _) O_
theorem Ba{fl:List cF}{n:Int}{k:Nat}:(A_ fl n k).length≤k:=by
 unfold A_;rw[Ls];exact MN (Lr _ _) O_
theorem insP_mem{fl:List cF}{n:Int}{k:Nat}{x:Int}:x∈vV fl n k↔∃i:Nat,x=(i:Int)∧i<k∧(fl.getD i (0,0)).2=n:=by
 unfold vV;rw[LU];constructor
 ·rintro⟨i,h1,rfl⟩
  have:=LR.1 h1;exact⟨i,rfl,LZ.1 this.1,by simpa using this.2⟩
 ·rintro⟨i,rfl,h1,h2⟩
  exact⟨i,LR.2 ⟨LZ.2 h1,by simpa using h2⟩,rfl⟩
theorem outsP_mem{fl:List cF}{n:Int}{k:Nat}{x:Int}:x∈A_ fl n k↔∃i:Nat,x=(i:Int)∧i<k∧(fl.getD i (0,0)).1=n:=by
 unfold A_;rw[LU];constructor
 ·rintro⟨i,h1,rfl⟩
  have:=LR.1 h1;exact⟨i,rfl,LZ.1 this.1,by simpa using this.2⟩
 ·rintro⟨i,rfl,h1,h2⟩
  exact⟨i,LR.2 ⟨LZ.2 h1,by simpa using h2⟩,rfl⟩
def pG(n:Nat)(f:cF):Bool:=decide (f.1<0)||decide (f.1≥n)||decide (f.2<0)||decide (f.2≥n)
def pJ(n:Nat)(fl:List cF):bU:=(List.range n).map fun k:Nat=>(fl.filter fun f=>f.1==(k:Int)).map (·.2)
def FX(ns:List cG)(k:Nat):List Nat:=(List.range k).filter fun i=>(ns.getD i (⟨#[]⟩,0)).2==1
def gQ(p:cI)(i:Nat):Bool:=!kP (p.1.getD i (⟨#[]⟩,0)).2 (vT p.2 i).length (A8 p.2 i).length
open Classical in
noncomputable def jN(p:cI):Int:=if∃n,n<p.1.length∧¬Rch (pJ p.1.length p.2) (((FX p.1 p.1.length).getLast?.map fun n:Nat=>(n:Int)).toList) n then 6 else 0
noncomputable def jL(p:cI):Int:=
 if p.1.length>20∨p.2.length>30 then 2 else if zM p.1≠0 then zM p.1
 else if p.2.any (pG p.1.length)=true then 1 else if(FX p.1 p.1.length).length≠1 then 1
 else if(List.range p.1.length).any (gQ p)=true then 1
 else jN p
structure OkPr(p:cI):Prop where
 n:p.1.length≤20
 f:p.2.length≤30
 nodes:∀i,i<p.1.length→zG p.1 i=0
 flows:∀f∈p.2,0≤f.1∧f.1<p.1.length∧0≤f.2∧f.2<p.1.length
 start:(FX p.1 p.1.length).length=1
 count:∀i,i<p.1.length→kP (p.1.getD i (⟨#[]⟩,0)).2 (vT p.2 i).length (A8 p.2 i).length=true
theorem jM{p:cI}(h:jL p=0):OkPr p:=by
 unfold jL at h
 split at h
 ·cases h
 split at h
 ·rename_i h1 h2;exact absurd h h2
 split at h
 ·cases h
 split at h
 ·cases h
 split at h
 ·cases h
 rename_i h1 h2 h3 h4 a;refine⟨by omega,by omega,zN (by simpa using h2),fun f hf=>?_,by simpa using h4,fun i hi=>?_⟩
 ·have h3:=Kf.1 (by simpa using h3) f hf
  unfold pG at h3
  simp at h3
  omega
 ·have a:=Kf.1 (by simpa using a) i (LZ.2 hi)
  unfold gQ at a
  simpa using a
class Rep(α:Type)where
 sz:Nat
 pos:0<sz
 agg:Bool
 rd:World→(Nat→Prop)→List Value→α→Prop
 len:∀{w F cs x},rd w F cs x→cs.length=sz
 one:∀{w F cs x},rd w F cs x→∀v∈cs,v.oneCell'=true
 szAgg:agg=false→sz=1
 mono:∀{w w' F F' cs x},rd w F cs x→(∀b,F b→w'.heap[b]?=w.heap[b]?)→(∀b,F b→F' b)→rd w' F' cs x
abbrev sz(α:Type)[Rep α]:Nat:=Rep.sz α
abbrev rd{α:Type}[Rep α]:World→(Nat→Prop)→List Value→α→Prop:=Rep.rd
def Iq(α:Type)[Rep α](cs:List Value):Value:=match Rep.agg α with
 |true=>.agg cs.toArray
 |false=>cs.headD undef
def Rd{α:Type}[Rep α](w:World)(F:Nat→Prop)(v:Value)(x:α):Prop:=∃cs,v=Iq α cs∧rd w F cs x
theorem Rd.mono{α:Type}[Rep α]{w w':World}{F F':Nat→Prop}{v:Value}{x:α}(h:Rd w F v x)(c:∀b,F b→w'.heap[b]?=w.heap[b]?)(hF:∀b,F b→F' b):Rd w' F' v x:=by
 obtain⟨cs,e,a⟩:=h;exact⟨cs,e,Rep.mono a c hF⟩
theorem Ir{α:Type}[Rep α]{w:World}{F:Nat→Prop}{cs:List Value}{x:α}(h:rd w F cs x):(Iq α cs).cells.toList=cs:=by
 unfold Iq;split
 ·simp[Value.cells]
 ·rename_i a
  have h1:=Rep.len h;rw[Rep.szAgg a]at h1
  match cs,h1 with
  |[v],_=>
   have:=Rep.one h v O_;cases v<;>first|rfl|(simp[Value.oneCell']at this)
instance sT:Rep Int where
 sz:=1
 pos:=by decide
 agg:=false
 rd:=fun _ _ cs x=>cs=[Py x]
 len:=by intro w F cs x h;subst h;rfl
 one:=by intro w F cs x h v a;subst h;simp at a;subst a;rfl
 szAgg:=fun _=>rfl
 mono:=fun h _ _=>h
instance sU:Rep Bool where
 sz:=1
 pos:=by decide
 agg:=false
 rd:=fun _ _ cs x=>cs=[.bool x]
 len:=by intro w F cs x h;subst h;rfl
 one:=by intro w F cs x h v a;subst h;simp at a;subst a;rfl
 szAgg:=fun _=>rfl
 mono:=fun h _ _=>h
instance sX:Rep Nat where
 sz:=1
 pos:=by decide
 agg:=false
 rd:=fun _ _ cs x=>cs=[.int .u64 (x:Int)]∧x<18446744073709551616
 len:=by intro w F cs x h;rw[h.1];rfl
 one:=by intro w F cs x h v a;rw[h.1]at a;simp at a;subst a;rfl
 szAgg:=fun _=>rfl
 mono:=fun h _ _=>h
instance sY:Rep ByteArray where
 sz:=1
 pos:=by decide
 agg:=false
 rd:=fun _ _ cs x=>cs=[.string x]∧x.size≤maxLen
 len:=by intro w F cs x h;rw[h.1];rfl
 one:=by intro w F cs x h v a;rw[h.1]at a;simp at a;subst a;rfl
 szAgg:=fun _=>rfl
 mono:=fun h _ _=>h
def Cells(w:World)(b off:Nat)(cs:List Value):Prop:=∀j u,cs[j]?=some u→w.cell? ⟨b,off+j,none⟩=some u
theorem Cells.mono{w w':World}{b off:Nat}{cs:List Value}(h:Cells w b off cs)(e:w'.heap[b]?=w.heap[b]?):Cells w' b off cs:=
 fun j u c=>(World.cell?_of_block (w:=w) (a:=⟨b,off+j,none⟩) e).trans (h j u c)
structure Sl{α:Type}[Rep α](w:World)(F:Nat→Prop)(ao:Option Addr)(cap:Nat)(xs:List α):Prop where
 le:xs.length≤cap
 mx:cap≤maxLen
 nil:ao=none→cap=0
 el:∀i (h:i<xs.length),∃b off,ao=some ⟨b,off,none⟩∧F b∧∃es,Cells w b (off+i*sz α) es∧rd w F es xs[i]
theorem Sl.mono{α:Type}[Rep α]{w w':World}{F F':Nat→Prop}{ao:Option Addr}{cap:Nat}{xs:List α}(h:Sl w F ao cap xs)(a:∀b,F b→w'.heap[b]?=w.heap[b]?)(hF:∀b,F b→F' b):Sl w' F' ao cap xs:=by
 refine⟨h.le,h.mx,h.nil,fun i hi=>?_⟩;obtain⟨b,off,e,hf,j,f,c⟩:=h.el i hi;exact⟨b,off,e,hF b hf,j,f.mono (a b hf),Rep.mono c a hF⟩
instance sZ{α:Type}[Rep α]:Rep (List α)where
 sz:=1
 pos:=by decide
 agg:=false
 rd:=fun w F cs xs=>∃ao cap,cs=[.slice ao xs.length cap]∧Sl w F ao cap xs
 len:=by rintro w F cs x ⟨ao,cap,e,_⟩;subst e;rfl
 one:=by rintro w F cs x ⟨ao,cap,e,_⟩ v a;subst e;simp at a;subst a;rfl
 szAgg:=fun _=>rfl
 mono:=by rintro w w' F F' cs x ⟨ao,cap,e,h⟩ b hF;exact⟨ao,cap,e,h.mono b hF⟩
theorem Rd.sl{α:Type}[Rep α]{w:World}{F:Nat→Prop}{v:Value}{xs:List α}(h:Rd w F v xs):∃ao cap,v=.slice ao xs.length cap∧Sl w F ao cap xs:=by
 obtain⟨cs,e,ao,cap,rfl,a⟩:=h;exact⟨ao,cap,e,a⟩
theorem Sl.rd{α:Type}[Rep α]{w:World}{F:Nat→Prop}{ao:Option Addr}{cap:Nat}{xs:List α}(h:Sl w F ao cap xs):Rd w F (.slice ao xs.length cap) xs:=⟨[.slice ao xs.length cap],rfl,ao,cap,rfl,h⟩
theorem Sl.len63{α:Type}[Rep α]{w:World}{F:Nat→Prop}{ao:Option Addr}{cap:Nat}{xs:List α}(h:Sl w F ao cap xs):xs.length≤9223372036854775807:=by
 have:=h.le;have:=h.mx;unfold maxLen at this;omega
theorem Rd.int{w:World}{F:Nat→Prop}{v:Value}{x:Int}(h:Rd w F v x):v=Py x:=by obtain⟨cs,e,rfl⟩:=h;exact e
theorem Rd.bool{w:World}{F:Nat→Prop}{v:Value}{x:Bool}(h:Rd w F v x):v=.bool x:=by obtain⟨cs,e,rfl⟩:=h;exact e
theorem Rd.u64{w:World}{F:Nat→Prop}{v:Value}{x:Nat}(h:Rd w F v x):v=.int .u64 (x:Int)∧x<18446744073709551616:=by obtain⟨cs,e,rfl,h2⟩:=h;exact⟨e,h2⟩
theorem Rd.str{w:World}{F:Nat→Prop}{v:Value}{x:ByteArray}(h:Rd w F v x):v=.string x∧x.size≤maxLen:=by obtain⟨cs,e,rfl,h2⟩:=h;exact⟨e,h2⟩
theorem Rd.mkInt(w:World)(F:Nat→Prop)(x:Int):Rd w F (Py x) x:=⟨_,rfl,rfl⟩
theorem Rd.mkBool(w:World)(F:Nat→Prop)(x:Bool):Rd w F (.bool x) x:=⟨_,rfl,rfl⟩
theorem Rd.mkStr(w:World)(F:Nat→Prop)(x:ByteArray)(h:x.size≤maxLen):Rd w F (.string x) x:=⟨_,rfl,rfl,h⟩
def c7(w:World):Nat→Prop:=fun b=>b<w.heap.size
abbrev Ext(w w':World):Prop:=Below w.heap.size w w'
theorem Ext.refl(w:World):Ext w w:=JI _ _
theorem Ext.trans{a b c:World}(h:Ext a b)(k:Ext b c):Ext a c:=Below.trans h (k.mono h.size)
section
variable {α:Type}[Rep α]{w w' w0:World}{v:Value}{x:α}{ao:Option Addr}{cap:Nat}{xs:List α}
theorem Sl.at(h:Sl w0 (c7 w0) ao cap xs)(c:Below w0.heap.size w0 w):Sl w (c7 w0) ao cap xs:=h.mono (fun b a=>c.block b a) fun _ h=>h
theorem Sl.lift{F:Nat→Prop}(h:Sl w F ao cap xs)(hF:∀b,F b→b<w.heap.size):Sl w (c7 w) ao cap xs:=h.mono Pq hF
theorem Sl.up(h:Sl w0 (c7 w0) ao cap xs)(c:Below w0.heap.size w0 w):Sl w (c7 w) ao cap xs:=h.mono (fun b a=>c.block b a) fun b a=>MQ a c.size
theorem Cells.lt{b off:Nat}{cs:List Value}(h:Cells w b off cs)(hn:0<cs.length):b<w.heap.size:=
 Ok w _ (h 0 cs[0] (by simp[hn]))
end
def fP:TypeDesc→Bool|.struct _=>true|.array _ _=>true|_=>false
class IsT(P:Program)(t:TypeId)(α:Type)[Rep α]:Prop where
 ok:∃i d,P.info? t=some i∧i.size=sz α∧P.underlying t=some d∧fP d=Rep.agg α
class IsS(P:Program)(t:TypeId)(e:outParam TypeId):Prop where
 ok:P.underlying t=some (.slice e)
class IsZ(P:Program)(t:TypeId){α:Type}[Rep α](x:outParam α)(bytes:outParam Nat):Prop where
 ok:∃i z,P.info? t=some i∧i.zero=some z∧i.bytes=bytes∧∀w F,rd w F z.cells.toList x
theorem IsT.of{P:Program}{t:TypeId}{α:Type}[Rep α]{d:TypeDesc}(h:(P.info? t).map (fun i=>Nat.beq i.size (sz α))=some true)(a:P.underlying t=some d)
  (hd:fP d=Rep.agg α):IsT P t α:=by
 obtain⟨i,hi,b⟩:=Nl.1 h;exact⟨i,d,hi,MB b,a,hd⟩
theorem IsZ.of{P:Program}{t:TypeId}{α:Type}[Rep α]{x:α}{bytes:Nat}{z:Value}(h:(P.info? t).map (fun i=>(i.zero,i.bytes))=some (some z,bytes))(b:∀w F,rd w F z.cells.toList x):IsZ P t x bytes:=by
 obtain⟨i,hi,a⟩:=Nl.1 h;simp only[Nq]at a
 exact⟨i,z,hi,a.1,a.2,b⟩
theorem IsT.info{P:Program}{t:TypeId}{α:Type}[Rep α][h:IsT P t α]:∃i,P.info? t=some i∧i.size=sz α:=by
 obtain⟨i,d,h1,h2,_⟩:=h.ok;exact⟨i,h1,h2⟩
theorem Ek{P:Program}{t:TypeId}{α:Type}[Rep α][IsT P t α](w:World):(sizeOf t).run P w=.ok (sz α) w:=by
 obtain⟨i,h1,h2⟩:=IsT.info (P:=P) (t:=t) (α:=α);simp[sizeOf,typeInfo,h1,h2]
theorem DZ{P:Program}{t:TypeId}{α:Type}[Rep α][h:IsT P t α](w:World):(isAgg t).run P w=.ok (Rep.agg α) w:=by
 obtain⟨i,d,h1,h2,h3,h4⟩:=h.ok;unfold isAgg;rw[Nv,OW h3 w];rw[←h4];cases d<;>rfl
theorem D5{P:Program}{t:TypeId}{α:Type}[Rep α][IsT P t α]{w:World}{F:Nat→Prop}{b off:Nat}{cs:List Value}{x:α}(c:Cells w b off cs)(f:rd w F cs x):
  (loadVar t ⟨b,off,none⟩).run P w=.ok (Iq α cs) w:=by
 have a:cs.length=sz α:=Rep.len f;unfold loadVar;rw[Nv,DZ (α:=α) w];simp only[Nu];unfold Iq;cases h:Rep.agg α with
 |true=>
  simp only[OL];rw[Nv,Ek (α:=α) w];simp only[Nu];rw[Nv,←a,OS w ⟨b,off,none⟩ cs (fun j v e=>by rw[Oj];exact c j v e)];rfl
 |false=>
  rw[show sz α=1 from Rep.szAgg h]at a
  match cs,a with
  |[v],_=>
   have:=c 0 v rfl;simp only[Mx]at this
   simp[this]
section
variable {P:Program}{Q:Exit→Act→World→Prop}{n:Nat}{σ:Sg}{w:World}{L rest:List Oper}{d:Nat}{op:Op}{ty:TypeId}{pos:String}{af:Array Edge}{g:Option (Nat×Bool)}
theorem eQ{t e:TypeId}{x:Operand}{ao:Option Addr}{k cap:Nat}(f:gd L σ ⟨some d,.call ⟨.builtin .len,#[x],#[t]⟩,ty,pos,af,g⟩=some true)(hd:Nat.ble (d+1) n=true)
  (b:ev σ x=some (.slice ao k cap)) [c:IsS P t e] (h:WL P L Q rest n ((d,Py (k:Int))::σ) w):WL P L Q (⟨some d,.call ⟨.builtin .len,#[x],#[t]⟩,ty,pos,af,g⟩::rest) n σ w:=by
 refine WL.run f hd (fun a i=>?_) h;simp[execOp,resolve,invoke,builtin,i.ev b,Builtin.len_,OW c.ok,goInt]
theorem eH{α:Type}[Rep α]{t e:TypeId}{x ix:Operand}{b off:Nat}{k cap:Nat}{i:Int}{kd:IntKind}(l:gd L σ ⟨some d,.indexAddr t x ix,ty,pos,af,g⟩=some true)(hd:Nat.ble (d+1) n=true)
  (f:ev σ x=some (.slice (some ⟨b,off,none⟩) k cap)) (hi:ev σ ix=some (.int kd i)) [j:IsS P t e] [o:IsT P e α] (m:0≤i) (h1:i<k)
  (h:WL P L Q rest n ((d,.pointer (some ⟨b,off+i.toNat*sz α,none⟩))::σ) w):WL P L Q (⟨some d,.indexAddr t x ix,ty,pos,af,g⟩::rest) n σ w:=by
 refine WL.run l hd (fun a c=>?_) h;simp[execOp,c.ev f,c.ev hi,Instr.indexAt,asIntOf,OW j.ok,m,h1,Ek (α:=α),Oj]
theorem WL.load{α:Type}[Rep α]{t:TypeId}{x:Operand}{b off:Nat}{F:Nat→Prop}{cs:List Value}{y:α}(f:gd L σ ⟨some d,.load t x,ty,pos,af,g⟩=some true)(hd:Nat.ble (d+1) n=true)
  (c:ev σ x=some (.pointer (some ⟨b,off,none⟩))) [k:IsT P t α] (i:Cells w b off cs) (e:rd w F cs y)
  (h:WL P L Q rest n ((d,Iq α cs)::σ) w):WL P L Q (⟨some d,.load t x,ty,pos,af,g⟩::rest) n σ w:=by
 refine WL.run f hd (fun a j=>?_) h;simp[execOp,j.ev c,Instr.loadAt,Instr.sureAddr,D5 i e]
theorem ez{α:Type}[Rep α]{t e:TypeId}{x ix:Operand}{ao:Option Addr}{cap a:Nat}{xs:List α}{F:Nat→Prop}{i:Int}{kd:IntKind}{ty':TypeId}{pos':String}{af':Array Edge}{k:Option (Nat×Bool)}
  (m:gd L σ ⟨some d,.indexAddr t x ix,ty,pos,af,g⟩=some true) (hd:Nat.ble (d+1) n=true) (hd':Nat.ble (a+1) n=true)
  (l:ev σ x=some (.slice ao xs.length cap)) (hi:ev σ ix=some (.int kd i)) [y:IsS P t e] [s:IsT P e α] (c:Sl w F ao cap xs) (q:0≤i) (h1:i<xs.length)
  (f:∀p,gd L ((d,.pointer p)::σ) ⟨some a,.load e (.tmp d),ty',pos',af',k⟩=some true)
  (h:∀u p,Rd w F u (xs[i.toNat]'O7)→WL P L Q rest n ((a,u)::(d,.pointer p)::σ) w):
  WL P L Q (⟨some d,.indexAddr t x ix,ty,pos,af,g⟩::⟨some a,.load e (.tmp d),ty',pos',af',k⟩::rest) n σ w:=by
 obtain⟨b,off,rfl,hF,r,o,j⟩:=c.el i.toNat O7;refine eH (α:=α) m hd l hi q h1 ?_;refine WL.load (α:=α) (f _) hd' pU o j ?_;exact h _ _ ⟨r,rfl,j⟩
theorem eC{α:Type}[Rep α]{t e:TypeId}{x ix:Operand}{ao:Option Addr}{cap a:Nat}{xs:List α}{F:Nat→Prop}{i:Nat}{kd:IntKind}{ty':TypeId}{pos':String}{af':Array Edge}{f:Option (Nat×Bool)}
  (l:gd L σ ⟨some d,.indexAddr t x ix,ty,pos,af,g⟩=some true) (hd:Nat.ble (d+1) n=true) (hd':Nat.ble (a+1) n=true)
  (j:ev σ x=some (.slice ao xs.length cap)) (hi:ev σ ix=some (.int kd (i:Int))) [o:IsS P t e] [m:IsT P e α] (b:Sl w F ao cap xs) (h1:i<xs.length)
  (c:∀p,gd L ((d,.pointer p)::σ) ⟨some a,.load e (.tmp d),ty',pos',af',f⟩=some true)
  (h:∀u p,Rd w F u xs[i]→WL P L Q rest n ((a,u)::(d,.pointer p)::σ) w):
  WL P L Q (⟨some d,.indexAddr t x ix,ty,pos,af,g⟩::⟨some a,.load e (.tmp d),ty',pos',af',f⟩::rest) n σ w:=
 ez l hd hd' j hi b O7 O7 c (fun u p k=>h u p (by simpa using k))
theorem eB{t e:TypeId}{x ix:Operand}{ao:Option Addr}{cap a:Nat}{xs:List Int}{F:Nat→Prop}{i:Nat}{y:Int}{kd:IntKind}{ty':TypeId}{pos':String}{af':Array Edge}{f:Option (Nat×Bool)}
  (m:gd L σ ⟨some d,.indexAddr t x ix,ty,pos,af,g⟩=some true) (hd:Nat.ble (d+1) n=true) (hd':Nat.ble (a+1) n=true)
  (k:ev σ x=some (.slice ao xs.length cap)) (hi:ev σ ix=some (.int kd (i:Int))) [q:IsS P t e] [o:IsT P e Int] (b:Sl w F ao cap xs) (h1:i<xs.length) (j:xs[i]=y)
  (c:∀p,gd L ((d,.pointer p)::σ) ⟨some a,.load e (.tmp d),ty',pos',af',f⟩=some true)
  (h:∀p,WL P L Q rest n ((a,Py y)::(d,.pointer p)::σ) w):
  WL P L Q (⟨some d,.indexAddr t x ix,ty,pos,af,g⟩::⟨some a,.load e (.tmp d),ty',pos',af',f⟩::rest) n σ w:=
 eC m hd hd' k hi b h1 c (fun u p l=>by rw[l.int,j];exact h p)
theorem eA{t e:TypeId}{x ix:Operand}{ao:Option Addr}{cap a:Nat}{xs:List Bool}{F:Nat→Prop}{i:Nat}{y:Bool}{kd:IntKind}{ty':TypeId}{pos':String}{af':Array Edge}{f:Option (Nat×Bool)}
  (m:gd L σ ⟨some d,.indexAddr t x ix,ty,pos,af,g⟩=some true) (hd:Nat.ble (d+1) n=true) (hd':Nat.ble (a+1) n=true)
  (k:ev σ x=some (.slice ao xs.length cap)) (hi:ev σ ix=some (.int kd (i:Int))) [q:IsS P t e] [o:IsT P e Bool] (b:Sl w F ao cap xs) (h1:i<xs.length) (j:xs[i]=y)
  (c:∀p,gd L ((d,.pointer p)::σ) ⟨some a,.load e (.tmp d),ty',pos',af',f⟩=some true)
  (h:∀p,WL P L Q rest n ((a,.bool y)::(d,.pointer p)::σ) w):
  WL P L Q (⟨some d,.indexAddr t x ix,ty,pos,af,g⟩::⟨some a,.load e (.tmp d),ty',pos',af',f⟩::rest) n σ w:=
 eC m hd hd' k hi b h1 c (fun u p l=>by rw[l.bool,j];exact h p)
theorem WL.box{e:TypeId}{x:Operand}{v:Value}(c:gd L σ ⟨some d,.box e x,ty,pos,af,g⟩=some true)(hd:Nat.ble (d+1) n=true)
  (b:ev σ x=some v) (h:WL P L Q rest n ((d,Pz w.heap.size)::σ) (w.alloc (.cells v.cells e))):WL P L Q (⟨some d,.box e x,ty,pos,af,g⟩::rest) n σ w:=by
 refine WL.run c hd (fun a f=>?_) h;simp[execOp,f.ev b,Instr.box,newVar,newRow]
end
def FnV(P:Program)(fv:Value)(args:List Value)(w:World)(R:Value→World→Prop):Prop:=
 ∃f fs cs,fv=.func (.func f) (List.toArray fs) (List.toArray cs)∧IsF P f∧Rt P f (fs++args++cs).toArray w R
theorem FnV.mk{P:Program}{f:FuncId}{cs args:List Value}{w:World}{R:Value→World→Prop}[hf:IsF P f](h:Rt P f (args++cs).toArray w R):FnV P (.func (.func f) [].toArray cs.toArray) args w R:=
 ⟨f,[],cs,rfl,hf,h⟩
theorem FnV.mono{P:Program}{fv:Value}{args:List Value}{w:World}{R R':Value→World→Prop}(h:FnV P fv args w R)(a:∀v w',R v w'→R' v w'):FnV P fv args w R':=by
 obtain⟨f,fs,cs,e,hf,h⟩:=h;exact⟨f,fs,cs,e,hf,h.mono a⟩
theorem d7{P:Program}{Q:Exit→Act→World→Prop}{n:Nat}{σ:Sg}{w:World}{L rest:List Oper}{d:Nat}{ty:TypeId}{pos:String}{af:Array Edge}{g:Option (Nat×Bool)}
  {x:Operand} {xs:List Operand} {b:Array TypeId} {vs:List Value} {fv:Value} {R:Value→World→Prop}
  (i:gd L σ ⟨some d,.call ⟨.value x,xs.toArray,b⟩,ty,pos,af,g⟩=some true) (hd:Nat.ble (d+1) n=true) (c:ev σ x=some fv) (e:nL σ xs=some vs)
  (a:FnV P fv vs w R) (h:∀v w',R v w'→WL P L Q rest n ((d,v)::σ) w'):WL P L Q (⟨some d,.call ⟨.value x,xs.toArray,b⟩,ty,pos,af,g⟩::rest) n σ w:=by
 obtain⟨f,fs,cs,rfl,hf,a⟩:=a;exact d8 i hd c e a h
theorem Ext.alloc(w:World)(o:Obj):Ext w (w.alloc o):=(JI _ _).alloc Pu o
theorem Cells.alloc(w:World)(cs:Array Value)(e:TypeId):Cells (w.alloc (.cells cs e)) w.heap.size 0 cs.toList:=by
 intro j u a
 rw[World.cell?_alloc_new];simpa using a
end Go.Proofs.YtfpjecjadlgdcaaGreatDoor
