import Derived.WalkKit
import Derived.ProofKit
import Derived.Deep.Quiet
import Derived.Deep.LoopGhost
import Derived.Laws.Cover3
import Derived.Laws.Bits64b
import Derived.Laws.Shifts
import Derived.OrdersHeld
import Derived.Test.YtodmkmobdmcfbaaGreatProg
import Derived.DeepKeys4
import Derived.Maps.Keyed
import Derived.Shelf.Slices.Reverse
import Derived.Shelf.Sort.Plain
import Derived.Shelf.Slices.In.SortNone
import Derived.Laws.StructEq
import Derived.Lib.RabinKarpLaws
import Derived.Test.YtodmkmobdmcfbaaGreatRows
import Derived.OpenShut
import Derived.JoinedCond
import Derived.RowKit
set_option linter.unusedVariables false
set_option linter.unusedSimpArgs false
set_option linter.defProp false
namespace Go.Proofs.YtodmkmobdmcfbaaGreat
abbrev Pj(n:Int):Value:=.int .i64 n
abbrev Pk(b:Nat):Value:=.pointer (some ⟨b,0,none⟩)
inductive Hid_(q:Prop):Prop|mk(h:q)
theorem Hid_.o{q:Prop}:Hid_ q→q|.mk h=>h
def Jp:=@Go.Addr.add_zero'
def Jq:=@Go.Addr.mk.injEq
def Jr:=@Array.ext'
def Js:=@Array.foldl_toList
def Jt:=@Array.getD_eq_getD_getElem?
def Ju:=@Array.getElem?_append_left
def Jv:=@Array.getElem?_eq_none
def Jw:=@Array.getElem?_eq_some_iff
def Jx:=@Array.getElem?_mapIdx
def Jy:=@Array.getElem?_modify
def Jz:=@Array.getElem?_replicate
def JA:=@Array.getElem?_setIfInBounds
def JB:=@Array.getElem?_setIfInBounds_ne
def JC:=@Array.getElem?_toList
def JD:=@Array.length_toList
def JE:=@Array.setIfInBounds_comm
def JF:=@Array.size_modify
def JG:=@Array.toList_zipIdx
def JH:=@Go.RowKit.Below.grown
def JI:=@Go.RowKit.Below.heap_alloc
def JJ:=@Go.RowKit.Below.refl
def JK:=@BitVec.ofInt_natCast
def JL:=@BitVec.toNat_ofNat
def JM:=@Bool.and_eq_true
def JN:=@Bool.eq_false_iff
def JO:=@Bool.eq_iff_iff
def JP:=@Bool.false_and
def JQ:=@Bool.false_eq_true
def JR:=@Bool.false_or
def JS:=@Bool.not_eq_true
def JT:=@Bool.not_eq_true'
def JU:=@Bool.not_false
def JV:=@Bool.not_true
def JW:=@Bool.or_eq_false_iff
def JX:=@Bool.or_eq_true
def JY:=@Bool.or_false
def JZ:=@Bool.or_true
def J0:=@Bool.true_and
def J1:=@Bool.true_or
def J2:=@Go.Calls.mono
def J3:=@Classical.byContradiction
def J4:=@Classical.choose_spec
def J5:=@Classical.not_and_iff_not_or_not
def J6:=@Classical.not_forall
def J7:=@Classical.not_not
def J8:=@Iff.rfl
def J9:=@Int.eq_ofNat_of_zero_le
def J_:=@Int.le_refl
def Ka:=@Int.lt_irrefl
def Kb:=@Int.not_lt
def Kc:=@Int.one_mul
def Kd:=@Int.toNat_natCast
def Ke:=@Int.toNat_of_nonneg
def Kf:=@List.all_eq_true
def Kg:=@List.any_append
def Kh:=@List.any_eq_false
def Ki:=@List.any_eq_true
def Kj:=@List.append_assoc
def Kk:=@List.append_nil
def Kl:=@List.cons.inj
def Km:=@List.cons_append
def Kn:=@List.contains_eq_any_beq
def Ko:=@List.contains_iff_mem
def Kp:=@List.countP_append
def Kq:=@List.countP_cons
def Kr:=@List.countP_le_length
def Ks:=@List.countP_pos_iff
def Kt:=@List.countP_replicate
def Ku:=@List.countP_set
def Kv:=@List.drop_append
def Kw:=@List.drop_append_of_le_length
def Kx:=@List.drop_drop
def Ky:=@List.drop_eq_getElem_cons
def Kz:=@List.drop_eq_nil_of_le
def KA:=@List.drop_length
def KB:=@List.drop_succ_cons
def KC:=@List.drop_zero
def KD:=@List.eq_nil_of_length_eq_zero
def KE:=@List.ext_getElem
def KF:=@List.ext_getElem?
def KG:=@List.filter_append
def KH:=@List.filter_cons
def KI:=@List.filter_cons_of_neg
def KJ:=@List.filter_cons_of_pos
def KK:=@List.filter_nil
def KL:=@List.findIdx?_eq_none_iff
def KM:=@List.findIdx?_eq_some_iff_getElem
def KN:=@List.flatMap_append
def KO:=@List.flatMap_cons
def KP:=@List.flatten_cons
def KQ:=@List.foldr_cons
def KR:=@List.getD_eq_getElem?_getD
def KT:=@List.getElem?_append_left
def KU:=@List.getElem?_append_right
def KV:=@List.getElem?_cons_succ
def KW:=@List.getElem?_drop
def KX:=@List.getElem?_eq_getElem
def KY:=@List.getElem?_eq_none
def KZ:=@List.getElem?_eq_some_iff
def K0:=@List.getElem?_map
def K1:=@List.getElem?_range
def K2:=@List.getElem?_replicate
def K3:=@List.getElem?_set
def K4:=@List.getElem?_take
def K5:=@List.getElem?_take_of_lt
def K6:=@List.getElem_append_left
def K7:=@List.getElem_append_right
def K8:=@List.getElem_cons_succ
def K9:=@List.getElem_cons_zero
def K_:=@List.getElem_drop
def La:=@List.getElem_map
def Lb:=@List.getElem_mem
def Lc:=@List.getElem_range
def Ld:=@List.getElem_replicate
def Le:=@List.getElem_set
def Lf:=@List.getElem_set_self
def Lg:=@List.getElem_take
def Lh:=@List.idxOf_append
def Li:=@List.idxOf_lt_length_iff
def Lj:=@List.isEmpty_iff
def Lk:=@List.length_append
def Ll:=@List.length_cons
def Lm:=@List.length_drop
def Ln:=@List.length_eq_one_iff
def Lo:=@List.length_erase_of_mem
def Lp:=@List.length_filter_le
def Lq:=@List.length_map
def Lr:=@List.length_nil
def Ls:=@List.length_pos_iff
def Lt:=@List.length_range
def Lu:=@List.length_replicate
def Lv:=@List.length_reverse
def Lx:=@List.length_set
def Ly:=@List.length_singleton
def Lz:=@List.length_take
def LA:=@List.mapM_cons
def LB:=@List.mapM_nil
def LC:=@List.map_append
def LD:=@List.map_congr_left
def LE:=@List.map_cons
def LF:=@List.map_const'
def LG:=@List.map_map
def LH:=@List.map_nil
def LI:=@List.map_replicate
def LJ:=@List.map_toArray
def LK:=@List.mem_append
def LL:=@List.mem_append_left
def LM:=@List.mem_append_right
def LN:=@List.mem_cons
def LO:=@List.mem_cons_of_mem
def LP:=@List.mem_cons_self
def LQ:=@List.mem_erase_of_ne
def LR:=@List.mem_filter
def LS:=@List.mem_flatMap
def LT:=@List.mem_iff_getElem
def LU:=@List.mem_map
def LV:=@List.mem_map_of_mem
def LW:=@List.mem_of_getElem?
def LX:=@List.mem_of_mem_drop
def LY:=@List.mem_of_mem_take
def LZ:=@List.mem_range
def L0:=@List.mem_singleton
def L1:=@List.ne_nil_of_length_pos
def L2:=@List.nil_append
def L3:=@List.nodup_append
def L4:=@List.nodup_cons
def L5:=@List.nodup_range
def L6:=@List.pairwise_append
def L7:=@List.pairwise_cons
def L8:=@List.pairwise_iff_forall_sublist
def L9:=@List.pairwise_iff_getElem
def L_:=@List.pairwise_map
def Ma:=@List.pairwise_singleton
def Mb:=@List.range_succ
def Mc:=@List.replicate_succ
def Md:=@List.replicate_succ'
def Me:=@List.set_eq_take_append_cons_drop
def Mf:=@List.set_getElem_self
def Mg:=@List.singleton_append
def Mh:=@List.size_toArray
def Mi:=@List.sum_cons
def Mj:=@List.take_add_one
def Mk:=@List.take_append_getElem
def Ml:=@List.take_length
def Mm:=@List.take_of_length_le
def Mn:=@List.take_set_of_le
def Mo:=@List.take_succ_cons
def Mp:=@List.take_succ_eq_append_getElem
def Mq:=@List.take_zero
def Mr:=@Go.MapKept.run_getObj_map
def Ms:=@Go.MapKept.run_setObj_map
def Mt:=@Nat.add_assoc
def Mu:=@Nat.add_comm
def Mv:=@Nat.add_mul
def Mw:=@Nat.add_mul_mod_self_right
def Mx:=@Nat.add_right_comm
def My:=@Nat.add_sub_cancel_left
def Mz:=@Nat.add_zero
def MA:=@Nat.beq_refl
def MB:=@Nat.div_eq_of_lt
def MC:=@Nat.div_lt_iff_lt_mul
def MD:=@Nat.eq_of_beq_eq_true
def MF:=@Nat.eq_of_testBit_eq
def MH:=@Nat.eq_zero_or_pos
def MI:=@Nat.exists_eq_add_of_le
def MJ:=@Nat.le_of_ble_eq_true
def MK:=@Nat.le_of_not_lt
def MM:=@Nat.le_refl
def MN:=@Nat.le_trans
def MO:=@Nat.lt_irrefl
def MP:=@Nat.lt_of_le_of_lt
def MQ:=@Nat.lt_of_lt_of_le
def MR:=@Nat.lt_or_ge
def MS:=@Nat.min_eq_left
def MT:=@Nat.mod_eq_of_lt
def MU:=@Nat.mod_lt
def MV:=@Nat.mul_le_mul
def MW:=@Nat.mul_le_mul_left
def MX:=@Nat.mul_le_mul_right
def MY:=@Nat.mul_one
def MZ:=@Nat.not_lt_zero
def M0:=@Nat.one_le_two_pow
def M1:=@Nat.one_mul
def M2:=@Nat.one_shiftLeft
def M3:=@Nat.or_lt_two_pow
def M4:=@Nat.pow_le_pow_right
def M5:=@Nat.pow_lt_pow_right
def M6:=@Nat.shiftRight_eq_div_pow
def M7:=@Nat.shiftRight_le
def M8:=@Nat.sub_self
def M9:=@Nat.succ_le_of_lt
def M_:=@Nat.testBit_and
def Na:=@Nat.testBit_shiftRight
def Nb:=@Nat.zero_add
def Nc:=@Nat.zero_le
def Nd:=@Nat.zero_testBit
def Nf:=@Ne.symm
def Ng:=@Go.Oper.wp_mono
def Nh:=@Option.bind_eq_bind
def Ni:=@Option.bind_eq_some_iff
def Nj:=@Option.bind_some
def Nk:=@Option.getD_some
def Nl:=@Option.map_eq_some_iff
def Nm:=@Option.pure_def
def Nn:=@Option.some.inj
def No:=@Option.some.injEq
def Np:=@Prod.mk.inj
def Nq:=@Prod.mk.injEq
def Nr:=@Go.Program.keyLits.eq_def
def Ns:=@Go.Region.free_spec
def Nt:=@Go.Region.noSelect_spec
def Nu:=@Go.Result.andThen_ok
def Nv:=@Go.Sem.run_bind
def Nx:=@Go.Sem.run_pure
def Ny:=@Go.Proofs.Tryz.func81
def Nz:=@Go.Proofs.Tryz.isAgg3
def NA:=@Go.Proofs.Tryz.ntmps81
def NB:=@Go.Proofs.Tryz.sizeOf3
def NC:=@Go.Proofs.Tryz.underlying124
def ND:=@Go.Proofs.Tryz.underlying132
def NE:=@Go.Proofs.Tryz.underlying169
def NF:=@Go.Proofs.Tryz.underlying174
def NG:=@Go.Proofs.Tryz.underlying22
def NH:=@Go.Proofs.Tryz.underlying23
def NI:=@Go.Proofs.Tryz.underlying232
def NJ:=@Go.Proofs.Tryz.underlying234
def NK:=@Go.Proofs.Tryz.underlying27
def NL:=@Go.Proofs.Tryz.underlying29
def NM:=@Go.Proofs.Tryz.underlying3
def NO:=@Go.Proofs.Tryz.underlying30
def NP:=@Go.Proofs.Tryz.underlying33
def NQ:=@Go.Proofs.Tryz.underlying37
def NR:=@Go.Proofs.Tryz.underlying38
def NS:=@Go.Proofs.Tryz.underlying4
def NT:=@Go.Proofs.Tryz.underlying51
def NU:=@Go.Proofs.Tryz.underlying52
def NV:=@Go.Proofs.Tryz.underlying55
def NW:=@Go.Proofs.Tryz.underlying59
def NX:=@Go.Proofs.Tryz.underlying61
def NY:=@Go.Proofs.Tryz.underlying82
def NZ:=@Go.Proofs.Tryz.underlying88
def N0:=@Go.Proofs.Tryz.underlying9
def N4:=@Go.Proofs.Tryz.underlying95
def N5:=@Go.Value.slice.inj
def N6:=@Go.WideShapes.add_plain
def N7:=@Go.World.block_lt_of_cell?
def N8:=@and_assoc
def N9:=@and_congr
def N_:=@and_congr_right
def Oa:=@beq_eq_false_iff_ne
def Ob:=@beq_iff_eq
def Oc:=@beq_self_eq_true
def Od:=@Go.bits_and_u64_nat
def Oe:=@bne_iff_ne
def Of:=@Go.bodyPost_ret
def Og:=@Go.cell_of_row
def Oh:=@congrArg
def Oi:=@decide_eq_decide
def Oj:=@decide_eq_false
def Ok:=@decide_eq_false_iff_not
def Ol:=@decide_eq_true
def Om:=@decide_eq_true_eq
def On:=@decide_eq_true_iff
def Oo:=@dif_pos
def Oq:=@gt_iff_lt
def Or:=@Go.heap_alloc_new
def Ot:=@if_false
def Ou:=@if_neg
def Ov:=@if_pos
def Ow:=@if_true
def Ox:=@Go.mem_ready
def Oy:=@not_congr
def Oz:=@not_or
def OA:=@of_decide_eq_false
def OC:=@of_decide_eq_true
def OD:=@or_congr
def OE:=@Go.ready_mono
def OF:=@Go.run_loadCells_list
def OG:=@Go.run_program
def OH:=@Go.run_storeCells_at
def OI:=@Go.run_underlying
def OJ:=@Go.setRow_heap
def OK:=@Go.setRow_other
def OL:=@Go.wpAnyH_all
def OM:=@Go.wpList_step
def ON:=@Go.wpOp_mono
def OO:=@Go.wpQuiet_step
def OP:=@Go.wp_mono
def OQ:=@Go.wp_region_any
theorem O3{p:Prop}(s:p:=by exact fun _=>rfl):p:=s
theorem O4{p:Prop}(s:p:=by exact fun v γ γ' w w' h e _=>h.ext e):p:=s
theorem O5{p:Prop}(s:p:=by exact fun g hg=>by cases hg;exact MM _):p:=s
theorem O6{p:Prop}(s:p:=by exact fun _ h=>h.elim):p:=s
theorem O7{p:Prop}(s:p:=by exact fun g hg=>by cases hg;omega):p:=s
theorem O8{p:Prop}(s:p:=by exact fun _ h=>h):p:=s
theorem O9{p:Prop}(s:p:=by exact fun _ _=>⟨none,0,rfl,by simp,by simp[maxLen],fun _=>rfl,fun i hi=>absurd hi (by simp)⟩):p:=s
theorem O_{p:Prop}(s:p:=by exact fun k h=>by cases h):p:=s
theorem Pa{p:Prop}(s:p:=by exact fun e=>by have:=Nn e;omega):p:=s
theorem Pb{p:Prop}(s:p:=by exact fun g hg=>by cases hg;exact .inl rfl):p:=s
theorem Pc{p:Prop}(s:p:=by exact fun _ _=>rfl):p:=s
theorem Pd{p:Prop}(s:p:=by exact AS rfl):p:=s
theorem Pe{p:Prop}(s:p:=by exact Rd.mkInt _ _ _):p:=s
theorem Pf{p:Prop}(s:p:=by exact MM _):p:=s
theorem Pg{p:Prop}(s:p:=by exact JJ _ _):p:=s
theorem Ph{p:Prop}(s:p:=by exact Ext.refl _):p:=s
theorem Pi{p:Prop}(s:p:=by exact WL.nil (a8 rfl (Ext.refl _) rfl)):p:=s
theorem OR{p:Prop}(s:p:=by repeat (first|exact trivial|refine⟨rfl,?_⟩)):p:=s
theorem OS{p:Prop}(s:p:=by omega):p:=s
theorem OT{p:Prop}(s:p:=by kernel_rfl):p:=s
theorem OU{p:Prop}(s:p:=by decide):p:=s
theorem OW{p:Prop}(s:p:=by simp):p:=s
theorem OX{p:Prop}(s:p:=by dsimp only;omega):p:=s
theorem OY{p:Prop}(s:p:=by unfold maxLen;omega):p:=s
theorem OZ{p:Prop}(s:p:=by simp;omega):p:=s
theorem O0{p:Prop}(s:p:=by simp only[Ll,Lr];omega):p:=s
theorem O1{p:Prop}(s:p:=by simp only[Lk,Ll,Lr];omega):p:=s
theorem O2{p:Prop}(s:p:=by rw[Lq];omega):p:=s
theorem Pl{p q:Prop}(k:q)(s:Hid_ q→p:=by intro k;(repeat (first|(apply fp;rfl;rfl;rfl)|(apply WL.nil)|(apply bx)|(apply CW.seq)|(apply CW.region)|(apply CW.ret)|(apply bz)|(apply aY)));exact k.o):p:=s ⟨k⟩
theorem Pm{p q:Prop}(k:q)(s:Hid_ q→p:=by intro k;(repeat (first|(apply CW.seq)|(apply CW.region)));exact k.o):p:=s ⟨k⟩
theorem Pn{p q:Prop}(k:q)(s:Hid_ q→p:=by intro k;(repeat (apply bx));exact k.o):p:=s ⟨k⟩
theorem Po{p q:Prop}(k:q)(s:Hid_ q→p:=by intro k;(repeat (apply CW.skip));exact k.o):p:=s ⟨k⟩
theorem Pp{p q:Prop}(k:q)(s:Hid_ q→p:=by intro k;(repeat (first|(apply fp;rfl;rfl;rfl)|(apply WL.nil)|(apply WL.pass;rfl;rfl)));exact k.o):p:=s ⟨k⟩
theorem Pq{p q:Prop}(k:q)(s:Hid_ q→p:=by intro k;(repeat (first|(apply WL.add;rfl;rfl;rfl;rfl;omega;omega)|(apply fp;rfl;rfl;rfl)|(apply WL.nil)|(apply bx)|(apply CW.region)|(apply aX)|(apply CW.skip)));exact k.o):p:=s ⟨k⟩
theorem Pr{p q:Prop}(k:q)(s:Hid_ q→p:=by intro k;(repeat (first|(apply fp;rfl;rfl;rfl)|(apply WL.nil)|(apply bx)|(apply CW.ret)));exact k.o):p:=s ⟨k⟩
theorem Pt{p q:Prop}(k:q)(s:Hid_ q→p:=by intro k;(repeat (first|(apply fp;rfl;rfl;rfl)|(apply WL.nil)|(apply bx)|(apply WL.pass;rfl;rfl)|(apply CW.ret)));exact k.o):p:=s ⟨k⟩
theorem Pu{p q:Prop}(k:q)(s:Hid_ q→p:=by intro k;(repeat (first|(apply fp;rfl;rfl;rfl)|(apply WL.nil)|(apply bx)|(apply CW.seq)|(apply CW.region)|(apply WL.pass;rfl;rfl)|(apply ax;rfl)|(apply CW.ret)|(apply bz)|(apply aY)));exact k.o):p:=s ⟨k⟩
theorem Pv{p q:Prop}(k:q)(s:Hid_ q→p:=by intro k;(repeat (first|(apply fp;rfl;rfl;rfl)|(apply WL.nil)|(apply bx)));exact k.o):p:=s ⟨k⟩
theorem Pw{p q:Prop}(k:q)(s:Hid_ q→p:=by intro k;(repeat (first|(apply fp;rfl;rfl;rfl)|(apply WL.nil)|(apply bx)|(apply CW.seq)|(apply CW.region)|(apply eO;rfl;rfl;rfl;assumption;rfl)));exact k.o):p:=s ⟨k⟩
theorem Px{p q:Prop}(k:q)(s:Hid_ q→p:=by intro k;(repeat (first|(apply WL.nil)|(apply bx)|(apply CW.ret)));exact k.o):p:=s ⟨k⟩
theorem Py{p q:Prop}(k:q)(s:Hid_ q→p:=by intro k;(repeat (first|(apply WL.add;rfl;rfl;rfl;rfl;omega;omega)|(apply QL.add;rfl;rfl;rfl;rfl;omega;omega)|(apply fE;rfl;rfl;rfl;rfl;omega;omega)|(apply dC;rfl;rfl;rfl;rfl;omega;omega)|(apply WL.mul;rfl;rfl;rfl;rfl;omega;omega)|(apply QL.mul;rfl;rfl;rfl;rfl;omega;omega)|(apply fp;rfl;rfl;rfl)|(apply dA;rfl;rfl;rfl)|(apply WL.nil)|(apply bx)|(apply CW.seq)|(apply CW.region)|(apply WL.pass;rfl;rfl)|(apply QL.pass;rfl;rfl)|(apply eH;rfl;rfl;rfl;rfl)|(apply QL.eqB;rfl;rfl;rfl;rfl)|(apply WL.neB;rfl;rfl;rfl;rfl)|(apply QL.neB;rfl;rfl;rfl;rfl)|(apply eR;rfl;rfl;rfl)|(apply du;rfl;rfl;rfl)|(apply WL.makeFunc;rfl;rfl;rfl;rfl)|(apply QL.makeFunc;rfl;rfl;rfl;rfl)|(apply eI;rfl;rfl;rfl)|(apply dp;rfl;rfl;rfl)|(apply fi;rfl;rfl;rfl)|(apply dx;rfl;rfl;rfl)|(apply eN;rfl;rfl;rfl;assumption;rfl)|(apply dr;rfl;rfl;rfl;assumption;rfl)|(apply eO;rfl;rfl;rfl;assumption;rfl)|(apply dt;rfl;rfl;rfl;assumption;rfl)|(apply CW.block)|(apply aX)|(apply ax;rfl)|(apply aw;rfl)|(apply CW.exit)|(apply bA)|(apply aZ)|(apply a7;rfl)|(apply CW.ret)|(apply bz)|(apply aY)|(apply CW.skip)|(refine eQ rfl rfl rfl (by assumption) ?_)|(apply eM;rfl;rfl;rfl)));exact k.o):p:=s ⟨k⟩
theorem Pz{p q:Prop}(k:q)(s:Hid_ q→p:=by intro k;(repeat (first|(apply bx)|(apply CW.ret)));exact k.o):p:=s ⟨k⟩
theorem PA{p q:Prop}(k:q)(s:Hid_ q→p:=by intro k;(repeat (first|(apply fp;rfl;rfl;rfl)|(apply WL.nil)|(apply bx)|(apply CW.seq)|(apply CW.region)|(apply CW.block)|(apply CW.skip)));exact k.o):p:=s ⟨k⟩
theorem PB{p q:Prop}(k:q)(s:Hid_ q→p:=by intro k;(repeat (first|(apply fp;rfl;rfl;rfl)|(apply CW.seq)|(apply CW.region)));exact k.o):p:=s ⟨k⟩
theorem PC{p q:Prop}(k:q)(s:Hid_ q→p:=by intro k;(repeat (first|(apply fp;rfl;rfl;rfl)|(apply CW.region)));exact k.o):p:=s ⟨k⟩
theorem PD{p q:Prop}(k:q)(s:Hid_ q→p:=by intro k;(repeat (apply CW.seq));exact k.o):p:=s ⟨k⟩
theorem PE{p q:Prop}(k:q)(s:Hid_ q→p:=by intro k;(repeat (first|(apply ax;rfl)|(apply CW.skip)));exact k.o):p:=s ⟨k⟩
theorem PG{p q:Prop}(k:q)(s:Hid_ q→p:=by intro k;(repeat (first|(apply fp;rfl;rfl;rfl)|(apply WL.nil)|(apply bx)|(apply CW.seq)|(apply CW.region)|(apply CW.exit)|(apply bA)|(apply aZ)|(apply CW.ret)));exact k.o):p:=s ⟨k⟩
theorem PH{p q:Prop}(k:q)(s:Hid_ q→p:=by intro k;(repeat (first|(apply fp;rfl;rfl;rfl)|(apply WL.nil)|(apply bx)|(apply WL.pass;rfl;rfl)|(apply CW.ret)|(apply bz)|(apply aY)));exact k.o):p:=s ⟨k⟩
theorem PI{p q:Prop}(k:q)(s:Hid_ q→p:=by intro k;(repeat (first|(apply WL.add;rfl;rfl;rfl;rfl;omega;omega)|(apply fp;rfl;rfl;rfl)|(apply WL.nil)|(apply bx)|(apply CW.region)|(apply aX)));exact k.o):p:=s ⟨k⟩
theorem PJ{p q:Prop}(k:q)(s:Hid_ q→p:=by intro k;(repeat (first|(apply WL.add;rfl;rfl;rfl;rfl;omega;omega)|(apply fp;rfl;rfl;rfl)|(apply WL.nil)|(apply bx)|(apply CW.region)|(apply aX)|(apply CW.exit)|(apply bA)|(apply aZ)));exact k.o):p:=s ⟨k⟩
theorem PK{p q:Prop}(k:q)(s:Hid_ q→p:=by intro k;(repeat (first|(apply fp;rfl;rfl;rfl)|(apply WL.nil)|(apply bx)|(apply CW.seq)|(apply CW.region)|(apply WL.makeFunc;rfl;rfl;rfl;rfl)));exact k.o):p:=s ⟨k⟩
theorem PL{p q:Prop}(k:q)(s:Hid_ q→p:=by intro k;(repeat (first|(apply fp;rfl;rfl;rfl)|(apply WL.nil)|(apply bx)|(apply CW.ret)|(apply bz)));exact k.o):p:=s ⟨k⟩
theorem PM{p q:Prop}(k:q)(s:Hid_ q→p:=by intro k;(repeat (first|(apply fp;rfl;rfl;rfl)|(apply WL.nil)|(apply bx)|(apply CW.seq)|(apply CW.region)|(apply WL.makeFunc;rfl;rfl;rfl;rfl)|(apply eI;rfl;rfl;rfl)|(apply eN;rfl;rfl;rfl;assumption;rfl)|(apply CW.block)|(apply ax;rfl)|(apply aw;rfl)));exact k.o):p:=s ⟨k⟩
theorem PN{p q:Prop}(k:q)(s:Hid_ q→p:=by intro k;(repeat (first|(apply bx)|(apply CW.ret)|(apply bz)|(apply aY)));exact k.o):p:=s ⟨k⟩
theorem PO{p q:Prop}(k:q)(s:Hid_ q→p:=by intro k;(repeat (first|(apply fE;rfl;rfl;rfl;rfl;omega;omega)|(apply fp;rfl;rfl;rfl)|(apply WL.nil)|(apply bx)|(apply CW.seq)|(apply CW.region)|(apply eN;rfl;rfl;rfl;assumption;rfl)|(apply CW.block)|(apply CW.skip)|(refine eQ rfl rfl rfl (by assumption) ?_)));exact k.o):p:=s ⟨k⟩
theorem PP{p q:Prop}(k:q)(s:Hid_ q→p:=by intro k;(repeat (first|(apply fp;rfl;rfl;rfl)|(apply WL.nil)|(apply bx)|(apply CW.region)));exact k.o):p:=s ⟨k⟩
theorem PQ{p q:Prop}(k:q)(s:Hid_ q→p:=by intro k;(repeat (first|(apply WL.add;rfl;rfl;rfl;rfl;omega;omega)|(apply fp;rfl;rfl;rfl)|(apply WL.nil)|(apply bx)|(apply CW.seq)|(apply CW.region)|(apply eI;rfl;rfl;rfl)|(apply fi;rfl;rfl;rfl)|(apply eN;rfl;rfl;rfl;assumption;rfl)|(apply aX)));exact k.o):p:=s ⟨k⟩
theorem PS{p q:Prop}(k:q)(s:Hid_ q→p:=by intro k;(repeat (first|(apply fp;rfl;rfl;rfl)|(apply WL.nil)|(apply bx)|(apply eR;rfl;rfl;rfl)|(apply CW.block)));exact k.o):p:=s ⟨k⟩
theorem PT{p q:Prop}(k:q)(s:Hid_ q→p:=by intro k;(repeat (first|(apply fp;rfl;rfl;rfl)|(apply WL.nil)|(apply bx)|(apply CW.seq)|(apply CW.region)|(apply aw;rfl)|(apply CW.skip)));exact k.o):p:=s ⟨k⟩
theorem PU{p q:Prop}(k:q)(s:Hid_ q→p:=by intro k;(repeat (first|(apply fp;rfl;rfl;rfl)|(apply WL.nil)|(apply bx)|(apply CW.seq)|(apply CW.region)|(apply eI;rfl;rfl;rfl)|(apply fi;rfl;rfl;rfl)|(apply eN;rfl;rfl;rfl;assumption;rfl)|(apply eO;rfl;rfl;rfl;assumption;rfl)|(apply aw;rfl)|(apply CW.ret)|(apply CW.skip)));exact k.o):p:=s ⟨k⟩
theorem PV{p q:Prop}(k:q)(s:Hid_ q→p:=by intro k;(repeat (first|(apply WL.nil)|(apply bx)|(apply CW.seq)|(apply CW.region)|(apply eO;rfl;rfl;rfl;assumption;rfl)));exact k.o):p:=s ⟨k⟩
theorem PW{p q:Prop}(k:q)(s:Hid_ q→p:=by intro k;(repeat (first|(apply fp;rfl;rfl;rfl)|(apply WL.nil)|(apply bx)|(apply CW.seq)|(apply CW.region)|(apply aw;rfl)));exact k.o):p:=s ⟨k⟩
theorem PX{p q:Prop}(k:q)(s:Hid_ q→p:=by intro k;(repeat (first|(apply WL.add;rfl;rfl;rfl;rfl;omega;omega)|(apply fp;rfl;rfl;rfl)|(apply bx)|(apply CW.seq)|(apply CW.region)|(apply eR;rfl;rfl;rfl)|(apply eI;rfl;rfl;rfl)|(apply fi;rfl;rfl;rfl)|(apply eN;rfl;rfl;rfl;assumption;rfl)|(apply CW.exit)|(apply bA)|(apply aZ)|(apply a7;rfl)));exact k.o):p:=s ⟨k⟩
theorem PY{p q:Prop}(k:q)(s:Hid_ q→p:=by intro k;(repeat (first|(apply fE;rfl;rfl;rfl;rfl;omega;omega)|(apply fp;rfl;rfl;rfl)|(apply WL.nil)|(apply bx)|(apply eR;rfl;rfl;rfl)|(apply eI;rfl;rfl;rfl)|(apply eN;rfl;rfl;rfl;assumption;rfl)));exact k.o):p:=s ⟨k⟩
theorem PZ{p q:Prop}(k:q)(s:Hid_ q→p:=by intro k;(repeat (first|(apply aX)|(apply CW.exit)|(apply bA)|(apply aZ)));exact k.o):p:=s ⟨k⟩
theorem P0{p q:Prop}(k:q)(s:Hid_ q→p:=by intro k;(repeat (first|(apply fp;rfl;rfl;rfl)|(apply CW.seq)|(apply CW.region)|(apply eO;rfl;rfl;rfl;assumption;rfl)|(apply ax;rfl)));exact k.o):p:=s ⟨k⟩
theorem P1{p q:Prop}(k:q)(s:Hid_ q→p:=by intro k;(repeat (first|(apply bx)|(apply CW.seq)|(apply CW.region)|(apply eO;rfl;rfl;rfl;assumption;rfl)|(apply CW.skip)));exact k.o):p:=s ⟨k⟩
theorem P2{p q:Prop}(k:q)(s:Hid_ q→p:=by intro k;(repeat (first|(apply fp;rfl;rfl;rfl)|(apply WL.nil)|(apply bx)|(apply CW.seq)|(apply CW.region)|(apply eR;rfl;rfl;rfl)|(apply eI;rfl;rfl;rfl)|(apply fi;rfl;rfl;rfl)|(apply eN;rfl;rfl;rfl;assumption;rfl)|(apply CW.block)|(apply aw;rfl)|(apply CW.skip)));exact k.o):p:=s ⟨k⟩
theorem P3{p q:Prop}(k:q)(s:Hid_ q→p:=by intro k;(repeat (first|(apply fp;rfl;rfl;rfl)|(apply bx)|(apply CW.seq)|(apply CW.region)|(apply eI;rfl;rfl;rfl)|(apply fi;rfl;rfl;rfl)|(apply eN;rfl;rfl;rfl;assumption;rfl)|(apply ax;rfl)));exact k.o):p:=s ⟨k⟩
theorem P4{p q:Prop}(k:q)(s:Hid_ q→p:=by intro k;(repeat (first|(apply fp;rfl;rfl;rfl)|(apply WL.nil)|(apply bx)|(apply CW.ret)|(apply bz)|(apply aY)));exact k.o):p:=s ⟨k⟩
theorem P5{p q:Prop}(k:q)(s:Hid_ q→p:=by intro k;(repeat (first|(apply fp;rfl;rfl;rfl)|(apply WL.nil)|(apply bx)|(apply CW.seq)|(apply CW.region)|(apply eR;rfl;rfl;rfl)|(apply CW.block)|(apply CW.exit)|(apply bA)|(apply aZ)|(refine eQ rfl rfl rfl (by assumption) ?_)));exact k.o):p:=s ⟨k⟩
theorem P6{p q:Prop}(k:q)(s:Hid_ q→p:=by intro k;(repeat (first|(apply CW.seq)|(apply CW.region)|(apply ax;rfl)));exact k.o):p:=s ⟨k⟩
theorem P7{p q:Prop}(k:q)(s:Hid_ q→p:=by intro k;(repeat (first|(apply fp;rfl;rfl;rfl)|(apply WL.nil)|(apply bx)|(apply CW.seq)|(apply CW.region)|(apply CW.ret)|(apply bz)));exact k.o):p:=s ⟨k⟩
theorem P8{p q:Prop}(k:q)(s:Hid_ q→p:=by intro k;(repeat (first|(apply bx)|(apply CW.seq)|(apply CW.skip)));exact k.o):p:=s ⟨k⟩
theorem P9{p q:Prop}(k:q)(s:Hid_ q→p:=by intro k;(repeat (first|(apply fp;rfl;rfl;rfl)|(apply bx)|(apply CW.seq)|(apply CW.region)|(apply eO;rfl;rfl;rfl;assumption;rfl)|(apply CW.exit)|(apply bA)|(apply aZ)));exact k.o):p:=s ⟨k⟩
theorem P_{p q:Prop}(k:q)(s:Hid_ q→p:=by intro k;(repeat (first|(apply fp;rfl;rfl;rfl)|(apply WL.nil)|(apply bx)|(apply eI;rfl;rfl;rfl)|(apply eN;rfl;rfl;rfl;assumption;rfl)));exact k.o):p:=s ⟨k⟩
theorem Qa{p q:Prop}(k:q)(s:Hid_ q→p:=by intro k;(repeat (first|(apply fp;rfl;rfl;rfl)|(apply WL.nil)|(apply bx)|(apply CW.seq)|(apply CW.region)|(apply ax;rfl)|(apply CW.ret)|(apply bz)|(apply aY)|(apply CW.skip)));exact k.o):p:=s ⟨k⟩
theorem Qb{p q:Prop}(k:q)(s:Hid_ q→p:=by intro k;(repeat (first|(apply fp;rfl;rfl;rfl)|(apply WL.nil)|(apply bx)|(apply CW.seq)|(apply CW.region)|(apply ax;rfl)));exact k.o):p:=s ⟨k⟩
theorem Qc{p q:Prop}(k:q)(s:Hid_ q→p:=by intro k;(repeat (first|(apply fp;rfl;rfl;rfl)|(apply WL.nil)|(apply bx)|(apply CW.seq)|(apply CW.region)|(apply eR;rfl;rfl;rfl)|(apply eI;rfl;rfl;rfl)|(apply fi;rfl;rfl;rfl)|(apply eN;rfl;rfl;rfl;assumption;rfl)|(apply CW.block)|(apply CW.exit)|(apply bA)|(apply aZ)|(apply CW.ret)));exact k.o):p:=s ⟨k⟩
theorem Qd{p q:Prop}(k:q)(s:Hid_ q→p:=by intro k;(repeat (first|(apply fp;rfl;rfl;rfl)|(apply WL.nil)|(apply bx)|(apply CW.seq)|(apply CW.region)|(apply aX)|(apply CW.ret)|(apply CW.skip)));exact k.o):p:=s ⟨k⟩
theorem Qe{p q:Prop}(k:q)(s:Hid_ q→p:=by intro k;(repeat (first|(apply aX)|(apply CW.skip)));exact k.o):p:=s ⟨k⟩
theorem Qf{p q:Prop}(k:q)(s:Hid_ q→p:=by intro k;(repeat (first|(apply fp;rfl;rfl;rfl)|(apply WL.nil)|(apply aX)));exact k.o):p:=s ⟨k⟩
theorem Qg{p q:Prop}(k:q)(s:Hid_ q→p:=by intro k;(repeat (first|(apply fp;rfl;rfl;rfl)|(apply bx)|(apply CW.seq)|(apply CW.region)|(apply eR;rfl;rfl;rfl)|(apply eI;rfl;rfl;rfl)|(apply eN;rfl;rfl;rfl;assumption;rfl)|(apply aX)|(apply CW.skip)));exact k.o):p:=s ⟨k⟩
theorem Qh{p q:Prop}(k:q)(s:Hid_ q→p:=by intro k;(repeat (first|(apply fp;rfl;rfl;rfl)|(apply WL.nil)|(apply bx)|(apply CW.seq)|(apply CW.region)|(apply eR;rfl;rfl;rfl)|(apply eI;rfl;rfl;rfl)|(apply eN;rfl;rfl;rfl;assumption;rfl)|(apply eO;rfl;rfl;rfl;assumption;rfl)|(apply CW.block)|(apply aX)|(apply aw;rfl)|(apply CW.skip)));exact k.o):p:=s ⟨k⟩
theorem Qi{p q:Prop}(k:q)(s:Hid_ q→p:=by intro k;(repeat (first|(apply WL.add;rfl;rfl;rfl;rfl;omega;omega)|(apply fp;rfl;rfl;rfl)|(apply WL.nil)|(apply bx)|(apply CW.seq)|(apply CW.region)|(apply WL.pass;rfl;rfl)|(apply eO;rfl;rfl;rfl;assumption;rfl)|(apply eM;rfl;rfl;rfl)));exact k.o):p:=s ⟨k⟩
theorem Qj{p q:Prop}(k:q)(s:Hid_ q→p:=by intro k;(repeat (first|(apply fp;rfl;rfl;rfl)|(apply CW.seq)|(apply CW.region)|(apply eI;rfl;rfl;rfl)|(apply eN;rfl;rfl;rfl;assumption;rfl)));exact k.o):p:=s ⟨k⟩
theorem Qk{p q:Prop}(k:q)(s:Hid_ q→p:=by intro k;(repeat (first|(apply fp;rfl;rfl;rfl)|(apply WL.nil)|(apply bx)|(apply eH;rfl;rfl;rfl;rfl)|(apply eR;rfl;rfl;rfl)|(apply CW.ret)));exact k.o):p:=s ⟨k⟩
theorem Ql{p q:Prop}(k:q)(s:Hid_ q→p:=by intro k;(repeat (first|(apply fp;rfl;rfl;rfl)|(apply WL.nil)|(apply bx)|(apply CW.seq)|(apply CW.region)|(apply WL.pass;rfl;rfl)|(apply ax;rfl)|(apply CW.exit)|(apply bA)|(apply aZ)|(apply a7;rfl)|(apply CW.skip)));exact k.o):p:=s ⟨k⟩
theorem Qm{p q:Prop}(k:q)(s:Hid_ q→p:=by intro k;(repeat (first|(apply fp;rfl;rfl;rfl)|(apply WL.nil)|(apply bx)|(apply CW.seq)|(apply CW.region)|(apply WL.pass;rfl;rfl)|(apply eI;rfl;rfl;rfl)|(apply eN;rfl;rfl;rfl;assumption;rfl)|(apply eO;rfl;rfl;rfl;assumption;rfl)|(apply ax;rfl)));exact k.o):p:=s ⟨k⟩
theorem Qn{p q:Prop}(k:q)(s:Hid_ q→p:=by intro k;(repeat (first|(apply fp;rfl;rfl;rfl)|(apply WL.nil)|(apply bx)|(apply CW.seq)|(apply CW.region)|(apply eI;rfl;rfl;rfl)|(apply fi;rfl;rfl;rfl)|(apply eN;rfl;rfl;rfl;assumption;rfl)|(apply CW.ret)));exact k.o):p:=s ⟨k⟩
theorem Qo{p q:Prop}(k:q)(s:Hid_ q→p:=by intro k;(repeat (first|(apply bx)|(apply CW.seq)|(apply CW.region)|(apply CW.block)|(apply CW.skip)));exact k.o):p:=s ⟨k⟩
theorem Qp{p q:Prop}(k:q)(s:Hid_ q→p:=by intro k;(repeat (first|(apply fp;rfl;rfl;rfl)|(apply WL.nil)|(apply bx)|(apply CW.seq)|(apply CW.region)|(apply eR;rfl;rfl;rfl)|(apply CW.block)));exact k.o):p:=s ⟨k⟩
theorem Qq{p q:Prop}(k:q)(s:Hid_ q→p:=by intro k;(repeat (first|(apply fp;rfl;rfl;rfl)|(apply WL.nil)|(apply bx)|(apply CW.seq)|(apply CW.region)|(apply eR;rfl;rfl;rfl)|(apply WL.makeFunc;rfl;rfl;rfl;rfl)|(apply eI;rfl;rfl;rfl)|(apply fi;rfl;rfl;rfl)|(apply eN;rfl;rfl;rfl;assumption;rfl)|(apply CW.block)|(apply ax;rfl)));exact k.o):p:=s ⟨k⟩
theorem Qr{p q:Prop}(k:q)(s:Hid_ q→p:=by intro k;(repeat (first|(apply fp;rfl;rfl;rfl)|(apply WL.nil)|(apply bx)|(apply CW.seq)|(apply CW.region)|(apply WL.pass;rfl;rfl)|(apply ax;rfl)|(apply CW.ret)|(apply bz)));exact k.o):p:=s ⟨k⟩
theorem Qs{p q:Prop}(k:q)(s:Hid_ q→p:=by intro k;(repeat (first|(apply WL.add;rfl;rfl;rfl;rfl;omega;omega)|(apply fp;rfl;rfl;rfl)|(apply WL.nil)|(apply bx)|(apply CW.seq)|(apply CW.region)|(apply WL.pass;rfl;rfl)|(apply eR;rfl;rfl;rfl)|(apply eI;rfl;rfl;rfl)|(apply eN;rfl;rfl;rfl;assumption;rfl)|(apply CW.block)|(apply ax;rfl)|(apply aw;rfl)|(apply CW.ret)|(apply bz)|(apply aY)));exact k.o):p:=s ⟨k⟩
theorem Qt{p q:Prop}(k:q)(s:Hid_ q→p:=by intro k;(repeat (first|(apply fp;rfl;rfl;rfl)|(apply WL.nil)|(apply bx)|(apply CW.seq)|(apply CW.region)|(apply eO;rfl;rfl;rfl;assumption;rfl)|(apply CW.block)|(apply aw;rfl)|(apply CW.skip)));exact k.o):p:=s ⟨k⟩
theorem Qu{p q:Prop}(k:q)(s:Hid_ q→p:=by intro k;(repeat (first|(apply fp;rfl;rfl;rfl)|(apply WL.nil)|(apply bx)|(apply CW.seq)|(apply CW.region)|(apply CW.block)|(refine eQ rfl rfl rfl (by assumption) ?_)));exact k.o):p:=s ⟨k⟩
theorem Qv{p q:Prop}(k:q)(s:Hid_ q→p:=by intro k;(repeat (first|(apply fp;rfl;rfl;rfl)|(apply bx)|(apply CW.seq)|(apply CW.region)|(apply CW.block)|(apply CW.skip)));exact k.o):p:=s ⟨k⟩
theorem Qw{p q:Prop}(k:q)(s:Hid_ q→p:=by intro k;(repeat (first|(apply fp;rfl;rfl;rfl)|(apply WL.nil)|(apply bx)|(apply CW.seq)|(apply CW.region)));exact k.o):p:=s ⟨k⟩
theorem Qx{p q:Prop}(k:q)(s:Hid_ q→p:=by intro k;(repeat (first|(apply CW.seq)|(apply CW.region)|(apply eI;rfl;rfl;rfl)|(apply eN;rfl;rfl;rfl;assumption;rfl)|(apply eO;rfl;rfl;rfl;assumption;rfl)));exact k.o):p:=s ⟨k⟩
theorem Qy{p q:Prop}(k:q)(s:Hid_ q→p:=by intro k;(repeat (first|(apply bx)|(apply CW.seq)|(apply CW.block)|(apply aX)|(apply CW.exit)|(apply bA)|(apply aZ)|(apply CW.skip)));exact k.o):p:=s ⟨k⟩
theorem Qz{p q:Prop}(k:q)(s:Hid_ q→p:=by intro k;(repeat (first|(apply bx)|(apply CW.seq)|(apply CW.region)|(apply aX)|(apply aw;rfl)|(apply CW.skip)));exact k.o):p:=s ⟨k⟩
theorem QA{p q:Prop}(k:q)(s:Hid_ q→p:=by intro k;(repeat (first|(apply fE;rfl;rfl;rfl;rfl;omega;omega)|(apply fp;rfl;rfl;rfl)|(apply WL.nil)|(apply bx)|(apply CW.seq)|(apply CW.region)|(apply eR;rfl;rfl;rfl)|(apply CW.block)|(apply aX)|(apply aw;rfl)|(apply CW.skip)));exact k.o):p:=s ⟨k⟩
theorem QB{p q:Prop}(k:q)(s:Hid_ q→p:=by intro k;(repeat (first|(apply WL.nil)|(apply bx)));exact k.o):p:=s ⟨k⟩
theorem QC{p q:Prop}(k:q)(s:Hid_ q→p:=by intro k;(repeat (first|(apply WL.add;rfl;rfl;rfl;rfl;omega;omega)|(apply fp;rfl;rfl;rfl)|(apply WL.nil)|(apply bx)|(apply CW.seq)|(apply CW.region)|(apply WL.makeFunc;rfl;rfl;rfl;rfl)|(apply aX)|(apply aw;rfl)|(apply CW.exit)|(apply bA)|(apply aZ)|(apply a7;rfl)|(apply CW.ret)|(apply CW.skip)));exact k.o):p:=s ⟨k⟩
theorem QD{p q:Prop}(k:q)(s:Hid_ q→p:=by intro k;(repeat (first|(apply WL.add;rfl;rfl;rfl;rfl;omega;omega)|(apply fp;rfl;rfl;rfl)|(apply WL.nil)|(apply bx)|(apply CW.region)|(apply aX)|(apply ax;rfl)|(apply aw;rfl)|(apply CW.skip)));exact k.o):p:=s ⟨k⟩
theorem QE{p q:Prop}(k:q)(s:Hid_ q→p:=by intro k;(repeat (first|(apply fp;rfl;rfl;rfl)|(apply WL.nil)|(apply bx)|(apply CW.seq)|(apply CW.region)|(apply eI;rfl;rfl;rfl)|(apply eN;rfl;rfl;rfl;assumption;rfl)));exact k.o):p:=s ⟨k⟩
theorem QF{p q:Prop}(k:q)(s:Hid_ q→p:=by intro k;(repeat (first|(apply WL.add;rfl;rfl;rfl;rfl;omega;omega)|(apply fp;rfl;rfl;rfl)|(apply WL.nil)|(apply bx)|(apply CW.seq)|(apply CW.region)|(apply WL.pass;rfl;rfl)|(apply aX)|(apply aw;rfl)|(apply CW.ret)|(apply CW.skip)));exact k.o):p:=s ⟨k⟩
theorem QG{p q:Prop}(k:q)(s:Hid_ q→p:=by intro k;(repeat (first|(apply bx)|(apply CW.seq)|(apply CW.region)|(apply WL.makeFunc;rfl;rfl;rfl;rfl)|(apply eI;rfl;rfl;rfl)|(apply eN;rfl;rfl;rfl;assumption;rfl)|(apply eO;rfl;rfl;rfl;assumption;rfl)|(apply CW.exit)|(apply bA)|(apply aZ)|(apply CW.skip)));exact k.o):p:=s ⟨k⟩
theorem QH{p q:Prop}(k:q)(s:Hid_ q→p:=by intro k;(repeat (first|(apply fp;rfl;rfl;rfl)|(apply WL.nil)|(apply bx)|(apply CW.seq)|(apply CW.region)|(apply eR;rfl;rfl;rfl)|(apply eI;rfl;rfl;rfl)|(apply fi;rfl;rfl;rfl)|(apply eN;rfl;rfl;rfl;assumption;rfl)|(apply CW.block)));exact k.o):p:=s ⟨k⟩
theorem QI{p q:Prop}(k:q)(s:Hid_ q→p:=by intro k;(repeat (first|(apply WL.add;rfl;rfl;rfl;rfl;omega;omega)|(apply QL.add;rfl;rfl;rfl;rfl;omega;omega)|(apply fE;rfl;rfl;rfl;rfl;omega;omega)|(apply dC;rfl;rfl;rfl;rfl;omega;omega)|(apply WL.mul;rfl;rfl;rfl;rfl;omega;omega)|(apply QL.mul;rfl;rfl;rfl;rfl;omega;omega)|(apply fp;rfl;rfl;rfl)|(apply dA;rfl;rfl;rfl)|(apply WL.nil)|(apply bx)|(apply CW.seq)|(apply CW.region)|(apply WL.pass;rfl;rfl)|(apply QL.pass;rfl;rfl)|(apply eH;rfl;rfl;rfl;rfl)|(apply QL.eqB;rfl;rfl;rfl;rfl)|(apply WL.neB;rfl;rfl;rfl;rfl)|(apply QL.neB;rfl;rfl;rfl;rfl)|(apply eR;rfl;rfl;rfl)|(apply du;rfl;rfl;rfl)|(apply WL.makeFunc;rfl;rfl;rfl;rfl)|(apply QL.makeFunc;rfl;rfl;rfl;rfl)|(apply eI;rfl;rfl;rfl)|(apply dp;rfl;rfl;rfl)|(apply fi;rfl;rfl;rfl)|(apply dx;rfl;rfl;rfl)|(apply eN;rfl;rfl;rfl;assumption;rfl)|(apply dr;rfl;rfl;rfl;assumption;rfl)|(apply eO;rfl;rfl;rfl;assumption;rfl)|(apply dt;rfl;rfl;rfl;assumption;rfl)|(apply CW.block)|(apply aX)|(apply ax;rfl)|(apply aw;rfl)|(apply CW.exit)|(apply bA)|(apply aZ)|(apply a7;rfl)|(apply CW.ret)|(apply bz)|(apply aY)|(apply CW.skip)|(refine eQ rfl rfl rfl (by assumption) ?_)|(apply eM;rfl;rfl;rfl)|(apply aC;exact mixed;kernel_rfl)));exact k.o):p:=s ⟨k⟩
theorem QJ{p q:Prop}(k:q)(s:Hid_ q→p:=by intro k;(repeat (first|(apply fp;rfl;rfl;rfl)|(apply dA;rfl;rfl;rfl)|(apply WL.nil)|(apply bx)|(apply CW.seq)|(apply CW.region)|(apply dp;rfl;rfl;rfl)|(apply dx;rfl;rfl;rfl)|(apply dr;rfl;rfl;rfl;assumption;rfl)|(apply aC;exact mixed;kernel_rfl)));exact k.o):p:=s ⟨k⟩
theorem QK{p q:Prop}(k:q)(s:Hid_ q→p:=by intro k;(repeat (first|(apply QL.add;rfl;rfl;rfl;rfl;omega;omega)|(apply dA;rfl;rfl;rfl)|(apply WL.nil)|(apply bx)|(apply CW.seq)|(apply du;rfl;rfl;rfl)|(apply dp;rfl;rfl;rfl)|(apply dx;rfl;rfl;rfl)|(apply dr;rfl;rfl;rfl;assumption;rfl)|(apply aw;rfl)|(apply CW.skip)|(apply aC;exact mixed;kernel_rfl)));exact k.o):p:=s ⟨k⟩
theorem QM{p q:Prop}(k:q)(s:Hid_ q→p:=by intro k;(repeat (first|(apply dA;rfl;rfl;rfl)|(apply CW.seq)|(apply dp;rfl;rfl;rfl)|(apply dx;rfl;rfl;rfl)|(apply dr;rfl;rfl;rfl;assumption;rfl)|(apply dt;rfl;rfl;rfl;assumption;rfl)|(apply aw;rfl)|(apply aC;exact mixed;kernel_rfl)));exact k.o):p:=s ⟨k⟩
theorem QN{p q:Prop}(k:q)(s:Hid_ q→p:=by intro k;(repeat (first|(apply dC;rfl;rfl;rfl;rfl;omega;omega)|(apply fp;rfl;rfl;rfl)|(apply dA;rfl;rfl;rfl)|(apply WL.nil)|(apply bx)|(apply CW.seq)|(apply CW.region)|(apply du;rfl;rfl;rfl)|(apply dp;rfl;rfl;rfl)|(apply dx;rfl;rfl;rfl)|(apply dr;rfl;rfl;rfl;assumption;rfl)|(apply CW.block)|(apply CW.exit)|(apply bA)|(apply aZ)|(apply CW.skip)|(apply aC;exact mixed;kernel_rfl)));exact k.o):p:=s ⟨k⟩
theorem QO{p q:Prop}(k:q)(s:Hid_ q→p:=by intro k;(repeat (apply fp;rfl;rfl;rfl));exact k.o):p:=s ⟨k⟩
theorem QP{p q:Prop}(k:q)(s:Hid_ q→p:=by intro k;(repeat (apply dA;rfl;rfl;rfl));exact k.o):p:=s ⟨k⟩
theorem QQ{p q:Prop}(k:q)(s:Hid_ q→p:=by intro k;(repeat (first|(apply eI;rfl;rfl;rfl)|(apply fi;rfl;rfl;rfl)));exact k.o):p:=s ⟨k⟩
theorem QR{p q:Prop}(k:q)(s:Hid_ q→p:=by intro k;(repeat (apply eI;rfl;rfl;rfl));exact k.o):p:=s ⟨k⟩
theorem QS{p q:Prop}(k:q)(s:Hid_ q→p:=by intro k;(repeat (first|(apply dA;rfl;rfl;rfl)|(apply QL.pass;rfl;rfl)));exact k.o):p:=s ⟨k⟩
theorem QT{p q:Prop}(k:q)(s:Hid_ q→p:=by intro k;(repeat (apply dp;rfl;rfl;rfl));exact k.o):p:=s ⟨k⟩
theorem QU{p q:Prop}(k:q)(s:Hid_ q→p:=by intro k;(repeat (first|(apply fp;rfl;rfl;rfl)|(apply WL.pass;rfl;rfl)|(apply eI;rfl;rfl;rfl)|(apply fi;rfl;rfl;rfl)|(apply eN;rfl;rfl;rfl;assumption;rfl)));exact k.o):p:=s ⟨k⟩
theorem QV{p q:Prop}(k:q)(s:Hid_ q→p:=by intro k;(repeat (first|(apply fp;rfl;rfl;rfl)|(apply eI;rfl;rfl;rfl)|(apply eN;rfl;rfl;rfl;assumption;rfl)));exact k.o):p:=s ⟨k⟩
theorem QW{p q:Prop}(k:q)(s:Hid_ q→p:=by intro k;(repeat (first|(apply WL.add;rfl;rfl;rfl;rfl;omega;omega)|(apply fp;rfl;rfl;rfl)|(apply eI;rfl;rfl;rfl)|(apply fi;rfl;rfl;rfl)));exact k.o):p:=s ⟨k⟩
theorem QX{p q:Prop}(k:q)(s:Hid_ q→p:=by intro k;(repeat (first|(apply fp;rfl;rfl;rfl)|(apply eR;rfl;rfl;rfl)|(apply WL.makeFunc;rfl;rfl;rfl;rfl)|(apply eI;rfl;rfl;rfl)|(apply eN;rfl;rfl;rfl;assumption;rfl)));exact k.o):p:=s ⟨k⟩
theorem QY{p q:Prop}(k:q)(s:Hid_ q→p:=by intro k;(repeat (first|(apply fp;rfl;rfl;rfl)|(apply eR;rfl;rfl;rfl)|(apply eI;rfl;rfl;rfl)|(apply eO;rfl;rfl;rfl;assumption;rfl)));exact k.o):p:=s ⟨k⟩
theorem QZ{p q:Prop}(k:q)(s:Hid_ q→p:=by intro k;(repeat (first|(apply fE;rfl;rfl;rfl;rfl;omega;omega)|(apply fp;rfl;rfl;rfl)|(apply WL.pass;rfl;rfl)));exact k.o):p:=s ⟨k⟩
theorem Q0{p q:Prop}(k:q)(s:Hid_ q→p:=by intro k;(repeat (first|(apply dA;rfl;rfl;rfl)|(apply du;rfl;rfl;rfl)|(apply dp;rfl;rfl;rfl)|(apply dx;rfl;rfl;rfl)|(apply dr;rfl;rfl;rfl;assumption;rfl)));exact k.o):p:=s ⟨k⟩
theorem Q1{p q:Prop}(k:q)(s:Hid_ q→p:=by intro k;(repeat (first|(apply cT;rfl;rfl;rfl;(intro γ' w' hw';apply WL.add;rfl;rfl;rfl;rfl;omega;omega;exact WL.nil (a8 rfl (Ext.refl _) rfl)))|(apply cT;rfl;rfl;rfl;(intro γ' w' hw';apply fE;rfl;rfl;rfl;rfl;omega;omega;exact WL.nil (a8 rfl (Ext.refl _) rfl)))|(apply cT;rfl;rfl;rfl;(intro γ' w' hw';apply WL.mul;rfl;rfl;rfl;rfl;omega;omega;exact WL.nil (a8 rfl (Ext.refl _) rfl)))|(refine cT rfl rfl rfl (fun γ' w' hw'=>fp rfl rfl rfl (WL.nil (a8 rfl (Ext.refl _) rfl))) ?_)|(refine cT rfl rfl rfl (fun γ' w' hw'=>eI rfl rfl rfl (WL.nil (a8 rfl (Ext.refl _) rfl))) ?_)|(apply cT;rfl;rfl;rfl;(intro γ' w' hw';apply eN;rfl;rfl;rfl;apply Blk.ext;assumption;exact hw';rfl;exact WL.nil (a8 rfl (Ext.refl _) rfl)))|(apply cT;rfl;rfl;rfl;(intro γ' w' hw';apply eO;rfl;rfl;rfl;apply Blk.ext;assumption;exact hw';rfl;exact WL.nil (a8 rfl (Ext.refl _) rfl)))|(refine cT rfl rfl rfl (fun γ' w' hw'=>eR rfl rfl rfl (WL.nil (a8 rfl (Ext.refl _) rfl))) ?_)|(apply cT;rfl;rfl;rfl;(intro γ' w' hw';apply eH;rfl;rfl;rfl;rfl;exact WL.nil (a8 rfl (Ext.refl _) rfl)))|(apply cT;rfl;rfl;rfl;(intro γ' w' hw';apply WL.neB;rfl;rfl;rfl;rfl;exact WL.nil (a8 rfl (Ext.refl _) rfl)))|(refine cT rfl rfl rfl (fun γ' w' hw'=>WL.makeFunc rfl rfl rfl rfl (WL.nil (a8 rfl (Ext.refl _) rfl))) ?_)|(refine cT rfl rfl rfl (fun γ' w' hw'=>fi rfl rfl rfl (WL.nil (a8 rfl (Ext.refl _) rfl))) ?_)|(apply ML.pass;rfl;rfl;rfl)));exact k.o):p:=s ⟨k⟩
theorem Q2{p q:Prop}(k:q)(s:Hid_ q→p:=by intro k;(repeat (refine cm (by assumption) rfl rfl rfl rfl (by assumption) rfl ?_));exact k.o):p:=s ⟨k⟩
theorem Q3{p q:Prop}(k:q)(s:Hid_ q→p:=by intro k;(repeat (apply cy;rfl;rfl;rfl;rfl));exact k.o):p:=s ⟨k⟩
theorem Q4{p q:Prop}(k:q)(s:Hid_ q→p:=by intro k;(repeat (refine ca rfl rfl rfl rfl ?_));exact k.o):p:=s ⟨k⟩
theorem Q5{p q:Prop}(k:q)(s:Hid_ q→p:=by intro k;(repeat (refine cr rfl rfl rfl rfl ?_));exact k.o):p:=s ⟨k⟩
theorem Q6{p q:Prop}(k:q)(s:Hid_ q→p:=by intro k;(repeat (refine cd (by assumption) rfl rfl rfl rfl (by assumption) rfl ?_));exact k.o):p:=s ⟨k⟩
theorem Q7{p q:Prop}(k:q)(s:Hid_ q→p:=by intro k;(repeat (first|(apply cy;rfl;rfl;rfl;rfl)|(refine ca rfl rfl rfl rfl ?_)|(apply cw;rfl;rfl;rfl;rfl)|(refine cm (by assumption) rfl rfl rfl rfl (by assumption) rfl ?_)));exact k.o):p:=s ⟨k⟩
theorem Q8{p q:Prop}(k:q)(s:Hid_ q→p:=by intro k;(repeat (first|(apply HL.add;rfl;rfl;rfl;rfl;rfl;omega;omega)|(refine ca rfl rfl rfl rfl ?_)|(refine cm (by assumption) rfl rfl rfl rfl (by assumption) rfl ?_)));exact k.o):p:=s ⟨k⟩
theorem Q9{p q:Prop}(k:q)(s:Hid_ q→p:=by intro k;(repeat (first|(apply HL.add;rfl;rfl;rfl;rfl;rfl;omega;omega)|(apply cy;rfl;rfl;rfl;rfl)|(refine ca rfl rfl rfl rfl ?_)|(apply cw;rfl;rfl;rfl;rfl)|(refine cd (by assumption) rfl rfl rfl rfl (by assumption) rfl ?_)|(refine ce (by assumption) rfl rfl rfl rfl (by assumption) rfl ?_)|(refine cr rfl rfl rfl rfl ?_)|(apply HL.makeFunc;rfl;rfl;rfl;rfl;rfl)));exact k.o):p:=s ⟨k⟩
theorem Q_{p q:Prop}(k:q)(s:Hid_ q→p:=by intro k;(repeat (first|(apply cC;rfl;rfl;rfl;rfl;rfl;omega;omega)|(apply cy;rfl;rfl;rfl;rfl)|(refine ca rfl rfl rfl rfl ?_)|(apply cw;rfl;rfl;rfl;rfl)|(refine cm (by assumption) rfl rfl rfl rfl (by assumption) rfl ?_)|(refine cr rfl rfl rfl rfl ?_)|(refine HL.build rfl rfl rfl rfl rfl ?_)));exact k.o):p:=s ⟨k⟩
theorem Ra{p q:Prop}(k:q)(s:Hid_ q→p:=by intro k;(repeat (first|(apply cy;rfl;rfl;rfl;rfl)|(refine ca rfl rfl rfl rfl ?_)|(apply cw;rfl;rfl;rfl;rfl)|(refine cd (by assumption) rfl rfl rfl rfl (by assumption) rfl ?_)));exact k.o):p:=s ⟨k⟩
theorem Rb{p q:Prop}(k:q)(s:Hid_ q→p:=by intro k;(repeat (first|(apply cy;rfl;rfl;rfl;rfl)|(apply HL.pass;rfl;rfl;rfl)|(refine ce (by assumption) rfl rfl rfl rfl (by assumption) rfl ?_)));exact k.o):p:=s ⟨k⟩
theorem Re{p q:Prop}(k:q)(s:Hid_ q→p:=by intro k;(repeat (first|(refine ca rfl rfl rfl rfl ?_)|(apply cw;rfl;rfl;rfl;rfl)|(apply HL.nil)));exact k.o):p:=s ⟨k⟩
theorem Rf{p q:Prop}(k:q)(s:Hid_ q→p:=by intro k;(repeat (first|(apply cy;rfl;rfl;rfl;rfl)|(apply HL.nil)));exact k.o):p:=s ⟨k⟩
theorem Rg{p q:Prop}(k:q)(s:Hid_ q→p:=by intro k;(repeat (first|(apply HL.add;rfl;rfl;rfl;rfl;rfl;omega;omega)|(apply cC;rfl;rfl;rfl;rfl;rfl;omega;omega)|(apply cy;rfl;rfl;rfl;rfl)|(apply HL.pass;rfl;rfl;rfl)|(refine ca rfl rfl rfl rfl ?_)|(apply cw;rfl;rfl;rfl;rfl)|(refine cd (by assumption) rfl rfl rfl rfl (by assumption) rfl ?_)|(refine cm (by assumption) rfl rfl rfl rfl (by assumption) rfl ?_)|(refine ce (by assumption) rfl rfl rfl rfl (by assumption) rfl ?_)|(refine cr rfl rfl rfl rfl ?_)|(refine HL.eqB rfl rfl rfl rfl rfl ?_)|(refine HL.neB rfl rfl rfl rfl rfl ?_)|(refine HL.build rfl rfl rfl rfl rfl ?_)|(apply HL.makeFunc;rfl;rfl;rfl;rfl;rfl)|(apply HL.nil)));exact k.o):p:=s ⟨k⟩
open Go.RowKit
abbrev Sg:=List (Nat×Value)
def fnd:Sg→Nat→Option Value
 |[],_=>none
 |(k,v)::r,t=>match Nat.beq k t with
  |true=>some v
  |false=>fnd r t
structure Fr(n:Nat)(σ:Sg)(a:Act):Prop where
 size:a.tmps.size=n
 defers:a.defers=[]
 slot:∀t v,fnd σ t=some v→a.tmps.getD t undef=v
def ev(σ:Sg):Operand→Option Value
 |.tmp t=>fnd σ t
 |.const v=>some v
 |.global g=>some (.pointer (some ⟨g,0,none⟩))
 |.func f=>some (.func (.func f) #[] #[])
theorem Fr.ev{n:Nat}{σ:Sg}{a:Act}(h:Fr n σ a){x:Operand}{v:Value}(b:ev σ x=some v):a.eval x=v:=by
 cases x with
 |tmp t=>exact h.slot t v b
 |const u=>exact Nn b
 |global g=>exact Nn b
 |func f=>exact Nn b
def CD(d:Option Nat)(v:Value)(σ:Sg):Sg:=match d with|some d=>(d,v)::σ|none=>σ
theorem pW{σ:Sg}{d:Nat}{v:Value}:fnd ((d,v)::σ) d=some v:=by
 show(match Nat.beq d d with|true=>some v|false=>fnd σ d)=_;rw[MA d]
theorem iq{d t:Nat}(h:d≠t):Nat.beq d t=false:=by
 cases e:Nat.beq d t with
 |false=>rfl
 |true=>exact absurd (MD e) h
theorem pX{σ:Sg}{d t:Nat}{v:Value}(h:d≠t):fnd ((d,v)::σ) t=fnd σ t:=by
 show(match Nat.beq d t with|true=>some v|false=>fnd σ t)=_;rw[iq h]
def AE(n:Nat):Option Nat→Bool|some d=>Nat.ble (d+1) n|none=>true
theorem Fr.put{n:Nat}{σ:Sg}{a:Act}(h:Fr n σ a){d:Option Nat}{v:Value}(hd:AE n d=true):Fr n (CD d v σ) (a.put d v):=by
 cases d with
 |none=>exact h
 |some d=>
  have hd':d<n:=MJ hd;refine⟨by simpa[Act.put]using h.size,by simpa[Act.put]using h.defers,?_⟩;intro t u b
  by_cases e:d=t
  ·subst e
   rw[CD,pW]at b
   cases b
   simp[Act.put,Array.getD,h.size,hd']
  ·rw[CD,pX e]at b
   have:=h.slot t u b;simp only[Act.put,Jt]at this⊢
   rw[JB e];exact this
theorem Fr.set{n:Nat}{σ:Sg}{a:Act}(h:Fr n σ a){s:Nat}{v:Value}(c:fnd σ s=some v):Fr n ((s,v)::σ) a:=by
 refine⟨h.size,h.defers,fun t u b=>?_⟩;by_cases e:s=t
 ·subst e;rw[pW]at b;cases b;exact h.slot _ _ c
 ·rw[pX e]at b;exact h.slot _ _ b
def Sub:Sg→Sg→Prop
 |[],_=>True
 |p::r,σ=>fnd σ p.1=some p.2∧Sub r σ
theorem Sub.fnd{τ σ:Sg}(h:Sub τ σ):∀t v,fnd τ t=some v→fnd σ t=some v:=by
 induction τ with
 |nil=>intro t v a;cases a
 |cons p r b=>
  intro t v a
  by_cases e:p.1=t
  ·subst e
   obtain⟨d,u⟩:=p;rw[pW]at a
   cases a
   exact h.1
  ·obtain⟨d,u⟩:=p
   rw[pX e]at a
   exact b h.2 t v a
theorem Fr.sub{n:Nat}{σ τ:Sg}{a:Act}(h:Fr n σ a)(c:Sub τ σ):Fr n τ a:=⟨h.size,h.defers,fun t v b=>h.slot t v (c.fnd t v b)⟩
@[irreducible] def CW (P:Program) (c:Code) (Q:Exit→Act→World→Prop) (n:Nat) (σ:Sg) (w:World):Prop:=∀a,Fr n σ a→c.wp P Q a w
@[irreducible] def EX (Q:Exit→Act→World→Prop) (e:Exit) (n:Nat) (σ:Sg) (w:World):Prop:=∀a,Fr n σ a→Q e a w
@[irreducible] def WL (P:Program) (ops:List Oper) (Q:Exit→Act→World→Prop) (l:List Oper) (n:Nat) (σ:Sg) (w:World):Prop:=∀a,Fr n σ a→wpList P ops.toArray Q l a w
section
variable {P:Program}{Q:Exit→Act→World→Prop}{n:Nat}{σ:Sg}{w:World}
theorem CW.seq{x y:Code}(h:CW P x (Exit.then (y.wp P Q) Q) n σ w):CW P (.seq x y) Q n σ w:=by
 unfold CW at*;exact fun a b=>wp_seq (h a b)
theorem bx{y:Code}(h:CW P y Q n σ w):EX (Exit.then (y.wp P Q) Q) .normal n σ w:=by
 unfold EX CW at*;exact fun a b=>h a b
theorem bA{id:Nat}{R:Act→World→Prop}(h:EX Q (.exit id) n σ w):EX (Exit.then R Q) (.exit id) n σ w:=by
 unfold EX at*;exact fun a b=>h a b
theorem bz{R:Act→World→Prop}(h:EX Q .ret n σ w):EX (Exit.then R Q) .ret n σ w:=by
 unfold EX at*;exact fun a b=>h a b
theorem aX{id:Nat}(h:EX Q .normal n σ w):EX (Exit.inBlock id Q) .normal n σ w:=by
 unfold EX at*;exact fun a b=>h a b
theorem aY{id:Nat}(h:EX Q .ret n σ w):EX (Exit.inBlock id Q) .ret n σ w:=by
 unfold EX at*;exact fun a b=>h a b
theorem aZ{id:Nat}(h:EX Q .normal n σ w):EX (Exit.inBlock id Q) (.exit id) n σ w:=by
 unfold EX at*;intro a b;show(if id=id then _ else _);rw[Ov rfl];exact h a b
theorem a7{id id':Nat}(b:Nat.beq id' id=false)(h:EX Q (.exit id') n σ w):EX (Exit.inBlock id Q) (.exit id') n σ w:=by
 unfold EX at*;intro a c;show(if id'=id then _ else _)
 rw[Ou (fun e=>by subst e;rw[MA id']at b;cases b)];exact h a c
theorem CW.block{id:Nat}{c:Code}(h:CW P c (Exit.inBlock id Q) n σ w):CW P (.block id c) Q n σ w:=by
 unfold CW at*;exact fun a b=>wp_block (h a b)
theorem CW.exit{id:Nat}(h:EX Q (.exit id) n σ w):CW P (.exit id) Q n σ w:=by
 unfold CW EX at*;exact fun a b=>wp_exit (h a b)
theorem CW.ret(h:EX Q .ret n σ w):CW P .ret Q n σ w:=by
 unfold CW EX at*;exact fun a b=>wp_ret (h a b)
theorem CW.skip(h:EX Q .normal n σ w):CW P .skip Q n σ w:=by
 unfold CW EX at*;exact fun a b=>wp_skip (h a b)
theorem CW.cond{c:Operand}{x y:Code}{t:Bool}(f:ev σ c=some (.bool t))(e:t=true→CW P x Q n σ w)(hf:t=false→CW P y Q n σ w):CW P (.cond c x y) Q n σ w:=by
 unfold CW at*
 exact fun a b=>wp_cond_split (b.ev f) (fun h=>e h a b) (fun h=>hf h a b)
theorem ax{c:Operand}{x y:Code}(b:ev σ c=some (.bool true))(a:CW P x Q n σ w):CW P (.cond c x y) Q n σ w:=
 CW.cond b (fun _=>a) (fun h=>by cases h)
theorem aw{c:Operand}{x y:Code}(a:ev σ c=some (.bool false))(hf:CW P y Q n σ w):CW P (.cond c x y) Q n σ w:=
 CW.cond a (fun h=>by cases h) (fun _=>hf)
theorem CW.region{id:Nat}{l:List Oper}(h:WL P l Q l n σ w):CW P (.region id l.toArray false) Q n σ w:=by
 unfold CW WL at*;exact fun a b=>wp_region_lit (h a b)
theorem WL.nil{l:List Oper}(h:EX Q .normal n σ w):WL P l Q [] n σ w:=by
 unfold WL EX at*;exact fun a b=>wpList_nil (h a b)
def ak{S:Type}(n:Nat)(σs:S→Sg)(I:S→World→Prop)(μ:S→Nat)(s:S):Act→World→Prop:=
 fun a w=>∃b,Fr n (σs b) a∧I b w∧μ b<μ s
theorem CW.loop{S:Type}{c:Code}(σs:S→Sg)(I:S→World→Prop)(μ:S→Nat)(b:S)(k:Sub (σs b) σ)(q:I b w)
  (round:∀s w,I s w→CW P c (Exit.then (ak n σs I μ s) Q) n (σs s) w):CW P (.loop c) Q n σ w:=by
 unfold CW at*
 intro a o
 refine wp_loop_ghost (fun m a w=>∃s,μ s=m∧Fr n (σs s) a∧I s w) (μ b) ⟨b,rfl,o.sub k,q⟩ ?_;rintro m a w ⟨s,rfl,hF,p⟩
 refine OP (round s w p a hF) ?_;intro e r w' hq
 cases e with
 |normal=>
  obtain⟨j,i,h,f⟩:=hq;exact⟨μ j,f,j,rfl,i,h⟩
 |exit id=>exact hq
 |goto l=>exact hq
 |ret=>exact hq
 |panic ch=>exact hq
 |outgrown=>exact hq
theorem EX.back{S:Type}{σs:S→Sg}{I:S→World→Prop}{μ:S→Nat}{s:S}(b:S)(c:Sub (σs b) σ)(f:I b w)(hμ:μ b<μ s):
  EX (Exit.then (ak n σs I μ s) Q) .normal n σ w:=by
 unfold EX;exact fun a e=>⟨b,e.sub c,f,hμ⟩
def Rt(P:Program)(f:FuncId)(args:Array Value)(w:World)(R:Value→World→Prop):Prop:=
 Calls P f args w fun e w'=>∃v,e=.returned v∧R v w'
theorem Rt.mono{f:FuncId}{args:Array Value}{R R':Value→World→Prop}(h:Rt P f args w R)(b:∀v w',R v w'→R' v w'):Rt P f args w R':=
 J2 h fun e w' ⟨v,c,a⟩=>⟨v,c,b v w' a⟩
def gw:Nat→List Value→Sg
 |_,[]=>[]
 |k,v::r=>(k,v)::gw (k+1) r
theorem pU:∀(vs:List Value) (k t:Nat) (v:Value),fnd (gw k vs) t=some v→k≤t∧vs[t -k]?=some v:=by
 intro vs
 induction vs with
 |nil=>intro k t v h;cases h
 |cons u r a=>
  intro k t v h
  by_cases e:k=t
  ·subst e;rw[gw,pW]at h;cases h;exact⟨MM _,by simp⟩
  ·rw[gw,pX e]at h
   obtain⟨h1,h2⟩:=a (k+1) t v h;refine⟨by omega,?_⟩;have:t -k=(t -(k+1))+1:=by omega
   rw[this,KV];exact h2
theorem Rt.enter{f:FuncId}{fn:Func}{c:Code}{vs:List Value}{R:Value→World→Prop}(hf:P.funcs[f]?=some fn)(j:fn.body=some c)(hn:fn.ntmps=n)
  (b:Nat.ble vs.length n=true) (h:CW P c (bodyPost P fn fun e w'=>∃v,e=.returned v∧R v w') n (gw 0 vs) w):Rt P f vs.toArray w R:=by
 refine calls_of_wp hf j ?_;unfold CW at h
 have k:=MJ b;refine h _ ⟨by simp[hn];omega,rfl,fun t v i=>?_⟩;obtain⟨_,h2⟩:=pU vs 0 t v i;simp only[Nat.sub_zero]at h2
 have a:=(KZ.1 h2).1;simp only[Jt];rw[Ju (by simpa using a)];simp[h2]
theorem dF{f:FuncId}{fn:Func}{c:Code}{R:Value→World→Prop}(hf:P.funcs[f]?=some fn)(hn:fn.ntmps=n)(a:fn.body=some c)
  (h:CW P c (bodyPost P fn fun e w'=>∃v,e=.returned v∧R v w') n [] w):Rt P f [].toArray w R:=Rt.enter (vs:=[]) hf a hn rfl h
theorem dG{f:FuncId}{fn:Func}{c:Code}{b:Value}{R:Value→World→Prop}(hf:P.funcs[f]?=some fn)(hn:fn.ntmps=n)(i:fn.body=some c)
  (a:Nat.ble 1 n=true) (h:CW P c (bodyPost P fn fun e w'=>∃v,e=.returned v∧R v w') n [(0,b)] w):Rt P f [b].toArray w R:=Rt.enter hf i hn a h
theorem dH{f:FuncId}{fn:Func}{c:Code}{b a1:Value}{R:Value→World→Prop}(hf:P.funcs[f]?=some fn)(hn:fn.ntmps=n)(i:fn.body=some c)
  (a:Nat.ble 2 n=true) (h:CW P c (bodyPost P fn fun e w'=>∃v,e=.returned v∧R v w') n [(0,b),(1,a1)] w):Rt P f [b,a1].toArray w R:=Rt.enter hf i hn a h
theorem dI{f:FuncId}{fn:Func}{c:Code}{b a1 a2:Value}{R:Value→World→Prop}(hf:P.funcs[f]?=some fn)(hn:fn.ntmps=n)(i:fn.body=some c)
  (a:Nat.ble 3 n=true) (h:CW P c (bodyPost P fn fun e w'=>∃v,e=.returned v∧R v w') n [(0,b),(1,a1),(2,a2)] w):Rt P f [b,a1,a2].toArray w R:=Rt.enter hf i hn a h
theorem dJ{f:FuncId}{fn:Func}{c:Code}{b a1 a2 a3:Value}{R:Value→World→Prop}(hf:P.funcs[f]?=some fn)(hn:fn.ntmps=n)(i:fn.body=some c)
  (a:Nat.ble 4 n=true) (h:CW P c (bodyPost P fn fun e w'=>∃v,e=.returned v∧R v w') n [(0,b),(1,a1),(2,a2),(3,a3)] w):Rt P f [b,a1,a2,a3].toArray w R:=Rt.enter hf i hn a h
theorem dK{f:FuncId}{fn:Func}{c:Code}{b a1 a2 a3 a4:Value}{R:Value→World→Prop}(hf:P.funcs[f]?=some fn)(hn:fn.ntmps=n)(i:fn.body=some c)
  (a:Nat.ble 5 n=true) (h:CW P c (bodyPost P fn fun e w'=>∃v,e=.returned v∧R v w') n [(0,b),(1,a1),(2,a2),(3,a3),(4,a4)] w):Rt P f [b,a1,a2,a3,a4].toArray w R:=Rt.enter hf i hn a h
theorem be{fn:Func}{t:Nat}{v:Value}{R:Value→World→Prop}(f:fn.results=#[.tmp t])(c:fnd σ t=some v)(h:R v w):
  EX (bodyPost P fn fun e w'=>∃v,e=.returned v∧R v w') .ret n σ w:=by
 unfold EX;intro a b
 exact Of (results_tmp f _ _ _) b.defers ⟨v,by rw[b.slot t v c],h⟩
theorem bf{fn:Func}{t u:Nat}{v x:Value}{R:Value→World→Prop}(i:fn.results=#[.tmp t,.tmp u])(f:fnd σ t=some v)(c:fnd σ u=some x)(h:R (.tuple ⟨[v,x]⟩) w):
  EX (bodyPost P fn fun e w'=>∃v,e=.returned v∧R v w') .ret n σ w:=by
 unfold EX;intro a b
 exact Of (results_tmp2 i _ _ _) b.defers ⟨_,by rw[b.slot t v f,b.slot u x c],h⟩
theorem aV{fn:Func}{R:Value→World→Prop}(b:fn.results=#[])(h:R (.tuple #[]) w):
  EX (bodyPost P fn fun e w'=>∃v,e=.returned v∧R v w') .normal n σ w:=by
 unfold EX;intro a c
 exact bodyPost_end (results_none b _ _ _) c.defers ⟨_,rfl,h⟩
end
def r6:List Oper→Nat→Option Nat
 |[],_=>none
 |o::_,0=>o.dst
 |_::r,j+1=>r6 r j
theorem r8:∀(l:List Oper) (j:Nat),r6 l j=(l[j]?).bind (·.dst)
 |[],j=>by simp[r6]
 |o::r,0=>by simp[r6]
 |o::r,j+1=>by simp[r6,r8 r j]
def gd(ops:List Oper)(σ:Sg)(o:Oper):Option Bool:=
 match o.guard with
 |none=>some true
 |some (j,want)=>
  match r6 ops j with
  |none=>none
  |some s=>match fnd σ s with
   |some (.bool b)=>some (match b,want with|true,true=>true|false,false=>true|_,_=>false)
   |some (.tuple _)=>some false
   |_=>none
theorem qN{ops:List Oper}{σ:Sg}{o:Oper}{b:Bool}{n:Nat}{a:Act}(p:Fr n σ a)(h:gd ops σ o=some b):Region.wanted o (yielded ops.toArray a.tmps)=b:=by
 unfold gd at h
 unfold Region.wanted;split at h
 ·rename_i f;rw[f];exact(Nn h)
 ·rename_i j want f
  rw[f];have k:∀s v,r6 ops j=some s→fnd σ s=some v→yielded ops.toArray a.tmps j=(match v with|.bool b=>some b|_=>none):=by
   intro s v c m
   have:=p.slot s v m;unfold yielded;have e:ops.toArray[j]?.bind (·.dst)=some s:=by rw[←c,r8];simp
   rw[e];simp only[Nj];simp only[Jt]at this
   cases l:a.tmps[s]? with
   |none=>
    rw[l]at this
    simp only[Option.getD_none]at this
    subst this;simp[undef]
   |some u=>
    rw[l]at this
    simp only[Nk]at this
    subst this;cases u<;>rfl
  split at h
  ·cases h
  ·rename_i s c
   split at h
   ·rename_i q i
    have:=k s _ c i;simp only[this];cases q<;>cases want<;>simp at h<;>simp[←h]
   ·rename_i x i
    have:=k s _ c i;simp only[this];simp at h;subst h;simp
   ·cases h
def BQ(op:BinOp)(x y:Value):Option Value:=
 match op,x,y with
 |.shl,.int k a,.int .i64 b=>match decide (0≤b)with|true=>some (.int k (k.wrap (a*2 ^ (min b.toNat k.bits))))|false=>none
 |.add,.int .i64 a,.int .i64 b=>some (.int .i64 (IntKind.i64.wrap (a+b)))
 |.sub,.int .i64 a,.int .i64 b=>some (.int .i64 (IntKind.i64.wrap (a -b)))
 |.mul,.int .i64 a,.int .i64 b=>some (.int .i64 (IntKind.i64.wrap (a*b)))
 |.eql,.int .i64 a,.int .i64 b=>some (.bool (a==b))
 |.neq,.int .i64 a,.int .i64 b=>some (.bool (a != b))
 |.lss,.int .i64 a,.int .i64 b=>some (.bool (decide (a<b)))
 |.leq,.int .i64 a,.int .i64 b=>some (.bool (decide (a≤b)))
 |.gtr,.int .i64 a,.int .i64 b=>some (.bool (decide (a>b)))
 |.geq,.int .i64 a,.int .i64 b=>some (.bool (decide (a≥b)))
 |.eql,.int .u64 a,.int .u64 b=>some (.bool (a==b))
 |.neq,.int .u64 a,.int .u64 b=>some (.bool (a != b))
 |.and,.int .u64 a,.int .u64 b=>some (.int .u64 (bits .and .u64 a b))
 |.or,.int .u64 a,.int .u64 b=>some (.int .u64 (bits .or .u64 a b))
 |.and,.int .i64 a,.int .i64 b=>some (.int .i64 (bits .and .i64 a b))
 |.or,.int .i64 a,.int .i64 b=>some (.int .i64 (bits .or .i64 a b))
 |.eql,.string a,.string b=>some (.bool (a.data.toList==b.data.toList))
 |.neq,.string a,.string b=>some (.bool !(a.data.toList==b.data.toList))
 |.eql,.int .u8 a,.int .u8 b=>some (.bool (a==b))
 |.neq,.int .u8 a,.int .u8 b=>some (.bool (a != b))
 |.lss,.int .u8 a,.int .u8 b=>some (.bool (decide (a<b)))
 |.leq,.int .u8 a,.int .u8 b=>some (.bool (decide (a≤b)))
 |.gtr,.int .u8 a,.int .u8 b=>some (.bool (decide (a>b)))
 |.geq,.int .u8 a,.int .u8 b=>some (.bool (decide (a≥b)))
 |_,_,_=>none
def Ag:List Value→Nat→Option Value
 |[],_=>none
 |v::_,0=>some v
 |_::r,i+1=>Ag r i
theorem Ah:∀(l:List Value) (i:Nat),Ag l i=l[i]?
 |[],i=>by simp[Ag]
 |v::r,0=>by simp[Ag]
 |v::r,i+1=>by simp[Ag,Ah r i]
def oe(σ:Sg):List Operand→Option (List Value)
 |[]=>some []
 |x::r=>match ev σ x,oe σ r with
  |some v,some vs=>some (v::vs)
  |_,_=>none
theorem og{n:Nat}{σ:Sg}{a:Act}(b:Fr n σ a):∀(l:List Operand) (vs:List Value),oe σ l=some vs→l.map a.eval=vs
 |[],vs,h=>by cases h;rfl
 |x::r,vs,h=>by
  simp only[oe]at h
  split at h
  ·rename_i v us c e
   cases h
   simp[b.ev c,og b r us e]
  ·cases h
def Ct(σ:Sg):Op→Option Value
 |.move x=>ev σ x
 |.assign x=>ev σ x
 |.pick c a b=>match ev σ c with
  |some (.bool true)=>ev σ a
  |some (.bool false)=>ev σ b
  |_=>none
 |.binOp op _ x y _=>match ev σ x,ev σ y with
  |some u,some v=>BQ op u v
  |_,_=>none
 |.unOp .not _ x=>match ev σ x with
  |some (.bool b)=>some (.bool !b)
  |_=>none
 |.extract x i=>match ev σ x with
  |some (.tuple vs)=>Ag vs.toList i
  |_=>none
 |_=>none
theorem BR{P:Program}{w:World}{op:BinOp}{t yt:TypeId}{x y:Operand}{u v r:Value}(h:BQ op u v=some r):
  ((do eqGuard op t x y u v;binOp op t u v:Sem Value)).run P w=.ok r w:=by
 unfold BQ at h
 split at h<;>first
  |(cases h;done)
  |(rename_i k a b;split at h
    ·rename_i e;have c:¬b<0:=by simpa using e
     cases h;simp[eqGuard,binOp,Op.shift,c]
    ·cases h)
  |(cases h;simp[eqGuard,binOp,Op.intArith,Op.intCmp,intBits_and,intBits_or];done)
  |(cases h;simp[eqGuard_at_string,binOp,Op.stringOp,ByteArray.toList_eq];done)
theorem Cu{P:Program}{w:World}{n:Nat}{σ:Sg}{a:Act}{o:Oper}{v:Value}(f:Fr n σ a)(h:Ct σ o.op=some v):
  (execOp a.eval o).run P w=.ok (.value v) w:=by
 unfold Ct at h
 unfold execOp;split at h
 ·rename_i x e;simp[e,f.ev h]
 ·rename_i x e;simp[e,f.ev h]
 ·rename_i c x y e
  split at h
  ·rename_i k;simp[e,f.ev k,asBool,f.ev h]
  ·rename_i k;simp[e,f.ev k,asBool,f.ev h]
  ·cases h
 ·rename_i op t x y yt e
  split at h
  ·rename_i u s m l
   have p:=BR (P:=P) (w:=w) (t:=t) (yt:=yt) (x:=x) (y:=y) h;simp only[e,f.ev m,f.ev l];rw[Nv,p];rfl
  ·cases h
 ·rename_i t x e
  split at h
  ·rename_i b q;cases h;simp[e,f.ev q,Op.unary]
  ·cases h
 ·rename_i x i e
  split at h
  ·rename_i vs j
   rw[Ah]at h
   have r:vs[i]?=some v:=by simpa using h
   simp[e,f.ev j,Instr.extract,r]
  ·cases h
 ·cases h
section
variable {P:Program}{Q:Exit→Act→World→Prop}{n:Nat}{σ:Sg}{w:World}{L rest:List Oper}{d:Nat}{op:Op}{ty:TypeId}{pos:String}{af:Array Edge}{g:Option (Nat×Bool)}
theorem WL.run{v:Value}{w':World}(e:gd L σ ⟨some d,op,ty,pos,af,g⟩=some true)(hd:Nat.ble (d+1) n=true)
  (c:∀a,Fr n σ a→(execOp a.eval ⟨some d,op,ty,pos,af,g⟩).run P w=.ok (.value v) w') (h:WL P L Q rest n ((d,v)::σ) w'):WL P L Q (⟨some d,op,ty,pos,af,g⟩::rest) n σ w:=by
 unfold WL at*
 intro a b
 refine OM fun K f=>?_
 rw[qN b e,Ov rfl];unfold Oper.wp;rw[c a b];exact f _ _ (h _ (b.put (d:=some d) hd))
theorem fq{w':World}(e:gd L σ ⟨none,op,ty,pos,af,g⟩=some true)
  (c:∀a,Fr n σ a→(execOp a.eval ⟨none,op,ty,pos,af,g⟩).run P w=.ok .skip w') (h:WL P L Q rest n σ w'):WL P L Q (⟨none,op,ty,pos,af,g⟩::rest) n σ w:=by
 unfold WL at*
 intro a b
 refine OM fun K f=>?_
 rw[qN b e,Ov rfl];unfold Oper.wp;rw[c a b];exact f _ _ (h _ b)
theorem fp{v:Value}(c:gd L σ ⟨some d,op,ty,pos,af,g⟩=some true)(hd:Nat.ble (d+1) n=true)
  (b:Ct σ op=some v) (h:WL P L Q rest n ((d,v)::σ) w):WL P L Q (⟨some d,op,ty,pos,af,g⟩::rest) n σ w:=
 WL.run c hd (fun a e=>Cu e b) h
theorem WL.pass(c:gd L σ ⟨some d,op,ty,pos,af,g⟩=some false)(hd:Nat.ble (d+1) n=true)(h:WL P L Q rest n ((d,undef)::σ) w):WL P L Q (⟨some d,op,ty,pos,af,g⟩::rest) n σ w:=by
 unfold WL at*
 intro a b
 refine OM fun K e=>?_
 rw[qN b c,Ou OW];exact e _ _ (h _ (b.put (d:=some d) hd))
theorem eW{s:Nat}{b:Bool}(c:fnd σ s=some (.bool b))(f:b=true→WL P L Q rest n ((s,.bool true)::σ) w)(hf:b=false→WL P L Q rest n ((s,.bool false)::σ) w):WL P L Q rest n σ w:=by
 unfold WL at*
 intro a e
 cases b with
 |true=>exact f rfl a (e.set c)
 |false=>exact hf rfl a (e.set c)
theorem eX{dd:Option Nat}{j s:Nat}{want b:Bool}(e:r6 L j=some s)(c:fnd σ s=some (.bool b))(a:b=true→WL P L Q (⟨dd,op,ty,pos,af,some (j,want)⟩::rest) n ((s,.bool true)::σ) w)
  (hf:b=false→WL P L Q (⟨dd,op,ty,pos,af,some (j,want)⟩::rest) n ((s,.bool false)::σ) w):WL P L Q (⟨dd,op,ty,pos,af,some (j,want)⟩::rest) n σ w:=eW c a hf
theorem Jl{a:Int}(b: -9223372036854775808≤a)(h1:a<9223372036854775808):IntKind.i64.wrap a=a:=IntWalk.i64_in _ ⟨b,by omega⟩
theorem WL.add{t yt:TypeId}{x y:Operand}{a b:Int}(f:gd L σ ⟨some d,.binOp .add t x y yt,ty,pos,af,g⟩=some true)(hd:Nat.ble (d+1) n=true)
  (e:ev σ x=some (Pj a)) (c:ev σ y=some (Pj b)) (i: -9223372036854775808≤a+b) (h1:a+b<9223372036854775808) (h:WL P L Q rest n ((d,Pj (a+b))::σ) w):WL P L Q (⟨some d,.binOp .add t x y yt,ty,pos,af,g⟩::rest) n σ w:=by
 refine fp f hd (v:=Pj (a+b)) ?_ h;simp only[Ct,e,c,BQ];rw[Jl i h1]
theorem fE{t yt:TypeId}{x y:Operand}{a b:Int}(f:gd L σ ⟨some d,.binOp .sub t x y yt,ty,pos,af,g⟩=some true)(hd:Nat.ble (d+1) n=true)
  (e:ev σ x=some (Pj a)) (c:ev σ y=some (Pj b)) (i: -9223372036854775808≤a -b) (h1:a -b<9223372036854775808) (h:WL P L Q rest n ((d,Pj (a -b))::σ) w):WL P L Q (⟨some d,.binOp .sub t x y yt,ty,pos,af,g⟩::rest) n σ w:=by
 refine fp f hd (v:=Pj (a -b)) ?_ h;simp only[Ct,e,c,BQ];rw[Jl i h1]
end
section
variable {P:Program}{Q:Exit→Act→World→Prop}{n:Nat}{σ:Sg}{w:World}{L rest:List Oper}{d:Nat}{op:Op}{ty:TypeId}{pos:String}{af:Array Edge}{g:Option (Nat×Bool)}
theorem WL.makeFunc{fn:Fn}{fs cs:List Operand}{fv cv:List Value}(c:gd L σ ⟨some d,.makeFunc fn fs.toArray cs.toArray,ty,pos,af,g⟩=some true)(hd:Nat.ble (d+1) n=true)
  (hf:oe σ fs=some fv) (e:oe σ cs=some cv) (h:WL P L Q rest n ((d,.func fn fv.toArray cv.toArray)::σ) w):WL P L Q (⟨some d,.makeFunc fn fs.toArray cs.toArray,ty,pos,af,g⟩::rest) n σ w:=by
 refine WL.run c hd (fun a b=>?_) h;have i:=og b fs fv hf;have f:=og b cs cv e;simp[execOp,Instr.makeFunc,i,f]
class IsF(P:Program)(f:FuncId):Prop where
 ok:∃fn,P.funcs[f]?=some fn∧fn.body.isSome=true∧(fn.name== "runtime.NumGoroutine")=false
theorem i5{f:FuncId}[hf:IsF P f](args:Array Value):(callFunc f args).run P w=.ok (.enter f args) w:=by
 obtain⟨fn,h1,h2,h3⟩:=hf.ok;have h4:fn.body≠none:=by intro e;rw[e]at h2;cases h2
 have a:fn.name≠ "runtime.NumGoroutine":=by simpa using h3
 simp[callFunc,h1,h4,a]
theorem d9{f:FuncId}{x:Operand}{xs:List Operand}{c:Array TypeId}{vs fv cv:List Value}{R:Value→World→Prop}
  (l:gd L σ ⟨some d,.call ⟨.value x,xs.toArray,c⟩,ty,pos,af,g⟩=some true) (hd:Nat.ble (d+1) n=true) (i:ev σ x=some (.func (.func f) fv.toArray cv.toArray)) (j:oe σ xs=some vs) [hf:IsF P f]
  (m:Rt P f (fv++vs++cv).toArray w R) (h:∀v w',R v w'→WL P L Q rest n ((d,v)::σ) w'):WL P L Q (⟨some d,.call ⟨.value x,xs.toArray,c⟩,ty,pos,af,g⟩::rest) n σ w:=by
 unfold WL at*
 intro a b
 refine OM fun K o=>?_
 rw[qN b l,Ov rfl];have q:=og b xs vs j;have p:=b.ev i;have k:(execOp a.eval ⟨some d,.call ⟨.value x,xs.toArray,c⟩,ty,pos,af,g⟩).run P w=.ok (.enter f (fv++vs++cv).toArray) w:=by
  have:=i5 (P:=P) (f:=f) (w:=w) (fv++vs++cv).toArray;simp[execOp,resolve,p,Deferred.ofValue,invoke,q];simpa using this
 unfold Oper.wp;rw[k];refine J2 m ?_;rintro e w' ⟨v,rfl,hR⟩
 exact o _ _ (h v w' hR _ (b.put (d:=some d) hd))
theorem WL.call{f:FuncId}{xs:List Operand}{a:Array TypeId}{vs:List Value}{R:Value→World→Prop}
  (c:gd L σ ⟨some d,.call ⟨.value (.func f),xs.toArray,a⟩,ty,pos,af,g⟩=some true) (hd:Nat.ble (d+1) n=true) (b:oe σ xs=some vs) [hf:IsF P f]
  (e:Rt P f vs.toArray w R) (h:∀v w',R v w'→WL P L Q rest n ((d,v)::σ) w'):WL P L Q (⟨some d,.call ⟨.value (.func f),xs.toArray,a⟩,ty,pos,af,g⟩::rest) n σ w:=
 d9 c hd (fv:=[]) (cv:=[]) rfl b (by simpa using e) h
end
abbrev bU:=List (List Int)
inductive Rch(g:bU)(from':List Int):Nat→Prop
 |base {x:Int}:x∈from'→Rch g from' x.toNat
 |step {n:Nat} {x:Int}:Rch g from' n→x∈g.getD n []→Rch g from' x.toNat
open Classical in
noncomputable def CL(g:bU)(from':List Int):List Bool:=(List.range g.length).map fun n=>decide (Rch g from' n)
theorem CN(g:bU)(f:List Int):(CL g f).length=g.length:=by simp[CL]
theorem CM{g:bU}{f:List Int}{n:Nat}(h:n<(CL g f).length):(CL g f)[n]=true↔Rch g f n:=by
 have a:n<g.length:=by rwa[CN]at h
 simp[CL]
def AG(n:Nat)(l:List Int):Prop:=∀x∈l,0≤x∧x<n
def okG(g:bU):Prop:=∀l∈g,AG g.length l
theorem AF{g:bU}(h:okG g)(n:Nat):AG g.length (g.getD n []):=by
 intro x a
 by_cases hn:n<g.length
 ·rw[KR,KX hn]at a
  exact h _ (Lb hn) x a
 ·rw[KR,KY OS]at a
  simp at a
def Ca:bU→List Bool→Nat
 |l::g,s::r=>(match s with|true=>0|false=>l.length+1)+Ca g r
 |_,_=>0
theorem Cc:∀(g:bU) (seen:List Bool) (n:Nat),n<g.length→seen.length=g.length→seen.getD n true=false→Ca g (seen.set n true)+(g.getD n []).length+1=Ca g seen
 |[],_,n,h,_,_=>absurd h OW
 |l::g,[],n,_,h,_=>absurd h OW
 |l::g,s::r,0,_,_,h=>by
  simp at h;subst h;simp[Ca];omega
 |l::g,s::r,n+1,h1,h2,h3=>by
  have:=Cc g r n (by simpa using h1) (by simpa using h2) (by simpa using h3);simp only[List.set_cons_succ,Ca,List.getD_cons_succ];omega
def mX(g:bU):Nat:=(g.map List.length).sum
theorem Cd:∀g:bU,Ca g (List.replicate g.length false)=mX g+g.length
 |[]=>rfl
 |l::g=>by
  simp only[Ll,Mc,Ca,Cd g,mX,LE,Mi];omega
structure RInv(g:bU)(f:List Int)(seen:List Bool)(todo:List Int):Prop where
 len:seen.length=g.length
 ok:AG g.length todo
 sound:∀n,seen.getD n false=true→Rch g f n
 tsound:∀x∈todo,Rch g f x.toNat
 base:∀x∈f,seen.getD x.toNat false=true∨x∈todo
 clo:∀n,seen.getD n false=true→∀x∈g.getD n [],seen.getD x.toNat false=true∨x∈todo
theorem ri{l:List Bool}{n k:Nat}{b:Bool}(h:n<l.length):(l.set n b).getD k false=if n=k then b else l.getD k false:=by
 simp only[KR,K3];split
 ·subst_vars;simp[h]
 ·rfl
theorem rh{n k:Nat}:(List.replicate n false).getD k false=false:=by
 simp only[KR,K2];split<;>rfl
theorem RInv.start{g:bU}{f:List Int}(hf:AG g.length f):RInv g f (List.replicate g.length false) f where
 len:=by simp
 ok:=hf
 sound:=fun n h=>by rw[rh]at h;cases h
 tsound:=fun x a=>.base a
 base:=fun x a=>.inr a
 clo:=fun n h=>by rw[rh]at h;cases h
theorem RInv.pass{g:bU}{f:List Int}{seen:List Bool}{a:List Int}{x:Int}(h:RInv g f seen (a++[x]))(c:seen.getD x.toNat false=true):RInv g f seen a where
 len:=h.len
 ok:=fun y b=>h.ok y (by simp[b])
 sound:=h.sound
 tsound:=fun y b=>h.tsound y (by simp[b])
 base:=fun y b=>by
  rcases h.base y b with h1|h1
  ·exact .inl h1
  ·rcases LK.1 h1 with h2|h2
   ·exact .inr h2
   ·simp at h2;subst h2;exact .inl c
 clo:=fun n hn y b=>by
  rcases h.clo n hn y b with h1|h1
  ·exact .inl h1
  ·rcases LK.1 h1 with h2|h2
   ·exact .inr h2
   ·simp at h2;subst h2;exact .inl c
theorem RInv.mark{g:bU}{f:List Int}{seen:List Bool}{a:List Int}{x:Int}(d:okG g)(h:RInv g f seen (a++[x])):RInv g f (seen.set x.toNat true) (a++g.getD x.toNat []):=by
 have i:=h.ok x OW;have c:x.toNat<seen.length:=by rw[h.len];omega
 have key:∀y,seen.getD y.toNat false=true∨y∈a++[x]→(seen.set x.toNat true).getD y.toNat false=true∨y∈a++g.getD x.toNat []:=by
  intro y b
  rw[ri c];rcases b with h1|h1
  ·left;split
   ·rfl
   ·exact h1
  ·rcases LK.1 h1 with h2|h2
   ·exact .inr (by simp[h2])
   ·simp at h2;subst h2;left;simp
 refine⟨by simpa using h.len,?_,?_,?_,?_,?_⟩
 ·intro y b
  rcases LK.1 b with h1|h1
  ·exact h.ok y (by simp[h1])
  ·exact AF d _ y h1
 ·intro n hn
  rw[ri c]at hn
  split at hn
  ·rename_i e;subst e;exact h.tsound x OW
  ·exact h.sound n hn
 ·intro y b
  rcases LK.1 b with h1|h1
  ·exact h.tsound y (by simp[h1])
  ·exact .step (h.tsound x OW) h1
 ·intro y b;exact key y (h.base y b)
 ·intro n hn y b
  rw[ri c]at hn
  split at hn
  ·rename_i e;subst e;exact .inr (LK.2 (.inr b))
  ·exact key y (h.clo n hn y b)
theorem RInv.done{g:bU}{f:List Int}{seen:List Bool}(h:RInv g f seen []):seen=CL g f:=by
 have all:∀n,Rch g f n→seen.getD n false=true:=by
  intro n hn
  induction hn with
  |base a=>exact(h.base _ a).resolve_right OW
  |step _ a b=>exact(h.clo _ b _ a).resolve_right OW
 apply KE (by rw[h.len,CN]);intro n h1 h2
 have c:seen.getD n false=seen[n]:=by simp[KR,h1]
 rw[JO,CM h2,←c];exact⟨h.sound n,all n⟩
def mp(g:bU):Nat→List Bool→List Int→List Bool
 |0,seen,_=>seen
 |k+1,seen,a=>match a.reverse with
  |[]=>seen
  |x::r=>match seen.getD x.toNat false with
   |true=>mp g k seen r.reverse
   |false=>mp g k (seen.set x.toNat true) (r.reverse++g.getD x.toNat [])
theorem mq{g:bU}{f:List Int}(l:okG g):∀(k:Nat) (seen:List Bool) (a:List Int),RInv g f seen a→a.length+Ca g seen≤k→mp g k seen a=CL g f:=by
 intro k
 induction k with
 |zero=>
  intro seen a h d
  have:a=[]:=KD OS;subst this;exact h.done
 |succ k i=>
  intro seen a h d
  unfold mp;split
  ·rename_i e
   have:a=[]:=by simpa using e
   subst this;exact h.done
  ·rename_i x r e
   have j:a=r.reverse++[x]:=by
    have:=Oh List.reverse e;simpa using this
   subst j;have m:=h.ok x OW;split
   ·rename_i b
    exact i _ _ (h.pass b) (by simp at d⊢;omega)
   ·rename_i b
    have c:x.toNat<seen.length:=by rw[h.len];omega
    have n:=Cc g seen x.toNat OS h.len (by
     simp only[KR,KX c,Nk]at b⊢;exact b)
    exact i _ _ (RInv.mark l h) (by simp only[Lk,Ll,Lr]at d⊢;omega)
theorem CO{g:bU}{f:List Int}(a:okG g)(hf:AG g.length f)(k:Nat)(b:f.length+mX g+g.length≤k):CL g f=mp g k (List.replicate g.length false) f:=
 (mq a k _ _ (RInv.start hf) (by rw[Cd];omega)).symm
def An(n:Nat)(l:List Int):Bool:=l.any fun x=>decide (x<0∨x≥n)
theorem oddB_false{n:Nat}{l:List Int}:An n l=false↔AG n l:=by
 unfold An AG;rw[Kh];constructor
 ·intro h x a;have:=h x a;simp at this;omega
 ·intro h x a;have:=h x a;simp;omega
def jL(g:bU):Int:=match decide (g.length>20000),g.any (An g.length)with
 |true,_=>2
 |false,true=>1
 |false,false=>0
theorem jN{g:bU}(h:jL g=0):okG g∧g.length≤20000:=by
 unfold jL at h
 split at h
 ·cases h
 ·cases h
 ·rename_i h1 h2
  simp at h1
  refine⟨fun l a=>oddB_false.1 ?_,h1⟩;rw[Kh]at h2
  simpa using h2 l a
abbrev cJ:=ByteArray×Int
abbrev cI:=Int×Int
abbrev cL:=List cJ×List cI
def yd(c:UInt8):Bool:=!(decide (((c.toNat:Nat):Int)<97))&&!(decide (((c.toNat:Nat):Int)>122))
def za(l:List UInt8):Bool:=!(l==[])&&!(decide ((l.length:Int)>8))&&!(l==[116,114,117,101])&&!(l==[102,97,108,115,101])&&!(l==[115,105,108,101,110,116])&&l.all yd
abbrev y_(s:ByteArray):Bool:=za s.data.toList
def y0(a b:ByteArray):Bool:=a.data.toList==b.data.toList
def zL(ns:List cJ)(i:Nat):Int:=
 if !y_ (ns.getD i (⟨#[]⟩,0)).1||decide ((ns.getD i (⟨#[]⟩,0)).2<1)||decide ((ns.getD i (⟨#[]⟩,0)).2>7)then 1
 else if(ns.take i).any (fun m=>y0 m.1 (ns.getD i (⟨#[]⟩,0)).1)then 4 else 0
def zR(ns:List cJ):Nat→Nat→Int
 |0,_=>0
 |f+1,i=>if zL ns i≠0 then zL ns i else zR ns f (i+1)
def zN(ns:List cJ):Int:=zR ns ns.length 0
theorem zS{ns:List cJ}:∀(f i k:Nat),i≤k→k<i+f→(∀j,i≤j→j<k→zL ns j=0)→zL ns k≠0→zR ns f i=zL ns k
 |0,i,k,h1,h2,_,_=>by omega
 |f+1,i,k,h1,h2,h3,h4=>by
  unfold zR;by_cases e:i=k
  ·subst e;rw[Ov h4]
  ·rw[Ou (by rw[h3 i Pf OS];simp)]
   exact zS f (i+1) k OS OS (fun j b a=>h3 j OS a) h4
theorem zT{ns:List cJ}:∀(f i:Nat),(∀j,i≤j→j<i+f→zL ns j=0)→zR ns f i=0
 |0,_,_=>rfl
 |f+1,i,h=>by
  unfold zR;rw[Ou (by rw[h i Pf OS];simp)];exact zT f (i+1) (fun j h1 h2=>h j OS OS)
theorem zP{ns:List cJ}{k:Nat}(b:k<ns.length)(a:∀j,j<k→zL ns j=0)(h:zL ns k≠0):zN ns=zL ns k:=zS _ 0 k (Nc _) OS (fun j _=>a j) h
theorem zQ{ns:List cJ}(a:∀j,j<ns.length→zL ns j=0):zN ns=0:=zT _ 0 (fun j _ h=>a j OS)
theorem zO{ns:List cJ}(h:zN ns=0):∀j,j<ns.length→zL ns j=0:=by
 intro j
 induction j using Nat.strongRecOn with
 |_ j a=>
  intro c
  apply J3;intro hn
  have:=zP c (fun k b=>a k b OS) hn;exact hn (by rw[←this];exact h)
def ly(kind:Int)(i o:Nat):Bool:=
 if kind=1 then decide (i=0)&&decide (o=1)
 else if kind=2∨kind=3 then decide (0<i)&&decide (o=0)
 else if kind=4 then decide (0<i)&&decide (o=1)
 else if kind=7 then if o>4 then false else decide (0<i)&&decide (0<o)
 else if kind=5∨kind=6 then decide (0<i)&&decide (0<o)
 else false
def vR(fl:List cI)(n:Int)(k:Nat):List Int:=((List.range k).filter fun i=>(fl.getD i (0,0)).2==n).map fun i:Nat=>(i:Int)
def Bf(fl:List cI)(n:Int)(k:Nat):List Int:=((List.range k).filter fun i=>(fl.getD i (0,0)).1==n).map fun i:Nat=>(i:Int)
abbrev vP(fl:List cI)(n:Int):List Int:=vR fl n fl.length
abbrev Bd(fl:List cI)(n:Int):List Int:=Bf fl n fl.length
theorem vT{fl:List cI}{n:Int}{k:Nat}:vR fl n (k+1)=vR fl n k++if((fl.getD k (0,0)).2==n)=true then [(k:Int)]else []:=by
 unfold vR;rw[Mb,KG,LC]
 congr 1
 by_cases e:((fl.getD k (0,0)).2==n)=true
 ·rw[Ov e];simp only[KH,e,KK];rfl
 ·rw[Ou e];simp only[KH,e,KK];rfl
theorem Bh{fl:List cI}{n:Int}{k:Nat}:Bf fl n (k+1)=Bf fl n k++if((fl.getD k (0,0)).1==n)=true then [(k:Int)]else []:=by
 unfold Bf;rw[Mb,KG,LC]
 congr 1
 by_cases e:((fl.getD k (0,0)).1==n)=true
 ·rw[Ov e];simp only[KH,e,KK];rfl
 ·rw[Ou e];simp only[KH,e,KK];rfl
theorem vS{fl:List cI}{n:Int}{k:Nat}:(vR fl n k).length≤k:=by
 unfold vR;rw[Lq];exact MN (Lp _ _) OW
theorem Bg{fl:List cI}{n:Int}{k:Nat}:(Bf fl n k).length≤k:=by
 unfold Bf;rw[Lq];exact MN (Lp _ _) OW
theorem insP_mem{fl:List cI}{n:Int}{k:Nat}{x:Int}:x∈vR fl n k↔∃i:Nat,x=(i:Int)∧i<k∧(fl.getD i (0,0)).2=n:=by
 unfold vR;rw[LU];constructor
 ·rintro⟨i,h1,rfl⟩
  have:=LR.1 h1;exact⟨i,rfl,LZ.1 this.1,by simpa using this.2⟩
 ·rintro⟨i,rfl,h1,h2⟩
  exact⟨i,LR.2 ⟨LZ.2 h1,by simpa using h2⟩,rfl⟩
theorem outsP_mem{fl:List cI}{n:Int}{k:Nat}{x:Int}:x∈Bf fl n k↔∃i:Nat,x=(i:Int)∧i<k∧(fl.getD i (0,0)).1=n:=by
 unfold Bf;rw[LU];constructor
 ·rintro⟨i,h1,rfl⟩
  have:=LR.1 h1;exact⟨i,rfl,LZ.1 this.1,by simpa using this.2⟩
 ·rintro⟨i,rfl,h1,h2⟩
  exact⟨i,LR.2 ⟨LZ.2 h1,by simpa using h2⟩,rfl⟩
def pM(n:Nat)(f:cI):Bool:=decide (f.1<0)||decide (f.1≥n)||decide (f.2<0)||decide (f.2≥n)
def pN(n:Nat)(fl:List cI):bU:=(List.range n).map fun k:Nat=>(fl.filter fun f=>f.1==(k:Int)).map (·.2)
def F0(ns:List cJ)(k:Nat):List Nat:=(List.range k).filter fun i=>(ns.getD i (⟨#[]⟩,0)).2==1
def gU(p:cL)(i:Nat):Bool:=!ly (p.1.getD i (⟨#[]⟩,0)).2 (vP p.2 i).length (Bd p.2 i).length
open Classical in
noncomputable def jV(p:cL):Int:=if∃n,n<p.1.length∧¬Rch (pN p.1.length p.2) (((F0 p.1 p.1.length).getLast?.map fun n:Nat=>(n:Int)).toList) n then 6 else 0
noncomputable def jT(p:cL):Int:=
 if p.1.length>20∨p.2.length>30 then 2 else if zN p.1≠0 then zN p.1
 else if p.2.any (pM p.1.length)=true then 1 else if(F0 p.1 p.1.length).length≠1 then 1
 else if(List.range p.1.length).any (gU p)=true then 1
 else jV p
structure OkPr(p:cL):Prop where
 n:p.1.length≤20
 f:p.2.length≤30
 nodes:∀i,i<p.1.length→zL p.1 i=0
 flows:∀f∈p.2,0≤f.1∧f.1<p.1.length∧0≤f.2∧f.2<p.1.length
 start:(F0 p.1 p.1.length).length=1
 count:∀i,i<p.1.length→ly (p.1.getD i (⟨#[]⟩,0)).2 (vP p.2 i).length (Bd p.2 i).length=true
theorem jU{p:cL}(h:jT p=0):OkPr p:=by
 unfold jT at h
 split at h
 ·cases h
 split at h
 ·rename_i h1 h2;exact absurd h h2
 split at h
 ·cases h
 split at h
 ·cases h
 split at h
 ·cases h
 rename_i h1 h2 h3 h4 a;refine⟨by omega,by omega,zO (by simpa using h2),fun f hf=>?_,by simpa using h4,fun i hi=>?_⟩
 ·have h3:=Kh.1 (by simpa using h3) f hf
  unfold pM at h3
  simp at h3
  omega
 ·have a:=Kh.1 (by simpa using a) i (LZ.2 hi)
  unfold gU at a
  simpa using a
class Rep(α:Type)where
 sz:Nat
 pos:0<sz
 agg:Bool
 rd:World→(Nat→Prop)→List Value→α→Prop
 len:∀{w F cs x},rd w F cs x→cs.length=sz
 one:∀{w F cs x},rd w F cs x→∀v∈cs,v.oneCell'=true
 szAgg:agg=false→sz=1
 mono:∀{w w' F F' cs x},rd w F cs x→(∀b,F b→w'.heap[b]?=w.heap[b]?)→(∀b,F b→F' b)→rd w' F' cs x
abbrev sz(α:Type)[Rep α]:Nat:=Rep.sz α
abbrev rd{α:Type}[Rep α]:World→(Nat→Prop)→List Value→α→Prop:=Rep.rd
def Iu(α:Type)[Rep α](cs:List Value):Value:=match Rep.agg α with
 |true=>.agg cs.toArray
 |false=>cs.headD undef
def Rd{α:Type}[Rep α](w:World)(F:Nat→Prop)(v:Value)(x:α):Prop:=∃cs,v=Iu α cs∧rd w F cs x
theorem Rd.mono{α:Type}[Rep α]{w w':World}{F F':Nat→Prop}{v:Value}{x:α}(h:Rd w F v x)(c:∀b,F b→w'.heap[b]?=w.heap[b]?)(hF:∀b,F b→F' b):Rd w' F' v x:=by
 obtain⟨cs,e,a⟩:=h;exact⟨cs,e,Rep.mono a c hF⟩
theorem Iv{α:Type}[Rep α]{w:World}{F:Nat→Prop}{cs:List Value}{x:α}(h:rd w F cs x):(Iu α cs).cells.toList=cs:=by
 unfold Iu;split
 ·simp[Value.cells]
 ·rename_i a
  have h1:=Rep.len h;rw[Rep.szAgg a]at h1
  match cs,h1 with
  |[v],_=>
   have:=Rep.one h v OW;cases v<;>first|rfl|(simp[Value.oneCell']at this)
instance tx:Rep Int where
 sz:=1
 pos:=by decide
 agg:=false
 rd:=fun _ _ cs x=>cs=[Pj x]
 len:=by intro w F cs x h;subst h;rfl
 one:=by intro w F cs x h v a;subst h;simp at a;subst a;rfl
 szAgg:=fun _=>rfl
 mono:=fun h _ _=>h
instance tz:Rep Bool where
 sz:=1
 pos:=by decide
 agg:=false
 rd:=fun _ _ cs x=>cs=[.bool x]
 len:=by intro w F cs x h;subst h;rfl
 one:=by intro w F cs x h v a;subst h;simp at a;subst a;rfl
 szAgg:=fun _=>rfl
 mono:=fun h _ _=>h
instance tB:Rep Nat where
 sz:=1
 pos:=by decide
 agg:=false
 rd:=fun _ _ cs x=>cs=[.int .u64 (x:Int)]∧x<18446744073709551616
 len:=by intro w F cs x h;rw[h.1];rfl
 one:=by intro w F cs x h v a;rw[h.1]at a;simp at a;subst a;rfl
 szAgg:=fun _=>rfl
 mono:=fun h _ _=>h
instance tC:Rep ByteArray where
 sz:=1
 pos:=by decide
 agg:=false
 rd:=fun _ _ cs x=>cs=[.string x]∧x.size≤maxLen
 len:=by intro w F cs x h;rw[h.1];rfl
 one:=by intro w F cs x h v a;rw[h.1]at a;simp at a;subst a;rfl
 szAgg:=fun _=>rfl
 mono:=fun h _ _=>h
def Cells(w:World)(b off:Nat)(cs:List Value):Prop:=∀j u,cs[j]?=some u→w.cell? ⟨b,off+j,none⟩=some u
theorem Cells.mono{w w':World}{b off:Nat}{cs:List Value}(h:Cells w b off cs)(e:w'.heap[b]?=w.heap[b]?):Cells w' b off cs:=
 fun j u c=>(World.cell?_of_block (w:=w) (a:=⟨b,off+j,none⟩) e).trans (h j u c)
structure Sl{α:Type}[Rep α](w:World)(F:Nat→Prop)(ao:Option Addr)(cap:Nat)(xs:List α):Prop where
 le:xs.length≤cap
 mx:cap≤maxLen
 nil:ao=none→cap=0
 el:∀i (h:i<xs.length),∃b off,ao=some ⟨b,off,none⟩∧F b∧∃es,Cells w b (off+i*sz α) es∧rd w F es xs[i]
theorem Sl.mono{α:Type}[Rep α]{w w':World}{F F':Nat→Prop}{ao:Option Addr}{cap:Nat}{xs:List α}(h:Sl w F ao cap xs)(a:∀b,F b→w'.heap[b]?=w.heap[b]?)(hF:∀b,F b→F' b):Sl w' F' ao cap xs:=by
 refine⟨h.le,h.mx,h.nil,fun i hi=>?_⟩;obtain⟨b,off,e,hf,j,f,c⟩:=h.el i hi;exact⟨b,off,e,hF b hf,j,f.mono (a b hf),Rep.mono c a hF⟩
instance tD{α:Type}[Rep α]:Rep (List α)where
 sz:=1
 pos:=by decide
 agg:=false
 rd:=fun w F cs xs=>∃ao cap,cs=[.slice ao xs.length cap]∧Sl w F ao cap xs
 len:=by rintro w F cs x ⟨ao,cap,e,_⟩;subst e;rfl
 one:=by rintro w F cs x ⟨ao,cap,e,_⟩ v a;subst e;simp at a;subst a;rfl
 szAgg:=fun _=>rfl
 mono:=by rintro w w' F F' cs x ⟨ao,cap,e,h⟩ b hF;exact⟨ao,cap,e,h.mono b hF⟩
theorem Rd.sl{α:Type}[Rep α]{w:World}{F:Nat→Prop}{v:Value}{xs:List α}(h:Rd w F v xs):∃ao cap,v=.slice ao xs.length cap∧Sl w F ao cap xs:=by
 obtain⟨cs,e,ao,cap,rfl,a⟩:=h;exact⟨ao,cap,e,a⟩
theorem Sl.rd{α:Type}[Rep α]{w:World}{F:Nat→Prop}{ao:Option Addr}{cap:Nat}{xs:List α}(h:Sl w F ao cap xs):Rd w F (.slice ao xs.length cap) xs:=⟨[.slice ao xs.length cap],rfl,ao,cap,rfl,h⟩
theorem Sl.len63{α:Type}[Rep α]{w:World}{F:Nat→Prop}{ao:Option Addr}{cap:Nat}{xs:List α}(h:Sl w F ao cap xs):xs.length≤9223372036854775807:=by
 have:=h.le;have:=h.mx;unfold maxLen at this;omega
theorem Rd.int{w:World}{F:Nat→Prop}{v:Value}{x:Int}(h:Rd w F v x):v=Pj x:=by obtain⟨cs,e,rfl⟩:=h;exact e
theorem Rd.bool{w:World}{F:Nat→Prop}{v:Value}{x:Bool}(h:Rd w F v x):v=.bool x:=by obtain⟨cs,e,rfl⟩:=h;exact e
theorem Rd.u64{w:World}{F:Nat→Prop}{v:Value}{x:Nat}(h:Rd w F v x):v=.int .u64 (x:Int)∧x<18446744073709551616:=by obtain⟨cs,e,rfl,h2⟩:=h;exact⟨e,h2⟩
theorem Rd.str{w:World}{F:Nat→Prop}{v:Value}{x:ByteArray}(h:Rd w F v x):v=.string x∧x.size≤maxLen:=by obtain⟨cs,e,rfl,h2⟩:=h;exact⟨e,h2⟩
theorem Rd.mkInt(w:World)(F:Nat→Prop)(x:Int):Rd w F (Pj x) x:=⟨_,rfl,rfl⟩
theorem Rd.mkBool(w:World)(F:Nat→Prop)(x:Bool):Rd w F (.bool x) x:=⟨_,rfl,rfl⟩
theorem Rd.mkStr(w:World)(F:Nat→Prop)(x:ByteArray)(h:x.size≤maxLen):Rd w F (.string x) x:=⟨_,rfl,rfl,h⟩
def c9(w:World):Nat→Prop:=fun b=>b<w.heap.size
abbrev Ext(w w':World):Prop:=Below w.heap.size w w'
theorem Ext.refl(w:World):Ext w w:=JJ _ _
theorem Ext.trans{a b c:World}(h:Ext a b)(k:Ext b c):Ext a c:=Below.trans h (k.mono h.size)
section
variable {α:Type}[Rep α]{w w' w0:World}{v:Value}{x:α}{ao:Option Addr}{cap:Nat}{xs:List α}
theorem Sl.at(h:Sl w0 (c9 w0) ao cap xs)(c:Below w0.heap.size w0 w):Sl w (c9 w0) ao cap xs:=h.mono (fun b a=>c.block b a) fun _ h=>h
theorem Sl.lift{F:Nat→Prop}(h:Sl w F ao cap xs)(hF:∀b,F b→b<w.heap.size):Sl w (c9 w) ao cap xs:=h.mono Pc hF
theorem Sl.up(h:Sl w0 (c9 w0) ao cap xs)(c:Below w0.heap.size w0 w):Sl w (c9 w) ao cap xs:=h.mono (fun b a=>c.block b a) fun b a=>MQ a c.size
theorem Cells.lt{b off:Nat}{cs:List Value}(h:Cells w b off cs)(hn:0<cs.length):b<w.heap.size:=
 N7 w _ (h 0 cs[0] (by simp[hn]))
end
def fR:TypeDesc→Bool|.struct _=>true|.array _ _=>true|_=>false
class IsT(P:Program)(t:TypeId)(α:Type)[Rep α]:Prop where
 ok:∃i d,P.info? t=some i∧i.size=sz α∧P.underlying t=some d∧fR d=Rep.agg α
class IsS(P:Program)(t:TypeId)(e:outParam TypeId):Prop where
 ok:P.underlying t=some (.slice e)
class IsZ(P:Program)(t:TypeId){α:Type}[Rep α](x:outParam α)(bytes:outParam Nat):Prop where
 ok:∃i z,P.info? t=some i∧i.zero=some z∧i.bytes=bytes∧∀w F,rd w F z.cells.toList x
theorem IsT.of{P:Program}{t:TypeId}{α:Type}[Rep α]{d:TypeDesc}(h:(P.info? t).map (fun i=>Nat.beq i.size (sz α))=some true)(a:P.underlying t=some d)
  (hd:fR d=Rep.agg α):IsT P t α:=by
 obtain⟨i,hi,b⟩:=Nl.1 h;exact⟨i,d,hi,MD b,a,hd⟩
theorem IsZ.of{P:Program}{t:TypeId}{α:Type}[Rep α]{x:α}{bytes:Nat}{z:Value}(h:(P.info? t).map (fun i=>(i.zero,i.bytes))=some (some z,bytes))(b:∀w F,rd w F z.cells.toList x):IsZ P t x bytes:=by
 obtain⟨i,hi,a⟩:=Nl.1 h;simp only[Nq]at a
 exact⟨i,z,hi,a.1,a.2,b⟩
theorem IsT.info{P:Program}{t:TypeId}{α:Type}[Rep α][h:IsT P t α]:∃i,P.info? t=some i∧i.size=sz α:=by
 obtain⟨i,d,h1,h2,_⟩:=h.ok;exact⟨i,h1,h2⟩
theorem Et{P:Program}{t:TypeId}{α:Type}[Rep α][IsT P t α](w:World):(sizeOf t).run P w=.ok (sz α) w:=by
 obtain⟨i,h1,h2⟩:=IsT.info (P:=P) (t:=t) (α:=α);simp[sizeOf,typeInfo,h1,h2]
theorem D6{P:Program}{t:TypeId}{α:Type}[Rep α][h:IsT P t α](w:World):(isAgg t).run P w=.ok (Rep.agg α) w:=by
 obtain⟨i,d,h1,h2,h3,h4⟩:=h.ok;unfold isAgg;rw[Nv,OI h3 w];rw[←h4];cases d<;>rfl
theorem Eb{P:Program}{t:TypeId}{α:Type}[Rep α][IsT P t α]{w:World}{F:Nat→Prop}{b off:Nat}{cs:List Value}{x:α}(c:Cells w b off cs)(f:rd w F cs x):
  (loadVar t ⟨b,off,none⟩).run P w=.ok (Iu α cs) w:=by
 have a:cs.length=sz α:=Rep.len f;unfold loadVar;rw[Nv,D6 (α:=α) w];simp only[Nu];unfold Iu;cases h:Rep.agg α with
 |true=>
  simp only[Ow];rw[Nv,Et (α:=α) w];simp only[Nu];rw[Nv,←a,OF w ⟨b,off,none⟩ cs (fun j v e=>by rw[N6];exact c j v e)];rfl
 |false=>
  rw[show sz α=1 from Rep.szAgg h]at a
  match cs,a with
  |[v],_=>
   have:=c 0 v rfl;simp only[Mz]at this
   simp[this]
section
variable {P:Program}{Q:Exit→Act→World→Prop}{n:Nat}{σ:Sg}{w:World}{L rest:List Oper}{d:Nat}{op:Op}{ty:TypeId}{pos:String}{af:Array Edge}{g:Option (Nat×Bool)}
theorem eR{t e:TypeId}{x:Operand}{ao:Option Addr}{k cap:Nat}(f:gd L σ ⟨some d,.call ⟨.builtin .len,#[x],#[t]⟩,ty,pos,af,g⟩=some true)(hd:Nat.ble (d+1) n=true)
  (b:ev σ x=some (.slice ao k cap)) [c:IsS P t e] (h:WL P L Q rest n ((d,Pj (k:Int))::σ) w):WL P L Q (⟨some d,.call ⟨.builtin .len,#[x],#[t]⟩,ty,pos,af,g⟩::rest) n σ w:=by
 refine WL.run f hd (fun a i=>?_) h;simp[execOp,resolve,invoke,builtin,i.ev b,Builtin.len_,OI c.ok,goInt]
theorem eJ{α:Type}[Rep α]{t e:TypeId}{x ix:Operand}{b off:Nat}{k cap:Nat}{i:Int}{kd:IntKind}(l:gd L σ ⟨some d,.indexAddr t x ix,ty,pos,af,g⟩=some true)(hd:Nat.ble (d+1) n=true)
  (f:ev σ x=some (.slice (some ⟨b,off,none⟩) k cap)) (hi:ev σ ix=some (.int kd i)) [j:IsS P t e] [o:IsT P e α] (m:0≤i) (h1:i<k)
  (h:WL P L Q rest n ((d,.pointer (some ⟨b,off+i.toNat*sz α,none⟩))::σ) w):WL P L Q (⟨some d,.indexAddr t x ix,ty,pos,af,g⟩::rest) n σ w:=by
 refine WL.run l hd (fun a c=>?_) h;simp[execOp,c.ev f,c.ev hi,Instr.indexAt,asIntOf,OI j.ok,m,h1,Et (α:=α),N6]
theorem WL.load{α:Type}[Rep α]{t:TypeId}{x:Operand}{b off:Nat}{F:Nat→Prop}{cs:List Value}{y:α}(f:gd L σ ⟨some d,.load t x,ty,pos,af,g⟩=some true)(hd:Nat.ble (d+1) n=true)
  (c:ev σ x=some (.pointer (some ⟨b,off,none⟩))) [k:IsT P t α] (i:Cells w b off cs) (e:rd w F cs y)
  (h:WL P L Q rest n ((d,Iu α cs)::σ) w):WL P L Q (⟨some d,.load t x,ty,pos,af,g⟩::rest) n σ w:=by
 refine WL.run f hd (fun a j=>?_) h;simp[execOp,j.ev c,Instr.loadAt,Instr.sureAddr,Eb i e]
theorem eB{α:Type}[Rep α]{t e:TypeId}{x ix:Operand}{ao:Option Addr}{cap a:Nat}{xs:List α}{F:Nat→Prop}{i:Int}{kd:IntKind}{ty':TypeId}{pos':String}{af':Array Edge}{k:Option (Nat×Bool)}
  (m:gd L σ ⟨some d,.indexAddr t x ix,ty,pos,af,g⟩=some true) (hd:Nat.ble (d+1) n=true) (hd':Nat.ble (a+1) n=true)
  (l:ev σ x=some (.slice ao xs.length cap)) (hi:ev σ ix=some (.int kd i)) [y:IsS P t e] [s:IsT P e α] (c:Sl w F ao cap xs) (q:0≤i) (h1:i<xs.length)
  (f:∀p,gd L ((d,.pointer p)::σ) ⟨some a,.load e (.tmp d),ty',pos',af',k⟩=some true)
  (h:∀u p,Rd w F u (xs[i.toNat]'OS)→WL P L Q rest n ((a,u)::(d,.pointer p)::σ) w):
  WL P L Q (⟨some d,.indexAddr t x ix,ty,pos,af,g⟩::⟨some a,.load e (.tmp d),ty',pos',af',k⟩::rest) n σ w:=by
 obtain⟨b,off,rfl,hF,r,o,j⟩:=c.el i.toNat OS;refine eJ (α:=α) m hd l hi q h1 ?_;refine WL.load (α:=α) (f _) hd' pW o j ?_;exact h _ _ ⟨r,rfl,j⟩
theorem eE{α:Type}[Rep α]{t e:TypeId}{x ix:Operand}{ao:Option Addr}{cap a:Nat}{xs:List α}{F:Nat→Prop}{i:Nat}{kd:IntKind}{ty':TypeId}{pos':String}{af':Array Edge}{f:Option (Nat×Bool)}
  (l:gd L σ ⟨some d,.indexAddr t x ix,ty,pos,af,g⟩=some true) (hd:Nat.ble (d+1) n=true) (hd':Nat.ble (a+1) n=true)
  (j:ev σ x=some (.slice ao xs.length cap)) (hi:ev σ ix=some (.int kd (i:Int))) [o:IsS P t e] [m:IsT P e α] (b:Sl w F ao cap xs) (h1:i<xs.length)
  (c:∀p,gd L ((d,.pointer p)::σ) ⟨some a,.load e (.tmp d),ty',pos',af',f⟩=some true)
  (h:∀u p,Rd w F u xs[i]→WL P L Q rest n ((a,u)::(d,.pointer p)::σ) w):
  WL P L Q (⟨some d,.indexAddr t x ix,ty,pos,af,g⟩::⟨some a,.load e (.tmp d),ty',pos',af',f⟩::rest) n σ w:=
 eB l hd hd' j hi b OS OS c (fun u p k=>h u p (by simpa using k))
theorem eD{t e:TypeId}{x ix:Operand}{ao:Option Addr}{cap a:Nat}{xs:List Int}{F:Nat→Prop}{i:Nat}{y:Int}{kd:IntKind}{ty':TypeId}{pos':String}{af':Array Edge}{f:Option (Nat×Bool)}
  (m:gd L σ ⟨some d,.indexAddr t x ix,ty,pos,af,g⟩=some true) (hd:Nat.ble (d+1) n=true) (hd':Nat.ble (a+1) n=true)
  (k:ev σ x=some (.slice ao xs.length cap)) (hi:ev σ ix=some (.int kd (i:Int))) [q:IsS P t e] [o:IsT P e Int] (b:Sl w F ao cap xs) (h1:i<xs.length) (j:xs[i]=y)
  (c:∀p,gd L ((d,.pointer p)::σ) ⟨some a,.load e (.tmp d),ty',pos',af',f⟩=some true)
  (h:∀p,WL P L Q rest n ((a,Pj y)::(d,.pointer p)::σ) w):
  WL P L Q (⟨some d,.indexAddr t x ix,ty,pos,af,g⟩::⟨some a,.load e (.tmp d),ty',pos',af',f⟩::rest) n σ w:=
 eE m hd hd' k hi b h1 c (fun u p l=>by rw[l.int,j];exact h p)
theorem eC{t e:TypeId}{x ix:Operand}{ao:Option Addr}{cap a:Nat}{xs:List Bool}{F:Nat→Prop}{i:Nat}{y:Bool}{kd:IntKind}{ty':TypeId}{pos':String}{af':Array Edge}{f:Option (Nat×Bool)}
  (m:gd L σ ⟨some d,.indexAddr t x ix,ty,pos,af,g⟩=some true) (hd:Nat.ble (d+1) n=true) (hd':Nat.ble (a+1) n=true)
  (k:ev σ x=some (.slice ao xs.length cap)) (hi:ev σ ix=some (.int kd (i:Int))) [q:IsS P t e] [o:IsT P e Bool] (b:Sl w F ao cap xs) (h1:i<xs.length) (j:xs[i]=y)
  (c:∀p,gd L ((d,.pointer p)::σ) ⟨some a,.load e (.tmp d),ty',pos',af',f⟩=some true)
  (h:∀p,WL P L Q rest n ((a,.bool y)::(d,.pointer p)::σ) w):
  WL P L Q (⟨some d,.indexAddr t x ix,ty,pos,af,g⟩::⟨some a,.load e (.tmp d),ty',pos',af',f⟩::rest) n σ w:=
 eE m hd hd' k hi b h1 c (fun u p l=>by rw[l.bool,j];exact h p)
theorem WL.box{e:TypeId}{x:Operand}{v:Value}(c:gd L σ ⟨some d,.box e x,ty,pos,af,g⟩=some true)(hd:Nat.ble (d+1) n=true)
  (b:ev σ x=some v) (h:WL P L Q rest n ((d,Pk w.heap.size)::σ) (w.alloc (.cells v.cells e))):WL P L Q (⟨some d,.box e x,ty,pos,af,g⟩::rest) n σ w:=by
 refine WL.run c hd (fun a f=>?_) h;simp[execOp,f.ev b,Instr.box,newVar,newRow]
end
def FnV(P:Program)(fv:Value)(args:List Value)(w:World)(R:Value→World→Prop):Prop:=
 ∃f fs cs,fv=.func (.func f) (List.toArray fs) (List.toArray cs)∧IsF P f∧Rt P f (fs++args++cs).toArray w R
theorem FnV.mk{P:Program}{f:FuncId}{cs args:List Value}{w:World}{R:Value→World→Prop}[hf:IsF P f](h:Rt P f (args++cs).toArray w R):FnV P (.func (.func f) [].toArray cs.toArray) args w R:=
 ⟨f,[],cs,rfl,hf,h⟩
theorem FnV.mono{P:Program}{fv:Value}{args:List Value}{w:World}{R R':Value→World→Prop}(h:FnV P fv args w R)(a:∀v w',R v w'→R' v w'):FnV P fv args w R':=by
 obtain⟨f,fs,cs,e,hf,h⟩:=h;exact⟨f,fs,cs,e,hf,h.mono a⟩
theorem d8{P:Program}{Q:Exit→Act→World→Prop}{n:Nat}{σ:Sg}{w:World}{L rest:List Oper}{d:Nat}{ty:TypeId}{pos:String}{af:Array Edge}{g:Option (Nat×Bool)}
  {x:Operand} {xs:List Operand} {b:Array TypeId} {vs:List Value} {fv:Value} {R:Value→World→Prop}
  (i:gd L σ ⟨some d,.call ⟨.value x,xs.toArray,b⟩,ty,pos,af,g⟩=some true) (hd:Nat.ble (d+1) n=true) (c:ev σ x=some fv) (e:oe σ xs=some vs)
  (a:FnV P fv vs w R) (h:∀v w',R v w'→WL P L Q rest n ((d,v)::σ) w'):WL P L Q (⟨some d,.call ⟨.value x,xs.toArray,b⟩,ty,pos,af,g⟩::rest) n σ w:=by
 obtain⟨f,fs,cs,rfl,hf,a⟩:=a;exact d9 i hd c e a h
theorem Ext.alloc(w:World)(o:Obj):Ext w (w.alloc o):=(JJ _ _).alloc Pf o
theorem Cells.alloc(w:World)(cs:Array Value)(e:TypeId):Cells (w.alloc (.cells cs e)) w.heap.size 0 cs.toList:=by
 intro j u a
 rw[World.cell?_alloc_new];simpa using a
end Go.Proofs.YtodmkmobdmcfbaaGreat
