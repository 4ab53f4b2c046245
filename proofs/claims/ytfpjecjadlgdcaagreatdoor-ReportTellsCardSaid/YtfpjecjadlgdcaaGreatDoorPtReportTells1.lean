import Derived.ProofKit
import Derived.Laws.Cover3
import Derived.OrdersHeld
import Derived.Test.YtfpjecjadlgdcaaGreatDoorProg
import Derived.Maps.Keyed
import Derived.Shelf.Slices.Reverse
import Derived.Shelf.Sort.Plain
import Derived.Shelf.Slices.In.SortNone
import Derived.Shelf.Strings.Split
import Derived.Shelf.Strings.Cut
import Derived.Shelf.Strings.OnBuilder
import Derived.Shelf.Strings.Prefix
import Derived.Shelf.Strconv.Itoa3
import Derived.Lib.AppendIntMem
import Derived.Lib.ItoaLen
import Derived.Test.YtfpjecjadlgdcaaGreatDoorRows
import Derived.OpenShut
import Derived.Test.YtfpjecjadlgdcaaGreatDoorChecked
import Derived.Lay
import Derived.SevenTiedAt
set_option linter.unusedVariables false
set_option linter.unusedSimpArgs false
set_option linter.defProp false
namespace Go.Proofs.YtfpjecjadlgdcaaGreatDoor
abbrev Te(n:Int):Value:=.int .i64 n
abbrev Tg(b:Nat):Value:=.pointer (some ⟨b,0,none⟩)
noncomputable abbrev UA:=Tryz.prog
inductive Hid_(q:Prop):Prop|mk(h:q)
theorem Hid_.o{q:Prop}:Hid_ q->q|.mk h=>h
def My:=@Go.Addr.add_zero'
def Mz:=@Go.Addr.mk.injEq
def MA:=@Array.ext'
def MB:=@Array.foldl_toList
def MC:=@Array.getD_eq_getD_getElem?
def MD:=@Array.getElem?_append_left
def MF:=@Array.getElem?_eq_none
def MH:=@Array.getElem?_eq_some_iff
def MI:=@Array.getElem?_mapIdx
def MJ:=@Array.getElem?_modify
def MK:=@Array.getElem?_replicate
def MM:=@Array.getElem?_setIfInBounds
def MN:=@Array.getElem?_setIfInBounds_ne
def MO:=@Array.getElem?_toList
def MP:=@Array.length_toList
def MQ:=@Array.setIfInBounds_comm
def MR:=@Array.size_modify
def MS:=@Array.toList_zipIdx
def MT:=@Go.RowKit.Below.grown
def MU:=@Go.RowKit.Below.heap_alloc
def MV:=@Go.RowKit.Below.heap_setCell
def MW:=@Go.RowKit.Below.refl
def MX:=@BitVec.ofInt_natCast
def MY:=@BitVec.toNat_ofNat
def MZ:=@Bool.and_eq_true
def M0:=@Bool.and_false
def M1:=@Bool.eq_false_iff
def M2:=@Bool.eq_iff_iff
def M3:=@Bool.false_and
def M4:=@Bool.false_eq_true
def M5:=@Bool.false_or
def M6:=@Bool.not_eq_true
def M7:=@Bool.not_eq_true'
def M8:=@Bool.not_false
def M9:=@Bool.not_true
def M_:=@Bool.or_eq_false_iff
def Na:=@Bool.or_eq_true
def Nb:=@Bool.or_false
def Nc:=@Bool.or_true
def Nd:=@Bool.true_and
def Nf:=@Bool.true_or
def Ng:=@Go.Calls.mono
def Nh:=@Classical.byContradiction
def Ni:=@Classical.choose_spec
def Nj:=@Classical.not_and_iff_not_or_not
def Nk:=@Classical.not_forall
def Nl:=@Classical.not_not
def Nm:=@Iff.rfl
def Nn:=@Int.eq_ofNat_of_zero_le
def No:=@Int.le_refl
def Np:=@Int.lt_irrefl
def Nq:=@Int.not_le
def Nr:=@Int.not_lt
def Ns:=@Int.one_mul
def Nt:=@Int.toNat_natCast
def Nu:=@Int.toNat_of_nonneg
def Nv:=@Go.Lib.byteCells_length
def Nx:=@Go.Lib.cell_of_heap
def Ny:=@Go.Lib.frozen_of_heap
def Nz:=@Go.Lib.ownBlock_ne
def NA:=@Go.Lib.tabBelow_of_tabIs
def NB:=@List.all_eq_true
def NC:=@List.any_append
def ND:=@List.any_eq_false
def NE:=@List.any_eq_true
def NF:=@List.append_assoc
def NG:=@List.append_nil
def NH:=@List.cons.inj
def NI:=@List.cons_append
def NJ:=@List.contains_eq_any_beq
def NK:=@List.contains_iff_mem
def NL:=@List.countP_append
def NM:=@List.countP_cons
def NO:=@List.countP_le_length
def NP:=@List.countP_pos_iff
def NQ:=@List.countP_replicate
def NR:=@List.countP_set
def NS:=@List.drop_append
def NT:=@List.drop_append_of_le_length
def NU:=@List.drop_drop
def NV:=@List.drop_eq_getElem_cons
def NW:=@List.drop_eq_nil_of_le
def NX:=@List.drop_length
def NY:=@List.drop_succ_cons
def NZ:=@List.drop_zero
def N0:=@List.eq_nil_of_length_eq_zero
def N4:=@List.ext_getElem
def N5:=@List.ext_getElem?
def N6:=@List.filter_append
def N7:=@List.filter_cons
def N8:=@List.filter_cons_of_neg
def N9:=@List.filter_cons_of_pos
def N_:=@List.filter_nil
def Oa:=@List.findIdx?_eq_none_iff
def Ob:=@List.findIdx?_eq_some_iff_getElem
def Oc:=@List.flatMap_append
def Od:=@List.flatMap_cons
def Oe:=@List.flatten_cons
def Of:=@List.foldl_append
def Og:=@List.foldl_cons
def Oh:=@List.foldr_cons
def Oi:=@List.getD_eq_getElem?_getD
def Oj:=@List.getElem?_append_left
def Ok:=@List.getElem?_append_right
def Ol:=@List.getElem?_cons_succ
def Om:=@List.getElem?_drop
def On:=@List.getElem?_eq_getElem
def Oo:=@List.getElem?_eq_none
def Oq:=@List.getElem?_eq_some_iff
def Ot:=@List.getElem?_map
def Ou:=@List.getElem?_range
def Ov:=@List.getElem?_replicate
def Ow:=@List.getElem?_set
def Ox:=@List.getElem?_take
def Oy:=@List.getElem?_take_of_lt
def Oz:=@List.getElem_append_left
def OA:=@List.getElem_append_right
def OC:=@List.getElem_cons_succ
def OD:=@List.getElem_cons_zero
def OE:=@List.getElem_drop
def OF:=@List.getElem_map
def OG:=@List.getElem_mem
def OH:=@List.getElem_range
def OI:=@List.getElem_replicate
def OJ:=@List.getElem_set
def OK:=@List.getElem_set_self
def OL:=@List.getElem_take
def OM:=@List.getLast?_append
def ON:=@List.getLast_mem
def OO:=@List.idxOf_append
def OP:=@List.idxOf_lt_length_iff
def OQ:=@List.isEmpty_eq_false_iff
def OR:=@List.isEmpty_iff
def OS:=@List.isSuffixOf_iff_suffix
def OT:=@List.length_append
def OU:=@List.length_cons
def OW:=@List.length_drop
def OX:=@List.length_eq_one_iff
def OY:=@List.length_eq_zero_iff
def OZ:=@List.length_erase_of_mem
def O0:=@List.length_filter_le
def O1:=@List.length_map
def O2:=@List.length_nil
def O3:=@List.length_pos_iff
def O4:=@List.length_range
def O5:=@List.length_replicate
def O6:=@List.length_reverse
def O7:=@List.length_set
def O8:=@List.length_singleton
def O9:=@List.length_take
def O_:=@List.mapM_cons
def Pa:=@List.mapM_nil
def Pb:=@List.map_append
def Pc:=@List.map_congr_left
def Pd:=@List.map_cons
def Pe:=@List.map_map
def Pf:=@List.map_nil
def Pg:=@List.map_toArray
def Ph:=@List.mem_append
def Pi:=@List.mem_append_left
def Pj:=@List.mem_append_right
def Pk:=@List.mem_cons
def Pl:=@List.mem_cons_of_mem
def Pm:=@List.mem_cons_self
def Pn:=@List.mem_erase_of_ne
def Po:=@List.mem_filter
def Pp:=@List.mem_flatMap
def Pq:=@List.mem_iff_getElem
def Pr:=@List.mem_map
def Pt:=@List.mem_map_of_mem
def Pu:=@List.mem_of_getElem?
def Pv:=@List.mem_of_mem_drop
def Pw:=@List.mem_of_mem_take
def Px:=@List.mem_range
def Py:=@List.mem_singleton
def Pz:=@List.ne_nil_of_length_pos
def PA:=@List.nil_append
def PB:=@List.nodup_append
def PC:=@List.nodup_cons
def PD:=@List.nodup_range
def PE:=@List.not_mem_nil
def PG:=@List.pairwise_append
def PH:=@List.pairwise_cons
def PI:=@List.pairwise_iff_forall_sublist
def PJ:=@List.pairwise_map
def PK:=@List.pairwise_singleton
def PL:=@List.range_succ
def PM:=@List.replicate_succ
def PN:=@List.replicate_succ'
def PO:=@List.set_eq_take_append_cons_drop
def PP:=@List.set_getElem_self
def PQ:=@List.size_toArray
def PS:=@List.sum_cons
def PT:=@List.take_add_one
def PU:=@List.take_append_getElem
def PV:=@List.take_length
def PW:=@List.take_of_length_le
def PX:=@List.take_set_of_le
def PY:=@List.take_succ_cons
def PZ:=@List.take_succ_eq_append_getElem
def P0:=@List.take_zero
def P1:=@Go.MakeChecks.laidMetH_plain
def P2:=@Go.MapKept.run_getObj_map
def P3:=@Go.MapKept.run_setObj_map
def P4:=@Nat.add_comm
def P5:=@Nat.add_mul
def P6:=@Nat.add_mul_mod_self_right
def P7:=@Nat.add_right_comm
def P8:=@Nat.add_sub_cancel_left
def P9:=@Nat.add_zero
def P_:=@Nat.beq_refl
def Qa:=@Nat.div_eq_of_lt
def Qb:=@Nat.div_lt_iff_lt_mul
def Qc:=@Nat.eq_of_beq_eq_true
def Qd:=@Nat.eq_of_testBit_eq
def Qe:=@Nat.eq_zero_or_pos
def Qf:=@Nat.exists_eq_add_of_le
def Qg:=@Nat.le_of_ble_eq_true
def Qh:=@Nat.le_of_eq
def Qi:=@Nat.le_of_not_lt
def Qj:=@Nat.le_refl
def Qk:=@Nat.le_trans
def Ql:=@Nat.lt_irrefl
def Qm:=@Nat.lt_of_le_of_lt
def Qn:=@Nat.lt_of_lt_of_le
def Qo:=@Nat.lt_or_ge
def Qp:=@Nat.min_eq_left
def Qq:=@Nat.mod_eq_of_lt
def Qr:=@Nat.mod_lt
def Qs:=@Nat.mul_le_mul
def Qt:=@Nat.mul_le_mul_left
def Qu:=@Nat.mul_le_mul_right
def Qv:=@Nat.mul_one
def Qw:=@Nat.not_lt_zero
def Qx:=@Nat.one_le_two_pow
def Qy:=@Nat.one_mul
def Qz:=@Nat.one_shiftLeft
def QA:=@Nat.or_lt_two_pow
def QB:=@Nat.pow_le_pow_right
def QC:=@Nat.pow_lt_pow_right
def QD:=@Nat.shiftRight_eq_div_pow
def QE:=@Nat.shiftRight_le
def QF:=@Nat.sub_self
def QG:=@Nat.succ_le_of_lt
def QH:=@Nat.testBit_and
def QI:=@Nat.testBit_shiftRight
def QJ:=@Nat.zero_add
def QK:=@Nat.zero_le
def QM:=@Nat.zero_testBit
def QN:=@Ne.symm
def QO:=@Go.Oper.upon_value
def QP:=@Go.Oper.wp_mono
def QQ:=@Option.bind_eq_bind
def QR:=@Option.bind_eq_some_iff
def QS:=@Option.bind_some
def QT:=@Option.map_eq_some_iff
def QU:=@Option.pure_def
def QV:=@Option.some.inj
def QW:=@Option.some.injEq
def QX:=@Prod.mk.inj
def QY:=@Prod.mk.injEq
def QZ:=@Go.Program.keyLits.eq_def
def Q0:=@Go.Region.free_spec
def Q1:=@Go.Region.noSelect_spec
def Q2:=@Go.Result.andThen_ok
def Q3:=@Go.Rows.mono
def Q4:=@Go.Sem.run_bind
def Q5:=@Go.Sem.run_pure
def Q6:=@Go.Proofs.Tryz.func116
def Q7:=@Go.Proofs.Tryz.func5
def Q8:=@Go.Proofs.Tryz.isAgg3
def Q9:=@Go.Proofs.Tryz.isAgg4
def Q_:=@Go.Proofs.Tryz.isAgg5
def Ra:=@Go.Proofs.Tryz.isAgg9
def Rb:=@Go.Proofs.Tryz.ntmps116
def Re:=@Go.Proofs.Tryz.sizeOf110
def Rf:=@Go.Proofs.Tryz.sizeOf275
def Rg:=@Go.Proofs.Tryz.sizeOf3
def Rh:=@Go.Proofs.Tryz.sizeOf315
def Ri:=@Go.Proofs.Tryz.sizeOf4
def Rj:=@Go.Proofs.Tryz.sizeOf5
def Rk:=@Go.Proofs.Tryz.sizeOf9
def Rl:=@Go.Proofs.Tryz.underlying110
def Rm:=@Go.Proofs.Tryz.underlying131
def Rn:=@Go.Proofs.Tryz.underlying22
def Ro:=@Go.Proofs.Tryz.underlying226
def Rp:=@Go.Proofs.Tryz.underlying23
def Rq:=@Go.Proofs.Tryz.underlying233
def Rr:=@Go.Proofs.Tryz.underlying235
def Rs:=@Go.Proofs.Tryz.underlying27
def Ru:=@Go.Proofs.Tryz.underlying275
def Rv:=@Go.Proofs.Tryz.underlying29
def Rw:=@Go.Proofs.Tryz.underlying3
def Rx:=@Go.Proofs.Tryz.underlying30
def Ry:=@Go.Proofs.Tryz.underlying315
def Rz:=@Go.Proofs.Tryz.underlying33
def RA:=@Go.Proofs.Tryz.underlying37
def RB:=@Go.Proofs.Tryz.underlying39
def RC:=@Go.Proofs.Tryz.underlying4
def RD:=@Go.Proofs.Tryz.underlying5
def RE:=@Go.Proofs.Tryz.underlying50
def RF:=@Go.Proofs.Tryz.underlying66
def RG:=@Go.Proofs.Tryz.underlying75
def RH:=@Go.Proofs.Tryz.underlying80
def RI:=@Go.Proofs.Tryz.underlying9
def RJ:=@Go.Proofs.Tryz.zeroValue110
def RK:=@Go.Proofs.Tryz.zeroValue275
def RM:=@Go.Proofs.Tryz.zeroValue3
def RN:=@Go.Proofs.Tryz.zeroValue315
def RO:=@Go.Proofs.Tryz.zeroValue4
def RP:=@Go.Proofs.Tryz.zeroValue5
def RQ:=@Go.Proofs.Tryz.zeroValue9
def RR:=@UInt8.toNat_ofNat_of_lt'
def RS:=@Go.Value.slice.inj
def RT:=@Go.WideShapes.add_plain
def RU:=@Go.World.block_lt_of_cell?
def RV:=@and_assoc
def RW:=@and_congr
def RX:=@and_congr_right
def RY:=@beq_eq_false_iff_ne
def RZ:=@beq_iff_eq
def R0:=@beq_self_eq_true
def R1:=@Go.bits_and_u64_nat
def R2:=@bne_iff_ne
def R3:=@Go.bodyPost_ret
def R4:=@Go.cell_of_row
def R5:=@congrArg
def R6:=@decide_eq_decide
def R7:=@decide_eq_false
def R8:=@decide_eq_false_iff_not
def R9:=@decide_eq_true
def R_:=@decide_eq_true_eq
def Sa:=@decide_eq_true_iff
def Sb:=@decide_false
def Sc:=@decide_true
def Sd:=@dif_pos
def Se:=@gt_iff_lt
def Sf:=@Go.heap_alloc_new
def Sh:=@if_false
def Si:=@if_neg
def Sj:=@if_pos
def Sk:=@if_true
def Sm:=@Go.mem_ready
def Sn:=@not_congr
def So:=@not_or
def Sp:=@of_decide_eq_false
def Sq:=@of_decide_eq_true
def St:=@Go.ready_mono
def Su:=@Go.run_loadCells_list
def Sv:=@Go.run_program
def Sx:=@Go.run_storeCells_at
def Sy:=@Go.run_underlying
def Sz:=@Go.setRow_heap
def SA:=@Go.setRow_other
def SB:=@Go.wpAnyH_all
def SD:=@Go.wpAnyH_take
def SE:=@Go.wpList_step
def SF:=@Go.wpOp_mono
def SH:=@Go.wpQuiet_step
def SI:=@Go.wp_mono
def SJ:=@Go.wp_region_any
def SK:=@Go.wp_region_held
theorem SX{p:Prop}(s:p:=by exact fun _=>rfl):p:=s
theorem SY{p:Prop}(s:p:=by exact fun v γ γ' w w' h e _=>h.ext e):p:=s
theorem SZ{p:Prop}(s:p:=by exact fun g hg=>by cases hg;exact Qj _):p:=s
theorem S0{p:Prop}(s:p:=by exact fun _ h=>h.elim):p:=s
theorem S2{p:Prop}(s:p:=by exact fun g hg=>by cases hg;omega):p:=s
theorem S3{p:Prop}(s:p:=by exact fun _ h=>h):p:=s
theorem S4{p:Prop}(s:p:=by exact fun _ _=>⟨none,0,rfl,by simp,by simp[maxLen],fun _=>rfl,fun i hi=>absurd hi (by simp)⟩):p:=s
theorem S5{p:Prop}(s:p:=by exact fun k h=>by cases h):p:=s
theorem S6{p:Prop}(s:p:=by exact fun e=>by have:=QV e;omega):p:=s
theorem S7{p:Prop}(s:p:=by exact fun g hg=>by cases hg;exact .inl rfl):p:=s
theorem S8{p:Prop}(s:p:=by exact fun _ _=>rfl):p:=s
theorem S9{p:Prop}(s:p:=by exact CZ rfl):p:=s
theorem S_{p:Prop}(s:p:=by exact Rd.mkInt _ _ _):p:=s
theorem Ta{p:Prop}(s:p:=by exact Qj _):p:=s
theorem Tb{p:Prop}(s:p:=by exact MW _ _):p:=s
theorem Tc{p:Prop}(s:p:=by exact Ext.refl _):p:=s
theorem Td{p:Prop}(s:p:=by exact WL.nil (bd rfl (Ext.refl _) rfl)):p:=s
theorem SL{p:Prop}(s:p:=by repeat (first|exact trivial|refine⟨rfl,?_⟩)):p:=s
theorem SM{p:Prop}(s:p:=by omega):p:=s
theorem SN{p:Prop}(s:p:=by kernel_rfl):p:=s
theorem SP{p:Prop}(s:p:=by decide):p:=s
theorem SQ{p:Prop}(s:p:=by simp):p:=s
theorem SR{p:Prop}(s:p:=by dsimp only;omega):p:=s
theorem SS{p:Prop}(s:p:=by unfold maxLen;omega):p:=s
theorem ST{p:Prop}(s:p:=by simp;omega):p:=s
theorem SU{p:Prop}(s:p:=by simp only[OU,O2];omega):p:=s
theorem SV{p:Prop}(s:p:=by simp only[OT,OU,O2];omega):p:=s
theorem SW{p:Prop}(s:p:=by rw[O1];omega):p:=s
theorem Th{p q:Prop}(k:q)(s:Hid_ q->p:=by intro k;(repeat (first|(apply fX;rfl;rfl;rfl)|(apply WL.nil)|(apply bE)|(apply CW.seq)|(apply CW.region)|(apply CW.ret)|(apply bH)|(apply EX.inR)));exact k.o):p:=s ⟨k⟩
theorem Ti{p q:Prop}(k:q)(s:Hid_ q->p:=by intro k;(repeat (first|(apply fX;rfl;rfl;rfl)|(apply WL.nil)|(apply WL.pass;rfl;rfl)));exact k.o):p:=s ⟨k⟩
theorem Tj{p q:Prop}(k:q)(s:Hid_ q->p:=by intro k;(repeat (first|(apply WL.add;rfl;rfl;rfl;rfl;omega;omega)|(apply fX;rfl;rfl;rfl)|(apply WL.nil)|(apply bE)|(apply CW.region)|(apply EX.inN)|(apply CW.skip)));exact k.o):p:=s ⟨k⟩
theorem Tk{p q:Prop}(k:q)(s:Hid_ q->p:=by intro k;(repeat (first|(apply fX;rfl;rfl;rfl)|(apply WL.nil)|(apply bE)|(apply CW.ret)));exact k.o):p:=s ⟨k⟩
theorem Tl{p q:Prop}(k:q)(s:Hid_ q->p:=by intro k;(repeat (first|(apply fX;rfl;rfl;rfl)|(apply WL.nil)|(apply bE)));exact k.o):p:=s ⟨k⟩
theorem Tm{p q:Prop}(k:q)(s:Hid_ q->p:=by intro k;(repeat (first|(apply WL.nil)|(apply bE)|(apply CW.ret)));exact k.o):p:=s ⟨k⟩
theorem Tn{p q:Prop}(k:q)(s:Hid_ q->p:=by intro k;(repeat (first|(apply WL.add;rfl;rfl;rfl;rfl;omega;omega)|(apply fX;rfl;rfl;rfl)|(apply WL.nil)|(apply bE)|(apply CW.region)|(apply EX.inN)));exact k.o):p:=s ⟨k⟩
theorem To{p q:Prop}(k:q)(s:Hid_ q->p:=by intro k;(repeat (first|(apply WL.add;rfl;rfl;rfl;rfl;omega;omega)|(apply fX;rfl;rfl;rfl)|(apply WL.nil)|(apply bE)|(apply CW.region)|(apply EX.inN)|(apply CW.exit)|(apply bJ)|(apply a_)));exact k.o):p:=s ⟨k⟩
theorem Tp{p q:Prop}(k:q)(s:Hid_ q->p:=by intro k;(repeat (first|(apply bE)|(apply CW.ret)|(apply bH)|(apply EX.inR)));exact k.o):p:=s ⟨k⟩
theorem Tq{p q:Prop}(k:q)(s:Hid_ q->p:=by intro k;(repeat (first|(apply bE)|(apply CW.seq)|(apply CW.region)|(apply fy;rfl;rfl;rfl;assumption;rfl)|(apply CW.skip)));exact k.o):p:=s ⟨k⟩
theorem Tr{p q:Prop}(k:q)(s:Hid_ q->p:=by intro k;(repeat (first|(apply fX;rfl;rfl;rfl)|(apply WL.nil)|(apply bE)|(apply CW.seq)|(apply CW.region)|(apply aw;rfl)));exact k.o):p:=s ⟨k⟩
theorem Tt{p q:Prop}(k:q)(s:Hid_ q->p:=by intro k;(repeat (first|(apply EX.inN)|(apply CW.exit)|(apply bJ)|(apply a_)));exact k.o):p:=s ⟨k⟩
theorem Tu{p q:Prop}(k:q)(s:Hid_ q->p:=by intro k;(repeat (first|(apply fX;rfl;rfl;rfl)|(apply WL.nil)|(apply bE)|(apply CW.seq)|(apply CW.region)|(apply WL.makeFunc;rfl;rfl;rfl;rfl)));exact k.o):p:=s ⟨k⟩
theorem Tv{p q:Prop}(k:q)(s:Hid_ q->p:=by intro k;(repeat (first|(apply WL.add;rfl;rfl;rfl;rfl;omega;omega)|(apply fX;rfl;rfl;rfl)|(apply WL.nil)|(apply bE)|(apply CW.seq)|(apply CW.region)|(apply fm;rfl;rfl;rfl)|(apply fS;rfl;rfl;rfl)|(apply fx;rfl;rfl;rfl;assumption;rfl)));exact k.o):p:=s ⟨k⟩
theorem Tw{p q:Prop}(k:q)(s:Hid_ q->p:=by intro k;(repeat (first|(apply fX;rfl;rfl;rfl)|(apply WL.nil)|(apply bE)|(apply CW.seq)|(apply CW.region)|(apply CW.ret)|(apply bH)));exact k.o):p:=s ⟨k⟩
theorem Tx{p q:Prop}(k:q)(s:Hid_ q->p:=by intro k;(repeat (first|(apply fX;rfl;rfl;rfl)|(apply WL.nil)|(apply bE)|(apply CW.seq)|(apply CW.region)|(apply EX.inN)|(apply CW.ret)|(apply CW.skip)));exact k.o):p:=s ⟨k⟩
theorem Ty{p q:Prop}(k:q)(s:Hid_ q->p:=by intro k;(repeat (first|(apply fX;rfl;rfl;rfl)|(apply WL.nil)|(apply bE)|(apply CW.seq)|(apply CW.region)|(apply fC;rfl;rfl;rfl)|(apply fm;rfl;rfl;rfl)|(apply fx;rfl;rfl;rfl;assumption;rfl)|(apply CW.block)));exact k.o):p:=s ⟨k⟩
theorem Tz{p q:Prop}(k:q)(s:Hid_ q->p:=by intro k;(repeat (first|(apply WL.add;rfl;rfl;rfl;rfl;omega;omega)|(apply fX;rfl;rfl;rfl)|(apply WL.nil)|(apply bE)|(apply CW.region)|(apply WL.pass;rfl;rfl)|(apply EX.inN)|(apply aw;rfl)|(apply CW.skip)));exact k.o):p:=s ⟨k⟩
theorem TA{p q:Prop}(k:q)(s:Hid_ q->p:=by intro k;(repeat (first|(apply fX;rfl;rfl;rfl)|(apply WL.nil)|(apply bE)|(apply CW.seq)|(apply CW.region)|(apply WL.pass;rfl;rfl)|(apply ax;rfl)|(apply CW.ret)|(apply bH)));exact k.o):p:=s ⟨k⟩
theorem TB{p q:Prop}(k:q)(s:Hid_ q->p:=by intro k;(repeat (first|(apply fX;rfl;rfl;rfl)|(apply WL.nil)|(apply bE)|(apply fk;rfl;rfl;rfl;rfl)|(apply fC;rfl;rfl;rfl)|(apply CW.ret)));exact k.o):p:=s ⟨k⟩
theorem TC{p q:Prop}(k:q)(s:Hid_ q->p:=by intro k;(repeat (first|(apply WL.add;rfl;rfl;rfl;rfl;omega;omega)|(apply fX;rfl;rfl;rfl)|(apply WL.nil)|(apply bE)|(apply CW.seq)|(apply CW.region)|(apply WL.pass;rfl;rfl)|(apply fT;rfl;rfl;rfl;rfl)|(apply fm;rfl;rfl;rfl)|(apply fx;rfl;rfl;rfl;assumption;rfl)|(apply EX.inN)|(apply aw;rfl)|(apply CW.skip)));exact k.o):p:=s ⟨k⟩
theorem TD{p q:Prop}(k:q)(s:Hid_ q->p:=by intro k;(repeat (first|(apply EX.inN)|(apply aw;rfl)|(apply CW.skip)));exact k.o):p:=s ⟨k⟩
theorem TE{p q:Prop}(k:q)(s:Hid_ q->p:=by intro k;(repeat (first|(apply fX;rfl;rfl;rfl)|(apply WL.nil)|(apply bE)|(apply CW.seq)|(apply CW.region)|(apply fC;rfl;rfl;rfl)|(apply fy;rfl;rfl;rfl;assumption;rfl)|(apply CW.block)|(apply aw;rfl)|(apply CW.skip)));exact k.o):p:=s ⟨k⟩
theorem TF{p q:Prop}(k:q)(s:Hid_ q->p:=by intro k;(repeat (first|(apply WL.add;rfl;rfl;rfl;rfl;omega;omega)|(apply gh;rfl;rfl;rfl;rfl;omega;omega)|(apply fX;rfl;rfl;rfl)|(apply WL.nil)|(apply bE)|(apply CW.seq)|(apply CW.region)|(apply fC;rfl;rfl;rfl)|(apply EX.inN)|(apply ax;rfl)));exact k.o):p:=s ⟨k⟩
theorem TG{p q:Prop}(k:q)(s:Hid_ q->p:=by intro k;(repeat (first|(apply CW.seq)|(apply CW.region)|(apply fm;rfl;rfl;rfl)|(apply fx;rfl;rfl;rfl;assumption;rfl)|(apply fy;rfl;rfl;rfl;assumption;rfl)));exact k.o):p:=s ⟨k⟩
theorem TH{p q:Prop}(k:q)(s:Hid_ q->p:=by intro k;(repeat (first|(apply fX;rfl;rfl;rfl)|(apply WL.nil)|(apply bE)|(apply fC;rfl;rfl;rfl)|(apply fm;rfl;rfl;rfl)|(apply fx;rfl;rfl;rfl;assumption;rfl)));exact k.o):p:=s ⟨k⟩
theorem TI{p q:Prop}(k:q)(s:Hid_ q->p:=by intro k;(repeat (first|(apply fX;rfl;rfl;rfl)|(apply WL.nil)|(apply bE)|(apply CW.seq)|(apply CW.region)|(apply CW.block)|(apply CW.skip)));exact k.o):p:=s ⟨k⟩
theorem TJ{p q:Prop}(k:q)(s:Hid_ q->p:=by intro k;(repeat (first|(apply fX;rfl;rfl;rfl)|(apply WL.nil)|(apply bE)|(apply CW.seq)|(apply CW.region)|(apply fm;rfl;rfl;rfl)|(apply fx;rfl;rfl;rfl;assumption;rfl)));exact k.o):p:=s ⟨k⟩
theorem TK{p q:Prop}(k:q)(s:Hid_ q->p:=by intro k;(repeat (first|(apply fX;rfl;rfl;rfl)|(apply WL.nil)|(apply EX.inN)));exact k.o):p:=s ⟨k⟩
theorem TL{p q:Prop}(k:q)(s:Hid_ q->p:=by intro k;(repeat (first|(apply fX;rfl;rfl;rfl)|(apply bE)|(apply CW.seq)|(apply CW.region)|(apply CW.block)|(apply CW.skip)));exact k.o):p:=s ⟨k⟩
theorem TN{p q:Prop}(k:q)(s:Hid_ q->p:=by intro k;(repeat (first|(apply fX;rfl;rfl;rfl)|(apply WL.nil)|(apply bE)|(apply CW.seq)|(apply CW.region)|(apply fy;rfl;rfl;rfl;assumption;rfl)));exact k.o):p:=s ⟨k⟩
theorem TO{p q:Prop}(k:q)(s:Hid_ q->p:=by intro k;(repeat (first|(apply fX;rfl;rfl;rfl)|(apply WL.nil)|(apply bE)|(apply CW.seq)|(apply CW.region)|(apply CW.exit)|(apply bJ)|(apply a_)|(apply CW.ret)));exact k.o):p:=s ⟨k⟩
theorem TP{p q:Prop}(k:q)(s:Hid_ q->p:=by intro k;(repeat (first|(apply fX;rfl;rfl;rfl)|(apply CW.seq)|(apply CW.region)));exact k.o):p:=s ⟨k⟩
theorem TQ{p q:Prop}(k:q)(s:Hid_ q->p:=by intro k;(repeat (first|(apply fX;rfl;rfl;rfl)|(apply WL.nil)|(apply bE)|(apply CW.seq)|(apply CW.region)|(apply fC;rfl;rfl;rfl)|(apply WL.makeFunc;rfl;rfl;rfl;rfl)|(apply fm;rfl;rfl;rfl)|(apply fS;rfl;rfl;rfl)|(apply fx;rfl;rfl;rfl;assumption;rfl)|(apply CW.block)|(apply ax;rfl)));exact k.o):p:=s ⟨k⟩
theorem TR{p q:Prop}(k:q)(s:Hid_ q->p:=by intro k;(repeat (first|(apply fX;rfl;rfl;rfl)|(apply WL.nil)|(apply bE)|(apply CW.seq)|(apply CW.region)|(apply fC;rfl;rfl;rfl)|(apply CW.block)));exact k.o):p:=s ⟨k⟩
theorem TS{p q:Prop}(k:q)(s:Hid_ q->p:=by intro k;(repeat (first|(apply fX;rfl;rfl;rfl)|(apply WL.nil)|(apply bE)|(apply CW.seq)|(apply CW.region)|(apply fC;rfl;rfl;rfl)|(apply fm;rfl;rfl;rfl)|(apply fS;rfl;rfl;rfl)|(apply fx;rfl;rfl;rfl;assumption;rfl)|(apply CW.block)|(apply EX.inN)|(apply aw;rfl)|(apply CW.skip)));exact k.o):p:=s ⟨k⟩
theorem TT{p q:Prop}(k:q)(s:Hid_ q->p:=by intro k;(repeat (first|(apply fX;rfl;rfl;rfl)|(apply WL.nil)|(apply bE)|(apply WL.pass;rfl;rfl)|(apply CW.ret)|(apply bH)|(apply EX.inR)));exact k.o):p:=s ⟨k⟩
theorem TU{p q:Prop}(k:q)(s:Hid_ q->p:=by intro k;(repeat (first|(apply gh;rfl;rfl;rfl;rfl;omega;omega)|(apply fX;rfl;rfl;rfl)|(apply WL.nil)|(apply bE)|(apply CW.seq)|(apply CW.region)|(apply fC;rfl;rfl;rfl)|(apply CW.block)|(apply CW.skip)|(refine fB rfl rfl rfl (by assumption) ?_)));exact k.o):p:=s ⟨k⟩
theorem TV{p q:Prop}(k:q)(s:Hid_ q->p:=by intro k;(repeat (first|(apply bE)|(apply CW.ret)));exact k.o):p:=s ⟨k⟩
theorem TW{p q:Prop}(k:q)(s:Hid_ q->p:=by intro k;(repeat (first|(apply WL.add;rfl;rfl;rfl;rfl;omega;omega)|(apply fX;rfl;rfl;rfl)|(apply WL.nil)|(apply bE)|(apply CW.seq)|(apply CW.region)|(apply WL.pass;rfl;rfl)|(apply fm;rfl;rfl;rfl)|(apply fx;rfl;rfl;rfl;assumption;rfl)|(apply fy;rfl;rfl;rfl;assumption;rfl)|(apply ax;rfl)|(apply fw;rfl;rfl;rfl)));exact k.o):p:=s ⟨k⟩
theorem TX{p q:Prop}(k:q)(s:Hid_ q->p:=by intro k;(repeat (first|(apply fX;rfl;rfl;rfl)|(apply WL.nil)|(apply bE)|(apply CW.seq)|(apply CW.region)|(apply WL.makeFunc;rfl;rfl;rfl;rfl)|(apply fm;rfl;rfl;rfl)|(apply fx;rfl;rfl;rfl;assumption;rfl)|(apply CW.block)|(apply ax;rfl)|(apply aw;rfl)));exact k.o):p:=s ⟨k⟩
theorem TY{p q:Prop}(k:q)(s:Hid_ q->p:=by intro k;(repeat (first|(apply fX;rfl;rfl;rfl)|(apply CW.seq)|(apply CW.region)|(apply fm;rfl;rfl;rfl)|(apply fS;rfl;rfl;rfl)|(apply fx;rfl;rfl;rfl;assumption;rfl)));exact k.o):p:=s ⟨k⟩
theorem TZ{p q:Prop}(k:q)(s:Hid_ q->p:=by intro k;(repeat (first|(apply fX;rfl;rfl;rfl)|(apply CW.seq)|(apply CW.region)|(apply fy;rfl;rfl;rfl;assumption;rfl)|(apply ax;rfl)));exact k.o):p:=s ⟨k⟩
theorem T0{p q:Prop}(k:q)(s:Hid_ q->p:=by intro k;(repeat (first|(apply ax;rfl)|(apply CW.skip)));exact k.o):p:=s ⟨k⟩
theorem T1{p q:Prop}(k:q)(s:Hid_ q->p:=by intro k;(repeat (first|(apply WL.nil)|(apply bE)));exact k.o):p:=s ⟨k⟩
theorem T2{p q:Prop}(k:q)(s:Hid_ q->p:=by intro k;(repeat (first|(apply fX;rfl;rfl;rfl)|(apply WL.nil)|(apply bE)|(apply CW.seq)|(apply CW.region)));exact k.o):p:=s ⟨k⟩
theorem T3{p q:Prop}(k:q)(s:Hid_ q->p:=by intro k;(repeat (first|(apply bE)|(apply CW.seq)|(apply CW.region)|(apply WL.makeFunc;rfl;rfl;rfl;rfl)|(apply fm;rfl;rfl;rfl)|(apply fx;rfl;rfl;rfl;assumption;rfl)|(apply fy;rfl;rfl;rfl;assumption;rfl)|(apply EX.inN)|(apply aw;rfl)|(apply CW.skip)));exact k.o):p:=s ⟨k⟩
theorem T4{p q:Prop}(k:q)(s:Hid_ q->p:=by intro k;(repeat (first|(apply fX;rfl;rfl;rfl)|(apply WL.nil)|(apply bE)|(apply CW.seq)|(apply CW.region)|(apply ax;rfl)|(apply aw;rfl)|(apply CW.skip)));exact k.o):p:=s ⟨k⟩
theorem T5{p q:Prop}(k:q)(s:Hid_ q->p:=by intro k;(repeat (first|(apply fX;rfl;rfl;rfl)|(apply WL.nil)|(apply bE)|(apply CW.ret)|(apply bH)|(apply EX.inR)));exact k.o):p:=s ⟨k⟩
theorem T6{p q:Prop}(k:q)(s:Hid_ q->p:=by intro k;(repeat (first|(apply fX;rfl;rfl;rfl)|(apply WL.nil)|(apply bE)|(apply CW.seq)|(apply CW.region)|(apply fC;rfl;rfl;rfl)|(apply fm;rfl;rfl;rfl)|(apply fS;rfl;rfl;rfl)|(apply fx;rfl;rfl;rfl;assumption;rfl)|(apply CW.block)|(apply CW.exit)|(apply bJ)|(apply a_)|(apply CW.ret)|(refine fB rfl rfl rfl (by assumption) ?_)));exact k.o):p:=s ⟨k⟩
theorem T7{p q:Prop}(k:q)(s:Hid_ q->p:=by intro k;(repeat (first|(apply bE)|(apply CW.seq)|(apply CW.region)|(apply CW.block)|(apply CW.skip)));exact k.o):p:=s ⟨k⟩
theorem T8{p q:Prop}(k:q)(s:Hid_ q->p:=by intro k;(repeat (first|(apply fX;rfl;rfl;rfl)|(apply WL.nil)|(apply bE)|(apply CW.seq)|(apply CW.region)|(apply WL.pass;rfl;rfl)|(apply ax;rfl)|(apply CW.ret)|(apply bH)|(apply EX.inR)|(apply CW.skip)));exact k.o):p:=s ⟨k⟩
theorem T9{p q:Prop}(k:q)(s:Hid_ q->p:=by intro k;(repeat (first|(apply CW.seq)|(apply CW.region)));exact k.o):p:=s ⟨k⟩
theorem T_{p q:Prop}(k:q)(s:Hid_ q->p:=by intro k;(repeat (first|(apply fX;rfl;rfl;rfl)|(apply WL.nil)|(apply bE)|(apply CW.seq)|(apply CW.region)|(apply fm;rfl;rfl;rfl)|(apply fS;rfl;rfl;rfl)|(apply fx;rfl;rfl;rfl;assumption;rfl)|(apply fy;rfl;rfl;rfl;assumption;rfl)|(apply CW.block)|(apply EX.inN)|(apply ax;rfl)|(apply aw;rfl)|(apply CW.ret)|(apply bH)|(apply EX.inR)|(apply CW.skip)));exact k.o):p:=s ⟨k⟩
theorem Ua{p q:Prop}(k:q)(s:Hid_ q->p:=by intro k;(repeat (first|(apply WL.add;rfl;rfl;rfl;rfl;omega;omega)|(apply fX;rfl;rfl;rfl)|(apply WL.nil)|(apply bE)|(apply CW.seq)|(apply CW.region)|(apply WL.pass;rfl;rfl)|(apply EX.inN)|(apply ax;rfl)|(apply aw;rfl)|(apply CW.exit)|(apply bJ)|(apply a_)|(apply ba;rfl)|(apply CW.ret)|(apply CW.skip)));exact k.o):p:=s ⟨k⟩
theorem Ub{p q:Prop}(k:q)(s:Hid_ q->p:=by intro k;(repeat (first|(apply WL.add;rfl;rfl;rfl;rfl;omega;omega)|(apply fX;rfl;rfl;rfl)|(apply bE)|(apply CW.seq)|(apply CW.region)|(apply WL.makeFunc;rfl;rfl;rfl;rfl)|(apply fm;rfl;rfl;rfl)|(apply fS;rfl;rfl;rfl)|(apply fx;rfl;rfl;rfl;assumption;rfl)|(apply fy;rfl;rfl;rfl;assumption;rfl)|(apply CW.block)|(apply CW.exit)|(apply bJ)|(apply a_)|(apply ba;rfl)));exact k.o):p:=s ⟨k⟩
theorem Uc{p q:Prop}(k:q)(s:Hid_ q->p:=by intro k;(repeat (first|(apply QL.add;rfl;rfl;rfl;rfl;omega;omega)|(apply dQ;rfl;rfl;rfl;rfl;omega;omega)|(apply fX;rfl;rfl;rfl)|(apply dN;rfl;rfl;rfl)|(apply WL.nil)|(apply bE)|(apply CW.seq)|(apply CW.region)|(apply dH;rfl;rfl;rfl)|(apply dD;rfl;rfl;rfl)|(apply dK;rfl;rfl;rfl)|(apply dF;rfl;rfl;rfl;assumption;rfl)|(apply CW.block)|(apply aw;rfl)|(apply CW.exit)|(apply bJ)|(apply a_)|(apply CW.skip)|(apply aC;exact mixed;kernel_rfl)));exact k.o):p:=s ⟨k⟩
theorem Ud{p q:Prop}(k:q)(s:Hid_ q->p:=by intro k;(repeat (first|(apply fX;rfl;rfl;rfl)|(apply dN;rfl;rfl;rfl)|(apply WL.nil)|(apply bE)|(apply CW.seq)|(apply CW.region)|(apply dD;rfl;rfl;rfl)|(apply dK;rfl;rfl;rfl)|(apply dF;rfl;rfl;rfl;assumption;rfl)|(apply dG;rfl;rfl;rfl;assumption;rfl)|(apply aw;rfl)|(apply aC;exact mixed;kernel_rfl)));exact k.o):p:=s ⟨k⟩
theorem Ue{p q:Prop}(k:q)(s:Hid_ q->p:=by intro k;(repeat (apply fX;rfl;rfl;rfl));exact k.o):p:=s ⟨k⟩
theorem Uf{p q:Prop}(k:q)(s:Hid_ q->p:=by intro k;(repeat (apply dN;rfl;rfl;rfl));exact k.o):p:=s ⟨k⟩
theorem Ug{p q:Prop}(k:q)(s:Hid_ q->p:=by intro k;(repeat (apply fm;rfl;rfl;rfl));exact k.o):p:=s ⟨k⟩
theorem Uh{p q:Prop}(k:q)(s:Hid_ q->p:=by intro k;(repeat (first|(apply fX;rfl;rfl;rfl)|(apply fm;rfl;rfl;rfl)|(apply fx;rfl;rfl;rfl;assumption;rfl)));exact k.o):p:=s ⟨k⟩
theorem Ui{p q:Prop}(k:q)(s:Hid_ q->p:=by intro k;(repeat (first|(apply fX;rfl;rfl;rfl)|(apply fT;rfl;rfl;rfl;rfl)|(apply fC;rfl;rfl;rfl)|(apply fm;rfl;rfl;rfl)|(apply fx;rfl;rfl;rfl;assumption;rfl)));exact k.o):p:=s ⟨k⟩
theorem Uj{p q:Prop}(k:q)(s:Hid_ q->p:=by intro k;(repeat (first|(apply WL.add;rfl;rfl;rfl;rfl;omega;omega)|(apply fX;rfl;rfl;rfl)|(apply WL.pass;rfl;rfl)|(apply WL.makeFunc;rfl;rfl;rfl;rfl)|(apply fm;rfl;rfl;rfl)|(apply fS;rfl;rfl;rfl)|(apply fx;rfl;rfl;rfl;assumption;rfl)));exact k.o):p:=s ⟨k⟩
theorem Uk{p q:Prop}(k:q)(s:Hid_ q->p:=by intro k;(repeat (first|(apply fX;rfl;rfl;rfl)|(apply fm;rfl;rfl;rfl)|(apply fS;rfl;rfl;rfl)|(apply fy;rfl;rfl;rfl;assumption;rfl)));exact k.o):p:=s ⟨k⟩
theorem Ul{p q:Prop}(k:q)(s:Hid_ q->p:=by intro k;(repeat (first|(apply gh;rfl;rfl;rfl;rfl;omega;omega)|(apply fX;rfl;rfl;rfl)|(apply WL.pass;rfl;rfl)|(apply fT;rfl;rfl;rfl;rfl)));exact k.o):p:=s ⟨k⟩
theorem Um{p q:Prop}(k:q)(s:Hid_ q->p:=by intro k;(repeat (first|(apply dN;rfl;rfl;rfl)|(apply dH;rfl;rfl;rfl)|(apply dD;rfl;rfl;rfl)|(apply dK;rfl;rfl;rfl)|(apply dF;rfl;rfl;rfl;assumption;rfl)));exact k.o):p:=s ⟨k⟩
theorem Un{p q:Prop}(k:q)(s:Hid_ q->p:=by intro k;(repeat (first|(apply dQ;rfl;rfl;rfl;rfl;omega;omega)|(apply dN;rfl;rfl;rfl)|(apply QL.pass;rfl;rfl)|(apply dH;rfl;rfl;rfl)));exact k.o):p:=s ⟨k⟩
theorem Uo{p q:Prop}(k:q)(s:Hid_ q->p:=by intro k;(repeat (first|(apply c9;rfl;rfl;rfl;(intro γ' w' hw';apply gh;rfl;rfl;rfl;rfl;omega;omega;exact WL.nil (bd rfl (Ext.refl _) rfl)))|(apply c9;rfl;rfl;rfl;(intro γ' w' hw';apply fx;rfl;rfl;rfl;apply Blk.ext;assumption;exact hw';rfl;exact WL.nil (bd rfl (Ext.refl _) rfl)))|(apply c9;rfl;rfl;rfl;(intro γ' w' hw';apply fy;rfl;rfl;rfl;apply Blk.ext;assumption;exact hw';rfl;exact WL.nil (bd rfl (Ext.refl _) rfl)))));exact k.o):p:=s ⟨k⟩
theorem Up{p q:Prop}(k:q)(s:Hid_ q->p:=by intro k;(repeat (first|(apply cF;rfl;rfl;rfl;rfl)|(apply HL.pass;rfl;rfl;rfl)|(refine ck rfl rfl rfl rfl ?_)|(apply cE;rfl;rfl;rfl;rfl)|(refine cq (by assumption) rfl rfl rfl rfl (by assumption) rfl ?_)|(refine cr (by assumption) rfl rfl rfl rfl (by assumption) rfl ?_)|(refine cC rfl rfl rfl rfl ?_)|(apply HL.makeFunc;rfl;rfl;rfl;rfl;rfl)));exact k.o):p:=s ⟨k⟩
theorem Uq{p q:Prop}(k:q)(s:Hid_ q->p:=by intro k;(repeat (first|(apply cF;rfl;rfl;rfl;rfl)|(refine ck rfl rfl rfl rfl ?_)));exact k.o):p:=s ⟨k⟩
theorem Ur{p q:Prop}(k:q)(s:Hid_ q->p:=by intro k;(repeat (first|(apply HL.add;rfl;rfl;rfl;rfl;rfl;omega;omega)|(refine ck rfl rfl rfl rfl ?_)|(refine cz (by assumption) rfl rfl rfl rfl (by assumption) rfl ?_)));exact k.o):p:=s ⟨k⟩
theorem Us{p q:Prop}(k:q)(s:Hid_ q->p:=by intro k;(repeat (first|(apply cJ;rfl;rfl;rfl;rfl;rfl;omega;omega)|(apply cF;rfl;rfl;rfl;rfl)|(refine ck rfl rfl rfl rfl ?_)|(apply cE;rfl;rfl;rfl;rfl)|(refine cz (by assumption) rfl rfl rfl rfl (by assumption) rfl ?_)|(refine cC rfl rfl rfl rfl ?_)|(refine HL.build rfl rfl rfl rfl rfl ?_)));exact k.o):p:=s ⟨k⟩
theorem Ut{p q:Prop}(k:q)(s:Hid_ q->p:=by intro k;(repeat (first|(apply cF;rfl;rfl;rfl;rfl)|(refine ck rfl rfl rfl rfl ?_)|(apply cE;rfl;rfl;rfl;rfl)|(refine cq (by assumption) rfl rfl rfl rfl (by assumption) rfl ?_)));exact k.o):p:=s ⟨k⟩
theorem Uu{p q:Prop}(k:q)(s:Hid_ q->p:=by intro k;(repeat (first|(apply cF;rfl;rfl;rfl;rfl)|(apply HL.nil)));exact k.o):p:=s ⟨k⟩
theorem Uv{p q:Prop}(k:q)(s:Hid_ q->p:=by intro k;(repeat (first|(refine ck rfl rfl rfl rfl ?_)|(apply cE;rfl;rfl;rfl;rfl)|(refine cz (by assumption) rfl rfl rfl rfl (by assumption) rfl ?_)|(refine cC rfl rfl rfl rfl ?_)|(apply HL.nil)));exact k.o):p:=s ⟨k⟩
theorem Uw{p q:Prop}(k:q)(s:Hid_ q->p:=by intro k;(repeat (first|(refine c_ (fun γ' w' hw'=>fm rfl rfl rfl (WL.nil (bd rfl (Ext.refl _) rfl))) ?_)|(apply c9;rfl;rfl;rfl;(intro γ' w' hw';apply fx;rfl;rfl;rfl;apply Blk.ext;assumption;exact hw';rfl;exact WL.nil (bd rfl (Ext.refl _) rfl)))));exact k.o):p:=s ⟨k⟩
theorem Ux{p q:Prop}(k:q)(s:Hid_ q->p:=by intro k;(repeat (first|(apply c9;rfl;rfl;rfl;(intro γ' w' hw';apply gh;rfl;rfl;rfl;rfl;omega;omega;exact WL.nil (bd rfl (Ext.refl _) rfl)))|(refine c_ (fun γ' w' hw'=>fX rfl rfl rfl (WL.nil (bd rfl (Ext.refl _) rfl))) ?_)|(apply c9;rfl;rfl;rfl;(intro γ' w' hw';apply fy;rfl;rfl;rfl;apply Blk.ext;assumption;exact hw';rfl;exact WL.nil (bd rfl (Ext.refl _) rfl)))));exact k.o):p:=s ⟨k⟩
theorem Uy{p q:Prop}(k:q)(s:Hid_ q->p:=by intro k;(repeat (first|(refine c_ (fun γ' w' hw'=>fm rfl rfl rfl (WL.nil (bd rfl (Ext.refl _) rfl))) ?_)|(apply c9;rfl;rfl;rfl;(intro γ' w' hw';apply fx;rfl;rfl;rfl;apply Blk.ext;assumption;exact hw';rfl;exact WL.nil (bd rfl (Ext.refl _) rfl)))|(apply c9;rfl;rfl;rfl;(intro γ' w' hw';apply fy;rfl;rfl;rfl;apply Blk.ext;assumption;exact hw';rfl;exact WL.nil (bd rfl (Ext.refl _) rfl)))));exact k.o):p:=s ⟨k⟩
theorem Uz{p q:Prop}(k:q)(s:Hid_ q->p:=by intro k;(repeat (refine c_ (fun γ' w' hw'=>fX rfl rfl rfl (WL.nil (bd rfl (Ext.refl _) rfl))) ?_));exact k.o):p:=s ⟨k⟩
set_option maxHeartbeats 4000000
variable{P:Program}{α:Type}{B a:Nat}{m:List Int}{F:Nat→Prop}{w:World}{v o:Value}{g:List (List Int)}{x:Int}{l:List Bool}{r:List Value}{t:TypeId}{Q:Exit→Act→World→Prop}{e:Nat→Nat→Prop}{p:Nat→Nat}{s:List Nat}{L:List Oper}{c:Value→World→Prop}{y:Array Bool}{S:World→Prop}{b:Value→(Nat→Nat)→World→Prop}{j:Array Edge}{u:List (Nat×Bool)}{G:String}{H:Array TypeId}{M:Array Value}
open Go.RowKit
abbrev Sg:=List (Nat×Value)
def fnd:Sg->Nat->Option Value
 |[],_=>none
 |(k,v)::r,t=>match Nat.beq k t with
  |true=>some v
  |false=>fnd r t
structure Fr(n:Nat)(σ:Sg)(a:Act):Prop where
 size:a.tmps.size=n
 defers:a.defers=[]
 slot:∀t v,fnd σ t=some v->a.tmps.getD t undef=v
def ev(σ:Sg):Operand->Option Value
 |.tmp t=>fnd σ t
 |.const v=>some v
 |.global g=>some (.pointer (some ⟨g,0,none⟩))
 |.func f=>some (.func (.func f) #[] #[])
def Fr.ev{n:Nat}{σ:Sg}{a:Act}(h:Fr n σ a){x:Operand}(b:ev σ x=some v):a.eval x=v:=by
 cases x with
 |tmp t=>exact h.slot t v b
 |const u=>exact QV b
 |global g=>exact QV b
 |func f=>exact QV b
def EK(d:Option Nat)(v:Value)(σ:Sg):Sg:=match d with|some d=>(d,v)::σ|none=>σ
def rK{σ:Sg}{d:Nat}:fnd ((d,v)::σ) d=some v:=by
 show(match Nat.beq d d with|true=>some v|false=>fnd σ d)=_;rw[P_ d]
def jc{d t:Nat}(h:d≠t):Nat.beq d t=false:=by
 cases e:Nat.beq d t with
 |false=>rfl
 |true=>exact absurd (Qc e) h
def rL{σ:Sg}{d t:Nat}(h:d≠t):fnd ((d,v)::σ) t=fnd σ t:=by
 show(match Nat.beq d t with|true=>some v|false=>fnd σ t)=_;rw[jc h]
def CO(n:Nat):Option Nat->Bool|some d=>Nat.ble (d+1) n|none=>true
def Fr.put{n:Nat}{σ:Sg}{a:Act}(h:Fr n σ a){d:Option Nat}(hd:CO n d=true):Fr n (EK d v σ) (a.put d v):=by
 cases d with
 |none=>exact h
 |some d=>
  have hd':d<n:=Qg hd;refine⟨by simpa[Act.put]using h.size,by simpa[Act.put]using h.defers,?_⟩;intro t u b
  by_cases e:d=t
  ·subst e
   rw[EK,rK]at b
   cases b
   simp[Act.put,Array.getD,h.size,hd']
  ·rw[EK,rL e]at b
   have:=h.slot t u b;simp only[Act.put,MC]at this⊢
   rw[MN e];exact this
def Fr.set{n:Nat}{σ:Sg}{a:Act}(h:Fr n σ a){s:Nat}(c:fnd σ s=some v):Fr n ((s,v)::σ) a:=by
 refine⟨h.size,h.defers,fun t u b=>?_⟩;by_cases e:s=t
 ·subst e;rw[rK]at b;cases b;exact h.slot _ _ c
 ·rw[rL e]at b;exact h.slot _ _ b
def Sub:Sg->Sg->Prop
 |[],_=>True
 |p::r,σ=>fnd σ p.1=some p.2/\Sub r σ
def Sub.fnd{τ σ:Sg}(h:Sub τ σ):∀t v,fnd τ t=some v->fnd σ t=some v:=by
 induction τ with
 |nil=>intro t v a;cases a
 |cons p r b=>
  intro t v a
  by_cases e:p.1=t
  ·subst e
   obtain⟨d,u⟩:=p;rw[rK]at a
   cases a
   exact h.1
  ·obtain⟨d,u⟩:=p
   rw[rL e]at a
   exact b h.2 t v a
def Fr.sub{n:Nat}{σ τ:Sg}{a:Act}(h:Fr n σ a)(c:Sub τ σ):Fr n τ a:=⟨h.size,h.defers,fun t v b=>h.slot t v (c.fnd t v b)⟩
@[irreducible] def CW (P:Program) (c:Code) (Q:Exit->Act->World->Prop) (n:Nat) (σ:Sg) (w:World):Prop:=∀a,Fr n σ a->c.wp P Q a w
@[irreducible] def EX (Q:Exit->Act->World->Prop) (e:Exit) (n:Nat) (σ:Sg) (w:World):Prop:=∀a,Fr n σ a->Q e a w
@[irreducible] def WL (P:Program) (ops:List Oper) (Q:Exit->Act->World->Prop) (l:List Oper) (n:Nat) (σ:Sg) (w:World):Prop:=∀a,Fr n σ a->wpList P ops.toArray Q l a w
section
variable {P:Program}{Q:Exit->Act->World->Prop}{n:Nat}{σ:Sg}{w:World}
theorem CW.seq{x y:Code}(h:CW P x (Exit.then (y.wp P Q) Q) n σ w):CW P (.seq x y) Q n σ w:=by
 unfold CW at*;exact fun a b=>wp_seq (h a b)
theorem bE{y:Code}(h:CW P y Q n σ w):EX (Exit.then (y.wp P Q) Q) .normal n σ w:=by
 unfold EX CW at*;exact fun a b=>h a b
theorem bJ{id:Nat}{R:Act->World->Prop}(h:EX Q (.exit id) n σ w):EX (Exit.then R Q) (.exit id) n σ w:=by
 unfold EX at*;exact fun a b=>h a b
theorem bH{R:Act->World->Prop}(h:EX Q .ret n σ w):EX (Exit.then R Q) .ret n σ w:=by
 unfold EX at*;exact fun a b=>h a b
theorem EX.inN{id:Nat}(h:EX Q .normal n σ w):EX (Exit.inBlock id Q) .normal n σ w:=by
 unfold EX at*;exact fun a b=>h a b
theorem EX.inR{id:Nat}(h:EX Q .ret n σ w):EX (Exit.inBlock id Q) .ret n σ w:=by
 unfold EX at*;exact fun a b=>h a b
theorem a_{id:Nat}(h:EX Q .normal n σ w):EX (Exit.inBlock id Q) (.exit id) n σ w:=by
 unfold EX at*;intro a b;show(if id=id then _ else _);rw[Sj rfl];exact h a b
theorem ba{id id':Nat}(b:Nat.beq id' id=false)(h:EX Q (.exit id') n σ w):EX (Exit.inBlock id Q) (.exit id') n σ w:=by
 unfold EX at*;intro a c;show(if id'=id then _ else _)
 rw[Si (fun e=>by subst e;rw[P_ id']at b;cases b)];exact h a c
theorem CW.block{id:Nat}{c:Code}(h:CW P c (Exit.inBlock id Q) n σ w):CW P (.block id c) Q n σ w:=by
 unfold CW at*;exact fun a b=>wp_block (h a b)
theorem CW.exit{id:Nat}(h:EX Q (.exit id) n σ w):CW P (.exit id) Q n σ w:=by
 unfold CW EX at*;exact fun a b=>wp_exit (h a b)
theorem CW.ret(h:EX Q .ret n σ w):CW P .ret Q n σ w:=by
 unfold CW EX at*;exact fun a b=>wp_ret (h a b)
theorem CW.skip(h:EX Q .normal n σ w):CW P .skip Q n σ w:=by
 unfold CW EX at*;exact fun a b=>wp_skip (h a b)
theorem CW.cond{c:Operand}{x y:Code}{t:Bool}(f:ev σ c=some (.bool t))(e:t=true->CW P x Q n σ w)(hf:t=false->CW P y Q n σ w):CW P (.cond c x y) Q n σ w:=by
 unfold CW at*
 exact fun a b=>wp_cond_split (b.ev f) (fun h=>e h a b) (fun h=>hf h a b)
theorem ax{c:Operand}{x y:Code}(b:ev σ c=some (.bool true))(a:CW P x Q n σ w):CW P (.cond c x y) Q n σ w:=
 CW.cond b (fun _=>a) (fun h=>by cases h)
theorem aw{c:Operand}{x y:Code}(a:ev σ c=some (.bool false))(hf:CW P y Q n σ w):CW P (.cond c x y) Q n σ w:=
 CW.cond a (fun h=>by cases h) (fun _=>hf)
theorem CW.region{id:Nat}{l:List Oper}(h:WL P l Q l n σ w):CW P (.region id l.toArray false) Q n σ w:=by
 unfold CW WL at*;exact fun a b=>wp_region_lit (h a b)
theorem WL.nil{l:List Oper}(h:EX Q .normal n σ w):WL P l Q [] n σ w:=by
 unfold WL EX at*;exact fun a b=>wpList_nil (h a b)
def ak{S:Type}(n:Nat)(σs:S->Sg)(I:S->World->Prop)(μ:S->Nat)(s:S):Act->World->Prop:=
 fun a w=>∃b,Fr n (σs b) a/\I b w/\μ b<μ s
theorem CW.loop{S:Type}{c:Code}(σs:S->Sg)(I:S->World->Prop)(μ:S->Nat)(b:S)(k:Sub (σs b) σ)(q:I b w)
  (round:∀s w,I s w->CW P c (Exit.then (ak n σs I μ s) Q) n (σs s) w):CW P (.loop c) Q n σ w:=by
 unfold CW at*
 intro a o
 refine wp_loop_ghost (fun m a w=>∃s,μ s=m/\Fr n (σs s) a/\I s w) (μ b) ⟨b,rfl,o.sub k,q⟩ ?_;rintro m a w ⟨s,rfl,hF,p⟩
 refine SI (round s w p a hF) ?_;intro e r w' hq
 cases e with
 |normal=>
  obtain⟨j,i,h,f⟩:=hq;exact⟨μ j,f,j,rfl,i,h⟩
 |exit id=>exact hq
 |goto l=>exact hq
 |ret=>exact hq
 |panic ch=>exact hq
 |outgrown=>exact hq
theorem EX.back{S:Type}{σs:S->Sg}{I:S->World->Prop}{μ:S->Nat}{s:S}(b:S)(c:Sub (σs b) σ)(f:I b w)(hμ:μ b<μ s):
  EX (Exit.then (ak n σs I μ s) Q) .normal n σ w:=by
 unfold EX;exact fun a e=>⟨b,e.sub c,f,hμ⟩
def Rt(P:Program)(f:FuncId)(args:Array Value)(w:World)(R:Value->World->Prop):Prop:=
 Calls P f args w fun e w'=>∃v,e=.returned v/\R v w'
theorem Rt.mono{f:FuncId}{args:Array Value}{R R':Value->World->Prop}(h:Rt P f args w R)(b:∀v w',R v w'->R' v w'):Rt P f args w R':=
 Ng h fun e w' ⟨v,c,a⟩=>⟨v,c,b v w' a⟩
def ip:Nat->List Value->Sg
 |_,[]=>[]
 |k,v::r=>(k,v)::ip (k+1) r
theorem rJ:∀(vs:List Value) (k t:Nat) (v:Value),fnd (ip k vs) t=some v->k<=t/\vs[t -k]?=some v:=by
 intro vs
 induction vs with
 |nil=>intro k t v h;cases h
 |cons u r a=>
  intro k t v h
  by_cases e:k=t
  ·subst e;rw[ip,rK]at h;cases h;exact⟨Qj _,by simp⟩
  ·rw[ip,rL e]at h
   obtain⟨h1,h2⟩:=a (k+1) t v h;refine⟨by omega,?_⟩;have:t -k=(t -(k+1))+1:=by omega
   rw[this,Ol];exact h2
theorem Rt.enter{f:FuncId}{fn:Func}{c:Code}{vs:List Value}{R:Value->World->Prop}(hf:P.funcs[f]?=some fn)(j:fn.body=some c)(hn:fn.ntmps=n)
  (b:Nat.ble vs.length n=true) (h:CW P c (bodyPost P fn fun e w'=>∃v,e=.returned v/\R v w') n (ip 0 vs) w):Rt P f vs.toArray w R:=by
 refine calls_of_wp hf j ?_;unfold CW at h
 have k:=Qg b;refine h _ ⟨by simp[hn];omega,rfl,fun t v i=>?_⟩;obtain⟨_,h2⟩:=rJ vs 0 t v i;simp only[Nat.sub_zero]at h2
 have a:=(Oq.1 h2).1;simp only[MC];rw[MD (by simpa using a)];simp[h2]
theorem dT{f:FuncId}{fn:Func}{c:Code}{R:Value->World->Prop}(hf:P.funcs[f]?=some fn)(hn:fn.ntmps=n)(a:fn.body=some c)
  (h:CW P c (bodyPost P fn fun e w'=>∃v,e=.returned v/\R v w') n [] w):Rt P f [].toArray w R:=Rt.enter (vs:=[]) hf a hn rfl h
theorem dU{f:FuncId}{fn:Func}{c:Code}{b:Value}{R:Value->World->Prop}(hf:P.funcs[f]?=some fn)(hn:fn.ntmps=n)(i:fn.body=some c)
  (a:Nat.ble 1 n=true) (h:CW P c (bodyPost P fn fun e w'=>∃v,e=.returned v/\R v w') n [(0,b)] w):Rt P f [b].toArray w R:=Rt.enter hf i hn a h
theorem dV{f:FuncId}{fn:Func}{c:Code}{b a1:Value}{R:Value->World->Prop}(hf:P.funcs[f]?=some fn)(hn:fn.ntmps=n)(i:fn.body=some c)
  (a:Nat.ble 2 n=true) (h:CW P c (bodyPost P fn fun e w'=>∃v,e=.returned v/\R v w') n [(0,b),(1,a1)] w):Rt P f [b,a1].toArray w R:=Rt.enter hf i hn a h
theorem dW{f:FuncId}{fn:Func}{c:Code}{b a1 a2:Value}{R:Value->World->Prop}(hf:P.funcs[f]?=some fn)(hn:fn.ntmps=n)(i:fn.body=some c)
  (a:Nat.ble 3 n=true) (h:CW P c (bodyPost P fn fun e w'=>∃v,e=.returned v/\R v w') n [(0,b),(1,a1),(2,a2)] w):Rt P f [b,a1,a2].toArray w R:=Rt.enter hf i hn a h
theorem dX{f:FuncId}{fn:Func}{c:Code}{b a1 a2 a3:Value}{R:Value->World->Prop}(hf:P.funcs[f]?=some fn)(hn:fn.ntmps=n)(i:fn.body=some c)
  (a:Nat.ble 4 n=true) (h:CW P c (bodyPost P fn fun e w'=>∃v,e=.returned v/\R v w') n [(0,b),(1,a1),(2,a2),(3,a3)] w):Rt P f [b,a1,a2,a3].toArray w R:=Rt.enter hf i hn a h
theorem dY{f:FuncId}{fn:Func}{c:Code}{b a1 a2 a3 a4:Value}{R:Value->World->Prop}(hf:P.funcs[f]?=some fn)(hn:fn.ntmps=n)(i:fn.body=some c)
  (a:Nat.ble 5 n=true) (h:CW P c (bodyPost P fn fun e w'=>∃v,e=.returned v/\R v w') n [(0,b),(1,a1),(2,a2),(3,a3),(4,a4)] w):Rt P f [b,a1,a2,a3,a4].toArray w R:=Rt.enter hf i hn a h
theorem bi{fn:Func}{t:Nat}{v:Value}{R:Value->World->Prop}(f:fn.results=#[.tmp t])(c:fnd σ t=some v)(h:R v w):
  EX (bodyPost P fn fun e w'=>∃v,e=.returned v/\R v w') .ret n σ w:=by
 unfold EX;intro a b
 exact R3 (results_tmp f _ _ _) b.defers ⟨v,by rw[b.slot t v c],h⟩
theorem bj{fn:Func}{t:Nat}{v:Value}{R:Value->World->Prop}(h:R v w)(b:fn.results=#[.tmp t]:=by exact rfl)(a:fnd σ t=some v:=by exact rfl):EX (bodyPost P fn fun e w'=>∃v,e=.returned v/\R v w') .ret n σ w:=bi b a h
theorem bl{fn:Func}{t u:Nat}{v x:Value}{R:Value->World->Prop}(i:fn.results=#[.tmp t,.tmp u])(f:fnd σ t=some v)(c:fnd σ u=some x)(h:R (.tuple ⟨[v,x]⟩) w):
  EX (bodyPost P fn fun e w'=>∃v,e=.returned v/\R v w') .ret n σ w:=by
 unfold EX;intro a b
 exact R3 (results_tmp2 i _ _ _) b.defers ⟨_,by rw[b.slot t v f,b.slot u x c],h⟩
theorem a7{fn:Func}{R:Value->World->Prop}(b:fn.results=#[])(h:R (.tuple #[]) w):
  EX (bodyPost P fn fun e w'=>∃v,e=.returned v/\R v w') .normal n σ w:=by
 unfold EX;intro a c
 exact bodyPost_end (results_none b _ _ _) c.defers ⟨_,rfl,h⟩
end
def ug:List Oper->Nat->Option Nat
 |[],_=>none
 |o::_,0=>o.dst
 |_::r,j+1=>ug r j
def uh:∀(l:List Oper) (j:Nat),ug l j=(l[j]?).bind (·.dst)
 |[],j=>by simp[ug]
 |o::r,0=>by simp[ug]
 |o::r,j+1=>by simp[ug,uh r j]
def gd(ops:List Oper)(σ:Sg)(o:Oper):Option Bool:=
 match o.guard with
 |none=>some true
 |some (j,want)=>
  match ug ops j with
  |none=>none
  |some s=>match fnd σ s with
   |some (.bool b)=>some (match b,want with|true,true=>true|false,false=>true|_,_=>false)
   |some (.tuple _)=>some false
   |_=>none
def sJ{ops:List Oper}{σ:Sg}{o:Oper}{b:Bool}{n:Nat}{a:Act}(p:Fr n σ a)(h:gd ops σ o=some b):Region.wanted o (yielded ops.toArray a.tmps)=b:=by
 unfold gd at h
 unfold Region.wanted;split at h
 ·rename_i f;rw[f];exact(QV h)
 ·rename_i j want f
  rw[f];have k:∀s v,ug ops j=some s->fnd σ s=some v->yielded ops.toArray a.tmps j=(match v with|.bool b=>some b|_=>none):=by
   intro s v c m
   have:=p.slot s v m;unfold yielded;have e:ops.toArray[j]?.bind (·.dst)=some s:=by rw[<-c,uh];simp
   rw[e];simp only[QS];simp only[MC]at this
   cases l:a.tmps[s]? with
   |none=>
    rw[l]at this
    simp only[Option.getD_none]at this
    subst this;simp[undef]
   |some u=>
    rw[l]at this
    simp only[Option.getD_some]at this
    subst this;cases u<;>rfl
  split at h
  ·cases h
  ·rename_i s c
   split at h
   ·rename_i q i
    have:=k s _ c i;simp only[this];cases q<;>cases want<;>simp at h<;>simp[<-h]
   ·rename_i x i
    have:=k s _ c i;simp only[this];simp at h;subst h;simp
   ·cases h
def DQ(op:BinOp)(x y:Value):Option Value:=
 match op,x,y with
 |.shl,.int k a,.int .i64 b=>match decide (0<=b)with|true=>some (.int k (k.wrap (a*2 ^ (min b.toNat k.bits))))|false=>none
 |.add,.int .i64 a,.int .i64 b=>some (.int .i64 (IntKind.i64.wrap (a+b)))
 |.sub,.int .i64 a,.int .i64 b=>some (.int .i64 (IntKind.i64.wrap (a -b)))
 |.mul,.int .i64 a,.int .i64 b=>some (.int .i64 (IntKind.i64.wrap (a*b)))
 |.eql,.int .i64 a,.int .i64 b=>some (.bool (a==b))
 |.neq,.int .i64 a,.int .i64 b=>some (.bool (a != b))
 |.lss,.int .i64 a,.int .i64 b=>some (.bool (decide (a<b)))
 |.leq,.int .i64 a,.int .i64 b=>some (.bool (decide (a<=b)))
 |.gtr,.int .i64 a,.int .i64 b=>some (.bool (decide (a>b)))
 |.geq,.int .i64 a,.int .i64 b=>some (.bool (decide (a>=b)))
 |.eql,.int .u64 a,.int .u64 b=>some (.bool (a==b))
 |.neq,.int .u64 a,.int .u64 b=>some (.bool (a != b))
 |.and,.int .u64 a,.int .u64 b=>some (.int .u64 (bits .and .u64 a b))
 |.or,.int .u64 a,.int .u64 b=>some (.int .u64 (bits .or .u64 a b))
 |.and,.int .i64 a,.int .i64 b=>some (.int .i64 (bits .and .i64 a b))
 |.or,.int .i64 a,.int .i64 b=>some (.int .i64 (bits .or .i64 a b))
 |.eql,.string a,.string b=>some (.bool (a.data.toList==b.data.toList))
 |.neq,.string a,.string b=>some (.bool !(a.data.toList==b.data.toList))
 |.eql,.int .u8 a,.int .u8 b=>some (.bool (a==b))
 |.neq,.int .u8 a,.int .u8 b=>some (.bool (a != b))
 |.lss,.int .u8 a,.int .u8 b=>some (.bool (decide (a<b)))
 |.leq,.int .u8 a,.int .u8 b=>some (.bool (decide (a<=b)))
 |.gtr,.int .u8 a,.int .u8 b=>some (.bool (decide (a>b)))
 |.geq,.int .u8 a,.int .u8 b=>some (.bool (decide (a>=b)))
 |_,_,_=>none
def Cq:List Value->Nat->Option Value
 |[],_=>none
 |v::_,0=>some v
 |_::r,i+1=>Cq r i
def Cr:∀(l:List Value) (i:Nat),Cq l i=l[i]?
 |[],i=>by simp[Cq]
 |v::r,0=>by simp[Cq]
 |v::r,i+1=>by simp[Cq,Cr r i]
def pL(σ:Sg):List Operand->Option (List Value)
 |[]=>some []
 |x::r=>match ev σ x,pL σ r with
  |some v,some vs=>some (v::vs)
  |_,_=>none
def pM{n:Nat}{σ:Sg}{a:Act}(b:Fr n σ a):∀(l:List Operand) (vs:List Value),pL σ l=some vs->l.map a.eval=vs
 |[],vs,h=>by cases h;rfl
 |x::r,vs,h=>by
  simp only[pL]at h
  split at h
  ·rename_i v us c e
   cases h
   simp[b.ev c,pM b r us e]
  ·cases h
def Ez(σ:Sg):Op->Option Value
 |.move x=>ev σ x
 |.assign x=>ev σ x
 |.pick c a b=>match ev σ c with
  |some (.bool true)=>ev σ a
  |some (.bool false)=>ev σ b
  |_=>none
 |.binOp op _ x y _=>match ev σ x,ev σ y with
  |some u,some v=>DQ op u v
  |_,_=>none
 |.unOp .not _ x=>match ev σ x with
  |some (.bool b)=>some (.bool !b)
  |_=>none
 |.extract x i=>match ev σ x with
  |some (.tuple vs)=>Cq vs.toList i
  |_=>none
 |_=>none
def DR{op:BinOp}{yt:TypeId}{x y:Operand}{u r:Value}(h:DQ op u v=some r):
  ((do eqGuard op t x y u v;binOp op t u v:Sem Value)).run P w=.ok r w:=by
 unfold DQ at h
 split at h<;>first
  |(cases h;done)
  |(rename_i k a b;split at h
    ·rename_i e;have c:¬b<0:=by simpa using e
     cases h;simp[eqGuard,binOp,Op.shift,c]
    ·cases h)
  |(cases h;simp[eqGuard,binOp,Op.intArith,Op.intCmp,intBits_and,intBits_or];done)
  |(cases h;simp[eqGuard_at_string,binOp,Op.stringOp,ByteArray.toList_eq];done)
def EB{n:Nat}{σ:Sg}{a:Act}{o:Oper}(f:Fr n σ a)(h:Ez σ o.op=some v):
  (execOp a.eval o).run P w=.ok (.value v) w:=by
 unfold Ez at h
 unfold execOp;split at h
 ·rename_i x e;simp[e,f.ev h]
 ·rename_i x e;simp[e,f.ev h]
 ·rename_i c x y e
  split at h
  ·rename_i k;simp[e,f.ev k,asBool,f.ev h]
  ·rename_i k;simp[e,f.ev k,asBool,f.ev h]
  ·cases h
 ·rename_i op t x y yt e
  split at h
  ·rename_i u s m l
   have p:=DR (P:=P) (w:=w) (t:=t) (yt:=yt) (x:=x) (y:=y) h;simp only[e,f.ev m,f.ev l];rw[Q4,p];rfl
  ·cases h
 ·rename_i t x e
  split at h
  ·rename_i b q;cases h;simp[e,f.ev q,Op.unary]
  ·cases h
 ·rename_i x i e
  split at h
  ·rename_i vs j
   rw[Cr]at h
   have r:vs[i]?=some v:=by simpa using h
   simp[e,f.ev j,Instr.extract,r]
  ·cases h
 ·cases h
section
variable {P:Program}{Q:Exit->Act->World->Prop}{n:Nat}{σ:Sg}{w:World}{L rest:List Oper}{d:Nat}{op:Op}{ty:TypeId}{pos:String}{af:Array Edge}{g:Option (Nat×Bool)}
theorem WL.run{v:Value}{w':World}(e:gd L σ ⟨some d,op,ty,pos,af,g⟩=some true)(hd:Nat.ble (d+1) n=true)
  (c:∀a,Fr n σ a->(execOp a.eval ⟨some d,op,ty,pos,af,g⟩).run P w=.ok (.value v) w') (h:WL P L Q rest n ((d,v)::σ) w'):WL P L Q (⟨some d,op,ty,pos,af,g⟩::rest) n σ w:=by
 unfold WL at*
 intro a b
 refine SE fun K f=>?_
 rw[sJ b e,Sj rfl];unfold Oper.wp;rw[c a b];exact f _ _ (h _ (b.put (d:=some d) hd))
theorem fY{w':World}(e:gd L σ ⟨none,op,ty,pos,af,g⟩=some true)
  (c:∀a,Fr n σ a->(execOp a.eval ⟨none,op,ty,pos,af,g⟩).run P w=.ok .skip w') (h:WL P L Q rest n σ w'):WL P L Q (⟨none,op,ty,pos,af,g⟩::rest) n σ w:=by
 unfold WL at*
 intro a b
 refine SE fun K f=>?_
 rw[sJ b e,Sj rfl];unfold Oper.wp;rw[c a b];exact f _ _ (h _ b)
theorem fX{v:Value}(c:gd L σ ⟨some d,op,ty,pos,af,g⟩=some true)(hd:Nat.ble (d+1) n=true)
  (b:Ez σ op=some v) (h:WL P L Q rest n ((d,v)::σ) w):WL P L Q (⟨some d,op,ty,pos,af,g⟩::rest) n σ w:=
 WL.run c hd (fun a e=>EB e b) h
theorem WL.pass(c:gd L σ ⟨some d,op,ty,pos,af,g⟩=some false)(hd:Nat.ble (d+1) n=true)(h:WL P L Q rest n ((d,undef)::σ) w):WL P L Q (⟨some d,op,ty,pos,af,g⟩::rest) n σ w:=by
 unfold WL at*
 intro a b
 refine SE fun K e=>?_
 rw[sJ b c,Si SQ];exact e _ _ (h _ (b.put (d:=some d) hd))
theorem fI{s:Nat}{b:Bool}(c:fnd σ s=some (.bool b))(f:b=true->WL P L Q rest n ((s,.bool true)::σ) w)(hf:b=false->WL P L Q rest n ((s,.bool false)::σ) w):WL P L Q rest n σ w:=by
 unfold WL at*
 intro a e
 cases b with
 |true=>exact f rfl a (e.set c)
 |false=>exact hf rfl a (e.set c)
theorem fJ{dd:Option Nat}{j s:Nat}{want b:Bool}(e:ug L j=some s)(c:fnd σ s=some (.bool b))(a:b=true->WL P L Q (⟨dd,op,ty,pos,af,some (j,want)⟩::rest) n ((s,.bool true)::σ) w)
  (hf:b=false->WL P L Q (⟨dd,op,ty,pos,af,some (j,want)⟩::rest) n ((s,.bool false)::σ) w):WL P L Q (⟨dd,op,ty,pos,af,some (j,want)⟩::rest) n σ w:=fI c a hf
theorem Ms{a:Int}(b: -9223372036854775808<=a)(h1:a<9223372036854775808):IntKind.i64.wrap a=a:=IntWalk.i64_in _ ⟨b,by omega⟩
theorem WL.add{t yt:TypeId}{x y:Operand}{a b:Int}(f:gd L σ ⟨some d,.binOp .add t x y yt,ty,pos,af,g⟩=some true)(hd:Nat.ble (d+1) n=true)
  (e:ev σ x=some (Te a)) (c:ev σ y=some (Te b)) (i: -9223372036854775808<=a+b) (h1:a+b<9223372036854775808) (h:WL P L Q rest n ((d,Te (a+b))::σ) w):WL P L Q (⟨some d,.binOp .add t x y yt,ty,pos,af,g⟩::rest) n σ w:=by
 refine fX f hd (v:=Te (a+b)) ?_ h;simp only[Ez,e,c,DQ];rw[Ms i h1]
theorem gh{t yt:TypeId}{x y:Operand}{a b:Int}(f:gd L σ ⟨some d,.binOp .sub t x y yt,ty,pos,af,g⟩=some true)(hd:Nat.ble (d+1) n=true)
  (e:ev σ x=some (Te a)) (c:ev σ y=some (Te b)) (i: -9223372036854775808<=a -b) (h1:a -b<9223372036854775808) (h:WL P L Q rest n ((d,Te (a -b))::σ) w):WL P L Q (⟨some d,.binOp .sub t x y yt,ty,pos,af,g⟩::rest) n σ w:=by
 refine fX f hd (v:=Te (a -b)) ?_ h;simp only[Ez,e,c,DQ];rw[Ms i h1]
end
section
variable {P:Program}{Q:Exit->Act->World->Prop}{n:Nat}{σ:Sg}{w:World}{L rest:List Oper}{d:Nat}{op:Op}{ty:TypeId}{pos:String}{af:Array Edge}{g:Option (Nat×Bool)}
theorem WL.makeFunc{fn:Fn}{fs cs:List Operand}{fv cv:List Value}(c:gd L σ ⟨some d,.makeFunc fn fs.toArray cs.toArray,ty,pos,af,g⟩=some true)(hd:Nat.ble (d+1) n=true)
  (hf:pL σ fs=some fv) (e:pL σ cs=some cv) (h:WL P L Q rest n ((d,.func fn fv.toArray cv.toArray)::σ) w):WL P L Q (⟨some d,.makeFunc fn fs.toArray cs.toArray,ty,pos,af,g⟩::rest) n σ w:=by
 refine WL.run c hd (fun a b=>?_) h;have i:=pM b fs fv hf;have f:=pM b cs cv e;simp[execOp,Instr.makeFunc,i,f]
class IsF(P:Program)(f:FuncId):Prop where
 ok:∃fn,P.funcs[f]?=some fn/\fn.body.isSome=true/\(fn.name== "runtime.NumGoroutine")=false
theorem UB{f:FuncId}{fn:Func}(h:UA.funcs[f]?=some fn)(b:fn.body.isSome=true:=by rfl)(c:(fn.name== "runtime.NumGoroutine")=false:=by decide):IsF UA f:=⟨_,h,b,c⟩
theorem jN{f:FuncId}[hf:IsF P f](args:Array Value):(callFunc f args).run P w=.ok (.enter f args) w:=by
 obtain⟨fn,h1,h2,h3⟩:=hf.ok;have h4:fn.body≠none:=by intro e;rw[e]at h2;cases h2
 have a:fn.name≠ "runtime.NumGoroutine":=by simpa using h3
 simp[callFunc,h1,h4,a]
theorem eQ{f:FuncId}{x:Operand}{xs:List Operand}{c:Array TypeId}{vs fv cv:List Value}{R:Value->World->Prop}
  (l:gd L σ ⟨some d,.call ⟨.value x,xs.toArray,c⟩,ty,pos,af,g⟩=some true) (hd:Nat.ble (d+1) n=true) (i:ev σ x=some (.func (.func f) fv.toArray cv.toArray)) (j:pL σ xs=some vs) [hf:IsF P f]
  (m:Rt P f (fv++vs++cv).toArray w R) (h:∀v w',R v w'->WL P L Q rest n ((d,v)::σ) w'):WL P L Q (⟨some d,.call ⟨.value x,xs.toArray,c⟩,ty,pos,af,g⟩::rest) n σ w:=by
 unfold WL at*
 intro a b
 refine SE fun K o=>?_
 rw[sJ b l,Sj rfl];have q:=pM b xs vs j;have p:=b.ev i;have k:(execOp a.eval ⟨some d,.call ⟨.value x,xs.toArray,c⟩,ty,pos,af,g⟩).run P w=.ok (.enter f (fv++vs++cv).toArray) w:=by
  have:=jN (P:=P) (f:=f) (w:=w) (fv++vs++cv).toArray;simp[execOp,resolve,p,Deferred.ofValue,invoke,q];simpa using this
 unfold Oper.wp;rw[k];refine Ng m ?_;rintro e w' ⟨v,rfl,hR⟩
 exact o _ _ (h v w' hR _ (b.put (d:=some d) hd))
theorem WL.call{f:FuncId}{xs:List Operand}{a:Array TypeId}{vs:List Value}{R:Value->World->Prop}
  (c:gd L σ ⟨some d,.call ⟨.value (.func f),xs.toArray,a⟩,ty,pos,af,g⟩=some true) (hd:Nat.ble (d+1) n=true) (b:pL σ xs=some vs) [hf:IsF P f]
  (e:Rt P f vs.toArray w R) (h:∀v w',R v w'->WL P L Q rest n ((d,v)::σ) w'):WL P L Q (⟨some d,.call ⟨.value (.func f),xs.toArray,a⟩,ty,pos,af,g⟩::rest) n σ w:=
 eQ c hd (fv:=[]) (cv:=[]) rfl b (by simpa using e) h
theorem eN{f:FuncId}{xs:List Operand}{a:Array TypeId}{vs:List Value}{R:Value->World->Prop}[hf:IsF P f](e:Rt P f vs.toArray w R)(h:∀v w',R v w'->WL P L Q rest n ((d,v)::σ) w')(c:gd L σ ⟨some d,.call ⟨.value (.func f),xs.toArray,a⟩,ty,pos,af,g⟩=some true:=by exact rfl)(hd:Nat.ble (d+1) n=true:=by exact rfl)(b:pL σ xs=some vs:=by exact rfl):WL P L Q (⟨some d,.call ⟨.value (.func f),xs.toArray,a⟩,ty,pos,af,g⟩::rest) n σ w:=WL.call c hd b e h
end
abbrev bZ:=List (List Int)
inductive Rch(g:bZ)(from':List Int):Nat->Prop
 |base {x:Int}:x∈from'->Rch g from' x.toNat
 |step {n:Nat} {x:Int}:Rch g from' n->x∈g.getD n []->Rch g from' x.toNat
open Classical in
noncomputable def EP(g:bZ)(from':List Int):List Bool:=(List.range g.length).map fun n=>decide (Rch g from' n)
def ES(g:bZ)(f:List Int):(EP g f).length=g.length:=by simp[EP]
def ER{g:bZ}{f:List Int}{n:Nat}(h:n<(EP g f).length):(EP g f)[n]=true↔Rch g f n:=by
 have a:n<g.length:=by rwa[ES]at h
 simp[EP]
def CQ(n:Nat)(l:List Int):Prop:=∀x∈l,0<=x/\x<n
def okG(g:bZ):Prop:=∀l∈g,CQ g.length l
def CP{g:bZ}(h:okG g)(n:Nat):CQ g.length (g.getD n []):=by
 intro x a
 by_cases hn:n<g.length
 ·rw[Oi,On hn]at a
  exact h _ (OG hn) x a
 ·rw[Oi,Oo SM]at a
  simp at a
def D_:bZ->List Bool->Nat
 |l::g,s::r=>(match s with|true=>0|false=>l.length+1)+D_ g r
 |_,_=>0
def Eb:∀(g:bZ) (seen:List Bool) (n:Nat),n<g.length->seen.length=g.length->seen.getD n true=false->D_ g (seen.set n true)+(g.getD n []).length+1=D_ g seen
 |[],_,n,h,_,_=>absurd h SQ
 |l::g,[],n,_,h,_=>absurd h SQ
 |l::g,s::r,0,_,_,h=>by
  simp at h;subst h;simp[D_];omega
 |l::g,s::r,n+1,h1,h2,h3=>by
  have:=Eb g r n (by simpa using h1) (by simpa using h2) (by simpa using h3);simp only[List.set_cons_succ,D_,List.getD_cons_succ];omega
def oB(g:bZ):Nat:=(g.map List.length).sum
def Ec:∀g:bZ,D_ g (List.replicate g.length false)=oB g+g.length
 |[]=>rfl
 |l::g=>by
  simp only[OU,PM,D_,Ec g,oB,Pd,PS];omega
structure RInv(g:bZ)(f:List Int)(seen:List Bool)(todo:List Int):Prop where
 len:seen.length=g.length
 ok:CQ g.length todo
 sound:∀n,seen.getD n false=true->Rch g f n
 tsound:∀x∈todo,Rch g f x.toNat
 base:∀x∈f,seen.getD x.toNat false=true\/x∈todo
 clo:∀n,seen.getD n false=true->∀x∈g.getD n [],seen.getD x.toNat false=true\/x∈todo
def tg{n k:Nat}{b:Bool}(h:n<l.length):(l.set n b).getD k false=if n=k then b else l.getD k false:=by
 simp only[Oi,Ow];split
 ·subst_vars;simp[h]
 ·rfl
def tf{n k:Nat}:(List.replicate n false).getD k false=false:=by
 simp only[Oi,Ov];split<;>rfl
def RInv.start{g:bZ}{f:List Int}(hf:CQ g.length f):RInv g f (List.replicate g.length false) f where
 len:=by simp
 ok:=hf
 sound:=fun n h=>by rw[tf]at h;cases h
 tsound:=fun x a=>.base a
 base:=fun x a=>.inr a
 clo:=fun n h=>by rw[tf]at h;cases h
def RInv.pass{g:bZ}{f:List Int}(h:RInv g f l (m++[x]))(b:l.getD x.toNat false=true):RInv g f l m where
 len:=h.len
 ok:=fun y a=>h.ok y (by simp[a])
 sound:=h.sound
 tsound:=fun y a=>h.tsound y (by simp[a])
 base:=fun y a=>by
  rcases h.base y a with h1|h1
  ·exact .inl h1
  ·rcases Ph.1 h1 with h2|h2
   ·exact .inr h2
   ·simp at h2;subst h2;exact .inl b
 clo:=fun n hn y a=>by
  rcases h.clo n hn y a with h1|h1
  ·exact .inl h1
  ·rcases Ph.1 h1 with h2|h2
   ·exact .inr h2
   ·simp at h2;subst h2;exact .inl b
def RInv.mark{g:bZ}{f:List Int}(c:okG g)(h:RInv g f l (m++[x])):RInv g f (l.set x.toNat true) (m++g.getD x.toNat []):=by
 have d:=h.ok x SQ;have b:x.toNat<l.length:=by rw[h.len];omega
 have key:∀y,l.getD y.toNat false=true\/y∈m++[x]->(l.set x.toNat true).getD y.toNat false=true\/y∈m++g.getD x.toNat []:=by
  intro y a
  rw[tg b];rcases a with h1|h1
  ·left;split
   ·rfl
   ·exact h1
  ·rcases Ph.1 h1 with h2|h2
   ·exact .inr (by simp[h2])
   ·simp at h2;subst h2;left;simp
 refine⟨by simpa using h.len,?_,?_,?_,?_,?_⟩
 ·intro y a
  rcases Ph.1 a with h1|h1
  ·exact h.ok y (by simp[h1])
  ·exact CP c _ y h1
 ·intro n hn
  rw[tg b]at hn
  split at hn
  ·rename_i e;subst e;exact h.tsound x SQ
  ·exact h.sound n hn
 ·intro y a
  rcases Ph.1 a with h1|h1
  ·exact h.tsound y (by simp[h1])
  ·exact .step (h.tsound x SQ) h1
 ·intro y a;exact key y (h.base y a)
 ·intro n hn y a
  rw[tg b]at hn
  split at hn
  ·rename_i e;subst e;exact .inr (Ph.2 (.inr a))
  ·exact key y (h.clo n hn y a)
def RInv.done{g:bZ}{f:List Int}(h:RInv g f l []):l=EP g f:=by
 have all:∀n,Rch g f n->l.getD n false=true:=by
  intro n hn
  induction hn with
  |base a=>exact(h.base _ a).resolve_right SQ
  |step _ a b=>exact(h.clo _ b _ a).resolve_right SQ
 apply N4 (by rw[h.len,ES]);intro n h1 h2
 have c:l.getD n false=l[n]:=by simp[Oi,h1]
 rw[M2,ER h2,<-c];exact⟨h.sound n,all n⟩
def nD(g:bZ):Nat->List Bool->List Int->List Bool
 |0,seen,_=>seen
 |k+1,seen,a=>match a.reverse with
  |[]=>seen
  |x::r=>match seen.getD x.toNat false with
   |true=>nD g k seen r.reverse
   |false=>nD g k (seen.set x.toNat true) (r.reverse++g.getD x.toNat [])
def nE{g:bZ}{f:List Int}(l:okG g):∀(k:Nat) (seen:List Bool) (a:List Int),RInv g f seen a->a.length+D_ g seen<=k->nD g k seen a=EP g f:=by
 intro k
 induction k with
 |zero=>
  intro seen a h d
  have:a=[]:=N0 SM;subst this;exact h.done
 |succ k i=>
  intro seen a h d
  unfold nD;split
  ·rename_i e
   have:a=[]:=by simpa using e
   subst this;exact h.done
  ·rename_i x r e
   have j:a=r.reverse++[x]:=by
    have:=R5 List.reverse e;simpa using this
   subst j;have m:=h.ok x SQ;split
   ·rename_i b
    exact i _ _ (h.pass b) (by simp at d⊢;omega)
   ·rename_i b
    have c:x.toNat<seen.length:=by rw[h.len];omega
    have n:=Eb g seen x.toNat SM h.len (by
     simp only[Oi,On c,Option.getD_some]at b⊢;exact b)
    exact i _ _ (RInv.mark l h) (by simp only[OT,OU,O2]at d⊢;omega)
def ET{g:bZ}{f:List Int}(a:okG g)(hf:CQ g.length f)(k:Nat)(b:f.length+oB g+g.length<=k):EP g f=nD g k (List.replicate g.length false) f:=
 (nE a k _ _ (RInv.start hf) (by rw[Ec];omega)).symm
def Cx(n:Nat)(l:List Int):Bool:=l.any fun x=>decide (x<0\/x>=n)
def oddB_false{n:Nat}{l:List Int}:Cx n l=false↔CQ n l:=by
 unfold Cx CQ;rw[ND];constructor
 ·intro h x a;have:=h x a;simp at this;omega
 ·intro h x a;have:=h x a;simp;omega
def kN(g:bZ):Int:=match decide (g.length>20000),g.any (Cx g.length)with
 |true,_=>2
 |false,true=>1
 |false,false=>0
def kP{g:bZ}(h:kN g=0):okG g/\g.length<=20000:=by
 unfold kN at h
 split at h
 ·cases h
 ·cases h
 ·rename_i h1 h2
  simp at h1
  refine⟨fun l a=>oddB_false.1 ?_,h1⟩;rw[ND]at h2
  simpa using h2 l a
abbrev cP:=ByteArray×Int
abbrev cO:=Int×Int
abbrev cR:=List cP×List cO
def AL(c:UInt8):Bool:=!(decide (((c.toNat:Nat):Int)<97))&&!(decide (((c.toNat:Nat):Int)>122))
def BA(l:List UInt8):Bool:=!(l==[])&&!(decide ((l.length:Int)>8))&&!(l==[116,114,117,101])&&!(l==[102,97,108,115,101])&&!(l==[115,105,108,101,110,116])&&l.all AL
abbrev Bz(s:ByteArray):Bool:=BA s.data.toList
def Bw(a b:ByteArray):Bool:=a.data.toList==b.data.toList
def B1(ns:List cP)(i:Nat):Int:=
 if !Bz (ns.getD i (⟨#[]⟩,0)).1||decide ((ns.getD i (⟨#[]⟩,0)).2<1)||decide ((ns.getD i (⟨#[]⟩,0)).2>7)then 1
 else if(ns.take i).any (fun m=>Bw m.1 (ns.getD i (⟨#[]⟩,0)).1)then 4 else 0
def B_(ns:List cP):Nat->Nat->Int
 |0,_=>0
 |f+1,i=>if B1 ns i≠0 then B1 ns i else B_ ns f (i+1)
def B6(ns:List cP):Int:=B_ ns ns.length 0
def Ca{ns:List cP}:∀(f i k:Nat),i<=k->k<i+f->(∀j,i<=j->j<k->B1 ns j=0)->B1 ns k≠0->B_ ns f i=B1 ns k
 |0,i,k,h1,h2,_,_=>by omega
 |f+1,i,k,h1,h2,h3,h4=>by
  unfold B_;by_cases e:i=k
  ·subst e;rw[Sj h4]
  ·rw[Si (by rw[h3 i Ta SM];simp)]
   exact Ca f (i+1) k SM SM (fun j b a=>h3 j SM a) h4
def Cb{ns:List cP}:∀(f i:Nat),(∀j,i<=j->j<i+f->B1 ns j=0)->B_ ns f i=0
 |0,_,_=>rfl
 |f+1,i,h=>by
  unfold B_;rw[Si (by rw[h i Ta SM];simp)];exact Cb f (i+1) (fun j h1 h2=>h j SM SM)
def B8{ns:List cP}{k:Nat}(b:k<ns.length)(a:∀j,j<k->B1 ns j=0)(h:B1 ns k≠0):B6 ns=B1 ns k:=Ca _ 0 k (QK _) SM (fun j _=>a j) h
def B9{ns:List cP}(a:∀j,j<ns.length->B1 ns j=0):B6 ns=0:=Cb _ 0 (fun j _ h=>a j SM)
def B7{ns:List cP}(h:B6 ns=0):∀j,j<ns.length->B1 ns j=0:=by
 intro j
 induction j using Nat.strongRecOn with
 |_ j a=>
  intro c
  apply Nh;intro hn
  have:=B8 c (fun k b=>a k b SM) hn;exact hn (by rw[<-this];exact h)
def mA(kind:Int)(i o:Nat):Bool:=
 if kind=1 then decide (i=0)&&decide (o=1)
 else if kind=2\/kind=3 then decide (0<i)&&decide (o=0)
 else if kind=4 then decide (0<i)&&decide (o=1)
 else if kind=7 then if o>4 then false else decide (0<i)&&decide (0<o)
 else if kind=5\/kind=6 then decide (0<i)&&decide (0<o)
 else false
def yC(fl:List cO)(n:Int)(k:Nat):List Int:=((List.range k).filter fun i=>(fl.getD i (0,0)).2==n).map fun i:Nat=>(i:Int)
def Dl(fl:List cO)(n:Int)(k:Nat):List Int:=((List.range k).filter fun i=>(fl.getD i (0,0)).1==n).map fun i:Nat=>(i:Int)
abbrev yA(fl:List cO)(n:Int):List Int:=yC fl n fl.length
abbrev Dj(fl:List cO)(n:Int):List Int:=Dl fl n fl.length
def yE{fl:List cO}{n:Int}{k:Nat}:yC fl n (k+1)=yC fl n k++if((fl.getD k (0,0)).2==n)=true then [(k:Int)]else []:=by
 unfold yC;rw[PL,N6,Pb]
 congr 1
 by_cases e:((fl.getD k (0,0)).2==n)=true
 ·rw[Sj e];simp only[N7,e,N_];rfl
 ·rw[Si e];simp only[N7,e,N_];rfl
def Dn{fl:List cO}{n:Int}{k:Nat}:Dl fl n (k+1)=Dl fl n k++if((fl.getD k (0,0)).1==n)=true then [(k:Int)]else []:=by
 unfold Dl;rw[PL,N6,Pb]
 congr 1
 by_cases e:((fl.getD k (0,0)).1==n)=true
 ·rw[Sj e];simp only[N7,e,N_];rfl
 ·rw[Si e];simp only[N7,e,N_];rfl
def yD{fl:List cO}{n:Int}{k:Nat}:(yC fl n k).length<=k:=by
 unfold yC;rw[O1];exact Qk (O0 _ _) SQ
def Dm{fl:List cO}{n:Int}{k:Nat}:(Dl fl n k).length<=k:=by
 unfold Dl;rw[O1];exact Qk (O0 _ _) SQ
def insP_mem{fl:List cO}{n:Int}{k:Nat}:x∈yC fl n k↔∃i:Nat,x=(i:Int)/\i<k/\(fl.getD i (0,0)).2=n:=by
 unfold yC;rw[Pr];constructor
 ·rintro⟨i,h1,rfl⟩
  have:=Po.1 h1;exact⟨i,rfl,Px.1 this.1,by simpa using this.2⟩
 ·rintro⟨i,rfl,h1,h2⟩
  exact⟨i,Po.2 ⟨Px.2 h1,by simpa using h2⟩,rfl⟩
def outsP_mem{fl:List cO}{n:Int}{k:Nat}:x∈Dl fl n k↔∃i:Nat,x=(i:Int)/\i<k/\(fl.getD i (0,0)).1=n:=by
 unfold Dl;rw[Pr];constructor
 ·rintro⟨i,h1,rfl⟩
  have:=Po.1 h1;exact⟨i,rfl,Px.1 this.1,by simpa using this.2⟩
 ·rintro⟨i,rfl,h1,h2⟩
  exact⟨i,Po.2 ⟨Px.2 h1,by simpa using h2⟩,rfl⟩
def rB(n:Nat)(f:cO):Bool:=decide (f.1<0)||decide (f.1>=n)||decide (f.2<0)||decide (f.2>=n)
def rC(n:Nat)(fl:List cO):bZ:=(List.range n).map fun k:Nat=>(fl.filter fun f=>f.1==(k:Int)).map (·.2)
def Il(ns:List cP)(k:Nat):List Nat:=(List.range k).filter fun i=>(ns.getD i (⟨#[]⟩,0)).2==1
def iO(p:cR)(i:Nat):Bool:=!mA (p.1.getD i (⟨#[]⟩,0)).2 (yA p.2 i).length (Dj p.2 i).length
open Classical in
noncomputable def kZ(p:cR):Int:=if∃n,n<p.1.length/\¬Rch (rC p.1.length p.2) (((Il p.1 p.1.length).getLast?.map fun n:Nat=>(n:Int)).toList) n then 6 else 0
noncomputable def kX(p:cR):Int:=
 if p.1.length>20\/p.2.length>30 then 2 else if B6 p.1≠0 then B6 p.1
 else if p.2.any (rB p.1.length)=true then 1 else if(Il p.1 p.1.length).length≠1 then 1
 else if(List.range p.1.length).any (iO p)=true then 1
 else kZ p
structure OkPr(p:cR):Prop where
 n:p.1.length<=20
 f:p.2.length<=30
 nodes:∀i,i<p.1.length->B1 p.1 i=0
 flows:∀f∈p.2,0<=f.1/\f.1<p.1.length/\0<=f.2/\f.2<p.1.length
 start:(Il p.1 p.1.length).length=1
 count:∀i,i<p.1.length->mA (p.1.getD i (⟨#[]⟩,0)).2 (yA p.2 i).length (Dj p.2 i).length=true
def kY{p:cR}(h:kX p=0):OkPr p:=by
 unfold kX at h
 split at h
 ·cases h
 split at h
 ·rename_i h1 h2;exact absurd h h2
 split at h
 ·cases h
 split at h
 ·cases h
 split at h
 ·cases h
 rename_i h1 h2 h3 h4 a;refine⟨by omega,by omega,B7 (by simpa using h2),fun f hf=>?_,by simpa using h4,fun i hi=>?_⟩
 ·have h3:=ND.1 (by simpa using h3) f hf
  unfold rB at h3
  simp at h3
  omega
 ·have a:=ND.1 (by simpa using a) i (Px.2 hi)
  unfold iO at a
  simpa using a
class Rep(α:Type)where
 sz:Nat
 pos:0<sz
 agg:Bool
 rd:World->(Nat->Prop)->List Value->α->Prop
 len:∀{w F cs x},rd w F cs x->cs.length=sz
 one:∀{w F cs x},rd w F cs x->∀v∈cs,v.oneCell'=true
 szAgg:agg=false->sz=1
 mono:∀{w w' F F' cs x},rd w F cs x->(∀b,F b->w'.heap[b]?=w.heap[b]?)->(∀b,F b->F' b)->rd w' F' cs x
abbrev sz(α:Type)[Rep α]:Nat:=Rep.sz α
abbrev rd{α:Type}[Rep α]:World->(Nat->Prop)->List Value->α->Prop:=Rep.rd
def Lb(α:Type)[Rep α](cs:List Value):Value:=match Rep.agg α with
 |true=>.agg cs.toArray
 |false=>cs.headD undef
def Rd{α:Type}[Rep α](w:World)(F:Nat->Prop)(v:Value)(x:α):Prop:=∃cs,v=Lb α cs/\rd w F cs x
def Rd.mono[Rep α]{w':World}{F':Nat->Prop}{x:α}(h:Rd w F v x)(c:∀b,F b->w'.heap[b]?=w.heap[b]?)(hF:∀b,F b->F' b):Rd w' F' v x:=by
 obtain⟨cs,e,a⟩:=h;exact⟨cs,e,Rep.mono a c hF⟩
def Lc[Rep α]{cs:List Value}{x:α}(h:rd w F cs x):(Lb α cs).cells.toList=cs:=by
 unfold Lb;split
 ·simp[Value.cells]
 ·rename_i a
  have h1:=Rep.len h;rw[Rep.szAgg a]at h1
  match cs,h1 with
  |[v],_=>
   have:=Rep.one h v SQ;cases v<;>first|rfl|(simp[Value.oneCell']at this)
instance:Rep Int where
 sz:=1
 pos:=by decide
 agg:=false
 rd:=fun _ _ cs x=>cs=[Te x]
 len:=by intro w F cs x h;subst h;rfl
 one:=by intro w F cs x h v a;subst h;simp at a;subst a;rfl
 szAgg:=fun _=>rfl
 mono:=fun h _ _=>h
instance:Rep Bool where
 sz:=1
 pos:=by decide
 agg:=false
 rd:=fun _ _ cs x=>cs=[.bool x]
 len:=by intro w F cs x h;subst h;rfl
 one:=by intro w F cs x h v a;subst h;simp at a;subst a;rfl
 szAgg:=fun _=>rfl
 mono:=fun h _ _=>h
instance:Rep Nat where
 sz:=1
 pos:=by decide
 agg:=false
 rd:=fun _ _ cs x=>cs=[.int .u64 (x:Int)]/\x<18446744073709551616
 len:=by intro w F cs x h;rw[h.1];rfl
 one:=by intro w F cs x h v a;rw[h.1]at a;simp at a;subst a;rfl
 szAgg:=fun _=>rfl
 mono:=fun h _ _=>h
instance:Rep ByteArray where
 sz:=1
 pos:=by decide
 agg:=false
 rd:=fun _ _ cs x=>cs=[.string x]/\x.size<=maxLen
 len:=by intro w F cs x h;rw[h.1];rfl
 one:=by intro w F cs x h v a;rw[h.1]at a;simp at a;subst a;rfl
 szAgg:=fun _=>rfl
 mono:=fun h _ _=>h
def Cells(w:World)(b off:Nat)(cs:List Value):Prop:=∀j u,cs[j]?=some u->w.cell? ⟨b,off+j,none⟩=some u
def Cells.mono{w':World}{b:Nat}{cs:List Value}(h:Cells w b B cs)(e:w'.heap[b]?=w.heap[b]?):Cells w' b B cs:=
 fun j u c=>(World.cell?_of_block (w:=w) (a:=⟨b,B+j,none⟩) e).trans (h j u c)
structure Sl{α:Type}[Rep α](w:World)(F:Nat->Prop)(ao:Option Addr)(cap:Nat)(xs:List α):Prop where
 le:xs.length<=cap
 mx:cap<=maxLen
 nil:ao=none->cap=0
 el:∀i (h:i<xs.length),∃b off,ao=some ⟨b,off,none⟩/\F b/\∃es,Cells w b (off+i*sz α) es/\rd w F es xs[i]
def Sl.mono[Rep α]{w':World}{F':Nat->Prop}{ao:Option Addr}{cap:Nat}{xs:List α}(h:Sl w F ao cap xs)(a:∀b,F b->w'.heap[b]?=w.heap[b]?)(hF:∀b,F b->F' b):Sl w' F' ao cap xs:=by
 refine⟨h.le,h.mx,h.nil,fun i hi=>?_⟩;obtain⟨b,off,e,hf,j,f,c⟩:=h.el i hi;exact⟨b,off,e,hF b hf,j,f.mono (a b hf),Rep.mono c a hF⟩
instance vq{α:Type}[Rep α]:Rep (List α)where
 sz:=1
 pos:=by decide
 agg:=false
 rd:=fun w F cs xs=>∃ao cap,cs=[.slice ao xs.length cap]/\Sl w F ao cap xs
 len:=by rintro w F cs x ⟨ao,cap,e,_⟩;subst e;rfl
 one:=by rintro w F cs x ⟨ao,cap,e,_⟩ v a;subst e;simp at a;subst a;rfl
 szAgg:=fun _=>rfl
 mono:=by rintro w w' F F' cs x ⟨ao,cap,e,h⟩ b hF;exact⟨ao,cap,e,h.mono b hF⟩
def Rd.sl[Rep α]{xs:List α}(h:Rd w F v xs):∃ao cap,v=.slice ao xs.length cap/\Sl w F ao cap xs:=by
 obtain⟨cs,e,ao,cap,rfl,a⟩:=h;exact⟨ao,cap,e,a⟩
def Sl.rd[Rep α]{ao:Option Addr}{cap:Nat}{xs:List α}(h:Sl w F ao cap xs):Rd w F (.slice ao xs.length cap) xs:=⟨[.slice ao xs.length cap],rfl,ao,cap,rfl,h⟩
def Sl.len63[Rep α]{ao:Option Addr}{cap:Nat}{xs:List α}(h:Sl w F ao cap xs):xs.length<=9223372036854775807:=by
 have:=h.le;have:=h.mx;unfold maxLen at this;omega
def Rd.int(h:Rd w F v x):v=Te x:=by obtain⟨cs,e,rfl⟩:=h;exact e
def Rd.bool{x:Bool}(h:Rd w F v x):v=.bool x:=by obtain⟨cs,e,rfl⟩:=h;exact e
def Rd.u64{x:Nat}(h:Rd w F v x):v=.int .u64 (x:Int)/\x<18446744073709551616:=by obtain⟨cs,e,rfl,h2⟩:=h;exact⟨e,h2⟩
def Rd.str{x:ByteArray}(h:Rd w F v x):v=.string x/\x.size<=maxLen:=by obtain⟨cs,e,rfl,h2⟩:=h;exact⟨e,h2⟩
def Rd.mkInt(w:World)(F:Nat->Prop)(x:Int):Rd w F (Te x) x:=⟨_,rfl,rfl⟩
def Rd.mkBool(w:World)(F:Nat->Prop)(x:Bool):Rd w F (.bool x) x:=⟨_,rfl,rfl⟩
def Rd.mkStr(w:World)(F:Nat->Prop)(x:ByteArray)(h:x.size<=maxLen):Rd w F (.string x) x:=⟨_,rfl,rfl,h⟩
def dl(w:World):Nat->Prop:=fun b=>b<w.heap.size
abbrev Ext(w w':World):Prop:=Below w.heap.size w w'
def Ext.refl(w:World):Ext w w:=MW _ _
def Ext.trans{a b c:World}(h:Ext a b)(k:Ext b c):Ext a c:=Below.trans h (k.mono h.size)
section
variable {α:Type}[Rep α]{w w' w0:World}{v:Value}{x:α}{ao:Option Addr}{cap:Nat}{xs:List α}
theorem Sl.at(h:Sl w0 (dl w0) ao cap xs)(c:Below w0.heap.size w0 w):Sl w (dl w0) ao cap xs:=h.mono (fun b a=>c.block b a) fun _ h=>h
theorem Sl.lift{F:Nat->Prop}(h:Sl w F ao cap xs)(hF:∀b,F b->b<w.heap.size):Sl w (dl w) ao cap xs:=h.mono S8 hF
theorem Sl.up(h:Sl w0 (dl w0) ao cap xs)(c:Below w0.heap.size w0 w):Sl w (dl w) ao cap xs:=h.mono (fun b a=>c.block b a) fun b a=>Qn a c.size
theorem Cells.lt{b off:Nat}{cs:List Value}(h:Cells w b off cs)(hn:0<cs.length):b<w.heap.size:=
 RU w _ (h 0 cs[0] (by simp[hn]))
end
def gA:TypeDesc->Bool|.struct _=>true|.array _ _=>true|_=>false
class IsT(P:Program)(t:TypeId)(α:Type)[Rep α]:Prop where
 ok:∃i d,P.info? t=some i/\i.size=sz α/\P.underlying t=some d/\gA d=Rep.agg α
class IsS(P:Program)(t:TypeId)(e:outParam TypeId):Prop where
 ok:P.underlying t=some (.slice e)
class IsZ(P:Program)(t:TypeId){α:Type}[Rep α](x:outParam α)(bytes:outParam Nat):Prop where
 ok:∃i z,P.info? t=some i/\i.zero=some z/\i.bytes=bytes/\∀w F,rd w F z.cells.toList x
theorem IsT.of[Rep α]{d:TypeDesc}(h:(P.info? t).map (fun i=>Nat.beq i.size (sz α))=some true)(a:P.underlying t=some d)
  (hd:gA d=Rep.agg α):IsT P t α:=by
 obtain⟨i,hi,b⟩:=QT.1 h;exact⟨i,d,hi,Qc b,a,hd⟩
theorem IsZ.of[Rep α]{x:α}{bytes:Nat}{z:Value}(h:(P.info? t).map (fun i=>(i.zero,i.bytes))=some (some z,bytes))(b:∀w F,rd w F z.cells.toList x):IsZ P t x bytes:=by
 obtain⟨i,hi,a⟩:=QT.1 h;simp only[QY]at a
 exact⟨i,z,hi,a.1,a.2,b⟩
def IsT.info[Rep α][h:IsT P t α]:∃i,P.info? t=some i/\i.size=sz α:=by
 obtain⟨i,d,h1,h2,_⟩:=h.ok;exact⟨i,h1,h2⟩
def Gv[Rep α][IsT P t α](w:World):(sizeOf t).run P w=.ok (sz α) w:=by
 obtain⟨i,h1,h2⟩:=IsT.info (P:=P) (t:=t) (α:=α);simp[sizeOf,typeInfo,h1,h2]
def F8[Rep α][h:IsT P t α](w:World):(isAgg t).run P w=.ok (Rep.agg α) w:=by
 obtain⟨i,d,h1,h2,h3,h4⟩:=h.ok;unfold isAgg;rw[Q4,Sy h3 w];rw[<-h4];cases d<;>rfl
def Ge[Rep α][IsT P t α]{b:Nat}{cs:List Value}{x:α}(c:Cells w b B cs)(f:rd w F cs x):
  (loadVar t ⟨b,B,none⟩).run P w=.ok (Lb α cs) w:=by
 have a:cs.length=sz α:=Rep.len f;unfold loadVar;rw[Q4,F8 (α:=α) w];simp only[Q2];unfold Lb;cases h:Rep.agg α with
 |true=>
  simp only[Sk];rw[Q4,Gv (α:=α) w];simp only[Q2];rw[Q4,<-a,Su w ⟨b,B,none⟩ cs (fun j v e=>by rw[RT];exact c j v e)];rfl
 |false=>
  rw[show sz α=1 from Rep.szAgg h]at a
  match cs,a with
  |[v],_=>
   have:=c 0 v rfl;simp only[P9]at this
   simp[this]
section
variable {P:Program}{Q:Exit->Act->World->Prop}{n:Nat}{σ:Sg}{w:World}{L rest:List Oper}{d:Nat}{op:Op}{ty:TypeId}{pos:String}{af:Array Edge}{g:Option (Nat×Bool)}
theorem fC{t e:TypeId}{x:Operand}{ao:Option Addr}{k cap:Nat}(f:gd L σ ⟨some d,.call ⟨.builtin .len,#[x],#[t]⟩,ty,pos,af,g⟩=some true)(hd:Nat.ble (d+1) n=true)
  (b:ev σ x=some (.slice ao k cap)) [c:IsS P t e] (h:WL P L Q rest n ((d,Te (k:Int))::σ) w):WL P L Q (⟨some d,.call ⟨.builtin .len,#[x],#[t]⟩,ty,pos,af,g⟩::rest) n σ w:=by
 refine WL.run f hd (fun a i=>?_) h;simp[execOp,resolve,invoke,builtin,i.ev b,Builtin.len_,Sy c.ok,goInt]
theorem fp{α:Type}[Rep α]{t e:TypeId}{x ix:Operand}{b off:Nat}{k cap:Nat}{i:Int}{kd:IntKind}(l:gd L σ ⟨some d,.indexAddr t x ix,ty,pos,af,g⟩=some true)(hd:Nat.ble (d+1) n=true)
  (f:ev σ x=some (.slice (some ⟨b,off,none⟩) k cap)) (hi:ev σ ix=some (.int kd i)) [j:IsS P t e] [o:IsT P e α] (m:0<=i) (h1:i<k)
  (h:WL P L Q rest n ((d,.pointer (some ⟨b,off+i.toNat*sz α,none⟩))::σ) w):WL P L Q (⟨some d,.indexAddr t x ix,ty,pos,af,g⟩::rest) n σ w:=by
 refine WL.run l hd (fun a c=>?_) h;simp[execOp,c.ev f,c.ev hi,Instr.indexAt,asIntOf,Sy j.ok,m,h1,Gv (α:=α),RT]
theorem WL.load{α:Type}[Rep α]{t:TypeId}{x:Operand}{b off:Nat}{F:Nat->Prop}{cs:List Value}{y:α}(f:gd L σ ⟨some d,.load t x,ty,pos,af,g⟩=some true)(hd:Nat.ble (d+1) n=true)
  (c:ev σ x=some (.pointer (some ⟨b,off,none⟩))) [k:IsT P t α] (i:Cells w b off cs) (e:rd w F cs y)
  (h:WL P L Q rest n ((d,Lb α cs)::σ) w):WL P L Q (⟨some d,.load t x,ty,pos,af,g⟩::rest) n σ w:=by
 refine WL.run f hd (fun a j=>?_) h;simp[execOp,j.ev c,Instr.loadAt,Instr.sureAddr,Ge i e]
theorem e_{α:Type}[Rep α]{t e:TypeId}{x ix:Operand}{ao:Option Addr}{cap a:Nat}{xs:List α}{F:Nat->Prop}{i:Int}{kd:IntKind}{ty':TypeId}{pos':String}{af':Array Edge}{k:Option (Nat×Bool)}
  (m:gd L σ ⟨some d,.indexAddr t x ix,ty,pos,af,g⟩=some true) (hd:Nat.ble (d+1) n=true) (hd':Nat.ble (a+1) n=true)
  (l:ev σ x=some (.slice ao xs.length cap)) (hi:ev σ ix=some (.int kd i)) [y:IsS P t e] [s:IsT P e α] (c:Sl w F ao cap xs) (q:0<=i) (h1:i<xs.length)
  (f:∀p,gd L ((d,.pointer p)::σ) ⟨some a,.load e (.tmp d),ty',pos',af',k⟩=some true)
  (h:∀u p,Rd w F u (xs[i.toNat]'SM)->WL P L Q rest n ((a,u)::(d,.pointer p)::σ) w):
  WL P L Q (⟨some d,.indexAddr t x ix,ty,pos,af,g⟩::⟨some a,.load e (.tmp d),ty',pos',af',k⟩::rest) n σ w:=by
 obtain⟨b,off,rfl,hF,r,o,j⟩:=c.el i.toNat SM;refine fp (α:=α) m hd l hi q h1 ?_;refine WL.load (α:=α) (f _) hd' rK o j ?_;exact h _ _ ⟨r,rfl,j⟩
theorem fg{α:Type}[Rep α]{t e:TypeId}{x ix:Operand}{ao:Option Addr}{cap a:Nat}{xs:List α}{F:Nat->Prop}{i:Nat}{kd:IntKind}{ty':TypeId}{pos':String}{af':Array Edge}{f:Option (Nat×Bool)}
  (l:gd L σ ⟨some d,.indexAddr t x ix,ty,pos,af,g⟩=some true) (hd:Nat.ble (d+1) n=true) (hd':Nat.ble (a+1) n=true)
  (j:ev σ x=some (.slice ao xs.length cap)) (hi:ev σ ix=some (.int kd (i:Int))) [o:IsS P t e] [m:IsT P e α] (b:Sl w F ao cap xs) (h1:i<xs.length)
  (c:∀p,gd L ((d,.pointer p)::σ) ⟨some a,.load e (.tmp d),ty',pos',af',f⟩=some true)
  (h:∀u p,Rd w F u xs[i]->WL P L Q rest n ((a,u)::(d,.pointer p)::σ) w):
  WL P L Q (⟨some d,.indexAddr t x ix,ty,pos,af,g⟩::⟨some a,.load e (.tmp d),ty',pos',af',f⟩::rest) n σ w:=
 e_ l hd hd' j hi b SM SM c (fun u p k=>h u p (by simpa using k))
theorem fh{α:Type}[Rep α]{t e:TypeId}{x ix:Operand}{ao:Option Addr}{cap a:Nat}{xs:List α}{F:Nat->Prop}{i:Nat}{kd:IntKind}{ty':TypeId}{pos':String}{af':Array Edge}{f:Option (Nat×Bool)}[m:IsS P t e][l:IsT P e α](b:Sl w F ao cap xs)(h1:i<xs.length)(c:∀p,gd L ((d,.pointer p)::σ) ⟨some a,.load e (.tmp d),ty',pos',af',f⟩=some true)(h:∀u p,Rd w F u xs[i]->WL P L Q rest n ((a,u)::(d,.pointer p)::σ) w)(k:gd L σ ⟨some d,.indexAddr t x ix,ty,pos,af,g⟩=some true:=by exact rfl)(hd:Nat.ble (d+1) n=true:=by exact rfl)(hd':Nat.ble (a+1) n=true:=by exact rfl)(j:ev σ x=some (.slice ao xs.length cap):=by exact rfl)(hi:ev σ ix=some (.int kd (i:Int)):=by exact rfl):WL P L Q (⟨some d,.indexAddr t x ix,ty,pos,af,g⟩::⟨some a,.load e (.tmp d),ty',pos',af',f⟩::rest) n σ w:=fg k hd hd' j hi b h1 c h
theorem fe{t e:TypeId}{x ix:Operand}{ao:Option Addr}{cap a:Nat}{xs:List Int}{F:Nat->Prop}{i:Nat}{y:Int}{kd:IntKind}{ty':TypeId}{pos':String}{af':Array Edge}{f:Option (Nat×Bool)}
  (m:gd L σ ⟨some d,.indexAddr t x ix,ty,pos,af,g⟩=some true) (hd:Nat.ble (d+1) n=true) (hd':Nat.ble (a+1) n=true)
  (k:ev σ x=some (.slice ao xs.length cap)) (hi:ev σ ix=some (.int kd (i:Int))) [q:IsS P t e] [o:IsT P e Int] (b:Sl w F ao cap xs) (h1:i<xs.length) (j:xs[i]=y)
  (c:∀p,gd L ((d,.pointer p)::σ) ⟨some a,.load e (.tmp d),ty',pos',af',f⟩=some true)
  (h:∀p,WL P L Q rest n ((a,Te y)::(d,.pointer p)::σ) w):
  WL P L Q (⟨some d,.indexAddr t x ix,ty,pos,af,g⟩::⟨some a,.load e (.tmp d),ty',pos',af',f⟩::rest) n σ w:=
 fg m hd hd' k hi b h1 c (fun u p l=>by rw[l.int,j];exact h p)
theorem ff{t e:TypeId}{x ix:Operand}{ao:Option Addr}{cap a:Nat}{xs:List Int}{F:Nat->Prop}{i:Nat}{y:Int}{kd:IntKind}{ty':TypeId}{pos':String}{af':Array Edge}{f:Option (Nat×Bool)}[o:IsS P t e][m:IsT P e Int](b:Sl w F ao cap xs)(h1:i<xs.length)(j:xs[i]=y)(c:∀p,gd L ((d,.pointer p)::σ) ⟨some a,.load e (.tmp d),ty',pos',af',f⟩=some true)(h:∀p,WL P L Q rest n ((a,Te y)::(d,.pointer p)::σ) w)(l:gd L σ ⟨some d,.indexAddr t x ix,ty,pos,af,g⟩=some true:=by exact rfl)(hd:Nat.ble (d+1) n=true:=by exact rfl)(hd':Nat.ble (a+1) n=true:=by exact rfl)(k:ev σ x=some (.slice ao xs.length cap):=by exact rfl)(hi:ev σ ix=some (.int kd (i:Int)):=by exact rfl):WL P L Q (⟨some d,.indexAddr t x ix,ty,pos,af,g⟩::⟨some a,.load e (.tmp d),ty',pos',af',f⟩::rest) n σ w:=fe l hd hd' k hi b h1 j c h
theorem fd{t e:TypeId}{x ix:Operand}{ao:Option Addr}{cap a:Nat}{xs:List Bool}{F:Nat->Prop}{i:Nat}{y:Bool}{kd:IntKind}{ty':TypeId}{pos':String}{af':Array Edge}{f:Option (Nat×Bool)}
  (m:gd L σ ⟨some d,.indexAddr t x ix,ty,pos,af,g⟩=some true) (hd:Nat.ble (d+1) n=true) (hd':Nat.ble (a+1) n=true)
  (k:ev σ x=some (.slice ao xs.length cap)) (hi:ev σ ix=some (.int kd (i:Int))) [q:IsS P t e] [o:IsT P e Bool] (b:Sl w F ao cap xs) (h1:i<xs.length) (j:xs[i]=y)
  (c:∀p,gd L ((d,.pointer p)::σ) ⟨some a,.load e (.tmp d),ty',pos',af',f⟩=some true)
  (h:∀p,WL P L Q rest n ((a,.bool y)::(d,.pointer p)::σ) w):
  WL P L Q (⟨some d,.indexAddr t x ix,ty,pos,af,g⟩::⟨some a,.load e (.tmp d),ty',pos',af',f⟩::rest) n σ w:=
 fg m hd hd' k hi b h1 c (fun u p l=>by rw[l.bool,j];exact h p)
theorem WL.box{e:TypeId}{x:Operand}{v:Value}(c:gd L σ ⟨some d,.box e x,ty,pos,af,g⟩=some true)(hd:Nat.ble (d+1) n=true)
  (b:ev σ x=some v) (h:WL P L Q rest n ((d,Tg w.heap.size)::σ) (w.alloc (.cells v.cells e))):WL P L Q (⟨some d,.box e x,ty,pos,af,g⟩::rest) n σ w:=by
 refine WL.run c hd (fun a f=>?_) h;simp[execOp,f.ev b,Instr.box,newVar,newRow]
end
def FnV(P:Program)(fv:Value)(args:List Value)(w:World)(R:Value->World->Prop):Prop:=
 ∃f fs cs,fv=.func (.func f) (List.toArray fs) (List.toArray cs)/\IsF P f/\Rt P f (fs++args++cs).toArray w R
def FnV.mk{f:FuncId}{cs:List Value}[hf:IsF P f](h:Rt P f (r++cs).toArray w c):FnV P (.func (.func f) [].toArray cs.toArray) r w c:=
 ⟨f,[],cs,rfl,hf,h⟩
def FnV.mono{fv:Value}{R':Value->World->Prop}(h:FnV P fv r w c)(a:∀v w',c v w'->R' v w'):FnV P fv r w R':=by
 obtain⟨f,fs,cs,e,hf,h⟩:=h;exact⟨f,fs,cs,e,hf,h.mono a⟩
def eO{n:Nat}{σ:Sg}{rest:List Oper}{d:Nat}{ty:TypeId}{g:Option (Nat×Bool)}
  {x:Operand} {xs:List Operand}  {vs:List Value} {fv:Value} 
  (i:gd L σ ⟨some d,.call ⟨.value x,xs.toArray,H⟩,ty,G,j,g⟩=some true) (hd:Nat.ble (d+1) n=true) (b:ev σ x=some fv) (e:pL σ xs=some vs)
  (a:FnV P fv vs w c) (h:∀v w',c v w'->WL P L Q rest n ((d,v)::σ) w'):WL P L Q (⟨some d,.call ⟨.value x,xs.toArray,H⟩,ty,G,j,g⟩::rest) n σ w:=by
 obtain⟨f,fs,cs,rfl,hf,a⟩:=a;exact eQ i hd b e a h
def Ext.alloc(w:World)(o:Obj):Ext w (w.alloc o):=(MW _ _).alloc Ta o
def Cells.alloc(w:World)(cs:Array Value)(e:TypeId):Cells (w.alloc (.cells cs e)) w.heap.size 0 cs.toList:=by
 intro j u a
 rw[World.cell?_alloc_new];simpa using a
section
variable {α:Type}[Rep α]{w w':World}{F F':Nat->Prop}
def Elems(w:World)(F:Nat->Prop)(cells:List Value)(xs:List α):Prop:=
 cells.length=xs.length*sz α/\∀i (h:i<xs.length),rd w F ((cells.drop (i*sz α)).take (sz α)) xs[i]
theorem Elems.mono{cells:List Value}{xs:List α}(h:Elems w F cells xs)(a:∀b,F b->w'.heap[b]?=w.heap[b]?)(hF:∀b,F b->F' b):Elems w' F' cells xs:=
 ⟨h.1,fun i hi=>Rep.mono (h.2 i hi) a hF⟩
theorem Elems.nil:Elems w F [] ([]:List α):=⟨by simp,fun i hi=>absurd hi SQ⟩
theorem Elems.one{cs:List Value}{x:α}(h:rd w F cs x):Elems w F cs [x]:=by
 have a:cs.length=sz α:=Rep.len h;refine⟨by simpa using a,fun i hi=>?_⟩;have:i=0:=by simpa using hi
 subst this;simpa[<-a]using h
theorem Elems.append{c1 c2:List Value}{xs ys:List α}(h1:Elems w F c1 xs)(h2:Elems w F c2 ys):Elems w F (c1++c2) (xs++ys):=by
 refine⟨by rw[OT,OT,h1.1,h2.1,P5],fun i hi=>?_⟩;by_cases a:i<xs.length
 ·have b:(i+1)*sz α<=c1.length:=by rw[h1.1];exact Qu _ a
  rw[P5,Qy]at b
  rw[NT SM,List.take_append_of_le_length (by rw[OW];omega),Oz a];exact h1.2 i a
 ·have c:xs.length<=i:=Qi a
  have f:i -xs.length<ys.length:=by rw[OT]at hi;omega
  rw[OA c];have e:i*sz α=c1.length+(i -xs.length)*sz α:=by rw[h1.1,<-P5];congr 1;omega
  rw[e,NS];have j:c1.drop (c1.length+(i -xs.length)*sz α)=[]:=NW SM;rw[j,PA];have h:c1.length+(i -xs.length)*sz α -c1.length=(i -xs.length)*sz α:=by omega
  rw[h];exact h2.2 _ f
theorem Elems.take{cells:List Value}{xs:List α}(h:Elems w F cells xs)(k:Nat)(c:k<=xs.length):Elems w F (cells.take (k*sz α)) (xs.take k):=by
 have a:k*sz α<=cells.length:=by rw[h.1];exact Qu _ c
 refine⟨by rw[O9,O9,Qp a,Qp c],fun i hi=>?_⟩;have b:i<k:=by rw[O9]at hi;omega
 have f:(i+1)*sz α<=k*sz α:=Qu _ b;rw[P5,Qy]at f
 rw[List.drop_take,List.take_take,Qp SM,OL];exact h.2 i SM
theorem Elems.drop{cells:List Value}{xs:List α}(h:Elems w F cells xs)(k:Nat)(a:k<=xs.length):Elems w F (cells.drop (k*sz α)) (xs.drop k):=by
 refine⟨by rw[OW,OW,h.1,Nat.sub_mul],fun i hi=>?_⟩;rw[OW]at hi
 rw[NU,OE,<-P5];exact h.2 (k+i) SM
theorem Elems.rep{cs:List Value}{x:α}(h:∀w F,rd w F cs x)(n:Nat):Elems w F ((List.replicate n cs).flatten) (List.replicate n x):=by
 induction n with
 |zero=>exact Elems.nil
 |succ n a=>
  rw[PM,PM,Oe];exact(Elems.one (h w F)).append a
theorem Elems.ones{cells:List Value}{xs:List α}(h:Elems w F cells xs):∀v∈cells,v.oneCell'=true:=by
 intro v f
 obtain⟨j,c,rfl⟩:=Pq.1 f;have b:0<sz α:=Rep.pos;have hi:j / sz α<xs.length:=by rw[Qb b,<-h.1];exact c
 refine Rep.one (h.2 _ hi) _ ?_;have i:=Nat.mod_add_div j (sz α);have a:=Qr j b;rw[Nat.mul_comm]at i
 refine List.mem_iff_getElem?.2 ⟨j % sz α,?_⟩;rw[Oy a,Om];have:j / sz α*sz α+j % sz α=j:=by omega
 rw[this];exact On c
def over(cells:List Value)(o:Nat)(a:List Value):List Value:=cells.take o++a++cells.drop (o+a.length)
theorem Elems.set{cells a:List Value}{xs:List α}{y:α}(h:Elems w F cells xs)(b:rd w F a y)(k:Nat)(c:k<xs.length):Elems w F (over cells (k*sz α) a) (xs.set k y):=by
 have f:a.length=sz α:=Rep.len b;have h1:=(h.take k SM).append (Elems.one b);have h2:=h1.append (h.drop (k+1) c);have e:(k+1)*sz α=k*sz α+a.length:=by rw[P5,Qy,f]
 rw[e]at h2
 have i:xs.set k y=xs.take k++[y]++xs.drop (k+1):=by
  rw[PO,Sj c];simp
 rw[i];exact h2
end
section
variable {α:Type}[Rep α]
structure OwnAt(w:World)(B:Nat)(e:TypeId)(F:Nat->Prop)(g off cap:Nat)(cur:Array Value)(xs:List α):Prop where
 blk:w.heap[g]?=some (.cells cur e (0,0))
 ge:B<=g
 nF:¬F g
 le:xs.length<=cap
 mx:cap<=maxLen
 fit:off+cap*sz α<=cur.size
 el:Elems w F ((cur.toList.drop off).take (xs.length*sz α)) xs
def Own(w:World)(B:Nat)(e:TypeId)(F:Nat->Prop)(v:Value)(xs:List α):Prop:=
 (v=.slice none 0 0/\xs=[])\/∃g off cap cur,v=.slice (some ⟨g,off,none⟩) xs.length cap/\OwnAt w B e F g off cap cur xs
def di:Nat->Prop:=fun _=>False
end
section
variable {α:Type}[Rep α]{w w':World}{B:Nat}{e:TypeId}{F F':Nat->Prop}{v:Value}{xs:List α}
theorem Own.nil:Own w B e F (.slice none 0 0) ([]:List α):=.inl ⟨rfl,rfl⟩
theorem Own.lt(h:Own w B e F v xs):∀g,v.ownBlock=some g->B<=g/\g<w.heap.size/\¬F g:=by
 intro g a
 rcases h with⟨rfl,_⟩|⟨b,off,cap,cur,rfl,h⟩
 ·simp[Value.ownBlock]at a
 ·simp[Value.ownBlock]at a;subst a
  exact⟨h.ge,(MH.1 h.blk).1,h.nF⟩
theorem Own.keep(h:Own w B e F v xs)(a:∀g,v.ownBlock=some g->w'.heap[g]?=w.heap[g]?)(hF:∀b,F b->w'.heap[b]?=w.heap[b]?):Own w' B e F v xs:=by
 rcases h with hn|⟨g,off,cap,cur,rfl,h⟩
 ·exact .inl hn
 ·exact .inr ⟨g,off,cap,cur,rfl,⟨(a g rfl).trans h.blk,h.ge,h.nF,h.le,h.mx,h.fit,h.el.mono hF fun _ h=>h⟩⟩
theorem Own.wk(h:Own w B e F v xs)(hF:∀b,F b->F' b)(hn:∀g,v.ownBlock=some g->¬F' g):Own w B e F' v xs:=by
 rcases h with hn|⟨g,off,cap,cur,rfl,h⟩
 ·exact .inl hn
 ·exact .inr ⟨g,off,cap,cur,rfl,⟨h.blk,h.ge,hn g rfl,h.le,h.mx,h.fit,h.el.mono S8 hF⟩⟩
theorem Own.low(h:Own w B e F v xs){B':Nat}(a:B'<=B):Own w B' e F v xs:=by
 rcases h with hn|⟨g,off,cap,cur,rfl,h⟩
 ·exact .inl hn
 ·exact .inr ⟨g,off,cap,cur,rfl,⟨h.blk,Qk a h.ge,h.nF,h.le,h.mx,h.fit,h.el⟩⟩
theorem Own.kept(h:Own w B e F v xs){row:Option Nat}(f:w.grownBy w' row)(c:∀g,v.ownBlock=some g->some g≠row)(hF:∀b,F b->b<w.heap.size/\some b≠row):Own w' B e F v xs:=
 h.keep (fun g a=>f.block g (h.lt g a).2.1 (c g a)) fun b i=>f.block b (hF b i).1 (hF b i).2
theorem Own.ext(h:Own w B e F v xs)(c:Ext w w')(hF:∀b,F b->b<w.heap.size):Own w' B e F v xs:=
 h.keep (fun g a=>c.block g (h.lt g a).2.1) fun b f=>c.block b (hF b f)
theorem Own.keptN(h:Own w B e di v xs){row:Option Nat}(b:w.grownBy w' row)(a:∀g,v.ownBlock=some g->some g≠row):Own w' B e di v xs:=h.kept b a fun _ h=>h.elim
theorem Own.extN(h:Own w B e di v xs)(a:Ext w w'):Own w' B e di v xs:=h.ext a fun _ h=>h.elim
theorem mL{cur:Array Value}{off m j:Nat}{u:Value}(h:((cur.toList.drop off).take m)[j]?=some u):cur[off+j]?=some u:=by
 rw[Ox]at h
 split at h
 ·rw[Om]at h;simpa using h
 ·cases h
theorem Own.sl(h:Own w B e F v xs):∃ao cap,v=.slice ao xs.length cap/\Sl w (fun b=>F b\/v.ownBlock=some b) ao cap xs:=by
 rcases h with⟨rfl,rfl⟩|⟨g,off,cap,cur,rfl,h⟩
 ·exact⟨none,0,rfl,⟨by simp,by simp[maxLen],fun _=>rfl,fun i hi=>absurd hi SQ⟩⟩
 ·refine⟨some ⟨g,off,none⟩,cap,rfl,⟨h.le,h.mx,(fun e=>by cases e),fun i hi=>⟨g,off,rfl,.inr rfl,_,?_,Rep.mono (h.el.2 i hi) S8 fun _ h=>.inl h⟩⟩⟩
  intro j u a
  rw[Ox]at a
  split at a
  ·rw[Om]at a
   rw[R4 w g _ cur e (0,0) h.blk];have:=mL a;rw[<-this];congr 1;omega
  ·cases a
theorem Own.rd(h:Own w B e F v xs):Rd w (fun b=>F b\/v.ownBlock=some b) v xs:=by
 obtain⟨ao,cap,rfl,a⟩:=h.sl;exact a.rd
theorem Own.old(h:Own w B e F v xs)(hF:∀b,F b->b<w.heap.size):Rd w (dl w) v xs:=h.rd.mono S8 fun b c=>c.elim (hF b) (fun a=>(h.lt b a).2.1)
theorem Own.oldN(h:Own w B e di v xs):Rd w (dl w) v xs:=h.old fun _ h=>h.elim
theorem Own.slF(h:Own w B e F v xs)(hF:∀b,F b->F' b)(a:∀g,v.ownBlock=some g->F' g):∃ao cap,v=.slice ao xs.length cap/\Sl w F' ao cap xs:=by
 obtain⟨ao,cap,e,c⟩:=h.sl;exact⟨ao,cap,e,c.mono S8 fun b f=>f.elim (hF b) (fun h=>a b h)⟩
theorem Own.val(h:Own w B e F v xs):∃ao cap,v=.slice ao xs.length cap:=by obtain⟨ao,cap,e,_⟩:=h.sl;exact⟨ao,cap,e⟩
theorem Own.made(w:World)(B:Nat)(e:TypeId)(F:Nat->Prop)(cur:Array Value)(xs:List α)(f:B<=w.heap.size)(hn:¬F w.heap.size)(a:xs.length<=maxLen)
  (hF:∀b,F b->b<w.heap.size) (h:Elems w F cur.toList xs):
  Own (w.alloc (.cells cur e)) B e F (.slice (some ⟨w.heap.size,0,none⟩) xs.length xs.length) xs:=by
 refine .inr ⟨w.heap.size,0,xs.length,cur,rfl,⟨Sf w _,f,hn,Qj _,a,?_,?_⟩⟩
 ·have:=h.1;simp at this⊢;omega
 ·have i:(cur.toList.drop 0).take (xs.length*sz α)=cur.toList:=by rw[NZ];exact PW (Qh h.1)
  rw[i];exact h.mono (fun b c=>MU w _ b (hF b c)) fun _ h=>h
theorem t_(w:World)(o:Obj)(row:Option Nat):w.grownBy (w.alloc o) row:=World.grownBy_alloc w o row
theorem AV(z:Array Value)(n:Nat)(i:0<z.size):(madeCells z (n*z.size)).toList=(List.replicate n z.toList).flatten:=by
 apply N5;intro j
 induction n generalizing j with
 |zero=>simp[madeCells]
 |succ n f=>
  rw[PM,Oe];by_cases b:j<z.size
  ·have h1:j<(n+1)*z.size:=by rw[P5,Qy];omega
   rw[Oj (by simpa using b)];simp[madeCells,h1,Qq b,b]
  ·have c:z.toList.length<=j:=by simpa using Qi b
   rw[Ok c,<-f];have h:(j -z.size) % z.size=j % z.size:=by rw[<-Nat.mod_eq_sub_mod SM]
   by_cases a:j<(n+1)*z.size
   ·have h2:j -z.size<n*z.size:=by rw[P5,Qy]at a;omega
    simp[madeCells,a,h2,h]
   ·have h2:¬j -z.size<n*z.size:=by rw[P5,Qy]at a;omega
    simp[madeCells,a,h2]
end
section
variable {P:Program}{α:Type}[Rep α]{w:World}{B:Nat}{e t ty:TypeId}{F:Nat->Prop}{v:Value}{xs ys:List α}{x0:α}{bytes:Nat}
theorem Gg[p:IsS P t e][s:IsT P e α][o:IsZ P e x0 bytes](n:Nat)(kl kc:IntKind)(u:n*bytes<=281474976710656)(l:n<=maxLen)(q:B<=w.heap.size)(hn:¬F w.heap.size)(hF:∀b,F b->b<w.heap.size):
  ∃w',(Instr.makeSlice t (.int kl (n:Int)) (.int kc (n:Int))).run P w=.ok (.slice (some ⟨w.heap.size,0,none⟩) n n) w'/\Own w' B e F (.slice (some ⟨w.heap.size,0,none⟩) n n) (List.replicate n x0)/\w.grownBy w' none:=by
 obtain⟨i,z,h1,h2,h3,h4⟩:=o.ok;obtain⟨m,j,r⟩:=IsT.info (P:=P) (t:=e) (α:=α);obtain rfl:i=m:=QV (h1.symm.trans j);have a:z.cells.size=sz α:=by have:=Rep.len (h4 w F);simpa using this
 have c:=l;unfold maxLen at c
 have f:(i.bytes:Int)*(n:Int)<=281474976710656:=by
  have h:((n*bytes:Nat):Int)<=281474976710656:=by omega
  rw[h3,Int.mul_comm];rwa[Int.natCast_mul]at h
 have k:=run_make (P:=P) w t e i z p.ok h1 h2 kl kc n n SM (No _) f SM;simp only[Nt]at k
 refine⟨_,k,?_,t_ w _ none⟩;have:=Own.made w B e F (madeCells z.cells (n*i.size)) (List.replicate n x0) q hn (by simpa using l) hF (by
  rw[r,<-a,AV _ _ (by rw[a];exact Rep.pos)];exact Elems.rep h4 n)
 simpa using this
theorem Sl.cells{ao:Option Addr}{cap:Nat}{G:Nat->Prop}(h:Sl w G ao cap ys):∃a:List Value,a.length=ys.length*sz α/\Elems w G a ys/\∀b,ao=some b->ys≠[]->∀j u,a[j]?=some u->w.cell? (b.add j)=some u:=by
 have key:∀k,k<=ys.length->∃a:List Value,a.length=k*sz α/\Elems w G a (ys.take k)/\∀b,ao=some b->ys≠[]->∀j u,a[j]?=some u->w.cell? (b.add j)=some u:=by
  intro k
  induction k with
  |zero=>intro _;exact⟨[],by simp,by simpa using Elems.nil,fun b _ _ j u f=>by simp at f⟩
  |succ k q=>
   intro o
   obtain⟨a,h1,h2,h3⟩:=q SM;obtain⟨b,off,l,_,p,x,m⟩:=h.el k o;have r:p.length=sz α:=Rep.len m;refine⟨a++p,by rw[OT,h1,r,P5,Qy],?_,?_⟩
   ·rw[PZ o]
    exact h2.append (Elems.one m)
   ·intro y c i j u f
    by_cases s:j<a.length
    ·rw[Oj s]at f;exact h3 y c i j u f
    ·rw[Ok SM]at f
     rw[l]at c
     cases c
     rw[RT];have:=x (j -a.length) u f;rw[<-this];congr 2;rw[<-h1];omega
 obtain⟨a,h1,h2,h3⟩:=key ys.length Ta;exact⟨a,h1,by simpa using h2,h3⟩
theorem Jp{cur:List Value}{off n m:Nat}{a:List Value}(hn:a.length=m)(c:off+n+m<=cur.length):
  ((cur.take (off+n)++a++cur.drop (off+n+m)).drop off).take (n+m)=(cur.drop off).take n++a:=by
 apply N5;intro j
 rw[Ox];by_cases b:j<n+m
 ·rw[Sj b,Om]
  by_cases h1:j<n
  ·rw[Oj ST,Oj ST,Oj ST]
   rw[Oy SM,Oy h1,Om]
  ·rw[Oj ST,Ok ST,Ok ST]
   congr 1
   simp;omega
 ·rw[Si b,Oo]
  simp;omega
def d_(w:World)(F:Nat->Prop)(ao:Option Addr)(ys:List α):Prop:=
 (ao=none->ys=[])/\∃a:List Value,Elems w F a ys/\∀b,ao=some b->ys≠[]->∀j u,a[j]?=some u->w.cell? (b.add j)=some u
theorem Own.src{ao:Option Addr}{cap:Nat}(h:Own w B e F (.slice ao ys.length cap) ys):d_ w F ao ys:=by
 rcases h with⟨h1,rfl⟩|⟨g,off,cp,cur,h1,a⟩
 ·exact⟨fun _=>rfl,[],Elems.nil,fun _ _ h=>absurd rfl h⟩
 ·obtain⟨rfl,_,rfl⟩:=RS h1
  refine⟨(fun e=>by cases e),_,a.el,fun b f _ j u c=>?_⟩;cases f
  rw[RT,R4 w g _ cur e (0,0) a.blk];exact mL c
theorem F1[C:IsS P t e][ht:IsT P e α][hz:IsZ P e x0 bytes]{ao:Option Addr}{cap:Nat}(E:Own w B e F v xs)(hy:d_ w F ao ys)
  (hB:B<=w.heap.size) (hF:∀b,F b->b<w.heap.size) (hm:xs.length+ys.length<=maxLen) (y:(xs.length+ys.length)*bytes<=140737488355328):
  ∃M w',(Builtin.append_ #[t,t] ty #[v,.slice ao ys.length cap]).run P w=.ok M w'/\Own w' B e F M (xs++ys)/\w.grownBy w' v.ownBlock/\(∀g,M.ownBlock=some g->v.ownBlock=some g\/w.heap.size<=g):=by
 obtain⟨i,z,h1,h2,h3,h4⟩:=hz.ok;obtain⟨i',h1',K⟩:=IsT.info (P:=P) (t:=e) (α:=α);obtain rfl:i=i':=QV (h1.symm.trans h1');have N:z.cells.size=sz α:=by have:=Rep.len (h4 w F);simpa using this
 have G:=hm;unfold maxLen at G
 obtain⟨m,a,X,Z⟩:=hy;have r:=X.1;have T:∀u∈a,u.oneCell'=true:=X.ones;have J:∀w':World,(∀b,F b->w'.heap[b]?=w.heap[b]?)->Elems w' F a ys:=fun w' R=>X.mono R fun _ h=>h
 have U:¬F w.heap.size:=fun h=>by have:=hF _ h;omega
 have news0:ys.length=0->a=[]:=fun h=>N0 (by rw[r,h,Nat.zero_mul])
 have grow:∀(olds:List Value) (old:Nat),Elems w F olds xs->∀row:Option Nat,old<=maxLen->xs.length+ys.length<=grownCap w (xs.length+ys.length) old e->
   Own (w.drew.alloc (.cells (olds.toArray++a.toArray++Builtin.zeroCells z.cells (grownCap w (xs.length+ys.length) old e -(xs.length+ys.length))) e)) B e F
    (.slice (some ⟨w.heap.size,0,none⟩) (xs.length+ys.length) (grownCap w (xs.length+ys.length) old e)) (xs++ys)/\
   w.grownBy (w.drew.alloc (.cells (olds.toArray++a.toArray++Builtin.zeroCells z.cells (grownCap w (xs.length+ys.length) old e -(xs.length+ys.length))) e)) row:=by
  intro olds old c row _ W
  have Y:grownCap w (xs.length+ys.length) old e<=maxLen:=grownCap_le_maxLen w _ old e hm;have hh:∀b,F b->(w.drew.alloc (.cells (olds.toArray++a.toArray++Builtin.zeroCells z.cells (grownCap w (xs.length+ys.length) old e -(xs.length+ys.length))) e)).heap[b]?=w.heap[b]?:=
   fun b y=>MU w.drew _ b (hF b y)
  have H:(olds++a).length=(xs++ys).length*sz α:=by rw[OT,OT,c.1,r,P5]
  refine⟨.inr ⟨w.heap.size,0,_,_,by rw[OT],⟨Sf w.drew _,hB,U,by simpa using W,Y,?_,?_⟩⟩,⟨rfl,rfl,rfl,by simp,fun k V _=>MU w.drew _ k V⟩⟩
  ·simp only[QJ,Array.size_append,PQ,size_zeroCells,N,c.1,r,<-P5]
   exact Qu _ SM
  ·have e1:((olds.toArray++a.toArray++Builtin.zeroCells z.cells (grownCap w (xs.length+ys.length) old e -(xs.length+ys.length))).toList.drop 0).take ((xs++ys).length*sz α)=olds++a:=by
    simp only[Array.toList_append,NZ];rw[<-H];exact List.take_left
   rw[e1];exact(c.mono hh fun _ h=>h).append (J _ hh)
 rcases E with⟨rfl,rfl⟩|⟨g,off,cp,cur,rfl,c⟩
 ·by_cases f:ys.length=0
  ·have hn:=news0 f
   subst hn;have O:ys=[]:=N0 f;subst O;refine⟨.slice none 0 0,w,?_,Own.nil,⟨rfl,rfl,rfl,Qj _,fun _ _ _=>rfl⟩,fun g h=>.inl h⟩;cases ao with
   |none=>simp[Builtin.append_,Sy C.ok,sizeOf,typeInfo,h1,Builtin.lenOf,Builtin.firstCells]
   |some b=>simp[Builtin.append_,Sy C.ok,sizeOf,typeInfo,h1,Builtin.lenOf,Builtin.firstCells,loadCells,loadCellsFrom]
  ·have p:ys≠[]:=fun e=>f (by rw[e];rfl)
   obtain⟨b,rfl⟩:∃b,ao=some b:=by
    cases ao with
    |none=>exact absurd (m rfl) p
    |some b=>exact⟨b,rfl⟩
   have hb0:ys.length*i.bytes<=281474976710656:=by rw[h3];simp only[O2,QJ]at y;omega
   have S:=run_append_nil (P:=P) w t ty e i z C.ok h1 h2 _ ys.length cap a (by rw[r,K]) (Z _ rfl p) SM (by simp only[O2]at G;omega) hb0;have o:=grow [] 0 Elems.nil (Value.ownBlock (.slice none 0 0)) (by simp[maxLen]) (grownCap_ge _ _ _ _);simp only[O2,QJ]at o
   exact⟨_,_,S,by simpa using o.1,by simpa using o.2,fun g h=>.inr (by simp[Value.ownBlock]at h;omega)⟩
 ·have olds_len:((cur.toList.drop off).take (xs.length*sz α)).length=xs.length*sz α:=c.el.1
  by_cases l:xs.length+ys.length<=cp
  ·
   have q:off+xs.length*sz α+a.length<=cur.size:=by
    have h6:(xs.length+ys.length)*sz α<=cp*sz α:=Qu _ l;have h7:=c.fit;rw[P5]at h6
    rw[r];omega
   have I:(Builtin.firstCells (sz α) ys.length (.slice ao ys.length cap)).run P w=.ok a.toArray w:=by
    cases ao with
    |none=>
     have:ys.length=0:=by rw[m rfl];rfl
     rw[news0 this];simp[Builtin.firstCells]
    |some b=>
     by_cases f:ys.length=0
     ·rw[news0 f,f]
      simp[Builtin.firstCells,loadCells,loadCellsFrom]
     ·exact run_firstCells_some (P:=P) w (sz α) ys.length b ys.length cap a r (Z b rfl (fun e=>f (by rw[e];rfl)))
   have A:=Sx P g (off+xs.length*sz α) e a 0 cur w c.blk (by simpa using q) T;simp only[P9]at A
   have D:(Builtin.append_ #[t,t] ty #[.slice (some ⟨g,off,none⟩) xs.length cp,.slice ao ys.length cap]).run P w=
     .ok (.slice (some ⟨g,off,none⟩) (xs.length+ys.length) cp) (w.setRow g (cur.toList.take (off+xs.length*sz α)++a++cur.toList.drop (off+xs.length*sz α+a.length)).toArray):=by
    simp[Builtin.append_,Sy C.ok,sizeOf,typeInfo,h1,Builtin.lenOf,l,K,I,RT,A]
   refine⟨_,_,D,.inr ⟨g,off,cp,_,by rw[OT],⟨Sz w g cur _ e _ c.blk,c.ge,c.nF,by simpa using l,c.mx,?_,?_⟩⟩,⟨rfl,rfl,rfl,by simp,fun k _ V=>SA w g k _ (fun e=>V (by simp[Value.ownBlock,e]))⟩,fun g h=>.inl h⟩
   ·have h7:=c.fit
    simp only[PQ,OT,O9,OW,MP];omega
   ·have hh:∀b,F b->(w.setRow g (cur.toList.take (off+xs.length*sz α)++a++cur.toList.drop (off+xs.length*sz α+a.length)).toArray).heap[b]?=w.heap[b]?:=
     fun b y=>SA w g b _ (fun e=>c.nF (e▸y))
    have e1:(((cur.toList.take (off+xs.length*sz α)++a++cur.toList.drop (off+xs.length*sz α+a.length)).toArray.toList.drop off).take ((xs++ys).length*sz α))=(cur.toList.drop off).take (xs.length*sz α)++a:=by
     rw[OT,P5];have h8:off+xs.length*sz α+ys.length*sz α<=cur.toList.length:=by rw[r]at q;rw[MP];exact q
     have h9:=Jp (cur:=cur.toList) r h8;rw[r];exact h9
    rw[e1];exact(c.el.mono hh fun _ h=>h).append (J _ hh)
  ·have s:0<ys.length:=by have:=c.le;omega
   have p:ys≠[]:=fun e=>by rw[e]at s;exact absurd s SQ
   obtain⟨b,rfl⟩:∃b,ao=some b:=by
    cases ao with
    |none=>exact absurd (m rfl) p
    |some b=>exact⟨b,rfl⟩
   have x:Builtin.nextslicecap (xs.length+ys.length) cp*i.bytes<=281474976710656:=growslice_fits SM (by rw[h3];exact y);have S:=run_append_grow (P:=P) w t ty e i z C.ok h1 h2 ⟨g,off,none⟩ xs.length cp ((cur.toList.drop off).take (xs.length*sz α)) (by rw[olds_len,K])
    (fun j u hu=>by rw[RT,R4 w g _ cur e (0,0) c.blk];exact mL hu)
    _ ys.length cap a (by rw[r,K]) (Z _ rfl p) SM SM x
   have o:=grow ((cur.toList.drop off).take (xs.length*sz α)) cp c.el (Value.ownBlock (.slice (some ⟨g,off,none⟩) xs.length cp)) c.mx (grownCap_ge _ _ _ _);exact⟨_,_,S,o.1,o.2,fun g h=>.inr (by simp[Value.ownBlock]at h;omega)⟩
end
class Flat(α:Type)[Rep α]:Prop where
 ok:∀{w w':World} {F F':Nat->Prop} {cs:List Value} {x:α},rd w F cs x->rd w' F' cs x
instance:Flat Int:=⟨fun h=>h⟩
section
variable {P:Program}{Q:Exit->Act->World->Prop}{n:Nat}{σ:Sg}{w:World}{L rest:List Oper}{d:Nat}{ty:TypeId}{pos:String}{af:Array Edge}{g:Option (Nat×Bool)}
variable {α:Type}[Rep α]{e t:TypeId}{x0:α}{bytes:Nat}{F:Nat->Prop}
theorem fK{x y:Operand}{k:Nat}{kl kc:IntKind}(o:gd L σ ⟨some d,.makeSlice t x y,ty,pos,af,g⟩=some true)(hd:Nat.ble (d+1) n=true)
  (i:ev σ x=some (.int kl (k:Int))) (f:ev σ y=some (.int kc (k:Int))) [s:IsS P t e] [r:IsT P e α] [q:IsZ P e x0 bytes] (p:k*bytes<=281474976710656) (m:k<=maxLen)
  (h:∀w',Own w' w.heap.size e di (.slice (some ⟨w.heap.size,0,none⟩) k k) (List.replicate k x0)->w.grownBy w' none->WL P L Q rest n ((d,.slice (some ⟨w.heap.size,0,none⟩) k k)::σ) w'):
  WL P L Q (⟨some d,.makeSlice t x y,ty,pos,af,g⟩::rest) n σ w:=by
 obtain⟨w',j,l,b⟩:=Gg (P:=P) (t:=t) (e:=e) (x0:=x0) (w:=w) (B:=w.heap.size) (F:=di) k kl kc p m Ta (fun h=>h) S0;refine WL.run o hd (fun a c=>?_) (h w' l b);simp[execOp,c.ev i,c.ev f,j]
theorem Gd(w:World)[a:IsS P t e][b:IsT P e α]:(Instr.buildSlice t 0 #[]).run P w=.ok (.slice (some ⟨w.heap.size,0,none⟩) 0 0) (w.alloc (.cells #[] e)):=by
 simp[Instr.buildSlice,Sy a.ok,Gv (α:=α),Instr.fill,newRow,Array.range_zero']
theorem fE(b:gd L σ ⟨some d,.buildSlice t 0 [].toArray,ty,pos,af,g⟩=some true)(hd:Nat.ble (d+1) n=true)[f:IsS P t e][c:IsT P e α]
  (h:∀w',Own w' w.heap.size e di (.slice (some ⟨w.heap.size,0,none⟩) 0 0) ([]:List α)->w.grownBy w' none->WL P L Q rest n ((d,.slice (some ⟨w.heap.size,0,none⟩) 0 0)::σ) w'):
  WL P L Q (⟨some d,.buildSlice t 0 [].toArray,ty,pos,af,g⟩::rest) n σ w:=by
 refine WL.run b hd (fun a i=>?_) (h _ (Own.made w w.heap.size e di #[] ([]:List α) Ta (fun h=>h) (by simp[maxLen]) S0 Elems.nil) (t_ w _ none));have:=Gd (P:=P) (t:=t) (e:=e) (α:=α) w;simp[execOp];rw[this];rfl
theorem WL.app{x y:Operand}{v:Value}{xs ys:List α}{ao:Option Addr}{cap B:Nat}(r:gd L σ ⟨some d,.call ⟨.builtin .append,#[x,y],#[t,t]⟩,ty,pos,af,g⟩=some true)(hd:Nat.ble (d+1) n=true)
  (m:ev σ x=some v) (l:ev σ y=some (.slice ao ys.length cap)) [C:IsS P t e] [A:IsT P e α] [z:IsZ P e x0 bytes] (f:Own w B e F v xs) (i:d_ w F ao ys) (u:B<=w.heap.size) (hF:∀b,F b->b<w.heap.size)
  (q:xs.length+ys.length<=maxLen) (s:(xs.length+ys.length)*bytes<=140737488355328)
  (h:∀c w',Own w' B e F c (xs++ys)->w.grownBy w' v.ownBlock->(∀g,c.ownBlock=some g->v.ownBlock=some g\/w.heap.size<=g)->WL P L Q rest n ((d,c)::σ) w'):
  WL P L Q (⟨some d,.call ⟨.builtin .append,#[x,y],#[t,t]⟩,ty,pos,af,g⟩::rest) n σ w:=by
 obtain⟨c,w',o,p,j,hnb⟩:=F1 (P:=P) (t:=t) (ty:=ty) (cap:=cap) f i u hF q s;refine WL.run r hd (fun a k=>?_) (h c w' p j hnb);simp[execOp,resolve,invoke,builtin,k.ev m,k.ev l,o]
theorem Sl.srcN[b:Flat α]{ao:Option Addr}{cap:Nat}{ys:List α}{G:Nat->Prop}(h:Sl w G ao cap ys):d_ w F ao ys:=by
 obtain⟨a,h1,h2,h3⟩:=h.cells;refine⟨fun e=>N0 ?_,a,⟨h2.1,fun i hi=>b.ok (h2.2 i hi)⟩,h3⟩;have:=h.nil e;have:=h.le;omega
end
def xP{β:Type}:Nat->List β->List (Nat×β)
 |_,[]=>[]
 |k,x::r=>(k,x)::xP (k+1) r
def HV{β:Type}:List (Nat×β)->List β
 |[]=>[]
 |(_,x)::r=>x::HV r
def xQ{β γ:Type}(f:β->γ):∀(l:List β) (k:Nat),(xP k l).map (fun p=>(p.1,f p.2))=xP k (l.map f)
 |[],_=>rfl
 |x::r,k=>by simp[xP,xQ f r]
section
variable {α:Type}[Rep α]
def RdAll(w:World)(F:Nat->Prop):List Value->List α->Prop
 |[],[]=>True
 |v::vs,y::ys=>Rd w F v y/\RdAll w F vs ys
 |_,_=>False
theorem RdAll.nil{w:World}{F:Nat->Prop}:RdAll w F [] ([]:List α):=trivial
theorem RdAll.cons{w:World}{F:Nat->Prop}{v:Value}{y:α}{vs:List Value}{ys:List α}(h:Rd w F v y)(a:RdAll w F vs ys):RdAll w F (v::vs) (y::ys):=⟨h,a⟩
theorem RdAll.len{w:World}{F:Nat->Prop}:∀{vs:List Value} {ys:List α},RdAll w F vs ys->vs.length=ys.length
 |[],[],_=>rfl
 |v::vs,y::ys,h=>by simp[RdAll.len h.2]
 |[],_::_,h=>h.elim
 |_::_,[],h=>h.elim
theorem rN:∀(a:List Value) (k:Nat) (cells:Array Value),k+a.length<=cells.size->
  a.zipIdx.foldl (fun(cs:Array Value) (x:Value×Nat)=>cs.setIfInBounds (k+x.2) x.1) cells=(cells.toList.take k++a++cells.toList.drop (k+a.length)).toArray:=by
 intro a
 have key:∀(a:List Value) (k j:Nat) (cells:Array Value),k+j+a.length<=cells.size->
   (a.zipIdx j).foldl (fun(cs:Array Value) (x:Value×Nat)=>cs.setIfInBounds (k+x.2) x.1) cells=(cells.toList.take (k+j)++a++cells.toList.drop (k+j+a.length)).toArray:=by
  intro a
  induction a with
  |nil=>intro k j cells b;simp
  |cons u a f=>
   intro k j cells b
   simp only[List.zipIdx_cons,Og];rw[f k (j+1) _ (by simp at b⊢;omega)]
   congr 1
   simp only[Array.toList_setIfInBounds];have c:k+j<cells.toList.length:=by simp at b⊢;omega
   rw[<-Nat.add_assoc,PZ (by simpa using c),PX Ta,List.drop_set_of_lt SM];simp[Nat.add_assoc,P4 1]
 intro k cells b
 have:=key a k 0 cells (by simpa using b);simpa using this
theorem qM{w:World}{F:Nat->Prop}:∀(vs:List Value) (ys:List α) (k:Nat) (cells:Array Value),RdAll w F vs ys->cells.size=(k+ys.length)*sz α->
  ∃out:List Value,Instr.fill (fun i=>some (i*sz α,sz α)) cells (xP k vs)=some (cells.toList.take (k*sz α)++out).toArray/\Elems w F out ys
 |[],[],k,cells,_,b=>⟨[],by
    simp only[xP,Instr.fill,NG,QW];rw[PW (by simp at b⊢;omega)],Elems.nil⟩
 |v::vs,y::ys,k,cells,h,b=>by
  obtain⟨cs,q,f⟩:=h.1;have o:cs.length=sz α:=Rep.len f;have a:v.cells=cs.toArray:=by rw[q];apply MA;simpa using Lc f
  have l:(k+1)*sz α<=cells.size:=by rw[b];exact Qu _ SQ
  rw[P5,Qy]at l
  have hf:=rN cs (k*sz α) cells SM;obtain⟨out,ho1,ho2⟩:=qM vs ys (k+1) (cells.toList.take (k*sz α)++cs++cells.toList.drop (k*sz α+cs.length)).toArray h.2 (by
   simp only[PQ,OT,O9,OW,MP];have:(k+1+ys.length)*sz α=cells.size:=by rw[b];congr 1;simp;omega
   rw[this];omega)
  refine⟨cs++out,?_,(Elems.one f).append ho2⟩;have p:Array.foldl (fun(cs:Array Value) (x:Value×Nat)=>cs.setIfInBounds (k*sz α+x.2) x.1) cells v.cells.zipIdx=(cells.toList.take (k*sz α)++cs++cells.toList.drop (k*sz α+cs.length)).toArray:=by
   rw[<-MB,MS,a];simpa using hf
  simp only[xP,Instr.fill];rw[Si (by simp[a,o];omega)];have h1:(v.cells.zipIdx.foldl (fun cs x=>cs.setIfInBounds (k*sz α+x.2) x.1) cells)=(cells.toList.take (k*sz α)++cs++cells.toList.drop (k*sz α+cs.length)).toArray:=p;have h2:(v.cells.zipIdx.foldl (fun cs (x:Value×Nat)=>match x with|(c,j)=>cs.setIfInBounds (k*sz α+j) c) cells)=(cells.toList.take (k*sz α)++cs++cells.toList.drop (k*sz α+cs.length)).toArray:=h1;rw[h2,ho1]
  congr 2
  rw[<-NF]
  congr 1
  have m:(cells.toList.take (k*sz α)++cs).length=(k+1)*sz α:=by
   rw[OT,O9,MP,o,P5,Qy];omega
  rw[<-m];exact List.take_left
 |[],_::_,_,_,h,_=>h.elim
 |_::_,[],_,_,h,_=>h.elim
theorem Gc{P:Program}{e t:TypeId}{x0:α}{bytes:Nat}(w:World){vs:List Value}{ys:List α}{G:Nat->Prop}[k:IsS P t e][l:IsT P e α][b:IsZ P e x0 bytes](h:RdAll w G vs ys)(j:ys.length*sz α<=16777216):
  ∃out:List Value,(Instr.buildSlice t ys.length (xP 0 vs).toArray).run P w=.ok (.slice (some ⟨w.heap.size,0,none⟩) ys.length ys.length) (w.alloc (.cells out.toArray e))/\Elems w G out ys:=by
 obtain⟨i,z,h1,h2,h3,h4⟩:=b.ok;have m:0<sz α:=Rep.pos;unfold Instr.buildSlice;simp only[Q4,Sy k.ok,Q2,Gv (α:=α)];rw[Si SM];by_cases a:ys.length*sz α=0
 ·have c:ys=[]:=N0 (by
   rcases Nat.mul_eq_zero.1 a with h|h
   ·exact h
   ·omega)
  subst c;have f:vs=[]:=N0 (by simpa using h.len);subst f;refine⟨[],?_,Elems.nil⟩;simp[xP,Instr.fill,newRow,Array.range_zero']
 ·rw[Si a]
  obtain⟨out,ho1,ho2⟩:=qM vs ys 0 ((Array.range (ys.length*sz α)).map (fun x=>z.cells[x % z.cells.size]!)) h SQ;refine⟨out,?_,ho2⟩;simp only[Nat.zero_mul,P0,PA]at ho1
  simp[zeroValue,typeInfo,h1,h2,ho1,newRow]
end
section
variable {P:Program}{Q:Exit->Act->World->Prop}{n:Nat}{σ:Sg}{w:World}{L rest:List Oper}{d:Nat}{ty:TypeId}{pos:String}{af:Array Edge}{g:Option (Nat×Bool)}
variable {α:Type}[Rep α]{e t:TypeId}{x0:α}{bytes:Nat}{F:Nat->Prop}
theorem WL.lit{len:Nat}{parts:List (Nat×Operand)}{vs:List Value}{ys:List α}(o:gd L σ ⟨some d,.buildSlice t len parts.toArray,ty,pos,af,g⟩=some true)(hd:Nat.ble (d+1) n=true)
  (k:xP 0 (HV parts)=parts) (j:pL σ (HV parts)=some vs) [A:IsS P t e] [z:IsT P e α] [y:IsZ P e x0 bytes] (f:len=ys.length) (l:RdAll w F vs ys) (i:ys.length*sz α<=16777216) (hF:∀b,F b->b<w.heap.size)
  (h:∀w',Own w' w.heap.size e F (.slice (some ⟨w.heap.size,0,none⟩) len len) ys->w.grownBy w' none->WL P L Q rest n ((d,.slice (some ⟨w.heap.size,0,none⟩) len len)::σ) w'):
  WL P L Q (⟨some d,.buildSlice t len parts.toArray,ty,pos,af,g⟩::rest) n σ w:=by
 subst f;generalize HV parts=xs at k j
 subst k;obtain⟨out,c,p⟩:=Gc (P:=P) (t:=t) (e:=e) (x0:=x0) w l i;have m:ys.length<=maxLen:=by
  have:ys.length*1<=ys.length*sz α:=Qt _ Rep.pos;unfold maxLen;omega
 refine WL.run o hd (fun a q=>?_) (h _ (Own.made w w.heap.size e F out.toArray ys Ta (fun h=>by have:=hF _ h;omega) m hF (by simpa using p)) (t_ w _ none));have u:((xP 0 xs).toArray.map fun(x:Nat×Operand)=>(x.1,a.eval x.2))=(xP 0 vs).toArray:=by
  have s:=pM q xs vs j;simp only[Pg];rw[xQ,s]
 have r:(execOp a.eval ⟨some d,.buildSlice t ys.length (xP 0 xs).toArray,ty,pos,af,g⟩)=(do let v<-Instr.buildSlice t ys.length ((xP 0 xs).toArray.map fun(x:Nat×Operand)=>(x.1,a.eval x.2));Pure.pure (Next.value v):Sem Next):=rfl;rw[r,u,Q4,c];rfl
theorem fH{len:Nat}{parts:List (Nat×Operand)}{vs:List Value}(ys:List α)(o:gd L σ ⟨some d,.buildSlice t len parts.toArray,ty,pos,af,g⟩=some true)(hd:Nat.ble (d+1) n=true)
  (m:xP 0 (HV parts)=parts) (k:pL σ (HV parts)=some vs) [s:IsS P t e] [r:IsT P e α] [q:IsZ P e x0 bytes] (a:len=ys.length) (l:RdAll w (dl w) vs ys) (c:ys.length*sz α<=16777216)
  (h:∀v w',Ext w w'->Rd w' (dl w') v ys->Own w' w.heap.size e (dl w) v ys->WL P L Q rest n ((d,v)::σ) w'):
  WL P L Q (⟨some d,.buildSlice t len parts.toArray,ty,pos,af,g⟩::rest) n σ w:=
 WL.lit o hd m k a l c S3 fun w' i f=>by
  have j:Ext w w':=(MW _ _).grown f Ta S5;exact h _ w' j (i.old fun b p=>Qn p j.size) i
theorem eH{d1:Nat}{ty1:TypeId}{pos1:String}{af1:Array Edge}{g1:Option (Nat×Bool)}{x y:Operand}{v u:Value}{xs:List α}{yv:α}{B:Nat}
  (r:gd L σ ⟨some d1,.buildSlice t 1 [(0,y)].toArray,ty1,pos1,af1,g1⟩=some true) (z:Nat.ble (d1+1) n=true)
  (s:∀u,gd L ((d1,.slice u 1 1)::σ) ⟨some d,.call ⟨.builtin .append,#[x,.tmp d1],#[t,t]⟩,ty,pos,af,g⟩=some true) (hd:Nat.ble (d+1) n=true)
  (D:ev σ y=some u) (E:∀u,ev ((d1,.slice u 1 1)::σ) x=some v) [N:IsS P t e] [M:IsT P e α] [K:IsZ P e x0 bytes] (l:Own w B e F v xs) (G:Rd w F u yv) (J:B<=w.heap.size) (hF:∀b,F b->b<w.heap.size)
  (o:sz α<=16777216) (I:xs.length+1<=maxLen) (m:(xs.length+1)*bytes<=140737488355328)
  (h:∀j w' p,Own w' B e F j (xs++[yv])->w.grownBy w' v.ownBlock->(∀g,j.ownBlock=some g->v.ownBlock=some g\/w.heap.size<=g)->WL P L Q rest n ((d,j)::(d1,.slice p 1 1)::σ) w'):
  WL P L Q (⟨some d1,.buildSlice t 1 [(0,y)].toArray,ty1,pos1,af1,g1⟩::⟨some d,.call ⟨.builtin .append,#[x,.tmp d1],#[t,t]⟩,ty,pos,af,g⟩::rest) n σ w:=by
 refine WL.lit (vs:=[u]) (ys:=[yv]) r z rfl (by simp[HV,pL,D]) rfl ⟨G,trivial⟩ (by simpa using o) hF (fun A ho1 c=>?_);have a:w.heap.size<=A.heap.size:=c.size;have i:Own A B e F v xs:=l.kept c (fun _ _ h=>by cases h) fun b m=>⟨hF b m,fun h=>by cases h⟩
 refine WL.app (ys:=[yv]) (s _) hd (E _) rK i ho1.src (Qk J a) (fun b m=>Qn (hF b m) a) (by simpa using I) (by simpa using m) (fun j w' H f hnb=>h j w' _ H ?_ (fun g s=>(hnb g s).imp id (fun h=>Qk a h)));exact⟨f.os.trans c.os,f.tape.trans c.tape,f.output.trans c.output,Qk a f.size,fun k C q=>(f.block k (Qn C a) q).trans (c.block k C (fun h=>by cases h))⟩
theorem fB{x:Operand}{v:Value}{xs:List α}{B:Nat}(c:gd L σ ⟨some d,.call ⟨.builtin .len,#[x],#[t]⟩,ty,pos,af,g⟩=some true)(hd:Nat.ble (d+1) n=true)
  (b:ev σ x=some v) [f:IsS P t e] (a:Own w B e F v xs) (h:WL P L Q rest n ((d,Te (xs.length:Int))::σ) w):WL P L Q (⟨some d,.call ⟨.builtin .len,#[x],#[t]⟩,ty,pos,af,g⟩::rest) n σ w:=by
 obtain⟨ao,cap,rfl⟩:=a.val;exact fC c hd b h
theorem fi{x ix:Operand}{v:Value}{f B:Nat}{xs:List α}{i:Int}{kd:IntKind}{ty':TypeId}{pos':String}{af':Array Edge}{q:Option (Nat×Bool)}
  (s:gd L σ ⟨some d,.indexAddr t x ix,ty,pos,af,g⟩=some true) (hd:Nat.ble (d+1) n=true) (hd':Nat.ble (f+1) n=true)
  (r:ev σ x=some v) (hi:ev σ ix=some (.int kd i)) [A:IsS P t e] [z:IsT P e α] (c:Own w B e F v xs) (y:0<=i) (h1:i<xs.length)
  (l:∀p,gd L ((d,.pointer p)::σ) ⟨some f,.load e (.tmp d),ty',pos',af',q⟩=some true)
  (h:∀u p,Rd w F u (xs[i.toNat]'SM)->WL P L Q rest n ((f,u)::(d,.pointer p)::σ) w):
  WL P L Q (⟨some d,.indexAddr t x ix,ty,pos,af,g⟩::⟨some f,.load e (.tmp d),ty',pos',af',q⟩::rest) n σ w:=by
 rcases c with⟨rfl,rfl⟩|⟨b,off,cap,cur,rfl,o⟩
 ·simp at h1;omega
 ·refine fp (α:=α) s hd r hi y h1 ?_
  have k:i.toNat<xs.length:=by omega
  have m:=o.el.2 i.toNat k;refine WL.load (α:=α) (cs:=(((cur.toList.drop off).take (xs.length*sz α)).drop (i.toNat*sz α)).take (sz α)) (l _) hd' rK ?_ m ?_
  ·intro j u a
   rw[Ox]at a
   split at a
   ·rw[Om]at a
    rw[R4 w b _ cur e (0,0) o.blk];have:=mL a;rw[<-this];congr 1;omega
   ·cases a
  ·exact h _ _ ⟨_,rfl,m⟩
theorem fj{x ix:Operand}{v:Value}{b B:Nat}{xs:List α}{i:Nat}{kd:IntKind}{ty':TypeId}{pos':String}{af':Array Edge}{f:Option (Nat×Bool)}
  (l:gd L σ ⟨some d,.indexAddr t x ix,ty,pos,af,g⟩=some true) (hd:Nat.ble (d+1) n=true) (hd':Nat.ble (b+1) n=true)
  (j:ev σ x=some v) (hi:ev σ ix=some (.int kd (i:Int))) [o:IsS P t e] [m:IsT P e α] (a:Own w B e F v xs) (h1:i<xs.length)
  (c:∀p,gd L ((d,.pointer p)::σ) ⟨some b,.load e (.tmp d),ty',pos',af',f⟩=some true)
  (h:∀u p,Rd w F u xs[i]->WL P L Q rest n ((b,u)::(d,.pointer p)::σ) w):
  WL P L Q (⟨some d,.indexAddr t x ix,ty,pos,af,g⟩::⟨some b,.load e (.tmp d),ty',pos',af',f⟩::rest) n σ w:=
 fi l hd hd' j hi a SM SM c (fun u p k=>h u p (by simpa using k))
theorem Gq{v u:Value}{xs:List α}{y:α}{b off cap B:Nat}{cur:Array Value}{i:Nat}(a:OwnAt w B e F b off cap cur xs)(hi:i<xs.length)(A:Rd w F u y)[E:IsT P e α]:
  ∃w',(storeVar e ⟨b,off+i*sz α,none⟩ u).run P w=.ok () w'/\Own w' B e F (.slice (some ⟨b,off,none⟩) xs.length cap) (xs.set i y)/\w.grownBy w' (some b):=by
 obtain⟨cs,z,f⟩:=A;have C:cs.length=sz α:=Rep.len f;have l:u.cells=cs.toArray:=by rw[z];apply MA;simpa using Lc f
 have p:(i+1)*sz α<=cap*sz α:=Qu _ (Qk hi a.le);rw[P5,Qy]at p
 have s:=a.fit;have c:=Sx P b (off+i*sz α) e cs 0 cur w a.blk SM (Rep.one f);simp only[P9]at c
 refine⟨w.setRow b (cur.toList.take (off+i*sz α)++cs++cur.toList.drop (off+i*sz α+cs.length)).toArray,?_,.inr ⟨b,off,cap,_,by rw[O7],⟨Sz w b cur _ e _ a.blk,a.ge,a.nF,by simpa using a.le,a.mx,?_,?_⟩⟩,⟨rfl,rfl,rfl,by simp,fun k _ q=>SA w b k _ (fun e=>q (by simp[e]))⟩⟩
 ·unfold storeVar
  rw[Q4,Gv (α:=α)];simp only[Q2,l];rw[Si (by simp[C])];exact c
 ·simp only[PQ,OT,O9,OW,MP]
  omega
 ·have hh:∀k,F k->(w.setRow b (cur.toList.take (off+i*sz α)++cs++cur.toList.drop (off+i*sz α+cs.length)).toArray).heap[k]?=w.heap[k]?:=
   fun k q=>SA w b k _ (fun e=>a.nF (e▸q))
  have h1:=(a.el.mono (w':=w.setRow b (cur.toList.take (off+i*sz α)++cs++cur.toList.drop (off+i*sz α+cs.length)).toArray) hh fun _ h=>h).set (Rep.mono f hh fun _ h=>h) i hi;have D:(((cur.toList.take (off+i*sz α)++cs++cur.toList.drop (off+i*sz α+cs.length)).toArray.toList.drop off).take ((xs.set i y).length*sz α))=over ((cur.toList.drop off).take (xs.length*sz α)) (i*sz α) cs:=by
   rw[O7];have hn:i*sz α+cs.length<=xs.length*sz α:=by
    have:(i+1)*sz α<=xs.length*sz α:=Qu _ hi;rw[P5,Qy]at this;omega
   have x:off+xs.length*sz α<=cur.toList.length:=by
    have:xs.length*sz α<=cap*sz α:=Qu _ a.le;have G:cur.toList.length=cur.size:=MP;omega
   generalize i*sz α=o at*
   generalize xs.length*sz α=m at*
   unfold over;apply N5;intro j
   simp only[Ox,Om];by_cases r:j<m
   ·rw[Sj r]
    by_cases h2:j<o
    ·rw[Oj ST,Oj ST,Oj ST,Oj ST]
     rw[Oy SM,Oy h2,Oy r,Om]
    ·by_cases h3:j<o+cs.length
     ·rw[Oj ST,Ok ST,Oj ST,Ok ST]
      congr 1
      simp;omega
     ·rw[Ok ST,Ok ST]
      rw[Om,Om,Oy ST,Om]
      congr 1
      simp;omega
   ·rw[Si r,Oo]
    simp;omega
  rw[D];exact h1
theorem WL.set{x ix y:Operand}{v u:Value}{B:Nat}{xs:List α}{yv:α}{i:Int}{kd:IntKind}{ty':TypeId}{pos':String}{af':Array Edge}{m:Option (Nat×Bool)}
  (A:gd L σ ⟨some d,.indexAddr t x ix,ty,pos,af,g⟩=some true) (hd:Nat.ble (d+1) n=true)
  (q:ev σ x=some v) (hi:ev σ ix=some (.int kd i)) [H:IsS P t e] [G:IsT P e α] (c:Own w B e F v xs) (C:0<=i) (h1:i<xs.length)
  (k:∀p,gd L ((d,.pointer p)::σ) ⟨none,.store e (.tmp d) y,ty',pos',af',m⟩=some true) (o:∀p,ev ((d,.pointer p)::σ) y=some u) (r:Rd w F u yv)
  (h:∀w' p,Own w' B e F v (xs.set i.toNat yv)->w.grownBy w' v.ownBlock->WL P L Q rest n ((d,.pointer p)::σ) w'):
  WL P L Q (⟨some d,.indexAddr t x ix,ty,pos,af,g⟩::⟨none,.store e (.tmp d) y,ty',pos',af',m⟩::rest) n σ w:=by
 rcases c with⟨rfl,rfl⟩|⟨b,off,cap,cur,rfl,z⟩
 ·simp at h1;omega
 ·refine fp (α:=α) A hd q hi C h1 ?_
  obtain⟨w',s,f,j⟩:=Gq (P:=P) (v:=u) (i:=i.toNat) z SM r;refine fY (k _) (fun a l=>?_) (h w' _ f j);have E:=l.ev (x:=.tmp d) rK;have D:=l.ev (o _);simp[execOp,E,D,Instr.storeAt,Instr.sureAddr,s]
theorem f6{x ix y:Operand}{v u:Value}{B:Nat}{xs:List α}{yv:α}{i:Nat}{kd:IntKind}{ty':TypeId}{pos':String}{af':Array Edge}{c:Option (Nat×Bool)}
  (l:gd L σ ⟨some d,.indexAddr t x ix,ty,pos,af,g⟩=some true) (hd:Nat.ble (d+1) n=true)
  (j:ev σ x=some v) (hi:ev σ ix=some (.int kd (i:Int))) [o:IsS P t e] [m:IsT P e α] (a:Own w B e F v xs) (h1:i<xs.length)
  (b:∀p,gd L ((d,.pointer p)::σ) ⟨none,.store e (.tmp d) y,ty',pos',af',c⟩=some true) (f:∀p,ev ((d,.pointer p)::σ) y=some u) (k:Rd w F u yv)
  (h:∀w' p,Own w' B e F v (xs.set i yv)->w.grownBy w' v.ownBlock->WL P L Q rest n ((d,.pointer p)::σ) w'):
  WL P L Q (⟨some d,.indexAddr t x ix,ty,pos,af,g⟩::⟨none,.store e (.tmp d) y,ty',pos',af',c⟩::rest) n σ w:=
 WL.set l hd j hi a SM SM b f k (fun w' p=>by simpa using h w' p)
theorem F5{ao:Option Addr}{len cap lo hi:Nat}(w:World)[a:IsS P t e][c:IsT P e α](h1:lo<=hi)(h2:hi<=cap)(x y:Option Value)
  (b:x=none/\lo=0\/∃k,x=some (.int k (lo:Int))) (hh:y=none/\hi=len\/∃k,y=some (.int k (hi:Int))):
  (Instr.sliceAt t (.slice ao len cap) x y none).run P w=.ok (.slice (if cap=lo then ao else ao.map (·.add (lo*sz α))) (hi -lo) (cap -lo)) w:=by
 have a1:(lo:Int)<=(hi:Int):=by omega
 have a2:(hi:Int)<=(cap:Int):=by omega
 have a3:(0:Int)<=(lo:Int):=by omega
 have a4:(0:Int)<=(hi:Int):=by omega
 simp only[Instr.sliceAt,Q4,Sy a.ok,Q2,Instr.slice,Instr.sliceBounds];rcases b with⟨rfl,rfl⟩|⟨k,rfl⟩
 ·rcases hh with⟨rfl,rfl⟩|⟨k',rfl⟩
  ·simp[Gv (α:=α)]
  ·simp[Gv (α:=α),Instr.sliceBound,asIntOf,h2,My]
 ·rcases hh with⟨rfl,rfl⟩|⟨k',rfl⟩
  ·simp[Gv (α:=α),Instr.sliceBound,asIntOf,h1]
  ·simp[Gv (α:=α),Instr.sliceBound,asIntOf,h1,h2]
theorem Own.take{v:Value}{xs:List α}{B:Nat}(h:Own w B e F v xs){ao:Option Addr}{cap k:Nat}(c:v=.slice ao xs.length cap)(f:k<=xs.length):Own w B e F (.slice ao k cap) (xs.take k):=by
 rcases h with⟨h1,rfl⟩|⟨g,off,cp,cur,h1,b⟩
 ·rw[h1]at c
  obtain⟨rfl,_,rfl⟩:=RS c;have:k=0:=by simpa using f
  subst this;exact .inl ⟨rfl,by simp⟩
 ·rw[h1]at c
  obtain⟨rfl,_,rfl⟩:=RS c;have a:(xs.take k).length=k:=by rw[O9];omega
  refine .inr ⟨g,off,cp,cur,by rw[a],⟨b.blk,b.ge,b.nF,by rw[a];exact Qk f b.le,b.mx,b.fit,?_⟩⟩;have:=b.el.take k f;rw[List.take_take,Qp (Qu _ f)]at this
  rw[a];exact this
theorem Own.drop{v:Value}{xs:List α}{B:Nat}(h:Own w B e F v xs){ao:Option Addr}{cap k:Nat}(c:v=.slice ao xs.length cap)(i:k<=xs.length):
  Own w B e F (.slice (if cap=k then ao else ao.map (·.add (k*sz α))) (xs.length -k) (cap -k)) (xs.drop k):=by
 rcases h with⟨h1,rfl⟩|⟨g,off,cp,cur,h1,b⟩
 ·rw[h1]at c
  obtain⟨rfl,_,rfl⟩:=RS c;have:k=0:=by simpa using i
  subst this;exact .inl ⟨by simp,by simp⟩
 ·rw[h1]at c
  obtain⟨rfl,_,rfl⟩:=RS c;have a:(xs.drop k).length=xs.length -k:=OW;have o:=b.le;have j:=b.fit;have f:k*sz α+(cp -k)*sz α=cp*sz α:=by rw[<-P5];congr 1;omega
  refine .inr ⟨g,if cp=k then off else off+k*sz α,cp -k,cur,?_,⟨b.blk,b.ge,b.nF,by rw[a];omega,?_,?_,?_⟩⟩
  ·rw[a]
   split
   ·rfl
   ·simp[RT]
  ·have:=b.mx;omega
  ·split
   ·rename_i p;have:cp -k=0:=by omega
    rw[this];omega
   ·omega
  ·have:=b.el.drop k i
   rw[a];split
   ·rename_i p
    have l:xs.length -k=0:=by omega
    have m:xs.drop k=[]:=N0 (by rw[a];exact l);rw[l,m];simpa using Elems.nil
   ·rw[List.drop_take,NU]at this
    rw[Nat.sub_mul];exact this
theorem Sl.take{ao:Option Addr}{cap k:Nat}{xs:List α}(h:Sl w F ao cap xs)(a:k<=xs.length):Sl w F ao cap (xs.take k):=by
 refine⟨by rw[O9];have:=h.le;omega,h.mx,h.nil,fun i hi=>?_⟩;have:i<xs.length:=by rw[O9]at hi;omega
 rw[OL];exact h.el i this
theorem eV{x y:Operand}{ao:Option Addr}{len cap:Nat}{i:Int}{kd:IntKind}(k:Nat)(b:i=(k:Int))(m:gd L σ ⟨some d,.slice t x none (some y) none,ty,pos,af,g⟩=some true)(hd:Nat.ble (d+1) n=true)
  (j:ev σ x=some (.slice ao len cap)) (f:ev σ y=some (.int kd i)) [p:IsS P t e] [o:IsT P e α] (l:k<=cap)
  (h:WL P L Q rest n ((d,.slice ao k cap)::σ) w):WL P L Q (⟨some d,.slice t x none (some y) none,ty,pos,af,g⟩::rest) n σ w:=by
 subst b;refine WL.run m hd (fun a c=>?_) h;have:=F5 (P:=P) (t:=t) (e:=e) (α:=α) (ao:=ao) (len:=len) (cap:=cap) (lo:=0) (hi:=k) w SM l none (some (.int kd (k:Int))) (.inl ⟨rfl,rfl⟩) (.inr ⟨kd,rfl⟩);simp[execOp,c.ev j,c.ev f,this,My]
theorem eY{x y:Operand}{ao:Option Addr}{len cap:Nat}{i:Int}{kd:IntKind}(k:Nat)(b:i=(k:Int))(m:gd L σ ⟨some d,.slice t x (some y) none none,ty,pos,af,g⟩=some true)(hd:Nat.ble (d+1) n=true)
  (j:ev σ x=some (.slice ao len cap)) (f:ev σ y=some (.int kd i)) [q:IsS P t e] [p:IsT P e α] (l:k<=len) (o:len<=cap)
  (h:WL P L Q rest n ((d,.slice (if cap=k then ao else ao.map (·.add (k*sz α))) (len -k) (cap -k))::σ) w):WL P L Q (⟨some d,.slice t x (some y) none none,ty,pos,af,g⟩::rest) n σ w:=by
 subst b;refine WL.run m hd (fun a c=>?_) h;have:=F5 (P:=P) (t:=t) (e:=e) (α:=α) (ao:=ao) (len:=len) (cap:=cap) (lo:=k) (hi:=len) w l o (some (.int kd (k:Int))) none (.inr ⟨kd,rfl⟩) (.inl ⟨rfl,rfl⟩);simp[execOp,c.ev j,c.ev f,this]
theorem Own.le{v:Value}{xs:List α}{B:Nat}(h:Own w B e F v xs){ao:Option Addr}{len cap:Nat}(a:v=.slice ao len cap):xs.length<=cap:=by
 rcases h with⟨h1,rfl⟩|⟨g,off,cp,cur,h1,b⟩
 ·simp
 ·rw[h1]at a
  obtain⟨_,_,rfl⟩:=RS a;exact b.le
theorem eX{x y:Operand}{v:Value}{xs:List α}{B:Nat}{i:Int}{kd:IntKind}(k:Nat)(c:i=(k:Int))(o:gd L σ ⟨some d,.slice t x none (some y) none,ty,pos,af,g⟩=some true)(hd:Nat.ble (d+1) n=true)
  (j:ev σ x=some v) (f:ev σ y=some (.int kd i)) [q:IsS P t e] [p:IsT P e α] (a:Own w B e F v xs) (m:k<=xs.length)
  (h:∀b,Own w B e F b (xs.take k)->b.ownBlock=v.ownBlock->WL P L Q rest n ((d,b)::σ) w):WL P L Q (⟨some d,.slice t x none (some y) none,ty,pos,af,g⟩::rest) n σ w:=by
 obtain⟨ao,cap,rfl⟩:=a.val;have l:=a.le rfl;refine eV (α:=α) k c o hd j f SM (h _ (a.take rfl m) ?_);cases ao<;>rfl
theorem eZ{x y:Operand}{v:Value}{xs:List α}{B:Nat}{i:Int}{kd:IntKind}(k:Nat)(j:i=(k:Int))(p:gd L σ ⟨some d,.slice t x (some y) none none,ty,pos,af,g⟩=some true)(hd:Nat.ble (d+1) n=true)
  (o:ev σ x=some v) (m:ev σ y=some (.int kd i)) [r:IsS P t e] [q:IsT P e α] (b:Own w B e F v xs) (l:k<=xs.length)
  (h:∀c,Own w B e F c (xs.drop k)->c.ownBlock=v.ownBlock->WL P L Q rest n ((d,c)::σ) w):WL P L Q (⟨some d,.slice t x (some y) none none,ty,pos,af,g⟩::rest) n σ w:=by
 obtain⟨ao,cap,rfl⟩:=b.val;have f:=b.le rfl;refine eY (α:=α) k j p hd o m l f (h _ (b.drop rfl l) ?_);cases ao with
 |none=>split<;>rfl
 |some a=>
  split
  ·rfl
  ·simp only[Option.map_some,Value.ownBlock,Addr.add]
   split<;>rfl
end
@[irreducible] def QL (P:Program) (ops:List Oper) (w:World) (Q:Exit->Act->World->Prop) (l:List Oper) (n:Nat) (σ:Sg):Prop:=
  ∀a,Fr n σ a->wpQuiet P ops.toArray (fun w'=>Ext w w') (fun b=>∀w',Ext w w'->Q .normal b w') l a
section
variable {P:Program}{Q:Exit->Act->World->Prop}{n:Nat}{σ:Sg}{w:World}{L rest:List Oper}{d:Nat}{op:Op}{ty:TypeId}{pos:String}{af:Array Edge}{g:Option (Nat×Bool)}
theorem aC{id:Nat}{l:List Oper}(b:P.follows .mixedOrders=true)(e:Region.lexB .any l.toArray=true)(h:QL P l w Q l n σ):CW P (.region id l.toArray true) Q n σ w:=by
 unfold CW;unfold QL at h;intro a c
 exact wp_region_quiet (C:=fun w'=>Ext w w') b e ⟨rfl,rfl,rfl,Qj _,fun _ _=>rfl⟩ (by simpa using h a c)
theorem QL.nil{l:List Oper}(h:∀w',Ext w w'->EX Q .normal n σ w'):QL P l w Q [] n σ:=by
 unfold QL;unfold EX at h;intro a c
 exact wpQuiet_nil (fun w' b=>h w' b a c)
theorem QL.run{v:Value}(f:gd L σ ⟨some d,op,ty,pos,af,g⟩=some true)(hd:Nat.ble (d+1) n=true)
  (e:∀a,Fr n σ a->∀w',Ext w w'->(execOp a.eval ⟨some d,op,ty,pos,af,g⟩).run P w'=.ok (.value v) w') (h:QL P L w Q rest n ((d,v)::σ)):QL P L w Q (⟨some d,op,ty,pos,af,g⟩::rest) n σ:=by
 unfold QL at*
 intro a c
 refine SH fun K i=>?_
 rw[sJ c f,Sj rfl];refine⟨v,fun w' b=>?_,i _ (h _ (c.put (d:=some d) hd))⟩;unfold Oper.quietAt;rw[e a c w' b];exact⟨rfl,rfl⟩
theorem dN{v:Value}(c:gd L σ ⟨some d,op,ty,pos,af,g⟩=some true)(hd:Nat.ble (d+1) n=true)
  (b:Ez σ op=some v) (h:QL P L w Q rest n ((d,v)::σ)):QL P L w Q (⟨some d,op,ty,pos,af,g⟩::rest) n σ:=
 QL.run c hd (fun a e _ _=>EB e b) h
theorem QL.pass(c:gd L σ ⟨some d,op,ty,pos,af,g⟩=some false)(hd:Nat.ble (d+1) n=true)(h:QL P L w Q rest n ((d,undef)::σ)):QL P L w Q (⟨some d,op,ty,pos,af,g⟩::rest) n σ:=by
 unfold QL at*
 intro a b
 refine SH fun K e=>?_
 rw[sJ b c,Si SQ];exact e _ (h _ (b.put (d:=some d) hd))
theorem dI{s:Nat}{b:Bool}(c:fnd σ s=some (.bool b))(f:b=true->QL P L w Q rest n ((s,.bool true)::σ))(hf:b=false->QL P L w Q rest n ((s,.bool false)::σ)):QL P L w Q rest n σ:=by
 unfold QL at*
 intro a e
 cases b with
 |true=>exact f rfl a (e.set c)
 |false=>exact hf rfl a (e.set c)
theorem dJ{dd:Option Nat}{j s:Nat}{want b:Bool}(e:ug L j=some s)(c:fnd σ s=some (.bool b))(a:b=true->QL P L w Q (⟨dd,op,ty,pos,af,some (j,want)⟩::rest) n ((s,.bool true)::σ))
  (hf:b=false->QL P L w Q (⟨dd,op,ty,pos,af,some (j,want)⟩::rest) n ((s,.bool false)::σ)):QL P L w Q (⟨dd,op,ty,pos,af,some (j,want)⟩::rest) n σ:=dI c a hf
theorem QL.add{t yt:TypeId}{x y:Operand}{a b:Int}(f:gd L σ ⟨some d,.binOp .add t x y yt,ty,pos,af,g⟩=some true)(hd:Nat.ble (d+1) n=true)
  (e:ev σ x=some (Te a)) (c:ev σ y=some (Te b)) (i: -9223372036854775808<=a+b) (h1:a+b<9223372036854775808) (h:QL P L w Q rest n ((d,Te (a+b))::σ)):QL P L w Q (⟨some d,.binOp .add t x y yt,ty,pos,af,g⟩::rest) n σ:=by
 refine dN f hd (v:=Te (a+b)) ?_ h;simp only[Ez,e,c,DQ];rw[Ms i h1]
theorem dQ{t yt:TypeId}{x y:Operand}{a b:Int}(f:gd L σ ⟨some d,.binOp .sub t x y yt,ty,pos,af,g⟩=some true)(hd:Nat.ble (d+1) n=true)
  (e:ev σ x=some (Te a)) (c:ev σ y=some (Te b)) (i: -9223372036854775808<=a -b) (h1:a -b<9223372036854775808) (h:QL P L w Q rest n ((d,Te (a -b))::σ)):QL P L w Q (⟨some d,.binOp .sub t x y yt,ty,pos,af,g⟩::rest) n σ:=by
 refine dN f hd (v:=Te (a -b)) ?_ h;simp only[Ez,e,c,DQ];rw[Ms i h1]
theorem dH{t e:TypeId}{x:Operand}{ao:Option Addr}{k cap:Nat}(f:gd L σ ⟨some d,.call ⟨.builtin .len,#[x],#[t]⟩,ty,pos,af,g⟩=some true)(hd:Nat.ble (d+1) n=true)
  (b:ev σ x=some (.slice ao k cap)) [c:IsS P t e] (h:QL P L w Q rest n ((d,Te (k:Int))::σ)):QL P L w Q (⟨some d,.call ⟨.builtin .len,#[x],#[t]⟩,ty,pos,af,g⟩::rest) n σ:=by
 refine QL.run f hd (fun a i _ _=>?_) h;simp[execOp,resolve,invoke,builtin,i.ev b,Builtin.len_,Sy c.ok,goInt]
theorem dE{α:Type}[Rep α]{t e:TypeId}{x ix:Operand}{b off:Nat}{k cap:Nat}{i:Int}{kd:IntKind}(l:gd L σ ⟨some d,.indexAddr t x ix,ty,pos,af,g⟩=some true)(hd:Nat.ble (d+1) n=true)
  (f:ev σ x=some (.slice (some ⟨b,off,none⟩) k cap)) (hi:ev σ ix=some (.int kd i)) [j:IsS P t e] [o:IsT P e α] (m:0<=i) (h1:i<k)
  (h:QL P L w Q rest n ((d,.pointer (some ⟨b,off+i.toNat*sz α,none⟩))::σ)):QL P L w Q (⟨some d,.indexAddr t x ix,ty,pos,af,g⟩::rest) n σ:=by
 refine QL.run l hd (fun a c _ _=>?_) h;simp[execOp,c.ev f,c.ev hi,Instr.indexAt,asIntOf,Sy j.ok,m,h1,Gv (α:=α),RT]
theorem QL.load{α:Type}[Rep α]{t:TypeId}{x:Operand}{b off:Nat}{F:Nat->Prop}{cs:List Value}{y:α}(m:gd L σ ⟨some d,.load t x,ty,pos,af,g⟩=some true)(hd:Nat.ble (d+1) n=true)
  (i:ev σ x=some (.pointer (some ⟨b,off,none⟩))) [r:IsT P t α] (p:b<w.heap.size) (hF:∀b,F b->b<w.heap.size) (o:Cells w b off cs) (j:rd w F cs y)
  (h:QL P L w Q rest n ((d,Lb α cs)::σ)):QL P L w Q (⟨some d,.load t x,ty,pos,af,g⟩::rest) n σ:=by
 refine QL.run m hd (fun a q w' c=>?_) h;have f:Cells w' b off cs:=o.mono (c.block b p);have e:rd w' F cs y:=Rep.mono j (fun k l=>c.block k (hF k l)) fun _ h=>h
 simp[execOp,q.ev i,Instr.loadAt,Instr.sureAddr,Ge f e]
theorem dz{α:Type}[Rep α]{t e:TypeId}{x ix:Operand}{ao:Option Addr}{cap a:Nat}{xs:List α}{F:Nat->Prop}{i:Int}{kd:IntKind}{ty':TypeId}{pos':String}{af':Array Edge}{l:Option (Nat×Bool)}
  (o:gd L σ ⟨some d,.indexAddr t x ix,ty,pos,af,g⟩=some true) (hd:Nat.ble (d+1) n=true) (hd':Nat.ble (a+1) n=true)
  (m:ev σ x=some (.slice ao xs.length cap)) (hi:ev σ ix=some (.int kd i)) [z:IsS P t e] [v:IsT P e α] (hF:∀b,F b->b<w.heap.size) (c:Sl w F ao cap xs) (r:0<=i) (h1:i<xs.length)
  (f:∀p,gd L ((d,.pointer p)::σ) ⟨some a,.load e (.tmp d),ty',pos',af',l⟩=some true)
  (h:∀u p,Rd w F u (xs[i.toNat]'SM)->QL P L w Q rest n ((a,u)::(d,.pointer p)::σ)):
  QL P L w Q (⟨some d,.indexAddr t x ix,ty,pos,af,g⟩::⟨some a,.load e (.tmp d),ty',pos',af',l⟩::rest) n σ:=by
 obtain⟨b,off,rfl,j,s,q,k⟩:=c.el i.toNat SM;refine dE (α:=α) o hd m hi r h1 ?_;refine QL.load (α:=α) (f _) hd' rK (hF b j) hF q k ?_;exact h _ _ ⟨s,rfl,k⟩
theorem dB{α:Type}[Rep α]{t e:TypeId}{x ix:Operand}{ao:Option Addr}{cap a:Nat}{xs:List α}{F:Nat->Prop}{i:Nat}{kd:IntKind}{ty':TypeId}{pos':String}{af':Array Edge}{j:Option (Nat×Bool)}
  (m:gd L σ ⟨some d,.indexAddr t x ix,ty,pos,af,g⟩=some true) (hd:Nat.ble (d+1) n=true) (hd':Nat.ble (a+1) n=true)
  (k:ev σ x=some (.slice ao xs.length cap)) (hi:ev σ ix=some (.int kd (i:Int))) [q:IsS P t e] [o:IsT P e α] (hF:∀b,F b->b<w.heap.size) (c:Sl w F ao cap xs) (h1:i<xs.length)
  (f:∀p,gd L ((d,.pointer p)::σ) ⟨some a,.load e (.tmp d),ty',pos',af',j⟩=some true)
  (h:∀u p,Rd w F u xs[i]->QL P L w Q rest n ((a,u)::(d,.pointer p)::σ)):
  QL P L w Q (⟨some d,.indexAddr t x ix,ty,pos,af,g⟩::⟨some a,.load e (.tmp d),ty',pos',af',j⟩::rest) n σ:=
 dz m hd hd' k hi hF c SM SM f (fun u p l=>h u p (by simpa using l))
theorem dA{t e:TypeId}{x ix:Operand}{ao:Option Addr}{cap a:Nat}{xs:List Int}{F:Nat->Prop}{i:Nat}{y:Int}{kd:IntKind}{ty':TypeId}{pos':String}{af':Array Edge}{j:Option (Nat×Bool)}
  (o:gd L σ ⟨some d,.indexAddr t x ix,ty,pos,af,g⟩=some true) (hd:Nat.ble (d+1) n=true) (hd':Nat.ble (a+1) n=true)
  (l:ev σ x=some (.slice ao xs.length cap)) (hi:ev σ ix=some (.int kd (i:Int))) [r:IsS P t e] [q:IsT P e Int] (hF:∀b,F b->b<w.heap.size) (c:Sl w F ao cap xs) (h1:i<xs.length) (k:xs[i]=y)
  (f:∀p,gd L ((d,.pointer p)::σ) ⟨some a,.load e (.tmp d),ty',pos',af',j⟩=some true)
  (h:∀p,QL P L w Q rest n ((a,Te y)::(d,.pointer p)::σ)):
  QL P L w Q (⟨some d,.indexAddr t x ix,ty,pos,af,g⟩::⟨some a,.load e (.tmp d),ty',pos',af',j⟩::rest) n σ:=
 dB o hd hd' l hi hF c h1 f (fun u p m=>by rw[m.int,k];exact h p)
theorem dy{f:FuncId}{x:Operand}{xs:List Operand}{j:Array TypeId}{vs fv cv:List Value}{v:Value}
  (p:gd L σ ⟨some d,.call ⟨.value x,xs.toArray,j⟩,ty,pos,af,g⟩=some true) (hd:Nat.ble (d+1) n=true) (l:ev σ x=some (.func (.func f) fv.toArray cv.toArray)) (m:pL σ xs=some vs) [hf:IsF P f]
  (q:∀i,Ext w i->Rt P f (fv++vs++cv).toArray i fun u k=>u=v/\Ext i k) (h:QL P L w Q rest n ((d,v)::σ)):QL P L w Q (⟨some d,.call ⟨.value x,xs.toArray,j⟩,ty,pos,af,g⟩::rest) n σ:=by
 unfold QL at*
 intro a c
 refine SH fun K r=>?_
 rw[sJ c p,Sj rfl];have A:=pM c xs vs m;have z:=c.ev l;refine⟨v,fun w' b=>?_,r _ (h _ (c.put (d:=some d) hd))⟩;have o:(execOp a.eval ⟨some d,.call ⟨.value x,xs.toArray,j⟩,ty,pos,af,g⟩).run P w'=.ok (.enter f (fv++vs++cv).toArray) w':=by
  have:=jN (P:=P) (f:=f) (w:=w') (fv++vs++cv).toArray;simp[execOp,resolve,z,Deferred.ofValue,invoke,A];simpa using this
 unfold Oper.quietAt;rw[o];refine⟨rfl,Ng (q w' b) ?_⟩;rintro e w'' ⟨u,rfl,rfl,s⟩
 exact⟨rfl,Ext.trans b s⟩
theorem QL.call{f:FuncId}{xs:List Operand}{b:Array TypeId}{vs:List Value}{v:Value}
  (i:gd L σ ⟨some d,.call ⟨.value (.func f),xs.toArray,b⟩,ty,pos,af,g⟩=some true) (hd:Nat.ble (d+1) n=true) (e:pL σ xs=some vs) [hf:IsF P f]
  (j:∀a,Ext w a->Rt P f vs.toArray a fun u c=>u=v/\Ext a c) (h:QL P L w Q rest n ((d,v)::σ)):QL P L w Q (⟨some d,.call ⟨.value (.func f),xs.toArray,b⟩,ty,pos,af,g⟩::rest) n σ:=
 dy i hd (fv:=[]) (cv:=[]) rfl e (by simpa using j) h
end
class IsB(P:Program)(t:TypeId):Prop where
 ok:P.underlying t=some .bool
section
variable {P:Program}{Q:Exit->Act->World->Prop}{n:Nat}{σ:Sg}{w:World}{L rest:List Oper}{d:Nat}{op:Op}{ty:TypeId}{pos:String}{af:Array Edge}{g:Option (Nat×Bool)}{t yt:TypeId}{x y:Operand}
theorem F6[c:IsB P t](a b:Bool)(w:World):((do eqGuard .eql t x y (.bool a) (.bool b);binOp .eql t (.bool a) (.bool b):Sem Value)).run P w=.ok (.bool (a==b)) w:=by
 simp[eqGuard_at_bool,run_eql_bool w t a b c.ok]
theorem Gi[c:IsB P t](a b:Bool)(w:World):((do eqGuard .neq t x y (.bool a) (.bool b);binOp .neq t (.bool a) (.bool b):Sem Value)).run P w=.ok (.bool (a != b)) w:=by
 have:=run_equal_bool w t a b c.ok;simp[eqGuard_at_bool,binOp,this];cases a<;>cases b<;>rfl
theorem fk{a b:Bool}(j:gd L σ ⟨some d,.binOp .eql t x y yt,ty,pos,af,g⟩=some true)(hd:Nat.ble (d+1) n=true)(i:ev σ x=some (.bool a))(f:ev σ y=some (.bool b))[k:IsB P t]
  (h:WL P L Q rest n ((d,.bool (a==b))::σ) w):WL P L Q (⟨some d,.binOp .eql t x y yt,ty,pos,af,g⟩::rest) n σ w:=by
 refine WL.run j hd (fun c e=>?_) h;have:=F6 (P:=P) (t:=t) (x:=x) (y:=y) a b w;simp only[execOp,e.ev i,e.ev f];rw[Q4,this];rfl
theorem fT{a b:Bool}(j:gd L σ ⟨some d,.binOp .neq t x y yt,ty,pos,af,g⟩=some true)(hd:Nat.ble (d+1) n=true)(i:ev σ x=some (.bool a))(f:ev σ y=some (.bool b))[k:IsB P t]
  (h:WL P L Q rest n ((d,.bool (a != b))::σ) w):WL P L Q (⟨some d,.binOp .neq t x y yt,ty,pos,af,g⟩::rest) n σ w:=by
 refine WL.run j hd (fun c e=>?_) h;have:=Gi (P:=P) (t:=t) (x:=x) (y:=y) a b w;simp only[execOp,e.ev i,e.ev f];rw[Q4,this];rfl
theorem fw{e:TypeId}{ao:Option Addr}{k cap:Nat}(i:gd L σ ⟨some d,.binOp .eql t x (.const (.slice none 0 0)) yt,ty,pos,af,g⟩=some true)(hd:Nat.ble (d+1) n=true)(b:ev σ x=some (.slice ao k cap))[f:IsS P t e]
  (h:WL P L Q rest n ((d,.bool ao.isNone)::σ) w):WL P L Q (⟨some d,.binOp .eql t x (.const (.slice none 0 0)) yt,ty,pos,af,g⟩::rest) n σ w:=by
 refine WL.run i hd (fun c a=>?_) h;have:=run_equal_slice_nil w t e ao k cap f.ok;simp[execOp,a.ev b,a.ev (x:=.const (.slice none 0 0)) rfl,eqGuard_at_slice,binOp,this]
end
def Blk(w:World)(b:Nat)(e:TypeId)(cells:List Value):Prop:=w.heap[b]?=some (.cells cells.toArray e (0,0))
section
variable {w w':World}{b:Nat}{e:TypeId}{cells:List Value}
theorem Blk.lt(h:Blk w b e cells):b<w.heap.size:=(MH.1 h).1
theorem Blk.ext(h:Blk w b e cells)(a:Ext w w'):Blk w' b e cells:=(a.block b h.lt).trans h
theorem Blk.kept{row:Option Nat}(h:Blk w b e cells)(c:w.grownBy w' row)(a:some b≠row):Blk w' b e cells:=(c.block b h.lt a).trans h
theorem Blk.cell(h:Blk w b e cells){o:Nat}{v:Value}(a:cells[o]?=some v):w.cell? ⟨b,o,none⟩=some v:=by
 rw[R4 w b o cells.toArray e (0,0) h];simpa using a
theorem Blk.alloc(w:World)(cells:List Value)(e:TypeId):Blk (w.alloc (.cells cells.toArray e)) w.heap.size e cells:=Sf w _
end
class IsFd(P:Program)(t f:Nat)(o:outParam Nat):Prop where
 ok:∃fs fld i,P.underlying t=some (.struct fs)/\fs[f]?=some fld/\fld.offset=o/\P.info? fld.type=some i/\i.size≠0
def qD(P:Program)(t f:Nat):Option (Nat×Bool):=match P.underlying t with
 |some (.struct fs)=>(fs[f]?).bind fun fld=>(P.info? fld.type).map fun i=>(fld.offset,Nat.beq i.size 0)
 |_=>none
theorem IsFd.of{t f o:Nat}(h:qD P t f=some (o,false)):IsFd P t f o:=by
 unfold qD at h
 split at h
 ·rename_i fs a
  obtain⟨fld,h1,h2⟩:=QR.1 h;obtain⟨i,h3,h4⟩:=QT.1 h2;simp only[QY]at h4
  refine⟨fs,fld,i,a,h1,h4.1,h3,fun e=>?_⟩;rw[e]at h4;exact absurd h4.2 SP
 ·cases h
class IsC(P:Program)(t:TypeId)(k:outParam Nat)(ag:outParam Bool):Prop where
 ok:∃i d,P.info? t=some i/\i.size=k/\P.underlying t=some d/\gA d=ag
theorem IsC.of{k:Nat}{ag:Bool}{d:TypeDesc}(h:(P.info? t).map (fun i=>Nat.beq i.size k)=some true)(a:P.underlying t=some d)(hd:gA d=ag):IsC P t k ag:=by
 obtain⟨i,hi,c⟩:=QT.1 h;exact⟨i,d,hi,Qc c,a,hd⟩
class IsZC(P:Program)(t:TypeId)(zs:outParam (List Value)):Prop where
 ok:∃i z,P.info? t=some i/\i.zero=some z/\z.cells=zs.toArray
theorem IsZC.of{z:Value}(h:(P.info? t).map (fun i=>i.zero)=some (some z))(a:z.cells=r.toArray):IsZC P t r:=by
 obtain⟨i,hi,c⟩:=QT.1 h;exact⟨i,z,hi,c,a⟩
class IsBd(P:Program)(t:TypeId)(places:outParam (List (Nat×Nat))):Prop where
 ok:∃fs,P.underlying t=some (.struct fs)/\fs.toList.mapM (fun f=>(P.info? f.type).map fun i=>(f.offset,i.size))=some places
def iY(P:Program)(t:TypeId):Option (List (Nat×Nat)):=match P.underlying t with
 |some (.struct fs)=>fs.toList.mapM (fun f=>(P.info? f.type).map fun i=>(f.offset,i.size))
 |_=>none
theorem IsBd.of{places:List (Nat×Nat)}(h:iY P t=some places):IsBd P t places:=by
 unfold iY at h
 split at h
 ·rename_i fs a;exact⟨fs,a,h⟩
 ·cases h
def GM:List Value->Nat->Nat->Option (List Value)
 |_,0,0=>some []
 |v::r,0,n+1=>(GM r 0 n).map (v::·)
 |_::r,o+1,n=>GM r o n
 |[],_,_=>none
def GN:∀(l:List Value) (o n:Nat) (vs:List Value),GM l o n=some vs->vs.length=n/\∀j u,vs[j]?=some u->l[o+j]?=some u
 |[],0,0,vs,h=>by simp[GM]at h;subst h;exact⟨rfl,fun j u a=>by simp at a⟩
 |v::r,0,0,vs,h=>by simp[GM]at h;subst h;exact⟨rfl,fun j u a=>by simp at a⟩
 |[],0,n+1,vs,h=>by simp[GM]at h
 |[],o+1,n,vs,h=>by simp[GM]at h
 |v::r,0,n+1,vs,h=>by
  simp only[GM]at h
  obtain⟨us,h1,h2⟩:=QT.1 h;subst h2;obtain⟨h3,h4⟩:=GN r 0 n us h1;refine⟨by simp[h3],fun j u a=>?_⟩;cases j with
  |zero=>simpa using a
  |succ j=>
   have:=h4 j u (by simpa using a);simpa using this
 |v::r,o+1,n,vs,h=>by
  have c:GM r o n=some vs:=by cases n<;>simpa[GM]using h
  obtain⟨h3,h4⟩:=GN r o n vs c;refine⟨h3,fun j u a=>?_⟩;have:=h4 j u a;rw[show o+1+j=(o+j)+1 by omega,Ol];exact this
def jZ:Value->List Value
 |.agg cs=>cs.toList
 |v=>[v]
def j0(v:Value):v.cells=(jZ v).toArray:=by cases v<;>rfl
def Dp:List Value->Nat->List Value->Option (List Value)
 |l,0,[]=>some l
 |_::r,0,v::vs=>(Dp r 0 vs).map (v::·)
 |u::r,o+1,vs=>(Dp r o vs).map (u::·)
 |[],_,_=>none
def Dq:∀(l:List Value) (o:Nat) (vs out:List Value),Dp l o vs=some out->o+vs.length<=l.length/\out=l.take o++vs++l.drop (o+vs.length)
 |[],0,[],out,h=>by simp[Dp]at h;subst h;simp
 |v::r,0,[],out,h=>by simp[Dp]at h;subst h;simp
 |[],0,v::vs,out,h=>by simp[Dp]at h
 |[],o+1,vs,out,h=>by simp[Dp]at h
 |u::r,0,v::vs,out,h=>by
  simp only[Dp]at h
  obtain⟨us,h1,h2⟩:=QT.1 h;subst h2;obtain⟨h3,h4⟩:=Dq r 0 vs us h1;refine⟨by simp at h3⊢;omega,?_⟩;rw[h4];simp
 |u::r,o+1,vs,out,h=>by
  have a:(Dp r o vs).map (u::·)=some out:=by cases vs<;>simpa[Dp]using h
  obtain⟨us,h1,h2⟩:=QT.1 a;subst h2;obtain⟨h3,h4⟩:=Dq r o vs us h1;refine⟨by simp at h3⊢;omega,?_⟩;rw[h4];rw[show o+1+vs.length=(o+vs.length)+1 by omega];simp
def Co:List (Nat×Nat)->Nat->Option (Nat×Nat)
 |[],_=>none
 |x::_,0=>some x
 |_::r,i+1=>Co r i
def Cp:∀(l:List (Nat×Nat)) (i:Nat),Co l i=l[i]?
 |[],i=>by simp[Co]
 |x::r,0=>by simp[Co]
 |x::r,i+1=>by simp[Co,Cp r i]
def Aq:List Value->Nat
 |[]=>0
 |_::r=>Aq r+1
def Ar:∀l:List Value,Aq l=l.length
 |[]=>rfl
 |_::r=>by simp[Aq,Ar r]
def qF(places:List (Nat×Nat)):List Value->List (Nat×Value)->Option (List Value)
 |cells,[]=>some cells
 |cells,(i,v)::rest=>match Co places i with
  |none=>none
  |some (off,k)=>match Nat.beq (Aq (jZ v)) k,Dp cells off (jZ v)with
   |true,some out=>qF places out rest
   |_,_=>none
def qG(places:List (Nat×Nat)):∀(parts:List (Nat×Value)) (cells out:List Value),qF places cells parts=some out->Instr.fill (places.toArray[·]?) cells.toArray parts=some out.toArray
 |[],cells,out,h=>by simp[qF]at h;subst h;simp[Instr.fill]
 |(i,v)::rest,cells,out,h=>by
  simp only[qF]at h
  split at h
  ·cases h
  ·rename_i off k m
   split at h
   ·rename_i out1 s q
    obtain⟨h1,h2⟩:=Dq _ _ _ _ q;have r:(jZ v).length=k:=by rw[<-Ar];exact Qc s
    have p:=qG places rest out1 out h;rw[Cp]at m
    have a:=rN (jZ v) off cells.toArray (by simpa using h1);have l:(v.cells.zipIdx.foldl (fun(cs:Array Value) (x:Value×Nat)=>cs.setIfInBounds (off+x.2) x.1) cells.toArray)=out1.toArray:=by
     rw[j0,<-MB,MS,h2];simpa using a
    have f:(v.cells.zipIdx.foldl (fun cs (x:Value×Nat)=>match x with|(c,j)=>cs.setIfInBounds (off+j) c) cells.toArray)=out1.toArray:=l;simp only[Instr.fill];rw[show(places.toArray[i]?)=some (off,k) by simpa using m];simp only;rw[Si (by rw[j0];simp[r];omega),f];exact p
   ·cases h
section
variable {P:Program}{Q:Exit->Act->World->Prop}{n:Nat}{σ:Sg}{w:World}{L rest:List Oper}{d:Nat}{ty:TypeId}{pos:String}{af:Array Edge}{g:Option (Nat×Bool)}{t e:TypeId}{x y:Operand}{b o:Nat}{cells:List Value}
theorem F7{f k:Nat}[hf:IsFd P t f k](w:World):(Instr.fieldAt t (.pointer (some ⟨b,o,none⟩)) f).run P w=.ok (.pointer (some ⟨b,o+k,none⟩)) w:=by
 obtain⟨fs,fld,i,h1,h2,h3,h4,a⟩:=hf.ok;simp[Instr.fieldAt,Sy h1,h2,Instr.sureAddr,fieldPlace,sizeOf,typeInfo,h4,a,h3,RT]
theorem fm{f k:Nat}(i:gd L σ ⟨some d,.fieldAddr t x f,ty,pos,af,g⟩=some true)(hd:Nat.ble (d+1) n=true)(c:ev σ x=some (.pointer (some ⟨b,o,none⟩)))[hf:IsFd P t f k]
  (h:WL P L Q rest n ((d,.pointer (some ⟨b,o+k,none⟩))::σ) w):WL P L Q (⟨some d,.fieldAddr t x f,ty,pos,af,g⟩::rest) n σ w:=by
 refine WL.run i hd (fun a j=>?_) h;simp[execOp,j.ev c,F7 (P:=P) (t:=t) (f:=f) (k:=k)]
theorem dD{f k:Nat}(i:gd L σ ⟨some d,.fieldAddr t x f,ty,pos,af,g⟩=some true)(hd:Nat.ble (d+1) n=true)(c:ev σ x=some (.pointer (some ⟨b,o,none⟩)))[hf:IsFd P t f k]
  (h:QL P L w Q rest n ((d,.pointer (some ⟨b,o+k,none⟩))::σ)):QL P L w Q (⟨some d,.fieldAddr t x f,ty,pos,af,g⟩::rest) n σ:=by
 refine QL.run i hd (fun a j w' _=>?_) h;simp[execOp,j.ev c,F7 (P:=P) (t:=t) (f:=f) (k:=k)]
theorem F9{v:Value}(w:World)(h:Blk w b e cells)(c:Cq cells o=some v)[f:IsC P t 1 false]:(Instr.loadAt t (.pointer (some ⟨b,o,none⟩))).run P w=.ok v w:=by
 obtain⟨i,dd,h1,h2,h3,h4⟩:=f.ok;have a:(isAgg t).run P w=.ok false w:=by
  unfold isAgg;rw[Q4,Sy h3 w,<-h4];cases dd<;>rfl
 rw[Cr]at c
 simp only[Instr.loadAt,Q4,Instr.sureAddr,Q5,Q2,loadVar,a];simp[h.cell c]
theorem F_{vs:List Value}{k:Nat}(w:World)(q:Blk w b e cells)(f:GM cells o k=some vs)[p:IsC P t k true]:(Instr.loadAt t (.pointer (some ⟨b,o,none⟩))).run P w=.ok (.agg vs.toArray) w:=by
 obtain⟨i,dd,h1,h2,h3,h4⟩:=p.ok;have c:(isAgg t).run P w=.ok true w:=by
  unfold isAgg;rw[Q4,Sy h3 w,<-h4];cases dd<;>rfl
 obtain⟨m,l⟩:=GN _ _ _ _ f;have a:=Su (P:=P) w ⟨b,o,none⟩ vs (fun j u h=>by rw[RT];exact q.cell (l j u h));rw[m]at a
 simp[Instr.loadAt,Instr.sureAddr,loadVar,c,sizeOf,typeInfo,h1,h2,a]
theorem fx{v:Value}(i:gd L σ ⟨some d,.load t x,ty,pos,af,g⟩=some true)(hd:Nat.ble (d+1) n=true)(c:ev σ x=some (.pointer (some ⟨b,o,none⟩)))[l:IsC P t 1 false](j:Blk w b e cells)(f:Cq cells o=some v)
  (h:WL P L Q rest n ((d,v)::σ) w):WL P L Q (⟨some d,.load t x,ty,pos,af,g⟩::rest) n σ w:=by
 refine WL.run i hd (fun a k=>?_) h;simp[execOp,k.ev c,F9 (P:=P) (t:=t) w j f]
theorem dF{v:Value}(i:gd L σ ⟨some d,.load t x,ty,pos,af,g⟩=some true)(hd:Nat.ble (d+1) n=true)(c:ev σ x=some (.pointer (some ⟨b,o,none⟩)))[m:IsC P t 1 false](j:Blk w b e cells)(f:Cq cells o=some v)
  (h:QL P L w Q rest n ((d,v)::σ)):QL P L w Q (⟨some d,.load t x,ty,pos,af,g⟩::rest) n σ:=by
 refine QL.run i hd (fun a k w' l=>?_) h;simp[execOp,k.ev c,F9 (P:=P) (t:=t) w' (j.ext l) f]
theorem fy{vs:List Value}{k:Nat}(i:gd L σ ⟨some d,.load t x,ty,pos,af,g⟩=some true)(hd:Nat.ble (d+1) n=true)(c:ev σ x=some (.pointer (some ⟨b,o,none⟩)))[m:IsC P t k true](j:Blk w b e cells)(f:GM cells o k=some vs)
  (h:WL P L Q rest n ((d,.agg vs.toArray)::σ) w):WL P L Q (⟨some d,.load t x,ty,pos,af,g⟩::rest) n σ w:=by
 refine WL.run i hd (fun a l=>?_) h;simp[execOp,l.ev c,F_ (P:=P) (t:=t) w j f]
theorem dG{vs:List Value}{k:Nat}(i:gd L σ ⟨some d,.load t x,ty,pos,af,g⟩=some true)(hd:Nat.ble (d+1) n=true)(c:ev σ x=some (.pointer (some ⟨b,o,none⟩)))[p:IsC P t k true](j:Blk w b e cells)(f:GM cells o k=some vs)
  (h:QL P L w Q rest n ((d,.agg vs.toArray)::σ)):QL P L w Q (⟨some d,.load t x,ty,pos,af,g⟩::rest) n σ:=by
 refine QL.run i hd (fun a l w' m=>?_) h;simp[execOp,l.ev c,F_ (P:=P) (t:=t) w' (j.ext m) f]
theorem fS{p:Addr}(f:gd L σ ⟨some d,.nilCheck x,ty,pos,af,g⟩=some true)(hd:Nat.ble (d+1) n=true)(c:ev σ x=some (.pointer (some p)))
  (h:WL P L Q rest n ((d,.pointer (some p))::σ) w):WL P L Q (⟨some d,.nilCheck x,ty,pos,af,g⟩::rest) n σ w:=by
 refine WL.run f hd (fun a i=>?_) h;simp[execOp,i.ev c]
theorem dK{p:Addr}(f:gd L σ ⟨some d,.nilCheck x,ty,pos,af,g⟩=some true)(hd:Nat.ble (d+1) n=true)(c:ev σ x=some (.pointer (some p)))
  (h:QL P L w Q rest n ((d,.pointer (some p))::σ)):QL P L w Q (⟨some d,.nilCheck x,ty,pos,af,g⟩::rest) n σ:=by
 refine QL.run f hd (fun a i _ _=>?_) h;simp[execOp,i.ev c]
theorem eI{v:Value}(c:gd L σ ⟨some d,.box e x,ty,pos,af,g⟩=some true)(hd:Nat.ble (d+1) n=true)(a:ev σ x=some v)
  (h:∀w',Blk w' w.heap.size e (jZ v)->Ext w w'->WL P L Q rest n ((d,Tg w.heap.size)::σ) w'):WL P L Q (⟨some d,.box e x,ty,pos,af,g⟩::rest) n σ w:=by
 refine WL.box c hd a ?_;have:=Blk.alloc w (jZ v) e;rw[<-j0]at this
 exact h _ this (Ext.alloc w _)
theorem eJ{v:Value}(h:∀w',Blk w' w.heap.size e (jZ v)->Ext w w'->WL P L Q rest n ((d,Tg w.heap.size)::σ) w')(c:gd L σ ⟨some d,.box e x,ty,pos,af,g⟩=some true:=by exact rfl)(hd:Nat.ble (d+1) n=true:=by exact rfl)(a:ev σ x=some v:=by exact rfl):WL P L Q (⟨some d,.box e x,ty,pos,af,g⟩::rest) n σ w:=eI c hd a h
theorem WL.alloc{zs:List Value}(f:gd L σ ⟨some d,.alloc e,ty,pos,af,g⟩=some true)(hd:Nat.ble (d+1) n=true)[c:IsZC P e zs]
  (h:∀w',Blk w' w.heap.size e zs->Ext w w'->WL P L Q rest n ((d,Tg w.heap.size)::σ) w'):WL P L Q (⟨some d,.alloc e,ty,pos,af,g⟩::rest) n σ w:=by
 obtain⟨i,z,h1,h2,h3⟩:=c.ok;refine WL.run f hd (fun a j=>?_) (h _ (Blk.alloc w zs e) (Ext.alloc w _));simp[execOp,Instr.alloc,zeroValue,typeInfo,h1,h2,newVar,newRow,h3]
theorem eF{zs:List Value}[c:IsZC P e zs](h:∀w',Blk w' w.heap.size e zs->Ext w w'->WL P L Q rest n ((d,Tg w.heap.size)::σ) w')(a:gd L σ ⟨some d,.alloc e,ty,pos,af,g⟩=some true:=by exact rfl)(hd:Nat.ble (d+1) n=true:=by exact rfl):WL P L Q (⟨some d,.alloc e,ty,pos,af,g⟩::rest) n σ w:=WL.alloc a hd h
theorem ud(w:World)(b:Nat)(cs:Array Value):w.grownBy (w.setRow b cs) (some b):=⟨rfl,rfl,rfl,by simp,fun k _ a=>SA w b k _ (fun e=>a (by simp[e]))⟩
theorem WL.st{v:Value}{k:Nat}{ag:Bool}{out:List Value}(A:gd L σ ⟨none,.store t x y,ty,pos,af,g⟩=some true)(z:ev σ x=some (.pointer (some ⟨b,o,none⟩)))(s:ev σ y=some v)[B:IsC P t k ag](q:Blk w b e cells)
  (p:Aq (jZ v)=k) (f:Dp cells o (jZ v)=some out) (h1:∀u∈jZ v,u.oneCell'=true)
  (h:∀w',Blk w' b e out->w.grownBy w' (some b)->WL P L Q rest n σ w'):WL P L Q (⟨none,.store t x y,ty,pos,af,g⟩::rest) n σ w:=by
 obtain⟨j,rfl⟩:=Dq _ _ _ _ f;obtain⟨i,dd,m,l,_,_⟩:=B.ok;rw[Ar]at p
 subst p;have c:=Sx P b o e (jZ v) 0 cells.toArray w q (by simpa using j) h1;simp only[P9]at c
 refine fY A (fun a r=>?_) (h _ (by
  have:=Sz w b cells.toArray (cells.take o++jZ v++cells.drop (o+(jZ v).length)).toArray e (0,0) q;exact this) (ud w b _))
 simp only[execOp,r.ev z,r.ev s,Instr.storeAt,Q4,Instr.sureAddr,Q5,Q2,storeVar,sizeOf,typeInfo,Sv,m,l,j0,c];simp;simp[c]
theorem f_{v:Value}{k:Nat}{ag:Bool}{out:List Value}[m:IsC P t k ag](l:Blk w b e cells)(h:∀w',Blk w' b e out->w.grownBy w' (some b)->WL P L Q rest n σ w')(j:gd L σ ⟨none,.store t x y,ty,pos,af,g⟩=some true:=by exact rfl)(f:ev σ x=some (.pointer (some ⟨b,o,none⟩)):=by exact rfl)(c:ev σ y=some v:=by exact rfl)(i:Aq (jZ v)=k:=by exact rfl)(a:Dp cells o (jZ v)=some out:=by exact rfl)(h1:∀u∈jZ v,u.oneCell'=true:=by exact(CZ rfl)):WL P L Q (⟨none,.store t x y,ty,pos,af,g⟩::rest) n σ w:=WL.st j f c l i a h1 h
theorem F2{parts:List (Nat×Operand)}{vs:List Value}{places:List (Nat×Nat)}{zs out:List Value}{a:Act}(u:Fr n σ a)
  (k:pL σ (HV parts)=some vs) [m:IsZC P t zs] [q:IsBd P t places] (hf:qF places zs ((parts.map (·.1)).zip vs)=some out) {w:World} {dd:Option Nat}:
  (execOp a.eval ⟨dd,.build t parts.toArray,ty,pos,af,g⟩).run P w=.ok (.value (.agg out.toArray)) w:=by
 obtain⟨i,z,h1,h2,h3⟩:=m.ok;obtain⟨fs,h4,A⟩:=q.ok;have c:∀l:List (Nat×Operand),HV l=l.map (·.2):=by
  intro l;induction l with
  |nil=>rfl
  |cons p r h=>obtain⟨i,x⟩:=p;simp[HV,h]
 have j:=pM u (HV parts) vs k;rw[c,Pe]at j
 have C:(parts.toArray.map fun(x:Nat×Operand)=>(x.1,a.eval x.2)).toList=(parts.map (·.1)).zip vs:=by
  rw[<-j];simp only[Pg];clear k hf j
  induction parts with
  |nil=>rfl
  |cons p r h=>simpa using h
 have s:P.built t ((parts.map (·.1)).zip vs)=some out.toArray:=by
  unfold Program.built;rw[h1,h4];simp only[h2,A];rw[h3];exact qG places _ zs out hf
 have f:=run_build (P:=P) w t (parts.toArray.map fun(x:Nat×Operand)=>(x.1,a.eval x.2)) out.toArray (by rw[C];exact s);have B:(execOp a.eval ⟨dd,.build t parts.toArray,ty,pos,af,g⟩)=(do let v<-Instr.build t (parts.toArray.map fun(x:Nat×Operand)=>(x.1,a.eval x.2));Pure.pure (Next.value v):Sem Next):=rfl;rw[B,Q4,f];rfl
theorem WL.build{parts:List (Nat×Operand)}{vs:List Value}{places:List (Nat×Nat)}{zs out:List Value}(f:gd L σ ⟨some d,.build t parts.toArray,ty,pos,af,g⟩=some true)(hd:Nat.ble (d+1) n=true)
  (c:pL σ (HV parts)=some vs) [j:IsZC P t zs] [k:IsBd P t places] (hf:qF places zs ((parts.map (·.1)).zip vs)=some out)
  (h:WL P L Q rest n ((d,.agg out.toArray)::σ) w):WL P L Q (⟨some d,.build t parts.toArray,ty,pos,af,g⟩::rest) n σ w:=by
 exact WL.run f hd (fun a i=>F2 i c hf) h
theorem eK{parts:List (Nat×Operand)}{vs:List Value}{places:List (Nat×Nat)}{zs out:List Value}[f:IsZC P t zs][i:IsBd P t places](h:WL P L Q rest n ((d,.agg out.toArray)::σ) w)(c:gd L σ ⟨some d,.build t parts.toArray,ty,pos,af,g⟩=some true:=by exact rfl)(hd:Nat.ble (d+1) n=true:=by exact rfl)(a:pL σ (HV parts)=some vs:=by exact rfl)(hf:qF places zs ((parts.map (·.1)).zip vs)=some out:=by exact rfl):WL P L Q (⟨some d,.build t parts.toArray,ty,pos,af,g⟩::rest) n σ w:=WL.build c hd a hf h
end
def az{n:Nat}{σ:Sg}{x y:Code}(τ:Sg)(h:CW P x (fun e a w'=>e=.normal/\Fr n τ a/\w'=w) n σ w)(b:CW P y Q n τ w):CW P (.seq x y) Q n σ w:=by
 refine CW.seq ?_;unfold CW at*
 intro a c
 refine SI (h a c) ?_;rintro e f w' ⟨rfl,hF,rfl⟩
 exact b f hF
def aX{n:Nat}{σ τ:Sg}(b:Sub τ σ):EX (fun e a w'=>e=.normal/\Fr n τ a/\w'=w) .normal n σ w:=by
 unfold EX;exact fun a c=>⟨rfl,c.sub b,rfl⟩
def aA{n:Nat}{σ:Sg}{x y:Code}(τ:Sg)(h:CW P x (fun e a w'=>e=.normal/\Fr n τ a/\Ext w w') n σ w)(b:∀w',Ext w w'->CW P y Q n τ w'):CW P (.seq x y) Q n σ w:=by
 refine CW.seq ?_;unfold CW at*
 intro a c
 refine SI (h a c) ?_;rintro e i w' ⟨rfl,hF,f⟩
 exact b w' f i hF
def aY{n:Nat}{σ τ:Sg}{w':World}(b:Sub τ σ)(f:Ext w w'):EX (fun e a w'=>e=.normal/\Fr n τ a/\Ext w w') .normal n σ w':=by
 unfold EX;exact fun a c=>⟨rfl,c.sub b,f⟩
def aB{n:Nat}{σ:Sg}{x y:Code}{S:Type}(σs:S->Sg)(I:S->World->Prop)(h:CW P x (fun e a w'=>e=.normal/\∃s,Fr n (σs s) a/\I s w') n σ w)(b:∀s w',I s w'->CW P y Q n (σs s) w'):CW P (.seq x y) Q n σ w:=by
 refine CW.seq ?_;unfold CW at*
 intro a c
 refine SI (h a c) ?_;rintro e i w' ⟨rfl,s,hF,f⟩
 exact b s w' f i hF
def aZ{n:Nat}{σ:Sg}{S:Type}{σs:S->Sg}{I:S->World->Prop}(s:S)(b:Sub (σs s) σ)(f:I s w):EX (fun e a w'=>e=.normal/\∃s,Fr n (σs s) a/\I s w') .normal n σ w:=by
 unfold EX;exact fun a c=>⟨rfl,s,c.sub b,f⟩
def CY:List Value->Bool
 |[]=>true
 |v::r=>match v.oneCell' with
  |true=>CY r
  |false=>false
def CZ:∀{l:List Value},CY l=true->∀u∈l,u.oneCell'=true
 |[],_,u,a=>by cases a
 |v::r,h,u,a=>by
  simp only[CY]at h
  split at h
  ·rename_i b
   rcases Pk.1 a with rfl|a
   ·exact b
   ·exact CZ h u a
  ·cases h
def pw{op:BinOp}(h:(op==.eql||op==.neq)=false)(t:TypeId)(x y:Operand)(u v:Value):eqGuard op t x y u v=Pure.pure ():=by
 cases op<;>first|rfl|(simp at h)
def HF(a s:Nat)(b:a<18446744073709551616):(a:Int) / 2 ^ min s 64=((a >>> s:Nat):Int):=by
 rw[QD];by_cases h:s<=64
 ·rw[Qp h];simp
 ·rw[Nat.min_eq_right SM]
  have h1:a / 2 ^ s=0:=Qa (Qn b (by
   have:=QB (n:=2) SM (show 64<=s by omega);simpa using this))
  rw[h1];omega
def Gs(P:Program)(w:World)(a s:Nat)(b:a<18446744073709551616)(t:TypeId):(binOp .shr t (.int .u64 (a:Int)) (Te (s:Int))).run P w=.ok (.int .u64 ((a >>> s:Nat):Int)) w:=by
 have h:binOp .shr t (.int .u64 (a:Int)) (Te (s:Int))=Op.shift .shr .u64 (a:Int) .i64 (s:Int):=rfl;rw[h,shift_shr_any _ _ _ _ SM];have:=HF a s b;simp only[Nt,IntKind.bits];rw[this];rfl
def Gr(P:Program)(w:World)(a:Nat)(s:Int)(c:a<18446744073709551616)(b:0<=s)(t:TypeId):(binOp .shr t (.int .u64 (a:Int)) (Te s)).run P w=.ok (.int .u64 ((a >>> s.toNat:Nat):Int)) w:=by
 have h1:=Gs P w a s.toNat c t;rwa[Nu b]at h1
def F0(P:Program)(w:World)(a b:Nat)(e:a<18446744073709551616)(c:b<18446744073709551616)(t:TypeId):(binOp .and t (.int .u64 (a:Int)) (.int .u64 (b:Int))).run P w=.ok (.int .u64 ((a&&&b:Nat):Int)) w:=by
 have h:binOp .and t (.int .u64 (a:Int)) (.int .u64 (b:Int))=Op.intBits .and .u64 (a:Int) (b:Int):=rfl;rw[h,intBits_and,R1 a b e c];rfl
class IsI(P:Program)(t:TypeId)(k:IntKind):Prop where
 ok:P.underlying t=some (.int k)
section
variable {P:Program}{Q:Exit->Act->World->Prop}{n:Nat}{σ:Sg}{w:World}{L rest:List Oper}{d:Nat}{ty:TypeId}{pos:String}{af:Array Edge}{g:Option (Nat×Bool)}{t yt:TypeId}{x y:Operand}
theorem eG{a:Nat}(f:gd L σ ⟨some d,.binOp .and t x y yt,ty,pos,af,g⟩=some true)(hd:Nat.ble (d+1) n=true)(e:ev σ x=some (.int .u64 (a:Int)))(c:ev σ y=some (.int .u64 1))(i:a<18446744073709551616)
  (h:WL P L Q rest n ((d,.int .u64 ((a&&&1:Nat):Int))::σ) w):WL P L Q (⟨some d,.binOp .and t x y yt,ty,pos,af,g⟩::rest) n σ w:=by
 refine WL.run f hd (fun j b=>?_) h;have:(binOp .and t (.int .u64 (a:Int)) (.int .u64 1)).run P w=.ok (.int .u64 ((a&&&1:Nat):Int)) w:=F0 P w a 1 i SM t;simp[execOp,b.ev e,b.ev c,pw (op:=.and) rfl,this]
theorem eU{a:Int}{k k':IntKind}(e:gd L σ ⟨some d,.convert t yt x,ty,pos,af,g⟩=some true)(hd:Nat.ble (d+1) n=true)(c:ev σ x=some (.int k a))[h1:IsI P t k][h2:IsI P yt k']
  (h:WL P L Q rest n ((d,.int k' (k'.wrap a))::σ) w):WL P L Q (⟨some d,.convert t yt x,ty,pos,af,g⟩::rest) n σ w:=by
 refine WL.run e hd (fun f b=>?_) h;simp[execOp,b.ev c,convert,Sy h1.ok,Sy h2.ok,Conv.intToInt]
theorem dP{a:Nat}{s:Int}(j:gd L σ ⟨some d,.binOp .shr t x y yt,ty,pos,af,g⟩=some true)(hd:Nat.ble (d+1) n=true)(f:ev σ x=some (.int .u64 (a:Int)))(e:ev σ y=some (Te s))(k:a<18446744073709551616)(i:0<=s)
  (h:QL P L w Q rest n ((d,.int .u64 ((a >>> s.toNat:Nat):Int))::σ)):QL P L w Q (⟨some d,.binOp .shr t x y yt,ty,pos,af,g⟩::rest) n σ:=by
 refine QL.run j hd (fun l b c _=>?_) h;have:=Gr P c a s k i t;simp[execOp,b.ev f,b.ev e,pw (op:=.shr) rfl,this]
theorem dx{a:Nat}(i:gd L σ ⟨some d,.binOp .and t x y yt,ty,pos,af,g⟩=some true)(hd:Nat.ble (d+1) n=true)(f:ev σ x=some (.int .u64 (a:Int)))(e:ev σ y=some (.int .u64 1))(j:a<18446744073709551616)
  (h:QL P L w Q rest n ((d,.int .u64 ((a&&&1:Nat):Int))::σ)):QL P L w Q (⟨some d,.binOp .and t x y yt,ty,pos,af,g⟩::rest) n σ:=by
 refine QL.run i hd (fun k b c _=>?_) h;have:(binOp .and t (.int .u64 (a:Int)) (.int .u64 1)).run P c=.ok (.int .u64 ((a&&&1:Nat):Int)) c:=F0 P c a 1 j SM t;simp[execOp,b.ev f,b.ev e,pw (op:=.and) rfl,this]
end
instance vP{α β:Type}[Rep α][Rep β]:Rep (α×β)where
 sz:=sz α+sz β
 pos:=by have:=(Rep.pos:0<Rep.sz α);show 0<Rep.sz α+Rep.sz β;omega
 agg:=true
 rd:=fun w F cs x=>∃c1 c2,cs=c1++c2/\rd w F c1 x.1/\rd w F c2 x.2
 len:=by rintro w F cs x ⟨c1,c2,rfl,h1,h2⟩;rw[OT,Rep.len h1,Rep.len h2]
 one:=by
  rintro w F cs x ⟨c1,c2,rfl,h1,h2⟩ v b
  rcases Ph.1 b with h|h
  ·exact Rep.one h1 v h
  ·exact Rep.one h2 v h
 szAgg:=fun h=>by cases h
 mono:=by rintro w w' F F' cs x ⟨c1,c2,rfl,h1,h2⟩ a hF;exact⟨c1,c2,rfl,Rep.mono h1 a hF,Rep.mono h2 a hF⟩
def Rd.pr{β:Type}[Rep α][Rep β]{x:α×β}(h:Rd w F v x):∃c1 c2,v=.agg (c1++c2).toArray/\rd w F c1 x.1/\rd w F c2 x.2:=by
 obtain⟨cs,rfl,c1,c2,rfl,h1,h2⟩:=h;exact⟨c1,c2,rfl,h1,h2⟩
def Fd{β:Type}[Rep α][Rep β]{cs:List Value}{x:α×β}(h:rd w F cs x):∃c1 c2,cs=c1++c2/\rd w F c1 x.1/\rd w F c2 x.2:=h
def E7{cs:List Value}(h:rd w F cs x):cs=[Te x]:=h
def Fe[Rep α]{cs:List Value}{x:List α}(h:rd w F cs x):∃ao cap,cs=[.slice ao x.length cap]/\Sl w F ao cap x:=h
def Rd.mkPr{β:Type}[Rep α][Rep β]{c1 c2:List Value}{x:α}{y:β}(h1:rd w F c1 x)(h2:rd w F c2 y):Rd w F (.agg (c1++c2).toArray) (x,y):=⟨_,rfl,c1,c2,rfl,h1,h2⟩
def E8{β:Type}[Rep α][Rep β]{c1 c2:List Value}{x:α}{y:β}(h1:rd w F c1 x)(h2:rd w F c2 y):rd w F (c1++c2) (x,y):=⟨c1,c2,rfl,h1,h2⟩
def E9(w:World)(F:Nat->Prop)(x:Int):rd w F [Te x] x:=rfl
def E_(w:World)(F:Nat->Prop)(x:Nat)(h:x<18446744073709551616):rd w F [.int .u64 (x:Int)] x:=⟨rfl,h⟩
abbrev cQ:=Int×Int×Int×Int×Int×Int×Int
def Cm:List Oper->Nat->Option Oper
 |[],_=>none
 |o::_,0=>some o
 |_::r,i+1=>Cm r i
def Cn:∀(l:List Oper) (i:Nat),Cm l i=l[i]?
 |[],i=>by simp[Cm]
 |o::r,0=>by simp[Cm]
 |o::r,i+1=>by simp[Cm,Cn r i]
def C9(ops:Array Oper):List (Nat×Bool)->Array Bool->Bool
 |[],a=>(Region.ready .any ops a).isEmpty
 |(i,true)::r,a=>(Region.ready .any ops a).contains i&&Region.free .any ops a i&&C9 ops r (a.setIfInBounds i true)
 |(i,false)::r,a=>decide (Region.ready .any ops a=[i])&&C9 ops r (a.setIfInBounds i true)
def Dc(l:List Oper)(ord:List (Nat×Bool)):Bool:=Region.noSelect l.toArray&&decide (ord.length=l.length)&&C9 l.toArray ord (Array.replicate l.length false)
def Mj(P:Program)(ops:List Oper)(S:World->Prop)(Q:Act->World->Prop):List (Nat×Bool)->Act->World->Prop
 |[],a,w=>Q a w
 |(i,true)::r,a,w=>∃o v,ops[i]?=some o/\YieldsIf P ops.toArray S o v a/\Mj P ops S Q r (a.put o.dst v) w
 |(i,false)::r,a,w=>∃o,ops[i]?=some o/\(if Region.wanted o (yielded ops.toArray a.tmps)=true then o.wp P a w (fun c w'=>S w'/\Mj P ops S Q r c w') (fun e a w=>e=.normal/\Q a w)else S w/\Mj P ops S Q r (a.put o.dst undef) w)
def Ml{P:Program}{ops:List Oper}{S:World->Prop}{Q:Act->World->Prop}(k:Region.noSelect ops.toArray=true):
  ∀(ord:List (Nat×Bool)) (c:Array Bool) (a:Act) (w:World),C9 ops.toArray ord c=true->S w->Mj P ops S Q ord a w->wpAnyH P .any ops.toArray (fun e a w=>e=.normal/\Q a w) S ord.length c a w
 |[],c,a,w,f,_,h=>by
  simp only[C9,OR]at f
  exact⟨f,rfl,h⟩
 |(i,true)::r,c,a,w,f,hS,⟨o,v,p,u,h⟩=>by
  simp only[C9,MZ]at f
  exact SD (by simpa using p) k f.1.2 f.1.1 (fun _ _ _ h=>by cases h.1) u hS (Ml k r _ _ _ f.2 hS h)
 |(i,false)::r,c,a,w,f,hS,⟨o,p,h⟩=>by
  simp only[C9,MZ,R_]at f
  refine SB f.1 SQ ?_;intro j z
  have q:j=i:=by simpa using z
  subst q;have m:ops.toArray[j]?=some o:=by simpa using p
  unfold wpOp;simp only[m];split
  ·rename_i l
   rw[Sj l]at h
   exact .inl (QP (fun A w' s=>⟨s.1,Ml k r _ _ _ f.2 s.1 s.2⟩) h)
  ·rename_i l
   rw[Si l]at h
   exact⟨h.1,Ml k r _ _ _ f.2 h.1 h.2⟩
@[irreducible] def HL (P:Program) (ops:List Oper) (S:World->Prop) (Q:Exit->Act->World->Prop) (ord:List (Nat×Bool)) (n:Nat) (σ:Sg) (w:World):Prop:=
  ∀a,Fr n σ a->Mj P ops S (fun a w=>Q .normal a w) ord a w
abbrev drew(w:World):World:={w with drawn:=w.drawn+1}
def Ext.drew(w:World):Ext w (drew w):=⟨rfl,rfl,rfl,Qj _,fun _ _=>rfl⟩
def ae(P:Program)(ops:List Oper)(S:World->Prop)(Q:Exit->Act->World->Prop)(ord:List (Nat×Bool)):Exit->Act->World->Prop:=
 fun e a w=>e=.normal/\S w/\Mj P ops S (fun a w=>Q .normal a w) ord a w
section
variable {P:Program}{Q:Exit->Act->World->Prop}{n:Nat}{σ:Sg}{w:World}{L:List Oper}{S:World->Prop}{rest:List (Nat×Bool)}{i d:Nat}{op:Op}{ty:TypeId}{pos:String}{af:Array Edge}{g:Option (Nat×Bool)}
theorem aG{id:Nat}(S:World->Prop)(ord:List (Nat×Bool))(j:P.follows .mixedOrders=true)(c:Dc L ord=true)(hS:S (drew w))(h:HL P L S Q ord n σ (drew w)):CW P (.region id L.toArray true) Q n σ w:=by
 unfold CW;unfold HL at h;intro a m
 simp only[Dc,MZ,R_]at c
 obtain⟨⟨f,k⟩,c⟩:=c;have h1:=Ml f ord (Array.replicate L.length false) a (Go.Proofs.YtfpjecjadlgdcaaGreatDoor.drew w) c hS (h a m);rw[k]at h1
 have h2:=SK (id:=id) (S:=S) j (w:=w) (ops:=L.toArray) (by simpa using h1);exact SI h2 (fun e p w' ⟨l,hq⟩=>by subst l;exact hq)
theorem HL.nil(h:EX Q .normal n σ w):HL P L S Q [] n σ w:=by
 unfold HL;unfold EX at h;exact fun a c=>h a c
theorem HL.run{v:Value}(j:Cm L i=some ⟨some d,op,ty,pos,af,g⟩)(l:gd L σ ⟨some d,op,ty,pos,af,g⟩=some true)(hd:Nat.ble (d+1) n=true)
  (k:∀a,Fr n σ a->∀w',S w'->(execOp a.eval ⟨some d,op,ty,pos,af,g⟩).run P w'=.ok (.value v) w') (h:HL P L S Q rest n ((d,v)::σ) w):HL P L S Q ((i,true)::rest) n σ w:=by
 unfold HL at*
 intro a f
 rw[Cn]at j
 exact⟨_,v,j,.inl ⟨sJ f l,fun w' c=>k a f w' c⟩,h _ (f.put (d:=some d) hd)⟩
theorem cF{v:Value}(f:Cm L i=some ⟨some d,op,ty,pos,af,g⟩)(j:gd L σ ⟨some d,op,ty,pos,af,g⟩=some true)(hd:Nat.ble (d+1) n=true)
  (c:Ez σ op=some v) (h:HL P L S Q rest n ((d,v)::σ) w):HL P L S Q ((i,true)::rest) n σ w:=
 HL.run f j hd (fun a k _ _=>EB k c) h
theorem HL.pass(c:Cm L i=some ⟨some d,op,ty,pos,af,g⟩)(j:gd L σ ⟨some d,op,ty,pos,af,g⟩=some false)(hd:Nat.ble (d+1) n=true)
  (h:HL P L S Q rest n ((d,undef)::σ) w):HL P L S Q ((i,true)::rest) n σ w:=by
 unfold HL at*
 intro a f
 rw[Cn]at c
 exact⟨_,undef,c,.inr ⟨sJ f j,rfl⟩,h _ (f.put (d:=some d) hd)⟩
theorem cD{o:Oper}(m:Cm L i=some o)(h:WL P L (ae P L S Q rest) [o] n σ w):HL P L S Q ((i,false)::rest) n σ w:=by
 unfold HL;unfold WL at h
 intro a p
 rw[Cn]at m
 have h1:=h a p;refine⟨o,m,?_⟩;have h2:wpList P L.toArray (ae P L S Q rest) [o] a w:=h1;simp only[wpList]at h2
 split
 ·rename_i l
  rw[Sj l]at h2
  rcases h2 with h2|⟨_,c⟩
  ·unfold Oper.wp at*
   generalize (execOp a.eval o).run P w=r at*
   cases r with
   |ok k w'=>
    cases k<;>simp only[Oper.upon]at h2⊢<;>first
     |exact h2.2
     |exact h2
     |(refine Ng h2 (fun e w'' f=>?_);cases e<;>first|exact f.2|(exact absurd f.1 SQ)|(obtain⟨_,_,j⟩:=f;exact absurd j.1 SQ))
     |exact Q3 h2 (fun _ _ f=>f.2)
   |halt x w'=>cases x<;>simp only[Oper.upon]at h2⊢<;>first|exact h2|(exact absurd h2.1 SQ)
  ·obtain⟨_,_,j⟩:=c
   exact absurd j.1 SQ
 ·rename_i l
  rw[Si l]at h2
  exact h2.2
theorem bf(hS:S w)(h:HL P L S Q rest n σ w):EX (ae P L S Q rest) .normal n σ w:=by
 unfold EX;unfold HL at h;exact fun a c=>⟨rfl,hS,h a c⟩
end
section
variable {P:Program}{Q:Exit->Act->World->Prop}{n:Nat}{σ:Sg}{w wc:World}{L:List Oper}{S:World->Prop}{rest:List (Nat×Bool)}{i d:Nat}{op:Op}{ty:TypeId}{pos:String}{af:Array Edge}{g:Option (Nat×Bool)}{t yt e:TypeId}{x y:Operand}{b o:Nat}{cells:List Value}
theorem HL.add{t yt:TypeId}{x y:Operand}{a b:Int}(j:Cm L i=some ⟨some d,.binOp .add t x y yt,ty,pos,af,g⟩)(k:gd L σ ⟨some d,.binOp .add t x y yt,ty,pos,af,g⟩=some true)(hd:Nat.ble (d+1) n=true)
  (f:ev σ x=some (Te a)) (c:ev σ y=some (Te b)) (l: -9223372036854775808<=a+b) (h1:a+b<9223372036854775808) (h:HL P L S Q rest n ((d,Te (a+b))::σ) wc):HL P L S Q ((i,true)::rest) n σ wc:=by
 refine cF j k hd (v:=Te (a+b)) ?_ h;simp only[Ez,f,c,DQ];rw[Ms l h1]
theorem cJ{t yt:TypeId}{x y:Operand}{a b:Int}(j:Cm L i=some ⟨some d,.binOp .sub t x y yt,ty,pos,af,g⟩)(k:gd L σ ⟨some d,.binOp .sub t x y yt,ty,pos,af,g⟩=some true)(hd:Nat.ble (d+1) n=true)
  (f:ev σ x=some (Te a)) (c:ev σ y=some (Te b)) (l: -9223372036854775808<=a -b) (h1:a -b<9223372036854775808) (h:HL P L S Q rest n ((d,Te (a -b))::σ) wc):HL P L S Q ((i,true)::rest) n σ wc:=by
 refine cF j k hd (v:=Te (a -b)) ?_ h;simp only[Ez,f,c,DQ];rw[Ms l h1]
theorem cC{t e:TypeId}{x:Operand}{ao:Option Addr}{k cap:Nat}(j:Cm L i=some ⟨some d,.call ⟨.builtin .len,#[x],#[t]⟩,ty,pos,af,g⟩)(l:gd L σ ⟨some d,.call ⟨.builtin .len,#[x],#[t]⟩,ty,pos,af,g⟩=some true)(hd:Nat.ble (d+1) n=true)
  (c:ev σ x=some (.slice ao k cap)) [f:IsS P t e] (h:HL P L S Q rest n ((d,Te (k:Int))::σ) wc):HL P L S Q ((i,true)::rest) n σ wc:=by
 refine HL.run j l hd (fun a m _ _=>?_) h;simp[execOp,resolve,invoke,builtin,m.ev c,Builtin.len_,Sy f.ok,goInt]
theorem HL.makeFunc{fn:Fn}{fs cs:List Operand}{fv cv:List Value}(f:Cm L i=some ⟨some d,.makeFunc fn fs.toArray cs.toArray,ty,pos,af,g⟩)(j:gd L σ ⟨some d,.makeFunc fn fs.toArray cs.toArray,ty,pos,af,g⟩=some true)(hd:Nat.ble (d+1) n=true)
  (hf:pL σ fs=some fv) (k:pL σ cs=some cv) (h:HL P L S Q rest n ((d,.func fn fv.toArray cv.toArray)::σ) wc):HL P L S Q ((i,true)::rest) n σ wc:=by
 refine HL.run f j hd (fun a c _ _=>?_) h;have m:=pM c fs fv hf;have l:=pM c cs cv k;simp[execOp,Instr.makeFunc,m,l]
theorem ck{f k:Nat}(j:Cm L i=some ⟨some d,.fieldAddr t x f,ty,pos,af,g⟩)(l:gd L σ ⟨some d,.fieldAddr t x f,ty,pos,af,g⟩=some true)(hd:Nat.ble (d+1) n=true)(c:ev σ x=some (.pointer (some ⟨b,o,none⟩)))[hf:IsFd P t f k]
  (h:HL P L S Q rest n ((d,.pointer (some ⟨b,o+k,none⟩))::σ) wc):HL P L S Q ((i,true)::rest) n σ wc:=by
 refine HL.run j l hd (fun a m w' _=>?_) h;simp[execOp,m.ev c,F7 (P:=P) (t:=t) (f:=f) (k:=k)]
theorem cq{v:Value}(f:∀j,S j->Ext w j)(m:Cm L i=some ⟨some d,.load t x,ty,pos,af,g⟩)(p:gd L σ ⟨some d,.load t x,ty,pos,af,g⟩=some true)(hd:Nat.ble (d+1) n=true)(k:ev σ x=some (.pointer (some ⟨b,o,none⟩)))[u:IsC P t 1 false](q:Blk w b e cells)(l:Cq cells o=some v)
  (h:HL P L S Q rest n ((d,v)::σ) wc):HL P L S Q ((i,true)::rest) n σ wc:=by
 refine HL.run m p hd (fun a r w' c=>?_) h;have s:=f _ c;simp[execOp,r.ev k,F9 (P:=P) (t:=t) w' (q.ext s) l]
theorem cr{vs:List Value}{k:Nat}(f:∀j,S j->Ext w j)(p:Cm L i=some ⟨some d,.load t x,ty,pos,af,g⟩)(q:gd L σ ⟨some d,.load t x,ty,pos,af,g⟩=some true)(hd:Nat.ble (d+1) n=true)(l:ev σ x=some (.pointer (some ⟨b,o,none⟩)))[v:IsC P t k true](r:Blk w b e cells)(m:GM cells o k=some vs)
  (h:HL P L S Q rest n ((d,.agg vs.toArray)::σ) wc):HL P L S Q ((i,true)::rest) n σ wc:=by
 refine HL.run p q hd (fun a s w' c=>?_) h;have u:=f _ c;simp[execOp,s.ev l,F_ (P:=P) (t:=t) w' (r.ext u) m]
theorem cE{p:Addr}(f:Cm L i=some ⟨some d,.nilCheck x,ty,pos,af,g⟩)(j:gd L σ ⟨some d,.nilCheck x,ty,pos,af,g⟩=some true)(hd:Nat.ble (d+1) n=true)(c:ev σ x=some (.pointer (some p)))
  (h:HL P L S Q rest n ((d,.pointer (some p))::σ) wc):HL P L S Q ((i,true)::rest) n σ wc:=by
 refine HL.run f j hd (fun a k _ _=>?_) h;simp[execOp,k.ev c]
theorem cm{α:Type}[Rep α]{t e:TypeId}{x ix:Operand}{b off:Nat}{k cap:Nat}{ii:Int}{kd:IntKind}(l:Cm L i=some ⟨some d,.indexAddr t x ix,ty,pos,af,g⟩)(m:gd L σ ⟨some d,.indexAddr t x ix,ty,pos,af,g⟩=some true)(hd:Nat.ble (d+1) n=true)
  (f:ev σ x=some (.slice (some ⟨b,off,none⟩) k cap)) (hi:ev σ ix=some (.int kd ii)) [j:IsS P t e] [q:IsT P e α] (p:0<=ii) (h1:ii<k)
  (h:HL P L S Q rest n ((d,.pointer (some ⟨b,off+ii.toNat*sz α,none⟩))::σ) wc):HL P L S Q ((i,true)::rest) n σ wc:=by
 refine HL.run l m hd (fun a c _ _=>?_) h;simp[execOp,c.ev f,c.ev hi,Instr.indexAt,asIntOf,Sy j.ok,p,h1,Gv (α:=α),RT]
theorem HL.load{α:Type}[Rep α]{t:TypeId}{x:Operand}{b off:Nat}{F:Nat->Prop}{cs:List Value}{y:α}(m:∀p,S p->Ext w p)(s:Cm L i=some ⟨some d,.load t x,ty,pos,af,g⟩)(v:gd L σ ⟨some d,.load t x,ty,pos,af,g⟩=some true)(hd:Nat.ble (d+1) n=true)
  (q:ev σ x=some (.pointer (some ⟨b,off,none⟩))) [C:IsT P t α] (A:b<w.heap.size) (hF:∀b,F b->b<w.heap.size) (z:Cells w b off cs) (r:rd w F cs y)
  (h:HL P L S Q rest n ((d,Lb α cs)::σ) wc):HL P L S Q ((i,true)::rest) n σ wc:=by
 refine HL.run s v hd (fun a B w' f=>?_) h;have c:=m _ f;have l:Cells w' b off cs:=z.mono (c.block b A);have j:rd w' F cs y:=Rep.mono r (fun k u=>c.block k (hF k u)) fun _ h=>h
 simp[execOp,B.ev q,Instr.loadAt,Instr.sureAddr,Ge l j]
theorem HL.build{parts:List (Nat×Operand)}{vs:List Value}{places:List (Nat×Nat)}{zs out:List Value}(f:Cm L i=some ⟨some d,.build t parts.toArray,ty,pos,af,g⟩)(j:gd L σ ⟨some d,.build t parts.toArray,ty,pos,af,g⟩=some true)(hd:Nat.ble (d+1) n=true)
  (c:pL σ (HV parts)=some vs) [m:IsZC P t zs] [p:IsBd P t places] (hf:qF places zs ((parts.map (·.1)).zip vs)=some out)
  (h:HL P L S Q rest n ((d,.agg out.toArray)::σ) wc):HL P L S Q ((i,true)::rest) n σ wc:=
 HL.run f j hd (fun a k l _=>F2 k c hf) h
theorem b_{α:Type}[Rep α]{x0:α}{bytes:Nat}{F:Nat->Prop}{H d1:Nat}{ty1:TypeId}{pos1:String}{af1:Array Edge}{g1:Option (Nat×Bool)}{v u:Value}{xs:List α}{yv:α}{B:Nat}
  (ho1:Cm L H=some ⟨some d1,.buildSlice t 1 [(0,y)].toArray,ty1,pos1,af1,g1⟩) (M:Cm L i=some ⟨some d,.call ⟨.builtin .append,#[x,.tmp d1],#[t,t]⟩,ty,pos,af,g⟩)
  (D:gd L σ ⟨some d1,.buildSlice t 1 [(0,y)].toArray,ty1,pos1,af1,g1⟩=some true) (G:Nat.ble (d1+1) n=true)
  (E:∀u,gd L ((d1,.slice u 1 1)::σ) ⟨some d,.call ⟨.builtin .append,#[x,.tmp d1],#[t,t]⟩,ty,pos,af,g⟩=some true) (hd:Nat.ble (d+1) n=true)
  (I:ev σ y=some u) (J:∀u,ev ((d1,.slice u 1 1)::σ) x=some v) [U:IsS P t e] [T:IsT P e α] [R:IsZ P e x0 bytes] (m:Own wc B e F v xs) (K:Rd wc F u yv) (O:B<=wc.heap.size) (hF:∀b,F b->b<wc.heap.size)
  (z:sz α<=16777216) (N:xs.length+1<=maxLen) (q:(xs.length+1)*bytes<=140737488355328) (hS:∀w',wc.grownBy w' v.ownBlock->S w')
  (h:∀l w' p,Own w' B e F l (xs++[yv])->wc.grownBy w' v.ownBlock->(∀g,l.ownBlock=some g->v.ownBlock=some g\/wc.heap.size<=g)->HL P L S Q rest n ((d,l)::(d1,.slice p 1 1)::σ) w'):
  HL P L S Q ((H,false)::(i,false)::rest) n σ wc:=by
 refine cD ho1 ?_;refine WL.lit (vs:=[u]) (ys:=[yv]) D G rfl (by simp[HV,pL,I]) rfl ⟨K,trivial⟩ (by simpa using z) hF (fun s ho1 a=>?_);have c:wc.heap.size<=s.heap.size:=a.size;have j:Own s B e F v xs:=m.kept a (fun _ _ h=>by cases h) fun b q=>⟨hF b q,fun h=>by cases h⟩
 have g2:wc.grownBy s v.ownBlock:=⟨a.os,a.tape,a.output,a.size,fun k r _=>a.block k r (fun h=>by cases h)⟩;refine WL.nil (bf (hS _ g2) ?_);refine cD M ?_;refine WL.app (ys:=[yv]) (E _) hd (J _) rK j ho1.src (Qk O c) (fun b q=>Qn (hF b q) c) (by simpa using N) (by simpa using q) (fun l w' A f hnb=>?_);have g3:wc.grownBy w' v.ownBlock:=⟨f.os.trans a.os,f.tape.trans a.tape,f.output.trans a.output,Qk c f.size,fun k r C=>(f.block k (Qn r c) C).trans (a.block k r (fun h=>by cases h))⟩;exact WL.nil (bf (hS _ g3) (h l w' _ A g3 (fun g E=>(hnb g E).imp id (fun h=>Qk c h))))
end
section
variable {P:Program}{Q:Exit->Act->World->Prop}{n:Nat}{σ:Sg}{w wc:World}{L:List Oper}{S:World->Prop}{rest:List (Nat×Bool)}{i j d d':Nat}{ty:TypeId}{pos:String}{af:Array Edge}{g:Option (Nat×Bool)}{ty':TypeId}{pos':String}{af':Array Edge}{g':Option (Nat×Bool)}{t e:TypeId}{x ix y:Operand}
variable {α:Type}[Rep α]{F:Nat->Prop}
theorem cj{ao:Option Addr}{cap:Nat}{xs:List α}{k:Nat}{kd:IntKind}(f:∀m,S m->Ext w m)
  (ho1:Cm L i=some ⟨some d,.indexAddr t x ix,ty,pos,af,g⟩) (ho2:Cm L j=some ⟨some d',.load e (.tmp d),ty',pos',af',g'⟩)
  (r:gd L σ ⟨some d,.indexAddr t x ix,ty,pos,af,g⟩=some true) (hd:Nat.ble (d+1) n=true) (hd':Nat.ble (d'+1) n=true)
  (q:ev σ x=some (.slice ao xs.length cap)) (hi:ev σ ix=some (.int kd (k:Int))) [A:IsS P t e] [z:IsT P e α] (hF:∀b,F b->b<w.heap.size) (a:Sl w F ao cap xs) (h1:k<xs.length)
  (c:∀p,gd L ((d,.pointer p)::σ) ⟨some d',.load e (.tmp d),ty',pos',af',g'⟩=some true)
  (h:∀u p,Rd w F u xs[k]->HL P L S Q rest n ((d',u)::(d,.pointer p)::σ) wc):
  HL P L S Q ((i,true)::(j,true)::rest) n σ wc:=by
 obtain⟨b,off,rfl,l,v,s,o⟩:=a.el k h1;refine cm (α:=α) ho1 r hd q hi SM SM ?_;refine HL.load (α:=α) f ho2 (c _) hd' rK (hF b l) hF (by simpa using s) o ?_;exact h _ _ ⟨v,rfl,o⟩
theorem cg{ao:Option Addr}{cap:Nat}{xs:List α}{k:Nat}{kd:IntKind}(A:∀s,S s->∀b,F b->s.heap[b]?=w.heap[b]?)
  (ho1:Cm L i=some ⟨some d,.indexAddr t x ix,ty,pos,af,g⟩) (ho2:Cm L j=some ⟨some d',.load e (.tmp d),ty',pos',af',g'⟩)
  (D:gd L σ ⟨some d,.indexAddr t x ix,ty,pos,af,g⟩=some true) (hd:Nat.ble (d+1) n=true) (hd':Nat.ble (d'+1) n=true)
  (C:ev σ x=some (.slice ao xs.length cap)) (hi:ev σ ix=some (.int kd (k:Int))) [I:IsS P t e] [H:IsT P e α] (l:Sl w F ao cap xs) (h1:k<xs.length)
  (o:∀p,gd L ((d,.pointer p)::σ) ⟨some d',.load e (.tmp d),ty',pos',af',g'⟩=some true)
  (h:∀u p,Rd w F u xs[k]->HL P L S Q rest n ((d',u)::(d,.pointer p)::σ) wc):
  HL P L S Q ((i,true)::(j,true)::rest) n σ wc:=by
 obtain⟨b,off,rfl,r,f,E,z⟩:=l.el k h1;refine cm (α:=α) ho1 D hd C hi SM SM ?_;refine HL.run ho2 (o _) hd' (v:=Lb α f) (fun a G w' c=>?_) (h _ _ ⟨f,rfl,z⟩);have q:Cells w' b (off+k*sz α) f:=E.mono (A w' c b r);have m:rd w' F f xs[k]:=Rep.mono z (A w' c) fun _ h=>h
 have B:=G.ev (x:=.tmp d) rK;simp only[Nt]at B
 simp[execOp,B,Instr.loadAt,Instr.sureAddr,Ge q m]
theorem cG{v u:Value}{B:Nat}{xs:List α}{yv:α}{k:Nat}{kd:IntKind}
  (ho1:Cm L i=some ⟨some d,.indexAddr t x ix,ty,pos,af,g⟩) (ho2:Cm L j=some ⟨none,.store e (.tmp d) y,ty',pos',af',g'⟩)
  (D:gd L σ ⟨some d,.indexAddr t x ix,ty,pos,af,g⟩=some true) (hd:Nat.ble (d+1) n=true)
  (s:ev σ x=some v) (hi:ev σ ix=some (.int kd (k:Int))) [H:IsS P t e] [G:IsT P e α] (c:Own wc B e F v xs) (h1:k<xs.length)
  (m:∀p,gd L ((d,.pointer p)::σ) ⟨none,.store e (.tmp d) y,ty',pos',af',g'⟩=some true) (r:∀p,ev ((d,.pointer p)::σ) y=some u) (z:Rd wc F u yv)
  (hS:∀w',wc.grownBy w' v.ownBlock->S w')
  (h:∀w' p,Own w' B e F v (xs.set k yv)->wc.grownBy w' v.ownBlock->HL P L S Q rest n ((d,.pointer p)::σ) w'):
  HL P L S Q ((i,true)::(j,false)::rest) n σ wc:=by
 rcases c with⟨rfl,rfl⟩|⟨b,off,cap,cur,rfl,C⟩
 ·simp at h1
 ·refine cm (α:=α) ho1 D hd s hi SM SM ?_
  obtain⟨w',A,l,f⟩:=Gq (P:=P) (v:=u) (i:=k) C h1 z;refine cD ho2 ?_;refine fY (m _) (fun a o=>?_) (WL.nil (bf (hS w' f) (h w' _ l f)));have q:=o.ev (x:=.tmp d) rK;have E:=o.ev (r _);simp only[Nt]at q
  simp[execOp,q,E,Instr.storeAt,Instr.sureAddr,A]
theorem cf{ao:Option Addr}{len cap:Nat}{c:Int}{kd:IntKind}(k:Nat)(b:c=(k:Int))(p:Cm L i=some ⟨some d,.slice t x none (some y) none,ty,pos,af,g⟩)(r:gd L σ ⟨some d,.slice t x none (some y) none,ty,pos,af,g⟩=some true)(hd:Nat.ble (d+1) n=true)
  (o:ev σ x=some (.slice ao len cap)) (m:ev σ y=some (.int kd c)) [u:IsS P t e] [s:IsT P e α] (q:k<=cap)
  (h:HL P L S Q rest n ((d,.slice ao k cap)::σ) wc):HL P L S Q ((i,true)::rest) n σ wc:=by
 subst b;refine HL.run p r hd (fun a f l _=>?_) h;have:=F5 (P:=P) (t:=t) (e:=e) (α:=α) (ao:=ao) (len:=len) (cap:=cap) (lo:=0) (hi:=k) l SM q none (some (.int kd (k:Int))) (.inl ⟨rfl,rfl⟩) (.inr ⟨kd,rfl⟩);simp[execOp,f.ev o,f.ev m,this,My]
end
end Go.Proofs.YtfpjecjadlgdcaaGreatDoor
