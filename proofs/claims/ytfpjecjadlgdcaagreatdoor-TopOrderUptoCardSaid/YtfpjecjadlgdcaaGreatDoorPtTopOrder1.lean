import Derived.ProofKit
import Derived.Laws.Cover3
import Derived.OrdersHeld
import Derived.Test.YtfpjecjadlgdcaaGreatDoorProg
import Derived.Maps.Keyed
import Derived.Shelf.Slices.Reverse
import Derived.Shelf.Sort.Plain
import Derived.Shelf.Slices.In.SortNone
import Derived.Shelf.Strings.Split
import Derived.Shelf.Strings.Cut
import Derived.Shelf.Strings.OnBuilder
import Derived.Shelf.Vars
import Derived.Stop.IfaceNil
import Derived.Test.YtfpjecjadlgdcaaGreatDoorRows
import Derived.OpenShut
import Derived.Lay
import Derived.Deep.DeepHandedRow
import Derived.LaidSub
import Derived.SevenTiedAt
set_option linter.unusedVariables false
set_option linter.unusedSimpArgs false
set_option linter.defProp false
namespace Go.Proofs.YtfpjecjadlgdcaaGreatDoor
abbrev Wr(i:Nat):Nat×Bool:=(i,true)
abbrev Ws(i:Nat):Nat×Bool:=(i,false)
abbrev Ub(n:Int):Value:=.int .i64 n
abbrev Uc(b:Nat):Value:=.pointer (some ⟨b,0,none⟩)
noncomputable abbrev Vy:=Tryz.prog
inductive Hid_(q:Prop):Prop|mk(h:q)
theorem Hid_.o{q:Prop}:Hid_ q->q|.mk h=>h
def Nt:=@Go.Addr.add_zero'
def Nu:=@Go.Addr.mk.injEq
def Nv:=@Array.ext'
def Nx:=@Array.foldl_toList
def Ny:=@Array.getD_eq_getD_getElem?
def Nz:=@Array.getElem?_append_left
def NA:=@Array.getElem?_eq_none
def NB:=@Array.getElem?_eq_some_iff
def NC:=@Array.getElem?_mapIdx
def ND:=@Array.getElem?_modify
def NE:=@Array.getElem?_replicate
def NF:=@Array.getElem?_setIfInBounds
def NG:=@Array.getElem?_setIfInBounds_ne
def NH:=@Array.getElem?_toList
def NI:=@Array.length_toList
def NJ:=@Array.setIfInBounds_comm
def NK:=@Array.size_modify
def NL:=@Array.toList_zipIdx
def NM:=@Go.RowKit.Below.grown
def NO:=@Go.RowKit.Below.heap_alloc
def NP:=@Go.RowKit.Below.refl
def NQ:=@BitVec.ofInt_natCast
def NR:=@BitVec.toNat_ofNat
def NS:=@Bool.and_eq_true
def NT:=@Bool.eq_false_iff
def NU:=@Bool.eq_iff_iff
def NV:=@Bool.false_and
def NW:=@Bool.false_eq_true
def NX:=@Bool.false_or
def NY:=@Bool.not_eq_true
def NZ:=@Bool.not_eq_true'
def N0:=@Bool.not_false
def N4:=@Bool.not_true
def N5:=@Bool.or_eq_false_iff
def N6:=@Bool.or_eq_true
def N7:=@Bool.or_false
def N8:=@Bool.or_true
def N9:=@Bool.true_and
def N_:=@Bool.true_or
def Oa:=@Go.Calls.mono
def Ob:=@Classical.byContradiction
def Oc:=@Classical.choose_spec
def Od:=@Classical.not_and_iff_not_or_not
def Oe:=@Classical.not_forall
def Of:=@Classical.not_not
def Og:=@Iff.rfl
def Oh:=@Go.Input.okWide_of_okWideB
def Oi:=@Int.add_mul_ediv_right
def Oj:=@Int.ediv_ediv_of_nonneg
def Ok:=@Int.ediv_eq_zero_of_lt
def Ol:=@Int.ediv_one
def Om:=@Int.eq_ofNat_of_zero_le
def On:=@Int.le_refl
def Oo:=@Int.lt_irrefl
def Oq:=@Int.mul_assoc
def Or:=@Int.mul_comm
def Ot:=@Int.not_le
def Ou:=@Int.not_lt
def Ov:=@Int.one_mul
def Ow:=@Int.pow_add
def Ox:=@Int.pow_succ
def Oy:=@Int.toNat_natCast
def Oz:=@Int.toNat_of_nonneg
def OA:=@List.all_eq_true
def OC:=@List.any_append
def OD:=@List.any_eq_false
def OE:=@List.any_eq_true
def OF:=@List.any_reverse
def OG:=@List.append_assoc
def OH:=@List.append_nil
def OI:=@List.cons.inj
def OJ:=@List.cons.injEq
def OK:=@List.cons_append
def OL:=@List.contains_eq_any_beq
def OM:=@List.contains_iff_mem
def ON:=@List.countP_append
def OO:=@List.countP_cons
def OP:=@List.countP_le_length
def OQ:=@List.countP_pos_iff
def OR:=@List.countP_replicate
def OS:=@List.countP_set
def OT:=@List.drop_append
def OU:=@List.drop_append_of_le_length
def OW:=@List.drop_drop
def OX:=@List.drop_eq_getElem_cons
def OY:=@List.drop_eq_nil_of_le
def OZ:=@List.drop_length
def O0:=@List.drop_succ_cons
def O1:=@List.drop_zero
def O2:=@List.eq_nil_of_length_eq_zero
def O3:=@List.ext_getElem
def O4:=@List.ext_getElem?
def O5:=@List.filter_append
def O6:=@List.filter_congr
def O7:=@List.filter_cons
def O8:=@List.filter_cons_of_neg
def O9:=@List.filter_cons_of_pos
def O_:=@List.filter_nil
def Pa:=@List.filter_reverse
def Pb:=@List.findIdx?_eq_none_iff
def Pc:=@List.findIdx?_eq_some_iff_getElem
def Pd:=@List.flatMap_append
def Pe:=@List.flatMap_cons
def Pf:=@List.flatten_cons
def Pg:=@List.foldl_append
def Ph:=@List.foldl_cons
def Pi:=@List.foldr_cons
def Pj:=@List.getD_cons_succ
def Pk:=@List.getD_cons_zero
def Pl:=@List.getD_eq_getElem?_getD
def Pm:=@List.getElem?_append_left
def Pn:=@List.getElem?_append_right
def Po:=@List.getElem?_cons_succ
def Pp:=@List.getElem?_drop
def Pq:=@List.getElem?_eq_getElem
def Pr:=@List.getElem?_eq_none
def Pt:=@List.getElem?_eq_some_iff
def Pu:=@List.getElem?_map
def Pv:=@List.getElem?_range
def Pw:=@List.getElem?_replicate
def Px:=@List.getElem?_reverse
def Py:=@List.getElem?_set
def Pz:=@List.getElem?_take
def PA:=@List.getElem?_take_of_lt
def PB:=@List.getElem_append_left
def PC:=@List.getElem_append_right
def PD:=@List.getElem_cons_succ
def PE:=@List.getElem_cons_zero
def PH:=@List.getElem_drop
def PI:=@List.getElem_idxOf
def PJ:=@List.getElem_inj
def PK:=@List.getElem_map
def PL:=@List.getElem_mem
def PM:=@List.getElem_range
def PN:=@List.getElem_replicate
def PO:=@List.getElem_reverse
def PP:=@List.getElem_set
def PQ:=@List.getElem_set_self
def PS:=@List.getElem_take
def PT:=@List.idxOf_append
def PU:=@List.idxOf_lt_length_iff
def PV:=@List.idxOf_lt_length_of_mem
def PW:=@List.isEmpty_iff
def PX:=@List.length_append
def PY:=@List.length_cons
def PZ:=@List.length_drop
def P0:=@List.length_eq_one_iff
def P1:=@List.length_eq_zero_iff
def P2:=@List.length_erase_of_mem
def P3:=@List.length_filter_le
def P4:=@List.length_map
def P5:=@List.length_nil
def P6:=@List.length_pos_iff
def P7:=@List.length_range
def P8:=@List.length_replicate
def P9:=@List.length_reverse
def P_:=@List.length_set
def Qa:=@List.length_singleton
def Qb:=@List.length_take
def Qc:=@List.mapM_cons
def Qd:=@List.mapM_nil
def Qe:=@List.map_append
def Qf:=@List.map_congr_left
def Qg:=@List.map_cons
def Qh:=@List.map_map
def Qi:=@List.map_nil
def Qj:=@List.map_reverse
def Qk:=@List.map_toArray
def Ql:=@List.mem_append
def Qm:=@List.mem_append_left
def Qn:=@List.mem_append_right
def Qo:=@List.mem_cons
def Qp:=@List.mem_cons_of_mem
def Qq:=@List.mem_cons_self
def Qr:=@List.mem_erase_of_ne
def Qs:=@List.mem_filter
def Qt:=@List.mem_flatMap
def Qu:=@List.mem_iff_getElem
def Qv:=@List.mem_map
def Qw:=@List.mem_map_of_mem
def Qx:=@List.mem_of_getElem?
def Qy:=@List.mem_of_mem_drop
def Qz:=@List.mem_of_mem_take
def QA:=@List.mem_range
def QB:=@List.mem_reverse
def QC:=@List.mem_singleton
def QD:=@List.ne_nil_of_length_pos
def QE:=@List.nil_append
def QF:=@List.nodup_append
def QG:=@List.nodup_cons
def QH:=@List.nodup_range
def QI:=@List.not_mem_nil
def QJ:=@List.pairwise_append
def QK:=@List.pairwise_cons
def QM:=@List.pairwise_flatMap
def QN:=@List.pairwise_iff_forall_sublist
def QO:=@List.pairwise_map
def QP:=@List.pairwise_singleton
def QQ:=@List.range_succ
def QR:=@List.replicate_succ
def QS:=@List.replicate_succ'
def QT:=@List.reverse_reverse
def QU:=@List.set_eq_take_append_cons_drop
def QV:=@List.set_getElem_self
def QW:=@List.size_toArray
def QX:=@List.sum_cons
def QY:=@List.take_add_one
def QZ:=@List.take_append_getElem
def Q0:=@List.take_length
def Q1:=@List.take_of_length_le
def Q2:=@List.take_set_of_le
def Q3:=@List.take_succ_cons
def Q4:=@List.take_succ_eq_append_getElem
def Q5:=@List.take_zero
def Q6:=@Go.MapKept.run_getObj_map
def Q7:=@Go.MapKept.run_setObj_map
def Q8:=@Nat.add_comm
def Q9:=@Nat.add_mul
def Q_:=@Nat.add_mul_mod_self_right
def Ra:=@Nat.add_right_comm
def Rb:=@Nat.add_sub_cancel_left
def Re:=@Nat.add_zero
def Rf:=@Nat.beq_refl
def Rg:=@Nat.div_eq_of_lt
def Rh:=@Nat.div_lt_iff_lt_mul
def Ri:=@Nat.eq_of_beq_eq_true
def Rj:=@Nat.eq_of_testBit_eq
def Rk:=@Nat.eq_zero_or_pos
def Rl:=@Nat.exists_eq_add_of_le
def Rm:=@Nat.le_of_ble_eq_true
def Rn:=@Nat.le_of_eq
def Ro:=@Nat.le_of_lt
def Rp:=@Nat.le_of_not_lt
def Rq:=@Nat.le_refl
def Rr:=@Nat.le_trans
def Rs:=@Nat.lt_irrefl
def Ru:=@Nat.lt_of_le_of_lt
def Rv:=@Nat.lt_of_lt_of_le
def Rw:=@Nat.lt_or_ge
def Rx:=@Nat.lt_trichotomy
def Ry:=@Nat.min_eq_left
def Rz:=@Nat.mod_eq_of_lt
def RA:=@Nat.mod_lt
def RB:=@Nat.mul_le_mul
def RC:=@Nat.mul_le_mul_left
def RD:=@Nat.mul_le_mul_right
def RE:=@Nat.mul_one
def RF:=@Nat.not_lt_zero
def RG:=@Nat.one_le_two_pow
def RH:=@Nat.one_mul
def RI:=@Nat.one_shiftLeft
def RJ:=@Nat.or_lt_two_pow
def RK:=@Nat.pow_le_pow_right
def RM:=@Nat.pow_lt_pow_right
def RN:=@Nat.shiftRight_eq_div_pow
def RO:=@Nat.shiftRight_le
def RP:=@Nat.sub_self
def RQ:=@Nat.succ_le_of_lt
def RR:=@Nat.testBit_and
def RS:=@Nat.testBit_shiftRight
def RT:=@Nat.zero_add
def RU:=@Nat.zero_le
def RV:=@Nat.zero_testBit
def RW:=@Ne.symm
def RX:=@Go.Oper.wp_mono
def RY:=@Option.bind_eq_bind
def RZ:=@Option.bind_eq_some_iff
def R0:=@Option.bind_some
def R1:=@Option.getD_some
def R2:=@Option.map_eq_some_iff
def R3:=@Option.pure_def
def R4:=@Option.some.inj
def R5:=@Option.some.injEq
def R6:=@Prod.mk.inj
def R7:=@Prod.mk.injEq
def R8:=@Go.Program.keyLits.eq_def
def R9:=@Go.Region.free_spec
def R_:=@Go.Region.noSelect_spec
def Sa:=@Go.Result.andThen_ok
def Sb:=@Go.Sem.run_bind
def Sc:=@Go.Sem.run_pure
def Sd:=@Go.Proofs.Tryz.func116
def Se:=@Go.Proofs.Tryz.func4
def Sf:=@Go.Proofs.Tryz.isAgg3
def Sh:=@Go.Proofs.Tryz.isAgg4
def Si:=@Go.Proofs.Tryz.ntmps116
def Sj:=@Go.Proofs.Tryz.sizeOf275
def Sk:=@Go.Proofs.Tryz.sizeOf3
def Sm:=@Go.Proofs.Tryz.sizeOf315
def Sn:=@Go.Proofs.Tryz.sizeOf4
def So:=@Go.Proofs.Tryz.underlying22
def Sp:=@Go.Proofs.Tryz.underlying226
def Sq:=@Go.Proofs.Tryz.underlying23
def St:=@Go.Proofs.Tryz.underlying233
def Su:=@Go.Proofs.Tryz.underlying235
def Sv:=@Go.Proofs.Tryz.underlying27
def Sx:=@Go.Proofs.Tryz.underlying275
def Sy:=@Go.Proofs.Tryz.underlying29
def Sz:=@Go.Proofs.Tryz.underlying3
def SA:=@Go.Proofs.Tryz.underlying30
def SB:=@Go.Proofs.Tryz.underlying315
def SD:=@Go.Proofs.Tryz.underlying33
def SE:=@Go.Proofs.Tryz.underlying37
def SF:=@Go.Proofs.Tryz.underlying39
def SH:=@Go.Proofs.Tryz.underlying4
def SI:=@Go.Proofs.Tryz.underlying5
def SJ:=@Go.Proofs.Tryz.underlying50
def SK:=@Go.Proofs.Tryz.underlying66
def SL:=@Go.Proofs.Tryz.underlying75
def SM:=@Go.Proofs.Tryz.underlying80
def SN:=@Go.Proofs.Tryz.underlying9
def SP:=@Go.Proofs.Tryz.zeroValue275
def SQ:=@Go.Proofs.Tryz.zeroValue3
def SR:=@Go.Proofs.Tryz.zeroValue315
def SS:=@Go.Proofs.Tryz.zeroValue4
def ST:=@Go.Proofs.Tryz.zeroValue5
def SU:=@Go.Proofs.Tryz.zeroValue9
def SV:=@Go.Value.slice.inj
def SW:=@Go.WideShapes.add_plain
def SX:=@Go.World.block_lt_of_cell?
def SY:=@and_assoc
def SZ:=@and_congr
def S0:=@and_congr_right
def S2:=@beq_eq_false_iff_ne
def S3:=@beq_iff_eq
def S4:=@beq_self_eq_true
def S5:=@Go.bits_and_u64_nat
def S6:=@bne_iff_ne
def S7:=@Go.bodyPost_ret
def S8:=@Go.cell_of_row
def S9:=@congrArg
def S_:=@decide_eq_decide
def Ta:=@decide_eq_false
def Tb:=@decide_eq_false_iff_not
def Tc:=@decide_eq_true
def Td:=@decide_eq_true_eq
def Te:=@decide_eq_true_iff
def Tg:=@decide_false
def Th:=@decide_true
def Ti:=@dif_pos
def Tj:=@gt_iff_lt
def Tk:=@Go.heap_alloc_new
def Tl:=@if_false
def Tm:=@if_neg
def Tn:=@if_pos
def To:=@if_true
def Tp:=@Go.mem_ready
def Tq:=@not_congr
def Tr:=@not_or
def Tt:=@of_decide_eq_false
def Tu:=@of_decide_eq_true
def Tv:=@or_congr
def Tw:=@Go.ready_mono
def Tx:=@Go.run_loadCells_list
def Ty:=@Go.run_program
def Tz:=@Go.run_storeCells_at
def TA:=@Go.run_underlying
def TB:=@Go.setRow_heap
def TC:=@Go.setRow_other
def TD:=@Go.wpAnyH_all
def TE:=@Go.wpList_step
def TF:=@Go.wpOp_mono
def TG:=@Go.wpQuiet_step
def TH:=@Go.wp_mono
def TI:=@Go.wp_region_any
theorem TV{p:Prop}(s:p:=by exact fun _=>rfl):p:=s
theorem TW{p:Prop}(s:p:=by exact fun v γ γ' w w' h e _=>h.ext e):p:=s
theorem TX{p:Prop}(s:p:=by exact fun g hg=>by cases hg;exact Rq _):p:=s
theorem TY{p:Prop}(s:p:=by exact fun _ h=>h.elim):p:=s
theorem TZ{p:Prop}(s:p:=by exact fun g hg=>by cases hg;omega):p:=s
theorem T0{p:Prop}(s:p:=by exact fun _ h=>h):p:=s
theorem T1{p:Prop}(s:p:=by exact fun _ _=>⟨none,0,rfl,by simp,by simp[maxLen],fun _=>rfl,fun i hi=>absurd hi (by simp)⟩):p:=s
theorem T2{p:Prop}(s:p:=by exact fun k h=>by cases h):p:=s
theorem T3{p:Prop}(s:p:=by exact fun e=>by have:=R4 e;omega):p:=s
theorem T4{p:Prop}(s:p:=by exact fun g hg=>by cases hg;exact .inl rfl):p:=s
theorem T5{p:Prop}(s:p:=by exact fun _ _=>rfl):p:=s
theorem T6{p:Prop}(s:p:=by exact DH rfl):p:=s
theorem T7{p:Prop}(s:p:=by exact Rd.mkInt _ _ _):p:=s
theorem T8{p:Prop}(s:p:=by exact Rq _):p:=s
theorem T9{p:Prop}(s:p:=by exact NP _ _):p:=s
theorem T_{p:Prop}(s:p:=by exact Ext.refl _):p:=s
theorem Ua{p:Prop}(s:p:=by exact WL.nil (a7 rfl (Ext.refl _) rfl)):p:=s
theorem TJ{p:Prop}(s:p:=by repeat (first|exact trivial|refine⟨rfl,?_⟩)):p:=s
theorem TK{p:Prop}(s:p:=by omega):p:=s
theorem TL{p:Prop}(s:p:=by kernel_rfl):p:=s
theorem TN{p:Prop}(s:p:=by decide):p:=s
theorem TO{p:Prop}(s:p:=by simp):p:=s
theorem TP{p:Prop}(s:p:=by dsimp only;omega):p:=s
theorem TQ{p:Prop}(s:p:=by unfold maxLen;omega):p:=s
theorem TR{p:Prop}(s:p:=by simp;omega):p:=s
theorem TS{p:Prop}(s:p:=by simp only[PY,P5];omega):p:=s
theorem TT{p:Prop}(s:p:=by simp only[PX,PY,P5];omega):p:=s
theorem TU{p:Prop}(s:p:=by rw[P4];omega):p:=s
theorem Ud{p q:Prop}(k:q)(s:Hid_ q->p:=by intro k;(repeat (first|(apply fU;rfl;rfl;rfl)|(apply WL.nil)|(apply bA)|(apply CW.seq)|(apply CW.region)|(apply CW.ret)|(apply bB)|(apply EX.inR)));exact k.o):p:=s ⟨k⟩
theorem Ue{p q:Prop}(k:q)(s:Hid_ q->p:=by intro k;(repeat (first|(apply fU;rfl;rfl;rfl)|(apply WL.nil)|(apply WL.pass;rfl;rfl)));exact k.o):p:=s ⟨k⟩
theorem Uf{p q:Prop}(k:q)(s:Hid_ q->p:=by intro k;(repeat (first|(apply fU;rfl;rfl;rfl)|(apply WL.nil)|(apply bA)|(apply CW.ret)));exact k.o):p:=s ⟨k⟩
theorem Ug{p q:Prop}(k:q)(s:Hid_ q->p:=by intro k;(repeat (first|(apply fU;rfl;rfl;rfl)|(apply WL.nil)|(apply bA)));exact k.o):p:=s ⟨k⟩
theorem Uh{p q:Prop}(k:q)(s:Hid_ q->p:=by intro k;(repeat (first|(apply WL.nil)|(apply bA)|(apply CW.ret)));exact k.o):p:=s ⟨k⟩
theorem Ui{p q:Prop}(k:q)(s:Hid_ q->p:=by intro k;(repeat (first|(apply WL.add;rfl;rfl;rfl;rfl;omega;omega)|(apply fU;rfl;rfl;rfl)|(apply WL.nil)|(apply bA)|(apply CW.region)|(apply EX.inN)));exact k.o):p:=s ⟨k⟩
theorem Uj{p q:Prop}(k:q)(s:Hid_ q->p:=by intro k;(repeat (first|(apply WL.add;rfl;rfl;rfl;rfl;omega;omega)|(apply fU;rfl;rfl;rfl)|(apply WL.nil)|(apply bA)|(apply CW.region)|(apply EX.inN)|(apply CW.exit)|(apply bC)|(apply aY)));exact k.o):p:=s ⟨k⟩
theorem Uk{p q:Prop}(k:q)(s:Hid_ q->p:=by intro k;(repeat (first|(apply bA)|(apply CW.ret)|(apply bB)|(apply EX.inR)));exact k.o):p:=s ⟨k⟩
theorem Ul{p q:Prop}(k:q)(s:Hid_ q->p:=by intro k;(repeat (first|(apply fU;rfl;rfl;rfl)|(apply WL.nil)|(apply bA)|(apply CW.seq)|(apply CW.region)|(apply ax;rfl)));exact k.o):p:=s ⟨k⟩
theorem Um{p q:Prop}(k:q)(s:Hid_ q->p:=by intro k;(repeat (first|(apply fU;rfl;rfl;rfl)|(apply WL.nil)|(apply bA)|(apply CW.seq)|(apply CW.region)|(apply WL.makeFunc;rfl;rfl;rfl;rfl)));exact k.o):p:=s ⟨k⟩
theorem Un{p q:Prop}(k:q)(s:Hid_ q->p:=by intro k;(repeat (first|(apply EX.inN)|(apply CW.exit)|(apply bC)|(apply aY)));exact k.o):p:=s ⟨k⟩
theorem Uo{p q:Prop}(k:q)(s:Hid_ q->p:=by intro k;(repeat (first|(apply bA)|(apply CW.seq)|(apply CW.region)|(apply fw;rfl;rfl;rfl;assumption;rfl)|(apply CW.skip)));exact k.o):p:=s ⟨k⟩
theorem Up{p q:Prop}(k:q)(s:Hid_ q->p:=by intro k;(repeat (first|(apply fU;rfl;rfl;rfl)|(apply WL.nil)|(apply bA)|(apply CW.seq)|(apply CW.region)|(apply CW.ret)|(apply bB)));exact k.o):p:=s ⟨k⟩
theorem Uq{p q:Prop}(k:q)(s:Hid_ q->p:=by intro k;(repeat (first|(apply EX.inN)|(apply CW.skip)));exact k.o):p:=s ⟨k⟩
theorem Ur{p q:Prop}(k:q)(s:Hid_ q->p:=by intro k;(repeat (first|(apply fU;rfl;rfl;rfl)|(apply WL.nil)|(apply EX.inN)));exact k.o):p:=s ⟨k⟩
theorem Us{p q:Prop}(k:q)(s:Hid_ q->p:=by intro k;(repeat (first|(apply fU;rfl;rfl;rfl)|(apply WL.nil)|(apply bA)|(apply CW.seq)|(apply CW.region)|(apply WL.pass;rfl;rfl)|(apply az;rfl)|(apply CW.ret)|(apply bB)));exact k.o):p:=s ⟨k⟩
theorem Ut{p q:Prop}(k:q)(s:Hid_ q->p:=by intro k;(repeat (first|(apply fU;rfl;rfl;rfl)|(apply WL.nil)|(apply bA)|(apply CW.seq)|(apply CW.region)|(apply fB;rfl;rfl;rfl)|(apply CW.block)));exact k.o):p:=s ⟨k⟩
theorem Uu{p q:Prop}(k:q)(s:Hid_ q->p:=by intro k;(repeat (first|(apply fU;rfl;rfl;rfl)|(apply WL.nil)|(apply bA)|(apply fB;rfl;rfl;rfl)|(apply fj;rfl;rfl;rfl)|(apply ft;rfl;rfl;rfl;assumption;rfl)));exact k.o):p:=s ⟨k⟩
theorem Uv{p q:Prop}(k:q)(s:Hid_ q->p:=by intro k;(repeat (first|(apply fU;rfl;rfl;rfl)|(apply WL.nil)|(apply bA)|(apply CW.seq)|(apply CW.region)|(apply fB;rfl;rfl;rfl)|(apply fw;rfl;rfl;rfl;assumption;rfl)|(apply CW.block)|(apply ax;rfl)|(apply CW.skip)));exact k.o):p:=s ⟨k⟩
theorem Uw{p q:Prop}(k:q)(s:Hid_ q->p:=by intro k;(repeat (first|(apply fU;rfl;rfl;rfl)|(apply WL.nil)|(apply bA)|(apply CW.seq)|(apply CW.region)|(apply EX.inN)|(apply CW.ret)|(apply CW.skip)));exact k.o):p:=s ⟨k⟩
theorem Ux{p q:Prop}(k:q)(s:Hid_ q->p:=by intro k;(repeat (first|(apply fU;rfl;rfl;rfl)|(apply WL.nil)|(apply bA)|(apply CW.seq)|(apply CW.region)|(apply CW.block)|(apply CW.skip)));exact k.o):p:=s ⟨k⟩
theorem Uy{p q:Prop}(k:q)(s:Hid_ q->p:=by intro k;(repeat (first|(apply fU;rfl;rfl;rfl)|(apply WL.nil)|(apply bA)|(apply CW.seq)|(apply CW.region)|(apply fj;rfl;rfl;rfl)|(apply ft;rfl;rfl;rfl;assumption;rfl)));exact k.o):p:=s ⟨k⟩
theorem Uz{p q:Prop}(k:q)(s:Hid_ q->p:=by intro k;(repeat (first|(apply fU;rfl;rfl;rfl)|(apply WL.nil)|(apply bA)|(apply fB;rfl;rfl;rfl)|(apply CW.block)|(apply CW.ret)));exact k.o):p:=s ⟨k⟩
theorem UA{p q:Prop}(k:q)(s:Hid_ q->p:=by intro k;(repeat (first|(apply WL.add;rfl;rfl;rfl;rfl;omega;omega)|(apply fU;rfl;rfl;rfl)|(apply WL.nil)|(apply bA)|(apply CW.seq)|(apply CW.region)|(apply WL.pass;rfl;rfl)|(apply EX.inN)|(apply ax;rfl)|(apply CW.ret)|(apply CW.skip)));exact k.o):p:=s ⟨k⟩
theorem UB{p q:Prop}(k:q)(s:Hid_ q->p:=by intro k;(repeat (first|(apply fU;rfl;rfl;rfl)|(apply bA)|(apply CW.seq)|(apply CW.region)|(apply CW.block)|(apply CW.skip)));exact k.o):p:=s ⟨k⟩
theorem UC{p q:Prop}(k:q)(s:Hid_ q->p:=by intro k;(repeat (first|(apply bA)|(apply CW.seq)|(apply CW.region)|(apply CW.block)|(apply CW.skip)));exact k.o):p:=s ⟨k⟩
theorem UD{p q:Prop}(k:q)(s:Hid_ q->p:=by intro k;(repeat (first|(apply fU;rfl;rfl;rfl)|(apply WL.nil)|(apply bA)|(apply CW.seq)|(apply CW.region)|(apply fw;rfl;rfl;rfl;assumption;rfl)));exact k.o):p:=s ⟨k⟩
theorem UE{p q:Prop}(k:q)(s:Hid_ q->p:=by intro k;(repeat (first|(apply fU;rfl;rfl;rfl)|(apply WL.nil)|(apply bA)|(apply CW.seq)|(apply CW.region)|(apply fB;rfl;rfl;rfl)|(apply fj;rfl;rfl;rfl)|(apply fQ;rfl;rfl;rfl)|(apply ft;rfl;rfl;rfl;assumption;rfl)|(apply CW.block)));exact k.o):p:=s ⟨k⟩
theorem UF{p q:Prop}(k:q)(s:Hid_ q->p:=by intro k;(repeat (first|(apply fU;rfl;rfl;rfl)|(apply WL.nil)|(apply bA)|(apply CW.seq)|(apply CW.region)|(apply CW.exit)|(apply bC)|(apply aY)|(apply CW.ret)));exact k.o):p:=s ⟨k⟩
theorem UG{p q:Prop}(k:q)(s:Hid_ q->p:=by intro k;(repeat (first|(apply WL.nil)|(apply bA)));exact k.o):p:=s ⟨k⟩
theorem UH{p q:Prop}(k:q)(s:Hid_ q->p:=by intro k;(repeat (first|(apply az;rfl)|(apply CW.skip)));exact k.o):p:=s ⟨k⟩
theorem UI{p q:Prop}(k:q)(s:Hid_ q->p:=by intro k;(repeat (first|(apply WL.add;rfl;rfl;rfl;rfl;omega;omega)|(apply fU;rfl;rfl;rfl)|(apply WL.nil)|(apply bA)|(apply CW.seq)|(apply CW.region)|(apply WL.pass;rfl;rfl)|(apply fj;rfl;rfl;rfl)|(apply ft;rfl;rfl;rfl;assumption;rfl)|(apply fw;rfl;rfl;rfl;assumption;rfl)|(apply az;rfl)|(apply CW.skip)));exact k.o):p:=s ⟨k⟩
theorem UJ{p q:Prop}(k:q)(s:Hid_ q->p:=by intro k;(repeat (first|(apply fU;rfl;rfl;rfl)|(apply WL.nil)|(apply bA)|(apply CW.seq)|(apply CW.region)|(apply EX.inN)|(apply az;rfl)|(apply ax;rfl)|(apply CW.exit)|(apply bC)|(apply aY)|(apply aZ;rfl)|(apply CW.ret)|(apply CW.skip)));exact k.o):p:=s ⟨k⟩
theorem UK{p q:Prop}(k:q)(s:Hid_ q->p:=by intro k;(repeat (first|(apply fU;rfl;rfl;rfl)|(apply WL.nil)|(apply bA)|(apply WL.pass;rfl;rfl)|(apply CW.ret)|(apply bB)|(apply EX.inR)));exact k.o):p:=s ⟨k⟩
theorem UL{p q:Prop}(k:q)(s:Hid_ q->p:=by intro k;(repeat (first|(apply WL.add;rfl;rfl;rfl;rfl;omega;omega)|(apply ga;rfl;rfl;rfl;rfl;omega;omega)|(apply fU;rfl;rfl;rfl)|(apply WL.nil)|(apply bA)|(apply CW.seq)|(apply CW.region)|(apply WL.pass;rfl;rfl)|(apply fj;rfl;rfl;rfl)|(apply fQ;rfl;rfl;rfl)|(apply ft;rfl;rfl;rfl;assumption;rfl)|(apply EX.inN)|(apply az;rfl)|(apply CW.exit)|(apply bC)|(apply aY)|(apply aZ;rfl)));exact k.o):p:=s ⟨k⟩
theorem UM{p q:Prop}(k:q)(s:Hid_ q->p:=by intro k;(repeat (first|(apply fU;rfl;rfl;rfl)|(apply WL.nil)|(apply bA)|(apply CW.seq)|(apply CW.region)|(apply fB;rfl;rfl;rfl)|(apply fj;rfl;rfl;rfl)|(apply fQ;rfl;rfl;rfl)|(apply ft;rfl;rfl;rfl;assumption;rfl)|(apply CW.block)|(apply EX.inN)|(apply ax;rfl)|(apply CW.skip)));exact k.o):p:=s ⟨k⟩
theorem UN{p q:Prop}(k:q)(s:Hid_ q->p:=by intro k;(repeat (first|(apply WL.add;rfl;rfl;rfl;rfl;omega;omega)|(apply fU;rfl;rfl;rfl)|(apply WL.nil)|(apply bA)|(apply CW.seq)|(apply CW.region)|(apply fj;rfl;rfl;rfl)|(apply fQ;rfl;rfl;rfl)|(apply ft;rfl;rfl;rfl;assumption;rfl)|(apply az;rfl)));exact k.o):p:=s ⟨k⟩
theorem UO{p q:Prop}(k:q)(s:Hid_ q->p:=by intro k;(repeat (first|(apply fU;rfl;rfl;rfl)|(apply WL.nil)|(apply bA)|(apply CW.seq)|(apply CW.region)|(apply WL.makeFunc;rfl;rfl;rfl;rfl)|(apply fj;rfl;rfl;rfl)|(apply ft;rfl;rfl;rfl;assumption;rfl)|(apply CW.block)|(apply az;rfl)|(apply ax;rfl)));exact k.o):p:=s ⟨k⟩
theorem UQ{p q:Prop}(k:q)(s:Hid_ q->p:=by intro k;(repeat (first|(apply bA)|(apply CW.ret)));exact k.o):p:=s ⟨k⟩
theorem UR{p q:Prop}(k:q)(s:Hid_ q->p:=by intro k;(repeat (first|(apply fU;rfl;rfl;rfl)|(apply WL.nil)|(apply bA)|(apply CW.seq)|(apply CW.region)));exact k.o):p:=s ⟨k⟩
theorem US{p q:Prop}(k:q)(s:Hid_ q->p:=by intro k;(repeat (first|(apply WL.add;rfl;rfl;rfl;rfl;omega;omega)|(apply fU;rfl;rfl;rfl)|(apply WL.nil)|(apply bA)|(apply CW.region)|(apply EX.inN)|(apply ax;rfl)|(apply CW.skip)));exact k.o):p:=s ⟨k⟩
theorem UU{p q:Prop}(k:q)(s:Hid_ q->p:=by intro k;(repeat (first|(apply fU;rfl;rfl;rfl)|(apply WL.nil)|(apply bA)|(apply CW.seq)|(apply CW.region)|(apply fB;rfl;rfl;rfl)|(apply fj;rfl;rfl;rfl)|(apply fQ;rfl;rfl;rfl)|(apply ft;rfl;rfl;rfl;assumption;rfl)|(apply CW.block)|(apply CW.exit)|(apply bC)|(apply aY)|(apply CW.ret)|(refine fy rfl rfl rfl (by assumption) ?_)));exact k.o):p:=s ⟨k⟩
theorem UV{p q:Prop}(k:q)(s:Hid_ q->p:=by intro k;(repeat (first|(apply fU;rfl;rfl;rfl)|(apply CW.seq)|(apply CW.region)|(apply fj;rfl;rfl;rfl)|(apply ft;rfl;rfl;rfl;assumption;rfl)|(apply fw;rfl;rfl;rfl;assumption;rfl)));exact k.o):p:=s ⟨k⟩
theorem UW{p q:Prop}(k:q)(s:Hid_ q->p:=by intro k;(repeat (first|(apply bA)|(apply CW.seq)|(apply EX.inN)|(apply ax;rfl)|(apply CW.skip)));exact k.o):p:=s ⟨k⟩
theorem UX{p q:Prop}(k:q)(s:Hid_ q->p:=by intro k;(repeat (first|(apply fU;rfl;rfl;rfl)|(apply WL.nil)|(apply bA)|(apply CW.ret)|(apply bB)|(apply EX.inR)));exact k.o):p:=s ⟨k⟩
theorem UY{p q:Prop}(k:q)(s:Hid_ q->p:=by intro k;(repeat (first|(apply fU;rfl;rfl;rfl)|(apply WL.nil)|(apply bA)|(apply CW.seq)|(apply CW.region)|(apply az;rfl)|(apply ax;rfl)|(apply CW.skip)));exact k.o):p:=s ⟨k⟩
theorem UZ{p q:Prop}(k:q)(s:Hid_ q->p:=by intro k;(repeat (first|(apply CW.seq)|(apply CW.region)));exact k.o):p:=s ⟨k⟩
theorem U0{p q:Prop}(k:q)(s:Hid_ q->p:=by intro k;(repeat (first|(apply fU;rfl;rfl;rfl)|(apply WL.nil)|(apply bA)|(apply CW.seq)|(apply CW.region)|(apply WL.pass;rfl;rfl)|(apply az;rfl)|(apply CW.ret)|(apply bB)|(apply EX.inR)|(apply CW.skip)));exact k.o):p:=s ⟨k⟩
theorem U1{p q:Prop}(k:q)(s:Hid_ q->p:=by intro k;(repeat (first|(apply fU;rfl;rfl;rfl)|(apply bA)|(apply CW.seq)|(apply CW.region)|(apply WL.makeFunc;rfl;rfl;rfl;rfl)|(apply fj;rfl;rfl;rfl)|(apply fQ;rfl;rfl;rfl)|(apply ft;rfl;rfl;rfl;assumption;rfl)|(apply fw;rfl;rfl;rfl;assumption;rfl)|(apply CW.block)|(apply CW.exit)|(apply bC)|(apply aY)));exact k.o):p:=s ⟨k⟩
theorem U2{p q:Prop}(k:q)(s:Hid_ q->p:=by intro k;(repeat (first|(apply fU;rfl;rfl;rfl)|(apply WL.nil)|(apply bA)|(apply CW.seq)|(apply CW.region)|(apply WL.pass;rfl;rfl)|(apply fi;rfl;rfl;rfl;rfl)|(apply fj;rfl;rfl;rfl)|(apply ft;rfl;rfl;rfl;assumption;rfl)|(apply CW.block)|(apply az;rfl)|(apply ax;rfl)|(apply CW.ret)|(apply bB)|(apply EX.inR)));exact k.o):p:=s ⟨k⟩
theorem U3{p q:Prop}(k:q)(s:Hid_ q->p:=by intro k;(repeat (first|(apply fU;rfl;rfl;rfl)|(apply WL.nil)|(apply bA)|(apply CW.seq)|(apply CW.region)|(apply fB;rfl;rfl;rfl)|(apply WL.makeFunc;rfl;rfl;rfl;rfl)|(apply fj;rfl;rfl;rfl)|(apply fQ;rfl;rfl;rfl)|(apply ft;rfl;rfl;rfl;assumption;rfl)|(apply fw;rfl;rfl;rfl;assumption;rfl)|(apply CW.block)|(apply EX.inN)|(apply az;rfl)|(apply ax;rfl)|(apply CW.skip)));exact k.o):p:=s ⟨k⟩
theorem U4{p q:Prop}(k:q)(s:Hid_ q->p:=by intro k;(repeat (first|(apply fU;rfl;rfl;rfl)|(apply CW.seq)|(apply CW.region)|(apply az;rfl)));exact k.o):p:=s ⟨k⟩
theorem U5{p q:Prop}(k:q)(s:Hid_ q->p:=by intro k;(repeat (first|(apply ga;rfl;rfl;rfl;rfl;omega;omega)|(apply fU;rfl;rfl;rfl)|(apply WL.nil)|(apply bA)|(apply CW.seq)|(apply CW.region)|(apply fB;rfl;rfl;rfl)|(apply CW.block)|(apply CW.skip)|(refine fy rfl rfl rfl (by assumption) ?_)|(apply fq;rfl;rfl;rfl)));exact k.o):p:=s ⟨k⟩
theorem U6{p q:Prop}(k:q)(s:Hid_ q->p:=by intro k;(repeat (first|(apply fU;rfl;rfl;rfl)|(apply dK;rfl;rfl;rfl)|(apply WL.nil)|(apply bA)|(apply CW.seq)|(apply CW.region)|(apply dA;rfl;rfl;rfl)|(apply dH;rfl;rfl;rfl)|(apply dC;rfl;rfl;rfl;assumption;rfl)|(apply aD;exact mixed;kernel_rfl)));exact k.o):p:=s ⟨k⟩
theorem U7{p q:Prop}(k:q)(s:Hid_ q->p:=by intro k;(repeat (first|(apply dK;rfl;rfl;rfl)|(apply CW.seq)|(apply dA;rfl;rfl;rfl)|(apply dH;rfl;rfl;rfl)|(apply dC;rfl;rfl;rfl;assumption;rfl)|(apply dD;rfl;rfl;rfl;assumption;rfl)|(apply ax;rfl)|(apply aD;exact mixed;kernel_rfl)));exact k.o):p:=s ⟨k⟩
theorem U8{p q:Prop}(k:q)(s:Hid_ q->p:=by intro k;(repeat (first|(apply QL.add;rfl;rfl;rfl;rfl;omega;omega)|(apply dM;rfl;rfl;rfl;rfl;omega;omega)|(apply fU;rfl;rfl;rfl)|(apply dK;rfl;rfl;rfl)|(apply WL.nil)|(apply bA)|(apply CW.seq)|(apply CW.region)|(apply dE;rfl;rfl;rfl)|(apply dA;rfl;rfl;rfl)|(apply dH;rfl;rfl;rfl)|(apply dC;rfl;rfl;rfl;assumption;rfl)|(apply CW.block)|(apply ax;rfl)|(apply CW.exit)|(apply bC)|(apply aY)|(apply CW.skip)|(apply aD;exact mixed;kernel_rfl)));exact k.o):p:=s ⟨k⟩
theorem U9{p q:Prop}(k:q)(s:Hid_ q->p:=by intro k;(repeat (apply fU;rfl;rfl;rfl));exact k.o):p:=s ⟨k⟩
theorem U_{p q:Prop}(k:q)(s:Hid_ q->p:=by intro k;(repeat (apply dK;rfl;rfl;rfl));exact k.o):p:=s ⟨k⟩
theorem Va{p q:Prop}(k:q)(s:Hid_ q->p:=by intro k;(repeat (apply fj;rfl;rfl;rfl));exact k.o):p:=s ⟨k⟩
theorem Vb{p q:Prop}(k:q)(s:Hid_ q->p:=by intro k;(repeat (first|(apply dK;rfl;rfl;rfl)|(apply QL.pass;rfl;rfl)));exact k.o):p:=s ⟨k⟩
theorem Vc{p q:Prop}(k:q)(s:Hid_ q->p:=by intro k;(repeat (first|(apply fU;rfl;rfl;rfl)|(apply fj;rfl;rfl;rfl)|(apply ft;rfl;rfl;rfl;assumption;rfl)));exact k.o):p:=s ⟨k⟩
theorem Vd{p q:Prop}(k:q)(s:Hid_ q->p:=by intro k;(repeat (first|(apply dM;rfl;rfl;rfl;rfl;omega;omega)|(apply dK;rfl;rfl;rfl)|(apply dE;rfl;rfl;rfl)));exact k.o):p:=s ⟨k⟩
theorem Ve{p q:Prop}(k:q)(s:Hid_ q->p:=by intro k;(repeat (first|(apply ga;rfl;rfl;rfl;rfl;omega;omega)|(apply fU;rfl;rfl;rfl)|(apply WL.pass;rfl;rfl)));exact k.o):p:=s ⟨k⟩
theorem Vf{p q:Prop}(k:q)(s:Hid_ q->p:=by intro k;(repeat (first|(apply fU;rfl;rfl;rfl)|(apply fi;rfl;rfl;rfl;rfl)|(apply fB;rfl;rfl;rfl)|(apply WL.makeFunc;rfl;rfl;rfl;rfl)|(apply fj;rfl;rfl;rfl)|(apply ft;rfl;rfl;rfl;assumption;rfl)));exact k.o):p:=s ⟨k⟩
theorem Vg{p q:Prop}(k:q)(s:Hid_ q->p:=by intro k;(repeat (first|(apply WL.add;rfl;rfl;rfl;rfl;omega;omega)|(apply fU;rfl;rfl;rfl)|(apply fj;rfl;rfl;rfl)|(apply fQ;rfl;rfl;rfl)));exact k.o):p:=s ⟨k⟩
theorem Vh{p q:Prop}(k:q)(s:Hid_ q->p:=by intro k;(repeat (first|(apply fU;rfl;rfl;rfl)|(apply WL.pass;rfl;rfl)|(apply fj;rfl;rfl;rfl)|(apply fQ;rfl;rfl;rfl)|(apply ft;rfl;rfl;rfl;assumption;rfl)|(apply fw;rfl;rfl;rfl;assumption;rfl)));exact k.o):p:=s ⟨k⟩
theorem Vi{p q:Prop}(k:q)(s:Hid_ q->p:=by intro k;(repeat (first|(apply dK;rfl;rfl;rfl)|(apply dE;rfl;rfl;rfl)|(apply dA;rfl;rfl;rfl)|(apply dH;rfl;rfl;rfl)|(apply dC;rfl;rfl;rfl;assumption;rfl)));exact k.o):p:=s ⟨k⟩
theorem Vj{p q:Prop}(k:q)(s:Hid_ q->p:=by intro k;(repeat (first|(apply c6;rfl;rfl;rfl;(intro γ' w' hw';apply ga;rfl;rfl;rfl;rfl;omega;omega;exact WL.nil (a7 rfl (Ext.refl _) rfl)))|(apply c6;rfl;rfl;rfl;(intro γ' w' hw';apply ft;rfl;rfl;rfl;apply Blk.ext;assumption;exact hw';rfl;exact WL.nil (a7 rfl (Ext.refl _) rfl)))|(apply c6;rfl;rfl;rfl;(intro γ' w' hw';apply fw;rfl;rfl;rfl;apply Blk.ext;assumption;exact hw';rfl;exact WL.nil (a7 rfl (Ext.refl _) rfl)))));exact k.o):p:=s ⟨k⟩
theorem Vk{p q:Prop}(k:q)(s:Hid_ q->p:=by intro k;(repeat (refine cu (by assumption) rfl rfl rfl rfl (by assumption) rfl ?_));exact k.o):p:=s ⟨k⟩
theorem Vl{p q:Prop}(k:q)(s:Hid_ q->p:=by intro k;(repeat (refine cg (by assumption) rfl rfl rfl rfl (by assumption) rfl ?_));exact k.o):p:=s ⟨k⟩
theorem Vm{p q:Prop}(k:q)(s:Hid_ q->p:=by intro k;(repeat (first|(apply cA;rfl;rfl;rfl;rfl)|(refine ce rfl rfl rfl rfl ?_)|(apply cz;rfl;rfl;rfl;rfl)|(refine cg (by assumption) rfl rfl rfl rfl (by assumption) rfl ?_)|(refine cj (by assumption) rfl rfl rfl rfl (by assumption) rfl ?_)|(refine cx rfl rfl rfl rfl ?_)|(apply HL.makeFunc;rfl;rfl;rfl;rfl;rfl)));exact k.o):p:=s ⟨k⟩
theorem Vn{p q:Prop}(k:q)(s:Hid_ q->p:=by intro k;(repeat (first|(apply HL.add;rfl;rfl;rfl;rfl;rfl;omega;omega)|(refine ce rfl rfl rfl rfl ?_)|(refine cu (by assumption) rfl rfl rfl rfl (by assumption) rfl ?_)|(refine HL.build rfl rfl rfl rfl rfl ?_)));exact k.o):p:=s ⟨k⟩
theorem Vo{p q:Prop}(k:q)(s:Hid_ q->p:=by intro k;(repeat (first|(apply cA;rfl;rfl;rfl;rfl)|(refine ce rfl rfl rfl rfl ?_)));exact k.o):p:=s ⟨k⟩
theorem Vp{p q:Prop}(k:q)(s:Hid_ q->p:=by intro k;(repeat (first|(apply cE;rfl;rfl;rfl;rfl;rfl;omega;omega)|(apply cA;rfl;rfl;rfl;rfl)|(apply HL.pass;rfl;rfl;rfl)|(refine ce rfl rfl rfl rfl ?_)|(apply cz;rfl;rfl;rfl;rfl)|(refine cu (by assumption) rfl rfl rfl rfl (by assumption) rfl ?_)|(refine cx rfl rfl rfl rfl ?_)|(refine HL.build rfl rfl rfl rfl rfl ?_)));exact k.o):p:=s ⟨k⟩
theorem Vq{p q:Prop}(k:q)(s:Hid_ q->p:=by intro k;(repeat (first|(apply cA;rfl;rfl;rfl;rfl)|(refine ce rfl rfl rfl rfl ?_)|(apply cz;rfl;rfl;rfl;rfl)|(refine cg (by assumption) rfl rfl rfl rfl (by assumption) rfl ?_)|(refine cu (by assumption) rfl rfl rfl rfl (by assumption) rfl ?_)));exact k.o):p:=s ⟨k⟩
theorem Vr{p q:Prop}(k:q)(s:Hid_ q->p:=by intro k;(repeat (first|(apply cA;rfl;rfl;rfl;rfl)|(apply HL.nil)));exact k.o):p:=s ⟨k⟩
theorem Vs{p q:Prop}(k:q)(s:Hid_ q->p:=by intro k;(repeat (first|(refine ce rfl rfl rfl rfl ?_)|(apply cz;rfl;rfl;rfl;rfl)|(refine cu (by assumption) rfl rfl rfl rfl (by assumption) rfl ?_)|(refine cx rfl rfl rfl rfl ?_)|(apply HL.nil)));exact k.o):p:=s ⟨k⟩
theorem Vt{p q:Prop}(k:q)(s:Hid_ q->p:=by intro k;(repeat (first|(refine c7 (fun γ' w' hw'=>fj rfl rfl rfl (WL.nil (a7 rfl (Ext.refl _) rfl))) ?_)|(apply c6;rfl;rfl;rfl;(intro γ' w' hw';apply ft;rfl;rfl;rfl;apply Blk.ext;assumption;exact hw';rfl;exact WL.nil (a7 rfl (Ext.refl _) rfl)))));exact k.o):p:=s ⟨k⟩
theorem Vu{p q:Prop}(k:q)(s:Hid_ q->p:=by intro k;(repeat (first|(apply c6;rfl;rfl;rfl;(intro γ' w' hw';apply ga;rfl;rfl;rfl;rfl;omega;omega;exact WL.nil (a7 rfl (Ext.refl _) rfl)))|(refine c7 (fun γ' w' hw'=>fU rfl rfl rfl (WL.nil (a7 rfl (Ext.refl _) rfl))) ?_)|(apply c6;rfl;rfl;rfl;(intro γ' w' hw';apply fw;rfl;rfl;rfl;apply Blk.ext;assumption;exact hw';rfl;exact WL.nil (a7 rfl (Ext.refl _) rfl)))));exact k.o):p:=s ⟨k⟩
theorem Vv{p q:Prop}(k:q)(s:Hid_ q->p:=by intro k;(repeat (first|(refine c7 (fun γ' w' hw'=>fj rfl rfl rfl (WL.nil (a7 rfl (Ext.refl _) rfl))) ?_)|(apply c6;rfl;rfl;rfl;(intro γ' w' hw';apply ft;rfl;rfl;rfl;apply Blk.ext;assumption;exact hw';rfl;exact WL.nil (a7 rfl (Ext.refl _) rfl)))|(apply c6;rfl;rfl;rfl;(intro γ' w' hw';apply fw;rfl;rfl;rfl;apply Blk.ext;assumption;exact hw';rfl;exact WL.nil (a7 rfl (Ext.refl _) rfl)))));exact k.o):p:=s ⟨k⟩
theorem Vw{p q:Prop}(k:q)(s:Hid_ q->p:=by intro k;(repeat (refine c7 (fun γ' w' hw'=>fU rfl rfl rfl (WL.nil (a7 rfl (Ext.refl _) rfl))) ?_));exact k.o):p:=s ⟨k⟩
theorem Vx{p q:Prop}(k:q)(s:Hid_ q->p:=by intro k;(repeat (refine c7 (fun γ' w' hw'=>fj rfl rfl rfl (WL.nil (a7 rfl (Ext.refl _) rfl))) ?_));exact k.o):p:=s ⟨k⟩
set_option maxHeartbeats 4000000
variable{P:Program}{α:Type}{B a:Nat}{m:List Int}{F:Nat→Prop}{w:World}{v:Value}{g:List (List Int)}{x:Int}{l:List Bool}{r:List Value}{t:TypeId}{Q:Exit→Act→World→Prop}{p:Nat→Nat}{e:Nat→Nat→Prop}{s:List Nat}{L:List Oper}{c:Value→World→Prop}{y:Array Bool}{S:World→Prop}{b:Value→(Nat→Nat)→World→Prop}{j:Array Edge}{o:Oper}{H:String}{I:Array TypeId}{u:Array Value}
open Go.RowKit
open _root_.Go.Proofs.Tryz
open List(range)
open List(replicate)
open Nat(ble)
open Nat(beq)
open Region(ready)
abbrev Sg:=List (Nat×Value)
def fnd:Sg->Nat->Option Value
 |[],_=>none
 |(k,v)::r,t=>match beq k t with
  |true=>some v
  |false=>fnd r t
structure Fr(n:Nat)(σ:Sg)(a:Act):Prop where
 size:a.tmps.size=n
 defers:a.defers=[]
 slot:∀t v,fnd σ t=some v->a.tmps.getD t undef=v
def ev(σ:Sg):Operand->Option Value
 |.tmp t=>fnd σ t
 |.const v=>some v
 |.global g=>some (.pointer (some ⟨g,0,none⟩))
 |.func f=>some (.func (.func f) #[] #[])
def Fr.ev{n:Nat}{σ:Sg}{a:Act}(h:Fr n σ a){x:Operand}(b:ev σ x=some v):a.eval x=v:=by
 cases x with
 |tmp t=>exact h.slot t v b
 |const u=>exact R4 b
 |global g=>exact R4 b
 |func f=>exact R4 b
def FW(d:Option Nat)(v:Value)(σ:Sg):Sg:=match d with|some d=>(d,v)::σ|none=>σ
def sd{σ:Sg}{d:Nat}:fnd ((d,v)::σ) d=some v:=by show(match beq d d with|true=>some v|false=>fnd σ d)=_;rw[Rf d]
def i_{d t:Nat}(h:d≠t):beq d t=false:=by
 cases e:beq d t with
 |false=>rfl
 |true=>exact absurd (Ri e) h
def se{σ:Sg}{d t:Nat}(h:d≠t):fnd ((d,v)::σ) t=fnd σ t:=by show(match beq d t with|true=>some v|false=>fnd σ t)=_;rw[i_ h]
def Dw(n:Nat):Option Nat->Bool|some d=>ble (d+1) n|none=>true
def Fr.put{n:Nat}{σ:Sg}{a:Act}(h:Fr n σ a){d:Option Nat}(hd:Dw n d=true):Fr n (FW d v σ) (a.put d v):=by
 cases d with
 |none=>exact h
 |some d=>
  have hd':d<n:=Rm hd;refine⟨by simpa[Act.put]using h.size,by simpa[Act.put]using h.defers,?_⟩;intro t u b;by_cases e:d=t
  .subst e;rw[FW,sd]at b;cases b;simp[Act.put,Array.getD,h.size,hd']
  .rw[FW,se e]at b;have:=h.slot t u b;simp only[Act.put,Ny]at this⊢;rw[NG e];exact this
def Fr.set{n:Nat}{σ:Sg}{a:Act}(h:Fr n σ a){s:Nat}(c:fnd σ s=some v):Fr n ((s,v)::σ) a:=by
 refine⟨h.size,h.defers,λt u b=>?_⟩;by_cases e:s=t
 .subst e;rw[sd]at b;cases b;exact h.slot _ _ c
 .rw[se e]at b;exact h.slot _ _ b
def Sub:Sg->Sg->Prop
 |[],_=>True
 |p::r,σ=>fnd σ p.1=some p.2/\Sub r σ
def Sub.fnd{τ σ:Sg}(h:Sub τ σ):∀t v,fnd τ t=some v->fnd σ t=some v:=by
 induction τ with
 |nil=>intro t v a;cases a
 |cons p r b=>
  intro t v a;by_cases e:p.1=t
  .subst e;obtain⟨d,u⟩:=p;rw[sd]at a;cases a;exact h.1
  .obtain⟨d,u⟩:=p;rw[se e]at a;exact b h.2 t v a
def Fr.sub{n:Nat}{σ τ:Sg}{a:Act}(h:Fr n σ a)(c:Sub τ σ):Fr n τ a:=⟨h.size,h.defers,λt v b=>h.slot t v (c.fnd t v b)⟩
@[irreducible] def CW (P:Program) (c:Code) (Q:Exit->Act->World->Prop) (n:Nat) (σ:Sg) (w:World):Prop:=∀a,Fr n σ a->c.wp P Q a w
@[irreducible] def EX (Q:Exit->Act->World->Prop) (e:Exit) (n:Nat) (σ:Sg) (w:World):Prop:=∀a,Fr n σ a->Q e a w
@[irreducible] def WL (P:Program) (ops:List Oper) (Q:Exit->Act->World->Prop) (l:List Oper) (n:Nat) (σ:Sg) (w:World):Prop:=∀a,Fr n σ a->wpList P ops.toArray Q l a w
section
variable {P:Program}{Q:Exit->Act->World->Prop}{n:Nat}{σ:Sg}{w:World}
theorem CW.seq{x y:Code}(h:CW P x (Exit.then (y.wp P Q) Q) n σ w):CW P (.seq x y) Q n σ w:=by unfold CW at*;exact λa b=>wp_seq (h a b)
def Wa:=@CW.seq
theorem bA{y:Code}(h:CW P y Q n σ w):EX (Exit.then (y.wp P Q) Q) .normal n σ w:=by unfold EX CW at*;exact λa b=>h a b
theorem bC{id:Nat}{R:Act->World->Prop}(h:EX Q (.exit id) n σ w):EX (Exit.then R Q) (.exit id) n σ w:=by unfold EX at*;exact λa b=>h a b
theorem bB{R:Act->World->Prop}(h:EX Q .ret n σ w):EX (Exit.then R Q) .ret n σ w:=by unfold EX at*;exact λa b=>h a b
theorem EX.inN{id:Nat}(h:EX Q .normal n σ w):EX (Exit.inBlock id Q) .normal n σ w:=by unfold EX at*;exact λa b=>h a b
theorem EX.inR{id:Nat}(h:EX Q .ret n σ w):EX (Exit.inBlock id Q) .ret n σ w:=by unfold EX at*;exact λa b=>h a b
theorem aY{id:Nat}(h:EX Q .normal n σ w):EX (Exit.inBlock id Q) (.exit id) n σ w:=by unfold EX at*;intro a b;show(if id=id then _ else _);rw[Tn rfl];exact h a b
theorem aZ{id id':Nat}(b:beq id' id=false)(h:EX Q (.exit id') n σ w):EX (Exit.inBlock id Q) (.exit id') n σ w:=by unfold EX at*;intro a c;show(if id'=id then _ else _);rw[Tm (λe=>by subst e;rw[Rf id']at b;cases b)];exact h a c
theorem CW.block{id:Nat}{c:Code}(h:CW P c (Exit.inBlock id Q) n σ w):CW P (.block id c) Q n σ w:=by unfold CW at*;exact λa b=>wp_block (h a b)
theorem CW.exit{id:Nat}(h:EX Q (.exit id) n σ w):CW P (.exit id) Q n σ w:=by unfold CW EX at*;exact λa b=>wp_exit (h a b)
theorem CW.ret(h:EX Q .ret n σ w):CW P .ret Q n σ w:=by unfold CW EX at*;exact λa b=>wp_ret (h a b)
theorem CW.skip(h:EX Q .normal n σ w):CW P .skip Q n σ w:=by unfold CW EX at*;exact λa b=>wp_skip (h a b)
theorem CW.cond{c:Operand}{x y:Code}{t:Bool}(f:ev σ c=some (.bool t))(e:t=true->CW P x Q n σ w)(hf:t=false->CW P y Q n σ w):CW P (.cond c x y) Q n σ w:=by unfold CW at*;exact λa b=>wp_cond_split (b.ev f) (λh=>e h a b) (λh=>hf h a b)
def ld:=@CW.cond
theorem az{c:Operand}{x y:Code}(b:ev σ c=some (.bool true))(a:CW P x Q n σ w):CW P (.cond c x y) Q n σ w:=
 ld b (λ_=>a) (λh=>by cases h)
theorem ax{c:Operand}{x y:Code}(a:ev σ c=some (.bool false))(hf:CW P y Q n σ w):CW P (.cond c x y) Q n σ w:=
 ld a (λh=>by cases h) (λ_=>hf)
theorem CW.region{id:Nat}{l:List Oper}(h:WL P l Q l n σ w):CW P (.region id l.toArray false) Q n σ w:=by unfold CW WL at*;exact λa b=>wp_region_lit (h a b)
def Wh:=@CW.region
theorem WL.nil{l:List Oper}(h:EX Q .normal n σ w):WL P l Q [] n σ w:=by unfold WL EX at*;exact λa b=>wpList_nil (h a b)
def p0:=@WL.nil
def ak{S:Type}(n:Nat)(σs:S->Sg)(I:S->World->Prop)(μ:S->Nat)(s:S):Act->World->Prop:=
 λa w=>∃b,Fr n (σs b) a/\I b w/\μ b<μ s
theorem CW.loop{S:Type}{c:Code}(σs:S->Sg)(I:S->World->Prop)(μ:S->Nat)(b:S)(k:Sub (σs b) σ)(q:I b w)
  (round:∀s w,I s w->CW P c (Exit.then (ak n σs I μ s) Q) n (σs s) w):CW P (.loop c) Q n σ w:=by
 unfold CW at*;intro a o;refine wp_loop_ghost (λm a w=>∃s,μ s=m/\Fr n (σs s) a/\I s w) (μ b) ⟨b,rfl,o.sub k,q⟩ ?_;rintro m a w ⟨s,rfl,hF,p⟩;refine TH (round s w p a hF) ?_;intro e r w' hq;cases e with
 |normal=>
  obtain⟨j,i,h,f⟩:=hq;exact⟨μ j,f,j,rfl,i,h⟩
 |exit id=>exact hq
 |goto l=>exact hq
 |ret=>exact hq
 |panic ch=>exact hq
 |outgrown=>exact hq
def p8:=@CW.loop
theorem EX.back{S:Type}{σs:S->Sg}{I:S->World->Prop}{μ:S->Nat}{s:S}(b:S)(c:Sub (σs b) σ)(f:I b w)(hμ:μ b<μ s):
  EX (Exit.then (ak n σs I μ s) Q) .normal n σ w:=by
 unfold EX;exact λa e=>⟨b,e.sub c,f,hμ⟩
def m5:=@EX.back
def Rt(P:Program)(f:FuncId)(args:Array Value)(w:World)(R:Value->World->Prop):Prop:=
 Calls P f args w λe w'=>∃v,e=.returned v/\R v w'
theorem Rt.mono{f:FuncId}{args:Array Value}{R R':Value->World->Prop}(h:Rt P f args w R)(b:∀v w',R v w'->R' v w'):Rt P f args w R':=
 Oa h λe w' ⟨v,c,a⟩=>⟨v,c,b v w' a⟩
def VR:=@Rt.mono
def ik:Nat->List Value->Sg
 |_,[]=>[]
 |k,v::r=>(k,v)::ik (k+1) r
theorem r_:∀(vs:List Value) (k t:Nat) (v:Value),fnd (ik k vs) t=some v->k<=t/\vs[t -k]?=some v:=by
 intro vs;induction vs with
 |nil=>intro k t v h;cases h
 |cons u r a=>
  intro k t v h;by_cases e:k=t
  .subst e;rw[ik,sd]at h;cases h;exact⟨Rq _,by simp⟩
  .rw[ik,se e]at h;obtain⟨h1,h2⟩:=a (k+1) t v h;refine⟨by omega,?_⟩;have:t -k=(t -(k+1))+1:=by omega
   rw[this,Po];exact h2
theorem Rt.enter{f:FuncId}{fn:Func}{c:Code}{vs:List Value}{R:Value->World->Prop}(hf:P.funcs[f]?=some fn)(j:fn.body=some c)(hn:fn.ntmps=n)
  (b:ble vs.length n=true) (h:CW P c (bodyPost P fn λe w'=>∃v,e=.returned v/\R v w') n (ik 0 vs) w):Rt P f vs.toArray w R:=by
 refine calls_of_wp hf j ?_;unfold CW at h;have k:=Rm b;refine h _ ⟨by simp[hn];omega,rfl,λt v i=>?_⟩;obtain⟨_,h2⟩:=r_ vs 0 t v i;simp only[Nat.sub_zero]at h2;have a:=(Pt.1 h2).1;simp only[Ny];rw[Nz (by simpa using a)];simp[h2]
def Wb:=@Rt.enter
theorem dQ{f:FuncId}{fn:Func}{c:Code}{R:Value->World->Prop}(hf:P.funcs[f]?=some fn)(hn:fn.ntmps=n)(a:fn.body=some c)
  (h:CW P c (bodyPost P fn λe w'=>∃v,e=.returned v/\R v w') n [] w):Rt P f [].toArray w R:=Wb (vs:=[]) hf a hn rfl h
theorem dR{f:FuncId}{fn:Func}{c:Code}{b:Value}{R:Value->World->Prop}(hf:P.funcs[f]?=some fn)(hn:fn.ntmps=n)(i:fn.body=some c)
  (a:ble 1 n=true) (h:CW P c (bodyPost P fn λe w'=>∃v,e=.returned v/\R v w') n [(0,b)] w):Rt P f [b].toArray w R:=Wb hf i hn a h
theorem dS{f:FuncId}{fn:Func}{c:Code}{b a1:Value}{R:Value->World->Prop}(hf:P.funcs[f]?=some fn)(hn:fn.ntmps=n)(i:fn.body=some c)
  (a:ble 2 n=true) (h:CW P c (bodyPost P fn λe w'=>∃v,e=.returned v/\R v w') n [(0,b),(1,a1)] w):Rt P f [b,a1].toArray w R:=Wb hf i hn a h
theorem dT{f:FuncId}{fn:Func}{c:Code}{b a1 a2:Value}{R:Value->World->Prop}(hf:P.funcs[f]?=some fn)(hn:fn.ntmps=n)(i:fn.body=some c)
  (a:ble 3 n=true) (h:CW P c (bodyPost P fn λe w'=>∃v,e=.returned v/\R v w') n [(0,b),(1,a1),(2,a2)] w):Rt P f [b,a1,a2].toArray w R:=Wb hf i hn a h
theorem dU{f:FuncId}{fn:Func}{c:Code}{b a1 a2 a3:Value}{R:Value->World->Prop}(hf:P.funcs[f]?=some fn)(hn:fn.ntmps=n)(i:fn.body=some c)
  (a:ble 4 n=true) (h:CW P c (bodyPost P fn λe w'=>∃v,e=.returned v/\R v w') n [(0,b),(1,a1),(2,a2),(3,a3)] w):Rt P f [b,a1,a2,a3].toArray w R:=Wb hf i hn a h
theorem dV{f:FuncId}{fn:Func}{c:Code}{b a1 a2 a3 a4:Value}{R:Value->World->Prop}(hf:P.funcs[f]?=some fn)(hn:fn.ntmps=n)(i:fn.body=some c)
  (a:ble 5 n=true) (h:CW P c (bodyPost P fn λe w'=>∃v,e=.returned v/\R v w') n [(0,b),(1,a1),(2,a2),(3,a3),(4,a4)] w):Rt P f [b,a1,a2,a3,a4].toArray w R:=Wb hf i hn a h
theorem bd{fn:Func}{t:Nat}{v:Value}{R:Value->World->Prop}(f:fn.results=#[.tmp t])(c:fnd σ t=some v)(h:R v w):
  EX (bodyPost P fn λe w'=>∃v,e=.returned v/\R v w') .ret n σ w:=by
 unfold EX;intro a b;exact S7 (results_tmp f _ _ _) b.defers ⟨v,by rw[b.slot t v c],h⟩
theorem d6{fn:Func}{t:Nat}{v:Value}{R:Value->World->Prop}(h:R v w)(f:fn.results=#[.tmp t]:=by exact rfl)(c:fnd σ t=some v:=by exact rfl):EX (bodyPost P fn λe w'=>∃v,e=.returned v/\R v w') .ret n σ w:=bd f c h
theorem be{fn:Func}{t:Nat}{v:Value}{R:Value->World->Prop}(h:R v w)(b:fn.results=#[.tmp t]:=by exact rfl)(a:fnd σ t=some v:=by exact rfl):EX (bodyPost P fn λe w'=>∃v,e=.returned v/\R v w') .ret n σ w:=bd b a h
theorem bf{fn:Func}{t u:Nat}{v x:Value}{R:Value->World->Prop}(i:fn.results=#[.tmp t,.tmp u])(f:fnd σ t=some v)(c:fnd σ u=some x)(h:R (.tuple ⟨[v,x]⟩) w):
  EX (bodyPost P fn λe w'=>∃v,e=.returned v/\R v w') .ret n σ w:=by
 unfold EX;intro a b;exact S7 (results_tmp2 i _ _ _) b.defers ⟨_,by rw[b.slot t v f,b.slot u x c],h⟩
theorem f0{fn:Func}{t u:Nat}{v x:Value}{R:Value->World->Prop}(h:R (.tuple ⟨[v,x]⟩) w)(i:fn.results=#[.tmp t,.tmp u]:=by exact rfl)(f:fnd σ t=some v:=by exact rfl)(c:fnd σ u=some x:=by exact rfl):EX (bodyPost P fn λe w'=>∃v,e=.returned v/\R v w') .ret n σ w:=bf i f c h
theorem aW{fn:Func}{R:Value->World->Prop}(b:fn.results=#[])(h:R (.tuple #[]) w):
  EX (bodyPost P fn λe w'=>∃v,e=.returned v/\R v w') .normal n σ w:=by
 unfold EX;intro a c;exact bodyPost_end (results_none b _ _ _) c.defers ⟨_,rfl,h⟩
end
def uE:List Oper->Nat->Option Nat
 |[],_=>none
 |o::_,0=>o.dst
 |_::r,j+1=>uE r j
def uF:∀(l:List Oper) (j:Nat),uE l j=(l[j]?).bind (·.dst)
 |[],j=>by simp[uE]
 |o::r,0=>by simp[uE]
 |o::r,j+1=>by simp[uE,uF r j]
def gd(ops:List Oper)(σ:Sg)(o:Oper):Option Bool:=
 match o.guard with
 |none=>some true
 |some (j,want)=>
  match uE ops j with
  |none=>none
  |some s=>match fnd σ s with
   |some (.bool b)=>some (match b,want with|true,true=>true|false,false=>true|_,_=>false)
   |some (.tuple _)=>some false
   |_=>none
def sZ{ops:List Oper}{σ:Sg}{b:Bool}{n:Nat}{a:Act}(p:Fr n σ a)(h:gd ops σ o=some b):Region.wanted o (yielded ops.toArray a.tmps)=b:=by
 unfold gd at h;unfold Region.wanted;split at h
 .rename_i f;rw[f];exact(R4 h)
 .rename_i j want f;rw[f];have k:∀s v,uE ops j=some s->fnd σ s=some v->yielded ops.toArray a.tmps j=(match v with|.bool b=>some b|_=>none):=by
   intro s v c m;have:=p.slot s v m;unfold yielded;have e:ops.toArray[j]?.bind (·.dst)=some s:=by rw[<-c,uF];simp
   rw[e];simp only[R0];simp only[Ny]at this;cases l:a.tmps[s]? with
   |none=>
    rw[l]at this;simp only[Option.getD_none]at this;subst this;simp[undef]
   |some u=>
    rw[l]at this;simp only[R1]at this;subst this;cases u<;>rfl
  split at h
  .cases h
  .rename_i s c;split at h
   .rename_i q i;have:=k s _ c i;simp only[this];cases q<;>cases want<;>simp at h<;>simp[<-h]
   .rename_i x i;have:=k s _ c i;simp only[this];simp at h;subst h;simp
   .cases h
def EK(op:BinOp)(x y:Value):Option Value:=
 match op,x,y with
 |.shl,.int k a,.int .i64 b=>match decide (0<=b)with|true=>some (.int k (k.wrap (a*2 ^ (min b.toNat k.bits))))|false=>none
 |.add,.int .i64 a,.int .i64 b=>some (.int .i64 (IntKind.i64.wrap (a+b)))
 |.sub,.int .i64 a,.int .i64 b=>some (.int .i64 (IntKind.i64.wrap (a -b)))
 |.mul,.int .i64 a,.int .i64 b=>some (.int .i64 (IntKind.i64.wrap (a*b)))
 |.eql,.int .i64 a,.int .i64 b=>some (.bool (a==b))
 |.neq,.int .i64 a,.int .i64 b=>some (.bool (a != b))
 |.lss,.int .i64 a,.int .i64 b=>some (.bool (decide (a<b)))
 |.leq,.int .i64 a,.int .i64 b=>some (.bool (decide (a<=b)))
 |.gtr,.int .i64 a,.int .i64 b=>some (.bool (decide (a>b)))
 |.geq,.int .i64 a,.int .i64 b=>some (.bool (decide (a>=b)))
 |.eql,.int .u64 a,.int .u64 b=>some (.bool (a==b))
 |.neq,.int .u64 a,.int .u64 b=>some (.bool (a != b))
 |.and,.int .u64 a,.int .u64 b=>some (.int .u64 (bits .and .u64 a b))
 |.or,.int .u64 a,.int .u64 b=>some (.int .u64 (bits .or .u64 a b))
 |.and,.int .i64 a,.int .i64 b=>some (.int .i64 (bits .and .i64 a b))
 |.or,.int .i64 a,.int .i64 b=>some (.int .i64 (bits .or .i64 a b))
 |.eql,.string a,.string b=>some (.bool (a.data.toList==b.data.toList))
 |.neq,.string a,.string b=>some (.bool !(a.data.toList==b.data.toList))
 |.eql,.int .u8 a,.int .u8 b=>some (.bool (a==b))
 |.neq,.int .u8 a,.int .u8 b=>some (.bool (a != b))
 |.lss,.int .u8 a,.int .u8 b=>some (.bool (decide (a<b)))
 |.leq,.int .u8 a,.int .u8 b=>some (.bool (decide (a<=b)))
 |.gtr,.int .u8 a,.int .u8 b=>some (.bool (decide (a>b)))
 |.geq,.int .u8 a,.int .u8 b=>some (.bool (decide (a>=b)))
 |_,_,_=>none
def C8:List Value->Nat->Option Value
 |[],_=>none
 |v::_,0=>some v
 |_::r,i+1=>C8 r i
def C9:∀(l:List Value) (i:Nat),C8 l i=l[i]?
 |[],i=>by simp[C8]
 |v::r,0=>by simp[C8]
 |v::r,i+1=>by simp[C8,C9 r i]
def pN(σ:Sg):List Operand->Option (List Value)
 |[]=>some []
 |x::r=>match ev σ x,pN σ r with
  |some v,some vs=>some (v::vs)
  |_,_=>none
def pO{n:Nat}{σ:Sg}{a:Act}(b:Fr n σ a):∀(l:List Operand) (vs:List Value),pN σ l=some vs->l.map a.eval=vs
 |[],vs,h=>by cases h;rfl
 |x::r,vs,h=>by
  simp only[pN]at h;split at h
  .rename_i v us c e;cases h;simp[b.ev c,pO b r us e]
  .cases h
def FK(σ:Sg):Op->Option Value
 |.move x=>ev σ x
 |.assign x=>ev σ x
 |.pick c a b=>match ev σ c with
  |some (.bool true)=>ev σ a
  |some (.bool false)=>ev σ b
  |_=>none
 |.binOp op _ x y _=>match ev σ x,ev σ y with
  |some u,some v=>EK op u v
  |_,_=>none
 |.unOp .not _ x=>match ev σ x with
  |some (.bool b)=>some (.bool !b)
  |_=>none
 |.extract x i=>match ev σ x with
  |some (.tuple vs)=>C8 vs.toList i
  |_=>none
 |_=>none
def EL{op:BinOp}{yt:TypeId}{x y:Operand}{u r:Value}(h:EK op u v=some r):
  ((do eqGuard op t x y u v;binOp op t u v:Sem Value)).run P w=.ok r w:=by
 unfold EK at h;split at h<;>first
  |(cases h;done)
  |(rename_i k a b;split at h
    .rename_i e;have c:¬b<0:=by simpa using e
     cases h;simp[eqGuard,binOp,Op.shift,c]
    .cases h)
  |(cases h;simp[eqGuard,binOp,Op.intArith,Op.intCmp,intBits_and,intBits_or];done)
  |(cases h;simp[eqGuard_at_string,binOp,Op.stringOp,ByteArray.toList_eq];done)
def FL{n:Nat}{σ:Sg}{a:Act}(f:Fr n σ a)(h:FK σ o.op=some v):
  (execOp a.eval o).run P w=.ok (.value v) w:=by
 unfold FK at h;unfold execOp;split at h
 .rename_i x e;simp[e,f.ev h]
 .rename_i x e;simp[e,f.ev h]
 .rename_i c x y e;split at h
  .rename_i k;simp[e,f.ev k,asBool,f.ev h]
  .rename_i k;simp[e,f.ev k,asBool,f.ev h]
  .cases h
 .rename_i op t x y yt e;split at h
  .rename_i u s m l;have p:=EL (P:=P) (w:=w) (t:=t) (yt:=yt) (x:=x) (y:=y) h;simp only[e,f.ev m,f.ev l];rw[Sb,p];rfl
  .cases h
 .rename_i t x e;split at h
  .rename_i b q;cases h;simp[e,f.ev q,Op.unary]
  .cases h
 .rename_i x i e;split at h
  .rename_i vs j;rw[C9]at h;have r:vs[i]?=some v:=by simpa using h
   simp[e,f.ev j,Instr.extract,r]
  .cases h
 .cases h
section
variable {P:Program}{Q:Exit->Act->World->Prop}{n:Nat}{σ:Sg}{w:World}{L rest:List Oper}{d:Nat}{op:Op}{ty:TypeId}{pos:String}{af:Array Edge}{g:Option (Nat×Bool)}
theorem WL.run{v:Value}{w':World}(e:gd L σ ⟨some d,op,ty,pos,af,g⟩=some true)(hd:ble (d+1) n=true)
  (c:∀a,Fr n σ a->(execOp a.eval ⟨some d,op,ty,pos,af,g⟩).run P w=.ok (.value v) w') (h:WL P L Q rest n ((d,v)::σ) w'):WL P L Q (⟨some d,op,ty,pos,af,g⟩::rest) n σ w:=by
 unfold WL at*;intro a b;refine TE λK f=>?_;rw[sZ b e,Tn rfl];unfold Oper.wp;rw[c a b];exact f _ _ (h _ (b.put (d:=some d) hd))
def VG:=@WL.run
theorem fV{w':World}(e:gd L σ ⟨none,op,ty,pos,af,g⟩=some true)
  (c:∀a,Fr n σ a->(execOp a.eval ⟨none,op,ty,pos,af,g⟩).run P w=.ok .skip w') (h:WL P L Q rest n σ w'):WL P L Q (⟨none,op,ty,pos,af,g⟩::rest) n σ w:=by
 unfold WL at*;intro a b;refine TE λK f=>?_;rw[sZ b e,Tn rfl];unfold Oper.wp;rw[c a b];exact f _ _ (h _ b)
theorem fU{v:Value}(c:gd L σ ⟨some d,op,ty,pos,af,g⟩=some true)(hd:ble (d+1) n=true)
  (b:FK σ op=some v) (h:WL P L Q rest n ((d,v)::σ) w):WL P L Q (⟨some d,op,ty,pos,af,g⟩::rest) n σ w:=
 VG c hd (λa e=>FL e b) h
theorem WL.pass(c:gd L σ ⟨some d,op,ty,pos,af,g⟩=some false)(hd:ble (d+1) n=true)(h:WL P L Q rest n ((d,undef)::σ) w):WL P L Q (⟨some d,op,ty,pos,af,g⟩::rest) n σ w:=by unfold WL at*;intro a b;refine TE λK e=>?_;rw[sZ b c,Tm TO];exact e _ _ (h _ (b.put (d:=some d) hd))
theorem fF{s:Nat}{b:Bool}(c:fnd σ s=some (.bool b))(f:b=true->WL P L Q rest n ((s,.bool true)::σ) w)(hf:b=false->WL P L Q rest n ((s,.bool false)::σ) w):WL P L Q rest n σ w:=by
 unfold WL at*;intro a e;cases b with
 |true=>exact f rfl a (e.set c)
 |false=>exact hf rfl a (e.set c)
theorem fH{dd:Option Nat}{j s:Nat}{want b:Bool}(hj:uE L j=some s)(c:fnd σ s=some (.bool b))(a:b=true->WL P L Q (⟨dd,op,ty,pos,af,some (j,want)⟩::rest) n ((s,.bool true)::σ) w)
  (hf:b=false->WL P L Q (⟨dd,op,ty,pos,af,some (j,want)⟩::rest) n ((s,.bool false)::σ) w):WL P L Q (⟨dd,op,ty,pos,af,some (j,want)⟩::rest) n σ w:=fF c a hf
theorem a6{dd:Option Nat}{j s:Nat}{want b:Bool}(a:b=true->WL P L Q (⟨dd,op,ty,pos,af,some (j,want)⟩::rest) n ((s,.bool true)::σ) w)(hf:b=false->WL P L Q (⟨dd,op,ty,pos,af,some (j,want)⟩::rest) n ((s,.bool false)::σ) w)(hj:uE L j=some s:=by exact rfl)(c:fnd σ s=some (.bool b):=by exact rfl):WL P L Q (⟨dd,op,ty,pos,af,some (j,want)⟩::rest) n σ w:=fH hj c a hf
theorem Np{a:Int}(b: -9223372036854775808<=a)(h1:a<9223372036854775808):IntKind.i64.wrap a=a:=IntWalk.i64_in _ ⟨b,by omega⟩
theorem WL.add{t yt:TypeId}{x y:Operand}{a b:Int}(f:gd L σ ⟨some d,.binOp .add t x y yt,ty,pos,af,g⟩=some true)(hd:ble (d+1) n=true)
  (e:ev σ x=some (Ub a)) (c:ev σ y=some (Ub b)) (i: -9223372036854775808<=a+b) (h1:a+b<9223372036854775808) (h:WL P L Q rest n ((d,Ub (a+b))::σ) w):WL P L Q (⟨some d,.binOp .add t x y yt,ty,pos,af,g⟩::rest) n σ w:=by
 refine fU f hd (v:=Ub (a+b)) ?_ h;simp only[FK,e,c,EK];rw[Np i h1]
theorem ga{t yt:TypeId}{x y:Operand}{a b:Int}(f:gd L σ ⟨some d,.binOp .sub t x y yt,ty,pos,af,g⟩=some true)(hd:ble (d+1) n=true)
  (e:ev σ x=some (Ub a)) (c:ev σ y=some (Ub b)) (i: -9223372036854775808<=a -b) (h1:a -b<9223372036854775808) (h:WL P L Q rest n ((d,Ub (a -b))::σ) w):WL P L Q (⟨some d,.binOp .sub t x y yt,ty,pos,af,g⟩::rest) n σ w:=by
 refine fU f hd (v:=Ub (a -b)) ?_ h;simp only[FK,e,c,EK];rw[Np i h1]
end
section
variable {P:Program}{Q:Exit->Act->World->Prop}{n:Nat}{σ:Sg}{w:World}{L rest:List Oper}{d:Nat}{op:Op}{ty:TypeId}{pos:String}{af:Array Edge}{g:Option (Nat×Bool)}
theorem WL.makeFunc{fn:Fn}{fs cs:List Operand}{fv cv:List Value}(c:gd L σ ⟨some d,.makeFunc fn fs.toArray cs.toArray,ty,pos,af,g⟩=some true)(hd:ble (d+1) n=true)
  (hf:pN σ fs=some fv) (e:pN σ cs=some cv) (h:WL P L Q rest n ((d,.func fn fv.toArray cv.toArray)::σ) w):WL P L Q (⟨some d,.makeFunc fn fs.toArray cs.toArray,ty,pos,af,g⟩::rest) n σ w:=by
 refine VG c hd (λa b=>?_) h;have i:=pO b fs fv hf;have f:=pO b cs cv e;simp[execOp,Instr.makeFunc,i,f]
class IsF(P:Program)(f:FuncId):Prop where
 ok:∃fn,P.funcs[f]?=some fn/\fn.body.isSome=true/\(fn.name== "runtime.NumGoroutine")=false
theorem Vz{f:FuncId}{fn:Func}(h:Vy.funcs[f]?=some fn)(b:fn.body.isSome=true:=by rfl)(c:(fn.name== "runtime.NumGoroutine")=false:=by decide):IsF Vy f:=⟨_,h,b,c⟩
theorem jP{f:FuncId}[hf:IsF P f](args:Array Value):(callFunc f args).run P w=.ok (.enter f args) w:=by
 obtain⟨fn,h1,h2,h3⟩:=hf.ok;have h4:fn.body≠none:=by intro e;rw[e]at h2;cases h2
 have a:fn.name≠ "runtime.NumGoroutine":=by simpa using h3
 simp[callFunc,h1,h4,a]
theorem eM{f:FuncId}{x:Operand}{xs:List Operand}{c:Array TypeId}{vs fv cv:List Value}{R:Value->World->Prop}
  (l:gd L σ ⟨some d,.call ⟨.value x,xs.toArray,c⟩,ty,pos,af,g⟩=some true) (hd:ble (d+1) n=true) (i:ev σ x=some (.func (.func f) fv.toArray cv.toArray)) (j:pN σ xs=some vs) [hf:IsF P f]
  (m:Rt P f (fv++vs++cv).toArray w R) (h:∀v w',R v w'->WL P L Q rest n ((d,v)::σ) w'):WL P L Q (⟨some d,.call ⟨.value x,xs.toArray,c⟩,ty,pos,af,g⟩::rest) n σ w:=by
 unfold WL at*;intro a b;refine TE λK o=>?_;rw[sZ b l,Tn rfl];have q:=pO b xs vs j;have p:=b.ev i;have k:(execOp a.eval ⟨some d,.call ⟨.value x,xs.toArray,c⟩,ty,pos,af,g⟩).run P w=.ok (.enter f (fv++vs++cv).toArray) w:=by have:=jP (P:=P) (f:=f) (w:=w) (fv++vs++cv).toArray;simp[execOp,resolve,p,Deferred.ofValue,invoke,q];simpa using this
 unfold Oper.wp;rw[k];refine Oa m ?_;rintro e w' ⟨v,rfl,hR⟩;exact o _ _ (h v w' hR _ (b.put (d:=some d) hd))
theorem WL.call{f:FuncId}{xs:List Operand}{a:Array TypeId}{vs:List Value}{R:Value->World->Prop}
  (c:gd L σ ⟨some d,.call ⟨.value (.func f),xs.toArray,a⟩,ty,pos,af,g⟩=some true) (hd:ble (d+1) n=true) (b:pN σ xs=some vs) [hf:IsF P f]
  (e:Rt P f vs.toArray w R) (h:∀v w',R v w'->WL P L Q rest n ((d,v)::σ) w'):WL P L Q (⟨some d,.call ⟨.value (.func f),xs.toArray,a⟩,ty,pos,af,g⟩::rest) n σ w:=
 eM c hd (fv:=[]) (cv:=[]) rfl b (by simpa using e) h
theorem eK{f:FuncId}{xs:List Operand}{a:Array TypeId}{vs:List Value}{R:Value->World->Prop}[hf:IsF P f](e:Rt P f vs.toArray w R)(h:∀v w',R v w'->WL P L Q rest n ((d,v)::σ) w')(c:gd L σ ⟨some d,.call ⟨.value (.func f),xs.toArray,a⟩,ty,pos,af,g⟩=some true:=by exact rfl)(hd:ble (d+1) n=true:=by exact rfl)(b:pN σ xs=some vs:=by exact rfl):WL P L Q (⟨some d,.call ⟨.value (.func f),xs.toArray,a⟩,ty,pos,af,g⟩::rest) n σ w:=WL.call c hd b e h
end
abbrev bV:=List (List Int)
inductive Rch(g:bV)(from':List Int):Nat->Prop
 |base {x:Int}:x∈from'->Rch g from' x.toNat
 |step {n:Nat} {x:Int}:Rch g from' n->x∈g.getD n []->Rch g from' x.toNat
open Classical in
noncomputable def F6(g:bV)(from':List Int):List Bool:=(range g.length).map λn=>decide (Rch g from' n)
def F8(g:bV)(f:List Int):(F6 g f).length=g.length:=by simp[F6]
def F7{g:bV}{f:List Int}{n:Nat}(h:n<(F6 g f).length):(F6 g f)[n]=true↔Rch g f n:=by
 have a:n<g.length:=by rwa[F8]at h
 simp[F6]
def Dy(n:Nat)(l:List Int):Prop:=∀x∈l,0<=x/\x<n
def okG(g:bV):Prop:=∀l∈g,Dy g.length l
def Dx{g:bV}(h:okG g)(n:Nat):Dy g.length (g.getD n []):=by
 intro x a;by_cases hn:n<g.length
 .rw[Pl,Pq hn]at a;exact h _ (PL hn) x a
 .rw[Pl,Pr TK]at a;simp at a
def E7:bV->List Bool->Nat
 |l::g,s::r=>(match s with|true=>0|false=>l.length+1)+E7 g r
 |_,_=>0
def E9:∀(g:bV) (seen:List Bool) (n:Nat),n<g.length->seen.length=g.length->seen.getD n true=false->E7 g (seen.set n true)+(g.getD n []).length+1=E7 g seen
 |[],_,n,h,_,_=>absurd h TO
 |l::g,[],n,_,h,_=>absurd h TO
 |l::g,s::r,0,_,_,h=>by simp at h;subst h;simp[E7];omega
 |l::g,s::r,n+1,h1,h2,h3=>by have:=E9 g r n (by simpa using h1) (by simpa using h2) (by simpa using h3);simp only[List.set_cons_succ,E7,Pj];omega
def edges(g:bV):Nat:=(g.map List.length).sum
def E_:∀g:bV,E7 g (replicate g.length false)=edges g+g.length
 |[]=>rfl
 |l::g=>by simp only[PY,QR,E7,E_ g,edges,Qg,QX];omega
structure RInv(g:bV)(f:List Int)(seen:List Bool)(todo:List Int):Prop where
 len:seen.length=g.length
 ok:Dy g.length todo
 sound:∀n,seen.getD n false=true->Rch g f n
 tsound:∀x∈todo,Rch g f x.toNat
 base:∀x∈f,seen.getD x.toNat false=true\/x∈todo
 clo:∀n,seen.getD n false=true->∀x∈g.getD n [],seen.getD x.toNat false=true\/x∈todo
def tC{n k:Nat}{b:Bool}(h:n<l.length):(l.set n b).getD k false=if n=k then b else l.getD k false:=by
 simp only[Pl,Py];split
 .subst_vars;simp[h]
 .rfl
def tB{n k:Nat}:(replicate n false).getD k false=false:=by simp only[Pl,Pw];split<;>rfl
def RInv.start{g:bV}{f:List Int}(hf:Dy g.length f):RInv g f (replicate g.length false) f where
 len:=by simp
 ok:=hf
 sound:=λn h=>by rw[tB]at h;cases h
 tsound:=λx a=>.base a
 base:=λx a=>.inr a
 clo:=λn h=>by rw[tB]at h;cases h
def RInv.pass{g:bV}{f:List Int}(h:RInv g f l (m++[x]))(b:l.getD x.toNat false=true):RInv g f l m where
 len:=h.len
 ok:=λy a=>h.ok y (by simp[a])
 sound:=h.sound
 tsound:=λy a=>h.tsound y (by simp[a])
 base:=λy a=>by
  obtain h1|h1:=h.base y a
  .exact .inl h1
  .obtain h2|h2:=Ql.1 h1
   .exact .inr h2
   .simp at h2;subst h2;exact .inl b
 clo:=λn hn y a=>by
  obtain h1|h1:=h.clo n hn y a
  .exact .inl h1
  .obtain h2|h2:=Ql.1 h1
   .exact .inr h2
   .simp at h2;subst h2;exact .inl b
def RInv.mark{g:bV}{f:List Int}(c:okG g)(h:RInv g f l (m++[x])):RInv g f (l.set x.toNat true) (m++g.getD x.toNat []):=by
 have d:=h.ok x TO;have b:x.toNat<l.length:=by rw[h.len];omega
 have key:∀y,l.getD y.toNat false=true\/y∈m++[x]->(l.set x.toNat true).getD y.toNat false=true\/y∈m++g.getD x.toNat []:=by
  intro y a;rw[tC b];obtain h1|h1:=a
  .left;split
   .rfl
   .exact h1
  .obtain h2|h2:=Ql.1 h1
   .exact .inr (by simp[h2])
   .simp at h2;subst h2;left;simp
 refine⟨by simpa using h.len,?_,?_,?_,?_,?_⟩
 .intro y a;obtain h1|h1:=Ql.1 a
  .exact h.ok y (by simp[h1])
  .exact Dx c _ y h1
 .intro n hn;rw[tC b]at hn;split at hn
  .rename_i e;subst e;exact h.tsound x TO
  .exact h.sound n hn
 .intro y a;obtain h1|h1:=Ql.1 a
  .exact h.tsound y (by simp[h1])
  .exact .step (h.tsound x TO) h1
 .intro y a;exact key y (h.base y a)
 .intro n hn y a;rw[tC b]at hn;split at hn
  .rename_i e;subst e;exact .inr (Ql.2 (.inr a))
  .exact key y (h.clo n hn y a)
def RInv.done{g:bV}{f:List Int}(h:RInv g f l []):l=F6 g f:=by
 have all:∀n,Rch g f n->l.getD n false=true:=by
  intro n hn;induction hn with
  |base a=>exact(h.base _ a).resolve_right TO
  |step _ a b=>exact(h.clo _ b _ a).resolve_right TO
 apply O3 (by rw[h.len,F8]);intro n h1 h2;have c:l.getD n false=l[n]:=by simp[Pl,h1]
 rw[NU,F7 h2,<-c];exact⟨h.sound n,all n⟩
def nG(g:bV):Nat->List Bool->List Int->List Bool
 |0,seen,_=>seen
 |k+1,seen,todo=>match todo.reverse with
  |[]=>seen
  |x::r=>match seen.getD x.toNat false with
   |true=>nG g k seen r.reverse
   |false=>nG g k (seen.set x.toNat true) (r.reverse++g.getD x.toNat [])
def nH{g:bV}{f:List Int}(j:okG g):∀(k:Nat) (seen:List Bool) (todo:List Int),RInv g f seen todo->todo.length+E7 g seen<=k->nG g k seen todo=F6 g f:=by
 intro k;induction k with
 |zero=>
  intro seen todo h c;have:todo=[]:=O2 TK;subst this;exact h.done
 |succ k e=>
  intro seen todo h c;unfold nG;split
  .rename_i d;have:todo=[]:=by simpa using d
   subst this;exact h.done
  .rename_i x r d;have i:todo=r.reverse++[x]:=by have:=S9 List.reverse d;simpa using this
   subst i;have l:=h.ok x TO;split
   .rename_i a;exact e _ _ (h.pass a) (by simp at c⊢;omega)
   .rename_i a;have b:x.toNat<seen.length:=by rw[h.len];omega
    have m:=E9 g seen x.toNat TK h.len (by simp only[Pl,Pq b,R1]at a⊢;exact a);exact e _ _ (RInv.mark j h) (by simp only[PX,PY,P5]at c⊢;omega)
def F9{g:bV}{f:List Int}(a:okG g)(hf:Dy g.length f)(k:Nat)(b:f.length+edges g+g.length<=k):F6 g f=nG g k (replicate g.length false) f:=
 (nH a k _ _ (RInv.start hf) (by rw[E_];omega)).symm
def De(n:Nat)(l:List Int):Bool:=l.any λx=>decide (x<0\/x>=n)
def oddB_false{n:Nat}{l:List Int}:De n l=false↔Dy n l:=by
 unfold De Dy;rw[OD];constructor
 .intro h x a;have:=h x a;simp at this;omega
 .intro h x a;have:=h x a;simp;omega
def kL(g:bV):Int:=match decide (g.length>20000),g.any (De g.length)with
 |true,_=>2
 |false,true=>1
 |false,false=>0
def kN{g:bV}(h:kL g=0):okG g/\g.length<=20000:=by
 unfold kL at h;split at h
 .cases h
 .cases h
 .rename_i h1 h2;simp at h1;refine⟨λl a=>oddB_false.1 ?_,h1⟩;rw[OD]at h2;simpa using h2 l a
abbrev cK:=ByteArray×Int
abbrev cJ:=Int×Int
abbrev cM:=List cK×List cJ
def Bb(c:UInt8):Bool:=!(decide (((c.toNat:Nat):Int)<97))&&!(decide (((c.toNat:Nat):Int)>122))
def B9(l:List UInt8):Bool:=!(l==[])&&!(decide ((l.length:Int)>8))&&!(l==[116,114,117,101])&&!(l==[102,97,108,115,101])&&!(l==[115,105,108,101,110,116])&&l.all Bb
abbrev B8(s:ByteArray):Bool:=B9 s.data.toList
def B7(a b:ByteArray):Bool:=a.data.toList==b.data.toList
def CF(ns:List cK)(i:Nat):Int:=
 if !B8 (ns.getD i (⟨#[]⟩,0)).1||decide ((ns.getD i (⟨#[]⟩,0)).2<1)||decide ((ns.getD i (⟨#[]⟩,0)).2>7)then 1
 else if(ns.take i).any (λm=>B7 m.1 (ns.getD i (⟨#[]⟩,0)).1)then 4 else 0
def CQ(ns:List cK):Nat->Nat->Int
 |0,_=>0
 |f+1,i=>if CF ns i≠0 then CF ns i else CQ ns f (i+1)
def CM(ns:List cK):Int:=CQ ns ns.length 0
def CR{ns:List cK}:∀(f i k:Nat),i<=k->k<i+f->(∀j,i<=j->j<k->CF ns j=0)->CF ns k≠0->CQ ns f i=CF ns k
 |0,i,k,h1,h2,_,_=>by omega
 |f+1,i,k,h1,h2,h3,h4=>by
  unfold CQ;by_cases e:i=k
  .subst e;rw[Tn h4]
  .rw[Tm (by rw[h3 i T8 TK];simp)];exact CR f (i+1) k TK TK (λj b a=>h3 j TK a) h4
def CS{ns:List cK}:∀(f i:Nat),(∀j,i<=j->j<i+f->CF ns j=0)->CQ ns f i=0
 |0,_,_=>rfl
 |f+1,i,h=>by unfold CQ;rw[Tm (by rw[h i T8 TK];simp)];exact CS f (i+1) (λj h1 h2=>h j TK TK)
def CO{ns:List cK}{k:Nat}(b:k<ns.length)(a:∀j,j<k->CF ns j=0)(h:CF ns k≠0):CM ns=CF ns k:=CR _ 0 k (RU _) TK (λj _=>a j) h
def CP{ns:List cK}(a:∀j,j<ns.length->CF ns j=0):CM ns=0:=CS _ 0 (λj _ h=>a j TK)
def CN{ns:List cK}(h:CM ns=0):∀j,j<ns.length->CF ns j=0:=by
 intro j;induction j using Nat.strongRecOn with
 |_ j a=>
  intro hj;apply Ob;intro hn;have:=CO hj (λk b=>a k b TK) hn;exact hn (by rw[<-this];exact h)
def mw(kind:Int)(i o:Nat):Bool:=
 if kind=1 then decide (i=0)&&decide (o=1)
 else if kind=2\/kind=3 then decide (0<i)&&decide (o=0)
 else if kind=4 then decide (0<i)&&decide (o=1)
 else if kind=7 then if o>4 then false else decide (0<i)&&decide (0<o)
 else if kind=5\/kind=6 then decide (0<i)&&decide (0<o)
 else false
def yX(fl:List cJ)(n:Int)(k:Nat):List Int:=((range k).filter λi=>(fl.getD i (0,0)).2==n).map λi:Nat=>(i:Int)
def D4(fl:List cJ)(n:Int)(k:Nat):List Int:=((range k).filter λi=>(fl.getD i (0,0)).1==n).map λi:Nat=>(i:Int)
abbrev yV(fl:List cJ)(n:Int):List Int:=yX fl n fl.length
abbrev D2(fl:List cJ)(n:Int):List Int:=D4 fl n fl.length
def yZ{fl:List cJ}{n:Int}{k:Nat}:yX fl n (k+1)=yX fl n k++if((fl.getD k (0,0)).2==n)=true then [(k:Int)]else []:=by
 unfold yX;rw[QQ,O5,Qe];congr 1;by_cases e:((fl.getD k (0,0)).2==n)=true
 .rw[Tn e];simp only[O7,e,O_];rfl
 .rw[Tm e];simp only[O7,e,O_];rfl
def D6{fl:List cJ}{n:Int}{k:Nat}:D4 fl n (k+1)=D4 fl n k++if((fl.getD k (0,0)).1==n)=true then [(k:Int)]else []:=by
 unfold D4;rw[QQ,O5,Qe];congr 1;by_cases e:((fl.getD k (0,0)).1==n)=true
 .rw[Tn e];simp only[O7,e,O_];rfl
 .rw[Tm e];simp only[O7,e,O_];rfl
def yY{fl:List cJ}{n:Int}{k:Nat}:(yX fl n k).length<=k:=by unfold yX;rw[P4];exact Rr (P3 _ _) TO
def D5{fl:List cJ}{n:Int}{k:Nat}:(D4 fl n k).length<=k:=by unfold D4;rw[P4];exact Rr (P3 _ _) TO
def insP_mem{fl:List cJ}{n:Int}{k:Nat}:x∈yX fl n k↔∃i:Nat,x=(i:Int)/\i<k/\(fl.getD i (0,0)).2=n:=by
 unfold yX;rw[Qv];constructor
 .rintro⟨i,h1,rfl⟩;have:=Qs.1 h1;exact⟨i,rfl,QA.1 this.1,by simpa using this.2⟩
 .rintro⟨i,rfl,h1,h2⟩;exact⟨i,Qs.2 ⟨QA.2 h1,by simpa using h2⟩,rfl⟩
def outsP_mem{fl:List cJ}{n:Int}{k:Nat}:x∈D4 fl n k↔∃i:Nat,x=(i:Int)/\i<k/\(fl.getD i (0,0)).1=n:=by
 unfold D4;rw[Qv];constructor
 .rintro⟨i,h1,rfl⟩;have:=Qs.1 h1;exact⟨i,rfl,QA.1 this.1,by simpa using this.2⟩
 .rintro⟨i,rfl,h1,h2⟩;exact⟨i,Qs.2 ⟨QA.2 h1,by simpa using h2⟩,rfl⟩
def rN(n:Nat)(f:cJ):Bool:=decide (f.1<0)||decide (f.1>=n)||decide (f.2<0)||decide (f.2>=n)
def rR(n:Nat)(fl:List cJ):bV:=(range n).map λk:Nat=>(fl.filter λf=>f.1==(k:Int)).map (·.2)
def JC(ns:List cK)(k:Nat):List Nat:=(range k).filter λi=>(ns.getD i (⟨#[]⟩,0)).2==1
def iN(p:cM)(i:Nat):Bool:=!mw (p.1.getD i (⟨#[]⟩,0)).2 (yV p.2 i).length (D2 p.2 i).length
open Classical in
noncomputable def kX(p:cM):Int:=if∃n,n<p.1.length/\¬Rch (rR p.1.length p.2) (((JC p.1 p.1.length).getLast?.map λn:Nat=>(n:Int)).toList) n then 6 else 0
noncomputable def kU(p:cM):Int:=
 if p.1.length>20\/p.2.length>30 then 2 else if CM p.1≠0 then CM p.1
 else if p.2.any (rN p.1.length)=true then 1 else if(JC p.1 p.1.length).length≠1 then 1
 else if(range p.1.length).any (iN p)=true then 1
 else kX p
structure OkPr(p:cM):Prop where
 n:p.1.length<=20
 f:p.2.length<=30
 nodes:∀i,i<p.1.length->CF p.1 i=0
 flows:∀f∈p.2,0<=f.1/\f.1<p.1.length/\0<=f.2/\f.2<p.1.length
 start:(JC p.1 p.1.length).length=1
 count:∀i,i<p.1.length->mw (p.1.getD i (⟨#[]⟩,0)).2 (yV p.2 i).length (D2 p.2 i).length=true
def kV{p:cM}(h:kU p=0):OkPr p:=by
 unfold kU at h;split at h
 .cases h
 split at h
 .rename_i h1 h2;exact absurd h h2
 split at h
 .cases h
 split at h
 .cases h
 split at h
 .cases h
 rename_i h1 h2 h3 h4 a;refine⟨by omega,by omega,CN (by simpa using h2),λf hf=>?_,by simpa using h4,λi hi=>?_⟩
 .have h3:=OD.1 (by simpa using h3) f hf;unfold rN at h3;simp at h3;omega
 .have a:=OD.1 (by simpa using a) i (QA.2 hi);unfold iN at a;simpa using a
class Rep(α:Type)where
 sz:Nat
 pos:0<sz
 agg:Bool
 rd:World->(Nat->Prop)->List Value->α->Prop
 len:∀{w F cs x},rd w F cs x->cs.length=sz
 one:∀{w F cs x},rd w F cs x->∀v∈cs,v.oneCell'=true
 szAgg:agg=false->sz=1
 mono:∀{w w' F F' cs x},rd w F cs x->(∀b,F b->w'.heap[b]?=w.heap[b]?)->(∀b,F b->F' b)->rd w' F' cs x
abbrev sz(α:Type)[Rep α]:Nat:=Rep.sz α
abbrev rd{α:Type}[Rep α]:World->(Nat->Prop)->List Value->α->Prop:=Rep.rd
def Me(α:Type)[Rep α](cs:List Value):Value:=match Rep.agg α with
 |true=>.agg cs.toArray
 |false=>cs.headD undef
def Rd{α:Type}[Rep α](w:World)(F:Nat->Prop)(v:Value)(x:α):Prop:=∃cs,v=Me α cs/\rd w F cs x
def Rd.mono[Rep α]{w':World}{F':Nat->Prop}{x:α}(h:Rd w F v x)(c:∀b,F b->w'.heap[b]?=w.heap[b]?)(hF:∀b,F b->F' b):Rd w' F' v x:=by obtain⟨cs,e,a⟩:=h;exact⟨cs,e,Rep.mono a c hF⟩
def V8:=@Rd.mono
def Mf[Rep α]{cs:List Value}{x:α}(h:rd w F cs x):(Me α cs).cells.toList=cs:=by
 unfold Me;split
 .simp[Value.cells]
 .rename_i a;have h1:=Rep.len h;rw[Rep.szAgg a]at h1
  match cs,h1 with
  |[v],_=>
   have:=Rep.one h v TO;cases v<;>first|rfl|(simp[Value.oneCell']at this)
instance:Rep Int where
 sz:=1
 pos:=by decide
 agg:=false
 rd:=λ_ _ cs x=>cs=[Ub x]
 len:=by intro w F cs x h;subst h;rfl
 one:=by intro w F cs x h v a;subst h;simp at a;subst a;rfl
 szAgg:=λ_=>rfl
 mono:=λh _ _=>h
instance:Rep Bool where
 sz:=1
 pos:=by decide
 agg:=false
 rd:=λ_ _ cs x=>cs=[.bool x]
 len:=by intro w F cs x h;subst h;rfl
 one:=by intro w F cs x h v a;subst h;simp at a;subst a;rfl
 szAgg:=λ_=>rfl
 mono:=λh _ _=>h
instance:Rep Nat where
 sz:=1
 pos:=by decide
 agg:=false
 rd:=λ_ _ cs x=>cs=[.int .u64 (x:Int)]/\x<18446744073709551616
 len:=by intro w F cs x h;rw[h.1];rfl
 one:=by intro w F cs x h v a;rw[h.1]at a;simp at a;subst a;rfl
 szAgg:=λ_=>rfl
 mono:=λh _ _=>h
instance:Rep ByteArray where
 sz:=1
 pos:=by decide
 agg:=false
 rd:=λ_ _ cs x=>cs=[.string x]/\x.size<=maxLen
 len:=by intro w F cs x h;rw[h.1];rfl
 one:=by intro w F cs x h v a;rw[h.1]at a;simp at a;subst a;rfl
 szAgg:=λ_=>rfl
 mono:=λh _ _=>h
def Cells(w:World)(b off:Nat)(cs:List Value):Prop:=∀j u,cs[j]?=some u->w.cell? ⟨b,off+j,none⟩=some u
def Cells.mono{w':World}{b:Nat}{cs:List Value}(h:Cells w b B cs)(e:w'.heap[b]?=w.heap[b]?):Cells w' b B cs:=
 λj u c=>(World.cell?_of_block (w:=w) (a:=⟨b,B+j,none⟩) e).trans (h j u c)
structure Sl{α:Type}[Rep α](w:World)(F:Nat->Prop)(ao:Option Addr)(cap:Nat)(xs:List α):Prop where
 le:xs.length<=cap
 mx:cap<=maxLen
 nil:ao=none->cap=0
 el:∀i (h:i<xs.length),∃b off,ao=some ⟨b,off,none⟩/\F b/\∃es,Cells w b (off+i*sz α) es/\rd w F es xs[i]
def Sl.mono[Rep α]{w':World}{F':Nat->Prop}{ao:Option Addr}{cap:Nat}{xs:List α}(h:Sl w F ao cap xs)(a:∀b,F b->w'.heap[b]?=w.heap[b]?)(hF:∀b,F b->F' b):Sl w' F' ao cap xs:=by refine⟨h.le,h.mx,h.nil,λi hi=>?_⟩;obtain⟨b,off,e,hf,j,f,c⟩:=h.el i hi;exact⟨b,off,e,hF b hf,j,f.mono (a b hf),Rep.mono c a hF⟩
instance vF{α:Type}[Rep α]:Rep (List α)where
 sz:=1
 pos:=by decide
 agg:=false
 rd:=λw F cs xs=>∃ao cap,cs=[.slice ao xs.length cap]/\Sl w F ao cap xs
 len:=by rintro w F cs x ⟨ao,cap,e,_⟩;subst e;rfl
 one:=by rintro w F cs x ⟨ao,cap,e,_⟩ v a;subst e;simp at a;subst a;rfl
 szAgg:=λ_=>rfl
 mono:=by rintro w w' F F' cs x ⟨ao,cap,e,h⟩ b hF;exact⟨ao,cap,e,h.mono b hF⟩
def Rd.sl[Rep α]{xs:List α}(h:Rd w F v xs):∃ao cap,v=.slice ao xs.length cap/\Sl w F ao cap xs:=by obtain⟨cs,e,ao,cap,rfl,a⟩:=h;exact⟨ao,cap,e,a⟩
def Sl.rd[Rep α]{ao:Option Addr}{cap:Nat}{xs:List α}(h:Sl w F ao cap xs):Rd w F (.slice ao xs.length cap) xs:=⟨[.slice ao xs.length cap],rfl,ao,cap,rfl,h⟩
def Sl.len63[Rep α]{ao:Option Addr}{cap:Nat}{xs:List α}(h:Sl w F ao cap xs):xs.length<=9223372036854775807:=by have:=h.le;have:=h.mx;unfold maxLen at this;omega
def Rd.int(h:Rd w F v x):v=Ub x:=by obtain⟨cs,e,rfl⟩:=h;exact e
def Rd.bool{x:Bool}(h:Rd w F v x):v=.bool x:=by obtain⟨cs,e,rfl⟩:=h;exact e
def Rd.u64{x:Nat}(h:Rd w F v x):v=.int .u64 (x:Int)/\x<18446744073709551616:=by obtain⟨cs,e,rfl,h2⟩:=h;exact⟨e,h2⟩
def Rd.str{x:ByteArray}(h:Rd w F v x):v=.string x/\x.size<=maxLen:=by obtain⟨cs,e,rfl,h2⟩:=h;exact⟨e,h2⟩
def Rd.mkInt(w:World)(F:Nat->Prop)(x:Int):Rd w F (Ub x) x:=⟨_,rfl,rfl⟩
def V0:=@Rd.mkInt
def Rd.mkBool(w:World)(F:Nat->Prop)(x:Bool):Rd w F (.bool x) x:=⟨_,rfl,rfl⟩
def VF:=@Rd.mkBool
def Rd.mkStr(w:World)(F:Nat->Prop)(x:ByteArray)(h:x.size<=maxLen):Rd w F (.string x) x:=⟨_,rfl,rfl,h⟩
def dk(w:World):Nat->Prop:=λb=>b<w.heap.size
abbrev Ext(w w':World):Prop:=Below w.heap.size w w'
def Ext.refl(w:World):Ext w w:=NP _ _
def p7:=@Ext.refl
def Ext.trans{a b c:World}(h:Ext a b)(k:Ext b c):Ext a c:=Below.trans h (k.mono h.size)
def VB:=@Ext.trans
section
variable {α:Type}[Rep α]{w w' w0:World}{v:Value}{x:α}{ao:Option Addr}{cap:Nat}{xs:List α}
theorem Sl.at(h:Sl w0 (dk w0) ao cap xs)(c:Below w0.heap.size w0 w):Sl w (dk w0) ao cap xs:=h.mono (λb a=>c.block b a) λ_ h=>h
theorem Sl.lift{F:Nat->Prop}(h:Sl w F ao cap xs)(hF:∀b,F b->b<w.heap.size):Sl w (dk w) ao cap xs:=h.mono T5 hF
theorem Sl.up(h:Sl w0 (dk w0) ao cap xs)(c:Below w0.heap.size w0 w):Sl w (dk w) ao cap xs:=h.mono (λb a=>c.block b a) λb a=>Rv a c.size
theorem Cells.lt{b off:Nat}{cs:List Value}(h:Cells w b off cs)(hn:0<cs.length):b<w.heap.size:=
 SX w _ (h 0 cs[0] (by simp[hn]))
end
def gx:TypeDesc->Bool|.struct _=>true|.array _ _=>true|_=>false
class IsT(P:Program)(t:TypeId)(α:Type)[Rep α]:Prop where
 ok:∃i d,P.info? t=some i/\i.size=sz α/\P.underlying t=some d/\gx d=Rep.agg α
class IsS(P:Program)(t:TypeId)(e:outParam TypeId):Prop where
 ok:P.underlying t=some (.slice e)
class IsZ(P:Program)(t:TypeId){α:Type}[Rep α](x:outParam α)(bytes:outParam Nat):Prop where
 ok:∃i z,P.info? t=some i/\i.zero=some z/\i.bytes=bytes/\∀w F,rd w F z.cells.toList x
theorem IsT.of[Rep α]{d:TypeDesc}(h:(P.info? t).map (λi=>beq i.size (sz α))=some true)(a:P.underlying t=some d)
  (hd:gx d=Rep.agg α):IsT P t α:=by
 obtain⟨i,hi,b⟩:=R2.1 h;exact⟨i,d,hi,Ri b,a,hd⟩
abbrev VL:=@IsT.of
theorem IsZ.of[Rep α]{x:α}{bytes:Nat}{z:Value}(h:(P.info? t).map (λi=>(i.zero,i.bytes))=some (some z,bytes))(b:∀w F,rd w F z.cells.toList x):IsZ P t x bytes:=by obtain⟨i,hi,a⟩:=R2.1 h;simp only[R7]at a;exact⟨i,z,hi,a.1,a.2,b⟩
abbrev VV:=@IsZ.of
def IsT.info[Rep α][h:IsT P t α]:∃i,P.info? t=some i/\i.size=sz α:=by obtain⟨i,d,h1,h2,_⟩:=h.ok;exact⟨i,h1,h2⟩
def Wm:=@IsT.info
def HS[Rep α][IsT P t α](w:World):(sizeOf t).run P w=.ok (sz α) w:=by obtain⟨i,h1,h2⟩:=Wm (P:=P) (t:=t) (α:=α);simp[sizeOf,typeInfo,h1,h2]
def Hv[Rep α][h:IsT P t α](w:World):(isAgg t).run P w=.ok (Rep.agg α) w:=by obtain⟨i,d,h1,h2,h3,h4⟩:=h.ok;unfold isAgg;rw[Sb,TA h3 w];rw[<-h4];cases d<;>rfl
def HB[Rep α][IsT P t α]{b:Nat}{cs:List Value}{x:α}(c:Cells w b B cs)(f:rd w F cs x):
  (loadVar t ⟨b,B,none⟩).run P w=.ok (Me α cs) w:=by
 have a:cs.length=sz α:=Rep.len f;unfold loadVar;rw[Sb,Hv (α:=α) w];simp only[Sa];unfold Me;cases h:Rep.agg α with
 |true=>
  simp only[To];rw[Sb,HS (α:=α) w];simp only[Sa];rw[Sb,<-a,Tx w ⟨b,B,none⟩ cs (λj v e=>by rw[SW];exact c j v e)];rfl
 |false=>
  rw[show sz α=1 from Rep.szAgg h]at a
  match cs,a with
  |[v],_=>
   have:=c 0 v rfl;simp only[Re]at this;simp[this]
section
variable {P:Program}{Q:Exit->Act->World->Prop}{n:Nat}{σ:Sg}{w:World}{L rest:List Oper}{d:Nat}{op:Op}{ty:TypeId}{pos:String}{af:Array Edge}{g:Option (Nat×Bool)}
theorem fB{t e:TypeId}{x:Operand}{ao:Option Addr}{k cap:Nat}(f:gd L σ ⟨some d,.call ⟨.builtin .len,#[x],#[t]⟩,ty,pos,af,g⟩=some true)(hd:ble (d+1) n=true)
  (b:ev σ x=some (.slice ao k cap)) [c:IsS P t e] (h:WL P L Q rest n ((d,Ub (k:Int))::σ) w):WL P L Q (⟨some d,.call ⟨.builtin .len,#[x],#[t]⟩,ty,pos,af,g⟩::rest) n σ w:=by
 refine VG f hd (λa i=>?_) h;simp[execOp,resolve,invoke,builtin,i.ev b,Builtin.len_,TA c.ok,goInt]
theorem fk{α:Type}[Rep α]{t e:TypeId}{x ix:Operand}{b off:Nat}{k cap:Nat}{i:Int}{kd:IntKind}(l:gd L σ ⟨some d,.indexAddr t x ix,ty,pos,af,g⟩=some true)(hd:ble (d+1) n=true)
  (f:ev σ x=some (.slice (some ⟨b,off,none⟩) k cap)) (hi:ev σ ix=some (.int kd i)) [j:IsS P t e] [o:IsT P e α] (m:0<=i) (h1:i<k)
  (h:WL P L Q rest n ((d,.pointer (some ⟨b,off+i.toNat*sz α,none⟩))::σ) w):WL P L Q (⟨some d,.indexAddr t x ix,ty,pos,af,g⟩::rest) n σ w:=by
 refine VG l hd (λa c=>?_) h;simp[execOp,c.ev f,c.ev hi,Instr.indexAt,asIntOf,TA j.ok,m,h1,HS (α:=α),SW]
theorem WL.load{α:Type}[Rep α]{t:TypeId}{x:Operand}{b off:Nat}{F:Nat->Prop}{cs:List Value}{y:α}(f:gd L σ ⟨some d,.load t x,ty,pos,af,g⟩=some true)(hd:ble (d+1) n=true)
  (c:ev σ x=some (.pointer (some ⟨b,off,none⟩))) [k:IsT P t α] (i:Cells w b off cs) (e:rd w F cs y)
  (h:WL P L Q rest n ((d,Me α cs)::σ) w):WL P L Q (⟨some d,.load t x,ty,pos,af,g⟩::rest) n σ w:=by
 refine VG f hd (λa j=>?_) h;simp[execOp,j.ev c,Instr.loadAt,Instr.sureAddr,HB i e]
def VQ:=@WL.load
theorem eX{α:Type}[Rep α]{t e:TypeId}{x ix:Operand}{ao:Option Addr}{cap a:Nat}{xs:List α}{F:Nat->Prop}{i:Int}{kd:IntKind}{ty':TypeId}{pos':String}{af':Array Edge}{k:Option (Nat×Bool)}
  (m:gd L σ ⟨some d,.indexAddr t x ix,ty,pos,af,g⟩=some true) (hd:ble (d+1) n=true) (hd':ble (a+1) n=true)
  (l:ev σ x=some (.slice ao xs.length cap)) (hi:ev σ ix=some (.int kd i)) [y:IsS P t e] [s:IsT P e α] (c:Sl w F ao cap xs) (q:0<=i) (h1:i<xs.length)
  (f:∀p,gd L ((d,.pointer p)::σ) ⟨some a,.load e (.tmp d),ty',pos',af',k⟩=some true)
  (h:∀u p,Rd w F u (xs[i.toNat]'TK)->WL P L Q rest n ((a,u)::(d,.pointer p)::σ) w):
  WL P L Q (⟨some d,.indexAddr t x ix,ty,pos,af,g⟩::⟨some a,.load e (.tmp d),ty',pos',af',k⟩::rest) n σ w:=by
 obtain⟨b,off,rfl,hF,r,o,j⟩:=c.el i.toNat TK;exact fk (α:=α) m hd l hi q h1 (VQ (α:=α) (f _) hd' sd o j (h _ _ ⟨r,rfl,j⟩))
theorem fd{α:Type}[Rep α]{t e:TypeId}{x ix:Operand}{ao:Option Addr}{cap a:Nat}{xs:List α}{F:Nat->Prop}{i:Nat}{kd:IntKind}{ty':TypeId}{pos':String}{af':Array Edge}{f:Option (Nat×Bool)}
  (l:gd L σ ⟨some d,.indexAddr t x ix,ty,pos,af,g⟩=some true) (hd:ble (d+1) n=true) (hd':ble (a+1) n=true)
  (j:ev σ x=some (.slice ao xs.length cap)) (hi:ev σ ix=some (.int kd (i:Int))) [o:IsS P t e] [m:IsT P e α] (b:Sl w F ao cap xs) (h1:i<xs.length)
  (c:∀p,gd L ((d,.pointer p)::σ) ⟨some a,.load e (.tmp d),ty',pos',af',f⟩=some true)
  (h:∀u p,Rd w F u xs[i]->WL P L Q rest n ((a,u)::(d,.pointer p)::σ) w):
  WL P L Q (⟨some d,.indexAddr t x ix,ty,pos,af,g⟩::⟨some a,.load e (.tmp d),ty',pos',af',f⟩::rest) n σ w:=
 eX l hd hd' j hi b TK TK c (λu p k=>h u p (by simpa using k))
theorem fe{α:Type}[Rep α]{t e:TypeId}{x ix:Operand}{ao:Option Addr}{cap a:Nat}{xs:List α}{F:Nat->Prop}{i:Nat}{kd:IntKind}{ty':TypeId}{pos':String}{af':Array Edge}{f:Option (Nat×Bool)}[m:IsS P t e][l:IsT P e α](b:Sl w F ao cap xs)(h1:i<xs.length)(c:∀p,gd L ((d,.pointer p)::σ) ⟨some a,.load e (.tmp d),ty',pos',af',f⟩=some true)(h:∀u p,Rd w F u xs[i]->WL P L Q rest n ((a,u)::(d,.pointer p)::σ) w)(k:gd L σ ⟨some d,.indexAddr t x ix,ty,pos,af,g⟩=some true:=by exact rfl)(hd:ble (d+1) n=true:=by exact rfl)(hd':ble (a+1) n=true:=by exact rfl)(j:ev σ x=some (.slice ao xs.length cap):=by exact rfl)(hi:ev σ ix=some (.int kd (i:Int)):=by exact rfl):WL P L Q (⟨some d,.indexAddr t x ix,ty,pos,af,g⟩::⟨some a,.load e (.tmp d),ty',pos',af',f⟩::rest) n σ w:=fd k hd hd' j hi b h1 c h
theorem eZ{t e:TypeId}{x ix:Operand}{ao:Option Addr}{cap a:Nat}{xs:List Int}{F:Nat->Prop}{i:Nat}{y:Int}{kd:IntKind}{ty':TypeId}{pos':String}{af':Array Edge}{f:Option (Nat×Bool)}
  (m:gd L σ ⟨some d,.indexAddr t x ix,ty,pos,af,g⟩=some true) (hd:ble (d+1) n=true) (hd':ble (a+1) n=true)
  (k:ev σ x=some (.slice ao xs.length cap)) (hi:ev σ ix=some (.int kd (i:Int))) [q:IsS P t e] [o:IsT P e Int] (b:Sl w F ao cap xs) (h1:i<xs.length) (j:xs[i]=y)
  (c:∀p,gd L ((d,.pointer p)::σ) ⟨some a,.load e (.tmp d),ty',pos',af',f⟩=some true)
  (h:∀p,WL P L Q rest n ((a,Ub y)::(d,.pointer p)::σ) w):
  WL P L Q (⟨some d,.indexAddr t x ix,ty,pos,af,g⟩::⟨some a,.load e (.tmp d),ty',pos',af',f⟩::rest) n σ w:=
 fd m hd hd' k hi b h1 c (λu p l=>by rw[l.int,j];exact h p)
theorem e_{t e:TypeId}{x ix:Operand}{ao:Option Addr}{cap a:Nat}{xs:List Int}{F:Nat->Prop}{i:Nat}{y:Int}{kd:IntKind}{ty':TypeId}{pos':String}{af':Array Edge}{f:Option (Nat×Bool)}[o:IsS P t e][m:IsT P e Int](b:Sl w F ao cap xs)(h1:i<xs.length)(j:xs[i]=y)(c:∀p,gd L ((d,.pointer p)::σ) ⟨some a,.load e (.tmp d),ty',pos',af',f⟩=some true)(h:∀p,WL P L Q rest n ((a,Ub y)::(d,.pointer p)::σ) w)(l:gd L σ ⟨some d,.indexAddr t x ix,ty,pos,af,g⟩=some true:=by exact rfl)(hd:ble (d+1) n=true:=by exact rfl)(hd':ble (a+1) n=true:=by exact rfl)(k:ev σ x=some (.slice ao xs.length cap):=by exact rfl)(hi:ev σ ix=some (.int kd (i:Int)):=by exact rfl):WL P L Q (⟨some d,.indexAddr t x ix,ty,pos,af,g⟩::⟨some a,.load e (.tmp d),ty',pos',af',f⟩::rest) n σ w:=eZ l hd hd' k hi b h1 j c h
theorem eY{t e:TypeId}{x ix:Operand}{ao:Option Addr}{cap a:Nat}{xs:List Bool}{F:Nat->Prop}{i:Nat}{y:Bool}{kd:IntKind}{ty':TypeId}{pos':String}{af':Array Edge}{f:Option (Nat×Bool)}
  (m:gd L σ ⟨some d,.indexAddr t x ix,ty,pos,af,g⟩=some true) (hd:ble (d+1) n=true) (hd':ble (a+1) n=true)
  (k:ev σ x=some (.slice ao xs.length cap)) (hi:ev σ ix=some (.int kd (i:Int))) [q:IsS P t e] [o:IsT P e Bool] (b:Sl w F ao cap xs) (h1:i<xs.length) (j:xs[i]=y)
  (c:∀p,gd L ((d,.pointer p)::σ) ⟨some a,.load e (.tmp d),ty',pos',af',f⟩=some true)
  (h:∀p,WL P L Q rest n ((a,.bool y)::(d,.pointer p)::σ) w):
  WL P L Q (⟨some d,.indexAddr t x ix,ty,pos,af,g⟩::⟨some a,.load e (.tmp d),ty',pos',af',f⟩::rest) n σ w:=
 fd m hd hd' k hi b h1 c (λu p l=>by rw[l.bool,j];exact h p)
theorem WL.box{e:TypeId}{x:Operand}{v:Value}(c:gd L σ ⟨some d,.box e x,ty,pos,af,g⟩=some true)(hd:ble (d+1) n=true)
  (b:ev σ x=some v) (h:WL P L Q rest n ((d,Uc w.heap.size)::σ) (w.alloc (.cells v.cells e))):WL P L Q (⟨some d,.box e x,ty,pos,af,g⟩::rest) n σ w:=by
 refine VG c hd (λa f=>?_) h;simp[execOp,f.ev b,Instr.box,newVar,newRow]
end
def FnV(P:Program)(fv:Value)(args:List Value)(w:World)(R:Value->World->Prop):Prop:=
 ∃f fs cs,fv=.func (.func f) (List.toArray fs) (List.toArray cs)/\IsF P f/\Rt P f (fs++args++cs).toArray w R
def FnV.mk{f:FuncId}{cs:List Value}[hf:IsF P f](h:Rt P f (r++cs).toArray w c):FnV P (.func (.func f) [].toArray cs.toArray) r w c:=
 ⟨f,[],cs,rfl,hf,h⟩
def VE:=@FnV.mk
def FnV.mono{fv:Value}{R':Value->World->Prop}(h:FnV P fv r w c)(a:∀v w',c v w'->R' v w'):FnV P fv r w R':=by obtain⟨f,fs,cs,e,hf,h⟩:=h;exact⟨f,fs,cs,e,hf,h.mono a⟩
def eL{n:Nat}{σ:Sg}{rest:List Oper}{d:Nat}{ty:TypeId}{g:Option (Nat×Bool)}
  {x:Operand} {xs:List Operand}  {vs:List Value} {fv:Value} 
  (i:gd L σ ⟨some d,.call ⟨.value x,xs.toArray,I⟩,ty,H,j,g⟩=some true) (hd:ble (d+1) n=true) (b:ev σ x=some fv) (e:pN σ xs=some vs)
  (a:FnV P fv vs w c) (h:∀v w',c v w'->WL P L Q rest n ((d,v)::σ) w'):WL P L Q (⟨some d,.call ⟨.value x,xs.toArray,I⟩,ty,H,j,g⟩::rest) n σ w:=by
 obtain⟨f,fs,cs,rfl,hf,a⟩:=a;exact eM i hd b e a h
def Ext.alloc(w:World)(o:Obj):Ext w (w.alloc o):=(NP _ _).alloc T8 o
def V6:=@Ext.alloc
def Cells.alloc(w:World)(cs:Array Value)(e:TypeId):Cells (w.alloc (.cells cs e)) w.heap.size 0 cs.toList:=by intro j u a;rw[World.cell?_alloc_new];simpa using a
section
variable {α:Type}[Rep α]{w w':World}{F F':Nat->Prop}
def Elems(w:World)(F:Nat->Prop)(cells:List Value)(xs:List α):Prop:=
 cells.length=xs.length*sz α/\∀i (h:i<xs.length),rd w F ((cells.drop (i*sz α)).take (sz α)) xs[i]
theorem Elems.mono{cells:List Value}{xs:List α}(h:Elems w F cells xs)(a:∀b,F b->w'.heap[b]?=w.heap[b]?)(hF:∀b,F b->F' b):Elems w' F' cells xs:=
 ⟨h.1,λi hi=>Rep.mono (h.2 i hi) a hF⟩
theorem Elems.nil:Elems w F [] ([]:List α):=⟨by simp,λi hi=>absurd hi TO⟩
def VW:=@Elems.nil
theorem Elems.one{cs:List Value}{x:α}(h:rd w F cs x):Elems w F cs [x]:=by
 have a:cs.length=sz α:=Rep.len h;refine⟨by simpa using a,λi hi=>?_⟩;have:i=0:=by simpa using hi
 subst this;simpa[<-a]using h
def Wd:=@Elems.one
theorem Elems.append{c1 c2:List Value}{xs ys:List α}(h1:Elems w F c1 xs)(h2:Elems w F c2 ys):Elems w F (c1++c2) (xs++ys):=by
 refine⟨by rw[PX,PX,h1.1,h2.1,Q9],λi hi=>?_⟩;by_cases a:i<xs.length
 .have b:(i+1)*sz α<=c1.length:=by rw[h1.1];exact RD _ a
  rw[Q9,RH]at b;rw[OU TK,List.take_append_of_le_length (by rw[PZ];omega),PB a];exact h1.2 i a
 .have c:xs.length<=i:=Rp a;have hj:i -xs.length<ys.length:=by rw[PX]at hi;omega
  rw[PC c];have e:i*sz α=c1.length+(i -xs.length)*sz α:=by rw[h1.1,<-Q9];congr 1;omega
  rw[e,OT];have h:c1.drop (c1.length+(i -xs.length)*sz α)=[]:=OY TK;rw[h,QE];have f:c1.length+(i -xs.length)*sz α -c1.length=(i -xs.length)*sz α:=by omega
  rw[f];exact h2.2 _ hj
theorem Elems.take{cells:List Value}{xs:List α}(h:Elems w F cells xs)(k:Nat)(c:k<=xs.length):Elems w F (cells.take (k*sz α)) (xs.take k):=by
 have a:k*sz α<=cells.length:=by rw[h.1];exact RD _ c
 refine⟨by rw[Qb,Qb,Ry a,Ry c],λi hi=>?_⟩;have b:i<k:=by rw[Qb]at hi;omega
 have f:(i+1)*sz α<=k*sz α:=RD _ b;rw[Q9,RH]at f;rw[List.drop_take,List.take_take,Ry TK,PS];exact h.2 i TK
theorem Elems.drop{cells:List Value}{xs:List α}(h:Elems w F cells xs)(k:Nat)(a:k<=xs.length):Elems w F (cells.drop (k*sz α)) (xs.drop k):=by refine⟨by rw[PZ,PZ,h.1,Nat.sub_mul],λi hi=>?_⟩;rw[PZ]at hi;rw[OW,PH,<-Q9];exact h.2 (k+i) TK
theorem Elems.rep{cs:List Value}{x:α}(h:∀w F,rd w F cs x)(n:Nat):Elems w F ((replicate n cs).flatten) (replicate n x):=by
 induction n with
 |zero=>exact VW
 |succ n a=>
  rw[QR,QR,Pf];exact(Wd (h w F)).append a
theorem Elems.ones{cells:List Value}{xs:List α}(h:Elems w F cells xs):∀v∈cells,v.oneCell'=true:=by
 intro v c;obtain⟨j,hj,rfl⟩:=Qu.1 c;have b:0<sz α:=Rep.pos;have hi:j / sz α<xs.length:=by rw[Rh b,<-h.1];exact hj
 refine Rep.one (h.2 _ hi) _ ?_;have f:=Nat.mod_add_div j (sz α);have a:=RA j b;rw[Nat.mul_comm]at f;refine List.mem_iff_getElem?.2 ⟨j % sz α,?_⟩;rw[PA a,Pp];have:j / sz α*sz α+j % sz α=j:=by omega
 rw[this];exact Pq hj
def over(cells:List Value)(o:Nat)(a:List Value):List Value:=cells.take o++a++cells.drop (o+a.length)
theorem Elems.set{cells a:List Value}{xs:List α}{y:α}(h:Elems w F cells xs)(b:rd w F a y)(k:Nat)(c:k<xs.length):Elems w F (over cells (k*sz α) a) (xs.set k y):=by
 have f:a.length=sz α:=Rep.len b;have h1:=(h.take k TK).append (Wd b);have h2:=h1.append (h.drop (k+1) c);have e:(k+1)*sz α=k*sz α+a.length:=by rw[Q9,RH,f]
 rw[e]at h2;have i:xs.set k y=xs.take k++[y]++xs.drop (k+1):=by rw[QU,Tn c];simp
 rw[i];exact h2
end
section
variable {α:Type}[Rep α]
structure OwnAt(w:World)(B:Nat)(e:TypeId)(F:Nat->Prop)(g off cap:Nat)(cur:Array Value)(xs:List α):Prop where
 blk:w.heap[g]?=some (.cells cur e (0,0))
 ge:B<=g
 nF:¬F g
 le:xs.length<=cap
 mx:cap<=maxLen
 fit:off+cap*sz α<=cur.size
 el:Elems w F ((cur.toList.drop off).take (xs.length*sz α)) xs
def Own(w:World)(B:Nat)(e:TypeId)(F:Nat->Prop)(v:Value)(xs:List α):Prop:=
 (v=.slice none 0 0/\xs=[])\/∃g off cap cur,v=.slice (some ⟨g,off,none⟩) xs.length cap/\OwnAt w B e F g off cap cur xs
def dh:Nat->Prop:=λ_=>False
end
section
variable {α:Type}[Rep α]{w w':World}{B:Nat}{e:TypeId}{F F':Nat->Prop}{v:Value}{xs:List α}
theorem Own.nil:Own w B e F (.slice none 0 0) ([]:List α):=.inl ⟨rfl,rfl⟩
def r3:=@Own.nil
theorem Own.lt(h:Own w B e F v xs):∀g,v.ownBlock=some g->B<=g/\g<w.heap.size/\¬F g:=by
 intro g a;obtain⟨rfl,_⟩|⟨b,off,cap,cur,rfl,h⟩:=h
 .simp[Value.ownBlock]at a
 .simp[Value.ownBlock]at a;subst a;exact⟨h.ge,(NB.1 h.blk).1,h.nF⟩
theorem Own.keep(h:Own w B e F v xs)(a:∀g,v.ownBlock=some g->w'.heap[g]?=w.heap[g]?)(hF:∀b,F b->w'.heap[b]?=w.heap[b]?):Own w' B e F v xs:=by
 obtain hn|⟨g,off,cap,cur,rfl,h⟩:=h
 .exact .inl hn
 .exact .inr ⟨g,off,cap,cur,rfl,⟨(a g rfl).trans h.blk,h.ge,h.nF,h.le,h.mx,h.fit,h.el.mono hF λ_ h=>h⟩⟩
theorem Own.wk(h:Own w B e F v xs)(hF:∀b,F b->F' b)(hn:∀g,v.ownBlock=some g->¬F' g):Own w B e F' v xs:=by
 obtain hn|⟨g,off,cap,cur,rfl,h⟩:=h
 .exact .inl hn
 .exact .inr ⟨g,off,cap,cur,rfl,⟨h.blk,h.ge,hn g rfl,h.le,h.mx,h.fit,h.el.mono T5 hF⟩⟩
theorem Own.low(h:Own w B e F v xs){B':Nat}(a:B'<=B):Own w B' e F v xs:=by
 obtain hn|⟨g,off,cap,cur,rfl,h⟩:=h
 .exact .inl hn
 .exact .inr ⟨g,off,cap,cur,rfl,⟨h.blk,Rr a h.ge,h.nF,h.le,h.mx,h.fit,h.el⟩⟩
theorem Own.kept(h:Own w B e F v xs){row:Option Nat}(f:w.grownBy w' row)(c:∀g,v.ownBlock=some g->some g≠row)(hF:∀b,F b->b<w.heap.size/\some b≠row):Own w' B e F v xs:=
 h.keep (λg a=>f.block g (h.lt g a).2.1 (c g a)) λb i=>f.block b (hF b i).1 (hF b i).2
theorem Own.ext(h:Own w B e F v xs)(c:Ext w w')(hF:∀b,F b->b<w.heap.size):Own w' B e F v xs:=
 h.keep (λg a=>c.block g (h.lt g a).2.1) λb f=>c.block b (hF b f)
theorem Own.keptN(h:Own w B e dh v xs){row:Option Nat}(b:w.grownBy w' row)(a:∀g,v.ownBlock=some g->some g≠row):Own w' B e dh v xs:=h.kept b a λ_ h=>h.elim
theorem Own.extN(h:Own w B e dh v xs)(a:Ext w w'):Own w' B e dh v xs:=h.ext a λ_ h=>h.elim
theorem mI{cur:Array Value}{off m j:Nat}{u:Value}(h:((cur.toList.drop off).take m)[j]?=some u):cur[off+j]?=some u:=by
 rw[Pz]at h;split at h
 .rw[Pp]at h;simpa using h
 .cases h
theorem Own.sl(h:Own w B e F v xs):∃ao cap,v=.slice ao xs.length cap/\Sl w (λb=>F b\/v.ownBlock=some b) ao cap xs:=by
 obtain⟨rfl,rfl⟩|⟨g,off,cap,cur,rfl,h⟩:=h
 .exact⟨none,0,rfl,⟨by simp,by simp[maxLen],λ_=>rfl,λi hi=>absurd hi TO⟩⟩
 .refine⟨some ⟨g,off,none⟩,cap,rfl,⟨h.le,h.mx,(λe=>by cases e),λi hi=>⟨g,off,rfl,.inr rfl,_,?_,Rep.mono (h.el.2 i hi) T5 λ_ h=>.inl h⟩⟩⟩;intro j u a;rw[Pz]at a;split at a
  .rw[Pp]at a;rw[S8 w g _ cur e (0,0) h.blk];have:=mI a;rw[<-this];congr 1;omega
  .cases a
theorem Own.rd(h:Own w B e F v xs):Rd w (λb=>F b\/v.ownBlock=some b) v xs:=by obtain⟨ao,cap,rfl,a⟩:=h.sl;exact a.rd
theorem Own.old(h:Own w B e F v xs)(hF:∀b,F b->b<w.heap.size):Rd w (dk w) v xs:=h.rd.mono T5 λb c=>c.elim (hF b) (λa=>(h.lt b a).2.1)
theorem Own.oldN(h:Own w B e dh v xs):Rd w (dk w) v xs:=h.old λ_ h=>h.elim
theorem Own.slF(h:Own w B e F v xs)(hF:∀b,F b->F' b)(a:∀g,v.ownBlock=some g->F' g):∃ao cap,v=.slice ao xs.length cap/\Sl w F' ao cap xs:=by obtain⟨ao,cap,e,c⟩:=h.sl;exact⟨ao,cap,e,c.mono T5 λb f=>f.elim (hF b) (λh=>a b h)⟩
theorem Own.val(h:Own w B e F v xs):∃ao cap,v=.slice ao xs.length cap:=by obtain⟨ao,cap,e,_⟩:=h.sl;exact⟨ao,cap,e⟩
theorem Own.made(w:World)(B:Nat)(e:TypeId)(F:Nat->Prop)(cur:Array Value)(xs:List α)(f:B<=w.heap.size)(hn:¬F w.heap.size)(a:xs.length<=maxLen)
  (hF:∀b,F b->b<w.heap.size) (h:Elems w F cur.toList xs):
  Own (w.alloc (.cells cur e)) B e F (.slice (some ⟨w.heap.size,0,none⟩) xs.length xs.length) xs:=by
 refine .inr ⟨w.heap.size,0,xs.length,cur,rfl,⟨Tk w _,f,hn,Rq _,a,?_,?_⟩⟩
 .have:=h.1;simp at this⊢;omega
 .have i:(cur.toList.drop 0).take (xs.length*sz α)=cur.toList:=by rw[O1];exact Q1 (Rn h.1)
  rw[i];exact h.mono (λb c=>NO w _ b (hF b c)) λ_ h=>h
theorem uz(w:World)(o:Obj)(row:Option Nat):w.grownBy (w.alloc o) row:=World.grownBy_alloc w o row
theorem Bn(z:Array Value)(n:Nat)(h:0<z.size):(madeCells z (n*z.size)).toList=(replicate n z.toList).flatten:=by
 apply O4;intro j;induction n generalizing j with
 |zero=>simp[madeCells]
 |succ n c=>
  rw[QR,Pf];by_cases hj:j<z.size
  .have h1:j<(n+1)*z.size:=by rw[Q9,RH];omega
   rw[Pm (by simpa using hj)];simp[madeCells,h1,Rz hj,hj]
  .have b:z.toList.length<=j:=by simpa using Rp hj
   rw[Pn b,<-c];have f:(j -z.size) % z.size=j % z.size:=by rw[<-Nat.mod_eq_sub_mod TK]
   by_cases a:j<(n+1)*z.size
   .have h2:j -z.size<n*z.size:=by rw[Q9,RH]at a;omega
    simp[madeCells,a,h2,f]
   .have h2:¬j -z.size<n*z.size:=by rw[Q9,RH]at a;omega
    simp[madeCells,a,h2]
end
section
variable {P:Program}{α:Type}[Rep α]{w:World}{B:Nat}{e t ty:TypeId}{F:Nat->Prop}{v:Value}{xs ys:List α}{x0:α}{bytes:Nat}
theorem HD[p:IsS P t e][s:IsT P e α][o:IsZ P e x0 bytes](n:Nat)(kl kc:IntKind)(u:n*bytes<=281474976710656)(l:n<=maxLen)(q:B<=w.heap.size)(hn:¬F w.heap.size)(hF:∀b,F b->b<w.heap.size):
  ∃w',(Instr.makeSlice t (.int kl (n:Int)) (.int kc (n:Int))).run P w=.ok (.slice (some ⟨w.heap.size,0,none⟩) n n) w'/\Own w' B e F (.slice (some ⟨w.heap.size,0,none⟩) n n) (replicate n x0)/\w.grownBy w' none:=by
 obtain⟨i,z,h1,h2,h3,h4⟩:=o.ok;obtain⟨m,j,r⟩:=Wm (P:=P) (t:=e) (α:=α);obtain rfl:i=m:=R4 (h1.symm.trans j);have a:z.cells.size=sz α:=by have:=Rep.len (h4 w F);simpa using this
 have c:=l;unfold maxLen at c;have f:(i.bytes:Int)*(n:Int)<=281474976710656:=by
  have h:((n*bytes:Nat):Int)<=281474976710656:=by omega
  rw[h3,Or];rwa[Int.natCast_mul]at h
 have k:=run_make (P:=P) w t e i z p.ok h1 h2 kl kc n n TK (On _) f TK;simp only[Oy]at k;refine⟨_,k,?_,uz w _ none⟩;have:=Own.made w B e F (madeCells z.cells (n*i.size)) (replicate n x0) q hn (by simpa using l) hF (by rw[r,<-a,Bn _ _ (by rw[a];exact Rep.pos)];exact Elems.rep h4 n);simpa using this
theorem Sl.cells{ao:Option Addr}{cap:Nat}{G:Nat->Prop}(h:Sl w G ao cap ys):∃a:List Value,a.length=ys.length*sz α/\Elems w G a ys/\∀b,ao=some b->ys≠[]->∀j u,a[j]?=some u->w.cell? (b.add j)=some u:=by
 have key:∀k,k<=ys.length->∃a:List Value,a.length=k*sz α/\Elems w G a (ys.take k)/\∀b,ao=some b->ys≠[]->∀j u,a[j]?=some u->w.cell? (b.add j)=some u:=by
  intro k;induction k with
  |zero=>intro _;exact⟨[],by simp,by simpa using VW,λb _ _ j u f=>by simp at f⟩
  |succ k q=>
   intro o;obtain⟨a,h1,h2,h3⟩:=q TK;obtain⟨b,off,l,_,p,s,m⟩:=h.el k o;have r:p.length=sz α:=Rep.len m;refine⟨a++p,by rw[PX,h1,r,Q9,RH],?_,?_⟩
   .rw[Q4 o];exact h2.append (Wd m)
   .intro x c i j u f;by_cases hj:j<a.length
    .rw[Pm hj]at f;exact h3 x c i j u f
    .rw[Pn TK]at f;rw[l]at c;cases c;rw[SW];have:=s (j -a.length) u f;rw[<-this];congr 2;rw[<-h1];omega
 obtain⟨a,h1,h2,h3⟩:=key ys.length T8;exact⟨a,h1,by simpa using h2,h3⟩
theorem Kw{cur:List Value}{off n m:Nat}{a:List Value}(hn:a.length=m)(b:off+n+m<=cur.length):
  ((cur.take (off+n)++a++cur.drop (off+n+m)).drop off).take (n+m)=(cur.drop off).take n++a:=by
 apply O4;intro j;rw[Pz];by_cases hj:j<n+m
 .rw[Tn hj,Pp];by_cases h1:j<n
  .rw[Pm TR,Pm TR,Pm TR];rw[PA TK,PA h1,Pp]
  .rw[Pm TR,Pn TR,Pn TR];congr 1;simp;omega
 .rw[Tm hj,Pr];simp;omega
def d8(w:World)(F:Nat->Prop)(ao:Option Addr)(ys:List α):Prop:=
 (ao=none->ys=[])/\∃a:List Value,Elems w F a ys/\∀b,ao=some b->ys≠[]->∀j u,a[j]?=some u->w.cell? (b.add j)=some u
theorem Own.src{ao:Option Addr}{cap:Nat}(h:Own w B e F (.slice ao ys.length cap) ys):d8 w F ao ys:=by
 obtain⟨h1,rfl⟩|⟨g,off,cp,cur,h1,a⟩:=h
 .exact⟨λ_=>rfl,[],VW,λ_ _ h=>absurd rfl h⟩
 .obtain⟨rfl,_,rfl⟩:=SV h1;refine⟨(λe=>by cases e),_,a.el,λb f _ j u c=>?_⟩;cases f;rw[SW,S8 w g _ cur e (0,0) a.blk];exact mI c
theorem Hn[C:IsS P t e][ht:IsT P e α][hz:IsZ P e x0 bytes]{ao:Option Addr}{cap:Nat}(E:Own w B e F v xs)(hy:d8 w F ao ys)
  (hB:B<=w.heap.size) (hF:∀b,F b->b<w.heap.size) (hm:xs.length+ys.length<=maxLen) (y:(xs.length+ys.length)*bytes<=140737488355328):
  ∃M w',(Builtin.append_ #[t,t] ty #[v,.slice ao ys.length cap]).run P w=.ok M w'/\Own w' B e F M (xs++ys)/\w.grownBy w' v.ownBlock/\(∀g,M.ownBlock=some g->v.ownBlock=some g\/w.heap.size<=g):=by
 obtain⟨i,z,h1,h2,h3,h4⟩:=hz.ok;obtain⟨i',h1',K⟩:=Wm (P:=P) (t:=e) (α:=α);obtain rfl:i=i':=R4 (h1.symm.trans h1');have N:z.cells.size=sz α:=by have:=Rep.len (h4 w F);simpa using this
 have G:=hm;unfold maxLen at G;obtain⟨m,a,X,Z⟩:=hy;have r:=X.1;have T:∀u∈a,u.oneCell'=true:=X.ones;have J:∀w':World,(∀b,F b->w'.heap[b]?=w.heap[b]?)->Elems w' F a ys:=λw' R=>X.mono R λ_ h=>h;have U:¬F w.heap.size:=λh=>by have:=hF _ h;omega
 have news0:ys.length=0->a=[]:=λh=>O2 (by rw[r,h,Nat.zero_mul]);have grow:∀(olds:List Value) (old:Nat),Elems w F olds xs->∀row:Option Nat,old<=maxLen->xs.length+ys.length<=grownCap w (xs.length+ys.length) old e->
   Own (w.drew.alloc (.cells (olds.toArray++a.toArray++Builtin.zeroCells z.cells (grownCap w (xs.length+ys.length) old e -(xs.length+ys.length))) e)) B e F
    (.slice (some ⟨w.heap.size,0,none⟩) (xs.length+ys.length) (grownCap w (xs.length+ys.length) old e)) (xs++ys)/\
   w.grownBy (w.drew.alloc (.cells (olds.toArray++a.toArray++Builtin.zeroCells z.cells (grownCap w (xs.length+ys.length) old e -(xs.length+ys.length))) e)) row:=by
  intro olds old c row _ W;have Y:grownCap w (xs.length+ys.length) old e<=maxLen:=grownCap_le_maxLen w _ old e hm;have hh:∀b,F b->(w.drew.alloc (.cells (olds.toArray++a.toArray++Builtin.zeroCells z.cells (grownCap w (xs.length+ys.length) old e -(xs.length+ys.length))) e)).heap[b]?=w.heap[b]?:=
   λb y=>NO w.drew _ b (hF b y)
  have H:(olds++a).length=(xs++ys).length*sz α:=by rw[PX,PX,c.1,r,Q9]
  refine⟨.inr ⟨w.heap.size,0,_,_,by rw[PX],⟨Tk w.drew _,hB,U,by simpa using W,Y,?_,?_⟩⟩,⟨rfl,rfl,rfl,by simp,λk V _=>NO w.drew _ k V⟩⟩
  .simp only[RT,Array.size_append,QW,size_zeroCells,N,c.1,r,<-Q9];exact RD _ TK
  .have e1:((olds.toArray++a.toArray++Builtin.zeroCells z.cells (grownCap w (xs.length+ys.length) old e -(xs.length+ys.length))).toList.drop 0).take ((xs++ys).length*sz α)=olds++a:=by simp only[Array.toList_append,O1];rw[<-H];exact List.take_left
   rw[e1];exact(c.mono hh λ_ h=>h).append (J _ hh)
 obtain⟨rfl,rfl⟩|⟨g,off,cp,cur,rfl,c⟩:=E
 .by_cases f:ys.length=0
  .have hn:=news0 f;subst hn;have O:ys=[]:=O2 f;subst O;refine⟨.slice none 0 0,w,?_,r3,⟨rfl,rfl,rfl,Rq _,λ_ _ _=>rfl⟩,λg h=>.inl h⟩;cases ao with
   |none=>simp[Builtin.append_,TA C.ok,sizeOf,typeInfo,h1,Builtin.lenOf,Builtin.firstCells]
   |some b=>simp[Builtin.append_,TA C.ok,sizeOf,typeInfo,h1,Builtin.lenOf,Builtin.firstCells,loadCells,loadCellsFrom]
  .have p:ys≠[]:=λe=>f (by rw[e];rfl);obtain⟨b,rfl⟩:∃b,ao=some b:=by
    cases ao with
    |none=>exact absurd (m rfl) p
    |some b=>exact⟨b,rfl⟩
   have hb0:ys.length*i.bytes<=281474976710656:=by rw[h3];simp only[P5,RT]at y;omega
   have S:=run_append_nil (P:=P) w t ty e i z C.ok h1 h2 _ ys.length cap a (by rw[r,K]) (Z _ rfl p) TK (by simp only[P5]at G;omega) hb0;have o:=grow [] 0 VW (Value.ownBlock (.slice none 0 0)) (by simp[maxLen]) (grownCap_ge _ _ _ _);simp only[P5,RT]at o;exact⟨_,_,S,by simpa using o.1,by simpa using o.2,λg h=>.inr (by simp[Value.ownBlock]at h;omega)⟩
 .have olds_len:((cur.toList.drop off).take (xs.length*sz α)).length=xs.length*sz α:=c.el.1;by_cases l:xs.length+ys.length<=cp
  .
   have q:off+xs.length*sz α+a.length<=cur.size:=by have h6:(xs.length+ys.length)*sz α<=cp*sz α:=RD _ l;have h7:=c.fit;rw[Q9]at h6;rw[r];omega
   have I:(Builtin.firstCells (sz α) ys.length (.slice ao ys.length cap)).run P w=.ok a.toArray w:=by
    cases ao with
    |none=>
     have:ys.length=0:=by rw[m rfl];rfl
     rw[news0 this];simp[Builtin.firstCells]
    |some b=>
     by_cases f:ys.length=0
     .rw[news0 f,f];simp[Builtin.firstCells,loadCells,loadCellsFrom]
     .exact run_firstCells_some (P:=P) w (sz α) ys.length b ys.length cap a r (Z b rfl (λe=>f (by rw[e];rfl)))
   have A:=Tz P g (off+xs.length*sz α) e a 0 cur w c.blk (by simpa using q) T;simp only[Re]at A;have D:(Builtin.append_ #[t,t] ty #[.slice (some ⟨g,off,none⟩) xs.length cp,.slice ao ys.length cap]).run P w=
     .ok (.slice (some ⟨g,off,none⟩) (xs.length+ys.length) cp) (w.setRow g (cur.toList.take (off+xs.length*sz α)++a++cur.toList.drop (off+xs.length*sz α+a.length)).toArray):=by
    simp[Builtin.append_,TA C.ok,sizeOf,typeInfo,h1,Builtin.lenOf,l,K,I,SW,A]
   refine⟨_,_,D,.inr ⟨g,off,cp,_,by rw[PX],⟨TB w g cur _ e _ c.blk,c.ge,c.nF,by simpa using l,c.mx,?_,?_⟩⟩,⟨rfl,rfl,rfl,by simp,λk _ V=>TC w g k _ (λe=>V (by simp[Value.ownBlock,e]))⟩,λg h=>.inl h⟩
   .have h7:=c.fit;simp only[QW,PX,Qb,PZ,NI];omega
   .have hh:∀b,F b->(w.setRow g (cur.toList.take (off+xs.length*sz α)++a++cur.toList.drop (off+xs.length*sz α+a.length)).toArray).heap[b]?=w.heap[b]?:=
     λb y=>TC w g b _ (λe=>c.nF (e▸y))
    have e1:(((cur.toList.take (off+xs.length*sz α)++a++cur.toList.drop (off+xs.length*sz α+a.length)).toArray.toList.drop off).take ((xs++ys).length*sz α))=(cur.toList.drop off).take (xs.length*sz α)++a:=by
     rw[PX,Q9];have h8:off+xs.length*sz α+ys.length*sz α<=cur.toList.length:=by rw[r]at q;rw[NI];exact q
     have h9:=Kw (cur:=cur.toList) r h8;rw[r];exact h9
    rw[e1];exact(c.el.mono hh λ_ h=>h).append (J _ hh)
  .have s:0<ys.length:=by have:=c.le;omega
   have p:ys≠[]:=λe=>by rw[e]at s;exact absurd s TO
   obtain⟨b,rfl⟩:∃b,ao=some b:=by
    cases ao with
    |none=>exact absurd (m rfl) p
    |some b=>exact⟨b,rfl⟩
   have x:Builtin.nextslicecap (xs.length+ys.length) cp*i.bytes<=281474976710656:=growslice_fits TK (by rw[h3];exact y);have S:=run_append_grow (P:=P) w t ty e i z C.ok h1 h2 ⟨g,off,none⟩ xs.length cp ((cur.toList.drop off).take (xs.length*sz α)) (by rw[olds_len,K])
    (λj u hu=>by rw[SW,S8 w g _ cur e (0,0) c.blk];exact mI hu)
    _ ys.length cap a (by rw[r,K]) (Z _ rfl p) TK TK x
   have o:=grow ((cur.toList.drop off).take (xs.length*sz α)) cp c.el (Value.ownBlock (.slice (some ⟨g,off,none⟩) xs.length cp)) c.mx (grownCap_ge _ _ _ _);exact⟨_,_,S,o.1,o.2,λg h=>.inr (by simp[Value.ownBlock]at h;omega)⟩
end
class Flat(α:Type)[Rep α]:Prop where
 ok:∀{w w':World} {F F':Nat->Prop} {cs:List Value} {x:α},rd w F cs x->rd w' F' cs x
instance:Flat Int:=⟨λh=>h⟩
section
variable {P:Program}{Q:Exit->Act->World->Prop}{n:Nat}{σ:Sg}{w:World}{L rest:List Oper}{d:Nat}{ty:TypeId}{pos:String}{af:Array Edge}{g:Option (Nat×Bool)}
variable {α:Type}[Rep α]{e t:TypeId}{x0:α}{bytes:Nat}{F:Nat->Prop}
theorem fI{x y:Operand}{k:Nat}{kl kc:IntKind}(o:gd L σ ⟨some d,.makeSlice t x y,ty,pos,af,g⟩=some true)(hd:ble (d+1) n=true)
  (i:ev σ x=some (.int kl (k:Int))) (f:ev σ y=some (.int kc (k:Int))) [s:IsS P t e] [r:IsT P e α] [q:IsZ P e x0 bytes] (p:k*bytes<=281474976710656) (m:k<=maxLen)
  (h:∀w',Own w' w.heap.size e dh (.slice (some ⟨w.heap.size,0,none⟩) k k) (replicate k x0)->w.grownBy w' none->WL P L Q rest n ((d,.slice (some ⟨w.heap.size,0,none⟩) k k)::σ) w'):
  WL P L Q (⟨some d,.makeSlice t x y,ty,pos,af,g⟩::rest) n σ w:=by
 obtain⟨w',j,l,b⟩:=HD (P:=P) (t:=t) (e:=e) (x0:=x0) (w:=w) (B:=w.heap.size) (F:=dh) k kl kc p m T8 (λh=>h) TY;refine VG o hd (λa c=>?_) (h w' l b);simp[execOp,c.ev i,c.ev f,j]
theorem HA(w:World)[a:IsS P t e][b:IsT P e α]:(Instr.buildSlice t 0 #[]).run P w=.ok (.slice (some ⟨w.heap.size,0,none⟩) 0 0) (w.alloc (.cells #[] e)):=by simp[Instr.buildSlice,TA a.ok,HS (α:=α),Instr.fill,newRow,Array.range_zero']
theorem fD(b:gd L σ ⟨some d,.buildSlice t 0 [].toArray,ty,pos,af,g⟩=some true)(hd:ble (d+1) n=true)[f:IsS P t e][c:IsT P e α]
  (h:∀w',Own w' w.heap.size e dh (.slice (some ⟨w.heap.size,0,none⟩) 0 0) ([]:List α)->w.grownBy w' none->WL P L Q rest n ((d,.slice (some ⟨w.heap.size,0,none⟩) 0 0)::σ) w'):
  WL P L Q (⟨some d,.buildSlice t 0 [].toArray,ty,pos,af,g⟩::rest) n σ w:=by
 refine VG b hd (λa i=>?_) (h _ (Own.made w w.heap.size e dh #[] ([]:List α) T8 (λh=>h) (by simp[maxLen]) TY VW) (uz w _ none));have:=HA (P:=P) (t:=t) (e:=e) (α:=α) w;simp[execOp];rw[this];rfl
theorem WL.app{x y:Operand}{v:Value}{xs ys:List α}{ao:Option Addr}{cap B:Nat}(r:gd L σ ⟨some d,.call ⟨.builtin .append,#[x,y],#[t,t]⟩,ty,pos,af,g⟩=some true)(hd:ble (d+1) n=true)
  (m:ev σ x=some v) (l:ev σ y=some (.slice ao ys.length cap)) [C:IsS P t e] [A:IsT P e α] [z:IsZ P e x0 bytes] (f:Own w B e F v xs) (i:d8 w F ao ys) (u:B<=w.heap.size) (hF:∀b,F b->b<w.heap.size)
  (q:xs.length+ys.length<=maxLen) (s:(xs.length+ys.length)*bytes<=140737488355328)
  (h:∀c w',Own w' B e F c (xs++ys)->w.grownBy w' v.ownBlock->(∀g,c.ownBlock=some g->v.ownBlock=some g\/w.heap.size<=g)->WL P L Q rest n ((d,c)::σ) w'):
  WL P L Q (⟨some d,.call ⟨.builtin .append,#[x,y],#[t,t]⟩,ty,pos,af,g⟩::rest) n σ w:=by
 obtain⟨c,w',o,p,j,hnb⟩:=Hn (P:=P) (t:=t) (ty:=ty) (cap:=cap) f i u hF q s;refine VG r hd (λa k=>?_) (h c w' p j hnb);simp[execOp,resolve,invoke,builtin,k.ev m,k.ev l,o]
def V7:=@WL.app
theorem Sl.srcN[b:Flat α]{ao:Option Addr}{cap:Nat}{ys:List α}{G:Nat->Prop}(h:Sl w G ao cap ys):d8 w F ao ys:=by obtain⟨a,h1,h2,h3⟩:=h.cells;refine⟨λe=>O2 ?_,a,⟨h2.1,λi hi=>b.ok (h2.2 i hi)⟩,h3⟩;have:=h.nil e;have:=h.le;omega
end
def yh{β:Type}:Nat->List β->List (Nat×β)
 |_,[]=>[]
 |k,x::r=>(k,x)::yh (k+1) r
def I_{β:Type}:List (Nat×β)->List β
 |[]=>[]
 |(_,x)::r=>x::I_ r
def yi{β γ:Type}(f:β->γ):∀(l:List β) (k:Nat),(yh k l).map (λp=>(p.1,f p.2))=yh k (l.map f)
 |[],_=>rfl
 |x::r,k=>by simp[yh,yi f r]
section
variable {α:Type}[Rep α]
def RdAll(w:World)(F:Nat->Prop):List Value->List α->Prop
 |[],[]=>True
 |v::vs,y::ys=>Rd w F v y/\RdAll w F vs ys
 |_,_=>False
theorem RdAll.nil{w:World}{F:Nat->Prop}:RdAll w F [] ([]:List α):=trivial
theorem RdAll.cons{w:World}{F:Nat->Prop}{v:Value}{y:α}{vs:List Value}{ys:List α}(h:Rd w F v y)(a:RdAll w F vs ys):RdAll w F (v::vs) (y::ys):=⟨h,a⟩
theorem RdAll.len{w:World}{F:Nat->Prop}:∀{vs:List Value} {ys:List α},RdAll w F vs ys->vs.length=ys.length
 |[],[],_=>rfl
 |v::vs,y::ys,h=>by simp[RdAll.len h.2]
 |[],_::_,h=>h.elim
 |_::_,[],h=>h.elim
theorem sf:∀(a:List Value) (k:Nat) (cells:Array Value),k+a.length<=cells.size->
  a.zipIdx.foldl (λ(cs:Array Value) (x:Value×Nat)=>cs.setIfInBounds (k+x.2) x.1) cells=(cells.toList.take k++a++cells.toList.drop (k+a.length)).toArray:=by
 intro a;have key:∀(a:List Value) (k j:Nat) (cells:Array Value),k+j+a.length<=cells.size->
   (a.zipIdx j).foldl (λ(cs:Array Value) (x:Value×Nat)=>cs.setIfInBounds (k+x.2) x.1) cells=(cells.toList.take (k+j)++a++cells.toList.drop (k+j+a.length)).toArray:=by
  intro a;induction a with
  |nil=>intro k j cells b;simp
  |cons u a f=>
   intro k j cells b;simp only[List.zipIdx_cons,Ph];rw[f k (j+1) _ (by simp at b⊢;omega)];congr 1;simp only[Array.toList_setIfInBounds];have c:k+j<cells.toList.length:=by simp at b⊢;omega
   rw[<-Nat.add_assoc,Q4 (by simpa using c),Q2 T8,List.drop_set_of_lt TK];simp[Nat.add_assoc,Q8 1]
 intro k cells b;have:=key a k 0 cells (by simpa using b);simpa using this
theorem qY{w:World}{F:Nat->Prop}:∀(vs:List Value) (ys:List α) (k:Nat) (cells:Array Value),RdAll w F vs ys->cells.size=(k+ys.length)*sz α->
  ∃out:List Value,Instr.fill (λi=>some (i*sz α,sz α)) cells (yh k vs)=some (cells.toList.take (k*sz α)++out).toArray/\Elems w F out ys
 |[],[],k,cells,_,b=>⟨[],by simp only[yh,Instr.fill,OH,R5];rw[Q1 (by simp at b⊢;omega)],VW⟩
 |v::vs,y::ys,k,cells,h,b=>by
  obtain⟨cs,q,f⟩:=h.1;have o:cs.length=sz α:=Rep.len f;have a:v.cells=cs.toArray:=by rw[q];apply Nv;simpa using Mf f
  have l:(k+1)*sz α<=cells.size:=by rw[b];exact RD _ TO
  rw[Q9,RH]at l;have hf:=sf cs (k*sz α) cells TK;obtain⟨out,ho1,ho2⟩:=qY vs ys (k+1) (cells.toList.take (k*sz α)++cs++cells.toList.drop (k*sz α+cs.length)).toArray h.2 (by
   simp only[QW,PX,Qb,PZ,NI];have:(k+1+ys.length)*sz α=cells.size:=by rw[b];congr 1;simp;omega
   rw[this];omega)
  refine⟨cs++out,?_,(Wd f).append ho2⟩;have p:Array.foldl (λ(cs:Array Value) (x:Value×Nat)=>cs.setIfInBounds (k*sz α+x.2) x.1) cells v.cells.zipIdx=(cells.toList.take (k*sz α)++cs++cells.toList.drop (k*sz α+cs.length)).toArray:=by rw[<-Nx,NL,a];simpa using hf
  simp only[yh,Instr.fill];rw[Tm (by simp[a,o];omega)];have h1:(v.cells.zipIdx.foldl (λcs x=>cs.setIfInBounds (k*sz α+x.2) x.1) cells)=(cells.toList.take (k*sz α)++cs++cells.toList.drop (k*sz α+cs.length)).toArray:=p;have h2:(v.cells.zipIdx.foldl (λcs (x:Value×Nat)=>match x with|(c,j)=>cs.setIfInBounds (k*sz α+j) c) cells)=(cells.toList.take (k*sz α)++cs++cells.toList.drop (k*sz α+cs.length)).toArray:=h1;rw[h2,ho1];congr 2;rw[<-OG];congr 1;have m:(cells.toList.take (k*sz α)++cs).length=(k+1)*sz α:=by rw[PX,Qb,NI,o,Q9,RH];omega
  rw[<-m];exact List.take_left
 |[],_::_,_,_,h,_=>h.elim
 |_::_,[],_,_,h,_=>h.elim
theorem Hz{P:Program}{e t:TypeId}{x0:α}{bytes:Nat}(w:World){vs:List Value}{ys:List α}{G:Nat->Prop}[k:IsS P t e][l:IsT P e α][b:IsZ P e x0 bytes](h:RdAll w G vs ys)(j:ys.length*sz α<=16777216):
  ∃out:List Value,(Instr.buildSlice t ys.length (yh 0 vs).toArray).run P w=.ok (.slice (some ⟨w.heap.size,0,none⟩) ys.length ys.length) (w.alloc (.cells out.toArray e))/\Elems w G out ys:=by
 obtain⟨i,z,h1,h2,h3,h4⟩:=b.ok;have m:0<sz α:=Rep.pos;unfold Instr.buildSlice;simp only[Sb,TA k.ok,Sa,HS (α:=α)];rw[Tm TK];by_cases a:ys.length*sz α=0
 .have c:ys=[]:=O2 (by
   obtain h|h:=Nat.mul_eq_zero.1 a
   .exact h
   .omega)
  subst c;have f:vs=[]:=O2 (by simpa using h.len);subst f;refine⟨[],?_,VW⟩;simp[yh,Instr.fill,newRow,Array.range_zero']
 .rw[Tm a];obtain⟨out,ho1,ho2⟩:=qY vs ys 0 ((Array.range (ys.length*sz α)).map (λx=>z.cells[x % z.cells.size]!)) h TO;refine⟨out,?_,ho2⟩;simp only[Nat.zero_mul,Q5,QE]at ho1;simp[zeroValue,typeInfo,h1,h2,ho1,newRow]
end
section
variable {P:Program}{Q:Exit->Act->World->Prop}{n:Nat}{σ:Sg}{w:World}{L rest:List Oper}{d:Nat}{ty:TypeId}{pos:String}{af:Array Edge}{g:Option (Nat×Bool)}
variable {α:Type}[Rep α]{e t:TypeId}{x0:α}{bytes:Nat}{F:Nat->Prop}
theorem WL.lit{len:Nat}{parts:List (Nat×Operand)}{vs:List Value}{ys:List α}(o:gd L σ ⟨some d,.buildSlice t len parts.toArray,ty,pos,af,g⟩=some true)(hd:ble (d+1) n=true)
  (k:yh 0 (I_ parts)=parts) (j:pN σ (I_ parts)=some vs) [A:IsS P t e] [z:IsT P e α] [y:IsZ P e x0 bytes] (f:len=ys.length) (l:RdAll w F vs ys) (i:ys.length*sz α<=16777216) (hF:∀b,F b->b<w.heap.size)
  (h:∀w',Own w' w.heap.size e F (.slice (some ⟨w.heap.size,0,none⟩) len len) ys->w.grownBy w' none->WL P L Q rest n ((d,.slice (some ⟨w.heap.size,0,none⟩) len len)::σ) w'):
  WL P L Q (⟨some d,.buildSlice t len parts.toArray,ty,pos,af,g⟩::rest) n σ w:=by
 subst f;generalize I_ parts=xs at k j;subst k;obtain⟨out,c,p⟩:=Hz (P:=P) (t:=t) (e:=e) (x0:=x0) w l i;have m:ys.length<=maxLen:=by have:ys.length*1<=ys.length*sz α:=RC _ Rep.pos;unfold maxLen;omega
 refine VG o hd (λa q=>?_) (h _ (Own.made w w.heap.size e F out.toArray ys T8 (λh=>by have:=hF _ h;omega) m hF (by simpa using p)) (uz w _ none));have u:((yh 0 xs).toArray.map λ(x:Nat×Operand)=>(x.1,a.eval x.2))=(yh 0 vs).toArray:=by have s:=pO q xs vs j;simp only[Qk];rw[yi,s]
 have r:(execOp a.eval ⟨some d,.buildSlice t ys.length (yh 0 xs).toArray,ty,pos,af,g⟩)=(do let v<-Instr.buildSlice t ys.length ((yh 0 xs).toArray.map λ(x:Nat×Operand)=>(x.1,a.eval x.2));Pure.pure (Next.value v):Sem Next):=rfl;rw[r,u,Sb,c];rfl
def VN:=@WL.lit
theorem fE{len:Nat}{parts:List (Nat×Operand)}{vs:List Value}(ys:List α)(o:gd L σ ⟨some d,.buildSlice t len parts.toArray,ty,pos,af,g⟩=some true)(hd:ble (d+1) n=true)
  (m:yh 0 (I_ parts)=parts) (k:pN σ (I_ parts)=some vs) [s:IsS P t e] [r:IsT P e α] [q:IsZ P e x0 bytes] (a:len=ys.length) (l:RdAll w (dk w) vs ys) (c:ys.length*sz α<=16777216)
  (h:∀v w',Ext w w'->Rd w' (dk w') v ys->Own w' w.heap.size e (dk w) v ys->WL P L Q rest n ((d,v)::σ) w'):
  WL P L Q (⟨some d,.buildSlice t len parts.toArray,ty,pos,af,g⟩::rest) n σ w:=
 VN o hd m k a l c T0 λw' i f=>by have j:Ext w w':=(NP _ _).grown f T8 T2;exact h _ w' j (i.old λb p=>Rv p j.size) i
theorem eF{d1:Nat}{ty1:TypeId}{pos1:String}{af1:Array Edge}{g1:Option (Nat×Bool)}{x y:Operand}{v u:Value}{xs:List α}{yv:α}{B:Nat}
  (r:gd L σ ⟨some d1,.buildSlice t 1 [(0,y)].toArray,ty1,pos1,af1,g1⟩=some true) (z:ble (d1+1) n=true)
  (s:∀u,gd L ((d1,.slice u 1 1)::σ) ⟨some d,.call ⟨.builtin .append,#[x,.tmp d1],#[t,t]⟩,ty,pos,af,g⟩=some true) (hd:ble (d+1) n=true)
  (D:ev σ y=some u) (E:∀u,ev ((d1,.slice u 1 1)::σ) x=some v) [N:IsS P t e] [M:IsT P e α] [K:IsZ P e x0 bytes] (l:Own w B e F v xs) (G:Rd w F u yv) (J:B<=w.heap.size) (hF:∀b,F b->b<w.heap.size)
  (o:sz α<=16777216) (I:xs.length+1<=maxLen) (m:(xs.length+1)*bytes<=140737488355328)
  (h:∀j w' p,Own w' B e F j (xs++[yv])->w.grownBy w' v.ownBlock->(∀g,j.ownBlock=some g->v.ownBlock=some g\/w.heap.size<=g)->WL P L Q rest n ((d,j)::(d1,.slice p 1 1)::σ) w'):
  WL P L Q (⟨some d1,.buildSlice t 1 [(0,y)].toArray,ty1,pos1,af1,g1⟩::⟨some d,.call ⟨.builtin .append,#[x,.tmp d1],#[t,t]⟩,ty,pos,af,g⟩::rest) n σ w:=by
 refine VN (vs:=[u]) (ys:=[yv]) r z rfl (by simp[I_,pN,D]) rfl ⟨G,trivial⟩ (by simpa using o) hF (λA ho1 c=>?_);have a:w.heap.size<=A.heap.size:=c.size;have i:Own A B e F v xs:=l.kept c (λ_ _ h=>by cases h) λb m=>⟨hF b m,λh=>by cases h⟩;exact V7 (ys:=[yv]) (s _) hd (E _) sd i ho1.src (Rr J a) (λb m=>Rv (hF b m) a) (by simpa using I) (by simpa using m) (λj w' H f hnb=>h j w' _ H ⟨f.os.trans c.os,f.tape.trans c.tape,f.output.trans c.output,Rr a f.size,λk C q=>(f.block k (Rv C a) q).trans (c.block k C (λh=>by cases h))⟩ (λg s=>(hnb g s).imp id (λh=>Rr a h)))
theorem fy{x:Operand}{v:Value}{xs:List α}{B:Nat}(c:gd L σ ⟨some d,.call ⟨.builtin .len,#[x],#[t]⟩,ty,pos,af,g⟩=some true)(hd:ble (d+1) n=true)
  (b:ev σ x=some v) [f:IsS P t e] (a:Own w B e F v xs) (h:WL P L Q rest n ((d,Ub (xs.length:Int))::σ) w):WL P L Q (⟨some d,.call ⟨.builtin .len,#[x],#[t]⟩,ty,pos,af,g⟩::rest) n σ w:=by
 obtain⟨ao,cap,rfl⟩:=a.val;exact fB c hd b h
theorem fg{x ix:Operand}{v:Value}{f B:Nat}{xs:List α}{i:Int}{kd:IntKind}{ty':TypeId}{pos':String}{af':Array Edge}{q:Option (Nat×Bool)}
  (s:gd L σ ⟨some d,.indexAddr t x ix,ty,pos,af,g⟩=some true) (hd:ble (d+1) n=true) (hd':ble (f+1) n=true)
  (r:ev σ x=some v) (hi:ev σ ix=some (.int kd i)) [A:IsS P t e] [z:IsT P e α] (c:Own w B e F v xs) (y:0<=i) (h1:i<xs.length)
  (l:∀p,gd L ((d,.pointer p)::σ) ⟨some f,.load e (.tmp d),ty',pos',af',q⟩=some true)
  (h:∀u p,Rd w F u (xs[i.toNat]'TK)->WL P L Q rest n ((f,u)::(d,.pointer p)::σ) w):
  WL P L Q (⟨some d,.indexAddr t x ix,ty,pos,af,g⟩::⟨some f,.load e (.tmp d),ty',pos',af',q⟩::rest) n σ w:=by
 obtain⟨rfl,rfl⟩|⟨b,off,cap,cur,rfl,o⟩:=c
 .simp at h1;omega
 .refine fk (α:=α) s hd r hi y h1 ?_;have k:i.toNat<xs.length:=by omega
  have m:=o.el.2 i.toNat k;refine VQ (α:=α) (cs:=(((cur.toList.drop off).take (xs.length*sz α)).drop (i.toNat*sz α)).take (sz α)) (l _) hd' sd ?_ m ?_
  .intro j u a;rw[Pz]at a;split at a
   .rw[Pp]at a;rw[S8 w b _ cur e (0,0) o.blk];have:=mI a;rw[<-this];congr 1;omega
   .cases a
  .exact h _ _ ⟨_,rfl,m⟩
theorem fh{x ix:Operand}{v:Value}{b B:Nat}{xs:List α}{i:Nat}{kd:IntKind}{ty':TypeId}{pos':String}{af':Array Edge}{f:Option (Nat×Bool)}
  (l:gd L σ ⟨some d,.indexAddr t x ix,ty,pos,af,g⟩=some true) (hd:ble (d+1) n=true) (hd':ble (b+1) n=true)
  (j:ev σ x=some v) (hi:ev σ ix=some (.int kd (i:Int))) [o:IsS P t e] [m:IsT P e α] (a:Own w B e F v xs) (h1:i<xs.length)
  (c:∀p,gd L ((d,.pointer p)::σ) ⟨some b,.load e (.tmp d),ty',pos',af',f⟩=some true)
  (h:∀u p,Rd w F u xs[i]->WL P L Q rest n ((b,u)::(d,.pointer p)::σ) w):
  WL P L Q (⟨some d,.indexAddr t x ix,ty,pos,af,g⟩::⟨some b,.load e (.tmp d),ty',pos',af',f⟩::rest) n σ w:=
 fg l hd hd' j hi a TK TK c (λu p k=>h u p (by simpa using k))
theorem HM{v u:Value}{xs:List α}{y:α}{b off cap B:Nat}{cur:Array Value}{i:Nat}(a:OwnAt w B e F b off cap cur xs)(hi:i<xs.length)(z:Rd w F u y)[D:IsT P e α]:
  ∃w',(storeVar e ⟨b,off+i*sz α,none⟩ u).run P w=.ok () w'/\Own w' B e F (.slice (some ⟨b,off,none⟩) xs.length cap) (xs.set i y)/\w.grownBy w' (some b):=by
 obtain⟨cs,x,f⟩:=z;have A:cs.length=sz α:=Rep.len f;have l:u.cells=cs.toArray:=by rw[x];apply Nv;simpa using Mf f
 have p:(i+1)*sz α<=cap*sz α:=RD _ (Rr hi a.le);rw[Q9,RH]at p;have r:=a.fit;have c:=Tz P b (off+i*sz α) e cs 0 cur w a.blk TK (Rep.one f);simp only[Re]at c;refine⟨w.setRow b (cur.toList.take (off+i*sz α)++cs++cur.toList.drop (off+i*sz α+cs.length)).toArray,?_,.inr ⟨b,off,cap,_,by rw[P_],⟨TB w b cur _ e _ a.blk,a.ge,a.nF,by simpa using a.le,a.mx,?_,?_⟩⟩,⟨rfl,rfl,rfl,by simp,λk _ q=>TC w b k _ (λe=>q (by simp[e]))⟩⟩
 .unfold storeVar;rw[Sb,HS (α:=α)];simp only[Sa,l];rw[Tm (by simp[A])];exact c
 .simp only[QW,PX,Qb,PZ,NI];omega
 .have hh:∀k,F k->(w.setRow b (cur.toList.take (off+i*sz α)++cs++cur.toList.drop (off+i*sz α+cs.length)).toArray).heap[k]?=w.heap[k]?:=
   λk q=>TC w b k _ (λe=>a.nF (e▸q))
  have h1:=(a.el.mono (w':=w.setRow b (cur.toList.take (off+i*sz α)++cs++cur.toList.drop (off+i*sz α+cs.length)).toArray) hh λ_ h=>h).set (Rep.mono f hh λ_ h=>h) i hi;have C:(((cur.toList.take (off+i*sz α)++cs++cur.toList.drop (off+i*sz α+cs.length)).toArray.toList.drop off).take ((xs.set i y).length*sz α))=over ((cur.toList.drop off).take (xs.length*sz α)) (i*sz α) cs:=by
   rw[P_];have hn:i*sz α+cs.length<=xs.length*sz α:=by have:(i+1)*sz α<=xs.length*sz α:=RD _ hi;rw[Q9,RH]at this;omega
   have s:off+xs.length*sz α<=cur.toList.length:=by have:xs.length*sz α<=cap*sz α:=RD _ a.le;have E:cur.toList.length=cur.size:=NI;omega
   generalize i*sz α=o at*;generalize xs.length*sz α=m at*;unfold over;apply O4;intro j;simp only[Pz,Pp];by_cases hj:j<m
   .rw[Tn hj];by_cases h2:j<o
    .rw[Pm TR,Pm TR,Pm TR,Pm TR];rw[PA TK,PA h2,PA hj,Pp]
    .by_cases h3:j<o+cs.length
     .rw[Pm TR,Pn TR,Pm TR,Pn TR];congr 1;simp;omega
     .rw[Pn TR,Pn TR];rw[Pp,Pp,PA TR,Pp];congr 1;simp;omega
   .rw[Tm hj,Pr];simp;omega
  rw[C];exact h1
theorem WL.set{x ix y:Operand}{v u:Value}{B:Nat}{xs:List α}{yv:α}{i:Int}{kd:IntKind}{ty':TypeId}{pos':String}{af':Array Edge}{m:Option (Nat×Bool)}
  (A:gd L σ ⟨some d,.indexAddr t x ix,ty,pos,af,g⟩=some true) (hd:ble (d+1) n=true)
  (q:ev σ x=some v) (hi:ev σ ix=some (.int kd i)) [H:IsS P t e] [G:IsT P e α] (c:Own w B e F v xs) (C:0<=i) (h1:i<xs.length)
  (k:∀p,gd L ((d,.pointer p)::σ) ⟨none,.store e (.tmp d) y,ty',pos',af',m⟩=some true) (o:∀p,ev ((d,.pointer p)::σ) y=some u) (r:Rd w F u yv)
  (h:∀w' p,Own w' B e F v (xs.set i.toNat yv)->w.grownBy w' v.ownBlock->WL P L Q rest n ((d,.pointer p)::σ) w'):
  WL P L Q (⟨some d,.indexAddr t x ix,ty,pos,af,g⟩::⟨none,.store e (.tmp d) y,ty',pos',af',m⟩::rest) n σ w:=by
 obtain⟨rfl,rfl⟩|⟨b,off,cap,cur,rfl,z⟩:=c
 .simp at h1;omega
 .refine fk (α:=α) A hd q hi C h1 ?_;obtain⟨w',s,f,j⟩:=HM (P:=P) (v:=u) (i:=i.toNat) z TK r;refine fV (k _) (λa l=>?_) (h w' _ f j);have E:=l.ev (x:=.tmp d) sd;have D:=l.ev (o _);simp[execOp,E,D,Instr.storeAt,Instr.sureAddr,s]
def Wk:=@WL.set
theorem fX{x ix y:Operand}{v u:Value}{B:Nat}{xs:List α}{yv:α}{i:Nat}{kd:IntKind}{ty':TypeId}{pos':String}{af':Array Edge}{c:Option (Nat×Bool)}
  (l:gd L σ ⟨some d,.indexAddr t x ix,ty,pos,af,g⟩=some true) (hd:ble (d+1) n=true)
  (j:ev σ x=some v) (hi:ev σ ix=some (.int kd (i:Int))) [o:IsS P t e] [m:IsT P e α] (a:Own w B e F v xs) (h1:i<xs.length)
  (b:∀p,gd L ((d,.pointer p)::σ) ⟨none,.store e (.tmp d) y,ty',pos',af',c⟩=some true) (f:∀p,ev ((d,.pointer p)::σ) y=some u) (k:Rd w F u yv)
  (h:∀w' p,Own w' B e F v (xs.set i yv)->w.grownBy w' v.ownBlock->WL P L Q rest n ((d,.pointer p)::σ) w'):
  WL P L Q (⟨some d,.indexAddr t x ix,ty,pos,af,g⟩::⟨none,.store e (.tmp d) y,ty',pos',af',c⟩::rest) n σ w:=
 Wk l hd j hi a TK TK b f k (λw' p=>by simpa using h w' p)
theorem Hr{ao:Option Addr}{len cap lo hi:Nat}(w:World)[a:IsS P t e][c:IsT P e α](h1:lo<=hi)(h2:hi<=cap)(x y:Option Value)
  (b:x=none/\lo=0\/∃k,x=some (.int k (lo:Int))) (hh:y=none/\hi=len\/∃k,y=some (.int k (hi:Int))):
  (Instr.sliceAt t (.slice ao len cap) x y none).run P w=.ok (.slice (if cap=lo then ao else ao.map (·.add (lo*sz α))) (hi -lo) (cap -lo)) w:=by
 have a1:(lo:Int)<=(hi:Int):=by omega
 have a2:(hi:Int)<=(cap:Int):=by omega
 have a3:(0:Int)<=(lo:Int):=by omega
 have a4:(0:Int)<=(hi:Int):=by omega
 simp only[Instr.sliceAt,Sb,TA a.ok,Sa,Instr.slice,Instr.sliceBounds];obtain⟨rfl,rfl⟩|⟨k,rfl⟩:=b
 .obtain⟨rfl,rfl⟩|⟨k',rfl⟩:=hh
  .simp[HS (α:=α)]
  .simp[HS (α:=α),Instr.sliceBound,asIntOf,h2,Nt]
 .obtain⟨rfl,rfl⟩|⟨k',rfl⟩:=hh
  .simp[HS (α:=α),Instr.sliceBound,asIntOf,h1]
  .simp[HS (α:=α),Instr.sliceBound,asIntOf,h1,h2]
theorem Own.take{v:Value}{xs:List α}{B:Nat}(h:Own w B e F v xs){ao:Option Addr}{cap k:Nat}(c:v=.slice ao xs.length cap)(f:k<=xs.length):Own w B e F (.slice ao k cap) (xs.take k):=by
 obtain⟨h1,rfl⟩|⟨g,off,cp,cur,h1,b⟩:=h
 .rw[h1]at c;obtain⟨rfl,_,rfl⟩:=SV c;have:k=0:=by simpa using f
  subst this;exact .inl ⟨rfl,by simp⟩
 .rw[h1]at c;obtain⟨rfl,_,rfl⟩:=SV c;have a:(xs.take k).length=k:=by rw[Qb];omega
  refine .inr ⟨g,off,cp,cur,by rw[a],⟨b.blk,b.ge,b.nF,by rw[a];exact Rr f b.le,b.mx,b.fit,?_⟩⟩;have:=b.el.take k f;rw[List.take_take,Ry (RD _ f)]at this;rw[a];exact this
theorem Own.drop{v:Value}{xs:List α}{B:Nat}(h:Own w B e F v xs){ao:Option Addr}{cap k:Nat}(c:v=.slice ao xs.length cap)(i:k<=xs.length):
  Own w B e F (.slice (if cap=k then ao else ao.map (·.add (k*sz α))) (xs.length -k) (cap -k)) (xs.drop k):=by
 obtain⟨h1,rfl⟩|⟨g,off,cp,cur,h1,b⟩:=h
 .rw[h1]at c;obtain⟨rfl,_,rfl⟩:=SV c;have:k=0:=by simpa using i
  subst this;exact .inl ⟨by simp,by simp⟩
 .rw[h1]at c;obtain⟨rfl,_,rfl⟩:=SV c;have a:(xs.drop k).length=xs.length -k:=PZ;have o:=b.le;have j:=b.fit;have f:k*sz α+(cp -k)*sz α=cp*sz α:=by rw[<-Q9];congr 1;omega
  refine .inr ⟨g,if cp=k then off else off+k*sz α,cp -k,cur,?_,⟨b.blk,b.ge,b.nF,by rw[a];omega,?_,?_,?_⟩⟩
  .rw[a];split
   .rfl
   .simp[SW]
  .have:=b.mx;omega
  .split
   .rename_i p;have:cp -k=0:=by omega
    rw[this];omega
   .omega
  .have:=b.el.drop k i;rw[a];split
   .rename_i p;have l:xs.length -k=0:=by omega
    have m:xs.drop k=[]:=O2 (by rw[a];exact l);rw[l,m];simpa using VW
   .rw[List.drop_take,OW]at this;rw[Nat.sub_mul];exact this
theorem Sl.take{ao:Option Addr}{cap k:Nat}{xs:List α}(h:Sl w F ao cap xs)(a:k<=xs.length):Sl w F ao cap (xs.take k):=by
 refine⟨by rw[Qb];have:=h.le;omega,h.mx,h.nil,λi hi=>?_⟩;have:i<xs.length:=by rw[Qb]at hi;omega
 rw[PS];exact h.el i this
theorem eR{x y:Operand}{ao:Option Addr}{len cap:Nat}{i:Int}{kd:IntKind}(k:Nat)(b:i=(k:Int))(m:gd L σ ⟨some d,.slice t x none (some y) none,ty,pos,af,g⟩=some true)(hd:ble (d+1) n=true)
  (j:ev σ x=some (.slice ao len cap)) (f:ev σ y=some (.int kd i)) [p:IsS P t e] [o:IsT P e α] (l:k<=cap)
  (h:WL P L Q rest n ((d,.slice ao k cap)::σ) w):WL P L Q (⟨some d,.slice t x none (some y) none,ty,pos,af,g⟩::rest) n σ w:=by
 subst b;refine VG m hd (λa c=>?_) h;have:=Hr (P:=P) (t:=t) (e:=e) (α:=α) (ao:=ao) (len:=len) (cap:=cap) (lo:=0) (hi:=k) w TK l none (some (.int kd (k:Int))) (.inl ⟨rfl,rfl⟩) (.inr ⟨kd,rfl⟩);simp[execOp,c.ev j,c.ev f,this,Nt]
theorem eU{x y:Operand}{ao:Option Addr}{len cap:Nat}{i:Int}{kd:IntKind}(k:Nat)(b:i=(k:Int))(m:gd L σ ⟨some d,.slice t x (some y) none none,ty,pos,af,g⟩=some true)(hd:ble (d+1) n=true)
  (j:ev σ x=some (.slice ao len cap)) (f:ev σ y=some (.int kd i)) [q:IsS P t e] [p:IsT P e α] (l:k<=len) (o:len<=cap)
  (h:WL P L Q rest n ((d,.slice (if cap=k then ao else ao.map (·.add (k*sz α))) (len -k) (cap -k))::σ) w):WL P L Q (⟨some d,.slice t x (some y) none none,ty,pos,af,g⟩::rest) n σ w:=by
 subst b;refine VG m hd (λa c=>?_) h;have:=Hr (P:=P) (t:=t) (e:=e) (α:=α) (ao:=ao) (len:=len) (cap:=cap) (lo:=k) (hi:=len) w l o (some (.int kd (k:Int))) none (.inr ⟨kd,rfl⟩) (.inl ⟨rfl,rfl⟩);simp[execOp,c.ev j,c.ev f,this]
theorem Own.le{v:Value}{xs:List α}{B:Nat}(h:Own w B e F v xs){ao:Option Addr}{len cap:Nat}(a:v=.slice ao len cap):xs.length<=cap:=by
 obtain⟨h1,rfl⟩|⟨g,off,cp,cur,h1,b⟩:=h
 .simp
 .rw[h1]at a;obtain⟨_,_,rfl⟩:=SV a;exact b.le
theorem eT{x y:Operand}{v:Value}{xs:List α}{B:Nat}{i:Int}{kd:IntKind}(k:Nat)(c:i=(k:Int))(o:gd L σ ⟨some d,.slice t x none (some y) none,ty,pos,af,g⟩=some true)(hd:ble (d+1) n=true)
  (j:ev σ x=some v) (f:ev σ y=some (.int kd i)) [q:IsS P t e] [p:IsT P e α] (a:Own w B e F v xs) (m:k<=xs.length)
  (h:∀b,Own w B e F b (xs.take k)->b.ownBlock=v.ownBlock->WL P L Q rest n ((d,b)::σ) w):WL P L Q (⟨some d,.slice t x none (some y) none,ty,pos,af,g⟩::rest) n σ w:=by
 obtain⟨ao,cap,rfl⟩:=a.val;have l:=a.le rfl;refine eR (α:=α) k c o hd j f TK (h _ (a.take rfl m) ?_);cases ao<;>rfl
theorem eV{x y:Operand}{v:Value}{xs:List α}{B:Nat}{i:Int}{kd:IntKind}(k:Nat)(j:i=(k:Int))(p:gd L σ ⟨some d,.slice t x (some y) none none,ty,pos,af,g⟩=some true)(hd:ble (d+1) n=true)
  (o:ev σ x=some v) (m:ev σ y=some (.int kd i)) [r:IsS P t e] [q:IsT P e α] (b:Own w B e F v xs) (l:k<=xs.length)
  (h:∀c,Own w B e F c (xs.drop k)->c.ownBlock=v.ownBlock->WL P L Q rest n ((d,c)::σ) w):WL P L Q (⟨some d,.slice t x (some y) none none,ty,pos,af,g⟩::rest) n σ w:=by
 obtain⟨ao,cap,rfl⟩:=b.val;have f:=b.le rfl;refine eU (α:=α) k j p hd o m l f (h _ (b.drop rfl l) ?_);cases ao with
 |none=>split<;>rfl
 |some a=>
  split
  .rfl
  .simp only[Option.map_some,Value.ownBlock,Addr.add];split<;>rfl
end
@[irreducible] def QL (P:Program) (ops:List Oper) (w:World) (Q:Exit->Act->World->Prop) (l:List Oper) (n:Nat) (σ:Sg):Prop:=
  ∀a,Fr n σ a->wpQuiet P ops.toArray (λw'=>Ext w w') (λb=>∀w',Ext w w'->Q .normal b w') l a
section
variable {P:Program}{Q:Exit->Act->World->Prop}{n:Nat}{σ:Sg}{w:World}{L rest:List Oper}{d:Nat}{op:Op}{ty:TypeId}{pos:String}{af:Array Edge}{g:Option (Nat×Bool)}
theorem aD{id:Nat}{l:List Oper}(b:P.follows .mixedOrders=true)(e:Region.lexB .any l.toArray=true)(h:QL P l w Q l n σ):CW P (.region id l.toArray true) Q n σ w:=by unfold CW;unfold QL at h;intro a c;exact wp_region_quiet (C:=λw'=>Ext w w') b e ⟨rfl,rfl,rfl,Rq _,λ_ _=>rfl⟩ (by simpa using h a c)
theorem QL.nil{l:List Oper}(h:∀w',Ext w w'->EX Q .normal n σ w'):QL P l w Q [] n σ:=by unfold QL;unfold EX at h;intro a c;exact wpQuiet_nil (λw' b=>h w' b a c)
def VD:=@QL.nil
theorem QL.run{v:Value}(f:gd L σ ⟨some d,op,ty,pos,af,g⟩=some true)(hd:ble (d+1) n=true)
  (e:∀a,Fr n σ a->∀w',Ext w w'->(execOp a.eval ⟨some d,op,ty,pos,af,g⟩).run P w'=.ok (.value v) w') (h:QL P L w Q rest n ((d,v)::σ)):QL P L w Q (⟨some d,op,ty,pos,af,g⟩::rest) n σ:=by
 unfold QL at*;intro a c;refine TG λK i=>?_;rw[sZ c f,Tn rfl];refine⟨v,λw' b=>?_,i _ (h _ (c.put (d:=some d) hd))⟩;unfold Oper.quietAt;rw[e a c w' b];exact⟨rfl,rfl⟩
def V4:=@QL.run
theorem dK{v:Value}(c:gd L σ ⟨some d,op,ty,pos,af,g⟩=some true)(hd:ble (d+1) n=true)
  (b:FK σ op=some v) (h:QL P L w Q rest n ((d,v)::σ)):QL P L w Q (⟨some d,op,ty,pos,af,g⟩::rest) n σ:=
 V4 c hd (λa e _ _=>FL e b) h
theorem QL.pass(c:gd L σ ⟨some d,op,ty,pos,af,g⟩=some false)(hd:ble (d+1) n=true)(h:QL P L w Q rest n ((d,undef)::σ)):QL P L w Q (⟨some d,op,ty,pos,af,g⟩::rest) n σ:=by unfold QL at*;intro a b;refine TG λK e=>?_;rw[sZ b c,Tm TO];exact e _ (h _ (b.put (d:=some d) hd))
theorem dF{s:Nat}{b:Bool}(c:fnd σ s=some (.bool b))(f:b=true->QL P L w Q rest n ((s,.bool true)::σ))(hf:b=false->QL P L w Q rest n ((s,.bool false)::σ)):QL P L w Q rest n σ:=by
 unfold QL at*;intro a e;cases b with
 |true=>exact f rfl a (e.set c)
 |false=>exact hf rfl a (e.set c)
theorem dG{dd:Option Nat}{j s:Nat}{want b:Bool}(hj:uE L j=some s)(c:fnd σ s=some (.bool b))(a:b=true->QL P L w Q (⟨dd,op,ty,pos,af,some (j,want)⟩::rest) n ((s,.bool true)::σ))
  (hf:b=false->QL P L w Q (⟨dd,op,ty,pos,af,some (j,want)⟩::rest) n ((s,.bool false)::σ)):QL P L w Q (⟨dd,op,ty,pos,af,some (j,want)⟩::rest) n σ:=dF c a hf
theorem QL.add{t yt:TypeId}{x y:Operand}{a b:Int}(f:gd L σ ⟨some d,.binOp .add t x y yt,ty,pos,af,g⟩=some true)(hd:ble (d+1) n=true)
  (e:ev σ x=some (Ub a)) (c:ev σ y=some (Ub b)) (i: -9223372036854775808<=a+b) (h1:a+b<9223372036854775808) (h:QL P L w Q rest n ((d,Ub (a+b))::σ)):QL P L w Q (⟨some d,.binOp .add t x y yt,ty,pos,af,g⟩::rest) n σ:=by
 refine dK f hd (v:=Ub (a+b)) ?_ h;simp only[FK,e,c,EK];rw[Np i h1]
theorem dM{t yt:TypeId}{x y:Operand}{a b:Int}(f:gd L σ ⟨some d,.binOp .sub t x y yt,ty,pos,af,g⟩=some true)(hd:ble (d+1) n=true)
  (e:ev σ x=some (Ub a)) (c:ev σ y=some (Ub b)) (i: -9223372036854775808<=a -b) (h1:a -b<9223372036854775808) (h:QL P L w Q rest n ((d,Ub (a -b))::σ)):QL P L w Q (⟨some d,.binOp .sub t x y yt,ty,pos,af,g⟩::rest) n σ:=by
 refine dK f hd (v:=Ub (a -b)) ?_ h;simp only[FK,e,c,EK];rw[Np i h1]
theorem dE{t e:TypeId}{x:Operand}{ao:Option Addr}{k cap:Nat}(f:gd L σ ⟨some d,.call ⟨.builtin .len,#[x],#[t]⟩,ty,pos,af,g⟩=some true)(hd:ble (d+1) n=true)
  (b:ev σ x=some (.slice ao k cap)) [c:IsS P t e] (h:QL P L w Q rest n ((d,Ub (k:Int))::σ)):QL P L w Q (⟨some d,.call ⟨.builtin .len,#[x],#[t]⟩,ty,pos,af,g⟩::rest) n σ:=by
 refine V4 f hd (λa i _ _=>?_) h;simp[execOp,resolve,invoke,builtin,i.ev b,Builtin.len_,TA c.ok,goInt]
theorem dB{α:Type}[Rep α]{t e:TypeId}{x ix:Operand}{b off:Nat}{k cap:Nat}{i:Int}{kd:IntKind}(l:gd L σ ⟨some d,.indexAddr t x ix,ty,pos,af,g⟩=some true)(hd:ble (d+1) n=true)
  (f:ev σ x=some (.slice (some ⟨b,off,none⟩) k cap)) (hi:ev σ ix=some (.int kd i)) [j:IsS P t e] [o:IsT P e α] (m:0<=i) (h1:i<k)
  (h:QL P L w Q rest n ((d,.pointer (some ⟨b,off+i.toNat*sz α,none⟩))::σ)):QL P L w Q (⟨some d,.indexAddr t x ix,ty,pos,af,g⟩::rest) n σ:=by
 refine V4 l hd (λa c _ _=>?_) h;simp[execOp,c.ev f,c.ev hi,Instr.indexAt,asIntOf,TA j.ok,m,h1,HS (α:=α),SW]
theorem QL.load{α:Type}[Rep α]{t:TypeId}{x:Operand}{b off:Nat}{F:Nat->Prop}{cs:List Value}{y:α}(m:gd L σ ⟨some d,.load t x,ty,pos,af,g⟩=some true)(hd:ble (d+1) n=true)
  (i:ev σ x=some (.pointer (some ⟨b,off,none⟩))) [r:IsT P t α] (p:b<w.heap.size) (hF:∀b,F b->b<w.heap.size) (o:Cells w b off cs) (j:rd w F cs y)
  (h:QL P L w Q rest n ((d,Me α cs)::σ)):QL P L w Q (⟨some d,.load t x,ty,pos,af,g⟩::rest) n σ:=by
 refine V4 m hd (λa q w' c=>?_) h;have f:Cells w' b off cs:=o.mono (c.block b p);have e:rd w' F cs y:=Rep.mono j (λk l=>c.block k (hF k l)) λ_ h=>h;simp[execOp,q.ev i,Instr.loadAt,Instr.sureAddr,HB f e]
def V2:=@QL.load
theorem dx{α:Type}[Rep α]{t e:TypeId}{x ix:Operand}{ao:Option Addr}{cap a:Nat}{xs:List α}{F:Nat->Prop}{i:Int}{kd:IntKind}{ty':TypeId}{pos':String}{af':Array Edge}{l:Option (Nat×Bool)}
  (o:gd L σ ⟨some d,.indexAddr t x ix,ty,pos,af,g⟩=some true) (hd:ble (d+1) n=true) (hd':ble (a+1) n=true)
  (m:ev σ x=some (.slice ao xs.length cap)) (hi:ev σ ix=some (.int kd i)) [z:IsS P t e] [v:IsT P e α] (hF:∀b,F b->b<w.heap.size) (c:Sl w F ao cap xs) (r:0<=i) (h1:i<xs.length)
  (f:∀p,gd L ((d,.pointer p)::σ) ⟨some a,.load e (.tmp d),ty',pos',af',l⟩=some true)
  (h:∀u p,Rd w F u (xs[i.toNat]'TK)->QL P L w Q rest n ((a,u)::(d,.pointer p)::σ)):
  QL P L w Q (⟨some d,.indexAddr t x ix,ty,pos,af,g⟩::⟨some a,.load e (.tmp d),ty',pos',af',l⟩::rest) n σ:=by
 obtain⟨b,off,rfl,j,s,q,k⟩:=c.el i.toNat TK;exact dB (α:=α) o hd m hi r h1 (V2 (α:=α) (f _) hd' sd (hF b j) hF q k (h _ _ ⟨s,rfl,k⟩))
theorem dz{α:Type}[Rep α]{t e:TypeId}{x ix:Operand}{ao:Option Addr}{cap a:Nat}{xs:List α}{F:Nat->Prop}{i:Nat}{kd:IntKind}{ty':TypeId}{pos':String}{af':Array Edge}{j:Option (Nat×Bool)}
  (m:gd L σ ⟨some d,.indexAddr t x ix,ty,pos,af,g⟩=some true) (hd:ble (d+1) n=true) (hd':ble (a+1) n=true)
  (k:ev σ x=some (.slice ao xs.length cap)) (hi:ev σ ix=some (.int kd (i:Int))) [q:IsS P t e] [o:IsT P e α] (hF:∀b,F b->b<w.heap.size) (c:Sl w F ao cap xs) (h1:i<xs.length)
  (f:∀p,gd L ((d,.pointer p)::σ) ⟨some a,.load e (.tmp d),ty',pos',af',j⟩=some true)
  (h:∀u p,Rd w F u xs[i]->QL P L w Q rest n ((a,u)::(d,.pointer p)::σ)):
  QL P L w Q (⟨some d,.indexAddr t x ix,ty,pos,af,g⟩::⟨some a,.load e (.tmp d),ty',pos',af',j⟩::rest) n σ:=
 dx m hd hd' k hi hF c TK TK f (λu p l=>h u p (by simpa using l))
theorem dy{t e:TypeId}{x ix:Operand}{ao:Option Addr}{cap a:Nat}{xs:List Int}{F:Nat->Prop}{i:Nat}{y:Int}{kd:IntKind}{ty':TypeId}{pos':String}{af':Array Edge}{j:Option (Nat×Bool)}
  (o:gd L σ ⟨some d,.indexAddr t x ix,ty,pos,af,g⟩=some true) (hd:ble (d+1) n=true) (hd':ble (a+1) n=true)
  (l:ev σ x=some (.slice ao xs.length cap)) (hi:ev σ ix=some (.int kd (i:Int))) [r:IsS P t e] [q:IsT P e Int] (hF:∀b,F b->b<w.heap.size) (c:Sl w F ao cap xs) (h1:i<xs.length) (k:xs[i]=y)
  (f:∀p,gd L ((d,.pointer p)::σ) ⟨some a,.load e (.tmp d),ty',pos',af',j⟩=some true)
  (h:∀p,QL P L w Q rest n ((a,Ub y)::(d,.pointer p)::σ)):
  QL P L w Q (⟨some d,.indexAddr t x ix,ty,pos,af,g⟩::⟨some a,.load e (.tmp d),ty',pos',af',j⟩::rest) n σ:=
 dz o hd hd' l hi hF c h1 f (λu p m=>by rw[m.int,k];exact h p)
theorem dw{f:FuncId}{x:Operand}{xs:List Operand}{j:Array TypeId}{vs fv cv:List Value}{v:Value}
  (p:gd L σ ⟨some d,.call ⟨.value x,xs.toArray,j⟩,ty,pos,af,g⟩=some true) (hd:ble (d+1) n=true) (l:ev σ x=some (.func (.func f) fv.toArray cv.toArray)) (m:pN σ xs=some vs) [hf:IsF P f]
  (q:∀i,Ext w i->Rt P f (fv++vs++cv).toArray i λu k=>u=v/\Ext i k) (h:QL P L w Q rest n ((d,v)::σ)):QL P L w Q (⟨some d,.call ⟨.value x,xs.toArray,j⟩,ty,pos,af,g⟩::rest) n σ:=by
 unfold QL at*;intro a c;refine TG λK r=>?_;rw[sZ c p,Tn rfl];have A:=pO c xs vs m;have z:=c.ev l;refine⟨v,λw' b=>?_,r _ (h _ (c.put (d:=some d) hd))⟩;have o:(execOp a.eval ⟨some d,.call ⟨.value x,xs.toArray,j⟩,ty,pos,af,g⟩).run P w'=.ok (.enter f (fv++vs++cv).toArray) w':=by have:=jP (P:=P) (f:=f) (w:=w') (fv++vs++cv).toArray;simp[execOp,resolve,z,Deferred.ofValue,invoke,A];simpa using this
 unfold Oper.quietAt;rw[o];refine⟨rfl,Oa (q w' b) ?_⟩;rintro e w'' ⟨u,rfl,rfl,s⟩;exact⟨rfl,VB b s⟩
theorem QL.call{f:FuncId}{xs:List Operand}{b:Array TypeId}{vs:List Value}{v:Value}
  (i:gd L σ ⟨some d,.call ⟨.value (.func f),xs.toArray,b⟩,ty,pos,af,g⟩=some true) (hd:ble (d+1) n=true) (e:pN σ xs=some vs) [hf:IsF P f]
  (j:∀a,Ext w a->Rt P f vs.toArray a λu c=>u=v/\Ext a c) (h:QL P L w Q rest n ((d,v)::σ)):QL P L w Q (⟨some d,.call ⟨.value (.func f),xs.toArray,b⟩,ty,pos,af,g⟩::rest) n σ:=
 dw i hd (fv:=[]) (cv:=[]) rfl e (by simpa using j) h
def VX:=@QL.call
end
class IsB(P:Program)(t:TypeId):Prop where
 ok:P.underlying t=some .bool
section
variable {P:Program}{Q:Exit->Act->World->Prop}{n:Nat}{σ:Sg}{w:World}{L rest:List Oper}{d:Nat}{op:Op}{ty:TypeId}{pos:String}{af:Array Edge}{g:Option (Nat×Bool)}{t yt:TypeId}{x y:Operand}
theorem Ht[c:IsB P t](a b:Bool)(w:World):((do eqGuard .eql t x y (.bool a) (.bool b);binOp .eql t (.bool a) (.bool b):Sem Value)).run P w=.ok (.bool (a==b)) w:=by simp[eqGuard_at_bool,run_eql_bool w t a b c.ok]
theorem fi{a b:Bool}(j:gd L σ ⟨some d,.binOp .eql t x y yt,ty,pos,af,g⟩=some true)(hd:ble (d+1) n=true)(i:ev σ x=some (.bool a))(f:ev σ y=some (.bool b))[k:IsB P t]
  (h:WL P L Q rest n ((d,.bool (a==b))::σ) w):WL P L Q (⟨some d,.binOp .eql t x y yt,ty,pos,af,g⟩::rest) n σ w:=by
 refine VG j hd (λc e=>?_) h;have:=Ht (P:=P) (t:=t) (x:=x) (y:=y) a b w;simp only[execOp,e.ev i,e.ev f];rw[Sb,this];rfl
theorem fq{e:TypeId}{ao:Option Addr}{k cap:Nat}(i:gd L σ ⟨some d,.binOp .eql t x (.const (.slice none 0 0)) yt,ty,pos,af,g⟩=some true)(hd:ble (d+1) n=true)(b:ev σ x=some (.slice ao k cap))[f:IsS P t e]
  (h:WL P L Q rest n ((d,.bool ao.isNone)::σ) w):WL P L Q (⟨some d,.binOp .eql t x (.const (.slice none 0 0)) yt,ty,pos,af,g⟩::rest) n σ w:=by
 refine VG i hd (λc a=>?_) h;have:=run_equal_slice_nil w t e ao k cap f.ok;simp[execOp,a.ev b,a.ev (x:=.const (.slice none 0 0)) rfl,eqGuard_at_slice,binOp,this]
end
def Blk(w:World)(b:Nat)(e:TypeId)(cells:List Value):Prop:=w.heap[b]?=some (.cells cells.toArray e (0,0))
section
variable {w w':World}{b:Nat}{e:TypeId}{cells:List Value}
theorem Blk.lt(h:Blk w b e cells):b<w.heap.size:=(NB.1 h).1
theorem Blk.ext(h:Blk w b e cells)(a:Ext w w'):Blk w' b e cells:=(a.block b h.lt).trans h
theorem Blk.kept{row:Option Nat}(h:Blk w b e cells)(c:w.grownBy w' row)(a:some b≠row):Blk w' b e cells:=(c.block b h.lt a).trans h
theorem Blk.cell(h:Blk w b e cells){o:Nat}{v:Value}(a:cells[o]?=some v):w.cell? ⟨b,o,none⟩=some v:=by rw[S8 w b o cells.toArray e (0,0) h];simpa using a
theorem Blk.alloc(w:World)(cells:List Value)(e:TypeId):Blk (w.alloc (.cells cells.toArray e)) w.heap.size e cells:=Tk w _
def Wp:=@Blk.alloc
end
class IsFd(P:Program)(t f:Nat)(o:outParam Nat):Prop where
 ok:∃fs fld i,P.underlying t=some (.struct fs)/\fs[f]?=some fld/\fld.offset=o/\P.info? fld.type=some i/\i.size≠0
def qP(P:Program)(t f:Nat):Option (Nat×Bool):=match P.underlying t with
 |some (.struct fs)=>(fs[f]?).bind λfld=>(P.info? fld.type).map λi=>(fld.offset,beq i.size 0)
 |_=>none
theorem IsFd.of{t f o:Nat}(h:qP P t f=some (o,false)):IsFd P t f o:=by
 unfold qP at h;split at h
 .rename_i fs a;obtain⟨fld,h1,h2⟩:=RZ.1 h;obtain⟨i,h3,h4⟩:=R2.1 h2;simp only[R7]at h4;refine⟨fs,fld,i,a,h1,h4.1,h3,λe=>?_⟩;rw[e]at h4;exact absurd h4.2 TN
 .cases h
abbrev qA:=@IsFd.of
class IsC(P:Program)(t:TypeId)(k:outParam Nat)(ag:outParam Bool):Prop where
 ok:∃i d,P.info? t=some i/\i.size=k/\P.underlying t=some d/\gx d=ag
theorem IsC.of{k:Nat}{ag:Bool}{d:TypeDesc}(h:(P.info? t).map (λi=>beq i.size k)=some true)(a:P.underlying t=some d)(hd:gx d=ag):IsC P t k ag:=by obtain⟨i,hi,c⟩:=R2.1 h;exact⟨i,d,hi,Ri c,a,hd⟩
abbrev VA:=@IsC.of
class IsZC(P:Program)(t:TypeId)(zs:outParam (List Value)):Prop where
 ok:∃i z,P.info? t=some i/\i.zero=some z/\z.cells=zs.toArray
theorem IsZC.of{z:Value}(h:(P.info? t).map (λi=>i.zero)=some (some z))(a:z.cells=r.toArray):IsZC P t r:=by obtain⟨i,hi,c⟩:=R2.1 h;exact⟨i,z,hi,c,a⟩
abbrev v2:=@IsZC.of
class IsBd(P:Program)(t:TypeId)(places:outParam (List (Nat×Nat))):Prop where
 ok:∃fs,P.underlying t=some (.struct fs)/\fs.toList.mapM (λf=>(P.info? f.type).map λi=>(f.offset,i.size))=some places
def iY(P:Program)(t:TypeId):Option (List (Nat×Nat)):=match P.underlying t with
 |some (.struct fs)=>fs.toList.mapM (λf=>(P.info? f.type).map λi=>(f.offset,i.size))
 |_=>none
theorem IsBd.of{places:List (Nat×Nat)}(h:iY P t=some places):IsBd P t places:=by
 unfold iY at h;split at h
 .rename_i fs a;exact⟨fs,a,h⟩
 .cases h
abbrev VI:=@IsBd.of
def H9:List Value->Nat->Nat->Option (List Value)
 |_,0,0=>some []
 |v::r,0,n+1=>(H9 r 0 n).map (v::.)
 |_::r,o+1,n=>H9 r o n
 |[],_,_=>none
def H_:∀(l:List Value) (o n:Nat) (vs:List Value),H9 l o n=some vs->vs.length=n/\∀j u,vs[j]?=some u->l[o+j]?=some u
 |[],0,0,vs,h=>by simp[H9]at h;subst h;exact⟨rfl,λj u a=>by simp at a⟩
 |v::r,0,0,vs,h=>by simp[H9]at h;subst h;exact⟨rfl,λj u a=>by simp at a⟩
 |[],0,n+1,vs,h=>by simp[H9]at h
 |[],o+1,n,vs,h=>by simp[H9]at h
 |v::r,0,n+1,vs,h=>by
  simp only[H9]at h;obtain⟨us,h1,h2⟩:=R2.1 h;subst h2;obtain⟨h3,h4⟩:=H_ r 0 n us h1;refine⟨by simp[h3],λj u a=>?_⟩;cases j with
  |zero=>simpa using a
  |succ j=>
   have:=h4 j u (by simpa using a);simpa using this
 |v::r,o+1,n,vs,h=>by
  have c:H9 r o n=some vs:=by cases n<;>simpa[H9]using h
  obtain⟨h3,h4⟩:=H_ r o n vs c;refine⟨h3,λj u a=>?_⟩;have:=h4 j u a;rw[show o+1+j=(o+j)+1 by omega,Po];exact this
def j8:Value->List Value
 |.agg cs=>cs.toList
 |v=>[v]
def j9(v:Value):v.cells=(j8 v).toArray:=by cases v<;>rfl
def D_:List Value->Nat->List Value->Option (List Value)
 |l,0,[]=>some l
 |_::r,0,v::vs=>(D_ r 0 vs).map (v::.)
 |u::r,o+1,vs=>(D_ r o vs).map (u::.)
 |[],_,_=>none
def Ea:∀(l:List Value) (o:Nat) (vs out:List Value),D_ l o vs=some out->o+vs.length<=l.length/\out=l.take o++vs++l.drop (o+vs.length)
 |[],0,[],out,h=>by simp[D_]at h;subst h;simp
 |v::r,0,[],out,h=>by simp[D_]at h;subst h;simp
 |[],0,v::vs,out,h=>by simp[D_]at h
 |[],o+1,vs,out,h=>by simp[D_]at h
 |u::r,0,v::vs,out,h=>by simp only[D_]at h;obtain⟨us,h1,h2⟩:=R2.1 h;subst h2;obtain⟨h3,h4⟩:=Ea r 0 vs us h1;refine⟨by simp at h3⊢;omega,?_⟩;rw[h4];simp
 |u::r,o+1,vs,out,h=>by
  have a:(D_ r o vs).map (u::.)=some out:=by cases vs<;>simpa[D_]using h
  obtain⟨us,h1,h2⟩:=R2.1 a;subst h2;obtain⟨h3,h4⟩:=Ea r o vs us h1;refine⟨by simp at h3⊢;omega,?_⟩;rw[h4];rw[show o+1+vs.length=(o+vs.length)+1 by omega];simp
def C6:List (Nat×Nat)->Nat->Option (Nat×Nat)
 |[],_=>none
 |x::_,0=>some x
 |_::r,i+1=>C6 r i
def C7:∀(l:List (Nat×Nat)) (i:Nat),C6 l i=l[i]?
 |[],i=>by simp[C6]
 |x::r,0=>by simp[C6]
 |x::r,i+1=>by simp[C6,C7 r i]
def AN:List Value->Nat
 |[]=>0
 |_::r=>AN r+1
def AO:∀l:List Value,AN l=l.length
 |[]=>rfl
 |_::r=>by simp[AN,AO r]
def qR(places:List (Nat×Nat)):List Value->List (Nat×Value)->Option (List Value)
 |cells,[]=>some cells
 |cells,(i,v)::rest=>match C6 places i with
  |none=>none
  |some (off,k)=>match beq (AN (j8 v)) k,D_ cells off (j8 v)with
   |true,some out=>qR places out rest
   |_,_=>none
def qS(places:List (Nat×Nat)):∀(parts:List (Nat×Value)) (cells out:List Value),qR places cells parts=some out->Instr.fill (places.toArray[.]?) cells.toArray parts=some out.toArray
 |[],cells,out,h=>by simp[qR]at h;subst h;simp[Instr.fill]
 |(i,v)::rest,cells,out,h=>by
  simp only[qR]at h;split at h
  .cases h
  .rename_i off k m;split at h
   .rename_i out1 s q;obtain⟨h1,h2⟩:=Ea _ _ _ _ q;have r:(j8 v).length=k:=by rw[<-AO];exact Ri s
    have p:=qS places rest out1 out h;rw[C7]at m;have a:=sf (j8 v) off cells.toArray (by simpa using h1);have l:(v.cells.zipIdx.foldl (λ(cs:Array Value) (x:Value×Nat)=>cs.setIfInBounds (off+x.2) x.1) cells.toArray)=out1.toArray:=by rw[j9,<-Nx,NL,h2];simpa using a
    have f:(v.cells.zipIdx.foldl (λcs (x:Value×Nat)=>match x with|(c,j)=>cs.setIfInBounds (off+j) c) cells.toArray)=out1.toArray:=l;simp only[Instr.fill];rw[show(places.toArray[i]?)=some (off,k) by simpa using m];simp only;rw[Tm (by rw[j9];simp[r];omega),f];exact p
   .cases h
section
variable {P:Program}{Q:Exit->Act->World->Prop}{n:Nat}{σ:Sg}{w:World}{L rest:List Oper}{d:Nat}{ty:TypeId}{pos:String}{af:Array Edge}{g:Option (Nat×Bool)}{t e:TypeId}{x y:Operand}{b o:Nat}{cells:List Value}
theorem Hu{f k:Nat}[hf:IsFd P t f k](w:World):(Instr.fieldAt t (.pointer (some ⟨b,o,none⟩)) f).run P w=.ok (.pointer (some ⟨b,o+k,none⟩)) w:=by obtain⟨fs,fld,i,h1,h2,h3,h4,a⟩:=hf.ok;simp[Instr.fieldAt,TA h1,h2,Instr.sureAddr,fieldPlace,sizeOf,typeInfo,h4,a,h3,SW]
theorem fj{f k:Nat}(i:gd L σ ⟨some d,.fieldAddr t x f,ty,pos,af,g⟩=some true)(hd:ble (d+1) n=true)(c:ev σ x=some (.pointer (some ⟨b,o,none⟩)))[hf:IsFd P t f k]
  (h:WL P L Q rest n ((d,.pointer (some ⟨b,o+k,none⟩))::σ) w):WL P L Q (⟨some d,.fieldAddr t x f,ty,pos,af,g⟩::rest) n σ w:=by
 refine VG i hd (λa j=>?_) h;simp[execOp,j.ev c,Hu (P:=P) (t:=t) (f:=f) (k:=k)]
theorem dA{f k:Nat}(i:gd L σ ⟨some d,.fieldAddr t x f,ty,pos,af,g⟩=some true)(hd:ble (d+1) n=true)(c:ev σ x=some (.pointer (some ⟨b,o,none⟩)))[hf:IsFd P t f k]
  (h:QL P L w Q rest n ((d,.pointer (some ⟨b,o+k,none⟩))::σ)):QL P L w Q (⟨some d,.fieldAddr t x f,ty,pos,af,g⟩::rest) n σ:=by
 refine V4 i hd (λa j w' _=>?_) h;simp[execOp,j.ev c,Hu (P:=P) (t:=t) (f:=f) (k:=k)]
theorem Hw{v:Value}(w:World)(h:Blk w b e cells)(c:C8 cells o=some v)[f:IsC P t 1 false]:(Instr.loadAt t (.pointer (some ⟨b,o,none⟩))).run P w=.ok v w:=by
 obtain⟨i,dd,h1,h2,h3,h4⟩:=f.ok;have a:(isAgg t).run P w=.ok false w:=by unfold isAgg;rw[Sb,TA h3 w,<-h4];cases dd<;>rfl
 rw[C9]at c;simp only[Instr.loadAt,Sb,Instr.sureAddr,Sc,Sa,loadVar,a];simp[h.cell c]
theorem Hx{vs:List Value}{k:Nat}(w:World)(q:Blk w b e cells)(f:H9 cells o k=some vs)[p:IsC P t k true]:(Instr.loadAt t (.pointer (some ⟨b,o,none⟩))).run P w=.ok (.agg vs.toArray) w:=by
 obtain⟨i,dd,h1,h2,h3,h4⟩:=p.ok;have c:(isAgg t).run P w=.ok true w:=by unfold isAgg;rw[Sb,TA h3 w,<-h4];cases dd<;>rfl
 obtain⟨m,l⟩:=H_ _ _ _ _ f;have a:=Tx (P:=P) w ⟨b,o,none⟩ vs (λj u h=>by rw[SW];exact q.cell (l j u h));rw[m]at a;simp[Instr.loadAt,Instr.sureAddr,loadVar,c,sizeOf,typeInfo,h1,h2,a]
theorem ft{v:Value}(i:gd L σ ⟨some d,.load t x,ty,pos,af,g⟩=some true)(hd:ble (d+1) n=true)(c:ev σ x=some (.pointer (some ⟨b,o,none⟩)))[l:IsC P t 1 false](j:Blk w b e cells)(f:C8 cells o=some v)
  (h:WL P L Q rest n ((d,v)::σ) w):WL P L Q (⟨some d,.load t x,ty,pos,af,g⟩::rest) n σ w:=by
 refine VG i hd (λa k=>?_) h;simp[execOp,k.ev c,Hw (P:=P) (t:=t) w j f]
theorem dC{v:Value}(i:gd L σ ⟨some d,.load t x,ty,pos,af,g⟩=some true)(hd:ble (d+1) n=true)(c:ev σ x=some (.pointer (some ⟨b,o,none⟩)))[m:IsC P t 1 false](j:Blk w b e cells)(f:C8 cells o=some v)
  (h:QL P L w Q rest n ((d,v)::σ)):QL P L w Q (⟨some d,.load t x,ty,pos,af,g⟩::rest) n σ:=by
 refine V4 i hd (λa k w' l=>?_) h;simp[execOp,k.ev c,Hw (P:=P) (t:=t) w' (j.ext l) f]
theorem fw{vs:List Value}{k:Nat}(i:gd L σ ⟨some d,.load t x,ty,pos,af,g⟩=some true)(hd:ble (d+1) n=true)(c:ev σ x=some (.pointer (some ⟨b,o,none⟩)))[m:IsC P t k true](j:Blk w b e cells)(f:H9 cells o k=some vs)
  (h:WL P L Q rest n ((d,.agg vs.toArray)::σ) w):WL P L Q (⟨some d,.load t x,ty,pos,af,g⟩::rest) n σ w:=by
 refine VG i hd (λa l=>?_) h;simp[execOp,l.ev c,Hx (P:=P) (t:=t) w j f]
theorem dD{vs:List Value}{k:Nat}(i:gd L σ ⟨some d,.load t x,ty,pos,af,g⟩=some true)(hd:ble (d+1) n=true)(c:ev σ x=some (.pointer (some ⟨b,o,none⟩)))[p:IsC P t k true](j:Blk w b e cells)(f:H9 cells o k=some vs)
  (h:QL P L w Q rest n ((d,.agg vs.toArray)::σ)):QL P L w Q (⟨some d,.load t x,ty,pos,af,g⟩::rest) n σ:=by
 refine V4 i hd (λa l w' m=>?_) h;simp[execOp,l.ev c,Hx (P:=P) (t:=t) w' (j.ext m) f]
theorem fQ{p:Addr}(f:gd L σ ⟨some d,.nilCheck x,ty,pos,af,g⟩=some true)(hd:ble (d+1) n=true)(c:ev σ x=some (.pointer (some p)))
  (h:WL P L Q rest n ((d,.pointer (some p))::σ) w):WL P L Q (⟨some d,.nilCheck x,ty,pos,af,g⟩::rest) n σ w:=by
 refine VG f hd (λa i=>?_) h;simp[execOp,i.ev c]
theorem dH{p:Addr}(f:gd L σ ⟨some d,.nilCheck x,ty,pos,af,g⟩=some true)(hd:ble (d+1) n=true)(c:ev σ x=some (.pointer (some p)))
  (h:QL P L w Q rest n ((d,.pointer (some p))::σ)):QL P L w Q (⟨some d,.nilCheck x,ty,pos,af,g⟩::rest) n σ:=by
 refine V4 f hd (λa i _ _=>?_) h;simp[execOp,i.ev c]
theorem eG{v:Value}(c:gd L σ ⟨some d,.box e x,ty,pos,af,g⟩=some true)(hd:ble (d+1) n=true)(a:ev σ x=some v)
  (h:∀w',Blk w' w.heap.size e (j8 v)->Ext w w'->WL P L Q rest n ((d,Uc w.heap.size)::σ) w'):WL P L Q (⟨some d,.box e x,ty,pos,af,g⟩::rest) n σ w:=by
 refine WL.box c hd a ?_;have:=Wp w (j8 v) e;rw[<-j9]at this;exact h _ this (V6 w _)
theorem eH{v:Value}(h:∀w',Blk w' w.heap.size e (j8 v)->Ext w w'->WL P L Q rest n ((d,Uc w.heap.size)::σ) w')(c:gd L σ ⟨some d,.box e x,ty,pos,af,g⟩=some true:=by exact rfl)(hd:ble (d+1) n=true:=by exact rfl)(a:ev σ x=some v:=by exact rfl):WL P L Q (⟨some d,.box e x,ty,pos,af,g⟩::rest) n σ w:=eG c hd a h
theorem WL.alloc{zs:List Value}(f:gd L σ ⟨some d,.alloc e,ty,pos,af,g⟩=some true)(hd:ble (d+1) n=true)[c:IsZC P e zs]
  (h:∀w',Blk w' w.heap.size e zs->Ext w w'->WL P L Q rest n ((d,Uc w.heap.size)::σ) w'):WL P L Q (⟨some d,.alloc e,ty,pos,af,g⟩::rest) n σ w:=by
 obtain⟨i,z,h1,h2,h3⟩:=c.ok;refine VG f hd (λa j=>?_) (h _ (Wp w zs e) (V6 w _));simp[execOp,Instr.alloc,zeroValue,typeInfo,h1,h2,newVar,newRow,h3]
theorem eC{zs:List Value}[c:IsZC P e zs](h:∀w',Blk w' w.heap.size e zs->Ext w w'->WL P L Q rest n ((d,Uc w.heap.size)::σ) w')(a:gd L σ ⟨some d,.alloc e,ty,pos,af,g⟩=some true:=by exact rfl)(hd:ble (d+1) n=true:=by exact rfl):WL P L Q (⟨some d,.alloc e,ty,pos,af,g⟩::rest) n σ w:=WL.alloc a hd h
theorem uB(w:World)(b:Nat)(cs:Array Value):w.grownBy (w.setRow b cs) (some b):=⟨rfl,rfl,rfl,by simp,λk _ a=>TC w b k _ (λe=>a (by simp[e]))⟩
theorem WL.st{v:Value}{k:Nat}{ag:Bool}{out:List Value}(A:gd L σ ⟨none,.store t x y,ty,pos,af,g⟩=some true)(z:ev σ x=some (.pointer (some ⟨b,o,none⟩)))(s:ev σ y=some v)[B:IsC P t k ag](q:Blk w b e cells)
  (p:AN (j8 v)=k) (f:D_ cells o (j8 v)=some out) (h1:∀u∈j8 v,u.oneCell'=true)
  (h:∀w',Blk w' b e out->w.grownBy w' (some b)->WL P L Q rest n σ w'):WL P L Q (⟨none,.store t x y,ty,pos,af,g⟩::rest) n σ w:=by
 obtain⟨j,rfl⟩:=Ea _ _ _ _ f;obtain⟨i,dd,m,l,_,_⟩:=B.ok;rw[AO]at p;subst p;have c:=Tz P b o e (j8 v) 0 cells.toArray w q (by simpa using j) h1;simp only[Re]at c;refine fV A (λa r=>?_) (h _ (by have:=TB w b cells.toArray (cells.take o++j8 v++cells.drop (o+(j8 v).length)).toArray e (0,0) q;exact this) (uB w b _));simp only[execOp,r.ev z,r.ev s,Instr.storeAt,Sb,Instr.sureAddr,Sc,Sa,storeVar,sizeOf,typeInfo,Ty,m,l,j9,c];simp;simp[c]
theorem f7{v:Value}{k:Nat}{ag:Bool}{out:List Value}[m:IsC P t k ag](l:Blk w b e cells)(h:∀w',Blk w' b e out->w.grownBy w' (some b)->WL P L Q rest n σ w')(j:gd L σ ⟨none,.store t x y,ty,pos,af,g⟩=some true:=by exact rfl)(f:ev σ x=some (.pointer (some ⟨b,o,none⟩)):=by exact rfl)(c:ev σ y=some v:=by exact rfl)(i:AN (j8 v)=k:=by exact rfl)(a:D_ cells o (j8 v)=some out:=by exact rfl)(h1:∀u∈j8 v,u.oneCell'=true:=by exact(DH rfl)):WL P L Q (⟨none,.store t x y,ty,pos,af,g⟩::rest) n σ w:=WL.st j f c l i a h1 h
theorem Ho{parts:List (Nat×Operand)}{vs:List Value}{places:List (Nat×Nat)}{zs out:List Value}{a:Act}(u:Fr n σ a)
  (k:pN σ (I_ parts)=some vs) [m:IsZC P t zs] [q:IsBd P t places] (hf:qR places zs ((parts.map (·.1)).zip vs)=some out) {w:World} {dd:Option Nat}:
  (execOp a.eval ⟨dd,.build t parts.toArray,ty,pos,af,g⟩).run P w=.ok (.value (.agg out.toArray)) w:=by
 obtain⟨i,z,h1,h2,h3⟩:=m.ok;obtain⟨fs,h4,A⟩:=q.ok;have c:∀l:List (Nat×Operand),I_ l=l.map (·.2):=by
  intro l;induction l with
  |nil=>rfl
  |cons p r h=>obtain⟨i,x⟩:=p;simp[I_,h]
 have j:=pO u (I_ parts) vs k;rw[c,Qh]at j;have C:(parts.toArray.map λ(x:Nat×Operand)=>(x.1,a.eval x.2)).toList=(parts.map (·.1)).zip vs:=by
  rw[<-j];simp only[Qk];clear k hf j;induction parts with
  |nil=>rfl
  |cons p r h=>simpa using h
 have s:P.built t ((parts.map (·.1)).zip vs)=some out.toArray:=by unfold Program.built;rw[h1,h4];simp only[h2,A];rw[h3];exact qS places _ zs out hf
 have f:=run_build (P:=P) w t (parts.toArray.map λ(x:Nat×Operand)=>(x.1,a.eval x.2)) out.toArray (by rw[C];exact s);have B:(execOp a.eval ⟨dd,.build t parts.toArray,ty,pos,af,g⟩)=(do let v<-Instr.build t (parts.toArray.map λ(x:Nat×Operand)=>(x.1,a.eval x.2));Pure.pure (Next.value v):Sem Next):=rfl;rw[B,Sb,f];rfl
theorem WL.build{parts:List (Nat×Operand)}{vs:List Value}{places:List (Nat×Nat)}{zs out:List Value}(f:gd L σ ⟨some d,.build t parts.toArray,ty,pos,af,g⟩=some true)(hd:ble (d+1) n=true)
  (c:pN σ (I_ parts)=some vs) [j:IsZC P t zs] [k:IsBd P t places] (hf:qR places zs ((parts.map (·.1)).zip vs)=some out)
  (h:WL P L Q rest n ((d,.agg out.toArray)::σ) w):WL P L Q (⟨some d,.build t parts.toArray,ty,pos,af,g⟩::rest) n σ w:=by
 exact VG f hd (λa i=>Ho i c hf) h
def r4:=@WL.build
end
def aA{n:Nat}{σ:Sg}{x y:Code}(τ:Sg)(h:CW P x (λe a w'=>e=.normal/\Fr n τ a/\w'=w) n σ w)(b:CW P y Q n τ w):CW P (.seq x y) Q n σ w:=by refine Wa ?_;unfold CW at*;intro a c;refine TH (h a c) ?_;rintro e f w' ⟨rfl,hF,rfl⟩;exact b f hF
def aT{n:Nat}{σ τ:Sg}(b:Sub τ σ):EX (λe a w'=>e=.normal/\Fr n τ a/\w'=w) .normal n σ w:=by unfold EX;exact λa c=>⟨rfl,c.sub b,rfl⟩
def aB{n:Nat}{σ:Sg}{x y:Code}(τ:Sg)(h:CW P x (λe a w'=>e=.normal/\Fr n τ a/\Ext w w') n σ w)(b:∀w',Ext w w'->CW P y Q n τ w'):CW P (.seq x y) Q n σ w:=by refine Wa ?_;unfold CW at*;intro a c;refine TH (h a c) ?_;rintro e i w' ⟨rfl,hF,f⟩;exact b w' f i hF
def aU{n:Nat}{σ τ:Sg}{w':World}(b:Sub τ σ)(f:Ext w w'):EX (λe a w'=>e=.normal/\Fr n τ a/\Ext w w') .normal n σ w':=by unfold EX;exact λa c=>⟨rfl,c.sub b,f⟩
def aC{n:Nat}{σ:Sg}{x y:Code}{S:Type}(σs:S->Sg)(I:S->World->Prop)(h:CW P x (λe a w'=>e=.normal/\∃s,Fr n (σs s) a/\I s w') n σ w)(b:∀s w',I s w'->CW P y Q n (σs s) w'):CW P (.seq x y) Q n σ w:=by refine Wa ?_;unfold CW at*;intro a c;refine TH (h a c) ?_;rintro e i w' ⟨rfl,s,hF,f⟩;exact b s w' f i hF
def aV{n:Nat}{σ:Sg}{S:Type}{σs:S->Sg}{I:S->World->Prop}(s:S)(b:Sub (σs s) σ)(f:I s w):EX (λe a w'=>e=.normal/\∃s,Fr n (σs s) a/\I s w') .normal n σ w:=by unfold EX;exact λa c=>⟨rfl,s,c.sub b,f⟩
def DG:List Value->Bool
 |[]=>true
 |v::r=>match v.oneCell' with
  |true=>DG r
  |false=>false
def DH:∀{l:List Value},DG l=true->∀u∈l,u.oneCell'=true
 |[],_,u,a=>by cases a
 |v::r,h,u,a=>by
  simp only[DG]at h;split at h
  .rename_i b;obtain rfl|a:=Qo.1 a
   .exact b
   .exact DH h u a
  .cases h
def pw{op:BinOp}(h:(op==.eql||op==.neq)=false)(t:TypeId)(x y:Operand)(u v:Value):eqGuard op t x y u v=Pure.pure ():=by cases op<;>first|rfl|(simp at h)
def IX(a s:Nat)(b:a<18446744073709551616):(a:Int) / 2 ^ min s 64=((a >>> s:Nat):Int):=by
 rw[RN];by_cases h:s<=64
 .rw[Ry h];simp
 .rw[Nat.min_eq_right TK];have h1:a / 2 ^ s=0:=Rg (Rv b (by have:=RK (n:=2) TK (show 64<=s by omega);simpa using this));rw[h1];omega
def HO(P:Program)(w:World)(a s:Nat)(b:a<18446744073709551616)(t:TypeId):(binOp .shr t (.int .u64 (a:Int)) (Ub (s:Int))).run P w=.ok (.int .u64 ((a >>> s:Nat):Int)) w:=by have h:binOp .shr t (.int .u64 (a:Int)) (Ub (s:Int))=Op.shift .shr .u64 (a:Int) .i64 (s:Int):=rfl;rw[h,shift_shr_any _ _ _ _ TK];have:=IX a s b;simp only[Oy,IntKind.bits];rw[this];rfl
def HN(P:Program)(w:World)(a:Nat)(s:Int)(c:a<18446744073709551616)(b:0<=s)(t:TypeId):(binOp .shr t (.int .u64 (a:Int)) (Ub s)).run P w=.ok (.int .u64 ((a >>> s.toNat:Nat):Int)) w:=by have h1:=HO P w a s.toNat c t;rwa[Oz b]at h1
def Hm(P:Program)(w:World)(a b:Nat)(e:a<18446744073709551616)(c:b<18446744073709551616)(t:TypeId):(binOp .and t (.int .u64 (a:Int)) (.int .u64 (b:Int))).run P w=.ok (.int .u64 ((a&&&b:Nat):Int)) w:=by have h:binOp .and t (.int .u64 (a:Int)) (.int .u64 (b:Int))=Op.intBits .and .u64 (a:Int) (b:Int):=rfl;rw[h,intBits_and,S5 a b e c];rfl
class IsI(P:Program)(t:TypeId)(k:IntKind):Prop where
 ok:P.underlying t=some (.int k)
section
variable {P:Program}{Q:Exit->Act->World->Prop}{n:Nat}{σ:Sg}{w:World}{L rest:List Oper}{d:Nat}{ty:TypeId}{pos:String}{af:Array Edge}{g:Option (Nat×Bool)}{t yt:TypeId}{x y:Operand}
theorem eE{a:Nat}(f:gd L σ ⟨some d,.binOp .and t x y yt,ty,pos,af,g⟩=some true)(hd:ble (d+1) n=true)(e:ev σ x=some (.int .u64 (a:Int)))(c:ev σ y=some (.int .u64 1))(i:a<18446744073709551616)
  (h:WL P L Q rest n ((d,.int .u64 ((a&&&1:Nat):Int))::σ) w):WL P L Q (⟨some d,.binOp .and t x y yt,ty,pos,af,g⟩::rest) n σ w:=by
 refine VG f hd (λj b=>?_) h;have:(binOp .and t (.int .u64 (a:Int)) (.int .u64 1)).run P w=.ok (.int .u64 ((a&&&1:Nat):Int)) w:=Hm P w a 1 i TK t;simp[execOp,b.ev e,b.ev c,pw (op:=.and) rfl,this]
theorem eQ{a:Int}{k k':IntKind}(e:gd L σ ⟨some d,.convert t yt x,ty,pos,af,g⟩=some true)(hd:ble (d+1) n=true)(c:ev σ x=some (.int k a))[h1:IsI P t k][h2:IsI P yt k']
  (h:WL P L Q rest n ((d,.int k' (k'.wrap a))::σ) w):WL P L Q (⟨some d,.convert t yt x,ty,pos,af,g⟩::rest) n σ w:=by
 refine VG e hd (λf b=>?_) h;simp[execOp,b.ev c,convert,TA h1.ok,TA h2.ok,Conv.intToInt]
theorem dL{a:Nat}{s:Int}(j:gd L σ ⟨some d,.binOp .shr t x y yt,ty,pos,af,g⟩=some true)(hd:ble (d+1) n=true)(f:ev σ x=some (.int .u64 (a:Int)))(e:ev σ y=some (Ub s))(k:a<18446744073709551616)(i:0<=s)
  (h:QL P L w Q rest n ((d,.int .u64 ((a >>> s.toNat:Nat):Int))::σ)):QL P L w Q (⟨some d,.binOp .shr t x y yt,ty,pos,af,g⟩::rest) n σ:=by
 refine V4 j hd (λl b c _=>?_) h;have:=HN P c a s k i t;simp[execOp,b.ev f,b.ev e,pw (op:=.shr) rfl,this]
theorem du{a:Nat}(i:gd L σ ⟨some d,.binOp .and t x y yt,ty,pos,af,g⟩=some true)(hd:ble (d+1) n=true)(f:ev σ x=some (.int .u64 (a:Int)))(e:ev σ y=some (.int .u64 1))(j:a<18446744073709551616)
  (h:QL P L w Q rest n ((d,.int .u64 ((a&&&1:Nat):Int))::σ)):QL P L w Q (⟨some d,.binOp .and t x y yt,ty,pos,af,g⟩::rest) n σ:=by
 refine V4 i hd (λk b c _=>?_) h;have:(binOp .and t (.int .u64 (a:Int)) (.int .u64 1)).run P c=.ok (.int .u64 ((a&&&1:Nat):Int)) c:=Hm P c a 1 j TK t;simp[execOp,b.ev f,b.ev e,pw (op:=.and) rfl,this]
end
instance wb{α β:Type}[Rep α][Rep β]:Rep (α×β)where
 sz:=sz α+sz β
 pos:=by have:=(Rep.pos:0<Rep.sz α);show 0<Rep.sz α+Rep.sz β;omega
 agg:=true
 rd:=λw F cs x=>∃c1 c2,cs=c1++c2/\rd w F c1 x.1/\rd w F c2 x.2
 len:=by rintro w F cs x ⟨c1,c2,rfl,h1,h2⟩;rw[PX,Rep.len h1,Rep.len h2]
 one:=by
  rintro w F cs x ⟨c1,c2,rfl,h1,h2⟩ v b;obtain h|h:=Ql.1 b
  .exact Rep.one h1 v h
  .exact Rep.one h2 v h
 szAgg:=λh=>by cases h
 mono:=by rintro w w' F F' cs x ⟨c1,c2,rfl,h1,h2⟩ a hF;exact⟨c1,c2,rfl,Rep.mono h1 a hF,Rep.mono h2 a hF⟩
def Rd.pr{β:Type}[Rep α][Rep β]{x:α×β}(h:Rd w F v x):∃c1 c2,v=.agg (c1++c2).toArray/\rd w F c1 x.1/\rd w F c2 x.2:=by obtain⟨cs,rfl,c1,c2,rfl,h1,h2⟩:=h;exact⟨c1,c2,rfl,h1,h2⟩
def Gr{β:Type}[Rep α][Rep β]{cs:List Value}{x:α×β}(h:rd w F cs x):∃c1 c2,cs=c1++c2/\rd w F c1 x.1/\rd w F c2 x.2:=h
def Gl{cs:List Value}(h:rd w F cs x):cs=[Ub x]:=h
def Gs[Rep α]{cs:List Value}{x:List α}(h:rd w F cs x):∃ao cap,cs=[.slice ao x.length cap]/\Sl w F ao cap x:=h
def Rd.mkPr{β:Type}[Rep α][Rep β]{c1 c2:List Value}{x:α}{y:β}(h1:rd w F c1 x)(h2:rd w F c2 y):Rd w F (.agg (c1++c2).toArray) (x,y):=⟨_,rfl,c1,c2,rfl,h1,h2⟩
def VZ:=@Rd.mkPr
def Gm{β:Type}[Rep α][Rep β]{c1 c2:List Value}{x:α}{y:β}(h1:rd w F c1 x)(h2:rd w F c2 y):rd w F (c1++c2) (x,y):=⟨c1,c2,rfl,h1,h2⟩
def Gn(w:World)(F:Nat->Prop)(x:Int):rd w F [Ub x] x:=rfl
def Gp(w:World)(F:Nat->Prop)(x:Nat)(h:x<18446744073709551616):rd w F [.int .u64 (x:Int)] x:=⟨rfl,h⟩
abbrev cL:=Int×Int×Int×Int×Int×Int×Int
def C4:List Oper->Nat->Option Oper
 |[],_=>none
 |o::_,0=>some o
 |_::r,i+1=>C4 r i
def C5:∀(l:List Oper) (i:Nat),C4 l i=l[i]?
 |[],i=>by simp[C4]
 |o::r,0=>by simp[C4]
 |o::r,i+1=>by simp[C4,C5 r i]
def DR(ops:Array Oper):List (Nat×Bool)->Array Bool->Bool
 |[],a=>(ready .any ops a).isEmpty
 |(i,true)::r,a=>(ready .any ops a).contains i&&Region.free .any ops a i&&DR ops r (a.setIfInBounds i true)
 |(i,false)::r,a=>decide (ready .any ops a=[i])&&DR ops r (a.setIfInBounds i true)
def DV(l:List Oper)(ord:List (Nat×Bool)):Bool:=Region.noSelect l.toArray&&decide (ord.length=l.length)&&DR l.toArray ord (Array.replicate l.length false)
def Ng(P:Program)(ops:List Oper)(S:World->Prop)(Q:Act->World->Prop):List (Nat×Bool)->Act->World->Prop
 |[],a,w=>Q a w
 |(i,true)::r,a,w=>∃o v,ops[i]?=some o/\YieldsIf P ops.toArray S o v a/\Ng P ops S Q r (a.put o.dst v) w
 |(i,false)::r,a,w=>∃o,ops[i]?=some o/\(if Region.wanted o (yielded ops.toArray a.tmps)=true then o.wp P a w (λc w'=>S w'/\Ng P ops S Q r c w') (λe a w=>e=.normal/\Q a w)else S w/\Ng P ops S Q r (a.put o.dst undef) w)
def Ni{P:Program}{ops:List Oper}{S:World->Prop}{Q:Act->World->Prop}(k:Region.noSelect ops.toArray=true):
  ∀(ord:List (Nat×Bool)) (c:Array Bool) (a:Act) (w:World),DR ops.toArray ord c=true->S w->Ng P ops S Q ord a w->wpAnyH P .any ops.toArray (λe a w=>e=.normal/\Q a w) S ord.length c a w
 |[],c,a,w,f,_,h=>by simp only[DR,PW]at f;exact⟨f,rfl,h⟩
 |(i,true)::r,c,a,w,f,hS,⟨o,v,p,u,h⟩=>by simp only[DR,NS]at f;exact wpAnyH_take (by simpa using p) k f.1.2 f.1.1 (λ_ _ _ h=>by cases h.1) u hS (Ni k r _ _ _ f.2 hS h)
 |(i,false)::r,c,a,w,f,hS,⟨o,p,h⟩=>by
  simp only[DR,NS,Td]at f;refine TD f.1 TO ?_;intro j hj;have q:j=i:=by simpa using hj
  subst q;have m:ops.toArray[j]?=some o:=by simpa using p
  unfold wpOp;simp only[m];split
  .rename_i l;rw[Tn l]at h;exact .inl (RX (λz w' s=>⟨s.1,Ni k r _ _ _ f.2 s.1 s.2⟩) h)
  .rename_i l;rw[Tm l]at h;exact⟨h.1,Ni k r _ _ _ f.2 h.1 h.2⟩
@[irreducible] def HL (P:Program) (ops:List Oper) (S:World->Prop) (Q:Exit->Act->World->Prop) (ord:List (Nat×Bool)) (n:Nat) (σ:Sg) (w:World):Prop:=
  ∀a,Fr n σ a->Ng P ops S (λa w=>Q .normal a w) ord a w
abbrev drew(w:World):World:={w with drawn:=w.drawn+1}
def Ext.drew(w:World):Ext w (drew w):=⟨rfl,rfl,rfl,Rq _,λ_ _=>rfl⟩
def mm:=@Ext.drew
def ae(P:Program)(ops:List Oper)(S:World->Prop)(Q:Exit->Act->World->Prop)(ord:List (Nat×Bool)):Exit->Act->World->Prop:=
 λe a w=>e=.normal/\S w/\Ng P ops S (λa w=>Q .normal a w) ord a w
section
variable {P:Program}{Q:Exit->Act->World->Prop}{n:Nat}{σ:Sg}{w:World}{L:List Oper}{S:World->Prop}{rest:List (Nat×Bool)}{i d:Nat}{op:Op}{ty:TypeId}{pos:String}{af:Array Edge}{g:Option (Nat×Bool)}
theorem aG{id:Nat}(S:World->Prop)(ord:List (Nat×Bool))(j:P.follows .mixedOrders=true)(c:DV L ord=true)(hS:S (drew w))(h:HL P L S Q ord n σ (drew w)):CW P (.region id L.toArray true) Q n σ w:=by unfold CW;unfold HL at h;intro a m;simp only[DV,NS,Td]at c;obtain⟨⟨f,k⟩,c⟩:=c;have h1:=Ni f ord (Array.replicate L.length false) a (Go.Proofs.YtfpjecjadlgdcaaGreatDoor.drew w) c hS (h a m);rw[k]at h1;have h2:=wp_region_held (id:=id) (S:=S) j (w:=w) (ops:=L.toArray) (by simpa using h1);exact TH h2 (λe p w' ⟨l,hq⟩=>by subst l;exact hq)
theorem HL.nil(h:EX Q .normal n σ w):HL P L S Q [] n σ w:=by unfold HL;unfold EX at h;exact λa c=>h a c
def VK:=@HL.nil
theorem HL.run{v:Value}(j:C4 L i=some ⟨some d,op,ty,pos,af,g⟩)(l:gd L σ ⟨some d,op,ty,pos,af,g⟩=some true)(hd:ble (d+1) n=true)
  (k:∀a,Fr n σ a->∀w',S w'->(execOp a.eval ⟨some d,op,ty,pos,af,g⟩).run P w'=.ok (.value v) w') (h:HL P L S Q rest n ((d,v)::σ) w):HL P L S Q ((i,true)::rest) n σ w:=by
 unfold HL at*;intro a f;rw[C5]at j;exact⟨_,v,j,.inl ⟨sZ f l,λw' c=>k a f w' c⟩,h _ (f.put (d:=some d) hd)⟩
def VP:=@HL.run
theorem cA{v:Value}(f:C4 L i=some ⟨some d,op,ty,pos,af,g⟩)(j:gd L σ ⟨some d,op,ty,pos,af,g⟩=some true)(hd:ble (d+1) n=true)
  (c:FK σ op=some v) (h:HL P L S Q rest n ((d,v)::σ) w):HL P L S Q ((i,true)::rest) n σ w:=
 VP f j hd (λa k _ _=>FL k c) h
theorem HL.pass(c:C4 L i=some ⟨some d,op,ty,pos,af,g⟩)(j:gd L σ ⟨some d,op,ty,pos,af,g⟩=some false)(hd:ble (d+1) n=true)
  (h:HL P L S Q rest n ((d,undef)::σ) w):HL P L S Q ((i,true)::rest) n σ w:=by
 unfold HL at*;intro a f;rw[C5]at c;exact⟨_,undef,c,.inr ⟨sZ f j,rfl⟩,h _ (f.put (d:=some d) hd)⟩
theorem cy{o:Oper}(m:C4 L i=some o)(h:WL P L (ae P L S Q rest) [o] n σ w):HL P L S Q ((i,false)::rest) n σ w:=by
 unfold HL;unfold WL at h;intro a p;rw[C5]at m;have h1:=h a p;refine⟨o,m,?_⟩;have h2:wpList P L.toArray (ae P L S Q rest) [o] a w:=h1;simp only[wpList]at h2;split
 .rename_i l;rw[Tn l]at h2;obtain h2|⟨_,c⟩:=h2
  .unfold Oper.wp at*;generalize (execOp a.eval o).run P w=r at*;cases r with
   |ok k w'=>
    cases k<;>simp only[Oper.upon]at h2⊢<;>first
     |exact h2.2
     |exact h2
     |(refine Oa h2 (λe w'' f=>?_);cases e<;>first|exact f.2|(exact absurd f.1 TO)|(obtain⟨_,_,j⟩:=f;exact absurd j.1 TO))
     |exact Rows.mono h2 (λ_ _ f=>f.2)
   |halt x w'=>cases x<;>simp only[Oper.upon]at h2⊢<;>first|exact h2|(exact absurd h2.1 TO)
  .obtain⟨_,_,j⟩:=c;exact absurd j.1 TO
 .rename_i l;rw[Tm l]at h2;exact h2.2
theorem a8(hS:S w)(h:HL P L S Q rest n σ w):EX (ae P L S Q rest) .normal n σ w:=by unfold EX;unfold HL at h;exact λa c=>⟨rfl,hS,h a c⟩
end
section
variable {P:Program}{Q:Exit->Act->World->Prop}{n:Nat}{σ:Sg}{w wc:World}{L:List Oper}{S:World->Prop}{rest:List (Nat×Bool)}{i d:Nat}{op:Op}{ty:TypeId}{pos:String}{af:Array Edge}{g:Option (Nat×Bool)}{t yt e:TypeId}{x y:Operand}{b o:Nat}{cells:List Value}
theorem HL.add{t yt:TypeId}{x y:Operand}{a b:Int}(j:C4 L i=some ⟨some d,.binOp .add t x y yt,ty,pos,af,g⟩)(k:gd L σ ⟨some d,.binOp .add t x y yt,ty,pos,af,g⟩=some true)(hd:ble (d+1) n=true)
  (f:ev σ x=some (Ub a)) (c:ev σ y=some (Ub b)) (l: -9223372036854775808<=a+b) (h1:a+b<9223372036854775808) (h:HL P L S Q rest n ((d,Ub (a+b))::σ) wc):HL P L S Q ((i,true)::rest) n σ wc:=by
 refine cA j k hd (v:=Ub (a+b)) ?_ h;simp only[FK,f,c,EK];rw[Np l h1]
theorem cE{t yt:TypeId}{x y:Operand}{a b:Int}(j:C4 L i=some ⟨some d,.binOp .sub t x y yt,ty,pos,af,g⟩)(k:gd L σ ⟨some d,.binOp .sub t x y yt,ty,pos,af,g⟩=some true)(hd:ble (d+1) n=true)
  (f:ev σ x=some (Ub a)) (c:ev σ y=some (Ub b)) (l: -9223372036854775808<=a -b) (h1:a -b<9223372036854775808) (h:HL P L S Q rest n ((d,Ub (a -b))::σ) wc):HL P L S Q ((i,true)::rest) n σ wc:=by
 refine cA j k hd (v:=Ub (a -b)) ?_ h;simp only[FK,f,c,EK];rw[Np l h1]
theorem cx{t e:TypeId}{x:Operand}{ao:Option Addr}{k cap:Nat}(j:C4 L i=some ⟨some d,.call ⟨.builtin .len,#[x],#[t]⟩,ty,pos,af,g⟩)(l:gd L σ ⟨some d,.call ⟨.builtin .len,#[x],#[t]⟩,ty,pos,af,g⟩=some true)(hd:ble (d+1) n=true)
  (c:ev σ x=some (.slice ao k cap)) [f:IsS P t e] (h:HL P L S Q rest n ((d,Ub (k:Int))::σ) wc):HL P L S Q ((i,true)::rest) n σ wc:=by
 refine VP j l hd (λa m _ _=>?_) h;simp[execOp,resolve,invoke,builtin,m.ev c,Builtin.len_,TA f.ok,goInt]
theorem HL.makeFunc{fn:Fn}{fs cs:List Operand}{fv cv:List Value}(f:C4 L i=some ⟨some d,.makeFunc fn fs.toArray cs.toArray,ty,pos,af,g⟩)(j:gd L σ ⟨some d,.makeFunc fn fs.toArray cs.toArray,ty,pos,af,g⟩=some true)(hd:ble (d+1) n=true)
  (hf:pN σ fs=some fv) (k:pN σ cs=some cv) (h:HL P L S Q rest n ((d,.func fn fv.toArray cv.toArray)::σ) wc):HL P L S Q ((i,true)::rest) n σ wc:=by
 refine VP f j hd (λa c _ _=>?_) h;have m:=pO c fs fv hf;have l:=pO c cs cv k;simp[execOp,Instr.makeFunc,m,l]
theorem ce{f k:Nat}(j:C4 L i=some ⟨some d,.fieldAddr t x f,ty,pos,af,g⟩)(l:gd L σ ⟨some d,.fieldAddr t x f,ty,pos,af,g⟩=some true)(hd:ble (d+1) n=true)(c:ev σ x=some (.pointer (some ⟨b,o,none⟩)))[hf:IsFd P t f k]
  (h:HL P L S Q rest n ((d,.pointer (some ⟨b,o+k,none⟩))::σ) wc):HL P L S Q ((i,true)::rest) n σ wc:=by
 refine VP j l hd (λa m w' _=>?_) h;simp[execOp,m.ev c,Hu (P:=P) (t:=t) (f:=f) (k:=k)]
theorem cg{v:Value}(f:∀j,S j->Ext w j)(m:C4 L i=some ⟨some d,.load t x,ty,pos,af,g⟩)(p:gd L σ ⟨some d,.load t x,ty,pos,af,g⟩=some true)(hd:ble (d+1) n=true)(k:ev σ x=some (.pointer (some ⟨b,o,none⟩)))[u:IsC P t 1 false](q:Blk w b e cells)(l:C8 cells o=some v)
  (h:HL P L S Q rest n ((d,v)::σ) wc):HL P L S Q ((i,true)::rest) n σ wc:=by
 refine VP m p hd (λa r w' c=>?_) h;have s:=f _ c;simp[execOp,r.ev k,Hw (P:=P) (t:=t) w' (q.ext s) l]
theorem cj{vs:List Value}{k:Nat}(f:∀j,S j->Ext w j)(p:C4 L i=some ⟨some d,.load t x,ty,pos,af,g⟩)(q:gd L σ ⟨some d,.load t x,ty,pos,af,g⟩=some true)(hd:ble (d+1) n=true)(l:ev σ x=some (.pointer (some ⟨b,o,none⟩)))[v:IsC P t k true](r:Blk w b e cells)(m:H9 cells o k=some vs)
  (h:HL P L S Q rest n ((d,.agg vs.toArray)::σ) wc):HL P L S Q ((i,true)::rest) n σ wc:=by
 refine VP p q hd (λa s w' c=>?_) h;have u:=f _ c;simp[execOp,s.ev l,Hx (P:=P) (t:=t) w' (r.ext u) m]
theorem cz{p:Addr}(f:C4 L i=some ⟨some d,.nilCheck x,ty,pos,af,g⟩)(j:gd L σ ⟨some d,.nilCheck x,ty,pos,af,g⟩=some true)(hd:ble (d+1) n=true)(c:ev σ x=some (.pointer (some p)))
  (h:HL P L S Q rest n ((d,.pointer (some p))::σ) wc):HL P L S Q ((i,true)::rest) n σ wc:=by
 refine VP f j hd (λa k _ _=>?_) h;simp[execOp,k.ev c]
theorem cf{α:Type}[Rep α]{t e:TypeId}{x ix:Operand}{b off:Nat}{k cap:Nat}{ii:Int}{kd:IntKind}(l:C4 L i=some ⟨some d,.indexAddr t x ix,ty,pos,af,g⟩)(m:gd L σ ⟨some d,.indexAddr t x ix,ty,pos,af,g⟩=some true)(hd:ble (d+1) n=true)
  (f:ev σ x=some (.slice (some ⟨b,off,none⟩) k cap)) (hi:ev σ ix=some (.int kd ii)) [j:IsS P t e] [q:IsT P e α] (p:0<=ii) (h1:ii<k)
  (h:HL P L S Q rest n ((d,.pointer (some ⟨b,off+ii.toNat*sz α,none⟩))::σ) wc):HL P L S Q ((i,true)::rest) n σ wc:=by
 refine VP l m hd (λa c _ _=>?_) h;simp[execOp,c.ev f,c.ev hi,Instr.indexAt,asIntOf,TA j.ok,p,h1,HS (α:=α),SW]
theorem HL.load{α:Type}[Rep α]{t:TypeId}{x:Operand}{b off:Nat}{F:Nat->Prop}{cs:List Value}{y:α}(m:∀p,S p->Ext w p)(s:C4 L i=some ⟨some d,.load t x,ty,pos,af,g⟩)(v:gd L σ ⟨some d,.load t x,ty,pos,af,g⟩=some true)(hd:ble (d+1) n=true)
  (q:ev σ x=some (.pointer (some ⟨b,off,none⟩))) [C:IsT P t α] (A:b<w.heap.size) (hF:∀b,F b->b<w.heap.size) (z:Cells w b off cs) (r:rd w F cs y)
  (h:HL P L S Q rest n ((d,Me α cs)::σ) wc):HL P L S Q ((i,true)::rest) n σ wc:=by
 refine VP s v hd (λa B w' f=>?_) h;have c:=m _ f;have l:Cells w' b off cs:=z.mono (c.block b A);have j:rd w' F cs y:=Rep.mono r (λk u=>c.block k (hF k u)) λ_ h=>h;simp[execOp,B.ev q,Instr.loadAt,Instr.sureAddr,HB l j]
def Wj:=@HL.load
theorem HL.build{parts:List (Nat×Operand)}{vs:List Value}{places:List (Nat×Nat)}{zs out:List Value}(f:C4 L i=some ⟨some d,.build t parts.toArray,ty,pos,af,g⟩)(j:gd L σ ⟨some d,.build t parts.toArray,ty,pos,af,g⟩=some true)(hd:ble (d+1) n=true)
  (c:pN σ (I_ parts)=some vs) [m:IsZC P t zs] [p:IsBd P t places] (hf:qR places zs ((parts.map (·.1)).zip vs)=some out)
  (h:HL P L S Q rest n ((d,.agg out.toArray)::σ) wc):HL P L S Q ((i,true)::rest) n σ wc:=
 VP f j hd (λa k l _=>Ho k c hf) h
theorem bW{α:Type}[Rep α]{x0:α}{bytes:Nat}{F:Nat->Prop}{H d1:Nat}{ty1:TypeId}{pos1:String}{af1:Array Edge}{g1:Option (Nat×Bool)}{v u:Value}{xs:List α}{yv:α}{B:Nat}
  (ho1:C4 L H=some ⟨some d1,.buildSlice t 1 [(0,y)].toArray,ty1,pos1,af1,g1⟩) (M:C4 L i=some ⟨some d,.call ⟨.builtin .append,#[x,.tmp d1],#[t,t]⟩,ty,pos,af,g⟩)
  (D:gd L σ ⟨some d1,.buildSlice t 1 [(0,y)].toArray,ty1,pos1,af1,g1⟩=some true) (G:ble (d1+1) n=true)
  (E:∀u,gd L ((d1,.slice u 1 1)::σ) ⟨some d,.call ⟨.builtin .append,#[x,.tmp d1],#[t,t]⟩,ty,pos,af,g⟩=some true) (hd:ble (d+1) n=true)
  (I:ev σ y=some u) (J:∀u,ev ((d1,.slice u 1 1)::σ) x=some v) [U:IsS P t e] [T:IsT P e α] [R:IsZ P e x0 bytes] (m:Own wc B e F v xs) (K:Rd wc F u yv) (O:B<=wc.heap.size) (hF:∀b,F b->b<wc.heap.size)
  (z:sz α<=16777216) (N:xs.length+1<=maxLen) (q:(xs.length+1)*bytes<=140737488355328) (hS:∀w',wc.grownBy w' v.ownBlock->S w')
  (h:∀l w' p,Own w' B e F l (xs++[yv])->wc.grownBy w' v.ownBlock->(∀g,l.ownBlock=some g->v.ownBlock=some g\/wc.heap.size<=g)->HL P L S Q rest n ((d,l)::(d1,.slice p 1 1)::σ) w'):
  HL P L S Q ((H,false)::(i,false)::rest) n σ wc:=by
 refine cy ho1 (VN (vs:=[u]) (ys:=[yv]) D G rfl (by simp[I_,pN,I]) rfl ⟨K,trivial⟩ (by simpa using z) hF (λs ho1 a=>?_));have c:wc.heap.size<=s.heap.size:=a.size;have j:Own s B e F v xs:=m.kept a (λ_ _ h=>by cases h) λb q=>⟨hF b q,λh=>by cases h⟩;have g2:wc.grownBy s v.ownBlock:=⟨a.os,a.tape,a.output,a.size,λk r _=>a.block k r (λh=>by cases h)⟩;refine p0 (a8 (hS _ g2) (cy M (V7 (ys:=[yv]) (E _) hd (J _) sd j ho1.src (Rr O c) (λb q=>Rv (hF b q) c) (by simpa using N) (by simpa using q) (λl w' A f hnb=>?_))));have g3:wc.grownBy w' v.ownBlock:=⟨f.os.trans a.os,f.tape.trans a.tape,f.output.trans a.output,Rr c f.size,λk r C=>(f.block k (Rv r c) C).trans (a.block k r (λh=>by cases h))⟩;exact p0 (a8 (hS _ g3) (h l w' _ A g3 (λg E=>(hnb g E).imp id (λh=>Rr c h))))
end
section
variable {P:Program}{Q:Exit->Act->World->Prop}{n:Nat}{σ:Sg}{w wc:World}{L:List Oper}{S:World->Prop}{rest:List (Nat×Bool)}{i j d d':Nat}{ty:TypeId}{pos:String}{af:Array Edge}{g:Option (Nat×Bool)}{ty':TypeId}{pos':String}{af':Array Edge}{g':Option (Nat×Bool)}{t e:TypeId}{x ix y:Operand}
variable {α:Type}[Rep α]{F:Nat->Prop}
theorem cd{ao:Option Addr}{cap:Nat}{xs:List α}{k:Nat}{kd:IntKind}(f:∀m,S m->Ext w m)
  (ho1:C4 L i=some ⟨some d,.indexAddr t x ix,ty,pos,af,g⟩) (ho2:C4 L j=some ⟨some d',.load e (.tmp d),ty',pos',af',g'⟩)
  (r:gd L σ ⟨some d,.indexAddr t x ix,ty,pos,af,g⟩=some true) (hd:ble (d+1) n=true) (hd':ble (d'+1) n=true)
  (q:ev σ x=some (.slice ao xs.length cap)) (hi:ev σ ix=some (.int kd (k:Int))) [A:IsS P t e] [z:IsT P e α] (hF:∀b,F b->b<w.heap.size) (a:Sl w F ao cap xs) (h1:k<xs.length)
  (c:∀p,gd L ((d,.pointer p)::σ) ⟨some d',.load e (.tmp d),ty',pos',af',g'⟩=some true)
  (h:∀u p,Rd w F u xs[k]->HL P L S Q rest n ((d',u)::(d,.pointer p)::σ) wc):
  HL P L S Q ((i,true)::(j,true)::rest) n σ wc:=by
 obtain⟨b,off,rfl,l,v,s,o⟩:=a.el k h1;exact cf (α:=α) ho1 r hd q hi TK TK (Wj (α:=α) f ho2 (c _) hd' sd (hF b l) hF (by simpa using s) o (h _ _ ⟨v,rfl,o⟩))
theorem cb{ao:Option Addr}{cap:Nat}{xs:List α}{k:Nat}{kd:IntKind}(A:∀s,S s->∀b,F b->s.heap[b]?=w.heap[b]?)
  (ho1:C4 L i=some ⟨some d,.indexAddr t x ix,ty,pos,af,g⟩) (ho2:C4 L j=some ⟨some d',.load e (.tmp d),ty',pos',af',g'⟩)
  (D:gd L σ ⟨some d,.indexAddr t x ix,ty,pos,af,g⟩=some true) (hd:ble (d+1) n=true) (hd':ble (d'+1) n=true)
  (C:ev σ x=some (.slice ao xs.length cap)) (hi:ev σ ix=some (.int kd (k:Int))) [I:IsS P t e] [H:IsT P e α] (l:Sl w F ao cap xs) (h1:k<xs.length)
  (o:∀p,gd L ((d,.pointer p)::σ) ⟨some d',.load e (.tmp d),ty',pos',af',g'⟩=some true)
  (h:∀u p,Rd w F u xs[k]->HL P L S Q rest n ((d',u)::(d,.pointer p)::σ) wc):
  HL P L S Q ((i,true)::(j,true)::rest) n σ wc:=by
 obtain⟨b,off,rfl,r,f,E,z⟩:=l.el k h1;refine cf (α:=α) ho1 D hd C hi TK TK (VP ho2 (o _) hd' (v:=Me α f) (λa G w' c=>?_) (h _ _ ⟨f,rfl,z⟩));have q:Cells w' b (off+k*sz α) f:=E.mono (A w' c b r);have m:rd w' F f xs[k]:=Rep.mono z (A w' c) λ_ h=>h;have B:=G.ev (x:=.tmp d) sd;simp only[Oy]at B;simp[execOp,B,Instr.loadAt,Instr.sureAddr,HB q m]
theorem cB{v u:Value}{B:Nat}{xs:List α}{yv:α}{k:Nat}{kd:IntKind}
  (ho1:C4 L i=some ⟨some d,.indexAddr t x ix,ty,pos,af,g⟩) (ho2:C4 L j=some ⟨none,.store e (.tmp d) y,ty',pos',af',g'⟩)
  (D:gd L σ ⟨some d,.indexAddr t x ix,ty,pos,af,g⟩=some true) (hd:ble (d+1) n=true)
  (s:ev σ x=some v) (hi:ev σ ix=some (.int kd (k:Int))) [H:IsS P t e] [G:IsT P e α] (c:Own wc B e F v xs) (h1:k<xs.length)
  (m:∀p,gd L ((d,.pointer p)::σ) ⟨none,.store e (.tmp d) y,ty',pos',af',g'⟩=some true) (r:∀p,ev ((d,.pointer p)::σ) y=some u) (z:Rd wc F u yv)
  (hS:∀w',wc.grownBy w' v.ownBlock->S w')
  (h:∀w' p,Own w' B e F v (xs.set k yv)->wc.grownBy w' v.ownBlock->HL P L S Q rest n ((d,.pointer p)::σ) w'):
  HL P L S Q ((i,true)::(j,false)::rest) n σ wc:=by
 obtain⟨rfl,rfl⟩|⟨b,off,cap,cur,rfl,C⟩:=c
 .simp at h1
 .refine cf (α:=α) ho1 D hd s hi TK TK ?_;obtain⟨w',A,l,f⟩:=HM (P:=P) (v:=u) (i:=k) C h1 z;refine cy ho2 (fV (m _) (λa o=>?_) (p0 (a8 (hS w' f) (h w' _ l f))));have q:=o.ev (x:=.tmp d) sd;have E:=o.ev (r _);simp only[Oy]at q;simp[execOp,q,E,Instr.storeAt,Instr.sureAddr,A]
theorem ca{ao:Option Addr}{len cap:Nat}{c:Int}{kd:IntKind}(k:Nat)(b:c=(k:Int))(p:C4 L i=some ⟨some d,.slice t x none (some y) none,ty,pos,af,g⟩)(r:gd L σ ⟨some d,.slice t x none (some y) none,ty,pos,af,g⟩=some true)(hd:ble (d+1) n=true)
  (o:ev σ x=some (.slice ao len cap)) (m:ev σ y=some (.int kd c)) [u:IsS P t e] [s:IsT P e α] (q:k<=cap)
  (h:HL P L S Q rest n ((d,.slice ao k cap)::σ) wc):HL P L S Q ((i,true)::rest) n σ wc:=by
 subst b;refine VP p r hd (λa f l _=>?_) h;have:=Hr (P:=P) (t:=t) (e:=e) (α:=α) (ao:=ao) (len:=len) (cap:=cap) (lo:=0) (hi:=k) l TK q none (some (.int kd (k:Int))) (.inl ⟨rfl,rfl⟩) (.inr ⟨kd,rfl⟩);simp[execOp,f.ev o,f.ev m,this,Nt]
end
def mixed:Tryz.prog.follows .mixedOrders=true:=by kernel_rfl
instance:IsT Vy 3 Int:=VL TL Sz rfl
instance:IsZ Vy 3 (0:Int) 8:=VV (z:=Ub 0) TL T5
instance:IsC Vy 3 1 false:=VA TL Sz rfl
instance:IsZC Vy 3 [Ub 0]:=v2 (z:=Ub 0) TL rfl
instance:IsT Vy 4 Bool:=VL TL SH rfl
instance:IsZ Vy 4 false 1:=VV (z:=.bool false) TL T5
instance:IsC Vy 4 1 false:=VA TL SH rfl
instance:IsZC Vy 4 [.bool false]:=v2 (z:=.bool false) TL rfl
instance:IsT Vy 131 Nat:=VL TL underlying131 rfl
instance:IsZ Vy 131 (0:Nat) 8:=VV (z:=.int .u64 0) TL (λ_ _=>⟨rfl,by decide⟩)
instance:IsT Vy 9 ByteArray:=VL TL SN rfl
instance:IsC Vy 9 1 false:=VA TL SN rfl
instance:IsB Vy 4:=⟨SH⟩
instance:IsI Vy 3 .i64:=⟨Sz⟩
instance:IsT Vy 39 (List Int):=VL TL SF rfl
instance:IsS Vy 39 3:=⟨SF⟩
instance:IsC Vy 39 1 false:=VA TL SF rfl
instance:IsZC Vy 39 [.slice none 0 0]:=v2 (z:=.slice none 0 0) TL rfl
instance:IsT Vy 50 (List (List Int)):=VL TL SJ rfl
instance:IsS Vy 50 39:=⟨SJ⟩
instance:IsC Vy 50 1 false:=VA TL SJ rfl
instance:IsT Vy 80 (List Bool):=VL TL SM rfl
instance:IsS Vy 80 4:=⟨SM⟩
instance:IsC Vy 80 1 false:=VA TL SM rfl
instance:IsZC Vy 80 [.slice none 0 0]:=v2 (z:=.slice none 0 0) TL rfl
instance:IsS Vy 72 131:=⟨underlying72⟩
instance:IsC Vy 72 1 false:=VA TL underlying72 rfl
instance:IsS Vy 66 9:=⟨SK⟩
instance:IsC Vy 66 1 false:=VA TL SK rfl
instance:IsC Vy 86 2 true:=VA TL underlying86 rfl
instance:IsFd Vy 86 0 0:=qA TL
instance:IsFd Vy 86 1 1:=qA TL
instance:IsZC Vy 86 [.slice none 0 0,.slice none 0 0]:=v2 (z:=.agg #[.slice none 0 0,.slice none 0 0]) TL rfl
instance:IsBd Vy 86 [(0,1),(1,1)]:=VI TL
instance:IsT Vy 27 (Int×Int×Int×Int×Int×Int×Int):=VL TL Sv rfl
instance:IsC Vy 27 7 true:=VA TL Sv rfl
instance:IsFd Vy 27 0 0:=qA TL
instance:IsFd Vy 27 1 1:=qA TL
instance:IsFd Vy 27 2 2:=qA TL
instance:IsFd Vy 27 3 3:=qA TL
instance:IsFd Vy 27 4 4:=qA TL
instance:IsFd Vy 27 5 5:=qA TL
instance:IsFd Vy 27 6 6:=qA TL
instance:IsZC Vy 27 [Ub 0,Ub 0,Ub 0,Ub 0,Ub 0,Ub 0,Ub 0]:=v2 (z:=.agg #[Ub 0,Ub 0,Ub 0,Ub 0,Ub 0,Ub 0,Ub 0]) TL rfl
instance:IsBd Vy 27 [(0,1),(1,1),(2,1),(3,1),(4,1),(5,1),(6,1)]:=VI TL
instance:IsT Vy 29 (Int×Int×Int×Int):=VL TL Sy rfl
instance:IsC Vy 29 4 true:=VA TL Sy rfl
instance:IsFd Vy 29 0 0:=qA TL
instance:IsFd Vy 29 1 1:=qA TL
instance:IsFd Vy 29 2 2:=qA TL
instance:IsFd Vy 29 3 3:=qA TL
instance:IsZC Vy 29 [Ub 0,Ub 0,Ub 0,Ub 0]:=v2 (z:=.agg #[Ub 0,Ub 0,Ub 0,Ub 0]) TL rfl
instance:IsBd Vy 29 [(0,1),(1,1),(2,1),(3,1)]:=VI TL
instance:IsC Vy 74 4 true:=VA TL underlying74 rfl
instance:IsFd Vy 74 0 0:=qA TL
instance:IsFd Vy 74 1 1:=qA TL
instance:IsFd Vy 74 2 2:=qA TL
instance:IsFd Vy 74 3 3:=qA TL
instance:IsZC Vy 74 [.slice none 0 0,.slice none 0 0,.slice none 0 0,.slice none 0 0]:=v2 (z:=.agg #[.slice none 0 0,.slice none 0 0,.slice none 0 0,.slice none 0 0]) TL rfl
instance:IsBd Vy 74 [(0,1),(1,1),(2,1),(3,1)]:=VI TL
instance:IsC Vy 144 5 true:=VA TL underlying144 rfl
instance:IsFd Vy 144 0 0:=qA TL
instance:IsFd Vy 144 1 1:=qA TL
instance:IsFd Vy 144 2 2:=qA TL
instance:IsFd Vy 144 3 3:=qA TL
instance:IsFd Vy 144 4 4:=qA TL
instance:IsZC Vy 144 [.slice none 0 0,.slice none 0 0,.slice none 0 0,.slice none 0 0,.slice none 0 0]:=v2 (z:=.agg #[.slice none 0 0,.slice none 0 0,.slice none 0 0,.slice none 0 0,.slice none 0 0]) TL rfl
instance:IsBd Vy 144 [(0,1),(1,1),(2,1),(3,1),(4,1)]:=VI TL
instance:IsT Vy 123 (ByteArray×Int):=VL TL underlying123 rfl
instance:IsC Vy 123 2 true:=VA TL underlying123 rfl
instance:IsFd Vy 123 0 0:=qA TL
instance:IsFd Vy 123 1 1:=qA TL
instance:IsZC Vy 123 [.string ⟨#[]⟩,Ub 0]:=v2 (z:=.agg #[.string ⟨#[]⟩,Ub 0]) TL rfl
instance:IsBd Vy 123 [(0,1),(1,1)]:=VI TL
instance:IsZ Vy 123 ((⟨#[]⟩,0):(ByteArray×Int)) 24:=VV (z:=.agg #[.string ⟨#[]⟩,Ub 0]) TL (λ_ _=>Gm (c1:=[.string ⟨#[]⟩]) (c2:=[Ub 0]) ⟨rfl,by decide⟩ (Gn _ _ _))
instance:IsT Vy 48 (Int×Int):=VL TL underlying48 rfl
instance:IsC Vy 48 2 true:=VA TL underlying48 rfl
instance:IsFd Vy 48 0 0:=qA TL
instance:IsFd Vy 48 1 1:=qA TL
instance:IsZC Vy 48 [Ub 0,Ub 0]:=v2 (z:=.agg #[Ub 0,Ub 0]) TL rfl
instance:IsBd Vy 48 [(0,1),(1,1)]:=VI TL
instance:IsZ Vy 48 ((0,0):(Int×Int)) 16:=VV (z:=.agg #[Ub 0,Ub 0]) TL (λ_ _=>Gm (Gn _ _ _) (Gn _ _ _))
instance:IsT Vy 25 (List (ByteArray×Int)×List (Int×Int)):=VL TL underlying25 rfl
instance:IsC Vy 25 2 true:=VA TL underlying25 rfl
instance:IsFd Vy 25 0 0:=qA TL
instance:IsFd Vy 25 1 1:=qA TL
instance:IsZC Vy 25 [.slice none 0 0,.slice none 0 0]:=v2 (z:=.agg #[.slice none 0 0,.slice none 0 0]) TL rfl
instance:IsBd Vy 25 [(0,1),(1,1)]:=VI TL
instance:IsT Vy 163 (Int×Int×Int):=VL TL underlying163 rfl
instance:IsC Vy 163 3 true:=VA TL underlying163 rfl
instance:IsFd Vy 163 0 0:=qA TL
instance:IsFd Vy 163 1 1:=qA TL
instance:IsFd Vy 163 2 2:=qA TL
instance:IsZC Vy 163 [Ub 0,Ub 0,Ub 0]:=v2 (z:=.agg #[Ub 0,Ub 0,Ub 0]) TL rfl
instance:IsBd Vy 163 [(0,1),(1,1),(2,1)]:=VI TL
instance:IsZ Vy 163 ((0,0,0):(Int×Int×Int)) 24:=VV (z:=.agg #[Ub 0,Ub 0,Ub 0]) TL (λ_ _=>Gm (Gn _ _ _) (Gm (Gn _ _ _) (Gn _ _ _)))
instance:IsT Vy 149 (Int×Int):=VL TL underlying149 rfl
instance:IsC Vy 149 2 true:=VA TL underlying149 rfl
instance:IsFd Vy 149 0 0:=qA TL
instance:IsFd Vy 149 1 1:=qA TL
instance:IsZC Vy 149 [Ub 0,Ub 0]:=v2 (z:=.agg #[Ub 0,Ub 0]) TL rfl
instance:IsBd Vy 149 [(0,1),(1,1)]:=VI TL
instance:IsZ Vy 149 ((0,0):(Int×Int)) 16:=VV (z:=.agg #[Ub 0,Ub 0]) TL (λ_ _=>Gm (Gn _ _ _) (Gn _ _ _))
instance:IsC Vy 53 2 true:=VA TL underlying53 rfl
instance:IsFd Vy 53 0 0:=qA TL
instance:IsFd Vy 53 1 1:=qA TL
instance:IsZC Vy 53 [.slice none 0 0,.slice none 0 0]:=v2 (z:=.agg #[.slice none 0 0,.slice none 0 0]) TL rfl
instance:IsBd Vy 53 [(0,1),(1,1)]:=VI TL
instance:IsC Vy 41 3 true:=VA TL underlying41 rfl
instance:IsFd Vy 41 0 0:=qA TL
instance:IsFd Vy 41 2 2:=qA TL
instance:IsZC Vy 41 [.bool false,.slice none 0 0,.slice none 0 0]:=v2 (z:=.agg #[.bool false,.slice none 0 0,.slice none 0 0]) TL rfl
instance:IsBd Vy 41 [(0,1),(1,1),(2,1)]:=VI TL
instance:IsC Vy 57 5 true:=VA TL underlying57 rfl
instance:IsZC Vy 57 [.slice none 0 0,Ub 0,Ub 0,.slice none 0 0,.slice none 0 0]:=v2 (z:=.agg #[.slice none 0 0,Ub 0,Ub 0,.slice none 0 0,.slice none 0 0]) TL rfl
instance:IsBd Vy 57 [(0,1),(1,1),(2,1),(3,1),(4,1)]:=VI TL
instance:IsT Vy 96 (Int×Int):=VL TL underlying96 rfl
instance:IsC Vy 96 2 true:=VA TL underlying96 rfl
instance:IsZC Vy 96 [Ub 0,Ub 0]:=v2 (z:=.agg #[Ub 0,Ub 0]) TL rfl
instance:IsBd Vy 96 [(0,1),(1,1)]:=VI TL
instance:IsZ Vy 96 ((0,0):(Int×Int)) 16:=VV (z:=.agg #[Ub 0,Ub 0]) TL (λ_ _=>Gm (Gn _ _ _) (Gn _ _ _))
instance:IsFd Vy 197 0 0:=qA TL
instance:IsFd Vy 197 1 4:=qA TL
instance:IsFd Vy 197 2 5:=qA TL
instance:IsZC Vy 197 [.slice none 0 0,.slice none 0 0,.slice none 0 0,.slice none 0 0,.slice none 0 0,.slice none 0 0]:=v2 (z:=.agg #[.slice none 0 0,.slice none 0 0,.slice none 0 0,.slice none 0 0,.slice none 0 0,.slice none 0 0]) TL rfl
instance:IsBd Vy 197 [(0,4),(4,1),(5,1)]:=VI TL
instance:IsFd Vy 129 0 0:=qA TL
instance:IsFd Vy 129 1 1:=qA TL
instance:IsFd Vy 129 2 3:=qA TL
instance:IsFd Vy 129 3 4:=qA TL
instance:IsFd Vy 129 4 5:=qA TL
instance:IsFd Vy 129 5 6:=qA TL
instance:IsZC Vy 129 [.slice none 0 0,.slice none 0 0,.slice none 0 0,.slice none 0 0,.slice none 0 0,.slice none 0 0,.slice none 0 0,.slice none 0 0,.slice none 0 0,.slice none 0 0]:=v2 (z:=.agg #[.slice none 0 0,.slice none 0 0,.slice none 0 0,.slice none 0 0,.slice none 0 0,.slice none 0 0,.slice none 0 0,.slice none 0 0,.slice none 0 0,.slice none 0 0]) TL rfl
instance:IsBd Vy 129 [(0,1),(1,2),(3,1),(4,1),(5,1),(6,4)]:=VI TL
instance:IsT Vy 226 (Int×Int):=VL TL Sp rfl
instance:IsC Vy 226 2 true:=VA TL Sp rfl
instance:IsFd Vy 226 0 0:=qA TL
instance:IsFd Vy 226 1 1:=qA TL
instance:IsZC Vy 226 [Ub 0,Ub 0]:=v2 (z:=.agg #[Ub 0,Ub 0]) TL rfl
instance:IsBd Vy 226 [(0,1),(1,1)]:=VI TL
instance:IsZ Vy 226 ((0,0):(Int×Int)) 16:=VV (z:=.agg #[Ub 0,Ub 0]) TL (λ_ _=>Gm (Gn _ _ _) (Gn _ _ _))
instance:IsFd Vy 223 0 0:=qA TL
instance:IsFd Vy 223 1 4:=qA TL
instance:IsFd Vy 223 2 9:=qA TL
instance:IsFd Vy 223 3 10:=qA TL
instance:IsFd Vy 223 4 11:=qA TL
instance:IsFd Vy 223 5 12:=qA TL
instance:IsZC Vy 223 [.slice none 0 0,.slice none 0 0,.slice none 0 0,.slice none 0 0,.slice none 0 0,.slice none 0 0,.slice none 0 0,.slice none 0 0,.slice none 0 0,.map none,.slice none 0 0,.slice none 0 0,.slice none 0 0]:=v2 (z:=.agg #[.slice none 0 0,.slice none 0 0,.slice none 0 0,.slice none 0 0,.slice none 0 0,.slice none 0 0,.slice none 0 0,.slice none 0 0,.slice none 0 0,.map none,.slice none 0 0,.slice none 0 0,.slice none 0 0]) TL rfl
instance:IsBd Vy 223 [(0,4),(4,5),(9,1),(10,1),(11,1),(12,1)]:=VI TL
instance:IsFd Vy 279 0 0:=qA TL
instance:IsFd Vy 279 1 1:=qA TL
instance:IsFd Vy 279 2 2:=qA TL
instance:IsFd Vy 279 3 3:=qA TL
instance:IsFd Vy 279 4 4:=qA TL
instance:IsFd Vy 279 5 5:=qA TL
instance:IsFd Vy 279 6 6:=qA TL
instance:IsZC Vy 279 [.slice none 0 0,.slice none 0 0,.slice none 0 0,.slice none 0 0,.slice none 0 0,Ub 0,Ub 0]:=v2 (z:=.agg #[.slice none 0 0,.slice none 0 0,.slice none 0 0,.slice none 0 0,.slice none 0 0,Ub 0,Ub 0]) TL rfl
instance:IsBd Vy 279 [(0,1),(1,1),(2,1),(3,1),(4,1),(5,1),(6,1)]:=VI TL
instance:IsT Vy 22 (List (ByteArray×Int)):=VL TL So rfl
instance:IsS Vy 22 123:=⟨So⟩
instance:IsC Vy 22 1 false:=VA TL So rfl
instance:IsT Vy 23 (List (Int×Int)):=VL TL Sq rfl
instance:IsS Vy 23 48:=⟨Sq⟩
instance:IsC Vy 23 1 false:=VA TL Sq rfl
instance:IsS Vy 108 163:=⟨underlying108⟩
instance:IsC Vy 108 1 false:=VA TL underlying108 rfl
instance:IsT Vy 75 (List (Int×Int)):=VL TL SL rfl
instance:IsS Vy 75 149:=⟨SL⟩
instance:IsC Vy 75 1 false:=VA TL SL rfl
instance:IsS Vy 51 75:=⟨underlying51⟩
instance:IsC Vy 51 1 false:=VA TL underlying51 rfl
instance:IsS Vy 221 226:=⟨underlying221⟩
instance:IsC Vy 221 1 false:=VA TL underlying221 rfl
instance:IsS Vy 94 96:=⟨underlying94⟩
instance:IsC Vy 94 1 false:=VA TL underlying94 rfl
instance:IsS Vy 200 80:=⟨underlying200⟩
instance:IsC Vy 200 1 false:=VA TL underlying200 rfl
instance:IsZC Vy 200 [.slice none 0 0]:=v2 (z:=.slice none 0 0) TL rfl
instance:IsC Vy 135 1 false:=VA TL underlying135 rfl
instance:IsC Vy 219 1 false:=VA TL underlying219 rfl
instance:IsC Vy 90 1 false:=VA TL underlying90 rfl
instance:IsF Vy 229:=Vz func229
instance:IsF Vy 228:=Vz func228
instance:IsF Vy 157:=Vz func157
instance:IsF Vy 200:=Vz func200
instance:IsF Vy 122:=Vz func122
instance:IsF Vy 125:=Vz func125
instance:IsF Vy 205:=Vz func205
instance:IsF Vy 128:=Vz func128
instance:IsF Vy 207:=Vz func207
instance:IsF Vy 208:=Vz func208
instance:IsF Vy 209:=Vz func209
instance:IsF Vy 124:=Vz func124
instance:IsF Vy 202:=Vz func202
instance:IsF Vy 203:=Vz func203
instance:IsF Vy 204:=Vz func204
instance:IsF Vy 129:=Vz func129
instance:IsF Vy 126:=Vz func126
instance:IsF Vy 105:=Vz func105
instance:IsF Vy 100:=Vz func100
instance:IsF Vy 162:=Vz func162
instance:IsF Vy 96:=Vz func96
instance:IsF Vy 104:=Vz func104
instance:IsF Vy 103:=Vz func103
instance:IsF Vy 102:=Vz func102
instance:IsF Vy 163:=Vz func163
instance:IsF Vy 55:=Vz func55
instance:IsF Vy 97:=Vz func97
instance:IsF Vy 98:=Vz func98
instance:IsF Vy 101:=Vz func101
instance:IsF Vy 99:=Vz func99
instance:IsF Vy 161:=Vz func161
instance:IsF Vy 227:=Vz func227
instance:IsF Vy 156:=Vz func156
instance:IsF Vy 49:=Vz func49
instance:IsF Vy 50:=Vz func50
instance:IsF Vy 48:=Vz func48
instance:IsF Vy 47:=Vz func47
instance:IsF Vy 46:=Vz func46
instance:IsF Vy 260:=Vz func260
instance:IsF Vy 261:=Vz func261
instance:IsF Vy 201:=Vz func201
instance:IsF Vy 65:=Vz func65
instance:IsF Vy 64:=Vz func64
instance:IsF Vy 130:=Vz func130
instance:IsF Vy 119:=Vz func119
instance:IsF Vy 196:=Vz func196
instance:IsF Vy 120:=Vz func120
instance:IsF Vy 113:=Vz func113
instance:IsF Vy 116:=⟨_,Sd,rfl,by decide⟩
instance:IsF Vy 115:=Vz func115
instance:IsF Vy 118:=Vz func118
instance:IsF Vy 193:=Vz func193
instance:IsF Vy 245:=Vz func245
instance:IsF Vy 117:=Vz func117
instance:IsF Vy 110:=Vz func110
instance:IsF Vy 66:=Vz func66
instance:IsF Vy 213:=Vz func213
instance:IsF Vy 141:=Vz func141
instance:IsF Vy 192:=Vz func192
instance:IsF Vy 12:=Vz func12
instance:IsF Vy 189:=Vz func189
instance:IsF Vy 134:=Vz func134
instance:IsF Vy 152:=Vz func152
instance:IsF Vy 72:=Vz func72
instance:IsF Vy 243:=Vz func243
instance:IsF Vy 158:=Vz func158
instance:IsF Vy 206:=Vz func206
instance:IsF Vy 114:=Vz func114
instance:IsF Vy 83:=Vz func83
instance:IsF Vy 15:=Vz func15
instance:IsF Vy 121:=Vz func121
instance:IsF Vy 198:=Vz func198
instance:IsF Vy 199:=Vz func199
instance:IsF Vy 259:=Vz func259
instance:IsF Vy 197:=Vz func197
instance:IsF Vy 258:=Vz func258
instance:IsF Vy 94:=Vz func94
instance:IsF Vy 91:=Vz func91
instance:IsF Vy 272:=Vz func272
instance:IsF Vy 159:=Vz func159
instance:IsF Vy 231:=Vz func231
instance:IsF Vy 230:=Vz func230
instance:IsF Vy 88:=Vz func88
instance:IsF Vy 57:=Vz func57
instance:IsF Vy 177:=Vz func177
instance:IsF Vy 184:=Vz func184
instance:IsF Vy 185:=Vz func185
instance:IsF Vy 155:=Vz func155
instance:IsF Vy 174:=Vz func174
instance:IsF Vy 107:=Vz func107
instance:IsF Vy 173:=Vz func173
instance:IsF Vy 175:=Vz func175
instance:IsF Vy 176:=Vz func176
instance:IsF Vy 181:=Vz func181
instance:IsF Vy 183:=Vz func183
instance:IsF Vy 179:=Vz func179
instance:IsF Vy 186:=Vz func186
instance:IsF Vy 178:=Vz func178
instance:IsF Vy 180:=Vz func180
instance:IsF Vy 182:=Vz func182
instance:IsF Vy 86:=Vz func86
instance:IsF Vy 56:=Vz func56
instance:IsF Vy 169:=Vz func169
instance:IsF Vy 171:=Vz func171
instance:IsF Vy 106:=Vz func106
instance:IsF Vy 172:=Vz func172
instance:IsF Vy 164:=Vz func164
instance:IsF Vy 165:=Vz func165
instance:IsF Vy 167:=Vz func167
instance:IsF Vy 166:=Vz func166
instance:IsF Vy 154:=Vz func154
instance:IsF Vy 233:=Vz func233
instance:IsF Vy 170:=Vz func170
instance:IsF Vy 168:=Vz func168
instance:IsF Vy 234:=Vz func234
instance:IsF Vy 235:=Vz func235
instance:IsF Vy 237:=Vz func237
instance:IsF Vy 238:=Vz func238
instance:IsF Vy 239:=Vz func239
instance:IsF Vy 240:=Vz func240
instance:IsF Vy 236:=Vz func236
instance:IsF Vy 62:=Vz func62
instance:IsF Vy 127:=Vz func127
instance:IsF Vy 63:=Vz func63
instance:IsF Vy 132:=Vz func132
instance:IsF Vy 133:=Vz func133
instance:IsF Vy 210:=Vz func210
instance:IsF Vy 262:=Vz func262
instance:IsF Vy 280:=Vz func280
instance:IsF Vy 211:=Vz func211
instance:IsF Vy 264:=Vz func264
instance:IsF Vy 212:=Vz func212
instance:IsF Vy 263:=Vz func263
instance:IsF Vy 26:=Vz func26
instance:IsF Vy 7:=Vz func7
instance:IsF Vy 27:=Vz func27
instance:IsF Vy 23:=Vz func23
instance:IsF Vy 24:=Vz func24
instance:IsF Vy 54:=Vz func54
instance:IsF Vy 53:=Vz func53
instance:IsF Vy 58:=Vz func58
instance:IsF Vy 90:=Vz func90
instance:IsF Vy 271:=Vz func271
instance:IsF Vy 108:=Vz func108
instance:IsF Vy 187:=Vz func187
instance:IsF Vy 226:=Vz func226
instance:IsF Vy 75:=Vz func75
instance:IsF Vy 142:=Vz func142
instance:IsF Vy 51:=Vz func51
instance:IsF Vy 143:=Vz func143
instance:IsF Vy 45:=Vz func45
instance:IsF Vy 138:=Vz func138
instance:IsF Vy 139:=Vz func139
instance:IsF Vy 215:=Vz func215
instance:IsF Vy 137:=Vz func137
instance:IsF Vy 214:=Vz func214
instance:IsF Vy 140:=Vz func140
instance:IsF Vy 112:=Vz func112
instance:IsF Vy 246:=Vz func246
instance:IsF Vy 242:=Vz func242
instance:IsF Vy 191:=Vz func191
instance:IsF Vy 190:=Vz func190
instance:IsF Vy 241:=Vz func241
instance:IsF Vy 22:=Vz func22
instance:IsF Vy 25:=Vz func25
instance:IsF Vy 89:=Vz func89
instance:IsF Vy 87:=Vz func87
instance:IsF Vy 59:=Vz func59
instance:IsF Vy 93:=Vz func93
instance:IsF Vy 52:=Vz func52
instance:IsF Vy 92:=Vz func92
instance:IsF Vy 21:=Vz func21
instance:IsF Vy 68:=Vz func68
instance:IsF Vy 32:=Vz func32
instance:IsF Vy 123:=Vz func123
instance:IsF Vy 30:=Vz func30
instance:IsF Vy 73:=Vz func73
instance:IsF Vy 136:=Vz func136
instance:IsF Vy 70:=Vz func70
instance:IsF Vy 135:=Vz func135
instance:IsF Vy 71:=Vz func71
instance:IsF Vy 69:=Vz func69
instance:IsF Vy 10:=Vz func10
instance:IsF Vy 131:=Vz func131
instance:IsF Vy 28:=Vz func28
instance:IsF Vy 35:=Vz func35
instance:IsF Vy 76:=Vz func76
instance:IsF Vy 61:=Vz func61
instance:IsF Vy 60:=Vz func60
instance:IsF Vy 111:=Vz func111
instance:IsF Vy 95:=Vz func95
instance:IsF Vy 160:=Vz func160
instance:IsF Vy 232:=Vz func232
instance:IsF Vy 273:=Vz func273
instance:IsF Vy 109:=Vz func109
instance:IsF Vy 188:=Vz func188
inductive Ltl where
 |mk (k n:Int) (kids:List Ltl):Ltl
def Ltl.k:Ltl->Int|.mk k _ _=>k
def Ltl.n:Ltl->Int|.mk _ n _=>n
def Ltl.kids:Ltl->List Ltl|.mk _ _ l=>l
mutual
def Ltl.nodes:Ltl->Nat
 |.mk _ _ kids=>1+Ltl.nodesL kids
def Ltl.nodesL:List Ltl->Nat
 |[]=>0
 |x::r=>x.nodes+Ltl.nodesL r
end
def Ltl.nodes_pos(t:Ltl):0<t.nodes:=by cases t;simp[Ltl.nodes];omega
def Ltl.nodes_kid:∀(l:List Ltl) (x:Ltl),x∈l->x.nodes<=Ltl.nodesL l
 |[],x,h=>by cases h
 |y::r,x,h=>by
  simp only[Ltl.nodesL];obtain rfl|h:=Qo.1 h
  .omega
  .have:=Ltl.nodes_kid r x h;omega
def VU:=@Ltl.nodes_kid
inductive RdT(w:World)(F:Nat->Prop):List Value->Ltl->Prop
 |mk (k n:Int) (kids:List Ltl) (ao:Option Addr) (cap:Nat) (es:Nat->List Value):kids.length<=cap->cap<=maxLen->(ao=none->cap=0)->
   (∀i,i<kids.length->∃b off,ao=some ⟨b,off,none⟩/\F b/\Cells w b (off+i*3) (es i))->(∀i (h:i<kids.length),RdT w F (es i) kids[i])->
   RdT w F [.int .i64 k,.int .i64 n,.slice ao kids.length cap] (.mk k n kids)
instance:Rep Ltl where
 sz:=3
 pos:=by decide
 agg:=true
 rd:=RdT
 len:=by intro w F cs x h;cases h;rfl
 one:=by intro w F cs x h v a;cases h;simp at a;rcases a with rfl|rfl|rfl<;>rfl
 szAgg:=λh=>by cases h
 mono:=by
  intro w w' F F' cs x h f hF;induction h with
  |mk k n kids ao cap g h1 h2 h3 h4 j c=>
   refine .mk k n kids ao cap g h1 h2 h3 (λi hi=>?_) (λi hi=>c i hi);obtain⟨b,off,e,hf,d⟩:=h4 i hi;exact⟨b,off,e,hF b hf,d.mono (f b hf)⟩
def RdT.sl{cs:List Value}{t:Ltl}(h:rd w F cs t):∃ao cap,cs=[Ub t.k,Ub t.n,.slice ao t.kids.length cap]/\Sl w F ao cap t.kids:=by
 cases h with
 |mk k n kids ao cap d h1 h2 h3 h4 c=>
  refine⟨ao,cap,rfl,h1,h2,h3,λi hi=>?_⟩;obtain⟨b,off,e,hf,a⟩:=h4 i hi;exact⟨b,off,e,hf,d i,a,c i hi⟩
def RdT.of{k n:Int}{kids:List Ltl}{ao:Option Addr}{cap:Nat}(h:Sl w F ao cap kids):rd w F [Ub k,Ub n,.slice ao kids.length cap] (Ltl.mk k n kids):=by
 have h4:∀i,∃c:List Value,∀hi:i<kids.length,∃b off,ao=some ⟨b,off,none⟩/\F b/\Cells w b (off+i*3) c/\rd w F c kids[i]:=by
  intro i;by_cases hi:i<kids.length
  .obtain⟨b,off,e,hf,c,a,d⟩:=h.el i hi;exact⟨c,λ_=>⟨b,off,e,hf,a,d⟩⟩
  .exact⟨[],λh=>absurd h hi⟩
 refine .mk k n kids ao cap (λi=>Classical.choose (h4 i)) h.le h.mx h.nil (λi hi=>?_) (λi hi=>?_)
 .obtain⟨b,off,e,hf,a,_⟩:=Oc (h4 i) hi;exact⟨b,off,e,hf,a⟩
 .obtain⟨b,off,e,hf,a,d⟩:=Oc (h4 i) hi;exact d
abbrev Bi(k n:Int)(ao:Option Addr)(len cap:Nat):Value:=.agg [.int .i64 k,.int .i64 n,.slice ao len cap].toArray
def Rd.ltl{t:Ltl}(h:Rd w F v t):∃ao cap,v=Bi t.k t.n ao t.kids.length cap/\Sl w F ao cap t.kids:=by obtain⟨cs,e,b⟩:=h;obtain⟨ao,cap,rfl,a⟩:=RdT.sl b;exact⟨ao,cap,e,a⟩
def r0:=@Rd.ltl
def Rd.mkLtl{k n:Int}{kids:List Ltl}{ao:Option Addr}{cap:Nat}(h:Sl w F ao cap kids):Rd w F (Bi k n ao kids.length cap) (Ltl.mk k n kids):=⟨_,rfl,RdT.of h⟩
def VJ:=@Rd.mkLtl
instance:IsT Vy 32 Ltl:=VL TL underlying32 rfl
instance:IsS Vy 30 32:=⟨SA⟩
instance:IsT Vy 30 (List Ltl):=VL TL SA rfl
instance:IsZ Vy 32 (Ltl.mk 0 0 []) 40:=VV (z:=.agg #[Ub 0,Ub 0,.slice none 0 0]) TL (λ_ _=>RdT.of (kids:=[]) ⟨by simp,by simp[maxLen],λ_=>rfl,λi hi=>absurd hi TO⟩)
instance:IsC Vy 32 3 true:=VA TL underlying32 rfl
instance:IsC Vy 30 1 false:=VA TL SA rfl
instance:IsFd Vy 32 0 0:=qA TL
instance:IsFd Vy 32 1 1:=qA TL
instance:IsFd Vy 32 2 2:=qA TL
instance:IsZC Vy 32 [Ub 0,Ub 0,.slice none 0 0]:=v2 (z:=.agg #[Ub 0,Ub 0,.slice none 0 0]) TL rfl
instance:IsBd Vy 32 [(0,1),(1,1),(2,1)]:=VI TL
def Af(k:Int):Int:=if k=1\/k=2\/k=3 then 0 else if k=4\/k=7\/k=10\/k=11 then 1 else if k=5\/k=6\/k=8\/k=9 then 2 else -1
def Ai(w:World)(k:Int):Rt Vy 187 [Ub k].toArray w λv w'=>v=Ub (Af k)/\w=w':=by
 refine dR func187 ntmps187 rfl rfl ?_;unfold Af;refine Ux ?_;refine ld rfl (λh=>?_) (λh=>?_)<;>simp at h
 .subst h;refine U0 ?_;exact be ⟨rfl,rfl⟩
 refine UR ?_;refine ld rfl (λh=>?_) (λh=>?_)<;>simp at h
 .subst h;refine U0 ?_;exact be ⟨rfl,rfl⟩
 refine UR ?_;refine ld rfl (λh=>?_) (λh=>?_)<;>simp at h
 .subst h;refine Ud ?_;exact be ⟨rfl,rfl⟩
 rw[Tm TK];refine UR ?_;refine ld rfl (λh=>?_) (λh=>?_)<;>simp at h
 .subst h;refine U0 ?_;exact be ⟨rfl,rfl⟩
 refine UR ?_;refine ld rfl (λh=>?_) (λh=>?_)<;>simp at h
 .subst h;refine U0 ?_;exact be ⟨rfl,rfl⟩
 refine UR ?_;refine ld rfl (λh=>?_) (λh=>?_)<;>simp at h
 .subst h;refine U0 ?_;exact be ⟨rfl,rfl⟩
 refine UR ?_;refine ld rfl (λh=>?_) (λh=>?_)<;>simp at h
 .subst h;refine Ud ?_;exact be ⟨rfl,rfl⟩
 rw[Tm TK];refine UR ?_;refine ld rfl (λh=>?_) (λh=>?_)<;>simp at h
 .subst h;refine U0 ?_;exact be ⟨rfl,rfl⟩
 refine UR ?_;refine ld rfl (λh=>?_) (λh=>?_)<;>simp at h
 .subst h;refine U0 ?_;exact be ⟨rfl,rfl⟩
 refine UR ?_;refine ld rfl (λh=>?_) (λh=>?_)<;>simp at h
 .subst h;refine U0 ?_;exact be ⟨rfl,rfl⟩
 refine UR ?_;refine ld rfl (λh=>?_) (λh=>?_)<;>simp at h
 .subst h;refine Ud ?_;exact be ⟨rfl,rfl⟩
 rw[Tm TK];refine Uw ?_;exact be ⟨rfl,rfl⟩
end Go.Proofs.YtfpjecjadlgdcaaGreatDoor
