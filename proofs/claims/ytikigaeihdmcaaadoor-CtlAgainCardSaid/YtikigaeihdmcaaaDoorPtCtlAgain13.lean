import Derived.WalkKit
import Derived.LaidEql
import Derived.Stop.Asserts
import Derived.RowKitTokens
import Derived.Test.YtikigaeihdmcaaaDoorPtCtlAgain12
/-
  errors.As, walked at a fault and at none. Began as the worked proof ToyasAs.
-/
set_option linter.unusedVariables false
set_option linter.unusedSimpArgs false
namespace Go.Proofs.YtikigaeihdmcaaaDoor
open Go.RowKit Go.Extern.Stop Go.Stop Go.Extern
theorem as_nil (t : Value) (w : World) :
    Calls Tryd.prog 31 #[.nilIface, t] w fun e w' => e = .returned (.bool false) ∧ w' = w := by
  go_enter Tryd.func31, Tryd.ntmps31
  go_wp2
  go_ret
  exact ⟨rfl, rfl⟩

theorem fa_valueOf27 (t : Addr) (w : World) : (ReflectliteValue.unpack (.iface 75 (.pointer (some t)))).run Tryd.prog w
    = .ok (.agg #[.pointer (some ⟨7, 75, none⟩), .pointer (some ⟨w.heap.size, 0, none⟩), .int .u64 150]) (w.alloc (.cells #[.pointer (some t)] 75)) := by kernel_rfl
theorem fa_type27 (a : Addr) (w : World) : (ReflectliteValue.methodAny (ReflectliteValue.valueError "reflectlite.Value.Type" 0) (fun t _ _ _ => ReflectliteType.toType t) #[.agg #[.pointer (some ⟨7, 75, none⟩), .pointer (some a), .int .u64 150]]).run Tryd.prog w
    = .ok (.iface 159 (.agg #[.pointer (some ⟨7, 75, none⟩)])) w := by kernel_rfl
theorem fa_methodKind (h : Value) (w : World) : (Go.method 332 159 (.agg #[h]) "Kind").run Tryd.prog w = .ok (144, h) w := by kernel_rfl
theorem fa_kind27 (w : World) : ((ReflectliteType.abiMethod fun t => (fun a : Nat => Value.int IntKind.u8 (a : Int)) <$> Rtype.kind t) #[.pointer (some ⟨7, 75, none⟩)]).run Tryd.prog w = .ok (.int .u8 22) w := by kernel_rfl
theorem fa_kind25 (w : World) : ((ReflectliteType.abiMethod fun t => (fun a : Nat => Value.int IntKind.u8 (a : Int)) <$> Rtype.kind t) #[.pointer (some ⟨7, 73, none⟩)]).run Tryd.prog w = .ok (.int .u8 22) w := by kernel_rfl

theorem rlm (z : Sem Value) (f : TypeId → Addr → Nat → Nat → Sem Value) (v : Value) :
    ReflectliteValue.method z f #[v] = (do match ← ReflectliteValue.parts v with | none => z | some (t, a, fl) => f t a fl (fl % 32)) := rfl
theorem fa_parts27 (a : Addr) (w : World) : (ReflectliteValue.parts (.agg #[.pointer (some ⟨7, 75, none⟩), .pointer (some a), .int .u64 150])).run Tryd.prog w = .ok (some (75, a, 150)) w := by kernel_rfl
theorem fa_isNil27 (a p : Addr) (W : World) (ha : W.cell? a = some (.pointer (some p))) :
    (ReflectliteValue.method (ReflectliteValue.valueError "reflectlite.Value.IsNil" 0) ReflectliteValue.isNil #[.agg #[.pointer (some ⟨7, 75, none⟩), .pointer (some a), .int .u64 150]]).run Tryd.prog W = .ok (.bool false) W := by
  rw [rlm]
  simp only [Sem.run_bind, fa_parts27, Result.andThen]
  simp [ReflectliteValue.isNil, loadVar, isAgg, underlying, Tryd.underlying75, ha, Result.andThen]

theorem fa_methodElem (h : Value) (w : World) : (Go.method 332 159 (.agg #[h]) "Elem").run Tryd.prog w = .ok (156, .agg #[h]) w := by kernel_rfl
theorem fa_methodImplements (h : Value) (w : World) : (Go.method 332 159 (.agg #[h]) "Implements").run Tryd.prog w = .ok (157, .agg #[h]) w := by kernel_rfl
theorem fa_methodAssignableTo (h : Value) (w : World) : (Go.method 332 159 (.agg #[h]) "AssignableTo").run Tryd.prog w = .ok (154, .agg #[h]) w := by kernel_rfl
theorem fa_elem27 (w : World) : (ReflectliteType.method ReflectliteType.elem #[.agg #[.pointer (some ⟨7, 75, none⟩)]]).run Tryd.prog w = .ok (.iface 159 (.agg #[.pointer (some ⟨7, 73, none⟩)])) w := by kernel_rfl
theorem fa_implements25 (w : World) : (ReflectliteType.relation "Implements" ReflectliteType.implements_ #[.agg #[.pointer (some ⟨7, 73, none⟩)], .iface 159 (.agg #[.pointer (some ⟨7, 69, none⟩)])]).run Tryd.prog w = .ok (.bool true) w := by kernel_rfl
theorem fa_typeOf25 (v : Value) (w : World) : (ReflectliteType.typeOf #[.iface 73 v]).run Tryd.prog w = .ok (.iface 159 (.agg #[.pointer (some ⟨7, 73, none⟩)])) w := by kernel_rfl
theorem fa_assignable25 (w : World) : (ReflectliteType.relation "AssignableTo" ReflectliteType.assignableTo #[.agg #[.pointer (some ⟨7, 73, none⟩)], .iface 159 (.agg #[.pointer (some ⟨7, 73, none⟩)])]).run Tryd.prog w = .ok (.bool true) w := by kernel_rfl
theorem fa_valueOf25 (e : Addr) (w : World) : (ReflectliteValue.unpack (.iface 73 (.pointer (some e)))).run Tryd.prog w
    = .ok (.agg #[.pointer (some ⟨7, 73, none⟩), .pointer (some ⟨w.heap.size, 0, none⟩), .int .u64 150]) (w.alloc (.cells #[.pointer (some e)] 73)) := by kernel_rfl

theorem fa_elemOf27 (w : World) : (Rtype.elem? 75).run Tryd.prog w = .ok (some 73) w := by kernel_rfl
theorem fa_mk25 (p : Addr) (w : World) : (ReflectliteValue.mk 73 p ReflectliteValue.flagAddr).run Tryd.prog w = .ok (.agg #[.pointer (some ⟨7, 73, none⟩), .pointer (some p), .int .u64 406]) w := by kernel_rfl
theorem fa_elemV27 (a p : Addr) (W : World) (ha : W.cell? a = some (.pointer (some p))) :
    (ReflectliteValue.method (ReflectliteValue.valueError "reflectlite.Value.Elem" 0) ReflectliteValue.elem #[.agg #[.pointer (some ⟨7, 75, none⟩), .pointer (some a), .int .u64 150]]).run Tryd.prog W
      = .ok (.agg #[.pointer (some ⟨7, 73, none⟩), .pointer (some p), .int .u64 406]) W := by
  rw [rlm]
  simp only [Sem.run_bind, fa_parts27, Result.andThen]
  simp [ReflectliteValue.elem, loadVar, isAgg, underlying, Tryd.underlying75, ha, Result.andThen, fa_elemOf27, fa_mk25]
theorem rls (v x : Value) : ReflectliteValue.set #[v, x] = (do
    let (some (dst, a, fl), some (src, b, _)) := (← ReflectliteValue.parts v, ← ReflectliteValue.parts x)
      | unsupported (.noEntry "extern/(internal/reflectlite.Value).Set.zeroValue")
    if fl / ReflectliteValue.flagAddr % 2 == 0 then unsupported (.noEntry "extern/(internal/reflectlite.Value).Set.unaddressable")
    let val ← loadVar src b
    if ← Rtype.directlyAssignable dst src then storeVar dst a val
    else if ← Rtype.implements dst src then
      if (← Rtype.kind src) == 20 then
        match val with
        | .nilIface => unsupported (.noEntry "extern/reflectlite: a nil value of one interface type handed on as a value of another")
        | _ => storeVar dst a val
      else storeVar dst a (.iface src val)
    else panicString ("reflectlite.Set: value of type " ++ (← Rtype.spelt src) ++ " is not assignable to type " ++ (← Rtype.spelt dst))
    pure (.tuple #[])) := rfl
theorem fa_parts25a (a : Addr) (w : World) : (ReflectliteValue.parts (.agg #[.pointer (some ⟨7, 73, none⟩), .pointer (some a), .int .u64 406])).run Tryd.prog w = .ok (some (73, a, 406)) w := by kernel_rfl
theorem fa_parts25 (a : Addr) (w : World) : (ReflectliteValue.parts (.agg #[.pointer (some ⟨7, 73, none⟩), .pointer (some a), .int .u64 150])).run Tryd.prog w = .ok (some (73, a, 150)) w := by kernel_rfl
theorem fa_direct25 (w : World) : (Rtype.directlyAssignable 73 73).run Tryd.prog w = .ok true w := by kernel_rfl
theorem fa_set25 (ta b e : Addr) (old : Value) (W : World) (hb : W.cell? b = some (.pointer (some e))) (ht : W.cell? ta = some old) (hf : W.frozen? ta = false) :
    (ReflectliteValue.set #[.agg #[.pointer (some ⟨7, 73, none⟩), .pointer (some ta), .int .u64 406], .agg #[.pointer (some ⟨7, 73, none⟩), .pointer (some b), .int .u64 150]]).run Tryd.prog W
      = .ok (.tuple #[]) (W.setCell ta (.pointer (some e))) := by
  rw [rls]
  simp only [Sem.run_bind, fa_parts25a, fa_parts25, Result.andThen]
  simp [ReflectliteValue.flagAddr, loadVar, isAgg, underlying, Tryd.underlying73, hb, Result.andThen, fa_direct25, storeVar, Value.cells, storeCells, Addr.add]
  rw [run_store Tryd.prog W ta _ _ (by rfl)]
  simp [ht, hf]

set_option maxHeartbeats 4000000 in
theorem as_hit (e t : Addr) (old : Value) (w : World) (hg : w.cell? ⟨1, 0, none⟩ = some (.iface 159 (.agg #[.pointer (some ⟨7, 69, none⟩)]))) (ht0 : w.cell? t = some old) (hf0 : w.frozen? t = false) :
    Calls Tryd.prog 31 #[.iface 73 (.pointer (some e)), .iface 75 (.pointer (some t))] w fun ev w' => ev = .returned (.bool true) ∧ w' = ((((w.alloc (.cells #[.pointer (some t)] 75)).alloc (.cells #[.pointer (some ⟨7, 75, none⟩), .pointer (some ⟨w.heap.size, 0, none⟩), .int .u64 150] 129)).alloc (.cells #[.pointer (some ⟨7, 75, none⟩), .pointer (some ⟨w.heap.size, 0, none⟩), .int .u64 150] 129)).alloc (.cells #[.pointer (some e)] 73)).setCell t (.pointer (some e)) := by
  have h6 := @run_callFunc_extern Tryd.prog 61 _ (fun args => ReflectliteValue.unpack (args.getD 0 (.tuple #[]))) Tryd.func61 (by kernel_rfl) (by kernel_rfl) (by kernel_rfl) (by kernel_rfl)
  have h7 := @run_callFunc_extern Tryd.prog 62 _ (ReflectliteValue.methodAny (ReflectliteValue.valueError "reflectlite.Value.Type" 0) (fun t _ _ _ => ReflectliteType.toType t)) Tryd.func62 (by kernel_rfl) (by kernel_rfl) (by kernel_rfl) (by kernel_rfl)
  have h8 := @run_callFunc_extern Tryd.prog 63 _ (ReflectliteValue.method (ReflectliteValue.valueError "reflectlite.Value.IsNil" 0) ReflectliteValue.isNil) Tryd.func63 (by kernel_rfl) (by kernel_rfl) (by kernel_rfl) (by kernel_rfl)
  have h27 := @run_callFunc_extern Tryd.prog 144 _ (ReflectliteType.abiMethod fun t => do pure (.int .u8 (← Rtype.kind t))) Tryd.func144 (by kernel_rfl) (by kernel_rfl) (by kernel_rfl) (by kernel_rfl)
  have h37 := @run_callFunc_extern Tryd.prog 156 _ (ReflectliteType.method ReflectliteType.elem) Tryd.func156 (by kernel_rfl) (by kernel_rfl) (by kernel_rfl) (by kernel_rfl)
  have h38 := @run_callFunc_extern Tryd.prog 157 _ (ReflectliteType.relation "Implements" ReflectliteType.implements_) Tryd.func157 (by kernel_rfl) (by kernel_rfl) (by kernel_rfl) (by kernel_rfl)
  have h10 := @run_callFunc_extern Tryd.prog 91 _ ReflectliteType.typeOf Tryd.func91 (by kernel_rfl) (by kernel_rfl) (by kernel_rfl) (by kernel_rfl)
  have h35 := @run_callFunc_extern Tryd.prog 154 _ (ReflectliteType.relation "AssignableTo" ReflectliteType.assignableTo) Tryd.func154 (by kernel_rfl) (by kernel_rfl) (by kernel_rfl) (by kernel_rfl)
  have h11 := @run_callFunc_extern Tryd.prog 92 _ (ReflectliteValue.method (ReflectliteValue.valueError "reflectlite.Value.Elem" 0) ReflectliteValue.elem) Tryd.func92 (by kernel_rfl) (by kernel_rfl) (by kernel_rfl) (by kernel_rfl)
  have h12 := @run_callFunc_extern Tryd.prog 93 _ ReflectliteValue.set Tryd.func93 (by kernel_rfl) (by kernel_rfl) (by kernel_rfl) (by kernel_rfl)
  have tO := fa_typeOf25
  have mA := fa_methodAssignableTo
  have a25 := fa_assignable25
  have v25 := fa_valueOf25
  have f6 := fa_valueOf27
  have f7 := fa_type27
  have mK := fa_methodKind
  have mE := fa_methodElem
  have mI := fa_methodImplements
  have k27 := fa_kind27
  have k25 := fa_kind25
  have e27 := fa_elem27
  have i25 := fa_implements25
  have n8 := fa_isNil27 ⟨w.heap.size, 0, none⟩ t ((w.alloc (.cells #[.pointer (some t)] 75)).alloc (.cells #[.pointer (some ⟨7, 75, none⟩), .pointer (some ⟨w.heap.size, 0, none⟩), .int .u64 150] 129)) (by simp)
  have hlt : 1 < w.heap.size := by
    rcases Nat.lt_or_ge 1 w.heap.size with h | h
    · exact h
    · simp [World.cell?, Array.getElem?_eq_none h] at hg
  have hg2 : ((w.alloc (.cells #[.pointer (some t)] 75)).alloc (.cells #[.pointer (some ⟨7, 75, none⟩), .pointer (some ⟨w.heap.size, 0, none⟩), .int .u64 150] 129)).cell? ⟨1, 0, none⟩ = some (.iface 159 (.agg #[.pointer (some ⟨7, 69, none⟩)])) := by
    rw [World.cell?_alloc_lt _ _ ⟨1, 0, none⟩ (by simp; omega), World.cell?_alloc_lt _ _ ⟨1, 0, none⟩ hlt]; exact hg
  have htl : t.block < w.heap.size := by
    rcases Nat.lt_or_ge t.block w.heap.size with h | h
    · exact h
    · simp [World.cell?, Array.getElem?_eq_none h] at ht0
  have el := fa_elemV27 ⟨w.heap.size, 0, none⟩ t (((w.alloc (.cells #[.pointer (some t)] 75)).alloc (.cells #[.pointer (some ⟨7, 75, none⟩), .pointer (some ⟨w.heap.size, 0, none⟩), .int .u64 150] 129)).alloc (.cells #[.pointer (some ⟨7, 75, none⟩), .pointer (some ⟨w.heap.size, 0, none⟩), .int .u64 150] 129)) (by rw [World.cell?_alloc_lt _ _ ⟨w.heap.size, 0, none⟩ (by simp; omega)]; simp)
  have st := fa_set25 t ⟨w.heap.size + 1 + 1 + 1, 0, none⟩ e old ((((w.alloc (.cells #[.pointer (some t)] 75)).alloc (.cells #[.pointer (some ⟨7, 75, none⟩), .pointer (some ⟨w.heap.size, 0, none⟩), .int .u64 150] 129)).alloc (.cells #[.pointer (some ⟨7, 75, none⟩), .pointer (some ⟨w.heap.size, 0, none⟩), .int .u64 150] 129)).alloc (.cells #[.pointer (some e)] 73))
    (by rw [World.cell?_alloc_at _ _ _ _ (by simp)]; rfl)
    (by rw [World.cell?_alloc_lt _ _ t (by simp; omega), World.cell?_alloc_lt _ _ t (by simp; omega), World.cell?_alloc_lt _ _ t (by simp; omega), World.cell?_alloc_lt _ _ t htl]; exact ht0)
    (by rw [World.frozen?_alloc_old _ _ t (by simp; omega), World.frozen?_alloc_old _ _ t (by simp; omega), World.frozen?_alloc_old _ _ t (by simp; omega), World.frozen?_alloc_old _ _ t (Nat.ne_of_lt htl)]; exact hf0)
  go_enter Tryd.func31, Tryd.ntmps31
  go_wp2
  refine wp_loop_rounds 1 ?_
  rw [rounds_succ]
  go_wp2
  go_ret
  exact ⟨rfl, rfl⟩
end Go.Proofs.YtikigaeihdmcaaaDoor

/-
  ctl.Parse, walked.
-/
set_option linter.unusedVariables false
set_option linter.unusedSimpArgs false
namespace Go.Proofs.YtikigaeihdmcaaaDoor
open Go.RowKit

theorem results_cell3 {fn : Func} {a u s : Nat} {t : TypeId} (h : fn.results = #[.cell a t, .tmp u, .tmp s]) (tmps : Array Value) (P : Program) (w : World) {p : Addr} {v : Value} (ha : tmps.getD a undef = .pointer (some p)) (hl : (loadVar t p).run P w = .ok v w) :
    (results fn tmps).run P w = .ok (.tuple ⟨[v, tmps.getD u undef, tmps.getD s undef]⟩) w := by
  simp only [Array.getD_eq_getD_getElem?] at ha ⊢
  simp [results, h, ha, asAddr, hl]
theorem EX.retC3 {P : Program} {n : Nat} {σ : Sg} {w : World} {fn : Func} {a b u s : Nat} {t e : TypeId} {cells : List Value} {k : Nat} {x y : Value} {R : Value → World → Prop} (hr : fn.results = #[.cell a t, .tmp u, .tmp s]) (ha : fnd σ a = some (.pointer (some ⟨b, 0, none⟩))) (hu : fnd σ u = some x) (hs : fnd σ s = some y) [hc : IsC P t k true] (hb : Blk w b e cells) (hk : lenL cells = k) (h : R (.tuple ⟨[.agg cells.toArray, x, y]⟩) w) :
    EX (bodyPost P fn fun e w' => ∃ v, e = .returned v ∧ R v w') .ret n σ w := by
  unfold EX; intro ac hac
  refine bodyPost_ret (results_cell3 hr _ _ _ (hac.slot a _ ha) (v := .agg cells.toArray) ?_) hac.defers ⟨_, by rw [hac.slot u x hu, hac.slot s y hs], h⟩
  rw [lenL_eq] at hk
  have hld := run_loadCells_list (P := P) w ⟨b, 0, none⟩ cells (fun j u hu => by rw [WideShapes.add_plain, Nat.zero_add]; exact hb.cell hu)
  obtain ⟨i, dd, h1, h2, h3, h4⟩ := hc.ok
  have hagg : (isAgg t).run P w = .ok true w := by
    unfold isAgg
    rw [Sem.run_bind, run_underlying h3 w, ← h4]
    cases dd <;> rfl
  rw [hk] at hld
  simp [loadVar, hagg, sizeOf, typeInfo, h1, h2, hld]
theorem grown_setCell (w : World) (b : Nat) (v : Value) : w.grownBy (w.setCell ⟨b, 0, none⟩ v) (some b) :=
  ⟨rfl, rfl, rfl, by simp [World.setCell], fun k _ hk => by
    have : b ≠ k := fun e => hk (by rw [e])
    simp [World.setCell, Array.getElem?_modify, this]⟩
theorem Blk.setCell {w : World} {b : Nat} {e : TypeId} {u v : Value} (h : Blk w b e [u]) : Blk (w.setCell ⟨b, 0, none⟩ v) b e [v] := by
  unfold Blk at h ⊢
  simp [World.setCell, Array.getElem?_modify, h]
theorem Blk.neT {w : World} {a b : Nat} {e1 e2 : TypeId} {c1 c2 : List Value} (h : Blk w a e1 c1) (h' : Blk w b e2 c2) (he : e1 ≠ e2) : a ≠ b := by
  rintro rfl
  unfold Blk at h h'
  rw [h] at h'
  have := Option.some.inj h'
  simp at this
  exact he this.2
/-- the handle that errors.As looks at -/
def ErrH (w : World) : Prop := w.cell? ⟨1, 0, none⟩ = some (.iface 159 (.agg #[.pointer (some ⟨7, 69, none⟩)]))
theorem ErrH.lt {w : World} (h : ErrH w) : 1 < w.heap.size := by
  rcases Nat.lt_or_ge 1 w.heap.size with h1 | h1
  · exact h1
  · unfold ErrH at h; simp [World.cell?, Array.getElem?_eq_none h1] at h
theorem ErrH.kept {w w' : World} {r : Option Nat} (h : ErrH w) (hg : w.grownBy w' r) (hr : r ≠ some 1) : ErrH w' := by
  have hl := h.lt
  unfold ErrH at *
  have := hg.block 1 hl (fun e => hr e.symm)
  unfold World.cell? at h ⊢
  rw [this]; exact h
/-- what Parse makes of what was read -/
def finC (N : Nat) : PR → Ltl × Nat × Int
  | .er c a => (.mk 0 0 [], a, c)
  | .ok f st => if st.1 ≠ [] then (.mk 0 0 [], atT N st, 3) else if (chkC f 1 0).1 ≠ 0 then (.mk 0 0 [], N, (chkC f 1 0).1) else (f, 0, 0)
theorem parseC_fin (s : Bys) (nms : List ByteArray) : parseC s nms = if s.length > 300 then (.mk 0 0 [], 0, 2) else finC s.length (cFor nms s.length (10 * s.length + 20) 0 [] (nxT s)) := by
  unfold parseC
  split
  · rfl
  · cases cFor nms s.length (10 * s.length + 20) 0 [] (nxT s) <;> rfl
theorem as_fault (w : World) {fb tb : Nat} (hg : ErrH w) (ht : Blk w tb 73 [.pointer none]) :
    Rt Tryd.prog 31 [.iface 73 (.pointer (some ⟨fb, 0, none⟩)), .iface 75 (.pointer (some ⟨tb, 0, none⟩))].toArray w fun v w' => v = .bool true ∧ Blk w' tb 73 [.pointer (some ⟨fb, 0, none⟩)] ∧ w.grownBy w' (some tb) := by
  have h := as_hit ⟨fb, 0, none⟩ ⟨tb, 0, none⟩ (.pointer none) w hg (ht.cell (o := 0) rfl) (by unfold Blk at ht; simp [World.frozen?, ht])
  refine Calls.mono h ?_
  rintro e w' ⟨rfl, rfl⟩
  refine ⟨_, rfl, rfl, ?_, ?_⟩
  · exact Blk.setCell ((((ht.ext (Ext.alloc _ _)).ext (Ext.alloc _ _)).ext (Ext.alloc _ _)).ext (Ext.alloc _ _))
  · exact grown_tr ((((Ext.alloc w _).trans (Ext.alloc _ _)).trans (Ext.alloc _ _)).trans (Ext.alloc _ _) |>.grw _) (grown_setCell _ _ _)
theorem as_none (w : World) (t : Value) : Rt Tryd.prog 31 [.nilIface, t].toArray w fun v w' => v = .bool false ∧ w' = w := by
  refine Calls.mono (as_nil t w) ?_
  rintro e w' ⟨rfl, rfl⟩
  exact ⟨_, rfl, rfl, rfl⟩
theorem creader_ok {rb : Nat} {s : Bys} {no : Option Addr} {nc : Nat} {nms : List ByteArray} (hs : s.length ≤ 300) : ∀ n, SinOK rb s no nc nms n ∧ ForOK rb s no nc nms n
  | 0 => ⟨fun m hm o st w hr ho h => by omega, fun m hm o st w hr ho h => by omega⟩
  | n + 1 => by
    obtain ⟨h1, h2⟩ := creader_ok (rb := rb) (no := no) (nc := nc) (nms := nms) hs n
    refine ⟨fun m hm o st w hr ho h => ?_, fun m hm o st w hr ho h => ?_⟩
    · by_cases e : m = n + 1
      · subst e
        exact csingle_ok w hr hs ho h1 h2 h
      · exact h1 m (by omega) o st w hr ho h
    · exact cformula_ok w hr hs ho h1 m hm h
instance iCRd13 : IsIf Tryd.prog 20 := ⟨by kernel_rfl⟩
instance iCRd14 : IsZC Tryd.prog 73 [.pointer none] := IsZC.of (z := .pointer none) (by kernel_rfl) rfl
instance iCRd15 : IsC Tryd.prog 73 1 false := IsC.of (by kernel_rfl) Tryd.underlying73 rfl
instance iCRd16 : IsFd Tryd.prog 77 0 0 := IsFd.of (by kernel_rfl)
instance iCRd17 : IsFd Tryd.prog 77 1 1 := IsFd.of (by kernel_rfl)
set_option maxHeartbeats 2000000 in
theorem cparse_ok (w0 : World) (hE : ErrH w0) {s : Bys} {no : Option Addr} {nc : Nat} {nms : List ByteArray} (hn : Sl w0 (Old w0) no nc nms) :
    Rt Tryd.prog 13 [tV s, .slice no nms.length nc].toArray w0 fun v w' => ∃ x, v = .tuple ⟨[x, .int .i64 ((parseC s nms).2.1 : Int), .int .i64 (parseC s nms).2.2]⟩ ∧ GL w0.heap.size w' x (parseC s nms).1 ∧ Ext w0 w' := by
  have h1 := hE.lt
  refine Rt.enter2 Tryd.func13 Tryd.ntmps13 rfl rfl ?_
  rw [parseC_fin]
  (repeat (first | (apply WL.add; rfl; rfl; rfl; rfl; omega; omega) | (apply QL.add; rfl; rfl; rfl; rfl; omega; omega) | (apply WL.sub'; rfl; rfl; rfl; rfl; omega; omega) | (apply QL.sub'; rfl; rfl; rfl; rfl; omega; omega) | (apply WL.mul; rfl; rfl; rfl; rfl; omega; omega) | (apply QL.mul; rfl; rfl; rfl; rfl; omega; omega) | (apply WL.pure; rfl; rfl; rfl) | (apply QL.pure; rfl; rfl; rfl) | (apply WL.nil) | (apply EX.thenN) | (apply CW.seq) | (apply CW.region) | (apply WL.pass; rfl; rfl) | (apply QL.pass; rfl; rfl) | (apply WL.eqB; rfl; rfl; rfl; rfl) | (apply QL.eqB; rfl; rfl; rfl; rfl) | (apply WL.neB; rfl; rfl; rfl; rfl) | (apply QL.neB; rfl; rfl; rfl; rfl) | (apply WL.lenS; rfl; rfl; rfl) | (apply QL.lenS; rfl; rfl; rfl) | (apply WL.makeFunc; rfl; rfl; rfl; rfl) | (apply QL.makeFunc; rfl; rfl; rfl; rfl) | (apply WL.fa; rfl; rfl; rfl) | (apply QL.fa; rfl; rfl; rfl) | (apply WL.nck; rfl; rfl; rfl) | (apply QL.nck; rfl; rfl; rfl) | (apply WL.ld; rfl; rfl; rfl; assumption; rfl) | (apply QL.ld; rfl; rfl; rfl; assumption; rfl) | (apply WL.ldA; rfl; rfl; rfl; assumption; rfl) | (apply QL.ldA; rfl; rfl; rfl; assumption; rfl) | (apply CW.block) | (apply EX.inN) | (apply CW.condT; rfl) | (apply CW.condF; rfl) | (apply CW.exit) | (apply EX.thenX) | (apply EX.inX) | (apply EX.inXne; rfl) | (apply CW.ret) | (apply EX.thenR) | (apply EX.inR) | (apply CW.skip) | (refine WL.lenO rfl rfl rfl (by assumption) ?_) | (apply WL.isNil; rfl; rfl; rfl) | (apply CW.draw; exact mixed; kernel_rfl)))
  refine WL.alloc rfl rfl (fun w1 hb4 e1 => ?_)
  have l4 := hb4.lt
  (repeat (first | (apply WL.add; rfl; rfl; rfl; rfl; omega; omega) | (apply QL.add; rfl; rfl; rfl; rfl; omega; omega) | (apply WL.sub'; rfl; rfl; rfl; rfl; omega; omega) | (apply QL.sub'; rfl; rfl; rfl; rfl; omega; omega) | (apply WL.mul; rfl; rfl; rfl; rfl; omega; omega) | (apply QL.mul; rfl; rfl; rfl; rfl; omega; omega) | (apply WL.pure; rfl; rfl; rfl) | (apply QL.pure; rfl; rfl; rfl) | (apply WL.nil) | (apply EX.thenN) | (apply CW.seq) | (apply CW.region) | (apply WL.pass; rfl; rfl) | (apply QL.pass; rfl; rfl) | (apply WL.eqB; rfl; rfl; rfl; rfl) | (apply QL.eqB; rfl; rfl; rfl; rfl) | (apply WL.neB; rfl; rfl; rfl; rfl) | (apply QL.neB; rfl; rfl; rfl; rfl) | (apply WL.lenS; rfl; rfl; rfl) | (apply QL.lenS; rfl; rfl; rfl) | (apply WL.makeFunc; rfl; rfl; rfl; rfl) | (apply QL.makeFunc; rfl; rfl; rfl; rfl) | (apply WL.fa; rfl; rfl; rfl) | (apply QL.fa; rfl; rfl; rfl) | (apply WL.nck; rfl; rfl; rfl) | (apply QL.nck; rfl; rfl; rfl) | (apply WL.ld; rfl; rfl; rfl; assumption; rfl) | (apply QL.ld; rfl; rfl; rfl; assumption; rfl) | (apply WL.ldA; rfl; rfl; rfl; assumption; rfl) | (apply QL.ldA; rfl; rfl; rfl; assumption; rfl) | (apply CW.block) | (apply EX.inN) | (apply CW.condT; rfl) | (apply CW.condF; rfl) | (apply CW.exit) | (apply EX.thenX) | (apply EX.inX) | (apply EX.inXne; rfl) | (apply CW.ret) | (apply EX.thenR) | (apply EX.inR) | (apply CW.skip) | (refine WL.lenO rfl rfl rfl (by assumption) ?_) | (apply WL.isNil; rfl; rfl; rfl) | (apply CW.draw; exact mixed; kernel_rfl)))
  refine WL.lenB rfl rfl rfl ?_
  (repeat (first | (apply WL.add; rfl; rfl; rfl; rfl; omega; omega) | (apply QL.add; rfl; rfl; rfl; rfl; omega; omega) | (apply WL.sub'; rfl; rfl; rfl; rfl; omega; omega) | (apply QL.sub'; rfl; rfl; rfl; rfl; omega; omega) | (apply WL.mul; rfl; rfl; rfl; rfl; omega; omega) | (apply QL.mul; rfl; rfl; rfl; rfl; omega; omega) | (apply WL.pure; rfl; rfl; rfl) | (apply QL.pure; rfl; rfl; rfl) | (apply WL.nil) | (apply EX.thenN) | (apply CW.seq) | (apply CW.region) | (apply WL.pass; rfl; rfl) | (apply QL.pass; rfl; rfl) | (apply WL.eqB; rfl; rfl; rfl; rfl) | (apply QL.eqB; rfl; rfl; rfl; rfl) | (apply WL.neB; rfl; rfl; rfl; rfl) | (apply QL.neB; rfl; rfl; rfl; rfl) | (apply WL.lenS; rfl; rfl; rfl) | (apply QL.lenS; rfl; rfl; rfl) | (apply WL.makeFunc; rfl; rfl; rfl; rfl) | (apply QL.makeFunc; rfl; rfl; rfl; rfl) | (apply WL.fa; rfl; rfl; rfl) | (apply QL.fa; rfl; rfl; rfl) | (apply WL.nck; rfl; rfl; rfl) | (apply QL.nck; rfl; rfl; rfl) | (apply WL.ld; rfl; rfl; rfl; assumption; rfl) | (apply QL.ld; rfl; rfl; rfl; assumption; rfl) | (apply WL.ldA; rfl; rfl; rfl; assumption; rfl) | (apply QL.ldA; rfl; rfl; rfl; assumption; rfl) | (apply CW.block) | (apply EX.inN) | (apply CW.condT; rfl) | (apply CW.condF; rfl) | (apply CW.exit) | (apply EX.thenX) | (apply EX.inX) | (apply EX.inXne; rfl) | (apply CW.ret) | (apply EX.thenR) | (apply EX.inR) | (apply CW.skip) | (refine WL.lenO rfl rfl rfl (by assumption) ?_) | (apply WL.isNil; rfl; rfl; rfl) | (apply CW.draw; exact mixed; kernel_rfl)))
  refine CW.cond rfl (fun h => ?_) (fun h => ?_)
  · have h : s.length > 300 := by have : (s.length : Int) > 300 := by simpa using h
                                  omega
    rw [if_pos h]
    (repeat (first | (apply WL.add; rfl; rfl; rfl; rfl; omega; omega) | (apply QL.add; rfl; rfl; rfl; rfl; omega; omega) | (apply WL.sub'; rfl; rfl; rfl; rfl; omega; omega) | (apply QL.sub'; rfl; rfl; rfl; rfl; omega; omega) | (apply WL.mul; rfl; rfl; rfl; rfl; omega; omega) | (apply QL.mul; rfl; rfl; rfl; rfl; omega; omega) | (apply WL.pure; rfl; rfl; rfl) | (apply QL.pure; rfl; rfl; rfl) | (apply WL.nil) | (apply EX.thenN) | (apply CW.seq) | (apply CW.region) | (apply WL.pass; rfl; rfl) | (apply QL.pass; rfl; rfl) | (apply WL.eqB; rfl; rfl; rfl; rfl) | (apply QL.eqB; rfl; rfl; rfl; rfl) | (apply WL.neB; rfl; rfl; rfl; rfl) | (apply QL.neB; rfl; rfl; rfl; rfl) | (apply WL.lenS; rfl; rfl; rfl) | (apply QL.lenS; rfl; rfl; rfl) | (apply WL.makeFunc; rfl; rfl; rfl; rfl) | (apply QL.makeFunc; rfl; rfl; rfl; rfl) | (apply WL.fa; rfl; rfl; rfl) | (apply QL.fa; rfl; rfl; rfl) | (apply WL.nck; rfl; rfl; rfl) | (apply QL.nck; rfl; rfl; rfl) | (apply WL.ld; rfl; rfl; rfl; assumption; rfl) | (apply QL.ld; rfl; rfl; rfl; assumption; rfl) | (apply WL.ldA; rfl; rfl; rfl; assumption; rfl) | (apply QL.ldA; rfl; rfl; rfl; assumption; rfl) | (apply CW.block) | (apply EX.inN) | (apply CW.condT; rfl) | (apply CW.condF; rfl) | (apply CW.exit) | (apply EX.thenX) | (apply EX.inX) | (apply EX.inXne; rfl) | (apply CW.ret) | (apply EX.thenR) | (apply EX.inR) | (apply CW.skip) | (refine WL.lenO rfl rfl rfl (by assumption) ?_) | (apply WL.isNil; rfl; rfl; rfl) | (apply CW.draw; exact mixed; kernel_rfl)))
    refine WL.build (parts := []) rfl rfl rfl rfl ?_
    (repeat (first | (apply WL.add; rfl; rfl; rfl; rfl; omega; omega) | (apply QL.add; rfl; rfl; rfl; rfl; omega; omega) | (apply WL.sub'; rfl; rfl; rfl; rfl; omega; omega) | (apply QL.sub'; rfl; rfl; rfl; rfl; omega; omega) | (apply WL.mul; rfl; rfl; rfl; rfl; omega; omega) | (apply QL.mul; rfl; rfl; rfl; rfl; omega; omega) | (apply WL.pure; rfl; rfl; rfl) | (apply QL.pure; rfl; rfl; rfl) | (apply WL.nil) | (apply EX.thenN) | (apply CW.seq) | (apply CW.region) | (apply WL.pass; rfl; rfl) | (apply QL.pass; rfl; rfl) | (apply WL.eqB; rfl; rfl; rfl; rfl) | (apply QL.eqB; rfl; rfl; rfl; rfl) | (apply WL.neB; rfl; rfl; rfl; rfl) | (apply QL.neB; rfl; rfl; rfl; rfl) | (apply WL.lenS; rfl; rfl; rfl) | (apply QL.lenS; rfl; rfl; rfl) | (apply WL.makeFunc; rfl; rfl; rfl; rfl) | (apply QL.makeFunc; rfl; rfl; rfl; rfl) | (apply WL.fa; rfl; rfl; rfl) | (apply QL.fa; rfl; rfl; rfl) | (apply WL.nck; rfl; rfl; rfl) | (apply QL.nck; rfl; rfl; rfl) | (apply WL.ld; rfl; rfl; rfl; assumption; rfl) | (apply QL.ld; rfl; rfl; rfl; assumption; rfl) | (apply WL.ldA; rfl; rfl; rfl; assumption; rfl) | (apply QL.ldA; rfl; rfl; rfl; assumption; rfl) | (apply CW.block) | (apply EX.inN) | (apply CW.condT; rfl) | (apply CW.condF; rfl) | (apply CW.exit) | (apply EX.thenX) | (apply EX.inX) | (apply EX.inXne; rfl) | (apply CW.ret) | (apply EX.thenR) | (apply EX.inR) | (apply CW.skip) | (refine WL.lenO rfl rfl rfl (by assumption) ?_) | (apply WL.isNil; rfl; rfl; rfl) | (apply CW.draw; exact mixed; kernel_rfl)))
    refine WL.st rfl rfl rfl hb4 rfl rfl (ones_of rfl) (fun w2 hb42 hg2 => ?_)
    (repeat (first | (apply WL.add; rfl; rfl; rfl; rfl; omega; omega) | (apply QL.add; rfl; rfl; rfl; rfl; omega; omega) | (apply WL.sub'; rfl; rfl; rfl; rfl; omega; omega) | (apply QL.sub'; rfl; rfl; rfl; rfl; omega; omega) | (apply WL.mul; rfl; rfl; rfl; rfl; omega; omega) | (apply QL.mul; rfl; rfl; rfl; rfl; omega; omega) | (apply WL.pure; rfl; rfl; rfl) | (apply QL.pure; rfl; rfl; rfl) | (apply WL.nil) | (apply EX.thenN) | (apply CW.seq) | (apply CW.region) | (apply WL.pass; rfl; rfl) | (apply QL.pass; rfl; rfl) | (apply WL.eqB; rfl; rfl; rfl; rfl) | (apply QL.eqB; rfl; rfl; rfl; rfl) | (apply WL.neB; rfl; rfl; rfl; rfl) | (apply QL.neB; rfl; rfl; rfl; rfl) | (apply WL.lenS; rfl; rfl; rfl) | (apply QL.lenS; rfl; rfl; rfl) | (apply WL.makeFunc; rfl; rfl; rfl; rfl) | (apply QL.makeFunc; rfl; rfl; rfl; rfl) | (apply WL.fa; rfl; rfl; rfl) | (apply QL.fa; rfl; rfl; rfl) | (apply WL.nck; rfl; rfl; rfl) | (apply QL.nck; rfl; rfl; rfl) | (apply WL.ld; rfl; rfl; rfl; assumption; rfl) | (apply QL.ld; rfl; rfl; rfl; assumption; rfl) | (apply WL.ldA; rfl; rfl; rfl; assumption; rfl) | (apply QL.ldA; rfl; rfl; rfl; assumption; rfl) | (apply CW.block) | (apply EX.inN) | (apply CW.condT; rfl) | (apply CW.condF; rfl) | (apply CW.exit) | (apply EX.thenX) | (apply EX.inX) | (apply EX.inXne; rfl) | (apply CW.ret) | (apply EX.thenR) | (apply EX.inR) | (apply CW.skip) | (refine WL.lenO rfl rfl rfl (by assumption) ?_) | (apply WL.isNil; rfl; rfl; rfl) | (apply CW.draw; exact mixed; kernel_rfl)))
    exact EX.retC3 rfl rfl rfl rfl hb42 rfl ⟨_, rfl, GL.zero 0 0, e1.grown hg2 e1.size (fun g hg => by cases hg; exact Nat.le_refl _)⟩
  have hs : s.length ≤ 300 := by have : ¬ (s.length : Int) > 300 := by simpa using h
                                 omega
  rw [if_neg (by omega)]
  clear h
  (repeat (first | (apply WL.add; rfl; rfl; rfl; rfl; omega; omega) | (apply QL.add; rfl; rfl; rfl; rfl; omega; omega) | (apply WL.sub'; rfl; rfl; rfl; rfl; omega; omega) | (apply QL.sub'; rfl; rfl; rfl; rfl; omega; omega) | (apply WL.mul; rfl; rfl; rfl; rfl; omega; omega) | (apply QL.mul; rfl; rfl; rfl; rfl; omega; omega) | (apply WL.pure; rfl; rfl; rfl) | (apply QL.pure; rfl; rfl; rfl) | (apply WL.nil) | (apply EX.thenN) | (apply CW.seq) | (apply CW.region) | (apply WL.pass; rfl; rfl) | (apply QL.pass; rfl; rfl) | (apply WL.eqB; rfl; rfl; rfl; rfl) | (apply QL.eqB; rfl; rfl; rfl; rfl) | (apply WL.neB; rfl; rfl; rfl; rfl) | (apply QL.neB; rfl; rfl; rfl; rfl) | (apply WL.lenS; rfl; rfl; rfl) | (apply QL.lenS; rfl; rfl; rfl) | (apply WL.makeFunc; rfl; rfl; rfl; rfl) | (apply QL.makeFunc; rfl; rfl; rfl; rfl) | (apply WL.fa; rfl; rfl; rfl) | (apply QL.fa; rfl; rfl; rfl) | (apply WL.nck; rfl; rfl; rfl) | (apply QL.nck; rfl; rfl; rfl) | (apply WL.ld; rfl; rfl; rfl; assumption; rfl) | (apply QL.ld; rfl; rfl; rfl; assumption; rfl) | (apply WL.ldA; rfl; rfl; rfl; assumption; rfl) | (apply QL.ldA; rfl; rfl; rfl; assumption; rfl) | (apply CW.block) | (apply EX.inN) | (apply CW.condT; rfl) | (apply CW.condF; rfl) | (apply CW.exit) | (apply EX.thenX) | (apply EX.inX) | (apply EX.inXne; rfl) | (apply CW.ret) | (apply EX.thenR) | (apply EX.inR) | (apply CW.skip) | (refine WL.lenO rfl rfl rfl (by assumption) ?_) | (apply WL.isNil; rfl; rfl; rfl) | (apply CW.draw; exact mixed; kernel_rfl)))
  refine WL.build rfl rfl rfl rfl ?_
  refine WL.boxB rfl rfl rfl fun w2 hbr e2 => ?_
  have hb4 := hb4.ext e2
  have e12 := e1.trans e2
  have lr := hbr.lt
  have hr2 : Rdr 67 w2 w1.heap.size s no nc nms 0 ([], s) := ⟨by
    have : atT s.length ([], s) = 0 := by simp [atT]
    rw [this, show ([], s).2.length = s.length from rfl, Nat.sub_self]
    exact hbr, hn.mono (fun b hb => e12.block b hb) (fun b hb => by show b < _; have : b < w0.heap.size := hb; omega), by simp, by simp⟩
  generalize hRB : w1.heap.size = rb at *
  have h2 : ErrH w2 := hE.kept (e12.grw none) (by simp)
  (repeat (first | (apply WL.add; rfl; rfl; rfl; rfl; omega; omega) | (apply QL.add; rfl; rfl; rfl; rfl; omega; omega) | (apply WL.sub'; rfl; rfl; rfl; rfl; omega; omega) | (apply QL.sub'; rfl; rfl; rfl; rfl; omega; omega) | (apply WL.mul; rfl; rfl; rfl; rfl; omega; omega) | (apply QL.mul; rfl; rfl; rfl; rfl; omega; omega) | (apply WL.pure; rfl; rfl; rfl) | (apply QL.pure; rfl; rfl; rfl) | (apply WL.nil) | (apply EX.thenN) | (apply CW.seq) | (apply CW.region) | (apply WL.pass; rfl; rfl) | (apply QL.pass; rfl; rfl) | (apply WL.eqB; rfl; rfl; rfl; rfl) | (apply QL.eqB; rfl; rfl; rfl; rfl) | (apply WL.neB; rfl; rfl; rfl; rfl) | (apply QL.neB; rfl; rfl; rfl; rfl) | (apply WL.lenS; rfl; rfl; rfl) | (apply QL.lenS; rfl; rfl; rfl) | (apply WL.makeFunc; rfl; rfl; rfl; rfl) | (apply QL.makeFunc; rfl; rfl; rfl; rfl) | (apply WL.fa; rfl; rfl; rfl) | (apply QL.fa; rfl; rfl; rfl) | (apply WL.nck; rfl; rfl; rfl) | (apply QL.nck; rfl; rfl; rfl) | (apply WL.ld; rfl; rfl; rfl; assumption; rfl) | (apply QL.ld; rfl; rfl; rfl; assumption; rfl) | (apply WL.ldA; rfl; rfl; rfl; assumption; rfl) | (apply QL.ldA; rfl; rfl; rfl; assumption; rfl) | (apply CW.block) | (apply EX.inN) | (apply CW.condT; rfl) | (apply CW.condF; rfl) | (apply CW.exit) | (apply EX.thenX) | (apply EX.inX) | (apply EX.inXne; rfl) | (apply CW.ret) | (apply EX.thenR) | (apply EX.inR) | (apply CW.skip) | (refine WL.lenO rfl rfl rfl (by assumption) ?_) | (apply WL.isNil; rfl; rfl; rfl) | (apply CW.draw; exact mixed; kernel_rfl)))
  refine WL.call rfl rfl rfl (cnext_ok w2 hr2 hs) ?_
  rintro _ w3 ⟨hr3, hg3⟩
  have hb4 := hb4.kept hg3 (fun e => by have := Option.some.inj e; omega)
  have hG := hg3
  have z3 := hg3.size
  have hm3 : mT (nxT s) ≤ s.length := nxT_len s
  (repeat (first | (apply WL.add; rfl; rfl; rfl; rfl; omega; omega) | (apply QL.add; rfl; rfl; rfl; rfl; omega; omega) | (apply WL.sub'; rfl; rfl; rfl; rfl; omega; omega) | (apply QL.sub'; rfl; rfl; rfl; rfl; omega; omega) | (apply WL.mul; rfl; rfl; rfl; rfl; omega; omega) | (apply QL.mul; rfl; rfl; rfl; rfl; omega; omega) | (apply WL.pure; rfl; rfl; rfl) | (apply QL.pure; rfl; rfl; rfl) | (apply WL.nil) | (apply EX.thenN) | (apply CW.seq) | (apply CW.region) | (apply WL.pass; rfl; rfl) | (apply QL.pass; rfl; rfl) | (apply WL.eqB; rfl; rfl; rfl; rfl) | (apply QL.eqB; rfl; rfl; rfl; rfl) | (apply WL.neB; rfl; rfl; rfl; rfl) | (apply QL.neB; rfl; rfl; rfl; rfl) | (apply WL.lenS; rfl; rfl; rfl) | (apply QL.lenS; rfl; rfl; rfl) | (apply WL.makeFunc; rfl; rfl; rfl; rfl) | (apply QL.makeFunc; rfl; rfl; rfl; rfl) | (apply WL.fa; rfl; rfl; rfl) | (apply QL.fa; rfl; rfl; rfl) | (apply WL.nck; rfl; rfl; rfl) | (apply QL.nck; rfl; rfl; rfl) | (apply WL.ld; rfl; rfl; rfl; assumption; rfl) | (apply QL.ld; rfl; rfl; rfl; assumption; rfl) | (apply WL.ldA; rfl; rfl; rfl; assumption; rfl) | (apply QL.ldA; rfl; rfl; rfl; assumption; rfl) | (apply CW.block) | (apply EX.inN) | (apply CW.condT; rfl) | (apply CW.condF; rfl) | (apply CW.exit) | (apply EX.thenX) | (apply EX.inX) | (apply EX.inXne; rfl) | (apply CW.ret) | (apply EX.thenR) | (apply EX.inR) | (apply CW.skip) | (refine WL.lenO rfl rfl rfl (by assumption) ?_) | (apply WL.isNil; rfl; rfl; rfl) | (apply CW.draw; exact mixed; kernel_rfl)))
  refine WL.call rfl rfl rfl ((creader_ok hs (10 * s.length + 20)).2 (10 * s.length + 20) (Nat.le_refl _) 0 _ w3 hr3 (by omega) (by show 10 * mT (nxT s) + 6 ≤ _; omega)) ?_
  rintro _ w4 ⟨⟨x, e, t, st1, rfl, hx, hr4, hE4⟩, hg4⟩
  have l3 := hb4.lt
  have lr3 := hr3.lt
  have hb4 := hb4.kept hg4 (fun e => by have := Option.some.inj e; omega)
  have hG := grown_tr hG hg4
  have hx : GX w0.heap.size [w0.heap.size] w4 x t := GX.of hx (by omega) (fun r hr => by rw [List.mem_singleton.1 hr]; exact l3)
  have hE4 : ErP w4 w0.heap.size (cFor nms s.length (10 * s.length + 20) 0 [] (nxT s)) e t st1 := hE4.low (by omega)
  generalize cFor nms s.length (10 * s.length + 20) 0 [] (nxT s) = R at *
  obtain ⟨uo, uc, rfl, hk⟩ := Rd.ltl hx
  have z4 := hg4.size
  (repeat (first | (apply WL.add; rfl; rfl; rfl; rfl; omega; omega) | (apply QL.add; rfl; rfl; rfl; rfl; omega; omega) | (apply WL.sub'; rfl; rfl; rfl; rfl; omega; omega) | (apply QL.sub'; rfl; rfl; rfl; rfl; omega; omega) | (apply WL.mul; rfl; rfl; rfl; rfl; omega; omega) | (apply QL.mul; rfl; rfl; rfl; rfl; omega; omega) | (apply WL.pure; rfl; rfl; rfl) | (apply QL.pure; rfl; rfl; rfl) | (apply WL.nil) | (apply EX.thenN) | (apply CW.seq) | (apply CW.region) | (apply WL.pass; rfl; rfl) | (apply QL.pass; rfl; rfl) | (apply WL.eqB; rfl; rfl; rfl; rfl) | (apply QL.eqB; rfl; rfl; rfl; rfl) | (apply WL.neB; rfl; rfl; rfl; rfl) | (apply QL.neB; rfl; rfl; rfl; rfl) | (apply WL.lenS; rfl; rfl; rfl) | (apply QL.lenS; rfl; rfl; rfl) | (apply WL.makeFunc; rfl; rfl; rfl; rfl) | (apply QL.makeFunc; rfl; rfl; rfl; rfl) | (apply WL.fa; rfl; rfl; rfl) | (apply QL.fa; rfl; rfl; rfl) | (apply WL.nck; rfl; rfl; rfl) | (apply QL.nck; rfl; rfl; rfl) | (apply WL.ld; rfl; rfl; rfl; assumption; rfl) | (apply QL.ld; rfl; rfl; rfl; assumption; rfl) | (apply WL.ldA; rfl; rfl; rfl; assumption; rfl) | (apply QL.ldA; rfl; rfl; rfl; assumption; rfl) | (apply CW.block) | (apply EX.inN) | (apply CW.condT; rfl) | (apply CW.condF; rfl) | (apply CW.exit) | (apply EX.thenX) | (apply EX.inX) | (apply EX.inXne; rfl) | (apply CW.ret) | (apply EX.thenR) | (apply EX.inR) | (apply CW.skip) | (refine WL.lenO rfl rfl rfl (by assumption) ?_) | (apply WL.isNil; rfl; rfl; rfl) | (apply CW.draw; exact mixed; kernel_rfl)))
  refine WL.alloc rfl rfl (fun w5 hb8 e5 => ?_)
  have hx := hx.add e5 (Nat.le_refl _)
  have hb4 := hb4.ext e5
  have hr5 := hr4.ext e5
  have hE5 := hE4.ext e5
  have hG := grown_tr hG (e5.grw (some rb))
  have h48 : w0.heap.size < w4.heap.size := by omega
  have hr8 : rb < w4.heap.size := hr4.lt
  have l8 := hb8.lt
  generalize hB8 : w4.heap.size = b8 at *
  (repeat (first | (apply WL.add; rfl; rfl; rfl; rfl; omega; omega) | (apply QL.add; rfl; rfl; rfl; rfl; omega; omega) | (apply WL.sub'; rfl; rfl; rfl; rfl; omega; omega) | (apply QL.sub'; rfl; rfl; rfl; rfl; omega; omega) | (apply WL.mul; rfl; rfl; rfl; rfl; omega; omega) | (apply QL.mul; rfl; rfl; rfl; rfl; omega; omega) | (apply WL.pure; rfl; rfl; rfl) | (apply QL.pure; rfl; rfl; rfl) | (apply WL.nil) | (apply EX.thenN) | (apply CW.seq) | (apply CW.region) | (apply WL.pass; rfl; rfl) | (apply QL.pass; rfl; rfl) | (apply WL.eqB; rfl; rfl; rfl; rfl) | (apply QL.eqB; rfl; rfl; rfl; rfl) | (apply WL.neB; rfl; rfl; rfl; rfl) | (apply QL.neB; rfl; rfl; rfl; rfl) | (apply WL.lenS; rfl; rfl; rfl) | (apply QL.lenS; rfl; rfl; rfl) | (apply WL.makeFunc; rfl; rfl; rfl; rfl) | (apply QL.makeFunc; rfl; rfl; rfl; rfl) | (apply WL.fa; rfl; rfl; rfl) | (apply QL.fa; rfl; rfl; rfl) | (apply WL.nck; rfl; rfl; rfl) | (apply QL.nck; rfl; rfl; rfl) | (apply WL.ld; rfl; rfl; rfl; assumption; rfl) | (apply QL.ld; rfl; rfl; rfl; assumption; rfl) | (apply WL.ldA; rfl; rfl; rfl; assumption; rfl) | (apply QL.ldA; rfl; rfl; rfl; assumption; rfl) | (apply CW.block) | (apply EX.inN) | (apply CW.condT; rfl) | (apply CW.condF; rfl) | (apply CW.exit) | (apply EX.thenX) | (apply EX.inX) | (apply EX.inXne; rfl) | (apply CW.ret) | (apply EX.thenR) | (apply EX.inR) | (apply CW.skip) | (refine WL.lenO rfl rfl rfl (by assumption) ?_) | (apply WL.isNil; rfl; rfl; rfl) | (apply CW.draw; exact mixed; kernel_rfl)))
  refine WL.st rfl rfl rfl hb8 rfl rfl (ones_of rfl) (fun w6 hb86 hg6 => ?_)
  have hx := hx.st hg6 (.inr (List.mem_cons_self ..))
  have hH := HF.of hb86 hx
  have hb4 := hb4.kept hg6 (fun e => by have := Option.some.inj e; omega)
  have hr6 := hr5.kept hg6 (fun b e => by cases e; omega)
  have hE6 := hE5.stT hg6 hb8 (by decide)
  have hG := grown_row hG hg6 (fun g hg => by cases hg; have := e2.size; omega)
  have hrb := hr6.blk
  have he := hE6.err
  have z6 := hg6.size
  clear hb8 hb86 hx hr5 hr4 hE5 hE4 hr3 hr2 hg6 hk hg3 hg4
  (repeat (first | (apply WL.pure; rfl; rfl; rfl) | (apply WL.nil) | (apply EX.thenN)))
  refine CW.cutI (S := Value) (fun e => [(0, tV s), (4, .pointer (some ⟨w0.heap.size, 0, none⟩)), (8, .pointer (some ⟨b8, 0, none⟩)), (9, e)])
    (fun e w => w2.grownBy w (some rb) ∧ w6.heap.size ≤ w.heap.size ∧ Blk w w0.heap.size 24 [.int .i64 0, .int .i64 0, .slice none 0 0] ∧ HF 24 w b8 w0.heap.size [b8, w0.heap.size] t ∧
      ((e = .nilIface ∧ R = .ok t st1 ∧ st1.1 = []) ∨ ∃ c a, FlV w w0.heap.size c a e ∧ finC s.length R = (.mk 0 0 [], a, c))) ?_ ?_
  · (repeat (first | (apply WL.add; rfl; rfl; rfl; rfl; omega; omega) | (apply QL.add; rfl; rfl; rfl; rfl; omega; omega) | (apply WL.sub'; rfl; rfl; rfl; rfl; omega; omega) | (apply QL.sub'; rfl; rfl; rfl; rfl; omega; omega) | (apply WL.mul; rfl; rfl; rfl; rfl; omega; omega) | (apply QL.mul; rfl; rfl; rfl; rfl; omega; omega) | (apply WL.pure; rfl; rfl; rfl) | (apply QL.pure; rfl; rfl; rfl) | (apply WL.nil) | (apply EX.thenN) | (apply CW.seq) | (apply CW.region) | (apply WL.pass; rfl; rfl) | (apply QL.pass; rfl; rfl) | (apply WL.eqB; rfl; rfl; rfl; rfl) | (apply QL.eqB; rfl; rfl; rfl; rfl) | (apply WL.neB; rfl; rfl; rfl; rfl) | (apply QL.neB; rfl; rfl; rfl; rfl) | (apply WL.lenS; rfl; rfl; rfl) | (apply QL.lenS; rfl; rfl; rfl) | (apply WL.makeFunc; rfl; rfl; rfl; rfl) | (apply QL.makeFunc; rfl; rfl; rfl; rfl) | (apply WL.fa; rfl; rfl; rfl) | (apply QL.fa; rfl; rfl; rfl) | (apply WL.nck; rfl; rfl; rfl) | (apply QL.nck; rfl; rfl; rfl) | (apply WL.ld; rfl; rfl; rfl; assumption; rfl) | (apply QL.ld; rfl; rfl; rfl; assumption; rfl) | (apply WL.ldA; rfl; rfl; rfl; assumption; rfl) | (apply QL.ldA; rfl; rfl; rfl; assumption; rfl) | (apply CW.block) | (apply EX.inN) | (apply CW.condT; rfl) | (apply CW.condF; rfl) | (apply CW.exit) | (apply EX.thenX) | (apply EX.inX) | (apply EX.inXne; rfl) | (apply CW.ret) | (apply EX.thenR) | (apply EX.inR) | (apply CW.skip) | (refine WL.lenO rfl rfl rfl (by assumption) ?_) | (apply WL.isNil; rfl; rfl; rfl) | (apply CW.draw; exact mixed; kernel_rfl)))
    refine WL.eqNil rfl rfl rfl he ?_
    rcases hE6 with ⟨rfl, rfl⟩ | ⟨c, a, rfl, hF⟩
    · rw [show nilI Value.nilIface = true from rfl]
      (repeat (first | (apply WL.add; rfl; rfl; rfl; rfl; omega; omega) | (apply QL.add; rfl; rfl; rfl; rfl; omega; omega) | (apply WL.sub'; rfl; rfl; rfl; rfl; omega; omega) | (apply QL.sub'; rfl; rfl; rfl; rfl; omega; omega) | (apply WL.mul; rfl; rfl; rfl; rfl; omega; omega) | (apply QL.mul; rfl; rfl; rfl; rfl; omega; omega) | (apply WL.pure; rfl; rfl; rfl) | (apply QL.pure; rfl; rfl; rfl) | (apply WL.nil) | (apply EX.thenN) | (apply CW.seq) | (apply CW.region) | (apply WL.pass; rfl; rfl) | (apply QL.pass; rfl; rfl) | (apply WL.eqB; rfl; rfl; rfl; rfl) | (apply QL.eqB; rfl; rfl; rfl; rfl) | (apply WL.neB; rfl; rfl; rfl; rfl) | (apply QL.neB; rfl; rfl; rfl; rfl) | (apply WL.lenS; rfl; rfl; rfl) | (apply QL.lenS; rfl; rfl; rfl) | (apply WL.makeFunc; rfl; rfl; rfl; rfl) | (apply QL.makeFunc; rfl; rfl; rfl; rfl) | (apply WL.fa; rfl; rfl; rfl) | (apply QL.fa; rfl; rfl; rfl) | (apply WL.nck; rfl; rfl; rfl) | (apply QL.nck; rfl; rfl; rfl) | (apply WL.ld; rfl; rfl; rfl; assumption; rfl) | (apply QL.ld; rfl; rfl; rfl; assumption; rfl) | (apply WL.ldA; rfl; rfl; rfl; assumption; rfl) | (apply QL.ldA; rfl; rfl; rfl; assumption; rfl) | (apply CW.block) | (apply EX.inN) | (apply CW.condT; rfl) | (apply CW.condF; rfl) | (apply CW.exit) | (apply EX.thenX) | (apply EX.inX) | (apply EX.inXne; rfl) | (apply CW.ret) | (apply EX.thenR) | (apply EX.inR) | (apply CW.skip) | (refine WL.lenO rfl rfl rfl (by assumption) ?_) | (apply WL.isNil; rfl; rfl; rfl) | (apply CW.draw; exact mixed; kernel_rfl)))
      rw [show ((txA st1.1).data.toList == (ByteArray.mk #[]).data.toList) = decide (st1.1 = []) from txA_eqd _ _]
      refine CW.cond rfl (fun h => ?_) (fun h => ?_)
      · have h : ¬ st1.1 = [] := by simpa using h
        (repeat (first | (apply WL.add; rfl; rfl; rfl; rfl; omega; omega) | (apply QL.add; rfl; rfl; rfl; rfl; omega; omega) | (apply WL.sub'; rfl; rfl; rfl; rfl; omega; omega) | (apply QL.sub'; rfl; rfl; rfl; rfl; omega; omega) | (apply WL.mul; rfl; rfl; rfl; rfl; omega; omega) | (apply QL.mul; rfl; rfl; rfl; rfl; omega; omega) | (apply WL.pure; rfl; rfl; rfl) | (apply QL.pure; rfl; rfl; rfl) | (apply WL.nil) | (apply EX.thenN) | (apply CW.seq) | (apply CW.region) | (apply WL.pass; rfl; rfl) | (apply QL.pass; rfl; rfl) | (apply WL.eqB; rfl; rfl; rfl; rfl) | (apply QL.eqB; rfl; rfl; rfl; rfl) | (apply WL.neB; rfl; rfl; rfl; rfl) | (apply QL.neB; rfl; rfl; rfl; rfl) | (apply WL.lenS; rfl; rfl; rfl) | (apply QL.lenS; rfl; rfl; rfl) | (apply WL.makeFunc; rfl; rfl; rfl; rfl) | (apply QL.makeFunc; rfl; rfl; rfl; rfl) | (apply WL.fa; rfl; rfl; rfl) | (apply QL.fa; rfl; rfl; rfl) | (apply WL.nck; rfl; rfl; rfl) | (apply QL.nck; rfl; rfl; rfl) | (apply WL.ld; rfl; rfl; rfl; assumption; rfl) | (apply QL.ld; rfl; rfl; rfl; assumption; rfl) | (apply WL.ldA; rfl; rfl; rfl; assumption; rfl) | (apply QL.ldA; rfl; rfl; rfl; assumption; rfl) | (apply CW.block) | (apply EX.inN) | (apply CW.condT; rfl) | (apply CW.condF; rfl) | (apply CW.exit) | (apply EX.thenX) | (apply EX.inX) | (apply EX.inXne; rfl) | (apply CW.ret) | (apply EX.thenR) | (apply EX.inR) | (apply CW.skip) | (refine WL.lenO rfl rfl rfl (by assumption) ?_) | (apply WL.isNil; rfl; rfl; rfl) | (apply CW.draw; exact mixed; kernel_rfl)))
        refine WL.call rfl rfl rfl (cwrong_ok w6 hr6 3) ?_
        rintro _ w7 ⟨rfl, hf7, e7⟩
        (repeat (first | (apply WL.add; rfl; rfl; rfl; rfl; omega; omega) | (apply QL.add; rfl; rfl; rfl; rfl; omega; omega) | (apply WL.sub'; rfl; rfl; rfl; rfl; omega; omega) | (apply QL.sub'; rfl; rfl; rfl; rfl; omega; omega) | (apply WL.mul; rfl; rfl; rfl; rfl; omega; omega) | (apply QL.mul; rfl; rfl; rfl; rfl; omega; omega) | (apply WL.pure; rfl; rfl; rfl) | (apply QL.pure; rfl; rfl; rfl) | (apply WL.nil) | (apply EX.thenN) | (apply CW.seq) | (apply CW.region) | (apply WL.pass; rfl; rfl) | (apply QL.pass; rfl; rfl) | (apply WL.eqB; rfl; rfl; rfl; rfl) | (apply QL.eqB; rfl; rfl; rfl; rfl) | (apply WL.neB; rfl; rfl; rfl; rfl) | (apply QL.neB; rfl; rfl; rfl; rfl) | (apply WL.lenS; rfl; rfl; rfl) | (apply QL.lenS; rfl; rfl; rfl) | (apply WL.makeFunc; rfl; rfl; rfl; rfl) | (apply QL.makeFunc; rfl; rfl; rfl; rfl) | (apply WL.fa; rfl; rfl; rfl) | (apply QL.fa; rfl; rfl; rfl) | (apply WL.nck; rfl; rfl; rfl) | (apply QL.nck; rfl; rfl; rfl) | (apply WL.ld; rfl; rfl; rfl; assumption; rfl) | (apply QL.ld; rfl; rfl; rfl; assumption; rfl) | (apply WL.ldA; rfl; rfl; rfl; assumption; rfl) | (apply QL.ldA; rfl; rfl; rfl; assumption; rfl) | (apply CW.block) | (apply EX.inN) | (apply CW.condT; rfl) | (apply CW.condF; rfl) | (apply CW.exit) | (apply EX.thenX) | (apply EX.inX) | (apply EX.inXne; rfl) | (apply CW.ret) | (apply EX.thenR) | (apply EX.inR) | (apply CW.skip) | (refine WL.lenO rfl rfl rfl (by assumption) ?_) | (apply WL.isNil; rfl; rfl; rfl) | (apply CW.draw; exact mixed; kernel_rfl)))
        exact EX.cutI _ (by repeat (first | exact trivial | refine ⟨rfl, ?_⟩)) ⟨grown_tr hG (e7.grw _), e7.size, hb4.ext e7, hH.ext e7, .inr ⟨_, _, ⟨_, rfl, by omega, hf7⟩, if_pos h⟩⟩
      · have h : st1.1 = [] := by simpa using h
        (repeat (first | (apply WL.add; rfl; rfl; rfl; rfl; omega; omega) | (apply QL.add; rfl; rfl; rfl; rfl; omega; omega) | (apply WL.sub'; rfl; rfl; rfl; rfl; omega; omega) | (apply QL.sub'; rfl; rfl; rfl; rfl; omega; omega) | (apply WL.mul; rfl; rfl; rfl; rfl; omega; omega) | (apply QL.mul; rfl; rfl; rfl; rfl; omega; omega) | (apply WL.pure; rfl; rfl; rfl) | (apply QL.pure; rfl; rfl; rfl) | (apply WL.nil) | (apply EX.thenN) | (apply CW.seq) | (apply CW.region) | (apply WL.pass; rfl; rfl) | (apply QL.pass; rfl; rfl) | (apply WL.eqB; rfl; rfl; rfl; rfl) | (apply QL.eqB; rfl; rfl; rfl; rfl) | (apply WL.neB; rfl; rfl; rfl; rfl) | (apply QL.neB; rfl; rfl; rfl; rfl) | (apply WL.lenS; rfl; rfl; rfl) | (apply QL.lenS; rfl; rfl; rfl) | (apply WL.makeFunc; rfl; rfl; rfl; rfl) | (apply QL.makeFunc; rfl; rfl; rfl; rfl) | (apply WL.fa; rfl; rfl; rfl) | (apply QL.fa; rfl; rfl; rfl) | (apply WL.nck; rfl; rfl; rfl) | (apply QL.nck; rfl; rfl; rfl) | (apply WL.ld; rfl; rfl; rfl; assumption; rfl) | (apply QL.ld; rfl; rfl; rfl; assumption; rfl) | (apply WL.ldA; rfl; rfl; rfl; assumption; rfl) | (apply QL.ldA; rfl; rfl; rfl; assumption; rfl) | (apply CW.block) | (apply EX.inN) | (apply CW.condT; rfl) | (apply CW.condF; rfl) | (apply CW.exit) | (apply EX.thenX) | (apply EX.inX) | (apply EX.inXne; rfl) | (apply CW.ret) | (apply EX.thenR) | (apply EX.inR) | (apply CW.skip) | (refine WL.lenO rfl rfl rfl (by assumption) ?_) | (apply WL.isNil; rfl; rfl; rfl) | (apply CW.draw; exact mixed; kernel_rfl)))
        exact EX.cutI _ (by repeat (first | exact trivial | refine ⟨rfl, ?_⟩)) ⟨hG, Nat.le_refl _, hb4, hH, .inl ⟨rfl, rfl, h⟩⟩
    · rw [hF.err.2]
      (repeat (first | (apply WL.add; rfl; rfl; rfl; rfl; omega; omega) | (apply QL.add; rfl; rfl; rfl; rfl; omega; omega) | (apply WL.sub'; rfl; rfl; rfl; rfl; omega; omega) | (apply QL.sub'; rfl; rfl; rfl; rfl; omega; omega) | (apply WL.mul; rfl; rfl; rfl; rfl; omega; omega) | (apply QL.mul; rfl; rfl; rfl; rfl; omega; omega) | (apply WL.pure; rfl; rfl; rfl) | (apply QL.pure; rfl; rfl; rfl) | (apply WL.nil) | (apply EX.thenN) | (apply CW.seq) | (apply CW.region) | (apply WL.pass; rfl; rfl) | (apply QL.pass; rfl; rfl) | (apply WL.eqB; rfl; rfl; rfl; rfl) | (apply QL.eqB; rfl; rfl; rfl; rfl) | (apply WL.neB; rfl; rfl; rfl; rfl) | (apply QL.neB; rfl; rfl; rfl; rfl) | (apply WL.lenS; rfl; rfl; rfl) | (apply QL.lenS; rfl; rfl; rfl) | (apply WL.makeFunc; rfl; rfl; rfl; rfl) | (apply QL.makeFunc; rfl; rfl; rfl; rfl) | (apply WL.fa; rfl; rfl; rfl) | (apply QL.fa; rfl; rfl; rfl) | (apply WL.nck; rfl; rfl; rfl) | (apply QL.nck; rfl; rfl; rfl) | (apply WL.ld; rfl; rfl; rfl; assumption; rfl) | (apply QL.ld; rfl; rfl; rfl; assumption; rfl) | (apply WL.ldA; rfl; rfl; rfl; assumption; rfl) | (apply QL.ldA; rfl; rfl; rfl; assumption; rfl) | (apply CW.block) | (apply EX.inN) | (apply CW.condT; rfl) | (apply CW.condF; rfl) | (apply CW.exit) | (apply EX.thenX) | (apply EX.inX) | (apply EX.inXne; rfl) | (apply CW.ret) | (apply EX.thenR) | (apply EX.inR) | (apply CW.skip) | (refine WL.lenO rfl rfl rfl (by assumption) ?_) | (apply WL.isNil; rfl; rfl; rfl) | (apply CW.draw; exact mixed; kernel_rfl)))
      exact EX.cutI _ (by repeat (first | exact trivial | refine ⟨rfl, ?_⟩)) ⟨hG, Nat.le_refl _, hb4, hH, .inr ⟨c, a, hF, rfl⟩⟩
  clear hG hb4 hH hr6 hrb he hE6
  rintro e w7 ⟨hG, z7, hb4, hH, hI⟩
  have l87 := hH.lt
  have l47 := hb4.lt
  have h7 : ErrH w7 := h2.kept hG (fun e => by have := Option.some.inj e; omega)
  have hX : Ext w0 w7 := e12.grown hG e12.size (fun g hg => by cases hg; have := e1.size; omega)
  (repeat (first | (apply WL.add; rfl; rfl; rfl; rfl; omega; omega) | (apply QL.add; rfl; rfl; rfl; rfl; omega; omega) | (apply WL.sub'; rfl; rfl; rfl; rfl; omega; omega) | (apply QL.sub'; rfl; rfl; rfl; rfl; omega; omega) | (apply WL.mul; rfl; rfl; rfl; rfl; omega; omega) | (apply QL.mul; rfl; rfl; rfl; rfl; omega; omega) | (apply WL.pure; rfl; rfl; rfl) | (apply QL.pure; rfl; rfl; rfl) | (apply WL.nil) | (apply EX.thenN) | (apply CW.seq) | (apply CW.region) | (apply WL.pass; rfl; rfl) | (apply QL.pass; rfl; rfl) | (apply WL.eqB; rfl; rfl; rfl; rfl) | (apply QL.eqB; rfl; rfl; rfl; rfl) | (apply WL.neB; rfl; rfl; rfl; rfl) | (apply QL.neB; rfl; rfl; rfl; rfl) | (apply WL.lenS; rfl; rfl; rfl) | (apply QL.lenS; rfl; rfl; rfl) | (apply WL.makeFunc; rfl; rfl; rfl; rfl) | (apply QL.makeFunc; rfl; rfl; rfl; rfl) | (apply WL.fa; rfl; rfl; rfl) | (apply QL.fa; rfl; rfl; rfl) | (apply WL.nck; rfl; rfl; rfl) | (apply QL.nck; rfl; rfl; rfl) | (apply WL.ld; rfl; rfl; rfl; assumption; rfl) | (apply QL.ld; rfl; rfl; rfl; assumption; rfl) | (apply WL.ldA; rfl; rfl; rfl; assumption; rfl) | (apply QL.ldA; rfl; rfl; rfl; assumption; rfl) | (apply CW.block) | (apply EX.inN) | (apply CW.condT; rfl) | (apply CW.condF; rfl) | (apply CW.exit) | (apply EX.thenX) | (apply EX.inX) | (apply EX.inXne; rfl) | (apply CW.ret) | (apply EX.thenR) | (apply EX.inR) | (apply CW.skip) | (refine WL.lenO rfl rfl rfl (by assumption) ?_) | (apply WL.isNil; rfl; rfl; rfl) | (apply CW.draw; exact mixed; kernel_rfl)))
  refine WL.alloc rfl rfl (fun w8 hb10 e8 => ?_)
  have hb4 := hb4.ext e8
  have hH := hH.ext e8
  have h8 : ErrH w8 := h7.kept (e8.grw none) (by simp)
  have hX := hX.trans e8
  have l10 := hb10.lt
  have h710 : w0.heap.size < w7.heap.size := by omega
  have h810 : b8 < w7.heap.size := by omega
  (repeat (first | (apply WL.add; rfl; rfl; rfl; rfl; omega; omega) | (apply QL.add; rfl; rfl; rfl; rfl; omega; omega) | (apply WL.sub'; rfl; rfl; rfl; rfl; omega; omega) | (apply QL.sub'; rfl; rfl; rfl; rfl; omega; omega) | (apply WL.mul; rfl; rfl; rfl; rfl; omega; omega) | (apply QL.mul; rfl; rfl; rfl; rfl; omega; omega) | (apply WL.pure; rfl; rfl; rfl) | (apply QL.pure; rfl; rfl; rfl) | (apply WL.nil) | (apply EX.thenN) | (apply CW.seq) | (apply CW.region) | (apply WL.pass; rfl; rfl) | (apply QL.pass; rfl; rfl) | (apply WL.eqB; rfl; rfl; rfl; rfl) | (apply QL.eqB; rfl; rfl; rfl; rfl) | (apply WL.neB; rfl; rfl; rfl; rfl) | (apply QL.neB; rfl; rfl; rfl; rfl) | (apply WL.lenS; rfl; rfl; rfl) | (apply QL.lenS; rfl; rfl; rfl) | (apply WL.makeFunc; rfl; rfl; rfl; rfl) | (apply QL.makeFunc; rfl; rfl; rfl; rfl) | (apply WL.fa; rfl; rfl; rfl) | (apply QL.fa; rfl; rfl; rfl) | (apply WL.nck; rfl; rfl; rfl) | (apply QL.nck; rfl; rfl; rfl) | (apply WL.ld; rfl; rfl; rfl; assumption; rfl) | (apply QL.ld; rfl; rfl; rfl; assumption; rfl) | (apply WL.ldA; rfl; rfl; rfl; assumption; rfl) | (apply QL.ldA; rfl; rfl; rfl; assumption; rfl) | (apply CW.block) | (apply EX.inN) | (apply CW.condT; rfl) | (apply CW.condF; rfl) | (apply CW.exit) | (apply EX.thenX) | (apply EX.inX) | (apply EX.inXne; rfl) | (apply CW.ret) | (apply EX.thenR) | (apply EX.inR) | (apply CW.skip) | (refine WL.lenO rfl rfl rfl (by assumption) ?_) | (apply WL.isNil; rfl; rfl; rfl) | (apply CW.draw; exact mixed; kernel_rfl)))
  refine WL.mkIf rfl rfl rfl Tryd.underlying75 rfl ?_
  rcases hI with ⟨rfl, rfl, hst⟩ | ⟨c, a, hF, hR⟩
  · refine WL.call rfl rfl rfl (as_none w8 _) ?_
    rintro _ w9 ⟨rfl, rfl⟩
    dsimp only [finC]
    rw [if_neg (by simp [hst])]
    have hy := hH.gx
    obtain ⟨vo, vc, hb8, hsl⟩ := hH
    (repeat (first | (apply WL.add; rfl; rfl; rfl; rfl; omega; omega) | (apply QL.add; rfl; rfl; rfl; rfl; omega; omega) | (apply WL.sub'; rfl; rfl; rfl; rfl; omega; omega) | (apply QL.sub'; rfl; rfl; rfl; rfl; omega; omega) | (apply WL.mul; rfl; rfl; rfl; rfl; omega; omega) | (apply QL.mul; rfl; rfl; rfl; rfl; omega; omega) | (apply WL.pure; rfl; rfl; rfl) | (apply QL.pure; rfl; rfl; rfl) | (apply WL.nil) | (apply EX.thenN) | (apply CW.seq) | (apply CW.region) | (apply WL.pass; rfl; rfl) | (apply QL.pass; rfl; rfl) | (apply WL.eqB; rfl; rfl; rfl; rfl) | (apply QL.eqB; rfl; rfl; rfl; rfl) | (apply WL.neB; rfl; rfl; rfl; rfl) | (apply QL.neB; rfl; rfl; rfl; rfl) | (apply WL.lenS; rfl; rfl; rfl) | (apply QL.lenS; rfl; rfl; rfl) | (apply WL.makeFunc; rfl; rfl; rfl; rfl) | (apply QL.makeFunc; rfl; rfl; rfl; rfl) | (apply WL.fa; rfl; rfl; rfl) | (apply QL.fa; rfl; rfl; rfl) | (apply WL.nck; rfl; rfl; rfl) | (apply QL.nck; rfl; rfl; rfl) | (apply WL.ld; rfl; rfl; rfl; assumption; rfl) | (apply QL.ld; rfl; rfl; rfl; assumption; rfl) | (apply WL.ldA; rfl; rfl; rfl; assumption; rfl) | (apply QL.ldA; rfl; rfl; rfl; assumption; rfl) | (apply CW.block) | (apply EX.inN) | (apply CW.condT; rfl) | (apply CW.condF; rfl) | (apply CW.exit) | (apply EX.thenX) | (apply EX.inX) | (apply EX.inXne; rfl) | (apply CW.ret) | (apply EX.thenR) | (apply EX.inR) | (apply CW.skip) | (refine WL.lenO rfl rfl rfl (by assumption) ?_) | (apply WL.isNil; rfl; rfl; rfl) | (apply CW.draw; exact mixed; kernel_rfl)))
    refine WL.call rfl rfl rfl (ctlCheck w9 (t := t) (F := GXs w0.heap.size [b8, w0.heap.size] w9) hsl (fun b hb => hb.2.1)) ?_
    rintro _ w10 ⟨rfl, e10⟩
    have hb4 := hb4.ext e10
    have hb8 := hb8.ext e10
    have hX := hX.trans e10
    have hy : GX w0.heap.size [b8, w0.heap.size] w9 (ltlV t.k t.n vo t.kids.length vc) t := by
      cases t with
      | mk k n kids => exact Rd.mkLtl hsl
    have hy := hy.ext e10
    (repeat (first | (apply WL.add; rfl; rfl; rfl; rfl; omega; omega) | (apply QL.add; rfl; rfl; rfl; rfl; omega; omega) | (apply WL.sub'; rfl; rfl; rfl; rfl; omega; omega) | (apply QL.sub'; rfl; rfl; rfl; rfl; omega; omega) | (apply WL.mul; rfl; rfl; rfl; rfl; omega; omega) | (apply QL.mul; rfl; rfl; rfl; rfl; omega; omega) | (apply WL.pure; rfl; rfl; rfl) | (apply QL.pure; rfl; rfl; rfl) | (apply WL.nil) | (apply EX.thenN) | (apply CW.seq) | (apply CW.region) | (apply WL.pass; rfl; rfl) | (apply QL.pass; rfl; rfl) | (apply WL.eqB; rfl; rfl; rfl; rfl) | (apply QL.eqB; rfl; rfl; rfl; rfl) | (apply WL.neB; rfl; rfl; rfl; rfl) | (apply QL.neB; rfl; rfl; rfl; rfl) | (apply WL.lenS; rfl; rfl; rfl) | (apply QL.lenS; rfl; rfl; rfl) | (apply WL.makeFunc; rfl; rfl; rfl; rfl) | (apply QL.makeFunc; rfl; rfl; rfl; rfl) | (apply WL.fa; rfl; rfl; rfl) | (apply QL.fa; rfl; rfl; rfl) | (apply WL.nck; rfl; rfl; rfl) | (apply QL.nck; rfl; rfl; rfl) | (apply WL.ld; rfl; rfl; rfl; assumption; rfl) | (apply QL.ld; rfl; rfl; rfl; assumption; rfl) | (apply WL.ldA; rfl; rfl; rfl; assumption; rfl) | (apply QL.ldA; rfl; rfl; rfl; assumption; rfl) | (apply CW.block) | (apply EX.inN) | (apply CW.condT; rfl) | (apply CW.condF; rfl) | (apply CW.exit) | (apply EX.thenX) | (apply EX.inX) | (apply EX.inXne; rfl) | (apply CW.ret) | (apply EX.thenR) | (apply EX.inR) | (apply CW.skip) | (refine WL.lenO rfl rfl rfl (by assumption) ?_) | (apply WL.isNil; rfl; rfl; rfl) | (apply CW.draw; exact mixed; kernel_rfl)))
    refine CW.cond rfl (fun h => ?_) (fun h => ?_)
    · have h : (chkC t 1 0).1 ≠ 0 := by simpa using h
      rw [if_pos h]
      (repeat (first | (apply WL.add; rfl; rfl; rfl; rfl; omega; omega) | (apply QL.add; rfl; rfl; rfl; rfl; omega; omega) | (apply WL.sub'; rfl; rfl; rfl; rfl; omega; omega) | (apply QL.sub'; rfl; rfl; rfl; rfl; omega; omega) | (apply WL.mul; rfl; rfl; rfl; rfl; omega; omega) | (apply QL.mul; rfl; rfl; rfl; rfl; omega; omega) | (apply WL.pure; rfl; rfl; rfl) | (apply QL.pure; rfl; rfl; rfl) | (apply WL.nil) | (apply EX.thenN) | (apply CW.seq) | (apply CW.region) | (apply WL.pass; rfl; rfl) | (apply QL.pass; rfl; rfl) | (apply WL.eqB; rfl; rfl; rfl; rfl) | (apply QL.eqB; rfl; rfl; rfl; rfl) | (apply WL.neB; rfl; rfl; rfl; rfl) | (apply QL.neB; rfl; rfl; rfl; rfl) | (apply WL.lenS; rfl; rfl; rfl) | (apply QL.lenS; rfl; rfl; rfl) | (apply WL.makeFunc; rfl; rfl; rfl; rfl) | (apply QL.makeFunc; rfl; rfl; rfl; rfl) | (apply WL.fa; rfl; rfl; rfl) | (apply QL.fa; rfl; rfl; rfl) | (apply WL.nck; rfl; rfl; rfl) | (apply QL.nck; rfl; rfl; rfl) | (apply WL.ld; rfl; rfl; rfl; assumption; rfl) | (apply QL.ld; rfl; rfl; rfl; assumption; rfl) | (apply WL.ldA; rfl; rfl; rfl; assumption; rfl) | (apply QL.ldA; rfl; rfl; rfl; assumption; rfl) | (apply CW.block) | (apply EX.inN) | (apply CW.condT; rfl) | (apply CW.condF; rfl) | (apply CW.exit) | (apply EX.thenX) | (apply EX.inX) | (apply EX.inXne; rfl) | (apply CW.ret) | (apply EX.thenR) | (apply EX.inR) | (apply CW.skip) | (refine WL.lenO rfl rfl rfl (by assumption) ?_) | (apply WL.isNil; rfl; rfl; rfl) | (apply CW.draw; exact mixed; kernel_rfl)))
      refine WL.build (parts := []) rfl rfl rfl rfl ?_
      (repeat (first | (apply WL.add; rfl; rfl; rfl; rfl; omega; omega) | (apply QL.add; rfl; rfl; rfl; rfl; omega; omega) | (apply WL.sub'; rfl; rfl; rfl; rfl; omega; omega) | (apply QL.sub'; rfl; rfl; rfl; rfl; omega; omega) | (apply WL.mul; rfl; rfl; rfl; rfl; omega; omega) | (apply QL.mul; rfl; rfl; rfl; rfl; omega; omega) | (apply WL.pure; rfl; rfl; rfl) | (apply QL.pure; rfl; rfl; rfl) | (apply WL.nil) | (apply EX.thenN) | (apply CW.seq) | (apply CW.region) | (apply WL.pass; rfl; rfl) | (apply QL.pass; rfl; rfl) | (apply WL.eqB; rfl; rfl; rfl; rfl) | (apply QL.eqB; rfl; rfl; rfl; rfl) | (apply WL.neB; rfl; rfl; rfl; rfl) | (apply QL.neB; rfl; rfl; rfl; rfl) | (apply WL.lenS; rfl; rfl; rfl) | (apply QL.lenS; rfl; rfl; rfl) | (apply WL.makeFunc; rfl; rfl; rfl; rfl) | (apply QL.makeFunc; rfl; rfl; rfl; rfl) | (apply WL.fa; rfl; rfl; rfl) | (apply QL.fa; rfl; rfl; rfl) | (apply WL.nck; rfl; rfl; rfl) | (apply QL.nck; rfl; rfl; rfl) | (apply WL.ld; rfl; rfl; rfl; assumption; rfl) | (apply QL.ld; rfl; rfl; rfl; assumption; rfl) | (apply WL.ldA; rfl; rfl; rfl; assumption; rfl) | (apply QL.ldA; rfl; rfl; rfl; assumption; rfl) | (apply CW.block) | (apply EX.inN) | (apply CW.condT; rfl) | (apply CW.condF; rfl) | (apply CW.exit) | (apply EX.thenX) | (apply EX.inX) | (apply EX.inXne; rfl) | (apply CW.ret) | (apply EX.thenR) | (apply EX.inR) | (apply CW.skip) | (refine WL.lenO rfl rfl rfl (by assumption) ?_) | (apply WL.isNil; rfl; rfl; rfl) | (apply CW.draw; exact mixed; kernel_rfl)))
      refine WL.lenB rfl rfl rfl ?_
      (repeat (first | (apply WL.add; rfl; rfl; rfl; rfl; omega; omega) | (apply QL.add; rfl; rfl; rfl; rfl; omega; omega) | (apply WL.sub'; rfl; rfl; rfl; rfl; omega; omega) | (apply QL.sub'; rfl; rfl; rfl; rfl; omega; omega) | (apply WL.mul; rfl; rfl; rfl; rfl; omega; omega) | (apply QL.mul; rfl; rfl; rfl; rfl; omega; omega) | (apply WL.pure; rfl; rfl; rfl) | (apply QL.pure; rfl; rfl; rfl) | (apply WL.nil) | (apply EX.thenN) | (apply CW.seq) | (apply CW.region) | (apply WL.pass; rfl; rfl) | (apply QL.pass; rfl; rfl) | (apply WL.eqB; rfl; rfl; rfl; rfl) | (apply QL.eqB; rfl; rfl; rfl; rfl) | (apply WL.neB; rfl; rfl; rfl; rfl) | (apply QL.neB; rfl; rfl; rfl; rfl) | (apply WL.lenS; rfl; rfl; rfl) | (apply QL.lenS; rfl; rfl; rfl) | (apply WL.makeFunc; rfl; rfl; rfl; rfl) | (apply QL.makeFunc; rfl; rfl; rfl; rfl) | (apply WL.fa; rfl; rfl; rfl) | (apply QL.fa; rfl; rfl; rfl) | (apply WL.nck; rfl; rfl; rfl) | (apply QL.nck; rfl; rfl; rfl) | (apply WL.ld; rfl; rfl; rfl; assumption; rfl) | (apply QL.ld; rfl; rfl; rfl; assumption; rfl) | (apply WL.ldA; rfl; rfl; rfl; assumption; rfl) | (apply QL.ldA; rfl; rfl; rfl; assumption; rfl) | (apply CW.block) | (apply EX.inN) | (apply CW.condT; rfl) | (apply CW.condF; rfl) | (apply CW.exit) | (apply EX.thenX) | (apply EX.inX) | (apply EX.inXne; rfl) | (apply CW.ret) | (apply EX.thenR) | (apply EX.inR) | (apply CW.skip) | (refine WL.lenO rfl rfl rfl (by assumption) ?_) | (apply WL.isNil; rfl; rfl; rfl) | (apply CW.draw; exact mixed; kernel_rfl)))
      refine WL.st rfl rfl rfl hb4 rfl rfl (ones_of rfl) (fun w11 hb11 hg11 => ?_)
      (repeat (first | (apply WL.add; rfl; rfl; rfl; rfl; omega; omega) | (apply QL.add; rfl; rfl; rfl; rfl; omega; omega) | (apply WL.sub'; rfl; rfl; rfl; rfl; omega; omega) | (apply QL.sub'; rfl; rfl; rfl; rfl; omega; omega) | (apply WL.mul; rfl; rfl; rfl; rfl; omega; omega) | (apply QL.mul; rfl; rfl; rfl; rfl; omega; omega) | (apply WL.pure; rfl; rfl; rfl) | (apply QL.pure; rfl; rfl; rfl) | (apply WL.nil) | (apply EX.thenN) | (apply CW.seq) | (apply CW.region) | (apply WL.pass; rfl; rfl) | (apply QL.pass; rfl; rfl) | (apply WL.eqB; rfl; rfl; rfl; rfl) | (apply QL.eqB; rfl; rfl; rfl; rfl) | (apply WL.neB; rfl; rfl; rfl; rfl) | (apply QL.neB; rfl; rfl; rfl; rfl) | (apply WL.lenS; rfl; rfl; rfl) | (apply QL.lenS; rfl; rfl; rfl) | (apply WL.makeFunc; rfl; rfl; rfl; rfl) | (apply QL.makeFunc; rfl; rfl; rfl; rfl) | (apply WL.fa; rfl; rfl; rfl) | (apply QL.fa; rfl; rfl; rfl) | (apply WL.nck; rfl; rfl; rfl) | (apply QL.nck; rfl; rfl; rfl) | (apply WL.ld; rfl; rfl; rfl; assumption; rfl) | (apply QL.ld; rfl; rfl; rfl; assumption; rfl) | (apply WL.ldA; rfl; rfl; rfl; assumption; rfl) | (apply QL.ldA; rfl; rfl; rfl; assumption; rfl) | (apply CW.block) | (apply EX.inN) | (apply CW.condT; rfl) | (apply CW.condF; rfl) | (apply CW.exit) | (apply EX.thenX) | (apply EX.inX) | (apply EX.inXne; rfl) | (apply CW.ret) | (apply EX.thenR) | (apply EX.inR) | (apply CW.skip) | (refine WL.lenO rfl rfl rfl (by assumption) ?_) | (apply WL.isNil; rfl; rfl; rfl) | (apply CW.draw; exact mixed; kernel_rfl)))
      exact EX.retC3 rfl rfl rfl rfl hb11 rfl ⟨_, rfl, GL.zero 0 0, hX.grown hg11 hX.size (fun g hg => by cases hg; exact Nat.le_refl _)⟩
    · have h : (chkC t 1 0).1 = 0 := by simpa using h
      rw [if_neg (by simp [h])]
      (repeat (first | (apply WL.add; rfl; rfl; rfl; rfl; omega; omega) | (apply QL.add; rfl; rfl; rfl; rfl; omega; omega) | (apply WL.sub'; rfl; rfl; rfl; rfl; omega; omega) | (apply QL.sub'; rfl; rfl; rfl; rfl; omega; omega) | (apply WL.mul; rfl; rfl; rfl; rfl; omega; omega) | (apply QL.mul; rfl; rfl; rfl; rfl; omega; omega) | (apply WL.pure; rfl; rfl; rfl) | (apply QL.pure; rfl; rfl; rfl) | (apply WL.nil) | (apply EX.thenN) | (apply CW.seq) | (apply CW.region) | (apply WL.pass; rfl; rfl) | (apply QL.pass; rfl; rfl) | (apply WL.eqB; rfl; rfl; rfl; rfl) | (apply QL.eqB; rfl; rfl; rfl; rfl) | (apply WL.neB; rfl; rfl; rfl; rfl) | (apply QL.neB; rfl; rfl; rfl; rfl) | (apply WL.lenS; rfl; rfl; rfl) | (apply QL.lenS; rfl; rfl; rfl) | (apply WL.makeFunc; rfl; rfl; rfl; rfl) | (apply QL.makeFunc; rfl; rfl; rfl; rfl) | (apply WL.fa; rfl; rfl; rfl) | (apply QL.fa; rfl; rfl; rfl) | (apply WL.nck; rfl; rfl; rfl) | (apply QL.nck; rfl; rfl; rfl) | (apply WL.ld; rfl; rfl; rfl; assumption; rfl) | (apply QL.ld; rfl; rfl; rfl; assumption; rfl) | (apply WL.ldA; rfl; rfl; rfl; assumption; rfl) | (apply QL.ldA; rfl; rfl; rfl; assumption; rfl) | (apply CW.block) | (apply EX.inN) | (apply CW.condT; rfl) | (apply CW.condF; rfl) | (apply CW.exit) | (apply EX.thenX) | (apply EX.inX) | (apply EX.inXne; rfl) | (apply CW.ret) | (apply EX.thenR) | (apply EX.inR) | (apply CW.skip) | (refine WL.lenO rfl rfl rfl (by assumption) ?_) | (apply WL.isNil; rfl; rfl; rfl) | (apply CW.draw; exact mixed; kernel_rfl)))
      refine WL.st rfl rfl rfl hb4 rfl rfl (ones_of rfl) (fun w11 hb11 hg11 => ?_)
      (repeat (first | (apply WL.add; rfl; rfl; rfl; rfl; omega; omega) | (apply QL.add; rfl; rfl; rfl; rfl; omega; omega) | (apply WL.sub'; rfl; rfl; rfl; rfl; omega; omega) | (apply QL.sub'; rfl; rfl; rfl; rfl; omega; omega) | (apply WL.mul; rfl; rfl; rfl; rfl; omega; omega) | (apply QL.mul; rfl; rfl; rfl; rfl; omega; omega) | (apply WL.pure; rfl; rfl; rfl) | (apply QL.pure; rfl; rfl; rfl) | (apply WL.nil) | (apply EX.thenN) | (apply CW.seq) | (apply CW.region) | (apply WL.pass; rfl; rfl) | (apply QL.pass; rfl; rfl) | (apply WL.eqB; rfl; rfl; rfl; rfl) | (apply QL.eqB; rfl; rfl; rfl; rfl) | (apply WL.neB; rfl; rfl; rfl; rfl) | (apply QL.neB; rfl; rfl; rfl; rfl) | (apply WL.lenS; rfl; rfl; rfl) | (apply QL.lenS; rfl; rfl; rfl) | (apply WL.makeFunc; rfl; rfl; rfl; rfl) | (apply QL.makeFunc; rfl; rfl; rfl; rfl) | (apply WL.fa; rfl; rfl; rfl) | (apply QL.fa; rfl; rfl; rfl) | (apply WL.nck; rfl; rfl; rfl) | (apply QL.nck; rfl; rfl; rfl) | (apply WL.ld; rfl; rfl; rfl; assumption; rfl) | (apply QL.ld; rfl; rfl; rfl; assumption; rfl) | (apply WL.ldA; rfl; rfl; rfl; assumption; rfl) | (apply QL.ldA; rfl; rfl; rfl; assumption; rfl) | (apply CW.block) | (apply EX.inN) | (apply CW.condT; rfl) | (apply CW.condF; rfl) | (apply CW.exit) | (apply EX.thenX) | (apply EX.inX) | (apply EX.inXne; rfl) | (apply CW.ret) | (apply EX.thenR) | (apply EX.inR) | (apply CW.skip) | (refine WL.lenO rfl rfl rfl (by assumption) ?_) | (apply WL.isNil; rfl; rfl; rfl) | (apply CW.draw; exact mixed; kernel_rfl)))
      exact EX.retC3 rfl rfl rfl rfl hb11 rfl ⟨_, rfl, (hy.st hg11 (.inr (by simp))).gl, hX.grown hg11 hX.size (fun g hg => by cases hg; exact Nat.le_refl _)⟩
  · obtain ⟨fb, rfl, hfB, hfb⟩ := hF.ext e8
    have lfb : fb < w7.heap.size := by
      obtain ⟨fb', e', _, h'⟩ := hF
      cases e'
      exact h'.lt
    refine WL.call rfl rfl rfl (as_fault w8 h8 hb10) ?_
    rintro _ w9 ⟨rfl, hb109, hg9⟩
    have hb4 := hb4.kept hg9 (fun e => by have := Option.some.inj e; omega)
    have hfb := hfb.kept hg9 (fun e => by have := Option.some.inj e; omega)
    have hX : Ext w0 w9 := hX.grown hg9 hX.size (fun g hg => by cases hg; omega)
    have hD := Ext.drew w9
    have hb4 := hb4.ext hD
    have hfb := hfb.ext hD
    have hb10 := hb109.ext hD
    have hX := hX.trans hD
    generalize hB10 : w7.heap.size = b10 at *
    clear hb109 hg9 h8 h7 hF hH
    rw [hR]
    (repeat (first | (apply WL.add; rfl; rfl; rfl; rfl; omega; omega) | (apply QL.add; rfl; rfl; rfl; rfl; omega; omega) | (apply WL.sub'; rfl; rfl; rfl; rfl; omega; omega) | (apply QL.sub'; rfl; rfl; rfl; rfl; omega; omega) | (apply WL.mul; rfl; rfl; rfl; rfl; omega; omega) | (apply QL.mul; rfl; rfl; rfl; rfl; omega; omega) | (apply WL.pure; rfl; rfl; rfl) | (apply QL.pure; rfl; rfl; rfl) | (apply WL.nil) | (apply EX.thenN) | (apply CW.seq) | (apply CW.region) | (apply WL.pass; rfl; rfl) | (apply QL.pass; rfl; rfl) | (apply WL.eqB; rfl; rfl; rfl; rfl) | (apply QL.eqB; rfl; rfl; rfl; rfl) | (apply WL.neB; rfl; rfl; rfl; rfl) | (apply QL.neB; rfl; rfl; rfl; rfl) | (apply WL.lenS; rfl; rfl; rfl) | (apply QL.lenS; rfl; rfl; rfl) | (apply WL.makeFunc; rfl; rfl; rfl; rfl) | (apply QL.makeFunc; rfl; rfl; rfl; rfl) | (apply WL.fa; rfl; rfl; rfl) | (apply QL.fa; rfl; rfl; rfl) | (apply WL.nck; rfl; rfl; rfl) | (apply QL.nck; rfl; rfl; rfl) | (apply WL.ld; rfl; rfl; rfl; assumption; rfl) | (apply QL.ld; rfl; rfl; rfl; assumption; rfl) | (apply WL.ldA; rfl; rfl; rfl; assumption; rfl) | (apply QL.ldA; rfl; rfl; rfl; assumption; rfl) | (apply CW.block) | (apply EX.inN) | (apply CW.condT; rfl) | (apply CW.condF; rfl) | (apply CW.exit) | (apply EX.thenX) | (apply EX.inX) | (apply EX.inXne; rfl) | (apply CW.ret) | (apply EX.thenR) | (apply EX.inR) | (apply CW.skip) | (refine WL.lenO rfl rfl rfl (by assumption) ?_) | (apply WL.isNil; rfl; rfl; rfl)))
    refine CW.drawH (fun z : World => z.heap[b10]? = (drew w9).heap[b10]? ∧ z.heap[fb]? = (drew w9).heap[fb]?) [(0, true), (1, true), (2, true), (3, true), (4, true), (5, true), (6, true), (7, true), (8, true), (9, false), (10, true), (11, true)] mixed (by kernel_rfl) ⟨rfl, rfl⟩ ?_
    refine HL.build (parts := []) rfl rfl rfl rfl rfl ?_
    refine HL.ldS (fun z hz => hz.1.trans hb10) rfl rfl rfl rfl rfl ?_
    (repeat (first | (apply HL.add; rfl; rfl; rfl; rfl; rfl; omega; omega) | (apply HL.sub'; rfl; rfl; rfl; rfl; rfl; omega; omega) | (apply HL.pure; rfl; rfl; rfl; rfl) | (apply HL.pass; rfl; rfl; rfl) | (refine HL.fa rfl rfl rfl rfl ?_) | (apply HL.nck; rfl; rfl; rfl; rfl) | (refine HL.ld (by assumption) rfl rfl rfl rfl (by assumption) rfl ?_) | (refine HL.ldK (by assumption) rfl rfl rfl rfl (by assumption) rfl ?_) | (refine HL.ldA (by assumption) rfl rfl rfl rfl (by assumption) rfl ?_) | (refine HL.lenS rfl rfl rfl rfl ?_) | (refine HL.eqB rfl rfl rfl rfl rfl ?_) | (refine HL.neB rfl rfl rfl rfl rfl ?_) | (refine HL.build rfl rfl rfl rfl rfl ?_) | (apply HL.makeFunc; rfl; rfl; rfl; rfl; rfl) | (apply HL.nil)))
    refine HL.ldS (fun z hz => hz.2.trans hfb) rfl rfl rfl rfl rfl ?_
    refine HL.ldS (fun z hz => hz.1.trans hb10) rfl rfl rfl rfl rfl ?_
    (repeat (first | (apply HL.add; rfl; rfl; rfl; rfl; rfl; omega; omega) | (apply HL.sub'; rfl; rfl; rfl; rfl; rfl; omega; omega) | (apply HL.pure; rfl; rfl; rfl; rfl) | (apply HL.pass; rfl; rfl; rfl) | (refine HL.fa rfl rfl rfl rfl ?_) | (apply HL.nck; rfl; rfl; rfl; rfl) | (refine HL.ld (by assumption) rfl rfl rfl rfl (by assumption) rfl ?_) | (refine HL.ldK (by assumption) rfl rfl rfl rfl (by assumption) rfl ?_) | (refine HL.ldA (by assumption) rfl rfl rfl rfl (by assumption) rfl ?_) | (refine HL.lenS rfl rfl rfl rfl ?_) | (refine HL.eqB rfl rfl rfl rfl rfl ?_) | (refine HL.neB rfl rfl rfl rfl rfl ?_) | (refine HL.build rfl rfl rfl rfl rfl ?_) | (apply HL.makeFunc; rfl; rfl; rfl; rfl; rfl) | (apply HL.nil)))
    refine HL.ldS (fun z hz => hz.2.trans hfb) rfl rfl rfl rfl rfl ?_
    refine HL.mut rfl (WL.st rfl rfl rfl hb4 rfl rfl (ones_of rfl) (fun w11 hb11 hg11 => ?_))
    refine WL.nil (EX.mut ⟨hg11.block _ hb10.lt (fun e => by have := Option.some.inj e; omega), hg11.block _ hfb.lt (fun e => hfb.neT hb4 (by decide) (Option.some.inj e))⟩ ?_)
    (repeat (first | (apply HL.add; rfl; rfl; rfl; rfl; rfl; omega; omega) | (apply HL.sub'; rfl; rfl; rfl; rfl; rfl; omega; omega) | (apply HL.pure; rfl; rfl; rfl; rfl) | (apply HL.pass; rfl; rfl; rfl) | (refine HL.fa rfl rfl rfl rfl ?_) | (apply HL.nck; rfl; rfl; rfl; rfl) | (refine HL.ld (by assumption) rfl rfl rfl rfl (by assumption) rfl ?_) | (refine HL.ldK (by assumption) rfl rfl rfl rfl (by assumption) rfl ?_) | (refine HL.ldA (by assumption) rfl rfl rfl rfl (by assumption) rfl ?_) | (refine HL.lenS rfl rfl rfl rfl ?_) | (refine HL.eqB rfl rfl rfl rfl rfl ?_) | (refine HL.neB rfl rfl rfl rfl rfl ?_) | (refine HL.build rfl rfl rfl rfl rfl ?_) | (apply HL.makeFunc; rfl; rfl; rfl; rfl; rfl) | (apply HL.nil)))
    (repeat (first | (apply WL.add; rfl; rfl; rfl; rfl; omega; omega) | (apply QL.add; rfl; rfl; rfl; rfl; omega; omega) | (apply WL.sub'; rfl; rfl; rfl; rfl; omega; omega) | (apply QL.sub'; rfl; rfl; rfl; rfl; omega; omega) | (apply WL.mul; rfl; rfl; rfl; rfl; omega; omega) | (apply QL.mul; rfl; rfl; rfl; rfl; omega; omega) | (apply WL.pure; rfl; rfl; rfl) | (apply QL.pure; rfl; rfl; rfl) | (apply WL.nil) | (apply EX.thenN) | (apply CW.seq) | (apply CW.region) | (apply WL.pass; rfl; rfl) | (apply QL.pass; rfl; rfl) | (apply WL.eqB; rfl; rfl; rfl; rfl) | (apply QL.eqB; rfl; rfl; rfl; rfl) | (apply WL.neB; rfl; rfl; rfl; rfl) | (apply QL.neB; rfl; rfl; rfl; rfl) | (apply WL.lenS; rfl; rfl; rfl) | (apply QL.lenS; rfl; rfl; rfl) | (apply WL.makeFunc; rfl; rfl; rfl; rfl) | (apply QL.makeFunc; rfl; rfl; rfl; rfl) | (apply WL.fa; rfl; rfl; rfl) | (apply QL.fa; rfl; rfl; rfl) | (apply WL.nck; rfl; rfl; rfl) | (apply QL.nck; rfl; rfl; rfl) | (apply WL.ld; rfl; rfl; rfl; assumption; rfl) | (apply QL.ld; rfl; rfl; rfl; assumption; rfl) | (apply WL.ldA; rfl; rfl; rfl; assumption; rfl) | (apply QL.ldA; rfl; rfl; rfl; assumption; rfl) | (apply CW.block) | (apply EX.inN) | (apply CW.condT; rfl) | (apply CW.condF; rfl) | (apply CW.exit) | (apply EX.thenX) | (apply EX.inX) | (apply EX.inXne; rfl) | (apply CW.ret) | (apply EX.thenR) | (apply EX.inR) | (apply CW.skip) | (refine WL.lenO rfl rfl rfl (by assumption) ?_) | (apply WL.isNil; rfl; rfl; rfl) | (apply CW.draw; exact mixed; kernel_rfl)))
    exact EX.retC3 rfl rfl rfl rfl hb11 rfl ⟨_, rfl, GL.zero 0 0, hX.grown hg11 hX.size (fun g hg => by cases hg; exact Nat.le_refl _)⟩
end Go.Proofs.YtikigaeihdmcaaaDoor

/-
  Package push walked, second part: Same, SameLtl, Size.
-/
set_option linter.unusedVariables false
set_option linter.unusedSimpArgs false
namespace Go.Proofs.YtikigaeihdmcaaaDoor
open Go.RowKit

end Go.Proofs.YtikigaeihdmcaaaDoor

