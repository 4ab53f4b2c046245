/-
  Statements whose order is open, where every operation only reads or calls what only makes memory. Over any program.
-/
import Derived.Test.YthojdcbpglipeaaOwn
import Derived.Laws.Cover3
set_option linter.unusedVariables false
set_option linter.unusedSimpArgs false
namespace Go.Proofs.Ythojdcbpglipeaa
open Go.RowKit

@[irreducible] def QL (P : Program) (ops : List Oper) (w : World) (Q : Exit → Act → World → Prop) (l : List Oper) (n : Nat) (σ : Sg) : Prop :=
  ∀ a, Fr n σ a → wpQuiet P ops.toArray (fun w' => Ext w w') (fun a' => ∀ w', Ext w w' → Q .normal a' w') l a

section
variable {P : Program} {Q : Exit → Act → World → Prop} {n : Nat} {σ : Sg} {w : World} {L rest : List Oper} {d : Nat} {op : Op} {ty : TypeId} {pos : String} {af : Array Edge} {g : Option (Nat × Bool)}

theorem CW.draw {id : Nat} {l : List Oper} (hm : P.follows .mixedOrders = true) (hB : Region.lexB .any l.toArray = true) (h : QL P l w Q l n σ) : CW P (.region id l.toArray true) Q n σ w := by
  unfold CW; unfold QL at h; intro a ha
  exact wp_region_quiet (C := fun w' => Ext w w') hm hB ⟨rfl, rfl, rfl, Nat.le_refl _, fun _ _ => rfl⟩ (by simpa using h a ha)
theorem QL.nil {l : List Oper} (h : ∀ w', Ext w w' → EX Q .normal n σ w') : QL P l w Q [] n σ := by
  unfold QL; unfold EX at h; intro a ha
  exact wpQuiet_nil (fun w' hw' => h w' hw' a ha)
theorem QL.run {v : Value} (hg : gd L σ ⟨some d, op, ty, pos, af, g⟩ = some true) (hd : Nat.ble (d + 1) n = true)
    (hr : ∀ a, Fr n σ a → ∀ w', Ext w w' → (execOp a.eval ⟨some d, op, ty, pos, af, g⟩).run P w' = .ok (.value v) w') (h : QL P L w Q rest n ((d, v) :: σ)) : QL P L w Q (⟨some d, op, ty, pos, af, g⟩ :: rest) n σ := by
  unfold QL at *
  intro a ha
  refine wpQuiet_step fun K hK => ?_
  rw [gd_wanted ha hg, if_pos rfl]
  refine ⟨v, fun w' hw' => ?_, hK _ (h _ (ha.put (d := some d) hd))⟩
  unfold Oper.quietAt
  rw [hr a ha w' hw']
  exact ⟨rfl, rfl⟩
theorem QL.pure {v : Value} (hg : gd L σ ⟨some d, op, ty, pos, af, g⟩ = some true) (hd : Nat.ble (d + 1) n = true)
    (hv : pureOp σ op = some v) (h : QL P L w Q rest n ((d, v) :: σ)) : QL P L w Q (⟨some d, op, ty, pos, af, g⟩ :: rest) n σ :=
  QL.run hg hd (fun a ha _ _ => pureOp_run ha hv) h
theorem QL.pass (hg : gd L σ ⟨some d, op, ty, pos, af, g⟩ = some false) (hd : Nat.ble (d + 1) n = true) (h : QL P L w Q rest n ((d, undef) :: σ)) : QL P L w Q (⟨some d, op, ty, pos, af, g⟩ :: rest) n σ := by
  unfold QL at *
  intro a ha
  refine wpQuiet_step fun K hK => ?_
  rw [gd_wanted ha hg, if_neg (by simp)]
  exact hK _ (h _ (ha.put (d := some d) hd))
theorem QL.look {s : Nat} {b : Bool} (hs : fnd σ s = some (.bool b)) (ht : b = true → QL P L w Q rest n ((s, .bool true) :: σ)) (hf : b = false → QL P L w Q rest n ((s, .bool false) :: σ)) : QL P L w Q rest n σ := by
  unfold QL at *
  intro a ha
  cases b with
  | true => exact ht rfl a (ha.set hs)
  | false => exact hf rfl a (ha.set hs)
theorem QL.lookG {dd : Option Nat} {j s : Nat} {want b : Bool} (hj : gslot L j = some s) (hs : fnd σ s = some (.bool b)) (ht : b = true → QL P L w Q (⟨dd, op, ty, pos, af, some (j, want)⟩ :: rest) n ((s, .bool true) :: σ))
    (hf : b = false → QL P L w Q (⟨dd, op, ty, pos, af, some (j, want)⟩ :: rest) n ((s, .bool false) :: σ)) : QL P L w Q (⟨dd, op, ty, pos, af, some (j, want)⟩ :: rest) n σ := QL.look hs ht hf
theorem QL.lookP {s : Nat} {x y : Operand} {b : Bool} (hs : fnd σ s = some (.bool b)) (ht : b = true → QL P L w Q (⟨some d, .pick (.tmp s) x y, ty, pos, af, g⟩ :: rest) n ((s, .bool true) :: σ))
    (hf : b = false → QL P L w Q (⟨some d, .pick (.tmp s) x y, ty, pos, af, g⟩ :: rest) n ((s, .bool false) :: σ)) : QL P L w Q (⟨some d, .pick (.tmp s) x y, ty, pos, af, g⟩ :: rest) n σ := QL.look hs ht hf
theorem QL.add {t yt : TypeId} {x y : Operand} {a b : Int} (hg : gd L σ ⟨some d, .binOp .add t x y yt, ty, pos, af, g⟩ = some true) (hd : Nat.ble (d + 1) n = true)
    (hx : ev σ x = some (.int .i64 a)) (hy : ev σ y = some (.int .i64 b)) (h0 : -9223372036854775808 ≤ a + b) (h1 : a + b < 9223372036854775808) (h : QL P L w Q rest n ((d, .int .i64 (a + b)) :: σ)) : QL P L w Q (⟨some d, .binOp .add t x y yt, ty, pos, af, g⟩ :: rest) n σ := by
  refine QL.pure hg hd (v := .int .i64 (a + b)) ?_ h
  simp only [pureOp, hx, hy, pbin]
  rw [wrap_in h0 h1]
theorem QL.sub' {t yt : TypeId} {x y : Operand} {a b : Int} (hg : gd L σ ⟨some d, .binOp .sub t x y yt, ty, pos, af, g⟩ = some true) (hd : Nat.ble (d + 1) n = true)
    (hx : ev σ x = some (.int .i64 a)) (hy : ev σ y = some (.int .i64 b)) (h0 : -9223372036854775808 ≤ a - b) (h1 : a - b < 9223372036854775808) (h : QL P L w Q rest n ((d, .int .i64 (a - b)) :: σ)) : QL P L w Q (⟨some d, .binOp .sub t x y yt, ty, pos, af, g⟩ :: rest) n σ := by
  refine QL.pure hg hd (v := .int .i64 (a - b)) ?_ h
  simp only [pureOp, hx, hy, pbin]
  rw [wrap_in h0 h1]
theorem QL.mul {t yt : TypeId} {x y : Operand} {a b : Int} (hg : gd L σ ⟨some d, .binOp .mul t x y yt, ty, pos, af, g⟩ = some true) (hd : Nat.ble (d + 1) n = true)
    (hx : ev σ x = some (.int .i64 a)) (hy : ev σ y = some (.int .i64 b)) (h0 : -9223372036854775808 ≤ a * b) (h1 : a * b < 9223372036854775808) (h : QL P L w Q rest n ((d, .int .i64 (a * b)) :: σ)) : QL P L w Q (⟨some d, .binOp .mul t x y yt, ty, pos, af, g⟩ :: rest) n σ := by
  refine QL.pure hg hd (v := .int .i64 (a * b)) ?_ h
  simp only [pureOp, hx, hy, pbin]
  rw [wrap_in h0 h1]
theorem QL.makeFunc {fn : Fn} {fs cs : List Operand} {fv cv : List Value} (hg : gd L σ ⟨some d, .makeFunc fn fs.toArray cs.toArray, ty, pos, af, g⟩ = some true) (hd : Nat.ble (d + 1) n = true)
    (hf : evs σ fs = some fv) (hc : evs σ cs = some cv) (h : QL P L w Q rest n ((d, .func fn fv.toArray cv.toArray) :: σ)) : QL P L w Q (⟨some d, .makeFunc fn fs.toArray cs.toArray, ty, pos, af, g⟩ :: rest) n σ := by
  refine QL.run hg hd (fun a ha _ _ => ?_) h
  have e1 := evs_eq ha fs fv hf
  have e2 := evs_eq ha cs cv hc
  simp [execOp, Instr.makeFunc, e1, e2]
theorem QL.lenS {t e : TypeId} {x : Operand} {ao : Option Addr} {k cap : Nat} (hg : gd L σ ⟨some d, .call ⟨.builtin .len, #[x], #[t]⟩, ty, pos, af, g⟩ = some true) (hd : Nat.ble (d + 1) n = true)
    (hx : ev σ x = some (.slice ao k cap)) [hs : IsS P t e] (h : QL P L w Q rest n ((d, .int .i64 (k : Int)) :: σ)) : QL P L w Q (⟨some d, .call ⟨.builtin .len, #[x], #[t]⟩, ty, pos, af, g⟩ :: rest) n σ := by
  refine QL.run hg hd (fun a ha _ _ => ?_) h
  simp [execOp, resolve, invoke, builtin, ha.ev hx, Builtin.len_, run_underlying hs.ok, goInt]
theorem QL.idx {α : Type} [Rep α] {t e : TypeId} {x ix : Operand} {b off : Nat} {k cap : Nat} {i : Int} {kd : IntKind} (hg : gd L σ ⟨some d, .indexAddr t x ix, ty, pos, af, g⟩ = some true) (hd : Nat.ble (d + 1) n = true)
    (hx : ev σ x = some (.slice (some ⟨b, off, none⟩) k cap)) (hi : ev σ ix = some (.int kd i)) [hs : IsS P t e] [ht : IsT P e α] (h0 : 0 ≤ i) (h1 : i < k)
    (h : QL P L w Q rest n ((d, .pointer (some ⟨b, off + i.toNat * sz α, none⟩)) :: σ)) : QL P L w Q (⟨some d, .indexAddr t x ix, ty, pos, af, g⟩ :: rest) n σ := by
  refine QL.run hg hd (fun a ha _ _ => ?_) h
  simp [execOp, ha.ev hx, ha.ev hi, Instr.indexAt, asIntOf, run_underlying hs.ok, h0, h1, run_sizeOf (α := α), WideShapes.add_plain]
theorem QL.load {α : Type} [Rep α] {t : TypeId} {x : Operand} {b off : Nat} {F : Nat → Prop} {cs : List Value} {y : α} (hg : gd L σ ⟨some d, .load t x, ty, pos, af, g⟩ = some true) (hd : Nat.ble (d + 1) n = true)
    (hx : ev σ x = some (.pointer (some ⟨b, off, none⟩))) [ht : IsT P t α] (hb : b < w.heap.size) (hF : ∀ b, F b → b < w.heap.size) (hc : Cells w b off cs) (hr : rd w F cs y)
    (h : QL P L w Q rest n ((d, vOf α cs) :: σ)) : QL P L w Q (⟨some d, .load t x, ty, pos, af, g⟩ :: rest) n σ := by
  refine QL.run hg hd (fun a ha w' hw' => ?_) h
  have hc' : Cells w' b off cs := hc.mono (hw'.block b hb)
  have hr' : rd w' F cs y := Rep.mono hr (fun k hk => hw'.block k (hF k hk)) fun _ h => h
  simp [execOp, ha.ev hx, Instr.loadAt, Instr.sureAddr, run_loadAt hc' hr']
/-- x[i], read -/
theorem QL.elem {α : Type} [Rep α] {t e : TypeId} {x ix : Operand} {ao : Option Addr} {cap d' : Nat} {xs : List α} {F : Nat → Prop} {i : Int} {kd : IntKind} {ty' : TypeId} {pos' : String} {af' : Array Edge} {g' : Option (Nat × Bool)}
    (hg : gd L σ ⟨some d, .indexAddr t x ix, ty, pos, af, g⟩ = some true) (hd : Nat.ble (d + 1) n = true) (hd' : Nat.ble (d' + 1) n = true)
    (hx : ev σ x = some (.slice ao xs.length cap)) (hi : ev σ ix = some (.int kd i)) [hs : IsS P t e] [ht : IsT P e α] (hF : ∀ b, F b → b < w.heap.size) (hsl : Sl w F ao cap xs) (h0 : 0 ≤ i) (h1 : i < xs.length)
    (hg' : ∀ p, gd L ((d, .pointer p) :: σ) ⟨some d', .load e (.tmp d), ty', pos', af', g'⟩ = some true)
    (h : ∀ u p, Rd w F u (xs[i.toNat]'(by omega)) → QL P L w Q rest n ((d', u) :: (d, .pointer p) :: σ)) :
    QL P L w Q (⟨some d, .indexAddr t x ix, ty, pos, af, g⟩ :: ⟨some d', .load e (.tmp d), ty', pos', af', g'⟩ :: rest) n σ := by
  obtain ⟨b, off, rfl, hFb, es, hc, hr⟩ := hsl.el i.toNat (by omega)
  refine QL.idx (α := α) hg hd hx hi h0 h1 ?_
  refine QL.load (α := α) (hg' _) hd' fnd_cons_eq (hF b hFb) hF hc hr ?_
  exact h _ _ ⟨es, rfl, hr⟩
theorem QL.elemN {α : Type} [Rep α] {t e : TypeId} {x ix : Operand} {ao : Option Addr} {cap d' : Nat} {xs : List α} {F : Nat → Prop} {i : Nat} {kd : IntKind} {ty' : TypeId} {pos' : String} {af' : Array Edge} {g' : Option (Nat × Bool)}
    (hg : gd L σ ⟨some d, .indexAddr t x ix, ty, pos, af, g⟩ = some true) (hd : Nat.ble (d + 1) n = true) (hd' : Nat.ble (d' + 1) n = true)
    (hx : ev σ x = some (.slice ao xs.length cap)) (hi : ev σ ix = some (.int kd (i : Int))) [hs : IsS P t e] [ht : IsT P e α] (hF : ∀ b, F b → b < w.heap.size) (hsl : Sl w F ao cap xs) (h1 : i < xs.length)
    (hg' : ∀ p, gd L ((d, .pointer p) :: σ) ⟨some d', .load e (.tmp d), ty', pos', af', g'⟩ = some true)
    (h : ∀ u p, Rd w F u xs[i] → QL P L w Q rest n ((d', u) :: (d, .pointer p) :: σ)) :
    QL P L w Q (⟨some d, .indexAddr t x ix, ty, pos, af, g⟩ :: ⟨some d', .load e (.tmp d), ty', pos', af', g'⟩ :: rest) n σ :=
  QL.elem hg hd hd' hx hi hF hsl (by omega) (by omega) hg' (fun u p hu => h u p (by simpa using hu))
theorem QL.elemI {t e : TypeId} {x ix : Operand} {ao : Option Addr} {cap d' : Nat} {xs : List Int} {F : Nat → Prop} {i : Nat} {y : Int} {kd : IntKind} {ty' : TypeId} {pos' : String} {af' : Array Edge} {g' : Option (Nat × Bool)}
    (hg : gd L σ ⟨some d, .indexAddr t x ix, ty, pos, af, g⟩ = some true) (hd : Nat.ble (d + 1) n = true) (hd' : Nat.ble (d' + 1) n = true)
    (hx : ev σ x = some (.slice ao xs.length cap)) (hi : ev σ ix = some (.int kd (i : Int))) [hs : IsS P t e] [ht : IsT P e Int] (hF : ∀ b, F b → b < w.heap.size) (hsl : Sl w F ao cap xs) (h1 : i < xs.length) (hy : xs[i] = y)
    (hg' : ∀ p, gd L ((d, .pointer p) :: σ) ⟨some d', .load e (.tmp d), ty', pos', af', g'⟩ = some true)
    (h : ∀ p, QL P L w Q rest n ((d', .int .i64 y) :: (d, .pointer p) :: σ)) :
    QL P L w Q (⟨some d, .indexAddr t x ix, ty, pos, af, g⟩ :: ⟨some d', .load e (.tmp d), ty', pos', af', g'⟩ :: rest) n σ :=
  QL.elemN hg hd hd' hx hi hF hsl h1 hg' (fun u p hu => by rw [hu.int, hy]; exact h p)
theorem QL.elemB {t e : TypeId} {x ix : Operand} {ao : Option Addr} {cap d' : Nat} {xs : List Bool} {F : Nat → Prop} {i : Nat} {y : Bool} {kd : IntKind} {ty' : TypeId} {pos' : String} {af' : Array Edge} {g' : Option (Nat × Bool)}
    (hg : gd L σ ⟨some d, .indexAddr t x ix, ty, pos, af, g⟩ = some true) (hd : Nat.ble (d + 1) n = true) (hd' : Nat.ble (d' + 1) n = true)
    (hx : ev σ x = some (.slice ao xs.length cap)) (hi : ev σ ix = some (.int kd (i : Int))) [hs : IsS P t e] [ht : IsT P e Bool] (hF : ∀ b, F b → b < w.heap.size) (hsl : Sl w F ao cap xs) (h1 : i < xs.length) (hy : xs[i] = y)
    (hg' : ∀ p, gd L ((d, .pointer p) :: σ) ⟨some d', .load e (.tmp d), ty', pos', af', g'⟩ = some true)
    (h : ∀ p, QL P L w Q rest n ((d', .bool y) :: (d, .pointer p) :: σ)) :
    QL P L w Q (⟨some d, .indexAddr t x ix, ty, pos, af, g⟩ :: ⟨some d', .load e (.tmp d), ty', pos', af', g'⟩ :: rest) n σ :=
  QL.elemN hg hd hd' hx hi hF hsl h1 hg' (fun u p hu => by rw [hu.bool, hy]; exact h p)
/-- a call whose answer doesn't hang on memory -/
theorem QL.callV {f : FuncId} {x : Operand} {xs : List Operand} {ts : Array TypeId} {vs fv cv : List Value} {v : Value}
    (hg : gd L σ ⟨some d, .call ⟨.value x, xs.toArray, ts⟩, ty, pos, af, g⟩ = some true) (hd : Nat.ble (d + 1) n = true) (hx : ev σ x = some (.func (.func f) fv.toArray cv.toArray)) (hv : evs σ xs = some vs) [hf : IsF P f]
    (hc : ∀ w1, Ext w w1 → Rt P f (fv ++ vs ++ cv).toArray w1 fun u w2 => u = v ∧ Ext w1 w2) (h : QL P L w Q rest n ((d, v) :: σ)) : QL P L w Q (⟨some d, .call ⟨.value x, xs.toArray, ts⟩, ty, pos, af, g⟩ :: rest) n σ := by
  unfold QL at *
  intro a ha
  refine wpQuiet_step fun K hK => ?_
  rw [gd_wanted ha hg, if_pos rfl]
  have e1 := evs_eq ha xs vs hv
  have e2 := ha.ev hx
  refine ⟨v, fun w' hw' => ?_, hK _ (h _ (ha.put (d := some d) hd))⟩
  have hr : (execOp a.eval ⟨some d, .call ⟨.value x, xs.toArray, ts⟩, ty, pos, af, g⟩).run P w' = .ok (.enter f (fv ++ vs ++ cv).toArray) w' := by
    have := callFunc_run (P := P) (f := f) (w := w') (fv ++ vs ++ cv).toArray
    simp [execOp, resolve, e2, Deferred.ofValue, invoke, e1]
    simpa using this
  unfold Oper.quietAt
  rw [hr]
  refine ⟨rfl, Calls.mono (hc w' hw') ?_⟩
  rintro e w'' ⟨u, rfl, rfl, hE⟩
  exact ⟨rfl, Ext.trans hw' hE⟩
theorem QL.call {f : FuncId} {xs : List Operand} {ts : Array TypeId} {vs : List Value} {v : Value}
    (hg : gd L σ ⟨some d, .call ⟨.value (.func f), xs.toArray, ts⟩, ty, pos, af, g⟩ = some true) (hd : Nat.ble (d + 1) n = true) (hv : evs σ xs = some vs) [hf : IsF P f]
    (hc : ∀ w1, Ext w w1 → Rt P f vs.toArray w1 fun u w2 => u = v ∧ Ext w1 w2) (h : QL P L w Q rest n ((d, v) :: σ)) : QL P L w Q (⟨some d, .call ⟨.value (.func f), xs.toArray, ts⟩, ty, pos, af, g⟩ :: rest) n σ :=
  QL.callV hg hd (fv := []) (cv := []) rfl hv (by simpa using hc) h
theorem QL.callF {x : Operand} {xs : List Operand} {ts : Array TypeId} {vs : List Value} {fv v : Value}
    (hg : gd L σ ⟨some d, .call ⟨.value x, xs.toArray, ts⟩, ty, pos, af, g⟩ = some true) (hd : Nat.ble (d + 1) n = true) (hx : ev σ x = some fv) (hv : evs σ xs = some vs)
    (hc : ∀ w1, Ext w w1 → FnV P fv vs w1 fun u w2 => u = v ∧ Ext w1 w2) (h : QL P L w Q rest n ((d, v) :: σ)) : QL P L w Q (⟨some d, .call ⟨.value x, xs.toArray, ts⟩, ty, pos, af, g⟩ :: rest) n σ := by
  obtain ⟨f, fs, cs, rfl, hf, _⟩ := hc w (Ext.refl _)
  refine QL.callV hg hd hx hv (fun w1 hw1 => ?_) h
  obtain ⟨f', fs', cs', he, hf', hc'⟩ := hc w1 hw1
  simp only [Value.func.injEq, Fn.func.injEq] at he
  obtain ⟨rfl, e1, e2⟩ := he
  have e1' := congrArg Array.toList e1
  have e2' := congrArg Array.toList e2
  simp only at e1' e2'
  subst e1' e2'
  exact hc'
/-- what a memory of the call's own reads as: in a region that only reads -/
theorem Own.slOld {α : Type} [Rep α] {B : Nat} {e : TypeId} {F : Nat → Prop} {v : Value} {xs : List α} (h : Own w B e F v xs) (hF : ∀ b, F b → b < w.heap.size) : ∃ ao cap, v = .slice ao xs.length cap ∧ Sl w (Old w) ao cap xs :=
  h.slF hF fun g hg => (h.lt g hg).2.1
end

/- BOOLS AND nil COMPARED -/
class IsB (P : Program) (t : TypeId) : Prop where
  ok : P.underlying t = some .bool
section
variable {P : Program} {Q : Exit → Act → World → Prop} {n : Nat} {σ : Sg} {w : World} {L rest : List Oper} {d : Nat} {op : Op} {ty : TypeId} {pos : String} {af : Array Edge} {g : Option (Nat × Bool)} {t yt : TypeId} {x y : Operand}
theorem run_eqB [hb : IsB P t] (a b : Bool) (w : World) : ((do eqGuard .eql t x y (.bool a) (.bool b); binOp .eql t (.bool a) (.bool b) : Sem Value)).run P w = .ok (.bool (a == b)) w := by
  simp [eqGuard_at_bool, run_eql_bool w t a b hb.ok]
theorem run_neB [hb : IsB P t] (a b : Bool) (w : World) : ((do eqGuard .neq t x y (.bool a) (.bool b); binOp .neq t (.bool a) (.bool b) : Sem Value)).run P w = .ok (.bool (a != b)) w := by
  have := run_equal_bool w t a b hb.ok
  simp [eqGuard_at_bool, binOp, this]
  cases a <;> cases b <;> rfl
theorem WL.eqB {a b : Bool} (hg : gd L σ ⟨some d, .binOp .eql t x y yt, ty, pos, af, g⟩ = some true) (hd : Nat.ble (d + 1) n = true) (hx : ev σ x = some (.bool a)) (hy : ev σ y = some (.bool b)) [hb : IsB P t]
    (h : WL P L Q rest n ((d, .bool (a == b)) :: σ) w) : WL P L Q (⟨some d, .binOp .eql t x y yt, ty, pos, af, g⟩ :: rest) n σ w := by
  refine WL.run hg hd (fun c hc => ?_) h
  have := run_eqB (P := P) (t := t) (x := x) (y := y) a b w
  simp only [execOp, hc.ev hx, hc.ev hy]
  rw [Sem.run_bind, this]; rfl
theorem WL.neB {a b : Bool} (hg : gd L σ ⟨some d, .binOp .neq t x y yt, ty, pos, af, g⟩ = some true) (hd : Nat.ble (d + 1) n = true) (hx : ev σ x = some (.bool a)) (hy : ev σ y = some (.bool b)) [hb : IsB P t]
    (h : WL P L Q rest n ((d, .bool (a != b)) :: σ) w) : WL P L Q (⟨some d, .binOp .neq t x y yt, ty, pos, af, g⟩ :: rest) n σ w := by
  refine WL.run hg hd (fun c hc => ?_) h
  have := run_neB (P := P) (t := t) (x := x) (y := y) a b w
  simp only [execOp, hc.ev hx, hc.ev hy]
  rw [Sem.run_bind, this]; rfl
theorem QL.eqB {a b : Bool} (hg : gd L σ ⟨some d, .binOp .eql t x y yt, ty, pos, af, g⟩ = some true) (hd : Nat.ble (d + 1) n = true) (hx : ev σ x = some (.bool a)) (hy : ev σ y = some (.bool b)) [hb : IsB P t]
    (h : QL P L w Q rest n ((d, .bool (a == b)) :: σ)) : QL P L w Q (⟨some d, .binOp .eql t x y yt, ty, pos, af, g⟩ :: rest) n σ := by
  refine QL.run hg hd (fun c hc w' _ => ?_) h
  have := run_eqB (P := P) (t := t) (x := x) (y := y) a b w'
  simp only [execOp, hc.ev hx, hc.ev hy]
  rw [Sem.run_bind, this]; rfl
theorem QL.neB {a b : Bool} (hg : gd L σ ⟨some d, .binOp .neq t x y yt, ty, pos, af, g⟩ = some true) (hd : Nat.ble (d + 1) n = true) (hx : ev σ x = some (.bool a)) (hy : ev σ y = some (.bool b)) [hb : IsB P t]
    (h : QL P L w Q rest n ((d, .bool (a != b)) :: σ)) : QL P L w Q (⟨some d, .binOp .neq t x y yt, ty, pos, af, g⟩ :: rest) n σ := by
  refine QL.run hg hd (fun c hc w' _ => ?_) h
  have := run_neB (P := P) (t := t) (x := x) (y := y) a b w'
  simp only [execOp, hc.ev hx, hc.ev hy]
  rw [Sem.run_bind, this]; rfl
/-- x == nil, a slice -/
theorem WL.isNil {e : TypeId} {ao : Option Addr} {k cap : Nat} (hg : gd L σ ⟨some d, .binOp .eql t x (.const (.slice none 0 0)) yt, ty, pos, af, g⟩ = some true) (hd : Nat.ble (d + 1) n = true) (hx : ev σ x = some (.slice ao k cap)) [hs : IsS P t e]
    (h : WL P L Q rest n ((d, .bool ao.isNone) :: σ) w) : WL P L Q (⟨some d, .binOp .eql t x (.const (.slice none 0 0)) yt, ty, pos, af, g⟩ :: rest) n σ w := by
  refine WL.run hg hd (fun c hc => ?_) h
  have := run_equal_slice_nil w t e ao k cap hs.ok
  simp [execOp, hc.ev hx, hc.ev (x := .const (.slice none 0 0)) rfl, eqGuard_at_slice, binOp, this]
end
end Go.Proofs.Ythojdcbpglipeaa
