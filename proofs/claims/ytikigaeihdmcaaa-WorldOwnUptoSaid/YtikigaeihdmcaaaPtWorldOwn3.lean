import Derived.Laws.Cover3
import Derived.Laws.Bits64b
import Derived.Laws.Shifts
import Derived.OrdersHeld
import Derived.Test.YtikigaeihdmcaaaProg
import Derived.Test.YtikigaeihdmcaaaPtWorldOwn2
/-
  Statements whose order is open, where every operation only reads or calls what only makes memory. Over any program.
-/
set_option linter.unusedVariables false
set_option linter.unusedSimpArgs false
namespace Go.Proofs.Ytikigaeihdmcaaa
open Go.RowKit

@[irreducible] def QL (P : Program) (ops : List Oper) (w : World) (Q : Exit → Act → World → Prop) (l : List Oper) (n : Nat) (σ : Sg) : Prop :=
  ∀ a, Fr n σ a → wpQuiet P ops.toArray (fun w' => Ext w w') (fun a' => ∀ w', Ext w w' → Q .normal a' w') l a

section
variable {P : Program} {Q : Exit → Act → World → Prop} {n : Nat} {σ : Sg} {w : World} {L rest : List Oper} {d : Nat} {op : Op} {ty : TypeId} {pos : String} {af : Array Edge} {g : Option (Nat × Bool)}

theorem CW.draw {id : Nat} {l : List Oper} (hm : P.follows .mixedOrders = true) (hB : Region.lexB .any l.toArray = true) (h : QL P l w Q l n σ) : CW P (.region id l.toArray true) Q n σ w := by
  unfold CW; unfold QL at h; intro a ha
  exact wp_region_quiet (C := fun w' => Ext w w') hm hB ⟨rfl, rfl, rfl, Nat.le_refl _, fun _ _ => rfl⟩ (by simpa using h a ha)
theorem QL.nil {l : List Oper} (h : ∀ w', Ext w w' → EX Q .normal n σ w') : QL P l w Q [] n σ := by
  unfold QL; unfold EX at h; intro a ha
  exact wpQuiet_nil (fun w' hw' => h w' hw' a ha)
theorem QL.run {v : Value} (hg : gd L σ ⟨some d, op, ty, pos, af, g⟩ = some true) (hd : Nat.ble (d + 1) n = true)
    (hr : ∀ a, Fr n σ a → ∀ w', Ext w w' → (execOp a.eval ⟨some d, op, ty, pos, af, g⟩).run P w' = .ok (.value v) w') (h : QL P L w Q rest n ((d, v) :: σ)) : QL P L w Q (⟨some d, op, ty, pos, af, g⟩ :: rest) n σ := by
  unfold QL at *
  intro a ha
  refine wpQuiet_step fun K hK => ?_
  rw [gd_wanted ha hg, if_pos rfl]
  refine ⟨v, fun w' hw' => ?_, hK _ (h _ (ha.put (d := some d) hd))⟩
  unfold Oper.quietAt
  rw [hr a ha w' hw']
  exact ⟨rfl, rfl⟩
theorem QL.pure {v : Value} (hg : gd L σ ⟨some d, op, ty, pos, af, g⟩ = some true) (hd : Nat.ble (d + 1) n = true)
    (hv : pureOp σ op = some v) (h : QL P L w Q rest n ((d, v) :: σ)) : QL P L w Q (⟨some d, op, ty, pos, af, g⟩ :: rest) n σ :=
  QL.run hg hd (fun a ha _ _ => pureOp_run ha hv) h
theorem QL.pass (hg : gd L σ ⟨some d, op, ty, pos, af, g⟩ = some false) (hd : Nat.ble (d + 1) n = true) (h : QL P L w Q rest n ((d, undef) :: σ)) : QL P L w Q (⟨some d, op, ty, pos, af, g⟩ :: rest) n σ := by
  unfold QL at *
  intro a ha
  refine wpQuiet_step fun K hK => ?_
  rw [gd_wanted ha hg, if_neg (by simp)]
  exact hK _ (h _ (ha.put (d := some d) hd))
theorem QL.look {s : Nat} {b : Bool} (hs : fnd σ s = some (.bool b)) (ht : b = true → QL P L w Q rest n ((s, .bool true) :: σ)) (hf : b = false → QL P L w Q rest n ((s, .bool false) :: σ)) : QL P L w Q rest n σ := by
  unfold QL at *
  intro a ha
  cases b with
  | true => exact ht rfl a (ha.set hs)
  | false => exact hf rfl a (ha.set hs)
theorem QL.lookG {dd : Option Nat} {j s : Nat} {want b : Bool} (hj : gslot L j = some s) (hs : fnd σ s = some (.bool b)) (ht : b = true → QL P L w Q (⟨dd, op, ty, pos, af, some (j, want)⟩ :: rest) n ((s, .bool true) :: σ))
    (hf : b = false → QL P L w Q (⟨dd, op, ty, pos, af, some (j, want)⟩ :: rest) n ((s, .bool false) :: σ)) : QL P L w Q (⟨dd, op, ty, pos, af, some (j, want)⟩ :: rest) n σ := QL.look hs ht hf
theorem QL.add {t yt : TypeId} {x y : Operand} {a b : Int} (hg : gd L σ ⟨some d, .binOp .add t x y yt, ty, pos, af, g⟩ = some true) (hd : Nat.ble (d + 1) n = true)
    (hx : ev σ x = some (.int .i64 a)) (hy : ev σ y = some (.int .i64 b)) (h0 : -9223372036854775808 ≤ a + b) (h1 : a + b < 9223372036854775808) (h : QL P L w Q rest n ((d, .int .i64 (a + b)) :: σ)) : QL P L w Q (⟨some d, .binOp .add t x y yt, ty, pos, af, g⟩ :: rest) n σ := by
  refine QL.pure hg hd (v := .int .i64 (a + b)) ?_ h
  simp only [pureOp, hx, hy, pbin]
  rw [wrap_in h0 h1]
theorem QL.sub' {t yt : TypeId} {x y : Operand} {a b : Int} (hg : gd L σ ⟨some d, .binOp .sub t x y yt, ty, pos, af, g⟩ = some true) (hd : Nat.ble (d + 1) n = true)
    (hx : ev σ x = some (.int .i64 a)) (hy : ev σ y = some (.int .i64 b)) (h0 : -9223372036854775808 ≤ a - b) (h1 : a - b < 9223372036854775808) (h : QL P L w Q rest n ((d, .int .i64 (a - b)) :: σ)) : QL P L w Q (⟨some d, .binOp .sub t x y yt, ty, pos, af, g⟩ :: rest) n σ := by
  refine QL.pure hg hd (v := .int .i64 (a - b)) ?_ h
  simp only [pureOp, hx, hy, pbin]
  rw [wrap_in h0 h1]
theorem QL.mul {t yt : TypeId} {x y : Operand} {a b : Int} (hg : gd L σ ⟨some d, .binOp .mul t x y yt, ty, pos, af, g⟩ = some true) (hd : Nat.ble (d + 1) n = true)
    (hx : ev σ x = some (.int .i64 a)) (hy : ev σ y = some (.int .i64 b)) (h0 : -9223372036854775808 ≤ a * b) (h1 : a * b < 9223372036854775808) (h : QL P L w Q rest n ((d, .int .i64 (a * b)) :: σ)) : QL P L w Q (⟨some d, .binOp .mul t x y yt, ty, pos, af, g⟩ :: rest) n σ := by
  refine QL.pure hg hd (v := .int .i64 (a * b)) ?_ h
  simp only [pureOp, hx, hy, pbin]
  rw [wrap_in h0 h1]
theorem QL.makeFunc {fn : Fn} {fs cs : List Operand} {fv cv : List Value} (hg : gd L σ ⟨some d, .makeFunc fn fs.toArray cs.toArray, ty, pos, af, g⟩ = some true) (hd : Nat.ble (d + 1) n = true)
    (hf : evs σ fs = some fv) (hc : evs σ cs = some cv) (h : QL P L w Q rest n ((d, .func fn fv.toArray cv.toArray) :: σ)) : QL P L w Q (⟨some d, .makeFunc fn fs.toArray cs.toArray, ty, pos, af, g⟩ :: rest) n σ := by
  refine QL.run hg hd (fun a ha _ _ => ?_) h
  have e1 := evs_eq ha fs fv hf
  have e2 := evs_eq ha cs cv hc
  simp [execOp, Instr.makeFunc, e1, e2]
theorem QL.lenS {t e : TypeId} {x : Operand} {ao : Option Addr} {k cap : Nat} (hg : gd L σ ⟨some d, .call ⟨.builtin .len, #[x], #[t]⟩, ty, pos, af, g⟩ = some true) (hd : Nat.ble (d + 1) n = true)
    (hx : ev σ x = some (.slice ao k cap)) [hs : IsS P t e] (h : QL P L w Q rest n ((d, .int .i64 (k : Int)) :: σ)) : QL P L w Q (⟨some d, .call ⟨.builtin .len, #[x], #[t]⟩, ty, pos, af, g⟩ :: rest) n σ := by
  refine QL.run hg hd (fun a ha _ _ => ?_) h
  simp [execOp, resolve, invoke, builtin, ha.ev hx, Builtin.len_, run_underlying hs.ok, goInt]
theorem QL.idx {α : Type} [Rep α] {t e : TypeId} {x ix : Operand} {b off : Nat} {k cap : Nat} {i : Int} {kd : IntKind} (hg : gd L σ ⟨some d, .indexAddr t x ix, ty, pos, af, g⟩ = some true) (hd : Nat.ble (d + 1) n = true)
    (hx : ev σ x = some (.slice (some ⟨b, off, none⟩) k cap)) (hi : ev σ ix = some (.int kd i)) [hs : IsS P t e] [ht : IsT P e α] (h0 : 0 ≤ i) (h1 : i < k)
    (h : QL P L w Q rest n ((d, .pointer (some ⟨b, off + i.toNat * sz α, none⟩)) :: σ)) : QL P L w Q (⟨some d, .indexAddr t x ix, ty, pos, af, g⟩ :: rest) n σ := by
  refine QL.run hg hd (fun a ha _ _ => ?_) h
  simp [execOp, ha.ev hx, ha.ev hi, Instr.indexAt, asIntOf, run_underlying hs.ok, h0, h1, run_sizeOf (α := α), WideShapes.add_plain]
theorem QL.load {α : Type} [Rep α] {t : TypeId} {x : Operand} {b off : Nat} {F : Nat → Prop} {cs : List Value} {y : α} (hg : gd L σ ⟨some d, .load t x, ty, pos, af, g⟩ = some true) (hd : Nat.ble (d + 1) n = true)
    (hx : ev σ x = some (.pointer (some ⟨b, off, none⟩))) [ht : IsT P t α] (hb : b < w.heap.size) (hF : ∀ b, F b → b < w.heap.size) (hc : Cells w b off cs) (hr : rd w F cs y)
    (h : QL P L w Q rest n ((d, vOf α cs) :: σ)) : QL P L w Q (⟨some d, .load t x, ty, pos, af, g⟩ :: rest) n σ := by
  refine QL.run hg hd (fun a ha w' hw' => ?_) h
  have hc' : Cells w' b off cs := hc.mono (hw'.block b hb)
  have hr' : rd w' F cs y := Rep.mono hr (fun k hk => hw'.block k (hF k hk)) fun _ h => h
  simp [execOp, ha.ev hx, Instr.loadAt, Instr.sureAddr, run_loadAt hc' hr']
/-- x[i], read -/
theorem QL.elem {α : Type} [Rep α] {t e : TypeId} {x ix : Operand} {ao : Option Addr} {cap d' : Nat} {xs : List α} {F : Nat → Prop} {i : Int} {kd : IntKind} {ty' : TypeId} {pos' : String} {af' : Array Edge} {g' : Option (Nat × Bool)}
    (hg : gd L σ ⟨some d, .indexAddr t x ix, ty, pos, af, g⟩ = some true) (hd : Nat.ble (d + 1) n = true) (hd' : Nat.ble (d' + 1) n = true)
    (hx : ev σ x = some (.slice ao xs.length cap)) (hi : ev σ ix = some (.int kd i)) [hs : IsS P t e] [ht : IsT P e α] (hF : ∀ b, F b → b < w.heap.size) (hsl : Sl w F ao cap xs) (h0 : 0 ≤ i) (h1 : i < xs.length)
    (hg' : ∀ p, gd L ((d, .pointer p) :: σ) ⟨some d', .load e (.tmp d), ty', pos', af', g'⟩ = some true)
    (h : ∀ u p, Rd w F u (xs[i.toNat]'(by omega)) → QL P L w Q rest n ((d', u) :: (d, .pointer p) :: σ)) :
    QL P L w Q (⟨some d, .indexAddr t x ix, ty, pos, af, g⟩ :: ⟨some d', .load e (.tmp d), ty', pos', af', g'⟩ :: rest) n σ := by
  obtain ⟨b, off, rfl, hFb, es, hc, hr⟩ := hsl.el i.toNat (by omega)
  refine QL.idx (α := α) hg hd hx hi h0 h1 ?_
  refine QL.load (α := α) (hg' _) hd' fnd_cons_eq (hF b hFb) hF hc hr ?_
  exact h _ _ ⟨es, rfl, hr⟩
theorem QL.elemN {α : Type} [Rep α] {t e : TypeId} {x ix : Operand} {ao : Option Addr} {cap d' : Nat} {xs : List α} {F : Nat → Prop} {i : Nat} {kd : IntKind} {ty' : TypeId} {pos' : String} {af' : Array Edge} {g' : Option (Nat × Bool)}
    (hg : gd L σ ⟨some d, .indexAddr t x ix, ty, pos, af, g⟩ = some true) (hd : Nat.ble (d + 1) n = true) (hd' : Nat.ble (d' + 1) n = true)
    (hx : ev σ x = some (.slice ao xs.length cap)) (hi : ev σ ix = some (.int kd (i : Int))) [hs : IsS P t e] [ht : IsT P e α] (hF : ∀ b, F b → b < w.heap.size) (hsl : Sl w F ao cap xs) (h1 : i < xs.length)
    (hg' : ∀ p, gd L ((d, .pointer p) :: σ) ⟨some d', .load e (.tmp d), ty', pos', af', g'⟩ = some true)
    (h : ∀ u p, Rd w F u xs[i] → QL P L w Q rest n ((d', u) :: (d, .pointer p) :: σ)) :
    QL P L w Q (⟨some d, .indexAddr t x ix, ty, pos, af, g⟩ :: ⟨some d', .load e (.tmp d), ty', pos', af', g'⟩ :: rest) n σ :=
  QL.elem hg hd hd' hx hi hF hsl (by omega) (by omega) hg' (fun u p hu => h u p (by simpa using hu))
theorem QL.elemI {t e : TypeId} {x ix : Operand} {ao : Option Addr} {cap d' : Nat} {xs : List Int} {F : Nat → Prop} {i : Nat} {y : Int} {kd : IntKind} {ty' : TypeId} {pos' : String} {af' : Array Edge} {g' : Option (Nat × Bool)}
    (hg : gd L σ ⟨some d, .indexAddr t x ix, ty, pos, af, g⟩ = some true) (hd : Nat.ble (d + 1) n = true) (hd' : Nat.ble (d' + 1) n = true)
    (hx : ev σ x = some (.slice ao xs.length cap)) (hi : ev σ ix = some (.int kd (i : Int))) [hs : IsS P t e] [ht : IsT P e Int] (hF : ∀ b, F b → b < w.heap.size) (hsl : Sl w F ao cap xs) (h1 : i < xs.length) (hy : xs[i] = y)
    (hg' : ∀ p, gd L ((d, .pointer p) :: σ) ⟨some d', .load e (.tmp d), ty', pos', af', g'⟩ = some true)
    (h : ∀ p, QL P L w Q rest n ((d', .int .i64 y) :: (d, .pointer p) :: σ)) :
    QL P L w Q (⟨some d, .indexAddr t x ix, ty, pos, af, g⟩ :: ⟨some d', .load e (.tmp d), ty', pos', af', g'⟩ :: rest) n σ :=
  QL.elemN hg hd hd' hx hi hF hsl h1 hg' (fun u p hu => by rw [hu.int, hy]; exact h p)
theorem QL.elemB {t e : TypeId} {x ix : Operand} {ao : Option Addr} {cap d' : Nat} {xs : List Bool} {F : Nat → Prop} {i : Nat} {y : Bool} {kd : IntKind} {ty' : TypeId} {pos' : String} {af' : Array Edge} {g' : Option (Nat × Bool)}
    (hg : gd L σ ⟨some d, .indexAddr t x ix, ty, pos, af, g⟩ = some true) (hd : Nat.ble (d + 1) n = true) (hd' : Nat.ble (d' + 1) n = true)
    (hx : ev σ x = some (.slice ao xs.length cap)) (hi : ev σ ix = some (.int kd (i : Int))) [hs : IsS P t e] [ht : IsT P e Bool] (hF : ∀ b, F b → b < w.heap.size) (hsl : Sl w F ao cap xs) (h1 : i < xs.length) (hy : xs[i] = y)
    (hg' : ∀ p, gd L ((d, .pointer p) :: σ) ⟨some d', .load e (.tmp d), ty', pos', af', g'⟩ = some true)
    (h : ∀ p, QL P L w Q rest n ((d', .bool y) :: (d, .pointer p) :: σ)) :
    QL P L w Q (⟨some d, .indexAddr t x ix, ty, pos, af, g⟩ :: ⟨some d', .load e (.tmp d), ty', pos', af', g'⟩ :: rest) n σ :=
  QL.elemN hg hd hd' hx hi hF hsl h1 hg' (fun u p hu => by rw [hu.bool, hy]; exact h p)
/-- a call whose answer doesn't hang on memory -/
theorem QL.callV {f : FuncId} {x : Operand} {xs : List Operand} {ts : Array TypeId} {vs fv cv : List Value} {v : Value}
    (hg : gd L σ ⟨some d, .call ⟨.value x, xs.toArray, ts⟩, ty, pos, af, g⟩ = some true) (hd : Nat.ble (d + 1) n = true) (hx : ev σ x = some (.func (.func f) fv.toArray cv.toArray)) (hv : evs σ xs = some vs) [hf : IsF P f]
    (hc : ∀ w1, Ext w w1 → Rt P f (fv ++ vs ++ cv).toArray w1 fun u w2 => u = v ∧ Ext w1 w2) (h : QL P L w Q rest n ((d, v) :: σ)) : QL P L w Q (⟨some d, .call ⟨.value x, xs.toArray, ts⟩, ty, pos, af, g⟩ :: rest) n σ := by
  unfold QL at *
  intro a ha
  refine wpQuiet_step fun K hK => ?_
  rw [gd_wanted ha hg, if_pos rfl]
  have e1 := evs_eq ha xs vs hv
  have e2 := ha.ev hx
  refine ⟨v, fun w' hw' => ?_, hK _ (h _ (ha.put (d := some d) hd))⟩
  have hr : (execOp a.eval ⟨some d, .call ⟨.value x, xs.toArray, ts⟩, ty, pos, af, g⟩).run P w' = .ok (.enter f (fv ++ vs ++ cv).toArray) w' := by
    have := callFunc_run (P := P) (f := f) (w := w') (fv ++ vs ++ cv).toArray
    simp [execOp, resolve, e2, Deferred.ofValue, invoke, e1]
    simpa using this
  unfold Oper.quietAt
  rw [hr]
  refine ⟨rfl, Calls.mono (hc w' hw') ?_⟩
  rintro e w'' ⟨u, rfl, rfl, hE⟩
  exact ⟨rfl, Ext.trans hw' hE⟩
theorem QL.call {f : FuncId} {xs : List Operand} {ts : Array TypeId} {vs : List Value} {v : Value}
    (hg : gd L σ ⟨some d, .call ⟨.value (.func f), xs.toArray, ts⟩, ty, pos, af, g⟩ = some true) (hd : Nat.ble (d + 1) n = true) (hv : evs σ xs = some vs) [hf : IsF P f]
    (hc : ∀ w1, Ext w w1 → Rt P f vs.toArray w1 fun u w2 => u = v ∧ Ext w1 w2) (h : QL P L w Q rest n ((d, v) :: σ)) : QL P L w Q (⟨some d, .call ⟨.value (.func f), xs.toArray, ts⟩, ty, pos, af, g⟩ :: rest) n σ :=
  QL.callV hg hd (fv := []) (cv := []) rfl hv (by simpa using hc) h
theorem QL.callF {x : Operand} {xs : List Operand} {ts : Array TypeId} {vs : List Value} {fv v : Value}
    (hg : gd L σ ⟨some d, .call ⟨.value x, xs.toArray, ts⟩, ty, pos, af, g⟩ = some true) (hd : Nat.ble (d + 1) n = true) (hx : ev σ x = some fv) (hv : evs σ xs = some vs)
    (hc : ∀ w1, Ext w w1 → FnV P fv vs w1 fun u w2 => u = v ∧ Ext w1 w2) (h : QL P L w Q rest n ((d, v) :: σ)) : QL P L w Q (⟨some d, .call ⟨.value x, xs.toArray, ts⟩, ty, pos, af, g⟩ :: rest) n σ := by
  obtain ⟨f, fs, cs, rfl, hf, _⟩ := hc w (Ext.refl _)
  refine QL.callV hg hd hx hv (fun w1 hw1 => ?_) h
  obtain ⟨f', fs', cs', he, hf', hc'⟩ := hc w1 hw1
  simp only [Value.func.injEq, Fn.func.injEq] at he
  obtain ⟨rfl, e1, e2⟩ := he
  have e1' := congrArg Array.toList e1
  have e2' := congrArg Array.toList e2
  simp only at e1' e2'
  subst e1' e2'
  exact hc'
end

/- BOOLS AND nil COMPARED -/
class IsB (P : Program) (t : TypeId) : Prop where
  ok : P.underlying t = some .bool
section
variable {P : Program} {Q : Exit → Act → World → Prop} {n : Nat} {σ : Sg} {w : World} {L rest : List Oper} {d : Nat} {op : Op} {ty : TypeId} {pos : String} {af : Array Edge} {g : Option (Nat × Bool)} {t yt : TypeId} {x y : Operand}
theorem run_neB [hb : IsB P t] (a b : Bool) (w : World) : ((do eqGuard .neq t x y (.bool a) (.bool b); binOp .neq t (.bool a) (.bool b) : Sem Value)).run P w = .ok (.bool (a != b)) w := by
  have := run_equal_bool w t a b hb.ok
  simp [eqGuard_at_bool, binOp, this]
  cases a <;> cases b <;> rfl
theorem WL.neB {a b : Bool} (hg : gd L σ ⟨some d, .binOp .neq t x y yt, ty, pos, af, g⟩ = some true) (hd : Nat.ble (d + 1) n = true) (hx : ev σ x = some (.bool a)) (hy : ev σ y = some (.bool b)) [hb : IsB P t]
    (h : WL P L Q rest n ((d, .bool (a != b)) :: σ) w) : WL P L Q (⟨some d, .binOp .neq t x y yt, ty, pos, af, g⟩ :: rest) n σ w := by
  refine WL.run hg hd (fun c hc => ?_) h
  have := run_neB (P := P) (t := t) (x := x) (y := y) a b w
  simp only [execOp, hc.ev hx, hc.ev hy]
  rw [Sem.run_bind, this]; rfl
theorem QL.neB {a b : Bool} (hg : gd L σ ⟨some d, .binOp .neq t x y yt, ty, pos, af, g⟩ = some true) (hd : Nat.ble (d + 1) n = true) (hx : ev σ x = some (.bool a)) (hy : ev σ y = some (.bool b)) [hb : IsB P t]
    (h : QL P L w Q rest n ((d, .bool (a != b)) :: σ)) : QL P L w Q (⟨some d, .binOp .neq t x y yt, ty, pos, af, g⟩ :: rest) n σ := by
  refine QL.run hg hd (fun c hc w' _ => ?_) h
  have := run_neB (P := P) (t := t) (x := x) (y := y) a b w'
  simp only [execOp, hc.ev hx, hc.ev hy]
  rw [Sem.run_bind, this]; rfl
/-- x == nil, a slice -/
theorem WL.isNil {e : TypeId} {ao : Option Addr} {k cap : Nat} (hg : gd L σ ⟨some d, .binOp .eql t x (.const (.slice none 0 0)) yt, ty, pos, af, g⟩ = some true) (hd : Nat.ble (d + 1) n = true) (hx : ev σ x = some (.slice ao k cap)) [hs : IsS P t e]
    (h : WL P L Q rest n ((d, .bool ao.isNone) :: σ) w) : WL P L Q (⟨some d, .binOp .eql t x (.const (.slice none 0 0)) yt, ty, pos, af, g⟩ :: rest) n σ w := by
  refine WL.run hg hd (fun c hc => ?_) h
  have := run_equal_slice_nil w t e ao k cap hs.ok
  simp [execOp, hc.ev hx, hc.ev (x := .const (.slice none 0 0)) rfl, eqGuard_at_slice, binOp, this]
end
end Go.Proofs.Ytikigaeihdmcaaa

/-
  Structs: variables of the call's own whose cells are known one by one; fields; values built; numbers of 64 bits; conversions. Over any program.
-/
set_option linter.unusedVariables false
set_option linter.unusedSimpArgs false
namespace Go.Proofs.Ytikigaeihdmcaaa
open Go.RowKit

/- BLOCKS WHOSE CELLS ARE KNOWN -/
def Blk (w : World) (b : Nat) (e : TypeId) (cells : List Value) : Prop := w.heap[b]? = some (.cells cells.toArray e (0, 0))
section
variable {w w' : World} {b : Nat} {e : TypeId} {cells : List Value}
theorem Blk.lt (h : Blk w b e cells) : b < w.heap.size := (Array.getElem?_eq_some_iff.1 h).1
theorem Blk.ext (h : Blk w b e cells) (hE : Ext w w') : Blk w' b e cells := (hE.block b h.lt).trans h
theorem Blk.below {B : Nat} (h : Blk w b e cells) (hE : Below B w w') (hb : b < B) : Blk w' b e cells := (hE.block b hb).trans h
theorem Blk.kept {row : Option Nat} (h : Blk w b e cells) (hg : w.grownBy w' row) (hne : some b ≠ row) : Blk w' b e cells := (hg.block b h.lt hne).trans h
theorem Blk.cell (h : Blk w b e cells) {o : Nat} {v : Value} (hv : cells[o]? = some v) : w.cell? ⟨b, o, none⟩ = some v := by
  rw [cell_of_row w b o cells.toArray e (0, 0) h]; simpa using hv
theorem Blk.all (h : Blk w b e cells) : Cells w b 0 cells := fun j u hu => by rw [Nat.zero_add]; exact h.cell hu
theorem Blk.alloc (w : World) (cells : List Value) (e : TypeId) : Blk (w.alloc (.cells cells.toArray e)) w.heap.size e cells := heap_alloc_new w _
end

/-- a field of a struct type, and its offset -/
class IsFd (P : Program) (t f : Nat) (o : outParam Nat) : Prop where
  ok : ∃ fs fld i, P.underlying t = some (.struct fs) ∧ fs[f]? = some fld ∧ fld.offset = o ∧ P.info? fld.type = some i ∧ i.size ≠ 0
def fdFact (P : Program) (t f : Nat) : Option (Nat × Bool) := match P.underlying t with
  | some (.struct fs) => (fs[f]?).bind fun fld => (P.info? fld.type).map fun i => (fld.offset, Nat.beq i.size 0)
  | _ => none
theorem IsFd.of {P : Program} {t f o : Nat} (h : fdFact P t f = some (o, false)) : IsFd P t f o := by
  unfold fdFact at h
  split at h
  · rename_i fs hu
    obtain ⟨fld, h1, h2⟩ := Option.bind_eq_some_iff.1 h
    obtain ⟨i, h3, h4⟩ := Option.map_eq_some_iff.1 h2
    simp only [Prod.mk.injEq] at h4
    refine ⟨fs, fld, i, hu, h1, h4.1, h3, fun e => ?_⟩
    rw [e] at h4; exact absurd h4.2 (by decide)
  · cases h
/-- a type's number of cells, and whether it is a struct or an array -/
class IsC (P : Program) (t : TypeId) (k : outParam Nat) (ag : outParam Bool) : Prop where
  ok : ∃ i d, P.info? t = some i ∧ i.size = k ∧ P.underlying t = some d ∧ aggD d = ag
theorem IsC.of {P : Program} {t : TypeId} {k : Nat} {ag : Bool} {d : TypeDesc} (h : (P.info? t).map (fun i => Nat.beq i.size k) = some true) (hu : P.underlying t = some d) (hd : aggD d = ag) : IsC P t k ag := by
  obtain ⟨i, hi, he⟩ := Option.map_eq_some_iff.1 h
  exact ⟨i, d, hi, Nat.eq_of_beq_eq_true he, hu, hd⟩
/-- a type's zero cells -/
class IsZC (P : Program) (t : TypeId) (zs : outParam (List Value)) : Prop where
  ok : ∃ i z, P.info? t = some i ∧ i.zero = some z ∧ z.cells = zs.toArray
theorem IsZC.of {P : Program} {t : TypeId} {z : Value} {zs : List Value} (h : (P.info? t).map (fun i => i.zero) = some (some z)) (hz : z.cells = zs.toArray) : IsZC P t zs := by
  obtain ⟨i, hi, he⟩ := Option.map_eq_some_iff.1 h
  exact ⟨i, z, hi, he, hz⟩
/-- the places of a struct's fields -/
class IsBd (P : Program) (t : TypeId) (places : outParam (List (Nat × Nat))) : Prop where
  ok : ∃ fs, P.underlying t = some (.struct fs) ∧ fs.toList.mapM (fun f => (P.info? f.type).map fun i => (f.offset, i.size)) = some places
def bdFact (P : Program) (t : TypeId) : Option (List (Nat × Nat)) := match P.underlying t with
  | some (.struct fs) => fs.toList.mapM (fun f => (P.info? f.type).map fun i => (f.offset, i.size))
  | _ => none
theorem IsBd.of {P : Program} {t : TypeId} {places : List (Nat × Nat)} (h : bdFact P t = some places) : IsBd P t places := by
  unfold bdFact at h
  split at h
  · rename_i fs hu; exact ⟨fs, hu, h⟩
  · cases h

def segL : List Value → Nat → Nat → Option (List Value)
  | _, 0, 0 => some []
  | v :: r, 0, n + 1 => (segL r 0 n).map (v :: ·)
  | _ :: r, o + 1, n => segL r o n
  | [], _, _ => none
theorem segL_eq : ∀ (l : List Value) (o n : Nat) (vs : List Value), segL l o n = some vs → vs.length = n ∧ ∀ j u, vs[j]? = some u → l[o + j]? = some u
  | [], 0, 0, vs, h => by simp [segL] at h; subst h; exact ⟨rfl, fun j u hu => by simp at hu⟩
  | v :: r, 0, 0, vs, h => by simp [segL] at h; subst h; exact ⟨rfl, fun j u hu => by simp at hu⟩
  | [], 0, n + 1, vs, h => by simp [segL] at h
  | [], o + 1, n, vs, h => by simp [segL] at h
  | v :: r, 0, n + 1, vs, h => by
    simp only [segL] at h
    obtain ⟨us, h1, h2⟩ := Option.map_eq_some_iff.1 h
    subst h2
    obtain ⟨h3, h4⟩ := segL_eq r 0 n us h1
    refine ⟨by simp [h3], fun j u hu => ?_⟩
    cases j with
    | zero => simpa using hu
    | succ j =>
      have := h4 j u (by simpa using hu)
      simpa using this
  | v :: r, o + 1, n, vs, h => by
    have h' : segL r o n = some vs := by cases n <;> simpa [segL] using h
    obtain ⟨h3, h4⟩ := segL_eq r o n vs h'
    refine ⟨h3, fun j u hu => ?_⟩
    have := h4 j u hu
    rw [show o + 1 + j = (o + j) + 1 by omega, List.getElem?_cons_succ]; exact this
/-- a value's cells -/
def cellsL : Value → List Value
  | .agg cs => cs.toList
  | v => [v]
theorem cellsL_eq (v : Value) : v.cells = (cellsL v).toArray := by cases v <;> rfl
def overL : List Value → Nat → List Value → Option (List Value)
  | l, 0, [] => some l
  | _ :: r, 0, v :: vs => (overL r 0 vs).map (v :: ·)
  | u :: r, o + 1, vs => (overL r o vs).map (u :: ·)
  | [], _, _ => none
theorem overL_eq : ∀ (l : List Value) (o : Nat) (vs out : List Value), overL l o vs = some out → o + vs.length ≤ l.length ∧ out = l.take o ++ vs ++ l.drop (o + vs.length)
  | [], 0, [], out, h => by simp [overL] at h; subst h; simp
  | v :: r, 0, [], out, h => by simp [overL] at h; subst h; simp
  | [], 0, v :: vs, out, h => by simp [overL] at h
  | [], o + 1, vs, out, h => by simp [overL] at h
  | u :: r, 0, v :: vs, out, h => by
    simp only [overL] at h
    obtain ⟨us, h1, h2⟩ := Option.map_eq_some_iff.1 h
    subst h2
    obtain ⟨h3, h4⟩ := overL_eq r 0 vs us h1
    refine ⟨by simp at h3 ⊢; omega, ?_⟩
    rw [h4]; simp
  | u :: r, o + 1, vs, out, h => by
    have h' : (overL r o vs).map (u :: ·) = some out := by cases vs <;> simpa [overL] using h
    obtain ⟨us, h1, h2⟩ := Option.map_eq_some_iff.1 h'
    subst h2
    obtain ⟨h3, h4⟩ := overL_eq r o vs us h1
    refine ⟨by simp at h3 ⊢; omega, ?_⟩
    rw [h4]
    rw [show o + 1 + vs.length = (o + vs.length) + 1 by omega]
    simp
def nthP : List (Nat × Nat) → Nat → Option (Nat × Nat)
  | [], _ => none
  | x :: _, 0 => some x
  | _ :: r, i + 1 => nthP r i
theorem nthP_eq : ∀ (l : List (Nat × Nat)) (i : Nat), nthP l i = l[i]?
  | [], i => by simp [nthP]
  | x :: r, 0 => by simp [nthP]
  | x :: r, i + 1 => by simp [nthP, nthP_eq r i]
def lenL : List Value → Nat
  | [] => 0
  | _ :: r => lenL r + 1
theorem lenL_eq : ∀ l : List Value, lenL l = l.length
  | [] => rfl
  | _ :: r => by simp [lenL, lenL_eq r]
/-- a struct's cells, field by field -/
def fillL (places : List (Nat × Nat)) : List Value → List (Nat × Value) → Option (List Value)
  | cells, [] => some cells
  | cells, (i, v) :: rest => match nthP places i with
    | none => none
    | some (off, k) => match Nat.beq (lenL (cellsL v)) k, overL cells off (cellsL v) with
      | true, some out => fillL places out rest
      | _, _ => none
theorem fillL_eq (places : List (Nat × Nat)) : ∀ (parts : List (Nat × Value)) (cells out : List Value), fillL places cells parts = some out → Instr.fill (places.toArray[·]?) cells.toArray parts = some out.toArray
  | [], cells, out, h => by simp [fillL] at h; subst h; simp [Instr.fill]
  | (i, v) :: rest, cells, out, h => by
    simp only [fillL] at h
    split at h
    · cases h
    · rename_i off k hp
      split at h
      · rename_i out1 hb ho
        obtain ⟨h1, h2⟩ := overL_eq _ _ _ _ ho
        have hk : (cellsL v).length = k := by rw [← lenL_eq]; exact Nat.eq_of_beq_eq_true hb
        have ih := fillL_eq places rest out1 out h
        rw [nthP_eq] at hp
        have hfs := fold_set (cellsL v) off cells.toArray (by simpa using h1)
        have hfa : (v.cells.zipIdx.foldl (fun (cs : Array Value) (x : Value × Nat) => cs.setIfInBounds (off + x.2) x.1) cells.toArray) = out1.toArray := by
          rw [cellsL_eq, ← Array.foldl_toList, Array.toList_zipIdx, h2]
          simpa using hfs
        have hfb : (v.cells.zipIdx.foldl (fun cs (x : Value × Nat) => match x with | (c, j) => cs.setIfInBounds (off + j) c) cells.toArray) = out1.toArray := hfa
        simp only [Instr.fill]
        rw [show (places.toArray[i]?) = some (off, k) by simpa using hp]
        simp only
        rw [if_neg (by rw [cellsL_eq]; simp [hk]; omega), hfb]
        exact ih
      · cases h

section
variable {P : Program} {Q : Exit → Act → World → Prop} {n : Nat} {σ : Sg} {w : World} {L rest : List Oper} {d : Nat} {ty : TypeId} {pos : String} {af : Array Edge} {g : Option (Nat × Bool)} {t e : TypeId} {x y : Operand} {b o : Nat} {cells : List Value}

theorem run_fa {f k : Nat} [hf : IsFd P t f k] (w : World) : (Instr.fieldAt t (.pointer (some ⟨b, o, none⟩)) f).run P w = .ok (.pointer (some ⟨b, o + k, none⟩)) w := by
  obtain ⟨fs, fld, i, h1, h2, h3, h4, h5⟩ := hf.ok
  simp [Instr.fieldAt, run_underlying h1, h2, Instr.sureAddr, fieldPlace, sizeOf, typeInfo, h4, h5, h3, WideShapes.add_plain]
/-- &x.f -/
theorem WL.fa {f k : Nat} (hg : gd L σ ⟨some d, .fieldAddr t x f, ty, pos, af, g⟩ = some true) (hd : Nat.ble (d + 1) n = true) (hx : ev σ x = some (.pointer (some ⟨b, o, none⟩))) [hf : IsFd P t f k]
    (h : WL P L Q rest n ((d, .pointer (some ⟨b, o + k, none⟩)) :: σ) w) : WL P L Q (⟨some d, .fieldAddr t x f, ty, pos, af, g⟩ :: rest) n σ w := by
  refine WL.run hg hd (fun a ha => ?_) h
  simp [execOp, ha.ev hx, run_fa (P := P) (t := t) (f := f) (k := k)]
theorem QL.fa {f k : Nat} (hg : gd L σ ⟨some d, .fieldAddr t x f, ty, pos, af, g⟩ = some true) (hd : Nat.ble (d + 1) n = true) (hx : ev σ x = some (.pointer (some ⟨b, o, none⟩))) [hf : IsFd P t f k]
    (h : QL P L w Q rest n ((d, .pointer (some ⟨b, o + k, none⟩)) :: σ)) : QL P L w Q (⟨some d, .fieldAddr t x f, ty, pos, af, g⟩ :: rest) n σ := by
  refine QL.run hg hd (fun a ha w' _ => ?_) h
  simp [execOp, ha.ev hx, run_fa (P := P) (t := t) (f := f) (k := k)]
theorem run_ld {v : Value} (w : World) (hb : Blk w b e cells) (hv : nthV cells o = some v) [hc : IsC P t 1 false] : (Instr.loadAt t (.pointer (some ⟨b, o, none⟩))).run P w = .ok v w := by
  obtain ⟨i, dd, h1, h2, h3, h4⟩ := hc.ok
  have hagg : (isAgg t).run P w = .ok false w := by
    unfold isAgg
    rw [Sem.run_bind, run_underlying h3 w, ← h4]
    cases dd <;> rfl
  rw [nthV_eq] at hv
  simp only [Instr.loadAt, Sem.run_bind, Instr.sureAddr, Sem.run_pure, Result.andThen_ok, loadVar, hagg]
  simp [hb.cell hv]
theorem run_ldA {vs : List Value} {k : Nat} (w : World) (hb : Blk w b e cells) (hv : segL cells o k = some vs) [hc : IsC P t k true] : (Instr.loadAt t (.pointer (some ⟨b, o, none⟩))).run P w = .ok (.agg vs.toArray) w := by
  obtain ⟨i, dd, h1, h2, h3, h4⟩ := hc.ok
  have hagg : (isAgg t).run P w = .ok true w := by
    unfold isAgg
    rw [Sem.run_bind, run_underlying h3 w, ← h4]
    cases dd <;> rfl
  obtain ⟨hl, hs⟩ := segL_eq _ _ _ _ hv
  have hld := run_loadCells_list (P := P) w ⟨b, o, none⟩ vs (fun j u hu => by rw [WideShapes.add_plain]; exact hb.cell (hs j u hu))
  rw [hl] at hld
  simp [Instr.loadAt, Instr.sureAddr, loadVar, hagg, sizeOf, typeInfo, h1, h2, hld]
/-- *p, one cell -/
theorem WL.ld {v : Value} (hg : gd L σ ⟨some d, .load t x, ty, pos, af, g⟩ = some true) (hd : Nat.ble (d + 1) n = true) (hx : ev σ x = some (.pointer (some ⟨b, o, none⟩))) [hc : IsC P t 1 false] (hb : Blk w b e cells) (hv : nthV cells o = some v)
    (h : WL P L Q rest n ((d, v) :: σ) w) : WL P L Q (⟨some d, .load t x, ty, pos, af, g⟩ :: rest) n σ w := by
  refine WL.run hg hd (fun a ha => ?_) h
  simp [execOp, ha.ev hx, run_ld (P := P) (t := t) w hb hv]
theorem QL.ld {v : Value} (hg : gd L σ ⟨some d, .load t x, ty, pos, af, g⟩ = some true) (hd : Nat.ble (d + 1) n = true) (hx : ev σ x = some (.pointer (some ⟨b, o, none⟩))) [hc : IsC P t 1 false] (hb : Blk w b e cells) (hv : nthV cells o = some v)
    (h : QL P L w Q rest n ((d, v) :: σ)) : QL P L w Q (⟨some d, .load t x, ty, pos, af, g⟩ :: rest) n σ := by
  refine QL.run hg hd (fun a ha w' hE => ?_) h
  simp [execOp, ha.ev hx, run_ld (P := P) (t := t) w' (hb.ext hE) hv]
/-- *p, a struct -/
theorem WL.ldA {vs : List Value} {k : Nat} (hg : gd L σ ⟨some d, .load t x, ty, pos, af, g⟩ = some true) (hd : Nat.ble (d + 1) n = true) (hx : ev σ x = some (.pointer (some ⟨b, o, none⟩))) [hc : IsC P t k true] (hb : Blk w b e cells) (hv : segL cells o k = some vs)
    (h : WL P L Q rest n ((d, .agg vs.toArray) :: σ) w) : WL P L Q (⟨some d, .load t x, ty, pos, af, g⟩ :: rest) n σ w := by
  refine WL.run hg hd (fun a ha => ?_) h
  simp [execOp, ha.ev hx, run_ldA (P := P) (t := t) w hb hv]
theorem QL.ldA {vs : List Value} {k : Nat} (hg : gd L σ ⟨some d, .load t x, ty, pos, af, g⟩ = some true) (hd : Nat.ble (d + 1) n = true) (hx : ev σ x = some (.pointer (some ⟨b, o, none⟩))) [hc : IsC P t k true] (hb : Blk w b e cells) (hv : segL cells o k = some vs)
    (h : QL P L w Q rest n ((d, .agg vs.toArray) :: σ)) : QL P L w Q (⟨some d, .load t x, ty, pos, af, g⟩ :: rest) n σ := by
  refine QL.run hg hd (fun a ha w' hE => ?_) h
  simp [execOp, ha.ev hx, run_ldA (P := P) (t := t) w' (hb.ext hE) hv]
/-- a nil check that passes -/
theorem WL.nck {p : Addr} (hg : gd L σ ⟨some d, .nilCheck x, ty, pos, af, g⟩ = some true) (hd : Nat.ble (d + 1) n = true) (hx : ev σ x = some (.pointer (some p)))
    (h : WL P L Q rest n ((d, .pointer (some p)) :: σ) w) : WL P L Q (⟨some d, .nilCheck x, ty, pos, af, g⟩ :: rest) n σ w := by
  refine WL.run hg hd (fun a ha => ?_) h
  simp [execOp, ha.ev hx]
theorem QL.nck {p : Addr} (hg : gd L σ ⟨some d, .nilCheck x, ty, pos, af, g⟩ = some true) (hd : Nat.ble (d + 1) n = true) (hx : ev σ x = some (.pointer (some p)))
    (h : QL P L w Q rest n ((d, .pointer (some p)) :: σ)) : QL P L w Q (⟨some d, .nilCheck x, ty, pos, af, g⟩ :: rest) n σ := by
  refine QL.run hg hd (fun a ha _ _ => ?_) h
  simp [execOp, ha.ev hx]
/-- a variable of the call's own, with a value -/
theorem WL.boxB {v : Value} (hg : gd L σ ⟨some d, .box e x, ty, pos, af, g⟩ = some true) (hd : Nat.ble (d + 1) n = true) (hx : ev σ x = some v)
    (h : ∀ w', Blk w' w.heap.size e (cellsL v) → Ext w w' → WL P L Q rest n ((d, .pointer (some ⟨w.heap.size, 0, none⟩)) :: σ) w') : WL P L Q (⟨some d, .box e x, ty, pos, af, g⟩ :: rest) n σ w := by
  refine WL.box hg hd hx ?_
  have := Blk.alloc w (cellsL v) e
  rw [← cellsL_eq] at this
  exact h _ this (Ext.alloc w _)
/-- .. with the zero value -/
theorem WL.alloc {zs : List Value} (hg : gd L σ ⟨some d, .alloc e, ty, pos, af, g⟩ = some true) (hd : Nat.ble (d + 1) n = true) [hz : IsZC P e zs]
    (h : ∀ w', Blk w' w.heap.size e zs → Ext w w' → WL P L Q rest n ((d, .pointer (some ⟨w.heap.size, 0, none⟩)) :: σ) w') : WL P L Q (⟨some d, .alloc e, ty, pos, af, g⟩ :: rest) n σ w := by
  obtain ⟨i, z, h1, h2, h3⟩ := hz.ok
  refine WL.run hg hd (fun a ha => ?_) (h _ (Blk.alloc w zs e) (Ext.alloc w _))
  simp [execOp, Instr.alloc, zeroValue, typeInfo, h1, h2, newVar, newRow, h3]
theorem grown_setRow (w : World) (b : Nat) (cs : Array Value) : w.grownBy (w.setRow b cs) (some b) := ⟨rfl, rfl, rfl, by simp, fun k _ hk => setRow_other w b k _ (fun e => hk (by simp [e]))⟩
/-- *p = v, as many cells as v has -/
theorem WL.st {v : Value} {k : Nat} {ag : Bool} {out : List Value} (hg : gd L σ ⟨none, .store t x y, ty, pos, af, g⟩ = some true) (hx : ev σ x = some (.pointer (some ⟨b, o, none⟩))) (hy : ev σ y = some v) [hc : IsC P t k ag] (hb : Blk w b e cells)
    (hk : lenL (cellsL v) = k) (hout : overL cells o (cellsL v) = some out) (h1 : ∀ u ∈ cellsL v, u.oneCell' = true)
    (h : ∀ w', Blk w' b e out → w.grownBy w' (some b) → WL P L Q rest n σ w') : WL P L Q (⟨none, .store t x y, ty, pos, af, g⟩ :: rest) n σ w := by
  obtain ⟨hle, rfl⟩ := overL_eq _ _ _ _ hout
  obtain ⟨i, dd, hi1, hi2, _, _⟩ := hc.ok
  rw [lenL_eq] at hk
  subst hk
  have hst := run_storeCells_at P b o e (cellsL v) 0 cells.toArray w hb (by simpa using hle) h1
  simp only [Nat.add_zero] at hst
  refine WL.runU hg (fun a ha => ?_) (h _ (by
    have := setRow_heap w b cells.toArray (cells.take o ++ cellsL v ++ cells.drop (o + (cellsL v).length)).toArray e (0, 0) hb
    exact this) (grown_setRow w b _))
  simp only [execOp, ha.ev hx, ha.ev hy, Instr.storeAt, Sem.run_bind, Instr.sureAddr, Sem.run_pure, Result.andThen_ok, storeVar, sizeOf, typeInfo, run_program, hi1, hi2, cellsL_eq, hst]
  simp
  simp [hst]
theorem run_buildA {parts : List (Nat × Operand)} {vs : List Value} {places : List (Nat × Nat)} {zs out : List Value} {a : Act} (ha : Fr n σ a)
    (hv : evs σ (sndL parts) = some vs) [hz : IsZC P t zs] [hp : IsBd P t places] (hf : fillL places zs ((parts.map (·.1)).zip vs) = some out) {w : World} {dd : Option Nat} :
    (execOp a.eval ⟨dd, .build t parts.toArray, ty, pos, af, g⟩).run P w = .ok (.value (.agg out.toArray)) w := by
  obtain ⟨i, z, h1, h2, h3⟩ := hz.ok
  obtain ⟨fs, h4, h5⟩ := hp.ok
  have hsnd : ∀ l : List (Nat × Operand), sndL l = l.map (·.2) := by
    intro l; induction l with
    | nil => rfl
    | cons p r ih => obtain ⟨i, x⟩ := p; simp [sndL, ih]
  have e1 := evs_eq ha (sndL parts) vs hv
  rw [hsnd, List.map_map] at e1
  have e2 : (parts.toArray.map fun (x : Nat × Operand) => (x.1, a.eval x.2)).toList = (parts.map (·.1)).zip vs := by
    rw [← e1]
    simp only [List.map_toArray]
    clear hv hf e1
    induction parts with
    | nil => rfl
    | cons p r ih => simpa using ih
  have hb : P.built t ((parts.map (·.1)).zip vs) = some out.toArray := by
    unfold Program.built
    rw [h1, h4]
    simp only [h2, h5]
    rw [h3]
    exact fillL_eq places _ zs out hf
  have hrun := run_build (P := P) w t (parts.toArray.map fun (x : Nat × Operand) => (x.1, a.eval x.2)) out.toArray (by rw [e2]; exact hb)
  have e3 : (execOp a.eval ⟨dd, .build t parts.toArray, ty, pos, af, g⟩) = (do let v ← Instr.build t (parts.toArray.map fun (x : Nat × Operand) => (x.1, a.eval x.2)); Pure.pure (Next.value v) : Sem Next) := rfl
  rw [e3, Sem.run_bind, hrun]
  rfl
/-- a struct's value -/
theorem WL.build {parts : List (Nat × Operand)} {vs : List Value} {places : List (Nat × Nat)} {zs out : List Value} (hg : gd L σ ⟨some d, .build t parts.toArray, ty, pos, af, g⟩ = some true) (hd : Nat.ble (d + 1) n = true)
    (hv : evs σ (sndL parts) = some vs) [hz : IsZC P t zs] [hp : IsBd P t places] (hf : fillL places zs ((parts.map (·.1)).zip vs) = some out)
    (h : WL P L Q rest n ((d, .agg out.toArray) :: σ) w) : WL P L Q (⟨some d, .build t parts.toArray, ty, pos, af, g⟩ :: rest) n σ w := by
  exact WL.run hg hd (fun a ha => run_buildA ha hv hf) h
end
end Go.Proofs.Ytikigaeihdmcaaa

/-
  Numbers: shifts, bits, division, conversions. Over any program.
-/
set_option linter.unusedVariables false
set_option linter.unusedSimpArgs false
namespace Go.Proofs.Ytikigaeihdmcaaa
open Go.RowKit

/-- a region, and what holds behind it: many ways that meet again -/
theorem CW.cut {P : Program} {Q : Exit → Act → World → Prop} {n : Nat} {σ : Sg} {w : World} {x y : Code} (τ : Sg) (h : CW P x (fun e a w' => e = .normal ∧ Fr n τ a ∧ w' = w) n σ w) (hr : CW P y Q n τ w) : CW P (.seq x y) Q n σ w := by
  refine CW.seq ?_
  unfold CW at *
  intro a ha
  refine wp_mono (h a ha) ?_
  rintro e a' w' ⟨rfl, hF, rfl⟩
  exact hr a' hF
theorem EX.cut {n : Nat} {σ τ : Sg} {w : World} (hs : Sub τ σ) : EX (fun e a w' => e = .normal ∧ Fr n τ a ∧ w' = w) .normal n σ w := by
  unfold EX; exact fun a ha => ⟨rfl, ha.sub hs, rfl⟩
/-- the same, with new memory -/
theorem CW.cutE {P : Program} {Q : Exit → Act → World → Prop} {n : Nat} {σ : Sg} {w : World} {x y : Code} (τ : Sg) (h : CW P x (fun e a w' => e = .normal ∧ Fr n τ a ∧ Ext w w') n σ w) (hr : ∀ w', Ext w w' → CW P y Q n τ w') : CW P (.seq x y) Q n σ w := by
  refine CW.seq ?_
  unfold CW at *
  intro a ha
  refine wp_mono (h a ha) ?_
  rintro e a' w' ⟨rfl, hF, hE⟩
  exact hr w' hE a' hF
theorem EX.cutE {n : Nat} {σ τ : Sg} {w w' : World} (hs : Sub τ σ) (hE : Ext w w') : EX (fun e a w' => e = .normal ∧ Fr n τ a ∧ Ext w w') .normal n σ w' := by
  unfold EX; exact fun a ha => ⟨rfl, ha.sub hs, hE⟩

/-- the same, with a state -/
theorem CW.cutI {P : Program} {Q : Exit → Act → World → Prop} {n : Nat} {σ : Sg} {w : World} {x y : Code} {S : Type} (σs : S → Sg) (I : S → World → Prop) (h : CW P x (fun e a w' => e = .normal ∧ ∃ s, Fr n (σs s) a ∧ I s w') n σ w) (hr : ∀ s w', I s w' → CW P y Q n (σs s) w') : CW P (.seq x y) Q n σ w := by
  refine CW.seq ?_
  unfold CW at *
  intro a ha
  refine wp_mono (h a ha) ?_
  rintro e a' w' ⟨rfl, s, hF, hI⟩
  exact hr s w' hI a' hF
theorem EX.cutI {n : Nat} {σ : Sg} {w : World} {S : Type} {σs : S → Sg} {I : S → World → Prop} (s : S) (hs : Sub (σs s) σ) (hI : I s w) : EX (fun e a w' => e = .normal ∧ ∃ s, Fr n (σs s) a ∧ I s w') .normal n σ w := by
  unfold EX; exact fun a ha => ⟨rfl, s, ha.sub hs, hI⟩

def onesL : List Value → Bool
  | [] => true
  | v :: r => match v.oneCell' with
    | true => onesL r
    | false => false
theorem ones_of : ∀ {l : List Value}, onesL l = true → ∀ u ∈ l, u.oneCell' = true
  | [], _, u, hu => by cases hu
  | v :: r, h, u, hu => by
    simp only [onesL] at h
    split at h
    · rename_i hv
      rcases List.mem_cons.1 hu with rfl | hu
      · exact hv
      · exact ones_of h u hu
    · cases h
theorem eqG {op : BinOp} (h : (op == .eql || op == .neq) = false) (t : TypeId) (x y : Operand) (u v : Value) : eqGuard op t x y u v = Pure.pure () := by
  cases op <;> first | rfl | (simp at h)
theorem shr_nat (a s : Nat) (ha : a < 18446744073709551616) : (a : Int) / 2 ^ min s 64 = ((a >>> s : Nat) : Int) := by
  rw [Nat.shiftRight_eq_div_pow]
  by_cases h : s ≤ 64
  · rw [Nat.min_eq_left h]; simp
  · rw [Nat.min_eq_right (by omega)]
    have h1 : a / 2 ^ s = 0 := Nat.div_eq_of_lt (Nat.lt_of_lt_of_le ha (by
      have := Nat.pow_le_pow_right (n := 2) (by omega) (show 64 ≤ s by omega)
      simpa using this))
    rw [h1]
    omega
theorem run_shrN (P : Program) (w : World) (a s : Nat) (ha : a < 18446744073709551616) (t : TypeId) : (binOp .shr t (.int .u64 (a : Int)) (.int .i64 (s : Int))).run P w = .ok (.int .u64 ((a >>> s : Nat) : Int)) w := by
  have h : binOp .shr t (.int .u64 (a : Int)) (.int .i64 (s : Int)) = Op.shift .shr .u64 (a : Int) .i64 (s : Int) := rfl
  rw [h, shift_shr_any _ _ _ _ (by omega)]
  have := shr_nat a s ha
  simp only [Int.toNat_natCast, IntKind.bits]
  rw [this]
  rfl
theorem run_shrI (P : Program) (w : World) (a : Nat) (s : Int) (ha : a < 18446744073709551616) (hs : 0 ≤ s) (t : TypeId) : (binOp .shr t (.int .u64 (a : Int)) (.int .i64 s)).run P w = .ok (.int .u64 ((a >>> s.toNat : Nat) : Int)) w := by
  have h1 := run_shrN P w a s.toNat ha t
  rwa [Int.toNat_of_nonneg hs] at h1
theorem run_andN (P : Program) (w : World) (a b : Nat) (ha : a < 18446744073709551616) (hb : b < 18446744073709551616) (t : TypeId) : (binOp .and t (.int .u64 (a : Int)) (.int .u64 (b : Int))).run P w = .ok (.int .u64 ((a &&& b : Nat) : Int)) w := by
  have h : binOp .and t (.int .u64 (a : Int)) (.int .u64 (b : Int)) = Op.intBits .and .u64 (a : Int) (b : Int) := rfl
  rw [h, intBits_and, bits_and_u64_nat a b ha hb]; rfl
theorem run_rem (P : Program) (w : World) (a b : Int) (ha : 0 ≤ a) (hb : 0 < b) (t : TypeId) (k : IntKind) : (binOp .rem t (.int k a) (.int k b)).run P w = .ok (.int k (a % b)) w := by
  have h : binOp .rem t (.int k a) (.int k b) = Op.intDiv .rem k a b := by simp [binOp]
  have h0 : ¬ b = 0 := by omega
  rw [h]
  simp [Op.intDiv, h0, Int.tmod_eq_emod_of_nonneg ha]
class IsI (P : Program) (t : TypeId) (k : IntKind) : Prop where
  ok : P.underlying t = some (.int k)

section
variable {P : Program} {Q : Exit → Act → World → Prop} {n : Nat} {σ : Sg} {w : World} {L rest : List Oper} {d : Nat} {ty : TypeId} {pos : String} {af : Array Edge} {g : Option (Nat × Bool)} {t yt : TypeId} {x y : Operand}
theorem WL.shrI {a : Nat} {s : Int} (hg : gd L σ ⟨some d, .binOp .shr t x y yt, ty, pos, af, g⟩ = some true) (hd : Nat.ble (d + 1) n = true) (hx : ev σ x = some (.int .u64 (a : Int))) (hy : ev σ y = some (.int .i64 s)) (ha : a < 18446744073709551616) (hs : 0 ≤ s)
    (h : WL P L Q rest n ((d, .int .u64 ((a >>> s.toNat : Nat) : Int)) :: σ) w) : WL P L Q (⟨some d, .binOp .shr t x y yt, ty, pos, af, g⟩ :: rest) n σ w := by
  refine WL.run hg hd (fun a0 ha0 => ?_) h
  have := run_shrI P w a s ha hs t
  simp [execOp, ha0.ev hx, ha0.ev hy, eqG (op := .shr) rfl, this]
theorem WL.and1 {a : Nat} (hg : gd L σ ⟨some d, .binOp .and t x y yt, ty, pos, af, g⟩ = some true) (hd : Nat.ble (d + 1) n = true) (hx : ev σ x = some (.int .u64 (a : Int))) (hy : ev σ y = some (.int .u64 1)) (ha : a < 18446744073709551616)
    (h : WL P L Q rest n ((d, .int .u64 ((a &&& 1 : Nat) : Int)) :: σ) w) : WL P L Q (⟨some d, .binOp .and t x y yt, ty, pos, af, g⟩ :: rest) n σ w := by
  refine WL.run hg hd (fun a0 ha0 => ?_) h
  have : (binOp .and t (.int .u64 (a : Int)) (.int .u64 1)).run P w = .ok (.int .u64 ((a &&& 1 : Nat) : Int)) w := run_andN P w a 1 ha (by omega) t
  simp [execOp, ha0.ev hx, ha0.ev hy, eqG (op := .and) rfl, this]
theorem WL.rem {a b : Int} {k : IntKind} (hg : gd L σ ⟨some d, .binOp .rem t x y yt, ty, pos, af, g⟩ = some true) (hd : Nat.ble (d + 1) n = true) (hx : ev σ x = some (.int k a)) (hy : ev σ y = some (.int k b)) (ha : 0 ≤ a) (hb : 0 < b)
    (h : WL P L Q rest n ((d, .int k (a % b)) :: σ) w) : WL P L Q (⟨some d, .binOp .rem t x y yt, ty, pos, af, g⟩ :: rest) n σ w := by
  refine WL.run hg hd (fun a0 ha0 => ?_) h
  have := run_rem P w a b ha hb t k
  simp [execOp, ha0.ev hx, ha0.ev hy, eqG (op := .rem) rfl, this]
theorem WL.conv {a : Int} {k k' : IntKind} (hg : gd L σ ⟨some d, .convert t yt x, ty, pos, af, g⟩ = some true) (hd : Nat.ble (d + 1) n = true) (hx : ev σ x = some (.int k a)) [h1 : IsI P t k] [h2 : IsI P yt k']
    (h : WL P L Q rest n ((d, .int k' (k'.wrap a)) :: σ) w) : WL P L Q (⟨some d, .convert t yt x, ty, pos, af, g⟩ :: rest) n σ w := by
  refine WL.run hg hd (fun a0 ha0 => ?_) h
  simp [execOp, ha0.ev hx, convert, run_underlying h1.ok, run_underlying h2.ok, Conv.intToInt]
theorem QL.shrI {a : Nat} {s : Int} (hg : gd L σ ⟨some d, .binOp .shr t x y yt, ty, pos, af, g⟩ = some true) (hd : Nat.ble (d + 1) n = true) (hx : ev σ x = some (.int .u64 (a : Int))) (hy : ev σ y = some (.int .i64 s)) (ha : a < 18446744073709551616) (hs : 0 ≤ s)
    (h : QL P L w Q rest n ((d, .int .u64 ((a >>> s.toNat : Nat) : Int)) :: σ)) : QL P L w Q (⟨some d, .binOp .shr t x y yt, ty, pos, af, g⟩ :: rest) n σ := by
  refine QL.run hg hd (fun a0 ha0 w1 _ => ?_) h
  have := run_shrI P w1 a s ha hs t
  simp [execOp, ha0.ev hx, ha0.ev hy, eqG (op := .shr) rfl, this]
theorem QL.and1 {a : Nat} (hg : gd L σ ⟨some d, .binOp .and t x y yt, ty, pos, af, g⟩ = some true) (hd : Nat.ble (d + 1) n = true) (hx : ev σ x = some (.int .u64 (a : Int))) (hy : ev σ y = some (.int .u64 1)) (ha : a < 18446744073709551616)
    (h : QL P L w Q rest n ((d, .int .u64 ((a &&& 1 : Nat) : Int)) :: σ)) : QL P L w Q (⟨some d, .binOp .and t x y yt, ty, pos, af, g⟩ :: rest) n σ := by
  refine QL.run hg hd (fun a0 ha0 w1 _ => ?_) h
  have : (binOp .and t (.int .u64 (a : Int)) (.int .u64 1)).run P w1 = .ok (.int .u64 ((a &&& 1 : Nat) : Int)) w1 := run_andN P w1 a 1 ha (by omega) t
  simp [execOp, ha0.ev hx, ha0.ev hy, eqG (op := .and) rfl, this]
theorem QL.rem {a b : Int} {k : IntKind} (hg : gd L σ ⟨some d, .binOp .rem t x y yt, ty, pos, af, g⟩ = some true) (hd : Nat.ble (d + 1) n = true) (hx : ev σ x = some (.int k a)) (hy : ev σ y = some (.int k b)) (ha : 0 ≤ a) (hb : 0 < b)
    (h : QL P L w Q rest n ((d, .int k (a % b)) :: σ)) : QL P L w Q (⟨some d, .binOp .rem t x y yt, ty, pos, af, g⟩ :: rest) n σ := by
  refine QL.run hg hd (fun a0 ha0 w1 _ => ?_) h
  have := run_rem P w1 a b ha hb t k
  simp [execOp, ha0.ev hx, ha0.ev hy, eqG (op := .rem) rfl, this]
theorem QL.conv {a : Int} {k k' : IntKind} (hg : gd L σ ⟨some d, .convert t yt x, ty, pos, af, g⟩ = some true) (hd : Nat.ble (d + 1) n = true) (hx : ev σ x = some (.int k a)) [h1 : IsI P t k] [h2 : IsI P yt k']
    (h : QL P L w Q rest n ((d, .int k' (k'.wrap a)) :: σ)) : QL P L w Q (⟨some d, .convert t yt x, ty, pos, af, g⟩ :: rest) n σ := by
  refine QL.run hg hd (fun a0 ha0 w1 _ => ?_) h
  simp [execOp, ha0.ev hx, convert, run_underlying h1.ok, run_underlying h2.ok, Conv.intToInt]
end
end Go.Proofs.Ytikigaeihdmcaaa

/-
  Structs as pairs: their readings, their opening. Over any program.
-/
set_option linter.unusedVariables false
set_option linter.unusedSimpArgs false
namespace Go.Proofs.Ytikigaeihdmcaaa
open Go.RowKit

instance iPr1 {α β : Type} [Rep α] [Rep β] : Rep (α × β) where
  sz := sz α + sz β
  pos := by have := (Rep.pos : 0 < Rep.sz α); show 0 < Rep.sz α + Rep.sz β; omega
  agg := true
  rd := fun w F cs x => ∃ c1 c2, cs = c1 ++ c2 ∧ rd w F c1 x.1 ∧ rd w F c2 x.2
  len := by rintro w F cs x ⟨c1, c2, rfl, h1, h2⟩; rw [List.length_append, Rep.len h1, Rep.len h2]
  one := by
    rintro w F cs x ⟨c1, c2, rfl, h1, h2⟩ v hv
    rcases List.mem_append.1 hv with h | h
    · exact Rep.one h1 v h
    · exact Rep.one h2 v h
  szAgg := fun h => by cases h
  mono := by rintro w w' F F' cs x ⟨c1, c2, rfl, h1, h2⟩ hb hF; exact ⟨c1, c2, rfl, Rep.mono h1 hb hF, Rep.mono h2 hb hF⟩

/-- a struct's cells and what they say: field by field -/
theorem Rd.pr {α β : Type} [Rep α] [Rep β] {w : World} {F : Nat → Prop} {v : Value} {x : α × β} (h : Rd w F v x) : ∃ c1 c2, v = .agg (c1 ++ c2).toArray ∧ rd w F c1 x.1 ∧ rd w F c2 x.2 := by
  obtain ⟨cs, rfl, c1, c2, rfl, h1, h2⟩ := h
  exact ⟨c1, c2, rfl, h1, h2⟩
theorem rd_pr {α β : Type} [Rep α] [Rep β] {w : World} {F : Nat → Prop} {cs : List Value} {x : α × β} (h : rd w F cs x) : ∃ c1 c2, cs = c1 ++ c2 ∧ rd w F c1 x.1 ∧ rd w F c2 x.2 := h
theorem rd_int {w : World} {F : Nat → Prop} {cs : List Value} {x : Int} (h : rd w F cs x) : cs = [.int .i64 x] := h
theorem rd_sl {α : Type} [Rep α] {w : World} {F : Nat → Prop} {cs : List Value} {x : List α} (h : rd w F cs x) : ∃ ao cap, cs = [.slice ao x.length cap] ∧ Sl w F ao cap x := h
theorem Rd.mkPr {α β : Type} [Rep α] [Rep β] {w : World} {F : Nat → Prop} {c1 c2 : List Value} {x : α} {y : β} (h1 : rd w F c1 x) (h2 : rd w F c2 y) : Rd w F (.agg (c1 ++ c2).toArray) (x, y) := ⟨_, rfl, c1, c2, rfl, h1, h2⟩
theorem rd_mk {α β : Type} [Rep α] [Rep β] {w : World} {F : Nat → Prop} {c1 c2 : List Value} {x : α} {y : β} (h1 : rd w F c1 x) (h2 : rd w F c2 y) : rd w F (c1 ++ c2) (x, y) := ⟨c1, c2, rfl, h1, h2⟩
theorem rd_mkInt (w : World) (F : Nat → Prop) (x : Int) : rd w F [.int .i64 x] x := rfl
theorem rd_mkU64 (w : World) (F : Nat → Prop) (x : Nat) (h : x < 18446744073709551616) : rd w F [.int .u64 (x : Int)] x := ⟨rfl, h⟩
end Go.Proofs.Ytikigaeihdmcaaa

/-
  Regions whose order is open and which change memory: what only reads is taken first, what changes memory comes alone. Over any program.
-/
set_option linter.unusedVariables false
set_option linter.unusedSimpArgs false
namespace Go.Proofs.Ytikigaeihdmcaaa
open Go.RowKit

def nthO : List Oper → Nat → Option Oper
  | [], _ => none
  | o :: _, 0 => some o
  | _ :: r, i + 1 => nthO r i
theorem nthO_eq : ∀ (l : List Oper) (i : Nat), nthO l i = l[i]?
  | [], i => by simp [nthO]
  | o :: r, 0 => by simp [nthO]
  | o :: r, i + 1 => by simp [nthO, nthO_eq r i]
/-- an order that stands for all: (i, true): number i may be taken first; (i, false): nothing else may come -/
def ordB (ops : Array Oper) : List (Nat × Bool) → Array Bool → Bool
  | [], listed => (Region.ready .any ops listed).isEmpty
  | (i, true) :: r, listed => (Region.ready .any ops listed).contains i && Region.free .any ops listed i && ordB ops r (listed.setIfInBounds i true)
  | (i, false) :: r, listed => decide (Region.ready .any ops listed = [i]) && ordB ops r (listed.setIfInBounds i true)
def ordOk (l : List Oper) (ord : List (Nat × Bool)) : Bool := Region.noSelect l.toArray && decide (ord.length = l.length) && ordB l.toArray ord (Array.replicate l.length false)

/-- the walk along the order -/
def wpHL (P : Program) (ops : List Oper) (S : World → Prop) (Q : Act → World → Prop) : List (Nat × Bool) → Act → World → Prop
  | [], a, w => Q a w
  | (i, true) :: r, a, w => ∃ o v, ops[i]? = some o ∧ YieldsIf P ops.toArray S o v a ∧ wpHL P ops S Q r (a.put o.dst v) w
  | (i, false) :: r, a, w => ∃ o, ops[i]? = some o ∧ (if Region.wanted o (yielded ops.toArray a.tmps) = true then o.wp P a w (fun a' w' => S w' ∧ wpHL P ops S Q r a' w') (fun e a w => e = .normal ∧ Q a w) else S w ∧ wpHL P ops S Q r (a.put o.dst undef) w)

theorem wpHL_sound {P : Program} {ops : List Oper} {S : World → Prop} {Q : Act → World → Prop} (hs : Region.noSelect ops.toArray = true) :
    ∀ (ord : List (Nat × Bool)) (listed : Array Bool) (a : Act) (w : World), ordB ops.toArray ord listed = true → S w → wpHL P ops S Q ord a w → wpAnyH P .any ops.toArray (fun e a w => e = .normal ∧ Q a w) S ord.length listed a w
  | [], listed, a, w, hB, _, h => by
    simp only [ordB, List.isEmpty_iff] at hB
    exact ⟨hB, rfl, h⟩
  | (i, true) :: r, listed, a, w, hB, hS, ⟨o, v, ho, hy, h⟩ => by
    simp only [ordB, Bool.and_eq_true] at hB
    exact wpAnyH_take (by simpa using ho) hs hB.1.2 hB.1.1 (fun _ _ _ h => by cases h.1) hy hS (wpHL_sound hs r _ _ _ hB.2 hS h)
  | (i, false) :: r, listed, a, w, hB, hS, ⟨o, ho, h⟩ => by
    simp only [ordB, Bool.and_eq_true, decide_eq_true_eq] at hB
    refine wpAnyH_all hB.1 (by simp) ?_
    intro j hj
    have hji : j = i := by simpa using hj
    subst hji
    have ho' : ops.toArray[j]? = some o := by simpa using ho
    unfold wpOp
    simp only [ho']
    split
    · rename_i hw
      rw [if_pos hw] at h
      exact .inl (Oper.wp_mono (fun a' w' h' => ⟨h'.1, wpHL_sound hs r _ _ _ hB.2 h'.1 h'.2⟩) h)
    · rename_i hw
      rw [if_neg hw] at h
      exact ⟨h.1, wpHL_sound hs r _ _ _ hB.2 h.1 h.2⟩

@[irreducible] def HL (P : Program) (ops : List Oper) (S : World → Prop) (Q : Exit → Act → World → Prop) (ord : List (Nat × Bool)) (n : Nat) (σ : Sg) (w : World) : Prop :=
  ∀ a, Fr n σ a → wpHL P ops S (fun a w => Q .normal a w) ord a w
/-- behind the draw -/
abbrev drew (w : World) : World := { w with drawn := w.drawn + 1 }
theorem Ext.drew (w : World) : Ext w (drew w) := ⟨rfl, rfl, rfl, Nat.le_refl _, fun _ _ => rfl⟩
/-- behind one operation -/
def AfterOp (P : Program) (ops : List Oper) (S : World → Prop) (Q : Exit → Act → World → Prop) (ord : List (Nat × Bool)) : Exit → Act → World → Prop :=
  fun e a w => e = .normal ∧ S w ∧ wpHL P ops S (fun a w => Q .normal a w) ord a w

section
variable {P : Program} {Q : Exit → Act → World → Prop} {n : Nat} {σ : Sg} {w : World} {L : List Oper} {S : World → Prop} {rest : List (Nat × Bool)} {i d : Nat} {op : Op} {ty : TypeId} {pos : String} {af : Array Edge} {g : Option (Nat × Bool)}

theorem CW.drawH {id : Nat} (S : World → Prop) (ord : List (Nat × Bool)) (hm : P.follows .mixedOrders = true) (hB : ordOk L ord = true) (hS : S (drew w)) (h : HL P L S Q ord n σ (drew w)) : CW P (.region id L.toArray true) Q n σ w := by
  unfold CW; unfold HL at h; intro a ha
  simp only [ordOk, Bool.and_eq_true, decide_eq_true_eq] at hB
  obtain ⟨⟨hs, hl⟩, hB⟩ := hB
  have h1 := wpHL_sound hs ord (Array.replicate L.length false) a (Go.Proofs.Ytikigaeihdmcaaa.drew w) hB hS (h a ha)
  rw [hl] at h1
  have h2 := wp_region_held (id := id) (S := S) hm (w := w) (ops := L.toArray) (by simpa using h1)
  exact wp_mono h2 (fun e a' w' ⟨he, hq⟩ => by subst he; exact hq)
theorem HL.nil (h : EX Q .normal n σ w) : HL P L S Q [] n σ w := by
  unfold HL; unfold EX at h; exact fun a ha => h a ha
theorem HL.run {v : Value} (ho : nthO L i = some ⟨some d, op, ty, pos, af, g⟩) (hg : gd L σ ⟨some d, op, ty, pos, af, g⟩ = some true) (hd : Nat.ble (d + 1) n = true)
    (hr : ∀ a, Fr n σ a → ∀ w', S w' → (execOp a.eval ⟨some d, op, ty, pos, af, g⟩).run P w' = .ok (.value v) w') (h : HL P L S Q rest n ((d, v) :: σ) w) : HL P L S Q ((i, true) :: rest) n σ w := by
  unfold HL at *
  intro a ha
  rw [nthO_eq] at ho
  exact ⟨_, v, ho, .inl ⟨gd_wanted ha hg, fun w' hw' => hr a ha w' hw'⟩, h _ (ha.put (d := some d) hd)⟩
theorem HL.pure {v : Value} (ho : nthO L i = some ⟨some d, op, ty, pos, af, g⟩) (hg : gd L σ ⟨some d, op, ty, pos, af, g⟩ = some true) (hd : Nat.ble (d + 1) n = true)
    (hv : pureOp σ op = some v) (h : HL P L S Q rest n ((d, v) :: σ) w) : HL P L S Q ((i, true) :: rest) n σ w :=
  HL.run ho hg hd (fun a ha _ _ => pureOp_run ha hv) h
theorem HL.pass (ho : nthO L i = some ⟨some d, op, ty, pos, af, g⟩) (hg : gd L σ ⟨some d, op, ty, pos, af, g⟩ = some false) (hd : Nat.ble (d + 1) n = true)
    (h : HL P L S Q rest n ((d, undef) :: σ) w) : HL P L S Q ((i, true) :: rest) n σ w := by
  unfold HL at *
  intro a ha
  rw [nthO_eq] at ho
  exact ⟨_, undef, ho, .inr ⟨gd_wanted ha hg, rfl⟩, h _ (ha.put (d := some d) hd)⟩
theorem HL.look {s : Nat} {b : Bool} {ord : List (Nat × Bool)} (hs : fnd σ s = some (.bool b)) (ht : b = true → HL P L S Q ord n ((s, .bool true) :: σ) w) (hf : b = false → HL P L S Q ord n ((s, .bool false) :: σ) w) : HL P L S Q ord n σ w := by
  unfold HL at *
  intro a ha
  cases b with
  | true => exact ht rfl a (ha.set hs)
  | false => exact hf rfl a (ha.set hs)
theorem HL.lookG {o : Oper} {j s : Nat} {want b t : Bool} (ho : nthO L i = some o) (hgd : o.guard = some (j, want)) (hj : gslot L j = some s) (hs : fnd σ s = some (.bool b)) (ht : b = true → HL P L S Q ((i, t) :: rest) n ((s, .bool true) :: σ) w)
    (hf : b = false → HL P L S Q ((i, t) :: rest) n ((s, .bool false) :: σ) w) : HL P L S Q ((i, t) :: rest) n σ w := HL.look hs ht hf
/-- an operation that changes memory, by the rule for its like where the order is fixed -/
theorem HL.mut {o : Oper} (ho : nthO L i = some o) (h : WL P L (AfterOp P L S Q rest) [o] n σ w) : HL P L S Q ((i, false) :: rest) n σ w := by
  unfold HL; unfold WL at h
  intro a ha
  rw [nthO_eq] at ho
  have h1 := h a ha
  refine ⟨o, ho, ?_⟩
  have h2 : wpList P L.toArray (AfterOp P L S Q rest) [o] a w := h1
  simp only [wpList] at h2
  split
  · rename_i hw
    rw [if_pos hw] at h2
    rcases h2 with h2 | ⟨_, hlets⟩
    · unfold Oper.wp at *
      generalize (execOp a.eval o).run P w = r at *
      cases r with
      | ok k w' =>
        cases k <;> simp only [Oper.upon] at h2 ⊢ <;> first
          | exact h2.2
          | exact h2
          | (refine Calls.mono h2 (fun e w'' he => ?_); cases e <;> first | exact he.2 | (exact absurd he.1 (by simp)) | (obtain ⟨_, _, hx⟩ := he; exact absurd hx.1 (by simp)))
          | exact Rows.mono h2 (fun _ _ he => he.2)
      | halt x w' => cases x <;> simp only [Oper.upon] at h2 ⊢ <;> first | exact h2 | (exact absurd h2.1 (by simp))
    · obtain ⟨_, _, hx⟩ := hlets
      exact absurd hx.1 (by simp)
  · rename_i hw
    rw [if_neg hw] at h2
    exact h2.2
theorem EX.mut (hS : S w) (h : HL P L S Q rest n σ w) : EX (AfterOp P L S Q rest) .normal n σ w := by
  unfold EX; unfold HL at h; exact fun a ha => ⟨rfl, hS, h a ha⟩
end
section
variable {P : Program} {Q : Exit → Act → World → Prop} {n : Nat} {σ : Sg} {w wc : World} {L : List Oper} {S : World → Prop} {rest : List (Nat × Bool)} {i d : Nat} {op : Op} {ty : TypeId} {pos : String} {af : Array Edge} {g : Option (Nat × Bool)} {t yt e : TypeId} {x y : Operand} {b o : Nat} {cells : List Value}
theorem HL.add {t yt : TypeId} {x y : Operand} {a b : Int} (ho : nthO L i = some ⟨some d, .binOp .add t x y yt, ty, pos, af, g⟩) (hg : gd L σ ⟨some d, .binOp .add t x y yt, ty, pos, af, g⟩ = some true) (hd : Nat.ble (d + 1) n = true)
    (hx : ev σ x = some (.int .i64 a)) (hy : ev σ y = some (.int .i64 b)) (h0 : -9223372036854775808 ≤ a + b) (h1 : a + b < 9223372036854775808) (h : HL P L S Q rest n ((d, .int .i64 (a + b)) :: σ) wc) : HL P L S Q ((i, true) :: rest) n σ wc := by
  refine HL.pure ho hg hd (v := .int .i64 (a + b)) ?_ h
  simp only [pureOp, hx, hy, pbin]
  rw [wrap_in h0 h1]
theorem HL.sub' {t yt : TypeId} {x y : Operand} {a b : Int} (ho : nthO L i = some ⟨some d, .binOp .sub t x y yt, ty, pos, af, g⟩) (hg : gd L σ ⟨some d, .binOp .sub t x y yt, ty, pos, af, g⟩ = some true) (hd : Nat.ble (d + 1) n = true)
    (hx : ev σ x = some (.int .i64 a)) (hy : ev σ y = some (.int .i64 b)) (h0 : -9223372036854775808 ≤ a - b) (h1 : a - b < 9223372036854775808) (h : HL P L S Q rest n ((d, .int .i64 (a - b)) :: σ) wc) : HL P L S Q ((i, true) :: rest) n σ wc := by
  refine HL.pure ho hg hd (v := .int .i64 (a - b)) ?_ h
  simp only [pureOp, hx, hy, pbin]
  rw [wrap_in h0 h1]
theorem HL.mul {t yt : TypeId} {x y : Operand} {a b : Int} (ho : nthO L i = some ⟨some d, .binOp .mul t x y yt, ty, pos, af, g⟩) (hg : gd L σ ⟨some d, .binOp .mul t x y yt, ty, pos, af, g⟩ = some true) (hd : Nat.ble (d + 1) n = true)
    (hx : ev σ x = some (.int .i64 a)) (hy : ev σ y = some (.int .i64 b)) (h0 : -9223372036854775808 ≤ a * b) (h1 : a * b < 9223372036854775808) (h : HL P L S Q rest n ((d, .int .i64 (a * b)) :: σ) wc) : HL P L S Q ((i, true) :: rest) n σ wc := by
  refine HL.pure ho hg hd (v := .int .i64 (a * b)) ?_ h
  simp only [pureOp, hx, hy, pbin]
  rw [wrap_in h0 h1]
theorem HL.neB {a b : Bool} (ho : nthO L i = some ⟨some d, .binOp .neq t x y yt, ty, pos, af, g⟩) (hg : gd L σ ⟨some d, .binOp .neq t x y yt, ty, pos, af, g⟩ = some true) (hd : Nat.ble (d + 1) n = true) (hx : ev σ x = some (.bool a)) (hy : ev σ y = some (.bool b)) [hb : IsB P t]
    (h : HL P L S Q rest n ((d, .bool (a != b)) :: σ) wc) : HL P L S Q ((i, true) :: rest) n σ wc := by
  refine HL.run ho hg hd (fun c hc w' _ => ?_) h
  have := run_neB (P := P) (t := t) (x := x) (y := y) a b w'
  simp only [execOp, hc.ev hx, hc.ev hy]
  rw [Sem.run_bind, this]; rfl
theorem HL.lenS {t e : TypeId} {x : Operand} {ao : Option Addr} {k cap : Nat} (ho : nthO L i = some ⟨some d, .call ⟨.builtin .len, #[x], #[t]⟩, ty, pos, af, g⟩) (hg : gd L σ ⟨some d, .call ⟨.builtin .len, #[x], #[t]⟩, ty, pos, af, g⟩ = some true) (hd : Nat.ble (d + 1) n = true)
    (hx : ev σ x = some (.slice ao k cap)) [hs : IsS P t e] (h : HL P L S Q rest n ((d, .int .i64 (k : Int)) :: σ) wc) : HL P L S Q ((i, true) :: rest) n σ wc := by
  refine HL.run ho hg hd (fun a ha _ _ => ?_) h
  simp [execOp, resolve, invoke, builtin, ha.ev hx, Builtin.len_, run_underlying hs.ok, goInt]
theorem HL.makeFunc {fn : Fn} {fs cs : List Operand} {fv cv : List Value} (ho : nthO L i = some ⟨some d, .makeFunc fn fs.toArray cs.toArray, ty, pos, af, g⟩) (hg : gd L σ ⟨some d, .makeFunc fn fs.toArray cs.toArray, ty, pos, af, g⟩ = some true) (hd : Nat.ble (d + 1) n = true)
    (hf : evs σ fs = some fv) (hc : evs σ cs = some cv) (h : HL P L S Q rest n ((d, .func fn fv.toArray cv.toArray) :: σ) wc) : HL P L S Q ((i, true) :: rest) n σ wc := by
  refine HL.run ho hg hd (fun a ha _ _ => ?_) h
  have e1 := evs_eq ha fs fv hf
  have e2 := evs_eq ha cs cv hc
  simp [execOp, Instr.makeFunc, e1, e2]
theorem HL.fa {f k : Nat} (ho : nthO L i = some ⟨some d, .fieldAddr t x f, ty, pos, af, g⟩) (hg : gd L σ ⟨some d, .fieldAddr t x f, ty, pos, af, g⟩ = some true) (hd : Nat.ble (d + 1) n = true) (hx : ev σ x = some (.pointer (some ⟨b, o, none⟩))) [hf : IsFd P t f k]
    (h : HL P L S Q rest n ((d, .pointer (some ⟨b, o + k, none⟩)) :: σ) wc) : HL P L S Q ((i, true) :: rest) n σ wc := by
  refine HL.run ho hg hd (fun a ha w' _ => ?_) h
  simp [execOp, ha.ev hx, run_fa (P := P) (t := t) (f := f) (k := k)]
theorem HL.ld {v : Value} (hSE : ∀ w1, S w1 → Ext w w1) (ho : nthO L i = some ⟨some d, .load t x, ty, pos, af, g⟩) (hg : gd L σ ⟨some d, .load t x, ty, pos, af, g⟩ = some true) (hd : Nat.ble (d + 1) n = true) (hx : ev σ x = some (.pointer (some ⟨b, o, none⟩))) [hc : IsC P t 1 false] (hb : Blk w b e cells) (hv : nthV cells o = some v)
    (h : HL P L S Q rest n ((d, v) :: σ) wc) : HL P L S Q ((i, true) :: rest) n σ wc := by
  refine HL.run ho hg hd (fun a ha w' hsw => ?_) h
  have hE := hSE _ hsw
  simp [execOp, ha.ev hx, run_ld (P := P) (t := t) w' (hb.ext hE) hv]
theorem HL.ldA {vs : List Value} {k : Nat} (hSE : ∀ w1, S w1 → Ext w w1) (ho : nthO L i = some ⟨some d, .load t x, ty, pos, af, g⟩) (hg : gd L σ ⟨some d, .load t x, ty, pos, af, g⟩ = some true) (hd : Nat.ble (d + 1) n = true) (hx : ev σ x = some (.pointer (some ⟨b, o, none⟩))) [hc : IsC P t k true] (hb : Blk w b e cells) (hv : segL cells o k = some vs)
    (h : HL P L S Q rest n ((d, .agg vs.toArray) :: σ) wc) : HL P L S Q ((i, true) :: rest) n σ wc := by
  refine HL.run ho hg hd (fun a ha w' hsw => ?_) h
  have hE := hSE _ hsw
  simp [execOp, ha.ev hx, run_ldA (P := P) (t := t) w' (hb.ext hE) hv]
theorem HL.nck {p : Addr} (ho : nthO L i = some ⟨some d, .nilCheck x, ty, pos, af, g⟩) (hg : gd L σ ⟨some d, .nilCheck x, ty, pos, af, g⟩ = some true) (hd : Nat.ble (d + 1) n = true) (hx : ev σ x = some (.pointer (some p)))
    (h : HL P L S Q rest n ((d, .pointer (some p)) :: σ) wc) : HL P L S Q ((i, true) :: rest) n σ wc := by
  refine HL.run ho hg hd (fun a ha _ _ => ?_) h
  simp [execOp, ha.ev hx]
theorem HL.shrI {a : Nat} {s : Int} (ho : nthO L i = some ⟨some d, .binOp .shr t x y yt, ty, pos, af, g⟩) (hg : gd L σ ⟨some d, .binOp .shr t x y yt, ty, pos, af, g⟩ = some true) (hd : Nat.ble (d + 1) n = true) (hx : ev σ x = some (.int .u64 (a : Int))) (hy : ev σ y = some (.int .i64 s)) (ha : a < 18446744073709551616) (hs : 0 ≤ s)
    (h : HL P L S Q rest n ((d, .int .u64 ((a >>> s.toNat : Nat) : Int)) :: σ) wc) : HL P L S Q ((i, true) :: rest) n σ wc := by
  refine HL.run ho hg hd (fun a0 ha0 w1 _ => ?_) h
  have := run_shrI P w1 a s ha hs t
  simp [execOp, ha0.ev hx, ha0.ev hy, eqG (op := .shr) rfl, this]
theorem HL.and1 {a : Nat} (ho : nthO L i = some ⟨some d, .binOp .and t x y yt, ty, pos, af, g⟩) (hg : gd L σ ⟨some d, .binOp .and t x y yt, ty, pos, af, g⟩ = some true) (hd : Nat.ble (d + 1) n = true) (hx : ev σ x = some (.int .u64 (a : Int))) (hy : ev σ y = some (.int .u64 1)) (ha : a < 18446744073709551616)
    (h : HL P L S Q rest n ((d, .int .u64 ((a &&& 1 : Nat) : Int)) :: σ) wc) : HL P L S Q ((i, true) :: rest) n σ wc := by
  refine HL.run ho hg hd (fun a0 ha0 w1 _ => ?_) h
  have : (binOp .and t (.int .u64 (a : Int)) (.int .u64 1)).run P w1 = .ok (.int .u64 ((a &&& 1 : Nat) : Int)) w1 := run_andN P w1 a 1 ha (by omega) t
  simp [execOp, ha0.ev hx, ha0.ev hy, eqG (op := .and) rfl, this]
theorem HL.rem {a b : Int} {k : IntKind} (ho : nthO L i = some ⟨some d, .binOp .rem t x y yt, ty, pos, af, g⟩) (hg : gd L σ ⟨some d, .binOp .rem t x y yt, ty, pos, af, g⟩ = some true) (hd : Nat.ble (d + 1) n = true) (hx : ev σ x = some (.int k a)) (hy : ev σ y = some (.int k b)) (ha : 0 ≤ a) (hb : 0 < b)
    (h : HL P L S Q rest n ((d, .int k (a % b)) :: σ) wc) : HL P L S Q ((i, true) :: rest) n σ wc := by
  refine HL.run ho hg hd (fun a0 ha0 w1 _ => ?_) h
  have := run_rem P w1 a b ha hb t k
  simp [execOp, ha0.ev hx, ha0.ev hy, eqG (op := .rem) rfl, this]
theorem HL.conv {a : Int} {k k' : IntKind} (ho : nthO L i = some ⟨some d, .convert t yt x, ty, pos, af, g⟩) (hg : gd L σ ⟨some d, .convert t yt x, ty, pos, af, g⟩ = some true) (hd : Nat.ble (d + 1) n = true) (hx : ev σ x = some (.int k a)) [h1 : IsI P t k] [h2 : IsI P yt k']
    (h : HL P L S Q rest n ((d, .int k' (k'.wrap a)) :: σ) wc) : HL P L S Q ((i, true) :: rest) n σ wc := by
  refine HL.run ho hg hd (fun a0 ha0 w1 _ => ?_) h
  simp [execOp, ha0.ev hx, convert, run_underlying h1.ok, run_underlying h2.ok, Conv.intToInt]
theorem HL.idx {α : Type} [Rep α] {t e : TypeId} {x ix : Operand} {b off : Nat} {k cap : Nat} {ii : Int} {kd : IntKind} (ho : nthO L i = some ⟨some d, .indexAddr t x ix, ty, pos, af, g⟩) (hg : gd L σ ⟨some d, .indexAddr t x ix, ty, pos, af, g⟩ = some true) (hd : Nat.ble (d + 1) n = true)
    (hx : ev σ x = some (.slice (some ⟨b, off, none⟩) k cap)) (hi : ev σ ix = some (.int kd ii)) [hs : IsS P t e] [ht : IsT P e α] (h0 : 0 ≤ ii) (h1 : ii < k)
    (h : HL P L S Q rest n ((d, .pointer (some ⟨b, off + ii.toNat * sz α, none⟩)) :: σ) wc) : HL P L S Q ((i, true) :: rest) n σ wc := by
  refine HL.run ho hg hd (fun a ha _ _ => ?_) h
  simp [execOp, ha.ev hx, ha.ev hi, Instr.indexAt, asIntOf, run_underlying hs.ok, h0, h1, run_sizeOf (α := α), WideShapes.add_plain]
theorem HL.load {α : Type} [Rep α] {t : TypeId} {x : Operand} {b off : Nat} {F : Nat → Prop} {cs : List Value} {y : α} (hSE : ∀ w1, S w1 → Ext w w1) (ho : nthO L i = some ⟨some d, .load t x, ty, pos, af, g⟩) (hg : gd L σ ⟨some d, .load t x, ty, pos, af, g⟩ = some true) (hd : Nat.ble (d + 1) n = true)
    (hx : ev σ x = some (.pointer (some ⟨b, off, none⟩))) [ht : IsT P t α] (hb : b < w.heap.size) (hF : ∀ b, F b → b < w.heap.size) (hc : Cells w b off cs) (hr : rd w F cs y)
    (h : HL P L S Q rest n ((d, vOf α cs) :: σ) wc) : HL P L S Q ((i, true) :: rest) n σ wc := by
  refine HL.run ho hg hd (fun a ha w' hsw => ?_) h
  have hw' := hSE _ hsw
  have hc' : Cells w' b off cs := hc.mono (hw'.block b hb)
  have hr' : rd w' F cs y := Rep.mono hr (fun k hk => hw'.block k (hF k hk)) fun _ h => h
  simp [execOp, ha.ev hx, Instr.loadAt, Instr.sureAddr, run_loadAt hc' hr']
theorem HL.build {parts : List (Nat × Operand)} {vs : List Value} {places : List (Nat × Nat)} {zs out : List Value} (ho : nthO L i = some ⟨some d, .build t parts.toArray, ty, pos, af, g⟩) (hg : gd L σ ⟨some d, .build t parts.toArray, ty, pos, af, g⟩ = some true) (hd : Nat.ble (d + 1) n = true)
    (hv : evs σ (sndL parts) = some vs) [hz : IsZC P t zs] [hp : IsBd P t places] (hf : fillL places zs ((parts.map (·.1)).zip vs) = some out)
    (h : HL P L S Q rest n ((d, .agg out.toArray) :: σ) wc) : HL P L S Q ((i, true) :: rest) n σ wc :=
  HL.run ho hg hd (fun a ha w1 _ => run_buildA ha hv hf) h
/-- append(x, y): y's own row of one, and the append -/
theorem HL.app1 {α : Type} [Rep α] {x0 : α} {bytes : Nat} {F : Nat → Prop} {i1 d1 : Nat} {ty1 : TypeId} {pos1 : String} {af1 : Array Edge} {g1 : Option (Nat × Bool)} {v u : Value} {xs : List α} {yv : α} {B : Nat}
    (ho1 : nthO L i1 = some ⟨some d1, .buildSlice t 1 [(0, y)].toArray, ty1, pos1, af1, g1⟩) (ho : nthO L i = some ⟨some d, .call ⟨.builtin .append, #[x, .tmp d1], #[t, t]⟩, ty, pos, af, g⟩)
    (hg1 : gd L σ ⟨some d1, .buildSlice t 1 [(0, y)].toArray, ty1, pos1, af1, g1⟩ = some true) (hd1 : Nat.ble (d1 + 1) n = true)
    (hg : ∀ u, gd L ((d1, .slice u 1 1) :: σ) ⟨some d, .call ⟨.builtin .append, #[x, .tmp d1], #[t, t]⟩, ty, pos, af, g⟩ = some true) (hd : Nat.ble (d + 1) n = true)
    (hy : ev σ y = some u) (hx : ∀ u, ev ((d1, .slice u 1 1) :: σ) x = some v) [hs : IsS P t e] [ht : IsT P e α] [hz : IsZ P e x0 bytes] (hown : Own wc B e F v xs) (hu : Rd wc F u yv) (hB : B ≤ wc.heap.size) (hF : ∀ b, F b → b < wc.heap.size)
    (hsz : sz α ≤ 16777216) (hm : xs.length + 1 ≤ maxLen) (hb : (xs.length + 1) * bytes ≤ 140737488355328) (hS : ∀ w', wc.grownBy w' v.ownBlock → S w')
    (h : ∀ v' w' p, Own w' B e F v' (xs ++ [yv]) → wc.grownBy w' v.ownBlock → (∀ g, v'.ownBlock = some g → v.ownBlock = some g ∨ wc.heap.size ≤ g) → HL P L S Q rest n ((d, v') :: (d1, .slice p 1 1) :: σ) w') :
    HL P L S Q ((i1, false) :: (i, false) :: rest) n σ wc := by
  refine HL.mut ho1 ?_
  refine WL.lit (vs := [u]) (ys := [yv]) hg1 hd1 rfl (by simp [sndL, evs, hy]) rfl ⟨hu, trivial⟩ (by simpa using hsz) hF (fun w1 ho1 hgr1 => ?_)
  have hsize : wc.heap.size ≤ w1.heap.size := hgr1.size
  have hkeep : Own w1 B e F v xs := hown.kept hgr1 (fun _ _ h => by cases h) fun b hb => ⟨hF b hb, fun h => by cases h⟩
  have g2 : wc.grownBy w1 v.ownBlock := ⟨hgr1.os, hgr1.tape, hgr1.output, hgr1.size, fun k hk _ => hgr1.block k hk (fun h => by cases h)⟩
  refine WL.nil (EX.mut (hS _ g2) ?_)
  refine HL.mut ho ?_
  refine WL.app (ys := [yv]) (hg _) hd (hx _) fnd_cons_eq hkeep ho1.src (Nat.le_trans hB hsize) (fun b hb => Nat.lt_of_lt_of_le (hF b hb) hsize) (by simpa using hm) (by simpa using hb) (fun v' w' ho' hgr hnb => ?_)
  have g3 : wc.grownBy w' v.ownBlock := ⟨hgr.os.trans hgr1.os, hgr.tape.trans hgr1.tape, hgr.output.trans hgr1.output, Nat.le_trans hsize hgr.size, fun k hk hne => (hgr.block k (Nat.lt_of_lt_of_le hk hsize) hne).trans (hgr1.block k hk (fun h => by cases h))⟩
  exact WL.nil (EX.mut (hS _ g3) (h v' w' _ ho' g3 (fun g hg => (hnb g hg).imp id (fun h => Nat.le_trans hsize h))))

end
end Go.Proofs.Ytikigaeihdmcaaa

/-
  Drawn regions that change memory: elements read and written. Over any program.
-/
set_option linter.unusedVariables false
set_option linter.unusedSimpArgs false
namespace Go.Proofs.Ytikigaeihdmcaaa
open Go.RowKit
section
variable {P : Program} {Q : Exit → Act → World → Prop} {n : Nat} {σ : Sg} {w wc : World} {L : List Oper} {S : World → Prop} {rest : List (Nat × Bool)} {i j d d' : Nat} {ty : TypeId} {pos : String} {af : Array Edge} {g : Option (Nat × Bool)} {ty' : TypeId} {pos' : String} {af' : Array Edge} {g' : Option (Nat × Bool)} {t e : TypeId} {x ix y : Operand}
variable {α : Type} [Rep α] {F : Nat → Prop}
/-- x[k], read, of what stands since the base world w -/
theorem HL.elemN {ao : Option Addr} {cap : Nat} {xs : List α} {k : Nat} {kd : IntKind} (hSE : ∀ w1, S w1 → Ext w w1)
    (ho1 : nthO L i = some ⟨some d, .indexAddr t x ix, ty, pos, af, g⟩) (ho2 : nthO L j = some ⟨some d', .load e (.tmp d), ty', pos', af', g'⟩)
    (hg : gd L σ ⟨some d, .indexAddr t x ix, ty, pos, af, g⟩ = some true) (hd : Nat.ble (d + 1) n = true) (hd' : Nat.ble (d' + 1) n = true)
    (hx : ev σ x = some (.slice ao xs.length cap)) (hi : ev σ ix = some (.int kd (k : Int))) [hs : IsS P t e] [ht : IsT P e α] (hF : ∀ b, F b → b < w.heap.size) (hsl : Sl w F ao cap xs) (h1 : k < xs.length)
    (hg' : ∀ p, gd L ((d, .pointer p) :: σ) ⟨some d', .load e (.tmp d), ty', pos', af', g'⟩ = some true)
    (h : ∀ u p, Rd w F u xs[k] → HL P L S Q rest n ((d', u) :: (d, .pointer p) :: σ) wc) :
    HL P L S Q ((i, true) :: (j, true) :: rest) n σ wc := by
  obtain ⟨b, off, rfl, hFb, es, hc, hr⟩ := hsl.el k h1
  refine HL.idx (α := α) ho1 hg hd hx hi (by omega) (by omega) ?_
  refine HL.load (α := α) hSE ho2 (hg' _) hd' fnd_cons_eq (hF b hFb) hF (by simpa using hc) hr ?_
  exact h _ _ ⟨es, rfl, hr⟩
/-- x[k] = y, of a slice that the call owns -/
theorem HL.setN {v u : Value} {B : Nat} {xs : List α} {yv : α} {k : Nat} {kd : IntKind}
    (ho1 : nthO L i = some ⟨some d, .indexAddr t x ix, ty, pos, af, g⟩) (ho2 : nthO L j = some ⟨none, .store e (.tmp d) y, ty', pos', af', g'⟩)
    (hg : gd L σ ⟨some d, .indexAddr t x ix, ty, pos, af, g⟩ = some true) (hd : Nat.ble (d + 1) n = true)
    (hx : ev σ x = some v) (hi : ev σ ix = some (.int kd (k : Int))) [hs : IsS P t e] [ht : IsT P e α] (hown : Own wc B e F v xs) (h1 : k < xs.length)
    (hg' : ∀ p, gd L ((d, .pointer p) :: σ) ⟨none, .store e (.tmp d) y, ty', pos', af', g'⟩ = some true) (hy : ∀ p, ev ((d, .pointer p) :: σ) y = some u) (hu : Rd wc F u yv)
    (hS : ∀ w', wc.grownBy w' v.ownBlock → S w')
    (h : ∀ w' p, Own w' B e F v (xs.set k yv) → wc.grownBy w' v.ownBlock → HL P L S Q rest n ((d, .pointer p) :: σ) w') :
    HL P L S Q ((i, true) :: (j, false) :: rest) n σ wc := by
  rcases hown with ⟨rfl, rfl⟩ | ⟨b, off, cap, cur, rfl, ho⟩
  · simp at h1
  · refine HL.idx (α := α) ho1 hg hd hx hi (by omega) (by omega) ?_
    obtain ⟨w', hr, ho', hgr⟩ := run_set (P := P) (v := u) (i := k) ho h1 hu
    refine HL.mut ho2 ?_
    refine WL.runU (hg' _) (fun a ha => ?_) (WL.nil (EX.mut (hS w' hgr) (h w' _ ho' hgr)))
    have e1 := ha.ev (x := .tmp d) fnd_cons_eq
    have e2 := ha.ev (hy _)
    simp only [Int.toNat_natCast] at e1
    simp [execOp, e1, e2, Instr.storeAt, Instr.sureAddr, hr]
/-- x[:k] -/
theorem HL.cutHi {ao : Option Addr} {len cap : Nat} {i0 : Int} {kd : IntKind} (k : Nat) (hik : i0 = (k : Int)) (ho : nthO L i = some ⟨some d, .slice t x none (some y) none, ty, pos, af, g⟩) (hg : gd L σ ⟨some d, .slice t x none (some y) none, ty, pos, af, g⟩ = some true) (hd : Nat.ble (d + 1) n = true)
    (hx : ev σ x = some (.slice ao len cap)) (hy : ev σ y = some (.int kd i0)) [hs : IsS P t e] [ht : IsT P e α] (hk : k ≤ cap)
    (h : HL P L S Q rest n ((d, .slice ao k cap) :: σ) wc) : HL P L S Q ((i, true) :: rest) n σ wc := by
  subst hik
  refine HL.run ho hg hd (fun a ha w1 _ => ?_) h
  have := run_cut (P := P) (t := t) (e := e) (α := α) (ao := ao) (len := len) (cap := cap) (lo := 0) (hi := k) w1 (by omega) hk none (some (.int kd (k : Int))) (.inl ⟨rfl, rfl⟩) (.inr ⟨kd, rfl⟩)
  simp [execOp, ha.ev hx, ha.ev hy, this, Addr.add_zero']
/-- x[k:] -/
theorem HL.cutLo {ao : Option Addr} {len cap : Nat} {i0 : Int} {kd : IntKind} (k : Nat) (hik : i0 = (k : Int)) (ho : nthO L i = some ⟨some d, .slice t x (some y) none none, ty, pos, af, g⟩) (hg : gd L σ ⟨some d, .slice t x (some y) none none, ty, pos, af, g⟩ = some true) (hd : Nat.ble (d + 1) n = true)
    (hx : ev σ x = some (.slice ao len cap)) (hy : ev σ y = some (.int kd i0)) [hs : IsS P t e] [ht : IsT P e α] (hk : k ≤ len) (hc : len ≤ cap)
    (h : HL P L S Q rest n ((d, .slice (if cap = k then ao else ao.map (·.add (k * sz α))) (len - k) (cap - k)) :: σ) wc) : HL P L S Q ((i, true) :: rest) n σ wc := by
  subst hik
  refine HL.run ho hg hd (fun a ha w1 _ => ?_) h
  have := run_cut (P := P) (t := t) (e := e) (α := α) (ao := ao) (len := len) (cap := cap) (lo := k) (hi := len) w1 hk hc (some (.int kd (k : Int))) none (.inr ⟨kd, rfl⟩) (.inl ⟨rfl, rfl⟩)
  simp [execOp, ha.ev hx, ha.ev hy, this]
end
end Go.Proofs.Ytikigaeihdmcaaa

/-
  The types and functions of the program, as our walks ask for them.
-/
set_option linter.unusedVariables false
namespace Go.Proofs.Ytikigaeihdmcaaa

theorem mixed : Try.prog.follows .mixedOrders = true := by kernel_rfl
instance : IsT Try.prog 3 Int := IsT.of (by kernel_rfl) Try.underlying3 rfl
instance : IsZ Try.prog 3 (0 : Int) 8 := IsZ.of (z := .int .i64 0) (by kernel_rfl) (fun _ _ => rfl)
instance : IsC Try.prog 3 1 false := IsC.of (by kernel_rfl) Try.underlying3 rfl
instance : IsZC Try.prog 3 [.int .i64 0] := IsZC.of (z := .int .i64 0) (by kernel_rfl) rfl
instance : IsT Try.prog 4 Bool := IsT.of (by kernel_rfl) Try.underlying4 rfl
instance : IsZ Try.prog 4 false 1 := IsZ.of (z := .bool false) (by kernel_rfl) (fun _ _ => rfl)
instance : IsC Try.prog 4 1 false := IsC.of (by kernel_rfl) Try.underlying4 rfl
instance : IsZC Try.prog 4 [.bool false] := IsZC.of (z := .bool false) (by kernel_rfl) rfl
instance : IsT Try.prog 33 Nat := IsT.of (by kernel_rfl) Try.underlying33 rfl
instance : IsZ Try.prog 33 (0 : Nat) 8 := IsZ.of (z := .int .u64 0) (by kernel_rfl) (fun _ _ => ⟨rfl, by decide⟩)
instance : IsC Try.prog 33 1 false := IsC.of (by kernel_rfl) Try.underlying33 rfl
instance : IsZC Try.prog 33 [.int .u64 0] := IsZC.of (z := .int .u64 0) (by kernel_rfl) rfl
instance : IsT Try.prog 9 ByteArray := IsT.of (by kernel_rfl) Try.underlying9 rfl
instance : IsC Try.prog 9 1 false := IsC.of (by kernel_rfl) Try.underlying9 rfl
instance : IsZC Try.prog 9 [.string ⟨#[]⟩] := IsZC.of (z := .string ⟨#[]⟩) (by kernel_rfl) rfl
instance : IsT Try.prog 35 Int := IsT.of (by kernel_rfl) Try.underlying35 rfl
instance : IsZ Try.prog 35 (0 : Int) 8 := IsZ.of (z := .int .i64 0) (by kernel_rfl) (fun _ _ => rfl)
instance : IsC Try.prog 35 1 false := IsC.of (by kernel_rfl) Try.underlying35 rfl
instance : IsZC Try.prog 35 [.int .i64 0] := IsZC.of (z := .int .i64 0) (by kernel_rfl) rfl
instance : IsB Try.prog 4 := ⟨Try.underlying4⟩
instance : IsI Try.prog 3 .i64 := ⟨Try.underlying3⟩
instance : IsI Try.prog 33 .u64 := ⟨Try.underlying33⟩
instance : IsI Try.prog 5 .u8 := ⟨Try.underlying5⟩
instance : IsT Try.prog 22 (List Int) := IsT.of (by kernel_rfl) Try.underlying22 rfl
instance : IsS Try.prog 22 3 := ⟨Try.underlying22⟩
instance : IsZ Try.prog 22 ([] : List Int) 24 := IsZ.of (z := .slice none 0 0) (by kernel_rfl) (fun _ _ => ⟨none, 0, rfl, by simp, by simp [maxLen], fun _ => rfl, fun i hi => absurd hi (by simp)⟩)
instance : IsC Try.prog 22 1 false := IsC.of (by kernel_rfl) Try.underlying22 rfl
instance : IsZC Try.prog 22 [.slice none 0 0] := IsZC.of (z := .slice none 0 0) (by kernel_rfl) rfl
instance : IsT Try.prog 23 (List (List Int)) := IsT.of (by kernel_rfl) Try.underlying23 rfl
instance : IsS Try.prog 23 22 := ⟨Try.underlying23⟩
instance : IsZ Try.prog 23 ([] : List (List Int)) 24 := IsZ.of (z := .slice none 0 0) (by kernel_rfl) (fun _ _ => ⟨none, 0, rfl, by simp, by simp [maxLen], fun _ => rfl, fun i hi => absurd hi (by simp)⟩)
instance : IsC Try.prog 23 1 false := IsC.of (by kernel_rfl) Try.underlying23 rfl
instance : IsZC Try.prog 23 [.slice none 0 0] := IsZC.of (z := .slice none 0 0) (by kernel_rfl) rfl
instance : IsT Try.prog 34 (List Bool) := IsT.of (by kernel_rfl) Try.underlying34 rfl
instance : IsS Try.prog 34 4 := ⟨Try.underlying34⟩
instance : IsZ Try.prog 34 ([] : List Bool) 24 := IsZ.of (z := .slice none 0 0) (by kernel_rfl) (fun _ _ => ⟨none, 0, rfl, by simp, by simp [maxLen], fun _ => rfl, fun i hi => absurd hi (by simp)⟩)
instance : IsC Try.prog 34 1 false := IsC.of (by kernel_rfl) Try.underlying34 rfl
instance : IsZC Try.prog 34 [.slice none 0 0] := IsZC.of (z := .slice none 0 0) (by kernel_rfl) rfl
instance : IsT Try.prog 24 (List Nat) := IsT.of (by kernel_rfl) Try.underlying24 rfl
instance : IsS Try.prog 24 33 := ⟨Try.underlying24⟩
instance : IsZ Try.prog 24 ([] : List Nat) 24 := IsZ.of (z := .slice none 0 0) (by kernel_rfl) (fun _ _ => ⟨none, 0, rfl, by simp, by simp [maxLen], fun _ => rfl, fun i hi => absurd hi (by simp)⟩)
instance : IsC Try.prog 24 1 false := IsC.of (by kernel_rfl) Try.underlying24 rfl
instance : IsZC Try.prog 24 [.slice none 0 0] := IsZC.of (z := .slice none 0 0) (by kernel_rfl) rfl
instance : IsT Try.prog 39 (List Int × List Int) := IsT.of (by kernel_rfl) Try.underlying39 rfl
instance : IsC Try.prog 39 2 true := IsC.of (by kernel_rfl) Try.underlying39 rfl
instance : IsFd Try.prog 39 0 0 := IsFd.of (by kernel_rfl)
instance : IsFd Try.prog 39 1 1 := IsFd.of (by kernel_rfl)
instance : IsZC Try.prog 39 [.slice none 0 0, .slice none 0 0] := IsZC.of (z := .agg #[.slice none 0 0, .slice none 0 0]) (by kernel_rfl) rfl
instance : IsBd Try.prog 39 [(0, 1), (1, 1)] := IsBd.of (by kernel_rfl)
instance : IsT Try.prog 26 (List Int × List (List Int) × List Nat × List (List Int)) := IsT.of (by kernel_rfl) Try.underlying26 rfl
instance : IsC Try.prog 26 4 true := IsC.of (by kernel_rfl) Try.underlying26 rfl
instance : IsFd Try.prog 26 0 0 := IsFd.of (by kernel_rfl)
instance : IsFd Try.prog 26 1 1 := IsFd.of (by kernel_rfl)
instance : IsFd Try.prog 26 2 2 := IsFd.of (by kernel_rfl)
instance : IsFd Try.prog 26 3 3 := IsFd.of (by kernel_rfl)
instance : IsZC Try.prog 26 [.slice none 0 0, .slice none 0 0, .slice none 0 0, .slice none 0 0] := IsZC.of (z := .agg #[.slice none 0 0, .slice none 0 0, .slice none 0 0, .slice none 0 0]) (by kernel_rfl) rfl
instance : IsBd Try.prog 26 [(0, 1), (1, 1), (2, 1), (3, 1)] := IsBd.of (by kernel_rfl)
instance : IsC Try.prog 69 6 true := IsC.of (by kernel_rfl) Try.underlying69 rfl
instance : IsFd Try.prog 69 0 0 := IsFd.of (by kernel_rfl)
instance : IsFd Try.prog 69 1 4 := IsFd.of (by kernel_rfl)
instance : IsFd Try.prog 69 2 5 := IsFd.of (by kernel_rfl)
instance : IsZC Try.prog 69 [.slice none 0 0, .slice none 0 0, .slice none 0 0, .slice none 0 0, .slice none 0 0, .slice none 0 0] := IsZC.of (z := .agg #[.slice none 0 0, .slice none 0 0, .slice none 0 0, .slice none 0 0, .slice none 0 0, .slice none 0 0]) (by kernel_rfl) rfl
instance : IsBd Try.prog 69 [(0, 4), (4, 1), (5, 1)] := IsBd.of (by kernel_rfl)
instance : IsC Try.prog 98 7 true := IsC.of (by kernel_rfl) Try.underlying98 rfl
instance : IsFd Try.prog 98 0 0 := IsFd.of (by kernel_rfl)
instance : IsFd Try.prog 98 1 1 := IsFd.of (by kernel_rfl)
instance : IsFd Try.prog 98 2 2 := IsFd.of (by kernel_rfl)
instance : IsFd Try.prog 98 3 3 := IsFd.of (by kernel_rfl)
instance : IsFd Try.prog 98 4 4 := IsFd.of (by kernel_rfl)
instance : IsFd Try.prog 98 5 5 := IsFd.of (by kernel_rfl)
instance : IsFd Try.prog 98 6 6 := IsFd.of (by kernel_rfl)
instance : IsZC Try.prog 98 [.slice none 0 0, .slice none 0 0, .slice none 0 0, .slice none 0 0, .slice none 0 0, .int .i64 0, .int .i64 0] := IsZC.of (z := .agg #[.slice none 0 0, .slice none 0 0, .slice none 0 0, .slice none 0 0, .slice none 0 0, .int .i64 0, .int .i64 0]) (by kernel_rfl) rfl
instance : IsBd Try.prog 98 [(0, 1), (1, 1), (2, 1), (3, 1), (4, 1), (5, 1), (6, 1)] := IsBd.of (by kernel_rfl)
instance : IsT Try.prog 75 (List (List Bool)) := IsT.of (by kernel_rfl) Try.underlying75 rfl
instance : IsS Try.prog 75 34 := ⟨Try.underlying75⟩
instance : IsZ Try.prog 75 ([] : List (List Bool)) 24 := IsZ.of (z := .slice none 0 0) (by kernel_rfl) (fun _ _ => ⟨none, 0, rfl, by simp, by simp [maxLen], fun _ => rfl, fun i hi => absurd hi (by simp)⟩)
instance : IsC Try.prog 75 1 false := IsC.of (by kernel_rfl) Try.underlying75 rfl
instance : IsZC Try.prog 75 [.slice none 0 0] := IsZC.of (z := .slice none 0 0) (by kernel_rfl) rfl
instance : IsC Try.prog 56 1 false := IsC.of (by kernel_rfl) Try.underlying56 rfl
instance : IsC Try.prog 96 1 false := IsC.of (by kernel_rfl) Try.underlying96 rfl
instance : IsF Try.prog 62 := ⟨_, Try.func62, rfl, by decide⟩
instance : IsF Try.prog 44 := ⟨_, Try.func44, rfl, by decide⟩
instance : IsF Try.prog 39 := ⟨_, Try.func39, rfl, by decide⟩
instance : IsF Try.prog 56 := ⟨_, Try.func56, rfl, by decide⟩
instance : IsF Try.prog 35 := ⟨_, Try.func35, rfl, by decide⟩
instance : IsF Try.prog 43 := ⟨_, Try.func43, rfl, by decide⟩
instance : IsF Try.prog 42 := ⟨_, Try.func42, rfl, by decide⟩
instance : IsF Try.prog 41 := ⟨_, Try.func41, rfl, by decide⟩
instance : IsF Try.prog 57 := ⟨_, Try.func57, rfl, by decide⟩
instance : IsF Try.prog 59 := ⟨_, Try.func59, rfl, by decide⟩
instance : IsF Try.prog 70 := ⟨_, Try.func70, rfl, by decide⟩
instance : IsF Try.prog 71 := ⟨_, Try.func71, rfl, by decide⟩
instance : IsF Try.prog 23 := ⟨_, Try.func23, rfl, by decide⟩
instance : IsF Try.prog 36 := ⟨_, Try.func36, rfl, by decide⟩
instance : IsF Try.prog 37 := ⟨_, Try.func37, rfl, by decide⟩
instance : IsF Try.prog 40 := ⟨_, Try.func40, rfl, by decide⟩
instance : IsF Try.prog 46 := ⟨_, Try.func46, rfl, by decide⟩
instance : IsF Try.prog 38 := ⟨_, Try.func38, rfl, by decide⟩
instance : IsF Try.prog 55 := ⟨_, Try.func55, rfl, by decide⟩
instance : IsF Try.prog 61 := ⟨_, Try.func61, rfl, by decide⟩
instance : IsF Try.prog 73 := ⟨_, Try.func73, rfl, by decide⟩
instance : IsF Try.prog 24 := ⟨_, Try.func24, rfl, by decide⟩
instance : IsF Try.prog 45 := ⟨_, Try.func45, rfl, by decide⟩
instance : IsF Try.prog 48 := ⟨_, Try.func48, rfl, by decide⟩
instance : IsF Try.prog 79 := ⟨_, Try.func79, rfl, by decide⟩
instance : IsF Try.prog 80 := ⟨_, Try.func80, rfl, by decide⟩
instance : IsF Try.prog 69 := ⟨_, Try.func69, rfl, by decide⟩
instance : IsF Try.prog 25 := ⟨_, Try.func25, rfl, by decide⟩
instance : IsF Try.prog 14 := ⟨_, Try.func14, rfl, by decide⟩
instance : IsF Try.prog 63 := ⟨_, Try.func63, rfl, by decide⟩
instance : IsF Try.prog 74 := ⟨_, Try.func74, rfl, by decide⟩
instance : IsF Try.prog 27 := ⟨_, Try.func27, rfl, by decide⟩
instance : IsF Try.prog 10 := ⟨_, Try.func10, rfl, by decide⟩
instance : IsF Try.prog 28 := ⟨_, Try.func28, rfl, by decide⟩
instance : IsF Try.prog 29 := ⟨_, Try.func29, rfl, by decide⟩
instance : IsF Try.prog 30 := ⟨_, Try.func30, rfl, by decide⟩
instance : IsF Try.prog 75 := ⟨_, Try.func75, rfl, by decide⟩
instance : IsF Try.prog 81 := ⟨_, Try.func81, rfl, by decide⟩
instance : IsF Try.prog 32 := ⟨_, Try.func32, rfl, by decide⟩
instance : IsF Try.prog 51 := ⟨_, Try.func51, rfl, by decide⟩
instance : IsF Try.prog 65 := ⟨_, Try.func65, rfl, by decide⟩
instance : IsF Try.prog 7 := ⟨_, Try.func7, rfl, by decide⟩
instance : IsF Try.prog 8 := ⟨_, Try.func8, rfl, by decide⟩
instance : IsF Try.prog 22 := ⟨_, Try.func22, rfl, by decide⟩
instance : IsF Try.prog 21 := ⟨_, Try.func21, rfl, by decide⟩
instance : IsF Try.prog 53 := ⟨_, Try.func53, rfl, by decide⟩
instance : IsF Try.prog 67 := ⟨_, Try.func67, rfl, by decide⟩
instance : IsF Try.prog 58 := ⟨_, Try.func58, rfl, by decide⟩
instance : IsF Try.prog 34 := ⟨_, Try.func34, rfl, by decide⟩
instance : IsF Try.prog 60 := ⟨_, Try.func60, rfl, by decide⟩
instance : IsF Try.prog 72 := ⟨_, Try.func72, rfl, by decide⟩
instance : IsF Try.prog 68 := ⟨_, Try.func68, rfl, by decide⟩
instance : IsF Try.prog 78 := ⟨_, Try.func78, rfl, by decide⟩
instance : IsF Try.prog 77 := ⟨_, Try.func77, rfl, by decide⟩
instance : IsF Try.prog 54 := ⟨_, Try.func54, rfl, by decide⟩
instance : IsF Try.prog 3 := ⟨_, Try.func3, rfl, by decide⟩
instance : IsF Try.prog 15 := ⟨_, Try.func15, rfl, by decide⟩
instance : IsF Try.prog 16 := ⟨_, Try.func16, rfl, by decide⟩
instance : IsF Try.prog 20 := ⟨_, Try.func20, rfl, by decide⟩
instance : IsF Try.prog 19 := ⟨_, Try.func19, rfl, by decide⟩
instance : IsF Try.prog 12 := ⟨_, Try.func12, rfl, by decide⟩
instance : IsF Try.prog 13 := ⟨_, Try.func13, rfl, by decide⟩
instance : IsF Try.prog 4 := ⟨_, Try.func4, rfl, by decide⟩
instance : IsF Try.prog 17 := ⟨_, Try.func17, rfl, by decide⟩
instance : IsF Try.prog 5 := ⟨_, Try.func5, rfl, by decide⟩
instance : IsF Try.prog 6 := ⟨_, Try.func6, rfl, by decide⟩
instance : IsF Try.prog 9 := ⟨_, Try.func9, rfl, by decide⟩
instance : IsF Try.prog 18 := ⟨_, Try.func18, rfl, by decide⟩
instance : IsF Try.prog 11 := ⟨_, Try.func11, rfl, by decide⟩
instance : IsF Try.prog 26 := ⟨_, Try.func26, rfl, by decide⟩
instance : IsF Try.prog 31 := ⟨_, Try.func31, rfl, by decide⟩
instance : IsF Try.prog 50 := ⟨_, Try.func50, rfl, by decide⟩
instance : IsF Try.prog 33 := ⟨_, Try.func33, rfl, by decide⟩
instance : IsF Try.prog 52 := ⟨_, Try.func52, rfl, by decide⟩
instance : IsF Try.prog 66 := ⟨_, Try.func66, rfl, by decide⟩
instance : IsF Try.prog 76 := ⟨_, Try.func76, rfl, by decide⟩
instance : IsF Try.prog 49 := ⟨_, Try.func49, rfl, by decide⟩
instance : IsF Try.prog 64 := ⟨_, Try.func64, rfl, by decide⟩
end Go.Proofs.Ytikigaeihdmcaaa

