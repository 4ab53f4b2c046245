/-
  Drawn regions that change memory: elements read and written. Over any program.
-/
import Derived.Test.YthojdcbpglipeaaHeld
set_option linter.unusedVariables false
set_option linter.unusedSimpArgs false
namespace Go.Proofs.Ythojdcbpglipeaa
open Go.RowKit
section
variable {P : Program} {Q : Exit → Act → World → Prop} {n : Nat} {σ : Sg} {w wc : World} {L : List Oper} {S : World → Prop} {rest : List (Nat × Bool)} {i j d d' : Nat} {ty : TypeId} {pos : String} {af : Array Edge} {g : Option (Nat × Bool)} {ty' : TypeId} {pos' : String} {af' : Array Edge} {g' : Option (Nat × Bool)} {t e : TypeId} {x ix y : Operand}
variable {α : Type} [Rep α] {F : Nat → Prop}
/-- x[k], read, of what stands since the base world w -/
theorem HL.elemN {ao : Option Addr} {cap : Nat} {xs : List α} {k : Nat} {kd : IntKind} (hSE : ∀ w1, S w1 → Ext w w1)
    (ho1 : nthO L i = some ⟨some d, .indexAddr t x ix, ty, pos, af, g⟩) (ho2 : nthO L j = some ⟨some d', .load e (.tmp d), ty', pos', af', g'⟩)
    (hg : gd L σ ⟨some d, .indexAddr t x ix, ty, pos, af, g⟩ = some true) (hd : Nat.ble (d + 1) n = true) (hd' : Nat.ble (d' + 1) n = true)
    (hx : ev σ x = some (.slice ao xs.length cap)) (hi : ev σ ix = some (.int kd (k : Int))) [hs : IsS P t e] [ht : IsT P e α] (hF : ∀ b, F b → b < w.heap.size) (hsl : Sl w F ao cap xs) (h1 : k < xs.length)
    (hg' : ∀ p, gd L ((d, .pointer p) :: σ) ⟨some d', .load e (.tmp d), ty', pos', af', g'⟩ = some true)
    (h : ∀ u p, Rd w F u xs[k] → HL P L S Q rest n ((d', u) :: (d, .pointer p) :: σ) wc) :
    HL P L S Q ((i, true) :: (j, true) :: rest) n σ wc := by
  obtain ⟨b, off, rfl, hFb, es, hc, hr⟩ := hsl.el k h1
  refine HL.idx (α := α) ho1 hg hd hx hi (by omega) (by omega) ?_
  refine HL.load (α := α) hSE ho2 (hg' _) hd' fnd_cons_eq (hF b hFb) hF (by simpa using hc) hr ?_
  exact h _ _ ⟨es, rfl, hr⟩
/-- x[k], read, of blocks that nobody changes -/
theorem HL.elemK {ao : Option Addr} {cap : Nat} {xs : List α} {k : Nat} {kd : IntKind} (hK : ∀ w1, S w1 → ∀ b, F b → w1.heap[b]? = w.heap[b]?)
    (ho1 : nthO L i = some ⟨some d, .indexAddr t x ix, ty, pos, af, g⟩) (ho2 : nthO L j = some ⟨some d', .load e (.tmp d), ty', pos', af', g'⟩)
    (hg : gd L σ ⟨some d, .indexAddr t x ix, ty, pos, af, g⟩ = some true) (hd : Nat.ble (d + 1) n = true) (hd' : Nat.ble (d' + 1) n = true)
    (hx : ev σ x = some (.slice ao xs.length cap)) (hi : ev σ ix = some (.int kd (k : Int))) [hs : IsS P t e] [ht : IsT P e α] (hsl : Sl w F ao cap xs) (h1 : k < xs.length)
    (hg' : ∀ p, gd L ((d, .pointer p) :: σ) ⟨some d', .load e (.tmp d), ty', pos', af', g'⟩ = some true)
    (h : ∀ u p, Rd w F u xs[k] → HL P L S Q rest n ((d', u) :: (d, .pointer p) :: σ) wc) :
    HL P L S Q ((i, true) :: (j, true) :: rest) n σ wc := by
  obtain ⟨b, off, rfl, hFb, es, hc, hr⟩ := hsl.el k h1
  refine HL.idx (α := α) ho1 hg hd hx hi (by omega) (by omega) ?_
  refine HL.run ho2 (hg' _) hd' (v := vOf α es) (fun a ha w' hw' => ?_) (h _ _ ⟨es, rfl, hr⟩)
  have hc' : Cells w' b (off + k * sz α) es := hc.mono (hK w' hw' b hFb)
  have hr' : rd w' F es xs[k] := Rep.mono hr (hK w' hw') fun _ h => h
  have e1 := ha.ev (x := .tmp d) fnd_cons_eq
  simp only [Int.toNat_natCast] at e1
  simp [execOp, e1, Instr.loadAt, Instr.sureAddr, run_loadAt hc' hr']
/-- x[k] = y, of a slice that the call owns -/
theorem HL.setN {v u : Value} {B : Nat} {xs : List α} {yv : α} {k : Nat} {kd : IntKind}
    (ho1 : nthO L i = some ⟨some d, .indexAddr t x ix, ty, pos, af, g⟩) (ho2 : nthO L j = some ⟨none, .store e (.tmp d) y, ty', pos', af', g'⟩)
    (hg : gd L σ ⟨some d, .indexAddr t x ix, ty, pos, af, g⟩ = some true) (hd : Nat.ble (d + 1) n = true)
    (hx : ev σ x = some v) (hi : ev σ ix = some (.int kd (k : Int))) [hs : IsS P t e] [ht : IsT P e α] (hown : Own wc B e F v xs) (h1 : k < xs.length)
    (hg' : ∀ p, gd L ((d, .pointer p) :: σ) ⟨none, .store e (.tmp d) y, ty', pos', af', g'⟩ = some true) (hy : ∀ p, ev ((d, .pointer p) :: σ) y = some u) (hu : Rd wc F u yv)
    (hS : ∀ w', wc.grownBy w' v.ownBlock → S w')
    (h : ∀ w' p, Own w' B e F v (xs.set k yv) → wc.grownBy w' v.ownBlock → HL P L S Q rest n ((d, .pointer p) :: σ) w') :
    HL P L S Q ((i, true) :: (j, false) :: rest) n σ wc := by
  rcases hown with ⟨rfl, rfl⟩ | ⟨b, off, cap, cur, rfl, ho⟩
  · simp at h1
  · refine HL.idx (α := α) ho1 hg hd hx hi (by omega) (by omega) ?_
    obtain ⟨w', hr, ho', hgr⟩ := run_set (P := P) (v := u) (i := k) ho h1 hu
    refine HL.mut ho2 ?_
    refine WL.runU (hg' _) (fun a ha => ?_) (WL.nil (EX.mut (hS w' hgr) (h w' _ ho' hgr)))
    have e1 := ha.ev (x := .tmp d) fnd_cons_eq
    have e2 := ha.ev (hy _)
    simp only [Int.toNat_natCast] at e1
    simp [execOp, e1, e2, Instr.storeAt, Instr.sureAddr, hr]
/-- x[:k] -/
theorem HL.cutHi {ao : Option Addr} {len cap : Nat} {i0 : Int} {kd : IntKind} (k : Nat) (hik : i0 = (k : Int)) (ho : nthO L i = some ⟨some d, .slice t x none (some y) none, ty, pos, af, g⟩) (hg : gd L σ ⟨some d, .slice t x none (some y) none, ty, pos, af, g⟩ = some true) (hd : Nat.ble (d + 1) n = true)
    (hx : ev σ x = some (.slice ao len cap)) (hy : ev σ y = some (.int kd i0)) [hs : IsS P t e] [ht : IsT P e α] (hk : k ≤ cap)
    (h : HL P L S Q rest n ((d, .slice ao k cap) :: σ) wc) : HL P L S Q ((i, true) :: rest) n σ wc := by
  subst hik
  refine HL.run ho hg hd (fun a ha w1 _ => ?_) h
  have := run_cut (P := P) (t := t) (e := e) (α := α) (ao := ao) (len := len) (cap := cap) (lo := 0) (hi := k) w1 (by omega) hk none (some (.int kd (k : Int))) (.inl ⟨rfl, rfl⟩) (.inr ⟨kd, rfl⟩)
  simp [execOp, ha.ev hx, ha.ev hy, this, Addr.add_zero']
/-- x[k:] -/
theorem HL.cutLo {ao : Option Addr} {len cap : Nat} {i0 : Int} {kd : IntKind} (k : Nat) (hik : i0 = (k : Int)) (ho : nthO L i = some ⟨some d, .slice t x (some y) none none, ty, pos, af, g⟩) (hg : gd L σ ⟨some d, .slice t x (some y) none none, ty, pos, af, g⟩ = some true) (hd : Nat.ble (d + 1) n = true)
    (hx : ev σ x = some (.slice ao len cap)) (hy : ev σ y = some (.int kd i0)) [hs : IsS P t e] [ht : IsT P e α] (hk : k ≤ len) (hc : len ≤ cap)
    (h : HL P L S Q rest n ((d, .slice (if cap = k then ao else ao.map (·.add (k * sz α))) (len - k) (cap - k)) :: σ) wc) : HL P L S Q ((i, true) :: rest) n σ wc := by
  subst hik
  refine HL.run ho hg hd (fun a ha w1 _ => ?_) h
  have := run_cut (P := P) (t := t) (e := e) (α := α) (ao := ao) (len := len) (cap := cap) (lo := k) (hi := len) w1 hk hc (some (.int kd (k : Int))) none (.inr ⟨kd, rfl⟩) (.inl ⟨rfl, rfl⟩)
  simp [execOp, ha.ev hx, ha.ev hy, this]
end
end Go.Proofs.Ythojdcbpglipeaa
