/-
  Package push walked, first part: small functions; lists of formulas that grow.
-/
import Derived.Test.YthojdcbpglipeaaPushPl2
import Derived.Test.YthojdcbpglipeaaLasso4
import Derived.Test.YthojdcbpglipeaaTail
set_option linter.unusedVariables false
set_option linter.unusedSimpArgs false
namespace Go.Proofs.Ythojdcbpglipeaa
open Go.RowKit

/-- a struct that nobody changes meanwhile -/
theorem HL.ldAK {P : Program} {Q : Exit → Act → World → Prop} {n : Nat} {σ : Sg} {w wc : World} {L : List Oper} {S : World → Prop} {ord : List (Nat × Bool)} {i d : Nat} {ty : TypeId} {pos : String} {af : Array Edge} {g : Option (Nat × Bool)} {t e : TypeId} {x : Operand} {b o : Nat} {cells vs : List Value} {k : Nat}
    (hK : ∀ w1, S w1 → w1.heap[b]? = w.heap[b]?) (ho : nthO L i = some ⟨some d, .load t x, ty, pos, af, g⟩) (hg : gd L σ ⟨some d, .load t x, ty, pos, af, g⟩ = some true) (hd : Nat.ble (d + 1) n = true) (hx : ev σ x = some (.pointer (some ⟨b, o, none⟩))) [hc : IsC P t k true] (hb : Blk w b e cells) (hv : segL cells o k = some vs)
    (h : HL P L S Q ord n ((d, .agg vs.toArray) :: σ) wc) : HL P L S Q ((i, true) :: ord) n σ wc := by
  refine HL.run ho hg hd (fun a ha w' hsw => ?_) h
  have hb' : Blk w' b e cells := (hK w' hsw).trans hb
  simp [execOp, ha.ev hx, run_ldA (P := P) (t := t) w' hb' hv]
/-- new blocks -/
def Nw (w w' : World) : Nat → Prop := fun b => w.heap.size ≤ b ∧ b < w'.heap.size
theorem Nw.lt {w w' : World} : ∀ b, Nw w w' b → b < w'.heap.size := fun _ h => h.2
theorem Nw.mono {a b c d : World} (h1 : a.heap.size ≤ b.heap.size) (h2 : c.heap.size ≤ d.heap.size) : ∀ x, Nw b c x → Nw a d x := fun x h => ⟨Nat.le_trans h1 h.1, Nat.lt_of_lt_of_le h.2 h2⟩
/-- behind a change of one block that is not met -/
theorem Rd.kept {α : Type} [Rep α] {w w' : World} {F : Nat → Prop} {v : Value} {x : α} {row : Option Nat} (h : Rd w F v x) (hg : w.grownBy w' row) (hF : ∀ b, F b → b < w.heap.size ∧ some b ≠ row) : Rd w' F v x :=
  h.mono (fun b hb => hg.block b (hF b hb).1 (hF b hb).2) fun _ h => h
theorem Rd.up0 {α : Type} [Rep α] {w w' : World} {F : Nat → Prop} {v : Value} {x : α} (h : Rd w F v x) (hE : Ext w w') (hF : ∀ b, F b → b < w.heap.size) : Rd w' F v x := h.mono (fun b hb => hE.block b (hF b hb)) fun _ h => h
theorem Rd.wk {α : Type} [Rep α] {w : World} {F F' : Nat → Prop} {v : Value} {x : α} (h : Rd w F v x) (hF : ∀ b, F b → F' b) : Rd w F' v x := h.mono (fun _ _ => rfl) hF
theorem Sl.up1 {α : Type} [Rep α] {w w' : World} {F : Nat → Prop} {ao : Option Addr} {cap : Nat} {xs : List α} (h : Sl w F ao cap xs) (hE : Ext w w') (hF : ∀ b, F b → b < w.heap.size) : Sl w' F ao cap xs := h.mono (fun b hb => hE.block b (hF b hb)) fun _ h => h
/-- the world but for one block -/
def SO (r : Nat) (w : World) : World → Prop := fun x => w.heap.size ≤ x.heap.size ∧ ∀ b, b ≠ r → b < w.heap.size → x.heap[b]? = w.heap[b]?
theorem SO.refl (r : Nat) (w : World) : SO r w w := ⟨Nat.le_refl _, fun _ _ _ => rfl⟩
theorem SO.ext {r : Nat} {w x y : World} (h : SO r w x) (hE : Ext x y) : SO r w y := ⟨Nat.le_trans h.1 hE.size, fun b h1 h2 => (hE.block b (Nat.lt_of_lt_of_le h2 h.1)).trans (h.2 b h1 h2)⟩
theorem SO.st {r : Nat} {w x y : World} (h : SO r w x) (hg : x.grownBy y (some r)) : SO r w y := ⟨Nat.le_trans h.1 hg.size, fun b h1 h2 => (hg.block b (Nat.lt_of_lt_of_le h2 h.1) (fun e => h1 (by cases e; rfl))).trans (h.2 b h1 h2)⟩

/- A LIST OF FORMULAS THAT GROWS: all that it meets is at B or behind -/
section
variable {α : Type} [Rep α]
def Grow (B : Nat) (e : TypeId) (w : World) (v : Value) (xs : List α) : Prop := ∃ F, (∀ b, F b → B ≤ b ∧ b < w.heap.size) ∧ Own w B e F v xs
variable {B : Nat} {e : TypeId} {w w' : World} {v : Value} {xs : List α}
theorem Grow.nil : Grow B e w (.slice none 0 0) ([] : List α) := ⟨Non, fun _ h => h.elim, Own.nil⟩
theorem Grow.ext (h : Grow B e w v xs) (hE : Ext w w') : Grow B e w' v xs := by
  obtain ⟨F, h1, h2⟩ := h
  exact ⟨F, fun b hb => ⟨(h1 b hb).1, Nat.lt_of_lt_of_le (h1 b hb).2 hE.size⟩, h2.ext hE fun b hb => (h1 b hb).2⟩
theorem Grow.kept {r : Nat} (h : Grow B e w v xs) (hg : w.grownBy w' (some r)) (hr : r < B) : Grow B e w' v xs := by
  obtain ⟨F, h1, h2⟩ := h
  refine ⟨F, fun b hb => ⟨(h1 b hb).1, Nat.lt_of_lt_of_le (h1 b hb).2 hg.size⟩, h2.kept hg (fun g hgo e => ?_) (fun b hb => ⟨(h1 b hb).2, fun e => ?_⟩)⟩
  · have := (h2.lt g hgo).1; cases e; omega
  · have := (h1 b hb).1; cases e; omega
theorem Grow.lt (h : Grow B e w v xs) : ∀ g, v.ownBlock = some g → B ≤ g ∧ g < w.heap.size := by
  obtain ⟨F, h1, h2⟩ := h
  exact fun g hg => ⟨(h2.lt g hg).1, (h2.lt g hg).2.1⟩
theorem Grow.sl (h : Grow B e w v xs) : ∃ ao cap, v = .slice ao xs.length cap ∧ Sl w (fun b => B ≤ b ∧ b < w.heap.size) ao cap xs := by
  obtain ⟨F, h1, h2⟩ := h
  exact h2.slF (fun b hb => h1 b hb) (fun g hg => ⟨(h2.lt g hg).1, (h2.lt g hg).2.1⟩)
/-- ready for one more, that meets Fu -/
theorem Grow.open (h : Grow B e w v xs) {Fu : Nat → Prop} (hFu : ∀ b, Fu b → B ≤ b ∧ b < w.heap.size) (hn : ∀ g, v.ownBlock = some g → ¬ Fu g) : ∃ F, (∀ b, F b → B ≤ b ∧ b < w.heap.size) ∧ Own w B e F v xs ∧ (∀ b, Fu b → F b) := by
  obtain ⟨F, h1, h2⟩ := h
  refine ⟨fun b => F b ∨ Fu b, fun b hb => hb.elim (h1 b) (hFu b), h2.wk (fun b hb => .inl hb) (fun g hg hb => ?_), fun b hb => .inr hb⟩
  exact hb.elim (h2.lt g hg).2.2 (hn g hg)
end

end Go.Proofs.Ythojdcbpglipeaa
