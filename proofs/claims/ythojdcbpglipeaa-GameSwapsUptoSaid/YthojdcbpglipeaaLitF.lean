/-
  Literals all of whose blocks are new.
-/
import Derived.Test.YthojdcbpglipeaaStr
set_option linter.unusedVariables false
set_option linter.unusedSimpArgs false
namespace Go.Proofs.Ythojdcbpglipeaa
open Go.RowKit

/-- the blocks from c on -/
def From (c : Nat) (w : World) : Nat → Prop := fun b => c ≤ b ∧ b < w.heap.size
theorem Rd.upF {α : Type} [Rep α] {w w' : World} {c : Nat} {v : Value} {x : α} (h : Rd w (From c w) v x) (hE : Ext w w') : Rd w' (From c w') v x := h.mono (fun b hb => hE.block b hb.2) fun b hb => ⟨hb.1, Nat.lt_of_lt_of_le hb.2 hE.size⟩
section
variable {P : Program} {Q : Exit → Act → World → Prop} {n : Nat} {σ : Sg} {w : World} {L rest : List Oper} {d : Nat} {ty : TypeId} {pos : String} {af : Array Edge} {g : Option (Nat × Bool)}
variable {α : Type} [Rep α] {e t : TypeId} {x0 : α} {bytes : Nat}
theorem WL.litF (c : Nat) (hc : c ≤ w.heap.size) {len : Nat} {parts : List (Nat × Operand)} {vs : List Value} (ys : List α) (hg : gd L σ ⟨some d, .buildSlice t len parts.toArray, ty, pos, af, g⟩ = some true) (hd : Nat.ble (d + 1) n = true)
    (hp : idxL 0 (sndL parts) = parts) (hv : evs σ (sndL parts) = some vs) [hs : IsS P t e] [ht : IsT P e α] [hz : IsZ P e x0 bytes] (hlen : len = ys.length) (hr : RdAll w (From c w) vs ys) (hsz : ys.length * sz α ≤ 16777216)
    (h : ∀ v w', Ext w w' → Rd w' (From c w') v ys → WL P L Q rest n ((d, v) :: σ) w') :
    WL P L Q (⟨some d, .buildSlice t len parts.toArray, ty, pos, af, g⟩ :: rest) n σ w :=
  WL.lit hg hd hp hv hlen hr hsz (fun b h => h.2) fun w' ho hgr => by
    have hE : Ext w w' := (Below.refl _ _).grown hgr (Nat.le_refl _) (fun k h => by cases h)
    refine h _ w' hE (ho.rd.mono (fun _ _ => rfl) fun b hb => ?_)
    rcases hb with hb | hb
    · exact ⟨hb.1, Nat.lt_of_lt_of_le hb.2 hE.size⟩
    · have := ho.lt b hb; exact ⟨by omega, this.2.1⟩
end
end Go.Proofs.Ythojdcbpglipeaa
