/-
  What only some blocks' change leaves as it is. Over any program.
-/
import Derived.Test.YthefpigolikmeaaNest
set_option linter.unusedVariables false
set_option linter.unusedSimpArgs false
namespace Go.Proofs.Ythefpigolikmeaa
open Go.RowKit

/-- only blocks of S, and new ones, are otherwise -/
structure Chg (S : Nat → Prop) (w w' : World) : Prop where
  os : w'.os = w.os
  tape : w'.tape = w.tape
  output : w'.output = w.output
  size : w.heap.size ≤ w'.heap.size
  block : ∀ k, k < w.heap.size → ¬ S k → w'.heap[k]? = w.heap[k]?
theorem Chg.refl (S : Nat → Prop) (w : World) : Chg S w w := ⟨rfl, rfl, rfl, Nat.le_refl _, fun _ _ _ => rfl⟩
theorem Chg.grown {S : Nat → Prop} {w w' w'' : World} {row : Option Nat} (h : Chg S w w') (hg : w'.grownBy w'' row) (hr : ∀ g, row = some g → S g) : Chg S w w'' :=
  ⟨hg.os.trans h.os, hg.tape.trans h.tape, hg.output.trans h.output, Nat.le_trans h.size hg.size, fun k hk hs => (hg.block k (Nat.lt_of_lt_of_le hk h.size) (fun e => hs (hr k e.symm))).trans (h.block k hk hs)⟩
theorem Chg.ext {S : Nat → Prop} {a w w' : World} (hE : Ext a w) (h : Chg S w w') (hS : ∀ b, S b → a.heap.size ≤ b) : Ext a w' :=
  ⟨h.os.trans hE.os, h.tape.trans hE.tape, h.output.trans hE.output, Nat.le_trans hE.size h.size, fun k hk => (h.block k (Nat.lt_of_lt_of_le hk hE.size) (fun hs => by have := hS k hs; omega)).trans (hE.block k hk)⟩
theorem Own.chg {α : Type} [Rep α] {S : Nat → Prop} {w w' : World} {B : Nat} {e : TypeId} {v : Value} {xs : List α} (h : Own w B e Non v xs) (hc : Chg S w w') (hn : ∀ b, v.ownBlock = some b → ¬ S b) : Own w' B e Non v xs :=
  h.keep (fun g hg => hc.block g (h.lt g hg).2.1 (hn g hg)) fun _ h => h.elim
theorem OwnN.chg {α : Type} [Rep α] {S : Nat → Prop} {w w' : World} {B : Nat} {eo ei : TypeId} {v : Value} {vs : List Raw} {xs : List (List α)} (h : OwnN w B eo ei v vs xs) (hc : Chg S w w') (hn : ∀ b, OwnN.blk v vs b → ¬ S b) : OwnN w' B eo ei v vs xs :=
  ⟨h.out.chg hc (fun b hb => hn b (.inl hb)), h.len, fun i hi hi' => (h.inn i hi hi').chg hc (fun b hb => hn b (.inr ⟨_, List.getElem_mem hi, hb⟩)), h.dis, h.dio⟩

end Go.Proofs.Ythefpigolikmeaa
