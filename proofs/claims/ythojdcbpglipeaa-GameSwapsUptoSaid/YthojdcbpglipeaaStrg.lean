/-
  Texts: length, one byte.
-/
import Derived.Test.YthojdcbpglipeaaTy
set_option linter.unusedVariables false
set_option linter.unusedSimpArgs false
namespace Go.Proofs.Ythojdcbpglipeaa
open Go.RowKit

class IsStr (P : Program) (t : TypeId) : Prop where
  ok : P.underlying t = some .string
instance iStrg1 : IsStr Try.prog 9 := ⟨Try.underlying9⟩
section
variable {P : Program} {Q : Exit → Act → World → Prop} {n : Nat} {σ : Sg} {w : World} {L rest : List Oper} {d : Nat} {op : Op} {ty : TypeId} {pos : String} {af : Array Edge} {g : Option (Nat × Bool)} {t : TypeId} {x ix : Operand}
/-- len(s), a text -/
theorem WL.lenT {s : ByteArray} (hg : gd L σ ⟨some d, .call ⟨.builtin .len, #[x], #[t]⟩, ty, pos, af, g⟩ = some true) (hd : Nat.ble (d + 1) n = true)
    (hx : ev σ x = some (.string s)) [hs : IsStr P t] (h : WL P L Q rest n ((d, .int .i64 (s.size : Int)) :: σ) w) : WL P L Q (⟨some d, .call ⟨.builtin .len, #[x], #[t]⟩, ty, pos, af, g⟩ :: rest) n σ w := by
  refine WL.run hg hd (fun a ha => ?_) h
  simp [execOp, resolve, invoke, builtin, ha.ev hx, Builtin.len_, run_underlying hs.ok, goInt]
theorem QL.lenT {s : ByteArray} (hg : gd L σ ⟨some d, .call ⟨.builtin .len, #[x], #[t]⟩, ty, pos, af, g⟩ = some true) (hd : Nat.ble (d + 1) n = true)
    (hx : ev σ x = some (.string s)) [hs : IsStr P t] (h : QL P L w Q rest n ((d, .int .i64 (s.size : Int)) :: σ)) : QL P L w Q (⟨some d, .call ⟨.builtin .len, #[x], #[t]⟩, ty, pos, af, g⟩ :: rest) n σ := by
  refine QL.run hg hd (fun a ha _ _ => ?_) h
  simp [execOp, resolve, invoke, builtin, ha.ev hx, Builtin.len_, run_underlying hs.ok, goInt]
/-- s[i] -/
theorem WL.byteT {s : ByteArray} {i : Nat} {kd : IntKind} (hg : gd L σ ⟨some d, .index t x ix, ty, pos, af, g⟩ = some true) (hd : Nat.ble (d + 1) n = true)
    (hx : ev σ x = some (.string s)) (hi : ev σ ix = some (.int kd (i : Int))) [hs : IsStr P t] (h1 : i < s.size) (h : WL P L Q rest n ((d, .int .u8 ((s[i]).toNat : Int)) :: σ) w) : WL P L Q (⟨some d, .index t x ix, ty, pos, af, g⟩ :: rest) n σ w := by
  refine WL.run hg hd (fun a ha => ?_) h
  have e : s[i]? = some s[i] := by simp [h1]
  simp [execOp, ha.ev hx, ha.ev hi, Instr.index, asIntOf, run_underlying hs.ok, e]
end
end Go.Proofs.Ythojdcbpglipeaa
