/-
  The types of the arguments, as the form reads them.
-/
import Derived.Test.YtacpdifbpeajbaaOpen
set_option linter.unusedVariables false
namespace Go.Proofs.Ytacpdifbpeajbaa
open Go.RowKit

instance : Opn Try.prog 4 Bool := Opn.bool Try.underlying4
instance : Opn Try.prog 65 Nat := Opn.u64 Try.underlying65
instance : Opn Try.prog 9 ByteArray := Opn.string Try.underlying9
instance : Opn Try.prog 25 Int := Opn.int Try.underlying25
instance : Opn Try.prog 24 (List Bool) := Opn.slice
instance : Opn Try.prog 45 (List Nat) := Opn.slice
instance : Opn Try.prog 84 (List Bool) := Opn.slice
instance : Opn Try.prog 115 (List (List Bool)) := Opn.slice
instance : Opn Try.prog 47 (List Nat × List Nat) := Opn.struct (fs := [(45, 0), (45, 1)]) (by kernel_rfl)
instance : Opn Try.prog 70 (Int × Int × Int × Int × Int × Int × Int) := Opn.struct (fs := [(3, 0), (3, 1), (3, 2), (3, 3), (3, 4), (3, 5), (3, 6)]) (by kernel_rfl)
instance : Opn Try.prog 60 (List Int × List (List Int) × List Nat × List Nat × List (List Int)) := Opn.struct (fs := [(23, 0), (22, 1), (45, 2), (45, 3), (22, 4)]) (by kernel_rfl)
instance : Opn Try.prog 108 (Int × Int) := Opn.struct (fs := [(3, 0), (3, 1)]) (by kernel_rfl)
end Go.Proofs.Ytacpdifbpeajbaa
