/-
  The types of the arguments, as the form reads them.
-/
import Derived.Test.YtacpdifbpeajbabOpen
set_option linter.unusedVariables false
namespace Go.Proofs.Ytacpdifbpeajbab
open Go.RowKit

instance : Opn Try.prog 4 Bool := Opn.bool Try.underlying4
instance : Opn Try.prog 30 Nat := Opn.u64 Try.underlying30
instance : Opn Try.prog 9 ByteArray := Opn.string Try.underlying9
instance : Opn Try.prog 25 Int := Opn.int Try.underlying25
instance : Opn Try.prog 41 (List Bool) := Opn.slice
instance : Opn Try.prog 22 (List Nat) := Opn.slice
instance : Opn Try.prog 24 (List Nat × List Nat) := Opn.struct (fs := [(22, 0), (22, 1)]) (by kernel_rfl)
instance : Opn Try.prog 56 (List Int × List Int) := Opn.struct (fs := [(35, 0), (35, 1)]) (by kernel_rfl)
instance : Opn Try.prog 29 (Int × Int × Int × Int × Int × Int × Int) := Opn.struct (fs := [(3, 0), (3, 1), (3, 2), (3, 3), (3, 4), (3, 5), (3, 6)]) (by kernel_rfl)
instance : Opn Try.prog 46 (Int × Int × Int × Int) := Opn.struct (fs := [(3, 0), (3, 1), (3, 2), (3, 3)]) (by kernel_rfl)
instance : Opn Try.prog 54 (List Int × List (List Int) × List Nat × List (List Int)) := Opn.struct (fs := [(35, 0), (34, 1), (22, 2), (34, 3)]) (by kernel_rfl)
instance : Opn Try.prog 76 (Int × Int) := Opn.struct (fs := [(3, 0), (3, 1)]) (by kernel_rfl)
instance : Opn Try.prog 89 (Bool × Bool) := Opn.struct (fs := [(4, 0), (4, 1)]) (by kernel_rfl)
end Go.Proofs.Ytacpdifbpeajbab
