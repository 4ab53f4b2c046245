/-
  The types of the arguments, as the form reads them.
-/
import Derived.Test.YtdepjllboiolpaaOpen
set_option linter.unusedVariables false
namespace Go.Proofs.Ytdepjllboiolpaa
open Go.RowKit

instance : Opn Try.prog 4 Bool := Opn.bool Try.underlying4
instance : Opn Try.prog 61 Nat := Opn.u64 Try.underlying61
instance : Opn Try.prog 9 ByteArray := Opn.string Try.underlying9
instance : Opn Try.prog 29 Int := Opn.int Try.underlying29
instance : Opn Try.prog 71 (List Bool) := Opn.slice
instance : Opn Try.prog 25 (List Nat) := Opn.slice
instance : Opn Try.prog 91 (List Bool) := Opn.slice
instance : Opn Try.prog 109 (List (List Bool)) := Opn.slice
instance : Opn Try.prog 27 (List Nat × List Nat) := Opn.struct (fs := [(25, 0), (25, 1)]) (by kernel_rfl)
instance : Opn Try.prog 51 (Int × Int × Int × Int × Int × Int × Int) := Opn.struct (fs := [(3, 0), (3, 1), (3, 2), (3, 3), (3, 4), (3, 5), (3, 6)]) (by kernel_rfl)
instance : Opn Try.prog 53 (Int × Int × Int × Int) := Opn.struct (fs := [(3, 0), (3, 1), (3, 2), (3, 3)]) (by kernel_rfl)
instance : Opn Try.prog 88 (Bool × Bool) := Opn.struct (fs := [(4, 0), (4, 1)]) (by kernel_rfl)
end Go.Proofs.Ytdepjllboiolpaa
