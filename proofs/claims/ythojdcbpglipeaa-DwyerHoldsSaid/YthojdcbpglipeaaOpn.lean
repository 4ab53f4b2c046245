/-
  The types of the arguments, as the form reads them.
-/
import Derived.Test.YthojdcbpglipeaaOpen
set_option linter.unusedVariables false
namespace Go.Proofs.Ythojdcbpglipeaa
open Go.RowKit

instance iOpn1 : Opn Try.prog 4 Bool := Opn.bool Try.underlying4
instance iOpn2 : Opn Try.prog 33 Nat := Opn.u64 Try.underlying33
instance iOpn3 : Opn Try.prog 9 ByteArray := Opn.string Try.underlying9
instance iOpn4 : Opn Try.prog 27 Int := Opn.int Try.underlying27
instance iOpn5 : Opn Try.prog 92 (List Bool) := Opn.slice
instance iOpn6 : Opn Try.prog 24 (List Nat) := Opn.slice
instance iOpn8 : Opn Try.prog 214 (List Bool) := Opn.slice
instance iOpn9 : Opn Try.prog 243 (List (List Bool)) := Opn.slice
instance iOpn10 : Opn Try.prog 82 (ByteArray × Int) := Opn.struct (fs := [(9, 0), (3, 1)]) (by kernel_rfl)
instance iOpn11 : Opn Try.prog 169 (Int × Int) := Opn.struct (fs := [(3, 0), (3, 1)]) (by kernel_rfl)
instance iOpn12 : Opn Try.prog 84 (Int × Int × Int) := Opn.struct (fs := [(3, 0), (3, 1), (3, 2)]) (by kernel_rfl)
instance iOpn13 : Opn Try.prog 115 (Int × Int) := Opn.struct (fs := [(3, 0), (3, 1)]) (by kernel_rfl)
instance iOpn14 : Opn Try.prog 68 (List (ByteArray × Int)) := Opn.slice
instance iOpn15 : Opn Try.prog 69 (List (Int × Int)) := Opn.slice
instance iOpn16 : Opn Try.prog 78 (List (Int × Int × Int)) := Opn.slice
instance iOpn17 : Opn Try.prog 112 (List (Int × Int)) := Opn.slice
instance iOpn18 : Opn Try.prog 44 (List Nat × List Nat) := Opn.struct (fs := [(24, 0), (24, 1)]) (by kernel_rfl)
instance iOpn19 : Opn Try.prog 301 (List Int × List Int) := Opn.struct (fs := [(22, 0), (22, 1)]) (by kernel_rfl)
instance iOpn20 : Opn Try.prog 52 (Int × Int × Int × Int × Int × Int × Int) := Opn.struct (fs := [(3, 0), (3, 1), (3, 2), (3, 3), (3, 4), (3, 5), (3, 6)]) (by kernel_rfl)
instance iOpn21 : Opn Try.prog 42 (Int × Int × Int × Int) := Opn.struct (fs := [(3, 0), (3, 1), (3, 2), (3, 3)]) (by kernel_rfl)
instance iOpn22 : Opn Try.prog 88 (List Int × List (List Int) × List Nat × List (List Int)) := Opn.struct (fs := [(22, 0), (23, 1), (24, 2), (23, 3)]) (by kernel_rfl)
instance iOpn23 : Opn Try.prog 26 (List Int × List (List Int) × List Nat × List Nat × List (List Int)) := Opn.struct (fs := [(22, 0), (23, 1), (24, 2), (24, 3), (23, 4)]) (by kernel_rfl)
instance iOpn24 : Opn Try.prog 71 (List (ByteArray × Int) × List (Int × Int)) := Opn.struct (fs := [(68, 0), (69, 1)]) (by kernel_rfl)
instance iOpn26 : Opn Try.prog 154 (Int × Int) := Opn.struct (fs := [(3, 0), (3, 1)]) (by kernel_rfl)
instance iOpn27 : Opn Try.prog 145 (Bool × Bool) := Opn.struct (fs := [(4, 0), (4, 1)]) (by kernel_rfl)
end Go.Proofs.Ythojdcbpglipeaa
