/-
  The types of the arguments, as the form reads them.
-/
import Derived.Test.YthefpigolikmeaaOpen
set_option linter.unusedVariables false
namespace Go.Proofs.Ythefpigolikmeaa
open Go.RowKit

instance iOpn1 : Opn Try.prog 4 Bool := Opn.bool Try.underlying4
instance iOpn2 : Opn Try.prog 33 Nat := Opn.u64 Try.underlying33
instance iOpn3 : Opn Try.prog 9 ByteArray := Opn.string Try.underlying9
instance iOpn4 : Opn Try.prog 27 Int := Opn.int Try.underlying27
instance iOpn5 : Opn Try.prog 68 (List Bool) := Opn.slice
instance iOpn6 : Opn Try.prog 24 (List Nat) := Opn.slice
instance iOpn8 : Opn Try.prog 209 (List Bool) := Opn.slice
instance iOpn9 : Opn Try.prog 226 (List (List Bool)) := Opn.slice
instance iOpn10 : Opn Try.prog 62 (ByteArray × Int) := Opn.struct (fs := [(9, 0), (3, 1)]) (by kernel_rfl)
instance iOpn11 : Opn Try.prog 52 (Int × Int) := Opn.struct (fs := [(3, 0), (3, 1)]) (by kernel_rfl)
instance iOpn12 : Opn Try.prog 60 (Int × Int × Int) := Opn.struct (fs := [(3, 0), (3, 1), (3, 2)]) (by kernel_rfl)
instance iOpn14 : Opn Try.prog 41 (List (ByteArray × Int)) := Opn.slice
instance iOpn15 : Opn Try.prog 42 (List (Int × Int)) := Opn.slice
instance iOpn16 : Opn Try.prog 55 (List (Int × Int × Int)) := Opn.slice
instance iOpn18 : Opn Try.prog 77 (List Nat × List Nat) := Opn.struct (fs := [(24, 0), (24, 1)]) (by kernel_rfl)
instance iOpn20 : Opn Try.prog 92 (Int × Int × Int × Int × Int × Int × Int) := Opn.struct (fs := [(3, 0), (3, 1), (3, 2), (3, 3), (3, 4), (3, 5), (3, 6)]) (by kernel_rfl)
instance iOpn21 : Opn Try.prog 85 (Int × Int × Int × Int) := Opn.struct (fs := [(3, 0), (3, 1), (3, 2), (3, 3)]) (by kernel_rfl)
instance iOpn22 : Opn Try.prog 67 (List Int × List (List Int) × List Nat × List (List Int)) := Opn.struct (fs := [(22, 0), (23, 1), (24, 2), (23, 3)]) (by kernel_rfl)
instance iOpn23 : Opn Try.prog 26 (List Int × List (List Int) × List Nat × List Nat × List (List Int)) := Opn.struct (fs := [(22, 0), (23, 1), (24, 2), (24, 3), (23, 4)]) (by kernel_rfl)
instance iOpn24 : Opn Try.prog 44 (List (ByteArray × Int) × List (Int × Int)) := Opn.struct (fs := [(41, 0), (42, 1)]) (by kernel_rfl)
instance iOpn26 : Opn Try.prog 159 (Int × Int) := Opn.struct (fs := [(3, 0), (3, 1)]) (by kernel_rfl)
instance iOpn27 : Opn Try.prog 150 (Bool × Bool) := Opn.struct (fs := [(4, 0), (4, 1)]) (by kernel_rfl)
end Go.Proofs.Ythefpigolikmeaa
