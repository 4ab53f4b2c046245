/-
  Structs as pairs: their readings, their opening. Over any program.
-/
import Derived.Test.YthojdcbpglipeaaNum
set_option linter.unusedVariables false
set_option linter.unusedSimpArgs false
namespace Go.Proofs.Ythojdcbpglipeaa
open Go.RowKit

instance iPr1 {α β : Type} [Rep α] [Rep β] : Rep (α × β) where
  sz := sz α + sz β
  pos := by have := (Rep.pos : 0 < Rep.sz α); show 0 < Rep.sz α + Rep.sz β; omega
  agg := true
  rd := fun w F cs x => ∃ c1 c2, cs = c1 ++ c2 ∧ rd w F c1 x.1 ∧ rd w F c2 x.2
  len := by rintro w F cs x ⟨c1, c2, rfl, h1, h2⟩; rw [List.length_append, Rep.len h1, Rep.len h2]
  one := by
    rintro w F cs x ⟨c1, c2, rfl, h1, h2⟩ v hv
    rcases List.mem_append.1 hv with h | h
    · exact Rep.one h1 v h
    · exact Rep.one h2 v h
  szAgg := fun h => by cases h
  mono := by rintro w w' F F' cs x ⟨c1, c2, rfl, h1, h2⟩ hb hF; exact ⟨c1, c2, rfl, Rep.mono h1 hb hF, Rep.mono h2 hb hF⟩

/-- a struct's cells and what they say: field by field -/
theorem Rd.pr {α β : Type} [Rep α] [Rep β] {w : World} {F : Nat → Prop} {v : Value} {x : α × β} (h : Rd w F v x) : ∃ c1 c2, v = .agg (c1 ++ c2).toArray ∧ rd w F c1 x.1 ∧ rd w F c2 x.2 := by
  obtain ⟨cs, rfl, c1, c2, rfl, h1, h2⟩ := h
  exact ⟨c1, c2, rfl, h1, h2⟩
theorem rd_pr {α β : Type} [Rep α] [Rep β] {w : World} {F : Nat → Prop} {cs : List Value} {x : α × β} (h : rd w F cs x) : ∃ c1 c2, cs = c1 ++ c2 ∧ rd w F c1 x.1 ∧ rd w F c2 x.2 := h
theorem rd_int {w : World} {F : Nat → Prop} {cs : List Value} {x : Int} (h : rd w F cs x) : cs = [.int .i64 x] := h
theorem rd_bool {w : World} {F : Nat → Prop} {cs : List Value} {x : Bool} (h : rd w F cs x) : cs = [.bool x] := h
theorem rd_u64 {w : World} {F : Nat → Prop} {cs : List Value} {x : Nat} (h : rd w F cs x) : cs = [.int .u64 (x : Int)] ∧ x < 18446744073709551616 := h
theorem rd_sl {α : Type} [Rep α] {w : World} {F : Nat → Prop} {cs : List Value} {x : List α} (h : rd w F cs x) : ∃ ao cap, cs = [.slice ao x.length cap] ∧ Sl w F ao cap x := h
theorem Rd.mkPr {α β : Type} [Rep α] [Rep β] {w : World} {F : Nat → Prop} {c1 c2 : List Value} {x : α} {y : β} (h1 : rd w F c1 x) (h2 : rd w F c2 y) : Rd w F (.agg (c1 ++ c2).toArray) (x, y) := ⟨_, rfl, c1, c2, rfl, h1, h2⟩
theorem rd_mk {α β : Type} [Rep α] [Rep β] {w : World} {F : Nat → Prop} {c1 c2 : List Value} {x : α} {y : β} (h1 : rd w F c1 x) (h2 : rd w F c2 y) : rd w F (c1 ++ c2) (x, y) := ⟨c1, c2, rfl, h1, h2⟩
theorem rd_mkInt (w : World) (F : Nat → Prop) (x : Int) : rd w F [.int .i64 x] x := rfl
theorem rd_mkBool (w : World) (F : Nat → Prop) (x : Bool) : rd w F [.bool x] x := rfl
theorem rd_mkU64 (w : World) (F : Nat → Prop) (x : Nat) (h : x < 18446744073709551616) : rd w F [.int .u64 (x : Int)] x := ⟨rfl, h⟩
theorem rd_mkSl {α : Type} [Rep α] {w : World} {F : Nat → Prop} {ao : Option Addr} {cap : Nat} {x : List α} (h : Sl w F ao cap x) : rd w F [.slice ao x.length cap] x := ⟨ao, cap, rfl, h⟩

/-- words and patterns -/
abbrev LWord := List Nat × List Nat
abbrev LPat := Int × Int × Int × Int × Int × Int × Int
theorem Rd.word {w : World} {F : Nat → Prop} {v : Value} {x : LWord} (h : Rd w F v x) : ∃ so sc lo lc, v = .agg [.slice so x.1.length sc, .slice lo x.2.length lc].toArray ∧ Sl w F so sc x.1 ∧ Sl w F lo lc x.2 := by
  obtain ⟨c1, c2, rfl, h1, h2⟩ := h.pr
  obtain ⟨so, sc, rfl, k1⟩ := rd_sl h1
  obtain ⟨lo, lc, rfl, k2⟩ := rd_sl h2
  exact ⟨so, sc, lo, lc, rfl, k1, k2⟩
theorem Rd.pat {w : World} {F : Nat → Prop} {v : Value} {x : LPat} (h : Rd w F v x) : v = .agg [.int .i64 x.1, .int .i64 x.2.1, .int .i64 x.2.2.1, .int .i64 x.2.2.2.1, .int .i64 x.2.2.2.2.1, .int .i64 x.2.2.2.2.2.1, .int .i64 x.2.2.2.2.2.2].toArray := by
  obtain ⟨c1, r1, rfl, h1, k1⟩ := h.pr
  obtain ⟨c2, r2, rfl, h2, k2⟩ := rd_pr k1
  obtain ⟨c3, r3, rfl, h3, k3⟩ := rd_pr k2
  obtain ⟨c4, r4, rfl, h4, k4⟩ := rd_pr k3
  obtain ⟨c5, r5, rfl, h5, k5⟩ := rd_pr k4
  obtain ⟨c6, c7, rfl, h6, h7⟩ := rd_pr k5
  rw [rd_int h1, rd_int h2, rd_int h3, rd_int h4, rd_int h5, rd_int h6, rd_int h7]
  rfl
end Go.Proofs.Ythojdcbpglipeaa
