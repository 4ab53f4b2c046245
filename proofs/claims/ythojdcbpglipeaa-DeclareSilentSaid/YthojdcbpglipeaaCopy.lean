/-
  copy, of cells within a block that the call owns. Over any program.
-/
import Derived.Test.YthojdcbpglipeaaOwn
import Derived.Laws.IdiomCopy
set_option linter.unusedVariables false
set_option linter.unusedSimpArgs false
namespace Go.Proofs.Ythojdcbpglipeaa
open Go.RowKit

theorem run_copyRow {P : Program} {α : Type} [Rep α] {t ty e : TypeId} [hs : IsS P t e] [ht : IsT P e α] (h1z : sz α = 1) (w : World) {b o dLen dCap : Nat} {a : Addr} {sLen sCap : Nat} {cs : List Value} {cur : Array Value}
    (hb : w.heap[b]? = some (.cells cur e (0, 0))) (hfit : o + cs.length ≤ cur.size) (hn : cs.length = Nat.min sLen dLen) (hsrc : ∀ j v, cs[j]? = some v → w.cell? (a.add j) = some v) (h1 : ∀ v ∈ cs, v.oneCell' = true) :
    (Builtin.copy_ #[t, t] ty #[.slice (some ⟨b, o, none⟩) dLen dCap, .slice (some a) sLen sCap]).run P w = .ok (goInt cs.length) (w.setRow b (cur.toList.take o ++ cs ++ cur.toList.drop (o + cs.length)).toArray) := by
  have hl := run_loadCells_list (P := P) w a cs hsrc
  have hst := run_storeCells_at P b o e cs 0 cur w hb (by omega) h1
  simp only [Nat.add_zero] at hst
  have hz := run_sizeOf (P := P) (t := e) (α := α) w
  rw [h1z] at hz
  simp [Builtin.copy_, run_underlying hs.ok, Builtin.lenOf, Builtin.firstCells, hz, ← hn, hl, hst]
end Go.Proofs.Ythojdcbpglipeaa
