/-
  ProcFlows: walked.
-/
import Derived.Test.YthojdcbpglipeaaProc3
set_option linter.unusedVariables false
set_option linter.unusedSimpArgs false
namespace Go.Proofs.Ythojdcbpglipeaa
open Go.RowKit

theorem Cells.tl {w : World} {b o : Nat} {x : Value} {r : List Value} (h : Cells w b o (x :: r)) : Cells w b (o + 1) r := fun j u hu => by
  have := h (j + 1) u (by simpa using hu)
  rwa [show o + (j + 1) = o + 1 + j by omega] at this
/-- the cells of a list's element that is a pair of numbers -/
theorem Sl.pair {w : World} {F : Nat → Prop} {ao : Option Addr} {cap : Nat} {xs : List (Int × Int)} (h : Sl w F ao cap xs) {i : Nat} (hi : i < xs.length) : ∃ b off, ao = some ⟨b, off, none⟩ ∧ F b ∧ Cells w b (off + i * 2) [.int .i64 xs[i].1] ∧ Cells w b (off + i * 2 + 1) [.int .i64 xs[i].2] := by
  obtain ⟨b, off, e, hb, es, hc, hr⟩ := h.el i hi
  obtain ⟨c1, c2, rfl, h1, h2⟩ := rd_pr hr
  rw [rd_int h1, rd_int h2] at hc
  exact ⟨b, off, e, hb, fun j u hu => hc j u (by cases j with | zero => simpa using hu | succ j => simp at hu), hc.tl⟩
def insSum (fl : List LFlow) (n : Nat) : Nat := ((List.range n).map fun k : Nat => (insL fl (k : Int)).length).sum
def outsSum (fl : List LFlow) (n : Nat) : Nat := ((List.range n).map fun k : Nat => (outsL fl (k : Int)).length).sum
theorem insSum_next {fl : List LFlow} {n : Nat} : insSum fl (n + 1) = insSum fl n + (insL fl (n : Int)).length := by unfold insSum; rw [List.range_succ, List.map_append, List.sum_append]; simp
theorem outsSum_next {fl : List LFlow} {n : Nat} : outsSum fl (n + 1) = outsSum fl n + (outsL fl (n : Int)).length := by unfold outsSum; rw [List.range_succ, List.map_append, List.sum_append]; simp
theorem insSum_all {p : LProc} (h : OkPr p) : insSum p.2 p.1.length = p.2.length := by
  have := count_by (N := p.1.length) (fun i : Nat => (p.2.getD i (0, 0)).2) (List.range p.2.length) (fun i hi => by
    have hi := List.mem_range.1 hi
    rw [getDF_at hi]
    have := h.flows _ (List.getElem_mem hi)
    exact ⟨this.2.2.1, this.2.2.2⟩)
  rw [List.length_range] at this
  rw [← this]
  unfold insSum insL insP
  simp only [List.length_map]
theorem outsSum_all {p : LProc} (h : OkPr p) : outsSum p.2 p.1.length = p.2.length := by
  have := count_by (N := p.1.length) (fun i : Nat => (p.2.getD i (0, 0)).1) (List.range p.2.length) (fun i hi => by
    have hi := List.mem_range.1 hi
    rw [getDF_at hi]
    have := h.flows _ (List.getElem_mem hi)
    exact ⟨this.1, this.2.1⟩)
  rw [List.length_range] at this
  rw [← this]
  unfold outsSum outsL outsP
  simp only [List.length_map]
theorem insSum_le {fl : List LFlow} {n : Nat} (hl : fl.length ≤ 30) (hn : n ≤ 20) : insSum fl n ≤ 30 * n := by
  induction n with
  | zero => simp [insSum]
  | succ n ih =>
    rw [insSum_next]
    have : (insL fl (n : Int)).length ≤ fl.length := insP_len
    have := ih (by omega)
    omega
theorem outsSum_le {fl : List LFlow} {n : Nat} (hl : fl.length ≤ 30) (hn : n ≤ 20) : outsSum fl n ≤ 30 * n := by
  induction n with
  | zero => simp [outsSum]
  | succ n ih =>
    rw [outsSum_next]
    have : (outsL fl (n : Int)).length ≤ fl.length := outsP_len
    have := ih (by omega)
    omega
theorem listE_ok {p : LProc} (h : chkPr p = 0) {n : Nat} (hn : n < p.1.length) : listE p (n : Int) = 0 := by
  unfold listE
  rw [if_neg (by simp [h]), if_neg (by omega)]
end Go.Proofs.Ythojdcbpglipeaa
