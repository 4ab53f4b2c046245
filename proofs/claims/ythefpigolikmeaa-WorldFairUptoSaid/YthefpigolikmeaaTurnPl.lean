/-
  A graph turned round: plain lists.
-/
import Derived.Test.YthefpigolikmeaaSplit
set_option linter.unusedVariables false
set_option linter.unusedSimpArgs false
namespace Go.Proofs.Ythefpigolikmeaa
open Go.RowKit

theorem turnL_row {g : Graph} {m : Nat} (h : m < (turnL g).length) : (turnL g)[m] = ((List.range g.length).filter (fun k => (g.getD k []).contains (m : Int))).map (fun k : Nat => (k : Int)) := by
  have e : (turnL g)[m] = trow g g.length 0 m := turnP_get _
  rw [e]
  unfold trow
  simp
theorem turn_thrice (g : Graph) : turnL (turnL (turnL g)) = turnL g := by
  apply List.ext_getElem (by simp only [turnL_len])
  intro m h1 h2
  rw [turnL_row, turnL_row]
  rw [turnL_len, turnL_len]
  congr 1
  apply List.filter_congr
  intro k hk
  rw [List.mem_range] at hk
  have hm : m < g.length := by rw [turnL_len] at h2; exact h2
  rw [Bool.eq_iff_iff]
  simp only [List.contains_iff_mem]
  rw [turnL_mem (by rw [turnL_len]; exact hk), turnL_mem hm]
  rw [turnL_len]
  exact ⟨fun h => h.2.2, fun h => ⟨hm, hk, h⟩⟩
theorem rch_turn1 {g : Graph} {a b : Nat} (h : Rch (turnL g) [(a : Int)] b) : Rch g [(b : Int)] a := by
  induction h with
  | @base x hx =>
    have : x = (a : Int) := by simpa using hx
    subst this
    simpa using Rch.self a
  | @step m x _ hx ih =>
    by_cases hm : m < g.length
    · have hx0 : 0 ≤ x := ((okG_row (turnL_ok g) m) x hx).1
      obtain ⟨k, rfl⟩ := Int.eq_ofNat_of_zero_le hx0
      exact (Rch.edge ((turnL_mem hm).1 hx).2).trans ih
    · rw [List.getD_eq_getElem?_getD, List.getElem?_eq_none (by rw [turnL_len]; omega)] at hx
      simp at hx
theorem rch_turn2 {g : Graph} (hg : okG g) {a b : Nat} (h : Rch g [(b : Int)] a) : Rch (turnL g) [(a : Int)] b := by
  induction h with
  | @base x hx =>
    have : x = (b : Int) := by simpa using hx
    subst this
    simpa using Rch.self b
  | @step m x _ hx ih =>
    have hxr := okG_row hg m x hx
    obtain ⟨k, rfl⟩ := Int.eq_ofNat_of_zero_le hxr.1
    have hm : m < g.length := by
      apply Classical.byContradiction
      intro hm
      rw [List.getD_eq_getElem?_getD, List.getElem?_eq_none (by omega)] at hx
      simp at hx
    have : (m : Int) ∈ (turnL g).getD k [] := (turnL_mem (by omega)).2 ⟨hm, hx⟩
    exact (Rch.edge this).trans ih
theorem rch_turn {g : Graph} (hg : okG g) {a b : Nat} : Rch (turnL g) [(a : Int)] b ↔ Rch g [(b : Int)] a := ⟨rch_turn1, rch_turn2 hg⟩
theorem parts_turn {g : Graph} (hg : okG g) {p q : List Int} (hp : PartsOK g p) (hq : PartsOK (turnL g) q) : p = q := by
  have hl : p.length = q.length := by rw [hp.len, hq.len, turnL_len]
  refine canon_unique hp.canon hq.canon hl fun a b ha hb => ?_
  rw [hp.len] at ha hb
  rw [hp.same a b ha hb, hq.same a b (by rw [turnL_len]; exact ha) (by rw [turnL_len]; exact hb), rch_turn hg, rch_turn hg]
  exact And.comm

theorem edges_le : ∀ (g : Graph) (c : Nat), (∀ l ∈ g, l.length ≤ c) → edges g ≤ g.length * c
  | [], c, _ => by simp [edges]
  | l :: g, c, h => by
    have h1 := edges_le g c (fun x hx => h x (by simp [hx]))
    have h2 := h l (by simp)
    simp only [edges, List.map_cons, List.sum_cons, List.length_cons] at h1 ⊢
    rw [Nat.add_mul, Nat.one_mul]
    omega
theorem edges_turn (g : Graph) : edges (turnL g) ≤ g.length * (g.length + 1) := by
  have h := edges_le (turnL g) (g.length + 1) (fun l hl => by
    obtain ⟨m, hm, rfl⟩ := List.mem_iff_getElem.1 hl
    have e : (turnL g)[m] = trow g g.length 0 m := turnP_get _
    rw [e]
    exact trow_len _ _ _ _)
  rwa [turnL_len] at h
end Go.Proofs.Ythefpigolikmeaa
