/-
  What comes from some nodes of a graph: plain lists, no program in sight.
-/
import Derived.Test.YthojdcbpglipeaaEng
set_option linter.unusedVariables false
set_option linter.unusedSimpArgs false
namespace Go.Proofs.Ythojdcbpglipeaa

abbrev Graph := List (List Int)
inductive Rch (g : Graph) (from' : List Int) : Nat → Prop
  | base {x : Int} : x ∈ from' → Rch g from' x.toNat
  | step {n : Nat} {x : Int} : Rch g from' n → x ∈ g.getD n [] → Rch g from' x.toNat
open Classical in
noncomputable def rchB (g : Graph) (from' : List Int) : List Bool := (List.range g.length).map fun n => decide (Rch g from' n)
theorem rchB_len (g : Graph) (f : List Int) : (rchB g f).length = g.length := by simp [rchB]
theorem rchB_get {g : Graph} {f : List Int} {n : Nat} (h : n < g.length) : (rchB g f)[n]? = some (@decide (Rch g f n) (Classical.propDecidable _)) := by
  simp [rchB, h]
theorem rchB_iff {g : Graph} {f : List Int} {n : Nat} (h : n < (rchB g f).length) : (rchB g f)[n] = true ↔ Rch g f n := by
  have h' : n < g.length := by rwa [rchB_len] at h
  simp [rchB]

/-- all its numbers are nodes -/
def okL (n : Nat) (l : List Int) : Prop := ∀ x ∈ l, 0 ≤ x ∧ x < n
def okG (g : Graph) : Prop := ∀ l ∈ g, okL g.length l
theorem okG_row {g : Graph} (h : okG g) (n : Nat) : okL g.length (g.getD n []) := by
  intro x hx
  by_cases hn : n < g.length
  · rw [List.getD_eq_getElem?_getD, List.getElem?_eq_getElem hn] at hx
    exact h _ (List.getElem_mem hn) x hx
  · rw [List.getD_eq_getElem?_getD, List.getElem?_eq_none (by omega)] at hx
    simp at hx

/-- what is still to be looked at -/
def pot : Graph → List Bool → Nat
  | l :: g, s :: r => (match s with | true => 0 | false => l.length + 1) + pot g r
  | _, _ => 0
theorem pot_set : ∀ (g : Graph) (seen : List Bool) (n : Nat), n < g.length → seen.length = g.length → seen.getD n true = false → pot g (seen.set n true) + (g.getD n []).length + 1 = pot g seen
  | [], _, n, h, _, _ => absurd h (by simp)
  | l :: g, [], n, _, h, _ => absurd h (by simp)
  | l :: g, s :: r, 0, _, _, h => by
    simp at h; subst h; simp [pot]; omega
  | l :: g, s :: r, n + 1, h1, h2, h3 => by
    have := pot_set g r n (by simpa using h1) (by simpa using h2) (by simpa using h3)
    simp only [List.set_cons_succ, pot, List.getD_cons_succ]
    omega
def edges (g : Graph) : Nat := (g.map List.length).sum
theorem pot_start : ∀ g : Graph, pot g (List.replicate g.length false) = edges g + g.length
  | [] => rfl
  | l :: g => by
    simp only [List.length_cons, List.replicate_succ, pot, pot_start g, edges, List.map_cons, List.sum_cons]
    omega

structure RInv (g : Graph) (f : List Int) (seen : List Bool) (todo : List Int) : Prop where
  len : seen.length = g.length
  ok : okL g.length todo
  sound : ∀ n, seen.getD n false = true → Rch g f n
  tsound : ∀ x ∈ todo, Rch g f x.toNat
  base : ∀ x ∈ f, seen.getD x.toNat false = true ∨ x ∈ todo
  clo : ∀ n, seen.getD n false = true → ∀ x ∈ g.getD n [], seen.getD x.toNat false = true ∨ x ∈ todo

theorem getD_set {l : List Bool} {n k : Nat} {b : Bool} (h : n < l.length) : (l.set n b).getD k false = if n = k then b else l.getD k false := by
  simp only [List.getD_eq_getElem?_getD, List.getElem?_set]
  split
  · subst_vars; simp [h]
  · rfl
theorem getD_rep {n k : Nat} : (List.replicate n false).getD k false = false := by
  simp only [List.getD_eq_getElem?_getD, List.getElem?_replicate]
  split <;> rfl
theorem RInv.start {g : Graph} {f : List Int} (hf : okL g.length f) : RInv g f (List.replicate g.length false) f where
  len := by simp
  ok := hf
  sound := fun n h => by rw [getD_rep] at h; cases h
  tsound := fun x hx => .base hx
  base := fun x hx => .inr hx
  clo := fun n h => by rw [getD_rep] at h; cases h
theorem RInv.pass {g : Graph} {f : List Int} {seen : List Bool} {todo : List Int} {x : Int} (h : RInv g f seen (todo ++ [x])) (hs : seen.getD x.toNat false = true) : RInv g f seen todo where
  len := h.len
  ok := fun y hy => h.ok y (by simp [hy])
  sound := h.sound
  tsound := fun y hy => h.tsound y (by simp [hy])
  base := fun y hy => by
    rcases h.base y hy with h1 | h1
    · exact .inl h1
    · rcases List.mem_append.1 h1 with h2 | h2
      · exact .inr h2
      · simp at h2; subst h2; exact .inl hs
  clo := fun n hn y hy => by
    rcases h.clo n hn y hy with h1 | h1
    · exact .inl h1
    · rcases List.mem_append.1 h1 with h2 | h2
      · exact .inr h2
      · simp at h2; subst h2; exact .inl hs
theorem RInv.mark {g : Graph} {f : List Int} {seen : List Bool} {todo : List Int} {x : Int} (hg : okG g) (h : RInv g f seen (todo ++ [x])) : RInv g f (seen.set x.toNat true) (todo ++ g.getD x.toNat []) := by
  have hx := h.ok x (by simp)
  have hlt : x.toNat < seen.length := by rw [h.len]; omega
  have key : ∀ y, seen.getD y.toNat false = true ∨ y ∈ todo ++ [x] → (seen.set x.toNat true).getD y.toNat false = true ∨ y ∈ todo ++ g.getD x.toNat [] := by
    intro y hy
    rw [getD_set hlt]
    rcases hy with h1 | h1
    · left; split
      · rfl
      · exact h1
    · rcases List.mem_append.1 h1 with h2 | h2
      · exact .inr (by simp [h2])
      · simp at h2; subst h2; left; simp
  refine ⟨by simpa using h.len, ?_, ?_, ?_, ?_, ?_⟩
  · intro y hy
    rcases List.mem_append.1 hy with h1 | h1
    · exact h.ok y (by simp [h1])
    · exact okG_row hg _ y h1
  · intro n hn
    rw [getD_set hlt] at hn
    split at hn
    · rename_i e; subst e; exact h.tsound x (by simp)
    · exact h.sound n hn
  · intro y hy
    rcases List.mem_append.1 hy with h1 | h1
    · exact h.tsound y (by simp [h1])
    · exact .step (h.tsound x (by simp)) h1
  · intro y hy; exact key y (h.base y hy)
  · intro n hn y hy
    rw [getD_set hlt] at hn
    split at hn
    · rename_i e; subst e; exact .inr (List.mem_append.2 (.inr hy))
    · exact key y (h.clo n hn y hy)
theorem RInv.done {g : Graph} {f : List Int} {seen : List Bool} (h : RInv g f seen []) : seen = rchB g f := by
  have all : ∀ n, Rch g f n → seen.getD n false = true := by
    intro n hn
    induction hn with
    | base hx => exact (h.base _ hx).resolve_right (by simp)
    | step _ hx ih => exact (h.clo _ ih _ hx).resolve_right (by simp)
  apply List.ext_getElem (by rw [h.len, rchB_len])
  intro n h1 h2
  have e1 : seen.getD n false = seen[n] := by simp [List.getD_eq_getElem?_getD, h1]
  rw [Bool.eq_iff_iff, rchB_iff h2, ← e1]
  exact ⟨h.sound n, all n⟩

/-- the search itself, to be run on small graphs -/
def dfs (g : Graph) : Nat → List Bool → List Int → List Bool
  | 0, seen, _ => seen
  | k + 1, seen, todo => match todo.reverse with
    | [] => seen
    | x :: r => match seen.getD x.toNat false with
      | true => dfs g k seen r.reverse
      | false => dfs g k (seen.set x.toNat true) (r.reverse ++ g.getD x.toNat [])
theorem dfs_eq {g : Graph} {f : List Int} (hg : okG g) : ∀ (k : Nat) (seen : List Bool) (todo : List Int), RInv g f seen todo → todo.length + pot g seen ≤ k → dfs g k seen todo = rchB g f := by
  intro k
  induction k with
  | zero =>
    intro seen todo h hk
    have : todo = [] := List.eq_nil_of_length_eq_zero (by omega)
    subst this
    exact h.done
  | succ k ih =>
    intro seen todo h hk
    unfold dfs
    split
    · rename_i he
      have : todo = [] := by simpa using he
      subst this
      exact h.done
    · rename_i x r he
      have ht : todo = r.reverse ++ [x] := by
        have := congrArg List.reverse he
        simpa using this
      subst ht
      have hx := h.ok x (by simp)
      split
      · rename_i hs
        exact ih _ _ (h.pass hs) (by simp at hk ⊢; omega)
      · rename_i hs
        have hxl : x.toNat < seen.length := by rw [h.len]; omega
        have hp := pot_set g seen x.toNat (by omega) h.len (by
          simp only [List.getD_eq_getElem?_getD, List.getElem?_eq_getElem hxl, Option.getD_some] at hs ⊢; exact hs)
        exact ih _ _ (RInv.mark hg h) (by simp only [List.length_append, List.length_cons, List.length_nil] at hk ⊢; omega)
theorem rchB_run {g : Graph} {f : List Int} (hg : okG g) (hf : okL g.length f) (k : Nat) (hk : f.length + edges g + g.length ≤ k) : rchB g f = dfs g k (List.replicate g.length false) f :=
  (dfs_eq hg k _ _ (RInv.start hf) (by rw [pot_start]; omega)).symm

/- WHAT THE LAW SAYS -/
theorem Rch.mono {g : Graph} {a b : List Int} (h : ∀ x ∈ a, x ∈ b) {n : Nat} (hn : Rch g a n) : Rch g b n := by
  induction hn with
  | base hx => exact .base (h _ hx)
  | step _ hx ih => exact .step ih hx
theorem Rch.app {g : Graph} {a b : List Int} {n : Nat} : Rch g (a ++ b) n ↔ Rch g a n ∨ Rch g b n := by
  constructor
  · intro h
    induction h with
    | base hx =>
      rcases List.mem_append.1 hx with h | h
      · exact .inl (.base h)
      · exact .inr (.base h)
    | step _ hx ih => exact ih.imp (fun h => .step h hx) (fun h => .step h hx)
  · rintro (h | h)
    · exact h.mono fun x hx => by simp [hx]
    · exact h.mono fun x hx => by simp [hx]

/- CHECKS -/
def oddB (n : Nat) (l : List Int) : Bool := l.any fun x => decide (x < 0 ∨ x ≥ n)
theorem oddB_false {n : Nat} {l : List Int} : oddB n l = false ↔ okL n l := by
  unfold oddB okL
  rw [List.any_eq_false]
  constructor
  · intro h x hx; have := h x hx; simp at this; omega
  · intro h x hx; have := h x hx; simp; omega
def chkG (g : Graph) : Int := match decide (g.length > 20000), g.any (oddB g.length) with
  | true, _ => 2
  | false, true => 1
  | false, false => 0
theorem chkG_ok {g : Graph} (h : chkG g = 0) : okG g ∧ g.length ≤ 20000 := by
  unfold chkG at h
  split at h
  · cases h
  · cases h
  · rename_i h1 h2
    simp at h1
    refine ⟨fun l hl => oddB_false.1 ?_, h1⟩
    rw [List.any_eq_false] at h2
    simpa using h2 l hl
end Go.Proofs.Ythojdcbpglipeaa
