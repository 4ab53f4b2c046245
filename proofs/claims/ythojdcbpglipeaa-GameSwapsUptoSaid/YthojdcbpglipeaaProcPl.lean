/-
  Processes: what is right, what flows a node has: plain lists, no program in sight.
-/
import Derived.Test.YthojdcbpglipeaaRch
set_option linter.unusedVariables false
set_option linter.unusedSimpArgs false
namespace Go.Proofs.Ythojdcbpglipeaa

abbrev LNode := ByteArray × Int
abbrev LFlow := Int × Int
abbrev LProc := List LNode × List LFlow
def lowB (c : UInt8) : Bool := !(decide (((c.toNat : Nat) : Int) < 97)) && !(decide (((c.toNat : Nat) : Int) > 122))
def namedL (l : List UInt8) : Bool := !(l == []) && !(decide ((l.length : Int) > 8)) && !(l == [116, 114, 117, 101]) && !(l == [102, 97, 108, 115, 101]) && !(l == [115, 105, 108, 101, 110, 116]) && l.all lowB
abbrev namedB (s : ByteArray) : Bool := namedL s.data.toList
def nameEq (a b : ByteArray) : Bool := a.data.toList == b.data.toList
def nodeE (ns : List LNode) (i : Nat) : Int :=
  if !namedB (ns.getD i (⟨#[]⟩, 0)).1 || decide ((ns.getD i (⟨#[]⟩, 0)).2 < 1) || decide ((ns.getD i (⟨#[]⟩, 0)).2 > 7) then 1
  else if (ns.take i).any (fun m => nameEq m.1 (ns.getD i (⟨#[]⟩, 0)).1) then 4 else 0
def nodesGo (ns : List LNode) : Nat → Nat → Int
  | 0, _ => 0
  | f + 1, i => if nodeE ns i ≠ 0 then nodeE ns i else nodesGo ns f (i + 1)
def nodesE (ns : List LNode) : Int := nodesGo ns ns.length 0
theorem nodesGo_step {ns : List LNode} : ∀ (f i k : Nat), i ≤ k → k < i + f → (∀ j, i ≤ j → j < k → nodeE ns j = 0) → nodeE ns k ≠ 0 → nodesGo ns f i = nodeE ns k
  | 0, i, k, h1, h2, _, _ => by omega
  | f + 1, i, k, h1, h2, h3, h4 => by
    unfold nodesGo
    by_cases e : i = k
    · subst e; rw [if_pos h4]
    · rw [if_neg (by rw [h3 i (Nat.le_refl _) (by omega)]; simp)]
      exact nodesGo_step f (i + 1) k (by omega) (by omega) (fun j h5 h6 => h3 j (by omega) h6) h4
theorem nodesGo_zero {ns : List LNode} : ∀ (f i : Nat), (∀ j, i ≤ j → j < i + f → nodeE ns j = 0) → nodesGo ns f i = 0
  | 0, _, _ => rfl
  | f + 1, i, h => by
    unfold nodesGo
    rw [if_neg (by rw [h i (Nat.le_refl _) (by omega)]; simp)]
    exact nodesGo_zero f (i + 1) (fun j h1 h2 => h j (by omega) (by omega))
theorem nodesE_first {ns : List LNode} {k : Nat} (hk : k < ns.length) (h0 : ∀ j, j < k → nodeE ns j = 0) (h : nodeE ns k ≠ 0) : nodesE ns = nodeE ns k := nodesGo_step _ 0 k (Nat.zero_le _) (by omega) (fun j _ => h0 j) h
theorem nodesE_zero {ns : List LNode} (h0 : ∀ j, j < ns.length → nodeE ns j = 0) : nodesE ns = 0 := nodesGo_zero _ 0 (fun j _ h => h0 j (by omega))
theorem nodesE_all {ns : List LNode} (h : nodesE ns = 0) : ∀ j, j < ns.length → nodeE ns j = 0 := by
  intro j
  induction j using Nat.strongRecOn with
  | _ j ih =>
    intro hj
    apply Classical.byContradiction
    intro hn
    have := nodesE_first hj (fun k hk => ih k hk (by omega)) hn
    exact hn (by rw [← this]; exact h)
def countsB (kind : Int) (i o : Nat) : Bool :=
  if kind = 1 then decide (i = 0) && decide (o = 1)
  else if kind = 2 ∨ kind = 3 then decide (0 < i) && decide (o = 0)
  else if kind = 4 then decide (0 < i) && decide (o = 1)
  else if kind = 7 then if o > 4 then false else decide (0 < i) && decide (0 < o)
  else if kind = 5 ∨ kind = 6 then decide (0 < i) && decide (0 < o)
  else false
/-- flows into a node, and out of it, by number -/
def insP (fl : List LFlow) (n : Int) (k : Nat) : List Int := ((List.range k).filter fun i => (fl.getD i (0, 0)).2 == n).map fun i : Nat => (i : Int)
def outsP (fl : List LFlow) (n : Int) (k : Nat) : List Int := ((List.range k).filter fun i => (fl.getD i (0, 0)).1 == n).map fun i : Nat => (i : Int)
abbrev insL (fl : List LFlow) (n : Int) : List Int := insP fl n fl.length
abbrev outsL (fl : List LFlow) (n : Int) : List Int := outsP fl n fl.length
theorem insP_next {fl : List LFlow} {n : Int} {k : Nat} : insP fl n (k + 1) = insP fl n k ++ if ((fl.getD k (0, 0)).2 == n) = true then [(k : Int)] else [] := by
  unfold insP
  rw [List.range_succ, List.filter_append, List.map_append]
  congr 1
  by_cases e : ((fl.getD k (0, 0)).2 == n) = true
  · rw [if_pos e]; simp only [List.filter_cons, e, List.filter_nil]; rfl
  · rw [if_neg e]; simp only [List.filter_cons, e, List.filter_nil]; rfl
theorem outsP_next {fl : List LFlow} {n : Int} {k : Nat} : outsP fl n (k + 1) = outsP fl n k ++ if ((fl.getD k (0, 0)).1 == n) = true then [(k : Int)] else [] := by
  unfold outsP
  rw [List.range_succ, List.filter_append, List.map_append]
  congr 1
  by_cases e : ((fl.getD k (0, 0)).1 == n) = true
  · rw [if_pos e]; simp only [List.filter_cons, e, List.filter_nil]; rfl
  · rw [if_neg e]; simp only [List.filter_cons, e, List.filter_nil]; rfl
theorem insP_len {fl : List LFlow} {n : Int} {k : Nat} : (insP fl n k).length ≤ k := by
  unfold insP; rw [List.length_map]; exact Nat.le_trans (List.length_filter_le _ _) (by simp)
theorem outsP_len {fl : List LFlow} {n : Int} {k : Nat} : (outsP fl n k).length ≤ k := by
  unfold outsP; rw [List.length_map]; exact Nat.le_trans (List.length_filter_le _ _) (by simp)
theorem insP_mem {fl : List LFlow} {n : Int} {k : Nat} {x : Int} : x ∈ insP fl n k ↔ ∃ i : Nat, x = (i : Int) ∧ i < k ∧ (fl.getD i (0, 0)).2 = n := by
  unfold insP
  rw [List.mem_map]
  constructor
  · rintro ⟨i, h1, rfl⟩
    have := List.mem_filter.1 h1
    exact ⟨i, rfl, List.mem_range.1 this.1, by simpa using this.2⟩
  · rintro ⟨i, rfl, h1, h2⟩
    exact ⟨i, List.mem_filter.2 ⟨List.mem_range.2 h1, by simpa using h2⟩, rfl⟩
theorem outsP_mem {fl : List LFlow} {n : Int} {k : Nat} {x : Int} : x ∈ outsP fl n k ↔ ∃ i : Nat, x = (i : Int) ∧ i < k ∧ (fl.getD i (0, 0)).1 = n := by
  unfold outsP
  rw [List.mem_map]
  constructor
  · rintro ⟨i, h1, rfl⟩
    have := List.mem_filter.1 h1
    exact ⟨i, rfl, List.mem_range.1 this.1, by simpa using this.2⟩
  · rintro ⟨i, rfl, h1, h2⟩
    exact ⟨i, List.mem_filter.2 ⟨List.mem_range.2 h1, by simpa using h2⟩, rfl⟩
/-- is a flow's end no node? -/
def flowOdd (n : Nat) (f : LFlow) : Bool := decide (f.1 < 0) || decide (f.1 ≥ n) || decide (f.2 < 0) || decide (f.2 ≥ n)
/-- the graph of some flows -/
def flowsG (n : Nat) (fl : List LFlow) : Graph := (List.range n).map fun k : Nat => (fl.filter fun f => f.1 == (k : Int)).map (·.2)
def startsL (ns : List LNode) (k : Nat) : List Nat := (List.range k).filter fun i => (ns.getD i (⟨#[]⟩, 0)).2 == 1
def badCount (p : LProc) (i : Nat) : Bool := !countsB (p.1.getD i (⟨#[]⟩, 0)).2 (insL p.2 i).length (outsL p.2 i).length
open Classical in
noncomputable def chkR (p : LProc) : Int := if ∃ n, n < p.1.length ∧ ¬ Rch (flowsG p.1.length p.2) (((startsL p.1 p.1.length).getLast?.map fun n : Nat => (n : Int)).toList) n then 6 else 0
noncomputable def chkPr (p : LProc) : Int :=
  if p.1.length > 20 ∨ p.2.length > 30 then 2 else if nodesE p.1 ≠ 0 then nodesE p.1
  else if p.2.any (flowOdd p.1.length) = true then 1 else if (startsL p.1 p.1.length).length ≠ 1 then 1
  else if (List.range p.1.length).any (badCount p) = true then 1
  else chkR p
structure OkPr (p : LProc) : Prop where
  n : p.1.length ≤ 20
  f : p.2.length ≤ 30
  nodes : ∀ i, i < p.1.length → nodeE p.1 i = 0
  flows : ∀ f ∈ p.2, 0 ≤ f.1 ∧ f.1 < p.1.length ∧ 0 ≤ f.2 ∧ f.2 < p.1.length
  start : (startsL p.1 p.1.length).length = 1
  count : ∀ i, i < p.1.length → countsB (p.1.getD i (⟨#[]⟩, 0)).2 (insL p.2 i).length (outsL p.2 i).length = true
theorem chkPr_ok {p : LProc} (h : chkPr p = 0) : OkPr p := by
  unfold chkPr at h
  split at h
  · cases h
  split at h
  · rename_i h1 h2; exact absurd h h2
  split at h
  · cases h
  split at h
  · cases h
  split at h
  · cases h
  rename_i h1 h2 h3 h4 h5
  refine ⟨by omega, by omega, nodesE_all (by simpa using h2), fun f hf => ?_, by simpa using h4, fun i hi => ?_⟩
  · have h3 := List.any_eq_false.1 (by simpa using h3) f hf
    unfold flowOdd at h3
    simp at h3
    omega
  · have h5 := List.any_eq_false.1 (by simpa using h5) i (List.mem_range.2 hi)
    unfold badCount at h5
    simpa using h5
/- FLOWS, COUNTED BY THEIR NODES -/
theorem sum_ite {k : Nat} (G : Nat → Nat) : ∀ m : List Nat, m.Nodup → (m.map fun n => G n + if k = n then 1 else 0).sum = (m.map G).sum + if k ∈ m then 1 else 0
  | [], _ => rfl
  | a :: m, hd => by
    rw [List.nodup_cons] at hd
    have ih := sum_ite (k := k) G m hd.2
    simp only [List.map_cons, List.sum_cons, ih]
    by_cases e : k = a
    · subst e
      rw [if_pos rfl, if_neg hd.1, if_pos (by simp)]; omega
    · rw [if_neg e]
      by_cases hm : k ∈ m
      · rw [if_pos hm, if_pos (List.mem_cons_of_mem _ hm)]; omega
      · rw [if_neg hm, if_neg (fun h => (List.mem_cons.1 h).elim e hm)]; omega
theorem count_by {α : Type} {N : Nat} (key : α → Int) : ∀ l : List α, (∀ x ∈ l, 0 ≤ key x ∧ key x < N) → ((List.range N).map fun n : Nat => (l.filter fun x => key x == (n : Int)).length).sum = l.length
  | [], _ => by
    have : ∀ m : List Nat, (m.map fun n : Nat => (([] : List α).filter fun x => key x == (n : Int)).length).sum = 0 := fun m => by
      induction m with
      | nil => rfl
      | cons a m ih => simp only [List.map_cons, List.sum_cons, ih]; rfl
    exact this _
  | x :: r, h => by
    have ih := count_by key r (fun y hy => h y (by simp [hy]))
    obtain ⟨h0, h1⟩ := h x (by simp)
    have hFG : (fun n : Nat => ((x :: r).filter fun x => key x == (n : Int)).length) = fun n : Nat => (r.filter fun x => key x == (n : Int)).length + if (key x).toNat = n then 1 else 0 := by
      funext n
      rw [List.filter_cons]
      by_cases e : key x = (n : Int)
      · rw [if_pos (by simpa using e), if_pos (by omega)]; rfl
      · rw [if_neg (by simpa using e), if_neg (by omega)]; rfl
    rw [hFG, sum_ite _ _ List.nodup_range, ih, if_pos (by rw [List.mem_range]; omega)]
    rfl
end Go.Proofs.Ythojdcbpglipeaa
