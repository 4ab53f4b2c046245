/-
  Package world: what Check, Good and Word compute; a path written otherwise. Plain part.
-/
import Derived.Test.YthefpigolikmeaaLeastPl
import Derived.Test.YthefpigolikmeaaRch
set_option linter.unusedVariables false
set_option linter.unusedSimpArgs false
namespace Go.Proofs.Ythefpigolikmeaa
open Go.RowKit

def chkN (n : Nat) (l : List Int) : Bool := decide (l.length = 0) || oddB n l
def chkWd (st : List Int) (nx : List (List Int)) (k : Nat) (fr : List (List Int)) : Int :=
  if nx.length > 600 ∨ fr.length > 80 then 2 else if k ≠ nx.length ∨ oddB nx.length st = true then 1 else if nx.any (chkN nx.length) = true then 1 else if fr.any (oddB nx.length) = true then 1 else 0
theorem chkWd_ok {st : List Int} {nx : List (List Int)} {k : Nat} {fr : List (List Int)} (h : chkWd st nx k fr = 0) : nx.length ≤ 600 ∧ fr.length ≤ 80 ∧ k = nx.length ∧ okL nx.length st ∧ (∀ l ∈ nx, 0 < l.length ∧ okL nx.length l) ∧ ∀ l ∈ fr, okL nx.length l := by
  unfold chkWd at h
  split at h
  · cases h
  split at h
  · cases h
  split at h
  · cases h
  split at h
  · cases h
  rename_i h1 h2 h3 h4
  refine ⟨by omega, by omega, ?_, ?_, ?_, ?_⟩
  · by_cases e : k = nx.length
    · exact e
    · exact absurd (.inl e) h2
  · rw [← oddB_false]
    cases e : oddB nx.length st
    · rfl
    · exact absurd (.inr e) h2
  · intro l hl
    have h3 : nx.any (chkN nx.length) = false := by simpa using h3
    rw [List.any_eq_false] at h3
    have := h3 l hl
    simp only [chkN, Bool.or_eq_true, decide_eq_true_eq, not_or, Bool.not_eq_true] at this
    exact ⟨by omega, oddB_false.1 this.2⟩
  · intro l hl
    have h4 : fr.any (oddB nx.length) = false := by simpa using h4
    rw [List.any_eq_false] at h4
    exact oddB_false.1 (by simpa using h4 l hl)

def toP (al l : List Int) (i : Nat) : Int := if i + 1 < al.length then al.getD (i + 1) 0 else l.getD 0 0
def stepB (nx : List (List Int)) (al l : List Int) (i : Nat) : Bool := (nx.getD (al.getD i 0).toNat []).contains (toP al l i)
def goodB (st : List Int) (nx fr : List (List Int)) (al l : List Int) : Bool :=
  st.contains (al.getD 0 0) && (List.range al.length).all (stepB nx al l) && fr.all (fun f => f.any (fun x => l.contains x))
def goodF (st : List Int) (nx : List (List Int)) (k : Nat) (fr : List (List Int)) (s l : List Int) : Bool × Int :=
  if chkWd st nx k fr ≠ 0 then (false, chkWd st nx k fr) else if s.length > 60000 ∨ l.length > 60000 - s.length then (false, 2)
  else if l.length = 0 ∨ oddB nx.length s = true ∨ oddB nx.length l = true then (false, 0) else (goodB st nx fr (s ++ l) l, 0)

/- paths as words -/
theorem int_nat {n : Nat} {l : List Int} (h : okL n l) : (l.map Int.toNat).map Int.ofNat = l := by
  rw [List.map_map]
  conv => rhs; rw [← List.map_id l]
  refine List.map_congr_left fun x hx => ?_
  have := h x hx
  show Int.ofNat x.toNat = x
  have h2 : (x.toNat : Int) = x := Int.toNat_of_nonneg (by omega)
  exact h2
theorem getD_nat {l : List Nat} {i : Nat} (h : i < l.length) : (l.map Int.ofNat).getD i 0 = ((l.getD i 0 : Nat) : Int) := by
  rw [List.getD_eq_getElem?_getD, List.getElem?_map, List.getElem?_eq_getElem h, List.getD_eq_getElem?_getD, List.getElem?_eq_getElem h]; rfl
theorem all_lat {s l : List Nat} {i : Nat} (h : i < (s ++ l).length) : (((s ++ l).map Int.ofNat).getD i 0) = (lat s l i : Int) := by
  rw [getD_nat h]
  unfold lat
  rw [List.length_append] at h
  by_cases h1 : i < s.length
  · rw [if_pos h1, List.getD_eq_getElem?_getD, List.getElem?_append_left h1, ← List.getD_eq_getElem?_getD]
  · rw [if_neg h1, List.getD_eq_getElem?_getD, List.getElem?_append_right (by omega), ← List.getD_eq_getElem?_getD, Nat.mod_eq_of_lt (by omega)]
def edgeB (nx : List (List Int)) (s l : List Nat) (i : Nat) : Bool := (nx.getD (lat s l i) []).contains ((lat s l (i + 1) : Nat) : Int)
theorem stepB_lat {nx : List (List Int)} {s l : List Nat} (h0 : 0 < l.length) {i : Nat} (h : i < (s ++ l).length) : stepB nx ((s ++ l).map Int.ofNat) (l.map Int.ofNat) i = edgeB nx s l i := by
  unfold stepB edgeB
  have e2 : toP ((s ++ l).map Int.ofNat) (l.map Int.ofNat) i = ((lat s l (i + 1) : Nat) : Int) := by
    unfold toP
    rw [List.length_map]
    by_cases h1 : i + 1 < (s ++ l).length
    · rw [if_pos h1, all_lat h1]
    · rw [if_neg h1, getD_nat h0]
      have e : i + 1 = s.length + l.length := by rw [List.length_append] at h h1; omega
      rw [e]
      unfold lat
      rw [if_neg (by omega), Nat.add_sub_cancel_left, Nat.mod_self]
  rw [e2, all_lat h]
  rfl
theorem edges_all {nx : List (List Int)} {s l : List Nat} (h0 : 0 < l.length) : (List.range ((s ++ l).map Int.ofNat).length).all (stepB nx ((s ++ l).map Int.ofNat) (l.map Int.ofNat)) = true ↔ ∀ i, edgeB nx s l i = true := by
  rw [List.all_eq_true, List.length_map]
  constructor
  · intro h i
    have hlt := Nat.mod_lt (i - s.length) h0
    have key : ∀ j, j < (s ++ l).length → edgeB nx s l j = true := fun j hj => by rw [← stepB_lat h0 hj]; exact h j (List.mem_range.2 hj)
    rw [List.length_append] at key
    by_cases h1 : i < s.length
    · exact key i (by omega)
    · have hj := key (s.length + (i - s.length) % l.length) (by omega)
      have one : ∀ k, s.length ≤ k → lat s l k = l.getD ((k - s.length) % l.length) 0 := fun k hk => by unfold lat; rw [if_neg (by omega)]
      unfold edgeB at hj ⊢
      rw [one _ (by omega), one _ (by omega)] at hj ⊢
      have e1 : (s.length + (i - s.length) % l.length - s.length) % l.length = (i - s.length) % l.length := by rw [Nat.add_sub_cancel_left, Nat.mod_mod]
      have e2 : (s.length + (i - s.length) % l.length + 1 - s.length) % l.length = (i + 1 - s.length) % l.length := by
        have : s.length + (i - s.length) % l.length + 1 - s.length = (i - s.length) % l.length + 1 := by omega
        rw [this]
        have : i + 1 - s.length = (i - s.length) + 1 := by omega
        rw [this, Nat.mod_add_mod]
      rw [e1, e2] at hj
      exact hj
  · intro h i hi
    rw [stepB_lat h0 (List.mem_range.1 hi)]
    exact h i
theorem toNat_app (s l : List Int) : (s ++ l).map Int.toNat = s.map Int.toNat ++ l.map Int.toNat := List.map_append
/-- a path unrolled goes the same way -/
theorem good_unroll {st : List Int} {nx fr : List (List Int)} {s l : List Int} (hs : okL nx.length s) (hl : okL nx.length l) (h0 : 0 < l.length) {n : Nat} (hn : n ≤ l.length) :
    goodB st nx fr ((s ++ l.take n) ++ (l.drop n ++ l.take n)) (l.drop n ++ l.take n) = goodB st nx fr (s ++ l) l := by
  have es := int_nat hs
  have el := int_nat hl
  generalize s.map Int.toNat = a at es
  generalize l.map Int.toNat = b at el
  subst es el
  rw [List.length_map] at h0 hn
  have h0' : 0 < (b.drop n ++ b.take n).length := by rw [List.length_append, List.length_drop, List.length_take]; omega
  rw [← List.map_take, ← List.map_drop, ← List.map_append, ← List.map_append, ← List.map_append, ← List.map_append]
  have e1 : (((a ++ b.take n) ++ (b.drop n ++ b.take n)).map Int.ofNat).getD 0 0 = ((a ++ b).map Int.ofNat).getD 0 0 := by
    rw [all_lat (by rw [List.length_append]; omega), all_lat (by rw [List.length_append]; omega), lat_unroll h0 hn]
  have e2 : (List.range (((a ++ b.take n) ++ (b.drop n ++ b.take n)).map Int.ofNat).length).all (stepB nx (((a ++ b.take n) ++ (b.drop n ++ b.take n)).map Int.ofNat) ((b.drop n ++ b.take n).map Int.ofNat))
      = (List.range ((a ++ b).map Int.ofNat).length).all (stepB nx ((a ++ b).map Int.ofNat) (b.map Int.ofNat)) := by
    rw [Bool.eq_iff_iff, edges_all h0', edges_all h0]
    have e : ∀ i, edgeB nx (a ++ b.take n) (b.drop n ++ b.take n) i = edgeB nx a b i := fun i => by unfold edgeB; rw [lat_unroll h0 hn, lat_unroll h0 hn]
    constructor
    · intro h i; rw [← e]; exact h i
    · intro h i; rw [e]; exact h i
  have e3 : ∀ x, ((b.drop n ++ b.take n).map Int.ofNat).contains x = (b.map Int.ofNat).contains x := fun x => by
    conv => rhs; rw [← List.take_append_drop n b]
    rw [Bool.eq_iff_iff, List.contains_iff_mem, List.contains_iff_mem, List.map_append, List.map_append, List.mem_append, List.mem_append]
    exact Or.comm
  unfold goodB
  rw [e1, e2]
  simp only [e3]
theorem okL_unroll {n k : Nat} {s l : List Int} (hs : okL k s) (hl : okL k l) : okL k (s ++ l.take n) ∧ okL k (l.drop n ++ l.take n) := by
  have ht : okL k (l.take n) := fun x hx => hl x (List.mem_of_mem_take hx)
  have hd : okL k (l.drop n) := fun x hx => hl x (List.mem_of_mem_drop hx)
  constructor
  · intro x hx
    rcases List.mem_append.1 hx with h | h
    · exact hs x h
    · exact ht x h
  · intro x hx
    rcases List.mem_append.1 hx with h | h
    · exact hd x h
    · exact ht x h
theorem goodF_unroll {st : List Int} {nx : List (List Int)} {k : Nat} {fr : List (List Int)} {s l : List Int} (h0 : 0 < l.length) (h60 : s.length + l.length ≤ 60) {n : Nat} (hn : n ≤ l.length) :
    goodF st nx k fr (s ++ l.take n) (l.drop n ++ l.take n) = goodF st nx k fr s l := by
  have e1 : (s ++ l.take n).length = s.length + n := by rw [List.length_append, List.length_take]; omega
  have e2 : (l.drop n ++ l.take n).length = l.length := by rw [List.length_append, List.length_drop, List.length_take]; omega
  unfold goodF
  by_cases hc : chkWd st nx k fr ≠ 0
  · rw [if_pos hc, if_pos hc]
  rw [if_neg hc, if_neg hc, e1, e2, if_neg (show ¬ (s.length + n > 60000 ∨ l.length > 60000 - (s.length + n)) by omega), if_neg (show ¬ (s.length > 60000 ∨ l.length > 60000 - s.length) by omega)]
  have eo : ∀ m : Nat, (oddB m (s ++ l.take n) = true ∨ oddB m (l.drop n ++ l.take n) = true) ↔ (oddB m s = true ∨ oddB m l = true) := by
    intro m
    have h1 : (oddB m s = false ∧ oddB m l = false) → (oddB m (s ++ l.take n) = false ∧ oddB m (l.drop n ++ l.take n) = false) := by
      rw [oddB_false, oddB_false, oddB_false, oddB_false]
      rintro ⟨a, b⟩; exact okL_unroll a b
    have h2 : (oddB m (s ++ l.take n) = false ∧ oddB m (l.drop n ++ l.take n) = false) → (oddB m s = false ∧ oddB m l = false) := by
      rw [oddB_false, oddB_false, oddB_false, oddB_false]
      rintro ⟨a, b⟩
      refine ⟨fun x hx => a x (List.mem_append_left _ hx), fun x hx => b x ?_⟩
      rw [← List.take_append_drop n l] at hx
      rcases List.mem_append.1 hx with h | h
      · exact List.mem_append_right _ h
      · exact List.mem_append_left _ h
    revert h1 h2
    cases oddB m s <;> cases oddB m l <;> cases oddB m (s ++ l.take n) <;> cases oddB m (l.drop n ++ l.take n) <;> simp
  by_cases h : l.length = 0 ∨ oddB nx.length s = true ∨ oddB nx.length l = true
  · rw [if_pos h, if_pos (h.imp id (eo _).2)]
  · rw [if_neg h, if_neg (fun h' => h (h'.imp id (eo _).1))]
    have hs : okL nx.length s := oddB_false.1 (by cases e : oddB nx.length s; rfl; exact absurd (.inr (.inl e)) h)
    have hl : okL nx.length l := oddB_false.1 (by cases e : oddB nx.length l; rfl; exact absurd (.inr (.inr e)) h)
    rw [good_unroll hs hl h0 hn]

/- words of paths -/
def labL (lb : List Nat) (l : List Int) : List Nat := l.map fun x => lb.getD x.toNat 0
def wordF (st : List Int) (nx : List (List Int)) (lb : List Nat) (fr : List (List Int)) (s l : List Int) : (List Nat × List Nat) × Int :=
  if chkWd st nx lb.length fr ≠ 0 then (([], []), chkWd st nx lb.length fr) else if l.length = 0 ∨ oddB nx.length s = true ∨ oddB nx.length l = true then (([], []), 1)
  else if chkW (labL lb s) (labL lb l) ≠ 0 then (([], []), chkW (labL lb s) (labL lb l)) else ((labL lb s, labL lb l), 0)
theorem wordF_ok {st : List Int} {nx : List (List Int)} {lb : List Nat} {fr : List (List Int)} {s l : List Int} (h : (wordF st nx lb fr s l).2 = 0) :
    (wordF st nx lb fr s l).1 = (labL lb s, labL lb l) ∧ chkW (labL lb s) (labL lb l) = 0 := by
  unfold wordF at h ⊢
  split at h
  · exact absurd h (by assumption)
  split at h
  · cases h
  split at h
  · exact absurd h (by assumption)
  rename_i h1 h2 h3
  rw [if_neg h1, if_neg h2, if_neg h3]
  exact ⟨rfl, by simpa using h3⟩
theorem labL_unroll {lb : List Nat} {s l : List Int} (n : Nat) : labL lb (s ++ l.take n) = labL lb s ++ (labL lb l).take n ∧ labL lb (l.drop n ++ l.take n) = (labL lb l).drop n ++ (labL lb l).take n := by
  unfold labL
  rw [List.map_append, List.map_append, List.map_take, List.map_drop]
  exact ⟨rfl, rfl⟩
end Go.Proofs.Ythefpigolikmeaa
