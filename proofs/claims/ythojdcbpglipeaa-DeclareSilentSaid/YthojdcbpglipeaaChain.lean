/-
  Drawn regions with a chain of changes of memory and one more change (e) that may come anywhere among them. Over any program.
-/
import Derived.Test.YthojdcbpglipeaaTail
set_option linter.unusedVariables false
set_option linter.unusedSimpArgs false
namespace Go.Proofs.Ythojdcbpglipeaa
open Go.RowKit

def chnB (ops : Array Oper) (e : Nat) (r : List (Nat × Bool)) : List Nat → Array Bool → Bool
  | [], listed => ordB ops ((e, false) :: r) listed
  | i :: c, listed => (Region.ready .any ops listed).all (fun j => j == i || j == e) && !(Region.ready .any ops listed).isEmpty && chnB ops e r c (listed.setIfInBounds i true) &&
      ordB ops ((i :: c).map (fun j => (j, false)) ++ r) (listed.setIfInBounds e true)
def ordChB (ops : Array Oper) (e : Nat) (c : List Nat) (r : List (Nat × Bool)) : List (Nat × Bool) → Array Bool → Bool
  | [], listed => chnB ops e r c listed
  | (i, true) :: s, listed => (Region.ready .any ops listed).contains i && Region.free .any ops listed i && ordChB ops e c r s (listed.setIfInBounds i true)
  | (i, false) :: s, listed => decide (Region.ready .any ops listed = [i]) && ordChB ops e c r s (listed.setIfInBounds i true)
def chainOk (l : List Oper) (s : List (Nat × Bool)) (e : Nat) (c : List Nat) (r : List (Nat × Bool)) : Bool :=
  Region.noSelect l.toArray && decide (s.length + (c.length + 1) + r.length = l.length) && ordChB l.toArray e c r s (Array.replicate l.length false)

def wpChain (P : Program) (ops : List Oper) (S : World → Prop) (Q : Act → World → Prop) (e : Nat) (r : List (Nat × Bool)) : List Nat → Act → World → Prop
  | [], a, w => wpHL P ops S Q ((e, false) :: r) a w
  | i :: c, a, w => (∃ o, ops[i]? = some o ∧ (if Region.wanted o (yielded ops.toArray a.tmps) = true then o.wp P a w (fun a' w' => S w' ∧ wpChain P ops S Q e r c a' w') (fun x a w => x = .normal ∧ Q a w) else S w ∧ wpChain P ops S Q e r c (a.put o.dst undef) w)) ∧
      wpHL P ops S Q ((e, false) :: ((i :: c).map (fun j => (j, false)) ++ r)) a w
theorem wpChain_sound {P : Program} {ops : List Oper} {S : World → Prop} {Q : Act → World → Prop} (hs : Region.noSelect ops.toArray = true) (e : Nat) (r : List (Nat × Bool)) :
    ∀ (c : List Nat) (listed : Array Bool) (a : Act) (w : World), chnB ops.toArray e r c listed = true → S w → wpChain P ops S Q e r c a w → wpAnyH P .any ops.toArray (fun x a w => x = .normal ∧ Q a w) S (r.length + (c.length + 1)) listed a w
  | [], listed, a, w, hB, hS, h => by
    have := wpHL_sound (Q := Q) hs ((e, false) :: r) listed a w hB hS h
    simpa using this
  | i :: c, listed, a, w, hB, hS, ⟨⟨o, ho, h⟩, ⟨oe, hoe, he⟩⟩ => by
    simp only [chnB, Bool.and_eq_true, List.all_eq_true, Bool.not_eq_true', List.isEmpty_eq_false_iff, Bool.or_eq_true, beq_iff_eq] at hB
    obtain ⟨⟨⟨hin, hne⟩, hrec⟩, hord⟩ := hB
    have hlen : r.length + ((i :: c).length + 1) = (r.length + (c.length + 1)) + 1 := by simp; omega
    rw [hlen]
    refine wpAnyH_all rfl hne ?_
    intro j hj
    by_cases hji : j = i
    · subst hji
      have ho' : ops.toArray[j]? = some o := by simpa using ho
      unfold wpOp
      simp only [ho']
      split
      · rename_i hw
        rw [if_pos hw] at h
        exact .inl (Oper.wp_mono (fun a' w' h' => ⟨h'.1, wpChain_sound hs e r c _ _ _ hrec h'.1 h'.2⟩) (wp_exits (fun x a w hne hf => absurd hf.1 hne) h))
      · rename_i hw
        rw [if_neg hw] at h
        exact ⟨h.1, wpChain_sound hs e r c _ _ _ hrec h.1 h.2⟩
    · have hje : j = e := (hin j hj).resolve_left hji
      subst hje
      have ho' : ops.toArray[j]? = some oe := by simpa using hoe
      have hl2 : ((i :: c).map (fun j => (j, false)) ++ r).length = r.length + (c.length + 1) := by simp; omega
      unfold wpOp
      simp only [ho']
      split
      · rename_i hw
        rw [if_pos hw] at he
        refine .inl (Oper.wp_mono (fun a' w' h' => ⟨h'.1, ?_⟩) (wp_exits (fun x a w hne hf => absurd hf.1 hne) he))
        have := wpHL_sound (Q := Q) hs _ _ a' w' hord h'.1 h'.2
        rw [hl2] at this
        exact this
      · rename_i hw
        rw [if_neg hw] at he
        refine ⟨he.1, ?_⟩
        have := wpHL_sound (Q := Q) hs _ _ _ w hord he.1 he.2
        rw [hl2] at this
        exact this
theorem wpHLCh_sound {P : Program} {ops : List Oper} {S : World → Prop} {Q : Act → World → Prop} (hs : Region.noSelect ops.toArray = true) (e : Nat) (c : List Nat) (r : List (Nat × Bool)) :
    ∀ (s : List (Nat × Bool)) (listed : Array Bool) (a : Act) (w : World), ordChB ops.toArray e c r s listed = true → S w → wpHL P ops S (fun a w => S w ∧ wpChain P ops S Q e r c a w) s a w → wpAnyH P .any ops.toArray (fun x a w => x = .normal ∧ Q a w) S (r.length + (c.length + 1) + s.length) listed a w
  | [], listed, a, w, hB, hS, h => wpChain_sound hs e r c _ _ _ hB hS h.2
  | (i, true) :: s, listed, a, w, hB, hS, ⟨o, v, ho, hy, h⟩ => by
    simp only [ordChB, Bool.and_eq_true] at hB
    exact wpAnyH_take (by simpa using ho) hs hB.1.2 hB.1.1 (fun _ _ _ h => by cases h.1) hy hS (wpHLCh_sound hs e c r s _ _ _ hB.2 hS h)
  | (i, false) :: s, listed, a, w, hB, hS, ⟨o, ho, h⟩ => by
    simp only [ordChB, Bool.and_eq_true, decide_eq_true_eq] at hB
    refine wpAnyH_all hB.1 (by simp) ?_
    intro j hj
    have hji : j = i := by simpa using hj
    subst hji
    have ho' : ops.toArray[j]? = some o := by simpa using ho
    unfold wpOp
    simp only [ho']
    split
    · rename_i hw
      rw [if_pos hw] at h
      exact .inl (Oper.wp_mono (fun a' w' h' => ⟨h'.1, wpHLCh_sound hs e c r s _ _ _ hB.2 h'.1 h'.2⟩) (wp_exits (fun x a w hne hf => absurd hf.1 hne) h))
    · rename_i hw
      rw [if_neg hw] at h
      exact ⟨h.1, wpHLCh_sound hs e c r s _ _ _ hB.2 h.1 h.2⟩
def ChainQ (P : Program) (ops : List Oper) (S : World → Prop) (Q : Exit → Act → World → Prop) (e : Nat) (c : List Nat) (r : List (Nat × Bool)) : Exit → Act → World → Prop :=
  fun x a w => x = .normal ∧ (S w ∧ wpChain P ops S (fun a w => Q .normal a w) e r c a w)
section
variable {P : Program} {Q : Exit → Act → World → Prop} {n : Nat} {σ : Sg} {w : World} {L : List Oper} {S : World → Prop}
theorem CW.drawC {id : Nat} (S : World → Prop) (s : List (Nat × Bool)) (e : Nat) (c : List Nat) (r : List (Nat × Bool)) (hm : P.follows .mixedOrders = true) (hB : chainOk L s e c r = true) (hS : S (drew w)) (h : HL P L S (ChainQ P L S Q e c r) s n σ (drew w)) : CW P (.region id L.toArray true) Q n σ w := by
  unfold CW; unfold HL at h; intro a ha
  simp only [chainOk, Bool.and_eq_true, decide_eq_true_eq] at hB
  obtain ⟨⟨hs, hl⟩, hB⟩ := hB
  have h0 := h a ha
  have h0' : wpHL P L S (fun a w => S w ∧ wpChain P L S (fun a w => Q .normal a w) e r c a w) s a (Go.Proofs.Ythojdcbpglipeaa.drew w) := by
    have : (fun a w => ChainQ P L S Q e c r .normal a w) = (fun a w => S w ∧ wpChain P L S (fun a w => Q .normal a w) e r c a w) := by funext a w; simp [ChainQ]
    rw [← this]; exact h0
  have h1 := wpHLCh_sound hs e c r s (Array.replicate L.length false) a (Go.Proofs.Ythojdcbpglipeaa.drew w) hB hS h0'
  rw [show r.length + (c.length + 1) + s.length = L.length by omega] at h1
  have h2 := wp_region_held (id := id) (S := S) hm (w := w) (ops := L.toArray) (by simpa using h1)
  exact wp_mono h2 (fun x a' w' ⟨he, hq⟩ => by subst he; exact hq)
/-- the chain's next, or e -/
theorem EX.chain {e i : Nat} {c : List Nat} {r : List (Nat × Bool)} {o : Oper} (hS : S w) (ho : nthO L i = some o) (h1 : WL P L (ChainQ P L S Q e c r) [o] n σ w) (h2 : HL P L S Q ((e, false) :: ((i :: c).map (fun j => (j, false)) ++ r)) n σ w) : EX (ChainQ P L S Q e (i :: c) r) .normal n σ w := by
  unfold EX; unfold WL at h1; unfold HL at h2
  intro a ha
  refine ⟨rfl, hS, ?_, h2 a ha⟩
  rw [nthO_eq] at ho
  refine ⟨o, ho, ?_⟩
  have h2 : wpList P L.toArray (ChainQ P L S Q e c r) [o] a w := h1 a ha
  simp only [wpList] at h2
  split
  · rename_i hw
    rw [if_pos hw] at h2
    rcases h2 with h2 | ⟨_, hlets⟩
    · unfold Oper.wp at *
      generalize (execOp a.eval o).run P w = r at *
      cases r with
      | ok k w' =>
        cases k <;> simp only [Oper.upon] at h2 ⊢ <;> first
          | exact h2.2
          | exact h2
          | (refine Calls.mono h2 (fun e w'' he => ?_); cases e <;> first | exact he.2 | (exact absurd he.1 (by simp)) | (obtain ⟨_, _, hx⟩ := he; exact absurd hx.1 (by simp)))
          | exact Rows.mono h2 (fun _ _ he => he.2)
      | halt x w' => cases x <;> simp only [Oper.upon] at h2 ⊢ <;> first | exact h2 | (exact absurd h2.1 (by simp))
    · obtain ⟨_, _, hx⟩ := hlets
      exact absurd hx.1 (by simp)
  · rename_i hw
    rw [if_neg hw] at h2
    exact h2.2
theorem EX.chain0 {e : Nat} {r : List (Nat × Bool)} (hS : S w) (h : HL P L S Q ((e, false) :: r) n σ w) : EX (ChainQ P L S Q e [] r) .normal n σ w := by
  unfold EX; unfold HL at h
  exact fun a ha => ⟨rfl, hS, h a ha⟩
theorem HL.sub {τ : Sg} {ord : List (Nat × Bool)} (hs : Sub τ σ) (h : HL P L S Q ord n τ w) : HL P L S Q ord n σ w := by
  unfold HL at *
  exact fun a ha => h a (ha.sub hs)
end
end Go.Proofs.Ythojdcbpglipeaa
