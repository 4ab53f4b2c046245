/-
  Drawn regions in which several changes of memory may come in any order: a bag of operations, each of which only makes new memory. Over any program.
-/
import Derived.Test.YthojdcbpglipeaaHeld2
set_option linter.unusedVariables false
set_option linter.unusedSimpArgs false
namespace Go.Proofs.Ythojdcbpglipeaa
open Go.RowKit

/-- whichever order: all of J come up first, then the order r -/
def bagB (ops : Array Oper) (r : List (Nat × Bool)) : Nat → List Nat → Array Bool → Bool
  | 0, J, listed => J.isEmpty && ordB ops r listed
  | k + 1, J, listed => (Region.ready .any ops listed).all (fun i => J.contains i) && !(Region.ready .any ops listed).isEmpty &&
      (Region.ready .any ops listed).all fun i => bagB ops r k (J.erase i) (listed.setIfInBounds i true)
def ordBagB (ops : Array Oper) (J : List Nat) (r : List (Nat × Bool)) : List (Nat × Bool) → Array Bool → Bool
  | [], listed => bagB ops r J.length J listed
  | (i, true) :: s, listed => (Region.ready .any ops listed).contains i && Region.free .any ops listed i && ordBagB ops J r s (listed.setIfInBounds i true)
  | (i, false) :: s, listed => decide (Region.ready .any ops listed = [i]) && ordBagB ops J r s (listed.setIfInBounds i true)
def bagOk (l : List Oper) (s : List (Nat × Bool)) (J : List Nat) (r : List (Nat × Bool)) : Bool :=
  Region.noSelect l.toArray && decide (s.length + J.length + r.length = l.length) && ordBagB l.toArray J r s (Array.replicate l.length false)

def Never : Exit → Act → World → Prop := fun _ _ _ => False
def wpBag (P : Program) (ops : List Oper) (S : World → Prop) (K : Act → World → Prop) : Nat → List Nat → Act → World → Prop
  | 0, _, a, w => K a w
  | k + 1, J, a, w => ∀ i ∈ J, ∃ o, ops[i]? = some o ∧ Region.wanted o (yielded ops.toArray a.tmps) = true ∧ o.wp P a w (fun a' w' => S w' ∧ wpBag P ops S K k (J.erase i) a' w') Never

theorem wp_exits {P : Program} {o : Oper} {a : Act} {w : World} {K : Act → World → Prop} {Q Q' : Exit → Act → World → Prop} (hq : ∀ e a w, e ≠ .normal → Q e a w → Q' e a w) (h : o.wp P a w K Q) : o.wp P a w K Q' := by
  unfold Oper.wp at *
  generalize (execOp a.eval o).run P w = r at *
  cases r with
  | ok k w' =>
    cases k <;> simp only [Oper.upon] at h ⊢ <;> first
      | exact h
      | (refine Calls.mono h (fun e w'' he => ?_); cases e <;> first | exact he | exact hq _ _ _ (by simp) he | (obtain ⟨a1, w1, hx⟩ := he; exact ⟨a1, w1, hq _ _ _ (by simp) hx⟩))
  | halt x w' => cases x <;> simp only [Oper.upon] at h ⊢ <;> first | exact h | exact hq _ _ _ (by simp) h

theorem wpBag_sound {P : Program} {ops : List Oper} {S : World → Prop} {Q : Act → World → Prop} (hs : Region.noSelect ops.toArray = true) (r : List (Nat × Bool)) :
    ∀ (k : Nat) (J : List Nat) (listed : Array Bool) (a : Act) (w : World), bagB ops.toArray r k J listed = true → S w → wpBag P ops S (wpHL P ops S Q r) k J a w → wpAnyH P .any ops.toArray (fun e a w => e = .normal ∧ Q a w) S (r.length + k) listed a w
  | 0, J, listed, a, w, hB, hS, h => by
    simp only [bagB, Bool.and_eq_true] at hB
    exact wpHL_sound hs r _ _ _ hB.2 hS h
  | k + 1, J, listed, a, w, hB, hS, h => by
    simp only [bagB, Bool.and_eq_true, List.all_eq_true, Bool.not_eq_true', List.isEmpty_eq_false_iff] at hB
    obtain ⟨⟨hin, hne⟩, hrec⟩ := hB
    refine wpAnyH_all rfl hne ?_
    intro i hi
    obtain ⟨o, ho, hw, hwp⟩ := h i (by simpa using hin i hi)
    unfold wpOp
    have ho' : ops.toArray[i]? = some o := by simpa using ho
    simp only [ho', hw, if_true]
    refine .inl (Oper.wp_mono (fun a' w' h' => ⟨h'.1, wpBag_sound hs r k (J.erase i) _ _ _ (hrec i hi) h'.1 h'.2⟩) (wp_exits (fun e a w _ hf => hf.elim) hwp))

theorem wpHLBag_sound {P : Program} {ops : List Oper} {S : World → Prop} {Q : Act → World → Prop} (hs : Region.noSelect ops.toArray = true) (J : List Nat) (r : List (Nat × Bool)) :
    ∀ (s : List (Nat × Bool)) (listed : Array Bool) (a : Act) (w : World), ordBagB ops.toArray J r s listed = true → S w → wpHL P ops S (fun a w => S w ∧ wpBag P ops S (wpHL P ops S Q r) J.length J a w) s a w → wpAnyH P .any ops.toArray (fun e a w => e = .normal ∧ Q a w) S (r.length + J.length + s.length) listed a w
  | [], listed, a, w, hB, hS, h => wpBag_sound hs r _ _ _ _ _ hB hS h.2
  | (i, true) :: s, listed, a, w, hB, hS, ⟨o, v, ho, hy, h⟩ => by
    simp only [ordBagB, Bool.and_eq_true] at hB
    exact wpAnyH_take (by simpa using ho) hs hB.1.2 hB.1.1 (fun _ _ _ h => by cases h.1) hy hS (wpHLBag_sound hs J r s _ _ _ hB.2 hS h)
  | (i, false) :: s, listed, a, w, hB, hS, ⟨o, ho, h⟩ => by
    simp only [ordBagB, Bool.and_eq_true, decide_eq_true_eq] at hB
    refine wpAnyH_all hB.1 (by simp) ?_
    intro j hj
    have hji : j = i := by simpa using hj
    subst hji
    have ho' : ops.toArray[j]? = some o := by simpa using ho
    unfold wpOp
    simp only [ho']
    split
    · rename_i hw
      rw [if_pos hw] at h
      exact .inl (Oper.wp_mono (fun a' w' h' => ⟨h'.1, wpHLBag_sound hs J r s _ _ _ hB.2 h'.1 h'.2⟩) (wp_exits (fun e a w hne hf => absurd hf.1 hne) h))
    · rename_i hw
      rw [if_neg hw] at h
      exact ⟨h.1, wpHLBag_sound hs J r s _ _ _ hB.2 h.1 h.2⟩

/-- one of the bag: its number, its slot, and what is so of its value from then on -/
structure BE where
  i : Nat
  d : Nat
  /-- of the value, the new blocks that came with it, and the world -/
  Φ : Value → (Nat → Prop) → World → Prop
/-- where the bag begins -/
def BagQ (P : Program) (ops : List Oper) (S : World → Prop) (Q : Exit → Act → World → Prop) (J : List Nat) (r : List (Nat × Bool)) : Exit → Act → World → Prop :=
  fun e a w => e = .normal ∧ (S w ∧ wpBag P ops S (wpHL P ops S (fun a w => Q .normal a w) r) J.length J a w)
/-- behind one of the bag -/
def AfterB (S : World → Prop) (w : World) (e : BE) : Exit → Act → World → Prop :=
  fun x a w' => x = .normal ∧ a.defers = [] ∧ S w' ∧ Ext w w' ∧ ∃ N, e.Φ (a.tmps.getD e.d undef) N w' ∧ ∀ b, N b → w.heap.size ≤ b ∧ b < w'.heap.size
/-- what one of the bag does, wherever it comes -/
def BC (P : Program) (L : List Oper) (S : World → Prop) (n : Nat) (σ : Sg) (e : BE) : Prop :=
  (∃ o, nthO L e.i = some o ∧ o.dst = some e.d ∧ gd L σ o = some true ∧ ∀ w, S w → WL P L (AfterB S w e) [o] n σ w) ∧ Nat.ble (e.d + 1) n = true ∧ fnd σ e.d = none ∧ ∀ v N w w', e.Φ v N w → Ext w w' → e.Φ v N w'
theorem EX.bagE {S : World → Prop} {w w' : World} {e : BE} {n : Nat} {σ : Sg} {v : Value} (N : Nat → Prop) (hv : fnd σ e.d = some v) (hS : S w') (hE : Ext w w') (hΦ : e.Φ v N w') (hN : ∀ b, N b → w.heap.size ≤ b ∧ b < w'.heap.size) : EX (AfterB S w e) .normal n σ w' := by
  unfold EX
  intro a ha
  exact ⟨rfl, ha.defers, hS, hE, by rw [ha.slot _ _ hv]; exact ⟨N, hΦ, hN⟩⟩
theorem bc_wp {P : Program} {L : List Oper} {S : World → Prop} {n : Nat} {σ : Sg} {e : BE} (h : BC P L S n σ e) {a : Act} {w : World} (ha : Fr n σ a) (hS : S w) :
    ∃ o, L[e.i]? = some o ∧ Region.wanted o (yielded L.toArray a.tmps) = true ∧ o.wp P a w (fun a' w' => S w' ∧ Ext w w' ∧ ∃ v N, a' = a.put (some e.d) v ∧ e.Φ v N w' ∧ ∀ b, N b → w.heap.size ≤ b ∧ b < w'.heap.size) Never := by
  obtain ⟨⟨o, ho, hd, hg, hw⟩, hn, hf, _⟩ := h
  rw [nthO_eq] at ho
  have hwa := gd_wanted ha hg
  refine ⟨o, ho, hwa, ?_⟩
  have h1 := hw w hS
  unfold WL at h1
  have h2 := h1 a ha
  simp only [wpList, hwa, if_true] at h2
  have hlt : e.d < n := Nat.le_of_ble_eq_true hn
  have hget : ∀ v, (a.put (some e.d) v).tmps.getD e.d undef = v := by
    intro v
    simp [Act.put, Array.getD, ha.size, hlt]
  rcases h2 with h2 | ⟨_, hl⟩
  · unfold Oper.wp at *
    obtain ⟨dst, op, ty, pos, af, g⟩ := o
    simp only at hd
    subst hd
    generalize (execOp a.eval _).run P w = r at *
    cases r with
    | ok k w' =>
      cases k <;> simp only [Oper.upon] at h2 ⊢ <;> first
        | exact ⟨h2.2.2.1, h2.2.2.2.1, by have := h2.2.2.2.2; rw [hget] at this; obtain ⟨N, h3, h4⟩ := this; exact ⟨_, N, rfl, h3, h4⟩⟩
        | (exfalso; have := h2.2.1; simp [Act.put] at this; done)
        | (refine Calls.mono h2 (fun x w'' he => ?_)
           cases x
           · exact ⟨he.2.2.1, he.2.2.2.1, by have := he.2.2.2.2; rw [hget] at this; obtain ⟨N, h3, h4⟩ := this; exact ⟨_, N, rfl, h3, h4⟩⟩
           · exact absurd he.1 (by simp)
           · obtain ⟨_, _, hx⟩ := he; exact absurd hx.1 (by simp))
        | exact Rows.mono h2 (fun v w'' he => ⟨he.2.2.1, he.2.2.2.1, by have := he.2.2.2.2; rw [hget] at this; obtain ⟨N, h3, h4⟩ := this; exact ⟨_, N, rfl, h3, h4⟩⟩)
        | exact h2
    | halt x w' => cases x <;> simp only [Oper.upon] at h2 ⊢ <;> first | exact h2 | exact absurd h2.1 (by simp)
  · obtain ⟨_, _, hx⟩ := hl
    exact absurd hx.1 (by simp)

/-- behind the bag: each slot holds a value of which its fact is so; what came with one did not come with another -/
def BagK (w' : World) (G : Sg → Prop) : List (Nat → Prop) → List BE → Sg → Prop
  | _, [], σ => G σ
  | D, e :: r, σ => ∀ v N, e.Φ v N w' → (∀ p ∈ D, ∀ b, p b → N b → False) → BagK w' G (N :: D) r ((e.d, v) :: σ)
theorem BagK.get {w' : World} {G : Sg → Prop} {n : Nat} {a : Act} (NN : Nat → Nat → Prop) : ∀ (E : List BE) {D : List (Nat → Prop)} {σ : Sg}, BagK w' G D E σ → Fr n σ a → (∀ e ∈ E, e.d < n ∧ e.Φ (a.tmps.getD e.d undef) (NN e.i) w') →
    (∀ e ∈ E, ∀ p ∈ D, ∀ b, p b → NN e.i b → False) → (E.map (·.i)).Nodup → (∀ e ∈ E, ∀ f ∈ E, e.i ≠ f.i → ∀ b, NN e.i b → NN f.i b → False) → ∃ τ, Fr n τ a ∧ G τ
  | [], D, σ, h, ha, _, _, _, _ => ⟨σ, ha, h⟩
  | e :: r, D, σ, h, ha, hE, hD, hnd, hP => by
    have he := hE e (by simp)
    rw [List.map_cons, List.nodup_cons] at hnd
    refine BagK.get NN r (h _ _ he.2 (hD e (by simp))) ?_ (fun x hx => hE x (by simp [hx])) ?_ hnd.2 (fun x hx y hy => hP x (by simp [hx]) y (by simp [hy]))
    rotate_left
    · intro x hx p hp b hb hx'
      rcases List.mem_cons.1 hp with rfl | hp
      · exact hP e (by simp) x (by simp [hx]) (fun hi => hnd.1 (by rw [hi]; exact List.mem_map_of_mem hx)) b hb hx'
      · exact hD x (by simp [hx]) p hp b hb hx'
    refine ⟨ha.size, ha.defers, fun t u hu => ?_⟩
    by_cases ht : e.d = t
    · subst ht; rw [fnd_cons_eq] at hu; cases hu; rfl
    · rw [fnd_cons_ne ht] at hu; exact ha.slot _ _ hu
def distB : List Nat → Bool
  | [] => true
  | x :: r => !r.contains x && distB r
theorem distB_nodup : ∀ {l : List Nat}, distB l = true → l.Nodup
  | [], _ => List.nodup_nil
  | x :: r, h => by
    simp only [distB, Bool.and_eq_true, Bool.not_eq_true'] at h
    rw [List.nodup_cons]
    exact ⟨by simpa using h.1, distB_nodup h.2⟩

def updN (NN : Nat → Nat → Prop) (i : Nat) (N : Nat → Prop) : Nat → Nat → Prop := fun j => if j = i then N else NN j
theorem updN_eq {NN : Nat → Nat → Prop} {i : Nat} {N : Nat → Prop} : updN NN i N i = N := if_pos rfl
theorem updN_ne {NN : Nat → Nat → Prop} {i : Nat} {N : Nat → Prop} {j : Nat} (h : j ≠ i) : updN NN i N j = NN j := if_neg h
theorem nodup_inj {β γ : Type} {f : β → γ} : ∀ {l : List β}, (l.map f).Nodup → ∀ x ∈ l, ∀ y ∈ l, f x = f y → x = y
  | [], _, x, hx, _, _, _ => by simp at hx
  | z :: r, h, x, hx, y, hy, e => by
    rw [List.map_cons, List.nodup_cons] at h
    rcases List.mem_cons.1 hx with h1 | h1
    · rcases List.mem_cons.1 hy with h2 | h2
      · rw [h1, h2]
      · exact absurd (show f z ∈ r.map f by rw [← h1, e]; exact List.mem_map_of_mem h2) h.1
    · rcases List.mem_cons.1 hy with h2 | h2
      · exact absurd (show f z ∈ r.map f by rw [← h2, ← e]; exact List.mem_map_of_mem h1) h.1
      · exact nodup_inj h.2 x h1 y h2 e
theorem wpBag_of {P : Program} {L : List Oper} {S : World → Prop} {n : Nat} {σ : Sg} {E : List BE} (hC : ∀ e ∈ E, BC P L S n σ e) (hd : (E.map (·.d)).Nodup) (hi : (E.map (·.i)).Nodup) {w0 : World} {K : Act → World → Prop}
    (hK : ∀ a w (NN : Nat → Nat → Prop), Fr n σ a → S w → Ext w0 w → (∀ e ∈ E, e.Φ (a.tmps.getD e.d undef) (NN e.i) w) → (∀ e ∈ E, ∀ f ∈ E, e.i ≠ f.i → ∀ b, NN e.i b → NN f.i b → False) → K a w) :
    ∀ (k : Nat) (J : List Nat) (a : Act) (w : World) (NN : Nat → Nat → Prop), J.length = k → J.Nodup → (∀ i ∈ J, i ∈ E.map (·.i)) → Fr n σ a → S w → Ext w0 w → (∀ e ∈ E, e.i ∉ J → e.Φ (a.tmps.getD e.d undef) (NN e.i) w ∧ ∀ b, NN e.i b → b < w.heap.size) →
      (∀ e ∈ E, ∀ f ∈ E, e.i ∉ J → f.i ∉ J → e.i ≠ f.i → ∀ b, NN e.i b → NN f.i b → False) → wpBag P L S K k J a w
  | 0, J, a, w, NN, hl, _, _, ha, hS, hE, hD, hP => hK a w NN ha hS hE (fun e he => (hD e he (by rw [List.eq_nil_of_length_eq_zero hl]; simp)).1) (fun e he f hf => hP e he f hf (by rw [List.eq_nil_of_length_eq_zero hl]; simp) (by rw [List.eq_nil_of_length_eq_zero hl]; simp))
  | k + 1, J, a, w, NN, hl, hnd, hsub, ha, hS, hE, hD, hP => by
    intro i hiJ
    obtain ⟨e, he, rfl⟩ := List.mem_map.1 (hsub i hiJ)
    obtain ⟨o, ho, hw, hwp⟩ := bc_wp (hC e he) ha hS
    refine ⟨o, ho, hw, Oper.wp_mono (fun a' w' h' => ?_) hwp⟩
    obtain ⟨hS', hE', v, N, rfl, hΦ, hN⟩ := h'
    have hn : e.d < n := Nat.le_of_ble_eq_true (hC e he).2.1
    have hf := (hC e he).2.2.1
    have hget : (a.put (some e.d) v).tmps.getD e.d undef = v := by simp [Act.put, Array.getD, ha.size, hn]
    have hoth : ∀ t, t ≠ e.d → (a.put (some e.d) v).tmps.getD t undef = a.tmps.getD t undef := by
      intro t ht
      simp only [Act.put, Array.getD_eq_getD_getElem?]
      rw [Array.getElem?_setIfInBounds_ne (Ne.symm ht)]
    have nne : updN NN e.i N e.i = N := updN_eq
    have nno : ∀ j, j ≠ e.i → updN NN e.i N j = NN j := fun j hj => updN_ne hj
    refine ⟨hS', wpBag_of hC hd hi hK k (J.erase e.i) _ _ (updN NN e.i N) (by rw [List.length_erase_of_mem hiJ, hl]; rfl) (hnd.erase _) (fun j hj => hsub j (List.mem_of_mem_erase hj)) ?_ hS' (hE.trans hE') ?_ ?_⟩
    · refine ⟨by simpa [Act.put] using ha.size, by simpa [Act.put] using ha.defers, fun t u hu => ?_⟩
      have : t ≠ e.d := fun h => by rw [h, hf] at hu; cases hu
      rw [hoth t this]; exact ha.slot t u hu
    · intro x hx hxJ
      by_cases hxe : x.d = e.d
      · have hxe' : x = e := nodup_inj hd x hx e he hxe
        subst hxe'
        rw [hget, nne]; exact ⟨hΦ, fun b hb => (hN b hb).2⟩
      · rw [hoth _ hxe]
        have hne : x.i ≠ e.i := fun hh => hxe (by rw [nodup_inj hi x hx e he hh])
        have h0 := hD x hx (fun hxJ' => hxJ ((List.mem_erase_of_ne hne).2 hxJ'))
        rw [nno _ hne]
        exact ⟨(hC x hx).2.2.2 _ _ _ _ h0.1 hE', fun b hb => Nat.lt_of_lt_of_le (h0.2 b hb) hE'.size⟩
    · intro x hx y hy hxJ hyJ hxy b hbx hby
      by_cases hxe : x.i = e.i
      · rw [hxe, nne] at hbx
        have hye : y.i ≠ e.i := fun h => hxy (by rw [hxe, h])
        rw [nno _ hye] at hby
        have h1 := (hD y hy (fun h => hyJ ((List.mem_erase_of_ne hye).2 h))).2 b hby
        have h2 := (hN b hbx).1
        omega
      · rw [nno _ hxe] at hbx
        have hxJ' : x.i ∉ J := fun h => hxJ ((List.mem_erase_of_ne hxe).2 h)
        by_cases hye : y.i = e.i
        · rw [hye, nne] at hby
          have h1 := (hD x hx hxJ').2 b hbx
          have h2 := (hN b hby).1
          omega
        · rw [nno _ hye] at hby
          exact hP x hx y hy hxJ' (fun h => hyJ ((List.mem_erase_of_ne hye).2 h)) hxy b hbx hby

section
variable {P : Program} {Q : Exit → Act → World → Prop} {n : Nat} {σ : Sg} {w : World} {L : List Oper} {S : World → Prop}
theorem CW.drawB {id : Nat} (S : World → Prop) (s : List (Nat × Bool)) (J : List Nat) (r : List (Nat × Bool)) (hm : P.follows .mixedOrders = true) (hB : bagOk L s J r = true) (hS : S (drew w)) (h : HL P L S (BagQ P L S Q J r) s n σ (drew w)) : CW P (.region id L.toArray true) Q n σ w := by
  unfold CW; unfold HL at h; intro a ha
  simp only [bagOk, Bool.and_eq_true, decide_eq_true_eq] at hB
  obtain ⟨⟨hs, hl⟩, hB⟩ := hB
  have h0 := h a ha
  have h0' : wpHL P L S (fun a w => S w ∧ wpBag P L S (wpHL P L S (fun a w => Q .normal a w) r) J.length J a w) s a (Go.Proofs.Ythojdcbpglipeaa.drew w) := by
    have : (fun a w => BagQ P L S Q J r .normal a w) = (fun a w => S w ∧ wpBag P L S (wpHL P L S (fun a w => Q .normal a w) r) J.length J a w) := by funext a w; simp [BagQ]
    rw [← this]; exact h0
  have h1 := wpHLBag_sound hs J r s (Array.replicate L.length false) a (Go.Proofs.Ythojdcbpglipeaa.drew w) hB hS h0'
  rw [show r.length + J.length + s.length = L.length by omega] at h1
  have h2 := wp_region_held (id := id) (S := S) hm (w := w) (ops := L.toArray) (by simpa using h1)
  exact wp_mono h2 (fun e a' w' ⟨he, hq⟩ => by subst he; exact hq)
/-- the bag -/
theorem EX.bag {J : List Nat} {r : List (Nat × Bool)} (E : List BE) (hJ : E.map (·.i) = J) (hdi : distB (E.map (·.i)) = true) (hdd : distB (E.map (·.d)) = true) (hS : S w) (hC : ∀ e ∈ E, BC P L S n σ e)
    (hK : ∀ w', S w' → Ext w w' → BagK w' (fun τ => HL P L S Q r n τ w') [] E σ) : EX (BagQ P L S Q J r) .normal n σ w := by
  unfold EX
  intro a ha
  subst hJ
  refine ⟨rfl, hS, ?_⟩
  refine wpBag_of hC (distB_nodup hdd) (distB_nodup hdi) (w0 := w) (fun a w' NN ha hS' hE hΦ hP => ?_) _ _ a w (fun _ _ => False) rfl (distB_nodup hdi) (fun i hi => hi) ha hS (Ext.refl _) (fun e he hn => absurd (List.mem_map_of_mem he) hn) (fun e he f hf hn => absurd (List.mem_map_of_mem he) hn)
  obtain ⟨τ, hτ, hG⟩ := BagK.get NN E (hK w' hS' hE) ha (fun e he => ⟨Nat.le_of_ble_eq_true (hC e he).2.1, hΦ e he⟩) (fun _ _ p hp => by simp at hp) (distB_nodup hdi) hP
  unfold HL at hG
  exact hG a hτ
end
end Go.Proofs.Ythojdcbpglipeaa
