import Derived.Test.YtadbkppgaekmpaaPtReplayTurns5
/-
  Drawn regions in which several changes of memory may come in any order: a bag of operations, each of which only makes new memory. Over any program.
-/
set_option linter.unusedVariables false
set_option linter.unusedSimpArgs false
namespace Go.Proofs.Ytadbkppgaekmpaa
open Go.RowKit

/-- whichever order: all of J come up first, then the order r -/
def bagB (ops : Array Oper) (r : List (Nat × Bool)) : Nat → List Nat → Array Bool → Bool
  | 0, J, listed => J.isEmpty && ordB ops r listed
  | k + 1, J, listed => (Region.ready .any ops listed).all (fun i => J.contains i) && !(Region.ready .any ops listed).isEmpty &&
      (Region.ready .any ops listed).all fun i => bagB ops r k (J.erase i) (listed.setIfInBounds i true)
def ordBagB (ops : Array Oper) (J : List Nat) (r : List (Nat × Bool)) : List (Nat × Bool) → Array Bool → Bool
  | [], listed => bagB ops r J.length J listed
  | (i, true) :: s, listed => (Region.ready .any ops listed).contains i && Region.free .any ops listed i && ordBagB ops J r s (listed.setIfInBounds i true)
  | (i, false) :: s, listed => decide (Region.ready .any ops listed = [i]) && ordBagB ops J r s (listed.setIfInBounds i true)
def bagOk (l : List Oper) (s : List (Nat × Bool)) (J : List Nat) (r : List (Nat × Bool)) : Bool :=
  Region.noSelect l.toArray && decide (s.length + J.length + r.length = l.length) && ordBagB l.toArray J r s (Array.replicate l.length false)

def Never : Exit → Act → World → Prop := fun _ _ _ => False
def wpBag (P : Program) (ops : List Oper) (S : World → Prop) (K : Act → World → Prop) : Nat → List Nat → Act → World → Prop
  | 0, _, a, w => K a w
  | k + 1, J, a, w => ∀ i ∈ J, ∃ o, ops[i]? = some o ∧ Region.wanted o (yielded ops.toArray a.tmps) = true ∧ o.wp P a w (fun a' w' => S w' ∧ wpBag P ops S K k (J.erase i) a' w') Never

theorem wp_exits {P : Program} {o : Oper} {a : Act} {w : World} {K : Act → World → Prop} {Q Q' : Exit → Act → World → Prop} (hq : ∀ e a w, e ≠ .normal → Q e a w → Q' e a w) (h : o.wp P a w K Q) : o.wp P a w K Q' := by
  unfold Oper.wp at *
  generalize (execOp a.eval o).run P w = r at *
  cases r with
  | ok k w' =>
    cases k <;> simp only [Oper.upon] at h ⊢ <;> first
      | exact h
      | (refine Calls.mono h (fun e w'' he => ?_); cases e <;> first | exact he | exact hq _ _ _ (by simp) he | (obtain ⟨a1, w1, hx⟩ := he; exact ⟨a1, w1, hq _ _ _ (by simp) hx⟩))
  | halt x w' => cases x <;> simp only [Oper.upon] at h ⊢ <;> first | exact h | exact hq _ _ _ (by simp) h

theorem wpBag_sound {P : Program} {ops : List Oper} {S : World → Prop} {Q : Act → World → Prop} (hs : Region.noSelect ops.toArray = true) (r : List (Nat × Bool)) :
    ∀ (k : Nat) (J : List Nat) (listed : Array Bool) (a : Act) (w : World), bagB ops.toArray r k J listed = true → S w → wpBag P ops S (wpHL P ops S Q r) k J a w → wpAnyH P .any ops.toArray (fun e a w => e = .normal ∧ Q a w) S (r.length + k) listed a w
  | 0, J, listed, a, w, hB, hS, h => by
    simp only [bagB, Bool.and_eq_true] at hB
    exact wpHL_sound hs r _ _ _ hB.2 hS h
  | k + 1, J, listed, a, w, hB, hS, h => by
    simp only [bagB, Bool.and_eq_true, List.all_eq_true, Bool.not_eq_true', List.isEmpty_eq_false_iff] at hB
    obtain ⟨⟨hin, hne⟩, hrec⟩ := hB
    refine wpAnyH_all rfl hne ?_
    intro i hi
    obtain ⟨o, ho, hw, hwp⟩ := h i (by simpa using hin i hi)
    unfold wpOp
    have ho' : ops.toArray[i]? = some o := by simpa using ho
    simp only [ho', hw, if_true]
    refine .inl (Oper.wp_mono (fun a' w' h' => ⟨h'.1, wpBag_sound hs r k (J.erase i) _ _ _ (hrec i hi) h'.1 h'.2⟩) (wp_exits (fun e a w _ hf => hf.elim) hwp))

theorem wpHLBag_sound {P : Program} {ops : List Oper} {S : World → Prop} {Q : Act → World → Prop} (hs : Region.noSelect ops.toArray = true) (J : List Nat) (r : List (Nat × Bool)) :
    ∀ (s : List (Nat × Bool)) (listed : Array Bool) (a : Act) (w : World), ordBagB ops.toArray J r s listed = true → S w → wpHL P ops S (fun a w => S w ∧ wpBag P ops S (wpHL P ops S Q r) J.length J a w) s a w → wpAnyH P .any ops.toArray (fun e a w => e = .normal ∧ Q a w) S (r.length + J.length + s.length) listed a w
  | [], listed, a, w, hB, hS, h => wpBag_sound hs r _ _ _ _ _ hB hS h.2
  | (i, true) :: s, listed, a, w, hB, hS, ⟨o, v, ho, hy, h⟩ => by
    simp only [ordBagB, Bool.and_eq_true] at hB
    exact wpAnyH_take (by simpa using ho) hs hB.1.2 hB.1.1 (fun _ _ _ h => by cases h.1) hy hS (wpHLBag_sound hs J r s _ _ _ hB.2 hS h)
  | (i, false) :: s, listed, a, w, hB, hS, ⟨o, ho, h⟩ => by
    simp only [ordBagB, Bool.and_eq_true, decide_eq_true_eq] at hB
    refine wpAnyH_all hB.1 (by simp) ?_
    intro j hj
    have hji : j = i := by simpa using hj
    subst hji
    have ho' : ops.toArray[j]? = some o := by simpa using ho
    unfold wpOp
    simp only [ho']
    split
    · rename_i hw
      rw [if_pos hw] at h
      exact .inl (Oper.wp_mono (fun a' w' h' => ⟨h'.1, wpHLBag_sound hs J r s _ _ _ hB.2 h'.1 h'.2⟩) (wp_exits (fun e a w hne hf => absurd hf.1 hne) h))
    · rename_i hw
      rw [if_neg hw] at h
      exact ⟨h.1, wpHLBag_sound hs J r s _ _ _ hB.2 h.1 h.2⟩

/-- one of the bag: its number, its slot, and what is so of its value from then on -/
structure BE where
  i : Nat
  d : Nat
  /-- of the value, the new blocks that came with it, and the world -/
  Φ : Value → (Nat → Prop) → World → Prop
/-- where the bag begins -/
def BagQ (P : Program) (ops : List Oper) (S : World → Prop) (Q : Exit → Act → World → Prop) (J : List Nat) (r : List (Nat × Bool)) : Exit → Act → World → Prop :=
  fun e a w => e = .normal ∧ (S w ∧ wpBag P ops S (wpHL P ops S (fun a w => Q .normal a w) r) J.length J a w)
/-- behind one of the bag -/
def AfterB (S : World → Prop) (w : World) (e : BE) : Exit → Act → World → Prop :=
  fun x a w' => x = .normal ∧ a.defers = [] ∧ S w' ∧ Ext w w' ∧ ∃ N, e.Φ (a.tmps.getD e.d undef) N w' ∧ ∀ b, N b → w.heap.size ≤ b ∧ b < w'.heap.size
/-- what one of the bag does, wherever it comes -/
def BC (P : Program) (L : List Oper) (S : World → Prop) (n : Nat) (σ : Sg) (e : BE) : Prop :=
  (∃ o, nthO L e.i = some o ∧ o.dst = some e.d ∧ gd L σ o = some true ∧ ∀ w, S w → WL P L (AfterB S w e) [o] n σ w) ∧ Nat.ble (e.d + 1) n = true ∧ fnd σ e.d = none ∧ ∀ v N w w', e.Φ v N w → Ext w w' → e.Φ v N w'
theorem EX.bagE {S : World → Prop} {w w' : World} {e : BE} {n : Nat} {σ : Sg} {v : Value} (N : Nat → Prop) (hv : fnd σ e.d = some v) (hS : S w') (hE : Ext w w') (hΦ : e.Φ v N w') (hN : ∀ b, N b → w.heap.size ≤ b ∧ b < w'.heap.size) : EX (AfterB S w e) .normal n σ w' := by
  unfold EX
  intro a ha
  exact ⟨rfl, ha.defers, hS, hE, by rw [ha.slot _ _ hv]; exact ⟨N, hΦ, hN⟩⟩
theorem bc_wp {P : Program} {L : List Oper} {S : World → Prop} {n : Nat} {σ : Sg} {e : BE} (h : BC P L S n σ e) {a : Act} {w : World} (ha : Fr n σ a) (hS : S w) :
    ∃ o, L[e.i]? = some o ∧ Region.wanted o (yielded L.toArray a.tmps) = true ∧ o.wp P a w (fun a' w' => S w' ∧ Ext w w' ∧ ∃ v N, a' = a.put (some e.d) v ∧ e.Φ v N w' ∧ ∀ b, N b → w.heap.size ≤ b ∧ b < w'.heap.size) Never := by
  obtain ⟨⟨o, ho, hd, hg, hw⟩, hn, hf, _⟩ := h
  rw [nthO_eq] at ho
  have hwa := gd_wanted ha hg
  refine ⟨o, ho, hwa, ?_⟩
  have h1 := hw w hS
  unfold WL at h1
  have h2 := h1 a ha
  simp only [wpList, hwa, if_true] at h2
  have hlt : e.d < n := Nat.le_of_ble_eq_true hn
  have hget : ∀ v, (a.put (some e.d) v).tmps.getD e.d undef = v := by
    intro v
    simp [Act.put, Array.getD, ha.size, hlt]
  rcases h2 with h2 | ⟨_, hl⟩
  · unfold Oper.wp at *
    obtain ⟨dst, op, ty, pos, af, g⟩ := o
    simp only at hd
    subst hd
    generalize (execOp a.eval _).run P w = r at *
    cases r with
    | ok k w' =>
      cases k <;> simp only [Oper.upon] at h2 ⊢ <;> first
        | exact ⟨h2.2.2.1, h2.2.2.2.1, by have := h2.2.2.2.2; rw [hget] at this; obtain ⟨N, h3, h4⟩ := this; exact ⟨_, N, rfl, h3, h4⟩⟩
        | (exfalso; have := h2.2.1; simp [Act.put] at this; done)
        | (refine Calls.mono h2 (fun x w'' he => ?_)
           cases x
           · exact ⟨he.2.2.1, he.2.2.2.1, by have := he.2.2.2.2; rw [hget] at this; obtain ⟨N, h3, h4⟩ := this; exact ⟨_, N, rfl, h3, h4⟩⟩
           · exact absurd he.1 (by simp)
           · obtain ⟨_, _, hx⟩ := he; exact absurd hx.1 (by simp))
        | exact Rows.mono h2 (fun v w'' he => ⟨he.2.2.1, he.2.2.2.1, by have := he.2.2.2.2; rw [hget] at this; obtain ⟨N, h3, h4⟩ := this; exact ⟨_, N, rfl, h3, h4⟩⟩)
        | exact h2
    | halt x w' => cases x <;> simp only [Oper.upon] at h2 ⊢ <;> first | exact h2 | exact absurd h2.1 (by simp)
  · obtain ⟨_, _, hx⟩ := hl
    exact absurd hx.1 (by simp)

/-- behind the bag: each slot holds a value of which its fact is so; what came with one did not come with another -/
def BagK (w' : World) (G : Sg → Prop) : List (Nat → Prop) → List BE → Sg → Prop
  | _, [], σ => G σ
  | D, e :: r, σ => ∀ v N, e.Φ v N w' → (∀ p ∈ D, ∀ b, p b → N b → False) → BagK w' G (N :: D) r ((e.d, v) :: σ)
theorem BagK.get {w' : World} {G : Sg → Prop} {n : Nat} {a : Act} (NN : Nat → Nat → Prop) : ∀ (E : List BE) {D : List (Nat → Prop)} {σ : Sg}, BagK w' G D E σ → Fr n σ a → (∀ e ∈ E, e.d < n ∧ e.Φ (a.tmps.getD e.d undef) (NN e.i) w') →
    (∀ e ∈ E, ∀ p ∈ D, ∀ b, p b → NN e.i b → False) → (E.map (·.i)).Nodup → (∀ e ∈ E, ∀ f ∈ E, e.i ≠ f.i → ∀ b, NN e.i b → NN f.i b → False) → ∃ τ, Fr n τ a ∧ G τ
  | [], D, σ, h, ha, _, _, _, _ => ⟨σ, ha, h⟩
  | e :: r, D, σ, h, ha, hE, hD, hnd, hP => by
    have he := hE e (by simp)
    rw [List.map_cons, List.nodup_cons] at hnd
    refine BagK.get NN r (h _ _ he.2 (hD e (by simp))) ?_ (fun x hx => hE x (by simp [hx])) ?_ hnd.2 (fun x hx y hy => hP x (by simp [hx]) y (by simp [hy]))
    rotate_left
    · intro x hx p hp b hb hx'
      rcases List.mem_cons.1 hp with rfl | hp
      · exact hP e (by simp) x (by simp [hx]) (fun hi => hnd.1 (by rw [hi]; exact List.mem_map_of_mem hx)) b hb hx'
      · exact hD x (by simp [hx]) p hp b hb hx'
    refine ⟨ha.size, ha.defers, fun t u hu => ?_⟩
    by_cases ht : e.d = t
    · subst ht; rw [fnd_cons_eq] at hu; cases hu; rfl
    · rw [fnd_cons_ne ht] at hu; exact ha.slot _ _ hu
def distB : List Nat → Bool
  | [] => true
  | x :: r => !r.contains x && distB r
theorem distB_nodup : ∀ {l : List Nat}, distB l = true → l.Nodup
  | [], _ => List.nodup_nil
  | x :: r, h => by
    simp only [distB, Bool.and_eq_true, Bool.not_eq_true'] at h
    rw [List.nodup_cons]
    exact ⟨by simpa using h.1, distB_nodup h.2⟩

def updN (NN : Nat → Nat → Prop) (i : Nat) (N : Nat → Prop) : Nat → Nat → Prop := fun j => if j = i then N else NN j
theorem updN_eq {NN : Nat → Nat → Prop} {i : Nat} {N : Nat → Prop} : updN NN i N i = N := if_pos rfl
theorem updN_ne {NN : Nat → Nat → Prop} {i : Nat} {N : Nat → Prop} {j : Nat} (h : j ≠ i) : updN NN i N j = NN j := if_neg h
theorem nodup_inj {β γ : Type} {f : β → γ} : ∀ {l : List β}, (l.map f).Nodup → ∀ x ∈ l, ∀ y ∈ l, f x = f y → x = y
  | [], _, x, hx, _, _, _ => by simp at hx
  | z :: r, h, x, hx, y, hy, e => by
    rw [List.map_cons, List.nodup_cons] at h
    rcases List.mem_cons.1 hx with h1 | h1
    · rcases List.mem_cons.1 hy with h2 | h2
      · rw [h1, h2]
      · exact absurd (show f z ∈ r.map f by rw [← h1, e]; exact List.mem_map_of_mem h2) h.1
    · rcases List.mem_cons.1 hy with h2 | h2
      · exact absurd (show f z ∈ r.map f by rw [← h2, ← e]; exact List.mem_map_of_mem h1) h.1
      · exact nodup_inj h.2 x h1 y h2 e
theorem wpBag_of {P : Program} {L : List Oper} {S : World → Prop} {n : Nat} {σ : Sg} {E : List BE} (hC : ∀ e ∈ E, BC P L S n σ e) (hd : (E.map (·.d)).Nodup) (hi : (E.map (·.i)).Nodup) {w0 : World} {K : Act → World → Prop}
    (hK : ∀ a w (NN : Nat → Nat → Prop), Fr n σ a → S w → Ext w0 w → (∀ e ∈ E, e.Φ (a.tmps.getD e.d undef) (NN e.i) w) → (∀ e ∈ E, ∀ f ∈ E, e.i ≠ f.i → ∀ b, NN e.i b → NN f.i b → False) → K a w) :
    ∀ (k : Nat) (J : List Nat) (a : Act) (w : World) (NN : Nat → Nat → Prop), J.length = k → J.Nodup → (∀ i ∈ J, i ∈ E.map (·.i)) → Fr n σ a → S w → Ext w0 w → (∀ e ∈ E, e.i ∉ J → e.Φ (a.tmps.getD e.d undef) (NN e.i) w ∧ ∀ b, NN e.i b → b < w.heap.size) →
      (∀ e ∈ E, ∀ f ∈ E, e.i ∉ J → f.i ∉ J → e.i ≠ f.i → ∀ b, NN e.i b → NN f.i b → False) → wpBag P L S K k J a w
  | 0, J, a, w, NN, hl, _, _, ha, hS, hE, hD, hP => hK a w NN ha hS hE (fun e he => (hD e he (by rw [List.eq_nil_of_length_eq_zero hl]; simp)).1) (fun e he f hf => hP e he f hf (by rw [List.eq_nil_of_length_eq_zero hl]; simp) (by rw [List.eq_nil_of_length_eq_zero hl]; simp))
  | k + 1, J, a, w, NN, hl, hnd, hsub, ha, hS, hE, hD, hP => by
    intro i hiJ
    obtain ⟨e, he, rfl⟩ := List.mem_map.1 (hsub i hiJ)
    obtain ⟨o, ho, hw, hwp⟩ := bc_wp (hC e he) ha hS
    refine ⟨o, ho, hw, Oper.wp_mono (fun a' w' h' => ?_) hwp⟩
    obtain ⟨hS', hE', v, N, rfl, hΦ, hN⟩ := h'
    have hn : e.d < n := Nat.le_of_ble_eq_true (hC e he).2.1
    have hf := (hC e he).2.2.1
    have hget : (a.put (some e.d) v).tmps.getD e.d undef = v := by simp [Act.put, Array.getD, ha.size, hn]
    have hoth : ∀ t, t ≠ e.d → (a.put (some e.d) v).tmps.getD t undef = a.tmps.getD t undef := by
      intro t ht
      simp only [Act.put, Array.getD_eq_getD_getElem?]
      rw [Array.getElem?_setIfInBounds_ne (Ne.symm ht)]
    have nne : updN NN e.i N e.i = N := updN_eq
    have nno : ∀ j, j ≠ e.i → updN NN e.i N j = NN j := fun j hj => updN_ne hj
    refine ⟨hS', wpBag_of hC hd hi hK k (J.erase e.i) _ _ (updN NN e.i N) (by rw [List.length_erase_of_mem hiJ, hl]; rfl) (hnd.erase _) (fun j hj => hsub j (List.mem_of_mem_erase hj)) ?_ hS' (hE.trans hE') ?_ ?_⟩
    · refine ⟨by simpa [Act.put] using ha.size, by simpa [Act.put] using ha.defers, fun t u hu => ?_⟩
      have : t ≠ e.d := fun h => by rw [h, hf] at hu; cases hu
      rw [hoth t this]; exact ha.slot t u hu
    · intro x hx hxJ
      by_cases hxe : x.d = e.d
      · have hxe' : x = e := nodup_inj hd x hx e he hxe
        subst hxe'
        rw [hget, nne]; exact ⟨hΦ, fun b hb => (hN b hb).2⟩
      · rw [hoth _ hxe]
        have hne : x.i ≠ e.i := fun hh => hxe (by rw [nodup_inj hi x hx e he hh])
        have h0 := hD x hx (fun hxJ' => hxJ ((List.mem_erase_of_ne hne).2 hxJ'))
        rw [nno _ hne]
        exact ⟨(hC x hx).2.2.2 _ _ _ _ h0.1 hE', fun b hb => Nat.lt_of_lt_of_le (h0.2 b hb) hE'.size⟩
    · intro x hx y hy hxJ hyJ hxy b hbx hby
      by_cases hxe : x.i = e.i
      · rw [hxe, nne] at hbx
        have hye : y.i ≠ e.i := fun h => hxy (by rw [hxe, h])
        rw [nno _ hye] at hby
        have h1 := (hD y hy (fun h => hyJ ((List.mem_erase_of_ne hye).2 h))).2 b hby
        have h2 := (hN b hbx).1
        omega
      · rw [nno _ hxe] at hbx
        have hxJ' : x.i ∉ J := fun h => hxJ ((List.mem_erase_of_ne hxe).2 h)
        by_cases hye : y.i = e.i
        · rw [hye, nne] at hby
          have h1 := (hD x hx hxJ').2 b hbx
          have h2 := (hN b hby).1
          omega
        · rw [nno _ hye] at hby
          exact hP x hx y hy hxJ' (fun h => hyJ ((List.mem_erase_of_ne hye).2 h)) hxy b hbx hby

section
variable {P : Program} {Q : Exit → Act → World → Prop} {n : Nat} {σ : Sg} {w : World} {L : List Oper} {S : World → Prop}
theorem CW.drawB {id : Nat} (S : World → Prop) (s : List (Nat × Bool)) (J : List Nat) (r : List (Nat × Bool)) (hm : P.follows .mixedOrders = true) (hB : bagOk L s J r = true) (hS : S (drew w)) (h : HL P L S (BagQ P L S Q J r) s n σ (drew w)) : CW P (.region id L.toArray true) Q n σ w := by
  unfold CW; unfold HL at h; intro a ha
  simp only [bagOk, Bool.and_eq_true, decide_eq_true_eq] at hB
  obtain ⟨⟨hs, hl⟩, hB⟩ := hB
  have h0 := h a ha
  have h0' : wpHL P L S (fun a w => S w ∧ wpBag P L S (wpHL P L S (fun a w => Q .normal a w) r) J.length J a w) s a (Go.Proofs.Ytadbkppgaekmpaa.drew w) := by
    have : (fun a w => BagQ P L S Q J r .normal a w) = (fun a w => S w ∧ wpBag P L S (wpHL P L S (fun a w => Q .normal a w) r) J.length J a w) := by funext a w; simp [BagQ]
    rw [← this]; exact h0
  have h1 := wpHLBag_sound hs J r s (Array.replicate L.length false) a (Go.Proofs.Ytadbkppgaekmpaa.drew w) hB hS h0'
  rw [show r.length + J.length + s.length = L.length by omega] at h1
  have h2 := wp_region_held (id := id) (S := S) hm (w := w) (ops := L.toArray) (by simpa using h1)
  exact wp_mono h2 (fun e a' w' ⟨he, hq⟩ => by subst he; exact hq)
/-- the bag -/
theorem EX.bag {J : List Nat} {r : List (Nat × Bool)} (E : List BE) (hJ : E.map (·.i) = J) (hdi : distB (E.map (·.i)) = true) (hdd : distB (E.map (·.d)) = true) (hS : S w) (hC : ∀ e ∈ E, BC P L S n σ e)
    (hK : ∀ w', S w' → Ext w w' → BagK w' (fun τ => HL P L S Q r n τ w') [] E σ) : EX (BagQ P L S Q J r) .normal n σ w := by
  unfold EX
  intro a ha
  subst hJ
  refine ⟨rfl, hS, ?_⟩
  refine wpBag_of hC (distB_nodup hdd) (distB_nodup hdi) (w0 := w) (fun a w' NN ha hS' hE hΦ hP => ?_) _ _ a w (fun _ _ => False) rfl (distB_nodup hdi) (fun i hi => hi) ha hS (Ext.refl _) (fun e he hn => absurd (List.mem_map_of_mem he) hn) (fun e he f hf hn => absurd (List.mem_map_of_mem he) hn)
  obtain ⟨τ, hτ, hG⟩ := BagK.get NN E (hK w' hS' hE) ha (fun e he => ⟨Nat.le_of_ble_eq_true (hC e he).2.1, hΦ e he⟩) (fun _ _ p hp => by simp at hp) (distB_nodup hdi) hP
  unfold HL at hG
  exact hG a hτ
end
end Go.Proofs.Ytadbkppgaekmpaa
/-
  Drawn regions whose last operation is alone and may change what the others read: S need not hold behind it. Over any program.
-/
set_option linter.unusedVariables false
set_option linter.unusedSimpArgs false
namespace Go.Proofs.Ytadbkppgaekmpaa
open Go.RowKit

/-- whatever order is picked; behind each operation but number e the condition S holds -/
def wpAnyE (P : Program) (ops : Array Oper) (Q : Exit → Act → World → Prop) (S : World → Prop) (e : Nat) : Nat → Array Bool → Act → World → Prop
  | 0, listed, a, w => Region.ready .any ops listed = [] ∧ Q .normal a w
  | k + 1, listed, a, w => (Region.ready .any ops listed = [] → Q .normal a w) ∧ ∀ i ∈ Region.ready .any ops listed, wpOp P ops Q i (fun a' w' => (i ≠ e → S w') ∧ wpAnyE P ops Q S e k (listed.setIfInBounds i true) a' w') a w
theorem wpAny_of_E {P : Program} {ops : Array Oper} {Q : Exit → Act → World → Prop} {S : World → Prop} {e : Nat} : ∀ (k : Nat) (listed : Array Bool) (a : Act) (w : World), wpAnyE P ops Q S e k listed a w → wpAny P .any ops Q k listed a w
  | 0, _, _, _, h => h
  | k + 1, _, _, _, h => ⟨h.1, fun i hi => wpOp_mono (fun a' w' h' => wpAny_of_E k _ a' w' h'.2) (h.2 i hi)⟩
/-- does number e wait for number i? -/
def waitsB (ops : Array Oper) (e i : Nat) : Bool := match ops[e]? with
  | some o => o.after.toList.any fun ed => Region.binds .any ed && (ed.on == i)
  | none => false
theorem waits_not {ops : Array Oper} {e i : Nat} {listed : Array Bool} (hw : waitsB ops e i = true) (hi : listed.getD i false = false) : e ∉ Region.ready .any ops listed := by
  intro he
  obtain ⟨_, o, ho, hall⟩ := mem_ready.1 he
  unfold waitsB at hw
  rw [ho] at hw
  obtain ⟨ed, h1, h2⟩ := List.any_eq_true.1 hw
  simp only [Bool.and_eq_true, beq_iff_eq] at h2
  have := hall ed (by simpa using h1) h2.1
  rw [h2.2, hi] at this
  cases this
theorem ready_open {ops : Array Oper} {i : Nat} {listed : Array Bool} (h : i ∈ Region.ready .any ops listed) : listed.getD i false = false := by
  have h0 := (mem_ready.1 h).1
  rcases Nat.lt_or_ge i listed.size with h' | h'
  · simp [h'] at h0 ⊢; exact h0
  · simp [h']
theorem wpAnyE_take {P : Program} {ops : Array Oper} {Q : Exit → Act → World → Prop} {S : World → Prop} {e i : Nat} {oi : Oper} {v : Value} (hoi : ops[i]? = some oi) (hs : Region.noSelect ops = true) (hne : i ≠ e) (hwt : waitsB ops e i = true) (hQ : ∀ c a w, Q (.panic c) (a.put oi.dst v) w → Q (.panic c) a w) :
    ∀ (k : Nat) (listed : Array Bool) (a : Act) (w : World), (∀ j oj, ops[j]? = some oj → j ≠ i → listed.getD j true = false → (∀ ed ∈ oj.after, Region.binds .any ed = true → ed.on ≠ i) → oi.apart ops oj = true) →
      i ∈ Region.ready .any ops listed → YieldsIf P ops S oi v a → S w → wpAnyE P ops Q S e k (listed.setIfInBounds i true) (a.put oi.dst v) w → wpAnyE P ops Q S e (k + 1) listed a w := by
  have hsel := Region.noSelect_spec hs
  intro k
  induction k with
  | zero =>
    intro listed a w _ hr hy hS H
    refine ⟨fun h => (by rw [h] at hr; cases hr), fun j hj => ?_⟩
    by_cases hji : j = i
    · subst hji; exact hy.wpOp hoi hS ⟨fun _ => hS, H⟩
    · have := ready_mono hj hji
      rw [H.1] at this
      cases this
  | succ k ih =>
    intro listed a w hfree hr hy hS H
    refine ⟨fun h => (by rw [h] at hr; cases hr), fun j hj => ?_⟩
    by_cases hji : j = i
    · subst hji; exact hy.wpOp hoi hS ⟨fun _ => hS, H⟩
    · have hje : j ≠ e := fun h => waits_not hwt (ready_open hr) (h ▸ hj)
      obtain ⟨hopen, oj, hoj, hall⟩ := mem_ready.1 hj
      have hno : ∀ ed ∈ oj.after, Region.binds .any ed = true → ed.on ≠ i := fun ed h1 h2 h3 => by
        have h4 := hall ed h1 h2
        rw [h3, ready_open hr] at h4
        cases h4
      have hput := wpOp_putIf hoj (hfree j oj hoj hji hopen hno) (fun cs b => hsel i oi cs b hoi) (fun cs b => hsel j oj cs b hoj) hQ hy (H.2 j (ready_mono hj hji))
      refine wpOp_mono (fun a' w' h3 => ⟨fun _ => h3.2.1 hje, ih (listed.setIfInBounds j true) a' w' (fun m om hm hmi hun hn => hfree m om hm hmi ?_ hn) (ready_mono hr (Ne.symm hji)) h3.1 (h3.2.1 hje) ?_⟩) hput
      · by_cases hjm : j = m
        · subst hjm; exact hopen
        · rw [getD_set_ne true hjm] at hun; exact hun
      · rw [Array.setIfInBounds_comm _ _ hji]
        exact h3.2.2

/-- the order: s, and then e alone -/
def ordE (ops : Array Oper) (e : Nat) : List (Nat × Bool) → Array Bool → Bool
  | [], listed => decide (Region.ready .any ops listed = [e]) && (Region.ready .any ops (listed.setIfInBounds e true)).isEmpty
  | (i, true) :: s, listed => (Region.ready .any ops listed).contains i && Region.free .any ops listed i && !(i == e) && waitsB ops e i && ordE ops e s (listed.setIfInBounds i true)
  | (i, false) :: s, listed => decide (Region.ready .any ops listed = [i]) && ordE ops e s (listed.setIfInBounds i true)
def ordEOk (l : List Oper) (s : List (Nat × Bool)) (e : Nat) : Bool := Region.noSelect l.toArray && decide (s.length + 1 = l.length) && ordE l.toArray e s (Array.replicate l.length false)
/-- number e, alone and last -/
def TailQ (P : Program) (ops : List Oper) (Q : Exit → Act → World → Prop) (e : Nat) : Exit → Act → World → Prop :=
  fun x a w => x = .normal ∧ ∃ o, ops[e]? = some o ∧ wpList P ops.toArray (fun x a w => x = .normal ∧ Q .normal a w) [o] a w
theorem wpHLe_sound {P : Program} {ops : List Oper} {S : World → Prop} {Q : Exit → Act → World → Prop} {e : Nat} (hs : Region.noSelect ops.toArray = true) :
    ∀ (s : List (Nat × Bool)) (listed : Array Bool) (a : Act) (w : World), ordE ops.toArray e s listed = true → S w → wpHL P ops S (fun a w => TailQ P ops Q e .normal a w) s a w → wpAnyE P ops.toArray (fun x a w => x = .normal ∧ Q .normal a w) S e (s.length + 1) listed a w
  | [], listed, a, w, hB, hS, h => by
    simp only [ordE, Bool.and_eq_true, decide_eq_true_eq, List.isEmpty_iff] at hB
    obtain ⟨_, o, ho, hl⟩ := h
    refine ⟨fun h0 => (by rw [hB.1] at h0; cases h0), fun i hi => ?_⟩
    rw [hB.1, List.mem_singleton] at hi
    subst hi
    have ho' : ops.toArray[i]? = some o := by simpa using ho
    unfold wpOp
    simp only [ho']
    simp only [wpList] at hl
    split
    · rename_i hw
      rw [if_pos hw] at hl
      exact hl.imp (Oper.wp_mono fun a' w' h' => ⟨fun h => absurd rfl h, hB.2, rfl, h'.2⟩) id
    · rename_i hw
      rw [if_neg hw] at hl
      exact ⟨fun h => absurd rfl h, hB.2, rfl, hl.2⟩
  | (i, true) :: s, listed, a, w, hB, hS, ⟨o, v, ho, hy, h⟩ => by
    simp only [ordE, Bool.and_eq_true, Bool.not_eq_true', beq_eq_false_iff_ne] at hB
    obtain ⟨⟨⟨⟨h1, h2⟩, h3⟩, h4⟩, h5⟩ := hB
    have ho' : ops.toArray[i]? = some o := by simpa using ho
    exact wpAnyE_take ho' hs h3 h4 (fun _ _ _ h => by cases h.1) _ _ _ _ (Region.free_spec ho' h2) (by simpa using h1) hy hS (wpHLe_sound hs s _ _ _ h5 hS h)
  | (i, false) :: s, listed, a, w, hB, hS, ⟨o, ho, h⟩ => by
    simp only [ordE, Bool.and_eq_true, decide_eq_true_eq] at hB
    refine ⟨fun h0 => (by rw [hB.1] at h0; cases h0), fun j hj => ?_⟩
    rw [hB.1, List.mem_singleton] at hj
    subst hj
    have ho' : ops.toArray[j]? = some o := by simpa using ho
    unfold wpOp
    simp only [ho']
    split
    · rename_i hw
      rw [if_pos hw] at h
      exact .inl (Oper.wp_mono (fun a' w' h' => ⟨fun _ => h'.1, wpHLe_sound hs s _ _ _ hB.2 h'.1 h'.2⟩) (wp_exits (fun x a w hne hf => absurd hf.1 hne) h))
    · rename_i hw
      rw [if_neg hw] at h
      exact ⟨fun _ => h.1, wpHLe_sound hs s _ _ _ hB.2 h.1 h.2⟩
section
variable {P : Program} {Q : Exit → Act → World → Prop} {n : Nat} {σ : Sg} {w : World} {L : List Oper} {S : World → Prop}
theorem CW.drawE {id : Nat} (S : World → Prop) (s : List (Nat × Bool)) (e : Nat) (hm : P.follows .mixedOrders = true) (hB : ordEOk L s e = true) (hS : S (drew w)) (h : HL P L S (TailQ P L Q e) s n σ (drew w)) : CW P (.region id L.toArray true) Q n σ w := by
  unfold CW; unfold HL at h; intro a ha
  simp only [ordEOk, Bool.and_eq_true, decide_eq_true_eq] at hB
  obtain ⟨⟨hs, hl⟩, hB⟩ := hB
  have h1 := wpHLe_sound (Q := Q) hs s (Array.replicate L.length false) a (Go.Proofs.Ytadbkppgaekmpaa.drew w) hB hS (h a ha)
  rw [hl] at h1
  have h2 : (Code.region id L.toArray true).wp P (fun x a w => x = .normal ∧ Q .normal a w) a w := wp_region_any hm (by simpa using wpAny_of_E _ _ _ _ h1)
  exact wp_mono h2 (fun e a' w' ⟨he, hq⟩ => by subst he; exact hq)
/-- the last operation, by the rule for its like -/
theorem EX.tail {e : Nat} {o : Oper} (ho : nthO L e = some o) (h : WL P L (fun x a w => x = .normal ∧ Q .normal a w) [o] n σ w) : EX (TailQ P L Q e) .normal n σ w := by
  unfold EX; unfold WL at h
  intro a ha
  rw [nthO_eq] at ho
  exact ⟨rfl, o, ho, h a ha⟩
theorem EX.tailE (h : EX Q .normal n σ w) : EX (fun x a w => x = .normal ∧ Q .normal a w) .normal n σ w := by
  unfold EX at *; exact fun a ha => ⟨rfl, h a ha⟩
end
section
variable {P : Program} {Q : Exit → Act → World → Prop} {n : Nat} {σ : Sg} {wc : World} {L : List Oper} {S : World → Prop} {i j d : Nat} {ty : TypeId} {pos : String} {af : Array Edge} {g : Option (Nat × Bool)} {ty' : TypeId} {pos' : String} {af' : Array Edge} {g' : Option (Nat × Bool)} {t e : TypeId} {x ix y : Operand}
variable {α : Type} [Rep α] {F : Nat → Prop}
/-- x[k] = y, of a slice that the call owns, as the region's last two operations -/
theorem HL.setTail {v u : Value} {B : Nat} {xs : List α} {yv : α} {k : Nat} {kd : IntKind}
    (ho1 : nthO L i = some ⟨some d, .indexAddr t x ix, ty, pos, af, g⟩) (ho2 : nthO L j = some ⟨none, .store e (.tmp d) y, ty', pos', af', g'⟩)
    (hg : gd L σ ⟨some d, .indexAddr t x ix, ty, pos, af, g⟩ = some true) (hd : Nat.ble (d + 1) n = true)
    (hx : ev σ x = some v) (hi : ev σ ix = some (.int kd (k : Int))) [hs : IsS P t e] [ht : IsT P e α] (hown : Own wc B e F v xs) (h1 : k < xs.length)
    (hg' : ∀ p, gd L ((d, .pointer p) :: σ) ⟨none, .store e (.tmp d) y, ty', pos', af', g'⟩ = some true) (hy : ∀ p, ev ((d, .pointer p) :: σ) y = some u) (hu : Rd wc F u yv)
    (h : ∀ w' p, Own w' B e F v (xs.set k yv) → wc.grownBy w' v.ownBlock → EX Q .normal n ((d, .pointer p) :: σ) w') :
    HL P L S (TailQ P L Q j) [(i, true)] n σ wc := by
  rcases hown with ⟨rfl, rfl⟩ | ⟨b, off, cap, cur, rfl, ho⟩
  · simp at h1
  · refine HL.idx (α := α) ho1 hg hd hx hi (by omega) (by omega) ?_
    obtain ⟨w', hr, ho', hgr⟩ := run_set (P := P) (v := u) (i := k) ho h1 hu
    refine HL.nil (EX.tail ho2 ?_)
    refine WL.runU (hg' _) (fun a ha => ?_) (WL.nil (EX.tailE (h w' _ ho' hgr)))
    have e1 := ha.ev (x := .tmp d) fnd_cons_eq
    have e2 := ha.ev (hy _)
    simp only [Int.toNat_natCast] at e1
    simp [execOp, e1, e2, Instr.storeAt, Instr.sureAddr, hr]
end
section
variable {P : Program} {Q : Exit → Act → World → Prop} {n : Nat} {σ : Sg} {w wc : World} {L : List Oper} {S : World → Prop} {ord : List (Nat × Bool)} {i d : Nat} {ty : TypeId} {pos : String} {af : Array Edge} {g : Option (Nat × Bool)} {t e : TypeId} {x : Operand} {b o : Nat} {cells : List Value}
/-- a field of a struct that nobody changes meanwhile -/
theorem HL.ldK {v : Value} (hK : ∀ w1, S w1 → w1.heap[b]? = w.heap[b]?) (ho : nthO L i = some ⟨some d, .load t x, ty, pos, af, g⟩) (hg : gd L σ ⟨some d, .load t x, ty, pos, af, g⟩ = some true) (hd : Nat.ble (d + 1) n = true) (hx : ev σ x = some (.pointer (some ⟨b, o, none⟩))) [hc : IsC P t 1 false] (hb : Blk w b e cells) (hv : nthV cells o = some v)
    (h : HL P L S Q ord n ((d, v) :: σ) wc) : HL P L S Q ((i, true) :: ord) n σ wc := by
  refine HL.run ho hg hd (fun a ha w' hsw => ?_) h
  have hb' : Blk w' b e cells := (hK w' hsw).trans hb
  simp [execOp, ha.ev hx, run_ld (P := P) (t := t) w' hb' hv]
end
end Go.Proofs.Ytadbkppgaekmpaa
/-
  Package proc: nodes, Check, Ins, Outs: walked.
-/
set_option linter.unusedVariables false
set_option linter.unusedSimpArgs false
namespace Go.Proofs.Ytadbkppgaekmpaa
open Go.RowKit

theorem nodes1 (w : World) (m : LNode) (b : Nat) {x : LNode} (hb : Blk w b 59 [.string x.1, .int .i64 x.2]) :
    Rt Try.prog 187 [.agg [.string m.1, .int .i64 m.2].toArray, .pointer (some ⟨b, 0, none⟩)].toArray w fun v w' => v = .bool (nameEq m.1 x.1) ∧ Ext w w' := by
  refine Rt.enter2 Try.func187 Try.ntmps187 rfl rfl ?_
  (repeat (first | (apply CW.seq) | (apply CW.region)))
  refine WL.boxB rfl rfl rfl fun w1 hb1 e1 => ?_
  have hb := hb.ext e1
  (repeat (first | (apply WL.pure; rfl; rfl; rfl) | (apply WL.nil) | (apply EX.thenN) | (apply CW.seq) | (apply CW.region) | (apply WL.fa; rfl; rfl; rfl) | (apply WL.ld; rfl; rfl; rfl; assumption; rfl) | (apply CW.ret)))
  exact EX.ret1 rfl rfl ⟨rfl, e1⟩
theorem nodes_ok (w0 : World) {so fo : Option Addr} {sc fc k : Nat} {ns : List LNode} (hs : Sl w0 (Old w0) so sc ns) :
    Rt Try.prog 145 [procV so sc fo fc ns.length k].toArray w0 fun v w' => v = .int .i64 (nodesE ns) ∧ Ext w0 w' := by
  have hm := hs.len63
  have hle := hs.le
  refine Rt.enter1 Try.func145 Try.ntmps145 rfl rfl ?_
  (repeat (first | (apply CW.seq) | (apply CW.region)))
  refine WL.boxB rfl rfl rfl fun w1 hb1 e1 => ?_
  have hl1 := hb1.lt
  (repeat (first | (apply WL.pure; rfl; rfl; rfl) | (apply WL.nil) | (apply EX.thenN) | (apply CW.seq) | (apply CW.region) | (apply WL.lenS; rfl; rfl; rfl) | (apply WL.fa; rfl; rfl; rfl) | (apply WL.ld; rfl; rfl; rfl; assumption; rfl) | (apply CW.block)))
  refine CW.loop (S := Nat) (fun i => [(1, .pointer (some ⟨w0.heap.size, 0, none⟩)), (6, .slice so ns.length sc), (7, .int .i64 ns.length), (8, .int .i64 i)])
    (fun i w => i ≤ ns.length ∧ Ext w1 w ∧ ∀ j, j < i → nodeE ns j = 0) (fun i => ns.length - i) 0 (by repeat (first | exact trivial | refine ⟨rfl, ?_⟩)) ⟨by omega, Ext.refl _, by omega⟩ ?_
  rintro i w ⟨hi, e, hno⟩
  have hE := e1.trans e
  have hb1 := hb1.ext e
  (repeat (first | (apply WL.pure; rfl; rfl; rfl) | (apply WL.nil) | (apply EX.thenN) | (apply CW.seq) | (apply CW.region)))
  refine CW.cond rfl (fun h => ?_) (fun h => ?_)
  · have hi' : i < ns.length := by simp at h; omega
    have hnd := getDNd_at hi'
    (repeat (first | (apply WL.pure; rfl; rfl; rfl) | (apply EX.thenN) | (apply CW.seq) | (apply CW.region) | (apply CW.block) | (apply CW.skip)))
    refine WL.elemN rfl rfl rfl rfl rfl (hs.at hE) hi' (fun _ => rfl) (fun u q hu => ?_)
    obtain rfl := hu.node
    skip
    refine WL.alloc rfl rfl (fun w2 hb4 e2 => ?_)
    have hl4 := hb4.lt
    (repeat (apply WL.pure; rfl; rfl; rfl))
    refine WL.st rfl rfl rfl hb4 rfl rfl (ones_of rfl) (fun w3 hb4 hg3 => ?_)
    have e3 : Ext w w3 := e2.grown hg3 e2.size (fun g hg => by cases hg; exact Nat.le_refl _)
    have hb1 := hb1.ext e3
    have hE := hE.trans e3
    (repeat (first | (apply WL.nil) | (apply EX.thenN) | (apply CW.seq) | (apply CW.region) | (apply WL.fa; rfl; rfl; rfl) | (apply WL.ld; rfl; rfl; rfl; assumption; rfl)))
    refine WL.call rfl rfl rfl (Named_ok w3 ns[i].1) ?_
    rintro _ w4 ⟨rfl, e4⟩
    have hb1 := hb1.ext e4
    have hb4 := hb4.ext e4
    have hE := hE.trans e4
    have e34 := e3.trans e4
    have hbad : (!namedB ns[i].1 || decide (ns[i].2 < 1) || decide (ns[i].2 > 7)) = true → nodesE ns = 1 := fun hb => by
      have : nodeE ns i = 1 := by unfold nodeE; rw [hnd, if_pos hb]
      rw [nodesE_first hi' hno (by rw [this]; decide), this]
    (repeat (apply WL.pure; rfl; rfl; rfl))
    by_cases c1 : namedB ns[i].1 = true
    · rw [c1] at hbad ⊢
      (repeat (first | (apply WL.pure; rfl; rfl; rfl) | (apply WL.fa; rfl; rfl; rfl) | (apply WL.ld; rfl; rfl; rfl; assumption; rfl)))
      by_cases c2 : decide (ns[i].2 < 1) = true
      · rw [c2]
        (repeat (first | (apply WL.pure; rfl; rfl; rfl) | (apply WL.nil) | (apply EX.thenN) | (apply CW.seq) | (apply CW.region) | (apply WL.pass; rfl; rfl) | (apply CW.condT; rfl) | (apply CW.ret) | (apply EX.thenR) | (apply EX.inR)))
        refine EX.ret1 rfl rfl ⟨?_, hE⟩
        rw [hbad (by rw [c2]; rfl)]
      have c2 : decide (ns[i].2 < 1) = false := by simpa using c2
      rw [c2]
      (repeat (first | (apply WL.pure; rfl; rfl; rfl) | (apply WL.nil) | (apply EX.thenN) | (apply WL.fa; rfl; rfl; rfl) | (apply WL.ld; rfl; rfl; rfl; assumption; rfl)))
      by_cases c3 : decide (ns[i].2 > 7) = true
      · rw [c3]
        (repeat (first | (apply WL.pure; rfl; rfl; rfl) | (apply WL.nil) | (apply EX.thenN) | (apply CW.seq) | (apply CW.region) | (apply CW.condT; rfl) | (apply CW.ret) | (apply EX.thenR) | (apply EX.inR)))
        refine EX.ret1 rfl rfl ⟨?_, hE⟩
        rw [hbad (by rw [c2, c3]; rfl)]
      have c3 : decide (ns[i].2 > 7) = false := by simpa using c3
      rw [c3]
      (repeat (first | (apply WL.pure; rfl; rfl; rfl) | (apply EX.thenN) | (apply CW.seq) | (apply CW.region) | (apply WL.fa; rfl; rfl; rfl) | (apply WL.ld; rfl; rfl; rfl; assumption; rfl) | (apply CW.condF; rfl) | (apply CW.skip)))
      refine WL.cutHi (α := LNode) i rfl rfl rfl rfl rfl (by omega) ?_
      (repeat (apply WL.makeFunc; rfl; rfl; rfl; rfl))
      have hcut := (hs.up hE).take (k := i) (by omega)
      have htl : (ns.take i).length = i := by rw [List.length_take]; omega
      have hcf := containsFunc_node w4 (fv := .func (.func 187) [].toArray [.pointer (some ⟨w.heap.size, 0, none⟩)].toArray) (fun m => nameEq m.1 ns[i].1) hcut (fun w5 hw j hj u hu => by
        obtain rfl := hu.node
        exact FnV.mk (cs := [_]) (nodes1 w5 _ _ (hb4.ext hw)))
      rw [htl] at hcf
      refine WL.call rfl rfl rfl hcf ?_
      rintro _ w5 ⟨rfl, e5⟩
      have hb1 := hb1.ext e5
      (repeat (first | (apply WL.nil) | (apply EX.thenN)))
      refine CW.cond rfl (fun h2 => ?_) (fun h2 => ?_)
      · (repeat (first | (apply WL.pure; rfl; rfl; rfl) | (apply WL.nil) | (apply EX.thenN) | (apply CW.seq) | (apply CW.region) | (apply CW.ret) | (apply EX.thenR) | (apply EX.inR)))
        refine EX.ret1 rfl rfl ⟨?_, hE.trans e5⟩
        have : nodeE ns i = 4 := by unfold nodeE; rw [hnd, if_neg (by rw [show namedB ns[i].1 = true from c1, c2, c3]; simp), if_pos h2]
        rw [nodesE_first hi' hno (by rw [this]; decide), this]
      · (repeat (first | (apply WL.add; rfl; rfl; rfl; rfl; omega; omega) | (apply WL.pure; rfl; rfl; rfl) | (apply WL.nil) | (apply EX.thenN) | (apply CW.region) | (apply EX.inN) | (apply CW.skip)))
        refine EX.back (i + 1) (by repeat (first | exact trivial | refine ⟨rfl, ?_⟩)) ⟨hi', (e.trans e34).trans e5, fun j hj => ?_⟩ (by omega)
        by_cases ej : j = i
        · subst ej
          unfold nodeE; rw [hnd, if_neg (by rw [show namedB ns[j].1 = true from c1, c2, c3]; simp), if_neg (by rw [h2]; simp)]
        · exact hno j (by omega)
    · have c1 : namedB ns[i].1 = false := by simpa using c1
      rw [c1] at hbad ⊢
      (repeat (first | (apply WL.pure; rfl; rfl; rfl) | (apply WL.nil) | (apply EX.thenN) | (apply CW.seq) | (apply CW.region) | (apply WL.pass; rfl; rfl) | (apply CW.condT; rfl) | (apply CW.ret) | (apply EX.thenR) | (apply EX.inR)))
      refine EX.ret1 rfl rfl ⟨?_, hE⟩
      rw [hbad rfl]
  · obtain rfl : i = ns.length := by simp at h; omega
    (repeat (first | (apply WL.pure; rfl; rfl; rfl) | (apply WL.nil) | (apply EX.thenN) | (apply CW.seq) | (apply CW.region) | (apply CW.exit) | (apply EX.thenX) | (apply EX.inX) | (apply CW.ret)))
    refine EX.ret1 rfl rfl ⟨?_, hE⟩
    rw [nodesE_zero hno]

/- THE GRAPH OF THE FLOWS -/
def flowsP (n : Nat) (fl : List LFlow) (i : Nat) : Graph := flowsG n (fl.take i)
theorem flowsP_len {n : Nat} {fl : List LFlow} {i : Nat} : (flowsP n fl i).length = n := by simp [flowsP, flowsG]
theorem flowsP_zero {n : Nat} {fl : List LFlow} : flowsP n fl 0 = List.replicate n [] := by
  refine List.ext_getElem (by simp [flowsP, flowsG]) fun k h1 h2 => ?_
  simp [flowsP, flowsG]
theorem flowsP_get {n : Nat} {fl : List LFlow} {i k : Nat} (h : k < n) : (flowsP n fl i)[k]'(by rw [flowsP_len]; exact h) = ((fl.take i).filter fun f => f.1 == (k : Int)).map (·.2) := by simp [flowsP, flowsG]
theorem flowsP_next {n : Nat} {fl : List LFlow} {i a : Nat} {b : Int} (hi : i < fl.length) (hf : fl[i] = ((a : Int), b)) (ha : a < n) :
    (flowsP n fl i).set a ((((fl.take i).filter fun f => f.1 == (a : Int)).map (·.2)) ++ [b]) = flowsP n fl (i + 1) := by
  refine List.ext_getElem (by simp [flowsP_len]) fun k h1 h2 => ?_
  have hk : k < n := by rw [flowsP_len] at h2; exact h2
  rw [List.getElem_set, flowsP_get hk, flowsP_get hk, ← List.take_append_getElem hi, hf, List.filter_append, List.map_append]
  by_cases e : a = k
  · subst e; rw [if_pos rfl]; simp
  · rw [if_neg e]
    have : ((a : Int) == (k : Int)) = false := by simpa using fun h : (a : Int) = k => e (by omega)
    simp [List.filter_cons, this]
theorem flowsG_ok {n : Nat} {fl : List LFlow} (h : ∀ f ∈ fl, 0 ≤ f.2 ∧ f.2 < n) : okG (flowsG n fl) := by
  intro r hr x hx
  rw [show (flowsG n fl).length = n by simp [flowsG]]
  obtain ⟨k, _, rfl⟩ := List.mem_map.1 hr
  obtain ⟨f, hf, rfl⟩ := List.mem_map.1 hx
  exact h f (List.mem_filter.1 hf).1
theorem flowsG_edges {n : Nat} {fl : List LFlow} : edges (flowsG n fl) ≤ n * fl.length := by
  unfold edges flowsG
  rw [List.map_map]
  have : ∀ m : List Nat, (m.map (List.length ∘ fun k : Nat => (fl.filter fun f => f.1 == (k : Int)).map (·.2))).sum ≤ m.length * fl.length := fun m => by
    induction m with
    | nil => simp
    | cons a m ih =>
      simp only [List.map_cons, List.sum_cons, List.length_cons, Nat.add_mul, Nat.one_mul]
      have : (List.length ∘ fun k : Nat => (fl.filter fun f => f.1 == (k : Int)).map (·.2)) a ≤ fl.length := by
        show ((fl.filter fun f => f.1 == (a : Int)).map (·.2)).length ≤ _
        rw [List.length_map]; exact List.length_filter_le _ _
      omega
  have := this (List.range n)
  rwa [List.length_range] at this
theorem startsL_next {ns : List LNode} {k : Nat} : startsL ns (k + 1) = startsL ns k ++ if ((ns.getD k (⟨#[]⟩, 0)).2 == 1) = true then [k] else [] := by
  unfold startsL
  rw [List.range_succ, List.filter_append]
  congr 1
  by_cases e : ((ns.getD k (⟨#[]⟩, 0)).2 == 1) = true
  · rw [if_pos e]; simp only [List.filter_cons, e, List.filter_nil]; rfl
  · rw [if_neg e]; simp only [List.filter_cons, e, List.filter_nil]; rfl
def lastI (l : List Nat) : Int := (l.getLast?.map fun n : Nat => (n : Int)).getD (-1)
theorem startsL_len {ns : List LNode} {k : Nat} : (startsL ns k).length ≤ k := by
  unfold startsL; exact Nat.le_trans (List.length_filter_le _ _) (by simp)
theorem chkR_eq {ns : List LNode} {fl : List LFlow} {s : Nat} (h : startsL ns ns.length = [s]) : chkR (ns, fl) = if (rchB (flowsG ns.length fl) [(s : Int)]).contains false = true then 6 else 0 := by
  have hgl : (flowsG ns.length fl).length = ns.length := by simp [flowsG]
  have hiff : (∃ n, n < ns.length ∧ ¬ Rch (flowsG ns.length fl) (((startsL ns ns.length).getLast?.map fun n : Nat => (n : Int)).toList) n) ↔ (rchB (flowsG ns.length fl) [(s : Int)]).contains false = true := by
    rw [h, List.contains_iff_mem, List.mem_iff_getElem]
    show (∃ n, n < ns.length ∧ ¬ Rch (flowsG ns.length fl) [(s : Int)] n) ↔ _
    constructor
    · rintro ⟨n, hn, hr⟩
      have hn' : n < (rchB (flowsG ns.length fl) [(s : Int)]).length := by rw [rchB_len, hgl]; exact hn
      refine ⟨n, hn', ?_⟩
      rw [← Bool.not_eq_true, rchB_iff hn']; exact hr
    · rintro ⟨n, hn, he⟩
      have hn' : n < ns.length := by rw [rchB_len, hgl] at hn; exact hn
      exact ⟨n, hn', fun hr => by rw [(rchB_iff hn).2 hr] at he; cases he⟩
  unfold chkR
  by_cases hc : (rchB (flowsG ns.length fl) [(s : Int)]).contains false = true
  · rw [if_pos hc]; exact if_pos (hiff.2 hc)
  · rw [if_neg hc]; exact if_neg (fun h => hc (hiff.1 h))
theorem Check_pr (w0 : World) {so fo : Option Addr} {sc fc : Nat} {ns : List LNode} {fl : List LFlow} (hs : Sl w0 (Old w0) so sc ns) (hf : Sl w0 (Old w0) fo fc fl) :
    Rt Try.prog 100 [procV so sc fo fc ns.length fl.length].toArray w0 fun v w' => v = .int .i64 (chkPr (ns, fl)) ∧ Ext w0 w' := by
  have hms := hs.len63
  have hmf := hf.len63
  refine Rt.enter1 Try.func100 Try.ntmps100 rfl rfl ?_
  have hE := Ext.refl w0
  (repeat (first | (apply CW.seq) | (apply CW.region)))
  refine WL.boxB rfl rfl rfl fun w1 hb1 e1 => ?_
  have hE := hE.trans e1
  unfold chkPr
  dsimp only
  (repeat (first | (apply WL.pure; rfl; rfl; rfl) | (apply WL.nil) | (apply EX.thenN) | (apply CW.seq) | (apply CW.region) | (apply WL.lenS; rfl; rfl; rfl) | (apply WL.fa; rfl; rfl; rfl) | (apply WL.ld; rfl; rfl; rfl; assumption; rfl)))
  (refine WL.lookG rfl rfl (fun h => ?_) (fun h => ?_))
  · (repeat (first | (apply WL.pure; rfl; rfl; rfl) | (apply WL.nil) | (apply EX.thenN) | (apply CW.seq) | (apply CW.region) | (apply WL.pass; rfl; rfl) | (apply CW.condT; rfl) | (apply CW.ret) | (apply EX.thenR)))
    refine EX.ret1 rfl rfl ⟨?_, hE⟩
    rw [if_pos (.inl (by simp at h; omega))]
  have c1 : ns.length ≤ 20 := by simp at h; omega
  clear h
  (repeat (first | (apply WL.pure; rfl; rfl; rfl) | (apply WL.nil) | (apply EX.thenN) | (apply WL.lenS; rfl; rfl; rfl) | (apply WL.fa; rfl; rfl; rfl) | (apply WL.ld; rfl; rfl; rfl; assumption; rfl)))
  refine CW.cond rfl (fun h => ?_) (fun h => ?_)
  · (repeat (first | (apply WL.pure; rfl; rfl; rfl) | (apply WL.nil) | (apply EX.thenN) | (apply CW.seq) | (apply CW.region) | (apply CW.ret) | (apply EX.thenR)))
    refine EX.ret1 rfl rfl ⟨?_, hE⟩
    rw [if_pos (.inr (by simp at h; omega))]
  have c2 : fl.length ≤ 30 := by simp at h; omega
  clear h
  rw [if_neg (by omega)]
  (repeat (first | (apply EX.thenN) | (apply CW.seq) | (apply CW.region) | (apply WL.ldA; rfl; rfl; rfl; assumption; rfl) | (apply CW.skip)))
  refine WL.call rfl rfl rfl (nodes_ok w1 (hs.up hE)) ?_
  rintro _ w2 ⟨rfl, e2⟩
  have hb1 := hb1.ext e2
  have hE := hE.trans e2
  (repeat (first | (apply WL.pure; rfl; rfl; rfl) | (apply WL.nil) | (apply EX.thenN) | (apply CW.seq) | (apply CW.region)))
  refine CW.cond rfl (fun h => ?_) (fun h => ?_)
  · have h : nodesE ns ≠ 0 := by simpa using h
    (repeat (first | (apply WL.pure; rfl; rfl; rfl) | (apply WL.nil) | (apply EX.thenN) | (apply CW.seq) | (apply CW.region) | (apply CW.ret) | (apply EX.thenR)))
    refine EX.ret1 rfl rfl ⟨?_, hE⟩
    rw [if_pos h]
  have h : nodesE ns = 0 := by simpa using h
  rw [if_neg (by simp [h])]
  clear h e1 e2
  have z2 := hE.size
  (repeat (first | (apply EX.thenN) | (apply CW.seq) | (apply CW.region) | (apply WL.lenS; rfl; rfl; rfl) | (apply WL.fa; rfl; rfl; rfl) | (apply WL.ld; rfl; rfl; rfl; assumption; rfl) | (apply CW.skip)))
  refine WL.make (α := Raw) rfl rfl rfl rfl (by omega) (by unfold maxLen; omega) (fun w3 ho3 hg3 => ?_)
  have e3 : Ext w2 w3 := (Below.refl _ _).grown hg3 (Nat.le_refl _) (fun k h => by cases h)
  have hN3 : OwnN w3 w2.heap.size 22 3 (.slice (some ⟨w2.heap.size, 0, none⟩) ns.length ns.length) _ (List.replicate ns.length ([] : List Int)) := OwnN.made ho3
  rw [← flowsP_zero (fl := fl)] at hN3
  have hb13 := hb1.ext e3
  clear ho3 hg3
  (repeat (first | (apply WL.pure; rfl; rfl; rfl) | (apply WL.nil) | (apply EX.thenN) | (apply CW.seq) | (apply CW.region) | (apply WL.lenS; rfl; rfl; rfl) | (apply WL.fa; rfl; rfl; rfl) | (apply WL.ld; rfl; rfl; rfl; assumption; rfl) | (apply CW.block)))
  refine CW.loop (S := Nat × List Raw) (fun s => [(1, .pointer (some ⟨w0.heap.size, 0, none⟩)), (4, .slice (some ⟨w2.heap.size, 0, none⟩) ns.length ns.length), (35, .slice fo fl.length fc), (36, .int .i64 fl.length), (37, .int .i64 s.1)])
    (fun s w => s.1 ≤ fl.length ∧ (∀ f ∈ fl.take s.1, flowOdd ns.length f = false) ∧ OwnN w w2.heap.size 22 3 (.slice (some ⟨w2.heap.size, 0, none⟩) ns.length ns.length) s.2 (flowsP ns.length fl s.1) ∧ Ext w2 w) (fun s => fl.length - s.1) (0, _) (by repeat (first | exact trivial | refine ⟨rfl, ?_⟩)) ⟨Nat.zero_le _, (fun f hf => by simp at hf), hN3, e3⟩ ?_
  rintro ⟨i, vs⟩ w4 ⟨hi, hev, hN, e4⟩
  dsimp only at hi hev hN ⊢
  have hE4 := hE.trans e4
  have hN4 := hN
  have hsz : w2.heap.size < w4.heap.size := (hN.out.lt _ rfl).2.1
  (repeat (first | (apply WL.pure; rfl; rfl; rfl) | (apply WL.nil) | (apply EX.thenN) | (apply CW.seq) | (apply CW.region)))
  refine CW.cond rfl (fun h => ?_) (fun h => ?_)
  · have hi' : i < fl.length := by simp at h; omega
    have hbad : flowOdd ns.length fl[i] = true → (if fl.any (flowOdd ns.length) = true then (1 : Int) else if (startsL ns ns.length).length ≠ 1 then 1 else if (List.range ns.length).any (badCount (ns, fl)) = true then 1 else chkR (ns, fl)) = 1 := fun hb => by
      rw [if_pos (List.any_eq_true.2 ⟨_, List.getElem_mem hi', hb⟩)]
    (repeat (first | (apply EX.thenN) | (apply CW.seq) | (apply CW.region) | (apply CW.block) | (apply CW.skip)))
    refine WL.elemN rfl rfl rfl rfl rfl (hf.at hE4) hi' (fun _ => rfl) (fun u q hu => ?_)
    obtain rfl := hu.flow
    skip
    refine WL.alloc rfl rfl (fun w5 hb6 e5 => ?_)
    skip
    refine WL.st rfl rfl rfl hb6 rfl rfl (ones_of rfl) (fun w6 hb6 hg6 => ?_)
    have e6 : Ext w4 w6 := e5.grown hg6 e5.size (fun g hg => by cases hg; exact Nat.le_refl _)
    have hN := hN.ext e6
    have hE6 := hE4.trans e6
    have e26 := e4.trans e6
    (repeat (first | (apply WL.pure; rfl; rfl; rfl) | (apply WL.nil) | (apply EX.thenN) | (apply CW.seq) | (apply CW.region) | (apply WL.fa; rfl; rfl; rfl) | (apply WL.ld; rfl; rfl; rfl; assumption; rfl)))
    by_cases d1 : decide (fl[i].1 < 0) = true
    · rw [d1]
      (repeat (first | (apply WL.pure; rfl; rfl; rfl) | (apply WL.nil) | (apply EX.thenN) | (apply CW.seq) | (apply CW.region) | (apply WL.pass; rfl; rfl) | (apply CW.condT; rfl) | (apply CW.ret) | (apply EX.thenR) | (apply EX.inR)))
      refine EX.ret1 rfl rfl ⟨?_, hE6⟩
      rw [hbad (by unfold flowOdd; rw [d1]; rfl)]
    have d1 : decide (fl[i].1 < 0) = false := by simpa using d1
    rw [d1]
    (repeat (first | (apply WL.pure; rfl; rfl; rfl) | (apply WL.lenS; rfl; rfl; rfl) | (apply WL.fa; rfl; rfl; rfl) | (apply WL.ld; rfl; rfl; rfl; assumption; rfl)))
    by_cases d2 : decide (fl[i].1 ≥ (ns.length : Int)) = true
    · rw [d2]
      (repeat (first | (apply WL.pure; rfl; rfl; rfl) | (apply WL.nil) | (apply EX.thenN) | (apply CW.seq) | (apply CW.region) | (apply WL.pass; rfl; rfl) | (apply CW.condT; rfl) | (apply CW.ret) | (apply EX.thenR) | (apply EX.inR)))
      refine EX.ret1 rfl rfl ⟨?_, hE6⟩
      rw [hbad (by unfold flowOdd; rw [d1, d2]; rfl)]
    have d2 : decide (fl[i].1 ≥ (ns.length : Int)) = false := by simpa using d2
    rw [d2]
    (repeat (first | (apply WL.pure; rfl; rfl; rfl) | (apply WL.fa; rfl; rfl; rfl) | (apply WL.ld; rfl; rfl; rfl; assumption; rfl)))
    by_cases d3 : decide (fl[i].2 < 0) = true
    · rw [d3]
      (repeat (first | (apply WL.pure; rfl; rfl; rfl) | (apply WL.nil) | (apply EX.thenN) | (apply CW.seq) | (apply CW.region) | (apply WL.pass; rfl; rfl) | (apply CW.condT; rfl) | (apply CW.ret) | (apply EX.thenR) | (apply EX.inR)))
      refine EX.ret1 rfl rfl ⟨?_, hE6⟩
      rw [hbad (by unfold flowOdd; rw [d1, d2, d3]; rfl)]
    have d3 : decide (fl[i].2 < 0) = false := by simpa using d3
    rw [d3]
    (repeat (first | (apply WL.pure; rfl; rfl; rfl) | (apply WL.nil) | (apply EX.thenN) | (apply WL.lenS; rfl; rfl; rfl) | (apply WL.fa; rfl; rfl; rfl) | (apply WL.ld; rfl; rfl; rfl; assumption; rfl)))
    refine CW.cond rfl (fun d4 => ?_) (fun d4 => ?_)
    · (repeat (first | (apply WL.pure; rfl; rfl; rfl) | (apply WL.nil) | (apply EX.thenN) | (apply CW.seq) | (apply CW.region) | (apply CW.ret) | (apply EX.thenR) | (apply EX.inR)))
      refine EX.ret1 rfl rfl ⟨?_, hE6⟩
      rw [hbad (by unfold flowOdd; rw [d1, d2, d3, d4]; rfl)]
    have hgd : flowOdd ns.length fl[i] = false := by unfold flowOdd; rw [d1, d2, d3, d4]; rfl
    simp at d1 d2 d3 d4
    obtain ⟨a, ea⟩ := Int.eq_ofNat_of_zero_le d1
    have han : a < ns.length := by omega
    have hfi : fl[i] = ((a : Int), fl[i].2) := by rw [← ea]
    have hnext := flowsP_next hi' hfi han
    have hlen := hN.len
    rw [flowsP_len] at hlen
    have hav : a < vs.length := by omega
    have hd := Ext.drew w6
    have hNd := hN.ext hd
    have hb6d := hb6.ext hd
    have hin := hNd.inn a hav (by rw [flowsP_len]; exact han)
    rw [flowsP_get han] at hin
    have hrl : (((fl.take i).filter fun f => f.1 == (a : Int)).map (·.2)).length ≤ 30 := by
      rw [List.length_map]; exact Nat.le_trans (List.length_filter_le _ _) (by rw [List.length_take]; omega)
    obtain ⟨oo, oc, hov, hout⟩ := hNd.out.slF (F' := fun b => b = w2.heap.size) (fun _ h => h.elim) (fun g hg => by cases hg; rfl)
    obtain ⟨rfl, _, rfl⟩ := Value.slice.inj hov
    rw [← hlen] at hout
    have hsz6 := e6.size
    have hszd := hd.size
    have hl6 := hb6.lt
    rw [ea] at hb6d
    (repeat (first | (apply EX.thenN) | (apply CW.skip)))
    have hK : ∀ z, (fun z : World => ∀ b, b = w2.heap.size ∨ b = w4.heap.size → z.heap[b]? = (drew w6).heap[b]?) z → z.heap[w4.heap.size]? = (drew w6).heap[w4.heap.size]? := fun z hz => hz _ (.inr rfl)
    refine CW.drawE (fun z : World => ∀ b, b = w2.heap.size ∨ b = w4.heap.size → z.heap[b]? = (drew w6).heap[b]?) [(0, true), (1, true), (2, true), (3, true), (4, true), (5, true), (6, true), (7, true), (8, true), (9, true), (10, false), (11, false), (12, true)] 13 mixed (by kernel_rfl) (fun _ _ => rfl) ?_
    (repeat (first | (apply HL.pure; rfl; rfl; rfl; rfl) | (refine HL.fa rfl rfl rfl rfl ?_) | (refine HL.ldK (by assumption) rfl rfl rfl rfl (by assumption) rfl ?_)))
    rw [← hlen]
    refine HL.elemK (w := drew w6) (F := fun b => b = w2.heap.size) (fun z hz b hb => hz b (.inl hb)) rfl rfl rfl rfl rfl rfl rfl hout hav (fun _ => rfl) (fun u q hu => ?_)
    obtain ⟨rfl, _⟩ := hu.raw
    rw [hlen]
    (repeat (first | (refine HL.fa rfl rfl rfl rfl ?_) | (refine HL.ldK (by assumption) rfl rfl rfl rfl (by assumption) rfl ?_)))
    refine HL.app1 (bytes := 8) rfl rfl rfl rfl (fun _ => rfl) rfl rfl (fun _ => rfl) hin (Rd.mkInt _ _ _) (by omega) (fun _ h => h.elim) (by decide) (by unfold maxLen; omega) (by omega)
      (fun z hz b hb => hz.block b (by omega) (fun e => ?_)) (fun v' w7 p ho7 hg7 hnb => ?_)
    · rcases hb with rfl | rfl
      · exact hNd.dio a hav _ e.symm rfl
      · exact absurd ((hN4.inn a hav (by rw [flowsP_len]; exact han)).lt _ e.symm).2.1 (Nat.lt_irrefl _)
    rw [hfi] at ho7
    have hmid := hNd.mid hav hg7
    skip
    refine HL.setTail (yv := (⟨v'⟩ : Raw)) rfl rfl rfl rfl rfl rfl hmid hav (fun _ => rfl) (fun _ => rfl) (Rd.mkRaw _ _ _ ?_) (fun w8 q ho8 hg8 => ?_)
    · obtain ⟨a, b, rfl⟩ := ho7.val; rfl
    have hN8 := hNd.set hav ho7 hg7 hnb ho8 hg8
    rw [hnext] at hN8
    have e26d := e26.trans hd
    have e8 : Ext w2 w8 := (e26d.grown hg7 e26d.size (fun b hb => (hin.lt b hb).1)).grown hg8 (Nat.le_trans e26d.size hg7.size) (fun b hb => (hNd.out.lt b hb).1)
    (repeat (first | (apply WL.add; rfl; rfl; rfl; rfl; omega; omega) | (apply WL.pure; rfl; rfl; rfl) | (apply WL.nil) | (apply EX.thenN) | (apply CW.region) | (apply EX.inN)))
    refine EX.back (i + 1, vs.set a ⟨v'⟩) (by repeat (first | exact trivial | refine ⟨rfl, ?_⟩)) ⟨hi', fun f hf' => ?_, hN8, e8⟩ (by dsimp only; omega)
    dsimp only at hf'
    rw [← List.take_append_getElem hi'] at hf'
    rcases List.mem_append.1 hf' with h1 | h1
    · exact hev f h1
    · rw [List.mem_singleton] at h1; subst h1; exact hgd
  obtain rfl : i = fl.length := by simp at h; omega
  rw [List.take_length] at hev
  have hany : fl.any (flowOdd ns.length) = false := List.any_eq_false.2 (fun f hf => by simp [hev f hf])
  have hfok : ∀ f ∈ fl, 0 ≤ f.1 ∧ f.1 < ns.length ∧ 0 ≤ f.2 ∧ f.2 < ns.length := fun f hf => by
    have := hev f hf
    unfold flowOdd at this
    simp at this
    omega
  rw [if_neg (by rw [hany]; simp)]
  have hgG : flowsP ns.length fl fl.length = flowsG ns.length fl := by unfold flowsP; rw [List.take_length]
  rw [hgG] at hN
  have hgl : (flowsG ns.length fl).length = ns.length := by simp [flowsG]
  have hgok : okG (flowsG ns.length fl) := by
    intro r hr x hx
    rw [hgl]
    obtain ⟨k, _, rfl⟩ := List.mem_map.1 hr
    obtain ⟨f, hf, rfl⟩ := List.mem_map.1 hx
    exact (hfok f (List.mem_filter.1 hf).1).2.2
  have hge := flowsG_edges (n := ns.length) (fl := fl)
  have hge2 : ns.length * fl.length ≤ 20 * 30 := Nat.mul_le_mul c1 c2
  obtain ⟨go, gc, hgv, hg⟩ := hN.old.sl
  rw [hgl] at hgv
  obtain ⟨rfl, _, rfl⟩ := Value.slice.inj hgv
  have hb14 := hb1.ext e4
  clear h hi hev hN hN4 hN3 hany hgv
  (repeat (first | (apply WL.pure; rfl; rfl; rfl) | (apply WL.nil) | (apply EX.thenN) | (apply CW.seq) | (apply CW.region) | (apply WL.lenS; rfl; rfl; rfl) | (apply WL.fa; rfl; rfl; rfl) | (apply WL.ld; rfl; rfl; rfl; assumption; rfl) | (apply CW.block) | (apply CW.exit) | (apply EX.thenX) | (apply EX.inX)))
  refine CW.loop (S := Nat) (fun i => [(1, .pointer (some ⟨w0.heap.size, 0, none⟩)), (4, .slice (some ⟨w2.heap.size, 0, none⟩) ns.length ns.length), (7, .int .i64 (lastI (startsL ns i))), (8, .int .i64 ((startsL ns i).length : Int)), (78, .slice so ns.length sc), (79, .int .i64 ns.length), (80, .int .i64 i)])
    (fun i w => i ≤ ns.length ∧ Ext w4 w) (fun i => ns.length - i) 0 (by repeat (first | exact trivial | refine ⟨rfl, ?_⟩)) ⟨by omega, Ext.refl _⟩ ?_
  rintro i w5 ⟨hi, e5⟩
  have hE5 := hE4.trans e5
  have hnext := startsL_next (ns := ns) (k := i)
  have hsl := startsL_len (ns := ns) (k := i)
  (repeat (first | (apply WL.pure; rfl; rfl; rfl) | (apply WL.nil) | (apply EX.thenN) | (apply CW.seq) | (apply CW.region)))
  refine CW.cond rfl (fun h => ?_) (fun h => ?_)
  · have hi' : i < ns.length := by simp at h; omega
    rw [getDNd_at hi'] at hnext
    (repeat (first | (apply WL.pure; rfl; rfl; rfl) | (apply EX.thenN) | (apply CW.seq) | (apply CW.region) | (apply CW.block) | (apply CW.skip)))
    refine WL.elemN rfl rfl rfl rfl rfl (hs.at hE5) hi' (fun _ => rfl) (fun u q hu => ?_)
    obtain rfl := hu.node
    skip
    refine WL.alloc rfl rfl (fun w6 hb10 e6 => ?_)
    (repeat (apply WL.pure; rfl; rfl; rfl))
    refine WL.st rfl rfl rfl hb10 rfl rfl (ones_of rfl) (fun w7 hb10 hg7 => ?_)
    have e7 : Ext w5 w7 := e6.grown hg7 e6.size (fun g hg => by cases hg; exact Nat.le_refl _)
    (repeat (first | (apply WL.pure; rfl; rfl; rfl) | (apply WL.nil) | (apply EX.thenN) | (apply CW.seq) | (apply CW.region) | (apply WL.fa; rfl; rfl; rfl) | (apply WL.ld; rfl; rfl; rfl; assumption; rfl)))
    refine CW.cond rfl (fun h2 => ?_) (fun h2 => ?_)
    · rw [if_pos h2] at hnext
      have hn1 : ((startsL ns i).length : Int) + 1 = ((startsL ns (i + 1)).length : Int) := by rw [hnext]; simp
      have hn2 : (i : Int) = lastI (startsL ns (i + 1)) := by rw [hnext]; simp [lastI]
      (repeat (first | (apply WL.add; rfl; rfl; rfl; rfl; omega; omega) | (apply WL.pure; rfl; rfl; rfl) | (apply WL.nil) | (apply EX.thenN) | (apply CW.seq) | (apply CW.region) | (apply EX.inN)))
      refine EX.back (i + 1) ⟨rfl, rfl, ?_, ?_, rfl, rfl, rfl, trivial⟩ ⟨hi', e5.trans e7⟩ (by omega)
      · rw [← hn2]; rfl
      · rw [← hn1]; rfl
    · rw [if_neg (by rw [h2]; simp), List.append_nil] at hnext
      (repeat (first | (apply WL.add; rfl; rfl; rfl; rfl; omega; omega) | (apply WL.pure; rfl; rfl; rfl) | (apply WL.nil) | (apply EX.thenN) | (apply CW.region) | (apply EX.inN) | (apply CW.skip)))
      refine EX.back (i + 1) ?_ ⟨hi', e5.trans e7⟩ (by omega)
      rw [hnext]; exact (by repeat (first | exact trivial | refine ⟨rfl, ?_⟩))
  obtain rfl : i = ns.length := by simp at h; omega
  have hb15 := hb14.ext e5
  clear h hi hnext
  (repeat (first | (apply WL.pure; rfl; rfl; rfl) | (apply WL.nil) | (apply EX.thenN) | (apply CW.seq) | (apply CW.region) | (apply CW.exit) | (apply EX.thenX) | (apply EX.inX)))
  refine CW.cond rfl (fun h => ?_) (fun h => ?_)
  · have h : (startsL ns ns.length).length ≠ 1 := by simp at h; omega
    (repeat (first | (apply WL.pure; rfl; rfl; rfl) | (apply WL.nil) | (apply EX.thenN) | (apply CW.seq) | (apply CW.region) | (apply CW.ret) | (apply EX.thenR)))
    refine EX.ret1 rfl rfl ⟨?_, hE5⟩
    rw [if_pos h]
  have h1 : (startsL ns ns.length).length = 1 := by simp at h; omega
  rw [if_neg (by omega)]
  obtain ⟨s, hs1⟩ := List.length_eq_one_iff.1 h1
  have hsn : s < ns.length := by
    have : s ∈ startsL ns ns.length := by rw [hs1]; simp
    unfold startsL at this
    exact List.mem_range.1 (List.mem_filter.1 this).1
  rw [chkR_eq hs1, hs1]
  rw [show lastI [s] = (s : Int) from rfl]
  clear h
  (repeat (first | (apply WL.pure; rfl; rfl; rfl) | (apply WL.nil) | (apply EX.thenN) | (apply CW.seq) | (apply CW.region) | (apply WL.lenS; rfl; rfl; rfl) | (apply WL.fa; rfl; rfl; rfl) | (apply WL.ld; rfl; rfl; rfl; assumption; rfl) | (apply CW.block) | (apply CW.skip)))
  refine CW.loop (S := Nat) (fun i => [(1, .pointer (some ⟨w0.heap.size, 0, none⟩)), (4, .slice (some ⟨w2.heap.size, 0, none⟩) ns.length ns.length), (7, .int .i64 (s : Int)), (95, .slice so ns.length sc), (96, .int .i64 ns.length), (97, .int .i64 i)])
    (fun i w => i ≤ ns.length ∧ Ext w5 w ∧ ∀ j, j < i → badCount (ns, fl) j = false) (fun i => ns.length - i) 0 (by repeat (first | exact trivial | refine ⟨rfl, ?_⟩)) ⟨by omega, Ext.refl _, by omega⟩ ?_
  rintro i w6 ⟨hi, e6, hno⟩
  have hE6 := hE5.trans e6
  have hb16 := hb15.ext e6
  (repeat (first | (apply WL.pure; rfl; rfl; rfl) | (apply WL.nil) | (apply EX.thenN) | (apply CW.seq) | (apply CW.region)))
  refine CW.cond rfl (fun h => ?_) (fun h => ?_)
  · have hi' : i < ns.length := by simp at h; omega
    have hnd := getDNd_at hi'
    (repeat (first | (apply WL.pure; rfl; rfl; rfl) | (apply EX.thenN) | (apply CW.seq) | (apply CW.region) | (apply CW.block) | (apply CW.skip)))
    refine WL.elemN rfl rfl rfl rfl rfl (hs.at hE6) hi' (fun _ => rfl) (fun u q hu => ?_)
    obtain rfl := hu.node
    skip
    refine WL.alloc rfl rfl (fun w7 hb12 e7 => ?_)
    (repeat (apply WL.pure; rfl; rfl; rfl))
    refine WL.st rfl rfl rfl hb12 rfl rfl (ones_of rfl) (fun w8 hb12 hg8 => ?_)
    have e8 : Ext w6 w8 := e7.grown hg8 e7.size (fun g hg => by cases hg; exact Nat.le_refl _)
    have hb18 := hb16.ext e8
    have hE8 := hE6.trans e8
    have hd := Ext.drew w8
    have hSE : ∀ x, (fun x => Ext w8 x) x → Ext w8 x := fun _ h => h
    have hb12d := hb12
    (repeat (first | (apply WL.nil) | (apply EX.thenN) | (apply CW.seq)))
    refine CW.drawH (fun x => Ext w8 x) [(0, true), (1, true), (2, true), (3, true), (6, true), (7, true), (4, false), (5, true), (8, false), (9, true), (10, false), (11, true)] mixed (by kernel_rfl) (Ext.drew w8) ?_
    (repeat (first | (apply HL.pure; rfl; rfl; rfl; rfl) | (refine HL.fa rfl rfl rfl rfl ?_) | (refine HL.ld (by assumption) rfl rfl rfl rfl (by assumption) rfl ?_) | (refine HL.ldA (by assumption) rfl rfl rfl rfl (by assumption) rfl ?_)))
    refine HL.mut rfl (WL.call rfl rfl rfl (ins_ok (drew w8) (hf.up (hE8.trans hd)) (i : Int) (by omega)) ?_)
    rintro iv w9 ⟨hoi, e9⟩
    have hT9 := hd.trans e9
    obtain ⟨iao, ica, rfl⟩ := hoi.val
    refine WL.nil (EX.mut hT9 ?_)
    (repeat (refine HL.lenS rfl rfl rfl rfl ?_))
    refine HL.mut rfl (WL.call rfl rfl rfl (outs_ok w9 (hf.up (hE8.trans hT9)) (i : Int) (by omega)) ?_)
    rintro ov w10 ⟨hoo, e10⟩
    have hT10 := hT9.trans e10
    obtain ⟨oao, oca, rfl⟩ := hoo.val
    refine WL.nil (EX.mut hT10 ?_)
    (repeat (refine HL.lenS rfl rfl rfl rfl ?_))
    refine HL.mut rfl (WL.call rfl rfl rfl (counts_ok w10 ns[i].2 (insL fl (i : Int)).length (outsL fl (i : Int)).length) ?_)
    rintro _ _ ⟨rfl, rfl⟩
    refine WL.nil (EX.mut hT10 ?_)
    have hbc : badCount (ns, fl) i = !countsB ns[i].2 (insL fl (i : Int)).length (outsL fl (i : Int)).length := by unfold badCount; rw [hnd]
    (repeat (first | (apply HL.pure; rfl; rfl; rfl; rfl) | (apply HL.nil)))
    (repeat (apply EX.thenN))
    refine CW.cond rfl (fun h2 => ?_) (fun h2 => ?_)
    · (repeat (first | (apply WL.pure; rfl; rfl; rfl) | (apply WL.nil) | (apply EX.thenN) | (apply CW.seq) | (apply CW.region) | (apply CW.ret) | (apply EX.thenR) | (apply EX.inR)))
      refine EX.ret1 rfl rfl ⟨?_, hE8.trans hT10⟩
      rw [if_pos (List.any_eq_true.2 ⟨i, List.mem_range.2 hi', by rw [hbc]; exact h2⟩)]
    · (repeat (first | (apply WL.add; rfl; rfl; rfl; rfl; omega; omega) | (apply WL.pure; rfl; rfl; rfl) | (apply WL.nil) | (apply EX.thenN) | (apply CW.region) | (apply EX.inN) | (apply CW.skip)))
      refine EX.back (i + 1) (by repeat (first | exact trivial | refine ⟨rfl, ?_⟩)) ⟨hi', (e6.trans e8).trans hT10, fun j hj => ?_⟩ (by omega)
      by_cases e : j = i
      · subst e; rw [hbc]; exact h2
      · exact hno j (by omega)
  obtain rfl : i = ns.length := by simp at h; omega
  have hany : (List.range ns.length).any (badCount (ns, fl)) = false := List.any_eq_false.2 (fun j hj => by simp [hno j (List.mem_range.1 hj)])
  rw [if_neg (by rw [hany]; simp)]
  clear h hi hno
  have hg6 := hg.up (e5.trans e6)
  (repeat (first | (apply WL.pure; rfl; rfl; rfl) | (apply EX.thenN) | (apply CW.seq) | (apply CW.region) | (apply CW.exit) | (apply EX.thenX) | (apply EX.inX)))
  refine WL.litR [(s : Int)] rfl rfl rfl rfl rfl (.cons (Rd.mkInt _ _ _) .nil) (by show 1 * 1 ≤ 16777216; decide) (fun v7 w7 e7 r7 _ => ?_)
  obtain ⟨lo, lc, rfl, hls⟩ := r7.sl
  have hsok : okL (flowsG ns.length fl).length [(s : Int)] := fun x hx => by rw [List.mem_singleton] at hx; subst hx; rw [hgl]; omega
  have hrF := reachF_of hgok hsok (by omega)
  rw [← hgl]
  have hRR := Reach_ok w7 (hg6.up e7) hls (by simp only [List.length_singleton]; omega)
  rw [hrF, hgl] at hRR
  rw [hgl]
  skip
  refine WL.call rfl rfl rfl hRR ?_
  rintro _ w8 ⟨rv, rfl, hor, e8⟩
  obtain ⟨ro, rc, rfl, hrs⟩ := hor.oldN.sl
  (repeat (first | (apply WL.pure; rfl; rfl; rfl) | (apply WL.nil) | (apply EX.thenN) | (apply CW.seq) | (apply CW.region)))
  refine WL.call rfl rfl rfl (contains_bool w8 false hrs) ?_
  rintro _ w9 ⟨rfl, e9⟩
  have hE9 := ((hE6.trans e7).trans e8).trans e9
  (repeat (first | (apply WL.nil) | (apply EX.thenN)))
  refine CW.cond rfl (fun h2 => ?_) (fun h2 => ?_)
  · (repeat (first | (apply WL.pure; rfl; rfl; rfl) | (apply WL.nil) | (apply EX.thenN) | (apply CW.seq) | (apply CW.region) | (apply CW.ret) | (apply EX.thenR)))
    refine EX.ret1 rfl rfl ⟨?_, hE9⟩
    rw [if_pos h2]
  · (repeat (first | (apply WL.pure; rfl; rfl; rfl) | (apply WL.nil) | (apply EX.thenN) | (apply CW.seq) | (apply CW.region) | (apply CW.ret) | (apply CW.skip)))
    refine EX.ret1 rfl rfl ⟨?_, hE9⟩
    rw [if_neg (by rw [h2]; simp)]
end Go.Proofs.Ytadbkppgaekmpaa
/-
  Literals all of whose blocks are new.
-/
set_option linter.unusedVariables false
set_option linter.unusedSimpArgs false
namespace Go.Proofs.Ytadbkppgaekmpaa
open Go.RowKit

/-- the blocks from c on -/
def From (c : Nat) (w : World) : Nat → Prop := fun b => c ≤ b ∧ b < w.heap.size
theorem Rd.upF {α : Type} [Rep α] {w w' : World} {c : Nat} {v : Value} {x : α} (h : Rd w (From c w) v x) (hE : Ext w w') : Rd w' (From c w') v x := h.mono (fun b hb => hE.block b hb.2) fun b hb => ⟨hb.1, Nat.lt_of_lt_of_le hb.2 hE.size⟩
section
variable {P : Program} {Q : Exit → Act → World → Prop} {n : Nat} {σ : Sg} {w : World} {L rest : List Oper} {d : Nat} {ty : TypeId} {pos : String} {af : Array Edge} {g : Option (Nat × Bool)}
variable {α : Type} [Rep α] {e t : TypeId} {x0 : α} {bytes : Nat}
theorem WL.litF (c : Nat) (hc : c ≤ w.heap.size) {len : Nat} {parts : List (Nat × Operand)} {vs : List Value} (ys : List α) (hg : gd L σ ⟨some d, .buildSlice t len parts.toArray, ty, pos, af, g⟩ = some true) (hd : Nat.ble (d + 1) n = true)
    (hp : idxL 0 (sndL parts) = parts) (hv : evs σ (sndL parts) = some vs) [hs : IsS P t e] [ht : IsT P e α] [hz : IsZ P e x0 bytes] (hlen : len = ys.length) (hr : RdAll w (From c w) vs ys) (hsz : ys.length * sz α ≤ 16777216)
    (h : ∀ v w', Ext w w' → Rd w' (From c w') v ys → WL P L Q rest n ((d, v) :: σ) w') :
    WL P L Q (⟨some d, .buildSlice t len parts.toArray, ty, pos, af, g⟩ :: rest) n σ w :=
  WL.lit hg hd hp hv hlen hr hsz (fun b h => h.2) fun w' ho hgr => by
    have hE : Ext w w' := (Below.refl _ _).grown hgr (Nat.le_refl _) (fun k h => by cases h)
    refine h _ w' hE (ho.rd.mono (fun _ _ => rfl) fun b hb => ?_)
    rcases hb with hb | hb
    · exact ⟨hb.1, Nat.lt_of_lt_of_le hb.2 hE.size⟩
    · have := ho.lt b hb; exact ⟨by omega, this.2.1⟩
end
end Go.Proofs.Ytadbkppgaekmpaa
/-
  Results that lie in a variable; slices that are read, later on; slices cut with their capacity. Over any program.
-/
set_option linter.unusedVariables false
set_option linter.unusedSimpArgs false
namespace Go.Proofs.Ytadbkppgaekmpaa
open Go.RowKit

theorem results_cell {fn : Func} {a : Nat} {t : TypeId} (h : fn.results = #[.cell a t]) (tmps : Array Value) (P : Program) (w : World) {p : Addr} {v : Value} (ha : tmps.getD a undef = .pointer (some p)) (hl : (loadVar t p).run P w = .ok v w) :
    (results fn tmps).run P w = .ok v w := by
  simp only [Array.getD_eq_getD_getElem?] at ha
  simp [results, h, ha, asAddr, hl]
theorem EX.retC {P : Program} {n : Nat} {σ : Sg} {w : World} {fn : Func} {a b : Nat} {t e : TypeId} {cells : List Value} {k : Nat} {R : Value → World → Prop} (hr : fn.results = #[.cell a t]) (ha : fnd σ a = some (.pointer (some ⟨b, 0, none⟩))) [hc : IsC P t k true] (hb : Blk w b e cells) (hk : lenL cells = k) (h : R (.agg cells.toArray) w) :
    EX (bodyPost P fn fun e w' => ∃ v, e = .returned v ∧ R v w') .ret n σ w := by
  unfold EX; intro ac hac
  refine bodyPost_ret (results_cell hr _ _ _ (hac.slot a _ ha) (v := .agg cells.toArray) ?_) hac.defers ⟨_, rfl, h⟩
  rw [lenL_eq] at hk
  have hld := run_loadCells_list (P := P) w ⟨b, 0, none⟩ cells (fun j u hu => by rw [WideShapes.add_plain, Nat.zero_add]; exact hb.cell hu)
  obtain ⟨i, dd, h1, h2, h3, h4⟩ := hc.ok
  have hagg : (isAgg t).run P w = .ok true w := by
    unfold isAgg
    rw [Sem.run_bind, run_underlying h3 w, ← h4]
    cases dd <;> rfl
  rw [hk] at hld
  simp [loadVar, hagg, sizeOf, typeInfo, h1, h2, hld]
theorem results_cell2 {fn : Func} {a u : Nat} {t : TypeId} (h : fn.results = #[.cell a t, .tmp u]) (tmps : Array Value) (P : Program) (w : World) {p : Addr} {v : Value} (ha : tmps.getD a undef = .pointer (some p)) (hl : (loadVar t p).run P w = .ok v w) :
    (results fn tmps).run P w = .ok (.tuple ⟨[v, tmps.getD u undef]⟩) w := by
  simp only [Array.getD_eq_getD_getElem?] at ha ⊢
  simp [results, h, ha, asAddr, hl]
theorem EX.retC2 {P : Program} {n : Nat} {σ : Sg} {w : World} {fn : Func} {a b u : Nat} {t e : TypeId} {cells : List Value} {k : Nat} {x : Value} {R : Value → World → Prop} (hr : fn.results = #[.cell a t, .tmp u]) (ha : fnd σ a = some (.pointer (some ⟨b, 0, none⟩))) (hu : fnd σ u = some x) [hc : IsC P t k true] (hb : Blk w b e cells) (hk : lenL cells = k) (h : R (.tuple ⟨[.agg cells.toArray, x]⟩) w) :
    EX (bodyPost P fn fun e w' => ∃ v, e = .returned v ∧ R v w') .ret n σ w := by
  unfold EX; intro ac hac
  refine bodyPost_ret (results_cell2 hr _ _ _ (hac.slot a _ ha) (v := .agg cells.toArray) ?_) hac.defers ⟨_, by rw [hac.slot u x hu], h⟩
  rw [lenL_eq] at hk
  have hld := run_loadCells_list (P := P) w ⟨b, 0, none⟩ cells (fun j u hu => by rw [WideShapes.add_plain, Nat.zero_add]; exact hb.cell hu)
  obtain ⟨i, dd, h1, h2, h3, h4⟩ := hc.ok
  have hagg : (isAgg t).run P w = .ok true w := by
    unfold isAgg
    rw [Sem.run_bind, run_underlying h3 w, ← h4]
    cases dd <;> rfl
  rw [hk] at hld
  simp [loadVar, hagg, sizeOf, typeInfo, h1, h2, hld]
theorem Sl.zero {α : Type} [Rep α] (w : World) (F : Nat → Prop) : Sl w F none 0 ([] : List α) := ⟨by simp, by simp [maxLen], fun _ => rfl, fun i hi => absurd hi (by simp)⟩
theorem Sl.up0 {α : Type} [Rep α] {w w' : World} {F : Nat → Prop} {ao : Option Addr} {cap : Nat} {xs : List α} (h : Sl w F ao cap xs) (hE : Ext w w') (hF : ∀ b, F b → b < w.heap.size) : Sl w' F ao cap xs := h.mono (fun b hb => hE.block b (hF b hb)) fun _ h => h
section
variable {P : Program} {Q : Exit → Act → World → Prop} {n : Nat} {σ : Sg} {w : World} {L rest : List Oper} {d : Nat} {ty : TypeId} {pos : String} {af : Array Edge} {g : Option (Nat × Bool)} {t e : TypeId} {α : Type} [Rep α] {F : Nat → Prop}
theorem run_cut3 {ao : Option Addr} {len cap k : Nat} {k1 k2 : IntKind} (w : World) [hs : IsS P t e] [ht : IsT P e α] (h : k ≤ cap) :
    (Instr.sliceAt t (.slice ao len cap) none (some (.int k1 (k : Int))) (some (.int k2 (k : Int)))).run P w = .ok (.slice ao k k) w := by
  have a2 : (k : Int) ≤ (cap : Int) := by omega
  have a3 : (0 : Int) ≤ (k : Int) := by omega
  simp only [Instr.sliceAt, Sem.run_bind, run_underlying hs.ok, Result.andThen_ok, Instr.slice, Instr.sliceBounds]
  simp [run_sizeOf (α := α), Instr.sliceBound, asIntOf, h, Addr.add_zero']
/-- x[:k:k] -/
theorem WL.cut3O {x y z : Operand} {v : Value} {xs : List α} {B : Nat} {k1 k2 : IntKind} {k : Nat} (hg : gd L σ ⟨some d, .slice t x none (some y) (some z), ty, pos, af, g⟩ = some true) (hd : Nat.ble (d + 1) n = true)
    (hx : ev σ x = some v) (hy : ev σ y = some (.int k1 (k : Int))) (hz : ev σ z = some (.int k2 (k : Int))) [hs : IsS P t e] [ht : IsT P e α] (hown : Own w B e F v xs) (hk : k ≤ xs.length)
    (h : ∀ v', Own w B e F v' (xs.take k) → v'.ownBlock = v.ownBlock → WL P L Q rest n ((d, v') :: σ) w) : WL P L Q (⟨some d, .slice t x none (some y) (some z), ty, pos, af, g⟩ :: rest) n σ w := by
  obtain ⟨ao, cap, rfl⟩ := hown.val
  have hle := hown.le rfl
  refine WL.run (v := .slice ao k k) hg hd (fun a ha => ?_) (h _ ?_ (by cases ao <;> rfl))
  · have := run_cut3 (P := P) (t := t) (e := e) (α := α) (ao := ao) (len := xs.length) (cap := cap) (k := k) (k1 := k1) (k2 := k2) w (by omega)
    simp [execOp, ha.ev hx, ha.ev hy, ha.ev hz, this]
  · rcases hown with ⟨h1, rfl⟩ | ⟨g', off, cp, cur, h1, ho⟩
    · obtain ⟨rfl, _, rfl⟩ := Value.slice.inj h1
      have : k = 0 := by simpa using hk
      subst this
      exact .inl ⟨rfl, by simp⟩
    · obtain ⟨rfl, _, rfl⟩ := Value.slice.inj h1
      have hlen : (xs.take k).length = k := by rw [List.length_take]; omega
      have hmul : k * sz α ≤ cap * sz α := Nat.mul_le_mul_right _ (by omega)
      refine .inr ⟨g', off, k, cur, by rw [hlen], ⟨ho.blk, ho.ge, ho.nF, by omega, by have := ho.mx; omega, by have := ho.fit; omega, ?_⟩⟩
      have := ho.el.take k hk
      rw [List.take_take, Nat.min_eq_left (Nat.mul_le_mul_right _ hk)] at this
      rw [hlen]; exact this
end
end Go.Proofs.Ytadbkppgaekmpaa
/-
  Package proc: Ins, Outs; watchkeep.straight: walked.
-/
set_option linter.unusedVariables false
set_option linter.unusedSimpArgs false
namespace Go.Proofs.Ytadbkppgaekmpaa
open Go.RowKit

noncomputable def listE (p : LProc) (n : Int) : Int := if chkPr p ≠ 0 then chkPr p else if n < 0 ∨ n ≥ p.1.length then 1 else 0
theorem list_ok (w0 : World) {so fo : Option Addr} {sc fc : Nat} {ns : List LNode} {fl : List LFlow} (hs : Sl w0 (Old w0) so sc ns) (hf : Sl w0 (Old w0) fo fc fl) (n : Int) {fv : Value} (sel : List Int)
    (hfv : fl.length ≤ 30 → ∀ w, Ext w0 w → FnV Try.prog fv [procV so sc fo fc ns.length fl.length, .int .i64 n] w fun v w' => Own w' w.heap.size 3 Non v sel ∧ Ext w w') :
    Rt Try.prog 84 [procV so sc fo fc ns.length fl.length, .int .i64 n, fv].toArray w0 fun v w' => ∃ x, v = .tuple ⟨[x, .int .i64 (listE (ns, fl) n)]⟩ ∧ Own w' w0.heap.size 3 Non x (if listE (ns, fl) n = 0 then sel else []) ∧ Ext w0 w' := by
  have hms := hs.len63
  refine Rt.enter3 Try.func84 Try.ntmps84 rfl rfl ?_
  have hE := Ext.refl w0
  (repeat (first | (apply CW.seq) | (apply CW.region)))
  refine WL.boxB rfl rfl rfl fun w1 hb3 e1 => ?_
  have hE := hE.trans e1
  unfold listE
  dsimp only
  (repeat (first | (apply WL.pure; rfl; rfl; rfl) | (apply WL.nil) | (apply EX.thenN) | (apply CW.seq) | (apply CW.region) | (apply WL.ldA; rfl; rfl; rfl; assumption; rfl)))
  refine WL.call rfl rfl rfl (Check_pr w1 (hs.up hE) (hf.up hE)) ?_
  rintro _ w2 ⟨rfl, e2⟩
  have hb3 := hb3.ext e2
  have hE := hE.trans e2
  (repeat (first | (apply WL.pure; rfl; rfl; rfl) | (apply WL.nil) | (apply EX.thenN) | (apply CW.seq) | (apply CW.region)))
  refine CW.cond rfl (fun h => ?_) (fun h => ?_)
  · have h : chkPr (ns, fl) ≠ 0 := by simpa using h
    (repeat (first | (apply WL.pure; rfl; rfl; rfl) | (apply WL.nil) | (apply EX.thenN) | (apply CW.seq) | (apply CW.region) | (apply CW.ret) | (apply EX.thenR)))
    refine EX.ret2 rfl rfl rfl ⟨_, by rw [if_pos h], ?_, hE⟩
    rw [if_pos h, if_neg h]; exact Own.nil
  have h : chkPr (ns, fl) = 0 := by simpa using h
  have hok := chkPr_ok h
  rw [if_neg (by simp [h])]
  clear h
  (repeat (first | (apply WL.pure; rfl; rfl; rfl) | (apply EX.thenN) | (apply CW.seq) | (apply CW.region) | (apply CW.skip)))
  (refine WL.lookG rfl rfl (fun h => ?_) (fun h => ?_))
  · (repeat (first | (apply WL.pure; rfl; rfl; rfl) | (apply WL.nil) | (apply EX.thenN) | (apply CW.seq) | (apply CW.region) | (apply WL.pass; rfl; rfl) | (apply CW.condT; rfl) | (apply CW.ret) | (apply EX.thenR)))
    have e : (if n < 0 ∨ n ≥ (ns.length : Int) then (1 : Int) else 0) = 1 := if_pos (.inl (by simpa using h))
    exact EX.ret2 rfl rfl rfl ⟨_, by rw [e], by rw [e, if_neg (by decide)]; exact Own.nil, hE⟩
  have h1 : ¬ n < 0 := by simpa using h
  clear h
  (repeat (first | (apply WL.pure; rfl; rfl; rfl) | (apply WL.nil) | (apply EX.thenN) | (apply WL.lenS; rfl; rfl; rfl) | (apply WL.fa; rfl; rfl; rfl) | (apply WL.ld; rfl; rfl; rfl; assumption; rfl)))
  refine CW.cond rfl (fun h => ?_) (fun h => ?_)
  · have h : n ≥ ns.length := by simpa using h
    (repeat (first | (apply WL.pure; rfl; rfl; rfl) | (apply WL.nil) | (apply EX.thenN) | (apply CW.seq) | (apply CW.region) | (apply CW.ret) | (apply EX.thenR)))
    have e : (if n < 0 ∨ n ≥ (ns.length : Int) then (1 : Int) else 0) = 1 := if_pos (.inr h)
    exact EX.ret2 rfl rfl rfl ⟨_, by rw [e], by rw [e, if_neg (by decide)]; exact Own.nil, hE⟩
  have h2 : ¬ n ≥ ns.length := by simpa using h
  rw [if_neg (by omega), if_pos rfl]
  clear h
  (repeat (first | (apply WL.pure; rfl; rfl; rfl) | (apply EX.thenN) | (apply CW.seq) | (apply CW.region) | (apply WL.ldA; rfl; rfl; rfl; assumption; rfl) | (apply CW.skip)))
  refine WL.callF rfl rfl rfl rfl (hfv hok.f w2 hE) ?_
  rintro x w3 ⟨ho, e3⟩
  (repeat (first | (apply WL.pure; rfl; rfl; rfl) | (apply WL.nil) | (apply EX.thenN) | (apply CW.ret)))
  exact EX.ret2 rfl rfl rfl ⟨_, rfl, ho.low hE.size, hE.trans e3⟩
theorem Ins_ok (w0 : World) {so fo : Option Addr} {sc fc : Nat} {ns : List LNode} {fl : List LFlow} (hs : Sl w0 (Old w0) so sc ns) (hf : Sl w0 (Old w0) fo fc fl) (n : Int) :
    Rt Try.prog 141 [procV so sc fo fc ns.length fl.length, .int .i64 n].toArray w0 fun v w' => ∃ x, v = .tuple ⟨[x, .int .i64 (listE (ns, fl) n)]⟩ ∧ Own w' w0.heap.size 3 Non x (if listE (ns, fl) n = 0 then insL fl n else []) ∧ Ext w0 w' := by
  refine Rt.enter2 Try.func141 Try.ntmps141 rfl rfl ?_
  (repeat (first | (apply CW.seq) | (apply CW.region)))
  refine WL.boxB rfl rfl rfl fun w1 hb e1 => ?_
  (repeat (first | (apply WL.pure; rfl; rfl; rfl) | (apply WL.nil) | (apply EX.thenN) | (apply CW.seq) | (apply CW.region) | (apply WL.ldA; rfl; rfl; rfl; assumption; rfl)))
  refine WL.call rfl rfl rfl (list_ok w1 (hs.up e1) (hf.up e1) n (insL fl n) (fun hl w hw => FnV.mk (cs := []) (ins_ok w (hf.up (e1.trans hw)) n (by omega)))) ?_
  rintro _ w2 ⟨x, rfl, ho, e2⟩
  (repeat (first | (apply WL.pure; rfl; rfl; rfl) | (apply WL.nil) | (apply EX.thenN) | (apply CW.ret)))
  exact EX.ret2 rfl rfl rfl ⟨x, rfl, ho.low e1.size, e1.trans e2⟩
theorem Outs_ok (w0 : World) {so fo : Option Addr} {sc fc : Nat} {ns : List LNode} {fl : List LFlow} (hs : Sl w0 (Old w0) so sc ns) (hf : Sl w0 (Old w0) fo fc fl) (n : Int) :
    Rt Try.prog 28 [procV so sc fo fc ns.length fl.length, .int .i64 n].toArray w0 fun v w' => ∃ x, v = .tuple ⟨[x, .int .i64 (listE (ns, fl) n)]⟩ ∧ Own w' w0.heap.size 3 Non x (if listE (ns, fl) n = 0 then outsL fl n else []) ∧ Ext w0 w' := by
  refine Rt.enter2 Try.func28 Try.ntmps28 rfl rfl ?_
  (repeat (first | (apply CW.seq) | (apply CW.region)))
  refine WL.boxB rfl rfl rfl fun w1 hb e1 => ?_
  (repeat (first | (apply WL.pure; rfl; rfl; rfl) | (apply WL.nil) | (apply EX.thenN) | (apply CW.seq) | (apply CW.region) | (apply WL.ldA; rfl; rfl; rfl; assumption; rfl)))
  refine WL.call rfl rfl rfl (list_ok w1 (hs.up e1) (hf.up e1) n (outsL fl n) (fun hl w hw => FnV.mk (cs := []) (outs_ok w (hf.up (e1.trans hw)) n (by omega)))) ?_
  rintro _ w2 ⟨x, rfl, ho, e2⟩
  (repeat (first | (apply WL.pure; rfl; rfl; rfl) | (apply WL.nil) | (apply EX.thenN) | (apply CW.ret)))
  exact EX.ret2 rfl rfl rfl ⟨x, rfl, ho.low e1.size, e1.trans e2⟩
def straightP : LProc := ([(⟨#[97]⟩, 1), (⟨#[98]⟩, 4), (⟨#[99]⟩, 2)], [(0, 1), (1, 2)])
theorem rdNd (w : World) (F : Nat → Prop) (s : ByteArray) (k : Int) (h : s.size ≤ maxLen) : Rd w F (.agg [.string s, .int .i64 k].toArray) ((s, k) : LNode) := Rd.mkPr (c1 := [.string s]) (c2 := [.int .i64 k]) ⟨rfl, h⟩ (rd_mkInt _ _ _)
theorem rdFl (w : World) (F : Nat → Prop) (a b : Int) : Rd w F (.agg [.int .i64 a, .int .i64 b].toArray) ((a, b) : LFlow) := Rd.mkPr (c1 := [.int .i64 a]) (c2 := [.int .i64 b]) (rd_mkInt _ _ _) (rd_mkInt _ _ _)
theorem straight_ok (w0 : World) : Rt Try.prog 29 [].toArray w0 fun v w' => (∃ so sc fo fc, v = procV so sc fo fc 3 2 ∧ Sl w' (Old w') so sc straightP.1 ∧ Sl w' (Old w') fo fc straightP.2) ∧ Ext w0 w' := by
  refine Rt.enter0 Try.func29 Try.ntmps29 rfl ?_
  (repeat (first | (apply CW.seq) | (apply CW.region)))
  refine WL.alloc rfl rfl (fun w1 hb hE1 => ?_)
  have hc1 : w0.heap.size + 1 ≤ w1.heap.size := hb.lt
  generalize hcc : w0.heap.size + 1 = c at hc1
  (repeat (first | (apply WL.nil) | (apply EX.thenN) | (apply CW.seq) | (apply CW.region)))
  refine WL.build rfl rfl rfl rfl ?_
  refine WL.build rfl rfl rfl rfl ?_
  refine WL.build rfl rfl rfl rfl ?_
  refine WL.litF c (by omega) straightP.1 rfl rfl rfl rfl rfl (.cons (rdNd _ _ _ _ (by decide)) (.cons (rdNd _ _ _ _ (by decide)) (.cons (rdNd _ _ _ _ (by decide)) .nil))) (by decide) (fun v2 w2 e2 r2 => ?_)
  have z2 := e2.size
  refine WL.build rfl rfl rfl rfl ?_
  refine WL.build rfl rfl rfl rfl ?_
  refine WL.litF c (by omega) straightP.2 rfl rfl rfl rfl rfl (.cons (rdFl _ _ _ _) (.cons (rdFl _ _ _ _) .nil)) (by decide) (fun v3 w3 e3 r3 => ?_)
  have r2 := r2.upF e3
  have hb3 := hb.ext (e2.trans e3)
  have hE3 := hE1.trans (e2.trans e3)
  obtain ⟨a1, c1, rfl, s1⟩ := r2.sl
  obtain ⟨a2, c2, rfl, s2⟩ := r3.sl
  refine WL.build rfl rfl rfl rfl ?_
  skip
  refine WL.st rfl rfl rfl hb3 rfl rfl (ones_of rfl) (fun w4 hb4 hg4 => ?_)
  have hE4 : Ext w0 w4 := hE3.grown hg4 hE3.size (fun g hg => by cases hg; exact Nat.le_refl _)
  have hF : ∀ b, From c w3 b → w4.heap[b]? = w3.heap[b]? := fun b hb => hg4.block b hb.2 (fun e => by cases e; have := hb.1; omega)
  have hO : ∀ b, From c w3 b → Old w4 b := fun b hb => Nat.lt_of_lt_of_le hb.2 hg4.size
  (repeat (first | (apply WL.nil) | (apply EX.thenN) | (apply CW.ret)))
  exact EX.retC rfl rfl hb4 rfl ⟨⟨a1, c1, a2, c2, rfl, s1.mono hF hO, s2.mono hF hO⟩, hE4⟩
theorem straight_chk : chkPr straightP = 0 := by
  have hst : startsL straightP.1 straightP.1.length = [0] := by decide
  have hok : okG (flowsG straightP.1.length straightP.2) := (chkG_ok (by decide : chkG (flowsG straightP.1.length straightP.2) = 0)).1
  have hR : chkR straightP = 0 := by
    have := chkR_eq (ns := straightP.1) (fl := straightP.2) hst
    rw [rchB_run hok (by intro x hx; simp at hx; subst hx; decide) 20 (by decide)] at this
    rw [show chkR straightP = chkR (straightP.1, straightP.2) from rfl, this]
    decide
  unfold chkPr
  rw [hR, if_neg (by decide), if_neg (by decide), if_neg (by decide), if_neg (by decide), if_neg (by decide)]
end Go.Proofs.Ytadbkppgaekmpaa
