import Derived.Shelf.Slices.Reverse
import Derived.DeepKeys4
import Derived.Maps.Keyed
import Derived.Test.YtljcnopekjinjaaPtSpaceRoute9
/-
  All markings: plain laws.
-/
set_option linter.unusedVariables false
set_option linter.unusedSimpArgs false
namespace Go.Proofs.Ytljcnopekjinjaa

/- greater bounds -/
theorem putE_same {a b c d : Int} {s : Sr} {m : List Int} {fr : Int × Int} (h1 : (putE a b s m fr).2.2 = 0) (h2 : (putE c d s m fr).2.2 = 0) : putE a b s m fr = putE c d s m fr := by
  unfold putE at h1 h2 ⊢
  by_cases g1 : tooMany a m = true
  · rw [if_pos g1] at h1; cases h1
  by_cases g2 : tooMany c m = true
  · rw [if_pos g2] at h2; cases h2
  rw [if_neg g1] at h1
  rw [if_neg g2] at h2
  rw [if_neg g1, if_neg g2]
  by_cases g3 : m ∈ s.1
  · rw [if_pos g3, if_pos g3]
  rw [if_neg g3] at h1 h2
  rw [if_neg g3, if_neg g3]
  by_cases g4 : (s.1.length : Int) = b
  · rw [if_pos g4] at h1; cases h1
  by_cases g5 : (s.1.length : Int) = d
  · rw [if_pos g5] at h2; cases h2
  rw [if_neg g4, if_neg g5]
theorem edgesGo_same {p : LProc} {a b c d n : Int} {m : List Int} : ∀ (l : List Int) (s : Sr) (out : List LEdge), (edgesGo p a b n m l s out).2.2 = 0 → (edgesGo p c d n m l s out).2.2 = 0 → edgesGo p a b n m l s out = edgesGo p c d n m l s out
  | [], s, out, _, _ => rfl
  | k :: r, s, out, h1, h2 => by
    rw [edgesGo] at h1 h2 ⊢
    rw [edgesGo]
    by_cases g : (fireE p m k).2 = 0
    case neg => rw [if_pos g] at h1; exact absurd h1 g
    have hg : ¬ (fireE p m k).2 ≠ 0 := by simp [g]
    rw [if_neg hg] at h1 h2
    rw [if_neg hg, if_neg hg]
    by_cases g1 : (putE a b s (fireE p m k).1 (n, k)).2.2 = 0
    case neg => rw [if_pos g1] at h1; exact absurd h1 g1
    by_cases g2 : (putE c d s (fireE p m k).1 (n, k)).2.2 = 0
    case neg => rw [if_pos g2] at h2; exact absurd h2 g2
    have e := putE_same g1 g2
    have hg1 : ¬ (putE a b s (fireE p m k).1 (n, k)).2.2 ≠ 0 := by simp [g1]
    have hg2 : ¬ (putE c d s (fireE p m k).1 (n, k)).2.2 ≠ 0 := by simp [g2]
    rw [if_neg hg1] at h1
    rw [if_neg hg2] at h2
    rw [if_neg hg1, if_neg hg2]
    rw [e] at h1 ⊢
    exact edgesGo_same r _ _ h1 h2
theorem runGo_same {p : LProc} {a b c d : Int} : ∀ (f n : Nat) (s : Sr) (nx : List (List LEdge)), (runGo p a b f n s nx).2.2 = 0 → (runGo p c d f n s nx).2.2 = 0 → runGo p a b f n s nx = runGo p c d f n s nx
  | 0, n, s, nx, _, _ => rfl
  | f + 1, n, s, nx, h1, h2 => by
    rw [runGo] at h1 h2 ⊢
    rw [runGo]
    by_cases hn : n < s.1.length
    case neg => rw [if_neg hn, if_neg hn]
    rw [if_pos hn] at h1 h2
    rw [if_pos hn, if_pos hn]
    by_cases g1 : (edgesE p a b n s).2.2 = 0
    case neg => rw [if_pos g1] at h1; exact absurd h1 g1
    by_cases g2 : (edgesE p c d n s).2.2 = 0
    case neg => rw [if_pos g2] at h2; exact absurd h2 g2
    have e : edgesE p a b n s = edgesE p c d n s := edgesGo_same _ _ _ g1 g2
    rw [if_neg (by simp [g1])] at h1
    rw [if_neg (by simp [g2])] at h2
    rw [if_neg (by simp [g1]), if_neg (by simp [g2])]
    rw [e] at h1 ⊢
    exact runGo_same f _ _ _ h1 h2
theorem runB_same {p : LProc} {a b c d : Int} (h1 : (runB p a b).2.2 = 0) (h2 : (runB p c d).2.2 = 0) : runB p a b = runB p c d := by
  unfold runB at h1 h2 ⊢
  by_cases g1 : (putE a b ([], [], (0, 0)) (beginL p) (-1, -1)).2.2 = 0
  case neg => rw [if_pos g1] at h1; exact absurd h1 g1
  by_cases g2 : (putE c d ([], [], (0, 0)) (beginL p) (-1, -1)).2.2 = 0
  case neg => rw [if_pos g2] at h2; exact absurd h2 g2
  have e := putE_same g1 g2
  rw [if_neg (by simp [g1])] at h1
  rw [if_neg (by simp [g2])] at h2
  rw [if_neg (by simp [g1]), if_neg (by simp [g2])]
  rw [e] at h1 ⊢
  exact runGo_same _ _ _ _ h1 h2
theorem exploreE_ok {p : LProc} {a b : Int} (h : (exploreE p a b).2 = 0) : (stepsE p).2 = 0 ∧ 1 ≤ a ∧ 1 ≤ b ∧ b ≤ 200 ∧ (runB p a b).2.2 = 0 ∧ exploreE p a b = (((runB p a b).1.1, (runB p a b).2.1), 0) := by
  unfold exploreE at h ⊢
  by_cases g1 : runPre p a b = 0
  case neg => rw [if_pos g1] at h; exact absurd h g1
  rw [if_neg (by simp [g1])] at h ⊢
  by_cases g2 : (runB p a b).2.2 = 0
  case neg => rw [if_pos g2] at h; exact absurd h g2
  rw [if_neg (by simp [g2])]
  unfold runPre at g1
  by_cases g3 : (stepsE p).2 = 0
  case neg => rw [if_pos g3] at g1; exact absurd g1 g3
  rw [if_neg (by simp [g3])] at g1
  unfold runArg at g1
  split at g1
  · cases g1
  · rename_i g4
    exact ⟨g3, by omega, by omega, by omega, g2, rfl⟩
theorem exploreE_err {p : LProc} {a b : Int} (h : (exploreE p a b).2 ≠ 0) : (exploreE p a b).1 = ([], []) := by
  unfold exploreE at h ⊢
  split
  · rfl
  · split
    · rfl
    · rename_i h1 h2; rw [if_neg h1, if_neg h2] at h; exact absurd rfl h
theorem exploreE_same {p : LProc} {a b c d : Int} (h1 : (exploreE p a b).2 = 0) (h2 : (exploreE p c d).2 = 0) : exploreE p a b = exploreE p c d := by
  obtain ⟨_, _, _, _, r1, e1⟩ := exploreE_ok h1
  obtain ⟨_, _, _, _, r2, e2⟩ := exploreE_ok h2
  rw [e1, e2, runB_same r1 r2]

/- the straight process -/
theorem straight_sp : (exploreE straightP 1 2).2 = 8 ∧ exploreE straightP 9 200 = (([[1, 0], [0, 1], [0, 0]], [[(0, 1)], [(1, 2)], []]), 0) ∧ exploreE straightP 1 9 = (([[1, 0], [0, 1], [0, 0]], [[(0, 1)], [(1, 2)], []]), 0) := by
  have hz : (stepsE straightP).2 = 0 := by rw [straight_steps]
  have hl : stepsL straightP = [(1, 0, 1), (2, 1, 0)] := by decide
  have ok : ∀ a b : Int, 0 ≤ a → a ≤ 9 → 0 ≤ b → b ≤ 9 → chkM straightP [a, b] = 0 := fun a b a0 a9 b0 b9 => markOk_chk hz ⟨rfl, fun j => by
    rcases j with _ | _ | j
    · exact ⟨a0, a9⟩
    · exact ⟨b0, b9⟩
    · exact ⟨Int.le_refl _, (by decide : (0 : Int) ≤ 9)⟩⟩
  have hm0 := ok 1 0 (by decide) (by decide) (by decide) (by decide)
  have hm1 := ok 0 1 (by decide) (by decide) (by decide) (by decide)
  have hm2 := ok 0 0 (by decide) (by decide) (by decide) (by decide)
  have f0 : fireE straightP [1, 0] 0 = ([0, 1], 0) := straight_fire
  have f1 : fireE straightP [0, 1] 1 = ([0, 0], 0) := by
    unfold fireE
    rw [if_neg (by simp [hm1]), hl, if_neg (by decide), if_neg (by decide)]
    decide
  have c0 : canE straightP [1, 0] = [0] := by unfold canE; rw [if_pos hm0]; decide
  have c1 : canE straightP [0, 1] = [1] := by unfold canE; rw [if_pos hm1]; decide
  have c2 : canE straightP [0, 0] = [] := by unfold canE; rw [if_pos hm2]; decide
  have hb : beginL straightP = [1, 0] := by decide
  refine ⟨?_, ?_, ?_⟩
  · simp [exploreE, runPre, hz, runArg, runB, hb, putE, tooMany, runGo, edgesE, edgesGo, c0, c1, c2, f0, f1, posOf]
  · simp [exploreE, runPre, hz, runArg, runB, hb, putE, tooMany, runGo, edgesE, edgesGo, c0, c1, c2, f0, f1, posOf]
  · simp [exploreE, runPre, hz, runArg, runB, hb, putE, tooMany, runGo, edgesE, edgesGo, c0, c1, c2, f0, f1, posOf]

/- a search that ends -/
theorem posOf_mem {m : List Int} : ∀ {l : List (List Int)}, m ∈ l → posOf m l < l.length ∧ l.getD (posOf m l) [] = m
  | x :: r, h => by
    unfold posOf
    by_cases e : x = m
    · rw [if_pos e]; exact ⟨by simp, by simpa using e⟩
    · rw [if_neg e]
      rcases List.mem_cons.1 h with h | h
      · exact absurd h.symm e
      · obtain ⟨h1, h2⟩ := posOf_mem h
        exact ⟨by simp; omega, by simpa using h2⟩
/-- an edge of marking m that leads to where step k leads -/
def EdgeOk (p : LProc) (m : List Int) (l : List (List Int)) (e : LEdge) : Prop := (fireE p m e.1).2 = 0 ∧ 0 ≤ e.2 ∧ e.2 < l.length ∧ l.getD e.2.toNat [] = (fireE p m e.1).1
theorem EdgeOk.more {p : LProc} {m : List Int} {l t : List (List Int)} {e : LEdge} (h : EdgeOk p m l e) : EdgeOk p m (l ++ t) e := by
  obtain ⟨h1, h2, h3, h4⟩ := h
  refine ⟨h1, h2, by rw [List.length_append]; omega, ?_⟩
  rw [← h4, List.getD_eq_getElem?_getD, List.getD_eq_getElem?_getD, List.getElem?_append_left (by omega)]
structure SrOk (p : LProc) (tok st : Int) (l : List (List Int)) : Prop where
  nd : l.Nodup
  ok : ∀ m ∈ l, MarkOk p m
  le : ∀ m ∈ l, ∀ x ∈ m, x ≤ tok
  st : (l.length : Int) ≤ st
theorem putE_law {p : LProc} {tok st : Int} {s : Sr} {m : List Int} {fr : Int × Int} (h : SrOk p tok st s.1) (hm : MarkOk p m) (he : (putE tok st s m fr).2.2 = 0) :
    SrOk p tok st (putE tok st s m fr).1.1 ∧ (∃ t, (putE tok st s m fr).1.1 = s.1 ++ t ∧ ∀ i : Nat, s.1.length ≤ i → i < (s.1 ++ t).length → (putE tok st s m fr).2.1 = (i : Int)) ∧
      0 ≤ (putE tok st s m fr).2.1 ∧ (putE tok st s m fr).2.1 < (putE tok st s m fr).1.1.length ∧ (putE tok st s m fr).1.1.getD (putE tok st s m fr).2.1.toNat [] = m := by
  unfold putE at he ⊢
  by_cases g1 : tooMany tok m = true
  · rw [if_pos g1] at he; cases he
  rw [if_neg g1] at he ⊢
  by_cases g3 : m ∈ s.1
  · rw [if_pos g3]
    obtain ⟨h1, h2⟩ := posOf_mem g3
    exact ⟨h, ⟨[], by simp, fun i h1 h2 => by simp at h2; omega⟩, by dsimp only; omega, by dsimp only; omega, by simpa using h2⟩
  rw [if_neg g3] at he ⊢
  by_cases g4 : (s.1.length : Int) = st
  · rw [if_pos g4] at he; cases he
  rw [if_neg g4]
  have hst := h.st
  refine ⟨⟨?_, ?_, ?_, ?_⟩, ⟨[m], rfl, fun i h1 h2 => by simp at h2; dsimp only; omega⟩, by dsimp only; omega, by simp; omega, by simp⟩
  · rw [List.nodup_append]
    refine ⟨h.nd, List.pairwise_singleton _ _, ?_⟩
    intro a ha b hb e
    rw [List.mem_singleton] at hb
    subst hb; subst e
    exact g3 ha
  · intro x hx
    rcases List.mem_append.1 hx with hx | hx
    · exact h.ok x hx
    · rw [List.mem_singleton] at hx; subst hx; exact hm
  · intro x hx
    rcases List.mem_append.1 hx with hx | hx
    · exact h.le x hx
    · rw [List.mem_singleton] at hx; subst hx
      intro n hn
      unfold tooMany at g1
      rw [List.any_eq_true] at g1
      have : ¬ n > tok := fun hgt => g1 ⟨n, hn, by simpa using hgt⟩
      omega
  · simp; omega
theorem fireE_mark {p : LProc} {m : List Int} {k : Int} (h : (fireE p m k).2 = 0) : MarkOk p (fireE p m k).1 := by
  obtain ⟨h1, _, _, h3, h4⟩ := fireE_ok h
  exact fire_next (chk_markOk h1) h3 h4
theorem edgesGo_law {p : LProc} {tok st n : Int} {m : List Int} : ∀ (l : List Int) (s : Sr) (out : List LEdge), SrOk p tok st s.1 → (∀ e ∈ out, EdgeOk p m s.1 e) → (edgesGo p tok st n m l s out).2.2 = 0 →
    SrOk p tok st (edgesGo p tok st n m l s out).1.1 ∧ (edgesGo p tok st n m l s out).2.1.map Prod.fst = out.map Prod.fst ++ l ∧ (∀ e ∈ (edgesGo p tok st n m l s out).2.1, EdgeOk p m (edgesGo p tok st n m l s out).1.1 e) ∧
      (∃ u, (edgesGo p tok st n m l s out).2.1 = out ++ u) ∧ ∃ t, (edgesGo p tok st n m l s out).1.1 = s.1 ++ t ∧ ∀ i : Nat, s.1.length ≤ i → i < (s.1 ++ t).length → ∃ e ∈ (edgesGo p tok st n m l s out).2.1, e.2 = (i : Int)
  | [], s, out, hs, ho, he => ⟨hs, by simp [edgesGo], ho, ⟨[], by simp [edgesGo]⟩, [], by simp [edgesGo], fun i h1 h2 => by simp at h2; omega⟩
  | k :: r, s, out, hs, ho, he => by
    rw [edgesGo] at he ⊢
    by_cases g : (fireE p m k).2 = 0
    case neg => rw [if_pos g] at he; exact absurd he g
    rw [if_neg (by simp [g])] at he ⊢
    by_cases g1 : (putE tok st s (fireE p m k).1 (n, k)).2.2 = 0
    case neg => rw [if_pos g1] at he; exact absurd he g1
    rw [if_neg (by simp [g1])] at he ⊢
    obtain ⟨hs1, ⟨t, ht, hti⟩, hp0, hp1, hp2⟩ := putE_law hs (fireE_mark g) g1
    generalize putE tok st s (fireE p m k).1 (n, k) = q at *
    obtain ⟨q1, q2, q3⟩ := q
    dsimp only at *
    have ho' : ∀ e ∈ out ++ [(k, q2)], EdgeOk p m q1.1 e := by
      intro e h
      rcases List.mem_append.1 h with h | h
      · rw [ht]; exact (ho e h).more
      · rw [List.mem_singleton] at h; subst h
        exact ⟨g, hp0, hp1, hp2⟩
    obtain ⟨a1, a2, a3, ⟨u, a4⟩, t', a5, a6⟩ := edgesGo_law r q1 (out ++ [(k, q2)]) hs1 ho' he
    refine ⟨a1, by rw [a2]; simp, a3, ⟨(k, q2) :: u, by rw [a4]; simp⟩, t ++ t', by rw [a5, ht]; simp, fun i h1 h2 => ?_⟩
    by_cases hi : i < q1.1.length
    · refine ⟨(k, q2), by rw [a4]; simp, ?_⟩
      exact hti i h1 (by rw [← ht]; exact hi)
    · exact a6 i (by omega) (by rw [ht]; simpa using h2)
structure SpOk (p : LProc) (l : List (List Int)) (nx : List (List LEdge)) : Prop where
  le : nx.length ≤ l.length
  can : ∀ j, j < nx.length → (nx.getD j []).map Prod.fst = canE p (l.getD j [])
  ed : ∀ j, j < nx.length → ∀ e ∈ nx.getD j [], EdgeOk p (l.getD j []) l e
  fr : ∀ i : Nat, 1 ≤ i → i < l.length → ∃ j, j < i ∧ j < nx.length ∧ ∃ e ∈ nx.getD j [], e.2 = (i : Int)
theorem getDG_left {α : Type} {l t : List α} {j : Nat} {d : α} (h : j < l.length) : (l ++ t).getD j d = l.getD j d := by rw [List.getD_eq_getElem?_getD, List.getD_eq_getElem?_getD, List.getElem?_append_left h]
theorem getDG_last {α : Type} {l : List α} {x d : α} : (l ++ [x]).getD l.length d = x := by rw [List.getD_eq_getElem?_getD, List.getElem?_append_right (Nat.le_refl _)]; simp
theorem runGo_law {p : LProc} {tok st : Int} : ∀ (f n : Nat) (s : Sr) (nx : List (List LEdge)), f + n = 201 → st ≤ 200 → nx.length = n → SrOk p tok st s.1 → SpOk p s.1 nx → (runGo p tok st f n s nx).2.2 = 0 →
    SrOk p tok st (runGo p tok st f n s nx).1.1 ∧ SpOk p (runGo p tok st f n s nx).1.1 (runGo p tok st f n s nx).2.1 ∧ (runGo p tok st f n s nx).2.1.length = (runGo p tok st f n s nx).1.1.length ∧ ∃ t, (runGo p tok st f n s nx).1.1 = s.1 ++ t
  | 0, n, s, nx, hf, h200, hn, hs, hx, he => by have := hx.le; have := hs.st; omega
  | f + 1, n, s, nx, hf, h200, hn, hs, hx, he => by
    rw [runGo] at he ⊢
    by_cases hlt : n < s.1.length
    case neg =>
      rw [if_neg hlt] at he ⊢
      exact ⟨hs, hx, by have := hx.le; dsimp only; omega, [], by simp⟩
    rw [if_pos hlt] at he ⊢
    by_cases g1 : (edgesE p tok st n s).2.2 = 0
    case neg => rw [if_pos g1] at he; exact absurd he g1
    rw [if_neg (by simp [g1])] at he ⊢
    obtain ⟨a1, a2, a3, _, t, a5, a6⟩ := edgesGo_law (p := p) (tok := tok) (st := st) (n := (n : Int)) (m := s.1.getD n []) (canE p (s.1.getD n [])) s [] hs (fun e h => by cases h) g1
    change SrOk p tok st (edgesE p tok st n s).1.1 at a1
    change (edgesE p tok st n s).2.1.map Prod.fst = _ at a2
    change ∀ e ∈ (edgesE p tok st n s).2.1, EdgeOk p _ (edgesE p tok st n s).1.1 e at a3
    change (edgesE p tok st n s).1.1 = _ at a5
    change ∀ i : Nat, _ → _ → ∃ e ∈ (edgesE p tok st n s).2.1, _ at a6
    generalize edgesE p tok st n s = q at *
    obtain ⟨s', es, er⟩ := q
    dsimp only at *
    have hx' : SpOk p s'.1 (nx ++ [es]) := by
      have hle := hx.le
      refine ⟨by rw [a5]; simp; omega, fun j hj => ?_, fun j hj => ?_, fun i h1 h2 => ?_⟩
      · simp at hj
        by_cases e : j < nx.length
        · rw [getDG_left e, a5, getDG_left (by omega)]; exact hx.can j e
        · obtain rfl : j = nx.length := by omega
          rw [getDG_last, a2, a5, getDG_left (by omega), hn]; simp
      · simp at hj
        by_cases e : j < nx.length
        · rw [getDG_left e, a5, getDG_left (by omega)]; exact fun x h => (hx.ed j e x h).more
        · obtain rfl : j = nx.length := by omega
          rw [getDG_last, a5, getDG_left (by omega), hn, ← a5]; exact a3
      · by_cases e : i < s.1.length
        · obtain ⟨j, q1, q2, x, q3, q4⟩ := hx.fr i h1 e
          exact ⟨j, q1, by simp; omega, x, by rw [getDG_left q2]; exact q3, q4⟩
        · obtain ⟨x, q3, q4⟩ := a6 i (by omega) (by rw [← a5]; exact h2)
          exact ⟨nx.length, by omega, by simp, x, by rw [getDG_last]; exact q3, q4⟩
    obtain ⟨b1, b2, b3, t', b4⟩ := runGo_law f (n + 1) s' (nx ++ [es]) (by omega) h200 (by simp [hn]) a1 hx' he
    exact ⟨b1, b2, b3, t ++ t', by rw [b4, a5]; simp⟩
/-- what a space is -/
theorem explore_law {p : LProc} {tok st : Int} (h : (exploreE p tok st).2 = 0) :
    (stepsE p).2 = 0 ∧ SrOk p tok st (exploreE p tok st).1.1 ∧ SpOk p (exploreE p tok st).1.1 (exploreE p tok st).1.2 ∧ (exploreE p tok st).1.2.length = (exploreE p tok st).1.1.length ∧ 0 < (exploreE p tok st).1.1.length ∧ (exploreE p tok st).1.1.getD 0 [] = beginL p ∧ st ≤ 200 := by
  obtain ⟨hz, h1, h2, h3, hr, he⟩ := exploreE_ok h
  rw [he]
  dsimp only
  unfold runB at hr ⊢
  by_cases g1 : (putE tok st ([], [], (0, 0)) (beginL p) (-1, -1)).2.2 = 0
  case neg => rw [if_pos g1] at hr; exact absurd hr g1
  rw [if_neg (by simp [g1])] at hr ⊢
  have hs0 : SrOk p tok st ([] : List (List Int)) := ⟨List.Pairwise.nil, fun m h => (by cases h), fun m h => (by cases h), by simp; omega⟩
  obtain ⟨a1, ⟨t, a2, a2i⟩, a3, a4, a5⟩ := putE_law (s := ([], [], (0, 0))) hs0 (begin_ok (p := p)) g1
  have hd : (putE tok st ([], [], (0, 0)) (beginL p) (-1, -1)).1.1 = [beginL p] := by
    unfold putE at g1 ⊢
    by_cases q1 : tooMany tok (beginL p) = true
    · rw [if_pos q1] at g1; cases g1
    rw [if_neg q1, if_neg (by simp)] at g1 ⊢
    by_cases q2 : (([] : List (List Int)).length : Int) = st
    · rw [if_pos q2] at g1; cases g1
    rw [if_neg q2]; rfl
  generalize putE tok st ([], [], (0, 0)) (beginL p) (-1, -1) = q at *
  obtain ⟨b1, b2, b3, t', b4⟩ := runGo_law 201 0 q.1 [] rfl h3 rfl a1 ⟨by simp, fun j h => absurd h (by simp), fun j h => absurd h (by simp), fun i h1 h2 => by rw [hd] at h2; simp at h2; omega⟩ hr
  refine ⟨hz, b1, b2, b3, by rw [b4, hd]; simp, by rw [b4, hd]; simp, h3⟩
/-- a step of a walk is an edge -/
theorem space_step {p : LProc} {l : List (List Int)} {nx : List (List LEdge)} {at_ : Nat} {k : Int} {m m' : List Int} (hz : (stepsE p).2 = 0) (hx : SpOk p l nx) (ha : at_ < nx.length) (hm : l.getD at_ [] = m) (hok : MarkOk p m) (h : StepAt p m k m') :
    ∃ j, j < (nx.getD at_ []).length ∧ idxOf (fun e : LEdge => e.1 == k) (nx.getD at_ []) = (j : Int) ∧ 0 ≤ ((nx.getD at_ []).getD j (0, 0)).2 ∧ ((nx.getD at_ []).getD j (0, 0)).2 < l.length ∧ l.getD ((nx.getD at_ []).getD j (0, 0)).2.toNat [] = m' := by
  have hcm := markOk_chk hz hok
  have hc := hx.can at_ ha
  have he := hx.ed at_ ha
  rw [hm] at hc he
  generalize nx.getD at_ [] = es at *
  obtain ⟨h0, h1, h2, h3⟩ := h
  have hin : k ∈ canE p m := by
    unfold canE
    rw [if_pos hcm]
    have : k = ((k.toNat : Nat) : Int) := by omega
    rw [this]
    unfold canL canP
    rw [List.mem_map]
    exact ⟨k.toNat, List.mem_filter.2 ⟨List.mem_range.2 (by omega), h2⟩, rfl⟩
  rw [← hc, List.mem_map] at hin
  obtain ⟨e, hmem, hek⟩ := hin
  have hex : ∃ j, j < es.length ∧ idxOf (fun e : LEdge => e.1 == k) es = (j : Int) ∧ (es.getD j (0, 0)).1 = k := by
    unfold idxOf
    cases h : es.findIdx? (fun e : LEdge => e.1 == k) with
    | none =>
      have := List.findIdx?_eq_none_iff.1 h e hmem
      simp [hek] at this
    | some i =>
      obtain ⟨h1, h2, _⟩ := List.findIdx?_eq_some_iff_getElem.1 h
      refine ⟨i, h1, rfl, ?_⟩
      rw [List.getD_eq_getElem?_getD, List.getElem?_eq_getElem h1]
      simpa using h2
  obtain ⟨j, q1, q2, q3⟩ := hex
  have hmj : es.getD j (0, 0) ∈ es := by rw [List.getD_eq_getElem?_getD, List.getElem?_eq_getElem q1]; exact List.getElem_mem _
  obtain ⟨r1, r2, r3, r4⟩ := he _ hmj
  refine ⟨j, q1, q2, r2, r3, ?_⟩
  rw [r4, q3]
  unfold fireE
  rw [if_neg (by simp [hcm]), if_neg (by omega), if_neg (by rw [h2]; decide), h3]
  rfl
end Go.Proofs.Ytljcnopekjinjaa
/-
  The way to what was too much: plain laws.
-/
set_option linter.unusedVariables false
set_option linter.unusedSimpArgs false
namespace Go.Proofs.Ytljcnopekjinjaa

def backL (o : List (Int × Int)) : Nat → Int × Int → List Int
  | 0, _ => []
  | f + 1, a => if a.1 ≥ 0 then a.2 :: backL o f (o.getD a.1.toNat (0, 0)) else []
noncomputable def routeE (p : LProc) (tok st : Int) : List Int × Int :=
  if runPre p tok st ≠ 0 then ([], runPre p tok st)
  else if (runB p tok st).2.2 = 7 ∨ (runB p tok st).2.2 = 8 then ((backL (runB p tok st).1.2.1 201 (runB p tok st).1.2.2).reverse, (runB p tok st).2.2) else ([], (runB p tok st).2.2)
/-- whence the markings came -/
structure OrOk (p : LProc) (s : Sr) : Prop where
  len : s.2.1.length = s.1.length
  zero : 0 < s.1.length → s.2.1.getD 0 (0, 0) = (-1, -1) ∧ s.1.getD 0 [] = beginL p
  up : ∀ i : Nat, 1 ≤ i → i < s.1.length → ∃ (j : Nat) (k : Int), s.2.1.getD i (0, 0) = ((j : Int), k) ∧ j < i ∧ fireE p (s.1.getD j []) k = (s.1.getD i [], 0)
/-- what the last step that was tried came to -/
def LastOk (p : LProc) (tok : Int) (s : Sr) (e : Int) : Prop :=
  ∃ (n : Nat) (k : Int), s.2.2 = ((n : Int), k) ∧ n < s.1.length ∧
    ((e = 7 ∧ (fireE p (s.1.getD n []) k).2 = 7) ∨ (e = 7 ∧ (fireE p (s.1.getD n []) k).2 = 0 ∧ tooMany tok (fireE p (s.1.getD n []) k).1 = true) ∨ (e = 8 ∧ (fireE p (s.1.getD n []) k).2 = 0 ∧ (fireE p (s.1.getD n []) k).1 ∉ s.1))
theorem canE_fire {p : LProc} {m : List Int} {k : Int} (h : k ∈ canE p m) : (fireE p m k).2 = 0 ∨ (fireE p m k).2 = 7 := by
  unfold canE at h
  split at h
  · rename_i hc
    unfold canL canP at h
    rw [List.mem_map] at h
    obtain ⟨i, hi, rfl⟩ := h
    obtain ⟨h1, h2⟩ := List.mem_filter.1 hi
    have h1 := List.mem_range.1 h1
    unfold fireE
    rw [if_neg (by simp [hc]), if_neg (by omega), Int.toNat_natCast, if_neg (by rw [h2]; decide)]
    dsimp only
    split
    · exact .inl rfl
    · exact .inr rfl
  · cases h
theorem putE_last {tok st : Int} {s : Sr} {m : List Int} {fr : Int × Int} : (putE tok st s m fr).1.2.2 = fr := by
  unfold putE
  split
  · rfl
  · split
    · rfl
    · split <;> rfl
theorem putE_or {p : LProc} {tok st : Int} {s : Sr} {n : Nat} {k : Int} (h : OrOk p s) (hn : n < s.1.length) (hf : (fireE p (s.1.getD n []) k).2 = 0) :
    OrOk p (putE tok st s (fireE p (s.1.getD n []) k).1 ((n : Int), k)).1 := by
  unfold putE
  split
  · exact ⟨h.len, h.zero, h.up⟩
  · split
    · exact ⟨h.len, h.zero, h.up⟩
    · split
      · exact ⟨h.len, h.zero, h.up⟩
      · refine ⟨by simp [h.len], fun _ => ?_, fun i h1 h2 => ?_⟩
        · rw [getDG_left (by rw [h.len]; omega), getDG_left (by omega)]; exact h.zero (by omega)
        · dsimp only at h2 ⊢
          by_cases hi : i < s.1.length
          · obtain ⟨j, k', q1, q2, q3⟩ := h.up i h1 hi
            exact ⟨j, k', by rw [getDG_left (by rw [h.len]; exact hi)]; exact q1, q2, by rw [getDG_left (by omega), getDG_left hi]; exact q3⟩
          · obtain rfl : i = s.1.length := by simp at h2; omega
            refine ⟨n, k, ?_, hn, ?_⟩
            · rw [← h.len, getDG_last]
            · rw [getDG_left hn, getDG_last]
              exact Prod.ext rfl hf
theorem putE_err {tok st : Int} {s : Sr} {m : List Int} {fr : Int × Int} (h : (putE tok st s m fr).2.2 ≠ 0) :
    (putE tok st s m fr).1 = (s.1, s.2.1, fr) ∧ (((putE tok st s m fr).2.2 = 7 ∧ tooMany tok m = true) ∨ ((putE tok st s m fr).2.2 = 8 ∧ m ∉ s.1)) := by
  unfold putE at h ⊢
  by_cases g1 : tooMany tok m = true
  · rw [if_pos g1]; exact ⟨rfl, .inl ⟨rfl, g1⟩⟩
  rw [if_neg g1] at h ⊢
  by_cases g2 : m ∈ s.1
  · rw [if_pos g2] at h; exact absurd rfl h
  rw [if_neg g2] at h ⊢
  by_cases g3 : (s.1.length : Int) = st
  · rw [if_pos g3]; exact ⟨rfl, .inr ⟨rfl, g2⟩⟩
  · rw [if_neg g3] at h; exact absurd rfl h
theorem edgesGo_or {p : LProc} {tok st : Int} {n : Nat} {m : List Int} : ∀ (l : List Int) (s : Sr) (out : List LEdge), SrOk p tok st s.1 → OrOk p s → n < s.1.length → s.1.getD n [] = m → (∀ k ∈ l, (fireE p m k).2 = 0 ∨ (fireE p m k).2 = 7) →
    SrOk p tok st (edgesGo p tok st n m l s out).1.1 ∧ OrOk p (edgesGo p tok st n m l s out).1 ∧ ((edgesGo p tok st n m l s out).2.2 ≠ 0 → LastOk p tok (edgesGo p tok st n m l s out).1 (edgesGo p tok st n m l s out).2.2)
  | [], s, out, hs, ho, _, _, _ => ⟨hs, ho, fun h => absurd rfl h⟩
  | k :: r, s, out, hs, ho, hn, hm, hk => by
    rw [edgesGo]
    by_cases g : (fireE p m k).2 = 0
    case neg =>
      rw [if_pos g]
      have h7 : (fireE p m k).2 = 7 := (hk k (by simp)).resolve_left g
      exact ⟨hs, ⟨ho.len, ho.zero, ho.up⟩, fun _ => ⟨n, k, rfl, hn, .inl ⟨h7, by dsimp only; rw [hm]; exact h7⟩⟩⟩
    have hg : ¬ (fireE p m k).2 ≠ 0 := by simp [g]
    rw [if_neg hg]
    by_cases g1 : (putE tok st s (fireE p m k).1 (n, k)).2.2 = 0
    case neg =>
      rw [if_pos g1]
      obtain ⟨e1, e2⟩ := putE_err g1
      dsimp only
      refine ⟨by rw [e1]; exact hs, by rw [e1]; exact ⟨ho.len, ho.zero, ho.up⟩, fun _ => ⟨n, k, by rw [e1], by rw [e1]; exact hn, ?_⟩⟩
      rw [e1]
      dsimp only
      rw [hm]
      rcases e2 with ⟨a, b⟩ | ⟨a, b⟩
      · exact .inr (.inl ⟨a, g, b⟩)
      · exact .inr (.inr ⟨a, g, b⟩)
    have hg1 : ¬ (putE tok st s (fireE p m k).1 (n, k)).2.2 ≠ 0 := by simp [g1]
    rw [if_neg hg1]
    obtain ⟨hs1, ⟨t, ht, _⟩, _⟩ := putE_law hs (fireE_mark g) g1
    have ho1 : OrOk p (putE tok st s (fireE p m k).1 (n, k)).1 := by
      have := putE_or (tok := tok) (st := st) (k := k) ho hn (by rw [hm]; exact g)
      rwa [hm] at this
    exact edgesGo_or r _ _ hs1 ho1 (by rw [ht, List.length_append]; omega) (by rw [ht, getDG_left hn]; exact hm) (fun k h => hk k (by simp [h]))
theorem runGo_or {p : LProc} {tok st : Int} : ∀ (f n : Nat) (s : Sr) (nx : List (List LEdge)), SrOk p tok st s.1 → OrOk p s →
    SrOk p tok st (runGo p tok st f n s nx).1.1 ∧ OrOk p (runGo p tok st f n s nx).1 ∧ ((runGo p tok st f n s nx).2.2 ≠ 0 → LastOk p tok (runGo p tok st f n s nx).1 (runGo p tok st f n s nx).2.2)
  | 0, n, s, nx, hs, ho => ⟨hs, ho, fun h => absurd rfl h⟩
  | f + 1, n, s, nx, hs, ho => by
    rw [runGo]
    by_cases hlt : n < s.1.length
    case neg => rw [if_neg hlt]; exact ⟨hs, ho, fun h => absurd rfl h⟩
    rw [if_pos hlt]
    have hE := edgesGo_or (tok := tok) (st := st) (canE p (s.1.getD n [])) s [] hs ho hlt rfl (fun k h => canE_fire h)
    change SrOk p tok st (edgesE p tok st n s).1.1 ∧ OrOk p (edgesE p tok st n s).1 ∧ ((edgesE p tok st n s).2.2 ≠ 0 → LastOk p tok (edgesE p tok st n s).1 (edgesE p tok st n s).2.2) at hE
    by_cases g1 : (edgesE p tok st n s).2.2 = 0
    case neg => rw [if_pos g1]; exact hE
    have hg1 : ¬ (edgesE p tok st n s).2.2 ≠ 0 := by simp [g1]
    rw [if_neg hg1]
    exact runGo_or f _ _ _ hE.1 hE.2.1
theorem begin_put {p : LProc} {tok st : Int} (h1 : 1 ≤ tok) (h2 : 1 ≤ st) : putE tok st ([], [], (0, 0)) (beginL p) (-1, -1) = (([beginL p], [(-1, -1)], (-1, -1)), 0, 0) := by
  unfold putE
  have : ¬ tooMany tok (beginL p) = true := by
    unfold tooMany
    rw [List.any_eq_true]
    rintro ⟨x, hx, hgt⟩
    unfold beginL at hx
    rw [List.mem_map] at hx
    obtain ⟨f, _, rfl⟩ := hx
    simp at hgt
    split at hgt <;> omega
  rw [if_neg this, if_neg (by simp), if_neg (by simp; omega)]
  rfl
theorem runPre_ok {p : LProc} {tok st : Int} (h : runPre p tok st = 0) : (stepsE p).2 = 0 ∧ 1 ≤ tok ∧ 1 ≤ st ∧ st ≤ 200 := by
  unfold runPre at h
  by_cases g3 : (stepsE p).2 = 0
  case neg => rw [if_pos g3] at h; exact absurd h g3
  rw [if_neg (by simp [g3])] at h
  unfold runArg at h
  split at h
  · cases h
  · exact ⟨g3, by omega, by omega, by omega⟩
theorem runB_or {p : LProc} {tok st : Int} (h : runPre p tok st = 0) :
    SrOk p tok st (runB p tok st).1.1 ∧ OrOk p (runB p tok st).1 ∧ ((runB p tok st).2.2 ≠ 0 → LastOk p tok (runB p tok st).1 (runB p tok st).2.2) := by
  obtain ⟨hz, h1, h2, h3⟩ := runPre_ok h
  unfold runB
  rw [begin_put h1 h2]
  rw [if_neg (by simp)]
  refine runGo_or 201 0 _ [] ⟨by simp, fun m hm => ?_, fun m hm x hx => ?_, by simp; omega⟩ ⟨rfl, fun _ => ⟨rfl, rfl⟩, fun i h1 h2 => ?_⟩
  · rw [List.mem_singleton] at hm; subst hm; exact begin_ok
  · rw [List.mem_singleton] at hm; subst hm
    unfold beginL at hx
    rw [List.mem_map] at hx
    obtain ⟨f, _, rfl⟩ := hx
    split <;> omega
  · simp at h2; omega
/-- the steps that lead to marking i -/
theorem path_to {p : LProc} {s : Sr} (ho : OrOk p s) : ∀ (i : Nat), i < s.1.length → ∀ f, i < f → ∃ l ms, backL s.2.1 f (s.2.1.getD i (0, 0)) = l.reverse ∧ l.length ≤ i ∧ ms.length = l.length ∧ (∀ x ∈ beginL p :: ms, x ∈ s.1) ∧
    ∀ r, playGo p (l ++ r) (beginL p) = (ms ++ (playGo p r (s.1.getD i [])).1, l.length + (playGo p r (s.1.getD i [])).2.1, (playGo p r (s.1.getD i [])).2.2) := by
  intro i
  induction i using Nat.strongRecOn with
  | ind i ih =>
    intro hi f hf
    obtain ⟨f, rfl⟩ : ∃ g, f = g + 1 := ⟨f - 1, by omega⟩
    by_cases h0 : i = 0
    · subst h0
      obtain ⟨z1, z2⟩ := ho.zero hi
      refine ⟨[], [], by rw [z1]; rfl, Nat.le_refl _, rfl, fun x hx => ?_, fun r => by rw [z2]; simp⟩
      rw [List.mem_singleton] at hx
      rw [hx, ← z2, List.getD_eq_getElem?_getD, List.getElem?_eq_getElem hi]
      exact List.getElem_mem _
    · obtain ⟨j, k, q1, q2, q3⟩ := ho.up i (by omega) hi
      obtain ⟨l, ms, a1, a2, a3, a4, a5⟩ := ih j q2 (by omega) f (by omega)
      refine ⟨l ++ [k], ms ++ [s.1.getD i []], ?_, by simp; omega, by simp [a3], fun x hx => ?_, fun r => ?_⟩
      · rw [q1, backL]
        dsimp only
        rw [if_pos (by omega), Int.toNat_natCast, a1]; simp
      · rw [← List.cons_append, List.mem_append] at hx
        rcases hx with hx | hx
        · exact a4 x hx
        · rw [List.mem_singleton] at hx
          rw [hx, List.getD_eq_getElem?_getD, List.getElem?_eq_getElem hi]
          exact List.getElem_mem _
      · rw [List.append_assoc, List.singleton_append, a5, playGo, q3, if_neg (by simp)]
        simp
        omega
theorem route_law {p : LProc} {tok st : Int} (h : runPre p tok st = 0) (he : (runB p tok st).2.2 ≠ 0) :
    ∃ ms, ((runB p tok st).2.2 = 7 ∨ (runB p tok st).2.2 = 8) ∧ 0 < (routeE p tok st).1.length ∧ (routeE p tok st).1.length ≤ 500 ∧
      (((runB p tok st).2.2 = 7 ∧ playE p (routeE p tok st).1 = (beginL p :: ms, (routeE p tok st).1.length - 1, 7)) ∨
       ∃ m, playE p (routeE p tok st).1 = (beginL p :: ms ++ [m], (routeE p tok st).1.length, 0) ∧ (((runB p tok st).2.2 = 7 ∧ tooMany tok m = true) ∨ ((runB p tok st).2.2 = 8 ∧ ((routeE p tok st).1.length : Int) ≤ st ∧ m ∉ beginL p :: ms))) := by
  obtain ⟨hz, h1, h2, h3⟩ := runPre_ok h
  obtain ⟨hs, ho, hl⟩ := runB_or h
  obtain ⟨n, k, e1, hn, hc⟩ := hl he
  have hst := hs.st
  have h78 : (runB p tok st).2.2 = 7 ∨ (runB p tok st).2.2 = 8 := by rcases hc with ⟨a, _⟩ | ⟨a, _⟩ | ⟨a, _⟩ <;> simp [a]
  have hr : (routeE p tok st).1 = (backL (runB p tok st).1.2.1 201 (runB p tok st).1.2.2).reverse := by
    unfold routeE
    rw [if_neg (by simp [h]), if_pos h78]
  obtain ⟨l, ms, a1, a2, a3, a4, a5⟩ := path_to ho n hn 200 (by omega)
  rw [e1, backL] at hr
  dsimp only at hr
  rw [if_pos (by omega), Int.toNat_natCast, a1] at hr
  simp only [List.reverse_cons, List.reverse_reverse] at hr
  rw [hr]
  have hlen : (l ++ [k]).length = l.length + 1 := by simp
  refine ⟨ms, h78, by omega, by omega, ?_⟩
  have hplay : playE p (l ++ [k]) = (beginL p :: (playGo p (l ++ [k]) (beginL p)).1, (playGo p (l ++ [k]) (beginL p)).2.1, (playGo p (l ++ [k]) (beginL p)).2.2) := by
    unfold playE
    rw [if_neg (by simp [hz]), if_neg (by omega)]
  rw [hplay, a5 [k], hlen]
  rcases hc with ⟨x1, x2⟩ | ⟨x1, x2, x3⟩ | ⟨x1, x2, x3⟩
  · refine .inl ⟨x1, ?_⟩
    rw [playGo, if_pos (by rw [x2]; decide), x2]; simp
  · refine .inr ⟨_, ?_, .inl ⟨x1, x3⟩⟩
    rw [playGo, if_neg (by rw [x2]; decide)]; simp [playGo]
  · refine .inr ⟨_, ?_, .inr ⟨x1, by omega, fun hm => x3 (a4 _ hm)⟩⟩
    rw [playGo, if_neg (by rw [x2]; decide)]; simp [playGo]
end Go.Proofs.Ytljcnopekjinjaa
/-
  slices.Reverse at []int: the kit's proof, over our own rows.
-/
set_option linter.unusedVariables false
set_option linter.unusedSimpArgs false
namespace Go.Proofs.Ytljcnopekjinjaa
open Go.RowKit Go.Shelf

def revRen : Ren := ⟨fun _ => 48, fun x => if Nat.beq x 3 = true then 3 else if Nat.beq x 4 = true then 4 else if Nat.beq x 28 = true then 26 else 0, fun x => x⟩
set_option maxRecDepth 100000 in
theorem revLays : Lays.n112 Try.prog revRen where
  mixed := by kernel_rfl
  f112 := (Try.func48).trans (by kernel_rfl)
  t0 := by kernel_rfl
  a0 := fun w => rfl
  z0 := fun w => rfl
  v0 := fun w => rfl
  t3 := Try.underlying3
  a3 := Try.isAgg3
  z3 := Try.sizeOf3
  v3 := Try.zeroValue3
  t4 := Try.underlying4
  a4 := Try.isAgg4
  z4 := Try.sizeOf4
  v4 := Try.zeroValue4
  t28 := Try.underlying26
  a28 := Try.isAgg26
  z28 := Try.sizeOf26
  v28 := Try.zeroValue26
theorem elems_get {w : World} {F : Nat → Prop} {cells : List Value} {xs : List Int} (h : Elems w F cells xs) : cells = xs.map fun x => Value.int .i64 x := by
  refine List.ext_getElem (by rw [List.length_map, h.1]; show _ * 1 = _; omega) fun i h1 h2 => ?_
  rw [List.length_map] at h2
  have h3 := h.2 i h2
  have hz : sz Int = 1 := rfl
  rw [hz, Nat.mul_one] at h3
  have h4 := rd_int h3
  have h5 := congrArg (fun l : List Value => l[0]?) h4
  simp only [List.getElem?_take_of_lt (show 0 < 1 by omega), List.getElem?_drop, Nat.add_zero, List.getElem?_eq_getElem h1] at h5
  simpa using h5
theorem elems_ints (w : World) (F : Nat → Prop) : ∀ xs : List Int, Elems w F (xs.map fun x => Value.int .i64 x) xs
  | [] => Elems.nil
  | x :: r => by
    have := (Elems.one (rd_mkInt w F x)).append (elems_ints w F r)
    simpa using this
theorem reverse_int (w : World) {B : Nat} {v : Value} {xs : List Int} (ho : Own w B 3 Non v xs) :
    Rt Try.prog 48 [v].toArray w fun u w' => u = .tuple #[] ∧ Own w' B 3 Non v xs.reverse ∧ w.grownBy w' v.ownBlock := by
  have hgr : w.grownBy w v.ownBlock := ⟨rfl, rfl, rfl, Nat.le_refl _, fun _ _ _ => rfl⟩
  rcases ho with ⟨rfl, rfl⟩ | ⟨g, off, cap, cur, rfl, ho⟩
  · refine Calls.mono (Any.slices_Reverse_int_empty revLays none 0 w) ?_
    rintro e w' ⟨rfl, rfl⟩
    exact ⟨_, rfl, rfl, Own.nil, hgr⟩
  · have hz : sz Int = 1 := rfl
    have hfit := ho.fit
    have hle := ho.le
    have hmx := ho.mx
    have hel := elems_get ho.el
    rw [hz, Nat.mul_one] at hfit hel
    have hcell : ∀ j (hj : j < xs.length), cur[off + j]? = some (Value.int .i64 xs[j]) := fun j hj => by
      have h1 : ((cur.toList.drop off).take xs.length)[j]? = (xs.map fun x => Value.int .i64 x)[j]? := by rw [hel]
      rw [List.getElem?_take_of_lt hj, List.getElem?_drop, List.getElem?_map, List.getElem?_eq_getElem hj] at h1
      simpa using h1
    have hH : Sort.Holds (Value.int .i64) w g off xs.toArray := fun j hj => by
      have hj' : j < xs.length := by simpa using hj
      constructor
      · have : xs.toArray[j]! = xs[j] := by simp [hj']
        rw [this]
        simp [World.cell?, ho.blk, hcell j hj']
      · simp [World.frozen?, ho.blk]
    refine Calls.mono (Any.slices_Reverse_int revLays g off cap xs w hH (by unfold maxLen at hmx; omega)) ?_
    rintro e w' ⟨rfl, n, rfl⟩
    have hheap : (Sort.putRow (Value.int .i64) (Sort.ahead w n) g off xs.reverse.toArray).heap[g]? = some (.cells (Sort.putCells (Value.int .i64) off xs.reverse.toArray cur) 3 (0, 0)) := by
      show (w.heap.modify g _)[g]? = _
      rw [Array.getElem?_modify, if_pos rfl, ho.blk]; rfl
    have hother : ∀ k, k ≠ g → (Sort.putRow (Value.int .i64) (Sort.ahead w n) g off xs.reverse.toArray).heap[k]? = w.heap[k]? := fun k hk => by
      show (w.heap.modify g _)[k]? = _
      rw [Array.getElem?_modify, if_neg (fun e => hk e.symm)]
    have hsize : (Sort.putRow (Value.int .i64) (Sort.ahead w n) g off xs.reverse.toArray).heap.size = w.heap.size := by
      show (w.heap.modify g _).size = _
      rw [Array.size_modify]
    have hos : (Sort.putRow (Value.int .i64) (Sort.ahead w n) g off xs.reverse.toArray).os = w.os := rfl
    have htp : (Sort.putRow (Value.int .i64) (Sort.ahead w n) g off xs.reverse.toArray).tape = w.tape := rfl
    have hou : (Sort.putRow (Value.int .i64) (Sort.ahead w n) g off xs.reverse.toArray).output = w.output := rfl
    generalize Sort.putRow (Value.int .i64) (Sort.ahead w n) g off xs.reverse.toArray = w' at *
    have hps : (Sort.putCells (Value.int .i64) off xs.reverse.toArray cur).size = cur.size := by simp [Sort.putCells]
    refine ⟨_, rfl, rfl, .inr ⟨g, off, cap, _, by rw [List.length_reverse], ⟨hheap, ho.ge, ho.nF, by simpa using hle, hmx, by rw [hps, hz]; omega, ?_⟩⟩, ⟨hos, htp, hou, by omega, fun k _ hk => hother k (fun e => hk (by rw [e]; rfl))⟩⟩
    have e1 : (((Sort.putCells (Value.int .i64) off xs.reverse.toArray cur).toList.drop off).take (xs.reverse.length * sz Int)) = xs.reverse.map fun x => Value.int .i64 x := by
      rw [hz, Nat.mul_one]
      refine List.ext_getElem? fun j => ?_
      by_cases hj : j < xs.length
      · rw [List.getElem?_take_of_lt (by simpa using hj), List.getElem?_drop, Array.getElem?_toList, Sort.putCells, Array.getElem?_mapIdx, hcell j hj, List.getElem?_map, List.getElem?_eq_getElem (by simpa using hj)]
        simp [hj, show off + j < off + xs.length by omega]
      · rw [List.getElem?_eq_none (by simp; try omega), List.getElem?_eq_none (by simp; try omega)]
    rw [e1]
    exact elems_ints _ _ _
end Go.Proofs.Ytljcnopekjinjaa
/-
  Maps from a key to its number, made by the call: the keys as a list, in the order in which they came. Over any program.
-/
set_option linter.unusedVariables false
set_option linter.unusedSimpArgs false
namespace Go.Proofs.Ytljcnopekjinjaa
open Go.RowKit

/-- a map type, its key's type and its element's type -/
class IsM (P : Program) (t : TypeId) (k e : outParam TypeId) : Prop where
  ok : P.underlying t = some (.map k e)
/-- keys of which the model's order is whole -/
class IsKy (P : Program) (k : TypeId) : Prop where
  ok : WideMaps.KeyLaw P k
theorem IsKy.of {P : Program} {k : TypeId} {d : TypeDesc} (hl : laidOutB P = true) {m : Nat} (hm : Nat.ble (m + 1) 10000 = true) (hrow : Nat.ble (k + 1) P.types.size = true) (hk : P.keyTypeAt m k = true) (hu : P.underlying k = some d) (hd : aggD d = true) : IsKy P k :=
  ⟨deep_law_laid hl (Nat.le_of_ble_eq_true hm) (Nat.lt_of_succ_le (Nat.le_of_ble_eq_true hrow)) hk (by
    rw [hu]; cases d <;> first | rfl | (cases hd))⟩
/-- a type whose zero value is the number 0 -/
class IsZ0 (P : Program) (e : TypeId) : Prop where
  ok : (P.info? e).map (fun i => i.zero) = some (some (.int .i64 0))
/-- v is a key of type k -/
def KeyV (P : Program) (k : TypeId) (v : Value) : Prop := ∃ l, keyOf P k v = some l
/-- block b is a map that holds the keys ks, each with its number -/
def NumM (P : Program) (k : TypeId) (w : World) (b : Nat) (ks : List Value) : Prop :=
  ∃ (es : Array MapEntry) (clock : Nat), w.heap[b]? = some (.map es clock) ∧ es.toList.map (·.key) = ks ∧ (∀ (i : Nat) (e : MapEntry), es.toList[i]? = some e → e.val = .int .i64 (i : Int)) ∧ (∀ x ∈ ks, KeyV P k x) ∧ ks.Nodup
section
variable {P : Program} {k : TypeId} {w w' : World} {b : Nat} {ks : List Value}
theorem NumM.lt (h : NumM P k w b ks) : b < w.heap.size := by
  obtain ⟨es, clock, hb, _⟩ := h
  exact (Array.getElem?_eq_some_iff.1 hb).1
theorem NumM.at (h : NumM P k w b ks) (hb : w'.heap[b]? = w.heap[b]?) : NumM P k w' b ks := by
  obtain ⟨es, clock, h1, h2⟩ := h
  exact ⟨es, clock, hb.trans h1, h2⟩
theorem NumM.ext (h : NumM P k w b ks) (hE : Ext w w') : NumM P k w' b ks := h.at (hE.block b h.lt)
theorem NumM.kept {row : Option Nat} (h : NumM P k w b ks) (hg : w.grownBy w' row) (hne : some b ≠ row) : NumM P k w' b ks := h.at (hg.block b h.lt hne)
theorem NumM.made (w : World) : NumM P k (w.alloc (.map #[] 0)) w.heap.size [] :=
  ⟨#[], 0, heap_alloc_new w _, rfl, fun i e h => by simp at h, fun x h => by simp at h, List.Pairwise.nil⟩
theorem run_num {t e : TypeId} {x : Value} [ht : IsM P t k e] [hk : IsKy P k] [hz : IsZ0 P e] (h : NumM P k w b ks) (hx : KeyV P k x) :
    (x ∉ ks ∧ (Instr.lookup t (.map (some b)) x true).run P w = .ok (.tuple #[.int .i64 0, .bool false]) w) ∨
    ∃ (j : Nat) (hj : j < ks.length), ks[j] = x ∧ (Instr.lookup t (.map (some b)) x true).run P w = .ok (.tuple #[.int .i64 (j : Int), .bool true]) w := by
  obtain ⟨es, clock, hb, hes, hv, hks, hnd⟩ := h
  obtain ⟨l, hx⟩ := hx
  obtain ⟨i, h1, h2⟩ := Option.map_eq_some_iff.1 hz.ok
  have hzr : (zeroValue e).run P w = .ok (.int .i64 0) w := by simp [zeroValue, typeInfo, h1, h2]
  have hkeys : ∀ e ∈ es.toList, ∃ l, keyOf P k e.key = some l := fun e he => hks _ (hes ▸ List.mem_map.2 ⟨e, he, rfl⟩)
  rcases hk.ok.find w hx es.toList hkeys with ⟨g1, g2⟩ | ⟨j, e0, g1, g2, g3⟩
  · refine .inl ⟨fun hm => ?_, by simp [Instr.lookup, run_underlying ht.ok, MapKept.run_getObj_map hb, hk.ok.check w _ hx, g1, hzr, Result.andThen]⟩
    rw [← hes] at hm
    obtain ⟨e, he, hke⟩ := List.mem_map.1 hm
    exact g2 e he hke
  · have hj : j < ks.length := by rw [← hes, List.length_map]; exact (List.getElem?_eq_some_iff.1 g2).1
    refine .inr ⟨j, hj, ?_, ?_⟩
    · subst hes
      rw [List.getElem_map, ← g3]
      congr 1
      exact (List.getElem?_eq_some_iff.1 g2).2
    · have hval := hv j e0 g2
      simp [Instr.lookup, run_underlying ht.ok, MapKept.run_getObj_map hb, hk.ok.check w _ hx, g1, Result.andThen, hval]
theorem run_numPut {t e : TypeId} {x : Value} [ht : IsM P t k e] [hk : IsKy P k] (h : NumM P k w b ks) (hx : KeyV P k x) (hn : x ∉ ks) :
    ∃ w', (Instr.mapUpdate t (.map (some b)) x (.int .i64 (ks.length : Int))).run P w = .ok () w' ∧ NumM P k w' b (ks ++ [x]) ∧ w.grownBy w' (some b) := by
  obtain ⟨es, clock, hb, hes, hv, hks, hnd⟩ := h
  obtain ⟨l, hx'⟩ := hx
  have hkeys : ∀ e ∈ es.toList, ∃ l, keyOf P k e.key = some l := fun e he => hks _ (hes ▸ List.mem_map.2 ⟨e, he, rfl⟩)
  have hsz : es.toList.length = ks.length := by rw [← hes, List.length_map]
  have hlt := (Array.getElem?_eq_some_iff.1 hb).1
  rcases hk.ok.find w hx' es.toList hkeys with ⟨g1, g2⟩ | ⟨j, e0, g1, g2, g3⟩
  · refine ⟨_, by simp [Instr.mapUpdate, run_underlying ht.ok, MapKept.run_getObj_map hb, hk.ok.check w false hx', g1, MapKept.run_setObj_map _ hb, Result.andThen]; rfl, ?_, ?_⟩
    · refine ⟨es.push ⟨x, .int .i64 (ks.length : Int), clock⟩, clock + 1, by simp [hlt], by simp [hes], fun i e he => ?_, fun y hy => ?_, ?_⟩
      · rw [Array.toList_push] at he
        rcases Nat.lt_or_ge i es.toList.length with hi | hi
        · rw [List.getElem?_append_left hi] at he
          exact hv i e he
        · rw [List.getElem?_append_right hi] at he
          have h0 : i - es.toList.length = 0 := by
            have := (List.getElem?_eq_some_iff.1 he).1
            simp at this; omega
          rw [h0] at he
          simp at he
          subst he
          show Value.int .i64 (ks.length : Int) = _
          congr 1; omega
      · rcases List.mem_append.1 hy with hy | hy
        · exact hks y hy
        · rw [List.mem_singleton] at hy; subst hy; exact ⟨l, hx'⟩
      · rw [List.nodup_append]
        refine ⟨hnd, by simp, fun a ha c hc e => ?_⟩
        rw [List.mem_singleton] at hc
        subst hc; subst e; exact hn ha
    · exact ⟨rfl, rfl, rfl, by simp, fun i _ hi => by
        simp only [Array.getElem?_setIfInBounds]
        rw [if_neg (fun e => hi (by rw [e]))]⟩
  · exact absurd (hes ▸ List.mem_map.2 ⟨e0, List.mem_of_getElem? g2, g3⟩) hn
end

section
variable {P : Program} {Q : Exit → Act → World → Prop} {n : Nat} {σ : Sg} {w : World} {L rest : List Oper} {d : Nat} {ty : TypeId} {pos : String} {af : Array Edge} {g : Option (Nat × Bool)} {t k e : TypeId} {b : Nat} {ks : List Value} {x y z : Operand} {v : Value}
/-- v, ok := m[x] -/
theorem WL.num (hg : gd L σ ⟨some d, .lookup t x y true, ty, pos, af, g⟩ = some true) (hd : Nat.ble (d + 1) n = true) (hx : ev σ x = some (.map (some b))) (hy : ev σ y = some v) [ht : IsM P t k e] [hk : IsKy P k] [hz : IsZ0 P e]
    (h : NumM P k w b ks) (hv : KeyV P k v)
    (h1 : v ∉ ks → WL P L Q rest n ((d, .tuple ⟨[.int .i64 0, .bool false]⟩) :: σ) w)
    (h2 : ∀ (j : Nat) (hj : j < ks.length), ks[j] = v → WL P L Q rest n ((d, .tuple ⟨[.int .i64 (j : Int), .bool true]⟩) :: σ) w) :
    WL P L Q (⟨some d, .lookup t x y true, ty, pos, af, g⟩ :: rest) n σ w := by
  rcases run_num (t := t) h hv with ⟨g1, g2⟩ | ⟨j, hj, g1, g2⟩
  · refine WL.run hg hd (fun a ha => ?_) (h1 g1)
    simp [execOp, ha.ev hx, ha.ev hy, g2]
  · refine WL.run hg hd (fun a ha => ?_) (h2 j hj g1)
    simp [execOp, ha.ev hx, ha.ev hy, g2]
/-- m[x] = len(m), at a new key -/
theorem WL.numPut (hg : gd L σ ⟨none, .mapUpdate t x y z, ty, pos, af, g⟩ = some true) (hx : ev σ x = some (.map (some b))) (hy : ev σ y = some v) (hzv : ev σ z = some (.int .i64 (ks.length : Int))) [ht : IsM P t k e] [hk : IsKy P k]
    (h : NumM P k w b ks) (hv : KeyV P k v) (hn : v ∉ ks)
    (hr : ∀ w', NumM P k w' b (ks ++ [v]) → w.grownBy w' (some b) → WL P L Q rest n σ w') :
    WL P L Q (⟨none, .mapUpdate t x y z, ty, pos, af, g⟩ :: rest) n σ w := by
  obtain ⟨w', g1, g2, g3⟩ := run_numPut (t := t) h hv hn
  refine WL.runU hg (fun a ha => ?_) (hr w' g2 g3)
  simp [execOp, ha.ev hx, ha.ev hy, ha.ev hzv, g1]
/-- make(map[K]int) -/
theorem WL.mkMap (hg : gd L σ ⟨some d, .makeMap t none, ty, pos, af, g⟩ = some true) (hd : Nat.ble (d + 1) n = true)
    (h : NumM P k (w.alloc (.map #[] 0)) w.heap.size [] → WL P L Q rest n ((d, .map (some w.heap.size)) :: σ) (w.alloc (.map #[] 0))) :
    WL P L Q (⟨some d, .makeMap t none, ty, pos, af, g⟩ :: rest) n σ w := by
  refine WL.run hg hd (fun a ha => ?_) (h (NumM.made w))
  simp [execOp, Instr.makeMap]
end
/-- a key that is a pair of numbers -/
theorem KeyV.pair {P : Program} {k fa fb : TypeId} {x y : Int} (h : (P.keyType k && Value.formed P k (.agg #[.int .i64 0, .int .i64 0])) = true)
    (hk : ∀ a b : Int, P.keyLits (P.types.size + 1) k [.int .i64 a, .int .i64 b] = (if (Lit.int .i64 a).wf = true ∧ (Lit.int .i64 b).wf = true then some [.int .i64 a, .int .i64 b] else none))
    (hd : ∃ d, P.underlying k = some (.struct d)) (hx : (Lit.int .i64 x).wf = true) (hy : (Lit.int .i64 y).wf = true) : KeyV P k (.agg ⟨[.int .i64 x, .int .i64 y]⟩) := by
  obtain ⟨d, hd⟩ := hd
  refine ⟨.string (keyBytes [.int .i64 x, .int .i64 y]), ?_⟩
  unfold keyOf
  rw [hd]
  dsimp only
  have hf : Value.formed P k (.agg ⟨[.int .i64 x, .int .i64 y]⟩) = Value.formed P k (.agg #[.int .i64 0, .int .i64 0]) := by
    unfold Value.formed
    rw [hd]; rfl
  rw [hf, if_pos h]
  show Option.map _ (P.keyLits (P.types.size + 1) k [.int .i64 x, .int .i64 y]) = _
  rw [hk, if_pos ⟨hx, hy⟩]
  rfl
end Go.Proofs.Ytljcnopekjinjaa
/-
  Arrays in a variable: an element's address, a store at a reckoned place, the whole read; keys that are arrays or pairs of numbers. Over any program.
-/
set_option linter.unusedVariables false
set_option linter.unusedSimpArgs false
namespace Go.Proofs.Ytljcnopekjinjaa
open Go.RowKit

class IsA (P : Program) (t : TypeId) (k : outParam Nat) (e : outParam TypeId) : Prop where
  ok : P.underlying t = some (.array k e)
section
variable {P : Program} {Q : Exit → Act → World → Prop} {n : Nat} {σ : Sg} {w : World} {L rest : List Oper} {d : Nat} {ty : TypeId} {pos : String} {af : Array Edge} {g : Option (Nat × Bool)} {t e : TypeId} {x y : Operand} {b o : Nat} {cells : List Value}
/-- &x[i], x an array -/
theorem WL.idxA {ix : Operand} {i k : Nat} {kd : IntKind} {e' : TypeId} (hg : gd L σ ⟨some d, .indexAddr t x ix, ty, pos, af, g⟩ = some true) (hd : Nat.ble (d + 1) n = true) (hx : ev σ x = some (.pointer (some ⟨b, o, none⟩))) (hi : ev σ ix = some (.int kd (i : Int)))
    [ha : IsA P t k e'] [hc : IsC P e' 1 false] (h1 : i < k) (h : WL P L Q rest n ((d, .pointer (some ⟨b, o + i, none⟩)) :: σ) w) : WL P L Q (⟨some d, .indexAddr t x ix, ty, pos, af, g⟩ :: rest) n σ w := by
  obtain ⟨inf, dd, hi1, hi2, _, _⟩ := hc.ok
  refine WL.run hg hd (fun a ha0 => ?_) h
  simp [execOp, ha0.ev hx, ha0.ev hi, Instr.indexAt, asIntOf, run_underlying ha.ok, Instr.sureAddr, h1, sizeOf, typeInfo, hi1, hi2, WideShapes.add_plain]
/-- *p = v, one cell, wherever it lies -/
theorem WL.st1 {v : Value} (hg : gd L σ ⟨none, .store t x y, ty, pos, af, g⟩ = some true) (hx : ev σ x = some (.pointer (some ⟨b, o, none⟩))) (hy : ev σ y = some v) [hc : IsC P t 1 false] (hb : Blk w b e cells)
    (ho : o < cells.length) (hv : cellsL v = [v]) (h1 : v.oneCell' = true)
    (h : ∀ w', Blk w' b e (cells.set o v) → w.grownBy w' (some b) → WL P L Q rest n σ w') : WL P L Q (⟨none, .store t x y, ty, pos, af, g⟩ :: rest) n σ w := by
  obtain ⟨i, dd, hi1, hi2, _, _⟩ := hc.ok
  have hst := run_storeCells_at P b o e [v] 0 cells.toArray w hb (by simp; omega) (by simpa using h1)
  simp only [Nat.add_zero] at hst
  have e1 : cells.take o ++ [v] ++ cells.drop (o + [v].length) = cells.set o v := by
    rw [List.set_eq_take_append_cons_drop, if_pos ho]; simp
  refine WL.runU hg (fun a ha => ?_) (h _ (by
    have := setRow_heap w b cells.toArray (cells.set o v).toArray e (0, 0) hb
    exact this) (grown_setRow w b _))
  simp only [execOp, ha.ev hx, ha.ev hy, Instr.storeAt, Sem.run_bind, Instr.sureAddr, Sem.run_pure, Result.andThen_ok, storeVar, sizeOf, typeInfo, run_program, hi1, hi2, cellsL_eq, hv]
  rw [← e1]
  simp
  simp [hst]
theorem run_ldAll {k : Nat} (w : World) (hb : Blk w b e cells) (hk : cells.length = k) [hc : IsC P t k true] : (Instr.loadAt t (.pointer (some ⟨b, 0, none⟩))).run P w = .ok (.agg cells.toArray) w := by
  obtain ⟨i, dd, h1, h2, h3, h4⟩ := hc.ok
  have hagg : (isAgg t).run P w = .ok true w := by
    unfold isAgg
    rw [Sem.run_bind, run_underlying h3 w, ← h4]
    cases dd <;> rfl
  have hld := run_loadCells_list (P := P) w ⟨b, 0, none⟩ cells (fun j u hu => by rw [WideShapes.add_plain, Nat.zero_add]; exact hb.cell hu)
  rw [hk] at hld
  simp [Instr.loadAt, Instr.sureAddr, loadVar, hagg, sizeOf, typeInfo, h1, h2, hld]
/-- the whole variable, however its cells are spelt -/
theorem WL.ldAll {k : Nat} (hg : gd L σ ⟨some d, .load t x, ty, pos, af, g⟩ = some true) (hd : Nat.ble (d + 1) n = true) (hx : ev σ x = some (.pointer (some ⟨b, 0, none⟩))) [hc : IsC P t k true] (hb : Blk w b e cells) (hk : cells.length = k)
    (h : WL P L Q rest n ((d, .agg cells.toArray) :: σ) w) : WL P L Q (⟨some d, .load t x, ty, pos, af, g⟩ :: rest) n σ w := by
  refine WL.run hg hd (fun a ha => ?_) h
  simp [execOp, ha.ev hx, run_ldAll (P := P) (t := t) w hb hk]
theorem WL.stAll {k : Nat} {cs : List Value} (hg : gd L σ ⟨none, .store t x y, ty, pos, af, g⟩ = some true) (hx : ev σ x = some (.pointer (some ⟨b, 0, none⟩))) (hy : ev σ y = some (.agg cs.toArray)) [hc : IsC P t k true] (hb : Blk w b e cells)
    (hk : cs.length = k) (hl : cells.length = k) (h1 : ∀ u ∈ cs, u.oneCell' = true)
    (h : ∀ w', Blk w' b e cs → w.grownBy w' (some b) → WL P L Q rest n σ w') : WL P L Q (⟨none, .store t x y, ty, pos, af, g⟩ :: rest) n σ w := by
  obtain ⟨i, dd, hi1, hi2, _, _⟩ := hc.ok
  subst hk
  have hst := run_storeCells_at P b 0 e cs 0 cells.toArray w hb (by simp; omega) h1
  simp only [Nat.add_zero, Nat.zero_add, List.take_zero, List.nil_append] at hst
  have e1 : cells.toArray.toList.drop cs.length = [] := List.drop_eq_nil_of_le (by simp; omega)
  rw [e1, List.append_nil] at hst
  refine WL.runU hg (fun a ha => ?_) (h _ (by
    have := setRow_heap w b cells.toArray cs.toArray e (0, 0) hb
    exact this) (grown_setRow w b _))
  simp only [execOp, ha.ev hx, ha.ev hy, Instr.storeAt, Sem.run_bind, Instr.sureAddr, Sem.run_pure, Result.andThen_ok, storeVar, sizeOf, typeInfo, run_program, hi1, hi2, Value.cells]
  simp
  simp [hst]
theorem EX.retCA {fn : Func} {a : Nat} {k : Nat} {R : Value → World → Prop} (hr : fn.results = #[.cell a t]) (ha : fnd σ a = some (.pointer (some ⟨b, 0, none⟩))) [hc : IsC P t k true] (hb : Blk w b e cells) (hk : cells.length = k) (h : R (.agg cells.toArray) w) :
    EX (bodyPost P fn fun e w' => ∃ v, e = .returned v ∧ R v w') .ret n σ w := by
  unfold EX; intro ac hac
  refine bodyPost_ret ?_ hac.defers ⟨_, rfl, h⟩
  have hld := run_loadCells_list (P := P) w ⟨b, 0, none⟩ cells (fun j u hu => by rw [WideShapes.add_plain, Nat.zero_add]; exact hb.cell hu)
  obtain ⟨i, dd, h1, h2, h3, h4⟩ := hc.ok
  have hagg : (isAgg t).run P w = .ok true w := by
    unfold isAgg
    rw [Sem.run_bind, run_underlying h3 w, ← h4]
    cases dd <;> rfl
  rw [hk] at hld
  have hs := hac.slot a _ ha
  simp only [Array.getD_eq_getD_getElem?] at hs
  simp [results, hr, hs, asAddr, loadVar, hagg, sizeOf, typeInfo, h1, h2, hld]
end
theorem mapM_some {α β : Type} {f : α → Option β} {g : α → β} : ∀ (l : List α), (∀ x ∈ l, f x = some (g x)) → l.mapM f = some (l.map g)
  | [], _ => rfl
  | x :: r, h => by
    rw [List.mapM_cons, h x (by simp), mapM_some r (fun y hy => h y (by simp [hy]))]
    rfl
/-- a key that is an array of numbers -/
theorem KeyV.arr {P : Program} {k e : TypeId} {n : Nat} {q : IntKind} (hu : P.underlying k = some (.array n e)) (he : P.underlying e = some (.int q)) (hce : P.cellsOf e = 1) (hck : P.cellsOf k = n) (hkt : P.keyType k = true) (hts : Nat.ble 1 P.types.size = true)
    {xs : List Int} (hl : xs.length = n) (hx : ∀ x ∈ xs, (Lit.int q x).wf = true) : KeyV P k (.agg (xs.map fun x => .int q x).toArray) := by
  obtain ⟨s, hs⟩ : ∃ s, P.types.size = s + 1 := ⟨P.types.size - 1, by have := Nat.le_of_ble_eq_true hts; omega⟩
  have hlits : P.keyLits (P.types.size + 1) k (xs.map fun x => .int q x) = some (((List.range n).map fun i => [Lit.int q (xs.getD i 0)]).flatten) := by
    rw [hs, Program.keyLits.eq_def]
    simp only [hu]
    rw [if_pos (by rw [hck]; simpa using hl), mapM_some (g := fun i => [Lit.int q (xs.getD i 0)])]
    · rfl
    · intro i hi
      have hi := List.mem_range.1 hi
      have hix : i < xs.length := by omega
      have hseg : ((xs.map fun x => Value.int q x).drop (i * P.cellsOf e)).take (P.cellsOf e) = [.int q xs[i]] := by
        rw [hce, Nat.mul_one, List.drop_eq_getElem_cons (by simpa using hix)]
        simp
      rw [hseg, Program.keyLits.eq_def]
      simp only [he]
      rw [if_pos ⟨trivial, hx _ (List.getElem_mem hix)⟩, List.getD_eq_getElem?_getD, List.getElem?_eq_getElem hix]
      rfl
  refine ⟨.string (keyBytes (((List.range n).map fun i => [Lit.int q (xs.getD i 0)]).flatten)), ?_⟩
  unfold keyOf
  rw [hu]
  dsimp only
  have hf : Value.formed P k (.agg (xs.map fun x => Value.int q x).toArray) = true := by
    unfold Value.formed
    rw [hu, hck]
    simp [hl]
  rw [hkt, hf]
  show Option.map _ (P.keyLits (P.types.size + 1) k (xs.map fun x => Value.int q x)) = _
  rw [hlits]
  rfl
end Go.Proofs.Ytljcnopekjinjaa
/-
  What only some blocks' change leaves as it is. Over any program.
-/
set_option linter.unusedVariables false
set_option linter.unusedSimpArgs false
namespace Go.Proofs.Ytljcnopekjinjaa
open Go.RowKit

/-- only blocks of S, and new ones, are otherwise -/
structure Chg (S : Nat → Prop) (w w' : World) : Prop where
  os : w'.os = w.os
  tape : w'.tape = w.tape
  output : w'.output = w.output
  size : w.heap.size ≤ w'.heap.size
  block : ∀ k, k < w.heap.size → ¬ S k → w'.heap[k]? = w.heap[k]?
theorem Chg.refl (S : Nat → Prop) (w : World) : Chg S w w := ⟨rfl, rfl, rfl, Nat.le_refl _, fun _ _ _ => rfl⟩
theorem Chg.grown {S : Nat → Prop} {w w' w'' : World} {row : Option Nat} (h : Chg S w w') (hg : w'.grownBy w'' row) (hr : ∀ g, row = some g → S g) : Chg S w w'' :=
  ⟨hg.os.trans h.os, hg.tape.trans h.tape, hg.output.trans h.output, Nat.le_trans h.size hg.size, fun k hk hs => (hg.block k (Nat.lt_of_lt_of_le hk h.size) (fun e => hs (hr k e.symm))).trans (h.block k hk hs)⟩
theorem Chg.ext {S : Nat → Prop} {a w w' : World} (hE : Ext a w) (h : Chg S w w') (hS : ∀ b, S b → a.heap.size ≤ b) : Ext a w' :=
  ⟨h.os.trans hE.os, h.tape.trans hE.tape, h.output.trans hE.output, Nat.le_trans hE.size h.size, fun k hk => (h.block k (Nat.lt_of_lt_of_le hk hE.size) (fun hs => by have := hS k hs; omega)).trans (hE.block k hk)⟩
theorem Own.chg {α : Type} [Rep α] {S : Nat → Prop} {w w' : World} {B : Nat} {e : TypeId} {v : Value} {xs : List α} (h : Own w B e Non v xs) (hc : Chg S w w') (hn : ∀ b, v.ownBlock = some b → ¬ S b) : Own w' B e Non v xs :=
  h.keep (fun g hg => hc.block g (h.lt g hg).2.1 (hn g hg)) fun _ h => h.elim
theorem OwnN.chg {α : Type} [Rep α] {S : Nat → Prop} {w w' : World} {B : Nat} {eo ei : TypeId} {v : Value} {vs : List Raw} {xs : List (List α)} (h : OwnN w B eo ei v vs xs) (hc : Chg S w w') (hn : ∀ b, OwnN.blk v vs b → ¬ S b) : OwnN w' B eo ei v vs xs :=
  ⟨h.out.chg hc (fun b hb => hn b (.inl hb)), h.len, fun i hi hi' => (h.inn i hi hi').chg hc (fun b hb => hn b (.inr ⟨_, List.getElem_mem hi, hb⟩)), h.dis, h.dio⟩

end Go.Proofs.Ytljcnopekjinjaa
/-
  Package space: the key of a marking; the search as it lies in memory.
-/
set_option linter.unusedVariables false
set_option linter.unusedSimpArgs false
namespace Go.Proofs.Ytljcnopekjinjaa
open Go.RowKit

instance iSp1 : IsC Try.prog 114 10 true := IsC.of (by kernel_rfl) Try.underlying114 rfl
instance iSp2 : IsFd Try.prog 114 0 0 := IsFd.of (by kernel_rfl)
instance iSp3 : IsFd Try.prog 114 1 2 := IsFd.of (by kernel_rfl)
instance iSp4 : IsFd Try.prog 114 2 3 := IsFd.of (by kernel_rfl)
instance iSp5 : IsFd Try.prog 114 3 4 := IsFd.of (by kernel_rfl)
instance iSp6 : IsFd Try.prog 114 4 6 := IsFd.of (by kernel_rfl)
instance iSp7 : IsFd Try.prog 114 5 7 := IsFd.of (by kernel_rfl)
instance iSp8 : IsFd Try.prog 114 6 8 := IsFd.of (by kernel_rfl)
instance iSp9 : IsZC Try.prog 114 [.slice none 0 0, .slice none 0 0, .int .i64 0, .int .i64 0, .slice none 0 0, .slice none 0 0, .map none, .slice none 0 0, .int .i64 0, .int .i64 0] := IsZC.of (z := .agg #[.slice none 0 0, .slice none 0 0, .int .i64 0, .int .i64 0, .slice none 0 0, .slice none 0 0, .map none, .slice none 0 0, .int .i64 0, .int .i64 0]) (by kernel_rfl) rfl
instance iSp10 : IsBd Try.prog 114 [(0, 2), (2, 1), (3, 1), (4, 2), (6, 1), (7, 1), (8, 2)] := IsBd.of (by kernel_rfl)
instance iSp11 : IsC Try.prog 169 30 true := IsC.of (by kernel_rfl) Try.underlying169 rfl
abbrev zKey : List Value := [.int .i8 0, .int .i8 0, .int .i8 0, .int .i8 0, .int .i8 0, .int .i8 0, .int .i8 0, .int .i8 0, .int .i8 0, .int .i8 0, .int .i8 0, .int .i8 0, .int .i8 0, .int .i8 0, .int .i8 0, .int .i8 0, .int .i8 0, .int .i8 0, .int .i8 0, .int .i8 0, .int .i8 0, .int .i8 0, .int .i8 0, .int .i8 0, .int .i8 0, .int .i8 0, .int .i8 0, .int .i8 0, .int .i8 0, .int .i8 0]
instance iSp12 : IsZC Try.prog 169 zKey := IsZC.of (z := .agg zKey.toArray) (by kernel_rfl) rfl
instance iSp13 : IsA Try.prog 169 30 167 := ⟨Try.underlying169⟩
instance iSp14 : IsC Try.prog 167 1 false := IsC.of (by kernel_rfl) Try.underlying167 rfl
instance iSp15 : IsI Try.prog 167 .i8 := ⟨Try.underlying167⟩
instance iSp16 : IsM Try.prog 109 169 3 := ⟨Try.underlying109⟩
instance iSp17 : IsC Try.prog 109 1 false := IsC.of (by kernel_rfl) Try.underlying109 rfl
instance iSp18 : IsZ0 Try.prog 3 := ⟨by kernel_rfl⟩
theorem spLaid : laidOutB Try.prog = true := by kernel_rfl
instance iSp19 : IsKy Try.prog 169 := IsKy.of (m := 2) spLaid (by decide) (by kernel_rfl) (by kernel_rfl) Try.underlying169 rfl
abbrev keyV (m : List Int) : Value := .agg ((keyX m).map fun x => .int .i8 x).toArray
def Tok (m : List Int) : Prop := ∀ x ∈ m, 0 ≤ x ∧ x ≤ 9
theorem Tok.at {m : List Int} (h : Tok m) (j : Nat) : 0 ≤ m.getD j 0 ∧ m.getD j 0 ≤ 9 := by
  rw [List.getD_eq_getElem?_getD]
  cases hj : m[j]? with
  | none => exact ⟨Int.le_refl _, by decide⟩
  | some x => exact h x (List.mem_of_getElem? hj)
theorem keyV_key {m : List Int} (hm : Tok m) : KeyV Try.prog 169 (keyV m) :=
  KeyV.arr (n := 30) Try.underlying169 Try.underlying167 (by kernel_rfl) (by kernel_rfl) (by kernel_rfl) (by kernel_rfl) (keyX_len m) (fun x hx => by
    unfold keyX at hx
    obtain ⟨i, _, rfl⟩ := List.mem_map.1 hx
    have := hm.at i
    rw [List.getD_eq_getElem?_getD] at this
    simp [Lit.wf, IntKind.min, IntKind.max, IntKind.signed, IntKind.bits]
    omega)
theorem keyV_inj {a b : List Int} (ha : a.length ≤ 30) (h : a.length = b.length) (he : keyV a = keyV b) : a = b := by
  refine keyX_inj ha h ?_
  have h1 : ((keyX a).map fun x => Value.int .i8 x).toArray = ((keyX b).map fun x => Value.int .i8 x).toArray := by injection he
  have h2 : (keyX a).map (fun x => Value.int .i8 x) = (keyX b).map (fun x => Value.int .i8 x) := by simpa using h1
  exact List.map_inj_right (fun x y e => by injection e) |>.1 h2
theorem i8_wrap {x : Int} (h : 0 ≤ x ∧ x ≤ 9) : IntKind.i8.wrap x = x := by
  simp [IntKind.wrap, IntKind.bits, IntKind.signed]
  omega
@[irreducible] def keyU (m : List Int) (i : Nat) : List Value := (List.range 30).map fun j => .int .i8 (if j < i then m.getD j 0 else 0)
theorem keyU_len {m : List Int} {i : Nat} : (keyU m i).length = 30 := by simp [keyU]
theorem keyU_zero {m : List Int} : keyU m 0 = zKey := by
  unfold keyU
  simp only [Nat.not_lt_zero, if_false]
  rfl
theorem keyU_set {m : List Int} {i : Nat} (hi : i < m.length) : (keyU m i).set i (.int .i8 m[i]) = keyU m (i + 1) := by
  unfold keyU
  refine List.ext_getElem (by simp) fun j h1 h2 => ?_
  rw [List.getElem_set]
  simp only [List.getElem_map, List.getElem_range]
  by_cases e : i = j
  · subst e
    rw [if_pos rfl, if_pos (by omega), List.getD_eq_getElem?_getD, List.getElem?_eq_getElem hi]
    rfl
  · rw [if_neg e]
    by_cases hj : j < i
    · rw [if_pos hj, if_pos (by omega)]
    · rw [if_neg hj, if_neg (by omega)]
theorem keyU_all {m : List Int} : keyU m m.length = (keyX m).map fun x => .int .i8 x := by
  unfold keyU keyX
  rw [List.map_map]
  refine List.map_congr_left fun j _ => ?_
  show Value.int .i8 _ = Value.int .i8 _
  congr 1
  split
  · rfl
  · show (0 : Int) = m.getD j 0
    rw [List.getD_eq_getElem?_getD, List.getElem?_eq_none (by omega)]; rfl
theorem keyU_ones {m : List Int} {i : Nat} : ∀ u ∈ keyU m i, u.oneCell' = true := by
  intro u hu
  unfold keyU at hu
  obtain ⟨j, _, rfl⟩ := List.mem_map.1 hu
  rfl
theorem keyOf_ok (w0 : World) {mo : Option Addr} {mc : Nat} {m : List Int} (hm : Sl w0 (Old w0) mo mc m) (hl : m.length ≤ 30) (hx : Tok m) :
    Rt Try.prog 107 [.slice mo m.length mc].toArray w0 fun v w' => v = keyV m ∧ Ext w0 w' := by
  refine Rt.enter1 Try.func107 Try.ntmps107 rfl rfl ?_
  (repeat (first | (apply CW.seq) | (apply CW.region)))
  refine WL.alloc rfl rfl (fun w1 hb2 e1 => ?_)
  (repeat (first | (apply WL.nil) | (apply EX.thenN) | (apply CW.seq) | (apply CW.region)))
  refine WL.alloc rfl rfl (fun w2 hb3 e2 => ?_)
  have hl2 := hb2.lt
  have hb2 := hb2.ext e2
  have hE := e1.trans e2
  have hz1 := e1.size
  have hl1 : w0.heap.size ≠ w1.heap.size := by omega
  rw [← keyU_zero (m := m)] at hb3
  (repeat (first | (apply WL.pure; rfl; rfl; rfl) | (apply WL.nil) | (apply EX.thenN) | (apply CW.seq) | (apply CW.region) | (apply WL.lenS; rfl; rfl; rfl) | (apply CW.block)))
  refine CW.loop (S := Nat) (fun i => [(2, .pointer (some ⟨w0.heap.size, 0, none⟩)), (3, .pointer (some ⟨w1.heap.size, 0, none⟩)), (6, .slice mo m.length mc), (7, .int .i64 m.length), (8, .int .i64 i)])
    (fun i w => i ≤ m.length ∧ Ext w0 w ∧ Blk w w0.heap.size 169 zKey ∧ Blk w w1.heap.size 169 (keyU m i)) (fun i => m.length - i) 0 (by repeat (first | exact trivial | refine ⟨rfl, ?_⟩)) ⟨Nat.zero_le _, hE, hb2, hb3⟩ ?_
  clear hb2 hb3 hE
  rintro i w3 ⟨hi, hE, hb2, hb3⟩
  (repeat (first | (apply WL.pure; rfl; rfl; rfl) | (apply WL.nil) | (apply EX.thenN) | (apply CW.seq) | (apply CW.region)))
  refine CW.cond rfl (fun h => ?_) (fun h => ?_)
  · have hi' : i < m.length := by simp at h; omega
    have h09 := hx _ (List.getElem_mem hi')
    (repeat (first | (apply WL.pure; rfl; rfl; rfl) | (apply EX.thenN) | (apply CW.seq) | (apply CW.region) | (apply CW.block) | (apply CW.skip)))
    refine WL.elemI rfl rfl rfl rfl rfl (hm.up hE) hi' rfl (fun _ => rfl) (fun q => ?_)
    (repeat (first | (apply WL.pure; rfl; rfl; rfl) | (apply WL.nil) | (apply EX.thenN) | (apply CW.region)))
    refine WL.conv (k' := .i8) rfl rfl rfl ?_
    rw [i8_wrap h09]
    refine WL.idxA rfl rfl rfl rfl (by omega) ?_
    refine WL.st1 rfl rfl rfl hb3 (by rw [keyU_len]; omega) rfl rfl (fun w4 hb4 hg4 => ?_)
    rw [Nat.zero_add, keyU_set hi'] at hb4
    have hb2 := hb2.kept hg4 (fun e => hl1 (Option.some.inj e))
    have hE4 : Ext w0 w4 := hE.grown hg4 hE.size (fun g hg => by cases hg; exact hz1)
    (repeat (first | (apply WL.add; rfl; rfl; rfl; rfl; omega; omega) | (apply WL.pure; rfl; rfl; rfl) | (apply WL.nil) | (apply EX.thenN) | (apply CW.region) | (apply EX.inN)))
    exact EX.back (i + 1) (by repeat (first | exact trivial | refine ⟨rfl, ?_⟩)) ⟨hi', hE4, hb2, hb4⟩ (by omega)
  · obtain rfl : i = m.length := by simp at h; omega
    (repeat (first | (apply EX.thenN) | (apply CW.seq) | (apply CW.region) | (apply CW.exit) | (apply EX.thenX) | (apply EX.inX)))
    refine WL.ldAll rfl rfl rfl hb3 keyU_len ?_
    refine WL.stAll rfl rfl rfl hb2 keyU_len rfl keyU_ones (fun w4 hb4 hg4 => ?_)
    have hE4 : Ext w0 w4 := hE.grown hg4 hE.size (fun g hg => by cases hg; exact Nat.le_refl _)
    (repeat (first | (apply WL.nil) | (apply EX.thenN) | (apply CW.ret)))
    exact EX.retCA rfl rfl hb4 keyU_len ⟨by rw [keyU_all], hE4⟩

/- THE SEARCH IN MEMORY -/
structure SC where
  sb : Nat
  mb : Nat
  mv : Value
  nv : Value
  ov : Value
  mvs : List Raw
  nvs : List Raw
  p1 : Value
  p2 : Value
  tok : Int
  st : Int
  N : Nat
  /-- one more that is written meanwhile -/
  xt : Value
  /-- where the blocks of what is read begin -/
  lo : Nat
def busy (c : SC) : Nat → Prop := fun b => b = c.sb ∨ b = c.mb ∨ c.mv.ownBlock = some b ∨ c.nv.ownBlock = some b ∨ c.ov.ownBlock = some b ∨ c.xt.ownBlock = some b
/-- met, but none that the search may write -/
def Fb (c : SC) (w : World) : Nat → Prop := fun b => c.lo ≤ b ∧ b < w.heap.size ∧ ¬ busy c b
structure Inn {α : Type} [Rep α] (w : World) (c : SC) (vs : List Raw) (xs : List (List α)) : Prop where
  len : vs.length = xs.length
  el : ∀ i (h : i < vs.length) (h' : i < xs.length), ∃ ao cap, vs[i].v = .slice ao xs[i].length cap ∧ Sl w (Fb c w) ao cap xs[i]
theorem Fb.to {α : Type} [Rep α] {w w' : World} {c c' : SC} {ao : Option Addr} {cap : Nat} {xs : List α} (h : Sl w (Fb c w) ao cap xs) (hc : Chg (busy c) w w') (hb : ∀ b, busy c' b → busy c b ∨ w.heap.size ≤ b) (hl : c'.lo ≤ c.lo := by exact Nat.le_refl _) : Sl w' (Fb c' w') ao cap xs :=
  h.mono (fun b hb1 => hc.block b hb1.2.1 hb1.2.2) fun b hb1 => ⟨Nat.le_trans hl hb1.1, Nat.lt_of_lt_of_le hb1.2.1 hc.size, fun h => (hb b h).elim hb1.2.2 (fun h => by have := hb1.2.1; omega)⟩
theorem Inn.to {α : Type} [Rep α] {w w' : World} {c c' : SC} {vs : List Raw} {xs : List (List α)} (h : Inn w c vs xs) (hc : Chg (busy c) w w') (hb : ∀ b, busy c' b → busy c b ∨ w.heap.size ≤ b) (hl : c'.lo ≤ c.lo := by exact Nat.le_refl _) : Inn w' c' vs xs :=
  ⟨h.len, fun i h1 h2 => by
    obtain ⟨ao, cap, e, hs⟩ := h.el i h1 h2
    exact ⟨ao, cap, e, Fb.to hs hc hb hl⟩⟩
theorem Inn.push {α : Type} [Rep α] {w : World} {c : SC} {vs : List Raw} {xs : List (List α)} {ao : Option Addr} {cap : Nat} {m : List α} (h : Inn w c vs xs) (hm : Sl w (Fb c w) ao cap m) : Inn w c (vs ++ [⟨.slice ao m.length cap⟩]) (xs ++ [m]) := by
  refine ⟨by simp [h.len], fun i h1 h2 => ?_⟩
  by_cases hi : i < vs.length
  · have hi' : i < xs.length := by rw [← h.len]; exact hi
    obtain ⟨a, k, e, hs⟩ := h.el i hi hi'
    refine ⟨a, k, ?_, ?_⟩
    · rw [List.getElem_append_left hi, e]; simp only [List.getElem_append_left hi']
    · rw [List.getElem_append_left hi']; exact hs
  · have hiv : i = vs.length := by simp at h1; omega
    have hix : i = xs.length := by rw [← h.len]; exact hiv
    refine ⟨ao, cap, ?_, ?_⟩
    · rw [List.getElem_append_right (by omega), List.getElem_append_right (by omega)]
      simp [hiv, h.len]
    · rw [List.getElem_append_right (by omega)]
      simp only [hix, Nat.sub_self, List.getElem_cons_zero]
      exact hm
def ap (a b : Option Nat) : Prop := ∀ g, a = some g → b = some g → False
theorem ap.new {a a' b : Option Nat} {k : Nat} (h : ap a b) (hn : ∀ g, a' = some g → a = some g ∨ k ≤ g) (hb : ∀ g, b = some g → g < k) : ap a' b := fun g h1 h2 => by
  rcases hn g h1 with h3 | h3
  · exact h g h3 h2
  · have := hb g h2; omega
theorem ap.sym {a b : Option Nat} (h : ap a b) : ap b a := fun g h1 h2 => h g h2 h1
theorem ap.ne {a b : Option Nat} (h : ap a b) : ∀ g, b = some g → some g ≠ a := fun g h1 e => h g e.symm h1
structure Apart (c : SC) : Prop where
  d01 : c.sb ≠ c.mb
  d02 : ap (some c.sb) c.mv.ownBlock
  d03 : ap (some c.sb) c.nv.ownBlock
  d04 : ap (some c.sb) c.ov.ownBlock
  d12 : ap (some c.mb) c.mv.ownBlock
  d13 : ap (some c.mb) c.nv.ownBlock
  d14 : ap (some c.mb) c.ov.ownBlock
  d23 : ap c.mv.ownBlock c.nv.ownBlock
  d24 : ap c.mv.ownBlock c.ov.ownBlock
  d34 : ap c.nv.ownBlock c.ov.ownBlock
  d05 : ap (some c.sb) c.xt.ownBlock
  d15 : ap (some c.mb) c.xt.ownBlock
  d25 : ap c.mv.ownBlock c.xt.ownBlock
  d35 : ap c.nv.ownBlock c.xt.ownBlock
  d45 : ap c.ov.ownBlock c.xt.ownBlock
structure Srch (w : World) (B : Nat) (c : SC) (s : Sr) (nx : List (List LEdge)) : Prop where
  blk : Blk w c.sb 114 [c.p1, c.p2, .int .i64 c.tok, .int .i64 c.st, c.mv, c.nv, .map (some c.mb), c.ov, .int .i64 s.2.2.1, .int .i64 s.2.2.2]
  num : NumM Try.prog 169 w c.mb (s.1.map keyV)
  mo : Own w B 26 Non c.mv c.mvs
  no : Own w B 52 Non c.nv c.nvs
  oo : Own w B 112 Non c.ov s.2.1
  mi : Inn w c c.mvs s.1
  ni : Inn w c c.nvs nx
  ge : B ≤ c.sb ∧ B ≤ c.mb
  lob : c.lo ≤ B
  xo : ∀ g, c.xt.ownBlock = some g → B ≤ g ∧ g < w.heap.size
  dis : Apart c
  ok : ∀ m ∈ s.1, m.length = c.N ∧ Tok m
  nd : s.1.Nodup
  lim : (s.1.length : Int) ≤ c.st ∧ 0 < c.st ∧ c.st ≤ 200 ∧ s.2.1.length = s.1.length ∧ c.N ≤ 30
theorem busy_ge {w : World} {B : Nat} {c : SC} {s : Sr} {nx : List (List LEdge)} (h : Srch w B c s nx) : ∀ b, busy c b → B ≤ b ∧ b < w.heap.size := fun b hb => by
  rcases hb with rfl | rfl | hb | hb | hb | hb
  · exact ⟨h.ge.1, h.blk.lt⟩
  · exact ⟨h.ge.2, h.num.lt⟩
  · exact ⟨(h.mo.lt b hb).1, (h.mo.lt b hb).2.1⟩
  · exact ⟨(h.no.lt b hb).1, (h.no.lt b hb).2.1⟩
  · exact ⟨(h.oo.lt b hb).1, (h.oo.lt b hb).2.1⟩
  · exact h.xo b hb
theorem Chg.ofExt {S : Nat → Prop} {w w' : World} (h : Ext w w') : Chg S w w' := ⟨h.os, h.tape, h.output, h.size, fun b hb _ => h.block b hb⟩
theorem Srch.ext {w w' : World} {B : Nat} {c : SC} {s : Sr} {nx : List (List LEdge)} (h : Srch w B c s nx) (hE : Ext w w') : Srch w' B c s nx :=
  ⟨h.blk.ext hE, h.num.ext hE, h.mo.extN hE, h.no.extN hE, h.oo.extN hE, h.mi.to (.ofExt hE) (fun _ h => .inl h), h.ni.to (.ofExt hE) (fun _ h => .inl h), h.ge, h.lob, (fun g hg => ⟨(h.xo g hg).1, Nat.lt_of_lt_of_le (h.xo g hg).2 hE.size⟩), h.dis, h.ok, h.nd, h.lim⟩
end Go.Proofs.Ytljcnopekjinjaa
