import Derived.DeepKeys4
import Derived.Maps.Keyed
import Derived.Test.YtadbkppgaekmpaaPtRunsFair10
/-
  All markings: plain laws.
-/
set_option linter.unusedVariables false
set_option linter.unusedSimpArgs false
namespace Go.Proofs.Ytadbkppgaekmpaa

/- greater bounds -/
theorem putE_same {a b c d : Int} {s : Sr} {m : List Int} {fr : Int × Int} (h1 : (putE a b s m fr).2.2 = 0) (h2 : (putE c d s m fr).2.2 = 0) : putE a b s m fr = putE c d s m fr := by
  unfold putE at h1 h2 ⊢
  by_cases g1 : tooMany a m = true
  · rw [if_pos g1] at h1; cases h1
  by_cases g2 : tooMany c m = true
  · rw [if_pos g2] at h2; cases h2
  rw [if_neg g1] at h1
  rw [if_neg g2] at h2
  rw [if_neg g1, if_neg g2]
  by_cases g3 : m ∈ s.1
  · rw [if_pos g3, if_pos g3]
  rw [if_neg g3] at h1 h2
  rw [if_neg g3, if_neg g3]
  by_cases g4 : (s.1.length : Int) = b
  · rw [if_pos g4] at h1; cases h1
  by_cases g5 : (s.1.length : Int) = d
  · rw [if_pos g5] at h2; cases h2
  rw [if_neg g4, if_neg g5]
theorem edgesGo_same {p : LProc} {a b c d n : Int} {m : List Int} : ∀ (l : List Int) (s : Sr) (out : List LEdge), (edgesGo p a b n m l s out).2.2 = 0 → (edgesGo p c d n m l s out).2.2 = 0 → edgesGo p a b n m l s out = edgesGo p c d n m l s out
  | [], s, out, _, _ => rfl
  | k :: r, s, out, h1, h2 => by
    rw [edgesGo] at h1 h2 ⊢
    rw [edgesGo]
    by_cases g : (fireE p m k).2 = 0
    case neg => rw [if_pos g] at h1; exact absurd h1 g
    have hg : ¬ (fireE p m k).2 ≠ 0 := by simp [g]
    rw [if_neg hg] at h1 h2
    rw [if_neg hg, if_neg hg]
    by_cases g1 : (putE a b s (fireE p m k).1 (n, k)).2.2 = 0
    case neg => rw [if_pos g1] at h1; exact absurd h1 g1
    by_cases g2 : (putE c d s (fireE p m k).1 (n, k)).2.2 = 0
    case neg => rw [if_pos g2] at h2; exact absurd h2 g2
    have e := putE_same g1 g2
    have hg1 : ¬ (putE a b s (fireE p m k).1 (n, k)).2.2 ≠ 0 := by simp [g1]
    have hg2 : ¬ (putE c d s (fireE p m k).1 (n, k)).2.2 ≠ 0 := by simp [g2]
    rw [if_neg hg1] at h1
    rw [if_neg hg2] at h2
    rw [if_neg hg1, if_neg hg2]
    rw [e] at h1 ⊢
    exact edgesGo_same r _ _ h1 h2
theorem runGo_same {p : LProc} {a b c d : Int} : ∀ (f n : Nat) (s : Sr) (nx : List (List LEdge)), (runGo p a b f n s nx).2.2 = 0 → (runGo p c d f n s nx).2.2 = 0 → runGo p a b f n s nx = runGo p c d f n s nx
  | 0, n, s, nx, _, _ => rfl
  | f + 1, n, s, nx, h1, h2 => by
    rw [runGo] at h1 h2 ⊢
    rw [runGo]
    by_cases hn : n < s.1.length
    case neg => rw [if_neg hn, if_neg hn]
    rw [if_pos hn] at h1 h2
    rw [if_pos hn, if_pos hn]
    by_cases g1 : (edgesE p a b n s).2.2 = 0
    case neg => rw [if_pos g1] at h1; exact absurd h1 g1
    by_cases g2 : (edgesE p c d n s).2.2 = 0
    case neg => rw [if_pos g2] at h2; exact absurd h2 g2
    have e : edgesE p a b n s = edgesE p c d n s := edgesGo_same _ _ _ g1 g2
    rw [if_neg (by simp [g1])] at h1
    rw [if_neg (by simp [g2])] at h2
    rw [if_neg (by simp [g1]), if_neg (by simp [g2])]
    rw [e] at h1 ⊢
    exact runGo_same f _ _ _ h1 h2
theorem runB_same {p : LProc} {a b c d : Int} (h1 : (runB p a b).2.2 = 0) (h2 : (runB p c d).2.2 = 0) : runB p a b = runB p c d := by
  unfold runB at h1 h2 ⊢
  by_cases g1 : (putE a b ([], [], (0, 0)) (beginL p) (-1, -1)).2.2 = 0
  case neg => rw [if_pos g1] at h1; exact absurd h1 g1
  by_cases g2 : (putE c d ([], [], (0, 0)) (beginL p) (-1, -1)).2.2 = 0
  case neg => rw [if_pos g2] at h2; exact absurd h2 g2
  have e := putE_same g1 g2
  rw [if_neg (by simp [g1])] at h1
  rw [if_neg (by simp [g2])] at h2
  rw [if_neg (by simp [g1]), if_neg (by simp [g2])]
  rw [e] at h1 ⊢
  exact runGo_same _ _ _ _ h1 h2
theorem exploreE_ok {p : LProc} {a b : Int} (h : (exploreE p a b).2 = 0) : (stepsE p).2 = 0 ∧ 1 ≤ a ∧ 1 ≤ b ∧ b ≤ 200 ∧ (runB p a b).2.2 = 0 ∧ exploreE p a b = (((runB p a b).1.1, (runB p a b).2.1), 0) := by
  unfold exploreE at h ⊢
  by_cases g1 : runPre p a b = 0
  case neg => rw [if_pos g1] at h; exact absurd h g1
  rw [if_neg (by simp [g1])] at h ⊢
  by_cases g2 : (runB p a b).2.2 = 0
  case neg => rw [if_pos g2] at h; exact absurd h g2
  rw [if_neg (by simp [g2])]
  unfold runPre at g1
  by_cases g3 : (stepsE p).2 = 0
  case neg => rw [if_pos g3] at g1; exact absurd g1 g3
  rw [if_neg (by simp [g3])] at g1
  unfold runArg at g1
  split at g1
  · cases g1
  · rename_i g4
    exact ⟨g3, by omega, by omega, by omega, g2, rfl⟩
theorem exploreE_err {p : LProc} {a b : Int} (h : (exploreE p a b).2 ≠ 0) : (exploreE p a b).1 = ([], []) := by
  unfold exploreE at h ⊢
  split
  · rfl
  · split
    · rfl
    · rename_i h1 h2; rw [if_neg h1, if_neg h2] at h; exact absurd rfl h
theorem exploreE_same {p : LProc} {a b c d : Int} (h1 : (exploreE p a b).2 = 0) (h2 : (exploreE p c d).2 = 0) : exploreE p a b = exploreE p c d := by
  obtain ⟨_, _, _, _, r1, e1⟩ := exploreE_ok h1
  obtain ⟨_, _, _, _, r2, e2⟩ := exploreE_ok h2
  rw [e1, e2, runB_same r1 r2]

/- the straight process -/
theorem straight_sp : (exploreE straightP 1 2).2 = 8 ∧ exploreE straightP 9 200 = (([[1, 0], [0, 1], [0, 0]], [[(0, 1)], [(1, 2)], []]), 0) ∧ exploreE straightP 1 9 = (([[1, 0], [0, 1], [0, 0]], [[(0, 1)], [(1, 2)], []]), 0) := by
  have hz : (stepsE straightP).2 = 0 := by rw [straight_steps]
  have hl : stepsL straightP = [(1, 0, 1), (2, 1, 0)] := by decide
  have ok : ∀ a b : Int, 0 ≤ a → a ≤ 9 → 0 ≤ b → b ≤ 9 → chkM straightP [a, b] = 0 := fun a b a0 a9 b0 b9 => markOk_chk hz ⟨rfl, fun j => by
    rcases j with _ | _ | j
    · exact ⟨a0, a9⟩
    · exact ⟨b0, b9⟩
    · exact ⟨Int.le_refl _, (by decide : (0 : Int) ≤ 9)⟩⟩
  have hm0 := ok 1 0 (by decide) (by decide) (by decide) (by decide)
  have hm1 := ok 0 1 (by decide) (by decide) (by decide) (by decide)
  have hm2 := ok 0 0 (by decide) (by decide) (by decide) (by decide)
  have f0 : fireE straightP [1, 0] 0 = ([0, 1], 0) := straight_fire
  have f1 : fireE straightP [0, 1] 1 = ([0, 0], 0) := by
    unfold fireE
    rw [if_neg (by simp [hm1]), hl, if_neg (by decide), if_neg (by decide)]
    decide
  have c0 : canE straightP [1, 0] = [0] := by unfold canE; rw [if_pos hm0]; decide
  have c1 : canE straightP [0, 1] = [1] := by unfold canE; rw [if_pos hm1]; decide
  have c2 : canE straightP [0, 0] = [] := by unfold canE; rw [if_pos hm2]; decide
  have hb : beginL straightP = [1, 0] := by decide
  refine ⟨?_, ?_, ?_⟩
  · simp [exploreE, runPre, hz, runArg, runB, hb, putE, tooMany, runGo, edgesE, edgesGo, c0, c1, c2, f0, f1, posOf]
  · simp [exploreE, runPre, hz, runArg, runB, hb, putE, tooMany, runGo, edgesE, edgesGo, c0, c1, c2, f0, f1, posOf]
  · simp [exploreE, runPre, hz, runArg, runB, hb, putE, tooMany, runGo, edgesE, edgesGo, c0, c1, c2, f0, f1, posOf]

/- a search that ends -/
theorem posOf_mem {m : List Int} : ∀ {l : List (List Int)}, m ∈ l → posOf m l < l.length ∧ l.getD (posOf m l) [] = m
  | x :: r, h => by
    unfold posOf
    by_cases e : x = m
    · rw [if_pos e]; exact ⟨by simp, by simpa using e⟩
    · rw [if_neg e]
      rcases List.mem_cons.1 h with h | h
      · exact absurd h.symm e
      · obtain ⟨h1, h2⟩ := posOf_mem h
        exact ⟨by simp; omega, by simpa using h2⟩
/-- an edge of marking m that leads to where step k leads -/
def EdgeOk (p : LProc) (m : List Int) (l : List (List Int)) (e : LEdge) : Prop := (fireE p m e.1).2 = 0 ∧ 0 ≤ e.2 ∧ e.2 < l.length ∧ l.getD e.2.toNat [] = (fireE p m e.1).1
theorem EdgeOk.more {p : LProc} {m : List Int} {l t : List (List Int)} {e : LEdge} (h : EdgeOk p m l e) : EdgeOk p m (l ++ t) e := by
  obtain ⟨h1, h2, h3, h4⟩ := h
  refine ⟨h1, h2, by rw [List.length_append]; omega, ?_⟩
  rw [← h4, List.getD_eq_getElem?_getD, List.getD_eq_getElem?_getD, List.getElem?_append_left (by omega)]
structure SrOk (p : LProc) (tok st : Int) (l : List (List Int)) : Prop where
  nd : l.Nodup
  ok : ∀ m ∈ l, MarkOk p m
  le : ∀ m ∈ l, ∀ x ∈ m, x ≤ tok
  st : (l.length : Int) ≤ st
theorem putE_law {p : LProc} {tok st : Int} {s : Sr} {m : List Int} {fr : Int × Int} (h : SrOk p tok st s.1) (hm : MarkOk p m) (he : (putE tok st s m fr).2.2 = 0) :
    SrOk p tok st (putE tok st s m fr).1.1 ∧ (∃ t, (putE tok st s m fr).1.1 = s.1 ++ t ∧ ∀ i : Nat, s.1.length ≤ i → i < (s.1 ++ t).length → (putE tok st s m fr).2.1 = (i : Int)) ∧
      0 ≤ (putE tok st s m fr).2.1 ∧ (putE tok st s m fr).2.1 < (putE tok st s m fr).1.1.length ∧ (putE tok st s m fr).1.1.getD (putE tok st s m fr).2.1.toNat [] = m := by
  unfold putE at he ⊢
  by_cases g1 : tooMany tok m = true
  · rw [if_pos g1] at he; cases he
  rw [if_neg g1] at he ⊢
  by_cases g3 : m ∈ s.1
  · rw [if_pos g3]
    obtain ⟨h1, h2⟩ := posOf_mem g3
    exact ⟨h, ⟨[], by simp, fun i h1 h2 => by simp at h2; omega⟩, by dsimp only; omega, by dsimp only; omega, by simpa using h2⟩
  rw [if_neg g3] at he ⊢
  by_cases g4 : (s.1.length : Int) = st
  · rw [if_pos g4] at he; cases he
  rw [if_neg g4]
  have hst := h.st
  refine ⟨⟨?_, ?_, ?_, ?_⟩, ⟨[m], rfl, fun i h1 h2 => by simp at h2; dsimp only; omega⟩, by dsimp only; omega, by simp; omega, by simp⟩
  · rw [List.nodup_append]
    refine ⟨h.nd, List.pairwise_singleton _ _, ?_⟩
    intro a ha b hb e
    rw [List.mem_singleton] at hb
    subst hb; subst e
    exact g3 ha
  · intro x hx
    rcases List.mem_append.1 hx with hx | hx
    · exact h.ok x hx
    · rw [List.mem_singleton] at hx; subst hx; exact hm
  · intro x hx
    rcases List.mem_append.1 hx with hx | hx
    · exact h.le x hx
    · rw [List.mem_singleton] at hx; subst hx
      intro n hn
      unfold tooMany at g1
      rw [List.any_eq_true] at g1
      have : ¬ n > tok := fun hgt => g1 ⟨n, hn, by simpa using hgt⟩
      omega
  · simp; omega
theorem fireE_mark {p : LProc} {m : List Int} {k : Int} (h : (fireE p m k).2 = 0) : MarkOk p (fireE p m k).1 := by
  obtain ⟨h1, _, _, h3, h4⟩ := fireE_ok h
  exact fire_next (chk_markOk h1) h3 h4
theorem edgesGo_law {p : LProc} {tok st n : Int} {m : List Int} : ∀ (l : List Int) (s : Sr) (out : List LEdge), SrOk p tok st s.1 → (∀ e ∈ out, EdgeOk p m s.1 e) → (edgesGo p tok st n m l s out).2.2 = 0 →
    SrOk p tok st (edgesGo p tok st n m l s out).1.1 ∧ (edgesGo p tok st n m l s out).2.1.map Prod.fst = out.map Prod.fst ++ l ∧ (∀ e ∈ (edgesGo p tok st n m l s out).2.1, EdgeOk p m (edgesGo p tok st n m l s out).1.1 e) ∧
      (∃ u, (edgesGo p tok st n m l s out).2.1 = out ++ u) ∧ ∃ t, (edgesGo p tok st n m l s out).1.1 = s.1 ++ t ∧ ∀ i : Nat, s.1.length ≤ i → i < (s.1 ++ t).length → ∃ e ∈ (edgesGo p tok st n m l s out).2.1, e.2 = (i : Int)
  | [], s, out, hs, ho, he => ⟨hs, by simp [edgesGo], ho, ⟨[], by simp [edgesGo]⟩, [], by simp [edgesGo], fun i h1 h2 => by simp at h2; omega⟩
  | k :: r, s, out, hs, ho, he => by
    rw [edgesGo] at he ⊢
    by_cases g : (fireE p m k).2 = 0
    case neg => rw [if_pos g] at he; exact absurd he g
    rw [if_neg (by simp [g])] at he ⊢
    by_cases g1 : (putE tok st s (fireE p m k).1 (n, k)).2.2 = 0
    case neg => rw [if_pos g1] at he; exact absurd he g1
    rw [if_neg (by simp [g1])] at he ⊢
    obtain ⟨hs1, ⟨t, ht, hti⟩, hp0, hp1, hp2⟩ := putE_law hs (fireE_mark g) g1
    generalize putE tok st s (fireE p m k).1 (n, k) = q at *
    obtain ⟨q1, q2, q3⟩ := q
    dsimp only at *
    have ho' : ∀ e ∈ out ++ [(k, q2)], EdgeOk p m q1.1 e := by
      intro e h
      rcases List.mem_append.1 h with h | h
      · rw [ht]; exact (ho e h).more
      · rw [List.mem_singleton] at h; subst h
        exact ⟨g, hp0, hp1, hp2⟩
    obtain ⟨a1, a2, a3, ⟨u, a4⟩, t', a5, a6⟩ := edgesGo_law r q1 (out ++ [(k, q2)]) hs1 ho' he
    refine ⟨a1, by rw [a2]; simp, a3, ⟨(k, q2) :: u, by rw [a4]; simp⟩, t ++ t', by rw [a5, ht]; simp, fun i h1 h2 => ?_⟩
    by_cases hi : i < q1.1.length
    · refine ⟨(k, q2), by rw [a4]; simp, ?_⟩
      exact hti i h1 (by rw [← ht]; exact hi)
    · exact a6 i (by omega) (by rw [ht]; simpa using h2)
structure SpOk (p : LProc) (l : List (List Int)) (nx : List (List LEdge)) : Prop where
  le : nx.length ≤ l.length
  can : ∀ j, j < nx.length → (nx.getD j []).map Prod.fst = canE p (l.getD j [])
  ed : ∀ j, j < nx.length → ∀ e ∈ nx.getD j [], EdgeOk p (l.getD j []) l e
  fr : ∀ i : Nat, 1 ≤ i → i < l.length → ∃ j, j < i ∧ j < nx.length ∧ ∃ e ∈ nx.getD j [], e.2 = (i : Int)
theorem getDG_left {α : Type} {l t : List α} {j : Nat} {d : α} (h : j < l.length) : (l ++ t).getD j d = l.getD j d := by rw [List.getD_eq_getElem?_getD, List.getD_eq_getElem?_getD, List.getElem?_append_left h]
theorem getDG_last {α : Type} {l : List α} {x d : α} : (l ++ [x]).getD l.length d = x := by rw [List.getD_eq_getElem?_getD, List.getElem?_append_right (Nat.le_refl _)]; simp
theorem runGo_law {p : LProc} {tok st : Int} : ∀ (f n : Nat) (s : Sr) (nx : List (List LEdge)), f + n = 201 → st ≤ 200 → nx.length = n → SrOk p tok st s.1 → SpOk p s.1 nx → (runGo p tok st f n s nx).2.2 = 0 →
    SrOk p tok st (runGo p tok st f n s nx).1.1 ∧ SpOk p (runGo p tok st f n s nx).1.1 (runGo p tok st f n s nx).2.1 ∧ (runGo p tok st f n s nx).2.1.length = (runGo p tok st f n s nx).1.1.length ∧ ∃ t, (runGo p tok st f n s nx).1.1 = s.1 ++ t
  | 0, n, s, nx, hf, h200, hn, hs, hx, he => by have := hx.le; have := hs.st; omega
  | f + 1, n, s, nx, hf, h200, hn, hs, hx, he => by
    rw [runGo] at he ⊢
    by_cases hlt : n < s.1.length
    case neg =>
      rw [if_neg hlt] at he ⊢
      exact ⟨hs, hx, by have := hx.le; dsimp only; omega, [], by simp⟩
    rw [if_pos hlt] at he ⊢
    by_cases g1 : (edgesE p tok st n s).2.2 = 0
    case neg => rw [if_pos g1] at he; exact absurd he g1
    rw [if_neg (by simp [g1])] at he ⊢
    obtain ⟨a1, a2, a3, _, t, a5, a6⟩ := edgesGo_law (p := p) (tok := tok) (st := st) (n := (n : Int)) (m := s.1.getD n []) (canE p (s.1.getD n [])) s [] hs (fun e h => by cases h) g1
    change SrOk p tok st (edgesE p tok st n s).1.1 at a1
    change (edgesE p tok st n s).2.1.map Prod.fst = _ at a2
    change ∀ e ∈ (edgesE p tok st n s).2.1, EdgeOk p _ (edgesE p tok st n s).1.1 e at a3
    change (edgesE p tok st n s).1.1 = _ at a5
    change ∀ i : Nat, _ → _ → ∃ e ∈ (edgesE p tok st n s).2.1, _ at a6
    generalize edgesE p tok st n s = q at *
    obtain ⟨s', es, er⟩ := q
    dsimp only at *
    have hx' : SpOk p s'.1 (nx ++ [es]) := by
      have hle := hx.le
      refine ⟨by rw [a5]; simp; omega, fun j hj => ?_, fun j hj => ?_, fun i h1 h2 => ?_⟩
      · simp at hj
        by_cases e : j < nx.length
        · rw [getDG_left e, a5, getDG_left (by omega)]; exact hx.can j e
        · obtain rfl : j = nx.length := by omega
          rw [getDG_last, a2, a5, getDG_left (by omega), hn]; simp
      · simp at hj
        by_cases e : j < nx.length
        · rw [getDG_left e, a5, getDG_left (by omega)]; exact fun x h => (hx.ed j e x h).more
        · obtain rfl : j = nx.length := by omega
          rw [getDG_last, a5, getDG_left (by omega), hn, ← a5]; exact a3
      · by_cases e : i < s.1.length
        · obtain ⟨j, q1, q2, x, q3, q4⟩ := hx.fr i h1 e
          exact ⟨j, q1, by simp; omega, x, by rw [getDG_left q2]; exact q3, q4⟩
        · obtain ⟨x, q3, q4⟩ := a6 i (by omega) (by rw [← a5]; exact h2)
          exact ⟨nx.length, by omega, by simp, x, by rw [getDG_last]; exact q3, q4⟩
    obtain ⟨b1, b2, b3, t', b4⟩ := runGo_law f (n + 1) s' (nx ++ [es]) (by omega) h200 (by simp [hn]) a1 hx' he
    exact ⟨b1, b2, b3, t ++ t', by rw [b4, a5]; simp⟩
/-- what a space is -/
theorem explore_law {p : LProc} {tok st : Int} (h : (exploreE p tok st).2 = 0) :
    (stepsE p).2 = 0 ∧ SrOk p tok st (exploreE p tok st).1.1 ∧ SpOk p (exploreE p tok st).1.1 (exploreE p tok st).1.2 ∧ (exploreE p tok st).1.2.length = (exploreE p tok st).1.1.length ∧ 0 < (exploreE p tok st).1.1.length ∧ (exploreE p tok st).1.1.getD 0 [] = beginL p ∧ st ≤ 200 := by
  obtain ⟨hz, h1, h2, h3, hr, he⟩ := exploreE_ok h
  rw [he]
  dsimp only
  unfold runB at hr ⊢
  by_cases g1 : (putE tok st ([], [], (0, 0)) (beginL p) (-1, -1)).2.2 = 0
  case neg => rw [if_pos g1] at hr; exact absurd hr g1
  rw [if_neg (by simp [g1])] at hr ⊢
  have hs0 : SrOk p tok st ([] : List (List Int)) := ⟨List.Pairwise.nil, fun m h => (by cases h), fun m h => (by cases h), by simp; omega⟩
  obtain ⟨a1, ⟨t, a2, a2i⟩, a3, a4, a5⟩ := putE_law (s := ([], [], (0, 0))) hs0 (beginL_ok (p := p)) g1
  have hd : (putE tok st ([], [], (0, 0)) (beginL p) (-1, -1)).1.1 = [beginL p] := by
    unfold putE at g1 ⊢
    by_cases q1 : tooMany tok (beginL p) = true
    · rw [if_pos q1] at g1; cases g1
    rw [if_neg q1, if_neg (by simp)] at g1 ⊢
    by_cases q2 : (([] : List (List Int)).length : Int) = st
    · rw [if_pos q2] at g1; cases g1
    rw [if_neg q2]; rfl
  generalize putE tok st ([], [], (0, 0)) (beginL p) (-1, -1) = q at *
  obtain ⟨b1, b2, b3, t', b4⟩ := runGo_law 201 0 q.1 [] rfl h3 rfl a1 ⟨by simp, fun j h => absurd h (by simp), fun j h => absurd h (by simp), fun i h1 h2 => by rw [hd] at h2; simp at h2; omega⟩ hr
  refine ⟨hz, b1, b2, b3, by rw [b4, hd]; simp, by rw [b4, hd]; simp, h3⟩
/-- a step of a walk is an edge -/
theorem space_step {p : LProc} {l : List (List Int)} {nx : List (List LEdge)} {at_ : Nat} {k : Int} {m m' : List Int} (hz : (stepsE p).2 = 0) (hx : SpOk p l nx) (ha : at_ < nx.length) (hm : l.getD at_ [] = m) (hok : MarkOk p m) (h : StepAt p m k m') :
    ∃ j, j < (nx.getD at_ []).length ∧ idxOf (fun e : LEdge => e.1 == k) (nx.getD at_ []) = (j : Int) ∧ 0 ≤ ((nx.getD at_ []).getD j (0, 0)).2 ∧ ((nx.getD at_ []).getD j (0, 0)).2 < l.length ∧ l.getD ((nx.getD at_ []).getD j (0, 0)).2.toNat [] = m' := by
  have hcm := markOk_chk hz hok
  have hc := hx.can at_ ha
  have he := hx.ed at_ ha
  rw [hm] at hc he
  generalize nx.getD at_ [] = es at *
  obtain ⟨h0, h1, h2, h3⟩ := h
  have hin : k ∈ canE p m := by
    unfold canE
    rw [if_pos hcm]
    have : k = ((k.toNat : Nat) : Int) := by omega
    rw [this]
    unfold canL canP
    rw [List.mem_map]
    exact ⟨k.toNat, List.mem_filter.2 ⟨List.mem_range.2 (by omega), h2⟩, rfl⟩
  rw [← hc, List.mem_map] at hin
  obtain ⟨e, hmem, hek⟩ := hin
  have hex : ∃ j, j < es.length ∧ idxOf (fun e : LEdge => e.1 == k) es = (j : Int) ∧ (es.getD j (0, 0)).1 = k := by
    unfold idxOf
    cases h : es.findIdx? (fun e : LEdge => e.1 == k) with
    | none =>
      have := List.findIdx?_eq_none_iff.1 h e hmem
      simp [hek] at this
    | some i =>
      obtain ⟨h1, h2, _⟩ := List.findIdx?_eq_some_iff_getElem.1 h
      refine ⟨i, h1, rfl, ?_⟩
      rw [List.getD_eq_getElem?_getD, List.getElem?_eq_getElem h1]
      simpa using h2
  obtain ⟨j, q1, q2, q3⟩ := hex
  have hmj : es.getD j (0, 0) ∈ es := by rw [List.getD_eq_getElem?_getD, List.getElem?_eq_getElem q1]; exact List.getElem_mem _
  obtain ⟨r1, r2, r3, r4⟩ := he _ hmj
  refine ⟨j, q1, q2, r2, r3, ?_⟩
  rw [r4, q3]
  unfold fireE
  rw [if_neg (by simp [hcm]), if_neg (by omega), if_neg (by rw [h2]; decide), h3]
  rfl
end Go.Proofs.Ytadbkppgaekmpaa
/-
  The world of a process: plain lists, no program in sight.
-/
set_option linter.unusedVariables false
set_option linter.unusedSimpArgs false
namespace Go.Proofs.Ytadbkppgaekmpaa

abbrev LWorld4 := List Int × List (List Int) × List Nat × List (List Int)
def ofRow (l : List LEdge) (n : Nat) : List LEdge := if l = [] then [(-1, (n : Int))] else l.map fun x => (x.1, (n : Int))
def ofP (nx : List (List LEdge)) (k : Nat) : List LEdge := (List.range k).flatMap fun n => ofRow (nx.getD n []) n
def mny (nx : List (List LEdge)) (n : Nat) : Nat := max 1 (nx.getD n []).length
def atV (nx : List (List LEdge)) (n : Nat) : Nat := (ofP nx n).length
theorem gD_left {α : Type} {l t : List α} {j : Nat} {d : α} (h : j < l.length) : (l ++ t).getD j d = l.getD j d := by simp [List.getD_eq_getElem?_getD, List.getElem?_append_left h]
theorem gD_right {α : Type} {l t : List α} {i : Nat} {d : α} : (l ++ t).getD (l.length + i) d = t.getD i d := by simp [List.getD_eq_getElem?_getD, List.getElem?_append_right]
theorem gD_map {α β : Type} {f : α → β} {l : List α} {i : Nat} {d : α} {e : β} (h : i < l.length) : (l.map f).getD i e = f (l.getD i d) := by simp [List.getD_eq_getElem?_getD, List.getElem?_eq_getElem h]
section
variable {nx : List (List LEdge)}
theorem ofRow_len {l : List LEdge} {n : Nat} : (ofRow l n).length = max 1 l.length := by
  unfold ofRow
  split
  · rename_i h; subst h; rfl
  · rename_i h
    have : 0 < l.length := List.length_pos_iff.2 h
    rw [List.length_map]; omega
theorem ofP_next {k : Nat} : ofP nx (k + 1) = ofP nx k ++ ofRow (nx.getD k []) k := by
  unfold ofP; rw [List.range_succ, List.flatMap_append]; simp
theorem atV_zero : atV nx 0 = 0 := rfl
theorem atV_next {n : Nat} : atV nx (n + 1) = atV nx n + mny nx n := by unfold atV mny; rw [ofP_next, List.length_append, ofRow_len]
theorem atV_mono {a b : Nat} (h : a ≤ b) : atV nx a ≤ atV nx b := by
  induction b with
  | zero => rw [show a = 0 by omega]; exact Nat.le_refl _
  | succ b ih =>
    by_cases e : a = b + 1
    · rw [e]; exact Nat.le_refl _
    · rw [atV_next]; exact Nat.le_trans (ih (by omega)) (Nat.le_add_right _ _)
theorem mny_pos {n : Nat} : 1 ≤ mny nx n := Nat.le_max_left _ _
theorem atV_lt {n K i : Nat} (hn : n < K) (hi : i < mny nx n) : atV nx n + i < atV nx K := by
  have h1 := atV_mono (nx := nx) (show n + 1 ≤ K by omega)
  rw [atV_next] at h1
  omega
theorem of_at {n i : Nat} : ∀ {K : Nat}, n < K → i < mny nx n → (ofP nx K).getD (atV nx n + i) (0, 0) = (ofRow (nx.getD n []) n).getD i (0, 0)
  | 0, h, _ => absurd h (by omega)
  | K + 1, hn, hi => by
    by_cases e : n = K
    · subst e
      rw [ofP_next]; exact gD_right
    · have hlt := atV_lt (nx := nx) (show n < K by omega) hi
      have ih := of_at (K := K) (show n < K by omega) hi
      rw [← ih, ofP_next]; exact gD_left hlt
theorem of_inv {j : Nat} : ∀ {K : Nat}, j < atV nx K → ∃ n i, n < K ∧ i < mny nx n ∧ j = atV nx n + i
  | 0, h => absurd h (by rw [atV_zero]; omega)
  | K + 1, h => by
    rw [atV_next] at h
    by_cases e : j < atV nx K
    · obtain ⟨n, i, h1, h2, h3⟩ := of_inv e
      exact ⟨n, i, by omega, h2, h3⟩
    · exact ⟨K, j - atV nx K, by omega, by omega, by omega⟩
/-- a state's step and marking -/
def ofX (nx : List (List LEdge)) (j : Nat) : LEdge := (ofP nx nx.length).getD j (0, 0)
theorem ofX_at {n i : Nat} (hn : n < nx.length) (hi : i < mny nx n) : ofX nx (atV nx n + i) = (if nx.getD n [] = [] then (-1, (n : Int)) else (((nx.getD n []).getD i (0, 0)).1, (n : Int))) := by
  unfold ofX
  rw [of_at hn hi]
  unfold ofRow
  by_cases h : nx.getD n [] = []
  · rw [if_pos h, if_pos h]
    unfold mny at hi
    rw [h] at hi
    have : i = 0 := by simp at hi; omega
    subst this; rfl
  · rw [if_neg h, if_neg h]
    unfold mny at hi
    have : 0 < (nx.getD n []).length := List.length_pos_iff.2 h
    have hi' : i < (nx.getD n []).length := by omega
    exact gD_map (d := (0, 0)) hi'
end
def atL (nx : List (List LEdge)) (k : Nat) : List Int := (List.range k).map fun n => ((atV nx n : Nat) : Int)
def manyL (nx : List (List LEdge)) (k : Nat) : List Int := (List.range k).map fun n => ((mny nx n : Nat) : Int)
def allL (nx : List (List LEdge)) (m : Nat) : List Int := (List.range (mny nx m)).map fun i : Nat => ((atV nx m + i : Nat) : Int)
def toE (nx : List (List LEdge)) (j : Nat) : LEdge := (nx.getD (ofX nx j).2.toNat []).getD (j - atV nx (ofX nx j).2.toNat) (0, 0)
def nextJ (nx : List (List LEdge)) (j : Nat) : List Int := if (ofX nx j).1 < 0 then [(j : Int)] else allL nx (toE nx j).2.toNat
def labelJ (sl : List LStep) (nx : List (List LEdge)) (j : Nat) : Nat := if (ofX nx j).1 < 0 then 9223372036854775808 else 2 ^ (sl.getD (ofX nx j).1.toNat (0, 0, 0)).1.toNat
def canJ (nx : List (List LEdge)) (j : Nat) (k : Int) : Bool := (nx.getD (ofX nx j).2.toNat []).any fun y => y.1 == k
def inF (nx : List (List LEdge)) (k : Int) (j : Nat) : Bool := !canJ nx j k || (ofX nx j).1 == k
def fairN (nx : List (List LEdge)) (k : Int) (n : Nat) : List Int := ((List.range n).filter (inF nx k)).map fun j : Nat => (j : Int)
def fairK (nx : List (List LEdge)) (k : Int) : List Int := fairN nx k (atV nx nx.length)
def runsW (sl : List LStep) (nx : List (List LEdge)) : LWorld4 := (allL nx 0, (List.range (atV nx nx.length)).map (nextJ nx), (List.range (atV nx nx.length)).map (labelJ sl nx), (List.range sl.length).map fun k : Nat => fairK nx (k : Int))
def nilW : LWorld4 := ([], [], [], [])
noncomputable def runsE (p : LProc) (tok st : Int) : (LWorld4 × List LEdge) × Int :=
  if (exploreE p tok st).2 ≠ 0 then ((nilW, []), (exploreE p tok st).2) else if 600 < atV (exploreE p tok st).1.2 (exploreE p tok st).1.2.length then ((nilW, []), 2)
  else ((runsW (stepsE p).1 (exploreE p tok st).1.2, ofP (exploreE p tok st).1.2 (exploreE p tok st).1.2.length), 0)
theorem fairN_next {nx : List (List LEdge)} {k : Int} {n : Nat} : fairN nx k (n + 1) = fairN nx k n ++ if inF nx k n = true then [(n : Int)] else [] := by
  unfold fairN
  rw [List.range_succ, List.filter_append, List.map_append]
  congr 1
  rw [List.filter_cons]
  split <;> simp
theorem fairN_len {nx : List (List LEdge)} {k : Int} {n : Nat} : (fairN nx k n).length ≤ n := by
  unfold fairN
  rw [List.length_map]
  exact Nat.le_trans (List.length_filter_le _ _) (by simp)
/-- what the walk needs to know of the edges -/
structure NxOk (sl : List LStep) (nx : List (List LEdge)) : Prop where
  ed : ∀ j, j < nx.length → ∀ e ∈ nx.getD j [], 0 ≤ e.1 ∧ e.1 < sl.length ∧ 0 ≤ e.2 ∧ e.2 < nx.length
  row : ∀ j, (nx.getD j []).length ≤ 60
  n : nx.length ≤ 200
  pos : 0 < nx.length
  node : ∀ s ∈ sl, 0 ≤ s.1 ∧ s.1 < 62
  sl : sl.length ≤ 60
theorem canP_sub {p : LProc} {m : List Int} {k : Int} (h : k ∈ canE p m) : 0 ≤ k ∧ k < (stepsL p).length := by
  unfold canE at h
  split at h
  · unfold canL canP at h
    obtain ⟨i, hi, rfl⟩ := List.mem_map.1 h
    have := List.mem_range.1 (List.mem_filter.1 hi).1
    omega
  · cases h
theorem stepsL_node {p : LProc} : ∀ s ∈ stepsL p, 0 ≤ s.1 ∧ s.1 < p.1.length := fun s hs => by
  obtain ⟨n, hn, hs⟩ := stepsP_mem.1 hs
  have := stepsK_node s hs
  rw [this]; omega
theorem explore_nx {p : LProc} {tok st : Int} (h : (exploreE p tok st).2 = 0) : NxOk (stepsE p).1 (exploreE p tok st).1.2 := by
  obtain ⟨hz, hS, hx, hl, h0, _, h200⟩ := explore_law h
  obtain ⟨hc, he, h60⟩ := stepsE_ok hz
  have hst := hS.st
  have hrow : ∀ j, j < (exploreE p tok st).1.2.length → ((exploreE p tok st).1.2.getD j []).length = (canE p ((exploreE p tok st).1.1.getD j [])).length := fun j hj => by
    rw [← hx.can j hj, List.length_map]
  refine ⟨fun j hj e hE => ?_, fun j => ?_, by omega, by omega, fun s hs => ?_, by rw [he]; exact h60⟩
  · have h1 := hx.ed j hj e hE
    have h2 : e.1 ∈ canE p ((exploreE p tok st).1.1.getD j []) := by rw [← hx.can j hj]; exact List.mem_map.2 ⟨e, hE, rfl⟩
    have h3 := canP_sub h2
    rw [he]
    exact ⟨h3.1, h3.2, h1.2.1, by have := h1.2.2.1; omega⟩
  · by_cases hj : j < (exploreE p tok st).1.2.length
    · rw [hrow j hj]
      unfold canE
      split
      · unfold canL canP
        rw [List.length_map]
        exact Nat.le_trans (List.length_filter_le _ _) (by simp; exact h60)
      · simp
    · rw [List.getD_eq_getElem?_getD, List.getElem?_eq_none (by omega)]; simp
  · rw [he] at hs
    have h1 := stepsL_node s hs
    have h2 := (chkPr_ok hc).n
    omega
end Go.Proofs.Ytadbkppgaekmpaa
/-
  Maps from a key to its number, made by the call: the keys as a list, in the order in which they came. Over any program.
-/
set_option linter.unusedVariables false
set_option linter.unusedSimpArgs false
namespace Go.Proofs.Ytadbkppgaekmpaa
open Go.RowKit

/-- a map type, its key's type and its element's type -/
class IsM (P : Program) (t : TypeId) (k e : outParam TypeId) : Prop where
  ok : P.underlying t = some (.map k e)
/-- keys of which the model's order is whole -/
class IsKy (P : Program) (k : TypeId) : Prop where
  ok : WideMaps.KeyLaw P k
theorem IsKy.of {P : Program} {k : TypeId} {d : TypeDesc} (hl : laidOutB P = true) {m : Nat} (hm : Nat.ble (m + 1) 10000 = true) (hrow : Nat.ble (k + 1) P.types.size = true) (hk : P.keyTypeAt m k = true) (hu : P.underlying k = some d) (hd : aggD d = true) : IsKy P k :=
  ⟨deep_law_laid hl (Nat.le_of_ble_eq_true hm) (Nat.lt_of_succ_le (Nat.le_of_ble_eq_true hrow)) hk (by
    rw [hu]; cases d <;> first | rfl | (cases hd))⟩
/-- a type whose zero value is the number 0 -/
class IsZ0 (P : Program) (e : TypeId) : Prop where
  ok : (P.info? e).map (fun i => i.zero) = some (some (.int .i64 0))
/-- v is a key of type k -/
def KeyV (P : Program) (k : TypeId) (v : Value) : Prop := ∃ l, keyOf P k v = some l
/-- block b is a map that holds the keys ks, each with its number -/
def NumM (P : Program) (k : TypeId) (w : World) (b : Nat) (ks : List Value) : Prop :=
  ∃ (es : Array MapEntry) (clock : Nat), w.heap[b]? = some (.map es clock) ∧ es.toList.map (·.key) = ks ∧ (∀ (i : Nat) (e : MapEntry), es.toList[i]? = some e → e.val = .int .i64 (i : Int)) ∧ (∀ x ∈ ks, KeyV P k x) ∧ ks.Nodup
section
variable {P : Program} {k : TypeId} {w w' : World} {b : Nat} {ks : List Value}
theorem NumM.lt (h : NumM P k w b ks) : b < w.heap.size := by
  obtain ⟨es, clock, hb, _⟩ := h
  exact (Array.getElem?_eq_some_iff.1 hb).1
theorem NumM.at (h : NumM P k w b ks) (hb : w'.heap[b]? = w.heap[b]?) : NumM P k w' b ks := by
  obtain ⟨es, clock, h1, h2⟩ := h
  exact ⟨es, clock, hb.trans h1, h2⟩
theorem NumM.ext (h : NumM P k w b ks) (hE : Ext w w') : NumM P k w' b ks := h.at (hE.block b h.lt)
theorem NumM.kept {row : Option Nat} (h : NumM P k w b ks) (hg : w.grownBy w' row) (hne : some b ≠ row) : NumM P k w' b ks := h.at (hg.block b h.lt hne)
theorem NumM.made (w : World) : NumM P k (w.alloc (.map #[] 0)) w.heap.size [] :=
  ⟨#[], 0, heap_alloc_new w _, rfl, fun i e h => by simp at h, fun x h => by simp at h, List.Pairwise.nil⟩
theorem run_num {t e : TypeId} {x : Value} [ht : IsM P t k e] [hk : IsKy P k] [hz : IsZ0 P e] (h : NumM P k w b ks) (hx : KeyV P k x) :
    (x ∉ ks ∧ (Instr.lookup t (.map (some b)) x true).run P w = .ok (.tuple #[.int .i64 0, .bool false]) w) ∨
    ∃ (j : Nat) (hj : j < ks.length), ks[j] = x ∧ (Instr.lookup t (.map (some b)) x true).run P w = .ok (.tuple #[.int .i64 (j : Int), .bool true]) w := by
  obtain ⟨es, clock, hb, hes, hv, hks, hnd⟩ := h
  obtain ⟨l, hx⟩ := hx
  obtain ⟨i, h1, h2⟩ := Option.map_eq_some_iff.1 hz.ok
  have hzr : (zeroValue e).run P w = .ok (.int .i64 0) w := by simp [zeroValue, typeInfo, h1, h2]
  have hkeys : ∀ e ∈ es.toList, ∃ l, keyOf P k e.key = some l := fun e he => hks _ (hes ▸ List.mem_map.2 ⟨e, he, rfl⟩)
  rcases hk.ok.find w hx es.toList hkeys with ⟨g1, g2⟩ | ⟨j, e0, g1, g2, g3⟩
  · refine .inl ⟨fun hm => ?_, by simp [Instr.lookup, run_underlying ht.ok, MapKept.run_getObj_map hb, hk.ok.check w _ hx, g1, hzr, Result.andThen]⟩
    rw [← hes] at hm
    obtain ⟨e, he, hke⟩ := List.mem_map.1 hm
    exact g2 e he hke
  · have hj : j < ks.length := by rw [← hes, List.length_map]; exact (List.getElem?_eq_some_iff.1 g2).1
    refine .inr ⟨j, hj, ?_, ?_⟩
    · subst hes
      rw [List.getElem_map, ← g3]
      congr 1
      exact (List.getElem?_eq_some_iff.1 g2).2
    · have hval := hv j e0 g2
      simp [Instr.lookup, run_underlying ht.ok, MapKept.run_getObj_map hb, hk.ok.check w _ hx, g1, Result.andThen, hval]
theorem run_numPut {t e : TypeId} {x : Value} [ht : IsM P t k e] [hk : IsKy P k] (h : NumM P k w b ks) (hx : KeyV P k x) (hn : x ∉ ks) :
    ∃ w', (Instr.mapUpdate t (.map (some b)) x (.int .i64 (ks.length : Int))).run P w = .ok () w' ∧ NumM P k w' b (ks ++ [x]) ∧ w.grownBy w' (some b) := by
  obtain ⟨es, clock, hb, hes, hv, hks, hnd⟩ := h
  obtain ⟨l, hx'⟩ := hx
  have hkeys : ∀ e ∈ es.toList, ∃ l, keyOf P k e.key = some l := fun e he => hks _ (hes ▸ List.mem_map.2 ⟨e, he, rfl⟩)
  have hsz : es.toList.length = ks.length := by rw [← hes, List.length_map]
  have hlt := (Array.getElem?_eq_some_iff.1 hb).1
  rcases hk.ok.find w hx' es.toList hkeys with ⟨g1, g2⟩ | ⟨j, e0, g1, g2, g3⟩
  · refine ⟨_, by simp [Instr.mapUpdate, run_underlying ht.ok, MapKept.run_getObj_map hb, hk.ok.check w false hx', g1, MapKept.run_setObj_map _ hb, Result.andThen]; rfl, ?_, ?_⟩
    · refine ⟨es.push ⟨x, .int .i64 (ks.length : Int), clock⟩, clock + 1, by simp [hlt], by simp [hes], fun i e he => ?_, fun y hy => ?_, ?_⟩
      · rw [Array.toList_push] at he
        rcases Nat.lt_or_ge i es.toList.length with hi | hi
        · rw [List.getElem?_append_left hi] at he
          exact hv i e he
        · rw [List.getElem?_append_right hi] at he
          have h0 : i - es.toList.length = 0 := by
            have := (List.getElem?_eq_some_iff.1 he).1
            simp at this; omega
          rw [h0] at he
          simp at he
          subst he
          show Value.int .i64 (ks.length : Int) = _
          congr 1; omega
      · rcases List.mem_append.1 hy with hy | hy
        · exact hks y hy
        · rw [List.mem_singleton] at hy; subst hy; exact ⟨l, hx'⟩
      · rw [List.nodup_append]
        refine ⟨hnd, by simp, fun a ha c hc e => ?_⟩
        rw [List.mem_singleton] at hc
        subst hc; subst e; exact hn ha
    · exact ⟨rfl, rfl, rfl, by simp, fun i _ hi => by
        simp only [Array.getElem?_setIfInBounds]
        rw [if_neg (fun e => hi (by rw [e]))]⟩
  · exact absurd (hes ▸ List.mem_map.2 ⟨e0, List.mem_of_getElem? g2, g3⟩) hn
end

section
variable {P : Program} {Q : Exit → Act → World → Prop} {n : Nat} {σ : Sg} {w : World} {L rest : List Oper} {d : Nat} {ty : TypeId} {pos : String} {af : Array Edge} {g : Option (Nat × Bool)} {t k e : TypeId} {b : Nat} {ks : List Value} {x y z : Operand} {v : Value}
/-- v, ok := m[x] -/
theorem WL.num (hg : gd L σ ⟨some d, .lookup t x y true, ty, pos, af, g⟩ = some true) (hd : Nat.ble (d + 1) n = true) (hx : ev σ x = some (.map (some b))) (hy : ev σ y = some v) [ht : IsM P t k e] [hk : IsKy P k] [hz : IsZ0 P e]
    (h : NumM P k w b ks) (hv : KeyV P k v)
    (h1 : v ∉ ks → WL P L Q rest n ((d, .tuple ⟨[.int .i64 0, .bool false]⟩) :: σ) w)
    (h2 : ∀ (j : Nat) (hj : j < ks.length), ks[j] = v → WL P L Q rest n ((d, .tuple ⟨[.int .i64 (j : Int), .bool true]⟩) :: σ) w) :
    WL P L Q (⟨some d, .lookup t x y true, ty, pos, af, g⟩ :: rest) n σ w := by
  rcases run_num (t := t) h hv with ⟨g1, g2⟩ | ⟨j, hj, g1, g2⟩
  · refine WL.run hg hd (fun a ha => ?_) (h1 g1)
    simp [execOp, ha.ev hx, ha.ev hy, g2]
  · refine WL.run hg hd (fun a ha => ?_) (h2 j hj g1)
    simp [execOp, ha.ev hx, ha.ev hy, g2]
/-- m[x] = len(m), at a new key -/
theorem WL.numPut (hg : gd L σ ⟨none, .mapUpdate t x y z, ty, pos, af, g⟩ = some true) (hx : ev σ x = some (.map (some b))) (hy : ev σ y = some v) (hzv : ev σ z = some (.int .i64 (ks.length : Int))) [ht : IsM P t k e] [hk : IsKy P k]
    (h : NumM P k w b ks) (hv : KeyV P k v) (hn : v ∉ ks)
    (hr : ∀ w', NumM P k w' b (ks ++ [v]) → w.grownBy w' (some b) → WL P L Q rest n σ w') :
    WL P L Q (⟨none, .mapUpdate t x y z, ty, pos, af, g⟩ :: rest) n σ w := by
  obtain ⟨w', g1, g2, g3⟩ := run_numPut (t := t) h hv hn
  refine WL.runU hg (fun a ha => ?_) (hr w' g2 g3)
  simp [execOp, ha.ev hx, ha.ev hy, ha.ev hzv, g1]
/-- make(map[K]int) -/
theorem WL.mkMap (hg : gd L σ ⟨some d, .makeMap t none, ty, pos, af, g⟩ = some true) (hd : Nat.ble (d + 1) n = true)
    (h : NumM P k (w.alloc (.map #[] 0)) w.heap.size [] → WL P L Q rest n ((d, .map (some w.heap.size)) :: σ) (w.alloc (.map #[] 0))) :
    WL P L Q (⟨some d, .makeMap t none, ty, pos, af, g⟩ :: rest) n σ w := by
  refine WL.run hg hd (fun a ha => ?_) (h (NumM.made w))
  simp [execOp, Instr.makeMap]
end
/-- a key that is a pair of numbers -/
theorem KeyV.pair {P : Program} {k fa fb : TypeId} {x y : Int} (h : (P.keyType k && Value.formed P k (.agg #[.int .i64 0, .int .i64 0])) = true)
    (hk : ∀ a b : Int, P.keyLits (P.types.size + 1) k [.int .i64 a, .int .i64 b] = (if (Lit.int .i64 a).wf = true ∧ (Lit.int .i64 b).wf = true then some [.int .i64 a, .int .i64 b] else none))
    (hd : ∃ d, P.underlying k = some (.struct d)) (hx : (Lit.int .i64 x).wf = true) (hy : (Lit.int .i64 y).wf = true) : KeyV P k (.agg ⟨[.int .i64 x, .int .i64 y]⟩) := by
  obtain ⟨d, hd⟩ := hd
  refine ⟨.string (keyBytes [.int .i64 x, .int .i64 y]), ?_⟩
  unfold keyOf
  rw [hd]
  dsimp only
  have hf : Value.formed P k (.agg ⟨[.int .i64 x, .int .i64 y]⟩) = Value.formed P k (.agg #[.int .i64 0, .int .i64 0]) := by
    unfold Value.formed
    rw [hd]; rfl
  rw [hf, if_pos h]
  show Option.map _ (P.keyLits (P.types.size + 1) k [.int .i64 x, .int .i64 y]) = _
  rw [hk, if_pos ⟨hx, hy⟩]
  rfl
end Go.Proofs.Ytadbkppgaekmpaa
/-
  Arrays in a variable: an element's address, a store at a reckoned place, the whole read; keys that are arrays or pairs of numbers. Over any program.
-/
set_option linter.unusedVariables false
set_option linter.unusedSimpArgs false
namespace Go.Proofs.Ytadbkppgaekmpaa
open Go.RowKit

class IsA (P : Program) (t : TypeId) (k : outParam Nat) (e : outParam TypeId) : Prop where
  ok : P.underlying t = some (.array k e)
section
variable {P : Program} {Q : Exit → Act → World → Prop} {n : Nat} {σ : Sg} {w : World} {L rest : List Oper} {d : Nat} {ty : TypeId} {pos : String} {af : Array Edge} {g : Option (Nat × Bool)} {t e : TypeId} {x y : Operand} {b o : Nat} {cells : List Value}
/-- &x[i], x an array -/
theorem WL.idxA {ix : Operand} {i k : Nat} {kd : IntKind} {e' : TypeId} (hg : gd L σ ⟨some d, .indexAddr t x ix, ty, pos, af, g⟩ = some true) (hd : Nat.ble (d + 1) n = true) (hx : ev σ x = some (.pointer (some ⟨b, o, none⟩))) (hi : ev σ ix = some (.int kd (i : Int)))
    [ha : IsA P t k e'] [hc : IsC P e' 1 false] (h1 : i < k) (h : WL P L Q rest n ((d, .pointer (some ⟨b, o + i, none⟩)) :: σ) w) : WL P L Q (⟨some d, .indexAddr t x ix, ty, pos, af, g⟩ :: rest) n σ w := by
  obtain ⟨inf, dd, hi1, hi2, _, _⟩ := hc.ok
  refine WL.run hg hd (fun a ha0 => ?_) h
  simp [execOp, ha0.ev hx, ha0.ev hi, Instr.indexAt, asIntOf, run_underlying ha.ok, Instr.sureAddr, h1, sizeOf, typeInfo, hi1, hi2, WideShapes.add_plain]
/-- *p = v, one cell, wherever it lies -/
theorem WL.st1 {v : Value} (hg : gd L σ ⟨none, .store t x y, ty, pos, af, g⟩ = some true) (hx : ev σ x = some (.pointer (some ⟨b, o, none⟩))) (hy : ev σ y = some v) [hc : IsC P t 1 false] (hb : Blk w b e cells)
    (ho : o < cells.length) (hv : cellsL v = [v]) (h1 : v.oneCell' = true)
    (h : ∀ w', Blk w' b e (cells.set o v) → w.grownBy w' (some b) → WL P L Q rest n σ w') : WL P L Q (⟨none, .store t x y, ty, pos, af, g⟩ :: rest) n σ w := by
  obtain ⟨i, dd, hi1, hi2, _, _⟩ := hc.ok
  have hst := run_storeCells_at P b o e [v] 0 cells.toArray w hb (by simp; omega) (by simpa using h1)
  simp only [Nat.add_zero] at hst
  have e1 : cells.take o ++ [v] ++ cells.drop (o + [v].length) = cells.set o v := by
    rw [List.set_eq_take_append_cons_drop, if_pos ho]; simp
  refine WL.runU hg (fun a ha => ?_) (h _ (by
    have := setRow_heap w b cells.toArray (cells.set o v).toArray e (0, 0) hb
    exact this) (grown_setRow w b _))
  simp only [execOp, ha.ev hx, ha.ev hy, Instr.storeAt, Sem.run_bind, Instr.sureAddr, Sem.run_pure, Result.andThen_ok, storeVar, sizeOf, typeInfo, run_program, hi1, hi2, cellsL_eq, hv]
  rw [← e1]
  simp
  simp [hst]
theorem run_ldAll {k : Nat} (w : World) (hb : Blk w b e cells) (hk : cells.length = k) [hc : IsC P t k true] : (Instr.loadAt t (.pointer (some ⟨b, 0, none⟩))).run P w = .ok (.agg cells.toArray) w := by
  obtain ⟨i, dd, h1, h2, h3, h4⟩ := hc.ok
  have hagg : (isAgg t).run P w = .ok true w := by
    unfold isAgg
    rw [Sem.run_bind, run_underlying h3 w, ← h4]
    cases dd <;> rfl
  have hld := run_loadCells_list (P := P) w ⟨b, 0, none⟩ cells (fun j u hu => by rw [WideShapes.add_plain, Nat.zero_add]; exact hb.cell hu)
  rw [hk] at hld
  simp [Instr.loadAt, Instr.sureAddr, loadVar, hagg, sizeOf, typeInfo, h1, h2, hld]
/-- the whole variable, however its cells are spelt -/
theorem WL.ldAll {k : Nat} (hg : gd L σ ⟨some d, .load t x, ty, pos, af, g⟩ = some true) (hd : Nat.ble (d + 1) n = true) (hx : ev σ x = some (.pointer (some ⟨b, 0, none⟩))) [hc : IsC P t k true] (hb : Blk w b e cells) (hk : cells.length = k)
    (h : WL P L Q rest n ((d, .agg cells.toArray) :: σ) w) : WL P L Q (⟨some d, .load t x, ty, pos, af, g⟩ :: rest) n σ w := by
  refine WL.run hg hd (fun a ha => ?_) h
  simp [execOp, ha.ev hx, run_ldAll (P := P) (t := t) w hb hk]
theorem WL.stAll {k : Nat} {cs : List Value} (hg : gd L σ ⟨none, .store t x y, ty, pos, af, g⟩ = some true) (hx : ev σ x = some (.pointer (some ⟨b, 0, none⟩))) (hy : ev σ y = some (.agg cs.toArray)) [hc : IsC P t k true] (hb : Blk w b e cells)
    (hk : cs.length = k) (hl : cells.length = k) (h1 : ∀ u ∈ cs, u.oneCell' = true)
    (h : ∀ w', Blk w' b e cs → w.grownBy w' (some b) → WL P L Q rest n σ w') : WL P L Q (⟨none, .store t x y, ty, pos, af, g⟩ :: rest) n σ w := by
  obtain ⟨i, dd, hi1, hi2, _, _⟩ := hc.ok
  subst hk
  have hst := run_storeCells_at P b 0 e cs 0 cells.toArray w hb (by simp; omega) h1
  simp only [Nat.add_zero, Nat.zero_add, List.take_zero, List.nil_append] at hst
  have e1 : cells.toArray.toList.drop cs.length = [] := List.drop_eq_nil_of_le (by simp; omega)
  rw [e1, List.append_nil] at hst
  refine WL.runU hg (fun a ha => ?_) (h _ (by
    have := setRow_heap w b cells.toArray cs.toArray e (0, 0) hb
    exact this) (grown_setRow w b _))
  simp only [execOp, ha.ev hx, ha.ev hy, Instr.storeAt, Sem.run_bind, Instr.sureAddr, Sem.run_pure, Result.andThen_ok, storeVar, sizeOf, typeInfo, run_program, hi1, hi2, Value.cells]
  simp
  simp [hst]
theorem EX.retCA {fn : Func} {a : Nat} {k : Nat} {R : Value → World → Prop} (hr : fn.results = #[.cell a t]) (ha : fnd σ a = some (.pointer (some ⟨b, 0, none⟩))) [hc : IsC P t k true] (hb : Blk w b e cells) (hk : cells.length = k) (h : R (.agg cells.toArray) w) :
    EX (bodyPost P fn fun e w' => ∃ v, e = .returned v ∧ R v w') .ret n σ w := by
  unfold EX; intro ac hac
  refine bodyPost_ret ?_ hac.defers ⟨_, rfl, h⟩
  have hld := run_loadCells_list (P := P) w ⟨b, 0, none⟩ cells (fun j u hu => by rw [WideShapes.add_plain, Nat.zero_add]; exact hb.cell hu)
  obtain ⟨i, dd, h1, h2, h3, h4⟩ := hc.ok
  have hagg : (isAgg t).run P w = .ok true w := by
    unfold isAgg
    rw [Sem.run_bind, run_underlying h3 w, ← h4]
    cases dd <;> rfl
  rw [hk] at hld
  have hs := hac.slot a _ ha
  simp only [Array.getD_eq_getD_getElem?] at hs
  simp [results, hr, hs, asAddr, loadVar, hagg, sizeOf, typeInfo, h1, h2, hld]
end
theorem mapM_some {α β : Type} {f : α → Option β} {g : α → β} : ∀ (l : List α), (∀ x ∈ l, f x = some (g x)) → l.mapM f = some (l.map g)
  | [], _ => rfl
  | x :: r, h => by
    rw [List.mapM_cons, h x (by simp), mapM_some r (fun y hy => h y (by simp [hy]))]
    rfl
/-- a key that is an array of numbers -/
theorem KeyV.arr {P : Program} {k e : TypeId} {n : Nat} {q : IntKind} (hu : P.underlying k = some (.array n e)) (he : P.underlying e = some (.int q)) (hce : P.cellsOf e = 1) (hck : P.cellsOf k = n) (hkt : P.keyType k = true) (hts : Nat.ble 1 P.types.size = true)
    {xs : List Int} (hl : xs.length = n) (hx : ∀ x ∈ xs, (Lit.int q x).wf = true) : KeyV P k (.agg (xs.map fun x => .int q x).toArray) := by
  obtain ⟨s, hs⟩ : ∃ s, P.types.size = s + 1 := ⟨P.types.size - 1, by have := Nat.le_of_ble_eq_true hts; omega⟩
  have hlits : P.keyLits (P.types.size + 1) k (xs.map fun x => .int q x) = some (((List.range n).map fun i => [Lit.int q (xs.getD i 0)]).flatten) := by
    rw [hs, Program.keyLits.eq_def]
    simp only [hu]
    rw [if_pos (by rw [hck]; simpa using hl), mapM_some (g := fun i => [Lit.int q (xs.getD i 0)])]
    · rfl
    · intro i hi
      have hi := List.mem_range.1 hi
      have hix : i < xs.length := by omega
      have hseg : ((xs.map fun x => Value.int q x).drop (i * P.cellsOf e)).take (P.cellsOf e) = [.int q xs[i]] := by
        rw [hce, Nat.mul_one, List.drop_eq_getElem_cons (by simpa using hix)]
        simp
      rw [hseg, Program.keyLits.eq_def]
      simp only [he]
      rw [if_pos ⟨trivial, hx _ (List.getElem_mem hix)⟩, List.getD_eq_getElem?_getD, List.getElem?_eq_getElem hix]
      rfl
  refine ⟨.string (keyBytes (((List.range n).map fun i => [Lit.int q (xs.getD i 0)]).flatten)), ?_⟩
  unfold keyOf
  rw [hu]
  dsimp only
  have hf : Value.formed P k (.agg (xs.map fun x => Value.int q x).toArray) = true := by
    unfold Value.formed
    rw [hu, hck]
    simp [hl]
  rw [hkt, hf]
  show Option.map _ (P.keyLits (P.types.size + 1) k (xs.map fun x => Value.int q x)) = _
  rw [hlits]
  rfl
end Go.Proofs.Ytadbkppgaekmpaa
/-
  What only some blocks' change leaves as it is. Over any program.
-/
set_option linter.unusedVariables false
set_option linter.unusedSimpArgs false
namespace Go.Proofs.Ytadbkppgaekmpaa
open Go.RowKit

/-- only blocks of S, and new ones, are otherwise -/
structure Chg (S : Nat → Prop) (w w' : World) : Prop where
  os : w'.os = w.os
  tape : w'.tape = w.tape
  output : w'.output = w.output
  size : w.heap.size ≤ w'.heap.size
  block : ∀ k, k < w.heap.size → ¬ S k → w'.heap[k]? = w.heap[k]?
theorem Chg.refl (S : Nat → Prop) (w : World) : Chg S w w := ⟨rfl, rfl, rfl, Nat.le_refl _, fun _ _ _ => rfl⟩
theorem Chg.grown {S : Nat → Prop} {w w' w'' : World} {row : Option Nat} (h : Chg S w w') (hg : w'.grownBy w'' row) (hr : ∀ g, row = some g → S g) : Chg S w w'' :=
  ⟨hg.os.trans h.os, hg.tape.trans h.tape, hg.output.trans h.output, Nat.le_trans h.size hg.size, fun k hk hs => (hg.block k (Nat.lt_of_lt_of_le hk h.size) (fun e => hs (hr k e.symm))).trans (h.block k hk hs)⟩
theorem Chg.ext {S : Nat → Prop} {a w w' : World} (hE : Ext a w) (h : Chg S w w') (hS : ∀ b, S b → a.heap.size ≤ b) : Ext a w' :=
  ⟨h.os.trans hE.os, h.tape.trans hE.tape, h.output.trans hE.output, Nat.le_trans hE.size h.size, fun k hk => (h.block k (Nat.lt_of_lt_of_le hk hE.size) (fun hs => by have := hS k hs; omega)).trans (hE.block k hk)⟩
theorem Own.chg {α : Type} [Rep α] {S : Nat → Prop} {w w' : World} {B : Nat} {e : TypeId} {v : Value} {xs : List α} (h : Own w B e Non v xs) (hc : Chg S w w') (hn : ∀ b, v.ownBlock = some b → ¬ S b) : Own w' B e Non v xs :=
  h.keep (fun g hg => hc.block g (h.lt g hg).2.1 (hn g hg)) fun _ h => h.elim
theorem OwnN.chg {α : Type} [Rep α] {S : Nat → Prop} {w w' : World} {B : Nat} {eo ei : TypeId} {v : Value} {vs : List Raw} {xs : List (List α)} (h : OwnN w B eo ei v vs xs) (hc : Chg S w w') (hn : ∀ b, OwnN.blk v vs b → ¬ S b) : OwnN w' B eo ei v vs xs :=
  ⟨h.out.chg hc (fun b hb => hn b (.inl hb)), h.len, fun i hi hi' => (h.inn i hi hi').chg hc (fun b hb => hn b (.inr ⟨_, List.getElem_mem hi, hb⟩)), h.dis, h.dio⟩

end Go.Proofs.Ytadbkppgaekmpaa
/-
  Package space: the key of a marking; the search as it lies in memory.
-/
set_option linter.unusedVariables false
set_option linter.unusedSimpArgs false
namespace Go.Proofs.Ytadbkppgaekmpaa
open Go.RowKit

instance iSp1 : IsC Try.prog 163 10 true := IsC.of (by kernel_rfl) Try.underlying163 rfl
instance iSp2 : IsFd Try.prog 163 0 0 := IsFd.of (by kernel_rfl)
instance iSp3 : IsFd Try.prog 163 1 2 := IsFd.of (by kernel_rfl)
instance iSp4 : IsFd Try.prog 163 2 3 := IsFd.of (by kernel_rfl)
instance iSp5 : IsFd Try.prog 163 3 4 := IsFd.of (by kernel_rfl)
instance iSp6 : IsFd Try.prog 163 4 6 := IsFd.of (by kernel_rfl)
instance iSp7 : IsFd Try.prog 163 5 7 := IsFd.of (by kernel_rfl)
instance iSp8 : IsFd Try.prog 163 6 8 := IsFd.of (by kernel_rfl)
instance iSp9 : IsZC Try.prog 163 [.slice none 0 0, .slice none 0 0, .int .i64 0, .int .i64 0, .slice none 0 0, .slice none 0 0, .map none, .slice none 0 0, .int .i64 0, .int .i64 0] := IsZC.of (z := .agg #[.slice none 0 0, .slice none 0 0, .int .i64 0, .int .i64 0, .slice none 0 0, .slice none 0 0, .map none, .slice none 0 0, .int .i64 0, .int .i64 0]) (by kernel_rfl) rfl
instance iSp10 : IsBd Try.prog 163 [(0, 2), (2, 1), (3, 1), (4, 2), (6, 1), (7, 1), (8, 2)] := IsBd.of (by kernel_rfl)
instance iSp11 : IsC Try.prog 252 30 true := IsC.of (by kernel_rfl) Try.underlying252 rfl
abbrev zKey : List Value := [.int .i8 0, .int .i8 0, .int .i8 0, .int .i8 0, .int .i8 0, .int .i8 0, .int .i8 0, .int .i8 0, .int .i8 0, .int .i8 0, .int .i8 0, .int .i8 0, .int .i8 0, .int .i8 0, .int .i8 0, .int .i8 0, .int .i8 0, .int .i8 0, .int .i8 0, .int .i8 0, .int .i8 0, .int .i8 0, .int .i8 0, .int .i8 0, .int .i8 0, .int .i8 0, .int .i8 0, .int .i8 0, .int .i8 0, .int .i8 0]
instance iSp12 : IsZC Try.prog 252 zKey := IsZC.of (z := .agg zKey.toArray) (by kernel_rfl) rfl
instance iSp13 : IsA Try.prog 252 30 250 := ⟨Try.underlying252⟩
instance iSp14 : IsC Try.prog 250 1 false := IsC.of (by kernel_rfl) Try.underlying250 rfl
instance iSp15 : IsI Try.prog 250 .i8 := ⟨Try.underlying250⟩
instance iSp16 : IsM Try.prog 158 252 3 := ⟨Try.underlying158⟩
instance iSp17 : IsC Try.prog 158 1 false := IsC.of (by kernel_rfl) Try.underlying158 rfl
instance iSp18 : IsZ0 Try.prog 3 := ⟨by kernel_rfl⟩
theorem spLaid : laidOutB Try.prog = true := by kernel_rfl
instance iSp19 : IsKy Try.prog 252 := IsKy.of (m := 2) spLaid (by decide) (by kernel_rfl) (by kernel_rfl) Try.underlying252 rfl
abbrev keyV (m : List Int) : Value := .agg ((keyX m).map fun x => .int .i8 x).toArray
def Tok (m : List Int) : Prop := ∀ x ∈ m, 0 ≤ x ∧ x ≤ 9
theorem Tok.at {m : List Int} (h : Tok m) (j : Nat) : 0 ≤ m.getD j 0 ∧ m.getD j 0 ≤ 9 := by
  rw [List.getD_eq_getElem?_getD]
  cases hj : m[j]? with
  | none => exact ⟨Int.le_refl _, by decide⟩
  | some x => exact h x (List.mem_of_getElem? hj)
theorem keyV_key {m : List Int} (hm : Tok m) : KeyV Try.prog 252 (keyV m) :=
  KeyV.arr (n := 30) Try.underlying252 Try.underlying250 (by kernel_rfl) (by kernel_rfl) (by kernel_rfl) (by kernel_rfl) (keyX_len m) (fun x hx => by
    unfold keyX at hx
    obtain ⟨i, _, rfl⟩ := List.mem_map.1 hx
    have := hm.at i
    rw [List.getD_eq_getElem?_getD] at this
    simp [Lit.wf, IntKind.min, IntKind.max, IntKind.signed, IntKind.bits]
    omega)
theorem keyV_inj {a b : List Int} (ha : a.length ≤ 30) (h : a.length = b.length) (he : keyV a = keyV b) : a = b := by
  refine keyX_inj ha h ?_
  have h1 : ((keyX a).map fun x => Value.int .i8 x).toArray = ((keyX b).map fun x => Value.int .i8 x).toArray := by injection he
  have h2 : (keyX a).map (fun x => Value.int .i8 x) = (keyX b).map (fun x => Value.int .i8 x) := by simpa using h1
  exact List.map_inj_right (fun x y e => by injection e) |>.1 h2
theorem i8_wrap {x : Int} (h : 0 ≤ x ∧ x ≤ 9) : IntKind.i8.wrap x = x := by
  simp [IntKind.wrap, IntKind.bits, IntKind.signed]
  omega
@[irreducible] def keyU (m : List Int) (i : Nat) : List Value := (List.range 30).map fun j => .int .i8 (if j < i then m.getD j 0 else 0)
theorem keyU_len {m : List Int} {i : Nat} : (keyU m i).length = 30 := by simp [keyU]
theorem keyU_zero {m : List Int} : keyU m 0 = zKey := by
  unfold keyU
  simp only [Nat.not_lt_zero, if_false]
  rfl
theorem keyU_set {m : List Int} {i : Nat} (hi : i < m.length) : (keyU m i).set i (.int .i8 m[i]) = keyU m (i + 1) := by
  unfold keyU
  refine List.ext_getElem (by simp) fun j h1 h2 => ?_
  rw [List.getElem_set]
  simp only [List.getElem_map, List.getElem_range]
  by_cases e : i = j
  · subst e
    rw [if_pos rfl, if_pos (by omega), List.getD_eq_getElem?_getD, List.getElem?_eq_getElem hi]
    rfl
  · rw [if_neg e]
    by_cases hj : j < i
    · rw [if_pos hj, if_pos (by omega)]
    · rw [if_neg hj, if_neg (by omega)]
theorem keyU_all {m : List Int} : keyU m m.length = (keyX m).map fun x => .int .i8 x := by
  unfold keyU keyX
  rw [List.map_map]
  refine List.map_congr_left fun j _ => ?_
  show Value.int .i8 _ = Value.int .i8 _
  congr 1
  split
  · rfl
  · show (0 : Int) = m.getD j 0
    rw [List.getD_eq_getElem?_getD, List.getElem?_eq_none (by omega)]; rfl
theorem keyU_ones {m : List Int} {i : Nat} : ∀ u ∈ keyU m i, u.oneCell' = true := by
  intro u hu
  unfold keyU at hu
  obtain ⟨j, _, rfl⟩ := List.mem_map.1 hu
  rfl
theorem keyOf_ok (w0 : World) {mo : Option Addr} {mc : Nat} {m : List Int} (hm : Sl w0 (Old w0) mo mc m) (hl : m.length ≤ 30) (hx : Tok m) :
    Rt Try.prog 184 [.slice mo m.length mc].toArray w0 fun v w' => v = keyV m ∧ Ext w0 w' := by
  refine Rt.enter1 Try.func184 Try.ntmps184 rfl rfl ?_
  (repeat (first | (apply CW.seq) | (apply CW.region)))
  refine WL.alloc rfl rfl (fun w1 hb2 e1 => ?_)
  (repeat (first | (apply WL.nil) | (apply EX.thenN) | (apply CW.seq) | (apply CW.region)))
  refine WL.alloc rfl rfl (fun w2 hb3 e2 => ?_)
  have hl2 := hb2.lt
  have hb2 := hb2.ext e2
  have hE := e1.trans e2
  have hz1 := e1.size
  have hl1 : w0.heap.size ≠ w1.heap.size := by omega
  rw [← keyU_zero (m := m)] at hb3
  (repeat (first | (apply WL.pure; rfl; rfl; rfl) | (apply WL.nil) | (apply EX.thenN) | (apply CW.seq) | (apply CW.region) | (apply WL.lenS; rfl; rfl; rfl) | (apply CW.block)))
  refine CW.loop (S := Nat) (fun i => [(2, .pointer (some ⟨w0.heap.size, 0, none⟩)), (3, .pointer (some ⟨w1.heap.size, 0, none⟩)), (6, .slice mo m.length mc), (7, .int .i64 m.length), (8, .int .i64 i)])
    (fun i w => i ≤ m.length ∧ Ext w0 w ∧ Blk w w0.heap.size 252 zKey ∧ Blk w w1.heap.size 252 (keyU m i)) (fun i => m.length - i) 0 (by repeat (first | exact trivial | refine ⟨rfl, ?_⟩)) ⟨Nat.zero_le _, hE, hb2, hb3⟩ ?_
  clear hb2 hb3 hE
  rintro i w3 ⟨hi, hE, hb2, hb3⟩
  (repeat (first | (apply WL.pure; rfl; rfl; rfl) | (apply WL.nil) | (apply EX.thenN) | (apply CW.seq) | (apply CW.region)))
  refine CW.cond rfl (fun h => ?_) (fun h => ?_)
  · have hi' : i < m.length := by simp at h; omega
    have h09 := hx _ (List.getElem_mem hi')
    (repeat (first | (apply WL.pure; rfl; rfl; rfl) | (apply EX.thenN) | (apply CW.seq) | (apply CW.region) | (apply CW.block) | (apply CW.skip)))
    refine WL.elemI rfl rfl rfl rfl rfl (hm.up hE) hi' rfl (fun _ => rfl) (fun q => ?_)
    (repeat (first | (apply WL.pure; rfl; rfl; rfl) | (apply WL.nil) | (apply EX.thenN) | (apply CW.region)))
    refine WL.conv (k' := .i8) rfl rfl rfl ?_
    rw [i8_wrap h09]
    refine WL.idxA rfl rfl rfl rfl (by omega) ?_
    refine WL.st1 rfl rfl rfl hb3 (by rw [keyU_len]; omega) rfl rfl (fun w4 hb4 hg4 => ?_)
    rw [Nat.zero_add, keyU_set hi'] at hb4
    have hb2 := hb2.kept hg4 (fun e => hl1 (Option.some.inj e))
    have hE4 : Ext w0 w4 := hE.grown hg4 hE.size (fun g hg => by cases hg; exact hz1)
    (repeat (first | (apply WL.add; rfl; rfl; rfl; rfl; omega; omega) | (apply WL.pure; rfl; rfl; rfl) | (apply WL.nil) | (apply EX.thenN) | (apply CW.region) | (apply EX.inN)))
    exact EX.back (i + 1) (by repeat (first | exact trivial | refine ⟨rfl, ?_⟩)) ⟨hi', hE4, hb2, hb4⟩ (by omega)
  · obtain rfl : i = m.length := by simp at h; omega
    (repeat (first | (apply EX.thenN) | (apply CW.seq) | (apply CW.region) | (apply CW.exit) | (apply EX.thenX) | (apply EX.inX)))
    refine WL.ldAll rfl rfl rfl hb3 keyU_len ?_
    refine WL.stAll rfl rfl rfl hb2 keyU_len rfl keyU_ones (fun w4 hb4 hg4 => ?_)
    have hE4 : Ext w0 w4 := hE.grown hg4 hE.size (fun g hg => by cases hg; exact Nat.le_refl _)
    (repeat (first | (apply WL.nil) | (apply EX.thenN) | (apply CW.ret)))
    exact EX.retCA rfl rfl hb4 keyU_len ⟨by rw [keyU_all], hE4⟩

/- THE SEARCH IN MEMORY -/
structure SC where
  sb : Nat
  mb : Nat
  mv : Value
  nv : Value
  ov : Value
  mvs : List Raw
  nvs : List Raw
  p1 : Value
  p2 : Value
  tok : Int
  st : Int
  N : Nat
  /-- one more that is written meanwhile -/
  xt : Value
  /-- where the blocks of what is read begin -/
  lo : Nat
def busy (c : SC) : Nat → Prop := fun b => b = c.sb ∨ b = c.mb ∨ c.mv.ownBlock = some b ∨ c.nv.ownBlock = some b ∨ c.ov.ownBlock = some b ∨ c.xt.ownBlock = some b
/-- met, but none that the search may write -/
def Fb (c : SC) (w : World) : Nat → Prop := fun b => c.lo ≤ b ∧ b < w.heap.size ∧ ¬ busy c b
structure Inn {α : Type} [Rep α] (w : World) (c : SC) (vs : List Raw) (xs : List (List α)) : Prop where
  len : vs.length = xs.length
  el : ∀ i (h : i < vs.length) (h' : i < xs.length), ∃ ao cap, vs[i].v = .slice ao xs[i].length cap ∧ Sl w (Fb c w) ao cap xs[i]
theorem Fb.to {α : Type} [Rep α] {w w' : World} {c c' : SC} {ao : Option Addr} {cap : Nat} {xs : List α} (h : Sl w (Fb c w) ao cap xs) (hc : Chg (busy c) w w') (hb : ∀ b, busy c' b → busy c b ∨ w.heap.size ≤ b) (hl : c'.lo ≤ c.lo := by exact Nat.le_refl _) : Sl w' (Fb c' w') ao cap xs :=
  h.mono (fun b hb1 => hc.block b hb1.2.1 hb1.2.2) fun b hb1 => ⟨Nat.le_trans hl hb1.1, Nat.lt_of_lt_of_le hb1.2.1 hc.size, fun h => (hb b h).elim hb1.2.2 (fun h => by have := hb1.2.1; omega)⟩
theorem Inn.to {α : Type} [Rep α] {w w' : World} {c c' : SC} {vs : List Raw} {xs : List (List α)} (h : Inn w c vs xs) (hc : Chg (busy c) w w') (hb : ∀ b, busy c' b → busy c b ∨ w.heap.size ≤ b) (hl : c'.lo ≤ c.lo := by exact Nat.le_refl _) : Inn w' c' vs xs :=
  ⟨h.len, fun i h1 h2 => by
    obtain ⟨ao, cap, e, hs⟩ := h.el i h1 h2
    exact ⟨ao, cap, e, Fb.to hs hc hb hl⟩⟩
theorem Inn.push {α : Type} [Rep α] {w : World} {c : SC} {vs : List Raw} {xs : List (List α)} {ao : Option Addr} {cap : Nat} {m : List α} (h : Inn w c vs xs) (hm : Sl w (Fb c w) ao cap m) : Inn w c (vs ++ [⟨.slice ao m.length cap⟩]) (xs ++ [m]) := by
  refine ⟨by simp [h.len], fun i h1 h2 => ?_⟩
  by_cases hi : i < vs.length
  · have hi' : i < xs.length := by rw [← h.len]; exact hi
    obtain ⟨a, k, e, hs⟩ := h.el i hi hi'
    refine ⟨a, k, ?_, ?_⟩
    · rw [List.getElem_append_left hi, e]; simp only [List.getElem_append_left hi']
    · rw [List.getElem_append_left hi']; exact hs
  · have hiv : i = vs.length := by simp at h1; omega
    have hix : i = xs.length := by rw [← h.len]; exact hiv
    refine ⟨ao, cap, ?_, ?_⟩
    · rw [List.getElem_append_right (by omega), List.getElem_append_right (by omega)]
      simp [hiv, h.len]
    · rw [List.getElem_append_right (by omega)]
      simp only [hix, Nat.sub_self, List.getElem_cons_zero]
      exact hm
def ap (a b : Option Nat) : Prop := ∀ g, a = some g → b = some g → False
theorem ap.new {a a' b : Option Nat} {k : Nat} (h : ap a b) (hn : ∀ g, a' = some g → a = some g ∨ k ≤ g) (hb : ∀ g, b = some g → g < k) : ap a' b := fun g h1 h2 => by
  rcases hn g h1 with h3 | h3
  · exact h g h3 h2
  · have := hb g h2; omega
theorem ap.sym {a b : Option Nat} (h : ap a b) : ap b a := fun g h1 h2 => h g h2 h1
theorem ap.ne {a b : Option Nat} (h : ap a b) : ∀ g, b = some g → some g ≠ a := fun g h1 e => h g e.symm h1
structure ApartS (c : SC) : Prop where
  d01 : c.sb ≠ c.mb
  d02 : ap (some c.sb) c.mv.ownBlock
  d03 : ap (some c.sb) c.nv.ownBlock
  d04 : ap (some c.sb) c.ov.ownBlock
  d12 : ap (some c.mb) c.mv.ownBlock
  d13 : ap (some c.mb) c.nv.ownBlock
  d14 : ap (some c.mb) c.ov.ownBlock
  d23 : ap c.mv.ownBlock c.nv.ownBlock
  d24 : ap c.mv.ownBlock c.ov.ownBlock
  d34 : ap c.nv.ownBlock c.ov.ownBlock
  d05 : ap (some c.sb) c.xt.ownBlock
  d15 : ap (some c.mb) c.xt.ownBlock
  d25 : ap c.mv.ownBlock c.xt.ownBlock
  d35 : ap c.nv.ownBlock c.xt.ownBlock
  d45 : ap c.ov.ownBlock c.xt.ownBlock
structure Srch (w : World) (B : Nat) (c : SC) (s : Sr) (nx : List (List LEdge)) : Prop where
  blk : Blk w c.sb 163 [c.p1, c.p2, .int .i64 c.tok, .int .i64 c.st, c.mv, c.nv, .map (some c.mb), c.ov, .int .i64 s.2.2.1, .int .i64 s.2.2.2]
  num : NumM Try.prog 252 w c.mb (s.1.map keyV)
  mo : Own w B 22 Non c.mv c.mvs
  no : Own w B 74 Non c.nv c.nvs
  oo : Own w B 161 Non c.ov s.2.1
  mi : Inn w c c.mvs s.1
  ni : Inn w c c.nvs nx
  ge : B ≤ c.sb ∧ B ≤ c.mb
  lob : c.lo ≤ B
  xo : ∀ g, c.xt.ownBlock = some g → B ≤ g ∧ g < w.heap.size
  dis : ApartS c
  ok : ∀ m ∈ s.1, m.length = c.N ∧ Tok m
  nd : s.1.Nodup
  lim : (s.1.length : Int) ≤ c.st ∧ 0 < c.st ∧ c.st ≤ 200 ∧ s.2.1.length = s.1.length ∧ c.N ≤ 30
theorem busy_ge {w : World} {B : Nat} {c : SC} {s : Sr} {nx : List (List LEdge)} (h : Srch w B c s nx) : ∀ b, busy c b → B ≤ b ∧ b < w.heap.size := fun b hb => by
  rcases hb with rfl | rfl | hb | hb | hb | hb
  · exact ⟨h.ge.1, h.blk.lt⟩
  · exact ⟨h.ge.2, h.num.lt⟩
  · exact ⟨(h.mo.lt b hb).1, (h.mo.lt b hb).2.1⟩
  · exact ⟨(h.no.lt b hb).1, (h.no.lt b hb).2.1⟩
  · exact ⟨(h.oo.lt b hb).1, (h.oo.lt b hb).2.1⟩
  · exact h.xo b hb
theorem Chg.ofExt {S : Nat → Prop} {w w' : World} (h : Ext w w') : Chg S w w' := ⟨h.os, h.tape, h.output, h.size, fun b hb _ => h.block b hb⟩
theorem Srch.ext {w w' : World} {B : Nat} {c : SC} {s : Sr} {nx : List (List LEdge)} (h : Srch w B c s nx) (hE : Ext w w') : Srch w' B c s nx :=
  ⟨h.blk.ext hE, h.num.ext hE, h.mo.extN hE, h.no.extN hE, h.oo.extN hE, h.mi.to (.ofExt hE) (fun _ h => .inl h), h.ni.to (.ofExt hE) (fun _ h => .inl h), h.ge, h.lob, (fun g hg => ⟨(h.xo g hg).1, Nat.lt_of_lt_of_le (h.xo g hg).2 hE.size⟩), h.dis, h.ok, h.nd, h.lim⟩
end Go.Proofs.Ytadbkppgaekmpaa
/-
  Maps in drawn regions that only read.
-/
set_option linter.unusedVariables false
set_option linter.unusedSimpArgs false
namespace Go.Proofs.Ytadbkppgaekmpaa
open Go.RowKit

theorem nodup_get {α : Type} {l : List α} (h : l.Nodup) {i j : Nat} (hi : i < l.length) (hj : j < l.length) (e : l[i] = l[j]) : i = j := by
  have h := List.pairwise_iff_getElem.1 h
  rcases Nat.lt_trichotomy i j with hlt | he | hlt
  · exact absurd e (h i j hi hj hlt)
  · exact he
  · exact absurd e.symm (h j i hj hi hlt)
section
variable {P : Program} {Q : Exit → Act → World → Prop} {n : Nat} {σ : Sg} {w : World} {L rest : List Oper} {d : Nat} {ty : TypeId} {pos : String} {af : Array Edge} {g : Option (Nat × Bool)} {t k e : TypeId} {b : Nat} {ks : List Value} {x y z : Operand} {v : Value}
theorem QL.numNo (hg : gd L σ ⟨some d, .lookup t x y true, ty, pos, af, g⟩ = some true) (hd : Nat.ble (d + 1) n = true) (hx : ev σ x = some (.map (some b))) (hy : ev σ y = some v) [ht : IsM P t k e] [hk : IsKy P k] [hz : IsZ0 P e]
    (h : NumM P k w b ks) (hv : KeyV P k v) (hn : v ∉ ks) (hr : QL P L w Q rest n ((d, .tuple ⟨[.int .i64 0, .bool false]⟩) :: σ)) : QL P L w Q (⟨some d, .lookup t x y true, ty, pos, af, g⟩ :: rest) n σ := by
  refine QL.run hg hd (fun a ha w' hw' => ?_) hr
  rcases run_num (t := t) (h.ext hw') hv with ⟨_, g2⟩ | ⟨j, hj, g1, g2⟩
  · simp [execOp, ha.ev hx, ha.ev hy, g2]
  · exact absurd (g1 ▸ List.getElem_mem hj) hn
theorem QL.numYes {j : Nat} (hj : j < ks.length) (hjv : ks[j] = v) (hg : gd L σ ⟨some d, .lookup t x y true, ty, pos, af, g⟩ = some true) (hd : Nat.ble (d + 1) n = true) (hx : ev σ x = some (.map (some b))) (hy : ev σ y = some v) [ht : IsM P t k e] [hk : IsKy P k] [hz : IsZ0 P e]
    (h : NumM P k w b ks) (hv : KeyV P k v) (hr : QL P L w Q rest n ((d, .tuple ⟨[.int .i64 (j : Int), .bool true]⟩) :: σ)) : QL P L w Q (⟨some d, .lookup t x y true, ty, pos, af, g⟩ :: rest) n σ := by
  refine QL.run hg hd (fun a ha w' hw' => ?_) hr
  rcases run_num (t := t) (h.ext hw') hv with ⟨g1, _⟩ | ⟨i, hi, g1, g2⟩
  · exact absurd (hjv ▸ List.getElem_mem hj) g1
  · obtain ⟨_, _, _, _, _, _, hnd⟩ := h
    obtain rfl : i = j := nodup_get hnd hi hj (g1.trans hjv.symm)
    simp [execOp, ha.ev hx, ha.ev hy, g2]
end
theorem HL.ldAQ {P : Program} {Q : Exit → Act → World → Prop} {n : Nat} {σ : Sg} {w wc : World} {L : List Oper} {S : World → Prop} {ord : List (Nat × Bool)} {i d : Nat} {ty : TypeId} {pos : String} {af : Array Edge} {g : Option (Nat × Bool)} {t e : TypeId} {x : Operand} {b o k : Nat} {cells vs : List Value}
    (hK : ∀ w1, S w1 → w1.heap[b]? = w.heap[b]?) (ho : nthO L i = some ⟨some d, .load t x, ty, pos, af, g⟩) (hg : gd L σ ⟨some d, .load t x, ty, pos, af, g⟩ = some true) (hd : Nat.ble (d + 1) n = true) (hx : ev σ x = some (.pointer (some ⟨b, o, none⟩))) [hc : IsC P t k true] (hb : Blk w b e cells) (hv : segL cells o k = some vs)
    (h : HL P L S Q ord n ((d, .agg vs.toArray) :: σ) wc) : HL P L S Q ((i, true) :: ord) n σ wc := by
  refine HL.run ho hg hd (fun a ha w' hsw => ?_) h
  have hb' : Blk w' b e cells := (hK w' hsw).trans hb
  simp [execOp, ha.ev hx, run_ldA (P := P) (t := t) w' hb' hv]
end Go.Proofs.Ytadbkppgaekmpaa
