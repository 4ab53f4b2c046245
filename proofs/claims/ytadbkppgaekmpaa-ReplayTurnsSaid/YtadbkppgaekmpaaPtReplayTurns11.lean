import Derived.Test.YtadbkppgaekmpaaPtReplayTurns10
/-
  All markings: plain laws.
-/
set_option linter.unusedVariables false
set_option linter.unusedSimpArgs false
namespace Go.Proofs.Ytadbkppgaekmpaa

/- greater bounds -/
theorem putE_same {a b c d : Int} {s : Sr} {m : List Int} {fr : Int × Int} (h1 : (putE a b s m fr).2.2 = 0) (h2 : (putE c d s m fr).2.2 = 0) : putE a b s m fr = putE c d s m fr := by
  unfold putE at h1 h2 ⊢
  by_cases g1 : tooMany a m = true
  · rw [if_pos g1] at h1; cases h1
  by_cases g2 : tooMany c m = true
  · rw [if_pos g2] at h2; cases h2
  rw [if_neg g1] at h1
  rw [if_neg g2] at h2
  rw [if_neg g1, if_neg g2]
  by_cases g3 : m ∈ s.1
  · rw [if_pos g3, if_pos g3]
  rw [if_neg g3] at h1 h2
  rw [if_neg g3, if_neg g3]
  by_cases g4 : (s.1.length : Int) = b
  · rw [if_pos g4] at h1; cases h1
  by_cases g5 : (s.1.length : Int) = d
  · rw [if_pos g5] at h2; cases h2
  rw [if_neg g4, if_neg g5]
theorem edgesGo_same {p : LProc} {a b c d n : Int} {m : List Int} : ∀ (l : List Int) (s : Sr) (out : List LEdge), (edgesGo p a b n m l s out).2.2 = 0 → (edgesGo p c d n m l s out).2.2 = 0 → edgesGo p a b n m l s out = edgesGo p c d n m l s out
  | [], s, out, _, _ => rfl
  | k :: r, s, out, h1, h2 => by
    rw [edgesGo] at h1 h2 ⊢
    rw [edgesGo]
    by_cases g : (fireE p m k).2 = 0
    case neg => rw [if_pos g] at h1; exact absurd h1 g
    have hg : ¬ (fireE p m k).2 ≠ 0 := by simp [g]
    rw [if_neg hg] at h1 h2
    rw [if_neg hg, if_neg hg]
    by_cases g1 : (putE a b s (fireE p m k).1 (n, k)).2.2 = 0
    case neg => rw [if_pos g1] at h1; exact absurd h1 g1
    by_cases g2 : (putE c d s (fireE p m k).1 (n, k)).2.2 = 0
    case neg => rw [if_pos g2] at h2; exact absurd h2 g2
    have e := putE_same g1 g2
    have hg1 : ¬ (putE a b s (fireE p m k).1 (n, k)).2.2 ≠ 0 := by simp [g1]
    have hg2 : ¬ (putE c d s (fireE p m k).1 (n, k)).2.2 ≠ 0 := by simp [g2]
    rw [if_neg hg1] at h1
    rw [if_neg hg2] at h2
    rw [if_neg hg1, if_neg hg2]
    rw [e] at h1 ⊢
    exact edgesGo_same r _ _ h1 h2
theorem runGo_same {p : LProc} {a b c d : Int} : ∀ (f n : Nat) (s : Sr) (nx : List (List LEdge)), (runGo p a b f n s nx).2.2 = 0 → (runGo p c d f n s nx).2.2 = 0 → runGo p a b f n s nx = runGo p c d f n s nx
  | 0, n, s, nx, _, _ => rfl
  | f + 1, n, s, nx, h1, h2 => by
    rw [runGo] at h1 h2 ⊢
    rw [runGo]
    by_cases hn : n < s.1.length
    case neg => rw [if_neg hn, if_neg hn]
    rw [if_pos hn] at h1 h2
    rw [if_pos hn, if_pos hn]
    by_cases g1 : (edgesE p a b n s).2.2 = 0
    case neg => rw [if_pos g1] at h1; exact absurd h1 g1
    by_cases g2 : (edgesE p c d n s).2.2 = 0
    case neg => rw [if_pos g2] at h2; exact absurd h2 g2
    have e : edgesE p a b n s = edgesE p c d n s := edgesGo_same _ _ _ g1 g2
    rw [if_neg (by simp [g1])] at h1
    rw [if_neg (by simp [g2])] at h2
    rw [if_neg (by simp [g1]), if_neg (by simp [g2])]
    rw [e] at h1 ⊢
    exact runGo_same f _ _ _ h1 h2
theorem runB_same {p : LProc} {a b c d : Int} (h1 : (runB p a b).2.2 = 0) (h2 : (runB p c d).2.2 = 0) : runB p a b = runB p c d := by
  unfold runB at h1 h2 ⊢
  by_cases g1 : (putE a b ([], [], (0, 0)) (beginL p) (-1, -1)).2.2 = 0
  case neg => rw [if_pos g1] at h1; exact absurd h1 g1
  by_cases g2 : (putE c d ([], [], (0, 0)) (beginL p) (-1, -1)).2.2 = 0
  case neg => rw [if_pos g2] at h2; exact absurd h2 g2
  have e := putE_same g1 g2
  rw [if_neg (by simp [g1])] at h1
  rw [if_neg (by simp [g2])] at h2
  rw [if_neg (by simp [g1]), if_neg (by simp [g2])]
  rw [e] at h1 ⊢
  exact runGo_same _ _ _ _ h1 h2
theorem exploreE_ok {p : LProc} {a b : Int} (h : (exploreE p a b).2 = 0) : (stepsE p).2 = 0 ∧ 1 ≤ a ∧ 1 ≤ b ∧ b ≤ 200 ∧ (runB p a b).2.2 = 0 ∧ exploreE p a b = (((runB p a b).1.1, (runB p a b).2.1), 0) := by
  unfold exploreE at h ⊢
  by_cases g1 : runPre p a b = 0
  case neg => rw [if_pos g1] at h; exact absurd h g1
  rw [if_neg (by simp [g1])] at h ⊢
  by_cases g2 : (runB p a b).2.2 = 0
  case neg => rw [if_pos g2] at h; exact absurd h g2
  rw [if_neg (by simp [g2])]
  unfold runPre at g1
  by_cases g3 : (stepsE p).2 = 0
  case neg => rw [if_pos g3] at g1; exact absurd g1 g3
  rw [if_neg (by simp [g3])] at g1
  unfold runArg at g1
  split at g1
  · cases g1
  · rename_i g4
    exact ⟨g3, by omega, by omega, by omega, g2, rfl⟩
theorem exploreE_err {p : LProc} {a b : Int} (h : (exploreE p a b).2 ≠ 0) : (exploreE p a b).1 = ([], []) := by
  unfold exploreE at h ⊢
  split
  · rfl
  · split
    · rfl
    · rename_i h1 h2; rw [if_neg h1, if_neg h2] at h; exact absurd rfl h
theorem exploreE_same {p : LProc} {a b c d : Int} (h1 : (exploreE p a b).2 = 0) (h2 : (exploreE p c d).2 = 0) : exploreE p a b = exploreE p c d := by
  obtain ⟨_, _, _, _, r1, e1⟩ := exploreE_ok h1
  obtain ⟨_, _, _, _, r2, e2⟩ := exploreE_ok h2
  rw [e1, e2, runB_same r1 r2]

/- the straight process -/
theorem straight_sp : (exploreE straightP 1 2).2 = 8 ∧ exploreE straightP 9 200 = (([[1, 0], [0, 1], [0, 0]], [[(0, 1)], [(1, 2)], []]), 0) ∧ exploreE straightP 1 9 = (([[1, 0], [0, 1], [0, 0]], [[(0, 1)], [(1, 2)], []]), 0) := by
  have hz : (stepsE straightP).2 = 0 := by rw [straight_steps]
  have hl : stepsL straightP = [(1, 0, 1), (2, 1, 0)] := by decide
  have ok : ∀ a b : Int, 0 ≤ a → a ≤ 9 → 0 ≤ b → b ≤ 9 → chkM straightP [a, b] = 0 := fun a b a0 a9 b0 b9 => markOk_chk hz ⟨rfl, fun j => by
    rcases j with _ | _ | j
    · exact ⟨a0, a9⟩
    · exact ⟨b0, b9⟩
    · exact ⟨Int.le_refl _, (by decide : (0 : Int) ≤ 9)⟩⟩
  have hm0 := ok 1 0 (by decide) (by decide) (by decide) (by decide)
  have hm1 := ok 0 1 (by decide) (by decide) (by decide) (by decide)
  have hm2 := ok 0 0 (by decide) (by decide) (by decide) (by decide)
  have f0 : fireE straightP [1, 0] 0 = ([0, 1], 0) := straight_fire
  have f1 : fireE straightP [0, 1] 1 = ([0, 0], 0) := by
    unfold fireE
    rw [if_neg (by simp [hm1]), hl, if_neg (by decide), if_neg (by decide)]
    decide
  have c0 : canE straightP [1, 0] = [0] := by unfold canE; rw [if_pos hm0]; decide
  have c1 : canE straightP [0, 1] = [1] := by unfold canE; rw [if_pos hm1]; decide
  have c2 : canE straightP [0, 0] = [] := by unfold canE; rw [if_pos hm2]; decide
  have hb : beginL straightP = [1, 0] := by decide
  refine ⟨?_, ?_, ?_⟩
  · simp [exploreE, runPre, hz, runArg, runB, hb, putE, tooMany, runGo, edgesE, edgesGo, c0, c1, c2, f0, f1, posOf]
  · simp [exploreE, runPre, hz, runArg, runB, hb, putE, tooMany, runGo, edgesE, edgesGo, c0, c1, c2, f0, f1, posOf]
  · simp [exploreE, runPre, hz, runArg, runB, hb, putE, tooMany, runGo, edgesE, edgesGo, c0, c1, c2, f0, f1, posOf]

/- a search that ends -/
theorem posOf_mem {m : List Int} : ∀ {l : List (List Int)}, m ∈ l → posOf m l < l.length ∧ l.getD (posOf m l) [] = m
  | x :: r, h => by
    unfold posOf
    by_cases e : x = m
    · rw [if_pos e]; exact ⟨by simp, by simpa using e⟩
    · rw [if_neg e]
      rcases List.mem_cons.1 h with h | h
      · exact absurd h.symm e
      · obtain ⟨h1, h2⟩ := posOf_mem h
        exact ⟨by simp; omega, by simpa using h2⟩
/-- an edge of marking m that leads to where step k leads -/
def EdgeOk (p : LProc) (m : List Int) (l : List (List Int)) (e : LEdge) : Prop := (fireE p m e.1).2 = 0 ∧ 0 ≤ e.2 ∧ e.2 < l.length ∧ l.getD e.2.toNat [] = (fireE p m e.1).1
theorem EdgeOk.more {p : LProc} {m : List Int} {l t : List (List Int)} {e : LEdge} (h : EdgeOk p m l e) : EdgeOk p m (l ++ t) e := by
  obtain ⟨h1, h2, h3, h4⟩ := h
  refine ⟨h1, h2, by rw [List.length_append]; omega, ?_⟩
  rw [← h4, List.getD_eq_getElem?_getD, List.getD_eq_getElem?_getD, List.getElem?_append_left (by omega)]
structure SrOk (p : LProc) (tok st : Int) (l : List (List Int)) : Prop where
  nd : l.Nodup
  ok : ∀ m ∈ l, MarkOk p m
  le : ∀ m ∈ l, ∀ x ∈ m, x ≤ tok
  st : (l.length : Int) ≤ st
theorem putE_law {p : LProc} {tok st : Int} {s : Sr} {m : List Int} {fr : Int × Int} (h : SrOk p tok st s.1) (hm : MarkOk p m) (he : (putE tok st s m fr).2.2 = 0) :
    SrOk p tok st (putE tok st s m fr).1.1 ∧ (∃ t, (putE tok st s m fr).1.1 = s.1 ++ t ∧ ∀ i : Nat, s.1.length ≤ i → i < (s.1 ++ t).length → (putE tok st s m fr).2.1 = (i : Int)) ∧
      0 ≤ (putE tok st s m fr).2.1 ∧ (putE tok st s m fr).2.1 < (putE tok st s m fr).1.1.length ∧ (putE tok st s m fr).1.1.getD (putE tok st s m fr).2.1.toNat [] = m := by
  unfold putE at he ⊢
  by_cases g1 : tooMany tok m = true
  · rw [if_pos g1] at he; cases he
  rw [if_neg g1] at he ⊢
  by_cases g3 : m ∈ s.1
  · rw [if_pos g3]
    obtain ⟨h1, h2⟩ := posOf_mem g3
    exact ⟨h, ⟨[], by simp, fun i h1 h2 => by simp at h2; omega⟩, by dsimp only; omega, by dsimp only; omega, by simpa using h2⟩
  rw [if_neg g3] at he ⊢
  by_cases g4 : (s.1.length : Int) = st
  · rw [if_pos g4] at he; cases he
  rw [if_neg g4]
  have hst := h.st
  refine ⟨⟨?_, ?_, ?_, ?_⟩, ⟨[m], rfl, fun i h1 h2 => by simp at h2; dsimp only; omega⟩, by dsimp only; omega, by simp; omega, by simp⟩
  · rw [List.nodup_append]
    refine ⟨h.nd, List.pairwise_singleton _ _, ?_⟩
    intro a ha b hb e
    rw [List.mem_singleton] at hb
    subst hb; subst e
    exact g3 ha
  · intro x hx
    rcases List.mem_append.1 hx with hx | hx
    · exact h.ok x hx
    · rw [List.mem_singleton] at hx; subst hx; exact hm
  · intro x hx
    rcases List.mem_append.1 hx with hx | hx
    · exact h.le x hx
    · rw [List.mem_singleton] at hx; subst hx
      intro n hn
      unfold tooMany at g1
      rw [List.any_eq_true] at g1
      have : ¬ n > tok := fun hgt => g1 ⟨n, hn, by simpa using hgt⟩
      omega
  · simp; omega
theorem fireE_mark {p : LProc} {m : List Int} {k : Int} (h : (fireE p m k).2 = 0) : MarkOk p (fireE p m k).1 := by
  obtain ⟨h1, _, _, h3, h4⟩ := fireE_ok h
  exact fire_next (chk_markOk h1) h3 h4
theorem edgesGo_law {p : LProc} {tok st n : Int} {m : List Int} : ∀ (l : List Int) (s : Sr) (out : List LEdge), SrOk p tok st s.1 → (∀ e ∈ out, EdgeOk p m s.1 e) → (edgesGo p tok st n m l s out).2.2 = 0 →
    SrOk p tok st (edgesGo p tok st n m l s out).1.1 ∧ (edgesGo p tok st n m l s out).2.1.map Prod.fst = out.map Prod.fst ++ l ∧ (∀ e ∈ (edgesGo p tok st n m l s out).2.1, EdgeOk p m (edgesGo p tok st n m l s out).1.1 e) ∧
      (∃ u, (edgesGo p tok st n m l s out).2.1 = out ++ u) ∧ ∃ t, (edgesGo p tok st n m l s out).1.1 = s.1 ++ t ∧ ∀ i : Nat, s.1.length ≤ i → i < (s.1 ++ t).length → ∃ e ∈ (edgesGo p tok st n m l s out).2.1, e.2 = (i : Int)
  | [], s, out, hs, ho, he => ⟨hs, by simp [edgesGo], ho, ⟨[], by simp [edgesGo]⟩, [], by simp [edgesGo], fun i h1 h2 => by simp at h2; omega⟩
  | k :: r, s, out, hs, ho, he => by
    rw [edgesGo] at he ⊢
    by_cases g : (fireE p m k).2 = 0
    case neg => rw [if_pos g] at he; exact absurd he g
    rw [if_neg (by simp [g])] at he ⊢
    by_cases g1 : (putE tok st s (fireE p m k).1 (n, k)).2.2 = 0
    case neg => rw [if_pos g1] at he; exact absurd he g1
    rw [if_neg (by simp [g1])] at he ⊢
    obtain ⟨hs1, ⟨t, ht, hti⟩, hp0, hp1, hp2⟩ := putE_law hs (fireE_mark g) g1
    generalize putE tok st s (fireE p m k).1 (n, k) = q at *
    obtain ⟨q1, q2, q3⟩ := q
    dsimp only at *
    have ho' : ∀ e ∈ out ++ [(k, q2)], EdgeOk p m q1.1 e := by
      intro e h
      rcases List.mem_append.1 h with h | h
      · rw [ht]; exact (ho e h).more
      · rw [List.mem_singleton] at h; subst h
        exact ⟨g, hp0, hp1, hp2⟩
    obtain ⟨a1, a2, a3, ⟨u, a4⟩, t', a5, a6⟩ := edgesGo_law r q1 (out ++ [(k, q2)]) hs1 ho' he
    refine ⟨a1, by rw [a2]; simp, a3, ⟨(k, q2) :: u, by rw [a4]; simp⟩, t ++ t', by rw [a5, ht]; simp, fun i h1 h2 => ?_⟩
    by_cases hi : i < q1.1.length
    · refine ⟨(k, q2), by rw [a4]; simp, ?_⟩
      exact hti i h1 (by rw [← ht]; exact hi)
    · exact a6 i (by omega) (by rw [ht]; simpa using h2)
structure SpOk (p : LProc) (l : List (List Int)) (nx : List (List LEdge)) : Prop where
  le : nx.length ≤ l.length
  can : ∀ j, j < nx.length → (nx.getD j []).map Prod.fst = canE p (l.getD j [])
  ed : ∀ j, j < nx.length → ∀ e ∈ nx.getD j [], EdgeOk p (l.getD j []) l e
  fr : ∀ i : Nat, 1 ≤ i → i < l.length → ∃ j, j < i ∧ j < nx.length ∧ ∃ e ∈ nx.getD j [], e.2 = (i : Int)
theorem getDG_left {α : Type} {l t : List α} {j : Nat} {d : α} (h : j < l.length) : (l ++ t).getD j d = l.getD j d := by rw [List.getD_eq_getElem?_getD, List.getD_eq_getElem?_getD, List.getElem?_append_left h]
theorem getDG_last {α : Type} {l : List α} {x d : α} : (l ++ [x]).getD l.length d = x := by rw [List.getD_eq_getElem?_getD, List.getElem?_append_right (Nat.le_refl _)]; simp
theorem runGo_law {p : LProc} {tok st : Int} : ∀ (f n : Nat) (s : Sr) (nx : List (List LEdge)), f + n = 201 → st ≤ 200 → nx.length = n → SrOk p tok st s.1 → SpOk p s.1 nx → (runGo p tok st f n s nx).2.2 = 0 →
    SrOk p tok st (runGo p tok st f n s nx).1.1 ∧ SpOk p (runGo p tok st f n s nx).1.1 (runGo p tok st f n s nx).2.1 ∧ (runGo p tok st f n s nx).2.1.length = (runGo p tok st f n s nx).1.1.length ∧ ∃ t, (runGo p tok st f n s nx).1.1 = s.1 ++ t
  | 0, n, s, nx, hf, h200, hn, hs, hx, he => by have := hx.le; have := hs.st; omega
  | f + 1, n, s, nx, hf, h200, hn, hs, hx, he => by
    rw [runGo] at he ⊢
    by_cases hlt : n < s.1.length
    case neg =>
      rw [if_neg hlt] at he ⊢
      exact ⟨hs, hx, by have := hx.le; dsimp only; omega, [], by simp⟩
    rw [if_pos hlt] at he ⊢
    by_cases g1 : (edgesE p tok st n s).2.2 = 0
    case neg => rw [if_pos g1] at he; exact absurd he g1
    rw [if_neg (by simp [g1])] at he ⊢
    obtain ⟨a1, a2, a3, _, t, a5, a6⟩ := edgesGo_law (p := p) (tok := tok) (st := st) (n := (n : Int)) (m := s.1.getD n []) (canE p (s.1.getD n [])) s [] hs (fun e h => by cases h) g1
    change SrOk p tok st (edgesE p tok st n s).1.1 at a1
    change (edgesE p tok st n s).2.1.map Prod.fst = _ at a2
    change ∀ e ∈ (edgesE p tok st n s).2.1, EdgeOk p _ (edgesE p tok st n s).1.1 e at a3
    change (edgesE p tok st n s).1.1 = _ at a5
    change ∀ i : Nat, _ → _ → ∃ e ∈ (edgesE p tok st n s).2.1, _ at a6
    generalize edgesE p tok st n s = q at *
    obtain ⟨s', es, er⟩ := q
    dsimp only at *
    have hx' : SpOk p s'.1 (nx ++ [es]) := by
      have hle := hx.le
      refine ⟨by rw [a5]; simp; omega, fun j hj => ?_, fun j hj => ?_, fun i h1 h2 => ?_⟩
      · simp at hj
        by_cases e : j < nx.length
        · rw [getDG_left e, a5, getDG_left (by omega)]; exact hx.can j e
        · obtain rfl : j = nx.length := by omega
          rw [getDG_last, a2, a5, getDG_left (by omega), hn]; simp
      · simp at hj
        by_cases e : j < nx.length
        · rw [getDG_left e, a5, getDG_left (by omega)]; exact fun x h => (hx.ed j e x h).more
        · obtain rfl : j = nx.length := by omega
          rw [getDG_last, a5, getDG_left (by omega), hn, ← a5]; exact a3
      · by_cases e : i < s.1.length
        · obtain ⟨j, q1, q2, x, q3, q4⟩ := hx.fr i h1 e
          exact ⟨j, q1, by simp; omega, x, by rw [getDG_left q2]; exact q3, q4⟩
        · obtain ⟨x, q3, q4⟩ := a6 i (by omega) (by rw [← a5]; exact h2)
          exact ⟨nx.length, by omega, by simp, x, by rw [getDG_last]; exact q3, q4⟩
    obtain ⟨b1, b2, b3, t', b4⟩ := runGo_law f (n + 1) s' (nx ++ [es]) (by omega) h200 (by simp [hn]) a1 hx' he
    exact ⟨b1, b2, b3, t ++ t', by rw [b4, a5]; simp⟩
/-- what a space is -/
theorem explore_law {p : LProc} {tok st : Int} (h : (exploreE p tok st).2 = 0) :
    (stepsE p).2 = 0 ∧ SrOk p tok st (exploreE p tok st).1.1 ∧ SpOk p (exploreE p tok st).1.1 (exploreE p tok st).1.2 ∧ (exploreE p tok st).1.2.length = (exploreE p tok st).1.1.length ∧ 0 < (exploreE p tok st).1.1.length ∧ (exploreE p tok st).1.1.getD 0 [] = beginL p ∧ st ≤ 200 := by
  obtain ⟨hz, h1, h2, h3, hr, he⟩ := exploreE_ok h
  rw [he]
  dsimp only
  unfold runB at hr ⊢
  by_cases g1 : (putE tok st ([], [], (0, 0)) (beginL p) (-1, -1)).2.2 = 0
  case neg => rw [if_pos g1] at hr; exact absurd hr g1
  rw [if_neg (by simp [g1])] at hr ⊢
  have hs0 : SrOk p tok st ([] : List (List Int)) := ⟨List.Pairwise.nil, fun m h => (by cases h), fun m h => (by cases h), by simp; omega⟩
  obtain ⟨a1, ⟨t, a2, a2i⟩, a3, a4, a5⟩ := putE_law (s := ([], [], (0, 0))) hs0 (beginL_ok (p := p)) g1
  have hd : (putE tok st ([], [], (0, 0)) (beginL p) (-1, -1)).1.1 = [beginL p] := by
    unfold putE at g1 ⊢
    by_cases q1 : tooMany tok (beginL p) = true
    · rw [if_pos q1] at g1; cases g1
    rw [if_neg q1, if_neg (by simp)] at g1 ⊢
    by_cases q2 : (([] : List (List Int)).length : Int) = st
    · rw [if_pos q2] at g1; cases g1
    rw [if_neg q2]; rfl
  generalize putE tok st ([], [], (0, 0)) (beginL p) (-1, -1) = q at *
  obtain ⟨b1, b2, b3, t', b4⟩ := runGo_law 201 0 q.1 [] rfl h3 rfl a1 ⟨by simp, fun j h => absurd h (by simp), fun j h => absurd h (by simp), fun i h1 h2 => by rw [hd] at h2; simp at h2; omega⟩ hr
  refine ⟨hz, b1, b2, b3, by rw [b4, hd]; simp, by rw [b4, hd]; simp, h3⟩
/-- a step of a walk is an edge -/
theorem space_step {p : LProc} {l : List (List Int)} {nx : List (List LEdge)} {at_ : Nat} {k : Int} {m m' : List Int} (hz : (stepsE p).2 = 0) (hx : SpOk p l nx) (ha : at_ < nx.length) (hm : l.getD at_ [] = m) (hok : MarkOk p m) (h : StepAt p m k m') :
    ∃ j, j < (nx.getD at_ []).length ∧ idxOf (fun e : LEdge => e.1 == k) (nx.getD at_ []) = (j : Int) ∧ 0 ≤ ((nx.getD at_ []).getD j (0, 0)).2 ∧ ((nx.getD at_ []).getD j (0, 0)).2 < l.length ∧ l.getD ((nx.getD at_ []).getD j (0, 0)).2.toNat [] = m' := by
  have hcm := markOk_chk hz hok
  have hc := hx.can at_ ha
  have he := hx.ed at_ ha
  rw [hm] at hc he
  generalize nx.getD at_ [] = es at *
  obtain ⟨h0, h1, h2, h3⟩ := h
  have hin : k ∈ canE p m := by
    unfold canE
    rw [if_pos hcm]
    have : k = ((k.toNat : Nat) : Int) := by omega
    rw [this]
    unfold canL canP
    rw [List.mem_map]
    exact ⟨k.toNat, List.mem_filter.2 ⟨List.mem_range.2 (by omega), h2⟩, rfl⟩
  rw [← hc, List.mem_map] at hin
  obtain ⟨e, hmem, hek⟩ := hin
  have hex : ∃ j, j < es.length ∧ idxOf (fun e : LEdge => e.1 == k) es = (j : Int) ∧ (es.getD j (0, 0)).1 = k := by
    unfold idxOf
    cases h : es.findIdx? (fun e : LEdge => e.1 == k) with
    | none =>
      have := List.findIdx?_eq_none_iff.1 h e hmem
      simp [hek] at this
    | some i =>
      obtain ⟨h1, h2, _⟩ := List.findIdx?_eq_some_iff_getElem.1 h
      refine ⟨i, h1, rfl, ?_⟩
      rw [List.getD_eq_getElem?_getD, List.getElem?_eq_getElem h1]
      simpa using h2
  obtain ⟨j, q1, q2, q3⟩ := hex
  have hmj : es.getD j (0, 0) ∈ es := by rw [List.getD_eq_getElem?_getD, List.getElem?_eq_getElem q1]; exact List.getElem_mem _
  obtain ⟨r1, r2, r3, r4⟩ := he _ hmj
  refine ⟨j, q1, q2, r2, r3, ?_⟩
  rw [r4, q3]
  unfold fireE
  rw [if_neg (by simp [hcm]), if_neg (by omega), if_neg (by rw [h2]; decide), h3]
  rfl
end Go.Proofs.Ytadbkppgaekmpaa
/-
  Package lasso: words, their check and their letters.
-/
set_option linter.unusedVariables false
set_option linter.unusedSimpArgs false
namespace Go.Proofs.Ytadbkppgaekmpaa
open Go.RowKit

def chkW (s l : List Nat) : Int := if s.length > 60 ∨ l.length > 60 - s.length then 2 else if l.length = 0 then 1 else 0
def lat (s l : List Nat) (i : Nat) : Nat := if i < s.length then s.getD i 0 else l.getD ((i - s.length) % l.length) 0
theorem chkW_ok {s l : List Nat} (h : chkW s l = 0) : s.length + l.length ≤ 60 ∧ 0 < l.length := by
  unfold chkW at h
  split at h
  · cases h
  · split at h
    · cases h
    · omega
abbrev wordV (so : Option Addr) (sc : Nat) (lo : Option Addr) (lc : Nat) (s l : List Nat) : Value := .agg [.slice so s.length sc, .slice lo l.length lc].toArray

theorem lassoCheck (w : World) {so lo : Option Addr} {sc lc : Nat} {s l : List Nat} (hs : s.length ≤ 9223372036854775807) (hl : l.length ≤ 9223372036854775807) :
    Rt Try.prog 73 [wordV so sc lo lc s l].toArray w fun v w' => v = .int .i64 (chkW s l) ∧ Ext w w' := by
  refine Rt.enter1 Try.func73 Try.ntmps73 rfl rfl ?_
  (repeat (first | (apply CW.seq) | (apply CW.region)))
  refine WL.boxB rfl rfl rfl fun w1 hb hE => ?_
  (repeat (first | (apply WL.pure; rfl; rfl; rfl) | (apply WL.nil) | (apply EX.thenN) | (apply CW.seq) | (apply CW.region) | (apply WL.lenS; rfl; rfl; rfl) | (apply WL.fa; rfl; rfl; rfl) | (apply WL.ld; rfl; rfl; rfl; assumption; rfl) | (apply CW.block)))
  (refine WL.lookG rfl rfl (fun h => ?_) (fun h => ?_))
  · (repeat (first | (apply WL.pure; rfl; rfl; rfl) | (apply WL.nil) | (apply EX.thenN) | (apply CW.seq) | (apply CW.region) | (apply WL.pass; rfl; rfl) | (apply CW.condT; rfl) | (apply CW.ret) | (apply EX.thenR) | (apply EX.inR)))
    refine EX.ret1 rfl rfl ⟨?_, hE⟩
    simp at h; unfold chkW
    rw [if_pos (by omega)]
  · simp at h
    (repeat (first | (apply WL.sub'; rfl; rfl; rfl; rfl; omega; omega) | (apply WL.pure; rfl; rfl; rfl) | (apply WL.nil) | (apply EX.thenN) | (apply WL.lenS; rfl; rfl; rfl) | (apply WL.fa; rfl; rfl; rfl) | (apply WL.ld; rfl; rfl; rfl; assumption; rfl)))
    refine CW.cond rfl (fun h1 => ?_) (fun h1 => ?_) <;> simp at h1
    · (repeat (first | (apply WL.pure; rfl; rfl; rfl) | (apply WL.nil) | (apply EX.thenN) | (apply CW.seq) | (apply CW.region) | (apply CW.ret) | (apply EX.thenR) | (apply EX.inR)))
      refine EX.ret1 rfl rfl ⟨?_, hE⟩
      unfold chkW
      rw [if_pos (by omega)]
    · (repeat (first | (apply WL.pure; rfl; rfl; rfl) | (apply WL.nil) | (apply EX.thenN) | (apply CW.seq) | (apply CW.region) | (apply WL.lenS; rfl; rfl; rfl) | (apply WL.fa; rfl; rfl; rfl) | (apply WL.ld; rfl; rfl; rfl; assumption; rfl)))
      refine CW.cond rfl (fun h2 => ?_) (fun h2 => ?_) <;> simp at h2
      · (repeat (first | (apply WL.pure; rfl; rfl; rfl) | (apply WL.nil) | (apply EX.thenN) | (apply CW.seq) | (apply CW.region) | (apply CW.ret) | (apply EX.thenR) | (apply EX.inR)))
        refine EX.ret1 rfl rfl ⟨?_, hE⟩
        unfold chkW
        rw [if_neg (by omega), if_pos (by simp [h2])]
      · (repeat (first | (apply WL.pure; rfl; rfl; rfl) | (apply WL.nil) | (apply EX.thenN) | (apply CW.seq) | (apply CW.region) | (apply EX.inN) | (apply CW.ret) | (apply CW.skip)))
        refine EX.ret1 rfl rfl ⟨?_, hE⟩
        unfold chkW
        rw [if_neg (by omega), if_neg (by simp [h2])]

def latA (s l : List Nat) (i : Int) : Nat × Int := if chkW s l ≠ 0 then (0, chkW s l) else if i < 0 then (0, 1) else (lat s l i.toNat, 0)
theorem latA_ok {s l : List Nat} (h : chkW s l = 0) (i : Nat) : latA s l (i : Int) = (lat s l i, 0) := by
  unfold latA; rw [if_neg (by simp [h]), if_neg (by omega)]; rfl
theorem lat_lt {s l : List Nat} (hs : ∀ x ∈ s, x < 18446744073709551616) (hl : ∀ x ∈ l, x < 18446744073709551616) (i : Nat) : lat s l i < 18446744073709551616 := by
  unfold lat
  have one : ∀ (l : List Nat), (∀ x ∈ l, x < 18446744073709551616) → ∀ k, l.getD k 0 < 18446744073709551616 := by
    intro l hl k
    rw [List.getD_eq_getElem?_getD]
    cases h : l[k]? with
    | none => simp
    | some y => simpa using hl y (List.mem_of_getElem? h)
  split
  · exact one s hs _
  · exact one l hl _
theorem Sl.u64 {w : World} {F : Nat → Prop} {ao : Option Addr} {cap : Nat} {xs : List Nat} (h : Sl w F ao cap xs) : ∀ x ∈ xs, x < 18446744073709551616 := by
  intro x hx
  obtain ⟨i, hi, rfl⟩ := List.getElem_of_mem hx
  obtain ⟨b, off, _, _, es, _, hr⟩ := h.el i hi
  exact hr.2
end Go.Proofs.Ytadbkppgaekmpaa
/-
  Package lasso: next, not, until.
-/
set_option linter.unusedVariables false
set_option linter.unusedSimpArgs false
namespace Go.Proofs.Ytadbkppgaekmpaa
open Go.RowKit

def nextL (s l : List Nat) (i : Nat) : Nat := if i + 1 = s.length + l.length then s.length else i + 1
/-- one round of until, from behind -/
def untilR (s l : List Nat) (a b : List Bool) : Nat → List Bool → List Bool
  | 0, out => out
  | i + 1, out => untilR s l a b i (out.set i (b.getD i false || (a.getD i false && out.getD (nextL s l i) false)))
def untilL (s l : List Nat) (a b : List Bool) : List Bool := untilR s l a b a.length (untilR s l a b a.length (List.replicate a.length false))
theorem untilR_len (s l : List Nat) (a b : List Bool) : ∀ i out, (untilR s l a b i out).length = out.length
  | 0, out => rfl
  | i + 1, out => by rw [untilR, untilR_len s l a b i, List.length_set]
theorem untilL_len (s l : List Nat) (a b : List Bool) : (untilL s l a b).length = a.length := by unfold untilL; rw [untilR_len, untilR_len, List.length_replicate]

end Go.Proofs.Ytadbkppgaekmpaa
/-
  Formulas of one way: how they lie in memory, their check.
-/
set_option linter.unusedVariables false
set_option linter.unusedSimpArgs false
namespace Go.Proofs.Ytadbkppgaekmpaa
open Go.RowKit

inductive Ltl where
  | mk (k n : Int) (kids : List Ltl) : Ltl
def Ltl.k : Ltl → Int | .mk k _ _ => k
def Ltl.n : Ltl → Int | .mk _ n _ => n
def Ltl.kids : Ltl → List Ltl | .mk _ _ l => l
mutual
def Ltl.nodes : Ltl → Nat
  | .mk _ _ kids => 1 + Ltl.nodesL kids
def Ltl.nodesL : List Ltl → Nat
  | [] => 0
  | x :: r => x.nodes + Ltl.nodesL r
end
theorem Ltl.nodes_pos (t : Ltl) : 0 < t.nodes := by cases t; simp [Ltl.nodes]; omega
theorem Ltl.nodes_kid : ∀ (l : List Ltl) (x : Ltl), x ∈ l → x.nodes ≤ Ltl.nodesL l
  | [], x, h => by cases h
  | y :: r, x, h => by
    simp only [Ltl.nodesL]
    rcases List.mem_cons.1 h with rfl | h
    · omega
    · have := Ltl.nodes_kid r x h; omega

inductive RdT (w : World) (F : Nat → Prop) : List Value → Ltl → Prop
  | mk (k n : Int) (kids : List Ltl) (ao : Option Addr) (cap : Nat) (es : Nat → List Value) : kids.length ≤ cap → cap ≤ maxLen → (ao = none → cap = 0) →
      (∀ i, i < kids.length → ∃ b off, ao = some ⟨b, off, none⟩ ∧ F b ∧ Cells w b (off + i * 3) (es i)) → (∀ i (h : i < kids.length), RdT w F (es i) kids[i]) →
      RdT w F [.int .i64 k, .int .i64 n, .slice ao kids.length cap] (.mk k n kids)
instance iLtl1 : Rep Ltl where
  sz := 3
  pos := by decide
  agg := true
  rd := RdT
  len := by intro w F cs x h; cases h; rfl
  one := by
    intro w F cs x h v hv
    cases h
    simp at hv
    rcases hv with rfl | rfl | rfl <;> rfl
  szAgg := fun h => by cases h
  mono := by
    intro w w' F F' cs x h hb hF
    induction h with
    | mk k n kids ao cap es h1 h2 h3 h4 h5 ih =>
      refine .mk k n kids ao cap es h1 h2 h3 (fun i hi => ?_) (fun i hi => ih i hi)
      obtain ⟨b, off, e, hf, hc⟩ := h4 i hi
      exact ⟨b, off, e, hF b hf, hc.mono (hb b hf)⟩
theorem RdT.sl {w : World} {F : Nat → Prop} {cs : List Value} {t : Ltl} (h : rd w F cs t) : ∃ ao cap, cs = [.int .i64 t.k, .int .i64 t.n, .slice ao t.kids.length cap] ∧ Sl w F ao cap t.kids := by
  cases h with
  | mk k n kids ao cap es h1 h2 h3 h4 h5 =>
    refine ⟨ao, cap, rfl, h1, h2, h3, fun i hi => ?_⟩
    obtain ⟨b, off, e, hf, hc⟩ := h4 i hi
    exact ⟨b, off, e, hf, es i, hc, h5 i hi⟩
theorem RdT.of {w : World} {F : Nat → Prop} {k n : Int} {kids : List Ltl} {ao : Option Addr} {cap : Nat} (h : Sl w F ao cap kids) : rd w F [.int .i64 k, .int .i64 n, .slice ao kids.length cap] (Ltl.mk k n kids) := by
  have h4 : ∀ i, ∃ es : List Value, ∀ hi : i < kids.length, ∃ b off, ao = some ⟨b, off, none⟩ ∧ F b ∧ Cells w b (off + i * 3) es ∧ rd w F es kids[i] := by
    intro i
    by_cases hi : i < kids.length
    · obtain ⟨b, off, e, hf, es, hc, hr⟩ := h.el i hi
      exact ⟨es, fun _ => ⟨b, off, e, hf, hc, hr⟩⟩
    · exact ⟨[], fun h => absurd h hi⟩
  refine .mk k n kids ao cap (fun i => Classical.choose (h4 i)) h.le h.mx h.nil (fun i hi => ?_) (fun i hi => ?_)
  · obtain ⟨b, off, e, hf, hc, _⟩ := Classical.choose_spec (h4 i) hi
    exact ⟨b, off, e, hf, hc⟩
  · obtain ⟨b, off, e, hf, hc, hr⟩ := Classical.choose_spec (h4 i) hi
    exact hr
abbrev ltlV (k n : Int) (ao : Option Addr) (len cap : Nat) : Value := .agg [.int .i64 k, .int .i64 n, .slice ao len cap].toArray
theorem Rd.ltl {w : World} {F : Nat → Prop} {v : Value} {t : Ltl} (h : Rd w F v t) : ∃ ao cap, v = ltlV t.k t.n ao t.kids.length cap ∧ Sl w F ao cap t.kids := by
  obtain ⟨cs, e, hr⟩ := h
  obtain ⟨ao, cap, rfl, hs⟩ := RdT.sl hr
  exact ⟨ao, cap, e, hs⟩
theorem Rd.mkLtl {w : World} {F : Nat → Prop} {k n : Int} {kids : List Ltl} {ao : Option Addr} {cap : Nat} (h : Sl w F ao cap kids) : Rd w F (ltlV k n ao kids.length cap) (Ltl.mk k n kids) := ⟨_, rfl, RdT.of h⟩
instance iLtl2 : IsT Try.prog 119 Ltl := IsT.of (by kernel_rfl) Try.underlying119 rfl
instance iLtl3 : IsS Try.prog 117 119 := ⟨Try.underlying117⟩
instance iLtl4 : IsT Try.prog 117 (List Ltl) := IsT.of (by kernel_rfl) Try.underlying117 rfl
instance iLtl5 : IsZ Try.prog 119 (Ltl.mk 0 0 []) 40 := IsZ.of (z := .agg #[.int .i64 0, .int .i64 0, .slice none 0 0]) (by kernel_rfl) (fun _ _ => RdT.of (kids := []) ⟨by simp, by simp [maxLen], fun _ => rfl, fun i hi => absurd hi (by simp)⟩)
instance iLtl6 : IsC Try.prog 119 3 true := IsC.of (by kernel_rfl) Try.underlying119 rfl
instance iLtl7 : IsC Try.prog 117 1 false := IsC.of (by kernel_rfl) Try.underlying117 rfl
instance iLtl8 : IsZC Try.prog 117 [.slice none 0 0] := IsZC.of (z := .slice none 0 0) (by kernel_rfl) rfl
instance iLtl9 : IsFd Try.prog 119 0 0 := IsFd.of (by kernel_rfl)
instance iLtl10 : IsFd Try.prog 119 1 1 := IsFd.of (by kernel_rfl)
instance iLtl11 : IsFd Try.prog 119 2 2 := IsFd.of (by kernel_rfl)
instance iLtl12 : IsZC Try.prog 119 [.int .i64 0, .int .i64 0, .slice none 0 0] := IsZC.of (z := .agg #[.int .i64 0, .int .i64 0, .slice none 0 0]) (by kernel_rfl) rfl
instance iLtl13 : IsBd Try.prog 119 [(0, 1), (1, 1), (2, 1)] := IsBd.of (by kernel_rfl)
instance iLtl14 : IsC Try.prog 244 1 false := IsC.of (by kernel_rfl) Try.underlying244 rfl

def kidsK (k : Int) : Int := if k = 1 ∨ k = 2 ∨ k = 3 then 0 else if k = 4 ∨ k = 7 ∨ k = 10 ∨ k = 11 then 1 else if k = 5 ∨ k = 6 ∨ k = 8 ∨ k = 9 then 2 else -1
theorem kids_ok (w : World) (k : Int) : Rt Try.prog 202 [.int .i64 k].toArray w fun v w' => v = .int .i64 (kidsK k) ∧ w = w' := by
  refine Rt.enter1 Try.func202 Try.ntmps202 rfl rfl ?_
  unfold kidsK
  (repeat (first | (apply WL.pure; rfl; rfl; rfl) | (apply WL.nil) | (apply EX.thenN) | (apply CW.seq) | (apply CW.region) | (apply CW.block)))
  refine CW.cond rfl (fun h => ?_) (fun h => ?_) <;> simp at h
  · subst h; (repeat (first | (apply WL.pure; rfl; rfl; rfl) | (apply WL.nil) | (apply EX.thenN) | (apply CW.seq) | (apply CW.region) | (apply CW.condT; rfl) | (apply CW.ret) | (apply EX.thenR) | (apply EX.inR) | (apply CW.skip)))
    exact EX.ret1 rfl rfl ⟨rfl, rfl⟩
  (repeat (first | (apply WL.pure; rfl; rfl; rfl) | (apply WL.nil) | (apply EX.thenN) | (apply CW.seq) | (apply CW.region)))
  refine CW.cond rfl (fun h => ?_) (fun h => ?_) <;> simp at h
  · subst h; (repeat (first | (apply WL.pure; rfl; rfl; rfl) | (apply WL.nil) | (apply EX.thenN) | (apply CW.seq) | (apply CW.region) | (apply CW.condT; rfl) | (apply CW.ret) | (apply EX.thenR) | (apply EX.inR) | (apply CW.skip)))
    exact EX.ret1 rfl rfl ⟨rfl, rfl⟩
  (repeat (first | (apply WL.pure; rfl; rfl; rfl) | (apply WL.nil) | (apply EX.thenN) | (apply CW.region)))
  refine CW.cond rfl (fun h => ?_) (fun h => ?_) <;> simp at h
  · subst h; (repeat (first | (apply WL.pure; rfl; rfl; rfl) | (apply WL.nil) | (apply EX.thenN) | (apply CW.seq) | (apply CW.region) | (apply CW.ret) | (apply EX.thenR) | (apply EX.inR)))
    exact EX.ret1 rfl rfl ⟨rfl, rfl⟩
  rw [if_neg (by omega)]
  (repeat (first | (apply WL.pure; rfl; rfl; rfl) | (apply WL.nil) | (apply EX.thenN) | (apply CW.seq) | (apply CW.region)))
  refine CW.cond rfl (fun h => ?_) (fun h => ?_) <;> simp at h
  · subst h; (repeat (first | (apply WL.pure; rfl; rfl; rfl) | (apply WL.nil) | (apply EX.thenN) | (apply CW.seq) | (apply CW.region) | (apply CW.condT; rfl) | (apply CW.ret) | (apply EX.thenR) | (apply EX.inR) | (apply CW.skip)))
    exact EX.ret1 rfl rfl ⟨rfl, rfl⟩
  (repeat (first | (apply WL.pure; rfl; rfl; rfl) | (apply WL.nil) | (apply EX.thenN) | (apply CW.seq) | (apply CW.region)))
  refine CW.cond rfl (fun h => ?_) (fun h => ?_) <;> simp at h
  · subst h; (repeat (first | (apply WL.pure; rfl; rfl; rfl) | (apply WL.nil) | (apply EX.thenN) | (apply CW.seq) | (apply CW.region) | (apply CW.condT; rfl) | (apply CW.ret) | (apply EX.thenR) | (apply EX.inR) | (apply CW.skip)))
    exact EX.ret1 rfl rfl ⟨rfl, rfl⟩
  (repeat (first | (apply WL.pure; rfl; rfl; rfl) | (apply WL.nil) | (apply EX.thenN) | (apply CW.seq) | (apply CW.region)))
  refine CW.cond rfl (fun h => ?_) (fun h => ?_) <;> simp at h
  · subst h; (repeat (first | (apply WL.pure; rfl; rfl; rfl) | (apply WL.nil) | (apply EX.thenN) | (apply CW.seq) | (apply CW.region) | (apply CW.condT; rfl) | (apply CW.ret) | (apply EX.thenR) | (apply EX.inR) | (apply CW.skip)))
    exact EX.ret1 rfl rfl ⟨rfl, rfl⟩
  (repeat (first | (apply WL.pure; rfl; rfl; rfl) | (apply WL.nil) | (apply EX.thenN) | (apply CW.region)))
  refine CW.cond rfl (fun h => ?_) (fun h => ?_) <;> simp at h
  · subst h; (repeat (first | (apply WL.pure; rfl; rfl; rfl) | (apply WL.nil) | (apply EX.thenN) | (apply CW.seq) | (apply CW.region) | (apply CW.ret) | (apply EX.thenR) | (apply EX.inR)))
    exact EX.ret1 rfl rfl ⟨rfl, rfl⟩
  rw [if_neg (by omega)]
  (repeat (first | (apply WL.pure; rfl; rfl; rfl) | (apply WL.nil) | (apply EX.thenN) | (apply CW.seq) | (apply CW.region)))
  refine CW.cond rfl (fun h => ?_) (fun h => ?_) <;> simp at h
  · subst h; (repeat (first | (apply WL.pure; rfl; rfl; rfl) | (apply WL.nil) | (apply EX.thenN) | (apply CW.seq) | (apply CW.region) | (apply CW.condT; rfl) | (apply CW.ret) | (apply EX.thenR) | (apply EX.inR) | (apply CW.skip)))
    exact EX.ret1 rfl rfl ⟨rfl, rfl⟩
  (repeat (first | (apply WL.pure; rfl; rfl; rfl) | (apply WL.nil) | (apply EX.thenN) | (apply CW.seq) | (apply CW.region)))
  refine CW.cond rfl (fun h => ?_) (fun h => ?_) <;> simp at h
  · subst h; (repeat (first | (apply WL.pure; rfl; rfl; rfl) | (apply WL.nil) | (apply EX.thenN) | (apply CW.seq) | (apply CW.region) | (apply CW.condT; rfl) | (apply CW.ret) | (apply EX.thenR) | (apply EX.inR) | (apply CW.skip)))
    exact EX.ret1 rfl rfl ⟨rfl, rfl⟩
  (repeat (first | (apply WL.pure; rfl; rfl; rfl) | (apply WL.nil) | (apply EX.thenN) | (apply CW.seq) | (apply CW.region)))
  refine CW.cond rfl (fun h => ?_) (fun h => ?_) <;> simp at h
  · subst h; (repeat (first | (apply WL.pure; rfl; rfl; rfl) | (apply WL.nil) | (apply EX.thenN) | (apply CW.seq) | (apply CW.region) | (apply CW.condT; rfl) | (apply CW.ret) | (apply EX.thenR) | (apply EX.inR) | (apply CW.skip)))
    exact EX.ret1 rfl rfl ⟨rfl, rfl⟩
  (repeat (first | (apply WL.pure; rfl; rfl; rfl) | (apply WL.nil) | (apply EX.thenN) | (apply CW.region)))
  refine CW.cond rfl (fun h => ?_) (fun h => ?_) <;> simp at h
  · subst h; (repeat (first | (apply WL.pure; rfl; rfl; rfl) | (apply WL.nil) | (apply EX.thenN) | (apply CW.seq) | (apply CW.region) | (apply CW.ret) | (apply EX.thenR) | (apply EX.inR)))
    exact EX.ret1 rfl rfl ⟨rfl, rfl⟩
  rw [if_neg (by omega)]
  (repeat (first | (apply WL.pure; rfl; rfl; rfl) | (apply WL.nil) | (apply EX.thenN) | (apply CW.seq) | (apply CW.region) | (apply EX.inN) | (apply CW.ret) | (apply CW.skip)))
  exact EX.ret1 rfl rfl ⟨rfl, rfl⟩
end Go.Proofs.Ytadbkppgaekmpaa
/-
  Package ltl: Check.
-/
set_option linter.unusedVariables false
set_option linter.unusedSimpArgs false
namespace Go.Proofs.Ytadbkppgaekmpaa
open Go.RowKit

theorem grown_tr {w w1 w2 : World} {r : Option Nat} (h1 : w.grownBy w1 r) (h2 : w1.grownBy w2 r) : w.grownBy w2 r :=
  ⟨h2.os.trans h1.os, h2.tape.trans h1.tape, h2.output.trans h1.output, Nat.le_trans h1.size h2.size, fun k hk hne => (h2.block k (Nat.lt_of_lt_of_le hk h1.size) hne).trans (h1.block k hk hne)⟩
theorem Ext.grw {w w1 : World} (h : Ext w w1) (r : Option Nat) : w.grownBy w1 r := ⟨h.os, h.tape, h.output, h.size, fun k hk _ => h.block k hk⟩
theorem grown_new {w w1 w2 : World} {r : Option Nat} {b : Nat} (h1 : w.grownBy w1 r) (h2 : w1.grownBy w2 (some b)) (hb : w.heap.size ≤ b) : w.grownBy w2 r :=
  ⟨h2.os.trans h1.os, h2.tape.trans h1.tape, h2.output.trans h1.output, Nat.le_trans h1.size h2.size, fun k hk hne => (h2.block k (Nat.lt_of_lt_of_le hk h1.size) (by simp; omega)).trans (h1.block k hk hne)⟩

mutual
def chkF : Ltl → Int → Int → Int × Int
  | .mk k n kids, deep, c => if c + 1 > 60 then (2, c + 1) else if deep > 20 then (5, c + 1) else if kidsK k ≠ kids.length ∨ n < 0 ∨ n > 63 ∨ (k ≠ 3 ∧ n ≠ 0) then (1, c + 1) else chkFL kids (deep + 1) (c + 1)
def chkFL : List Ltl → Int → Int → Int × Int
  | [], _, c => (0, c)
  | x :: r, deep, c => if (chkF x deep c).1 ≠ 0 then chkF x deep c else chkFL r deep (chkF x deep c).2
end
mutual
theorem chkF_le : ∀ (t : Ltl) (deep c : Int), (chkF t deep c).1 = 0 → c < (chkF t deep c).2 ∧ (chkF t deep c).2 ≤ 60
  | .mk k n kids, deep, c, h => by
    simp only [chkF] at h ⊢
    split at h
    · cases h
    · rename_i h1
      rw [if_neg h1]
      split at h
      · cases h
      · rename_i h2
        rw [if_neg h2]
        split at h
        · cases h
        · rename_i h3
          rw [if_neg h3]
          have := chkFL_le kids (deep + 1) (c + 1) (by omega) h
          omega
theorem chkFL_le : ∀ (l : List Ltl) (deep c : Int), c ≤ 60 → (chkFL l deep c).1 = 0 → c ≤ (chkFL l deep c).2 ∧ (chkFL l deep c).2 ≤ 60
  | [], deep, c, hc, h => by simp only [chkFL]; omega
  | x :: r, deep, c, hc, h => by
    simp only [chkFL] at h ⊢
    split at h
    · rename_i h1; exact absurd h h1
    · rename_i h1
      rw [if_neg h1]
      have h2 := chkF_le x deep c (by simpa using h1)
      have h3 := chkFL_le r deep _ h2.2 h
      omega
end

theorem ltlCheck0_ok : ∀ (m : Nat) (t : Ltl), t.nodes ≤ m → ∀ (w : World) (F : Nat → Prop) (deep c : Int) (bn : Nat) (ao : Option Addr) (cap : Nat), Sl w F ao cap t.kids → (∀ b, F b → b < w.heap.size) → ¬ F bn →
    Blk w bn 3 [.int .i64 c] → 0 ≤ c → c ≤ 60 → 0 ≤ deep → deep ≤ 1000 →
    Rt Try.prog 177 [ltlV t.k t.n ao t.kids.length cap, .int .i64 deep, .pointer (some ⟨bn, 0, none⟩)].toArray w fun v w' => v = .int .i64 (chkF t deep c).1 ∧ Blk w' bn 3 [.int .i64 (chkF t deep c).2] ∧ w.grownBy w' (some bn)
  | 0, t, hm => by have := t.nodes_pos; omega
  | m + 1, .mk k n kids, hm => by
    intro w F deep c bn ao cap hs hF hn hb hc0 hc1 hd0 hd1
    simp only [Ltl.kids, Ltl.k, Ltl.n] at *
    refine Rt.enter3 Try.func177 Try.ntmps177 rfl rfl ?_
    have hlen := hs.len63
    have hbn := hb.lt
    (repeat (first | (apply CW.seq) | (apply CW.region)))
    refine WL.boxB rfl rfl rfl fun w1 hf hE1 => ?_
    have hb1 := hb.ext hE1
    have hg1 := hE1.grw (some bn)
    (repeat (first | (apply WL.add; rfl; rfl; rfl; rfl; omega; omega) | (apply WL.pure; rfl; rfl; rfl) | (apply WL.nil) | (apply EX.thenN) | (apply CW.seq) | (apply CW.region) | (apply WL.nck; rfl; rfl; rfl) | (apply WL.ld; rfl; rfl; rfl; assumption; rfl)))
    refine WL.st rfl rfl rfl hb1 rfl rfl (ones_of rfl) (fun w2 hb2 hgr => ?_)
    have hf2 := hf.kept hgr (by simp; omega)
    have hg2 := grown_tr hg1 hgr
    simp only [chkF]
    (repeat (first | (apply WL.pure; rfl; rfl; rfl) | (apply WL.nil) | (apply EX.thenN) | (apply CW.seq) | (apply CW.region) | (apply WL.nck; rfl; rfl; rfl) | (apply WL.ld; rfl; rfl; rfl; assumption; rfl) | (apply CW.block)))
    refine CW.cond rfl (fun h => ?_) (fun h => ?_) <;> simp only [decide_eq_true_eq, decide_eq_false_iff_not, gt_iff_lt] at h
    · (repeat (first | (apply WL.pure; rfl; rfl; rfl) | (apply WL.nil) | (apply EX.thenN) | (apply CW.seq) | (apply CW.region) | (apply CW.ret) | (apply EX.thenR) | (apply EX.inR)))
      refine EX.ret1 rfl rfl ?_
      rw [if_pos h]
      exact ⟨rfl, hb2, hg2⟩
    rw [if_neg (by omega)]
    (repeat (first | (apply WL.pure; rfl; rfl; rfl) | (apply WL.nil) | (apply EX.thenN) | (apply CW.seq) | (apply CW.region)))
    refine CW.cond rfl (fun h1 => ?_) (fun h1 => ?_) <;> simp only [decide_eq_true_eq, decide_eq_false_iff_not, gt_iff_lt] at h1
    · (repeat (first | (apply WL.pure; rfl; rfl; rfl) | (apply WL.nil) | (apply EX.thenN) | (apply CW.seq) | (apply CW.region) | (apply CW.ret) | (apply EX.thenR) | (apply EX.inR)))
      refine EX.ret1 rfl rfl ?_
      rw [if_pos h1]
      exact ⟨rfl, hb2, hg2⟩
    rw [if_neg (by omega)]
    refine CW.cutE [(1, .int .i64 deep), (2, .pointer (some ⟨bn, 0, none⟩)), (3, .pointer (some ⟨w.heap.size, 0, none⟩)), (23, .bool (decide (kidsK k ≠ kids.length ∨ n < 0 ∨ n > 63 ∨ (k ≠ 3 ∧ n ≠ 0))))] ?_ ?_
    · (repeat (first | (apply CW.seq) | (apply QL.fa; rfl; rfl; rfl) | (apply QL.ld; rfl; rfl; rfl; assumption; rfl) | (apply CW.draw; exact mixed; kernel_rfl)))
      refine QL.call rfl rfl rfl (fun w' h => Rt.mono (kids_ok w' k) (fun v w'' hv => ⟨hv.1, hv.2 ▸ Ext.refl _⟩)) ?_
      (repeat (first | (apply QL.pure; rfl; rfl; rfl) | (apply QL.lenS; rfl; rfl; rfl) | (apply QL.fa; rfl; rfl; rfl) | (apply QL.ld; rfl; rfl; rfl; assumption; rfl)))
      refine QL.nil fun w3 hE3 => ?_
      have hf3 := hf2.ext hE3
      (repeat (apply EX.thenN))
      refine CW.cond rfl (fun h2 => ?_) (fun h2 => ?_) <;> simp at h2
      · (repeat (apply CW.skip))
        refine EX.cutE ⟨rfl, rfl, rfl, ?_, trivial⟩ hE3
        refine congrArg (fun b => some (Value.bool b)) ?_
        have : (kidsK k != (kids.length : Int)) = true := by simpa using h2
        rw [this, decide_eq_true (.inl h2)]
      · (repeat (first | (apply WL.pure; rfl; rfl; rfl) | (apply CW.seq) | (apply CW.region) | (apply WL.fa; rfl; rfl; rfl) | (apply WL.ld; rfl; rfl; rfl; assumption; rfl)))
        (refine WL.lookG rfl rfl (fun h => ?_) (fun h => ?_)) <;> simp at h
        · (repeat (first | (apply WL.pure; rfl; rfl; rfl) | (apply WL.nil) | (apply EX.thenN) | (apply WL.pass; rfl; rfl) | (apply CW.condT; rfl) | (apply CW.skip)))
          refine EX.cutE ⟨rfl, rfl, rfl, ?_, trivial⟩ hE3
          refine congrArg (fun b => some (Value.bool b)) ?_
          rw [decide_eq_true (.inr (.inl h))]
        · (repeat (first | (apply WL.pure; rfl; rfl; rfl) | (apply WL.nil) | (apply EX.thenN) | (apply WL.fa; rfl; rfl; rfl) | (apply WL.ld; rfl; rfl; rfl; assumption; rfl)))
          refine CW.cond rfl (fun h3 => ?_) (fun h3 => ?_) <;> simp at h3
          · (repeat (apply CW.skip))
            refine EX.cutE ⟨rfl, rfl, rfl, ?_, trivial⟩ hE3
            refine congrArg (fun b => some (Value.bool b)) ?_
            rw [decide_eq_true h3, decide_eq_true (.inr (.inr (.inl h3)))]
          · (repeat (first | (apply WL.pure; rfl; rfl; rfl) | (apply CW.region) | (apply WL.fa; rfl; rfl; rfl) | (apply WL.ld; rfl; rfl; rfl; assumption; rfl)))
            (refine WL.lookG rfl rfl (fun h => ?_) (fun h => ?_)) <;> simp at h
            · (repeat (first | (apply WL.pure; rfl; rfl; rfl) | (apply WL.nil) | (apply WL.fa; rfl; rfl; rfl) | (apply WL.ld; rfl; rfl; rfl; assumption; rfl)))
              refine EX.cutE ⟨rfl, rfl, rfl, ?_, trivial⟩ hE3
              refine congrArg (fun b => some (Value.bool b)) ?_
              (rw [Bool.eq_iff_iff]; simp; try omega)
            · (repeat (first | (apply WL.pure; rfl; rfl; rfl) | (apply WL.nil) | (apply WL.pass; rfl; rfl)))
              refine EX.cutE ⟨rfl, rfl, rfl, ?_, trivial⟩ hE3
              refine congrArg (fun b => some (Value.bool b)) ?_
              (rw [Bool.eq_iff_iff]; simp; try omega)
    intro w3 hE3
    have hb3 := hb2.ext hE3
    have hf3 := hf2.ext hE3
    have hg3 := grown_tr hg2 (hE3.grw (some bn))
    refine CW.cond rfl (fun h2 => ?_) (fun h2 => ?_) <;> simp only [decide_eq_true_eq, decide_eq_false_iff_not] at h2
    · rw [if_pos h2]
      (repeat (first | (apply WL.pure; rfl; rfl; rfl) | (apply WL.nil) | (apply EX.thenN) | (apply CW.seq) | (apply CW.region) | (apply CW.ret) | (apply EX.thenR) | (apply EX.inR)))
      exact EX.ret1 rfl rfl ⟨rfl, hb3, hg3⟩
    rw [if_neg h2]
    (repeat (first | (apply WL.pure; rfl; rfl; rfl) | (apply WL.nil) | (apply EX.thenN) | (apply CW.seq) | (apply CW.region) | (apply WL.lenS; rfl; rfl; rfl) | (apply WL.fa; rfl; rfl; rfl) | (apply WL.ld; rfl; rfl; rfl; assumption; rfl) | (apply CW.block) | (apply EX.inN) | (apply CW.skip)))
    refine CW.loop (S := Nat × Int) (fun x => [(1, .int .i64 deep), (2, .pointer (some ⟨bn, 0, none⟩)), (48, .slice ao kids.length cap), (49, .int .i64 (kids.length : Int)), (50, .int .i64 (x.1 : Int))])
      (fun x w' => w.grownBy w' (some bn) ∧ Blk w' bn 3 [.int .i64 x.2] ∧ 0 ≤ x.2 ∧ x.2 ≤ 60 ∧ x.1 ≤ kids.length ∧ chkFL kids (deep + 1) (c + 1) = chkFL (kids.drop x.1) (deep + 1) x.2) (fun x => kids.length - x.1) (0, c + 1) (by repeat (first | exact trivial | refine ⟨rfl, ?_⟩)) ⟨hg3, hb3, by simp only; omega, by simp only; omega, by omega, rfl⟩ ?_
    rintro ⟨i, ci⟩ w4 ⟨hg4, hb4, hci0, hci, hi, heq⟩
    simp only at hb4 hci0 hci hi heq
    rw [heq]
    (repeat (first | (apply WL.pure; rfl; rfl; rfl) | (apply WL.nil) | (apply EX.thenN) | (apply CW.seq) | (apply CW.region)))
    refine CW.cond rfl (fun h3 => ?_) (fun h3 => ?_) <;> simp at h3
    · have hs4 : Sl w4 F ao cap kids := hs.mono (fun b hb => hg4.block b (hF b hb) (by intro e; cases e; exact hn hb)) fun _ h => h
      have hF4 : ∀ b, F b → b < w4.heap.size := fun b hb => Nat.lt_of_lt_of_le (hF b hb) hg4.size
      (repeat (first | (apply EX.thenN) | (apply CW.seq) | (apply CW.region) | (apply CW.block) | (apply CW.skip)))
      refine WL.elemN rfl rfl rfl rfl rfl hs4 h3 (fun _ => rfl) (fun u q hu => ?_)
      have hdrop : kids.drop i = kids[i] :: kids.drop (i + 1) := List.drop_eq_getElem_cons h3
      have hnode : (kids[i]).nodes ≤ m := by
        have := Ltl.nodes_kid kids _ (List.getElem_mem h3)
        simp only [Ltl.nodes] at hm; omega
      rw [hdrop]
      simp only [chkFL]
      generalize kids[i] = x at *
      obtain ⟨ao', cap', rfl, hx⟩ := hu.ltl
      have hw4 : w.heap.size ≤ w4.heap.size := hg4.size
      refine WL.alloc rfl rfl (fun w5 hb5 hE5 => ?_)
      refine WL.st rfl rfl rfl hb5 rfl rfl (ones_of rfl) (fun w6 hb6 hgr6 => ?_)
      have hE6 : Ext w4 w6 := hE5.grown hgr6 hE5.size (fun g hg => by cases hg; exact Nat.le_refl _)
      have hb46 := hb4.ext hE6
      have hg6 := grown_tr hg4 (hE6.grw (some bn))
      (repeat (first | (apply WL.add; rfl; rfl; rfl; rfl; omega; omega) | (apply WL.pure; rfl; rfl; rfl) | (apply WL.nil) | (apply EX.thenN) | (apply CW.seq) | (apply CW.region) | (apply WL.ldA; rfl; rfl; rfl; assumption; rfl)))
      refine WL.call rfl rfl rfl (ltlCheck0_ok m x hnode w6 F (deep + 1) ci bn ao' cap' (hx.mono (fun b hb => hE6.block b (hF4 b hb)) fun _ h => h) (fun b hb => Nat.lt_of_lt_of_le (hF4 b hb) hE6.size) hn hb46 hci0 hci (by omega) (by omega)) ?_
      rintro v w7 ⟨rfl, hb7, hg7⟩
      have hg7 := grown_tr hg6 hg7
      have hle := chkF_le x (deep + 1) ci
      generalize chkF x (deep + 1) ci = r at *
      obtain ⟨e, c'⟩ := r
      simp only at hle hb7
      (repeat (first | (apply WL.pure; rfl; rfl; rfl) | (apply WL.nil) | (apply EX.thenN) | (apply CW.seq) | (apply CW.region)))
      refine CW.cond rfl (fun h4 => ?_) (fun h4 => ?_) <;> simp at h4
      · (repeat (first | (apply WL.pure; rfl; rfl; rfl) | (apply WL.nil) | (apply EX.thenN) | (apply CW.seq) | (apply CW.region) | (apply CW.ret) | (apply EX.thenR) | (apply EX.inR)))
        refine EX.ret1 rfl rfl ?_
        rw [if_pos h4]
        exact ⟨rfl, hb7, hg7⟩
      · have := hle h4
        (repeat (first | (apply WL.add; rfl; rfl; rfl; rfl; omega; omega) | (apply WL.pure; rfl; rfl; rfl) | (apply WL.nil) | (apply EX.thenN) | (apply CW.region) | (apply EX.inN) | (apply CW.skip)))
        refine EX.back (i + 1, c') (by repeat (first | exact trivial | refine ⟨rfl, ?_⟩)) ⟨hg7, hb7, by simp only; omega, by simp only; omega, by simp only; omega, ?_⟩ (by simp only; omega)
        simp only
        rw [if_neg (by simp [h4])]
    · (repeat (first | (apply WL.pure; rfl; rfl; rfl) | (apply WL.nil) | (apply EX.thenN) | (apply CW.seq) | (apply CW.region) | (apply CW.exit) | (apply EX.thenX) | (apply EX.inX) | (apply CW.ret)))
      refine EX.ret1 rfl rfl ?_
      rw [List.drop_eq_nil_of_le (by omega)]
      exact ⟨rfl, hb4, hg4⟩
theorem ltlCheck (w : World) {F : Nat → Prop} {t : Ltl} {ao : Option Addr} {cap : Nat} (hs : Sl w F ao cap t.kids) (hF : ∀ b, F b → b < w.heap.size) :
    Rt Try.prog 123 [ltlV t.k t.n ao t.kids.length cap].toArray w fun v w' => v = .int .i64 (chkF t 1 0).1 ∧ Ext w w' := by
  refine Rt.enter1 Try.func123 Try.ntmps123 rfl rfl ?_
  (repeat (first | (apply CW.seq) | (apply CW.region)))
  refine WL.boxB rfl rfl rfl fun w1 hf hE1 => ?_
  (repeat (first | (apply WL.pure; rfl; rfl; rfl) | (apply WL.nil) | (apply EX.thenN) | (apply CW.seq) | (apply CW.region)))
  refine WL.alloc rfl rfl (fun w2 hb hE2 => ?_)
  have hlt := hb.lt
  refine WL.st rfl rfl rfl hb rfl rfl (ones_of rfl) (fun w3 hb hgr => ?_)
  have hE12 := hE1.trans hE2
  have hE3 : Ext w w3 := hE12.grown hgr hE12.size (fun g hg => by cases hg; exact hE1.size)
  have hf3 := (hf.ext hE2).kept hgr (by have := hf.lt; simp; omega)
  have hw1 : w.heap.size ≤ w1.heap.size := hE1.size
  (repeat (first | (apply WL.nil) | (apply EX.thenN) | (apply CW.seq) | (apply CW.region) | (apply WL.ldA; rfl; rfl; rfl; assumption; rfl)))
  refine WL.call rfl rfl rfl (ltlCheck0_ok t.nodes t (Nat.le_refl _) w3 F 1 0 w1.heap.size ao cap (hs.mono (fun b hb => hE3.block b (hF b hb)) fun _ h => h) (fun b hb => Nat.lt_of_lt_of_le (hF b hb) hE3.size) (fun h => by have := hF _ h; omega) hb (by omega) (by omega) (by omega) (by omega)) ?_
  rintro v w4 ⟨rfl, hb4, hg4⟩
  (repeat (first | (apply WL.pure; rfl; rfl; rfl) | (apply WL.nil) | (apply EX.thenN) | (apply CW.ret)))
  exact EX.ret1 rfl rfl ⟨rfl, hE3.grown hg4 hE3.size (fun g hg => by cases hg; exact hE1.size)⟩
end Go.Proofs.Ytadbkppgaekmpaa
/-
  Package lasso: what formulas say at all places.
-/
set_option linter.unusedVariables false
set_option linter.unusedSimpArgs false
namespace Go.Proofs.Ytadbkppgaekmpaa
open Go.RowKit

def bitW (s l : List Nat) (i a : Nat) : Bool := decide (lat s l i >>> a &&& 1 = 1)
/-- one place, of the kinds that go place by place -/
def placeK (s l : List Nat) (k n : Int) (ks : List (List Bool)) (i : Nat) : Bool :=
  if k = 3 then bitW s l i n.toNat
  else if k = 5 then (ks.getD 0 []).getD i false && (ks.getD 1 []).getD i false
  else if k = 6 then (ks.getD 0 []).getD i false || (ks.getD 1 []).getD i false
  else if k = 7 then (ks.getD 0 []).getD (nextL s l i) false
  else false
def comb (s l : List Nat) (k n : Int) (ks : List (List Bool)) : List Bool :=
  if k = 8 then untilL s l (ks.getD 0 []) (ks.getD 1 [])
  else if k = 9 then (untilL s l ((ks.getD 0 []).map (!·)) ((ks.getD 1 []).map (!·))).map (!·)
  else if k = 10 then untilL s l (List.replicate (s.length + l.length) true) (ks.getD 0 [])
  else if k = 11 then (untilL s l (List.replicate (s.length + l.length) true) ((ks.getD 0 []).map (!·))).map (!·)
  else if k = 4 then (ks.getD 0 []).map (!·)
  else if k = 1 then List.replicate (s.length + l.length) true
  else (List.range (s.length + l.length)).map (placeK s l k n ks)
mutual
def holdsL (s l : List Nat) : Ltl → List Bool
  | .mk k n kids => comb s l k n (holdsLs s l kids)
def holdsLs (s l : List Nat) : List Ltl → List (List Bool)
  | [] => []
  | x :: r => holdsL s l x :: holdsLs s l r
end
mutual
def wfT : Ltl → Prop
  | .mk k n kids => kidsK k = kids.length ∧ 0 ≤ n ∧ n ≤ 63 ∧ (k ≠ 3 → n = 0) ∧ wfTs kids
def wfTs : List Ltl → Prop
  | [] => True
  | x :: r => wfT x ∧ wfTs r
end
mutual
theorem chkF_wf : ∀ (t : Ltl) (deep c : Int), (chkF t deep c).1 = 0 → wfT t
  | .mk k n kids, deep, c, h => by
    simp only [chkF] at h
    split at h
    · cases h
    · split at h
      · cases h
      · split at h
        · cases h
        · rename_i h3
          simp only [wfT]
          have := chkFL_wf kids _ _ h
          refine ⟨by omega, by omega, by omega, by omega, this⟩
theorem chkFL_wf : ∀ (l : List Ltl) (deep c : Int), (chkFL l deep c).1 = 0 → wfTs l
  | [], _, _, _ => trivial
  | x :: r, deep, c, h => by
    simp only [chkFL] at h
    split at h
    · rename_i h1; exact absurd h h1
    · rename_i h1
      exact ⟨chkF_wf x deep c (by simpa using h1), chkFL_wf r _ _ h⟩
end
theorem holdsLs_len (s l : List Nat) : ∀ kids, (holdsLs s l kids).length = kids.length
  | [] => rfl
  | x :: r => by simp [holdsLs, holdsLs_len s l r]
theorem kidsK_cases (k : Int) : (kidsK k = 0 ∧ (k = 1 ∨ k = 2 ∨ k = 3)) ∨ (kidsK k = 1 ∧ (k = 4 ∨ k = 7 ∨ k = 10 ∨ k = 11)) ∨ (kidsK k = 2 ∧ (k = 5 ∨ k = 6 ∨ k = 8 ∨ k = 9)) ∨ kidsK k = -1 := by
  unfold kidsK; split
  · omega
  · split
    · omega
    · split <;> omega
theorem comb_len {s l : List Nat} {k n : Int} {ks : List (List Bool)} (hk : kidsK k = ks.length) (h : ∀ x ∈ ks, x.length = s.length + l.length) : (comb s l k n ks).length = s.length + l.length := by
  have g0 : 0 < ks.length → (ks.getD 0 []).length = s.length + l.length := by
    intro h0
    rw [List.getD_eq_getElem?_getD, List.getElem?_eq_getElem h0]
    exact h _ (List.getElem_mem h0)
  have hc := kidsK_cases k
  unfold comb
  split
  · rw [untilL_len]; exact g0 (by omega)
  · split
    · rw [List.length_map, untilL_len, List.length_map]; exact g0 (by omega)
    · split
      · rw [untilL_len, List.length_replicate]
      · split
        · rw [List.length_map, untilL_len, List.length_replicate]
        · split
          · rw [List.length_map]; exact g0 (by omega)
          · split
            · rw [List.length_replicate]
            · simp
mutual
theorem holdsL_len {s l : List Nat} : ∀ t, wfT t → (holdsL s l t).length = s.length + l.length
  | .mk k n kids, h => by
    simp only [wfT] at h
    simp only [holdsL]
    exact comb_len (by rw [holdsLs_len]; exact h.1) (holdsLs_lens kids h.2.2.2.2)
theorem holdsLs_lens {s l : List Nat} : ∀ kids, wfTs kids → ∀ x ∈ holdsLs s l kids, x.length = s.length + l.length
  | [], _, x, hx => by simp [holdsLs] at hx
  | t :: r, h, x, hx => by
    simp only [holdsLs, List.mem_cons] at hx
    rcases hx with rfl | hx
    · exact holdsL_len t h.1
    · exact holdsLs_lens r h.2 x hx
end
theorem wfTs_get : ∀ (kids : List Ltl) (i : Nat) (h : i < kids.length), wfTs kids → wfT kids[i]
  | x :: r, 0, h, hw => hw.1
  | x :: r, i + 1, h, hw => wfTs_get r i (by simpa using h) hw.2
theorem holdsLs_take (s l : List Nat) : ∀ (kids : List Ltl) (i : Nat) (h : i < kids.length), holdsLs s l (kids.take (i + 1)) = holdsLs s l (kids.take i) ++ [holdsL s l kids[i]]
  | x :: r, 0, h => by simp [holdsLs]
  | x :: r, i + 1, h => by
    simp only [List.take_succ_cons, holdsLs, List.cons_append, List.getElem_cons_succ]
    rw [holdsLs_take s l r i (by simpa using h)]

end Go.Proofs.Ytadbkppgaekmpaa
/-
  Formulas at the places of a word of any length, by two rounds from behind: as package lasso has them. Plain lists.
-/
set_option linter.unusedVariables false
set_option linter.unusedSimpArgs false
namespace Go.Proofs.Ytadbkppgaekmpaa

/-- at a place -/
def atC (k n : Int) (ks : List (List Bool)) (i : Nat) (letter : Nat) (later : Bool) (nx : Nat) : Bool :=
  if k = 1 then true
  else if k = 3 then decide (letter >>> n.toNat &&& 1 = 1)
  else if k = 4 then !(ks.getD 0 []).getD i false
  else if k = 5 then (ks.getD 0 []).getD i false && (ks.getD 1 []).getD i false
  else if k = 6 then (ks.getD 0 []).getD i false || (ks.getD 1 []).getD i false
  else if k = 7 then (ks.getD 0 []).getD nx false
  else if k = 10 then (ks.getD 0 []).getD i false || later
  else if k = 11 then (ks.getD 0 []).getD i false && later
  else if k = 8 then (ks.getD 1 []).getD i false || ((ks.getD 0 []).getD i false && later)
  else if k = 9 then (ks.getD 1 []).getD i false && ((ks.getD 0 []).getD i false || later)
  else false
def atS (s l : List Nat) (k n : Int) (ks : List (List Bool)) (i : Nat) (out : List Bool) : Bool := atC k n ks i (lat s l i) (out.getD (nextL s l i) false) (nextL s l i)
def roundR (s l : List Nat) (k n : Int) (ks : List (List Bool)) : Nat → List Bool → List Bool
  | 0, out => out
  | i + 1, out => roundR s l k n ks i (out.set i (atS s l k n ks i out))
def greatB (k : Int) : Bool := k == 9 || k == 11
def repK (s l : List Nat) (k n : Int) (ks : List (List Bool)) : List Bool := roundR s l k n ks (s.length + l.length) (roundR s l k n ks (s.length + l.length) (List.replicate (s.length + l.length) (greatB k)))
section
variable {s l : List Nat} {k n : Int} {ks : List (List Bool)}
theorem roundR_len : ∀ i out, (roundR s l k n ks i out).length = out.length
  | 0, out => rfl
  | i + 1, out => by rw [roundR, roundR_len i, List.length_set]
theorem getD_setB {l : List Bool} {i m : Nat} {v : Bool} (hi : i < l.length) : (l.set i v).getD m false = if i = m then v else l.getD m false := by
  rw [List.getD_eq_getElem?_getD, List.getElem?_set]
  split
  · rename_i h; subst h; first | rfl | (rw [if_pos hi]; rfl)
  · rw [List.getD_eq_getElem?_getD]
/-- where later places don't matter -/
theorem roundR_place {f : Nat → Bool} : ∀ i out, i ≤ out.length → (∀ j, j < i → ∀ o : List Bool, atS s l k n ks j o = f j) → ∀ m, (roundR s l k n ks i out).getD m false = if m < i then f m else out.getD m false
  | 0, out, _, _, m => by rw [if_neg (by omega)]; rfl
  | i + 1, out, hi, hf, m => by
    rw [roundR, roundR_place i _ (by rw [List.length_set]; omega) (fun j hj => hf j (by omega)), hf i (by omega), getD_setB (by omega)]
    by_cases h : m < i
    · rw [if_pos h, if_pos (by omega)]
    · rw [if_neg h]
      by_cases e : i = m
      · subst e; rw [if_pos rfl, if_pos (by omega)]
      · rw [if_neg e, if_neg (by omega)]
theorem listB_ext {a b : List Bool} (hl : a.length = b.length) (h : ∀ i, i < a.length → a.getD i false = b.getD i false) : a = b := by
  refine List.ext_getElem hl fun i h1 h2 => ?_
  have := h i h1
  rw [List.getD_eq_getElem?_getD, List.getElem?_eq_getElem h1, List.getD_eq_getElem?_getD, List.getElem?_eq_getElem h2] at this
  exact this
theorem repK_place {f : Nat → Bool} (hf : ∀ j, j < s.length + l.length → ∀ o : List Bool, atS s l k n ks j o = f j) : repK s l k n ks = (List.range (s.length + l.length)).map f := by
  unfold repK
  refine listB_ext (by rw [roundR_len, roundR_len]; simp) fun i hi => ?_
  rw [roundR_len, roundR_len, List.length_replicate] at hi
  rw [roundR_place _ _ (by rw [roundR_len]; simp) hf, if_pos hi]
  rw [List.getD_eq_getElem?_getD, List.getElem?_map, List.getElem?_range hi]; rfl
/-- until itself -/
theorem roundR_until {a b : List Bool} {N : Nat} (h : ∀ j, j < N → ∀ o : List Bool, atS s l k n ks j o = (b.getD j false || (a.getD j false && o.getD (nextL s l j) false))) : ∀ i out, i ≤ N → roundR s l k n ks i out = untilR s l a b i out
  | 0, out, _ => rfl
  | i + 1, out, hi => by rw [roundR, untilR, h i (by omega), roundR_until h i _ (by omega)]
theorem map_not_set {o : List Bool} {i : Nat} {v : Bool} : (o.map (!·)).set i (!v) = (o.set i v).map (!·) := by rw [List.map_set]
theorem map_not_not {o : List Bool} : (o.map (!·)).map (!·) = o := by
  induction o with
  | nil => rfl
  | cons a r ih => rw [List.map_cons, List.map_cons, ih, Bool.not_not]
theorem map_not_getD {o : List Bool} {i : Nat} (h : i < o.length) : (o.map (!·)).getD i false = !o.getD i false := by
  rw [List.getD_eq_getElem?_getD, List.getElem?_map, List.getD_eq_getElem?_getD, List.getElem?_eq_getElem h]; rfl
theorem nextL_lt (h0 : 0 < l.length) {i : Nat} (hi : i < s.length + l.length) : nextL s l i < s.length + l.length := by
  unfold nextL; split <;> omega
theorem len_dual {a b o : List Bool} {i : Nat} : ((untilR s l a b i (o.map (!·))).map (!·)).length = o.length := by rw [List.length_map, untilR_len, List.length_map]
/-- .. turned round -/
theorem roundR_dual {a b : List Bool} {N : Nat} (hN : N = s.length + l.length) (h0 : 0 < l.length) (h : ∀ j, j < N → ∀ o : List Bool, o.length = N → atS s l k n ks j o = !(b.getD j false || (a.getD j false && !o.getD (nextL s l j) false))) :
    ∀ i out, i ≤ N → out.length = N → roundR s l k n ks i out = (untilR s l a b i (out.map (!·))).map (!·)
  | 0, out, _, _ => by rw [roundR, untilR, map_not_not]
  | i + 1, out, hi, hl => by
    have hn := nextL_lt (s := s) h0 (show i < s.length + l.length by omega)
    rw [roundR, untilR, h i (by omega) out hl, roundR_dual hN h0 h i _ (by omega) (by simpa using hl)]
    rw [map_not_getD (by omega), ← map_not_set, Bool.not_not]
theorem repK_comb (h0 : 0 < l.length) (hk : kidsK k = ks.length) (hks : ∀ x ∈ ks, x.length = s.length + l.length) : repK s l k n ks = comb s l k n ks := by
  have g0 : 0 < ks.length → (ks.getD 0 []).length = s.length + l.length := fun h => by
    rw [List.getD_eq_getElem?_getD, List.getElem?_eq_getElem h]; exact hks _ (List.getElem_mem h)
  have g1 : 1 < ks.length → (ks.getD 1 []).length = s.length + l.length := fun h => by
    rw [List.getD_eq_getElem?_getD, List.getElem?_eq_getElem h]; exact hks _ (List.getElem_mem h)
  have hrep : ∀ j, j < s.length + l.length → (List.replicate (s.length + l.length) true).getD j false = true := fun j hj => by
    rw [List.getD_eq_getElem?_getD, List.getElem?_replicate, if_pos hj]; rfl
  rcases kidsK_cases k with ⟨hn, hc⟩ | ⟨hn, hc⟩ | ⟨hn, hc⟩ | hn
  · rcases hc with rfl | rfl | rfl
    · rw [repK_place (f := fun _ => true) (fun j hj o => by simp [atS, atC])]
      show _ = List.replicate _ true
      refine listB_ext (by simp) fun i hi => ?_
      simp at hi
      rw [hrep i hi, List.getD_eq_getElem?_getD, List.getElem?_map, List.getElem?_range hi]; rfl
    · rw [repK_place (f := placeK s l 2 n ks) (fun j hj o => by simp [atS, atC, placeK])]
      simp [comb]
    · rw [repK_place (f := placeK s l 3 n ks) (fun j hj o => by simp [atS, atC, placeK, bitW])]
      simp [comb]
  · have g0 := g0 (by omega)
    rcases hc with rfl | rfl | rfl | rfl
    · rw [repK_place (f := fun j => !(ks.getD 0 []).getD j false) (fun j hj o => by simp [atS, atC])]
      show _ = (ks.getD 0 []).map (!·)
      refine listB_ext (by simpa using g0.symm) fun i hi => ?_
      simp only [List.length_map, List.length_range] at hi
      rw [map_not_getD (by omega), List.getD_eq_getElem?_getD, List.getElem?_map, List.getElem?_range hi]; rfl
    · rw [repK_place (f := placeK s l 7 n ks) (fun j hj o => by simp [atS, atC, placeK])]
      simp [comb]
    · have h : ∀ j, j < s.length + l.length → ∀ o : List Bool, atS s l 10 n ks j o = ((ks.getD 0 []).getD j false || ((List.replicate (s.length + l.length) true).getD j false && o.getD (nextL s l j) false)) := fun j hj o => by
        rw [hrep j hj]; simp [atS, atC]
      unfold repK comb untilL
      rw [roundR_until h _ _ (Nat.le_refl _), roundR_until h _ _ (Nat.le_refl _), List.length_replicate]
      rfl
    · have h : ∀ j, j < s.length + l.length → ∀ o : List Bool, o.length = s.length + l.length → atS s l 11 n ks j o = !((((ks.getD 0 []).map (!·)).getD j false) || ((List.replicate (s.length + l.length) true).getD j false && !o.getD (nextL s l j) false)) := fun j hj o _ => by
        rw [hrep j hj, map_not_getD (by omega)]; simp [atS, atC]
      unfold repK comb untilL
      rw [roundR_dual rfl h0 h _ _ (Nat.le_refl _) List.length_replicate, roundR_dual rfl h0 h _ _ (Nat.le_refl _) (len_dual.trans List.length_replicate), map_not_not, List.length_replicate, List.map_replicate]
      rfl
  · have g0 := g0 (by omega)
    have g1 := g1 (by omega)
    rcases hc with rfl | rfl | rfl | rfl
    · rw [repK_place (f := placeK s l 5 n ks) (fun j hj o => by simp [atS, atC, placeK])]
      simp [comb]
    · rw [repK_place (f := placeK s l 6 n ks) (fun j hj o => by simp [atS, atC, placeK])]
      simp [comb]
    · have h : ∀ j, j < s.length + l.length → ∀ o : List Bool, atS s l 8 n ks j o = ((ks.getD 1 []).getD j false || ((ks.getD 0 []).getD j false && o.getD (nextL s l j) false)) := fun j hj o => by
        simp [atS, atC]
      unfold repK comb untilL
      rw [roundR_until h _ _ (Nat.le_refl _), roundR_until h _ _ (Nat.le_refl _), g0]
      rfl
    · have h : ∀ j, j < s.length + l.length → ∀ o : List Bool, o.length = s.length + l.length → atS s l 9 n ks j o = !((((ks.getD 1 []).map (!·)).getD j false) || ((((ks.getD 0 []).map (!·)).getD j false) && !o.getD (nextL s l j) false)) := fun j hj o _ => by
        rw [map_not_getD (by omega), map_not_getD (by omega)]; simp [atS, atC]
      unfold repK comb untilL
      rw [roundR_dual rfl h0 h _ _ (Nat.le_refl _) List.length_replicate, roundR_dual rfl h0 h _ _ (Nat.le_refl _) (len_dual.trans List.length_replicate), map_not_not, List.length_map, g0, List.map_replicate]
      rfl
  · omega
end
end Go.Proofs.Ytadbkppgaekmpaa
/-
  What formulas of one way mean, on endless words; that lasso.holds says so. Plain law, no program in sight.
-/
set_option linter.unusedVariables false
set_option linter.unusedSimpArgs false
namespace Go.Proofs.Ytadbkppgaekmpaa
open Go.RowKit

def Til (A B : Nat → Prop) (i : Nat) : Prop := ∃ j, i ≤ j ∧ B j ∧ ∀ m, i ≤ m → m < j → A m
theorem Til.step {A B : Nat → Prop} {i : Nat} : Til A B i ↔ B i ∨ (A i ∧ Til A B (i + 1)) := by
  constructor
  · rintro ⟨j, hj, hb, ha⟩
    by_cases h : i = j
    · subst h; exact .inl hb
    · exact .inr ⟨ha i (Nat.le_refl _) (by omega), j, by omega, hb, fun m h1 h2 => ha m (by omega) h2⟩
  · rintro (hb | ⟨ha, j, hj, hb, hm⟩)
    · exact ⟨i, Nat.le_refl _, hb, fun m h1 h2 => by omega⟩
    · refine ⟨j, by omega, hb, fun m h1 h2 => ?_⟩
      by_cases h : m = i
      · subst h; exact ha
      · exact hm m (by omega) h2
def semK (L : Nat → Nat) (k n : Int) (ks : List (Nat → Prop)) (i : Nat) : Prop :=
  if k = 1 then True
  else if k = 3 then L i >>> n.toNat &&& 1 = 1
  else if k = 4 then ¬ ks.getD 0 (fun _ => False) i
  else if k = 5 then ks.getD 0 (fun _ => False) i ∧ ks.getD 1 (fun _ => False) i
  else if k = 6 then ks.getD 0 (fun _ => False) i ∨ ks.getD 1 (fun _ => False) i
  else if k = 7 then ks.getD 0 (fun _ => False) (i + 1)
  else if k = 8 then Til (ks.getD 0 (fun _ => False)) (ks.getD 1 (fun _ => False)) i
  else if k = 9 then ¬ Til (fun j => ¬ ks.getD 0 (fun _ => False) j) (fun j => ¬ ks.getD 1 (fun _ => False) j) i
  else if k = 10 then Til (fun _ => True) (ks.getD 0 (fun _ => False)) i
  else if k = 11 then ¬ Til (fun _ => True) (fun j => ¬ ks.getD 0 (fun _ => False) j) i
  else False
mutual
def sem (L : Nat → Nat) : Ltl → Nat → Prop
  | .mk k n kids => semK L k n (sems L kids)
def sems (L : Nat → Nat) : List Ltl → List (Nat → Prop)
  | [] => []
  | x :: r => sem L x :: sems L r
end
theorem Til.shift {A B A' B' : Nat → Prop} {i i' : Nat} (ha : ∀ j, A (i + j) ↔ A' (i' + j)) (hb : ∀ j, B (i + j) ↔ B' (i' + j)) : Til A B i ↔ Til A' B' i' := by
  constructor
  · rintro ⟨j, hj, h1, h2⟩
    obtain ⟨d, rfl⟩ := Nat.exists_eq_add_of_le hj
    refine ⟨i' + d, by omega, (hb d).1 h1, fun m hm hm2 => ?_⟩
    obtain ⟨e, rfl⟩ := Nat.exists_eq_add_of_le hm
    exact (ha e).1 (h2 (i + e) (by omega) (by omega))
  · rintro ⟨j, hj, h1, h2⟩
    obtain ⟨d, rfl⟩ := Nat.exists_eq_add_of_le hj
    refine ⟨i + d, by omega, (hb d).2 h1, fun m hm hm2 => ?_⟩
    obtain ⟨e, rfl⟩ := Nat.exists_eq_add_of_le hm
    exact (ha e).2 (h2 (i' + e) (by omega) (by omega))
mutual
theorem sem_congr {L L' : Nat → Nat} : ∀ (t : Ltl) (i i' : Nat), (∀ j, L (i + j) = L' (i' + j)) → (sem L t i ↔ sem L' t i')
  | .mk k n kids, i, i', h => by
    have hk : ∀ c d, (sems L kids).getD c (fun _ => False) (i + d) ↔ (sems L' kids).getD c (fun _ => False) (i' + d) := fun c d => sems_congr kids (i + d) (i' + d) (fun j => by rw [Nat.add_assoc, Nat.add_assoc]; exact h (d + j)) c
    simp only [sem, semK]
    split
    · exact Iff.rfl
    · split
      · rw [show L i = L' i' from h 0]
      · split
        · exact not_congr (hk 0 0)
        · split
          · exact and_congr (hk 0 0) (hk 1 0)
          · split
            · exact or_congr (hk 0 0) (hk 1 0)
            · split
              · exact hk 0 1
              · split
                · exact Til.shift (hk 0) (hk 1)
                · split
                  · exact not_congr (Til.shift (fun j => not_congr (hk 0 j)) (fun j => not_congr (hk 1 j)))
                  · split
                    · exact Til.shift (fun _ => Iff.rfl) (hk 0)
                    · split
                      · exact not_congr (Til.shift (fun _ => Iff.rfl) (fun j => not_congr (hk 0 j)))
                      · exact Iff.rfl
theorem sems_congr {L L' : Nat → Nat} : ∀ (kids : List Ltl) (i i' : Nat), (∀ j, L (i + j) = L' (i' + j)) → ∀ c, ((sems L kids).getD c (fun _ => False) i ↔ (sems L' kids).getD c (fun _ => False) i')
  | [], i, i', h, c => by simp [sems]
  | x :: r, i, i', h, 0 => by simpa [sems] using sem_congr x i i' h
  | x :: r, i, i', h, c + 1 => by simpa [sems] using sems_congr r i i' h c
end

section
variable {s l : List Nat} {a b : List Bool} {A B : Nat → Prop} {N : Nat}
/-- what until says is so -/
theorem untilR_sound (hN : N = s.length + l.length) (h0 : 0 < l.length) (ha : ∀ i, i < N → (a.getD i false = true → A i)) (hb : ∀ i, i < N → (b.getD i false = true → B i)) (hT : ∀ i, i < N → Til A B (nextL s l i) → Til A B (i + 1)) :
    ∀ i out, i ≤ N → out.length = N → (∀ m, m < N → out.getD m false = true → Til A B m) → ∀ m, m < N → (untilR s l a b i out).getD m false = true → Til A B m
  | 0, out, _, _, h, m, hm, ho => h m hm ho
  | i + 1, out, hi, hl, h, m, hm, ho => by
    refine untilR_sound hN h0 ha hb hT i _ (by omega) (by simpa using hl) (fun m hm ho => ?_) m hm ho
    rw [List.getD_eq_getElem?_getD, List.getElem?_set] at ho
    split at ho
    · rename_i hmi
      subst hmi
      rw [if_pos (by omega)] at ho
      simp only [Option.getD_some, Bool.or_eq_true, Bool.and_eq_true] at ho
      refine Til.step.2 ?_
      rcases ho with ho | ⟨h1, h2⟩
      · exact .inl (hb i (by omega) ho)
      · refine .inr ⟨ha i (by omega) h1, hT i (by omega) (h _ ?_ h2)⟩
        unfold nextL; split <;> omega
    · rw [← List.getD_eq_getElem?_getD] at ho
      exact h m hm ho
/-- a round finds what is found place by place -/
theorem untilR_full (hN : N = s.length + l.length) (good : Nat → Prop) (hg : ∀ m, m + 1 < N → good m → b.getD m false = true ∨ (a.getD m false = true ∧ good (m + 1))) :
    ∀ i out, i + 1 ≤ N → out.length = N → (∀ m, i ≤ m → m < N → good m → out.getD m false = true) → ∀ m, m < N → good m → (untilR s l a b i out).getD m false = true
  | 0, out, _, _, h, m, hm, hgm => h m (Nat.zero_le _) hm hgm
  | i + 1, out, hi, hl, h, m, hm, hgm => by
    refine untilR_full hN good hg i _ (by omega) (by simpa using hl) (fun m h1 hm hgm => ?_) m hm hgm
    rw [List.getD_eq_getElem?_getD, List.getElem?_set]
    split
    · rename_i hmi
      subst hmi
      rw [if_pos (by omega)]
      simp only [Option.getD_some, Bool.or_eq_true, Bool.and_eq_true]
      rcases hg i (by omega) hgm with hb | ⟨ha, hg'⟩
      · exact .inl hb
      · refine .inr ⟨ha, ?_⟩
        have : nextL s l i = i + 1 := by unfold nextL; rw [if_neg (by omega)]
        rw [this]
        exact h (i + 1) (Nat.le_refl _) (by omega) hg'
    · rename_i hmi
      rw [← List.getD_eq_getElem?_getD]
      exact h m (by omega) hm hgm
theorem untilL_sem (hN : N = s.length + l.length) (h0 : 0 < l.length) (hla : a.length = N) (ha : ∀ i, i < N → (a.getD i false = true ↔ A i)) (hb : ∀ i, i < N → (b.getD i false = true ↔ B i))
    (hA : ∀ j, s.length ≤ j → (A (j + l.length) ↔ A j)) (hB : ∀ j, s.length ≤ j → (B (j + l.length) ↔ B j)) : ∀ i, i < N → ((untilL s l a b).getD i false = true ↔ Til A B i) := by
  have hTN : Til A B N ↔ Til A B s.length := by
    refine Til.shift (fun j => ?_) (fun j => ?_)
    · rw [show N + j = (s.length + j) + l.length by omega]; exact hA _ (by omega)
    · rw [show N + j = (s.length + j) + l.length by omega]; exact hB _ (by omega)
  have hT : ∀ i, i < N → (Til A B (nextL s l i) ↔ Til A B (i + 1)) := by
    intro i hi
    unfold nextL
    split
    · rw [show i + 1 = N by omega]; exact hTN.symm
    · exact Iff.rfl
  -- a witness within the loop
  have hin : ∀ d j, j - N = d → s.length ≤ j → B j → (∀ m, s.length ≤ m → m < j → A m) → ∃ j', s.length ≤ j' ∧ j' < N ∧ B j' ∧ ∀ m, s.length ≤ m → m < j' → A m := by
    intro d
    induction d using Nat.strongRecOn with
    | _ d ih =>
      intro j hd hj hBj hAj
      by_cases h : j < N
      · exact ⟨j, hj, h, hBj, hAj⟩
      · have hB' : B (j - l.length) := by
          have := hB (j - l.length) (by omega)
          rw [show j - l.length + l.length = j by omega] at this
          exact this.1 hBj
        by_cases hjN : j - l.length < N
        · exact ⟨j - l.length, by omega, hjN, hB', fun m h1 h2 => hAj m h1 (by omega)⟩
        · exact ih (j - l.length - N) (by omega) (j - l.length) rfl (by omega) hB' (fun m h1 h2 => hAj m h1 (by omega))
  let good1 : Nat → Prop := fun m => ∃ j, m ≤ j ∧ j < N ∧ B j ∧ ∀ r, m ≤ r → r < j → A r
  have hrep : (List.replicate a.length false).length = N := by simp [hla]
  have hpos : 0 < N := by omega
  obtain ⟨M, hM⟩ : ∃ M, N = M + 1 := ⟨N - 1, by omega⟩
  -- the first round
  have r1 : ∀ m, m < N → good1 m → (untilR s l a b a.length (List.replicate a.length false)).getD m false = true := by
    intro m hm hg
    rw [show a.length = M + 1 by omega]
    simp only [untilR]
    refine untilR_full (N := N) hN good1 ?_ M _ (by omega) (by simp; omega) (fun m h1 h2 hg => ?_) m hm hg
    · rintro m hm ⟨j, h1, h2, h3, h4⟩
      by_cases hmj : m = j
      · subst hmj; exact .inl ((hb m h2).2 h3)
      · exact .inr ⟨(ha m (by omega)).2 (h4 m (Nat.le_refl _) (by omega)), j, by omega, h2, h3, fun r hr1 hr2 => h4 r (by omega) hr2⟩
    · have : m = M := by omega
      subst this
      obtain ⟨j, h1, h2, h3, h4⟩ := hg
      have : j = m := by omega
      subst this
      rw [List.getD_eq_getElem?_getD, List.getElem?_set, if_pos rfl, if_pos (by simp)]
      simp only [Option.getD_some, (hb j h2).2 h3, Bool.true_or]
  have hl1 : (untilR s l a b a.length (List.replicate a.length false)).length = N := by rw [untilR_len]; exact hrep
  intro i hi
  constructor
  · intro h
    unfold untilL at h
    refine untilR_sound hN h0 (fun i hi => (ha i hi).1) (fun i hi => (hb i hi).1) (fun i hi => (hT i hi).1) a.length _ (by omega) hl1 (fun m hm ho => ?_) i hi h
    refine untilR_sound hN h0 (fun i hi => (ha i hi).1) (fun i hi => (hb i hi).1) (fun i hi => (hT i hi).1) a.length _ (by omega) hrep (fun m hm ho => ?_) m hm ho
    rw [List.getD_eq_getElem?_getD, List.getElem?_replicate] at ho
    split at ho <;> simp at ho
  · intro h
    unfold untilL
    generalize untilR s l a b a.length (List.replicate a.length false) = out1 at *
    rw [show a.length = M + 1 by omega]
    simp only [untilR]
    refine untilR_full (N := N) hN (Til A B) ?_ M _ (by omega) (by simpa using hl1) (fun m h1 h2 hg => ?_) i hi h
    · intro m hm hg
      rcases Til.step.1 hg with h1 | ⟨h1, h2⟩
      · exact .inl ((hb m (by omega)).2 h1)
      · exact .inr ⟨(ha m (by omega)).2 h1, h2⟩
    · have : m = M := by omega
      subst this
      rw [List.getD_eq_getElem?_getD, List.getElem?_set, if_pos rfl, if_pos (by omega)]
      simp only [Option.getD_some, Bool.or_eq_true, Bool.and_eq_true]
      rcases Til.step.1 hg with h3 | ⟨h3, h4⟩
      · exact .inl ((hb m h2).2 h3)
      · refine .inr ⟨(ha m h2).2 h3, ?_⟩
        have hnx : nextL s l m = s.length := by unfold nextL; rw [if_pos (by omega)]
        rw [hnx]
        rw [← hM] at h4
        obtain ⟨j, hj, hBj, hAj⟩ := hTN.1 h4
        obtain ⟨j', k1, k2, k3, k4⟩ := hin (j - N) j rfl hj hBj hAj
        exact r1 s.length (by omega) ⟨j', k1, k2, k3, k4⟩
end

/- WHAT HOLDS -/
theorem lat_loop {s l : List Nat} {j : Nat} (hj : s.length ≤ j) : lat s l (j + l.length) = lat s l j := by
  unfold lat
  rw [if_neg (by omega), if_neg (by omega)]
  congr 1
  rw [show j + l.length - s.length = (j - s.length) + l.length by omega, Nat.add_mod_right]
theorem sem_loop {s l : List Nat} (t : Ltl) {j : Nat} (hj : s.length ≤ j) : sem (lat s l) t (j + l.length) ↔ sem (lat s l) t j := by
  refine sem_congr t _ _ (fun d => ?_)
  rw [show j + l.length + d = (j + d) + l.length by omega]
  exact lat_loop (by omega)
theorem notB {xs : List Bool} {N i : Nat} (hl : xs.length = N) (hi : i < N) : ((xs.map (!·)).getD i false = true ↔ ¬ xs.getD i false = true) := by
  rw [List.getD_eq_getElem?_getD, List.getD_eq_getElem?_getD, List.getElem?_map, List.getElem?_eq_getElem (by omega)]
  simp
theorem repB {N i : Nat} (hi : i < N) : (List.replicate N true).getD i false = true := by
  rw [List.getD_eq_getElem?_getD, List.getElem?_replicate, if_pos hi]; rfl
theorem sem_next {s l : List Nat} (t : Ltl) {i : Nat} (hi : i < s.length + l.length) : sem (lat s l) t (nextL s l i) ↔ sem (lat s l) t (i + 1) := by
  unfold nextL
  split
  · rename_i h
    rw [show i + 1 = s.length + l.length from h]
    exact (sem_loop t (Nat.le_refl _)).symm
  · exact Iff.rfl
theorem comb_sem {s l : List Nat} (h0 : 0 < l.length) {k n : Int} {kids : List Ltl} (hk : kidsK k = kids.length) (hw : wfTs kids)
    (ih : ∀ c (h : c < kids.length), ∀ i, i < s.length + l.length → ((holdsL s l kids[c]).getD i false = true ↔ sem (lat s l) kids[c] i)) :
    ∀ i, i < s.length + l.length → ((comb s l k n (holdsLs s l kids)).getD i false = true ↔ semK (lat s l) k n (sems (lat s l) kids) i) := by
  intro i hi
  have hc := kidsK_cases k
  have hlen := holdsLs_lens (s := s) (l := l) kids hw
  generalize hN : s.length + l.length = N at *
  -- one kid, two kids
  have one : kids.length = 1 → ∃ x, kids = [x] := fun h => List.length_eq_one_iff.1 h
  have two : kids.length = 2 → ∃ x y, kids = [x, y] := fun h => by
    match kids, h with
    | [x, y], _ => exact ⟨x, y, rfl⟩
  have pl : ∀ f : Nat → Bool, ((List.range N).map f).getD i false = f i := fun f => by
    rw [List.getD_eq_getElem?_getD, List.getElem?_map, List.getElem?_range hi]; rfl
  have hTrue : ∀ i, i < N → ((List.replicate N true).getD i false = true ↔ True) := fun i hi => by rw [repB hi]; simp
  have hrl : (List.replicate N true).length = N := by simp
  have hnx : nextL s l i < N := by unfold nextL; split <;> omega
  rcases hc with ⟨h1, hk'⟩ | ⟨h1, hk'⟩ | ⟨h1, hk'⟩ | h1
  · -- no kid
    rcases hk' with rfl | rfl | rfl
    · have e1 : ∀ ks, comb s l 1 n ks = List.replicate N true := fun ks => by simp [comb, hN]
      have e2 : ∀ ks, semK (lat s l) 1 n ks i = True := fun ks => by simp [semK]
      rw [e1, e2]; exact hTrue i hi
    · have e1 : ∀ ks, comb s l 2 n ks = (List.range N).map (placeK s l 2 n ks) := fun ks => by simp [comb, hN]
      have e2 : ∀ ks, semK (lat s l) 2 n ks i = False := fun ks => by simp [semK]
      rw [e1, e2, pl]; simp [placeK]
    · have e1 : ∀ ks, comb s l 3 n ks = (List.range N).map (placeK s l 3 n ks) := fun ks => by simp [comb, hN]
      have e2 : ∀ ks, semK (lat s l) 3 n ks i = (lat s l i >>> n.toNat &&& 1 = 1) := fun ks => by simp [semK]
      have e3 : ∀ ks, placeK s l 3 n ks i = decide (lat s l i >>> n.toNat &&& 1 = 1) := fun ks => by unfold placeK; rw [if_pos rfl]; rfl
      rw [e1, e2, pl, e3, decide_eq_true_eq]
  · obtain ⟨x, rfl⟩ := one (by omega)
    have hx := ih 0 (by simp)
    simp only [List.getElem_cons_zero] at hx
    have hlx : (holdsL s l x).length = N := hlen _ (by simp [holdsLs])
    have hlp : ∀ j, s.length ≤ j → (sem (lat s l) x (j + l.length) ↔ sem (lat s l) x j) := fun j hj => sem_loop x hj
    have hsn := sem_next (s := s) (l := l) x (i := i) (by omega)
    rw [show holdsLs s l [x] = [holdsL s l x] by simp [holdsLs], show sems (lat s l) [x] = [sem (lat s l) x] by simp [sems]]
    generalize holdsL s l x = u at *
    generalize sem (lat s l) x = q at *
    rcases hk' with rfl | rfl | rfl | rfl
    · have e1 : comb s l 4 n [u] = u.map (!·) := by simp [comb]
      have e2 : semK (lat s l) 4 n [q] i = ¬ q i := by simp [semK]
      rw [e1, e2]
      exact (notB hlx hi).trans (not_congr (hx i hi))
    · have e1 : comb s l 7 n [u] = (List.range N).map (placeK s l 7 n [u]) := by simp [comb, hN]
      have e2 : semK (lat s l) 7 n [q] i = q (i + 1) := by simp [semK]
      have e3 : placeK s l 7 n [u] i = u.getD (nextL s l i) false := by simp [placeK]
      rw [e1, e2, pl, e3]
      exact (hx _ hnx).trans hsn
    · have e1 : comb s l 10 n [u] = untilL s l (List.replicate N true) u := by simp [comb, hN]
      have e2 : semK (lat s l) 10 n [q] i = Til (fun _ => True) q i := by simp [semK]
      rw [e1, e2]
      exact untilL_sem (A := fun _ => True) (B := q) hN.symm h0 hrl hTrue hx (fun _ _ => Iff.rfl) hlp i hi
    · have e1 : comb s l 11 n [u] = (untilL s l (List.replicate N true) (u.map (!·))).map (!·) := by simp [comb, hN]
      have e2 : semK (lat s l) 11 n [q] i = ¬ Til (fun _ => True) (fun j => ¬ q j) i := by simp [semK]
      rw [e1, e2]
      refine (notB (by rw [untilL_len, hrl]) hi).trans (not_congr ?_)
      exact untilL_sem (A := fun _ => True) (B := fun j => ¬ q j) hN.symm h0 hrl hTrue (fun i hi => (notB hlx hi).trans (not_congr (hx i hi))) (fun _ _ => Iff.rfl) (fun j hj => not_congr (hlp j hj)) i hi
  · obtain ⟨x, y, rfl⟩ := two (by omega)
    have hx := ih 0 (by simp)
    have hy := ih 1 (by simp)
    simp only [List.getElem_cons_zero, List.getElem_cons_succ] at hx hy
    have hlx : (holdsL s l x).length = N := hlen _ (by simp [holdsLs])
    have hly : (holdsL s l y).length = N := hlen _ (by simp [holdsLs])
    have hpx : ∀ j, s.length ≤ j → (sem (lat s l) x (j + l.length) ↔ sem (lat s l) x j) := fun j hj => sem_loop x hj
    have hpy : ∀ j, s.length ≤ j → (sem (lat s l) y (j + l.length) ↔ sem (lat s l) y j) := fun j hj => sem_loop y hj
    rw [show holdsLs s l [x, y] = [holdsL s l x, holdsL s l y] by simp [holdsLs], show sems (lat s l) [x, y] = [sem (lat s l) x, sem (lat s l) y] by simp [sems]]
    generalize holdsL s l x = u at *
    generalize holdsL s l y = v at *
    generalize sem (lat s l) x = q at *
    generalize sem (lat s l) y = r at *
    rcases hk' with rfl | rfl | rfl | rfl
    · have e1 : comb s l 5 n [u, v] = (List.range N).map (placeK s l 5 n [u, v]) := by simp [comb, hN]
      have e2 : semK (lat s l) 5 n [q, r] i = (q i ∧ r i) := by simp [semK]
      have e3 : placeK s l 5 n [u, v] i = (u.getD i false && v.getD i false) := by simp [placeK]
      rw [e1, e2, pl, e3, Bool.and_eq_true]
      exact and_congr (hx i hi) (hy i hi)
    · have e1 : comb s l 6 n [u, v] = (List.range N).map (placeK s l 6 n [u, v]) := by simp [comb, hN]
      have e2 : semK (lat s l) 6 n [q, r] i = (q i ∨ r i) := by simp [semK]
      have e3 : placeK s l 6 n [u, v] i = (u.getD i false || v.getD i false) := by simp [placeK]
      rw [e1, e2, pl, e3, Bool.or_eq_true]
      exact or_congr (hx i hi) (hy i hi)
    · have e1 : comb s l 8 n [u, v] = untilL s l u v := by simp [comb]
      have e2 : semK (lat s l) 8 n [q, r] i = Til q r i := by simp [semK]
      rw [e1, e2]
      exact untilL_sem hN.symm h0 hlx hx hy hpx hpy i hi
    · have e1 : comb s l 9 n [u, v] = (untilL s l (u.map (!·)) (v.map (!·))).map (!·) := by simp [comb]
      have e2 : semK (lat s l) 9 n [q, r] i = ¬ Til (fun j => ¬ q j) (fun j => ¬ r j) i := by simp [semK]
      rw [e1, e2]
      refine (notB (by rw [untilL_len, List.length_map]; exact hlx) hi).trans (not_congr ?_)
      exact untilL_sem (A := fun j => ¬ q j) (B := fun j => ¬ r j) hN.symm h0 (by rw [List.length_map]; exact hlx) (fun i hi => (notB hlx hi).trans (not_congr (hx i hi))) (fun i hi => (notB hly hi).trans (not_congr (hy i hi))) (fun j hj => not_congr (hpx j hj)) (fun j hj => not_congr (hpy j hj)) i hi
  · omega
mutual
theorem holds_sem {s l : List Nat} (h0 : 0 < l.length) : ∀ t, wfT t → ∀ i, i < s.length + l.length → ((holdsL s l t).getD i false = true ↔ sem (lat s l) t i)
  | .mk k n kids, hw => by
    simp only [wfT] at hw
    simp only [holdsL, sem]
    exact comb_sem h0 hw.1 hw.2.2.2.2 (fun c h => holdss_sem h0 kids hw.2.2.2.2 c h)
theorem holdss_sem {s l : List Nat} (h0 : 0 < l.length) : ∀ (kids : List Ltl), wfTs kids → ∀ c (h : c < kids.length), ∀ i, i < s.length + l.length → ((holdsL s l kids[c]).getD i false = true ↔ sem (lat s l) kids[c] i)
  | x :: r, hw, 0, h => holds_sem h0 x hw.1
  | x :: r, hw, c + 1, h => holdss_sem h0 r hw.2 c (by simpa using h)
end
end Go.Proofs.Ytadbkppgaekmpaa
