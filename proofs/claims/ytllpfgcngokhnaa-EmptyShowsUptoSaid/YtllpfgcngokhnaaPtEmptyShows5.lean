import Derived.Test.YtllpfgcngokhnaaPtEmptyShows4
/-
  Package scc: what turn, far and Way compute, in plain Lean.
-/
set_option linter.unusedVariables false
set_option linter.unusedSimpArgs false
namespace Go.Proofs.Ytllpfgcngokhnaa

/- TURN -/
/-- who leads to m: of the rows before n, and of row n's first j -/
def trow (g : List (List Int)) (n j : Nat) (m : Nat) : List Int :=
  ((List.range n).filter (fun k => (g.getD k []).contains (m : Int))).map (fun k : Nat => (k : Int)) ++ (if ((g.getD n []).take j).contains (m : Int) then [(n : Int)] else [])
def turnP (g : List (List Int)) (n j : Nat) : List (List Int) := (List.range g.length).map (trow g n j)
def turnL (g : List (List Int)) : List (List Int) := turnP g g.length 0
theorem turnP_len (g : List (List Int)) (n j : Nat) : (turnP g n j).length = g.length := by simp [turnP]
theorem turnP_get {g : List (List Int)} {n j i : Nat} (h : i < (turnP g n j).length) : (turnP g n j)[i] = trow g n j i := by simp [turnP]
theorem trow_len (g : List (List Int)) (n j m : Nat) : (trow g n j m).length ≤ n + 1 := by
  unfold trow
  have h1 := List.length_filter_le (fun k => (g.getD k []).contains (m : Int)) (List.range n)
  rw [List.length_range] at h1
  rw [List.length_append, List.length_map]
  split
  · simp only [List.length_singleton]; omega
  · simp only [List.length_nil]; omega
theorem trow_start (g : List (List Int)) (m : Nat) : trow g 0 0 m = [] := by simp [trow]
theorem turnP_start (g : List (List Int)) : turnP g 0 0 = List.replicate g.length [] := by
  apply List.ext_getElem (by simp [turnP])
  intro i h1 h2
  rw [turnP_get, trow_start]; simp
theorem trow_next {g : List (List Int)} {n : Nat} (m : Nat) : trow g (n + 1) 0 m = trow g n (g.getD n []).length m := by
  unfold trow
  rw [List.take_length, List.take_zero, List.range_succ, List.filter_append, List.map_append]
  cases h : (g.getD n []).contains (m : Int) <;> simp at h <;> simp [h]
theorem turnP_next {g : List (List Int)} {n : Nat} : turnP g (n + 1) 0 = turnP g n (g.getD n []).length := by
  unfold turnP; congr 1; funext m; exact trow_next m
theorem take_next {l : List Int} {j : Nat} (h : j < l.length) (x : Int) : (l.take (j + 1)).contains x = ((l.take j).contains x || x == l[j]) := by
  rw [List.take_succ_eq_append_getElem h, List.contains_eq_any_beq, List.contains_eq_any_beq, List.any_append]
  simp
theorem trow_new {g : List (List Int)} {n j m : Nat} (hj : j < (g.getD n []).length) (hm : (g.getD n [])[j] = (m : Int)) (hn : ((g.getD n []).take j).contains (m : Int) = false) : trow g n (j + 1) m = trow g n j m ++ [(n : Int)] := by
  unfold trow
  rw [take_next hj, hn, hm]; simp
theorem trow_old {g : List (List Int)} {n j m : Nat} (hj : j < (g.getD n []).length) (hn : ((g.getD n []).take j).contains (m : Int) = true) : trow g n (j + 1) m = trow g n j m := by
  unfold trow
  rw [take_next hj, hn]; simp
theorem trow_other {g : List (List Int)} {n j m : Nat} (hj : j < (g.getD n []).length) (hm : (g.getD n [])[j] ≠ (m : Int)) : trow g n (j + 1) m = trow g n j m := by
  unfold trow
  rw [take_next hj]
  have : ((m : Int) == (g.getD n [])[j]) = false := by rw [beq_eq_false_iff_ne]; exact Ne.symm hm
  rw [this, Bool.or_false]
/-- its last one is n just if n was put there -/
theorem trow_last {g : List (List Int)} {n j m : Nat} (h : 0 < (trow g n j m).length) : ((trow g n j m)[(trow g n j m).length - 1] = (n : Int)) ↔ ((g.getD n []).take j).contains (m : Int) = true := by
  have hl : (trow g n j m)[(trow g n j m).length - 1] = (trow g n j m).getLast (List.ne_nil_of_length_pos h) := by rw [List.getLast_eq_getElem]
  rw [hl]
  constructor
  · intro e
    apply Classical.byContradiction
    intro hc
    have hc' : ((g.getD n []).take j).contains (m : Int) = false := by simpa using hc
    have : (n : Int) ∈ trow g n j m := by rw [← e]; exact List.getLast_mem _
    unfold trow at this
    rw [hc'] at this
    simp at this
    omega
  · intro hc
    have : trow g n j m = ((List.range n).filter (fun k => (g.getD k []).contains (m : Int))).map (fun k : Nat => (k : Int)) ++ [(n : Int)] := by unfold trow; rw [if_pos hc]
    simp only [this]
    simp
theorem trow_nil {g : List (List Int)} {n j m : Nat} (h : (trow g n j m).length = 0) : ((g.getD n []).take j).contains (m : Int) = false := by
  cases hc : ((g.getD n []).take j).contains (m : Int)
  · rfl
  · unfold trow at h; rw [if_pos hc] at h; simp at h
theorem turnP_set {g : List (List Int)} {n j : Nat} (hj : j < (g.getD n []).length) {m : Nat} (hm : (g.getD n [])[j] = (m : Int)) (hmg : m < g.length) (hn : ((g.getD n []).take j).contains (m : Int) = false) :
    (turnP g n j).set m (trow g n j m ++ [(n : Int)]) = turnP g n (j + 1) := by
  apply List.ext_getElem (by simp [turnP])
  intro i h1 h2
  rw [List.getElem_set]
  by_cases e : m = i
  · subst e; rw [if_pos rfl, turnP_get, trow_new hj hm hn]
  · rw [if_neg e, turnP_get, turnP_get, trow_other hj (by rw [hm]; omega)]
theorem turnP_same {g : List (List Int)} {n j : Nat} (hj : j < (g.getD n []).length) {m : Nat} (hm : (g.getD n [])[j] = (m : Int)) (hn : ((g.getD n []).take j).contains (m : Int) = true) : turnP g n j = turnP g n (j + 1) := by
  apply List.ext_getElem (by simp [turnP])
  intro i h1 h2
  rw [turnP_get, turnP_get]
  by_cases e : m = i
  · subst e; rw [trow_old hj hn]
  · rw [trow_other hj (by rw [hm]; omega)]
theorem turnL_len (g : List (List Int)) : (turnL g).length = g.length := turnP_len _ _ _
theorem turnL_mem {g : List (List Int)} {m k : Nat} (hm : m < g.length) : (k : Int) ∈ (turnL g).getD m [] ↔ k < g.length ∧ (m : Int) ∈ g.getD k [] := by
  have : (turnL g).getD m [] = trow g g.length 0 m := by
    rw [List.getD_eq_getElem?_getD, List.getElem?_eq_getElem (by rw [turnL_len]; exact hm)]
    exact turnP_get _
  rw [this]
  unfold trow
  simp
  constructor
  · rintro ⟨a, ⟨h1, h2⟩, h3⟩
    have : a = k := by omega
    subst this; exact ⟨h1, h2⟩
  · rintro ⟨h1, h2⟩
    exact ⟨k, ⟨h1, h2⟩, rfl⟩
theorem turnL_ok (g : List (List Int)) : okG (turnL g) := by
  intro l hl x hx
  obtain ⟨m, hm, rfl⟩ := List.mem_iff_getElem.1 hl
  rw [turnL_len] at hm ⊢
  have e : (turnL g)[m]'(by rw [turnL_len]; exact hm) = trow g g.length 0 m := turnP_get _
  rw [e] at hx
  unfold trow at hx
  simp at hx
  obtain ⟨k, ⟨h1, _⟩, rfl⟩ := hx
  omega

/- FAR -/
def farStep (n : Int) (s : List Int × List Int) (k : Int) : List Int × List Int := if s.1.getD k.toNat 0 < 0 then (s.1.set k.toNat (s.1.getD n.toNat 0 + 1), s.2 ++ [k]) else s
def farGo (back : List (List Int)) : Nat → List Int → List Int → List Int
  | 0, d, _ => d
  | _ + 1, d, [] => d
  | f + 1, d, n :: r => farGo back f ((back.getD n.toNat []).foldl (farStep n) (d, r)).1 ((back.getD n.toNat []).foldl (farStep n) (d, r)).2
def farD (to : List Bool) : List Int := to.map fun b => if b then 0 else -1
def farN (to : List Bool) (n : Nat) : List Int := ((List.range n).filter (fun k => to.getD k false)).map fun k : Nat => (k : Int)
def farL (g : List (List Int)) (to : List Bool) : List Int := farGo (turnL g) (2 * g.length + 2) (farD to) (farN to to.length)
def negs (d : List Int) : Nat := d.countP fun x => decide (x < 0)
theorem negs_set {d : List Int} {k : Nat} {v : Int} (hk : k < d.length) (h : d[k] < 0) (hv : 0 ≤ v) : negs (d.set k v) + 1 = negs d := by
  unfold negs
  have e : d = d.take k ++ d[k] :: d.drop (k + 1) := by simp
  have e2 : d.set k v = d.take k ++ v :: d.drop (k + 1) := by rw [List.set_eq_take_append_cons_drop, if_pos hk]
  rw [e2]
  conv => rhs; rw [e]
  simp only [List.countP_append, List.countP_cons, h, decide_true, if_true]
  have : decide (v < 0) = false := by simp; omega
  rw [this]; simp; omega
/-- while one goes: what is marked stands; a number above 0 has one less beside it; who is done has all behind it numbered -/
structure FInv (g : List (List Int)) (to : List Bool) (d now : List Int) (cur : Option (Nat × Nat)) : Prop where
  len : d.length = g.length
  tol : to.length = g.length
  ge : ∀ n (h : n < d.length), -1 ≤ d[n]
  le : ∀ n (h : n < d.length), d[n] + negs d + 1 ≤ g.length
  zero : ∀ n (h : n < d.length), d[n] = 0 ↔ to.getD n false = true
  pos : ∀ n (h : n < d.length), 0 < d[n] → ∃ m, ∃ hm : m < d.length, (m : Int) ∈ g.getD n [] ∧ d[m] = d[n] - 1
  inN : ∀ x ∈ now, 0 ≤ x ∧ x < g.length
  nowd : ∀ x ∈ now, 0 ≤ d.getD x.toNat (-1)
  done : ∀ m (h : m < d.length), 0 ≤ d[m] → (m : Int) ∈ now ∨ (∃ j, cur = some (m, j)) ∨ ∀ k (hk : k < d.length), (m : Int) ∈ g.getD k [] → 0 ≤ d[k]
  curd : ∀ m j, cur = some (m, j) → ∃ hm : m < d.length, 0 ≤ d[m] ∧ ∀ x ∈ ((turnL g).getD m []).take j, 0 ≤ d.getD x.toNat (-1)
theorem getD_at {d : List Int} {n : Nat} {x : Int} (h : n < d.length) : d.getD n x = d[n] := by rw [List.getD_eq_getElem?_getD, List.getElem?_eq_getElem h]; rfl
theorem FInv.step {g : List (List Int)} {to : List Bool} {d now : List Int} {m j : Nat} (h : FInv g to d now (some (m, j))) (hj : j < ((turnL g).getD m []).length) {k : Int} (hk : ((turnL g).getD m [])[j] = k) :
    FInv g to (farStep m (d, now) k).1 (farStep m (d, now) k).2 (some (m, j + 1)) ∧ (farStep m (d, now) k).2.length + negs (farStep m (d, now) k).1 = now.length + negs d := by
  obtain ⟨hm, hdm, hpre⟩ := h.curd m j rfl
  have hml : m < g.length := by rw [← h.len]; exact hm
  have hrow : ((turnL g).getD m []) ∈ turnL g := by
    rw [List.getD_eq_getElem?_getD, List.getElem?_eq_getElem (by rw [turnL_len]; exact hml)]
    exact List.getElem_mem _
  have hk2 : 0 ≤ k ∧ k < g.length := by
    have := turnL_ok g _ hrow k (hk ▸ List.getElem_mem _)
    rwa [turnL_len] at this
  obtain ⟨kn, rfl⟩ := Int.eq_ofNat_of_zero_le hk2.1
  have hkn : kn < g.length := by omega
  have hkd : kn < d.length := by rw [h.len]; exact hkn
  have hmem : (m : Int) ∈ g.getD kn [] := ((turnL_mem hml).1 (hk ▸ List.getElem_mem hj)).2
  have htk : ∀ x, x ∈ ((turnL g).getD m []).take (j + 1) → x ∈ ((turnL g).getD m []).take j ∨ x = (kn : Int) := by
    intro x hx
    rw [List.take_succ_eq_append_getElem hj, hk] at hx
    simpa using hx
  unfold farStep
  simp only [Int.toNat_natCast]
  rw [getD_at hkd, getD_at hm]
  split
  · rename_i hneg
    have hne : m ≠ kn := fun e => by subst e; omega
    have hn := negs_set hkd hneg (v := d[m] + 1) (by omega)
    have hget : ∀ n (hn : n < (d.set kn (d[m] + 1)).length), (d.set kn (d[m] + 1))[n] = if kn = n then d[m] + 1 else d[n]'(by rw [List.length_set] at hn; exact hn) := fun n hn => List.getElem_set ..
    have hup : ∀ x, 0 ≤ d.getD x (-1) → 0 ≤ (d.set kn (d[m] + 1)).getD x (-1) := by
      intro x hx
      by_cases hxl : x < d.length
      · rw [getD_at (by rw [List.length_set]; exact hxl), hget]
        split
        · omega
        · rwa [getD_at hxl] at hx
      · rw [List.getD_eq_getElem?_getD, List.getElem?_eq_none (by omega)] at hx
        simp at hx
    refine ⟨⟨by rw [List.length_set]; exact h.len, h.tol, ?_, ?_, ?_, ?_, ?_, ?_, ?_, ?_⟩, by simp only [List.length_append, List.length_singleton]; omega⟩
    · intro n hn2
      rw [hget]
      split
      · omega
      · exact h.ge n _
    · intro n hn2
      rw [List.length_set] at hn2
      rw [hget]
      have h1 := h.le m hm
      have h2 := h.le n hn2
      dsimp only
      split <;> omega
    · intro n hn2
      rw [List.length_set] at hn2
      rw [hget]
      split
      · rename_i e
        subst e
        have := h.zero kn hkd
        constructor
        · intro e; omega
        · intro e; have := this.2 e; omega
      · exact h.zero n hn2
    · intro n hn2 hp
      rw [List.length_set] at hn2
      rw [hget] at hp ⊢
      split at hp
      · rename_i e
        subst e
        rw [if_pos rfl]
        refine ⟨m, by rw [List.length_set]; exact hm, hmem, ?_⟩
        rw [hget, if_neg (Ne.symm hne)]; omega
      · rename_i e
        rw [if_neg e]
        obtain ⟨m2, h1, h2, h3⟩ := h.pos n hn2 hp
        refine ⟨m2, by rw [List.length_set]; exact h1, h2, ?_⟩
        rw [hget, if_neg (fun e => by subst e; omega)]; exact h3
    · intro x hx
      rw [List.mem_append, List.mem_singleton] at hx
      rcases hx with hx | rfl
      · exact h.inN x hx
      · omega
    · intro x hx
      rw [List.mem_append, List.mem_singleton] at hx
      rcases hx with hx | rfl
      · exact hup _ (h.nowd x hx)
      · rw [Int.toNat_natCast, getD_at (by rw [List.length_set]; exact hkd), hget, if_pos rfl]; omega
    · intro m' hm' hp
      rw [List.length_set] at hm'
      rw [hget] at hp
      split at hp
      · rename_i e; subst e; exact .inl (by simp)
      · rcases h.done m' hm' hp with h1 | ⟨j', h1⟩ | h1
        · exact .inl (List.mem_append_left _ h1)
        · simp only [Option.some.injEq, Prod.mk.injEq] at h1
          exact .inr (.inl ⟨j + 1, by rw [h1.1]⟩)
        · refine .inr (.inr fun k2 hk2 hmk => ?_)
          rw [List.length_set] at hk2
          rw [hget]
          split
          · omega
          · exact h1 k2 hk2 hmk
    · intro m2 j2 e
      simp only [Option.some.injEq, Prod.mk.injEq] at e
      obtain ⟨rfl, rfl⟩ := e
      refine ⟨by rw [List.length_set]; exact hm, by rw [hget, if_neg (Ne.symm hne)]; exact hdm, fun x hx => ?_⟩
      rcases htk x hx with hx | rfl
      · exact hup _ (hpre x hx)
      · rw [Int.toNat_natCast, getD_at (by rw [List.length_set]; exact hkd), hget, if_pos rfl]; omega
  · rename_i hpos
    refine ⟨⟨h.len, h.tol, h.ge, h.le, h.zero, h.pos, h.inN, h.nowd, ?_, ?_⟩, rfl⟩
    · intro m' hm' hp
      rcases h.done m' hm' hp with h1 | ⟨j', h1⟩ | h1
      · exact .inl h1
      · simp only [Option.some.injEq, Prod.mk.injEq] at h1
        exact .inr (.inl ⟨j + 1, by rw [h1.1]⟩)
      · exact .inr (.inr h1)
    · intro m2 j2 e
      simp only [Option.some.injEq, Prod.mk.injEq] at e
      obtain ⟨rfl, rfl⟩ := e
      refine ⟨hm, hdm, fun x hx => ?_⟩
      rcases htk x hx with hx | rfl
      · exact hpre x hx
      · rw [Int.toNat_natCast, getD_at hkd]; omega
theorem FInv.steps {g : List (List Int)} {to : List Bool} {d now : List Int} {m : Nat} (h : FInv g to d now (some (m, 0))) : ∀ j, j ≤ ((turnL g).getD m []).length →
    FInv g to ((((turnL g).getD m []).take j).foldl (farStep m) (d, now)).1 ((((turnL g).getD m []).take j).foldl (farStep m) (d, now)).2 (some (m, j)) ∧
    ((((turnL g).getD m []).take j).foldl (farStep m) (d, now)).2.length + negs ((((turnL g).getD m []).take j).foldl (farStep m) (d, now)).1 = now.length + negs d
  | 0, _ => by simp only [List.take_zero, List.foldl_nil]; exact ⟨h, trivial⟩
  | j + 1, hj => by
    obtain ⟨h1, h2⟩ := FInv.steps h j (by omega)
    rw [List.take_succ_eq_append_getElem (by omega), List.foldl_append, List.foldl_cons, List.foldl_nil]
    obtain ⟨h3, h4⟩ := h1.step (by omega) rfl
    exact ⟨h3, by rw [h4, h2]⟩
theorem FInv.over {g : List (List Int)} {to : List Bool} {d now : List Int} {m : Nat} (h : FInv g to d now (some (m, ((turnL g).getD m []).length))) : FInv g to d now none := by
  obtain ⟨hm, hdm, hpre⟩ := h.curd m _ rfl
  refine ⟨h.len, h.tol, h.ge, h.le, h.zero, h.pos, h.inN, h.nowd, ?_, fun _ _ e => by cases e⟩
  intro m' hm' hp
  rcases h.done m' hm' hp with h1 | ⟨j', h1⟩ | h1
  · exact .inl h1
  · simp only [Option.some.injEq, Prod.mk.injEq] at h1
    obtain ⟨rfl, _⟩ := h1
    refine .inr (.inr fun k hk hmk => ?_)
    rw [List.take_length] at hpre
    have := hpre (k : Int) ((turnL_mem (by rw [← h.len]; exact hm)).2 ⟨by rw [← h.len]; exact hk, hmk⟩)
    rwa [Int.toNat_natCast, getD_at hk] at this
  · exact .inr (.inr h1)
theorem FInv.pop {g : List (List Int)} {to : List Bool} {d r : List Int} {n : Int} (h : FInv g to d (n :: r) none) : ∃ m : Nat, n = (m : Int) ∧ m < g.length ∧ FInv g to d r (some (m, 0)) := by
  have hn := h.inN n (by simp)
  obtain ⟨m, rfl⟩ := Int.eq_ofNat_of_zero_le hn.1
  have hm : m < d.length := by rw [h.len]; omega
  refine ⟨m, rfl, by omega, h.len, h.tol, h.ge, h.le, h.zero, h.pos, fun x hx => h.inN x (by simp [hx]), fun x hx => h.nowd x (by simp [hx]), ?_, ?_⟩
  · intro m' hm' hp
    rcases h.done m' hm' hp with h1 | ⟨j', h1⟩ | h1
    · rcases List.mem_cons.1 h1 with h1 | h1
      · exact .inr (.inl ⟨0, by rw [show m' = m by omega]⟩)
      · exact .inl h1
    · cases h1
    · exact .inr (.inr h1)
  · intro m2 j2 e
    simp only [Option.some.injEq, Prod.mk.injEq] at e
    obtain ⟨rfl, rfl⟩ := e
    refine ⟨hm, ?_, fun x hx => by simp at hx⟩
    have := h.nowd m (by simp)
    rwa [Int.toNat_natCast, getD_at hm] at this
theorem farGo_fuel {g : List (List Int)} {to : List Bool} : ∀ (f f' : Nat) (d now : List Int), FInv g to d now none → now.length + negs d ≤ f → now.length + negs d ≤ f' → farGo (turnL g) f d now = farGo (turnL g) f' d now
  | 0, f', d, now, h, h1, h2 => by
    have : now = [] := List.eq_nil_of_length_eq_zero (by omega)
    subst this
    cases f' <;> rfl
  | f + 1, 0, d, now, h, h1, h2 => by
    have : now = [] := List.eq_nil_of_length_eq_zero (by omega)
    subst this
    rfl
  | f + 1, f' + 1, d, [], h, h1, h2 => rfl
  | f + 1, f' + 1, d, n :: r, h, h1, h2 => by
    obtain ⟨m, rfl, hm, hp⟩ := h.pop
    obtain ⟨h3, h4⟩ := hp.steps _ (Nat.le_refl _)
    have h5 := h3.over
    rw [List.take_length] at h4 h5
    simp only [List.length_cons] at h1 h2
    unfold farGo
    rw [Int.toNat_natCast]
    exact farGo_fuel f f' _ _ h5 (by omega) (by omega)
theorem farGo_inv {g : List (List Int)} {to : List Bool} : ∀ (f : Nat) (d now : List Int), FInv g to d now none → now.length + negs d ≤ f → FInv g to (farGo (turnL g) f d now) [] none
  | 0, d, now, h, h1 => by
    have : now = [] := List.eq_nil_of_length_eq_zero (by omega)
    subst this
    exact h
  | f + 1, d, [], h, h1 => h
  | f + 1, d, n :: r, h, h1 => by
    obtain ⟨m, rfl, hm, hp⟩ := h.pop
    obtain ⟨h3, h4⟩ := hp.steps _ (Nat.le_refl _)
    have h5 := h3.over
    rw [List.take_length] at h4 h5
    simp only [List.length_cons] at h1
    unfold farGo
    rw [Int.toNat_natCast]
    exact farGo_inv f _ _ h5 (by omega)
theorem farD_get {to : List Bool} {n : Nat} (h : n < (farD to).length) : (farD to)[n] = if to.getD n false = true then 0 else -1 := by
  have h' : n < to.length := by simpa [farD] using h
  simp [farD, List.getD_eq_getElem?_getD, h']
theorem farD_negs (to : List Bool) : negs (farD to) + (to.countP fun b => b) = to.length := by
  unfold negs farD
  rw [List.countP_map, List.length_eq_countP_add_countP (fun b => b) (l := to), Nat.add_comm]
  congr 1
  apply List.countP_congr
  intro x _
  cases x <;> simp
theorem farN_len (to : List Bool) (n : Nat) : (farN to n).length ≤ n := by
  unfold farN
  rw [List.length_map]
  have := List.length_filter_le (fun k => to.getD k false) (List.range n)
  rwa [List.length_range] at this
theorem FInv.start {g : List (List Int)} {to : List Bool} (h : to.length = g.length) : FInv g to (farD to) (farN to to.length) none := by
  have hl : (farD to).length = g.length := by simp [farD, h]
  have hneg := farD_negs to
  refine ⟨hl, h, ?_, ?_, ?_, ?_, ?_, ?_, ?_, fun _ _ e => by cases e⟩
  · intro n hn; rw [farD_get]; split <;> omega
  · intro n hn
    rw [farD_get]
    split
    · rename_i ht
      have : 0 < to.countP fun b => b := by
        rw [List.countP_pos_iff]
        have hn' : n < to.length := by omega
        refine ⟨to[n], List.getElem_mem _, ?_⟩
        rw [List.getD_eq_getElem?_getD, List.getElem?_eq_getElem hn'] at ht
        exact ht
      omega
    · omega
  · intro n hn; rw [farD_get]; split <;> simp_all
  · intro n hn hp; rw [farD_get] at hp; split at hp <;> omega
  · intro x hx; simp [farN] at hx; obtain ⟨k, ⟨h1, _⟩, rfl⟩ := hx; omega
  · intro x hx
    simp [farN] at hx
    obtain ⟨k, ⟨h1, h2⟩, rfl⟩ := hx
    rw [Int.toNat_natCast, getD_at (by omega), farD_get, if_pos (by simpa using h2)]; omega
  · intro m hm hp
    rw [farD_get] at hp
    split at hp
    · rename_i ht
      refine .inl ?_
      simp [farN]
      exact ⟨m, ⟨by omega, by simpa using ht⟩, rfl⟩
    · omega
theorem farL_inv {g : List (List Int)} {to : List Bool} (h : to.length = g.length) : FInv g to (farL g to) [] none := by
  refine farGo_inv _ _ _ (FInv.start h) ?_
  have := farD_negs to
  have := farN_len to to.length
  omega

/- WAY -/
def dAt (d : List Int) (x : Int) : Int := d.getD x.toNat 0
def pickB (d : List Int) (at' n : Int) : Bool := decide (0 ≤ dAt d n) && (decide (at' < 0) || (decide (dAt d n < dAt d at') || (decide (dAt d n = dAt d at') && decide (n < at'))))
def wayPick (d : List Int) (l : List Int) : Int := l.foldl (fun at' n => if pickB d at' n then n else at') (-1)
def nextB (d : List Int) (at' nx n : Int) : Bool := decide (dAt d n = dAt d at' - 1) && (decide (nx < 0) || decide (n < nx))
def wayNext (d : List Int) (at' : Int) (row : List Int) : Int := row.foldl (fun nx n => if nextB d at' nx n then n else nx) (-1)
def wayGo (g : List (List Int)) (d : List Int) : Nat → Int → List Int
  | 0, a => [a]
  | f + 1, a => if 0 < dAt d a then a :: wayGo g d f (wayNext d a (g.getD a.toNat [])) else [a]
def wayF (g : List (List Int)) (from' : List Int) (to : List Bool) : List Int × Bool × Int :=
  if chkG g ≠ 0 then ([], false, chkG g) else if oddB g.length from' = true ∨ to.length ≠ g.length then ([], false, 1) else
  if wayPick (farL g to) from' < 0 then ([], false, 0) else (wayGo g (farL g to) g.length (wayPick (farL g to) from'), true, 0)
theorem pick_spec {d : List Int} : ∀ (l : List Int), (∀ x ∈ l, 0 ≤ x) → (wayPick d l = -1 ∧ ∀ x ∈ l, dAt d x < 0) ∨ (wayPick d l ∈ l ∧ 0 ≤ dAt d (wayPick d l)) := by
  have key : ∀ (l pre : List Int) (a : Int), (∀ x ∈ l, 0 ≤ x) → ((a = -1 ∧ ∀ x ∈ pre, dAt d x < 0) ∨ (a ∈ pre ∧ 0 ≤ a ∧ 0 ≤ dAt d a)) →
      ((l.foldl (fun at' n => if pickB d at' n then n else at') a = -1 ∧ ∀ x ∈ pre ++ l, dAt d x < 0) ∨ (l.foldl (fun at' n => if pickB d at' n then n else at') a ∈ pre ++ l ∧ 0 ≤ dAt d (l.foldl (fun at' n => if pickB d at' n then n else at') a))) := by
    intro l
    induction l with
    | nil => intro pre a _ h; simpa using h.imp id (fun h => ⟨h.1, h.2.2⟩)
    | cons x l ih =>
      intro pre a hl h
      have := ih (pre ++ [x]) (if pickB d a x then x else a) (fun y hy => hl y (by simp [hy])) (by
        have hx := hl x (by simp)
        rcases h with ⟨rfl, h2⟩ | ⟨h1, h2, h3⟩
        · by_cases h0 : 0 ≤ dAt d x
          · rw [if_pos (by simp [pickB, h0])]
            exact .inr ⟨by simp, hx, h0⟩
          · rw [if_neg (by simp [pickB, h0])]
            refine .inl ⟨rfl, fun y hy => ?_⟩
            rw [List.mem_append, List.mem_singleton] at hy
            rcases hy with hy | rfl
            · exact h2 y hy
            · omega
        · split
          · rename_i hp
            simp only [pickB, Bool.and_eq_true, decide_eq_true_eq] at hp
            exact .inr ⟨by simp, hx, hp.1⟩
          · exact .inr ⟨by simp [h1], h2, h3⟩)
      simpa using this
  intro l hl
  have := key l [] (-1) hl (.inl ⟨rfl, by simp⟩)
  simpa [wayPick] using this
theorem next_spec {d : List Int} {a : Int} (row : List Int) (hr : ∀ x ∈ row, 0 ≤ x) (h : ∃ m ∈ row, dAt d m = dAt d a - 1) : wayNext d a row ∈ row ∧ dAt d (wayNext d a row) = dAt d a - 1 := by
  have key : ∀ (l pre : List Int) (nx : Int), (∀ x ∈ l, 0 ≤ x) → ((nx = -1 ∧ ∀ x ∈ pre, dAt d x ≠ dAt d a - 1) ∨ (nx ∈ pre ∧ dAt d nx = dAt d a - 1)) →
      ((l.foldl (fun nx n => if nextB d a nx n then n else nx) nx = -1 ∧ ∀ x ∈ pre ++ l, dAt d x ≠ dAt d a - 1) ∨ (l.foldl (fun nx n => if nextB d a nx n then n else nx) nx ∈ pre ++ l ∧ dAt d (l.foldl (fun nx n => if nextB d a nx n then n else nx) nx) = dAt d a - 1)) := by
    intro l
    induction l with
    | nil => intro pre nx _ h; simpa using h
    | cons x l ih =>
      intro pre nx hl h
      have := ih (pre ++ [x]) (if nextB d a nx x then x else nx) (fun y hy => hl y (by simp [hy])) (by
        rcases h with ⟨rfl, h2⟩ | ⟨h1, h2⟩
        · by_cases h0 : dAt d x = dAt d a - 1
          · rw [if_pos (by simp [nextB, h0])]
            exact .inr ⟨by simp, h0⟩
          · rw [if_neg (by simp [nextB, h0])]
            refine .inl ⟨rfl, fun y hy => ?_⟩
            rw [List.mem_append, List.mem_singleton] at hy
            rcases hy with hy | rfl
            · exact h2 y hy
            · exact h0
        · split
          · rename_i hp
            simp only [nextB, Bool.and_eq_true, decide_eq_true_eq] at hp
            exact .inr ⟨by simp, hp.1⟩
          · exact .inr ⟨by simp [h1], h2⟩)
      simpa using this
  have := key row [] (-1) hr (.inl ⟨rfl, by simp⟩)
  simp only [List.nil_append] at this
  rcases this with ⟨_, h2⟩ | h2
  · obtain ⟨m, hm, he⟩ := h; exact absurd he (h2 m hm)
  · exact h2
/-- a list that is the way from a -/
structure WayOK (g : List (List Int)) (d : List Int) (l : List Int) (a : Int) : Prop where
  len : (l.length : Int) = dAt d a + 1
  hd : l[0]? = some a
  at' : ∀ i (hi : i < l.length), dAt d l[i] = dAt d a - i
  inR : ∀ i (hi : i < l.length), 0 ≤ l[i] ∧ l[i] < g.length
  go : ∀ i (hi : i < l.length) (f' : Nat), dAt d l[i] ≤ f' → wayGo g d f' l[i] = l.drop i
  edge : ∀ i (hi : i < l.length) (hp : 0 < i), l[i] ∈ g.getD (l[i - 1]'(by omega)).toNat []
section
variable {g : List (List Int)} {to : List Bool} (h : FInv g to (farL g to) [] none) (hg : okG g)
include h hg
theorem way_next {a : Int} (ha : 0 ≤ a ∧ a < g.length) (hp : 0 < dAt (farL g to) a) :
    wayNext (farL g to) a (g.getD a.toNat []) ∈ g.getD a.toNat [] ∧ dAt (farL g to) (wayNext (farL g to) a (g.getD a.toNat [])) = dAt (farL g to) a - 1 ∧ 0 ≤ wayNext (farL g to) a (g.getD a.toNat []) ∧ wayNext (farL g to) a (g.getD a.toNat []) < g.length := by
  have hr := okG_row hg a.toNat
  have hal : a.toNat < (farL g to).length := by rw [h.len]; omega
  unfold dAt at hp
  rw [getD_at hal] at hp
  obtain ⟨m, hm, h1, h2⟩ := h.pos a.toNat hal hp
  have hx := next_spec (d := farL g to) (a := a) (g.getD a.toNat []) (fun x hx => (hr x hx).1) ⟨(m : Int), h1, by unfold dAt; rw [Int.toNat_natCast, getD_at hm, getD_at hal]; exact h2⟩
  exact ⟨hx.1, hx.2, hr _ hx.1⟩
/-- the way from a -/
theorem way_all : ∀ (f : Nat) (a : Int), 0 ≤ a ∧ a < g.length → 0 ≤ dAt (farL g to) a → dAt (farL g to) a ≤ f → WayOK g (farL g to) (wayGo g (farL g to) f a) a
  | f, a, ha, h0, hf => by
    by_cases hp : 0 < dAt (farL g to) a
    · cases f with
      | zero => omega
      | succ f =>
        have hn := way_next h hg ha hp
        generalize hx : wayNext (farL g to) a (g.getD a.toNat []) = x at *
        have ih := way_all f x hn.2.2 (by omega) (by omega)
        generalize hl : wayGo g (farL g to) f x = l at *
        have hz : ∀ (h : 0 < l.length), l[0] = x := fun h => by
          have := ih.hd
          rw [List.getElem?_eq_getElem h] at this
          exact Option.some.inj this
        have hl0 : 0 < l.length := by have := ih.len; omega
        have efu : ∀ f' : Nat, dAt (farL g to) a ≤ f' → wayGo g (farL g to) f' a = a :: l := by
          intro f' hf'
          cases f' with
          | zero => omega
          | succ f' =>
            rw [wayGo, if_pos hp, hx]
            have h0 := ih.go 0 hl0 f' (by rw [hz hl0]; omega)
            rw [hz hl0] at h0
            rw [h0]; rfl
        rw [efu (f + 1) hf]
        have hlen := ih.len
        refine ⟨by rw [List.length_cons]; omega, rfl, fun i hi => ?_, fun i hi => ?_, fun i hi f' hf' => ?_, fun i hi hpos => ?_⟩
        · cases i with
          | zero => simp
          | succ i =>
            have := ih.at' i (by simpa using hi)
            simp only [List.getElem_cons_succ]; omega
        · cases i with
          | zero => exact ha
          | succ i => exact ih.inR i (by simpa using hi)
        · cases i with
          | zero => exact efu f' hf'
          | succ i => exact ih.go i (by simpa using hi) f' hf'
        · cases i with
          | zero => omega
          | succ i =>
            cases i with
            | zero =>
              simp only [List.getElem_cons_succ, Nat.zero_add, Nat.sub_self, List.getElem_cons_zero]
              rw [hz hl0]; exact hn.1
            | succ i =>
              have := ih.edge (i + 1) (by simpa using hi) (by omega)
              simpa using this
    · have e : ∀ f', wayGo g (farL g to) f' a = [a] := by
        intro f'
        cases f' with
        | zero => rfl
        | succ f' => rw [wayGo, if_neg hp]
      rw [e]
      have h1 : ∀ i, i < [a].length → i = 0 := fun i hi => by simpa using hi
      refine ⟨by simp; omega, by simp, fun i hi => ?_, fun i hi => ?_, fun i hi f' hf' => ?_, fun i hi hpos => ?_⟩ <;> obtain rfl := h1 i hi
      · simp
      · exact ha
      · exact e f'
      · omega
end
/-- what one comes to from some, if something marked is among it -/
theorem rch_way {g : List (List Int)} {to : List Bool} (h : FInv g to (farL g to) [] none) (hg : okG g) {f : List Int} (hf : okL g.length f) : (∃ n, n < g.length ∧ Rch g f n ∧ to.getD n false = true) ↔ ∃ x ∈ f, 0 ≤ dAt (farL g to) x := by
  constructor
  · rintro ⟨n, hn, hr, ht⟩
    apply Classical.byContradiction
    intro hno
    have key : ∀ m, Rch g f m → m < g.length ∧ dAt (farL g to) m < 0 := by
      intro m hm
      induction hm with
      | @base x hx =>
        have := hf x hx
        refine ⟨by omega, ?_⟩
        rw [show ((x.toNat : Nat) : Int) = x by omega]
        exact Int.not_le.1 fun h0 => hno ⟨x, hx, h0⟩
      | @step m x _ hx ih =>
        have hxr := okG_row hg m x hx
        refine ⟨by omega, ?_⟩
        rw [show ((x.toNat : Nat) : Int) = x by omega]
        apply Int.not_le.1
        intro h0
        have hxl : x.toNat < (farL g to).length := by rw [h.len]; omega
        have hml : m < (farL g to).length := by rw [h.len]; exact ih.1
        unfold dAt at h0
        rw [getD_at hxl] at h0
        have := h.done x.toNat hxl h0
        rcases this with h1 | ⟨j, h1⟩ | h1
        · cases h1
        · cases h1
        · have h2 := h1 m hml (by rw [show ((x.toNat : Nat) : Int) = x by omega]; exact hx)
          have h3 := ih.2
          unfold dAt at h3
          rw [Int.toNat_natCast, getD_at hml] at h3
          omega
    have h1 := (key n hr).2
    have hnl : n < (farL g to).length := by rw [h.len]; exact hn
    unfold dAt at h1
    rw [Int.toNat_natCast, getD_at hnl, (h.zero n hnl).2 ht] at h1
    omega
  · rintro ⟨x, hx, h0⟩
    have hxr := hf x hx
    have hW := way_all h hg (dAt (farL g to) x).toNat x hxr h0 (by omega)
    generalize wayGo g (farL g to) (dAt (farL g to) x).toNat x = l at hW
    have hlen := hW.len
    have hr : ∀ i (hi : i < l.length), Rch g f l[i].toNat := by
      intro i
      induction i with
      | zero =>
        intro hi
        have := hW.hd
        rw [List.getElem?_eq_getElem hi] at this
        rw [Option.some.inj this]
        exact .base hx
      | succ i ih =>
        intro hi
        exact .step (ih (by omega)) (by have := hW.edge (i + 1) hi (by omega); simpa using this)
    have hi : l.length - 1 < l.length := by omega
    have h1 := hW.at' _ hi
    have h2 := hW.inR _ hi
    refine ⟨l[l.length - 1].toNat, by omega, hr _ hi, ?_⟩
    have hll : l[l.length - 1].toNat < (farL g to).length := by rw [h.len]; omega
    refine (h.zero _ hll).1 ?_
    unfold dAt at h1 hlen
    rw [getD_at hll] at h1
    omega
end Go.Proofs.Ytllpfgcngokhnaa
/-
  Contracts of more of the generic functions of package slices, at the types where the program uses them.
-/
set_option linter.unusedVariables false
namespace Go.Proofs.Ytllpfgcngokhnaa
open Go.RowKit
theorem equal_int (w0 : World) {ao bo : Option Addr} {cap cap' : Nat} {xs ys : List Int} (hs : Sl w0 (Old w0) ao cap xs) (ht : Sl w0 (Old w0) bo cap' ys) :
    Rt Try.prog 73 [.slice ao xs.length cap, .slice bo ys.length cap'].toArray w0 fun v w' => v = .bool (xs == ys) ∧ Ext w0 w' := by
  have hm := hs.len63
  refine Rt.enter2 Try.func73 Try.ntmps73 rfl rfl ?_
  (repeat (first | (apply WL.pure; rfl; rfl; rfl) | (apply WL.nil) | (apply EX.thenN) | (apply CW.seq) | (apply CW.region) | (apply WL.lenS; rfl; rfl; rfl)))
  refine CW.cond rfl (fun h => ?_) (fun h => ?_)
  · (repeat (first | (apply WL.pure; rfl; rfl; rfl) | (apply WL.nil) | (apply EX.thenN) | (apply CW.seq) | (apply CW.region) | (apply CW.ret) | (apply EX.thenR)))
    refine EX.ret1 rfl rfl ⟨?_, Ext.refl _⟩
    simp at h
    have : (xs == ys) = false := by rw [beq_eq_false_iff_ne]; intro e; exact h (by rw [e])
    rw [this]
  · simp at h
    (repeat (first | (apply WL.pure; rfl; rfl; rfl) | (apply WL.nil) | (apply EX.thenN) | (apply CW.seq) | (apply CW.region) | (apply WL.lenS; rfl; rfl; rfl) | (apply CW.block) | (apply CW.skip)))
    refine CW.loop (S := Nat) (fun k => [(0, .slice ao xs.length cap), (1, .slice bo ys.length cap'), (12, .int .i64 xs.length), (13, .int .i64 k)])
      (fun k w => k ≤ xs.length ∧ Ext w0 w ∧ ∀ j (h : j < xs.length) (h' : j < ys.length), j < k → xs[j] = ys[j]) (fun k => xs.length - k) 0 (by repeat (first | exact trivial | refine ⟨rfl, ?_⟩)) ⟨by omega, Ext.refl _, by omega⟩ ?_
    rintro k w ⟨hk, hB, hn⟩
    (repeat (first | (apply WL.pure; rfl; rfl; rfl) | (apply WL.nil) | (apply EX.thenN) | (apply CW.seq) | (apply CW.region)))
    refine CW.cond rfl (fun h1 => ?_) (fun h1 => ?_)
    · simp at h1
      (repeat (first | (apply WL.pure; rfl; rfl; rfl) | (apply QL.pure; rfl; rfl; rfl) | (apply WL.nil) | (apply EX.thenN) | (apply CW.seq) | (apply CW.region) | (apply CW.block) | (apply CW.skip) | (apply CW.draw; exact mixed; kernel_rfl)))
      refine QL.elemI rfl rfl rfl rfl rfl (fun _ h => h) (hs.up hB) h1 rfl (fun _ => rfl) (fun q => ?_)
      (repeat (apply QL.pure; rfl; rfl; rfl))
      refine QL.elemI rfl rfl rfl rfl rfl (fun _ h => h) (ht.up hB) (by omega) rfl (fun _ => rfl) (fun q' => ?_)
      (repeat (apply QL.pure; rfl; rfl; rfl))
      refine QL.nil (fun w1 hE => ?_)
      (repeat (apply EX.thenN))
      refine CW.cond rfl (fun h2 => ?_) (fun h2 => ?_)
      · (repeat (first | (apply WL.pure; rfl; rfl; rfl) | (apply WL.nil) | (apply EX.thenN) | (apply CW.seq) | (apply CW.region) | (apply CW.ret) | (apply EX.thenR) | (apply EX.inR)))
        refine EX.ret1 rfl rfl ⟨?_, hB.trans hE⟩
        simp at h2
        have : (xs == ys) = false := by rw [beq_eq_false_iff_ne]; intro e; subst e; exact h2 rfl
        rw [this]
      · simp at h2
        (repeat (first | (apply WL.add; rfl; rfl; rfl; rfl; omega; omega) | (apply WL.pure; rfl; rfl; rfl) | (apply WL.nil) | (apply EX.thenN) | (apply CW.region) | (apply EX.inN) | (apply CW.skip)))
        refine EX.back (k + 1) (by repeat (first | exact trivial | refine ⟨rfl, ?_⟩)) ⟨h1, hB.trans hE, ?_⟩ (by omega)
        intro j hj hj' hlt
        by_cases e : j = k
        · subst e; exact h2
        · exact hn j hj hj' (by omega)
    · simp at h1
      (repeat (first | (apply WL.pure; rfl; rfl; rfl) | (apply WL.nil) | (apply EX.thenN) | (apply CW.seq) | (apply CW.region) | (apply CW.exit) | (apply EX.thenX) | (apply EX.inX) | (apply CW.ret)))
      refine EX.ret1 rfl rfl ⟨?_, hB⟩
      have : (xs == ys) = true := by
        rw [beq_iff_eq]
        exact List.ext_getElem (by omega) fun j h1 h2 => hn j h1 h2 (by omega)
      rw [this]
theorem equal_u64 (w0 : World) {ao bo : Option Addr} {cap cap' : Nat} {xs ys : List Nat} (hs : Sl w0 (Old w0) ao cap xs) (ht : Sl w0 (Old w0) bo cap' ys) :
    Rt Try.prog 74 [.slice ao xs.length cap, .slice bo ys.length cap'].toArray w0 fun v w' => v = .bool (xs == ys) ∧ Ext w0 w' := by
  have hm := hs.len63
  refine Rt.enter2 Try.func74 Try.ntmps74 rfl rfl ?_
  (repeat (first | (apply WL.pure; rfl; rfl; rfl) | (apply WL.nil) | (apply EX.thenN) | (apply CW.seq) | (apply CW.region) | (apply WL.lenS; rfl; rfl; rfl)))
  refine CW.cond rfl (fun h => ?_) (fun h => ?_)
  · (repeat (first | (apply WL.pure; rfl; rfl; rfl) | (apply WL.nil) | (apply EX.thenN) | (apply CW.seq) | (apply CW.region) | (apply CW.ret) | (apply EX.thenR)))
    refine EX.ret1 rfl rfl ⟨?_, Ext.refl _⟩
    simp at h
    have : (xs == ys) = false := by rw [beq_eq_false_iff_ne]; intro e; exact h (by rw [e])
    rw [this]
  · simp at h
    (repeat (first | (apply WL.pure; rfl; rfl; rfl) | (apply WL.nil) | (apply EX.thenN) | (apply CW.seq) | (apply CW.region) | (apply WL.lenS; rfl; rfl; rfl) | (apply CW.block) | (apply CW.skip)))
    refine CW.loop (S := Nat) (fun k => [(0, .slice ao xs.length cap), (1, .slice bo ys.length cap'), (12, .int .i64 xs.length), (13, .int .i64 k)])
      (fun k w => k ≤ xs.length ∧ Ext w0 w ∧ ∀ j (h : j < xs.length) (h' : j < ys.length), j < k → xs[j] = ys[j]) (fun k => xs.length - k) 0 (by repeat (first | exact trivial | refine ⟨rfl, ?_⟩)) ⟨by omega, Ext.refl _, by omega⟩ ?_
    rintro k w ⟨hk, hB, hn⟩
    (repeat (first | (apply WL.pure; rfl; rfl; rfl) | (apply WL.nil) | (apply EX.thenN) | (apply CW.seq) | (apply CW.region)))
    refine CW.cond rfl (fun h1 => ?_) (fun h1 => ?_)
    · simp at h1
      (repeat (first | (apply WL.pure; rfl; rfl; rfl) | (apply QL.pure; rfl; rfl; rfl) | (apply WL.nil) | (apply EX.thenN) | (apply CW.seq) | (apply CW.region) | (apply CW.block) | (apply CW.skip) | (apply CW.draw; exact mixed; kernel_rfl)))
      refine QL.elemN rfl rfl rfl rfl rfl (fun _ h => h) (hs.up hB) h1 (fun _ => rfl) (fun u q hu => ?_)
      obtain ⟨rfl, hu1⟩ := hu.u64
      (repeat (apply QL.pure; rfl; rfl; rfl))
      refine QL.elemN rfl rfl rfl rfl rfl (fun _ h => h) (ht.up hB) (show k < ys.length by omega) (fun _ => rfl) (fun u q' hu' => ?_)
      obtain ⟨rfl, hu2⟩ := hu'.u64
      (repeat (apply QL.pure; rfl; rfl; rfl))
      refine QL.nil (fun w1 hE => ?_)
      (repeat (apply EX.thenN))
      refine CW.cond rfl (fun h2 => ?_) (fun h2 => ?_)
      · (repeat (first | (apply WL.pure; rfl; rfl; rfl) | (apply WL.nil) | (apply EX.thenN) | (apply CW.seq) | (apply CW.region) | (apply CW.ret) | (apply EX.thenR) | (apply EX.inR)))
        refine EX.ret1 rfl rfl ⟨?_, hB.trans hE⟩
        simp [Int.ofNat_inj] at h2
        have : (xs == ys) = false := by rw [beq_eq_false_iff_ne]; intro e; subst e; exact h2 rfl
        rw [this]
      · simp [Int.ofNat_inj] at h2
        (repeat (first | (apply WL.add; rfl; rfl; rfl; rfl; omega; omega) | (apply WL.pure; rfl; rfl; rfl) | (apply WL.nil) | (apply EX.thenN) | (apply CW.region) | (apply EX.inN) | (apply CW.skip)))
        refine EX.back (k + 1) (by repeat (first | exact trivial | refine ⟨rfl, ?_⟩)) ⟨h1, hB.trans hE, ?_⟩ (by omega)
        intro j hj hj' hlt
        by_cases e : j = k
        · subst e; exact h2
        · exact hn j hj hj' (by omega)
    · simp at h1
      (repeat (first | (apply WL.pure; rfl; rfl; rfl) | (apply WL.nil) | (apply EX.thenN) | (apply CW.seq) | (apply CW.region) | (apply CW.exit) | (apply EX.thenX) | (apply EX.inX) | (apply CW.ret)))
      refine EX.ret1 rfl rfl ⟨?_, hB⟩
      have : (xs == ys) = true := by
        rw [beq_iff_eq]
        exact List.ext_getElem (by omega) fun j h1 h2 => hn j h1 h2 (by omega)
      rw [this]
theorem index_int (w0 : World) {ao : Option Addr} {cap : Nat} {xs : List Int} (x : Int) (hs : Sl w0 (Old w0) ao cap xs) :
    Rt Try.prog 104 [.slice ao xs.length cap, .int .i64 x].toArray w0 fun v w' => v = .int .i64 (idxOf (fun y => x == y) xs) ∧ Ext w0 w' := by
  have hm := hs.len63
  refine Rt.enter2 Try.func104 Try.ntmps104 rfl rfl ?_
  (repeat (first | (apply WL.pure; rfl; rfl; rfl) | (apply WL.nil) | (apply EX.thenN) | (apply CW.seq) | (apply CW.region) | (apply WL.lenS; rfl; rfl; rfl) | (apply CW.block)))
  refine CW.loop (S := Nat) (fun k => [(0, .slice ao xs.length cap), (1, .int .i64 x), (7, .int .i64 xs.length), (8, .int .i64 k)])
    (fun k w => k ≤ xs.length ∧ Ext w0 w ∧ ∀ j (h : j < xs.length), j < k → (x == xs[j]) = false) (fun k => xs.length - k) 0 (by repeat (first | exact trivial | refine ⟨rfl, ?_⟩)) ⟨by omega, Ext.refl _, by omega⟩ ?_
  rintro k w ⟨hk, hB, hn⟩
  (repeat (first | (apply WL.pure; rfl; rfl; rfl) | (apply WL.nil) | (apply EX.thenN) | (apply CW.seq) | (apply CW.region)))
  refine CW.cond rfl (fun h => ?_) (fun h => ?_)
  · simp at h
    (repeat (first | (apply WL.pure; rfl; rfl; rfl) | (apply WL.nil) | (apply EX.thenN) | (apply CW.seq) | (apply CW.region) | (apply CW.block) | (apply CW.skip)))
    refine WL.elemI rfl rfl rfl rfl rfl (hs.at hB) h rfl (fun _ => rfl) (fun q => ?_)
    (repeat (first | (apply WL.pure; rfl; rfl; rfl) | (apply WL.nil) | (apply EX.thenN)))
    refine CW.cond rfl (fun h' => ?_) (fun h' => ?_)
    · (repeat (first | (apply WL.pure; rfl; rfl; rfl) | (apply WL.nil) | (apply EX.thenN) | (apply CW.seq) | (apply CW.region) | (apply CW.ret) | (apply EX.thenR) | (apply EX.inR)))
      refine EX.ret1 rfl rfl ⟨?_, hB⟩
      rw [idxOf_here h hn h']
    · (repeat (first | (apply WL.add; rfl; rfl; rfl; rfl; omega; omega) | (apply WL.pure; rfl; rfl; rfl) | (apply WL.nil) | (apply EX.thenN) | (apply CW.region) | (apply EX.inN) | (apply CW.skip)))
      refine EX.back (k + 1) (by repeat (first | exact trivial | refine ⟨rfl, ?_⟩)) ⟨h, hB, ?_⟩ (by omega)
      intro j hj hlt
      by_cases e : j = k
      · subst e; exact h'
      · exact hn j hj (by omega)
  · simp at h
    (repeat (first | (apply WL.pure; rfl; rfl; rfl) | (apply WL.nil) | (apply EX.thenN) | (apply CW.seq) | (apply CW.region) | (apply CW.exit) | (apply EX.thenX) | (apply EX.inX) | (apply CW.ret)))
    refine EX.ret1 rfl rfl ⟨?_, hB⟩
    rw [idxOf_none (fun j hj => hn j hj (by omega))]
theorem contains_int (w0 : World) {ao : Option Addr} {cap : Nat} {xs : List Int} (x : Int) (hs : Sl w0 (Old w0) ao cap xs) :
    Rt Try.prog 54 [.slice ao xs.length cap, .int .i64 x].toArray w0 fun v w' => v = .bool (xs.contains x) ∧ Ext w0 w' := by
  refine Rt.enter2 Try.func54 Try.ntmps54 rfl rfl ?_
  (repeat (first | (apply WL.pure; rfl; rfl; rfl) | (apply WL.nil) | (apply EX.thenN) | (apply CW.seq) | (apply CW.region)))
  refine WL.call rfl rfl rfl (index_int w0 x hs) ?_
  rintro v w' ⟨rfl, hB⟩
  (repeat (first | (apply WL.pure; rfl; rfl; rfl) | (apply WL.nil) | (apply EX.thenN) | (apply CW.ret)))
  refine EX.ret1 rfl rfl ⟨?_, hB⟩
  rw [← List.any_beq, ← idxOf_any]
theorem equalFunc_ll (w0 : World) {ao bo : Option Addr} {cap cap' : Nat} {xs ys : List (List Int)} {fv : Value} (hs : Sl w0 (Old w0) ao cap xs) (ht : Sl w0 (Old w0) bo cap' ys)
    (hf : ∀ w, Ext w0 w → ∀ i (h : i < xs.length) (h' : i < ys.length) u u', Rd w (Old w0) u xs[i] → Rd w (Old w0) u' ys[i] → FnV Try.prog fv [u, u'] w fun v w' => v = .bool (xs[i] == ys[i]) ∧ Ext w w') :
    Rt Try.prog 72 [.slice ao xs.length cap, .slice bo ys.length cap', fv].toArray w0 fun v w' => v = .bool (xs == ys) ∧ Ext w0 w' := by
  have hm := hs.len63
  refine Rt.enter3 Try.func72 Try.ntmps72 rfl rfl ?_
  (repeat (first | (apply WL.pure; rfl; rfl; rfl) | (apply WL.nil) | (apply EX.thenN) | (apply CW.seq) | (apply CW.region) | (apply WL.lenS; rfl; rfl; rfl)))
  refine CW.cond rfl (fun h => ?_) (fun h => ?_)
  · (repeat (first | (apply WL.pure; rfl; rfl; rfl) | (apply WL.nil) | (apply EX.thenN) | (apply CW.seq) | (apply CW.region) | (apply CW.ret) | (apply EX.thenR)))
    refine EX.ret1 rfl rfl ⟨?_, Ext.refl _⟩
    simp at h
    have : (xs == ys) = false := by rw [beq_eq_false_iff_ne]; intro e; exact h (by rw [e])
    rw [this]
  · simp at h
    (repeat (first | (apply WL.pure; rfl; rfl; rfl) | (apply WL.nil) | (apply EX.thenN) | (apply CW.seq) | (apply CW.region) | (apply WL.lenS; rfl; rfl; rfl) | (apply CW.block) | (apply CW.skip)))
    refine CW.loop (S := Nat) (fun k => [(1, .slice bo ys.length cap'), (2, fv), (15, .slice ao xs.length cap), (16, .int .i64 xs.length), (17, .int .i64 k)])
      (fun k w => k ≤ xs.length ∧ Ext w0 w ∧ ∀ j (h : j < xs.length) (h' : j < ys.length), j < k → xs[j] = ys[j]) (fun k => xs.length - k) 0 (by repeat (first | exact trivial | refine ⟨rfl, ?_⟩)) ⟨by omega, Ext.refl _, by omega⟩ ?_
    rintro k w ⟨hk, hB, hn⟩
    (repeat (first | (apply WL.pure; rfl; rfl; rfl) | (apply WL.nil) | (apply EX.thenN) | (apply CW.seq) | (apply CW.region)))
    refine CW.cond rfl (fun h1 => ?_) (fun h1 => ?_)
    · simp at h1
      (repeat (first | (apply WL.pure; rfl; rfl; rfl) | (apply EX.thenN) | (apply CW.seq) | (apply CW.region) | (apply CW.block) | (apply CW.skip)))
      refine WL.elemN rfl rfl rfl rfl rfl (hs.at hB) h1 (fun _ => rfl) (fun u q hu => ?_)
      (repeat (first | (apply WL.pure; rfl; rfl; rfl) | (apply WL.nil) | (apply EX.thenN) | (apply CW.seq) | (apply CW.region)))
      refine WL.elemN rfl rfl rfl rfl rfl (ht.at hB) (show k < ys.length by omega) (fun _ => rfl) (fun u' q' hu' => ?_)
      (repeat (first | (apply WL.pure; rfl; rfl; rfl) | (apply WL.nil) | (apply EX.thenN) | (apply CW.seq) | (apply CW.region)))
      refine WL.callF rfl rfl rfl rfl (hf w hB k h1 (by omega) u u' hu hu') ?_
      rintro v w' ⟨rfl, hE⟩
      (repeat (first | (apply WL.pure; rfl; rfl; rfl) | (apply WL.nil) | (apply EX.thenN)))
      refine CW.cond rfl (fun h2 => ?_) (fun h2 => ?_)
      · (repeat (first | (apply WL.pure; rfl; rfl; rfl) | (apply WL.nil) | (apply EX.thenN) | (apply CW.seq) | (apply CW.region) | (apply CW.ret) | (apply EX.thenR) | (apply EX.inR)))
        refine EX.ret1 rfl rfl ⟨?_, hB.trans hE⟩
        simp at h2
        have : (xs == ys) = false := by rw [beq_eq_false_iff_ne]; intro e; subst e; exact h2 rfl
        rw [this]
      · simp at h2
        (repeat (first | (apply WL.add; rfl; rfl; rfl; rfl; omega; omega) | (apply WL.pure; rfl; rfl; rfl) | (apply WL.nil) | (apply EX.thenN) | (apply CW.region) | (apply EX.inN) | (apply CW.skip)))
        refine EX.back (k + 1) (by repeat (first | exact trivial | refine ⟨rfl, ?_⟩)) ⟨h1, hB.trans hE, ?_⟩ (by omega)
        intro j hj hj' hlt
        by_cases e : j = k
        · subst e; exact h2
        · exact hn j hj hj' (by omega)
    · simp at h1
      (repeat (first | (apply WL.pure; rfl; rfl; rfl) | (apply WL.nil) | (apply EX.thenN) | (apply CW.seq) | (apply CW.region) | (apply CW.exit) | (apply EX.thenX) | (apply EX.inX) | (apply CW.ret)))
      refine EX.ret1 rfl rfl ⟨?_, hB⟩
      have : (xs == ys) = true := by
        rw [beq_iff_eq]
        exact List.ext_getElem (by omega) fun j h1 h2 => hn j h1 h2 (by omega)
      rw [this]
theorem indexFunc_ll (w0 : World) {ao : Option Addr} {cap : Nat} {xs : List (List Int)} {fv : Value} (p : List Int → Bool) (hs : Sl w0 (Old w0) ao cap xs)
    (hf : ∀ w, Ext w0 w → ∀ i (h : i < xs.length) u, Rd w (Old w0) u xs[i] → FnV Try.prog fv [u] w fun v w' => v = .bool (p xs[i]) ∧ Ext w w') :
    Rt Try.prog 75 [.slice ao xs.length cap, fv].toArray w0 fun v w' => v = .int .i64 (idxOf p xs) ∧ Ext w0 w' := by
  have hm := hs.len63
  refine Rt.enter2 Try.func75 Try.ntmps75 rfl rfl ?_
  (repeat (first | (apply WL.pure; rfl; rfl; rfl) | (apply WL.nil) | (apply EX.thenN) | (apply CW.seq) | (apply CW.region) | (apply WL.lenS; rfl; rfl; rfl) | (apply CW.block)))
  refine CW.loop (S := Nat) (fun k => [(0, .slice ao xs.length cap), (1, fv), (7, .int .i64 xs.length), (8, .int .i64 k)])
    (fun k w => k ≤ xs.length ∧ Ext w0 w ∧ ∀ j (h : j < xs.length), j < k → p xs[j] = false) (fun k => xs.length - k) 0 (by repeat (first | exact trivial | refine ⟨rfl, ?_⟩)) ⟨by omega, Ext.refl _, by omega⟩ ?_
  rintro k w ⟨hk, hB, hn⟩
  (repeat (first | (apply WL.pure; rfl; rfl; rfl) | (apply WL.nil) | (apply EX.thenN) | (apply CW.seq) | (apply CW.region)))
  refine CW.cond rfl (fun h => ?_) (fun h => ?_)
  · simp at h
    (repeat (first | (apply WL.pure; rfl; rfl; rfl) | (apply WL.nil) | (apply EX.thenN) | (apply CW.seq) | (apply CW.region) | (apply CW.block) | (apply CW.skip)))
    refine WL.elemN rfl rfl rfl rfl rfl (hs.at hB) h (fun _ => rfl) (fun u q hu => ?_)
    refine WL.callF rfl rfl rfl rfl (hf w hB k h u hu) ?_
    rintro v w' ⟨rfl, hB'⟩
    (repeat (first | (apply WL.nil) | (apply EX.thenN)))
    refine CW.cond rfl (fun h' => ?_) (fun h' => ?_)
    · (repeat (first | (apply WL.pure; rfl; rfl; rfl) | (apply WL.nil) | (apply EX.thenN) | (apply CW.seq) | (apply CW.region) | (apply CW.ret) | (apply EX.thenR) | (apply EX.inR)))
      refine EX.ret1 rfl rfl ⟨?_, hB.trans hB'⟩
      rw [idxOf_here h hn h']
    · (repeat (first | (apply WL.add; rfl; rfl; rfl; rfl; omega; omega) | (apply WL.pure; rfl; rfl; rfl) | (apply WL.nil) | (apply EX.thenN) | (apply CW.region) | (apply EX.inN) | (apply CW.skip)))
      refine EX.back (k + 1) (by repeat (first | exact trivial | refine ⟨rfl, ?_⟩)) ⟨h, hB.trans hB', ?_⟩ (by omega)
      intro j hj hlt
      by_cases e : j = k
      · subst e; exact h'
      · exact hn j hj (by omega)
  · simp at h
    (repeat (first | (apply WL.pure; rfl; rfl; rfl) | (apply WL.nil) | (apply EX.thenN) | (apply CW.seq) | (apply CW.region) | (apply CW.exit) | (apply EX.thenX) | (apply EX.inX) | (apply CW.ret)))
    refine EX.ret1 rfl rfl ⟨?_, hB⟩
    rw [idxOf_none (fun j hj => hn j hj (by omega))]

theorem containsFunc_ll (w0 : World) {ao : Option Addr} {cap : Nat} {xs : List (List Int)} {fv : Value} (p : List Int → Bool) (hs : Sl w0 (Old w0) ao cap xs)
    (hf : ∀ w, Ext w0 w → ∀ i (h : i < xs.length) u, Rd w (Old w0) u xs[i] → FnV Try.prog fv [u] w fun v w' => v = .bool (p xs[i]) ∧ Ext w w') :
    Rt Try.prog 28 [.slice ao xs.length cap, fv].toArray w0 fun v w' => v = .bool (xs.any p) ∧ Ext w0 w' := by
  refine Rt.enter2 Try.func28 Try.ntmps28 rfl rfl ?_
  (repeat (first | (apply WL.pure; rfl; rfl; rfl) | (apply WL.nil) | (apply EX.thenN) | (apply CW.seq) | (apply CW.region)))
  refine WL.call rfl rfl rfl (indexFunc_ll w0 p hs hf) ?_
  rintro v w' ⟨rfl, hB⟩
  (repeat (first | (apply WL.pure; rfl; rfl; rfl) | (apply WL.nil) | (apply EX.thenN) | (apply CW.ret)))
  refine EX.ret1 rfl rfl ⟨?_, hB⟩
  rw [← idxOf_any]

theorem indexFunc_raw (w0 : World) {ao : Option Addr} {cap : Nat} {xs : List (Raw)} {fv : Value} (p : Raw → Bool) (hs : Sl w0 (Old w0) ao cap xs)
    (hf : ∀ w, Ext w0 w → ∀ i (h : i < xs.length) u, Rd w (Old w0) u xs[i] → FnV Try.prog fv [u] w fun v w' => v = .bool (p xs[i]) ∧ Ext w w') :
    Rt Try.prog 75 [.slice ao xs.length cap, fv].toArray w0 fun v w' => v = .int .i64 (idxOf p xs) ∧ Ext w0 w' := by
  have hm := hs.len63
  refine Rt.enter2 Try.func75 Try.ntmps75 rfl rfl ?_
  (repeat (first | (apply WL.pure; rfl; rfl; rfl) | (apply WL.nil) | (apply EX.thenN) | (apply CW.seq) | (apply CW.region) | (apply WL.lenS; rfl; rfl; rfl) | (apply CW.block)))
  refine CW.loop (S := Nat) (fun k => [(0, .slice ao xs.length cap), (1, fv), (7, .int .i64 xs.length), (8, .int .i64 k)])
    (fun k w => k ≤ xs.length ∧ Ext w0 w ∧ ∀ j (h : j < xs.length), j < k → p xs[j] = false) (fun k => xs.length - k) 0 (by repeat (first | exact trivial | refine ⟨rfl, ?_⟩)) ⟨by omega, Ext.refl _, by omega⟩ ?_
  rintro k w ⟨hk, hB, hn⟩
  (repeat (first | (apply WL.pure; rfl; rfl; rfl) | (apply WL.nil) | (apply EX.thenN) | (apply CW.seq) | (apply CW.region)))
  refine CW.cond rfl (fun h => ?_) (fun h => ?_)
  · simp at h
    (repeat (first | (apply WL.pure; rfl; rfl; rfl) | (apply WL.nil) | (apply EX.thenN) | (apply CW.seq) | (apply CW.region) | (apply CW.block) | (apply CW.skip)))
    refine WL.elemN rfl rfl rfl rfl rfl (hs.at hB) h (fun _ => rfl) (fun u q hu => ?_)
    refine WL.callF rfl rfl rfl rfl (hf w hB k h u hu) ?_
    rintro v w' ⟨rfl, hB'⟩
    (repeat (first | (apply WL.nil) | (apply EX.thenN)))
    refine CW.cond rfl (fun h' => ?_) (fun h' => ?_)
    · (repeat (first | (apply WL.pure; rfl; rfl; rfl) | (apply WL.nil) | (apply EX.thenN) | (apply CW.seq) | (apply CW.region) | (apply CW.ret) | (apply EX.thenR) | (apply EX.inR)))
      refine EX.ret1 rfl rfl ⟨?_, hB.trans hB'⟩
      rw [idxOf_here h hn h']
    · (repeat (first | (apply WL.add; rfl; rfl; rfl; rfl; omega; omega) | (apply WL.pure; rfl; rfl; rfl) | (apply WL.nil) | (apply EX.thenN) | (apply CW.region) | (apply EX.inN) | (apply CW.skip)))
      refine EX.back (k + 1) (by repeat (first | exact trivial | refine ⟨rfl, ?_⟩)) ⟨h, hB.trans hB', ?_⟩ (by omega)
      intro j hj hlt
      by_cases e : j = k
      · subst e; exact h'
      · exact hn j hj (by omega)
  · simp at h
    (repeat (first | (apply WL.pure; rfl; rfl; rfl) | (apply WL.nil) | (apply EX.thenN) | (apply CW.seq) | (apply CW.region) | (apply CW.exit) | (apply EX.thenX) | (apply EX.inX) | (apply CW.ret)))
    refine EX.ret1 rfl rfl ⟨?_, hB⟩
    rw [idxOf_none (fun j hj => hn j hj (by omega))]

theorem containsFunc_raw (w0 : World) {ao : Option Addr} {cap : Nat} {xs : List (Raw)} {fv : Value} (p : Raw → Bool) (hs : Sl w0 (Old w0) ao cap xs)
    (hf : ∀ w, Ext w0 w → ∀ i (h : i < xs.length) u, Rd w (Old w0) u xs[i] → FnV Try.prog fv [u] w fun v w' => v = .bool (p xs[i]) ∧ Ext w w') :
    Rt Try.prog 28 [.slice ao xs.length cap, fv].toArray w0 fun v w' => v = .bool (xs.any p) ∧ Ext w0 w' := by
  refine Rt.enter2 Try.func28 Try.ntmps28 rfl rfl ?_
  (repeat (first | (apply WL.pure; rfl; rfl; rfl) | (apply WL.nil) | (apply EX.thenN) | (apply CW.seq) | (apply CW.region)))
  refine WL.call rfl rfl rfl (indexFunc_raw w0 p hs hf) ?_
  rintro v w' ⟨rfl, hB⟩
  (repeat (first | (apply WL.pure; rfl; rfl; rfl) | (apply WL.nil) | (apply EX.thenN) | (apply CW.ret)))
  refine EX.ret1 rfl rfl ⟨?_, hB⟩
  rw [← idxOf_any]

end Go.Proofs.Ytllpfgcngokhnaa
/-
  Package scc: turn, far, Way, Turn.
-/
set_option linter.unusedVariables false
set_option linter.unusedSimpArgs false
namespace Go.Proofs.Ytllpfgcngokhnaa
open Go.RowKit

theorem turn_ok (w0 : World) {F : Nat → Prop} {ao : Option Addr} {cap : Nat} {g : List (List Int)} (hs : Sl w0 F ao cap g) (hF : ∀ b, F b → b < w0.heap.size) (hg : okG g) (hl : g.length ≤ 1099511627776) :
    Rt Try.prog 147 [.slice ao g.length cap].toArray w0 fun v w' => ∃ vs, OwnN w' w0.heap.size 22 3 v vs (turnL g) ∧ Ext w0 w' := by
  refine Rt.enter1 Try.func147 Try.ntmps147 rfl rfl ?_
  (repeat (first | (apply WL.pure; rfl; rfl; rfl) | (apply WL.nil) | (apply EX.thenN) | (apply CW.seq) | (apply CW.region) | (apply WL.lenS; rfl; rfl; rfl)))
  refine WL.make (α := Raw) rfl rfl rfl rfl (by omega) (by unfold maxLen; omega) (fun w1 ho1 hg1 => ?_)
  have hE1 : Ext w0 w1 := (Below.refl _ _).grown hg1 (Nat.le_refl _) (fun k h => by cases h)
  generalize hsv : Value.slice (some ⟨w0.heap.size, 0, none⟩) g.length g.length = sv at *
  have hN1 : OwnN w1 w0.heap.size 22 3 sv _ (List.replicate g.length ([] : List Int)) := OwnN.made ho1
  rw [← turnP_start] at hN1
  (repeat (first | (apply WL.pure; rfl; rfl; rfl) | (apply WL.nil) | (apply EX.thenN) | (apply CW.seq) | (apply CW.region) | (apply WL.lenS; rfl; rfl; rfl) | (apply CW.block)))
  refine CW.loop (S := Nat × List Raw) (fun s => [(3, sv), (12, .slice ao g.length cap), (13, .int .i64 g.length), (14, .int .i64 s.1)])
    (fun s w => s.1 ≤ g.length ∧ OwnN w w0.heap.size 22 3 sv s.2 (turnP g s.1 0) ∧ Ext w0 w) (fun s => g.length - s.1) (0, _) (by repeat (first | exact trivial | refine ⟨rfl, ?_⟩)) ⟨by omega, hN1, hE1⟩ ?_
  rintro ⟨n, vs⟩ w ⟨hn, hN, hE⟩
  dsimp only at hn hN
  (repeat (first | (apply WL.pure; rfl; rfl; rfl) | (apply WL.nil) | (apply EX.thenN) | (apply CW.seq) | (apply CW.region)))
  refine CW.cond rfl (fun hng => ?_) (fun hng => ?_)
  · simp at hng
    (repeat (first | (apply WL.pure; rfl; rfl; rfl) | (apply EX.thenN) | (apply CW.seq) | (apply CW.region) | (apply CW.block) | (apply CW.skip)))
    have hs' : Sl w F ao cap g := hs.mono (fun b hb => hE.block b (hF b hb)) fun _ h => h
    refine WL.elemN rfl rfl rfl rfl rfl hs' hng (fun _ => rfl) (fun u q hu => ?_)
    obtain ⟨lo, lc, rfl, hrow⟩ := hu.sl
    have hrl := hrow.len63
    dsimp only at hrl hrow
    have erow : g.getD n [] = g[n] := by rw [List.getD_eq_getElem?_getD, List.getElem?_eq_getElem hng]; rfl
    (repeat (first | (apply WL.pure; rfl; rfl; rfl) | (apply WL.nil) | (apply EX.thenN) | (apply CW.seq) | (apply CW.region) | (apply WL.lenS; rfl; rfl; rfl) | (apply CW.block)))
    refine CW.loop (S := Nat × List Raw) (fun s => [(3, sv), (4, .int .i64 n), (12, .slice ao g.length cap), (13, .int .i64 g.length), (14, .int .i64 n), (19, .slice lo g[n].length lc), (20, .int .i64 g[n].length), (21, .int .i64 s.1)])
      (fun s w => s.1 ≤ g[n].length ∧ OwnN w w0.heap.size 22 3 sv s.2 (turnP g n s.1) ∧ Ext w0 w) (fun s => g[n].length - s.1) (0, vs) (by repeat (first | exact trivial | refine ⟨rfl, ?_⟩)) ⟨by omega, hN, hE⟩ ?_
    rintro ⟨j, vs⟩ w2 ⟨hj, hN, hE2⟩
    dsimp only at hj hN
    have hlen := hN.len
    rw [turnP_len] at hlen
    (repeat (first | (apply WL.pure; rfl; rfl; rfl) | (apply WL.nil) | (apply EX.thenN) | (apply CW.seq) | (apply CW.region)))
    refine CW.cond rfl (fun h1 => ?_) (fun h1 => ?_) <;> simp at h1
    · have hrow' : Sl w2 F lo lc g[n] := hrow.mono (fun b hb => (hE2.block b (hF b hb)).trans (hE.block b (hF b hb)).symm) fun _ h => h
      have hk := hg _ (List.getElem_mem hng) _ (List.getElem_mem h1)
      obtain ⟨k, ek⟩ := Int.eq_ofNat_of_zero_le hk.1
      have hkl : k < g.length := by omega
      have hkv : k < vs.length := by omega
      have hj' : j < (g.getD n []).length := by rw [erow]; exact h1
      have ek' : (g.getD n [])[j] = (k : Int) := by simp only [erow]; exact ek
      (repeat (first | (apply EX.thenN) | (apply CW.seq) | (apply CW.region) | (apply CW.block) | (apply CW.skip)))
      refine WL.elemI rfl rfl rfl rfl rfl hrow' h1 ek (fun _ => rfl) (fun q => ?_)
      (repeat (first | (apply WL.pure; rfl; rfl; rfl) | (apply WL.nil) | (apply EX.thenN) | (apply CW.seq) | (apply CW.region)))
      refine WL.elemON rfl rfl rfl rfl rfl hN.out hkv (fun _ => rfl) (fun u q hu => ?_)
      obtain ⟨rfl, _⟩ := hu.raw
      have hin := hN.inn k hkv (by rw [turnP_len]; exact hkl)
      rw [turnP_get] at hin
      have htl := trow_len g n j k
      obtain ⟨io, ic, hiv⟩ := hin.val
      refine WL.lenO rfl rfl rfl hin ?_
      (repeat (apply WL.pure; rfl; rfl; rfl))
      apply WL.nil
      apply EX.thenN
      generalize hrw : trow g n j k = row at *
      refine CW.cut [(3, sv), (4, .int .i64 n), (7, .int .i64 k), (12, .slice ao g.length cap), (13, .int .i64 g.length), (14, .int .i64 n), (19, .slice lo g[n].length lc), (20, .int .i64 g[n].length), (21, .int .i64 j), (43, .bool (!((g.getD n []).take j).contains (k : Int)))] ?_ ?_
      · (repeat (first | (apply WL.pure; rfl; rfl; rfl) | (apply CW.region)))
        (refine WL.lookG rfl rfl (fun h => ?_) (fun h => ?_)) <;> simp at h
        · have hc : ((g.getD n []).take j).contains (k : Int) = false := trow_nil (by rw [hrw]; simp [h])
          rw [hc]
          (repeat (first | (apply WL.pure; rfl; rfl; rfl) | (apply WL.pass; rfl; rfl)))
          exact WL.nil (EX.cut (by repeat (first | exact trivial | refine ⟨rfl, ?_⟩)))
        · have hpos : 0 < row.length := by cases row with | nil => exact absurd rfl h | cons x r => simp
          (repeat (apply WL.pure; rfl; rfl; rfl))
          refine WL.elemON rfl rfl rfl rfl rfl hN.out hkv (fun _ => rfl) (fun u q hu => ?_)
          obtain ⟨rfl, _⟩ := hu.raw
          (repeat (first | (apply WL.sub'; rfl; rfl; rfl; rfl; omega; omega) | (apply WL.pure; rfl; rfl; rfl)))
          refine WL.elemO rfl rfl rfl rfl rfl hin (by omega) (by omega) (fun _ => rfl) (fun u q hu => ?_)
          obtain rfl := hu.int
          have hlast := trow_last (g := g) (n := n) (j := j) (m := k) (by rw [hrw]; exact hpos)
          simp only [hrw] at hlast
          have ei : ((row.length : Int) - 1).toNat = row.length - 1 := by omega
          have e : (row[((row.length : Int) - 1).toNat]'(by omega) != (n : Int)) = (!((g.getD n []).take j).contains (k : Int)) := by
            simp only [ei]
            cases hc : ((g.getD n []).take j).contains (k : Int)
            · rw [hc] at hlast; simpa [bne_iff_ne] using hlast
            · rw [hc] at hlast; simpa [bne_iff_ne] using hlast
          rw [← e]
          (repeat (apply WL.pure; rfl; rfl; rfl))
          exact WL.nil (EX.cut (by repeat (first | exact trivial | refine ⟨rfl, ?_⟩)))
      · refine CW.cond rfl (fun hc => ?_) (fun hc => ?_)
        · have hc : ((g.getD n []).take j).contains (k : Int) = false := by simpa using hc
          (repeat (first | (apply WL.pure; rfl; rfl; rfl) | (apply CW.region)))
          refine WL.elemON rfl rfl rfl rfl rfl hN.out hkv (fun _ => rfl) (fun u q hu => ?_)
          obtain ⟨rfl, _⟩ := hu.raw
          (repeat (apply WL.pure; rfl; rfl; rfl))
          refine WL.app1 (F := Non) (yv := (n : Int)) rfl rfl (fun _ => rfl) rfl rfl (fun _ => rfl) hin (Rd.mkInt _ _ _) hE2.size (fun _ h => h.elim) (by decide) (by unfold maxLen; omega) (by omega) (fun v' w3 p ho3 hg3 hnb => ?_)
          skip
          have hmid := hN.mid hkv hg3
          refine WL.setN (u := v') (yv := ⟨v'⟩) rfl rfl rfl rfl hmid hkv (fun _ => rfl) (fun _ => rfl) (Rd.mkRaw _ _ _ ?_) (fun w4 q ho4 hg4 => ?_)
          · obtain ⟨a, b, rfl⟩ := ho3.val; rfl
          have hN4 := hN.set hkv ho3 hg3 hnb ho4 hg4
          rw [← hrw, turnP_set hj' ek' hkl hc] at hN4
          have hE4 : Ext w0 w4 := (hE2.grown hg3 hE2.size (fun b hb => (hin.lt b hb).1)).grown hg4 (Nat.le_trans hE2.size hg3.size) (fun b hb => (hN.out.lt b hb).1)
          (repeat (first | (apply WL.add; rfl; rfl; rfl; rfl; omega; omega) | (apply WL.pure; rfl; rfl; rfl) | (apply WL.nil) | (apply EX.thenN) | (apply CW.region) | (apply EX.inN)))
          exact EX.back (j + 1, vs.set k ⟨v'⟩) (by repeat (first | exact trivial | refine ⟨rfl, ?_⟩)) ⟨h1, hN4, hE4⟩ (by simp only; omega)
        · have hc : ((g.getD n []).take j).contains (k : Int) = true := by simpa using hc
          (repeat (first | (apply WL.add; rfl; rfl; rfl; rfl; omega; omega) | (apply WL.pure; rfl; rfl; rfl) | (apply WL.nil) | (apply EX.thenN) | (apply CW.region) | (apply EX.inN) | (apply CW.skip)))
          rw [turnP_same hj' ek' hc] at hN
          exact EX.back (j + 1, vs) (by repeat (first | exact trivial | refine ⟨rfl, ?_⟩)) ⟨h1, hN, hE2⟩ (by simp only; omega)
    · have : j = g[n].length := by omega
      subst this
      rw [← erow, ← turnP_next] at hN
      (repeat (first | (apply WL.add; rfl; rfl; rfl; rfl; omega; omega) | (apply WL.pure; rfl; rfl; rfl) | (apply WL.nil) | (apply EX.thenN) | (apply CW.region) | (apply EX.inN) | (apply CW.exit) | (apply EX.thenX) | (apply EX.inX)))
      exact EX.back (n + 1, vs) (by repeat (first | exact trivial | refine ⟨rfl, ?_⟩)) ⟨hng, hN, hE2⟩ (by simp only; omega)
  · simp at hng
    have : n = g.length := by omega
    subst this
    (repeat (first | (apply WL.pure; rfl; rfl; rfl) | (apply WL.nil) | (apply EX.thenN) | (apply CW.seq) | (apply CW.region) | (apply CW.exit) | (apply EX.thenX) | (apply EX.inX) | (apply CW.ret)))
    exact EX.ret1 rfl rfl ⟨vs, hN, hE⟩

theorem EX.ret3 {P : Program} {n : Nat} {σ : Sg} {w : World} {fn : Func} {t u s : Nat} {v x y : Value} {R : Value → World → Prop} (hr : fn.results = #[.tmp t, .tmp u, .tmp s]) (ht : fnd σ t = some v) (hu : fnd σ u = some x) (hs : fnd σ s = some y) (h : R (.tuple ⟨[v, x, y]⟩) w) :
    EX (bodyPost P fn fun e w' => ∃ v, e = .returned v ∧ R v w') .ret n σ w := by
  unfold EX; intro a ha
  exact bodyPost_ret (results_tmp3 hr _ _ _) ha.defers ⟨_, by rw [ha.slot t v ht, ha.slot u x hu, ha.slot s y hs], h⟩

theorem farN_next {to : List Bool} {n : Nat} (h : n < to.length) : farN to (n + 1) = farN to n ++ (if to[n] = true then [(n : Int)] else []) := by
  unfold farN
  rw [List.range_succ, List.filter_append, List.map_append]
  have : to.getD n false = to[n] := by rw [List.getD_eq_getElem?_getD, List.getElem?_eq_getElem h]; rfl
  cases e : to[n] <;> rw [e] at this <;> simp at this <;> simp [this]
theorem getD_setI {d : List Int} {n k : Nat} {v : Int} (h : n < d.length) : (d.set n v).getD k 0 = if n = k then v else d.getD k 0 := by
  rw [List.getD_eq_getElem?_getD, List.getD_eq_getElem?_getD, List.getElem?_set]
  split
  · rename_i e; simp [h]
  · rfl
def turnF (g : List (List Int)) : List (List Int) := if chkG g = 0 then turnL g else []
theorem Turn_ok (w0 : World) {ao : Option Addr} {cap : Nat} {g : List (List Int)} (hs : Sl w0 (Old w0) ao cap g) :
    Rt Try.prog 116 [.slice ao g.length cap].toArray w0 fun r w' => ∃ v vs, r = .tuple ⟨[v, .int .i64 (chkG g)]⟩ ∧ OwnN w' w0.heap.size 22 3 v vs (turnF g) ∧ Ext w0 w' := by
  refine Rt.enter1 Try.func116 Try.ntmps116 rfl rfl ?_
  (repeat (first | (apply WL.pure; rfl; rfl; rfl) | (apply WL.nil) | (apply EX.thenN) | (apply CW.seq) | (apply CW.region)))
  refine WL.call rfl rfl rfl (chk_ok w0 hs) ?_
  rintro v w1 ⟨rfl, hE1⟩
  unfold turnF
  (repeat (first | (apply WL.pure; rfl; rfl; rfl) | (apply WL.nil) | (apply EX.thenN) | (apply CW.seq) | (apply CW.region)))
  refine CW.cond rfl (fun h => ?_) (fun h => ?_)
  · have hc : chkG g ≠ 0 := by simpa using h
    (repeat (first | (apply WL.pure; rfl; rfl; rfl) | (apply WL.nil) | (apply EX.thenN) | (apply CW.seq) | (apply CW.region) | (apply CW.ret) | (apply EX.thenR)))
    exact EX.ret2 rfl rfl rfl ⟨.slice none 0 0, [], rfl, by rw [if_neg hc]; exact OwnN.nil, hE1⟩
  · have hc : chkG g = 0 := by simpa using h
    obtain ⟨hg, hg2⟩ := chkG_ok hc
    (repeat (first | (apply WL.pure; rfl; rfl; rfl) | (apply EX.thenN) | (apply CW.seq) | (apply CW.region) | (apply CW.skip)))
    refine WL.call rfl rfl rfl (turn_ok w1 (hs.up hE1) (fun _ h => h) hg (by omega)) ?_
    rintro v w2 ⟨vs, hN, hE2⟩
    (repeat (first | (apply WL.pure; rfl; rfl; rfl) | (apply WL.nil) | (apply EX.thenN) | (apply CW.ret)))
    exact EX.ret2 rfl rfl rfl ⟨v, vs, by rw [hc], by rw [if_pos hc]; exact hN.low hE1.size, hE1.trans hE2⟩
/-- far: its numbers are those of farL -/
theorem far_ok (w0 : World) {F : Nat → Prop} {ao lo : Option Addr} {cap lc : Nat} {g : List (List Int)} {to : List Bool} (hs : Sl w0 F ao cap g) (ht : Sl w0 F lo lc to) (hF : ∀ b, F b → b < w0.heap.size) (hg : okG g) (hl : g.length ≤ 1099511627776) (htl : to.length = g.length) :
    Rt Try.prog 182 [.slice ao g.length cap, .slice lo to.length lc].toArray w0 fun v w' => Own w' w0.heap.size 3 Non v (farL g to) ∧ Ext w0 w' := by
  refine Rt.enter2 Try.func182 Try.ntmps182 rfl rfl ?_
  (repeat (first | (apply WL.pure; rfl; rfl; rfl) | (apply WL.nil) | (apply EX.thenN) | (apply CW.seq) | (apply CW.region)))
  refine WL.call rfl rfl rfl (turn_ok w0 hs hF hg hl) ?_
  rintro bv w1 ⟨bs, hN1, hE1⟩
  (repeat (first | (apply WL.pure; rfl; rfl; rfl) | (apply WL.nil) | (apply EX.thenN) | (apply CW.seq) | (apply CW.region) | (apply WL.lenS; rfl; rfl; rfl)))
  refine WL.make (α := Int) rfl rfl rfl rfl (by omega) (by unfold maxLen; omega) (fun w2 ho2 hg2 => ?_)
  have hE2 : Ext w1 w2 := (Below.refl _ _).grown hg2 (Nat.le_refl _) (fun k h => by cases h)
  have hN2 := hN1.ext hE2
  have hE12 := hE1.trans hE2
  generalize hdv : Value.slice (some ⟨w1.heap.size, 0, none⟩) g.length g.length = dv at *
  have hdb : dv.ownBlock = some w1.heap.size := by rw [← hdv]; rfl
  have hbb : ∀ b, OwnN.blk bv bs b → b < w1.heap.size := fun b hb => (hN1.lt b hb).2
  (repeat (first | (apply WL.pure; rfl; rfl; rfl) | (apply WL.nil) | (apply EX.thenN) | (apply CW.seq) | (apply CW.region) | (apply WL.lenS; rfl; rfl; rfl) | (apply CW.block)))
  refine CW.loop (S := Nat × List Int × Value) (fun s => [(5, bv), (6, dv), (7, s.2.2), (18, .slice lo to.length lc), (19, .int .i64 to.length), (20, .int .i64 s.1)])
    (fun s w => s.1 ≤ to.length ∧ s.2.1.length = g.length ∧ (∀ k, k < s.1 → s.2.1.getD k 0 = (farD to).getD k 0) ∧ Own w w1.heap.size 3 Non dv s.2.1 ∧ Own w w1.heap.size 3 Non s.2.2 (farN to s.1) ∧ (∀ b, s.2.2.ownBlock = some b → b ≠ w1.heap.size) ∧ Ext w1 w) (fun s => to.length - s.1) (0, List.replicate g.length 0, .slice none 0 0) (by repeat (first | exact trivial | refine ⟨rfl, ?_⟩)) ⟨by omega, by simp, fun k hk => absurd hk (by simp), ho2, by simpa [farN] using Own.nil, fun b hb => by simp [Value.ownBlock] at hb, hE2⟩ ?_
  rintro ⟨n, d, nv⟩ w ⟨hn, hdl, hpre, hod, hon, hne, hE⟩
  dsimp only at hn hdl hpre hod hon hne
  have hnl := farN_len to n
  (repeat (first | (apply WL.pure; rfl; rfl; rfl) | (apply WL.nil) | (apply EX.thenN) | (apply CW.seq) | (apply CW.region)))
  refine CW.cond rfl (fun hlt => ?_) (fun hlt => ?_)
  · simp at hlt
    have hs0 : w0.heap.size ≤ w1.heap.size := hE1.size
    have ht' : Sl w F lo lc to := ht.mono (fun b hb => (hE1.trans hE).block b (hF b hb)) fun _ h => h
    have eD : ∀ k, k < n + 1 → (d.set n (if to[n] = true then 0 else -1)).getD k 0 = (farD to).getD k 0 := by
      intro k hk
      rw [getD_setI (by omega)]
      split
      · rename_i e
        subst e
        rw [getD_at (by simp [farD]; exact hlt), farD_get]
        rw [List.getD_eq_getElem?_getD, List.getElem?_eq_getElem hlt]; rfl
      · exact hpre k (by omega)
    (repeat (first | (apply WL.pure; rfl; rfl; rfl) | (apply EX.thenN) | (apply CW.seq) | (apply CW.region) | (apply CW.block) | (apply CW.skip)))
    refine WL.elemB rfl rfl rfl rfl rfl ht' hlt rfl (fun _ => rfl) (fun q => ?_)
    (repeat (first | (apply WL.pure; rfl; rfl; rfl) | (apply WL.nil) | (apply EX.thenN) | (apply CW.seq) | (apply CW.region)))
    refine WL.setN (u := .int .i64 (-1)) (yv := (-1 : Int)) rfl rfl rfl rfl hod (by omega) (fun _ => rfl) (fun _ => rfl) (Rd.mkInt _ _ _) (fun w3 q ho3 hg3 => ?_)
    have hE3 : Ext w1 w3 := hE.grown hg3 hE.size (fun b hb => (hod.lt b hb).1)
    have hon3 := hon.keptN hg3 (fun g hg => by rw [hdb]; simpa using hne g hg)
    (repeat (first | (apply WL.pure; rfl; rfl; rfl) | (apply WL.nil) | (apply EX.thenN) | (apply CW.seq) | (apply CW.region)))
    refine CW.cond rfl (fun hb => ?_) (fun hb => ?_)
    · rw [if_pos hb] at eD
      (repeat (first | (apply WL.pure; rfl; rfl; rfl) | (apply CW.seq) | (apply CW.region)))
      refine WL.setN (u := .int .i64 0) (yv := (0 : Int)) rfl rfl rfl rfl ho3 (by rw [List.length_set]; omega) (fun _ => rfl) (fun _ => rfl) (Rd.mkInt _ _ _) (fun w4 q ho4 hg4 => ?_)
      rw [List.set_set] at ho4
      have hE4 : Ext w1 w4 := hE3.grown hg4 hE3.size (fun b hb => (hod.lt b hb).1)
      have hon4 := hon3.keptN hg4 (fun g hg => by rw [hdb]; simpa using hne g hg)
      skip
      apply WL.nil
      apply EX.thenN
      apply CW.region
      (repeat (apply WL.pure; rfl; rfl; rfl))
      refine WL.app1 (F := Non) (yv := (n : Int)) rfl rfl (fun _ => rfl) rfl rfl (fun _ => rfl) hon4 (Rd.mkInt _ _ _) hE4.size (fun _ h => h.elim) (by decide) (by unfold maxLen; omega) (by omega) (fun v' w5 p ho5 hg5 hnb => ?_)
      have hE5 : Ext w1 w5 := hE4.grown hg5 hE4.size (fun b hb => (hon4.lt b hb).1)
      have hd5 := ho4.keptN hg5 (fun g hg e => by rw [hdb] at hg; cases hg; exact hne _ e.symm rfl)
      (repeat (first | (apply WL.add; rfl; rfl; rfl; rfl; omega; omega) | (apply WL.pure; rfl; rfl; rfl) | (apply WL.nil) | (apply EX.thenN) | (apply CW.region) | (apply EX.inN)))
      refine EX.back (n + 1, d.set n 0, v') (by repeat (first | exact trivial | refine ⟨rfl, ?_⟩)) ⟨hlt, by simp [hdl], eD, hd5, ?_, ?_, hE5⟩ (by simp only; omega)
      · dsimp only; rw [farN_next hlt, if_pos hb]; exact ho5
      · intro b hb'
        rcases hnb b hb' with h | h
        · exact hne b h
        · have := (ho4.lt _ hdb).2.1; omega
    · rw [if_neg (by simp [hb])] at eD
      (repeat (first | (apply WL.add; rfl; rfl; rfl; rfl; omega; omega) | (apply WL.pure; rfl; rfl; rfl) | (apply WL.nil) | (apply EX.thenN) | (apply CW.region) | (apply EX.inN) | (apply CW.skip)))
      refine EX.back (n + 1, d.set n (-1), nv) (by repeat (first | exact trivial | refine ⟨rfl, ?_⟩)) ⟨hlt, by simp [hdl], eD, ho3, ?_, hne, hE3⟩ (by simp only; omega)
      dsimp only; rw [farN_next hlt, if_neg (by simp [hb]), List.append_nil]; exact hon3
  · simp at hlt
    have : n = to.length := by omega
    subst this
    have hd0 : d = farD to := by
      apply List.ext_getElem (by rw [hdl]; simp [farD, htl])
      intro k h1 h2
      have := hpre k (by omega)
      rwa [getD_at h1, getD_at h2] at this
    subst hd0
    have hI := FInv.start htl
    have hmeas : (farN to to.length).length + negs (farD to) ≤ 2 * g.length + 2 := by
      have := farD_negs to
      omega
    have hres : ∀ f, (farN to to.length).length + negs (farD to) ≤ f → farGo (turnL g) f (farD to) (farN to to.length) = farL g to := fun f hf => farGo_fuel f _ _ _ hI hf hmeas
    (repeat (first | (apply EX.thenN) | (apply CW.seq) | (apply CW.block) | (apply CW.exit) | (apply EX.thenX) | (apply EX.inX)))
    refine CW.loop (S := List Int × List Int × Value) (fun s => [(5, bv), (6, dv), (7, s.2.2)])
      (fun s w => FInv g to s.1 s.2.1 none ∧ (∀ f, s.2.1.length + negs s.1 ≤ f → farGo (turnL g) f s.1 s.2.1 = farL g to) ∧ s.2.1.length + negs s.1 ≤ 2 * g.length + 2 ∧ Own w w1.heap.size 3 Non dv s.1 ∧ Own w w1.heap.size 3 Non s.2.2 s.2.1 ∧ (∀ b, s.2.2.ownBlock = some b → b ≠ w1.heap.size) ∧ Ext w1 w) (fun s => s.2.1.length + negs s.1) (farD to, farN to to.length, nv) (by repeat (first | exact trivial | refine ⟨rfl, ?_⟩)) ⟨hI, hres, hmeas, hod, hon, hne, hE⟩ ?_
    rintro ⟨d, now, nv⟩ w ⟨hI, hres, hm, hod, hon, hne, hE⟩
    dsimp only at hI hres hm hod hon hne
    (repeat (first | (apply WL.pure; rfl; rfl; rfl) | (apply WL.nil) | (apply EX.thenN) | (apply CW.seq) | (apply CW.region) | (refine WL.lenO rfl rfl rfl (by assumption) ?_)))
    refine CW.cond rfl (fun h0 => ?_) (fun h0 => ?_)
    · simp at h0
      match now, h0 with
      | x :: r, _ =>
      obtain ⟨m, rfl, hmg, hp⟩ := hI.pop
      have hml : m < bs.length := by have := hN1.len; rw [turnL_len] at this; omega
      have hNw := hN1.ext hE
      have hmt : m < (turnL g).length := by rw [turnL_len]; exact hmg
      have erow : (turnL g)[m] = (turnL g).getD m [] := by rw [List.getD_eq_getElem?_getD, List.getElem?_eq_getElem hmt]; rfl
      have hin := hNw.inn m hml hmt
      rw [erow] at hin
      have hrow := (hin.oldN)
      obtain ⟨io, ic, hiv, hrs⟩ := hrow.sl
      have hrl := hrs.len63
      generalize hrw : (turnL g).getD m [] = row at *
      (repeat (first | (apply WL.pure; rfl; rfl; rfl) | (apply EX.thenN) | (apply CW.seq) | (apply CW.region) | (apply CW.block) | (apply CW.skip)))
      refine WL.elemO rfl rfl rfl rfl rfl hon (by omega) (by simp) (fun _ => rfl) (fun u q hu => ?_)
      obtain rfl := hu.int
      simp only [Int.toNat_zero, List.getElem_cons_zero]
      (repeat (first | (apply WL.pure; rfl; rfl; rfl) | (apply WL.nil) | (apply EX.thenN) | (apply CW.seq) | (apply CW.region)))
      refine WL.cutLoO (α := Int) 1 rfl rfl rfl rfl rfl hon (by simp) (fun nv2 hon2 hnb => ?_)
      simp only [List.drop_succ_cons, List.drop_zero] at hon2
      have hne2 : ∀ b, nv2.ownBlock = some b → b ≠ w1.heap.size := fun b hb => hne b (by rw [← hnb]; exact hb)
      (repeat (first | (apply WL.pure; rfl; rfl; rfl) | (apply WL.nil) | (apply EX.thenN) | (apply CW.seq) | (apply CW.region)))
      refine WL.elemON rfl rfl rfl rfl rfl hNw.out hml (fun _ => rfl) (fun u q hu => ?_)
      obtain ⟨rfl, _⟩ := hu.raw
      rw [hiv]
      (repeat (first | (apply WL.pure; rfl; rfl; rfl) | (apply WL.nil) | (apply EX.thenN) | (apply WL.lenS; rfl; rfl; rfl) | (apply CW.block)))
      have hm' : r.length + 1 + negs d ≤ 2 * g.length + 2 := by simpa using hm
      refine CW.loop (S := Nat × List Int × List Int × Value) (fun s => [(5, bv), (6, dv), (7, s.2.2.2), (10, .int .i64 m), (48, .slice io row.length ic), (49, .int .i64 row.length), (50, .int .i64 s.1)])
        (fun s w => s.1 ≤ row.length ∧ (s.2.1, s.2.2.1) = (row.take s.1).foldl (farStep m) (d, r) ∧ FInv g to s.2.1 s.2.2.1 (some (m, s.1)) ∧ s.2.2.1.length + negs s.2.1 = r.length + negs d ∧ Own w w1.heap.size 3 Non dv s.2.1 ∧ Own w w1.heap.size 3 Non s.2.2.2 s.2.2.1 ∧ (∀ b, s.2.2.2.ownBlock = some b → b ≠ w1.heap.size) ∧ Ext w1 w) (fun s => row.length - s.1) (0, d, r, nv2) (by repeat (first | exact trivial | refine ⟨rfl, ?_⟩)) ⟨by omega, rfl, hp, rfl, hod, hon2, hne2, hE⟩ ?_
      rintro ⟨j, d2, now2, nv3⟩ w3 ⟨hj, hfold, hI3, hm3, hod3, hon3, hne3, hE3⟩
      dsimp only at hj hfold hI3 hm3 hod3 hon3 hne3
      (repeat (first | (apply WL.pure; rfl; rfl; rfl) | (apply WL.nil) | (apply EX.thenN) | (apply CW.seq) | (apply CW.region)))
      refine CW.cond rfl (fun h1 => ?_) (fun h1 => ?_)
      · simp at h1
        have hrow3 : Sl w3 (Old w1) io ic row := by
          have := (hN1.inn m hml hmt)
          rw [erow] at this
          obtain ⟨a, b, e1, e2⟩ := this.oldN.sl
          rw [hiv] at e1
          obtain ⟨rfl, _, rfl⟩ := Value.slice.inj e1
          exact e2.at hE3
        have hst := hI3.step (j := j) (k := row[j]) (by rw [hrw]; exact h1) (by simp only [hrw])
        have hfold' : farStep m (d2, now2) row[j] = (row.take (j + 1)).foldl (farStep m) (d, r) := by
          rw [List.take_succ_eq_append_getElem h1, List.foldl_append, ← hfold]; rfl
        have hk : 0 ≤ row[j] ∧ row[j] < g.length := by
          have := turnL_ok g _ (List.getElem_mem hmt) row[j] (by rw [erow]; exact List.getElem_mem h1)
          rwa [turnL_len] at this
        have hmd := (hI3.curd m j rfl).1
        have hmv := (hI3.curd m j rfl).2.1
        have hle := hI3.le m hmd
        obtain ⟨k, ek⟩ := Int.eq_ofNat_of_zero_le hk.1
        rw [ek] at hst hfold'
        have hkd : k < d2.length := by rw [hI3.len]; omega
        (repeat (first | (apply EX.thenN) | (apply CW.seq) | (apply CW.region) | (apply CW.block) | (apply CW.skip)))
        refine WL.elemI rfl rfl rfl rfl rfl hrow3 h1 ek (fun _ => rfl) (fun q => ?_)
        (repeat (first | (apply WL.pure; rfl; rfl; rfl) | (apply WL.nil) | (apply EX.thenN) | (apply CW.seq) | (apply CW.region)))
        refine WL.elemON rfl rfl rfl rfl rfl hod3 hkd (fun _ => rfl) (fun u q hu => ?_)
        obtain rfl := hu.int
        (repeat (first | (apply WL.pure; rfl; rfl; rfl) | (apply WL.nil) | (apply EX.thenN)))
        refine CW.cond rfl (fun h2 => ?_) (fun h2 => ?_)
        · have h2 : d2[k] < 0 := by simpa using h2
          have eS : farStep m (d2, now2) (k : Int) = (d2.set k (d2[m] + 1), now2 ++ [(k : Int)]) := by
            unfold farStep
            simp only [Int.toNat_natCast, getD_at hkd, getD_at hmd]
            rw [if_pos h2]
          rw [eS] at hst hfold'
          dsimp only at hst
          (repeat (first | (apply WL.pure; rfl; rfl; rfl) | (apply CW.seq) | (apply CW.region)))
          refine WL.elemON rfl rfl rfl rfl rfl hod3 hmd (fun _ => rfl) (fun u q hu => ?_)
          obtain rfl := hu.int
          (repeat (apply WL.add; rfl; rfl; rfl; rfl; omega; omega))
          refine WL.setN (u := .int .i64 (d2[m] + 1)) (yv := d2[m] + 1) rfl rfl rfl rfl hod3 hkd (fun _ => rfl) (fun _ => rfl) (Rd.mkInt _ _ _) (fun w4 q ho4 hg4 => ?_)
          have hE4 : Ext w1 w4 := hE3.grown hg4 hE3.size (fun b hb => (hod3.lt b hb).1)
          have hon4 := hon3.keptN hg4 (fun g hg => by rw [hdb]; simpa using hne3 g hg)
          skip
          apply WL.nil
          apply EX.thenN
          apply CW.region
          (repeat (apply WL.pure; rfl; rfl; rfl))
          refine WL.app1 (F := Non) (yv := (k : Int)) rfl rfl (fun _ => rfl) rfl rfl (fun _ => rfl) hon4 (Rd.mkInt _ _ _) hE4.size (fun _ h => h.elim) (by decide) (by unfold maxLen; omega) (by omega) (fun v' w5 p ho5 hg5 hnb5 => ?_)
          have hE5 : Ext w1 w5 := hE4.grown hg5 hE4.size (fun b hb => (hon4.lt b hb).1)
          have hd5 := ho4.keptN hg5 (fun g hg e => by rw [hdb] at hg; cases hg; exact hne3 _ e.symm rfl)
          (repeat (first | (apply WL.add; rfl; rfl; rfl; rfl; omega; omega) | (apply WL.pure; rfl; rfl; rfl) | (apply WL.nil) | (apply EX.thenN) | (apply CW.region) | (apply EX.inN)))
          refine EX.back (j + 1, d2.set k (d2[m] + 1), now2 ++ [(k : Int)], v') (by repeat (first | exact trivial | refine ⟨rfl, ?_⟩)) ⟨h1, hfold', hst.1, by rw [hst.2]; exact hm3, hd5, ho5, ?_, hE5⟩ (by simp only; omega)
          intro b hb'
          rcases hnb5 b hb' with h | h
          · exact hne3 b h
          · have := (ho4.lt _ hdb).2.1; omega
        · have h2 : ¬ d2[k] < 0 := by simpa using h2
          have eS : farStep m (d2, now2) (k : Int) = (d2, now2) := by
            unfold farStep
            simp only [Int.toNat_natCast, getD_at hkd, getD_at hmd]
            rw [if_neg h2]
          rw [eS] at hst hfold'
          (repeat (first | (apply WL.add; rfl; rfl; rfl; rfl; omega; omega) | (apply WL.pure; rfl; rfl; rfl) | (apply WL.nil) | (apply EX.thenN) | (apply CW.region) | (apply EX.inN) | (apply CW.skip)))
          exact EX.back (j + 1, d2, now2, nv3) (by repeat (first | exact trivial | refine ⟨rfl, ?_⟩)) ⟨h1, hfold', hst.1, hm3, hod3, hon3, hne3, hE3⟩ (by simp only; omega)
      · simp at h1
        have : j = row.length := by omega
        subst this
        rw [List.take_length] at hfold
        have hI4 : FInv g to d2 now2 none := FInv.over (by rw [hrw]; exact hI3)
        (repeat (first | (apply EX.inN) | (apply CW.exit) | (apply EX.thenX) | (apply EX.inX)))
        refine EX.back (d2, now2, nv3) (by repeat (first | exact trivial | refine ⟨rfl, ?_⟩)) ⟨hI4, fun f hf => ?_, by simp only; omega, hod3, hon3, hne3, hE3⟩ (by simp only [List.length_cons]; omega)
        have := hres (f + 1) (by simp only [List.length_cons]; dsimp only at hf; omega)
        have e : farGo (turnL g) (f + 1) d ((m : Int) :: r) = farGo (turnL g) f d2 now2 := by rw [farGo, Int.toNat_natCast, hrw, ← hfold]
        rw [e] at this
        exact this
    · have hn0 : now = [] := by simpa using h0
      subst hn0
      have hfin : d = farL g to := by
        have := hres (negs d) (by simp)
        rw [← this]
        cases negs d <;> rfl
      subst hfin
      (repeat (first | (apply WL.pure; rfl; rfl; rfl) | (apply WL.nil) | (apply EX.thenN) | (apply CW.seq) | (apply CW.region) | (apply CW.exit) | (apply EX.thenX) | (apply EX.inX) | (apply CW.ret)))
      exact EX.ret1 rfl rfl ⟨hod.low hE1.size, hE1.trans hE⟩
end Go.Proofs.Ytllpfgcngokhnaa
