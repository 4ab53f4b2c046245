import Derived.Laws.StructEq
import Derived.Test.YtikigaeihdmcaaaGreatDoorPtReportLines6
/-
  Texts of rules: printed, read. Plain: no program in sight.
-/
set_option linter.unusedVariables false
set_option linter.unusedSimpArgs false
namespace Go.Proofs.YtikigaeihdmcaaaGreatDoor

def kindT (k : Int) : Bys :=
  if k = 1 then [97, 98, 115, 101, 110, 99, 101] else if k = 2 then [117, 110, 105, 118, 101, 114, 115, 97, 108] else if k = 3 then [101, 120, 105, 115, 116, 101, 110, 99, 101] else if k = 4 then [98, 111, 117, 110, 100, 101, 100]
  else if k = 5 then [112, 114, 101, 99, 101, 100, 101, 110, 99, 101] else if k = 6 then [114, 101, 115, 112, 111, 110, 115, 101] else []
def scopT (k : Int) : Bys :=
  if k = 1 then [103, 108, 111, 98, 97, 108] else if k = 2 then [98, 101, 102, 111, 114, 101] else if k = 3 then [97, 102, 116, 101, 114] else if k = 4 then [98, 101, 116, 119, 101, 101, 110] else if k = 5 then [117, 110, 116, 105, 108] else []
def tempT (k : Int) : Bys :=
  if k = 1 then [101, 120, 105, 115, 116, 101, 110, 99, 101] else if k = 2 then [97, 98, 115, 101, 110, 99, 101] else if k = 3 then [101, 120, 97, 99, 116, 108, 121] else if k = 4 then [105, 110, 105, 116]
  else if k = 5 then [99, 104, 111, 105, 99, 101] else if k = 6 then [114, 101, 115, 112, 111, 110, 100, 101, 100] else if k = 7 then [99, 111, 101, 120, 105, 115, 116] else if k = 8 then [114, 101, 115, 112, 111, 110, 115, 101]
  else if k = 9 then [112, 114, 101, 99, 101, 100, 101, 110, 99, 101] else if k = 10 then [115, 117, 99, 99, 101, 115, 115, 105, 111, 110] else if k = 11 then [97, 108, 116, 101, 114, 110, 97, 116, 101] else if k = 12 then [99, 104, 97, 105, 110]
  else if k = 13 then [110, 111, 116, 99, 111, 101, 120, 105, 115, 116] else if k = 14 then [110, 111, 116, 115, 117, 99, 99, 101, 101, 100] else []
def tDecl : Bys := [100, 101, 99, 108, 97, 114, 101]
def tLtl : Bys := [108, 116, 108]
def tCtl : Bys := [99, 116, 108]
def dgT (n : Int) : Bys := [UInt8.ofNat (48 + n.toNat)]
/-- the words of a rule that is right -/
def wordsR (r : LRule) (nms : List ByteArray) : List Bys :=
  r.1.data.toList :: (if r.2.1 = 1 then
      kindT r.2.2.1.1 :: ((if r.2.2.1.1 = 4 then [dgT r.2.2.1.2.2.2.2.2.2] else []) ++ ((ownA r.2.2.1).map fun n => rnmL nms n true) ++ scopT r.2.2.1.2.1 :: ((scopeA r.2.2.1).map fun n => rnmL nms n true))
    else if r.2.1 = 2 then
      tDecl :: tempT r.2.2.2.1.1 :: rnmL nms r.2.2.2.1.2.1 false :: ((if 0 < r.2.2.2.1.2.2.2 then [dgT r.2.2.2.1.2.2.2] else []) ++ (if aloneB r.2.2.2.1.1 = true then [] else [rnmL nms r.2.2.2.1.2.2.1 false]))
    else if r.2.1 = 3 then [tLtl, (printL r.2.2.2.2.1 nms).1] else [tCtl, (printC r.2.2.2.2.2 nms).1])
/-- what Print tells -/
def printR (r : LRule) (nms : List ByteArray) : Bys × Int := if chkRl r nms ≠ 0 then ([], chkRl r nms) else (joinS 32 (wordsR r nms), 0)
/- A READER: THE WORDS THAT ARE LEFT, AND WHAT WENT WRONG -/
abbrev RSt := List Bys × Int
def nextW (s : RSt) : Bys := if s.2 ≠ 0 then [] else s.1.headD []
def failW (s : RSt) (e : Int) : RSt := (s.1, if s.2 = 0 then e else s.2)
def takeW (s : RSt) : RSt := (s.1.tail, s.2)
def firstW (of : Int → Bys) (w : Bys) : Nat → Int → Int
  | 0, _ => 0
  | n + 1, k => if w ≠ [] ∧ w = of k then k else firstW of w n (k + 1)
def oneR (n : Nat) (of : Int → Bys) (s : RSt) : Int × RSt := if firstW of (nextW s) n 1 = 0 then (0, failW s 3) else (firstW of (nextW s) n 1, takeW s)
def namedR (nms : List ByteArray) (silent : Bool) (s : RSt) : Int × RSt :=
  if silent = true ∧ nextW s = tSil then (63, takeW s) else if namedL (nextW s) = false then (0, failW s 3)
  else if idxB nms (nextW s) < 0 ∨ idxB nms (nextW s) ≥ 63 then (0, failW s 4) else (idxB nms (nextW s), takeW s)
def digitR (s : RSt) : Int × RSt :=
  if (nextW s).length ≠ 1 ∨ (nextW s).headD 0 < 48 ∨ 57 < (nextW s).headD 0 then (0, failW s 3) else ((((nextW s).headD 0).toNat : Int) - 48, takeW s)
def patR (nms : List ByteArray) (s : RSt) : LPat × RSt :=
  let k := oneR 6 kindT s
  let c : Int × RSt := if k.1 = 4 then digitR k.2 else (0, k.2)
  let o : Int × RSt := if k.1 = 5 ∨ k.1 = 6 then namedR nms true c.2 else (0, c.2)
  let p := namedR nms true o.2
  let sc := oneR 5 scopT p.2
  let q : Int × RSt := if sc.1 = 3 ∨ sc.1 = 4 ∨ sc.1 = 5 then namedR nms true sc.2 else (0, sc.2)
  let r : Int × RSt := if sc.1 = 2 ∨ sc.1 = 4 ∨ sc.1 = 5 then namedR nms true q.2 else (0, q.2)
  ((k.1, sc.1, p.1, o.1, q.1, r.1, c.1), r.2)
def tplR (nms : List ByteArray) (s : RSt) : LTpl × RSt :=
  let k := oneR 14 tempT s
  let a := namedR nms false k.2
  let c : Int × RSt := if 1 ≤ k.1 ∧ k.1 ≤ 3 then digitR a.2 else (0, a.2)
  let b : Int × RSt := if ¬ (1 ≤ k.1 ∧ k.1 ≤ 3) ∧ aloneB k.1 = false then namedR nms false c.2 else (0, c.2)
  ((k.1, a.1, b.1, c.1), b.2)
def ltl0 : Ltl := .mk 0 0 []
def ruleZ : LRule := (⟨#[]⟩, 0, patZ, tplZ, ltl0, ltl0)
/-- what a reader reads -/
def ruleR (nms : List ByteArray) (s : RSt) : LRule × RSt :=
  if namedL (nextW s) = false then ((txA (nextW s), 0, patZ, tplZ, ltl0, ltl0), failW s 3)
  else if nextW (takeW s) = tDecl then ((txA (nextW s), 2, patZ, (tplR nms (takeW (takeW s))).1, ltl0, ltl0), (tplR nms (takeW (takeW s))).2)
  else if nextW (takeW s) = tLtl then
    ((txA (nextW s), 3, patZ, tplZ, (parseL (joinS 32 (takeW (takeW s)).1) nms).1, ltl0), if (parseL (joinS 32 (takeW (takeW s)).1) nms).2.2 ≠ 0 then failW (takeW (takeW s)) (parseL (joinS 32 (takeW (takeW s)).1) nms).2.2 else ([], s.2))
  else if nextW (takeW s) = tCtl then
    ((txA (nextW s), 4, patZ, tplZ, ltl0, (parseC (joinS 32 (takeW (takeW s)).1) nms).1), if (parseC (joinS 32 (takeW (takeW s)).1) nms).2.2 ≠ 0 then failW (takeW (takeW s)) (parseC (joinS 32 (takeW (takeW s)).1) nms).2.2 else ([], s.2))
  else ((txA (nextW s), 1, (patR nms (takeW s)).1, tplZ, ltl0, ltl0), (patR nms (takeW s)).2)
def endW (s : RSt) : RSt := if s.2 = 0 ∧ s.1 ≠ [] then failW s 3 else s
/-- what Parse tells -/
def parseR (s : Bys) (nms : List ByteArray) : LRule × Nat × Int :=
  if s.length > 4096 then (ruleZ, 0, 2)
  else if (endW (ruleR nms (splitL 32 s, 0)).2).2 ≠ 0 then (ruleZ, (splitL 32 s).length - (endW (ruleR nms (splitL 32 s, 0)).2).1.length, (endW (ruleR nms (splitL 32 s, 0)).2).2)
  else if chkRl (ruleR nms (splitL 32 s, 0)).1 nms ≠ 0 then (ruleZ, 0, chkRl (ruleR nms (splitL 32 s, 0)).1 nms)
  else ((ruleR nms (splitL 32 s, 0)).1, 0, 0)
theorem splitL_join : ∀ (l : List Bys), l ≠ [] → (∀ w ∈ l, (32 : UInt8) ∉ w) → splitL 32 (joinS 32 l) = l
  | [], h, _ => absurd rfl h
  | [x], _, h => by simp only [joinS]; exact splitL_no (h x (by simp))
  | x :: y :: r, _, h => by
    simp only [joinS]
    rw [splitL_at (h x (by simp)), splitL_join (y :: r) (by simp) (fun w hw => h w (by simp [hw]))]
theorem firstW_kind {k : Int} (h1 : 1 ≤ k) (h2 : k ≤ 6) : firstW kindT (kindT k) 6 1 = k ∧ (32 : UInt8) ∉ kindT k ∧ kindT k ≠ tDecl ∧ kindT k ≠ tLtl ∧ kindT k ≠ tCtl ∧ (kindT k).length ≤ 10 := by
  obtain rfl | rfl | rfl | rfl | rfl | rfl : k = 1 ∨ k = 2 ∨ k = 3 ∨ k = 4 ∨ k = 5 ∨ k = 6 := by omega
  all_goals decide
theorem firstW_scop {k : Int} (h1 : 1 ≤ k) (h2 : k ≤ 5) : firstW scopT (scopT k) 5 1 = k ∧ (32 : UInt8) ∉ scopT k ∧ (scopT k).length ≤ 10 := by
  obtain rfl | rfl | rfl | rfl | rfl : k = 1 ∨ k = 2 ∨ k = 3 ∨ k = 4 ∨ k = 5 := by omega
  all_goals decide
theorem firstW_temp {k : Int} (h1 : 1 ≤ k) (h2 : k ≤ 14) : firstW tempT (tempT k) 14 1 = k ∧ (32 : UInt8) ∉ tempT k ∧ (tempT k).length ≤ 10 := by
  obtain rfl | rfl | rfl | rfl | rfl | rfl | rfl | rfl | rfl | rfl | rfl | rfl | rfl | rfl : k = 1 ∨ k = 2 ∨ k = 3 ∨ k = 4 ∨ k = 5 ∨ k = 6 ∨ k = 7 ∨ k = 8 ∨ k = 9 ∨ k = 10 ∨ k = 11 ∨ k = 12 ∨ k = 13 ∨ k = 14 := by omega
  all_goals decide
section
variable {nms : List ByteArray} {l : List Bys}
theorem one_kind {k : Int} (h1 : 1 ≤ k) (h2 : k ≤ 6) : oneR 6 kindT (kindT k :: l, 0) = (k, (l, 0)) := by
  have h := (firstW_kind h1 h2).1
  unfold oneR
  rw [show nextW (kindT k :: l, 0) = kindT k from rfl, h, if_neg (by omega)]; rfl
theorem one_scop {k : Int} (h1 : 1 ≤ k) (h2 : k ≤ 5) : oneR 5 scopT (scopT k :: l, 0) = (k, (l, 0)) := by
  have h := (firstW_scop h1 h2).1
  unfold oneR
  rw [show nextW (scopT k :: l, 0) = scopT k from rfl, h, if_neg (by omega)]; rfl
theorem one_temp {k : Int} (h1 : 1 ≤ k) (h2 : k ≤ 14) : oneR 14 tempT (tempT k :: l, 0) = (k, (l, 0)) := by
  have h := (firstW_temp h1 h2).1
  unfold oneR
  rw [show nextW (tempT k :: l, 0) = tempT k from rfl, h, if_neg (by omega)]; rfl
theorem rnm_cases {n : Int} {b : Bool} (h : rnmL nms n b ≠ []) : (n = 63 ∧ b = true ∧ rnmL nms n b = tSil) ∨ (0 ≤ n ∧ n < 63 ∧ namedL (rnmL nms n b) = true ∧ idxB nms (rnmL nms n b) = n) := by
  unfold rnmL at h ⊢
  by_cases h1 : n = 63 ∧ b = true
  · rw [if_pos h1]; exact .inl ⟨h1.1, h1.2, rfl⟩
  rw [if_neg h1] at h ⊢
  by_cases h2 : n < 0 ∨ n ≥ (nms.length : Int) ∨ n ≥ 63 ∨ namedB (nms.getD n.toNat ⟨#[]⟩) = false ∨ idxB nms (nms.getD n.toNat ⟨#[]⟩).data.toList ≠ n
  · rw [if_pos h2] at h; exact absurd rfl h
  rw [if_neg h2]
  simp only [not_or] at h2
  exact .inr ⟨by omega, by omega, by simpa using h2.2.2.2.1, by simpa using h2.2.2.2.2⟩
theorem named_rnm {n : Int} {b : Bool} (h : rnmL nms n b ≠ []) : namedR nms b (rnmL nms n b :: l, 0) = (n, (l, 0)) := by
  unfold namedR
  rw [show nextW (rnmL nms n b :: l, 0) = rnmL nms n b from rfl]
  rcases rnm_cases h with ⟨rfl, rfl, h1⟩ | ⟨h1, h2, h3, h4⟩
  · rw [h1, if_pos ⟨rfl, rfl⟩]; rfl
  · rw [if_neg (fun e => (named_ne h3).2.2.2.1 e.2), if_neg (by rw [h3]; decide), h4, if_neg (by omega)]; rfl
theorem rnm_word {n : Int} {b : Bool} (h : rnmL nms n b ≠ []) : (32 : UInt8) ∉ rnmL nms n b ∧ (rnmL nms n b).length ≤ 8 := by
  rcases rnm_cases h with ⟨rfl, rfl, h1⟩ | ⟨h1, h2, h3, h4⟩
  · rw [h1]; decide
  · exact ⟨(named_no h3).1, (named_no h3).2.2⟩
theorem digit_ok {n : Int} (h1 : 0 ≤ n) (h2 : n ≤ 3) : digitR (dgT n :: l, 0) = (n, (l, 0)) ∧ (32 : UInt8) ∉ dgT n := by
  obtain rfl | rfl | rfl | rfl : n = 0 ∨ n = 1 ∨ n = 2 ∨ n = 3 := by omega
  all_goals exact ⟨rfl, by decide⟩
theorem right_has {n : Int} (h : rightB n false = true) : n = 0 := by
  unfold rightB at h; simp at h; exact h.2
set_option maxHeartbeats 2000000 in
theorem pat_back {pt : LPat} (hc : chkP pt = 0) (ha : ∀ n ∈ ownA pt ++ scopeA pt, rnmL nms n true ≠ []) :
    patR nms (kindT pt.1 :: ((if pt.1 = 4 then [dgT pt.2.2.2.2.2.2] else []) ++ ((ownA pt).map fun n => rnmL nms n true) ++ scopT pt.2.1 :: ((scopeA pt).map fun n => rnmL nms n true)), 0) = (pt, ([], 0)) := by
  obtain ⟨k, sc, p, s, q, r, c⟩ := pt
  unfold chkP at hc
  dsimp only at hc ha ⊢
  split at hc
  · cases hc
  split at hc
  · cases hc
  split at hc
  · cases hc
  rename_i h1 h2 h3
  simp only [Bool.not_eq_false, Bool.and_eq_true] at h2
  obtain ⟨⟨⟨h4, h5⟩, h6⟩, h7⟩ := h2
  have hk : k = 1 ∨ k = 2 ∨ k = 3 ∨ k = 4 ∨ k = 5 ∨ k = 6 := by omega
  have hs : sc = 1 ∨ sc = 2 ∨ sc = 3 ∨ sc = 4 ∨ sc = 5 := by omega
  have e1 : ∀ l, oneR 6 kindT (kindT k :: l, 0) = (k, (l, 0)) := fun l => one_kind (by omega) (by omega)
  have e2 : ∀ l, oneR 5 scopT (scopT sc :: l, 0) = (sc, (l, 0)) := fun l => one_scop (by omega) (by omega)
  have e3 : ∀ l, digitR (dgT c :: l, 0) = (c, (l, 0)) := fun l => (digit_ok (by omega) (by omega)).1
  have e4 : ∀ n l, n ∈ ownA (k, sc, p, s, q, r, c) ++ scopeA (k, sc, p, s, q, r, c) → namedR nms true (rnmL nms n true :: l, 0) = (n, (l, 0)) := fun n l hn => named_rnm (ha n hn)
  unfold ownA scopeA at e4 ⊢
  unfold patR
  dsimp only at e4 ⊢
  rw [e1]
  dsimp only
  have hc0 : k ≠ 4 → c = 0 := fun hk => by omega
  have hS : ¬ (k = 5 ∨ k = 6) → s = 0 := fun hk => by rw [decide_eq_false hk] at h5; exact right_has h5
  have hQ : ¬ (sc = 3 ∨ sc = 4 ∨ sc = 5) → q = 0 := fun hk => by rw [decide_eq_false hk] at h6; exact right_has h6
  have hR : ¬ (sc = 2 ∨ sc = 4 ∨ sc = 5) → r = 0 := fun hk => by rw [decide_eq_false hk] at h7; exact right_has h7
  clear h1 h3 h4 h5 h6 h7 ha e1 hc
  generalize kindT k = kt at *
  rcases hk with rfl | rfl | rfl | rfl | rfl | rfl <;> rcases hs with rfl | rfl | rfl | rfl | rfl <;> simp at e4 hc0 hS hQ hR ⊢ <;> simp [e2, e3, e4, hc0, hS, hQ, hR]
set_option maxHeartbeats 2000000 in
theorem tpl_back {t : LTpl} (hc : chkT t = 0) (ha : rnmL nms t.2.1 false ≠ []) (hb : aloneB t.1 = false → rnmL nms t.2.2.1 false ≠ []) :
    tplR nms (tempT t.1 :: rnmL nms t.2.1 false :: ((if 0 < t.2.2.2 then [dgT t.2.2.2] else []) ++ (if aloneB t.1 = true then [] else [rnmL nms t.2.2.1 false])), 0) = (t, ([], 0)) := by
  obtain ⟨k, a, b, c⟩ := t
  unfold chkT countedB at hc
  unfold aloneB at hb ⊢
  dsimp only at hc ha hb ⊢
  split at hc
  · cases hc
  split at hc
  · cases hc
  rename_i h1 h2
  simp only [not_or, Bool.or_eq_true, decide_eq_true_eq, decide_eq_false_iff_not, not_and] at h1 h2
  have e1 : ∀ l, oneR 14 tempT (tempT k :: l, 0) = (k, (l, 0)) := fun l => one_temp (by omega) (by omega)
  have e2 : ∀ l, namedR nms false (rnmL nms a false :: l, 0) = (a, (l, 0)) := fun l => named_rnm ha
  unfold tplR aloneB
  dsimp only
  rw [e1]
  dsimp only
  rw [e2]
  dsimp only
  by_cases hk : 1 ≤ k ∧ k ≤ 3
  · have e3 : ∀ l, digitR (dgT c :: l, 0) = (c, (l, 0)) := fun l => (digit_ok (by omega) (by omega)).1
    have hb0 : b = 0 := by omega
    have hc0 : 0 < c := by omega
    rw [if_pos hc0, if_pos hk, if_pos (decide_eq_true (show k ≤ 4 by omega))]
    simp only [List.singleton_append]
    rw [e3]
    dsimp only
    rw [if_neg (fun h => h.1 hk), hb0]
  · have hc0 : c = 0 := by omega
    subst hc0
    rw [if_neg (show ¬ (0 : Int) < 0 by decide), if_neg hk]
    dsimp only
    by_cases h4 : k = 4
    · subst h4
      have hb0 : b = 0 := by omega
      simp [hb0]
    · have d4 : decide (k ≤ 4) = false := decide_eq_false (by omega)
      have hb' : rnmL nms b false ≠ [] := hb d4
      have e3 : ∀ l, namedR nms false (rnmL nms b false :: l, 0) = (b, (l, 0)) := fun l => named_rnm hb'
      simp only [d4, Bool.false_eq_true, if_false, List.nil_append]
      rw [if_pos ⟨hk, trivial⟩, e3]
theorem join_len (c : Nat) : ∀ l : List Bys, (∀ w ∈ l, w.length ≤ c) → (joinS 32 l).length ≤ (c + 1) * l.length
  | [], _ => by simp [joinS]
  | [x], h => by have := h x (by simp); simp only [joinS, List.length_singleton]; omega
  | x :: y :: r, h => by
    have h1 := join_len c (y :: r) (fun w hw => h w (by simp [hw]))
    have h2 := h x (by simp)
    simp only [joinS, List.length_append, List.length_cons, Nat.mul_add, Nat.mul_one] at h1 ⊢
    omega
theorem printL_len (f : Ltl) (nms : List ByteArray) : (printL f nms).1.length ≤ 480 := by
  unfold printL
  split
  · simp
  split
  · simp
  rename_i h _
  have h : (chkF f 1 0).1 = 0 := by simpa using h
  have h1 := (chkF_le f 1 0 h).2
  have h2 := (chkF_sh f 1 0 h).2
  have h3 := txtL_len (nm := nmL nms) (nmL_len nms) f
  dsimp only
  omega
theorem printC_len (f : Ltl) (nms : List ByteArray) : (printC f nms).1.length ≤ 480 := by
  unfold printC
  split
  · simp
  split
  · simp
  rename_i h _
  have h : (chkC f 1 0).1 = 0 := by simpa using h
  have h1 := (chkC_le f 1 0 h).2
  have h2 := (chkC_sh f 1 0 h).2
  have h3 := txtC_len (nm := nmL nms) (nmL_len nms) f
  dsimp only
  omega
theorem fill_zero {t : Ltl} (h : fillF t = false) : t = ltl0 := by
  obtain ⟨k, n, kids⟩ := t
  unfold fillF at h
  simp only [Bool.or_eq_false_iff, bne_eq_false_iff_eq, decide_eq_false_iff_not, Ltl.k, Ltl.n, Ltl.kids] at h
  obtain ⟨⟨rfl, rfl⟩, h3⟩ := h
  cases kids with
  | nil => rfl
  | cons x r => simp at h3
theorem end_ok : endW ([], 0) = ([], 0) := rfl
theorem parse_ok {s : Bys} {r : LRule} (hl : s.length ≤ 4096) (h : ruleR nms (splitL 32 s, 0) = (r, ([], 0))) (hc : chkRl r nms = 0) : parseR s nms = (r, 0, 0) := by
  unfold parseR
  rw [if_neg (by omega), h]
  dsimp only
  rw [end_ok, if_neg (by simp), if_neg (by simpa using hc)]
theorem parse_err {s : Bys} {r : LRule} {l : List Bys} {e : Int} (hl : s.length ≤ 4096) (h : ruleR nms (splitL 32 s, 0) = (r, (l, e))) (he : e ≠ 0) : parseR s nms = (ruleZ, (splitL 32 s).length - l.length, e) := by
  unfold parseR
  rw [if_neg (by omega), h]
  have : endW (l, e) = (l, e) := by unfold endW; rw [if_neg (fun h => he h.1)]
  dsimp only
  rw [this, if_pos he]
set_option maxHeartbeats 1000000 in
/-- P46: what is printed is read as it was, but for formulas that are too long or too deep -/
theorem rback_law {r : LRule} (h : chkRl r nms = 0) : parseR (printR r nms).1 nms = (r, 0, 0) ∨ ((r.2.1 = 3 ∨ r.2.1 = 4) ∧ ∃ e, (e = 2 ∨ e = 5) ∧ parseR (printR r nms).1 nms = (ruleZ, 2, e)) := by
  have hp : (printR r nms).1 = joinS 32 (wordsR r nms) := by unfold printR; rw [if_neg (by simpa using h)]
  rw [hp]
  have h0 := h
  unfold chkRl at h0
  split at h0
  · cases h0
  split at h0
  · rename_i h1 h2; exact absurd h0 h2
  split at h0
  · cases h0
  rename_i h1 h2 h3
  obtain ⟨nm, so, pt, tp, fl, fc⟩ := r
  simp only [not_or, Bool.not_eq_false] at h1
  obtain ⟨hn, hs1, hs4⟩ := h1
  unfold otherB at h3
  dsimp only at hn hs1 hs4 h2 h3 ⊢
  simp only [Bool.or_eq_true, Bool.and_eq_true, bne_iff_ne, not_or, not_and, Bool.not_eq_true] at h3
  obtain ⟨⟨⟨k1, k2⟩, k3⟩, k4⟩ := h3
  have hnn := named_no hn
  have hne : nm.data.toList ≠ [] := (named_ne hn).1
  have e0 : txA nm.data.toList = nm := txA_eta nm
  unfold partE at h2
  have hpe : partE0 (nm, so, pt, tp, fl, fc) nms = 0 := by
    apply Classical.byContradiction
    intro hx
    rw [if_neg (fun h => hx h.1)] at h2
    exact h2 hx
  rw [hpe] at h2
  have hat : ∀ n ∈ atomsR (nm, so, pt, tp, fl, fc), rnmL nms n (decide (so = 1)) ≠ [] := by
    intro n hn2 he
    apply h2
    rw [if_pos ⟨rfl, List.any_eq_true.2 ⟨n, hn2, by dsimp only; rw [he]; rfl⟩⟩]
    decide
  clear h2
  obtain rfl | rfl | rfl | rfl : so = 1 ∨ so = 2 ∨ so = 3 ∨ so = 4 := by omega
  · -- patterns
    left
    obtain rfl : tp = tplZ := Classical.byContradiction fun e => k2 (by decide) e
    obtain rfl := fill_zero (k3 (by decide))
    obtain rfl := fill_zero (k4 (by decide))
    have hc : chkP pt = 0 := hpe
    have hk : 1 ≤ pt.1 ∧ pt.1 ≤ 6 ∧ 1 ≤ pt.2.1 ∧ pt.2.1 ≤ 5 ∧ 0 ≤ pt.2.2.2.2.2.2 ∧ pt.2.2.2.2.2.2 ≤ 3 := by
      unfold chkP at hc
      split at hc
      · cases hc
      split at hc
      · cases hc
      split at hc
      · cases hc
      omega
    obtain ⟨g1, g2, g3, g4, g5, g6⟩ := firstW_kind hk.1 hk.2.1
    obtain ⟨g7, g8, g9⟩ := firstW_scop hk.2.2.1 hk.2.2.2.1
    have ha : ∀ n ∈ ownA pt ++ scopeA pt, rnmL nms n true ≠ [] := hat
    have hw : wordsR (nm, 1, pt, tplZ, ltl0, ltl0) nms = nm.data.toList :: (kindT pt.1 :: ((if pt.1 = 4 then [dgT pt.2.2.2.2.2.2] else []) ++ ((ownA pt).map fun n => rnmL nms n true) ++ scopT pt.2.1 :: ((scopeA pt).map fun n => rnmL nms n true))) := rfl
    have hb := pat_back hc ha
    have hword : ∀ w ∈ wordsR (nm, 1, pt, tplZ, ltl0, ltl0) nms, (32 : UInt8) ∉ w ∧ w.length ≤ 10 := by
      rw [hw]
      intro w hw
      simp only [List.mem_cons, List.mem_append, List.mem_map] at hw
      rcases hw with rfl | rfl | (hw | ⟨n, hn1, rfl⟩) | rfl | ⟨n, hn1, rfl⟩
      · exact ⟨hnn.1, by have := hnn.2.2; omega⟩
      · exact ⟨g2, g6⟩
      · split at hw
        · rw [List.mem_singleton.1 hw]
          exact ⟨(digit_ok (l := []) hk.2.2.2.2.1 hk.2.2.2.2.2).2, by simp [dgT]⟩
        · cases hw
      · have := rnm_word (ha n (List.mem_append.2 (.inl hn1))); exact ⟨this.1, by omega⟩
      · exact ⟨g8, g9⟩
      · have := rnm_word (ha n (List.mem_append.2 (.inr hn1))); exact ⟨this.1, by omega⟩
    have hlen := join_len 10 _ (fun w h => (hword w h).2)
    have hcnt : (wordsR (nm, 1, pt, tplZ, ltl0, ltl0) nms).length ≤ 10 := by
      have ho : (ownA pt).length ≤ 2 := by unfold ownA; split <;> simp
      have hsc : (scopeA pt).length ≤ 2 := by unfold scopeA; split <;> (try split) <;> (try split) <;> simp
      rw [hw]
      have : (if pt.1 = 4 then [dgT pt.2.2.2.2.2.2] else []).length ≤ 1 := by split <;> simp
      simp only [List.length_cons, List.length_append, List.length_map]
      omega
    refine parse_ok (by omega) ?_ h
    rw [splitL_join _ (by rw [hw]; simp) (fun w h => (hword w h).1), hw]
    unfold ruleR
    rw [show nextW (nm.data.toList :: (kindT pt.1 :: ((if pt.1 = 4 then [dgT pt.2.2.2.2.2.2] else []) ++ ((ownA pt).map fun n => rnmL nms n true) ++ scopT pt.2.1 :: ((scopeA pt).map fun n => rnmL nms n true))), 0) = nm.data.toList from rfl, if_neg (by rw [show namedL nm.data.toList = true from hn]; decide)]
    rw [show takeW (nm.data.toList :: (kindT pt.1 :: ((if pt.1 = 4 then [dgT pt.2.2.2.2.2.2] else []) ++ ((ownA pt).map fun n => rnmL nms n true) ++ scopT pt.2.1 :: ((scopeA pt).map fun n => rnmL nms n true))), 0) = (kindT pt.1 :: ((if pt.1 = 4 then [dgT pt.2.2.2.2.2.2] else []) ++ ((ownA pt).map fun n => rnmL nms n true) ++ scopT pt.2.1 :: ((scopeA pt).map fun n => rnmL nms n true)), 0) from rfl]
    rw [show ∀ l, nextW (kindT pt.1 :: l, 0) = kindT pt.1 from fun _ => rfl, if_neg g3, if_neg g4, if_neg g5, hb, e0]
  · -- templates
    left
    obtain rfl : pt = patZ := Classical.byContradiction fun e => k1 (by decide) e
    obtain rfl := fill_zero (k3 (by decide))
    obtain rfl := fill_zero (k4 (by decide))
    have hc : chkT tp = 0 := hpe
    have hk : 1 ≤ tp.1 ∧ tp.1 ≤ 14 ∧ 0 ≤ tp.2.2.2 ∧ tp.2.2.2 ≤ 3 := by
      unfold chkT at hc
      split at hc
      · cases hc
      split at hc
      · cases hc
      rename_i q1 q2
      by_cases hq : countedB tp.1 = true
      · simp [hq] at q2; omega
      · simp [hq] at q2; omega
    obtain ⟨g1, g2, g3⟩ := firstW_temp hk.1 hk.2.1
    have hat' : ∀ n ∈ (if aloneB tp.1 = true then [tp.2.1] else [tp.2.1, tp.2.2.1]), rnmL nms n false ≠ [] := hat
    have ha : rnmL nms tp.2.1 false ≠ [] := hat' _ (by split <;> simp)
    have hb : aloneB tp.1 = false → rnmL nms tp.2.2.1 false ≠ [] := fun e => hat' _ (by rw [if_neg (by rw [e]; decide)]; simp)
    have hw : wordsR (nm, 2, patZ, tp, ltl0, ltl0) nms = nm.data.toList :: (tDecl :: tempT tp.1 :: rnmL nms tp.2.1 false :: ((if 0 < tp.2.2.2 then [dgT tp.2.2.2] else []) ++ (if aloneB tp.1 = true then [] else [rnmL nms tp.2.2.1 false]))) := rfl
    have ht := tpl_back hc ha hb
    have hword : ∀ w ∈ wordsR (nm, 2, patZ, tp, ltl0, ltl0) nms, (32 : UInt8) ∉ w ∧ w.length ≤ 10 := by
      rw [hw]
      intro w hw
      simp only [List.mem_cons, List.mem_append] at hw
      rcases hw with rfl | rfl | rfl | rfl | hw | hw
      · exact ⟨hnn.1, by have := hnn.2.2; omega⟩
      · decide
      · exact ⟨g2, g3⟩
      · have := rnm_word ha; exact ⟨this.1, by omega⟩
      · split at hw
        · rw [List.mem_singleton.1 hw]
          exact ⟨(digit_ok (l := []) hk.2.2.1 hk.2.2.2).2, by simp [dgT]⟩
        · cases hw
      · split at hw
        · cases hw
        · rename_i e
          rw [List.mem_singleton.1 hw]
          have := rnm_word (hb (by simpa using e)); exact ⟨this.1, by omega⟩
    have hlen := join_len 10 _ (fun w h => (hword w h).2)
    have hcnt : (wordsR (nm, 2, patZ, tp, ltl0, ltl0) nms).length ≤ 10 := by
      rw [hw]
      have : (if 0 < tp.2.2.2 then [dgT tp.2.2.2] else []).length ≤ 1 := by split <;> simp
      have : (if aloneB tp.1 = true then [] else [rnmL nms tp.2.2.1 false]).length ≤ 1 := by split <;> simp
      simp only [List.length_cons, List.length_append]
      omega
    refine parse_ok (by omega) ?_ h
    rw [splitL_join _ (by rw [hw]; simp) (fun w h => (hword w h).1), hw]
    generalize tempT tp.1 :: rnmL nms tp.2.1 false :: ((if 0 < tp.2.2.2 then [dgT tp.2.2.2] else []) ++ (if aloneB tp.1 = true then [] else [rnmL nms tp.2.2.1 false])) = l at *
    unfold ruleR
    rw [show nextW (nm.data.toList :: tDecl :: l, 0) = nm.data.toList from rfl, if_neg (by rw [show namedL nm.data.toList = true from hn]; decide)]
    rw [show takeW (nm.data.toList :: tDecl :: l, 0) = (tDecl :: l, 0) from rfl, show nextW (tDecl :: l, 0) = tDecl from rfl, if_pos rfl, show takeW (tDecl :: l, 0) = (l, 0) from rfl, ht, e0]
  · -- ltl
    obtain rfl : pt = patZ := Classical.byContradiction fun e => k1 (by decide) e
    obtain rfl : tp = tplZ := Classical.byContradiction fun e => k2 (by decide) e
    obtain rfl := fill_zero (k4 (by decide))
    have hc : (printL fl nms).2 = 0 := hpe
    have hw : wordsR (nm, 3, patZ, tplZ, fl, ltl0) nms = [nm.data.toList, tLtl, (printL fl nms).1] := rfl
    have hlen := printL_len fl nms
    obtain ⟨_, b1, b2⟩ := back_law hc
    generalize (printL fl nms).1 = t at *
    have hj : joinS 32 [nm.data.toList, tLtl, t] = nm.data.toList ++ 32 :: (tLtl ++ 32 :: t) := rfl
    have hsp : splitL 32 (joinS 32 [nm.data.toList, tLtl, t]) = nm.data.toList :: tLtl :: splitL 32 t := by
      rw [hj, splitL_at hnn.1, splitL_at (by decide)]
    have hsz : (joinS 32 [nm.data.toList, tLtl, t]).length ≤ 4096 := by
      rw [hj]; simp only [List.length_append, List.length_cons, show tLtl.length = 3 from rfl]
      have := hnn.2.2; omega
    have hr : ruleR nms (nm.data.toList :: tLtl :: splitL 32 t, 0) = ((nm, 3, patZ, tplZ, (parseL t nms).1, ltl0), if (parseL t nms).2.2 ≠ 0 then (splitL 32 t, (parseL t nms).2.2) else ([], 0)) := by
      unfold ruleR
      rw [show nextW (nm.data.toList :: tLtl :: splitL 32 t, 0) = nm.data.toList from rfl, if_neg (by rw [show namedL nm.data.toList = true from hn]; decide)]
      rw [show takeW (nm.data.toList :: tLtl :: splitL 32 t, 0) = (tLtl :: splitL 32 t, 0) from rfl, show nextW (tLtl :: splitL 32 t, 0) = tLtl from rfl, if_neg (by decide), if_pos rfl, show takeW (tLtl :: splitL 32 t, 0) = (splitL 32 t, 0) from rfl]
      dsimp only
      rw [join_split, e0]
      rfl
    rw [hw]
    rw [← hsp] at hr
    have key : ∀ a e, (e = 2 ∨ e = 5) → parseL t nms = (.mk 0 0 [], a, e) → ((3 : Int) = 3 ∨ (3 : Int) = 4) ∧ ∃ e, (e = 2 ∨ e = 5) ∧ parseR (joinS 32 [nm.data.toList, tLtl, t]) nms = (ruleZ, 2, e) := by
      intro a e he hp
      rw [hp] at hr
      dsimp only at hr
      have hz : e ≠ 0 := by omega
      rw [if_pos hz] at hr
      refine ⟨.inl rfl, e, he, ?_⟩
      rw [parse_err hsz hr hz, hsp]
      simp
      omega
    by_cases hl : t.length > 300
    · exact .inr (key _ 2 (.inl rfl) (b1 hl))
    · rcases b2 (by omega) with hp | ⟨a, -, hp⟩
      · left
        rw [hp] at hr
        exact parse_ok hsz hr h
      · exact .inr (key _ 5 (.inr rfl) hp)
  · -- ctl
    obtain rfl : pt = patZ := Classical.byContradiction fun e => k1 (by decide) e
    obtain rfl : tp = tplZ := Classical.byContradiction fun e => k2 (by decide) e
    obtain rfl := fill_zero (k3 (by decide))
    have hc : (printC fc nms).2 = 0 := hpe
    have hw : wordsR (nm, 4, patZ, tplZ, ltl0, fc) nms = [nm.data.toList, tCtl, (printC fc nms).1] := rfl
    have hlen := printC_len fc nms
    obtain ⟨_, b1, b2⟩ := cback_law hc
    generalize (printC fc nms).1 = t at *
    have hj : joinS 32 [nm.data.toList, tCtl, t] = nm.data.toList ++ 32 :: (tCtl ++ 32 :: t) := rfl
    have hsp : splitL 32 (joinS 32 [nm.data.toList, tCtl, t]) = nm.data.toList :: tCtl :: splitL 32 t := by
      rw [hj, splitL_at hnn.1, splitL_at (by decide)]
    have hsz : (joinS 32 [nm.data.toList, tCtl, t]).length ≤ 4096 := by
      rw [hj]; simp only [List.length_append, List.length_cons, show tCtl.length = 3 from rfl]
      have := hnn.2.2; omega
    have hr : ruleR nms (nm.data.toList :: tCtl :: splitL 32 t, 0) = ((nm, 4, patZ, tplZ, ltl0, (parseC t nms).1), if (parseC t nms).2.2 ≠ 0 then (splitL 32 t, (parseC t nms).2.2) else ([], 0)) := by
      unfold ruleR
      rw [show nextW (nm.data.toList :: tCtl :: splitL 32 t, 0) = nm.data.toList from rfl, if_neg (by rw [show namedL nm.data.toList = true from hn]; decide)]
      rw [show takeW (nm.data.toList :: tCtl :: splitL 32 t, 0) = (tCtl :: splitL 32 t, 0) from rfl, show nextW (tCtl :: splitL 32 t, 0) = tCtl from rfl, if_neg (by decide), if_neg (by decide), if_pos rfl, show takeW (tCtl :: splitL 32 t, 0) = (splitL 32 t, 0) from rfl]
      dsimp only
      rw [join_split, e0]
      rfl
    rw [hw]
    rw [← hsp] at hr
    have key : ∀ a e, (e = 2 ∨ e = 5) → parseC t nms = (.mk 0 0 [], a, e) → ((4 : Int) = 3 ∨ (4 : Int) = 4) ∧ ∃ e, (e = 2 ∨ e = 5) ∧ parseR (joinS 32 [nm.data.toList, tCtl, t]) nms = (ruleZ, 2, e) := by
      intro a e he hp
      rw [hp] at hr
      dsimp only at hr
      have hz : e ≠ 0 := by omega
      rw [if_pos hz] at hr
      refine ⟨.inr rfl, e, he, ?_⟩
      rw [parse_err hsz hr hz, hsp]
      simp
      omega
    by_cases hl : t.length > 300
    · exact .inr (key _ 2 (.inl rfl) (b1 hl))
    · rcases b2 (by omega) with hp | ⟨a, -, hp⟩
      · left
        rw [hp] at hr
        exact parse_ok hsz hr h
      · exact .inr (key _ 5 (.inr rfl) hp)
end
end Go.Proofs.YtikigaeihdmcaaaGreatDoor

/-
  Rules, line by line: plain: no program in sight.
-/
set_option linter.unusedVariables false
set_option linter.unusedSimpArgs false
namespace Go.Proofs.YtikigaeihdmcaaaGreatDoor

/- LINES -/
/-- the parts of a text, each with its byte 10; the last one without -/
def linesA : Bys → List Bys
  | [] => [[]]
  | b :: l => if b = 10 then [b] :: linesA l else match linesA l with
    | [] => [[b]]
    | x :: r => (b :: x) :: r
def linesR : Bys → List Bys
  | [] => []
  | b :: l => if b = 10 then [b] :: linesR l else match linesR l with
    | [] => [[b]]
    | x :: r => (b :: x) :: r
def endN : Bys → Bool
  | [] => true
  | [b] => b == 10
  | _ :: b :: l => endN (b :: l)
theorem linesR_ne (b : UInt8) (l : Bys) : linesR (b :: l) ≠ [] := by
  unfold linesR
  split
  · simp
  · split <;> simp
theorem lines_end : ∀ s, linesA s = linesR s ++ (if endN s = true then [[]] else [])
  | [] => rfl
  | [b] => by by_cases h : b = 10 <;> simp [linesA, linesR, endN, h]
  | a :: b :: l => by
    have ih := lines_end (b :: l)
    have hne := linesR_ne b l
    rw [linesA, linesR, show endN (a :: b :: l) = endN (b :: l) from rfl, ih]
    split
    · rfl
    · cases hq : linesR (b :: l) with
      | nil => exact absurd hq hne
      | cons x r => rfl
theorem linesR_pos : ∀ s, ∀ x ∈ linesR s, x ≠ []
  | [], x, h => by cases h
  | b :: l, x, h => by
    have ih := linesR_pos l
    unfold linesR at h
    split at h
    · rcases List.mem_cons.1 h with rfl | h
      · simp
      · exact ih x h
    · split at h
      · rw [List.mem_singleton.1 h]; simp
      · rename_i y r hy
        rcases List.mem_cons.1 h with rfl | h
        · simp
        · exact ih x (by rw [hy]; simp [h])
theorem linesR_len : ∀ s, (linesR s).length ≤ s.length
  | [] => by simp [linesR]
  | b :: l => by
    have ih := linesR_len l
    unfold linesR
    split
    · simp; omega
    · split
      · simp
      · rename_i y r hy
        rw [hy] at ih
        simp at ih ⊢; omega
theorem linesA_no : ∀ {a : Bys}, (10 : UInt8) ∉ a → linesA a = [a]
  | [], _ => rfl
  | b :: l, h => by
    have hb : ¬ b = 10 := fun e => h (by simp [e])
    have hl : (10 : UInt8) ∉ l := fun e => h (by simp [e])
    unfold linesA
    rw [if_neg hb, linesA_no hl]
theorem linesA_at : ∀ {a b : Bys}, (10 : UInt8) ∉ a → linesA (a ++ 10 :: b) = (a ++ [10]) :: linesA b
  | [], b, _ => by simp [linesA]
  | d :: l, b, h => by
    have hb : ¬ d = 10 := fun e => h (by simp [e])
    have hl : (10 : UInt8) ∉ l := fun e => h (by simp [e])
    simp only [List.cons_append]
    rw [linesA, if_neg hb, linesA_at hl]
theorem linesR_at : ∀ {a b : Bys}, (10 : UInt8) ∉ a → linesR (a ++ 10 :: b) = (a ++ [10]) :: linesR b
  | [], b, _ => by simp [linesR]
  | d :: l, b, h => by
    have hb : ¬ d = 10 := fun e => h (by simp [e])
    have hl : (10 : UInt8) ∉ l := fun e => h (by simp [e])
    simp only [List.cons_append]
    rw [linesR, if_neg hb, linesR_at hl]
theorem linesR_no : ∀ {a : Bys}, (10 : UInt8) ∉ a → a ≠ [] → linesR a = [a]
  | [], _, h => absurd rfl h
  | [b], h, _ => by
    have hb : ¬ b = 10 := fun e => h (by simp [e])
    simp [linesR, hb]
  | b :: c :: l, h, _ => by
    have hb : ¬ b = 10 := fun e => h (by simp [e])
    have hl : (10 : UInt8) ∉ c :: l := fun e => h (List.mem_cons_of_mem _ e)
    rw [linesR, if_neg hb, linesR_no hl (by simp)]
/-- how long the parts of a text are -/
theorem linesA_mem : ∀ (s : Bys), ∀ x ∈ linesA s, x.length ≤ s.length
  | [], x, h => by rw [List.mem_singleton.1 h]; exact Nat.le_refl _
  | b :: l, x, h => by
    have ih := linesA_mem l
    unfold linesA at h
    split at h
    · rcases List.mem_cons.1 h with rfl | h
      · simp
      · have := ih x h; simp; omega
    · split at h
      · rw [List.mem_singleton.1 h]; simp
      · rename_i y r hy
        rcases List.mem_cons.1 h with rfl | h
        · have := ih y (by rw [hy]; simp); simp; omega
        · have := ih x (by rw [hy]; simp [h]); simp; omega
/-- lines put together -/
theorem linesR_flat : ∀ l : List Bys, (∀ x ∈ l, (10 : UInt8) ∉ x) → linesR ((l.map fun x => x ++ [10]).flatten) = l.map fun x => x ++ [10]
  | [], _ => rfl
  | x :: r, h => by
    have ih := linesR_flat r (fun y hy => h y (by simp [hy]))
    simp only [List.map_cons, List.flatten_cons, List.append_assoc, List.singleton_append]
    rw [linesR_at (h x (by simp)), ih]

/- RULES -/
def sufB (l : Bys) : Bool := List.isSuffixOf [10] l
def cutN (l : Bys) : Bys := if sufB l = true then l.take (l.length - 1) else l
theorem suf_at (a : Bys) : sufB (a ++ [10]) = true := by
  unfold sufB
  rw [List.isSuffixOf_iff_suffix]
  exact ⟨a, rfl⟩
theorem cut_at (a : Bys) : cutN (a ++ [10]) = a := by
  unfold cutN
  rw [if_pos (suf_at a)]
  simp
def sameN (n : ByteArray) (x : LRule) : Bool := x.1.data.toList == n.data.toList
/-- what is read of lines -/
def rulesE (nms : List ByteArray) : List Bys → List LRule → Nat → List LRule × Nat × Int
  | [], out, _ => (out, 0, 0)
  | l :: ls, out, i =>
    if sufB l = false then ([], i + 1, 3)
    else if (parseR (cutN l) nms).2.2 ≠ 0 then ([], i + 1, (parseR (cutN l) nms).2.2)
    else if out.any (sameN (parseR (cutN l) nms).1.1) = true then ([], i + 1, 4)
    else rulesE nms ls (out ++ [(parseR (cutN l) nms).1]) (i + 1)
def rulesT (s : Bys) (nms : List ByteArray) : List LRule × Nat × Int :=
  if s.length > 4096 ∨ (linesR s).length > 20 then ([], 0, 2) else rulesE nms (linesR s) [] 0
/-- their texts, line by line -/
def outT (nms : List ByteArray) (l : List LRule) : Bys := ((l.map fun r => (printR r nms).1).map fun x => x ++ [10]).flatten
def Nd (l : List LRule) : Prop := l.Pairwise fun a b => sameN b.1 a = false
theorem parseR_chk (s : Bys) (nms : List ByteArray) (h : (parseR s nms).2.2 = 0) : chkRl (parseR s nms).1 nms = 0 := by
  unfold parseR at h ⊢
  split at h
  · cases h
  split at h
  · rename_i h1 h2; exact absurd h h2
  split at h
  · rename_i h1 h2 h3; exact absurd h h3
  rename_i h1 h2 h3
  rw [if_neg h1, if_neg h2, if_neg h3]
  simpa using h3
variable {nms : List ByteArray}
theorem rulesE_err : ∀ (ls : List Bys) (out : List LRule) (i : Nat), (rulesE nms ls out i).2.2 ≠ 0 → (rulesE nms ls out i).1 = [] ∧ (rulesE nms ls out i).2.1 ≤ i + ls.length
  | [], out, i, h => absurd rfl h
  | l :: ls, out, i, h => by
    unfold rulesE at h ⊢
    split
    · exact ⟨rfl, by simp⟩
    split
    · exact ⟨rfl, by simp⟩
    split
    · exact ⟨rfl, by simp⟩
    rename_i h1 h2 h3
    rw [if_neg h1, if_neg h2, if_neg h3] at h
    have := rulesE_err ls _ _ h
    refine ⟨this.1, ?_⟩
    have := this.2
    simp only [List.length_cons]
    omega
theorem nd_push {out : List LRule} {r : LRule} (h : Nd out) (hr : out.any (sameN r.1) = false) : Nd (out ++ [r]) := by
  unfold Nd at h ⊢
  rw [List.pairwise_append]
  refine ⟨h, List.pairwise_singleton _ _, fun a ha b hb => ?_⟩
  rw [List.mem_singleton.1 hb]
  have := List.any_eq_false.1 hr a ha
  simpa using this
theorem rulesE_ok : ∀ (ls : List Bys) (out : List LRule) (i : Nat), (rulesE nms ls out i).2.2 = 0 → ∃ l, (rulesE nms ls out i).1 = out ++ l ∧ l.length = ls.length ∧ (∀ r ∈ l, chkRl r nms = 0) ∧ (Nd out → Nd (out ++ l))
  | [], out, i, _ => ⟨[], by simp [rulesE], rfl, (fun _ h => by cases h), (fun h => by simpa using h)⟩
  | l :: ls, out, i, h => by
    unfold rulesE at h ⊢
    split at h
    · cases h
    split at h
    · rename_i h1 h2; exact absurd h h2
    split at h
    · cases h
    rename_i h1 h2 h3
    rw [if_neg h1, if_neg h2, if_neg h3]
    obtain ⟨q, e1, e2, e3, e4⟩ := rulesE_ok ls _ _ h
    have h2 : (parseR (cutN l) nms).2.2 = 0 := by simpa using h2
    refine ⟨(parseR (cutN l) nms).1 :: q, by rw [e1]; simp, by simp [e2], ?_, fun hn => ?_⟩
    · intro r hr
      rcases List.mem_cons.1 hr with rfl | hr
      · exact parseR_chk _ _ h2
      · exact e3 r hr
    · have := e4 (nd_push hn (by simpa using h3))
      simpa using this
theorem rulesE_back : ∀ (l : List LRule) (out : List LRule) (i : Nat), (∀ r ∈ l, chkRl r nms = 0) → Nd (out ++ l) →
    rulesE nms ((l.map fun r => (printR r nms).1).map fun x => x ++ [10]) out i = (out ++ l, 0, 0) ∨ (rulesE nms ((l.map fun r => (printR r nms).1).map fun x => x ++ [10]) out i).2.2 = 2 ∨ (rulesE nms ((l.map fun r => (printR r nms).1).map fun x => x ++ [10]) out i).2.2 = 5
  | [], out, i, _, _ => .inl (by simp [rulesE])
  | r :: l, out, i, h, hn => by
    have hr := rback_law (h r (by simp))
    simp only [List.map_cons]
    rw [rulesE, suf_at, if_neg (by decide), cut_at]
    rcases hr with hr | ⟨_, e, he, hr⟩
    · rw [hr]
      dsimp only
      rw [if_neg (by decide)]
      have ha : out.any (sameN r.1) = false := by
        unfold Nd at hn
        rw [List.pairwise_append] at hn
        rw [List.any_eq_false]
        intro x hx
        have := hn.2.2 x hx r (by simp)
        simp [this]
      rw [if_neg (by rw [ha]; decide)]
      have := rulesE_back l (out ++ [r]) (i + 1) (fun x hx => h x (by simp [hx])) (by simpa using hn)
      simpa using this
    · rw [hr]
      dsimp only
      rw [if_pos (by rcases he with rfl | rfl <;> decide)]
      right
      rcases he with rfl | rfl
      · exact .inl rfl
      · exact .inr rfl

/- NO LINE ENDS WITHIN WHAT IS PRINTED -/
theorem nmL_no (n : Int) : (10 : UInt8) ∉ nmL nms n := by
  unfold nmL
  split
  · decide
  split
  · simp
  split
  · simp
  rename_i h
  split
  · simp
  exact (named_no (l := (nms.getD n.toNat ⟨#[]⟩).data.toList) (by simpa using h)).2.1
theorem kidT_no {b : Bool} {t : Bys} (h : (10 : UInt8) ∉ t) : (10 : UInt8) ∉ kidT b t := by
  unfold kidT
  split
  · exact h
  · simp [h]
theorem joinL_no {nm : Int → Bys} (hn : ∀ n, (10 : UInt8) ∉ nm n) (k n : Int) (ks : List (Int × Bys)) (h0 : (10 : UInt8) ∉ (ks.getD 0 (0, [])).2) (h1 : (10 : UInt8) ∉ (ks.getD 1 (0, [])).2) : (10 : UInt8) ∉ joinL nm k n ks := by
  have k0 := kidT_no (b := bareL k 0 (ks.getD 0 (0, [])).1) h0
  have k1 := kidT_no (b := bareL k 1 (ks.getD 1 (0, [])).1) h1
  have h2 := hn n
  have h3 : (10 : UInt8) ∉ sigL k := by unfold sigL; repeat (first | split | decide)
  unfold joinL tTrue tFalse
  generalize ks.getD 0 (0, []) = x0 at *
  generalize ks.getD 1 (0, []) = x1 at *
  iterate 7 (split; · (first | exact h2 | (simp only [List.mem_append, List.mem_cons, List.not_mem_nil, or_false, not_or]; simp [k0, k1])))
  simp only [List.mem_append, List.mem_cons, List.not_mem_nil, or_false, not_or]
  simp [k0, k1, h3]
theorem joinC_no {nm : Int → Bys} (hn : ∀ n, (10 : UInt8) ∉ nm n) (k n : Int) (ks : List (Int × Bys)) (h0 : (10 : UInt8) ∉ (ks.getD 0 (0, [])).2) (h1 : (10 : UInt8) ∉ (ks.getD 1 (0, [])).2) : (10 : UInt8) ∉ joinC nm k n ks := by
  have k0 := kidT_no (b := bareC k 0 (ks.getD 0 (0, [])).1) h0
  have k1 := kidT_no (b := bareC k 1 (ks.getD 1 (0, [])).1) h1
  have h2 := hn n
  have h3 : (10 : UInt8) ∉ sigC k := by unfold sigC; repeat (first | split | decide)
  unfold joinC tTrue tFalse
  generalize ks.getD 0 (0, []) = x0 at *
  generalize ks.getD 1 (0, []) = x1 at *
  iterate 7 (split; · (first | exact h2 | (simp only [List.mem_append, List.mem_cons, List.not_mem_nil, or_false, not_or]; simp [k0, k1, h0, h1])))
  simp only [List.mem_append, List.mem_cons, List.not_mem_nil, or_false, not_or]
  simp [k0, k1, h3]
theorem getD_no {ks : List (Int × Bys)} (h : ∀ x ∈ ks, (10 : UInt8) ∉ x.2) (i : Nat) : (10 : UInt8) ∉ (ks.getD i (0, [])).2 := by
  rw [List.getD_eq_getElem?_getD]
  cases e : ks[i]? with
  | none => simp
  | some x => exact h x (List.mem_of_getElem? e)
mutual
theorem txtL_no {nm : Int → Bys} (hn : ∀ n, (10 : UInt8) ∉ nm n) : ∀ f : Ltl, (10 : UInt8) ∉ txtL nm f
  | .mk k n kids => by
    have h2 := txtLs_no hn kids
    simp only [txtL]
    exact joinL_no hn k n _ (getD_no h2 0) (getD_no h2 1)
theorem txtLs_no {nm : Int → Bys} (hn : ∀ n, (10 : UInt8) ∉ nm n) : ∀ l : List Ltl, ∀ x ∈ txtLs nm l, (10 : UInt8) ∉ x.2
  | [], x, h => by simp [txtLs] at h
  | y :: r, x, h => by
    have h1 := txtL_no hn y
    have h2 := txtLs_no hn r
    simp only [txtLs] at h
    rcases List.mem_cons.1 h with rfl | h
    · exact h1
    · exact h2 x h
end
mutual
theorem txtC_no {nm : Int → Bys} (hn : ∀ n, (10 : UInt8) ∉ nm n) : ∀ f : Ltl, (10 : UInt8) ∉ txtC nm f
  | .mk k n kids => by
    have h2 := txtCs_no hn kids
    simp only [txtC]
    exact joinC_no hn k n _ (getD_no h2 0) (getD_no h2 1)
theorem txtCs_no {nm : Int → Bys} (hn : ∀ n, (10 : UInt8) ∉ nm n) : ∀ l : List Ltl, ∀ x ∈ txtCs nm l, (10 : UInt8) ∉ x.2
  | [], x, h => by simp [txtCs] at h
  | y :: r, x, h => by
    have h1 := txtC_no hn y
    have h2 := txtCs_no hn r
    simp only [txtCs] at h
    rcases List.mem_cons.1 h with rfl | h
    · exact h1
    · exact h2 x h
end
theorem printL_no (f : Ltl) : (10 : UInt8) ∉ (printL f nms).1 := by
  unfold printL
  split
  · simp
  split
  · simp
  exact txtL_no nmL_no f
theorem printC_no (f : Ltl) : (10 : UInt8) ∉ (printC f nms).1 := by
  unfold printC
  split
  · simp
  split
  · simp
  exact txtC_no nmL_no f
theorem rnmL_no (n : Int) (b : Bool) : (10 : UInt8) ∉ rnmL nms n b ∧ (rnmL nms n b).length ≤ 8 := by
  by_cases h : rnmL nms n b = []
  · rw [h]; simp
  · rcases rnm_cases h with ⟨rfl, rfl, h1⟩ | ⟨h1, h2, h3, h4⟩
    · rw [h1]; decide
    · exact (named_no h3).2
theorem word_no (k : Int) : ((10 : UInt8) ∉ kindT k ∧ (kindT k).length ≤ 480) ∧ ((10 : UInt8) ∉ scopT k ∧ (scopT k).length ≤ 480) ∧ (10 : UInt8) ∉ tempT k ∧ (tempT k).length ≤ 480 := by
  refine ⟨?_, ?_, ?_⟩
  · unfold kindT; repeat (first | split | decide)
  · unfold scopT; repeat (first | split | decide)
  · by_cases h : 1 ≤ k ∧ k ≤ 14
    · obtain rfl | rfl | rfl | rfl | rfl | rfl | rfl | rfl | rfl | rfl | rfl | rfl | rfl | rfl : k = 1 ∨ k = 2 ∨ k = 3 ∨ k = 4 ∨ k = 5 ∨ k = 6 ∨ k = 7 ∨ k = 8 ∨ k = 9 ∨ k = 10 ∨ k = 11 ∨ k = 12 ∨ k = 13 ∨ k = 14 := by omega
      all_goals decide
    · have e : tempT k = [] := by
        unfold tempT
        iterate 14 rw [if_neg (by omega)]
      rw [e]; decide
theorem dgT_no {n : Int} (h1 : 0 ≤ n) (h2 : n ≤ 3) : (10 : UInt8) ∉ dgT n := by
  obtain rfl | rfl | rfl | rfl : n = 0 ∨ n = 1 ∨ n = 2 ∨ n = 3 := by omega
  all_goals decide
theorem joinS_no : ∀ l : List Bys, (∀ w ∈ l, (10 : UInt8) ∉ w) → (10 : UInt8) ∉ joinS 32 l
  | [], _ => by simp [joinS]
  | [x], h => by simp only [joinS]; exact h x (by simp)
  | x :: y :: r, h => by
    have h1 := joinS_no (y :: r) (fun w hw => h w (by simp [hw]))
    have h2 := h x (by simp)
    simp only [joinS, List.mem_append, List.mem_cons, not_or]
    exact ⟨h2, by decide, h1⟩
theorem printR_no {r : LRule} (h : chkRl r nms = 0) : (10 : UInt8) ∉ (printR r nms).1 ∧ (printR r nms).1.length ≤ 4329 ∧ (printR r nms).2 = 0 := by
  have hp : printR r nms = (joinS 32 (wordsR r nms), 0) := by unfold printR; rw [if_neg (by simpa using h)]
  rw [hp]
  have h0 := h
  unfold chkRl at h0
  split at h0
  · cases h0
  split at h0
  · rename_i h1 h2; exact absurd h0 h2
  split at h0
  · cases h0
  rename_i h1 h2 h3
  obtain ⟨nm, so, pt, tp, fl, fc⟩ := r
  simp only [not_or, Bool.not_eq_false] at h1
  obtain ⟨hn, hs1, hs4⟩ := h1
  dsimp only at hn hs1 hs4 h2 h3 ⊢
  have hnn := named_no hn
  unfold partE at h2
  have hpe : partE0 (nm, so, pt, tp, fl, fc) nms = 0 := by
    apply Classical.byContradiction
    intro hx
    rw [if_neg (fun h => hx h.1)] at h2
    exact h2 hx
  have hown : (ownA pt).length ≤ 2 := by unfold ownA; split <;> simp
  have hsc : (scopeA pt).length ≤ 2 := by unfold scopeA; repeat (first | split | simp)
  have all : (∀ w ∈ wordsR (nm, so, pt, tp, fl, fc) nms, (10 : UInt8) ∉ w ∧ w.length ≤ 480) ∧ (wordsR (nm, so, pt, tp, fl, fc) nms).length ≤ 8 := by
    unfold wordsR
    dsimp only
    have hdg : ∀ n, (dgT n).length ≤ 480 := fun n => by unfold dgT; simp
    have hnl : (10 : UInt8) ∉ nm.data.toList ∧ nm.data.toList.length ≤ 480 := ⟨hnn.2.1, Nat.le_trans hnn.2.2 (by decide)⟩
    have hrn : ∀ n b, (10 : UInt8) ∉ rnmL nms n b ∧ (rnmL nms n b).length ≤ 480 := fun n b => ⟨(rnmL_no n b).1, Nat.le_trans (rnmL_no n b).2 (by decide)⟩
    obtain rfl | rfl | rfl | rfl : so = 1 ∨ so = 2 ∨ so = 3 ∨ so = 4 := by omega
    · have hc : chkP pt = 0 := hpe
      have hk : 0 ≤ pt.2.2.2.2.2.2 ∧ pt.2.2.2.2.2.2 ≤ 3 := by
        unfold chkP at hc
        split at hc
        · cases hc
        split at hc
        · cases hc
        split at hc
        · cases hc
        omega
      rw [if_pos rfl]
      constructor
      · intro w hw
        simp only [List.mem_cons, List.mem_append, List.mem_map] at hw
        rcases hw with rfl | rfl | (hw | ⟨n, _, rfl⟩) | rfl | ⟨n, _, rfl⟩
        · exact hnl
        · exact (word_no _).1
        · split at hw
          · rw [List.mem_singleton.1 hw]; exact ⟨dgT_no hk.1 hk.2, hdg _⟩
          · cases hw
        · exact hrn _ _
        · exact (word_no _).2.1
        · exact hrn _ _
      · simp only [List.length_cons, List.length_append, List.length_map]
        by_cases h4 : pt.1 = 4
        · rw [if_pos h4]; simp only [List.length_cons, List.length_nil]; omega
        · rw [if_neg h4]; simp only [List.length_nil]; omega
    · have hc : chkT tp = 0 := hpe
      have hk : tp.2.2.2 ≤ 3 := by
        unfold chkT at hc
        split at hc
        · cases hc
        split at hc
        · cases hc
        rename_i g1 g2
        simp only [not_or, not_and] at g2
        by_cases hcb : countedB tp.1 = true
        · have := g2.1 hcb; omega
        · have := g2.2 (by simpa using hcb); omega
      rw [if_neg (by decide), if_pos rfl]
      constructor
      · intro w hw
        simp only [List.mem_cons, List.mem_append] at hw
        rcases hw with rfl | rfl | rfl | rfl | hw | hw
        · exact hnl
        · decide
        · exact (word_no _).2.2
        · exact hrn _ _
        · split at hw
          · rename_i hp; rw [List.mem_singleton.1 hw]; exact ⟨dgT_no (by omega) hk, hdg _⟩
          · cases hw
        · split at hw
          · cases hw
          · rw [List.mem_singleton.1 hw]; exact hrn _ _
      · simp only [List.length_cons, List.length_append]
        have : ∀ (c : Prop) [Decidable c] (x : Bys), (if c then [x] else []).length ≤ 1 := fun c _ x => by split <;> simp
        have g1 := this (0 < tp.2.2.2) (dgT tp.2.2.2)
        have : ∀ (c : Prop) [Decidable c] (x : Bys), (if c then [] else [x]).length ≤ 1 := fun c _ x => by split <;> simp
        have g2 := this (aloneB tp.1 = true) (rnmL nms tp.2.2.1 false)
        omega
    · rw [if_neg (by decide), if_neg (by decide), if_pos rfl]
      constructor
      · intro w hw
        simp only [List.mem_cons, List.not_mem_nil, or_false] at hw
        rcases hw with rfl | rfl | rfl
        · exact hnl
        · decide
        · exact ⟨printL_no _, printL_len _ _⟩
      · simp
    · rw [if_neg (by decide), if_neg (by decide), if_neg (by decide)]
      constructor
      · intro w hw
        simp only [List.mem_cons, List.not_mem_nil, or_false] at hw
        rcases hw with rfl | rfl | rfl
        · exact hnl
        · decide
        · exact ⟨printC_no _, printC_len _ _⟩
      · simp
  refine ⟨joinS_no _ fun w hw => (all.1 w hw).1, ?_, rfl⟩
  have := join_len 480 _ fun w hw => (all.1 w hw).2
  have := all.2
  omega
theorem outT_len : ∀ l : List LRule, (∀ r ∈ l, chkRl r nms = 0) → (outT nms l).length ≤ 4330 * l.length
  | [], _ => by simp [outT]
  | r :: l, h => by
    have h1 := outT_len l (fun x hx => h x (by simp [hx]))
    have h2 := (printR_no (h r (by simp))).2.1
    unfold outT at h1 ⊢
    simp only [List.map_cons, List.flatten_cons, List.length_append, List.length_cons, List.length_nil] at h1 ⊢
    omega
theorem outT_snoc (l : List LRule) (r : LRule) : outT nms (l ++ [r]) = outT nms l ++ ((printR r nms).1 ++ [10]) := by
  unfold outT
  simp
theorem rulesT_err {s : Bys} (h : (rulesT s nms).2.2 ≠ 0) : (rulesT s nms).1 = [] ∧ (rulesT s nms).2.1 ≤ (linesR s).length := by
  unfold rulesT at h ⊢
  split
  · exact ⟨rfl, Nat.zero_le _⟩
  · rename_i h1
    rw [if_neg h1] at h
    have := rulesE_err _ _ _ h
    exact ⟨this.1, by have := this.2; omega⟩
/-- P52: rules that are read line by line: their texts are read as the same -/
theorem report_law {s : Bys} (h : (rulesT s nms).2.2 = 0) :
    (rulesT s nms).1.length = (linesR s).length ∧ (rulesT s nms).1.length ≤ 20 ∧ (∀ r ∈ (rulesT s nms).1, chkRl r nms = 0) ∧
    (rulesT (outT nms (rulesT s nms).1) nms = ((rulesT s nms).1, 0, 0) ∨ (rulesT (outT nms (rulesT s nms).1) nms).2.2 = 2 ∨ (rulesT (outT nms (rulesT s nms).1) nms).2.2 = 5) := by
  unfold rulesT at h
  split at h
  · cases h
  rename_i h1
  have e0 : rulesT s nms = rulesE nms (linesR s) [] 0 := by unfold rulesT; rw [if_neg h1]
  rw [e0]
  obtain ⟨l, e1, e2, e3, e4⟩ := rulesE_ok _ _ _ h
  rw [e1]
  simp only [not_or] at h1
  simp only [List.nil_append] at e4 ⊢
  refine ⟨e2, by omega, e3, ?_⟩
  have hl : linesR (outT nms l) = (l.map fun r => (printR r nms).1).map fun x => x ++ [10] := linesR_flat _ (by
    intro x hx
    obtain ⟨r, hr, rfl⟩ := List.mem_map.1 hx
    exact (printR_no (e3 r hr)).1)
  by_cases h4 : (outT nms l).length > 4096
  · right; left
    unfold rulesT
    rw [if_pos (.inl h4)]
  · have := rulesE_back l [] 0 e3 (e4 List.Pairwise.nil)
    unfold rulesT
    rw [hl, if_neg (by simp only [List.length_map, not_or]; omega)]
    exact this
end Go.Proofs.YtikigaeihdmcaaaGreatDoor

/-
  Results that lie in a variable; slices that are read, later on; slices cut with their capacity. Over any program.
-/
set_option linter.unusedVariables false
set_option linter.unusedSimpArgs false
namespace Go.Proofs.YtikigaeihdmcaaaGreatDoor
open Go.RowKit

theorem results_cell {fn : Func} {a : Nat} {t : TypeId} (h : fn.results = #[.cell a t]) (tmps : Array Value) (P : Program) (w : World) {p : Addr} {v : Value} (ha : tmps.getD a undef = .pointer (some p)) (hl : (loadVar t p).run P w = .ok v w) :
    (results fn tmps).run P w = .ok v w := by
  simp only [Array.getD_eq_getD_getElem?] at ha
  simp [results, h, ha, asAddr, hl]
theorem EX.retC {P : Program} {n : Nat} {σ : Sg} {w : World} {fn : Func} {a b : Nat} {t e : TypeId} {cells : List Value} {k : Nat} {R : Value → World → Prop} (hr : fn.results = #[.cell a t]) (ha : fnd σ a = some (.pointer (some ⟨b, 0, none⟩))) [hc : IsC P t k true] (hb : Blk w b e cells) (hk : lenL cells = k) (h : R (.agg cells.toArray) w) :
    EX (bodyPost P fn fun e w' => ∃ v, e = .returned v ∧ R v w') .ret n σ w := by
  unfold EX; intro ac hac
  refine bodyPost_ret (results_cell hr _ _ _ (hac.slot a _ ha) (v := .agg cells.toArray) ?_) hac.defers ⟨_, rfl, h⟩
  rw [lenL_eq] at hk
  have hld := run_loadCells_list (P := P) w ⟨b, 0, none⟩ cells (fun j u hu => by rw [WideShapes.add_plain, Nat.zero_add]; exact hb.cell hu)
  obtain ⟨i, dd, h1, h2, h3, h4⟩ := hc.ok
  have hagg : (isAgg t).run P w = .ok true w := by
    unfold isAgg
    rw [Sem.run_bind, run_underlying h3 w, ← h4]
    cases dd <;> rfl
  rw [hk] at hld
  simp [loadVar, hagg, sizeOf, typeInfo, h1, h2, hld]
theorem results_cell2 {fn : Func} {a u : Nat} {t : TypeId} (h : fn.results = #[.cell a t, .tmp u]) (tmps : Array Value) (P : Program) (w : World) {p : Addr} {v : Value} (ha : tmps.getD a undef = .pointer (some p)) (hl : (loadVar t p).run P w = .ok v w) :
    (results fn tmps).run P w = .ok (.tuple ⟨[v, tmps.getD u undef]⟩) w := by
  simp only [Array.getD_eq_getD_getElem?] at ha ⊢
  simp [results, h, ha, asAddr, hl]
theorem EX.retC2 {P : Program} {n : Nat} {σ : Sg} {w : World} {fn : Func} {a b u : Nat} {t e : TypeId} {cells : List Value} {k : Nat} {x : Value} {R : Value → World → Prop} (hr : fn.results = #[.cell a t, .tmp u]) (ha : fnd σ a = some (.pointer (some ⟨b, 0, none⟩))) (hu : fnd σ u = some x) [hc : IsC P t k true] (hb : Blk w b e cells) (hk : lenL cells = k) (h : R (.tuple ⟨[.agg cells.toArray, x]⟩) w) :
    EX (bodyPost P fn fun e w' => ∃ v, e = .returned v ∧ R v w') .ret n σ w := by
  unfold EX; intro ac hac
  refine bodyPost_ret (results_cell2 hr _ _ _ (hac.slot a _ ha) (v := .agg cells.toArray) ?_) hac.defers ⟨_, by rw [hac.slot u x hu], h⟩
  rw [lenL_eq] at hk
  have hld := run_loadCells_list (P := P) w ⟨b, 0, none⟩ cells (fun j u hu => by rw [WideShapes.add_plain, Nat.zero_add]; exact hb.cell hu)
  obtain ⟨i, dd, h1, h2, h3, h4⟩ := hc.ok
  have hagg : (isAgg t).run P w = .ok true w := by
    unfold isAgg
    rw [Sem.run_bind, run_underlying h3 w, ← h4]
    cases dd <;> rfl
  rw [hk] at hld
  simp [loadVar, hagg, sizeOf, typeInfo, h1, h2, hld]
theorem Sl.zero {α : Type} [Rep α] (w : World) (F : Nat → Prop) : Sl w F none 0 ([] : List α) := ⟨by simp, by simp [maxLen], fun _ => rfl, fun i hi => absurd hi (by simp)⟩
theorem Sl.up0 {α : Type} [Rep α] {w w' : World} {F : Nat → Prop} {ao : Option Addr} {cap : Nat} {xs : List α} (h : Sl w F ao cap xs) (hE : Ext w w') (hF : ∀ b, F b → b < w.heap.size) : Sl w' F ao cap xs := h.mono (fun b hb => hE.block b (hF b hb)) fun _ h => h
section
variable {P : Program} {Q : Exit → Act → World → Prop} {n : Nat} {σ : Sg} {w : World} {L rest : List Oper} {d : Nat} {ty : TypeId} {pos : String} {af : Array Edge} {g : Option (Nat × Bool)} {t e : TypeId} {α : Type} [Rep α] {F : Nat → Prop}
end
end Go.Proofs.YtikigaeihdmcaaaGreatDoor

/-
  rule.Check, walked: first: names, atoms.
-/
set_option linter.unusedVariables false
set_option linter.unusedSimpArgs false
namespace Go.Proofs.YtikigaeihdmcaaaGreatDoor
open Go.RowKit

abbrev rulV (r : LRule) (lo : Option Addr) (lc : Nat) (co : Option Addr) (cc : Nat) : Value := .agg [.string r.1, .int .i64 r.2.1,
  .int .i64 r.2.2.1.1, .int .i64 r.2.2.1.2.1, .int .i64 r.2.2.1.2.2.1, .int .i64 r.2.2.1.2.2.2.1, .int .i64 r.2.2.1.2.2.2.2.1, .int .i64 r.2.2.1.2.2.2.2.2.1, .int .i64 r.2.2.1.2.2.2.2.2.2,
  .int .i64 r.2.2.2.1.1, .int .i64 r.2.2.2.1.2.1, .int .i64 r.2.2.2.1.2.2.1, .int .i64 r.2.2.2.1.2.2.2,
  .int .i64 r.2.2.2.2.1.k, .int .i64 r.2.2.2.2.1.n, .slice lo r.2.2.2.2.1.kids.length lc, .int .i64 r.2.2.2.2.2.k, .int .i64 r.2.2.2.2.2.n, .slice co r.2.2.2.2.2.kids.length cc].toArray
theorem Rd.rule {w : World} {F : Nat → Prop} {v : Value} {r : LRule} (h : Rd w F v r) : ∃ lo lc co cc, v = rulV r lo lc co cc ∧ Sl w F lo lc r.2.2.2.2.1.kids ∧ Sl w F co cc r.2.2.2.2.2.kids ∧ r.1.size ≤ maxLen := by
  obtain ⟨c1, d1, rfl, h1, k1⟩ := h.pr
  obtain ⟨c2, d2, rfl, h2, k2⟩ := rd_pr k1
  obtain ⟨c3, d3, rfl, h3, k3⟩ := rd_pr k2
  obtain ⟨c4, d4, rfl, h4, k4⟩ := rd_pr k3
  obtain ⟨c5, d5, rfl, h5, k5⟩ := rd_pr k4
  obtain ⟨lo, lc, rfl, hl⟩ := RdT.sl h5
  obtain ⟨co, cc, rfl, hc⟩ := RdT.sl k5
  obtain ⟨p1, e1, rfl, q1, g1⟩ := rd_pr h3
  obtain ⟨p2, e2, rfl, q2, g2⟩ := rd_pr g1
  obtain ⟨p3, e3, rfl, q3, g3⟩ := rd_pr g2
  obtain ⟨p4, e4, rfl, q4, g4⟩ := rd_pr g3
  obtain ⟨p5, e5, rfl, q5, g5⟩ := rd_pr g4
  obtain ⟨p6, e6, rfl, q6, g6⟩ := rd_pr g5
  obtain ⟨t1, f1, rfl, r1, s1⟩ := rd_pr h4
  obtain ⟨t2, f2, rfl, r2, s2⟩ := rd_pr s1
  obtain ⟨t3, f3, rfl, r3, s3⟩ := rd_pr s2
  refine ⟨lo, lc, co, cc, ?_, hl, hc, h1.2⟩
  rw [h1.1, rd_int h2, rd_int q1, rd_int q2, rd_int q3, rd_int q4, rd_int q5, rd_int q6, rd_int g6, rd_int r1, rd_int r2, rd_int r3, rd_int s3]
  rfl
instance iRul1 : IsFd Tryz.prog 33 0 0 := IsFd.of (by kernel_rfl)
instance iRul2 : IsFd Tryz.prog 33 1 1 := IsFd.of (by kernel_rfl)
instance iRul3 : IsFd Tryz.prog 33 2 2 := IsFd.of (by kernel_rfl)
instance iRul4 : IsFd Tryz.prog 33 3 9 := IsFd.of (by kernel_rfl)
instance iRul5 : IsFd Tryz.prog 33 4 13 := IsFd.of (by kernel_rfl)
instance iRul6 : IsFd Tryz.prog 33 5 16 := IsFd.of (by kernel_rfl)
instance iRul7 : IsC Tryz.prog 33 19 true := IsC.of (by kernel_rfl) Tryz.underlying33 rfl
theorem rname_ok (w0 : World) {no : Option Addr} {nc : Nat} {nms : List ByteArray} (hn : Sl w0 (Old w0) no nc nms) (n : Int) (s : Bool) :
    Rt Tryz.prog 19 [.int .i64 n, .slice no nms.length nc, .bool s].toArray w0 fun v w' => v = tV (rnmL nms n s) ∧ Ext w0 w' := by
  have hm := hn.len63
  refine Rt.enter3 Tryz.func19 Tryz.ntmps19 rfl rfl ?_
  have hbad : (n < 0 ∨ n ≥ (nms.length : Int) ∨ n ≥ 63) → ¬ (n = 63 ∧ s = true) → rnmL nms n s = [] := fun h h' => by
    unfold rnmL; rw [if_neg h', if_pos]
    rcases h with h | h | h
    · exact .inl h
    · exact .inr (.inl h)
    · exact .inr (.inr (.inl h))
  (repeat (first | (apply WL.pure; rfl; rfl; rfl) | (apply WL.nil) | (apply EX.thenN) | (apply CW.seq) | (apply CW.region)))
  (refine WL.lookG rfl rfl (fun h => ?_) (fun h => ?_))
  · have h63 : n = 63 := by simpa using h
    cases s with
    | true =>
      (repeat (first | (apply WL.pure; rfl; rfl; rfl) | (apply WL.nil) | (apply EX.thenN) | (apply CW.seq) | (apply CW.region) | (apply CW.condT; rfl) | (apply CW.ret) | (apply EX.thenR)))
      exact EX.ret1 rfl rfl ⟨by unfold rnmL; rw [if_pos ⟨h63, rfl⟩]; rfl, Ext.refl _⟩
    | false =>
      rw [hbad (.inr (.inr (by omega))) (by simp)]
      have hd : decide (n < 0) = false := decide_eq_false (by omega)
      have he : decide (n ≥ 63) = true := decide_eq_true (by omega)
      (repeat (first | (apply WL.pure; rfl; rfl; rfl) | (apply WL.nil) | (apply EX.thenN) | (apply CW.seq) | (apply CW.region) | (apply CW.condF; rfl) | (apply CW.skip)))
      rw [hd]
      (repeat (first | (apply WL.pure; rfl; rfl; rfl) | (apply WL.lenS; rfl; rfl; rfl)))
      (refine WL.lookG rfl rfl (fun h => ?_) (fun h => ?_))
      · (repeat (first | (apply WL.pure; rfl; rfl; rfl) | (apply WL.nil) | (apply EX.thenN) | (apply CW.seq) | (apply CW.region) | (apply WL.pass; rfl; rfl) | (apply CW.condT; rfl) | (apply CW.ret) | (apply EX.thenR)))
        exact EX.ret1 rfl rfl ⟨rfl, Ext.refl _⟩
      · (repeat (apply WL.pure; rfl; rfl; rfl))
        rw [he]
        (repeat (first | (apply WL.pure; rfl; rfl; rfl) | (apply WL.nil) | (apply EX.thenN) | (apply CW.seq) | (apply CW.region) | (apply WL.pass; rfl; rfl) | (apply CW.condT; rfl) | (apply CW.ret) | (apply EX.thenR)))
        exact EX.ret1 rfl rfl ⟨rfl, Ext.refl _⟩
  have h63 : ¬ n = 63 := by simpa using h
  have hns : ¬ (n = 63 ∧ s = true) := fun h => h63 h.1
  (repeat (first | (apply WL.pure; rfl; rfl; rfl) | (apply WL.nil) | (apply EX.thenN) | (apply CW.seq) | (apply CW.region) | (apply WL.pass; rfl; rfl) | (apply CW.condF; rfl) | (apply CW.skip)))
  (refine WL.lookG rfl rfl (fun h => ?_) (fun h => ?_))
  · rw [hbad (.inl (by simpa using h)) hns]
    (repeat (first | (apply WL.pure; rfl; rfl; rfl) | (apply WL.nil) | (apply EX.thenN) | (apply CW.seq) | (apply CW.region) | (apply WL.pass; rfl; rfl) | (apply CW.condT; rfl) | (apply CW.ret) | (apply EX.thenR)))
    exact EX.ret1 rfl rfl ⟨rfl, Ext.refl _⟩
  have h0 : ¬ n < 0 := by simpa using h
  obtain ⟨i, rfl⟩ := Int.eq_ofNat_of_zero_le (show 0 ≤ n by omega)
  clear h
  (repeat (first | (apply WL.pure; rfl; rfl; rfl) | (apply WL.lenS; rfl; rfl; rfl)))
  (refine WL.lookG rfl rfl (fun h => ?_) (fun h => ?_))
  · rw [hbad (.inr (.inl (by simpa using h))) hns]
    (repeat (first | (apply WL.pure; rfl; rfl; rfl) | (apply WL.nil) | (apply EX.thenN) | (apply CW.seq) | (apply CW.region) | (apply WL.pass; rfl; rfl) | (apply CW.condT; rfl) | (apply CW.ret) | (apply EX.thenR)))
    exact EX.ret1 rfl rfl ⟨rfl, Ext.refl _⟩
  have h1 : ¬ (i : Int) ≥ (nms.length : Int) := by simpa using h
  have hi : i < nms.length := by omega
  clear h
  (repeat (apply WL.pure; rfl; rfl; rfl))
  (refine WL.lookG rfl rfl (fun h => ?_) (fun h => ?_))
  · rw [hbad (.inr (.inr (by simpa using h))) hns]
    (repeat (first | (apply WL.pure; rfl; rfl; rfl) | (apply WL.nil) | (apply EX.thenN) | (apply CW.seq) | (apply CW.region) | (apply WL.pass; rfl; rfl) | (apply CW.condT; rfl) | (apply CW.ret) | (apply EX.thenR)))
    exact EX.ret1 rfl rfl ⟨rfl, Ext.refl _⟩
  have h2 : ¬ (i : Int) ≥ 63 := by simpa using h
  clear h hbad
  have hgd : nms.getD (i : Int).toNat ⟨#[]⟩ = nms[i] := by rw [Int.toNat_natCast, getDNm_at hi]
  unfold rnmL
  rw [if_neg hns, hgd]
  (repeat (apply WL.pure; rfl; rfl; rfl))
  refine WL.elemN rfl rfl rfl rfl rfl hn hi (fun _ => rfl) (fun u1 q1 hu1 => ?_)
  obtain ⟨rfl, _⟩ := hu1.str
  skip
  refine WL.call rfl rfl rfl (Named_ok w0 nms[i]) ?_
  rintro _ w1 ⟨rfl, e1⟩
  (repeat (apply WL.pure; rfl; rfl; rfl))
  (refine WL.lookG rfl rfl (fun h => ?_) (fun h => ?_))
  · rw [if_pos (.inr (.inr (.inr (.inl (by simpa using h)))))]
    (repeat (first | (apply WL.pure; rfl; rfl; rfl) | (apply WL.nil) | (apply EX.thenN) | (apply CW.seq) | (apply CW.region) | (apply WL.pass; rfl; rfl) | (apply CW.condT; rfl) | (apply CW.ret) | (apply EX.thenR)))
    exact EX.ret1 rfl rfl ⟨rfl, e1⟩
  have h3 : ¬ namedB nms[i] = false := by simpa using h
  clear h
  (repeat (apply WL.pure; rfl; rfl; rfl))
  refine WL.elemN rfl rfl rfl rfl rfl (hn.up e1) hi (fun _ => rfl) (fun u1 q1 hu1 => ?_)
  obtain ⟨rfl, _⟩ := hu1.str
  skip
  refine WL.call rfl rfl rfl (index_str w1 nms[i] (hn.up e1)) ?_
  rintro _ w2 ⟨rfl, rfl⟩
  rw [idxB_of]
  (repeat (first | (apply WL.pure; rfl; rfl; rfl) | (apply WL.nil) | (apply EX.thenN)))
  refine CW.cond rfl (fun h => ?_) (fun h => ?_)
  · rw [if_pos (.inr (.inr (.inr (.inr (by simpa using h)))))]
    (repeat (first | (apply WL.pure; rfl; rfl; rfl) | (apply WL.nil) | (apply EX.thenN) | (apply CW.seq) | (apply CW.region) | (apply CW.ret) | (apply EX.thenR)))
    exact EX.ret1 rfl rfl ⟨rfl, e1⟩
  have h4 : ¬ idxB nms nms[i].data.toList ≠ (i : Int) := by simpa using h
  rw [if_neg (by simp only [not_or]; exact ⟨h0, h1, h2, h3, h4⟩)]
  (repeat (first | (apply WL.pure; rfl; rfl; rfl) | (apply EX.thenN) | (apply CW.seq) | (apply CW.region) | (apply CW.skip)))
  refine WL.elemN rfl rfl rfl rfl rfl (hn.up e1) hi (fun _ => rfl) (fun u1 q1 hu1 => ?_)
  obtain ⟨rfl, _⟩ := hu1.str
  (repeat (first | (apply WL.pure; rfl; rfl; rfl) | (apply WL.nil) | (apply EX.thenN) | (apply CW.ret)))
  exact EX.ret1 rfl rfl ⟨by rw [tV, txA_eta], e1⟩
theorem alone_ok (w0 : World) (k : Int) : Rt Tryz.prog 20 [.int .i64 k].toArray w0 fun v w' => v = .bool (aloneB k) ∧ w0 = w' := by
  refine Rt.enter1 Tryz.func20 Tryz.ntmps20 rfl rfl ?_
  (repeat (first | (apply WL.pure; rfl; rfl; rfl) | (apply WL.nil) | (apply EX.thenN) | (apply CW.seq) | (apply CW.region) | (apply CW.ret)))
  exact EX.ret1 rfl rfl ⟨rfl, rfl⟩
theorem rpart1_ok (w0 : World) {no : Option Addr} {nc b3 b7 : Nat} {nms : List ByteArray} {s : Bool} (hn : Sl w0 (Old w0) no nc nms) (h3 : Blk w0 b3 34 [.slice no nms.length nc]) (h7 : Blk w0 b7 4 [.bool s]) (n : Int) :
    Rt Tryz.prog 43 [.int .i64 n, .pointer (some ⟨b3, 0, none⟩), .pointer (some ⟨b7, 0, none⟩)].toArray w0 fun v w' => v = .bool (rnmL nms n s == []) ∧ Ext w0 w' := by
  refine Rt.enter3 Tryz.func43 Tryz.ntmps43 rfl rfl ?_
  (repeat (first | (apply WL.pure; rfl; rfl; rfl) | (apply WL.nil) | (apply EX.thenN) | (apply CW.seq) | (apply CW.region) | (apply WL.ld; rfl; rfl; rfl; assumption; rfl)))
  refine WL.call rfl rfl rfl (rname_ok w0 hn n s) ?_
  rintro _ w1 ⟨rfl, e1⟩
  (repeat (first | (apply WL.pure; rfl; rfl; rfl) | (apply WL.nil) | (apply EX.thenN) | (apply CW.ret)))
  exact EX.ret1 rfl rfl ⟨by rw [show (txA (rnmL nms n s)).data.toList = rnmL nms n s from txA_list _], e1⟩
set_option maxHeartbeats 1000000 in
theorem atoms_ok (w0 : World) (pt : LPat) : Rt Tryz.prog 13 [patV pt].toArray w0 fun v w' => (∃ u1 u2, v = .tuple ⟨[u1, u2]⟩ ∧ Own w' w0.heap.size 3 Non u1 (ownA pt) ∧ Own w' w0.heap.size 3 Non u2 (scopeA pt)) ∧ Ext w0 w' := by
  obtain ⟨k, sc, P, S, Q, R, c⟩ := pt
  refine Rt.enter1 Tryz.func13 Tryz.ntmps13 rfl rfl ?_
  (repeat (first | (apply CW.seq) | (apply CW.region)))
  refine WL.boxB rfl rfl rfl fun w1 hb e1 => ?_
  (repeat (first | (apply WL.pure; rfl; rfl; rfl) | (apply WL.nil) | (apply EX.thenN) | (apply CW.seq) | (apply CW.region) | (apply WL.fa; rfl; rfl; rfl) | (apply WL.ld; rfl; rfl; rfl; assumption; rfl)))
  refine WL.lit (F := Non) (ys := [P]) rfl rfl rfl rfl rfl ⟨Rd.mkInt _ _ _, trivial⟩ (by show 1 * 1 ≤ 16777216; decide) (fun _ h => h.elim) (fun w2 ho2 hg2 => ?_)
  have e2 : Ext w1 w2 := (Below.refl _ _).grown hg2 (Nat.le_refl _) (fun k h => by cases h)
  have hb2 := hb.ext e2
  have hE2 := e1.trans e2
  have z1 := e1.size
  generalize hov : Value.slice (some ⟨w1.heap.size, 0, none⟩) 1 1 = ov at *
  (repeat (apply WL.pure; rfl; rfl; rfl))
  apply WL.nil
  apply EX.thenN
  refine CW.cutI (S := Value) (fun v => [(1, .pointer (some ⟨w0.heap.size, 0, none⟩)), (2, v), (3, .slice none 0 0)])
    (fun v w => Own w w0.heap.size 3 Non v (ownA (k, sc, P, S, Q, R, c)) ∧ Blk w w0.heap.size 23 [.int .i64 k, .int .i64 sc, .int .i64 P, .int .i64 S, .int .i64 Q, .int .i64 R, .int .i64 c] ∧ Ext w0 w) ?_ ?_
  · (repeat (first | (apply WL.pure; rfl; rfl; rfl) | (apply CW.seq) | (apply CW.region) | (apply WL.fa; rfl; rfl; rfl) | (apply WL.ld; rfl; rfl; rfl; assumption; rfl)))
    have hyes : (k = 5 ∨ k = 6) → ownA (k, sc, P, S, Q, R, c) = [S, P] := fun h => by unfold ownA; rw [if_pos h]
    have hno : ¬ (k = 5 ∨ k = 6) → ownA (k, sc, P, S, Q, R, c) = [P] := fun h => by unfold ownA; rw [if_neg h]
    (refine WL.lookG rfl rfl (fun h => ?_) (fun h => ?_))
    · (repeat (first | (apply WL.pure; rfl; rfl; rfl) | (apply WL.nil) | (apply EX.thenN) | (apply CW.region) | (apply WL.pass; rfl; rfl) | (apply WL.fa; rfl; rfl; rfl) | (apply WL.ld; rfl; rfl; rfl; assumption; rfl) | (apply CW.condT; rfl)))
      refine WL.lit (F := Non) (ys := [S, P]) rfl rfl rfl rfl rfl ⟨Rd.mkInt _ _ _, Rd.mkInt _ _ _, trivial⟩ (by show 2 * 1 ≤ 16777216; decide) (fun _ h => h.elim) (fun w3 ho3 hg3 => ?_)
      have e3 : Ext w2 w3 := (Below.refl _ _).grown hg3 (Nat.le_refl _) (fun k h => by cases h)
      (repeat (first | (apply WL.pure; rfl; rfl; rfl) | (apply WL.nil)))
      exact EX.cutI _ (by repeat (first | exact trivial | refine ⟨rfl, ?_⟩)) ⟨by rw [hyes (.inl (by simpa using h))]; exact ho3.low hE2.size, hb2.ext e3, hE2.trans e3⟩
    · have h5 : ¬ k = 5 := by simpa using h
      (repeat (first | (apply WL.pure; rfl; rfl; rfl) | (apply WL.nil) | (apply EX.thenN) | (apply WL.fa; rfl; rfl; rfl) | (apply WL.ld; rfl; rfl; rfl; assumption; rfl)))
      refine CW.cond rfl (fun h => ?_) (fun h => ?_)
      · have h6 : k = 6 := by simpa using h
        (repeat (first | (apply CW.region) | (apply WL.fa; rfl; rfl; rfl) | (apply WL.ld; rfl; rfl; rfl; assumption; rfl)))
        refine WL.lit (F := Non) (ys := [S, P]) rfl rfl rfl rfl rfl ⟨Rd.mkInt _ _ _, Rd.mkInt _ _ _, trivial⟩ (by show 2 * 1 ≤ 16777216; decide) (fun _ h => h.elim) (fun w3 ho3 hg3 => ?_)
        have e3 : Ext w2 w3 := (Below.refl _ _).grown hg3 (Nat.le_refl _) (fun k h => by cases h)
        (repeat (first | (apply WL.pure; rfl; rfl; rfl) | (apply WL.nil)))
        exact EX.cutI _ (by repeat (first | exact trivial | refine ⟨rfl, ?_⟩)) ⟨by rw [hyes (.inr h6)]; exact ho3.low hE2.size, hb2.ext e3, hE2.trans e3⟩
      · have h6 : ¬ k = 6 := by simpa using h
        (repeat (apply CW.skip))
        exact EX.cutI ov (by repeat (first | exact trivial | refine ⟨rfl, ?_⟩)) ⟨by rw [hno (by omega)]; exact ho2.low z1, hb2, hE2⟩
  clear ho2 hg2 hb2 hE2 e2 hov ov hb e1 z1
  rintro ov w2 ⟨ho2, hb2, hE2⟩
  refine CW.cutI (S := Value) (fun v => [(2, ov), (3, v)]) (fun v w => Own w w0.heap.size 3 Non ov (ownA (k, sc, P, S, Q, R, c)) ∧ Own w w0.heap.size 3 Non v (scopeA (k, sc, P, S, Q, R, c)) ∧ Ext w0 w) ?_ ?_
  · (repeat (first | (apply WL.pure; rfl; rfl; rfl) | (apply WL.nil) | (apply EX.thenN) | (apply CW.seq) | (apply CW.region) | (apply WL.fa; rfl; rfl; rfl) | (apply WL.ld; rfl; rfl; rfl; assumption; rfl) | (apply CW.block)))
    refine CW.cond rfl (fun h => ?_) (fun h => ?_)
    · have h2 : sc = 2 := by simpa using h
      (repeat (first | (apply CW.region) | (apply WL.fa; rfl; rfl; rfl) | (apply WL.ld; rfl; rfl; rfl; assumption; rfl)))
      refine WL.lit (F := Non) (ys := [R]) rfl rfl rfl rfl rfl ⟨Rd.mkInt _ _ _, trivial⟩ (by show 1 * 1 ≤ 16777216; decide) (fun _ h => h.elim) (fun w3 ho3 hg3 => ?_)
      have e3 : Ext w2 w3 := (Below.refl _ _).grown hg3 (Nat.le_refl _) (fun k h => by cases h)
      (repeat (first | (apply WL.pure; rfl; rfl; rfl) | (apply WL.nil) | (apply EX.inN)))
      exact EX.cutI _ (by repeat (first | exact trivial | refine ⟨rfl, ?_⟩)) ⟨ho2.extN e3, by unfold scopeA; rw [if_pos h2]; exact ho3.low hE2.size, hE2.trans e3⟩
    have h2 : ¬ sc = 2 := by simpa using h
    clear h
    (repeat (first | (apply WL.pure; rfl; rfl; rfl) | (apply WL.nil) | (apply EX.thenN) | (apply CW.seq) | (apply CW.region)))
    refine CW.cond rfl (fun h => ?_) (fun h => ?_)
    · have h3 : sc = 3 := by simpa using h
      (repeat (first | (apply CW.region) | (apply WL.fa; rfl; rfl; rfl) | (apply WL.ld; rfl; rfl; rfl; assumption; rfl)))
      refine WL.lit (F := Non) (ys := [Q]) rfl rfl rfl rfl rfl ⟨Rd.mkInt _ _ _, trivial⟩ (by show 1 * 1 ≤ 16777216; decide) (fun _ h => h.elim) (fun w3 ho3 hg3 => ?_)
      have e3 : Ext w2 w3 := (Below.refl _ _).grown hg3 (Nat.le_refl _) (fun k h => by cases h)
      (repeat (first | (apply WL.pure; rfl; rfl; rfl) | (apply WL.nil) | (apply EX.inN)))
      exact EX.cutI _ (by repeat (first | exact trivial | refine ⟨rfl, ?_⟩)) ⟨ho2.extN e3, by unfold scopeA; rw [if_neg h2, if_pos h3]; exact ho3.low hE2.size, hE2.trans e3⟩
    have h3 : ¬ sc = 3 := by simpa using h
    clear h
    refine CW.cut [(1, .pointer (some ⟨w0.heap.size, 0, none⟩)), (2, ov), (3, .slice none 0 0), (32, .bool (decide (sc = 4 ∨ sc = 5)))] ?_ ?_
    · (repeat (first | (apply WL.pure; rfl; rfl; rfl) | (apply WL.nil) | (apply EX.thenN) | (apply CW.seq) | (apply CW.region)))
      refine CW.cond rfl (fun h => ?_) (fun h => ?_)
      · (repeat (apply CW.skip))
        refine EX.cut ⟨rfl, rfl, rfl, ?_, trivial⟩
        refine congrArg (fun b => some (Value.bool b)) ?_
        have : sc = 4 := by simpa using h
        simp [this]
      · (repeat (first | (apply WL.pure; rfl; rfl; rfl) | (apply WL.nil) | (apply CW.region)))
        refine EX.cut ⟨rfl, rfl, rfl, ?_, trivial⟩
        refine congrArg (fun b => some (Value.bool b)) ?_
        have : ¬ sc = 4 := by simpa using h
        rw [Bool.eq_iff_iff]; simp [this]
    refine CW.cond rfl (fun h => ?_) (fun h => ?_)
    · have h4 : sc = 4 ∨ sc = 5 := by simpa using h
      (repeat (first | (apply CW.region) | (apply WL.fa; rfl; rfl; rfl) | (apply WL.ld; rfl; rfl; rfl; assumption; rfl)))
      refine WL.lit (F := Non) (ys := [Q, R]) rfl rfl rfl rfl rfl ⟨Rd.mkInt _ _ _, Rd.mkInt _ _ _, trivial⟩ (by show 2 * 1 ≤ 16777216; decide) (fun _ h => h.elim) (fun w3 ho3 hg3 => ?_)
      have e3 : Ext w2 w3 := (Below.refl _ _).grown hg3 (Nat.le_refl _) (fun k h => by cases h)
      (repeat (first | (apply WL.pure; rfl; rfl; rfl) | (apply WL.nil) | (apply EX.inN)))
      exact EX.cutI _ (by repeat (first | exact trivial | refine ⟨rfl, ?_⟩)) ⟨ho2.extN e3, by unfold scopeA; rw [if_neg h2, if_neg h3, if_pos h4]; exact ho3.low hE2.size, hE2.trans e3⟩
    · have h4 : ¬ (sc = 4 ∨ sc = 5) := by simpa using h
      (repeat (first | (apply EX.inN) | (apply CW.skip)))
      exact EX.cutI _ (by repeat (first | exact trivial | refine ⟨rfl, ?_⟩)) ⟨ho2, by unfold scopeA; rw [if_neg h2, if_neg h3, if_neg h4]; exact Own.nil, hE2⟩
  rintro v w3 ⟨ho3, hv3, hE3⟩
  (repeat (first | (apply WL.pure; rfl; rfl; rfl) | (apply WL.nil) | (apply EX.thenN) | (apply CW.seq) | (apply CW.region) | (apply CW.ret)))
  exact EX.ret2 rfl rfl rfl ⟨⟨_, _, rfl, ho3, hv3⟩, hE3⟩
end Go.Proofs.YtikigaeihdmcaaaGreatDoor

