import Derived.Shelf.Strings.Split
import Derived.Shelf.Small.Wraps
import Derived.Test.YtikigaeihdmcaaaGreatDoorPtReportLines3
/-
  Texts of formulas of one way: what is printed, what is read: plain.
-/
set_option linter.unusedVariables false
set_option linter.unusedSimpArgs false
namespace Go.Proofs.YtikigaeihdmcaaaGreatDoor

abbrev Bys := List UInt8
/-- the next token of what is left, and what is left behind it -/
def nxT (r : Bys) : Bys × Bys :=
  match r.dropWhile (fun c => c == 32) with
  | [] => ([], [])
  | c :: t => if lowB c = true then ((c :: t).takeWhile lowB, (c :: t).dropWhile lowB) else match t with
    | [] => ([c], [])
    | d :: u => if (c == 45 && d == 62) = true then ([c, d], u) else ([c], d :: u)
theorem nxT_nil : nxT [] = ([], []) := rfl
theorem nxT_sp (r : Bys) : nxT (32 :: r) = nxT r := by
  unfold nxT
  rw [show List.dropWhile (fun c : UInt8 => c == 32) (32 :: r) = List.dropWhile (fun c : UInt8 => c == 32) r from by simp [List.dropWhile]]
def stopT (r : Bys) : Prop := ∀ c, r.head? = some c → lowB c = false
theorem low_sp : ∀ c : UInt8, lowB c = true → (c == 32) = false := by
  intro c h
  rw [← Bool.not_eq_true]
  intro e
  have : c = 32 := by simpa using e
  subst this
  revert h; decide
theorem takeW_all {l r : Bys} (h : ∀ c ∈ l, lowB c = true) (hr : stopT r) : (l ++ r).takeWhile lowB = l ∧ (l ++ r).dropWhile lowB = r := by
  induction l with
  | nil =>
    cases r with
    | nil => exact ⟨rfl, rfl⟩
    | cons c t =>
      have := hr c rfl
      simp [List.takeWhile, List.dropWhile, this]
  | cons c l ih =>
    have hc := h c (by simp)
    have := ih (fun d hd => h d (by simp [hd]))
    simp only [List.cons_append, List.takeWhile, List.dropWhile, hc]
    exact ⟨by rw [this.1], this.2⟩
theorem nxT_word {l r : Bys} (h : ∀ c ∈ l, lowB c = true) (hn : l ≠ []) (hr : stopT r) : nxT (l ++ r) = (l, r) := by
  cases l with
  | nil => exact absurd rfl hn
  | cons c l =>
    have hc := h c (by simp)
    have hd : ((c :: l) ++ r).dropWhile (fun c => c == 32) = c :: (l ++ r) := by simp [List.dropWhile, low_sp c hc]
    unfold nxT
    rw [hd]
    simp only [hc, if_true]
    have := takeW_all (l := c :: l) h hr
    rw [List.cons_append] at this
    rw [this.1, this.2]
theorem nxT_sym {c : UInt8} {r : Bys} (h : lowB c = false) (h1 : (c == 32) = false) (h2 : (c == 45) = false) : nxT (c :: r) = ([c], r) := by
  unfold nxT
  rw [show List.dropWhile (fun c : UInt8 => c == 32) (c :: r) = c :: r from by simp [List.dropWhile, h1]]
  simp only [h]
  cases r with
  | nil => rfl
  | cons d u => simp [h2]
theorem nxT_len (r : Bys) : (nxT r).1.length + (nxT r).2.length ≤ r.length := by
  have h0 : (r.dropWhile (fun c => c == 32)).length ≤ r.length := by
    have := congrArg List.length (List.takeWhile_append_dropWhile (p := fun c : UInt8 => c == 32) (l := r))
    rw [List.length_append] at this; omega
  unfold nxT
  revert h0
  generalize r.dropWhile (fun c => c == 32) = q
  intro h0
  cases q with
  | nil => simp
  | cons c t =>
    dsimp only
    split
    · have := congrArg List.length (List.takeWhile_append_dropWhile (p := lowB) (l := c :: t))
      rw [List.length_append] at this
      dsimp only
      omega
    · cases t with
      | nil => simp at h0 ⊢; omega
      | cons d u =>
        dsimp only
        split <;> (simp only [List.length_cons, List.length_nil] at h0 ⊢; omega)
def tTrue : Bys := [116, 114, 117, 101]
def tFalse : Bys := [102, 97, 108, 115, 101]
def tSil : Bys := [115, 105, 108, 101, 110, 116]
/-- a name's place -/
def idxB (nms : List ByteArray) (l : Bys) : Int := match nms.findIdx? (fun x => x.data.toList == l) with
  | some i => (i : Int)
  | none => -1
/-- the name of an atom; none: it has no one -/
def nmL (nms : List ByteArray) (n : Int) : Bys :=
  if n = 63 then tSil else if n ≥ (nms.length : Int) then [] else if namedB (nms.getD n.toNat ⟨#[]⟩) = false then []
  else if idxB nms (nms.getD n.toNat ⟨#[]⟩).data.toList ≠ n then [] else (nms.getD n.toNat ⟨#[]⟩).data.toList
theorem named_low {l : Bys} (h : namedL l = true) : ∀ c ∈ l, lowB c = true := by
  unfold namedL at h
  simp only [Bool.and_eq_true] at h
  exact List.all_eq_true.1 h.2
theorem named_ne {l : Bys} (h : namedL l = true) : l ≠ [] ∧ l ≠ tTrue ∧ l ≠ tFalse ∧ l ≠ tSil ∧ l.length ≤ 8 := by
  unfold namedL at h
  simp only [Bool.and_eq_true, Bool.not_eq_true', beq_eq_false_iff_ne, decide_eq_false_iff_not] at h
  obtain ⟨⟨⟨⟨⟨h1, h2⟩, h3⟩, h4⟩, h5⟩, _⟩ := h
  exact ⟨h1, h3, h4, h5, by omega⟩
theorem nmL_ok {nms : List ByteArray} {n : Int} (h0 : 0 ≤ n) (h : nmL nms n ≠ []) : (n = 63 ∧ nmL nms n = tSil) ∨ (n ≠ 63 ∧ namedL (nmL nms n) = true ∧ idxB nms (nmL nms n) = n) := by
  unfold nmL at h ⊢
  by_cases e : n = 63
  · left; exact ⟨e, if_pos e⟩
  · right
    rw [if_neg e] at h ⊢
    by_cases e1 : n ≥ (nms.length : Int)
    · rw [if_pos e1] at h; exact absurd rfl h
    rw [if_neg e1] at h ⊢
    by_cases e2 : namedB (nms.getD n.toNat ⟨#[]⟩) = false
    · rw [if_pos e2] at h; exact absurd rfl h
    rw [if_neg e2] at h ⊢
    by_cases e3 : idxB nms (nms.getD n.toNat ⟨#[]⟩).data.toList ≠ n
    · rw [if_pos e3] at h; exact absurd rfl h
    rw [if_neg e3]
    exact ⟨e, by simpa using e2, by simpa using e3⟩
theorem nmL_len (nms : List ByteArray) (n : Int) : (nmL nms n).length ≤ 8 := by
  unfold nmL
  split
  · decide
  split
  · simp
  split
  · simp
  rename_i h
  split
  · simp
  exact (named_ne (l := (nms.getD n.toNat ⟨#[]⟩).data.toList) (by simpa using h)).2.2.2.2
theorem nmL_low {nms : List ByteArray} {n : Int} (h0 : 0 ≤ n) (h : nmL nms n ≠ []) : ∀ c ∈ nmL nms n, lowB c = true := by
  rcases nmL_ok h0 h with ⟨_, e⟩ | ⟨_, e, _⟩
  · rw [e]; decide
  · exact named_low e

/- PRINTED -/
def bareL (k i kid : Int) : Bool := if kid = 5 then k == 6 || (k == 5 && i == 0) else if kid = 6 then k == 6 && i == 0 else if kid = 8 ∨ kid = 9 then k == kid && i == 1 else true
def kidT (b : Bool) (t : Bys) : Bys := if b = true then t else 40 :: (t ++ [41])
def sigL (k : Int) : Bys := if k = 5 then [38] else if k = 6 then [47] else if k = 8 then [85] else if k = 9 then [82] else []
def joinL (nm : Int → Bys) (k n : Int) (ks : List (Int × Bys)) : Bys :=
  if k = 1 then tTrue else if k = 2 then tFalse else if k = 3 then nm n
  else if k = 4 then 33 :: kidT (bareL k 0 (ks.getD 0 (0, [])).1) (ks.getD 0 (0, [])).2
  else if k = 7 then 88 :: 32 :: kidT (bareL k 0 (ks.getD 0 (0, [])).1) (ks.getD 0 (0, [])).2
  else if k = 10 then 70 :: 32 :: kidT (bareL k 0 (ks.getD 0 (0, [])).1) (ks.getD 0 (0, [])).2
  else if k = 11 then 71 :: 32 :: kidT (bareL k 0 (ks.getD 0 (0, [])).1) (ks.getD 0 (0, [])).2
  else kidT (bareL k 0 (ks.getD 0 (0, [])).1) (ks.getD 0 (0, [])).2 ++ [32] ++ sigL k ++ [32] ++ kidT (bareL k 1 (ks.getD 1 (0, [])).1) (ks.getD 1 (0, [])).2
mutual
def txtL (nm : Int → Bys) : Ltl → Bys
  | .mk k n kids => joinL nm k n (txtLs nm kids)
def txtLs (nm : Int → Bys) : List Ltl → List (Int × Bys)
  | [] => []
  | x :: r => (x.k, txtL nm x) :: txtLs nm r
end
mutual
def badF (nm : Int → Bys) : Ltl → Bool
  | .mk k n kids => (k == 3 && nm n == []) || badFs nm kids
def badFs (nm : Int → Bys) : List Ltl → Bool
  | [] => false
  | x :: r => badF nm x || badFs nm r
end
/-- what Print tells -/
def printL (f : Ltl) (nms : List ByteArray) : Bys × Int :=
  if (chkF f 1 0).1 ≠ 0 then ([], (chkF f 1 0).1) else if badF (nmL nms) f = true then ([], 4) else (txtL (nmL nms) f, 0)
theorem kidT_len (b : Bool) (t : Bys) : (kidT b t).length ≤ t.length + 2 := by
  unfold kidT; split <;> simp
theorem joinL_len {nm : Int → Bys} (hn : ∀ n, (nm n).length ≤ 8) (k n : Int) (ks : List (Int × Bys)) : (joinL nm k n ks).length ≤ (ks.getD 0 (0, [])).2.length + (ks.getD 1 (0, [])).2.length + 8 := by
  have h0 := kidT_len (bareL k 0 (ks.getD 0 (0, [])).1) (ks.getD 0 (0, [])).2
  have h1 := kidT_len (bareL k 1 (ks.getD 1 (0, [])).1) (ks.getD 1 (0, [])).2
  have h2 := hn n
  have h3 : (sigL k).length ≤ 1 := by unfold sigL; repeat (first | split | simp)
  unfold joinL tTrue tFalse
  iterate 7 (split; · (first | omega | (simp only [List.length_append, List.length_cons, List.length_nil]; omega)))
  simp only [List.length_append, List.length_cons, List.length_nil]
  omega
mutual
theorem txtL_len {nm : Int → Bys} (hn : ∀ n, (nm n).length ≤ 8) : ∀ f : Ltl, (txtL nm f).length ≤ 8 * f.nodes
  | .mk k n kids => by
    have h := joinL_len hn k n (txtLs nm kids)
    have h2 := txtLs_len hn kids
    simp only [txtL, Ltl.nodes]
    have : ((txtLs nm kids).getD 0 (0, [])).2.length + ((txtLs nm kids).getD 1 (0, [])).2.length ≤ ((txtLs nm kids).map fun x => x.2.length).sum := by
      rcases txtLs nm kids with _ | ⟨a, _ | ⟨b, r⟩⟩ <;> simp <;> omega
    omega
theorem txtLs_len {nm : Int → Bys} (hn : ∀ n, (nm n).length ≤ 8) : ∀ l : List Ltl, ((txtLs nm l).map fun x => x.2.length).sum ≤ 8 * Ltl.nodesL l
  | [] => by simp [txtLs, Ltl.nodesL]
  | x :: r => by
    have h1 := txtL_len hn x
    have h2 := txtLs_len hn r
    simp only [txtLs, Ltl.nodesL, List.map_cons, List.sum_cons]
    omega
end
/- READ -/
inductive PR where
  | er (c : Int) (a : Nat) : PR
  | ok (f : Ltl) (st : Bys × Bys) : PR
def atT (N : Nat) (st : Bys × Bys) : Nat := N - st.2.length - st.1.length
def preK (t : Bys) : Int := if t = [33] then 4 else if t = [88] then 7 else if t = [70] then 10 else if t = [71] then 11 else 0
def wordR (nms : List ByteArray) (N : Nat) (st : Bys × Bys) : PR :=
  if st.1 = tTrue then .ok (.mk 1 0 []) (nxT st.2) else if st.1 = tFalse then .ok (.mk 2 0 []) (nxT st.2) else if st.1 = tSil then .ok (.mk 3 63 []) (nxT st.2)
  else if idxB nms st.1 < 0 ∨ idxB nms st.1 ≥ 63 ∨ namedL st.1 = false then .er 4 (atT N st) else .ok (.mk 3 (idxB nms st.1) []) (nxT st.2)
def arrows (left : List Ltl) (f : Ltl) : Ltl := left.foldr (fun g f => .mk 6 0 [.mk 4 0 [g], f]) f
def sgR (lv : Bool) : Bys := if lv = true then [47] else [38]
def knR (lv : Bool) : Int := if lv = true then 6 else 5
mutual
def szF : Ltl → Int → Int
  | .mk _ _ kids, n => szFs kids (n + 1)
def szFs : List Ltl → Int → Int
  | [], n => n
  | x :: r, n => if n > 60 then n else szFs r (szF x n)
end
def wayT (s : Bys) (f g : Ltl) : Ltl :=
  if s = [85] then .mk 8 0 [f, g] else if s = [82] then .mk 9 0 [f, g] else .mk 9 0 [g, .mk 6 0 [f, if szF g 0 ≤ 60 then g else .mk 1 0 []]]
mutual
def pFor (nms : List ByteArray) (N : Nat) : Nat → Nat → List Ltl → Bys × Bys → PR
  | 0, _, _, _ => .er 3 0
  | n + 1, o, left, st => match pRow nms N n true o st with
    | .er c a => .er c a
    | .ok f st' => if st'.1 = [45, 62] then pFor nms N n o (left ++ [f]) (nxT st'.2) else .ok (arrows left f) st'
def pRow (nms : List ByteArray) (N : Nat) : Nat → Bool → Nat → Bys × Bys → PR
  | 0, _, _, _ => .er 3 0
  | n + 1, lv, o, st => match pPart nms N n lv o st with
    | .er c a => .er c a
    | .ok f st' => pRowL nms N n lv o f st'
def pRowL (nms : List ByteArray) (N : Nat) : Nat → Bool → Nat → Ltl → Bys × Bys → PR
  | 0, _, _, _, _ => .er 3 0
  | n + 1, lv, o, f, st => if st.1 = sgR lv then match pPart nms N n lv o (nxT st.2) with
      | .er c a => .er c a
      | .ok g st' => pRowL nms N n lv o (.mk (knR lv) 0 [f, g]) st'
    else .ok f st
def pPart (nms : List ByteArray) (N : Nat) : Nat → Bool → Nat → Bys × Bys → PR
  | 0, _, _, _ => .er 3 0
  | n + 1, true, o, st => pRow nms N n false o st
  | n + 1, false, o, st => pWay nms N n o st
def pWay (nms : List ByteArray) (N : Nat) : Nat → Nat → Bys × Bys → PR
  | 0, _, _ => .er 3 0
  | n + 1, o, st => match pSin nms N n o st with
    | .er c a => .er c a
    | .ok f st' => if st'.1 = [85] ∨ st'.1 = [82] ∨ st'.1 = [87] then match pWay nms N n o (nxT st'.2) with
        | .er c a => .er c a
        | .ok g st2 => .ok (wayT st'.1 f g) st2
      else .ok f st'
def pSin (nms : List ByteArray) (N : Nat) : Nat → Nat → Bys × Bys → PR
  | 0, _, _ => .er 3 0
  | n + 1, o, st => if 0 < preK st.1 then if o = 20 then .er 5 (atT N st) else match pSin nms N n (o + 1) (nxT st.2) with
        | .er c a => .er c a
        | .ok f st' => .ok (.mk (preK st.1) 0 [f]) st'
    else if st.1 = [40] then if o = 20 then .er 5 (atT N st) else match pFor nms N n (o + 1) [] (nxT st.2) with
        | .er c a => .er c a
        | .ok f st' => if st'.1 = [41] then .ok f (nxT st'.2) else .er 3 (atT N st')
    else if st.1 = [] ∨ lowB (st.1.headD 0) = false then .er 3 (atT N st)
    else wordR nms N st
end
/-- what Parse tells -/
def parseL (s : Bys) (nms : List ByteArray) : Ltl × Nat × Int :=
  if s.length > 300 then (.mk 0 0 [], 0, 2) else match pFor nms s.length (10 * s.length + 20) 0 [] (nxT s) with
    | .er c a => (.mk 0 0 [], a, c)
    | .ok f st => if st.1 ≠ [] then (.mk 0 0 [], atT s.length st, 3) else if (chkF f 1 0).1 ≠ 0 then (.mk 0 0 [], s.length, (chkF f 1 0).1) else (f, 0, 0)
end Go.Proofs.YtikigaeihdmcaaaGreatDoor

/-
  Texts: length, one byte.
-/
set_option linter.unusedVariables false
set_option linter.unusedSimpArgs false
namespace Go.Proofs.YtikigaeihdmcaaaGreatDoor
open Go.RowKit

class IsStr (P : Program) (t : TypeId) : Prop where
  ok : P.underlying t = some .string
instance iStrg1 : IsStr Tryz.prog 9 := ⟨Tryz.underlying9⟩
section
variable {P : Program} {Q : Exit → Act → World → Prop} {n : Nat} {σ : Sg} {w : World} {L rest : List Oper} {d : Nat} {op : Op} {ty : TypeId} {pos : String} {af : Array Edge} {g : Option (Nat × Bool)} {t : TypeId} {x ix : Operand}
/-- len(s), a text -/
theorem WL.lenT {s : ByteArray} (hg : gd L σ ⟨some d, .call ⟨.builtin .len, #[x], #[t]⟩, ty, pos, af, g⟩ = some true) (hd : Nat.ble (d + 1) n = true)
    (hx : ev σ x = some (.string s)) [hs : IsStr P t] (h : WL P L Q rest n ((d, .int .i64 (s.size : Int)) :: σ) w) : WL P L Q (⟨some d, .call ⟨.builtin .len, #[x], #[t]⟩, ty, pos, af, g⟩ :: rest) n σ w := by
  refine WL.run hg hd (fun a ha => ?_) h
  simp [execOp, resolve, invoke, builtin, ha.ev hx, Builtin.len_, run_underlying hs.ok, goInt]
theorem QL.lenT {s : ByteArray} (hg : gd L σ ⟨some d, .call ⟨.builtin .len, #[x], #[t]⟩, ty, pos, af, g⟩ = some true) (hd : Nat.ble (d + 1) n = true)
    (hx : ev σ x = some (.string s)) [hs : IsStr P t] (h : QL P L w Q rest n ((d, .int .i64 (s.size : Int)) :: σ)) : QL P L w Q (⟨some d, .call ⟨.builtin .len, #[x], #[t]⟩, ty, pos, af, g⟩ :: rest) n σ := by
  refine QL.run hg hd (fun a ha _ _ => ?_) h
  simp [execOp, resolve, invoke, builtin, ha.ev hx, Builtin.len_, run_underlying hs.ok, goInt]
/-- s[i] -/
theorem WL.byteT {s : ByteArray} {i : Nat} {kd : IntKind} (hg : gd L σ ⟨some d, .index t x ix, ty, pos, af, g⟩ = some true) (hd : Nat.ble (d + 1) n = true)
    (hx : ev σ x = some (.string s)) (hi : ev σ ix = some (.int kd (i : Int))) [hs : IsStr P t] (h1 : i < s.size) (h : WL P L Q rest n ((d, .int .u8 ((s[i]).toNat : Int)) :: σ) w) : WL P L Q (⟨some d, .index t x ix, ty, pos, af, g⟩ :: rest) n σ w := by
  refine WL.run hg hd (fun a ha => ?_) h
  have e : s[i]? = some s[i] := by simp [h1]
  simp [execOp, ha.ev hx, ha.ev hi, Instr.index, asIntOf, run_underlying hs.ok, e]
end
end Go.Proofs.YtikigaeihdmcaaaGreatDoor

/-
  Contracts of the generic functions of package slices, at the types where the program uses them.
-/
set_option linter.unusedVariables false
namespace Go.Proofs.YtikigaeihdmcaaaGreatDoor
open Go.RowKit

/-- the place of the first one that is so; -1: none is -/
def idxOf {α : Type} (p : α → Bool) (xs : List α) : Int := match xs.findIdx? p with | some i => (i : Int) | none => -1
theorem idxOf_here {α : Type} {p : α → Bool} {xs : List α} {k : Nat} (hk : k < xs.length) (hn : ∀ j (h : j < xs.length), j < k → p xs[j] = false) (hp : p xs[k] = true) : idxOf p xs = k := by
  have : xs.findIdx? p = some k := by
    rw [List.findIdx?_eq_some_iff_getElem]
    exact ⟨hk, hp, fun j hj => by simp [hn j (by omega) hj]⟩
  simp [idxOf, this]
theorem idxOf_none {α : Type} {p : α → Bool} {xs : List α} (hn : ∀ j (h : j < xs.length), p xs[j] = false) : idxOf p xs = -1 := by
  have : xs.findIdx? p = none := by
    rw [List.findIdx?_eq_none_iff]
    intro x hx
    obtain ⟨j, hj, rfl⟩ := List.mem_iff_getElem.1 hx
    exact hn j hj
  simp [idxOf, this]
theorem idxOf_any {α : Type} (p : α → Bool) (xs : List α) : decide (idxOf p xs ≥ 0) = xs.any p := by
  unfold idxOf
  cases h : xs.findIdx? p with
  | none =>
    rw [List.findIdx?_eq_none_iff] at h
    have : xs.any p = false := by rw [List.any_eq_false]; intro x hx; simp [h x hx]
    rw [this]; rfl
  | some i =>
    obtain ⟨h1, h2, _⟩ := List.findIdx?_eq_some_iff_getElem.1 h
    have : xs.any p = true := List.any_eq_true.2 ⟨xs[i], List.getElem_mem _, h2⟩
    rw [this]; simp

theorem indexFunc_int (w0 : World) {ao : Option Addr} {cap : Nat} {xs : List Int} {fv : Value} (p : Int → Bool) (hs : Sl w0 (Old w0) ao cap xs)
    (hf : ∀ w, Ext w0 w → ∀ i (h : i < xs.length), FnV Tryz.prog fv [.int .i64 xs[i]] w fun v w' => v = .bool (p xs[i]) ∧ Ext w w') :
    Rt Tryz.prog 60 [.slice ao xs.length cap, fv].toArray w0 fun v w' => v = .int .i64 (idxOf p xs) ∧ Ext w0 w' := by
  have hm := hs.len63
  refine Rt.enter2 Tryz.func60 Tryz.ntmps60 rfl rfl ?_
  (repeat (first | (apply WL.pure; rfl; rfl; rfl) | (apply WL.nil) | (apply EX.thenN) | (apply CW.seq) | (apply CW.region) | (apply WL.lenS; rfl; rfl; rfl) | (apply CW.block)))
  refine CW.loop (S := Nat) (fun k => [(0, .slice ao xs.length cap), (1, fv), (7, .int .i64 xs.length), (8, .int .i64 k)])
    (fun k w => k ≤ xs.length ∧ Ext w0 w ∧ ∀ j (h : j < xs.length), j < k → p xs[j] = false) (fun k => xs.length - k) 0 (by repeat (first | exact trivial | refine ⟨rfl, ?_⟩)) ⟨by omega, Ext.refl _, by omega⟩ ?_
  rintro k w ⟨hk, hB, hn⟩
  (repeat (first | (apply WL.pure; rfl; rfl; rfl) | (apply WL.nil) | (apply EX.thenN) | (apply CW.seq) | (apply CW.region)))
  refine CW.cond rfl (fun h => ?_) (fun h => ?_)
  · simp at h
    (repeat (first | (apply WL.pure; rfl; rfl; rfl) | (apply WL.nil) | (apply EX.thenN) | (apply CW.seq) | (apply CW.region) | (apply CW.block) | (apply CW.skip)))
    refine WL.elemI rfl rfl rfl rfl rfl (hs.at hB) h rfl (fun _ => rfl) (fun q => ?_)
    refine WL.callF rfl rfl rfl rfl (hf w hB k h) ?_
    rintro v w' ⟨rfl, hB'⟩
    (repeat (first | (apply WL.nil) | (apply EX.thenN)))
    refine CW.cond rfl (fun h' => ?_) (fun h' => ?_)
    · (repeat (first | (apply WL.pure; rfl; rfl; rfl) | (apply WL.nil) | (apply EX.thenN) | (apply CW.seq) | (apply CW.region) | (apply CW.ret) | (apply EX.thenR) | (apply EX.inR)))
      refine EX.ret1 rfl rfl ⟨?_, hB.trans hB'⟩
      rw [idxOf_here h hn h']
    · (repeat (first | (apply WL.add; rfl; rfl; rfl; rfl; omega; omega) | (apply WL.pure; rfl; rfl; rfl) | (apply WL.nil) | (apply EX.thenN) | (apply CW.region) | (apply EX.inN) | (apply CW.skip)))
      refine EX.back (k + 1) (by repeat (first | exact trivial | refine ⟨rfl, ?_⟩)) ⟨h, hB.trans hB', ?_⟩ (by omega)
      intro j hj hlt
      by_cases e : j = k
      · subst e; exact h'
      · exact hn j hj (by omega)
  · simp at h
    (repeat (first | (apply WL.pure; rfl; rfl; rfl) | (apply WL.nil) | (apply EX.thenN) | (apply CW.seq) | (apply CW.region) | (apply CW.exit) | (apply EX.thenX) | (apply EX.inX) | (apply CW.ret)))
    refine EX.ret1 rfl rfl ⟨?_, hB⟩
    rw [idxOf_none (fun j hj => hn j hj (by omega))]

theorem containsFunc_int (w0 : World) {ao : Option Addr} {cap : Nat} {xs : List Int} {fv : Value} (p : Int → Bool) (hs : Sl w0 (Old w0) ao cap xs)
    (hf : ∀ w, Ext w0 w → ∀ i (h : i < xs.length), FnV Tryz.prog fv [.int .i64 xs[i]] w fun v w' => v = .bool (p xs[i]) ∧ Ext w w') :
    Rt Tryz.prog 42 [.slice ao xs.length cap, fv].toArray w0 fun v w' => v = .bool (xs.any p) ∧ Ext w0 w' := by
  refine Rt.enter2 Tryz.func42 Tryz.ntmps42 rfl rfl ?_
  (repeat (first | (apply WL.pure; rfl; rfl; rfl) | (apply WL.nil) | (apply EX.thenN) | (apply CW.seq) | (apply CW.region)))
  refine WL.call rfl rfl rfl (indexFunc_int w0 p hs hf) ?_
  rintro v w' ⟨rfl, hB⟩
  (repeat (first | (apply WL.pure; rfl; rfl; rfl) | (apply WL.nil) | (apply EX.thenN) | (apply CW.ret)))
  refine EX.ret1 rfl rfl ⟨?_, hB⟩
  rw [← idxOf_any]

end Go.Proofs.YtikigaeihdmcaaaGreatDoor

/-
  Texts put together; a list of words that stands in an array. Over any program.
-/
set_option linter.unusedVariables false
set_option linter.unusedSimpArgs false
namespace Go.Proofs.YtikigaeihdmcaaaGreatDoor
open Go.RowKit

/-- a text by its bytes -/
def txA (l : List UInt8) : ByteArray := ⟨l.toArray⟩
theorem txA_list (l : List UInt8) : (txA l).data.toList = l := by simp [txA]
theorem txA_eta (s : ByteArray) : txA s.data.toList = s := by cases s; simp [txA]
theorem txA_app (a b : List UInt8) : txA a ++ txA b = txA (a ++ b) := by
  apply ByteArray.ext
  simp [txA, ByteArray.append]
theorem txA_size (l : List UInt8) : (txA l).size = l.length := by simp [txA, ByteArray.size]
abbrev tV (l : List UInt8) : Value := .string (txA l)
section
variable {P : Program} {Q : Exit → Act → World → Prop} {n : Nat} {σ : Sg} {w : World} {L rest : List Oper} {d : Nat} {op : Op} {ty : TypeId} {pos : String} {af : Array Edge} {g : Option (Nat × Bool)} {t yt : TypeId} {x y ix : Operand}
theorem run_cat {a b : List UInt8} (w : World) (h : a.length + b.length < 9223372036854775808) : ((do eqGuard .add t x y (tV a) (tV b); binOp .add t (tV a) (tV b) : Sem Value)).run P w = .ok (tV (a ++ b)) w := by
  have h1 : ((txA a).size : Int) + ((txA b).size : Int) ≤ 9223372036854775807 := by rw [txA_size, txA_size]; omega
  simp [eqGuard, binOp, Op.stringOp, h1, txA_app, show IntKind.i64.max = 9223372036854775807 by decide]
/-- a + b, texts -/
theorem WL.cat {a b : List UInt8} (hg : gd L σ ⟨some d, .binOp .add t x y yt, ty, pos, af, g⟩ = some true) (hd : Nat.ble (d + 1) n = true) (hx : ev σ x = some (tV a)) (hy : ev σ y = some (tV b)) (hl : a.length + b.length < 9223372036854775808)
    (h : WL P L Q rest n ((d, tV (a ++ b)) :: σ) w) : WL P L Q (⟨some d, .binOp .add t x y yt, ty, pos, af, g⟩ :: rest) n σ w := by
  refine WL.run hg hd (fun c hc => ?_) h
  simp only [execOp, hc.ev hx, hc.ev hy]
  rw [Sem.run_bind, run_cat w hl]; rfl
theorem QL.cat {a b : List UInt8} (hg : gd L σ ⟨some d, .binOp .add t x y yt, ty, pos, af, g⟩ = some true) (hd : Nat.ble (d + 1) n = true) (hx : ev σ x = some (tV a)) (hy : ev σ y = some (tV b)) (hl : a.length + b.length < 9223372036854775808)
    (h : QL P L w Q rest n ((d, tV (a ++ b)) :: σ)) : QL P L w Q (⟨some d, .binOp .add t x y yt, ty, pos, af, g⟩ :: rest) n σ := by
  refine QL.run hg hd (fun c hc w' _ => ?_) h
  simp only [execOp, hc.ev hx, hc.ev hy]
  rw [Sem.run_bind, run_cat w' hl]; rfl
theorem HL.cat {S : World → Prop} {ord : List (Nat × Bool)} {i : Nat} {a b : List UInt8} (ho : nthO L i = some ⟨some d, .binOp .add t x y yt, ty, pos, af, g⟩) (hg : gd L σ ⟨some d, .binOp .add t x y yt, ty, pos, af, g⟩ = some true) (hd : Nat.ble (d + 1) n = true)
    (hx : ev σ x = some (tV a)) (hy : ev σ y = some (tV b)) (hl : a.length + b.length < 9223372036854775808) (h : HL P L S Q ord n ((d, tV (a ++ b)) :: σ) w) : HL P L S Q ((i, true) :: ord) n σ w := by
  refine HL.run ho hg hd (fun c hc w' _ => ?_) h
  simp only [execOp, hc.ev hx, hc.ev hy]
  rw [Sem.run_bind, run_cat w' hl]; rfl
/-- an array type -/
class IsAr (P : Program) (t : TypeId) (k : outParam Nat) (e : outParam TypeId) : Prop where
  ok : P.underlying t = some (.array k e)
theorem fill_mono {p p' : Nat → Option (Nat × Nat)} (h : ∀ i q, p i = some q → p' i = some q) : ∀ (parts : List (Nat × Value)) (cells out : Array Value), Instr.fill p cells parts = some out → Instr.fill p' cells parts = some out
  | [], cells, out, e => e
  | (i, v) :: r, cells, out, e => by
    unfold Instr.fill at e ⊢
    cases hp : p i with
    | none => rw [hp] at e; cases e
    | some q =>
      obtain ⟨off, size⟩ := q
      rw [hp] at e
      rw [h i _ hp]
      dsimp only at e ⊢
      split at e
      · cases e
      · rename_i hc
        rw [if_neg hc]
        exact fill_mono h r _ out e
def placesA : Nat → Nat → List (Nat × Nat)
  | 0, _ => []
  | k + 1, o => (o, 1) :: placesA k (o + 1)
theorem placesA_get : ∀ (k o i : Nat) (q : Nat × Nat), (placesA k o)[i]? = some q → q = (o + i, 1)
  | 0, o, i, q, h => by simp [placesA] at h
  | k + 1, o, 0, q, h => by simp [placesA] at h; rw [← h]; rfl
  | k + 1, o, i + 1, q, h => by
    simp only [placesA, List.getElem?_cons_succ] at h
    rw [placesA_get k (o + 1) i q h, show o + 1 + i = o + (i + 1) by omega]
/-- an array's value, a word in each cell that is named -/
theorem WL.buildAr {parts : List (Nat × Operand)} {vs : List Value} {k : Nat} {e : TypeId} {zs out : List Value} (hg : gd L σ ⟨some d, .build t parts.toArray, ty, pos, af, g⟩ = some true) (hd : Nat.ble (d + 1) n = true)
    (hv : evs σ (sndL parts) = some vs) [hz : IsZC P t zs] [hp : IsAr P t k e] [hc : IsC P e 1 false] (hf : fillL (placesA k 0) zs ((parts.map (·.1)).zip vs) = some out)
    (h : WL P L Q rest n ((d, .agg out.toArray) :: σ) w) : WL P L Q (⟨some d, .build t parts.toArray, ty, pos, af, g⟩ :: rest) n σ w := by
  refine WL.run hg hd (fun a ha => ?_) h
  obtain ⟨i, z, hz1, hz2, hz3⟩ := hz.ok
  obtain ⟨j, dd, hc1, hc2, _, _⟩ := hc.ok
  have e1 := evs_eq ha (sndL parts) vs hv
  have e2 : (parts.toArray.map fun x => (x.1, a.eval x.2)).toList = (parts.map (·.1)).zip vs := by
    rw [← e1]
    clear hv hf hg h e1
    induction parts with
    | nil => simp [sndL]
    | cons p r ih => simpa [sndL] using ih
  have e3 := fill_mono (p' := fun i => some (i * 1, 1)) (fun i q hq => by
    have hq' : (placesA k 0)[i]? = some q := by simpa using hq
    rw [placesA_get k 0 i q hq']; simp) _ _ _ (fillL_eq (placesA k 0) _ _ _ hf)
  simp only [Nat.mul_one] at e3
  simp only [execOp, Instr.build, zeroValue, typeInfo, hz1, hz2, hz3, run_underlying hp.ok, sizeOf, hc1, hc2]
  simp [hz1, hz2, hz3, run_underlying hp.ok, hc1, hc2]
  simp at e2
  rw [e2, e3]
  rfl
/-- an array's cell -/
theorem WL.indexAr {k i : Nat} {e : TypeId} {kd : IntKind} {cells : List Value} {v : Value} (hg : gd L σ ⟨some d, .index t x ix, ty, pos, af, g⟩ = some true) (hd : Nat.ble (d + 1) n = true)
    (hx : ev σ x = some (.agg cells.toArray)) (hi : ev σ ix = some (.int kd (i : Int))) [ha : IsAr P t k e] [hc : IsC P e 1 false] (h1 : i < k) (hv : nthV cells i = some v)
    (h : WL P L Q rest n ((d, v) :: σ) w) : WL P L Q (⟨some d, .index t x ix, ty, pos, af, g⟩ :: rest) n σ w := by
  obtain ⟨j, dd, hc1, hc2, hc3, hc4⟩ := hc.ok
  rw [nthV_eq] at hv
  have hagg : (isAgg e).run P w = .ok false w := by
    unfold isAgg
    rw [Sem.run_bind, run_underlying hc3 w, ← hc4]
    cases dd <;> rfl
  have hv' : cells.toArray[i]? = some v := by simpa using hv
  refine WL.run hg hd (fun a ha0 => ?_) h
  simp [execOp, ha0.ev hx, ha0.ev hi, Instr.index, asIntOf, run_underlying ha.ok, h1, sizeOf, typeInfo, hc1, hc2, part, hagg, hv]
end
theorem index_str (w0 : World) {ao : Option Addr} {cap : Nat} {xs : List ByteArray} (x : ByteArray) (hs : Sl w0 (Old w0) ao cap xs) :
    Rt Tryz.prog 35 [.slice ao xs.length cap, .string x].toArray w0 fun v w' => v = .int .i64 (idxOf (fun y => x.data.toList == y.data.toList) xs) ∧ w0 = w' := by
  have hm := hs.len63
  refine Rt.enter2 Tryz.func35 Tryz.ntmps35 rfl rfl ?_
  (repeat (first | (apply WL.pure; rfl; rfl; rfl) | (apply WL.nil) | (apply EX.thenN) | (apply CW.seq) | (apply CW.region) | (apply WL.lenS; rfl; rfl; rfl) | (apply CW.block)))
  refine CW.loop (S := Nat) (fun k => [(0, .slice ao xs.length cap), (1, .string x), (7, .int .i64 xs.length), (8, .int .i64 k)])
    (fun k w => k ≤ xs.length ∧ w0 = w ∧ ∀ j (h : j < xs.length), j < k → (x.data.toList == xs[j].data.toList) = false) (fun k => xs.length - k) 0 (by repeat (first | exact trivial | refine ⟨rfl, ?_⟩)) ⟨by omega, rfl, by omega⟩ ?_
  rintro k w ⟨hk, rfl, hn⟩
  (repeat (first | (apply WL.pure; rfl; rfl; rfl) | (apply WL.nil) | (apply EX.thenN) | (apply CW.seq) | (apply CW.region)))
  refine CW.cond rfl (fun h => ?_) (fun h => ?_)
  · simp at h
    (repeat (first | (apply WL.pure; rfl; rfl; rfl) | (apply WL.nil) | (apply EX.thenN) | (apply CW.seq) | (apply CW.region) | (apply CW.block) | (apply CW.skip)))
    refine WL.elemN rfl rfl rfl rfl rfl hs h (fun _ => rfl) (fun u q hu => ?_)
    obtain ⟨rfl, _⟩ := hu.str
    (repeat (first | (apply WL.pure; rfl; rfl; rfl) | (apply WL.nil) | (apply EX.thenN)))
    refine CW.cond rfl (fun h' => ?_) (fun h' => ?_)
    · (repeat (first | (apply WL.pure; rfl; rfl; rfl) | (apply WL.nil) | (apply EX.thenN) | (apply CW.seq) | (apply CW.region) | (apply CW.ret) | (apply EX.thenR) | (apply EX.inR)))
      refine EX.ret1 rfl rfl ⟨?_, rfl⟩
      rw [idxOf_here h hn h']
    · (repeat (first | (apply WL.add; rfl; rfl; rfl; rfl; omega; omega) | (apply WL.pure; rfl; rfl; rfl) | (apply WL.nil) | (apply EX.thenN) | (apply CW.region) | (apply EX.inN) | (apply CW.skip)))
      refine EX.back (k + 1) (by repeat (first | exact trivial | refine ⟨rfl, ?_⟩)) ⟨h, rfl, ?_⟩ (by omega)
      intro j hj hlt
      by_cases e : j = k
      · subst e; exact h'
      · exact hn j hj (by omega)
  · simp at h
    (repeat (first | (apply WL.pure; rfl; rfl; rfl) | (apply WL.nil) | (apply EX.thenN) | (apply CW.seq) | (apply CW.region) | (apply CW.exit) | (apply EX.thenX) | (apply EX.inX) | (apply CW.ret)))
    refine EX.ret1 rfl rfl ⟨?_, rfl⟩
    rw [idxOf_none (fun j hj => hn j hj (by omega))]
end Go.Proofs.YtikigaeihdmcaaaGreatDoor

/-
  Texts of processes: printed, read. Plain: no program in sight.
-/
set_option linter.unusedVariables false
set_option linter.unusedSimpArgs false
namespace Go.Proofs.YtikigaeihdmcaaaGreatDoor

abbrev bysA (s : ByteArray) : Bys := s.data.toList
/- PARTS OF A TEXT -/
def splitL (c : UInt8) : Bys → List Bys
  | [] => [[]]
  | b :: l => if b = c then [] :: splitL c l else match splitL c l with
    | [] => [[b]]
    | x :: r => (b :: x) :: r
def joinS (c : UInt8) : List Bys → Bys
  | [] => []
  | [x] => x
  | x :: y :: r => x ++ c :: joinS c (y :: r)
theorem splitL_ne (c : UInt8) : ∀ s, splitL c s ≠ []
  | [] => by simp [splitL]
  | b :: l => by
    unfold splitL
    split
    · simp
    · split <;> simp
theorem splitL_no {c : UInt8} : ∀ {a : Bys}, c ∉ a → splitL c a = [a]
  | [], _ => rfl
  | b :: l, h => by
    have hb : ¬ b = c := fun e => h (by simp [e])
    have hl : c ∉ l := fun e => h (by simp [e])
    unfold splitL
    rw [if_neg hb, splitL_no hl]
theorem splitL_at {c : UInt8} : ∀ {a b : Bys}, c ∉ a → splitL c (a ++ c :: b) = a :: splitL c b
  | [], b, _ => by simp [splitL]
  | d :: l, b, h => by
    have hb : ¬ d = c := fun e => h (by simp [e])
    have hl : c ∉ l := fun e => h (by simp [e])
    simp only [List.cons_append]
    rw [splitL, if_neg hb, splitL_at hl]
theorem join_split (c : UInt8) : ∀ s, joinS c (splitL c s) = s
  | [] => rfl
  | b :: l => by
    have ih := join_split c l
    have hne := splitL_ne c l
    unfold splitL
    cases h : splitL c l with
    | nil => exact absurd h hne
    | cons x r =>
      rw [h] at ih
      split
      · rename_i e
        simp only [joinS, List.nil_append]
        rw [ih, e]
      · cases r with
        | nil => simp only [joinS] at ih ⊢; rw [ih]
        | cons y r => simp only [joinS, List.cons_append] at ih ⊢; rw [ih]
def cutL (c : UInt8) : Bys → Option (Bys × Bys)
  | [] => none
  | b :: l => if b = c then some ([], l) else (cutL c l).map fun x => (b :: x.1, x.2)
/- READ -/
/- WHAT IS READ IS PRINTED SO -/
/- WHAT IS PRINTED IS READ AS IT WAS -/
theorem named_no {l : Bys} (h : namedL l = true) : (32 : UInt8) ∉ l ∧ (10 : UInt8) ∉ l ∧ l.length ≤ 8 := by
  have hl := named_low h
  exact ⟨fun e => by have := hl _ e; exact absurd this (by decide), fun e => by have := hl _ e; exact absurd this (by decide), (named_ne h).2.2.2.2⟩
end Go.Proofs.YtikigaeihdmcaaaGreatDoor

/-
  strings.Cut, strings.Split at one byte, strings.Builder: the library's contracts in our words.
-/
set_option linter.unusedVariables false
set_option linter.unusedSimpArgs false
namespace Go.Proofs.YtikigaeihdmcaaaGreatDoor
open Go.RowKit Go.Shelf

theorem index1 (c : UInt8) : ∀ l : Bys, (c ∉ l ∧ Lib.index l [c] = -1) ∨ ∃ a b, l = a ++ c :: b ∧ c ∉ a ∧ Lib.index l [c] = (a.length : Int)
  | [] => .inl ⟨by simp, by simp [Lib.index]⟩
  | d :: l => by
    by_cases h : d = c
    · subst h
      exact .inr ⟨[], l, rfl, by simp, by simp [Lib.index, List.isPrefixOf]⟩
    · have hp : List.isPrefixOf [c] (d :: l) = false := by
        have : (c == d) = false := by simpa using fun e : c = d => h e.symm
        simp [List.isPrefixOf, this]
      rcases index1 c l with ⟨h1, h2⟩ | ⟨a, b, rfl, h1, h2⟩
      · refine .inl ⟨by simp [h1, Ne.symm h], ?_⟩
        unfold Lib.index
        rw [hp, h2]; rfl
      · refine .inr ⟨d :: a, b, rfl, by simp [h1, Ne.symm h], ?_⟩
        unfold Lib.index
        have hn : ((a.length : Int) == -1) = false := by
          rw [beq_eq_false_iff_ne]; omega
        rw [hp, h2, hn]
        simp
/-- what strings.Cut tells -/
def cutT (c : UInt8) (s : Bys) : Bys × Bys × Bool := match cutL c s with
  | none => (s, [], false)
  | some x => (x.1, x.2, true)
theorem splitK1 (c : UInt8) : ∀ (n : Nat) (s : Bys), s.length ≤ n → ∀ k, Lib.count s [c] ≤ k → Lib.splitK [c] 0 k s = splitL c s := by
  intro n
  induction n with
  | zero =>
    intro s hs k hk
    have : s = [] := List.length_eq_zero_iff.1 (by omega)
    subst this
    cases k with
    | zero => rfl
    | succ k => simp [Lib.splitK, Lib.index, splitL]
  | succ n ih =>
    intro s hs k hk
    rcases index1 c s with ⟨h1, h2⟩ | ⟨a, b, rfl, h1, h2⟩
    · rw [splitL_no h1]
      cases k with
      | zero => rfl
      | succ k => unfold Lib.splitK; rw [h2]; rfl
    · have hc := Lib.count_hit (sub := [c]) (by simp) h2
      have hd : (a ++ c :: b).drop (a.length + [c].length) = b := by simp
      rw [hd] at hc
      rw [splitL_at h1]
      cases k with
      | zero => omega
      | succ k =>
        unfold Lib.splitK
        have hn : ((a.length : Int) == -1) = false := by
          rw [beq_eq_false_iff_ne]; omega
        rw [h2, hn]
        simp only [Int.toNat_natCast, Bool.false_eq_true, if_false]
        rw [hd, ih b (by simp at hs; omega) k (by omega)]
        simp
theorem splitB1 (s : Bys) : Lib.splitB (txA [32]) 0 (Lib.countB (txA s) (txA [32])) (txA s) = (splitL 32 s).map txA := by
  have h := Lib.splitB_data (txA [32]) 0 (Lib.countB (txA s) (txA [32])) (txA s)
  rw [show (txA [32]).data.toList = [32] from rfl, txA_list, splitK1 32 _ s (Nat.le_refl _) (Lib.countB (txA s) (txA [32])) (Nat.le_of_eq rfl)] at h
  rw [← h, List.map_map]
  have : (txA ∘ fun x : ByteArray => x.data.toList) = id := by funext x; exact txA_eta x
  rw [this, List.map_id]
theorem countB1 (s : Bys) : Lib.countB (txA s) (txA [32]) + 1 = (splitL 32 s).length := by
  have h := Lib.splitB_all (txA [32]) (by decide) 0 _ (txA s) rfl
  rw [splitB1, List.length_map] at h
  omega
section
variable {α β : Type} [Rep α] [Rep β] {w w' : World} {B B' : Nat} {e e' : TypeId} {F F' : Nat → Prop} {v v' : Value} {xs : List α} {ys : List β}
/-- lists of unlike elements lie apart -/
theorem own_ap (h : Own w B e F v xs) (h' : Own w B' e' F' v' ys) (hn : e ≠ e') : ∀ g, v.ownBlock = some g → v'.ownBlock ≠ some g := by
  intro g h1 h2
  rcases h with ⟨rfl, _⟩ | ⟨g1, off, cap, cur, rfl, h⟩
  · cases h1
  rcases h' with ⟨rfl, _⟩ | ⟨g2, off', cap', cur', rfl, h'⟩
  · cases h2
  injection h1 with h1
  injection h2 with h2
  dsimp only at h1 h2
  subst h1
  subst h2
  have := h.blk.symm.trans h'.blk
  injection this with this
  injection this with _ h3 _
  exact hn h3
theorem own_blk {b : Nat} {T : TypeId} {cells : List Value} (h : Own w B e F v xs) (hb : Blk w b T cells) (hn : e ≠ T) : v.ownBlock ≠ some b := by
  intro h1
  rcases h with ⟨rfl, _⟩ | ⟨g1, off, cap, cur, rfl, h⟩
  · cases h1
  injection h1 with h1
  dsimp only at h1
  subst h1
  have := h.blk.symm.trans hb
  injection this with this
  injection this with _ h3 _
  exact hn h3
end
theorem MaxH.ext {w w' : World} (h : MaxH w) (hE : Ext w w') : MaxH w' := by
  obtain ⟨m, hm⟩ := h
  refine ⟨m, ?_⟩
  have hlt : 1 < w.heap.size := by
    apply Classical.byContradiction
    intro hn
    simp [World.cell?, Array.getElem?_eq_none (Nat.le_of_not_lt hn)] at hm
  rw [hE.cell (p := ⟨1, 0, none⟩) hlt]; exact hm
theorem split_ok (w : World) (s : Bys) (hs : s.length ≤ 100000) (hM : MaxH w) : Rt Tryz.prog 26 [tV s, tV [32]].toArray w fun v w' => (∃ ao cap, v = .slice ao ((splitL 32 s).map txA).length cap ∧ Sl w' (fun b => b = w.heap.size ∧ b < w'.heap.size) ao cap ((splitL 32 s).map txA)) ∧ Ext w w' := by
  obtain ⟨m, hm⟩ := hM
  refine Calls.mono (Any.strings_Split shL146 shI (txA s) (txA [32]) m w (by rw [txA_size]; omega) hm (by decide)) ?_
  rintro e w' ⟨rfl, rfl⟩
  have hl := countB1 s
  rw [splitB1, hl]
  have hle : ∀ x ∈ splitL 32 s, x.length ≤ s.length := by
    intro x hx
    have h := Lib.splitB_data (txA [32]) 0 (Lib.countB (txA s) (txA [32])) (txA s)
    clear h
    have : ∀ (l : List Bys), x ∈ l → x.length ≤ (joinS 32 l).length := by
      intro l
      induction l with
      | nil => intro h; cases h
      | cons y r ih =>
        intro h
        cases r with
        | nil => simp only [joinS]; rw [List.mem_singleton.1 h]; exact Nat.le_refl _
        | cons z r =>
          simp only [joinS, List.length_append, List.length_cons]
          rcases List.mem_cons.1 h with rfl | h
          · omega
          · have := ih h; omega
    have := this _ hx
    rwa [join_split] at this
  have hn : (splitL 32 s).length ≤ 100001 := by
    have := Lib.countB_le (txA [32]) (by decide) _ (txA s) (Nat.le_refl _)
    rw [txA_size] at this
    omega
  refine ⟨_, rfl, ⟨_, _, by rw [List.length_map], ⟨by rw [List.length_map]; exact Nat.le_refl _, by unfold maxLen; omega, (fun h => by cases h), fun i hi => ?_⟩⟩, Ext.alloc w _⟩
  rw [List.length_map] at hi
  refine ⟨w.heap.size, 0, rfl, ⟨rfl, (Blk.alloc w (((splitL 32 s).map txA).map Value.string) 9).lt⟩, [.string (txA (splitL 32 s)[i])], ?_, ?_⟩
  · have hb : Blk (w.alloc (.cells (((splitL 32 s).map txA).map Value.string).toArray 9)) w.heap.size 9 (((splitL 32 s).map txA).map Value.string) := Blk.alloc w _ _
    intro j u hu
    have hj : j = 0 := by
      cases j with
      | zero => rfl
      | succ j => simp at hu
    subst hj
    refine hb.cell ?_
    simp only [List.getElem?_cons_zero, Option.some.injEq] at hu
    rw [← hu]
    show (((splitL 32 s).map txA).map Value.string)[0 + i * 1 + 0]? = _
    simp [List.getElem?_eq_getElem hi]
  · rw [List.getElem_map]
    obtain ⟨cs, h1, h2⟩ := Rd.mkStr (w.alloc (.cells (((splitL 32 s).map txA).map Value.string).toArray 9)) (fun b => b = w.heap.size ∧ b < (w.alloc (.cells (((splitL 32 s).map txA).map Value.string).toArray 9)).heap.size) (txA (splitL 32 s)[i]) (by
      rw [txA_size]; have := hle _ (List.getElem_mem hi); unfold maxLen; omega)
    obtain ⟨v, rfl⟩ : ∃ v, cs = [v] := by
      have := Rep.len h2
      match cs, this with
      | [v], _ => exact ⟨v, rfl⟩
    have : v = .string (txA (splitL 32 s)[i]) := h1.symm
    rw [← this]; exact h2
/- A BUILDER -/
def Bld (w : World) (B b : Nat) (l : Bys) : Prop := Lib.IsBuilder 164 5 B b (Lib.byteCells l) w
theorem Bld.new {w : World} {B b : Nat} (h : Blk w b 164 [.pointer none, .slice none 0 0]) (hB : B ≤ b) : Bld w B b [] :=
  .inl ⟨hB, .slice none 0 0, h, World.ownsRow_nil _ _ _ _, by simp [Value.ownBlock]⟩
theorem Bld.ext {w w' : World} {B b : Nat} {l : Bys} (h : Bld w B b l) (hE : Ext w w') : Bld w' B b l := by
  have key : ∀ p, Lib.BuilderAt 164 5 B b p (Lib.byteCells l) w → Lib.BuilderAt 164 5 B b p (Lib.byteCells l) w' := by
    rintro p ⟨hB, v, hb, ho, hne⟩
    refine ⟨hB, v, (hE.block b (Array.getElem?_eq_some_iff.1 hb).1).trans hb, ⟨ho.1, ?_⟩, hne⟩
    rcases ho.2 with h | ⟨g, cap, cur, h1, h2, h3, h4⟩
    · exact .inl h
    · exact .inr ⟨g, cap, cur, h1, h2, (hE.block g (Array.getElem?_eq_some_iff.1 h3).1).trans h3, h4⟩
  exact h.elim (fun h => .inl (key _ h)) (fun h => .inr (key _ h))
theorem join1 : ∀ l : List Bys, Lib.join l [32] = joinS 32 l
  | [] => rfl
  | [x] => by rw [Lib.join_one]; rfl
  | x :: y :: r => by
    have ih := join1 (y :: r)
    rw [Lib.join_cons] at ih ⊢
    simp only [joinS]
    rw [← ih]
    simp [Lib.joinTail]
theorem sjoin_ok (w : World) {ao : Option Addr} {cap : Nat} {ws : List ByteArray} (hs : Sl w (Old w) ao cap ws) (hl : (joinS 32 (ws.map bysA)).length ≤ 100000) (hn : ws.length ≤ 100000) :
    Rt Tryz.prog 83 [.slice ao ws.length cap, tV [32]].toArray w fun v w' => v = tV (joinS 32 (ws.map bysA)) ∧ Ext w w' := by
  cases hw : ws with
  | nil =>
    refine Calls.mono (Any.strings_Join_none shL156 shX ao cap (txA [32]) w) ?_
    rintro e w' ⟨rfl, rfl⟩
    exact ⟨_, rfl, rfl, Ext.refl _⟩
  | cons y r =>
    rw [← hw]
    obtain ⟨b, off, rfl, hb, -⟩ := hs.el 0 (by rw [hw]; simp)
    refine Calls.mono (Any.strings_Join shL156 shX b off cap ws (txA [32]) w (fun j x hx => ?_) hb (by omega) hs.le (by rw [show (txA [32]).data.toList = [32] from rfl]; have := join1 (ws.map bysA); rw [show ws.map (·.data.toList) = ws.map bysA from rfl, this]; omega)) ?_
    · obtain ⟨hj, rfl⟩ := List.getElem?_eq_some_iff.1 hx
      obtain ⟨b', off', e, _, es, hc, hr⟩ := hs.el j hj
      injection e with e
      injection e with e1 e2 _
      subst e1; subst e2
      rw [hr.1] at hc
      have := hc 0 _ rfl
      rw [show sz ByteArray = 1 from rfl, Nat.mul_one] at this
      exact this
    · rintro e w' ⟨rfl, hE⟩
      refine ⟨_, rfl, ?_, hE⟩
      have := join1 (ws.map bysA)
      rw [show (txA [32]).data.toList = [32] from rfl, show ws.map (·.data.toList) = ws.map bysA from rfl, this]
      rfl
end Go.Proofs.YtikigaeihdmcaaaGreatDoor

/-
  The library's contracts of texts, laid over our own rows: strings.genSplit, strings.CutSuffix.
-/
set_option linter.unusedVariables false
set_option linter.unusedSimpArgs false
namespace Go.Proofs.YtikigaeihdmcaaaGreatDoor
open Go.RowKit Go.Shelf

def shF2 : List (Nat × Nat) :=
  (104, 32) ::
  (138, 62) ::
  (143, 63) ::
  (195, 75) ::
  (197, 76) ::
  (207, 70) ::
  (211, 49) ::
  (217, 88) ::
  (218, 77) ::
  (219, 78) ::
  (221, 44) ::
  (224, 90) ::
  (225, 89) ::
  (260, 87) ::
  (266, 112) ::
  (267, 91) ::
  (268, 61) ::
  (314, 113) ::
  []
def shT2 : List (Nat × Nat) :=
  (0, 0) ::
  (3, 3) ::
  (4, 4) ::
  (5, 5) ::
  (9, 9) ::
  (21, 21) ::
  (24, 68) ::
  (31, 34) ::
  (46, 143) ::
  (51, 175) ::
  (105, 120) ::
  (119, 171) ::
  (138, 173) ::
  (139, 174) ::
  (146, 176) ::
  []
def shG2 : List (Nat × Nat) :=
  (1, 1) ::
  (3, 5) ::
  (4, 6) ::
  []
def shR2 : Ren := ⟨fun x => lookN shF2 x, fun x => lookN shT2 x, fun x => lookN shG2 x⟩
set_option maxRecDepth 100000 in
theorem shL221 : Lays.n221 Tryz.prog shR2 where
  mixed := by kernel_rfl
  f138 := (Tryz.func62).trans (congrArg some (by kernel_rfl))
  f143 := (Tryz.func63).trans (congrArg some (by kernel_rfl))
  f195 := (Tryz.func75).trans (congrArg some (by kernel_rfl))
  f197 := (Tryz.func76).trans (congrArg some (by kernel_rfl))
  f217 := (Tryz.func88).trans (congrArg some (by kernel_rfl))
  f218 := (Tryz.func77).trans (congrArg some (by kernel_rfl))
  f219 := (Tryz.func78).trans (congrArg some (by kernel_rfl))
  f221 := (Tryz.func44).trans (congrArg some (by kernel_rfl))
  f224 := (Tryz.func90).trans (congrArg some (by kernel_rfl))
  f225 := (Tryz.func89).trans (congrArg some (by kernel_rfl))
  f260 := (Tryz.func87).trans (congrArg some (by kernel_rfl))
  f266 := (Tryz.func112).trans (congrArg some (by kernel_rfl))
  f267 := (Tryz.func91).trans (congrArg some (by kernel_rfl))
  f268 := (Tryz.func61).trans (congrArg some (by kernel_rfl))
  f314 := (Tryz.func113).trans (congrArg some (by kernel_rfl))
  t0 := by kernel_rfl
  a0 := fun w => rfl
  z0 := fun w => rfl
  v0 := fun w => rfl
  t3 := Tryz.underlying3
  a3 := Tryz.isAgg3
  z3 := Tryz.sizeOf3
  v3 := Tryz.zeroValue3
  t4 := Tryz.underlying4
  a4 := Tryz.isAgg4
  z4 := Tryz.sizeOf4
  v4 := Tryz.zeroValue4
  t5 := Tryz.underlying5
  a5 := Tryz.isAgg5
  z5 := Tryz.sizeOf5
  v5 := Tryz.zeroValue5
  t9 := Tryz.underlying9
  a9 := Tryz.isAgg9
  z9 := Tryz.sizeOf9
  v9 := Tryz.zeroValue9
  t21 := Tryz.underlying21
  a21 := Tryz.isAgg21
  z21 := Tryz.sizeOf21
  v21 := Tryz.zeroValue21
  t31 := Tryz.underlying34
  a31 := Tryz.isAgg34
  z31 := Tryz.sizeOf34
  v31 := Tryz.zeroValue34
  t46 := Tryz.underlying143
  a46 := Tryz.isAgg143
  z46 := Tryz.sizeOf143
  v46 := Tryz.zeroValue143
  t51 := Tryz.underlying175
  a51 := Tryz.isAgg175
  z51 := Tryz.sizeOf175
  v51 := Tryz.zeroValue175
  t105 := Tryz.underlying120
  a105 := Tryz.isAgg120
  z105 := Tryz.sizeOf120
  v105 := Tryz.zeroValue120
  t119 := Tryz.underlying171
  a119 := Tryz.isAgg171
  z119 := Tryz.sizeOf171
  t138 := Tryz.underlying173
  a138 := Tryz.isAgg173
  z138 := Tryz.sizeOf173
  v138 := Tryz.zeroValue173
  t139 := Tryz.underlying174
  a139 := Tryz.isAgg174
  z139 := Tryz.sizeOf174
  v139 := Tryz.zeroValue174
  t146 := Tryz.underlying176
  a146 := Tryz.isAgg176
  z146 := Tryz.sizeOf176
  v146 := Tryz.zeroValue176
  g1 := by kernel_rfl
  g3 := by kernel_rfl
  g4 := by kernel_rfl
set_option maxRecDepth 100000 in
theorem shL104 : Lays.n104 Tryz.prog shR2 where
  mixed := by kernel_rfl
  f104 := (Tryz.func32).trans (congrArg some (by kernel_rfl))
  f207 := (Tryz.func70).trans (congrArg some (by kernel_rfl))
  f211 := (Tryz.func49).trans (congrArg some (by kernel_rfl))
  t3 := Tryz.underlying3
  a3 := Tryz.isAgg3
  z3 := Tryz.sizeOf3
  v3 := Tryz.zeroValue3
  t4 := Tryz.underlying4
  a4 := Tryz.isAgg4
  z4 := Tryz.sizeOf4
  v4 := Tryz.zeroValue4
  t9 := Tryz.underlying9
  a9 := Tryz.isAgg9
  z9 := Tryz.sizeOf9
  v9 := Tryz.zeroValue9
  t24 := Tryz.underlying68
  a24 := Tryz.isAgg68
  z24 := Tryz.sizeOf68
  v24 := Tryz.zeroValue68
theorem shI2 : (Tryz.prog.info? (shR2.t 9)).map (fun i => (i.zero, i.size, i.bytes)) = some (some (.string ByteArray.empty), 1, 16) := by kernel_rfl
end Go.Proofs.YtikigaeihdmcaaaGreatDoor

/-
  What is printed is read as it was: plain.
-/
set_option linter.unusedVariables false
set_option linter.unusedSimpArgs false
namespace Go.Proofs.YtikigaeihdmcaaaGreatDoor

inductive OkL (nms : List ByteArray) : Ltl → Prop
  | t : OkL nms (.mk 1 0 [])
  | f : OkL nms (.mk 2 0 [])
  | a (n : Int) : 0 ≤ n → n ≤ 63 → nmL nms n ≠ [] → OkL nms (.mk 3 n [])
  | one (k : Int) (x : Ltl) : (k = 4 ∨ k = 7 ∨ k = 10 ∨ k = 11) → OkL nms x → OkL nms (.mk k 0 [x])
  | two (k : Int) (x y : Ltl) : (k = 5 ∨ k = 6 ∨ k = 8 ∨ k = 9) → OkL nms x → OkL nms y → OkL nms (.mk k 0 [x, y])
theorem kidsK_nat {k : Int} {m : Nat} (h : kidsK k = (m : Int)) : (m = 0 ∧ (k = 1 ∨ k = 2 ∨ k = 3)) ∨ (m = 1 ∧ (k = 4 ∨ k = 7 ∨ k = 10 ∨ k = 11)) ∨ (m = 2 ∧ (k = 5 ∨ k = 6 ∨ k = 8 ∨ k = 9)) := by
  unfold kidsK at h
  split at h
  · left; exact ⟨by omega, by assumption⟩
  split at h
  · right; left; exact ⟨by omega, by assumption⟩
  split at h
  · right; right; exact ⟨by omega, by assumption⟩
  · omega
mutual
theorem okT_of {nms : List ByteArray} : ∀ (f : Ltl) (d c : Int), (chkF f d c).1 = 0 → badF (nmL nms) f = false → OkL nms f
  | .mk k n kids, d, c, h, hb => by
    simp only [chkF] at h
    split at h
    · cases h
    split at h
    · cases h
    split at h
    · cases h
    rename_i h1 h2 h3
    simp only [not_or] at h3
    obtain ⟨h3, h4, h5, h6⟩ := h3
    simp only [badF, Bool.or_eq_false_iff] at hb
    have hk := okT_ofL kids (d + 1) (c + 1) h hb.2
    have h3 : kidsK k = (kids.length : Int) := by omega
    have h6 : k = 3 ∨ n = 0 := by omega
    rcases kidsK_nat h3 with ⟨hl, hc⟩ | ⟨hl, hc⟩ | ⟨hl, hc⟩
    · obtain rfl : kids = [] := List.eq_nil_of_length_eq_zero hl
      rcases hc with rfl | rfl | rfl
      · obtain rfl : n = 0 := by omega
        exact .t
      · obtain rfl : n = 0 := by omega
        exact .f
      · refine .a n (by omega) (by omega) ?_
        have := hb.1
        simpa using this
    · obtain rfl : n = 0 := by omega
      match kids, hl, hk with
      | [x], _, hk => exact .one k x hc (hk x (by simp))
    · obtain rfl : n = 0 := by omega
      match kids, hl, hk with
      | [x, y], _, hk => exact .two k x y hc (hk x (by simp)) (hk y (by simp))
theorem okT_ofL {nms : List ByteArray} : ∀ (l : List Ltl) (d c : Int), (chkFL l d c).1 = 0 → badFs (nmL nms) l = false → ∀ x ∈ l, OkL nms x
  | [], _, _, _, _ => fun x h => by cases h
  | y :: r, d, c, h, hb => by
    simp only [chkFL] at h
    split at h
    · rename_i h1; exact absurd h h1
    rename_i h1
    simp only [badFs, Bool.or_eq_false_iff] at hb
    intro x hx
    rcases List.mem_cons.1 hx with e | hx
    · rw [e]; exact okT_of y d c (by simpa using h1) hb.1
    · exact okT_ofL r d _ h hb.2 x hx
end
theorem atT_lt {N : Nat} {st : Bys × Bys} (h : st.1 ≠ []) (hN : 1 ≤ N) : atT N st < N := by
  unfold atT
  have := List.length_pos_iff.2 h
  omega
def Dp (N : Nat) (x y : PR) : Prop := x = y ∨ ∃ a, a < N ∧ x = .er 5 a
def UT (t : Bys) : Prop := t ≠ [85] ∧ t ≠ [82] ∧ t ≠ [87]
instance (t : Bys) : Decidable (UT t) := by unfold UT; infer_instance
section
variable {nms : List ByteArray} {t u : Bys} {f g : Ltl}
def SS (nms : List ByteArray) (t : Bys) (f : Ltl) : Prop := ∀ (r : Bys) (N o n : Nat), stopT r → 1 ≤ N → 10 * (t ++ r).length + 2 ≤ n → Dp N (pSin nms N n o (nxT (t ++ r))) (.ok f (nxT r))
def WW (nms : List ByteArray) (t : Bys) (f : Ltl) : Prop := ∀ (r : Bys) (N o n : Nat), stopT r → 1 ≤ N → UT (nxT r).1 → 10 * (t ++ r).length + 3 ≤ n → Dp N (pWay nms N n o (nxT (t ++ r))) (.ok f (nxT r))
def AA (nms : List ByteArray) (t : Bys) (f : Ltl) : Prop := ∀ (r : Bys) (N o n : Nat), stopT r → 1 ≤ N → UT (nxT r).1 → 10 * (t ++ r).length + 5 ≤ n →
  (∃ a, a < N ∧ pRow nms N n false o (nxT (t ++ r)) = .er 5 a) ∨ ∃ m, 10 * r.length + 4 ≤ m ∧ pRow nms N n false o (nxT (t ++ r)) = pRowL nms N m false o f (nxT r)
def OO (nms : List ByteArray) (t : Bys) (f : Ltl) : Prop := ∀ (r : Bys) (N o n : Nat), stopT r → 1 ≤ N → UT (nxT r).1 → (nxT r).1 ≠ [38] → 10 * (t ++ r).length + 7 ≤ n →
  (∃ a, a < N ∧ pRow nms N n true o (nxT (t ++ r)) = .er 5 a) ∨ ∃ m, 10 * r.length + 4 ≤ m ∧ pRow nms N n true o (nxT (t ++ r)) = pRowL nms N m true o f (nxT r)
def FF (nms : List ByteArray) (t : Bys) (f : Ltl) : Prop := ∀ (r : Bys) (N o n : Nat), stopT r → 1 ≤ N → UT (nxT r).1 → (nxT r).1 ≠ [38] → (nxT r).1 ≠ [47] → (nxT r).1 ≠ [45, 62] → 10 * (t ++ r).length + 8 ≤ n → Dp N (pFor nms N n o [] (nxT (t ++ r))) (.ok f (nxT r))
theorem SS.ww (h : SS nms t f) : WW nms t f := by
  intro r N o n hr hN hU hn
  obtain ⟨n, rfl⟩ : ∃ m, n = m + 1 := ⟨n - 1, by omega⟩
  simp only [pWay]
  rcases h r N o n hr hN (by omega) with e | ⟨a, ha, e⟩
  · rw [e]; left
    show (if _ then _ else _) = _
    rw [if_neg (by unfold UT at hU; simp only [not_or]; exact hU)]
  · rw [e]; right; exact ⟨a, ha, rfl⟩
theorem WW.aa (h : WW nms t f) : AA nms t f := by
  intro r N o n hr hN hU hn
  obtain ⟨n, rfl⟩ : ∃ m, n = m + 2 := ⟨n - 2, by omega⟩
  have hl : (t ++ r).length = t.length + r.length := List.length_append
  simp only [pRow, pPart]
  rcases h r N o n hr hN hU (by omega) with e | ⟨a, ha, e⟩
  · right; rw [e]; exact ⟨n + 1, by omega, rfl⟩
  · left; rw [e]; exact ⟨a, ha, rfl⟩
theorem AA.oo (h : AA nms t f) : OO nms t f := by
  intro r N o n hr hN hU hA hn
  obtain ⟨n, rfl⟩ : ∃ m, n = m + 2 := ⟨n - 2, by omega⟩
  have hl : (t ++ r).length = t.length + r.length := List.length_append
  rw [pRow, pPart]
  rcases h r N o n hr hN hU (by omega) with ⟨a, ha, e⟩ | ⟨m, hm, e⟩
  · left; rw [e]; exact ⟨a, ha, rfl⟩
  · right
    rw [e]
    obtain ⟨m, rfl⟩ : ∃ k, m = k + 1 := ⟨m - 1, by omega⟩
    rw [pRowL, if_neg (show ¬ (nxT r).1 = sgR false from hA)]
    exact ⟨n + 1, by omega, rfl⟩
theorem OO.ff (h : OO nms t f) : FF nms t f := by
  intro r N o n hr hN hU hA hO hF hn
  obtain ⟨n, rfl⟩ : ∃ m, n = m + 1 := ⟨n - 1, by omega⟩
  rw [pFor]
  rcases h r N o n hr hN hU hA (by omega) with ⟨a, ha, e⟩ | ⟨m, hm, e⟩
  · right; rw [e]; exact ⟨a, ha, rfl⟩
  · left
    rw [e]
    obtain ⟨m, rfl⟩ : ∃ k, m = k + 1 := ⟨m - 1, by omega⟩
    rw [pRowL, if_neg (show ¬ (nxT r).1 = sgR true from hO)]
    show (if _ then _ else _) = _
    rw [if_neg hF]
    rfl
theorem stop_sp (r : Bys) : stopT (32 :: r) := by intro c h; cases h; decide
theorem stop_cl (r : Bys) : stopT (41 :: r) := by intro c h; cases h; decide
theorem FF.ss (h : FF nms t f) : SS nms (40 :: (t ++ [41])) f := by
  intro r N o n hr hN hn
  have e1 : 40 :: (t ++ [41]) ++ r = 40 :: (t ++ (41 :: r)) := by simp
  rw [e1] at hn ⊢
  rw [nxT_sym (by decide) (by decide) (by decide)]
  obtain ⟨n, rfl⟩ : ∃ m, n = m + 1 := ⟨n - 1, by omega⟩
  rw [pSin, if_neg (show ¬ 0 < preK [40] by decide), if_pos rfl]
  by_cases ho : o = 20
  · rw [if_pos ho]; right; exact ⟨_, atT_lt (by simp) hN, rfl⟩
  rw [if_neg ho]
  have e2 : nxT (41 :: r) = ([41], r) := nxT_sym (by decide) (by decide) (by decide)
  simp only [List.length_cons] at hn
  rcases h (41 :: r) N (o + 1) n (stop_cl r) hN (by rw [e2]; show UT [41]; decide) (by rw [e2]; show ([41] : Bys) ≠ [38]; decide) (by rw [e2]; show ([41] : Bys) ≠ [47]; decide) (by rw [e2]; show ([41] : Bys) ≠ [45, 62]; decide) (by omega) with e | ⟨a, ha, e⟩
  · left
    rw [show nxT (([40], t ++ 41 :: r) : Bys × Bys).2 = nxT (t ++ 41 :: r) from rfl, e, e2]
    show (if _ then _ else _) = _
    rw [if_pos rfl]
  · right
    rw [show nxT (([40], t ++ 41 :: r) : Bys × Bys).2 = nxT (t ++ 41 :: r) from rfl, e]
    exact ⟨a, ha, rfl⟩
theorem ss_pre {k : Int} {c : UInt8} {q : Bys} (hc : lowB c = false) (h1 : (c == 32) = false) (h2 : (c == 45) = false) (hk : preK [c] = k) (hk0 : 0 < k) (hq : ∀ r, nxT (q ++ r) = nxT r) (h : SS nms t f) : SS nms (c :: (q ++ t)) (.mk k 0 [f]) := by
  intro r N o n hr hN hn
  rw [List.cons_append] at hn ⊢
  rw [nxT_sym hc h1 h2]
  obtain ⟨n, rfl⟩ : ∃ m, n = m + 1 := ⟨n - 1, by omega⟩
  rw [pSin, if_pos (by show 0 < preK [c]; omega)]
  by_cases ho : o = 20
  · rw [if_pos ho]; right; exact ⟨_, atT_lt (by simp) hN, rfl⟩
  rw [if_neg ho]
  simp only [List.length_cons, List.length_append] at hn
  have e0 : nxT (([c], q ++ t ++ r) : Bys × Bys).2 = nxT (t ++ r) := by show nxT (q ++ t ++ r) = _; rw [List.append_assoc, hq]
  rw [e0]
  rcases h r N (o + 1) n hr hN (by rw [List.length_append]; omega) with e | ⟨a, ha, e⟩
  · left; rw [e]; show PR.ok (.mk (preK [c]) 0 [f]) _ = _; rw [hk]
  · right; rw [e]; exact ⟨a, ha, rfl⟩
theorem pre_word {l : Bys} (h : ∀ c ∈ l, lowB c = true) : preK l = 0 := by
  unfold preK
  rw [if_neg (fun e => by subst e; have := h 33 (by simp); revert this; decide), if_neg (fun e => by subst e; have := h 88 (by simp); revert this; decide),
    if_neg (fun e => by subst e; have := h 70 (by simp); revert this; decide), if_neg (fun e => by subst e; have := h 71 (by simp); revert this; decide)]
theorem sin_word {l r : Bys} {N o n : Nat} (h : ∀ c ∈ l, lowB c = true) (hn : l ≠ []) (hr : stopT r) : pSin nms N (n + 1) o (nxT (l ++ r)) = wordR nms N (l, r) := by
  rw [nxT_word h hn hr, pSin, if_neg (by rw [pre_word h]; decide), if_neg (fun e => by have e : l = [40] := e; subst e; have := h 40 (by simp); revert this; decide)]
  rw [if_neg]
  show ¬ (l = [] ∨ lowB (l.headD 0) = false)
  cases l with
  | nil => exact absurd rfl hn
  | cons c l => simp [h c (by simp)]
theorem ss_word {f : Ltl} (h : ∀ c ∈ t, lowB c = true) (hn : t ≠ []) (hw : ∀ N r, wordR nms N (t, r) = .ok f (nxT r)) : SS nms t f := by
  intro r N o n hr hN hm
  obtain ⟨n, rfl⟩ : ∃ m, n = m + 1 := ⟨n - 1, by omega⟩
  left
  rw [sin_word h hn hr, hw]
theorem word_nm {n : Int} (h0 : 0 ≤ n) (h63 : n ≤ 63) (h : nmL nms n ≠ []) (N : Nat) (r : Bys) : wordR nms N (nmL nms n, r) = .ok (.mk 3 n []) (nxT r) := by
  unfold wordR
  rcases nmL_ok h0 h with ⟨e, e2⟩ | ⟨e, e2, e3⟩
  · dsimp only
    rw [e2, if_neg (by decide), if_neg (by decide), if_pos rfl, e]
  · obtain ⟨_, n1, n2, n3, _⟩ := named_ne e2
    dsimp only
    rw [if_neg n1, if_neg n2, if_neg n3, if_neg (by simp only [not_or]; exact ⟨by omega, by omega, by simpa using e2⟩), e3]
theorem ww_two {k : Int} {c : UInt8} (hc : lowB c = false) (h1 : (c == 32) = false) (h2 : (c == 45) = false) (hk : (c = 85 ∧ k = 8) ∨ (c = 82 ∧ k = 9)) (h : SS nms t f) (h' : WW nms u g) : WW nms (t ++ [32] ++ [c] ++ [32] ++ u) (.mk k 0 [f, g]) := by
  intro r N o n hr hN hU hn
  have e1 : t ++ [32] ++ [c] ++ [32] ++ u ++ r = t ++ (32 :: c :: 32 :: (u ++ r)) := by simp
  rw [e1] at hn ⊢
  obtain ⟨n, rfl⟩ : ∃ m, n = m + 1 := ⟨n - 1, by omega⟩
  rw [pWay]
  have e2 : nxT (32 :: c :: 32 :: (u ++ r)) = ([c], 32 :: (u ++ r)) := by rw [nxT_sp, nxT_sym hc h1 h2]
  rcases h (32 :: c :: 32 :: (u ++ r)) N o n (stop_sp _) hN (by omega) with e | ⟨a, ha, e⟩
  · rw [e, e2]
    dsimp only
    rw [if_pos (by rcases hk with ⟨rfl, _⟩ | ⟨rfl, _⟩ <;> simp), nxT_sp]
    simp only [List.length_append, List.length_cons] at hn
    rcases h' r N o n hr hN hU (by rw [List.length_append]; omega) with e | ⟨a, ha, e⟩
    · left; rw [e]
      dsimp only
      rcases hk with ⟨rfl, rfl⟩ | ⟨rfl, rfl⟩ <;> rfl
    · right; rw [e]; exact ⟨a, ha, rfl⟩
  · right; rw [e]; exact ⟨a, ha, rfl⟩
theorem aa_two (h : AA nms t f) (h' : WW nms u g) : AA nms (t ++ [32] ++ [38] ++ [32] ++ u) (.mk 5 0 [f, g]) := by
  intro r N o n hr hN hU hn
  have e1 : t ++ [32] ++ [38] ++ [32] ++ u ++ r = t ++ (32 :: 38 :: 32 :: (u ++ r)) := by simp
  rw [e1] at hn ⊢
  have e2 : nxT (32 :: 38 :: 32 :: (u ++ r)) = ([38], 32 :: (u ++ r)) := by rw [nxT_sp, nxT_sym (by decide) (by decide) (by decide)]
  rcases h _ N o n (stop_sp _) hN (by rw [e2]; show UT [38]; decide) (by omega) with ⟨a, ha, e⟩ | ⟨m, hm, e⟩
  · left; rw [e]; exact ⟨a, ha, rfl⟩
  · rw [e, e2]
    simp only [List.length_append, List.length_cons] at hm
    obtain ⟨m, rfl⟩ : ∃ k, m = k + 2 := ⟨m - 2, by omega⟩
    rw [pRowL, if_pos (show (([38], 32 :: (u ++ r)) : Bys × Bys).1 = sgR false from rfl), pPart]
    dsimp only
    rw [nxT_sp]
    rcases h' r N o m hr hN hU (by rw [List.length_append]; omega) with e | ⟨a, ha, e⟩
    · right; rw [e]; exact ⟨m + 1, by omega, rfl⟩
    · left; rw [e]; exact ⟨a, ha, rfl⟩
theorem oo_two (h : OO nms t f) (h' : AA nms u g) : OO nms (t ++ [32] ++ [47] ++ [32] ++ u) (.mk 6 0 [f, g]) := by
  intro r N o n hr hN hU hA hn
  have e1 : t ++ [32] ++ [47] ++ [32] ++ u ++ r = t ++ (32 :: 47 :: 32 :: (u ++ r)) := by simp
  rw [e1] at hn ⊢
  have e2 : nxT (32 :: 47 :: 32 :: (u ++ r)) = ([47], 32 :: (u ++ r)) := by rw [nxT_sp, nxT_sym (by decide) (by decide) (by decide)]
  rcases h _ N o n (stop_sp _) hN (by rw [e2]; show UT [47]; decide) (by rw [e2]; show ([47] : Bys) ≠ [38]; decide) (by omega) with ⟨a, ha, e⟩ | ⟨m, hm, e⟩
  · left; rw [e]; exact ⟨a, ha, rfl⟩
  · rw [e, e2]
    simp only [List.length_append, List.length_cons] at hm
    obtain ⟨m, rfl⟩ : ∃ k, m = k + 2 := ⟨m - 2, by omega⟩
    rw [pRowL, if_pos (show (([47], 32 :: (u ++ r)) : Bys × Bys).1 = sgR true from rfl), pPart]
    dsimp only
    rw [nxT_sp]
    rcases h' r N o m hr hN hU (by rw [List.length_append]; omega) with ⟨a, ha, e⟩ | ⟨j, hj, e⟩
    · left; rw [e]; exact ⟨a, ha, rfl⟩
    · right
      rw [e]
      obtain ⟨j, rfl⟩ : ∃ k, j = k + 1 := ⟨j - 1, by omega⟩
      rw [pRowL, if_neg (show ¬ (nxT r).1 = sgR false from hA)]
      exact ⟨m + 1, by omega, rfl⟩
end
def binK (k : Int) : Prop := k = 5 ∨ k = 6 ∨ k = 8 ∨ k = 9
structure RT (nms : List ByteArray) (t : Bys) (f : Ltl) : Prop where
  ss : ¬ binK f.k → SS nms t f
  ww : f.k ≠ 5 → f.k ≠ 6 → WW nms t f
  aa : f.k ≠ 6 → AA nms t f
  oo : OO nms t f
theorem RT.ofS {nms : List ByteArray} {t : Bys} {f : Ltl} (h : SS nms t f) : RT nms t f := ⟨fun _ => h, fun _ _ => h.ww, fun _ => h.ww.aa, h.ww.aa.oo⟩
section
variable {nms : List ByteArray} {t : Bys} {f : Ltl}
theorem RT.kS (h : RT nms t f) {b : Bool} (hb : b = true → ¬ binK f.k) : SS nms (kidT b t) f := by
  unfold kidT
  split
  · rename_i e; exact h.ss (hb e)
  · exact h.oo.ff.ss
theorem RT.kW (h : RT nms t f) {b : Bool} (hb : b = true → f.k ≠ 5 ∧ f.k ≠ 6) : WW nms (kidT b t) f := by
  unfold kidT
  split
  · rename_i e; exact h.ww (hb e).1 (hb e).2
  · exact h.oo.ff.ss.ww
theorem RT.kA (h : RT nms t f) {b : Bool} (hb : b = true → f.k ≠ 6) : AA nms (kidT b t) f := by
  unfold kidT
  split
  · rename_i e; exact h.aa (hb e)
  · exact h.oo.ff.ss.ww.aa
theorem RT.kO (h : RT nms t f) {b : Bool} : OO nms (kidT b t) f := by
  unfold kidT
  split
  · exact h.oo
  · exact h.oo.ff.ss.ww.aa.oo
end
theorem bare_one {k i x : Int} (hk : ¬ binK k) (h : bareL k i x = true) : ¬ binK x := by
  unfold binK at *
  unfold bareL at h
  intro hx
  rcases hx with rfl | rfl | rfl | rfl <;> simp at h <;> omega
theorem bare_wayL {k x : Int} (hk : k = 8 ∨ k = 9) (h : bareL k 0 x = true) : ¬ binK x := by
  unfold binK
  unfold bareL at h
  intro hx
  rcases hx with rfl | rfl | rfl | rfl <;> simp at h <;> omega
theorem bare_wayR {k x : Int} (hk : k = 8 ∨ k = 9) (h : bareL k 1 x = true) : x ≠ 5 ∧ x ≠ 6 := by
  unfold bareL at h
  constructor <;> rintro rfl <;> simp at h <;> omega
theorem bare_andL {x : Int} (h : bareL 5 0 x = true) : x ≠ 6 := by rintro rfl; revert h; decide
theorem bare_andR {x : Int} (h : bareL 5 1 x = true) : x ≠ 5 ∧ x ≠ 6 := by constructor <;> (rintro rfl; revert h; decide)
theorem bare_orR {x : Int} (h : bareL 6 1 x = true) : x ≠ 6 := by rintro rfl; revert h; decide
theorem rt {nms : List ByteArray} {f : Ltl} (h : OkL nms f) : RT nms (txtL (nmL nms) f) f := by
  induction h with
  | t => exact RT.ofS (ss_word (t := tTrue) (by decide) (by decide) fun N r => by unfold wordR; rw [if_pos rfl])
  | f => exact RT.ofS (ss_word (t := tFalse) (by decide) (by decide) fun N r => by unfold wordR; rw [if_neg (show ¬ tFalse = tTrue by decide), if_pos rfl])
  | a n h0 h63 h =>
    have e : txtL (nmL nms) (.mk 3 n []) = nmL nms n := by simp [txtL, joinL]
    rw [e]
    exact RT.ofS (ss_word (nmL_low h0 h) h fun N r => word_nm h0 h63 h N r)
  | one k x hk hx ih =>
    have hb : ¬ binK k := by unfold binK; omega
    have hS : SS nms (kidT (bareL k 0 x.k) (txtL (nmL nms) x)) x := ih.kS (bare_one hb)
    refine RT.ofS ?_
    rcases hk with rfl | rfl | rfl | rfl
    · exact ss_pre (q := []) (by decide) (by decide) (by decide) rfl (by decide) (fun r => rfl) hS
    · exact ss_pre (q := [32]) (by decide) (by decide) (by decide) rfl (by decide) nxT_sp hS
    · exact ss_pre (q := [32]) (by decide) (by decide) (by decide) rfl (by decide) nxT_sp hS
    · exact ss_pre (q := [32]) (by decide) (by decide) (by decide) rfl (by decide) nxT_sp hS
  | two k x y hk hx hy ihx ihy =>
    have e : ∀ k, (k = 5 ∨ k = 6 ∨ k = 8 ∨ k = 9) → txtL (nmL nms) (.mk k 0 [x, y]) = kidT (bareL k 0 x.k) (txtL (nmL nms) x) ++ [32] ++ sigL k ++ [32] ++ kidT (bareL k 1 y.k) (txtL (nmL nms) y) := by
      intro k hk
      rcases hk with rfl | rfl | rfl | rfl <;> simp [txtL, txtLs, joinL]
    rw [e k hk]
    rcases hk with rfl | rfl | rfl | rfl
    · have hA := aa_two (ihx.kA (b := bareL 5 0 x.k) bare_andL) (ihy.kW (b := bareL 5 1 y.k) bare_andR)
      exact ⟨fun h => absurd (by unfold binK; simp [Ltl.k]) h, fun h => absurd rfl h, fun _ => hA, hA.oo⟩
    · have hO := oo_two (ihx.kO (b := bareL 6 0 x.k)) (ihy.kA (b := bareL 6 1 y.k) bare_orR)
      exact ⟨fun h => absurd (by unfold binK; simp [Ltl.k]) h, fun _ h => absurd rfl h, fun h => absurd rfl h, hO⟩
    · have hW := ww_two (k := 8) (c := 85) (by decide) (by decide) (by decide) (by decide) (ihx.kS (b := bareL 8 0 x.k) (bare_wayL (.inl rfl))) (ihy.kW (b := bareL 8 1 y.k) (bare_wayR (.inl rfl)))
      exact ⟨fun h => absurd (by unfold binK; simp [Ltl.k]) h, fun _ _ => hW, fun _ => hW.aa, hW.aa.oo⟩
    · have hW := ww_two (k := 9) (c := 82) (by decide) (by decide) (by decide) (by decide) (ihx.kS (b := bareL 9 0 x.k) (bare_wayL (.inr rfl))) (ihy.kW (b := bareL 9 1 y.k) (bare_wayR (.inr rfl)))
      exact ⟨fun h => absurd (by unfold binK; simp [Ltl.k]) h, fun _ _ => hW, fun _ => hW.aa, hW.aa.oo⟩
theorem txtL_ne {nms : List ByteArray} {f : Ltl} (h : OkL nms f) : txtL (nmL nms) f ≠ [] := by
  cases h with
  | t => simp [txtL, joinL, tTrue]
  | f => simp [txtL, joinL, tFalse]
  | a n h0 h63 h => simpa [txtL, joinL] using h
  | one k x hk hx => rcases hk with rfl | rfl | rfl | rfl <;> simp [txtL, joinL]
  | two k x y hk hx hy => rcases hk with rfl | rfl | rfl | rfl <;> simp [txtL, joinL]
/-- what is printed is read as it was, but for what is open together -/
theorem back_law {nms : List ByteArray} {f : Ltl} (h : (printL f nms).2 = 0) : (printL f nms).1 = txtL (nmL nms) f ∧ ((printL f nms).1.length > 300 → parseL (printL f nms).1 nms = (.mk 0 0 [], 0, 2)) ∧
    ((printL f nms).1.length ≤ 300 → parseL (printL f nms).1 nms = (f, 0, 0) ∨ ∃ a, a < (printL f nms).1.length ∧ parseL (printL f nms).1 nms = (.mk 0 0 [], a, 5)) := by
  unfold printL at h ⊢
  by_cases h1 : (chkF f 1 0).1 ≠ 0
  · rw [if_pos h1] at h; exact absurd h h1
  rw [if_neg h1] at h ⊢
  by_cases h2 : badF (nmL nms) f = true
  · rw [if_pos h2] at h; cases h
  rw [if_neg h2]
  dsimp only
  have hok := okT_of f 1 0 (by simpa using h1) (by simpa using h2)
  have hne := List.length_pos_iff.2 (txtL_ne hok)
  refine ⟨rfl, fun hl => by unfold parseL; rw [if_pos hl], fun hl => ?_⟩
  unfold parseL
  rw [if_neg (by omega)]
  have hF := (rt hok).oo.ff [] (txtL (nmL nms) f).length 0 (10 * (txtL (nmL nms) f).length + 20) (fun c h => by cases h) hne (by show UT []; decide) (by decide) (by decide) (by decide) (by rw [List.append_nil]; omega)
  rw [List.append_nil] at hF
  rcases hF with e | ⟨a, ha, e⟩
  · left
    rw [e]
    dsimp only
    rw [if_neg (by rw [nxT_nil]; simp), if_neg h1]
  · right
    rw [e]
    exact ⟨a, ha, rfl⟩
/- WHAT IS READ -/
def Res (PF : Ltl → Prop) (N : Nat) : PR → Prop
  | .er c a => c ≠ 0 ∧ a ≤ N
  | .ok f _ => PF f
theorem atT_le (N : Nat) (st : Bys × Bys) : atT N st ≤ N := by unfold atT; omega
section
variable {nms : List ByteArray} {N : Nat} {PF : Ltl → Prop}
structure PFo (nms : List ByteArray) (N : Nat) (PF : Ltl → Prop) : Prop where
  word : ∀ st, Res PF N (wordR nms N st)
  t : PF (.mk 1 0 [])
  one : ∀ k f, k ≠ 3 → PF f → PF (.mk k 0 [f])
  two : ∀ k f g, k ≠ 3 → PF f → PF g → PF (.mk k 0 [f, g])
theorem PFo.arrows (h : PFo nms N PF) : ∀ (left : List Ltl) (f : Ltl), (∀ g ∈ left, PF g) → PF f → PF (arrows left f)
  | [], f, _, hf => hf
  | g :: r, f, hl, hf => h.two 6 _ _ (by decide) (h.one 4 g (by decide) (hl g (by simp))) (PFo.arrows h r f (fun x hx => hl x (by simp [hx])) hf)
theorem PFo.wayT (h : PFo nms N PF) {s : Bys} {f g : Ltl} (hf : PF f) (hg : PF g) : PF (wayT s f g) := by
  unfold Go.Proofs.YtikigaeihdmcaaaGreatDoor.wayT
  split
  · exact h.two 8 f g (by decide) hf hg
  split
  · exact h.two 9 f g (by decide) hf hg
  · refine h.two 9 _ _ (by decide) hg (h.two 6 _ _ (by decide) hf ?_)
    split
    · exact hg
    · exact h.t
theorem p_ind (h : PFo nms N PF) : ∀ n : Nat, (∀ o left st, (∀ g ∈ left, PF g) → Res PF N (pFor nms N n o left st)) ∧ (∀ lv o st, Res PF N (pRow nms N n lv o st)) ∧ (∀ lv o f st, PF f → Res PF N (pRowL nms N n lv o f st)) ∧
    (∀ lv o st, Res PF N (pPart nms N n lv o st)) ∧ (∀ o st, Res PF N (pWay nms N n o st)) ∧ (∀ o st, Res PF N (pSin nms N n o st))
  | 0 => by
    have h0 : Res PF N (.er 3 0) := ⟨by decide, by omega⟩
    exact ⟨fun _ _ _ _ => by rw [pFor]; exact h0, fun _ _ _ => by rw [pRow]; exact h0, fun _ _ _ _ _ => by rw [pRowL]; exact h0, fun _ _ _ => by rw [pPart]; exact h0, fun _ _ => by rw [pWay]; exact h0, fun _ _ => by rw [pSin]; exact h0⟩
  | n + 1 => by
    obtain ⟨iF, iR, iL, iP, iW, iS⟩ := p_ind h n
    refine ⟨fun o left st hl => ?_, fun lv o st => ?_, fun lv o f st hf => ?_, fun lv o st => ?_, fun o st => ?_, fun o st => ?_⟩
    · rw [pFor]
      have h1 := iR true o st
      cases e : pRow nms N n true o st with
      | er c a => rw [e] at h1; exact h1
      | ok f st' =>
        rw [e] at h1
        dsimp only
        split
        · exact iF _ _ _ (fun g hg => by
            rcases List.mem_append.1 hg with hg | hg
            · exact hl g hg
            · rw [List.mem_singleton.1 hg]; exact h1)
        · exact h.arrows left f hl h1
    · rw [pRow]
      have h1 := iP lv o st
      cases e : pPart nms N n lv o st with
      | er c a => rw [e] at h1; exact h1
      | ok f st' => rw [e] at h1; exact iL lv o f st' h1
    · rw [pRowL]
      split
      · have h1 := iP lv o (nxT st.2)
        cases e : pPart nms N n lv o (nxT st.2) with
        | er c a => rw [e] at h1; exact h1
        | ok g st' => rw [e] at h1; exact iL lv o _ st' (h.two _ f g (by unfold knR; split <;> decide) hf h1)
      · exact hf
    · cases lv
      · rw [pPart]; exact iW o st
      · rw [pPart]; exact iR false o st
    · rw [pWay]
      have h1 := iS o st
      cases e : pSin nms N n o st with
      | er c a => rw [e] at h1; exact h1
      | ok f st' =>
        rw [e] at h1
        dsimp only
        split
        · have h2 := iW o (nxT st'.2)
          cases e2 : pWay nms N n o (nxT st'.2) with
          | er c a => rw [e2] at h2; exact h2
          | ok g st2 => rw [e2] at h2; exact h.wayT h1 h2
        · exact h1
    · rw [pSin]
      split
      · rename_i hk
        split
        · exact ⟨by decide, atT_le N st⟩
        · have h1 := iS (o + 1) (nxT st.2)
          cases e : pSin nms N n (o + 1) (nxT st.2) with
          | er c a => rw [e] at h1; exact h1
          | ok f st' =>
            rw [e] at h1
            refine h.one _ f ?_ h1
            unfold preK
            repeat (first | split | decide)
      split
      · split
        · exact ⟨by decide, atT_le N st⟩
        · have h1 := iF (o + 1) [] (nxT st.2) (fun g hg => by cases hg)
          cases e : pFor nms N n (o + 1) [] (nxT st.2) with
          | er c a => rw [e] at h1; exact h1
          | ok f st' =>
            rw [e] at h1
            dsimp only
            split
            · exact h1
            · exact ⟨by decide, atT_le N st'⟩
      split
      · exact ⟨by decide, atT_le N st⟩
      · exact h.word st
end
end Go.Proofs.YtikigaeihdmcaaaGreatDoor

