import Derived.Stop.IfaceNil
import Derived.Test.YtikigaeihdmcaaaDoorPtLtlAgain3
/-
  Texts of formulas of one way: what is printed, what is read: plain.
-/
set_option linter.unusedVariables false
set_option linter.unusedSimpArgs false
namespace Go.Proofs.YtikigaeihdmcaaaDoor

abbrev Bys := List UInt8
/-- the next token of what is left, and what is left behind it -/
def nxT (r : Bys) : Bys × Bys :=
  match r.dropWhile (fun c => c == 32) with
  | [] => ([], [])
  | c :: t => if lowB c = true then ((c :: t).takeWhile lowB, (c :: t).dropWhile lowB) else match t with
    | [] => ([c], [])
    | d :: u => if (c == 45 && d == 62) = true then ([c, d], u) else ([c], d :: u)
theorem nxT_nil : nxT [] = ([], []) := rfl
theorem nxT_sp (r : Bys) : nxT (32 :: r) = nxT r := by
  unfold nxT
  rw [show List.dropWhile (fun c : UInt8 => c == 32) (32 :: r) = List.dropWhile (fun c : UInt8 => c == 32) r from by simp [List.dropWhile]]
def stopT (r : Bys) : Prop := ∀ c, r.head? = some c → lowB c = false
theorem low_sp : ∀ c : UInt8, lowB c = true → (c == 32) = false := by
  intro c h
  rw [← Bool.not_eq_true]
  intro e
  have : c = 32 := by simpa using e
  subst this
  revert h; decide
theorem takeW_all {l r : Bys} (h : ∀ c ∈ l, lowB c = true) (hr : stopT r) : (l ++ r).takeWhile lowB = l ∧ (l ++ r).dropWhile lowB = r := by
  induction l with
  | nil =>
    cases r with
    | nil => exact ⟨rfl, rfl⟩
    | cons c t =>
      have := hr c rfl
      simp [List.takeWhile, List.dropWhile, this]
  | cons c l ih =>
    have hc := h c (by simp)
    have := ih (fun d hd => h d (by simp [hd]))
    simp only [List.cons_append, List.takeWhile, List.dropWhile, hc]
    exact ⟨by rw [this.1], this.2⟩
theorem nxT_word {l r : Bys} (h : ∀ c ∈ l, lowB c = true) (hn : l ≠ []) (hr : stopT r) : nxT (l ++ r) = (l, r) := by
  cases l with
  | nil => exact absurd rfl hn
  | cons c l =>
    have hc := h c (by simp)
    have hd : ((c :: l) ++ r).dropWhile (fun c => c == 32) = c :: (l ++ r) := by simp [List.dropWhile, low_sp c hc]
    unfold nxT
    rw [hd]
    simp only [hc, if_true]
    have := takeW_all (l := c :: l) h hr
    rw [List.cons_append] at this
    rw [this.1, this.2]
theorem nxT_sym {c : UInt8} {r : Bys} (h : lowB c = false) (h1 : (c == 32) = false) (h2 : (c == 45) = false) : nxT (c :: r) = ([c], r) := by
  unfold nxT
  rw [show List.dropWhile (fun c : UInt8 => c == 32) (c :: r) = c :: r from by simp [List.dropWhile, h1]]
  simp only [h]
  cases r with
  | nil => rfl
  | cons d u => simp [h2]
theorem nxT_len (r : Bys) : (nxT r).1.length + (nxT r).2.length ≤ r.length := by
  have h0 : (r.dropWhile (fun c => c == 32)).length ≤ r.length := by
    have := congrArg List.length (List.takeWhile_append_dropWhile (p := fun c : UInt8 => c == 32) (l := r))
    rw [List.length_append] at this; omega
  unfold nxT
  revert h0
  generalize r.dropWhile (fun c => c == 32) = q
  intro h0
  cases q with
  | nil => simp
  | cons c t =>
    dsimp only
    split
    · have := congrArg List.length (List.takeWhile_append_dropWhile (p := lowB) (l := c :: t))
      rw [List.length_append] at this
      dsimp only
      omega
    · cases t with
      | nil => simp at h0 ⊢; omega
      | cons d u =>
        dsimp only
        split <;> (simp only [List.length_cons, List.length_nil] at h0 ⊢; omega)
def tTrue : Bys := [116, 114, 117, 101]
def tFalse : Bys := [102, 97, 108, 115, 101]
def tSil : Bys := [115, 105, 108, 101, 110, 116]
/-- a name's place -/
def idxB (nms : List ByteArray) (l : Bys) : Int := match nms.findIdx? (fun x => x.data.toList == l) with
  | some i => (i : Int)
  | none => -1
theorem idxB_some {nms : List ByteArray} {l : Bys} (h : ¬ idxB nms l < 0) : ∃ (i : Nat) (hi : i < nms.length), idxB nms l = (i : Int) ∧ nms[i].data.toList = l := by
  unfold idxB at h ⊢
  cases e : nms.findIdx? (fun x => x.data.toList == l) with
  | none => rw [e] at h; exact absurd (by decide) h
  | some i =>
    obtain ⟨h1, h2, _⟩ := List.findIdx?_eq_some_iff_getElem.1 e
    exact ⟨i, h1, rfl, by simpa using h2⟩
/-- the name of an atom; none: it has no one -/
def nmL (nms : List ByteArray) (n : Int) : Bys :=
  if n = 63 then tSil else if n ≥ (nms.length : Int) then [] else if namedB (nms.getD n.toNat ⟨#[]⟩) = false then []
  else if idxB nms (nms.getD n.toNat ⟨#[]⟩).data.toList ≠ n then [] else (nms.getD n.toNat ⟨#[]⟩).data.toList
theorem named_low {l : Bys} (h : namedL l = true) : ∀ c ∈ l, lowB c = true := by
  unfold namedL at h
  simp only [Bool.and_eq_true] at h
  exact List.all_eq_true.1 h.2
theorem named_ne {l : Bys} (h : namedL l = true) : l ≠ [] ∧ l ≠ tTrue ∧ l ≠ tFalse ∧ l ≠ tSil ∧ l.length ≤ 8 := by
  unfold namedL at h
  simp only [Bool.and_eq_true, Bool.not_eq_true', beq_eq_false_iff_ne, decide_eq_false_iff_not] at h
  obtain ⟨⟨⟨⟨⟨h1, h2⟩, h3⟩, h4⟩, h5⟩, _⟩ := h
  exact ⟨h1, h3, h4, h5, by omega⟩
theorem nmL_ok {nms : List ByteArray} {n : Int} (h0 : 0 ≤ n) (h : nmL nms n ≠ []) : (n = 63 ∧ nmL nms n = tSil) ∨ (n ≠ 63 ∧ namedL (nmL nms n) = true ∧ idxB nms (nmL nms n) = n) := by
  unfold nmL at h ⊢
  by_cases e : n = 63
  · left; exact ⟨e, if_pos e⟩
  · right
    rw [if_neg e] at h ⊢
    by_cases e1 : n ≥ (nms.length : Int)
    · rw [if_pos e1] at h; exact absurd rfl h
    rw [if_neg e1] at h ⊢
    by_cases e2 : namedB (nms.getD n.toNat ⟨#[]⟩) = false
    · rw [if_pos e2] at h; exact absurd rfl h
    rw [if_neg e2] at h ⊢
    by_cases e3 : idxB nms (nms.getD n.toNat ⟨#[]⟩).data.toList ≠ n
    · rw [if_pos e3] at h; exact absurd rfl h
    rw [if_neg e3]
    exact ⟨e, by simpa using e2, by simpa using e3⟩
theorem nmL_len (nms : List ByteArray) (n : Int) : (nmL nms n).length ≤ 8 := by
  unfold nmL
  split
  · decide
  split
  · simp
  split
  · simp
  rename_i h
  split
  · simp
  exact (named_ne (l := (nms.getD n.toNat ⟨#[]⟩).data.toList) (by simpa using h)).2.2.2.2
theorem nmL_low {nms : List ByteArray} {n : Int} (h0 : 0 ≤ n) (h : nmL nms n ≠ []) : ∀ c ∈ nmL nms n, lowB c = true := by
  rcases nmL_ok h0 h with ⟨_, e⟩ | ⟨_, e, _⟩
  · rw [e]; decide
  · exact named_low e

/- PRINTED -/
def bareL (k i kid : Int) : Bool := if kid = 5 then k == 6 || (k == 5 && i == 0) else if kid = 6 then k == 6 && i == 0 else if kid = 8 ∨ kid = 9 then k == kid && i == 1 else true
def kidT (b : Bool) (t : Bys) : Bys := if b = true then t else 40 :: (t ++ [41])
def sigL (k : Int) : Bys := if k = 5 then [38] else if k = 6 then [47] else if k = 8 then [85] else if k = 9 then [82] else []
def joinL (nm : Int → Bys) (k n : Int) (ks : List (Int × Bys)) : Bys :=
  if k = 1 then tTrue else if k = 2 then tFalse else if k = 3 then nm n
  else if k = 4 then 33 :: kidT (bareL k 0 (ks.getD 0 (0, [])).1) (ks.getD 0 (0, [])).2
  else if k = 7 then 88 :: 32 :: kidT (bareL k 0 (ks.getD 0 (0, [])).1) (ks.getD 0 (0, [])).2
  else if k = 10 then 70 :: 32 :: kidT (bareL k 0 (ks.getD 0 (0, [])).1) (ks.getD 0 (0, [])).2
  else if k = 11 then 71 :: 32 :: kidT (bareL k 0 (ks.getD 0 (0, [])).1) (ks.getD 0 (0, [])).2
  else kidT (bareL k 0 (ks.getD 0 (0, [])).1) (ks.getD 0 (0, [])).2 ++ [32] ++ sigL k ++ [32] ++ kidT (bareL k 1 (ks.getD 1 (0, [])).1) (ks.getD 1 (0, [])).2
mutual
def txtL (nm : Int → Bys) : Ltl → Bys
  | .mk k n kids => joinL nm k n (txtLs nm kids)
def txtLs (nm : Int → Bys) : List Ltl → List (Int × Bys)
  | [] => []
  | x :: r => (x.k, txtL nm x) :: txtLs nm r
end
mutual
def badF (nm : Int → Bys) : Ltl → Bool
  | .mk k n kids => (k == 3 && nm n == []) || badFs nm kids
def badFs (nm : Int → Bys) : List Ltl → Bool
  | [] => false
  | x :: r => badF nm x || badFs nm r
end
/-- what Print tells -/
def printL (f : Ltl) (nms : List ByteArray) : Bys × Int :=
  if (chkF f 1 0).1 ≠ 0 then ([], (chkF f 1 0).1) else if badF (nmL nms) f = true then ([], 4) else (txtL (nmL nms) f, 0)
theorem kidT_len (b : Bool) (t : Bys) : (kidT b t).length ≤ t.length + 2 := by
  unfold kidT; split <;> simp
theorem joinL_len {nm : Int → Bys} (hn : ∀ n, (nm n).length ≤ 8) (k n : Int) (ks : List (Int × Bys)) : (joinL nm k n ks).length ≤ (ks.getD 0 (0, [])).2.length + (ks.getD 1 (0, [])).2.length + 8 := by
  have h0 := kidT_len (bareL k 0 (ks.getD 0 (0, [])).1) (ks.getD 0 (0, [])).2
  have h1 := kidT_len (bareL k 1 (ks.getD 1 (0, [])).1) (ks.getD 1 (0, [])).2
  have h2 := hn n
  have h3 : (sigL k).length ≤ 1 := by unfold sigL; repeat (first | split | simp)
  unfold joinL tTrue tFalse
  iterate 7 (split; · (first | omega | (simp only [List.length_append, List.length_cons, List.length_nil]; omega)))
  simp only [List.length_append, List.length_cons, List.length_nil]
  omega
mutual
theorem txtL_len {nm : Int → Bys} (hn : ∀ n, (nm n).length ≤ 8) : ∀ f : Ltl, (txtL nm f).length ≤ 8 * f.nodes
  | .mk k n kids => by
    have h := joinL_len hn k n (txtLs nm kids)
    have h2 := txtLs_len hn kids
    simp only [txtL, Ltl.nodes]
    have : ((txtLs nm kids).getD 0 (0, [])).2.length + ((txtLs nm kids).getD 1 (0, [])).2.length ≤ ((txtLs nm kids).map fun x => x.2.length).sum := by
      rcases txtLs nm kids with _ | ⟨a, _ | ⟨b, r⟩⟩ <;> simp <;> omega
    omega
theorem txtLs_len {nm : Int → Bys} (hn : ∀ n, (nm n).length ≤ 8) : ∀ l : List Ltl, ((txtLs nm l).map fun x => x.2.length).sum ≤ 8 * Ltl.nodesL l
  | [] => by simp [txtLs, Ltl.nodesL]
  | x :: r => by
    have h1 := txtL_len hn x
    have h2 := txtLs_len hn r
    simp only [txtLs, Ltl.nodesL, List.map_cons, List.sum_cons]
    omega
end
/- READ -/
inductive PR where
  | er (c : Int) (a : Nat) : PR
  | ok (f : Ltl) (st : Bys × Bys) : PR
def atT (N : Nat) (st : Bys × Bys) : Nat := N - st.2.length - st.1.length
def preK (t : Bys) : Int := if t = [33] then 4 else if t = [88] then 7 else if t = [70] then 10 else if t = [71] then 11 else 0
def wordR (nms : List ByteArray) (N : Nat) (st : Bys × Bys) : PR :=
  if st.1 = tTrue then .ok (.mk 1 0 []) (nxT st.2) else if st.1 = tFalse then .ok (.mk 2 0 []) (nxT st.2) else if st.1 = tSil then .ok (.mk 3 63 []) (nxT st.2)
  else if idxB nms st.1 < 0 ∨ idxB nms st.1 ≥ 63 ∨ namedL st.1 = false then .er 4 (atT N st) else .ok (.mk 3 (idxB nms st.1) []) (nxT st.2)
def arrows (left : List Ltl) (f : Ltl) : Ltl := left.foldr (fun g f => .mk 6 0 [.mk 4 0 [g], f]) f
def sgR (lv : Bool) : Bys := if lv = true then [47] else [38]
def knR (lv : Bool) : Int := if lv = true then 6 else 5
mutual
def szF : Ltl → Int → Int
  | .mk _ _ kids, n => szFs kids (n + 1)
def szFs : List Ltl → Int → Int
  | [], n => n
  | x :: r, n => if n > 60 then n else szFs r (szF x n)
end
def wayT (s : Bys) (f g : Ltl) : Ltl :=
  if s = [85] then .mk 8 0 [f, g] else if s = [82] then .mk 9 0 [f, g] else .mk 9 0 [g, .mk 6 0 [f, if szF g 0 ≤ 60 then g else .mk 1 0 []]]
mutual
def pFor (nms : List ByteArray) (N : Nat) : Nat → Nat → List Ltl → Bys × Bys → PR
  | 0, _, _, _ => .er 3 0
  | n + 1, o, left, st => match pRow nms N n true o st with
    | .er c a => .er c a
    | .ok f st' => if st'.1 = [45, 62] then pFor nms N n o (left ++ [f]) (nxT st'.2) else .ok (arrows left f) st'
def pRow (nms : List ByteArray) (N : Nat) : Nat → Bool → Nat → Bys × Bys → PR
  | 0, _, _, _ => .er 3 0
  | n + 1, lv, o, st => match pPart nms N n lv o st with
    | .er c a => .er c a
    | .ok f st' => pRowL nms N n lv o f st'
def pRowL (nms : List ByteArray) (N : Nat) : Nat → Bool → Nat → Ltl → Bys × Bys → PR
  | 0, _, _, _, _ => .er 3 0
  | n + 1, lv, o, f, st => if st.1 = sgR lv then match pPart nms N n lv o (nxT st.2) with
      | .er c a => .er c a
      | .ok g st' => pRowL nms N n lv o (.mk (knR lv) 0 [f, g]) st'
    else .ok f st
def pPart (nms : List ByteArray) (N : Nat) : Nat → Bool → Nat → Bys × Bys → PR
  | 0, _, _, _ => .er 3 0
  | n + 1, true, o, st => pRow nms N n false o st
  | n + 1, false, o, st => pWay nms N n o st
def pWay (nms : List ByteArray) (N : Nat) : Nat → Nat → Bys × Bys → PR
  | 0, _, _ => .er 3 0
  | n + 1, o, st => match pSin nms N n o st with
    | .er c a => .er c a
    | .ok f st' => if st'.1 = [85] ∨ st'.1 = [82] ∨ st'.1 = [87] then match pWay nms N n o (nxT st'.2) with
        | .er c a => .er c a
        | .ok g st2 => .ok (wayT st'.1 f g) st2
      else .ok f st'
def pSin (nms : List ByteArray) (N : Nat) : Nat → Nat → Bys × Bys → PR
  | 0, _, _ => .er 3 0
  | n + 1, o, st => if 0 < preK st.1 then if o = 20 then .er 5 (atT N st) else match pSin nms N n (o + 1) (nxT st.2) with
        | .er c a => .er c a
        | .ok f st' => .ok (.mk (preK st.1) 0 [f]) st'
    else if st.1 = [40] then if o = 20 then .er 5 (atT N st) else match pFor nms N n (o + 1) [] (nxT st.2) with
        | .er c a => .er c a
        | .ok f st' => if st'.1 = [41] then .ok f (nxT st'.2) else .er 3 (atT N st')
    else if st.1 = [] ∨ lowB (st.1.headD 0) = false then .er 3 (atT N st)
    else wordR nms N st
end
/-- what Parse tells -/
def parseL (s : Bys) (nms : List ByteArray) : Ltl × Nat × Int :=
  if s.length > 300 then (.mk 0 0 [], 0, 2) else match pFor nms s.length (10 * s.length + 20) 0 [] (nxT s) with
    | .er c a => (.mk 0 0 [], a, c)
    | .ok f st => if st.1 ≠ [] then (.mk 0 0 [], atT s.length st, 3) else if (chkF f 1 0).1 ≠ 0 then (.mk 0 0 [], s.length, (chkF f 1 0).1) else (f, 0, 0)
end Go.Proofs.YtikigaeihdmcaaaDoor

/-
  Reading a text: nil errors, bytes and parts of texts, functions of a receiver. Over any program. What the next token is: plain.
-/
set_option linter.unusedVariables false
set_option linter.unusedSimpArgs false
namespace Go.Proofs.YtikigaeihdmcaaaDoor
open Go.RowKit

class IsIf (P : Program) (t : TypeId) : Prop where
  ok : P.isIface t = true
/-- an error, nil or not -/
def errI : Value → Bool | .nilIface => true | .iface _ _ => true | _ => false
def nilI : Value → Bool | .nilIface => true | _ => false
section
variable {P : Program} {Q : Exit → Act → World → Prop} {n : Nat} {σ : Sg} {w : World} {L rest : List Oper} {d : Nat} {op : Op} {ty : TypeId} {pos : String} {af : Array Edge} {g : Option (Nat × Bool)} {t yt : TypeId} {x y ix : Operand}
theorem run_eqNil [hi : IsIf P t] {v : Value} (hv : errI v = true) (w : World) : ((do eqGuard .eql t x (.const .nilIface) v .nilIface; binOp .eql t v .nilIface : Sem Value)).run P w = .ok (.bool (nilI v)) w := by
  cases v <;> simp [errI] at hv
  · rename_i u z
    have h1 : eqGuard .eql t x (.const .nilIface) (.iface u z) .nilIface = pure () := rfl
    have h2 := Go.run_eql_iface_nil (P := P) w t hi.ok u z
    rw [h1, Sem.run_bind]
    simpa [nilI] using h2
  · rw [eqGuard_nil_constR, Sem.run_bind]
    have h2 := Go.run_eql_nil_nil_at (P := P) w t hi.ok
    simpa [nilI] using h2
theorem run_neNil [hi : IsIf P t] {v : Value} (hv : errI v = true) (w : World) : ((do eqGuard .neq t x (.const .nilIface) v .nilIface; binOp .neq t v .nilIface : Sem Value)).run P w = .ok (.bool (!nilI v)) w := by
  cases v <;> simp [errI] at hv
  · rename_i u z
    have h1 : eqGuard .neq t x (.const .nilIface) (.iface u z) .nilIface = pure () := rfl
    have h2 := Go.run_neq_iface_nil (P := P) w t hi.ok u z
    rw [h1, Sem.run_bind]
    simpa [nilI] using h2
  · rw [eqGuard_nil_constR, Sem.run_bind]
    have h2 := Go.run_neq_nil_nil_at (P := P) w t hi.ok
    simpa [nilI] using h2
/-- err == nil -/
theorem WL.eqNil {v : Value} (hg : gd L σ ⟨some d, .binOp .eql t x (.const .nilIface) yt, ty, pos, af, g⟩ = some true) (hd : Nat.ble (d + 1) n = true) (hx : ev σ x = some v) [hi : IsIf P t] (hv : errI v = true)
    (h : WL P L Q rest n ((d, .bool (nilI v)) :: σ) w) : WL P L Q (⟨some d, .binOp .eql t x (.const .nilIface) yt, ty, pos, af, g⟩ :: rest) n σ w := by
  refine WL.run hg hd (fun c hc => ?_) h
  have := run_eqNil (P := P) (t := t) (x := x) hv w
  simp only [execOp, hc.ev hx]
  rw [Sem.run_bind]
  show Result.andThen (Sem.run P _ w) _ = _
  rw [show (Act.eval c (Operand.const Value.nilIface)) = Value.nilIface from rfl, this]; rfl
theorem WL.neNil {v : Value} (hg : gd L σ ⟨some d, .binOp .neq t x (.const .nilIface) yt, ty, pos, af, g⟩ = some true) (hd : Nat.ble (d + 1) n = true) (hx : ev σ x = some v) [hi : IsIf P t] (hv : errI v = true)
    (h : WL P L Q rest n ((d, .bool (!nilI v)) :: σ) w) : WL P L Q (⟨some d, .binOp .neq t x (.const .nilIface) yt, ty, pos, af, g⟩ :: rest) n σ w := by
  refine WL.run hg hd (fun c hc => ?_) h
  have := run_neNil (P := P) (t := t) (x := x) hv w
  simp only [execOp, hc.ev hx]
  rw [Sem.run_bind]
  show Result.andThen (Sem.run P _ w) _ = _
  rw [show (Act.eval c (Operand.const Value.nilIface)) = Value.nilIface from rfl, this]; rfl
theorem txA_get {l : List UInt8} {i : Nat} (h : i < l.length) : (txA l)[i]? = some l[i] := by
  have : i < (txA l).size := by rw [txA_size]; exact h
  rw [getElem?_pos (txA l) i this]
  show some (l.toArray[i]'(by simpa using h)) = _
  simp
theorem run_byte {s : List UInt8} {i : Nat} {kd : IntKind} [hs : IsStr P t] (h1 : i < s.length) (w : World) : (Instr.index t (tV s) (.int kd (i : Int))).run P w = .ok (.int .u8 ((s[i]).toNat : Int)) w := by
  simp [Instr.index, asIntOf, run_underlying hs.ok, txA_get h1]
/-- s[i] -/
theorem WL.byteL {s : List UInt8} {i : Nat} {kd : IntKind} (hg : gd L σ ⟨some d, .index t x ix, ty, pos, af, g⟩ = some true) (hd : Nat.ble (d + 1) n = true)
    (hx : ev σ x = some (tV s)) (hi : ev σ ix = some (.int kd (i : Int))) [hs : IsStr P t] (h1 : i < s.length) (h : WL P L Q rest n ((d, .int .u8 ((s[i]).toNat : Int)) :: σ) w) : WL P L Q (⟨some d, .index t x ix, ty, pos, af, g⟩ :: rest) n σ w := by
  refine WL.run hg hd (fun a ha => ?_) h
  have := run_byte (P := P) (t := t) (kd := kd) h1 w
  simp only [execOp, ha.ev hx, ha.ev hi]
  rw [Sem.run_bind, this]; rfl
theorem QL.byteL {s : List UInt8} {i : Nat} {kd : IntKind} (hg : gd L σ ⟨some d, .index t x ix, ty, pos, af, g⟩ = some true) (hd : Nat.ble (d + 1) n = true)
    (hx : ev σ x = some (tV s)) (hi : ev σ ix = some (.int kd (i : Int))) [hs : IsStr P t] (h1 : i < s.length) (h : QL P L w Q rest n ((d, .int .u8 ((s[i]).toNat : Int)) :: σ)) : QL P L w Q (⟨some d, .index t x ix, ty, pos, af, g⟩ :: rest) n σ := by
  refine QL.run hg hd (fun a ha w' _ => ?_) h
  have := run_byte (P := P) (t := t) (kd := kd) h1 w'
  simp only [execOp, ha.ev hx, ha.ev hi]
  rw [Sem.run_bind, this]; rfl
theorem txA_cut {l : List UInt8} {i j : Nat} : (txA l).extract i j = txA ((l.take j).drop i) := by
  apply ByteArray.ext
  simp [txA, ByteArray.data_extract, List.drop_take]
theorem run_cutT {s : List UInt8} {i j : Nat} {k1 k2 : IntKind} [hs : IsStr P t] (h1 : i ≤ j) (h2 : j ≤ s.length) (w : World) : (Instr.sliceAt t (tV s) (some (.int k1 (i : Int))) (some (.int k2 (j : Int))) none).run P w = .ok (tV ((s.take j).drop i)) w := by
  have hz := txA_size s
  simp [Instr.sliceAt, Instr.slice, Instr.sliceBounds, Instr.sliceBound, asIntOf, run_underlying hs.ok, hz, h1, h2, txA_cut]
theorem HL.cutT {S : World → Prop} {ord : List (Nat × Bool)} {o : Nat} {s : List UInt8} {i j : Nat} {k1 k2 : IntKind} (ho : nthO L o = some ⟨some d, .slice t x (some y) (some ix) none, ty, pos, af, g⟩) (hg : gd L σ ⟨some d, .slice t x (some y) (some ix) none, ty, pos, af, g⟩ = some true) (hd : Nat.ble (d + 1) n = true)
    (hx : ev σ x = some (tV s)) (hy : ev σ y = some (.int k1 (i : Int))) (hz : ev σ ix = some (.int k2 (j : Int))) [hs : IsStr P t] (h1 : i ≤ j) (h2 : j ≤ s.length) (h : HL P L S Q ord n ((d, tV ((s.take j).drop i)) :: σ) w) : HL P L S Q ((o, true) :: ord) n σ w := by
  refine HL.run ho hg hd (fun a ha w' _ => ?_) h
  have := run_cutT (P := P) (t := t) (k1 := k1) (k2 := k2) h1 h2 w'
  simp only [execOp, ha.ev hx, ha.ev hy, ha.ev hz, Option.map_some, Option.map_none]
  rw [Sem.run_bind, this]; rfl
/-- a pointer that becomes an interface value -/
theorem WL.mkIf {v : Value} {T : TypeDesc} (hg : gd L σ ⟨some d, .makeInterface t x, ty, pos, af, g⟩ = some true) (hd : Nat.ble (d + 1) n = true) (hx : ev σ x = some v) (hT : P.underlying t = some T) (hn : (match T with | .interface _ => true | _ => false) = false)
    (h : WL P L Q rest n ((d, .iface t v) :: σ) w) : WL P L Q (⟨some d, .makeInterface t x, ty, pos, af, g⟩ :: rest) n σ w := by
  refine WL.run hg hd (fun c hc => ?_) h
  simp only [execOp, hc.ev hx, Instr.makeInterface]
  rw [Sem.run_bind, Sem.run_bind, run_underlying hT]
  cases T <;> simp_all
end
/-- a function of a receiver -/
theorem FnV.mkM {P : Program} {f : FuncId} {fs args : List Value} {w : World} {R : Value → World → Prop} [hf : IsF P f] (h : Rt P f (fs ++ args).toArray w R) : FnV P (.func (.func f) fs.toArray [].toArray) args w R :=
  ⟨f, fs, [], rfl, hf, by simpa using h⟩

/- THE NEXT TOKEN, BY PLACES -/
theorem dropW_all {p : UInt8 → Bool} {a b : Bys} (h : ∀ c ∈ a, p c = true) (hb : ∀ c, b.head? = some c → p c = false) : (a ++ b).dropWhile p = b := by
  induction a with
  | nil =>
    cases b with
    | nil => rfl
    | cons c t => simp [List.dropWhile, hb c rfl]
  | cons c a ih => simp [List.dropWhile, h c (by simp), ih (fun d hd => h d (by simp [hd]))]
theorem drop_split {s : Bys} {e i : Nat} (h : e ≤ i) : s.drop e = (s.drop e).take (i - e) ++ s.drop i := by
  rw [show s.drop i = (s.drop e).drop (i - e) by rw [List.drop_drop]; congr 1; omega, List.take_append_drop]
theorem take_mem {s : Bys} {e i : Nat} {p : UInt8 → Bool} (h : ∀ k (hk : k < s.length), e ≤ k → k < i → p s[k] = true) : ∀ c ∈ (s.drop e).take (i - e), p c = true := by
  intro c hc
  obtain ⟨j, hj, rfl⟩ := List.mem_iff_getElem.1 hc
  rw [List.length_take, List.length_drop] at hj
  rw [List.getElem_take, List.getElem_drop]
  exact h _ (by omega) (by omega) (by omega)
theorem head_drop {s : Bys} {i : Nat} {c : UInt8} (h : (s.drop i).head? = some c) : ∃ hi : i < s.length, c = s[i] := by
  rw [List.head?_drop] at h
  obtain ⟨hi, e⟩ := List.getElem?_eq_some_iff.1 h
  exact ⟨hi, e.symm⟩
theorem nx_done {s : Bys} {e i j : Nat} (hei : e ≤ i) (hij : i ≤ j) (hj : j ≤ s.length) (h1 : ∀ k (hk : k < s.length), e ≤ k → k < i → (s[k] == 32) = true) (h2 : ∀ hk : i < s.length, (s[i] == 32) = false)
    (h3 : ∀ k (hk : k < s.length), i ≤ k → k < j → lowB s[k] = true) (h4 : ∀ hk : j < s.length, lowB s[j] = false) :
    (i < j ∨ i = s.length → nxT (s.drop e) = ((s.take j).drop i, s.drop j)) ∧ (i = j → i < s.length → s[i]? = some 45 → s[i + 1]? = some 62 → nxT (s.drop e) = ((s.take (i + 2)).drop i, s.drop (i + 2))) ∧
    (i = j → i < s.length → ¬ (s[i]? = some 45 ∧ s[i + 1]? = some 62) → nxT (s.drop e) = ((s.take (i + 1)).drop i, s.drop (i + 1))) := by
  have hd : (s.drop e).dropWhile (fun c => c == 32) = s.drop i := by
    rw [drop_split hei]
    exact dropW_all (take_mem h1) (fun c hc => by obtain ⟨hi, rfl⟩ := head_drop hc; exact h2 hi)
  have hdt : ∀ m, (s.take m).drop i = (s.drop i).take (m - i) := fun m => by rw [List.drop_take]
  have hsp := takeW_all (l := (s.drop i).take (j - i)) (r := s.drop j) (take_mem h3) (fun c hc => by obtain ⟨hi, rfl⟩ := head_drop hc; exact h4 hi)
  rw [← drop_split hij] at hsp
  unfold nxT
  rw [hd, hdt, hdt, hdt]
  refine ⟨fun h => ?_, fun h hi a b => ?_, fun h hi a => ?_⟩
  · by_cases hi : i < s.length
    · have hij' : i < j := by omega
      have hc : lowB s[i] = true := h3 i hi (Nat.le_refl _) hij'
      rw [List.drop_eq_getElem_cons hi] at hsp ⊢
      dsimp only
      rw [if_pos hc, hsp.1, hsp.2]
    · have : s.drop i = [] := List.drop_eq_nil_of_le (by omega)
      rw [this, show s.drop j = [] from List.drop_eq_nil_of_le (by omega)]
      simp
  · subst h
    have hc : ¬ lowB s[i] = true := by rw [h4 hi]; decide
    have hi1 : i + 1 < s.length := by obtain ⟨h, _⟩ := List.getElem?_eq_some_iff.1 b; exact h
    obtain ⟨_, ea⟩ := List.getElem?_eq_some_iff.1 a
    obtain ⟨_, eb⟩ := List.getElem?_eq_some_iff.1 b
    rw [List.drop_eq_getElem_cons hi, List.drop_eq_getElem_cons hi1]
    dsimp only
    rw [if_neg hc, if_pos (by rw [ea, eb]; rfl), show i + 2 - i = 2 by omega]
    rfl
  · subst h
    have hc : ¬ lowB s[i] = true := by rw [h4 hi]; decide
    rw [List.drop_eq_getElem_cons hi]
    dsimp only
    rw [if_neg hc]
    by_cases hi1 : i + 1 < s.length
    · rw [List.drop_eq_getElem_cons hi1]
      dsimp only
      rw [if_neg]
      · rw [show i + 1 - i = 1 by omega]; rfl
      · intro h
        rw [Bool.and_eq_true, beq_iff_eq, beq_iff_eq] at h
        exact a ⟨by rw [List.getElem?_eq_getElem hi, h.1], by rw [List.getElem?_eq_getElem hi1, h.2]⟩
    · rw [show s.drop (i + 1) = [] from List.drop_eq_nil_of_le (by omega), show i + 1 - i = 1 by omega]
      rfl
end Go.Proofs.YtikigaeihdmcaaaDoor

/-
  What is printed is read as it was: plain.
-/
set_option linter.unusedVariables false
set_option linter.unusedSimpArgs false
namespace Go.Proofs.YtikigaeihdmcaaaDoor

inductive OkL (nms : List ByteArray) : Ltl → Prop
  | t : OkL nms (.mk 1 0 [])
  | f : OkL nms (.mk 2 0 [])
  | a (n : Int) : 0 ≤ n → n ≤ 63 → nmL nms n ≠ [] → OkL nms (.mk 3 n [])
  | one (k : Int) (x : Ltl) : (k = 4 ∨ k = 7 ∨ k = 10 ∨ k = 11) → OkL nms x → OkL nms (.mk k 0 [x])
  | two (k : Int) (x y : Ltl) : (k = 5 ∨ k = 6 ∨ k = 8 ∨ k = 9) → OkL nms x → OkL nms y → OkL nms (.mk k 0 [x, y])
theorem kidsK_nat {k : Int} {m : Nat} (h : kidsK k = (m : Int)) : (m = 0 ∧ (k = 1 ∨ k = 2 ∨ k = 3)) ∨ (m = 1 ∧ (k = 4 ∨ k = 7 ∨ k = 10 ∨ k = 11)) ∨ (m = 2 ∧ (k = 5 ∨ k = 6 ∨ k = 8 ∨ k = 9)) := by
  unfold kidsK at h
  split at h
  · left; exact ⟨by omega, by assumption⟩
  split at h
  · right; left; exact ⟨by omega, by assumption⟩
  split at h
  · right; right; exact ⟨by omega, by assumption⟩
  · omega
mutual
theorem okT_of {nms : List ByteArray} : ∀ (f : Ltl) (d c : Int), (chkF f d c).1 = 0 → badF (nmL nms) f = false → OkL nms f
  | .mk k n kids, d, c, h, hb => by
    simp only [chkF] at h
    split at h
    · cases h
    split at h
    · cases h
    split at h
    · cases h
    rename_i h1 h2 h3
    simp only [not_or] at h3
    obtain ⟨h3, h4, h5, h6⟩ := h3
    simp only [badF, Bool.or_eq_false_iff] at hb
    have hk := okT_ofL kids (d + 1) (c + 1) h hb.2
    have h3 : kidsK k = (kids.length : Int) := by omega
    have h6 : k = 3 ∨ n = 0 := by omega
    rcases kidsK_nat h3 with ⟨hl, hc⟩ | ⟨hl, hc⟩ | ⟨hl, hc⟩
    · obtain rfl : kids = [] := List.eq_nil_of_length_eq_zero hl
      rcases hc with rfl | rfl | rfl
      · obtain rfl : n = 0 := by omega
        exact .t
      · obtain rfl : n = 0 := by omega
        exact .f
      · refine .a n (by omega) (by omega) ?_
        have := hb.1
        simpa using this
    · obtain rfl : n = 0 := by omega
      match kids, hl, hk with
      | [x], _, hk => exact .one k x hc (hk x (by simp))
    · obtain rfl : n = 0 := by omega
      match kids, hl, hk with
      | [x, y], _, hk => exact .two k x y hc (hk x (by simp)) (hk y (by simp))
theorem okT_ofL {nms : List ByteArray} : ∀ (l : List Ltl) (d c : Int), (chkFL l d c).1 = 0 → badFs (nmL nms) l = false → ∀ x ∈ l, OkL nms x
  | [], _, _, _, _ => fun x h => by cases h
  | y :: r, d, c, h, hb => by
    simp only [chkFL] at h
    split at h
    · rename_i h1; exact absurd h h1
    rename_i h1
    simp only [badFs, Bool.or_eq_false_iff] at hb
    intro x hx
    rcases List.mem_cons.1 hx with e | hx
    · rw [e]; exact okT_of y d c (by simpa using h1) hb.1
    · exact okT_ofL r d _ h hb.2 x hx
end
theorem atT_lt {N : Nat} {st : Bys × Bys} (h : st.1 ≠ []) (hN : 1 ≤ N) : atT N st < N := by
  unfold atT
  have := List.length_pos_iff.2 h
  omega
def Dp (N : Nat) (x y : PR) : Prop := x = y ∨ ∃ a, a < N ∧ x = .er 5 a
def UT (t : Bys) : Prop := t ≠ [85] ∧ t ≠ [82] ∧ t ≠ [87]
instance (t : Bys) : Decidable (UT t) := by unfold UT; infer_instance
section
variable {nms : List ByteArray} {t u : Bys} {f g : Ltl}
def SS (nms : List ByteArray) (t : Bys) (f : Ltl) : Prop := ∀ (r : Bys) (N o n : Nat), stopT r → 1 ≤ N → 10 * (t ++ r).length + 2 ≤ n → Dp N (pSin nms N n o (nxT (t ++ r))) (.ok f (nxT r))
def WW (nms : List ByteArray) (t : Bys) (f : Ltl) : Prop := ∀ (r : Bys) (N o n : Nat), stopT r → 1 ≤ N → UT (nxT r).1 → 10 * (t ++ r).length + 3 ≤ n → Dp N (pWay nms N n o (nxT (t ++ r))) (.ok f (nxT r))
def AA (nms : List ByteArray) (t : Bys) (f : Ltl) : Prop := ∀ (r : Bys) (N o n : Nat), stopT r → 1 ≤ N → UT (nxT r).1 → 10 * (t ++ r).length + 5 ≤ n →
  (∃ a, a < N ∧ pRow nms N n false o (nxT (t ++ r)) = .er 5 a) ∨ ∃ m, 10 * r.length + 4 ≤ m ∧ pRow nms N n false o (nxT (t ++ r)) = pRowL nms N m false o f (nxT r)
def OO (nms : List ByteArray) (t : Bys) (f : Ltl) : Prop := ∀ (r : Bys) (N o n : Nat), stopT r → 1 ≤ N → UT (nxT r).1 → (nxT r).1 ≠ [38] → 10 * (t ++ r).length + 7 ≤ n →
  (∃ a, a < N ∧ pRow nms N n true o (nxT (t ++ r)) = .er 5 a) ∨ ∃ m, 10 * r.length + 4 ≤ m ∧ pRow nms N n true o (nxT (t ++ r)) = pRowL nms N m true o f (nxT r)
def FF (nms : List ByteArray) (t : Bys) (f : Ltl) : Prop := ∀ (r : Bys) (N o n : Nat), stopT r → 1 ≤ N → UT (nxT r).1 → (nxT r).1 ≠ [38] → (nxT r).1 ≠ [47] → (nxT r).1 ≠ [45, 62] → 10 * (t ++ r).length + 8 ≤ n → Dp N (pFor nms N n o [] (nxT (t ++ r))) (.ok f (nxT r))
theorem SS.ww (h : SS nms t f) : WW nms t f := by
  intro r N o n hr hN hU hn
  obtain ⟨n, rfl⟩ : ∃ m, n = m + 1 := ⟨n - 1, by omega⟩
  simp only [pWay]
  rcases h r N o n hr hN (by omega) with e | ⟨a, ha, e⟩
  · rw [e]; left
    show (if _ then _ else _) = _
    rw [if_neg (by unfold UT at hU; simp only [not_or]; exact hU)]
  · rw [e]; right; exact ⟨a, ha, rfl⟩
theorem WW.aa (h : WW nms t f) : AA nms t f := by
  intro r N o n hr hN hU hn
  obtain ⟨n, rfl⟩ : ∃ m, n = m + 2 := ⟨n - 2, by omega⟩
  have hl : (t ++ r).length = t.length + r.length := List.length_append
  simp only [pRow, pPart]
  rcases h r N o n hr hN hU (by omega) with e | ⟨a, ha, e⟩
  · right; rw [e]; exact ⟨n + 1, by omega, rfl⟩
  · left; rw [e]; exact ⟨a, ha, rfl⟩
theorem AA.oo (h : AA nms t f) : OO nms t f := by
  intro r N o n hr hN hU hA hn
  obtain ⟨n, rfl⟩ : ∃ m, n = m + 2 := ⟨n - 2, by omega⟩
  have hl : (t ++ r).length = t.length + r.length := List.length_append
  rw [pRow, pPart]
  rcases h r N o n hr hN hU (by omega) with ⟨a, ha, e⟩ | ⟨m, hm, e⟩
  · left; rw [e]; exact ⟨a, ha, rfl⟩
  · right
    rw [e]
    obtain ⟨m, rfl⟩ : ∃ k, m = k + 1 := ⟨m - 1, by omega⟩
    rw [pRowL, if_neg (show ¬ (nxT r).1 = sgR false from hA)]
    exact ⟨n + 1, by omega, rfl⟩
theorem OO.ff (h : OO nms t f) : FF nms t f := by
  intro r N o n hr hN hU hA hO hF hn
  obtain ⟨n, rfl⟩ : ∃ m, n = m + 1 := ⟨n - 1, by omega⟩
  rw [pFor]
  rcases h r N o n hr hN hU hA (by omega) with ⟨a, ha, e⟩ | ⟨m, hm, e⟩
  · right; rw [e]; exact ⟨a, ha, rfl⟩
  · left
    rw [e]
    obtain ⟨m, rfl⟩ : ∃ k, m = k + 1 := ⟨m - 1, by omega⟩
    rw [pRowL, if_neg (show ¬ (nxT r).1 = sgR true from hO)]
    show (if _ then _ else _) = _
    rw [if_neg hF]
    rfl
theorem stop_sp (r : Bys) : stopT (32 :: r) := by intro c h; cases h; decide
theorem stop_cl (r : Bys) : stopT (41 :: r) := by intro c h; cases h; decide
theorem FF.ss (h : FF nms t f) : SS nms (40 :: (t ++ [41])) f := by
  intro r N o n hr hN hn
  have e1 : 40 :: (t ++ [41]) ++ r = 40 :: (t ++ (41 :: r)) := by simp
  rw [e1] at hn ⊢
  rw [nxT_sym (by decide) (by decide) (by decide)]
  obtain ⟨n, rfl⟩ : ∃ m, n = m + 1 := ⟨n - 1, by omega⟩
  rw [pSin, if_neg (show ¬ 0 < preK [40] by decide), if_pos rfl]
  by_cases ho : o = 20
  · rw [if_pos ho]; right; exact ⟨_, atT_lt (by simp) hN, rfl⟩
  rw [if_neg ho]
  have e2 : nxT (41 :: r) = ([41], r) := nxT_sym (by decide) (by decide) (by decide)
  simp only [List.length_cons] at hn
  rcases h (41 :: r) N (o + 1) n (stop_cl r) hN (by rw [e2]; show UT [41]; decide) (by rw [e2]; show ([41] : Bys) ≠ [38]; decide) (by rw [e2]; show ([41] : Bys) ≠ [47]; decide) (by rw [e2]; show ([41] : Bys) ≠ [45, 62]; decide) (by omega) with e | ⟨a, ha, e⟩
  · left
    rw [show nxT (([40], t ++ 41 :: r) : Bys × Bys).2 = nxT (t ++ 41 :: r) from rfl, e, e2]
    show (if _ then _ else _) = _
    rw [if_pos rfl]
  · right
    rw [show nxT (([40], t ++ 41 :: r) : Bys × Bys).2 = nxT (t ++ 41 :: r) from rfl, e]
    exact ⟨a, ha, rfl⟩
theorem ss_pre {k : Int} {c : UInt8} {q : Bys} (hc : lowB c = false) (h1 : (c == 32) = false) (h2 : (c == 45) = false) (hk : preK [c] = k) (hk0 : 0 < k) (hq : ∀ r, nxT (q ++ r) = nxT r) (h : SS nms t f) : SS nms (c :: (q ++ t)) (.mk k 0 [f]) := by
  intro r N o n hr hN hn
  rw [List.cons_append] at hn ⊢
  rw [nxT_sym hc h1 h2]
  obtain ⟨n, rfl⟩ : ∃ m, n = m + 1 := ⟨n - 1, by omega⟩
  rw [pSin, if_pos (by show 0 < preK [c]; omega)]
  by_cases ho : o = 20
  · rw [if_pos ho]; right; exact ⟨_, atT_lt (by simp) hN, rfl⟩
  rw [if_neg ho]
  simp only [List.length_cons, List.length_append] at hn
  have e0 : nxT (([c], q ++ t ++ r) : Bys × Bys).2 = nxT (t ++ r) := by show nxT (q ++ t ++ r) = _; rw [List.append_assoc, hq]
  rw [e0]
  rcases h r N (o + 1) n hr hN (by rw [List.length_append]; omega) with e | ⟨a, ha, e⟩
  · left; rw [e]; show PR.ok (.mk (preK [c]) 0 [f]) _ = _; rw [hk]
  · right; rw [e]; exact ⟨a, ha, rfl⟩
theorem pre_word {l : Bys} (h : ∀ c ∈ l, lowB c = true) : preK l = 0 := by
  unfold preK
  rw [if_neg (fun e => by subst e; have := h 33 (by simp); revert this; decide), if_neg (fun e => by subst e; have := h 88 (by simp); revert this; decide),
    if_neg (fun e => by subst e; have := h 70 (by simp); revert this; decide), if_neg (fun e => by subst e; have := h 71 (by simp); revert this; decide)]
theorem sin_word {l r : Bys} {N o n : Nat} (h : ∀ c ∈ l, lowB c = true) (hn : l ≠ []) (hr : stopT r) : pSin nms N (n + 1) o (nxT (l ++ r)) = wordR nms N (l, r) := by
  rw [nxT_word h hn hr, pSin, if_neg (by rw [pre_word h]; decide), if_neg (fun e => by have e : l = [40] := e; subst e; have := h 40 (by simp); revert this; decide)]
  rw [if_neg]
  show ¬ (l = [] ∨ lowB (l.headD 0) = false)
  cases l with
  | nil => exact absurd rfl hn
  | cons c l => simp [h c (by simp)]
theorem ss_word {f : Ltl} (h : ∀ c ∈ t, lowB c = true) (hn : t ≠ []) (hw : ∀ N r, wordR nms N (t, r) = .ok f (nxT r)) : SS nms t f := by
  intro r N o n hr hN hm
  obtain ⟨n, rfl⟩ : ∃ m, n = m + 1 := ⟨n - 1, by omega⟩
  left
  rw [sin_word h hn hr, hw]
theorem word_nm {n : Int} (h0 : 0 ≤ n) (h63 : n ≤ 63) (h : nmL nms n ≠ []) (N : Nat) (r : Bys) : wordR nms N (nmL nms n, r) = .ok (.mk 3 n []) (nxT r) := by
  unfold wordR
  rcases nmL_ok h0 h with ⟨e, e2⟩ | ⟨e, e2, e3⟩
  · dsimp only
    rw [e2, if_neg (by decide), if_neg (by decide), if_pos rfl, e]
  · obtain ⟨_, n1, n2, n3, _⟩ := named_ne e2
    dsimp only
    rw [if_neg n1, if_neg n2, if_neg n3, if_neg (by simp only [not_or]; exact ⟨by omega, by omega, by simpa using e2⟩), e3]
theorem ww_two {k : Int} {c : UInt8} (hc : lowB c = false) (h1 : (c == 32) = false) (h2 : (c == 45) = false) (hk : (c = 85 ∧ k = 8) ∨ (c = 82 ∧ k = 9)) (h : SS nms t f) (h' : WW nms u g) : WW nms (t ++ [32] ++ [c] ++ [32] ++ u) (.mk k 0 [f, g]) := by
  intro r N o n hr hN hU hn
  have e1 : t ++ [32] ++ [c] ++ [32] ++ u ++ r = t ++ (32 :: c :: 32 :: (u ++ r)) := by simp
  rw [e1] at hn ⊢
  obtain ⟨n, rfl⟩ : ∃ m, n = m + 1 := ⟨n - 1, by omega⟩
  rw [pWay]
  have e2 : nxT (32 :: c :: 32 :: (u ++ r)) = ([c], 32 :: (u ++ r)) := by rw [nxT_sp, nxT_sym hc h1 h2]
  rcases h (32 :: c :: 32 :: (u ++ r)) N o n (stop_sp _) hN (by omega) with e | ⟨a, ha, e⟩
  · rw [e, e2]
    dsimp only
    rw [if_pos (by rcases hk with ⟨rfl, _⟩ | ⟨rfl, _⟩ <;> simp), nxT_sp]
    simp only [List.length_append, List.length_cons] at hn
    rcases h' r N o n hr hN hU (by rw [List.length_append]; omega) with e | ⟨a, ha, e⟩
    · left; rw [e]
      dsimp only
      rcases hk with ⟨rfl, rfl⟩ | ⟨rfl, rfl⟩ <;> rfl
    · right; rw [e]; exact ⟨a, ha, rfl⟩
  · right; rw [e]; exact ⟨a, ha, rfl⟩
theorem aa_two (h : AA nms t f) (h' : WW nms u g) : AA nms (t ++ [32] ++ [38] ++ [32] ++ u) (.mk 5 0 [f, g]) := by
  intro r N o n hr hN hU hn
  have e1 : t ++ [32] ++ [38] ++ [32] ++ u ++ r = t ++ (32 :: 38 :: 32 :: (u ++ r)) := by simp
  rw [e1] at hn ⊢
  have e2 : nxT (32 :: 38 :: 32 :: (u ++ r)) = ([38], 32 :: (u ++ r)) := by rw [nxT_sp, nxT_sym (by decide) (by decide) (by decide)]
  rcases h _ N o n (stop_sp _) hN (by rw [e2]; show UT [38]; decide) (by omega) with ⟨a, ha, e⟩ | ⟨m, hm, e⟩
  · left; rw [e]; exact ⟨a, ha, rfl⟩
  · rw [e, e2]
    simp only [List.length_append, List.length_cons] at hm
    obtain ⟨m, rfl⟩ : ∃ k, m = k + 2 := ⟨m - 2, by omega⟩
    rw [pRowL, if_pos (show (([38], 32 :: (u ++ r)) : Bys × Bys).1 = sgR false from rfl), pPart]
    dsimp only
    rw [nxT_sp]
    rcases h' r N o m hr hN hU (by rw [List.length_append]; omega) with e | ⟨a, ha, e⟩
    · right; rw [e]; exact ⟨m + 1, by omega, rfl⟩
    · left; rw [e]; exact ⟨a, ha, rfl⟩
theorem oo_two (h : OO nms t f) (h' : AA nms u g) : OO nms (t ++ [32] ++ [47] ++ [32] ++ u) (.mk 6 0 [f, g]) := by
  intro r N o n hr hN hU hA hn
  have e1 : t ++ [32] ++ [47] ++ [32] ++ u ++ r = t ++ (32 :: 47 :: 32 :: (u ++ r)) := by simp
  rw [e1] at hn ⊢
  have e2 : nxT (32 :: 47 :: 32 :: (u ++ r)) = ([47], 32 :: (u ++ r)) := by rw [nxT_sp, nxT_sym (by decide) (by decide) (by decide)]
  rcases h _ N o n (stop_sp _) hN (by rw [e2]; show UT [47]; decide) (by rw [e2]; show ([47] : Bys) ≠ [38]; decide) (by omega) with ⟨a, ha, e⟩ | ⟨m, hm, e⟩
  · left; rw [e]; exact ⟨a, ha, rfl⟩
  · rw [e, e2]
    simp only [List.length_append, List.length_cons] at hm
    obtain ⟨m, rfl⟩ : ∃ k, m = k + 2 := ⟨m - 2, by omega⟩
    rw [pRowL, if_pos (show (([47], 32 :: (u ++ r)) : Bys × Bys).1 = sgR true from rfl), pPart]
    dsimp only
    rw [nxT_sp]
    rcases h' r N o m hr hN hU (by rw [List.length_append]; omega) with ⟨a, ha, e⟩ | ⟨j, hj, e⟩
    · left; rw [e]; exact ⟨a, ha, rfl⟩
    · right
      rw [e]
      obtain ⟨j, rfl⟩ : ∃ k, j = k + 1 := ⟨j - 1, by omega⟩
      rw [pRowL, if_neg (show ¬ (nxT r).1 = sgR false from hA)]
      exact ⟨m + 1, by omega, rfl⟩
end
def binK (k : Int) : Prop := k = 5 ∨ k = 6 ∨ k = 8 ∨ k = 9
structure RT (nms : List ByteArray) (t : Bys) (f : Ltl) : Prop where
  ss : ¬ binK f.k → SS nms t f
  ww : f.k ≠ 5 → f.k ≠ 6 → WW nms t f
  aa : f.k ≠ 6 → AA nms t f
  oo : OO nms t f
theorem RT.ofS {nms : List ByteArray} {t : Bys} {f : Ltl} (h : SS nms t f) : RT nms t f := ⟨fun _ => h, fun _ _ => h.ww, fun _ => h.ww.aa, h.ww.aa.oo⟩
section
variable {nms : List ByteArray} {t : Bys} {f : Ltl}
theorem RT.kS (h : RT nms t f) {b : Bool} (hb : b = true → ¬ binK f.k) : SS nms (kidT b t) f := by
  unfold kidT
  split
  · rename_i e; exact h.ss (hb e)
  · exact h.oo.ff.ss
theorem RT.kW (h : RT nms t f) {b : Bool} (hb : b = true → f.k ≠ 5 ∧ f.k ≠ 6) : WW nms (kidT b t) f := by
  unfold kidT
  split
  · rename_i e; exact h.ww (hb e).1 (hb e).2
  · exact h.oo.ff.ss.ww
theorem RT.kA (h : RT nms t f) {b : Bool} (hb : b = true → f.k ≠ 6) : AA nms (kidT b t) f := by
  unfold kidT
  split
  · rename_i e; exact h.aa (hb e)
  · exact h.oo.ff.ss.ww.aa
theorem RT.kO (h : RT nms t f) {b : Bool} : OO nms (kidT b t) f := by
  unfold kidT
  split
  · exact h.oo
  · exact h.oo.ff.ss.ww.aa.oo
end
theorem bare_one {k i x : Int} (hk : ¬ binK k) (h : bareL k i x = true) : ¬ binK x := by
  unfold binK at *
  unfold bareL at h
  intro hx
  rcases hx with rfl | rfl | rfl | rfl <;> simp at h <;> omega
theorem bare_wayL {k x : Int} (hk : k = 8 ∨ k = 9) (h : bareL k 0 x = true) : ¬ binK x := by
  unfold binK
  unfold bareL at h
  intro hx
  rcases hx with rfl | rfl | rfl | rfl <;> simp at h <;> omega
theorem bare_wayR {k x : Int} (hk : k = 8 ∨ k = 9) (h : bareL k 1 x = true) : x ≠ 5 ∧ x ≠ 6 := by
  unfold bareL at h
  constructor <;> rintro rfl <;> simp at h <;> omega
theorem bare_andL {x : Int} (h : bareL 5 0 x = true) : x ≠ 6 := by rintro rfl; revert h; decide
theorem bare_andR {x : Int} (h : bareL 5 1 x = true) : x ≠ 5 ∧ x ≠ 6 := by constructor <;> (rintro rfl; revert h; decide)
theorem bare_orR {x : Int} (h : bareL 6 1 x = true) : x ≠ 6 := by rintro rfl; revert h; decide
theorem rt {nms : List ByteArray} {f : Ltl} (h : OkL nms f) : RT nms (txtL (nmL nms) f) f := by
  induction h with
  | t => exact RT.ofS (ss_word (t := tTrue) (by decide) (by decide) fun N r => by unfold wordR; rw [if_pos rfl])
  | f => exact RT.ofS (ss_word (t := tFalse) (by decide) (by decide) fun N r => by unfold wordR; rw [if_neg (show ¬ tFalse = tTrue by decide), if_pos rfl])
  | a n h0 h63 h =>
    have e : txtL (nmL nms) (.mk 3 n []) = nmL nms n := by simp [txtL, joinL]
    rw [e]
    exact RT.ofS (ss_word (nmL_low h0 h) h fun N r => word_nm h0 h63 h N r)
  | one k x hk hx ih =>
    have hb : ¬ binK k := by unfold binK; omega
    have hS : SS nms (kidT (bareL k 0 x.k) (txtL (nmL nms) x)) x := ih.kS (bare_one hb)
    refine RT.ofS ?_
    rcases hk with rfl | rfl | rfl | rfl
    · exact ss_pre (q := []) (by decide) (by decide) (by decide) rfl (by decide) (fun r => rfl) hS
    · exact ss_pre (q := [32]) (by decide) (by decide) (by decide) rfl (by decide) nxT_sp hS
    · exact ss_pre (q := [32]) (by decide) (by decide) (by decide) rfl (by decide) nxT_sp hS
    · exact ss_pre (q := [32]) (by decide) (by decide) (by decide) rfl (by decide) nxT_sp hS
  | two k x y hk hx hy ihx ihy =>
    have e : ∀ k, (k = 5 ∨ k = 6 ∨ k = 8 ∨ k = 9) → txtL (nmL nms) (.mk k 0 [x, y]) = kidT (bareL k 0 x.k) (txtL (nmL nms) x) ++ [32] ++ sigL k ++ [32] ++ kidT (bareL k 1 y.k) (txtL (nmL nms) y) := by
      intro k hk
      rcases hk with rfl | rfl | rfl | rfl <;> simp [txtL, txtLs, joinL]
    rw [e k hk]
    rcases hk with rfl | rfl | rfl | rfl
    · have hA := aa_two (ihx.kA (b := bareL 5 0 x.k) bare_andL) (ihy.kW (b := bareL 5 1 y.k) bare_andR)
      exact ⟨fun h => absurd (by unfold binK; simp [Ltl.k]) h, fun h => absurd rfl h, fun _ => hA, hA.oo⟩
    · have hO := oo_two (ihx.kO (b := bareL 6 0 x.k)) (ihy.kA (b := bareL 6 1 y.k) bare_orR)
      exact ⟨fun h => absurd (by unfold binK; simp [Ltl.k]) h, fun _ h => absurd rfl h, fun h => absurd rfl h, hO⟩
    · have hW := ww_two (k := 8) (c := 85) (by decide) (by decide) (by decide) (by decide) (ihx.kS (b := bareL 8 0 x.k) (bare_wayL (.inl rfl))) (ihy.kW (b := bareL 8 1 y.k) (bare_wayR (.inl rfl)))
      exact ⟨fun h => absurd (by unfold binK; simp [Ltl.k]) h, fun _ _ => hW, fun _ => hW.aa, hW.aa.oo⟩
    · have hW := ww_two (k := 9) (c := 82) (by decide) (by decide) (by decide) (by decide) (ihx.kS (b := bareL 9 0 x.k) (bare_wayL (.inr rfl))) (ihy.kW (b := bareL 9 1 y.k) (bare_wayR (.inr rfl)))
      exact ⟨fun h => absurd (by unfold binK; simp [Ltl.k]) h, fun _ _ => hW, fun _ => hW.aa, hW.aa.oo⟩
theorem txtL_ne {nms : List ByteArray} {f : Ltl} (h : OkL nms f) : txtL (nmL nms) f ≠ [] := by
  cases h with
  | t => simp [txtL, joinL, tTrue]
  | f => simp [txtL, joinL, tFalse]
  | a n h0 h63 h => simpa [txtL, joinL] using h
  | one k x hk hx => rcases hk with rfl | rfl | rfl | rfl <;> simp [txtL, joinL]
  | two k x y hk hx hy => rcases hk with rfl | rfl | rfl | rfl <;> simp [txtL, joinL]
/-- what is printed is read as it was, but for what is open together -/
theorem back_law {nms : List ByteArray} {f : Ltl} (h : (printL f nms).2 = 0) : (printL f nms).1 = txtL (nmL nms) f ∧ ((printL f nms).1.length > 300 → parseL (printL f nms).1 nms = (.mk 0 0 [], 0, 2)) ∧
    ((printL f nms).1.length ≤ 300 → parseL (printL f nms).1 nms = (f, 0, 0) ∨ ∃ a, a < (printL f nms).1.length ∧ parseL (printL f nms).1 nms = (.mk 0 0 [], a, 5)) := by
  unfold printL at h ⊢
  by_cases h1 : (chkF f 1 0).1 ≠ 0
  · rw [if_pos h1] at h; exact absurd h h1
  rw [if_neg h1] at h ⊢
  by_cases h2 : badF (nmL nms) f = true
  · rw [if_pos h2] at h; cases h
  rw [if_neg h2]
  dsimp only
  have hok := okT_of f 1 0 (by simpa using h1) (by simpa using h2)
  have hne := List.length_pos_iff.2 (txtL_ne hok)
  refine ⟨rfl, fun hl => by unfold parseL; rw [if_pos hl], fun hl => ?_⟩
  unfold parseL
  rw [if_neg (by omega)]
  have hF := (rt hok).oo.ff [] (txtL (nmL nms) f).length 0 (10 * (txtL (nmL nms) f).length + 20) (fun c h => by cases h) hne (by show UT []; decide) (by decide) (by decide) (by decide) (by rw [List.append_nil]; omega)
  rw [List.append_nil] at hF
  rcases hF with e | ⟨a, ha, e⟩
  · left
    rw [e]
    dsimp only
    rw [if_neg (by rw [nxT_nil]; simp), if_neg h1]
  · right
    rw [e]
    exact ⟨a, ha, rfl⟩
/- WHAT IS READ -/
def Res (PF : Ltl → Prop) (N : Nat) : PR → Prop
  | .er c a => c ≠ 0 ∧ a ≤ N
  | .ok f _ => PF f
theorem atT_le (N : Nat) (st : Bys × Bys) : atT N st ≤ N := by unfold atT; omega
section
variable {nms : List ByteArray} {N : Nat} {PF : Ltl → Prop}
structure PFo (nms : List ByteArray) (N : Nat) (PF : Ltl → Prop) : Prop where
  word : ∀ st, Res PF N (wordR nms N st)
  t : PF (.mk 1 0 [])
  one : ∀ k f, k ≠ 3 → PF f → PF (.mk k 0 [f])
  two : ∀ k f g, k ≠ 3 → PF f → PF g → PF (.mk k 0 [f, g])
theorem PFo.arrows (h : PFo nms N PF) : ∀ (left : List Ltl) (f : Ltl), (∀ g ∈ left, PF g) → PF f → PF (arrows left f)
  | [], f, _, hf => hf
  | g :: r, f, hl, hf => h.two 6 _ _ (by decide) (h.one 4 g (by decide) (hl g (by simp))) (PFo.arrows h r f (fun x hx => hl x (by simp [hx])) hf)
theorem PFo.wayT (h : PFo nms N PF) {s : Bys} {f g : Ltl} (hf : PF f) (hg : PF g) : PF (wayT s f g) := by
  unfold Go.Proofs.YtikigaeihdmcaaaDoor.wayT
  split
  · exact h.two 8 f g (by decide) hf hg
  split
  · exact h.two 9 f g (by decide) hf hg
  · refine h.two 9 _ _ (by decide) hg (h.two 6 _ _ (by decide) hf ?_)
    split
    · exact hg
    · exact h.t
theorem p_ind (h : PFo nms N PF) : ∀ n : Nat, (∀ o left st, (∀ g ∈ left, PF g) → Res PF N (pFor nms N n o left st)) ∧ (∀ lv o st, Res PF N (pRow nms N n lv o st)) ∧ (∀ lv o f st, PF f → Res PF N (pRowL nms N n lv o f st)) ∧
    (∀ lv o st, Res PF N (pPart nms N n lv o st)) ∧ (∀ o st, Res PF N (pWay nms N n o st)) ∧ (∀ o st, Res PF N (pSin nms N n o st))
  | 0 => by
    have h0 : Res PF N (.er 3 0) := ⟨by decide, by omega⟩
    exact ⟨fun _ _ _ _ => by rw [pFor]; exact h0, fun _ _ _ => by rw [pRow]; exact h0, fun _ _ _ _ _ => by rw [pRowL]; exact h0, fun _ _ _ => by rw [pPart]; exact h0, fun _ _ => by rw [pWay]; exact h0, fun _ _ => by rw [pSin]; exact h0⟩
  | n + 1 => by
    obtain ⟨iF, iR, iL, iP, iW, iS⟩ := p_ind h n
    refine ⟨fun o left st hl => ?_, fun lv o st => ?_, fun lv o f st hf => ?_, fun lv o st => ?_, fun o st => ?_, fun o st => ?_⟩
    · rw [pFor]
      have h1 := iR true o st
      cases e : pRow nms N n true o st with
      | er c a => rw [e] at h1; exact h1
      | ok f st' =>
        rw [e] at h1
        dsimp only
        split
        · exact iF _ _ _ (fun g hg => by
            rcases List.mem_append.1 hg with hg | hg
            · exact hl g hg
            · rw [List.mem_singleton.1 hg]; exact h1)
        · exact h.arrows left f hl h1
    · rw [pRow]
      have h1 := iP lv o st
      cases e : pPart nms N n lv o st with
      | er c a => rw [e] at h1; exact h1
      | ok f st' => rw [e] at h1; exact iL lv o f st' h1
    · rw [pRowL]
      split
      · have h1 := iP lv o (nxT st.2)
        cases e : pPart nms N n lv o (nxT st.2) with
        | er c a => rw [e] at h1; exact h1
        | ok g st' => rw [e] at h1; exact iL lv o _ st' (h.two _ f g (by unfold knR; split <;> decide) hf h1)
      · exact hf
    · cases lv
      · rw [pPart]; exact iW o st
      · rw [pPart]; exact iR false o st
    · rw [pWay]
      have h1 := iS o st
      cases e : pSin nms N n o st with
      | er c a => rw [e] at h1; exact h1
      | ok f st' =>
        rw [e] at h1
        dsimp only
        split
        · have h2 := iW o (nxT st'.2)
          cases e2 : pWay nms N n o (nxT st'.2) with
          | er c a => rw [e2] at h2; exact h2
          | ok g st2 => rw [e2] at h2; exact h.wayT h1 h2
        · exact h1
    · rw [pSin]
      split
      · rename_i hk
        split
        · exact ⟨by decide, atT_le N st⟩
        · have h1 := iS (o + 1) (nxT st.2)
          cases e : pSin nms N n (o + 1) (nxT st.2) with
          | er c a => rw [e] at h1; exact h1
          | ok f st' =>
            rw [e] at h1
            refine h.one _ f ?_ h1
            unfold preK
            repeat (first | split | decide)
      split
      · split
        · exact ⟨by decide, atT_le N st⟩
        · have h1 := iF (o + 1) [] (nxT st.2) (fun g hg => by cases hg)
          cases e : pFor nms N n (o + 1) [] (nxT st.2) with
          | er c a => rw [e] at h1; exact h1
          | ok f st' =>
            rw [e] at h1
            dsimp only
            split
            · exact h1
            · exact ⟨by decide, atT_le N st'⟩
      split
      · exact ⟨by decide, atT_le N st⟩
      · exact h.word st
end
theorem nm_idx {nms : List ByteArray} {l : Bys} (h1 : ¬ idxB nms l < 0) (h2 : ¬ idxB nms l ≥ 63) (h3 : namedL l = true) : nmL nms (idxB nms l) = l := by
  obtain ⟨i, hi, e, e2⟩ := idxB_some h1
  unfold nmL
  have e3 : nms.getD (idxB nms l).toNat ⟨#[]⟩ = nms[i] := by rw [e, Int.toNat_natCast, List.getD_eq_getElem?_getD, List.getElem?_eq_getElem hi]; rfl
  rw [if_neg (by omega), if_neg (by rw [e]; omega), e3, if_neg (by show ¬ namedL nms[i].data.toList = false; rw [e2, h3]; simp), e2, if_neg (by simp)]
theorem pfo_bad (nms : List ByteArray) (N : Nat) : PFo nms N (fun f => badF (nmL nms) f = false) := by
  refine ⟨fun st => ?_, by simp [badF, badFs], fun k f hk hf => by simp [badF, badFs, hf, hk], fun k f g hk hf hg => by simp [badF, badFs, hf, hg, hk]⟩
  unfold wordR
  split
  · simp [Res, badF, badFs]
  split
  · simp [Res, badF, badFs]
  split
  · have : nmL nms 63 ≠ [] := by unfold nmL; rw [if_pos rfl]; decide
    simp [Res, badF, badFs, this]
  split
  · exact ⟨by decide, atT_le N st⟩
  · rename_i h
    simp only [not_or] at h
    have h3 : namedL st.1 = true := by simpa using h.2.2
    have := nm_idx h.1 h.2.1 h3
    have hne := (named_ne h3).1
    simp [Res, badF, badFs, this, hne]
/-- what is read: an error at a place of the text, or a formula that can be printed -/
theorem parse_law (s : Bys) (nms : List ByteArray) : ((parseL s nms).2.2 ≠ 0 ∧ (parseL s nms).1 = .mk 0 0 [] ∧ (parseL s nms).2.1 ≤ s.length) ∨ ((parseL s nms).2.2 = 0 ∧ (parseL s nms).2.1 = 0 ∧ (printL (parseL s nms).1 nms).2 = 0) := by
  unfold parseL
  split
  · left; exact ⟨(by decide : (2 : Int) ≠ 0), rfl, Nat.zero_le _⟩
  have h := (p_ind (pfo_bad nms s.length) (10 * s.length + 20)).1 0 [] (nxT s) (fun g hg => by cases hg)
  cases e : pFor nms s.length (10 * s.length + 20) 0 [] (nxT s) with
  | er c a => rw [e] at h; left; exact ⟨h.1, rfl, h.2⟩
  | ok f st =>
    rw [e] at h
    dsimp only
    split
    · left; exact ⟨(by decide : (3 : Int) ≠ 0), rfl, atT_le _ _⟩
    split
    · rename_i h1; left; exact ⟨h1, rfl, Nat.le_refl _⟩
    · rename_i h1
      right
      refine ⟨rfl, rfl, ?_⟩
      unfold printL
      rw [if_neg h1, if_neg (by rw [show badF (nmL nms) f = false from h]; simp)]
end Go.Proofs.YtikigaeihdmcaaaDoor

/-
  Formulas of all ways: how they lie in memory (as those of one way do), their check.
-/
set_option linter.unusedVariables false
set_option linter.unusedSimpArgs false
namespace Go.Proofs.YtikigaeihdmcaaaDoor
open Go.RowKit

instance iCtl2 : IsT Tryd.prog 24 Ltl := IsT.of (by kernel_rfl) Tryd.underlying24 rfl
instance iCtl3 : IsS Tryd.prog 22 24 := ⟨Tryd.underlying22⟩
instance iCtl4 : IsT Tryd.prog 22 (List Ltl) := IsT.of (by kernel_rfl) Tryd.underlying22 rfl
instance iCtl5 : IsZ Tryd.prog 24 (Ltl.mk 0 0 []) 40 := IsZ.of (z := .agg #[.int .i64 0, .int .i64 0, .slice none 0 0]) (by kernel_rfl) (fun _ _ => RdT.of (kids := []) ⟨by simp, by simp [maxLen], fun _ => rfl, fun i hi => absurd hi (by simp)⟩)
instance iCtl6 : IsC Tryd.prog 24 3 true := IsC.of (by kernel_rfl) Tryd.underlying24 rfl
instance iCtl7 : IsC Tryd.prog 22 1 false := IsC.of (by kernel_rfl) Tryd.underlying22 rfl
instance iCtl8 : IsZC Tryd.prog 22 [.slice none 0 0] := IsZC.of (z := .slice none 0 0) (by kernel_rfl) rfl
instance iCtl9 : IsFd Tryd.prog 24 0 0 := IsFd.of (by kernel_rfl)
instance iCtl10 : IsFd Tryd.prog 24 1 1 := IsFd.of (by kernel_rfl)
instance iCtl11 : IsFd Tryd.prog 24 2 2 := IsFd.of (by kernel_rfl)
instance iCtl12 : IsZC Tryd.prog 24 [.int .i64 0, .int .i64 0, .slice none 0 0] := IsZC.of (z := .agg #[.int .i64 0, .int .i64 0, .slice none 0 0]) (by kernel_rfl) rfl
instance iCtl13 : IsBd Tryd.prog 24 [(0, 1), (1, 1), (2, 1)] := IsBd.of (by kernel_rfl)
end Go.Proofs.YtikigaeihdmcaaaDoor

/-
  Formulas of all ways: what is printed is read as it was: plain.
-/
set_option linter.unusedVariables false
set_option linter.unusedSimpArgs false
namespace Go.Proofs.YtikigaeihdmcaaaDoor

/- PRINTED -/
/- READ -/
def wayK (t : Bys) : Int := if t = [88] then 7 else if t = [70] then 8 else if t = [71] then 9 else 0
def allC (a : Bool) (k : Int) : Int := if a = true then k + 4 else k
mutual
def cFor (nms : List ByteArray) (N : Nat) : Nat → Nat → List Ltl → Bys × Bys → PR
  | 0, _, _, _ => .er 3 0
  | n + 1, o, left, st => match cRow nms N n true o st with
    | .er c a => .er c a
    | .ok f st' => if st'.1 = [45, 62] then cFor nms N n o (left ++ [f]) (nxT st'.2) else .ok (arrows left f) st'
def cRow (nms : List ByteArray) (N : Nat) : Nat → Bool → Nat → Bys × Bys → PR
  | 0, _, _, _ => .er 3 0
  | n + 1, lv, o, st => match cPart nms N n lv o st with
    | .er c a => .er c a
    | .ok f st' => cRowL nms N n lv o f st'
def cRowL (nms : List ByteArray) (N : Nat) : Nat → Bool → Nat → Ltl → Bys × Bys → PR
  | 0, _, _, _, _ => .er 3 0
  | n + 1, lv, o, f, st => if st.1 = sgR lv then match cPart nms N n lv o (nxT st.2) with
      | .er c a => .er c a
      | .ok g st' => cRowL nms N n lv o (.mk (knR lv) 0 [f, g]) st'
    else .ok f st
def cPart (nms : List ByteArray) (N : Nat) : Nat → Bool → Nat → Bys × Bys → PR
  | 0, _, _, _ => .er 3 0
  | n + 1, true, o, st => cRow nms N n false o st
  | n + 1, false, o, st => cSin nms N n o st
/-- behind an E (false) or an A (true) -/
def cWays (nms : List ByteArray) (N : Nat) : Nat → Bool → Nat → Bys × Bys → PR
  | 0, _, _, _ => .er 3 0
  | n + 1, a, o, st => if st.1 = [91] then cUnt nms N n (allC a 10) o st else if wayK st.1 = 0 then .er 3 (atT N st) else match cSin nms N n o (nxT st.2) with
        | .er c x => .er c x
        | .ok f st' => .ok (.mk (allC a (wayK st.1)) 0 [f]) st'
def cUnt (nms : List ByteArray) (N : Nat) : Nat → Int → Nat → Bys × Bys → PR
  | 0, _, _, _ => .er 3 0
  | n + 1, k, o, st => match cFor nms N n o [] (nxT st.2) with
    | .er c a => .er c a
    | .ok f st' => if st'.1 = [85] then match cFor nms N n o [] (nxT st'.2) with
        | .er c a => .er c a
        | .ok g st2 => if st2.1 = [93] then .ok (.mk k 0 [f, g]) (nxT st2.2) else .er 3 (atT N st2)
      else .er 3 (atT N st')
def cSin (nms : List ByteArray) (N : Nat) : Nat → Nat → Bys × Bys → PR
  | 0, _, _ => .er 3 0
  | n + 1, o, st => if st.1 = [33] then if o = 20 then .er 5 (atT N st) else match cSin nms N n (o + 1) (nxT st.2) with
        | .er c a => .er c a
        | .ok f st' => .ok (.mk 4 0 [f]) st'
    else if st.1 = [69] then if o = 20 then .er 5 (atT N st) else cWays nms N n false (o + 1) (nxT st.2)
    else if st.1 = [65] then if o = 20 then .er 5 (atT N st) else cWays nms N n true (o + 1) (nxT st.2)
    else if st.1 = [40] then if o = 20 then .er 5 (atT N st) else match cFor nms N n (o + 1) [] (nxT st.2) with
        | .er c a => .er c a
        | .ok f st' => if st'.1 = [41] then .ok f (nxT st'.2) else .er 3 (atT N st')
    else if st.1 = [] ∨ lowB (st.1.headD 0) = false then .er 3 (atT N st)
    else wordR nms N st
end
inductive OkC (nms : List ByteArray) : Ltl → Prop
  | t : OkC nms (.mk 1 0 [])
  | f : OkC nms (.mk 2 0 [])
  | a (n : Int) : 0 ≤ n → n ≤ 63 → nmL nms n ≠ [] → OkC nms (.mk 3 n [])
  | one (k : Int) (x : Ltl) : (k = 4 ∨ k = 7 ∨ k = 8 ∨ k = 9 ∨ k = 11 ∨ k = 12 ∨ k = 13) → OkC nms x → OkC nms (.mk k 0 [x])
  | two (k : Int) (x y : Ltl) : (k = 5 ∨ k = 6 ∨ k = 10 ∨ k = 14) → OkC nms x → OkC nms y → OkC nms (.mk k 0 [x, y])
section
variable {nms : List ByteArray} {t u : Bys} {f g : Ltl}
def CS (nms : List ByteArray) (t : Bys) (f : Ltl) : Prop := ∀ (r : Bys) (N o n : Nat), stopT r → 1 ≤ N → 10 * (t ++ r).length + 2 ≤ n → Dp N (cSin nms N n o (nxT (t ++ r))) (.ok f (nxT r))
def CA (nms : List ByteArray) (t : Bys) (f : Ltl) : Prop := ∀ (r : Bys) (N o n : Nat), stopT r → 1 ≤ N → 10 * (t ++ r).length + 5 ≤ n →
  (∃ a, a < N ∧ cRow nms N n false o (nxT (t ++ r)) = .er 5 a) ∨ ∃ m, 10 * r.length + 4 ≤ m ∧ cRow nms N n false o (nxT (t ++ r)) = cRowL nms N m false o f (nxT r)
def CO (nms : List ByteArray) (t : Bys) (f : Ltl) : Prop := ∀ (r : Bys) (N o n : Nat), stopT r → 1 ≤ N → (nxT r).1 ≠ [38] → 10 * (t ++ r).length + 7 ≤ n →
  (∃ a, a < N ∧ cRow nms N n true o (nxT (t ++ r)) = .er 5 a) ∨ ∃ m, 10 * r.length + 4 ≤ m ∧ cRow nms N n true o (nxT (t ++ r)) = cRowL nms N m true o f (nxT r)
def CF (nms : List ByteArray) (t : Bys) (f : Ltl) : Prop := ∀ (r : Bys) (N o n : Nat), stopT r → 1 ≤ N → (nxT r).1 ≠ [38] → (nxT r).1 ≠ [47] → (nxT r).1 ≠ [45, 62] → 10 * (t ++ r).length + 8 ≤ n → Dp N (cFor nms N n o [] (nxT (t ++ r))) (.ok f (nxT r))
theorem CS.ca (h : CS nms t f) : CA nms t f := by
  intro r N o n hr hN hn
  obtain ⟨n, rfl⟩ : ∃ m, n = m + 2 := ⟨n - 2, by omega⟩
  have hl : (t ++ r).length = t.length + r.length := List.length_append
  simp only [cRow, cPart]
  rcases h r N o n hr hN (by omega) with e | ⟨a, ha, e⟩
  · right; rw [e]; exact ⟨n + 1, by omega, rfl⟩
  · left; rw [e]; exact ⟨a, ha, rfl⟩
theorem CA.co (h : CA nms t f) : CO nms t f := by
  intro r N o n hr hN hA hn
  obtain ⟨n, rfl⟩ : ∃ m, n = m + 2 := ⟨n - 2, by omega⟩
  have hl : (t ++ r).length = t.length + r.length := List.length_append
  rw [cRow, cPart]
  rcases h r N o n hr hN (by omega) with ⟨a, ha, e⟩ | ⟨m, hm, e⟩
  · left; rw [e]; exact ⟨a, ha, rfl⟩
  · right
    rw [e]
    obtain ⟨m, rfl⟩ : ∃ k, m = k + 1 := ⟨m - 1, by omega⟩
    rw [cRowL, if_neg (show ¬ (nxT r).1 = sgR false from hA)]
    exact ⟨n + 1, by omega, rfl⟩
theorem CO.cf (h : CO nms t f) : CF nms t f := by
  intro r N o n hr hN hA hO hF hn
  obtain ⟨n, rfl⟩ : ∃ m, n = m + 1 := ⟨n - 1, by omega⟩
  rw [cFor]
  rcases h r N o n hr hN hA (by omega) with ⟨a, ha, e⟩ | ⟨m, hm, e⟩
  · right; rw [e]; exact ⟨a, ha, rfl⟩
  · left
    rw [e]
    obtain ⟨m, rfl⟩ : ∃ k, m = k + 1 := ⟨m - 1, by omega⟩
    rw [cRowL, if_neg (show ¬ (nxT r).1 = sgR true from hO)]
    show (if _ then _ else _) = _
    rw [if_neg hF]
    rfl
theorem CF.cs (h : CF nms t f) : CS nms (40 :: (t ++ [41])) f := by
  intro r N o n hr hN hn
  have e1 : 40 :: (t ++ [41]) ++ r = 40 :: (t ++ (41 :: r)) := by simp
  rw [e1] at hn ⊢
  rw [nxT_sym (by decide) (by decide) (by decide)]
  obtain ⟨n, rfl⟩ : ∃ m, n = m + 1 := ⟨n - 1, by omega⟩
  rw [cSin, if_neg (show ¬ ([40] : Bys) = [33] by decide), if_neg (show ¬ ([40] : Bys) = [69] by decide), if_neg (show ¬ ([40] : Bys) = [65] by decide), if_pos rfl]
  by_cases ho : o = 20
  · rw [if_pos ho]; right; exact ⟨_, atT_lt (by simp) hN, rfl⟩
  rw [if_neg ho]
  have e2 : nxT (41 :: r) = ([41], r) := nxT_sym (by decide) (by decide) (by decide)
  simp only [List.length_cons] at hn
  rcases h (41 :: r) N (o + 1) n (stop_cl r) hN (by rw [e2]; show ([41] : Bys) ≠ [38]; decide) (by rw [e2]; show ([41] : Bys) ≠ [47]; decide) (by rw [e2]; show ([41] : Bys) ≠ [45, 62]; decide) (by omega) with e | ⟨a, ha, e⟩
  · left
    rw [show nxT (([40], t ++ 41 :: r) : Bys × Bys).2 = nxT (t ++ 41 :: r) from rfl, e, e2]
    show (if _ then _ else _) = _
    rw [if_pos rfl]
  · right
    rw [show nxT (([40], t ++ 41 :: r) : Bys × Bys).2 = nxT (t ++ 41 :: r) from rfl, e]
    exact ⟨a, ha, rfl⟩
def ea (a : Bool) : UInt8 := if a = true then 65 else 69
end
structure CT (nms : List ByteArray) (t : Bys) (f : Ltl) : Prop where
  ss : f.k ≠ 5 → f.k ≠ 6 → CS nms t f
  aa : f.k ≠ 6 → CA nms t f
  oo : CO nms t f
theorem CT.ofS {nms : List ByteArray} {t : Bys} {f : Ltl} (h : CS nms t f) : CT nms t f := ⟨fun _ _ => h, fun _ => h.ca, h.ca.co⟩
section
variable {nms : List ByteArray} {t : Bys} {f : Ltl}
theorem CT.kS (h : CT nms t f) {b : Bool} (hb : b = true → f.k ≠ 5 ∧ f.k ≠ 6) : CS nms (kidT b t) f := by
  unfold kidT
  split
  · rename_i e; exact h.ss (hb e).1 (hb e).2
  · exact h.oo.cf.cs
theorem CT.kA (h : CT nms t f) {b : Bool} (hb : b = true → f.k ≠ 6) : CA nms (kidT b t) f := by
  unfold kidT
  split
  · rename_i e; exact h.aa (hb e)
  · exact h.oo.cf.cs.ca
theorem CT.kO (h : CT nms t f) {b : Bool} : CO nms (kidT b t) f := by
  unfold kidT
  split
  · exact h.oo
  · exact h.oo.cf.cs.ca.co
end
end Go.Proofs.YtikigaeihdmcaaaDoor

/-
  Slices of slices that a call owns: the outer row holds slice headers, each inner row is owned by itself. Over any program, but for the instances at the end.
-/
set_option linter.unusedVariables false
set_option linter.unusedSimpArgs false
namespace Go.Proofs.YtikigaeihdmcaaaDoor
open Go.RowKit

/-- a value of one cell, as it is -/
structure Raw where
  v : Value
instance iNest1 : Rep Raw where
  sz := 1
  pos := by decide
  agg := false
  rd := fun _ _ cs x => cs = [x.v] ∧ x.v.oneCell' = true
  len := by intro w F cs x h; rw [h.1]; rfl
  one := by intro w F cs x h v hv; rw [h.1] at hv; simp at hv; subst hv; exact h.2
  szAgg := fun _ => rfl
  mono := fun h _ _ => h
instance iNest2 : Flat Raw := ⟨fun h => h⟩
section
variable {α : Type} [Rep α]
structure OwnN (w : World) (B : Nat) (eo ei : TypeId) (v : Value) (vs : List Raw) (xs : List (List α)) : Prop where
  out : Own w B eo Non v vs
  len : vs.length = xs.length
  inn : ∀ i (h : i < vs.length) (h' : i < xs.length), Own w B ei Non vs[i].v xs[i]
  dis : ∀ i j (hi : i < vs.length) (hj : j < vs.length), i ≠ j → ∀ g, vs[i].v.ownBlock = some g → vs[j].v.ownBlock = some g → False
  dio : ∀ i (hi : i < vs.length) g, vs[i].v.ownBlock = some g → v.ownBlock = some g → False
variable {w w' w'' : World} {B : Nat} {eo ei : TypeId} {v : Value} {vs : List Raw} {xs : List (List α)}
theorem OwnN.ext (h : OwnN w B eo ei v vs xs) (hE : Ext w w') : OwnN w' B eo ei v vs xs :=
  ⟨h.out.extN hE, h.len, fun i hi hi' => (h.inn i hi hi').extN hE, h.dis, h.dio⟩
theorem OwnN.low (h : OwnN w B eo ei v vs xs) {B' : Nat} (hB : B' ≤ B) : OwnN w B' eo ei v vs xs :=
  ⟨h.out.low hB, h.len, fun i hi hi' => (h.inn i hi hi').low hB, h.dis, h.dio⟩
/-- its blocks -/
def OwnN.blk (v : Value) (vs : List Raw) : Nat → Prop := fun b => v.ownBlock = some b ∨ ∃ x ∈ vs, x.v.ownBlock = some b
theorem OwnN.lt (h : OwnN w B eo ei v vs xs) : ∀ b, OwnN.blk v vs b → B ≤ b ∧ b < w.heap.size := by
  rintro b (hb | ⟨x, hx, hb⟩)
  · exact ⟨(h.out.lt b hb).1, (h.out.lt b hb).2.1⟩
  · obtain ⟨i, hi, rfl⟩ := List.mem_iff_getElem.1 hx
    have := (h.inn i hi (by rw [← h.len]; exact hi)).lt b hb
    exact ⟨this.1, this.2.1⟩
theorem OwnN.kept {row : Option Nat} (h : OwnN w B eo ei v vs xs) (hg : w.grownBy w' row) (hne : ∀ b, OwnN.blk v vs b → some b ≠ row) : OwnN w' B eo ei v vs xs :=
  ⟨h.out.keptN hg (fun g hg' => hne g (.inl hg')), h.len, fun i hi hi' => (h.inn i hi hi').keptN hg (fun g hg' => hne g (.inr ⟨_, List.getElem_mem hi, hg'⟩)), h.dis, h.dio⟩
theorem OwnN.nil : OwnN w B eo ei (.slice none 0 0) [] ([] : List (List α)) := ⟨Own.nil, rfl, fun i hi => absurd hi (by simp), fun i j hi => absurd hi (by simp), fun i hi => absurd hi (by simp)⟩
theorem OwnN.made {n : Nat} (h : Own w B eo Non v (List.replicate n (⟨.slice none 0 0⟩ : Raw))) : OwnN w B eo ei v (List.replicate n ⟨.slice none 0 0⟩) (List.replicate n ([] : List α)) := by
  refine ⟨h, by simp, fun i hi hi' => ?_, fun i j hi hj _ g hg => ?_, fun i hi g hg => ?_⟩
  · simp only [List.getElem_replicate]; exact Own.nil
  · simp only [List.getElem_replicate] at hg; simp [Value.ownBlock] at hg
  · simp only [List.getElem_replicate] at hg; simp [Value.ownBlock] at hg
theorem OwnN.set (h : OwnN w B eo ei v vs xs) {i : Nat} (hi : i < vs.length) {v' : Value} {ys : List α} (hin : Own w' B ei Non v' ys) (hg : w.grownBy w' vs[i].v.ownBlock) (hnb : ∀ g, v'.ownBlock = some g → vs[i].v.ownBlock = some g ∨ w.heap.size ≤ g)
    (ho : Own w'' B eo Non v (vs.set i ⟨v'⟩)) (hg2 : w'.grownBy w'' v.ownBlock) : OwnN w'' B eo ei v (vs.set i ⟨v'⟩) (xs.set i ys) := by
  have hold : ∀ j (hj : j < vs.length), ∀ g, vs[j].v.ownBlock = some g → g < w.heap.size := fun j hj g hg => ((h.inn j hj (by rw [← h.len]; exact hj)).lt g hg).2.1
  have holdv : ∀ g, v.ownBlock = some g → g < w.heap.size := fun g hg => (h.out.lt g hg).2.1
  have hnv : ∀ g, v'.ownBlock = some g → v.ownBlock = some g → False := fun g h1 h2 => by
    rcases hnb g h1 with h3 | h3
    · exact h.dio i hi g h3 h2
    · have := holdv g h2; omega
  have hnj : ∀ j (hj : j < vs.length), j ≠ i → ∀ g, v'.ownBlock = some g → vs[j].v.ownBlock = some g → False := fun j hj hne g h1 h2 => by
    rcases hnb g h1 with h3 | h3
    · exact h.dis i j hi hj (Ne.symm hne) g h3 h2
    · have := hold j hj g h2; omega
  refine ⟨ho, by simp [h.len], fun j hj hj' => ?_, fun j k hj hk hne g h1 h2 => ?_, fun j hj g h1 h2 => ?_⟩
  · rw [List.length_set] at hj hj'
    rw [List.getElem_set, List.getElem_set]
    by_cases e : i = j
    · rw [if_pos e, if_pos e]
      exact hin.keptN hg2 (fun g hg e => hnv g hg e.symm)
    · rw [if_neg e, if_neg e]
      exact ((h.inn j hj hj').keptN hg (fun g hg' e2 => h.dis i j hi hj e g e2.symm hg')).keptN hg2 (fun g hg' e2 => h.dio j hj g hg' e2.symm)
  · rw [List.length_set] at hj hk
    rw [List.getElem_set] at h1 h2
    by_cases e1 : i = j
    · subst e1
      rw [if_pos rfl] at h1
      rw [if_neg hne] at h2
      exact hnj k hk (Ne.symm hne) g h1 h2
    · rw [if_neg e1] at h1
      by_cases e2 : i = k
      · rw [if_pos e2] at h2
        exact hnj j hj (Ne.symm e1) g h2 h1
      · rw [if_neg e2] at h2
        exact h.dis j k hj hk hne g h1 h2
  · rw [List.length_set] at hj
    rw [List.getElem_set] at h1
    by_cases e : i = j
    · rw [if_pos e] at h1; exact hnv g h1 h2
    · rw [if_neg e] at h1; exact h.dio j hj g h1 h2
/-- as one that is read -/
theorem OwnN.sl (h : OwnN w B eo ei v vs xs) : ∃ ao cap, v = .slice ao xs.length cap ∧ Sl w (OwnN.blk v vs) ao cap xs := by
  obtain ⟨ao, cap, e, hs⟩ := h.out.sl
  refine ⟨ao, cap, by rw [← h.len]; exact e, ⟨by rw [← h.len]; exact hs.le, hs.mx, hs.nil, fun i hi => ?_⟩⟩
  have hi' : i < vs.length := by rw [h.len]; exact hi
  obtain ⟨b, off, e1, hF, es, hc, hr⟩ := hs.el i hi'
  obtain ⟨rfl, h1⟩ := hr
  obtain ⟨io, ic, e2, hs2⟩ := (h.inn i hi' hi).sl
  refine ⟨b, off, e1, hF.elim (fun h => h.elim) .inl, [vs[i].v], hc, io, ic, by rw [e2], hs2.mono (fun _ _ => rfl) ?_⟩
  intro b hb
  exact hb.elim (fun h => h.elim) (fun hb => .inr ⟨_, List.getElem_mem hi', hb⟩)
theorem OwnN.rd (h : OwnN w B eo ei v vs xs) : Rd w (OwnN.blk v vs) v xs := by
  obtain ⟨ao, cap, rfl, hs⟩ := h.sl
  exact hs.rd
theorem OwnN.old (h : OwnN w B eo ei v vs xs) : Rd w (Old w) v xs := h.rd.mono (fun _ _ => rfl) fun b hb => (h.lt b hb).2
end
instance iNest3 : IsT Tryd.prog 102 Raw := IsT.of (by kernel_rfl) Tryd.underlying102 rfl
instance iNest4 : IsZ Tryd.prog 102 (⟨.slice none 0 0⟩ : Raw) 24 := IsZ.of (z := .slice none 0 0) (by kernel_rfl) (fun _ _ => ⟨rfl, rfl⟩)
end Go.Proofs.YtikigaeihdmcaaaDoor

/-
  Contracts of more of the generic functions of package slices, at the types where the program uses them.
-/
set_option linter.unusedVariables false
namespace Go.Proofs.YtikigaeihdmcaaaDoor
open Go.RowKit
end Go.Proofs.YtikigaeihdmcaaaDoor

/-
  slices.IndexFunc and slices.ContainsFunc at lists of structs.
-/
set_option linter.unusedVariables false
namespace Go.Proofs.YtikigaeihdmcaaaDoor
open Go.RowKit
end Go.Proofs.YtikigaeihdmcaaaDoor

/-
  Package scc: contracts of its simple functions.
-/
set_option linter.unusedVariables false
set_option linter.unusedSimpArgs false
namespace Go.Proofs.YtikigaeihdmcaaaDoor
open Go.RowKit

end Go.Proofs.YtikigaeihdmcaaaDoor

/-
  Package proc: Named, nodes, counts, ins, outs: walked.
-/
set_option linter.unusedVariables false
set_option linter.unusedSimpArgs false
namespace Go.Proofs.YtikigaeihdmcaaaDoor
open Go.RowKit

theorem size_len (s : ByteArray) : s.data.toList.length = s.size := by simp
theorem Named_ok (w0 : World) (s : ByteArray) : Rt Tryd.prog 76 [.string s].toArray w0 fun v w' => v = .bool (namedB s) ∧ Ext w0 w' := by
  refine Rt.enter1 Tryd.func76 Tryd.ntmps76 rfl rfl ?_
  unfold namedB namedL
  (repeat (first | (apply WL.pure; rfl; rfl; rfl) | (apply WL.nil) | (apply EX.thenN) | (apply CW.seq) | (apply CW.region)))
  by_cases h1 : (s.data.toList == []) = true
  · rw [show (s.data.toList == (ByteArray.mk #[]).data.toList) = true from h1]
    (repeat (first | (apply WL.pure; rfl; rfl; rfl) | (apply WL.nil) | (apply EX.thenN) | (apply CW.seq) | (apply CW.region) | (apply WL.pass; rfl; rfl) | (apply CW.condT; rfl) | (apply CW.ret) | (apply EX.thenR)))
    refine EX.ret1 rfl rfl ⟨?_, Ext.refl _⟩
    rfl
  have h1 : (s.data.toList == []) = false := by simpa using h1
  rw [show (s.data.toList == (ByteArray.mk #[]).data.toList) = false from h1]
  try rw [h1]
  (repeat (apply WL.pure; rfl; rfl; rfl))
  refine WL.lenT rfl rfl rfl ?_
  rw [← size_len]
  (repeat (apply WL.pure; rfl; rfl; rfl))
  by_cases h2 : decide ((s.data.toList.length : Int) > 8) = true
  · rw [h2]
    (repeat (first | (apply WL.pure; rfl; rfl; rfl) | (apply WL.nil) | (apply EX.thenN) | (apply CW.seq) | (apply CW.region) | (apply WL.pass; rfl; rfl) | (apply CW.condT; rfl) | (apply CW.ret) | (apply EX.thenR)))
    exact EX.ret1 rfl rfl ⟨rfl, Ext.refl _⟩
  have h2 : decide ((s.data.toList.length : Int) > 8) = false := by simpa using h2
  rw [h2]
  (repeat (apply WL.pure; rfl; rfl; rfl))
  by_cases h3 : (s.data.toList == [116, 114, 117, 101]) = true
  · rw [show (s.data.toList == (ByteArray.mk #[116, 114, 117, 101]).data.toList) = true from h3]
    try rw [h3]
    (repeat (first | (apply WL.pure; rfl; rfl; rfl) | (apply WL.nil) | (apply EX.thenN) | (apply CW.seq) | (apply CW.region) | (apply WL.pass; rfl; rfl) | (apply CW.condT; rfl) | (apply CW.ret) | (apply EX.thenR)))
    exact EX.ret1 rfl rfl ⟨rfl, Ext.refl _⟩
  have h3 : (s.data.toList == [116, 114, 117, 101]) = false := by simpa using h3
  rw [show (s.data.toList == (ByteArray.mk #[116, 114, 117, 101]).data.toList) = false from h3]
  try rw [h3]
  (repeat (apply WL.pure; rfl; rfl; rfl))
  by_cases h4 : (s.data.toList == [102, 97, 108, 115, 101]) = true
  · rw [show (s.data.toList == (ByteArray.mk #[102, 97, 108, 115, 101]).data.toList) = true from h4]
    try rw [h4]
    (repeat (first | (apply WL.pure; rfl; rfl; rfl) | (apply WL.nil) | (apply EX.thenN) | (apply CW.seq) | (apply CW.region) | (apply WL.pass; rfl; rfl) | (apply CW.condT; rfl) | (apply CW.ret) | (apply EX.thenR)))
    exact EX.ret1 rfl rfl ⟨rfl, Ext.refl _⟩
  have h4 : (s.data.toList == [102, 97, 108, 115, 101]) = false := by simpa using h4
  rw [show (s.data.toList == (ByteArray.mk #[102, 97, 108, 115, 101]).data.toList) = false from h4]
  try rw [h4]
  (repeat (first | (apply WL.pure; rfl; rfl; rfl) | (apply WL.nil) | (apply EX.thenN)))
  by_cases h5 : (s.data.toList == [115, 105, 108, 101, 110, 116]) = true
  · rw [show (s.data.toList == (ByteArray.mk #[115, 105, 108, 101, 110, 116]).data.toList) = true from h5]
    try rw [h5]
    (repeat (first | (apply WL.pure; rfl; rfl; rfl) | (apply WL.nil) | (apply EX.thenN) | (apply CW.seq) | (apply CW.region) | (apply CW.condT; rfl) | (apply CW.ret) | (apply EX.thenR)))
    exact EX.ret1 rfl rfl ⟨rfl, Ext.refl _⟩
  have h5 : (s.data.toList == [115, 105, 108, 101, 110, 116]) = false := by simpa using h5
  rw [show (s.data.toList == (ByteArray.mk #[115, 105, 108, 101, 110, 116]).data.toList) = false from h5]
  try rw [h5]
  simp only [Bool.not_false, Bool.true_and]
  have h8 : s.size ≤ 8 := by have := size_len s; simp at h2; omega
  (repeat (first | (apply WL.pure; rfl; rfl; rfl) | (apply EX.thenN) | (apply CW.seq) | (apply CW.region) | (apply CW.condF; rfl) | (apply CW.skip)))
  refine WL.lenT rfl rfl rfl ?_
  (repeat (first | (apply WL.pure; rfl; rfl; rfl) | (apply WL.nil) | (apply EX.thenN) | (apply CW.block)))
  refine CW.loop (S := Nat) (fun i => [(0, .string s), (24, .int .i64 s.size), (25, .int .i64 i)])
    (fun i w => i ≤ s.size ∧ w = w0 ∧ ∀ j (h : j < s.size), j < i → lowB s[j] = true) (fun i => s.size - i) 0 (by repeat (first | exact trivial | refine ⟨rfl, ?_⟩)) ⟨by omega, rfl, by omega⟩ ?_
  rintro i w ⟨hi, rfl, hn⟩
  have hget : ∀ j (h : j < s.size), s.data.toList[j]'(by rw [size_len]; exact h) = s[j] := fun j h => by simp; rfl
  (repeat (first | (apply WL.pure; rfl; rfl; rfl) | (apply WL.nil) | (apply EX.thenN) | (apply CW.seq) | (apply CW.region)))
  refine CW.cond rfl (fun h => ?_) (fun h => ?_)
  · have hi' : i < s.size := by simp at h; omega
    have hbad : lowB s[i] = false → s.data.toList.all lowB = false := fun hb => by
      rw [List.all_eq_false]
      exact ⟨_, List.getElem_mem (by rw [size_len]; exact hi'), by rw [hget i hi', hb]; simp⟩
    (repeat (first | (apply WL.pure; rfl; rfl; rfl) | (apply WL.nil) | (apply EX.thenN) | (apply CW.seq) | (apply CW.region) | (apply CW.block) | (apply CW.skip)))
    refine WL.byteT rfl rfl rfl rfl hi' ?_
    (repeat (apply WL.pure; rfl; rfl; rfl))
    by_cases hb1 : decide (((s[i].toNat : Nat) : Int) < 97) = true
    · rw [hb1]
      (repeat (first | (apply WL.pure; rfl; rfl; rfl) | (apply WL.nil) | (apply EX.thenN) | (apply CW.seq) | (apply CW.region) | (apply WL.pass; rfl; rfl) | (apply CW.condT; rfl) | (apply CW.ret) | (apply EX.thenR) | (apply EX.inR)))
      refine EX.ret1 rfl rfl ⟨?_, Ext.refl _⟩
      rw [hbad (by unfold lowB; rw [hb1]; rfl)]
    have hb1 : decide (((s[i].toNat : Nat) : Int) < 97) = false := by simpa using hb1
    rw [hb1]
    (repeat (apply WL.pure; rfl; rfl; rfl))
    refine WL.byteT rfl rfl rfl rfl hi' ?_
    (repeat (first | (apply WL.pure; rfl; rfl; rfl) | (apply WL.nil) | (apply EX.thenN)))
    refine CW.cond rfl (fun hb2 => ?_) (fun hb2 => ?_)
    · (repeat (first | (apply WL.pure; rfl; rfl; rfl) | (apply WL.nil) | (apply EX.thenN) | (apply CW.seq) | (apply CW.region) | (apply CW.ret) | (apply EX.thenR) | (apply EX.inR)))
      refine EX.ret1 rfl rfl ⟨?_, Ext.refl _⟩
      rw [hbad (by unfold lowB; rw [hb1, hb2]; rfl)]
    · (repeat (first | (apply WL.add; rfl; rfl; rfl; rfl; omega; omega) | (apply WL.pure; rfl; rfl; rfl) | (apply WL.nil) | (apply EX.thenN) | (apply CW.region) | (apply EX.inN) | (apply CW.skip)))
      refine EX.back (i + 1) (by repeat (first | exact trivial | refine ⟨rfl, ?_⟩)) ⟨hi', rfl, fun j hj hlt => ?_⟩ (by omega)
      by_cases e : j = i
      · subst e; unfold lowB; rw [hb1, hb2]; rfl
      · exact hn j hj (by omega)
  · have hi' : i = s.size := by simp at h; omega
    subst hi'
    (repeat (first | (apply WL.pure; rfl; rfl; rfl) | (apply WL.nil) | (apply EX.thenN) | (apply CW.seq) | (apply CW.region) | (apply CW.exit) | (apply EX.thenX) | (apply EX.inX) | (apply CW.ret)))
    refine EX.ret1 rfl rfl ⟨?_, Ext.refl _⟩
    rw [List.all_eq_true.2]
    intro x hx
    obtain ⟨j, hj, rfl⟩ := List.mem_iff_getElem.1 hx
    rw [size_len] at hj
    rw [hget j hj]
    exact hn j hj hj
end Go.Proofs.YtikigaeihdmcaaaDoor

