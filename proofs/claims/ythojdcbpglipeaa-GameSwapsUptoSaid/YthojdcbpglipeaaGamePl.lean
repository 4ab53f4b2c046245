/-
  Tokens: plain lists, no program in sight.
-/
import Derived.Test.YthojdcbpglipeaaStepsPl
set_option linter.unusedVariables false
set_option linter.unusedSimpArgs false
namespace Go.Proofs.Ythojdcbpglipeaa

def beginL (p : LProc) : List Int := p.2.map fun f => if kindAt p f.1.toNat = 1 then 1 else 0
def tokB (n : Int) : Bool := decide (n < 0) || decide (n > 9)
noncomputable def chkM (p : LProc) (m : List Int) : Int := if (stepsE p).2 ≠ 0 then (stepsE p).2 else if m.length ≠ p.2.length ∨ m.any tokB = true then 1 else 0
def comeStep (fl : List LFlow) (n : Int) (s : List Bool × List Int) (i : Nat) : List Bool × List Int :=
  if (fl.getD i (0, 0)).2 = n ∧ s.1.getD i false = false then (s.1.set i true, s.2 ++ [(i : Int)]) else s
def comeGo (fl : List LFlow) (but : Int) : Nat → List Bool → List Int → List Bool
  | 0, out, _ => out
  | _ + 1, out, [] => out
  | f + 1, out, x :: r =>
    if (fl.getD x.toNat (0, 0)).1 = but then comeGo fl but f out r
    else comeGo fl but f ((List.range fl.length).foldl (comeStep fl (fl.getD x.toNat (0, 0)).1) (out, r)).1 ((List.range fl.length).foldl (comeStep fl (fl.getD x.toNat (0, 0)).1) (out, r)).2
def comeL (fl : List LFlow) (flow : Nat) (but : Int) : List Bool := comeGo fl but fl.length ((List.replicate fl.length false).set flow true) [(flow : Int)]
def falses (l : List Bool) : Nat := l.countP fun b => !b
theorem falses_set {l : List Bool} {k : Nat} (hk : k < l.length) (h : l.getD k false = false) : falses (l.set k true) + 1 = falses l := by
  unfold falses
  rw [List.getD_eq_getElem?_getD, List.getElem?_eq_getElem hk] at h
  have h : l[k] = false := h
  rw [List.countP_set hk, h]
  have : 0 < l.countP fun b => !b := List.countP_pos_iff.2 ⟨l[k], List.getElem_mem hk, by simp [h]⟩
  simp; omega
theorem falses_rep {n : Nat} : falses (List.replicate n false) = n := by simp [falses, List.countP_replicate]
theorem falses_le {l : List Bool} : falses l ≤ l.length := List.countP_le_length
structure ComeI (fl : List LFlow) (out : List Bool) (todo : List Int) : Prop where
  len : out.length = fl.length
  ok : ∀ x ∈ todo, 0 ≤ x ∧ x < fl.length
theorem comeStep_ok {fl : List LFlow} {n : Int} {out : List Bool} {todo : List Int} {i : Nat} (hi : i < fl.length) (h : ComeI fl out todo) :
    ComeI fl (comeStep fl n (out, todo) i).1 (comeStep fl n (out, todo) i).2 ∧ (comeStep fl n (out, todo) i).2.length + falses (comeStep fl n (out, todo) i).1 = todo.length + falses out := by
  unfold comeStep
  split
  · rename_i hc
    have := falses_set (l := out) (k := i) (by rw [h.len]; exact hi) hc.2
    refine ⟨⟨by simpa using h.len, fun x hx => ?_⟩, by simp only [List.length_append, List.length_cons, List.length_nil]; omega⟩
    rcases List.mem_append.1 hx with hx | hx
    · exact h.ok x hx
    · rw [List.mem_singleton] at hx; omega
  · exact ⟨h, rfl⟩
theorem comeGo_nil {fl : List LFlow} {but : Int} {f : Nat} {out : List Bool} : comeGo fl but f out [] = out := by cases f <;> rfl
theorem comeGo_len {fl : List LFlow} {but : Int} : ∀ (f : Nat) (out : List Bool) (todo : List Int), out.length = fl.length → (comeGo fl but f out todo).length = fl.length
  | 0, out, _, h => h
  | _ + 1, out, [], h => h
  | f + 1, out, x :: r, h => by
    unfold comeGo
    split
    · exact comeGo_len f _ _ h
    · refine comeGo_len f _ _ ?_
      have : ∀ (l : List Nat) (s : List Bool × List Int), s.1.length = fl.length → (l.foldl (comeStep fl (fl.getD x.toNat (0, 0)).1) s).1.length = fl.length := by
        intro l
        induction l with
        | nil => intro s h; exact h
        | cons a l ih =>
          intro s h
          refine ih _ ?_
          unfold comeStep
          split
          · simpa using h
          · exact h
      exact this _ _ h
theorem comeL_len {fl : List LFlow} {flow : Nat} {but : Int} : (comeL fl flow but).length = fl.length := comeGo_len _ _ _ (by simp)
def badIn (p : LProc) (m : List Int) (node f : Int) : Bool := (List.range p.2.length).any fun i => (comeL p.2 f.toNat node).getD i false && decide (m.getD i 0 > 0) && decide ((p.2.getD i (0, 0)).2 ≠ node)
def joinsP (p : LProc) (m : List Int) (node : Int) : Bool :=
  if (insL p.2 node).any (fun f => !decide (m.getD f.toNat 0 > 0) && badIn p m node f) = true then false else (insL p.2 node).any fun f => decide (m.getD f.toNat 0 > 0)
def enabledP (p : LProc) (m : List Int) (s : LStep) : Bool :=
  if 0 ≤ s.2.1 then decide (m.getD s.2.1.toNat 0 > 0) else if kindAt p s.1.toNat = 7 then joinsP p m s.1 else !(insL p.2 s.1).any fun f => m.getD f.toNat 0 == 0
/-- the numbers of the steps that are enabled -/
def canP (p : LProc) (m : List Int) (k : Nat) : List Int := ((List.range k).filter fun i => enabledP p m ((stepsL p).getD i (0, 0, 0))).map fun i : Nat => (i : Int)
abbrev canL (p : LProc) (m : List Int) : List Int := canP p m (stepsL p).length
theorem canP_next {p : LProc} {m : List Int} {k : Nat} : canP p m (k + 1) = canP p m k ++ (if enabledP p m ((stepsL p).getD k (0, 0, 0)) = true then [(k : Int)] else []) := by
  unfold canP
  rw [List.range_succ, List.filter_append, List.map_append]
  congr 1
  by_cases h : enabledP p m ((stepsL p).getD k (0, 0, 0)) = true
  · rw [if_pos h, List.filter_cons_of_pos (p := fun i => enabledP p m ((stepsL p).getD i (0, 0, 0))) h]; rfl
  · rw [if_neg h, List.filter_cons_of_neg (p := fun i => enabledP p m ((stepsL p).getD i (0, 0, 0))) h]; rfl
/-- what a step takes off flow f -/
def takes (m : List Int) (s : LStep) (f : Int) : Int := if s.2.1 = f ∨ s.2.1 < 0 ∧ m.getD f.toNat 0 > 0 then m.getD f.toNat 0 - 1 else m.getD f.toNat 0
def takeAll (s : LStep) : List Int → List Int → List Int
  | m, [] => m
  | m, f :: r => takeAll s (m.set f.toNat (takes m s f)) r
/-- bit k of n -/
def bitK (n : Int) (k : Nat) : Int := (n / 2 ^ k) % 2
def putAll (n : Int) : Nat → List Int → List Int → Option (List Int)
  | _, m, [] => some m
  | k, m, f :: r => if bitK n k = 1 then (if m.getD f.toNat 0 + 1 > 9 then none else putAll n (k + 1) (m.set f.toNat (m.getD f.toNat 0 + 1)) r) else putAll n (k + 1) m r
def fireP (p : LProc) (m : List Int) (s : LStep) : Option (List Int) :=
  if kindAt p s.1.toNat = 3 then some (m.map fun _ => 0) else putAll s.2.2 0 (takeAll s m (insL p.2 s.1)) (outsL p.2 s.1)
noncomputable def fireE (p : LProc) (m : List Int) (k : Int) : List Int × Int :=
  if chkM p m ≠ 0 then ([], chkM p m) else if k < 0 ∨ k ≥ (stepsL p).length then ([], 1)
  else if enabledP p m ((stepsL p).getD k.toNat (0, 0, 0)) = false then ([], 9)
  else ((fireP p m ((stepsL p).getD k.toNat (0, 0, 0))).getD [], if (fireP p m ((stepsL p).getD k.toNat (0, 0, 0))).isSome then 0 else 7)
noncomputable def canE (p : LProc) (m : List Int) : List Int := if chkM p m = 0 then canL p m else []
def pickD (d : Int) (can : List Int) : Int := can.getD (d % can.length).toNat 0
/-- markings along steps that are chosen by dice -/
noncomputable def walkGo (p : LProc) : List Int → List Int → List (List Int) × List Int
  | [], _ => ([], [])
  | d :: r, m =>
    if canE p m = [] then ([], [])
    else if (fireE p m (pickD d (canE p m))).2 ≠ 0 then ([], [])
    else ((fireE p m (pickD d (canE p m))).1 :: (walkGo p r (fireE p m (pickD d (canE p m))).1).1, pickD d (canE p m) :: (walkGo p r (fireE p m (pickD d (canE p m))).1).2)
noncomputable def walkedP (p : LProc) (dice : List Int) : List (List Int) × List Int :=
  if (stepsE p).2 ≠ 0 then ([], []) else (beginL p :: (walkGo p dice (beginL p)).1, (walkGo p dice (beginL p)).2)
end Go.Proofs.Ythojdcbpglipeaa
