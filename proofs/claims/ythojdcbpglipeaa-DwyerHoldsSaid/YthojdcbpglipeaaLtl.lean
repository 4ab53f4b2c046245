/-
  Formulas of one way: how they lie in memory, their check.
-/
import Derived.Test.YthojdcbpglipeaaTy
set_option linter.unusedVariables false
set_option linter.unusedSimpArgs false
namespace Go.Proofs.Ythojdcbpglipeaa
open Go.RowKit

inductive Ltl where
  | mk (k n : Int) (kids : List Ltl) : Ltl
def Ltl.k : Ltl → Int | .mk k _ _ => k
def Ltl.n : Ltl → Int | .mk _ n _ => n
def Ltl.kids : Ltl → List Ltl | .mk _ _ l => l
mutual
def Ltl.nodes : Ltl → Nat
  | .mk _ _ kids => 1 + Ltl.nodesL kids
def Ltl.nodesL : List Ltl → Nat
  | [] => 0
  | x :: r => x.nodes + Ltl.nodesL r
end
theorem Ltl.nodes_pos (t : Ltl) : 0 < t.nodes := by cases t; simp [Ltl.nodes]; omega
theorem Ltl.nodes_kid : ∀ (l : List Ltl) (x : Ltl), x ∈ l → x.nodes ≤ Ltl.nodesL l
  | [], x, h => by cases h
  | y :: r, x, h => by
    simp only [Ltl.nodesL]
    rcases List.mem_cons.1 h with rfl | h
    · omega
    · have := Ltl.nodes_kid r x h; omega

inductive RdT (w : World) (F : Nat → Prop) : List Value → Ltl → Prop
  | mk (k n : Int) (kids : List Ltl) (ao : Option Addr) (cap : Nat) (es : Nat → List Value) : kids.length ≤ cap → cap ≤ maxLen → (ao = none → cap = 0) →
      (∀ i, i < kids.length → ∃ b off, ao = some ⟨b, off, none⟩ ∧ F b ∧ Cells w b (off + i * 3) (es i)) → (∀ i (h : i < kids.length), RdT w F (es i) kids[i]) →
      RdT w F [.int .i64 k, .int .i64 n, .slice ao kids.length cap] (.mk k n kids)
instance iLtl1 : Rep Ltl where
  sz := 3
  pos := by decide
  agg := true
  rd := RdT
  len := by intro w F cs x h; cases h; rfl
  one := by
    intro w F cs x h v hv
    cases h
    simp at hv
    rcases hv with rfl | rfl | rfl <;> rfl
  szAgg := fun h => by cases h
  mono := by
    intro w w' F F' cs x h hb hF
    induction h with
    | mk k n kids ao cap es h1 h2 h3 h4 h5 ih =>
      refine .mk k n kids ao cap es h1 h2 h3 (fun i hi => ?_) (fun i hi => ih i hi)
      obtain ⟨b, off, e, hf, hc⟩ := h4 i hi
      exact ⟨b, off, e, hF b hf, hc.mono (hb b hf)⟩
theorem RdT.sl {w : World} {F : Nat → Prop} {cs : List Value} {t : Ltl} (h : rd w F cs t) : ∃ ao cap, cs = [.int .i64 t.k, .int .i64 t.n, .slice ao t.kids.length cap] ∧ Sl w F ao cap t.kids := by
  cases h with
  | mk k n kids ao cap es h1 h2 h3 h4 h5 =>
    refine ⟨ao, cap, rfl, h1, h2, h3, fun i hi => ?_⟩
    obtain ⟨b, off, e, hf, hc⟩ := h4 i hi
    exact ⟨b, off, e, hf, es i, hc, h5 i hi⟩
theorem RdT.of {w : World} {F : Nat → Prop} {k n : Int} {kids : List Ltl} {ao : Option Addr} {cap : Nat} (h : Sl w F ao cap kids) : rd w F [.int .i64 k, .int .i64 n, .slice ao kids.length cap] (Ltl.mk k n kids) := by
  have h4 : ∀ i, ∃ es : List Value, ∀ hi : i < kids.length, ∃ b off, ao = some ⟨b, off, none⟩ ∧ F b ∧ Cells w b (off + i * 3) es ∧ rd w F es kids[i] := by
    intro i
    by_cases hi : i < kids.length
    · obtain ⟨b, off, e, hf, es, hc, hr⟩ := h.el i hi
      exact ⟨es, fun _ => ⟨b, off, e, hf, hc, hr⟩⟩
    · exact ⟨[], fun h => absurd h hi⟩
  refine .mk k n kids ao cap (fun i => Classical.choose (h4 i)) h.le h.mx h.nil (fun i hi => ?_) (fun i hi => ?_)
  · obtain ⟨b, off, e, hf, hc, _⟩ := Classical.choose_spec (h4 i) hi
    exact ⟨b, off, e, hf, hc⟩
  · obtain ⟨b, off, e, hf, hc, hr⟩ := Classical.choose_spec (h4 i) hi
    exact hr
abbrev ltlV (k n : Int) (ao : Option Addr) (len cap : Nat) : Value := .agg [.int .i64 k, .int .i64 n, .slice ao len cap].toArray
theorem Rd.ltl {w : World} {F : Nat → Prop} {v : Value} {t : Ltl} (h : Rd w F v t) : ∃ ao cap, v = ltlV t.k t.n ao t.kids.length cap ∧ Sl w F ao cap t.kids := by
  obtain ⟨cs, e, hr⟩ := h
  obtain ⟨ao, cap, rfl, hs⟩ := RdT.sl hr
  exact ⟨ao, cap, e, hs⟩
theorem Rd.mkLtl {w : World} {F : Nat → Prop} {k n : Int} {kids : List Ltl} {ao : Option Addr} {cap : Nat} (h : Sl w F ao cap kids) : Rd w F (ltlV k n ao kids.length cap) (Ltl.mk k n kids) := ⟨_, rfl, RdT.of h⟩
instance iLtl2 : IsT Try.prog 56 Ltl := IsT.of (by kernel_rfl) Try.underlying56 rfl
instance iLtl3 : IsS Try.prog 54 56 := ⟨Try.underlying54⟩
instance iLtl4 : IsT Try.prog 54 (List Ltl) := IsT.of (by kernel_rfl) Try.underlying54 rfl
instance iLtl5 : IsZ Try.prog 56 (Ltl.mk 0 0 []) 40 := IsZ.of (z := .agg #[.int .i64 0, .int .i64 0, .slice none 0 0]) (by kernel_rfl) (fun _ _ => RdT.of (kids := []) ⟨by simp, by simp [maxLen], fun _ => rfl, fun i hi => absurd hi (by simp)⟩)
instance iLtl6 : IsC Try.prog 56 3 true := IsC.of (by kernel_rfl) Try.underlying56 rfl
instance iLtl7 : IsC Try.prog 54 1 false := IsC.of (by kernel_rfl) Try.underlying54 rfl
instance iLtl8 : IsZC Try.prog 54 [.slice none 0 0] := IsZC.of (z := .slice none 0 0) (by kernel_rfl) rfl
instance iLtl9 : IsFd Try.prog 56 0 0 := IsFd.of (by kernel_rfl)
instance iLtl10 : IsFd Try.prog 56 1 1 := IsFd.of (by kernel_rfl)
instance iLtl11 : IsFd Try.prog 56 2 2 := IsFd.of (by kernel_rfl)
instance iLtl12 : IsZC Try.prog 56 [.int .i64 0, .int .i64 0, .slice none 0 0] := IsZC.of (z := .agg #[.int .i64 0, .int .i64 0, .slice none 0 0]) (by kernel_rfl) rfl
instance iLtl13 : IsBd Try.prog 56 [(0, 1), (1, 1), (2, 1)] := IsBd.of (by kernel_rfl)
instance iLtl14 : IsC Try.prog 213 1 false := IsC.of (by kernel_rfl) Try.underlying213 rfl

def kidsK (k : Int) : Int := if k = 1 ∨ k = 2 ∨ k = 3 then 0 else if k = 4 ∨ k = 7 ∨ k = 10 ∨ k = 11 then 1 else if k = 5 ∨ k = 6 ∨ k = 8 ∨ k = 9 then 2 else -1
theorem kids_ok (w : World) (k : Int) : Rt Try.prog 169 [.int .i64 k].toArray w fun v w' => v = .int .i64 (kidsK k) ∧ w = w' := by
  refine Rt.enter1 Try.func169 Try.ntmps169 rfl rfl ?_
  unfold kidsK
  (repeat (first | (apply WL.pure; rfl; rfl; rfl) | (apply WL.nil) | (apply EX.thenN) | (apply CW.seq) | (apply CW.region) | (apply CW.block)))
  refine CW.cond rfl (fun h => ?_) (fun h => ?_) <;> simp at h
  · subst h; (repeat (first | (apply WL.pure; rfl; rfl; rfl) | (apply WL.nil) | (apply EX.thenN) | (apply CW.seq) | (apply CW.region) | (apply CW.condT; rfl) | (apply CW.ret) | (apply EX.thenR) | (apply EX.inR) | (apply CW.skip)))
    exact EX.ret1 rfl rfl ⟨rfl, rfl⟩
  (repeat (first | (apply WL.pure; rfl; rfl; rfl) | (apply WL.nil) | (apply EX.thenN) | (apply CW.seq) | (apply CW.region)))
  refine CW.cond rfl (fun h => ?_) (fun h => ?_) <;> simp at h
  · subst h; (repeat (first | (apply WL.pure; rfl; rfl; rfl) | (apply WL.nil) | (apply EX.thenN) | (apply CW.seq) | (apply CW.region) | (apply CW.condT; rfl) | (apply CW.ret) | (apply EX.thenR) | (apply EX.inR) | (apply CW.skip)))
    exact EX.ret1 rfl rfl ⟨rfl, rfl⟩
  (repeat (first | (apply WL.pure; rfl; rfl; rfl) | (apply WL.nil) | (apply EX.thenN) | (apply CW.region)))
  refine CW.cond rfl (fun h => ?_) (fun h => ?_) <;> simp at h
  · subst h; (repeat (first | (apply WL.pure; rfl; rfl; rfl) | (apply WL.nil) | (apply EX.thenN) | (apply CW.seq) | (apply CW.region) | (apply CW.ret) | (apply EX.thenR) | (apply EX.inR)))
    exact EX.ret1 rfl rfl ⟨rfl, rfl⟩
  rw [if_neg (by omega)]
  (repeat (first | (apply WL.pure; rfl; rfl; rfl) | (apply WL.nil) | (apply EX.thenN) | (apply CW.seq) | (apply CW.region)))
  refine CW.cond rfl (fun h => ?_) (fun h => ?_) <;> simp at h
  · subst h; (repeat (first | (apply WL.pure; rfl; rfl; rfl) | (apply WL.nil) | (apply EX.thenN) | (apply CW.seq) | (apply CW.region) | (apply CW.condT; rfl) | (apply CW.ret) | (apply EX.thenR) | (apply EX.inR) | (apply CW.skip)))
    exact EX.ret1 rfl rfl ⟨rfl, rfl⟩
  (repeat (first | (apply WL.pure; rfl; rfl; rfl) | (apply WL.nil) | (apply EX.thenN) | (apply CW.seq) | (apply CW.region)))
  refine CW.cond rfl (fun h => ?_) (fun h => ?_) <;> simp at h
  · subst h; (repeat (first | (apply WL.pure; rfl; rfl; rfl) | (apply WL.nil) | (apply EX.thenN) | (apply CW.seq) | (apply CW.region) | (apply CW.condT; rfl) | (apply CW.ret) | (apply EX.thenR) | (apply EX.inR) | (apply CW.skip)))
    exact EX.ret1 rfl rfl ⟨rfl, rfl⟩
  (repeat (first | (apply WL.pure; rfl; rfl; rfl) | (apply WL.nil) | (apply EX.thenN) | (apply CW.seq) | (apply CW.region)))
  refine CW.cond rfl (fun h => ?_) (fun h => ?_) <;> simp at h
  · subst h; (repeat (first | (apply WL.pure; rfl; rfl; rfl) | (apply WL.nil) | (apply EX.thenN) | (apply CW.seq) | (apply CW.region) | (apply CW.condT; rfl) | (apply CW.ret) | (apply EX.thenR) | (apply EX.inR) | (apply CW.skip)))
    exact EX.ret1 rfl rfl ⟨rfl, rfl⟩
  (repeat (first | (apply WL.pure; rfl; rfl; rfl) | (apply WL.nil) | (apply EX.thenN) | (apply CW.region)))
  refine CW.cond rfl (fun h => ?_) (fun h => ?_) <;> simp at h
  · subst h; (repeat (first | (apply WL.pure; rfl; rfl; rfl) | (apply WL.nil) | (apply EX.thenN) | (apply CW.seq) | (apply CW.region) | (apply CW.ret) | (apply EX.thenR) | (apply EX.inR)))
    exact EX.ret1 rfl rfl ⟨rfl, rfl⟩
  rw [if_neg (by omega)]
  (repeat (first | (apply WL.pure; rfl; rfl; rfl) | (apply WL.nil) | (apply EX.thenN) | (apply CW.seq) | (apply CW.region)))
  refine CW.cond rfl (fun h => ?_) (fun h => ?_) <;> simp at h
  · subst h; (repeat (first | (apply WL.pure; rfl; rfl; rfl) | (apply WL.nil) | (apply EX.thenN) | (apply CW.seq) | (apply CW.region) | (apply CW.condT; rfl) | (apply CW.ret) | (apply EX.thenR) | (apply EX.inR) | (apply CW.skip)))
    exact EX.ret1 rfl rfl ⟨rfl, rfl⟩
  (repeat (first | (apply WL.pure; rfl; rfl; rfl) | (apply WL.nil) | (apply EX.thenN) | (apply CW.seq) | (apply CW.region)))
  refine CW.cond rfl (fun h => ?_) (fun h => ?_) <;> simp at h
  · subst h; (repeat (first | (apply WL.pure; rfl; rfl; rfl) | (apply WL.nil) | (apply EX.thenN) | (apply CW.seq) | (apply CW.region) | (apply CW.condT; rfl) | (apply CW.ret) | (apply EX.thenR) | (apply EX.inR) | (apply CW.skip)))
    exact EX.ret1 rfl rfl ⟨rfl, rfl⟩
  (repeat (first | (apply WL.pure; rfl; rfl; rfl) | (apply WL.nil) | (apply EX.thenN) | (apply CW.seq) | (apply CW.region)))
  refine CW.cond rfl (fun h => ?_) (fun h => ?_) <;> simp at h
  · subst h; (repeat (first | (apply WL.pure; rfl; rfl; rfl) | (apply WL.nil) | (apply EX.thenN) | (apply CW.seq) | (apply CW.region) | (apply CW.condT; rfl) | (apply CW.ret) | (apply EX.thenR) | (apply EX.inR) | (apply CW.skip)))
    exact EX.ret1 rfl rfl ⟨rfl, rfl⟩
  (repeat (first | (apply WL.pure; rfl; rfl; rfl) | (apply WL.nil) | (apply EX.thenN) | (apply CW.region)))
  refine CW.cond rfl (fun h => ?_) (fun h => ?_) <;> simp at h
  · subst h; (repeat (first | (apply WL.pure; rfl; rfl; rfl) | (apply WL.nil) | (apply EX.thenN) | (apply CW.seq) | (apply CW.region) | (apply CW.ret) | (apply EX.thenR) | (apply EX.inR)))
    exact EX.ret1 rfl rfl ⟨rfl, rfl⟩
  rw [if_neg (by omega)]
  (repeat (first | (apply WL.pure; rfl; rfl; rfl) | (apply WL.nil) | (apply EX.thenN) | (apply CW.seq) | (apply CW.region) | (apply EX.inN) | (apply CW.ret) | (apply CW.skip)))
  exact EX.ret1 rfl rfl ⟨rfl, rfl⟩
end Go.Proofs.Ythojdcbpglipeaa
