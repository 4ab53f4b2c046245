import Derived.Test.YtllpfgcngokhnaaPtJudgeShows7
/-
  Package auto: odd, Check, Fits, member, product.
-/
set_option linter.unusedVariables false
set_option linter.unusedSimpArgs false
namespace Go.Proofs.Ytllpfgcngokhnaa
open Go.RowKit

abbrev LAuto := List Int × List (List Int) × List Nat × List Nat × List (List Int)
abbrev autoV (a1 : Option Addr) (c1 : Nat) (a2 : Option Addr) (c2 : Nat) (a3 : Option Addr) (c3 : Nat) (a4 : Option Addr) (c4 : Nat) (a5 : Option Addr) (c5 : Nat) (n1 n2 n3 n4 n5 : Nat) : Value := .agg [.slice a1 n1 c1, .slice a2 n2 c2, .slice a3 n3 c3, .slice a4 n4 c4, .slice a5 n5 c5].toArray
/-- the cells of an automaton: what they read as -/
structure AutoAt (w : World) (F : Nat → Prop) (v : Value) (A : LAuto) : Prop where
  ok : ∃ a1 c1 a2 c2 a3 c3 a4 c4 a5 c5, v = autoV a1 c1 a2 c2 a3 c3 a4 c4 a5 c5 A.1.length A.2.1.length A.2.2.1.length A.2.2.2.1.length A.2.2.2.2.length ∧ Sl w F a1 c1 A.1 ∧ Sl w F a2 c2 A.2.1 ∧ Sl w F a3 c3 A.2.2.1 ∧ Sl w F a4 c4 A.2.2.2.1 ∧ Sl w F a5 c5 A.2.2.2.2
def chkA (A : LAuto) : Int :=
  if A.2.1.length > 2048 ∨ A.2.2.2.2.length > 80 then 2 else if A.2.2.1.length ≠ A.2.1.length ∨ A.2.2.2.1.length ≠ A.2.1.length ∨ oddB A.2.1.length A.1 = true then 1
  else if A.2.1.any (oddB A.2.1.length) = true ∨ A.2.2.2.2.any (oddB A.2.1.length) = true then 1 else 0
structure OkA (A : LAuto) : Prop where
  n : A.2.1.length ≤ 2048
  f : A.2.2.2.2.length ≤ 80
  mu : A.2.2.1.length = A.2.1.length
  no : A.2.2.2.1.length = A.2.1.length
  st : okL A.2.1.length A.1
  nx : ∀ r ∈ A.2.1, okL A.2.1.length r
  fr : ∀ r ∈ A.2.2.2.2, okL A.2.1.length r
theorem any_odd {n : Nat} {g : List (List Int)} : g.any (oddB n) = false ↔ ∀ r ∈ g, okL n r := by
  rw [List.any_eq_false]
  refine forall_congr' fun r => forall_congr' fun _ => ?_
  rw [← oddB_false, Bool.not_eq_true]
theorem chkA_ok {A : LAuto} (h : chkA A = 0) : OkA A := by
  unfold chkA at h
  split at h
  · cases h
  split at h
  · cases h
  split at h
  · cases h
  rename_i h1 h2 h3
  rw [not_or] at h1 h2 h3
  rw [not_or] at h2
  exact ⟨by omega, by omega, by omega, by omega, oddB_false.1 (by simpa using h2.2.2), any_odd.1 (by simpa using h3.1), any_odd.1 (by simpa using h3.2)⟩
theorem chkA_of {A : LAuto} (h : OkA A) : chkA A = 0 := by
  unfold chkA
  have a := oddB_false.2 h.st; have b := any_odd.2 h.nx; have c := any_odd.2 h.fr; have d := h.mu; have e := h.no
  rw [if_neg (by have := h.n; have := h.f; omega), if_neg (by rw [a]; simp; omega), if_neg (by rw [b, c]; simp)]

theorem aodd1 (n : Nat) (x : Int) (b : Nat) (w : World) (hb : Blk w b 3 [.int .i64 n]) :
    Rt Try.prog 141 [.int .i64 x, .pointer (some ⟨b, 0, none⟩)].toArray w fun v w' => v = .bool (decide (x < 0 ∨ x ≥ n)) ∧ w = w' := by
  refine Rt.enter2 Try.func141 Try.ntmps141 rfl rfl ?_
  (repeat (first | (apply WL.pure; rfl; rfl; rfl) | (apply WL.nil) | (apply EX.thenN) | (apply CW.seq) | (apply CW.region)))
  refine WL.look (s := 6) rfl (fun h => ?_) (fun h => ?_)
  · (repeat (first | (apply WL.pure; rfl; rfl; rfl) | (apply WL.nil) | (apply EX.thenN) | (apply WL.pass; rfl; rfl) | (apply CW.ret)))
    refine EX.ret1 rfl rfl ?_
    simp at h
    simp [h]
  · (repeat (first | (apply WL.pure; rfl; rfl; rfl) | (apply WL.nil) | (apply EX.thenN) | (apply WL.ld; rfl; rfl; rfl; assumption; rfl) | (apply CW.ret)))
    refine EX.ret1 rfl rfl ?_
    simp at h
    simp [Int.not_lt.2 h]
theorem aodd_ok (w0 : World) {lo : Option Addr} {lcap : Nat} {l : List Int} (n : Nat) (hl : Sl w0 (Old w0) lo lcap l) :
    Rt Try.prog 89 [.slice lo l.length lcap, .int .i64 n].toArray w0 fun v w' => v = .bool (oddB n l) ∧ Ext w0 w' := by
  refine Rt.enter2 Try.func89 Try.ntmps89 rfl rfl ?_
  (repeat (first | (apply CW.seq) | (apply CW.region)))
  refine WL.boxB rfl rfl rfl fun w1 hb hE => ?_
  (repeat (first | (apply WL.pure; rfl; rfl; rfl) | (apply WL.nil) | (apply EX.thenN) | (apply CW.seq) | (apply CW.region) | (apply WL.makeFunc; rfl; rfl; rfl; rfl)))
  refine WL.call rfl rfl rfl (containsFunc_int w1 (fun x => decide (x < 0 ∨ x ≥ n)) (hl.up hE) (fun w hw i h => ?_)) ?_
  · refine FnV.mk (Rt.mono (aodd1 n _ _ w (hb.ext hw)) ?_)
    rintro v w' ⟨rfl, rfl⟩
    exact ⟨rfl, Ext.refl _⟩
  · rintro v w' ⟨rfl, hB⟩
    (repeat (first | (apply WL.pure; rfl; rfl; rfl) | (apply WL.nil) | (apply EX.thenN) | (apply CW.ret)))
    exact EX.ret1 rfl rfl ⟨rfl, hE.trans hB⟩
theorem achk1 (w : World) {lo : Option Addr} {lcap : Nat} {l : List Int} (n : Nat) (b : Nat) (hb : Blk w b 3 [.int .i64 n]) (hl : Sl w (Old w) lo lcap l) :
    Rt Try.prog 90 [.slice lo l.length lcap, .pointer (some ⟨b, 0, none⟩)].toArray w fun v w' => v = .bool (oddB n l) ∧ Ext w w' := by
  refine Rt.enter2 Try.func90 Try.ntmps90 rfl rfl ?_
  (repeat (first | (apply WL.pure; rfl; rfl; rfl) | (apply WL.nil) | (apply EX.thenN) | (apply CW.seq) | (apply CW.region) | (apply WL.ld; rfl; rfl; rfl; assumption; rfl)))
  refine WL.call rfl rfl rfl (aodd_ok w n hl) ?_
  rintro _ w' ⟨rfl, hE⟩
  (repeat (first | (apply WL.pure; rfl; rfl; rfl) | (apply WL.nil) | (apply EX.thenN) | (apply CW.ret)))
  exact EX.ret1 rfl rfl ⟨rfl, hE⟩
theorem achk2 (w : World) {lo : Option Addr} {lcap : Nat} {l : List Int} (n : Nat) (b : Nat) (hb : Blk w b 3 [.int .i64 n]) (hl : Sl w (Old w) lo lcap l) :
    Rt Try.prog 91 [.slice lo l.length lcap, .pointer (some ⟨b, 0, none⟩)].toArray w fun v w' => v = .bool (oddB n l) ∧ Ext w w' := by
  refine Rt.enter2 Try.func91 Try.ntmps91 rfl rfl ?_
  (repeat (first | (apply WL.pure; rfl; rfl; rfl) | (apply WL.nil) | (apply EX.thenN) | (apply CW.seq) | (apply CW.region) | (apply WL.ld; rfl; rfl; rfl; assumption; rfl)))
  refine WL.call rfl rfl rfl (aodd_ok w n hl) ?_
  rintro _ w' ⟨rfl, hE⟩
  (repeat (first | (apply WL.pure; rfl; rfl; rfl) | (apply WL.nil) | (apply EX.thenN) | (apply CW.ret)))
  exact EX.ret1 rfl rfl ⟨rfl, hE⟩
theorem aCheck_ok (w0 : World) {v0 : Value} {A : LAuto} (ha : AutoAt w0 (Old w0) v0 A) :
    Rt Try.prog 43 [v0].toArray w0 fun v w' => v = .int .i64 (chkA A) ∧ Ext w0 w' := by
  obtain ⟨a1, c1, a2, c2, a3, c3, a4, c4, a5, c5, rfl, h1, h2, h3, h4, h5⟩ := ha.ok
  obtain ⟨st, nx, mu, no, fr⟩ := A
  dsimp only at *
  have hm2 := h2.len63
  have hm3 := h3.len63
  have hm4 := h4.len63
  have hm5 := h5.len63
  refine Rt.enter1 Try.func43 Try.ntmps43 rfl rfl ?_
  have hE := Ext.refl w0
  (repeat (first | (apply CW.seq) | (apply CW.region)))
  refine WL.boxB rfl rfl rfl fun w1 hb1 e1 => ?_
  have hE := hE.trans e1
  have z1 := e1.size
  have hl1 := hb1.lt
  (repeat (first | (apply WL.pure; rfl; rfl; rfl) | (apply WL.nil) | (apply EX.thenN) | (apply CW.seq) | (apply CW.region) | (apply WL.lenS; rfl; rfl; rfl) | (apply WL.fa; rfl; rfl; rfl) | (apply WL.ld; rfl; rfl; rfl; assumption; rfl)))
  refine WL.alloc rfl rfl (fun w2 hb3 e2 => ?_)
  have hb1 := hb1.ext e2
  have hE := hE.trans e2
  skip
  refine WL.st rfl rfl rfl hb3 rfl rfl (ones_of rfl) (fun w3 hb3 hg3 => ?_)
  have hb1 := hb1.kept hg3 (by simp; omega)
  have hE : Ext w0 w3 := hE.grown hg3 hE.size (fun g hg => by cases hg; exact z1)
  unfold chkA
  dsimp only
  (repeat (first | (apply WL.pure; rfl; rfl; rfl) | (apply WL.nil) | (apply EX.thenN) | (apply CW.seq) | (apply CW.region) | (apply WL.ld; rfl; rfl; rfl; assumption; rfl)))
  (refine WL.lookG rfl rfl (fun h => ?_) (fun h => ?_))
  · (repeat (first | (apply WL.pure; rfl; rfl; rfl) | (apply WL.nil) | (apply EX.thenN) | (apply CW.seq) | (apply CW.region) | (apply WL.pass; rfl; rfl) | (apply CW.condT; rfl) | (apply CW.ret) | (apply EX.thenR)))
    skip
    refine EX.ret1 rfl rfl ⟨?_, hE⟩
    simp at h
    rw [if_pos (.inl (by omega))]
  (repeat (first | (apply WL.pure; rfl; rfl; rfl) | (apply WL.nil) | (apply EX.thenN) | (apply WL.lenS; rfl; rfl; rfl) | (apply WL.fa; rfl; rfl; rfl) | (apply WL.ld; rfl; rfl; rfl; assumption; rfl)))
  refine CW.cond rfl (fun h5' => ?_) (fun h5' => ?_)
  · (repeat (first | (apply WL.pure; rfl; rfl; rfl) | (apply WL.nil) | (apply EX.thenN) | (apply CW.seq) | (apply CW.region) | (apply CW.ret) | (apply EX.thenR)))
    refine EX.ret1 rfl rfl ⟨?_, hE⟩
    simp at h5'
    rw [if_pos (.inr (by omega))]
  simp at h h5'
  rw [if_neg (by omega)]
  clear h h5'
  (repeat (first | (apply WL.pure; rfl; rfl; rfl) | (apply EX.thenN) | (apply CW.seq) | (apply CW.region) | (apply WL.lenS; rfl; rfl; rfl) | (apply WL.fa; rfl; rfl; rfl) | (apply WL.ld; rfl; rfl; rfl; assumption; rfl) | (apply CW.skip)))
  (refine WL.lookG rfl rfl (fun h => ?_) (fun h => ?_))
  · simp at h
    (repeat (first | (apply WL.pure; rfl; rfl; rfl) | (apply WL.nil) | (apply EX.thenN) | (apply CW.seq) | (apply CW.region) | (apply WL.pass; rfl; rfl) | (apply CW.condT; rfl) | (apply CW.ret) | (apply EX.thenR)))
    refine EX.ret1 rfl rfl ⟨?_, hE⟩
    rw [if_pos (.inl (by omega))]
  simp at h
  have h0 := h
  clear h
  (repeat (first | (apply WL.pure; rfl; rfl; rfl) | (apply WL.lenS; rfl; rfl; rfl) | (apply WL.fa; rfl; rfl; rfl) | (apply WL.ld; rfl; rfl; rfl; assumption; rfl)))
  (refine WL.lookG rfl rfl (fun h => ?_) (fun h => ?_))
  · have hx := h
    simp at hx
    (repeat (first | (apply WL.pure; rfl; rfl; rfl) | (apply WL.nil) | (apply EX.thenN) | (apply CW.seq) | (apply CW.region) | (apply WL.pass; rfl; rfl) | (apply CW.condT; rfl) | (apply CW.ret) | (apply EX.thenR)))
    refine EX.ret1 rfl rfl ⟨?_, hE⟩
    rw [if_pos (.inr (.inl (by omega)))]
  have hx := h
  simp at hx
  (repeat (first | (apply WL.fa; rfl; rfl; rfl) | (apply WL.ld; rfl; rfl; rfl; assumption; rfl)))
  refine WL.call rfl rfl rfl (aodd_ok w3 nx.length (h1.up hE)) ?_
  rintro _ w4 ⟨rfl, e4⟩
  have hb1 := hb1.ext e4
  have hb3 := hb3.ext e4
  have hE := hE.trans e4
  (repeat (first | (apply WL.pure; rfl; rfl; rfl) | (apply WL.nil) | (apply EX.thenN)))
  refine CW.cond rfl (fun h7 => ?_) (fun h7 => ?_)
  · (repeat (first | (apply WL.pure; rfl; rfl; rfl) | (apply WL.nil) | (apply EX.thenN) | (apply CW.seq) | (apply CW.region) | (apply CW.ret) | (apply EX.thenR)))
    refine EX.ret1 rfl rfl ⟨?_, hE⟩
    rw [if_pos (.inr (.inr h7))]
  rw [if_neg (by rw [h7]; simp; omega)]
  (repeat (first | (apply EX.thenN) | (apply CW.seq) | (apply CW.region) | (apply WL.makeFunc; rfl; rfl; rfl; rfl) | (apply WL.fa; rfl; rfl; rfl) | (apply WL.ld; rfl; rfl; rfl; assumption; rfl) | (apply CW.skip)))
  refine WL.call rfl rfl rfl (containsFunc_ll w4 (oddB nx.length) (h2.up hE) (fun w hw i hi u hu => ?_)) ?_
  · obtain ⟨lo, lc, rfl, hl⟩ := hu.sl
    exact FnV.mk (Rt.mono (achk1 w nx.length _ (hb3.ext hw) (hl.lift fun b hb => Nat.lt_of_lt_of_le hb hw.size)) fun v w' h => h)
  rintro _ w5 ⟨rfl, e5⟩
  have hb1 := hb1.ext e5
  have hb3 := hb3.ext e5
  have hE := hE.trans e5
  (repeat (apply WL.pure; rfl; rfl; rfl))
  (refine WL.lookG rfl rfl (fun h => ?_) (fun h => ?_))
  · have h8 := h
    (repeat (first | (apply WL.pure; rfl; rfl; rfl) | (apply WL.nil) | (apply EX.thenN) | (apply CW.seq) | (apply CW.region) | (apply WL.pass; rfl; rfl) | (apply CW.condT; rfl) | (apply CW.ret) | (apply EX.thenR)))
    refine EX.ret1 rfl rfl ⟨?_, hE⟩
    rw [if_pos (.inl h8)]
  have h8 := h
  (repeat (first | (apply WL.makeFunc; rfl; rfl; rfl; rfl) | (apply WL.fa; rfl; rfl; rfl) | (apply WL.ld; rfl; rfl; rfl; assumption; rfl)))
  refine WL.call rfl rfl rfl (containsFunc_ll w5 (oddB nx.length) (h5.up hE) (fun w hw i hi u hu => ?_)) ?_
  · obtain ⟨lo, lc, rfl, hl⟩ := hu.sl
    exact FnV.mk (Rt.mono (achk2 w nx.length _ (hb3.ext hw) (hl.lift fun b hb => Nat.lt_of_lt_of_le hb hw.size)) fun v w' h => h)
  rintro _ w6 ⟨rfl, e6⟩
  have hb1 := hb1.ext e6
  have hb3 := hb3.ext e6
  have hE := hE.trans e6
  (repeat (first | (apply WL.pure; rfl; rfl; rfl) | (apply WL.nil) | (apply EX.thenN)))
  refine CW.cond rfl (fun h9 => ?_) (fun h9 => ?_)
  · (repeat (first | (apply WL.pure; rfl; rfl; rfl) | (apply WL.nil) | (apply EX.thenN) | (apply CW.seq) | (apply CW.region) | (apply CW.ret) | (apply EX.thenR)))
    refine EX.ret1 rfl rfl ⟨?_, hE⟩
    rw [if_pos (.inr h9)]
  (repeat (first | (apply WL.pure; rfl; rfl; rfl) | (apply WL.nil) | (apply EX.thenN) | (apply CW.seq) | (apply CW.region) | (apply CW.ret) | (apply CW.skip)))
  refine EX.ret1 rfl rfl ⟨?_, hE⟩
  rw [if_neg (by rw [h8, h9]; simp)]
theorem getDN_at {l : List Nat} {k : Nat} (h : k < l.length) : l.getD k 0 = l[k] := by rw [List.getD_eq_getElem?_getD, List.getElem?_eq_getElem h]; rfl
theorem Fits_ok (w0 : World) {a1 a2 a3 a4 a5 : Option Addr} {c1 c2 c3 c4 c5 n1 n2 n5 : Nat} {mu no : List Nat} (h3 : Sl w0 (Old w0) a3 c3 mu) (h4 : Sl w0 (Old w0) a4 c4 no) (k x : Nat) (hk : k < mu.length) (hk2 : k < no.length) (hx : x < 18446744073709551616) :
    Rt Try.prog 108 [autoV a1 c1 a2 c2 a3 c3 a4 c4 a5 c5 n1 n2 mu.length no.length n5, .int .i64 (k : Int), .int .u64 (x : Int)].toArray w0 fun v w' => v = .bool (fitB mu no k x) ∧ Ext w0 w' := by
  refine Rt.enter3 Try.func108 Try.ntmps108 rfl rfl ?_
  (repeat (first | (apply CW.seq) | (apply CW.region)))
  refine WL.boxB rfl rfl rfl fun w1 hb e1 => ?_
  have h3 := h3.up e1
  have h4 := h4.up e1
  (repeat (first | (apply WL.pure; rfl; rfl; rfl) | (apply QL.pure; rfl; rfl; rfl) | (apply WL.nil) | (apply EX.thenN) | (apply CW.seq) | (apply QL.fa; rfl; rfl; rfl) | (apply QL.ld; rfl; rfl; rfl; assumption; rfl) | (apply CW.draw; exact mixed; kernel_rfl)))
  refine QL.elemN rfl rfl rfl rfl rfl (fun _ h => h) h3 hk (fun _ => rfl) (fun u q hu => ?_)
  obtain ⟨rfl, hu1⟩ := hu.u64
  (repeat (first | (apply QL.pure; rfl; rfl; rfl) | (apply QL.fa; rfl; rfl; rfl) | (apply QL.ld; rfl; rfl; rfl; assumption; rfl)))
  rw [bits_and_u64_nat _ _ hx hu1]
  refine QL.elemN rfl rfl rfl rfl rfl (fun _ h => h) h3 hk (fun _ => rfl) (fun u q' hu => ?_)
  obtain ⟨rfl, _⟩ := hu.u64
  (repeat (apply QL.pure; rfl; rfl; rfl))
  unfold fitB
  rw [getDN_at hk, getDN_at hk2]
  (refine QL.lookG rfl rfl (fun h => ?_) (fun h => ?_))
  · simp only [beq_iff_eq] at h
    have h : x &&& mu[k] = mu[k] := by exact_mod_cast h
    rw [decide_eq_true h, Bool.true_and]
    (repeat (first | (apply QL.pure; rfl; rfl; rfl) | (apply QL.fa; rfl; rfl; rfl) | (apply QL.ld; rfl; rfl; rfl; assumption; rfl)))
    refine QL.elemN rfl rfl rfl rfl rfl (fun _ h => h) h4 hk2 (fun _ => rfl) (fun u q' hu => ?_)
    obtain ⟨rfl, hu2⟩ := hu.u64
    (repeat (apply QL.pure; rfl; rfl; rfl))
    rw [bits_and_u64_nat _ _ hx hu2]
    refine QL.nil (fun w2 e2 => ?_)
    (repeat (first | (apply EX.thenN) | (apply CW.ret)))
    refine EX.ret1 rfl rfl ⟨?_, e1.trans e2⟩
    congr 1
    rw [Bool.eq_iff_iff, beq_iff_eq, decide_eq_true_iff]
    exact_mod_cast Iff.rfl
  · have h : ¬ x &&& mu[k] = mu[k] := by
      intro e; rw [e] at h; simp at h
    rw [decide_eq_false h, Bool.false_and]
    (repeat (first | (apply QL.pure; rfl; rfl; rfl) | (apply QL.pass; rfl; rfl)))
    refine QL.nil (fun w2 e2 => ?_)
    (repeat (first | (apply EX.thenN) | (apply CW.ret)))
    exact EX.ret1 rfl rfl ⟨rfl, e1.trans e2⟩
end Go.Proofs.Ytllpfgcngokhnaa

/-
  Package auto: product.
-/
set_option linter.unusedVariables false
set_option linter.unusedSimpArgs false
namespace Go.Proofs.Ytllpfgcngokhnaa
open Go.RowKit

end Go.Proofs.Ytllpfgcngokhnaa

/-
  Package auto: reached, round.
-/
set_option linter.unusedVariables false
set_option linter.unusedSimpArgs false
namespace Go.Proofs.Ytllpfgcngokhnaa
open Go.RowKit

def nzB (num : List Int) : List Bool := num.map fun x => decide (x ≠ 0)
structure NInv (g : Graph) (f num li todo : List Int) : Prop where
  ln : num.length = g.length
  nd : li.Nodup
  ok : okL g.length li
  val : ∀ k : Nat, k < g.length → num.getD k 0 = if (k : Int) ∈ li then (li.idxOf (k : Int) : Int) + 1 else 0
  rv : RInv g f (nzB num) todo
section
variable {g : Graph} {f num li todo : List Int}
theorem nzB_get {k : Nat} (h : k < num.length) : (nzB num).getD k false = decide (num.getD k 0 ≠ 0) := by
  unfold nzB
  rw [List.getD_eq_getElem?_getD, List.getD_eq_getElem?_getD, List.getElem?_map, List.getElem?_eq_getElem h]; rfl
theorem nzB_set {k : Nat} {v : Int} (hv : v ≠ 0) : nzB (num.set k v) = (nzB num).set k true := by
  unfold nzB; rw [List.map_set, decide_eq_true hv]
theorem NInv.start (hf : okL g.length f) : NInv g f (List.replicate g.length 0) [] f := by
  refine ⟨by simp, List.nodup_nil, (fun x hx => by cases hx), fun k hk => ?_, ?_⟩
  · rw [if_neg (by simp), List.getD_eq_getElem?_getD, List.getElem?_replicate, if_pos hk]; rfl
  · have : nzB (List.replicate g.length (0 : Int)) = List.replicate g.length false := by simp [nzB]
    rw [this]; exact RInv.start hf
theorem NInv.pass {x : Int} (h : NInv g f num li (todo ++ [x])) (hx : num.getD x.toNat 0 ≠ 0) : NInv g f num li todo := by
  have hxo := h.rv.ok x (by simp)
  refine ⟨h.ln, h.nd, h.ok, h.val, RInv.pass h.rv ?_⟩
  rw [nzB_get (by rw [h.ln]; omega)]
  simpa using hx
theorem NInv.mark {x : Int} (hg : okG g) (h : NInv g f num li (todo ++ [x])) (hx : num.getD x.toNat 0 = 0) : NInv g f (num.set x.toNat ((li.length : Int) + 1)) (li ++ [x]) (todo ++ g.getD x.toNat []) := by
  have hxo := h.rv.ok x (by simp)
  have hxn : ((x.toNat : Nat) : Int) = x := by omega
  have hxl : x.toNat < g.length := by omega
  have hni : x ∉ li := by
    intro hm
    have := h.val x.toNat hxl
    rw [hxn, if_pos hm, hx] at this
    omega
  refine ⟨by simpa using h.ln, ?_, ?_, fun k hk => ?_, ?_⟩
  · rw [List.nodup_append]
    refine ⟨h.nd, by simp, fun a ha b hb e => ?_⟩
    rw [List.mem_singleton] at hb; subst hb; subst e; exact hni ha
  · intro y hy
    rcases List.mem_append.1 hy with h1 | h1
    · exact h.ok y h1
    · rw [List.mem_singleton] at h1; subst h1; exact hxo
  · rw [getD_setI (by rw [h.ln]; exact hxl)]
    by_cases e : x.toNat = k
    · subst e
      rw [if_pos rfl, hxn, if_pos (by simp), List.idxOf_append, if_neg hni]
      simp
    · rw [if_neg e, h.val k hk]
      have hne : ¬ (k : Int) = x := by omega
      have hiff : ((k : Int) ∈ li ++ [x]) ↔ (k : Int) ∈ li := by
        rw [List.mem_append, List.mem_singleton]; exact ⟨fun h => h.resolve_right hne, .inl⟩
      by_cases hm : (k : Int) ∈ li
      · rw [if_pos hm, if_pos (hiff.2 hm), List.idxOf_append, if_pos hm]
      · rw [if_neg hm, if_neg (fun h => hm (hiff.1 h))]
  · rw [nzB_set (by omega)]; exact RInv.mark hg h.rv
theorem NInv.done (h : NInv g f num li []) (hg : okG g) (hf : okL g.length f) (x : Nat) : (x : Int) ∈ li ↔ Rch g f x := by
  have hr := h.rv.done
  constructor
  · intro hm
    have hx := h.ok _ hm
    have hxl : x < g.length := by omega
    have h1 : (nzB num).getD x false = true := by
      rw [nzB_get (by rw [h.ln]; exact hxl), h.val x hxl, if_pos hm]
      simp; omega
    exact h.rv.sound x h1
  · intro hm
    have hxl : x < g.length := by
      cases hm with
      | base hx => have := hf _ hx; omega
      | step _ hx => have := okG_row hg _ _ hx; omega
    have h1 : (rchB g f).getD x false = true := by
      rw [List.getD_eq_getElem?_getD, rchB_get hxl]; simp [hm]
    rw [← hr, nzB_get (by rw [h.ln]; exact hxl), h.val x hxl] at h1
    apply Classical.byContradiction
    intro hn
    rw [if_neg hn] at h1
    simp at h1
end
end Go.Proofs.Ytllpfgcngokhnaa

/-
  slices.Index and slices.Contains at []bool.
-/
set_option linter.unusedVariables false
namespace Go.Proofs.Ytllpfgcngokhnaa
open Go.RowKit
theorem index_bool (w0 : World) {ao : Option Addr} {cap : Nat} {xs : List Bool} (x : Bool) (hs : Sl w0 (Old w0) ao cap xs) :
    Rt Try.prog 98 [.slice ao xs.length cap, .bool x].toArray w0 fun v w' => v = .int .i64 (idxOf (fun y => x == y) xs) ∧ Ext w0 w' := by
  have hm := hs.len63
  refine Rt.enter2 Try.func98 Try.ntmps98 rfl rfl ?_
  (repeat (first | (apply WL.pure; rfl; rfl; rfl) | (apply WL.nil) | (apply EX.thenN) | (apply CW.seq) | (apply CW.region) | (apply WL.lenS; rfl; rfl; rfl) | (apply CW.block)))
  refine CW.loop (S := Nat) (fun k => [(0, .slice ao xs.length cap), (1, .bool x), (7, .int .i64 xs.length), (8, .int .i64 k)])
    (fun k w => k ≤ xs.length ∧ Ext w0 w ∧ ∀ j (h : j < xs.length), j < k → (x == xs[j]) = false) (fun k => xs.length - k) 0 (by repeat (first | exact trivial | refine ⟨rfl, ?_⟩)) ⟨by omega, Ext.refl _, by omega⟩ ?_
  rintro k w ⟨hk, hB, hn⟩
  (repeat (first | (apply WL.pure; rfl; rfl; rfl) | (apply WL.nil) | (apply EX.thenN) | (apply CW.seq) | (apply CW.region)))
  refine CW.cond rfl (fun h => ?_) (fun h => ?_)
  · simp at h
    (repeat (first | (apply WL.pure; rfl; rfl; rfl) | (apply WL.nil) | (apply EX.thenN) | (apply CW.seq) | (apply CW.region) | (apply CW.block) | (apply CW.skip)))
    refine WL.elemB rfl rfl rfl rfl rfl (hs.at hB) h rfl (fun _ => rfl) (fun q => ?_)
    (repeat (first | (apply WL.nil) | (apply EX.thenN) | (apply WL.eqB; rfl; rfl; rfl; rfl)))
    refine CW.cond rfl (fun h' => ?_) (fun h' => ?_)
    · (repeat (first | (apply WL.pure; rfl; rfl; rfl) | (apply WL.nil) | (apply EX.thenN) | (apply CW.seq) | (apply CW.region) | (apply CW.ret) | (apply EX.thenR) | (apply EX.inR)))
      refine EX.ret1 rfl rfl ⟨?_, hB⟩
      rw [idxOf_here h hn h']
    · (repeat (first | (apply WL.add; rfl; rfl; rfl; rfl; omega; omega) | (apply WL.pure; rfl; rfl; rfl) | (apply WL.nil) | (apply EX.thenN) | (apply CW.region) | (apply EX.inN) | (apply CW.skip)))
      refine EX.back (k + 1) (by repeat (first | exact trivial | refine ⟨rfl, ?_⟩)) ⟨h, hB, ?_⟩ (by omega)
      intro j hj hlt
      by_cases e : j = k
      · subst e; exact h'
      · exact hn j hj (by omega)
  · simp at h
    (repeat (first | (apply WL.pure; rfl; rfl; rfl) | (apply WL.nil) | (apply EX.thenN) | (apply CW.seq) | (apply CW.region) | (apply CW.exit) | (apply EX.thenX) | (apply EX.inX) | (apply CW.ret)))
    refine EX.ret1 rfl rfl ⟨?_, hB⟩
    rw [idxOf_none (fun j hj => hn j hj (by omega))]
end Go.Proofs.Ytllpfgcngokhnaa

/-
  lasso.turns, least, Same: walked.
-/
set_option linter.unusedVariables false
set_option linter.unusedSimpArgs false
namespace Go.Proofs.Ytllpfgcngokhnaa
open Go.RowKit

end Go.Proofs.Ytllpfgcngokhnaa

/-
  lasso.Least walked.
-/
set_option linter.unusedVariables false
set_option linter.unusedSimpArgs false
namespace Go.Proofs.Ytllpfgcngokhnaa
open Go.RowKit

instance iLeast2a : IsF Try.prog 56 := ⟨_, Try.func56, rfl, by decide⟩
end Go.Proofs.Ytllpfgcngokhnaa

/-
  Package auto: round, accepts, Accepts.
-/
set_option linter.unusedVariables false
set_option linter.unusedSimpArgs false
namespace Go.Proofs.Ytllpfgcngokhnaa
open Go.RowKit

theorem getB_at {l : List Bool} {j : Nat} (h : j < l.length) : l.getD j false = l[j] := by rw [List.getD_eq_getElem?_getD, List.getElem?_eq_getElem h]; rfl
end Go.Proofs.Ytllpfgcngokhnaa

/-
  An element that is read in a drawn region when nothing else may come.
-/
set_option linter.unusedVariables false
set_option linter.unusedSimpArgs false
namespace Go.Proofs.Ytllpfgcngokhnaa
open Go.RowKit
section
variable {P : Program} {Q : Exit → Act → World → Prop} {n : Nat} {σ : Sg} {wc : World} {L : List Oper} {S : World → Prop} {rest : List (Nat × Bool)} {i j d d' : Nat} {ty : TypeId} {pos : String} {af : Array Edge} {g : Option (Nat × Bool)} {ty' : TypeId} {pos' : String} {af' : Array Edge} {g' : Option (Nat × Bool)} {t e : TypeId} {x ix : Operand}
variable {α : Type} [Rep α] {F : Nat → Prop}
end
end Go.Proofs.Ytllpfgcngokhnaa

/-
  Package auto: accepts, Accepts.
-/
set_option linter.unusedVariables false
set_option linter.unusedSimpArgs false
namespace Go.Proofs.Ytllpfgcngokhnaa
open Go.RowKit

open Classical in
noncomputable def accB (A : LAuto) (L : Nat → Nat) : Bool := decide (Acc A.1 A.2.1 A.2.2.1 A.2.2.2.1 A.2.2.2.2 L)
end Go.Proofs.Ytllpfgcngokhnaa

/-
  The least form of a word fits.
-/
set_option linter.unusedVariables false
set_option linter.unusedSimpArgs false
namespace Go.Proofs.Ytllpfgcngokhnaa
open Go.RowKit

end Go.Proofs.Ytllpfgcngokhnaa

/-
  Package auto: Accepts.
-/
set_option linter.unusedVariables false
set_option linter.unusedSimpArgs false
namespace Go.Proofs.Ytllpfgcngokhnaa
open Go.RowKit

end Go.Proofs.Ytllpfgcngokhnaa

/-
  Literals all of whose blocks are new.
-/
set_option linter.unusedVariables false
set_option linter.unusedSimpArgs false
namespace Go.Proofs.Ytllpfgcngokhnaa
open Go.RowKit

/-- the blocks from c on -/
def From (c : Nat) (w : World) : Nat → Prop := fun b => c ≤ b ∧ b < w.heap.size
theorem Rd.upF {α : Type} [Rep α] {w w' : World} {c : Nat} {v : Value} {x : α} (h : Rd w (From c w) v x) (hE : Ext w w') : Rd w' (From c w') v x := h.mono (fun b hb => hE.block b hb.2) fun b hb => ⟨hb.1, Nat.lt_of_lt_of_le hb.2 hE.size⟩
section
variable {P : Program} {Q : Exit → Act → World → Prop} {n : Nat} {σ : Sg} {w : World} {L rest : List Oper} {d : Nat} {ty : TypeId} {pos : String} {af : Array Edge} {g : Option (Nat × Bool)}
variable {α : Type} [Rep α] {e t : TypeId} {x0 : α} {bytes : Nat}
theorem WL.litF (c : Nat) (hc : c ≤ w.heap.size) {len : Nat} {parts : List (Nat × Operand)} {vs : List Value} (ys : List α) (hg : gd L σ ⟨some d, .buildSlice t len parts.toArray, ty, pos, af, g⟩ = some true) (hd : Nat.ble (d + 1) n = true)
    (hp : idxL 0 (sndL parts) = parts) (hv : evs σ (sndL parts) = some vs) [hs : IsS P t e] [ht : IsT P e α] [hz : IsZ P e x0 bytes] (hlen : len = ys.length) (hr : RdAll w (From c w) vs ys) (hsz : ys.length * sz α ≤ 16777216)
    (h : ∀ v w', Ext w w' → Rd w' (From c w') v ys → WL P L Q rest n ((d, v) :: σ) w') :
    WL P L Q (⟨some d, .buildSlice t len parts.toArray, ty, pos, af, g⟩ :: rest) n σ w :=
  WL.lit hg hd hp hv hlen hr hsz (fun b h => h.2) fun w' ho hgr => by
    have hE : Ext w w' := (Below.refl _ _).grown hgr (Nat.le_refl _) (fun k h => by cases h)
    refine h _ w' hE (ho.rd.mono (fun _ _ => rfl) fun b hb => ?_)
    rcases hb with hb | hb
    · exact ⟨hb.1, Nat.lt_of_lt_of_le hb.2 hE.size⟩
    · have := ho.lt b hb; exact ⟨by omega, this.2.1⟩
end
end Go.Proofs.Ytllpfgcngokhnaa

/-
  watchkeep.ones, ever; slices.Clone at [][]int.
-/
set_option linter.unusedVariables false
set_option linter.unusedSimpArgs false
namespace Go.Proofs.Ytllpfgcngokhnaa
open Go.RowKit

end Go.Proofs.Ytllpfgcngokhnaa

/-
  Accepts, by its error and its answer.
-/
set_option linter.unusedVariables false
set_option linter.unusedSimpArgs false
namespace Go.Proofs.Ytllpfgcngokhnaa
open Go.RowKit

theorem AutoAt.up {w w' : World} {v : Value} {A : LAuto} (h : AutoAt w (Old w) v A) (hE : Ext w w') : AutoAt w' (Old w') v A := by
  obtain ⟨a1, c1, a2, c2, a3, c3, a4, c4, a5, c5, hv, h1, h2, h3, h4, h5⟩ := h.ok
  exact ⟨a1, c1, a2, c2, a3, c3, a4, c4, a5, c5, hv, h1.up hE, h2.up hE, h3.up hE, h4.up hE, h5.up hE⟩
theorem okA_pos {A : LAuto} (h : OkA A) : PosA A := ⟨fun x hx => (h.st x hx).1, fun k x hx => (okG_row h.nx k x hx).1⟩
end Go.Proofs.Ytllpfgcngokhnaa

/-
  Package world: Check, Good, Word: walked.
-/
set_option linter.unusedVariables false
set_option linter.unusedSimpArgs false
namespace Go.Proofs.Ytllpfgcngokhnaa
open Go.RowKit

theorem wodd1 (n : Nat) (x : Int) (b : Nat) (w : World) (hb : Blk w b 3 [.int .i64 n]) :
    Rt Try.prog 103 [.int .i64 x, .pointer (some ⟨b, 0, none⟩)].toArray w fun v w' => v = .bool (decide (x < 0 ∨ x ≥ n)) ∧ w = w' := by
  refine Rt.enter2 Try.func103 Try.ntmps103 rfl rfl ?_
  (repeat (first | (apply WL.pure; rfl; rfl; rfl) | (apply WL.nil) | (apply EX.thenN) | (apply CW.seq) | (apply CW.region)))
  refine WL.look (s := 6) rfl (fun h => ?_) (fun h => ?_)
  · (repeat (first | (apply WL.pure; rfl; rfl; rfl) | (apply WL.nil) | (apply EX.thenN) | (apply WL.pass; rfl; rfl) | (apply CW.ret)))
    refine EX.ret1 rfl rfl ?_
    simp at h
    simp [h]
  · (repeat (first | (apply WL.pure; rfl; rfl; rfl) | (apply WL.nil) | (apply EX.thenN) | (apply WL.ld; rfl; rfl; rfl; assumption; rfl) | (apply CW.ret)))
    refine EX.ret1 rfl rfl ?_
    simp at h
    simp [Int.not_lt.2 h]
theorem wodd_ok (w0 : World) {lo : Option Addr} {lcap : Nat} {l : List Int} (n : Nat) (hl : Sl w0 (Old w0) lo lcap l) :
    Rt Try.prog 52 [.slice lo l.length lcap, .int .i64 n].toArray w0 fun v w' => v = .bool (oddB n l) ∧ Ext w0 w' := by
  refine Rt.enter2 Try.func52 Try.ntmps52 rfl rfl ?_
  (repeat (first | (apply CW.seq) | (apply CW.region)))
  refine WL.boxB rfl rfl rfl fun w1 hb hE => ?_
  (repeat (first | (apply WL.pure; rfl; rfl; rfl) | (apply WL.nil) | (apply EX.thenN) | (apply CW.seq) | (apply CW.region) | (apply WL.makeFunc; rfl; rfl; rfl; rfl)))
  refine WL.call rfl rfl rfl (containsFunc_int w1 (fun x => decide (x < 0 ∨ x ≥ n)) (hl.up hE) (fun w hw i h => ?_)) ?_
  · refine FnV.mk (Rt.mono (wodd1 n _ _ w (hb.ext hw)) ?_)
    rintro v w' ⟨rfl, rfl⟩
    exact ⟨rfl, Ext.refl _⟩
  · rintro v w' ⟨rfl, hB⟩
    (repeat (first | (apply WL.pure; rfl; rfl; rfl) | (apply WL.nil) | (apply EX.thenN) | (apply CW.ret)))
    exact EX.ret1 rfl rfl ⟨rfl, hE.trans hB⟩
abbrev worldV (a1 : Option Addr) (c1 : Nat) (a2 : Option Addr) (c2 : Nat) (a3 : Option Addr) (c3 : Nat) (a4 : Option Addr) (c4 : Nat) (n1 n2 n3 n4 : Nat) : Value := .agg [.slice a1 n1 c1, .slice a2 n2 c2, .slice a3 n3 c3, .slice a4 n4 c4].toArray
theorem wchk1 (w : World) {lo : Option Addr} {lcap : Nat} {l : List Int} (n : Nat) (b : Nat) (hb : Blk w b 3 [.int .i64 n]) (hl : Sl w (Old w) lo lcap l) :
    Rt Try.prog 88 [.slice lo l.length lcap, .pointer (some ⟨b, 0, none⟩)].toArray w fun v w' => v = .bool (oddB n l) ∧ Ext w w' := by
  refine Rt.enter2 Try.func88 Try.ntmps88 rfl rfl ?_
  (repeat (first | (apply WL.pure; rfl; rfl; rfl) | (apply WL.nil) | (apply EX.thenN) | (apply CW.seq) | (apply CW.region) | (apply WL.ld; rfl; rfl; rfl; assumption; rfl)))
  refine WL.call rfl rfl rfl (wodd_ok w n hl) ?_
  rintro _ w' ⟨rfl, hE⟩
  (repeat (first | (apply WL.pure; rfl; rfl; rfl) | (apply WL.nil) | (apply EX.thenN) | (apply CW.ret)))
  exact EX.ret1 rfl rfl ⟨rfl, hE⟩
theorem wCheck_ok (w0 : World) {a1 a2 a3 a4 : Option Addr} {c1 c2 c3 c4 k : Nat} {st : List Int} {nx fr : List (List Int)} (h1 : Sl w0 (Old w0) a1 c1 st) (h2 : Sl w0 (Old w0) a2 c2 nx) (hk : k ≤ 9223372036854775807) (h4 : Sl w0 (Old w0) a4 c4 fr) :
    Rt Try.prog 42 [worldV a1 c1 a2 c2 a3 c3 a4 c4 st.length nx.length k fr.length].toArray w0 fun v w' => v = .int .i64 (chkWd st nx k fr) ∧ Ext w0 w' := by
  have hm2 := h2.len63
  have hm4 := h4.len63
  refine Rt.enter1 Try.func42 Try.ntmps42 rfl rfl ?_
  (repeat (first | (apply CW.seq) | (apply CW.region)))
  refine WL.boxB rfl rfl rfl fun w1 hb hE1 => ?_
  (repeat (first | (apply WL.pure; rfl; rfl; rfl) | (apply WL.nil) | (apply EX.thenN) | (apply CW.seq) | (apply CW.region) | (apply WL.lenS; rfl; rfl; rfl) | (apply WL.fa; rfl; rfl; rfl) | (apply WL.ld; rfl; rfl; rfl; assumption; rfl)))
  refine WL.alloc rfl rfl (fun w2 hn hE2 => ?_)
  have hb2 := hb.ext hE2
  skip
  refine WL.st rfl rfl rfl hn rfl rfl (ones_of rfl) (fun w3 hn3 hg3 => ?_)
  have hb3 := hb2.kept hg3 (by simp; have := hb.lt; omega)
  have hE3 : Ext w0 w3 := (hE1.trans hE2).grown hg3 (Nat.le_trans hE1.size hE2.size) (fun g hg => by cases hg; exact hE1.size)
  clear hb hn hE1 hE2 hb2 hg3
  (repeat (first | (apply WL.pure; rfl; rfl; rfl) | (apply WL.nil) | (apply EX.thenN) | (apply CW.seq) | (apply CW.region) | (apply WL.ld; rfl; rfl; rfl; assumption; rfl)))
  (refine WL.lookG rfl rfl (fun h => ?_) (fun h => ?_))
  · (repeat (first | (apply WL.pure; rfl; rfl; rfl) | (apply WL.nil) | (apply EX.thenN) | (apply CW.seq) | (apply CW.region) | (apply WL.pass; rfl; rfl) | (apply CW.condT; rfl) | (apply CW.ret) | (apply EX.thenR)))
    refine EX.ret1 rfl rfl ⟨?_, hE3⟩
    have h : nx.length > 600 := by simp at h; omega
    unfold chkWd; rw [if_pos (.inl h)]
  have h : nx.length ≤ 600 := by simp at h; omega
  (repeat (first | (apply WL.pure; rfl; rfl; rfl) | (apply WL.nil) | (apply EX.thenN) | (apply WL.lenS; rfl; rfl; rfl) | (apply WL.fa; rfl; rfl; rfl) | (apply WL.ld; rfl; rfl; rfl; assumption; rfl)))
  refine CW.cond rfl (fun h5 => ?_) (fun h5 => ?_)
  · (repeat (first | (apply WL.pure; rfl; rfl; rfl) | (apply WL.nil) | (apply EX.thenN) | (apply CW.seq) | (apply CW.region) | (apply CW.ret) | (apply EX.thenR)))
    refine EX.ret1 rfl rfl ⟨?_, hE3⟩
    have h5 : fr.length > 80 := by simp at h5; omega
    unfold chkWd; rw [if_pos (.inr h5)]
  have h5 : fr.length ≤ 80 := by simp at h5; omega
  unfold chkWd
  rw [if_neg (by omega)]
  (repeat (first | (apply WL.pure; rfl; rfl; rfl) | (apply EX.thenN) | (apply CW.seq) | (apply CW.region) | (apply WL.lenS; rfl; rfl; rfl) | (apply WL.fa; rfl; rfl; rfl) | (apply WL.ld; rfl; rfl; rfl; assumption; rfl) | (apply CW.skip)))
  (refine WL.lookG rfl rfl (fun h => ?_) (fun h => ?_))
  · (repeat (first | (apply WL.pure; rfl; rfl; rfl) | (apply WL.nil) | (apply EX.thenN) | (apply CW.seq) | (apply CW.region) | (apply WL.pass; rfl; rfl) | (apply CW.condT; rfl) | (apply CW.ret) | (apply EX.thenR)))
    refine EX.ret1 rfl rfl ⟨?_, hE3⟩
    have h6 : k ≠ nx.length := by
      have : ¬ (k : Int) = (nx.length : Int) := by simp at h; omega
      omega
    rw [if_pos (.inl h6)]
  have h6 : k = nx.length := by
    have : (k : Int) = (nx.length : Int) := by simp at h; omega
    omega
  subst h6
  (repeat (first | (apply WL.fa; rfl; rfl; rfl) | (apply WL.ld; rfl; rfl; rfl; assumption; rfl)))
  refine WL.call rfl rfl rfl (wodd_ok w3 nx.length (h1.up hE3)) ?_
  rintro _ w4 ⟨rfl, e4⟩
  have hb4 := hb3.ext e4
  have hn4 := hn3.ext e4
  have hE4 := hE3.trans e4
  (repeat (first | (apply WL.pure; rfl; rfl; rfl) | (apply WL.nil) | (apply EX.thenN)))
  refine CW.cond rfl (fun h7 => ?_) (fun h7 => ?_)
  · (repeat (first | (apply WL.pure; rfl; rfl; rfl) | (apply WL.nil) | (apply EX.thenN) | (apply CW.seq) | (apply CW.region) | (apply CW.ret) | (apply EX.thenR)))
    refine EX.ret1 rfl rfl ⟨?_, hE4⟩
    rw [if_pos (.inr h7)]
  rw [if_neg (by rw [h7]; simp)]
  clear hb3 hn3 hE3 e4
  (repeat (first | (apply WL.pure; rfl; rfl; rfl) | (apply WL.nil) | (apply EX.thenN) | (apply CW.seq) | (apply CW.region) | (apply WL.lenS; rfl; rfl; rfl) | (apply WL.fa; rfl; rfl; rfl) | (apply WL.ld; rfl; rfl; rfl; assumption; rfl) | (apply CW.block) | (apply CW.skip)))
  refine CW.loop (S := Nat) (fun i => [(1, .pointer (some ⟨w0.heap.size, 0, none⟩)), (3, .pointer (some ⟨w1.heap.size, 0, none⟩)), (29, .slice a2 nx.length c2), (30, .int .i64 nx.length), (31, .int .i64 i)])
    (fun i w => i ≤ nx.length ∧ Ext w4 w ∧ ∀ j (h : j < nx.length), j < i → chkN nx.length nx[j] = false) (fun i => nx.length - i) 0 (by repeat (first | exact trivial | refine ⟨rfl, ?_⟩)) ⟨by omega, Ext.refl _, by omega⟩ ?_
  rintro i w5 ⟨hi, e5, hno⟩
  have hb5 := hb4.ext e5
  have hn5 := hn4.ext e5
  have hE5 := hE4.trans e5
  (repeat (first | (apply WL.pure; rfl; rfl; rfl) | (apply WL.nil) | (apply EX.thenN) | (apply CW.seq) | (apply CW.region)))
  refine CW.cond rfl (fun h8 => ?_) (fun h8 => ?_)
  · simp at h8
    (repeat (first | (apply EX.thenN) | (apply CW.seq) | (apply CW.region) | (apply CW.block) | (apply CW.skip)))
    refine WL.elemN rfl rfl rfl rfl rfl (h2.at hE5) h8 (fun _ => rfl) (fun u q hu => ?_)
    obtain ⟨lo, lc, rfl, hl⟩ := hu.sl
    (repeat (first | (apply WL.pure; rfl; rfl; rfl) | (apply WL.nil) | (apply EX.thenN) | (apply CW.seq) | (apply CW.region) | (apply WL.lenS; rfl; rfl; rfl)))
    (refine WL.lookG rfl rfl (fun h => ?_) (fun h => ?_))
    · (repeat (first | (apply WL.pure; rfl; rfl; rfl) | (apply WL.nil) | (apply EX.thenN) | (apply CW.seq) | (apply CW.region) | (apply WL.pass; rfl; rfl) | (apply CW.condT; rfl) | (apply CW.ret) | (apply EX.thenR) | (apply EX.inR)))
      refine EX.ret1 rfl rfl ⟨?_, hE5⟩
      have h9 : nx[i].length = 0 := by simp at h; simp [h]
      rw [if_pos (List.any_eq_true.2 ⟨nx[i], List.getElem_mem h8, by unfold chkN; simp only [Bool.or_eq_true, decide_eq_true_eq]; exact .inl h9⟩)]
    have h9 : nx[i].length ≠ 0 := by simp at h; simpa using h
    (repeat (first | (apply WL.pure; rfl; rfl; rfl) | (apply WL.ld; rfl; rfl; rfl; assumption; rfl)))
    refine WL.call rfl rfl rfl (wodd_ok w5 nx.length (hl.lift fun b hb => Nat.lt_of_lt_of_le hb hE5.size)) ?_
    rintro _ w6 ⟨rfl, e6⟩
    (repeat (first | (apply WL.pure; rfl; rfl; rfl) | (apply WL.nil) | (apply EX.thenN)))
    refine CW.cond rfl (fun ha => ?_) (fun ha => ?_)
    · (repeat (first | (apply WL.pure; rfl; rfl; rfl) | (apply WL.nil) | (apply EX.thenN) | (apply CW.seq) | (apply CW.region) | (apply CW.ret) | (apply EX.thenR) | (apply EX.inR)))
      refine EX.ret1 rfl rfl ⟨?_, hE5.trans e6⟩
      rw [if_pos (List.any_eq_true.2 ⟨nx[i], List.getElem_mem h8, by unfold chkN; rw [ha, Bool.or_true]⟩)]
    · (repeat (first | (apply WL.add; rfl; rfl; rfl; rfl; omega; omega) | (apply WL.pure; rfl; rfl; rfl) | (apply WL.nil) | (apply EX.thenN) | (apply CW.region) | (apply EX.inN) | (apply CW.skip)))
      refine EX.back (i + 1) (by repeat (first | exact trivial | refine ⟨rfl, ?_⟩)) ⟨h8, e5.trans e6, fun j hj hlt => ?_⟩ (by omega)
      by_cases e : j = i
      · subst e; unfold chkN; rw [ha, decide_eq_false h9]; rfl
      · exact hno j hj (by omega)
  simp at h8
  have hany : nx.any (chkN nx.length) = false := by
    rw [List.any_eq_false]
    intro l hl
    obtain ⟨j, hj, rfl⟩ := List.mem_iff_getElem.1 hl
    simp [hno j hj (by omega)]
  rw [if_neg (by rw [hany]; simp)]
  (repeat (first | (apply EX.thenN) | (apply CW.seq) | (apply CW.region) | (apply WL.makeFunc; rfl; rfl; rfl; rfl) | (apply WL.fa; rfl; rfl; rfl) | (apply WL.ld; rfl; rfl; rfl; assumption; rfl) | (apply CW.exit) | (apply EX.thenX) | (apply EX.inX)))
  refine WL.call rfl rfl rfl (containsFunc_ll w5 (oddB nx.length) (h4.up hE5) (fun w hw i hi u hu => ?_)) ?_
  · obtain ⟨lo, lc, rfl, hl⟩ := hu.sl
    exact FnV.mk (Rt.mono (wchk1 w nx.length _ (hn5.ext hw) (hl.lift fun b hb => Nat.lt_of_lt_of_le hb hw.size)) fun v w' h => h)
  rintro _ w6 ⟨rfl, e6⟩
  (repeat (first | (apply WL.nil) | (apply EX.thenN)))
  refine CW.cond rfl (fun ha => ?_) (fun ha => ?_)
  · (repeat (first | (apply WL.pure; rfl; rfl; rfl) | (apply WL.nil) | (apply EX.thenN) | (apply CW.seq) | (apply CW.region) | (apply CW.ret) | (apply EX.thenR)))
    refine EX.ret1 rfl rfl ⟨?_, hE5.trans e6⟩
    rw [if_pos ha]
  · (repeat (first | (apply WL.pure; rfl; rfl; rfl) | (apply WL.nil) | (apply EX.thenN) | (apply CW.seq) | (apply CW.region) | (apply CW.ret) | (apply CW.skip)))
    refine EX.ret1 rfl rfl ⟨?_, hE5.trans e6⟩
    rw [if_neg (by rw [ha]; simp)]
abbrev pathV (so : Option Addr) (sc : Nat) (lo : Option Addr) (lc : Nat) (s l : List Int) : Value := .agg [.slice so s.length sc, .slice lo l.length lc].toArray
theorem getI_at {l : List Int} {j : Nat} (h : j < l.length) : l.getD j 0 = l[j] := by rw [List.getD_eq_getElem?_getD, List.getElem?_eq_getElem h]; rfl
theorem getL_at {l : List (List Int)} {j : Nat} (h : j < l.length) : l.getD j [] = l[j] := by rw [List.getD_eq_getElem?_getD, List.getElem?_eq_getElem h]; rfl
abbrev LWorld := List Int × List (List Int) × List Nat × List (List Int)
theorem Rd.world {w : World} {F : Nat → Prop} {v : Value} {x : LWorld} (h : Rd w F v x) : ∃ a1 c1 a2 c2 a3 c3 a4 c4, v = worldV a1 c1 a2 c2 a3 c3 a4 c4 x.1.length x.2.1.length x.2.2.1.length x.2.2.2.length ∧ Sl w F a1 c1 x.1 ∧ Sl w F a2 c2 x.2.1 ∧ Sl w F a3 c3 x.2.2.1 ∧ Sl w F a4 c4 x.2.2.2 := by
  obtain ⟨c1, r1, rfl, h1, k1⟩ := h.pr
  obtain ⟨c2, r2, rfl, h2, k2⟩ := rd_pr k1
  obtain ⟨c3, r3, rfl, h3, h4⟩ := rd_pr k2
  obtain ⟨a1, d1, rfl, s1⟩ := rd_sl h1
  obtain ⟨a2, d2, rfl, s2⟩ := rd_sl h2
  obtain ⟨a3, d3, rfl, s3⟩ := rd_sl h3
  obtain ⟨a4, d4, rfl, s4⟩ := rd_sl h4
  exact ⟨a1, d1, a2, d2, a3, d3, a4, d4, rfl, s1, s2, s3, s4⟩
theorem wgood1 (w : World) (x : Int) (b : Nat) {so lo : Option Addr} {sc lc k : Nat} {l : List Int} (hb : Blk w b 30 [.slice so k sc, .slice lo l.length lc]) (hl : Sl w (Old w) lo lc l) :
    Rt Try.prog 55 [.int .i64 x, .pointer (some ⟨b, 0, none⟩)].toArray w fun v w' => v = .bool (l.contains x) ∧ Ext w w' := by
  refine Rt.enter2 Try.func55 Try.ntmps55 rfl rfl ?_
  (repeat (first | (apply WL.pure; rfl; rfl; rfl) | (apply WL.nil) | (apply EX.thenN) | (apply CW.seq) | (apply CW.region) | (apply WL.fa; rfl; rfl; rfl) | (apply WL.ld; rfl; rfl; rfl; assumption; rfl)))
  refine WL.call rfl rfl rfl (contains_int w x hl) ?_
  rintro _ w' ⟨rfl, hE⟩
  (repeat (first | (apply WL.pure; rfl; rfl; rfl) | (apply WL.nil) | (apply EX.thenN) | (apply CW.ret)))
  exact EX.ret1 rfl rfl ⟨rfl, hE⟩
theorem Good_ok (w0 : World) {a1 a2 a3 a4 so lo : Option Addr} {c1 c2 c3 c4 k sc lc : Nat} {st s l : List Int} {nx fr : List (List Int)} (h1 : Sl w0 (Old w0) a1 c1 st) (h2 : Sl w0 (Old w0) a2 c2 nx) (hk : k ≤ 9223372036854775807) (h4 : Sl w0 (Old w0) a4 c4 fr)
    (hs : Sl w0 (Old w0) so sc s) (hl : Sl w0 (Old w0) lo lc l) :
    Rt Try.prog 14 [worldV a1 c1 a2 c2 a3 c3 a4 c4 st.length nx.length k fr.length, pathV so sc lo lc s l].toArray w0 fun v w' => v = .tuple ⟨[.bool (goodF st nx k fr s l).1, .int .i64 (goodF st nx k fr s l).2]⟩ ∧ Ext w0 w' := by
  have hms := hs.len63
  have hml := hl.len63
  refine Rt.enter2 Try.func14 Try.ntmps14 rfl rfl ?_
  (repeat (first | (apply CW.seq) | (apply CW.region)))
  refine WL.boxB rfl rfl rfl fun w1 hw hE1 => ?_
  skip
  refine WL.boxB rfl rfl rfl fun w2 hp hE2 => ?_
  have hw2 := hw.ext hE2
  have hE2 := hE1.trans hE2
  (repeat (first | (apply WL.pure; rfl; rfl; rfl) | (apply WL.nil) | (apply EX.thenN) | (apply CW.seq) | (apply CW.region) | (apply WL.ldA; rfl; rfl; rfl; assumption; rfl)))
  refine WL.call rfl rfl rfl (wCheck_ok w2 (h1.up hE2) (h2.up hE2) hk (h4.up hE2)) ?_
  rintro _ w3 ⟨rfl, e3⟩
  have hw3 := hw2.ext e3
  have hp3 := hp.ext e3
  have hE3 := hE2.trans e3
  clear hw hp hw2 hE1 hE2 e3
  unfold goodF
  (repeat (first | (apply WL.pure; rfl; rfl; rfl) | (apply WL.nil) | (apply EX.thenN) | (apply CW.seq) | (apply CW.region)))
  refine CW.cond rfl (fun h => ?_) (fun h => ?_)
  · have h : chkWd st nx k fr ≠ 0 := by simpa using h
    rw [if_pos h]
    (repeat (first | (apply WL.pure; rfl; rfl; rfl) | (apply WL.nil) | (apply EX.thenN) | (apply CW.seq) | (apply CW.region) | (apply CW.ret) | (apply EX.thenR)))
    exact EX.ret2 rfl rfl rfl ⟨rfl, hE3⟩
  have h : chkWd st nx k fr = 0 := by simpa using h
  rw [if_neg (by simp [h])]
  obtain ⟨hn600, hf80, hkn, hokst, hoknx, hokfr⟩ := chkWd_ok h
  clear h
  (repeat (first | (apply WL.pure; rfl; rfl; rfl) | (apply EX.thenN) | (apply CW.seq) | (apply CW.region) | (apply WL.lenS; rfl; rfl; rfl) | (apply WL.fa; rfl; rfl; rfl) | (apply WL.ld; rfl; rfl; rfl; assumption; rfl) | (apply CW.skip)))
  (refine WL.lookG rfl rfl (fun h => ?_) (fun h => ?_))
  · (repeat (first | (apply WL.pure; rfl; rfl; rfl) | (apply WL.nil) | (apply EX.thenN) | (apply CW.seq) | (apply CW.region) | (apply WL.pass; rfl; rfl) | (apply CW.condT; rfl) | (apply CW.ret) | (apply EX.thenR)))
    refine EX.ret2 rfl rfl rfl ⟨?_, hE3⟩
    have h : s.length > 60000 := by simp at h; omega
    rw [if_pos (.inl h)]
  have h : s.length ≤ 60000 := by simp at h; omega
  (repeat (first | (apply WL.sub'; rfl; rfl; rfl; rfl; omega; omega) | (apply WL.pure; rfl; rfl; rfl) | (apply WL.nil) | (apply EX.thenN) | (apply WL.lenS; rfl; rfl; rfl) | (apply WL.fa; rfl; rfl; rfl) | (apply WL.ld; rfl; rfl; rfl; assumption; rfl)))
  refine CW.cond rfl (fun h5 => ?_) (fun h5 => ?_)
  · (repeat (first | (apply WL.pure; rfl; rfl; rfl) | (apply WL.nil) | (apply EX.thenN) | (apply CW.seq) | (apply CW.region) | (apply CW.ret) | (apply EX.thenR)))
    refine EX.ret2 rfl rfl rfl ⟨?_, hE3⟩
    have h5 : l.length > 60000 - s.length := by simp at h5; omega
    rw [if_pos (.inr h5)]
  have h5 : l.length ≤ 60000 - s.length := by simp at h5; omega
  rw [if_neg (by omega)]
  (repeat (first | (apply WL.pure; rfl; rfl; rfl) | (apply EX.thenN) | (apply CW.seq) | (apply CW.region) | (apply WL.lenS; rfl; rfl; rfl) | (apply WL.fa; rfl; rfl; rfl) | (apply WL.ld; rfl; rfl; rfl; assumption; rfl) | (apply CW.skip)))
  (refine WL.lookG rfl rfl (fun h => ?_) (fun h => ?_))
  · (repeat (first | (apply WL.pure; rfl; rfl; rfl) | (apply WL.nil) | (apply EX.thenN) | (apply CW.seq) | (apply CW.region) | (apply WL.pass; rfl; rfl) | (apply CW.condT; rfl) | (apply CW.ret) | (apply EX.thenR)))
    refine EX.ret2 rfl rfl rfl ⟨?_, hE3⟩
    have h6 : l.length = 0 := by simp at h; simp [h]
    rw [if_pos (.inl h6)]
  have h6 : l.length ≠ 0 := by simp at h; simpa using h
  (repeat (first | (apply WL.lenS; rfl; rfl; rfl) | (apply WL.fa; rfl; rfl; rfl) | (apply WL.ld; rfl; rfl; rfl; assumption; rfl)))
  refine WL.call rfl rfl rfl (wodd_ok w3 nx.length (hs.up hE3)) ?_
  rintro _ w4 ⟨rfl, e4⟩
  have hw4 := hw3.ext e4
  have hp4 := hp3.ext e4
  have hE4 := hE3.trans e4
  clear hw3 hp3 hE3 e4
  (repeat (apply WL.pure; rfl; rfl; rfl))
  (refine WL.lookG rfl rfl (fun h => ?_) (fun h => ?_))
  · have h7 := h
    (repeat (first | (apply WL.pure; rfl; rfl; rfl) | (apply WL.nil) | (apply EX.thenN) | (apply CW.seq) | (apply CW.region) | (apply WL.pass; rfl; rfl) | (apply CW.condT; rfl) | (apply CW.ret) | (apply EX.thenR)))
    refine EX.ret2 rfl rfl rfl ⟨?_, hE4⟩
    rw [if_pos (.inr (.inl h7))]
  have h7 := h
  clear h
  (repeat (first | (apply WL.lenS; rfl; rfl; rfl) | (apply WL.fa; rfl; rfl; rfl) | (apply WL.ld; rfl; rfl; rfl; assumption; rfl)))
  refine WL.call rfl rfl rfl (wodd_ok w4 nx.length (hl.up hE4)) ?_
  rintro _ w5 ⟨rfl, e5⟩
  have hw5 := hw4.ext e5
  have hp5 := hp4.ext e5
  have hE5 := hE4.trans e5
  clear hw4 hp4 hE4 e5
  (repeat (first | (apply WL.pure; rfl; rfl; rfl) | (apply WL.nil) | (apply EX.thenN)))
  refine CW.cond rfl (fun h8 => ?_) (fun h8 => ?_)
  · (repeat (first | (apply WL.pure; rfl; rfl; rfl) | (apply WL.nil) | (apply EX.thenN) | (apply CW.seq) | (apply CW.region) | (apply CW.ret) | (apply EX.thenR)))
    refine EX.ret2 rfl rfl rfl ⟨?_, hE5⟩
    rw [if_pos (.inr (.inr h8))]
  rw [if_neg (by rw [h7, h8]; simp [h6])]
  have hoks := oddB_false.1 h7
  have hokl := oddB_false.1 h8
  clear h7 h8
  (repeat (first | (apply EX.thenN) | (apply CW.seq) | (apply CW.skip)))
  have hSE : ∀ w3, (fun x => Ext w5 x) w3 → Ext w5 w3 := fun _ h => h
  refine CW.drawH (fun x => Ext w5 x) [(0, true), (1, true), (3, true), (4, true), (2, false), (5, false), (6, true)] mixed (by kernel_rfl) (Ext.drew w5) ?_
  (repeat (first | (refine HL.fa rfl rfl rfl rfl ?_) | (refine HL.ld (by assumption) rfl rfl rfl rfl (by assumption) rfl ?_)))
  have hd : Ext w0 (drew w5) := hE5.trans (Ext.drew w5)
  refine HL.mut rfl (WL.call rfl rfl rfl (clone_int (drew w5) (hs.up hd) (by omega)) ?_)
  rintro cV w6 ⟨hoc, hE6⟩
  have hT6 : Ext w5 w6 := (Ext.drew w5).trans hE6
  refine WL.nil (EX.mut hT6 ?_)
  have hd6 := hE5.trans hT6
  refine HL.mut rfl (WL.app (F := Non) rfl rfl rfl rfl hoc (hl.up hd6).srcN hE6.size (fun _ h => h.elim) (by unfold maxLen; omega) (by show _ * 8 ≤ _; omega) (fun v' w7 ho7 hg7 _ => ?_))
  have hT7 : Ext w5 w7 := hT6.grown hg7 hT6.size (fun g hg => Nat.le_trans (Ext.drew w5).size (hoc.lt g hg).1)
  refine WL.nil (EX.mut hT7 ?_)
  (repeat (first | (apply HL.pure; rfl; rfl; rfl; rfl) | (apply HL.nil)))
  have hE7 := hE5.trans hT7
  have hw7 := hw5.ext hT7
  have hp7 := hp5.ext hT7
  clear hw5 hp5 hoc hE6 hT6 hd6 hd hg7 hSE
  obtain ⟨ao, ac, rfl, hall⟩ := ho7.oldN.sl
  clear ho7
  have hallen : (s ++ l).length ≤ 60000 ∧ 0 < (s ++ l).length := by rw [List.length_append]; omega
  have hokal : okL nx.length (s ++ l) := fun x hx => (List.mem_append.1 hx).elim (hoks x) (hokl x)
  generalize s ++ l = al at *
  unfold goodB
  (repeat (first | (apply QL.pure; rfl; rfl; rfl) | (apply EX.thenN) | (apply CW.seq) | (apply QL.fa; rfl; rfl; rfl) | (apply QL.ld; rfl; rfl; rfl; assumption; rfl) | (apply CW.draw; exact mixed; kernel_rfl)))
  refine QL.elem rfl rfl rfl rfl rfl (fun _ h => h) hall (by omega) (by show (0 : Int) < al.length; omega) (fun _ => rfl) (fun u q hu => ?_)
  have e0 : al[(0 : Int).toNat]'(by simpa using hallen.2) = al.getD 0 0 := (getI_at hallen.2).symm
  rw [e0] at hu
  obtain rfl := hu.int
  clear e0
  skip
  refine QL.call rfl rfl rfl (fun w hE => contains_int w (al.getD 0 0) (h1.up (hE7.trans hE))) ?_
  (repeat (apply QL.pure; rfl; rfl; rfl))
  refine QL.nil (fun w8 e8 => ?_)
  have hw8 := hw7.ext e8
  have hp8 := hp7.ext e8
  have hE8 := hE7.trans e8
  have hall := hall.up e8
  clear hw7 hp7 hE7 e8
  (repeat (apply EX.thenN))
  refine CW.cond rfl (fun h => ?_) (fun h => ?_)
  · (repeat (first | (apply WL.pure; rfl; rfl; rfl) | (apply WL.nil) | (apply EX.thenN) | (apply CW.seq) | (apply CW.region) | (apply CW.ret) | (apply EX.thenR)))
    refine EX.ret2 rfl rfl rfl ⟨?_, hE8⟩
    have h : st.contains (al.getD 0 0) = false := by simpa only [Bool.not_eq_true', Bool.not_eq_true] using h
    rw [h, Bool.false_and, Bool.false_and]
  have h : st.contains (al.getD 0 0) = true := by simpa only [Bool.not_eq_false', Bool.not_eq_false] using h
  rw [h, Bool.true_and]
  clear h
  have hl0 : 0 < l.length := by omega
  (repeat (first | (apply WL.pure; rfl; rfl; rfl) | (apply WL.nil) | (apply EX.thenN) | (apply CW.seq) | (apply CW.region) | (apply WL.lenS; rfl; rfl; rfl) | (apply CW.block) | (apply CW.skip)))
  refine CW.loop (S := Nat) (fun i => [(2, .pointer (some ⟨w0.heap.size, 0, none⟩)), (3, .pointer (some ⟨w1.heap.size, 0, none⟩)), (7, .slice ao al.length ac), (65, .slice ao al.length ac), (66, .int .i64 al.length), (67, .int .i64 i)])
    (fun i w => i ≤ al.length ∧ Ext w8 w ∧ ∀ j, j < i → stepB nx al l j = true) (fun i => al.length - i) 0 (by repeat (first | exact trivial | refine ⟨rfl, ?_⟩)) ⟨by omega, Ext.refl _, by omega⟩ ?_
  rintro i w9 ⟨hi, e9, hno⟩
  have hw9 := hw8.ext e9
  have hp9 := hp8.ext e9
  have hE9 := hE8.trans e9
  (repeat (first | (apply WL.pure; rfl; rfl; rfl) | (apply WL.nil) | (apply EX.thenN) | (apply CW.seq) | (apply CW.region)))
  refine CW.cond rfl (fun h8 => ?_) (fun h8 => ?_)
  · simp at h8
    (repeat (first | (apply WL.pure; rfl; rfl; rfl) | (apply EX.thenN) | (apply CW.seq) | (apply CW.region) | (apply CW.block) | (apply CW.skip)))
    refine WL.elemI rfl rfl rfl rfl rfl (hall.up e9) h8 rfl (fun _ => rfl) (fun q => ?_)
    (repeat (first | (apply WL.pure; rfl; rfl; rfl) | (apply WL.nil) | (apply EX.thenN) | (apply CW.seq) | (apply CW.region) | (apply WL.fa; rfl; rfl; rfl) | (apply WL.ld; rfl; rfl; rfl; assumption; rfl)))
    refine WL.elem rfl rfl rfl rfl rfl (hl.up hE9) (by omega) (by show (0 : Int) < l.length; omega) (fun _ => rfl) (fun u q hu => ?_)
    have e0 : l[(0 : Int).toNat]'(by simpa using hl0) = l.getD 0 0 := (getI_at hl0).symm
    rw [e0] at hu
    obtain rfl := hu.int
    (repeat (apply WL.pure; rfl; rfl; rfl))
    apply WL.nil
    apply EX.thenN
    refine CW.cut [(2, .pointer (some ⟨w0.heap.size, 0, none⟩)), (3, .pointer (some ⟨w1.heap.size, 0, none⟩)), (7, .slice ao al.length ac), (8, .int .i64 i), (9, .int .i64 al[i]), (10, .int .i64 (toPw al l i)), (65, .slice ao al.length ac), (66, .int .i64 al.length), (67, .int .i64 i)] ?_ ?_
    · (repeat (first | (apply WL.add; rfl; rfl; rfl; rfl; omega; omega) | (apply WL.pure; rfl; rfl; rfl) | (apply WL.nil) | (apply EX.thenN) | (apply CW.seq) | (apply CW.region) | (apply WL.lenS; rfl; rfl; rfl)))
      refine CW.cond rfl (fun h9 => ?_) (fun h9 => ?_)
      · have h9 : i + 1 < al.length := by simp at h9; omega
        have et : toPw al l i = al[i + 1] := by unfold toPw; rw [if_pos h9, getI_at h9]
        rw [et]
        (repeat (first | (apply WL.add; rfl; rfl; rfl; rfl; omega; omega) | (apply WL.pure; rfl; rfl; rfl) | (apply CW.region)))
        refine WL.elem rfl rfl rfl rfl rfl (hall.up e9) (by omega) (by omega) (fun _ => rfl) (fun u q hu => ?_)
        have ei : ((i : Int) + 1).toNat = i + 1 := by omega
        simp only [ei] at hu
        obtain rfl := hu.int
        (repeat (apply WL.pure; rfl; rfl; rfl))
        exact WL.nil (EX.cut (by repeat (first | exact trivial | refine ⟨rfl, ?_⟩)))
      · have h9 : ¬ i + 1 < al.length := by simp at h9; omega
        have et : toPw al l i = l.getD 0 0 := by unfold toPw; rw [if_neg h9]
        rw [et]
        exact CW.skip (EX.cut (by repeat (first | exact trivial | refine ⟨rfl, ?_⟩)))
    have hai := hokal al[i] (List.getElem_mem h8)
    (repeat (first | (apply WL.pure; rfl; rfl; rfl) | (apply CW.seq) | (apply CW.region) | (apply WL.fa; rfl; rfl; rfl) | (apply WL.ld; rfl; rfl; rfl; assumption; rfl)))
    refine WL.elem rfl rfl rfl rfl rfl (h2.up hE9) hai.1 hai.2 (fun _ => rfl) (fun u q hu => ?_)
    obtain ⟨no, nc, rfl, hn⟩ := hu.sl
    (repeat (apply WL.pure; rfl; rfl; rfl))
    refine WL.call rfl rfl rfl (contains_int w9 (toPw al l i) hn) ?_
    rintro _ w10 ⟨rfl, e10⟩
    have est : stepB nx al l i = (nx[(al[i]).toNat]'(by omega)).contains (toPw al l i) := by unfold stepB; rw [getI_at h8, getL_at (show (al[i]).toNat < nx.length by omega)]
    rw [← est]
    (repeat (first | (apply WL.pure; rfl; rfl; rfl) | (apply WL.nil) | (apply EX.thenN)))
    refine CW.cond rfl (fun h9 => ?_) (fun h9 => ?_)
    · have h9 : stepB nx al l i = false := by simpa only [Bool.not_eq_true', Bool.not_eq_true] using h9
      (repeat (first | (apply WL.pure; rfl; rfl; rfl) | (apply WL.nil) | (apply EX.thenN) | (apply CW.seq) | (apply CW.region) | (apply CW.ret) | (apply EX.thenR) | (apply EX.inR)))
      refine EX.ret2 rfl rfl rfl ⟨?_, hE9.trans e10⟩
      have : (List.range al.length).all (stepB nx al l) = false := by
        rw [List.all_eq_false]
        exact ⟨i, List.mem_range.2 h8, by rw [h9]; simp⟩
      rw [this, Bool.false_and]
    · have h9 : stepB nx al l i = true := by simpa only [Bool.not_eq_false', Bool.not_eq_false] using h9
      (repeat (first | (apply WL.add; rfl; rfl; rfl; rfl; omega; omega) | (apply WL.pure; rfl; rfl; rfl) | (apply WL.nil) | (apply EX.thenN) | (apply CW.region) | (apply EX.inN) | (apply CW.skip)))
      refine EX.back (i + 1) (by repeat (first | exact trivial | refine ⟨rfl, ?_⟩)) ⟨h8, e9.trans e10, fun j hlt => ?_⟩ (by omega)
      by_cases e : j = i
      · subst e; exact h9
      · exact hno j (by omega)
  simp at h8
  have hst : (List.range al.length).all (stepB nx al l) = true := by
    rw [List.all_eq_true]
    exact fun j hj => hno j (by have := List.mem_range.1 hj; omega)
  rw [hst, Bool.true_and]
  clear hst hno h8 hw8 hp8 hall hokal hallen
  (repeat (first | (apply WL.pure; rfl; rfl; rfl) | (apply WL.nil) | (apply EX.thenN) | (apply CW.seq) | (apply CW.region) | (apply WL.lenS; rfl; rfl; rfl) | (apply WL.fa; rfl; rfl; rfl) | (apply WL.ld; rfl; rfl; rfl; assumption; rfl) | (apply CW.block) | (apply CW.exit) | (apply EX.thenX) | (apply EX.inX)))
  refine CW.loop (S := Nat) (fun i => [(2, .pointer (some ⟨w0.heap.size, 0, none⟩)), (3, .pointer (some ⟨w1.heap.size, 0, none⟩)), (96, .slice a4 fr.length c4), (97, .int .i64 fr.length), (98, .int .i64 i)])
    (fun i w => i ≤ fr.length ∧ Ext w9 w ∧ ∀ j (h : j < fr.length), j < i → fr[j].any (fun x => l.contains x) = true) (fun i => fr.length - i) 0 (by repeat (first | exact trivial | refine ⟨rfl, ?_⟩)) ⟨by omega, Ext.refl _, by omega⟩ ?_
  rintro m w10 ⟨hm, e10, hno⟩
  have hp10 := hp9.ext e10
  have hE10 := hE9.trans e10
  (repeat (first | (apply WL.pure; rfl; rfl; rfl) | (apply WL.nil) | (apply EX.thenN) | (apply CW.seq) | (apply CW.region)))
  refine CW.cond rfl (fun h8 => ?_) (fun h8 => ?_)
  · simp at h8
    (repeat (first | (apply EX.thenN) | (apply CW.seq) | (apply CW.region) | (apply CW.block) | (apply CW.skip)))
    refine WL.elemN rfl rfl rfl rfl rfl (h4.up hE10) h8 (fun _ => rfl) (fun u q hu => ?_)
    obtain ⟨fo, fc, rfl, hf⟩ := hu.sl
    (repeat (first | (apply WL.pure; rfl; rfl; rfl) | (apply WL.nil) | (apply EX.thenN) | (apply CW.seq) | (apply CW.region) | (apply WL.makeFunc; rfl; rfl; rfl; rfl)))
    refine WL.call rfl rfl rfl (containsFunc_int w10 (fun x => l.contains x) hf (fun w hw i hi => ?_)) ?_
    · exact FnV.mk (wgood1 w _ _ (hp10.ext hw) (hl.up (hE10.trans hw)))
    rintro _ w11 ⟨rfl, e11⟩
    (repeat (first | (apply WL.pure; rfl; rfl; rfl) | (apply WL.nil) | (apply EX.thenN)))
    refine CW.cond rfl (fun h9 => ?_) (fun h9 => ?_)
    · have h9 : fr[m].any (fun x => l.contains x) = false := by simpa only [Bool.not_eq_true', Bool.not_eq_true] using h9
      (repeat (first | (apply WL.pure; rfl; rfl; rfl) | (apply WL.nil) | (apply EX.thenN) | (apply CW.seq) | (apply CW.region) | (apply CW.ret) | (apply EX.thenR) | (apply EX.inR)))
      refine EX.ret2 rfl rfl rfl ⟨?_, hE10.trans e11⟩
      have : fr.all (fun f => f.any (fun x => l.contains x)) = false := by
        rw [List.all_eq_false]
        exact ⟨fr[m], List.getElem_mem h8, by rw [h9]; simp⟩
      rw [this]
    · have h9 : fr[m].any (fun x => l.contains x) = true := by simpa only [Bool.not_eq_false', Bool.not_eq_false] using h9
      (repeat (first | (apply WL.add; rfl; rfl; rfl; rfl; omega; omega) | (apply WL.pure; rfl; rfl; rfl) | (apply WL.nil) | (apply EX.thenN) | (apply CW.region) | (apply EX.inN) | (apply CW.skip)))
      refine EX.back (m + 1) (by repeat (first | exact trivial | refine ⟨rfl, ?_⟩)) ⟨h8, e10.trans e11, fun j hj hlt => ?_⟩ (by omega)
      by_cases e : j = m
      · subst e; exact h9
      · exact hno j hj (by omega)
  simp at h8
  have : fr.all (fun f => f.any (fun x => l.contains x)) = true := by
    rw [List.all_eq_true]
    intro f hf
    obtain ⟨j, hj, rfl⟩ := List.mem_iff_getElem.1 hf
    exact hno j hj (by omega)
  rw [this]
  (repeat (first | (apply WL.pure; rfl; rfl; rfl) | (apply WL.nil) | (apply EX.thenN) | (apply CW.seq) | (apply CW.region) | (apply CW.exit) | (apply EX.thenX) | (apply EX.inX) | (apply CW.ret)))
  exact EX.ret2 rfl rfl rfl ⟨rfl, hE10⟩
theorem labL_next {lb : List Nat} {s : List Int} {i : Nat} {a : Nat} (h : i < s.length) (ha : s[i] = (a : Int)) (hb : a < lb.length) : labL lb (s.take (i + 1)) = labL lb (s.take i) ++ [lb[a]] := by
  unfold labL
  rw [List.take_succ_eq_append_getElem h, List.map_append, ha]
  simp only [List.map_cons, List.map_nil, Int.toNat_natCast]
  rw [List.getD_eq_getElem?_getD, List.getElem?_eq_getElem hb]; rfl
theorem labL_len {lb : List Nat} (l : List Int) : (labL lb l).length = l.length := by unfold labL; rw [List.length_map]
theorem Word_ok (w0 : World) {a1 a2 a3 a4 so lo : Option Addr} {c1 c2 c3 c4 sc lc : Nat} {st s l : List Int} {nx fr : List (List Int)} {lb : List Nat} (h1 : Sl w0 (Old w0) a1 c1 st) (h2 : Sl w0 (Old w0) a2 c2 nx) (h3 : Sl w0 (Old w0) a3 c3 lb) (h4 : Sl w0 (Old w0) a4 c4 fr)
    (hs : Sl w0 (Old w0) so sc s) (hl : Sl w0 (Old w0) lo lc l) (hs6 : s.length ≤ 60000) (hl6 : l.length ≤ 60000) :
    Rt Try.prog 15 [worldV a1 c1 a2 c2 a3 c3 a4 c4 st.length nx.length lb.length fr.length, pathV so sc lo lc s l].toArray w0
      fun v w' => ∃ x, v = .tuple ⟨[x, .int .i64 (wordF st nx lb fr s l).2]⟩ ∧ Rd w' (Old w') x ((wordF st nx lb fr s l).1 : LWord) ∧ Ext w0 w' := by
  have hml := h3.len63
  have hz : ∀ (w : World), Rd w (Old w) (.agg [.slice none 0 0, .slice none 0 0].toArray) (([], []) : LWord) := fun w => Rd.mkPr (rd_mkSl (Sl.zero _ _)) (rd_mkSl (Sl.zero _ _))
  refine Rt.enter2 Try.func15 Try.ntmps15 rfl rfl ?_
  (repeat (first | (apply CW.seq) | (apply CW.region)))
  refine WL.boxB rfl rfl rfl fun w1 hw hE1 => ?_
  skip
  refine WL.boxB rfl rfl rfl fun w2 hp hE2 => ?_
  have hw2 := hw.ext hE2
  have hE2 := hE1.trans hE2
  skip
  refine WL.alloc rfl rfl (fun w3 ht e3 => ?_)
  have hw3 := hw2.ext e3
  have hp3 := hp.ext e3
  have hE3 := hE2.trans e3
  have hs01 : w0.heap.size ≤ w1.heap.size := hE1.size
  have hs12 : w1.heap.size < w2.heap.size := hp.lt
  have hs02 : w0.heap.size < w1.heap.size := hw.lt
  clear hw hp hw2 hE1 hE2 e3
  (repeat (first | (apply WL.pure; rfl; rfl; rfl) | (apply WL.nil) | (apply EX.thenN) | (apply CW.seq) | (apply CW.region) | (apply WL.ldA; rfl; rfl; rfl; assumption; rfl)))
  refine WL.call rfl rfl rfl (wCheck_ok w3 (h1.up hE3) (h2.up hE3) hml (h4.up hE3)) ?_
  rintro _ w4 ⟨rfl, e4⟩
  have hw4 := hw3.ext e4
  have hp4 := hp3.ext e4
  have ht4 := ht.ext e4
  have hE4 := hE3.trans e4
  clear hw3 hp3 hE3 e4 ht
  unfold wordF
  (repeat (first | (apply WL.pure; rfl; rfl; rfl) | (apply WL.nil) | (apply EX.thenN) | (apply CW.seq) | (apply CW.region)))
  refine CW.cond rfl (fun h => ?_) (fun h => ?_)
  · have h : chkWd st nx lb.length fr ≠ 0 := by simpa using h
    rw [if_pos h]
    (repeat (first | (apply CW.seq) | (apply CW.region)))
    refine WL.build (parts := []) rfl rfl rfl rfl ?_
    (repeat (apply WL.pure; rfl; rfl; rfl))
    refine WL.st rfl rfl rfl ht4 rfl rfl (ones_of rfl) (fun w5 ht5 hg5 => ?_)
    have hE5 : Ext w0 w5 := hE4.grown hg5 hE4.size (fun g hg => by cases hg; omega)
    (repeat (first | (apply WL.pure; rfl; rfl; rfl) | (apply WL.nil) | (apply EX.thenN) | (apply CW.ret) | (apply EX.thenR)))
    exact EX.retC2 rfl rfl rfl ht5 rfl ⟨_, rfl, hz _, hE5⟩
  have h : chkWd st nx lb.length fr = 0 := by simpa using h
  rw [if_neg (by simp [h])]
  obtain ⟨hn600, hf80, hkn, hokst, hoknx, hokfr⟩ := chkWd_ok h
  clear h
  (repeat (first | (apply WL.pure; rfl; rfl; rfl) | (apply EX.thenN) | (apply CW.seq) | (apply CW.region) | (apply WL.lenS; rfl; rfl; rfl) | (apply WL.fa; rfl; rfl; rfl) | (apply WL.ld; rfl; rfl; rfl; assumption; rfl) | (apply CW.skip)))
  (refine WL.lookG rfl rfl (fun h => ?_) (fun h => ?_))
  · have h6 : l.length = 0 := by simp at h; simp [h]
    rw [if_pos (.inl h6)]
    (repeat (first | (apply WL.pure; rfl; rfl; rfl) | (apply WL.nil) | (apply EX.thenN) | (apply CW.seq) | (apply CW.region) | (apply WL.pass; rfl; rfl) | (apply CW.condT; rfl)))
    refine WL.build (parts := []) rfl rfl rfl rfl ?_
    skip
    refine WL.st rfl rfl rfl ht4 rfl rfl (ones_of rfl) (fun w5 ht5 hg5 => ?_)
    have hE5 : Ext w0 w5 := hE4.grown hg5 hE4.size (fun g hg => by cases hg; omega)
    (repeat (first | (apply WL.pure; rfl; rfl; rfl) | (apply WL.nil) | (apply EX.thenN) | (apply CW.ret) | (apply EX.thenR)))
    exact EX.retC2 rfl rfl rfl ht5 rfl ⟨_, rfl, hz _, hE5⟩
  have h6 : l.length ≠ 0 := by simp at h; simpa using h
  clear h
  (repeat (first | (apply WL.lenS; rfl; rfl; rfl) | (apply WL.fa; rfl; rfl; rfl) | (apply WL.ld; rfl; rfl; rfl; assumption; rfl)))
  refine WL.call rfl rfl rfl (wodd_ok w4 nx.length (hs.up hE4)) ?_
  rintro _ w5 ⟨rfl, e5⟩
  have hw5 := hw4.ext e5
  have hp5 := hp4.ext e5
  have ht5 := ht4.ext e5
  have hE5 := hE4.trans e5
  have hsz5 := e5.size
  clear hw4 hp4 ht4 e5
  (repeat (apply WL.pure; rfl; rfl; rfl))
  (refine WL.lookG rfl rfl (fun h => ?_) (fun h => ?_))
  · rw [if_pos (.inr (.inl h))]
    (repeat (first | (apply WL.pure; rfl; rfl; rfl) | (apply WL.nil) | (apply EX.thenN) | (apply CW.seq) | (apply CW.region) | (apply WL.pass; rfl; rfl) | (apply CW.condT; rfl)))
    refine WL.build (parts := []) rfl rfl rfl rfl ?_
    skip
    refine WL.st rfl rfl rfl ht5 rfl rfl (ones_of rfl) (fun w6 ht6 hg6 => ?_)
    have hE6 : Ext w0 w6 := hE5.grown hg6 hE5.size (fun g hg => by cases hg; omega)
    (repeat (first | (apply WL.pure; rfl; rfl; rfl) | (apply WL.nil) | (apply EX.thenN) | (apply CW.ret) | (apply EX.thenR)))
    exact EX.retC2 rfl rfl rfl ht6 rfl ⟨_, rfl, hz _, hE6⟩
  have h7 := h
  clear h
  (repeat (first | (apply WL.lenS; rfl; rfl; rfl) | (apply WL.fa; rfl; rfl; rfl) | (apply WL.ld; rfl; rfl; rfl; assumption; rfl)))
  refine WL.call rfl rfl rfl (wodd_ok w5 nx.length (hl.up hE5)) ?_
  rintro _ w6 ⟨rfl, e6⟩
  have hw4 := hw5.ext e6
  have hp4 := hp5.ext e6
  have ht4 := ht5.ext e6
  have hE6 := hE5.trans e6
  have hsz6 := e6.size
  clear hw5 hp5 ht5 e6 hE4 hE5
  (repeat (first | (apply WL.pure; rfl; rfl; rfl) | (apply WL.nil) | (apply EX.thenN)))
  refine CW.cond rfl (fun h8 => ?_) (fun h8 => ?_)
  · rw [if_pos (.inr (.inr h8))]
    (repeat (first | (apply CW.seq) | (apply CW.region)))
    refine WL.build (parts := []) rfl rfl rfl rfl ?_
    skip
    refine WL.st rfl rfl rfl ht4 rfl rfl (ones_of rfl) (fun w7 ht7 hg7 => ?_)
    have hE7 : Ext w0 w7 := hE6.grown hg7 hE6.size (fun g hg => by cases hg; omega)
    (repeat (first | (apply WL.pure; rfl; rfl; rfl) | (apply WL.nil) | (apply EX.thenN) | (apply CW.ret) | (apply EX.thenR)))
    exact EX.retC2 rfl rfl rfl ht7 rfl ⟨_, rfl, hz _, hE7⟩
  rw [if_neg (by rw [h7, h8]; simp [h6])]
  have hoks := oddB_false.1 h7
  have hokl := oddB_false.1 h8
  have hs2w : w2.heap.size < w6.heap.size := ht4.lt
  clear h7 h8
  have hE4 := hE6
  clear hE6 hsz5 hsz6
  (repeat (first | (apply EX.thenN) | (apply CW.seq) | (apply CW.region) | (apply CW.skip)))
  refine WL.alloc rfl rfl (fun w7 ht7 hE47 => ?_)
  have hp7 := hp4.ext hE47
  (repeat (first | (apply WL.pure; rfl; rfl; rfl) | (apply WL.nil) | (apply EX.thenN) | (apply CW.seq) | (apply CW.region) | (apply WL.lenS; rfl; rfl; rfl) | (apply WL.fa; rfl; rfl; rfl) | (apply WL.ld; rfl; rfl; rfl; assumption; rfl) | (apply CW.block)))
  refine CW.loop (S := Nat × Value) (fun x => [(2, .pointer (some ⟨w0.heap.size, 0, none⟩)), (3, .pointer (some ⟨w1.heap.size, 0, none⟩)), (4, .pointer (some ⟨w2.heap.size, 0, none⟩)), (7, .pointer (some ⟨w6.heap.size, 0, none⟩)), (41, .slice so s.length sc), (42, .int .i64 s.length), (43, .int .i64 x.1)])
    (fun x w => x.1 ≤ s.length ∧ Blk w w6.heap.size 39 [x.2, .slice none 0 0] ∧ Own w (w6.heap.size + 1) 53 Non x.2 (labL lb (s.take x.1)) ∧ Ext w6 w) (fun x => s.length - x.1) (0, .slice none 0 0) (by repeat (first | exact trivial | refine ⟨rfl, ?_⟩)) ⟨Nat.zero_le _, ht7, Own.nil, hE47⟩ ?_
  rintro ⟨i, bV⟩ w8 ⟨hi, hb, ho, hE⟩
  dsimp only at hi hb ho hE ⊢
  have hp8 := hp4.ext hE
  have hw8 := hw4.ext hE
  have hE8 := hE4.trans hE
  (repeat (first | (apply WL.pure; rfl; rfl; rfl) | (apply WL.nil) | (apply EX.thenN) | (apply CW.seq) | (apply CW.region)))
  refine CW.cond rfl (fun h8 => ?_) (fun h8 => ?_)
  · simp at h8
    (repeat (first | (apply EX.thenN) | (apply CW.seq) | (apply CW.region) | (apply CW.block) | (apply CW.skip)))
    refine WL.elemI rfl rfl rfl rfl rfl (hs.up hE8) h8 rfl (fun _ => rfl) (fun q => ?_)
    have hbd := hoks s[i] (List.getElem_mem h8)
    obtain ⟨a, ha⟩ := Int.eq_ofNat_of_zero_le hbd.1
    have hal : a < lb.length := by rw [ha] at hbd; omega
    have ha' : s[i] = (a : Int) := ha
    rw [ha']
    have hwd := hw8.ext (Ext.drew w8)
    have hbb := hb.ext (Ext.drew w8)
    have hod := ho.extN (Ext.drew w8)
    have hEd := hE.trans (Ext.drew w8)
    have hdsz := (Ext.drew w8).size
    have hsz48 := hE.size
    have hsz4 := hb.lt
    have hbV : ∀ g, bV.ownBlock = some g → w6.heap.size < g := fun g hg => by have := (ho.lt g hg).1; omega
    have hK4 : ∀ w9, (fun x : World => ∀ b, b ≤ w6.heap.size → x.heap[b]? = (drew w8).heap[b]?) w9 → w9.heap[w6.heap.size]? = (drew w8).heap[w6.heap.size]? := fun _ h => h _ (Nat.le_refl _)
    have hK0 : ∀ w9, (fun x : World => ∀ b, b ≤ w6.heap.size → x.heap[b]? = (drew w8).heap[b]?) w9 → w9.heap[w0.heap.size]? = (drew w8).heap[w0.heap.size]? := fun _ h => h _ hE4.size
    have hS : ∀ w9, (drew w8).grownBy w9 bV.ownBlock → (fun x : World => ∀ b, b ≤ w6.heap.size → x.heap[b]? = (drew w8).heap[b]?) w9 := fun w9 hg b hb' => hg.block b (by omega) (fun e => by have := hbV b e.symm; omega)
    (repeat (first | (apply WL.pure; rfl; rfl; rfl) | (apply WL.nil) | (apply EX.thenN)))
    refine CW.drawE (fun x : World => ∀ b, b ≤ w6.heap.size → x.heap[b]? = (drew w8).heap[b]?) [(0, true), (1, true), (2, true), (3, true), (4, true), (5, true), (6, true), (7, false), (8, false), (9, true)] 10 mixed (by kernel_rfl) (fun _ _ => rfl) ?_
    (repeat (first | (apply HL.pure; rfl; rfl; rfl; rfl) | (refine HL.fa rfl rfl rfl rfl ?_) | (refine HL.ldK (by assumption) rfl rfl rfl rfl (by assumption) rfl ?_)))
    refine HL.elemK (w := drew w8) (F := Old w0) (fun w9 h9 b hb' => h9 b (by have := hE4.size; have : b < w0.heap.size := hb'; omega)) rfl rfl rfl rfl rfl rfl rfl (h3.at (hE8.trans (Ext.drew w8))) hal (fun _ => rfl) (fun u q hu => ?_)
    obtain ⟨rfl, hu64⟩ := hu.u64
    refine HL.app1 (bytes := 8) rfl rfl rfl rfl (fun _ => rfl) rfl rfl (fun _ => rfl) hod ⟨_, rfl, rd_mkU64 _ _ _ hu64⟩ (by omega) (fun _ h => h.elim) (by decide) (by rw [labL_len, List.length_take]; unfold maxLen; omega) (by rw [labL_len, List.length_take]; omega) hS (fun cV w9 q2 hoc hg9 hnb => ?_)
    rw [← labL_next h8 ha' hal] at hoc
    obtain ⟨co, cc, rfl⟩ := hoc.val
    have hb9 : Blk w9 w6.heap.size 39 [bV, .slice none 0 0] := hbb.kept hg9 (fun e => by have := hbV _ e.symm; omega)
    have hE9 : Ext w6 w9 := hEd.grown hg9 hEd.size (fun g hg => Nat.le_of_lt (hbV g hg))
    (repeat (first | (refine HL.fa rfl rfl rfl rfl ?_) | (apply HL.nil)))
    refine EX.tail rfl (WL.st rfl rfl rfl hb9 rfl rfl (ones_of rfl) (fun w10 hb10 hg10 => WL.nil (EX.tailE ?_)))
    have hE10 : Ext w6 w10 := hE9.grown hg10 hE9.size (fun g hg => by cases hg; exact Nat.le_refl _)
    have ho10 := hoc.keptN hg10 (fun g hg e => by cases e; have := (hoc.lt _ hg).1; omega)
    (repeat (first | (apply WL.add; rfl; rfl; rfl; rfl; omega; omega) | (apply WL.pure; rfl; rfl; rfl) | (apply WL.nil) | (apply EX.thenN) | (apply CW.region) | (apply EX.inN)))
    exact EX.back (i + 1, .slice co (labL lb (s.take (i + 1))).length cc) (by repeat (first | exact trivial | refine ⟨rfl, ?_⟩)) ⟨h8, hb10, ho10, hE10⟩ (by dsimp only; omega)
  simp at h8
  obtain rfl : i = s.length := by omega
  rw [List.take_length] at ho
  obtain ⟨ao, ac, hav⟩ := ho.val
  subst hav
  rw [labL_len] at ho hb
  have hoA := ho
  have hbA := hb
  have hEA := hE
  have hoAlt : ∀ g, Value.ownBlock (.slice ao s.length ac) = some g → g < w8.heap.size := fun g hg => (hoA.lt g hg).2.1
  have hszA := hbA.lt
  clear ho hb hE hw8 hE8 h8 hi ht7 hE47 hp7
  (repeat (first | (apply WL.pure; rfl; rfl; rfl) | (apply WL.nil) | (apply EX.thenN) | (apply CW.seq) | (apply CW.region) | (apply WL.lenS; rfl; rfl; rfl) | (apply WL.fa; rfl; rfl; rfl) | (apply WL.ld; rfl; rfl; rfl; assumption; rfl) | (apply CW.block) | (apply CW.exit) | (apply EX.thenX) | (apply EX.inX)))
  refine CW.loop (S := Nat × Value) (fun x => [(2, .pointer (some ⟨w0.heap.size, 0, none⟩)), (3, .pointer (some ⟨w1.heap.size, 0, none⟩)), (4, .pointer (some ⟨w2.heap.size, 0, none⟩)), (7, .pointer (some ⟨w6.heap.size, 0, none⟩)), (59, .slice lo l.length lc), (60, .int .i64 l.length), (61, .int .i64 x.1)])
    (fun x w => x.1 ≤ l.length ∧ Blk w w6.heap.size 39 [.slice ao s.length ac, x.2] ∧ Own w (w8.heap.size) 53 Non x.2 (labL lb (l.take x.1)) ∧ Ext w6 w ∧ Own w (w6.heap.size + 1) 53 Non (.slice ao s.length ac) (labL lb s) ∧ w8.heap.size ≤ w.heap.size) (fun x => l.length - x.1) (0, .slice none 0 0) (by repeat (first | exact trivial | refine ⟨rfl, ?_⟩)) ⟨Nat.zero_le _, hbA, Own.nil, hEA, hoA, Nat.le_refl _⟩ ?_
  rintro ⟨i, bV⟩ w12 ⟨hi, hb, ho, hE, hoA, hszA2⟩
  dsimp only at hi hb ho hE ⊢
  have hp8 := hp4.ext hE
  have hw8 := hw4.ext hE
  have hE8 := hE4.trans hE
  (repeat (first | (apply WL.pure; rfl; rfl; rfl) | (apply WL.nil) | (apply EX.thenN) | (apply CW.seq) | (apply CW.region)))
  refine CW.cond rfl (fun h8 => ?_) (fun h8 => ?_)
  · simp at h8
    (repeat (first | (apply EX.thenN) | (apply CW.seq) | (apply CW.region) | (apply CW.block) | (apply CW.skip)))
    refine WL.elemI rfl rfl rfl rfl rfl (hl.up hE8) h8 rfl (fun _ => rfl) (fun q => ?_)
    have hbd := hokl l[i] (List.getElem_mem h8)
    obtain ⟨a, ha⟩ := Int.eq_ofNat_of_zero_le hbd.1
    have hal : a < lb.length := by rw [ha] at hbd; omega
    have ha' : l[i] = (a : Int) := ha
    rw [ha']
    have hwd := hw8.ext (Ext.drew w12)
    have hbb := hb.ext (Ext.drew w12)
    have hod := ho.extN (Ext.drew w12)
    have hEd := hE.trans (Ext.drew w12)
    have hdsz := (Ext.drew w12).size
    have hsz48 := hE.size
    have hsz4 := hb.lt
    have hbV : ∀ g, bV.ownBlock = some g → w6.heap.size < g := fun g hg => by have := (ho.lt g hg).1; have := hszA; omega
    have hK4 : ∀ w13, (fun x : World => ∀ b, b ≤ w6.heap.size → x.heap[b]? = (drew w12).heap[b]?) w13 → w13.heap[w6.heap.size]? = (drew w12).heap[w6.heap.size]? := fun _ h => h _ (Nat.le_refl _)
    have hK0 : ∀ w13, (fun x : World => ∀ b, b ≤ w6.heap.size → x.heap[b]? = (drew w12).heap[b]?) w13 → w13.heap[w0.heap.size]? = (drew w12).heap[w0.heap.size]? := fun _ h => h _ hE4.size
    have hS : ∀ w13, (drew w12).grownBy w13 bV.ownBlock → (fun x : World => ∀ b, b ≤ w6.heap.size → x.heap[b]? = (drew w12).heap[b]?) w13 := fun w13 hg b hb' => hg.block b (by omega) (fun e => by have := hbV b e.symm; omega)
    (repeat (first | (apply WL.pure; rfl; rfl; rfl) | (apply WL.nil) | (apply EX.thenN)))
    refine CW.drawE (fun x : World => ∀ b, b ≤ w6.heap.size → x.heap[b]? = (drew w12).heap[b]?) [(0, true), (1, true), (2, true), (3, true), (4, true), (5, true), (6, true), (7, false), (8, false), (9, true)] 10 mixed (by kernel_rfl) (fun _ _ => rfl) ?_
    (repeat (first | (apply HL.pure; rfl; rfl; rfl; rfl) | (refine HL.fa rfl rfl rfl rfl ?_) | (refine HL.ldK (by assumption) rfl rfl rfl rfl (by assumption) rfl ?_)))
    refine HL.elemK (w := drew w12) (F := Old w0) (fun w13 h9 b hb' => h9 b (by have := hE4.size; have : b < w0.heap.size := hb'; omega)) rfl rfl rfl rfl rfl rfl rfl (h3.at (hE8.trans (Ext.drew w12))) hal (fun _ => rfl) (fun u q hu => ?_)
    obtain ⟨rfl, hu64⟩ := hu.u64
    refine HL.app1 (bytes := 8) rfl rfl rfl rfl (fun _ => rfl) rfl rfl (fun _ => rfl) hod ⟨_, rfl, rd_mkU64 _ _ _ hu64⟩ (Nat.le_trans hszA2 hdsz) (fun _ h => h.elim) (by decide) (by rw [labL_len, List.length_take]; unfold maxLen; omega) (by rw [labL_len, List.length_take]; omega) hS (fun cV w13 q2 hoc hg9 hnb => ?_)
    rw [← labL_next h8 ha' hal] at hoc
    obtain ⟨co, cc, rfl⟩ := hoc.val
    have hb9 : Blk w13 w6.heap.size 39 [.slice ao s.length ac, bV] := hbb.kept hg9 (fun e => by have := hbV _ e.symm; omega)
    have hE9 : Ext w6 w13 := hEd.grown hg9 hEd.size (fun g hg => Nat.le_of_lt (hbV g hg))
    (repeat (first | (refine HL.fa rfl rfl rfl rfl ?_) | (apply HL.nil)))
    refine EX.tail rfl (WL.st rfl rfl rfl hb9 rfl rfl (ones_of rfl) (fun w14 hb10 hg10 => WL.nil (EX.tailE ?_)))
    have hE10 : Ext w6 w14 := hE9.grown hg10 hE9.size (fun g hg => by cases hg; exact Nat.le_refl _)
    have ho10 := hoc.keptN hg10 (fun g hg e => by cases e; have := (hoc.lt _ hg).1; have := hszA; omega)
    have hoA10 : Own w14 (w6.heap.size + 1) 53 Non (.slice ao s.length ac) (labL lb s) := ((hoA.extN (Ext.drew w12)).keptN hg9 (fun g hg e => by have := hoAlt g hg; have := (ho.lt g e.symm).1; omega)).keptN hg10 (fun g hg e => by cases e; have := (hoA.lt _ hg).1; omega)
    (repeat (first | (apply WL.add; rfl; rfl; rfl; rfl; omega; omega) | (apply WL.pure; rfl; rfl; rfl) | (apply WL.nil) | (apply EX.thenN) | (apply CW.region) | (apply EX.inN)))
    exact EX.back (i + 1, .slice co (labL lb (l.take (i + 1))).length cc) (by repeat (first | exact trivial | refine ⟨rfl, ?_⟩)) ⟨h8, hb10, ho10, hE10, hoA10, Nat.le_trans hszA2 (Nat.le_trans hdsz (Nat.le_trans hg9.size hg10.size))⟩ (by dsimp only; omega)
  simp at h8
  obtain rfl : i = l.length := by omega
  rw [List.take_length] at ho
  obtain ⟨bo, bc, hbv⟩ := ho.val
  subst hbv
  have hlA : Sl w12 (Old w12) ao ac (labL lb s) := by
    obtain ⟨x, y, e, hsl⟩ := hoA.oldN.sl
    obtain ⟨rfl, _, rfl⟩ := Value.slice.inj e
    exact hsl
  have hlB : Sl w12 (Old w12) bo bc (labL lb l) := by
    obtain ⟨x, y, e, hsl⟩ := ho.oldN.sl
    obtain ⟨rfl, _, rfl⟩ := Value.slice.inj e
    exact hsl
  have hE12 := hE8
  have ht12 := ht4.ext hE
  have hL1 := labL_len (lb := lb) s
  rw [← hL1] at hb
  have hls : (labL lb s).length ≤ 60000 := by omega
  generalize labL lb s = p1 at *
  generalize labL lb l = p2 at *
  (repeat (first | (apply EX.thenN) | (apply CW.seq) | (apply CW.region) | (apply WL.ldA; rfl; rfl; rfl; assumption; rfl) | (apply CW.exit) | (apply EX.thenX) | (apply EX.inX)))
  refine WL.call rfl rfl rfl (lassoCheck w12 (s := p1) (l := p2) hlA.len63 hlB.len63) ?_
  rintro _ w13 ⟨rfl, e13⟩
  have hb13 := hb.ext e13
  have ht13 := ht12.ext e13
  have hE13 := hE12.trans e13
  have hs013 := hE13.size
  (repeat (first | (apply WL.pure; rfl; rfl; rfl) | (apply WL.nil) | (apply EX.thenN) | (apply CW.seq) | (apply CW.region)))
  refine CW.cond rfl (fun h => ?_) (fun h => ?_)
  · have h : chkW p1 p2 ≠ 0 := by simpa using h
    rw [if_pos h]
    (repeat (first | (apply CW.seq) | (apply CW.region)))
    refine WL.build (parts := []) rfl rfl rfl rfl ?_
    (repeat (apply WL.pure; rfl; rfl; rfl))
    refine WL.st rfl rfl rfl ht13 rfl rfl (ones_of rfl) (fun w14 ht14 hg14 => ?_)
    have hE14 : Ext w0 w14 := hE13.grown hg14 hE13.size (fun g hg => by cases hg; omega)
    (repeat (first | (apply WL.pure; rfl; rfl; rfl) | (apply WL.nil) | (apply EX.thenN) | (apply CW.ret) | (apply EX.thenR)))
    exact EX.retC2 rfl rfl rfl ht14 rfl ⟨_, rfl, hz _, hE14⟩
  have h : chkW p1 p2 = 0 := by simpa using h
  rw [if_neg (by simp [h])]
  (repeat (first | (apply EX.thenN) | (apply CW.seq) | (apply CW.region) | (apply WL.ldA; rfl; rfl; rfl; assumption; rfl) | (apply CW.skip)))
  refine WL.st rfl rfl rfl ht13 rfl rfl (ones_of rfl) (fun w14 ht14 hg14 => ?_)
  have hE14 : Ext w0 w14 := hE13.grown hg14 hE13.size (fun g hg => by cases hg; omega)
  have hoA14 := (hoA.extN e13).keptN hg14 (fun g hg e => by cases e; have := (hoA.lt _ hg).1; omega)
  have hoB14 := (ho.extN e13).keptN hg14 (fun g hg e => by cases e; have := (ho.lt _ hg).1; omega)
  rw [← hL1] at hoA14
  obtain ⟨x, y, e, hA14⟩ := hoA14.oldN.sl
  obtain ⟨rfl, _, rfl⟩ := Value.slice.inj e
  obtain ⟨x, y, e, hB14⟩ := hoB14.oldN.sl
  obtain ⟨rfl, _, rfl⟩ := Value.slice.inj e
  (repeat (first | (apply WL.pure; rfl; rfl; rfl) | (apply WL.nil) | (apply EX.thenN) | (apply CW.ret)))
  exact EX.retC2 rfl rfl rfl ht14 rfl ⟨_, rfl, Rd.mkPr (rd_mkSl hA14) (rd_mkSl hB14), hE14⟩
end Go.Proofs.Ytllpfgcngokhnaa

