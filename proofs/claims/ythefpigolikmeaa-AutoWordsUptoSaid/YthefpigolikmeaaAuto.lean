/-
  Package auto: odd, Check, Fits, member, product.
-/
import Derived.Test.YthefpigolikmeaaAccPl
import Derived.Test.YthefpigolikmeaaGrid
import Derived.Test.YthefpigolikmeaaUnroll
set_option linter.unusedVariables false
set_option linter.unusedSimpArgs false
namespace Go.Proofs.Ythefpigolikmeaa
open Go.RowKit

abbrev LAuto := List Int × List (List Int) × List Nat × List Nat × List (List Int)
abbrev autoV (a1 : Option Addr) (c1 : Nat) (a2 : Option Addr) (c2 : Nat) (a3 : Option Addr) (c3 : Nat) (a4 : Option Addr) (c4 : Nat) (a5 : Option Addr) (c5 : Nat) (n1 n2 n3 n4 n5 : Nat) : Value := .agg [.slice a1 n1 c1, .slice a2 n2 c2, .slice a3 n3 c3, .slice a4 n4 c4, .slice a5 n5 c5].toArray
/-- the cells of an automaton: what they read as -/
structure AutoAt (w : World) (F : Nat → Prop) (v : Value) (A : LAuto) : Prop where
  ok : ∃ a1 c1 a2 c2 a3 c3 a4 c4 a5 c5, v = autoV a1 c1 a2 c2 a3 c3 a4 c4 a5 c5 A.1.length A.2.1.length A.2.2.1.length A.2.2.2.1.length A.2.2.2.2.length ∧ Sl w F a1 c1 A.1 ∧ Sl w F a2 c2 A.2.1 ∧ Sl w F a3 c3 A.2.2.1 ∧ Sl w F a4 c4 A.2.2.2.1 ∧ Sl w F a5 c5 A.2.2.2.2
theorem Rd.auto {w : World} {F : Nat → Prop} {v : Value} {x : LAuto} (h : Rd w F v x) : AutoAt w F v x := by
  obtain ⟨c1, r1, rfl, h1, k1⟩ := h.pr
  obtain ⟨c2, r2, rfl, h2, k2⟩ := rd_pr k1
  obtain ⟨c3, r3, rfl, h3, k3⟩ := rd_pr k2
  obtain ⟨c4, r4, rfl, h4, h5⟩ := rd_pr k3
  obtain ⟨a1, d1, rfl, s1⟩ := rd_sl h1
  obtain ⟨a2, d2, rfl, s2⟩ := rd_sl h2
  obtain ⟨a3, d3, rfl, s3⟩ := rd_sl h3
  obtain ⟨a4, d4, rfl, s4⟩ := rd_sl h4
  obtain ⟨a5, d5, rfl, s5⟩ := rd_sl h5
  exact ⟨a1, d1, a2, d2, a3, d3, a4, d4, a5, d5, rfl, s1, s2, s3, s4, s5⟩
def chkA (A : LAuto) : Int :=
  if A.2.1.length > 2048 ∨ A.2.2.2.2.length > 80 then 2 else if A.2.2.1.length ≠ A.2.1.length ∨ A.2.2.2.1.length ≠ A.2.1.length ∨ oddB A.2.1.length A.1 = true then 1
  else if A.2.1.any (oddB A.2.1.length) = true ∨ A.2.2.2.2.any (oddB A.2.1.length) = true then 1 else 0
structure OkA (A : LAuto) : Prop where
  n : A.2.1.length ≤ 2048
  f : A.2.2.2.2.length ≤ 80
  mu : A.2.2.1.length = A.2.1.length
  no : A.2.2.2.1.length = A.2.1.length
  st : okL A.2.1.length A.1
  nx : ∀ r ∈ A.2.1, okL A.2.1.length r
  fr : ∀ r ∈ A.2.2.2.2, okL A.2.1.length r
theorem any_odd {n : Nat} {g : List (List Int)} : g.any (oddB n) = false ↔ ∀ r ∈ g, okL n r := by
  rw [List.any_eq_false]
  refine forall_congr' fun r => forall_congr' fun _ => ?_
  rw [← oddB_false, Bool.not_eq_true]
theorem chkA_ok {A : LAuto} (h : chkA A = 0) : OkA A := by
  unfold chkA at h
  split at h
  · cases h
  split at h
  · cases h
  split at h
  · cases h
  rename_i h1 h2 h3
  rw [not_or] at h1 h2 h3
  rw [not_or] at h2
  exact ⟨by omega, by omega, by omega, by omega, oddB_false.1 (by simpa using h2.2.2), any_odd.1 (by simpa using h3.1), any_odd.1 (by simpa using h3.2)⟩
theorem chkA_of {A : LAuto} (h : OkA A) : chkA A = 0 := by
  unfold chkA
  have a := oddB_false.2 h.st; have b := any_odd.2 h.nx; have c := any_odd.2 h.fr; have d := h.mu; have e := h.no
  rw [if_neg (by have := h.n; have := h.f; omega), if_neg (by rw [a]; simp; omega), if_neg (by rw [b, c]; simp)]

theorem aodd1 (n : Nat) (x : Int) (b : Nat) (w : World) (hb : Blk w b 3 [.int .i64 n]) :
    Rt Try.prog 158 [.int .i64 x, .pointer (some ⟨b, 0, none⟩)].toArray w fun v w' => v = .bool (decide (x < 0 ∨ x ≥ n)) ∧ w = w' := by
  refine Rt.enter2 Try.func158 Try.ntmps158 rfl rfl ?_
  (repeat (first | (apply WL.pure; rfl; rfl; rfl) | (apply WL.nil) | (apply EX.thenN) | (apply CW.seq) | (apply CW.region)))
  refine WL.look (s := 6) rfl (fun h => ?_) (fun h => ?_)
  · (repeat (first | (apply WL.pure; rfl; rfl; rfl) | (apply WL.nil) | (apply EX.thenN) | (apply WL.pass; rfl; rfl) | (apply CW.ret)))
    refine EX.ret1 rfl rfl ?_
    simp at h
    simp [h]
  · (repeat (first | (apply WL.pure; rfl; rfl; rfl) | (apply WL.nil) | (apply EX.thenN) | (apply WL.ld; rfl; rfl; rfl; assumption; rfl) | (apply CW.ret)))
    refine EX.ret1 rfl rfl ?_
    simp at h
    simp [Int.not_lt.2 h]
theorem aodd_ok (w0 : World) {lo : Option Addr} {lcap : Nat} {l : List Int} (n : Nat) (hl : Sl w0 (Old w0) lo lcap l) :
    Rt Try.prog 107 [.slice lo l.length lcap, .int .i64 n].toArray w0 fun v w' => v = .bool (oddB n l) ∧ Ext w0 w' := by
  refine Rt.enter2 Try.func107 Try.ntmps107 rfl rfl ?_
  (repeat (first | (apply CW.seq) | (apply CW.region)))
  refine WL.boxB rfl rfl rfl fun w1 hb hE => ?_
  (repeat (first | (apply WL.pure; rfl; rfl; rfl) | (apply WL.nil) | (apply EX.thenN) | (apply CW.seq) | (apply CW.region) | (apply WL.makeFunc; rfl; rfl; rfl; rfl)))
  refine WL.call rfl rfl rfl (containsFunc_int w1 (fun x => decide (x < 0 ∨ x ≥ n)) (hl.up hE) (fun w hw i h => ?_)) ?_
  · refine FnV.mk (Rt.mono (aodd1 n _ _ w (hb.ext hw)) ?_)
    rintro v w' ⟨rfl, rfl⟩
    exact ⟨rfl, Ext.refl _⟩
  · rintro v w' ⟨rfl, hB⟩
    (repeat (first | (apply WL.pure; rfl; rfl; rfl) | (apply WL.nil) | (apply EX.thenN) | (apply CW.ret)))
    exact EX.ret1 rfl rfl ⟨rfl, hE.trans hB⟩
theorem achk1 (w : World) {lo : Option Addr} {lcap : Nat} {l : List Int} (n : Nat) (b : Nat) (hb : Blk w b 3 [.int .i64 n]) (hl : Sl w (Old w) lo lcap l) :
    Rt Try.prog 108 [.slice lo l.length lcap, .pointer (some ⟨b, 0, none⟩)].toArray w fun v w' => v = .bool (oddB n l) ∧ Ext w w' := by
  refine Rt.enter2 Try.func108 Try.ntmps108 rfl rfl ?_
  (repeat (first | (apply WL.pure; rfl; rfl; rfl) | (apply WL.nil) | (apply EX.thenN) | (apply CW.seq) | (apply CW.region) | (apply WL.ld; rfl; rfl; rfl; assumption; rfl)))
  refine WL.call rfl rfl rfl (aodd_ok w n hl) ?_
  rintro _ w' ⟨rfl, hE⟩
  (repeat (first | (apply WL.pure; rfl; rfl; rfl) | (apply WL.nil) | (apply EX.thenN) | (apply CW.ret)))
  exact EX.ret1 rfl rfl ⟨rfl, hE⟩
theorem achk2 (w : World) {lo : Option Addr} {lcap : Nat} {l : List Int} (n : Nat) (b : Nat) (hb : Blk w b 3 [.int .i64 n]) (hl : Sl w (Old w) lo lcap l) :
    Rt Try.prog 109 [.slice lo l.length lcap, .pointer (some ⟨b, 0, none⟩)].toArray w fun v w' => v = .bool (oddB n l) ∧ Ext w w' := by
  refine Rt.enter2 Try.func109 Try.ntmps109 rfl rfl ?_
  (repeat (first | (apply WL.pure; rfl; rfl; rfl) | (apply WL.nil) | (apply EX.thenN) | (apply CW.seq) | (apply CW.region) | (apply WL.ld; rfl; rfl; rfl; assumption; rfl)))
  refine WL.call rfl rfl rfl (aodd_ok w n hl) ?_
  rintro _ w' ⟨rfl, hE⟩
  (repeat (first | (apply WL.pure; rfl; rfl; rfl) | (apply WL.nil) | (apply EX.thenN) | (apply CW.ret)))
  exact EX.ret1 rfl rfl ⟨rfl, hE⟩
theorem aCheck_ok (w0 : World) {v0 : Value} {A : LAuto} (ha : AutoAt w0 (Old w0) v0 A) :
    Rt Try.prog 57 [v0].toArray w0 fun v w' => v = .int .i64 (chkA A) ∧ Ext w0 w' := by
  obtain ⟨a1, c1, a2, c2, a3, c3, a4, c4, a5, c5, rfl, h1, h2, h3, h4, h5⟩ := ha.ok
  obtain ⟨st, nx, mu, no, fr⟩ := A
  dsimp only at *
  have hm2 := h2.len63
  have hm3 := h3.len63
  have hm4 := h4.len63
  have hm5 := h5.len63
  refine Rt.enter1 Try.func57 Try.ntmps57 rfl rfl ?_
  have hE := Ext.refl w0
  (repeat (first | (apply CW.seq) | (apply CW.region)))
  refine WL.boxB rfl rfl rfl fun w1 hb1 e1 => ?_
  have hE := hE.trans e1
  have z1 := e1.size
  have hl1 := hb1.lt
  (repeat (first | (apply WL.pure; rfl; rfl; rfl) | (apply WL.nil) | (apply EX.thenN) | (apply CW.seq) | (apply CW.region) | (apply WL.lenS; rfl; rfl; rfl) | (apply WL.fa; rfl; rfl; rfl) | (apply WL.ld; rfl; rfl; rfl; assumption; rfl)))
  refine WL.alloc rfl rfl (fun w2 hb3 e2 => ?_)
  have hb1 := hb1.ext e2
  have hE := hE.trans e2
  skip
  refine WL.st rfl rfl rfl hb3 rfl rfl (ones_of rfl) (fun w3 hb3 hg3 => ?_)
  have hb1 := hb1.kept hg3 (by simp; omega)
  have hE : Ext w0 w3 := hE.grown hg3 hE.size (fun g hg => by cases hg; exact z1)
  unfold chkA
  dsimp only
  (repeat (first | (apply WL.pure; rfl; rfl; rfl) | (apply WL.nil) | (apply EX.thenN) | (apply CW.seq) | (apply CW.region) | (apply WL.ld; rfl; rfl; rfl; assumption; rfl)))
  (refine WL.lookG rfl rfl (fun h => ?_) (fun h => ?_))
  · (repeat (first | (apply WL.pure; rfl; rfl; rfl) | (apply WL.nil) | (apply EX.thenN) | (apply CW.seq) | (apply CW.region) | (apply WL.pass; rfl; rfl) | (apply CW.condT; rfl) | (apply CW.ret) | (apply EX.thenR)))
    skip
    refine EX.ret1 rfl rfl ⟨?_, hE⟩
    simp at h
    rw [if_pos (.inl (by omega))]
  (repeat (first | (apply WL.pure; rfl; rfl; rfl) | (apply WL.nil) | (apply EX.thenN) | (apply WL.lenS; rfl; rfl; rfl) | (apply WL.fa; rfl; rfl; rfl) | (apply WL.ld; rfl; rfl; rfl; assumption; rfl)))
  refine CW.cond rfl (fun h5' => ?_) (fun h5' => ?_)
  · (repeat (first | (apply WL.pure; rfl; rfl; rfl) | (apply WL.nil) | (apply EX.thenN) | (apply CW.seq) | (apply CW.region) | (apply CW.ret) | (apply EX.thenR)))
    refine EX.ret1 rfl rfl ⟨?_, hE⟩
    simp at h5'
    rw [if_pos (.inr (by omega))]
  simp at h h5'
  rw [if_neg (by omega)]
  clear h h5'
  (repeat (first | (apply WL.pure; rfl; rfl; rfl) | (apply EX.thenN) | (apply CW.seq) | (apply CW.region) | (apply WL.lenS; rfl; rfl; rfl) | (apply WL.fa; rfl; rfl; rfl) | (apply WL.ld; rfl; rfl; rfl; assumption; rfl) | (apply CW.skip)))
  (refine WL.lookG rfl rfl (fun h => ?_) (fun h => ?_))
  · simp at h
    (repeat (first | (apply WL.pure; rfl; rfl; rfl) | (apply WL.nil) | (apply EX.thenN) | (apply CW.seq) | (apply CW.region) | (apply WL.pass; rfl; rfl) | (apply CW.condT; rfl) | (apply CW.ret) | (apply EX.thenR)))
    refine EX.ret1 rfl rfl ⟨?_, hE⟩
    rw [if_pos (.inl (by omega))]
  simp at h
  have h0 := h
  clear h
  (repeat (first | (apply WL.pure; rfl; rfl; rfl) | (apply WL.lenS; rfl; rfl; rfl) | (apply WL.fa; rfl; rfl; rfl) | (apply WL.ld; rfl; rfl; rfl; assumption; rfl)))
  (refine WL.lookG rfl rfl (fun h => ?_) (fun h => ?_))
  · have hx := h
    simp at hx
    (repeat (first | (apply WL.pure; rfl; rfl; rfl) | (apply WL.nil) | (apply EX.thenN) | (apply CW.seq) | (apply CW.region) | (apply WL.pass; rfl; rfl) | (apply CW.condT; rfl) | (apply CW.ret) | (apply EX.thenR)))
    refine EX.ret1 rfl rfl ⟨?_, hE⟩
    rw [if_pos (.inr (.inl (by omega)))]
  have hx := h
  simp at hx
  (repeat (first | (apply WL.fa; rfl; rfl; rfl) | (apply WL.ld; rfl; rfl; rfl; assumption; rfl)))
  refine WL.call rfl rfl rfl (aodd_ok w3 nx.length (h1.up hE)) ?_
  rintro _ w4 ⟨rfl, e4⟩
  have hb1 := hb1.ext e4
  have hb3 := hb3.ext e4
  have hE := hE.trans e4
  (repeat (first | (apply WL.pure; rfl; rfl; rfl) | (apply WL.nil) | (apply EX.thenN)))
  refine CW.cond rfl (fun h7 => ?_) (fun h7 => ?_)
  · (repeat (first | (apply WL.pure; rfl; rfl; rfl) | (apply WL.nil) | (apply EX.thenN) | (apply CW.seq) | (apply CW.region) | (apply CW.ret) | (apply EX.thenR)))
    refine EX.ret1 rfl rfl ⟨?_, hE⟩
    rw [if_pos (.inr (.inr h7))]
  rw [if_neg (by rw [h7]; simp; omega)]
  (repeat (first | (apply EX.thenN) | (apply CW.seq) | (apply CW.region) | (apply WL.makeFunc; rfl; rfl; rfl; rfl) | (apply WL.fa; rfl; rfl; rfl) | (apply WL.ld; rfl; rfl; rfl; assumption; rfl) | (apply CW.skip)))
  refine WL.call rfl rfl rfl (containsFunc_ll w4 (oddB nx.length) (h2.up hE) (fun w hw i hi u hu => ?_)) ?_
  · obtain ⟨lo, lc, rfl, hl⟩ := hu.sl
    exact FnV.mk (Rt.mono (achk1 w nx.length _ (hb3.ext hw) (hl.lift fun b hb => Nat.lt_of_lt_of_le hb hw.size)) fun v w' h => h)
  rintro _ w5 ⟨rfl, e5⟩
  have hb1 := hb1.ext e5
  have hb3 := hb3.ext e5
  have hE := hE.trans e5
  (repeat (apply WL.pure; rfl; rfl; rfl))
  (refine WL.lookG rfl rfl (fun h => ?_) (fun h => ?_))
  · have h8 := h
    (repeat (first | (apply WL.pure; rfl; rfl; rfl) | (apply WL.nil) | (apply EX.thenN) | (apply CW.seq) | (apply CW.region) | (apply WL.pass; rfl; rfl) | (apply CW.condT; rfl) | (apply CW.ret) | (apply EX.thenR)))
    refine EX.ret1 rfl rfl ⟨?_, hE⟩
    rw [if_pos (.inl h8)]
  have h8 := h
  (repeat (first | (apply WL.makeFunc; rfl; rfl; rfl; rfl) | (apply WL.fa; rfl; rfl; rfl) | (apply WL.ld; rfl; rfl; rfl; assumption; rfl)))
  refine WL.call rfl rfl rfl (containsFunc_ll w5 (oddB nx.length) (h5.up hE) (fun w hw i hi u hu => ?_)) ?_
  · obtain ⟨lo, lc, rfl, hl⟩ := hu.sl
    exact FnV.mk (Rt.mono (achk2 w nx.length _ (hb3.ext hw) (hl.lift fun b hb => Nat.lt_of_lt_of_le hb hw.size)) fun v w' h => h)
  rintro _ w6 ⟨rfl, e6⟩
  have hb1 := hb1.ext e6
  have hb3 := hb3.ext e6
  have hE := hE.trans e6
  (repeat (first | (apply WL.pure; rfl; rfl; rfl) | (apply WL.nil) | (apply EX.thenN)))
  refine CW.cond rfl (fun h9 => ?_) (fun h9 => ?_)
  · (repeat (first | (apply WL.pure; rfl; rfl; rfl) | (apply WL.nil) | (apply EX.thenN) | (apply CW.seq) | (apply CW.region) | (apply CW.ret) | (apply EX.thenR)))
    refine EX.ret1 rfl rfl ⟨?_, hE⟩
    rw [if_pos (.inr h9)]
  (repeat (first | (apply WL.pure; rfl; rfl; rfl) | (apply WL.nil) | (apply EX.thenN) | (apply CW.seq) | (apply CW.region) | (apply CW.ret) | (apply CW.skip)))
  refine EX.ret1 rfl rfl ⟨?_, hE⟩
  rw [if_neg (by rw [h8, h9]; simp)]
theorem getDN_at {l : List Nat} {k : Nat} (h : k < l.length) : l.getD k 0 = l[k] := by rw [List.getD_eq_getElem?_getD, List.getElem?_eq_getElem h]; rfl
theorem Fits_ok (w0 : World) {a1 a2 a3 a4 a5 : Option Addr} {c1 c2 c3 c4 c5 n1 n2 n5 : Nat} {mu no : List Nat} (h3 : Sl w0 (Old w0) a3 c3 mu) (h4 : Sl w0 (Old w0) a4 c4 no) (k x : Nat) (hk : k < mu.length) (hk2 : k < no.length) (hx : x < 18446744073709551616) :
    Rt Try.prog 129 [autoV a1 c1 a2 c2 a3 c3 a4 c4 a5 c5 n1 n2 mu.length no.length n5, .int .i64 (k : Int), .int .u64 (x : Int)].toArray w0 fun v w' => v = .bool (fitB mu no k x) ∧ Ext w0 w' := by
  refine Rt.enter3 Try.func129 Try.ntmps129 rfl rfl ?_
  (repeat (first | (apply CW.seq) | (apply CW.region)))
  refine WL.boxB rfl rfl rfl fun w1 hb e1 => ?_
  have h3 := h3.up e1
  have h4 := h4.up e1
  (repeat (first | (apply WL.pure; rfl; rfl; rfl) | (apply QL.pure; rfl; rfl; rfl) | (apply WL.nil) | (apply EX.thenN) | (apply CW.seq) | (apply QL.fa; rfl; rfl; rfl) | (apply QL.ld; rfl; rfl; rfl; assumption; rfl) | (apply CW.draw; exact mixed; kernel_rfl)))
  refine QL.elemN rfl rfl rfl rfl rfl (fun _ h => h) h3 hk (fun _ => rfl) (fun u q hu => ?_)
  obtain ⟨rfl, hu1⟩ := hu.u64
  (repeat (first | (apply QL.pure; rfl; rfl; rfl) | (apply QL.fa; rfl; rfl; rfl) | (apply QL.ld; rfl; rfl; rfl; assumption; rfl)))
  rw [bits_and_u64_nat _ _ hx hu1]
  refine QL.elemN rfl rfl rfl rfl rfl (fun _ h => h) h3 hk (fun _ => rfl) (fun u q' hu => ?_)
  obtain ⟨rfl, _⟩ := hu.u64
  (repeat (apply QL.pure; rfl; rfl; rfl))
  unfold fitB
  rw [getDN_at hk, getDN_at hk2]
  (refine QL.lookG rfl rfl (fun h => ?_) (fun h => ?_))
  · simp only [beq_iff_eq] at h
    have h : x &&& mu[k] = mu[k] := by exact_mod_cast h
    rw [decide_eq_true h, Bool.true_and]
    (repeat (first | (apply QL.pure; rfl; rfl; rfl) | (apply QL.fa; rfl; rfl; rfl) | (apply QL.ld; rfl; rfl; rfl; assumption; rfl)))
    refine QL.elemN rfl rfl rfl rfl rfl (fun _ h => h) h4 hk2 (fun _ => rfl) (fun u q' hu => ?_)
    obtain ⟨rfl, hu2⟩ := hu.u64
    (repeat (apply QL.pure; rfl; rfl; rfl))
    rw [bits_and_u64_nat _ _ hx hu2]
    refine QL.nil (fun w2 e2 => ?_)
    (repeat (first | (apply EX.thenN) | (apply CW.ret)))
    refine EX.ret1 rfl rfl ⟨?_, e1.trans e2⟩
    congr 1
    rw [Bool.eq_iff_iff, beq_iff_eq, decide_eq_true_iff]
    exact_mod_cast Iff.rfl
  · have h : ¬ x &&& mu[k] = mu[k] := by
      intro e; rw [e] at h; simp at h
    rw [decide_eq_false h, Bool.false_and]
    (repeat (first | (apply QL.pure; rfl; rfl; rfl) | (apply QL.pass; rfl; rfl)))
    refine QL.nil (fun w2 e2 => ?_)
    (repeat (first | (apply EX.thenN) | (apply CW.ret)))
    exact EX.ret1 rfl rfl ⟨rfl, e1.trans e2⟩
theorem member_ok (w0 : World) {F : Nat → Prop} {lo : Option Addr} {lc : Nat} {l : List Int} (hl : Sl w0 F lo lc l) (hF : ∀ b, F b → b < w0.heap.size) (n : Nat) (hn : n ≤ 1099511627776) (hok : okL n l) :
    Rt Try.prog 65 [.slice lo l.length lc, .int .i64 (n : Int)].toArray w0 fun v w' => Own w' w0.heap.size 4 Non v (memL n l) ∧ Ext w0 w' := by
  have hm := hl.len63
  refine Rt.enter2 Try.func65 Try.ntmps65 rfl rfl ?_
  (repeat (first | (apply WL.pure; rfl; rfl; rfl) | (apply WL.nil) | (apply EX.thenN) | (apply CW.seq) | (apply CW.region)))
  refine WL.make (α := Bool) rfl rfl rfl rfl (by omega) (by unfold maxLen; omega) (fun w1 ho1 hg1 => ?_)
  have hE1 : Ext w0 w1 := (Below.refl _ _).grown hg1 (Nat.le_refl _) (fun k h => by cases h)
  generalize hsv : Value.slice (some ⟨w0.heap.size, 0, none⟩) n n = sv at *
  rw [← memL_nil] at ho1
  (repeat (first | (apply WL.pure; rfl; rfl; rfl) | (apply WL.nil) | (apply EX.thenN) | (apply CW.seq) | (apply CW.region) | (apply WL.lenS; rfl; rfl; rfl) | (apply CW.block)))
  refine CW.loop (S := Nat) (fun i => [(5, sv), (10, .slice lo l.length lc), (11, .int .i64 l.length), (12, .int .i64 i)])
    (fun i w => i ≤ l.length ∧ Own w w0.heap.size 4 Non sv (memL n (l.take i)) ∧ Ext w0 w) (fun i => l.length - i) 0 (by repeat (first | exact trivial | refine ⟨rfl, ?_⟩)) ⟨by omega, ho1, hE1⟩ ?_
  rintro i w2 ⟨hi, ho, hE⟩
  (repeat (first | (apply WL.pure; rfl; rfl; rfl) | (apply WL.nil) | (apply EX.thenN) | (apply CW.seq) | (apply CW.region)))
  refine CW.cond rfl (fun h => ?_) (fun h => ?_)
  · simp at h
    have hk := hok _ (List.getElem_mem h)
    obtain ⟨k, ek⟩ := Int.eq_ofNat_of_zero_le hk.1
    have hkn : k < (memL n (l.take i)).length := by rw [memL_len]; omega
    (repeat (first | (apply EX.thenN) | (apply CW.seq) | (apply CW.region) | (apply CW.block) | (apply CW.skip)))
    refine WL.elemI rfl rfl rfl rfl rfl (hl.up0 hE hF) h ek (fun _ => rfl) (fun q => ?_)
    (repeat (first | (apply WL.pure; rfl; rfl; rfl) | (apply WL.nil) | (apply EX.thenN) | (apply CW.region)))
    refine WL.setN (u := .bool true) (yv := true) rfl rfl rfl rfl ho hkn (fun _ => rfl) (fun _ => rfl) (Rd.mkBool _ _ _) (fun w3 q2 ho3 hg3 => ?_)
    rw [memL_next h ek] at ho3
    have hE3 : Ext w0 w3 := hE.grown hg3 hE.size (fun b hb => (ho.lt b hb).1)
    (repeat (first | (apply WL.add; rfl; rfl; rfl; rfl; omega; omega) | (apply WL.pure; rfl; rfl; rfl) | (apply WL.nil) | (apply EX.thenN) | (apply CW.region) | (apply EX.inN)))
    exact EX.back (i + 1) (by repeat (first | exact trivial | refine ⟨rfl, ?_⟩)) ⟨h, ho3, hE3⟩ (by omega)
  · simp at h
    obtain rfl : i = l.length := by omega
    rw [List.take_length] at ho
    (repeat (first | (apply WL.pure; rfl; rfl; rfl) | (apply WL.nil) | (apply EX.thenN) | (apply CW.seq) | (apply CW.region) | (apply CW.exit) | (apply EX.thenX) | (apply EX.inX) | (apply CW.ret)))
    exact EX.ret1 rfl rfl ⟨ho, hE⟩
end Go.Proofs.Ythefpigolikmeaa
