import Derived.Test.YtljcnopekjinjaaPtSpaceRoute4
/-
  Package proc: Named, nodes, counts, ins, outs: walked.
-/
set_option linter.unusedVariables false
set_option linter.unusedSimpArgs false
namespace Go.Proofs.Ytljcnopekjinjaa
open Go.RowKit

abbrev procV (so : Option Addr) (sc : Nat) (fo : Option Addr) (fc : Nat) (n m : Nat) : Value := .agg [.slice so n sc, .slice fo m fc].toArray
theorem Rd.proc {w : World} {F : Nat → Prop} {v : Value} {x : LProc} (h : Rd w F v x) : ∃ so sc fo fc, v = procV so sc fo fc x.1.length x.2.length ∧ Sl w F so sc x.1 ∧ Sl w F fo fc x.2 := by
  obtain ⟨c1, c2, rfl, h1, h2⟩ := h.pr
  obtain ⟨so, sc, rfl, k1⟩ := rd_sl h1
  obtain ⟨lo, lc, rfl, k2⟩ := rd_sl h2
  exact ⟨so, sc, lo, lc, rfl, k1, k2⟩
theorem Rd.flow {w : World} {F : Nat → Prop} {v : Value} {x : LFlow} (h : Rd w F v x) : v = .agg [.int .i64 x.1, .int .i64 x.2].toArray := by
  obtain ⟨c1, c2, rfl, h1, h2⟩ := h.pr
  rw [rd_int h1, rd_int h2]; rfl
theorem Rd.node {w : World} {F : Nat → Prop} {v : Value} {x : LNode} (h : Rd w F v x) : v = .agg [.string x.1, .int .i64 x.2].toArray := by
  obtain ⟨c1, c2, rfl, h1, h2⟩ := h.pr
  rw [rd_int h2, h1.1]; rfl
theorem getDF_at {l : List LFlow} {j : Nat} (h : j < l.length) : l.getD j (0, 0) = l[j] := by rw [List.getD_eq_getElem?_getD, List.getElem?_eq_getElem h]; rfl
theorem getDNd_at {l : List LNode} {j : Nat} (h : j < l.length) : l.getD j (⟨#[]⟩, 0) = l[j] := by rw [List.getD_eq_getElem?_getD, List.getElem?_eq_getElem h]; rfl
theorem size_len (s : ByteArray) : s.data.toList.length = s.size := by simp
theorem Named_ok (w0 : World) (s : ByteArray) : Rt Try.prog 110 [.string s].toArray w0 fun v w' => v = .bool (namedB s) ∧ Ext w0 w' := by
  refine Rt.enter1 Try.func110 Try.ntmps110 rfl rfl ?_
  unfold namedB namedL
  (repeat (first | (apply WL.pure; rfl; rfl; rfl) | (apply WL.nil) | (apply EX.thenN) | (apply CW.seq) | (apply CW.region)))
  by_cases h1 : (s.data.toList == []) = true
  · rw [show (s.data.toList == (ByteArray.mk #[]).data.toList) = true from h1]
    (repeat (first | (apply WL.pure; rfl; rfl; rfl) | (apply WL.nil) | (apply EX.thenN) | (apply CW.seq) | (apply CW.region) | (apply WL.pass; rfl; rfl) | (apply CW.condT; rfl) | (apply CW.ret) | (apply EX.thenR)))
    refine EX.ret1 rfl rfl ⟨?_, Ext.refl _⟩
    rfl
  have h1 : (s.data.toList == []) = false := by simpa using h1
  rw [show (s.data.toList == (ByteArray.mk #[]).data.toList) = false from h1]
  try rw [h1]
  (repeat (apply WL.pure; rfl; rfl; rfl))
  refine WL.lenT rfl rfl rfl ?_
  rw [← size_len]
  (repeat (apply WL.pure; rfl; rfl; rfl))
  by_cases h2 : decide ((s.data.toList.length : Int) > 8) = true
  · rw [h2]
    (repeat (first | (apply WL.pure; rfl; rfl; rfl) | (apply WL.nil) | (apply EX.thenN) | (apply CW.seq) | (apply CW.region) | (apply WL.pass; rfl; rfl) | (apply CW.condT; rfl) | (apply CW.ret) | (apply EX.thenR)))
    exact EX.ret1 rfl rfl ⟨rfl, Ext.refl _⟩
  have h2 : decide ((s.data.toList.length : Int) > 8) = false := by simpa using h2
  rw [h2]
  (repeat (apply WL.pure; rfl; rfl; rfl))
  by_cases h3 : (s.data.toList == [116, 114, 117, 101]) = true
  · rw [show (s.data.toList == (ByteArray.mk #[116, 114, 117, 101]).data.toList) = true from h3]
    try rw [h3]
    (repeat (first | (apply WL.pure; rfl; rfl; rfl) | (apply WL.nil) | (apply EX.thenN) | (apply CW.seq) | (apply CW.region) | (apply WL.pass; rfl; rfl) | (apply CW.condT; rfl) | (apply CW.ret) | (apply EX.thenR)))
    exact EX.ret1 rfl rfl ⟨rfl, Ext.refl _⟩
  have h3 : (s.data.toList == [116, 114, 117, 101]) = false := by simpa using h3
  rw [show (s.data.toList == (ByteArray.mk #[116, 114, 117, 101]).data.toList) = false from h3]
  try rw [h3]
  (repeat (apply WL.pure; rfl; rfl; rfl))
  by_cases h4 : (s.data.toList == [102, 97, 108, 115, 101]) = true
  · rw [show (s.data.toList == (ByteArray.mk #[102, 97, 108, 115, 101]).data.toList) = true from h4]
    try rw [h4]
    (repeat (first | (apply WL.pure; rfl; rfl; rfl) | (apply WL.nil) | (apply EX.thenN) | (apply CW.seq) | (apply CW.region) | (apply WL.pass; rfl; rfl) | (apply CW.condT; rfl) | (apply CW.ret) | (apply EX.thenR)))
    exact EX.ret1 rfl rfl ⟨rfl, Ext.refl _⟩
  have h4 : (s.data.toList == [102, 97, 108, 115, 101]) = false := by simpa using h4
  rw [show (s.data.toList == (ByteArray.mk #[102, 97, 108, 115, 101]).data.toList) = false from h4]
  try rw [h4]
  (repeat (first | (apply WL.pure; rfl; rfl; rfl) | (apply WL.nil) | (apply EX.thenN)))
  by_cases h5 : (s.data.toList == [115, 105, 108, 101, 110, 116]) = true
  · rw [show (s.data.toList == (ByteArray.mk #[115, 105, 108, 101, 110, 116]).data.toList) = true from h5]
    try rw [h5]
    (repeat (first | (apply WL.pure; rfl; rfl; rfl) | (apply WL.nil) | (apply EX.thenN) | (apply CW.seq) | (apply CW.region) | (apply CW.condT; rfl) | (apply CW.ret) | (apply EX.thenR)))
    exact EX.ret1 rfl rfl ⟨rfl, Ext.refl _⟩
  have h5 : (s.data.toList == [115, 105, 108, 101, 110, 116]) = false := by simpa using h5
  rw [show (s.data.toList == (ByteArray.mk #[115, 105, 108, 101, 110, 116]).data.toList) = false from h5]
  try rw [h5]
  simp only [Bool.not_false, Bool.true_and]
  have h8 : s.size ≤ 8 := by have := size_len s; simp at h2; omega
  (repeat (first | (apply WL.pure; rfl; rfl; rfl) | (apply EX.thenN) | (apply CW.seq) | (apply CW.region) | (apply CW.condF; rfl) | (apply CW.skip)))
  refine WL.lenT rfl rfl rfl ?_
  (repeat (first | (apply WL.pure; rfl; rfl; rfl) | (apply WL.nil) | (apply EX.thenN) | (apply CW.block)))
  refine CW.loop (S := Nat) (fun i => [(0, .string s), (24, .int .i64 s.size), (25, .int .i64 i)])
    (fun i w => i ≤ s.size ∧ w = w0 ∧ ∀ j (h : j < s.size), j < i → lowB s[j] = true) (fun i => s.size - i) 0 (by repeat (first | exact trivial | refine ⟨rfl, ?_⟩)) ⟨by omega, rfl, by omega⟩ ?_
  rintro i w ⟨hi, rfl, hn⟩
  have hget : ∀ j (h : j < s.size), s.data.toList[j]'(by rw [size_len]; exact h) = s[j] := fun j h => by simp; rfl
  (repeat (first | (apply WL.pure; rfl; rfl; rfl) | (apply WL.nil) | (apply EX.thenN) | (apply CW.seq) | (apply CW.region)))
  refine CW.cond rfl (fun h => ?_) (fun h => ?_)
  · have hi' : i < s.size := by simp at h; omega
    have hbad : lowB s[i] = false → s.data.toList.all lowB = false := fun hb => by
      rw [List.all_eq_false]
      exact ⟨_, List.getElem_mem (by rw [size_len]; exact hi'), by rw [hget i hi', hb]; simp⟩
    (repeat (first | (apply WL.pure; rfl; rfl; rfl) | (apply WL.nil) | (apply EX.thenN) | (apply CW.seq) | (apply CW.region) | (apply CW.block) | (apply CW.skip)))
    refine WL.byteT rfl rfl rfl rfl hi' ?_
    (repeat (apply WL.pure; rfl; rfl; rfl))
    by_cases hb1 : decide (((s[i].toNat : Nat) : Int) < 97) = true
    · rw [hb1]
      (repeat (first | (apply WL.pure; rfl; rfl; rfl) | (apply WL.nil) | (apply EX.thenN) | (apply CW.seq) | (apply CW.region) | (apply WL.pass; rfl; rfl) | (apply CW.condT; rfl) | (apply CW.ret) | (apply EX.thenR) | (apply EX.inR)))
      refine EX.ret1 rfl rfl ⟨?_, Ext.refl _⟩
      rw [hbad (by unfold lowB; rw [hb1]; rfl)]
    have hb1 : decide (((s[i].toNat : Nat) : Int) < 97) = false := by simpa using hb1
    rw [hb1]
    (repeat (apply WL.pure; rfl; rfl; rfl))
    refine WL.byteT rfl rfl rfl rfl hi' ?_
    (repeat (first | (apply WL.pure; rfl; rfl; rfl) | (apply WL.nil) | (apply EX.thenN)))
    refine CW.cond rfl (fun hb2 => ?_) (fun hb2 => ?_)
    · (repeat (first | (apply WL.pure; rfl; rfl; rfl) | (apply WL.nil) | (apply EX.thenN) | (apply CW.seq) | (apply CW.region) | (apply CW.ret) | (apply EX.thenR) | (apply EX.inR)))
      refine EX.ret1 rfl rfl ⟨?_, Ext.refl _⟩
      rw [hbad (by unfold lowB; rw [hb1, hb2]; rfl)]
    · (repeat (first | (apply WL.add; rfl; rfl; rfl; rfl; omega; omega) | (apply WL.pure; rfl; rfl; rfl) | (apply WL.nil) | (apply EX.thenN) | (apply CW.region) | (apply EX.inN) | (apply CW.skip)))
      refine EX.back (i + 1) (by repeat (first | exact trivial | refine ⟨rfl, ?_⟩)) ⟨hi', rfl, fun j hj hlt => ?_⟩ (by omega)
      by_cases e : j = i
      · subst e; unfold lowB; rw [hb1, hb2]; rfl
      · exact hn j hj (by omega)
  · have hi' : i = s.size := by simp at h; omega
    subst hi'
    (repeat (first | (apply WL.pure; rfl; rfl; rfl) | (apply WL.nil) | (apply EX.thenN) | (apply CW.seq) | (apply CW.region) | (apply CW.exit) | (apply EX.thenX) | (apply EX.inX) | (apply CW.ret)))
    refine EX.ret1 rfl rfl ⟨?_, Ext.refl _⟩
    rw [List.all_eq_true.2]
    intro x hx
    obtain ⟨j, hj, rfl⟩ := List.mem_iff_getElem.1 hx
    rw [size_len] at hj
    rw [hget j hj]
    exact hn j hj hj
theorem counts_ok (w0 : World) (k : Int) (i o : Nat) : Rt Try.prog 97 [.int .i64 k, .int .i64 (i : Int), .int .i64 (o : Int)].toArray w0 fun v w' => v = .bool (countsB k i o) ∧ w0 = w' := by
  refine Rt.enter3 Try.func97 Try.ntmps97 rfl rfl ?_
  have e0 : ∀ (a : Nat) (b : Nat), (((a : Int)) == (b : Int)) = decide (a = b) := fun a b => by rw [Bool.eq_iff_iff]; simp; omega
  have e1 : ∀ (a : Nat), decide ((a : Int) > 0) = decide (0 < a) := fun a => by rw [Bool.eq_iff_iff]; simp
  unfold countsB
  (repeat (first | (apply WL.pure; rfl; rfl; rfl) | (apply WL.nil) | (apply EX.thenN) | (apply CW.seq) | (apply CW.region) | (apply CW.block)))
  by_cases h1 : k = 1
  · subst h1
    (repeat (first | (apply WL.pure; rfl; rfl; rfl) | (apply EX.thenN) | (apply CW.seq) | (apply CW.region) | (apply CW.condT; rfl) | (apply CW.exit) | (apply EX.thenX) | (apply EX.inX)))
    by_cases hi : i = 0
    · subst hi
      (repeat (first | (apply WL.pure; rfl; rfl; rfl) | (apply WL.nil) | (apply EX.thenN) | (apply CW.ret) | (apply EX.thenR) | (apply EX.inR)))
      refine EX.ret1 rfl rfl ⟨?_, rfl⟩
      rw [show ((o : Int) == 1) = decide (o = 1) from e0 o 1]; simp
    · have : ((i : Int) == 0) = false := by simpa using hi
      rw [this]
      (repeat (first | (apply WL.pure; rfl; rfl; rfl) | (apply WL.nil) | (apply EX.thenN) | (apply WL.pass; rfl; rfl) | (apply CW.ret) | (apply EX.thenR) | (apply EX.inR)))
      refine EX.ret1 rfl rfl ⟨?_, rfl⟩
      simp [hi]
  have b1 : (k == 1) = false := by simpa using h1
  rw [if_neg h1, b1]
  (repeat (first | (apply WL.pure; rfl; rfl; rfl) | (apply WL.nil) | (apply EX.thenN) | (apply CW.seq) | (apply CW.region) | (apply CW.condF; rfl) | (apply CW.skip)))
  by_cases h2 : k = 2
  · subst h2
    (repeat (first | (apply WL.pure; rfl; rfl; rfl) | (apply EX.thenN) | (apply CW.seq) | (apply CW.region) | (apply CW.condT; rfl) | (apply CW.exit) | (apply EX.thenX) | (apply EX.inX) | (apply EX.inXne; rfl) | (apply CW.skip)))
    by_cases hi : 0 < i
    · rw [e1 i, decide_eq_true hi]
      (repeat (first | (apply WL.pure; rfl; rfl; rfl) | (apply WL.nil) | (apply EX.thenN) | (apply CW.ret) | (apply EX.thenR) | (apply EX.inR)))
      refine EX.ret1 rfl rfl ⟨?_, rfl⟩
      rw [show ((o : Int) == 0) = decide (o = 0) from e0 o 0]; simp
    · rw [e1 i, decide_eq_false hi]
      (repeat (first | (apply WL.pure; rfl; rfl; rfl) | (apply WL.nil) | (apply EX.thenN) | (apply WL.pass; rfl; rfl) | (apply CW.ret) | (apply EX.thenR) | (apply EX.inR)))
      refine EX.ret1 rfl rfl ⟨?_, rfl⟩
      simp
  have b2 : (k == 2) = false := by simpa using h2
  rw [b2]
  (repeat (first | (apply WL.pure; rfl; rfl; rfl) | (apply WL.nil) | (apply EX.thenN) | (apply CW.region) | (apply CW.condF; rfl)))
  by_cases h3 : k = 3
  · subst h3
    (repeat (first | (apply WL.pure; rfl; rfl; rfl) | (apply EX.thenN) | (apply CW.seq) | (apply CW.region) | (apply CW.condT; rfl) | (apply CW.exit) | (apply EX.thenX) | (apply EX.inX) | (apply EX.inXne; rfl)))
    by_cases hi : 0 < i
    · rw [e1 i, decide_eq_true hi]
      (repeat (first | (apply WL.pure; rfl; rfl; rfl) | (apply WL.nil) | (apply EX.thenN) | (apply CW.ret) | (apply EX.thenR) | (apply EX.inR)))
      refine EX.ret1 rfl rfl ⟨?_, rfl⟩
      rw [show ((o : Int) == 0) = decide (o = 0) from e0 o 0]; simp
    · rw [e1 i, decide_eq_false hi]
      (repeat (first | (apply WL.pure; rfl; rfl; rfl) | (apply WL.nil) | (apply EX.thenN) | (apply WL.pass; rfl; rfl) | (apply CW.ret) | (apply EX.thenR) | (apply EX.inR)))
      refine EX.ret1 rfl rfl ⟨?_, rfl⟩
      simp
  have b3 : (k == 3) = false := by simpa using h3
  rw [if_neg (by omega), b3]
  (repeat (first | (apply WL.pure; rfl; rfl; rfl) | (apply WL.nil) | (apply EX.thenN) | (apply CW.seq) | (apply CW.region) | (apply CW.condF; rfl) | (apply CW.skip)))
  by_cases h4 : k = 4
  · subst h4
    (repeat (first | (apply WL.pure; rfl; rfl; rfl) | (apply EX.thenN) | (apply CW.seq) | (apply CW.region) | (apply CW.condT; rfl) | (apply CW.exit) | (apply EX.thenX) | (apply EX.inX) | (apply EX.inXne; rfl)))
    by_cases hi : 0 < i
    · rw [e1 i, decide_eq_true hi]
      (repeat (first | (apply WL.pure; rfl; rfl; rfl) | (apply WL.nil) | (apply EX.thenN) | (apply CW.ret) | (apply EX.thenR) | (apply EX.inR)))
      refine EX.ret1 rfl rfl ⟨?_, rfl⟩
      rw [show ((o : Int) == 1) = decide (o = 1) from e0 o 1]; simp
    · rw [e1 i, decide_eq_false hi]
      (repeat (first | (apply WL.pure; rfl; rfl; rfl) | (apply WL.nil) | (apply EX.thenN) | (apply WL.pass; rfl; rfl) | (apply CW.ret) | (apply EX.thenR) | (apply EX.inR)))
      refine EX.ret1 rfl rfl ⟨?_, rfl⟩
      simp
  have b4 : (k == 4) = false := by simpa using h4
  rw [if_neg h4, b4]
  (repeat (first | (apply WL.pure; rfl; rfl; rfl) | (apply WL.nil) | (apply EX.thenN) | (apply CW.seq) | (apply CW.region) | (apply CW.condF; rfl) | (apply CW.skip)))
  by_cases h7 : k = 7
  · subst h7
    (repeat (first | (apply WL.pure; rfl; rfl; rfl) | (apply WL.nil) | (apply EX.thenN) | (apply CW.seq) | (apply CW.region) | (apply CW.condT; rfl) | (apply CW.exit) | (apply EX.thenX) | (apply EX.inX) | (apply EX.inXne; rfl)))
    refine CW.cond rfl (fun ho => ?_) (fun ho => ?_)
    · (repeat (first | (apply WL.pure; rfl; rfl; rfl) | (apply WL.nil) | (apply EX.thenN) | (apply CW.seq) | (apply CW.region) | (apply CW.ret) | (apply EX.thenR) | (apply EX.inR)))
      refine EX.ret1 rfl rfl ⟨?_, rfl⟩
      simp at ho
      simp; omega
    simp at ho
    (repeat (first | (apply WL.pure; rfl; rfl; rfl) | (apply EX.thenN) | (apply CW.seq) | (apply CW.region) | (apply EX.inN) | (apply CW.skip)))
    by_cases hi : 0 < i
    · rw [e1 i, decide_eq_true hi]
      (repeat (first | (apply WL.pure; rfl; rfl; rfl) | (apply WL.nil) | (apply EX.thenN) | (apply CW.ret) | (apply EX.thenR) | (apply EX.inR)))
      refine EX.ret1 rfl rfl ⟨?_, rfl⟩
      rw [e1 o]; simp; omega
    · rw [e1 i, decide_eq_false hi]
      (repeat (first | (apply WL.pure; rfl; rfl; rfl) | (apply WL.nil) | (apply EX.thenN) | (apply WL.pass; rfl; rfl) | (apply CW.ret) | (apply EX.thenR) | (apply EX.inR)))
      refine EX.ret1 rfl rfl ⟨?_, rfl⟩
      simp
  have b7 : (k == 7) = false := by simpa using h7
  rw [if_neg h7, b7]
  (repeat (first | (apply WL.pure; rfl; rfl; rfl) | (apply WL.nil) | (apply EX.thenN) | (apply CW.seq) | (apply CW.region) | (apply CW.condF; rfl) | (apply CW.skip)))
  by_cases h5 : k = 5
  · subst h5
    (repeat (first | (apply WL.pure; rfl; rfl; rfl) | (apply EX.thenN) | (apply CW.seq) | (apply CW.region) | (apply CW.condT; rfl) | (apply CW.exit) | (apply EX.thenX) | (apply EX.inX) | (apply EX.inXne; rfl) | (apply CW.skip)))
    by_cases hi : 0 < i
    · rw [e1 i, decide_eq_true hi]
      (repeat (first | (apply WL.pure; rfl; rfl; rfl) | (apply WL.nil) | (apply EX.thenN) | (apply CW.ret) | (apply EX.thenR) | (apply EX.inR)))
      refine EX.ret1 rfl rfl ⟨?_, rfl⟩
      rw [e1 o]; simp
    · rw [e1 i, decide_eq_false hi]
      (repeat (first | (apply WL.pure; rfl; rfl; rfl) | (apply WL.nil) | (apply EX.thenN) | (apply WL.pass; rfl; rfl) | (apply CW.ret) | (apply EX.thenR) | (apply EX.inR)))
      refine EX.ret1 rfl rfl ⟨?_, rfl⟩
      simp
  have b5 : (k == 5) = false := by simpa using h5
  rw [b5]
  (repeat (first | (apply WL.pure; rfl; rfl; rfl) | (apply WL.nil) | (apply EX.thenN) | (apply CW.region) | (apply CW.condF; rfl)))
  by_cases h6 : k = 6
  · subst h6
    (repeat (first | (apply WL.pure; rfl; rfl; rfl) | (apply EX.thenN) | (apply CW.seq) | (apply CW.region) | (apply CW.condT; rfl) | (apply CW.exit) | (apply EX.thenX) | (apply EX.inX) | (apply EX.inXne; rfl)))
    by_cases hi : 0 < i
    · rw [e1 i, decide_eq_true hi]
      (repeat (first | (apply WL.pure; rfl; rfl; rfl) | (apply WL.nil) | (apply EX.thenN) | (apply CW.ret) | (apply EX.thenR) | (apply EX.inR)))
      refine EX.ret1 rfl rfl ⟨?_, rfl⟩
      rw [e1 o]; simp
    · rw [e1 i, decide_eq_false hi]
      (repeat (first | (apply WL.pure; rfl; rfl; rfl) | (apply WL.nil) | (apply EX.thenN) | (apply WL.pass; rfl; rfl) | (apply CW.ret) | (apply EX.thenR) | (apply EX.inR)))
      refine EX.ret1 rfl rfl ⟨?_, rfl⟩
      simp
  have b6 : (k == 6) = false := by simpa using h6
  rw [if_neg (by omega), b6]
  (repeat (first | (apply WL.pure; rfl; rfl; rfl) | (apply WL.nil) | (apply EX.thenN) | (apply CW.seq) | (apply CW.region) | (apply CW.condF; rfl) | (apply CW.exit) | (apply EX.thenX) | (apply EX.inX) | (apply EX.inXne; rfl) | (apply CW.ret) | (apply CW.skip)))
  exact EX.ret1 rfl rfl ⟨rfl, rfl⟩
theorem ins_ok (w0 : World) {so fo : Option Addr} {sc fc k : Nat} {fl : List LFlow} (hf : Sl w0 (Old w0) fo fc fl) (n : Int) (hl : fl.length ≤ 1000) :
    Rt Try.prog 98 [procV so sc fo fc k fl.length, .int .i64 n].toArray w0 fun v w' => Own w' w0.heap.size 3 Non v (insL fl n) ∧ Ext w0 w' := by
  refine Rt.enter2 Try.func98 Try.ntmps98 rfl rfl ?_
  (repeat (first | (apply CW.seq) | (apply CW.region)))
  refine WL.boxB rfl rfl rfl fun w1 hb2 e1 => ?_
  (repeat (first | (apply WL.pure; rfl; rfl; rfl) | (apply WL.nil) | (apply EX.thenN) | (apply CW.seq) | (apply CW.region) | (apply WL.lenS; rfl; rfl; rfl) | (apply WL.fa; rfl; rfl; rfl) | (apply WL.ld; rfl; rfl; rfl; assumption; rfl) | (apply CW.block)))
  refine CW.loop (S := Nat × Value) (fun s => [(1, .int .i64 n), (2, .pointer (some ⟨w0.heap.size, 0, none⟩)), (5, s.2), (9, .slice fo fl.length fc), (10, .int .i64 fl.length), (11, .int .i64 s.1)])
    (fun s w => s.1 ≤ fl.length ∧ Own w w1.heap.size 3 Non s.2 (insP fl n s.1) ∧ Ext w1 w) (fun s => fl.length - s.1) (0, .slice none 0 0) (by repeat (first | exact trivial | refine ⟨rfl, ?_⟩)) ⟨Nat.zero_le _, Own.nil, Ext.refl _⟩ ?_
  rintro ⟨i, ov⟩ w2 ⟨hi, ho, e2⟩
  dsimp only at hi ho ⊢
  have hE := e1.trans e2
  have hpl := insP_len (fl := fl) (n := n) (k := i)
  have hnext := insP_next (fl := fl) (n := n) (k := i)
  (repeat (first | (apply WL.pure; rfl; rfl; rfl) | (apply WL.nil) | (apply EX.thenN) | (apply CW.seq) | (apply CW.region)))
  refine CW.cond rfl (fun h => ?_) (fun h => ?_)
  · have hi' : i < fl.length := by simp at h; omega
    rw [getDF_at hi'] at hnext
    (repeat (first | (apply WL.pure; rfl; rfl; rfl) | (apply EX.thenN) | (apply CW.seq) | (apply CW.region) | (apply CW.block) | (apply CW.skip)))
    refine WL.elemN rfl rfl rfl rfl rfl (hf.at hE) hi' (fun _ => rfl) (fun u q hu => ?_)
    obtain rfl := hu.flow
    skip
    refine WL.alloc rfl rfl (fun w3 hb7 e3 => ?_)
    (repeat (apply WL.pure; rfl; rfl; rfl))
    refine WL.st rfl rfl rfl hb7 rfl rfl (ones_of rfl) (fun w4 hb7 hg4 => ?_)
    have e4 : Ext w2 w4 := e3.grown hg4 e3.size (fun g hg => by cases hg; exact Nat.le_refl _)
    have ho := ho.extN e4
    have e4 := e2.trans e4
    (repeat (first | (apply WL.pure; rfl; rfl; rfl) | (apply WL.nil) | (apply EX.thenN) | (apply CW.seq) | (apply CW.region) | (apply WL.fa; rfl; rfl; rfl) | (apply WL.ld; rfl; rfl; rfl; assumption; rfl)))
    refine CW.cond rfl (fun h2 => ?_) (fun h2 => ?_)
    · rw [if_pos h2] at hnext
      (repeat (first | (apply WL.pure; rfl; rfl; rfl) | (apply CW.region)))
      refine WL.app1 (F := Non) (yv := (i : Int)) rfl rfl (fun _ => rfl) rfl rfl (fun _ => rfl) ho (Rd.mkInt _ _ _) e4.size (fun _ h => h.elim) (by decide) (by unfold maxLen; omega) (by omega) (fun v' w5 p ho5 hg5 hnb => ?_)
      rw [← hnext] at ho5
      have e5 : Ext w1 w5 := e4.grown hg5 e4.size (fun b hb => (ho.lt b hb).1)
      (repeat (first | (apply WL.add; rfl; rfl; rfl; rfl; omega; omega) | (apply WL.pure; rfl; rfl; rfl) | (apply WL.nil) | (apply EX.thenN) | (apply CW.region) | (apply EX.inN)))
      exact EX.back (i + 1, v') (by repeat (first | exact trivial | refine ⟨rfl, ?_⟩)) ⟨hi', ho5, e5⟩ (by dsimp only; omega)
    · rw [if_neg (by rw [h2]; simp), List.append_nil] at hnext
      (repeat (first | (apply WL.add; rfl; rfl; rfl; rfl; omega; omega) | (apply WL.pure; rfl; rfl; rfl) | (apply WL.nil) | (apply EX.thenN) | (apply CW.region) | (apply EX.inN) | (apply CW.skip)))
      exact EX.back (i + 1, ov) (by repeat (first | exact trivial | refine ⟨rfl, ?_⟩)) ⟨hi', by dsimp only; rw [hnext]; exact ho, e4⟩ (by dsimp only; omega)
  · obtain rfl : i = fl.length := by simp at h; omega
    (repeat (first | (apply WL.pure; rfl; rfl; rfl) | (apply WL.nil) | (apply EX.thenN) | (apply CW.seq) | (apply CW.region) | (apply CW.exit) | (apply EX.thenX) | (apply EX.inX) | (apply CW.ret)))
    exact EX.ret1 rfl rfl ⟨ho.low e1.size, hE⟩
theorem outs_ok (w0 : World) {so fo : Option Addr} {sc fc k : Nat} {fl : List LFlow} (hf : Sl w0 (Old w0) fo fc fl) (n : Int) (hl : fl.length ≤ 1000) :
    Rt Try.prog 62 [procV so sc fo fc k fl.length, .int .i64 n].toArray w0 fun v w' => Own w' w0.heap.size 3 Non v (outsL fl n) ∧ Ext w0 w' := by
  refine Rt.enter2 Try.func62 Try.ntmps62 rfl rfl ?_
  (repeat (first | (apply CW.seq) | (apply CW.region)))
  refine WL.boxB rfl rfl rfl fun w1 hb2 e1 => ?_
  (repeat (first | (apply WL.pure; rfl; rfl; rfl) | (apply WL.nil) | (apply EX.thenN) | (apply CW.seq) | (apply CW.region) | (apply WL.lenS; rfl; rfl; rfl) | (apply WL.fa; rfl; rfl; rfl) | (apply WL.ld; rfl; rfl; rfl; assumption; rfl) | (apply CW.block)))
  refine CW.loop (S := Nat × Value) (fun s => [(1, .int .i64 n), (2, .pointer (some ⟨w0.heap.size, 0, none⟩)), (5, s.2), (9, .slice fo fl.length fc), (10, .int .i64 fl.length), (11, .int .i64 s.1)])
    (fun s w => s.1 ≤ fl.length ∧ Own w w1.heap.size 3 Non s.2 (outsP fl n s.1) ∧ Ext w1 w) (fun s => fl.length - s.1) (0, .slice none 0 0) (by repeat (first | exact trivial | refine ⟨rfl, ?_⟩)) ⟨Nat.zero_le _, Own.nil, Ext.refl _⟩ ?_
  rintro ⟨i, ov⟩ w2 ⟨hi, ho, e2⟩
  dsimp only at hi ho ⊢
  have hE := e1.trans e2
  have hpl := outsP_len (fl := fl) (n := n) (k := i)
  have hnext := outsP_next (fl := fl) (n := n) (k := i)
  (repeat (first | (apply WL.pure; rfl; rfl; rfl) | (apply WL.nil) | (apply EX.thenN) | (apply CW.seq) | (apply CW.region)))
  refine CW.cond rfl (fun h => ?_) (fun h => ?_)
  · have hi' : i < fl.length := by simp at h; omega
    rw [getDF_at hi'] at hnext
    (repeat (first | (apply WL.pure; rfl; rfl; rfl) | (apply EX.thenN) | (apply CW.seq) | (apply CW.region) | (apply CW.block) | (apply CW.skip)))
    refine WL.elemN rfl rfl rfl rfl rfl (hf.at hE) hi' (fun _ => rfl) (fun u q hu => ?_)
    obtain rfl := hu.flow
    skip
    refine WL.alloc rfl rfl (fun w3 hb7 e3 => ?_)
    (repeat (apply WL.pure; rfl; rfl; rfl))
    refine WL.st rfl rfl rfl hb7 rfl rfl (ones_of rfl) (fun w4 hb7 hg4 => ?_)
    have e4 : Ext w2 w4 := e3.grown hg4 e3.size (fun g hg => by cases hg; exact Nat.le_refl _)
    have ho := ho.extN e4
    have e4 := e2.trans e4
    (repeat (first | (apply WL.pure; rfl; rfl; rfl) | (apply WL.nil) | (apply EX.thenN) | (apply CW.seq) | (apply CW.region) | (apply WL.fa; rfl; rfl; rfl) | (apply WL.ld; rfl; rfl; rfl; assumption; rfl)))
    refine CW.cond rfl (fun h2 => ?_) (fun h2 => ?_)
    · rw [if_pos h2] at hnext
      (repeat (first | (apply WL.pure; rfl; rfl; rfl) | (apply CW.region)))
      refine WL.app1 (F := Non) (yv := (i : Int)) rfl rfl (fun _ => rfl) rfl rfl (fun _ => rfl) ho (Rd.mkInt _ _ _) e4.size (fun _ h => h.elim) (by decide) (by unfold maxLen; omega) (by omega) (fun v' w5 p ho5 hg5 hnb => ?_)
      rw [← hnext] at ho5
      have e5 : Ext w1 w5 := e4.grown hg5 e4.size (fun b hb => (ho.lt b hb).1)
      (repeat (first | (apply WL.add; rfl; rfl; rfl; rfl; omega; omega) | (apply WL.pure; rfl; rfl; rfl) | (apply WL.nil) | (apply EX.thenN) | (apply CW.region) | (apply EX.inN)))
      exact EX.back (i + 1, v') (by repeat (first | exact trivial | refine ⟨rfl, ?_⟩)) ⟨hi', ho5, e5⟩ (by dsimp only; omega)
    · rw [if_neg (by rw [h2]; simp), List.append_nil] at hnext
      (repeat (first | (apply WL.add; rfl; rfl; rfl; rfl; omega; omega) | (apply WL.pure; rfl; rfl; rfl) | (apply WL.nil) | (apply EX.thenN) | (apply CW.region) | (apply EX.inN) | (apply CW.skip)))
      exact EX.back (i + 1, ov) (by repeat (first | exact trivial | refine ⟨rfl, ?_⟩)) ⟨hi', by dsimp only; rw [hnext]; exact ho, e4⟩ (by dsimp only; omega)
  · obtain rfl : i = fl.length := by simp at h; omega
    (repeat (first | (apply WL.pure; rfl; rfl; rfl) | (apply WL.nil) | (apply EX.thenN) | (apply CW.seq) | (apply CW.region) | (apply CW.exit) | (apply EX.thenX) | (apply EX.inX) | (apply CW.ret)))
    exact EX.ret1 rfl rfl ⟨ho.low e1.size, hE⟩
end Go.Proofs.Ytljcnopekjinjaa
/-
  slices.Index and slices.Contains at []bool.
-/
set_option linter.unusedVariables false
namespace Go.Proofs.Ytljcnopekjinjaa
open Go.RowKit
theorem index_bool (w0 : World) {ao : Option Addr} {cap : Nat} {xs : List Bool} (x : Bool) (hs : Sl w0 (Old w0) ao cap xs) :
    Rt Try.prog 88 [.slice ao xs.length cap, .bool x].toArray w0 fun v w' => v = .int .i64 (idxOf (fun y => x == y) xs) ∧ Ext w0 w' := by
  have hm := hs.len63
  refine Rt.enter2 Try.func88 Try.ntmps88 rfl rfl ?_
  (repeat (first | (apply WL.pure; rfl; rfl; rfl) | (apply WL.nil) | (apply EX.thenN) | (apply CW.seq) | (apply CW.region) | (apply WL.lenS; rfl; rfl; rfl) | (apply CW.block)))
  refine CW.loop (S := Nat) (fun k => [(0, .slice ao xs.length cap), (1, .bool x), (7, .int .i64 xs.length), (8, .int .i64 k)])
    (fun k w => k ≤ xs.length ∧ Ext w0 w ∧ ∀ j (h : j < xs.length), j < k → (x == xs[j]) = false) (fun k => xs.length - k) 0 (by repeat (first | exact trivial | refine ⟨rfl, ?_⟩)) ⟨by omega, Ext.refl _, by omega⟩ ?_
  rintro k w ⟨hk, hB, hn⟩
  (repeat (first | (apply WL.pure; rfl; rfl; rfl) | (apply WL.nil) | (apply EX.thenN) | (apply CW.seq) | (apply CW.region)))
  refine CW.cond rfl (fun h => ?_) (fun h => ?_)
  · simp at h
    (repeat (first | (apply WL.pure; rfl; rfl; rfl) | (apply WL.nil) | (apply EX.thenN) | (apply CW.seq) | (apply CW.region) | (apply CW.block) | (apply CW.skip)))
    refine WL.elemB rfl rfl rfl rfl rfl (hs.at hB) h rfl (fun _ => rfl) (fun q => ?_)
    (repeat (first | (apply WL.nil) | (apply EX.thenN) | (apply WL.eqB; rfl; rfl; rfl; rfl)))
    refine CW.cond rfl (fun h' => ?_) (fun h' => ?_)
    · (repeat (first | (apply WL.pure; rfl; rfl; rfl) | (apply WL.nil) | (apply EX.thenN) | (apply CW.seq) | (apply CW.region) | (apply CW.ret) | (apply EX.thenR) | (apply EX.inR)))
      refine EX.ret1 rfl rfl ⟨?_, hB⟩
      rw [idxOf_here h hn h']
    · (repeat (first | (apply WL.add; rfl; rfl; rfl; rfl; omega; omega) | (apply WL.pure; rfl; rfl; rfl) | (apply WL.nil) | (apply EX.thenN) | (apply CW.region) | (apply EX.inN) | (apply CW.skip)))
      refine EX.back (k + 1) (by repeat (first | exact trivial | refine ⟨rfl, ?_⟩)) ⟨h, hB, ?_⟩ (by omega)
      intro j hj hlt
      by_cases e : j = k
      · subst e; exact h'
      · exact hn j hj (by omega)
  · simp at h
    (repeat (first | (apply WL.pure; rfl; rfl; rfl) | (apply WL.nil) | (apply EX.thenN) | (apply CW.seq) | (apply CW.region) | (apply CW.exit) | (apply EX.thenX) | (apply EX.inX) | (apply CW.ret)))
    refine EX.ret1 rfl rfl ⟨?_, hB⟩
    rw [idxOf_none (fun j hj => hn j hj (by omega))]
theorem contains_bool (w0 : World) {ao : Option Addr} {cap : Nat} {xs : List Bool} (x : Bool) (hs : Sl w0 (Old w0) ao cap xs) :
    Rt Try.prog 99 [.slice ao xs.length cap, .bool x].toArray w0 fun v w' => v = .bool (xs.contains x) ∧ Ext w0 w' := by
  refine Rt.enter2 Try.func99 Try.ntmps99 rfl rfl ?_
  (repeat (first | (apply WL.pure; rfl; rfl; rfl) | (apply WL.nil) | (apply EX.thenN) | (apply CW.seq) | (apply CW.region)))
  refine WL.call rfl rfl rfl (index_bool w0 x hs) ?_
  rintro v w' ⟨rfl, hB⟩
  (repeat (first | (apply WL.pure; rfl; rfl; rfl) | (apply WL.nil) | (apply EX.thenN) | (apply CW.ret)))
  refine EX.ret1 rfl rfl ⟨?_, hB⟩
  rw [← List.any_beq, ← idxOf_any]
end Go.Proofs.Ytljcnopekjinjaa
/-
  Drawn regions in which several changes of memory may come in any order: a bag of operations, each of which only makes new memory. Over any program.
-/
set_option linter.unusedVariables false
set_option linter.unusedSimpArgs false
namespace Go.Proofs.Ytljcnopekjinjaa
open Go.RowKit

/-- whichever order: all of J come up first, then the order r -/
def bagB (ops : Array Oper) (r : List (Nat × Bool)) : Nat → List Nat → Array Bool → Bool
  | 0, J, listed => J.isEmpty && ordB ops r listed
  | k + 1, J, listed => (Region.ready .any ops listed).all (fun i => J.contains i) && !(Region.ready .any ops listed).isEmpty &&
      (Region.ready .any ops listed).all fun i => bagB ops r k (J.erase i) (listed.setIfInBounds i true)
def ordBagB (ops : Array Oper) (J : List Nat) (r : List (Nat × Bool)) : List (Nat × Bool) → Array Bool → Bool
  | [], listed => bagB ops r J.length J listed
  | (i, true) :: s, listed => (Region.ready .any ops listed).contains i && Region.free .any ops listed i && ordBagB ops J r s (listed.setIfInBounds i true)
  | (i, false) :: s, listed => decide (Region.ready .any ops listed = [i]) && ordBagB ops J r s (listed.setIfInBounds i true)
def bagOk (l : List Oper) (s : List (Nat × Bool)) (J : List Nat) (r : List (Nat × Bool)) : Bool :=
  Region.noSelect l.toArray && decide (s.length + J.length + r.length = l.length) && ordBagB l.toArray J r s (Array.replicate l.length false)

def Never : Exit → Act → World → Prop := fun _ _ _ => False
def wpBag (P : Program) (ops : List Oper) (S : World → Prop) (K : Act → World → Prop) : Nat → List Nat → Act → World → Prop
  | 0, _, a, w => K a w
  | k + 1, J, a, w => ∀ i ∈ J, ∃ o, ops[i]? = some o ∧ Region.wanted o (yielded ops.toArray a.tmps) = true ∧ o.wp P a w (fun a' w' => S w' ∧ wpBag P ops S K k (J.erase i) a' w') Never

theorem wp_exits {P : Program} {o : Oper} {a : Act} {w : World} {K : Act → World → Prop} {Q Q' : Exit → Act → World → Prop} (hq : ∀ e a w, e ≠ .normal → Q e a w → Q' e a w) (h : o.wp P a w K Q) : o.wp P a w K Q' := by
  unfold Oper.wp at *
  generalize (execOp a.eval o).run P w = r at *
  cases r with
  | ok k w' =>
    cases k <;> simp only [Oper.upon] at h ⊢ <;> first
      | exact h
      | (refine Calls.mono h (fun e w'' he => ?_); cases e <;> first | exact he | exact hq _ _ _ (by simp) he | (obtain ⟨a1, w1, hx⟩ := he; exact ⟨a1, w1, hq _ _ _ (by simp) hx⟩))
  | halt x w' => cases x <;> simp only [Oper.upon] at h ⊢ <;> first | exact h | exact hq _ _ _ (by simp) h

theorem wpBag_sound {P : Program} {ops : List Oper} {S : World → Prop} {Q : Act → World → Prop} (hs : Region.noSelect ops.toArray = true) (r : List (Nat × Bool)) :
    ∀ (k : Nat) (J : List Nat) (listed : Array Bool) (a : Act) (w : World), bagB ops.toArray r k J listed = true → S w → wpBag P ops S (wpHL P ops S Q r) k J a w → wpAnyH P .any ops.toArray (fun e a w => e = .normal ∧ Q a w) S (r.length + k) listed a w
  | 0, J, listed, a, w, hB, hS, h => by
    simp only [bagB, Bool.and_eq_true] at hB
    exact wpHL_sound hs r _ _ _ hB.2 hS h
  | k + 1, J, listed, a, w, hB, hS, h => by
    simp only [bagB, Bool.and_eq_true, List.all_eq_true, Bool.not_eq_true', List.isEmpty_eq_false_iff] at hB
    obtain ⟨⟨hin, hne⟩, hrec⟩ := hB
    refine wpAnyH_all rfl hne ?_
    intro i hi
    obtain ⟨o, ho, hw, hwp⟩ := h i (by simpa using hin i hi)
    unfold wpOp
    have ho' : ops.toArray[i]? = some o := by simpa using ho
    simp only [ho', hw, if_true]
    refine .inl (Oper.wp_mono (fun a' w' h' => ⟨h'.1, wpBag_sound hs r k (J.erase i) _ _ _ (hrec i hi) h'.1 h'.2⟩) (wp_exits (fun e a w _ hf => hf.elim) hwp))

theorem wpHLBag_sound {P : Program} {ops : List Oper} {S : World → Prop} {Q : Act → World → Prop} (hs : Region.noSelect ops.toArray = true) (J : List Nat) (r : List (Nat × Bool)) :
    ∀ (s : List (Nat × Bool)) (listed : Array Bool) (a : Act) (w : World), ordBagB ops.toArray J r s listed = true → S w → wpHL P ops S (fun a w => S w ∧ wpBag P ops S (wpHL P ops S Q r) J.length J a w) s a w → wpAnyH P .any ops.toArray (fun e a w => e = .normal ∧ Q a w) S (r.length + J.length + s.length) listed a w
  | [], listed, a, w, hB, hS, h => wpBag_sound hs r _ _ _ _ _ hB hS h.2
  | (i, true) :: s, listed, a, w, hB, hS, ⟨o, v, ho, hy, h⟩ => by
    simp only [ordBagB, Bool.and_eq_true] at hB
    exact wpAnyH_take (by simpa using ho) hs hB.1.2 hB.1.1 (fun _ _ _ h => by cases h.1) hy hS (wpHLBag_sound hs J r s _ _ _ hB.2 hS h)
  | (i, false) :: s, listed, a, w, hB, hS, ⟨o, ho, h⟩ => by
    simp only [ordBagB, Bool.and_eq_true, decide_eq_true_eq] at hB
    refine wpAnyH_all hB.1 (by simp) ?_
    intro j hj
    have hji : j = i := by simpa using hj
    subst hji
    have ho' : ops.toArray[j]? = some o := by simpa using ho
    unfold wpOp
    simp only [ho']
    split
    · rename_i hw
      rw [if_pos hw] at h
      exact .inl (Oper.wp_mono (fun a' w' h' => ⟨h'.1, wpHLBag_sound hs J r s _ _ _ hB.2 h'.1 h'.2⟩) (wp_exits (fun e a w hne hf => absurd hf.1 hne) h))
    · rename_i hw
      rw [if_neg hw] at h
      exact ⟨h.1, wpHLBag_sound hs J r s _ _ _ hB.2 h.1 h.2⟩

/-- one of the bag: its number, its slot, and what is so of its value from then on -/
structure BE where
  i : Nat
  d : Nat
  /-- of the value, the new blocks that came with it, and the world -/
  Φ : Value → (Nat → Prop) → World → Prop
/-- where the bag begins -/
def BagQ (P : Program) (ops : List Oper) (S : World → Prop) (Q : Exit → Act → World → Prop) (J : List Nat) (r : List (Nat × Bool)) : Exit → Act → World → Prop :=
  fun e a w => e = .normal ∧ (S w ∧ wpBag P ops S (wpHL P ops S (fun a w => Q .normal a w) r) J.length J a w)
/-- behind one of the bag -/
def AfterB (S : World → Prop) (w : World) (e : BE) : Exit → Act → World → Prop :=
  fun x a w' => x = .normal ∧ a.defers = [] ∧ S w' ∧ Ext w w' ∧ ∃ N, e.Φ (a.tmps.getD e.d undef) N w' ∧ ∀ b, N b → w.heap.size ≤ b ∧ b < w'.heap.size
/-- what one of the bag does, wherever it comes -/
def BC (P : Program) (L : List Oper) (S : World → Prop) (n : Nat) (σ : Sg) (e : BE) : Prop :=
  (∃ o, nthO L e.i = some o ∧ o.dst = some e.d ∧ gd L σ o = some true ∧ ∀ w, S w → WL P L (AfterB S w e) [o] n σ w) ∧ Nat.ble (e.d + 1) n = true ∧ fnd σ e.d = none ∧ ∀ v N w w', e.Φ v N w → Ext w w' → e.Φ v N w'
theorem EX.bagE {S : World → Prop} {w w' : World} {e : BE} {n : Nat} {σ : Sg} {v : Value} (N : Nat → Prop) (hv : fnd σ e.d = some v) (hS : S w') (hE : Ext w w') (hΦ : e.Φ v N w') (hN : ∀ b, N b → w.heap.size ≤ b ∧ b < w'.heap.size) : EX (AfterB S w e) .normal n σ w' := by
  unfold EX
  intro a ha
  exact ⟨rfl, ha.defers, hS, hE, by rw [ha.slot _ _ hv]; exact ⟨N, hΦ, hN⟩⟩
theorem bc_wp {P : Program} {L : List Oper} {S : World → Prop} {n : Nat} {σ : Sg} {e : BE} (h : BC P L S n σ e) {a : Act} {w : World} (ha : Fr n σ a) (hS : S w) :
    ∃ o, L[e.i]? = some o ∧ Region.wanted o (yielded L.toArray a.tmps) = true ∧ o.wp P a w (fun a' w' => S w' ∧ Ext w w' ∧ ∃ v N, a' = a.put (some e.d) v ∧ e.Φ v N w' ∧ ∀ b, N b → w.heap.size ≤ b ∧ b < w'.heap.size) Never := by
  obtain ⟨⟨o, ho, hd, hg, hw⟩, hn, hf, _⟩ := h
  rw [nthO_eq] at ho
  have hwa := gd_wanted ha hg
  refine ⟨o, ho, hwa, ?_⟩
  have h1 := hw w hS
  unfold WL at h1
  have h2 := h1 a ha
  simp only [wpList, hwa, if_true] at h2
  have hlt : e.d < n := Nat.le_of_ble_eq_true hn
  have hget : ∀ v, (a.put (some e.d) v).tmps.getD e.d undef = v := by
    intro v
    simp [Act.put, Array.getD, ha.size, hlt]
  rcases h2 with h2 | ⟨_, hl⟩
  · unfold Oper.wp at *
    obtain ⟨dst, op, ty, pos, af, g⟩ := o
    simp only at hd
    subst hd
    generalize (execOp a.eval _).run P w = r at *
    cases r with
    | ok k w' =>
      cases k <;> simp only [Oper.upon] at h2 ⊢ <;> first
        | exact ⟨h2.2.2.1, h2.2.2.2.1, by have := h2.2.2.2.2; rw [hget] at this; obtain ⟨N, h3, h4⟩ := this; exact ⟨_, N, rfl, h3, h4⟩⟩
        | (exfalso; have := h2.2.1; simp [Act.put] at this; done)
        | (refine Calls.mono h2 (fun x w'' he => ?_)
           cases x
           · exact ⟨he.2.2.1, he.2.2.2.1, by have := he.2.2.2.2; rw [hget] at this; obtain ⟨N, h3, h4⟩ := this; exact ⟨_, N, rfl, h3, h4⟩⟩
           · exact absurd he.1 (by simp)
           · obtain ⟨_, _, hx⟩ := he; exact absurd hx.1 (by simp))
        | exact Rows.mono h2 (fun v w'' he => ⟨he.2.2.1, he.2.2.2.1, by have := he.2.2.2.2; rw [hget] at this; obtain ⟨N, h3, h4⟩ := this; exact ⟨_, N, rfl, h3, h4⟩⟩)
        | exact h2
    | halt x w' => cases x <;> simp only [Oper.upon] at h2 ⊢ <;> first | exact h2 | exact absurd h2.1 (by simp)
  · obtain ⟨_, _, hx⟩ := hl
    exact absurd hx.1 (by simp)

/-- behind the bag: each slot holds a value of which its fact is so; what came with one did not come with another -/
def BagK (w' : World) (G : Sg → Prop) : List (Nat → Prop) → List BE → Sg → Prop
  | _, [], σ => G σ
  | D, e :: r, σ => ∀ v N, e.Φ v N w' → (∀ p ∈ D, ∀ b, p b → N b → False) → BagK w' G (N :: D) r ((e.d, v) :: σ)
theorem BagK.get {w' : World} {G : Sg → Prop} {n : Nat} {a : Act} (NN : Nat → Nat → Prop) : ∀ (E : List BE) {D : List (Nat → Prop)} {σ : Sg}, BagK w' G D E σ → Fr n σ a → (∀ e ∈ E, e.d < n ∧ e.Φ (a.tmps.getD e.d undef) (NN e.i) w') →
    (∀ e ∈ E, ∀ p ∈ D, ∀ b, p b → NN e.i b → False) → (E.map (·.i)).Nodup → (∀ e ∈ E, ∀ f ∈ E, e.i ≠ f.i → ∀ b, NN e.i b → NN f.i b → False) → ∃ τ, Fr n τ a ∧ G τ
  | [], D, σ, h, ha, _, _, _, _ => ⟨σ, ha, h⟩
  | e :: r, D, σ, h, ha, hE, hD, hnd, hP => by
    have he := hE e (by simp)
    rw [List.map_cons, List.nodup_cons] at hnd
    refine BagK.get NN r (h _ _ he.2 (hD e (by simp))) ?_ (fun x hx => hE x (by simp [hx])) ?_ hnd.2 (fun x hx y hy => hP x (by simp [hx]) y (by simp [hy]))
    rotate_left
    · intro x hx p hp b hb hx'
      rcases List.mem_cons.1 hp with rfl | hp
      · exact hP e (by simp) x (by simp [hx]) (fun hi => hnd.1 (by rw [hi]; exact List.mem_map_of_mem hx)) b hb hx'
      · exact hD x (by simp [hx]) p hp b hb hx'
    refine ⟨ha.size, ha.defers, fun t u hu => ?_⟩
    by_cases ht : e.d = t
    · subst ht; rw [fnd_cons_eq] at hu; cases hu; rfl
    · rw [fnd_cons_ne ht] at hu; exact ha.slot _ _ hu
def distB : List Nat → Bool
  | [] => true
  | x :: r => !r.contains x && distB r
theorem distB_nodup : ∀ {l : List Nat}, distB l = true → l.Nodup
  | [], _ => List.nodup_nil
  | x :: r, h => by
    simp only [distB, Bool.and_eq_true, Bool.not_eq_true'] at h
    rw [List.nodup_cons]
    exact ⟨by simpa using h.1, distB_nodup h.2⟩

def updN (NN : Nat → Nat → Prop) (i : Nat) (N : Nat → Prop) : Nat → Nat → Prop := fun j => if j = i then N else NN j
theorem updN_eq {NN : Nat → Nat → Prop} {i : Nat} {N : Nat → Prop} : updN NN i N i = N := if_pos rfl
theorem updN_ne {NN : Nat → Nat → Prop} {i : Nat} {N : Nat → Prop} {j : Nat} (h : j ≠ i) : updN NN i N j = NN j := if_neg h
theorem nodup_inj {β γ : Type} {f : β → γ} : ∀ {l : List β}, (l.map f).Nodup → ∀ x ∈ l, ∀ y ∈ l, f x = f y → x = y
  | [], _, x, hx, _, _, _ => by simp at hx
  | z :: r, h, x, hx, y, hy, e => by
    rw [List.map_cons, List.nodup_cons] at h
    rcases List.mem_cons.1 hx with h1 | h1
    · rcases List.mem_cons.1 hy with h2 | h2
      · rw [h1, h2]
      · exact absurd (show f z ∈ r.map f by rw [← h1, e]; exact List.mem_map_of_mem h2) h.1
    · rcases List.mem_cons.1 hy with h2 | h2
      · exact absurd (show f z ∈ r.map f by rw [← h2, ← e]; exact List.mem_map_of_mem h1) h.1
      · exact nodup_inj h.2 x h1 y h2 e
theorem wpBag_of {P : Program} {L : List Oper} {S : World → Prop} {n : Nat} {σ : Sg} {E : List BE} (hC : ∀ e ∈ E, BC P L S n σ e) (hd : (E.map (·.d)).Nodup) (hi : (E.map (·.i)).Nodup) {w0 : World} {K : Act → World → Prop}
    (hK : ∀ a w (NN : Nat → Nat → Prop), Fr n σ a → S w → Ext w0 w → (∀ e ∈ E, e.Φ (a.tmps.getD e.d undef) (NN e.i) w) → (∀ e ∈ E, ∀ f ∈ E, e.i ≠ f.i → ∀ b, NN e.i b → NN f.i b → False) → K a w) :
    ∀ (k : Nat) (J : List Nat) (a : Act) (w : World) (NN : Nat → Nat → Prop), J.length = k → J.Nodup → (∀ i ∈ J, i ∈ E.map (·.i)) → Fr n σ a → S w → Ext w0 w → (∀ e ∈ E, e.i ∉ J → e.Φ (a.tmps.getD e.d undef) (NN e.i) w ∧ ∀ b, NN e.i b → b < w.heap.size) →
      (∀ e ∈ E, ∀ f ∈ E, e.i ∉ J → f.i ∉ J → e.i ≠ f.i → ∀ b, NN e.i b → NN f.i b → False) → wpBag P L S K k J a w
  | 0, J, a, w, NN, hl, _, _, ha, hS, hE, hD, hP => hK a w NN ha hS hE (fun e he => (hD e he (by rw [List.eq_nil_of_length_eq_zero hl]; simp)).1) (fun e he f hf => hP e he f hf (by rw [List.eq_nil_of_length_eq_zero hl]; simp) (by rw [List.eq_nil_of_length_eq_zero hl]; simp))
  | k + 1, J, a, w, NN, hl, hnd, hsub, ha, hS, hE, hD, hP => by
    intro i hiJ
    obtain ⟨e, he, rfl⟩ := List.mem_map.1 (hsub i hiJ)
    obtain ⟨o, ho, hw, hwp⟩ := bc_wp (hC e he) ha hS
    refine ⟨o, ho, hw, Oper.wp_mono (fun a' w' h' => ?_) hwp⟩
    obtain ⟨hS', hE', v, N, rfl, hΦ, hN⟩ := h'
    have hn : e.d < n := Nat.le_of_ble_eq_true (hC e he).2.1
    have hf := (hC e he).2.2.1
    have hget : (a.put (some e.d) v).tmps.getD e.d undef = v := by simp [Act.put, Array.getD, ha.size, hn]
    have hoth : ∀ t, t ≠ e.d → (a.put (some e.d) v).tmps.getD t undef = a.tmps.getD t undef := by
      intro t ht
      simp only [Act.put, Array.getD_eq_getD_getElem?]
      rw [Array.getElem?_setIfInBounds_ne (Ne.symm ht)]
    have nne : updN NN e.i N e.i = N := updN_eq
    have nno : ∀ j, j ≠ e.i → updN NN e.i N j = NN j := fun j hj => updN_ne hj
    refine ⟨hS', wpBag_of hC hd hi hK k (J.erase e.i) _ _ (updN NN e.i N) (by rw [List.length_erase_of_mem hiJ, hl]; rfl) (hnd.erase _) (fun j hj => hsub j (List.mem_of_mem_erase hj)) ?_ hS' (hE.trans hE') ?_ ?_⟩
    · refine ⟨by simpa [Act.put] using ha.size, by simpa [Act.put] using ha.defers, fun t u hu => ?_⟩
      have : t ≠ e.d := fun h => by rw [h, hf] at hu; cases hu
      rw [hoth t this]; exact ha.slot t u hu
    · intro x hx hxJ
      by_cases hxe : x.d = e.d
      · have hxe' : x = e := nodup_inj hd x hx e he hxe
        subst hxe'
        rw [hget, nne]; exact ⟨hΦ, fun b hb => (hN b hb).2⟩
      · rw [hoth _ hxe]
        have hne : x.i ≠ e.i := fun hh => hxe (by rw [nodup_inj hi x hx e he hh])
        have h0 := hD x hx (fun hxJ' => hxJ ((List.mem_erase_of_ne hne).2 hxJ'))
        rw [nno _ hne]
        exact ⟨(hC x hx).2.2.2 _ _ _ _ h0.1 hE', fun b hb => Nat.lt_of_lt_of_le (h0.2 b hb) hE'.size⟩
    · intro x hx y hy hxJ hyJ hxy b hbx hby
      by_cases hxe : x.i = e.i
      · rw [hxe, nne] at hbx
        have hye : y.i ≠ e.i := fun h => hxy (by rw [hxe, h])
        rw [nno _ hye] at hby
        have h1 := (hD y hy (fun h => hyJ ((List.mem_erase_of_ne hye).2 h))).2 b hby
        have h2 := (hN b hbx).1
        omega
      · rw [nno _ hxe] at hbx
        have hxJ' : x.i ∉ J := fun h => hxJ ((List.mem_erase_of_ne hxe).2 h)
        by_cases hye : y.i = e.i
        · rw [hye, nne] at hby
          have h1 := (hD x hx hxJ').2 b hbx
          have h2 := (hN b hby).1
          omega
        · rw [nno _ hye] at hby
          exact hP x hx y hy hxJ' (fun h => hyJ ((List.mem_erase_of_ne hye).2 h)) hxy b hbx hby

section
variable {P : Program} {Q : Exit → Act → World → Prop} {n : Nat} {σ : Sg} {w : World} {L : List Oper} {S : World → Prop}
theorem CW.drawB {id : Nat} (S : World → Prop) (s : List (Nat × Bool)) (J : List Nat) (r : List (Nat × Bool)) (hm : P.follows .mixedOrders = true) (hB : bagOk L s J r = true) (hS : S (drew w)) (h : HL P L S (BagQ P L S Q J r) s n σ (drew w)) : CW P (.region id L.toArray true) Q n σ w := by
  unfold CW; unfold HL at h; intro a ha
  simp only [bagOk, Bool.and_eq_true, decide_eq_true_eq] at hB
  obtain ⟨⟨hs, hl⟩, hB⟩ := hB
  have h0 := h a ha
  have h0' : wpHL P L S (fun a w => S w ∧ wpBag P L S (wpHL P L S (fun a w => Q .normal a w) r) J.length J a w) s a (Go.Proofs.Ytljcnopekjinjaa.drew w) := by
    have : (fun a w => BagQ P L S Q J r .normal a w) = (fun a w => S w ∧ wpBag P L S (wpHL P L S (fun a w => Q .normal a w) r) J.length J a w) := by funext a w; simp [BagQ]
    rw [← this]; exact h0
  have h1 := wpHLBag_sound hs J r s (Array.replicate L.length false) a (Go.Proofs.Ytljcnopekjinjaa.drew w) hB hS h0'
  rw [show r.length + J.length + s.length = L.length by omega] at h1
  have h2 := wp_region_held (id := id) (S := S) hm (w := w) (ops := L.toArray) (by simpa using h1)
  exact wp_mono h2 (fun e a' w' ⟨he, hq⟩ => by subst he; exact hq)
/-- the bag -/
theorem EX.bag {J : List Nat} {r : List (Nat × Bool)} (E : List BE) (hJ : E.map (·.i) = J) (hdi : distB (E.map (·.i)) = true) (hdd : distB (E.map (·.d)) = true) (hS : S w) (hC : ∀ e ∈ E, BC P L S n σ e)
    (hK : ∀ w', S w' → Ext w w' → BagK w' (fun τ => HL P L S Q r n τ w') [] E σ) : EX (BagQ P L S Q J r) .normal n σ w := by
  unfold EX
  intro a ha
  subst hJ
  refine ⟨rfl, hS, ?_⟩
  refine wpBag_of hC (distB_nodup hdd) (distB_nodup hdi) (w0 := w) (fun a w' NN ha hS' hE hΦ hP => ?_) _ _ a w (fun _ _ => False) rfl (distB_nodup hdi) (fun i hi => hi) ha hS (Ext.refl _) (fun e he hn => absurd (List.mem_map_of_mem he) hn) (fun e he f hf hn => absurd (List.mem_map_of_mem he) hn)
  obtain ⟨τ, hτ, hG⟩ := BagK.get NN E (hK w' hS' hE) ha (fun e he => ⟨Nat.le_of_ble_eq_true (hC e he).2.1, hΦ e he⟩) (fun _ _ p hp => by simp at hp) (distB_nodup hdi) hP
  unfold HL at hG
  exact hG a hτ
end
end Go.Proofs.Ytljcnopekjinjaa
/-
  Drawn regions whose last operation is alone and may change what the others read: S need not hold behind it. Over any program.
-/
set_option linter.unusedVariables false
set_option linter.unusedSimpArgs false
namespace Go.Proofs.Ytljcnopekjinjaa
open Go.RowKit

/-- whatever order is picked; behind each operation but number e the condition S holds -/
def wpAnyE (P : Program) (ops : Array Oper) (Q : Exit → Act → World → Prop) (S : World → Prop) (e : Nat) : Nat → Array Bool → Act → World → Prop
  | 0, listed, a, w => Region.ready .any ops listed = [] ∧ Q .normal a w
  | k + 1, listed, a, w => (Region.ready .any ops listed = [] → Q .normal a w) ∧ ∀ i ∈ Region.ready .any ops listed, wpOp P ops Q i (fun a' w' => (i ≠ e → S w') ∧ wpAnyE P ops Q S e k (listed.setIfInBounds i true) a' w') a w
theorem wpAny_of_E {P : Program} {ops : Array Oper} {Q : Exit → Act → World → Prop} {S : World → Prop} {e : Nat} : ∀ (k : Nat) (listed : Array Bool) (a : Act) (w : World), wpAnyE P ops Q S e k listed a w → wpAny P .any ops Q k listed a w
  | 0, _, _, _, h => h
  | k + 1, _, _, _, h => ⟨h.1, fun i hi => wpOp_mono (fun a' w' h' => wpAny_of_E k _ a' w' h'.2) (h.2 i hi)⟩
/-- does number e wait for number i? -/
def waitsB (ops : Array Oper) (e i : Nat) : Bool := match ops[e]? with
  | some o => o.after.toList.any fun ed => Region.binds .any ed && (ed.on == i)
  | none => false
theorem waits_not {ops : Array Oper} {e i : Nat} {listed : Array Bool} (hw : waitsB ops e i = true) (hi : listed.getD i false = false) : e ∉ Region.ready .any ops listed := by
  intro he
  obtain ⟨_, o, ho, hall⟩ := mem_ready.1 he
  unfold waitsB at hw
  rw [ho] at hw
  obtain ⟨ed, h1, h2⟩ := List.any_eq_true.1 hw
  simp only [Bool.and_eq_true, beq_iff_eq] at h2
  have := hall ed (by simpa using h1) h2.1
  rw [h2.2, hi] at this
  cases this
theorem ready_open {ops : Array Oper} {i : Nat} {listed : Array Bool} (h : i ∈ Region.ready .any ops listed) : listed.getD i false = false := by
  have h0 := (mem_ready.1 h).1
  rcases Nat.lt_or_ge i listed.size with h' | h'
  · simp [h'] at h0 ⊢; exact h0
  · simp [h']
theorem wpAnyE_take {P : Program} {ops : Array Oper} {Q : Exit → Act → World → Prop} {S : World → Prop} {e i : Nat} {oi : Oper} {v : Value} (hoi : ops[i]? = some oi) (hs : Region.noSelect ops = true) (hne : i ≠ e) (hwt : waitsB ops e i = true) (hQ : ∀ c a w, Q (.panic c) (a.put oi.dst v) w → Q (.panic c) a w) :
    ∀ (k : Nat) (listed : Array Bool) (a : Act) (w : World), (∀ j oj, ops[j]? = some oj → j ≠ i → listed.getD j true = false → (∀ ed ∈ oj.after, Region.binds .any ed = true → ed.on ≠ i) → oi.apart ops oj = true) →
      i ∈ Region.ready .any ops listed → YieldsIf P ops S oi v a → S w → wpAnyE P ops Q S e k (listed.setIfInBounds i true) (a.put oi.dst v) w → wpAnyE P ops Q S e (k + 1) listed a w := by
  have hsel := Region.noSelect_spec hs
  intro k
  induction k with
  | zero =>
    intro listed a w _ hr hy hS H
    refine ⟨fun h => (by rw [h] at hr; cases hr), fun j hj => ?_⟩
    by_cases hji : j = i
    · subst hji; exact hy.wpOp hoi hS ⟨fun _ => hS, H⟩
    · have := ready_mono hj hji
      rw [H.1] at this
      cases this
  | succ k ih =>
    intro listed a w hfree hr hy hS H
    refine ⟨fun h => (by rw [h] at hr; cases hr), fun j hj => ?_⟩
    by_cases hji : j = i
    · subst hji; exact hy.wpOp hoi hS ⟨fun _ => hS, H⟩
    · have hje : j ≠ e := fun h => waits_not hwt (ready_open hr) (h ▸ hj)
      obtain ⟨hopen, oj, hoj, hall⟩ := mem_ready.1 hj
      have hno : ∀ ed ∈ oj.after, Region.binds .any ed = true → ed.on ≠ i := fun ed h1 h2 h3 => by
        have h4 := hall ed h1 h2
        rw [h3, ready_open hr] at h4
        cases h4
      have hput := wpOp_putIf hoj (hfree j oj hoj hji hopen hno) (fun cs b => hsel i oi cs b hoi) (fun cs b => hsel j oj cs b hoj) hQ hy (H.2 j (ready_mono hj hji))
      refine wpOp_mono (fun a' w' h3 => ⟨fun _ => h3.2.1 hje, ih (listed.setIfInBounds j true) a' w' (fun m om hm hmi hun hn => hfree m om hm hmi ?_ hn) (ready_mono hr (Ne.symm hji)) h3.1 (h3.2.1 hje) ?_⟩) hput
      · by_cases hjm : j = m
        · subst hjm; exact hopen
        · rw [getD_set_ne true hjm] at hun; exact hun
      · rw [Array.setIfInBounds_comm _ _ hji]
        exact h3.2.2

/-- the order: s, and then e alone -/
def ordE (ops : Array Oper) (e : Nat) : List (Nat × Bool) → Array Bool → Bool
  | [], listed => decide (Region.ready .any ops listed = [e]) && (Region.ready .any ops (listed.setIfInBounds e true)).isEmpty
  | (i, true) :: s, listed => (Region.ready .any ops listed).contains i && Region.free .any ops listed i && !(i == e) && waitsB ops e i && ordE ops e s (listed.setIfInBounds i true)
  | (i, false) :: s, listed => decide (Region.ready .any ops listed = [i]) && ordE ops e s (listed.setIfInBounds i true)
def ordEOk (l : List Oper) (s : List (Nat × Bool)) (e : Nat) : Bool := Region.noSelect l.toArray && decide (s.length + 1 = l.length) && ordE l.toArray e s (Array.replicate l.length false)
/-- number e, alone and last -/
def TailQ (P : Program) (ops : List Oper) (Q : Exit → Act → World → Prop) (e : Nat) : Exit → Act → World → Prop :=
  fun x a w => x = .normal ∧ ∃ o, ops[e]? = some o ∧ wpList P ops.toArray (fun x a w => x = .normal ∧ Q .normal a w) [o] a w
theorem wpHLe_sound {P : Program} {ops : List Oper} {S : World → Prop} {Q : Exit → Act → World → Prop} {e : Nat} (hs : Region.noSelect ops.toArray = true) :
    ∀ (s : List (Nat × Bool)) (listed : Array Bool) (a : Act) (w : World), ordE ops.toArray e s listed = true → S w → wpHL P ops S (fun a w => TailQ P ops Q e .normal a w) s a w → wpAnyE P ops.toArray (fun x a w => x = .normal ∧ Q .normal a w) S e (s.length + 1) listed a w
  | [], listed, a, w, hB, hS, h => by
    simp only [ordE, Bool.and_eq_true, decide_eq_true_eq, List.isEmpty_iff] at hB
    obtain ⟨_, o, ho, hl⟩ := h
    refine ⟨fun h0 => (by rw [hB.1] at h0; cases h0), fun i hi => ?_⟩
    rw [hB.1, List.mem_singleton] at hi
    subst hi
    have ho' : ops.toArray[i]? = some o := by simpa using ho
    unfold wpOp
    simp only [ho']
    simp only [wpList] at hl
    split
    · rename_i hw
      rw [if_pos hw] at hl
      exact hl.imp (Oper.wp_mono fun a' w' h' => ⟨fun h => absurd rfl h, hB.2, rfl, h'.2⟩) id
    · rename_i hw
      rw [if_neg hw] at hl
      exact ⟨fun h => absurd rfl h, hB.2, rfl, hl.2⟩
  | (i, true) :: s, listed, a, w, hB, hS, ⟨o, v, ho, hy, h⟩ => by
    simp only [ordE, Bool.and_eq_true, Bool.not_eq_true', beq_eq_false_iff_ne] at hB
    obtain ⟨⟨⟨⟨h1, h2⟩, h3⟩, h4⟩, h5⟩ := hB
    have ho' : ops.toArray[i]? = some o := by simpa using ho
    exact wpAnyE_take ho' hs h3 h4 (fun _ _ _ h => by cases h.1) _ _ _ _ (Region.free_spec ho' h2) (by simpa using h1) hy hS (wpHLe_sound hs s _ _ _ h5 hS h)
  | (i, false) :: s, listed, a, w, hB, hS, ⟨o, ho, h⟩ => by
    simp only [ordE, Bool.and_eq_true, decide_eq_true_eq] at hB
    refine ⟨fun h0 => (by rw [hB.1] at h0; cases h0), fun j hj => ?_⟩
    rw [hB.1, List.mem_singleton] at hj
    subst hj
    have ho' : ops.toArray[j]? = some o := by simpa using ho
    unfold wpOp
    simp only [ho']
    split
    · rename_i hw
      rw [if_pos hw] at h
      exact .inl (Oper.wp_mono (fun a' w' h' => ⟨fun _ => h'.1, wpHLe_sound hs s _ _ _ hB.2 h'.1 h'.2⟩) (wp_exits (fun x a w hne hf => absurd hf.1 hne) h))
    · rename_i hw
      rw [if_neg hw] at h
      exact ⟨fun _ => h.1, wpHLe_sound hs s _ _ _ hB.2 h.1 h.2⟩
section
variable {P : Program} {Q : Exit → Act → World → Prop} {n : Nat} {σ : Sg} {w : World} {L : List Oper} {S : World → Prop}
theorem CW.drawE {id : Nat} (S : World → Prop) (s : List (Nat × Bool)) (e : Nat) (hm : P.follows .mixedOrders = true) (hB : ordEOk L s e = true) (hS : S (drew w)) (h : HL P L S (TailQ P L Q e) s n σ (drew w)) : CW P (.region id L.toArray true) Q n σ w := by
  unfold CW; unfold HL at h; intro a ha
  simp only [ordEOk, Bool.and_eq_true, decide_eq_true_eq] at hB
  obtain ⟨⟨hs, hl⟩, hB⟩ := hB
  have h1 := wpHLe_sound (Q := Q) hs s (Array.replicate L.length false) a (Go.Proofs.Ytljcnopekjinjaa.drew w) hB hS (h a ha)
  rw [hl] at h1
  have h2 : (Code.region id L.toArray true).wp P (fun x a w => x = .normal ∧ Q .normal a w) a w := wp_region_any hm (by simpa using wpAny_of_E _ _ _ _ h1)
  exact wp_mono h2 (fun e a' w' ⟨he, hq⟩ => by subst he; exact hq)
/-- the last operation, by the rule for its like -/
theorem EX.tail {e : Nat} {o : Oper} (ho : nthO L e = some o) (h : WL P L (fun x a w => x = .normal ∧ Q .normal a w) [o] n σ w) : EX (TailQ P L Q e) .normal n σ w := by
  unfold EX; unfold WL at h
  intro a ha
  rw [nthO_eq] at ho
  exact ⟨rfl, o, ho, h a ha⟩
theorem EX.tailE (h : EX Q .normal n σ w) : EX (fun x a w => x = .normal ∧ Q .normal a w) .normal n σ w := by
  unfold EX at *; exact fun a ha => ⟨rfl, h a ha⟩
end
section
variable {P : Program} {Q : Exit → Act → World → Prop} {n : Nat} {σ : Sg} {wc : World} {L : List Oper} {S : World → Prop} {i j d : Nat} {ty : TypeId} {pos : String} {af : Array Edge} {g : Option (Nat × Bool)} {ty' : TypeId} {pos' : String} {af' : Array Edge} {g' : Option (Nat × Bool)} {t e : TypeId} {x ix y : Operand}
variable {α : Type} [Rep α] {F : Nat → Prop}
/-- x[k] = y, of a slice that the call owns, as the region's last two operations -/
theorem HL.setTail {v u : Value} {B : Nat} {xs : List α} {yv : α} {k : Nat} {kd : IntKind}
    (ho1 : nthO L i = some ⟨some d, .indexAddr t x ix, ty, pos, af, g⟩) (ho2 : nthO L j = some ⟨none, .store e (.tmp d) y, ty', pos', af', g'⟩)
    (hg : gd L σ ⟨some d, .indexAddr t x ix, ty, pos, af, g⟩ = some true) (hd : Nat.ble (d + 1) n = true)
    (hx : ev σ x = some v) (hi : ev σ ix = some (.int kd (k : Int))) [hs : IsS P t e] [ht : IsT P e α] (hown : Own wc B e F v xs) (h1 : k < xs.length)
    (hg' : ∀ p, gd L ((d, .pointer p) :: σ) ⟨none, .store e (.tmp d) y, ty', pos', af', g'⟩ = some true) (hy : ∀ p, ev ((d, .pointer p) :: σ) y = some u) (hu : Rd wc F u yv)
    (h : ∀ w' p, Own w' B e F v (xs.set k yv) → wc.grownBy w' v.ownBlock → EX Q .normal n ((d, .pointer p) :: σ) w') :
    HL P L S (TailQ P L Q j) [(i, true)] n σ wc := by
  rcases hown with ⟨rfl, rfl⟩ | ⟨b, off, cap, cur, rfl, ho⟩
  · simp at h1
  · refine HL.idx (α := α) ho1 hg hd hx hi (by omega) (by omega) ?_
    obtain ⟨w', hr, ho', hgr⟩ := run_set (P := P) (v := u) (i := k) ho h1 hu
    refine HL.nil (EX.tail ho2 ?_)
    refine WL.runU (hg' _) (fun a ha => ?_) (WL.nil (EX.tailE (h w' _ ho' hgr)))
    have e1 := ha.ev (x := .tmp d) fnd_cons_eq
    have e2 := ha.ev (hy _)
    simp only [Int.toNat_natCast] at e1
    simp [execOp, e1, e2, Instr.storeAt, Instr.sureAddr, hr]
end
section
variable {P : Program} {Q : Exit → Act → World → Prop} {n : Nat} {σ : Sg} {w wc : World} {L : List Oper} {S : World → Prop} {ord : List (Nat × Bool)} {i d : Nat} {ty : TypeId} {pos : String} {af : Array Edge} {g : Option (Nat × Bool)} {t e : TypeId} {x : Operand} {b o : Nat} {cells : List Value}
/-- a field of a struct that nobody changes meanwhile -/
theorem HL.ldK {v : Value} (hK : ∀ w1, S w1 → w1.heap[b]? = w.heap[b]?) (ho : nthO L i = some ⟨some d, .load t x, ty, pos, af, g⟩) (hg : gd L σ ⟨some d, .load t x, ty, pos, af, g⟩ = some true) (hd : Nat.ble (d + 1) n = true) (hx : ev σ x = some (.pointer (some ⟨b, o, none⟩))) [hc : IsC P t 1 false] (hb : Blk w b e cells) (hv : nthV cells o = some v)
    (h : HL P L S Q ord n ((d, v) :: σ) wc) : HL P L S Q ((i, true) :: ord) n σ wc := by
  refine HL.run ho hg hd (fun a ha w' hsw => ?_) h
  have hb' : Blk w' b e cells := (hK w' hsw).trans hb
  simp [execOp, ha.ev hx, run_ld (P := P) (t := t) w' hb' hv]
end
end Go.Proofs.Ytljcnopekjinjaa
