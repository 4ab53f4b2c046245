/-
  Package proc: Named, nodes, counts, ins, outs: walked.
-/
import Derived.Test.YthojdcbpglipeaaProcPl
import Derived.Test.YthojdcbpglipeaaStrg
import Derived.Test.YthojdcbpglipeaaLib3
import Derived.Test.YthojdcbpglipeaaScc
set_option linter.unusedVariables false
set_option linter.unusedSimpArgs false
namespace Go.Proofs.Ythojdcbpglipeaa
open Go.RowKit

abbrev procV (so : Option Addr) (sc : Nat) (fo : Option Addr) (fc : Nat) (n m : Nat) : Value := .agg [.slice so n sc, .slice fo m fc].toArray
theorem Rd.proc {w : World} {F : Nat → Prop} {v : Value} {x : LProc} (h : Rd w F v x) : ∃ so sc fo fc, v = procV so sc fo fc x.1.length x.2.length ∧ Sl w F so sc x.1 ∧ Sl w F fo fc x.2 := by
  obtain ⟨c1, c2, rfl, h1, h2⟩ := h.pr
  obtain ⟨so, sc, rfl, k1⟩ := rd_sl h1
  obtain ⟨lo, lc, rfl, k2⟩ := rd_sl h2
  exact ⟨so, sc, lo, lc, rfl, k1, k2⟩
theorem Rd.flow {w : World} {F : Nat → Prop} {v : Value} {x : LFlow} (h : Rd w F v x) : v = .agg [.int .i64 x.1, .int .i64 x.2].toArray := by
  obtain ⟨c1, c2, rfl, h1, h2⟩ := h.pr
  rw [rd_int h1, rd_int h2]; rfl
theorem Rd.node {w : World} {F : Nat → Prop} {v : Value} {x : LNode} (h : Rd w F v x) : v = .agg [.string x.1, .int .i64 x.2].toArray := by
  obtain ⟨c1, c2, rfl, h1, h2⟩ := h.pr
  rw [rd_int h2, h1.1]; rfl
theorem getDF_at {l : List LFlow} {j : Nat} (h : j < l.length) : l.getD j (0, 0) = l[j] := by rw [List.getD_eq_getElem?_getD, List.getElem?_eq_getElem h]; rfl
theorem getDNd_at {l : List LNode} {j : Nat} (h : j < l.length) : l.getD j (⟨#[]⟩, 0) = l[j] := by rw [List.getD_eq_getElem?_getD, List.getElem?_eq_getElem h]; rfl
theorem size_len (s : ByteArray) : s.data.toList.length = s.size := by simp
theorem Named_ok (w0 : World) (s : ByteArray) : Rt Try.prog 177 [.string s].toArray w0 fun v w' => v = .bool (namedB s) ∧ Ext w0 w' := by
  refine Rt.enter1 Try.func177 Try.ntmps177 rfl rfl ?_
  unfold namedB namedL
  (repeat (first | (apply WL.pure; rfl; rfl; rfl) | (apply WL.nil) | (apply EX.thenN) | (apply CW.seq) | (apply CW.region)))
  by_cases h1 : (s.data.toList == []) = true
  · rw [show (s.data.toList == (ByteArray.mk #[]).data.toList) = true from h1]
    (repeat (first | (apply WL.pure; rfl; rfl; rfl) | (apply WL.nil) | (apply EX.thenN) | (apply CW.seq) | (apply CW.region) | (apply WL.pass; rfl; rfl) | (apply CW.condT; rfl) | (apply CW.ret) | (apply EX.thenR)))
    refine EX.ret1 rfl rfl ⟨?_, Ext.refl _⟩
    rfl
  have h1 : (s.data.toList == []) = false := by simpa using h1
  rw [show (s.data.toList == (ByteArray.mk #[]).data.toList) = false from h1]
  try rw [h1]
  (repeat (apply WL.pure; rfl; rfl; rfl))
  refine WL.lenT rfl rfl rfl ?_
  rw [← size_len]
  (repeat (apply WL.pure; rfl; rfl; rfl))
  by_cases h2 : decide ((s.data.toList.length : Int) > 8) = true
  · rw [h2]
    (repeat (first | (apply WL.pure; rfl; rfl; rfl) | (apply WL.nil) | (apply EX.thenN) | (apply CW.seq) | (apply CW.region) | (apply WL.pass; rfl; rfl) | (apply CW.condT; rfl) | (apply CW.ret) | (apply EX.thenR)))
    exact EX.ret1 rfl rfl ⟨rfl, Ext.refl _⟩
  have h2 : decide ((s.data.toList.length : Int) > 8) = false := by simpa using h2
  rw [h2]
  (repeat (apply WL.pure; rfl; rfl; rfl))
  by_cases h3 : (s.data.toList == [116, 114, 117, 101]) = true
  · rw [show (s.data.toList == (ByteArray.mk #[116, 114, 117, 101]).data.toList) = true from h3]
    try rw [h3]
    (repeat (first | (apply WL.pure; rfl; rfl; rfl) | (apply WL.nil) | (apply EX.thenN) | (apply CW.seq) | (apply CW.region) | (apply WL.pass; rfl; rfl) | (apply CW.condT; rfl) | (apply CW.ret) | (apply EX.thenR)))
    exact EX.ret1 rfl rfl ⟨rfl, Ext.refl _⟩
  have h3 : (s.data.toList == [116, 114, 117, 101]) = false := by simpa using h3
  rw [show (s.data.toList == (ByteArray.mk #[116, 114, 117, 101]).data.toList) = false from h3]
  try rw [h3]
  (repeat (apply WL.pure; rfl; rfl; rfl))
  by_cases h4 : (s.data.toList == [102, 97, 108, 115, 101]) = true
  · rw [show (s.data.toList == (ByteArray.mk #[102, 97, 108, 115, 101]).data.toList) = true from h4]
    try rw [h4]
    (repeat (first | (apply WL.pure; rfl; rfl; rfl) | (apply WL.nil) | (apply EX.thenN) | (apply CW.seq) | (apply CW.region) | (apply WL.pass; rfl; rfl) | (apply CW.condT; rfl) | (apply CW.ret) | (apply EX.thenR)))
    exact EX.ret1 rfl rfl ⟨rfl, Ext.refl _⟩
  have h4 : (s.data.toList == [102, 97, 108, 115, 101]) = false := by simpa using h4
  rw [show (s.data.toList == (ByteArray.mk #[102, 97, 108, 115, 101]).data.toList) = false from h4]
  try rw [h4]
  (repeat (first | (apply WL.pure; rfl; rfl; rfl) | (apply WL.nil) | (apply EX.thenN)))
  by_cases h5 : (s.data.toList == [115, 105, 108, 101, 110, 116]) = true
  · rw [show (s.data.toList == (ByteArray.mk #[115, 105, 108, 101, 110, 116]).data.toList) = true from h5]
    try rw [h5]
    (repeat (first | (apply WL.pure; rfl; rfl; rfl) | (apply WL.nil) | (apply EX.thenN) | (apply CW.seq) | (apply CW.region) | (apply CW.condT; rfl) | (apply CW.ret) | (apply EX.thenR)))
    exact EX.ret1 rfl rfl ⟨rfl, Ext.refl _⟩
  have h5 : (s.data.toList == [115, 105, 108, 101, 110, 116]) = false := by simpa using h5
  rw [show (s.data.toList == (ByteArray.mk #[115, 105, 108, 101, 110, 116]).data.toList) = false from h5]
  try rw [h5]
  simp only [Bool.not_false, Bool.true_and]
  have h8 : s.size ≤ 8 := by have := size_len s; simp at h2; omega
  (repeat (first | (apply WL.pure; rfl; rfl; rfl) | (apply EX.thenN) | (apply CW.seq) | (apply CW.region) | (apply CW.condF; rfl) | (apply CW.skip)))
  refine WL.lenT rfl rfl rfl ?_
  (repeat (first | (apply WL.pure; rfl; rfl; rfl) | (apply WL.nil) | (apply EX.thenN) | (apply CW.block)))
  refine CW.loop (S := Nat) (fun i => [(0, .string s), (24, .int .i64 s.size), (25, .int .i64 i)])
    (fun i w => i ≤ s.size ∧ w = w0 ∧ ∀ j (h : j < s.size), j < i → lowB s[j] = true) (fun i => s.size - i) 0 (by repeat (first | exact trivial | refine ⟨rfl, ?_⟩)) ⟨by omega, rfl, by omega⟩ ?_
  rintro i w ⟨hi, rfl, hn⟩
  have hget : ∀ j (h : j < s.size), s.data.toList[j]'(by rw [size_len]; exact h) = s[j] := fun j h => by simp; rfl
  (repeat (first | (apply WL.pure; rfl; rfl; rfl) | (apply WL.nil) | (apply EX.thenN) | (apply CW.seq) | (apply CW.region)))
  refine CW.cond rfl (fun h => ?_) (fun h => ?_)
  · have hi' : i < s.size := by simp at h; omega
    have hbad : lowB s[i] = false → s.data.toList.all lowB = false := fun hb => by
      rw [List.all_eq_false]
      exact ⟨_, List.getElem_mem (by rw [size_len]; exact hi'), by rw [hget i hi', hb]; simp⟩
    (repeat (first | (apply WL.pure; rfl; rfl; rfl) | (apply WL.nil) | (apply EX.thenN) | (apply CW.seq) | (apply CW.region) | (apply CW.block) | (apply CW.skip)))
    refine WL.byteT rfl rfl rfl rfl hi' ?_
    (repeat (apply WL.pure; rfl; rfl; rfl))
    by_cases hb1 : decide (((s[i].toNat : Nat) : Int) < 97) = true
    · rw [hb1]
      (repeat (first | (apply WL.pure; rfl; rfl; rfl) | (apply WL.nil) | (apply EX.thenN) | (apply CW.seq) | (apply CW.region) | (apply WL.pass; rfl; rfl) | (apply CW.condT; rfl) | (apply CW.ret) | (apply EX.thenR) | (apply EX.inR)))
      refine EX.ret1 rfl rfl ⟨?_, Ext.refl _⟩
      rw [hbad (by unfold lowB; rw [hb1]; rfl)]
    have hb1 : decide (((s[i].toNat : Nat) : Int) < 97) = false := by simpa using hb1
    rw [hb1]
    (repeat (apply WL.pure; rfl; rfl; rfl))
    refine WL.byteT rfl rfl rfl rfl hi' ?_
    (repeat (first | (apply WL.pure; rfl; rfl; rfl) | (apply WL.nil) | (apply EX.thenN)))
    refine CW.cond rfl (fun hb2 => ?_) (fun hb2 => ?_)
    · (repeat (first | (apply WL.pure; rfl; rfl; rfl) | (apply WL.nil) | (apply EX.thenN) | (apply CW.seq) | (apply CW.region) | (apply CW.ret) | (apply EX.thenR) | (apply EX.inR)))
      refine EX.ret1 rfl rfl ⟨?_, Ext.refl _⟩
      rw [hbad (by unfold lowB; rw [hb1, hb2]; rfl)]
    · (repeat (first | (apply WL.add; rfl; rfl; rfl; rfl; omega; omega) | (apply WL.pure; rfl; rfl; rfl) | (apply WL.nil) | (apply EX.thenN) | (apply CW.region) | (apply EX.inN) | (apply CW.skip)))
      refine EX.back (i + 1) (by repeat (first | exact trivial | refine ⟨rfl, ?_⟩)) ⟨hi', rfl, fun j hj hlt => ?_⟩ (by omega)
      by_cases e : j = i
      · subst e; unfold lowB; rw [hb1, hb2]; rfl
      · exact hn j hj (by omega)
  · have hi' : i = s.size := by simp at h; omega
    subst hi'
    (repeat (first | (apply WL.pure; rfl; rfl; rfl) | (apply WL.nil) | (apply EX.thenN) | (apply CW.seq) | (apply CW.region) | (apply CW.exit) | (apply EX.thenX) | (apply EX.inX) | (apply CW.ret)))
    refine EX.ret1 rfl rfl ⟨?_, Ext.refl _⟩
    rw [List.all_eq_true.2]
    intro x hx
    obtain ⟨j, hj, rfl⟩ := List.mem_iff_getElem.1 hx
    rw [size_len] at hj
    rw [hget j hj]
    exact hn j hj hj
theorem counts_ok (w0 : World) (k : Int) (i o : Nat) : Rt Try.prog 149 [.int .i64 k, .int .i64 (i : Int), .int .i64 (o : Int)].toArray w0 fun v w' => v = .bool (countsB k i o) ∧ w0 = w' := by
  refine Rt.enter3 Try.func149 Try.ntmps149 rfl rfl ?_
  have e0 : ∀ (a : Nat) (b : Nat), (((a : Int)) == (b : Int)) = decide (a = b) := fun a b => by rw [Bool.eq_iff_iff]; simp; omega
  have e1 : ∀ (a : Nat), decide ((a : Int) > 0) = decide (0 < a) := fun a => by rw [Bool.eq_iff_iff]; simp
  unfold countsB
  (repeat (first | (apply WL.pure; rfl; rfl; rfl) | (apply WL.nil) | (apply EX.thenN) | (apply CW.seq) | (apply CW.region) | (apply CW.block)))
  by_cases h1 : k = 1
  · subst h1
    (repeat (first | (apply WL.pure; rfl; rfl; rfl) | (apply EX.thenN) | (apply CW.seq) | (apply CW.region) | (apply CW.condT; rfl) | (apply CW.exit) | (apply EX.thenX) | (apply EX.inX)))
    by_cases hi : i = 0
    · subst hi
      (repeat (first | (apply WL.pure; rfl; rfl; rfl) | (apply WL.nil) | (apply EX.thenN) | (apply CW.ret) | (apply EX.thenR) | (apply EX.inR)))
      refine EX.ret1 rfl rfl ⟨?_, rfl⟩
      rw [show ((o : Int) == 1) = decide (o = 1) from e0 o 1]; simp
    · have : ((i : Int) == 0) = false := by simpa using hi
      rw [this]
      (repeat (first | (apply WL.pure; rfl; rfl; rfl) | (apply WL.nil) | (apply EX.thenN) | (apply WL.pass; rfl; rfl) | (apply CW.ret) | (apply EX.thenR) | (apply EX.inR)))
      refine EX.ret1 rfl rfl ⟨?_, rfl⟩
      simp [hi]
  have b1 : (k == 1) = false := by simpa using h1
  rw [if_neg h1, b1]
  (repeat (first | (apply WL.pure; rfl; rfl; rfl) | (apply WL.nil) | (apply EX.thenN) | (apply CW.seq) | (apply CW.region) | (apply CW.condF; rfl) | (apply CW.skip)))
  by_cases h2 : k = 2
  · subst h2
    (repeat (first | (apply WL.pure; rfl; rfl; rfl) | (apply EX.thenN) | (apply CW.seq) | (apply CW.region) | (apply CW.condT; rfl) | (apply CW.exit) | (apply EX.thenX) | (apply EX.inX) | (apply EX.inXne; rfl) | (apply CW.skip)))
    by_cases hi : 0 < i
    · rw [e1 i, decide_eq_true hi]
      (repeat (first | (apply WL.pure; rfl; rfl; rfl) | (apply WL.nil) | (apply EX.thenN) | (apply CW.ret) | (apply EX.thenR) | (apply EX.inR)))
      refine EX.ret1 rfl rfl ⟨?_, rfl⟩
      rw [show ((o : Int) == 0) = decide (o = 0) from e0 o 0]; simp
    · rw [e1 i, decide_eq_false hi]
      (repeat (first | (apply WL.pure; rfl; rfl; rfl) | (apply WL.nil) | (apply EX.thenN) | (apply WL.pass; rfl; rfl) | (apply CW.ret) | (apply EX.thenR) | (apply EX.inR)))
      refine EX.ret1 rfl rfl ⟨?_, rfl⟩
      simp
  have b2 : (k == 2) = false := by simpa using h2
  rw [b2]
  (repeat (first | (apply WL.pure; rfl; rfl; rfl) | (apply WL.nil) | (apply EX.thenN) | (apply CW.region) | (apply CW.condF; rfl)))
  by_cases h3 : k = 3
  · subst h3
    (repeat (first | (apply WL.pure; rfl; rfl; rfl) | (apply EX.thenN) | (apply CW.seq) | (apply CW.region) | (apply CW.condT; rfl) | (apply CW.exit) | (apply EX.thenX) | (apply EX.inX) | (apply EX.inXne; rfl)))
    by_cases hi : 0 < i
    · rw [e1 i, decide_eq_true hi]
      (repeat (first | (apply WL.pure; rfl; rfl; rfl) | (apply WL.nil) | (apply EX.thenN) | (apply CW.ret) | (apply EX.thenR) | (apply EX.inR)))
      refine EX.ret1 rfl rfl ⟨?_, rfl⟩
      rw [show ((o : Int) == 0) = decide (o = 0) from e0 o 0]; simp
    · rw [e1 i, decide_eq_false hi]
      (repeat (first | (apply WL.pure; rfl; rfl; rfl) | (apply WL.nil) | (apply EX.thenN) | (apply WL.pass; rfl; rfl) | (apply CW.ret) | (apply EX.thenR) | (apply EX.inR)))
      refine EX.ret1 rfl rfl ⟨?_, rfl⟩
      simp
  have b3 : (k == 3) = false := by simpa using h3
  rw [if_neg (by omega), b3]
  (repeat (first | (apply WL.pure; rfl; rfl; rfl) | (apply WL.nil) | (apply EX.thenN) | (apply CW.seq) | (apply CW.region) | (apply CW.condF; rfl) | (apply CW.skip)))
  by_cases h4 : k = 4
  · subst h4
    (repeat (first | (apply WL.pure; rfl; rfl; rfl) | (apply EX.thenN) | (apply CW.seq) | (apply CW.region) | (apply CW.condT; rfl) | (apply CW.exit) | (apply EX.thenX) | (apply EX.inX) | (apply EX.inXne; rfl)))
    by_cases hi : 0 < i
    · rw [e1 i, decide_eq_true hi]
      (repeat (first | (apply WL.pure; rfl; rfl; rfl) | (apply WL.nil) | (apply EX.thenN) | (apply CW.ret) | (apply EX.thenR) | (apply EX.inR)))
      refine EX.ret1 rfl rfl ⟨?_, rfl⟩
      rw [show ((o : Int) == 1) = decide (o = 1) from e0 o 1]; simp
    · rw [e1 i, decide_eq_false hi]
      (repeat (first | (apply WL.pure; rfl; rfl; rfl) | (apply WL.nil) | (apply EX.thenN) | (apply WL.pass; rfl; rfl) | (apply CW.ret) | (apply EX.thenR) | (apply EX.inR)))
      refine EX.ret1 rfl rfl ⟨?_, rfl⟩
      simp
  have b4 : (k == 4) = false := by simpa using h4
  rw [if_neg h4, b4]
  (repeat (first | (apply WL.pure; rfl; rfl; rfl) | (apply WL.nil) | (apply EX.thenN) | (apply CW.seq) | (apply CW.region) | (apply CW.condF; rfl) | (apply CW.skip)))
  by_cases h7 : k = 7
  · subst h7
    (repeat (first | (apply WL.pure; rfl; rfl; rfl) | (apply WL.nil) | (apply EX.thenN) | (apply CW.seq) | (apply CW.region) | (apply CW.condT; rfl) | (apply CW.exit) | (apply EX.thenX) | (apply EX.inX) | (apply EX.inXne; rfl)))
    refine CW.cond rfl (fun ho => ?_) (fun ho => ?_)
    · (repeat (first | (apply WL.pure; rfl; rfl; rfl) | (apply WL.nil) | (apply EX.thenN) | (apply CW.seq) | (apply CW.region) | (apply CW.ret) | (apply EX.thenR) | (apply EX.inR)))
      refine EX.ret1 rfl rfl ⟨?_, rfl⟩
      simp at ho
      simp; omega
    simp at ho
    (repeat (first | (apply WL.pure; rfl; rfl; rfl) | (apply EX.thenN) | (apply CW.seq) | (apply CW.region) | (apply EX.inN) | (apply CW.skip)))
    by_cases hi : 0 < i
    · rw [e1 i, decide_eq_true hi]
      (repeat (first | (apply WL.pure; rfl; rfl; rfl) | (apply WL.nil) | (apply EX.thenN) | (apply CW.ret) | (apply EX.thenR) | (apply EX.inR)))
      refine EX.ret1 rfl rfl ⟨?_, rfl⟩
      rw [e1 o]; simp; omega
    · rw [e1 i, decide_eq_false hi]
      (repeat (first | (apply WL.pure; rfl; rfl; rfl) | (apply WL.nil) | (apply EX.thenN) | (apply WL.pass; rfl; rfl) | (apply CW.ret) | (apply EX.thenR) | (apply EX.inR)))
      refine EX.ret1 rfl rfl ⟨?_, rfl⟩
      simp
  have b7 : (k == 7) = false := by simpa using h7
  rw [if_neg h7, b7]
  (repeat (first | (apply WL.pure; rfl; rfl; rfl) | (apply WL.nil) | (apply EX.thenN) | (apply CW.seq) | (apply CW.region) | (apply CW.condF; rfl) | (apply CW.skip)))
  by_cases h5 : k = 5
  · subst h5
    (repeat (first | (apply WL.pure; rfl; rfl; rfl) | (apply EX.thenN) | (apply CW.seq) | (apply CW.region) | (apply CW.condT; rfl) | (apply CW.exit) | (apply EX.thenX) | (apply EX.inX) | (apply EX.inXne; rfl) | (apply CW.skip)))
    by_cases hi : 0 < i
    · rw [e1 i, decide_eq_true hi]
      (repeat (first | (apply WL.pure; rfl; rfl; rfl) | (apply WL.nil) | (apply EX.thenN) | (apply CW.ret) | (apply EX.thenR) | (apply EX.inR)))
      refine EX.ret1 rfl rfl ⟨?_, rfl⟩
      rw [e1 o]; simp
    · rw [e1 i, decide_eq_false hi]
      (repeat (first | (apply WL.pure; rfl; rfl; rfl) | (apply WL.nil) | (apply EX.thenN) | (apply WL.pass; rfl; rfl) | (apply CW.ret) | (apply EX.thenR) | (apply EX.inR)))
      refine EX.ret1 rfl rfl ⟨?_, rfl⟩
      simp
  have b5 : (k == 5) = false := by simpa using h5
  rw [b5]
  (repeat (first | (apply WL.pure; rfl; rfl; rfl) | (apply WL.nil) | (apply EX.thenN) | (apply CW.region) | (apply CW.condF; rfl)))
  by_cases h6 : k = 6
  · subst h6
    (repeat (first | (apply WL.pure; rfl; rfl; rfl) | (apply EX.thenN) | (apply CW.seq) | (apply CW.region) | (apply CW.condT; rfl) | (apply CW.exit) | (apply EX.thenX) | (apply EX.inX) | (apply EX.inXne; rfl)))
    by_cases hi : 0 < i
    · rw [e1 i, decide_eq_true hi]
      (repeat (first | (apply WL.pure; rfl; rfl; rfl) | (apply WL.nil) | (apply EX.thenN) | (apply CW.ret) | (apply EX.thenR) | (apply EX.inR)))
      refine EX.ret1 rfl rfl ⟨?_, rfl⟩
      rw [e1 o]; simp
    · rw [e1 i, decide_eq_false hi]
      (repeat (first | (apply WL.pure; rfl; rfl; rfl) | (apply WL.nil) | (apply EX.thenN) | (apply WL.pass; rfl; rfl) | (apply CW.ret) | (apply EX.thenR) | (apply EX.inR)))
      refine EX.ret1 rfl rfl ⟨?_, rfl⟩
      simp
  have b6 : (k == 6) = false := by simpa using h6
  rw [if_neg (by omega), b6]
  (repeat (first | (apply WL.pure; rfl; rfl; rfl) | (apply WL.nil) | (apply EX.thenN) | (apply CW.seq) | (apply CW.region) | (apply CW.condF; rfl) | (apply CW.exit) | (apply EX.thenX) | (apply EX.inX) | (apply EX.inXne; rfl) | (apply CW.ret) | (apply CW.skip)))
  exact EX.ret1 rfl rfl ⟨rfl, rfl⟩
theorem ins_ok (w0 : World) {so fo : Option Addr} {sc fc k : Nat} {fl : List LFlow} (hf : Sl w0 (Old w0) fo fc fl) (n : Int) (hl : fl.length ≤ 1000) :
    Rt Try.prog 150 [procV so sc fo fc k fl.length, .int .i64 n].toArray w0 fun v w' => Own w' w0.heap.size 3 Non v (insL fl n) ∧ Ext w0 w' := by
  refine Rt.enter2 Try.func150 Try.ntmps150 rfl rfl ?_
  (repeat (first | (apply CW.seq) | (apply CW.region)))
  refine WL.boxB rfl rfl rfl fun w1 hb2 e1 => ?_
  (repeat (first | (apply WL.pure; rfl; rfl; rfl) | (apply WL.nil) | (apply EX.thenN) | (apply CW.seq) | (apply CW.region) | (apply WL.lenS; rfl; rfl; rfl) | (apply WL.fa; rfl; rfl; rfl) | (apply WL.ld; rfl; rfl; rfl; assumption; rfl) | (apply CW.block)))
  refine CW.loop (S := Nat × Value) (fun s => [(1, .int .i64 n), (2, .pointer (some ⟨w0.heap.size, 0, none⟩)), (5, s.2), (9, .slice fo fl.length fc), (10, .int .i64 fl.length), (11, .int .i64 s.1)])
    (fun s w => s.1 ≤ fl.length ∧ Own w w1.heap.size 3 Non s.2 (insP fl n s.1) ∧ Ext w1 w) (fun s => fl.length - s.1) (0, .slice none 0 0) (by repeat (first | exact trivial | refine ⟨rfl, ?_⟩)) ⟨Nat.zero_le _, Own.nil, Ext.refl _⟩ ?_
  rintro ⟨i, ov⟩ w2 ⟨hi, ho, e2⟩
  dsimp only at hi ho ⊢
  have hE := e1.trans e2
  have hpl := insP_len (fl := fl) (n := n) (k := i)
  have hnext := insP_next (fl := fl) (n := n) (k := i)
  (repeat (first | (apply WL.pure; rfl; rfl; rfl) | (apply WL.nil) | (apply EX.thenN) | (apply CW.seq) | (apply CW.region)))
  refine CW.cond rfl (fun h => ?_) (fun h => ?_)
  · have hi' : i < fl.length := by simp at h; omega
    rw [getDF_at hi'] at hnext
    (repeat (first | (apply WL.pure; rfl; rfl; rfl) | (apply EX.thenN) | (apply CW.seq) | (apply CW.region) | (apply CW.block) | (apply CW.skip)))
    refine WL.elemN rfl rfl rfl rfl rfl (hf.at hE) hi' (fun _ => rfl) (fun u q hu => ?_)
    obtain rfl := hu.flow
    skip
    refine WL.alloc rfl rfl (fun w3 hb7 e3 => ?_)
    (repeat (apply WL.pure; rfl; rfl; rfl))
    refine WL.st rfl rfl rfl hb7 rfl rfl (ones_of rfl) (fun w4 hb7 hg4 => ?_)
    have e4 : Ext w2 w4 := e3.grown hg4 e3.size (fun g hg => by cases hg; exact Nat.le_refl _)
    have ho := ho.extN e4
    have e4 := e2.trans e4
    (repeat (first | (apply WL.pure; rfl; rfl; rfl) | (apply WL.nil) | (apply EX.thenN) | (apply CW.seq) | (apply CW.region) | (apply WL.fa; rfl; rfl; rfl) | (apply WL.ld; rfl; rfl; rfl; assumption; rfl)))
    refine CW.cond rfl (fun h2 => ?_) (fun h2 => ?_)
    · rw [if_pos h2] at hnext
      (repeat (first | (apply WL.pure; rfl; rfl; rfl) | (apply CW.region)))
      refine WL.app1 (F := Non) (yv := (i : Int)) rfl rfl (fun _ => rfl) rfl rfl (fun _ => rfl) ho (Rd.mkInt _ _ _) e4.size (fun _ h => h.elim) (by decide) (by unfold maxLen; omega) (by omega) (fun v' w5 p ho5 hg5 hnb => ?_)
      rw [← hnext] at ho5
      have e5 : Ext w1 w5 := e4.grown hg5 e4.size (fun b hb => (ho.lt b hb).1)
      (repeat (first | (apply WL.add; rfl; rfl; rfl; rfl; omega; omega) | (apply WL.pure; rfl; rfl; rfl) | (apply WL.nil) | (apply EX.thenN) | (apply CW.region) | (apply EX.inN)))
      exact EX.back (i + 1, v') (by repeat (first | exact trivial | refine ⟨rfl, ?_⟩)) ⟨hi', ho5, e5⟩ (by dsimp only; omega)
    · rw [if_neg (by rw [h2]; simp), List.append_nil] at hnext
      (repeat (first | (apply WL.add; rfl; rfl; rfl; rfl; omega; omega) | (apply WL.pure; rfl; rfl; rfl) | (apply WL.nil) | (apply EX.thenN) | (apply CW.region) | (apply EX.inN) | (apply CW.skip)))
      exact EX.back (i + 1, ov) (by repeat (first | exact trivial | refine ⟨rfl, ?_⟩)) ⟨hi', by dsimp only; rw [hnext]; exact ho, e4⟩ (by dsimp only; omega)
  · obtain rfl : i = fl.length := by simp at h; omega
    (repeat (first | (apply WL.pure; rfl; rfl; rfl) | (apply WL.nil) | (apply EX.thenN) | (apply CW.seq) | (apply CW.region) | (apply CW.exit) | (apply EX.thenX) | (apply EX.inX) | (apply CW.ret)))
    exact EX.ret1 rfl rfl ⟨ho.low e1.size, hE⟩
theorem outs_ok (w0 : World) {so fo : Option Addr} {sc fc k : Nat} {fl : List LFlow} (hf : Sl w0 (Old w0) fo fc fl) (n : Int) (hl : fl.length ≤ 1000) :
    Rt Try.prog 151 [procV so sc fo fc k fl.length, .int .i64 n].toArray w0 fun v w' => Own w' w0.heap.size 3 Non v (outsL fl n) ∧ Ext w0 w' := by
  refine Rt.enter2 Try.func151 Try.ntmps151 rfl rfl ?_
  (repeat (first | (apply CW.seq) | (apply CW.region)))
  refine WL.boxB rfl rfl rfl fun w1 hb2 e1 => ?_
  (repeat (first | (apply WL.pure; rfl; rfl; rfl) | (apply WL.nil) | (apply EX.thenN) | (apply CW.seq) | (apply CW.region) | (apply WL.lenS; rfl; rfl; rfl) | (apply WL.fa; rfl; rfl; rfl) | (apply WL.ld; rfl; rfl; rfl; assumption; rfl) | (apply CW.block)))
  refine CW.loop (S := Nat × Value) (fun s => [(1, .int .i64 n), (2, .pointer (some ⟨w0.heap.size, 0, none⟩)), (5, s.2), (9, .slice fo fl.length fc), (10, .int .i64 fl.length), (11, .int .i64 s.1)])
    (fun s w => s.1 ≤ fl.length ∧ Own w w1.heap.size 3 Non s.2 (outsP fl n s.1) ∧ Ext w1 w) (fun s => fl.length - s.1) (0, .slice none 0 0) (by repeat (first | exact trivial | refine ⟨rfl, ?_⟩)) ⟨Nat.zero_le _, Own.nil, Ext.refl _⟩ ?_
  rintro ⟨i, ov⟩ w2 ⟨hi, ho, e2⟩
  dsimp only at hi ho ⊢
  have hE := e1.trans e2
  have hpl := outsP_len (fl := fl) (n := n) (k := i)
  have hnext := outsP_next (fl := fl) (n := n) (k := i)
  (repeat (first | (apply WL.pure; rfl; rfl; rfl) | (apply WL.nil) | (apply EX.thenN) | (apply CW.seq) | (apply CW.region)))
  refine CW.cond rfl (fun h => ?_) (fun h => ?_)
  · have hi' : i < fl.length := by simp at h; omega
    rw [getDF_at hi'] at hnext
    (repeat (first | (apply WL.pure; rfl; rfl; rfl) | (apply EX.thenN) | (apply CW.seq) | (apply CW.region) | (apply CW.block) | (apply CW.skip)))
    refine WL.elemN rfl rfl rfl rfl rfl (hf.at hE) hi' (fun _ => rfl) (fun u q hu => ?_)
    obtain rfl := hu.flow
    skip
    refine WL.alloc rfl rfl (fun w3 hb7 e3 => ?_)
    (repeat (apply WL.pure; rfl; rfl; rfl))
    refine WL.st rfl rfl rfl hb7 rfl rfl (ones_of rfl) (fun w4 hb7 hg4 => ?_)
    have e4 : Ext w2 w4 := e3.grown hg4 e3.size (fun g hg => by cases hg; exact Nat.le_refl _)
    have ho := ho.extN e4
    have e4 := e2.trans e4
    (repeat (first | (apply WL.pure; rfl; rfl; rfl) | (apply WL.nil) | (apply EX.thenN) | (apply CW.seq) | (apply CW.region) | (apply WL.fa; rfl; rfl; rfl) | (apply WL.ld; rfl; rfl; rfl; assumption; rfl)))
    refine CW.cond rfl (fun h2 => ?_) (fun h2 => ?_)
    · rw [if_pos h2] at hnext
      (repeat (first | (apply WL.pure; rfl; rfl; rfl) | (apply CW.region)))
      refine WL.app1 (F := Non) (yv := (i : Int)) rfl rfl (fun _ => rfl) rfl rfl (fun _ => rfl) ho (Rd.mkInt _ _ _) e4.size (fun _ h => h.elim) (by decide) (by unfold maxLen; omega) (by omega) (fun v' w5 p ho5 hg5 hnb => ?_)
      rw [← hnext] at ho5
      have e5 : Ext w1 w5 := e4.grown hg5 e4.size (fun b hb => (ho.lt b hb).1)
      (repeat (first | (apply WL.add; rfl; rfl; rfl; rfl; omega; omega) | (apply WL.pure; rfl; rfl; rfl) | (apply WL.nil) | (apply EX.thenN) | (apply CW.region) | (apply EX.inN)))
      exact EX.back (i + 1, v') (by repeat (first | exact trivial | refine ⟨rfl, ?_⟩)) ⟨hi', ho5, e5⟩ (by dsimp only; omega)
    · rw [if_neg (by rw [h2]; simp), List.append_nil] at hnext
      (repeat (first | (apply WL.add; rfl; rfl; rfl; rfl; omega; omega) | (apply WL.pure; rfl; rfl; rfl) | (apply WL.nil) | (apply EX.thenN) | (apply CW.region) | (apply EX.inN) | (apply CW.skip)))
      exact EX.back (i + 1, ov) (by repeat (first | exact trivial | refine ⟨rfl, ?_⟩)) ⟨hi', by dsimp only; rw [hnext]; exact ho, e4⟩ (by dsimp only; omega)
  · obtain rfl : i = fl.length := by simp at h; omega
    (repeat (first | (apply WL.pure; rfl; rfl; rfl) | (apply WL.nil) | (apply EX.thenN) | (apply CW.seq) | (apply CW.region) | (apply CW.exit) | (apply EX.thenX) | (apply EX.inX) | (apply CW.ret)))
    exact EX.ret1 rfl rfl ⟨ho.low e1.size, hE⟩
end Go.Proofs.Ythojdcbpglipeaa
