import Derived.Test.YtikigaeihdmcaaaGreatDoorPtReportLines5
/-
  Package proc: Named, nodes, counts, ins, outs: walked.
-/
set_option linter.unusedVariables false
set_option linter.unusedSimpArgs false
namespace Go.Proofs.YtikigaeihdmcaaaGreatDoor
open Go.RowKit

theorem size_len (s : ByteArray) : s.data.toList.length = s.size := by simp
theorem Named_ok (w0 : World) (s : ByteArray) : Rt Tryz.prog 24 [.string s].toArray w0 fun v w' => v = .bool (namedB s) ∧ Ext w0 w' := by
  refine Rt.enter1 Tryz.func24 Tryz.ntmps24 rfl rfl ?_
  unfold namedB namedL
  (repeat (first | (apply WL.pure; rfl; rfl; rfl) | (apply WL.nil) | (apply EX.thenN) | (apply CW.seq) | (apply CW.region)))
  by_cases h1 : (s.data.toList == []) = true
  · rw [show (s.data.toList == (ByteArray.mk #[]).data.toList) = true from h1]
    (repeat (first | (apply WL.pure; rfl; rfl; rfl) | (apply WL.nil) | (apply EX.thenN) | (apply CW.seq) | (apply CW.region) | (apply WL.pass; rfl; rfl) | (apply CW.condT; rfl) | (apply CW.ret) | (apply EX.thenR)))
    refine EX.ret1 rfl rfl ⟨?_, Ext.refl _⟩
    rfl
  have h1 : (s.data.toList == []) = false := by simpa using h1
  rw [show (s.data.toList == (ByteArray.mk #[]).data.toList) = false from h1]
  try rw [h1]
  (repeat (apply WL.pure; rfl; rfl; rfl))
  refine WL.lenT rfl rfl rfl ?_
  rw [← size_len]
  (repeat (apply WL.pure; rfl; rfl; rfl))
  by_cases h2 : decide ((s.data.toList.length : Int) > 8) = true
  · rw [h2]
    (repeat (first | (apply WL.pure; rfl; rfl; rfl) | (apply WL.nil) | (apply EX.thenN) | (apply CW.seq) | (apply CW.region) | (apply WL.pass; rfl; rfl) | (apply CW.condT; rfl) | (apply CW.ret) | (apply EX.thenR)))
    exact EX.ret1 rfl rfl ⟨rfl, Ext.refl _⟩
  have h2 : decide ((s.data.toList.length : Int) > 8) = false := by simpa using h2
  rw [h2]
  (repeat (apply WL.pure; rfl; rfl; rfl))
  by_cases h3 : (s.data.toList == [116, 114, 117, 101]) = true
  · rw [show (s.data.toList == (ByteArray.mk #[116, 114, 117, 101]).data.toList) = true from h3]
    try rw [h3]
    (repeat (first | (apply WL.pure; rfl; rfl; rfl) | (apply WL.nil) | (apply EX.thenN) | (apply CW.seq) | (apply CW.region) | (apply WL.pass; rfl; rfl) | (apply CW.condT; rfl) | (apply CW.ret) | (apply EX.thenR)))
    exact EX.ret1 rfl rfl ⟨rfl, Ext.refl _⟩
  have h3 : (s.data.toList == [116, 114, 117, 101]) = false := by simpa using h3
  rw [show (s.data.toList == (ByteArray.mk #[116, 114, 117, 101]).data.toList) = false from h3]
  try rw [h3]
  (repeat (apply WL.pure; rfl; rfl; rfl))
  by_cases h4 : (s.data.toList == [102, 97, 108, 115, 101]) = true
  · rw [show (s.data.toList == (ByteArray.mk #[102, 97, 108, 115, 101]).data.toList) = true from h4]
    try rw [h4]
    (repeat (first | (apply WL.pure; rfl; rfl; rfl) | (apply WL.nil) | (apply EX.thenN) | (apply CW.seq) | (apply CW.region) | (apply WL.pass; rfl; rfl) | (apply CW.condT; rfl) | (apply CW.ret) | (apply EX.thenR)))
    exact EX.ret1 rfl rfl ⟨rfl, Ext.refl _⟩
  have h4 : (s.data.toList == [102, 97, 108, 115, 101]) = false := by simpa using h4
  rw [show (s.data.toList == (ByteArray.mk #[102, 97, 108, 115, 101]).data.toList) = false from h4]
  try rw [h4]
  (repeat (first | (apply WL.pure; rfl; rfl; rfl) | (apply WL.nil) | (apply EX.thenN)))
  by_cases h5 : (s.data.toList == [115, 105, 108, 101, 110, 116]) = true
  · rw [show (s.data.toList == (ByteArray.mk #[115, 105, 108, 101, 110, 116]).data.toList) = true from h5]
    try rw [h5]
    (repeat (first | (apply WL.pure; rfl; rfl; rfl) | (apply WL.nil) | (apply EX.thenN) | (apply CW.seq) | (apply CW.region) | (apply CW.condT; rfl) | (apply CW.ret) | (apply EX.thenR)))
    exact EX.ret1 rfl rfl ⟨rfl, Ext.refl _⟩
  have h5 : (s.data.toList == [115, 105, 108, 101, 110, 116]) = false := by simpa using h5
  rw [show (s.data.toList == (ByteArray.mk #[115, 105, 108, 101, 110, 116]).data.toList) = false from h5]
  try rw [h5]
  simp only [Bool.not_false, Bool.true_and]
  have h8 : s.size ≤ 8 := by have := size_len s; simp at h2; omega
  (repeat (first | (apply WL.pure; rfl; rfl; rfl) | (apply EX.thenN) | (apply CW.seq) | (apply CW.region) | (apply CW.condF; rfl) | (apply CW.skip)))
  refine WL.lenT rfl rfl rfl ?_
  (repeat (first | (apply WL.pure; rfl; rfl; rfl) | (apply WL.nil) | (apply EX.thenN) | (apply CW.block)))
  refine CW.loop (S := Nat) (fun i => [(0, .string s), (24, .int .i64 s.size), (25, .int .i64 i)])
    (fun i w => i ≤ s.size ∧ w = w0 ∧ ∀ j (h : j < s.size), j < i → lowB s[j] = true) (fun i => s.size - i) 0 (by repeat (first | exact trivial | refine ⟨rfl, ?_⟩)) ⟨by omega, rfl, by omega⟩ ?_
  rintro i w ⟨hi, rfl, hn⟩
  have hget : ∀ j (h : j < s.size), s.data.toList[j]'(by rw [size_len]; exact h) = s[j] := fun j h => by simp; rfl
  (repeat (first | (apply WL.pure; rfl; rfl; rfl) | (apply WL.nil) | (apply EX.thenN) | (apply CW.seq) | (apply CW.region)))
  refine CW.cond rfl (fun h => ?_) (fun h => ?_)
  · have hi' : i < s.size := by simp at h; omega
    have hbad : lowB s[i] = false → s.data.toList.all lowB = false := fun hb => by
      rw [List.all_eq_false]
      exact ⟨_, List.getElem_mem (by rw [size_len]; exact hi'), by rw [hget i hi', hb]; simp⟩
    (repeat (first | (apply WL.pure; rfl; rfl; rfl) | (apply WL.nil) | (apply EX.thenN) | (apply CW.seq) | (apply CW.region) | (apply CW.block) | (apply CW.skip)))
    refine WL.byteT rfl rfl rfl rfl hi' ?_
    (repeat (apply WL.pure; rfl; rfl; rfl))
    by_cases hb1 : decide (((s[i].toNat : Nat) : Int) < 97) = true
    · rw [hb1]
      (repeat (first | (apply WL.pure; rfl; rfl; rfl) | (apply WL.nil) | (apply EX.thenN) | (apply CW.seq) | (apply CW.region) | (apply WL.pass; rfl; rfl) | (apply CW.condT; rfl) | (apply CW.ret) | (apply EX.thenR) | (apply EX.inR)))
      refine EX.ret1 rfl rfl ⟨?_, Ext.refl _⟩
      rw [hbad (by unfold lowB; rw [hb1]; rfl)]
    have hb1 : decide (((s[i].toNat : Nat) : Int) < 97) = false := by simpa using hb1
    rw [hb1]
    (repeat (apply WL.pure; rfl; rfl; rfl))
    refine WL.byteT rfl rfl rfl rfl hi' ?_
    (repeat (first | (apply WL.pure; rfl; rfl; rfl) | (apply WL.nil) | (apply EX.thenN)))
    refine CW.cond rfl (fun hb2 => ?_) (fun hb2 => ?_)
    · (repeat (first | (apply WL.pure; rfl; rfl; rfl) | (apply WL.nil) | (apply EX.thenN) | (apply CW.seq) | (apply CW.region) | (apply CW.ret) | (apply EX.thenR) | (apply EX.inR)))
      refine EX.ret1 rfl rfl ⟨?_, Ext.refl _⟩
      rw [hbad (by unfold lowB; rw [hb1, hb2]; rfl)]
    · (repeat (first | (apply WL.add; rfl; rfl; rfl; rfl; omega; omega) | (apply WL.pure; rfl; rfl; rfl) | (apply WL.nil) | (apply EX.thenN) | (apply CW.region) | (apply EX.inN) | (apply CW.skip)))
      refine EX.back (i + 1) (by repeat (first | exact trivial | refine ⟨rfl, ?_⟩)) ⟨hi', rfl, fun j hj hlt => ?_⟩ (by omega)
      by_cases e : j = i
      · subst e; unfold lowB; rw [hb1, hb2]; rfl
      · exact hn j hj (by omega)
  · have hi' : i = s.size := by simp at h; omega
    subst hi'
    (repeat (first | (apply WL.pure; rfl; rfl; rfl) | (apply WL.nil) | (apply EX.thenN) | (apply CW.seq) | (apply CW.region) | (apply CW.exit) | (apply EX.thenX) | (apply EX.inX) | (apply CW.ret)))
    refine EX.ret1 rfl rfl ⟨?_, Ext.refl _⟩
    rw [List.all_eq_true.2]
    intro x hx
    obtain ⟨j, hj, rfl⟩ := List.mem_iff_getElem.1 hx
    rw [size_len] at hj
    rw [hget j hj]
    exact hn j hj hj
end Go.Proofs.YtikigaeihdmcaaaGreatDoor

/-
  ltl.Print, walked.
-/
set_option linter.unusedVariables false
set_option linter.unusedSimpArgs false
namespace Go.Proofs.YtikigaeihdmcaaaGreatDoor
open Go.RowKit

theorem idxB_of (x : ByteArray) (nms : List ByteArray) : idxOf (fun y : ByteArray => x.data.toList == y.data.toList) nms = idxB nms x.data.toList := by
  unfold idxOf idxB
  rw [show (fun y : ByteArray => x.data.toList == y.data.toList) = fun y => y.data.toList == x.data.toList from funext fun y => Bool.beq_comm]
  all_goals rfl
theorem getDNm_at {nms : List ByteArray} {i : Nat} (h : i < nms.length) : nms.getD i ⟨#[]⟩ = nms[i] := by rw [List.getD_eq_getElem?_getD, List.getElem?_eq_getElem h]; rfl
/-- the shape of a formula: as many kids as its kind has -/
inductive ShT (kk : Int → Int) : Ltl → Prop
  | mk (k n : Int) (kids : List Ltl) : kk k = kids.length → 0 ≤ n → n ≤ 63 → (∀ x ∈ kids, ShT kk x) → ShT kk (.mk k n kids)
mutual
theorem chkF_sh : ∀ (t : Ltl) (d c : Int), (chkF t d c).1 = 0 → ShT kidsK t ∧ (chkF t d c).2 = c + t.nodes
  | .mk k n kids, d, c, h => by
    simp only [chkF] at h ⊢
    split at h
    · cases h
    split at h
    · cases h
    split at h
    · cases h
    rename_i h1 h2 h3
    rw [if_neg h1, if_neg h2, if_neg h3]
    have ⟨g1, g2⟩ := chkFL_sh kids (d + 1) (c + 1) h
    simp only [not_or] at h3
    refine ⟨.mk k n kids (by omega) (by omega) (by omega) g1, ?_⟩
    rw [g2]; simp only [Ltl.nodes]; omega
theorem chkFL_sh : ∀ (l : List Ltl) (d c : Int), (chkFL l d c).1 = 0 → (∀ x ∈ l, ShT kidsK x) ∧ (chkFL l d c).2 = c + Ltl.nodesL l
  | [], d, c, h => ⟨fun x hx => by (cases hx), by simp [chkFL, Ltl.nodesL]⟩
  | y :: r, d, c, h => by
    simp only [chkFL] at h ⊢
    split at h
    · rename_i h1; exact absurd h h1
    rename_i h1
    rw [if_neg h1]
    have ⟨g1, g2⟩ := chkF_sh y d c (by simpa using h1)
    have ⟨g3, g4⟩ := chkFL_sh r d _ h
    refine ⟨fun x hx => ?_, ?_⟩
    · rcases List.mem_cons.1 hx with rfl | hx
      · exact g1
      · exact g3 x hx
    · rw [g4, g2]; simp only [Ltl.nodesL]; omega
end
section
variable {P : Program} {Q : Exit → Act → World → Prop} {n : Nat} {σ : Sg} {w wc : World} {L : List Oper} {S : World → Prop} {ord : List (Nat × Bool)} {i d : Nat} {ty : TypeId} {pos : String} {af : Array Edge} {g : Option (Nat × Bool)} {t e : TypeId} {x : Operand} {b o : Nat} {cells : List Value}
/-- what a block that nobody changes meanwhile holds -/
theorem HL.ldS {v : Value} (hK : ∀ w1, S w1 → Blk w1 b e cells) (ho : nthO L i = some ⟨some d, .load t x, ty, pos, af, g⟩) (hg : gd L σ ⟨some d, .load t x, ty, pos, af, g⟩ = some true) (hd : Nat.ble (d + 1) n = true) (hx : ev σ x = some (.pointer (some ⟨b, o, none⟩))) [hc : IsC P t 1 false] (hv : nthV cells o = some v)
    (h : HL P L S Q ord n ((d, v) :: σ) wc) : HL P L S Q ((i, true) :: ord) n σ wc := by
  refine HL.run ho hg hd (fun a ha w' hsw => ?_) h
  simp [execOp, ha.ev hx, run_ld (P := P) (t := t) w' (hK w' hsw) hv]
theorem HL.ldAS {vs : List Value} {k : Nat} (hK : ∀ w1, S w1 → Blk w1 b e cells) (ho : nthO L i = some ⟨some d, .load t x, ty, pos, af, g⟩) (hg : gd L σ ⟨some d, .load t x, ty, pos, af, g⟩ = some true) (hd : Nat.ble (d + 1) n = true) (hx : ev σ x = some (.pointer (some ⟨b, o, none⟩))) [hc : IsC P t k true] (hv : segL cells o k = some vs)
    (h : HL P L S Q ord n ((d, .agg vs.toArray) :: σ) wc) : HL P L S Q ((i, true) :: ord) n σ wc := by
  refine HL.run ho hg hd (fun a ha w' hsw => ?_) h
  simp [execOp, ha.ev hx, run_ldA (P := P) (t := t) w' (hK w' hsw) hv]
end
instance iPrn1 : IsFd Tryz.prog 80 0 0 := IsFd.of (by kernel_rfl)
instance iPrn2 : IsFd Tryz.prog 80 1 1 := IsFd.of (by kernel_rfl)
instance iPrn3 : IsBd Tryz.prog 80 [(0, 1), (1, 1)] := IsBd.of (by kernel_rfl)
instance iPrn4 : IsZC Tryz.prog 80 [.slice none 0 0, .bool false] := IsZC.of (z := .agg #[.slice none 0 0, .bool false]) (by kernel_rfl) rfl
instance iPrn5 : IsC Tryz.prog 80 2 true := IsC.of (by kernel_rfl) Tryz.underlying80 rfl
instance iPrn6 : IsAr Tryz.prog 101 10 9 := ⟨Tryz.underlying101⟩
abbrev noT : Value := .string ⟨#[]⟩
instance iPrn7 : IsZC Tryz.prog 101 [noT, noT, noT, noT, noT, noT, noT, noT, noT, noT] := IsZC.of (z := .agg #[noT, noT, noT, noT, noT, noT, noT, noT, noT, noT]) (by kernel_rfl) rfl
theorem lname_ok (w0 : World) {no : Option Addr} {nc : Nat} {nms : List ByteArray} (hn : Sl w0 (Old w0) no nc nms) (n : Int) (h0 : 0 ≤ n) :
    Rt Tryz.prog 52 [.int .i64 n, .slice no nms.length nc].toArray w0 fun v w' => v = tV (nmL nms n) ∧ Ext w0 w' := by
  have hm := hn.len63
  refine Rt.enter2 Tryz.func52 Tryz.ntmps52 rfl rfl ?_
  obtain ⟨i, rfl⟩ := Int.eq_ofNat_of_zero_le h0
  (repeat (first | (apply WL.pure; rfl; rfl; rfl) | (apply WL.nil) | (apply EX.thenN) | (apply CW.seq) | (apply CW.region)))
  refine CW.cond rfl (fun h => ?_) (fun h => ?_)
  · (repeat (first | (apply WL.pure; rfl; rfl; rfl) | (apply WL.nil) | (apply EX.thenN) | (apply CW.seq) | (apply CW.region) | (apply CW.ret) | (apply EX.thenR)))
    refine EX.ret1 rfl rfl ⟨?_, Ext.refl _⟩
    have : (i : Int) = 63 := by simpa using h
    unfold nmL; rw [if_pos this]; rfl
  have h63 : ¬ (i : Int) = 63 := by simpa using h
  (repeat (first | (apply WL.pure; rfl; rfl; rfl) | (apply EX.thenN) | (apply CW.seq) | (apply CW.region) | (apply WL.lenS; rfl; rfl; rfl) | (apply CW.skip)))
  (refine WL.lookG rfl rfl (fun h => ?_) (fun h => ?_))
  · have h1 : (i : Int) ≥ (nms.length : Int) := by simpa using h
    (repeat (first | (apply WL.pure; rfl; rfl; rfl) | (apply WL.nil) | (apply EX.thenN) | (apply CW.seq) | (apply CW.region) | (apply WL.pass; rfl; rfl) | (apply CW.condT; rfl) | (apply CW.ret) | (apply EX.thenR)))
    refine EX.ret1 rfl rfl ⟨?_, Ext.refl _⟩
    unfold nmL; rw [if_neg h63, if_pos h1]; rfl
  have h1 : ¬ (i : Int) ≥ (nms.length : Int) := by simpa using h
  have hi : i < nms.length := by omega
  (repeat (apply WL.pure; rfl; rfl; rfl))
  refine WL.elemN rfl rfl rfl rfl rfl hn hi (fun _ => rfl) (fun u1 q1 hu1 => ?_)
  obtain ⟨rfl, _⟩ := hu1.str
  skip
  refine WL.call rfl rfl rfl (Named_ok w0 nms[i]) ?_
  rintro _ w1 ⟨rfl, e1⟩
  (repeat (apply WL.pure; rfl; rfl; rfl))
  (refine WL.lookG rfl rfl (fun h => ?_) (fun h => ?_))
  · (repeat (first | (apply WL.pure; rfl; rfl; rfl) | (apply WL.nil) | (apply EX.thenN) | (apply CW.seq) | (apply CW.region) | (apply WL.pass; rfl; rfl) | (apply CW.condT; rfl) | (apply CW.ret) | (apply EX.thenR)))
    refine EX.ret1 rfl rfl ⟨?_, e1⟩
    unfold nmL; rw [if_neg h63, if_neg h1, if_pos (by rw [Int.toNat_natCast, getDNm_at hi]; simpa using h)]; rfl
  have h2 : ¬ namedB nms[i] = false := by simpa using h
  (repeat (apply WL.pure; rfl; rfl; rfl))
  refine WL.elemN rfl rfl rfl rfl rfl (hn.up e1) hi (fun _ => rfl) (fun u1 q1 hu1 => ?_)
  obtain ⟨rfl, _⟩ := hu1.str
  skip
  refine WL.call rfl rfl rfl (index_str w1 nms[i] (hn.up e1)) ?_
  rintro _ w2 ⟨rfl, rfl⟩
  (repeat (first | (apply WL.pure; rfl; rfl; rfl) | (apply WL.nil) | (apply EX.thenN)))
  refine CW.cond rfl (fun h => ?_) (fun h => ?_)
  · (repeat (first | (apply WL.pure; rfl; rfl; rfl) | (apply WL.nil) | (apply EX.thenN) | (apply CW.seq) | (apply CW.region) | (apply CW.ret) | (apply EX.thenR)))
    refine EX.ret1 rfl rfl ⟨?_, e1⟩
    unfold nmL; rw [if_neg h63, if_neg h1, if_neg (by rw [Int.toNat_natCast, getDNm_at hi]; exact h2), if_pos (by rw [Int.toNat_natCast, getDNm_at hi, ← idxB_of]; simpa using h)]; rfl
  (repeat (first | (apply WL.pure; rfl; rfl; rfl) | (apply EX.thenN) | (apply CW.seq) | (apply CW.region) | (apply CW.skip)))
  refine WL.elemN rfl rfl rfl rfl rfl (hn.up e1) hi (fun _ => rfl) (fun u1 q1 hu1 => ?_)
  obtain ⟨rfl, _⟩ := hu1.str
  (repeat (first | (apply WL.pure; rfl; rfl; rfl) | (apply WL.nil) | (apply EX.thenN) | (apply CW.ret)))
  refine EX.ret1 rfl rfl ⟨?_, e1⟩
  unfold nmL; rw [if_neg h63, if_neg h1, if_neg (by rw [Int.toNat_natCast, getDNm_at hi]; exact h2), if_neg (by rw [Int.toNat_natCast, getDNm_at hi, ← idxB_of]; simpa using h)]
  rw [Int.toNat_natCast, getDNm_at hi, tV, txA_eta]
theorem lbare_ok (w0 : World) (k i x : Int) : Rt Tryz.prog 72 [.int .i64 k, .int .i64 i, .int .i64 x].toArray w0 fun v w' => v = .bool (bareL k i x) ∧ w0 = w' := by
  refine Rt.enter3 Tryz.func72 Tryz.ntmps72 rfl rfl ?_
  unfold bareL
  (repeat (first | (apply WL.pure; rfl; rfl; rfl) | (apply WL.nil) | (apply EX.thenN) | (apply CW.seq) | (apply CW.region) | (apply CW.block)))
  refine CW.cond rfl (fun h => ?_) (fun h => ?_)
  · have hx : x = 5 := by simpa using h
    rw [if_pos hx]
    clear h
    (repeat (first | (apply WL.pure; rfl; rfl; rfl) | (apply CW.seq) | (apply CW.region)))
    (refine WL.lookG rfl rfl (fun h => ?_) (fun h => ?_))
    · (repeat (first | (apply WL.pure; rfl; rfl; rfl) | (apply WL.nil) | (apply EX.thenN) | (apply WL.pass; rfl; rfl) | (apply CW.ret) | (apply EX.thenR) | (apply EX.inR)))
      exact EX.ret1 rfl rfl ⟨by rw [h]; rfl, rfl⟩
    · rw [h]
      clear h
      (repeat (apply WL.pure; rfl; rfl; rfl))
      (refine WL.lookG rfl rfl (fun h => ?_) (fun h => ?_))
      · (repeat (first | (apply WL.pure; rfl; rfl; rfl) | (apply WL.nil) | (apply EX.thenN) | (apply CW.ret) | (apply EX.thenR) | (apply EX.inR)))
        exact EX.ret1 rfl rfl ⟨by rw [h]; rfl, rfl⟩
      · (repeat (first | (apply WL.pure; rfl; rfl; rfl) | (apply WL.nil) | (apply EX.thenN) | (apply WL.pass; rfl; rfl) | (apply CW.ret) | (apply EX.thenR) | (apply EX.inR)))
        exact EX.ret1 rfl rfl ⟨by rw [h]; rfl, rfl⟩
  have h5 : ¬ x = 5 := by simpa using h
  rw [if_neg h5]
  (repeat (first | (apply WL.pure; rfl; rfl; rfl) | (apply WL.nil) | (apply EX.thenN) | (apply CW.seq) | (apply CW.region)))
  refine CW.cond rfl (fun h => ?_) (fun h => ?_)
  · have h : x = 6 := by simpa using h
    rw [if_pos h]
    clear h
    (repeat (first | (apply WL.pure; rfl; rfl; rfl) | (apply CW.seq) | (apply CW.region)))
    (refine WL.lookG rfl rfl (fun h => ?_) (fun h => ?_))
    · (repeat (first | (apply WL.pure; rfl; rfl; rfl) | (apply WL.nil) | (apply EX.thenN) | (apply CW.ret) | (apply EX.thenR) | (apply EX.inR)))
      exact EX.ret1 rfl rfl ⟨by rw [h]; rfl, rfl⟩
    · (repeat (first | (apply WL.pure; rfl; rfl; rfl) | (apply WL.nil) | (apply EX.thenN) | (apply WL.pass; rfl; rfl) | (apply CW.ret) | (apply EX.thenR) | (apply EX.inR)))
      exact EX.ret1 rfl rfl ⟨by rw [h]; rfl, rfl⟩
  have h6 : ¬ x = 6 := by simpa using h
  rw [if_neg h6]
  refine CW.cut [(0, .int .i64 k), (1, .int .i64 i), (2, .int .i64 x), (28, .bool (decide (x = 8 ∨ x = 9)))] ?_ ?_
  · (repeat (first | (apply WL.pure; rfl; rfl; rfl) | (apply WL.nil) | (apply EX.thenN) | (apply CW.seq) | (apply CW.region)))
    refine CW.cond rfl (fun h => ?_) (fun h => ?_)
    · (repeat (apply CW.skip))
      refine EX.cut ⟨rfl, rfl, rfl, ?_, trivial⟩
      refine congrArg (fun b => some (Value.bool b)) ?_
      have : x = 8 := by simpa using h
      simp [this]
    · (repeat (first | (apply WL.pure; rfl; rfl; rfl) | (apply WL.nil) | (apply CW.region)))
      refine EX.cut ⟨rfl, rfl, rfl, ?_, trivial⟩
      refine congrArg (fun b => some (Value.bool b)) ?_
      have : ¬ x = 8 := by simpa using h
      rw [Bool.eq_iff_iff]; simp [this]
  refine CW.cond rfl (fun h => ?_) (fun h => ?_)
  · rw [if_pos (by simpa using h)]
    clear h
    (repeat (first | (apply WL.pure; rfl; rfl; rfl) | (apply CW.seq) | (apply CW.region)))
    (refine WL.lookG rfl rfl (fun h => ?_) (fun h => ?_))
    · (repeat (first | (apply WL.pure; rfl; rfl; rfl) | (apply WL.nil) | (apply EX.thenN) | (apply CW.ret) | (apply EX.thenR) | (apply EX.inR)))
      exact EX.ret1 rfl rfl ⟨by rw [h]; rfl, rfl⟩
    · (repeat (first | (apply WL.pure; rfl; rfl; rfl) | (apply WL.nil) | (apply EX.thenN) | (apply WL.pass; rfl; rfl) | (apply CW.ret) | (apply EX.thenR) | (apply EX.inR)))
      exact EX.ret1 rfl rfl ⟨by rw [h]; rfl, rfl⟩
  · rw [if_neg (by simpa using h)]
    (repeat (first | (apply WL.pure; rfl; rfl; rfl) | (apply WL.nil) | (apply EX.thenN) | (apply CW.seq) | (apply CW.region) | (apply EX.inN) | (apply CW.ret) | (apply CW.skip)))
    exact EX.ret1 rfl rfl ⟨rfl, rfl⟩
end Go.Proofs.YtikigaeihdmcaaaGreatDoor

/-
  ltl.Print, walked: the text.
-/
set_option linter.unusedVariables false
set_option linter.unusedSimpArgs false
namespace Go.Proofs.YtikigaeihdmcaaaGreatDoor
open Go.RowKit

theorem mk_k (k n : Int) (l : List Ltl) : (Ltl.mk k n l).k = k := rfl
theorem mk_n (k n : Int) (l : List Ltl) : (Ltl.mk k n l).n = n := rfl
theorem mk_kids (k n : Int) (l : List Ltl) : (Ltl.mk k n l).kids = l := rfl
theorem shT_inv {kk : Int → Int} {k n : Int} {kids : List Ltl} (h : ShT kk (.mk k n kids)) : kk k = kids.length ∧ 0 ≤ n ∧ n ≤ 63 ∧ ∀ x ∈ kids, ShT kk x := by
  cases h with
  | mk _ _ _ h1 h2 h3 h4 => exact ⟨h1, h2, h3, h4⟩
theorem txtL_bin {nm : Int → Bys} {k n : Int} {x y : Ltl} (hk : k = 5 ∨ k = 6 ∨ k = 8 ∨ k = 9) :
    txtL nm (.mk k n [x, y]) = kidT (bareL k 0 x.k) (txtL nm x) ++ [32] ++ sigL k ++ [32] ++ kidT (bareL k 1 y.k) (txtL nm y) := by
  rcases hk with rfl | rfl | rfl | rfl <;> simp [txtL, txtLs, joinL]
theorem kid_cells {w : World} {F : Nat → Prop} {es : List Value} {x : Ltl} (h : rd w F es x) {b off : Nat} (hc : Cells w b off es) : Cells w b off [.int .i64 x.k] := by
  obtain ⟨ao, cap, rfl, _⟩ := RdT.sl h
  intro j u hu
  cases j with
  | zero => exact hc 0 u hu
  | succ j => simp at hu
/-- a writer of texts -/
abbrev WrB (w : World) (bw : Nat) (no : Option Addr) (len nc : Nat) (b : Bool) : Prop := Blk w bw 80 [.slice no len nc, .bool b]
def LText (t : Ltl) : Prop := ∀ (w : World) (F : Nat → Prop) (bw : Nat) (ao : Option Addr) (cap : Nat) (no : Option Addr) (nc : Nat) (nms : List ByteArray) (b : Bool), Sl w F ao cap t.kids → Sl w F no nc nms → (∀ k, F k → k < w.heap.size) → ¬ F bw → WrB w bw no nms.length nc b →
  Rt Tryz.prog 37 [.pointer (some ⟨bw, 0, none⟩), ltlV t.k t.n ao t.kids.length cap].toArray w fun v w' => v = tV (txtL (nmL nms) t) ∧ WrB w' bw no nms.length nc (b || badF (nmL nms) t) ∧ w.grownBy w' (some bw)
theorem lkid_ok {t : Ltl} {i : Nat} (hi : i < t.kids.length) (ih : LText t.kids[i]) (hl : t.kids[i].nodes ≤ 1000) (w : World) (F : Nat → Prop) (bw : Nat) (ao : Option Addr) (cap : Nat) (no : Option Addr) (nc : Nat) (nms : List ByteArray) (b : Bool)
    (hs : Sl w F ao cap t.kids) (hn : Sl w F no nc nms) (hF : ∀ k, F k → k < w.heap.size) (hnb : ¬ F bw) (hb : WrB w bw no nms.length nc b) :
    Rt Tryz.prog 53 [.pointer (some ⟨bw, 0, none⟩), ltlV t.k t.n ao t.kids.length cap, .int .i64 (i : Int)].toArray w fun v w' => v = tV (kidT (bareL t.k i t.kids[i].k) (txtL (nmL nms) t.kids[i])) ∧ WrB w' bw no nms.length nc (b || badF (nmL nms) t.kids[i]) ∧ w.grownBy w' (some bw) := by
  have hm := hs.len63
  have hbl := hb.lt
  have htl := txtL_len (nmL_len nms) t.kids[i]
  obtain ⟨kb, koff, rfl, hFk, es, hcl, hrd⟩ := hs.el i hi
  refine Rt.enter3 Tryz.func53 Tryz.ntmps53 rfl rfl ?_
  (repeat (first | (apply CW.seq) | (apply CW.region)))
  refine WL.boxB rfl rfl rfl fun w1 hb4 e1 => ?_
  have hF1 : ∀ k, F k → k < w1.heap.size := fun k hk => Nat.lt_of_lt_of_le (hF k hk) e1.size
  have hs1 : Sl w1 F _ cap t.kids := hs.mono (fun k hk => e1.block k (hF k hk)) fun _ h => h
  have hn1 : Sl w1 F no nc nms := hn.mono (fun k hk => e1.block k (hF k hk)) fun _ h => h
  (repeat (first | (apply WL.pure; rfl; rfl; rfl) | (apply WL.nil) | (apply EX.thenN) | (apply CW.seq) | (apply CW.region) | (apply WL.fa; rfl; rfl; rfl) | (apply WL.ld; rfl; rfl; rfl; assumption; rfl)))
  refine WL.elemN rfl rfl rfl rfl rfl hs1 hi (fun _ => rfl) (fun u q hu => ?_)
  obtain ⟨ao', cap', rfl, hx⟩ := hu.ltl
  skip
  refine WL.call rfl rfl rfl (ih w1 F bw ao' cap' no nc nms b hx hn1 hF1 hnb (hb.ext e1)) ?_
  rintro _ w2 ⟨rfl, hb2, hg2⟩
  have hb42 := hb4.kept hg2 (fun e => by have := Option.some.inj e; omega)
  have hF2 : ∀ k, F k → k < w2.heap.size := fun k hk => Nat.lt_of_lt_of_le (hF1 k hk) hg2.size
  have hk2 : w2.heap[kb]? = w.heap[kb]? := (hg2.block kb (hF1 kb hFk) (fun e => by cases e; exact hnb hFk)).trans (e1.block kb (hF kb hFk))
  have hc2 : Cells w2 kb (koff + i * sz Ltl) [.int .i64 t.kids[i].k] := kid_cells (Rep.mono hrd (fun k hk => (hg2.block k (hF1 k hk) (fun e => by cases e; exact hnb hk)).trans (e1.block k (hF k hk))) fun _ h => h) (hcl.mono hk2)
  have hE : w.grownBy w2 (some bw) := grown_tr (e1.grw (some bw)) hg2
  generalize hT : txtL (nmL nms) t.kids[i] = T at *
  (repeat (first | (apply WL.pure; rfl; rfl; rfl) | (apply QL.pure; rfl; rfl; rfl) | (apply WL.nil) | (apply EX.thenN) | (apply CW.seq) | (apply QL.fa; rfl; rfl; rfl) | (apply QL.ld; rfl; rfl; rfl; assumption; rfl) | (apply CW.draw; exact mixed; kernel_rfl)))
  refine QL.idx (α := Ltl) rfl rfl rfl rfl (by omega) (by omega) ?_
  (repeat (apply QL.fa; rfl; rfl; rfl))
  refine QL.load (α := Int) (F := F) (y := t.kids[i].k) rfl rfl rfl (hF2 kb hFk) hF2 (by rw [Int.toNat_natCast]; exact hc2) rfl ?_
  rw [show vOf Int [.int .i64 t.kids[i].k] = .int .i64 t.kids[i].k from rfl]
  skip
  refine QL.call rfl rfl rfl (fun w' h => Rt.mono (lbare_ok w' t.k i t.kids[i].k) (fun v w'' hv => ⟨hv.1, hv.2 ▸ Ext.refl _⟩)) ?_
  refine QL.nil (fun w3 e3 => ?_)
  have hE3 : w.grownBy w3 (some bw) := grown_tr hE (e3.grw (some bw))
  have hb3 := hb2.ext e3
  unfold kidT
  (repeat (apply EX.thenN))
  refine CW.cond rfl (fun h => ?_) (fun h => ?_)
  · rw [if_pos h]
    (repeat (first | (apply WL.pure; rfl; rfl; rfl) | (apply WL.nil) | (apply EX.thenN) | (apply CW.seq) | (apply CW.region) | (apply CW.ret) | (apply EX.thenR)))
    exact EX.ret1 rfl rfl ⟨rfl, hb3, hE3⟩
  · rw [if_neg (by rw [h]; decide)]
    (repeat (first | (apply WL.pure; rfl; rfl; rfl) | (apply EX.thenN) | (apply CW.seq) | (apply CW.region) | (apply CW.skip)))
    refine WL.cat (a := [40]) (b := T) rfl rfl rfl rfl (by simp only [List.length_cons, List.length_nil]; omega) ?_
    refine WL.cat (a := [40] ++ T) (b := [41]) rfl rfl rfl rfl (by simp only [List.length_append, List.length_cons, List.length_nil]; omega) ?_
    (repeat (first | (apply WL.pure; rfl; rfl; rfl) | (apply WL.nil) | (apply EX.thenN) | (apply CW.ret)))
    exact EX.ret1 rfl rfl ⟨rfl, hb3, hE3⟩
set_option maxHeartbeats 1000000 in
theorem ltext_ok : ∀ (m : Nat) (t : Ltl), t.nodes ≤ m → m ≤ 1000 → ShT kidsK t → LText t
  | 0, t, hm, _, _ => by have := t.nodes_pos; omega
  | m + 1, .mk k n kids, hm, hm1, hsh => by
    intro w F bw ao cap no nc nms b hs hn hF hnb hb
    obtain ⟨hk, h0, h63, hkids⟩ := shT_inv hsh
    simp only [Ltl.nodes] at hm
    have hnd : ∀ i (hi : i < kids.length), kids[i].nodes ≤ m := fun i hi => by have := Ltl.nodes_kid kids _ (List.getElem_mem hi); omega
    have ihk : ∀ i (hi : i < kids.length), LText kids[i] := fun i hi => ltext_ok m kids[i] (hnd i hi) (by omega) (hkids _ (List.getElem_mem hi))
    have htl : ∀ i (hi : i < kids.length), (txtL (nmL nms) kids[i]).length ≤ 8000 := fun i hi => by have := txtL_len (nmL_len nms) kids[i]; have := hnd i hi; omega
    have hbl := hb.lt
    simp only [mk_kids] at hs
    simp only [mk_k, mk_n, mk_kids]
    refine Rt.enter2 Tryz.func37 Tryz.ntmps37 rfl rfl ?_
    (repeat (first | (apply CW.seq) | (apply CW.region)))
    refine WL.boxB rfl rfl rfl fun w1 hb3 e1 => ?_
    have hF1 : ∀ k, F k → k < w1.heap.size := fun k hk => Nat.lt_of_lt_of_le (hF k hk) e1.size
    have hs1 : Sl w1 F ao cap kids := hs.mono (fun k hk => e1.block k (hF k hk)) fun _ h => h
    have hn1 : Sl w1 F no nc nms := hn.mono (fun k hk => e1.block k (hF k hk)) fun _ h => h
    have hb1 := hb.ext e1
    have hg1 : w.grownBy w1 (some bw) := e1.grw (some bw)
    have hl3 := hb3.lt
    (repeat (first | (apply WL.pure; rfl; rfl; rfl) | (apply WL.nil) | (apply EX.thenN) | (apply CW.seq) | (apply CW.region) | (apply WL.fa; rfl; rfl; rfl) | (apply WL.ld; rfl; rfl; rfl; assumption; rfl) | (apply CW.block)))
    refine CW.cond rfl (fun h => ?_) (fun h => ?_)
    · obtain rfl : k = 1 := by simpa using h
      obtain rfl : kids = [] := List.eq_nil_of_length_eq_zero (by have : kidsK 1 = 0 := rfl; omega)
      (repeat (first | (apply WL.pure; rfl; rfl; rfl) | (apply WL.nil) | (apply EX.thenN) | (apply CW.seq) | (apply CW.region) | (apply CW.ret) | (apply EX.thenR) | (apply EX.inR)))
      exact EX.ret1 rfl rfl ⟨rfl, by simpa [badF, badFs] using hb1, hg1⟩
    have k1 : ¬ k = 1 := by simpa using h
    (repeat (first | (apply WL.pure; rfl; rfl; rfl) | (apply WL.nil) | (apply EX.thenN) | (apply CW.seq) | (apply CW.region)))
    refine CW.cond rfl (fun h => ?_) (fun h => ?_)
    · obtain rfl : k = 2 := by simpa using h
      obtain rfl : kids = [] := List.eq_nil_of_length_eq_zero (by have : kidsK 2 = 0 := rfl; omega)
      (repeat (first | (apply WL.pure; rfl; rfl; rfl) | (apply WL.nil) | (apply EX.thenN) | (apply CW.seq) | (apply CW.region) | (apply CW.ret) | (apply EX.thenR) | (apply EX.inR)))
      exact EX.ret1 rfl rfl ⟨rfl, by simpa [badF, badFs] using hb1, hg1⟩
    have k2 : ¬ k = 2 := by simpa using h
    (repeat (first | (apply WL.pure; rfl; rfl; rfl) | (apply WL.nil) | (apply EX.thenN) | (apply CW.seq) | (apply CW.region)))
    refine CW.cond rfl (fun h => ?_) (fun h => ?_)
    · obtain rfl : k = 3 := by simpa using h
      obtain rfl : kids = [] := List.eq_nil_of_length_eq_zero (by have : kidsK 3 = 0 := rfl; omega)
      (repeat (first | (apply QL.pure; rfl; rfl; rfl) | (apply CW.seq) | (apply QL.fa; rfl; rfl; rfl) | (apply QL.nck; rfl; rfl; rfl) | (apply QL.ld; rfl; rfl; rfl; assumption; rfl) | (apply CW.draw; exact mixed; kernel_rfl)))
      refine QL.call rfl rfl rfl (fun w' h => lname_ok w' ((hn1.mono (fun k hk => h.block k (hF1 k hk)) fun _ h => h).lift fun k hk => Nat.lt_of_lt_of_le (hF1 k hk) h.size) n h0) ?_
      (repeat (apply QL.pure; rfl; rfl; rfl))
      refine QL.nil (fun w2 e2 => ?_)
      have hb2 := hb1.ext e2
      (repeat (first | (apply WL.pure; rfl; rfl; rfl) | (apply EX.thenN) | (apply CW.seq) | (apply CW.region) | (apply WL.fa; rfl; rfl; rfl) | (apply WL.nck; rfl; rfl; rfl) | (apply WL.ld; rfl; rfl; rfl; assumption; rfl)))
      (refine WL.lookG rfl rfl (fun h => ?_) (fun h => ?_))
      · (repeat (first | (apply WL.pure; rfl; rfl; rfl) | (apply WL.pass; rfl; rfl) | (apply WL.fa; rfl; rfl; rfl) | (apply WL.nck; rfl; rfl; rfl)))
        refine WL.st rfl rfl rfl hb2 rfl rfl (ones_of rfl) (fun w3 hb23 hg3 => ?_)
        (repeat (first | (apply WL.pure; rfl; rfl; rfl) | (apply WL.nil) | (apply EX.thenN) | (apply CW.seq) | (apply CW.region) | (apply CW.ret) | (apply EX.thenR) | (apply EX.inR)))
        refine EX.ret1 rfl rfl ⟨by simp [txtL, joinL], ?_, grown_tr (grown_tr hg1 (e2.grw _)) hg3⟩
        rw [h]; exact hb23
      · (repeat (first | (apply WL.pure; rfl; rfl; rfl) | (apply WL.fa; rfl; rfl; rfl) | (apply WL.nck; rfl; rfl; rfl)))
        refine WL.st rfl rfl rfl hb2 rfl rfl (ones_of rfl) (fun w3 hb23 hg3 => ?_)
        (repeat (first | (apply WL.pure; rfl; rfl; rfl) | (apply WL.nil) | (apply EX.thenN) | (apply CW.seq) | (apply CW.region) | (apply CW.ret) | (apply EX.thenR) | (apply EX.inR)))
        refine EX.ret1 rfl rfl ⟨by simp [txtL, joinL], ?_, grown_tr (grown_tr hg1 (e2.grw _)) hg3⟩
        rw [h, show (false || badF (nmL nms) (.mk 3 n [])) = ((txA (nmL nms n)).data.toList == (⟨#[]⟩ : ByteArray).data.toList) by rw [txA_list]; simp [badF, badFs]]
        exact hb23
    have k3 : ¬ k = 3 := by simpa using h
    -- one kid
    have hone : ∀ K, kidsK K = 1 → k = K → ∃ x, kids = [x] := fun K hK e => List.length_eq_one_iff.1 (by rw [e] at hk; omega)
    have hkid : ∀ i (hi : i < kids.length), _ := fun i hi => lkid_ok (t := .mk k n kids) (i := i) hi (ihk i hi) (by have := hnd i hi; show kids[i].nodes ≤ 1000; omega) w1 F bw ao cap no nc nms b hs1 hn1 hF1 hnb hb1
    simp only [mk_k, mk_n, mk_kids] at hkid
    (repeat (first | (apply WL.pure; rfl; rfl; rfl) | (apply WL.nil) | (apply EX.thenN) | (apply CW.seq) | (apply CW.region)))
    refine CW.cond rfl (fun h => ?_) (fun h => ?_)
    · have hk4 : k = 4 := by simpa using h
      obtain ⟨x, rfl⟩ := hone 4 rfl hk4
      have hlx := htl 0 (by simp)
      have hky := kidT_len (bareL k ((0 : Nat) : Int) x.k) (txtL (nmL nms) x)
      simp only [List.getElem_cons_zero] at hlx
      (repeat (first | (apply WL.pure; rfl; rfl; rfl) | (apply CW.seq) | (apply CW.region) | (apply WL.ldA; rfl; rfl; rfl; assumption; rfl)))
      refine WL.call rfl rfl rfl (hkid 0 (by simp)) ?_
      rintro _ w2 ⟨rfl, hb2, hg2⟩
      simp only [List.getElem_cons_zero] at hb2 ⊢
      refine WL.cat (a := [33]) rfl rfl rfl rfl (by simp only [List.length_cons, List.length_nil]; omega) ?_
      (repeat (first | (apply WL.pure; rfl; rfl; rfl) | (apply WL.nil) | (apply EX.thenN) | (apply CW.ret) | (apply EX.thenR) | (apply EX.inR)))
      subst hk4
      exact EX.ret1 rfl rfl ⟨by simp [txtL, txtLs, joinL], by simpa [badF, badFs] using hb2, grown_tr hg1 hg2⟩
    (repeat (first | (apply WL.pure; rfl; rfl; rfl) | (apply WL.nil) | (apply EX.thenN) | (apply CW.seq) | (apply CW.region)))
    refine CW.cond rfl (fun h => ?_) (fun h => ?_)
    · have hk4 : k = 7 := by simpa using h
      obtain ⟨x, rfl⟩ := hone 7 rfl hk4
      have hlx := htl 0 (by simp)
      have hky := kidT_len (bareL k ((0 : Nat) : Int) x.k) (txtL (nmL nms) x)
      simp only [List.getElem_cons_zero] at hlx
      (repeat (first | (apply WL.pure; rfl; rfl; rfl) | (apply CW.seq) | (apply CW.region) | (apply WL.ldA; rfl; rfl; rfl; assumption; rfl)))
      refine WL.call rfl rfl rfl (hkid 0 (by simp)) ?_
      rintro _ w2 ⟨rfl, hb2, hg2⟩
      simp only [List.getElem_cons_zero] at hb2 ⊢
      refine WL.cat (a := [88, 32]) rfl rfl rfl rfl (by simp only [List.length_cons, List.length_nil]; omega) ?_
      (repeat (first | (apply WL.pure; rfl; rfl; rfl) | (apply WL.nil) | (apply EX.thenN) | (apply CW.ret) | (apply EX.thenR) | (apply EX.inR)))
      subst hk4
      exact EX.ret1 rfl rfl ⟨by simp [txtL, txtLs, joinL], by simpa [badF, badFs] using hb2, grown_tr hg1 hg2⟩
    (repeat (first | (apply WL.pure; rfl; rfl; rfl) | (apply WL.nil) | (apply EX.thenN) | (apply CW.seq) | (apply CW.region)))
    refine CW.cond rfl (fun h => ?_) (fun h => ?_)
    · have hk4 : k = 10 := by simpa using h
      obtain ⟨x, rfl⟩ := hone 10 rfl hk4
      have hlx := htl 0 (by simp)
      have hky := kidT_len (bareL k ((0 : Nat) : Int) x.k) (txtL (nmL nms) x)
      simp only [List.getElem_cons_zero] at hlx
      (repeat (first | (apply WL.pure; rfl; rfl; rfl) | (apply CW.seq) | (apply CW.region) | (apply WL.ldA; rfl; rfl; rfl; assumption; rfl)))
      refine WL.call rfl rfl rfl (hkid 0 (by simp)) ?_
      rintro _ w2 ⟨rfl, hb2, hg2⟩
      simp only [List.getElem_cons_zero] at hb2 ⊢
      refine WL.cat (a := [70, 32]) rfl rfl rfl rfl (by simp only [List.length_cons, List.length_nil]; omega) ?_
      (repeat (first | (apply WL.pure; rfl; rfl; rfl) | (apply WL.nil) | (apply EX.thenN) | (apply CW.ret) | (apply EX.thenR) | (apply EX.inR)))
      subst hk4
      exact EX.ret1 rfl rfl ⟨by simp [txtL, txtLs, joinL], by simpa [badF, badFs] using hb2, grown_tr hg1 hg2⟩
    (repeat (first | (apply WL.pure; rfl; rfl; rfl) | (apply WL.nil) | (apply EX.thenN) | (apply CW.seq) | (apply CW.region)))
    refine CW.cond rfl (fun h => ?_) (fun h => ?_)
    · have hk4 : k = 11 := by simpa using h
      obtain ⟨x, rfl⟩ := hone 11 rfl hk4
      have hlx := htl 0 (by simp)
      have hky := kidT_len (bareL k ((0 : Nat) : Int) x.k) (txtL (nmL nms) x)
      simp only [List.getElem_cons_zero] at hlx
      (repeat (first | (apply WL.pure; rfl; rfl; rfl) | (apply CW.seq) | (apply CW.region) | (apply WL.ldA; rfl; rfl; rfl; assumption; rfl)))
      refine WL.call rfl rfl rfl (hkid 0 (by simp)) ?_
      rintro _ w2 ⟨rfl, hb2, hg2⟩
      simp only [List.getElem_cons_zero] at hb2 ⊢
      refine WL.cat (a := [71, 32]) rfl rfl rfl rfl (by simp only [List.length_cons, List.length_nil]; omega) ?_
      (repeat (first | (apply WL.pure; rfl; rfl; rfl) | (apply WL.nil) | (apply EX.thenN) | (apply CW.ret) | (apply EX.thenR) | (apply EX.inR)))
      subst hk4
      exact EX.ret1 rfl rfl ⟨by simp [txtL, txtLs, joinL], by simpa [badF, badFs] using hb2, grown_tr hg1 hg2⟩
    -- two kids
    have hbin : (k = 5 ∨ k = 6 ∨ k = 8 ∨ k = 9) ∧ kids.length = 2 := by
      rcases kidsK_nat hk with ⟨_, e⟩ | ⟨_, e⟩ | ⟨e1, e⟩
      · omega
      · simp only [beq_iff_eq, beq_eq_false_iff_ne] at *; omega
      · exact ⟨e, e1⟩
    obtain ⟨hbk, hk2⟩ := hbin
    obtain ⟨x, y, rfl⟩ : ∃ x y, kids = [x, y] := by
      match kids, hk2 with
      | [x, y], _ => exact ⟨x, y, rfl⟩
    have hlx := htl 0 (by simp)
    have hly := htl 1 (by simp)
    simp only [List.getElem_cons_zero, List.getElem_cons_succ] at hlx hly
    have hkx := kidT_len (bareL k ((0 : Nat) : Int) x.k) (txtL (nmL nms) x)
    have hky := kidT_len (bareL k ((1 : Nat) : Int) y.k) (txtL (nmL nms) y)
    obtain ⟨ki, rfl, hki, hsg⟩ : ∃ i : Nat, k = (i : Int) ∧ i < 10 ∧ nthV [noT, noT, noT, noT, noT, tV [38], tV [47], noT, tV [85], tV [82]] i = some (tV (sigL k)) := by
      rcases hbk with rfl | rfl | rfl | rfl
      · exact ⟨5, rfl, by decide, rfl⟩
      · exact ⟨6, rfl, by decide, rfl⟩
      · exact ⟨8, rfl, by decide, rfl⟩
      · exact ⟨9, rfl, by decide, rfl⟩
    have hsl : (sigL (ki : Int)).length ≤ 1 := by unfold sigL; (repeat' split) <;> decide
    generalize hsig : sigL (ki : Int) = sg at *
    (repeat (first | (apply EX.thenN) | (apply CW.seq) | (apply CW.region) | (apply EX.inN) | (apply CW.skip)))
    refine WL.buildAr (out := [noT, noT, noT, noT, noT, tV [38], tV [47], noT, tV [85], tV [82]]) rfl rfl rfl rfl ?_
    (repeat (first | (apply WL.fa; rfl; rfl; rfl) | (apply WL.ld; rfl; rfl; rfl; assumption; rfl)))
    refine WL.indexAr rfl rfl rfl rfl hki hsg ?_
    (repeat (first | (apply WL.pure; rfl; rfl; rfl) | (apply WL.nil) | (apply EX.thenN) | (apply CW.seq)))
    have hD : Ext w1 (drew w1) := Ext.drew w1
    have hb3d := hb3.ext hD
    refine CW.drawH (fun z : World => z.heap[w.heap.size]? = (drew w1).heap[w.heap.size]?) [(0, true), (1, true), (4, true), (7, true), (8, true), (2, false), (3, true), (5, true), (6, true), (9, false), (10, true), (11, true)] mixed (by kernel_rfl) rfl ?_
    have hKS : ∀ z : World, (fun z : World => z.heap[w.heap.size]? = (drew w1).heap[w.heap.size]?) z → Blk z w.heap.size 28 [.int .i64 (ki : Int), .int .i64 n, .slice ao 2 cap] := fun z hz => hz.trans hb3d
    (repeat (apply HL.pure; rfl; rfl; rfl; rfl))
    refine HL.ldAS hKS rfl rfl rfl rfl rfl ?_
    (repeat (apply HL.pure; rfl; rfl; rfl; rfl))
    refine HL.ldAS hKS rfl rfl rfl rfl rfl ?_
    refine HL.mut rfl (WL.call rfl rfl rfl (lkid_ok (t := .mk (ki : Int) n [x, y]) (i := 0) (by simp [mk_kids]) (ihk 0 (by simp)) (by have := hnd 0 (by simp); show x.nodes ≤ 1000; simp only [List.getElem_cons_zero] at this; omega) (drew w1) F bw ao cap no nc nms b (hs1.mono (fun k hk => hD.block k (hF1 k hk)) fun _ h => h) (hn1.mono (fun k hk => hD.block k (hF1 k hk)) fun _ h => h) hF1 hnb (hb1.ext hD)) ?_)
    rintro _ w2 ⟨rfl, hb2, hg2⟩
    have hw2 : w2.heap[w.heap.size]? = (drew w1).heap[w.heap.size]? := hg2.block _ hl3 (fun e => by have := Option.some.inj e; omega)
    have hF2 : ∀ k, F k → k < w2.heap.size := fun k hk => Nat.lt_of_lt_of_le (hF1 k hk) hg2.size
    have hgd : w1.grownBy w2 (some bw) := grown_tr (hD.grw _) hg2
    have hbk2 : ∀ k, F k → w2.heap[k]? = w1.heap[k]? := fun k hk => hgd.block k (hF1 k hk) (fun e => by cases e; exact hnb hk)
    refine WL.nil (EX.mut hw2 ?_)
    simp only [mk_k, mk_kids, List.getElem_cons_zero] at hb2 ⊢
    refine HL.cat (b := [32]) rfl rfl rfl rfl rfl (by simp only [List.length_cons, List.length_nil]; omega) ?_
    refine HL.cat (b := sg) rfl rfl rfl rfl rfl (by simp only [List.length_append, List.length_cons, List.length_nil]; omega) ?_
    refine HL.cat (b := [32]) rfl rfl rfl rfl rfl (by simp only [List.length_append, List.length_cons, List.length_nil]; omega) ?_
    refine HL.mut rfl (WL.call rfl rfl rfl (lkid_ok (t := .mk (ki : Int) n [x, y]) (i := 1) (by simp [mk_kids]) (ihk 1 (by simp)) (by have := hnd 1 (by simp); show y.nodes ≤ 1000; simp only [List.getElem_cons_succ, List.getElem_cons_zero] at this; omega) w2 F bw ao cap no nc nms _ (hs1.mono hbk2 fun _ h => h) (hn1.mono hbk2 fun _ h => h) hF2 hnb hb2) ?_)
    rintro _ w3 ⟨rfl, hb23, hg3⟩
    have hw3 : w3.heap[w.heap.size]? = (drew w1).heap[w.heap.size]? := (hg3.block _ (by have := hg2.size; have : w1.heap.size ≤ w2.heap.size := this; omega) (fun e => by have := Option.some.inj e; omega)).trans hw2
    refine WL.nil (EX.mut hw3 ?_)
    simp only [mk_k, mk_kids, List.getElem_cons_succ, List.getElem_cons_zero] at hb23 ⊢
    refine HL.cat rfl rfl rfl rfl rfl (by simp only [List.length_append, List.length_cons, List.length_nil]; omega) ?_
    (repeat (first | (apply HL.pure; rfl; rfl; rfl; rfl) | (apply HL.nil)))
    (repeat (first | (apply EX.thenN) | (apply CW.ret)))
    refine EX.ret1 rfl rfl ⟨by rw [txtL_bin hbk, hsig]; rfl, ?_, grown_tr (grown_tr hg1 hgd) hg3⟩
    rw [show (b || badF (nmL nms) (.mk (ki : Int) n [x, y])) = (b || badF (nmL nms) x || badF (nmL nms) y) by
      have : ((ki : Int) == 3) = false := by rcases hbk with e | e | e | e <;> rw [e] <;> rfl
      simp [badF, badFs, this, Bool.or_assoc]]
    exact hb23
theorem lprint_ok (w0 : World) {ao no : Option Addr} {cap nc : Nat} {t : Ltl} {nms : List ByteArray} (hs : Sl w0 (Old w0) ao cap t.kids) (hn : Sl w0 (Old w0) no nc nms) :
    Rt Tryz.prog 21 [ltlV t.k t.n ao t.kids.length cap, .slice no nms.length nc].toArray w0 fun v w' => v = .tuple ⟨[tV (printL t nms).1, .int .i64 (printL t nms).2]⟩ ∧ Ext w0 w' := by
  refine Rt.enter2 Tryz.func21 Tryz.ntmps21 rfl rfl ?_
  unfold printL
  (repeat (first | (apply CW.seq) | (apply CW.region)))
  refine WL.boxB rfl rfl rfl fun w1 hb2 e1 => ?_
  (repeat (first | (apply WL.pure; rfl; rfl; rfl) | (apply WL.nil) | (apply EX.thenN) | (apply CW.seq) | (apply CW.region) | (apply WL.ldA; rfl; rfl; rfl; assumption; rfl)))
  refine WL.call rfl rfl rfl (ltlCheck w1 (hs.up e1) (fun _ h => h)) ?_
  rintro _ w2 ⟨rfl, e2⟩
  have hb2 := hb2.ext e2
  have hE := e1.trans e2
  (repeat (first | (apply WL.pure; rfl; rfl; rfl) | (apply WL.nil) | (apply EX.thenN) | (apply CW.seq) | (apply CW.region)))
  refine CW.cond rfl (fun h => ?_) (fun h => ?_)
  · rw [if_pos (by simpa using h)]
    (repeat (first | (apply WL.pure; rfl; rfl; rfl) | (apply WL.nil) | (apply EX.thenN) | (apply CW.seq) | (apply CW.region) | (apply CW.ret) | (apply EX.thenR)))
    exact EX.ret2 rfl rfl rfl ⟨rfl, hE⟩
  have hc : (chkF t 1 0).1 = 0 := by simpa using h
  rw [if_neg (by simpa using h)]
  obtain ⟨hsh, hnn⟩ := chkF_sh t 1 0 hc
  have hle := (chkF_le t 1 0 hc).2
  (repeat (first | (apply WL.pure; rfl; rfl; rfl) | (apply EX.thenN) | (apply CW.seq) | (apply CW.region) | (apply CW.skip)))
  refine WL.build rfl rfl rfl rfl ?_
  refine WL.boxB rfl rfl rfl fun w3 hb16 e3 => ?_
  have hb2 := hb2.ext e3
  have hE3 := hE.trans e3
  (repeat (first | (apply WL.pure; rfl; rfl; rfl) | (apply WL.nil) | (apply EX.thenN) | (apply CW.seq) | (apply CW.region) | (apply WL.ldA; rfl; rfl; rfl; assumption; rfl)))
  refine WL.call rfl rfl rfl (ltext_ok t.nodes t (Nat.le_refl _) (by omega) hsh w3 (Old w0) w2.heap.size ao cap no nc nms false (hs.at hE3) (hn.at hE3) (fun k hk => Nat.lt_of_lt_of_le hk hE3.size) (fun hk => by have h1 : w2.heap.size < w0.heap.size := hk; have := hE.size; omega) hb16) ?_
  rintro _ w4 ⟨rfl, hb4, hg4⟩
  have hE4 : Ext w0 w4 := hE3.grown hg4 hE3.size (fun g hg => by cases hg; exact hE.size)
  rw [Bool.false_or] at hb4
  (repeat (first | (apply WL.pure; rfl; rfl; rfl) | (apply WL.nil) | (apply EX.thenN) | (apply CW.seq) | (apply CW.region) | (apply WL.fa; rfl; rfl; rfl) | (apply WL.nck; rfl; rfl; rfl) | (apply WL.ld; rfl; rfl; rfl; assumption; rfl)))
  refine CW.cond rfl (fun h => ?_) (fun h => ?_)
  · rw [if_pos h]
    (repeat (first | (apply WL.pure; rfl; rfl; rfl) | (apply WL.nil) | (apply EX.thenN) | (apply CW.seq) | (apply CW.region) | (apply CW.ret) | (apply EX.thenR)))
    exact EX.ret2 rfl rfl rfl ⟨rfl, hE4⟩
  · rw [if_neg (by rw [h]; decide)]
    (repeat (first | (apply WL.pure; rfl; rfl; rfl) | (apply WL.nil) | (apply EX.thenN) | (apply CW.seq) | (apply CW.region) | (apply CW.ret) | (apply CW.skip)))
    exact EX.ret2 rfl rfl rfl ⟨rfl, hE4⟩
end Go.Proofs.YtikigaeihdmcaaaGreatDoor

/-
  ctl.Print, walked.
-/
set_option linter.unusedVariables false
set_option linter.unusedSimpArgs false
namespace Go.Proofs.YtikigaeihdmcaaaGreatDoor
open Go.RowKit

mutual
theorem chkC_sh : ∀ (t : Ltl) (d c : Int), (chkC t d c).1 = 0 → ShT kidsC t ∧ (chkC t d c).2 = c + t.nodes
  | .mk k n kids, d, c, h => by
    simp only [chkC] at h ⊢
    split at h
    · cases h
    split at h
    · cases h
    split at h
    · cases h
    rename_i h1 h2 h3
    rw [if_neg h1, if_neg h2, if_neg h3]
    have ⟨g1, g2⟩ := chkCL_sh kids (d + 1) (c + 1) h
    simp only [not_or] at h3
    refine ⟨.mk k n kids (by omega) (by omega) (by omega) g1, ?_⟩
    rw [g2]; simp only [Ltl.nodes]; omega
theorem chkCL_sh : ∀ (l : List Ltl) (d c : Int), (chkCL l d c).1 = 0 → (∀ x ∈ l, ShT kidsC x) ∧ (chkCL l d c).2 = c + Ltl.nodesL l
  | [], d, c, h => ⟨fun x hx => by (cases hx), by simp [chkCL, Ltl.nodesL]⟩
  | y :: r, d, c, h => by
    simp only [chkCL] at h ⊢
    split at h
    · rename_i h1; exact absurd h h1
    rename_i h1
    rw [if_neg h1]
    have ⟨g1, g2⟩ := chkC_sh y d c (by simpa using h1)
    have ⟨g3, g4⟩ := chkCL_sh r d _ h
    refine ⟨fun x hx => ?_, ?_⟩
    · rcases List.mem_cons.1 hx with rfl | hx
      · exact g1
      · exact g3 x hx
    · rw [g4, g2]; simp only [Ltl.nodesL]; omega
end
theorem txtC_bin {nm : Int → Bys} {n : Int} {x y : Ltl} :
    txtC nm (.mk 5 n [x, y]) = kidT (bareC 5 0 x.k) (txtC nm x) ++ [32, 38, 32] ++ kidT (bareC 5 1 y.k) (txtC nm y) ∧ txtC nm (.mk 6 n [x, y]) = kidT (bareC 6 0 x.k) (txtC nm x) ++ [32, 47, 32] ++ kidT (bareC 6 1 y.k) (txtC nm y) ∧
    txtC nm (.mk 10 n [x, y]) = [69, 32, 91] ++ txtC nm x ++ [32, 85, 32] ++ txtC nm y ++ [93] ∧ txtC nm (.mk 14 n [x, y]) = [65, 32, 91] ++ txtC nm x ++ [32, 85, 32] ++ txtC nm y ++ [93] := by
  refine ⟨?_, ?_, ?_, ?_⟩ <;> simp [txtC, txtCs, joinC]
theorem txtC_one {nm : Int → Bys} {k n : Int} {x : Ltl} (hk : k = 4 ∨ k = 7 ∨ k = 8 ∨ k = 9 ∨ k = 11 ∨ k = 12 ∨ k = 13) : txtC nm (.mk k n [x]) = sigC k ++ kidT (bareC k 0 x.k) (txtC nm x) := by
  rcases hk with rfl | rfl | rfl | rfl | rfl | rfl | rfl <;> simp [txtC, txtCs, joinC]
theorem badC_two {nm : Int → Bys} {k n : Int} {x y : Ltl} (hk : k ≠ 3) (b : Bool) : (b || badF nm (.mk k n [x, y])) = (b || badF nm x || badF nm y) := by
  have : (k == 3) = false := by simpa using hk
  simp [badF, badFs, this, Bool.or_assoc]
theorem badC_one {nm : Int → Bys} {k n : Int} {x : Ltl} (hk : k ≠ 3) (b : Bool) : (b || badF nm (.mk k n [x])) = (b || badF nm x) := by
  have : (k == 3) = false := by simpa using hk
  simp [badF, badFs, this]
instance iPrc1 : IsFd Tryz.prog 85 0 0 := IsFd.of (by kernel_rfl)
instance iPrc2 : IsFd Tryz.prog 85 1 1 := IsFd.of (by kernel_rfl)
instance iPrc3 : IsBd Tryz.prog 85 [(0, 1), (1, 1)] := IsBd.of (by kernel_rfl)
instance iPrc4 : IsZC Tryz.prog 85 [.slice none 0 0, .bool false] := IsZC.of (z := .agg #[.slice none 0 0, .bool false]) (by kernel_rfl) rfl
instance iPrc5 : IsC Tryz.prog 85 2 true := IsC.of (by kernel_rfl) Tryz.underlying85 rfl
instance iPrc6 : IsAr Tryz.prog 118 14 9 := ⟨Tryz.underlying118⟩
abbrev noTC : Value := .string ⟨#[]⟩
instance iPrc7 : IsZC Tryz.prog 118 [noTC, noTC, noTC, noTC, noTC, noTC, noTC, noTC, noTC, noTC, noTC, noTC, noTC, noTC] := IsZC.of (z := .agg #[noTC, noTC, noTC, noTC, noTC, noTC, noTC, noTC, noTC, noTC, noTC, noTC, noTC, noTC]) (by kernel_rfl) rfl
theorem csign_ok (w0 : World) {k : Int} (hk : k = 4 ∨ k = 7 ∨ k = 8 ∨ k = 9 ∨ k = 11 ∨ k = 12 ∨ k = 13) : Rt Tryz.prog 57 [.int .i64 k].toArray w0 fun v w' => v = tV (sigC k) ∧ Ext w0 w' := by
  obtain ⟨ki, rfl, hki, hsg⟩ : ∃ i : Nat, k = (i : Int) ∧ i < 14 ∧ nthV [noTC, noTC, noTC, noTC, tV [33], noTC, noTC, tV [69, 88, 32], tV [69, 70, 32], tV [69, 71, 32], noTC, tV [65, 88, 32], tV [65, 70, 32], tV [65, 71, 32]] i = some (tV (sigC k)) := by
    rcases hk with rfl | rfl | rfl | rfl | rfl | rfl | rfl
    · exact ⟨4, rfl, by decide, rfl⟩
    · exact ⟨7, rfl, by decide, rfl⟩
    · exact ⟨8, rfl, by decide, rfl⟩
    · exact ⟨9, rfl, by decide, rfl⟩
    · exact ⟨11, rfl, by decide, rfl⟩
    · exact ⟨12, rfl, by decide, rfl⟩
    · exact ⟨13, rfl, by decide, rfl⟩
  generalize sigC (ki : Int) = sg at *
  refine Rt.enter1 Tryz.func57 Tryz.ntmps57 rfl rfl ?_
  (repeat (first | (apply WL.pure; rfl; rfl; rfl) | (apply WL.nil) | (apply EX.thenN) | (apply CW.seq) | (apply CW.region)))
  refine WL.buildAr (out := [noTC, noTC, noTC, noTC, tV [33], noTC, noTC, tV [69, 88, 32], tV [69, 70, 32], tV [69, 71, 32], noTC, tV [65, 88, 32], tV [65, 70, 32], tV [65, 71, 32]]) rfl rfl rfl rfl ?_
  (repeat (apply WL.pure; rfl; rfl; rfl))
  refine WL.indexAr rfl rfl rfl rfl hki hsg ?_
  (repeat (first | (apply WL.pure; rfl; rfl; rfl) | (apply WL.nil) | (apply EX.thenN) | (apply CW.ret)))
  exact EX.ret1 rfl rfl ⟨rfl, Ext.refl _⟩
theorem cbare_ok (w0 : World) (k i x : Int) : Rt Tryz.prog 74 [.int .i64 k, .int .i64 i, .int .i64 x].toArray w0 fun v w' => v = .bool (bareC k i x) ∧ w0 = w' := by
  refine Rt.enter3 Tryz.func74 Tryz.ntmps74 rfl rfl ?_
  unfold bareC
  (repeat (first | (apply WL.pure; rfl; rfl; rfl) | (apply WL.nil) | (apply EX.thenN) | (apply CW.seq) | (apply CW.region) | (apply CW.block)))
  refine CW.cond rfl (fun h => ?_) (fun h => ?_)
  · have hx : x = 5 := by simpa using h
    rw [if_pos hx]
    clear h
    (repeat (first | (apply WL.pure; rfl; rfl; rfl) | (apply CW.seq) | (apply CW.region)))
    (refine WL.lookG rfl rfl (fun h => ?_) (fun h => ?_))
    · (repeat (first | (apply WL.pure; rfl; rfl; rfl) | (apply WL.nil) | (apply EX.thenN) | (apply WL.pass; rfl; rfl) | (apply CW.ret) | (apply EX.thenR) | (apply EX.inR)))
      exact EX.ret1 rfl rfl ⟨by rw [h]; rfl, rfl⟩
    · rw [h]
      clear h
      (repeat (apply WL.pure; rfl; rfl; rfl))
      (refine WL.lookG rfl rfl (fun h => ?_) (fun h => ?_))
      · (repeat (first | (apply WL.pure; rfl; rfl; rfl) | (apply WL.nil) | (apply EX.thenN) | (apply CW.ret) | (apply EX.thenR) | (apply EX.inR)))
        exact EX.ret1 rfl rfl ⟨by rw [h]; rfl, rfl⟩
      · (repeat (first | (apply WL.pure; rfl; rfl; rfl) | (apply WL.nil) | (apply EX.thenN) | (apply WL.pass; rfl; rfl) | (apply CW.ret) | (apply EX.thenR) | (apply EX.inR)))
        exact EX.ret1 rfl rfl ⟨by rw [h]; rfl, rfl⟩
  have h5 : ¬ x = 5 := by simpa using h
  rw [if_neg h5]
  (repeat (first | (apply WL.pure; rfl; rfl; rfl) | (apply WL.nil) | (apply EX.thenN) | (apply CW.seq) | (apply CW.region)))
  refine CW.cond rfl (fun h => ?_) (fun h => ?_)
  · have h : x = 6 := by simpa using h
    rw [if_pos h]
    clear h
    (repeat (first | (apply WL.pure; rfl; rfl; rfl) | (apply CW.seq) | (apply CW.region)))
    (refine WL.lookG rfl rfl (fun h => ?_) (fun h => ?_))
    · (repeat (first | (apply WL.pure; rfl; rfl; rfl) | (apply WL.nil) | (apply EX.thenN) | (apply CW.ret) | (apply EX.thenR) | (apply EX.inR)))
      exact EX.ret1 rfl rfl ⟨by rw [h]; rfl, rfl⟩
    · (repeat (first | (apply WL.pure; rfl; rfl; rfl) | (apply WL.nil) | (apply EX.thenN) | (apply WL.pass; rfl; rfl) | (apply CW.ret) | (apply EX.thenR) | (apply EX.inR)))
      exact EX.ret1 rfl rfl ⟨by rw [h]; rfl, rfl⟩
  have h6 : ¬ x = 6 := by simpa using h
  rw [if_neg h6]
  (repeat (first | (apply WL.pure; rfl; rfl; rfl) | (apply WL.nil) | (apply EX.thenN) | (apply CW.seq) | (apply CW.region) | (apply EX.inN) | (apply CW.ret) | (apply CW.skip)))
  exact EX.ret1 rfl rfl ⟨rfl, rfl⟩
/-- a writer of texts -/
abbrev WrC (w : World) (bw : Nat) (no : Option Addr) (len nc : Nat) (b : Bool) : Prop := Blk w bw 85 [.slice no len nc, .bool b]
def CText (t : Ltl) : Prop := ∀ (w : World) (F : Nat → Prop) (bw : Nat) (ao : Option Addr) (cap : Nat) (no : Option Addr) (nc : Nat) (nms : List ByteArray) (b : Bool), Sl w F ao cap t.kids → Sl w F no nc nms → (∀ k, F k → k < w.heap.size) → ¬ F bw → WrC w bw no nms.length nc b →
  Rt Tryz.prog 39 [.pointer (some ⟨bw, 0, none⟩), ltlV t.k t.n ao t.kids.length cap].toArray w fun v w' => v = tV (txtC (nmL nms) t) ∧ WrC w' bw no nms.length nc (b || badF (nmL nms) t) ∧ w.grownBy w' (some bw)
theorem ckid_ok {t : Ltl} {i : Nat} (hi : i < t.kids.length) (ih : CText t.kids[i]) (hl : t.kids[i].nodes ≤ 1000) (w : World) (F : Nat → Prop) (bw : Nat) (ao : Option Addr) (cap : Nat) (no : Option Addr) (nc : Nat) (nms : List ByteArray) (b : Bool)
    (hs : Sl w F ao cap t.kids) (hn : Sl w F no nc nms) (hF : ∀ k, F k → k < w.heap.size) (hnb : ¬ F bw) (hb : WrC w bw no nms.length nc b) :
    Rt Tryz.prog 56 [.pointer (some ⟨bw, 0, none⟩), ltlV t.k t.n ao t.kids.length cap, .int .i64 (i : Int)].toArray w fun v w' => v = tV (kidT (bareC t.k i t.kids[i].k) (txtC (nmL nms) t.kids[i])) ∧ WrC w' bw no nms.length nc (b || badF (nmL nms) t.kids[i]) ∧ w.grownBy w' (some bw) := by
  have hm := hs.len63
  have hbl := hb.lt
  have htl := txtC_len (nmL_len nms) t.kids[i]
  obtain ⟨kb, koff, rfl, hFk, es, hcl, hrd⟩ := hs.el i hi
  refine Rt.enter3 Tryz.func56 Tryz.ntmps56 rfl rfl ?_
  (repeat (first | (apply CW.seq) | (apply CW.region)))
  refine WL.boxB rfl rfl rfl fun w1 hb4 e1 => ?_
  have hF1 : ∀ k, F k → k < w1.heap.size := fun k hk => Nat.lt_of_lt_of_le (hF k hk) e1.size
  have hs1 : Sl w1 F _ cap t.kids := hs.mono (fun k hk => e1.block k (hF k hk)) fun _ h => h
  have hn1 : Sl w1 F no nc nms := hn.mono (fun k hk => e1.block k (hF k hk)) fun _ h => h
  (repeat (first | (apply WL.pure; rfl; rfl; rfl) | (apply WL.nil) | (apply EX.thenN) | (apply CW.seq) | (apply CW.region) | (apply WL.fa; rfl; rfl; rfl) | (apply WL.ld; rfl; rfl; rfl; assumption; rfl)))
  refine WL.elemN rfl rfl rfl rfl rfl hs1 hi (fun _ => rfl) (fun u q hu => ?_)
  obtain ⟨ao', cap', rfl, hx⟩ := hu.ltl
  skip
  refine WL.call rfl rfl rfl (ih w1 F bw ao' cap' no nc nms b hx hn1 hF1 hnb (hb.ext e1)) ?_
  rintro _ w2 ⟨rfl, hb2, hg2⟩
  have hb42 := hb4.kept hg2 (fun e => by have := Option.some.inj e; omega)
  have hF2 : ∀ k, F k → k < w2.heap.size := fun k hk => Nat.lt_of_lt_of_le (hF1 k hk) hg2.size
  have hk2 : w2.heap[kb]? = w.heap[kb]? := (hg2.block kb (hF1 kb hFk) (fun e => by cases e; exact hnb hFk)).trans (e1.block kb (hF kb hFk))
  have hc2 : Cells w2 kb (koff + i * sz Ltl) [.int .i64 t.kids[i].k] := kid_cells (Rep.mono hrd (fun k hk => (hg2.block k (hF1 k hk) (fun e => by cases e; exact hnb hk)).trans (e1.block k (hF k hk))) fun _ h => h) (hcl.mono hk2)
  have hE : w.grownBy w2 (some bw) := grown_tr (e1.grw (some bw)) hg2
  generalize hT : txtC (nmL nms) t.kids[i] = T at *
  (repeat (first | (apply WL.pure; rfl; rfl; rfl) | (apply QL.pure; rfl; rfl; rfl) | (apply WL.nil) | (apply EX.thenN) | (apply CW.seq) | (apply QL.fa; rfl; rfl; rfl) | (apply QL.ld; rfl; rfl; rfl; assumption; rfl) | (apply CW.draw; exact mixed; kernel_rfl)))
  refine QL.idx (α := Ltl) rfl rfl rfl rfl (by omega) (by omega) ?_
  (repeat (apply QL.fa; rfl; rfl; rfl))
  refine QL.load (α := Int) (F := F) (y := t.kids[i].k) rfl rfl rfl (hF2 kb hFk) hF2 (by rw [Int.toNat_natCast]; exact hc2) rfl ?_
  rw [show vOf Int [.int .i64 t.kids[i].k] = .int .i64 t.kids[i].k from rfl]
  skip
  refine QL.call rfl rfl rfl (fun w' h => Rt.mono (cbare_ok w' t.k i t.kids[i].k) (fun v w'' hv => ⟨hv.1, hv.2 ▸ Ext.refl _⟩)) ?_
  refine QL.nil (fun w3 e3 => ?_)
  have hE3 : w.grownBy w3 (some bw) := grown_tr hE (e3.grw (some bw))
  have hb3 := hb2.ext e3
  unfold kidT
  (repeat (apply EX.thenN))
  refine CW.cond rfl (fun h => ?_) (fun h => ?_)
  · rw [if_pos h]
    (repeat (first | (apply WL.pure; rfl; rfl; rfl) | (apply WL.nil) | (apply EX.thenN) | (apply CW.seq) | (apply CW.region) | (apply CW.ret) | (apply EX.thenR)))
    exact EX.ret1 rfl rfl ⟨rfl, hb3, hE3⟩
  · rw [if_neg (by rw [h]; decide)]
    (repeat (first | (apply WL.pure; rfl; rfl; rfl) | (apply EX.thenN) | (apply CW.seq) | (apply CW.region) | (apply CW.skip)))
    refine WL.cat (a := [40]) (b := T) rfl rfl rfl rfl (by simp only [List.length_cons, List.length_nil]; omega) ?_
    refine WL.cat (a := [40] ++ T) (b := [41]) rfl rfl rfl rfl (by simp only [List.length_append, List.length_cons, List.length_nil]; omega) ?_
    (repeat (first | (apply WL.pure; rfl; rfl; rfl) | (apply WL.nil) | (apply EX.thenN) | (apply CW.ret)))
    exact EX.ret1 rfl rfl ⟨rfl, hb3, hE3⟩
theorem cname_ok (w : World) {F : Nat → Prop} {no : Option Addr} {nc bw : Nat} {nms : List ByteArray} {b : Bool} (hnF : Sl w F no nc nms) (hF : ∀ k, F k → k < w.heap.size) (hb : WrC w bw no nms.length nc b) (n : Int) (h0 : 0 ≤ n) :
    Rt Tryz.prog 55 [.pointer (some ⟨bw, 0, none⟩), .int .i64 n].toArray w fun v w' => v = tV (nmL nms n) ∧ WrC w' bw no nms.length nc (b || nmL nms n == []) ∧ w.grownBy w' (some bw) := by
  have hn := hnF.lift hF
  have hm := hn.len63
  refine Rt.enter2 Tryz.func55 Tryz.ntmps55 rfl rfl ?_
  obtain ⟨i, rfl⟩ := Int.eq_ofNat_of_zero_le h0
  (repeat (first | (apply WL.pure; rfl; rfl; rfl) | (apply WL.nil) | (apply EX.thenN) | (apply CW.seq) | (apply CW.region)))
  refine CW.cond rfl (fun h => ?_) (fun h => ?_)
  · have h63 : (i : Int) = 63 := by simpa using h
    (repeat (first | (apply WL.pure; rfl; rfl; rfl) | (apply WL.nil) | (apply EX.thenN) | (apply CW.seq) | (apply CW.region) | (apply CW.ret) | (apply EX.thenR)))
    refine EX.ret1 rfl rfl ?_
    unfold nmL; rw [if_pos h63]
    exact ⟨rfl, by rw [show (b || tSil == []) = b by simp [tSil]]; exact hb, World.grownBy.refl _ _⟩
  have h63 : ¬ (i : Int) = 63 := by simpa using h
  have hbad : ∀ {w' : World} {σ : Sg}, nmL nms (i : Int) = [] → Ext w w' → True := fun _ _ => trivial
  (repeat (first | (apply QL.pure; rfl; rfl; rfl) | (apply EX.thenN) | (apply CW.seq) | (apply QL.lenS; rfl; rfl; rfl) | (apply QL.fa; rfl; rfl; rfl) | (apply QL.nck; rfl; rfl; rfl) | (apply QL.ld; rfl; rfl; rfl; assumption; rfl) | (apply CW.skip) | (apply CW.draw; exact mixed; kernel_rfl)))
  (refine QL.lookG rfl rfl (fun h => ?_) (fun h => ?_))
  · have h1 : (i : Int) ≥ (nms.length : Int) := by simpa using h
    (repeat (first | (apply QL.pure; rfl; rfl; rfl) | (apply QL.pass; rfl; rfl)))
    refine QL.nil (fun w1 e1 => ?_)
    have hb1 := hb.ext e1
    (repeat (first | (apply WL.pure; rfl; rfl; rfl) | (apply EX.thenN) | (apply CW.seq) | (apply CW.region) | (apply WL.fa; rfl; rfl; rfl) | (apply WL.nck; rfl; rfl; rfl) | (apply CW.condT; rfl)))
    refine WL.st rfl rfl rfl hb1 rfl rfl (ones_of rfl) (fun w2 hb2 hg2 => ?_)
    (repeat (first | (apply WL.pure; rfl; rfl; rfl) | (apply WL.nil) | (apply EX.thenN) | (apply CW.seq) | (apply CW.region) | (apply CW.ret) | (apply EX.thenR)))
    refine EX.ret1 rfl rfl ?_
    unfold nmL; rw [if_neg h63, if_pos h1]
    exact ⟨rfl, by simpa using hb2, grown_tr (e1.grw _) hg2⟩
  have h1 : ¬ (i : Int) ≥ (nms.length : Int) := by simpa using h
  have hi : i < nms.length := by omega
  (repeat (first | (apply QL.pure; rfl; rfl; rfl) | (apply QL.fa; rfl; rfl; rfl) | (apply QL.nck; rfl; rfl; rfl) | (apply QL.ld; rfl; rfl; rfl; assumption; rfl)))
  refine QL.elemN rfl rfl rfl rfl rfl (fun _ h => h) hn hi (fun _ => rfl) (fun u1 q1 hu1 => ?_)
  obtain ⟨rfl, _⟩ := hu1.str
  skip
  refine QL.call rfl rfl rfl (fun w' h => Named_ok w' nms[i]) ?_
  (repeat (apply QL.pure; rfl; rfl; rfl))
  (refine QL.lookG rfl rfl (fun h => ?_) (fun h => ?_))
  · (repeat (first | (apply QL.pure; rfl; rfl; rfl) | (apply QL.pass; rfl; rfl)))
    refine QL.nil (fun w1 e1 => ?_)
    have hb1 := hb.ext e1
    (repeat (first | (apply WL.pure; rfl; rfl; rfl) | (apply EX.thenN) | (apply CW.seq) | (apply CW.region) | (apply WL.fa; rfl; rfl; rfl) | (apply WL.nck; rfl; rfl; rfl) | (apply CW.condT; rfl)))
    refine WL.st rfl rfl rfl hb1 rfl rfl (ones_of rfl) (fun w2 hb2 hg2 => ?_)
    (repeat (first | (apply WL.pure; rfl; rfl; rfl) | (apply WL.nil) | (apply EX.thenN) | (apply CW.seq) | (apply CW.region) | (apply CW.ret) | (apply EX.thenR)))
    refine EX.ret1 rfl rfl ?_
    unfold nmL; rw [if_neg h63, if_neg h1, if_pos (by rw [Int.toNat_natCast, getDNm_at hi]; simpa using h)]
    exact ⟨rfl, by simpa using hb2, grown_tr (e1.grw _) hg2⟩
  have h2 : ¬ namedB nms[i] = false := by simpa using h
  (repeat (first | (apply QL.pure; rfl; rfl; rfl) | (apply QL.fa; rfl; rfl; rfl) | (apply QL.nck; rfl; rfl; rfl) | (apply QL.ld; rfl; rfl; rfl; assumption; rfl)))
  refine QL.elemN rfl rfl rfl rfl rfl (fun _ h => h) hn hi (fun _ => rfl) (fun u1 q1 hu1 => ?_)
  obtain ⟨rfl, _⟩ := hu1.str
  skip
  refine QL.call rfl rfl rfl (fun w' h => Rt.mono (index_str w' nms[i] (hn.up h)) (fun v w'' hv => ⟨hv.1, hv.2 ▸ Ext.refl _⟩)) ?_
  (repeat (apply QL.pure; rfl; rfl; rfl))
  refine QL.nil (fun w1 e1 => ?_)
  have hb1 := hb.ext e1
  (repeat (apply EX.thenN))
  refine CW.cond rfl (fun h => ?_) (fun h => ?_)
  · (repeat (first | (apply WL.pure; rfl; rfl; rfl) | (apply CW.seq) | (apply CW.region) | (apply WL.fa; rfl; rfl; rfl) | (apply WL.nck; rfl; rfl; rfl)))
    refine WL.st rfl rfl rfl hb1 rfl rfl (ones_of rfl) (fun w2 hb2 hg2 => ?_)
    (repeat (first | (apply WL.pure; rfl; rfl; rfl) | (apply WL.nil) | (apply EX.thenN) | (apply CW.seq) | (apply CW.region) | (apply CW.ret) | (apply EX.thenR)))
    refine EX.ret1 rfl rfl ?_
    unfold nmL; rw [if_neg h63, if_neg h1, if_neg (by rw [Int.toNat_natCast, getDNm_at hi]; exact h2), if_pos (by rw [Int.toNat_natCast, getDNm_at hi, ← idxB_of]; simpa using h)]
    exact ⟨rfl, by simpa using hb2, grown_tr (e1.grw _) hg2⟩
  (repeat (first | (apply WL.pure; rfl; rfl; rfl) | (apply EX.thenN) | (apply CW.seq) | (apply CW.region) | (apply WL.fa; rfl; rfl; rfl) | (apply WL.nck; rfl; rfl; rfl) | (apply WL.ld; rfl; rfl; rfl; assumption; rfl) | (apply CW.skip)))
  refine WL.elemN rfl rfl rfl rfl rfl (hn.up e1) hi (fun _ => rfl) (fun u1 q1 hu1 => ?_)
  obtain ⟨rfl, _⟩ := hu1.str
  (repeat (first | (apply WL.pure; rfl; rfl; rfl) | (apply WL.nil) | (apply EX.thenN) | (apply CW.ret)))
  refine EX.ret1 rfl rfl ?_
  have hnm : namedL nms[i].data.toList = true := by simpa using h2
  have e : nmL nms (i : Int) = nms[i].data.toList := by
    unfold nmL; rw [if_neg h63, if_neg h1, if_neg (by rw [Int.toNat_natCast, getDNm_at hi]; exact h2), if_neg (by rw [Int.toNat_natCast, getDNm_at hi, ← idxB_of]; simpa using h)]
    rw [Int.toNat_natCast, getDNm_at hi]
  rw [e]
  exact ⟨by rw [tV, txA_eta], by rw [show (nms[i].data.toList == []) = false from by rw [beq_eq_false_iff_ne]; exact (named_ne hnm).1, Bool.or_false]; exact hb1, e1.grw _⟩
set_option maxHeartbeats 2000000 in
theorem ctext_ok : ∀ (m : Nat) (t : Ltl), t.nodes ≤ m → m ≤ 1000 → ShT kidsC t → CText t
  | 0, t, hm, _, _ => by have := t.nodes_pos; omega
  | m + 1, .mk k n kids, hm, hm1, hsh => by
    intro w F bw ao cap no nc nms b hs hn hF hnb hb
    obtain ⟨hk, h0, h63, hkids⟩ := shT_inv hsh
    simp only [Ltl.nodes] at hm
    have hnd : ∀ i (hi : i < kids.length), kids[i].nodes ≤ m := fun i hi => by have := Ltl.nodes_kid kids _ (List.getElem_mem hi); omega
    have ihk : ∀ i (hi : i < kids.length), CText kids[i] := fun i hi => ctext_ok m kids[i] (hnd i hi) (by omega) (hkids _ (List.getElem_mem hi))
    have htl : ∀ i (hi : i < kids.length), (txtC (nmL nms) kids[i]).length ≤ 8000 := fun i hi => by have := txtC_len (nmL_len nms) kids[i]; have := hnd i hi; omega
    have hbl := hb.lt
    simp only [mk_kids] at hs
    simp only [mk_k, mk_n, mk_kids]
    refine Rt.enter2 Tryz.func39 Tryz.ntmps39 rfl rfl ?_
    (repeat (first | (apply CW.seq) | (apply CW.region)))
    refine WL.boxB rfl rfl rfl fun w1 hb3 e1 => ?_
    have hF1 : ∀ k, F k → k < w1.heap.size := fun k hk => Nat.lt_of_lt_of_le (hF k hk) e1.size
    have hs1 : Sl w1 F ao cap kids := hs.mono (fun k hk => e1.block k (hF k hk)) fun _ h => h
    have hn1 : Sl w1 F no nc nms := hn.mono (fun k hk => e1.block k (hF k hk)) fun _ h => h
    have hb1 := hb.ext e1
    have hg1 : w.grownBy w1 (some bw) := e1.grw (some bw)
    have hl3 := hb3.lt
    have htwo : ∀ K, kidsC K = 2 → k = K → ∃ x y, kids = [x, y] := fun K hK e => by
      have : kids.length = 2 := by rw [e] at hk; omega
      match kids, this with
      | [x, y], _ => exact ⟨x, y, rfl⟩
    have hD : Ext w1 (drew w1) := Ext.drew w1
    have hb3d := hb3.ext hD
    have hbd := hb1.ext hD
    have hsd : Sl (drew w1) F ao cap kids := hs1.mono (fun k hk => hD.block k (hF1 k hk)) fun _ h => h
    have hnd1 : Sl (drew w1) F no nc nms := hn1.mono (fun k hk => hD.block k (hF1 k hk)) fun _ h => h
    have hFd : ∀ k, F k → k < (drew w1).heap.size := hF1
    have hgD : w.grownBy (drew w1) (some bw) := grown_tr hg1 (hD.grw _)
    have hw3 : w.heap.size ≠ bw := by omega
    -- what all orders keep
    have hSk : ∀ {z z' : World}, (z.heap[w.heap.size]? = (drew w1).heap[w.heap.size]? ∧ w1.heap.size ≤ z.heap.size ∧ ∀ k, F k → z.heap[k]? = (drew w1).heap[k]?) → z.grownBy z' (some bw) → (z'.heap[w.heap.size]? = (drew w1).heap[w.heap.size]? ∧ w1.heap.size ≤ z'.heap.size ∧ ∀ k, F k → z'.heap[k]? = (drew w1).heap[k]?) :=
      fun {z z'} hz hg => ⟨(hg.block _ (by omega) (fun e => hw3 (Option.some.inj e))).trans hz.1, Nat.le_trans hz.2.1 hg.size, fun k hk => (hg.block k (Nat.lt_of_lt_of_le (hF1 k hk) hz.2.1) (fun e => by cases e; exact hnb hk)).trans (hz.2.2 k hk)⟩
    have hKS : ∀ z : World, (fun z : World => z.heap[w.heap.size]? = (drew w1).heap[w.heap.size]? ∧ w1.heap.size ≤ z.heap.size ∧ ∀ k, F k → z.heap[k]? = (drew w1).heap[k]?) z → Blk z w.heap.size 31 [.int .i64 k, .int .i64 n, .slice ao kids.length cap] := fun z hz => hz.1.trans hb3d
    have hS0 : (fun z : World => z.heap[w.heap.size]? = (drew w1).heap[w.heap.size]? ∧ w1.heap.size ≤ z.heap.size ∧ ∀ k, F k → z.heap[k]? = (drew w1).heap[k]?) (drew w1) := ⟨rfl, Nat.le_refl _, fun _ _ => rfl⟩
    (repeat (first | (apply WL.pure; rfl; rfl; rfl) | (apply WL.nil) | (apply EX.thenN) | (apply CW.seq) | (apply CW.region) | (apply WL.fa; rfl; rfl; rfl) | (apply WL.ld; rfl; rfl; rfl; assumption; rfl) | (apply CW.block)))
    refine CW.cond rfl (fun h => ?_) (fun h => ?_)
    · obtain rfl : k = 1 := by simpa using h
      obtain rfl : kids = [] := List.eq_nil_of_length_eq_zero (by have : kidsC 1 = 0 := rfl; omega)
      (repeat (first | (apply WL.pure; rfl; rfl; rfl) | (apply WL.nil) | (apply EX.thenN) | (apply CW.seq) | (apply CW.region) | (apply CW.ret) | (apply EX.thenR) | (apply EX.inR)))
      exact EX.ret1 rfl rfl ⟨rfl, by simpa [badF, badFs] using hb1, hg1⟩
    have k1 : ¬ k = 1 := by simpa using h
    clear h
    (repeat (first | (apply WL.pure; rfl; rfl; rfl) | (apply WL.nil) | (apply EX.thenN) | (apply CW.seq) | (apply CW.region)))
    refine CW.cond rfl (fun h => ?_) (fun h => ?_)
    · obtain rfl : k = 2 := by simpa using h
      obtain rfl : kids = [] := List.eq_nil_of_length_eq_zero (by have : kidsC 2 = 0 := rfl; omega)
      (repeat (first | (apply WL.pure; rfl; rfl; rfl) | (apply WL.nil) | (apply EX.thenN) | (apply CW.seq) | (apply CW.region) | (apply CW.ret) | (apply EX.thenR) | (apply EX.inR)))
      exact EX.ret1 rfl rfl ⟨rfl, by simpa [badF, badFs] using hb1, hg1⟩
    have k2 : ¬ k = 2 := by simpa using h
    clear h
    (repeat (first | (apply WL.pure; rfl; rfl; rfl) | (apply WL.nil) | (apply EX.thenN) | (apply CW.seq) | (apply CW.region)))
    refine CW.cond rfl (fun h => ?_) (fun h => ?_)
    · obtain rfl : k = 3 := by simpa using h
      obtain rfl : kids = [] := List.eq_nil_of_length_eq_zero (by have : kidsC 3 = 0 := rfl; omega)
      (repeat (first | (apply WL.pure; rfl; rfl; rfl) | (apply CW.seq) | (apply CW.region) | (apply WL.fa; rfl; rfl; rfl) | (apply WL.ld; rfl; rfl; rfl; assumption; rfl)))
      refine WL.call rfl rfl rfl (cname_ok w1 hn1 hF1 hb1 n h0) ?_
      rintro _ w2 ⟨rfl, hb2, hg2⟩
      (repeat (first | (apply WL.pure; rfl; rfl; rfl) | (apply WL.nil) | (apply EX.thenN) | (apply CW.ret) | (apply EX.thenR) | (apply EX.inR)))
      exact EX.ret1 rfl rfl ⟨by simp [txtC, joinC], by simpa [badF, badFs] using hb2, grown_tr hg1 hg2⟩
    have k3 : ¬ k = 3 := by simpa using h
    clear h
    (repeat (first | (apply WL.pure; rfl; rfl; rfl) | (apply WL.nil) | (apply EX.thenN) | (apply CW.seq) | (apply CW.region)))
    refine CW.cond rfl (fun h => ?_) (fun h => ?_)
    · obtain rfl : k = 5 := by simpa using h
      obtain ⟨x, y, rfl⟩ := htwo 5 rfl rfl
      have hlx := htl 0 (by simp)
      have hly := htl 1 (by simp)
      simp only [List.getElem_cons_zero, List.getElem_cons_succ] at hlx hly
      have hkx := kidT_len (bareC 5 ((0 : Nat) : Int) x.k) (txtC (nmL nms) x)
      have hky := kidT_len (bareC 5 ((1 : Nat) : Int) y.k) (txtC (nmL nms) y)
      (repeat (apply CW.seq))
      refine CW.drawH (fun z : World => z.heap[w.heap.size]? = (drew w1).heap[w.heap.size]? ∧ w1.heap.size ≤ z.heap.size ∧ ∀ k, F k → z.heap[k]? = (drew w1).heap[k]?) [(0, true), (1, true), (4, true), (5, true), (2, false), (3, true), (6, false), (7, true), (8, true)] mixed (by kernel_rfl) hS0 ?_
      (repeat (apply HL.pure; rfl; rfl; rfl; rfl))
      refine HL.ldAS hKS rfl rfl rfl rfl rfl ?_
      (repeat (apply HL.pure; rfl; rfl; rfl; rfl))
      refine HL.ldAS hKS rfl rfl rfl rfl rfl ?_
      refine HL.mut rfl (WL.call rfl rfl rfl (ckid_ok (t := .mk 5 n [x, y]) (i := 0) (by simp [mk_kids]) (ihk 0 (by simp)) (by have := hnd 0 (by simp); show x.nodes ≤ 1000; simp only [List.getElem_cons_zero] at this; omega) (drew w1) F bw ao cap no nc nms b hsd hnd1 hFd hnb hbd) ?_)
      rintro _ w2 ⟨rfl, hb2, hg2⟩
      have hS2 := hSk hS0 hg2
      refine WL.nil (EX.mut hS2 ?_)
      simp only [mk_k, mk_kids, List.getElem_cons_zero] at hb2 ⊢
      refine HL.cat (b := [32, 38, 32]) rfl rfl rfl rfl rfl (by simp only [List.length_cons, List.length_nil]; omega) ?_
      refine HL.mut rfl (WL.call rfl rfl rfl (ckid_ok (t := .mk 5 n [x, y]) (i := 1) (by simp [mk_kids]) (ihk 1 (by simp)) (by have := hnd 1 (by simp); show y.nodes ≤ 1000; simp only [List.getElem_cons_succ, List.getElem_cons_zero] at this; omega) w2 F bw ao cap no nc nms _ (hsd.mono hS2.2.2 fun _ h => h) (hnd1.mono hS2.2.2 fun _ h => h) (fun k hk => Nat.lt_of_lt_of_le (hF1 k hk) hS2.2.1) hnb hb2) ?_)
      rintro _ w3 ⟨rfl, hb33, hg3⟩
      refine WL.nil (EX.mut (hSk hS2 hg3) ?_)
      simp only [mk_k, mk_kids, List.getElem_cons_succ, List.getElem_cons_zero] at hb33 ⊢
      refine HL.cat rfl rfl rfl rfl rfl (by simp only [List.length_append, List.length_cons, List.length_nil]; omega) ?_
      (repeat (first | (apply HL.pure; rfl; rfl; rfl; rfl) | (apply HL.nil)))
      (repeat (first | (apply EX.thenN) | (apply CW.ret) | (apply EX.thenR) | (apply EX.inR)))
      refine EX.ret1 rfl rfl ⟨by rw [txtC_bin.1]; rfl, ?_, grown_tr (grown_tr hgD hg2) hg3⟩
      rw [badC_two (by decide)]
      exact hb33
    have k5 : ¬ k = 5 := by simpa using h
    clear h
    (repeat (first | (apply WL.pure; rfl; rfl; rfl) | (apply WL.nil) | (apply EX.thenN) | (apply CW.seq) | (apply CW.region)))
    refine CW.cond rfl (fun h => ?_) (fun h => ?_)
    · obtain rfl : k = 6 := by simpa using h
      obtain ⟨x, y, rfl⟩ := htwo 6 rfl rfl
      have hlx := htl 0 (by simp)
      have hly := htl 1 (by simp)
      simp only [List.getElem_cons_zero, List.getElem_cons_succ] at hlx hly
      have hkx := kidT_len (bareC 6 ((0 : Nat) : Int) x.k) (txtC (nmL nms) x)
      have hky := kidT_len (bareC 6 ((1 : Nat) : Int) y.k) (txtC (nmL nms) y)
      (repeat (apply CW.seq))
      refine CW.drawH (fun z : World => z.heap[w.heap.size]? = (drew w1).heap[w.heap.size]? ∧ w1.heap.size ≤ z.heap.size ∧ ∀ k, F k → z.heap[k]? = (drew w1).heap[k]?) [(0, true), (1, true), (4, true), (5, true), (2, false), (3, true), (6, false), (7, true), (8, true)] mixed (by kernel_rfl) hS0 ?_
      (repeat (apply HL.pure; rfl; rfl; rfl; rfl))
      refine HL.ldAS hKS rfl rfl rfl rfl rfl ?_
      (repeat (apply HL.pure; rfl; rfl; rfl; rfl))
      refine HL.ldAS hKS rfl rfl rfl rfl rfl ?_
      refine HL.mut rfl (WL.call rfl rfl rfl (ckid_ok (t := .mk 6 n [x, y]) (i := 0) (by simp [mk_kids]) (ihk 0 (by simp)) (by have := hnd 0 (by simp); show x.nodes ≤ 1000; simp only [List.getElem_cons_zero] at this; omega) (drew w1) F bw ao cap no nc nms b hsd hnd1 hFd hnb hbd) ?_)
      rintro _ w2 ⟨rfl, hb2, hg2⟩
      have hS2 := hSk hS0 hg2
      refine WL.nil (EX.mut hS2 ?_)
      simp only [mk_k, mk_kids, List.getElem_cons_zero] at hb2 ⊢
      refine HL.cat (b := [32, 47, 32]) rfl rfl rfl rfl rfl (by simp only [List.length_cons, List.length_nil]; omega) ?_
      refine HL.mut rfl (WL.call rfl rfl rfl (ckid_ok (t := .mk 6 n [x, y]) (i := 1) (by simp [mk_kids]) (ihk 1 (by simp)) (by have := hnd 1 (by simp); show y.nodes ≤ 1000; simp only [List.getElem_cons_succ, List.getElem_cons_zero] at this; omega) w2 F bw ao cap no nc nms _ (hsd.mono hS2.2.2 fun _ h => h) (hnd1.mono hS2.2.2 fun _ h => h) (fun k hk => Nat.lt_of_lt_of_le (hF1 k hk) hS2.2.1) hnb hb2) ?_)
      rintro _ w3 ⟨rfl, hb33, hg3⟩
      refine WL.nil (EX.mut (hSk hS2 hg3) ?_)
      simp only [mk_k, mk_kids, List.getElem_cons_succ, List.getElem_cons_zero] at hb33 ⊢
      refine HL.cat rfl rfl rfl rfl rfl (by simp only [List.length_append, List.length_cons, List.length_nil]; omega) ?_
      (repeat (first | (apply HL.pure; rfl; rfl; rfl; rfl) | (apply HL.nil)))
      (repeat (first | (apply EX.thenN) | (apply CW.ret) | (apply EX.thenR) | (apply EX.inR)))
      refine EX.ret1 rfl rfl ⟨by rw [txtC_bin.2.1]; rfl, ?_, grown_tr (grown_tr hgD hg2) hg3⟩
      rw [badC_two (by decide)]
      exact hb33
    have k6 : ¬ k = 6 := by simpa using h
    clear h
    (repeat (first | (apply WL.pure; rfl; rfl; rfl) | (apply WL.nil) | (apply EX.thenN) | (apply CW.seq) | (apply CW.region)))
    refine CW.cond rfl (fun h => ?_) (fun h => ?_)
    · obtain rfl : k = 10 := by simpa using h
      obtain ⟨x, y, rfl⟩ := htwo 10 rfl rfl
      have hlx := htl 0 (by simp)
      have hly := htl 1 (by simp)
      simp only [List.getElem_cons_zero, List.getElem_cons_succ] at hlx hly
      have hle : ∀ z : World, (fun z : World => z.heap[w.heap.size]? = (drew w1).heap[w.heap.size]? ∧ w1.heap.size ≤ z.heap.size ∧ ∀ k, F k → z.heap[k]? = (drew w1).heap[k]?) z → ∀ b, F b → z.heap[b]? = (drew w1).heap[b]? := fun z hz => hz.2.2
      (repeat (apply CW.seq))
      refine CW.drawH (fun z : World => z.heap[w.heap.size]? = (drew w1).heap[w.heap.size]? ∧ w1.heap.size ≤ z.heap.size ∧ ∀ k, F k → z.heap[k]? = (drew w1).heap[k]?) [(0, true), (1, true), (2, true), (3, true), (4, true), (8, true), (9, true), (10, true), (11, true), (12, true), (5, false), (6, true), (7, true), (13, false), (14, true), (15, true), (16, true)] mixed (by kernel_rfl) hS0 ?_
      (repeat (first | (apply HL.pure; rfl; rfl; rfl; rfl) | (refine HL.fa rfl rfl rfl rfl ?_)))
      refine HL.ldS hKS rfl rfl rfl rfl rfl ?_
      refine HL.elemK (w := drew w1) (k := 0) hle rfl rfl rfl rfl rfl rfl rfl hsd (by simp) (fun _ => rfl) (fun u q hu => ?_)
      obtain ⟨ao0, cap0, rfl, hx0⟩ := hu.ltl
      (repeat (first | (apply HL.pure; rfl; rfl; rfl; rfl) | (refine HL.fa rfl rfl rfl rfl ?_)))
      refine HL.ldS hKS rfl rfl rfl rfl rfl ?_
      refine HL.elemK (w := drew w1) (k := 1) hle rfl rfl rfl rfl rfl rfl rfl hsd (by simp) (fun _ => rfl) (fun u q hu => ?_)
      obtain ⟨ao1, cap1, rfl, hx1⟩ := hu.ltl
      simp only [List.getElem_cons_succ, List.getElem_cons_zero] at hx0 hx1 ⊢
      refine HL.mut rfl (WL.call rfl rfl rfl (ihk 0 (by simp) (drew w1) F bw ao0 cap0 no nc nms b hx0 hnd1 hFd hnb hbd) ?_)
      rintro _ w2 ⟨rfl, hb2, hg2⟩
      have hS2 := hSk hS0 hg2
      refine WL.nil (EX.mut hS2 ?_)
      simp only [List.getElem_cons_zero] at hb2 ⊢
      refine HL.cat (a := [69, 32, 91]) rfl rfl rfl rfl rfl (by simp only [List.length_cons, List.length_nil]; omega) ?_
      refine HL.cat (b := [32, 85, 32]) rfl rfl rfl rfl rfl (by simp only [List.length_append, List.length_cons, List.length_nil]; omega) ?_
      refine HL.mut rfl (WL.call rfl rfl rfl (ihk 1 (by simp) w2 F bw ao1 cap1 no nc nms _ (hx1.mono hS2.2.2 fun _ h => h) (hnd1.mono hS2.2.2 fun _ h => h) (fun k hk => Nat.lt_of_lt_of_le (hF1 k hk) hS2.2.1) hnb hb2) ?_)
      rintro _ w3 ⟨rfl, hb33, hg3⟩
      refine WL.nil (EX.mut (hSk hS2 hg3) ?_)
      simp only [List.getElem_cons_succ, List.getElem_cons_zero] at hb33 ⊢
      refine HL.cat rfl rfl rfl rfl rfl (by simp only [List.length_append, List.length_cons, List.length_nil]; omega) ?_
      refine HL.cat (b := [93]) rfl rfl rfl rfl rfl (by simp only [List.length_append, List.length_cons, List.length_nil]; omega) ?_
      (repeat (first | (apply HL.pure; rfl; rfl; rfl; rfl) | (apply HL.nil)))
      (repeat (first | (apply EX.thenN) | (apply CW.ret) | (apply EX.thenR) | (apply EX.inR)))
      refine EX.ret1 rfl rfl ⟨by rw [txtC_bin.2.2.1], ?_, grown_tr (grown_tr hgD hg2) hg3⟩
      rw [badC_two (by decide)]
      exact hb33
    have k10 : ¬ k = 10 := by simpa using h
    clear h
    (repeat (first | (apply WL.pure; rfl; rfl; rfl) | (apply WL.nil) | (apply EX.thenN) | (apply CW.seq) | (apply CW.region)))
    refine CW.cond rfl (fun h => ?_) (fun h => ?_)
    · obtain rfl : k = 14 := by simpa using h
      obtain ⟨x, y, rfl⟩ := htwo 14 rfl rfl
      have hlx := htl 0 (by simp)
      have hly := htl 1 (by simp)
      simp only [List.getElem_cons_zero, List.getElem_cons_succ] at hlx hly
      have hle : ∀ z : World, (fun z : World => z.heap[w.heap.size]? = (drew w1).heap[w.heap.size]? ∧ w1.heap.size ≤ z.heap.size ∧ ∀ k, F k → z.heap[k]? = (drew w1).heap[k]?) z → ∀ b, F b → z.heap[b]? = (drew w1).heap[b]? := fun z hz => hz.2.2
      (repeat (apply CW.seq))
      refine CW.drawH (fun z : World => z.heap[w.heap.size]? = (drew w1).heap[w.heap.size]? ∧ w1.heap.size ≤ z.heap.size ∧ ∀ k, F k → z.heap[k]? = (drew w1).heap[k]?) [(0, true), (1, true), (2, true), (3, true), (4, true), (8, true), (9, true), (10, true), (11, true), (12, true), (5, false), (6, true), (7, true), (13, false), (14, true), (15, true), (16, true)] mixed (by kernel_rfl) hS0 ?_
      (repeat (first | (apply HL.pure; rfl; rfl; rfl; rfl) | (refine HL.fa rfl rfl rfl rfl ?_)))
      refine HL.ldS hKS rfl rfl rfl rfl rfl ?_
      refine HL.elemK (w := drew w1) (k := 0) hle rfl rfl rfl rfl rfl rfl rfl hsd (by simp) (fun _ => rfl) (fun u q hu => ?_)
      obtain ⟨ao0, cap0, rfl, hx0⟩ := hu.ltl
      (repeat (first | (apply HL.pure; rfl; rfl; rfl; rfl) | (refine HL.fa rfl rfl rfl rfl ?_)))
      refine HL.ldS hKS rfl rfl rfl rfl rfl ?_
      refine HL.elemK (w := drew w1) (k := 1) hle rfl rfl rfl rfl rfl rfl rfl hsd (by simp) (fun _ => rfl) (fun u q hu => ?_)
      obtain ⟨ao1, cap1, rfl, hx1⟩ := hu.ltl
      simp only [List.getElem_cons_succ, List.getElem_cons_zero] at hx0 hx1 ⊢
      refine HL.mut rfl (WL.call rfl rfl rfl (ihk 0 (by simp) (drew w1) F bw ao0 cap0 no nc nms b hx0 hnd1 hFd hnb hbd) ?_)
      rintro _ w2 ⟨rfl, hb2, hg2⟩
      have hS2 := hSk hS0 hg2
      refine WL.nil (EX.mut hS2 ?_)
      simp only [List.getElem_cons_zero] at hb2 ⊢
      refine HL.cat (a := [65, 32, 91]) rfl rfl rfl rfl rfl (by simp only [List.length_cons, List.length_nil]; omega) ?_
      refine HL.cat (b := [32, 85, 32]) rfl rfl rfl rfl rfl (by simp only [List.length_append, List.length_cons, List.length_nil]; omega) ?_
      refine HL.mut rfl (WL.call rfl rfl rfl (ihk 1 (by simp) w2 F bw ao1 cap1 no nc nms _ (hx1.mono hS2.2.2 fun _ h => h) (hnd1.mono hS2.2.2 fun _ h => h) (fun k hk => Nat.lt_of_lt_of_le (hF1 k hk) hS2.2.1) hnb hb2) ?_)
      rintro _ w3 ⟨rfl, hb33, hg3⟩
      refine WL.nil (EX.mut (hSk hS2 hg3) ?_)
      simp only [List.getElem_cons_succ, List.getElem_cons_zero] at hb33 ⊢
      refine HL.cat rfl rfl rfl rfl rfl (by simp only [List.length_append, List.length_cons, List.length_nil]; omega) ?_
      refine HL.cat (b := [93]) rfl rfl rfl rfl rfl (by simp only [List.length_append, List.length_cons, List.length_nil]; omega) ?_
      (repeat (first | (apply HL.pure; rfl; rfl; rfl; rfl) | (apply HL.nil)))
      (repeat (first | (apply EX.thenN) | (apply CW.ret) | (apply EX.thenR) | (apply EX.inR)))
      refine EX.ret1 rfl rfl ⟨by rw [txtC_bin.2.2.2], ?_, grown_tr (grown_tr hgD hg2) hg3⟩
      rw [badC_two (by decide)]
      exact hb33
    have k14 : ¬ k = 14 := by simpa using h
    clear h
    -- one kid
    have hok : (k = 4 ∨ k = 7 ∨ k = 8 ∨ k = 9 ∨ k = 11 ∨ k = 12 ∨ k = 13) ∧ kids.length = 1 := by
      rcases kidsC_nat hk with ⟨_, e⟩ | ⟨e1, e⟩ | ⟨_, e⟩
      · omega
      · exact ⟨e, e1⟩
      · omega
    obtain ⟨hok, hk1⟩ := hok
    obtain ⟨x, rfl⟩ := List.length_eq_one_iff.1 hk1
    have hlx := htl 0 (by simp)
    simp only [List.getElem_cons_zero] at hlx
    have hkx := kidT_len (bareC k ((0 : Nat) : Int) x.k) (txtC (nmL nms) x)
    have hsl : (sigC k).length ≤ 3 := by unfold sigC; (repeat' split) <;> decide
    (repeat (first | (apply EX.thenN) | (apply CW.seq) | (apply EX.inN) | (apply CW.skip)))
    refine CW.drawH (fun z : World => z.heap[w.heap.size]? = (drew w1).heap[w.heap.size]? ∧ w1.heap.size ≤ z.heap.size ∧ ∀ k, F k → z.heap[k]? = (drew w1).heap[k]?) [(0, true), (1, true), (3, true), (4, true), (2, false), (5, false), (6, true), (7, true)] mixed (by kernel_rfl) hS0 ?_
    (repeat (refine HL.fa rfl rfl rfl rfl ?_))
    refine HL.ldS hKS rfl rfl rfl rfl rfl ?_
    (repeat (apply HL.pure; rfl; rfl; rfl; rfl))
    refine HL.ldAS hKS rfl rfl rfl rfl rfl ?_
    refine HL.mut rfl (WL.call rfl rfl rfl (csign_ok (drew w1) hok) ?_)
    rintro _ w2 ⟨rfl, e2⟩
    have hS2 := hSk hS0 (e2.grw (some bw))
    refine WL.nil (EX.mut hS2 ?_)
    refine HL.mut rfl (WL.call rfl rfl rfl (ckid_ok (t := .mk k n [x]) (i := 0) (by simp [mk_kids]) (ihk 0 (by simp)) (by have := hnd 0 (by simp); show x.nodes ≤ 1000; simp only [List.getElem_cons_zero] at this; omega) w2 F bw ao cap no nc nms b (hsd.mono hS2.2.2 fun _ h => h) (hnd1.mono hS2.2.2 fun _ h => h) (fun k hk => Nat.lt_of_lt_of_le (hF1 k hk) hS2.2.1) hnb (hbd.ext e2)) ?_)
    rintro _ w3 ⟨rfl, hb33, hg3⟩
    refine WL.nil (EX.mut (hSk hS2 hg3) ?_)
    simp only [mk_k, mk_kids, List.getElem_cons_zero] at hb33 ⊢
    refine HL.cat rfl rfl rfl rfl rfl (by omega) ?_
    (repeat (first | (apply HL.pure; rfl; rfl; rfl; rfl) | (apply HL.nil)))
    (repeat (first | (apply EX.thenN) | (apply CW.ret)))
    refine EX.ret1 rfl rfl ⟨by rw [txtC_one hok]; rfl, ?_, grown_tr (grown_tr hgD (e2.grw _)) hg3⟩
    rw [badC_one k3]
    exact hb33
theorem cprint_ok (w0 : World) {ao no : Option Addr} {cap nc : Nat} {t : Ltl} {nms : List ByteArray} (hs : Sl w0 (Old w0) ao cap t.kids) (hn : Sl w0 (Old w0) no nc nms) :
    Rt Tryz.prog 22 [ltlV t.k t.n ao t.kids.length cap, .slice no nms.length nc].toArray w0 fun v w' => v = .tuple ⟨[tV (printC t nms).1, .int .i64 (printC t nms).2]⟩ ∧ Ext w0 w' := by
  refine Rt.enter2 Tryz.func22 Tryz.ntmps22 rfl rfl ?_
  unfold printC
  (repeat (first | (apply CW.seq) | (apply CW.region)))
  refine WL.boxB rfl rfl rfl fun w1 hb2 e1 => ?_
  (repeat (first | (apply WL.pure; rfl; rfl; rfl) | (apply WL.nil) | (apply EX.thenN) | (apply CW.seq) | (apply CW.region) | (apply WL.ldA; rfl; rfl; rfl; assumption; rfl)))
  refine WL.call rfl rfl rfl (ctlCheck w1 (hs.up e1) (fun _ h => h)) ?_
  rintro _ w2 ⟨rfl, e2⟩
  have hb2 := hb2.ext e2
  have hE := e1.trans e2
  (repeat (first | (apply WL.pure; rfl; rfl; rfl) | (apply WL.nil) | (apply EX.thenN) | (apply CW.seq) | (apply CW.region)))
  refine CW.cond rfl (fun h => ?_) (fun h => ?_)
  · rw [if_pos (by simpa using h)]
    (repeat (first | (apply WL.pure; rfl; rfl; rfl) | (apply WL.nil) | (apply EX.thenN) | (apply CW.seq) | (apply CW.region) | (apply CW.ret) | (apply EX.thenR)))
    exact EX.ret2 rfl rfl rfl ⟨rfl, hE⟩
  have hc : (chkC t 1 0).1 = 0 := by simpa using h
  rw [if_neg (by simpa using h)]
  obtain ⟨hsh, hnn⟩ := chkC_sh t 1 0 hc
  have hle := (chkC_le t 1 0 hc).2
  (repeat (first | (apply WL.pure; rfl; rfl; rfl) | (apply EX.thenN) | (apply CW.seq) | (apply CW.region) | (apply CW.skip)))
  refine WL.build rfl rfl rfl rfl ?_
  refine WL.boxB rfl rfl rfl fun w3 hb16 e3 => ?_
  have hb2 := hb2.ext e3
  have hE3 := hE.trans e3
  (repeat (first | (apply WL.pure; rfl; rfl; rfl) | (apply WL.nil) | (apply EX.thenN) | (apply CW.seq) | (apply CW.region) | (apply WL.ldA; rfl; rfl; rfl; assumption; rfl)))
  refine WL.call rfl rfl rfl (ctext_ok t.nodes t (Nat.le_refl _) (by omega) hsh w3 (Old w0) w2.heap.size ao cap no nc nms false (hs.at hE3) (hn.at hE3) (fun k hk => Nat.lt_of_lt_of_le hk hE3.size) (fun hk => by have h1 : w2.heap.size < w0.heap.size := hk; have := hE.size; omega) hb16) ?_
  rintro _ w4 ⟨rfl, hb4, hg4⟩
  have hE4 : Ext w0 w4 := hE3.grown hg4 hE3.size (fun g hg => by cases hg; exact hE.size)
  rw [Bool.false_or] at hb4
  (repeat (first | (apply WL.pure; rfl; rfl; rfl) | (apply WL.nil) | (apply EX.thenN) | (apply CW.seq) | (apply CW.region) | (apply WL.fa; rfl; rfl; rfl) | (apply WL.nck; rfl; rfl; rfl) | (apply WL.ld; rfl; rfl; rfl; assumption; rfl)))
  refine CW.cond rfl (fun h => ?_) (fun h => ?_)
  · rw [if_pos h]
    (repeat (first | (apply WL.pure; rfl; rfl; rfl) | (apply WL.nil) | (apply EX.thenN) | (apply CW.seq) | (apply CW.region) | (apply CW.ret) | (apply EX.thenR)))
    exact EX.ret2 rfl rfl rfl ⟨rfl, hE4⟩
  · rw [if_neg (by rw [h]; decide)]
    (repeat (first | (apply WL.pure; rfl; rfl; rfl) | (apply WL.nil) | (apply EX.thenN) | (apply CW.seq) | (apply CW.region) | (apply CW.ret) | (apply CW.skip)))
    exact EX.ret2 rfl rfl rfl ⟨rfl, hE4⟩
end Go.Proofs.YtikigaeihdmcaaaGreatDoor

