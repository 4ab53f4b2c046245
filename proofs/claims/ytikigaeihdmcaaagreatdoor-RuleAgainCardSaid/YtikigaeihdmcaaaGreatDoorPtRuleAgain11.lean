import Derived.Test.YtikigaeihdmcaaaGreatDoorPtRuleAgain10
/-
  ltl.Parse, walked: the next token.
-/
set_option linter.unusedVariables false
set_option linter.unusedSimpArgs false
namespace Go.Proofs.YtikigaeihdmcaaaGreatDoor
open Go.RowKit

instance iLRd1 : IsFd Tryz.prog 125 0 0 := IsFd.of (by kernel_rfl)
instance iLRd2 : IsFd Tryz.prog 125 1 1 := IsFd.of (by kernel_rfl)
instance iLRd3 : IsFd Tryz.prog 125 2 2 := IsFd.of (by kernel_rfl)
instance iLRd4 : IsFd Tryz.prog 125 3 3 := IsFd.of (by kernel_rfl)
instance iLRd5 : IsFd Tryz.prog 125 4 4 := IsFd.of (by kernel_rfl)
instance iLRd6 : IsFd Tryz.prog 125 5 5 := IsFd.of (by kernel_rfl)
instance iLRd9 : IsBd Tryz.prog 125 [(0, 1), (1, 1), (2, 1), (3, 1), (4, 1), (5, 1)] := IsBd.of (by kernel_rfl)
instance iLRd10 : IsZC Tryz.prog 125 [tV [], .slice none 0 0, tV [], .int .i64 0, .int .i64 0, .int .i64 0] := IsZC.of (z := .agg #[tV [], .slice none 0 0, tV [], .int .i64 0, .int .i64 0, .int .i64 0]) (by kernel_rfl) rfl
theorem lletter_ok (w0 : World) (c : UInt8) : Rt Tryz.prog 92 [.int .u8 (c.toNat : Int)].toArray w0 fun v w' => v = .bool (lowB c) ∧ Ext w0 w' := by
  refine Rt.enter1 Tryz.func92 Tryz.ntmps92 rfl rfl ?_
  unfold lowB
  (repeat (first | (apply WL.pure; rfl; rfl; rfl) | (apply WL.nil) | (apply EX.thenN) | (apply CW.seq) | (apply CW.region)))
  (refine WL.lookG rfl rfl (fun h => ?_) (fun h => ?_))
  · (repeat (first | (apply WL.pure; rfl; rfl; rfl) | (apply WL.nil) | (apply EX.thenN) | (apply CW.ret)))
    refine EX.ret1 rfl rfl ⟨?_, Ext.refl _⟩
    congr 1
    rw [Bool.eq_iff_iff]
    simp at h ⊢
    omega
  · (repeat (first | (apply WL.pure; rfl; rfl; rfl) | (apply WL.nil) | (apply EX.thenN) | (apply WL.pass; rfl; rfl) | (apply CW.ret)))
    refine EX.ret1 rfl rfl ⟨?_, Ext.refl _⟩
    congr 1
    rw [Bool.eq_iff_iff]
    simp at h ⊢
    omega
theorem lnext_ok (w0 : World) {rb : Nat} {s : Bys} {no : Option Addr} {nc : Nat} {nms : List ByteArray} {o : Nat} {st : Bys × Bys} (hr : Rdr 125 w0 rb s no nc nms o st) (hs : s.length ≤ 300) :
    Rt Tryz.prog 79 [.pointer (some ⟨rb, 0, none⟩)].toArray w0 fun v w' => Rdr 125 w' rb s no nc nms o (nxT st.2) ∧ w0.grownBy w' (some rb) := by
  obtain ⟨hb, hnm, hdr, hln⟩ := hr
  have hbl := hb.lt
  generalize hE : s.length - st.2.length = E at *
  have hEl : E ≤ s.length := by omega
  refine Rt.enter1 Tryz.func79 Tryz.ntmps79 rfl rfl ?_
  apply CW.seq
  apply CW.region
  (repeat (first | (apply WL.pure; rfl; rfl; rfl) | (apply WL.fa; rfl; rfl; rfl) | (apply WL.nck; rfl; rfl; rfl) | (apply WL.ld; rfl; rfl; rfl; assumption; rfl)))
  apply WL.nil
  apply EX.thenN
  refine CW.cutI (S := Nat) (fun i => [(0, .pointer (some ⟨rb, 0, none⟩)), (2, .int .i64 (i : Int))])
    (fun i w => w = w0 ∧ E ≤ i ∧ i ≤ s.length ∧ (∀ k (hk : k < s.length), E ≤ k → k < i → (s[k] == 32) = true) ∧ (∀ hk : i < s.length, (s[i] == 32) = false)) ?_ ?_
  · apply CW.block
    refine CW.loop (S := Nat) (fun i => [(0, .pointer (some ⟨rb, 0, none⟩)), (2, .int .i64 (i : Int))])
      (fun i w => w = w0 ∧ E ≤ i ∧ i ≤ s.length ∧ (∀ k (hk : k < s.length), E ≤ k → k < i → (s[k] == 32) = true)) (fun i => s.length - i) E (by repeat (first | exact trivial | refine ⟨rfl, ?_⟩)) ⟨rfl, Nat.le_refl _, hEl, fun k _ h1 h2 => by omega⟩ ?_
    rintro i w ⟨hw, h1, h2, h3⟩
    subst hw
    (repeat (first | (apply WL.pure; rfl; rfl; rfl) | (apply CW.seq) | (apply CW.region) | (apply WL.fa; rfl; rfl; rfl) | (apply WL.nck; rfl; rfl; rfl) | (apply WL.ld; rfl; rfl; rfl; assumption; rfl)))
    refine WL.lenB rfl rfl rfl ?_
    (repeat (apply WL.pure; rfl; rfl; rfl))
    (refine WL.lookG rfl rfl (fun h => ?_) (fun h => ?_))
    · have hi : i < s.length := by simpa using h
      (repeat (first | (apply WL.pure; rfl; rfl; rfl) | (apply WL.fa; rfl; rfl; rfl) | (apply WL.nck; rfl; rfl; rfl) | (apply WL.ld; rfl; rfl; rfl; assumption; rfl)))
      refine WL.byteL rfl rfl rfl rfl hi ?_
      (repeat (first | (apply WL.pure; rfl; rfl; rfl) | (apply WL.nil) | (apply EX.thenN)))
      rw [by32]
      refine CW.cond rfl (fun hc' => ?_) (fun hc' => ?_)
      · (repeat (first | (apply WL.add; rfl; rfl; rfl; rfl; omega; omega) | (apply WL.pure; rfl; rfl; rfl) | (apply WL.nil) | (apply EX.thenN) | (apply CW.region) | (apply CW.block) | (apply EX.inN) | (apply CW.skip)))
        refine EX.back (i + 1) (by repeat (first | exact trivial | refine ⟨rfl, ?_⟩)) ⟨rfl, by omega, by omega, fun k hk a b => ?_⟩ (by omega)
        by_cases e : k = i
        · subst e; exact hc'
        · exact h3 k hk a (by omega)
      · (repeat (first | (apply CW.exit) | (apply EX.thenX) | (apply EX.inX)))
        exact EX.cutI i (by repeat (first | exact trivial | refine ⟨rfl, ?_⟩)) ⟨rfl, h1, h2, h3, fun _ => hc'⟩
    · have hi : ¬ i < s.length := by simpa using h
      (repeat (first | (apply WL.pure; rfl; rfl; rfl) | (apply WL.nil) | (apply EX.thenN) | (apply WL.pass; rfl; rfl) | (apply CW.condF; rfl) | (apply CW.exit) | (apply EX.thenX) | (apply EX.inX)))
      exact EX.cutI i (by repeat (first | exact trivial | refine ⟨rfl, ?_⟩)) ⟨rfl, h1, h2, h3, fun hk => absurd hk hi⟩
  rintro i w ⟨hw, hi1, hi2, hi3, hi4⟩
  subst hw
  apply CW.seq
  apply CW.region
  (repeat (first | (apply WL.pure; rfl; rfl; rfl) | (apply WL.fa; rfl; rfl; rfl) | (apply WL.nck; rfl; rfl; rfl)))
  refine WL.st rfl rfl rfl hb rfl rfl (ones_of rfl) (fun w1 hb1 hg1 => ?_)
  clear hb
  (repeat (first | (apply WL.fa; rfl; rfl; rfl) | (apply WL.nck; rfl; rfl; rfl)))
  refine WL.st rfl rfl rfl hb1 rfl rfl (ones_of rfl) (fun w2 hb2 hg2 => ?_)
  clear hb1
  have hG2 := grown_tr hg1 hg2
  clear hg1 hg2
  apply WL.nil
  apply EX.thenN
  refine CW.cutI (S := Nat) (fun _ => [(0, .pointer (some ⟨rb, 0, none⟩)), (2, .int .i64 (i : Int))])
    (fun j x => w.grownBy x (some rb) ∧ Blk x rb 125 [tV s, .slice no nms.length nc, tV st.1, .int .i64 (i : Int), .int .i64 (j : Int), .int .i64 (o : Int)] ∧ i ≤ j ∧ j ≤ s.length ∧ (∀ k (hk : k < s.length), i ≤ k → k < j → lowB s[k] = true) ∧ (∀ hk : j < s.length, lowB s[j] = false)) ?_ ?_
  · apply CW.block
    refine CW.loop (S := Nat) (fun _ => [(0, .pointer (some ⟨rb, 0, none⟩)), (2, .int .i64 (i : Int))])
      (fun j x => w.grownBy x (some rb) ∧ Blk x rb 125 [tV s, .slice no nms.length nc, tV st.1, .int .i64 (i : Int), .int .i64 (j : Int), .int .i64 (o : Int)] ∧ i ≤ j ∧ j ≤ s.length ∧ (∀ k (hk : k < s.length), i ≤ k → k < j → lowB s[k] = true)) (fun j => s.length - j) i (by repeat (first | exact trivial | refine ⟨rfl, ?_⟩)) ⟨hG2, hb2, Nat.le_refl _, hi2, fun k _ h1 h2 => by omega⟩ ?_
    clear hb2 hG2
    rintro j x ⟨hg, hb, h1, h2, h3⟩
    (repeat (first | (apply QL.pure; rfl; rfl; rfl) | (apply CW.seq) | (apply QL.fa; rfl; rfl; rfl) | (apply QL.nck; rfl; rfl; rfl) | (apply QL.ld; rfl; rfl; rfl; assumption; rfl) | (apply CW.draw; exact mixed; kernel_rfl)))
    refine QL.lenB rfl rfl rfl ?_
    (repeat (apply QL.pure; rfl; rfl; rfl))
    (refine QL.lookG rfl rfl (fun h => ?_) (fun h => ?_))
    · have hj : j < s.length := by simpa using h
      (repeat (first | (apply QL.pure; rfl; rfl; rfl) | (apply QL.fa; rfl; rfl; rfl) | (apply QL.nck; rfl; rfl; rfl) | (apply QL.ld; rfl; rfl; rfl; assumption; rfl)))
      refine QL.byteL rfl rfl rfl rfl hj ?_
      skip
      refine QL.call rfl rfl rfl (fun w' _ => lletter_ok w' s[j]) ?_
      (repeat (apply QL.pure; rfl; rfl; rfl))
      refine QL.nil (fun x2 e2 => ?_)
      have hb2 := hb.ext e2
      have hG := grown_tr hg (e2.grw _)
      (repeat (apply EX.thenN))
      refine CW.cond rfl (fun hc => ?_) (fun hc => ?_)
      · (repeat (first | (apply WL.add; rfl; rfl; rfl; rfl; omega; omega) | (apply WL.pure; rfl; rfl; rfl) | (apply EX.thenN) | (apply CW.region) | (apply WL.fa; rfl; rfl; rfl) | (apply WL.nck; rfl; rfl; rfl) | (apply WL.ld; rfl; rfl; rfl; assumption; rfl) | (apply CW.block) | (apply CW.skip)))
        refine WL.st rfl rfl rfl hb2 rfl rfl (ones_of rfl) (fun x3 hb3 hg3 => ?_)
        (repeat (first | (apply WL.nil) | (apply EX.inN)))
        refine EX.back (j + 1) (by repeat (first | exact trivial | refine ⟨rfl, ?_⟩)) ⟨grown_tr hG hg3, hb3, by omega, by omega, fun k hk a b => ?_⟩ (by omega)
        by_cases e : k = j
        · subst e; exact hc
        · exact h3 k hk a (by omega)
      · (repeat (first | (apply CW.exit) | (apply EX.thenX) | (apply EX.inX)))
        exact EX.cutI j (by repeat (first | exact trivial | refine ⟨rfl, ?_⟩)) ⟨hG, hb2, h1, h2, h3, fun _ => hc⟩
    · have hj : ¬ j < s.length := by simpa using h
      (repeat (first | (apply QL.pure; rfl; rfl; rfl) | (apply QL.pass; rfl; rfl)))
      refine QL.nil (fun x2 e2 => ?_)
      have hb2 := hb.ext e2
      have hG := grown_tr hg (e2.grw _)
      (repeat (first | (apply EX.thenN) | (apply CW.condF; rfl) | (apply CW.exit) | (apply EX.thenX) | (apply EX.inX)))
      exact EX.cutI j (by repeat (first | exact trivial | refine ⟨rfl, ?_⟩)) ⟨hG, hb2, h1, h2, h3, fun hk => absurd hk hj⟩
  clear hb2 hG2
  rintro j x ⟨hg, hb, hj1, hj2, hj3, hj4⟩
  obtain ⟨hN1, hN2, hN3⟩ := nx_done (s := s) hi1 hj1 hj2 hi3 hi4 hj3 hj4
  rw [hdr] at hN1 hN2 hN3
  refine CW.cutI (S := Nat) (fun _ => [(0, .pointer (some ⟨rb, 0, none⟩)), (2, .int .i64 (i : Int))])
    (fun m y => w.grownBy y (some rb) ∧ Blk y rb 125 [tV s, .slice no nms.length nc, tV st.1, .int .i64 (i : Int), .int .i64 (m : Int), .int .i64 (o : Int)] ∧ i ≤ m ∧ m ≤ s.length ∧ nxT st.2 = ((s.take m).drop i, s.drop m)) ?_ ?_
  · apply CW.block
    (repeat (first | (apply WL.pure; rfl; rfl; rfl) | (apply CW.seq) | (apply CW.region) | (apply WL.fa; rfl; rfl; rfl) | (apply WL.nck; rfl; rfl; rfl) | (apply WL.ld; rfl; rfl; rfl; assumption; rfl)))
    (refine WL.lookG rfl rfl (fun h => ?_) (fun h => ?_))
    · have hij : i < j := by simpa using h
      (repeat (first | (apply WL.pure; rfl; rfl; rfl) | (apply WL.nil) | (apply EX.thenN) | (apply WL.pass; rfl; rfl) | (apply EX.inN) | (apply CW.condT; rfl) | (apply CW.skip)))
      exact EX.cutI j (by repeat (first | exact trivial | refine ⟨rfl, ?_⟩)) ⟨hg, hb, hj1, hj2, hN1 (.inl hij)⟩
    have hij : i = j := by have : ¬ i < j := by simpa using h
                           omega
    subst hij
    clear h
    (repeat (first | (apply WL.pure; rfl; rfl; rfl) | (apply WL.fa; rfl; rfl; rfl) | (apply WL.nck; rfl; rfl; rfl) | (apply WL.ld; rfl; rfl; rfl; assumption; rfl)))
    refine WL.lenB rfl rfl rfl ?_
    (repeat (first | (apply WL.pure; rfl; rfl; rfl) | (apply WL.nil) | (apply EX.thenN)))
    refine CW.cond rfl (fun h => ?_) (fun h => ?_)
    · have hil : i = s.length := by have : (i : Int) = (s.length : Int) := by simpa using h
                                    omega
      (repeat (first | (apply EX.inN) | (apply CW.skip)))
      exact EX.cutI i (by repeat (first | exact trivial | refine ⟨rfl, ?_⟩)) ⟨hg, hb, hj1, hj2, hN1 (.inr hil)⟩
    have hil : i < s.length := by have : ¬ (i : Int) = (s.length : Int) := by simpa using h
                                  omega
    (repeat (first | (apply WL.pure; rfl; rfl; rfl) | (apply CW.seq) | (apply CW.region) | (apply WL.fa; rfl; rfl; rfl) | (apply WL.nck; rfl; rfl; rfl) | (apply WL.ld; rfl; rfl; rfl; assumption; rfl)))
    refine WL.byteL rfl rfl rfl rfl hil ?_
    (repeat (apply WL.pure; rfl; rfl; rfl))
    rw [by45]
    (refine WL.lookG rfl rfl (fun h => ?_) (fun h => ?_))
    · have h45 : s[i] = 45 := by simpa using h
      (repeat (first | (apply WL.add; rfl; rfl; rfl; rfl; omega; omega) | (apply WL.pure; rfl; rfl; rfl) | (apply WL.fa; rfl; rfl; rfl) | (apply WL.nck; rfl; rfl; rfl) | (apply WL.ld; rfl; rfl; rfl; assumption; rfl)))
      refine WL.lenB rfl rfl rfl ?_
      (repeat (apply WL.pure; rfl; rfl; rfl))
      by_cases hi1 : i + 1 < s.length
      · rw [show decide ((i : Int) + 1 < (s.length : Int)) = true by simp; omega]
        (repeat (first | (apply WL.add; rfl; rfl; rfl; rfl; omega; omega) | (apply WL.pure; rfl; rfl; rfl) | (apply WL.fa; rfl; rfl; rfl) | (apply WL.nck; rfl; rfl; rfl) | (apply WL.ld; rfl; rfl; rfl; assumption; rfl)))
        refine WL.byteL (i := i + 1) rfl rfl rfl rfl hi1 ?_
        (repeat (first | (apply WL.pure; rfl; rfl; rfl) | (apply WL.nil) | (apply EX.thenN)))
        rw [by62]
        refine CW.cond rfl (fun h => ?_) (fun h => ?_)
        · have h62 : s[i + 1] = 62 := by simpa using h
          (repeat (first | (apply WL.add; rfl; rfl; rfl; rfl; omega; omega) | (apply WL.pure; rfl; rfl; rfl) | (apply CW.region) | (apply WL.fa; rfl; rfl; rfl) | (apply WL.nck; rfl; rfl; rfl)))
          refine WL.st rfl rfl rfl hb rfl rfl (ones_of rfl) (fun y hb2 hg2 => ?_)
          (repeat (first | (apply WL.nil) | (apply EX.inN)))
          exact EX.cutI (i + 2) (by repeat (first | exact trivial | refine ⟨rfl, ?_⟩)) ⟨grown_tr hg hg2, hb2, by omega, by omega, hN2 rfl hil (by rw [List.getElem?_eq_getElem hil, h45]) (by rw [List.getElem?_eq_getElem hi1, h62])⟩
        · have h62 : ¬ s[i + 1] = 62 := by simpa using h
          (repeat (first | (apply WL.add; rfl; rfl; rfl; rfl; omega; omega) | (apply WL.pure; rfl; rfl; rfl) | (apply CW.region) | (apply WL.fa; rfl; rfl; rfl) | (apply WL.nck; rfl; rfl; rfl)))
          refine WL.st rfl rfl rfl hb rfl rfl (ones_of rfl) (fun y hb2 hg2 => ?_)
          (repeat (first | (apply WL.nil) | (apply EX.inN)))
          exact EX.cutI (i + 1) (by repeat (first | exact trivial | refine ⟨rfl, ?_⟩)) ⟨grown_tr hg hg2, hb2, by omega, by omega, hN3 rfl hil (fun e => by rw [List.getElem?_eq_getElem hi1] at e; exact h62 (Option.some.inj e.2))⟩
      · rw [show decide ((i : Int) + 1 < (s.length : Int)) = false by simp; omega]
        (repeat (first | (apply WL.add; rfl; rfl; rfl; rfl; omega; omega) | (apply WL.pure; rfl; rfl; rfl) | (apply WL.nil) | (apply EX.thenN) | (apply CW.region) | (apply WL.pass; rfl; rfl) | (apply WL.fa; rfl; rfl; rfl) | (apply WL.nck; rfl; rfl; rfl) | (apply CW.condF; rfl)))
        refine WL.st rfl rfl rfl hb rfl rfl (ones_of rfl) (fun y hb2 hg2 => ?_)
        (repeat (first | (apply WL.nil) | (apply EX.inN)))
        exact EX.cutI (i + 1) (by repeat (first | exact trivial | refine ⟨rfl, ?_⟩)) ⟨grown_tr hg hg2, hb2, by omega, by omega, hN3 rfl hil (fun e => by obtain ⟨h, _⟩ := List.getElem?_eq_some_iff.1 e.2; exact hi1 h)⟩
    · have h45 : ¬ s[i] = 45 := by simpa using h
      (repeat (first | (apply WL.add; rfl; rfl; rfl; rfl; omega; omega) | (apply WL.pure; rfl; rfl; rfl) | (apply WL.nil) | (apply EX.thenN) | (apply CW.region) | (apply WL.pass; rfl; rfl) | (apply WL.fa; rfl; rfl; rfl) | (apply WL.nck; rfl; rfl; rfl) | (apply CW.condF; rfl)))
      refine WL.st rfl rfl rfl hb rfl rfl (ones_of rfl) (fun y hb2 hg2 => ?_)
      (repeat (first | (apply WL.nil) | (apply EX.inN)))
      exact EX.cutI (i + 1) (by repeat (first | exact trivial | refine ⟨rfl, ?_⟩)) ⟨grown_tr hg hg2, hb2, by omega, by omega, hN3 rfl hil (fun e => by rw [List.getElem?_eq_getElem hil] at e; exact h45 (Option.some.inj e.1))⟩
  clear hb hg
  rintro m y ⟨hg, hb, hm1, hm2, hnx⟩
  have hD := Ext.drew y
  have hbd := hb.ext hD
  refine CW.drawH (fun z : World => ∃ tk, Blk z rb 125 [tV s, .slice no nms.length nc, tk, .int .i64 (i : Int), .int .i64 (m : Int), .int .i64 (o : Int)]) [(0, true), (1, true), (2, true), (3, true), (4, true), (5, true), (6, true), (7, true), (8, true), (9, true), (10, true), (11, true), (12, true), (13, false)] mixed (by kernel_rfl) ⟨_, hbd⟩ ?_
  (repeat (first | (apply HL.pure; rfl; rfl; rfl; rfl) | (refine HL.fa rfl rfl rfl rfl ?_) | (apply HL.nck; rfl; rfl; rfl; rfl)))
  refine HL.ldE (v := tV s) (fun z hz => by obtain ⟨tk, hz⟩ := hz; exact ⟨_, hz, rfl⟩) rfl rfl rfl rfl ?_
  (repeat (first | (apply HL.pure; rfl; rfl; rfl; rfl) | (refine HL.fa rfl rfl rfl rfl ?_) | (apply HL.nck; rfl; rfl; rfl; rfl)))
  refine HL.ldE (v := .int .i64 (m : Int)) (fun z hz => by obtain ⟨tk, hz⟩ := hz; exact ⟨_, hz, rfl⟩) rfl rfl rfl rfl ?_
  refine HL.cutT rfl rfl rfl rfl rfl rfl hm1 hm2 ?_
  (repeat (first | (refine HL.fa rfl rfl rfl rfl ?_) | (apply HL.nck; rfl; rfl; rfl; rfl)))
  refine HL.mut rfl (WL.st rfl rfl rfl hbd rfl rfl (ones_of rfl) (fun z hz hgz => ?_))
  refine WL.nil (EX.mut ⟨_, hz⟩ ?_)
  (repeat (apply HL.nil))
  skip
  have hN : w.grownBy z (some rb) := grown_tr (grown_tr hg (hD.grw _)) hgz
  have hl1 : ((s.take m).drop i).length = m - i := by rw [List.length_drop, List.length_take]; omega
  have hl2 : (s.drop m).length = s.length - m := List.length_drop
  refine EX.end0 rfl ⟨⟨?_, hnm.mono (fun b hb => hN.block b (by omega) (by simp; omega)) fun _ h => h, ?_, ?_⟩, hN⟩
  · rw [hnx]
    unfold atT
    dsimp only
    rw [hl1, hl2, show s.length - (s.length - m) - (m - i) = i by omega, show s.length - (s.length - m) = m by omega]
    exact hz
  · rw [hnx]
    dsimp only
    rw [hl2, show s.length - (s.length - m) = m by omega]
  · rw [hnx]
    dsimp only
    omega
end Go.Proofs.YtikigaeihdmcaaaGreatDoor

/-
  ltl.Parse, walked: one token taken; faults.
-/
set_option linter.unusedVariables false
set_option linter.unusedSimpArgs false
namespace Go.Proofs.YtikigaeihdmcaaaGreatDoor
open Go.RowKit

/-- a fault -/
def FlL (w : World) (B : Nat) (c : Int) (a : Nat) (v : Value) : Prop := ∃ fb why, v = .iface 131 (.pointer (some ⟨fb, 0, none⟩)) ∧ B ≤ fb ∧ Blk w fb 135 [.int .i64 c, .int .i64 (a : Int), why]
theorem FlL.ext {w w' : World} {B : Nat} {c : Int} {a : Nat} {v : Value} (h : FlL w B c a v) (hE : Ext w w') : FlL w' B c a v := by
  obtain ⟨fb, why, e, h1, h2⟩ := h
  exact ⟨fb, why, e, h1, h2.ext hE⟩
theorem FlL.low {w : World} {B B' : Nat} {c : Int} {a : Nat} {v : Value} (h : FlL w B c a v) (hB : B' ≤ B) : FlL w B' c a v := by
  obtain ⟨fb, why, e, h1, h2⟩ := h
  exact ⟨fb, why, e, Nat.le_trans hB h1, h2⟩
/-- a store into a variable that was there before the fault, or came behind it -/
theorem FlL.st {w w' : World} {B r : Nat} {c : Int} {a : Nat} {v : Value} (h : FlL w B c a v) (hg : w.grownBy w' (some r)) (hr : r < B) : FlL w' B c a v := by
  obtain ⟨fb, why, e, h1, h2⟩ := h
  exact ⟨fb, why, e, h1, h2.kept hg (fun e => by have := Option.some.inj e; omega)⟩
theorem FlL.stT {w w' : World} {B r : Nat} {T : TypeId} {cells : List Value} {c : Int} {a : Nat} {v : Value} (h : FlL w B c a v) (hg : w.grownBy w' (some r)) (hb : Blk w r T cells) (hT : T ≠ 135) : FlL w' B c a v := by
  obtain ⟨fb, why, e, h1, h2⟩ := h
  refine ⟨fb, why, e, h1, h2.kept hg (fun e => ?_)⟩
  have := Option.some.inj e
  subst this
  have h3 : w.heap[fb]? = w.heap[fb]? := rfl
  unfold Blk at hb h2
  rw [h2] at hb
  have := Option.some.inj hb
  simp at this
  exact hT this.2.symm
theorem FlL.err {w : World} {B : Nat} {c : Int} {a : Nat} {v : Value} (h : FlL w B c a v) : errI v = true ∧ nilI v = false := by
  obtain ⟨fb, why, rfl, _⟩ := h
  exact ⟨rfl, rfl⟩
/-- an error, or none, of a reading -/
def ErL (w : World) (B : Nat) (r : PR) (e : Value) (t : Ltl) (st : Bys × Bys) : Prop := (e = .nilIface ∧ r = .ok t st) ∨ ∃ c a, r = .er c a ∧ FlL w B c a e
theorem ErL.ext {w w' : World} {B : Nat} {r : PR} {e : Value} {t : Ltl} {st : Bys × Bys} (h : ErL w B r e t st) (hE : Ext w w') : ErL w' B r e t st := by
  rcases h with h | ⟨c, a, h1, h2⟩
  · exact .inl h
  · exact .inr ⟨c, a, h1, h2.ext hE⟩
theorem ErL.low {w : World} {B B' : Nat} {r : PR} {e : Value} {t : Ltl} {st : Bys × Bys} (h : ErL w B r e t st) (hB : B' ≤ B) : ErL w B' r e t st := by
  rcases h with h | ⟨c, a, h1, h2⟩
  · exact .inl h
  · exact .inr ⟨c, a, h1, h2.low hB⟩
theorem ErL.stT {w w' : World} {B b : Nat} {r : PR} {T : TypeId} {cells : List Value} {e : Value} {t : Ltl} {st : Bys × Bys} (h : ErL w B r e t st) (hg : w.grownBy w' (some b)) (hb : Blk w b T cells) (hT : T ≠ 135) : ErL w' B r e t st := by
  rcases h with h | ⟨c, a, h1, h2⟩
  · exact .inl h
  · exact .inr ⟨c, a, h1, h2.stT hg hb hT⟩
theorem ErL.err {w : World} {B : Nat} {r : PR} {e : Value} {t : Ltl} {st : Bys × Bys} (h : ErL w B r e t st) : errI e = true := by
  rcases h with ⟨rfl, _⟩ | ⟨c, a, h1, h2⟩
  · rfl
  · exact h2.err.1
/-- what a reading told -/
def PRl (T : TypeId) (rb : Nat) (s : Bys) (no : Option Addr) (nc : Nat) (nms : List ByteArray) (o B : Nat) (r : PR) (v : Value) (w : World) : Prop :=
  ∃ x e t st', v = .tuple ⟨[x, e]⟩ ∧ GL B w x t ∧ Rdr T w rb s no nc nms o st' ∧ ErL w B r e t st'
theorem ltake_ok (w0 : World) {rb : Nat} {s : Bys} {no : Option Addr} {nc : Nat} {nms : List ByteArray} {o : Nat} {st : Bys × Bys} (hr : Rdr 125 w0 rb s no nc nms o st) (hs : s.length ≤ 300) (x : Bys) :
    Rt Tryz.prog 95 [.pointer (some ⟨rb, 0, none⟩), tV x].toArray w0 fun v w' => v = .bool (decide (st.1 = x)) ∧ Rdr 125 w' rb s no nc nms o (if st.1 = x then nxT st.2 else st) ∧ w0.grownBy w' (some rb) := by
  have hb := hr.blk
  refine Rt.enter2 Tryz.func95 Tryz.ntmps95 rfl rfl ?_
  (repeat (first | (apply WL.pure; rfl; rfl; rfl) | (apply WL.nil) | (apply EX.thenN) | (apply CW.seq) | (apply CW.region) | (apply WL.fa; rfl; rfl; rfl) | (apply WL.nck; rfl; rfl; rfl) | (apply WL.ld; rfl; rfl; rfl; assumption; rfl)))
  have he : ((txA st.1).data.toList == (txA x).data.toList) = decide (st.1 = x) := by rw [txA_list, txA_list]; rw [Bool.eq_iff_iff]; simp
  rw [he]
  by_cases h : st.1 = x
  · rw [if_pos h, show decide (st.1 = x) = true from decide_eq_true h]
    (repeat (first | (apply WL.pure; rfl; rfl; rfl) | (apply EX.thenN) | (apply CW.seq) | (apply CW.region) | (apply CW.condF; rfl) | (apply CW.skip)))
    refine WL.call rfl rfl rfl (lnext_ok w0 hr hs) ?_
    rintro v w1 ⟨h1, h2⟩
    (repeat (first | (apply WL.pure; rfl; rfl; rfl) | (apply WL.nil) | (apply EX.thenN) | (apply CW.seq) | (apply CW.region) | (apply CW.ret)))
    exact EX.ret1 rfl rfl ⟨rfl, h1, h2⟩
  · rw [if_neg h, show decide (st.1 = x) = false from decide_eq_false h]
    (repeat (first | (apply WL.pure; rfl; rfl; rfl) | (apply WL.nil) | (apply EX.thenN) | (apply CW.seq) | (apply CW.region) | (apply CW.condT; rfl) | (apply CW.ret) | (apply EX.thenR)))
    exact EX.ret1 rfl rfl ⟨rfl, hr, (Ext.refl w0).grw _⟩
theorem lone_ok (w : World) {F : Nat → Prop} (hF : ∀ b, F b → b < w.heap.size) (k : Int) {v : Value} {t : Ltl} (h : Rd w F v t) : Rt Tryz.prog 97 [.int .i64 k, v].toArray w fun v w' => Rd w' (PlusC F w w') v (.mk k 0 [t] : Ltl) ∧ Ext w w' := by
  obtain ⟨ao, cap, rfl, hk⟩ := Rd.ltl h
  refine Rt.enter2 Tryz.func97 Tryz.ntmps97 rfl rfl ?_
  (repeat (first | (apply CW.seq) | (apply CW.region)))
  refine WL.boxB rfl rfl rfl fun w1 hb hE1 => ?_
  refine WL.alloc rfl rfl (fun w2 hr hE2 => ?_)
  have hb2 := hb.ext hE2
  have hE12 := hE1.trans hE2
  (repeat (first | (apply WL.pure; rfl; rfl; rfl) | (apply WL.nil) | (apply EX.thenN) | (apply CW.seq) | (apply CW.region) | (apply WL.ldA; rfl; rfl; rfl; assumption; rfl)))
  have hl : Rd w2 F (ltlV t.k t.n ao t.kids.length cap) t := Rd.mono h (fun b hb => hE12.block b (hF b hb)) (fun _ h => h)
  have hw2 : w.heap.size ≤ w2.heap.size := hE12.size
  have hlt := hr.lt
  have hw1 : w.heap.size ≤ w1.heap.size := hE1.size
  refine WL.lit (F := F) (ys := [t]) rfl rfl rfl rfl rfl (.cons hl .nil) (by show 1 * 3 ≤ 16777216; decide) (fun b hb => Nat.lt_of_lt_of_le (hF b hb) hw2) (fun w3 ho hg3 => ?_)
  have hE23 : Ext w2 w3 := (Ext.refl w2).grown hg3 (Nat.le_refl _) (fun k h => by cases h)
  have hr3 := hr.ext hE23
  have hE13 := hE12.trans hE23
  refine WL.build rfl rfl rfl rfl ?_
  refine WL.st rfl rfl rfl hr3 rfl rfl (ones_of rfl) (fun w4 hr4 hgr => ?_)
  have hE4 : Ext w w4 := hE13.grown hgr hE13.size (fun g hg => by cases hg; exact hE1.size)
  have ho4 := ho.kept hgr (fun g hg => by have := (ho.lt g hg).1; simp; omega) (fun b hb => ⟨Nat.lt_of_lt_of_le (hF b hb) hE13.size, by have : b < w.heap.size := hF b hb; simp; omega⟩)
  obtain ⟨uo, uc, he, hu⟩ := (ho4.rd.mono (F' := PlusC F w w4) (fun _ _ => rfl) (fun b hb => hb.elim .inl fun hv => .inr ⟨Nat.le_trans hE12.size (ho4.lt b hv).1, (ho4.lt b hv).2.1⟩)).sl
  obtain ⟨rfl, _, rfl⟩ := Value.slice.inj he
  (repeat (first | (apply WL.nil) | (apply EX.thenN) | (apply CW.ret)))
  exact EX.retC rfl rfl hr4 rfl ⟨Rd.mkLtl (kids := [t]) hu, hE4⟩
theorem ltwo_ok (w : World) {F : Nat → Prop} (hF : ∀ b, F b → b < w.heap.size) (k : Int) {v v' : Value} {t t' : Ltl} (h : Rd w F v t) (h' : Rd w F v' t') : Rt Tryz.prog 96 [.int .i64 k, v, v'].toArray w fun v w' => Rd w' (PlusC F w w') v (.mk k 0 [t, t'] : Ltl) ∧ Ext w w' := by
  obtain ⟨ao, cap, rfl, hk⟩ := Rd.ltl h
  obtain ⟨ao', cap', rfl, hk'⟩ := Rd.ltl h'
  refine Rt.enter3 Tryz.func96 Tryz.ntmps96 rfl rfl ?_
  (repeat (first | (apply CW.seq) | (apply CW.region)))
  refine WL.boxB rfl rfl rfl fun w0 hb0 hE0 => ?_
  refine WL.boxB rfl rfl rfl fun w1 hb hE1 => ?_
  have hb0 := hb0.ext hE1
  have hE1 := hE0.trans hE1
  refine WL.alloc rfl rfl (fun w2 hr hE2 => ?_)
  have hb0 := hb0.ext hE2
  have hb2 := hb.ext hE2
  have hE12 := hE1.trans hE2
  (repeat (first | (apply WL.pure; rfl; rfl; rfl) | (apply WL.nil) | (apply EX.thenN) | (apply CW.seq) | (apply CW.region) | (apply WL.ldA; rfl; rfl; rfl; assumption; rfl)))
  have hl : Rd w2 F (ltlV t.k t.n ao t.kids.length cap) t := Rd.mono h (fun b hb => hE12.block b (hF b hb)) (fun _ h => h)
  have hl' : Rd w2 F (ltlV t'.k t'.n ao' t'.kids.length cap') t' := Rd.mono h' (fun b hb => hE12.block b (hF b hb)) (fun _ h => h)
  have hw2 : w.heap.size ≤ w2.heap.size := hE12.size
  have hlt := hr.lt
  have hw1 : w.heap.size ≤ w1.heap.size := hE1.size
  refine WL.lit (F := F) (ys := [t, t']) rfl rfl rfl rfl rfl (.cons hl (.cons hl' .nil)) (by show 2 * 3 ≤ 16777216; decide) (fun b hb => Nat.lt_of_lt_of_le (hF b hb) hw2) (fun w3 ho hg3 => ?_)
  have hE23 : Ext w2 w3 := (Ext.refl w2).grown hg3 (Nat.le_refl _) (fun k h => by cases h)
  have hr3 := hr.ext hE23
  have hE13 := hE12.trans hE23
  refine WL.build rfl rfl rfl rfl ?_
  refine WL.st rfl rfl rfl hr3 rfl rfl (ones_of rfl) (fun w4 hr4 hgr => ?_)
  have hE4 : Ext w w4 := hE13.grown hgr hE13.size (fun g hg => by cases hg; exact hE1.size)
  have ho4 := ho.kept hgr (fun g hg => by have := (ho.lt g hg).1; simp; omega) (fun b hb => ⟨Nat.lt_of_lt_of_le (hF b hb) hE13.size, by have : b < w.heap.size := hF b hb; simp; omega⟩)
  obtain ⟨uo, uc, he, hu⟩ := (ho4.rd.mono (F' := PlusC F w w4) (fun _ _ => rfl) (fun b hb => hb.elim .inl fun hv => .inr ⟨Nat.le_trans hE12.size (ho4.lt b hv).1, (ho4.lt b hv).2.1⟩)).sl
  obtain ⟨rfl, _, rfl⟩ := Value.slice.inj he
  (repeat (first | (apply WL.nil) | (apply EX.thenN) | (apply CW.ret)))
  exact EX.retC rfl rfl hr4 rfl ⟨Rd.mkLtl (kids := [t, t']) hu, hE4⟩
end Go.Proofs.YtikigaeihdmcaaaGreatDoor

/-
  ctl.Parse, walked: a word.
-/
set_option linter.unusedVariables false
set_option linter.unusedSimpArgs false
namespace Go.Proofs.YtikigaeihdmcaaaGreatDoor
open Go.RowKit

theorem GL.zero {B : Nat} {w : World} (k n : Int) : GL B w (ltlV k n none 0 0) (.mk k n []) := Rd.mkLtl (kids := []) (Sl.zero _ _)
set_option maxHeartbeats 1000000 in
theorem cword_ok (w0 : World) {rb : Nat} {s : Bys} {no : Option Addr} {nc : Nat} {nms : List ByteArray} {o : Nat} {st : Bys × Bys} (hr : Rdr 139 w0 rb s no nc nms o st) (hs : s.length ≤ 300) :
    Rt Tryz.prog 131 [.pointer (some ⟨rb, 0, none⟩)].toArray w0 fun v w' => PRs 139 rb s no nc nms o w0.heap.size (wordR nms s.length st) v w' ∧ w0.grownBy w' (some rb) := by
  have hrl := hr.lt
  refine Rt.enter1 Tryz.func131 Tryz.ntmps131 rfl rfl ?_
  (repeat (first | (apply CW.seq) | (apply CW.region)))
  refine WL.alloc rfl rfl (fun w1 hb2 e1 => ?_)
  (repeat (first | (apply WL.pure; rfl; rfl; rfl) | (apply WL.nil) | (apply EX.thenN) | (apply CW.seq) | (apply CW.region)))
  refine WL.build rfl rfl rfl rfl ?_
  refine WL.alloc rfl rfl (fun w2 hb4 e2 => ?_)
  have h24 := hb2.lt
  have hb2 := hb2.ext e2
  have hE2 := e1.trans e2
  have l4 := hb4.lt
  generalize hB4 : w1.heap.size = b4 at *
  skip
  refine WL.st rfl rfl rfl hb4 rfl rfl (ones_of rfl) (fun w3 hb43 hg3 => ?_)
  have hb2 := hb2.kept hg3 (fun e => by have := Option.some.inj e; omega)
  have hG := grown_new (hE2.grw (some rb)) hg3 (by omega)
  have hr3 := (hr.ext hE2).kept hg3 (fun b e => by cases e; omega)
  have hrb := hr3.blk
  clear hb4 hg3 e1 e2 hr
  have e1 : ∀ l : Bys, ((txA st.1).data.toList == l) = decide (st.1 = l) := fun l => by rw [txA_list, Bool.eq_iff_iff]; simp
  have tT : (ByteArray.mk #[116, 114, 117, 101]).data.toList = tTrue := rfl
  have tF : (ByteArray.mk #[102, 97, 108, 115, 101]).data.toList = tFalse := rfl
  have tS : (ByteArray.mk #[115, 105, 108, 101, 110, 116]).data.toList = tSil := rfl
  (repeat (first | (apply WL.pure; rfl; rfl; rfl) | (apply WL.nil) | (apply EX.thenN) | (apply CW.seq) | (apply CW.region) | (apply WL.fa; rfl; rfl; rfl) | (apply WL.nck; rfl; rfl; rfl) | (apply WL.ld; rfl; rfl; rfl; assumption; rfl) | (apply CW.block)))
  rw [e1, tT]
  refine CW.cond rfl (fun h => ?_) (fun h => ?_)
  · have h1 : st.1 = tTrue := of_decide_eq_true h
    (repeat (first | (apply CW.region) | (apply WL.fa; rfl; rfl; rfl)))
    refine WL.st rfl rfl rfl hb43 rfl rfl (ones_of rfl) (fun w4 hb44 hg4 => ?_)
    have hb2 := hb2.kept hg4 (fun e => by have := Option.some.inj e; omega)
    have hG := grown_new hG hg4 (by omega)
    have hr4 := hr3.kept hg4 (fun b e => by cases e; omega)
    (repeat (first | (apply WL.pure; rfl; rfl; rfl) | (apply WL.nil) | (apply EX.thenN) | (apply CW.seq) | (apply CW.region) | (apply EX.inN)))
    refine WL.call rfl rfl rfl (cnext_ok w4 hr4 hs) ?_
    rintro _ w5 ⟨hr5, hg5⟩
    have hb2 := hb2.kept hg5 (fun e => by have := Option.some.inj e; omega)
    have hb45 := hb44.kept hg5 (fun e => by have := Option.some.inj e; omega)
    have hG := grown_tr hG hg5
    (repeat (first | (apply WL.nil) | (apply EX.thenN) | (apply CW.seq) | (apply CW.region) | (apply WL.ldA; rfl; rfl; rfl; assumption; rfl)))
    refine WL.st rfl rfl rfl hb2 rfl rfl (ones_of rfl) (fun w6 hb26 hg6 => ?_)
    (repeat (first | (apply WL.pure; rfl; rfl; rfl) | (apply WL.nil) | (apply EX.thenN) | (apply CW.ret)))
    refine EX.retC2 rfl rfl rfl hb26 rfl ⟨?_, grown_new hG hg6 (Nat.le_refl _)⟩
    unfold wordR
    rw [if_pos h1]
    exact ⟨_, _, _, _, rfl, GL.zero 1 0, hr5.kept hg6 (fun b e => by cases e; omega), .inl ⟨rfl, rfl⟩⟩
  have h1 : ¬ st.1 = tTrue := of_decide_eq_false h
  clear h
  (repeat (first | (apply WL.pure; rfl; rfl; rfl) | (apply WL.nil) | (apply EX.thenN) | (apply CW.seq) | (apply CW.region)))
  rw [e1, tF]
  refine CW.cond rfl (fun h => ?_) (fun h => ?_)
  · have h2 : st.1 = tFalse := of_decide_eq_true h
    (repeat (first | (apply CW.region) | (apply WL.fa; rfl; rfl; rfl)))
    refine WL.st rfl rfl rfl hb43 rfl rfl (ones_of rfl) (fun w4 hb44 hg4 => ?_)
    have hb2 := hb2.kept hg4 (fun e => by have := Option.some.inj e; omega)
    have hG := grown_new hG hg4 (by omega)
    have hr4 := hr3.kept hg4 (fun b e => by cases e; omega)
    (repeat (first | (apply WL.pure; rfl; rfl; rfl) | (apply WL.nil) | (apply EX.thenN) | (apply CW.seq) | (apply CW.region) | (apply EX.inN)))
    refine WL.call rfl rfl rfl (cnext_ok w4 hr4 hs) ?_
    rintro _ w5 ⟨hr5, hg5⟩
    have hb2 := hb2.kept hg5 (fun e => by have := Option.some.inj e; omega)
    have hb45 := hb44.kept hg5 (fun e => by have := Option.some.inj e; omega)
    have hG := grown_tr hG hg5
    (repeat (first | (apply WL.nil) | (apply EX.thenN) | (apply CW.seq) | (apply CW.region) | (apply WL.ldA; rfl; rfl; rfl; assumption; rfl)))
    refine WL.st rfl rfl rfl hb2 rfl rfl (ones_of rfl) (fun w6 hb26 hg6 => ?_)
    (repeat (first | (apply WL.pure; rfl; rfl; rfl) | (apply WL.nil) | (apply EX.thenN) | (apply CW.ret)))
    refine EX.retC2 rfl rfl rfl hb26 rfl ⟨?_, grown_new hG hg6 (Nat.le_refl _)⟩
    unfold wordR
    rw [if_neg h1, if_pos h2]
    exact ⟨_, _, _, _, rfl, GL.zero 2 0, hr5.kept hg6 (fun b e => by cases e; omega), .inl ⟨rfl, rfl⟩⟩
  have h2 : ¬ st.1 = tFalse := of_decide_eq_false h
  clear h
  (repeat (first | (apply WL.pure; rfl; rfl; rfl) | (apply WL.nil) | (apply EX.thenN) | (apply CW.seq) | (apply CW.region)))
  rw [e1, tS]
  refine CW.cond rfl (fun h => ?_) (fun h => ?_)
  · have h3 : st.1 = tSil := of_decide_eq_true h
    (repeat (first | (apply CW.region) | (apply WL.fa; rfl; rfl; rfl)))
    refine WL.st rfl rfl rfl hb43 rfl rfl (ones_of rfl) (fun w4 hb44 hg4 => ?_)
    have hb2 := hb2.kept hg4 (fun e => by have := Option.some.inj e; omega)
    have hG := grown_new hG hg4 (by omega)
    have hr4 := hr3.kept hg4 (fun b e => by cases e; omega)
    (repeat (first | (apply WL.pure; rfl; rfl; rfl) | (apply WL.nil) | (apply EX.thenN) | (apply CW.seq) | (apply CW.region) | (apply EX.inN)))
    refine WL.call rfl rfl rfl (cnext_ok w4 hr4 hs) ?_
    rintro _ w5 ⟨hr5, hg5⟩
    have hb2 := hb2.kept hg5 (fun e => by have := Option.some.inj e; omega)
    have hb45 := hb44.kept hg5 (fun e => by have := Option.some.inj e; omega)
    have hG := grown_tr hG hg5
    (repeat (first | (apply WL.nil) | (apply EX.thenN) | (apply CW.seq) | (apply CW.region) | (apply WL.ldA; rfl; rfl; rfl; assumption; rfl)))
    refine WL.st rfl rfl rfl hb2 rfl rfl (ones_of rfl) (fun w6 hb26 hg6 => ?_)
    (repeat (first | (apply WL.pure; rfl; rfl; rfl) | (apply WL.nil) | (apply EX.thenN) | (apply CW.ret)))
    refine EX.retC2 rfl rfl rfl hb26 rfl ⟨?_, grown_new hG hg6 (Nat.le_refl _)⟩
    unfold wordR
    rw [if_neg h1, if_neg h2, if_pos h3]
    exact ⟨_, _, _, _, rfl, GL.zero 3 63, hr5.kept hg6 (fun b e => by cases e; omega), .inl ⟨rfl, rfl⟩⟩
  have h3 : ¬ st.1 = tSil := of_decide_eq_false h
  clear h e1 tT tF tS
  (repeat (apply CW.seq))
  have hD := Ext.drew w3
  have hrd := hr3.ext hD
  have hrbd := hrd.blk
  have hb2d := hb2.ext hD
  have hb4d := hb43.ext hD
  have hGd := grown_tr hG (hD.grw _)
  refine CW.drawH (fun z : World => Blk z rb 139 [tV s, .slice no nms.length nc, tV st.1, .int .i64 (atT s.length st : Int), .int .i64 ((s.length - st.2.length : Nat) : Int), .int .i64 (o : Int)]) [(0, true), (1, true), (2, true), (3, true), (4, true), (5, true), (6, true), (7, true), (8, false), (9, true), (10, false)] mixed (by kernel_rfl) hrbd ?_
  clear hr3 hrb hb2 hb43 hG
  (repeat (first | (apply HL.pure; rfl; rfl; rfl; rfl) | (refine HL.fa rfl rfl rfl rfl ?_) | (apply HL.nck; rfl; rfl; rfl; rfl)))
  refine HL.ldS (fun z hz => hz) rfl rfl rfl rfl rfl ?_
  (repeat (first | (apply HL.pure; rfl; rfl; rfl; rfl) | (refine HL.fa rfl rfl rfl rfl ?_) | (apply HL.nck; rfl; rfl; rfl; rfl)))
  refine HL.ldS (fun z hz => hz) rfl rfl rfl rfl rfl ?_
  refine HL.mut rfl (WL.call rfl rfl rfl (index_str (drew w3) (txA st.1) (hrd.nm.mono (fun _ _ => rfl) fun b hb => by have := hrd.lt; show b < _; omega)) ?_)
  rintro _ w4 ⟨rfl, rfl⟩
  rw [idxB_of, txA_list]
  refine WL.nil (EX.mut hrbd ?_)
  (repeat (refine HL.fa rfl rfl rfl rfl ?_))
  refine HL.mut rfl (WL.st rfl rfl rfl hb4d rfl rfl (ones_of rfl) (fun w4 hb44 hg4 => ?_))
  have hr4 := hrd.kept hg4 (fun b e => by cases e; omega)
  have hrb := hr4.blk
  refine WL.nil (EX.mut hrb ?_)
  have hb2 := hb2d.kept hg4 (fun e => by have := Option.some.inj e; omega)
  have hG := grown_new hGd hg4 (by omega)
  clear hb4d hb2d hGd hrbd hrd hg4 hD
  (repeat (first | (apply HL.nil) | (apply EX.thenN)))
  refine CW.cutE [(0, .pointer (some ⟨rb, 0, none⟩)), (2, .pointer (some ⟨w0.heap.size, 0, none⟩)), (4, .pointer (some ⟨b4, 0, none⟩)), (35, .bool (decide (idxB nms st.1 < 0 ∨ idxB nms st.1 ≥ 63 ∨ namedL st.1 = false)))] ?_ ?_
  · (repeat (first | (apply WL.pure; rfl; rfl; rfl) | (apply CW.region) | (apply WL.fa; rfl; rfl; rfl) | (apply WL.ld; rfl; rfl; rfl; assumption; rfl)))
    (refine WL.lookG rfl rfl (fun h => ?_) (fun h => ?_))
    · have h : idxB nms st.1 < 0 := by simpa using h
      (repeat (first | (apply WL.pure; rfl; rfl; rfl) | (apply WL.nil) | (apply WL.pass; rfl; rfl)))
      exact EX.cutE ⟨rfl, rfl, rfl, congrArg (fun b => some (Value.bool b)) (show true = _ from (decide_eq_true (Or.inl h)).symm), trivial⟩ (Ext.refl _)
    have h4 : ¬ idxB nms st.1 < 0 := by simpa using h
    clear h
    (repeat (first | (apply WL.pure; rfl; rfl; rfl) | (apply WL.fa; rfl; rfl; rfl) | (apply WL.ld; rfl; rfl; rfl; assumption; rfl)))
    (refine WL.lookG rfl rfl (fun h => ?_) (fun h => ?_))
    · have h : idxB nms st.1 ≥ 63 := by simpa using h
      (repeat (first | (apply WL.pure; rfl; rfl; rfl) | (apply WL.nil) | (apply WL.pass; rfl; rfl)))
      exact EX.cutE ⟨rfl, rfl, rfl, congrArg (fun b => some (Value.bool b)) (show true = _ from (decide_eq_true (Or.inr (Or.inl h))).symm), trivial⟩ (Ext.refl _)
    have h5 : ¬ idxB nms st.1 ≥ 63 := by simpa using h
    clear h
    (repeat (first | (apply WL.pure; rfl; rfl; rfl) | (apply WL.fa; rfl; rfl; rfl) | (apply WL.nck; rfl; rfl; rfl) | (apply WL.ld; rfl; rfl; rfl; assumption; rfl)))
    refine WL.call rfl rfl rfl (Named_ok w4 (txA st.1)) ?_
    rintro _ w5 ⟨rfl, e5⟩
    (repeat (first | (apply WL.pure; rfl; rfl; rfl) | (apply WL.nil)))
    refine EX.cutE ⟨rfl, rfl, rfl, ?_, trivial⟩ e5
    refine congrArg (fun b => some (Value.bool b)) ?_
    have : namedB (txA st.1) = namedL st.1 := by unfold namedB; rw [txA_list]
    rw [this, Bool.eq_iff_iff]
    simp [h4, h5]
  rintro w5 e5
  have hr5 := hr4.ext e5
  have hb45 := hb44.ext e5
  have hb2 := hb2.ext e5
  have hG := grown_tr hG (e5.grw _)
  clear hr4 hb44
  have hw : wordR nms s.length st = if idxB nms st.1 < 0 ∨ idxB nms st.1 ≥ 63 ∨ namedL st.1 = false then .er 4 (atT s.length st) else .ok (.mk 3 (idxB nms st.1) []) (nxT st.2) := by
    unfold wordR
    rw [if_neg h1, if_neg h2, if_neg h3]
  rw [hw]
  refine CW.cond rfl (fun h => ?_) (fun h => ?_)
  · rw [if_pos (of_decide_eq_true h)]
    (repeat (first | (apply CW.seq) | (apply CW.region)))
    refine WL.build (parts := []) rfl rfl rfl rfl ?_
    (repeat (apply WL.pure; rfl; rfl; rfl))
    refine WL.call rfl rfl rfl (cwrong_ok w5 hr5 4) ?_
    rintro _ w6 ⟨rfl, hf6, e6⟩
    have hb2 := hb2.ext e6
    have hr6 := hr5.ext e6
    have hG := grown_tr hG (e6.grw _)
    have l5 : w0.heap.size ≤ w5.heap.size := by have := hb45.lt; omega
    have l5' : w0.heap.size < w5.heap.size := by have := hb45.lt; omega
    skip
    refine WL.st rfl rfl rfl hb2 rfl rfl (ones_of rfl) (fun w7 hb27 hg7 => ?_)
    (repeat (first | (apply WL.pure; rfl; rfl; rfl) | (apply WL.nil) | (apply EX.thenN) | (apply CW.ret) | (apply EX.thenR) | (apply EX.inR)))
    refine EX.retC2 rfl rfl rfl hb27 rfl ⟨?_, grown_new hG hg7 (Nat.le_refl _)⟩
    exact ⟨_, _, _, st, rfl, GL.zero 0 0, hr6.kept hg7 (fun b e => by cases e; omega), .inr ⟨_, _, rfl, _, rfl, l5, hf6.kept hg7 (fun e => by have := Option.some.inj e; omega)⟩⟩
  · rw [if_neg (of_decide_eq_false h)]
    (repeat (first | (apply WL.pure; rfl; rfl; rfl) | (apply EX.thenN) | (apply CW.seq) | (apply CW.region) | (apply EX.inN) | (apply CW.skip)))
    refine WL.call rfl rfl rfl (cnext_ok w5 hr5 hs) ?_
    rintro _ w6 ⟨hr6, hg6⟩
    have hb2 := hb2.kept hg6 (fun e => by have := Option.some.inj e; omega)
    have hb46 := hb45.kept hg6 (fun e => by have := Option.some.inj e; omega)
    have hG := grown_tr hG hg6
    (repeat (first | (apply WL.nil) | (apply EX.thenN) | (apply CW.seq) | (apply CW.region) | (apply WL.ldA; rfl; rfl; rfl; assumption; rfl)))
    refine WL.st rfl rfl rfl hb2 rfl rfl (ones_of rfl) (fun w7 hb27 hg7 => ?_)
    (repeat (first | (apply WL.pure; rfl; rfl; rfl) | (apply WL.nil) | (apply EX.thenN) | (apply CW.ret)))
    refine EX.retC2 rfl rfl rfl hb27 rfl ⟨?_, grown_new hG hg7 (Nat.le_refl _)⟩
    exact ⟨_, _, _, _, rfl, GL.zero 3 _, hr6.kept hg7 (fun b e => by cases e; omega), .inl ⟨rfl, rfl⟩⟩
end Go.Proofs.YtikigaeihdmcaaaGreatDoor

/-
  ctl.Parse, walked: rows of parts.
-/
set_option linter.unusedVariables false
set_option linter.unusedSimpArgs false
namespace Go.Proofs.YtikigaeihdmcaaaGreatDoor
open Go.RowKit

def mT (st : Bys × Bys) : Nat := st.1.length + st.2.length
theorem mT_nx (st : Bys × Bys) : mT (nxT st.2) ≤ st.2.length := nxT_len st.2
theorem mT_nx1 {st : Bys × Bys} (h : st.1 ≠ []) : mT (nxT st.2) + 1 ≤ mT st := by
  have := mT_nx st
  have : 0 < st.1.length := List.length_pos_iff.2 h
  unfold mT at *
  omega
theorem word_mono {nms : List ByteArray} {N : Nat} {st st' : Bys × Bys} {f : Ltl} (h : wordR nms N st = .ok f st') : mT st' ≤ mT st := by
  have h1 := mT_nx st
  have h2 : st.2.length ≤ mT st := by unfold mT; omega
  unfold wordR at h
  split at h
  · cases h; omega
  split at h
  · cases h; omega
  split at h
  · cases h; omega
  split at h
  · cases h
  · cases h; omega
theorem c_mono (nms : List ByteArray) (N : Nat) : ∀ n,
    (∀ o left st f st', cFor nms N n o left st = .ok f st' → mT st' ≤ mT st) ∧ (∀ lv o st f st', cRow nms N n lv o st = .ok f st' → mT st' ≤ mT st) ∧
    (∀ lv o g st f st', cRowL nms N n lv o g st = .ok f st' → mT st' ≤ mT st) ∧ (∀ lv o st f st', cPart nms N n lv o st = .ok f st' → mT st' ≤ mT st) ∧
    (∀ a o st f st', cWays nms N n a o st = .ok f st' → mT st' ≤ mT st) ∧ (∀ k o st f st', cUnt nms N n k o st = .ok f st' → mT st' ≤ mT st) ∧ (∀ o st f st', cSin nms N n o st = .ok f st' → mT st' ≤ mT st)
  | 0 => by refine ⟨?_, ?_, ?_, ?_, ?_, ?_, ?_⟩ <;> (intros; rename_i h; first | (unfold cFor at h; cases h) | (unfold cRow at h; cases h) | (unfold cRowL at h; cases h) | (unfold cPart at h; cases h) | (unfold cWays at h; cases h) | (unfold cUnt at h; cases h) | (unfold cSin at h; cases h))
  | n + 1 => by
    obtain ⟨i1, i2, i3, i4, i5, i6, i7⟩ := c_mono nms N n
    have hn : ∀ st : Bys × Bys, mT (nxT st.2) ≤ mT st := fun st => by have := mT_nx st; have : st.2.length ≤ mT st := by (unfold mT; omega)
                                                                      omega
    refine ⟨fun o left st f st' h => ?_, fun lv o st f st' h => ?_, fun lv o g st f st' h => ?_, fun lv o st f st' h => ?_, fun a o st f st' h => ?_, fun k o st f st' h => ?_, fun o st f st' h => ?_⟩
    · unfold cFor at h
      split at h
      · cases h
      · rename_i g s1 e
        have h1 := i2 _ _ _ _ _ e
        split at h
        · exact Nat.le_trans (i1 _ _ _ _ _ h) (Nat.le_trans (hn _) h1)
        · cases h; exact h1
    · unfold cRow at h
      split at h
      · cases h
      · rename_i g s1 e
        exact Nat.le_trans (i3 _ _ _ _ _ _ h) (i4 _ _ _ _ _ e)
    · unfold cRowL at h
      split at h
      · split at h
        · cases h
        · rename_i g s1 e
          exact Nat.le_trans (i3 _ _ _ _ _ _ h) (Nat.le_trans (i4 _ _ _ _ _ e) (hn _))
      · cases h; exact Nat.le_refl _
    · cases lv
      · unfold cPart at h; exact i7 _ _ _ _ h
      · unfold cPart at h; exact i2 _ _ _ _ _ h
    · unfold cWays at h
      split at h
      · exact i6 _ _ _ _ _ h
      split at h
      · cases h
      split at h
      · cases h
      · rename_i g s1 e
        cases h
        exact Nat.le_trans (i7 _ _ _ _ e) (hn _)
    · unfold cUnt at h
      split at h
      · cases h
      · rename_i g s1 e
        have h1 := Nat.le_trans (i1 _ _ _ _ _ e) (hn _)
        split at h
        · split at h
          · cases h
          · rename_i g2 s2 e2
            split at h
            · cases h
              exact Nat.le_trans (hn _) (Nat.le_trans (i1 _ _ _ _ _ e2) (Nat.le_trans (hn _) h1))
            · cases h
        · cases h
    · unfold cSin at h
      split at h
      · split at h
        · cases h
        split at h
        · cases h
        · rename_i g s1 e
          cases h
          exact Nat.le_trans (i7 _ _ _ _ e) (hn _)
      split at h
      · split at h
        · cases h
        · exact Nat.le_trans (i5 _ _ _ _ _ h) (hn _)
      split at h
      · split at h
        · cases h
        · exact Nat.le_trans (i5 _ _ _ _ _ h) (hn _)
      split at h
      · split at h
        · cases h
        split at h
        · cases h
        · rename_i g s1 e
          have h1 := Nat.le_trans (i1 _ _ _ _ _ e) (hn _)
          split at h
          · cases h; exact Nat.le_trans (hn _) h1
          · cases h
      split at h
      · cases h
      · exact word_mono h
def cl : Bool → Nat | true => 4 | false => 2
theorem sgR_ne (lv : Bool) : sgR lv ≠ [] := by cases lv <;> decide
theorem GX.wk {B r : Nat} {X : List Nat} {w : World} {v : Value} {t : Ltl} (h : GX B (r :: X) w v t) : GX B X w v t := Rd.wk h (fun b hb => ⟨hb.1, hb.2.1, fun hm => hb.2.2 (List.mem_cons_of_mem _ hm)⟩)
theorem HF.wk {T : TypeId} {w : World} {b B r : Nat} {X : List Nat} {t : Ltl} (h : HF T w b B (r :: X) t) : HF T w b B X t := by
  obtain ⟨uo, uc, h1, h2⟩ := h.gx
  exact HF.of h1 h2.wk
instance iCRd11 : IsIf Tryz.prog 127 := ⟨by kernel_rfl⟩
/-- a function that reads a part -/
def PartF (rb : Nat) (s : Bys) (no : Option Addr) (nc : Nat) (nms : List ByteArray) (o : Nat) (fv : Value) (c : Nat) (rd : Nat → Bys × Bys → PR) (n : Nat) : Prop :=
  ∀ m, m ≤ n → ∀ (st : Bys × Bys) (w : World), Rdr 139 w rb s no nc nms o st → 10 * mT st + c ≤ m → FnV Tryz.prog fv [] w fun v w' => PRs 139 rb s no nc nms o w.heap.size (rd m st) v w' ∧ w.grownBy w' (some rb)
set_option maxHeartbeats 1000000 in
theorem crow_ok (lv : Bool) (n : Nat) (w0 : World) {rb : Nat} {s : Bys} {no : Option Addr} {nc : Nat} {nms : List ByteArray} {o : Nat} {st : Bys × Bys} (hr : Rdr 139 w0 rb s no nc nms o st) (hs : s.length ≤ 300) {fv : Value}
    (hf : PartF rb s no nc nms o fv (cl lv) (fun m st => cPart nms s.length m lv o st) n) (hn : 10 * mT st + cl lv ≤ n) :
    Rt Tryz.prog 107 [.pointer (some ⟨rb, 0, none⟩), .int .i64 (knR lv), tV (sgR lv), fv].toArray w0 fun v w' => PRs 139 rb s no nc nms o w0.heap.size (cRow nms s.length (n + 1) lv o st) v w' ∧ w0.grownBy w' (some rb) := by
  have hrl := hr.lt
  refine Rt.enter4 Tryz.func107 Tryz.ntmps107 rfl rfl ?_
  (repeat (first | (apply CW.seq) | (apply CW.region)))
  refine WL.alloc rfl rfl (fun w1 hb8 e1 => ?_)
  have l8 := hb8.lt
  have hr1 := hr.ext e1
  (repeat (first | (apply WL.pure; rfl; rfl; rfl) | (apply WL.nil) | (apply EX.thenN) | (apply CW.seq) | (apply CW.region)))
  refine WL.callF (xs := []) (vs := []) rfl rfl rfl rfl (hf n (Nat.le_refl _) st w1 hr1 hn) ?_
  rintro _ w2 ⟨⟨x, e, t, st1, rfl, hx, hr2, hE2⟩, hg2⟩
  have hm2 : ∀ f st', cPart nms s.length n lv o st = .ok f st' → mT st' ≤ mT st := fun f st' h => (c_mono nms s.length n).2.2.2.1 _ _ _ _ _ h
  have hb8 := hb8.kept hg2 (fun e => by have := Option.some.inj e; omega)
  have hG := grown_tr (e1.grw (some rb)) hg2
  have z2 := hg2.size
  have hx : GX w0.heap.size [w0.heap.size] w2 x t := GX.of hx (Nat.le_of_lt l8) (fun r hr => by rw [List.mem_singleton.1 hr]; exact l8)
  have hE2 : ErP w2 w0.heap.size (cPart nms s.length n lv o st) e t st1 := hE2.low (Nat.le_of_lt l8)
  obtain ⟨uo, uc, rfl, hk⟩ := Rd.ltl hx
  (repeat (apply WL.pure; rfl; rfl; rfl))
  refine WL.alloc rfl rfl (fun w3 hb10 e3 => ?_)
  have hx := hx.add e3 (Nat.le_refl _)
  have hb8 := hb8.ext e3
  have hr3 := hr2.ext e3
  have hE3 := hE2.ext e3
  have hG := grown_tr hG (e3.grw (some rb))
  skip
  refine WL.st rfl rfl rfl hb10 rfl rfl (ones_of rfl) (fun w4 hb104 hg4 => ?_)
  have hx := hx.st hg4 (.inr (List.mem_cons_self ..))
  have hH := HF.of hb104 hx
  have hb8 := hb8.kept hg4 (fun e => by have := Option.some.inj e; omega)
  have hr4 := hr3.kept hg4 (fun b e => by cases e; omega)
  have hE4 := hE3.stT hg4 hb10 (by decide)
  have hG := grown_new hG hg4 (by omega)
  clear hb10 hb104 hg4 hx hr3 hr2 hr1 hE2 hE3 hk e3 hg2
  generalize hB10 : w2.heap.size = b10 at *
  have hI0 : (e = .nilIface ∧ cRow nms s.length (n + 1) lv o st = cRowL nms s.length n lv o t st1 ∧ 10 * mT st1 + 1 ≤ n) ∨ ∃ c a, cRow nms s.length (n + 1) lv o st = .er c a ∧ FlV w4 w0.heap.size c a e := by
    rcases hE4 with ⟨h1, h2⟩ | ⟨c, a, h1, h2⟩
    · left
      refine ⟨h1, by rw [cRow, h2], ?_⟩
      have := hm2 _ _ h2
      cases lv <;> simp only [cl] at hn <;> omega
    · right
      exact ⟨c, a, by rw [cRow, h1], h2⟩
  clear hE4 hm2
  generalize cRow nms s.length (n + 1) lv o st = R at *
  (repeat (first | (apply WL.pure; rfl; rfl; rfl) | (apply WL.nil) | (apply EX.thenN)))
  refine CW.cutI (S := Value × Ltl) (fun p => [(8, .pointer (some ⟨w0.heap.size, 0, none⟩)), (10, .pointer (some ⟨b10, 0, none⟩)), (11, p.1)])
    (fun p w => w0.grownBy w (some rb) ∧ Blk w w0.heap.size 31 [.int .i64 0, .int .i64 0, .slice none 0 0] ∧ HF 31 w b10 w0.heap.size [b10, w0.heap.size] p.2 ∧ ∃ st', Rdr 139 w rb s no nc nms o st' ∧ ErP w w0.heap.size R p.1 p.2 st') ?_ ?_
  · apply CW.block
    refine CW.loop (S := Nat × Ltl × (Bys × Bys) × Value) (fun p => [(0, .pointer (some ⟨rb, 0, none⟩)), (1, .int .i64 (knR lv)), (2, tV (sgR lv)), (3, fv), (8, .pointer (some ⟨w0.heap.size, 0, none⟩)), (10, .pointer (some ⟨b10, 0, none⟩)), (11, p.2.2.2)])
      (fun p w => w0.grownBy w (some rb) ∧ Blk w w0.heap.size 31 [.int .i64 0, .int .i64 0, .slice none 0 0] ∧ HF 31 w b10 w0.heap.size [b10, w0.heap.size] p.2.1 ∧ Rdr 139 w rb s no nc nms o p.2.2.1 ∧
        ((p.2.2.2 = .nilIface ∧ R = cRowL nms s.length p.1 lv o p.2.1 p.2.2.1 ∧ 10 * mT p.2.2.1 + 1 ≤ p.1 ∧ p.1 ≤ n) ∨ ∃ c a, R = .er c a ∧ FlV w w0.heap.size c a p.2.2.2))
      (fun p => if nilI p.2.2.2 = true then mT p.2.2.1 + 1 else 0) (n, t, st1, e) (by repeat (first | exact trivial | refine ⟨rfl, ?_⟩)) ⟨hG, hb8, hH, hr4, by rcases hI0 with ⟨h1, h2, h3⟩ | h; exact .inl ⟨h1, h2, h3, Nat.le_refl _⟩; exact .inr h⟩ ?_
    clear hG hb8 hH hr4 hI0 hr
    rintro ⟨m, t, st1, e⟩ w5 ⟨hG, hb8, hH, hr5, hI⟩
    dsimp only at hG hb8 hH hr5 hI ⊢
    have he : errI e = true := by
      rcases hI with ⟨rfl, _⟩ | ⟨c, a, _, h⟩
      · rfl
      · exact h.err.1
    (repeat (first | (apply WL.pure; rfl; rfl; rfl) | (apply CW.seq) | (apply CW.region)))
    refine WL.eqNil rfl rfl rfl he ?_
    rcases hI with ⟨rfl, hR, hm, hmn⟩ | ⟨c, a, hR, hF⟩
    · rw [show nilI Value.nilIface = true from rfl]
      (repeat (apply WL.pure; rfl; rfl; rfl))
      refine WL.call rfl rfl rfl (ctake_ok w5 hr5 hs (sgR lv)) ?_
      rintro _ w6 ⟨rfl, hr6, hg6⟩
      have l8' := hb8.lt
      have l10 := hH.lt
      have hrl5 := hr5.lt
      have hb8 := hb8.kept hg6 (fun e => by have := Option.some.inj e; omega)
      have hH := hH.st hg6 (.inl hrl) (by omega)
      have hG := grown_tr hG hg6
      obtain ⟨m, rfl⟩ : ∃ k, m = k + 1 := ⟨m - 1, by omega⟩
      rw [cRowL] at hR
      (repeat (first | (apply WL.pure; rfl; rfl; rfl) | (apply WL.nil) | (apply EX.thenN)))
      refine CW.cond rfl (fun h => ?_) (fun h => ?_)
      · have h : st1.1 = sgR lv := of_decide_eq_true h
        rw [if_pos h] at hR hr6
        have hmx := mT_nx1 (st := st1) (by rw [h]; exact sgR_ne lv)
        (repeat (first | (apply EX.thenN) | (apply CW.seq) | (apply CW.region) | (apply CW.block) | (apply CW.skip)))
        refine WL.alloc rfl rfl (fun w7 hb12 e7 => ?_)
        have hH := hH.add e7 (Nat.le_refl _)
        have hb8 := hb8.ext e7
        have hr7 := hr6.ext e7
        have hG := grown_tr hG (e7.grw (some rb))
        have l12 := hb12.lt
        have z6 := hg6.size
        generalize hB12 : w6.heap.size = b12 at *
        (repeat (first | (apply WL.pure; rfl; rfl; rfl) | (apply WL.nil) | (apply EX.thenN) | (apply CW.seq) | (apply CW.region)))
        refine WL.callF (xs := []) (vs := []) rfl rfl rfl rfl (hf m (by omega) _ w7 hr7 (by cases lv <;> simp only [cl] <;> omega)) ?_
        rintro _ w8 ⟨⟨x, e, t2, st2, rfl, hx, hr8, hE8⟩, hg8⟩
        have z7 := e7.size
        have z8 := hg8.size
        have hH := hH.st hg8 (.inl hrl) (by omega)
        have hb8 := hb8.kept hg8 (fun e => by have := Option.some.inj e; omega)
        have hb12 := hb12.kept hg8 (fun e => by have := Option.some.inj e; omega)
        have hG := grown_tr hG hg8
        have hx : GX w0.heap.size [b12, b10, w0.heap.size] w8 x t2 := GX.of hx (by omega) (fun r hr => by
          simp only [List.mem_cons, List.not_mem_nil, or_false] at hr
          rcases hr with rfl | rfl | rfl <;> omega)
        have hE8 : ErP w8 w0.heap.size (cPart nms s.length m lv o (nxT st1.2)) e t2 st2 := hE8.low (by omega)
        obtain ⟨uo, uc, rfl, hk⟩ := Rd.ltl hx
        (repeat (apply WL.pure; rfl; rfl; rfl))
        refine WL.st rfl rfl rfl hb12 rfl rfl (ones_of rfl) (fun w9 hb129 hg9 => ?_)
        have hx := hx.st hg9 (.inr (List.mem_cons_self ..))
        have hH := hH.st hg9 (.inr (List.mem_cons_self ..)) (by omega)
        have hb8 := hb8.kept hg9 (fun e => by have := Option.some.inj e; omega)
        have hr9 := hr8.kept hg9 (fun b e => by cases e; omega)
        have hE9 := hE8.stT hg9 hb12 (by decide)
        have hG := grown_new hG hg9 (by omega)
        obtain ⟨vo, vc, hb10, hy⟩ := hH.gx
        have z9 := hg9.size
        clear hb12 hg9 hr8 hE8 hk
        (repeat (first | (apply WL.pure; rfl; rfl; rfl) | (apply WL.nil) | (apply EX.thenN) | (apply CW.region) | (apply WL.ldA; rfl; rfl; rfl; assumption; rfl)))
        refine WL.call rfl rfl rfl (ctwo_ok w9 (F := GXs w0.heap.size [b12, b10, w0.heap.size] w9) (fun b hb => hb.2.1) (knR lv) hy hx) ?_
        rintro _ w10 ⟨hv, e10⟩
        have hv : GX w0.heap.size [b12, b10, w0.heap.size] w10 _ (.mk (knR lv) 0 [t, t2]) := GX.plus hv e10 (by omega) (fun r hr => by
          simp only [List.mem_cons, List.not_mem_nil, or_false] at hr
          rcases hr with rfl | rfl | rfl <;> omega)
        have hv := hv.wk
        obtain ⟨uo', uc', rfl, hk'⟩ := Rd.ltl hv
        have hb10 := hb10.ext e10
        have hr10 := hr9.ext e10
        have hE10 := hE9.ext e10
        have hb8 := hb8.ext e10
        have hG := grown_tr hG (e10.grw (some rb))
        skip
        refine WL.st rfl rfl rfl hb10 rfl rfl (ones_of rfl) (fun w11 hb1011 hg11 => ?_)
        have hv := hv.st hg11 (.inr (List.mem_cons_self ..))
        have hH := HF.of hb1011 hv
        have hb8 := hb8.kept hg11 (fun e => by have := Option.some.inj e; omega)
        have hr11 := hr10.kept hg11 (fun b e => by cases e; omega)
        have hE11 := hE10.stT hg11 hb10 (by decide)
        have hG := grown_new hG hg11 (by omega)
        have hmm : ∀ f st', cPart nms s.length m lv o (nxT st1.2) = .ok f st' → mT st' ≤ mT (nxT st1.2) := fun f st' h => (c_mono nms s.length m).2.2.2.1 _ _ _ _ _ h
        (repeat (first | (apply WL.nil) | (apply EX.inN)))
        refine EX.back (m, .mk (knR lv) 0 [t, t2], st2, e) (by repeat (first | exact trivial | refine ⟨rfl, ?_⟩)) ⟨hG, hb8, hH, hr11, ?_⟩ ?_
        · dsimp only
          rcases hE11 with ⟨h1, h2⟩ | ⟨c, a, h1, h2⟩
          · left
            rw [h2] at hR
            have := hmm _ _ h2
            exact ⟨h1, hR, by omega, by omega⟩
          · right
            rw [h1] at hR
            exact ⟨c, a, hR, h2⟩
        · dsimp only
          rw [show nilI Value.nilIface = true from rfl, if_pos rfl]
          rcases hE11 with ⟨h1, h2⟩ | ⟨c, a, h1, h2⟩
          · have := hmm _ _ h2
            split <;> omega
          · rw [h2.err.2]; simp
      · have h : ¬ st1.1 = sgR lv := of_decide_eq_false h
        rw [if_neg h] at hR hr6
        (repeat (first | (apply CW.exit) | (apply EX.thenX) | (apply EX.inX)))
        exact EX.cutI (.nilIface, t) (by repeat (first | exact trivial | refine ⟨rfl, ?_⟩)) ⟨hG, hb8, hH, st1, hr6, .inl ⟨rfl, hR⟩⟩
    · rw [hF.err.2]
      (repeat (first | (apply WL.pure; rfl; rfl; rfl) | (apply WL.nil) | (apply EX.thenN) | (apply WL.pass; rfl; rfl) | (apply CW.condF; rfl) | (apply CW.exit) | (apply EX.thenX) | (apply EX.inX)))
      exact EX.cutI (e, t) (by repeat (first | exact trivial | refine ⟨rfl, ?_⟩)) ⟨hG, hb8, hH, st1, hr5, .inr ⟨c, a, hR, hF⟩⟩
  clear hG hb8 hH hr4 hI0
  rintro ⟨e, t⟩ w5 ⟨hG, hb8, hH, st', hr5, hE⟩
  dsimp only at hH hE ⊢
  obtain ⟨vo, vc, hb10, hy⟩ := hH.gx
  have l10 := hb10.lt
  (repeat (first | (apply WL.pure; rfl; rfl; rfl) | (apply CW.seq) | (apply CW.region) | (apply WL.ldA; rfl; rfl; rfl; assumption; rfl)))
  refine WL.st rfl rfl rfl hb8 rfl rfl (ones_of rfl) (fun w6 hb86 hg6 => ?_)
  (repeat (first | (apply WL.pure; rfl; rfl; rfl) | (apply WL.nil) | (apply EX.thenN) | (apply CW.ret)))
  refine EX.retC2 rfl rfl rfl hb86 rfl ⟨⟨_, _, t, st', rfl, (hy.st hg6 (.inr (by simp))).gl, hr5.kept hg6 (fun b e => by cases e; omega), hE.stT hg6 hb8 (by decide)⟩, grown_new hG hg6 (Nat.le_refl _)⟩
end Go.Proofs.YtikigaeihdmcaaaGreatDoor

/-
  ctl.Parse, walked: within brackets, rows of ands, ways.
-/
set_option linter.unusedVariables false
set_option linter.unusedSimpArgs false
namespace Go.Proofs.YtikigaeihdmcaaaGreatDoor
open Go.RowKit

/-- a store of the reader's own: how many brackets are open -/
theorem Rdr.open' {w w' : World} {rb : Nat} {s : Bys} {no : Option Addr} {nc : Nat} {nms : List ByteArray} {o o' : Nat} {st : Bys × Bys} (h : Rdr 139 w rb s no nc nms o st) (hg : w.grownBy w' (some rb))
    (hb : Blk w' rb 139 [tV s, .slice no nms.length nc, tV st.1, .int .i64 (atT s.length st : Int), .int .i64 ((s.length - st.2.length : Nat) : Int), .int .i64 (o' : Int)]) : Rdr 139 w' rb s no nc nms o' st :=
  ⟨hb, h.nm.mono (fun b hb => hg.block b (by have := h.lt; omega) (by simp; omega)) fun _ h => h, h.drp, h.len⟩
theorem cwithin_ok (w0 : World) {rb : Nat} {s : Bys} {no : Option Addr} {nc : Nat} {nms : List ByteArray} {o : Nat} {st : Bys × Bys} (hr : Rdr 139 w0 rb s no nc nms o st) (hs : s.length ≤ 300) (ho : o ≤ 20) {fv : Value} {r : PR}
    (hf : o < 20 → ∀ w, Rdr 139 w rb s no nc nms (o + 1) (nxT st.2) → w0.grownBy w (some rb) → FnV Tryz.prog fv [] w fun v w' => PRs 139 rb s no nc nms (o + 1) w.heap.size r v w' ∧ w.grownBy w' (some rb)) :
    Rt Tryz.prog 127 [.pointer (some ⟨rb, 0, none⟩), fv].toArray w0 fun v w' => PRs 139 rb s no nc nms o w0.heap.size (if o = 20 then .er 5 (atT s.length st) else r) v w' ∧ w0.grownBy w' (some rb) := by
  have hrl := hr.lt
  refine Rt.enter2 Tryz.func127 Tryz.ntmps127 rfl rfl ?_
  (repeat (first | (apply CW.seq) | (apply CW.region)))
  refine WL.alloc rfl rfl (fun w1 hb4 e1 => ?_)
  have l4 := hb4.lt
  have hr1 := hr.ext e1
  have hb1 := hr1.blk
  have hG := e1.grw (some rb)
  (repeat (first | (apply WL.pure; rfl; rfl; rfl) | (apply WL.nil) | (apply EX.thenN) | (apply CW.seq) | (apply CW.region) | (apply WL.fa; rfl; rfl; rfl) | (apply WL.nck; rfl; rfl; rfl) | (apply WL.ld; rfl; rfl; rfl; assumption; rfl)))
  refine CW.cond rfl (fun h => ?_) (fun h => ?_)
  · have h20 : o = 20 := by have : (o : Int) = 20 := by simpa using h
                            omega
    rw [if_pos h20]
    (repeat (first | (apply CW.seq) | (apply CW.region)))
    refine WL.build (parts := []) rfl rfl rfl rfl ?_
    (repeat (apply WL.pure; rfl; rfl; rfl))
    refine WL.call rfl rfl rfl (cwrong_ok w1 hr1 5) ?_
    rintro _ w6 ⟨rfl, hf6, e6⟩
    have hb46 := hb4.ext e6
    have hr6 := hr1.ext e6
    have hG := grown_tr hG (e6.grw _)
    skip
    refine WL.st rfl rfl rfl hb46 rfl rfl (ones_of rfl) (fun w7 hb47 hg7 => ?_)
    (repeat (first | (apply WL.pure; rfl; rfl; rfl) | (apply WL.nil) | (apply EX.thenN) | (apply CW.ret) | (apply EX.thenR)))
    refine EX.retC2 rfl rfl rfl hb47 rfl ⟨?_, grown_new hG hg7 (Nat.le_refl _)⟩
    exact ⟨_, _, _, st, rfl, GL.zero 0 0, hr6.kept hg7 (fun b e => by cases e; omega), .inr ⟨_, _, rfl, _, rfl, Nat.le_of_lt l4, hf6.kept hg7 (fun e => by have := Option.some.inj e; omega)⟩⟩
  have h20 : ¬ o = 20 := by have : ¬ (o : Int) = 20 := by simpa using h
                            omega
  rw [if_neg h20]
  clear h
  (repeat (first | (apply WL.add; rfl; rfl; rfl; rfl; omega; omega) | (apply WL.pure; rfl; rfl; rfl) | (apply EX.thenN) | (apply CW.seq) | (apply CW.region) | (apply WL.fa; rfl; rfl; rfl) | (apply WL.nck; rfl; rfl; rfl) | (apply WL.ld; rfl; rfl; rfl; assumption; rfl) | (apply CW.skip)))
  refine WL.st rfl rfl rfl hb1 rfl rfl (ones_of rfl) (fun w2 hb2 hg2 => ?_)
  have hr2 : Rdr 139 w2 rb s no nc nms (o + 1) st := hr1.open' hg2 (by rw [show ((o + 1 : Nat) : Int) = (o : Int) + 1 by omega]; exact hb2)
  have hb4 := hb4.kept hg2 (fun e => by have := Option.some.inj e; omega)
  have hG := grown_tr hG hg2
  clear hb1 hb2 hg2 hr1
  (repeat (first | (apply WL.pure; rfl; rfl; rfl) | (apply WL.nil) | (apply EX.thenN) | (apply CW.seq) | (apply CW.region)))
  refine WL.call rfl rfl rfl (cnext_ok w2 hr2 hs) ?_
  rintro _ w3 ⟨hr3, hg3⟩
  have hb4 := hb4.kept hg3 (fun e => by have := Option.some.inj e; omega)
  have hG := grown_tr hG hg3
  have l43 := hb4.lt
  (repeat (first | (apply WL.pure; rfl; rfl; rfl) | (apply WL.nil) | (apply EX.thenN) | (apply CW.seq) | (apply CW.region)))
  refine WL.callF (xs := []) (vs := []) rfl rfl rfl rfl (hf (by omega) w3 hr3 hG) ?_
  rintro _ w4 ⟨⟨x, e, t, st1, rfl, hx, hr4, hE4⟩, hg4⟩
  have hb4 := hb4.kept hg4 (fun e => by have := Option.some.inj e; omega)
  have hG := grown_tr hG hg4
  have z4 := hg4.size
  have hx : GX w0.heap.size [w0.heap.size] w4 x t := GX.of hx (Nat.le_of_lt l43) (fun r hr => by rw [List.mem_singleton.1 hr]; exact l43)
  have hE4 := hE4.low (B' := w0.heap.size) (Nat.le_of_lt l43)
  obtain ⟨uo, uc, rfl, hk⟩ := Rd.ltl hx
  (repeat (apply WL.pure; rfl; rfl; rfl))
  refine WL.alloc rfl rfl (fun w5 hb6 e5 => ?_)
  have hx := hx.add e5 (Nat.le_refl _)
  have hb4 := hb4.ext e5
  have hr5 := hr4.ext e5
  have hE5 := hE4.ext e5
  have hG := grown_tr hG (e5.grw (some rb))
  skip
  refine WL.st rfl rfl rfl hb6 rfl rfl (ones_of rfl) (fun w6 hb66 hg6 => ?_)
  have hx := hx.st hg6 (.inr (List.mem_cons_self ..))
  have hb4 := hb4.kept hg6 (fun e => by have := Option.some.inj e; omega)
  have hr6 := hr5.kept hg6 (fun b e => by cases e; omega)
  have hE6 := hE5.stT hg6 hb6 (by decide)
  have hG := grown_new hG hg6 (by omega)
  have hb7 := hr6.blk
  have l6 := hb66.lt
  clear hb6 hr5 hE5 hr4 hE4 hr3 hr2 hg6 hk
  generalize hB6 : w4.heap.size = b6 at *
  (repeat (first | (apply WL.sub'; rfl; rfl; rfl; rfl; omega; omega) | (apply WL.pure; rfl; rfl; rfl) | (apply WL.nil) | (apply EX.thenN) | (apply CW.seq) | (apply CW.region) | (apply WL.fa; rfl; rfl; rfl) | (apply WL.nck; rfl; rfl; rfl) | (apply WL.ld; rfl; rfl; rfl; assumption; rfl)))
  refine WL.st rfl rfl rfl hb7 rfl rfl (ones_of rfl) (fun w7 hb77 hg7 => ?_)
  have hr7 : Rdr 139 w7 rb s no nc nms o st1 := hr6.open' hg7 (by rw [show (o : Int) = ((o + 1 : Nat) : Int) - 1 by omega]; exact hb77)
  have hx := hx.st hg7 (.inl hrl)
  have hb4 := hb4.kept hg7 (fun e => by have := Option.some.inj e; omega)
  have hb67 := hb66.kept hg7 (fun e => by have := Option.some.inj e; omega)
  have hE7 := hE6.stT hg7 hb7 (by decide)
  have hG := grown_tr hG hg7
  clear hb7 hb77 hg7 hr6 hE6 hb66
  (repeat (first | (apply WL.pure; rfl; rfl; rfl) | (apply WL.nil) | (apply EX.thenN) | (apply CW.seq) | (apply CW.region) | (apply WL.ldA; rfl; rfl; rfl; assumption; rfl)))
  refine WL.st rfl rfl rfl hb4 rfl rfl (ones_of rfl) (fun w8 hb8 hg8 => ?_)
  (repeat (first | (apply WL.pure; rfl; rfl; rfl) | (apply WL.nil) | (apply EX.thenN) | (apply CW.ret)))
  exact EX.retC2 rfl rfl rfl hb8 rfl ⟨⟨_, _, t, st1, rfl, (hx.st hg8 (.inr (by simp))).gl, hr7.kept hg8 (fun b e => by cases e; omega), hE7.stT hg8 hb4 (by decide)⟩, grown_new hG hg8 (Nat.le_refl _)⟩
/-- what single does, up to a fuel -/
def SinOK (rb : Nat) (s : Bys) (no : Option Addr) (nc : Nat) (nms : List ByteArray) (n : Nat) : Prop := ∀ m, m ≤ n → ∀ (o : Nat) (st : Bys × Bys) (w : World), Rdr 139 w rb s no nc nms o st → o ≤ 20 → 10 * mT st + 1 ≤ m →
  Rt Tryz.prog 121 [.pointer (some ⟨rb, 0, none⟩)].toArray w fun v w' => PRs 139 rb s no nc nms o w.heap.size (cSin nms s.length m o st) v w' ∧ w.grownBy w' (some rb)
def ForOK (rb : Nat) (s : Bys) (no : Option Addr) (nc : Nat) (nms : List ByteArray) (n : Nat) : Prop := ∀ m, m ≤ n → ∀ (o : Nat) (st : Bys × Bys) (w : World), Rdr 139 w rb s no nc nms o st → o ≤ 20 → 10 * mT st + 6 ≤ m →
  Rt Tryz.prog 85 [.pointer (some ⟨rb, 0, none⟩)].toArray w fun v w' => PRs 139 rb s no nc nms o w.heap.size (cFor nms s.length m o [] st) v w' ∧ w.grownBy w' (some rb)
theorem part_sin {rb : Nat} {s : Bys} {no : Option Addr} {nc : Nat} {nms : List ByteArray} {n o : Nat} (ho : o ≤ 20) (hS : SinOK rb s no nc nms n) : PartF rb s no nc nms o (.func (.func 121) [.pointer (some ⟨rb, 0, none⟩)].toArray [].toArray) (cl false) (fun m st => cPart nms s.length m false o st) (n + 1) := by
  intro m hm st w hr hc
  simp only [cl] at hc
  obtain ⟨m, rfl⟩ : ∃ k, m = k + 1 := ⟨m - 1, by omega⟩
  refine FnV.mkM ?_
  have := hS m (by omega) o st w hr ho (by omega)
  simpa [cPart] using this
theorem cand_ok {rb : Nat} {s : Bys} {no : Option Addr} {nc : Nat} {nms : List ByteArray} {n o : Nat} {st : Bys × Bys} (w0 : World) (hr : Rdr 139 w0 rb s no nc nms o st) (hs : s.length ≤ 300) (ho : o ≤ 20) (hS : SinOK rb s no nc nms n) (hn : 10 * mT st + 2 ≤ n + 1) :
    Rt Tryz.prog 108 [.pointer (some ⟨rb, 0, none⟩)].toArray w0 fun v w' => PRs 139 rb s no nc nms o w0.heap.size (cRow nms s.length (n + 2) false o st) v w' ∧ w0.grownBy w' (some rb) := by
  have hrl := hr.lt
  refine Rt.enter1 Tryz.func108 Tryz.ntmps108 rfl rfl ?_
  (repeat (first | (apply CW.seq) | (apply CW.region)))
  refine WL.alloc rfl rfl (fun w1 hb2 e1 => ?_)
  have l2 := hb2.lt
  have hr1 := hr.ext e1
  (repeat (first | (apply WL.pure; rfl; rfl; rfl) | (apply WL.nil) | (apply EX.thenN) | (apply CW.seq) | (apply CW.region) | (apply WL.makeFunc; rfl; rfl; rfl; rfl)))
  refine WL.call rfl rfl rfl (crow_ok false (n + 1) w1 hr1 hs (part_sin ho hS) (by simp only [cl]; omega)) ?_
  rintro _ w2 ⟨⟨x, e, t, st1, rfl, hx, hr2, hE2⟩, hg2⟩
  have hb2 := hb2.kept hg2 (fun e => by have := Option.some.inj e; omega)
  have hG := grown_tr (e1.grw (some rb)) hg2
  have hx : GX w0.heap.size [w0.heap.size] w2 x t := GX.of hx (Nat.le_of_lt l2) (fun r hr => by rw [List.mem_singleton.1 hr]; exact l2)
  have hE2 := hE2.low (B' := w0.heap.size) (Nat.le_of_lt l2)
  obtain ⟨uo, uc, rfl, hk⟩ := Rd.ltl hx
  (repeat (apply WL.pure; rfl; rfl; rfl))
  refine WL.st rfl rfl rfl hb2 rfl rfl (ones_of rfl) (fun w3 hb3 hg3 => ?_)
  (repeat (first | (apply WL.pure; rfl; rfl; rfl) | (apply WL.nil) | (apply EX.thenN) | (apply CW.ret)))
  exact EX.retC2 rfl rfl rfl hb3 rfl ⟨⟨_, _, t, st1, rfl, (hx.st hg3 (.inr (by simp))).gl, hr2.kept hg3 (fun b e => by cases e; omega), hE2.stT hg3 hb2 (by decide)⟩, grown_new hG hg3 (Nat.le_refl _)⟩
theorem part_and {rb : Nat} {s : Bys} {no : Option Addr} {nc : Nat} {nms : List ByteArray} {n o : Nat} (hs : s.length ≤ 300) (ho : o ≤ 20) (hS : SinOK rb s no nc nms n) : PartF rb s no nc nms o (.func (.func 108) [.pointer (some ⟨rb, 0, none⟩)].toArray [].toArray) (cl true) (fun m st => cPart nms s.length m true o st) (n + 3) := by
  intro m hm st w hr hc
  simp only [cl] at hc
  obtain ⟨m, rfl⟩ : ∃ k, m = k + 3 := ⟨m - 3, by omega⟩
  refine FnV.mkM ?_
  have := cand_ok (n := m) w hr hs ho (fun m' hm' => hS m' (by omega)) (by omega)
  simpa [cPart] using this
end Go.Proofs.YtikigaeihdmcaaaGreatDoor

