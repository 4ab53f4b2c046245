import Derived.Test.YtikigaeihdmcaaaGreatDoorPtReportLines9
/-
  rule's reader of words: fail, next, named, digit, one: walked.
-/
set_option linter.unusedVariables false
set_option linter.unusedSimpArgs false
namespace Go.Proofs.YtikigaeihdmcaaaGreatDoor
open Go.RowKit

instance iRty1 : IsFd Tryz.prog 63 0 0 := IsFd.of (by kernel_rfl)
instance iRty2 : IsFd Tryz.prog 63 1 1 := IsFd.of (by kernel_rfl)
instance iRty3 : IsFd Tryz.prog 63 2 2 := IsFd.of (by kernel_rfl)
instance iRty4 : IsFd Tryz.prog 63 3 3 := IsFd.of (by kernel_rfl)
instance iRty5 : IsC Tryz.prog 63 4 true := IsC.of (by kernel_rfl) Tryz.underlying63 rfl
instance iRty6 : IsBd Tryz.prog 63 [(0, 1), (1, 1), (2, 1), (3, 1)] := IsBd.of (by kernel_rfl)
instance iRty7 : IsZC Tryz.prog 63 [.slice none 0 0, .slice none 0 0, .int .i64 0, .int .i64 0] := IsZC.of (z := .agg #[.slice none 0 0, .slice none 0 0, .int .i64 0, .int .i64 0]) (by kernel_rfl) rfl
instance iRty8 : IsF Tryz.prog 28 := ⟨_, Tryz.func28, rfl, by decide⟩
instance iRty9 : IsF Tryz.prog 45 := ⟨_, Tryz.func45, rfl, by decide⟩
instance iRty10 : IsF Tryz.prog 64 := ⟨_, Tryz.func64, rfl, by decide⟩
instance iRty11 : IsF Tryz.prog 65 := ⟨_, Tryz.func65, rfl, by decide⟩
instance iRty12 : IsF Tryz.prog 66 := ⟨_, Tryz.func66, rfl, by decide⟩
theorem grT {w w' w'' : World} {r : Option Nat} (h : w.grownBy w' r) (k : w'.grownBy w'' r) : w.grownBy w'' r :=
  ⟨k.os.trans h.os, k.tape.trans h.tape, k.output.trans h.output, Nat.le_trans h.size k.size, fun b hb hr => (k.block b (Nat.lt_of_lt_of_le hb h.size) hr).trans (h.block b hb hr)⟩
/-- a reader: its words, what of them is left, what went wrong -/
structure RRd (w : World) (b : Nat) (wo : Option Addr) (wc : Nat) (W : List ByteArray) (no : Option Addr) (nc : Nat) (nms : List ByteArray) (st : RSt) : Prop where
  blk : Blk w b 63 [.slice wo W.length wc, .slice no nms.length nc, .int .i64 ((W.length - st.1.length : Nat) : Int), .int .i64 st.2]
  ws : Sl w (fun c => c < b) wo wc W
  nm : Sl w (fun c => c < b) no nc nms
  dr : st.1 = (W.map bysA).drop (W.length - st.1.length)
  le : st.1.length ≤ W.length
  sz : W.length ≤ 5000
  tot : (joinS 32 (W.map bysA)).length ≤ 5000
section
variable {w w' : World} {b : Nat} {wo : Option Addr} {wc : Nat} {W : List ByteArray} {no : Option Addr} {nc : Nat} {nms : List ByteArray} {st : RSt}
theorem RRd.keep {r : Option Nat} (h : RRd w b wo wc W no nc nms st) (hg : w.grownBy w' r) (hr : ∀ c, r = some c → b < c) : RRd w' b wo wc W no nc nms st := by
  have hk : ∀ c, c ≤ b → w'.heap[c]? = w.heap[c]? := fun c hc => hg.block c (by have := h.blk.lt; omega) (fun e => by have := hr c e.symm; omega)
  exact ⟨(hk b (Nat.le_refl _)).trans h.blk, h.ws.mono (fun c hc => hk c (Nat.le_of_lt hc)) (fun _ h => h), h.nm.mono (fun c hc => hk c (Nat.le_of_lt hc)) (fun _ h => h), h.dr, h.le, h.sz, h.tot⟩
theorem RRd.ext (h : RRd w b wo wc W no nc nms st) (hE : Ext w w') : RRd w' b wo wc W no nc nms st := h.keep (hE.grw none) (fun c e => by cases e)
/-- its own block is written -/
theorem RRd.own {st' : RSt} (h : RRd w b wo wc W no nc nms st) (hg : w.grownBy w' (some b)) (hb : Blk w' b 63 [.slice wo W.length wc, .slice no nms.length nc, .int .i64 ((W.length - st'.1.length : Nat) : Int), .int .i64 st'.2])
    (hs : st'.1 = (W.map bysA).drop (W.length - st'.1.length)) (hl : st'.1.length ≤ W.length) : RRd w' b wo wc W no nc nms st' := by
  have hk : ∀ c, c < b → w'.heap[c]? = w.heap[c]? := fun c hc => hg.block c (by have := h.blk.lt; omega) (fun e => by have := Option.some.inj e; omega)
  exact ⟨hb, h.ws.mono (fun c hc => hk c hc) (fun _ h => h), h.nm.mono (fun c hc => hk c hc) (fun _ h => h), hs, hl, h.sz, h.tot⟩
theorem RRd.lt (h : RRd w b wo wc W no nc nms st) : b < w.heap.size := h.blk.lt
/-- at++ -/
theorem RRd.took (h : RRd w b wo wc W no nc nms st) (hn : st.1 ≠ []) (hg : w.grownBy w' (some b)) (hb : Blk w' b 63 [.slice wo W.length wc, .slice no nms.length nc, .int .i64 (((W.length - st.1.length : Nat) : Int) + 1), .int .i64 st.2]) : RRd w' b wo wc W no nc nms (takeW st) := by
  have h0 : 0 < st.1.length := List.length_pos_iff.2 hn
  have hle := h.le
  have e : W.length - (takeW st).1.length = W.length - st.1.length + 1 := by
    unfold takeW
    rw [List.length_tail]; omega
  refine h.own hg ?_ ?_ ?_
  · rw [e]
    have : ((W.length - st.1.length + 1 : Nat) : Int) = ((W.length - st.1.length : Nat) : Int) + 1 := by omega
    rw [this]; exact hb
  · rw [e, ← List.drop_drop, ← h.dr]
    unfold takeW
    rw [List.drop_one]
  · unfold takeW; rw [List.length_tail]; omega
theorem RRd.cons (h : RRd w b wo wc W no nc nms st) (hn : st.1 ≠ []) : ∃ hi : W.length - st.1.length < W.length, W[W.length - st.1.length] = txA (st.1.headD []) := by
  have h0 : 0 < st.1.length := List.length_pos_iff.2 hn
  have hle := h.le
  have hi : W.length - st.1.length < W.length := by omega
  refine ⟨hi, ?_⟩
  have hs := h.dr
  rw [List.drop_eq_getElem_cons (by rw [List.length_map]; exact hi)] at hs
  have hh := congrArg (fun l : List Bys => l.headD []) hs
  simp only [List.headD_cons, List.getElem_map] at hh
  rw [hh, txA_eta]
end
section
variable {P : Program} {Q : Exit → Act → World → Prop} {n : Nat} {σ : Sg} {w : World} {L rest : List Oper} {d : Nat} {op : Op} {ty : TypeId} {pos : String} {af : Array Edge} {g : Option (Nat × Bool)} {t : TypeId} {x : Operand}
theorem WL.lenP2 {s : Bys} (hg : gd L σ ⟨some d, .call ⟨.builtin .len, #[x], #[t]⟩, ty, pos, af, g⟩ = some true) (hd : Nat.ble (d + 1) n = true)
    (hx : ev σ x = some (tV s)) [hs : IsStr P t] (h : WL P L Q rest n ((d, .int .i64 (s.length : Int)) :: σ) w) : WL P L Q (⟨some d, .call ⟨.builtin .len, #[x], #[t]⟩, ty, pos, af, g⟩ :: rest) n σ w :=
  WL.lenT hg hd hx (by rw [txA_size]; exact h)
end
theorem next_ok (w : World) {b : Nat} {wo : Option Addr} {wc : Nat} {W : List ByteArray} {no : Option Addr} {nc : Nat} {nms : List ByteArray} {st : RSt} (h : RRd w b wo wc W no nc nms st) :
    Rt Tryz.prog 45 [.pointer (some ⟨b, 0, none⟩)].toArray w fun v w' => v = tV (nextW st) ∧ Ext w w' := by
  refine Rt.enter1 Tryz.func45 Tryz.ntmps45 rfl rfl ?_
  have hD := Ext.drew w
  have hb := h.blk
  unfold nextW
  (repeat (first | (apply WL.pure; rfl; rfl; rfl) | (apply QL.pure; rfl; rfl; rfl) | (apply WL.nil) | (apply EX.thenN) | (apply CW.seq) | (apply CW.region) | (apply QL.fa; rfl; rfl; rfl) | (apply QL.nck; rfl; rfl; rfl) | (apply QL.ld; rfl; rfl; rfl; assumption; rfl) | (apply CW.draw; exact mixed; kernel_rfl)))
  cases he : (st.2 != 0) with
  | true =>
    have he : st.2 ≠ 0 := by simpa using he
    rw [if_pos he]
    (repeat (first | (apply QL.pure; rfl; rfl; rfl) | (apply QL.pass; rfl; rfl)))
    refine QL.nil (fun w1 e1 => ?_)
    (repeat (first | (apply WL.pure; rfl; rfl; rfl) | (apply WL.nil) | (apply EX.thenN) | (apply CW.seq) | (apply CW.region) | (apply CW.condT; rfl) | (apply CW.ret) | (apply EX.thenR)))
    exact EX.ret1 rfl rfl ⟨rfl, e1⟩
  | false =>
  have he : st.2 = 0 := by simpa using he
  rw [if_neg (by simpa using he)]
  (repeat (first | (apply QL.pure; rfl; rfl; rfl) | (apply QL.lenS; rfl; rfl; rfl) | (apply QL.fa; rfl; rfl; rfl) | (apply QL.nck; rfl; rfl; rfl) | (apply QL.ld; rfl; rfl; rfl; assumption; rfl)))
  cases hn : (((W.length - st.1.length : Nat) : Int) == (W.length : Int)) with
  | true =>
    have hn : st.1 = [] := by
      have h1 := h.le
      have h2 : ((W.length - st.1.length : Nat) : Int) = (W.length : Int) := by simpa using hn
      exact List.length_eq_zero_iff.1 (by
        by_cases h0 : W.length = 0
        · omega
        · omega)
    rw [hn]
    skip
    refine QL.nil (fun w1 e1 => ?_)
    (repeat (first | (apply WL.pure; rfl; rfl; rfl) | (apply WL.nil) | (apply EX.thenN) | (apply CW.seq) | (apply CW.region) | (apply CW.condT; rfl) | (apply CW.ret) | (apply EX.thenR)))
    exact EX.ret1 rfl rfl ⟨rfl, e1⟩
  | false =>
  have hn : st.1 ≠ [] := by
    intro e
    rw [e] at hn
    simp at hn
  obtain ⟨hi, hx⟩ := h.cons hn
  skip
  refine QL.nil (fun w1 e1 => ?_)
  have h1 := h.ext e1
  have hb1 := h1.blk
  (repeat (first | (apply QL.pure; rfl; rfl; rfl) | (apply EX.thenN) | (apply CW.seq) | (apply QL.fa; rfl; rfl; rfl) | (apply QL.nck; rfl; rfl; rfl) | (apply QL.ld; rfl; rfl; rfl; assumption; rfl) | (apply CW.condF; rfl) | (apply CW.skip) | (apply CW.draw; exact mixed; kernel_rfl)))
  refine QL.elemN rfl rfl rfl rfl rfl (fun c hc => Nat.lt_trans hc h1.lt) h1.ws hi (fun _ => rfl) (fun u q hu => ?_)
  obtain ⟨rfl, -⟩ := hu.str
  rw [hx]
  (repeat (apply QL.pure; rfl; rfl; rfl))
  refine QL.nil (fun w2 e2 => ?_)
  (repeat (first | (apply EX.thenN) | (apply CW.ret)))
  exact EX.ret1 rfl rfl ⟨rfl, e1.trans e2⟩
theorem fail_ok (w : World) {b : Nat} {wo : Option Addr} {wc : Nat} {W : List ByteArray} {no : Option Addr} {nc : Nat} {nms : List ByteArray} {st : RSt} (h : RRd w b wo wc W no nc nms st) (e : Int) :
    Rt Tryz.prog 28 [.pointer (some ⟨b, 0, none⟩), .int .i64 e].toArray w fun v w' => v = .tuple #[] ∧ RRd w' b wo wc W no nc nms (failW st e) ∧ w.grownBy w' (some b) := by
  refine Rt.enter2 Tryz.func28 Tryz.ntmps28 rfl rfl ?_
  have hb := h.blk
  unfold failW
  (repeat (first | (apply WL.pure; rfl; rfl; rfl) | (apply WL.nil) | (apply EX.thenN) | (apply CW.seq) | (apply CW.region) | (apply WL.fa; rfl; rfl; rfl) | (apply WL.nck; rfl; rfl; rfl) | (apply WL.ld; rfl; rfl; rfl; assumption; rfl)))
  refine CW.cond rfl (fun h1 => ?_) (fun h1 => ?_)
  · have h1 : st.2 = 0 := by simpa using h1
    rw [if_pos h1]
    (repeat (first | (apply WL.pure; rfl; rfl; rfl) | (apply CW.region) | (apply WL.fa; rfl; rfl; rfl) | (apply WL.nck; rfl; rfl; rfl)))
    refine WL.st rfl rfl rfl hb rfl rfl (ones_of rfl) (fun w1 hb1 hg1 => ?_)
    (repeat (apply WL.nil))
    exact EX.end0 rfl ⟨rfl, h.own hg1 hb1 h.dr h.le, hg1⟩
  · have h1 : st.2 ≠ 0 := by simpa using h1
    rw [if_neg h1]
    (repeat (apply CW.skip))
    exact EX.end0 rfl ⟨rfl, h, (Ext.refl w).grw _⟩
theorem rnamed_ok (w : World) {b : Nat} {wo : Option Addr} {wc : Nat} {W : List ByteArray} {no : Option Addr} {nc : Nat} {nms : List ByteArray} {st : RSt} (h : RRd w b wo wc W no nc nms st) (s : Bool) :
    Rt Tryz.prog 65 [.pointer (some ⟨b, 0, none⟩), .bool s].toArray w fun v w' => v = .int .i64 (namedR nms s st).1 ∧ RRd w' b wo wc W no nc nms (namedR nms s st).2 ∧ w.grownBy w' (some b) := by
  have hWs := h.sz
  refine Rt.enter2 Tryz.func65 Tryz.ntmps65 rfl rfl ?_
  unfold namedR
  (repeat (first | (apply WL.pure; rfl; rfl; rfl) | (apply WL.nil) | (apply EX.thenN) | (apply CW.seq) | (apply CW.region)))
  refine WL.call rfl rfl rfl (next_ok w h) ?_
  rintro _ w1 ⟨rfl, e1⟩
  have h1 := h.ext e1
  have g1 := e1.grw (some b)
  have hb := h1.blk
  have hne : nextW st ≠ [] → st.1 ≠ [] := fun hx e => hx (by unfold nextW; rw [e]; split <;> rfl)
  generalize nextW st = nw at *
  cases s with
  | false =>
    rw [if_neg (fun e => by cases e.1)]
    (repeat (first | (apply WL.pure; rfl; rfl; rfl) | (apply WL.nil) | (apply EX.thenN) | (apply CW.seq) | (apply CW.region) | (apply WL.pass; rfl; rfl) | (apply CW.condF; rfl) | (apply CW.skip)))
    refine WL.call rfl rfl rfl (Named_ok w1 (txA nw)) ?_
    rintro _ w2 ⟨rfl, e2⟩
    have h2 := h1.ext e2
    have g2 := grT g1 (e2.grw (some b))
    have hb2 := h2.blk
    have hnb : namedB (txA nw) = namedL nw := rfl
    rw [hnb]
    cases hn : namedL nw with
    | false =>
      rw [if_pos rfl]
      (repeat (first | (apply WL.pure; rfl; rfl; rfl) | (apply WL.nil) | (apply EX.thenN) | (apply CW.seq) | (apply CW.region) | (apply CW.condT; rfl)))
      refine WL.call rfl rfl rfl (fail_ok w2 h2 3) ?_
      rintro _ w3 ⟨rfl, h3, g3⟩
      (repeat (first | (apply WL.pure; rfl; rfl; rfl) | (apply WL.nil) | (apply EX.thenN) | (apply CW.seq) | (apply CW.region) | (apply CW.ret) | (apply EX.thenR)))
      exact EX.ret1 rfl rfl ⟨rfl, h3, grT g2 g3⟩
    | true =>
    rw [if_neg (by decide)]
    (repeat (first | (apply WL.pure; rfl; rfl; rfl) | (apply WL.nil) | (apply EX.thenN) | (apply CW.seq) | (apply CW.region) | (apply WL.fa; rfl; rfl; rfl) | (apply WL.nck; rfl; rfl; rfl) | (apply WL.ld; rfl; rfl; rfl; assumption; rfl) | (apply CW.condF; rfl) | (apply CW.skip)))
    refine WL.call rfl rfl rfl (index_str w2 (txA nw) (h2.nm.mono (fun _ _ => rfl) (fun c hc => Nat.lt_trans hc h2.lt))) ?_
    rintro _ w3 ⟨rfl, rfl⟩
    rw [idxB_of (txA nw), txA_list]
    generalize hix : idxB nms nw = ix at *
    (repeat (first | (apply WL.pure; rfl; rfl; rfl) | (apply WL.nil) | (apply EX.thenN) | (apply CW.seq) | (apply CW.region)))
    cases h0 : decide (ix < 0) with
    | true =>
      rw [if_pos (.inl (of_decide_eq_true h0))]
      (repeat (first | (apply WL.pure; rfl; rfl; rfl) | (apply WL.nil) | (apply EX.thenN) | (apply CW.seq) | (apply CW.region) | (apply WL.pass; rfl; rfl) | (apply CW.condT; rfl)))
      refine WL.call rfl rfl rfl (fail_ok w2 h2 4) ?_
      rintro _ w3 ⟨rfl, h3, g3⟩
      (repeat (first | (apply WL.pure; rfl; rfl; rfl) | (apply WL.nil) | (apply EX.thenN) | (apply CW.seq) | (apply CW.region) | (apply CW.ret) | (apply EX.thenR)))
      exact EX.ret1 rfl rfl ⟨rfl, h3, grT g2 g3⟩
    | false =>
    (repeat (first | (apply WL.pure; rfl; rfl; rfl) | (apply WL.nil) | (apply EX.thenN)))
    cases h6 : decide (ix ≥ 63) with
    | true =>
      rw [if_pos (.inr (of_decide_eq_true h6))]
      (repeat (first | (apply WL.pure; rfl; rfl; rfl) | (apply CW.seq) | (apply CW.region) | (apply CW.condT; rfl)))
      refine WL.call rfl rfl rfl (fail_ok w2 h2 4) ?_
      rintro _ w3 ⟨rfl, h3, g3⟩
      (repeat (first | (apply WL.pure; rfl; rfl; rfl) | (apply WL.nil) | (apply EX.thenN) | (apply CW.seq) | (apply CW.region) | (apply CW.ret) | (apply EX.thenR)))
      exact EX.ret1 rfl rfl ⟨rfl, h3, grT g2 g3⟩
    | false =>
    rw [if_neg (fun e => e.elim (of_decide_eq_false h0) (of_decide_eq_false h6))]
    (repeat (first | (apply WL.add; rfl; rfl; rfl; rfl; omega; omega) | (apply WL.pure; rfl; rfl; rfl) | (apply EX.thenN) | (apply CW.seq) | (apply CW.region) | (apply WL.fa; rfl; rfl; rfl) | (apply WL.nck; rfl; rfl; rfl) | (apply WL.ld; rfl; rfl; rfl; assumption; rfl) | (apply CW.condF; rfl) | (apply CW.skip)))
    refine WL.st rfl rfl rfl hb2 rfl rfl (ones_of rfl) (fun w4 hb4 hg4 => ?_)
    (repeat (first | (apply WL.pure; rfl; rfl; rfl) | (apply WL.nil) | (apply EX.thenN) | (apply CW.seq) | (apply CW.region) | (apply CW.ret)))
    exact EX.ret1 rfl rfl ⟨rfl, h2.took (hne (fun e => by rw [e] at hn; cases hn)) hg4 hb4, grT g2 hg4⟩
  | true =>
    by_cases hs : nw = tSil
    · subst hs
      rw [if_pos ⟨rfl, rfl⟩]
      (repeat (first | (apply WL.add; rfl; rfl; rfl; rfl; omega; omega) | (apply WL.pure; rfl; rfl; rfl) | (apply WL.nil) | (apply EX.thenN) | (apply CW.seq) | (apply CW.region) | (apply WL.fa; rfl; rfl; rfl) | (apply WL.nck; rfl; rfl; rfl) | (apply WL.ld; rfl; rfl; rfl; assumption; rfl) | (apply CW.condT; rfl)))
      rw [show ((txA tSil).data.toList == ({ data := #[115, 105, 108, 101, 110, 116] } : ByteArray).data.toList) = true from by decide]
      skip
      refine WL.st rfl rfl rfl hb rfl rfl (ones_of rfl) (fun w2 hb2 hg2 => ?_)
      (repeat (first | (apply WL.pure; rfl; rfl; rfl) | (apply WL.nil) | (apply EX.thenN) | (apply CW.seq) | (apply CW.region) | (apply CW.ret) | (apply EX.thenR)))
      exact EX.ret1 rfl rfl ⟨rfl, h1.took (hne (by decide)) hg2 hb2, grT g1 hg2⟩
    rw [if_neg (fun e => hs e.2)]
    (repeat (first | (apply WL.pure; rfl; rfl; rfl) | (apply WL.nil) | (apply EX.thenN) | (apply CW.seq) | (apply CW.region)))
    rw [show ((txA nw).data.toList == ({ data := #[115, 105, 108, 101, 110, 116] } : ByteArray).data.toList) = false from beq_eq_false_iff_ne.2 hs]
    (repeat (first | (apply WL.pure; rfl; rfl; rfl) | (apply EX.thenN) | (apply CW.seq) | (apply CW.region) | (apply CW.condF; rfl) | (apply CW.skip)))
    refine WL.call rfl rfl rfl (Named_ok w1 (txA nw)) ?_
    rintro _ w2 ⟨rfl, e2⟩
    have h2 := h1.ext e2
    have g2 := grT g1 (e2.grw (some b))
    have hb2 := h2.blk
    have hnb : namedB (txA nw) = namedL nw := rfl
    rw [hnb]
    cases hn : namedL nw with
    | false =>
      rw [if_pos rfl]
      (repeat (first | (apply WL.pure; rfl; rfl; rfl) | (apply WL.nil) | (apply EX.thenN) | (apply CW.seq) | (apply CW.region) | (apply CW.condT; rfl)))
      refine WL.call rfl rfl rfl (fail_ok w2 h2 3) ?_
      rintro _ w3 ⟨rfl, h3, g3⟩
      (repeat (first | (apply WL.pure; rfl; rfl; rfl) | (apply WL.nil) | (apply EX.thenN) | (apply CW.seq) | (apply CW.region) | (apply CW.ret) | (apply EX.thenR)))
      exact EX.ret1 rfl rfl ⟨rfl, h3, grT g2 g3⟩
    | true =>
    rw [if_neg (by decide)]
    (repeat (first | (apply WL.pure; rfl; rfl; rfl) | (apply WL.nil) | (apply EX.thenN) | (apply CW.seq) | (apply CW.region) | (apply WL.fa; rfl; rfl; rfl) | (apply WL.nck; rfl; rfl; rfl) | (apply WL.ld; rfl; rfl; rfl; assumption; rfl) | (apply CW.condF; rfl) | (apply CW.skip)))
    refine WL.call rfl rfl rfl (index_str w2 (txA nw) (h2.nm.mono (fun _ _ => rfl) (fun c hc => Nat.lt_trans hc h2.lt))) ?_
    rintro _ w3 ⟨rfl, rfl⟩
    rw [idxB_of (txA nw), txA_list]
    generalize hix : idxB nms nw = ix at *
    (repeat (first | (apply WL.pure; rfl; rfl; rfl) | (apply WL.nil) | (apply EX.thenN) | (apply CW.seq) | (apply CW.region)))
    cases h0 : decide (ix < 0) with
    | true =>
      rw [if_pos (.inl (of_decide_eq_true h0))]
      (repeat (first | (apply WL.pure; rfl; rfl; rfl) | (apply WL.nil) | (apply EX.thenN) | (apply CW.seq) | (apply CW.region) | (apply WL.pass; rfl; rfl) | (apply CW.condT; rfl)))
      refine WL.call rfl rfl rfl (fail_ok w2 h2 4) ?_
      rintro _ w3 ⟨rfl, h3, g3⟩
      (repeat (first | (apply WL.pure; rfl; rfl; rfl) | (apply WL.nil) | (apply EX.thenN) | (apply CW.seq) | (apply CW.region) | (apply CW.ret) | (apply EX.thenR)))
      exact EX.ret1 rfl rfl ⟨rfl, h3, grT g2 g3⟩
    | false =>
    (repeat (first | (apply WL.pure; rfl; rfl; rfl) | (apply WL.nil) | (apply EX.thenN)))
    cases h6 : decide (ix ≥ 63) with
    | true =>
      rw [if_pos (.inr (of_decide_eq_true h6))]
      (repeat (first | (apply WL.pure; rfl; rfl; rfl) | (apply CW.seq) | (apply CW.region) | (apply CW.condT; rfl)))
      refine WL.call rfl rfl rfl (fail_ok w2 h2 4) ?_
      rintro _ w3 ⟨rfl, h3, g3⟩
      (repeat (first | (apply WL.pure; rfl; rfl; rfl) | (apply WL.nil) | (apply EX.thenN) | (apply CW.seq) | (apply CW.region) | (apply CW.ret) | (apply EX.thenR)))
      exact EX.ret1 rfl rfl ⟨rfl, h3, grT g2 g3⟩
    | false =>
    rw [if_neg (fun e => e.elim (of_decide_eq_false h0) (of_decide_eq_false h6))]
    (repeat (first | (apply WL.add; rfl; rfl; rfl; rfl; omega; omega) | (apply WL.pure; rfl; rfl; rfl) | (apply EX.thenN) | (apply CW.seq) | (apply CW.region) | (apply WL.fa; rfl; rfl; rfl) | (apply WL.nck; rfl; rfl; rfl) | (apply WL.ld; rfl; rfl; rfl; assumption; rfl) | (apply CW.condF; rfl) | (apply CW.skip)))
    refine WL.st rfl rfl rfl hb2 rfl rfl (ones_of rfl) (fun w4 hb4 hg4 => ?_)
    (repeat (first | (apply WL.pure; rfl; rfl; rfl) | (apply WL.nil) | (apply EX.thenN) | (apply CW.seq) | (apply CW.region) | (apply CW.ret)))
    exact EX.ret1 rfl rfl ⟨rfl, h2.took (hne (fun e => by rw [e] at hn; cases hn)) hg4 hb4, grT g2 hg4⟩
theorem rdig_ok (w : World) {b : Nat} {wo : Option Addr} {wc : Nat} {W : List ByteArray} {no : Option Addr} {nc : Nat} {nms : List ByteArray} {st : RSt} (h : RRd w b wo wc W no nc nms st) :
    Rt Tryz.prog 66 [.pointer (some ⟨b, 0, none⟩)].toArray w fun v w' => v = .int .i64 (digitR st).1 ∧ RRd w' b wo wc W no nc nms (digitR st).2 ∧ w.grownBy w' (some b) := by
  have hWs := h.sz
  refine Rt.enter1 Tryz.func66 Tryz.ntmps66 rfl rfl ?_
  have hT : (nextW st).length ≠ 1 ∨ (nextW st).headD 0 < 48 ∨ 57 < (nextW st).headD 0 → digitR st = (0, failW st 3) := fun h => by unfold digitR; rw [if_pos h]
  have hF : ¬ ((nextW st).length ≠ 1 ∨ (nextW st).headD 0 < 48 ∨ 57 < (nextW st).headD 0) → digitR st = ((((nextW st).headD 0).toNat : Int) - 48, takeW st) := fun h => by unfold digitR; rw [if_neg h]
  (repeat (first | (apply WL.pure; rfl; rfl; rfl) | (apply WL.nil) | (apply EX.thenN) | (apply CW.seq) | (apply CW.region)))
  refine WL.call rfl rfl rfl (next_ok w h) ?_
  rintro _ w1 ⟨rfl, e1⟩
  have h1 := h.ext e1
  have g1 := e1.grw (some b)
  have hb := h1.blk
  have hne : nextW st ≠ [] → st.1 ≠ [] := fun hx e => hx (by unfold nextW; rw [e]; split <;> rfl)
  generalize nextW st = nw at *
  (repeat (first | (apply WL.pure; rfl; rfl; rfl) | (apply WL.nil) | (apply EX.thenN) | (apply CW.seq) | (apply CW.region)))
  refine WL.lenP2 rfl rfl rfl ?_
  (repeat (apply WL.pure; rfl; rfl; rfl))
  cases hl : ((nw.length : Int) != 1) with
  | true =>
    have hl : nw.length ≠ 1 := by simp at hl; omega
    rw [hT (.inl hl)]
    (repeat (first | (apply WL.pure; rfl; rfl; rfl) | (apply WL.nil) | (apply EX.thenN) | (apply CW.seq) | (apply CW.region) | (apply WL.pass; rfl; rfl) | (apply CW.condT; rfl)))
    refine WL.call rfl rfl rfl (fail_ok w1 h1 3) ?_
    rintro _ w3 ⟨rfl, h3, g3⟩
    (repeat (first | (apply WL.pure; rfl; rfl; rfl) | (apply WL.nil) | (apply EX.thenN) | (apply CW.seq) | (apply CW.region) | (apply CW.ret) | (apply EX.thenR)))
    exact EX.ret1 rfl rfl ⟨rfl, h3, grT g1 g3⟩
  | false =>
  have hl : nw.length = 1 := by simp at hl; omega
  obtain ⟨c, rfl⟩ : ∃ c, nw = [c] := by
    match nw, hl with
    | [c], _ => exact ⟨c, rfl⟩
  simp only [List.headD_cons] at hT hF
  (repeat (apply WL.pure; rfl; rfl; rfl))
  refine WL.byteL (s := [c]) (i := 0) rfl rfl rfl rfl (by simp) ?_
  rw [show (([c] : List UInt8)[0]'(by simp)) = c from rfl]
  (repeat (apply WL.pure; rfl; rfl; rfl))
  cases h4 : decide ((c.toNat : Int) < 48) with
  | true =>
    have h4' : c < 48 := by have := of_decide_eq_true h4; rw [UInt8.lt_iff_toNat_lt]; show c.toNat < 48; omega
    rw [hT (.inr (.inl h4'))]
    (repeat (first | (apply WL.pure; rfl; rfl; rfl) | (apply WL.nil) | (apply EX.thenN) | (apply CW.seq) | (apply CW.region) | (apply WL.pass; rfl; rfl) | (apply CW.condT; rfl)))
    refine WL.call rfl rfl rfl (fail_ok w1 h1 3) ?_
    rintro _ w3 ⟨rfl, h3, g3⟩
    (repeat (first | (apply WL.pure; rfl; rfl; rfl) | (apply WL.nil) | (apply EX.thenN) | (apply CW.seq) | (apply CW.region) | (apply CW.ret) | (apply EX.thenR)))
    exact EX.ret1 rfl rfl ⟨rfl, h3, grT g1 g3⟩
  | false =>
  have h4' : ¬ c < 48 := by have := of_decide_eq_false h4; rw [UInt8.lt_iff_toNat_lt]; show ¬ c.toNat < 48; omega
  (repeat (apply WL.pure; rfl; rfl; rfl))
  refine WL.byteL (s := [c]) (i := 0) rfl rfl rfl rfl (by simp) ?_
  rw [show (([c] : List UInt8)[0]'(by simp)) = c from rfl]
  (repeat (first | (apply WL.pure; rfl; rfl; rfl) | (apply WL.nil) | (apply EX.thenN)))
  cases h5 : decide ((c.toNat : Int) > 57) with
  | true =>
    have h5' : 57 < c := by have := of_decide_eq_true h5; rw [UInt8.lt_iff_toNat_lt]; show 57 < c.toNat; omega
    rw [hT (.inr (.inr h5'))]
    (repeat (first | (apply WL.pure; rfl; rfl; rfl) | (apply CW.seq) | (apply CW.region) | (apply CW.condT; rfl)))
    refine WL.call rfl rfl rfl (fail_ok w1 h1 3) ?_
    rintro _ w3 ⟨rfl, h3, g3⟩
    (repeat (first | (apply WL.pure; rfl; rfl; rfl) | (apply WL.nil) | (apply EX.thenN) | (apply CW.seq) | (apply CW.region) | (apply CW.ret) | (apply EX.thenR)))
    exact EX.ret1 rfl rfl ⟨rfl, h3, grT g1 g3⟩
  | false =>
  have h5' : ¬ 57 < c := by have := of_decide_eq_false h5; rw [UInt8.lt_iff_toNat_lt]; show ¬ 57 < c.toNat; omega
  have hc10 : c.toNat = 48 ∨ c.toNat = 49 ∨ c.toNat = 50 ∨ c.toNat = 51 ∨ c.toNat = 52 ∨ c.toNat = 53 ∨ c.toNat = 54 ∨ c.toNat = 55 ∨ c.toNat = 56 ∨ c.toNat = 57 := by
    have := of_decide_eq_false h4
    have := of_decide_eq_false h5
    omega
  rw [hF (fun e => e.elim (fun e => e hl) (fun e => e.elim h4' h5'))]
  (repeat (first | (apply WL.add; rfl; rfl; rfl; rfl; omega; omega) | (apply WL.pure; rfl; rfl; rfl) | (apply EX.thenN) | (apply CW.seq) | (apply CW.region) | (apply WL.fa; rfl; rfl; rfl) | (apply WL.nck; rfl; rfl; rfl) | (apply WL.ld; rfl; rfl; rfl; assumption; rfl) | (apply CW.condF; rfl) | (apply CW.skip)))
  refine WL.st rfl rfl rfl hb rfl rfl (ones_of rfl) (fun w2 hb2 hg2 => ?_)
  (repeat (first | (apply WL.pure; rfl; rfl; rfl) | (apply WL.nil) | (apply EX.thenN) | (apply CW.seq) | (apply CW.region)))
  refine WL.byteL (s := [c]) (i := 0) rfl rfl rfl rfl (by simp) ?_
  rw [show (([c] : List UInt8)[0]'(by simp)) = c from rfl]
  refine WL.bin (r := .int .u8 ((c.toNat : Int) - 48)) rfl rfl rfl rfl ?_ ?_
  · simp [binOp, eqG (op := .sub) rfl, run_underlying Tryz.underlying5]
    rcases hc10 with e | e | e | e | e | e | e | e | e | e <;> (rw [e]; rfl)
  refine WL.conv (k := .u8) (k' := .i64) rfl rfl rfl ?_
  have hwr : IntKind.i64.wrap ((c.toNat : Int) - 48) = (c.toNat : Int) - 48 := by
    rcases hc10 with e | e | e | e | e | e | e | e | e | e <;> (rw [e]; rfl)
  rw [hwr]
  (repeat (first | (apply WL.pure; rfl; rfl; rfl) | (apply WL.nil) | (apply EX.thenN) | (apply CW.ret)))
  exact EX.ret1 rfl rfl ⟨rfl, h1.took (hne (by simp)) hg2 hb2, grT g1 hg2⟩
theorem rone_ok (w : World) {b : Nat} {wo : Option Addr} {wc : Nat} {W : List ByteArray} {no : Option Addr} {nc : Nat} {nms : List ByteArray} {st : RSt} (h : RRd w b wo wc W no nc nms st) (n : Nat) (hn : n ≤ 100) (of : Int → Bys) {fv : Value}
    (hf : ∀ (k : Int) w, 1 ≤ k → k ≤ n → FnV Tryz.prog fv [.int .i64 k] w fun v w' => v = tV (of k) ∧ Ext w w') :
    Rt Tryz.prog 64 [.pointer (some ⟨b, 0, none⟩), .int .i64 (n : Int), fv].toArray w fun v w' => v = .int .i64 (oneR n of st).1 ∧ RRd w' b wo wc W no nc nms (oneR n of st).2 ∧ w.grownBy w' (some b) := by
  have hWs := h.sz
  have hne : nextW st ≠ [] → st.1 ≠ [] := fun hx e => hx (by unfold nextW; rw [e]; split <;> rfl)
  refine Rt.enter3 Tryz.func64 Tryz.ntmps64 rfl rfl ?_
  unfold oneR
  (repeat (first | (apply WL.pure; rfl; rfl; rfl) | (apply WL.nil) | (apply EX.thenN) | (apply CW.seq) | (apply CW.region) | (apply CW.block)))
  refine CW.loop (S := Nat) (fun k => [(0, .pointer (some ⟨b, 0, none⟩)), (1, .int .i64 (n : Int)), (2, fv), (7, .int .i64 (k : Int))])
    (fun k w' => 1 ≤ k ∧ k ≤ n + 1 ∧ firstW of (nextW st) n 1 = firstW of (nextW st) (n + 1 - k) k ∧ Ext w w') (fun k => n + 1 - k) 1 (by repeat (first | exact trivial | refine ⟨rfl, ?_⟩)) ⟨Nat.le_refl _, by omega, rfl, Ext.refl _⟩ ?_
  rintro k w1 ⟨hk1, hk2, hfw, e1⟩
  have h1 := h.ext e1
  (repeat (first | (apply WL.pure; rfl; rfl; rfl) | (apply WL.nil) | (apply EX.thenN) | (apply CW.seq) | (apply CW.region)))
  refine CW.cond rfl (fun hc => ?_) (fun hc => ?_)
  · have hkn : k ≤ n := by simp at hc; omega
    clear hc
    obtain ⟨m, hm⟩ : ∃ m, n + 1 - k = m + 1 := ⟨n - k, by omega⟩
    rw [hm, firstW] at hfw
    (repeat (first | (apply WL.pure; rfl; rfl; rfl) | (apply EX.thenN) | (apply CW.seq) | (apply CW.region) | (apply CW.block) | (apply CW.skip)))
    refine WL.call rfl rfl rfl (next_ok w1 h1) ?_
    rintro _ w2 ⟨rfl, e2⟩
    have e12 := e1.trans e2
    have h2 := h1.ext e2
    have hb2 := h2.blk
    (repeat (first | (apply WL.pure; rfl; rfl; rfl) | (apply WL.nil) | (apply EX.thenN) | (apply CW.seq) | (apply CW.region)))
    by_cases hw : nextW st = []
    · rw [hw] at hfw ⊢
      rw [if_neg (fun e => e.1 rfl)] at hfw
      (repeat (first | (apply WL.add; rfl; rfl; rfl; rfl; omega; omega) | (apply WL.pure; rfl; rfl; rfl) | (apply WL.nil) | (apply EX.thenN) | (apply CW.region) | (apply WL.pass; rfl; rfl) | (apply EX.inN) | (apply CW.condF; rfl) | (apply CW.skip)))
      exact EX.back (k + 1) (by repeat (first | exact trivial | refine ⟨rfl, ?_⟩)) ⟨by omega, by omega, by rw [hfw]; congr 1; omega, e12⟩ (by omega)
    rw [show ((txA (nextW st)).data.toList == ({ data := #[] } : ByteArray).data.toList) = false from beq_eq_false_iff_ne.2 hw]
    (repeat (apply WL.pure; rfl; rfl; rfl))
    refine WL.callF rfl rfl rfl rfl (hf k w2 (by omega) (by omega)) ?_
    rintro _ w3 ⟨rfl, e3⟩
    have e13 := e12.trans e3
    have h3 := h2.ext e3
    have hb3 := h3.blk
    (repeat (first | (apply WL.pure; rfl; rfl; rfl) | (apply WL.nil) | (apply EX.thenN)))
    by_cases he : nextW st = of k
    · rw [if_pos ⟨hw, he⟩] at hfw
      rw [hfw, if_neg (by omega)]
      rw [show ((txA (nextW st)).data.toList == (txA (of k)).data.toList) = true from beq_iff_eq.2 he]
      (repeat (first | (apply WL.add; rfl; rfl; rfl; rfl; omega; omega) | (apply WL.pure; rfl; rfl; rfl) | (apply CW.seq) | (apply CW.region) | (apply WL.fa; rfl; rfl; rfl) | (apply WL.nck; rfl; rfl; rfl) | (apply WL.ld; rfl; rfl; rfl; assumption; rfl) | (apply CW.condT; rfl)))
      refine WL.st rfl rfl rfl hb3 rfl rfl (ones_of rfl) (fun w4 hb4 hg4 => ?_)
      (repeat (first | (apply WL.pure; rfl; rfl; rfl) | (apply WL.nil) | (apply EX.thenN) | (apply CW.seq) | (apply CW.region) | (apply CW.ret) | (apply EX.thenR) | (apply EX.inR)))
      exact EX.ret1 rfl rfl ⟨rfl, h3.took (hne hw) hg4 hb4, grT (e13.grw _) hg4⟩
    · rw [if_neg (fun e => he e.2)] at hfw
      rw [show ((txA (nextW st)).data.toList == (txA (of k)).data.toList) = false from beq_eq_false_iff_ne.2 he]
      (repeat (first | (apply WL.add; rfl; rfl; rfl; rfl; omega; omega) | (apply WL.pure; rfl; rfl; rfl) | (apply WL.nil) | (apply EX.thenN) | (apply CW.region) | (apply EX.inN) | (apply CW.condF; rfl) | (apply CW.skip)))
      exact EX.back (k + 1) (by repeat (first | exact trivial | refine ⟨rfl, ?_⟩)) ⟨by omega, by omega, by rw [hfw]; congr 1; omega, e13⟩ (by omega)
  · obtain rfl : k = n + 1 := by simp at hc; omega
    rw [Nat.sub_self, firstW] at hfw
    rw [hfw, if_pos rfl]
    (repeat (first | (apply WL.pure; rfl; rfl; rfl) | (apply EX.thenN) | (apply CW.seq) | (apply CW.region) | (apply CW.exit) | (apply EX.thenX) | (apply EX.inX)))
    refine WL.call rfl rfl rfl (fail_ok w1 h1 3) ?_
    rintro _ w2 ⟨rfl, h2, g2⟩
    (repeat (first | (apply WL.pure; rfl; rfl; rfl) | (apply WL.nil) | (apply EX.thenN) | (apply CW.seq) | (apply CW.region) | (apply CW.ret)))
    exact EX.ret1 rfl rfl ⟨rfl, h2, grT (e1.grw _) g2⟩
end Go.Proofs.YtikigaeihdmcaaaGreatDoor

/-
  strings.SplitAfter and strings.CutSuffix at a line's end; the lines of a text.
-/
set_option linter.unusedVariables false
set_option linter.unusedSimpArgs false
namespace Go.Proofs.YtikigaeihdmcaaaGreatDoor
open Go.RowKit

instance iRep1 : IsF Tryz.prog 44 := ⟨_, Tryz.func44, rfl, by decide⟩
instance iRep2 : IsF Tryz.prog 31 := ⟨_, Tryz.func31, rfl, by decide⟩
instance iRep3 : IsF Tryz.prog 32 := ⟨_, Tryz.func32, rfl, by decide⟩
instance iRep4 : IsF Tryz.prog 11 := ⟨_, Tryz.func11, rfl, by decide⟩
theorem splitA1 : ∀ (n : Nat) (s : Bys), s.length ≤ n → ∀ k, Lib.count s [10] ≤ k → Lib.splitK [10] 1 k s = linesA s := by
  intro n
  induction n with
  | zero =>
    intro s hs k hk
    have : s = [] := List.length_eq_zero_iff.1 (by omega)
    subst this
    cases k with
    | zero => rfl
    | succ k => simp [Lib.splitK, Lib.index, linesA]
  | succ n ih =>
    intro s hs k hk
    rcases index1 10 s with ⟨h1, h2⟩ | ⟨a, b, rfl, h1, h2⟩
    · rw [linesA_no h1]
      cases k with
      | zero => rfl
      | succ k => unfold Lib.splitK; rw [h2]; rfl
    · have hc := Lib.count_hit (sub := [10]) (by simp) h2
      have hd : (a ++ (10 : UInt8) :: b).drop (a.length + [(10 : UInt8)].length) = b := by simp
      rw [hd] at hc
      rw [linesA_at h1]
      cases k with
      | zero => omega
      | succ k =>
        unfold Lib.splitK
        have hn : ((a.length : Int) == -1) = false := by
          rw [beq_eq_false_iff_ne]; omega
        rw [h2, hn]
        simp only [Int.toNat_natCast, Bool.false_eq_true, if_false]
        rw [hd, ih b (by simp at hs; omega) k (by omega)]
        have : (a ++ (10 : UInt8) :: b).take (a.length + 1) = a ++ [10] := by
          rw [List.take_append, List.take_of_length_le (by omega)]; simp
        rw [this]
theorem splitAB (s : Bys) : Lib.splitB (txA [10]) 1 (Lib.countB (txA s) (txA [10])) (txA s) = (linesA s).map txA := by
  have h := Lib.splitB_data (txA [10]) 1 (Lib.countB (txA s) (txA [10])) (txA s)
  rw [show (txA [10]).data.toList = [10] from rfl, txA_list, splitA1 _ s (Nat.le_refl _) (Lib.countB (txA s) (txA [10])) (Nat.le_of_eq rfl)] at h
  rw [← h, List.map_map]
  have : (txA ∘ fun x : ByteArray => x.data.toList) = id := by funext x; exact txA_eta x
  rw [this, List.map_id]
theorem countAB (s : Bys) : Lib.countB (txA s) (txA [10]) + 1 = (linesA s).length := by
  have h := Lib.splitB_all (txA [10]) (by decide) 1 _ (txA s) rfl
  rw [splitAB, List.length_map] at h
  omega
/-- texts in a fresh block -/
theorem sl_texts (w : World) (l : List Bys) (hn : l.length ≤ maxLen) (hb : ∀ x ∈ l, x.length ≤ maxLen) :
    Sl (w.alloc (.cells ((l.map txA).map Value.string).toArray 9)) (Old (w.alloc (.cells ((l.map txA).map Value.string).toArray 9))) (some ⟨w.heap.size, 0, none⟩) l.length (l.map txA) := by
  refine ⟨by rw [List.length_map]; exact Nat.le_refl _, hn, (fun h => by cases h), fun i hi => ?_⟩
  rw [List.length_map] at hi
  refine ⟨w.heap.size, 0, rfl, (Blk.alloc w ((l.map txA).map Value.string) 9).lt, [.string (txA l[i])], ?_, ?_⟩
  · have hb : Blk (w.alloc (.cells ((l.map txA).map Value.string).toArray 9)) w.heap.size 9 ((l.map txA).map Value.string) := Blk.alloc w _ _
    intro j u hu
    have hj : j = 0 := by
      cases j with
      | zero => rfl
      | succ j => simp at hu
    subst hj
    refine hb.cell ?_
    simp only [List.getElem?_cons_zero, Option.some.injEq] at hu
    rw [← hu]
    show ((l.map txA).map Value.string)[0 + i * 1 + 0]? = _
    simp [List.getElem?_eq_getElem hi]
  · rw [List.getElem_map]
    obtain ⟨cs, h1, h2⟩ := Rd.mkStr (w.alloc (.cells ((l.map txA).map Value.string).toArray 9)) (Old (w.alloc (.cells ((l.map txA).map Value.string).toArray 9))) (txA l[i]) (by
      rw [txA_size]; exact hb _ (List.getElem_mem hi))
    obtain ⟨v, rfl⟩ : ∃ v, cs = [v] := by
      have := Rep.len h2
      match cs, this with
      | [v], _ => exact ⟨v, rfl⟩
    have : v = .string (txA l[i]) := h1.symm
    rw [← this]; exact h2
theorem genS_ok (w : World) (s : Bys) (hs : s.length ≤ 2147483648) (hM : MaxH w) : Rt Tryz.prog 44 [tV s, tV [10], .int .i64 1, .int .i64 (-1)].toArray w fun v w' => (∃ ao cap, v = .slice ao ((linesA s).map txA).length cap ∧ Sl w' (Old w') ao cap ((linesA s).map txA)) ∧ Ext w w' := by
  obtain ⟨m, hm⟩ := hM
  have hl := countAB s
  have hle : (linesA s).length ≤ s.length + 1 := by
    have := Lib.countB_le (txA [10]) (by decide) _ (txA s) (Nat.le_refl _)
    rw [txA_size] at this
    omega
  have hc := Any.strings_genSplit shL221 shI2 (txA s) (txA [10]) 1 (-1) ((linesA s).length) m w (by rw [txA_size]; omega) hm (by decide) (by decide) (by decide) (by decide) (by
    rw [if_pos (by decide), txA_size]; omega)
  rw [show (linesA s).length - 1 = Lib.countB (txA s) (txA [10]) by omega, splitAB] at hc
  have hcell : Lib.cellsOf ((linesA s).map txA) (linesA s).length = (((linesA s).map txA).map Value.string).toArray := by
    have := Lib.cellsOf_full ((linesA s).map txA)
    rwa [List.length_map] at this
  rw [hcell] at hc
  refine Calls.mono hc ?_
  rintro e w' ⟨rfl, rfl⟩
  exact ⟨_, rfl, ⟨_, _, rfl, sl_texts w (linesA s) (by unfold maxLen; omega) (fun x hx => by have := linesA_mem s x hx; unfold maxLen; omega)⟩, Ext.alloc w _⟩
theorem splitA_ok (w : World) (s : Bys) (hs : s.length ≤ 2147483648) (hM : MaxH w) : Rt Tryz.prog 31 [tV s, tV [10]].toArray w fun v w' => (∃ ao cap, v = .slice ao ((linesA s).map txA).length cap ∧ Sl w' (Old w') ao cap ((linesA s).map txA)) ∧ Ext w w' := by
  refine Rt.enter2 Tryz.func31 Tryz.ntmps31 rfl rfl ?_
  (repeat (first | (apply WL.pure; rfl; rfl; rfl) | (apply WL.nil) | (apply EX.thenN) | (apply CW.seq) | (apply CW.region)))
  refine WL.lenP2 rfl rfl rfl ?_
  skip
  refine WL.call rfl rfl rfl (genS_ok w s hs hM) ?_
  rintro _ w1 ⟨⟨ao, cap, rfl, h⟩, e1⟩
  (repeat (first | (apply WL.pure; rfl; rfl; rfl) | (apply WL.nil) | (apply EX.thenN) | (apply CW.ret)))
  exact EX.ret1 rfl rfl ⟨⟨_, _, rfl, h⟩, e1⟩
theorem cutN_ok (w : World) (s : Bys) (hs : s.length ≤ 2147483648) : Rt Tryz.prog 32 [tV s, tV [10]].toArray w fun v w' => v = .tuple ⟨[tV (cutN s), .bool (sufB s)]⟩ ∧ Ext w w' := by
  refine Calls.mono (Any.strings_CutSuffix shL104 (txA s) (txA [10]) w (by rw [txA_size]; omega)) ?_
  rintro e w' ⟨rfl, rfl⟩
  refine ⟨_, rfl, ?_, Ext.refl _⟩
  rw [show (txA [10]).data.toList = [10] from rfl, txA_list]
  rfl
section
variable {P : Program} {Q : Exit → Act → World → Prop} {n : Nat} {σ : Sg} {w : World} {L rest : List Oper} {d : Nat} {ty : TypeId} {pos : String} {af : Array Edge} {g : Option (Nat × Bool)} {t : TypeId} {x y ix : Operand}
/-- s[i:j] -/
theorem WL.cutT {s : List UInt8} {i j : Nat} {k1 k2 : IntKind} (hg : gd L σ ⟨some d, .slice t x (some y) (some ix) none, ty, pos, af, g⟩ = some true) (hd : Nat.ble (d + 1) n = true)
    (hx : ev σ x = some (tV s)) (hy : ev σ y = some (.int k1 (i : Int))) (hz : ev σ ix = some (.int k2 (j : Int))) [hs : IsStr P t] (h1 : i ≤ j) (h2 : j ≤ s.length) (h : WL P L Q rest n ((d, tV ((s.take j).drop i)) :: σ) w) : WL P L Q (⟨some d, .slice t x (some y) (some ix) none, ty, pos, af, g⟩ :: rest) n σ w := by
  refine WL.run hg hd (fun a ha => ?_) h
  have := run_cutT (P := P) (t := t) (k1 := k1) (k2 := k2) h1 h2 w
  simp only [execOp, ha.ev hx, ha.ev hy, ha.ev hz, Option.map_some, Option.map_none]
  rw [Sem.run_bind, this]; rfl
/-- s[i:] -/
theorem WL.cutT1 {s : List UInt8} {i : Nat} {k1 : IntKind} (hg : gd L σ ⟨some d, .slice t x (some y) none none, ty, pos, af, g⟩ = some true) (hd : Nat.ble (d + 1) n = true)
    (hx : ev σ x = some (tV s)) (hy : ev σ y = some (.int k1 (i : Int))) [hs : IsStr P t] (h1 : i ≤ s.length) (h : WL P L Q rest n ((d, tV (s.drop i)) :: σ) w) : WL P L Q (⟨some d, .slice t x (some y) none none, ty, pos, af, g⟩ :: rest) n σ w := by
  refine WL.run hg hd (fun a ha => ?_) h
  have hz := txA_size s
  have : (Instr.sliceAt t (tV s) (some (.int k1 (i : Int))) none none).run P w = .ok (tV (s.drop i)) w := by
    simp [Instr.sliceAt, Instr.slice, Instr.sliceBounds, Instr.sliceBound, asIntOf, run_underlying hs.ok, hz, h1, txA_cut]
  simp only [execOp, ha.ev hx, ha.ev hy, Option.map_some, Option.map_none]
  rw [Sem.run_bind, this]; rfl
end
set_option maxHeartbeats 1000000 in
theorem lines_ok (w0 : World) (s : Bys) (hs : s.length ≤ 2147483648) : Rt Tryz.prog 11 [tV s].toArray w0 fun v w' => (∃ ao cap, v = .slice ao (linesR s).length cap) ∧ Ext w0 w' := by
  refine Rt.enter1 Tryz.func11 Tryz.ntmps11 rfl rfl ?_
  (repeat (first | (apply WL.pure; rfl; rfl; rfl) | (apply WL.nil) | (apply EX.thenN) | (apply CW.seq) | (apply CW.region) | (apply CW.block)))
  refine CW.loop (S := Nat × Nat × List Bys × Value) (fun (i, f, l, v) => [(0, tV s), (3, v), (4, .int .i64 f), (5, .int .i64 i)])
    (fun (i, f, l, v) w => i ≤ s.length ∧ f ≤ i ∧ l.length ≤ i ∧ linesR s = l ++ linesR (s.drop f) ∧ (10 : UInt8) ∉ (s.take i).drop f ∧ Own w w0.heap.size 9 Non v (l.map txA) ∧ Ext w0 w) (fun (i, f, l, v) => s.length - i) (0, 0, [], _) (by repeat (first | exact trivial | refine ⟨rfl, ?_⟩))
    ⟨by omega, by omega, by simp, rfl, by simp, Own.nil, Ext.refl _⟩ ?_
  rintro ⟨i, f, l, v⟩ w1 ⟨hi, hf, hll, hl, hn, ho, e1⟩
  dsimp only at hi hf hll hl hn ho ⊢
  (repeat (first | (apply WL.pure; rfl; rfl; rfl) | (apply CW.seq) | (apply CW.region)))
  refine WL.lenP2 rfl rfl rfl ?_
  (repeat (first | (apply WL.pure; rfl; rfl; rfl) | (apply WL.nil) | (apply EX.thenN)))
  refine CW.cond rfl (fun h => ?_) (fun h => ?_)
  · have h : i < s.length := by have : (i : Int) < s.length := by simpa using h
                                omega
    (repeat (first | (apply WL.pure; rfl; rfl; rfl) | (apply EX.thenN) | (apply CW.seq) | (apply CW.region) | (apply CW.block) | (apply CW.skip)))
    refine WL.byteL rfl rfl rfl rfl h ?_
    (repeat (first | (apply WL.pure; rfl; rfl; rfl) | (apply WL.nil) | (apply EX.thenN)))
    have htk : (s.take (i + 1)).drop f = (s.take i).drop f ++ [s[i]] := by
      rw [List.take_add_one, List.getElem?_eq_getElem h, List.drop_append_of_le_length (by rw [List.length_take]; omega)]; rfl
    refine CW.cond rfl (fun h' => ?_) (fun h' => ?_)
    · have h' : s[i] = 10 := by
        have : ((s[i]).toNat : Int) = 10 := by simpa using h'
        exact UInt8.toNat_inj.1 (by show s[i].toNat = 10; omega)
      rw [h'] at htk
      (repeat (first | (apply WL.add; rfl; rfl; rfl; rfl; omega; omega) | (apply WL.pure; rfl; rfl; rfl) | (apply CW.seq) | (apply CW.region)))
      refine WL.cutT (i := f) (j := i + 1) rfl rfl rfl rfl rfl (by omega) (by omega) ?_
      rw [htk]
      have hp : ((s.take i).drop f ++ [10]).length ≤ s.length := by
        rw [← htk, List.length_drop, List.length_take]; omega
      generalize hq : (s.take i).drop f ++ [(10 : UInt8)] = q at *
      refine WL.app1 (α := ByteArray) (F := Non) (yv := txA q) rfl rfl (fun _ => rfl) rfl rfl (fun _ => rfl) ho (Rd.mkStr _ _ _ (by rw [txA_size]; unfold maxLen; omega)) e1.size (fun _ h => h.elim) (by decide) (by rw [List.length_map]; unfold maxLen; omega) (by rw [List.length_map]; omega) (fun v' w2 p ho2 hg2 hnb => ?_)
      have e2 : Ext w0 w2 := e1.grown hg2 e1.size (fun k hk => (ho.lt k hk).1)
      (repeat (first | (apply WL.add; rfl; rfl; rfl; rfl; omega; omega) | (apply WL.pure; rfl; rfl; rfl) | (apply WL.nil) | (apply EX.thenN) | (apply CW.region) | (apply EX.inN)))
      refine EX.back (i + 1, i + 1, l ++ [q], v') (by repeat (first | exact trivial | refine ⟨rfl, ?_⟩)) ⟨by dsimp only; omega, by dsimp only; omega, by simp; omega, ?_, ?_, by rw [List.map_append]; exact ho2, e2⟩ (by omega)
      · have hd : s.drop f = (s.take i).drop f ++ 10 :: s.drop (i + 1) := by
          rw [drop_split (s := s) hf, List.drop_eq_getElem_cons h, h', ← List.drop_take]
        rw [hl, hd, linesR_at hn, hq]; simp
      · dsimp only
        rw [List.drop_of_length_le (by rw [List.length_take]; omega)]; simp
    · have h' : s[i] ≠ 10 := by
        intro e
        rw [e] at h'
        simp at h'
      apply CW.skip
      (repeat (first | (apply WL.add; rfl; rfl; rfl; rfl; omega; omega) | (apply WL.pure; rfl; rfl; rfl) | (apply WL.nil) | (apply EX.thenN) | (apply CW.region) | (apply EX.inN)))
      refine EX.back (i + 1, f, l, v) (by repeat (first | exact trivial | refine ⟨rfl, ?_⟩)) ⟨by omega, by dsimp only; omega, by dsimp only; omega, hl, ?_, ho, e1⟩ (by omega)
      rw [htk]
      simp [hn, Ne.symm h']
  · have h : i = s.length := by
      have : ¬ (i : Int) < s.length := by simpa using h
      omega
    subst h
    rw [List.take_length] at hn
    (repeat (first | (apply WL.pure; rfl; rfl; rfl) | (apply EX.thenN) | (apply CW.seq) | (apply CW.region) | (apply CW.exit) | (apply EX.thenX) | (apply EX.inX)))
    refine WL.lenP2 rfl rfl rfl ?_
    (repeat (first | (apply WL.pure; rfl; rfl; rfl) | (apply WL.nil) | (apply EX.thenN)))
    refine CW.cond rfl (fun h' => ?_) (fun h' => ?_)
    · have h' : f < s.length := by have : (f : Int) < s.length := by simpa using h'
                                   omega
      (repeat (first | (apply WL.pure; rfl; rfl; rfl) | (apply CW.region)))
      refine WL.cutT1 (i := f) rfl rfl rfl rfl (by omega) ?_
      have hp : (s.drop f).length ≤ s.length := by rw [List.length_drop]; omega
      have hne : s.drop f ≠ [] := fun e => by have := congrArg List.length e; rw [List.length_drop] at this; simp at this; omega
      rw [linesR_no hn hne] at hl
      generalize hq : s.drop f = q at *
      refine WL.app1 (α := ByteArray) (F := Non) (yv := txA q) rfl rfl (fun _ => rfl) rfl rfl (fun _ => rfl) ho (Rd.mkStr _ _ _ (by rw [txA_size]; unfold maxLen; omega)) e1.size (fun _ h => h.elim) (by decide) (by rw [List.length_map]; unfold maxLen; omega) (by rw [List.length_map]; omega) (fun v' w2 p ho2 hg2 hnb => ?_)
      have e2 : Ext w0 w2 := e1.grown hg2 e1.size (fun k hk => (ho.lt k hk).1)
      (repeat (first | (apply WL.pure; rfl; rfl; rfl) | (apply WL.nil) | (apply EX.thenN) | (apply CW.seq) | (apply CW.region) | (apply CW.ret)))
      obtain ⟨ao, cap, rfl⟩ := ho2.val
      refine EX.ret1 rfl rfl ⟨⟨ao, cap, ?_⟩, e2⟩
      rw [hl]; simp
    · have h' : f = s.length := by
        have : ¬ (f : Int) < s.length := by simpa using h'
        omega
      apply CW.skip
      rw [h', List.drop_length, linesR, List.append_nil] at hl
      (repeat (first | (apply WL.pure; rfl; rfl; rfl) | (apply WL.nil) | (apply EX.thenN) | (apply CW.seq) | (apply CW.region) | (apply CW.ret)))
      obtain ⟨ao, cap, rfl⟩ := ho.val
      refine EX.ret1 rfl rfl ⟨⟨ao, cap, ?_⟩, e1⟩
      rw [hl]; simp
end Go.Proofs.YtikigaeihdmcaaaGreatDoor

/-
  rule's reader of words: pattern, template: walked.
-/
set_option linter.unusedVariables false
set_option linter.unusedSimpArgs false
namespace Go.Proofs.YtikigaeihdmcaaaGreatDoor
open Go.RowKit

instance iRtz1 : IsF Tryz.prog 48 := ⟨_, Tryz.func48, rfl, by decide⟩
instance iRtz2 : IsF Tryz.prog 46 := ⟨_, Tryz.func46, rfl, by decide⟩
theorem grN {w w' w'' : World} {r : Option Nat} {c : Nat} (h : w.grownBy w' r) (k : w'.grownBy w'' (some c)) (hc : w.heap.size ≤ c) : w.grownBy w'' r :=
  ⟨k.os.trans h.os, k.tape.trans h.tape, k.output.trans h.output, Nat.le_trans h.size k.size, fun b hb hr => (k.block b (Nat.lt_of_lt_of_le hb h.size) (fun e => by have := Option.some.inj e; omega)).trans (h.block b hb hr)⟩
/-- a call that fills a new struct while it reads -/
structure RW (w0 w : World) (b b2 b3 : Nat) (T : TypeId) (z c : List Value) (wo : Option Addr) (wc : Nat) (W : List ByteArray) (no : Option Addr) (nc : Nat) (nms : List ByteArray) (st : RSt) : Prop where
  rd : RRd w b wo wc W no nc nms st
  h2 : Blk w b2 T z
  h3 : Blk w b3 T c
  g : w0.grownBy w (some b)
  lo : w0.heap.size ≤ b2
  lt : b2 < b3
  lob : b < w0.heap.size
section
variable {w0 w w' : World} {b b2 b3 : Nat} {T : TypeId} {z c c' : List Value} {wo : Option Addr} {wc : Nat} {W : List ByteArray} {no : Option Addr} {nc : Nat} {nms : List ByteArray} {st st' : RSt}
theorem RW.step (h : RW w0 w b b2 b3 T z c wo wc W no nc nms st) (hr : RRd w' b wo wc W no nc nms st') (hg : w.grownBy w' (some b)) : RW w0 w' b b2 b3 T z c wo wc W no nc nms st' := by
  have h1 := h.lo; have h2 := h.lt; have h3 := h.lob
  exact ⟨hr, h.h2.kept hg (fun e => by have := Option.some.inj e; omega), h.h3.kept hg (fun e => by have := Option.some.inj e; omega), grT h.g hg, h1, h2, h3⟩
theorem RW.put (h : RW w0 w b b2 b3 T z c wo wc W no nc nms st) (hb : Blk w' b3 T c') (hg : w.grownBy w' (some b3)) : RW w0 w' b b2 b3 T z c' wo wc W no nc nms st := by
  have h1 := h.lo; have h2 := h.lt; have h3 := h.lob
  exact ⟨h.rd.keep hg (fun x e => by have := Option.some.inj e; omega), h.h2.kept hg (fun e => by have := Option.some.inj e; omega), hb, grN h.g hg (by omega), h1, h2, h3⟩
theorem RW.ext (h : RW w0 w b b2 b3 T z c wo wc W no nc nms st) (hE : Ext w w') : RW w0 w' b b2 b3 T z c wo wc W no nc nms st := h.step (h.rd.ext hE) (hE.grw _)
end
def patC (k : Int) (s : RSt) : Int × RSt := if k = 4 then digitR s else (0, s)
def patO (nms : List ByteArray) (k : Int) (s : RSt) : Int × RSt := if k = 5 ∨ k = 6 then namedR nms true s else (0, s)
def patQ (nms : List ByteArray) (k : Int) (s : RSt) : Int × RSt := if k = 3 ∨ k = 4 ∨ k = 5 then namedR nms true s else (0, s)
def patE (nms : List ByteArray) (k : Int) (s : RSt) : Int × RSt := if k = 2 ∨ k = 4 ∨ k = 5 then namedR nms true s else (0, s)
theorem patR_eq {nms : List ByteArray} {s s1 s2 s3 s4 s5 s6 s7 : RSt} {k c o p sc q r : Int} (h1 : oneR 6 kindT s = (k, s1)) (h2 : patC k s1 = (c, s2)) (h3 : patO nms k s2 = (o, s3)) (h4 : namedR nms true s3 = (p, s4)) (h5 : oneR 5 scopT s4 = (sc, s5)) (h6 : patQ nms sc s5 = (q, s6)) (h7 : patE nms sc s6 = (r, s7)) :
    patR nms s = ((k, sc, p, o, q, r, c), s7) := by
  unfold patC at h2; unfold patO at h3; unfold patQ at h6; unfold patE at h7
  unfold patR
  simp only [h1, h2, h3, h4, h5, h6, h7]
def tplC (k : Int) (s : RSt) : Int × RSt := if 1 ≤ k ∧ k ≤ 3 then digitR s else (0, s)
def tplB (nms : List ByteArray) (k : Int) (s : RSt) : Int × RSt := if ¬ (1 ≤ k ∧ k ≤ 3) ∧ aloneB k = false then namedR nms false s else (0, s)
theorem tplR_eq {nms : List ByteArray} {s s1 s2 s3 s4 : RSt} {k a c b : Int} (h1 : oneR 14 tempT s = (k, s1)) (h2 : namedR nms false s1 = (a, s2)) (h3 : tplC k s2 = (c, s3)) (h4 : tplB nms k s3 = (b, s4)) : tplR nms s = ((k, a, b, c), s4) := by
  unfold tplC at h3; unfold tplB at h4
  unfold tplR
  simp only [h1, h2, h3, h4]
abbrev patLR (k sc P S Q R c : Int) : List Value := [.int .i64 k, .int .i64 sc, .int .i64 P, .int .i64 S, .int .i64 Q, .int .i64 R, .int .i64 c]
abbrev tplLR (k a b c : Int) : List Value := [.int .i64 k, .int .i64 a, .int .i64 b, .int .i64 c]
set_option maxHeartbeats 2000000 in
theorem rpat_ok (w : World) {b : Nat} {wo : Option Addr} {wc : Nat} {W : List ByteArray} {no : Option Addr} {nc : Nat} {nms : List ByteArray} {st : RSt} (h : RRd w b wo wc W no nc nms st) :
    Rt Tryz.prog 48 [.pointer (some ⟨b, 0, none⟩)].toArray w fun v w' => v = patV (patR nms st).1 ∧ RRd w' b wo wc W no nc nms (patR nms st).2 ∧ w.grownBy w' (some b) := by
  generalize e1 : oneR 6 kindT st = r1
  obtain ⟨k, s1⟩ := r1
  generalize e2 : patC k s1 = r2
  obtain ⟨c, s2⟩ := r2
  generalize e3 : patO nms k s2 = r3
  obtain ⟨og, s3⟩ := r3
  generalize e4 : namedR nms true s3 = r4
  obtain ⟨p, s4⟩ := r4
  generalize e5 : oneR 5 scopT s4 = r5
  obtain ⟨sc, s5⟩ := r5
  generalize e6 : patQ nms sc s5 = r6
  obtain ⟨q, s6⟩ := r6
  generalize e7 : patE nms sc s6 = r7
  obtain ⟨r, s7⟩ := r7
  rw [patR_eq e1 e2 e3 e4 e5 e6 e7]
  refine Rt.enter1 Tryz.func48 Tryz.ntmps48 rfl rfl ?_
  (repeat (first | (apply CW.seq) | (apply CW.region)))
  refine WL.alloc rfl rfl (fun w1 hb2 x1 => ?_)
  have hr1 := h.ext x1
  have l2 := hb2.lt
  (repeat (first | (apply WL.pure; rfl; rfl; rfl) | (apply WL.nil) | (apply EX.thenN) | (apply CW.seq) | (apply CW.region)))
  refine WL.call rfl rfl rfl (rone_ok w1 hr1 6 (by decide) kindT (fv := .func (.func 14) [].toArray [].toArray) (fun k w h1 h2 => FnV.mk (cs := []) (kindWd_ok w h1 (by simpa using h2)))) ?_
  rintro _ w2 ⟨rfl, hr2, g2⟩
  rw [e1] at hr2 ⊢
  skip
  refine WL.build (parts := [(0, .tmp 5)]) rfl rfl rfl rfl ?_
  refine WL.alloc rfl rfl (fun w3 hb3 x3 => ?_)
  refine WL.st rfl rfl rfl hb3 rfl rfl (ones_of rfl) (fun w4 hb3 hg4 => ?_)
  have lb := h.lt
  have g12 := grT (x1.grw (some b)) g2
  have z1 := x1.size
  have z2 := g2.size
  have hb22 : Blk w2 w.heap.size 23 _ := hb2.kept g2 (fun e => by have := Option.some.inj e; omega)
  have l23 : w.heap.size < w2.heap.size := by omega
  have h : RW w w4 b w.heap.size w2.heap.size 23 (patLR 0 0 0 0 0 0 0) (patLR k 0 0 0 0 0 0) wo wc W no nc nms s1 :=
    ⟨(hr2.ext x3).keep hg4 (fun x e => by have := Option.some.inj e; omega), (hb22.ext x3).kept hg4 (fun e => by have := Option.some.inj e; omega), hb3, grN (grT g12 (x3.grw _)) hg4 (by omega), Nat.le_refl _, l23, lb⟩
  clear hb2 hb3 hb22 hr1 hr2 g12 g2 x1 x3 hg4 z1 z2
  generalize w2.heap.size = b3 at *
  apply WL.nil
  apply EX.thenN
  refine CW.cutI (S := Unit) (fun _ => [(0, .pointer (some ⟨b, 0, none⟩)), (2, .pointer (some ⟨w.heap.size, 0, none⟩)), (3, .pointer (some ⟨b3, 0, none⟩))]) (fun _ wx => RW w wx b w.heap.size b3 23 (patLR 0 0 0 0 0 0 0) (patLR k 0 0 og 0 0 c) wo wc W no nc nms s3) ?_ ?_
  · have hb3 := h.h3
    unfold patC at e2
    unfold patO at e3
    (repeat (first | (apply WL.pure; rfl; rfl; rfl) | (apply WL.nil) | (apply EX.thenN) | (apply CW.seq) | (apply CW.region) | (apply WL.fa; rfl; rfl; rfl) | (apply WL.ld; rfl; rfl; rfl; assumption; rfl) | (apply CW.block)))
    refine CW.cond rfl (fun hc => ?_) (fun hc => ?_)
    · have hk : k = 4 := by simpa using hc
      rw [if_pos hk] at e2
      rw [if_neg (by omega)] at e3
      injection e3 with e3 e3'
      subst e3
      subst e3'
      (repeat (first | (apply WL.pure; rfl; rfl; rfl) | (apply CW.region)))
      refine WL.call rfl rfl rfl (rdig_ok _ h.rd) ?_
      rintro _ wq ⟨rfl, hr, hg⟩
      rw [e2] at hr ⊢
      have h := h.step hr hg
      have hb3 := h.h3
      (repeat (apply WL.fa; rfl; rfl; rfl))
      refine WL.st rfl rfl rfl hb3 rfl rfl (ones_of rfl) (fun wq hb hg => ?_)
      have h := h.put hb hg
      have hb3 := h.h3
      (repeat (first | (apply WL.nil) | (apply EX.inN)))
      exact EX.cutI () (by repeat (first | exact trivial | refine ⟨rfl, ?_⟩)) h
    · have hk : ¬ k = 4 := by simpa using hc
      rw [if_neg hk] at e2
      injection e2 with e2 e2'
      subst e2
      subst e2'
      (repeat (first | (apply WL.pure; rfl; rfl; rfl) | (apply WL.nil) | (apply EX.thenN) | (apply CW.seq) | (apply CW.region)))
      by_cases h5 : k = 5
      · rw [if_pos (.inl h5)] at e3
        rw [beq_iff_eq.2 h5]
        (repeat (first | (apply WL.pure; rfl; rfl; rfl) | (apply EX.thenN) | (apply CW.region) | (apply CW.condT; rfl) | (apply CW.skip)))
        refine WL.call rfl rfl rfl (rnamed_ok _ h.rd true) ?_
        rintro _ wq ⟨rfl, hr, hg⟩
        rw [e3] at hr ⊢
        have h := h.step hr hg
        have hb3 := h.h3
        (repeat (apply WL.fa; rfl; rfl; rfl))
        refine WL.st rfl rfl rfl hb3 rfl rfl (ones_of rfl) (fun wq hb hg => ?_)
        have h := h.put hb hg
        have hb3 := h.h3
        (repeat (first | (apply WL.nil) | (apply EX.inN)))
        exact EX.cutI () (by repeat (first | exact trivial | refine ⟨rfl, ?_⟩)) h
      rw [beq_eq_false_iff_ne.2 h5]
      (repeat (first | (apply WL.pure; rfl; rfl; rfl) | (apply WL.nil) | (apply EX.thenN) | (apply CW.region) | (apply CW.condF; rfl)))
      refine CW.cond rfl (fun hc => ?_) (fun hc => ?_)
      · have h6 : k = 6 := by simpa using hc
        rw [if_pos (.inr h6)] at e3
        (repeat (first | (apply WL.pure; rfl; rfl; rfl) | (apply CW.region)))
        refine WL.call rfl rfl rfl (rnamed_ok _ h.rd true) ?_
        rintro _ wq ⟨rfl, hr, hg⟩
        rw [e3] at hr ⊢
        have h := h.step hr hg
        have hb3 := h.h3
        (repeat (apply WL.fa; rfl; rfl; rfl))
        refine WL.st rfl rfl rfl hb3 rfl rfl (ones_of rfl) (fun wq hb hg => ?_)
        have h := h.put hb hg
        have hb3 := h.h3
        (repeat (first | (apply WL.nil) | (apply EX.inN)))
        exact EX.cutI () (by repeat (first | exact trivial | refine ⟨rfl, ?_⟩)) h
      · have h6 : ¬ k = 6 := by simpa using hc
        rw [if_neg (fun e => e.elim h5 h6)] at e3
        injection e3 with e3 e3'
        subst e3
        subst e3'
        (repeat (first | (apply EX.inN) | (apply CW.skip)))
        exact EX.cutI () (by repeat (first | exact trivial | refine ⟨rfl, ?_⟩)) h
  rintro _ w5 h
  (repeat (first | (apply WL.pure; rfl; rfl; rfl) | (apply CW.seq) | (apply CW.region)))
  refine WL.call rfl rfl rfl (rnamed_ok _ h.rd true) ?_
  rintro _ wq ⟨rfl, hr, hg⟩
  rw [e4] at hr ⊢
  have h := h.step hr hg
  have hb3 := h.h3
  (repeat (apply WL.fa; rfl; rfl; rfl))
  refine WL.st rfl rfl rfl hb3 rfl rfl (ones_of rfl) (fun wq hb hg => ?_)
  have h := h.put hb hg
  have hb3 := h.h3
  (repeat (first | (apply WL.pure; rfl; rfl; rfl) | (apply WL.nil) | (apply EX.thenN) | (apply CW.seq) | (apply CW.region)))
  refine WL.call rfl rfl rfl (rone_ok _ h.rd 5 (by decide) scopT (fv := .func (.func 17) [].toArray [].toArray) (fun k w h1 h2 => FnV.mk (cs := []) (scopWd_ok w h1 (by simpa using h2)))) ?_
  rintro _ wq ⟨rfl, hr, hg⟩
  rw [e5] at hr ⊢
  have h := h.step hr hg
  have hb3 := h.h3
  (repeat (apply WL.fa; rfl; rfl; rfl))
  refine WL.st rfl rfl rfl hb3 rfl rfl (ones_of rfl) (fun wq hb hg => ?_)
  have h := h.put hb hg
  have hb3 := h.h3
  apply WL.nil
  apply EX.thenN
  refine CW.cutI (S := Unit) (fun _ => [(0, .pointer (some ⟨b, 0, none⟩)), (2, .pointer (some ⟨w.heap.size, 0, none⟩)), (3, .pointer (some ⟨b3, 0, none⟩))]) (fun _ wx => RW w wx b w.heap.size b3 23 (patLR 0 0 0 0 0 0 0) (patLR k sc p og q 0 c) wo wc W no nc nms s6) ?_ ?_
  · unfold patQ at e6
    (repeat (first | (apply WL.pure; rfl; rfl; rfl) | (apply CW.seq) | (apply CW.region) | (apply WL.fa; rfl; rfl; rfl) | (apply WL.ld; rfl; rfl; rfl; assumption; rfl)))
    by_cases ha : sc = 3
    · rw [beq_iff_eq.2 ha]
      rw [if_pos (.inl ha)] at e6
      (repeat (first | (apply WL.pure; rfl; rfl; rfl) | (apply WL.nil) | (apply EX.thenN) | (apply CW.region) | (apply WL.pass; rfl; rfl) | (apply CW.condT; rfl)))
      refine WL.call rfl rfl rfl (rnamed_ok _ h.rd true) ?_
      rintro _ wq ⟨rfl, hr, hg⟩
      rw [e6] at hr ⊢
      have h := h.step hr hg
      have hb3 := h.h3
      (repeat (apply WL.fa; rfl; rfl; rfl))
      refine WL.st rfl rfl rfl hb3 rfl rfl (ones_of rfl) (fun wq hb hg => ?_)
      have h := h.put hb hg
      have hb3 := h.h3
      (repeat (apply WL.nil))
      exact EX.cutI () (by repeat (first | exact trivial | refine ⟨rfl, ?_⟩)) h
    rw [beq_eq_false_iff_ne.2 ha]
    (repeat (first | (apply WL.pure; rfl; rfl; rfl) | (apply WL.fa; rfl; rfl; rfl) | (apply WL.ld; rfl; rfl; rfl; assumption; rfl)))
    by_cases hb' : sc = 4
    · rw [beq_iff_eq.2 hb']
      rw [if_pos (.inr (.inl hb'))] at e6
      (repeat (first | (apply WL.pure; rfl; rfl; rfl) | (apply WL.nil) | (apply EX.thenN) | (apply CW.region) | (apply WL.pass; rfl; rfl) | (apply CW.condT; rfl)))
      refine WL.call rfl rfl rfl (rnamed_ok _ h.rd true) ?_
      rintro _ wq ⟨rfl, hr, hg⟩
      rw [e6] at hr ⊢
      have h := h.step hr hg
      have hb3 := h.h3
      (repeat (apply WL.fa; rfl; rfl; rfl))
      refine WL.st rfl rfl rfl hb3 rfl rfl (ones_of rfl) (fun wq hb hg => ?_)
      have h := h.put hb hg
      have hb3 := h.h3
      (repeat (apply WL.nil))
      exact EX.cutI () (by repeat (first | exact trivial | refine ⟨rfl, ?_⟩)) h
    rw [beq_eq_false_iff_ne.2 hb']
    (repeat (first | (apply WL.pure; rfl; rfl; rfl) | (apply WL.nil) | (apply EX.thenN) | (apply WL.fa; rfl; rfl; rfl) | (apply WL.ld; rfl; rfl; rfl; assumption; rfl)))
    by_cases hc' : sc = 5
    · rw [beq_iff_eq.2 hc']
      rw [if_pos (.inr (.inr hc'))] at e6
      (repeat (first | (apply WL.pure; rfl; rfl; rfl) | (apply CW.region) | (apply CW.condT; rfl)))
      refine WL.call rfl rfl rfl (rnamed_ok _ h.rd true) ?_
      rintro _ wq ⟨rfl, hr, hg⟩
      rw [e6] at hr ⊢
      have h := h.step hr hg
      have hb3 := h.h3
      (repeat (apply WL.fa; rfl; rfl; rfl))
      refine WL.st rfl rfl rfl hb3 rfl rfl (ones_of rfl) (fun wq hb hg => ?_)
      have h := h.put hb hg
      have hb3 := h.h3
      (repeat (apply WL.nil))
      exact EX.cutI () (by repeat (first | exact trivial | refine ⟨rfl, ?_⟩)) h
    rw [beq_eq_false_iff_ne.2 hc']
    rw [if_neg (fun x => x.elim ha (fun x => x.elim hb' hc'))] at e6
    injection e6 with x1 x2
    subst x1
    subst x2
    (repeat (first | (apply CW.condF; rfl) | (apply CW.skip)))
    exact EX.cutI () (by repeat (first | exact trivial | refine ⟨rfl, ?_⟩)) h
  rintro _ w6 h
  have hb3 := h.h3
  refine CW.cutI (S := Unit) (fun _ => [(0, .pointer (some ⟨b, 0, none⟩)), (2, .pointer (some ⟨w.heap.size, 0, none⟩)), (3, .pointer (some ⟨b3, 0, none⟩))]) (fun _ wx => RW w wx b w.heap.size b3 23 (patLR 0 0 0 0 0 0 0) (patLR k sc p og q r c) wo wc W no nc nms s7) ?_ ?_
  · unfold patE at e7
    (repeat (first | (apply WL.pure; rfl; rfl; rfl) | (apply CW.seq) | (apply CW.region) | (apply WL.fa; rfl; rfl; rfl) | (apply WL.ld; rfl; rfl; rfl; assumption; rfl)))
    by_cases ha : sc = 2
    · rw [beq_iff_eq.2 ha]
      rw [if_pos (.inl ha)] at e7
      (repeat (first | (apply WL.pure; rfl; rfl; rfl) | (apply WL.nil) | (apply EX.thenN) | (apply CW.region) | (apply WL.pass; rfl; rfl) | (apply CW.condT; rfl)))
      refine WL.call rfl rfl rfl (rnamed_ok _ h.rd true) ?_
      rintro _ wq ⟨rfl, hr, hg⟩
      rw [e7] at hr ⊢
      have h := h.step hr hg
      have hb3 := h.h3
      (repeat (apply WL.fa; rfl; rfl; rfl))
      refine WL.st rfl rfl rfl hb3 rfl rfl (ones_of rfl) (fun wq hb hg => ?_)
      have h := h.put hb hg
      have hb3 := h.h3
      (repeat (apply WL.nil))
      exact EX.cutI () (by repeat (first | exact trivial | refine ⟨rfl, ?_⟩)) h
    rw [beq_eq_false_iff_ne.2 ha]
    (repeat (first | (apply WL.pure; rfl; rfl; rfl) | (apply WL.fa; rfl; rfl; rfl) | (apply WL.ld; rfl; rfl; rfl; assumption; rfl)))
    by_cases hb' : sc = 4
    · rw [beq_iff_eq.2 hb']
      rw [if_pos (.inr (.inl hb'))] at e7
      (repeat (first | (apply WL.pure; rfl; rfl; rfl) | (apply WL.nil) | (apply EX.thenN) | (apply CW.region) | (apply WL.pass; rfl; rfl) | (apply CW.condT; rfl)))
      refine WL.call rfl rfl rfl (rnamed_ok _ h.rd true) ?_
      rintro _ wq ⟨rfl, hr, hg⟩
      rw [e7] at hr ⊢
      have h := h.step hr hg
      have hb3 := h.h3
      (repeat (apply WL.fa; rfl; rfl; rfl))
      refine WL.st rfl rfl rfl hb3 rfl rfl (ones_of rfl) (fun wq hb hg => ?_)
      have h := h.put hb hg
      have hb3 := h.h3
      (repeat (apply WL.nil))
      exact EX.cutI () (by repeat (first | exact trivial | refine ⟨rfl, ?_⟩)) h
    rw [beq_eq_false_iff_ne.2 hb']
    (repeat (first | (apply WL.pure; rfl; rfl; rfl) | (apply WL.nil) | (apply EX.thenN) | (apply WL.fa; rfl; rfl; rfl) | (apply WL.ld; rfl; rfl; rfl; assumption; rfl)))
    by_cases hc' : sc = 5
    · rw [beq_iff_eq.2 hc']
      rw [if_pos (.inr (.inr hc'))] at e7
      (repeat (first | (apply WL.pure; rfl; rfl; rfl) | (apply CW.region) | (apply CW.condT; rfl)))
      refine WL.call rfl rfl rfl (rnamed_ok _ h.rd true) ?_
      rintro _ wq ⟨rfl, hr, hg⟩
      rw [e7] at hr ⊢
      have h := h.step hr hg
      have hb3 := h.h3
      (repeat (apply WL.fa; rfl; rfl; rfl))
      refine WL.st rfl rfl rfl hb3 rfl rfl (ones_of rfl) (fun wq hb hg => ?_)
      have h := h.put hb hg
      have hb3 := h.h3
      (repeat (apply WL.nil))
      exact EX.cutI () (by repeat (first | exact trivial | refine ⟨rfl, ?_⟩)) h
    rw [beq_eq_false_iff_ne.2 hc']
    rw [if_neg (fun x => x.elim ha (fun x => x.elim hb' hc'))] at e7
    injection e7 with x1 x2
    subst x1
    subst x2
    (repeat (first | (apply CW.condF; rfl) | (apply CW.skip)))
    exact EX.cutI () (by repeat (first | exact trivial | refine ⟨rfl, ?_⟩)) h
  rintro _ w6 h
  have hb3 := h.h3
  have hb2 := h.h2
  (repeat (first | (apply CW.seq) | (apply CW.region) | (apply WL.ldA; rfl; rfl; rfl; assumption; rfl)))
  refine WL.st rfl rfl rfl hb2 rfl rfl (ones_of rfl) (fun w7 hb7 hg7 => ?_)
  (repeat (first | (apply WL.nil) | (apply EX.thenN) | (apply CW.ret)))
  have lt3 := h.lt
  exact EX.retC rfl rfl hb7 rfl ⟨rfl, h.rd.keep hg7 (fun x e => by have := Option.some.inj e; omega), grN h.g hg7 (Nat.le_refl _)⟩
set_option maxHeartbeats 2000000 in
theorem rtpl_ok (w : World) {b : Nat} {wo : Option Addr} {wc : Nat} {W : List ByteArray} {no : Option Addr} {nc : Nat} {nms : List ByteArray} {st : RSt} (h : RRd w b wo wc W no nc nms st) :
    Rt Tryz.prog 46 [.pointer (some ⟨b, 0, none⟩)].toArray w fun v w' => v = tplV (tplR nms st).1 ∧ RRd w' b wo wc W no nc nms (tplR nms st).2 ∧ w.grownBy w' (some b) := by
  generalize e1 : oneR 14 tempT st = r1
  obtain ⟨k, s1⟩ := r1
  generalize e2 : namedR nms false s1 = r2
  obtain ⟨a, s2⟩ := r2
  generalize e3 : tplC k s2 = r3
  obtain ⟨c, s3⟩ := r3
  generalize e4 : tplB nms k s3 = r4
  obtain ⟨d, s4⟩ := r4
  rw [tplR_eq e1 e2 e3 e4]
  refine Rt.enter1 Tryz.func46 Tryz.ntmps46 rfl rfl ?_
  (repeat (first | (apply CW.seq) | (apply CW.region)))
  refine WL.alloc rfl rfl (fun w1 hb2 x1 => ?_)
  have hr1 := h.ext x1
  have l2 := hb2.lt
  (repeat (first | (apply WL.pure; rfl; rfl; rfl) | (apply WL.nil) | (apply EX.thenN) | (apply CW.seq) | (apply CW.region)))
  refine WL.call rfl rfl rfl (rone_ok w1 hr1 14 (by decide) tempT (fv := .func (.func 18) [].toArray [].toArray) (fun k w h1 h2 => FnV.mk (cs := []) (tempWd_ok w h1 (by simpa using h2)))) ?_
  rintro _ w2 ⟨rfl, hr2, g2⟩
  rw [e1] at hr2 ⊢
  skip
  refine WL.build (parts := [(0, .tmp 5)]) rfl rfl rfl rfl ?_
  refine WL.alloc rfl rfl (fun w3 hb3 x3 => ?_)
  refine WL.st rfl rfl rfl hb3 rfl rfl (ones_of rfl) (fun w4 hb3 hg4 => ?_)
  have lb := h.lt
  have g12 := grT (x1.grw (some b)) g2
  have z1 := x1.size
  have z2 := g2.size
  have hb22 : Blk w2 w.heap.size 25 _ := hb2.kept g2 (fun e => by have := Option.some.inj e; omega)
  have l23 : w.heap.size < w2.heap.size := by omega
  have h : RW w w4 b w.heap.size w2.heap.size 25 (tplLR 0 0 0 0) (tplLR k 0 0 0) wo wc W no nc nms s1 :=
    ⟨(hr2.ext x3).keep hg4 (fun x e => by have := Option.some.inj e; omega), (hb22.ext x3).kept hg4 (fun e => by have := Option.some.inj e; omega), hb3, grN (grT g12 (x3.grw _)) hg4 (by omega), Nat.le_refl _, l23, lb⟩
  clear hb2 hb3 hb22 hr1 hr2 g12 g2 x1 x3 hg4 z1 z2
  generalize w2.heap.size = b3 at *
  (repeat (first | (apply WL.pure; rfl; rfl; rfl) | (apply WL.nil) | (apply EX.thenN) | (apply CW.seq) | (apply CW.region)))
  refine WL.call rfl rfl rfl (rnamed_ok _ h.rd false) ?_
  rintro _ wq ⟨rfl, hr, hg⟩
  rw [e2] at hr ⊢
  have h := h.step hr hg
  have hb3 := h.h3
  (repeat (apply WL.fa; rfl; rfl; rfl))
  refine WL.st rfl rfl rfl hb3 rfl rfl (ones_of rfl) (fun wq hb hg => ?_)
  have h := h.put hb hg
  have hb3 := h.h3
  apply WL.nil
  apply EX.thenN
  refine CW.cutI (S := Unit) (fun _ => [(0, .pointer (some ⟨b, 0, none⟩)), (2, .pointer (some ⟨w.heap.size, 0, none⟩)), (3, .pointer (some ⟨b3, 0, none⟩))]) (fun _ wx => RW w wx b w.heap.size b3 25 (tplLR 0 0 0 0) (tplLR k a d c) wo wc W no nc nms s4) ?_ ?_
  · unfold tplC at e3
    unfold tplB at e4
    (repeat (first | (apply WL.pure; rfl; rfl; rfl) | (apply CW.seq) | (apply CW.region) | (apply WL.fa; rfl; rfl; rfl) | (apply WL.ld; rfl; rfl; rfl; assumption; rfl) | (apply CW.block)))
    by_cases h1 : k ≥ 1
    · rw [decide_eq_true h1]
      (repeat (first | (apply WL.pure; rfl; rfl; rfl) | (apply WL.nil) | (apply EX.thenN) | (apply WL.fa; rfl; rfl; rfl) | (apply WL.ld; rfl; rfl; rfl; assumption; rfl)))
      by_cases h3 : k ≤ 3
      · rw [decide_eq_true h3]
        rw [if_pos ⟨h1, h3⟩] at e3
        rw [if_neg (fun e => e.1 ⟨h1, h3⟩)] at e4
        injection e4 with e4 e4'
        subst e4
        subst e4'
        (repeat (first | (apply WL.pure; rfl; rfl; rfl) | (apply CW.region) | (apply CW.condT; rfl)))
        refine WL.call rfl rfl rfl (rdig_ok _ h.rd) ?_
        rintro _ wq ⟨rfl, hr, hg⟩
        rw [e3] at hr ⊢
        have h := h.step hr hg
        have hb3 := h.h3
        (repeat (apply WL.fa; rfl; rfl; rfl))
        refine WL.st rfl rfl rfl hb3 rfl rfl (ones_of rfl) (fun wq hb hg => ?_)
        have h := h.put hb hg
        have hb3 := h.h3
        (repeat (first | (apply WL.nil) | (apply EX.inN)))
        exact EX.cutI () (by repeat (first | exact trivial | refine ⟨rfl, ?_⟩)) h
      rw [decide_eq_false h3]
      rw [if_neg (fun e => h3 e.2)] at e3
      injection e3 with e3 e3'
      subst e3
      subst e3'
      (repeat (first | (apply CW.seq) | (apply CW.region) | (apply WL.fa; rfl; rfl; rfl) | (apply WL.ld; rfl; rfl; rfl; assumption; rfl) | (apply CW.condF; rfl)))
      refine WL.call rfl rfl rfl (alone_ok _ k) ?_
      rintro _ wC ⟨rfl, rfl⟩
      (repeat (first | (apply WL.pure; rfl; rfl; rfl) | (apply WL.nil) | (apply EX.thenN)))
      cases hal : aloneB k with
      | true =>
        rw [if_neg (fun e => by rw [hal] at e; cases e.2)] at e4
        injection e4 with e4 e4'
        subst e4
        subst e4'
        (repeat (first | (apply EX.inN) | (apply CW.condF; rfl) | (apply CW.skip)))
        exact EX.cutI () (by repeat (first | exact trivial | refine ⟨rfl, ?_⟩)) h
      | false =>
      rw [if_pos ⟨fun e => h3 e.2, hal⟩] at e4
      (repeat (first | (apply WL.pure; rfl; rfl; rfl) | (apply CW.region) | (apply CW.condT; rfl)))
      refine WL.call rfl rfl rfl (rnamed_ok _ h.rd false) ?_
      rintro _ wq ⟨rfl, hr, hg⟩
      rw [e4] at hr ⊢
      have h := h.step hr hg
      have hb3 := h.h3
      (repeat (apply WL.fa; rfl; rfl; rfl))
      refine WL.st rfl rfl rfl hb3 rfl rfl (ones_of rfl) (fun wq hb hg => ?_)
      have h := h.put hb hg
      have hb3 := h.h3
      (repeat (first | (apply WL.nil) | (apply EX.inN)))
      exact EX.cutI () (by repeat (first | exact trivial | refine ⟨rfl, ?_⟩)) h
    rw [decide_eq_false h1]
    rw [if_neg (fun e => h1 e.1)] at e3
    injection e3 with e3 e3'
    subst e3
    subst e3'
    (repeat (first | (apply WL.pure; rfl; rfl; rfl) | (apply WL.nil) | (apply EX.thenN) | (apply CW.seq) | (apply CW.region) | (apply WL.pass; rfl; rfl) | (apply WL.fa; rfl; rfl; rfl) | (apply WL.ld; rfl; rfl; rfl; assumption; rfl) | (apply CW.condF; rfl)))
    refine WL.call rfl rfl rfl (alone_ok _ k) ?_
    rintro _ wC ⟨rfl, rfl⟩
    (repeat (first | (apply WL.pure; rfl; rfl; rfl) | (apply WL.nil) | (apply EX.thenN)))
    cases hal : aloneB k with
    | true =>
      rw [if_neg (fun e => by rw [hal] at e; cases e.2)] at e4
      injection e4 with e4 e4'
      subst e4
      subst e4'
      (repeat (first | (apply EX.inN) | (apply CW.condF; rfl) | (apply CW.skip)))
      exact EX.cutI () (by repeat (first | exact trivial | refine ⟨rfl, ?_⟩)) h
    | false =>
    rw [if_pos ⟨fun e => h1 e.1, hal⟩] at e4
    (repeat (first | (apply WL.pure; rfl; rfl; rfl) | (apply CW.region) | (apply CW.condT; rfl)))
    refine WL.call rfl rfl rfl (rnamed_ok _ h.rd false) ?_
    rintro _ wq ⟨rfl, hr, hg⟩
    rw [e4] at hr ⊢
    have h := h.step hr hg
    have hb3 := h.h3
    (repeat (apply WL.fa; rfl; rfl; rfl))
    refine WL.st rfl rfl rfl hb3 rfl rfl (ones_of rfl) (fun wq hb hg => ?_)
    have h := h.put hb hg
    have hb3 := h.h3
    (repeat (first | (apply WL.nil) | (apply EX.inN)))
    exact EX.cutI () (by repeat (first | exact trivial | refine ⟨rfl, ?_⟩)) h
  rintro _ w6 h
  have hb3 := h.h3
  have hb2 := h.h2
  (repeat (first | (apply CW.seq) | (apply CW.region) | (apply WL.ldA; rfl; rfl; rfl; assumption; rfl)))
  refine WL.st rfl rfl rfl hb2 rfl rfl (ones_of rfl) (fun w7 hb7 hg7 => ?_)
  (repeat (first | (apply WL.nil) | (apply EX.thenN) | (apply CW.ret)))
  have lt3 := h.lt
  exact EX.retC rfl rfl hb7 rfl ⟨rfl, h.rd.keep hg7 (fun x e => by have := Option.some.inj e; omega), grN h.g hg7 (Nat.le_refl _)⟩
end Go.Proofs.YtikigaeihdmcaaaGreatDoor

