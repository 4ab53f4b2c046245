import Derived.Test.YtikigaeihdmcaaaGreatDoorRows
import Derived.OpenShut
import Derived.JoinedCond
import Derived.Test.YtikigaeihdmcaaaGreatDoorPtReportLines15
/-
  rule.Parse, walked.
-/
set_option linter.unusedVariables false
set_option linter.unusedSimpArgs false
namespace Go.Proofs.YtikigaeihdmcaaaGreatDoor
open Go.RowKit

theorem splitL_len (c : UInt8) : ∀ s : Bys, (splitL c s).length ≤ s.length + 1
  | [] => by simp [splitL]
  | b :: l => by
    have ih := splitL_len c l
    unfold splitL
    split
    · simp only [List.length_cons]; omega
    · split
      · simp
      · rename_i x r h
        rw [h] at ih
        simp only [List.length_cons] at ih ⊢; omega
/-- a rule that a call tells -/
def RG (w : World) (v : Value) (r : LRule) : Prop := ∃ lo lc co cc, v = rulV r lo lc co cc ∧ Sl w (Old w) lo lc r.2.2.2.2.1.kids ∧ Sl w (Old w) co cc r.2.2.2.2.2.kids ∧ r.1.size ≤ maxLen
theorem RG.zero (w : World) : RG w (.agg (rul0 ⟨#[]⟩ 0).toArray) ruleZ := ⟨none, 0, none, 0, rfl, Sl.zero _ _, Sl.zero _ _, by decide⟩
/-- a rule that is new -/
def RF (w : World) (B : Nat) (v : Value) (r : LRule) : Prop := ∃ lo lc co cc, v = rulV r lo lc co cc ∧ Sl w (fun c => B ≤ c ∧ c < w.heap.size) lo lc r.2.2.2.2.1.kids ∧ Sl w (fun c => B ≤ c ∧ c < w.heap.size) co cc r.2.2.2.2.2.kids ∧ r.1.size ≤ maxLen
theorem RF.zero (w : World) (B : Nat) : RF w B (.agg (rul0 ⟨#[]⟩ 0).toArray) ruleZ := ⟨none, 0, none, 0, rfl, Sl.zero _ _, Sl.zero _ _, by decide⟩
theorem ruleR_name {w : World} {b : Nat} {wo : Option Addr} {wc : Nat} {W : List ByteArray} {no : Option Addr} {nc : Nat} {nms : List ByteArray} {st : RSt} (h : RRd w b wo wc W no nc nms st) : (ruleR nms st).1.1.size ≤ maxLen := by
  have e : (ruleR nms st).1.1 = txA (nextW st) := by
    unfold ruleR
    split
    · rfl
    split
    · rfl
    split
    · rfl
    split
    · rfl
    · rfl
  rw [e, txA_size]
  have := h.next_len
  unfold maxLen; omega
set_option maxHeartbeats 4000000 in
theorem rparse_fr (w0 : World) (hM : MaxH w0) (hE : ErrH w0) {sa : Nat → Addr} (hSn : SenH w0 sa) {s : Bys} {no : Option Addr} {nc : Nat} {nms : List ByteArray} (hn : Sl w0 (Old w0) no nc nms) :
    Rt Tryz.prog 8 [tV s, .slice no nms.length nc].toArray w0 fun v w' => ∃ x, v = .tuple ⟨[x, .int .i64 ((parseR s nms).2.1 : Int), .int .i64 (parseR s nms).2.2]⟩ ∧ RF w' w0.heap.size x (parseR s nms).1 ∧ Ext w0 w' := by
  refine Rt.enter2 Tryz.func8 Tryz.ntmps8 rfl rfl ?_
  unfold parseR
  (repeat (first | (apply CW.seq) | (apply CW.region)))
  refine WL.alloc rfl rfl (fun w1 hb4 e1 => ?_)
  (repeat (first | (apply WL.pure; rfl; rfl; rfl) | (apply WL.nil) | (apply EX.thenN) | (apply CW.seq) | (apply CW.region)))
  refine WL.lenP2 rfl rfl rfl ?_
  (repeat (first | (apply WL.pure; rfl; rfl; rfl) | (apply WL.nil) | (apply EX.thenN)))
  refine CW.cond rfl (fun h => ?_) (fun h => ?_)
  · have h : s.length > 4096 := by have : (s.length : Int) > 4096 := by simpa using h
                                   omega
    rw [if_pos h]
    (repeat (first | (apply CW.seq) | (apply CW.region)))
    refine WL.build (parts := []) rfl rfl rfl rfl ?_
    skip
    refine WL.st rfl rfl rfl hb4 rfl rfl (ones_of rfl) (fun w2 hb42 hg2 => ?_)
    (repeat (first | (apply WL.pure; rfl; rfl; rfl) | (apply WL.nil) | (apply EX.thenN) | (apply CW.ret) | (apply EX.thenR)))
    exact EX.retC3 rfl rfl rfl rfl hb42 rfl ⟨_, rfl, RF.zero _ _, e1.grown hg2 e1.size (fun g hg => by cases hg; exact Nat.le_refl _)⟩
  have hs : s.length ≤ 4096 := by have : ¬ (s.length : Int) > 4096 := by simpa using h
                                  omega
  rw [if_neg (by omega)]
  clear h
  have l4 := hb4.lt
  (repeat (first | (apply WL.pure; rfl; rfl; rfl) | (apply EX.thenN) | (apply CW.seq) | (apply CW.region) | (apply CW.skip)))
  refine WL.call rfl rfl rfl (split_ok w1 s (by omega) (hM.ext e1)) ?_
  rintro _ w2 ⟨⟨wo, wc, rfl, hws⟩, e2⟩
  have hb4 := hb4.ext e2
  (repeat (apply WL.pure; rfl; rfl; rfl))
  refine WL.build (parts := [(0, .tmp 15), (1, .tmp 16)]) rfl rfl rfl rfl ?_
  refine WL.boxB rfl rfl rfl fun w3 hb7 e3 => ?_
  have hb4 := hb4.ext e3
  have hE02 := e1.trans e2
  have z2 := hE02.size
  have z12 := e2.size
  have hlen := splitL_len 32 s
  have hjn := join_split 32 s
  have hsl3 : Sl w3 (fun c => c < w2.heap.size) wo wc ((splitL 32 s).map txA) := hws.mono (fun c hc => e3.block c hc.2) (fun c hc => hc.2)
  have hn3 : Sl w3 (fun c => c < w2.heap.size) no nc nms := (hn.up hE02).mono (fun c hc => e3.block c hc) (fun c hc => hc)
  have hmb : ((splitL 32 s).map txA).map bysA = splitL 32 s := by rw [List.map_map]; exact List.map_id _
  generalize hW : (splitL 32 s).map txA = W at *
  have hWl : W.length = (splitL 32 s).length := by rw [← hW, List.length_map]
  have hrd : RRd w3 w2.heap.size wo wc W no nc nms (splitL 32 s, 0) := by
    refine ⟨?_, hsl3, hn3, ?_, ?_, by omega, by rw [hmb, hjn]; omega⟩
    · rw [hWl, Nat.sub_self, ← hWl]; exact hb7
    · rw [hWl, Nat.sub_self, hmb]; rfl
    · rw [hWl]; exact Nat.le_refl _
  have hE2 := hE.kept (hE02.grw none) (by simp)
  have hSn2 := hSn.low hE02
  have hE03 := hE02.trans e3
  have z03 : w0.heap.size ≤ w3.heap.size := hE03.size
  have hnm := ruleR_name (nms := nms) hrd
  (repeat (first | (apply WL.pure; rfl; rfl; rfl) | (apply WL.nil) | (apply EX.thenN) | (apply CW.seq) | (apply CW.region)))
  refine WL.call rfl rfl rfl (rrule_ok w2 w3 hrd rfl e3 (Nat.le_refl _) hE2 hSn2) ?_
  rintro _ w4 ⟨lo, lc, co, cc, rfl, hl4, hc4, hr4, g4⟩
  have z3 := e3.size
  have hlt := hrd.lt
  have hb44 := hb4.kept g4 (fun e => by have := Option.some.inj e; omega)
  have hE4 : Ext w0 w4 := hE03.grown g4 hE03.size (fun k e => by cases e; omega)
  clear hrd hsl3 hn3 hws e3
  generalize ruleR nms (splitL 32 s, 0) = rr at *
  obtain ⟨r, st⟩ := rr
  dsimp only at hl4 hc4 hr4 hnm ⊢
  skip
  refine WL.alloc rfl rfl (fun w5 hb8 e5 => ?_)
  refine WL.st rfl rfl rfl hb8 rfl rfl (ones_of rfl) (fun w6 hb8 hg6 => ?_)
  have hr6 := (hr4.ext e5).keep hg6 (fun x e => by have := Option.some.inj e; have := hr4.lt; omega)
  have hb46 := (hb44.ext e5).kept hg6 (fun e => by have := Option.some.inj e; have := hb44.lt; omega)
  have e46 : Ext w4 w6 := e5.grown hg6 e5.size (fun k e => by cases e; exact Nat.le_refl _)
  have hl6 : Sl w6 (fun c => w3.heap.size ≤ c ∧ c < w6.heap.size) lo lc r.2.2.2.2.1.kids := hl4.mono (fun c hc => e46.block c hc.2) (fun c hc => ⟨hc.1, Nat.lt_of_lt_of_le hc.2 e46.size⟩)
  have hc6 : Sl w6 (fun c => w3.heap.size ≤ c ∧ c < w6.heap.size) co cc r.2.2.2.2.2.kids := hc4.mono (fun c hc => e46.block c hc.2) (fun c hc => ⟨hc.1, Nat.lt_of_lt_of_le hc.2 e46.size⟩)
  have hE6 := hE4.trans e46
  have z4 := hE4.size
  have l8 : w3.heap.size ≤ w4.heap.size := g4.size
  have l84 : w4.heap.size < w6.heap.size := hb8.lt
  clear hb44 hl4 hc4 hr4 hb4 e5 hg6 e46
  generalize hb2e : w2.heap.size = b at *
  generalize hb8e : w4.heap.size = b8 at *
  have hbb8 : b < b8 := by omega
  apply WL.nil
  apply EX.thenN
  refine CW.cutI (S := Unit) (fun _ => [(1, .slice no nms.length nc), (4, .pointer (some ⟨w0.heap.size, 0, none⟩)), (7, .pointer (some ⟨b, 0, none⟩)), (8, .pointer (some ⟨b8, 0, none⟩))])
    (fun _ w => RRd w b wo wc W no nc nms (endW st) ∧ Blk w w0.heap.size 33 (rul0 ⟨#[]⟩ 0) ∧ Blk w b8 33 (cellsL (rulV r lo lc co cc)) ∧ Sl w (fun c => w3.heap.size ≤ c ∧ c < w.heap.size) lo lc r.2.2.2.2.1.kids ∧ Sl w (fun c => w3.heap.size ≤ c ∧ c < w.heap.size) co cc r.2.2.2.2.2.kids ∧ Ext w0 w) ?_ ?_
  · have hb7 := hr6.blk
    have hle := hr6.le
    have hD := Ext.drew w6
    have hb7 := hb7.ext hD
    have keepE : ∀ w, Ext w6 w → endW st = st → RRd w b wo wc W no nc nms (endW st) ∧ Blk w w0.heap.size 33 (rul0 ⟨#[]⟩ 0) ∧ Blk w b8 33 (cellsL (rulV r lo lc co cc)) ∧ Sl w (fun c => w3.heap.size ≤ c ∧ c < w.heap.size) lo lc r.2.2.2.2.1.kids ∧ Sl w (fun c => w3.heap.size ≤ c ∧ c < w.heap.size) co cc r.2.2.2.2.2.kids ∧ Ext w0 w := fun w e hend => by
      rw [hend]
      exact ⟨hr6.ext e, hb46.ext e, hb8.ext e, hl6.mono (fun c hc => e.block c hc.2) (fun c hc => ⟨hc.1, Nat.lt_of_lt_of_le hc.2 e.size⟩), hc6.mono (fun c hc => e.block c hc.2) (fun c hc => ⟨hc.1, Nat.lt_of_lt_of_le hc.2 e.size⟩), hE6.trans e⟩
    (repeat (first | (apply QL.pure; rfl; rfl; rfl) | (apply CW.seq) | (apply QL.fa; rfl; rfl; rfl) | (apply QL.nck; rfl; rfl; rfl) | (apply QL.ld; rfl; rfl; rfl; assumption; rfl) | (apply CW.draw; exact mixed; kernel_rfl)))
    cases he : (st.2 == 0) with
    | false =>
      have he : st.2 ≠ 0 := by simpa using he
      (repeat (first | (apply QL.pure; rfl; rfl; rfl) | (apply QL.pass; rfl; rfl)))
      refine QL.nil (fun w7 e7 => ?_)
      (repeat (first | (apply EX.thenN) | (apply CW.condF; rfl) | (apply CW.skip)))
      exact EX.cutI () (by repeat (first | exact trivial | refine ⟨rfl, ?_⟩)) (keepE w7 e7 (by unfold endW; rw [if_neg (fun h => he h.1)]))
    | true =>
    have he : st.2 = 0 := by simpa using he
    (repeat (first | (apply QL.pure; rfl; rfl; rfl) | (apply QL.lenS; rfl; rfl; rfl) | (apply QL.fa; rfl; rfl; rfl) | (apply QL.nck; rfl; rfl; rfl) | (apply QL.ld; rfl; rfl; rfl; assumption; rfl)))
    cases hl : decide (((W.length - st.1.length : Nat) : Int) < (W.length : Int)) with
    | false =>
      have hl : st.1 = [] := by
        have := of_decide_eq_false hl
        exact List.length_eq_zero_iff.1 (by omega)
      skip
      refine QL.nil (fun w7 e7 => ?_)
      (repeat (first | (apply EX.thenN) | (apply CW.condF; rfl) | (apply CW.skip)))
      exact EX.cutI () (by repeat (first | exact trivial | refine ⟨rfl, ?_⟩)) (keepE w7 e7 (by unfold endW; rw [if_neg (fun h => h.2 hl)]))
    | true =>
    have hl : st.1 ≠ [] := fun e => by
      have := of_decide_eq_true hl
      rw [e] at this
      simp at this
    skip
    refine QL.nil (fun w7 e7 => ?_)
    have hend : endW st = failW st 3 := by unfold endW; rw [if_pos ⟨he, hl⟩]
    (repeat (first | (apply WL.pure; rfl; rfl; rfl) | (apply EX.thenN) | (apply CW.region) | (apply CW.condT; rfl)))
    refine WL.call rfl rfl rfl (fail_ok w7 (hr6.ext e7) 3) ?_
    rintro _ w8 ⟨rfl, h8, g8⟩
    (repeat (apply WL.nil))
    refine EX.cutI () (by repeat (first | exact trivial | refine ⟨rfl, ?_⟩)) ?_
    rw [hend]
    have e67 := hE6.trans e7
    have z7 := e7.size
    refine ⟨h8, (hb46.ext e7).kept g8 (fun e => by have := Option.some.inj e; omega), (hb8.ext e7).kept g8 (fun e => by have := Option.some.inj e; omega), ?_, ?_, e67.grown g8 e67.size (fun k e => by cases e; omega)⟩
    · exact hl6.mono (fun c hc => (g8.block c (by have := hc.2; omega) (fun e => by have := Option.some.inj e; have := hc.1; omega)).trans (e7.block c hc.2)) (fun c hc => ⟨hc.1, by have := hc.2; have := g8.size; omega⟩)
    · exact hc6.mono (fun c hc => (g8.block c (by have := hc.2; omega) (fun e => by have := Option.some.inj e; have := hc.1; omega)).trans (e7.block c hc.2)) (fun c hc => ⟨hc.1, by have := hc.2; have := g8.size; omega⟩)
  clear hr6 hb46 hb8 hl6 hc6 hE6 l84
  generalize endW st = sE at *
  rintro _ w7 ⟨hr, hb4, hb8, hl, hc, hE7⟩
  have hb7 := hr.blk
  have hle := hr.le
  (repeat (first | (apply WL.pure; rfl; rfl; rfl) | (apply WL.nil) | (apply EX.thenN) | (apply CW.seq) | (apply CW.region) | (apply WL.fa; rfl; rfl; rfl) | (apply WL.nck; rfl; rfl; rfl) | (apply WL.ld; rfl; rfl; rfl; assumption; rfl)))
  refine CW.cond rfl (fun h => ?_) (fun h => ?_)
  · have h : sE.2 ≠ 0 := by simpa using h
    rw [if_pos h]
    have hD := Ext.drew w7
    have hb7 := hb7.ext hD
    have hb4 := hb4.ext hD
    have hX := hE7.trans hD
    have hKs : ∀ u, (fun z : World => z.heap[b]? = (drew w7).heap[b]?) u → u.heap[b]? = (drew w7).heap[b]? := fun u h => h
    (repeat (apply CW.seq))
    refine CW.drawH (fun z : World => z.heap[b]? = (drew w7).heap[b]?) [(0, true), (1, true), (2, true), (3, true), (4, true), (5, true), (6, true), (7, true), (8, true), (9, false), (10, true), (11, true)] mixed (by kernel_rfl) rfl ?_
    (repeat (first | (apply HL.pure; rfl; rfl; rfl; rfl) | (refine HL.fa rfl rfl rfl rfl ?_) | (apply HL.nck; rfl; rfl; rfl; rfl) | (refine HL.ldK (by assumption) rfl rfl rfl rfl (by assumption) rfl ?_) | (refine HL.build rfl rfl rfl rfl rfl ?_)))
    refine HL.mut rfl (WL.st rfl rfl rfl hb4 rfl rfl (ones_of rfl) (fun w8 hb9 hg8 => ?_))
    refine WL.nil (EX.mut (hg8.block _ hb7.lt (fun e => by have := Option.some.inj e; omega)) ?_)
    (repeat (first | (apply HL.pure; rfl; rfl; rfl; rfl) | (apply HL.nil)))
    (repeat (first | (apply EX.thenN) | (apply CW.ret) | (apply EX.thenR)))
    refine EX.retC3 rfl rfl rfl rfl hb9 rfl ⟨_, ?_, RF.zero _ _, hX.grown hg8 hX.size (fun g hg => by cases hg; exact Nat.le_refl _)⟩
    rw [← hWl]
    rfl
  have h : sE.2 = 0 := by simpa using h
  rw [if_neg (by simpa using h)]
  (repeat (first | (apply WL.pure; rfl; rfl; rfl) | (apply EX.thenN) | (apply CW.seq) | (apply CW.region) | (apply WL.ldA; rfl; rfl; rfl; assumption; rfl) | (apply CW.skip)))
  refine WL.call rfl rfl rfl (rcheck_ok w7 (r := r) (hl.mono (fun _ _ => rfl) (fun c hc => hc.2)) (hc.mono (fun _ _ => rfl) (fun c hc => hc.2)) (hn.up hE7)) ?_
  rintro _ w8 ⟨rfl, e8⟩
  have hb4 := hb4.ext e8
  have hb8 := hb8.ext e8
  have hE8 := hE7.trans e8
  (repeat (first | (apply WL.pure; rfl; rfl; rfl) | (apply WL.nil) | (apply EX.thenN) | (apply CW.seq) | (apply CW.region)))
  refine CW.cond rfl (fun h => ?_) (fun h => ?_)
  · have h : chkRl r nms ≠ 0 := by simpa using h
    rw [if_pos h]
    (repeat (first | (apply CW.seq) | (apply CW.region)))
    refine WL.build (parts := []) rfl rfl rfl rfl ?_
    (repeat (apply WL.pure; rfl; rfl; rfl))
    refine WL.st rfl rfl rfl hb4 rfl rfl (ones_of rfl) (fun w9 hb9 hg9 => ?_)
    (repeat (first | (apply WL.pure; rfl; rfl; rfl) | (apply WL.nil) | (apply EX.thenN) | (apply CW.ret) | (apply EX.thenR)))
    exact EX.retC3 rfl rfl rfl rfl hb9 rfl ⟨_, rfl, RF.zero _ _, hE8.grown hg9 hE8.size (fun g hg => by cases hg; exact Nat.le_refl _)⟩
  · have h : chkRl r nms = 0 := by simpa using h
    rw [if_neg (by simpa using h)]
    (repeat (first | (apply EX.thenN) | (apply CW.seq) | (apply CW.region) | (apply WL.ldA; rfl; rfl; rfl; assumption; rfl) | (apply CW.skip)))
    refine WL.st rfl rfl rfl hb4 rfl rfl (ones_of rfl) (fun w9 hb9 hg9 => ?_)
    (repeat (first | (apply WL.pure; rfl; rfl; rfl) | (apply WL.nil) | (apply EX.thenN) | (apply CW.ret)))
    have z8 := e8.size
    refine EX.retC3 rfl rfl rfl rfl hb9 rfl ⟨_, rfl, ⟨lo, lc, co, cc, rfl, ?_, ?_, hnm⟩, hE8.grown hg9 hE8.size (fun g hg => by cases hg; exact Nat.le_refl _)⟩
    · exact hl.mono (fun c hc => (hg9.block c (by have := hc.2; omega) (fun e => by have := Option.some.inj e; have := hc.1; omega)).trans (e8.block c hc.2)) (fun c hc => ⟨by have := hc.1; omega, by have := hc.2; have := hg9.size; omega⟩)
    · exact hc.mono (fun c hc => (hg9.block c (by have := hc.2; omega) (fun e => by have := Option.some.inj e; have := hc.1; omega)).trans (e8.block c hc.2)) (fun c hc => ⟨by have := hc.1; omega, by have := hc.2; have := hg9.size; omega⟩)
end Go.Proofs.YtikigaeihdmcaaaGreatDoor

/-
  Package push walked, second part: Same, SameLtl, Size.
-/
set_option linter.unusedVariables false
set_option linter.unusedSimpArgs false
namespace Go.Proofs.YtikigaeihdmcaaaGreatDoor
open Go.RowKit

theorem sameLtl : ∀ (m : Nat) (a b : Ltl), a.nodes ≤ m → ∀ (w : World) (F : Nat → Prop) (ao bo : Option Addr) (ac bc : Nat), Sl w F ao ac a.kids → Sl w F bo bc b.kids → (∀ b, F b → b < w.heap.size) →
    Rt Tryz.prog 29 [ltlV a.k a.n ao a.kids.length ac, ltlV b.k b.n bo b.kids.length bc].toArray w fun v w' => v = .bool (sameB a b) ∧ Ext w w' := by
  intro m
  induction m with
  | zero => intro a b h; have := a.nodes_pos; omega
  | succ m ih =>
    rintro ⟨k, n, xs⟩ ⟨k', n', ys⟩ hm w F ao bo ac bc ha hb hF
    simp only [Ltl.k, Ltl.n, Ltl.kids, Ltl.nodes] at *
    have hxl := ha.len63
    refine Rt.enter2 Tryz.func29 Tryz.ntmps29 rfl rfl ?_
    (repeat (first | (apply CW.seq) | (apply CW.region)))
    refine WL.boxB rfl rfl rfl fun w1 hf hE1 => ?_
    skip
    refine WL.boxB rfl rfl rfl fun w2 hg hE2 => ?_
    have hf := hf.ext hE2
    have hE2 := hE1.trans hE2
    have hS : sameB (.mk k n xs) (.mk k' n' ys) = (k == k' && n == n' && sameBs xs ys) := by simp [sameB]
    rw [hS]
    (repeat (first | (apply WL.pure; rfl; rfl; rfl) | (apply WL.nil) | (apply EX.thenN) | (apply CW.seq) | (apply CW.region) | (apply WL.fa; rfl; rfl; rfl) | (apply WL.ld; rfl; rfl; rfl; assumption; rfl)))
    cases h1 : (k != k') with
    | true =>
      (repeat (first | (apply WL.pure; rfl; rfl; rfl) | (apply WL.nil) | (apply EX.thenN) | (apply CW.seq) | (apply CW.region) | (apply WL.pass; rfl; rfl) | (apply CW.condT; rfl) | (apply CW.ret) | (apply EX.thenR)))
      refine EX.ret1 rfl rfl ⟨?_, hE2⟩
      simp at h1; simp [h1]
    | false =>
    have h1 : k = k' := by simpa using h1
    (repeat (first | (apply WL.pure; rfl; rfl; rfl) | (apply WL.fa; rfl; rfl; rfl) | (apply WL.ld; rfl; rfl; rfl; assumption; rfl)))
    cases h2 : (n != n') with
    | true =>
      (repeat (first | (apply WL.pure; rfl; rfl; rfl) | (apply WL.nil) | (apply EX.thenN) | (apply CW.seq) | (apply CW.region) | (apply WL.pass; rfl; rfl) | (apply CW.condT; rfl) | (apply CW.ret) | (apply EX.thenR)))
      refine EX.ret1 rfl rfl ⟨?_, hE2⟩
      simp at h2; simp [h2]
    | false =>
    have h2 : n = n' := by simpa using h2
    (repeat (first | (apply WL.pure; rfl; rfl; rfl) | (apply WL.nil) | (apply EX.thenN) | (apply WL.lenS; rfl; rfl; rfl) | (apply WL.fa; rfl; rfl; rfl) | (apply WL.ld; rfl; rfl; rfl; assumption; rfl)))
    cases h3 : ((xs.length : Int) != (ys.length : Int)) with
    | true =>
      (repeat (first | (apply WL.pure; rfl; rfl; rfl) | (apply WL.nil) | (apply EX.thenN) | (apply CW.seq) | (apply CW.region) | (apply CW.condT; rfl) | (apply CW.ret) | (apply EX.thenR)))
      refine EX.ret1 rfl rfl ⟨?_, hE2⟩
      have h3 : xs.length ≠ ys.length := by simp at h3; omega
      have : sameBs xs ys = false := by
        rw [Bool.eq_false_iff, Ne, sameBs_iff]
        exact fun e => h3 (by rw [e])
      rw [this]; simp
    | false =>
    have h3 : xs.length = ys.length := by simp at h3; omega
    (repeat (first | (apply WL.pure; rfl; rfl; rfl) | (apply WL.nil) | (apply EX.thenN) | (apply CW.seq) | (apply CW.region) | (apply CW.block) | (apply CW.condF; rfl) | (apply CW.skip)))
    refine CW.loop (S := Nat) (fun i => [(2, .pointer (some ⟨w.heap.size, 0, none⟩)), (3, .pointer (some ⟨w1.heap.size, 0, none⟩)), (5, .int .i64 i)])
      (fun i w' => i ≤ xs.length ∧ Ext w2 w' ∧ ∀ j (h : j < xs.length) (h' : j < ys.length), j < i → sameB xs[j] ys[j] = true) (fun i => xs.length - i) 0 (by repeat (first | exact trivial | refine ⟨rfl, ?_⟩)) ⟨by omega, Ext.refl _, by omega⟩ ?_
    rintro i w3 ⟨hi, hE3, hall⟩
    have hf3 := hf.ext hE3
    have hg3 := hg.ext hE3
    have hE3' := hE2.trans hE3
    (repeat (first | (apply WL.pure; rfl; rfl; rfl) | (apply WL.nil) | (apply EX.thenN) | (apply CW.seq) | (apply CW.region) | (apply WL.lenS; rfl; rfl; rfl) | (apply WL.fa; rfl; rfl; rfl) | (apply WL.ld; rfl; rfl; rfl; assumption; rfl)))
    refine CW.cond rfl (fun h => ?_) (fun h => ?_)
    · have h : i < xs.length := by simpa using h
      have h' : i < ys.length := by omega
      (repeat (first | (apply QL.pure; rfl; rfl; rfl) | (apply EX.thenN) | (apply CW.seq) | (apply QL.fa; rfl; rfl; rfl) | (apply QL.ld; rfl; rfl; rfl; assumption; rfl) | (apply CW.block) | (apply CW.skip) | (apply CW.draw; exact mixed; kernel_rfl)))
      refine QL.elemN rfl rfl rfl rfl rfl (fun b hb => Nat.lt_of_lt_of_le (hF b hb) hE3'.size) (ha.up0 hE3' hF) h (fun _ => rfl) (fun u q hu => ?_)
      (repeat (first | (apply QL.pure; rfl; rfl; rfl) | (apply QL.fa; rfl; rfl; rfl) | (apply QL.ld; rfl; rfl; rfl; assumption; rfl)))
      refine QL.elemN rfl rfl rfl rfl rfl (fun b hb => Nat.lt_of_lt_of_le (hF b hb) hE3'.size) (hb.up0 hE3' hF) h' (fun _ => rfl) (fun u' q' hu' => ?_)
      obtain ⟨uo, uc, rfl, hku⟩ := Rd.ltl hu
      obtain ⟨uo', uc', rfl, hku'⟩ := Rd.ltl hu'
      have hF3 : ∀ b, F b → b < w3.heap.size := fun b hb => Nat.lt_of_lt_of_le (hF b hb) hE3'.size
      have hnode : (xs[i]).nodes ≤ m := by have := Ltl.nodes_kid xs xs[i] (List.getElem_mem h); omega
      refine QL.call (v := .bool (sameB xs[i] ys[i])) rfl rfl rfl (fun w4 e4 => ih xs[i] ys[i] hnode w4 F uo uo' uc uc' (hku.up0 e4 hF3) (hku'.up0 e4 hF3) (fun b hb => Nat.lt_of_lt_of_le (hF3 b hb) e4.size)) ?_
      (repeat (apply QL.pure; rfl; rfl; rfl))
      refine QL.nil (fun w4 e4 => ?_)
      cases hs : sameB xs[i] ys[i] with
      | true =>
        (repeat (first | (apply WL.add; rfl; rfl; rfl; rfl; omega; omega) | (apply WL.pure; rfl; rfl; rfl) | (apply WL.nil) | (apply EX.thenN) | (apply CW.region) | (apply EX.inN) | (apply CW.condF; rfl) | (apply CW.skip)))
        refine EX.back (i + 1) (by repeat (first | exact trivial | refine ⟨rfl, ?_⟩)) ⟨h, hE3.trans e4, fun j hj hj' hlt => ?_⟩ (by omega)
        by_cases e : j = i
        · subst e; exact hs
        · exact hall j hj hj' (by omega)
      | false =>
        (repeat (first | (apply WL.pure; rfl; rfl; rfl) | (apply WL.nil) | (apply EX.thenN) | (apply CW.seq) | (apply CW.region) | (apply CW.condT; rfl) | (apply CW.ret) | (apply EX.thenR) | (apply EX.inR)))
        refine EX.ret1 rfl rfl ⟨?_, hE3'.trans e4⟩
        have : sameBs xs ys = false := by
          rw [Bool.eq_false_iff, Ne, sameBs_iff]
          intro e
          subst e
          rw [sameB_self] at hs
          cases hs
        rw [this]; simp
    · have h : ¬ i < xs.length := by simpa using h
      (repeat (first | (apply WL.pure; rfl; rfl; rfl) | (apply WL.nil) | (apply EX.thenN) | (apply CW.seq) | (apply CW.region) | (apply CW.exit) | (apply EX.thenX) | (apply EX.inX) | (apply CW.ret)))
      refine EX.ret1 rfl rfl ⟨?_, hE3'⟩
      have : sameBs xs ys = true := by
        rw [sameBs_iff]
        exact List.ext_getElem h3 (fun j hj hj' => (sameB_iff _ _).1 (hall j hj hj' (by omega)))
      rw [this]; simp [h1, h2]
end Go.Proofs.YtikigaeihdmcaaaGreatDoor

/-
  SameCtl, walked.
-/
set_option linter.unusedVariables false
set_option linter.unusedSimpArgs false
namespace Go.Proofs.YtikigaeihdmcaaaGreatDoor
open Go.RowKit

instance iSameC1 : IsF Tryz.prog 30 := ⟨_, Tryz.func30, rfl, by decide⟩
theorem sameCtl : ∀ (m : Nat) (a b : Ltl), a.nodes ≤ m → ∀ (w : World) (F : Nat → Prop) (ao bo : Option Addr) (ac bc : Nat), Sl w F ao ac a.kids → Sl w F bo bc b.kids → (∀ b, F b → b < w.heap.size) →
    Rt Tryz.prog 30 [ltlV a.k a.n ao a.kids.length ac, ltlV b.k b.n bo b.kids.length bc].toArray w fun v w' => v = .bool (sameB a b) ∧ Ext w w' := by
  intro m
  induction m with
  | zero => intro a b h; have := a.nodes_pos; omega
  | succ m ih =>
    rintro ⟨k, n, xs⟩ ⟨k', n', ys⟩ hm w F ao bo ac bc ha hb hF
    simp only [Ltl.k, Ltl.n, Ltl.kids, Ltl.nodes] at *
    have hxl := ha.len63
    refine Rt.enter2 Tryz.func30 Tryz.ntmps30 rfl rfl ?_
    (repeat (first | (apply CW.seq) | (apply CW.region)))
    refine WL.boxB rfl rfl rfl fun w1 hf hE1 => ?_
    skip
    refine WL.boxB rfl rfl rfl fun w2 hg hE2 => ?_
    have hf := hf.ext hE2
    have hE2 := hE1.trans hE2
    have hS : sameB (.mk k n xs) (.mk k' n' ys) = (k == k' && n == n' && sameBs xs ys) := by simp [sameB]
    rw [hS]
    (repeat (first | (apply WL.pure; rfl; rfl; rfl) | (apply WL.nil) | (apply EX.thenN) | (apply CW.seq) | (apply CW.region) | (apply WL.fa; rfl; rfl; rfl) | (apply WL.ld; rfl; rfl; rfl; assumption; rfl)))
    cases h1 : (k != k') with
    | true =>
      (repeat (first | (apply WL.pure; rfl; rfl; rfl) | (apply WL.nil) | (apply EX.thenN) | (apply CW.seq) | (apply CW.region) | (apply WL.pass; rfl; rfl) | (apply CW.condT; rfl) | (apply CW.ret) | (apply EX.thenR)))
      refine EX.ret1 rfl rfl ⟨?_, hE2⟩
      simp at h1; simp [h1]
    | false =>
    have h1 : k = k' := by simpa using h1
    (repeat (first | (apply WL.pure; rfl; rfl; rfl) | (apply WL.fa; rfl; rfl; rfl) | (apply WL.ld; rfl; rfl; rfl; assumption; rfl)))
    cases h2 : (n != n') with
    | true =>
      (repeat (first | (apply WL.pure; rfl; rfl; rfl) | (apply WL.nil) | (apply EX.thenN) | (apply CW.seq) | (apply CW.region) | (apply WL.pass; rfl; rfl) | (apply CW.condT; rfl) | (apply CW.ret) | (apply EX.thenR)))
      refine EX.ret1 rfl rfl ⟨?_, hE2⟩
      simp at h2; simp [h2]
    | false =>
    have h2 : n = n' := by simpa using h2
    (repeat (first | (apply WL.pure; rfl; rfl; rfl) | (apply WL.nil) | (apply EX.thenN) | (apply WL.lenS; rfl; rfl; rfl) | (apply WL.fa; rfl; rfl; rfl) | (apply WL.ld; rfl; rfl; rfl; assumption; rfl)))
    cases h3 : ((xs.length : Int) != (ys.length : Int)) with
    | true =>
      (repeat (first | (apply WL.pure; rfl; rfl; rfl) | (apply WL.nil) | (apply EX.thenN) | (apply CW.seq) | (apply CW.region) | (apply CW.condT; rfl) | (apply CW.ret) | (apply EX.thenR)))
      refine EX.ret1 rfl rfl ⟨?_, hE2⟩
      have h3 : xs.length ≠ ys.length := by simp at h3; omega
      have : sameBs xs ys = false := by
        rw [Bool.eq_false_iff, Ne, sameBs_iff]
        exact fun e => h3 (by rw [e])
      rw [this]; simp
    | false =>
    have h3 : xs.length = ys.length := by simp at h3; omega
    (repeat (first | (apply WL.pure; rfl; rfl; rfl) | (apply WL.nil) | (apply EX.thenN) | (apply CW.seq) | (apply CW.region) | (apply CW.block) | (apply CW.condF; rfl) | (apply CW.skip)))
    refine CW.loop (S := Nat) (fun i => [(2, .pointer (some ⟨w.heap.size, 0, none⟩)), (3, .pointer (some ⟨w1.heap.size, 0, none⟩)), (5, .int .i64 i)])
      (fun i w' => i ≤ xs.length ∧ Ext w2 w' ∧ ∀ j (h : j < xs.length) (h' : j < ys.length), j < i → sameB xs[j] ys[j] = true) (fun i => xs.length - i) 0 (by repeat (first | exact trivial | refine ⟨rfl, ?_⟩)) ⟨by omega, Ext.refl _, by omega⟩ ?_
    rintro i w3 ⟨hi, hE3, hall⟩
    have hf3 := hf.ext hE3
    have hg3 := hg.ext hE3
    have hE3' := hE2.trans hE3
    (repeat (first | (apply WL.pure; rfl; rfl; rfl) | (apply WL.nil) | (apply EX.thenN) | (apply CW.seq) | (apply CW.region) | (apply WL.lenS; rfl; rfl; rfl) | (apply WL.fa; rfl; rfl; rfl) | (apply WL.ld; rfl; rfl; rfl; assumption; rfl)))
    refine CW.cond rfl (fun h => ?_) (fun h => ?_)
    · have h : i < xs.length := by simpa using h
      have h' : i < ys.length := by omega
      (repeat (first | (apply QL.pure; rfl; rfl; rfl) | (apply EX.thenN) | (apply CW.seq) | (apply QL.fa; rfl; rfl; rfl) | (apply QL.ld; rfl; rfl; rfl; assumption; rfl) | (apply CW.block) | (apply CW.skip) | (apply CW.draw; exact mixed; kernel_rfl)))
      refine QL.elemN rfl rfl rfl rfl rfl (fun b hb => Nat.lt_of_lt_of_le (hF b hb) hE3'.size) (ha.up0 hE3' hF) h (fun _ => rfl) (fun u q hu => ?_)
      (repeat (first | (apply QL.pure; rfl; rfl; rfl) | (apply QL.fa; rfl; rfl; rfl) | (apply QL.ld; rfl; rfl; rfl; assumption; rfl)))
      refine QL.elemN rfl rfl rfl rfl rfl (fun b hb => Nat.lt_of_lt_of_le (hF b hb) hE3'.size) (hb.up0 hE3' hF) h' (fun _ => rfl) (fun u' q' hu' => ?_)
      obtain ⟨uo, uc, rfl, hku⟩ := Rd.ltl hu
      obtain ⟨uo', uc', rfl, hku'⟩ := Rd.ltl hu'
      have hF3 : ∀ b, F b → b < w3.heap.size := fun b hb => Nat.lt_of_lt_of_le (hF b hb) hE3'.size
      have hnode : (xs[i]).nodes ≤ m := by have := Ltl.nodes_kid xs xs[i] (List.getElem_mem h); omega
      refine QL.call (v := .bool (sameB xs[i] ys[i])) rfl rfl rfl (fun w4 e4 => ih xs[i] ys[i] hnode w4 F uo uo' uc uc' (hku.up0 e4 hF3) (hku'.up0 e4 hF3) (fun b hb => Nat.lt_of_lt_of_le (hF3 b hb) e4.size)) ?_
      (repeat (apply QL.pure; rfl; rfl; rfl))
      refine QL.nil (fun w4 e4 => ?_)
      cases hs : sameB xs[i] ys[i] with
      | true =>
        (repeat (first | (apply WL.add; rfl; rfl; rfl; rfl; omega; omega) | (apply WL.pure; rfl; rfl; rfl) | (apply WL.nil) | (apply EX.thenN) | (apply CW.region) | (apply EX.inN) | (apply CW.condF; rfl) | (apply CW.skip)))
        refine EX.back (i + 1) (by repeat (first | exact trivial | refine ⟨rfl, ?_⟩)) ⟨h, hE3.trans e4, fun j hj hj' hlt => ?_⟩ (by omega)
        by_cases e : j = i
        · subst e; exact hs
        · exact hall j hj hj' (by omega)
      | false =>
        (repeat (first | (apply WL.pure; rfl; rfl; rfl) | (apply WL.nil) | (apply EX.thenN) | (apply CW.seq) | (apply CW.region) | (apply CW.condT; rfl) | (apply CW.ret) | (apply EX.thenR) | (apply EX.inR)))
        refine EX.ret1 rfl rfl ⟨?_, hE3'.trans e4⟩
        have : sameBs xs ys = false := by
          rw [Bool.eq_false_iff, Ne, sameBs_iff]
          intro e
          subst e
          rw [sameB_self] at hs
          cases hs
        rw [this]; simp
    · have h : ¬ i < xs.length := by simpa using h
      (repeat (first | (apply WL.pure; rfl; rfl; rfl) | (apply WL.nil) | (apply EX.thenN) | (apply CW.seq) | (apply CW.region) | (apply CW.exit) | (apply EX.thenX) | (apply EX.inX) | (apply CW.ret)))
      refine EX.ret1 rfl rfl ⟨?_, hE3'⟩
      have : sameBs xs ys = true := by
        rw [sameBs_iff]
        exact List.ext_getElem h3 (fun j hj hj' => (sameB_iff _ _).1 (hall j hj hj' (by omega)))
      rw [this]; simp [h1, h2]
end Go.Proofs.YtikigaeihdmcaaaGreatDoor

/-
  SameRule at one rule told twice: walked.
-/
set_option linter.unusedVariables false
set_option linter.unusedSimpArgs false
namespace Go.Proofs.YtikigaeihdmcaaaGreatDoor
open Go.RowKit

instance iRtw1 : IsF Tryz.prog 9 := ⟨_, Tryz.func9, rfl, by decide⟩
theorem equalIn_patS (x : LPat) (w : World) : (Op.equalIn 10000 23 (patV x) (patV x)).run Tryz.prog w = .ok true w := by
  have u3 := Tryz.underlying3
  have a3 := Tryz.isAgg3
  have z3 := Tryz.sizeOf3
  have hS : Tryz.prog.underlying 23 = some (.struct (Tryz.prog.fieldsOf 23)) := by kernel_rfl
  have hp : Tryz.prog.stoodInHeld 23 = false := by kernel_rfl
  obtain ⟨a, b, c, d, e, f, g⟩ := x
  simp only [patV]
  rw [show (10000 : Nat) = 9999 + 1 from rfl, run_equalIn_agg w 9999 23 _ _ hS hp]
  simp only [Program.fieldsOf, Tryz.underlying23]
  go_simp
theorem equalIn_tplS (x : LTpl) (w : World) : (Op.equalIn 10000 25 (tplV x) (tplV x)).run Tryz.prog w = .ok true w := by
  have u3 := Tryz.underlying3
  have a3 := Tryz.isAgg3
  have z3 := Tryz.sizeOf3
  have hS : Tryz.prog.underlying 25 = some (.struct (Tryz.prog.fieldsOf 25)) := by kernel_rfl
  have hp : Tryz.prog.stoodInHeld 25 = false := by kernel_rfl
  obtain ⟨a, b, c, d⟩ := x
  simp only [tplV]
  rw [show (10000 : Nat) = 9999 + 1 from rfl, run_equalIn_agg w 9999 25 _ _ hS hp]
  simp only [Program.fieldsOf, Tryz.underlying25]
  go_simp
theorem run_eqPatS (x : LPat) (p q : Operand) (w : World) : ((do eqGuard .eql 23 p q (patV x) (patV x); binOp .eql 23 (patV x) (patV x) : Sem Value)).run Tryz.prog w = .ok (.bool true) w := by
  have hm : Tryz.prog.eqGuardType Tryz.prog.depth 23 = false := by kernel_rfl
  rw [Sem.run_bind]
  have hg : (eqGuard .eql 23 p q (patV x) (patV x)).run Tryz.prog w = .ok () w := run_eqGuard_agg w .eql 23 p q _ _ hm
  have h := equalIn_patS x w
  rw [hg, Result.andThen_ok]
  unfold patV at h ⊢
  rw [run_eql_struct, h]; rfl
theorem run_eqTplS (x : LTpl) (p q : Operand) (w : World) : ((do eqGuard .eql 25 p q (tplV x) (tplV x); binOp .eql 25 (tplV x) (tplV x) : Sem Value)).run Tryz.prog w = .ok (.bool true) w := by
  have hm : Tryz.prog.eqGuardType Tryz.prog.depth 25 = false := by kernel_rfl
  rw [Sem.run_bind]
  have hg : (eqGuard .eql 25 p q (tplV x) (tplV x)).run Tryz.prog w = .ok () w := run_eqGuard_agg w .eql 25 p q _ _ hm
  have h := equalIn_tplS x w
  rw [hg, Result.andThen_ok]
  unfold tplV at h ⊢
  rw [run_eql_struct, h]; rfl
theorem sameRule_ok (w0 : World) {r : LRule} {lo co lo' co' : Option Addr} {lc cc lc' cc' : Nat} (hl : Sl w0 (Old w0) lo lc r.2.2.2.2.1.kids) (hc : Sl w0 (Old w0) co cc r.2.2.2.2.2.kids) (hl' : Sl w0 (Old w0) lo' lc' r.2.2.2.2.1.kids) (hc' : Sl w0 (Old w0) co' cc' r.2.2.2.2.2.kids) :
    Rt Tryz.prog 9 [rulV r lo lc co cc, rulV r lo' lc' co' cc'].toArray w0 fun v w' => v = .bool true ∧ Ext w0 w' := by
  refine Rt.enter2 Tryz.func9 Tryz.ntmps9 rfl rfl ?_
  obtain ⟨nm, so, pt, tp, lt, ct⟩ := r
  dsimp only at hl hc hl' hc'
  unfold rulV
  dsimp only
  (repeat (first | (apply CW.seq) | (apply CW.region)))
  refine WL.boxB rfl rfl rfl fun w1 hb2 e1 => ?_
  skip
  refine WL.boxB rfl rfl rfl fun w2 hb3 e2 => ?_
  have hb2 := hb2.ext e2
  have hE := e1.trans e2
  (repeat (first | (apply WL.pure; rfl; rfl; rfl) | (apply WL.nil) | (apply EX.thenN) | (apply CW.seq) | (apply CW.region) | (apply WL.fa; rfl; rfl; rfl) | (apply WL.ld; rfl; rfl; rfl; assumption; rfl)))
  rw [show (nm.data.toList == nm.data.toList) = true from beq_self_eq_true _]
  (repeat (first | (apply WL.pure; rfl; rfl; rfl) | (apply WL.fa; rfl; rfl; rfl) | (apply WL.ld; rfl; rfl; rfl; assumption; rfl)))
  rw [show (so == so) = true from beq_self_eq_true _]
  (repeat (first | (apply WL.fa; rfl; rfl; rfl) | (apply WL.ldA; rfl; rfl; rfl; assumption; rfl)))
  refine WL.bin (a := patV pt) (b := patV pt) (r := .bool true) rfl rfl rfl rfl (run_eqPatS pt _ _ _) ?_
  (repeat (first | (apply WL.pure; rfl; rfl; rfl) | (apply WL.fa; rfl; rfl; rfl) | (apply WL.ldA; rfl; rfl; rfl; assumption; rfl)))
  refine WL.bin (a := tplV tp) (b := tplV tp) (r := .bool true) rfl rfl rfl rfl (run_eqTplS tp _ _ _) ?_
  (repeat (first | (apply WL.pure; rfl; rfl; rfl) | (apply WL.fa; rfl; rfl; rfl) | (apply WL.ldA; rfl; rfl; rfl; assumption; rfl)))
  refine WL.call rfl rfl rfl (sameLtl lt.nodes lt lt (Nat.le_refl _) w2 (Old w2) lo lo' lc lc' (hl.up hE) (hl'.up hE) (fun b hb => hb)) ?_
  rintro _ w3 ⟨rfl, e3⟩
  have hb2 := hb2.ext e3
  have hb3 := hb3.ext e3
  have hE3 := hE.trans e3
  rw [sameB_self]
  (repeat (first | (apply WL.pure; rfl; rfl; rfl) | (apply WL.fa; rfl; rfl; rfl) | (apply WL.ldA; rfl; rfl; rfl; assumption; rfl)))
  refine WL.call rfl rfl rfl (sameCtl ct.nodes ct ct (Nat.le_refl _) w3 (Old w3) co co' cc cc' (hc.up hE3) (hc'.up hE3) (fun b hb => hb)) ?_
  rintro _ w4 ⟨rfl, e4⟩
  rw [sameB_self]
  (repeat (first | (apply WL.pure; rfl; rfl; rfl) | (apply WL.nil) | (apply EX.thenN) | (apply CW.ret)))
  exact EX.ret1 rfl rfl ⟨rfl, hE3.trans e4⟩
end Go.Proofs.YtikigaeihdmcaaaGreatDoor

/-
  From the form's readings of the arguments to our own, and back: what a law's proof needs at its two ends.
-/
set_option linter.unusedVariables false
set_option linter.unusedSimpArgs false
namespace Go.Proofs.YtikigaeihdmcaaaGreatDoor
open Go.RowKit Go.ChangeShapes Go.WideShapes Go.ChangeAt

theorem bulk_one {H : Type} (d : DataW H) : 1 ≤ Rows.uptoBulk d := by
  cases d with
  | lit l => cases l <;> simp [Rows.uptoBulk]
  | nil => simp [Rows.uptoBulk]
  | ptr d => simp [Rows.uptoBulk]
  | slice elems spare => simp [Rows.uptoBulk]
  | agg parts => simp [Rows.uptoBulk]
  | iface t d => simp [Rows.uptoBulk]
  | map entries => simp [Rows.uptoBulk]
  | held h => simp [Rows.uptoBulk]
theorem bulk_app {H : Type} (l r : List (DataW H)) : Rows.uptoBulkAll (l ++ r) = Rows.uptoBulkAll l + Rows.uptoBulkAll r := by
  induction l with
  | nil => simp [Rows.uptoBulkAll]
  | cons x l ih => simp only [List.cons_append, Rows.uptoBulkAll, ih]; omega

/-- the bound, as the form hands it over -/
theorem bound {H : Type} {l : List (DataW H)} (hk : Rows.uptoSmall H l = true) : Rows.uptoBulkAll l ≤ 1048576 := by
  simpa [Rows.uptoSmall] using hk
/-- how many values a value of ours holds -/
class Bk (α : Type) where
  bk : α → Nat
abbrev bk {α : Type} [Bk α] : α → Nat := Bk.bk
instance iOpen1 : Bk Int := ⟨fun _ => 1⟩
instance iOpen2 : Bk Bool := ⟨fun _ => 1⟩
instance iOpen3 : Bk Nat := ⟨fun _ => 1⟩
instance iOpen4 : Bk ByteArray := ⟨fun s => s.size + 1⟩
def bkL {α : Type} [Bk α] : List α → Nat
  | [] => 0
  | x :: r => bk x + bkL r
instance iOpen8 {α : Type} [Bk α] : Bk (List α) := ⟨fun l => bkL l + 1⟩

/-- what the form reads at a type, we read, too -/
class Opn (P : Program) (t : TypeId) (α : Type) [Rep α] [Bk α] : Prop where
  op : ∀ {H : Type} {enc : TypeId × Value → H} {w : World} {fuel : Nat} {cs : List Value} {d : DataW H} {ps : List MemPlace}, DataW.trod enc P w 0 (fun _ => true) true fuel t cs = some (d, ps) → ∃ x : α, rd w (Old w) cs x ∧ bk x ≤ Rows.uptoBulk d

theorem Opn.int {P : Program} {t : TypeId} (h : P.underlying t = some (.int .i64)) : Opn P t Int where
  op := by
    intro H enc w fuel cs d ps hd
    cases fuel with
    | zero => simp [DataW.trod] at hd
    | succ fuel =>
      unfold DataW.trod at hd
      rw [h] at hd
      split at hd <;> try (simp at *; done)
      rename_i k k' n e1
      simp at e1
      split at hd
      · rename_i hk
        simp at hd
        obtain ⟨rfl, rfl⟩ := hd
        exact ⟨n, by rw [hk.1, ← e1]; rfl, bulk_one _⟩
      · cases hd
theorem Opn.bool {P : Program} {t : TypeId} (h : P.underlying t = some .bool) : Opn P t Bool where
  op := by
    intro H enc w fuel cs d ps hd
    cases fuel with
    | zero => simp [DataW.trod] at hd
    | succ fuel =>
      unfold DataW.trod at hd
      rw [h] at hd
      split at hd <;> try (simp at *; done)
      rename_i b e1
      simp at hd
      obtain ⟨rfl, rfl⟩ := hd
      exact ⟨b, rfl, bulk_one _⟩
theorem Opn.u64 {P : Program} {t : TypeId} (h : P.underlying t = some (.int .u64)) : Opn P t Nat where
  op := by
    intro H enc w fuel cs d ps hd
    cases fuel with
    | zero => simp [DataW.trod] at hd
    | succ fuel =>
      unfold DataW.trod at hd
      rw [h] at hd
      split at hd <;> try (simp at *; done)
      rename_i k k' n e1
      simp at e1
      split at hd
      · rename_i hk
        simp at hd
        obtain ⟨rfl, rfl⟩ := hd
        have hwf := hk.2
        rw [← e1] at hwf
        have hb : 0 ≤ n ∧ n ≤ 18446744073709551615 := by simpa [Lit.wf, IntKind.min, IntKind.max, IntKind.signed, IntKind.bits] using hwf
        refine ⟨n.toNat, ⟨?_, by omega⟩, bulk_one _⟩
        rw [hk.1, ← e1, Int.toNat_of_nonneg hb.1]
      · cases hd
theorem Opn.string {P : Program} {t : TypeId} (h : P.underlying t = some .string) : Opn P t ByteArray where
  op := by
    intro H enc w fuel cs d ps hd
    cases fuel with
    | zero => simp [DataW.trod] at hd
    | succ fuel =>
      unfold DataW.trod at hd
      rw [h] at hd
      split at hd <;> try (simp at *; done)
      rename_i s e1
      split at hd
      · rename_i hk
        simp at hd
        obtain ⟨rfl, rfl⟩ := hd
        refine ⟨s, ⟨rfl, hk⟩, ?_⟩
        show s.size + 1 ≤ _
        simp only [Rows.uptoBulk]
        have e : s.data.toList.length = s.size := by rw [Array.length_toList]; rfl
        omega
      · cases hd

theorem mapM_range {β : Type} (f : Nat → Option β) : ∀ (n : Nat) (es : List β), (List.range n).mapM f = some es → es.length = n ∧ ∀ i (h : i < es.length), f i = some es[i]
  | 0, es, h => by
    simp at h; subst h
    exact ⟨rfl, fun i hi => absurd hi (by simp)⟩
  | n + 1, es, h => by
    rw [List.range_succ, List.mapM_append] at h
    simp only [List.mapM_cons, List.mapM_nil, Option.bind_eq_bind, Option.pure_def] at h
    cases h1 : (List.range n).mapM f with
    | none => rw [h1] at h; cases h
    | some l =>
      rw [h1] at h
      cases h2 : f n with
      | none => rw [h2] at h; cases h
      | some y =>
        rw [h2] at h
        simp at h
        subst h
        obtain ⟨hl, hi⟩ := mapM_range f n l h1
        refine ⟨by simp [hl], fun i hlt => ?_⟩
        by_cases hi' : i < l.length
        · rw [List.getElem_append_left hi']; exact hi i hi'
        · have : i = n := by simp at hlt; omega
          subst this
          rw [List.getElem_append_right (by omega)]
          simpa [hl] using h2
theorem mapM_cells {w : World} {a : Addr} {n : Nat} {cs : List Value} (h : w.cells? 0 a n = some cs) : cs.length = n ∧ ∀ j (hj : j < cs.length), w.cell? (a.add j) = some cs[j] := by
  unfold World.cells? at h
  rw [if_pos (Nat.zero_le _)] at h
  exact mapM_range _ n cs h

theorem slice_op {P : Program} {t e : TypeId} {α : Type} [Rep α] [Bk α] [hs : IsS P t e] [ht : IsT P e α] {H : Type} {enc : TypeId × Value → H} {w : World} {fuel : Nat}
    (ho : ∀ {cs : List Value} {d : DataW H} {ps : List MemPlace}, DataW.trod enc P w 0 (fun _ => true) true fuel e cs = some (d, ps) → ∃ x : α, rd w (Old w) cs x ∧ bk x ≤ Rows.uptoBulk d)
    {cs : List Value} {d : DataW H} {ps : List MemPlace} (hd : DataW.trod enc P w 0 (fun _ => true) true (fuel + 1) t cs = some (d, ps)) : ∃ x : List α, rd w (Old w) cs x ∧ bk x ≤ Rows.uptoBulk d := by
  unfold DataW.trod at hd
  rw [hs.ok] at hd
  obtain ⟨i0, hi1, hi2⟩ := IsT.info (P := P) (t := e) (α := α)
  have hsz : P.cellsOf e = sz α := by simp [Program.cellsOf, hi1, hi2]
  have hp : 0 < sz α := Rep.pos
  split at hd <;> try (simp at *; done)
  · simp at hd
    obtain ⟨rfl, rfl⟩ := hd
    exact ⟨[], ⟨none, 0, rfl, by simp, by simp [maxLen], fun _ => rfl, fun i hi => absurd hi (by simp)⟩, bulk_one _⟩
  · rename_i e' a len cap e1
    cases e1
    simp only at hd
    split at hd
    · rename_i hc
      obtain ⟨_, hle, hmx⟩ := hc
      rw [hsz] at hd
      cases hm : (List.range len).mapM (fun i => (w.cells? 0 (a.add (i * sz α)) (sz α)).bind (DataW.trod enc P w 0 (fun _ => true) true fuel e)) with
      | none => rw [hm] at hd; cases hd
      | some elems =>
        rw [hm] at hd
        simp only [Option.bind_some, if_true] at hd
        obtain ⟨rest, _, hd2⟩ := Option.map_eq_some_iff.1 hd
        simp only [Prod.mk.injEq] at hd2
        obtain ⟨rfl, _⟩ := hd2
        obtain ⟨hlen, hget⟩ := mapM_range _ len elems hm
        -- one element at a time
        have one : ∀ i (h : i < elems.length), ∃ x : α, (∃ b off, some a = some ⟨b, off, none⟩ ∧ Old w b ∧ ∃ es, Cells w b (off + i * sz α) es ∧ rd w (Old w) es x) ∧ bk x ≤ Rows.uptoBulk (elems[i]).1 := by
          intro i hi
          have h1 := hget i hi
          cases hcs : w.cells? 0 (a.add (i * sz α)) (sz α) with
          | none => rw [hcs] at h1; cases h1
          | some es =>
            rw [hcs] at h1
            simp only [Option.bind_some] at h1
            obtain ⟨x, hr, hb⟩ := ho (d := (elems[i]).1) (ps := (elems[i]).2) h1
            obtain ⟨hl, hc⟩ := mapM_cells hcs
            have h0 := hc 0 (by omega)
            have hspot : a.spot = none := by
              cases hsp : a.spot with
              | none => rfl
              | some k =>
                -- the first element's first cell lies at the address itself
                have h2 := hget 0 (by omega)
                cases hcs0 : w.cells? 0 (a.add (0 * sz α)) (sz α) with
                | none => rw [hcs0] at h2; cases h2
                | some es0 =>
                  obtain ⟨hl0, hc0⟩ := mapM_cells hcs0
                  have h3 := hc0 0 (by omega)
                  have e3 : (a.add (0 * sz α)).add 0 = a := by simp [Addr.add]
                  rw [e3] at h3
                  unfold World.cell? at h3
                  split at h3
                  · simp [hsp] at h3
                  · cases h3
            obtain ⟨b, off, sp⟩ := a
            simp only at hspot
            subst hspot
            rw [WideShapes.add_plain] at hc h0
            have hblt : b < w.heap.size := World.block_lt_of_cell? w _ h0
            refine ⟨x, ⟨b, off, rfl, hblt, es, ?_, hr⟩, hb⟩
            intro j u hu
            obtain ⟨hj, rfl⟩ := List.getElem?_eq_some_iff.1 hu
            have := hc j hj
            rwa [WideShapes.add_plain] at this
        have all : ∀ k, k ≤ elems.length → ∃ xs : List α, xs.length = k ∧ (∀ i (h : i < xs.length), ∃ b off, some a = some ⟨b, off, none⟩ ∧ Old w b ∧ ∃ es, Cells w b (off + i * sz α) es ∧ rd w (Old w) es xs[i]) ∧ bkL xs ≤ Rows.uptoBulkAll ((elems.map (·.1)).take k) := by
          intro k
          induction k with
          | zero => intro _; exact ⟨[], rfl, fun i hi => absurd hi (by simp), by simp [bkL, Rows.uptoBulkAll]⟩
          | succ k ih =>
            intro hk
            obtain ⟨xs, h1, h2, h3⟩ := ih (by omega)
            obtain ⟨x, h4, h5⟩ := one k (by omega)
            refine ⟨xs ++ [x], by simp [h1], ?_, ?_⟩
            · intro i hi
              by_cases hlt : i < xs.length
              · rw [List.getElem_append_left hlt]; exact h2 i hlt
              · have : i = k := by simp at hi; omega
                subst this
                rw [List.getElem_append_right (by omega)]
                simpa [h1] using h4
            · have hb : ∀ (l : List α), bkL (l ++ [x]) = bkL l + bk x := by
                intro l; induction l with
                | nil => simp [bkL]
                | cons y l ih => simp only [List.cons_append, bkL, ih]; omega
              rw [hb, List.take_succ_eq_append_getElem (by simp; omega), bulk_app]
              simp only [List.getElem_map, Rows.uptoBulkAll]
              omega
        obtain ⟨xs, h1, h2, h3⟩ := all elems.length (Nat.le_refl _)
        have hx : xs.length = len := by omega
        refine ⟨xs, ⟨some a, cap, by rw [hx], ⟨by omega, hmx, (fun h => by cases h), h2⟩⟩, ?_⟩
        show bkL xs + 1 ≤ _
        rw [List.take_of_length_le (by simp)] at h3
        simp only [Rows.uptoBulk]
        omega
    · cases hd

theorem Opn.slice {P : Program} {t e : TypeId} {α : Type} [Rep α] [Bk α] [hs : IsS P t e] [ht : IsT P e α] [ho : Opn P e α] : Opn P t (List α) where
  op := by
    intro H enc w fuel cs d ps hd
    cases fuel with
    | zero => simp [DataW.trod] at hd
    | succ fuel => exact slice_op (e := e) (fun h => ho.op h) hd

theorem okWide_form {P : Program} {w : World} {r : Reach} {base : Nat} {t : TypeId} {v : Value} {d : TypeDesc} (hu : P.underlying t = some d) (h : Value.okWide P w r base t v) :
    (aggD d = false → v.oneCell' = true) ∧ (aggD d = true → ∃ cs, v = .agg cs) := by
  unfold Value.okWide at h
  rw [hu] at h
  constructor
  · intro hd
    cases v <;> first
      | rfl
      | (exfalso; cases d <;> simp [aggD] at hd <;> simp [Cell.okWide, Cell.ok, hu] at h)
  · intro hd
    cases d <;> simp [aggD] at hd <;> (obtain ⟨cs, rfl, _⟩ := h; exact ⟨cs, rfl⟩)
/-- an argument, opened -/
theorem Opn.arg {P : Program} {t : TypeId} {α : Type} [Rep α] [Bk α] [ht : IsT P t α] [ho : Opn P t α] {H : Type} {enc : TypeId × Value → H} {w : World} {v : Value} {d : DataW H} {ps : List MemPlace} {r : Reach} {base : Nat}
    (hv : Value.okWide P w r base t v) (h : DataW.Trod enc P w 0 (fun _ => true) true t v d ps) : ∃ x : α, Rd w (Old w) v x ∧ bk x ≤ Rows.uptoBulk d := by
  obtain ⟨i, dd, _, _, h3, h4⟩ := ht.ok
  obtain ⟨f1, f2⟩ := okWide_form h3 hv
  obtain ⟨fuel, hf⟩ := h
  obtain ⟨x, hr, hb⟩ := ho.op hf
  refine ⟨x, ⟨v.cells.toList, ?_, hr⟩, hb⟩
  unfold vOf
  split
  · rename_i he
    obtain ⟨cs, rfl⟩ := f2 (h4.trans he)
    simp [Value.cells]
  · rename_i he
    have := f1 (h4.trans he)
    cases v <;> first | rfl | (simp [Value.oneCell'] at this)

theorem trodAll_below {H : Type} {enc : TypeId × Value → H} {P : Program} (hl : laidOutB P = true) {W W' : World} (hb : Ext W W') : ∀ {ts : List TypeId} {vs : List Value} {ds : List (DataW H)} {ps : List MemPlace},
    (∀ t ∈ ts, P.readableRec t = true ∧ t < P.types.size) → DataW.TrodAll enc P W 0 (fun _ => true) true ts vs ds ps → (∀ x ∈ ps, x.block < W.heap.size) →
    DataW.TrodAll enc P W' 0 (fun b => decide (b < W.heap.size)) true ts vs ds ps
  | [], [], [], _, _, h, _ => h
  | t :: ts, v :: vs, d :: ds, ps, hr, h, hlt => by
    obtain ⟨p, q, h1, h2, rfl⟩ := h
    exact ⟨p, q, Below.trod hl (hr t (by simp)).1 (hr t (by simp)).2 h1 hb (fun x hx => hlt x (by simp [hx])),
      trodAll_below hl hb (fun t ht => hr t (by simp [ht])) h2 (fun x hx => hlt x (by simp [hx])), rfl⟩
  | [], [], _ :: _, _, _, h, _ => h.elim
  | [], _ :: _, [], _, _, h, _ => h.elim
  | [], _ :: _, _ :: _, _, _, h, _ => h.elim
  | _ :: _, [], [], _, _, h, _ => h.elim
  | _ :: _, [], _ :: _, _, _, h, _ => h.elim
  | _ :: _, _ :: _, [], _, _, h, _ => h.elim

/-- the law's end: it returned true, and only new memory was made -/
theorem law_post {H : Type} {enc : TypeId × Value → H} {P : Program} {fn : Func} {s : ChangeSpec} {W W' : World} {args : Array Value} {ds gs : List (DataW H)} {before : List MemPlace} {tb : TypeId}
    (hl : laidOutB P = true) (hW : DataW.Whole enc P fn.params.toList s.vars false W args.toList ds gs before) (hv : s.vars = []) (hr : ∀ t ∈ fn.params.toList, P.readableRec t = true ∧ t < P.types.size)
    (hsp : (s.fn H (ds ++ gs)).results = [.lit (.bool true)] ∧ (s.fn H (ds ++ gs)).args = ds ∧ (s.fn H (ds ++ gs)).vars = []) (hres : fn.resultTypes = #[tb]) (hb : P.underlying tb = some .bool) (hE : Ext W W') :
    s.post enc P fn false true false false W args (.bool true) W' := by
  have hlt := hW.lt
  have hW' := hW
  obtain ⟨p, q, hA, hV, rfl, _, _⟩ := hW
  rw [hv] at hV
  obtain ⟨e1, e2, e3⟩ := hsp
  refine ⟨ds, gs, p ++ q, [], p, [], hW', ?_, ?_, ?_, hE.frame _, fun h => by cases h⟩
  · rw [e1, hres]
    exact trodAll_mk1 (shut_bool hb true)
  · rw [e2]
    exact trodAll_below hl hE hr hA (fun x hx => hlt x (by simp [hx]))
  · rw [e3, hv]
    exact rfl
/- structs -/
instance iOpen9 {α β : Type} [Bk α] [Bk β] : Bk (α × β) := ⟨fun x => bk x.1 + bk x.2⟩
/-- a list of fields, from an offset on -/
class OpnFs (P : Program) (fs : List (TypeId × Nat)) (off : Nat) (α : Type) [Rep α] [Bk α] : Prop where
  op : ∀ {H : Type} {enc : TypeId × Value → H} {w : World} {fuel : Nat} {cs : List Value} {xs : List (DataW H × List MemPlace)}, off + sz α = cs.length →
    (fs.mapM fun f => DataW.trod enc P w 0 (fun _ => true) true fuel f.1 ((cs.drop f.2).take (P.cellsOf f.1))) = some xs → ∃ x : α, rd w (Old w) (cs.drop off) x ∧ bk x ≤ Rows.uptoBulkAll (xs.map (·.1))
theorem cellsOf_T {P : Program} {t : TypeId} {α : Type} [Rep α] [ht : IsT P t α] : P.cellsOf t = sz α := by
  obtain ⟨i, h1, h2⟩ := IsT.info (P := P) (t := t) (α := α)
  simp [Program.cellsOf, h1, h2]
instance OpnFs.one {P : Program} {t : TypeId} {off : Nat} {α : Type} [Rep α] [Bk α] [ht : IsT P t α] [ho : Opn P t α] : OpnFs P [(t, off)] off α where
  op := by
    intro H enc w fuel cs xs hl h
    simp only [List.mapM_cons, List.mapM_nil, Option.bind_eq_bind, Option.pure_def] at h
    cases h1 : DataW.trod enc P w 0 (fun _ => true) true fuel t ((cs.drop off).take (P.cellsOf t)) with
    | none => rw [h1] at h; cases h
    | some d =>
      rw [h1] at h; simp at h; subst h
      obtain ⟨d, ps⟩ := d
      obtain ⟨x, hr, hb⟩ := ho.op h1
      rw [cellsOf_T (α := α), List.take_of_length_le (by rw [List.length_drop]; omega)] at hr
      exact ⟨x, hr, by simpa [Rows.uptoBulkAll] using hb⟩
instance OpnFs.cons {P : Program} {t : TypeId} {off : Nat} {f : TypeId × Nat} {fs : List (TypeId × Nat)} {α β : Type} [Rep α] [Bk α] [Rep β] [Bk β] [ht : IsT P t α] [ho : Opn P t α] [hr : OpnFs P (f :: fs) (off + sz α) β] : OpnFs P ((t, off) :: f :: fs) off (α × β) where
  op := by
    intro H enc w fuel cs xs hl h
    rw [List.mapM_cons] at h
    simp only [Option.bind_eq_bind, Option.pure_def] at h
    have hl' : off + sz α + sz β = cs.length := by
      have : sz (α × β) = sz α + sz β := rfl
      omega
    cases h1 : DataW.trod enc P w 0 (fun _ => true) true fuel t ((cs.drop off).take (P.cellsOf t)) with
    | none => rw [h1] at h; cases h
    | some d =>
      rw [h1] at h
      simp only [Option.bind_some] at h
      obtain ⟨ys, h2, h3⟩ := Option.bind_eq_some_iff.1 h
      cases h3
      obtain ⟨d, ps⟩ := d
      obtain ⟨x, hx, hb⟩ := ho.op h1
      obtain ⟨y, hy, hc⟩ := hr.op hl' h2
      rw [cellsOf_T (α := α)] at hx
      refine ⟨(x, y), ⟨(cs.drop off).take (sz α), cs.drop (off + sz α), ?_, hx, hy⟩, ?_⟩
      · rw [← List.drop_drop, List.take_append_drop]
      · show bk x + bk y ≤ _
        simp only [List.map_cons, Rows.uptoBulkAll]
        omega
def stFact (P : Program) (t : TypeId) : Option (List (TypeId × Nat)) := match P.underlying t with
  | some (.struct fs) => some (fs.toList.map fun f => (f.type, f.offset))
  | _ => none
theorem Opn.struct {P : Program} {t : TypeId} {fs : List (TypeId × Nat)} {α : Type} [Rep α] [Bk α] [ht : IsT P t α] [hf : OpnFs P fs 0 α] (h : stFact P t = some fs) : Opn P t α where
  op := by
    intro H enc w fuel cs d ps hd
    unfold stFact at h
    split at h
    · rename_i gs hu
      cases h
      cases fuel with
      | zero => simp [DataW.trod] at hd
      | succ fuel =>
        unfold DataW.trod at hd
        rw [hu] at hd
        simp only at hd
        split at hd
        · rename_i hl
          obtain ⟨xs, h1, h2⟩ := Option.map_eq_some_iff.1 hd
          cases h2
          have := hf.op (enc := enc) (w := w) (fuel := fuel) (cs := cs) (xs := xs) (by rw [hl, cellsOf_T (α := α)]; omega) (by rw [List.mapM_map]; exact h1)
          obtain ⟨x, hr, hb⟩ := this
          exact ⟨x, by simpa using hr, by simp only [Rows.uptoBulk]; omega⟩
        · cases hd
    · cases h
instance iOpen5 : Opn Tryz.prog 3 Int := Opn.int Tryz.underlying3
instance iOpen6 : Opn Tryz.prog 49 (List Int) := Opn.slice
end Go.Proofs.YtikigaeihdmcaaaGreatDoor

/-
  The types of the arguments, as the form reads them.
-/
set_option linter.unusedVariables false
namespace Go.Proofs.YtikigaeihdmcaaaGreatDoor
open Go.RowKit

instance iOpn1 : Opn Tryz.prog 4 Bool := Opn.bool Tryz.underlying4
instance iOpn3 : Opn Tryz.prog 9 ByteArray := Opn.string Tryz.underlying9
instance iOpn4 : Opn Tryz.prog 35 Int := Opn.int Tryz.underlying35
instance iOpn7 : Opn Tryz.prog 34 (List ByteArray) := Opn.slice
instance iOpn20 : Opn Tryz.prog 23 (Int × Int × Int × Int × Int × Int × Int) := Opn.struct (fs := [(3, 0), (3, 1), (3, 2), (3, 3), (3, 4), (3, 5), (3, 6)]) (by kernel_rfl)
instance iOpn21 : Opn Tryz.prog 25 (Int × Int × Int × Int) := Opn.struct (fs := [(3, 0), (3, 1), (3, 2), (3, 3)]) (by kernel_rfl)
end Go.Proofs.YtikigaeihdmcaaaGreatDoor

/-
  Formulas as arguments.
-/
set_option linter.unusedVariables false
set_option linter.unusedSimpArgs false
namespace Go.Proofs.YtikigaeihdmcaaaGreatDoor
open Go.RowKit

instance iOpnLtl1 : Bk Ltl := ⟨Ltl.nodes⟩
theorem len3 {cs : List Value} (h : cs.length = 3) : ∃ c0 c1 c2, cs = [c0, c1, c2] := by
  match cs, h with
  | [a, b, c], _ => exact ⟨a, b, c, rfl⟩
theorem ltl_op {H : Type} {enc : TypeId × Value → H} {w : World} : ∀ (fuel : Nat) {cs : List Value} {d : DataW H} {ps : List MemPlace}, DataW.trod enc Tryz.prog w 0 (fun _ => true) true fuel 28 cs = some (d, ps) → ∃ x : Ltl, rd w (Old w) cs x ∧ bk x ≤ Rows.uptoBulk d := by
  intro fuel
  induction fuel using Nat.strongRecOn with
  | _ fuel ih =>
    intro cs d ps hd
    have hst : stFact Tryz.prog 28 = some [(3, 0), (3, 1), (26, 2)] := by kernel_rfl
    unfold stFact at hst
    split at hst
    · rename_i gs hu
      have hst := Option.some.inj hst
      cases fuel with
      | zero => simp [DataW.trod] at hd
      | succ fuel =>
        unfold DataW.trod at hd
        rw [hu] at hd
        simp only at hd
        split at hd
        · rename_i hl
          obtain ⟨xs, h1, h2⟩ := Option.map_eq_some_iff.1 hd
          cases h2
          have h3 : (List.map (fun f : Field => (f.type, f.offset)) gs.toList).mapM (fun f : TypeId × Nat => DataW.trod enc Tryz.prog w 0 (fun _ => true) true fuel f.1 ((cs.drop f.2).take (Tryz.prog.cellsOf f.1))) = some xs := by rw [List.mapM_map]; exact h1
          rw [hst] at h3
          rw [cellsOf_T (α := Ltl)] at hl
          have hl3 : cs.length = 3 := hl
          simp only [List.mapM_cons, List.mapM_nil, Option.bind_eq_bind, Option.pure_def] at h3
          obtain ⟨x1, e1, h3⟩ := Option.bind_eq_some_iff.1 h3
          obtain ⟨y1, h3, hy1⟩ := Option.bind_eq_some_iff.1 h3
          obtain ⟨x2, e2, h3⟩ := Option.bind_eq_some_iff.1 h3
          obtain ⟨y2, h3, hy2⟩ := Option.bind_eq_some_iff.1 h3
          obtain ⟨x3, e3, h3⟩ := Option.bind_eq_some_iff.1 h3
          simp at h3 hy2 hy1
          subst h3 hy2 hy1
          obtain ⟨d1, p1⟩ := x1
          obtain ⟨d2, p2⟩ := x2
          obtain ⟨d3, p3⟩ := x3
          rw [cellsOf_T (α := Int)] at e1 e2
          rw [cellsOf_T (α := List Ltl)] at e3
          obtain ⟨k, hk, bk1⟩ := Opn.op (P := Tryz.prog) (t := 3) (α := Int) e1
          obtain ⟨n, hn, bk2⟩ := Opn.op (P := Tryz.prog) (t := 3) (α := Int) e2
          cases fuel with
          | zero => simp [DataW.trod] at e3
          | succ fuel =>
            obtain ⟨kids, hkids, bk3⟩ := slice_op (α := Ltl) (e := 28) (fun h => ih fuel (by omega) h) e3
            obtain ⟨ao, cap, hc, hs⟩ := rd_sl hkids
            have hk' := rd_int hk
            have hn' := rd_int hn
            refine ⟨.mk k n kids, ?_, ?_⟩
            · clear hu hst h1 e1 e2 e3 ih bk1 bk2 bk3
              obtain ⟨c0, c1, c2, rfl⟩ := len3 hl3
              have a0 : [c0] = [.int .i64 k] := hk'
              have a1 : [c1] = [.int .i64 n] := hn'
              have a2 : [c2] = [.slice ao kids.length cap] := hc
              rw [List.cons.inj a0 |>.1, List.cons.inj a1 |>.1, List.cons.inj a2 |>.1]
              exact RdT.of hs
            · have hnl : ∀ l : List Ltl, bkL l = Ltl.nodesL l := by
                intro l
                induction l with
                | nil => rfl
                | cons x r ihl => simp only [bkL, Ltl.nodesL, ihl]; rfl
              have e3' : bk kids = bkL kids + 1 := rfl
              have e4 : bk (Ltl.mk k n kids) = 1 + Ltl.nodesL kids := by show Ltl.nodes _ = _; simp [Ltl.nodes]
              rw [e4, ← hnl]
              simp only [List.map_cons, List.map_nil, Rows.uptoBulk, Rows.uptoBulkAll]
              omega
        · cases hd
    · cases hst
instance iOpnLtl2 : Opn Tryz.prog 28 Ltl where
  op := fun h => ltl_op _ h
end Go.Proofs.YtikigaeihdmcaaaGreatDoor

/-
  Formulas of all ways as arguments.
-/
set_option linter.unusedVariables false
set_option linter.unusedSimpArgs false
namespace Go.Proofs.YtikigaeihdmcaaaGreatDoor
open Go.RowKit

theorem ctl_op {H : Type} {enc : TypeId × Value → H} {w : World} : ∀ (fuel : Nat) {cs : List Value} {d : DataW H} {ps : List MemPlace}, DataW.trod enc Tryz.prog w 0 (fun _ => true) true fuel 31 cs = some (d, ps) → ∃ x : Ltl, rd w (Old w) cs x ∧ bk x ≤ Rows.uptoBulk d := by
  intro fuel
  induction fuel using Nat.strongRecOn with
  | _ fuel ih =>
    intro cs d ps hd
    have hst : stFact Tryz.prog 31 = some [(3, 0), (3, 1), (29, 2)] := by kernel_rfl
    unfold stFact at hst
    split at hst
    · rename_i gs hu
      have hst := Option.some.inj hst
      cases fuel with
      | zero => simp [DataW.trod] at hd
      | succ fuel =>
        unfold DataW.trod at hd
        rw [hu] at hd
        simp only at hd
        split at hd
        · rename_i hl
          obtain ⟨xs, h1, h2⟩ := Option.map_eq_some_iff.1 hd
          cases h2
          have h3 : (List.map (fun f : Field => (f.type, f.offset)) gs.toList).mapM (fun f : TypeId × Nat => DataW.trod enc Tryz.prog w 0 (fun _ => true) true fuel f.1 ((cs.drop f.2).take (Tryz.prog.cellsOf f.1))) = some xs := by rw [List.mapM_map]; exact h1
          rw [hst] at h3
          rw [cellsOf_T (α := Ltl)] at hl
          have hl3 : cs.length = 3 := hl
          simp only [List.mapM_cons, List.mapM_nil, Option.bind_eq_bind, Option.pure_def] at h3
          obtain ⟨x1, e1, h3⟩ := Option.bind_eq_some_iff.1 h3
          obtain ⟨y1, h3, hy1⟩ := Option.bind_eq_some_iff.1 h3
          obtain ⟨x2, e2, h3⟩ := Option.bind_eq_some_iff.1 h3
          obtain ⟨y2, h3, hy2⟩ := Option.bind_eq_some_iff.1 h3
          obtain ⟨x3, e3, h3⟩ := Option.bind_eq_some_iff.1 h3
          simp at h3 hy2 hy1
          subst h3 hy2 hy1
          obtain ⟨d1, p1⟩ := x1
          obtain ⟨d2, p2⟩ := x2
          obtain ⟨d3, p3⟩ := x3
          rw [cellsOf_T (α := Int)] at e1 e2
          rw [cellsOf_T (α := List Ltl)] at e3
          obtain ⟨k, hk, bk1⟩ := Opn.op (P := Tryz.prog) (t := 3) (α := Int) e1
          obtain ⟨n, hn, bk2⟩ := Opn.op (P := Tryz.prog) (t := 3) (α := Int) e2
          cases fuel with
          | zero => simp [DataW.trod] at e3
          | succ fuel =>
            obtain ⟨kids, hkids, bk3⟩ := slice_op (α := Ltl) (e := 31) (fun h => ih fuel (by omega) h) e3
            obtain ⟨ao, cap, hc, hs⟩ := rd_sl hkids
            have hk' := rd_int hk
            have hn' := rd_int hn
            refine ⟨.mk k n kids, ?_, ?_⟩
            · clear hu hst h1 e1 e2 e3 ih bk1 bk2 bk3
              obtain ⟨c0, c1, c2, rfl⟩ := len3 hl3
              have a0 : [c0] = [.int .i64 k] := hk'
              have a1 : [c1] = [.int .i64 n] := hn'
              have a2 : [c2] = [.slice ao kids.length cap] := hc
              rw [List.cons.inj a0 |>.1, List.cons.inj a1 |>.1, List.cons.inj a2 |>.1]
              exact RdT.of hs
            · have hnl : ∀ l : List Ltl, bkL l = Ltl.nodesL l := by
                intro l
                induction l with
                | nil => rfl
                | cons x r ihl => simp only [bkL, Ltl.nodesL, ihl]; rfl
              have e3' : bk kids = bkL kids + 1 := rfl
              have e4 : bk (Ltl.mk k n kids) = 1 + Ltl.nodesL kids := by show Ltl.nodes _ = _; simp [Ltl.nodes]
              rw [e4, ← hnl]
              simp only [List.map_cons, List.map_nil, Rows.uptoBulk, Rows.uptoBulkAll]
              omega
        · cases hd
    · cases hst
instance iOpnCtl2 : Opn Tryz.prog 31 Ltl where
  op := fun h => ctl_op _ h
end Go.Proofs.YtikigaeihdmcaaaGreatDoor

/-
  Rules as arguments.
-/
set_option linter.unusedVariables false
set_option linter.unusedSimpArgs false
namespace Go.Proofs.YtikigaeihdmcaaaGreatDoor
open Go.RowKit
instance iOpnRule1 : IsT Tryz.prog 33 (ByteArray × Int × (Int × Int × Int × Int × Int × Int × Int) × (Int × Int × Int × Int) × Ltl × Ltl) := IsT.of (by kernel_rfl) Tryz.underlying33 rfl
instance iOpnRule2 : Opn Tryz.prog 33 (ByteArray × Int × (Int × Int × Int × Int × Int × Int × Int) × (Int × Int × Int × Int) × Ltl × Ltl) := Opn.struct (fs := [(9, 0), (3, 1), (23, 2), (25, 9), (28, 13), (31, 16)]) (by kernel_rfl)
end Go.Proofs.YtikigaeihdmcaaaGreatDoor

/-
  Lists of rules: as cells, looked through, compared.
-/
set_option linter.unusedVariables false
set_option linter.unusedSimpArgs false
namespace Go.Proofs.YtikigaeihdmcaaaGreatDoor
open Go.RowKit

instance iRep5 : IsF Tryz.prog 33 := ⟨_, Tryz.func33, rfl, by decide⟩
instance iRep6 : IsF Tryz.prog 50 := ⟨_, Tryz.func50, rfl, by decide⟩
instance iRep7 : IsF Tryz.prog 12 := ⟨_, Tryz.func12, rfl, by decide⟩
instance iRep8 : IsF Tryz.prog 34 := ⟨_, Tryz.func34, rfl, by decide⟩
instance iRep9 : IsS Tryz.prog 44 33 := ⟨Tryz.underlying44⟩
instance iRep10 : IsZ Tryz.prog 33 (ruleZ : LRule) 192 := IsZ.of (z := .agg (rul0 ⟨#[]⟩ 0).toArray) (by kernel_rfl) (fun w F => by
  have h0 : Sl w F none 0 ([] : List Ltl) := Sl.zero _ _
  exact rd_mk (c1 := [.string ⟨#[]⟩]) ⟨rfl, by decide⟩ (rd_mk (rd_mkInt _ _ _) (rd_mk (rd_mk (rd_mkInt _ _ _) (rd_mk (rd_mkInt _ _ _) (rd_mk (rd_mkInt _ _ _) (rd_mk (rd_mkInt _ _ _) (rd_mk (rd_mkInt _ _ _) (rd_mk (rd_mkInt _ _ _) (rd_mkInt _ _ _)))))))
    (rd_mk (rd_mk (rd_mkInt _ _ _) (rd_mk (rd_mkInt _ _ _) (rd_mk (rd_mkInt _ _ _) (rd_mkInt _ _ _)))) (rd_mk (RdT.of (k := 0) (n := 0) h0) (RdT.of (k := 0) (n := 0) h0))))))
/-- a rule by its parts -/
theorem Rd.mkRule {w : World} {F : Nat → Prop} {r : LRule} {lo co : Option Addr} {lc cc : Nat} (hl : Sl w F lo lc r.2.2.2.2.1.kids) (hc : Sl w F co cc r.2.2.2.2.2.kids) (hs : r.1.size ≤ maxLen) : Rd w F (rulV r lo lc co cc) r := by
  obtain ⟨nm, so, pt, tp, ⟨k, n, kids⟩, ⟨k', n', kids'⟩⟩ := r
  exact ⟨_, rfl, rd_mk (c1 := [.string nm]) ⟨rfl, hs⟩ (rd_mk (rd_mkInt _ _ _) (rd_mk (rd_mk (rd_mkInt _ _ _) (rd_mk (rd_mkInt _ _ _) (rd_mk (rd_mkInt _ _ _) (rd_mk (rd_mkInt _ _ _) (rd_mk (rd_mkInt _ _ _) (rd_mk (rd_mkInt _ _ _) (rd_mkInt _ _ _)))))))
    (rd_mk (rd_mk (rd_mkInt _ _ _) (rd_mk (rd_mkInt _ _ _) (rd_mk (rd_mkInt _ _ _) (rd_mkInt _ _ _)))) (rd_mk (RdT.of hl) (RdT.of hc)))))⟩
theorem indexFunc_rule (w0 : World) {ao : Option Addr} {cap : Nat} {xs : List LRule} {fv : Value} (p : LRule → Bool) (hs : Sl w0 (Old w0) ao cap xs)
    (hf : ∀ w, Ext w0 w → ∀ i (h : i < xs.length) u, Rd w (Old w0) u xs[i] → FnV Tryz.prog fv [u] w fun v w' => v = .bool (p xs[i]) ∧ Ext w w') :
    Rt Tryz.prog 50 [.slice ao xs.length cap, fv].toArray w0 fun v w' => v = .int .i64 (idxOf p xs) ∧ Ext w0 w' := by
  have hm := hs.len63
  refine Rt.enter2 Tryz.func50 Tryz.ntmps50 rfl rfl ?_
  (repeat (first | (apply WL.pure; rfl; rfl; rfl) | (apply WL.nil) | (apply EX.thenN) | (apply CW.seq) | (apply CW.region) | (apply WL.lenS; rfl; rfl; rfl) | (apply CW.block)))
  refine CW.loop (S := Nat) (fun k => [(0, .slice ao xs.length cap), (1, fv), (7, .int .i64 xs.length), (8, .int .i64 k)])
    (fun k w => k ≤ xs.length ∧ Ext w0 w ∧ ∀ j (h : j < xs.length), j < k → p xs[j] = false) (fun k => xs.length - k) 0 (by repeat (first | exact trivial | refine ⟨rfl, ?_⟩)) ⟨by omega, Ext.refl _, by omega⟩ ?_
  rintro k w ⟨hk, hB, hn⟩
  (repeat (first | (apply WL.pure; rfl; rfl; rfl) | (apply WL.nil) | (apply EX.thenN) | (apply CW.seq) | (apply CW.region)))
  refine CW.cond rfl (fun h => ?_) (fun h => ?_)
  · simp at h
    (repeat (first | (apply WL.pure; rfl; rfl; rfl) | (apply WL.nil) | (apply EX.thenN) | (apply CW.seq) | (apply CW.region) | (apply CW.block) | (apply CW.skip)))
    refine WL.elemN rfl rfl rfl rfl rfl (hs.at hB) h (fun _ => rfl) (fun u q hu => ?_)
    refine WL.callF rfl rfl rfl rfl (hf w hB k h u hu) ?_
    rintro v w' ⟨rfl, hB'⟩
    (repeat (first | (apply WL.nil) | (apply EX.thenN)))
    refine CW.cond rfl (fun h' => ?_) (fun h' => ?_)
    · (repeat (first | (apply WL.pure; rfl; rfl; rfl) | (apply WL.nil) | (apply EX.thenN) | (apply CW.seq) | (apply CW.region) | (apply CW.ret) | (apply EX.thenR) | (apply EX.inR)))
      refine EX.ret1 rfl rfl ⟨?_, hB.trans hB'⟩
      rw [idxOf_here h hn h']
    · (repeat (first | (apply WL.add; rfl; rfl; rfl; rfl; omega; omega) | (apply WL.pure; rfl; rfl; rfl) | (apply WL.nil) | (apply EX.thenN) | (apply CW.region) | (apply EX.inN) | (apply CW.skip)))
      refine EX.back (k + 1) (by repeat (first | exact trivial | refine ⟨rfl, ?_⟩)) ⟨h, hB.trans hB', ?_⟩ (by omega)
      intro j hj hlt
      by_cases e : j = k
      · subst e; exact h'
      · exact hn j hj (by omega)
  · simp at h
    (repeat (first | (apply WL.pure; rfl; rfl; rfl) | (apply WL.nil) | (apply EX.thenN) | (apply CW.seq) | (apply CW.region) | (apply CW.exit) | (apply EX.thenX) | (apply EX.inX) | (apply CW.ret)))
    refine EX.ret1 rfl rfl ⟨?_, hB⟩
    rw [idxOf_none (fun j hj => hn j hj (by omega))]
theorem containsFunc_rule (w0 : World) {ao : Option Addr} {cap : Nat} {xs : List LRule} {fv : Value} (p : LRule → Bool) (hs : Sl w0 (Old w0) ao cap xs)
    (hf : ∀ w, Ext w0 w → ∀ i (h : i < xs.length) u, Rd w (Old w0) u xs[i] → FnV Tryz.prog fv [u] w fun v w' => v = .bool (p xs[i]) ∧ Ext w w') :
    Rt Tryz.prog 33 [.slice ao xs.length cap, fv].toArray w0 fun v w' => v = .bool (xs.any p) ∧ Ext w0 w' := by
  refine Rt.enter2 Tryz.func33 Tryz.ntmps33 rfl rfl ?_
  (repeat (first | (apply WL.pure; rfl; rfl; rfl) | (apply WL.nil) | (apply EX.thenN) | (apply CW.seq) | (apply CW.region)))
  refine WL.call rfl rfl rfl (indexFunc_rule w0 p hs hf) ?_
  rintro v w' ⟨rfl, hB⟩
  (repeat (first | (apply WL.pure; rfl; rfl; rfl) | (apply WL.nil) | (apply EX.thenN) | (apply CW.ret)))
  refine EX.ret1 rfl rfl ⟨?_, hB⟩
  rw [← idxOf_any]
theorem equalFunc_rule (w0 : World) {ao bo : Option Addr} {cap cap' : Nat} {xs : List LRule} {fv : Value} (hs : Sl w0 (Old w0) ao cap xs) (ht : Sl w0 (Old w0) bo cap' xs)
    (hf : ∀ w, Ext w0 w → ∀ i (h : i < xs.length) u u', Rd w (Old w0) u xs[i] → Rd w (Old w0) u' xs[i] → FnV Tryz.prog fv [u, u'] w fun v w' => v = .bool true ∧ Ext w w') :
    Rt Tryz.prog 12 [.slice ao xs.length cap, .slice bo xs.length cap', fv].toArray w0 fun v w' => v = .bool true ∧ Ext w0 w' := by
  have hm := hs.len63
  refine Rt.enter3 Tryz.func12 Tryz.ntmps12 rfl rfl ?_
  (repeat (first | (apply WL.pure; rfl; rfl; rfl) | (apply WL.nil) | (apply EX.thenN) | (apply CW.seq) | (apply CW.region) | (apply WL.lenS; rfl; rfl; rfl)))
  refine CW.cond rfl (fun h => ?_) (fun h => ?_)
  · simp at h
  · (repeat (first | (apply WL.pure; rfl; rfl; rfl) | (apply WL.nil) | (apply EX.thenN) | (apply CW.seq) | (apply CW.region) | (apply WL.lenS; rfl; rfl; rfl) | (apply CW.block) | (apply CW.skip)))
    refine CW.loop (S := Nat) (fun k => [(1, .slice bo xs.length cap'), (2, fv), (15, .slice ao xs.length cap), (16, .int .i64 xs.length), (17, .int .i64 k)])
      (fun k w => k ≤ xs.length ∧ Ext w0 w) (fun k => xs.length - k) 0 (by repeat (first | exact trivial | refine ⟨rfl, ?_⟩)) ⟨by omega, Ext.refl _⟩ ?_
    rintro k w ⟨hk, hB⟩
    (repeat (first | (apply WL.pure; rfl; rfl; rfl) | (apply WL.nil) | (apply EX.thenN) | (apply CW.seq) | (apply CW.region)))
    refine CW.cond rfl (fun h1 => ?_) (fun h1 => ?_)
    · simp at h1
      (repeat (first | (apply WL.pure; rfl; rfl; rfl) | (apply EX.thenN) | (apply CW.seq) | (apply CW.region) | (apply CW.block) | (apply CW.skip)))
      refine WL.elemN rfl rfl rfl rfl rfl (hs.at hB) h1 (fun _ => rfl) (fun u q hu => ?_)
      obtain ⟨lo, lc, co, cc, rfl, k1, k2, k3⟩ := hu.rule
      refine WL.alloc rfl rfl (fun w1 hb1 e1 => ?_)
      (repeat (apply WL.pure; rfl; rfl; rfl))
      refine WL.st rfl rfl rfl hb1 rfl rfl (ones_of rfl) (fun w2 hb2 hg2 => ?_)
      have e2 : Ext w w2 := e1.grown hg2 e1.size (fun g hg => by cases hg; exact Nat.le_refl _)
      have hB2 := hB.trans e2
      (repeat (first | (apply WL.pure; rfl; rfl; rfl) | (apply WL.nil) | (apply EX.thenN) | (apply CW.seq) | (apply CW.region)))
      refine WL.elemN rfl rfl rfl rfl rfl (ht.at hB2) h1 (fun _ => rfl) (fun u' q' hu' => ?_)
      obtain ⟨lo', lc', co', cc', rfl, k1', k2', k3'⟩ := hu'.rule
      refine WL.alloc rfl rfl (fun w3 hb3 e3 => ?_)
      skip
      refine WL.st rfl rfl rfl hb3 rfl rfl (ones_of rfl) (fun w4 hb4 hg4 => ?_)
      have e4 : Ext w2 w4 := e3.grown hg4 e3.size (fun g hg => by cases hg; exact Nat.le_refl _)
      have hb2 := hb2.ext e4
      have hB4 := hB2.trans e4
      clear hb1 hb3 e1 e3 hg2 hg4
      (repeat (first | (apply WL.pure; rfl; rfl; rfl) | (apply WL.nil) | (apply EX.thenN) | (apply CW.seq) | (apply CW.region) | (apply WL.ldA; rfl; rfl; rfl; assumption; rfl)))
      refine WL.callF rfl rfl rfl rfl (hf w4 hB4 k h1 _ _ (Rd.mkRule (k1.mono (fun c hc => e2.trans e4 |>.block c (Nat.lt_of_lt_of_le hc hB.size)) (fun _ h => h)) (k2.mono (fun c hc => e2.trans e4 |>.block c (Nat.lt_of_lt_of_le hc hB.size)) (fun _ h => h)) k3) (Rd.mkRule (k1'.mono (fun c hc => e4.block c (Nat.lt_of_lt_of_le hc hB2.size)) (fun _ h => h)) (k2'.mono (fun c hc => e4.block c (Nat.lt_of_lt_of_le hc hB2.size)) (fun _ h => h)) k3')) ?_
      rintro v w' ⟨rfl, hE⟩
      (repeat (first | (apply WL.add; rfl; rfl; rfl; rfl; omega; omega) | (apply WL.pure; rfl; rfl; rfl) | (apply WL.nil) | (apply EX.thenN) | (apply CW.region) | (apply EX.inN) | (apply CW.condF; rfl) | (apply CW.skip)))
      refine EX.back (k + 1) (by repeat (first | exact trivial | refine ⟨rfl, ?_⟩)) ⟨h1, hB4.trans hE⟩ (by omega)
    · simp at h1
      (repeat (first | (apply WL.pure; rfl; rfl; rfl) | (apply WL.nil) | (apply EX.thenN) | (apply CW.seq) | (apply CW.region) | (apply CW.exit) | (apply EX.thenX) | (apply EX.inX) | (apply CW.ret)))
      exact EX.ret1 rfl rfl ⟨rfl, hB⟩
/-- report.Rules$1: is this its name? -/
theorem rules1_ok (w : World) {r y : LRule} {lo co lo' co' : Option Addr} {lc cc lc' cc' b : Nat} (hb : Blk w b 33 (cellsL (rulV r lo lc co cc))) :
    Rt Tryz.prog 34 [rulV y lo' lc' co' cc', .pointer (some ⟨b, 0, none⟩)].toArray w fun v w' => v = .bool (sameN r.1 y) ∧ Ext w w' := by
  refine Rt.enter2 Tryz.func34 Tryz.ntmps34 rfl rfl ?_
  (repeat (first | (apply CW.seq) | (apply CW.region)))
  refine WL.boxB rfl rfl rfl fun w1 hb2 e1 => ?_
  have hb := hb.ext e1
  (repeat (first | (apply WL.pure; rfl; rfl; rfl) | (apply WL.nil) | (apply EX.thenN) | (apply CW.seq) | (apply CW.region) | (apply WL.fa; rfl; rfl; rfl) | (apply WL.ld; rfl; rfl; rfl; assumption; rfl) | (apply CW.ret)))
  exact EX.ret1 rfl rfl ⟨rfl, e1⟩
end Go.Proofs.YtikigaeihdmcaaaGreatDoor

/-
  report.Rules, walked.
-/
set_option linter.unusedVariables false
set_option linter.unusedSimpArgs false
namespace Go.Proofs.YtikigaeihdmcaaaGreatDoor
open Go.RowKit

instance iRep11 : IsF Tryz.prog 10 := ⟨_, Tryz.func10, rfl, by decide⟩
theorem EX.ret3 {P : Program} {n : Nat} {σ : Sg} {w : World} {fn : Func} {t u s : Nat} {v x y : Value} {R : Value → World → Prop} (hr : fn.results = #[.tmp t, .tmp u, .tmp s]) (ht : fnd σ t = some v) (hu : fnd σ u = some x) (hs : fnd σ s = some y) (h : R (.tuple ⟨[v, x, y]⟩) w) :
    EX (bodyPost P fn fun e w' => ∃ v, e = .returned v ∧ R v w') .ret n σ w := by
  unfold EX; intro a ha
  exact bodyPost_ret (results_tmp3 hr _ _ _) ha.defers ⟨_, by rw [ha.slot t v ht, ha.slot u x hu, ha.slot s y hs], h⟩
theorem linesR_mem {s x : Bys} (h : x ∈ linesR s) : x.length ≤ s.length :=
  linesA_mem s x (by rw [lines_end]; exact List.mem_append_left _ h)
/-- the last part of a text -/
theorem last_of {s : Bys} {m : Nat} (hm : (linesA s).length = m + 1) (h : m < (linesA s).length) : (endN s = true → (linesA s)[m] = [] ∧ (linesR s).length = m ∧ (linesA s).take m = linesR s) ∧ (endN s = false → (linesA s)[m] ≠ [] ∧ linesA s = linesR s) := by
  have hl := lines_end s
  constructor
  · intro he
    rw [he, if_pos rfl] at hl
    have hk : (linesR s).length = m := by rw [hl, List.length_append] at hm; simp at hm; exact hm
    refine ⟨?_, hk, ?_⟩
    · have : ∀ (L : List Bys) (e : linesA s = L) (h' : m < L.length), (linesA s)[m] = L[m] := fun L e h' => by subst e; rfl
      rw [this _ hl (by rw [List.length_append]; simp; omega), List.getElem_append_right (by omega)]
      simp
    · rw [hl, List.take_append_of_le_length (by omega), List.take_of_length_le (by omega)]
  · intro he
    rw [he, if_neg (by decide), List.append_nil] at hl
    refine ⟨?_, hl⟩
    exact linesR_pos s _ (by
      have := List.getElem_mem h
      rwa [← hl])
set_option maxHeartbeats 4000000 in
theorem rules_ok (w0 : World) (hM : MaxH w0) (hE : ErrH w0) {sa : Nat → Addr} (hSn : SenH w0 sa) {s : Bys} (hs : s.length ≤ 2147483648) {no : Option Addr} {nc : Nat} {nms : List ByteArray} (hn : Sl w0 (Old w0) no nc nms) :
    Rt Tryz.prog 10 [tV s, .slice no nms.length nc].toArray w0 fun v w' => ∃ ao cap, v = .tuple ⟨[.slice ao (rulesT s nms).1.length cap, .int .i64 ((rulesT s nms).2.1 : Int), .int .i64 (rulesT s nms).2.2]⟩ ∧ Sl w' (Old w') ao cap (rulesT s nms).1 ∧ Ext w0 w' := by
  refine Rt.enter2 Tryz.func10 Tryz.ntmps10 rfl rfl ?_
  have hlen := linesR_len s
  (repeat (first | (apply WL.pure; rfl; rfl; rfl) | (apply WL.nil) | (apply EX.thenN) | (apply CW.seq) | (apply CW.region)))
  refine WL.call rfl rfl rfl (splitA_ok w0 s hs hM) ?_
  rintro _ w1 ⟨⟨ao, cap, rfl, hsl⟩, e1⟩
  (repeat (apply WL.pure; rfl; rfl; rfl))
  apply WL.nil
  apply EX.thenN
  refine CW.cutI (S := Option Addr × Nat) (fun x => [(0, tV s), (1, .slice no nms.length nc), (7, .slice x.1 ((linesR s).map txA).length x.2)])
    (fun x w => Sl w (Old w) x.1 x.2 ((linesR s).map txA) ∧ Ext w0 w) ?_ ?_
  · obtain ⟨m, hm⟩ : ∃ m, (linesA s).length = m + 1 := ⟨(linesA s).length - 1, by
      have : linesA s ≠ [] := by
        rw [lines_end]
        cases s with
        | nil => simp [endN]
        | cons b l => have := linesR_ne b l; simp [this]
      have := List.length_pos_iff.2 this
      omega⟩
    have hm1 : m < (linesA s).length := by omega
    have hmL : m ≤ s.length := by
      have := congrArg List.length (lines_end s)
      rw [List.length_append] at this
      have h2 : (if endN s = true then [([] : Bys)] else []).length ≤ 1 := by split <;> simp
      omega
    have hx : IntKind.i64.wrap ((((linesA s).map txA).length : Int) - 1) = ((m : Nat) : Int) := by
      rw [wrap_in (by rw [List.length_map]; omega) (by rw [List.length_map]; omega), List.length_map]; omega
    obtain ⟨l1, l2⟩ := last_of hm hm1
    (repeat (first | (apply WL.pure; rfl; rfl; rfl) | (apply CW.seq) | (apply CW.region) | (apply WL.lenS; rfl; rfl; rfl)))
    rw [hx]
    refine WL.elemN (i := m) rfl rfl rfl rfl rfl hsl (by rw [List.length_map]; omega) (fun _ => rfl) (fun u q hu => ?_)
    obtain ⟨rfl, _⟩ := hu.str
    rw [List.getElem_map]
    cases he : endN s with
    | true =>
      obtain ⟨h1, h2, h3⟩ := l1 he
      rw [h1]
      (repeat (first | (apply WL.pure; rfl; rfl; rfl) | (apply WL.nil) | (apply EX.thenN) | (apply CW.region) | (apply WL.lenS; rfl; rfl; rfl) | (apply CW.condT; rfl)))
      rw [hx]
      have hcap := hsl.le
      rw [List.length_map] at hcap
      refine WL.cutHi (α := ByteArray) (((linesR s).map txA).length) (by rw [List.length_map, h2]) rfl rfl rfl rfl (by rw [List.length_map]; omega) ?_
      (repeat (first | (apply WL.pure; rfl; rfl; rfl) | (apply WL.nil)))
      refine EX.cutI (_, _) (by repeat (first | exact trivial | refine ⟨rfl, ?_⟩)) ⟨?_, e1⟩
      rw [← h3, List.map_take]
      exact hsl.take (k := m) (by rw [List.length_map]; omega)
    | false =>
      obtain ⟨h1, h2⟩ := l2 he
      (repeat (first | (apply WL.pure; rfl; rfl; rfl) | (apply WL.nil) | (apply EX.thenN)))
      refine CW.cond rfl (fun h => ?_) (fun h => ?_)
      · exfalso
        have : (txA (linesA s)[m]).data.toList = [] := by simpa using h
        rw [txA_list] at this
        exact h1 this
      · apply CW.skip
        rw [← h2]
        exact EX.cutI (ao, cap) (by repeat (first | exact trivial | refine ⟨rfl, ?_⟩)) ⟨hsl, e1⟩
  clear hsl e1
  rintro ⟨ao, cap⟩ w2 ⟨hsl, e2⟩
  dsimp only at hsl ⊢
  (repeat (first | (apply WL.pure; rfl; rfl; rfl) | (apply CW.seq) | (apply CW.region)))
  refine WL.lenP2 rfl rfl rfl ?_
  (repeat (apply WL.pure; rfl; rfl; rfl))
  refine WL.look (s := 33) rfl (fun h => ?_) (fun h => ?_)
  · have h : s.length > 4096 := by have : (s.length : Int) > 4096 := by simpa using h
                                   omega
    have hR : rulesT s nms = ([], 0, 2) := by unfold rulesT; rw [if_pos (.inl h)]
    rw [hR]
    (repeat (first | (apply WL.pure; rfl; rfl; rfl) | (apply WL.nil) | (apply EX.thenN) | (apply CW.seq) | (apply CW.region) | (apply WL.pass; rfl; rfl) | (apply CW.condT; rfl) | (apply CW.ret) | (apply EX.thenR)))
    exact EX.ret3 rfl rfl rfl rfl ⟨none, 0, rfl, Sl.zero _ _, e2⟩
  have h : s.length ≤ 4096 := by have : ¬ (s.length : Int) > 4096 := by simpa using h
                                 omega
  (repeat (first | (apply WL.pure; rfl; rfl; rfl) | (apply WL.nil) | (apply EX.thenN) | (apply WL.lenS; rfl; rfl; rfl)))
  refine CW.cond rfl (fun h' => ?_) (fun h' => ?_)
  · have h' : (linesR s).length > 20 := by
      have : (((linesR s).map txA).length : Int) > 20 := by simpa using h'
      rw [List.length_map] at this
      omega
    have hR : rulesT s nms = ([], 0, 2) := by unfold rulesT; rw [if_pos (.inr h')]
    rw [hR]
    (repeat (first | (apply WL.pure; rfl; rfl; rfl) | (apply WL.nil) | (apply EX.thenN) | (apply CW.seq) | (apply CW.region) | (apply CW.ret) | (apply EX.thenR)))
    exact EX.ret3 rfl rfl rfl rfl ⟨none, 0, rfl, Sl.zero _ _, e2⟩
  have h' : (linesR s).length ≤ 20 := by
    have : ¬ (((linesR s).map txA).length : Int) > 20 := by simpa using h'
    rw [List.length_map] at this
    omega
  have hR : rulesT s nms = rulesE nms (linesR s) [] 0 := by unfold rulesT; rw [if_neg (by omega)]
  rw [hR]
  have hline : ∀ x ∈ linesR s, x.length ≤ 4096 := fun x hx => Nat.le_trans (linesR_mem hx) h
  generalize linesR s = LR at *
  clear hR hlen
  (repeat (first | (apply WL.pure; rfl; rfl; rfl) | (apply WL.nil) | (apply EX.thenN) | (apply CW.seq) | (apply CW.region) | (apply WL.lenS; rfl; rfl; rfl) | (apply CW.block) | (apply CW.skip)))
  refine CW.loop (S := Nat × List LRule × Option Addr × Nat) (fun x => [(1, .slice no nms.length nc), (8, .slice x.2.2.1 x.2.1.length x.2.2.2), (38, .slice ao (LR.map txA).length cap), (39, .int .i64 (LR.map txA).length), (40, .int .i64 x.1)])
    (fun x w => x.1 ≤ LR.length ∧ x.2.1.length = x.1 ∧ rulesE nms LR [] 0 = rulesE nms (LR.drop x.1) x.2.1 x.1 ∧ Own w w2.heap.size 33 (fun b => b < w.heap.size ∧ (Value.slice x.2.2.1 x.2.1.length x.2.2.2).ownBlock ≠ some b) (.slice x.2.2.1 x.2.1.length x.2.2.2) x.2.1 ∧ Ext w2 w)
    (fun x => LR.length - x.1) (0, [], none, 0) (by repeat (first | exact trivial | refine ⟨rfl, ?_⟩)) ⟨by omega, rfl, rfl, Own.nil, Ext.refl _⟩ ?_
  rintro ⟨k, out, oo, oc⟩ w3 ⟨hk, hkl, hkr, ho, e3⟩
  dsimp only at hk hkl hkr ho ⊢
  rw [hkr]
  have hE3 := e2.trans e3
  have z3 := e3.size
  (repeat (first | (apply WL.pure; rfl; rfl; rfl) | (apply WL.nil) | (apply EX.thenN) | (apply CW.seq) | (apply CW.region)))
  refine CW.cond rfl (fun h1 => ?_) (fun h1 => ?_)
  case' refine_2 =>
    have h1 : k = LR.length := by
      have : ¬ (k : Int) < ((LR.map txA).length : Int) := by simpa using h1
      rw [List.length_map] at this
      omega
    rw [h1, List.drop_length]
    (repeat (first | (apply WL.pure; rfl; rfl; rfl) | (apply WL.nil) | (apply EX.thenN) | (apply CW.seq) | (apply CW.region) | (apply CW.exit) | (apply EX.thenX) | (apply EX.inX) | (apply CW.ret)))
    refine EX.ret3 rfl rfl rfl rfl ⟨oo, oc, rfl, ?_, hE3⟩
    obtain ⟨ao', cap', he, hsl'⟩ := ho.slF (F' := Old w3) (fun b hb => hb.1) (fun g hg => (ho.lt g hg).2.1)
    obtain ⟨rfl, _, rfl⟩ := Value.slice.inj he
    exact hsl'
  have h1 : k < LR.length := by
    have : (k : Int) < ((LR.map txA).length : Int) := by simpa using h1
    rw [List.length_map] at this
    omega
  rw [List.drop_eq_getElem_cons h1]
  have hl1 := hline _ (List.getElem_mem h1)
  (repeat (first | (apply WL.pure; rfl; rfl; rfl) | (apply EX.thenN) | (apply CW.seq) | (apply CW.region) | (apply CW.block) | (apply CW.skip)))
  refine WL.elemN (i := k) rfl rfl rfl rfl rfl (hsl.at e3) (by rw [List.length_map]; exact h1) (fun _ => rfl) (fun u q hu => ?_)
  obtain ⟨rfl, _⟩ := hu.str
  rw [List.getElem_map]
  generalize LR[k] = l at *
  (repeat (first | (apply WL.pure; rfl; rfl; rfl) | (apply WL.nil) | (apply EX.thenN) | (apply CW.seq) | (apply CW.region)))
  refine WL.call rfl rfl rfl (cutN_ok w3 l (by omega)) ?_
  rintro _ w4 ⟨rfl, e4⟩
  have hE4 := hE3.trans e4
  rw [rulesE]
  cases hb : sufB l with
  | false =>
    rw [if_pos rfl]
    (repeat (first | (apply WL.add; rfl; rfl; rfl; rfl; omega; omega) | (apply WL.pure; rfl; rfl; rfl) | (apply WL.nil) | (apply EX.thenN) | (apply CW.seq) | (apply CW.region) | (apply CW.condT; rfl) | (apply CW.ret) | (apply EX.thenR) | (apply EX.inR)))
    exact EX.ret3 rfl rfl rfl rfl ⟨none, 0, rfl, Sl.zero _ _, hE4⟩
  | true =>
  rw [if_neg (by decide)]
  (repeat (first | (apply WL.pure; rfl; rfl; rfl) | (apply WL.nil) | (apply EX.thenN) | (apply CW.seq) | (apply CW.region) | (apply CW.condF; rfl) | (apply CW.skip)))
  refine WL.call rfl rfl rfl (rparse_fr w4 (hM.ext hE4) (hE.kept (hE4.grw none) (by simp)) (hSn.low hE4) (s := cutN l) (hn.up hE4)) ?_
  rintro _ w5 ⟨x, rfl, ⟨lo, lc, co, cc, rfl, f1, f2, f3⟩, e5⟩
  generalize parseR (cutN l) nms = pr at *
  obtain ⟨r, a, e⟩ := pr
  dsimp only at f1 f2 f3 ⊢
  have hE5 := hE4.trans e5
  have e35 := e4.trans e5
  (repeat (apply WL.pure; rfl; rfl; rfl))
  refine WL.alloc rfl rfl (fun w6 hb13 e6 => ?_)
  skip
  refine WL.st rfl rfl rfl hb13 rfl rfl (ones_of rfl) (fun w7 hb13 hg7 => ?_)
  have e7 : Ext w5 w7 := e6.grown hg7 e6.size (fun g hg => by cases hg; exact Nat.le_refl _)
  have hE7 := hE5.trans e7
  have e37 := e35.trans e7
  clear e6 hg7
  (repeat (first | (apply WL.pure; rfl; rfl; rfl) | (apply WL.nil) | (apply EX.thenN) | (apply CW.seq) | (apply CW.region)))
  refine CW.cond rfl (fun h2 => ?_) (fun h2 => ?_)
  · have h2 : e ≠ 0 := by simpa using h2
    rw [if_pos h2]
    (repeat (first | (apply WL.add; rfl; rfl; rfl; rfl; omega; omega) | (apply WL.pure; rfl; rfl; rfl) | (apply WL.nil) | (apply EX.thenN) | (apply CW.seq) | (apply CW.region) | (apply CW.ret) | (apply EX.thenR) | (apply EX.inR)))
    exact EX.ret3 rfl rfl rfl rfl ⟨none, 0, rfl, Sl.zero _ _, hE7⟩
  have h2 : e = 0 := by simpa using h2
  rw [if_neg (by simpa using h2)]
  have hsl3 : Sl w7 (Old w7) oo oc out := by
    obtain ⟨ao', cap', he, hsl'⟩ := ho.slF (F' := Old w3) (fun b hb => hb.1) (fun g hg => (ho.lt g hg).2.1)
    obtain ⟨rfl, _, rfl⟩ := Value.slice.inj he
    exact hsl'.up e37
  (repeat (first | (apply WL.pure; rfl; rfl; rfl) | (apply EX.thenN) | (apply CW.seq) | (apply CW.region) | (apply WL.makeFunc; rfl; rfl; rfl; rfl) | (apply CW.skip)))
  refine WL.call rfl rfl rfl (containsFunc_rule w7 (sameN r.1) hsl3 (fun w hw i hi u hu => by
    obtain ⟨lo', lc', co', cc', rfl, _⟩ := hu.rule
    exact FnV.mk (rules1_ok w (r := r) (lo := lo) (lc := lc) (co := co) (cc := cc) (hb13.ext hw)))) ?_
  rintro _ w8 ⟨rfl, e8⟩
  have hE8 := hE7.trans e8
  have e38 := e37.trans e8
  have hb13 := hb13.ext e8
  cases ha : out.any (sameN r.1) with
  | true =>
    rw [if_pos rfl]
    (repeat (first | (apply WL.add; rfl; rfl; rfl; rfl; omega; omega) | (apply WL.pure; rfl; rfl; rfl) | (apply WL.nil) | (apply EX.thenN) | (apply CW.seq) | (apply CW.region) | (apply CW.condT; rfl) | (apply CW.ret) | (apply EX.thenR) | (apply EX.inR)))
    exact EX.ret3 rfl rfl rfl rfl ⟨none, 0, rfl, Sl.zero _ _, hE8⟩
  | false =>
  rw [if_neg (by decide)]
  have ho8 : Own w8 w2.heap.size 33 (fun b => b < w8.heap.size ∧ (Value.slice oo out.length oc).ownBlock ≠ some b) (.slice oo out.length oc) out :=
    (ho.ext e38 (fun b hb => hb.1)).wk (fun b hb => ⟨Nat.lt_of_lt_of_le hb.1 e38.size, hb.2⟩) (fun g hg hh => hh.2 hg)
  have e78 := e7.trans e8
  have z35 := e35.size
  have z4 := e4.size
  have hfr : ∀ b, w4.heap.size ≤ b ∧ b < w5.heap.size → b < w8.heap.size ∧ (Value.slice oo out.length oc).ownBlock ≠ some b := fun b hb => ⟨Nat.lt_of_lt_of_le hb.2 e78.size, fun hg => by have := (ho.lt b hg).2.1; omega⟩
  have hu8 : Rd w8 (fun b => b < w8.heap.size ∧ (Value.slice oo out.length oc).ownBlock ≠ some b) (rulV r lo lc co cc) r :=
    Rd.mkRule (f1.mono (fun c hc => e78.block c hc.2) hfr) (f2.mono (fun c hc => e78.block c hc.2) hfr) f3
  have e28 := e3.trans e38
  (repeat (first | (apply WL.pure; rfl; rfl; rfl) | (apply WL.nil) | (apply EX.thenN) | (apply CW.region) | (apply WL.ldA; rfl; rfl; rfl; assumption; rfl) | (apply CW.condF; rfl) | (apply CW.skip)))
  refine WL.app1 (α := LRule) rfl rfl (fun _ => rfl) rfl rfl (fun _ => rfl) ho8 hu8 e28.size (fun _ h => h.1) (by decide) (by unfold maxLen; omega) (by omega) (fun v' w9 p ho9 hg9 hnb => ?_)
  have e9 : Ext w2 w9 := e28.grown hg9 e28.size (fun k hk => (ho8.lt k hk).1)
  obtain ⟨oo', oc', rfl⟩ := ho9.val
  have z9 := hg9.size
  (repeat (first | (apply WL.add; rfl; rfl; rfl; rfl; omega; omega) | (apply WL.pure; rfl; rfl; rfl) | (apply WL.nil) | (apply EX.thenN) | (apply CW.region) | (apply EX.inN)))
  refine EX.back (k + 1, out ++ [r], oo', oc') (by repeat (first | exact trivial | refine ⟨rfl, ?_⟩)) ⟨by dsimp only; omega, by simp [hkl], rfl, ?_, e9⟩ (by dsimp only; omega)
  refine ho9.wk (fun b hb => ⟨by have := hb.1; omega, fun hg => ?_⟩) (fun g hg hh => hh.2 hg)
  rcases hnb b hg with hh | hh
  · exact hb.2 hh
  · have := hb.1; omega
end Go.Proofs.YtikigaeihdmcaaaGreatDoor

