/-
  Package proc: Ins, Outs; watchkeep.straight: walked.
-/
import Derived.Test.YthojdcbpglipeaaProc2
import Derived.Test.YthojdcbpglipeaaLitF
import Derived.Test.YthojdcbpglipeaaRet
set_option linter.unusedVariables false
set_option linter.unusedSimpArgs false
namespace Go.Proofs.Ythojdcbpglipeaa
open Go.RowKit

noncomputable def listE (p : LProc) (n : Int) : Int := if chkPr p ≠ 0 then chkPr p else if n < 0 ∨ n ≥ p.1.length then 1 else 0
theorem list_ok (w0 : World) {so fo : Option Addr} {sc fc : Nat} {ns : List LNode} {fl : List LFlow} (hs : Sl w0 (Old w0) so sc ns) (hf : Sl w0 (Old w0) fo fc fl) (n : Int) {fv : Value} (sel : List Int)
    (hfv : fl.length ≤ 30 → ∀ w, Ext w0 w → FnV Try.prog fv [procV so sc fo fc ns.length fl.length, .int .i64 n] w fun v w' => Own w' w.heap.size 3 Non v sel ∧ Ext w w') :
    Rt Try.prog 176 [procV so sc fo fc ns.length fl.length, .int .i64 n, fv].toArray w0 fun v w' => ∃ x, v = .tuple ⟨[x, .int .i64 (listE (ns, fl) n)]⟩ ∧ Own w' w0.heap.size 3 Non x (if listE (ns, fl) n = 0 then sel else []) ∧ Ext w0 w' := by
  have hms := hs.len63
  refine Rt.enter3 Try.func176 Try.ntmps176 rfl rfl ?_
  have hE := Ext.refl w0
  (repeat (first | (apply CW.seq) | (apply CW.region)))
  refine WL.boxB rfl rfl rfl fun w1 hb3 e1 => ?_
  have hE := hE.trans e1
  unfold listE
  dsimp only
  (repeat (first | (apply WL.pure; rfl; rfl; rfl) | (apply WL.nil) | (apply EX.thenN) | (apply CW.seq) | (apply CW.region) | (apply WL.ldA; rfl; rfl; rfl; assumption; rfl)))
  refine WL.call rfl rfl rfl (Check_pr w1 (hs.up hE) (hf.up hE)) ?_
  rintro _ w2 ⟨rfl, e2⟩
  have hb3 := hb3.ext e2
  have hE := hE.trans e2
  (repeat (first | (apply WL.pure; rfl; rfl; rfl) | (apply WL.nil) | (apply EX.thenN) | (apply CW.seq) | (apply CW.region)))
  refine CW.cond rfl (fun h => ?_) (fun h => ?_)
  · have h : chkPr (ns, fl) ≠ 0 := by simpa using h
    (repeat (first | (apply WL.pure; rfl; rfl; rfl) | (apply WL.nil) | (apply EX.thenN) | (apply CW.seq) | (apply CW.region) | (apply CW.ret) | (apply EX.thenR)))
    refine EX.ret2 rfl rfl rfl ⟨_, by rw [if_pos h], ?_, hE⟩
    rw [if_pos h, if_neg h]; exact Own.nil
  have h : chkPr (ns, fl) = 0 := by simpa using h
  have hok := chkPr_ok h
  rw [if_neg (by simp [h])]
  clear h
  (repeat (first | (apply WL.pure; rfl; rfl; rfl) | (apply EX.thenN) | (apply CW.seq) | (apply CW.region) | (apply CW.skip)))
  (refine WL.lookG rfl rfl (fun h => ?_) (fun h => ?_))
  · (repeat (first | (apply WL.pure; rfl; rfl; rfl) | (apply WL.nil) | (apply EX.thenN) | (apply CW.seq) | (apply CW.region) | (apply WL.pass; rfl; rfl) | (apply CW.condT; rfl) | (apply CW.ret) | (apply EX.thenR)))
    have e : (if n < 0 ∨ n ≥ (ns.length : Int) then (1 : Int) else 0) = 1 := if_pos (.inl (by simpa using h))
    exact EX.ret2 rfl rfl rfl ⟨_, by rw [e], by rw [e, if_neg (by decide)]; exact Own.nil, hE⟩
  have h1 : ¬ n < 0 := by simpa using h
  clear h
  (repeat (first | (apply WL.pure; rfl; rfl; rfl) | (apply WL.nil) | (apply EX.thenN) | (apply WL.lenS; rfl; rfl; rfl) | (apply WL.fa; rfl; rfl; rfl) | (apply WL.ld; rfl; rfl; rfl; assumption; rfl)))
  refine CW.cond rfl (fun h => ?_) (fun h => ?_)
  · have h : n ≥ ns.length := by simpa using h
    (repeat (first | (apply WL.pure; rfl; rfl; rfl) | (apply WL.nil) | (apply EX.thenN) | (apply CW.seq) | (apply CW.region) | (apply CW.ret) | (apply EX.thenR)))
    have e : (if n < 0 ∨ n ≥ (ns.length : Int) then (1 : Int) else 0) = 1 := if_pos (.inr h)
    exact EX.ret2 rfl rfl rfl ⟨_, by rw [e], by rw [e, if_neg (by decide)]; exact Own.nil, hE⟩
  have h2 : ¬ n ≥ ns.length := by simpa using h
  rw [if_neg (by omega), if_pos rfl]
  clear h
  (repeat (first | (apply WL.pure; rfl; rfl; rfl) | (apply EX.thenN) | (apply CW.seq) | (apply CW.region) | (apply WL.ldA; rfl; rfl; rfl; assumption; rfl) | (apply CW.skip)))
  refine WL.callF rfl rfl rfl rfl (hfv hok.f w2 hE) ?_
  rintro x w3 ⟨ho, e3⟩
  (repeat (first | (apply WL.pure; rfl; rfl; rfl) | (apply WL.nil) | (apply EX.thenN) | (apply CW.ret)))
  exact EX.ret2 rfl rfl rfl ⟨_, rfl, ho.low hE.size, hE.trans e3⟩
theorem Ins_ok (w0 : World) {so fo : Option Addr} {sc fc : Nat} {ns : List LNode} {fl : List LFlow} (hs : Sl w0 (Old w0) so sc ns) (hf : Sl w0 (Old w0) fo fc fl) (n : Int) :
    Rt Try.prog 146 [procV so sc fo fc ns.length fl.length, .int .i64 n].toArray w0 fun v w' => ∃ x, v = .tuple ⟨[x, .int .i64 (listE (ns, fl) n)]⟩ ∧ Own w' w0.heap.size 3 Non x (if listE (ns, fl) n = 0 then insL fl n else []) ∧ Ext w0 w' := by
  refine Rt.enter2 Try.func146 Try.ntmps146 rfl rfl ?_
  (repeat (first | (apply CW.seq) | (apply CW.region)))
  refine WL.boxB rfl rfl rfl fun w1 hb e1 => ?_
  (repeat (first | (apply WL.pure; rfl; rfl; rfl) | (apply WL.nil) | (apply EX.thenN) | (apply CW.seq) | (apply CW.region) | (apply WL.ldA; rfl; rfl; rfl; assumption; rfl)))
  refine WL.call rfl rfl rfl (list_ok w1 (hs.up e1) (hf.up e1) n (insL fl n) (fun hl w hw => FnV.mk (cs := []) (ins_ok w (hf.up (e1.trans hw)) n (by omega)))) ?_
  rintro _ w2 ⟨x, rfl, ho, e2⟩
  (repeat (first | (apply WL.pure; rfl; rfl; rfl) | (apply WL.nil) | (apply EX.thenN) | (apply CW.ret)))
  exact EX.ret2 rfl rfl rfl ⟨x, rfl, ho.low e1.size, e1.trans e2⟩
theorem Outs_ok (w0 : World) {so fo : Option Addr} {sc fc : Nat} {ns : List LNode} {fl : List LFlow} (hs : Sl w0 (Old w0) so sc ns) (hf : Sl w0 (Old w0) fo fc fl) (n : Int) :
    Rt Try.prog 153 [procV so sc fo fc ns.length fl.length, .int .i64 n].toArray w0 fun v w' => ∃ x, v = .tuple ⟨[x, .int .i64 (listE (ns, fl) n)]⟩ ∧ Own w' w0.heap.size 3 Non x (if listE (ns, fl) n = 0 then outsL fl n else []) ∧ Ext w0 w' := by
  refine Rt.enter2 Try.func153 Try.ntmps153 rfl rfl ?_
  (repeat (first | (apply CW.seq) | (apply CW.region)))
  refine WL.boxB rfl rfl rfl fun w1 hb e1 => ?_
  (repeat (first | (apply WL.pure; rfl; rfl; rfl) | (apply WL.nil) | (apply EX.thenN) | (apply CW.seq) | (apply CW.region) | (apply WL.ldA; rfl; rfl; rfl; assumption; rfl)))
  refine WL.call rfl rfl rfl (list_ok w1 (hs.up e1) (hf.up e1) n (outsL fl n) (fun hl w hw => FnV.mk (cs := []) (outs_ok w (hf.up (e1.trans hw)) n (by omega)))) ?_
  rintro _ w2 ⟨x, rfl, ho, e2⟩
  (repeat (first | (apply WL.pure; rfl; rfl; rfl) | (apply WL.nil) | (apply EX.thenN) | (apply CW.ret)))
  exact EX.ret2 rfl rfl rfl ⟨x, rfl, ho.low e1.size, e1.trans e2⟩
def straightP : LProc := ([(⟨#[97]⟩, 1), (⟨#[98]⟩, 4), (⟨#[99]⟩, 2)], [(0, 1), (1, 2)])
theorem rdNd (w : World) (F : Nat → Prop) (s : ByteArray) (k : Int) (h : s.size ≤ maxLen) : Rd w F (.agg [.string s, .int .i64 k].toArray) ((s, k) : LNode) := Rd.mkPr (c1 := [.string s]) (c2 := [.int .i64 k]) ⟨rfl, h⟩ (rd_mkInt _ _ _)
theorem rdFl (w : World) (F : Nat → Prop) (a b : Int) : Rd w F (.agg [.int .i64 a, .int .i64 b].toArray) ((a, b) : LFlow) := Rd.mkPr (c1 := [.int .i64 a]) (c2 := [.int .i64 b]) (rd_mkInt _ _ _) (rd_mkInt _ _ _)
theorem straight_ok (w0 : World) : Rt Try.prog 38 [].toArray w0 fun v w' => (∃ so sc fo fc, v = procV so sc fo fc 3 2 ∧ Sl w' (Old w') so sc straightP.1 ∧ Sl w' (Old w') fo fc straightP.2) ∧ Ext w0 w' := by
  refine Rt.enter0 Try.func38 Try.ntmps38 rfl ?_
  (repeat (first | (apply CW.seq) | (apply CW.region)))
  refine WL.alloc rfl rfl (fun w1 hb hE1 => ?_)
  have hc1 : w0.heap.size + 1 ≤ w1.heap.size := hb.lt
  generalize hcc : w0.heap.size + 1 = c at hc1
  (repeat (first | (apply WL.nil) | (apply EX.thenN) | (apply CW.seq) | (apply CW.region)))
  refine WL.build rfl rfl rfl rfl ?_
  refine WL.build rfl rfl rfl rfl ?_
  refine WL.build rfl rfl rfl rfl ?_
  refine WL.litF c (by omega) straightP.1 rfl rfl rfl rfl rfl (.cons (rdNd _ _ _ _ (by decide)) (.cons (rdNd _ _ _ _ (by decide)) (.cons (rdNd _ _ _ _ (by decide)) .nil))) (by decide) (fun v2 w2 e2 r2 => ?_)
  have z2 := e2.size
  refine WL.build rfl rfl rfl rfl ?_
  refine WL.build rfl rfl rfl rfl ?_
  refine WL.litF c (by omega) straightP.2 rfl rfl rfl rfl rfl (.cons (rdFl _ _ _ _) (.cons (rdFl _ _ _ _) .nil)) (by decide) (fun v3 w3 e3 r3 => ?_)
  have r2 := r2.upF e3
  have hb3 := hb.ext (e2.trans e3)
  have hE3 := hE1.trans (e2.trans e3)
  obtain ⟨a1, c1, rfl, s1⟩ := r2.sl
  obtain ⟨a2, c2, rfl, s2⟩ := r3.sl
  refine WL.build rfl rfl rfl rfl ?_
  skip
  refine WL.st rfl rfl rfl hb3 rfl rfl (ones_of rfl) (fun w4 hb4 hg4 => ?_)
  have hE4 : Ext w0 w4 := hE3.grown hg4 hE3.size (fun g hg => by cases hg; exact Nat.le_refl _)
  have hF : ∀ b, From c w3 b → w4.heap[b]? = w3.heap[b]? := fun b hb => hg4.block b hb.2 (fun e => by cases e; have := hb.1; omega)
  have hO : ∀ b, From c w3 b → Old w4 b := fun b hb => Nat.lt_of_lt_of_le hb.2 hg4.size
  (repeat (first | (apply WL.nil) | (apply EX.thenN) | (apply CW.ret)))
  exact EX.retC rfl rfl hb4 rfl ⟨⟨a1, c1, a2, c2, rfl, s1.mono hF hO, s2.mono hF hO⟩, hE4⟩
theorem straight_chk : chkPr straightP = 0 := by
  have hst : startsL straightP.1 straightP.1.length = [0] := by decide
  have hok : okG (flowsG straightP.1.length straightP.2) := (chkG_ok (by decide : chkG (flowsG straightP.1.length straightP.2) = 0)).1
  have hR : chkR straightP = 0 := by
    have := chkR_eq (ns := straightP.1) (fl := straightP.2) hst
    rw [rchB_run hok (by intro x hx; simp at hx; subst hx; decide) 20 (by decide)] at this
    rw [show chkR straightP = chkR (straightP.1, straightP.2) from rfl, this]
    decide
  unfold chkPr
  rw [hR, if_neg (by decide), if_neg (by decide), if_neg (by decide), if_neg (by decide), if_neg (by decide)]
end Go.Proofs.Ythojdcbpglipeaa
