/-
  LassoStutters walked: it answers true.
-/
import Derived.Test.YtdepjllboiolpaaStut
import Derived.Test.YtdepjllboiolpaaStutW
import Derived.Test.YtdepjllboiolpaaIns3
set_option linter.unusedVariables false
set_option linter.unusedSimpArgs false
namespace Go.Proofs.Ytdepjllboiolpaa
open Go.RowKit

theorem insL_eq {l : List Nat} {k : Nat} (hk : k < l.length) : l.take k ++ l[k] :: l.drop k = insL l k := by
  unfold insL
  simp [List.getD_eq_getElem?_getD, hk]
theorem OwnAt.cellN {w : World} {B e g off cap k : Nat} {cur : Array Value} {xs : List Nat} (hA : OwnAt w B e Non g off cap cur xs) (h : k < xs.length) : Cells w g (off + (k : Int).toNat * sz Nat) [.int .u64 (xs[k] : Int)] ∧ xs[k] < 18446744073709551616 := by
  have ho : Own w B e Non (.slice (some ⟨g, off, none⟩) xs.length cap) xs := .inr ⟨g, off, cap, cur, rfl, hA⟩
  obtain ⟨ao, cp, hv, hsl⟩ := ho.sl
  cases hv
  obtain ⟨b, o, hbo, _, es, hc, hr⟩ := hsl.el k h
  cases hbo
  obtain ⟨rfl, h2⟩ := hr
  exact ⟨hc, h2⟩
theorem truthL_chk {s l : List Nat} {t : Ltl} {x : Bool} (hT : truthL s l t = (x, true)) : chkW s l = 0 := by
  unfold truthL holdsE at hT
  by_cases h1 : (chkF t 1 0).1 ≠ 0
  · rw [if_pos h1, if_pos (.inl h1)] at hT; simp at hT
  · rw [if_neg h1] at hT
    by_cases h2 : chkW s l ≠ 0
    · rw [if_pos h2, if_pos (.inl h2)] at hT; simp at hT
    · exact Classical.not_not.1 h2
theorem EX.tailI {n : Nat} {σ : Sg} {w : World} {S : Type} {σs : S → Sg} {I : S → World → Prop} (s : S) (hs : Sub (σs s) σ) (hI : I s w) : EX (fun e a w' => e = Exit.normal ∧ (Exit.normal = Exit.normal ∧ ∃ s, Fr n (σs s) a ∧ I s w')) .normal n σ w := by
  unfold EX; exact fun a ha => ⟨rfl, rfl, s, ha.sub hs, hI⟩
set_option maxHeartbeats 1000000 in
theorem lassoStutters_ok (w : World) {t : Ltl} {v0 : Value} {so lo : Option Addr} {sc lc : Nat} {s l : List Nat} (ht : RL w v0 t) (hs : Sl w (Old w) so sc s) (hl : Sl w (Old w) lo lc l) (i : Int) :
    Rt Try.prog 6 [v0, wordV so sc lo lc s l, .int .i64 i].toArray w fun v w' => v = .bool true ∧ Ext w w' := by
  obtain ⟨ao, cap, rfl, hk⟩ := Rd.ltl ht
  refine Rt.enter3 Try.func6 Try.ntmps6 rfl rfl ?_
  (repeat (first | (apply WL.add; rfl; rfl; rfl; rfl; omega; omega) | (apply QL.add; rfl; rfl; rfl; rfl; omega; omega) | (apply WL.sub'; rfl; rfl; rfl; rfl; omega; omega) | (apply QL.sub'; rfl; rfl; rfl; rfl; omega; omega) | (apply WL.mul; rfl; rfl; rfl; rfl; omega; omega) | (apply QL.mul; rfl; rfl; rfl; rfl; omega; omega) | (apply WL.pure; rfl; rfl; rfl) | (apply QL.pure; rfl; rfl; rfl) | (apply WL.nil) | (apply EX.thenN) | (apply CW.seq) | (apply CW.region) | (apply WL.pass; rfl; rfl) | (apply QL.pass; rfl; rfl) | (apply WL.eqB; rfl; rfl; rfl; rfl) | (apply QL.eqB; rfl; rfl; rfl; rfl) | (apply WL.neB; rfl; rfl; rfl; rfl) | (apply QL.neB; rfl; rfl; rfl; rfl) | (apply WL.lenS; rfl; rfl; rfl) | (apply QL.lenS; rfl; rfl; rfl) | (apply WL.makeFunc; rfl; rfl; rfl; rfl) | (apply QL.makeFunc; rfl; rfl; rfl; rfl) | (apply WL.fa; rfl; rfl; rfl) | (apply QL.fa; rfl; rfl; rfl) | (apply WL.nck; rfl; rfl; rfl) | (apply QL.nck; rfl; rfl; rfl) | (apply WL.ld; rfl; rfl; rfl; assumption; rfl) | (apply QL.ld; rfl; rfl; rfl; assumption; rfl) | (apply WL.ldA; rfl; rfl; rfl; assumption; rfl) | (apply QL.ldA; rfl; rfl; rfl; assumption; rfl) | (apply CW.block) | (apply EX.inN) | (apply CW.condT; rfl) | (apply CW.condF; rfl) | (apply CW.exit) | (apply EX.thenX) | (apply EX.inX) | (apply EX.inXne; rfl) | (apply CW.ret) | (apply EX.thenR) | (apply EX.inR) | (apply CW.skip) | (refine WL.lenO rfl rfl rfl (by assumption) ?_) | (apply WL.isNil; rfl; rfl; rfl) | (apply CW.draw; exact mixed; kernel_rfl)))
  refine WL.boxB rfl rfl rfl fun w1 hf hE1 => ?_
  (repeat (first | (apply WL.add; rfl; rfl; rfl; rfl; omega; omega) | (apply QL.add; rfl; rfl; rfl; rfl; omega; omega) | (apply WL.sub'; rfl; rfl; rfl; rfl; omega; omega) | (apply QL.sub'; rfl; rfl; rfl; rfl; omega; omega) | (apply WL.mul; rfl; rfl; rfl; rfl; omega; omega) | (apply QL.mul; rfl; rfl; rfl; rfl; omega; omega) | (apply WL.pure; rfl; rfl; rfl) | (apply QL.pure; rfl; rfl; rfl) | (apply WL.nil) | (apply EX.thenN) | (apply CW.seq) | (apply CW.region) | (apply WL.pass; rfl; rfl) | (apply QL.pass; rfl; rfl) | (apply WL.eqB; rfl; rfl; rfl; rfl) | (apply QL.eqB; rfl; rfl; rfl; rfl) | (apply WL.neB; rfl; rfl; rfl; rfl) | (apply QL.neB; rfl; rfl; rfl; rfl) | (apply WL.lenS; rfl; rfl; rfl) | (apply QL.lenS; rfl; rfl; rfl) | (apply WL.makeFunc; rfl; rfl; rfl; rfl) | (apply QL.makeFunc; rfl; rfl; rfl; rfl) | (apply WL.fa; rfl; rfl; rfl) | (apply QL.fa; rfl; rfl; rfl) | (apply WL.nck; rfl; rfl; rfl) | (apply QL.nck; rfl; rfl; rfl) | (apply WL.ld; rfl; rfl; rfl; assumption; rfl) | (apply QL.ld; rfl; rfl; rfl; assumption; rfl) | (apply WL.ldA; rfl; rfl; rfl; assumption; rfl) | (apply QL.ldA; rfl; rfl; rfl; assumption; rfl) | (apply CW.block) | (apply EX.inN) | (apply CW.condT; rfl) | (apply CW.condF; rfl) | (apply CW.exit) | (apply EX.thenX) | (apply EX.inX) | (apply EX.inXne; rfl) | (apply CW.ret) | (apply EX.thenR) | (apply EX.inR) | (apply CW.skip) | (refine WL.lenO rfl rfl rfl (by assumption) ?_) | (apply WL.isNil; rfl; rfl; rfl) | (apply CW.draw; exact mixed; kernel_rfl)))
  refine WL.boxB rfl rfl rfl fun w2 hw hE2 => ?_
  have hf := hf.ext hE2
  have hE2 := hE1.trans hE2
  (repeat (first | (apply WL.add; rfl; rfl; rfl; rfl; omega; omega) | (apply QL.add; rfl; rfl; rfl; rfl; omega; omega) | (apply WL.sub'; rfl; rfl; rfl; rfl; omega; omega) | (apply QL.sub'; rfl; rfl; rfl; rfl; omega; omega) | (apply WL.mul; rfl; rfl; rfl; rfl; omega; omega) | (apply QL.mul; rfl; rfl; rfl; rfl; omega; omega) | (apply WL.pure; rfl; rfl; rfl) | (apply QL.pure; rfl; rfl; rfl) | (apply WL.nil) | (apply EX.thenN) | (apply CW.seq) | (apply CW.region) | (apply WL.pass; rfl; rfl) | (apply QL.pass; rfl; rfl) | (apply WL.eqB; rfl; rfl; rfl; rfl) | (apply QL.eqB; rfl; rfl; rfl; rfl) | (apply WL.neB; rfl; rfl; rfl; rfl) | (apply QL.neB; rfl; rfl; rfl; rfl) | (apply WL.lenS; rfl; rfl; rfl) | (apply QL.lenS; rfl; rfl; rfl) | (apply WL.makeFunc; rfl; rfl; rfl; rfl) | (apply QL.makeFunc; rfl; rfl; rfl; rfl) | (apply WL.fa; rfl; rfl; rfl) | (apply QL.fa; rfl; rfl; rfl) | (apply WL.nck; rfl; rfl; rfl) | (apply QL.nck; rfl; rfl; rfl) | (apply WL.ld; rfl; rfl; rfl; assumption; rfl) | (apply QL.ld; rfl; rfl; rfl; assumption; rfl) | (apply WL.ldA; rfl; rfl; rfl; assumption; rfl) | (apply QL.ldA; rfl; rfl; rfl; assumption; rfl) | (apply CW.block) | (apply EX.inN) | (apply CW.condT; rfl) | (apply CW.condF; rfl) | (apply CW.exit) | (apply EX.thenX) | (apply EX.inX) | (apply EX.inXne; rfl) | (apply CW.ret) | (apply EX.thenR) | (apply EX.inR) | (apply CW.skip) | (refine WL.lenO rfl rfl rfl (by assumption) ?_) | (apply WL.isNil; rfl; rfl; rfl) | (apply CW.draw; exact mixed; kernel_rfl)))
  refine WL.call rfl rfl rfl (now_ok w2) ?_
  rintro v w3 ⟨rfl, hE3⟩
  have hf3 := hf.ext hE3
  have hw3 := hw.ext hE3
  have hE3 := hE2.trans hE3
  have hlt1 := hf3.lt
  have hlt2 := hw3.lt
  clear hf hw hE1 hE2
  (repeat (first | (apply WL.add; rfl; rfl; rfl; rfl; omega; omega) | (apply QL.add; rfl; rfl; rfl; rfl; omega; omega) | (apply WL.sub'; rfl; rfl; rfl; rfl; omega; omega) | (apply QL.sub'; rfl; rfl; rfl; rfl; omega; omega) | (apply WL.mul; rfl; rfl; rfl; rfl; omega; omega) | (apply QL.mul; rfl; rfl; rfl; rfl; omega; omega) | (apply WL.pure; rfl; rfl; rfl) | (apply QL.pure; rfl; rfl; rfl) | (apply WL.nil) | (apply EX.thenN) | (apply CW.seq) | (apply CW.region) | (apply WL.pass; rfl; rfl) | (apply QL.pass; rfl; rfl) | (apply WL.eqB; rfl; rfl; rfl; rfl) | (apply QL.eqB; rfl; rfl; rfl; rfl) | (apply WL.neB; rfl; rfl; rfl; rfl) | (apply QL.neB; rfl; rfl; rfl; rfl) | (apply WL.lenS; rfl; rfl; rfl) | (apply QL.lenS; rfl; rfl; rfl) | (apply WL.makeFunc; rfl; rfl; rfl; rfl) | (apply QL.makeFunc; rfl; rfl; rfl; rfl) | (apply WL.fa; rfl; rfl; rfl) | (apply QL.fa; rfl; rfl; rfl) | (apply WL.nck; rfl; rfl; rfl) | (apply QL.nck; rfl; rfl; rfl) | (apply WL.ld; rfl; rfl; rfl; assumption; rfl) | (apply QL.ld; rfl; rfl; rfl; assumption; rfl) | (apply WL.ldA; rfl; rfl; rfl; assumption; rfl) | (apply QL.ldA; rfl; rfl; rfl; assumption; rfl) | (apply CW.block) | (apply EX.inN) | (apply CW.condT; rfl) | (apply CW.condF; rfl) | (apply CW.exit) | (apply EX.thenX) | (apply EX.inX) | (apply EX.inXne; rfl) | (apply CW.ret) | (apply EX.thenR) | (apply EX.inR) | (apply CW.skip) | (refine WL.lenO rfl rfl rfl (by assumption) ?_) | (apply WL.isNil; rfl; rfl; rfl) | (apply CW.draw; exact mixed; kernel_rfl)))
  refine WL.call rfl rfl rfl (truth_ok w3 (hk.up hE3) (hs.up hE3) (hl.up hE3) (fun _ h => h)) ?_
  rintro _ w4 ⟨rfl, e4⟩
  have hf4 := hf3.ext e4
  have hw4 := hw3.ext e4
  have hE4 := hE3.trans e4
  clear hf3 hw3 hE3 e4
  generalize hTr : truthL s l t = T at *
  obtain ⟨T1, T2⟩ := T
  (repeat (first | (apply WL.add; rfl; rfl; rfl; rfl; omega; omega) | (apply QL.add; rfl; rfl; rfl; rfl; omega; omega) | (apply WL.sub'; rfl; rfl; rfl; rfl; omega; omega) | (apply QL.sub'; rfl; rfl; rfl; rfl; omega; omega) | (apply WL.mul; rfl; rfl; rfl; rfl; omega; omega) | (apply QL.mul; rfl; rfl; rfl; rfl; omega; omega) | (apply WL.pure; rfl; rfl; rfl) | (apply QL.pure; rfl; rfl; rfl) | (apply WL.nil) | (apply EX.thenN) | (apply CW.seq) | (apply CW.region) | (apply WL.pass; rfl; rfl) | (apply QL.pass; rfl; rfl) | (apply WL.eqB; rfl; rfl; rfl; rfl) | (apply QL.eqB; rfl; rfl; rfl; rfl) | (apply WL.neB; rfl; rfl; rfl; rfl) | (apply QL.neB; rfl; rfl; rfl; rfl) | (apply WL.lenS; rfl; rfl; rfl) | (apply QL.lenS; rfl; rfl; rfl) | (apply WL.makeFunc; rfl; rfl; rfl; rfl) | (apply QL.makeFunc; rfl; rfl; rfl; rfl) | (apply WL.fa; rfl; rfl; rfl) | (apply QL.fa; rfl; rfl; rfl) | (apply WL.nck; rfl; rfl; rfl) | (apply QL.nck; rfl; rfl; rfl) | (apply WL.ld; rfl; rfl; rfl; assumption; rfl) | (apply QL.ld; rfl; rfl; rfl; assumption; rfl) | (apply WL.ldA; rfl; rfl; rfl; assumption; rfl) | (apply QL.ldA; rfl; rfl; rfl; assumption; rfl) | (apply CW.block) | (apply EX.inN) | (apply CW.condT; rfl) | (apply CW.condF; rfl) | (apply CW.exit) | (apply EX.thenX) | (apply EX.inX) | (apply EX.inXne; rfl) | (apply CW.ret) | (apply EX.thenR) | (apply EX.inR) | (apply CW.skip) | (refine WL.lenO rfl rfl rfl (by assumption) ?_) | (apply WL.isNil; rfl; rfl; rfl) | (apply CW.draw; exact mixed; kernel_rfl)))
  cases T2 with
  | false =>
    (repeat (first | (apply WL.add; rfl; rfl; rfl; rfl; omega; omega) | (apply QL.add; rfl; rfl; rfl; rfl; omega; omega) | (apply WL.sub'; rfl; rfl; rfl; rfl; omega; omega) | (apply QL.sub'; rfl; rfl; rfl; rfl; omega; omega) | (apply WL.mul; rfl; rfl; rfl; rfl; omega; omega) | (apply QL.mul; rfl; rfl; rfl; rfl; omega; omega) | (apply WL.pure; rfl; rfl; rfl) | (apply QL.pure; rfl; rfl; rfl) | (apply WL.nil) | (apply EX.thenN) | (apply CW.seq) | (apply CW.region) | (apply WL.pass; rfl; rfl) | (apply QL.pass; rfl; rfl) | (apply WL.eqB; rfl; rfl; rfl; rfl) | (apply QL.eqB; rfl; rfl; rfl; rfl) | (apply WL.neB; rfl; rfl; rfl; rfl) | (apply QL.neB; rfl; rfl; rfl; rfl) | (apply WL.lenS; rfl; rfl; rfl) | (apply QL.lenS; rfl; rfl; rfl) | (apply WL.makeFunc; rfl; rfl; rfl; rfl) | (apply QL.makeFunc; rfl; rfl; rfl; rfl) | (apply WL.fa; rfl; rfl; rfl) | (apply QL.fa; rfl; rfl; rfl) | (apply WL.nck; rfl; rfl; rfl) | (apply QL.nck; rfl; rfl; rfl) | (apply WL.ld; rfl; rfl; rfl; assumption; rfl) | (apply QL.ld; rfl; rfl; rfl; assumption; rfl) | (apply WL.ldA; rfl; rfl; rfl; assumption; rfl) | (apply QL.ldA; rfl; rfl; rfl; assumption; rfl) | (apply CW.block) | (apply EX.inN) | (apply CW.condT; rfl) | (apply CW.condF; rfl) | (apply CW.exit) | (apply EX.thenX) | (apply EX.inX) | (apply EX.inXne; rfl) | (apply CW.ret) | (apply EX.thenR) | (apply EX.inR) | (apply CW.skip) | (refine WL.lenO rfl rfl rfl (by assumption) ?_) | (apply WL.isNil; rfl; rfl; rfl) | (apply CW.draw; exact mixed; kernel_rfl)))
    exact EX.ret1 rfl rfl ⟨rfl, hE4⟩
  | true =>
  (repeat (first | (apply WL.add; rfl; rfl; rfl; rfl; omega; omega) | (apply QL.add; rfl; rfl; rfl; rfl; omega; omega) | (apply WL.sub'; rfl; rfl; rfl; rfl; omega; omega) | (apply QL.sub'; rfl; rfl; rfl; rfl; omega; omega) | (apply WL.mul; rfl; rfl; rfl; rfl; omega; omega) | (apply QL.mul; rfl; rfl; rfl; rfl; omega; omega) | (apply WL.pure; rfl; rfl; rfl) | (apply QL.pure; rfl; rfl; rfl) | (apply WL.nil) | (apply EX.thenN) | (apply CW.seq) | (apply CW.region) | (apply WL.pass; rfl; rfl) | (apply QL.pass; rfl; rfl) | (apply WL.eqB; rfl; rfl; rfl; rfl) | (apply QL.eqB; rfl; rfl; rfl; rfl) | (apply WL.neB; rfl; rfl; rfl; rfl) | (apply QL.neB; rfl; rfl; rfl; rfl) | (apply WL.lenS; rfl; rfl; rfl) | (apply QL.lenS; rfl; rfl; rfl) | (apply WL.makeFunc; rfl; rfl; rfl; rfl) | (apply QL.makeFunc; rfl; rfl; rfl; rfl) | (apply WL.fa; rfl; rfl; rfl) | (apply QL.fa; rfl; rfl; rfl) | (apply WL.nck; rfl; rfl; rfl) | (apply QL.nck; rfl; rfl; rfl) | (apply WL.ld; rfl; rfl; rfl; assumption; rfl) | (apply QL.ld; rfl; rfl; rfl; assumption; rfl) | (apply WL.ldA; rfl; rfl; rfl; assumption; rfl) | (apply QL.ldA; rfl; rfl; rfl; assumption; rfl) | (apply CW.block) | (apply EX.inN) | (apply CW.condT; rfl) | (apply CW.condF; rfl) | (apply CW.exit) | (apply EX.thenX) | (apply EX.inX) | (apply EX.inXne; rfl) | (apply CW.ret) | (apply EX.thenR) | (apply EX.inR) | (apply CW.skip) | (refine WL.lenO rfl rfl rfl (by assumption) ?_) | (apply WL.isNil; rfl; rfl; rfl) | (apply CW.draw; exact mixed; kernel_rfl)))
  refine WL.call rfl rfl rfl (plainly_ok t.nodes t (Nat.le_refl _) w4 ao cap (hk.up hE4)) ?_
  rintro _ w5 ⟨rfl, e5⟩
  have hf5 := hf4.ext e5
  have hw5 := hw4.ext e5
  have hE5 := hE4.trans e5
  clear hf4 hw4 hE4 e5
  (repeat (first | (apply WL.add; rfl; rfl; rfl; rfl; omega; omega) | (apply QL.add; rfl; rfl; rfl; rfl; omega; omega) | (apply WL.sub'; rfl; rfl; rfl; rfl; omega; omega) | (apply QL.sub'; rfl; rfl; rfl; rfl; omega; omega) | (apply WL.mul; rfl; rfl; rfl; rfl; omega; omega) | (apply QL.mul; rfl; rfl; rfl; rfl; omega; omega) | (apply WL.pure; rfl; rfl; rfl) | (apply QL.pure; rfl; rfl; rfl) | (apply WL.nil) | (apply EX.thenN) | (apply CW.seq) | (apply CW.region) | (apply WL.pass; rfl; rfl) | (apply QL.pass; rfl; rfl) | (apply WL.eqB; rfl; rfl; rfl; rfl) | (apply QL.eqB; rfl; rfl; rfl; rfl) | (apply WL.neB; rfl; rfl; rfl; rfl) | (apply QL.neB; rfl; rfl; rfl; rfl) | (apply WL.lenS; rfl; rfl; rfl) | (apply QL.lenS; rfl; rfl; rfl) | (apply WL.makeFunc; rfl; rfl; rfl; rfl) | (apply QL.makeFunc; rfl; rfl; rfl; rfl) | (apply WL.fa; rfl; rfl; rfl) | (apply QL.fa; rfl; rfl; rfl) | (apply WL.nck; rfl; rfl; rfl) | (apply QL.nck; rfl; rfl; rfl) | (apply WL.ld; rfl; rfl; rfl; assumption; rfl) | (apply QL.ld; rfl; rfl; rfl; assumption; rfl) | (apply WL.ldA; rfl; rfl; rfl; assumption; rfl) | (apply QL.ldA; rfl; rfl; rfl; assumption; rfl) | (apply CW.block) | (apply EX.inN) | (apply CW.condT; rfl) | (apply CW.condF; rfl) | (apply CW.exit) | (apply EX.thenX) | (apply EX.inX) | (apply EX.inXne; rfl) | (apply CW.ret) | (apply EX.thenR) | (apply EX.inR) | (apply CW.skip) | (refine WL.lenO rfl rfl rfl (by assumption) ?_) | (apply WL.isNil; rfl; rfl; rfl) | (apply CW.draw; exact mixed; kernel_rfl)))
  cases hx : noX t with
  | false =>
    (repeat (first | (apply WL.add; rfl; rfl; rfl; rfl; omega; omega) | (apply QL.add; rfl; rfl; rfl; rfl; omega; omega) | (apply WL.sub'; rfl; rfl; rfl; rfl; omega; omega) | (apply QL.sub'; rfl; rfl; rfl; rfl; omega; omega) | (apply WL.mul; rfl; rfl; rfl; rfl; omega; omega) | (apply QL.mul; rfl; rfl; rfl; rfl; omega; omega) | (apply WL.pure; rfl; rfl; rfl) | (apply QL.pure; rfl; rfl; rfl) | (apply WL.nil) | (apply EX.thenN) | (apply CW.seq) | (apply CW.region) | (apply WL.pass; rfl; rfl) | (apply QL.pass; rfl; rfl) | (apply WL.eqB; rfl; rfl; rfl; rfl) | (apply QL.eqB; rfl; rfl; rfl; rfl) | (apply WL.neB; rfl; rfl; rfl; rfl) | (apply QL.neB; rfl; rfl; rfl; rfl) | (apply WL.lenS; rfl; rfl; rfl) | (apply QL.lenS; rfl; rfl; rfl) | (apply WL.makeFunc; rfl; rfl; rfl; rfl) | (apply QL.makeFunc; rfl; rfl; rfl; rfl) | (apply WL.fa; rfl; rfl; rfl) | (apply QL.fa; rfl; rfl; rfl) | (apply WL.nck; rfl; rfl; rfl) | (apply QL.nck; rfl; rfl; rfl) | (apply WL.ld; rfl; rfl; rfl; assumption; rfl) | (apply QL.ld; rfl; rfl; rfl; assumption; rfl) | (apply WL.ldA; rfl; rfl; rfl; assumption; rfl) | (apply QL.ldA; rfl; rfl; rfl; assumption; rfl) | (apply CW.block) | (apply EX.inN) | (apply CW.condT; rfl) | (apply CW.condF; rfl) | (apply CW.exit) | (apply EX.thenX) | (apply EX.inX) | (apply EX.inXne; rfl) | (apply CW.ret) | (apply EX.thenR) | (apply EX.inR) | (apply CW.skip) | (refine WL.lenO rfl rfl rfl (by assumption) ?_) | (apply WL.isNil; rfl; rfl; rfl) | (apply CW.draw; exact mixed; kernel_rfl)))
    exact EX.ret1 rfl rfl ⟨rfl, hE5⟩
  | true =>
  have hc : chkW s l = 0 := truthL_chk hTr
  have hW := chkW_ok hc
  (repeat (first | (apply WL.add; rfl; rfl; rfl; rfl; omega; omega) | (apply QL.add; rfl; rfl; rfl; rfl; omega; omega) | (apply WL.sub'; rfl; rfl; rfl; rfl; omega; omega) | (apply QL.sub'; rfl; rfl; rfl; rfl; omega; omega) | (apply WL.mul; rfl; rfl; rfl; rfl; omega; omega) | (apply QL.mul; rfl; rfl; rfl; rfl; omega; omega) | (apply WL.pure; rfl; rfl; rfl) | (apply QL.pure; rfl; rfl; rfl) | (apply WL.nil) | (apply EX.thenN) | (apply CW.seq) | (apply CW.region) | (apply WL.pass; rfl; rfl) | (apply QL.pass; rfl; rfl) | (apply WL.eqB; rfl; rfl; rfl; rfl) | (apply QL.eqB; rfl; rfl; rfl; rfl) | (apply WL.neB; rfl; rfl; rfl; rfl) | (apply QL.neB; rfl; rfl; rfl; rfl) | (apply WL.lenS; rfl; rfl; rfl) | (apply QL.lenS; rfl; rfl; rfl) | (apply WL.makeFunc; rfl; rfl; rfl; rfl) | (apply QL.makeFunc; rfl; rfl; rfl; rfl) | (apply WL.fa; rfl; rfl; rfl) | (apply QL.fa; rfl; rfl; rfl) | (apply WL.nck; rfl; rfl; rfl) | (apply QL.nck; rfl; rfl; rfl) | (apply WL.ld; rfl; rfl; rfl; assumption; rfl) | (apply QL.ld; rfl; rfl; rfl; assumption; rfl) | (apply WL.ldA; rfl; rfl; rfl; assumption; rfl) | (apply QL.ldA; rfl; rfl; rfl; assumption; rfl) | (apply CW.block) | (apply EX.inN) | (apply CW.condT; rfl) | (apply CW.condF; rfl) | (apply CW.exit) | (apply EX.thenX) | (apply EX.inX) | (apply EX.inXne; rfl) | (apply CW.ret) | (apply EX.thenR) | (apply EX.inR) | (apply CW.skip) | (refine WL.lenO rfl rfl rfl (by assumption) ?_) | (apply WL.isNil; rfl; rfl; rfl)))
  have hE5' := hE5.trans (Ext.drew w5)
  have hwd := hw5.ext (Ext.drew w5)
  refine CW.drawC (fun x => Ext w5 x) [(0, true), (1, true), (3, true), (4, true)] 7 [2, 5, 6] [(8, false)] mixed (by kernel_rfl) (Ext.drew w5) ?_
  have hSE : ∀ w1, (fun x => Ext w5 x) w1 → Ext w5 w1 := fun _ h => h
  (repeat (first | (apply HL.add; rfl; rfl; rfl; rfl; rfl; omega; omega) | (apply HL.sub'; rfl; rfl; rfl; rfl; rfl; omega; omega) | (apply HL.pure; rfl; rfl; rfl; rfl) | (apply HL.pass; rfl; rfl; rfl) | (refine HL.fa rfl rfl rfl rfl ?_) | (apply HL.nck; rfl; rfl; rfl; rfl) | (refine HL.ld (by assumption) rfl rfl rfl rfl (by assumption) rfl ?_) | (refine HL.ldK (by assumption) rfl rfl rfl rfl (by assumption) rfl ?_) | (refine HL.ldA (by assumption) rfl rfl rfl rfl (by assumption) rfl ?_) | (refine HL.lenS rfl rfl rfl rfl ?_) | (refine HL.eqB rfl rfl rfl rfl rfl ?_) | (refine HL.neB rfl rfl rfl rfl rfl ?_) | (refine HL.build rfl rfl rfl rfl rfl ?_) | (apply HL.makeFunc; rfl; rfl; rfl; rfl; rfl) | (apply HL.nil)))
  refine EX.sub (by repeat (first | exact trivial | refine ⟨rfl, ?_⟩)) (ls_chain rfl rfl rfl rfl rfl rfl rfl rfl rfl (hs.up hE5) (hl.up hE5) (by omega) ?_)
  intro w6 b x y e6 hb6 hT6 hxb hyb hB6
  have hf6 := hf5.ext e6
  have hw6 := hw5.ext e6
  have hE6 := hE5.trans e6
  have hlt5 := hw5.lt
  (repeat (first | (apply WL.add; rfl; rfl; rfl; rfl; omega; omega) | (apply QL.add; rfl; rfl; rfl; rfl; omega; omega) | (apply WL.sub'; rfl; rfl; rfl; rfl; omega; omega) | (apply QL.sub'; rfl; rfl; rfl; rfl; omega; omega) | (apply WL.mul; rfl; rfl; rfl; rfl; omega; omega) | (apply QL.mul; rfl; rfl; rfl; rfl; omega; omega) | (apply WL.pure; rfl; rfl; rfl) | (apply QL.pure; rfl; rfl; rfl) | (apply WL.nil) | (apply EX.thenN) | (apply CW.seq) | (apply CW.region) | (apply WL.pass; rfl; rfl) | (apply QL.pass; rfl; rfl) | (apply WL.eqB; rfl; rfl; rfl; rfl) | (apply QL.eqB; rfl; rfl; rfl; rfl) | (apply WL.neB; rfl; rfl; rfl; rfl) | (apply QL.neB; rfl; rfl; rfl; rfl) | (apply WL.lenS; rfl; rfl; rfl) | (apply QL.lenS; rfl; rfl; rfl) | (apply WL.makeFunc; rfl; rfl; rfl; rfl) | (apply QL.makeFunc; rfl; rfl; rfl; rfl) | (apply WL.fa; rfl; rfl; rfl) | (apply QL.fa; rfl; rfl; rfl) | (apply WL.nck; rfl; rfl; rfl) | (apply QL.nck; rfl; rfl; rfl) | (apply WL.ld; rfl; rfl; rfl; assumption; rfl) | (apply QL.ld; rfl; rfl; rfl; assumption; rfl) | (apply WL.ldA; rfl; rfl; rfl; assumption; rfl) | (apply QL.ldA; rfl; rfl; rfl; assumption; rfl) | (apply CW.block) | (apply EX.inN) | (apply CW.condT; rfl) | (apply CW.condF; rfl) | (apply CW.exit) | (apply EX.thenX) | (apply EX.inX) | (apply EX.inXne; rfl) | (apply CW.ret) | (apply EX.thenR) | (apply EX.inR) | (apply CW.skip) | (refine WL.lenO rfl rfl rfl (by assumption) ?_) | (apply WL.isNil; rfl; rfl; rfl) | (apply CW.draw; exact mixed; kernel_rfl)))
  refine WL.call rfl rfl rfl (rest_ok w6 i _ (by omega) (by omega)) ?_
  have hn1 := Int.emod_nonneg i (show (s.length : Int) + l.length ≠ 0 by omega)
  have hn2 := Int.emod_lt_of_pos i (show 0 < (s.length : Int) + l.length by omega)
  obtain ⟨k, hki⟩ := Int.eq_ofNat_of_zero_le hn1
  rw [hki] at hn2 ⊢
  rintro _ w7 ⟨rfl, rfl⟩
  obtain ⟨xo, xc, rfl⟩ := hT6.o1.val
  obtain ⟨yo, yc, rfl⟩ := hT6.o2.val
  have hT := hT6.o1
  have hU := hT6.o2
  have hne := hT6.ne
  clear hw5 hE5' hwd
  have hlt6 := e6.size
  have hT2 : ∀ g, Value.ownBlock (.slice xo s.length xc) = some g → g ≠ b ∧ g < w6.heap.size ∧ w5.heap.size ≤ g := fun g hg => ⟨fun e => hxb (e ▸ hg), (hT.lt g hg).2.1, (hT.lt g hg).1⟩
  have hU2 : ∀ g, Value.ownBlock (.slice yo l.length yc) = some g → g ≠ b ∧ g < w6.heap.size ∧ w5.heap.size ≤ g := fun g hg => ⟨fun e => hyb (e ▸ hg), (hU.lt g hg).2.1, (hU.lt g hg).1⟩
  have hbb := hB6.lt
  have hnx : ∀ g, Value.ownBlock (.slice xo s.length xc) = some g → Value.ownBlock (.slice yo l.length yc) ≠ some g := hne
  (repeat (first | (apply WL.add; rfl; rfl; rfl; rfl; omega; omega) | (apply QL.add; rfl; rfl; rfl; rfl; omega; omega) | (apply WL.sub'; rfl; rfl; rfl; rfl; omega; omega) | (apply QL.sub'; rfl; rfl; rfl; rfl; omega; omega) | (apply WL.mul; rfl; rfl; rfl; rfl; omega; omega) | (apply QL.mul; rfl; rfl; rfl; rfl; omega; omega) | (apply WL.pure; rfl; rfl; rfl) | (apply QL.pure; rfl; rfl; rfl) | (apply WL.pass; rfl; rfl) | (apply QL.pass; rfl; rfl) | (apply WL.eqB; rfl; rfl; rfl; rfl) | (apply QL.eqB; rfl; rfl; rfl; rfl) | (apply WL.neB; rfl; rfl; rfl; rfl) | (apply QL.neB; rfl; rfl; rfl; rfl) | (apply WL.lenS; rfl; rfl; rfl) | (apply QL.lenS; rfl; rfl; rfl) | (apply WL.makeFunc; rfl; rfl; rfl; rfl) | (apply QL.makeFunc; rfl; rfl; rfl; rfl) | (apply WL.fa; rfl; rfl; rfl) | (apply QL.fa; rfl; rfl; rfl) | (apply WL.nck; rfl; rfl; rfl) | (apply QL.nck; rfl; rfl; rfl) | (apply WL.ld; rfl; rfl; rfl; assumption; rfl) | (apply QL.ld; rfl; rfl; rfl; assumption; rfl) | (apply WL.ldA; rfl; rfl; rfl; assumption; rfl) | (apply QL.ldA; rfl; rfl; rfl; assumption; rfl) | (refine WL.lenO rfl rfl rfl (by assumption) ?_) | (apply WL.isNil; rfl; rfl; rfl)))
  apply WL.nil
  apply EX.thenN
  refine CW.cutI (S := Value × Value × List Nat × List Nat) (fun _ => [(9, .pointer (some ⟨b, 0, none⟩)), (3, .pointer (some ⟨w.heap.size, 0, none⟩)), (7, .bool T1)])
    (fun x w' => Blk w' b 27 [x.1, x.2.1] ∧ Rd w' (Old w') x.1 x.2.2.1 ∧ Rd w' (Old w') x.2.1 x.2.2.2 ∧ Ext w5 w' ∧ (k < s.length ∧ x.2.2.1 = insL s k ∧ x.2.2.2 = l ∨ s.length ≤ k ∧ x.2.2.1 = s ∧ x.2.2.2 = insL l (k - s.length))) ?_ ?_
  · (repeat (first | (apply WL.add; rfl; rfl; rfl; rfl; omega; omega) | (apply QL.add; rfl; rfl; rfl; rfl; omega; omega) | (apply WL.sub'; rfl; rfl; rfl; rfl; omega; omega) | (apply QL.sub'; rfl; rfl; rfl; rfl; omega; omega) | (apply WL.mul; rfl; rfl; rfl; rfl; omega; omega) | (apply QL.mul; rfl; rfl; rfl; rfl; omega; omega) | (apply WL.pure; rfl; rfl; rfl) | (apply QL.pure; rfl; rfl; rfl) | (apply WL.nil) | (apply EX.thenN) | (apply CW.seq) | (apply CW.region) | (apply WL.pass; rfl; rfl) | (apply QL.pass; rfl; rfl) | (apply WL.eqB; rfl; rfl; rfl; rfl) | (apply QL.eqB; rfl; rfl; rfl; rfl) | (apply WL.neB; rfl; rfl; rfl; rfl) | (apply QL.neB; rfl; rfl; rfl; rfl) | (apply WL.lenS; rfl; rfl; rfl) | (apply QL.lenS; rfl; rfl; rfl) | (apply WL.makeFunc; rfl; rfl; rfl; rfl) | (apply QL.makeFunc; rfl; rfl; rfl; rfl) | (apply WL.fa; rfl; rfl; rfl) | (apply QL.fa; rfl; rfl; rfl) | (apply WL.nck; rfl; rfl; rfl) | (apply QL.nck; rfl; rfl; rfl) | (apply WL.ld; rfl; rfl; rfl; assumption; rfl) | (apply QL.ld; rfl; rfl; rfl; assumption; rfl) | (apply WL.ldA; rfl; rfl; rfl; assumption; rfl) | (apply QL.ldA; rfl; rfl; rfl; assumption; rfl) | (apply CW.block) | (apply EX.inN) | (apply CW.condT; rfl) | (apply CW.condF; rfl) | (apply CW.exit) | (apply EX.thenX) | (apply EX.inX) | (apply EX.inXne; rfl) | (apply CW.ret) | (apply EX.thenR) | (apply EX.inR) | (apply CW.skip) | (refine WL.lenO rfl rfl rfl (by assumption) ?_) | (apply WL.isNil; rfl; rfl; rfl) | (apply CW.draw; exact mixed; kernel_rfl)))
    refine CW.cond rfl (fun h => ?_) (fun h => ?_)
    · have h : k < s.length := by simpa using h
      have hK9 : ∀ w1, (fun x : World => x.heap[b]? = (drew w6).heap[b]?) w1 → w1.heap[b]? = (drew w6).heap[b]? := fun _ h => h
      have hBd := hB6.ext (Ext.drew w6)
      have hTd := hT.extN (Ext.drew w6)
      (repeat (first | (apply WL.add; rfl; rfl; rfl; rfl; omega; omega) | (apply QL.add; rfl; rfl; rfl; rfl; omega; omega) | (apply WL.sub'; rfl; rfl; rfl; rfl; omega; omega) | (apply QL.sub'; rfl; rfl; rfl; rfl; omega; omega) | (apply WL.mul; rfl; rfl; rfl; rfl; omega; omega) | (apply QL.mul; rfl; rfl; rfl; rfl; omega; omega) | (apply WL.pure; rfl; rfl; rfl) | (apply QL.pure; rfl; rfl; rfl) | (apply WL.nil) | (apply EX.thenN) | (apply CW.seq) | (apply CW.region) | (apply WL.pass; rfl; rfl) | (apply QL.pass; rfl; rfl) | (apply WL.eqB; rfl; rfl; rfl; rfl) | (apply QL.eqB; rfl; rfl; rfl; rfl) | (apply WL.neB; rfl; rfl; rfl; rfl) | (apply QL.neB; rfl; rfl; rfl; rfl) | (apply WL.lenS; rfl; rfl; rfl) | (apply QL.lenS; rfl; rfl; rfl) | (apply WL.makeFunc; rfl; rfl; rfl; rfl) | (apply QL.makeFunc; rfl; rfl; rfl; rfl) | (apply WL.fa; rfl; rfl; rfl) | (apply QL.fa; rfl; rfl; rfl) | (apply WL.nck; rfl; rfl; rfl) | (apply QL.nck; rfl; rfl; rfl) | (apply WL.ld; rfl; rfl; rfl; assumption; rfl) | (apply QL.ld; rfl; rfl; rfl; assumption; rfl) | (apply WL.ldA; rfl; rfl; rfl; assumption; rfl) | (apply QL.ldA; rfl; rfl; rfl; assumption; rfl) | (apply CW.block) | (apply EX.inN) | (apply CW.condT; rfl) | (apply CW.condF; rfl) | (apply CW.exit) | (apply EX.thenX) | (apply EX.inX) | (apply EX.inXne; rfl) | (apply CW.ret) | (apply EX.thenR) | (apply EX.inR) | (apply CW.skip) | (refine WL.lenO rfl rfl rfl (by assumption) ?_) | (apply WL.isNil; rfl; rfl; rfl)))
      refine CW.drawE (fun x : World => x.heap[b]? = (drew w6).heap[b]?) [(0, true), (1, true), (2, true), (3, true), (4, true), (5, true), (6, true), (7, false), (8, false), (9, false), (10, true)] 11 mixed (by kernel_rfl) rfl ?_
      (repeat (first | (apply HL.add; rfl; rfl; rfl; rfl; rfl; omega; omega) | (apply HL.sub'; rfl; rfl; rfl; rfl; rfl; omega; omega) | (apply HL.pure; rfl; rfl; rfl; rfl) | (apply HL.pass; rfl; rfl; rfl) | (refine HL.fa rfl rfl rfl rfl ?_) | (apply HL.nck; rfl; rfl; rfl; rfl) | (refine HL.ld (by assumption) rfl rfl rfl rfl (by assumption) rfl ?_) | (refine HL.ldK (by assumption) rfl rfl rfl rfl (by assumption) rfl ?_) | (refine HL.ldA (by assumption) rfl rfl rfl rfl (by assumption) rfl ?_) | (refine HL.lenS rfl rfl rfl rfl ?_) | (refine HL.eqB rfl rfl rfl rfl rfl ?_) | (refine HL.neB rfl rfl rfl rfl rfl ?_) | (refine HL.build rfl rfl rfl rfl rfl ?_) | (apply HL.makeFunc; rfl; rfl; rfl; rfl; rfl) | (apply HL.nil)))
      obtain ⟨e0, he0⟩ | ⟨g, off, cp, cur, hval, hA⟩ := hTd
      · rw [he0] at h; cases h
      cases hval
      refine HL.idx (α := Nat) rfl rfl rfl rfl rfl (by omega) (by omega) ?_
      obtain ⟨hc1, hc2⟩ := OwnAt.cellN hA h
      refine HL.mut rfl (WL.load (α := Nat) (F := Non) rfl rfl rfl hc1 ⟨rfl, hc2⟩ (WL.nil (EX.mut rfl ?_)))
      refine HL.mut rfl (WL.lit (F := Non) (ys := [s[k]]) rfl rfl rfl rfl rfl (.cons ⟨_, rfl, rfl, hc2⟩ .nil) (by simp [sz, Rep.sz]) (fun _ h => h.elim) (fun w7 ho7 hg7 => ?_))
      have hE7 : Ext (drew w6) w7 := (Ext.refl _).grown hg7 (Nat.le_refl _) (fun g hg => by cases hg)
      refine WL.nil (EX.mut (hE7.block b hbb) ?_)
      have hT7 : Own w7 w5.heap.size 61 Non (.slice (some ⟨g, off, none⟩) s.length xc) s := (hT.extN (Ext.drew w6)).extN hE7
      have hU7 := (hU.extN (Ext.drew w6)).extN hE7
      have hg1 := hT2 g rfl
      have hsz7 : w6.heap.size ≤ w7.heap.size := hE7.size
      refine HL.mut rfl (WL.call rfl rfl rfl (insert_ok w7 hT7 ho7 (fun e => ?_) (Nat.le_of_lt h) (by omega) (by omega)) ?_)
      · cases e; exact absurd hg1.2.1 (Nat.lt_irrefl _)
      rw [insL_eq h]
      rintro v8 w8 ⟨ho8, hg8, hb8⟩
      obtain ⟨vo, vc, rfl⟩ := ho8.val
      have hk8 : w8.heap[b]? = w7.heap[b]? := hg8.block b (by omega) (fun e => by cases e; exact hg1.1 rfl)
      refine WL.nil (EX.mut (hk8.trans (hE7.block b hbb)) ?_)
      have hB8 : Blk w8 b 27 [.slice (some ⟨g, off, none⟩) s.length xc, .slice yo l.length yc] := (hk8.trans (hE7.block b hbb)).trans hB6
      have hU8 := hU7.keptN hg8 (fun g' h' e => by cases e; exact hnx g rfl h')
      have hE8 : Ext w5 w8 := ((e6.trans (Ext.drew w6)).trans hE7).grown hg8 (by omega) (fun g' h' => by cases h'; exact hg1.2.2)
      (repeat (first | (apply HL.add; rfl; rfl; rfl; rfl; rfl; omega; omega) | (apply HL.sub'; rfl; rfl; rfl; rfl; rfl; omega; omega) | (apply HL.pure; rfl; rfl; rfl; rfl) | (apply HL.pass; rfl; rfl; rfl) | (refine HL.fa rfl rfl rfl rfl ?_) | (apply HL.nck; rfl; rfl; rfl; rfl) | (refine HL.ld (by assumption) rfl rfl rfl rfl (by assumption) rfl ?_) | (refine HL.ldK (by assumption) rfl rfl rfl rfl (by assumption) rfl ?_) | (refine HL.ldA (by assumption) rfl rfl rfl rfl (by assumption) rfl ?_) | (refine HL.lenS rfl rfl rfl rfl ?_) | (refine HL.eqB rfl rfl rfl rfl rfl ?_) | (refine HL.neB rfl rfl rfl rfl rfl ?_) | (refine HL.build rfl rfl rfl rfl rfl ?_) | (apply HL.makeFunc; rfl; rfl; rfl; rfl; rfl) | (apply HL.nil)))
      refine EX.tail rfl (WL.st rfl rfl rfl hB8 rfl rfl (ones_of rfl) (fun w9 hB9 hg9 => WL.nil ?_))
      have hU9 := hU8.keptN hg9 (fun g' h' e => by cases e; exact (hU2 _ h').1 rfl)
      have ho9 := ho8.keptN hg9 (fun g' h' e => by cases e; rcases hb8 _ h' with h1 | h1; exact hg1.1 (by cases h1; rfl); omega)
      have hE9 : Ext w5 w9 := hE8.grown hg9 hE8.size (fun g' h' => by cases h'; exact hb6)
      exact EX.tailI (.slice vo (insL s k).length vc, .slice yo l.length yc, insL s k, l) (by repeat (first | exact trivial | refine ⟨rfl, ?_⟩)) ⟨hB9, ho9.oldN, hU9.oldN, hE9, .inl ⟨h, rfl, rfl⟩⟩
    · have h : ¬ (k : Int) < s.length := by simpa using h
      have hkl : k - s.length < l.length := by omega
      have hsub : (k : Int) - s.length = ((k - s.length : Nat) : Int) := by omega
      have hK9 : ∀ u, (fun x : World => x.heap[b]? = (drew w6).heap[b]? ∧ x.heap[w1.heap.size]? = (drew w6).heap[w1.heap.size]?) u → u.heap[b]? = (drew w6).heap[b]? := fun _ h => h.1
      have hK4 : ∀ u, (fun x : World => x.heap[b]? = (drew w6).heap[b]? ∧ x.heap[w1.heap.size]? = (drew w6).heap[w1.heap.size]?) u → u.heap[w1.heap.size]? = (drew w6).heap[w1.heap.size]? := fun _ h => h.2
      have hBd := hB6.ext (Ext.drew w6)
      have hWd := hw6.ext (Ext.drew w6)
      have hbw := hw6.lt
      have hUd := hU.extN (Ext.drew w6)
      (repeat (first | (apply WL.add; rfl; rfl; rfl; rfl; omega; omega) | (apply QL.add; rfl; rfl; rfl; rfl; omega; omega) | (apply WL.sub'; rfl; rfl; rfl; rfl; omega; omega) | (apply QL.sub'; rfl; rfl; rfl; rfl; omega; omega) | (apply WL.mul; rfl; rfl; rfl; rfl; omega; omega) | (apply QL.mul; rfl; rfl; rfl; rfl; omega; omega) | (apply WL.pure; rfl; rfl; rfl) | (apply QL.pure; rfl; rfl; rfl) | (apply WL.nil) | (apply EX.thenN) | (apply CW.seq) | (apply CW.region) | (apply WL.pass; rfl; rfl) | (apply QL.pass; rfl; rfl) | (apply WL.eqB; rfl; rfl; rfl; rfl) | (apply QL.eqB; rfl; rfl; rfl; rfl) | (apply WL.neB; rfl; rfl; rfl; rfl) | (apply QL.neB; rfl; rfl; rfl; rfl) | (apply WL.lenS; rfl; rfl; rfl) | (apply QL.lenS; rfl; rfl; rfl) | (apply WL.makeFunc; rfl; rfl; rfl; rfl) | (apply QL.makeFunc; rfl; rfl; rfl; rfl) | (apply WL.fa; rfl; rfl; rfl) | (apply QL.fa; rfl; rfl; rfl) | (apply WL.nck; rfl; rfl; rfl) | (apply QL.nck; rfl; rfl; rfl) | (apply WL.ld; rfl; rfl; rfl; assumption; rfl) | (apply QL.ld; rfl; rfl; rfl; assumption; rfl) | (apply WL.ldA; rfl; rfl; rfl; assumption; rfl) | (apply QL.ldA; rfl; rfl; rfl; assumption; rfl) | (apply CW.block) | (apply EX.inN) | (apply CW.condT; rfl) | (apply CW.condF; rfl) | (apply CW.exit) | (apply EX.thenX) | (apply EX.inX) | (apply EX.inXne; rfl) | (apply CW.ret) | (apply EX.thenR) | (apply EX.inR) | (apply CW.skip) | (refine WL.lenO rfl rfl rfl (by assumption) ?_) | (apply WL.isNil; rfl; rfl; rfl)))
      refine CW.drawE (fun x : World => x.heap[b]? = (drew w6).heap[b]? ∧ x.heap[w1.heap.size]? = (drew w6).heap[w1.heap.size]?) [(0, true), (1, true), (2, true), (3, true), (4, true), (5, true), (6, true), (7, true), (8, true), (9, true), (10, true), (11, true), (12, true), (13, true), (14, true), (15, false), (16, false), (17, false), (18, true)] 19 mixed (by kernel_rfl) ⟨rfl, rfl⟩ ?_
      (repeat (first | (apply HL.add; rfl; rfl; rfl; rfl; rfl; omega; omega) | (apply HL.sub'; rfl; rfl; rfl; rfl; rfl; omega; omega) | (apply HL.pure; rfl; rfl; rfl; rfl) | (apply HL.pass; rfl; rfl; rfl) | (refine HL.fa rfl rfl rfl rfl ?_) | (apply HL.nck; rfl; rfl; rfl; rfl) | (refine HL.ld (by assumption) rfl rfl rfl rfl (by assumption) rfl ?_) | (refine HL.ldK (by assumption) rfl rfl rfl rfl (by assumption) rfl ?_) | (refine HL.ldA (by assumption) rfl rfl rfl rfl (by assumption) rfl ?_) | (refine HL.lenS rfl rfl rfl rfl ?_) | (refine HL.eqB rfl rfl rfl rfl rfl ?_) | (refine HL.neB rfl rfl rfl rfl rfl ?_) | (refine HL.build rfl rfl rfl rfl rfl ?_) | (apply HL.makeFunc; rfl; rfl; rfl; rfl; rfl) | (apply HL.nil)))
      obtain ⟨e0, he0⟩ | ⟨g, off, cp, cur, hval, hA⟩ := hUd
      · rw [he0] at hkl; cases hkl
      cases hval
      rw [hsub]
      refine HL.idx (α := Nat) rfl rfl rfl rfl rfl (by omega) (by omega) ?_
      obtain ⟨hc1, hc2⟩ := OwnAt.cellN hA hkl
      refine HL.mut rfl (WL.load (α := Nat) (F := Non) rfl rfl rfl hc1 ⟨rfl, hc2⟩ (WL.nil (EX.mut ⟨rfl, rfl⟩ ?_)))
      refine HL.mut rfl (WL.lit (F := Non) (ys := [l[k - s.length]]) rfl rfl rfl rfl rfl (.cons ⟨_, rfl, rfl, hc2⟩ .nil) (by simp [sz, Rep.sz]) (fun _ h => h.elim) (fun w7 ho7 hg7 => ?_))
      have hE7 : Ext (drew w6) w7 := (Ext.refl _).grown hg7 (Nat.le_refl _) (fun g hg => by cases hg)
      refine WL.nil (EX.mut ⟨hE7.block b hbb, hE7.block _ hbw⟩ ?_)
      have hU7 : Own w7 w5.heap.size 61 Non (.slice (some ⟨g, off, none⟩) l.length yc) l := (hU.extN (Ext.drew w6)).extN hE7
      have hT7 := (hT.extN (Ext.drew w6)).extN hE7
      have hg1 := hU2 g rfl
      have hsz7 : w6.heap.size ≤ w7.heap.size := hE7.size
      refine HL.mut rfl (WL.call rfl rfl rfl (insert_ok w7 hU7 ho7 (fun e => ?_) (Nat.le_of_lt hkl) (by omega) (by omega)) ?_)
      · cases e; exact absurd hg1.2.1 (Nat.lt_irrefl _)
      rw [insL_eq hkl]
      rintro v8 w8 ⟨ho8, hg8, hb8⟩
      obtain ⟨vo, vc, rfl⟩ := ho8.val
      have hk8 : w8.heap[b]? = w7.heap[b]? := hg8.block b (by omega) (fun e => by cases e; exact hg1.1 rfl)
      have hk8' : w8.heap[w1.heap.size]? = w7.heap[w1.heap.size]? := hg8.block _ (by omega) (fun e => by have h1 : w1.heap.size = g := Option.some.inj e; have h2 := hg1.2.2; have h3 : w1.heap.size < w5.heap.size := hlt5; omega)
      refine WL.nil (EX.mut ⟨hk8.trans (hE7.block b hbb), hk8'.trans (hE7.block _ hbw)⟩ ?_)
      have hB8 : Blk w8 b 27 [.slice xo s.length xc, .slice (some ⟨g, off, none⟩) l.length yc] := (hk8.trans (hE7.block b hbb)).trans hB6
      have hT8 := hT7.keptN hg8 (fun g' h' e => by cases e; exact hnx g h' rfl)
      have hE8 : Ext w5 w8 := ((e6.trans (Ext.drew w6)).trans hE7).grown hg8 (by omega) (fun g' h' => by cases h'; exact hg1.2.2)
      (repeat (first | (apply HL.add; rfl; rfl; rfl; rfl; rfl; omega; omega) | (apply HL.sub'; rfl; rfl; rfl; rfl; rfl; omega; omega) | (apply HL.pure; rfl; rfl; rfl; rfl) | (apply HL.pass; rfl; rfl; rfl) | (refine HL.fa rfl rfl rfl rfl ?_) | (apply HL.nck; rfl; rfl; rfl; rfl) | (refine HL.ld (by assumption) rfl rfl rfl rfl (by assumption) rfl ?_) | (refine HL.ldK (by assumption) rfl rfl rfl rfl (by assumption) rfl ?_) | (refine HL.ldA (by assumption) rfl rfl rfl rfl (by assumption) rfl ?_) | (refine HL.lenS rfl rfl rfl rfl ?_) | (refine HL.eqB rfl rfl rfl rfl rfl ?_) | (refine HL.neB rfl rfl rfl rfl rfl ?_) | (refine HL.build rfl rfl rfl rfl rfl ?_) | (apply HL.makeFunc; rfl; rfl; rfl; rfl; rfl) | (apply HL.nil)))
      refine EX.tail rfl (WL.st rfl rfl rfl hB8 rfl rfl (ones_of rfl) (fun w9 hB9 hg9 => WL.nil ?_))
      have hT9 := hT8.keptN hg9 (fun g' h' e => by cases e; exact (hT2 _ h').1 rfl)
      have ho9 := ho8.keptN hg9 (fun g' h' e => by cases e; rcases hb8 _ h' with h1 | h1; exact hg1.1 (by cases h1; rfl); omega)
      have hE9 : Ext w5 w9 := hE8.grown hg9 hE8.size (fun g' h' => by cases h'; exact hb6)
      exact EX.tailI (.slice xo s.length xc, .slice vo (insL l (k - s.length)).length vc, s, insL l (k - s.length)) (by repeat (first | exact trivial | refine ⟨rfl, ?_⟩)) ⟨hB9, hT9.oldN, ho9.oldN, hE9, .inr ⟨by omega, rfl, rfl⟩⟩
  rintro ⟨x, y, s', l'⟩ w7 ⟨hB7, hx7, hy7, hE7, hcase⟩
  dsimp only at hB7 hx7 hy7 hcase ⊢
  obtain ⟨xo', xc', rfl, hx8⟩ := hx7.sl
  obtain ⟨yo', yc', rfl, hy8⟩ := hy7.sl
  have hf7 := hf5.ext hE7
  have hE7w := hE5.trans hE7
  (repeat (first | (apply WL.add; rfl; rfl; rfl; rfl; omega; omega) | (apply QL.add; rfl; rfl; rfl; rfl; omega; omega) | (apply WL.sub'; rfl; rfl; rfl; rfl; omega; omega) | (apply QL.sub'; rfl; rfl; rfl; rfl; omega; omega) | (apply WL.mul; rfl; rfl; rfl; rfl; omega; omega) | (apply QL.mul; rfl; rfl; rfl; rfl; omega; omega) | (apply WL.pure; rfl; rfl; rfl) | (apply QL.pure; rfl; rfl; rfl) | (apply WL.nil) | (apply EX.thenN) | (apply CW.seq) | (apply CW.region) | (apply WL.pass; rfl; rfl) | (apply QL.pass; rfl; rfl) | (apply WL.eqB; rfl; rfl; rfl; rfl) | (apply QL.eqB; rfl; rfl; rfl; rfl) | (apply WL.neB; rfl; rfl; rfl; rfl) | (apply QL.neB; rfl; rfl; rfl; rfl) | (apply WL.lenS; rfl; rfl; rfl) | (apply QL.lenS; rfl; rfl; rfl) | (apply WL.makeFunc; rfl; rfl; rfl; rfl) | (apply QL.makeFunc; rfl; rfl; rfl; rfl) | (apply WL.fa; rfl; rfl; rfl) | (apply QL.fa; rfl; rfl; rfl) | (apply WL.nck; rfl; rfl; rfl) | (apply QL.nck; rfl; rfl; rfl) | (apply WL.ld; rfl; rfl; rfl; assumption; rfl) | (apply QL.ld; rfl; rfl; rfl; assumption; rfl) | (apply WL.ldA; rfl; rfl; rfl; assumption; rfl) | (apply QL.ldA; rfl; rfl; rfl; assumption; rfl) | (apply CW.block) | (apply EX.inN) | (apply CW.condT; rfl) | (apply CW.condF; rfl) | (apply CW.exit) | (apply EX.thenX) | (apply EX.inX) | (apply EX.inXne; rfl) | (apply CW.ret) | (apply EX.thenR) | (apply EX.inR) | (apply CW.skip) | (refine WL.lenO rfl rfl rfl (by assumption) ?_) | (apply WL.isNil; rfl; rfl; rfl) | (apply CW.draw; exact mixed; kernel_rfl)))
  refine WL.call rfl rfl rfl (truth_ok w7 (hk.up hE7w) hx8 hy8 (fun _ h => h)) ?_
  rintro _ w8 ⟨rfl, e8⟩
  have hE8 := hE7w.trans e8
  generalize hT' : truthL s' l' t = T' at *
  obtain ⟨y1, y2⟩ := T'
  (repeat (first | (apply WL.add; rfl; rfl; rfl; rfl; omega; omega) | (apply QL.add; rfl; rfl; rfl; rfl; omega; omega) | (apply WL.sub'; rfl; rfl; rfl; rfl; omega; omega) | (apply QL.sub'; rfl; rfl; rfl; rfl; omega; omega) | (apply WL.mul; rfl; rfl; rfl; rfl; omega; omega) | (apply QL.mul; rfl; rfl; rfl; rfl; omega; omega) | (apply WL.pure; rfl; rfl; rfl) | (apply QL.pure; rfl; rfl; rfl) | (apply WL.nil) | (apply EX.thenN) | (apply CW.seq) | (apply CW.region) | (apply WL.pass; rfl; rfl) | (apply QL.pass; rfl; rfl) | (apply WL.eqB; rfl; rfl; rfl; rfl) | (apply QL.eqB; rfl; rfl; rfl; rfl) | (apply WL.neB; rfl; rfl; rfl; rfl) | (apply QL.neB; rfl; rfl; rfl; rfl) | (apply WL.lenS; rfl; rfl; rfl) | (apply QL.lenS; rfl; rfl; rfl) | (apply WL.makeFunc; rfl; rfl; rfl; rfl) | (apply QL.makeFunc; rfl; rfl; rfl; rfl) | (apply WL.fa; rfl; rfl; rfl) | (apply QL.fa; rfl; rfl; rfl) | (apply WL.nck; rfl; rfl; rfl) | (apply QL.nck; rfl; rfl; rfl) | (apply WL.ld; rfl; rfl; rfl; assumption; rfl) | (apply QL.ld; rfl; rfl; rfl; assumption; rfl) | (apply WL.ldA; rfl; rfl; rfl; assumption; rfl) | (apply QL.ldA; rfl; rfl; rfl; assumption; rfl) | (apply CW.block) | (apply EX.inN) | (apply CW.condT; rfl) | (apply CW.condF; rfl) | (apply CW.exit) | (apply EX.thenX) | (apply EX.inX) | (apply EX.inXne; rfl) | (apply CW.ret) | (apply EX.thenR) | (apply EX.inR) | (apply CW.skip) | (refine WL.lenO rfl rfl rfl (by assumption) ?_) | (apply WL.isNil; rfl; rfl; rfl) | (apply CW.draw; exact mixed; kernel_rfl)))
  cases y2 with
  | false =>
    (repeat (first | (apply WL.add; rfl; rfl; rfl; rfl; omega; omega) | (apply QL.add; rfl; rfl; rfl; rfl; omega; omega) | (apply WL.sub'; rfl; rfl; rfl; rfl; omega; omega) | (apply QL.sub'; rfl; rfl; rfl; rfl; omega; omega) | (apply WL.mul; rfl; rfl; rfl; rfl; omega; omega) | (apply QL.mul; rfl; rfl; rfl; rfl; omega; omega) | (apply WL.pure; rfl; rfl; rfl) | (apply QL.pure; rfl; rfl; rfl) | (apply WL.nil) | (apply EX.thenN) | (apply CW.seq) | (apply CW.region) | (apply WL.pass; rfl; rfl) | (apply QL.pass; rfl; rfl) | (apply WL.eqB; rfl; rfl; rfl; rfl) | (apply QL.eqB; rfl; rfl; rfl; rfl) | (apply WL.neB; rfl; rfl; rfl; rfl) | (apply QL.neB; rfl; rfl; rfl; rfl) | (apply WL.lenS; rfl; rfl; rfl) | (apply QL.lenS; rfl; rfl; rfl) | (apply WL.makeFunc; rfl; rfl; rfl; rfl) | (apply QL.makeFunc; rfl; rfl; rfl; rfl) | (apply WL.fa; rfl; rfl; rfl) | (apply QL.fa; rfl; rfl; rfl) | (apply WL.nck; rfl; rfl; rfl) | (apply QL.nck; rfl; rfl; rfl) | (apply WL.ld; rfl; rfl; rfl; assumption; rfl) | (apply QL.ld; rfl; rfl; rfl; assumption; rfl) | (apply WL.ldA; rfl; rfl; rfl; assumption; rfl) | (apply QL.ldA; rfl; rfl; rfl; assumption; rfl) | (apply CW.block) | (apply EX.inN) | (apply CW.condT; rfl) | (apply CW.condF; rfl) | (apply CW.exit) | (apply EX.thenX) | (apply EX.inX) | (apply EX.inXne; rfl) | (apply CW.ret) | (apply EX.thenR) | (apply EX.inR) | (apply CW.skip) | (refine WL.lenO rfl rfl rfl (by assumption) ?_) | (apply WL.isNil; rfl; rfl; rfl) | (apply CW.draw; exact mixed; kernel_rfl)))
    exact EX.ret1 rfl rfl ⟨rfl, hE8⟩
  | true =>
  have hc' : chkW s' l' = 0 := truthL_chk hT'
  have hsame : truthL s' l' t = truthL s l t := by
    rcases hcase with ⟨h1, rfl, rfl⟩ | ⟨h1, rfl, rfl⟩
    · exact truth_once hc hx h1 hc'
    · exact truth_loop hc hx (by omega) hc'
  rw [hT', hTr] at hsame
  cases hsame
  (repeat (first | (apply WL.add; rfl; rfl; rfl; rfl; omega; omega) | (apply QL.add; rfl; rfl; rfl; rfl; omega; omega) | (apply WL.sub'; rfl; rfl; rfl; rfl; omega; omega) | (apply QL.sub'; rfl; rfl; rfl; rfl; omega; omega) | (apply WL.mul; rfl; rfl; rfl; rfl; omega; omega) | (apply QL.mul; rfl; rfl; rfl; rfl; omega; omega) | (apply WL.pure; rfl; rfl; rfl) | (apply QL.pure; rfl; rfl; rfl) | (apply WL.nil) | (apply EX.thenN) | (apply CW.seq) | (apply CW.region) | (apply WL.pass; rfl; rfl) | (apply QL.pass; rfl; rfl) | (apply WL.eqB; rfl; rfl; rfl; rfl) | (apply QL.eqB; rfl; rfl; rfl; rfl) | (apply WL.neB; rfl; rfl; rfl; rfl) | (apply QL.neB; rfl; rfl; rfl; rfl) | (apply WL.lenS; rfl; rfl; rfl) | (apply QL.lenS; rfl; rfl; rfl) | (apply WL.makeFunc; rfl; rfl; rfl; rfl) | (apply QL.makeFunc; rfl; rfl; rfl; rfl) | (apply WL.fa; rfl; rfl; rfl) | (apply QL.fa; rfl; rfl; rfl) | (apply WL.nck; rfl; rfl; rfl) | (apply QL.nck; rfl; rfl; rfl) | (apply WL.ld; rfl; rfl; rfl; assumption; rfl) | (apply QL.ld; rfl; rfl; rfl; assumption; rfl) | (apply WL.ldA; rfl; rfl; rfl; assumption; rfl) | (apply QL.ldA; rfl; rfl; rfl; assumption; rfl) | (apply CW.block) | (apply EX.inN) | (apply CW.condT; rfl) | (apply CW.condF; rfl) | (apply CW.exit) | (apply EX.thenX) | (apply EX.inX) | (apply EX.inXne; rfl) | (apply CW.ret) | (apply EX.thenR) | (apply EX.inR) | (apply CW.skip) | (refine WL.lenO rfl rfl rfl (by assumption) ?_) | (apply WL.isNil; rfl; rfl; rfl) | (apply CW.draw; exact mixed; kernel_rfl)))
  rw [show (T1 == T1) = true from beq_self_eq_true _]
  exact EX.ret1 rfl rfl ⟨rfl, hE8⟩
end Go.Proofs.Ytdepjllboiolpaa
