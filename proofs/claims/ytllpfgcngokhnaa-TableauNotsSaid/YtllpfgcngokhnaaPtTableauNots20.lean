import Derived.Test.YtllpfgcngokhnaaRows
import Derived.OpenShut
import Derived.JoinedCond
import Derived.Test.YtllpfgcngokhnaaPtTableauNots19
/-
  Package auto: Both: walked.
-/
set_option linter.unusedVariables false
set_option linter.unusedSimpArgs false
namespace Go.Proofs.Ytllpfgcngokhnaa
open Go.RowKit

instance iBo1 : IsZC Try.prog 28 [.slice none 0 0, .slice none 0 0, .slice none 0 0, .slice none 0 0, .slice none 0 0] := IsZC.of (z := .agg #[.slice none 0 0, .slice none 0 0, .slice none 0 0, .slice none 0 0, .slice none 0 0]) (by kernel_rfl) rfl
def nilA : LAuto := ([], [], [], [], [])
def bothE (A B : LAuto) : LAuto × Int :=
  if chkA A ≠ 0 then (nilA, chkA A) else if chkA B ≠ 0 then (nilA, chkA B) else if (madeE (bothNext A B) (bothStart A B)).2.1 = true ∧ A.2.2.2.2.length + B.2.2.2.2.length ≤ 80 then (bothL A B, 0) else (nilA, 2)
abbrev PrQ (A B : LAuto) (p : Pr2) : Prop := (0 ≤ p.1 ∧ p.1 < (A.2.1.length : Int)) ∧ 0 ≤ p.2 ∧ p.2 < (B.2.1.length : Int)
theorem nilA_at (w : World) : AutoAt w (Old w) (.agg #[.slice none 0 0, .slice none 0 0, .slice none 0 0, .slice none 0 0, .slice none 0 0]) nilA :=
  ⟨none, 0, none, 0, none, 0, none, 0, none, 0, rfl, Sl.zero w _, Sl.zero w _, Sl.zero w _, Sl.zero w _, Sl.zero w _⟩
set_option maxHeartbeats 2000000 in
theorem Both_ok (w0 : World) {va vb : Value} {A B : LAuto} (ha : AutoAt w0 (Old w0) va A) (hb : AutoAt w0 (Old w0) vb B) (sA : ∀ j, (A.2.1.getD j []).length ≤ 1048576) (sB : ∀ j, (B.2.1.getD j []).length ≤ 1048576) (tA : A.1.length ≤ 1048576) (tB : B.1.length ≤ 1048576) :
    Rt Try.prog 17 [va, vb].toArray w0 fun v w' => (∃ rv, v = .tuple ⟨[rv, .int .i64 (bothE A B).2]⟩ ∧ AutoAt w' (Old w') rv (bothE A B).1) ∧ Ext w0 w' := by
  obtain ⟨a1, c1, a2, c2, a3, c3, a4, c4, a5, c5, rfl, h1, h2, h3, h4, h5⟩ := ha.ok
  obtain ⟨k1, d1, k2, d2, k3, d3, k4, d4, k5, d5, rfl, g1, g2, g3, g4, g5⟩ := hb.ok
  refine Rt.enter2 Try.func17 Try.ntmps17 rfl rfl ?_
  have hE := Ext.refl w0
  (repeat (first | (apply CW.seq) | (apply CW.region)))
  refine WL.boxB rfl rfl rfl fun w1 hb2 e1 => ?_
  have hE := hE.trans e1
  skip
  refine WL.boxB rfl rfl rfl fun w2 hb3 e2 => ?_
  have hb2 := hb2.ext e2
  have hE := hE.trans e2
  skip
  refine WL.alloc rfl rfl (fun w3 hb4 e3 => ?_)
  have hb2 := hb2.ext e3
  have hb3 := hb3.ext e3
  have hE := hE.trans e3
  have y1 := e1.size
  have y2 := e2.size
  have y3 := hb4.lt
  have l2 := hb2.lt
  have l3 := hb3.lt
  unfold bothE
  (repeat (first | (apply WL.pure; rfl; rfl; rfl) | (apply WL.nil) | (apply EX.thenN) | (apply CW.seq) | (apply CW.region) | (apply WL.ldA; rfl; rfl; rfl; assumption; rfl)))
  refine WL.call rfl rfl rfl (aCheck_ok w3 (A := A) ⟨a1, c1, a2, c2, a3, c3, a4, c4, a5, c5, rfl, h1.up hE, h2.up hE, h3.up hE, h4.up hE, h5.up hE⟩) ?_
  rintro _ w4 ⟨rfl, e4⟩
  have hb2 := hb2.ext e4
  have hb3 := hb3.ext e4
  have hb4 := hb4.ext e4
  have hE := hE.trans e4
  have y4 := e4.size
  (repeat (first | (apply WL.pure; rfl; rfl; rfl) | (apply WL.nil) | (apply EX.thenN) | (apply CW.seq) | (apply CW.region)))
  refine CW.cond rfl (fun h => ?_) (fun h => ?_)
  · have h : chkA A ≠ 0 := by simpa using h
    rw [if_pos h]
    (repeat (first | (apply CW.seq) | (apply CW.region)))
    refine WL.build (parts := []) rfl rfl rfl rfl ?_
    (repeat (apply WL.pure; rfl; rfl; rfl))
    refine WL.st rfl rfl rfl hb4 rfl rfl (ones_of rfl) (fun w5 hb5 hg5 => ?_)
    have hE5 : Ext w0 w5 := hE.grown hg5 hE.size (fun g hg => by cases hg; omega)
    (repeat (first | (apply WL.pure; rfl; rfl; rfl) | (apply WL.nil) | (apply EX.thenN) | (apply CW.ret) | (apply EX.thenR)))
    exact EX.retC2 rfl rfl rfl hb5 rfl ⟨⟨_, rfl, nilA_at _⟩, hE5⟩
  have hA : chkA A = 0 := by simpa using h
  have okA := chkA_ok hA
  clear h
  rw [if_neg (by simp [hA])]
  (repeat (first | (apply EX.thenN) | (apply CW.seq) | (apply CW.region) | (apply WL.ldA; rfl; rfl; rfl; assumption; rfl) | (apply CW.skip)))
  refine WL.call rfl rfl rfl (aCheck_ok w4 (A := B) ⟨k1, d1, k2, d2, k3, d3, k4, d4, k5, d5, rfl, g1.up hE, g2.up hE, g3.up hE, g4.up hE, g5.up hE⟩) ?_
  rintro _ w5 ⟨rfl, e5⟩
  have hb2 := hb2.ext e5
  have hb3 := hb3.ext e5
  have hb4 := hb4.ext e5
  have hE := hE.trans e5
  have y5 := e5.size
  (repeat (first | (apply WL.pure; rfl; rfl; rfl) | (apply WL.nil) | (apply EX.thenN) | (apply CW.seq) | (apply CW.region)))
  refine CW.cond rfl (fun h => ?_) (fun h => ?_)
  · have h : chkA B ≠ 0 := by simpa using h
    rw [if_pos h]
    (repeat (first | (apply CW.seq) | (apply CW.region)))
    refine WL.build (parts := []) rfl rfl rfl rfl ?_
    (repeat (apply WL.pure; rfl; rfl; rfl))
    refine WL.st rfl rfl rfl hb4 rfl rfl (ones_of rfl) (fun w6 hb6 hg6 => ?_)
    have hE6 : Ext w0 w6 := hE.grown hg6 hE.size (fun g hg => by cases hg; omega)
    (repeat (first | (apply WL.pure; rfl; rfl; rfl) | (apply WL.nil) | (apply EX.thenN) | (apply CW.ret) | (apply EX.thenR)))
    exact EX.retC2 rfl rfl rfl hb6 rfl ⟨⟨_, rfl, nilA_at _⟩, hE6⟩
  have hB : chkA B = 0 := by simpa using h
  have okB := chkA_ok hB
  clear h
  rw [if_neg (by simp [hB])]
  (repeat (first | (apply EX.thenN) | (apply CW.seq) | (apply CW.region) | (apply WL.makeFunc; rfl; rfl; rfl; rfl) | (apply CW.skip)))
  refine WL.alloc rfl rfl (fun w6 hb8 e6 => ?_)
  skip
  refine WL.st rfl rfl rfl hb8 rfl rfl (ones_of rfl) (fun w7 hb8 hg7 => ?_)
  have e7 : Ext w5 w7 := Below.grown e6 hg7 e6.size (fun g hg => by cases hg; exact Nat.le_refl _)
  have hb2 := hb2.ext e7
  have hb3 := hb3.ext e7
  have hb4 := hb4.ext e7
  have hE := hE.trans e7
  have l8 := hb8.lt
  have y7 := e7.size
  clear e6 hg7
  (repeat (first | (apply WL.nil) | (apply EX.thenN) | (apply CW.seq) | (apply CW.region)))
  refine WL.mkMap (k := 105) rfl rfl (fun hnum => ?_)
  have e8 : Ext w7 (w7.alloc (.map #[] 0)) := Ext.alloc w7 _
  generalize w7.alloc (.map #[] 0) = w8 at *
  refine WL.build rfl rfl rfl rfl ?_
  refine WL.boxB rfl rfl rfl fun w9 hsb e9 => ?_
  have l7 := hnum.lt
  have hb2 := (hb2.ext e8).ext e9
  have hb3 := (hb3.ext e8).ext e9
  have hb4 := (hb4.ext e8).ext e9
  have hb8 := (hb8.ext e8).ext e9
  have hnum := hnum.ext e9
  have hE := (hE.trans e8).trans e9
  have y8 := e8.size
  have y9 := e9.size
  have l9 := hsb.lt
  clear e1 e2 e3 e4 e5 e7 e8 e9
  have hcross : ∀ l k : List Int, l.length ≤ 1048576 → k.length ≤ 1048576 → l.length * k.length ≤ 1099511627776 := fun l k h h' => Nat.mul_le_mul h h'
  have hq : ∀ l k : List Int, okL A.2.1.length l → okL B.2.1.length k → ∀ p ∈ crossP A.2.2.1 A.2.2.2.1 B.2.2.1 B.2.2.2.1 l k, PrQ A B p := fun l k h h' p hp => by
    obtain ⟨q1, q2, _⟩ := cross_mem.1 hp
    exact ⟨h _ q1, h' _ q2⟩
  have hAn := okA.n
  have hBn := okB.n
  have hst : bothStart A B = crossP A.2.2.1 A.2.2.2.1 B.2.2.1 B.2.2.2.1 A.1 B.1 := rfl
  have hmE := hcross A.1 B.1 tA tB
  (repeat (first | (apply WL.pure; rfl; rfl; rfl) | (apply WL.nil) | (apply EX.thenN) | (apply CW.seq) | (apply CW.region) | (apply WL.fa; rfl; rfl; rfl) | (apply WL.ld; rfl; rfl; rfl; assumption; rfl)))
  refine WL.callV (fv := []) rfl rfl rfl rfl (cross_ok w9 (F := Old w9) hb2 hb3 (h3.up hE) (h4.up hE) (g3.up hE) (g4.up hE) (h1.up hE) (g1.up hE) (fun _ h => h) okA.mu okA.no okB.mu okB.no okA.st okB.st (by omega)) ?_
  rintro sv w10 ⟨hos, e10⟩
  rw [← hst] at hos
  have hb2 := hb2.ext e10
  have hb3 := hb3.ext e10
  have hb4 := hb4.ext e10
  have hb8 := hb8.ext e10
  have hsb := hsb.ext e10
  have hnum := hnum.ext e10
  have hE := hE.trans e10
  have y10 := e10.size
  have hstl : (bothStart A B).length ≤ 1099511627776 := Nat.le_trans (crossP_len _) hmE
  have hlt10 := fun g hg => hos.lt g hg
  obtain ⟨so, sc, rfl⟩ := hos.val
  obtain ⟨so', sc', es, hss⟩ := hos.sl
  obtain ⟨rfl, _, rfl⟩ := Value.slice.inj es
  have hmk : Mk w10 w7.heap.size ⟨w8.heap.size, w7.heap.size, .slice none 0 0, .slice none 0 0, .slice none 0 0, .slice none 0 0, .slice none 0 0, .slice none 0 0⟩ [] :=
    ⟨hsb, hnum, Own.nil, ⟨by dsimp only; omega, Nat.le_refl _⟩, (by dsimp only; omega), (fun g hg => by cases hg), List.nodup_nil, (fun p hp => by cases hp)⟩
  have hfn : ∀ w p, Chg (fun b => b = w8.heap.size ∨ b = w7.heap.size) w10 w → PrQ A B p →
      FnV Try.prog (.func (.func 60) #[] #[.pointer (some ⟨w5.heap.size, 0, none⟩), .pointer (some ⟨w0.heap.size, 0, none⟩), .pointer (some ⟨w1.heap.size, 0, none⟩)]) [prV p] w fun v w' => Own w' w.heap.size 105 Non v (bothNext A B p) ∧ Ext w w' := fun w p hC hp => by
    have hEw : Ext w0 w := Chg.ext hE hC (fun b hb => by rcases hb with rfl | rfl <;> omega)
    have hk : ∀ b, b < w7.heap.size → w.heap[b]? = w10.heap[b]? := fun b hb => hC.block b (by omega) (fun h => by rcases h with h | h <;> omega)
    exact FnV.mk (cs := [_, _, _]) (both2_ok w (A := A) (B := B) ⟨a1, c1, a2, c2, a3, c3, a4, c4, a5, c5, (hk _ (by omega)).trans hb2, h1.up hEw, h2.up hEw, h3.up hEw, h4.up hEw, h5.up hEw⟩ ⟨k1, d1, k2, d2, k3, d3, k4, d4, k5, d5, (hk _ (by omega)).trans hb3, g1.up hEw, g2.up hEw, g3.up hEw, g4.up hEw, g5.up hEw⟩ ((hk _ (by omega)).trans hb8) okA okB hp.1 hp.2 sA sB)
  (repeat (apply WL.makeFunc; rfl; rfl; rfl; rfl))
  refine WL.call rfl rfl rfl (made_ok w10 (Q := PrQ A B) (next := bothNext A B) hmk (by omega) (Nat.le_refl _) hss (fun b hb => hb.elim (fun h => h.elim) (fun hb => by have := hlt10 b hb; exact ⟨by omega, by omega, by omega⟩)) (hq _ _ okA.st okB.st) hstl (fun p hp => ⟨by omega, by omega, by omega, by omega⟩)
    (fun p hp => ⟨hq _ _ (okG_row okA.nx _) (okG_row okB.nx _), Nat.le_trans (crossP_len _) (hcross _ _ (sA _) (sB _))⟩) hfn) ?_
  rintro _ w11 ⟨lo, lc, uo, uc, no, nc, rfl, hsb, hlo, hso, hno, hC⟩
  have hE11 : Ext w0 w11 := Chg.ext hE hC (fun b hb => by rcases hb with rfl | rfl <;> omega)
  have hk : ∀ b, b < w7.heap.size → w11.heap[b]? = w10.heap[b]? := fun b hb => hC.block b (by omega) (fun h => by rcases h with h | h <;> omega)
  have hb2 : Blk w11 _ _ _ := (hk _ (by omega)).trans hb2
  have hb3 : Blk w11 _ _ _ := (hk _ (by omega)).trans hb3
  have hb4 : Blk w11 _ _ _ := (hk _ (by omega)).trans hb4
  have y11 := hC.size
  have l11 := hsb.lt
  clear hfn hmk hss hb8 hnum hos hk es hlt10 hst hmE hstl
  have hin := made_in (next := bothNext A B) (start := bothStart A B)
  have hall := made_all (Q := PrQ A B) (next := bothNext A B) (start := bothStart A B) (fun p hp => hq _ _ (okG_row okA.nx _) (okG_row okB.nx _)) (hq _ _ okA.st okB.st)
  have hbl : bothL A B = (madeS (bothStart A B), (madeE (bothNext A B) (bothStart A B)).2.2, (madeE (bothNext A B) (bothStart A B)).1.map (fun p => A.2.2.1.getD p.1.toNat 0 ||| B.2.2.1.getD p.2.toNat 0), (madeE (bothNext A B) (bothStart A B)).1.map (fun p => A.2.2.2.1.getD p.1.toNat 0 ||| B.2.2.2.1.getD p.2.toNat 0),
    A.2.2.2.2.map (setP (madeE (bothNext A B) (bothStart A B)).1 Prod.fst) ++ B.2.2.2.2.map (setP (madeE (bothNext A B) (bothStart A B)).1 Prod.snd)) := rfl
  rw [hbl]
  generalize (madeE (bothNext A B) (bothStart A B)).2.1 = ok at *
  generalize (madeE (bothNext A B) (bothStart A B)).1 = ps at *
  generalize (madeE (bothNext A B) (bothStart A B)).2.2 = nx at *
  generalize madeS (bothStart A B) = st at *
  clear hbl hq
  have hA80 := okA.f
  have hB80 := okB.f
  cases ok with
  | false =>
    rw [if_neg (by simp)]
    (repeat (first | (apply WL.pure; rfl; rfl; rfl) | (apply WL.nil) | (apply EX.thenN) | (apply CW.seq) | (apply CW.region) | (apply WL.pass; rfl; rfl) | (apply CW.condT; rfl)))
    refine WL.build (parts := []) rfl rfl rfl rfl ?_
    skip
    refine WL.st rfl rfl rfl hb4 rfl rfl (ones_of rfl) (fun w12 hb12 hg12 => ?_)
    have hE12 : Ext w0 w12 := hE11.grown hg12 hE11.size (fun g hg => by cases hg; omega)
    (repeat (first | (apply WL.pure; rfl; rfl; rfl) | (apply WL.nil) | (apply EX.thenN) | (apply CW.ret) | (apply EX.thenR)))
    exact EX.retC2 rfl rfl rfl hb12 rfl ⟨⟨_, rfl, nilA_at _⟩, hE12⟩
  | true =>
  have hi := hin rfl
  have hp8 := hi.n
  by_cases h80 : A.2.2.2.2.length + B.2.2.2.2.length ≤ 80
  case neg =>
    rw [if_neg (fun h => h80 h.2)]
    (repeat (first | (apply WL.add; rfl; rfl; rfl; rfl; omega; omega) | (apply WL.pure; rfl; rfl; rfl) | (apply WL.nil) | (apply EX.thenN) | (apply WL.lenS; rfl; rfl; rfl) | (apply WL.fa; rfl; rfl; rfl) | (apply WL.ld; rfl; rfl; rfl; assumption; rfl)))
    rw [decide_eq_true (show ((A.2.2.2.2.length : Int) + (B.2.2.2.2.length : Int) > 80) by omega)]
    (repeat (first | (apply CW.seq) | (apply CW.region) | (apply CW.condT; rfl)))
    refine WL.build (parts := []) rfl rfl rfl rfl ?_
    skip
    refine WL.st rfl rfl rfl hb4 rfl rfl (ones_of rfl) (fun w12 hb12 hg12 => ?_)
    have hE12 : Ext w0 w12 := hE11.grown hg12 hE11.size (fun g hg => by cases hg; omega)
    (repeat (first | (apply WL.pure; rfl; rfl; rfl) | (apply WL.nil) | (apply EX.thenN) | (apply CW.ret) | (apply EX.thenR)))
    exact EX.retC2 rfl rfl rfl hb12 rfl ⟨⟨_, rfl, nilA_at _⟩, hE12⟩
  rw [if_pos ⟨rfl, h80⟩]
  (repeat (first | (apply WL.add; rfl; rfl; rfl; rfl; omega; omega) | (apply WL.pure; rfl; rfl; rfl) | (apply WL.nil) | (apply EX.thenN) | (apply WL.lenS; rfl; rfl; rfl) | (apply WL.fa; rfl; rfl; rfl) | (apply WL.ld; rfl; rfl; rfl; assumption; rfl)))
  rw [decide_eq_false (show ¬ ((A.2.2.2.2.length : Int) + (B.2.2.2.2.length : Int) > 80) by omega)]
  (repeat (first | (apply WL.pure; rfl; rfl; rfl) | (apply WL.nil) | (apply EX.thenN) | (apply CW.seq) | (apply CW.region) | (apply WL.lenS; rfl; rfl; rfl) | (apply WL.fa; rfl; rfl; rfl) | (apply WL.nck; rfl; rfl; rfl) | (apply WL.ld; rfl; rfl; rfl; assumption; rfl) | (apply CW.block) | (apply CW.condF; rfl) | (apply CW.skip)))
  refine CW.loop (S := Nat × Value × Value) (fun s => [(2, .pointer (some ⟨w0.heap.size, 0, none⟩)), (3, .pointer (some ⟨w1.heap.size, 0, none⟩)), (4, .pointer (some ⟨w2.heap.size, 0, none⟩)), (9, .pointer (some ⟨w8.heap.size, 0, none⟩)), (52, .slice lo ps.length lc), (53, .int .i64 ps.length), (54, .int .i64 s.1)])
    (fun s w => s.1 ≤ ps.length ∧ Blk w w8.heap.size 110 [.map (some w7.heap.size), .slice lo ps.length lc, .slice uo st.length uc, .slice no nx.length nc, s.2.1, s.2.2, .slice none 0 0] ∧ Own w w11.heap.size 53 Non s.2.1 ((ps.take s.1).map (fun p : Pr2 => A.2.2.1.getD p.1.toNat 0 ||| B.2.2.1.getD p.2.toNat 0)) ∧
      Own w w11.heap.size 53 Non s.2.2 ((ps.take s.1).map (fun p : Pr2 => A.2.2.2.1.getD p.1.toNat 0 ||| B.2.2.2.1.getD p.2.toNat 0)) ∧ (∀ g, s.2.1.ownBlock = some g → s.2.2.ownBlock ≠ some g) ∧ Chg (fun b => b = w8.heap.size) w11 w)
    (fun s => ps.length - s.1) (0, .slice none 0 0, .slice none 0 0) (by repeat (first | exact trivial | refine ⟨rfl, ?_⟩)) ⟨Nat.zero_le _, hsb, Own.nil, Own.nil, (fun g hg => by cases hg), Chg.refl _ _⟩ ?_
  rintro ⟨i, mv, nv⟩ w12 ⟨hi12, hsb12, hom, hon, hdis, hC12⟩
  dsimp only at hi12 hsb12 hom hon hdis hC12 ⊢
  have y12 := hC12.size
  have hE12 : Ext w0 w12 := Chg.ext hE11 hC12 (fun b hb => by subst hb; omega)
  have hlo12 := hlo.fz (hC12.wk (M' := fun b => b = w8.heap.size ∨ b < w7.heap.size) (fun b h => .inl h)) (fun b h => .inl h)
  have hlm := fun g hg => hom.lt g hg
  have hln := fun g hg => hon.lt g hg
  obtain ⟨mo, mc, rfl⟩ := hom.val
  obtain ⟨nvo, nvc, rfl⟩ := hon.val
  (repeat (first | (apply WL.pure; rfl; rfl; rfl) | (apply WL.nil) | (apply EX.thenN) | (apply CW.seq) | (apply CW.region)))
  refine CW.cond rfl (fun h => ?_) (fun h => ?_)
  · have hi' : i < ps.length := by simp only [decide_eq_true_eq] at h; omega
    clear h
    have hb2 : Blk w12 _ _ _ := (hC12.block _ (by omega) (fun h => by omega)).trans hb2
    have hb3 : Blk w12 _ _ _ := (hC12.block _ (by omega) (fun h => by omega)).trans hb3
    have hpm := hall _ (List.getElem_mem hi')
    have hn1 : (ps.take (i + 1)).map (fun p : Pr2 => A.2.2.1.getD p.1.toNat 0 ||| B.2.2.1.getD p.2.toNat 0) = (ps.take i).map (fun p : Pr2 => A.2.2.1.getD p.1.toNat 0 ||| B.2.2.1.getD p.2.toNat 0) ++ [A.2.2.1.getD ps[i].1.toNat 0 ||| B.2.2.1.getD ps[i].2.toNat 0] := by
      rw [List.take_add_one, List.getElem?_eq_getElem hi', List.map_append]; rfl
    have hn2 : (ps.take (i + 1)).map (fun p : Pr2 => A.2.2.2.1.getD p.1.toNat 0 ||| B.2.2.2.1.getD p.2.toNat 0) = (ps.take i).map (fun p : Pr2 => A.2.2.2.1.getD p.1.toNat 0 ||| B.2.2.2.1.getD p.2.toNat 0) ++ [A.2.2.2.1.getD ps[i].1.toNat 0 ||| B.2.2.2.1.getD ps[i].2.toNat 0] := by
      rw [List.take_add_one, List.getElem?_eq_getElem hi', List.map_append]; rfl
    (repeat (first | (apply EX.thenN) | (apply CW.seq) | (apply CW.region) | (apply CW.block) | (apply CW.skip)))
    refine WL.elemN (i := i) rfl rfl rfl rfl rfl hlo12 hi' (fun _ => rfl) (fun u q hu => ?_)
    rw [rd_pr2 hu]
    clear hu
    generalize ps[i] = p at *
    obtain ⟨x, hx⟩ : ∃ x : Nat, p.1 = (x : Int) := ⟨p.1.toNat, by omega⟩
    obtain ⟨y, hy⟩ : ∃ y : Nat, p.2 = (y : Int) := ⟨p.2.toNat, by omega⟩
    obtain ⟨pa, pb⟩ := p
    dsimp only at hx hy
    subst hx hy
    dsimp only at hpm hn1 hn2
    rw [Int.toNat_natCast, Int.toNat_natCast] at hn1 hn2
    skip
    refine WL.alloc rfl rfl (fun w13 hpb13 e13 => ?_)
    skip
    refine WL.st rfl rfl rfl hpb13 rfl rfl (ones_of rfl) (fun w14 hpb14 hg14 => ?_)
    have e14 : Ext w12 w14 := Below.grown e13 hg14 e13.size (fun g hg => by cases hg; exact Nat.le_refl _)
    have y14 := e14.size
    have hE14 := hE12.trans e14
    have hsb14 := hsb12.ext e14
    have hb214 := hb2.ext e14
    have hb314 := hb3.ext e14
    have hom14 := hom.extN e14
    have hon14 := hon.extN e14
    have hC14 := hC12.trans (Chg.of_ext _ e14)
    clear e13 hg14 hpb13
    -- R14
    have hD : Ext w14 (drew w14) := Ext.drew w14
    have hsbd := hsb14.ext hD
    have hb2d := hb214.ext hD
    have hb3d := hb314.ext hD
    have hpbd := hpb14.ext hD
    have lpb := hpb14.lt
    have hKs : ∀ u, (fun z : World => ∀ b, b < w14.heap.size → (Value.slice mo ((ps.take i).map (fun p : Pr2 => A.2.2.1.getD p.1.toNat 0 ||| B.2.2.1.getD p.2.toNat 0)).length mc).ownBlock ≠ some b → z.heap[b]? = (drew w14).heap[b]?) u → u.heap[w8.heap.size]? = (drew w14).heap[w8.heap.size]? := fun u h => h _ (by omega) (fun e => by have := hlm _ e; omega)
    have hK2 : ∀ u, (fun z : World => ∀ b, b < w14.heap.size → (Value.slice mo ((ps.take i).map (fun p : Pr2 => A.2.2.1.getD p.1.toNat 0 ||| B.2.2.1.getD p.2.toNat 0)).length mc).ownBlock ≠ some b → z.heap[b]? = (drew w14).heap[b]?) u → u.heap[w0.heap.size]? = (drew w14).heap[w0.heap.size]? := fun u h => h _ (by omega) (fun e => by have := hlm _ e; omega)
    have hK3 : ∀ u, (fun z : World => ∀ b, b < w14.heap.size → (Value.slice mo ((ps.take i).map (fun p : Pr2 => A.2.2.1.getD p.1.toNat 0 ||| B.2.2.1.getD p.2.toNat 0)).length mc).ownBlock ≠ some b → z.heap[b]? = (drew w14).heap[b]?) u → u.heap[w1.heap.size]? = (drew w14).heap[w1.heap.size]? := fun u h => h _ (by omega) (fun e => by have := hlm _ e; omega)
    have hKp : ∀ u, (fun z : World => ∀ b, b < w14.heap.size → (Value.slice mo ((ps.take i).map (fun p : Pr2 => A.2.2.1.getD p.1.toNat 0 ||| B.2.2.1.getD p.2.toNat 0)).length mc).ownBlock ≠ some b → z.heap[b]? = (drew w14).heap[b]?) u → u.heap[w12.heap.size]? = (drew w14).heap[w12.heap.size]? := fun u h => h _ (by omega) (fun e => by have := hlm _ e; omega)
    have hKo : ∀ u, (fun z : World => ∀ b, b < w14.heap.size → (Value.slice mo ((ps.take i).map (fun p : Pr2 => A.2.2.1.getD p.1.toNat 0 ||| B.2.2.1.getD p.2.toNat 0)).length mc).ownBlock ≠ some b → z.heap[b]? = (drew w14).heap[b]?) u → ∀ b, Old w0 b → u.heap[b]? = (drew w14).heap[b]? := fun u h b hb => by
      have hb : b < w0.heap.size := hb
      exact h _ (by omega) (fun e => by have := hlm _ e; omega)
    have hEd := hE14.trans hD
    (repeat (first | (apply WL.nil) | (apply EX.thenN) | (apply CW.seq)))
    refine CW.drawE (fun z : World => ∀ b, b < w14.heap.size → (Value.slice mo ((ps.take i).map (fun p : Pr2 => A.2.2.1.getD p.1.toNat 0 ||| B.2.2.1.getD p.2.toNat 0)).length mc).ownBlock ≠ some b → z.heap[b]? = (drew w14).heap[b]?) [(0, true), (1, true), (2, true), (3, true), (4, true), (5, true), (6, true), (7, true), (8, true), (9, true), (10, true), (11, true), (12, true), (13, true), (14, true), (15, true), (16, true), (17, true), (18, true), (19, false), (20, false), (21, false), (22, false), (23, false)] 24 mixed (by kernel_rfl) (fun _ _ _ => rfl) ?_
    (repeat (first | (apply HL.pure; rfl; rfl; rfl; rfl) | (refine HL.fa rfl rfl rfl rfl ?_) | (apply HL.nck; rfl; rfl; rfl; rfl) | (refine HL.ldK (by assumption) rfl rfl rfl rfl (by assumption) rfl ?_)))
    refine HL.elemK (k := x) hKo rfl rfl rfl rfl rfl rfl rfl (h3.at hEd) (show x < _ by have := okA.mu; omega) (fun _ => rfl) (fun u q hu => ?_)
    obtain ⟨rfl, q1⟩ := hu.u64
    rw [← wgetN'] at q1 ⊢
    (repeat (first | (refine HL.fa rfl rfl rfl rfl ?_) | (refine HL.ldK (by assumption) rfl rfl rfl rfl (by assumption) rfl ?_)))
    refine HL.elemK (k := y) hKo rfl rfl rfl rfl rfl rfl rfl (g3.at hEd) (show y < _ by have := okB.mu; omega) (fun _ => rfl) (fun u q hu => ?_)
    obtain ⟨rfl, q2⟩ := hu.u64
    rw [← wgetN'] at q2 ⊢
    refine HL.orN rfl rfl rfl rfl rfl q1 q2 ?_
    refine HL.app1 (α := Nat) (F := Non) (bytes := 8) (yv := A.2.2.1.getD x 0 ||| B.2.2.1.getD y 0) rfl rfl rfl rfl (fun _ => rfl) rfl rfl (fun _ => rfl) (hom14.extN hD) ⟨_, rfl, rd_mkU64 _ _ _ (Nat.or_lt_two_pow (n := 64) q1 q2)⟩ (by have := hD.size; omega) (fun _ h => h.elim) (by decide) (by unfold maxLen; rw [List.length_map, List.length_take]; omega) (by rw [List.length_map, List.length_take]; omega)
      (fun z hz b hb hne => hz.block b hb (fun e => hne e.symm)) (fun mv2 w15 q3 ho15 hg15 hnb15 => ?_)
    rw [← hn1] at ho15
    have hsb15 := hsbd.kept hg15 (fun e => by have := hlm _ e.symm; omega)
    have y15 : w14.heap.size ≤ w15.heap.size := hg15.size
    obtain ⟨mo', mc', rfl⟩ := ho15.val
    have hS15 : (fun z : World => ∀ b, b < w14.heap.size → (Value.slice mo ((ps.take i).map (fun p : Pr2 => A.2.2.1.getD p.1.toNat 0 ||| B.2.2.1.getD p.2.toNat 0)).length mc).ownBlock ≠ some b → z.heap[b]? = (drew w14).heap[b]?) w15 := fun b hb hne => hg15.block b hb (fun e => hne e.symm)
    refine HL.mut rfl (WL.nck rfl rfl rfl (WL.nil (EX.mut hS15 ?_)))
    refine HL.mut rfl (WL.fa rfl rfl rfl (WL.nil (EX.mut hS15 ?_)))
    refine HL.mut rfl (WL.fa rfl rfl rfl (WL.nil (EX.mut hS15 (HL.nil ?_))))
    refine EX.tail rfl (WL.st rfl rfl rfl hsb15 rfl rfl (ones_of rfl) (fun w16 hsb16 hg16 => WL.nil (EX.tailE ?_)))
    have hm16 : ∀ g, (Value.slice mo' ((ps.take (i + 1)).map (fun p : Pr2 => A.2.2.1.getD p.1.toNat 0 ||| B.2.2.1.getD p.2.toNat 0)).length mc').ownBlock = some g → w11.heap.size ≤ g ∧ g ≠ w8.heap.size := fun g hg => by
      rcases hnb15 g hg with h | h
      · have := hlm g h; omega
      · have h : w14.heap.size ≤ g := h
        omega
    have y16 := hg16.size
    have e14d : Ext w14 (drew w14) := Ext.drew w14
    have hkeep : ∀ b, b < w14.heap.size → b ≠ w8.heap.size → (Value.slice mo ((ps.take i).map (fun p : Pr2 => A.2.2.1.getD p.1.toNat 0 ||| B.2.2.1.getD p.2.toNat 0)).length mc).ownBlock ≠ some b → w16.heap[b]? = w14.heap[b]? := fun b hb h1 h2 => (hg16.block b (by omega) (fun e => h1 (Option.some.inj e))).trans (hg15.block b hb (fun e => h2 e.symm))
    have hb216 : Blk w16 _ _ _ := (hkeep _ (by omega) (by omega) (fun e => by have := hlm _ e; omega)).trans hb214
    have hb316 : Blk w16 _ _ _ := (hkeep _ (by omega) (by omega) (fun e => by have := hlm _ e; omega)).trans hb314
    have hpb16 : Blk w16 _ _ _ := (hkeep _ (by omega) (by omega) (fun e => by have := hlm _ e; omega)).trans hpb14
    have hom16 := ho15.keptN hg16 (fun g hg e => (hm16 g hg).2 (Option.some.inj e))
    have hon16 := ((hon14.extN e14d).keptN hg15 (fun g hg e => hdis g e.symm hg)).keptN hg16 (fun g hg e => by have := Option.some.inj e; have := hln g hg; omega)
    have hC16 := ((hC14.trans (Chg.of_ext _ e14d)).then (Chg.of_grown hg15) (fun b h => .inr (by have := hlm b h; omega))).grown hg16 (fun g hg => by cases hg; rfl)
    have hE16 : Ext w0 w16 := Chg.ext hE11 hC16 (fun b hb => by subst hb; omega)
    have hdis16 : ∀ g, (Value.slice mo' ((ps.take (i + 1)).map (fun p : Pr2 => A.2.2.1.getD p.1.toNat 0 ||| B.2.2.1.getD p.2.toNat 0)).length mc').ownBlock = some g → (Value.slice nvo ((ps.take i).map (fun p : Pr2 => A.2.2.2.1.getD p.1.toNat 0 ||| B.2.2.2.1.getD p.2.toNat 0)).length nvc).ownBlock ≠ some g := fun g hg e => by
      rcases hnb15 g hg with h | h
      · exact hdis g h e
      · have h : w14.heap.size ≤ g := h
        have := hln g e; omega
    have hlm16 := fun g hg => hom16.lt g hg
    clear hKs hK2 hK3 hKp hKo hS15 hD hsbd hb2d hb3d hpbd hEd ho15 hsb15 hg15 hg16 hkeep hsb14 hb214 hb314 hpb14 hom14 hon14 hE14 hnb15 q1 q2 hu
    apply EX.thenN
    -- R15
    have hD : Ext w16 (drew w16) := Ext.drew w16
    have hsbd := hsb16.ext hD
    have hb2d := hb216.ext hD
    have hb3d := hb316.ext hD
    have hpbd := hpb16.ext hD
    have lpb := hpb16.lt
    have hKs : ∀ u, (fun z : World => ∀ b, b < w16.heap.size → (Value.slice nvo ((ps.take i).map (fun p : Pr2 => A.2.2.2.1.getD p.1.toNat 0 ||| B.2.2.2.1.getD p.2.toNat 0)).length nvc).ownBlock ≠ some b → z.heap[b]? = (drew w16).heap[b]?) u → u.heap[w8.heap.size]? = (drew w16).heap[w8.heap.size]? := fun u h => h _ (by omega) (fun e => by have := hln _ e; omega)
    have hK2 : ∀ u, (fun z : World => ∀ b, b < w16.heap.size → (Value.slice nvo ((ps.take i).map (fun p : Pr2 => A.2.2.2.1.getD p.1.toNat 0 ||| B.2.2.2.1.getD p.2.toNat 0)).length nvc).ownBlock ≠ some b → z.heap[b]? = (drew w16).heap[b]?) u → u.heap[w0.heap.size]? = (drew w16).heap[w0.heap.size]? := fun u h => h _ (by omega) (fun e => by have := hln _ e; omega)
    have hK3 : ∀ u, (fun z : World => ∀ b, b < w16.heap.size → (Value.slice nvo ((ps.take i).map (fun p : Pr2 => A.2.2.2.1.getD p.1.toNat 0 ||| B.2.2.2.1.getD p.2.toNat 0)).length nvc).ownBlock ≠ some b → z.heap[b]? = (drew w16).heap[b]?) u → u.heap[w1.heap.size]? = (drew w16).heap[w1.heap.size]? := fun u h => h _ (by omega) (fun e => by have := hln _ e; omega)
    have hKp : ∀ u, (fun z : World => ∀ b, b < w16.heap.size → (Value.slice nvo ((ps.take i).map (fun p : Pr2 => A.2.2.2.1.getD p.1.toNat 0 ||| B.2.2.2.1.getD p.2.toNat 0)).length nvc).ownBlock ≠ some b → z.heap[b]? = (drew w16).heap[b]?) u → u.heap[w12.heap.size]? = (drew w16).heap[w12.heap.size]? := fun u h => h _ (by omega) (fun e => by have := hln _ e; omega)
    have hKo : ∀ u, (fun z : World => ∀ b, b < w16.heap.size → (Value.slice nvo ((ps.take i).map (fun p : Pr2 => A.2.2.2.1.getD p.1.toNat 0 ||| B.2.2.2.1.getD p.2.toNat 0)).length nvc).ownBlock ≠ some b → z.heap[b]? = (drew w16).heap[b]?) u → ∀ b, Old w0 b → u.heap[b]? = (drew w16).heap[b]? := fun u h b hb => by
      have hb : b < w0.heap.size := hb
      exact h _ (by omega) (fun e => by have := hln _ e; omega)
    have hEd := hE16.trans hD
    skip
    refine CW.drawE (fun z : World => ∀ b, b < w16.heap.size → (Value.slice nvo ((ps.take i).map (fun p : Pr2 => A.2.2.2.1.getD p.1.toNat 0 ||| B.2.2.2.1.getD p.2.toNat 0)).length nvc).ownBlock ≠ some b → z.heap[b]? = (drew w16).heap[b]?) [(0, true), (1, true), (2, true), (3, true), (4, true), (5, true), (6, true), (7, true), (8, true), (9, true), (10, true), (11, true), (12, true), (13, true), (14, true), (15, true), (16, true), (17, true), (18, true), (19, false), (20, false), (21, false), (22, false), (23, false)] 24 mixed (by kernel_rfl) (fun _ _ _ => rfl) ?_
    (repeat (first | (apply HL.pure; rfl; rfl; rfl; rfl) | (refine HL.fa rfl rfl rfl rfl ?_) | (apply HL.nck; rfl; rfl; rfl; rfl) | (refine HL.ldK (by assumption) rfl rfl rfl rfl (by assumption) rfl ?_)))
    refine HL.elemK (k := x) hKo rfl rfl rfl rfl rfl rfl rfl (h4.at hEd) (show x < _ by have := okA.no; omega) (fun _ => rfl) (fun u q hu => ?_)
    obtain ⟨rfl, q1⟩ := hu.u64
    rw [← wgetN'] at q1 ⊢
    (repeat (first | (refine HL.fa rfl rfl rfl rfl ?_) | (refine HL.ldK (by assumption) rfl rfl rfl rfl (by assumption) rfl ?_)))
    refine HL.elemK (k := y) hKo rfl rfl rfl rfl rfl rfl rfl (g4.at hEd) (show y < _ by have := okB.no; omega) (fun _ => rfl) (fun u q hu => ?_)
    obtain ⟨rfl, q2⟩ := hu.u64
    rw [← wgetN'] at q2 ⊢
    refine HL.orN rfl rfl rfl rfl rfl q1 q2 ?_
    refine HL.app1 (α := Nat) (F := Non) (bytes := 8) (yv := A.2.2.2.1.getD x 0 ||| B.2.2.2.1.getD y 0) rfl rfl rfl rfl (fun _ => rfl) rfl rfl (fun _ => rfl) (hon16.extN hD) ⟨_, rfl, rd_mkU64 _ _ _ (Nat.or_lt_two_pow (n := 64) q1 q2)⟩ (by have := hD.size; omega) (fun _ h => h.elim) (by decide) (by unfold maxLen; rw [List.length_map, List.length_take]; omega) (by rw [List.length_map, List.length_take]; omega)
      (fun z hz b hb hne => hz.block b hb (fun e => hne e.symm)) (fun nv2 w17 q3 ho17 hg17 hnb17 => ?_)
    rw [← hn2] at ho17
    have hsb17 := hsbd.kept hg17 (fun e => by have := hln _ e.symm; omega)
    have y17 : w16.heap.size ≤ w17.heap.size := hg17.size
    obtain ⟨nvo', nvc', rfl⟩ := ho17.val
    have hS17 : (fun z : World => ∀ b, b < w16.heap.size → (Value.slice nvo ((ps.take i).map (fun p : Pr2 => A.2.2.2.1.getD p.1.toNat 0 ||| B.2.2.2.1.getD p.2.toNat 0)).length nvc).ownBlock ≠ some b → z.heap[b]? = (drew w16).heap[b]?) w17 := fun b hb hne => hg17.block b hb (fun e => hne e.symm)
    refine HL.mut rfl (WL.nck rfl rfl rfl (WL.nil (EX.mut hS17 ?_)))
    refine HL.mut rfl (WL.fa rfl rfl rfl (WL.nil (EX.mut hS17 ?_)))
    refine HL.mut rfl (WL.fa rfl rfl rfl (WL.nil (EX.mut hS17 (HL.nil ?_))))
    refine EX.tail rfl (WL.st rfl rfl rfl hsb17 rfl rfl (ones_of rfl) (fun w18 hsb18 hg18 => WL.nil (EX.tailE ?_)))
    have hm18 : ∀ g, (Value.slice nvo' ((ps.take (i + 1)).map (fun p : Pr2 => A.2.2.2.1.getD p.1.toNat 0 ||| B.2.2.2.1.getD p.2.toNat 0)).length nvc').ownBlock = some g → w11.heap.size ≤ g ∧ g ≠ w8.heap.size := fun g hg => by
      rcases hnb17 g hg with h | h
      · have := hln g h; omega
      · have h : w16.heap.size ≤ g := h
        omega
    have y18 := hg18.size
    have e16d : Ext w16 (drew w16) := Ext.drew w16
    have hon18 := ho17.keptN hg18 (fun g hg e => (hm18 g hg).2 (Option.some.inj e))
    have hom18 := ((hom16.extN e16d).keptN hg17 (fun g hg e => hdis16 g hg e.symm)).keptN hg18 (fun g hg e => (hm16 g hg).2 (Option.some.inj e))
    have hC18 := ((hC16.trans (Chg.of_ext _ e16d)).then (Chg.of_grown hg17) (fun b h => .inr (by have := hln b h; omega))).grown hg18 (fun g hg => by cases hg; rfl)
    (repeat (first | (apply WL.add; rfl; rfl; rfl; rfl; omega; omega) | (apply WL.pure; rfl; rfl; rfl) | (apply WL.nil) | (apply EX.thenN) | (apply CW.region) | (apply EX.inN)))
    refine EX.back (i + 1, _, _) (by repeat (first | exact trivial | refine ⟨rfl, ?_⟩)) ⟨hi', hsb18, hom18, hon18, fun g hg e => ?_, hC18⟩ (by dsimp only; omega)
    rcases hnb17 g e with h | h
    · exact hdis16 g hg h
    · have h : w16.heap.size ≤ g := h
      have := (hlm16 g hg).2.1; omega
  have hie : i = ps.length := by simp only [decide_eq_false_iff_not] at h; omega
  subst hie
  rw [List.take_length] at hom hon hsb12
  clear h
  have hb212 : Blk w12 _ _ _ := (hC12.block _ (by omega) (fun h => by omega)).trans hb2
  have hb312 : Blk w12 _ _ _ := (hC12.block _ (by omega) (fun h => by omega)).trans hb3
  have hb412 : Blk w12 _ _ _ := (hC12.block _ (by omega) (fun h => by omega)).trans hb4
  have hso12 := hso.fz (hC12.wk (M' := fun b => b = w8.heap.size ∨ b < w7.heap.size) (fun b h => .inl h)) (fun b h => .inl h)
  have hno12 := hno.fz (hC12.wk (M' := fun b => b = w8.heap.size ∨ b < w7.heap.size) (fun b h => .inl h)) (fun b h => .inl h)
  have hlo12' := hlo12.mono (F' := Fz w12 (fun b => b = w8.heap.size ∨ (Value.slice none 0 0).ownBlock = some b)) (fun _ _ => rfl) (fun b hb => ⟨hb.1, fun h => hb.2 (.inl (h.resolve_right (fun h => by cases h)))⟩)
  have hf1 : Sl w12 (Fz w12 (fun b => b = w8.heap.size ∨ (Value.slice none 0 0).ownBlock = some b)) a5 c5 A.2.2.2.2 := (h5.at hE12).toFz (fun b hb => by
    have hb : b < w0.heap.size := hb
    exact ⟨by omega, fun h => by rcases h with h | h; (· omega); (· cases h)⟩)
  have hps1 : ∀ p ∈ ps, 0 ≤ p.1 ∧ p.1 < (A.2.1.length : Int) := fun p hp => (hall p hp).1
  have hps2 : ∀ p ∈ ps, 0 ≤ p.2 ∧ p.2 < (B.2.1.length : Int) := fun p hp => (hall p hp).2
  clear hb2 hb3 hb4 hlo hlo12 hsb hso hno hall hin hlm hln
  (repeat (first | (apply WL.pure; rfl; rfl; rfl) | (apply EX.thenN) | (apply CW.seq) | (apply CW.region) | (apply WL.lenS; rfl; rfl; rfl) | (apply WL.fa; rfl; rfl; rfl) | (apply WL.ld; rfl; rfl; rfl; assumption; rfl) | (apply CW.exit) | (apply EX.thenX) | (apply EX.inX)))
  refine WL.call rfl rfl rfl (sets_ok w12 (N := w7.heap.size) (B2 := w12.heap.size) (n := A.2.1.length) (vs := []) (xs := []) (of := Prod.fst) hsb12 hlo12' Own.nil (Nat.le_refl _) (by omega) InnR.nil (fun g hg => by cases hg) hf1 okA.fr (by omega) (fun w p hp => FnV.mk (cs := []) (both3_ok w p)) hps1 (by omega) (by simp; omega)) ?_
  rintro _ w13 ⟨nv1, vs1, hsb13, hf13, inn13, hC13, hnew13⟩
  rw [List.nil_append] at inn13
  have y13 := hC13.size
  have hE13 : Ext w0 w13 := Chg.ext hE12 hC13 (fun b hb => by rcases hb with h | h; (· subst h; omega); (· cases h))
  have hkk13 : ∀ b, b < w12.heap.size → b ≠ w8.heap.size → w13.heap[b]? = w12.heap[b]? := fun b hb hne => hC13.block b hb (fun h => by rcases h with h | h; (· exact hne h); (· cases h))
  have hb313 : Blk w13 _ _ _ := (hkk13 _ (by omega) (by omega)).trans hb312
  have hb413 : Blk w13 _ _ _ := (hkk13 _ (by omega) (by omega)).trans hb412
  have hnl1 := fun g hg => hf13.lt g hg
  have hlo13 := hlo12'.fz hC13 (M' := fun b => b = w8.heap.size ∨ nv1.ownBlock = some b) (fun b h => by
    rcases h with h | h
    · exact .inl (.inl h)
    · exact .inr (hnl1 b h).1)
  have hf2 : Sl w13 (Fz w13 (fun b => b = w8.heap.size ∨ nv1.ownBlock = some b)) k5 d5 B.2.2.2.2 := (g5.at hE13).toFz (fun b hb => by
    have hb : b < w0.heap.size := hb
    exact ⟨by omega, fun h => by rcases h with h | h; (· omega); (· have := (hnl1 b h).1; omega)⟩)
  clear hb312 hb412 hlo12' hf1
  (repeat (first | (apply WL.pure; rfl; rfl; rfl) | (apply WL.nil) | (apply EX.thenN) | (apply CW.seq) | (apply CW.region) | (apply WL.lenS; rfl; rfl; rfl) | (apply WL.fa; rfl; rfl; rfl) | (apply WL.ld; rfl; rfl; rfl; assumption; rfl)))
  refine WL.call rfl rfl rfl (sets_ok w13 (N := w7.heap.size) (B2 := w12.heap.size) (n := B.2.1.length) (of := Prod.snd) hsb13 hlo13 hf13 (by omega) (by omega) inn13 (fun g hg => by have := (hnl1 g hg).1; omega) hf2 okB.fr (by omega) (fun w p hp => FnV.mk (cs := []) (both4_ok w p)) hps2 (by omega) (by rw [List.length_map]; omega)) ?_
  rintro _ w14 ⟨nv2, vs2, hsb14, hf14, inn14, hC14, hnew14⟩
  have y14 := hC14.size
  have hE14 : Ext w0 w14 := Chg.ext hE13 hC14 (fun b hb => by rcases hb with h | h; (· subst h; omega); (· have := (hnl1 b h).1; omega))
  have hkk14 : ∀ b, b < w12.heap.size → b ≠ w8.heap.size → w14.heap[b]? = w12.heap[b]? := fun b hb hne => (hC14.block b (by omega) (fun h => by rcases h with h | h; (· exact hne h); (· have := (hnl1 b h).1; omega))).trans (hkk13 b hb hne)
  have hb414 : Blk w14 _ _ _ := (hC14.block _ (by omega) (fun h => by rcases h with h | h; (· omega); (· have := (hnl1 _ h).1; omega))).trans hb413
  have hnl2 := fun g hg => hf14.lt g hg
  obtain ⟨fo, fc, rfl, hfs⟩ := inn14.sl (F := fun b => b < w14.heap.size ∧ w7.heap.size ≤ b) hf14 (fun b hb => ⟨hb.1, by have h := hb.2; exact Nat.le_of_not_lt (fun hx => h (.inr (.inr hx)))⟩) (fun g hg => ⟨(hnl2 g hg).2.1, by have := (hnl2 g hg).1; omega⟩)
  clear hb413 hlo13 hf2
  (repeat (first | (apply WL.pure; rfl; rfl; rfl) | (apply WL.nil) | (apply EX.thenN) | (apply CW.seq) | (apply CW.region) | (apply WL.fa; rfl; rfl; rfl) | (apply WL.nck; rfl; rfl; rfl) | (apply WL.ldA; rfl; rfl; rfl; assumption; rfl)))
  refine WL.st rfl rfl rfl hb414 rfl rfl (ones_of rfl) (fun w15 hb15 hg15 => ?_)
  have y15 := hg15.size
  have hE15 : Ext w0 w15 := hE14.grown hg15 hE14.size (fun g hg => by cases hg; omega)
  have hkk15 : ∀ b, b < w14.heap.size → w7.heap.size ≤ b → w15.heap[b]? = w14.heap[b]? := fun b hb hge => hg15.block b hb (fun e => by have := Option.some.inj e; omega)
  have hfin : ∀ b, Fz w12 (fun b => b = w8.heap.size ∨ b < w7.heap.size) b → w15.heap[b]? = w12.heap[b]? := fun b hb => (hkk15 b (by have := hb.1; omega) (Nat.le_of_not_lt (fun hx => hb.2 (.inr hx)))).trans (hkk14 b hb.1 (fun h => hb.2 (.inl h)))
  have hle : ∀ b, Fz w12 (fun b => b = w8.heap.size ∨ b < w7.heap.size) b → Old w15 b := fun b hb => (show b < w15.heap.size by have := hb.1; omega)
  obtain ⟨mo', mc', em, hms⟩ := hom.slF (F' := Fz w12 (fun b => b = w8.heap.size ∨ b < w7.heap.size)) (fun _ h => h.elim) (fun g hg => ⟨(hom.lt g hg).2.1, fun h => by have := (hom.lt g hg).1; rcases h with h | h <;> omega⟩)
  obtain ⟨rfl, _, rfl⟩ := Value.slice.inj em
  obtain ⟨no', nc', en, hns⟩ := hon.slF (F' := Fz w12 (fun b => b = w8.heap.size ∨ b < w7.heap.size)) (fun _ h => h.elim) (fun g hg => ⟨(hon.lt g hg).2.1, fun h => by have := (hon.lt g hg).1; rcases h with h | h <;> omega⟩)
  obtain ⟨rfl, _, rfl⟩ := Value.slice.inj en
  (repeat (first | (apply WL.pure; rfl; rfl; rfl) | (apply WL.nil) | (apply EX.thenN) | (apply CW.ret)))
  exact EX.retC2 rfl rfl rfl hb15 rfl ⟨⟨_, rfl, ⟨uo, uc, no, nc, mo, mc, nvo, nvc, fo, fc, rfl, hso12.mono hfin hle, hno12.mono hfin hle, hms.mono hfin hle, hns.mono hfin hle, hfs.mono (fun b hb => hkk15 b hb.1 hb.2) (fun b hb => (show b < w15.heap.size by have := hb.1; omega))⟩⟩, hE15⟩
end Go.Proofs.Ytllpfgcngokhnaa
/-
  Both, by its error.
-/
set_option linter.unusedVariables false
set_option linter.unusedSimpArgs false
namespace Go.Proofs.Ytllpfgcngokhnaa
open Go.RowKit

theorem bothE_ok {A B : LAuto} (h : (bothE A B).2 = 0) : OkA A ∧ OkA B ∧ (madeE (bothNext A B) (bothStart A B)).2.1 = true ∧ A.2.2.2.2.length + B.2.2.2.2.length ≤ 80 ∧ (bothE A B).1 = bothL A B := by
  unfold bothE at h ⊢
  split at h
  · rename_i g; exact absurd h g
  rename_i g1
  split at h
  · rename_i g; exact absurd h g
  rename_i g2
  split at h
  case isFalse => simp at h
  rename_i g3
  rw [if_neg g1, if_neg g2, if_pos g3]
  exact ⟨chkA_ok (by simpa using g1), chkA_ok (by simpa using g2), g3.1, g3.2, rfl⟩
theorem bothE_err {A B : LAuto} (h : (bothE A B).2 ≠ 0) : (bothE A B).1 = nilA := by
  unfold bothE at h ⊢
  split
  · rfl
  rename_i g1
  split
  · rfl
  rename_i g2
  rw [if_neg g1, if_neg g2] at h
  split
  · rename_i g3; rw [if_pos g3] at h; exact absurd rfl h
  · rfl
end Go.Proofs.Ytllpfgcngokhnaa
/-
  TableauNots: walked.
-/
set_option linter.unusedVariables false
set_option linter.unusedSimpArgs false
namespace Go.Proofs.Ytllpfgcngokhnaa
open Go.RowKit

set_option maxHeartbeats 1000000 in
theorem TableauNots_ok (w0 : World) {f : Ltl} {v : Value} {s l : List Nat} {so lo : Option Addr} {sc lc : Nat} (hf : RL w0 v f) (hs : Sl w0 (Old w0) so sc s) (hl : Sl w0 (Old w0) lo lc l) :
    Rt Try.prog 7 [v, wordV so sc lo lc s l].toArray w0 fun v w' => v = .bool true ∧ Ext w0 w' := by
  obtain ⟨ko, kc, rfl, hkf⟩ := Rd.ltl hf
  refine Rt.enter2 Try.func7 Try.ntmps7 rfl rfl ?_
  have hE := Ext.refl w0
  (repeat (first | (apply CW.seq) | (apply CW.region)))
  refine WL.boxB rfl rfl rfl fun w1 hb2 e1 => ?_
  have hE := hE.trans e1
  skip
  refine WL.boxB rfl rfl rfl fun w2 hb3 e2 => ?_
  have hb2 := hb2.ext e2
  have hE := hE.trans e2
  (repeat (first | (apply WL.pure; rfl; rfl; rfl) | (apply WL.nil) | (apply EX.thenN) | (apply CW.seq) | (apply CW.region)))
  refine WL.call rfl rfl rfl (wmade_ok w2) ?_
  rintro _ w3 ⟨rfl, e3⟩
  have hb2 := hb2.ext e3
  have hb3 := hb3.ext e3
  have hE := hE.trans e3
  (repeat (first | (apply WL.pure; rfl; rfl; rfl) | (apply WL.nil) | (apply EX.thenN) | (apply CW.seq) | (apply CW.region) | (apply WL.ldA; rfl; rfl; rfl; assumption; rfl) | (apply CW.condF; rfl) | (apply CW.skip)))
  refine WL.call rfl rfl rfl (Make_ok w3 (hkf.up hE)) ?_
  rintro _ w4 ⟨⟨rv, rfl, hr⟩, e4⟩
  have hb2 := hb2.ext e4
  have hb3 := hb3.ext e4
  have hE := hE.trans e4
  obtain ⟨q1, f1, q2, f2, q3, f3, q4, f4, q5, f5, rfl, p1, p2, p3, p4, p5⟩ := hr.ok
  have hmk : (makeT f).2 = 0 → chkW s l = 0 → accF (makeT f).1 s l = (saidB s l f, 0) := acc_makeT
  have hacc : (makeT f).2 = 0 → OkA (makeT f).1 ∧ (AccA (makeT f).1 (lat s l) ↔ sem (lat s l) f 0) ∧ wfT f := makeT_acc
  have hsz := makeT_size f
  generalize (makeT f).2 = e at *
  generalize (makeT f).1 = A at *
  clear hr
  (repeat (apply WL.pure; rfl; rfl; rfl))
  refine WL.alloc rfl rfl (fun w6 hb5 e6 => ?_)
  skip
  refine WL.st rfl rfl rfl hb5 rfl rfl (ones_of rfl) (fun w7 hb5 hg7 => ?_)
  have e7 : Ext w4 w7 := e6.grown hg7 e6.size (fun g hg => by cases hg; exact Nat.le_refl _)
  have hE := hE.trans e7
  have hb2 := hb2.ext e7
  have hb3 := hb3.ext e7
  have hA : AutoAt w7 (Old w7) _ A := ⟨q1, f1, q2, f2, q3, f3, q4, f4, q5, f5, rfl, p1.up e7, p2.up e7, p3.up e7, p4.up e7, p5.up e7⟩
  clear e1 e2 e3 e4 e6 e7 hg7 p1 p2 p3 p4 p5
  -- the other one
  (repeat (first | (apply WL.pure; rfl; rfl; rfl) | (apply WL.nil) | (apply EX.thenN) | (apply CW.seq) | (apply CW.region) | (apply WL.ldA; rfl; rfl; rfl; assumption; rfl)))
  refine WL.call rfl rfl rfl (mk_one w7 4 (RL.ext hf hE)) ?_
  rintro nv w8 ⟨hn, e8⟩
  obtain ⟨no, nc, rfl, hkn⟩ := Rd.ltl hn
  skip
  refine WL.call rfl rfl rfl (Make_ok w8 (t := .mk 4 0 [f]) hkn) ?_
  rintro _ w9 ⟨⟨rv, rfl, hr⟩, e9⟩
  have e9 := e8.trans e9
  have hb3 := hb3.ext e9
  have hb5 := hb5.ext e9
  have hE := hE.trans e9
  have hA := hA.up e9
  obtain ⟨k1, d1, k2, d2, k3, d3, k4, d4, k5, d5, rfl, p1, p2, p3, p4, p5⟩ := hr.ok
  have hmk2 : (makeT (.mk 4 0 [f])).2 = 0 → chkW s l = 0 → accF (makeT (.mk 4 0 [f])).1 s l = (saidB s l (.mk 4 0 [f]), 0) := acc_makeT
  have hacc2 : (makeT (.mk 4 0 [f])).2 = 0 → OkA (makeT (.mk 4 0 [f])).1 ∧ (AccA (makeT (.mk 4 0 [f])).1 (lat s l) ↔ sem (lat s l) (.mk 4 0 [f]) 0) ∧ wfT (.mk 4 0 [f]) := makeT_acc
  have hsz2 := makeT_size (.mk 4 0 [f])
  generalize (makeT (.mk 4 0 [f])).2 = e' at *
  generalize (makeT (.mk 4 0 [f])).1 = B at *
  clear hr
  (repeat (apply WL.pure; rfl; rfl; rfl))
  refine WL.alloc rfl rfl (fun w10 hb7 e10 => ?_)
  skip
  refine WL.st rfl rfl rfl hb7 rfl rfl (ones_of rfl) (fun w11 hb7 hg11 => ?_)
  have e11 : Ext w9 w11 := e10.grown hg11 e10.size (fun g hg => by cases hg; exact Nat.le_refl _)
  have hE := hE.trans e11
  have hb3 := hb3.ext e11
  have hb5 := hb5.ext e11
  have hA := hA.up e11
  have hB : AutoAt w11 (Old w11) _ B := ⟨k1, d1, k2, d2, k3, d3, k4, d4, k5, d5, rfl, p1.up e11, p2.up e11, p3.up e11, p4.up e11, p5.up e11⟩
  clear e8 e9 e10 e11 hg11 p1 p2 p3 p4 p5 hn hkn hb2
  by_cases h0 : e = 0
  case neg =>
    have be : (e != 0) = true := by simpa using h0
    (repeat (first | (apply WL.pure; rfl; rfl; rfl) | (apply WL.nil) | (apply EX.thenN) | (apply CW.seq) | (apply CW.region)))
    rw [be]
    (repeat (first | (apply WL.pure; rfl; rfl; rfl) | (apply WL.nil) | (apply EX.thenN) | (apply CW.seq) | (apply CW.region) | (apply WL.pass; rfl; rfl) | (apply CW.condT; rfl) | (apply CW.ret) | (apply EX.thenR)))
    exact EX.ret1 rfl rfl ⟨rfl, hE⟩
  subst h0
  by_cases h1 : e' = 0
  case neg =>
    have be : (e' != 0) = true := by simpa using h1
    (repeat (first | (apply WL.pure; rfl; rfl; rfl) | (apply WL.nil) | (apply EX.thenN) | (apply CW.seq) | (apply CW.region)))
    rw [be]
    (repeat (first | (apply WL.pure; rfl; rfl; rfl) | (apply WL.nil) | (apply EX.thenN) | (apply CW.seq) | (apply CW.region) | (apply WL.pass; rfl; rfl) | (apply CW.condT; rfl) | (apply CW.ret) | (apply EX.thenR)))
    exact EX.ret1 rfl rfl ⟨rfl, hE⟩
  subst h1
  (repeat (first | (apply WL.pure; rfl; rfl; rfl) | (apply WL.nil) | (apply EX.thenN) | (apply CW.seq) | (apply CW.region) | (apply WL.ldA; rfl; rfl; rfl; assumption; rfl)))
  refine WL.call rfl rfl rfl (lassoCheck w11 hs.len63 hl.len63) ?_
  rintro _ w12 ⟨rfl, e12⟩
  have hE := hE.trans e12
  have hb3 := hb3.ext e12
  have hb5 := hb5.ext e12
  have hb7 := hb7.ext e12
  have hA := hA.up e12
  have hB := hB.up e12
  by_cases hW : chkW s l = 0
  case neg =>
    have be : (chkW s l != 0) = true := by simpa using hW
    (repeat (first | (apply WL.pure; rfl; rfl; rfl) | (apply WL.nil) | (apply EX.thenN)))
    rw [be]
    (repeat (first | (apply WL.pure; rfl; rfl; rfl) | (apply WL.nil) | (apply EX.thenN) | (apply CW.seq) | (apply CW.region) | (apply CW.condT; rfl) | (apply CW.ret) | (apply EX.thenR)))
    exact EX.ret1 rfl rfl ⟨rfl, hE⟩
  rw [hW]
  have hf0 := hmk rfl hW
  have hf1 := hmk2 rfl hW
  obtain ⟨okA, acA, wfA⟩ := hacc rfl
  obtain ⟨okB, acB, wfB⟩ := hacc2 rfl
  rw [saidB_not hW wfA wfB] at hf1
  (repeat (first | (apply WL.pure; rfl; rfl; rfl) | (apply WL.nil) | (apply EX.thenN) | (apply CW.seq) | (apply CW.region) | (apply WL.ldA; rfl; rfl; rfl; assumption; rfl) | (apply CW.condF; rfl) | (apply CW.skip)))
  refine WL.call rfl rfl rfl (Accepts_ok w12 (A := A) hA (hs.up hE) (hl.up hE) hsz.1) ?_
  rintro _ w13 ⟨rfl, e13⟩
  have hE := hE.trans e13
  have hb3 := hb3.ext e13
  have hb5 := hb5.ext e13
  have hb7 := hb7.ext e13
  have hA := hA.up e13
  have hB := hB.up e13
  rw [hf0]
  (repeat (first | (apply WL.pure; rfl; rfl; rfl) | (apply WL.nil) | (apply EX.thenN) | (apply CW.seq) | (apply CW.region) | (apply WL.ldA; rfl; rfl; rfl; assumption; rfl)))
  refine WL.call rfl rfl rfl (Accepts_ok w13 (A := B) hB (hs.up hE) (hl.up hE) hsz2.1) ?_
  rintro _ w14 ⟨rfl, e14⟩
  have hE := hE.trans e14
  have hb3 := hb3.ext e14
  have hb5 := hb5.ext e14
  have hb7 := hb7.ext e14
  have hA := hA.up e14
  have hB := hB.up e14
  rw [hf1]
  (repeat (first | (apply WL.pure; rfl; rfl; rfl) | (apply WL.nil) | (apply EX.thenN) | (apply CW.seq) | (apply CW.region) | (apply WL.ldA; rfl; rfl; rfl; assumption; rfl)))
  refine WL.call rfl rfl rfl (Both_ok w14 hA hB hsz.2.1 hsz2.2.1 hsz.2.2 hsz2.2.2) ?_
  rintro _ w15 ⟨⟨rv, rfl, hr⟩, e15⟩
  have hE := hE.trans e15
  have hb3 := hb3.ext e15
  have hok := bothE_ok (A := A) (B := B)
  generalize (bothE A B).2 = e at *
  generalize (bothE A B).1 = C at *
  obtain ⟨k1, d1, k2, d2, k3, d3, k4, d4, k5, d5, rfl, p1, p2, p3, p4, p5⟩ := hr.ok
  clear hr
  (repeat (apply WL.pure; rfl; rfl; rfl))
  refine WL.alloc rfl rfl (fun w16 hb13 e16 => ?_)
  skip
  refine WL.st rfl rfl rfl hb13 rfl rfl (ones_of rfl) (fun w17 hb13 hg17 => ?_)
  have e17 : Ext w15 w17 := e16.grown hg17 e16.size (fun g hg => by cases hg; exact Nat.le_refl _)
  have hE := hE.trans e17
  have hb3 := hb3.ext e17
  have hC : AutoAt w17 (Old w17) _ C := ⟨k1, d1, k2, d2, k3, d3, k4, d4, k5, d5, rfl, p1.up e17, p2.up e17, p3.up e17, p4.up e17, p5.up e17⟩
  clear e12 e13 e14 e15 e16 e17 hg17 p1 p2 p3 p4 p5 hb5 hb7 hA hB
  by_cases h0 : e = 0
  case neg =>
    have be : (e != 0) = true := by simpa using h0
    (repeat (first | (apply WL.pure; rfl; rfl; rfl) | (apply WL.nil) | (apply EX.thenN) | (apply CW.seq) | (apply CW.region)))
    rw [be]
    cases saidB s l f
    all_goals
      (repeat (first | (apply WL.pure; rfl; rfl; rfl) | (apply WL.nil) | (apply EX.thenN) | (apply CW.seq) | (apply CW.region) | (apply WL.neB; rfl; rfl; rfl; rfl) | (apply CW.condT; rfl) | (apply CW.ret) | (apply EX.thenR)))
      exact EX.ret1 rfl rfl ⟨rfl, hE⟩
  subst h0
  obtain ⟨_, _, hm, h80, rfl⟩ := hok rfl
  obtain ⟨okC, eC⟩ := both_okA hm h80
  have hlaw := both_law (L := lat s l) (okA_pos okA) (okA_pos okB) hm
  rw [acA, acB] at hlaw
  have hno : accB (bothL A B) (lat s l) = false := by
    rw [← Bool.not_eq_true, accB_iff]
    intro hc
    have h2 := hlaw.1 hc
    have h3 : ¬ sem (lat s l) f 0 := by simpa [sem, sems, semK] using h2.2
    exact h3 h2.1
  have hac := accF_at (s := s) (l := l) okC hW
  rw [hno] at hac
  (repeat (first | (apply WL.pure; rfl; rfl; rfl) | (apply WL.nil) | (apply EX.thenN) | (apply CW.seq) | (apply CW.region) | (apply WL.ldA; rfl; rfl; rfl; assumption; rfl) | (apply CW.condF; rfl) | (apply CW.skip)))
  refine WL.call rfl rfl rfl (Accepts_ok w17 (A := bothL A B) hC (hs.up hE) (hl.up hE) eC) ?_
  rintro _ w18 ⟨rfl, e18⟩
  have hE := hE.trans e18
  rw [hac]
  cases saidB s l f
  all_goals
    (repeat (first | (apply WL.pure; rfl; rfl; rfl) | (apply WL.nil) | (apply EX.thenN) | (apply CW.seq) | (apply CW.region) | (apply WL.neB; rfl; rfl; rfl; rfl) | (apply CW.ret)))
    exact EX.ret1 rfl rfl ⟨rfl, hE⟩
end Go.Proofs.Ytllpfgcngokhnaa
/-
  From the form's readings of the arguments to our own, and back: what a law's proof needs at its two ends.
-/
set_option linter.unusedVariables false
set_option linter.unusedSimpArgs false
namespace Go.Proofs.Ytllpfgcngokhnaa
open Go.RowKit Go.ChangeShapes Go.WideShapes Go.ChangeAt

theorem bulk_one {H : Type} (d : DataW H) : 1 ≤ Rows.uptoBulk d := by
  cases d with
  | lit l => cases l <;> simp [Rows.uptoBulk]
  | nil => simp [Rows.uptoBulk]
  | ptr d => simp [Rows.uptoBulk]
  | slice elems spare => simp [Rows.uptoBulk]
  | agg parts => simp [Rows.uptoBulk]
  | iface t d => simp [Rows.uptoBulk]
  | map entries => simp [Rows.uptoBulk]
  | held h => simp [Rows.uptoBulk]
theorem bulk_app {H : Type} (l r : List (DataW H)) : Rows.uptoBulkAll (l ++ r) = Rows.uptoBulkAll l + Rows.uptoBulkAll r := by
  induction l with
  | nil => simp [Rows.uptoBulkAll]
  | cons x l ih => simp only [List.cons_append, Rows.uptoBulkAll, ih]; omega

/-- the bound, as the form hands it over -/
theorem bound {H : Type} {l : List (DataW H)} (hk : Rows.uptoSmall H l = true) : Rows.uptoBulkAll l ≤ 1048576 := by
  simpa [Rows.uptoSmall] using hk
/-- how many values a value of ours holds -/
class Bk (α : Type) where
  bk : α → Nat
abbrev bk {α : Type} [Bk α] : α → Nat := Bk.bk
instance iOpen1 : Bk Int := ⟨fun _ => 1⟩
instance iOpen2 : Bk Bool := ⟨fun _ => 1⟩
instance iOpen3 : Bk Nat := ⟨fun _ => 1⟩
instance iOpen4 : Bk ByteArray := ⟨fun s => s.size + 1⟩
def bkL {α : Type} [Bk α] : List α → Nat
  | [] => 0
  | x :: r => bk x + bkL r
instance iOpen8 {α : Type} [Bk α] : Bk (List α) := ⟨fun l => bkL l + 1⟩

/-- what the form reads at a type, we read, too -/
class Opn (P : Program) (t : TypeId) (α : Type) [Rep α] [Bk α] : Prop where
  op : ∀ {H : Type} {enc : TypeId × Value → H} {w : World} {fuel : Nat} {cs : List Value} {d : DataW H} {ps : List MemPlace}, DataW.trod enc P w 0 (fun _ => true) true fuel t cs = some (d, ps) → ∃ x : α, rd w (Old w) cs x ∧ bk x ≤ Rows.uptoBulk d

theorem Opn.int {P : Program} {t : TypeId} (h : P.underlying t = some (.int .i64)) : Opn P t Int where
  op := by
    intro H enc w fuel cs d ps hd
    cases fuel with
    | zero => simp [DataW.trod] at hd
    | succ fuel =>
      unfold DataW.trod at hd
      rw [h] at hd
      split at hd <;> try (simp at *; done)
      rename_i k k' n e1
      simp at e1
      split at hd
      · rename_i hk
        simp at hd
        obtain ⟨rfl, rfl⟩ := hd
        exact ⟨n, by rw [hk.1, ← e1]; rfl, bulk_one _⟩
      · cases hd
theorem Opn.bool {P : Program} {t : TypeId} (h : P.underlying t = some .bool) : Opn P t Bool where
  op := by
    intro H enc w fuel cs d ps hd
    cases fuel with
    | zero => simp [DataW.trod] at hd
    | succ fuel =>
      unfold DataW.trod at hd
      rw [h] at hd
      split at hd <;> try (simp at *; done)
      rename_i b e1
      simp at hd
      obtain ⟨rfl, rfl⟩ := hd
      exact ⟨b, rfl, bulk_one _⟩
theorem Opn.u64 {P : Program} {t : TypeId} (h : P.underlying t = some (.int .u64)) : Opn P t Nat where
  op := by
    intro H enc w fuel cs d ps hd
    cases fuel with
    | zero => simp [DataW.trod] at hd
    | succ fuel =>
      unfold DataW.trod at hd
      rw [h] at hd
      split at hd <;> try (simp at *; done)
      rename_i k k' n e1
      simp at e1
      split at hd
      · rename_i hk
        simp at hd
        obtain ⟨rfl, rfl⟩ := hd
        have hwf := hk.2
        rw [← e1] at hwf
        have hb : 0 ≤ n ∧ n ≤ 18446744073709551615 := by simpa [Lit.wf, IntKind.min, IntKind.max, IntKind.signed, IntKind.bits] using hwf
        refine ⟨n.toNat, ⟨?_, by omega⟩, bulk_one _⟩
        rw [hk.1, ← e1, Int.toNat_of_nonneg hb.1]
      · cases hd
theorem Opn.string {P : Program} {t : TypeId} (h : P.underlying t = some .string) : Opn P t ByteArray where
  op := by
    intro H enc w fuel cs d ps hd
    cases fuel with
    | zero => simp [DataW.trod] at hd
    | succ fuel =>
      unfold DataW.trod at hd
      rw [h] at hd
      split at hd <;> try (simp at *; done)
      rename_i s e1
      split at hd
      · rename_i hk
        simp at hd
        obtain ⟨rfl, rfl⟩ := hd
        refine ⟨s, ⟨rfl, hk⟩, ?_⟩
        show s.size + 1 ≤ _
        simp only [Rows.uptoBulk]
        have e : s.data.toList.length = s.size := by rw [Array.length_toList]; rfl
        omega
      · cases hd

theorem mapM_range {β : Type} (f : Nat → Option β) : ∀ (n : Nat) (es : List β), (List.range n).mapM f = some es → es.length = n ∧ ∀ i (h : i < es.length), f i = some es[i]
  | 0, es, h => by
    simp at h; subst h
    exact ⟨rfl, fun i hi => absurd hi (by simp)⟩
  | n + 1, es, h => by
    rw [List.range_succ, List.mapM_append] at h
    simp only [List.mapM_cons, List.mapM_nil, Option.bind_eq_bind, Option.pure_def] at h
    cases h1 : (List.range n).mapM f with
    | none => rw [h1] at h; cases h
    | some l =>
      rw [h1] at h
      cases h2 : f n with
      | none => rw [h2] at h; cases h
      | some y =>
        rw [h2] at h
        simp at h
        subst h
        obtain ⟨hl, hi⟩ := mapM_range f n l h1
        refine ⟨by simp [hl], fun i hlt => ?_⟩
        by_cases hi' : i < l.length
        · rw [List.getElem_append_left hi']; exact hi i hi'
        · have : i = n := by simp at hlt; omega
          subst this
          rw [List.getElem_append_right (by omega)]
          simpa [hl] using h2
theorem mapM_cells {w : World} {a : Addr} {n : Nat} {cs : List Value} (h : w.cells? 0 a n = some cs) : cs.length = n ∧ ∀ j (hj : j < cs.length), w.cell? (a.add j) = some cs[j] := by
  unfold World.cells? at h
  rw [if_pos (Nat.zero_le _)] at h
  exact mapM_range _ n cs h

theorem slice_op {P : Program} {t e : TypeId} {α : Type} [Rep α] [Bk α] [hs : IsS P t e] [ht : IsT P e α] {H : Type} {enc : TypeId × Value → H} {w : World} {fuel : Nat}
    (ho : ∀ {cs : List Value} {d : DataW H} {ps : List MemPlace}, DataW.trod enc P w 0 (fun _ => true) true fuel e cs = some (d, ps) → ∃ x : α, rd w (Old w) cs x ∧ bk x ≤ Rows.uptoBulk d)
    {cs : List Value} {d : DataW H} {ps : List MemPlace} (hd : DataW.trod enc P w 0 (fun _ => true) true (fuel + 1) t cs = some (d, ps)) : ∃ x : List α, rd w (Old w) cs x ∧ bk x ≤ Rows.uptoBulk d := by
  unfold DataW.trod at hd
  rw [hs.ok] at hd
  obtain ⟨i0, hi1, hi2⟩ := IsT.info (P := P) (t := e) (α := α)
  have hsz : P.cellsOf e = sz α := by simp [Program.cellsOf, hi1, hi2]
  have hp : 0 < sz α := Rep.pos
  split at hd <;> try (simp at *; done)
  · simp at hd
    obtain ⟨rfl, rfl⟩ := hd
    exact ⟨[], ⟨none, 0, rfl, by simp, by simp [maxLen], fun _ => rfl, fun i hi => absurd hi (by simp)⟩, bulk_one _⟩
  · rename_i e' a len cap e1
    cases e1
    simp only at hd
    split at hd
    · rename_i hc
      obtain ⟨_, hle, hmx⟩ := hc
      rw [hsz] at hd
      cases hm : (List.range len).mapM (fun i => (w.cells? 0 (a.add (i * sz α)) (sz α)).bind (DataW.trod enc P w 0 (fun _ => true) true fuel e)) with
      | none => rw [hm] at hd; cases hd
      | some elems =>
        rw [hm] at hd
        simp only [Option.bind_some, if_true] at hd
        obtain ⟨rest, _, hd2⟩ := Option.map_eq_some_iff.1 hd
        simp only [Prod.mk.injEq] at hd2
        obtain ⟨rfl, _⟩ := hd2
        obtain ⟨hlen, hget⟩ := mapM_range _ len elems hm
        -- one element at a time
        have one : ∀ i (h : i < elems.length), ∃ x : α, (∃ b off, some a = some ⟨b, off, none⟩ ∧ Old w b ∧ ∃ es, Cells w b (off + i * sz α) es ∧ rd w (Old w) es x) ∧ bk x ≤ Rows.uptoBulk (elems[i]).1 := by
          intro i hi
          have h1 := hget i hi
          cases hcs : w.cells? 0 (a.add (i * sz α)) (sz α) with
          | none => rw [hcs] at h1; cases h1
          | some es =>
            rw [hcs] at h1
            simp only [Option.bind_some] at h1
            obtain ⟨x, hr, hb⟩ := ho (d := (elems[i]).1) (ps := (elems[i]).2) h1
            obtain ⟨hl, hc⟩ := mapM_cells hcs
            have h0 := hc 0 (by omega)
            have hspot : a.spot = none := by
              cases hsp : a.spot with
              | none => rfl
              | some k =>
                -- the first element's first cell lies at the address itself
                have h2 := hget 0 (by omega)
                cases hcs0 : w.cells? 0 (a.add (0 * sz α)) (sz α) with
                | none => rw [hcs0] at h2; cases h2
                | some es0 =>
                  obtain ⟨hl0, hc0⟩ := mapM_cells hcs0
                  have h3 := hc0 0 (by omega)
                  have e3 : (a.add (0 * sz α)).add 0 = a := by simp [Addr.add]
                  rw [e3] at h3
                  unfold World.cell? at h3
                  split at h3
                  · simp [hsp] at h3
                  · cases h3
            obtain ⟨b, off, sp⟩ := a
            simp only at hspot
            subst hspot
            rw [WideShapes.add_plain] at hc h0
            have hblt : b < w.heap.size := World.block_lt_of_cell? w _ h0
            refine ⟨x, ⟨b, off, rfl, hblt, es, ?_, hr⟩, hb⟩
            intro j u hu
            obtain ⟨hj, rfl⟩ := List.getElem?_eq_some_iff.1 hu
            have := hc j hj
            rwa [WideShapes.add_plain] at this
        have all : ∀ k, k ≤ elems.length → ∃ xs : List α, xs.length = k ∧ (∀ i (h : i < xs.length), ∃ b off, some a = some ⟨b, off, none⟩ ∧ Old w b ∧ ∃ es, Cells w b (off + i * sz α) es ∧ rd w (Old w) es xs[i]) ∧ bkL xs ≤ Rows.uptoBulkAll ((elems.map (·.1)).take k) := by
          intro k
          induction k with
          | zero => intro _; exact ⟨[], rfl, fun i hi => absurd hi (by simp), by simp [bkL, Rows.uptoBulkAll]⟩
          | succ k ih =>
            intro hk
            obtain ⟨xs, h1, h2, h3⟩ := ih (by omega)
            obtain ⟨x, h4, h5⟩ := one k (by omega)
            refine ⟨xs ++ [x], by simp [h1], ?_, ?_⟩
            · intro i hi
              by_cases hlt : i < xs.length
              · rw [List.getElem_append_left hlt]; exact h2 i hlt
              · have : i = k := by simp at hi; omega
                subst this
                rw [List.getElem_append_right (by omega)]
                simpa [h1] using h4
            · have hb : ∀ (l : List α), bkL (l ++ [x]) = bkL l + bk x := by
                intro l; induction l with
                | nil => simp [bkL]
                | cons y l ih => simp only [List.cons_append, bkL, ih]; omega
              rw [hb, List.take_succ_eq_append_getElem (by simp; omega), bulk_app]
              simp only [List.getElem_map, Rows.uptoBulkAll]
              omega
        obtain ⟨xs, h1, h2, h3⟩ := all elems.length (Nat.le_refl _)
        have hx : xs.length = len := by omega
        refine ⟨xs, ⟨some a, cap, by rw [hx], ⟨by omega, hmx, (fun h => by cases h), h2⟩⟩, ?_⟩
        show bkL xs + 1 ≤ _
        rw [List.take_of_length_le (by simp)] at h3
        simp only [Rows.uptoBulk]
        omega
    · cases hd

theorem Opn.slice {P : Program} {t e : TypeId} {α : Type} [Rep α] [Bk α] [hs : IsS P t e] [ht : IsT P e α] [ho : Opn P e α] : Opn P t (List α) where
  op := by
    intro H enc w fuel cs d ps hd
    cases fuel with
    | zero => simp [DataW.trod] at hd
    | succ fuel => exact slice_op (e := e) (fun h => ho.op h) hd

theorem okWide_form {P : Program} {w : World} {r : Reach} {base : Nat} {t : TypeId} {v : Value} {d : TypeDesc} (hu : P.underlying t = some d) (h : Value.okWide P w r base t v) :
    (aggD d = false → v.oneCell' = true) ∧ (aggD d = true → ∃ cs, v = .agg cs) := by
  unfold Value.okWide at h
  rw [hu] at h
  constructor
  · intro hd
    cases v <;> first
      | rfl
      | (exfalso; cases d <;> simp [aggD] at hd <;> simp [Cell.okWide, Cell.ok, hu] at h)
  · intro hd
    cases d <;> simp [aggD] at hd <;> (obtain ⟨cs, rfl, _⟩ := h; exact ⟨cs, rfl⟩)
/-- an argument, opened -/
theorem Opn.arg {P : Program} {t : TypeId} {α : Type} [Rep α] [Bk α] [ht : IsT P t α] [ho : Opn P t α] {H : Type} {enc : TypeId × Value → H} {w : World} {v : Value} {d : DataW H} {ps : List MemPlace} {r : Reach} {base : Nat}
    (hv : Value.okWide P w r base t v) (h : DataW.Trod enc P w 0 (fun _ => true) true t v d ps) : ∃ x : α, Rd w (Old w) v x ∧ bk x ≤ Rows.uptoBulk d := by
  obtain ⟨i, dd, _, _, h3, h4⟩ := ht.ok
  obtain ⟨f1, f2⟩ := okWide_form h3 hv
  obtain ⟨fuel, hf⟩ := h
  obtain ⟨x, hr, hb⟩ := ho.op hf
  refine ⟨x, ⟨v.cells.toList, ?_, hr⟩, hb⟩
  unfold vOf
  split
  · rename_i he
    obtain ⟨cs, rfl⟩ := f2 (h4.trans he)
    simp [Value.cells]
  · rename_i he
    have := f1 (h4.trans he)
    cases v <;> first | rfl | (simp [Value.oneCell'] at this)

theorem trodAll_below {H : Type} {enc : TypeId × Value → H} {P : Program} (hl : laidOutB P = true) {W W' : World} (hb : Ext W W') : ∀ {ts : List TypeId} {vs : List Value} {ds : List (DataW H)} {ps : List MemPlace},
    (∀ t ∈ ts, P.readableRec t = true ∧ t < P.types.size) → DataW.TrodAll enc P W 0 (fun _ => true) true ts vs ds ps → (∀ x ∈ ps, x.block < W.heap.size) →
    DataW.TrodAll enc P W' 0 (fun b => decide (b < W.heap.size)) true ts vs ds ps
  | [], [], [], _, _, h, _ => h
  | t :: ts, v :: vs, d :: ds, ps, hr, h, hlt => by
    obtain ⟨p, q, h1, h2, rfl⟩ := h
    exact ⟨p, q, Below.trod hl (hr t (by simp)).1 (hr t (by simp)).2 h1 hb (fun x hx => hlt x (by simp [hx])),
      trodAll_below hl hb (fun t ht => hr t (by simp [ht])) h2 (fun x hx => hlt x (by simp [hx])), rfl⟩
  | [], [], _ :: _, _, _, h, _ => h.elim
  | [], _ :: _, [], _, _, h, _ => h.elim
  | [], _ :: _, _ :: _, _, _, h, _ => h.elim
  | _ :: _, [], [], _, _, h, _ => h.elim
  | _ :: _, [], _ :: _, _, _, h, _ => h.elim
  | _ :: _, _ :: _, [], _, _, h, _ => h.elim

/-- the law's end: it returned true, and only new memory was made -/
theorem law_post {H : Type} {enc : TypeId × Value → H} {P : Program} {fn : Func} {s : ChangeSpec} {W W' : World} {args : Array Value} {ds gs : List (DataW H)} {before : List MemPlace} {tb : TypeId}
    (hl : laidOutB P = true) (hW : DataW.Whole enc P fn.params.toList s.vars false W args.toList ds gs before) (hv : s.vars = []) (hr : ∀ t ∈ fn.params.toList, P.readableRec t = true ∧ t < P.types.size)
    (hsp : (s.fn H (ds ++ gs)).results = [.lit (.bool true)] ∧ (s.fn H (ds ++ gs)).args = ds ∧ (s.fn H (ds ++ gs)).vars = []) (hres : fn.resultTypes = #[tb]) (hb : P.underlying tb = some .bool) (hE : Ext W W') :
    s.post enc P fn false true false false W args (.bool true) W' := by
  have hlt := hW.lt
  have hW' := hW
  obtain ⟨p, q, hA, hV, rfl, _, _⟩ := hW
  rw [hv] at hV
  obtain ⟨e1, e2, e3⟩ := hsp
  refine ⟨ds, gs, p ++ q, [], p, [], hW', ?_, ?_, ?_, hE.frame _, fun h => by cases h⟩
  · rw [e1, hres]
    exact trodAll_mk1 (shut_bool hb true)
  · rw [e2]
    exact trodAll_below hl hE hr hA (fun x hx => hlt x (by simp [hx]))
  · rw [e3, hv]
    exact rfl
/- structs -/
instance iOpen9 {α β : Type} [Bk α] [Bk β] : Bk (α × β) := ⟨fun x => bk x.1 + bk x.2⟩
/-- a list of fields, from an offset on -/
class OpnFs (P : Program) (fs : List (TypeId × Nat)) (off : Nat) (α : Type) [Rep α] [Bk α] : Prop where
  op : ∀ {H : Type} {enc : TypeId × Value → H} {w : World} {fuel : Nat} {cs : List Value} {xs : List (DataW H × List MemPlace)}, off + sz α = cs.length →
    (fs.mapM fun f => DataW.trod enc P w 0 (fun _ => true) true fuel f.1 ((cs.drop f.2).take (P.cellsOf f.1))) = some xs → ∃ x : α, rd w (Old w) (cs.drop off) x ∧ bk x ≤ Rows.uptoBulkAll (xs.map (·.1))
theorem cellsOf_T {P : Program} {t : TypeId} {α : Type} [Rep α] [ht : IsT P t α] : P.cellsOf t = sz α := by
  obtain ⟨i, h1, h2⟩ := IsT.info (P := P) (t := t) (α := α)
  simp [Program.cellsOf, h1, h2]
instance OpnFs.one {P : Program} {t : TypeId} {off : Nat} {α : Type} [Rep α] [Bk α] [ht : IsT P t α] [ho : Opn P t α] : OpnFs P [(t, off)] off α where
  op := by
    intro H enc w fuel cs xs hl h
    simp only [List.mapM_cons, List.mapM_nil, Option.bind_eq_bind, Option.pure_def] at h
    cases h1 : DataW.trod enc P w 0 (fun _ => true) true fuel t ((cs.drop off).take (P.cellsOf t)) with
    | none => rw [h1] at h; cases h
    | some d =>
      rw [h1] at h; simp at h; subst h
      obtain ⟨d, ps⟩ := d
      obtain ⟨x, hr, hb⟩ := ho.op h1
      rw [cellsOf_T (α := α), List.take_of_length_le (by rw [List.length_drop]; omega)] at hr
      exact ⟨x, hr, by simpa [Rows.uptoBulkAll] using hb⟩
instance OpnFs.cons {P : Program} {t : TypeId} {off : Nat} {f : TypeId × Nat} {fs : List (TypeId × Nat)} {α β : Type} [Rep α] [Bk α] [Rep β] [Bk β] [ht : IsT P t α] [ho : Opn P t α] [hr : OpnFs P (f :: fs) (off + sz α) β] : OpnFs P ((t, off) :: f :: fs) off (α × β) where
  op := by
    intro H enc w fuel cs xs hl h
    rw [List.mapM_cons] at h
    simp only [Option.bind_eq_bind, Option.pure_def] at h
    have hl' : off + sz α + sz β = cs.length := by
      have : sz (α × β) = sz α + sz β := rfl
      omega
    cases h1 : DataW.trod enc P w 0 (fun _ => true) true fuel t ((cs.drop off).take (P.cellsOf t)) with
    | none => rw [h1] at h; cases h
    | some d =>
      rw [h1] at h
      simp only [Option.bind_some] at h
      obtain ⟨ys, h2, h3⟩ := Option.bind_eq_some_iff.1 h
      cases h3
      obtain ⟨d, ps⟩ := d
      obtain ⟨x, hx, hb⟩ := ho.op h1
      obtain ⟨y, hy, hc⟩ := hr.op hl' h2
      rw [cellsOf_T (α := α)] at hx
      refine ⟨(x, y), ⟨(cs.drop off).take (sz α), cs.drop (off + sz α), ?_, hx, hy⟩, ?_⟩
      · rw [← List.drop_drop, List.take_append_drop]
      · show bk x + bk y ≤ _
        simp only [List.map_cons, Rows.uptoBulkAll]
        omega
def stFact (P : Program) (t : TypeId) : Option (List (TypeId × Nat)) := match P.underlying t with
  | some (.struct fs) => some (fs.toList.map fun f => (f.type, f.offset))
  | _ => none
theorem Opn.struct {P : Program} {t : TypeId} {fs : List (TypeId × Nat)} {α : Type} [Rep α] [Bk α] [ht : IsT P t α] [hf : OpnFs P fs 0 α] (h : stFact P t = some fs) : Opn P t α where
  op := by
    intro H enc w fuel cs d ps hd
    unfold stFact at h
    split at h
    · rename_i gs hu
      cases h
      cases fuel with
      | zero => simp [DataW.trod] at hd
      | succ fuel =>
        unfold DataW.trod at hd
        rw [hu] at hd
        simp only at hd
        split at hd
        · rename_i hl
          obtain ⟨xs, h1, h2⟩ := Option.map_eq_some_iff.1 hd
          cases h2
          have := hf.op (enc := enc) (w := w) (fuel := fuel) (cs := cs) (xs := xs) (by rw [hl, cellsOf_T (α := α)]; omega) (by rw [List.mapM_map]; exact h1)
          obtain ⟨x, hr, hb⟩ := this
          exact ⟨x, by simpa using hr, by simp only [Rows.uptoBulk]; omega⟩
        · cases hd
    · cases h
instance iOpen5 : Opn Try.prog 3 Int := Opn.int Try.underlying3
instance iOpen6 : Opn Try.prog 22 (List Int) := Opn.slice
instance iOpen7 : Opn Try.prog 23 (List (List Int)) := Opn.slice
end Go.Proofs.Ytllpfgcngokhnaa
/-
  The types of the arguments, as the form reads them.
-/
set_option linter.unusedVariables false
namespace Go.Proofs.Ytllpfgcngokhnaa
open Go.RowKit

instance iOpn1 : Opn Try.prog 4 Bool := Opn.bool Try.underlying4
instance iOpn2 : Opn Try.prog 53 Nat := Opn.u64 Try.underlying53
instance iOpn3 : Opn Try.prog 9 ByteArray := Opn.string Try.underlying9
instance iOpn4 : Opn Try.prog 31 Int := Opn.int Try.underlying31
instance iOpn5 : Opn Try.prog 54 (List Bool) := Opn.slice
instance iOpn6 : Opn Try.prog 24 (List Nat) := Opn.slice
instance iOpn8 : Opn Try.prog 181 (List Bool) := Opn.slice
instance iOpn9 : Opn Try.prog 213 (List (List Bool)) := Opn.slice
instance iOpn18 : Opn Try.prog 39 (List Nat × List Nat) := Opn.struct (fs := [(24, 0), (24, 1)]) (by kernel_rfl)
instance iOpn19 : Opn Try.prog 30 (List Int × List Int) := Opn.struct (fs := [(22, 0), (22, 1)]) (by kernel_rfl)
instance iOpn22 : Opn Try.prog 26 (List Int × List (List Int) × List Nat × List (List Int)) := Opn.struct (fs := [(22, 0), (23, 1), (24, 2), (23, 3)]) (by kernel_rfl)
instance iOpn23 : Opn Try.prog 28 (List Int × List (List Int) × List Nat × List Nat × List (List Int)) := Opn.struct (fs := [(22, 0), (23, 1), (24, 2), (24, 3), (23, 4)]) (by kernel_rfl)
end Go.Proofs.Ytllpfgcngokhnaa
/-
  Formulas as arguments.
-/
set_option linter.unusedVariables false
set_option linter.unusedSimpArgs false
namespace Go.Proofs.Ytllpfgcngokhnaa
open Go.RowKit

instance iOpnLtl1 : Bk Ltl := ⟨Ltl.nodes⟩
theorem len3 {cs : List Value} (h : cs.length = 3) : ∃ c0 c1 c2, cs = [c0, c1, c2] := by
  match cs, h with
  | [a, b, c], _ => exact ⟨a, b, c, rfl⟩
theorem ltl_op {H : Type} {enc : TypeId × Value → H} {w : World} : ∀ (fuel : Nat) {cs : List Value} {d : DataW H} {ps : List MemPlace}, DataW.trod enc Try.prog w 0 (fun _ => true) true fuel 68 cs = some (d, ps) → ∃ x : Ltl, rd w (Old w) cs x ∧ bk x ≤ Rows.uptoBulk d := by
  intro fuel
  induction fuel using Nat.strongRecOn with
  | _ fuel ih =>
    intro cs d ps hd
    have hst : stFact Try.prog 68 = some [(3, 0), (3, 1), (66, 2)] := by kernel_rfl
    unfold stFact at hst
    split at hst
    · rename_i gs hu
      have hst := Option.some.inj hst
      cases fuel with
      | zero => simp [DataW.trod] at hd
      | succ fuel =>
        unfold DataW.trod at hd
        rw [hu] at hd
        simp only at hd
        split at hd
        · rename_i hl
          obtain ⟨xs, h1, h2⟩ := Option.map_eq_some_iff.1 hd
          cases h2
          have h3 : (List.map (fun f : Field => (f.type, f.offset)) gs.toList).mapM (fun f : TypeId × Nat => DataW.trod enc Try.prog w 0 (fun _ => true) true fuel f.1 ((cs.drop f.2).take (Try.prog.cellsOf f.1))) = some xs := by rw [List.mapM_map]; exact h1
          rw [hst] at h3
          rw [cellsOf_T (α := Ltl)] at hl
          have hl3 : cs.length = 3 := hl
          simp only [List.mapM_cons, List.mapM_nil, Option.bind_eq_bind, Option.pure_def] at h3
          obtain ⟨x1, e1, h3⟩ := Option.bind_eq_some_iff.1 h3
          obtain ⟨y1, h3, hy1⟩ := Option.bind_eq_some_iff.1 h3
          obtain ⟨x2, e2, h3⟩ := Option.bind_eq_some_iff.1 h3
          obtain ⟨y2, h3, hy2⟩ := Option.bind_eq_some_iff.1 h3
          obtain ⟨x3, e3, h3⟩ := Option.bind_eq_some_iff.1 h3
          simp at h3 hy2 hy1
          subst h3 hy2 hy1
          obtain ⟨d1, p1⟩ := x1
          obtain ⟨d2, p2⟩ := x2
          obtain ⟨d3, p3⟩ := x3
          rw [cellsOf_T (α := Int)] at e1 e2
          rw [cellsOf_T (α := List Ltl)] at e3
          obtain ⟨k, hk, bk1⟩ := Opn.op (P := Try.prog) (t := 3) (α := Int) e1
          obtain ⟨n, hn, bk2⟩ := Opn.op (P := Try.prog) (t := 3) (α := Int) e2
          cases fuel with
          | zero => simp [DataW.trod] at e3
          | succ fuel =>
            obtain ⟨kids, hkids, bk3⟩ := slice_op (α := Ltl) (e := 68) (fun h => ih fuel (by omega) h) e3
            obtain ⟨ao, cap, hc, hs⟩ := rd_sl hkids
            have hk' := rd_int hk
            have hn' := rd_int hn
            refine ⟨.mk k n kids, ?_, ?_⟩
            · clear hu hst h1 e1 e2 e3 ih bk1 bk2 bk3
              obtain ⟨c0, c1, c2, rfl⟩ := len3 hl3
              have a0 : [c0] = [.int .i64 k] := hk'
              have a1 : [c1] = [.int .i64 n] := hn'
              have a2 : [c2] = [.slice ao kids.length cap] := hc
              rw [List.cons.inj a0 |>.1, List.cons.inj a1 |>.1, List.cons.inj a2 |>.1]
              exact RdT.of hs
            · have hnl : ∀ l : List Ltl, bkL l = Ltl.nodesL l := by
                intro l
                induction l with
                | nil => rfl
                | cons x r ihl => simp only [bkL, Ltl.nodesL, ihl]; rfl
              have e3' : bk kids = bkL kids + 1 := rfl
              have e4 : bk (Ltl.mk k n kids) = 1 + Ltl.nodesL kids := by show Ltl.nodes _ = _; simp [Ltl.nodes]
              rw [e4, ← hnl]
              simp only [List.map_cons, List.map_nil, Rows.uptoBulk, Rows.uptoBulkAll]
              omega
        · cases hd
    · cases hst
instance iOpnLtl2 : Opn Try.prog 68 Ltl where
  op := fun h => ltl_op _ h
end Go.Proofs.Ytllpfgcngokhnaa
