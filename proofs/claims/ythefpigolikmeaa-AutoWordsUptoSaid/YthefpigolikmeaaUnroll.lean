/-
  watchkeep.unrolled: a word written otherwise.
-/
import Derived.Test.YthefpigolikmeaaLasso2
import Derived.Test.YthefpigolikmeaaRet
set_option linter.unusedVariables false
set_option linter.unusedSimpArgs false
namespace Go.Proofs.Ythefpigolikmeaa
open Go.RowKit

theorem rest_ok (w : World) (n m : Int) (hm : 0 < m) (hm2 : m < 4611686018427387904) : Rt Try.prog 51 [.int .i64 n, .int .i64 m].toArray w fun v w' => v = .int .i64 (n % m) ∧ w = w' := by
  refine Rt.enter2 Try.func51 Try.ntmps51 rfl rfl ?_
  have h1 := Int.tmod_add_mul_tdiv n m
  have h2 : n.tmod m < m := Int.tmod_lt_of_pos n hm
  have h3 : -m < n.tmod m := by
    have := Int.tmod_lt_of_pos (-n) hm
    rw [Int.neg_tmod] at this; omega
  have hpos : 0 ≤ n.tmod m → n.tmod m = n % m := fun h => by
    have e : n % m = (n.tmod m + m * n.tdiv m) % m := by rw [h1]
    rw [e, Int.add_mul_emod_self_left, Int.emod_eq_of_lt h h2]
  have hneg : n.tmod m < 0 → n.tmod m + m = n % m := fun h => by
    have e : n % m = ((n.tmod m + m) + m * (n.tdiv m - 1)) % m := by rw [Int.mul_sub]; congr 1; omega
    rw [e, Int.add_mul_emod_self_left, Int.emod_eq_of_lt (by omega) (by omega)]
  (repeat (first | (apply WL.pure; rfl; rfl; rfl) | (apply WL.nil) | (apply EX.thenN) | (apply CW.seq) | (apply CW.region)))
  refine WL.remT rfl rfl rfl rfl (by omega) ?_
  (repeat (first | (apply WL.pure; rfl; rfl; rfl) | (apply WL.nil) | (apply EX.thenN) | (apply CW.seq) | (apply CW.region)))
  refine CW.cond rfl (fun h => ?_) (fun h => ?_) <;> simp only [decide_eq_true_eq, decide_eq_false_iff_not] at h
  · (repeat (first | (apply WL.add; rfl; rfl; rfl; rfl; omega; omega) | (apply WL.pure; rfl; rfl; rfl) | (apply WL.nil) | (apply EX.thenN) | (apply CW.seq) | (apply CW.region) | (apply CW.ret)))
    exact EX.ret1 rfl rfl ⟨congrArg (Value.int .i64) (hneg h), rfl⟩
  · (repeat (first | (apply WL.pure; rfl; rfl; rfl) | (apply WL.nil) | (apply EX.thenN) | (apply CW.seq) | (apply CW.region) | (apply CW.ret) | (apply CW.skip)))
    exact EX.ret1 rfl rfl ⟨congrArg (Value.int .i64) (hpos (by omega)), rfl⟩
theorem clone_u64 (w0 : World) {F : Nat → Prop} {ao : Option Addr} {cap : Nat} {xs : List Nat} (hs : Sl w0 F ao cap xs) (hF : ∀ b, F b → b < w0.heap.size) (hb : xs.length * 8 ≤ 140737488355328) :
    Rt Try.prog 50 [.slice ao xs.length cap].toArray w0 fun v w' => Own w' w0.heap.size 33 Non v xs ∧ Ext w0 w' := by
  have hm := hs.len63
  refine Rt.enter1 Try.func50 Try.ntmps50 rfl rfl ?_
  (repeat (first | (apply WL.pure; rfl; rfl; rfl) | (apply WL.nil) | (apply EX.thenN) | (apply CW.seq) | (apply CW.region) | (apply WL.isNil; rfl; rfl; rfl)))
  refine CW.cond rfl (fun h => ?_) (fun h => ?_)
  · (repeat (first | (apply WL.pure; rfl; rfl; rfl) | (apply WL.nil) | (apply EX.thenN) | (apply CW.seq) | (apply CW.region) | (apply CW.ret) | (apply EX.thenR)))
    refine EX.ret1 rfl rfl ⟨?_, Ext.refl _⟩
    have h0 : ao = none := by simpa using h
    have : xs = [] := List.eq_nil_of_length_eq_zero (by have := hs.nil h0; have := hs.le; omega)
    subst this
    exact Own.nil
  · (repeat (first | (apply EX.thenN) | (apply CW.seq) | (apply CW.region) | (apply CW.skip)))
    refine WL.lit0 (α := Nat) rfl rfl (fun w1 ho hg => ?_)
    (repeat (apply WL.pure; rfl; rfl; rfl))
    have hE : Ext w0 w1 := (Below.refl _ _).grown hg (Nat.le_refl _) (fun k h => by cases h)
    refine WL.app (F := Non) rfl rfl rfl rfl ho (hs.up0 hE hF).srcN hE.size (fun _ h => h.elim) (by simp [maxLen]; omega) (by simpa using hb) (fun v w2 ho2 hg2 _ => ?_)
    (repeat (first | (apply WL.pure; rfl; rfl; rfl) | (apply WL.nil) | (apply EX.thenN) | (apply CW.ret)))
    refine EX.ret1 rfl rfl ⟨by simpa using ho2, hE.grown hg2 hE.size ?_⟩
    intro k hk
    exact (ho.lt k hk).1
/-- blocks that are new since w -/
def Fresh (w w' : World) : Nat → Prop := fun b => w.heap.size ≤ b ∧ b < w'.heap.size
theorem unrolled_ok (w : World) {so lo : Option Addr} {sc lc : Nat} {s l : List Nat} (hs : Sl w (Old w) so sc s) (hl : Sl w (Old w) lo lc l) (k : Int) (h60 : s.length + l.length ≤ 1000) :
    Rt Try.prog 47 [wordV so sc lo lc s l, .int .i64 k].toArray w fun v w' => Rd w' (Fresh w w') v ((s ++ l.take (k % ((l.length : Int) + 1)).toNat, l.drop (k % ((l.length : Int) + 1)).toNat ++ l.take (k % ((l.length : Int) + 1)).toNat) : LWord) ∧ Ext w w' := by
  refine Rt.enter2 Try.func47 Try.ntmps47 rfl rfl ?_
  (repeat (first | (apply CW.seq) | (apply CW.region)))
  refine WL.boxB rfl rfl rfl fun w1 hw hE1 => ?_
  refine WL.alloc rfl rfl (fun w2 hr hE2 => ?_)
  have hw2 := hw.ext hE2
  have hE12 := hE1.trans hE2
  have hl1 : w.heap.size < w1.heap.size := hw.lt
  have hl2 : w1.heap.size < w2.heap.size := hr.lt
  (repeat (first | (apply WL.nil) | (apply EX.thenN) | (apply CW.seq) | (apply CW.region) | (apply WL.fa; rfl; rfl; rfl) | (apply WL.ld; rfl; rfl; rfl; assumption; rfl)))
  refine WL.call rfl rfl rfl (clone_u64 w2 (hs.at hE12) (fun b hb => Nat.lt_of_lt_of_le hb hE12.size) (by omega)) ?_
  rintro vs w3 ⟨hos, hE3⟩
  have hw3 := hw2.ext hE3
  have hr3 := hr.ext hE3
  have hE13 := hE12.trans hE3
  skip
  obtain ⟨ao, cap, hvs⟩ := hos.val
  subst hvs
  refine WL.build rfl rfl rfl rfl ?_
  refine WL.alloc rfl rfl (fun w4 ho hE4 => ?_)
  have hl3 : w3.heap.size < w4.heap.size := ho.lt
  refine WL.st rfl rfl rfl ho rfl rfl (ones_of rfl) (fun w5 ho hg5 => ?_)
  have hE35 : Ext w3 w5 := hE4.grown hg5 hE4.size (fun g hg => by cases hg; exact Nat.le_refl _)
  have hw5 := hw3.ext hE35
  have hr5 := hr3.ext hE35
  have hos5 := hos.extN hE35
  have hE5 := hE13.trans hE35
  (repeat (first | (apply WL.add; rfl; rfl; rfl; rfl; omega; omega) | (apply WL.pure; rfl; rfl; rfl) | (apply WL.nil) | (apply EX.thenN) | (apply CW.seq) | (apply CW.region) | (apply WL.lenS; rfl; rfl; rfl) | (apply WL.fa; rfl; rfl; rfl) | (apply WL.ld; rfl; rfl; rfl; assumption; rfl)))
  refine WL.call rfl rfl rfl (rest_ok w5 k ((l.length : Int) + 1) (by omega) (by omega)) ?_
  rintro v w6 ⟨rfl, rfl⟩
  have hn := Int.emod_nonneg k (show ((l.length : Int) + 1) ≠ 0 by omega)
  have hn2 := Int.emod_lt_of_pos k (show 0 < ((l.length : Int) + 1) by omega)
  generalize k % ((l.length : Int) + 1) = n at *
  obtain ⟨m, rfl⟩ := Int.eq_ofNat_of_zero_le hn
  (repeat (apply WL.pure; rfl; rfl; rfl))
  apply WL.nil
  apply EX.thenN
  have hE25 : Ext w2 w5 := hE3.trans hE35
  have hd : Ext w2 (drew w5) := hE25.trans (Ext.drew w5)
  have hSE : ∀ w1, (fun x => Ext w2 x) w1 → Ext w2 w1 := fun _ h => h
  have hod := ho.ext (Ext.drew w5)
  have hosd := hos5.extN (Ext.drew w5)
  have hld : Sl (drew w5) (Old w) lo lc l := hl.at (hE12.trans hd)
  apply CW.seq
  refine CW.drawH (fun x => Ext w2 x) [(0, true), (2, true), (3, true), (4, true), (5, true), (1, false), (6, false), (7, true), (8, false)] mixed (by kernel_rfl) hd ?_
  (repeat (first | (apply HL.pure; rfl; rfl; rfl; rfl) | (refine HL.fa rfl rfl rfl rfl ?_) | (refine HL.ld (by assumption) rfl rfl rfl rfl (by assumption) rfl ?_)))
  refine HL.cutHi (α := Nat) m rfl rfl rfl rfl rfl rfl (by have := hl.le; omega) ?_
  refine HL.mut rfl (WL.ld rfl rfl rfl hod rfl (WL.nil (EX.mut hd ?_)))
  have htk : Sl (drew w5) (Old w) lo lc (l.take m) := hld.take (by omega)
  have hlm : m = (l.take m).length := by rw [List.length_take]; omega
  have hos3 := hos.lt
  refine HL.mut rfl (WL.app (F := Non) (xs := s) (ys := l.take m) (cap := lc) rfl rfl rfl (by rw [show (l.take m).length = m from hlm.symm]; rfl) hosd htk.srcN hd.size (fun _ h => h.elim) (by unfold maxLen; omega) (by omega) (fun v' w9 ho9 hgr9 hnb => ?_))
  have hE29 : Ext w2 w9 := hd.grown hgr9 hd.size (fun g hg => (hosd.lt g hg).1)
  have hod9 := hod.kept hgr9 (by intro e; have := (hos3 _ e.symm).2.1; omega)
  obtain ⟨a9, c9, rfl⟩ := ho9.val
  refine WL.nil (EX.mut hE29 ?_)
  (repeat (refine HL.fa rfl rfl rfl rfl ?_))
  refine HL.mut rfl (WL.st rfl rfl rfl hod9 rfl rfl (ones_of rfl) (fun w10 hod10 hgr10 => ?_))
  have hE210 : Ext w2 w10 := hE29.grown hgr10 hE29.size (fun g hg => by cases hg; exact hE3.size)
  refine WL.nil (EX.mut hE210 ?_)
  (repeat (apply HL.nil))
  have hsd : w3.heap.size < (drew w5).heap.size := ho.lt
  have ho10 := ho9.keptN hgr10 (fun g hg => by
    rcases hnb g hg with h | h
    · have := (hos3 g h).2.1; simp; omega
    · simp; omega)
  have hl10 : Sl (drew w10) (Old w) lo lc l := hl.at ((hE12.trans hE210).trans (Ext.drew w10))
  have hdd : Ext w2 (drew w10) := hE210.trans (Ext.drew w10)
  have hood := ho10.extN (Ext.drew w10)
  have htd := hod10.ext (Ext.drew w10)
  skip
  apply EX.thenN
  apply CW.seq
  refine CW.drawH (fun x => Ext w2 x) [(0, true), (1, true), (2, true), (3, true), (5, true), (6, true), (7, true), (8, true), (4, false), (9, false), (10, true), (11, false)] mixed (by kernel_rfl) hdd ?_
  (repeat (first | (apply HL.pure; rfl; rfl; rfl; rfl) | (refine HL.fa rfl rfl rfl rfl ?_) | (refine HL.ld (by assumption) rfl rfl rfl rfl (by assumption) rfl ?_)))
  refine HL.cutLo (α := Nat) m rfl rfl rfl rfl rfl rfl (by omega) hl.le ?_
  (repeat (first | (apply HL.pure; rfl; rfl; rfl; rfl) | (refine HL.fa rfl rfl rfl rfl ?_) | (refine HL.ld (by assumption) rfl rfl rfl rfl (by assumption) rfl ?_)))
  refine HL.cutHi (α := Nat) m rfl rfl rfl rfl rfl rfl (by have := hl.le; omega) ?_
  have hld2 := hl10.drop (k := m) (by omega)
  refine HL.mut rfl (WL.call rfl rfl rfl (by have := clone_u64 (drew w10) hld2 (fun b hb => Nat.lt_of_lt_of_le hb (hE12.trans hdd).size) (by rw [List.length_drop]; omega); rwa [List.length_drop] at this) ?_)
  rintro vc w11 ⟨hoc, hE11⟩
  have hT11 : Ext w2 w11 := hdd.trans hE11
  refine WL.nil (EX.mut hT11 ?_)
  have hl11 : Sl w11 (Old w) lo lc l := hl10.mono (fun b hb => hE11.block b (Nat.lt_of_lt_of_le hb (hE12.trans hdd).size)) fun _ h => h
  have htk11 := hl11.take (k := m) (by omega)
  have hood11 := hood.extN hE11
  have htd11 := htd.ext hE11
  have hs10' : w10.heap.size ≤ (drew w10).heap.size := Nat.le_refl _
  have hs59 : (drew w5).heap.size ≤ w10.heap.size := Nat.le_trans hgr9.size hgr10.size
  refine HL.mut rfl (WL.app (F := Non) (xs := l.drop m) (ys := l.take m) (cap := lc) rfl rfl rfl (by rw [show (l.take m).length = m from hlm.symm]; rfl) hoc htk11.srcN hE11.size (fun _ h => h.elim) (by rw [List.length_drop, List.length_take]; unfold maxLen; omega) (by rw [List.length_drop, List.length_take]; omega) (fun v2 w12 ho12 hgr12 hnb12 => ?_))
  have hT12 : Ext w2 w12 := hT11.grown hgr12 hT11.size (fun g hg => Nat.le_trans hdd.size (hoc.lt g hg).1)
  have htd12 := htd11.kept hgr12 (by intro e; have := (hoc.lt _ e.symm).1; omega)
  have hood12 := hood11.keptN hgr12 (fun g hg => by
    have h1 := (hood.lt g hg).2.1
    intro e
    have := (hoc.lt g e.symm).1
    omega)
  obtain ⟨a12, c12, rfl⟩ := ho12.val
  refine WL.nil (EX.mut hT12 ?_)
  (repeat (refine HL.fa rfl rfl rfl rfl ?_))
  refine HL.mut rfl (WL.st rfl rfl rfl htd12 rfl rfl (ones_of rfl) (fun w13 htd13 hgr13 => ?_))
  have hT13 : Ext w2 w13 := hT12.grown hgr13 hT12.size (fun g hg => by cases hg; exact hE3.size)
  refine WL.nil (EX.mut hT13 ?_)
  (repeat (apply HL.nil))
  have hood13 := hood12.keptN hgr13 (fun g hg => by
    rcases hnb g hg with h | h
    · have := (hos3 g h).2.1; simp; omega
    · simp; omega)
  have ho13 := ho12.keptN hgr13 (fun g hg => by
    have := (ho12.lt g hg).1
    simp; omega)
  have hr13 := hr.ext hT13
  (repeat (first | (apply EX.thenN) | (apply CW.seq) | (apply CW.region) | (apply WL.ldA; rfl; rfl; rfl; assumption; rfl)))
  refine WL.st rfl rfl rfl hr13 rfl rfl (ones_of rfl) (fun w14 hr14 hgr14 => ?_)
  have hw2s : w2.heap.size ≤ (drew w10).heap.size := hdd.size
  have hood14 := hood13.keptN hgr14 (fun g hg => by
    have := (hood13.lt g hg).1
    simp; omega)
  have ho14 := ho13.keptN hgr14 (fun g hg => by
    have := (ho13.lt g hg).1
    simp; omega)
  have hE213 := hE12.trans hT13
  have hE14 : Ext w w14 := hE213.grown hgr14 hE213.size (fun g hg => by cases hg; omega)
  have hfr : ∀ {v : Value} {xs : List Nat}, Own w14 w2.heap.size 33 Non v xs → Rd w14 (Fresh w w14) v xs := fun h => h.rd.mono (fun _ _ => rfl) fun b hb => hb.elim (fun h => h.elim) fun hb => ⟨Nat.le_trans hE12.size (h.lt b hb).1, (h.lt b hb).2.1⟩
  obtain ⟨q1, q2, he1, hsl1⟩ := (hfr hood14).sl
  obtain ⟨rfl, _, rfl⟩ := Value.slice.inj he1
  obtain ⟨q3, q4, he2, hsl2⟩ := (hfr (ho14.low (Nat.le_trans hdd.size (Nat.le_refl _)))).sl
  obtain ⟨rfl, _, rfl⟩ := Value.slice.inj he2
  (repeat (first | (apply WL.nil) | (apply EX.thenN) | (apply CW.ret)))
  exact EX.retC rfl rfl hr14 rfl ⟨Rd.mkPr (rd_mkSl hsl1) (rd_mkSl hsl2), hE14⟩
end Go.Proofs.Ythefpigolikmeaa
