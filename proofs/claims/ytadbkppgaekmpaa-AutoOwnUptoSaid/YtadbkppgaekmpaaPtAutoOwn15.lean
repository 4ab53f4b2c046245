import Derived.Test.YtadbkppgaekmpaaPtAutoOwn14
/-
  Package auto: Single: walked.
-/
set_option linter.unusedVariables false
set_option linter.unusedSimpArgs false
namespace Go.Proofs.Ytadbkppgaekmpaa
open Go.RowKit

instance iSg1 : IsT Try.prog 97 Raw := IsT.of (by kernel_rfl) Try.underlying97 rfl
instance iSg2 : IsZ Try.prog 97 (⟨.slice none 0 0⟩ : Raw) 24 := IsZ.of (z := .slice none 0 0) (by kernel_rfl) (fun _ _ => ⟨rfl, rfl⟩)
def singleE (A : LAuto) : LAuto × Int := if chkA A ≠ 0 then (nilA, chkA A) else if (madeE (oneNext A) (oneStart A)).2.1 = true then (oneL A, 0) else (nilA, 2)
abbrev PrO (A : LAuto) (p : Pr2) : Prop := (0 ≤ p.1 ∧ p.1 < (A.2.1.length : Int)) ∧ 0 ≤ p.2 ∧ (p.2 < (A.2.2.2.2.length : Int) ∨ p.2 = 0 ∧ A.2.2.2.2.length = 0)
theorem nilA_in (w : World) (F : Nat → Prop) : AutoAt w F (.agg #[.slice none 0 0, .slice none 0 0, .slice none 0 0, .slice none 0 0, .slice none 0 0]) nilA :=
  ⟨none, 0, none, 0, none, 0, none, 0, none, 0, rfl, Sl.zero w _, Sl.zero w _, Sl.zero w _, Sl.zero w _, Sl.zero w _⟩
theorem set_rows {N : Nat} {fr : List (List Int)} {i : Nat} (h : i < fr.length) : ((fr.take i).map (memL N) ++ List.replicate (fr.length - i) ([] : List Bool)).set i (memL N fr[i]) = (fr.take (i + 1)).map (memL N) ++ List.replicate (fr.length - (i + 1)) [] := by
  obtain ⟨k, hk⟩ : ∃ k, fr.length - i = k + 1 := ⟨fr.length - i - 1, by omega⟩
  rw [hk, show fr.length - (i + 1) = k by omega, List.replicate_succ, List.set_append_right _ _ (by rw [List.length_map, List.length_take]; omega)]
  rw [List.length_map, List.length_take, Nat.min_eq_left (by omega), Nat.sub_self, List.set_cons_zero, List.take_add_one, List.getElem?_eq_getElem h, List.map_append]
  simp
theorem oneNext_len {A : LAuto} {p : Pr2} : (oneNext A p).length = (A.2.1.getD p.1.toNat []).length := by unfold oneNext; rw [List.length_map]
theorem oneNext_Q {A : LAuto} (okA : OkA A) {p : Pr2} (hp : PrO A p) : ∀ x ∈ oneNext A p, PrO A x := fun x hx => by
  obtain ⟨h1, h2⟩ := oneNext_mem.1 hx
  refine ⟨okG_row okA.nx _ _ h1, ?_⟩
  rw [h2]
  unfold oneK
  split
  · rename_i h
    have h3 := Int.emod_nonneg (p.2 + 1) (show (A.2.2.2.2.length : Int) ≠ 0 by omega)
    have h4 := Int.emod_lt_of_pos (p.2 + 1) (show (0 : Int) < (A.2.2.2.2.length : Int) by omega)
    exact ⟨h3, .inl h4⟩
  · exact hp.2
theorem oneStart_Q {A : LAuto} (okA : OkA A) : ∀ x ∈ oneStart A, PrO A x := fun x hx => by
  obtain ⟨h1, h2⟩ := oneStart_mem.1 hx
  refine ⟨okA.st _ h1, ?_⟩
  rw [h2]
  by_cases h : A.2.2.2.2.length = 0
  · exact ⟨Int.le_refl _, .inr ⟨rfl, h⟩⟩
  · exact ⟨Int.le_refl _, .inl (by omega)⟩
/-- the fair set so far -/
def oneFairN (fr : List (List Int)) (ps : List Pr2) (n : Nat) : List Int := ((List.range n).filter fun i => decide ((ps.getD i (0, 0)).2 = 0) && (decide (fr.length = 0) || decide ((ps.getD i (0, 0)).1 ∈ fr.getD 0 []))).map fun i : Nat => (i : Int)
theorem oneFairN_next {fr : List (List Int)} {ps : List Pr2} {n : Nat} : oneFairN fr ps (n + 1) = oneFairN fr ps n ++ if (decide ((ps.getD n (0, 0)).2 = 0) && (decide (fr.length = 0) || decide ((ps.getD n (0, 0)).1 ∈ fr.getD 0 []))) = true then [(n : Int)] else [] := by
  unfold oneFairN
  rw [List.range_succ, List.filter_append, List.map_append]
  congr 1
  rw [List.filter_cons]
  split <;> simp
theorem oneFairN_len {fr : List (List Int)} {ps : List Pr2} {n : Nat} : (oneFairN fr ps n).length ≤ n := by
  unfold oneFairN
  rw [List.length_map]
  refine Nat.le_trans (List.length_filter_le _ _) (by simp)
set_option maxHeartbeats 2000000 in
theorem Single_ok (w0 : World) {va : Value} {A : LAuto} (ha : AutoAt w0 (Old w0) va A) (sA : ∀ j, (A.2.1.getD j []).length ≤ 1048576) (tA : A.1.length ≤ 1048576) :
    Rt Try.prog 13 [va].toArray w0 fun v w' => (∃ rv, v = .tuple ⟨[rv, .int .i64 (singleE A).2]⟩ ∧ AutoAt w' (fun b => w0.heap.size ≤ b ∧ b < w'.heap.size) rv (singleE A).1) ∧ Ext w0 w' := by
  obtain ⟨a1, c1, a2, c2, a3, c3, a4, c4, a5, c5, rfl, h1, h2, h3, h4, h5⟩ := ha.ok
  refine Rt.enter1 Try.func13 Try.ntmps13 rfl rfl ?_
  have hE := Ext.refl w0
  (repeat (first | (apply CW.seq) | (apply CW.region)))
  refine WL.boxB rfl rfl rfl fun w1 hb1 e1 => ?_
  have hE := hE.trans e1
  skip
  refine WL.alloc rfl rfl (fun w2 hb2 e2 => ?_)
  have hb1 := hb1.ext e2
  have hE := hE.trans e2
  have y1 := e1.size
  have y2 := hb2.lt
  have l1 := hb1.lt
  unfold singleE
  (repeat (first | (apply WL.pure; rfl; rfl; rfl) | (apply WL.nil) | (apply EX.thenN) | (apply CW.seq) | (apply CW.region) | (apply WL.ldA; rfl; rfl; rfl; assumption; rfl)))
  refine WL.call rfl rfl rfl (aCheck_ok w2 (A := A) ⟨a1, c1, a2, c2, a3, c3, a4, c4, a5, c5, rfl, h1.up hE, h2.up hE, h3.up hE, h4.up hE, h5.up hE⟩) ?_
  rintro _ w3 ⟨rfl, e3⟩
  have hb1 := hb1.ext e3
  have hb2 := hb2.ext e3
  have hE := hE.trans e3
  have y3 := e3.size
  (repeat (first | (apply WL.pure; rfl; rfl; rfl) | (apply WL.nil) | (apply EX.thenN) | (apply CW.seq) | (apply CW.region)))
  refine CW.cond rfl (fun h => ?_) (fun h => ?_)
  · have h : chkA A ≠ 0 := by simpa using h
    rw [if_pos h]
    (repeat (first | (apply CW.seq) | (apply CW.region)))
    refine WL.build (parts := []) rfl rfl rfl rfl ?_
    (repeat (apply WL.pure; rfl; rfl; rfl))
    refine WL.st rfl rfl rfl hb2 rfl rfl (ones_of rfl) (fun w4 hb4 hg4 => ?_)
    have hE4 : Ext w0 w4 := hE.grown hg4 hE.size (fun g hg => by cases hg; omega)
    (repeat (first | (apply WL.pure; rfl; rfl; rfl) | (apply WL.nil) | (apply EX.thenN) | (apply CW.ret) | (apply EX.thenR)))
    exact EX.retC2 rfl rfl rfl hb4 rfl ⟨⟨_, rfl, nilA_in _ _⟩, hE4⟩
  have hA : chkA A = 0 := by simpa using h
  have okA := chkA_ok hA
  clear h
  rw [if_neg (by simp [hA])]
  have hfl := okA.f
  have hnl := okA.n
  (repeat (first | (apply EX.thenN) | (apply CW.seq) | (apply CW.region) | (apply WL.lenS; rfl; rfl; rfl) | (apply WL.fa; rfl; rfl; rfl) | (apply WL.ld; rfl; rfl; rfl; assumption; rfl) | (apply CW.skip)))
  refine WL.make (α := Raw) rfl rfl rfl rfl (by omega) (by unfold maxLen; omega) (fun w4 ho4 hg4 => ?_)
  have e4 : Ext w3 w4 := (Below.refl _ _).grown hg4 (Nat.le_refl _) (fun k h => by cases h)
  have hN4 : OwnN w4 w3.heap.size 97 4 (.slice (some ⟨w3.heap.size, 0, none⟩) A.2.2.2.2.length A.2.2.2.2.length) _ (List.replicate A.2.2.2.2.length ([] : List Bool)) := OwnN.made ho4
  have hb1 := hb1.ext e4
  have hb2 := hb2.ext e4
  have hE := hE.trans e4
  have y4 := e4.size
  have l3 := (ho4.lt w3.heap.size rfl).2.1
  clear ho4
  skip
  refine WL.alloc rfl rfl (fun w5 hb5 e5 => ?_)
  skip
  refine WL.st rfl rfl rfl hb5 rfl rfl (ones_of rfl) (fun w6 hb5 hg6 => ?_)
  generalize hsv : Value.slice (some ⟨w3.heap.size, 0, none⟩) A.2.2.2.2.length A.2.2.2.2.length = sv at *
  have e6 : Ext w4 w6 := Below.grown e5 hg6 e5.size (fun g hg => by cases hg; exact Nat.le_refl _)
  have hb1 := hb1.ext e6
  have hb2 := hb2.ext e6
  have hE := hE.trans e6
  have hN6 := hN4.ext e6
  have l5 := hb5.lt
  have y6 := e6.size
  clear e1 e2 e3 e4 e5 e6 hg4 hg6 hN4
  (repeat (first | (apply WL.pure; rfl; rfl; rfl) | (apply WL.nil) | (apply EX.thenN) | (apply CW.seq) | (apply CW.region) | (apply WL.lenS; rfl; rfl; rfl) | (apply WL.fa; rfl; rfl; rfl) | (apply WL.ld; rfl; rfl; rfl; assumption; rfl) | (apply CW.block)))
  refine CW.loop (S := Nat × List Raw) (fun s => [(1, .pointer (some ⟨w0.heap.size, 0, none⟩)), (2, .pointer (some ⟨w1.heap.size, 0, none⟩)), (5, .pointer (some ⟨w4.heap.size, 0, none⟩)), (27, .slice a5 A.2.2.2.2.length c5), (28, .int .i64 A.2.2.2.2.length), (29, .int .i64 s.1)])
    (fun s w => s.1 ≤ A.2.2.2.2.length ∧ OwnN w w3.heap.size 97 4 sv s.2 ((A.2.2.2.2.take s.1).map (memL A.2.1.length) ++ List.replicate (A.2.2.2.2.length - s.1) ([] : List Bool)) ∧ Chg (fun b => sv.ownBlock = some b) w6 w) (fun s => A.2.2.2.2.length - s.1) (0, _) (by repeat (first | exact trivial | refine ⟨rfl, ?_⟩)) ⟨Nat.zero_le _, by simpa using hN6, Chg.refl _ _⟩ ?_
  rintro ⟨i, vs⟩ w7 ⟨hi, hN, hC7⟩
  dsimp only at hi hN hC7 ⊢
  have hol := fun g hg => hN6.out.lt g hg
  have y7 := hC7.size
  have hE7 : Ext w0 w7 := Chg.ext hE hC7 (fun b hb => by have := hol b hb; omega)
  have hsvb : ∀ g, sv.ownBlock = some g → g = w3.heap.size := fun g hg => by rw [← hsv] at hg; exact (Option.some.inj hg).symm
  have hk7 : ∀ b, b < w6.heap.size → b ≠ w3.heap.size → w7.heap[b]? = w6.heap[b]? := fun b hb hne => hC7.block b hb (fun h => hne (hsvb b h))
  have hb1 : Blk w7 _ _ _ := (hk7 _ (by omega) (by omega)).trans hb1
  have hb2 : Blk w7 _ _ _ := (hk7 _ (by omega) (by omega)).trans hb2
  have hb5 : Blk w7 _ _ _ := (hk7 _ (by omega) (by omega)).trans hb5
  (repeat (first | (apply WL.pure; rfl; rfl; rfl) | (apply WL.nil) | (apply EX.thenN) | (apply CW.seq) | (apply CW.region)))
  refine CW.cond rfl (fun h => ?_) (fun h => ?_)
  · have hi' : i < A.2.2.2.2.length := by simp only [decide_eq_true_eq] at h; omega
    clear h
    have hvl := hN.len
    rw [List.length_append, List.length_map, List.length_take, List.length_replicate] at hvl
    have hiv : i < vs.length := by omega
    have hfi := okA.fr _ (List.getElem_mem hi')
    have hsr := set_rows (N := A.2.1.length) hi'
    (repeat (first | (apply WL.pure; rfl; rfl; rfl) | (apply EX.thenN) | (apply CW.seq) | (apply CW.region) | (apply CW.block) | (apply CW.skip)))
    refine WL.elemN (i := i) rfl rfl rfl rfl rfl (h5.up hE7) hi' (fun _ => rfl) (fun u q hu => ?_)
    obtain ⟨ro, rc, rfl, hr⟩ := hu.sl
    clear hu
    (repeat (first | (apply WL.pure; rfl; rfl; rfl) | (apply WL.nil) | (apply EX.thenN)))
    have hSE : ∀ z, (fun z : World => Ext w7 z) z → Ext w7 z := fun _ h => h
    refine CW.drawE (fun z : World => Ext w7 z) [(0, true), (1, true), (2, true), (3, true), (4, true), (5, true), (6, false), (7, true)] 8 mixed (by kernel_rfl) (Ext.drew w7) ?_
    (repeat (first | (apply HL.pure; rfl; rfl; rfl; rfl) | (refine HL.fa rfl rfl rfl rfl ?_) | (refine HL.ld (by assumption) rfl rfl rfl rfl (by assumption) rfl ?_) | (refine HL.lenS rfl rfl rfl rfl ?_)))
    have hD := Ext.drew w7
    refine HL.mut rfl (WL.call rfl rfl rfl (member_ok (drew w7) (hr.up hD) (fun _ h => h) A.2.1.length (by omega) hfi) ?_)
    rintro mv w8 ⟨hm, e8⟩
    have e78 := hD.trans e8
    refine WL.nil (EX.mut e78 ?_)
    have hm' := hm.low hD.size
    obtain ⟨mo, mc, rfl⟩ := hm.val
    have hid : vs[i].v.ownBlock = none ∨ True := .inr trivial
    have hgi : w7.grownBy w8 vs[i].v.ownBlock := ⟨e78.os, e78.tape, e78.output, e78.size, fun k hk _ => e78.block k hk⟩
    have hmid := hN.mid hiv hgi
    refine HL.setTail (yv := (⟨.slice mo (memL A.2.1.length A.2.2.2.2[i]).length mc⟩ : Raw)) rfl rfl rfl rfl rfl rfl hmid hiv (fun _ => rfl) (fun _ => rfl) (Rd.mkRaw _ _ _ rfl) (fun w9 q ho9 hg9 => ?_)
    have hN9 := hN.set hiv (hm.low (B' := w3.heap.size) (by have := hD.size; omega)) hgi (fun g hg => .inr (by have := (hm.lt g hg).1; have := hD.size; omega)) ho9 hg9
    rw [hsr] at hN9
    have hC9 : Chg (fun b => sv.ownBlock = some b) w6 w9 := (hC7.trans (Chg.of_ext _ e78)).grown hg9 (fun g hg => hg)
    (repeat (first | (apply WL.add; rfl; rfl; rfl; rfl; omega; omega) | (apply WL.pure; rfl; rfl; rfl) | (apply WL.nil) | (apply EX.thenN) | (apply CW.region) | (apply EX.inN)))
    exact EX.back (i + 1, _) (by repeat (first | exact trivial | refine ⟨rfl, ?_⟩)) ⟨hi', hN9, hC9⟩ (by dsimp only; omega)
  have hie : i = A.2.2.2.2.length := by simp only [decide_eq_false_iff_not] at h; omega
  subst hie
  rw [List.take_length, Nat.sub_self, List.replicate_zero, List.append_nil] at hN
  clear h hN6 hol hk7 hsvb
  obtain ⟨io, ic, hio, hin⟩ := (Rd.sl hN.old)
  subst hio
  rename_i hE6
  have hE := hE7
  (repeat (first | (apply WL.pure; rfl; rfl; rfl) | (apply WL.nil) | (apply EX.thenN) | (apply CW.seq) | (apply CW.region) | (apply WL.lenS; rfl; rfl; rfl) | (apply WL.makeFunc; rfl; rfl; rfl; rfl) | (apply WL.fa; rfl; rfl; rfl) | (apply WL.ld; rfl; rfl; rfl; assumption; rfl) | (apply CW.block) | (apply CW.exit) | (apply EX.thenX) | (apply EX.inX)))
  refine CW.loop (S := Nat × Value) (fun s => [(1, .pointer (some ⟨w0.heap.size, 0, none⟩)), (2, .pointer (some ⟨w1.heap.size, 0, none⟩)), (5, .pointer (some ⟨w4.heap.size, 0, none⟩)), (8, .func (.func 67) #[] #[.pointer (some ⟨w4.heap.size, 0, none⟩), .pointer (some ⟨w0.heap.size, 0, none⟩)]), (9, s.2), (45, .slice a1 A.1.length c1), (46, .int .i64 A.1.length), (47, .int .i64 s.1)])
    (fun s w => s.1 ≤ A.1.length ∧ Own w w7.heap.size 133 Non s.2 ((A.1.take s.1).map fun x => ((x, 0) : Pr2)) ∧ Ext w7 w) (fun s => A.1.length - s.1) (0, .slice none 0 0) (by repeat (first | exact trivial | refine ⟨rfl, ?_⟩)) ⟨Nat.zero_le _, Own.nil, Ext.refl _⟩ ?_
  rintro ⟨i, ov⟩ w8 ⟨hi, hos, e8⟩
  dsimp only at hi hos e8 ⊢
  (repeat (first | (apply WL.pure; rfl; rfl; rfl) | (apply WL.nil) | (apply EX.thenN) | (apply CW.seq) | (apply CW.region)))
  refine CW.cond rfl (fun h => ?_) (fun h => ?_)
  · have hi' : i < A.1.length := by simp only [decide_eq_true_eq] at h; omega
    have hnx : (A.1.take (i + 1)).map (fun x => ((x, 0) : Pr2)) = (A.1.take i).map (fun x => ((x, 0) : Pr2)) ++ [(A.1[i], 0)] := by
      rw [List.take_add_one, List.getElem?_eq_getElem hi', List.map_append]; rfl
    clear h
    (repeat (first | (apply EX.thenN) | (apply CW.seq) | (apply CW.region) | (apply CW.block) | (apply CW.skip)))
    refine WL.elemN (i := i) rfl rfl rfl rfl rfl (h1.up (hE.trans e8)) hi' (fun _ => rfl) (fun u q hu => ?_)
    rw [hu.int]
    (repeat (first | (apply WL.pure; rfl; rfl; rfl) | (apply WL.nil) | (apply EX.thenN) | (apply CW.region)))
    refine WL.build rfl rfl rfl rfl ?_
    refine WL.app1 (α := Int × Int) (F := Non) (bytes := 16) (yv := (A.1[i], 0)) rfl rfl (fun _ => rfl) rfl rfl (fun _ => rfl) hos (Rd.mkPr (c1 := [.int .i64 A.1[i]]) (c2 := [.int .i64 0]) (rd_mkInt _ _ _) (rd_mkInt _ _ _)) e8.size (fun _ h => h.elim) (by decide) (by unfold maxLen; rw [List.length_map, List.length_take]; omega) (by rw [List.length_map, List.length_take]; omega) (fun ov' w9 q ho9 hg9 hnb9 => ?_)
    rw [← hnx] at ho9
    (repeat (first | (apply WL.add; rfl; rfl; rfl; rfl; omega; omega) | (apply WL.pure; rfl; rfl; rfl) | (apply WL.nil) | (apply EX.thenN) | (apply CW.region) | (apply EX.inN)))
    exact EX.back (i + 1, ov') (by repeat (first | exact trivial | refine ⟨rfl, ?_⟩)) ⟨hi', ho9, Below.grown e8 hg9 e8.size (fun g hg => (hos.lt g hg).1)⟩ (by dsimp only; omega)
  have hie : i = A.1.length := by simp only [decide_eq_false_iff_not] at h; omega
  subst hie
  rw [List.take_length] at hos
  have hst : (A.1.map fun x => ((x, 0) : Pr2)) = oneStart A := rfl
  rw [hst] at hos
  clear h hst
  have hstl : (oneStart A).length ≤ 1099511627776 := by unfold oneStart; rw [List.length_map]; omega
  have y8 := e8.size
  have hb1 := hb1.ext e8
  have hb2 := hb2.ext e8
  have hb5 := hb5.ext e8
  have hE := hE.trans e8
  (repeat (first | (apply EX.thenN) | (apply CW.seq) | (apply CW.region) | (apply CW.exit) | (apply EX.thenX) | (apply EX.inX)))
  refine WL.mkMap (k := 133) rfl rfl (fun hnum => ?_)
  have e9 : Ext w8 (w8.alloc (.map #[] 0)) := Ext.alloc w8 _
  generalize w8.alloc (.map #[] 0) = w9 at *
  refine WL.build rfl rfl rfl rfl ?_
  refine WL.boxB rfl rfl rfl fun w10 hsb e10 => ?_
  have l8 := hnum.lt
  have hb1 := (hb1.ext e9).ext e10
  have hb2 := (hb2.ext e9).ext e10
  have hb5 := (hb5.ext e9).ext e10
  have hnum := hnum.ext e10
  have hlt10 := fun g hg => hos.lt g hg
  have hos := (hos.extN e9).extN e10
  have hE := (hE.trans e9).trans e10
  have e710 := (e8.trans e9).trans e10
  have y9 := e9.size
  have y10 := e10.size
  have l10 := hsb.lt
  obtain ⟨so, sc, rfl⟩ := hos.val
  obtain ⟨so', sc', es, hss⟩ := hos.sl
  obtain ⟨rfl, _, rfl⟩ := Value.slice.inj es
  have hmk : Mk w10 w8.heap.size ⟨w9.heap.size, w8.heap.size, .slice none 0 0, .slice none 0 0, .slice none 0 0, .slice none 0 0, .slice none 0 0, .slice none 0 0⟩ [] :=
    ⟨hsb, hnum, Own.nil, ⟨by dsimp only; omega, Nat.le_refl _⟩, (by dsimp only; omega), (fun g hg => by cases hg), List.nodup_nil, (fun p hp => by cases hp)⟩
  have hml : (A.2.2.2.2.map (memL A.2.1.length)).length = A.2.2.2.2.length := List.length_map _
  have hfn : ∀ w p, Chg (fun b => b = w9.heap.size ∨ b = w8.heap.size) w10 w → PrO A p →
      FnV Try.prog (.func (.func 67) #[] #[.pointer (some ⟨w4.heap.size, 0, none⟩), .pointer (some ⟨w0.heap.size, 0, none⟩)]) [prV p] w fun v w' => Own w' w.heap.size 133 Non v (oneNext A p) ∧ Ext w w' := fun w p hC hp => by
    have hEw : Ext w0 w := Chg.ext hE hC (fun b hb => by rcases hb with rfl | rfl <;> omega)
    have hE7w : Ext w7 w := Chg.ext e710 hC (fun b hb => by rcases hb with rfl | rfl <;> omega)
    have hk : ∀ b, b < w8.heap.size → w.heap[b]? = w10.heap[b]? := fun b hb => hC.block b (by omega) (fun h => by rcases h with h | h <;> omega)
    exact FnV.mk (cs := [_, _]) (single1_ok w (A := A) ⟨a1, c1, a2, c2, a3, c3, a4, c4, a5, c5, (hk _ (by omega)).trans hb1, h1.up hEw, h2.up hEw, h3.up hEw, h4.up hEw, h5.up hEw⟩ ((hk _ (by omega)).trans hb5) (hin.up hE7w) okA hp.1 hp.2 sA)
  have y1' := hE.size
  (repeat (first | (apply WL.pure; rfl; rfl; rfl) | (apply WL.nil) | (apply EX.thenN) | (apply CW.seq) | (apply CW.region)))
  refine WL.call rfl rfl rfl (made_ok w10 (N := w2.heap.size) (Q := PrO A) (next := oneNext A) hmk (by omega) (by omega) hss (fun b hb => hb.elim (fun h => h.elim) (fun hb => by have := hlt10 b hb; exact ⟨by omega, by omega, by omega⟩)) (oneStart_Q okA) hstl (fun p hp => ⟨by omega, by omega, by omega, by omega⟩)
    (fun p hp => ⟨oneNext_Q okA hp, by rw [oneNext_len]; have := sA p.1.toNat; omega⟩) hfn) ?_
  rintro _ w11 ⟨lo, lc, uo, uc, no, nc, rfl, hsb, hlo, hso, hno, hC⟩
  have hE11 : Ext w0 w11 := Chg.ext hE hC (fun b hb => by rcases hb with rfl | rfl <;> omega)
  have hE711 : Ext w7 w11 := Chg.ext e710 hC (fun b hb => by rcases hb with rfl | rfl <;> omega)
  have hk : ∀ b, b < w8.heap.size → w11.heap[b]? = w10.heap[b]? := fun b hb => hC.block b (by omega) (fun h => by rcases h with h | h <;> omega)
  have hb1 : Blk w11 _ _ _ := (hk _ (by omega)).trans hb1
  have hb2 : Blk w11 _ _ _ := (hk _ (by omega)).trans hb2
  have hb5 : Blk w11 _ _ _ := (hk _ (by omega)).trans hb5
  have y11 := hC.size
  have l11 := hsb.lt
  clear hfn hmk hss hnum hos hk es hlt10 hstl
  have hmi := made_in (next := oneNext A) (start := oneStart A)
  have hall := made_all (Q := PrO A) (next := oneNext A) (start := oneStart A) (fun p hp => oneNext_Q okA hp) (oneStart_Q okA)
  have hbl : oneL A = (madeS (oneStart A), (madeE (oneNext A) (oneStart A)).2.2, (madeE (oneNext A) (oneStart A)).1.map (fun p : Pr2 => A.2.2.1.getD p.1.toNat 0), (madeE (oneNext A) (oneStart A)).1.map (fun p : Pr2 => A.2.2.2.1.getD p.1.toNat 0), [oneFair A.2.2.2.2 (madeE (oneNext A) (oneStart A)).1]) := rfl
  rw [hbl]
  generalize (madeE (oneNext A) (oneStart A)).2.1 = ok at *
  generalize (madeE (oneNext A) (oneStart A)).1 = ps at *
  generalize (madeE (oneNext A) (oneStart A)).2.2 = nx at *
  generalize madeS (oneStart A) = st at *
  clear hbl
  cases ok with
  | false =>
    rw [if_neg (by simp)]
    (repeat (first | (apply WL.pure; rfl; rfl; rfl) | (apply WL.nil) | (apply EX.thenN) | (apply CW.seq) | (apply CW.region) | (apply CW.condT; rfl)))
    refine WL.build (parts := []) rfl rfl rfl rfl ?_
    skip
    refine WL.st rfl rfl rfl hb2 rfl rfl (ones_of rfl) (fun w12 hb12 hg12 => ?_)
    have hE12 : Ext w0 w12 := hE11.grown hg12 hE11.size (fun g hg => by cases hg; omega)
    (repeat (first | (apply WL.pure; rfl; rfl; rfl) | (apply WL.nil) | (apply EX.thenN) | (apply CW.ret) | (apply EX.thenR)))
    exact EX.retC2 rfl rfl rfl hb12 rfl ⟨⟨_, rfl, nilA_in _ _⟩, hE12⟩
  | true =>
  have hi := hmi rfl
  have hp8 := hi.n
  rw [if_pos rfl]
  (repeat (first | (apply WL.pure; rfl; rfl; rfl) | (apply WL.nil) | (apply EX.thenN) | (apply CW.seq) | (apply CW.region) | (apply WL.lenS; rfl; rfl; rfl) | (apply WL.fa; rfl; rfl; rfl) | (apply WL.nck; rfl; rfl; rfl) | (apply WL.ld; rfl; rfl; rfl; assumption; rfl) | (apply CW.block) | (apply CW.condF; rfl) | (apply CW.skip)))
  refine CW.loop (S := Nat × Value × Value × Value) (fun s => [(1, .pointer (some ⟨w0.heap.size, 0, none⟩)), (2, .pointer (some ⟨w1.heap.size, 0, none⟩)), (5, .pointer (some ⟨w4.heap.size, 0, none⟩)), (12, .pointer (some ⟨w9.heap.size, 0, none⟩)), (13, s.2.2.2), (69, .slice lo ps.length lc), (70, .int .i64 ps.length), (71, .int .i64 s.1)])
    (fun s w => s.1 ≤ ps.length ∧ Blk w w9.heap.size 139 [.map (some w8.heap.size), .slice lo ps.length lc, .slice uo st.length uc, .slice no nx.length nc, s.2.1, s.2.2.1, .slice none 0 0] ∧ Own w w11.heap.size 33 Non s.2.1 ((ps.take s.1).map (fun p : Pr2 => A.2.2.1.getD p.1.toNat 0)) ∧
      Own w w11.heap.size 33 Non s.2.2.1 ((ps.take s.1).map (fun p : Pr2 => A.2.2.2.1.getD p.1.toNat 0)) ∧ Own w w11.heap.size 3 Non s.2.2.2 (oneFairN A.2.2.2.2 ps s.1) ∧ (∀ g, s.2.1.ownBlock = some g → s.2.2.1.ownBlock ≠ some g) ∧ (∀ g, s.2.2.2.ownBlock = some g → s.2.1.ownBlock ≠ some g ∧ s.2.2.1.ownBlock ≠ some g) ∧ Chg (fun b => b = w9.heap.size) w11 w)
    (fun s => ps.length - s.1) (0, .slice none 0 0, .slice none 0 0, .slice none 0 0) (by repeat (first | exact trivial | refine ⟨rfl, ?_⟩)) ⟨Nat.zero_le _, hsb, Own.nil, Own.nil, Own.nil, (fun g hg => by cases hg), (fun g hg => by cases hg), Chg.refl _ _⟩ ?_
  rintro ⟨i, mv, nv, fv⟩ w12 ⟨hi12, hsb12, hom, hon, hof, hdis, hdf, hC12⟩
  dsimp only at hi12 hsb12 hom hon hof hdis hdf hC12 ⊢
  have y12 := hC12.size
  have hE12 : Ext w0 w12 := Chg.ext hE11 hC12 (fun b hb => by subst hb; omega)
  have hlo12 := hlo.fz (hC12.wk (M' := fun b => b = w9.heap.size ∨ b < w2.heap.size) (fun b h => .inl h)) (fun b h => .inl h)
  have hlm := fun g hg => hom.lt g hg
  have hln := fun g hg => hon.lt g hg
  have hlf := fun g hg => hof.lt g hg
  obtain ⟨mo, mc, rfl⟩ := hom.val
  obtain ⟨nvo, nvc, rfl⟩ := hon.val
  obtain ⟨fo, fc, rfl⟩ := hof.val
  (repeat (first | (apply WL.pure; rfl; rfl; rfl) | (apply WL.nil) | (apply EX.thenN) | (apply CW.seq) | (apply CW.region)))
  refine CW.cond rfl (fun h => ?_) (fun h => ?_)
  · have hi' : i < ps.length := by simp only [decide_eq_true_eq] at h; omega
    clear h
    have hb1 : Blk w12 _ _ _ := (hC12.block _ (by omega) (fun h => by omega)).trans hb1
    have hb5 : Blk w12 _ _ _ := (hC12.block _ (by omega) (fun h => by omega)).trans hb5
    have hpm := hall _ (List.getElem_mem hi')
    have hn1 : (ps.take (i + 1)).map (fun p : Pr2 => A.2.2.1.getD p.1.toNat 0) = (ps.take i).map (fun p : Pr2 => A.2.2.1.getD p.1.toNat 0) ++ [A.2.2.1.getD ps[i].1.toNat 0] := by
      rw [List.take_add_one, List.getElem?_eq_getElem hi', List.map_append]; rfl
    have hn2 : (ps.take (i + 1)).map (fun p : Pr2 => A.2.2.2.1.getD p.1.toNat 0) = (ps.take i).map (fun p : Pr2 => A.2.2.2.1.getD p.1.toNat 0) ++ [A.2.2.2.1.getD ps[i].1.toNat 0] := by
      rw [List.take_add_one, List.getElem?_eq_getElem hi', List.map_append]; rfl
    have hnf := oneFairN_next (fr := A.2.2.2.2) (ps := ps) (n := i)
    rw [show ps.getD i (0, 0) = ps[i] by rw [List.getD_eq_getElem?_getD, List.getElem?_eq_getElem hi']; rfl] at hnf
    have hfl2 := oneFairN_len (fr := A.2.2.2.2) (ps := ps) (n := i)
    (repeat (first | (apply WL.pure; rfl; rfl; rfl) | (apply EX.thenN) | (apply CW.seq) | (apply CW.region) | (apply CW.block) | (apply CW.skip)))
    refine WL.elemN (i := i) rfl rfl rfl rfl rfl hlo12 hi' (fun _ => rfl) (fun u q hu => ?_)
    rw [rd_pr2 hu]
    clear hu
    generalize ps[i] = p at *
    obtain ⟨x, hx⟩ : ∃ x : Nat, p.1 = (x : Int) := ⟨p.1.toNat, by omega⟩
    obtain ⟨y, hy⟩ : ∃ y : Nat, p.2 = (y : Int) := ⟨p.2.toNat, by omega⟩
    obtain ⟨pa, pb⟩ := p
    dsimp only at hx hy
    subst hx hy
    dsimp only at hpm hn1 hn2 hnf
    rw [Int.toNat_natCast] at hn1 hn2
    skip
    refine WL.alloc rfl rfl (fun w13 hpb13 e13 => ?_)
    (repeat (apply WL.pure; rfl; rfl; rfl))
    refine WL.st rfl rfl rfl hpb13 rfl rfl (ones_of rfl) (fun w14 hpb14 hg14 => ?_)
    have e14 : Ext w12 w14 := Below.grown e13 hg14 e13.size (fun g hg => by cases hg; exact Nat.le_refl _)
    have y14 := e14.size
    have hE14 := hE12.trans e14
    have hsb14 := hsb12.ext e14
    have hb114 := hb1.ext e14
    have hb514 := hb5.ext e14
    have hom14 := hom.extN e14
    have hon14 := hon.extN e14
    have hof14 := hof.extN e14
    have hC14 := hC12.trans (Chg.of_ext _ e14)
    clear e13 hg14 hpb13
    -- R24
    have hD : Ext w14 (drew w14) := Ext.drew w14
    have hsbd := hsb14.ext hD
    have hb1d := hb114.ext hD
    have hpbd := hpb14.ext hD
    have lpb := hpb14.lt
    have hKs : ∀ u, (fun z : World => ∀ b, b < w14.heap.size → (Value.slice mo ((ps.take i).map (fun p : Pr2 => A.2.2.1.getD p.1.toNat 0)).length mc).ownBlock ≠ some b → z.heap[b]? = (drew w14).heap[b]?) u → u.heap[w9.heap.size]? = (drew w14).heap[w9.heap.size]? := fun u h => h _ (by omega) (fun e => by have := hlm _ e; omega)
    have hK1 : ∀ u, (fun z : World => ∀ b, b < w14.heap.size → (Value.slice mo ((ps.take i).map (fun p : Pr2 => A.2.2.1.getD p.1.toNat 0)).length mc).ownBlock ≠ some b → z.heap[b]? = (drew w14).heap[b]?) u → u.heap[w0.heap.size]? = (drew w14).heap[w0.heap.size]? := fun u h => h _ (by omega) (fun e => by have := hlm _ e; omega)
    have hKp : ∀ u, (fun z : World => ∀ b, b < w14.heap.size → (Value.slice mo ((ps.take i).map (fun p : Pr2 => A.2.2.1.getD p.1.toNat 0)).length mc).ownBlock ≠ some b → z.heap[b]? = (drew w14).heap[b]?) u → u.heap[w12.heap.size]? = (drew w14).heap[w12.heap.size]? := fun u h => h _ (by omega) (fun e => by have := hlm _ e; omega)
    have hKo : ∀ u, (fun z : World => ∀ b, b < w14.heap.size → (Value.slice mo ((ps.take i).map (fun p : Pr2 => A.2.2.1.getD p.1.toNat 0)).length mc).ownBlock ≠ some b → z.heap[b]? = (drew w14).heap[b]?) u → ∀ b, Old w0 b → u.heap[b]? = (drew w14).heap[b]? := fun u h b hb => by
      have hb : b < w0.heap.size := hb
      exact h _ (by omega) (fun e => by have := hlm _ e; omega)
    have hEd := hE14.trans hD
    (repeat (first | (apply WL.nil) | (apply EX.thenN) | (apply CW.seq)))
    refine CW.drawE (fun z : World => ∀ b, b < w14.heap.size → (Value.slice mo ((ps.take i).map (fun p : Pr2 => A.2.2.1.getD p.1.toNat 0)).length mc).ownBlock ≠ some b → z.heap[b]? = (drew w14).heap[b]?) [(0, true), (1, true), (2, true), (3, true), (4, true), (5, true), (6, true), (7, true), (8, true), (9, true), (10, true), (11, true), (12, false), (13, false), (14, false), (15, false), (16, false)] 17 mixed (by kernel_rfl) (fun _ _ _ => rfl) ?_
    (repeat (first | (apply HL.pure; rfl; rfl; rfl; rfl) | (refine HL.fa rfl rfl rfl rfl ?_) | (apply HL.nck; rfl; rfl; rfl; rfl) | (refine HL.ldK (by assumption) rfl rfl rfl rfl (by assumption) rfl ?_)))
    refine HL.elemK (k := x) hKo rfl rfl rfl rfl rfl rfl rfl (h3.at hEd) (show x < _ by have := okA.mu; omega) (fun _ => rfl) (fun u q hu => ?_)
    obtain ⟨rfl, q1⟩ := hu.u64
    rw [← wgetN'] at q1 ⊢
    refine HL.app1 (α := Nat) (F := Non) (bytes := 8) (yv := A.2.2.1.getD x 0) rfl rfl rfl rfl (fun _ => rfl) rfl rfl (fun _ => rfl) (hom14.extN hD) ⟨_, rfl, rd_mkU64 _ _ _ q1⟩ (by have := hD.size; omega) (fun _ h => h.elim) (by decide) (by unfold maxLen; rw [List.length_map, List.length_take]; omega) (by rw [List.length_map, List.length_take]; omega)
      (fun z hz b hb hne => hz.block b hb (fun e => hne e.symm)) (fun mv2 w15 q3 ho15 hg15 hnb15 => ?_)
    rw [← hn1] at ho15
    have hsb15 := hsbd.kept hg15 (fun e => by have := hlm _ e.symm; omega)
    have y15 : w14.heap.size ≤ w15.heap.size := hg15.size
    obtain ⟨mo', mc', rfl⟩ := ho15.val
    have hS15 : (fun z : World => ∀ b, b < w14.heap.size → (Value.slice mo ((ps.take i).map (fun p : Pr2 => A.2.2.1.getD p.1.toNat 0)).length mc).ownBlock ≠ some b → z.heap[b]? = (drew w14).heap[b]?) w15 := fun b hb hne => hg15.block b hb (fun e => hne e.symm)
    refine HL.mut rfl (WL.nck rfl rfl rfl (WL.nil (EX.mut hS15 ?_)))
    refine HL.mut rfl (WL.fa rfl rfl rfl (WL.nil (EX.mut hS15 ?_)))
    refine HL.mut rfl (WL.fa rfl rfl rfl (WL.nil (EX.mut hS15 (HL.nil ?_))))
    refine EX.tail rfl (WL.st rfl rfl rfl hsb15 rfl rfl (ones_of rfl) (fun w16 hsb16 hg16 => WL.nil (EX.tailE ?_)))
    have hm16 : ∀ g, (Value.slice mo' ((ps.take (i + 1)).map (fun p : Pr2 => A.2.2.1.getD p.1.toNat 0)).length mc').ownBlock = some g → w11.heap.size ≤ g ∧ g ≠ w9.heap.size := fun g hg => by
      rcases hnb15 g hg with h | h
      · have := hlm g h; omega
      · have h : w14.heap.size ≤ g := h
        omega
    have y16 := hg16.size
    have e14d : Ext w14 (drew w14) := Ext.drew w14
    have hkeep : ∀ b, b < w14.heap.size → b ≠ w9.heap.size → (Value.slice mo ((ps.take i).map (fun p : Pr2 => A.2.2.1.getD p.1.toNat 0)).length mc).ownBlock ≠ some b → w16.heap[b]? = w14.heap[b]? := fun b hb h1 h2 => (hg16.block b (by omega) (fun e => h1 (Option.some.inj e))).trans (hg15.block b hb (fun e => h2 e.symm))
    have hb116 : Blk w16 _ _ _ := (hkeep _ (by omega) (by omega) (fun e => by have := hlm _ e; omega)).trans hb114
    have hb516 : Blk w16 _ _ _ := (hkeep _ (by omega) (by omega) (fun e => by have := hlm _ e; omega)).trans hb514
    have hpb16 : Blk w16 _ _ _ := (hkeep _ (by omega) (by omega) (fun e => by have := hlm _ e; omega)).trans hpb14
    have hom16 := ho15.keptN hg16 (fun g hg e => (hm16 g hg).2 (Option.some.inj e))
    have hon16 := ((hon14.extN e14d).keptN hg15 (fun g hg e => hdis g e.symm hg)).keptN hg16 (fun g hg e => by have := Option.some.inj e; have := hln g hg; omega)
    have hof16 := ((hof14.extN e14d).keptN hg15 (fun g hg e => (hdf g hg).1 e.symm)).keptN hg16 (fun g hg e => by have := Option.some.inj e; have := hlf g hg; omega)
    have hC16 := ((hC14.trans (Chg.of_ext _ e14d)).then (Chg.of_grown hg15) (fun b h => .inr (by have := hlm b h; omega))).grown hg16 (fun g hg => by cases hg; rfl)
    have hE16 : Ext w0 w16 := Chg.ext hE11 hC16 (fun b hb => by subst hb; omega)
    have hdis16 : ∀ g, (Value.slice mo' ((ps.take (i + 1)).map (fun p : Pr2 => A.2.2.1.getD p.1.toNat 0)).length mc').ownBlock = some g → (Value.slice nvo ((ps.take i).map (fun p : Pr2 => A.2.2.2.1.getD p.1.toNat 0)).length nvc).ownBlock ≠ some g := fun g hg e => by
      rcases hnb15 g hg with h | h
      · exact hdis g h e
      · have h : w14.heap.size ≤ g := h
        have := hln g e; omega
    have hdf16 : ∀ g, (Value.slice fo (oneFairN A.2.2.2.2 ps i).length fc).ownBlock = some g → (Value.slice mo' ((ps.take (i + 1)).map (fun p : Pr2 => A.2.2.1.getD p.1.toNat 0)).length mc').ownBlock ≠ some g := fun g hg e => by
      rcases hnb15 g e with h | h
      · exact (hdf g hg).1 h
      · have h : w14.heap.size ≤ g := h
        have := hlf g hg; omega
    have hlm16 := fun g hg => hom16.lt g hg
    clear hKs hK1 hKp hKo hS15 hD hsbd hb1d hpbd hEd ho15 hsb15 hg15 hg16 hkeep hsb14 hb114 hb514 hpb14 hom14 hon14 hof14 hE14 hnb15 q1 hu
    apply EX.thenN
    -- R25
    have hD : Ext w16 (drew w16) := Ext.drew w16
    have hsbd := hsb16.ext hD
    have hb1d := hb116.ext hD
    have hpbd := hpb16.ext hD
    have lpb := hpb16.lt
    have hKs : ∀ u, (fun z : World => ∀ b, b < w16.heap.size → (Value.slice nvo ((ps.take i).map (fun p : Pr2 => A.2.2.2.1.getD p.1.toNat 0)).length nvc).ownBlock ≠ some b → z.heap[b]? = (drew w16).heap[b]?) u → u.heap[w9.heap.size]? = (drew w16).heap[w9.heap.size]? := fun u h => h _ (by omega) (fun e => by have := hln _ e; omega)
    have hK1 : ∀ u, (fun z : World => ∀ b, b < w16.heap.size → (Value.slice nvo ((ps.take i).map (fun p : Pr2 => A.2.2.2.1.getD p.1.toNat 0)).length nvc).ownBlock ≠ some b → z.heap[b]? = (drew w16).heap[b]?) u → u.heap[w0.heap.size]? = (drew w16).heap[w0.heap.size]? := fun u h => h _ (by omega) (fun e => by have := hln _ e; omega)
    have hKp : ∀ u, (fun z : World => ∀ b, b < w16.heap.size → (Value.slice nvo ((ps.take i).map (fun p : Pr2 => A.2.2.2.1.getD p.1.toNat 0)).length nvc).ownBlock ≠ some b → z.heap[b]? = (drew w16).heap[b]?) u → u.heap[w12.heap.size]? = (drew w16).heap[w12.heap.size]? := fun u h => h _ (by omega) (fun e => by have := hln _ e; omega)
    have hKo : ∀ u, (fun z : World => ∀ b, b < w16.heap.size → (Value.slice nvo ((ps.take i).map (fun p : Pr2 => A.2.2.2.1.getD p.1.toNat 0)).length nvc).ownBlock ≠ some b → z.heap[b]? = (drew w16).heap[b]?) u → ∀ b, Old w0 b → u.heap[b]? = (drew w16).heap[b]? := fun u h b hb => by
      have hb : b < w0.heap.size := hb
      exact h _ (by omega) (fun e => by have := hln _ e; omega)
    have hEd := hE16.trans hD
    (repeat (apply CW.seq))
    refine CW.drawE (fun z : World => ∀ b, b < w16.heap.size → (Value.slice nvo ((ps.take i).map (fun p : Pr2 => A.2.2.2.1.getD p.1.toNat 0)).length nvc).ownBlock ≠ some b → z.heap[b]? = (drew w16).heap[b]?) [(0, true), (1, true), (2, true), (3, true), (4, true), (5, true), (6, true), (7, true), (8, true), (9, true), (10, true), (11, true), (12, false), (13, false), (14, false), (15, false), (16, false)] 17 mixed (by kernel_rfl) (fun _ _ _ => rfl) ?_
    (repeat (first | (apply HL.pure; rfl; rfl; rfl; rfl) | (refine HL.fa rfl rfl rfl rfl ?_) | (apply HL.nck; rfl; rfl; rfl; rfl) | (refine HL.ldK (by assumption) rfl rfl rfl rfl (by assumption) rfl ?_)))
    refine HL.elemK (k := x) hKo rfl rfl rfl rfl rfl rfl rfl (h4.at hEd) (show x < _ by have := okA.no; omega) (fun _ => rfl) (fun u q hu => ?_)
    obtain ⟨rfl, q1⟩ := hu.u64
    rw [← wgetN'] at q1 ⊢
    refine HL.app1 (α := Nat) (F := Non) (bytes := 8) (yv := A.2.2.2.1.getD x 0) rfl rfl rfl rfl (fun _ => rfl) rfl rfl (fun _ => rfl) (hon16.extN hD) ⟨_, rfl, rd_mkU64 _ _ _ q1⟩ (by have := hD.size; omega) (fun _ h => h.elim) (by decide) (by unfold maxLen; rw [List.length_map, List.length_take]; omega) (by rw [List.length_map, List.length_take]; omega)
      (fun z hz b hb hne => hz.block b hb (fun e => hne e.symm)) (fun nv2 w17 q3 ho17 hg17 hnb17 => ?_)
    rw [← hn2] at ho17
    have hsb17 := hsbd.kept hg17 (fun e => by have := hln _ e.symm; omega)
    have y17 : w16.heap.size ≤ w17.heap.size := hg17.size
    obtain ⟨nvo', nvc', rfl⟩ := ho17.val
    have hS17 : (fun z : World => ∀ b, b < w16.heap.size → (Value.slice nvo ((ps.take i).map (fun p : Pr2 => A.2.2.2.1.getD p.1.toNat 0)).length nvc).ownBlock ≠ some b → z.heap[b]? = (drew w16).heap[b]?) w17 := fun b hb hne => hg17.block b hb (fun e => hne e.symm)
    refine HL.mut rfl (WL.nck rfl rfl rfl (WL.nil (EX.mut hS17 ?_)))
    refine HL.mut rfl (WL.fa rfl rfl rfl (WL.nil (EX.mut hS17 ?_)))
    refine HL.mut rfl (WL.fa rfl rfl rfl (WL.nil (EX.mut hS17 (HL.nil ?_))))
    refine EX.tail rfl (WL.st rfl rfl rfl hsb17 rfl rfl (ones_of rfl) (fun w18 hsb18 hg18 => WL.nil (EX.tailE ?_)))
    have hn18 : ∀ g, (Value.slice nvo' ((ps.take (i + 1)).map (fun p : Pr2 => A.2.2.2.1.getD p.1.toNat 0)).length nvc').ownBlock = some g → w11.heap.size ≤ g ∧ g ≠ w9.heap.size := fun g hg => by
      rcases hnb17 g hg with h | h
      · have := hln g h; omega
      · have h : w16.heap.size ≤ g := h
        omega
    have y18 := hg18.size
    have e16d : Ext w16 (drew w16) := Ext.drew w16
    have hkeep : ∀ b, b < w16.heap.size → b ≠ w9.heap.size → (Value.slice nvo ((ps.take i).map (fun p : Pr2 => A.2.2.2.1.getD p.1.toNat 0)).length nvc).ownBlock ≠ some b → w18.heap[b]? = w16.heap[b]? := fun b hb h1 h2 => (hg18.block b (by omega) (fun e => h1 (Option.some.inj e))).trans (hg17.block b hb (fun e => h2 e.symm))
    have hb518 : Blk w18 _ _ _ := (hkeep _ (by omega) (by omega) (fun e => by have := hln _ e; omega)).trans hb516
    have hpb18 : Blk w18 _ _ _ := (hkeep _ (by omega) (by omega) (fun e => by have := hln _ e; omega)).trans hpb16
    have hon18 := ho17.keptN hg18 (fun g hg e => (hn18 g hg).2 (Option.some.inj e))
    have hom18 := ((hom16.extN e16d).keptN hg17 (fun g hg e => hdis16 g hg e.symm)).keptN hg18 (fun g hg e => (hm16 g hg).2 (Option.some.inj e))
    have hof18 := ((hof16.extN e16d).keptN hg17 (fun g hg e => (hdf g hg).2 e.symm)).keptN hg18 (fun g hg e => by have := Option.some.inj e; have := hlf g hg; omega)
    have hC18 := ((hC16.trans (Chg.of_ext _ e16d)).then (Chg.of_grown hg17) (fun b h => .inr (by have := hln b h; omega))).grown hg18 (fun g hg => by cases hg; rfl)
    have hdis18 : ∀ g, (Value.slice mo' ((ps.take (i + 1)).map (fun p : Pr2 => A.2.2.1.getD p.1.toNat 0)).length mc').ownBlock = some g → (Value.slice nvo' ((ps.take (i + 1)).map (fun p : Pr2 => A.2.2.2.1.getD p.1.toNat 0)).length nvc').ownBlock ≠ some g := fun g hg e => by
      rcases hnb17 g e with h | h
      · exact hdis16 g hg h
      · have h : w16.heap.size ≤ g := h
        have := (hlm16 g hg).2.1; omega
    have hdf18 : ∀ g, (Value.slice fo (oneFairN A.2.2.2.2 ps i).length fc).ownBlock = some g → (Value.slice nvo' ((ps.take (i + 1)).map (fun p : Pr2 => A.2.2.2.1.getD p.1.toNat 0)).length nvc').ownBlock ≠ some g := fun g hg e => by
      rcases hnb17 g e with h | h
      · exact (hdf g hg).2 h
      · have h : w16.heap.size ≤ g := h
        have := hlf g hg; omega
    have hln18 := fun g hg => hon18.lt g hg
    have hk18 : ∀ b, b < w7.heap.size → w18.heap[b]? = w7.heap[b]? := fun b hb => (hC18.block b (by omega) (fun h => by omega)).trans (hE711.block b hb)
    have hin18 : Sl w18 (Old w7) io ic (A.2.2.2.2.map (memL A.2.1.length)) := hin.mono hk18 (fun _ h => h)
    have hF18 : ∀ b, Old w7 b → b < w18.heap.size := fun b hb => by
      have hb : b < w7.heap.size := hb
      omega
    clear hKs hK1 hKp hKo hS17 hD hsbd hb1d hpbd hEd ho17 hsb17 hg17 hg18 hkeep hb116 hb516 hpb16 hom16 hon16 hof16 hnb17 q1 hu
    apply EX.thenN
    generalize hcc : (decide ((y : Int) = 0) && (decide (A.2.2.2.2.length = 0) || decide ((x : Int) ∈ A.2.2.2.2.getD 0 []))) = cc at hnf
    refine CW.cutE [(1, .pointer (some ⟨w0.heap.size, 0, none⟩)), (2, .pointer (some ⟨w1.heap.size, 0, none⟩)), (5, .pointer (some ⟨w4.heap.size, 0, none⟩)), (12, .pointer (some ⟨w9.heap.size, 0, none⟩)), (13, .slice fo (oneFairN A.2.2.2.2 ps i).length fc), (14, .int .i64 i), (69, .slice lo ps.length lc), (70, .int .i64 ps.length), (71, .int .i64 i), (126, .bool cc)] ?_ (fun w19 e19 => ?_)
    · rw [hml] at hb518
      (repeat (first | (apply QL.pure; rfl; rfl; rfl) | (apply QL.fa; rfl; rfl; rfl) | (apply QL.ld; rfl; rfl; rfl; assumption; rfl) | (apply CW.draw; exact mixed; kernel_rfl)))
      by_cases hy0 : y = 0
      case neg =>
        rw [show ((y : Int) == 0) = false by have : (y : Int) ≠ 0 := by omega
                                             simpa using this]
        rw [decide_eq_false (show ¬ ((y : Int) = 0) by omega), Bool.false_and] at hcc
        subst hcc
        (repeat (first | (apply QL.pure; rfl; rfl; rfl) | (apply QL.pass; rfl; rfl)))
        refine QL.nil fun w19 e19 => ?_
        skip
        exact EX.cutE (by repeat (first | exact trivial | refine ⟨rfl, ?_⟩)) e19
      subst hy0
      rw [show (((0 : Nat) : Int) == 0) = true from rfl]
      rw [decide_eq_true (show (((0 : Nat) : Int) = 0) from rfl), Bool.true_and] at hcc
      (repeat (first | (apply QL.pure; rfl; rfl; rfl) | (apply QL.lenS; rfl; rfl; rfl) | (apply QL.ld; rfl; rfl; rfl; assumption; rfl)))
      by_cases h0 : A.2.2.2.2.length = 0
      · rw [show ((A.2.2.2.2.length : Int) == 0) = true by rw [h0]; rfl]
        rw [decide_eq_true h0, Bool.true_or] at hcc
        subst hcc
        (repeat (first | (apply QL.pure; rfl; rfl; rfl) | (apply QL.pass; rfl; rfl)))
        refine QL.nil fun w19 e19 => ?_
        skip
        exact EX.cutE (by repeat (first | exact trivial | refine ⟨rfl, ?_⟩)) e19
      rw [show ((A.2.2.2.2.length : Int) == 0) = false by have : (A.2.2.2.2.length : Int) ≠ 0 := by omega
                                                          simpa using this]
      rw [decide_eq_false h0, Bool.false_or, mkgetG (show 0 < A.2.2.2.2.length by omega)] at hcc
      rw [← hml] at hb518
      (repeat (apply QL.ld; rfl; rfl; rfl; assumption; rfl))
      refine QL.elemN (i := 0) rfl rfl rfl rfl rfl hF18 hin18 (by rw [hml]; omega) (fun _ => rfl) (fun u q hu => ?_)
      rw [List.getElem_map] at hu
      obtain ⟨ro, rc, rfl, hr⟩ := hu.sl
      have hxm : x < (memL A.2.1.length (A.2.2.2.2[0]'(by omega))).length := by rw [memL_len]; omega
      (repeat (first | (apply QL.fa; rfl; rfl; rfl) | (apply QL.ld; rfl; rfl; rfl; assumption; rfl)))
      refine QL.elemB rfl rfl rfl rfl rfl hF18 hr hxm (memL_get (by omega)) (fun _ => rfl) (fun q => ?_)
      rw [hcc]
      cases cc
      all_goals
        (repeat (apply QL.pure; rfl; rfl; rfl))
        refine QL.nil fun w19 e19 => ?_
        skip
        exact EX.cutE (by repeat (first | exact trivial | refine ⟨rfl, ?_⟩)) e19
    have hsb19 := hsb18.ext e19
    have hom19 := hom18.extN e19
    have hon19 := hon18.extN e19
    have hof19 := hof18.extN e19
    have hC19 := hC18.trans (Chg.of_ext _ e19)
    have y19 := e19.size
    cases cc with
    | false =>
      rw [if_neg (by simp), List.append_nil] at hnf
      (repeat (first | (apply WL.add; rfl; rfl; rfl; rfl; omega; omega) | (apply WL.pure; rfl; rfl; rfl) | (apply WL.nil) | (apply EX.thenN) | (apply CW.region) | (apply EX.inN) | (apply CW.condF; rfl) | (apply CW.skip)))
      exact EX.back (i + 1, _, _, _) (by repeat (first | exact trivial | refine ⟨rfl, ?_⟩)) ⟨hi', hsb19, hom19, hon19, (by dsimp only; rw [hnf]; exact hof19), hdis18, fun g hg => ⟨hdf16 g hg, hdf18 g hg⟩, hC19⟩ (by dsimp only; omega)
    | true =>
      rw [if_pos rfl] at hnf
      (repeat (first | (apply WL.pure; rfl; rfl; rfl) | (apply CW.region) | (apply CW.condT; rfl)))
      refine WL.app1 (α := Int) (F := Non) (bytes := 8) (yv := (i : Int)) rfl rfl (fun _ => rfl) rfl rfl (fun _ => rfl) hof19 (Rd.mkInt _ _ _) (by omega) (fun _ h => h.elim) (by decide) (by unfold maxLen; omega) (by omega) (fun fv' w20 q ho20 hg20 hnb20 => ?_)
      rw [← hnf] at ho20
      have hsb20 := hsb19.kept hg20 (fun e => by have := hlf _ e.symm; omega)
      have hom20 := hom19.keptN hg20 (fun g hg e => hdf16 g e.symm hg)
      have hon20 := hon19.keptN hg20 (fun g hg e => hdf18 g e.symm hg)
      have hC20 := hC19.then (Chg.of_grown hg20) (fun b h => .inr (by have := hlf b h; omega))
      (repeat (first | (apply WL.add; rfl; rfl; rfl; rfl; omega; omega) | (apply WL.pure; rfl; rfl; rfl) | (apply WL.nil) | (apply EX.thenN) | (apply CW.region) | (apply EX.inN)))
      refine EX.back (i + 1, _, _, fv') (by repeat (first | exact trivial | refine ⟨rfl, ?_⟩)) ⟨hi', hsb20, hom20, hon20, ho20, hdis18, fun g hg => ?_, hC20⟩ (by dsimp only; omega)
      rcases hnb20 g hg with h | h
      · exact ⟨hdf16 g h, hdf18 g h⟩
      · exact ⟨fun e => by have := (hlm16 g e).2.1; omega, fun e => by have := (hln18 g e).2.1; omega⟩
  have hie : i = ps.length := by simp only [decide_eq_false_iff_not] at h; omega
  subst hie
  rw [List.take_length] at hom hon hsb12
  clear h
  have hb212 : Blk w12 _ _ _ := (hC12.block _ (by omega) (fun h => by omega)).trans hb2
  have hff : oneFairN A.2.2.2.2 ps ps.length = oneFair A.2.2.2.2 ps := rfl
  rw [hff] at hof hdf hlf ⊢
  have hso12 := hso.fz (hC12.wk (M' := fun b => b = w9.heap.size ∨ b < w2.heap.size) (fun b h => .inl h)) (fun b h => .inl h)
  have hno12 := hno.fz (hC12.wk (M' := fun b => b = w9.heap.size ∨ b < w2.heap.size) (fun b h => .inl h)) (fun b h => .inl h)
  clear hdis hdf hb2 hlo hlo12 hsb hso hno hall hmi hlm hln
  (repeat (first | (apply WL.pure; rfl; rfl; rfl) | (apply EX.thenN) | (apply CW.seq) | (apply CW.region) | (apply CW.exit) | (apply EX.thenX) | (apply EX.inX)))
  refine WL.lit (α := List Int) (F := fun b => (Value.slice fo (oneFair A.2.2.2.2 ps).length fc).ownBlock = some b) (ys := [oneFair A.2.2.2.2 ps]) rfl rfl rfl rfl rfl ⟨hof.rd.mono (fun _ _ => rfl) (fun b hb => hb.resolve_left (fun h => h)), trivial⟩ (by show 1 * 1 ≤ 16777216; decide) (fun b hb => (hlf b hb).2.1) (fun w13 hol13 hg13 => ?_)
  have e13 : Ext w12 w13 := (Below.refl _ _).grown hg13 (Nat.le_refl _) (fun k h => by cases h)
  have hsb13 := hsb12.ext e13
  have hb213 := hb212.ext e13
  have y13 := e13.size
  have hll13 := fun g hg => hol13.lt g hg
  (repeat (first | (apply WL.fa; rfl; rfl; rfl) | (apply WL.nck; rfl; rfl; rfl)))
  refine WL.st rfl rfl rfl hsb13 rfl rfl (ones_of rfl) (fun w14 hsb14 hg14 => ?_)
  have hb214 := hb213.kept hg14 (fun e => by have := Option.some.inj e; omega)
  have y14 := hg14.size
  (repeat (first | (apply WL.pure; rfl; rfl; rfl) | (apply WL.nil) | (apply EX.thenN) | (apply CW.seq) | (apply CW.region) | (apply WL.fa; rfl; rfl; rfl) | (apply WL.nck; rfl; rfl; rfl) | (apply WL.ldA; rfl; rfl; rfl; assumption; rfl)))
  refine WL.st rfl rfl rfl hb214 rfl rfl (ones_of rfl) (fun w15 hb15 hg15 => ?_)
  have y15 := hg15.size
  have hE15 : Ext w0 w15 := ((hE12.trans e13).grown hg14 (by omega) (fun g hg => by cases hg; omega)).grown hg15 (by omega) (fun g hg => by cases hg; omega)
  have hk15 : ∀ b, b < w13.heap.size → b ≠ w9.heap.size → w2.heap.size ≤ b → w15.heap[b]? = w13.heap[b]? := fun b hb h1 h2 => (hg15.block b (by omega) (fun e => by have := Option.some.inj e; omega)).trans (hg14.block b hb (fun e => by have := Option.some.inj e; omega))
  have hfin : ∀ b, Fz w12 (fun b => b = w9.heap.size ∨ b < w2.heap.size) b → w15.heap[b]? = w12.heap[b]? := fun b hb => (hk15 b (by have := hb.1; omega) (fun h => hb.2 (.inl h)) (Nat.le_of_not_lt (fun hx => hb.2 (.inr hx)))).trans (e13.block b hb.1)
  have hle : ∀ b, Fz w12 (fun b => b = w9.heap.size ∨ b < w2.heap.size) b → w0.heap.size ≤ b ∧ b < w15.heap.size := fun b hb => ⟨by have := Nat.le_of_not_lt (fun hx => hb.2 (.inr hx)); omega, by have := hb.1; omega⟩
  obtain ⟨mo', mc', em, hms⟩ := hom.slF (F' := Fz w12 (fun b => b = w9.heap.size ∨ b < w2.heap.size)) (fun _ h => h.elim) (fun g hg => ⟨(hom.lt g hg).2.1, fun h => by have := (hom.lt g hg).1; rcases h with h | h <;> omega⟩)
  obtain ⟨rfl, _, rfl⟩ := Value.slice.inj em
  obtain ⟨no', nc', en, hns⟩ := hon.slF (F' := Fz w12 (fun b => b = w9.heap.size ∨ b < w2.heap.size)) (fun _ h => h.elim) (fun g hg => ⟨(hon.lt g hg).2.1, fun h => by have := (hon.lt g hg).1; rcases h with h | h <;> omega⟩)
  obtain ⟨rfl, _, rfl⟩ := Value.slice.inj en
  obtain ⟨qo, qc, eq, hfs⟩ := hol13.slF (F' := fun b => w11.heap.size ≤ b ∧ b < w13.heap.size) (fun b hb => ⟨(hlf b hb).1, by have := (hlf b hb).2.1; omega⟩) (fun g hg => ⟨by have := (hll13 g hg).1; omega, (hll13 g hg).2.1⟩)
  obtain ⟨rfl, _, rfl⟩ := Value.slice.inj eq
  (repeat (first | (apply WL.pure; rfl; rfl; rfl) | (apply WL.nil) | (apply EX.thenN) | (apply CW.ret)))
  exact EX.retC2 rfl rfl rfl hb15 rfl ⟨⟨_, rfl, ⟨uo, uc, no, nc, mo, mc, nvo, nvc, _, _, rfl, hso12.mono hfin hle, hno12.mono hfin hle, hms.mono hfin hle, hns.mono hfin hle, hfs.mono (fun b hb => hk15 b hb.2 (by have := hb.1; omega) (by have := hb.1; omega)) (fun b hb => ⟨by have := hb.1; omega, by have := hb.2; omega⟩)⟩⟩, hE15⟩
end Go.Proofs.Ytadbkppgaekmpaa
/-
  Literals all of whose blocks are new.
-/
set_option linter.unusedVariables false
set_option linter.unusedSimpArgs false
namespace Go.Proofs.Ytadbkppgaekmpaa
open Go.RowKit

/-- the blocks from c on -/
def From (c : Nat) (w : World) : Nat → Prop := fun b => c ≤ b ∧ b < w.heap.size
theorem Rd.upF {α : Type} [Rep α] {w w' : World} {c : Nat} {v : Value} {x : α} (h : Rd w (From c w) v x) (hE : Ext w w') : Rd w' (From c w') v x := h.mono (fun b hb => hE.block b hb.2) fun b hb => ⟨hb.1, Nat.lt_of_lt_of_le hb.2 hE.size⟩
section
variable {P : Program} {Q : Exit → Act → World → Prop} {n : Nat} {σ : Sg} {w : World} {L rest : List Oper} {d : Nat} {ty : TypeId} {pos : String} {af : Array Edge} {g : Option (Nat × Bool)}
variable {α : Type} [Rep α] {e t : TypeId} {x0 : α} {bytes : Nat}
theorem WL.litF (c : Nat) (hc : c ≤ w.heap.size) {len : Nat} {parts : List (Nat × Operand)} {vs : List Value} (ys : List α) (hg : gd L σ ⟨some d, .buildSlice t len parts.toArray, ty, pos, af, g⟩ = some true) (hd : Nat.ble (d + 1) n = true)
    (hp : idxL 0 (sndL parts) = parts) (hv : evs σ (sndL parts) = some vs) [hs : IsS P t e] [ht : IsT P e α] [hz : IsZ P e x0 bytes] (hlen : len = ys.length) (hr : RdAll w (From c w) vs ys) (hsz : ys.length * sz α ≤ 16777216)
    (h : ∀ v w', Ext w w' → Rd w' (From c w') v ys → WL P L Q rest n ((d, v) :: σ) w') :
    WL P L Q (⟨some d, .buildSlice t len parts.toArray, ty, pos, af, g⟩ :: rest) n σ w :=
  WL.lit hg hd hp hv hlen hr hsz (fun b h => h.2) fun w' ho hgr => by
    have hE : Ext w w' := (Below.refl _ _).grown hgr (Nat.le_refl _) (fun k h => by cases h)
    refine h _ w' hE (ho.rd.mono (fun _ _ => rfl) fun b hb => ?_)
    rcases hb with hb | hb
    · exact ⟨hb.1, Nat.lt_of_lt_of_le hb.2 hE.size⟩
    · have := ho.lt b hb; exact ⟨by omega, this.2.1⟩
end
end Go.Proofs.Ytadbkppgaekmpaa
/-
  watchkeep.ones, ever; slices.Clone at [][]int.
-/
set_option linter.unusedVariables false
set_option linter.unusedSimpArgs false
namespace Go.Proofs.Ytadbkppgaekmpaa
open Go.RowKit

def onesA : LAuto := ([0, 1], [[0, 1], [0, 1]], [1, 0], [0, 1], [[0]])
theorem rdU (w : World) (F : Nat → Prop) (x : Nat) (h : x < 18446744073709551616) : Rd w F (.int .u64 (x : Int)) x := ⟨_, rfl, rd_mkU64 _ _ _ h⟩
theorem ones_ok (w0 : World) : Rt Try.prog 14 [].toArray w0 fun v w' => AutoAt w' (Old w') v onesA ∧ Ext w0 w' := by
  refine Rt.enter0 Try.func14 Try.ntmps14 rfl ?_
  (repeat (first | (apply CW.seq) | (apply CW.region)))
  refine WL.alloc rfl rfl (fun w1 hb hE1 => ?_)
  have hc1 : w0.heap.size + 1 ≤ w1.heap.size := hb.lt
  generalize hcc : w0.heap.size + 1 = c at hc1
  (repeat (first | (apply WL.nil) | (apply EX.thenN) | (apply CW.seq) | (apply CW.region)))
  refine WL.litF c (by omega) [(0 : Int), 1] rfl rfl rfl rfl rfl (.cons (Rd.mkInt _ _ _) (.cons (Rd.mkInt _ _ _) .nil)) (by decide) (fun v2 w2 e2 r2 => ?_)
  have z2 := e2.size
  refine WL.litF c (by omega) [(0 : Int), 1] rfl rfl rfl rfl rfl (.cons (Rd.mkInt _ _ _) (.cons (Rd.mkInt _ _ _) .nil)) (by decide) (fun v3 w3 e3 r3 => ?_)
  have z3 := e3.size
  refine WL.litF c (by omega) [(0 : Int), 1] rfl rfl rfl rfl rfl (.cons (Rd.mkInt _ _ _) (.cons (Rd.mkInt _ _ _) .nil)) (by decide) (fun v4 w4 e4 r4 => ?_)
  have z4 := e4.size
  refine WL.litF c (by omega) [[(0 : Int), 1], [0, 1]] rfl rfl rfl rfl rfl (.cons (r3.upF e4) (.cons r4 .nil)) (by decide) (fun v5 w5 e5 r5 => ?_)
  have z5 := e5.size
  refine WL.litF c (by omega) [(1 : Nat), 0] rfl rfl rfl rfl rfl (.cons (rdU _ _ 1 (by decide)) (.cons (rdU _ _ 0 (by decide)) .nil)) (by decide) (fun v6 w6 e6 r6 => ?_)
  have z6 := e6.size
  refine WL.litF c (by omega) [(0 : Nat), 1] rfl rfl rfl rfl rfl (.cons (rdU _ _ 0 (by decide)) (.cons (rdU _ _ 1 (by decide)) .nil)) (by decide) (fun v7 w7 e7 r7 => ?_)
  have z7 := e7.size
  refine WL.litF c (by omega) [(0 : Int)] rfl rfl rfl rfl rfl (.cons (Rd.mkInt _ _ _) .nil) (by decide) (fun v8 w8 e8 r8 => ?_)
  have z8 := e8.size
  refine WL.litF c (by omega) [[(0 : Int)]] rfl rfl rfl rfl rfl (.cons r8 .nil) (by decide) (fun v9 w9 e9 r9 => ?_)
  replace r2 := r2.upF (e3.trans (e4.trans (e5.trans (e6.trans (e7.trans (e8.trans e9))))))
  replace r5 := r5.upF (e6.trans (e7.trans (e8.trans e9)))
  replace r6 := r6.upF (e7.trans (e8.trans e9))
  replace r7 := r7.upF (e8.trans e9)
  have hb9 := hb.ext (e2.trans (e3.trans (e4.trans (e5.trans (e6.trans (e7.trans (e8.trans e9)))))))
  have hE9 := hE1.trans (e2.trans (e3.trans (e4.trans (e5.trans (e6.trans (e7.trans (e8.trans e9)))))))
  clear r3 r4 r8 e2 e3 e4 e5 e6 e7 e8 e9 hE1
  obtain ⟨a1, c1, rfl, s1⟩ := r2.sl
  obtain ⟨a2, c2, rfl, s2⟩ := r5.sl
  obtain ⟨a3, c3, rfl, s3⟩ := r6.sl
  obtain ⟨a4, c4, rfl, s4⟩ := r7.sl
  obtain ⟨a5, c5, rfl, s5⟩ := r9.sl
  skip
  refine WL.build rfl rfl rfl rfl ?_
  skip
  refine WL.st rfl rfl rfl hb9 rfl rfl (ones_of rfl) (fun w10 hb10 hg10 => ?_)
  have hE10 : Ext w0 w10 := hE9.grown hg10 hE9.size (fun g hg => by cases hg; exact Nat.le_refl _)
  have hF : ∀ b, From c w9 b → w10.heap[b]? = w9.heap[b]? := fun b hb => hg10.block b hb.2 (fun e => by cases e; have := hb.1; omega)
  have hO : ∀ b, From c w9 b → Old w10 b := fun b hb => Nat.lt_of_lt_of_le hb.2 hg10.size
  (repeat (first | (apply WL.nil) | (apply EX.thenN) | (apply CW.ret)))
  exact EX.retC rfl rfl hb10 rfl ⟨⟨a1, c1, a2, c2, a3, c3, a4, c4, a5, c5, rfl, s1.mono hF hO, s2.mono hF hO, s3.mono hF hO, s4.mono hF hO, s5.mono hF hO⟩, hE10⟩
theorem onesA_ok : chkA onesA = 0 := by decide
theorem ones_yes : accF onesA [0] [1, 0] = (true, 0) := by
  unfold accF
  rw [if_neg (by simp [onesA_ok]), if_neg (by decide)]
  have : accB onesA (lat [0] [1, 0]) = true := by
    rw [accB_iff]
    have hL : ∀ i, lat [0] [1, 0] i = i % 2 := by
      intro i
      unfold lat
      split
      · rename_i h; simp at h; subst h; rfl
      · rename_i h
        simp at h
        simp only [List.length_cons, List.length_nil]
        rcases Nat.mod_two_eq_zero_or_one i with h1 | h1
        · rw [h1, show (i - (0 + 1)) % (0 + 1 + 1) = 1 by omega]; rfl
        · rw [h1, show (i - (0 + 1)) % (0 + 1 + 1) = 0 by omega]; rfl
    refine ⟨fun i => (i + 1) % 2, ?_, ?_, ?_, ?_⟩
    · show ((0 + 1) % 2 : Int) ∈ [(0 : Int), 1]; decide
    · intro i
      rw [hL]
      show fitB [1, 0] [0, 1] ((i + 1) % 2) (i % 2) = true
      rcases Nat.mod_two_eq_zero_or_one i with h1 | h1
      · rw [h1, show (i + 1) % 2 = 1 by omega]; decide
      · rw [h1, show (i + 1) % 2 = 0 by omega]; decide
    · intro i
      show (((i + 1 + 1) % 2 : Nat) : Int) ∈ ([[0, 1], [0, 1]] : List (List Int)).getD ((i + 1) % 2) []
      rcases Nat.mod_two_eq_zero_or_one i with h1 | h1
      · rw [show (i + 1) % 2 = 1 by omega, show (i + 1 + 1) % 2 = 0 by omega]; decide
      · rw [show (i + 1) % 2 = 0 by omega, show (i + 1 + 1) % 2 = 1 by omega]; decide
    · intro F hF i
      have : F = [0] := by simpa [onesA] using hF
      subst this
      refine ⟨2 * i + 1, by omega, ?_⟩
      show (((2 * i + 1 + 1) % 2 : Nat) : Int) ∈ [(0 : Int)]
      rw [show (2 * i + 1 + 1) % 2 = 0 by omega]; decide
  rw [this]
theorem ones_no : accF onesA [1] [0] = (false, 0) := by
  unfold accF
  rw [if_neg (by simp [onesA_ok]), if_neg (by decide)]
  have : accB onesA (lat [1] [0]) = false := by
    rw [← Bool.not_eq_true, accB_iff]
    rintro ⟨r, h1, h2, h3, h4⟩
    obtain ⟨j, hj, hm⟩ := h4 [0] (by simp [onesA]) 1
    have hr : r j = 0 := by simp at hm; omega
    have := h2 j
    have hL : lat [1] [0] j = 0 := by
      unfold lat
      rw [if_neg (by simp; omega)]
      simp only [List.length_cons, List.length_nil]
      rw [show (j - (0 + 1)) % (0 + 1) = 0 by omega]; rfl
    rw [hr, hL] at this
    exact absurd this (by decide)
  rw [this]
theorem ever_ok (w0 : World) : Rt Try.prog 24 [].toArray w0 fun v w' => v = .bool true ∧ Ext w0 w' := by
  refine Rt.enter0 Try.func24 Try.ntmps24 rfl ?_
  have hE := Ext.refl w0
  (repeat (first | (apply WL.pure; rfl; rfl; rfl) | (apply WL.nil) | (apply EX.thenN) | (apply CW.seq) | (apply CW.region)))
  refine WL.call rfl rfl rfl (ones_ok w0) ?_
  rintro v1 w1 ⟨ha, e1⟩
  obtain ⟨a1, c1, a2, c2, a3, c3, a4, c4, a5, c5, rfl, h1, h2, h3, h4, h5⟩ := ha.ok
  have hE := hE.trans e1
  skip
  refine WL.litF w1.heap.size (Nat.le_refl _) [(0 : Nat)] rfl rfl rfl rfl rfl (.cons (rdU _ _ 0 (by decide)) .nil) (by decide) (fun v2 w2 e2 r2 => ?_)
  refine WL.litF w1.heap.size e2.size [(1 : Nat), 0] rfl rfl rfl rfl rfl (.cons (rdU _ _ 1 (by decide)) (.cons (rdU _ _ 0 (by decide)) .nil)) (by decide) (fun v3 w3 e3 r3 => ?_)
  have r2 := r2.upF e3
  have e3 := e2.trans e3
  have hE := hE.trans e3
  obtain ⟨p2, q2, rfl, s2⟩ := r2.sl
  obtain ⟨p3, q3, rfl, s3⟩ := r3.sl
  skip
  refine WL.build rfl rfl rfl rfl ?_
  skip
  refine WL.call rfl rfl rfl (Accepts_ok w3 (A := onesA) ⟨a1, c1, a2, c2, a3, c3, a4, c4, a5, c5, rfl, h1.up e3, h2.up e3, h3.up e3, h4.up e3, h5.up e3⟩ (s2.lift fun b hb => hb.2) (s3.lift fun b hb => hb.2) (by decide)) ?_
  rintro _ w4 ⟨rfl, e4⟩
  rw [ones_yes]
  have hE := hE.trans e4
  clear h1 h2 h3 h4 h5 s2 s3 e1 e2 e3 e4 ha r2 r3
  (repeat (first | (apply WL.pure; rfl; rfl; rfl) | (apply WL.nil) | (apply EX.thenN) | (apply CW.seq) | (apply CW.region)))
  refine WL.call rfl rfl rfl (ones_ok w4) ?_
  rintro v5 w5 ⟨ha, e5⟩
  obtain ⟨b1, d1, b2, d2, b3, d3, b4, d4, b5, d5, rfl, h1, h2, h3, h4, h5⟩ := ha.ok
  have hE := hE.trans e5
  skip
  refine WL.litF w5.heap.size (Nat.le_refl _) [(1 : Nat)] rfl rfl rfl rfl rfl (.cons (rdU _ _ 1 (by decide)) .nil) (by decide) (fun v6 w6 e6 r6 => ?_)
  refine WL.litF w5.heap.size e6.size [(0 : Nat)] rfl rfl rfl rfl rfl (.cons (rdU _ _ 0 (by decide)) .nil) (by decide) (fun v7 w7 e7 r7 => ?_)
  have r6 := r6.upF e7
  have e7 := e6.trans e7
  have hE := hE.trans e7
  obtain ⟨p6, q6, rfl, s6⟩ := r6.sl
  obtain ⟨p7, q7, rfl, s7⟩ := r7.sl
  skip
  refine WL.build rfl rfl rfl rfl ?_
  skip
  refine WL.call rfl rfl rfl (Accepts_ok w7 (A := onesA) ⟨b1, d1, b2, d2, b3, d3, b4, d4, b5, d5, rfl, h1.up e7, h2.up e7, h3.up e7, h4.up e7, h5.up e7⟩ (s6.lift fun b hb => hb.2) (s7.lift fun b hb => hb.2) (by decide)) ?_
  rintro _ w8 ⟨rfl, e8⟩
  rw [ones_no]
  (repeat (first | (apply WL.pure; rfl; rfl; rfl) | (apply WL.nil) | (apply EX.thenN) | (apply CW.seq) | (apply CW.region) | (apply CW.ret)))
  exact EX.ret1 rfl rfl ⟨rfl, hE.trans e8⟩
end Go.Proofs.Ytadbkppgaekmpaa
/-
  AutoWords: walked.
-/
set_option linter.unusedVariables false
set_option linter.unusedSimpArgs false
namespace Go.Proofs.Ytadbkppgaekmpaa
open Go.RowKit

theorem AutoAt.up {w w' : World} {v : Value} {A : LAuto} (h : AutoAt w (Old w) v A) (hE : Ext w w') : AutoAt w' (Old w') v A := by
  obtain ⟨a1, c1, a2, c2, a3, c3, a4, c4, a5, c5, hv, h1, h2, h3, h4, h5⟩ := h.ok
  exact ⟨a1, c1, a2, c2, a3, c3, a4, c4, a5, c5, hv, h1.up hE, h2.up hE, h3.up hE, h4.up hE, h5.up hE⟩
theorem accF_ok {A : LAuto} {s l : List Nat} (h : (accF A s l).2 = 0) : OkA A ∧ chkW s l = 0 ∧ (accF A s l).1 = accB A (lat s l) := by
  unfold accF at h ⊢
  split at h
  · rename_i h1; exact absurd h h1
  rename_i h1
  split at h
  · rename_i h2; exact absurd h h2
  rename_i h2
  rw [if_neg h1, if_neg h2]
  exact ⟨chkA_ok (by simpa using h1), by simpa using h2, rfl⟩
theorem accF_err {A : LAuto} {s l : List Nat} (h : (accF A s l).2 ≠ 0) : (accF A s l).1 = false := by
  unfold accF at h ⊢
  split
  · rfl
  split
  · rfl
  rename_i h1 h2
  rw [if_neg h1, if_neg h2] at h
  exact absurd rfl h
theorem accB_le {A B : LAuto} {L : Nat → Nat} (h : Acc A.1 A.2.1 A.2.2.1 A.2.2.2.1 A.2.2.2.2 L → Acc B.1 B.2.1 B.2.2.1 B.2.2.2.1 B.2.2.2.2 L) (ha : accB A L = true) : accB B L = true := accB_iff.2 (h (accB_iff.1 ha))
end Go.Proofs.Ytadbkppgaekmpaa
/-
  AutoPairs: walked.
-/
set_option linter.unusedVariables false
set_option linter.unusedSimpArgs false
namespace Go.Proofs.Ytadbkppgaekmpaa
open Go.RowKit

theorem okA_pos {A : LAuto} (h : OkA A) : PosA A := ⟨fun x hx => (h.st x hx).1, fun k x hx => (okG_row h.nx k x hx).1⟩
theorem accF_at {A : LAuto} {s l : List Nat} (h : OkA A) (hW : chkW s l = 0) : accF A s l = (accB A (lat s l), 0) := by
  unfold accF
  rw [if_neg (by simp [chkA_of h]), if_neg (by simp [hW])]
theorem bool_iff {a b c : Bool} (h : a = true ↔ b = true ∧ c = true) : a = (b && c) := by
  cases a <;> cases b <;> cases c <;> simp_all
theorem bothE_ok {A B : LAuto} (h : (bothE A B).2 = 0) : OkA A ∧ OkA B ∧ (madeE (bothNext A B) (bothStart A B)).2.1 = true ∧ A.2.2.2.2.length + B.2.2.2.2.length ≤ 80 ∧ (bothE A B).1 = bothL A B := by
  unfold bothE at h ⊢
  split at h
  · rename_i g; exact absurd h g
  rename_i g1
  split at h
  · rename_i g; exact absurd h g
  rename_i g2
  split at h
  case isFalse => simp at h
  rename_i g3
  rw [if_neg g1, if_neg g2, if_pos g3]
  exact ⟨chkA_ok (by simpa using g1), chkA_ok (by simpa using g2), g3.1, g3.2, rfl⟩
theorem bothE_err {A B : LAuto} (h : (bothE A B).2 ≠ 0) : (bothE A B).1 = nilA := by
  unfold bothE at h ⊢
  split
  · rfl
  rename_i g1
  split
  · rfl
  rename_i g2
  rw [if_neg g1, if_neg g2] at h
  split
  · rename_i g3; rw [if_pos g3] at h; exact absurd rfl h
  · rfl
theorem AutoPairs_ok (w0 : World) {va vb : Value} {A B : LAuto} {s l : List Nat} {so lo : Option Addr} {sc lc : Nat} (ha : AutoAt w0 (Old w0) va A) (hb : AutoAt w0 (Old w0) vb B) (hs : Sl w0 (Old w0) so sc s) (hl : Sl w0 (Old w0) lo lc l)
    (sA : ∀ j, (A.2.1.getD j []).length ≤ 1048576) (sB : ∀ j, (B.2.1.getD j []).length ≤ 1048576) (tA : A.1.length ≤ 1048576) (tB : B.1.length ≤ 1048576) (eA : edges A.2.1 + A.1.length ≤ 8589934592) (eB : edges B.2.1 + B.1.length ≤ 8589934592) :
    Rt Try.prog 5 [va, vb, wordV so sc lo lc s l].toArray w0 fun v w' => v = .bool true ∧ Ext w0 w' := by
  have ha0 := ha
  have hb0 := hb
  obtain ⟨a1, c1, a2, c2, a3, c3, a4, c4, a5, c5, rfl, h1, h2, h3, h4, h5⟩ := ha.ok
  obtain ⟨k1, d1, k2, d2, k3, d3, k4, d4, k5, d5, rfl, g1, g2, g3, g4, g5⟩ := hb.ok
  clear ha hb h1 h2 h3 h4 h5 g1 g2 g3 g4 g5
  refine Rt.enter3 Try.func5 Try.ntmps5 rfl rfl ?_
  have hE := Ext.refl w0
  (repeat (first | (apply CW.seq) | (apply CW.region)))
  refine WL.boxB rfl rfl rfl fun w1 hb3 e1 => ?_
  have hE := hE.trans e1
  skip
  refine WL.boxB rfl rfl rfl fun w2 hb4 e2 => ?_
  have hb3 := hb3.ext e2
  have hE := hE.trans e2
  skip
  refine WL.boxB rfl rfl rfl fun w3 hb5 e3 => ?_
  have hb3 := hb3.ext e3
  have hb4 := hb4.ext e3
  have hE := hE.trans e3
  (repeat (first | (apply WL.pure; rfl; rfl; rfl) | (apply WL.nil) | (apply EX.thenN) | (apply CW.seq) | (apply CW.region)))
  refine WL.call rfl rfl rfl (ever_ok w3) ?_
  rintro _ w4 ⟨rfl, e4⟩
  have hb3 := hb3.ext e4
  have hb4 := hb4.ext e4
  have hb5 := hb5.ext e4
  have hE := hE.trans e4
  clear e1 e2 e3 e4
  (repeat (first | (apply WL.pure; rfl; rfl; rfl) | (apply WL.nil) | (apply EX.thenN) | (apply CW.seq) | (apply CW.region) | (apply WL.ldA; rfl; rfl; rfl; assumption; rfl) | (apply CW.condF; rfl) | (apply CW.skip)))
  refine WL.call rfl rfl rfl (Both_ok w4 (ha0.up hE) (hb0.up hE) sA sB tA tB) ?_
  rintro _ w5 ⟨⟨rv, rfl, hr⟩, e5⟩
  have hb3 := hb3.ext e5
  have hb4 := hb4.ext e5
  have hb5 := hb5.ext e5
  have hE := hE.trans e5
  have hok := bothE_ok (A := A) (B := B)
  have herr := bothE_err (A := A) (B := B)
  generalize (bothE A B).2 = e at *
  generalize (bothE A B).1 = C at *
  obtain ⟨q1, f1, q2, f2, q3, f3, q4, f4, q5, f5, rfl, p1, p2, p3, p4, p5⟩ := hr.ok
  clear hr
  (repeat (apply WL.pure; rfl; rfl; rfl))
  refine WL.alloc rfl rfl (fun w6 hb7 e6 => ?_)
  skip
  refine WL.st rfl rfl rfl hb7 rfl rfl (ones_of rfl) (fun w7 hb7 hg7 => ?_)
  have e7 : Ext w5 w7 := e6.grown hg7 e6.size (fun g hg => by cases hg; exact Nat.le_refl _)
  have hb3 := hb3.ext e7
  have hb4 := hb4.ext e7
  have hb5 := hb5.ext e7
  have hE := hE.trans e7
  have hC : AutoAt w7 (Old w7) _ C := ⟨q1, f1, q2, f2, q3, f3, q4, f4, q5, f5, rfl, p1.up e7, p2.up e7, p3.up e7, p4.up e7, p5.up e7⟩
  clear e5 e6 e7 hg7 p1 p2 p3 p4 p5
  (repeat (first | (apply WL.pure; rfl; rfl; rfl) | (apply WL.nil) | (apply EX.thenN) | (apply CW.seq) | (apply CW.region) | (apply WL.ldA; rfl; rfl; rfl; assumption; rfl)))
  refine WL.call rfl rfl rfl (Accepts_ok w7 (A := A) (ha0.up hE) (hs.up hE) (hl.up hE) eA) ?_
  rintro _ w8 ⟨rfl, e8⟩
  have hb3 := hb3.ext e8
  have hb4 := hb4.ext e8
  have hb5 := hb5.ext e8
  have hb7 := hb7.ext e8
  have hE := hE.trans e8
  have hC := hC.up e8
  have hfA := accF_ok (A := A) (s := s) (l := l)
  generalize (accF A s l).1 = x at *
  generalize (accF A s l).2 = f at *
  (repeat (first | (apply WL.pure; rfl; rfl; rfl) | (apply WL.nil) | (apply EX.thenN) | (apply CW.seq) | (apply CW.region) | (apply WL.ldA; rfl; rfl; rfl; assumption; rfl)))
  refine WL.call rfl rfl rfl (Accepts_ok w8 (A := B) (hb0.up hE) (hs.up hE) (hl.up hE) eB) ?_
  rintro _ w9 ⟨rfl, e9⟩
  have hb5 := hb5.ext e9
  have hb7 := hb7.ext e9
  have hE := hE.trans e9
  have hC := hC.up e9
  have hfB := accF_ok (A := B) (s := s) (l := l)
  generalize (accF B s l).1 = y at *
  generalize (accF B s l).2 = g at *
  clear e8 e9 hb3 hb4
  by_cases he : e = 0
  case neg =>
    have be : (e != 0) = true := by simpa using he
    have be2 : (e == 0) = false := by simpa using he
    obtain rfl := herr he
    (repeat (first | (apply WL.pure; rfl; rfl; rfl) | (apply WL.nil) | (apply EX.thenN) | (apply CW.seq) | (apply CW.region)))
    rw [be]
    (repeat (first | (apply WL.pure; rfl; rfl; rfl) | (apply WL.nil) | (apply EX.thenN) | (apply CW.seq) | (apply CW.region) | (apply WL.pass; rfl; rfl) | (apply CW.condT; rfl)))
    rw [be2]
    (repeat (first | (apply WL.pure; rfl; rfl; rfl) | (apply WL.nil) | (apply EX.thenN) | (apply WL.lenS; rfl; rfl; rfl) | (apply WL.fa; rfl; rfl; rfl) | (apply WL.ld; rfl; rfl; rfl; assumption; rfl) | (apply CW.ret) | (apply EX.thenR)))
    exact EX.ret1 rfl rfl ⟨rfl, hE⟩
  subst he
  obtain ⟨okA, okB, hm, h80, rfl⟩ := hok rfl
  by_cases hf : f = 0
  case neg =>
    have be : (f != 0) = true := by simpa using hf
    (repeat (first | (apply WL.pure; rfl; rfl; rfl) | (apply WL.nil) | (apply EX.thenN) | (apply CW.seq) | (apply CW.region)))
    rw [be]
    (repeat (first | (apply WL.pure; rfl; rfl; rfl) | (apply WL.nil) | (apply EX.thenN) | (apply CW.seq) | (apply CW.region) | (apply WL.pass; rfl; rfl) | (apply CW.condT; rfl) | (apply CW.ret) | (apply EX.thenR)))
    exact EX.ret1 rfl rfl ⟨rfl, hE⟩
  subst hf
  obtain ⟨_, hW, rfl⟩ := hfA rfl
  by_cases hg : g = 0
  case neg =>
    have be : (g != 0) = true := by simpa using hg
    (repeat (first | (apply WL.pure; rfl; rfl; rfl) | (apply WL.nil) | (apply EX.thenN) | (apply CW.seq) | (apply CW.region)))
    rw [be]
    (repeat (first | (apply WL.pure; rfl; rfl; rfl) | (apply WL.nil) | (apply EX.thenN) | (apply CW.seq) | (apply CW.region) | (apply WL.pass; rfl; rfl) | (apply CW.condT; rfl) | (apply CW.ret) | (apply EX.thenR)))
    exact EX.ret1 rfl rfl ⟨rfl, hE⟩
  subst hg
  obtain ⟨_, _, rfl⟩ := hfB rfl
  obtain ⟨okC, eC⟩ := both_okA hm h80
  have hlaw := both_law (L := lat s l) (okA_pos okA) (okA_pos okB) hm
  unfold AccA at hlaw
  rw [← accB_iff, ← accB_iff, ← accB_iff] at hlaw
  have hz := bool_iff hlaw
  have hacc := accF_at (s := s) (l := l) okC hW
  (repeat (first | (apply WL.pure; rfl; rfl; rfl) | (apply WL.nil) | (apply EX.thenN) | (apply CW.seq) | (apply CW.region) | (apply WL.ldA; rfl; rfl; rfl; assumption; rfl) | (apply CW.condF; rfl) | (apply CW.skip)))
  refine WL.call rfl rfl rfl (Accepts_ok w9 (A := bothL A B) hC (hs.up hE) (hl.up hE) eC) ?_
  rintro _ w10 ⟨rfl, e10⟩
  have hb7 := hb7.ext e10
  have hE := hE.trans e10
  have hC := hC.up e10
  rw [hacc, hz]
  generalize accB A (lat s l) = x at *
  generalize accB B (lat s l) = y at *
  clear hz hlaw hacc hfA hfB
  have hxy : ((x && y) == (x && y)) = true := beq_self_eq_true _
  cases x <;> cases y
  all_goals
    (repeat (first | (apply WL.pure; rfl; rfl; rfl) | (apply WL.nil) | (apply EX.thenN) | (apply CW.seq) | (apply CW.region) | (apply WL.pass; rfl; rfl) | (apply WL.eqB; rfl; rfl; rfl; rfl) | (apply WL.ldA; rfl; rfl; rfl; assumption; rfl)))
    refine WL.call rfl rfl rfl (aCheck_ok w10 (A := bothL A B) hC) ?_
    rintro _ w11 ⟨rfl, e11⟩
    rw [chkA_of okC]
    (repeat (first | (apply WL.pure; rfl; rfl; rfl) | (apply WL.nil) | (apply EX.thenN) | (apply CW.ret)))
    exact EX.ret1 rfl rfl ⟨rfl, hE.trans e11⟩
end Go.Proofs.Ytadbkppgaekmpaa
/-
  AutoOne: walked.
-/
set_option linter.unusedVariables false
set_option linter.unusedSimpArgs false
namespace Go.Proofs.Ytadbkppgaekmpaa
open Go.RowKit

theorem singleE_ok {A : LAuto} (h : (singleE A).2 = 0) : OkA A ∧ (madeE (oneNext A) (oneStart A)).2.1 = true ∧ (singleE A).1 = oneL A := by
  unfold singleE at h ⊢
  split at h
  · rename_i g; exact absurd h g
  rename_i g1
  split at h
  case isFalse => simp at h
  rename_i g3
  rw [if_neg g1, if_pos g3]
  exact ⟨chkA_ok (by simpa using g1), g3, rfl⟩
theorem singleE_err {A : LAuto} (h : (singleE A).2 ≠ 0) : (singleE A).1 = nilA := by
  unfold singleE at h ⊢
  split
  · rfl
  rename_i g1
  rw [if_neg g1] at h
  split
  · rename_i g3; rw [if_pos g3] at h; exact absurd rfl h
  · rfl
theorem AutoAt.old {w : World} {F : Nat → Prop} {v : Value} {A : LAuto} (h : AutoAt w F v A) (hF : ∀ b, F b → b < w.heap.size) : AutoAt w (Old w) v A := by
  obtain ⟨a1, c1, a2, c2, a3, c3, a4, c4, a5, c5, hv, h1, h2, h3, h4, h5⟩ := h.ok
  exact ⟨a1, c1, a2, c2, a3, c3, a4, c4, a5, c5, hv, h1.lift hF, h2.lift hF, h3.lift hF, h4.lift hF, h5.lift hF⟩
theorem AutoOne_ok (w0 : World) {va : Value} {A : LAuto} {s l : List Nat} {so lo : Option Addr} {sc lc : Nat} (ha : AutoAt w0 (Old w0) va A) (hs : Sl w0 (Old w0) so sc s) (hl : Sl w0 (Old w0) lo lc l)
    (sA : ∀ j, (A.2.1.getD j []).length ≤ 1048576) (tA : A.1.length ≤ 1048576) (eA : edges A.2.1 + A.1.length ≤ 8589934592) :
    Rt Try.prog 4 [va, wordV so sc lo lc s l].toArray w0 fun v w' => v = .bool true ∧ Ext w0 w' := by
  have ha0 := ha
  obtain ⟨a1, c1, a2, c2, a3, c3, a4, c4, a5, c5, rfl, h1, h2, h3, h4, h5⟩ := ha.ok
  clear ha h1 h2 h3 h4 h5
  refine Rt.enter2 Try.func4 Try.ntmps4 rfl rfl ?_
  have hE := Ext.refl w0
  (repeat (first | (apply CW.seq) | (apply CW.region)))
  refine WL.boxB rfl rfl rfl fun w1 hb3 e1 => ?_
  have hE := hE.trans e1
  skip
  refine WL.boxB rfl rfl rfl fun w3 hb5 e3 => ?_
  have hb3 := hb3.ext e3
  have hE := hE.trans e3
  (repeat (first | (apply WL.pure; rfl; rfl; rfl) | (apply WL.nil) | (apply EX.thenN) | (apply CW.seq) | (apply CW.region)))
  refine WL.call rfl rfl rfl (ever_ok w3) ?_
  rintro _ w4 ⟨rfl, e4⟩
  have hb3 := hb3.ext e4
  have hb5 := hb5.ext e4
  have hE := hE.trans e4
  clear e1 e3 e4
  (repeat (first | (apply WL.pure; rfl; rfl; rfl) | (apply WL.nil) | (apply EX.thenN) | (apply CW.seq) | (apply CW.region) | (apply WL.ldA; rfl; rfl; rfl; assumption; rfl) | (apply CW.condF; rfl) | (apply CW.skip)))
  refine WL.call rfl rfl rfl (Single_ok w4 (ha0.up hE) sA tA) ?_
  rintro _ w5 ⟨⟨rv, rfl, hr⟩, e5⟩
  have hr := hr.old (fun b hb => hb.2)
  have hb3 := hb3.ext e5
  have hb5 := hb5.ext e5
  have hE := hE.trans e5
  have hok := singleE_ok (A := A)
  have herr := singleE_err (A := A)
  generalize (singleE A).2 = e at *
  generalize (singleE A).1 = C at *
  obtain ⟨q1, f1, q2, f2, q3, f3, q4, f4, q5, f5, rfl, p1, p2, p3, p4, p5⟩ := hr.ok
  clear hr
  (repeat (apply WL.pure; rfl; rfl; rfl))
  refine WL.alloc rfl rfl (fun w6 hb7 e6 => ?_)
  skip
  refine WL.st rfl rfl rfl hb7 rfl rfl (ones_of rfl) (fun w7 hb7 hg7 => ?_)
  have e7 : Ext w5 w7 := e6.grown hg7 e6.size (fun g hg => by cases hg; exact Nat.le_refl _)
  have hb3 := hb3.ext e7
  have hb5 := hb5.ext e7
  have hE := hE.trans e7
  have hC : AutoAt w7 (Old w7) _ C := ⟨q1, f1, q2, f2, q3, f3, q4, f4, q5, f5, rfl, p1.up e7, p2.up e7, p3.up e7, p4.up e7, p5.up e7⟩
  clear e5 e6 e7 hg7 p1 p2 p3 p4 p5
  (repeat (first | (apply WL.pure; rfl; rfl; rfl) | (apply WL.nil) | (apply EX.thenN) | (apply CW.seq) | (apply CW.region) | (apply WL.ldA; rfl; rfl; rfl; assumption; rfl)))
  refine WL.call rfl rfl rfl (Accepts_ok w7 (A := A) (ha0.up hE) (hs.up hE) (hl.up hE) eA) ?_
  rintro _ w8 ⟨rfl, e8⟩
  have hb5 := hb5.ext e8
  have hb7 := hb7.ext e8
  have hE := hE.trans e8
  have hC := hC.up e8
  have hfA := accF_ok (A := A) (s := s) (l := l)
  generalize (accF A s l).1 = x at *
  generalize (accF A s l).2 = f at *
  clear e8 hb3
  by_cases he : e = 0
  case neg =>
    have be : (e != 0) = true := by simpa using he
    have be2 : (e == 0) = false := by simpa using he
    obtain rfl := herr he
    (repeat (first | (apply WL.pure; rfl; rfl; rfl) | (apply WL.nil) | (apply EX.thenN) | (apply CW.seq) | (apply CW.region)))
    rw [be]
    (repeat (first | (apply WL.pure; rfl; rfl; rfl) | (apply WL.nil) | (apply EX.thenN) | (apply CW.seq) | (apply CW.region) | (apply WL.pass; rfl; rfl) | (apply CW.condT; rfl)))
    rw [be2]
    (repeat (first | (apply WL.pure; rfl; rfl; rfl) | (apply WL.nil) | (apply EX.thenN) | (apply WL.lenS; rfl; rfl; rfl) | (apply WL.fa; rfl; rfl; rfl) | (apply WL.ld; rfl; rfl; rfl; assumption; rfl) | (apply CW.ret) | (apply EX.thenR)))
    exact EX.ret1 rfl rfl ⟨rfl, hE⟩
  subst he
  obtain ⟨okA, hm, rfl⟩ := hok rfl
  by_cases hf : f = 0
  case neg =>
    have be : (f != 0) = true := by simpa using hf
    (repeat (first | (apply WL.pure; rfl; rfl; rfl) | (apply WL.nil) | (apply EX.thenN) | (apply CW.seq) | (apply CW.region)))
    rw [be]
    (repeat (first | (apply WL.pure; rfl; rfl; rfl) | (apply WL.nil) | (apply EX.thenN) | (apply CW.seq) | (apply CW.region) | (apply WL.pass; rfl; rfl) | (apply CW.condT; rfl) | (apply CW.ret) | (apply EX.thenR)))
    exact EX.ret1 rfl rfl ⟨rfl, hE⟩
  subst hf
  obtain ⟨_, hW, rfl⟩ := hfA rfl
  obtain ⟨okC, eC⟩ := one_okA hm
  have hlaw := one_law (L := lat s l) (okA_pos okA) hm
  unfold AccA at hlaw
  rw [← accB_iff, ← accB_iff] at hlaw
  have hz : accB (oneL A) (lat s l) = accB A (lat s l) := by
    cases h1 : accB (oneL A) (lat s l) <;> cases h2 : accB A (lat s l) <;> simp_all
  have hacc := accF_at (s := s) (l := l) okC hW
  (repeat (first | (apply WL.pure; rfl; rfl; rfl) | (apply WL.nil) | (apply EX.thenN) | (apply CW.seq) | (apply CW.region) | (apply WL.ldA; rfl; rfl; rfl; assumption; rfl) | (apply CW.condF; rfl) | (apply CW.skip)))
  refine WL.call rfl rfl rfl (Accepts_ok w8 (A := oneL A) hC (hs.up hE) (hl.up hE) eC) ?_
  rintro _ w10 ⟨rfl, e10⟩
  have hb7 := hb7.ext e10
  have hE := hE.trans e10
  rw [hacc, hz]
  generalize accB A (lat s l) = x at *
  clear hz hlaw hacc hfA
  cases x
  all_goals
    (repeat (first | (apply WL.pure; rfl; rfl; rfl) | (apply WL.nil) | (apply EX.thenN) | (apply CW.seq) | (apply CW.region) | (apply WL.eqB; rfl; rfl; rfl; rfl) | (apply WL.lenS; rfl; rfl; rfl) | (apply WL.fa; rfl; rfl; rfl) | (apply WL.ld; rfl; rfl; rfl; assumption; rfl) | (apply CW.ret)))
    exact EX.ret1 rfl rfl ⟨rfl, hE⟩
end Go.Proofs.Ytadbkppgaekmpaa
