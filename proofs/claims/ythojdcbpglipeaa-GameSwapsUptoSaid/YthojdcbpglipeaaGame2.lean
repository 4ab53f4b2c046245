/-
  Package game: come, joins, enabled, Enabled: walked.
-/
import Derived.Test.YthojdcbpglipeaaGame
set_option linter.unusedVariables false
set_option linter.unusedSimpArgs false
namespace Go.Proofs.Ythojdcbpglipeaa
open Go.RowKit

theorem getDB_at {l : List Bool} {j : Nat} (h : j < l.length) : l.getD j false = l[j] := by rw [List.getD_eq_getElem?_getD, List.getElem?_eq_getElem h]; rfl
theorem come_ok (w0 : World) {so fo : Option Addr} {sc fc : Nat} {ns : List LNode} {fl : List LFlow} (hs : Sl w0 (Old w0) so sc ns) (hf : Sl w0 (Old w0) fo fc fl) (hok : OkPr (ns, fl)) {flow : Nat} (hfl : flow < fl.length) (but : Int) :
    Rt Try.prog 175 [procV so sc fo fc ns.length fl.length, .int .i64 (flow : Int), .int .i64 but].toArray w0 fun v w' => Own w' w0.heap.size 4 Non v (comeL fl flow but) ∧ Ext w0 w' := by
  have hf30 := hok.f
  dsimp only at hf30
  refine Rt.enter3 Try.func175 Try.ntmps175 rfl rfl ?_
  have hE := Ext.refl w0
  (repeat (first | (apply CW.seq) | (apply CW.region)))
  refine WL.boxB rfl rfl rfl fun w1 hb1 e1 => ?_
  have hE := hE.trans e1
  have z1 := e1.size
  (repeat (first | (apply WL.pure; rfl; rfl; rfl) | (apply WL.nil) | (apply EX.thenN) | (apply CW.seq) | (apply CW.region) | (apply WL.lenS; rfl; rfl; rfl) | (apply WL.fa; rfl; rfl; rfl) | (apply WL.ld; rfl; rfl; rfl; assumption; rfl)))
  refine WL.make (α := Bool) rfl rfl rfl rfl (by omega) (by unfold maxLen; omega) (fun w2 ho2 hg2 => ?_)
  have e2 : Ext w1 w2 := (Below.refl _ _).grown hg2 (Nat.le_refl _) (fun k h => by cases h)
  have hlt := (ho2.lt _ rfl).2.1
  generalize hsv : Value.slice (some ⟨w1.heap.size, 0, none⟩) fl.length fl.length = sv at *
  have hdb : sv.ownBlock = some w1.heap.size := by rw [← hsv]; rfl
  (repeat (first | (apply WL.pure; rfl; rfl; rfl) | (apply WL.nil) | (apply EX.thenN) | (apply CW.seq) | (apply CW.region)))
  refine WL.setN (u := .bool true) (yv := true) rfl rfl rfl rfl ho2 (by simpa using hfl) (fun _ => rfl) (fun _ => rfl) (Rd.mkBool _ _ _) (fun w3 q ho3 hg3 => ?_)
  have e3 : Ext w1 w3 := e2.grown hg3 e2.size (fun b hb => (ho2.lt b hb).1)
  have hlt3 : w1.heap.size < w3.heap.size := (ho3.lt _ hdb).2.1
  (repeat (first | (apply WL.pure; rfl; rfl; rfl) | (apply WL.nil) | (apply EX.thenN) | (apply CW.seq) | (apply CW.region)))
  refine WL.lit (F := Non) (ys := [(flow : Int)]) rfl rfl rfl rfl rfl (.cons (Rd.mkInt _ _ _) .nil) (by show 1 * 1 ≤ 16777216; decide) (fun _ h => h.elim) (fun w4 ho4 hg4 => ?_)
  have e4 : Ext w1 w4 := e3.grown hg4 e3.size (fun k h => by cases h)
  have ho3 := ho3.keptN hg4 (fun g _ h => by cases h)
  have hne4 : ∀ b, Value.ownBlock (.slice (some ⟨w3.heap.size, 0, none⟩) 1 1) = some b → b ≠ w1.heap.size := fun b hb => by
    have e : some w3.heap.size = some b := hb
    injection e with e; omega
  have ho4 := ho4.low e3.size
  generalize Value.slice (some ⟨w3.heap.size, 0, none⟩) 1 1 = tv at *
  have hI : ComeI fl ((List.replicate fl.length false).set flow true) [(flow : Int)] := ⟨by simp, fun x hx => by rw [List.mem_singleton] at hx; omega⟩
  have hm0 : [(flow : Int)].length + falses ((List.replicate fl.length false).set flow true) ≤ fl.length := by
    have := falses_set (l := List.replicate fl.length false) (k := flow) (by simpa using hfl) (by rw [List.getD_eq_getElem?_getD, List.getElem?_replicate]; split <;> rfl)
    rw [falses_rep] at this
    simp only [List.length_cons, List.length_nil]; omega
  clear e2 e3 hg2 hg3 hg4 ho2
  (repeat (first | (apply WL.pure; rfl; rfl; rfl) | (apply WL.nil) | (apply EX.thenN) | (apply CW.seq) | (apply CW.block)))
  refine CW.loop (S := Nat × List Bool × List Int × Value) (fun s => [(2, .int .i64 but), (3, .pointer (some ⟨w0.heap.size, 0, none⟩)), (7, sv), (8, s.2.2.2)])
    (fun s w => comeGo fl but s.1 s.2.1 s.2.2.1 = comeL fl flow but ∧ ComeI fl s.2.1 s.2.2.1 ∧ s.2.2.1.length + falses s.2.1 ≤ s.1 ∧ s.1 ≤ fl.length ∧ Own w w1.heap.size 4 Non sv s.2.1 ∧ Own w w1.heap.size 3 Non s.2.2.2 s.2.2.1 ∧ (∀ b, s.2.2.2.ownBlock = some b → b ≠ w1.heap.size) ∧ Ext w1 w) (fun s => s.1)
    (fl.length, (List.replicate fl.length false).set flow true, [(flow : Int)], tv) (by repeat (first | exact trivial | refine ⟨rfl, ?_⟩)) ⟨rfl, hI, hm0, Nat.le_refl _, ho3, ho4, hne4, e4⟩ ?_
  rintro ⟨f, out, todo, tv⟩ w5 ⟨hgo, hI, hm, hfF, hod, hon, hne, e5⟩
  dsimp only at hgo hI hm hfF hod hon hne e5 ⊢
  have hE5 := hE.trans e5
  have hb5 := hb1.ext e5
  (repeat (first | (apply WL.pure; rfl; rfl; rfl) | (apply WL.nil) | (apply EX.thenN) | (apply CW.seq) | (apply CW.region) | (refine WL.lenO rfl rfl rfl (by assumption) ?_)))
  refine CW.cond rfl (fun h0 => ?_) (fun h0 => ?_)
  · simp at h0
    match todo, h0 with
    | x :: r, _ =>
    have hx := hI.ok x (by simp)
    obtain ⟨k, rfl⟩ := Int.eq_ofNat_of_zero_le hx.1
    have hk : k < fl.length := by omega
    obtain ⟨a, b, ea, eb, ha, hb⟩ := okPr_flow hok hk
    match f, hm with
    | 0, hm => simp at hm
    | f + 1, hm =>
    have hm : r.length + falses out ≤ f := by simp at hm; omega
    have hI' : ComeI fl out r := ⟨hI.len, fun y hy => hI.ok y (by simp [hy])⟩
    unfold comeGo at hgo
    rw [Int.toNat_natCast, getDF_at hk, ea] at hgo
    obtain ⟨to, tc, rfl, hts⟩ := hon.oldN.sl
    obtain ⟨fb, off, rfl, hfb, hc1, _⟩ := (hf.up hE5).pair hk
    (repeat (first | (apply QL.pure; rfl; rfl; rfl) | (apply EX.thenN) | (apply CW.seq) | (apply QL.fa; rfl; rfl; rfl) | (apply QL.ld; rfl; rfl; rfl; assumption; rfl) | (apply CW.block) | (apply CW.skip) | (apply CW.draw; exact mixed; kernel_rfl)))
    refine QL.elem (i := 0) rfl rfl rfl rfl rfl (fun _ h => h) hts (by omega) (by simp) (fun _ => rfl) (fun u q hu => ?_)
    obtain rfl := hu.int
    simp only [Int.toNat_zero, List.getElem_cons_zero]
    refine QL.idx (α := LFlow) rfl rfl rfl rfl (by omega) (by omega) ?_
    (repeat (apply QL.fa; rfl; rfl; rfl))
    refine QL.load (α := Int) (F := Non) (y := fl[k].1) rfl rfl rfl hfb (fun _ h => h.elim) (by rw [Int.toNat_natCast]; exact hc1) rfl ?_
    rw [show vOf Int [.int .i64 fl[k].1] = .int .i64 fl[k].1 from rfl, ea]
    (repeat (apply QL.pure; rfl; rfl; rfl))
    refine QL.nil (fun w6 e6 => ?_)
    have hod := hod.extN e6
    have hon := hon.extN e6
    have e6 := e5.trans e6
    have hE6 := hE.trans e6
    have hb6 := hb1.ext e6
    clear hts
    (repeat (first | (apply WL.pure; rfl; rfl; rfl) | (apply EX.thenN) | (apply CW.seq) | (apply CW.region)))
    refine WL.cutLoO (α := Int) 1 rfl rfl rfl rfl rfl hon (by simp) (fun nv2 hon2 hnb => ?_)
    simp only [List.drop_succ_cons, List.drop_zero] at hon2
    have hne2 : ∀ b, nv2.ownBlock = some b → b ≠ w1.heap.size := fun b hb => hne b (by rw [← hnb]; exact hb)
    (repeat (first | (apply WL.pure; rfl; rfl; rfl) | (apply WL.nil) | (apply EX.thenN) | (apply CW.seq) | (apply CW.region)))
    refine CW.cond rfl (fun h2 => ?_) (fun h2 => ?_)
    · have h2 : (a : Int) = but := by simpa using h2
      rw [if_pos h2] at hgo
      (repeat (first | (apply CW.exit) | (apply EX.thenX) | (apply EX.inX)))
      exact EX.back (f, out, r, nv2) (by repeat (first | exact trivial | refine ⟨rfl, ?_⟩)) ⟨hgo, hI', hm, by omega, hod, hon2, hne2, e6⟩ (by dsimp only; omega)
    have h2 : ¬ (a : Int) = but := by simpa using h2
    rw [if_neg h2] at hgo
    (repeat (first | (apply WL.pure; rfl; rfl; rfl) | (apply WL.nil) | (apply EX.thenN) | (apply CW.seq) | (apply CW.region) | (apply WL.lenS; rfl; rfl; rfl) | (apply WL.fa; rfl; rfl; rfl) | (apply WL.ld; rfl; rfl; rfl; assumption; rfl) | (apply CW.block) | (apply CW.skip)))
    refine CW.loop (S := Nat × List Bool × List Int × Value) (fun s => [(2, .int .i64 but), (3, .pointer (some ⟨w0.heap.size, 0, none⟩)), (7, sv), (8, s.2.2.2), (9, .int .i64 (a : Int)), (38, .slice (some ⟨fb, off, none⟩) fl.length fc), (39, .int .i64 fl.length), (40, .int .i64 s.1)])
      (fun s w => s.1 ≤ fl.length ∧ (s.2.1, s.2.2.1) = (List.range s.1).foldl (comeStep fl (a : Int)) (out, r) ∧ ComeI fl s.2.1 s.2.2.1 ∧ s.2.2.1.length + falses s.2.1 = r.length + falses out ∧ Own w w1.heap.size 4 Non sv s.2.1 ∧ Own w w1.heap.size 3 Non s.2.2.2 s.2.2.1 ∧ (∀ b, s.2.2.2.ownBlock = some b → b ≠ w1.heap.size) ∧ Ext w1 w) (fun s => fl.length - s.1)
      (0, out, r, nv2) (by repeat (first | exact trivial | refine ⟨rfl, ?_⟩)) ⟨Nat.zero_le _, rfl, hI', rfl, hod, hon2, hne2, e6⟩ ?_
    rintro ⟨j, out2, todo2, tv3⟩ w7 ⟨hj, hfold, hI3, hm3, hod3, hon3, hne3, e7⟩
    dsimp only at hj hfold hI3 hm3 hod3 hon3 hne3 e7 ⊢
    have hE7 := hE.trans e7
    (repeat (first | (apply WL.pure; rfl; rfl; rfl) | (apply WL.nil) | (apply EX.thenN) | (apply CW.seq) | (apply CW.region)))
    refine CW.cond rfl (fun h1 => ?_) (fun h1 => ?_)
    · have hj' : j < fl.length := by simp at h1; omega
      obtain ⟨a2, b2, ea2, eb2, ha2, hb2⟩ := okPr_flow hok hj'
      have hst := comeStep_ok (n := (a : Int)) hj' hI3
      have hfold' : comeStep fl (a : Int) (out2, todo2) j = (List.range (j + 1)).foldl (comeStep fl (a : Int)) (out, r) := by
        rw [List.range_succ, List.foldl_append, ← hfold]; rfl
      have hjo : j < out2.length := by rw [hI3.len]; exact hj'
      have hcs : comeStep fl (a : Int) (out2, todo2) j = if (b2 : Int) = (a : Int) ∧ out2[j] = false then (out2.set j true, todo2 ++ [(j : Int)]) else (out2, todo2) := by
        unfold comeStep; rw [getDF_at hj', eb2, getDB_at hjo]
      rw [hcs] at hst hfold'
      have hlen3 : todo2.length ≤ 60 := by have := falses_le (l := out); have := hI.len; omega
      (repeat (first | (apply WL.pure; rfl; rfl; rfl) | (apply EX.thenN) | (apply CW.seq) | (apply CW.region) | (apply CW.block) | (apply CW.skip)))
      refine WL.elemN rfl rfl rfl rfl rfl (hf.up hE7) hj' (fun _ => rfl) (fun u q hu => ?_)
      rw [hu.pairI, ea2, eb2]
      clear hu
      skip
      refine WL.alloc rfl rfl (fun w8 hb8 e8 => ?_)
      (repeat (apply WL.pure; rfl; rfl; rfl))
      refine WL.st rfl rfl rfl hb8 rfl rfl (ones_of rfl) (fun w9 hb9 hg9 => ?_)
      have e9 : Ext w7 w9 := e8.grown hg9 e8.size (fun g hg => by cases hg; exact Nat.le_refl _)
      have hod4 := hod3.extN e9
      have hon4 := hon3.extN e9
      have e9 := e7.trans e9
      (repeat (first | (apply WL.pure; rfl; rfl; rfl) | (apply WL.nil) | (apply EX.thenN) | (apply CW.seq) | (apply CW.region) | (apply WL.fa; rfl; rfl; rfl) | (apply WL.ld; rfl; rfl; rfl; assumption; rfl)))
      by_cases h3 : (b2 : Int) = (a : Int)
      · rw [show ((b2 : Int) == (a : Int)) = true by simpa using h3]
        (repeat (apply WL.pure; rfl; rfl; rfl))
        refine WL.elemON rfl rfl rfl rfl rfl hod4 hjo (fun _ => rfl) (fun u q hu => ?_)
        obtain rfl := hu.bool
        (repeat (first | (apply WL.pure; rfl; rfl; rfl) | (apply WL.nil) | (apply EX.thenN)))
        by_cases h4 : out2[j] = false
        · rw [if_pos ⟨h3, h4⟩] at hst hfold'
          dsimp only at hst
          rw [h4]
          (repeat (first | (apply WL.pure; rfl; rfl; rfl) | (apply CW.seq) | (apply CW.region) | (apply CW.condT; rfl)))
          refine WL.setN (u := .bool true) (yv := true) rfl rfl rfl rfl hod4 hjo (fun _ => rfl) (fun _ => rfl) (Rd.mkBool _ _ _) (fun w10 q ho10 hg10 => ?_)
          have e10 : Ext w1 w10 := e9.grown hg10 e9.size (fun b hb => (hod4.lt b hb).1)
          have hon5 := hon4.keptN hg10 (fun g hg => by rw [hdb]; simpa using hne3 g hg)
          (repeat (first | (apply WL.pure; rfl; rfl; rfl) | (apply WL.nil) | (apply EX.thenN) | (apply CW.region)))
          refine WL.app1 (F := Non) (yv := (j : Int)) rfl rfl (fun _ => rfl) rfl rfl (fun _ => rfl) hon5 (Rd.mkInt _ _ _) e10.size (fun _ h => h.elim) (by decide) (by unfold maxLen; omega) (by omega) (fun v' w11 p ho11 hg11 hnb11 => ?_)
          have e11 : Ext w1 w11 := e10.grown hg11 e10.size (fun b hb => (hon5.lt b hb).1)
          have hd11 := ho10.keptN hg11 (fun g hg e => by rw [hdb] at hg; cases hg; exact hne3 _ e.symm rfl)
          (repeat (first | (apply WL.add; rfl; rfl; rfl; rfl; omega; omega) | (apply WL.pure; rfl; rfl; rfl) | (apply WL.nil) | (apply EX.thenN) | (apply CW.region) | (apply EX.inN)))
          refine EX.back (j + 1, out2.set j true, todo2 ++ [(j : Int)], v') (by repeat (first | exact trivial | refine ⟨rfl, ?_⟩)) ⟨hj', hfold', hst.1, by rw [hst.2]; exact hm3, hd11, ho11, ?_, e11⟩ (by dsimp only; omega)
          intro b hb'
          rcases hnb11 b hb' with h | h
          · exact hne3 b h
          · have := (ho10.lt _ hdb).2.1; omega
        · rw [if_neg (fun h => h4 h.2)] at hst hfold'
          have h4 : out2[j] = true := by simpa using h4
          rw [h4]
          (repeat (first | (apply WL.add; rfl; rfl; rfl; rfl; omega; omega) | (apply WL.pure; rfl; rfl; rfl) | (apply WL.nil) | (apply EX.thenN) | (apply CW.region) | (apply EX.inN) | (apply CW.condF; rfl) | (apply CW.skip)))
          exact EX.back (j + 1, out2, todo2, tv3) (by repeat (first | exact trivial | refine ⟨rfl, ?_⟩)) ⟨hj', hfold', hI3, hm3, hod4, hon4, hne3, e9⟩ (by dsimp only; omega)
      · rw [if_neg (fun h => h3 h.1)] at hst hfold'
        rw [show ((b2 : Int) == (a : Int)) = false by simpa using h3]
        (repeat (first | (apply WL.add; rfl; rfl; rfl; rfl; omega; omega) | (apply WL.pure; rfl; rfl; rfl) | (apply WL.nil) | (apply EX.thenN) | (apply CW.region) | (apply WL.pass; rfl; rfl) | (apply EX.inN) | (apply CW.condF; rfl) | (apply CW.skip)))
        exact EX.back (j + 1, out2, todo2, tv3) (by repeat (first | exact trivial | refine ⟨rfl, ?_⟩)) ⟨hj', hfold', hI3, hm3, hod4, hon4, hne3, e9⟩ (by dsimp only; omega)
    · obtain rfl : j = fl.length := by simp at h1; omega
      rw [← hfold] at hgo
      (repeat (first | (apply EX.inN) | (apply CW.exit) | (apply EX.thenX) | (apply EX.inX)))
      exact EX.back (f, out2, todo2, tv3) (by repeat (first | exact trivial | refine ⟨rfl, ?_⟩)) ⟨hgo, hI3, by dsimp only; omega, by dsimp only; omega, hod3, hon3, hne3, e7⟩ (by dsimp only; omega)
  · have hnil : todo = [] := by
      simpa using h0
    subst hnil
    rw [comeGo_nil] at hgo
    subst hgo
    (repeat (first | (apply WL.pure; rfl; rfl; rfl) | (apply WL.nil) | (apply EX.thenN) | (apply CW.seq) | (apply CW.region) | (apply CW.exit) | (apply EX.thenX) | (apply EX.inX) | (apply CW.ret)))
    exact EX.ret1 rfl rfl ⟨hod.low z1, hE5⟩
end Go.Proofs.Ythojdcbpglipeaa
