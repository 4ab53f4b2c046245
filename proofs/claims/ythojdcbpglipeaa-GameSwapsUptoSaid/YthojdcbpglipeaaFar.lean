/-
  Package scc: turn, far, Way, Turn.
-/
import Derived.Test.YthojdcbpglipeaaScc
import Derived.Test.YthojdcbpglipeaaNest
import Derived.Test.YthojdcbpglipeaaFarPl
import Derived.Test.YthojdcbpglipeaaLib2
set_option linter.unusedVariables false
set_option linter.unusedSimpArgs false
namespace Go.Proofs.Ythojdcbpglipeaa
open Go.RowKit

theorem turn_ok (w0 : World) {F : Nat → Prop} {ao : Option Addr} {cap : Nat} {g : List (List Int)} (hs : Sl w0 F ao cap g) (hF : ∀ b, F b → b < w0.heap.size) (hg : okG g) (hl : g.length ≤ 1099511627776) :
    Rt Try.prog 207 [.slice ao g.length cap].toArray w0 fun v w' => ∃ vs, OwnN w' w0.heap.size 22 3 v vs (turnL g) ∧ Ext w0 w' := by
  refine Rt.enter1 Try.func207 Try.ntmps207 rfl rfl ?_
  (repeat (first | (apply WL.pure; rfl; rfl; rfl) | (apply WL.nil) | (apply EX.thenN) | (apply CW.seq) | (apply CW.region) | (apply WL.lenS; rfl; rfl; rfl)))
  refine WL.make (α := Raw) rfl rfl rfl rfl (by omega) (by unfold maxLen; omega) (fun w1 ho1 hg1 => ?_)
  have hE1 : Ext w0 w1 := (Below.refl _ _).grown hg1 (Nat.le_refl _) (fun k h => by cases h)
  generalize hsv : Value.slice (some ⟨w0.heap.size, 0, none⟩) g.length g.length = sv at *
  have hN1 : OwnN w1 w0.heap.size 22 3 sv _ (List.replicate g.length ([] : List Int)) := OwnN.made ho1
  rw [← turnP_start] at hN1
  (repeat (first | (apply WL.pure; rfl; rfl; rfl) | (apply WL.nil) | (apply EX.thenN) | (apply CW.seq) | (apply CW.region) | (apply WL.lenS; rfl; rfl; rfl) | (apply CW.block)))
  refine CW.loop (S := Nat × List Raw) (fun s => [(3, sv), (12, .slice ao g.length cap), (13, .int .i64 g.length), (14, .int .i64 s.1)])
    (fun s w => s.1 ≤ g.length ∧ OwnN w w0.heap.size 22 3 sv s.2 (turnP g s.1 0) ∧ Ext w0 w) (fun s => g.length - s.1) (0, _) (by repeat (first | exact trivial | refine ⟨rfl, ?_⟩)) ⟨by omega, hN1, hE1⟩ ?_
  rintro ⟨n, vs⟩ w ⟨hn, hN, hE⟩
  dsimp only at hn hN
  (repeat (first | (apply WL.pure; rfl; rfl; rfl) | (apply WL.nil) | (apply EX.thenN) | (apply CW.seq) | (apply CW.region)))
  refine CW.cond rfl (fun hng => ?_) (fun hng => ?_)
  · simp at hng
    (repeat (first | (apply WL.pure; rfl; rfl; rfl) | (apply EX.thenN) | (apply CW.seq) | (apply CW.region) | (apply CW.block) | (apply CW.skip)))
    have hs' : Sl w F ao cap g := hs.mono (fun b hb => hE.block b (hF b hb)) fun _ h => h
    refine WL.elemN rfl rfl rfl rfl rfl hs' hng (fun _ => rfl) (fun u q hu => ?_)
    obtain ⟨lo, lc, rfl, hrow⟩ := hu.sl
    have hrl := hrow.len63
    dsimp only at hrl hrow
    have erow : g.getD n [] = g[n] := by rw [List.getD_eq_getElem?_getD, List.getElem?_eq_getElem hng]; rfl
    (repeat (first | (apply WL.pure; rfl; rfl; rfl) | (apply WL.nil) | (apply EX.thenN) | (apply CW.seq) | (apply CW.region) | (apply WL.lenS; rfl; rfl; rfl) | (apply CW.block)))
    refine CW.loop (S := Nat × List Raw) (fun s => [(3, sv), (4, .int .i64 n), (12, .slice ao g.length cap), (13, .int .i64 g.length), (14, .int .i64 n), (19, .slice lo g[n].length lc), (20, .int .i64 g[n].length), (21, .int .i64 s.1)])
      (fun s w => s.1 ≤ g[n].length ∧ OwnN w w0.heap.size 22 3 sv s.2 (turnP g n s.1) ∧ Ext w0 w) (fun s => g[n].length - s.1) (0, vs) (by repeat (first | exact trivial | refine ⟨rfl, ?_⟩)) ⟨by omega, hN, hE⟩ ?_
    rintro ⟨j, vs⟩ w2 ⟨hj, hN, hE2⟩
    dsimp only at hj hN
    have hlen := hN.len
    rw [turnP_len] at hlen
    (repeat (first | (apply WL.pure; rfl; rfl; rfl) | (apply WL.nil) | (apply EX.thenN) | (apply CW.seq) | (apply CW.region)))
    refine CW.cond rfl (fun h1 => ?_) (fun h1 => ?_) <;> simp at h1
    · have hrow' : Sl w2 F lo lc g[n] := hrow.mono (fun b hb => (hE2.block b (hF b hb)).trans (hE.block b (hF b hb)).symm) fun _ h => h
      have hk := hg _ (List.getElem_mem hng) _ (List.getElem_mem h1)
      obtain ⟨k, ek⟩ := Int.eq_ofNat_of_zero_le hk.1
      have hkl : k < g.length := by omega
      have hkv : k < vs.length := by omega
      have hj' : j < (g.getD n []).length := by rw [erow]; exact h1
      have ek' : (g.getD n [])[j] = (k : Int) := by simp only [erow]; exact ek
      (repeat (first | (apply EX.thenN) | (apply CW.seq) | (apply CW.region) | (apply CW.block) | (apply CW.skip)))
      refine WL.elemI rfl rfl rfl rfl rfl hrow' h1 ek (fun _ => rfl) (fun q => ?_)
      (repeat (first | (apply WL.pure; rfl; rfl; rfl) | (apply WL.nil) | (apply EX.thenN) | (apply CW.seq) | (apply CW.region)))
      refine WL.elemON rfl rfl rfl rfl rfl hN.out hkv (fun _ => rfl) (fun u q hu => ?_)
      obtain ⟨rfl, _⟩ := hu.raw
      have hin := hN.inn k hkv (by rw [turnP_len]; exact hkl)
      rw [turnP_get] at hin
      have htl := trow_len g n j k
      obtain ⟨io, ic, hiv⟩ := hin.val
      refine WL.lenO rfl rfl rfl hin ?_
      (repeat (apply WL.pure; rfl; rfl; rfl))
      apply WL.nil
      apply EX.thenN
      generalize hrw : trow g n j k = row at *
      refine CW.cut [(3, sv), (4, .int .i64 n), (7, .int .i64 k), (12, .slice ao g.length cap), (13, .int .i64 g.length), (14, .int .i64 n), (19, .slice lo g[n].length lc), (20, .int .i64 g[n].length), (21, .int .i64 j), (43, .bool (!((g.getD n []).take j).contains (k : Int)))] ?_ ?_
      · (repeat (first | (apply WL.pure; rfl; rfl; rfl) | (apply CW.region)))
        (refine WL.lookG rfl rfl (fun h => ?_) (fun h => ?_)) <;> simp at h
        · have hc : ((g.getD n []).take j).contains (k : Int) = false := trow_nil (by rw [hrw]; simp [h])
          rw [hc]
          (repeat (first | (apply WL.pure; rfl; rfl; rfl) | (apply WL.pass; rfl; rfl)))
          exact WL.nil (EX.cut (by repeat (first | exact trivial | refine ⟨rfl, ?_⟩)))
        · have hpos : 0 < row.length := by cases row with | nil => exact absurd rfl h | cons x r => simp
          (repeat (apply WL.pure; rfl; rfl; rfl))
          refine WL.elemON rfl rfl rfl rfl rfl hN.out hkv (fun _ => rfl) (fun u q hu => ?_)
          obtain ⟨rfl, _⟩ := hu.raw
          (repeat (first | (apply WL.sub'; rfl; rfl; rfl; rfl; omega; omega) | (apply WL.pure; rfl; rfl; rfl)))
          refine WL.elemO rfl rfl rfl rfl rfl hin (by omega) (by omega) (fun _ => rfl) (fun u q hu => ?_)
          obtain rfl := hu.int
          have hlast := trow_last (g := g) (n := n) (j := j) (m := k) (by rw [hrw]; exact hpos)
          simp only [hrw] at hlast
          have ei : ((row.length : Int) - 1).toNat = row.length - 1 := by omega
          have e : (row[((row.length : Int) - 1).toNat]'(by omega) != (n : Int)) = (!((g.getD n []).take j).contains (k : Int)) := by
            simp only [ei]
            cases hc : ((g.getD n []).take j).contains (k : Int)
            · rw [hc] at hlast; simpa [bne_iff_ne] using hlast
            · rw [hc] at hlast; simpa [bne_iff_ne] using hlast
          rw [← e]
          (repeat (apply WL.pure; rfl; rfl; rfl))
          exact WL.nil (EX.cut (by repeat (first | exact trivial | refine ⟨rfl, ?_⟩)))
      · refine CW.cond rfl (fun hc => ?_) (fun hc => ?_)
        · have hc : ((g.getD n []).take j).contains (k : Int) = false := by simpa using hc
          (repeat (first | (apply WL.pure; rfl; rfl; rfl) | (apply CW.region)))
          refine WL.elemON rfl rfl rfl rfl rfl hN.out hkv (fun _ => rfl) (fun u q hu => ?_)
          obtain ⟨rfl, _⟩ := hu.raw
          (repeat (apply WL.pure; rfl; rfl; rfl))
          refine WL.app1 (F := Non) (yv := (n : Int)) rfl rfl (fun _ => rfl) rfl rfl (fun _ => rfl) hin (Rd.mkInt _ _ _) hE2.size (fun _ h => h.elim) (by decide) (by unfold maxLen; omega) (by omega) (fun v' w3 p ho3 hg3 hnb => ?_)
          skip
          have hmid := hN.mid hkv hg3
          refine WL.setN (u := v') (yv := ⟨v'⟩) rfl rfl rfl rfl hmid hkv (fun _ => rfl) (fun _ => rfl) (Rd.mkRaw _ _ _ ?_) (fun w4 q ho4 hg4 => ?_)
          · obtain ⟨a, b, rfl⟩ := ho3.val; rfl
          have hN4 := hN.set hkv ho3 hg3 hnb ho4 hg4
          rw [← hrw, turnP_set hj' ek' hkl hc] at hN4
          have hE4 : Ext w0 w4 := (hE2.grown hg3 hE2.size (fun b hb => (hin.lt b hb).1)).grown hg4 (Nat.le_trans hE2.size hg3.size) (fun b hb => (hN.out.lt b hb).1)
          (repeat (first | (apply WL.add; rfl; rfl; rfl; rfl; omega; omega) | (apply WL.pure; rfl; rfl; rfl) | (apply WL.nil) | (apply EX.thenN) | (apply CW.region) | (apply EX.inN)))
          exact EX.back (j + 1, vs.set k ⟨v'⟩) (by repeat (first | exact trivial | refine ⟨rfl, ?_⟩)) ⟨h1, hN4, hE4⟩ (by simp only; omega)
        · have hc : ((g.getD n []).take j).contains (k : Int) = true := by simpa using hc
          (repeat (first | (apply WL.add; rfl; rfl; rfl; rfl; omega; omega) | (apply WL.pure; rfl; rfl; rfl) | (apply WL.nil) | (apply EX.thenN) | (apply CW.region) | (apply EX.inN) | (apply CW.skip)))
          rw [turnP_same hj' ek' hc] at hN
          exact EX.back (j + 1, vs) (by repeat (first | exact trivial | refine ⟨rfl, ?_⟩)) ⟨h1, hN, hE2⟩ (by simp only; omega)
    · have : j = g[n].length := by omega
      subst this
      rw [← erow, ← turnP_next] at hN
      (repeat (first | (apply WL.add; rfl; rfl; rfl; rfl; omega; omega) | (apply WL.pure; rfl; rfl; rfl) | (apply WL.nil) | (apply EX.thenN) | (apply CW.region) | (apply EX.inN) | (apply CW.exit) | (apply EX.thenX) | (apply EX.inX)))
      exact EX.back (n + 1, vs) (by repeat (first | exact trivial | refine ⟨rfl, ?_⟩)) ⟨hng, hN, hE2⟩ (by simp only; omega)
  · simp at hng
    have : n = g.length := by omega
    subst this
    (repeat (first | (apply WL.pure; rfl; rfl; rfl) | (apply WL.nil) | (apply EX.thenN) | (apply CW.seq) | (apply CW.region) | (apply CW.exit) | (apply EX.thenX) | (apply EX.inX) | (apply CW.ret)))
    exact EX.ret1 rfl rfl ⟨vs, hN, hE⟩

theorem EX.ret3 {P : Program} {n : Nat} {σ : Sg} {w : World} {fn : Func} {t u s : Nat} {v x y : Value} {R : Value → World → Prop} (hr : fn.results = #[.tmp t, .tmp u, .tmp s]) (ht : fnd σ t = some v) (hu : fnd σ u = some x) (hs : fnd σ s = some y) (h : R (.tuple ⟨[v, x, y]⟩) w) :
    EX (bodyPost P fn fun e w' => ∃ v, e = .returned v ∧ R v w') .ret n σ w := by
  unfold EX; intro a ha
  exact bodyPost_ret (results_tmp3 hr _ _ _) ha.defers ⟨_, by rw [ha.slot t v ht, ha.slot u x hu, ha.slot s y hs], h⟩

theorem farN_next {to : List Bool} {n : Nat} (h : n < to.length) : farN to (n + 1) = farN to n ++ (if to[n] = true then [(n : Int)] else []) := by
  unfold farN
  rw [List.range_succ, List.filter_append, List.map_append]
  have : to.getD n false = to[n] := by rw [List.getD_eq_getElem?_getD, List.getElem?_eq_getElem h]; rfl
  cases e : to[n] <;> rw [e] at this <;> simp at this <;> simp [this]
theorem getD_setI {d : List Int} {n k : Nat} {v : Int} (h : n < d.length) : (d.set n v).getD k 0 = if n = k then v else d.getD k 0 := by
  rw [List.getD_eq_getElem?_getD, List.getD_eq_getElem?_getD, List.getElem?_set]
  split
  · rename_i e; simp [h]
  · rfl
def turnF (g : List (List Int)) : List (List Int) := if chkG g = 0 then turnL g else []
theorem Turn_ok (w0 : World) {ao : Option Addr} {cap : Nat} {g : List (List Int)} (hs : Sl w0 (Old w0) ao cap g) :
    Rt Try.prog 186 [.slice ao g.length cap].toArray w0 fun r w' => ∃ v vs, r = .tuple ⟨[v, .int .i64 (chkG g)]⟩ ∧ OwnN w' w0.heap.size 22 3 v vs (turnF g) ∧ Ext w0 w' := by
  refine Rt.enter1 Try.func186 Try.ntmps186 rfl rfl ?_
  (repeat (first | (apply WL.pure; rfl; rfl; rfl) | (apply WL.nil) | (apply EX.thenN) | (apply CW.seq) | (apply CW.region)))
  refine WL.call rfl rfl rfl (chk_ok w0 hs) ?_
  rintro v w1 ⟨rfl, hE1⟩
  unfold turnF
  (repeat (first | (apply WL.pure; rfl; rfl; rfl) | (apply WL.nil) | (apply EX.thenN) | (apply CW.seq) | (apply CW.region)))
  refine CW.cond rfl (fun h => ?_) (fun h => ?_)
  · have hc : chkG g ≠ 0 := by simpa using h
    (repeat (first | (apply WL.pure; rfl; rfl; rfl) | (apply WL.nil) | (apply EX.thenN) | (apply CW.seq) | (apply CW.region) | (apply CW.ret) | (apply EX.thenR)))
    exact EX.ret2 rfl rfl rfl ⟨.slice none 0 0, [], rfl, by rw [if_neg hc]; exact OwnN.nil, hE1⟩
  · have hc : chkG g = 0 := by simpa using h
    obtain ⟨hg, hg2⟩ := chkG_ok hc
    (repeat (first | (apply WL.pure; rfl; rfl; rfl) | (apply EX.thenN) | (apply CW.seq) | (apply CW.region) | (apply CW.skip)))
    refine WL.call rfl rfl rfl (turn_ok w1 (hs.up hE1) (fun _ h => h) hg (by omega)) ?_
    rintro v w2 ⟨vs, hN, hE2⟩
    (repeat (first | (apply WL.pure; rfl; rfl; rfl) | (apply WL.nil) | (apply EX.thenN) | (apply CW.ret)))
    exact EX.ret2 rfl rfl rfl ⟨v, vs, by rw [hc], by rw [if_pos hc]; exact hN.low hE1.size, hE1.trans hE2⟩
end Go.Proofs.Ythojdcbpglipeaa
