import Derived.Test.YtllpfgcngokhnaaPtTableauJoins7
/-
  Package scc: turn, far, Way, Turn.
-/
set_option linter.unusedVariables false
set_option linter.unusedSimpArgs false
namespace Go.Proofs.Ytllpfgcngokhnaa
open Go.RowKit

theorem turn_ok (w0 : World) {F : Nat → Prop} {ao : Option Addr} {cap : Nat} {g : List (List Int)} (hs : Sl w0 F ao cap g) (hF : ∀ b, F b → b < w0.heap.size) (hg : okG g) (hl : g.length ≤ 1099511627776) :
    Rt Try.prog 147 [.slice ao g.length cap].toArray w0 fun v w' => ∃ vs, OwnN w' w0.heap.size 22 3 v vs (turnL g) ∧ Ext w0 w' := by
  refine Rt.enter1 Try.func147 Try.ntmps147 rfl rfl ?_
  (repeat (first | (apply WL.pure; rfl; rfl; rfl) | (apply WL.nil) | (apply EX.thenN) | (apply CW.seq) | (apply CW.region) | (apply WL.lenS; rfl; rfl; rfl)))
  refine WL.make (α := Raw) rfl rfl rfl rfl (by omega) (by unfold maxLen; omega) (fun w1 ho1 hg1 => ?_)
  have hE1 : Ext w0 w1 := (Below.refl _ _).grown hg1 (Nat.le_refl _) (fun k h => by cases h)
  generalize hsv : Value.slice (some ⟨w0.heap.size, 0, none⟩) g.length g.length = sv at *
  have hN1 : OwnN w1 w0.heap.size 22 3 sv _ (List.replicate g.length ([] : List Int)) := OwnN.made ho1
  rw [← turnP_start] at hN1
  (repeat (first | (apply WL.pure; rfl; rfl; rfl) | (apply WL.nil) | (apply EX.thenN) | (apply CW.seq) | (apply CW.region) | (apply WL.lenS; rfl; rfl; rfl) | (apply CW.block)))
  refine CW.loop (S := Nat × List Raw) (fun s => [(3, sv), (12, .slice ao g.length cap), (13, .int .i64 g.length), (14, .int .i64 s.1)])
    (fun s w => s.1 ≤ g.length ∧ OwnN w w0.heap.size 22 3 sv s.2 (turnP g s.1 0) ∧ Ext w0 w) (fun s => g.length - s.1) (0, _) (by repeat (first | exact trivial | refine ⟨rfl, ?_⟩)) ⟨by omega, hN1, hE1⟩ ?_
  rintro ⟨n, vs⟩ w ⟨hn, hN, hE⟩
  dsimp only at hn hN
  (repeat (first | (apply WL.pure; rfl; rfl; rfl) | (apply WL.nil) | (apply EX.thenN) | (apply CW.seq) | (apply CW.region)))
  refine CW.cond rfl (fun hng => ?_) (fun hng => ?_)
  · simp at hng
    (repeat (first | (apply WL.pure; rfl; rfl; rfl) | (apply EX.thenN) | (apply CW.seq) | (apply CW.region) | (apply CW.block) | (apply CW.skip)))
    have hs' : Sl w F ao cap g := hs.mono (fun b hb => hE.block b (hF b hb)) fun _ h => h
    refine WL.elemN rfl rfl rfl rfl rfl hs' hng (fun _ => rfl) (fun u q hu => ?_)
    obtain ⟨lo, lc, rfl, hrow⟩ := hu.sl
    have hrl := hrow.len63
    dsimp only at hrl hrow
    have erow : g.getD n [] = g[n] := by rw [List.getD_eq_getElem?_getD, List.getElem?_eq_getElem hng]; rfl
    (repeat (first | (apply WL.pure; rfl; rfl; rfl) | (apply WL.nil) | (apply EX.thenN) | (apply CW.seq) | (apply CW.region) | (apply WL.lenS; rfl; rfl; rfl) | (apply CW.block)))
    refine CW.loop (S := Nat × List Raw) (fun s => [(3, sv), (4, .int .i64 n), (12, .slice ao g.length cap), (13, .int .i64 g.length), (14, .int .i64 n), (19, .slice lo g[n].length lc), (20, .int .i64 g[n].length), (21, .int .i64 s.1)])
      (fun s w => s.1 ≤ g[n].length ∧ OwnN w w0.heap.size 22 3 sv s.2 (turnP g n s.1) ∧ Ext w0 w) (fun s => g[n].length - s.1) (0, vs) (by repeat (first | exact trivial | refine ⟨rfl, ?_⟩)) ⟨by omega, hN, hE⟩ ?_
    rintro ⟨j, vs⟩ w2 ⟨hj, hN, hE2⟩
    dsimp only at hj hN
    have hlen := hN.len
    rw [turnP_len] at hlen
    (repeat (first | (apply WL.pure; rfl; rfl; rfl) | (apply WL.nil) | (apply EX.thenN) | (apply CW.seq) | (apply CW.region)))
    refine CW.cond rfl (fun h1 => ?_) (fun h1 => ?_) <;> simp at h1
    · have hrow' : Sl w2 F lo lc g[n] := hrow.mono (fun b hb => (hE2.block b (hF b hb)).trans (hE.block b (hF b hb)).symm) fun _ h => h
      have hk := hg _ (List.getElem_mem hng) _ (List.getElem_mem h1)
      obtain ⟨k, ek⟩ := Int.eq_ofNat_of_zero_le hk.1
      have hkl : k < g.length := by omega
      have hkv : k < vs.length := by omega
      have hj' : j < (g.getD n []).length := by rw [erow]; exact h1
      have ek' : (g.getD n [])[j] = (k : Int) := by simp only [erow]; exact ek
      (repeat (first | (apply EX.thenN) | (apply CW.seq) | (apply CW.region) | (apply CW.block) | (apply CW.skip)))
      refine WL.elemI rfl rfl rfl rfl rfl hrow' h1 ek (fun _ => rfl) (fun q => ?_)
      (repeat (first | (apply WL.pure; rfl; rfl; rfl) | (apply WL.nil) | (apply EX.thenN) | (apply CW.seq) | (apply CW.region)))
      refine WL.elemON rfl rfl rfl rfl rfl hN.out hkv (fun _ => rfl) (fun u q hu => ?_)
      obtain ⟨rfl, _⟩ := hu.raw
      have hin := hN.inn k hkv (by rw [turnP_len]; exact hkl)
      rw [turnP_get] at hin
      have htl := trow_len g n j k
      obtain ⟨io, ic, hiv⟩ := hin.val
      refine WL.lenO rfl rfl rfl hin ?_
      (repeat (apply WL.pure; rfl; rfl; rfl))
      apply WL.nil
      apply EX.thenN
      generalize hrw : trow g n j k = row at *
      refine CW.cut [(3, sv), (4, .int .i64 n), (7, .int .i64 k), (12, .slice ao g.length cap), (13, .int .i64 g.length), (14, .int .i64 n), (19, .slice lo g[n].length lc), (20, .int .i64 g[n].length), (21, .int .i64 j), (43, .bool (!((g.getD n []).take j).contains (k : Int)))] ?_ ?_
      · (repeat (first | (apply WL.pure; rfl; rfl; rfl) | (apply CW.region)))
        (refine WL.lookG rfl rfl (fun h => ?_) (fun h => ?_)) <;> simp at h
        · have hc : ((g.getD n []).take j).contains (k : Int) = false := trow_nil (by rw [hrw]; simp [h])
          rw [hc]
          (repeat (first | (apply WL.pure; rfl; rfl; rfl) | (apply WL.pass; rfl; rfl)))
          exact WL.nil (EX.cut (by repeat (first | exact trivial | refine ⟨rfl, ?_⟩)))
        · have hpos : 0 < row.length := by cases row with | nil => exact absurd rfl h | cons x r => simp
          (repeat (apply WL.pure; rfl; rfl; rfl))
          refine WL.elemON rfl rfl rfl rfl rfl hN.out hkv (fun _ => rfl) (fun u q hu => ?_)
          obtain ⟨rfl, _⟩ := hu.raw
          (repeat (first | (apply WL.sub'; rfl; rfl; rfl; rfl; omega; omega) | (apply WL.pure; rfl; rfl; rfl)))
          refine WL.elemO rfl rfl rfl rfl rfl hin (by omega) (by omega) (fun _ => rfl) (fun u q hu => ?_)
          obtain rfl := hu.int
          have hlast := trow_last (g := g) (n := n) (j := j) (m := k) (by rw [hrw]; exact hpos)
          simp only [hrw] at hlast
          have ei : ((row.length : Int) - 1).toNat = row.length - 1 := by omega
          have e : (row[((row.length : Int) - 1).toNat]'(by omega) != (n : Int)) = (!((g.getD n []).take j).contains (k : Int)) := by
            simp only [ei]
            cases hc : ((g.getD n []).take j).contains (k : Int)
            · rw [hc] at hlast; simpa [bne_iff_ne] using hlast
            · rw [hc] at hlast; simpa [bne_iff_ne] using hlast
          rw [← e]
          (repeat (apply WL.pure; rfl; rfl; rfl))
          exact WL.nil (EX.cut (by repeat (first | exact trivial | refine ⟨rfl, ?_⟩)))
      · refine CW.cond rfl (fun hc => ?_) (fun hc => ?_)
        · have hc : ((g.getD n []).take j).contains (k : Int) = false := by simpa using hc
          (repeat (first | (apply WL.pure; rfl; rfl; rfl) | (apply CW.region)))
          refine WL.elemON rfl rfl rfl rfl rfl hN.out hkv (fun _ => rfl) (fun u q hu => ?_)
          obtain ⟨rfl, _⟩ := hu.raw
          (repeat (apply WL.pure; rfl; rfl; rfl))
          refine WL.app1 (F := Non) (yv := (n : Int)) rfl rfl (fun _ => rfl) rfl rfl (fun _ => rfl) hin (Rd.mkInt _ _ _) hE2.size (fun _ h => h.elim) (by decide) (by unfold maxLen; omega) (by omega) (fun v' w3 p ho3 hg3 hnb => ?_)
          skip
          have hmid := hN.mid hkv hg3
          refine WL.setN (u := v') (yv := ⟨v'⟩) rfl rfl rfl rfl hmid hkv (fun _ => rfl) (fun _ => rfl) (Rd.mkRaw _ _ _ ?_) (fun w4 q ho4 hg4 => ?_)
          · obtain ⟨a, b, rfl⟩ := ho3.val; rfl
          have hN4 := hN.set hkv ho3 hg3 hnb ho4 hg4
          rw [← hrw, turnP_set hj' ek' hkl hc] at hN4
          have hE4 : Ext w0 w4 := (hE2.grown hg3 hE2.size (fun b hb => (hin.lt b hb).1)).grown hg4 (Nat.le_trans hE2.size hg3.size) (fun b hb => (hN.out.lt b hb).1)
          (repeat (first | (apply WL.add; rfl; rfl; rfl; rfl; omega; omega) | (apply WL.pure; rfl; rfl; rfl) | (apply WL.nil) | (apply EX.thenN) | (apply CW.region) | (apply EX.inN)))
          exact EX.back (j + 1, vs.set k ⟨v'⟩) (by repeat (first | exact trivial | refine ⟨rfl, ?_⟩)) ⟨h1, hN4, hE4⟩ (by simp only; omega)
        · have hc : ((g.getD n []).take j).contains (k : Int) = true := by simpa using hc
          (repeat (first | (apply WL.add; rfl; rfl; rfl; rfl; omega; omega) | (apply WL.pure; rfl; rfl; rfl) | (apply WL.nil) | (apply EX.thenN) | (apply CW.region) | (apply EX.inN) | (apply CW.skip)))
          rw [turnP_same hj' ek' hc] at hN
          exact EX.back (j + 1, vs) (by repeat (first | exact trivial | refine ⟨rfl, ?_⟩)) ⟨h1, hN, hE2⟩ (by simp only; omega)
    · have : j = g[n].length := by omega
      subst this
      rw [← erow, ← turnP_next] at hN
      (repeat (first | (apply WL.add; rfl; rfl; rfl; rfl; omega; omega) | (apply WL.pure; rfl; rfl; rfl) | (apply WL.nil) | (apply EX.thenN) | (apply CW.region) | (apply EX.inN) | (apply CW.exit) | (apply EX.thenX) | (apply EX.inX)))
      exact EX.back (n + 1, vs) (by repeat (first | exact trivial | refine ⟨rfl, ?_⟩)) ⟨hng, hN, hE2⟩ (by simp only; omega)
  · simp at hng
    have : n = g.length := by omega
    subst this
    (repeat (first | (apply WL.pure; rfl; rfl; rfl) | (apply WL.nil) | (apply EX.thenN) | (apply CW.seq) | (apply CW.region) | (apply CW.exit) | (apply EX.thenX) | (apply EX.inX) | (apply CW.ret)))
    exact EX.ret1 rfl rfl ⟨vs, hN, hE⟩

theorem EX.ret3 {P : Program} {n : Nat} {σ : Sg} {w : World} {fn : Func} {t u s : Nat} {v x y : Value} {R : Value → World → Prop} (hr : fn.results = #[.tmp t, .tmp u, .tmp s]) (ht : fnd σ t = some v) (hu : fnd σ u = some x) (hs : fnd σ s = some y) (h : R (.tuple ⟨[v, x, y]⟩) w) :
    EX (bodyPost P fn fun e w' => ∃ v, e = .returned v ∧ R v w') .ret n σ w := by
  unfold EX; intro a ha
  exact bodyPost_ret (results_tmp3 hr _ _ _) ha.defers ⟨_, by rw [ha.slot t v ht, ha.slot u x hu, ha.slot s y hs], h⟩

theorem farN_next {to : List Bool} {n : Nat} (h : n < to.length) : farN to (n + 1) = farN to n ++ (if to[n] = true then [(n : Int)] else []) := by
  unfold farN
  rw [List.range_succ, List.filter_append, List.map_append]
  have : to.getD n false = to[n] := by rw [List.getD_eq_getElem?_getD, List.getElem?_eq_getElem h]; rfl
  cases e : to[n] <;> rw [e] at this <;> simp at this <;> simp [this]
theorem getD_setI {d : List Int} {n k : Nat} {v : Int} (h : n < d.length) : (d.set n v).getD k 0 = if n = k then v else d.getD k 0 := by
  rw [List.getD_eq_getElem?_getD, List.getD_eq_getElem?_getD, List.getElem?_set]
  split
  · rename_i e; simp [h]
  · rfl
def turnF (g : List (List Int)) : List (List Int) := if chkG g = 0 then turnL g else []
theorem Turn_ok (w0 : World) {ao : Option Addr} {cap : Nat} {g : List (List Int)} (hs : Sl w0 (Old w0) ao cap g) :
    Rt Try.prog 116 [.slice ao g.length cap].toArray w0 fun r w' => ∃ v vs, r = .tuple ⟨[v, .int .i64 (chkG g)]⟩ ∧ OwnN w' w0.heap.size 22 3 v vs (turnF g) ∧ Ext w0 w' := by
  refine Rt.enter1 Try.func116 Try.ntmps116 rfl rfl ?_
  (repeat (first | (apply WL.pure; rfl; rfl; rfl) | (apply WL.nil) | (apply EX.thenN) | (apply CW.seq) | (apply CW.region)))
  refine WL.call rfl rfl rfl (chk_ok w0 hs) ?_
  rintro v w1 ⟨rfl, hE1⟩
  unfold turnF
  (repeat (first | (apply WL.pure; rfl; rfl; rfl) | (apply WL.nil) | (apply EX.thenN) | (apply CW.seq) | (apply CW.region)))
  refine CW.cond rfl (fun h => ?_) (fun h => ?_)
  · have hc : chkG g ≠ 0 := by simpa using h
    (repeat (first | (apply WL.pure; rfl; rfl; rfl) | (apply WL.nil) | (apply EX.thenN) | (apply CW.seq) | (apply CW.region) | (apply CW.ret) | (apply EX.thenR)))
    exact EX.ret2 rfl rfl rfl ⟨.slice none 0 0, [], rfl, by rw [if_neg hc]; exact OwnN.nil, hE1⟩
  · have hc : chkG g = 0 := by simpa using h
    obtain ⟨hg, hg2⟩ := chkG_ok hc
    (repeat (first | (apply WL.pure; rfl; rfl; rfl) | (apply EX.thenN) | (apply CW.seq) | (apply CW.region) | (apply CW.skip)))
    refine WL.call rfl rfl rfl (turn_ok w1 (hs.up hE1) (fun _ h => h) hg (by omega)) ?_
    rintro v w2 ⟨vs, hN, hE2⟩
    (repeat (first | (apply WL.pure; rfl; rfl; rfl) | (apply WL.nil) | (apply EX.thenN) | (apply CW.ret)))
    exact EX.ret2 rfl rfl rfl ⟨v, vs, by rw [hc], by rw [if_pos hc]; exact hN.low hE1.size, hE1.trans hE2⟩
/-- far: its numbers are those of farL -/
theorem far_ok (w0 : World) {F : Nat → Prop} {ao lo : Option Addr} {cap lc : Nat} {g : List (List Int)} {to : List Bool} (hs : Sl w0 F ao cap g) (ht : Sl w0 F lo lc to) (hF : ∀ b, F b → b < w0.heap.size) (hg : okG g) (hl : g.length ≤ 1099511627776) (htl : to.length = g.length) :
    Rt Try.prog 182 [.slice ao g.length cap, .slice lo to.length lc].toArray w0 fun v w' => Own w' w0.heap.size 3 Non v (farL g to) ∧ Ext w0 w' := by
  refine Rt.enter2 Try.func182 Try.ntmps182 rfl rfl ?_
  (repeat (first | (apply WL.pure; rfl; rfl; rfl) | (apply WL.nil) | (apply EX.thenN) | (apply CW.seq) | (apply CW.region)))
  refine WL.call rfl rfl rfl (turn_ok w0 hs hF hg hl) ?_
  rintro bv w1 ⟨bs, hN1, hE1⟩
  (repeat (first | (apply WL.pure; rfl; rfl; rfl) | (apply WL.nil) | (apply EX.thenN) | (apply CW.seq) | (apply CW.region) | (apply WL.lenS; rfl; rfl; rfl)))
  refine WL.make (α := Int) rfl rfl rfl rfl (by omega) (by unfold maxLen; omega) (fun w2 ho2 hg2 => ?_)
  have hE2 : Ext w1 w2 := (Below.refl _ _).grown hg2 (Nat.le_refl _) (fun k h => by cases h)
  have hN2 := hN1.ext hE2
  have hE12 := hE1.trans hE2
  generalize hdv : Value.slice (some ⟨w1.heap.size, 0, none⟩) g.length g.length = dv at *
  have hdb : dv.ownBlock = some w1.heap.size := by rw [← hdv]; rfl
  have hbb : ∀ b, OwnN.blk bv bs b → b < w1.heap.size := fun b hb => (hN1.lt b hb).2
  (repeat (first | (apply WL.pure; rfl; rfl; rfl) | (apply WL.nil) | (apply EX.thenN) | (apply CW.seq) | (apply CW.region) | (apply WL.lenS; rfl; rfl; rfl) | (apply CW.block)))
  refine CW.loop (S := Nat × List Int × Value) (fun s => [(5, bv), (6, dv), (7, s.2.2), (18, .slice lo to.length lc), (19, .int .i64 to.length), (20, .int .i64 s.1)])
    (fun s w => s.1 ≤ to.length ∧ s.2.1.length = g.length ∧ (∀ k, k < s.1 → s.2.1.getD k 0 = (farD to).getD k 0) ∧ Own w w1.heap.size 3 Non dv s.2.1 ∧ Own w w1.heap.size 3 Non s.2.2 (farN to s.1) ∧ (∀ b, s.2.2.ownBlock = some b → b ≠ w1.heap.size) ∧ Ext w1 w) (fun s => to.length - s.1) (0, List.replicate g.length 0, .slice none 0 0) (by repeat (first | exact trivial | refine ⟨rfl, ?_⟩)) ⟨by omega, by simp, fun k hk => absurd hk (by simp), ho2, by simpa [farN] using Own.nil, fun b hb => by simp [Value.ownBlock] at hb, hE2⟩ ?_
  rintro ⟨n, d, nv⟩ w ⟨hn, hdl, hpre, hod, hon, hne, hE⟩
  dsimp only at hn hdl hpre hod hon hne
  have hnl := farN_len to n
  (repeat (first | (apply WL.pure; rfl; rfl; rfl) | (apply WL.nil) | (apply EX.thenN) | (apply CW.seq) | (apply CW.region)))
  refine CW.cond rfl (fun hlt => ?_) (fun hlt => ?_)
  · simp at hlt
    have hs0 : w0.heap.size ≤ w1.heap.size := hE1.size
    have ht' : Sl w F lo lc to := ht.mono (fun b hb => (hE1.trans hE).block b (hF b hb)) fun _ h => h
    have eD : ∀ k, k < n + 1 → (d.set n (if to[n] = true then 0 else -1)).getD k 0 = (farD to).getD k 0 := by
      intro k hk
      rw [getD_setI (by omega)]
      split
      · rename_i e
        subst e
        rw [getD_at (by simp [farD]; exact hlt), farD_get]
        rw [List.getD_eq_getElem?_getD, List.getElem?_eq_getElem hlt]; rfl
      · exact hpre k (by omega)
    (repeat (first | (apply WL.pure; rfl; rfl; rfl) | (apply EX.thenN) | (apply CW.seq) | (apply CW.region) | (apply CW.block) | (apply CW.skip)))
    refine WL.elemB rfl rfl rfl rfl rfl ht' hlt rfl (fun _ => rfl) (fun q => ?_)
    (repeat (first | (apply WL.pure; rfl; rfl; rfl) | (apply WL.nil) | (apply EX.thenN) | (apply CW.seq) | (apply CW.region)))
    refine WL.setN (u := .int .i64 (-1)) (yv := (-1 : Int)) rfl rfl rfl rfl hod (by omega) (fun _ => rfl) (fun _ => rfl) (Rd.mkInt _ _ _) (fun w3 q ho3 hg3 => ?_)
    have hE3 : Ext w1 w3 := hE.grown hg3 hE.size (fun b hb => (hod.lt b hb).1)
    have hon3 := hon.keptN hg3 (fun g hg => by rw [hdb]; simpa using hne g hg)
    (repeat (first | (apply WL.pure; rfl; rfl; rfl) | (apply WL.nil) | (apply EX.thenN) | (apply CW.seq) | (apply CW.region)))
    refine CW.cond rfl (fun hb => ?_) (fun hb => ?_)
    · rw [if_pos hb] at eD
      (repeat (first | (apply WL.pure; rfl; rfl; rfl) | (apply CW.seq) | (apply CW.region)))
      refine WL.setN (u := .int .i64 0) (yv := (0 : Int)) rfl rfl rfl rfl ho3 (by rw [List.length_set]; omega) (fun _ => rfl) (fun _ => rfl) (Rd.mkInt _ _ _) (fun w4 q ho4 hg4 => ?_)
      rw [List.set_set] at ho4
      have hE4 : Ext w1 w4 := hE3.grown hg4 hE3.size (fun b hb => (hod.lt b hb).1)
      have hon4 := hon3.keptN hg4 (fun g hg => by rw [hdb]; simpa using hne g hg)
      skip
      apply WL.nil
      apply EX.thenN
      apply CW.region
      (repeat (apply WL.pure; rfl; rfl; rfl))
      refine WL.app1 (F := Non) (yv := (n : Int)) rfl rfl (fun _ => rfl) rfl rfl (fun _ => rfl) hon4 (Rd.mkInt _ _ _) hE4.size (fun _ h => h.elim) (by decide) (by unfold maxLen; omega) (by omega) (fun v' w5 p ho5 hg5 hnb => ?_)
      have hE5 : Ext w1 w5 := hE4.grown hg5 hE4.size (fun b hb => (hon4.lt b hb).1)
      have hd5 := ho4.keptN hg5 (fun g hg e => by rw [hdb] at hg; cases hg; exact hne _ e.symm rfl)
      (repeat (first | (apply WL.add; rfl; rfl; rfl; rfl; omega; omega) | (apply WL.pure; rfl; rfl; rfl) | (apply WL.nil) | (apply EX.thenN) | (apply CW.region) | (apply EX.inN)))
      refine EX.back (n + 1, d.set n 0, v') (by repeat (first | exact trivial | refine ⟨rfl, ?_⟩)) ⟨hlt, by simp [hdl], eD, hd5, ?_, ?_, hE5⟩ (by simp only; omega)
      · dsimp only; rw [farN_next hlt, if_pos hb]; exact ho5
      · intro b hb'
        rcases hnb b hb' with h | h
        · exact hne b h
        · have := (ho4.lt _ hdb).2.1; omega
    · rw [if_neg (by simp [hb])] at eD
      (repeat (first | (apply WL.add; rfl; rfl; rfl; rfl; omega; omega) | (apply WL.pure; rfl; rfl; rfl) | (apply WL.nil) | (apply EX.thenN) | (apply CW.region) | (apply EX.inN) | (apply CW.skip)))
      refine EX.back (n + 1, d.set n (-1), nv) (by repeat (first | exact trivial | refine ⟨rfl, ?_⟩)) ⟨hlt, by simp [hdl], eD, ho3, ?_, hne, hE3⟩ (by simp only; omega)
      dsimp only; rw [farN_next hlt, if_neg (by simp [hb]), List.append_nil]; exact hon3
  · simp at hlt
    have : n = to.length := by omega
    subst this
    have hd0 : d = farD to := by
      apply List.ext_getElem (by rw [hdl]; simp [farD, htl])
      intro k h1 h2
      have := hpre k (by omega)
      rwa [getD_at h1, getD_at h2] at this
    subst hd0
    have hI := FInv.start htl
    have hmeas : (farN to to.length).length + negs (farD to) ≤ 2 * g.length + 2 := by
      have := farD_negs to
      omega
    have hres : ∀ f, (farN to to.length).length + negs (farD to) ≤ f → farGo (turnL g) f (farD to) (farN to to.length) = farL g to := fun f hf => farGo_fuel f _ _ _ hI hf hmeas
    (repeat (first | (apply EX.thenN) | (apply CW.seq) | (apply CW.block) | (apply CW.exit) | (apply EX.thenX) | (apply EX.inX)))
    refine CW.loop (S := List Int × List Int × Value) (fun s => [(5, bv), (6, dv), (7, s.2.2)])
      (fun s w => FInv g to s.1 s.2.1 none ∧ (∀ f, s.2.1.length + negs s.1 ≤ f → farGo (turnL g) f s.1 s.2.1 = farL g to) ∧ s.2.1.length + negs s.1 ≤ 2 * g.length + 2 ∧ Own w w1.heap.size 3 Non dv s.1 ∧ Own w w1.heap.size 3 Non s.2.2 s.2.1 ∧ (∀ b, s.2.2.ownBlock = some b → b ≠ w1.heap.size) ∧ Ext w1 w) (fun s => s.2.1.length + negs s.1) (farD to, farN to to.length, nv) (by repeat (first | exact trivial | refine ⟨rfl, ?_⟩)) ⟨hI, hres, hmeas, hod, hon, hne, hE⟩ ?_
    rintro ⟨d, now, nv⟩ w ⟨hI, hres, hm, hod, hon, hne, hE⟩
    dsimp only at hI hres hm hod hon hne
    (repeat (first | (apply WL.pure; rfl; rfl; rfl) | (apply WL.nil) | (apply EX.thenN) | (apply CW.seq) | (apply CW.region) | (refine WL.lenO rfl rfl rfl (by assumption) ?_)))
    refine CW.cond rfl (fun h0 => ?_) (fun h0 => ?_)
    · simp at h0
      match now, h0 with
      | x :: r, _ =>
      obtain ⟨m, rfl, hmg, hp⟩ := hI.pop
      have hml : m < bs.length := by have := hN1.len; rw [turnL_len] at this; omega
      have hNw := hN1.ext hE
      have hmt : m < (turnL g).length := by rw [turnL_len]; exact hmg
      have erow : (turnL g)[m] = (turnL g).getD m [] := by rw [List.getD_eq_getElem?_getD, List.getElem?_eq_getElem hmt]; rfl
      have hin := hNw.inn m hml hmt
      rw [erow] at hin
      have hrow := (hin.oldN)
      obtain ⟨io, ic, hiv, hrs⟩ := hrow.sl
      have hrl := hrs.len63
      generalize hrw : (turnL g).getD m [] = row at *
      (repeat (first | (apply WL.pure; rfl; rfl; rfl) | (apply EX.thenN) | (apply CW.seq) | (apply CW.region) | (apply CW.block) | (apply CW.skip)))
      refine WL.elemO rfl rfl rfl rfl rfl hon (by omega) (by simp) (fun _ => rfl) (fun u q hu => ?_)
      obtain rfl := hu.int
      simp only [Int.toNat_zero, List.getElem_cons_zero]
      (repeat (first | (apply WL.pure; rfl; rfl; rfl) | (apply WL.nil) | (apply EX.thenN) | (apply CW.seq) | (apply CW.region)))
      refine WL.cutLoO (α := Int) 1 rfl rfl rfl rfl rfl hon (by simp) (fun nv2 hon2 hnb => ?_)
      simp only [List.drop_succ_cons, List.drop_zero] at hon2
      have hne2 : ∀ b, nv2.ownBlock = some b → b ≠ w1.heap.size := fun b hb => hne b (by rw [← hnb]; exact hb)
      (repeat (first | (apply WL.pure; rfl; rfl; rfl) | (apply WL.nil) | (apply EX.thenN) | (apply CW.seq) | (apply CW.region)))
      refine WL.elemON rfl rfl rfl rfl rfl hNw.out hml (fun _ => rfl) (fun u q hu => ?_)
      obtain ⟨rfl, _⟩ := hu.raw
      rw [hiv]
      (repeat (first | (apply WL.pure; rfl; rfl; rfl) | (apply WL.nil) | (apply EX.thenN) | (apply WL.lenS; rfl; rfl; rfl) | (apply CW.block)))
      have hm' : r.length + 1 + negs d ≤ 2 * g.length + 2 := by simpa using hm
      refine CW.loop (S := Nat × List Int × List Int × Value) (fun s => [(5, bv), (6, dv), (7, s.2.2.2), (10, .int .i64 m), (48, .slice io row.length ic), (49, .int .i64 row.length), (50, .int .i64 s.1)])
        (fun s w => s.1 ≤ row.length ∧ (s.2.1, s.2.2.1) = (row.take s.1).foldl (farStep m) (d, r) ∧ FInv g to s.2.1 s.2.2.1 (some (m, s.1)) ∧ s.2.2.1.length + negs s.2.1 = r.length + negs d ∧ Own w w1.heap.size 3 Non dv s.2.1 ∧ Own w w1.heap.size 3 Non s.2.2.2 s.2.2.1 ∧ (∀ b, s.2.2.2.ownBlock = some b → b ≠ w1.heap.size) ∧ Ext w1 w) (fun s => row.length - s.1) (0, d, r, nv2) (by repeat (first | exact trivial | refine ⟨rfl, ?_⟩)) ⟨by omega, rfl, hp, rfl, hod, hon2, hne2, hE⟩ ?_
      rintro ⟨j, d2, now2, nv3⟩ w3 ⟨hj, hfold, hI3, hm3, hod3, hon3, hne3, hE3⟩
      dsimp only at hj hfold hI3 hm3 hod3 hon3 hne3
      (repeat (first | (apply WL.pure; rfl; rfl; rfl) | (apply WL.nil) | (apply EX.thenN) | (apply CW.seq) | (apply CW.region)))
      refine CW.cond rfl (fun h1 => ?_) (fun h1 => ?_)
      · simp at h1
        have hrow3 : Sl w3 (Old w1) io ic row := by
          have := (hN1.inn m hml hmt)
          rw [erow] at this
          obtain ⟨a, b, e1, e2⟩ := this.oldN.sl
          rw [hiv] at e1
          obtain ⟨rfl, _, rfl⟩ := Value.slice.inj e1
          exact e2.at hE3
        have hst := hI3.step (j := j) (k := row[j]) (by rw [hrw]; exact h1) (by simp only [hrw])
        have hfold' : farStep m (d2, now2) row[j] = (row.take (j + 1)).foldl (farStep m) (d, r) := by
          rw [List.take_succ_eq_append_getElem h1, List.foldl_append, ← hfold]; rfl
        have hk : 0 ≤ row[j] ∧ row[j] < g.length := by
          have := turnL_ok g _ (List.getElem_mem hmt) row[j] (by rw [erow]; exact List.getElem_mem h1)
          rwa [turnL_len] at this
        have hmd := (hI3.curd m j rfl).1
        have hmv := (hI3.curd m j rfl).2.1
        have hle := hI3.le m hmd
        obtain ⟨k, ek⟩ := Int.eq_ofNat_of_zero_le hk.1
        rw [ek] at hst hfold'
        have hkd : k < d2.length := by rw [hI3.len]; omega
        (repeat (first | (apply EX.thenN) | (apply CW.seq) | (apply CW.region) | (apply CW.block) | (apply CW.skip)))
        refine WL.elemI rfl rfl rfl rfl rfl hrow3 h1 ek (fun _ => rfl) (fun q => ?_)
        (repeat (first | (apply WL.pure; rfl; rfl; rfl) | (apply WL.nil) | (apply EX.thenN) | (apply CW.seq) | (apply CW.region)))
        refine WL.elemON rfl rfl rfl rfl rfl hod3 hkd (fun _ => rfl) (fun u q hu => ?_)
        obtain rfl := hu.int
        (repeat (first | (apply WL.pure; rfl; rfl; rfl) | (apply WL.nil) | (apply EX.thenN)))
        refine CW.cond rfl (fun h2 => ?_) (fun h2 => ?_)
        · have h2 : d2[k] < 0 := by simpa using h2
          have eS : farStep m (d2, now2) (k : Int) = (d2.set k (d2[m] + 1), now2 ++ [(k : Int)]) := by
            unfold farStep
            simp only [Int.toNat_natCast, getD_at hkd, getD_at hmd]
            rw [if_pos h2]
          rw [eS] at hst hfold'
          dsimp only at hst
          (repeat (first | (apply WL.pure; rfl; rfl; rfl) | (apply CW.seq) | (apply CW.region)))
          refine WL.elemON rfl rfl rfl rfl rfl hod3 hmd (fun _ => rfl) (fun u q hu => ?_)
          obtain rfl := hu.int
          (repeat (apply WL.add; rfl; rfl; rfl; rfl; omega; omega))
          refine WL.setN (u := .int .i64 (d2[m] + 1)) (yv := d2[m] + 1) rfl rfl rfl rfl hod3 hkd (fun _ => rfl) (fun _ => rfl) (Rd.mkInt _ _ _) (fun w4 q ho4 hg4 => ?_)
          have hE4 : Ext w1 w4 := hE3.grown hg4 hE3.size (fun b hb => (hod3.lt b hb).1)
          have hon4 := hon3.keptN hg4 (fun g hg => by rw [hdb]; simpa using hne3 g hg)
          skip
          apply WL.nil
          apply EX.thenN
          apply CW.region
          (repeat (apply WL.pure; rfl; rfl; rfl))
          refine WL.app1 (F := Non) (yv := (k : Int)) rfl rfl (fun _ => rfl) rfl rfl (fun _ => rfl) hon4 (Rd.mkInt _ _ _) hE4.size (fun _ h => h.elim) (by decide) (by unfold maxLen; omega) (by omega) (fun v' w5 p ho5 hg5 hnb5 => ?_)
          have hE5 : Ext w1 w5 := hE4.grown hg5 hE4.size (fun b hb => (hon4.lt b hb).1)
          have hd5 := ho4.keptN hg5 (fun g hg e => by rw [hdb] at hg; cases hg; exact hne3 _ e.symm rfl)
          (repeat (first | (apply WL.add; rfl; rfl; rfl; rfl; omega; omega) | (apply WL.pure; rfl; rfl; rfl) | (apply WL.nil) | (apply EX.thenN) | (apply CW.region) | (apply EX.inN)))
          refine EX.back (j + 1, d2.set k (d2[m] + 1), now2 ++ [(k : Int)], v') (by repeat (first | exact trivial | refine ⟨rfl, ?_⟩)) ⟨h1, hfold', hst.1, by rw [hst.2]; exact hm3, hd5, ho5, ?_, hE5⟩ (by simp only; omega)
          intro b hb'
          rcases hnb5 b hb' with h | h
          · exact hne3 b h
          · have := (ho4.lt _ hdb).2.1; omega
        · have h2 : ¬ d2[k] < 0 := by simpa using h2
          have eS : farStep m (d2, now2) (k : Int) = (d2, now2) := by
            unfold farStep
            simp only [Int.toNat_natCast, getD_at hkd, getD_at hmd]
            rw [if_neg h2]
          rw [eS] at hst hfold'
          (repeat (first | (apply WL.add; rfl; rfl; rfl; rfl; omega; omega) | (apply WL.pure; rfl; rfl; rfl) | (apply WL.nil) | (apply EX.thenN) | (apply CW.region) | (apply EX.inN) | (apply CW.skip)))
          exact EX.back (j + 1, d2, now2, nv3) (by repeat (first | exact trivial | refine ⟨rfl, ?_⟩)) ⟨h1, hfold', hst.1, hm3, hod3, hon3, hne3, hE3⟩ (by simp only; omega)
      · simp at h1
        have : j = row.length := by omega
        subst this
        rw [List.take_length] at hfold
        have hI4 : FInv g to d2 now2 none := FInv.over (by rw [hrw]; exact hI3)
        (repeat (first | (apply EX.inN) | (apply CW.exit) | (apply EX.thenX) | (apply EX.inX)))
        refine EX.back (d2, now2, nv3) (by repeat (first | exact trivial | refine ⟨rfl, ?_⟩)) ⟨hI4, fun f hf => ?_, by simp only; omega, hod3, hon3, hne3, hE3⟩ (by simp only [List.length_cons]; omega)
        have := hres (f + 1) (by simp only [List.length_cons]; dsimp only at hf; omega)
        have e : farGo (turnL g) (f + 1) d ((m : Int) :: r) = farGo (turnL g) f d2 now2 := by rw [farGo, Int.toNat_natCast, hrw, ← hfold]
        rw [e] at this
        exact this
    · have hn0 : now = [] := by simpa using h0
      subst hn0
      have hfin : d = farL g to := by
        have := hres (negs d) (by simp)
        rw [← this]
        cases negs d <;> rfl
      subst hfin
      (repeat (first | (apply WL.pure; rfl; rfl; rfl) | (apply WL.nil) | (apply EX.thenN) | (apply CW.seq) | (apply CW.region) | (apply CW.exit) | (apply EX.thenX) | (apply EX.inX) | (apply CW.ret)))
      exact EX.ret1 rfl rfl ⟨hod.low hE1.size, hE1.trans hE⟩
end Go.Proofs.Ytllpfgcngokhnaa
/-
  Drawn regions in which several changes of memory may come in any order: a bag of operations, each of which only makes new memory. Over any program.
-/
set_option linter.unusedVariables false
set_option linter.unusedSimpArgs false
namespace Go.Proofs.Ytllpfgcngokhnaa
open Go.RowKit

/-- whichever order: all of J come up first, then the order r -/
def bagB (ops : Array Oper) (r : List (Nat × Bool)) : Nat → List Nat → Array Bool → Bool
  | 0, J, listed => J.isEmpty && ordB ops r listed
  | k + 1, J, listed => (Region.ready .any ops listed).all (fun i => J.contains i) && !(Region.ready .any ops listed).isEmpty &&
      (Region.ready .any ops listed).all fun i => bagB ops r k (J.erase i) (listed.setIfInBounds i true)
def ordBagB (ops : Array Oper) (J : List Nat) (r : List (Nat × Bool)) : List (Nat × Bool) → Array Bool → Bool
  | [], listed => bagB ops r J.length J listed
  | (i, true) :: s, listed => (Region.ready .any ops listed).contains i && Region.free .any ops listed i && ordBagB ops J r s (listed.setIfInBounds i true)
  | (i, false) :: s, listed => decide (Region.ready .any ops listed = [i]) && ordBagB ops J r s (listed.setIfInBounds i true)
def bagOk (l : List Oper) (s : List (Nat × Bool)) (J : List Nat) (r : List (Nat × Bool)) : Bool :=
  Region.noSelect l.toArray && decide (s.length + J.length + r.length = l.length) && ordBagB l.toArray J r s (Array.replicate l.length false)

def Never : Exit → Act → World → Prop := fun _ _ _ => False
def wpBag (P : Program) (ops : List Oper) (S : World → Prop) (K : Act → World → Prop) : Nat → List Nat → Act → World → Prop
  | 0, _, a, w => K a w
  | k + 1, J, a, w => ∀ i ∈ J, ∃ o, ops[i]? = some o ∧ Region.wanted o (yielded ops.toArray a.tmps) = true ∧ o.wp P a w (fun a' w' => S w' ∧ wpBag P ops S K k (J.erase i) a' w') Never

theorem wp_exits {P : Program} {o : Oper} {a : Act} {w : World} {K : Act → World → Prop} {Q Q' : Exit → Act → World → Prop} (hq : ∀ e a w, e ≠ .normal → Q e a w → Q' e a w) (h : o.wp P a w K Q) : o.wp P a w K Q' := by
  unfold Oper.wp at *
  generalize (execOp a.eval o).run P w = r at *
  cases r with
  | ok k w' =>
    cases k <;> simp only [Oper.upon] at h ⊢ <;> first
      | exact h
      | (refine Calls.mono h (fun e w'' he => ?_); cases e <;> first | exact he | exact hq _ _ _ (by simp) he | (obtain ⟨a1, w1, hx⟩ := he; exact ⟨a1, w1, hq _ _ _ (by simp) hx⟩))
  | halt x w' => cases x <;> simp only [Oper.upon] at h ⊢ <;> first | exact h | exact hq _ _ _ (by simp) h

theorem wpBag_sound {P : Program} {ops : List Oper} {S : World → Prop} {Q : Act → World → Prop} (hs : Region.noSelect ops.toArray = true) (r : List (Nat × Bool)) :
    ∀ (k : Nat) (J : List Nat) (listed : Array Bool) (a : Act) (w : World), bagB ops.toArray r k J listed = true → S w → wpBag P ops S (wpHL P ops S Q r) k J a w → wpAnyH P .any ops.toArray (fun e a w => e = .normal ∧ Q a w) S (r.length + k) listed a w
  | 0, J, listed, a, w, hB, hS, h => by
    simp only [bagB, Bool.and_eq_true] at hB
    exact wpHL_sound hs r _ _ _ hB.2 hS h
  | k + 1, J, listed, a, w, hB, hS, h => by
    simp only [bagB, Bool.and_eq_true, List.all_eq_true, Bool.not_eq_true', List.isEmpty_eq_false_iff] at hB
    obtain ⟨⟨hin, hne⟩, hrec⟩ := hB
    refine wpAnyH_all rfl hne ?_
    intro i hi
    obtain ⟨o, ho, hw, hwp⟩ := h i (by simpa using hin i hi)
    unfold wpOp
    have ho' : ops.toArray[i]? = some o := by simpa using ho
    simp only [ho', hw, if_true]
    refine .inl (Oper.wp_mono (fun a' w' h' => ⟨h'.1, wpBag_sound hs r k (J.erase i) _ _ _ (hrec i hi) h'.1 h'.2⟩) (wp_exits (fun e a w _ hf => hf.elim) hwp))

theorem wpHLBag_sound {P : Program} {ops : List Oper} {S : World → Prop} {Q : Act → World → Prop} (hs : Region.noSelect ops.toArray = true) (J : List Nat) (r : List (Nat × Bool)) :
    ∀ (s : List (Nat × Bool)) (listed : Array Bool) (a : Act) (w : World), ordBagB ops.toArray J r s listed = true → S w → wpHL P ops S (fun a w => S w ∧ wpBag P ops S (wpHL P ops S Q r) J.length J a w) s a w → wpAnyH P .any ops.toArray (fun e a w => e = .normal ∧ Q a w) S (r.length + J.length + s.length) listed a w
  | [], listed, a, w, hB, hS, h => wpBag_sound hs r _ _ _ _ _ hB hS h.2
  | (i, true) :: s, listed, a, w, hB, hS, ⟨o, v, ho, hy, h⟩ => by
    simp only [ordBagB, Bool.and_eq_true] at hB
    exact wpAnyH_take (by simpa using ho) hs hB.1.2 hB.1.1 (fun _ _ _ h => by cases h.1) hy hS (wpHLBag_sound hs J r s _ _ _ hB.2 hS h)
  | (i, false) :: s, listed, a, w, hB, hS, ⟨o, ho, h⟩ => by
    simp only [ordBagB, Bool.and_eq_true, decide_eq_true_eq] at hB
    refine wpAnyH_all hB.1 (by simp) ?_
    intro j hj
    have hji : j = i := by simpa using hj
    subst hji
    have ho' : ops.toArray[j]? = some o := by simpa using ho
    unfold wpOp
    simp only [ho']
    split
    · rename_i hw
      rw [if_pos hw] at h
      exact .inl (Oper.wp_mono (fun a' w' h' => ⟨h'.1, wpHLBag_sound hs J r s _ _ _ hB.2 h'.1 h'.2⟩) (wp_exits (fun e a w hne hf => absurd hf.1 hne) h))
    · rename_i hw
      rw [if_neg hw] at h
      exact ⟨h.1, wpHLBag_sound hs J r s _ _ _ hB.2 h.1 h.2⟩

/-- one of the bag: its number, its slot, and what is so of its value from then on -/
structure BE where
  i : Nat
  d : Nat
  /-- of the value, the new blocks that came with it, and the world -/
  Φ : Value → (Nat → Prop) → World → Prop
/-- where the bag begins -/
def BagQ (P : Program) (ops : List Oper) (S : World → Prop) (Q : Exit → Act → World → Prop) (J : List Nat) (r : List (Nat × Bool)) : Exit → Act → World → Prop :=
  fun e a w => e = .normal ∧ (S w ∧ wpBag P ops S (wpHL P ops S (fun a w => Q .normal a w) r) J.length J a w)
/-- behind one of the bag -/
def AfterB (S : World → Prop) (w : World) (e : BE) : Exit → Act → World → Prop :=
  fun x a w' => x = .normal ∧ a.defers = [] ∧ S w' ∧ Ext w w' ∧ ∃ N, e.Φ (a.tmps.getD e.d undef) N w' ∧ ∀ b, N b → w.heap.size ≤ b ∧ b < w'.heap.size
/-- what one of the bag does, wherever it comes -/
def BC (P : Program) (L : List Oper) (S : World → Prop) (n : Nat) (σ : Sg) (e : BE) : Prop :=
  (∃ o, nthO L e.i = some o ∧ o.dst = some e.d ∧ gd L σ o = some true ∧ ∀ w, S w → WL P L (AfterB S w e) [o] n σ w) ∧ Nat.ble (e.d + 1) n = true ∧ fnd σ e.d = none ∧ ∀ v N w w', e.Φ v N w → Ext w w' → e.Φ v N w'
theorem EX.bagE {S : World → Prop} {w w' : World} {e : BE} {n : Nat} {σ : Sg} {v : Value} (N : Nat → Prop) (hv : fnd σ e.d = some v) (hS : S w') (hE : Ext w w') (hΦ : e.Φ v N w') (hN : ∀ b, N b → w.heap.size ≤ b ∧ b < w'.heap.size) : EX (AfterB S w e) .normal n σ w' := by
  unfold EX
  intro a ha
  exact ⟨rfl, ha.defers, hS, hE, by rw [ha.slot _ _ hv]; exact ⟨N, hΦ, hN⟩⟩
theorem bc_wp {P : Program} {L : List Oper} {S : World → Prop} {n : Nat} {σ : Sg} {e : BE} (h : BC P L S n σ e) {a : Act} {w : World} (ha : Fr n σ a) (hS : S w) :
    ∃ o, L[e.i]? = some o ∧ Region.wanted o (yielded L.toArray a.tmps) = true ∧ o.wp P a w (fun a' w' => S w' ∧ Ext w w' ∧ ∃ v N, a' = a.put (some e.d) v ∧ e.Φ v N w' ∧ ∀ b, N b → w.heap.size ≤ b ∧ b < w'.heap.size) Never := by
  obtain ⟨⟨o, ho, hd, hg, hw⟩, hn, hf, _⟩ := h
  rw [nthO_eq] at ho
  have hwa := gd_wanted ha hg
  refine ⟨o, ho, hwa, ?_⟩
  have h1 := hw w hS
  unfold WL at h1
  have h2 := h1 a ha
  simp only [wpList, hwa, if_true] at h2
  have hlt : e.d < n := Nat.le_of_ble_eq_true hn
  have hget : ∀ v, (a.put (some e.d) v).tmps.getD e.d undef = v := by
    intro v
    simp [Act.put, Array.getD, ha.size, hlt]
  rcases h2 with h2 | ⟨_, hl⟩
  · unfold Oper.wp at *
    obtain ⟨dst, op, ty, pos, af, g⟩ := o
    simp only at hd
    subst hd
    generalize (execOp a.eval _).run P w = r at *
    cases r with
    | ok k w' =>
      cases k <;> simp only [Oper.upon] at h2 ⊢ <;> first
        | exact ⟨h2.2.2.1, h2.2.2.2.1, by have := h2.2.2.2.2; rw [hget] at this; obtain ⟨N, h3, h4⟩ := this; exact ⟨_, N, rfl, h3, h4⟩⟩
        | (exfalso; have := h2.2.1; simp [Act.put] at this; done)
        | (refine Calls.mono h2 (fun x w'' he => ?_)
           cases x
           · exact ⟨he.2.2.1, he.2.2.2.1, by have := he.2.2.2.2; rw [hget] at this; obtain ⟨N, h3, h4⟩ := this; exact ⟨_, N, rfl, h3, h4⟩⟩
           · exact absurd he.1 (by simp)
           · obtain ⟨_, _, hx⟩ := he; exact absurd hx.1 (by simp))
        | exact Rows.mono h2 (fun v w'' he => ⟨he.2.2.1, he.2.2.2.1, by have := he.2.2.2.2; rw [hget] at this; obtain ⟨N, h3, h4⟩ := this; exact ⟨_, N, rfl, h3, h4⟩⟩)
        | exact h2
    | halt x w' => cases x <;> simp only [Oper.upon] at h2 ⊢ <;> first | exact h2 | exact absurd h2.1 (by simp)
  · obtain ⟨_, _, hx⟩ := hl
    exact absurd hx.1 (by simp)

/-- behind the bag: each slot holds a value of which its fact is so; what came with one did not come with another -/
def BagK (w' : World) (G : Sg → Prop) : List (Nat → Prop) → List BE → Sg → Prop
  | _, [], σ => G σ
  | D, e :: r, σ => ∀ v N, e.Φ v N w' → (∀ p ∈ D, ∀ b, p b → N b → False) → BagK w' G (N :: D) r ((e.d, v) :: σ)
theorem BagK.get {w' : World} {G : Sg → Prop} {n : Nat} {a : Act} (NN : Nat → Nat → Prop) : ∀ (E : List BE) {D : List (Nat → Prop)} {σ : Sg}, BagK w' G D E σ → Fr n σ a → (∀ e ∈ E, e.d < n ∧ e.Φ (a.tmps.getD e.d undef) (NN e.i) w') →
    (∀ e ∈ E, ∀ p ∈ D, ∀ b, p b → NN e.i b → False) → (E.map (·.i)).Nodup → (∀ e ∈ E, ∀ f ∈ E, e.i ≠ f.i → ∀ b, NN e.i b → NN f.i b → False) → ∃ τ, Fr n τ a ∧ G τ
  | [], D, σ, h, ha, _, _, _, _ => ⟨σ, ha, h⟩
  | e :: r, D, σ, h, ha, hE, hD, hnd, hP => by
    have he := hE e (by simp)
    rw [List.map_cons, List.nodup_cons] at hnd
    refine BagK.get NN r (h _ _ he.2 (hD e (by simp))) ?_ (fun x hx => hE x (by simp [hx])) ?_ hnd.2 (fun x hx y hy => hP x (by simp [hx]) y (by simp [hy]))
    rotate_left
    · intro x hx p hp b hb hx'
      rcases List.mem_cons.1 hp with rfl | hp
      · exact hP e (by simp) x (by simp [hx]) (fun hi => hnd.1 (by rw [hi]; exact List.mem_map_of_mem hx)) b hb hx'
      · exact hD x (by simp [hx]) p hp b hb hx'
    refine ⟨ha.size, ha.defers, fun t u hu => ?_⟩
    by_cases ht : e.d = t
    · subst ht; rw [fnd_cons_eq] at hu; cases hu; rfl
    · rw [fnd_cons_ne ht] at hu; exact ha.slot _ _ hu
def distB : List Nat → Bool
  | [] => true
  | x :: r => !r.contains x && distB r
theorem distB_nodup : ∀ {l : List Nat}, distB l = true → l.Nodup
  | [], _ => List.nodup_nil
  | x :: r, h => by
    simp only [distB, Bool.and_eq_true, Bool.not_eq_true'] at h
    rw [List.nodup_cons]
    exact ⟨by simpa using h.1, distB_nodup h.2⟩

def updN (NN : Nat → Nat → Prop) (i : Nat) (N : Nat → Prop) : Nat → Nat → Prop := fun j => if j = i then N else NN j
theorem updN_eq {NN : Nat → Nat → Prop} {i : Nat} {N : Nat → Prop} : updN NN i N i = N := if_pos rfl
theorem updN_ne {NN : Nat → Nat → Prop} {i : Nat} {N : Nat → Prop} {j : Nat} (h : j ≠ i) : updN NN i N j = NN j := if_neg h
theorem nodup_inj {β γ : Type} {f : β → γ} : ∀ {l : List β}, (l.map f).Nodup → ∀ x ∈ l, ∀ y ∈ l, f x = f y → x = y
  | [], _, x, hx, _, _, _ => by simp at hx
  | z :: r, h, x, hx, y, hy, e => by
    rw [List.map_cons, List.nodup_cons] at h
    rcases List.mem_cons.1 hx with h1 | h1
    · rcases List.mem_cons.1 hy with h2 | h2
      · rw [h1, h2]
      · exact absurd (show f z ∈ r.map f by rw [← h1, e]; exact List.mem_map_of_mem h2) h.1
    · rcases List.mem_cons.1 hy with h2 | h2
      · exact absurd (show f z ∈ r.map f by rw [← h2, ← e]; exact List.mem_map_of_mem h1) h.1
      · exact nodup_inj h.2 x h1 y h2 e
theorem wpBag_of {P : Program} {L : List Oper} {S : World → Prop} {n : Nat} {σ : Sg} {E : List BE} (hC : ∀ e ∈ E, BC P L S n σ e) (hd : (E.map (·.d)).Nodup) (hi : (E.map (·.i)).Nodup) {w0 : World} {K : Act → World → Prop}
    (hK : ∀ a w (NN : Nat → Nat → Prop), Fr n σ a → S w → Ext w0 w → (∀ e ∈ E, e.Φ (a.tmps.getD e.d undef) (NN e.i) w) → (∀ e ∈ E, ∀ f ∈ E, e.i ≠ f.i → ∀ b, NN e.i b → NN f.i b → False) → K a w) :
    ∀ (k : Nat) (J : List Nat) (a : Act) (w : World) (NN : Nat → Nat → Prop), J.length = k → J.Nodup → (∀ i ∈ J, i ∈ E.map (·.i)) → Fr n σ a → S w → Ext w0 w → (∀ e ∈ E, e.i ∉ J → e.Φ (a.tmps.getD e.d undef) (NN e.i) w ∧ ∀ b, NN e.i b → b < w.heap.size) →
      (∀ e ∈ E, ∀ f ∈ E, e.i ∉ J → f.i ∉ J → e.i ≠ f.i → ∀ b, NN e.i b → NN f.i b → False) → wpBag P L S K k J a w
  | 0, J, a, w, NN, hl, _, _, ha, hS, hE, hD, hP => hK a w NN ha hS hE (fun e he => (hD e he (by rw [List.eq_nil_of_length_eq_zero hl]; simp)).1) (fun e he f hf => hP e he f hf (by rw [List.eq_nil_of_length_eq_zero hl]; simp) (by rw [List.eq_nil_of_length_eq_zero hl]; simp))
  | k + 1, J, a, w, NN, hl, hnd, hsub, ha, hS, hE, hD, hP => by
    intro i hiJ
    obtain ⟨e, he, rfl⟩ := List.mem_map.1 (hsub i hiJ)
    obtain ⟨o, ho, hw, hwp⟩ := bc_wp (hC e he) ha hS
    refine ⟨o, ho, hw, Oper.wp_mono (fun a' w' h' => ?_) hwp⟩
    obtain ⟨hS', hE', v, N, rfl, hΦ, hN⟩ := h'
    have hn : e.d < n := Nat.le_of_ble_eq_true (hC e he).2.1
    have hf := (hC e he).2.2.1
    have hget : (a.put (some e.d) v).tmps.getD e.d undef = v := by simp [Act.put, Array.getD, ha.size, hn]
    have hoth : ∀ t, t ≠ e.d → (a.put (some e.d) v).tmps.getD t undef = a.tmps.getD t undef := by
      intro t ht
      simp only [Act.put, Array.getD_eq_getD_getElem?]
      rw [Array.getElem?_setIfInBounds_ne (Ne.symm ht)]
    have nne : updN NN e.i N e.i = N := updN_eq
    have nno : ∀ j, j ≠ e.i → updN NN e.i N j = NN j := fun j hj => updN_ne hj
    refine ⟨hS', wpBag_of hC hd hi hK k (J.erase e.i) _ _ (updN NN e.i N) (by rw [List.length_erase_of_mem hiJ, hl]; rfl) (hnd.erase _) (fun j hj => hsub j (List.mem_of_mem_erase hj)) ?_ hS' (hE.trans hE') ?_ ?_⟩
    · refine ⟨by simpa [Act.put] using ha.size, by simpa [Act.put] using ha.defers, fun t u hu => ?_⟩
      have : t ≠ e.d := fun h => by rw [h, hf] at hu; cases hu
      rw [hoth t this]; exact ha.slot t u hu
    · intro x hx hxJ
      by_cases hxe : x.d = e.d
      · have hxe' : x = e := nodup_inj hd x hx e he hxe
        subst hxe'
        rw [hget, nne]; exact ⟨hΦ, fun b hb => (hN b hb).2⟩
      · rw [hoth _ hxe]
        have hne : x.i ≠ e.i := fun hh => hxe (by rw [nodup_inj hi x hx e he hh])
        have h0 := hD x hx (fun hxJ' => hxJ ((List.mem_erase_of_ne hne).2 hxJ'))
        rw [nno _ hne]
        exact ⟨(hC x hx).2.2.2 _ _ _ _ h0.1 hE', fun b hb => Nat.lt_of_lt_of_le (h0.2 b hb) hE'.size⟩
    · intro x hx y hy hxJ hyJ hxy b hbx hby
      by_cases hxe : x.i = e.i
      · rw [hxe, nne] at hbx
        have hye : y.i ≠ e.i := fun h => hxy (by rw [hxe, h])
        rw [nno _ hye] at hby
        have h1 := (hD y hy (fun h => hyJ ((List.mem_erase_of_ne hye).2 h))).2 b hby
        have h2 := (hN b hbx).1
        omega
      · rw [nno _ hxe] at hbx
        have hxJ' : x.i ∉ J := fun h => hxJ ((List.mem_erase_of_ne hxe).2 h)
        by_cases hye : y.i = e.i
        · rw [hye, nne] at hby
          have h1 := (hD x hx hxJ').2 b hbx
          have h2 := (hN b hby).1
          omega
        · rw [nno _ hye] at hby
          exact hP x hx y hy hxJ' (fun h => hyJ ((List.mem_erase_of_ne hye).2 h)) hxy b hbx hby

section
variable {P : Program} {Q : Exit → Act → World → Prop} {n : Nat} {σ : Sg} {w : World} {L : List Oper} {S : World → Prop}
theorem CW.drawB {id : Nat} (S : World → Prop) (s : List (Nat × Bool)) (J : List Nat) (r : List (Nat × Bool)) (hm : P.follows .mixedOrders = true) (hB : bagOk L s J r = true) (hS : S (drew w)) (h : HL P L S (BagQ P L S Q J r) s n σ (drew w)) : CW P (.region id L.toArray true) Q n σ w := by
  unfold CW; unfold HL at h; intro a ha
  simp only [bagOk, Bool.and_eq_true, decide_eq_true_eq] at hB
  obtain ⟨⟨hs, hl⟩, hB⟩ := hB
  have h0 := h a ha
  have h0' : wpHL P L S (fun a w => S w ∧ wpBag P L S (wpHL P L S (fun a w => Q .normal a w) r) J.length J a w) s a (Go.Proofs.Ytllpfgcngokhnaa.drew w) := by
    have : (fun a w => BagQ P L S Q J r .normal a w) = (fun a w => S w ∧ wpBag P L S (wpHL P L S (fun a w => Q .normal a w) r) J.length J a w) := by funext a w; simp [BagQ]
    rw [← this]; exact h0
  have h1 := wpHLBag_sound hs J r s (Array.replicate L.length false) a (Go.Proofs.Ytllpfgcngokhnaa.drew w) hB hS h0'
  rw [show r.length + J.length + s.length = L.length by omega] at h1
  have h2 := wp_region_held (id := id) (S := S) hm (w := w) (ops := L.toArray) (by simpa using h1)
  exact wp_mono h2 (fun e a' w' ⟨he, hq⟩ => by subst he; exact hq)
/-- the bag -/
theorem EX.bag {J : List Nat} {r : List (Nat × Bool)} (E : List BE) (hJ : E.map (·.i) = J) (hdi : distB (E.map (·.i)) = true) (hdd : distB (E.map (·.d)) = true) (hS : S w) (hC : ∀ e ∈ E, BC P L S n σ e)
    (hK : ∀ w', S w' → Ext w w' → BagK w' (fun τ => HL P L S Q r n τ w') [] E σ) : EX (BagQ P L S Q J r) .normal n σ w := by
  unfold EX
  intro a ha
  subst hJ
  refine ⟨rfl, hS, ?_⟩
  refine wpBag_of hC (distB_nodup hdd) (distB_nodup hdi) (w0 := w) (fun a w' NN ha hS' hE hΦ hP => ?_) _ _ a w (fun _ _ => False) rfl (distB_nodup hdi) (fun i hi => hi) ha hS (Ext.refl _) (fun e he hn => absurd (List.mem_map_of_mem he) hn) (fun e he f hf hn => absurd (List.mem_map_of_mem he) hn)
  obtain ⟨τ, hτ, hG⟩ := BagK.get NN E (hK w' hS' hE) ha (fun e he => ⟨Nat.le_of_ble_eq_true (hC e he).2.1, hΦ e he⟩) (fun _ _ p hp => by simp at hp) (distB_nodup hdi) hP
  unfold HL at hG
  exact hG a hτ
end
end Go.Proofs.Ytllpfgcngokhnaa
/-
  Drawn regions whose last operation is alone and may change what the others read: S need not hold behind it. Over any program.
-/
set_option linter.unusedVariables false
set_option linter.unusedSimpArgs false
namespace Go.Proofs.Ytllpfgcngokhnaa
open Go.RowKit

/-- whatever order is picked; behind each operation but number e the condition S holds -/
def wpAnyE (P : Program) (ops : Array Oper) (Q : Exit → Act → World → Prop) (S : World → Prop) (e : Nat) : Nat → Array Bool → Act → World → Prop
  | 0, listed, a, w => Region.ready .any ops listed = [] ∧ Q .normal a w
  | k + 1, listed, a, w => (Region.ready .any ops listed = [] → Q .normal a w) ∧ ∀ i ∈ Region.ready .any ops listed, wpOp P ops Q i (fun a' w' => (i ≠ e → S w') ∧ wpAnyE P ops Q S e k (listed.setIfInBounds i true) a' w') a w
theorem wpAny_of_E {P : Program} {ops : Array Oper} {Q : Exit → Act → World → Prop} {S : World → Prop} {e : Nat} : ∀ (k : Nat) (listed : Array Bool) (a : Act) (w : World), wpAnyE P ops Q S e k listed a w → wpAny P .any ops Q k listed a w
  | 0, _, _, _, h => h
  | k + 1, _, _, _, h => ⟨h.1, fun i hi => wpOp_mono (fun a' w' h' => wpAny_of_E k _ a' w' h'.2) (h.2 i hi)⟩
/-- does number e wait for number i? -/
def waitsB (ops : Array Oper) (e i : Nat) : Bool := match ops[e]? with
  | some o => o.after.toList.any fun ed => Region.binds .any ed && (ed.on == i)
  | none => false
theorem waits_not {ops : Array Oper} {e i : Nat} {listed : Array Bool} (hw : waitsB ops e i = true) (hi : listed.getD i false = false) : e ∉ Region.ready .any ops listed := by
  intro he
  obtain ⟨_, o, ho, hall⟩ := mem_ready.1 he
  unfold waitsB at hw
  rw [ho] at hw
  obtain ⟨ed, h1, h2⟩ := List.any_eq_true.1 hw
  simp only [Bool.and_eq_true, beq_iff_eq] at h2
  have := hall ed (by simpa using h1) h2.1
  rw [h2.2, hi] at this
  cases this
theorem ready_open {ops : Array Oper} {i : Nat} {listed : Array Bool} (h : i ∈ Region.ready .any ops listed) : listed.getD i false = false := by
  have h0 := (mem_ready.1 h).1
  rcases Nat.lt_or_ge i listed.size with h' | h'
  · simp [h'] at h0 ⊢; exact h0
  · simp [h']
theorem wpAnyE_take {P : Program} {ops : Array Oper} {Q : Exit → Act → World → Prop} {S : World → Prop} {e i : Nat} {oi : Oper} {v : Value} (hoi : ops[i]? = some oi) (hs : Region.noSelect ops = true) (hne : i ≠ e) (hwt : waitsB ops e i = true) (hQ : ∀ c a w, Q (.panic c) (a.put oi.dst v) w → Q (.panic c) a w) :
    ∀ (k : Nat) (listed : Array Bool) (a : Act) (w : World), (∀ j oj, ops[j]? = some oj → j ≠ i → listed.getD j true = false → (∀ ed ∈ oj.after, Region.binds .any ed = true → ed.on ≠ i) → oi.apart ops oj = true) →
      i ∈ Region.ready .any ops listed → YieldsIf P ops S oi v a → S w → wpAnyE P ops Q S e k (listed.setIfInBounds i true) (a.put oi.dst v) w → wpAnyE P ops Q S e (k + 1) listed a w := by
  have hsel := Region.noSelect_spec hs
  intro k
  induction k with
  | zero =>
    intro listed a w _ hr hy hS H
    refine ⟨fun h => (by rw [h] at hr; cases hr), fun j hj => ?_⟩
    by_cases hji : j = i
    · subst hji; exact hy.wpOp hoi hS ⟨fun _ => hS, H⟩
    · have := ready_mono hj hji
      rw [H.1] at this
      cases this
  | succ k ih =>
    intro listed a w hfree hr hy hS H
    refine ⟨fun h => (by rw [h] at hr; cases hr), fun j hj => ?_⟩
    by_cases hji : j = i
    · subst hji; exact hy.wpOp hoi hS ⟨fun _ => hS, H⟩
    · have hje : j ≠ e := fun h => waits_not hwt (ready_open hr) (h ▸ hj)
      obtain ⟨hopen, oj, hoj, hall⟩ := mem_ready.1 hj
      have hno : ∀ ed ∈ oj.after, Region.binds .any ed = true → ed.on ≠ i := fun ed h1 h2 h3 => by
        have h4 := hall ed h1 h2
        rw [h3, ready_open hr] at h4
        cases h4
      have hput := wpOp_putIf hoj (hfree j oj hoj hji hopen hno) (fun cs b => hsel i oi cs b hoi) (fun cs b => hsel j oj cs b hoj) hQ hy (H.2 j (ready_mono hj hji))
      refine wpOp_mono (fun a' w' h3 => ⟨fun _ => h3.2.1 hje, ih (listed.setIfInBounds j true) a' w' (fun m om hm hmi hun hn => hfree m om hm hmi ?_ hn) (ready_mono hr (Ne.symm hji)) h3.1 (h3.2.1 hje) ?_⟩) hput
      · by_cases hjm : j = m
        · subst hjm; exact hopen
        · rw [getD_set_ne true hjm] at hun; exact hun
      · rw [Array.setIfInBounds_comm _ _ hji]
        exact h3.2.2

/-- the order: s, and then e alone -/
def ordE (ops : Array Oper) (e : Nat) : List (Nat × Bool) → Array Bool → Bool
  | [], listed => decide (Region.ready .any ops listed = [e]) && (Region.ready .any ops (listed.setIfInBounds e true)).isEmpty
  | (i, true) :: s, listed => (Region.ready .any ops listed).contains i && Region.free .any ops listed i && !(i == e) && waitsB ops e i && ordE ops e s (listed.setIfInBounds i true)
  | (i, false) :: s, listed => decide (Region.ready .any ops listed = [i]) && ordE ops e s (listed.setIfInBounds i true)
def ordEOk (l : List Oper) (s : List (Nat × Bool)) (e : Nat) : Bool := Region.noSelect l.toArray && decide (s.length + 1 = l.length) && ordE l.toArray e s (Array.replicate l.length false)
/-- number e, alone and last -/
def TailQ (P : Program) (ops : List Oper) (Q : Exit → Act → World → Prop) (e : Nat) : Exit → Act → World → Prop :=
  fun x a w => x = .normal ∧ ∃ o, ops[e]? = some o ∧ wpList P ops.toArray (fun x a w => x = .normal ∧ Q .normal a w) [o] a w
theorem wpHLe_sound {P : Program} {ops : List Oper} {S : World → Prop} {Q : Exit → Act → World → Prop} {e : Nat} (hs : Region.noSelect ops.toArray = true) :
    ∀ (s : List (Nat × Bool)) (listed : Array Bool) (a : Act) (w : World), ordE ops.toArray e s listed = true → S w → wpHL P ops S (fun a w => TailQ P ops Q e .normal a w) s a w → wpAnyE P ops.toArray (fun x a w => x = .normal ∧ Q .normal a w) S e (s.length + 1) listed a w
  | [], listed, a, w, hB, hS, h => by
    simp only [ordE, Bool.and_eq_true, decide_eq_true_eq, List.isEmpty_iff] at hB
    obtain ⟨_, o, ho, hl⟩ := h
    refine ⟨fun h0 => (by rw [hB.1] at h0; cases h0), fun i hi => ?_⟩
    rw [hB.1, List.mem_singleton] at hi
    subst hi
    have ho' : ops.toArray[i]? = some o := by simpa using ho
    unfold wpOp
    simp only [ho']
    simp only [wpList] at hl
    split
    · rename_i hw
      rw [if_pos hw] at hl
      exact hl.imp (Oper.wp_mono fun a' w' h' => ⟨fun h => absurd rfl h, hB.2, rfl, h'.2⟩) id
    · rename_i hw
      rw [if_neg hw] at hl
      exact ⟨fun h => absurd rfl h, hB.2, rfl, hl.2⟩
  | (i, true) :: s, listed, a, w, hB, hS, ⟨o, v, ho, hy, h⟩ => by
    simp only [ordE, Bool.and_eq_true, Bool.not_eq_true', beq_eq_false_iff_ne] at hB
    obtain ⟨⟨⟨⟨h1, h2⟩, h3⟩, h4⟩, h5⟩ := hB
    have ho' : ops.toArray[i]? = some o := by simpa using ho
    exact wpAnyE_take ho' hs h3 h4 (fun _ _ _ h => by cases h.1) _ _ _ _ (Region.free_spec ho' h2) (by simpa using h1) hy hS (wpHLe_sound hs s _ _ _ h5 hS h)
  | (i, false) :: s, listed, a, w, hB, hS, ⟨o, ho, h⟩ => by
    simp only [ordE, Bool.and_eq_true, decide_eq_true_eq] at hB
    refine ⟨fun h0 => (by rw [hB.1] at h0; cases h0), fun j hj => ?_⟩
    rw [hB.1, List.mem_singleton] at hj
    subst hj
    have ho' : ops.toArray[j]? = some o := by simpa using ho
    unfold wpOp
    simp only [ho']
    split
    · rename_i hw
      rw [if_pos hw] at h
      exact .inl (Oper.wp_mono (fun a' w' h' => ⟨fun _ => h'.1, wpHLe_sound hs s _ _ _ hB.2 h'.1 h'.2⟩) (wp_exits (fun x a w hne hf => absurd hf.1 hne) h))
    · rename_i hw
      rw [if_neg hw] at h
      exact ⟨fun _ => h.1, wpHLe_sound hs s _ _ _ hB.2 h.1 h.2⟩
section
variable {P : Program} {Q : Exit → Act → World → Prop} {n : Nat} {σ : Sg} {w : World} {L : List Oper} {S : World → Prop}
theorem CW.drawE {id : Nat} (S : World → Prop) (s : List (Nat × Bool)) (e : Nat) (hm : P.follows .mixedOrders = true) (hB : ordEOk L s e = true) (hS : S (drew w)) (h : HL P L S (TailQ P L Q e) s n σ (drew w)) : CW P (.region id L.toArray true) Q n σ w := by
  unfold CW; unfold HL at h; intro a ha
  simp only [ordEOk, Bool.and_eq_true, decide_eq_true_eq] at hB
  obtain ⟨⟨hs, hl⟩, hB⟩ := hB
  have h1 := wpHLe_sound (Q := Q) hs s (Array.replicate L.length false) a (Go.Proofs.Ytllpfgcngokhnaa.drew w) hB hS (h a ha)
  rw [hl] at h1
  have h2 : (Code.region id L.toArray true).wp P (fun x a w => x = .normal ∧ Q .normal a w) a w := wp_region_any hm (by simpa using wpAny_of_E _ _ _ _ h1)
  exact wp_mono h2 (fun e a' w' ⟨he, hq⟩ => by subst he; exact hq)
/-- the last operation, by the rule for its like -/
theorem EX.tail {e : Nat} {o : Oper} (ho : nthO L e = some o) (h : WL P L (fun x a w => x = .normal ∧ Q .normal a w) [o] n σ w) : EX (TailQ P L Q e) .normal n σ w := by
  unfold EX; unfold WL at h
  intro a ha
  rw [nthO_eq] at ho
  exact ⟨rfl, o, ho, h a ha⟩
theorem EX.tailE (h : EX Q .normal n σ w) : EX (fun x a w => x = .normal ∧ Q .normal a w) .normal n σ w := by
  unfold EX at *; exact fun a ha => ⟨rfl, h a ha⟩
end
section
variable {P : Program} {Q : Exit → Act → World → Prop} {n : Nat} {σ : Sg} {wc : World} {L : List Oper} {S : World → Prop} {i j d : Nat} {ty : TypeId} {pos : String} {af : Array Edge} {g : Option (Nat × Bool)} {ty' : TypeId} {pos' : String} {af' : Array Edge} {g' : Option (Nat × Bool)} {t e : TypeId} {x ix y : Operand}
variable {α : Type} [Rep α] {F : Nat → Prop}
/-- x[k] = y, of a slice that the call owns, as the region's last two operations -/
theorem HL.setTail {v u : Value} {B : Nat} {xs : List α} {yv : α} {k : Nat} {kd : IntKind}
    (ho1 : nthO L i = some ⟨some d, .indexAddr t x ix, ty, pos, af, g⟩) (ho2 : nthO L j = some ⟨none, .store e (.tmp d) y, ty', pos', af', g'⟩)
    (hg : gd L σ ⟨some d, .indexAddr t x ix, ty, pos, af, g⟩ = some true) (hd : Nat.ble (d + 1) n = true)
    (hx : ev σ x = some v) (hi : ev σ ix = some (.int kd (k : Int))) [hs : IsS P t e] [ht : IsT P e α] (hown : Own wc B e F v xs) (h1 : k < xs.length)
    (hg' : ∀ p, gd L ((d, .pointer p) :: σ) ⟨none, .store e (.tmp d) y, ty', pos', af', g'⟩ = some true) (hy : ∀ p, ev ((d, .pointer p) :: σ) y = some u) (hu : Rd wc F u yv)
    (h : ∀ w' p, Own w' B e F v (xs.set k yv) → wc.grownBy w' v.ownBlock → EX Q .normal n ((d, .pointer p) :: σ) w') :
    HL P L S (TailQ P L Q j) [(i, true)] n σ wc := by
  rcases hown with ⟨rfl, rfl⟩ | ⟨b, off, cap, cur, rfl, ho⟩
  · simp at h1
  · refine HL.idx (α := α) ho1 hg hd hx hi (by omega) (by omega) ?_
    obtain ⟨w', hr, ho', hgr⟩ := run_set (P := P) (v := u) (i := k) ho h1 hu
    refine HL.nil (EX.tail ho2 ?_)
    refine WL.runU (hg' _) (fun a ha => ?_) (WL.nil (EX.tailE (h w' _ ho' hgr)))
    have e1 := ha.ev (x := .tmp d) fnd_cons_eq
    have e2 := ha.ev (hy _)
    simp only [Int.toNat_natCast] at e1
    simp [execOp, e1, e2, Instr.storeAt, Instr.sureAddr, hr]
end
section
variable {P : Program} {Q : Exit → Act → World → Prop} {n : Nat} {σ : Sg} {w wc : World} {L : List Oper} {S : World → Prop} {ord : List (Nat × Bool)} {i d : Nat} {ty : TypeId} {pos : String} {af : Array Edge} {g : Option (Nat × Bool)} {t e : TypeId} {x : Operand} {b o : Nat} {cells : List Value}
/-- a field of a struct that nobody changes meanwhile -/
theorem HL.ldK {v : Value} (hK : ∀ w1, S w1 → w1.heap[b]? = w.heap[b]?) (ho : nthO L i = some ⟨some d, .load t x, ty, pos, af, g⟩) (hg : gd L σ ⟨some d, .load t x, ty, pos, af, g⟩ = some true) (hd : Nat.ble (d + 1) n = true) (hx : ev σ x = some (.pointer (some ⟨b, o, none⟩))) [hc : IsC P t 1 false] (hb : Blk w b e cells) (hv : nthV cells o = some v)
    (h : HL P L S Q ord n ((d, v) :: σ) wc) : HL P L S Q ((i, true) :: ord) n σ wc := by
  refine HL.run ho hg hd (fun a ha w' hsw => ?_) h
  have hb' : Blk w' b e cells := (hK w' hsw).trans hb
  simp [execOp, ha.ev hx, run_ld (P := P) (t := t) w' hb' hv]
end
end Go.Proofs.Ytllpfgcngokhnaa
/-
  What only some blocks' change leaves as it is. Over any program.
-/
set_option linter.unusedVariables false
set_option linter.unusedSimpArgs false
namespace Go.Proofs.Ytllpfgcngokhnaa
open Go.RowKit

/-- only blocks of S, and new ones, are otherwise -/
structure Chg (S : Nat → Prop) (w w' : World) : Prop where
  os : w'.os = w.os
  tape : w'.tape = w.tape
  output : w'.output = w.output
  size : w.heap.size ≤ w'.heap.size
  block : ∀ k, k < w.heap.size → ¬ S k → w'.heap[k]? = w.heap[k]?
theorem Chg.refl (S : Nat → Prop) (w : World) : Chg S w w := ⟨rfl, rfl, rfl, Nat.le_refl _, fun _ _ _ => rfl⟩
theorem Chg.grown {S : Nat → Prop} {w w' w'' : World} {row : Option Nat} (h : Chg S w w') (hg : w'.grownBy w'' row) (hr : ∀ g, row = some g → S g) : Chg S w w'' :=
  ⟨hg.os.trans h.os, hg.tape.trans h.tape, hg.output.trans h.output, Nat.le_trans h.size hg.size, fun k hk hs => (hg.block k (Nat.lt_of_lt_of_le hk h.size) (fun e => hs (hr k e.symm))).trans (h.block k hk hs)⟩
theorem Chg.ext {S : Nat → Prop} {a w w' : World} (hE : Ext a w) (h : Chg S w w') (hS : ∀ b, S b → a.heap.size ≤ b) : Ext a w' :=
  ⟨h.os.trans hE.os, h.tape.trans hE.tape, h.output.trans hE.output, Nat.le_trans hE.size h.size, fun k hk => (h.block k (Nat.lt_of_lt_of_le hk hE.size) (fun hs => by have := hS k hs; omega)).trans (hE.block k hk)⟩
theorem Own.chg {α : Type} [Rep α] {S : Nat → Prop} {w w' : World} {B : Nat} {e : TypeId} {v : Value} {xs : List α} (h : Own w B e Non v xs) (hc : Chg S w w') (hn : ∀ b, v.ownBlock = some b → ¬ S b) : Own w' B e Non v xs :=
  h.keep (fun g hg => hc.block g (h.lt g hg).2.1 (hn g hg)) fun _ h => h.elim
theorem OwnN.chg {α : Type} [Rep α] {S : Nat → Prop} {w w' : World} {B : Nat} {eo ei : TypeId} {v : Value} {vs : List Raw} {xs : List (List α)} (h : OwnN w B eo ei v vs xs) (hc : Chg S w w') (hn : ∀ b, OwnN.blk v vs b → ¬ S b) : OwnN w' B eo ei v vs xs :=
  ⟨h.out.chg hc (fun b hb => hn b (.inl hb)), h.len, fun i hi hi' => (h.inn i hi hi').chg hc (fun b hb => hn b (.inr ⟨_, List.getElem_mem hi, hb⟩)), h.dis, h.dio⟩

end Go.Proofs.Ytllpfgcngokhnaa
