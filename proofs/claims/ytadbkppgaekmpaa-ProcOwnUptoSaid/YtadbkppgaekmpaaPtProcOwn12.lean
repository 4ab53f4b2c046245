import Derived.Test.YtadbkppgaekmpaaPtProcOwn11
/-
  Package scc: turn, far, Way, Turn.
-/
set_option linter.unusedVariables false
set_option linter.unusedSimpArgs false
namespace Go.Proofs.Ytadbkppgaekmpaa
open Go.RowKit

theorem turn_ok (w0 : World) {F : Nat → Prop} {ao : Option Addr} {cap : Nat} {g : List (List Int)} (hs : Sl w0 F ao cap g) (hF : ∀ b, F b → b < w0.heap.size) (hg : okG g) (hl : g.length ≤ 1099511627776) :
    Rt Try.prog 192 [.slice ao g.length cap].toArray w0 fun v w' => ∃ vs, OwnN w' w0.heap.size 22 3 v vs (turnL g) ∧ Ext w0 w' := by
  refine Rt.enter1 Try.func192 Try.ntmps192 rfl rfl ?_
  (repeat (first | (apply WL.pure; rfl; rfl; rfl) | (apply WL.nil) | (apply EX.thenN) | (apply CW.seq) | (apply CW.region) | (apply WL.lenS; rfl; rfl; rfl)))
  refine WL.make (α := Raw) rfl rfl rfl rfl (by omega) (by unfold maxLen; omega) (fun w1 ho1 hg1 => ?_)
  have hE1 : Ext w0 w1 := (Below.refl _ _).grown hg1 (Nat.le_refl _) (fun k h => by cases h)
  generalize hsv : Value.slice (some ⟨w0.heap.size, 0, none⟩) g.length g.length = sv at *
  have hN1 : OwnN w1 w0.heap.size 22 3 sv _ (List.replicate g.length ([] : List Int)) := OwnN.made ho1
  rw [← turnP_start] at hN1
  (repeat (first | (apply WL.pure; rfl; rfl; rfl) | (apply WL.nil) | (apply EX.thenN) | (apply CW.seq) | (apply CW.region) | (apply WL.lenS; rfl; rfl; rfl) | (apply CW.block)))
  refine CW.loop (S := Nat × List Raw) (fun s => [(3, sv), (12, .slice ao g.length cap), (13, .int .i64 g.length), (14, .int .i64 s.1)])
    (fun s w => s.1 ≤ g.length ∧ OwnN w w0.heap.size 22 3 sv s.2 (turnP g s.1 0) ∧ Ext w0 w) (fun s => g.length - s.1) (0, _) (by repeat (first | exact trivial | refine ⟨rfl, ?_⟩)) ⟨by omega, hN1, hE1⟩ ?_
  rintro ⟨n, vs⟩ w ⟨hn, hN, hE⟩
  dsimp only at hn hN
  (repeat (first | (apply WL.pure; rfl; rfl; rfl) | (apply WL.nil) | (apply EX.thenN) | (apply CW.seq) | (apply CW.region)))
  refine CW.cond rfl (fun hng => ?_) (fun hng => ?_)
  · simp at hng
    (repeat (first | (apply WL.pure; rfl; rfl; rfl) | (apply EX.thenN) | (apply CW.seq) | (apply CW.region) | (apply CW.block) | (apply CW.skip)))
    have hs' : Sl w F ao cap g := hs.mono (fun b hb => hE.block b (hF b hb)) fun _ h => h
    refine WL.elemN rfl rfl rfl rfl rfl hs' hng (fun _ => rfl) (fun u q hu => ?_)
    obtain ⟨lo, lc, rfl, hrow⟩ := hu.sl
    have hrl := hrow.len63
    dsimp only at hrl hrow
    have erow : g.getD n [] = g[n] := by rw [List.getD_eq_getElem?_getD, List.getElem?_eq_getElem hng]; rfl
    (repeat (first | (apply WL.pure; rfl; rfl; rfl) | (apply WL.nil) | (apply EX.thenN) | (apply CW.seq) | (apply CW.region) | (apply WL.lenS; rfl; rfl; rfl) | (apply CW.block)))
    refine CW.loop (S := Nat × List Raw) (fun s => [(3, sv), (4, .int .i64 n), (12, .slice ao g.length cap), (13, .int .i64 g.length), (14, .int .i64 n), (19, .slice lo g[n].length lc), (20, .int .i64 g[n].length), (21, .int .i64 s.1)])
      (fun s w => s.1 ≤ g[n].length ∧ OwnN w w0.heap.size 22 3 sv s.2 (turnP g n s.1) ∧ Ext w0 w) (fun s => g[n].length - s.1) (0, vs) (by repeat (first | exact trivial | refine ⟨rfl, ?_⟩)) ⟨by omega, hN, hE⟩ ?_
    rintro ⟨j, vs⟩ w2 ⟨hj, hN, hE2⟩
    dsimp only at hj hN
    have hlen := hN.len
    rw [turnP_len] at hlen
    (repeat (first | (apply WL.pure; rfl; rfl; rfl) | (apply WL.nil) | (apply EX.thenN) | (apply CW.seq) | (apply CW.region)))
    refine CW.cond rfl (fun h1 => ?_) (fun h1 => ?_) <;> simp at h1
    · have hrow' : Sl w2 F lo lc g[n] := hrow.mono (fun b hb => (hE2.block b (hF b hb)).trans (hE.block b (hF b hb)).symm) fun _ h => h
      have hk := hg _ (List.getElem_mem hng) _ (List.getElem_mem h1)
      obtain ⟨k, ek⟩ := Int.eq_ofNat_of_zero_le hk.1
      have hkl : k < g.length := by omega
      have hkv : k < vs.length := by omega
      have hj' : j < (g.getD n []).length := by rw [erow]; exact h1
      have ek' : (g.getD n [])[j] = (k : Int) := by simp only [erow]; exact ek
      (repeat (first | (apply EX.thenN) | (apply CW.seq) | (apply CW.region) | (apply CW.block) | (apply CW.skip)))
      refine WL.elemI rfl rfl rfl rfl rfl hrow' h1 ek (fun _ => rfl) (fun q => ?_)
      (repeat (first | (apply WL.pure; rfl; rfl; rfl) | (apply WL.nil) | (apply EX.thenN) | (apply CW.seq) | (apply CW.region)))
      refine WL.elemON rfl rfl rfl rfl rfl hN.out hkv (fun _ => rfl) (fun u q hu => ?_)
      obtain ⟨rfl, _⟩ := hu.raw
      have hin := hN.inn k hkv (by rw [turnP_len]; exact hkl)
      rw [turnP_get] at hin
      have htl := trow_len g n j k
      obtain ⟨io, ic, hiv⟩ := hin.val
      refine WL.lenO rfl rfl rfl hin ?_
      (repeat (apply WL.pure; rfl; rfl; rfl))
      apply WL.nil
      apply EX.thenN
      generalize hrw : trow g n j k = row at *
      refine CW.cut [(3, sv), (4, .int .i64 n), (7, .int .i64 k), (12, .slice ao g.length cap), (13, .int .i64 g.length), (14, .int .i64 n), (19, .slice lo g[n].length lc), (20, .int .i64 g[n].length), (21, .int .i64 j), (43, .bool (!((g.getD n []).take j).contains (k : Int)))] ?_ ?_
      · (repeat (first | (apply WL.pure; rfl; rfl; rfl) | (apply CW.region)))
        (refine WL.lookG rfl rfl (fun h => ?_) (fun h => ?_)) <;> simp at h
        · have hc : ((g.getD n []).take j).contains (k : Int) = false := trow_nil (by rw [hrw]; simp [h])
          rw [hc]
          (repeat (first | (apply WL.pure; rfl; rfl; rfl) | (apply WL.pass; rfl; rfl)))
          exact WL.nil (EX.cut (by repeat (first | exact trivial | refine ⟨rfl, ?_⟩)))
        · have hpos : 0 < row.length := by cases row with | nil => exact absurd rfl h | cons x r => simp
          (repeat (apply WL.pure; rfl; rfl; rfl))
          refine WL.elemON rfl rfl rfl rfl rfl hN.out hkv (fun _ => rfl) (fun u q hu => ?_)
          obtain ⟨rfl, _⟩ := hu.raw
          (repeat (first | (apply WL.sub'; rfl; rfl; rfl; rfl; omega; omega) | (apply WL.pure; rfl; rfl; rfl)))
          refine WL.elemO rfl rfl rfl rfl rfl hin (by omega) (by omega) (fun _ => rfl) (fun u q hu => ?_)
          obtain rfl := hu.int
          have hlast := trow_last (g := g) (n := n) (j := j) (m := k) (by rw [hrw]; exact hpos)
          simp only [hrw] at hlast
          have ei : ((row.length : Int) - 1).toNat = row.length - 1 := by omega
          have e : (row[((row.length : Int) - 1).toNat]'(by omega) != (n : Int)) = (!((g.getD n []).take j).contains (k : Int)) := by
            simp only [ei]
            cases hc : ((g.getD n []).take j).contains (k : Int)
            · rw [hc] at hlast; simpa [bne_iff_ne] using hlast
            · rw [hc] at hlast; simpa [bne_iff_ne] using hlast
          rw [← e]
          (repeat (apply WL.pure; rfl; rfl; rfl))
          exact WL.nil (EX.cut (by repeat (first | exact trivial | refine ⟨rfl, ?_⟩)))
      · refine CW.cond rfl (fun hc => ?_) (fun hc => ?_)
        · have hc : ((g.getD n []).take j).contains (k : Int) = false := by simpa using hc
          (repeat (first | (apply WL.pure; rfl; rfl; rfl) | (apply CW.region)))
          refine WL.elemON rfl rfl rfl rfl rfl hN.out hkv (fun _ => rfl) (fun u q hu => ?_)
          obtain ⟨rfl, _⟩ := hu.raw
          (repeat (apply WL.pure; rfl; rfl; rfl))
          refine WL.app1 (F := Non) (yv := (n : Int)) rfl rfl (fun _ => rfl) rfl rfl (fun _ => rfl) hin (Rd.mkInt _ _ _) hE2.size (fun _ h => h.elim) (by decide) (by unfold maxLen; omega) (by omega) (fun v' w3 p ho3 hg3 hnb => ?_)
          skip
          have hmid := hN.mid hkv hg3
          refine WL.setN (u := v') (yv := ⟨v'⟩) rfl rfl rfl rfl hmid hkv (fun _ => rfl) (fun _ => rfl) (Rd.mkRaw _ _ _ ?_) (fun w4 q ho4 hg4 => ?_)
          · obtain ⟨a, b, rfl⟩ := ho3.val; rfl
          have hN4 := hN.set hkv ho3 hg3 hnb ho4 hg4
          rw [← hrw, turnP_set hj' ek' hkl hc] at hN4
          have hE4 : Ext w0 w4 := (hE2.grown hg3 hE2.size (fun b hb => (hin.lt b hb).1)).grown hg4 (Nat.le_trans hE2.size hg3.size) (fun b hb => (hN.out.lt b hb).1)
          (repeat (first | (apply WL.add; rfl; rfl; rfl; rfl; omega; omega) | (apply WL.pure; rfl; rfl; rfl) | (apply WL.nil) | (apply EX.thenN) | (apply CW.region) | (apply EX.inN)))
          exact EX.back (j + 1, vs.set k ⟨v'⟩) (by repeat (first | exact trivial | refine ⟨rfl, ?_⟩)) ⟨h1, hN4, hE4⟩ (by simp only; omega)
        · have hc : ((g.getD n []).take j).contains (k : Int) = true := by simpa using hc
          (repeat (first | (apply WL.add; rfl; rfl; rfl; rfl; omega; omega) | (apply WL.pure; rfl; rfl; rfl) | (apply WL.nil) | (apply EX.thenN) | (apply CW.region) | (apply EX.inN) | (apply CW.skip)))
          rw [turnP_same hj' ek' hc] at hN
          exact EX.back (j + 1, vs) (by repeat (first | exact trivial | refine ⟨rfl, ?_⟩)) ⟨h1, hN, hE2⟩ (by simp only; omega)
    · have : j = g[n].length := by omega
      subst this
      rw [← erow, ← turnP_next] at hN
      (repeat (first | (apply WL.add; rfl; rfl; rfl; rfl; omega; omega) | (apply WL.pure; rfl; rfl; rfl) | (apply WL.nil) | (apply EX.thenN) | (apply CW.region) | (apply EX.inN) | (apply CW.exit) | (apply EX.thenX) | (apply EX.inX)))
      exact EX.back (n + 1, vs) (by repeat (first | exact trivial | refine ⟨rfl, ?_⟩)) ⟨hng, hN, hE2⟩ (by simp only; omega)
  · simp at hng
    have : n = g.length := by omega
    subst this
    (repeat (first | (apply WL.pure; rfl; rfl; rfl) | (apply WL.nil) | (apply EX.thenN) | (apply CW.seq) | (apply CW.region) | (apply CW.exit) | (apply EX.thenX) | (apply EX.inX) | (apply CW.ret)))
    exact EX.ret1 rfl rfl ⟨vs, hN, hE⟩

theorem EX.ret3 {P : Program} {n : Nat} {σ : Sg} {w : World} {fn : Func} {t u s : Nat} {v x y : Value} {R : Value → World → Prop} (hr : fn.results = #[.tmp t, .tmp u, .tmp s]) (ht : fnd σ t = some v) (hu : fnd σ u = some x) (hs : fnd σ s = some y) (h : R (.tuple ⟨[v, x, y]⟩) w) :
    EX (bodyPost P fn fun e w' => ∃ v, e = .returned v ∧ R v w') .ret n σ w := by
  unfold EX; intro a ha
  exact bodyPost_ret (results_tmp3 hr _ _ _) ha.defers ⟨_, by rw [ha.slot t v ht, ha.slot u x hu, ha.slot s y hs], h⟩

theorem farN_next {to : List Bool} {n : Nat} (h : n < to.length) : farN to (n + 1) = farN to n ++ (if to[n] = true then [(n : Int)] else []) := by
  unfold farN
  rw [List.range_succ, List.filter_append, List.map_append]
  have : to.getD n false = to[n] := by rw [List.getD_eq_getElem?_getD, List.getElem?_eq_getElem h]; rfl
  cases e : to[n] <;> rw [e] at this <;> simp at this <;> simp [this]
theorem getD_setI {d : List Int} {n k : Nat} {v : Int} (h : n < d.length) : (d.set n v).getD k 0 = if n = k then v else d.getD k 0 := by
  rw [List.getD_eq_getElem?_getD, List.getD_eq_getElem?_getD, List.getElem?_set]
  split
  · rename_i e; simp [h]
  · rfl
def turnF (g : List (List Int)) : List (List Int) := if chkG g = 0 then turnL g else []
theorem Turn_ok (w0 : World) {ao : Option Addr} {cap : Nat} {g : List (List Int)} (hs : Sl w0 (Old w0) ao cap g) :
    Rt Try.prog 150 [.slice ao g.length cap].toArray w0 fun r w' => ∃ v vs, r = .tuple ⟨[v, .int .i64 (chkG g)]⟩ ∧ OwnN w' w0.heap.size 22 3 v vs (turnF g) ∧ Ext w0 w' := by
  refine Rt.enter1 Try.func150 Try.ntmps150 rfl rfl ?_
  (repeat (first | (apply WL.pure; rfl; rfl; rfl) | (apply WL.nil) | (apply EX.thenN) | (apply CW.seq) | (apply CW.region)))
  refine WL.call rfl rfl rfl (chk_ok w0 hs) ?_
  rintro v w1 ⟨rfl, hE1⟩
  unfold turnF
  (repeat (first | (apply WL.pure; rfl; rfl; rfl) | (apply WL.nil) | (apply EX.thenN) | (apply CW.seq) | (apply CW.region)))
  refine CW.cond rfl (fun h => ?_) (fun h => ?_)
  · have hc : chkG g ≠ 0 := by simpa using h
    (repeat (first | (apply WL.pure; rfl; rfl; rfl) | (apply WL.nil) | (apply EX.thenN) | (apply CW.seq) | (apply CW.region) | (apply CW.ret) | (apply EX.thenR)))
    exact EX.ret2 rfl rfl rfl ⟨.slice none 0 0, [], rfl, by rw [if_neg hc]; exact OwnN.nil, hE1⟩
  · have hc : chkG g = 0 := by simpa using h
    obtain ⟨hg, hg2⟩ := chkG_ok hc
    (repeat (first | (apply WL.pure; rfl; rfl; rfl) | (apply EX.thenN) | (apply CW.seq) | (apply CW.region) | (apply CW.skip)))
    refine WL.call rfl rfl rfl (turn_ok w1 (hs.up hE1) (fun _ h => h) hg (by omega)) ?_
    rintro v w2 ⟨vs, hN, hE2⟩
    (repeat (first | (apply WL.pure; rfl; rfl; rfl) | (apply WL.nil) | (apply EX.thenN) | (apply CW.ret)))
    exact EX.ret2 rfl rfl rfl ⟨v, vs, by rw [hc], by rw [if_pos hc]; exact hN.low hE1.size, hE1.trans hE2⟩
/-- far: its numbers are those of farL -/
theorem far_ok (w0 : World) {F : Nat → Prop} {ao lo : Option Addr} {cap lc : Nat} {g : List (List Int)} {to : List Bool} (hs : Sl w0 F ao cap g) (ht : Sl w0 F lo lc to) (hF : ∀ b, F b → b < w0.heap.size) (hg : okG g) (hl : g.length ≤ 1099511627776) (htl : to.length = g.length) :
    Rt Try.prog 209 [.slice ao g.length cap, .slice lo to.length lc].toArray w0 fun v w' => Own w' w0.heap.size 3 Non v (farL g to) ∧ Ext w0 w' := by
  refine Rt.enter2 Try.func209 Try.ntmps209 rfl rfl ?_
  (repeat (first | (apply WL.add; rfl; rfl; rfl; rfl; omega; omega) | (apply QL.add; rfl; rfl; rfl; rfl; omega; omega) | (apply WL.sub'; rfl; rfl; rfl; rfl; omega; omega) | (apply QL.sub'; rfl; rfl; rfl; rfl; omega; omega) | (apply WL.mul; rfl; rfl; rfl; rfl; omega; omega) | (apply QL.mul; rfl; rfl; rfl; rfl; omega; omega) | (apply WL.pure; rfl; rfl; rfl) | (apply QL.pure; rfl; rfl; rfl) | (apply WL.nil) | (apply EX.thenN) | (apply CW.seq) | (apply CW.region) | (apply WL.pass; rfl; rfl) | (apply QL.pass; rfl; rfl) | (apply WL.eqB; rfl; rfl; rfl; rfl) | (apply QL.eqB; rfl; rfl; rfl; rfl) | (apply WL.neB; rfl; rfl; rfl; rfl) | (apply QL.neB; rfl; rfl; rfl; rfl) | (apply WL.lenS; rfl; rfl; rfl) | (apply QL.lenS; rfl; rfl; rfl) | (apply WL.makeFunc; rfl; rfl; rfl; rfl) | (apply QL.makeFunc; rfl; rfl; rfl; rfl) | (apply WL.fa; rfl; rfl; rfl) | (apply QL.fa; rfl; rfl; rfl) | (apply WL.nck; rfl; rfl; rfl) | (apply QL.nck; rfl; rfl; rfl) | (apply WL.ld; rfl; rfl; rfl; assumption; rfl) | (apply QL.ld; rfl; rfl; rfl; assumption; rfl) | (apply WL.ldA; rfl; rfl; rfl; assumption; rfl) | (apply QL.ldA; rfl; rfl; rfl; assumption; rfl) | (apply CW.block) | (apply EX.inN) | (apply CW.condT; rfl) | (apply CW.condF; rfl) | (apply CW.exit) | (apply EX.thenX) | (apply EX.inX) | (apply EX.inXne; rfl) | (apply CW.ret) | (apply EX.thenR) | (apply EX.inR) | (apply CW.skip) | (refine WL.lenO rfl rfl rfl (by assumption) ?_) | (apply WL.isNil; rfl; rfl; rfl) | (apply CW.draw; exact mixed; kernel_rfl)))
  refine WL.call rfl rfl rfl (turn_ok w0 hs hF hg hl) ?_
  rintro bv w1 ⟨bs, hN1, hE1⟩
  (repeat (first | (apply WL.add; rfl; rfl; rfl; rfl; omega; omega) | (apply QL.add; rfl; rfl; rfl; rfl; omega; omega) | (apply WL.sub'; rfl; rfl; rfl; rfl; omega; omega) | (apply QL.sub'; rfl; rfl; rfl; rfl; omega; omega) | (apply WL.mul; rfl; rfl; rfl; rfl; omega; omega) | (apply QL.mul; rfl; rfl; rfl; rfl; omega; omega) | (apply WL.pure; rfl; rfl; rfl) | (apply QL.pure; rfl; rfl; rfl) | (apply WL.nil) | (apply EX.thenN) | (apply CW.seq) | (apply CW.region) | (apply WL.pass; rfl; rfl) | (apply QL.pass; rfl; rfl) | (apply WL.eqB; rfl; rfl; rfl; rfl) | (apply QL.eqB; rfl; rfl; rfl; rfl) | (apply WL.neB; rfl; rfl; rfl; rfl) | (apply QL.neB; rfl; rfl; rfl; rfl) | (apply WL.lenS; rfl; rfl; rfl) | (apply QL.lenS; rfl; rfl; rfl) | (apply WL.makeFunc; rfl; rfl; rfl; rfl) | (apply QL.makeFunc; rfl; rfl; rfl; rfl) | (apply WL.fa; rfl; rfl; rfl) | (apply QL.fa; rfl; rfl; rfl) | (apply WL.nck; rfl; rfl; rfl) | (apply QL.nck; rfl; rfl; rfl) | (apply WL.ld; rfl; rfl; rfl; assumption; rfl) | (apply QL.ld; rfl; rfl; rfl; assumption; rfl) | (apply WL.ldA; rfl; rfl; rfl; assumption; rfl) | (apply QL.ldA; rfl; rfl; rfl; assumption; rfl) | (apply CW.block) | (apply EX.inN) | (apply CW.condT; rfl) | (apply CW.condF; rfl) | (apply CW.exit) | (apply EX.thenX) | (apply EX.inX) | (apply EX.inXne; rfl) | (apply CW.ret) | (apply EX.thenR) | (apply EX.inR) | (apply CW.skip) | (refine WL.lenO rfl rfl rfl (by assumption) ?_) | (apply WL.isNil; rfl; rfl; rfl) | (apply CW.draw; exact mixed; kernel_rfl)))
  refine WL.make (α := Int) rfl rfl rfl rfl (by omega) (by unfold maxLen; omega) (fun w2 ho2 hg2 => ?_)
  have hE2 : Ext w1 w2 := (Below.refl _ _).grown hg2 (Nat.le_refl _) (fun k h => by cases h)
  have hN2 := hN1.ext hE2
  have hE12 := hE1.trans hE2
  generalize hdv : Value.slice (some ⟨w1.heap.size, 0, none⟩) g.length g.length = dv at *
  have hdb : dv.ownBlock = some w1.heap.size := by rw [← hdv]; rfl
  have hbb : ∀ b, OwnN.blk bv bs b → b < w1.heap.size := fun b hb => (hN1.lt b hb).2
  (repeat (first | (apply WL.add; rfl; rfl; rfl; rfl; omega; omega) | (apply QL.add; rfl; rfl; rfl; rfl; omega; omega) | (apply WL.sub'; rfl; rfl; rfl; rfl; omega; omega) | (apply QL.sub'; rfl; rfl; rfl; rfl; omega; omega) | (apply WL.mul; rfl; rfl; rfl; rfl; omega; omega) | (apply QL.mul; rfl; rfl; rfl; rfl; omega; omega) | (apply WL.pure; rfl; rfl; rfl) | (apply QL.pure; rfl; rfl; rfl) | (apply WL.nil) | (apply EX.thenN) | (apply CW.seq) | (apply CW.region) | (apply WL.pass; rfl; rfl) | (apply QL.pass; rfl; rfl) | (apply WL.eqB; rfl; rfl; rfl; rfl) | (apply QL.eqB; rfl; rfl; rfl; rfl) | (apply WL.neB; rfl; rfl; rfl; rfl) | (apply QL.neB; rfl; rfl; rfl; rfl) | (apply WL.lenS; rfl; rfl; rfl) | (apply QL.lenS; rfl; rfl; rfl) | (apply WL.makeFunc; rfl; rfl; rfl; rfl) | (apply QL.makeFunc; rfl; rfl; rfl; rfl) | (apply WL.fa; rfl; rfl; rfl) | (apply QL.fa; rfl; rfl; rfl) | (apply WL.nck; rfl; rfl; rfl) | (apply QL.nck; rfl; rfl; rfl) | (apply WL.ld; rfl; rfl; rfl; assumption; rfl) | (apply QL.ld; rfl; rfl; rfl; assumption; rfl) | (apply WL.ldA; rfl; rfl; rfl; assumption; rfl) | (apply QL.ldA; rfl; rfl; rfl; assumption; rfl) | (apply CW.block) | (apply EX.inN) | (apply CW.condT; rfl) | (apply CW.condF; rfl) | (apply CW.exit) | (apply EX.thenX) | (apply EX.inX) | (apply EX.inXne; rfl) | (apply CW.ret) | (apply EX.thenR) | (apply EX.inR) | (apply CW.skip) | (refine WL.lenO rfl rfl rfl (by assumption) ?_) | (apply WL.isNil; rfl; rfl; rfl) | (apply CW.draw; exact mixed; kernel_rfl)))
  refine CW.loop (S := Nat × List Int × Value) (fun s => [(5, bv), (6, dv), (7, s.2.2), (18, .slice lo to.length lc), (19, .int .i64 to.length), (20, .int .i64 s.1)])
    (fun s w => s.1 ≤ to.length ∧ s.2.1.length = g.length ∧ (∀ k, k < s.1 → s.2.1.getD k 0 = (farD to).getD k 0) ∧ Own w w1.heap.size 3 Non dv s.2.1 ∧ Own w w1.heap.size 3 Non s.2.2 (farN to s.1) ∧ (∀ b, s.2.2.ownBlock = some b → b ≠ w1.heap.size) ∧ Ext w1 w) (fun s => to.length - s.1) (0, List.replicate g.length 0, .slice none 0 0) (by repeat (first | exact trivial | refine ⟨rfl, ?_⟩)) ⟨by omega, by simp, fun k hk => absurd hk (by simp), ho2, by simpa [farN] using Own.nil, fun b hb => by simp [Value.ownBlock] at hb, hE2⟩ ?_
  rintro ⟨n, d, nv⟩ w ⟨hn, hdl, hpre, hod, hon, hne, hE⟩
  dsimp only at hn hdl hpre hod hon hne
  have hnl := farN_len to n
  (repeat (first | (apply WL.add; rfl; rfl; rfl; rfl; omega; omega) | (apply QL.add; rfl; rfl; rfl; rfl; omega; omega) | (apply WL.sub'; rfl; rfl; rfl; rfl; omega; omega) | (apply QL.sub'; rfl; rfl; rfl; rfl; omega; omega) | (apply WL.mul; rfl; rfl; rfl; rfl; omega; omega) | (apply QL.mul; rfl; rfl; rfl; rfl; omega; omega) | (apply WL.pure; rfl; rfl; rfl) | (apply QL.pure; rfl; rfl; rfl) | (apply WL.nil) | (apply EX.thenN) | (apply CW.seq) | (apply CW.region) | (apply WL.pass; rfl; rfl) | (apply QL.pass; rfl; rfl) | (apply WL.eqB; rfl; rfl; rfl; rfl) | (apply QL.eqB; rfl; rfl; rfl; rfl) | (apply WL.neB; rfl; rfl; rfl; rfl) | (apply QL.neB; rfl; rfl; rfl; rfl) | (apply WL.lenS; rfl; rfl; rfl) | (apply QL.lenS; rfl; rfl; rfl) | (apply WL.makeFunc; rfl; rfl; rfl; rfl) | (apply QL.makeFunc; rfl; rfl; rfl; rfl) | (apply WL.fa; rfl; rfl; rfl) | (apply QL.fa; rfl; rfl; rfl) | (apply WL.nck; rfl; rfl; rfl) | (apply QL.nck; rfl; rfl; rfl) | (apply WL.ld; rfl; rfl; rfl; assumption; rfl) | (apply QL.ld; rfl; rfl; rfl; assumption; rfl) | (apply WL.ldA; rfl; rfl; rfl; assumption; rfl) | (apply QL.ldA; rfl; rfl; rfl; assumption; rfl) | (apply CW.block) | (apply EX.inN) | (apply CW.condT; rfl) | (apply CW.condF; rfl) | (apply CW.exit) | (apply EX.thenX) | (apply EX.inX) | (apply EX.inXne; rfl) | (apply CW.ret) | (apply EX.thenR) | (apply EX.inR) | (apply CW.skip) | (refine WL.lenO rfl rfl rfl (by assumption) ?_) | (apply WL.isNil; rfl; rfl; rfl) | (apply CW.draw; exact mixed; kernel_rfl)))
  refine CW.cond rfl (fun hlt => ?_) (fun hlt => ?_)
  · simp at hlt
    have hs0 : w0.heap.size ≤ w1.heap.size := hE1.size
    have ht' : Sl w F lo lc to := ht.mono (fun b hb => (hE1.trans hE).block b (hF b hb)) fun _ h => h
    have eD : ∀ k, k < n + 1 → (d.set n (if to[n] = true then 0 else -1)).getD k 0 = (farD to).getD k 0 := by
      intro k hk
      rw [getD_setI (by omega)]
      split
      · rename_i e
        subst e
        rw [getD_at (by simp [farD]; exact hlt), farD_get]
        rw [List.getD_eq_getElem?_getD, List.getElem?_eq_getElem hlt]; rfl
      · exact hpre k (by omega)
    (repeat (first | (apply WL.add; rfl; rfl; rfl; rfl; omega; omega) | (apply QL.add; rfl; rfl; rfl; rfl; omega; omega) | (apply WL.sub'; rfl; rfl; rfl; rfl; omega; omega) | (apply QL.sub'; rfl; rfl; rfl; rfl; omega; omega) | (apply WL.mul; rfl; rfl; rfl; rfl; omega; omega) | (apply QL.mul; rfl; rfl; rfl; rfl; omega; omega) | (apply WL.pure; rfl; rfl; rfl) | (apply QL.pure; rfl; rfl; rfl) | (apply WL.nil) | (apply EX.thenN) | (apply CW.seq) | (apply CW.region) | (apply WL.pass; rfl; rfl) | (apply QL.pass; rfl; rfl) | (apply WL.eqB; rfl; rfl; rfl; rfl) | (apply QL.eqB; rfl; rfl; rfl; rfl) | (apply WL.neB; rfl; rfl; rfl; rfl) | (apply QL.neB; rfl; rfl; rfl; rfl) | (apply WL.lenS; rfl; rfl; rfl) | (apply QL.lenS; rfl; rfl; rfl) | (apply WL.makeFunc; rfl; rfl; rfl; rfl) | (apply QL.makeFunc; rfl; rfl; rfl; rfl) | (apply WL.fa; rfl; rfl; rfl) | (apply QL.fa; rfl; rfl; rfl) | (apply WL.nck; rfl; rfl; rfl) | (apply QL.nck; rfl; rfl; rfl) | (apply WL.ld; rfl; rfl; rfl; assumption; rfl) | (apply QL.ld; rfl; rfl; rfl; assumption; rfl) | (apply WL.ldA; rfl; rfl; rfl; assumption; rfl) | (apply QL.ldA; rfl; rfl; rfl; assumption; rfl) | (apply CW.block) | (apply EX.inN) | (apply CW.condT; rfl) | (apply CW.condF; rfl) | (apply CW.exit) | (apply EX.thenX) | (apply EX.inX) | (apply EX.inXne; rfl) | (apply CW.ret) | (apply EX.thenR) | (apply EX.inR) | (apply CW.skip) | (refine WL.lenO rfl rfl rfl (by assumption) ?_) | (apply WL.isNil; rfl; rfl; rfl) | (apply CW.draw; exact mixed; kernel_rfl)))
    refine WL.elemB rfl rfl rfl rfl rfl ht' hlt rfl (fun _ => rfl) (fun q => ?_)
    (repeat (first | (apply WL.add; rfl; rfl; rfl; rfl; omega; omega) | (apply QL.add; rfl; rfl; rfl; rfl; omega; omega) | (apply WL.sub'; rfl; rfl; rfl; rfl; omega; omega) | (apply QL.sub'; rfl; rfl; rfl; rfl; omega; omega) | (apply WL.mul; rfl; rfl; rfl; rfl; omega; omega) | (apply QL.mul; rfl; rfl; rfl; rfl; omega; omega) | (apply WL.pure; rfl; rfl; rfl) | (apply QL.pure; rfl; rfl; rfl) | (apply WL.nil) | (apply EX.thenN) | (apply CW.seq) | (apply CW.region) | (apply WL.pass; rfl; rfl) | (apply QL.pass; rfl; rfl) | (apply WL.eqB; rfl; rfl; rfl; rfl) | (apply QL.eqB; rfl; rfl; rfl; rfl) | (apply WL.neB; rfl; rfl; rfl; rfl) | (apply QL.neB; rfl; rfl; rfl; rfl) | (apply WL.lenS; rfl; rfl; rfl) | (apply QL.lenS; rfl; rfl; rfl) | (apply WL.makeFunc; rfl; rfl; rfl; rfl) | (apply QL.makeFunc; rfl; rfl; rfl; rfl) | (apply WL.fa; rfl; rfl; rfl) | (apply QL.fa; rfl; rfl; rfl) | (apply WL.nck; rfl; rfl; rfl) | (apply QL.nck; rfl; rfl; rfl) | (apply WL.ld; rfl; rfl; rfl; assumption; rfl) | (apply QL.ld; rfl; rfl; rfl; assumption; rfl) | (apply WL.ldA; rfl; rfl; rfl; assumption; rfl) | (apply QL.ldA; rfl; rfl; rfl; assumption; rfl) | (apply CW.block) | (apply EX.inN) | (apply CW.condT; rfl) | (apply CW.condF; rfl) | (apply CW.exit) | (apply EX.thenX) | (apply EX.inX) | (apply EX.inXne; rfl) | (apply CW.ret) | (apply EX.thenR) | (apply EX.inR) | (apply CW.skip) | (refine WL.lenO rfl rfl rfl (by assumption) ?_) | (apply WL.isNil; rfl; rfl; rfl) | (apply CW.draw; exact mixed; kernel_rfl)))
    refine WL.setN (u := .int .i64 (-1)) (yv := (-1 : Int)) rfl rfl rfl rfl hod (by omega) (fun _ => rfl) (fun _ => rfl) (Rd.mkInt _ _ _) (fun w3 q ho3 hg3 => ?_)
    have hE3 : Ext w1 w3 := hE.grown hg3 hE.size (fun b hb => (hod.lt b hb).1)
    have hon3 := hon.keptN hg3 (fun g hg => by rw [hdb]; simpa using hne g hg)
    (repeat (first | (apply WL.add; rfl; rfl; rfl; rfl; omega; omega) | (apply QL.add; rfl; rfl; rfl; rfl; omega; omega) | (apply WL.sub'; rfl; rfl; rfl; rfl; omega; omega) | (apply QL.sub'; rfl; rfl; rfl; rfl; omega; omega) | (apply WL.mul; rfl; rfl; rfl; rfl; omega; omega) | (apply QL.mul; rfl; rfl; rfl; rfl; omega; omega) | (apply WL.pure; rfl; rfl; rfl) | (apply QL.pure; rfl; rfl; rfl) | (apply WL.nil) | (apply EX.thenN) | (apply CW.seq) | (apply CW.region) | (apply WL.pass; rfl; rfl) | (apply QL.pass; rfl; rfl) | (apply WL.eqB; rfl; rfl; rfl; rfl) | (apply QL.eqB; rfl; rfl; rfl; rfl) | (apply WL.neB; rfl; rfl; rfl; rfl) | (apply QL.neB; rfl; rfl; rfl; rfl) | (apply WL.lenS; rfl; rfl; rfl) | (apply QL.lenS; rfl; rfl; rfl) | (apply WL.makeFunc; rfl; rfl; rfl; rfl) | (apply QL.makeFunc; rfl; rfl; rfl; rfl) | (apply WL.fa; rfl; rfl; rfl) | (apply QL.fa; rfl; rfl; rfl) | (apply WL.nck; rfl; rfl; rfl) | (apply QL.nck; rfl; rfl; rfl) | (apply WL.ld; rfl; rfl; rfl; assumption; rfl) | (apply QL.ld; rfl; rfl; rfl; assumption; rfl) | (apply WL.ldA; rfl; rfl; rfl; assumption; rfl) | (apply QL.ldA; rfl; rfl; rfl; assumption; rfl) | (apply CW.block) | (apply EX.inN) | (apply CW.condT; rfl) | (apply CW.condF; rfl) | (apply CW.exit) | (apply EX.thenX) | (apply EX.inX) | (apply EX.inXne; rfl) | (apply CW.ret) | (apply EX.thenR) | (apply EX.inR) | (apply CW.skip) | (refine WL.lenO rfl rfl rfl (by assumption) ?_) | (apply WL.isNil; rfl; rfl; rfl) | (apply CW.draw; exact mixed; kernel_rfl)))
    refine CW.cond rfl (fun hb => ?_) (fun hb => ?_)
    · rw [if_pos hb] at eD
      (repeat (first | (apply WL.add; rfl; rfl; rfl; rfl; omega; omega) | (apply QL.add; rfl; rfl; rfl; rfl; omega; omega) | (apply WL.sub'; rfl; rfl; rfl; rfl; omega; omega) | (apply QL.sub'; rfl; rfl; rfl; rfl; omega; omega) | (apply WL.mul; rfl; rfl; rfl; rfl; omega; omega) | (apply QL.mul; rfl; rfl; rfl; rfl; omega; omega) | (apply WL.pure; rfl; rfl; rfl) | (apply QL.pure; rfl; rfl; rfl) | (apply WL.nil) | (apply EX.thenN) | (apply CW.seq) | (apply CW.region) | (apply WL.pass; rfl; rfl) | (apply QL.pass; rfl; rfl) | (apply WL.eqB; rfl; rfl; rfl; rfl) | (apply QL.eqB; rfl; rfl; rfl; rfl) | (apply WL.neB; rfl; rfl; rfl; rfl) | (apply QL.neB; rfl; rfl; rfl; rfl) | (apply WL.lenS; rfl; rfl; rfl) | (apply QL.lenS; rfl; rfl; rfl) | (apply WL.makeFunc; rfl; rfl; rfl; rfl) | (apply QL.makeFunc; rfl; rfl; rfl; rfl) | (apply WL.fa; rfl; rfl; rfl) | (apply QL.fa; rfl; rfl; rfl) | (apply WL.nck; rfl; rfl; rfl) | (apply QL.nck; rfl; rfl; rfl) | (apply WL.ld; rfl; rfl; rfl; assumption; rfl) | (apply QL.ld; rfl; rfl; rfl; assumption; rfl) | (apply WL.ldA; rfl; rfl; rfl; assumption; rfl) | (apply QL.ldA; rfl; rfl; rfl; assumption; rfl) | (apply CW.block) | (apply EX.inN) | (apply CW.condT; rfl) | (apply CW.condF; rfl) | (apply CW.exit) | (apply EX.thenX) | (apply EX.inX) | (apply EX.inXne; rfl) | (apply CW.ret) | (apply EX.thenR) | (apply EX.inR) | (apply CW.skip) | (refine WL.lenO rfl rfl rfl (by assumption) ?_) | (apply WL.isNil; rfl; rfl; rfl) | (apply CW.draw; exact mixed; kernel_rfl)))
      refine WL.setN (u := .int .i64 0) (yv := (0 : Int)) rfl rfl rfl rfl ho3 (by rw [List.length_set]; omega) (fun _ => rfl) (fun _ => rfl) (Rd.mkInt _ _ _) (fun w4 q ho4 hg4 => ?_)
      rw [List.set_set] at ho4
      have hE4 : Ext w1 w4 := hE3.grown hg4 hE3.size (fun b hb => (hod.lt b hb).1)
      have hon4 := hon3.keptN hg4 (fun g hg => by rw [hdb]; simpa using hne g hg)
      (repeat (first | (apply WL.add; rfl; rfl; rfl; rfl; omega; omega) | (apply QL.add; rfl; rfl; rfl; rfl; omega; omega) | (apply WL.sub'; rfl; rfl; rfl; rfl; omega; omega) | (apply QL.sub'; rfl; rfl; rfl; rfl; omega; omega) | (apply WL.mul; rfl; rfl; rfl; rfl; omega; omega) | (apply QL.mul; rfl; rfl; rfl; rfl; omega; omega) | (apply WL.pure; rfl; rfl; rfl) | (apply QL.pure; rfl; rfl; rfl) | (apply WL.pass; rfl; rfl) | (apply QL.pass; rfl; rfl) | (apply WL.eqB; rfl; rfl; rfl; rfl) | (apply QL.eqB; rfl; rfl; rfl; rfl) | (apply WL.neB; rfl; rfl; rfl; rfl) | (apply QL.neB; rfl; rfl; rfl; rfl) | (apply WL.lenS; rfl; rfl; rfl) | (apply QL.lenS; rfl; rfl; rfl) | (apply WL.makeFunc; rfl; rfl; rfl; rfl) | (apply QL.makeFunc; rfl; rfl; rfl; rfl) | (apply WL.fa; rfl; rfl; rfl) | (apply QL.fa; rfl; rfl; rfl) | (apply WL.nck; rfl; rfl; rfl) | (apply QL.nck; rfl; rfl; rfl) | (apply WL.ld; rfl; rfl; rfl; assumption; rfl) | (apply QL.ld; rfl; rfl; rfl; assumption; rfl) | (apply WL.ldA; rfl; rfl; rfl; assumption; rfl) | (apply QL.ldA; rfl; rfl; rfl; assumption; rfl) | (refine WL.lenO rfl rfl rfl (by assumption) ?_) | (apply WL.isNil; rfl; rfl; rfl)))
      apply WL.nil
      apply EX.thenN
      apply CW.region
      (repeat (first | (apply WL.add; rfl; rfl; rfl; rfl; omega; omega) | (apply QL.add; rfl; rfl; rfl; rfl; omega; omega) | (apply WL.sub'; rfl; rfl; rfl; rfl; omega; omega) | (apply QL.sub'; rfl; rfl; rfl; rfl; omega; omega) | (apply WL.mul; rfl; rfl; rfl; rfl; omega; omega) | (apply QL.mul; rfl; rfl; rfl; rfl; omega; omega) | (apply WL.pure; rfl; rfl; rfl) | (apply QL.pure; rfl; rfl; rfl) | (apply WL.pass; rfl; rfl) | (apply QL.pass; rfl; rfl) | (apply WL.eqB; rfl; rfl; rfl; rfl) | (apply QL.eqB; rfl; rfl; rfl; rfl) | (apply WL.neB; rfl; rfl; rfl; rfl) | (apply QL.neB; rfl; rfl; rfl; rfl) | (apply WL.lenS; rfl; rfl; rfl) | (apply QL.lenS; rfl; rfl; rfl) | (apply WL.makeFunc; rfl; rfl; rfl; rfl) | (apply QL.makeFunc; rfl; rfl; rfl; rfl) | (apply WL.fa; rfl; rfl; rfl) | (apply QL.fa; rfl; rfl; rfl) | (apply WL.nck; rfl; rfl; rfl) | (apply QL.nck; rfl; rfl; rfl) | (apply WL.ld; rfl; rfl; rfl; assumption; rfl) | (apply QL.ld; rfl; rfl; rfl; assumption; rfl) | (apply WL.ldA; rfl; rfl; rfl; assumption; rfl) | (apply QL.ldA; rfl; rfl; rfl; assumption; rfl) | (refine WL.lenO rfl rfl rfl (by assumption) ?_) | (apply WL.isNil; rfl; rfl; rfl)))
      refine WL.app1 (F := Non) (yv := (n : Int)) rfl rfl (fun _ => rfl) rfl rfl (fun _ => rfl) hon4 (Rd.mkInt _ _ _) hE4.size (fun _ h => h.elim) (by decide) (by unfold maxLen; omega) (by omega) (fun v' w5 p ho5 hg5 hnb => ?_)
      have hE5 : Ext w1 w5 := hE4.grown hg5 hE4.size (fun b hb => (hon4.lt b hb).1)
      have hd5 := ho4.keptN hg5 (fun g hg e => by rw [hdb] at hg; cases hg; exact hne _ e.symm rfl)
      (repeat (first | (apply WL.add; rfl; rfl; rfl; rfl; omega; omega) | (apply QL.add; rfl; rfl; rfl; rfl; omega; omega) | (apply WL.sub'; rfl; rfl; rfl; rfl; omega; omega) | (apply QL.sub'; rfl; rfl; rfl; rfl; omega; omega) | (apply WL.mul; rfl; rfl; rfl; rfl; omega; omega) | (apply QL.mul; rfl; rfl; rfl; rfl; omega; omega) | (apply WL.pure; rfl; rfl; rfl) | (apply QL.pure; rfl; rfl; rfl) | (apply WL.nil) | (apply EX.thenN) | (apply CW.seq) | (apply CW.region) | (apply WL.pass; rfl; rfl) | (apply QL.pass; rfl; rfl) | (apply WL.eqB; rfl; rfl; rfl; rfl) | (apply QL.eqB; rfl; rfl; rfl; rfl) | (apply WL.neB; rfl; rfl; rfl; rfl) | (apply QL.neB; rfl; rfl; rfl; rfl) | (apply WL.lenS; rfl; rfl; rfl) | (apply QL.lenS; rfl; rfl; rfl) | (apply WL.makeFunc; rfl; rfl; rfl; rfl) | (apply QL.makeFunc; rfl; rfl; rfl; rfl) | (apply WL.fa; rfl; rfl; rfl) | (apply QL.fa; rfl; rfl; rfl) | (apply WL.nck; rfl; rfl; rfl) | (apply QL.nck; rfl; rfl; rfl) | (apply WL.ld; rfl; rfl; rfl; assumption; rfl) | (apply QL.ld; rfl; rfl; rfl; assumption; rfl) | (apply WL.ldA; rfl; rfl; rfl; assumption; rfl) | (apply QL.ldA; rfl; rfl; rfl; assumption; rfl) | (apply CW.block) | (apply EX.inN) | (apply CW.condT; rfl) | (apply CW.condF; rfl) | (apply CW.exit) | (apply EX.thenX) | (apply EX.inX) | (apply EX.inXne; rfl) | (apply CW.ret) | (apply EX.thenR) | (apply EX.inR) | (apply CW.skip) | (refine WL.lenO rfl rfl rfl (by assumption) ?_) | (apply WL.isNil; rfl; rfl; rfl) | (apply CW.draw; exact mixed; kernel_rfl)))
      refine EX.back (n + 1, d.set n 0, v') (by repeat (first | exact trivial | refine ⟨rfl, ?_⟩)) ⟨hlt, by simp [hdl], eD, hd5, ?_, ?_, hE5⟩ (by simp only; omega)
      · dsimp only; rw [farN_next hlt, if_pos hb]; exact ho5
      · intro b hb'
        rcases hnb b hb' with h | h
        · exact hne b h
        · have := (ho4.lt _ hdb).2.1; omega
    · rw [if_neg (by simp [hb])] at eD
      (repeat (first | (apply WL.add; rfl; rfl; rfl; rfl; omega; omega) | (apply QL.add; rfl; rfl; rfl; rfl; omega; omega) | (apply WL.sub'; rfl; rfl; rfl; rfl; omega; omega) | (apply QL.sub'; rfl; rfl; rfl; rfl; omega; omega) | (apply WL.mul; rfl; rfl; rfl; rfl; omega; omega) | (apply QL.mul; rfl; rfl; rfl; rfl; omega; omega) | (apply WL.pure; rfl; rfl; rfl) | (apply QL.pure; rfl; rfl; rfl) | (apply WL.nil) | (apply EX.thenN) | (apply CW.seq) | (apply CW.region) | (apply WL.pass; rfl; rfl) | (apply QL.pass; rfl; rfl) | (apply WL.eqB; rfl; rfl; rfl; rfl) | (apply QL.eqB; rfl; rfl; rfl; rfl) | (apply WL.neB; rfl; rfl; rfl; rfl) | (apply QL.neB; rfl; rfl; rfl; rfl) | (apply WL.lenS; rfl; rfl; rfl) | (apply QL.lenS; rfl; rfl; rfl) | (apply WL.makeFunc; rfl; rfl; rfl; rfl) | (apply QL.makeFunc; rfl; rfl; rfl; rfl) | (apply WL.fa; rfl; rfl; rfl) | (apply QL.fa; rfl; rfl; rfl) | (apply WL.nck; rfl; rfl; rfl) | (apply QL.nck; rfl; rfl; rfl) | (apply WL.ld; rfl; rfl; rfl; assumption; rfl) | (apply QL.ld; rfl; rfl; rfl; assumption; rfl) | (apply WL.ldA; rfl; rfl; rfl; assumption; rfl) | (apply QL.ldA; rfl; rfl; rfl; assumption; rfl) | (apply CW.block) | (apply EX.inN) | (apply CW.condT; rfl) | (apply CW.condF; rfl) | (apply CW.exit) | (apply EX.thenX) | (apply EX.inX) | (apply EX.inXne; rfl) | (apply CW.ret) | (apply EX.thenR) | (apply EX.inR) | (apply CW.skip) | (refine WL.lenO rfl rfl rfl (by assumption) ?_) | (apply WL.isNil; rfl; rfl; rfl) | (apply CW.draw; exact mixed; kernel_rfl)))
      refine EX.back (n + 1, d.set n (-1), nv) (by repeat (first | exact trivial | refine ⟨rfl, ?_⟩)) ⟨hlt, by simp [hdl], eD, ho3, ?_, hne, hE3⟩ (by simp only; omega)
      dsimp only; rw [farN_next hlt, if_neg (by simp [hb]), List.append_nil]; exact hon3
  · simp at hlt
    have : n = to.length := by omega
    subst this
    have hd0 : d = farD to := by
      apply List.ext_getElem (by rw [hdl]; simp [farD, htl])
      intro k h1 h2
      have := hpre k (by omega)
      rwa [getD_at h1, getD_at h2] at this
    subst hd0
    have hI := FInv.start htl
    have hmeas : (farN to to.length).length + negs (farD to) ≤ 2 * g.length + 2 := by
      have := farD_negs to
      omega
    have hres : ∀ f, (farN to to.length).length + negs (farD to) ≤ f → farGo (turnL g) f (farD to) (farN to to.length) = farL g to := fun f hf => farGo_fuel f _ _ _ hI hf hmeas
    (repeat (first | (apply WL.add; rfl; rfl; rfl; rfl; omega; omega) | (apply QL.add; rfl; rfl; rfl; rfl; omega; omega) | (apply WL.sub'; rfl; rfl; rfl; rfl; omega; omega) | (apply QL.sub'; rfl; rfl; rfl; rfl; omega; omega) | (apply WL.mul; rfl; rfl; rfl; rfl; omega; omega) | (apply QL.mul; rfl; rfl; rfl; rfl; omega; omega) | (apply WL.pure; rfl; rfl; rfl) | (apply QL.pure; rfl; rfl; rfl) | (apply WL.nil) | (apply EX.thenN) | (apply CW.seq) | (apply CW.region) | (apply WL.pass; rfl; rfl) | (apply QL.pass; rfl; rfl) | (apply WL.eqB; rfl; rfl; rfl; rfl) | (apply QL.eqB; rfl; rfl; rfl; rfl) | (apply WL.neB; rfl; rfl; rfl; rfl) | (apply QL.neB; rfl; rfl; rfl; rfl) | (apply WL.lenS; rfl; rfl; rfl) | (apply QL.lenS; rfl; rfl; rfl) | (apply WL.makeFunc; rfl; rfl; rfl; rfl) | (apply QL.makeFunc; rfl; rfl; rfl; rfl) | (apply WL.fa; rfl; rfl; rfl) | (apply QL.fa; rfl; rfl; rfl) | (apply WL.nck; rfl; rfl; rfl) | (apply QL.nck; rfl; rfl; rfl) | (apply WL.ld; rfl; rfl; rfl; assumption; rfl) | (apply QL.ld; rfl; rfl; rfl; assumption; rfl) | (apply WL.ldA; rfl; rfl; rfl; assumption; rfl) | (apply QL.ldA; rfl; rfl; rfl; assumption; rfl) | (apply CW.block) | (apply EX.inN) | (apply CW.condT; rfl) | (apply CW.condF; rfl) | (apply CW.exit) | (apply EX.thenX) | (apply EX.inX) | (apply EX.inXne; rfl) | (apply CW.ret) | (apply EX.thenR) | (apply EX.inR) | (apply CW.skip) | (refine WL.lenO rfl rfl rfl (by assumption) ?_) | (apply WL.isNil; rfl; rfl; rfl) | (apply CW.draw; exact mixed; kernel_rfl)))
    refine CW.loop (S := List Int × List Int × Value) (fun s => [(5, bv), (6, dv), (7, s.2.2)])
      (fun s w => FInv g to s.1 s.2.1 none ∧ (∀ f, s.2.1.length + negs s.1 ≤ f → farGo (turnL g) f s.1 s.2.1 = farL g to) ∧ s.2.1.length + negs s.1 ≤ 2 * g.length + 2 ∧ Own w w1.heap.size 3 Non dv s.1 ∧ Own w w1.heap.size 3 Non s.2.2 s.2.1 ∧ (∀ b, s.2.2.ownBlock = some b → b ≠ w1.heap.size) ∧ Ext w1 w) (fun s => s.2.1.length + negs s.1) (farD to, farN to to.length, nv) (by repeat (first | exact trivial | refine ⟨rfl, ?_⟩)) ⟨hI, hres, hmeas, hod, hon, hne, hE⟩ ?_
    rintro ⟨d, now, nv⟩ w ⟨hI, hres, hm, hod, hon, hne, hE⟩
    dsimp only at hI hres hm hod hon hne
    (repeat (first | (apply WL.add; rfl; rfl; rfl; rfl; omega; omega) | (apply QL.add; rfl; rfl; rfl; rfl; omega; omega) | (apply WL.sub'; rfl; rfl; rfl; rfl; omega; omega) | (apply QL.sub'; rfl; rfl; rfl; rfl; omega; omega) | (apply WL.mul; rfl; rfl; rfl; rfl; omega; omega) | (apply QL.mul; rfl; rfl; rfl; rfl; omega; omega) | (apply WL.pure; rfl; rfl; rfl) | (apply QL.pure; rfl; rfl; rfl) | (apply WL.nil) | (apply EX.thenN) | (apply CW.seq) | (apply CW.region) | (apply WL.pass; rfl; rfl) | (apply QL.pass; rfl; rfl) | (apply WL.eqB; rfl; rfl; rfl; rfl) | (apply QL.eqB; rfl; rfl; rfl; rfl) | (apply WL.neB; rfl; rfl; rfl; rfl) | (apply QL.neB; rfl; rfl; rfl; rfl) | (apply WL.lenS; rfl; rfl; rfl) | (apply QL.lenS; rfl; rfl; rfl) | (apply WL.makeFunc; rfl; rfl; rfl; rfl) | (apply QL.makeFunc; rfl; rfl; rfl; rfl) | (apply WL.fa; rfl; rfl; rfl) | (apply QL.fa; rfl; rfl; rfl) | (apply WL.nck; rfl; rfl; rfl) | (apply QL.nck; rfl; rfl; rfl) | (apply WL.ld; rfl; rfl; rfl; assumption; rfl) | (apply QL.ld; rfl; rfl; rfl; assumption; rfl) | (apply WL.ldA; rfl; rfl; rfl; assumption; rfl) | (apply QL.ldA; rfl; rfl; rfl; assumption; rfl) | (apply CW.block) | (apply EX.inN) | (apply CW.condT; rfl) | (apply CW.condF; rfl) | (apply CW.exit) | (apply EX.thenX) | (apply EX.inX) | (apply EX.inXne; rfl) | (apply CW.ret) | (apply EX.thenR) | (apply EX.inR) | (apply CW.skip) | (refine WL.lenO rfl rfl rfl (by assumption) ?_) | (apply WL.isNil; rfl; rfl; rfl) | (apply CW.draw; exact mixed; kernel_rfl)))
    refine CW.cond rfl (fun h0 => ?_) (fun h0 => ?_)
    · simp at h0
      match now, h0 with
      | x :: r, _ =>
      obtain ⟨m, rfl, hmg, hp⟩ := hI.pop
      have hml : m < bs.length := by have := hN1.len; rw [turnL_len] at this; omega
      have hNw := hN1.ext hE
      have hmt : m < (turnL g).length := by rw [turnL_len]; exact hmg
      have erow : (turnL g)[m] = (turnL g).getD m [] := by rw [List.getD_eq_getElem?_getD, List.getElem?_eq_getElem hmt]; rfl
      have hin := hNw.inn m hml hmt
      rw [erow] at hin
      have hrow := (hin.oldN)
      obtain ⟨io, ic, hiv, hrs⟩ := hrow.sl
      have hrl := hrs.len63
      generalize hrw : (turnL g).getD m [] = row at *
      (repeat (first | (apply WL.add; rfl; rfl; rfl; rfl; omega; omega) | (apply QL.add; rfl; rfl; rfl; rfl; omega; omega) | (apply WL.sub'; rfl; rfl; rfl; rfl; omega; omega) | (apply QL.sub'; rfl; rfl; rfl; rfl; omega; omega) | (apply WL.mul; rfl; rfl; rfl; rfl; omega; omega) | (apply QL.mul; rfl; rfl; rfl; rfl; omega; omega) | (apply WL.pure; rfl; rfl; rfl) | (apply QL.pure; rfl; rfl; rfl) | (apply WL.nil) | (apply EX.thenN) | (apply CW.seq) | (apply CW.region) | (apply WL.pass; rfl; rfl) | (apply QL.pass; rfl; rfl) | (apply WL.eqB; rfl; rfl; rfl; rfl) | (apply QL.eqB; rfl; rfl; rfl; rfl) | (apply WL.neB; rfl; rfl; rfl; rfl) | (apply QL.neB; rfl; rfl; rfl; rfl) | (apply WL.lenS; rfl; rfl; rfl) | (apply QL.lenS; rfl; rfl; rfl) | (apply WL.makeFunc; rfl; rfl; rfl; rfl) | (apply QL.makeFunc; rfl; rfl; rfl; rfl) | (apply WL.fa; rfl; rfl; rfl) | (apply QL.fa; rfl; rfl; rfl) | (apply WL.nck; rfl; rfl; rfl) | (apply QL.nck; rfl; rfl; rfl) | (apply WL.ld; rfl; rfl; rfl; assumption; rfl) | (apply QL.ld; rfl; rfl; rfl; assumption; rfl) | (apply WL.ldA; rfl; rfl; rfl; assumption; rfl) | (apply QL.ldA; rfl; rfl; rfl; assumption; rfl) | (apply CW.block) | (apply EX.inN) | (apply CW.condT; rfl) | (apply CW.condF; rfl) | (apply CW.exit) | (apply EX.thenX) | (apply EX.inX) | (apply EX.inXne; rfl) | (apply CW.ret) | (apply EX.thenR) | (apply EX.inR) | (apply CW.skip) | (refine WL.lenO rfl rfl rfl (by assumption) ?_) | (apply WL.isNil; rfl; rfl; rfl) | (apply CW.draw; exact mixed; kernel_rfl)))
      refine WL.elemO rfl rfl rfl rfl rfl hon (by omega) (by simp) (fun _ => rfl) (fun u q hu => ?_)
      obtain rfl := hu.int
      simp only [Int.toNat_zero, List.getElem_cons_zero]
      (repeat (first | (apply WL.add; rfl; rfl; rfl; rfl; omega; omega) | (apply QL.add; rfl; rfl; rfl; rfl; omega; omega) | (apply WL.sub'; rfl; rfl; rfl; rfl; omega; omega) | (apply QL.sub'; rfl; rfl; rfl; rfl; omega; omega) | (apply WL.mul; rfl; rfl; rfl; rfl; omega; omega) | (apply QL.mul; rfl; rfl; rfl; rfl; omega; omega) | (apply WL.pure; rfl; rfl; rfl) | (apply QL.pure; rfl; rfl; rfl) | (apply WL.nil) | (apply EX.thenN) | (apply CW.seq) | (apply CW.region) | (apply WL.pass; rfl; rfl) | (apply QL.pass; rfl; rfl) | (apply WL.eqB; rfl; rfl; rfl; rfl) | (apply QL.eqB; rfl; rfl; rfl; rfl) | (apply WL.neB; rfl; rfl; rfl; rfl) | (apply QL.neB; rfl; rfl; rfl; rfl) | (apply WL.lenS; rfl; rfl; rfl) | (apply QL.lenS; rfl; rfl; rfl) | (apply WL.makeFunc; rfl; rfl; rfl; rfl) | (apply QL.makeFunc; rfl; rfl; rfl; rfl) | (apply WL.fa; rfl; rfl; rfl) | (apply QL.fa; rfl; rfl; rfl) | (apply WL.nck; rfl; rfl; rfl) | (apply QL.nck; rfl; rfl; rfl) | (apply WL.ld; rfl; rfl; rfl; assumption; rfl) | (apply QL.ld; rfl; rfl; rfl; assumption; rfl) | (apply WL.ldA; rfl; rfl; rfl; assumption; rfl) | (apply QL.ldA; rfl; rfl; rfl; assumption; rfl) | (apply CW.block) | (apply EX.inN) | (apply CW.condT; rfl) | (apply CW.condF; rfl) | (apply CW.exit) | (apply EX.thenX) | (apply EX.inX) | (apply EX.inXne; rfl) | (apply CW.ret) | (apply EX.thenR) | (apply EX.inR) | (apply CW.skip) | (refine WL.lenO rfl rfl rfl (by assumption) ?_) | (apply WL.isNil; rfl; rfl; rfl) | (apply CW.draw; exact mixed; kernel_rfl)))
      refine WL.cutLoO (α := Int) 1 rfl rfl rfl rfl rfl hon (by simp) (fun nv2 hon2 hnb => ?_)
      simp only [List.drop_succ_cons, List.drop_zero] at hon2
      have hne2 : ∀ b, nv2.ownBlock = some b → b ≠ w1.heap.size := fun b hb => hne b (by rw [← hnb]; exact hb)
      (repeat (first | (apply WL.add; rfl; rfl; rfl; rfl; omega; omega) | (apply QL.add; rfl; rfl; rfl; rfl; omega; omega) | (apply WL.sub'; rfl; rfl; rfl; rfl; omega; omega) | (apply QL.sub'; rfl; rfl; rfl; rfl; omega; omega) | (apply WL.mul; rfl; rfl; rfl; rfl; omega; omega) | (apply QL.mul; rfl; rfl; rfl; rfl; omega; omega) | (apply WL.pure; rfl; rfl; rfl) | (apply QL.pure; rfl; rfl; rfl) | (apply WL.nil) | (apply EX.thenN) | (apply CW.seq) | (apply CW.region) | (apply WL.pass; rfl; rfl) | (apply QL.pass; rfl; rfl) | (apply WL.eqB; rfl; rfl; rfl; rfl) | (apply QL.eqB; rfl; rfl; rfl; rfl) | (apply WL.neB; rfl; rfl; rfl; rfl) | (apply QL.neB; rfl; rfl; rfl; rfl) | (apply WL.lenS; rfl; rfl; rfl) | (apply QL.lenS; rfl; rfl; rfl) | (apply WL.makeFunc; rfl; rfl; rfl; rfl) | (apply QL.makeFunc; rfl; rfl; rfl; rfl) | (apply WL.fa; rfl; rfl; rfl) | (apply QL.fa; rfl; rfl; rfl) | (apply WL.nck; rfl; rfl; rfl) | (apply QL.nck; rfl; rfl; rfl) | (apply WL.ld; rfl; rfl; rfl; assumption; rfl) | (apply QL.ld; rfl; rfl; rfl; assumption; rfl) | (apply WL.ldA; rfl; rfl; rfl; assumption; rfl) | (apply QL.ldA; rfl; rfl; rfl; assumption; rfl) | (apply CW.block) | (apply EX.inN) | (apply CW.condT; rfl) | (apply CW.condF; rfl) | (apply CW.exit) | (apply EX.thenX) | (apply EX.inX) | (apply EX.inXne; rfl) | (apply CW.ret) | (apply EX.thenR) | (apply EX.inR) | (apply CW.skip) | (refine WL.lenO rfl rfl rfl (by assumption) ?_) | (apply WL.isNil; rfl; rfl; rfl) | (apply CW.draw; exact mixed; kernel_rfl)))
      refine WL.elemON rfl rfl rfl rfl rfl hNw.out hml (fun _ => rfl) (fun u q hu => ?_)
      obtain ⟨rfl, _⟩ := hu.raw
      rw [hiv]
      (repeat (first | (apply WL.add; rfl; rfl; rfl; rfl; omega; omega) | (apply QL.add; rfl; rfl; rfl; rfl; omega; omega) | (apply WL.sub'; rfl; rfl; rfl; rfl; omega; omega) | (apply QL.sub'; rfl; rfl; rfl; rfl; omega; omega) | (apply WL.mul; rfl; rfl; rfl; rfl; omega; omega) | (apply QL.mul; rfl; rfl; rfl; rfl; omega; omega) | (apply WL.pure; rfl; rfl; rfl) | (apply QL.pure; rfl; rfl; rfl) | (apply WL.nil) | (apply EX.thenN) | (apply CW.seq) | (apply CW.region) | (apply WL.pass; rfl; rfl) | (apply QL.pass; rfl; rfl) | (apply WL.eqB; rfl; rfl; rfl; rfl) | (apply QL.eqB; rfl; rfl; rfl; rfl) | (apply WL.neB; rfl; rfl; rfl; rfl) | (apply QL.neB; rfl; rfl; rfl; rfl) | (apply WL.lenS; rfl; rfl; rfl) | (apply QL.lenS; rfl; rfl; rfl) | (apply WL.makeFunc; rfl; rfl; rfl; rfl) | (apply QL.makeFunc; rfl; rfl; rfl; rfl) | (apply WL.fa; rfl; rfl; rfl) | (apply QL.fa; rfl; rfl; rfl) | (apply WL.nck; rfl; rfl; rfl) | (apply QL.nck; rfl; rfl; rfl) | (apply WL.ld; rfl; rfl; rfl; assumption; rfl) | (apply QL.ld; rfl; rfl; rfl; assumption; rfl) | (apply WL.ldA; rfl; rfl; rfl; assumption; rfl) | (apply QL.ldA; rfl; rfl; rfl; assumption; rfl) | (apply CW.block) | (apply EX.inN) | (apply CW.condT; rfl) | (apply CW.condF; rfl) | (apply CW.exit) | (apply EX.thenX) | (apply EX.inX) | (apply EX.inXne; rfl) | (apply CW.ret) | (apply EX.thenR) | (apply EX.inR) | (apply CW.skip) | (refine WL.lenO rfl rfl rfl (by assumption) ?_) | (apply WL.isNil; rfl; rfl; rfl) | (apply CW.draw; exact mixed; kernel_rfl)))
      have hm' : r.length + 1 + negs d ≤ 2 * g.length + 2 := by simpa using hm
      refine CW.loop (S := Nat × List Int × List Int × Value) (fun s => [(5, bv), (6, dv), (7, s.2.2.2), (10, .int .i64 m), (48, .slice io row.length ic), (49, .int .i64 row.length), (50, .int .i64 s.1)])
        (fun s w => s.1 ≤ row.length ∧ (s.2.1, s.2.2.1) = (row.take s.1).foldl (farStep m) (d, r) ∧ FInv g to s.2.1 s.2.2.1 (some (m, s.1)) ∧ s.2.2.1.length + negs s.2.1 = r.length + negs d ∧ Own w w1.heap.size 3 Non dv s.2.1 ∧ Own w w1.heap.size 3 Non s.2.2.2 s.2.2.1 ∧ (∀ b, s.2.2.2.ownBlock = some b → b ≠ w1.heap.size) ∧ Ext w1 w) (fun s => row.length - s.1) (0, d, r, nv2) (by repeat (first | exact trivial | refine ⟨rfl, ?_⟩)) ⟨by omega, rfl, hp, rfl, hod, hon2, hne2, hE⟩ ?_
      rintro ⟨j, d2, now2, nv3⟩ w3 ⟨hj, hfold, hI3, hm3, hod3, hon3, hne3, hE3⟩
      dsimp only at hj hfold hI3 hm3 hod3 hon3 hne3
      (repeat (first | (apply WL.add; rfl; rfl; rfl; rfl; omega; omega) | (apply QL.add; rfl; rfl; rfl; rfl; omega; omega) | (apply WL.sub'; rfl; rfl; rfl; rfl; omega; omega) | (apply QL.sub'; rfl; rfl; rfl; rfl; omega; omega) | (apply WL.mul; rfl; rfl; rfl; rfl; omega; omega) | (apply QL.mul; rfl; rfl; rfl; rfl; omega; omega) | (apply WL.pure; rfl; rfl; rfl) | (apply QL.pure; rfl; rfl; rfl) | (apply WL.nil) | (apply EX.thenN) | (apply CW.seq) | (apply CW.region) | (apply WL.pass; rfl; rfl) | (apply QL.pass; rfl; rfl) | (apply WL.eqB; rfl; rfl; rfl; rfl) | (apply QL.eqB; rfl; rfl; rfl; rfl) | (apply WL.neB; rfl; rfl; rfl; rfl) | (apply QL.neB; rfl; rfl; rfl; rfl) | (apply WL.lenS; rfl; rfl; rfl) | (apply QL.lenS; rfl; rfl; rfl) | (apply WL.makeFunc; rfl; rfl; rfl; rfl) | (apply QL.makeFunc; rfl; rfl; rfl; rfl) | (apply WL.fa; rfl; rfl; rfl) | (apply QL.fa; rfl; rfl; rfl) | (apply WL.nck; rfl; rfl; rfl) | (apply QL.nck; rfl; rfl; rfl) | (apply WL.ld; rfl; rfl; rfl; assumption; rfl) | (apply QL.ld; rfl; rfl; rfl; assumption; rfl) | (apply WL.ldA; rfl; rfl; rfl; assumption; rfl) | (apply QL.ldA; rfl; rfl; rfl; assumption; rfl) | (apply CW.block) | (apply EX.inN) | (apply CW.condT; rfl) | (apply CW.condF; rfl) | (apply CW.exit) | (apply EX.thenX) | (apply EX.inX) | (apply EX.inXne; rfl) | (apply CW.ret) | (apply EX.thenR) | (apply EX.inR) | (apply CW.skip) | (refine WL.lenO rfl rfl rfl (by assumption) ?_) | (apply WL.isNil; rfl; rfl; rfl) | (apply CW.draw; exact mixed; kernel_rfl)))
      refine CW.cond rfl (fun h1 => ?_) (fun h1 => ?_)
      · simp at h1
        have hrow3 : Sl w3 (Old w1) io ic row := by
          have := (hN1.inn m hml hmt)
          rw [erow] at this
          obtain ⟨a, b, e1, e2⟩ := this.oldN.sl
          rw [hiv] at e1
          obtain ⟨rfl, _, rfl⟩ := Value.slice.inj e1
          exact e2.at hE3
        have hst := hI3.step (j := j) (k := row[j]) (by rw [hrw]; exact h1) (by simp only [hrw])
        have hfold' : farStep m (d2, now2) row[j] = (row.take (j + 1)).foldl (farStep m) (d, r) := by
          rw [List.take_succ_eq_append_getElem h1, List.foldl_append, ← hfold]; rfl
        have hk : 0 ≤ row[j] ∧ row[j] < g.length := by
          have := turnL_ok g _ (List.getElem_mem hmt) row[j] (by rw [erow]; exact List.getElem_mem h1)
          rwa [turnL_len] at this
        have hmd := (hI3.curd m j rfl).1
        have hmv := (hI3.curd m j rfl).2.1
        have hle := hI3.le m hmd
        obtain ⟨k, ek⟩ := Int.eq_ofNat_of_zero_le hk.1
        rw [ek] at hst hfold'
        have hkd : k < d2.length := by rw [hI3.len]; omega
        (repeat (first | (apply WL.add; rfl; rfl; rfl; rfl; omega; omega) | (apply QL.add; rfl; rfl; rfl; rfl; omega; omega) | (apply WL.sub'; rfl; rfl; rfl; rfl; omega; omega) | (apply QL.sub'; rfl; rfl; rfl; rfl; omega; omega) | (apply WL.mul; rfl; rfl; rfl; rfl; omega; omega) | (apply QL.mul; rfl; rfl; rfl; rfl; omega; omega) | (apply WL.pure; rfl; rfl; rfl) | (apply QL.pure; rfl; rfl; rfl) | (apply WL.nil) | (apply EX.thenN) | (apply CW.seq) | (apply CW.region) | (apply WL.pass; rfl; rfl) | (apply QL.pass; rfl; rfl) | (apply WL.eqB; rfl; rfl; rfl; rfl) | (apply QL.eqB; rfl; rfl; rfl; rfl) | (apply WL.neB; rfl; rfl; rfl; rfl) | (apply QL.neB; rfl; rfl; rfl; rfl) | (apply WL.lenS; rfl; rfl; rfl) | (apply QL.lenS; rfl; rfl; rfl) | (apply WL.makeFunc; rfl; rfl; rfl; rfl) | (apply QL.makeFunc; rfl; rfl; rfl; rfl) | (apply WL.fa; rfl; rfl; rfl) | (apply QL.fa; rfl; rfl; rfl) | (apply WL.nck; rfl; rfl; rfl) | (apply QL.nck; rfl; rfl; rfl) | (apply WL.ld; rfl; rfl; rfl; assumption; rfl) | (apply QL.ld; rfl; rfl; rfl; assumption; rfl) | (apply WL.ldA; rfl; rfl; rfl; assumption; rfl) | (apply QL.ldA; rfl; rfl; rfl; assumption; rfl) | (apply CW.block) | (apply EX.inN) | (apply CW.condT; rfl) | (apply CW.condF; rfl) | (apply CW.exit) | (apply EX.thenX) | (apply EX.inX) | (apply EX.inXne; rfl) | (apply CW.ret) | (apply EX.thenR) | (apply EX.inR) | (apply CW.skip) | (refine WL.lenO rfl rfl rfl (by assumption) ?_) | (apply WL.isNil; rfl; rfl; rfl) | (apply CW.draw; exact mixed; kernel_rfl)))
        refine WL.elemI rfl rfl rfl rfl rfl hrow3 h1 ek (fun _ => rfl) (fun q => ?_)
        (repeat (first | (apply WL.add; rfl; rfl; rfl; rfl; omega; omega) | (apply QL.add; rfl; rfl; rfl; rfl; omega; omega) | (apply WL.sub'; rfl; rfl; rfl; rfl; omega; omega) | (apply QL.sub'; rfl; rfl; rfl; rfl; omega; omega) | (apply WL.mul; rfl; rfl; rfl; rfl; omega; omega) | (apply QL.mul; rfl; rfl; rfl; rfl; omega; omega) | (apply WL.pure; rfl; rfl; rfl) | (apply QL.pure; rfl; rfl; rfl) | (apply WL.nil) | (apply EX.thenN) | (apply CW.seq) | (apply CW.region) | (apply WL.pass; rfl; rfl) | (apply QL.pass; rfl; rfl) | (apply WL.eqB; rfl; rfl; rfl; rfl) | (apply QL.eqB; rfl; rfl; rfl; rfl) | (apply WL.neB; rfl; rfl; rfl; rfl) | (apply QL.neB; rfl; rfl; rfl; rfl) | (apply WL.lenS; rfl; rfl; rfl) | (apply QL.lenS; rfl; rfl; rfl) | (apply WL.makeFunc; rfl; rfl; rfl; rfl) | (apply QL.makeFunc; rfl; rfl; rfl; rfl) | (apply WL.fa; rfl; rfl; rfl) | (apply QL.fa; rfl; rfl; rfl) | (apply WL.nck; rfl; rfl; rfl) | (apply QL.nck; rfl; rfl; rfl) | (apply WL.ld; rfl; rfl; rfl; assumption; rfl) | (apply QL.ld; rfl; rfl; rfl; assumption; rfl) | (apply WL.ldA; rfl; rfl; rfl; assumption; rfl) | (apply QL.ldA; rfl; rfl; rfl; assumption; rfl) | (apply CW.block) | (apply EX.inN) | (apply CW.condT; rfl) | (apply CW.condF; rfl) | (apply CW.exit) | (apply EX.thenX) | (apply EX.inX) | (apply EX.inXne; rfl) | (apply CW.ret) | (apply EX.thenR) | (apply EX.inR) | (apply CW.skip) | (refine WL.lenO rfl rfl rfl (by assumption) ?_) | (apply WL.isNil; rfl; rfl; rfl) | (apply CW.draw; exact mixed; kernel_rfl)))
        refine WL.elemON rfl rfl rfl rfl rfl hod3 hkd (fun _ => rfl) (fun u q hu => ?_)
        obtain rfl := hu.int
        (repeat (first | (apply WL.add; rfl; rfl; rfl; rfl; omega; omega) | (apply QL.add; rfl; rfl; rfl; rfl; omega; omega) | (apply WL.sub'; rfl; rfl; rfl; rfl; omega; omega) | (apply QL.sub'; rfl; rfl; rfl; rfl; omega; omega) | (apply WL.mul; rfl; rfl; rfl; rfl; omega; omega) | (apply QL.mul; rfl; rfl; rfl; rfl; omega; omega) | (apply WL.pure; rfl; rfl; rfl) | (apply QL.pure; rfl; rfl; rfl) | (apply WL.nil) | (apply EX.thenN) | (apply CW.seq) | (apply CW.region) | (apply WL.pass; rfl; rfl) | (apply QL.pass; rfl; rfl) | (apply WL.eqB; rfl; rfl; rfl; rfl) | (apply QL.eqB; rfl; rfl; rfl; rfl) | (apply WL.neB; rfl; rfl; rfl; rfl) | (apply QL.neB; rfl; rfl; rfl; rfl) | (apply WL.lenS; rfl; rfl; rfl) | (apply QL.lenS; rfl; rfl; rfl) | (apply WL.makeFunc; rfl; rfl; rfl; rfl) | (apply QL.makeFunc; rfl; rfl; rfl; rfl) | (apply WL.fa; rfl; rfl; rfl) | (apply QL.fa; rfl; rfl; rfl) | (apply WL.nck; rfl; rfl; rfl) | (apply QL.nck; rfl; rfl; rfl) | (apply WL.ld; rfl; rfl; rfl; assumption; rfl) | (apply QL.ld; rfl; rfl; rfl; assumption; rfl) | (apply WL.ldA; rfl; rfl; rfl; assumption; rfl) | (apply QL.ldA; rfl; rfl; rfl; assumption; rfl) | (apply CW.block) | (apply EX.inN) | (apply CW.condT; rfl) | (apply CW.condF; rfl) | (apply CW.exit) | (apply EX.thenX) | (apply EX.inX) | (apply EX.inXne; rfl) | (apply CW.ret) | (apply EX.thenR) | (apply EX.inR) | (apply CW.skip) | (refine WL.lenO rfl rfl rfl (by assumption) ?_) | (apply WL.isNil; rfl; rfl; rfl) | (apply CW.draw; exact mixed; kernel_rfl)))
        refine CW.cond rfl (fun h2 => ?_) (fun h2 => ?_)
        · have h2 : d2[k] < 0 := by simpa using h2
          have eS : farStep m (d2, now2) (k : Int) = (d2.set k (d2[m] + 1), now2 ++ [(k : Int)]) := by
            unfold farStep
            simp only [Int.toNat_natCast, getD_at hkd, getD_at hmd]
            rw [if_pos h2]
          rw [eS] at hst hfold'
          dsimp only at hst
          (repeat (first | (apply WL.add; rfl; rfl; rfl; rfl; omega; omega) | (apply QL.add; rfl; rfl; rfl; rfl; omega; omega) | (apply WL.sub'; rfl; rfl; rfl; rfl; omega; omega) | (apply QL.sub'; rfl; rfl; rfl; rfl; omega; omega) | (apply WL.mul; rfl; rfl; rfl; rfl; omega; omega) | (apply QL.mul; rfl; rfl; rfl; rfl; omega; omega) | (apply WL.pure; rfl; rfl; rfl) | (apply QL.pure; rfl; rfl; rfl) | (apply WL.nil) | (apply EX.thenN) | (apply CW.seq) | (apply CW.region) | (apply WL.pass; rfl; rfl) | (apply QL.pass; rfl; rfl) | (apply WL.eqB; rfl; rfl; rfl; rfl) | (apply QL.eqB; rfl; rfl; rfl; rfl) | (apply WL.neB; rfl; rfl; rfl; rfl) | (apply QL.neB; rfl; rfl; rfl; rfl) | (apply WL.lenS; rfl; rfl; rfl) | (apply QL.lenS; rfl; rfl; rfl) | (apply WL.makeFunc; rfl; rfl; rfl; rfl) | (apply QL.makeFunc; rfl; rfl; rfl; rfl) | (apply WL.fa; rfl; rfl; rfl) | (apply QL.fa; rfl; rfl; rfl) | (apply WL.nck; rfl; rfl; rfl) | (apply QL.nck; rfl; rfl; rfl) | (apply WL.ld; rfl; rfl; rfl; assumption; rfl) | (apply QL.ld; rfl; rfl; rfl; assumption; rfl) | (apply WL.ldA; rfl; rfl; rfl; assumption; rfl) | (apply QL.ldA; rfl; rfl; rfl; assumption; rfl) | (apply CW.block) | (apply EX.inN) | (apply CW.condT; rfl) | (apply CW.condF; rfl) | (apply CW.exit) | (apply EX.thenX) | (apply EX.inX) | (apply EX.inXne; rfl) | (apply CW.ret) | (apply EX.thenR) | (apply EX.inR) | (apply CW.skip) | (refine WL.lenO rfl rfl rfl (by assumption) ?_) | (apply WL.isNil; rfl; rfl; rfl) | (apply CW.draw; exact mixed; kernel_rfl)))
          refine WL.elemON rfl rfl rfl rfl rfl hod3 hmd (fun _ => rfl) (fun u q hu => ?_)
          obtain rfl := hu.int
          (repeat (first | (apply WL.add; rfl; rfl; rfl; rfl; omega; omega) | (apply QL.add; rfl; rfl; rfl; rfl; omega; omega) | (apply WL.sub'; rfl; rfl; rfl; rfl; omega; omega) | (apply QL.sub'; rfl; rfl; rfl; rfl; omega; omega) | (apply WL.mul; rfl; rfl; rfl; rfl; omega; omega) | (apply QL.mul; rfl; rfl; rfl; rfl; omega; omega) | (apply WL.pure; rfl; rfl; rfl) | (apply QL.pure; rfl; rfl; rfl) | (apply WL.pass; rfl; rfl) | (apply QL.pass; rfl; rfl) | (apply WL.eqB; rfl; rfl; rfl; rfl) | (apply QL.eqB; rfl; rfl; rfl; rfl) | (apply WL.neB; rfl; rfl; rfl; rfl) | (apply QL.neB; rfl; rfl; rfl; rfl) | (apply WL.lenS; rfl; rfl; rfl) | (apply QL.lenS; rfl; rfl; rfl) | (apply WL.makeFunc; rfl; rfl; rfl; rfl) | (apply QL.makeFunc; rfl; rfl; rfl; rfl) | (apply WL.fa; rfl; rfl; rfl) | (apply QL.fa; rfl; rfl; rfl) | (apply WL.nck; rfl; rfl; rfl) | (apply QL.nck; rfl; rfl; rfl) | (apply WL.ld; rfl; rfl; rfl; assumption; rfl) | (apply QL.ld; rfl; rfl; rfl; assumption; rfl) | (apply WL.ldA; rfl; rfl; rfl; assumption; rfl) | (apply QL.ldA; rfl; rfl; rfl; assumption; rfl) | (refine WL.lenO rfl rfl rfl (by assumption) ?_) | (apply WL.isNil; rfl; rfl; rfl)))
          refine WL.setN (u := .int .i64 (d2[m] + 1)) (yv := d2[m] + 1) rfl rfl rfl rfl hod3 hkd (fun _ => rfl) (fun _ => rfl) (Rd.mkInt _ _ _) (fun w4 q ho4 hg4 => ?_)
          have hE4 : Ext w1 w4 := hE3.grown hg4 hE3.size (fun b hb => (hod3.lt b hb).1)
          have hon4 := hon3.keptN hg4 (fun g hg => by rw [hdb]; simpa using hne3 g hg)
          (repeat (first | (apply WL.add; rfl; rfl; rfl; rfl; omega; omega) | (apply QL.add; rfl; rfl; rfl; rfl; omega; omega) | (apply WL.sub'; rfl; rfl; rfl; rfl; omega; omega) | (apply QL.sub'; rfl; rfl; rfl; rfl; omega; omega) | (apply WL.mul; rfl; rfl; rfl; rfl; omega; omega) | (apply QL.mul; rfl; rfl; rfl; rfl; omega; omega) | (apply WL.pure; rfl; rfl; rfl) | (apply QL.pure; rfl; rfl; rfl) | (apply WL.pass; rfl; rfl) | (apply QL.pass; rfl; rfl) | (apply WL.eqB; rfl; rfl; rfl; rfl) | (apply QL.eqB; rfl; rfl; rfl; rfl) | (apply WL.neB; rfl; rfl; rfl; rfl) | (apply QL.neB; rfl; rfl; rfl; rfl) | (apply WL.lenS; rfl; rfl; rfl) | (apply QL.lenS; rfl; rfl; rfl) | (apply WL.makeFunc; rfl; rfl; rfl; rfl) | (apply QL.makeFunc; rfl; rfl; rfl; rfl) | (apply WL.fa; rfl; rfl; rfl) | (apply QL.fa; rfl; rfl; rfl) | (apply WL.nck; rfl; rfl; rfl) | (apply QL.nck; rfl; rfl; rfl) | (apply WL.ld; rfl; rfl; rfl; assumption; rfl) | (apply QL.ld; rfl; rfl; rfl; assumption; rfl) | (apply WL.ldA; rfl; rfl; rfl; assumption; rfl) | (apply QL.ldA; rfl; rfl; rfl; assumption; rfl) | (refine WL.lenO rfl rfl rfl (by assumption) ?_) | (apply WL.isNil; rfl; rfl; rfl)))
          apply WL.nil
          apply EX.thenN
          apply CW.region
          (repeat (first | (apply WL.add; rfl; rfl; rfl; rfl; omega; omega) | (apply QL.add; rfl; rfl; rfl; rfl; omega; omega) | (apply WL.sub'; rfl; rfl; rfl; rfl; omega; omega) | (apply QL.sub'; rfl; rfl; rfl; rfl; omega; omega) | (apply WL.mul; rfl; rfl; rfl; rfl; omega; omega) | (apply QL.mul; rfl; rfl; rfl; rfl; omega; omega) | (apply WL.pure; rfl; rfl; rfl) | (apply QL.pure; rfl; rfl; rfl) | (apply WL.pass; rfl; rfl) | (apply QL.pass; rfl; rfl) | (apply WL.eqB; rfl; rfl; rfl; rfl) | (apply QL.eqB; rfl; rfl; rfl; rfl) | (apply WL.neB; rfl; rfl; rfl; rfl) | (apply QL.neB; rfl; rfl; rfl; rfl) | (apply WL.lenS; rfl; rfl; rfl) | (apply QL.lenS; rfl; rfl; rfl) | (apply WL.makeFunc; rfl; rfl; rfl; rfl) | (apply QL.makeFunc; rfl; rfl; rfl; rfl) | (apply WL.fa; rfl; rfl; rfl) | (apply QL.fa; rfl; rfl; rfl) | (apply WL.nck; rfl; rfl; rfl) | (apply QL.nck; rfl; rfl; rfl) | (apply WL.ld; rfl; rfl; rfl; assumption; rfl) | (apply QL.ld; rfl; rfl; rfl; assumption; rfl) | (apply WL.ldA; rfl; rfl; rfl; assumption; rfl) | (apply QL.ldA; rfl; rfl; rfl; assumption; rfl) | (refine WL.lenO rfl rfl rfl (by assumption) ?_) | (apply WL.isNil; rfl; rfl; rfl)))
          refine WL.app1 (F := Non) (yv := (k : Int)) rfl rfl (fun _ => rfl) rfl rfl (fun _ => rfl) hon4 (Rd.mkInt _ _ _) hE4.size (fun _ h => h.elim) (by decide) (by unfold maxLen; omega) (by omega) (fun v' w5 p ho5 hg5 hnb5 => ?_)
          have hE5 : Ext w1 w5 := hE4.grown hg5 hE4.size (fun b hb => (hon4.lt b hb).1)
          have hd5 := ho4.keptN hg5 (fun g hg e => by rw [hdb] at hg; cases hg; exact hne3 _ e.symm rfl)
          (repeat (first | (apply WL.add; rfl; rfl; rfl; rfl; omega; omega) | (apply QL.add; rfl; rfl; rfl; rfl; omega; omega) | (apply WL.sub'; rfl; rfl; rfl; rfl; omega; omega) | (apply QL.sub'; rfl; rfl; rfl; rfl; omega; omega) | (apply WL.mul; rfl; rfl; rfl; rfl; omega; omega) | (apply QL.mul; rfl; rfl; rfl; rfl; omega; omega) | (apply WL.pure; rfl; rfl; rfl) | (apply QL.pure; rfl; rfl; rfl) | (apply WL.nil) | (apply EX.thenN) | (apply CW.seq) | (apply CW.region) | (apply WL.pass; rfl; rfl) | (apply QL.pass; rfl; rfl) | (apply WL.eqB; rfl; rfl; rfl; rfl) | (apply QL.eqB; rfl; rfl; rfl; rfl) | (apply WL.neB; rfl; rfl; rfl; rfl) | (apply QL.neB; rfl; rfl; rfl; rfl) | (apply WL.lenS; rfl; rfl; rfl) | (apply QL.lenS; rfl; rfl; rfl) | (apply WL.makeFunc; rfl; rfl; rfl; rfl) | (apply QL.makeFunc; rfl; rfl; rfl; rfl) | (apply WL.fa; rfl; rfl; rfl) | (apply QL.fa; rfl; rfl; rfl) | (apply WL.nck; rfl; rfl; rfl) | (apply QL.nck; rfl; rfl; rfl) | (apply WL.ld; rfl; rfl; rfl; assumption; rfl) | (apply QL.ld; rfl; rfl; rfl; assumption; rfl) | (apply WL.ldA; rfl; rfl; rfl; assumption; rfl) | (apply QL.ldA; rfl; rfl; rfl; assumption; rfl) | (apply CW.block) | (apply EX.inN) | (apply CW.condT; rfl) | (apply CW.condF; rfl) | (apply CW.exit) | (apply EX.thenX) | (apply EX.inX) | (apply EX.inXne; rfl) | (apply CW.ret) | (apply EX.thenR) | (apply EX.inR) | (apply CW.skip) | (refine WL.lenO rfl rfl rfl (by assumption) ?_) | (apply WL.isNil; rfl; rfl; rfl) | (apply CW.draw; exact mixed; kernel_rfl)))
          refine EX.back (j + 1, d2.set k (d2[m] + 1), now2 ++ [(k : Int)], v') (by repeat (first | exact trivial | refine ⟨rfl, ?_⟩)) ⟨h1, hfold', hst.1, by rw [hst.2]; exact hm3, hd5, ho5, ?_, hE5⟩ (by simp only; omega)
          intro b hb'
          rcases hnb5 b hb' with h | h
          · exact hne3 b h
          · have := (ho4.lt _ hdb).2.1; omega
        · have h2 : ¬ d2[k] < 0 := by simpa using h2
          have eS : farStep m (d2, now2) (k : Int) = (d2, now2) := by
            unfold farStep
            simp only [Int.toNat_natCast, getD_at hkd, getD_at hmd]
            rw [if_neg h2]
          rw [eS] at hst hfold'
          (repeat (first | (apply WL.add; rfl; rfl; rfl; rfl; omega; omega) | (apply QL.add; rfl; rfl; rfl; rfl; omega; omega) | (apply WL.sub'; rfl; rfl; rfl; rfl; omega; omega) | (apply QL.sub'; rfl; rfl; rfl; rfl; omega; omega) | (apply WL.mul; rfl; rfl; rfl; rfl; omega; omega) | (apply QL.mul; rfl; rfl; rfl; rfl; omega; omega) | (apply WL.pure; rfl; rfl; rfl) | (apply QL.pure; rfl; rfl; rfl) | (apply WL.nil) | (apply EX.thenN) | (apply CW.seq) | (apply CW.region) | (apply WL.pass; rfl; rfl) | (apply QL.pass; rfl; rfl) | (apply WL.eqB; rfl; rfl; rfl; rfl) | (apply QL.eqB; rfl; rfl; rfl; rfl) | (apply WL.neB; rfl; rfl; rfl; rfl) | (apply QL.neB; rfl; rfl; rfl; rfl) | (apply WL.lenS; rfl; rfl; rfl) | (apply QL.lenS; rfl; rfl; rfl) | (apply WL.makeFunc; rfl; rfl; rfl; rfl) | (apply QL.makeFunc; rfl; rfl; rfl; rfl) | (apply WL.fa; rfl; rfl; rfl) | (apply QL.fa; rfl; rfl; rfl) | (apply WL.nck; rfl; rfl; rfl) | (apply QL.nck; rfl; rfl; rfl) | (apply WL.ld; rfl; rfl; rfl; assumption; rfl) | (apply QL.ld; rfl; rfl; rfl; assumption; rfl) | (apply WL.ldA; rfl; rfl; rfl; assumption; rfl) | (apply QL.ldA; rfl; rfl; rfl; assumption; rfl) | (apply CW.block) | (apply EX.inN) | (apply CW.condT; rfl) | (apply CW.condF; rfl) | (apply CW.exit) | (apply EX.thenX) | (apply EX.inX) | (apply EX.inXne; rfl) | (apply CW.ret) | (apply EX.thenR) | (apply EX.inR) | (apply CW.skip) | (refine WL.lenO rfl rfl rfl (by assumption) ?_) | (apply WL.isNil; rfl; rfl; rfl) | (apply CW.draw; exact mixed; kernel_rfl)))
          exact EX.back (j + 1, d2, now2, nv3) (by repeat (first | exact trivial | refine ⟨rfl, ?_⟩)) ⟨h1, hfold', hst.1, hm3, hod3, hon3, hne3, hE3⟩ (by simp only; omega)
      · simp at h1
        have : j = row.length := by omega
        subst this
        rw [List.take_length] at hfold
        have hI4 : FInv g to d2 now2 none := FInv.over (by rw [hrw]; exact hI3)
        (repeat (first | (apply WL.add; rfl; rfl; rfl; rfl; omega; omega) | (apply QL.add; rfl; rfl; rfl; rfl; omega; omega) | (apply WL.sub'; rfl; rfl; rfl; rfl; omega; omega) | (apply QL.sub'; rfl; rfl; rfl; rfl; omega; omega) | (apply WL.mul; rfl; rfl; rfl; rfl; omega; omega) | (apply QL.mul; rfl; rfl; rfl; rfl; omega; omega) | (apply WL.pure; rfl; rfl; rfl) | (apply QL.pure; rfl; rfl; rfl) | (apply WL.nil) | (apply EX.thenN) | (apply CW.seq) | (apply CW.region) | (apply WL.pass; rfl; rfl) | (apply QL.pass; rfl; rfl) | (apply WL.eqB; rfl; rfl; rfl; rfl) | (apply QL.eqB; rfl; rfl; rfl; rfl) | (apply WL.neB; rfl; rfl; rfl; rfl) | (apply QL.neB; rfl; rfl; rfl; rfl) | (apply WL.lenS; rfl; rfl; rfl) | (apply QL.lenS; rfl; rfl; rfl) | (apply WL.makeFunc; rfl; rfl; rfl; rfl) | (apply QL.makeFunc; rfl; rfl; rfl; rfl) | (apply WL.fa; rfl; rfl; rfl) | (apply QL.fa; rfl; rfl; rfl) | (apply WL.nck; rfl; rfl; rfl) | (apply QL.nck; rfl; rfl; rfl) | (apply WL.ld; rfl; rfl; rfl; assumption; rfl) | (apply QL.ld; rfl; rfl; rfl; assumption; rfl) | (apply WL.ldA; rfl; rfl; rfl; assumption; rfl) | (apply QL.ldA; rfl; rfl; rfl; assumption; rfl) | (apply CW.block) | (apply EX.inN) | (apply CW.condT; rfl) | (apply CW.condF; rfl) | (apply CW.exit) | (apply EX.thenX) | (apply EX.inX) | (apply EX.inXne; rfl) | (apply CW.ret) | (apply EX.thenR) | (apply EX.inR) | (apply CW.skip) | (refine WL.lenO rfl rfl rfl (by assumption) ?_) | (apply WL.isNil; rfl; rfl; rfl) | (apply CW.draw; exact mixed; kernel_rfl)))
        refine EX.back (d2, now2, nv3) (by repeat (first | exact trivial | refine ⟨rfl, ?_⟩)) ⟨hI4, fun f hf => ?_, by simp only; omega, hod3, hon3, hne3, hE3⟩ (by simp only [List.length_cons]; omega)
        have := hres (f + 1) (by simp only [List.length_cons]; dsimp only at hf; omega)
        have e : farGo (turnL g) (f + 1) d ((m : Int) :: r) = farGo (turnL g) f d2 now2 := by rw [farGo, Int.toNat_natCast, hrw, ← hfold]
        rw [e] at this
        exact this
    · have hn0 : now = [] := by simpa using h0
      subst hn0
      have hfin : d = farL g to := by
        have := hres (negs d) (by simp)
        rw [← this]
        cases negs d <;> rfl
      subst hfin
      (repeat (first | (apply WL.add; rfl; rfl; rfl; rfl; omega; omega) | (apply QL.add; rfl; rfl; rfl; rfl; omega; omega) | (apply WL.sub'; rfl; rfl; rfl; rfl; omega; omega) | (apply QL.sub'; rfl; rfl; rfl; rfl; omega; omega) | (apply WL.mul; rfl; rfl; rfl; rfl; omega; omega) | (apply QL.mul; rfl; rfl; rfl; rfl; omega; omega) | (apply WL.pure; rfl; rfl; rfl) | (apply QL.pure; rfl; rfl; rfl) | (apply WL.nil) | (apply EX.thenN) | (apply CW.seq) | (apply CW.region) | (apply WL.pass; rfl; rfl) | (apply QL.pass; rfl; rfl) | (apply WL.eqB; rfl; rfl; rfl; rfl) | (apply QL.eqB; rfl; rfl; rfl; rfl) | (apply WL.neB; rfl; rfl; rfl; rfl) | (apply QL.neB; rfl; rfl; rfl; rfl) | (apply WL.lenS; rfl; rfl; rfl) | (apply QL.lenS; rfl; rfl; rfl) | (apply WL.makeFunc; rfl; rfl; rfl; rfl) | (apply QL.makeFunc; rfl; rfl; rfl; rfl) | (apply WL.fa; rfl; rfl; rfl) | (apply QL.fa; rfl; rfl; rfl) | (apply WL.nck; rfl; rfl; rfl) | (apply QL.nck; rfl; rfl; rfl) | (apply WL.ld; rfl; rfl; rfl; assumption; rfl) | (apply QL.ld; rfl; rfl; rfl; assumption; rfl) | (apply WL.ldA; rfl; rfl; rfl; assumption; rfl) | (apply QL.ldA; rfl; rfl; rfl; assumption; rfl) | (apply CW.block) | (apply EX.inN) | (apply CW.condT; rfl) | (apply CW.condF; rfl) | (apply CW.exit) | (apply EX.thenX) | (apply EX.inX) | (apply EX.inXne; rfl) | (apply CW.ret) | (apply EX.thenR) | (apply EX.inR) | (apply CW.skip) | (refine WL.lenO rfl rfl rfl (by assumption) ?_) | (apply WL.isNil; rfl; rfl; rfl) | (apply CW.draw; exact mixed; kernel_rfl)))
      exact EX.ret1 rfl rfl ⟨hod.low hE1.size, hE1.trans hE⟩
end Go.Proofs.Ytadbkppgaekmpaa
/-
  Package game: Play: walked.
-/
set_option linter.unusedVariables false
set_option linter.unusedSimpArgs false
namespace Go.Proofs.Ytadbkppgaekmpaa
open Go.RowKit

noncomputable def playGo (p : LProc) : List Int → List Int → List (List Int) × Nat × Int
  | [], _ => ([], 0, 0)
  | k :: r, m => if (fireE p m k).2 ≠ 0 then ([], 0, (fireE p m k).2) else ((fireE p m k).1 :: (playGo p r (fireE p m k).1).1, (playGo p r (fireE p m k).1).2.1 + 1, (playGo p r (fireE p m k).1).2.2)
noncomputable def playE (p : LProc) (l : List Int) : List (List Int) × Nat × Int :=
  if (stepsE p).2 ≠ 0 then ([], 0, (stepsE p).2) else if l.length > 500 then ([], 0, 2) else (beginL p :: (playGo p l (beginL p)).1, (playGo p l (beginL p)).2.1, (playGo p l (beginL p)).2.2)
theorem walk_play {p : LProc} : ∀ (dice m : List Int), playGo p (walkGo p dice m).2 m = ((walkGo p dice m).1, (walkGo p dice m).2.length, 0)
  | [], m => rfl
  | d :: r, m => by
    rw [walkGo]
    split
    · rfl
    · split
      · rfl
      · rename_i h1 h2
        dsimp only
        rw [playGo, if_neg h2, walk_play r]
        rfl
theorem straight_play : playE straightP [0, 1] = ([[1, 0], [0, 1], [0, 0]], 2, 0) := by
  have hz : (stepsE straightP).2 = 0 := by rw [straight_steps]
  have hl : stepsL straightP = [(1, 0, 1), (2, 1, 0)] := by decide
  have hm : chkM straightP [0, 1] = 0 := markOk_chk hz ⟨rfl, fun j => by
    rcases j with _ | _ | j
    · decide
    · decide
    · exact ⟨Int.le_refl _, (by decide : (0 : Int) ≤ 9)⟩⟩
  have h2 : fireE straightP [0, 1] 1 = ([0, 0], 0) := by
    unfold fireE
    rw [if_neg (by simp [hm]), hl, if_neg (by decide), if_neg (by decide)]
    decide
  have hb : beginL straightP = [1, 0] := by decide
  unfold playE
  rw [if_neg (by simp [hz]), if_neg (by decide), hb]
  simp [playGo, straight_fire, h2]
end Go.Proofs.Ytadbkppgaekmpaa
/-
  All markings: plain laws.
-/
set_option linter.unusedVariables false
set_option linter.unusedSimpArgs false
namespace Go.Proofs.Ytadbkppgaekmpaa

/- greater bounds -/
theorem putE_same {a b c d : Int} {s : Sr} {m : List Int} {fr : Int × Int} (h1 : (putE a b s m fr).2.2 = 0) (h2 : (putE c d s m fr).2.2 = 0) : putE a b s m fr = putE c d s m fr := by
  unfold putE at h1 h2 ⊢
  by_cases g1 : tooMany a m = true
  · rw [if_pos g1] at h1; cases h1
  by_cases g2 : tooMany c m = true
  · rw [if_pos g2] at h2; cases h2
  rw [if_neg g1] at h1
  rw [if_neg g2] at h2
  rw [if_neg g1, if_neg g2]
  by_cases g3 : m ∈ s.1
  · rw [if_pos g3, if_pos g3]
  rw [if_neg g3] at h1 h2
  rw [if_neg g3, if_neg g3]
  by_cases g4 : (s.1.length : Int) = b
  · rw [if_pos g4] at h1; cases h1
  by_cases g5 : (s.1.length : Int) = d
  · rw [if_pos g5] at h2; cases h2
  rw [if_neg g4, if_neg g5]
theorem edgesGo_same {p : LProc} {a b c d n : Int} {m : List Int} : ∀ (l : List Int) (s : Sr) (out : List LEdge), (edgesGo p a b n m l s out).2.2 = 0 → (edgesGo p c d n m l s out).2.2 = 0 → edgesGo p a b n m l s out = edgesGo p c d n m l s out
  | [], s, out, _, _ => rfl
  | k :: r, s, out, h1, h2 => by
    rw [edgesGo] at h1 h2 ⊢
    rw [edgesGo]
    by_cases g : (fireE p m k).2 = 0
    case neg => rw [if_pos g] at h1; exact absurd h1 g
    have hg : ¬ (fireE p m k).2 ≠ 0 := by simp [g]
    rw [if_neg hg] at h1 h2
    rw [if_neg hg, if_neg hg]
    by_cases g1 : (putE a b s (fireE p m k).1 (n, k)).2.2 = 0
    case neg => rw [if_pos g1] at h1; exact absurd h1 g1
    by_cases g2 : (putE c d s (fireE p m k).1 (n, k)).2.2 = 0
    case neg => rw [if_pos g2] at h2; exact absurd h2 g2
    have e := putE_same g1 g2
    have hg1 : ¬ (putE a b s (fireE p m k).1 (n, k)).2.2 ≠ 0 := by simp [g1]
    have hg2 : ¬ (putE c d s (fireE p m k).1 (n, k)).2.2 ≠ 0 := by simp [g2]
    rw [if_neg hg1] at h1
    rw [if_neg hg2] at h2
    rw [if_neg hg1, if_neg hg2]
    rw [e] at h1 ⊢
    exact edgesGo_same r _ _ h1 h2
theorem runGo_same {p : LProc} {a b c d : Int} : ∀ (f n : Nat) (s : Sr) (nx : List (List LEdge)), (runGo p a b f n s nx).2.2 = 0 → (runGo p c d f n s nx).2.2 = 0 → runGo p a b f n s nx = runGo p c d f n s nx
  | 0, n, s, nx, _, _ => rfl
  | f + 1, n, s, nx, h1, h2 => by
    rw [runGo] at h1 h2 ⊢
    rw [runGo]
    by_cases hn : n < s.1.length
    case neg => rw [if_neg hn, if_neg hn]
    rw [if_pos hn] at h1 h2
    rw [if_pos hn, if_pos hn]
    by_cases g1 : (edgesE p a b n s).2.2 = 0
    case neg => rw [if_pos g1] at h1; exact absurd h1 g1
    by_cases g2 : (edgesE p c d n s).2.2 = 0
    case neg => rw [if_pos g2] at h2; exact absurd h2 g2
    have e : edgesE p a b n s = edgesE p c d n s := edgesGo_same _ _ _ g1 g2
    rw [if_neg (by simp [g1])] at h1
    rw [if_neg (by simp [g2])] at h2
    rw [if_neg (by simp [g1]), if_neg (by simp [g2])]
    rw [e] at h1 ⊢
    exact runGo_same f _ _ _ h1 h2
theorem runB_same {p : LProc} {a b c d : Int} (h1 : (runB p a b).2.2 = 0) (h2 : (runB p c d).2.2 = 0) : runB p a b = runB p c d := by
  unfold runB at h1 h2 ⊢
  by_cases g1 : (putE a b ([], [], (0, 0)) (beginL p) (-1, -1)).2.2 = 0
  case neg => rw [if_pos g1] at h1; exact absurd h1 g1
  by_cases g2 : (putE c d ([], [], (0, 0)) (beginL p) (-1, -1)).2.2 = 0
  case neg => rw [if_pos g2] at h2; exact absurd h2 g2
  have e := putE_same g1 g2
  rw [if_neg (by simp [g1])] at h1
  rw [if_neg (by simp [g2])] at h2
  rw [if_neg (by simp [g1]), if_neg (by simp [g2])]
  rw [e] at h1 ⊢
  exact runGo_same _ _ _ _ h1 h2
theorem exploreE_ok {p : LProc} {a b : Int} (h : (exploreE p a b).2 = 0) : (stepsE p).2 = 0 ∧ 1 ≤ a ∧ 1 ≤ b ∧ b ≤ 200 ∧ (runB p a b).2.2 = 0 ∧ exploreE p a b = (((runB p a b).1.1, (runB p a b).2.1), 0) := by
  unfold exploreE at h ⊢
  by_cases g1 : runPre p a b = 0
  case neg => rw [if_pos g1] at h; exact absurd h g1
  rw [if_neg (by simp [g1])] at h ⊢
  by_cases g2 : (runB p a b).2.2 = 0
  case neg => rw [if_pos g2] at h; exact absurd h g2
  rw [if_neg (by simp [g2])]
  unfold runPre at g1
  by_cases g3 : (stepsE p).2 = 0
  case neg => rw [if_pos g3] at g1; exact absurd g1 g3
  rw [if_neg (by simp [g3])] at g1
  unfold runArg at g1
  split at g1
  · cases g1
  · rename_i g4
    exact ⟨g3, by omega, by omega, by omega, g2, rfl⟩
theorem exploreE_err {p : LProc} {a b : Int} (h : (exploreE p a b).2 ≠ 0) : (exploreE p a b).1 = ([], []) := by
  unfold exploreE at h ⊢
  split
  · rfl
  · split
    · rfl
    · rename_i h1 h2; rw [if_neg h1, if_neg h2] at h; exact absurd rfl h
theorem exploreE_same {p : LProc} {a b c d : Int} (h1 : (exploreE p a b).2 = 0) (h2 : (exploreE p c d).2 = 0) : exploreE p a b = exploreE p c d := by
  obtain ⟨_, _, _, _, r1, e1⟩ := exploreE_ok h1
  obtain ⟨_, _, _, _, r2, e2⟩ := exploreE_ok h2
  rw [e1, e2, runB_same r1 r2]

/- the straight process -/
theorem straight_sp : (exploreE straightP 1 2).2 = 8 ∧ exploreE straightP 9 200 = (([[1, 0], [0, 1], [0, 0]], [[(0, 1)], [(1, 2)], []]), 0) ∧ exploreE straightP 1 9 = (([[1, 0], [0, 1], [0, 0]], [[(0, 1)], [(1, 2)], []]), 0) := by
  have hz : (stepsE straightP).2 = 0 := by rw [straight_steps]
  have hl : stepsL straightP = [(1, 0, 1), (2, 1, 0)] := by decide
  have ok : ∀ a b : Int, 0 ≤ a → a ≤ 9 → 0 ≤ b → b ≤ 9 → chkM straightP [a, b] = 0 := fun a b a0 a9 b0 b9 => markOk_chk hz ⟨rfl, fun j => by
    rcases j with _ | _ | j
    · exact ⟨a0, a9⟩
    · exact ⟨b0, b9⟩
    · exact ⟨Int.le_refl _, (by decide : (0 : Int) ≤ 9)⟩⟩
  have hm0 := ok 1 0 (by decide) (by decide) (by decide) (by decide)
  have hm1 := ok 0 1 (by decide) (by decide) (by decide) (by decide)
  have hm2 := ok 0 0 (by decide) (by decide) (by decide) (by decide)
  have f0 : fireE straightP [1, 0] 0 = ([0, 1], 0) := straight_fire
  have f1 : fireE straightP [0, 1] 1 = ([0, 0], 0) := by
    unfold fireE
    rw [if_neg (by simp [hm1]), hl, if_neg (by decide), if_neg (by decide)]
    decide
  have c0 : canE straightP [1, 0] = [0] := by unfold canE; rw [if_pos hm0]; decide
  have c1 : canE straightP [0, 1] = [1] := by unfold canE; rw [if_pos hm1]; decide
  have c2 : canE straightP [0, 0] = [] := by unfold canE; rw [if_pos hm2]; decide
  have hb : beginL straightP = [1, 0] := by decide
  refine ⟨?_, ?_, ?_⟩
  · simp [exploreE, runPre, hz, runArg, runB, hb, putE, tooMany, runGo, edgesE, edgesGo, c0, c1, c2, f0, f1, posOf]
  · simp [exploreE, runPre, hz, runArg, runB, hb, putE, tooMany, runGo, edgesE, edgesGo, c0, c1, c2, f0, f1, posOf]
  · simp [exploreE, runPre, hz, runArg, runB, hb, putE, tooMany, runGo, edgesE, edgesGo, c0, c1, c2, f0, f1, posOf]

/- a search that ends -/
theorem posOf_mem {m : List Int} : ∀ {l : List (List Int)}, m ∈ l → posOf m l < l.length ∧ l.getD (posOf m l) [] = m
  | x :: r, h => by
    unfold posOf
    by_cases e : x = m
    · rw [if_pos e]; exact ⟨by simp, by simpa using e⟩
    · rw [if_neg e]
      rcases List.mem_cons.1 h with h | h
      · exact absurd h.symm e
      · obtain ⟨h1, h2⟩ := posOf_mem h
        exact ⟨by simp; omega, by simpa using h2⟩
/-- an edge of marking m that leads to where step k leads -/
def EdgeOk (p : LProc) (m : List Int) (l : List (List Int)) (e : LEdge) : Prop := (fireE p m e.1).2 = 0 ∧ 0 ≤ e.2 ∧ e.2 < l.length ∧ l.getD e.2.toNat [] = (fireE p m e.1).1
theorem EdgeOk.more {p : LProc} {m : List Int} {l t : List (List Int)} {e : LEdge} (h : EdgeOk p m l e) : EdgeOk p m (l ++ t) e := by
  obtain ⟨h1, h2, h3, h4⟩ := h
  refine ⟨h1, h2, by rw [List.length_append]; omega, ?_⟩
  rw [← h4, List.getD_eq_getElem?_getD, List.getD_eq_getElem?_getD, List.getElem?_append_left (by omega)]
structure SrOk (p : LProc) (tok st : Int) (l : List (List Int)) : Prop where
  nd : l.Nodup
  ok : ∀ m ∈ l, MarkOk p m
  le : ∀ m ∈ l, ∀ x ∈ m, x ≤ tok
  st : (l.length : Int) ≤ st
theorem putE_law {p : LProc} {tok st : Int} {s : Sr} {m : List Int} {fr : Int × Int} (h : SrOk p tok st s.1) (hm : MarkOk p m) (he : (putE tok st s m fr).2.2 = 0) :
    SrOk p tok st (putE tok st s m fr).1.1 ∧ (∃ t, (putE tok st s m fr).1.1 = s.1 ++ t ∧ ∀ i : Nat, s.1.length ≤ i → i < (s.1 ++ t).length → (putE tok st s m fr).2.1 = (i : Int)) ∧
      0 ≤ (putE tok st s m fr).2.1 ∧ (putE tok st s m fr).2.1 < (putE tok st s m fr).1.1.length ∧ (putE tok st s m fr).1.1.getD (putE tok st s m fr).2.1.toNat [] = m := by
  unfold putE at he ⊢
  by_cases g1 : tooMany tok m = true
  · rw [if_pos g1] at he; cases he
  rw [if_neg g1] at he ⊢
  by_cases g3 : m ∈ s.1
  · rw [if_pos g3]
    obtain ⟨h1, h2⟩ := posOf_mem g3
    exact ⟨h, ⟨[], by simp, fun i h1 h2 => by simp at h2; omega⟩, by dsimp only; omega, by dsimp only; omega, by simpa using h2⟩
  rw [if_neg g3] at he ⊢
  by_cases g4 : (s.1.length : Int) = st
  · rw [if_pos g4] at he; cases he
  rw [if_neg g4]
  have hst := h.st
  refine ⟨⟨?_, ?_, ?_, ?_⟩, ⟨[m], rfl, fun i h1 h2 => by simp at h2; dsimp only; omega⟩, by dsimp only; omega, by simp; omega, by simp⟩
  · rw [List.nodup_append]
    refine ⟨h.nd, List.pairwise_singleton _ _, ?_⟩
    intro a ha b hb e
    rw [List.mem_singleton] at hb
    subst hb; subst e
    exact g3 ha
  · intro x hx
    rcases List.mem_append.1 hx with hx | hx
    · exact h.ok x hx
    · rw [List.mem_singleton] at hx; subst hx; exact hm
  · intro x hx
    rcases List.mem_append.1 hx with hx | hx
    · exact h.le x hx
    · rw [List.mem_singleton] at hx; subst hx
      intro n hn
      unfold tooMany at g1
      rw [List.any_eq_true] at g1
      have : ¬ n > tok := fun hgt => g1 ⟨n, hn, by simpa using hgt⟩
      omega
  · simp; omega
theorem fireE_mark {p : LProc} {m : List Int} {k : Int} (h : (fireE p m k).2 = 0) : MarkOk p (fireE p m k).1 := by
  obtain ⟨h1, _, _, h3, h4⟩ := fireE_ok h
  exact fire_next (chk_markOk h1) h3 h4
theorem edgesGo_law {p : LProc} {tok st n : Int} {m : List Int} : ∀ (l : List Int) (s : Sr) (out : List LEdge), SrOk p tok st s.1 → (∀ e ∈ out, EdgeOk p m s.1 e) → (edgesGo p tok st n m l s out).2.2 = 0 →
    SrOk p tok st (edgesGo p tok st n m l s out).1.1 ∧ (edgesGo p tok st n m l s out).2.1.map Prod.fst = out.map Prod.fst ++ l ∧ (∀ e ∈ (edgesGo p tok st n m l s out).2.1, EdgeOk p m (edgesGo p tok st n m l s out).1.1 e) ∧
      (∃ u, (edgesGo p tok st n m l s out).2.1 = out ++ u) ∧ ∃ t, (edgesGo p tok st n m l s out).1.1 = s.1 ++ t ∧ ∀ i : Nat, s.1.length ≤ i → i < (s.1 ++ t).length → ∃ e ∈ (edgesGo p tok st n m l s out).2.1, e.2 = (i : Int)
  | [], s, out, hs, ho, he => ⟨hs, by simp [edgesGo], ho, ⟨[], by simp [edgesGo]⟩, [], by simp [edgesGo], fun i h1 h2 => by simp at h2; omega⟩
  | k :: r, s, out, hs, ho, he => by
    rw [edgesGo] at he ⊢
    by_cases g : (fireE p m k).2 = 0
    case neg => rw [if_pos g] at he; exact absurd he g
    rw [if_neg (by simp [g])] at he ⊢
    by_cases g1 : (putE tok st s (fireE p m k).1 (n, k)).2.2 = 0
    case neg => rw [if_pos g1] at he; exact absurd he g1
    rw [if_neg (by simp [g1])] at he ⊢
    obtain ⟨hs1, ⟨t, ht, hti⟩, hp0, hp1, hp2⟩ := putE_law hs (fireE_mark g) g1
    generalize putE tok st s (fireE p m k).1 (n, k) = q at *
    obtain ⟨q1, q2, q3⟩ := q
    dsimp only at *
    have ho' : ∀ e ∈ out ++ [(k, q2)], EdgeOk p m q1.1 e := by
      intro e h
      rcases List.mem_append.1 h with h | h
      · rw [ht]; exact (ho e h).more
      · rw [List.mem_singleton] at h; subst h
        exact ⟨g, hp0, hp1, hp2⟩
    obtain ⟨a1, a2, a3, ⟨u, a4⟩, t', a5, a6⟩ := edgesGo_law r q1 (out ++ [(k, q2)]) hs1 ho' he
    refine ⟨a1, by rw [a2]; simp, a3, ⟨(k, q2) :: u, by rw [a4]; simp⟩, t ++ t', by rw [a5, ht]; simp, fun i h1 h2 => ?_⟩
    by_cases hi : i < q1.1.length
    · refine ⟨(k, q2), by rw [a4]; simp, ?_⟩
      exact hti i h1 (by rw [← ht]; exact hi)
    · exact a6 i (by omega) (by rw [ht]; simpa using h2)
structure SpOk (p : LProc) (l : List (List Int)) (nx : List (List LEdge)) : Prop where
  le : nx.length ≤ l.length
  can : ∀ j, j < nx.length → (nx.getD j []).map Prod.fst = canE p (l.getD j [])
  ed : ∀ j, j < nx.length → ∀ e ∈ nx.getD j [], EdgeOk p (l.getD j []) l e
  fr : ∀ i : Nat, 1 ≤ i → i < l.length → ∃ j, j < i ∧ j < nx.length ∧ ∃ e ∈ nx.getD j [], e.2 = (i : Int)
theorem getDG_left {α : Type} {l t : List α} {j : Nat} {d : α} (h : j < l.length) : (l ++ t).getD j d = l.getD j d := by rw [List.getD_eq_getElem?_getD, List.getD_eq_getElem?_getD, List.getElem?_append_left h]
theorem getDG_last {α : Type} {l : List α} {x d : α} : (l ++ [x]).getD l.length d = x := by rw [List.getD_eq_getElem?_getD, List.getElem?_append_right (Nat.le_refl _)]; simp
theorem runGo_law {p : LProc} {tok st : Int} : ∀ (f n : Nat) (s : Sr) (nx : List (List LEdge)), f + n = 201 → st ≤ 200 → nx.length = n → SrOk p tok st s.1 → SpOk p s.1 nx → (runGo p tok st f n s nx).2.2 = 0 →
    SrOk p tok st (runGo p tok st f n s nx).1.1 ∧ SpOk p (runGo p tok st f n s nx).1.1 (runGo p tok st f n s nx).2.1 ∧ (runGo p tok st f n s nx).2.1.length = (runGo p tok st f n s nx).1.1.length ∧ ∃ t, (runGo p tok st f n s nx).1.1 = s.1 ++ t
  | 0, n, s, nx, hf, h200, hn, hs, hx, he => by have := hx.le; have := hs.st; omega
  | f + 1, n, s, nx, hf, h200, hn, hs, hx, he => by
    rw [runGo] at he ⊢
    by_cases hlt : n < s.1.length
    case neg =>
      rw [if_neg hlt] at he ⊢
      exact ⟨hs, hx, by have := hx.le; dsimp only; omega, [], by simp⟩
    rw [if_pos hlt] at he ⊢
    by_cases g1 : (edgesE p tok st n s).2.2 = 0
    case neg => rw [if_pos g1] at he; exact absurd he g1
    rw [if_neg (by simp [g1])] at he ⊢
    obtain ⟨a1, a2, a3, _, t, a5, a6⟩ := edgesGo_law (p := p) (tok := tok) (st := st) (n := (n : Int)) (m := s.1.getD n []) (canE p (s.1.getD n [])) s [] hs (fun e h => by cases h) g1
    change SrOk p tok st (edgesE p tok st n s).1.1 at a1
    change (edgesE p tok st n s).2.1.map Prod.fst = _ at a2
    change ∀ e ∈ (edgesE p tok st n s).2.1, EdgeOk p _ (edgesE p tok st n s).1.1 e at a3
    change (edgesE p tok st n s).1.1 = _ at a5
    change ∀ i : Nat, _ → _ → ∃ e ∈ (edgesE p tok st n s).2.1, _ at a6
    generalize edgesE p tok st n s = q at *
    obtain ⟨s', es, er⟩ := q
    dsimp only at *
    have hx' : SpOk p s'.1 (nx ++ [es]) := by
      have hle := hx.le
      refine ⟨by rw [a5]; simp; omega, fun j hj => ?_, fun j hj => ?_, fun i h1 h2 => ?_⟩
      · simp at hj
        by_cases e : j < nx.length
        · rw [getDG_left e, a5, getDG_left (by omega)]; exact hx.can j e
        · obtain rfl : j = nx.length := by omega
          rw [getDG_last, a2, a5, getDG_left (by omega), hn]; simp
      · simp at hj
        by_cases e : j < nx.length
        · rw [getDG_left e, a5, getDG_left (by omega)]; exact fun x h => (hx.ed j e x h).more
        · obtain rfl : j = nx.length := by omega
          rw [getDG_last, a5, getDG_left (by omega), hn, ← a5]; exact a3
      · by_cases e : i < s.1.length
        · obtain ⟨j, q1, q2, x, q3, q4⟩ := hx.fr i h1 e
          exact ⟨j, q1, by simp; omega, x, by rw [getDG_left q2]; exact q3, q4⟩
        · obtain ⟨x, q3, q4⟩ := a6 i (by omega) (by rw [← a5]; exact h2)
          exact ⟨nx.length, by omega, by simp, x, by rw [getDG_last]; exact q3, q4⟩
    obtain ⟨b1, b2, b3, t', b4⟩ := runGo_law f (n + 1) s' (nx ++ [es]) (by omega) h200 (by simp [hn]) a1 hx' he
    exact ⟨b1, b2, b3, t ++ t', by rw [b4, a5]; simp⟩
/-- what a space is -/
theorem explore_law {p : LProc} {tok st : Int} (h : (exploreE p tok st).2 = 0) :
    (stepsE p).2 = 0 ∧ SrOk p tok st (exploreE p tok st).1.1 ∧ SpOk p (exploreE p tok st).1.1 (exploreE p tok st).1.2 ∧ (exploreE p tok st).1.2.length = (exploreE p tok st).1.1.length ∧ 0 < (exploreE p tok st).1.1.length ∧ (exploreE p tok st).1.1.getD 0 [] = beginL p ∧ st ≤ 200 := by
  obtain ⟨hz, h1, h2, h3, hr, he⟩ := exploreE_ok h
  rw [he]
  dsimp only
  unfold runB at hr ⊢
  by_cases g1 : (putE tok st ([], [], (0, 0)) (beginL p) (-1, -1)).2.2 = 0
  case neg => rw [if_pos g1] at hr; exact absurd hr g1
  rw [if_neg (by simp [g1])] at hr ⊢
  have hs0 : SrOk p tok st ([] : List (List Int)) := ⟨List.Pairwise.nil, fun m h => (by cases h), fun m h => (by cases h), by simp; omega⟩
  obtain ⟨a1, ⟨t, a2, a2i⟩, a3, a4, a5⟩ := putE_law (s := ([], [], (0, 0))) hs0 (beginL_ok (p := p)) g1
  have hd : (putE tok st ([], [], (0, 0)) (beginL p) (-1, -1)).1.1 = [beginL p] := by
    unfold putE at g1 ⊢
    by_cases q1 : tooMany tok (beginL p) = true
    · rw [if_pos q1] at g1; cases g1
    rw [if_neg q1, if_neg (by simp)] at g1 ⊢
    by_cases q2 : (([] : List (List Int)).length : Int) = st
    · rw [if_pos q2] at g1; cases g1
    rw [if_neg q2]; rfl
  generalize putE tok st ([], [], (0, 0)) (beginL p) (-1, -1) = q at *
  obtain ⟨b1, b2, b3, t', b4⟩ := runGo_law 201 0 q.1 [] rfl h3 rfl a1 ⟨by simp, fun j h => absurd h (by simp), fun j h => absurd h (by simp), fun i h1 h2 => by rw [hd] at h2; simp at h2; omega⟩ hr
  refine ⟨hz, b1, b2, b3, by rw [b4, hd]; simp, by rw [b4, hd]; simp, h3⟩
/-- a step of a walk is an edge -/
theorem space_step {p : LProc} {l : List (List Int)} {nx : List (List LEdge)} {at_ : Nat} {k : Int} {m m' : List Int} (hz : (stepsE p).2 = 0) (hx : SpOk p l nx) (ha : at_ < nx.length) (hm : l.getD at_ [] = m) (hok : MarkOk p m) (h : StepAt p m k m') :
    ∃ j, j < (nx.getD at_ []).length ∧ idxOf (fun e : LEdge => e.1 == k) (nx.getD at_ []) = (j : Int) ∧ 0 ≤ ((nx.getD at_ []).getD j (0, 0)).2 ∧ ((nx.getD at_ []).getD j (0, 0)).2 < l.length ∧ l.getD ((nx.getD at_ []).getD j (0, 0)).2.toNat [] = m' := by
  have hcm := markOk_chk hz hok
  have hc := hx.can at_ ha
  have he := hx.ed at_ ha
  rw [hm] at hc he
  generalize nx.getD at_ [] = es at *
  obtain ⟨h0, h1, h2, h3⟩ := h
  have hin : k ∈ canE p m := by
    unfold canE
    rw [if_pos hcm]
    have : k = ((k.toNat : Nat) : Int) := by omega
    rw [this]
    unfold canL canP
    rw [List.mem_map]
    exact ⟨k.toNat, List.mem_filter.2 ⟨List.mem_range.2 (by omega), h2⟩, rfl⟩
  rw [← hc, List.mem_map] at hin
  obtain ⟨e, hmem, hek⟩ := hin
  have hex : ∃ j, j < es.length ∧ idxOf (fun e : LEdge => e.1 == k) es = (j : Int) ∧ (es.getD j (0, 0)).1 = k := by
    unfold idxOf
    cases h : es.findIdx? (fun e : LEdge => e.1 == k) with
    | none =>
      have := List.findIdx?_eq_none_iff.1 h e hmem
      simp [hek] at this
    | some i =>
      obtain ⟨h1, h2, _⟩ := List.findIdx?_eq_some_iff_getElem.1 h
      refine ⟨i, h1, rfl, ?_⟩
      rw [List.getD_eq_getElem?_getD, List.getElem?_eq_getElem h1]
      simpa using h2
  obtain ⟨j, q1, q2, q3⟩ := hex
  have hmj : es.getD j (0, 0) ∈ es := by rw [List.getD_eq_getElem?_getD, List.getElem?_eq_getElem q1]; exact List.getElem_mem _
  obtain ⟨r1, r2, r3, r4⟩ := he _ hmj
  refine ⟨j, q1, q2, r2, r3, ?_⟩
  rw [r4, q3]
  unfold fireE
  rw [if_neg (by simp [hcm]), if_neg (by omega), if_neg (by rw [h2]; decide), h3]
  rfl
end Go.Proofs.Ytadbkppgaekmpaa
