import Derived.Test.YtljcnopekjinjaaRows
import Derived.OpenShut
import Derived.JoinedCond
import Derived.Test.YtljcnopekjinjaaPtSoundEnds13
/-
  SoundWays: walked.
-/
set_option linter.unusedVariables false
set_option linter.unusedSimpArgs false
namespace Go.Proofs.Ytljcnopekjinjaa
open Go.RowKit

instance iSw1 : IsF Try.prog 24 := ⟨_, Try.func24, rfl, by decide⟩
instance iSw2 : IsT Try.prog 61 (Int × List Int) := IsT.of (by kernel_rfl) Try.underlying61 rfl
instance iSw3 : IsC Try.prog 61 2 true := IsC.of (by kernel_rfl) Try.underlying61 rfl
instance iSw4 : IsFd Try.prog 61 0 0 := IsFd.of (by kernel_rfl)
instance iSw5 : IsFd Try.prog 61 1 1 := IsFd.of (by kernel_rfl)
instance iSw6 : IsZC Try.prog 61 [.int .i64 0, .slice none 0 0] := IsZC.of (z := .agg #[.int .i64 0, .slice none 0 0]) (by kernel_rfl) rfl
instance iSw7 : IsBd Try.prog 61 [(0, 1), (1, 1)] := IsBd.of (by kernel_rfl)
instance iSw8 : IsZ Try.prog 61 ((0, []) : (Int × List Int)) 32 := IsZ.of (z := .agg #[.int .i64 0, .slice none 0 0]) (by kernel_rfl) (fun _ _ => rd_mk (rd_mkInt _ _ _) ⟨none, 0, rfl, by simp, by simp [maxLen], fun _ => rfl, fun i hi => absurd hi (by simp)⟩)
instance iSw9 : IsT Try.prog 62 (List (Int × List Int)) := IsT.of (by kernel_rfl) Try.underlying62 rfl
instance iSw10 : IsS Try.prog 62 61 := ⟨Try.underlying62⟩
theorem rchB_dec {g : Graph} {f : List Int} (hg : okG g) (hf : okL g.length f) {b : List Bool} (k : Nat) (hk : f.length + edges g + g.length ≤ k) (h : dfs g k (List.replicate g.length false) f = b) : rchB g f = b := (rchB_run hg hf k hk).trans h
theorem straight_look : lookE straightP 1 9 = (⟨[], -1, -1, [], []⟩, 0) := by
  have hl : stepsL straightP = [(1, 0, 1), (2, 1, 0)] := by decide
  have h1 : stillB [[1, 0], [0, 1], [0, 0]] [[(0, 1)], [(1, 2)], []] = [false, false, false] := by decide
  have h2 : neverB [[1, 0], [0, 1], [0, 0]] [[(0, 1)], [(1, 2)], []] = [false, false, false] := by
    unfold neverB
    rw [rchB_dec (b := [true, true, true]) (turnL_ok _) (f := endsL [[1, 0], [0, 1], [0, 0]]) (by
      intro x hx
      have : endsL [[1, 0], [0, 1], [0, 0]] = [2] := by decide
      rw [this, List.mem_singleton] at hx
      subst hx; decide) 20 (by decide) (by decide)]
    rfl
  have h3 : deadL straightP [[(0, 1)], [(1, 2)], []] = [] := by
    unfold deadL deadP doesL
    rw [hl]; decide
  have h4 : firstE [[(0, 1)], [(1, 2)], []] [false, false, false] = (-1, []) := by
    unfold firstE
    rw [if_pos (by decide)]
  unfold lookE
  rw [straight_sp.2.2, if_neg (by simp)]
  dsimp only
  unfold findingL
  rw [h1, h2, h3, h4]
theorem SameFinding_zero (w : World) {ao bo co : Option Addr} {ac bc cc : Nat} (ha : Sl w (Old w) ao ac ([] : List Int)) (hb : Sl w (Old w) bo bc ([] : List Int)) (hc : Sl w (Old w) co cc ([] : List Int)) :
    Rt Try.prog 24 [finV (.slice ao 0 ac) (.slice bo 0 bc) (.slice co 0 cc) 0 0, finV (.slice none 0 0) (.slice none 0 0) (.slice none 0 0) 0 0].toArray w fun v w' => v = .bool true ∧ Ext w w' := by
  refine Rt.enter2 Try.func24 Try.ntmps24 rfl rfl ?_
  unfold finV
  (repeat (first | (apply CW.seq) | (apply CW.region)))
  refine WL.boxB rfl rfl rfl fun w1 hb2 e1 => ?_
  skip
  refine WL.boxB rfl rfl rfl fun w2 hb3 e2 => ?_
  have hb2 := hb2.ext e2
  have hE := e1.trans e2
  (repeat (first | (apply WL.pure; rfl; rfl; rfl) | (apply WL.nil) | (apply EX.thenN) | (apply CW.seq) | (apply CW.region) | (apply WL.fa; rfl; rfl; rfl) | (apply WL.ld; rfl; rfl; rfl; assumption; rfl)))
  refine WL.call rfl rfl rfl (equal_int w2 (xs := []) (ys := []) (ha.up hE) (Sl.zero _ _)) ?_
  rintro _ w3 ⟨rfl, e3⟩
  have hb2 := hb2.ext e3
  have hb3 := hb3.ext e3
  have hE := hE.trans e3
  rw [show (([] : List Int) == []) = true from rfl]
  (repeat (first | (apply WL.pure; rfl; rfl; rfl) | (apply WL.fa; rfl; rfl; rfl) | (apply WL.ld; rfl; rfl; rfl; assumption; rfl)))
  refine WL.call rfl rfl rfl (equal_int w3 (xs := []) (ys := []) (hb.up hE) (Sl.zero _ _)) ?_
  rintro _ w4 ⟨rfl, e4⟩
  have hb2 := hb2.ext e4
  have hb3 := hb3.ext e4
  have hE := hE.trans e4
  rw [show (([] : List Int) == []) = true from rfl]
  (repeat (first | (apply WL.pure; rfl; rfl; rfl) | (apply WL.fa; rfl; rfl; rfl) | (apply WL.ld; rfl; rfl; rfl; assumption; rfl)))
  refine WL.call rfl rfl rfl (equal_int w4 (xs := []) (ys := []) (hc.up hE) (Sl.zero _ _)) ?_
  rintro _ w5 ⟨rfl, e5⟩
  have hE := hE.trans e5
  rw [show (([] : List Int) == []) = true from rfl]
  (repeat (first | (apply WL.pure; rfl; rfl; rfl) | (apply WL.nil) | (apply EX.thenN) | (apply CW.ret)))
  exact EX.ret1 rfl rfl ⟨rfl, hE⟩
theorem rd_nl {w : World} {F : Nat → Prop} {v : Value} {x : Int × List Int} (h : Rd w F v x) : ∃ lo lc, v = .agg [.int .i64 x.1, .slice lo x.2.length lc].toArray ∧ Sl w F lo lc x.2 := by
  obtain ⟨c1, c2, rfl, h1, h2⟩ := h.pr
  obtain ⟨lo, lc, rfl, k⟩ := rd_sl h2
  rw [rd_int h1]
  exact ⟨lo, lc, rfl, k⟩
theorem rd_ofSl {w : World} {F : Nat → Prop} {ao : Option Addr} {cap : Nat} {xs : List Int} (h : Sl w F ao cap xs) : rd w F [.slice ao xs.length cap] xs := ⟨ao, cap, rfl, h⟩
/-- what a way is -/
def WayAt (p : LProc) (ml : List (List Int)) (x : Int × List Int) : Prop :=
  (x.1 = -1 ∧ x.2 = []) ∨ ∃ k : Nat, x.1 = (k : Int) ∧ k < ml.length ∧ ∃ ms, playE p x.2 = (beginL p :: ms, x.2.length, 0) ∧ (beginL p :: ms).getD ms.length [] = ml.getD k []
theorem sum_nn : ∀ {m : List Int}, (∀ x ∈ m, 0 ≤ x) → 0 ≤ m.sum
  | [], _ => by simp
  | a :: m, h => by
    have h0 := h a (by simp)
    have := sum_nn (m := m) (fun x hx => h x (by simp [hx]))
    rw [List.sum_cons]; omega
theorem sum_pos {m : List Int} (h : ∀ x ∈ m, 0 ≤ x) (he : emptyB m = false) : 0 < m.sum := by
  have hx : ∃ x ∈ m, 0 < x := by
    unfold emptyB at he
    simp only [Bool.not_eq_false', List.any_eq_true, decide_eq_true_eq] at he
    exact he
  clear he
  induction m with
  | nil => obtain ⟨x, hx, _⟩ := hx; cases hx
  | cons a m ih =>
    obtain ⟨x, hm, hp⟩ := hx
    rw [List.sum_cons]
    have h0 := h a (by simp)
    have hs : 0 ≤ m.sum := sum_nn (fun x hx => h x (by simp [hx]))
    rcases List.mem_cons.1 hm with rfl | hm
    · omega
    · have := ih (fun x hx => h x (by simp [hx])) ⟨x, hm, hp⟩
      omega
set_option maxRecDepth 100000 in
set_option maxHeartbeats 1000000 in
theorem SoundWays_ok (w0 : World) {so fo : Option Addr} {sc fc : Nat} {ns : List LNode} {fl : List LFlow} (hs : Sl w0 (Old w0) so sc ns) (hf : Sl w0 (Old w0) fo fc fl) (tok st : Int) :
    Rt Try.prog 5 [procV so sc fo fc ns.length fl.length, .int .i64 tok, .int .i64 st].toArray w0 fun v w' => v = .bool true ∧ Ext w0 w' := by
  refine Rt.enter3 Try.func5 Try.ntmps5 rfl rfl ?_
  have hE := Ext.refl w0
  (repeat (first | (apply CW.seq) | (apply CW.region)))
  refine WL.boxB rfl rfl rfl fun w1 hb3 e1 => ?_
  have hE := hE.trans e1
  (repeat (first | (apply WL.pure; rfl; rfl; rfl) | (apply WL.nil) | (apply EX.thenN) | (apply CW.seq) | (apply CW.region)))
  refine WL.call rfl rfl rfl (straight_ok w1) ?_
  rintro _ w2 ⟨⟨p1, q1, p2, q2, rfl, g1, g2⟩, e2⟩
  have hb3 := hb3.ext e2
  have hE := hE.trans e2
  have hlk := Look_ok w2 (ns := straightP.1) (fl := straightP.2) g1 g2 1 9
  rw [show ((straightP.1, straightP.2) : LProc) = straightP from rfl, straight_look] at hlk
  skip
  refine WL.call rfl rfl rfl hlk ?_
  rintro _ w3 ⟨dv, sv, nv, rfl, hdv, hsv, hnv, e3⟩
  obtain ⟨d1, d2, rfl, _⟩ := hdv.sl
  obtain ⟨s1, s2, rfl, _⟩ := hsv.sl
  obtain ⟨n1, n2, rfl, _⟩ := hnv.sl
  have hb3 := hb3.ext e3
  have hE := hE.trans e3
  unfold finV
  dsimp only
  rw [show (([] : List Int).length) = 0 from rfl]
  (repeat (apply WL.pure; rfl; rfl; rfl))
  refine WL.alloc rfl rfl (fun w4 hb7 e4 => ?_)
  skip
  refine WL.st rfl rfl rfl hb7 rfl rfl (ones_of rfl) (fun w5 hb7 hg5 => ?_)
  have e5 : Ext w3 w5 := e4.grown hg5 e4.size (fun g hg => by cases hg; exact Nat.le_refl _)
  have hb3 := hb3.ext e5
  have hE := hE.trans e5
  clear e1 e2 e3 e4 e5 g1 g2 hg5 hlk hdv hsv hnv
  have hlk := Look_ok w5 (hs.up hE) (hf.up hE) tok st
  have hex := fun w (hw : Ext w0 w) => Explore_ok w (hs.up hw) (hf.up hw) tok st
  have hlaw := explore_law (p := (ns, fl)) (tok := tok) (st := st)
  unfold lookE at hlk
  generalize exploreE (ns, fl) tok st = r at *
  obtain ⟨⟨ml, nl⟩, er⟩ := r
  dsimp only at hlk hex hlaw
  by_cases her : er = 0
  case neg =>
    rw [if_pos her] at hlk
    have b1 : (er != 0) = true := by simpa using her
    (repeat (first | (apply WL.pure; rfl; rfl; rfl) | (apply WL.nil) | (apply EX.thenN) | (apply CW.seq) | (apply CW.region) | (apply WL.lenS; rfl; rfl; rfl) | (apply WL.fa; rfl; rfl; rfl) | (apply WL.ld; rfl; rfl; rfl; assumption; rfl) | (apply WL.ldA; rfl; rfl; rfl; assumption; rfl) | (apply CW.condF; rfl) | (apply CW.skip)))
    refine WL.call rfl rfl rfl hlk ?_
    rintro _ w6 ⟨dv, sv, nv, rfl, hdv, hsv, hnv, e6⟩
    dsimp only at hdv hsv hnv ⊢
    obtain ⟨d1, d2, rfl, hd⟩ := hdv.sl
    obtain ⟨s1, s2, rfl, hs⟩ := hsv.sl
    obtain ⟨n1, n2, rfl, hn⟩ := hnv.sl
    have hE := hE.trans e6
    unfold finV
    rw [show (([] : List Int).length) = 0 from rfl]
    (repeat (apply WL.pure; rfl; rfl; rfl))
    refine WL.alloc rfl rfl (fun w7 hb9 e7 => ?_)
    skip
    refine WL.st rfl rfl rfl hb9 rfl rfl (ones_of rfl) (fun w8 hb9 hg8 => ?_)
    have e8 : Ext w6 w8 := e7.grown hg8 e7.size (fun g hg => by cases hg; exact Nat.le_refl _)
    have hE := hE.trans e8
    (repeat (first | (apply WL.pure; rfl; rfl; rfl) | (apply WL.nil) | (apply EX.thenN) | (apply CW.seq) | (apply CW.region)))
    rw [b1]
    (repeat (first | (apply CW.seq) | (apply CW.region) | (apply WL.ldA; rfl; rfl; rfl; assumption; rfl) | (apply CW.condT; rfl)))
    refine WL.build (parts := []) rfl rfl rfl rfl ?_
    have hsf := SameFinding_zero w8 (hd.up e8) (hs.up e8) (hn.up e8)
    unfold finV at hsf
    skip
    refine WL.call rfl rfl rfl hsf ?_
    rintro _ w9 ⟨rfl, e9⟩
    (repeat (first | (apply WL.pure; rfl; rfl; rfl) | (apply WL.nil) | (apply EX.thenN) | (apply CW.ret) | (apply EX.thenR)))
    exact EX.ret1 rfl rfl ⟨rfl, hE.trans e9⟩
  subst her
  rw [if_neg (by simp)] at hlk
  obtain ⟨hz, hsr, hsp, hnl, hml0, hfirst, h200⟩ := hlaw rfl
  have hst := hsr.st
  have hfs := first_law hsp hnl (by omega) hz hfirst (is := stillB ml nl) (by unfold stillB; rw [List.length_map, List.length_range, hnl])
  have hfn := first_law hsp hnl (by omega) hz hfirst (is := neverB ml nl) (by rw [never_eq hnl, List.length_map, List.length_range, hnl])
  have hsn := fun n hn h => still_never (ml := ml) (nl := nl) hnl (n := n) hn h
  have hcan := hsp.can
  unfold findingL at hlk
  dsimp only at hlk
  generalize firstE nl (stillB ml nl) = fs at *
  generalize firstE nl (neverB ml nl) = fn at *
  generalize stillB ml nl = sB at *
  generalize neverB ml nl = nB at *
  generalize deadL (ns, fl) nl = dL at *
  obtain ⟨sn, sl⟩ := fs
  obtain ⟨nn, nL⟩ := fn
  dsimp only at hlk hfs hfn
  have hws : WayAt (ns, fl) ml (sn, sl) := by
    rcases hfs with ⟨a, b, _⟩ | ⟨k, a, b, _, c⟩
    · exact .inl ⟨a, b⟩
    · exact .inr ⟨k, a, b, c⟩
  have hwn : WayAt (ns, fl) ml (nn, nL) := by
    rcases hfn with ⟨a, b, _⟩ | ⟨k, a, b, _, c⟩
    · exact .inl ⟨a, b⟩
    · exact .inr ⟨k, a, b, c⟩
  have hend : 0 ≤ sn → ∃ k : Nat, sn = (k : Int) ∧ k < ml.length ∧ (nl.getD k []).length = 0 ∧ emptyB (ml.getD k []) = false ∧ 0 ≤ nn := by
    intro h0
    rcases hfs with ⟨a, _, _⟩ | ⟨k, a, b, c, _⟩
    · omega
    · obtain ⟨q1, q2, q3⟩ := hsn k b c
      refine ⟨k, a, b, q1, q2, ?_⟩
      rcases hfn with ⟨_, _, d⟩ | ⟨k', a', _⟩
      · exact absurd q3 d
      · omega
  clear hfs hfn hsn
  (repeat (first | (apply WL.pure; rfl; rfl; rfl) | (apply WL.nil) | (apply EX.thenN) | (apply CW.seq) | (apply CW.region) | (apply WL.lenS; rfl; rfl; rfl) | (apply WL.fa; rfl; rfl; rfl) | (apply WL.ld; rfl; rfl; rfl; assumption; rfl) | (apply WL.ldA; rfl; rfl; rfl; assumption; rfl) | (apply CW.condF; rfl) | (apply CW.skip)))
  refine WL.call rfl rfl rfl hlk ?_
  rintro _ w6 ⟨dv, sv, nv, rfl, hdv, hsv, hnv, e6⟩
  dsimp only at hdv hsv hnv ⊢
  obtain ⟨d1, d2, rfl, hd⟩ := hdv.sl
  obtain ⟨s1, s2, rfl, hss⟩ := hsv.sl
  obtain ⟨n1, n2, rfl, hns⟩ := hnv.sl
  have hb3 := hb3.ext e6
  have hE := hE.trans e6
  unfold finV
  (repeat (apply WL.pure; rfl; rfl; rfl))
  refine WL.alloc rfl rfl (fun w7 hb9 e7 => ?_)
  skip
  refine WL.st rfl rfl rfl hb9 rfl rfl (ones_of rfl) (fun w8 hb9 hg8 => ?_)
  have e8 : Ext w6 w8 := e7.grown hg8 e7.size (fun g hg => by cases hg; exact Nat.le_refl _)
  have hb3 := hb3.ext e8
  have hE := hE.trans e8
  have hss := hss.up e8
  have hns := hns.up e8
  clear hlk hdv hsv hnv e6 e7 e8 hg8 hd
  (repeat (first | (apply WL.pure; rfl; rfl; rfl) | (apply WL.nil) | (apply EX.thenN) | (apply CW.seq) | (apply CW.region) | (apply WL.ldA; rfl; rfl; rfl; assumption; rfl) | (apply CW.condF; rfl) | (apply CW.skip)))
  refine WL.call rfl rfl rfl (hex w8 hE) ?_
  rintro _ w9 ⟨xv, yv, rfl, hxv, hyv, e9⟩
  obtain ⟨mo, mc, rfl, hm⟩ := hxv.sl
  obtain ⟨no, nc, rfl, _⟩ := hyv.sl
  have hb3 := hb3.ext e9
  have hb9 := hb9.ext e9
  have hE := hE.trans e9
  have hss := hss.up e9
  have hns := hns.up e9
  (repeat (apply WL.pure; rfl; rfl; rfl))
  refine WL.alloc rfl rfl (fun w10 hb11 e10 => ?_)
  skip
  refine WL.st rfl rfl rfl hb11 rfl rfl (ones_of rfl) (fun w11 hb11 hg11 => ?_)
  have e11 : Ext w9 w11 := e10.grown hg11 e10.size (fun g hg => by cases hg; exact Nat.le_refl _)
  have hb3 := hb3.ext e11
  have hb9 := hb9.ext e11
  have hE := hE.trans e11
  have hss := hss.up e11
  have hns := hns.up e11
  have hm := hm.up e11
  clear hxv hyv e9 e10 e11 hg11
  (repeat (first | (apply WL.pure; rfl; rfl; rfl) | (apply WL.nil) | (apply EX.thenN) | (apply CW.seq) | (apply CW.region) | (apply WL.fa; rfl; rfl; rfl) | (apply WL.ld; rfl; rfl; rfl; assumption; rfl)))
  refine WL.build rfl rfl rfl rfl ?_
  (repeat (first | (apply WL.fa; rfl; rfl; rfl) | (apply WL.ld; rfl; rfl; rfl; assumption; rfl)))
  refine WL.build rfl rfl rfl rfl ?_
  skip
  refine WL.litR [((sn, sl) : Int × List Int), (nn, nL)] rfl rfl rfl rfl rfl (.cons (Rd.mkPr (c1 := [.int .i64 sn]) (c2 := [.slice s1 sl.length s2]) (rd_mkInt _ _ _) (rd_ofSl hss)) (.cons (Rd.mkPr (c1 := [.int .i64 nn]) (c2 := [.slice n1 nL.length n2]) (rd_mkInt _ _ _) (rd_ofSl hns))   .nil)) (by show 2 * 2 ≤ 16777216; decide) (fun v12 w12 e12 r12 _ => ?_)
  have hb3 := hb3.ext e12
  have hb9 := hb9.ext e12
  have hb11 := hb11.ext e12
  have hE := hE.trans e12
  have hm := hm.up e12
  obtain ⟨xo, xc, rfl, hxs⟩ := r12.sl
  have hall : ∀ i (h : i < [((sn, sl) : Int × List Int), (nn, nL)].length), WayAt (ns, fl) ml [((sn, sl) : Int × List Int), (nn, nL)][i] := fun i h => by
    rcases i with _ | _ | i
    · exact hws
    · exact hwn
    · simp at h; omega
  have hxl : [((sn, sl) : Int × List Int), (nn, nL)].length = 2 := rfl
  generalize [((sn, sl) : Int × List Int), (nn, nL)] = xs at *
  clear hws hwn hss hns r12 e12
  have hmll := hm.len63
  (repeat (first | (apply WL.pure; rfl; rfl; rfl) | (apply WL.nil) | (apply EX.thenN) | (apply WL.lenS; rfl; rfl; rfl) | (apply CW.block)))
  refine CW.loop (S := Nat) (fun i => [(3, .pointer (some ⟨w0.heap.size, 0, none⟩)), (9, .pointer (some ⟨w6.heap.size, 0, none⟩)), (11, .pointer (some ⟨w9.heap.size, 0, none⟩)), (72, .slice xo xs.length xc), (73, .int .i64 xs.length), (74, .int .i64 i)])
    (fun i w => i ≤ xs.length ∧ Ext w12 w) (fun i => xs.length - i) 0 (by repeat (first | exact trivial | refine ⟨rfl, ?_⟩)) ⟨Nat.zero_le _, Ext.refl _⟩ ?_
  rintro i w13 ⟨hi, e13⟩
  have hb3 := hb3.ext e13
  have hb9 := hb9.ext e13
  have hb11 := hb11.ext e13
  have hE13 := hE.trans e13
  have hm := hm.up e13
  (repeat (first | (apply WL.pure; rfl; rfl; rfl) | (apply WL.nil) | (apply EX.thenN) | (apply CW.seq) | (apply CW.region)))
  refine CW.cond rfl (fun h => ?_) (fun h => ?_)
  · have hi' : i < xs.length := by simp at h; omega
    have hwi := hall i hi'
    (repeat (first | (apply EX.thenN) | (apply CW.seq) | (apply CW.region) | (apply CW.block) | (apply CW.skip)))
    refine WL.elemN (i := i) rfl rfl rfl rfl rfl (hxs.up e13) hi' (fun _ => rfl) (fun u q hu => ?_)
    obtain ⟨lo, lc, rfl, hls⟩ := rd_nl hu
    clear hu
    generalize xs[i] = x at *
    obtain ⟨xn, xl⟩ := x
    dsimp only at hls ⊢
    skip
    refine WL.alloc rfl rfl (fun w14 hb14 e14 => ?_)
    skip
    refine WL.st rfl rfl rfl hb14 rfl rfl (ones_of rfl) (fun w15 hb14 hg15 => ?_)
    have e15 : Ext w13 w15 := e14.grown hg15 e14.size (fun g hg => by cases hg; exact Nat.le_refl _)
    have hb3 := hb3.ext e15
    have hb11 := hb11.ext e15
    have hE15 := hE13.trans e15
    have hls := hls.up e15
    have hm := hm.up e15
    have hll := hls.len63
    have hpl := Play_ok w15 (hs.up hE15) (hf.up hE15) hls
    rcases hwi with ⟨h1, h2⟩ | ⟨k, h1, h2, ms, h3, h4⟩
    · dsimp only at h1 h2
      subst h1; subst h2
      (repeat (first | (apply WL.nil) | (apply EX.thenN) | (apply CW.seq) | (apply CW.region) | (apply WL.fa; rfl; rfl; rfl) | (apply WL.ld; rfl; rfl; rfl; assumption; rfl) | (apply WL.ldA; rfl; rfl; rfl; assumption; rfl)))
      refine WL.call rfl rfl rfl hpl ?_
      rintro _ w16 ⟨pv, rfl, hpv, e16⟩
      have hb14 := hb14.ext e16
      rw [show (([] : List Int).length) = 0 from rfl] at hb14
      (repeat (first | (apply WL.pure; rfl; rfl; rfl) | (apply QL.pure; rfl; rfl; rfl) | (apply WL.nil) | (apply EX.thenN) | (apply CW.seq) | (apply QL.pass; rfl; rfl) | (apply QL.lenS; rfl; rfl; rfl) | (apply QL.fa; rfl; rfl; rfl) | (apply QL.ld; rfl; rfl; rfl; assumption; rfl) | (apply CW.draw; exact mixed; kernel_rfl)))
      refine QL.nil (fun w17 e17 => ?_)
      (repeat (first | (apply WL.add; rfl; rfl; rfl; rfl; omega; omega) | (apply WL.pure; rfl; rfl; rfl) | (apply WL.nil) | (apply EX.thenN) | (apply CW.region) | (apply EX.inN) | (apply CW.condF; rfl) | (apply CW.skip)))
      exact EX.back (i + 1) (by repeat (first | exact trivial | refine ⟨rfl, ?_⟩)) ⟨hi', ((e13.trans e15).trans e16).trans e17⟩ (by omega)
    · dsimp only at h1 h3
      subst h1
      rw [h3] at hpl
      (repeat (first | (apply WL.nil) | (apply EX.thenN) | (apply CW.seq) | (apply CW.region) | (apply WL.fa; rfl; rfl; rfl) | (apply WL.ld; rfl; rfl; rfl; assumption; rfl) | (apply WL.ldA; rfl; rfl; rfl; assumption; rfl)))
      refine WL.call rfl rfl rfl hpl ?_
      rintro _ w16 ⟨pv, rfl, hpv, e16⟩
      dsimp only at hpv ⊢
      obtain ⟨po, pc, rfl, hps⟩ := hpv.sl
      have hb14 := hb14.ext e16
      have hb11 := hb11.ext e16
      have hm := hm.up e16
      have hpm := hps.len63
      have hM : (beginL (ns, fl) :: ms).length = ms.length + 1 := by simp
      have hge : decide ((k : Int) ≥ 0) = true := decide_eq_true (by omega)
      have hlt : decide ((k : Int) < 0) = false := decide_eq_false (by omega)
      generalize beginL (ns, fl) :: ms = M at *
      have hMi : M.getD ms.length [] = M[ms.length] := getDG_atM (by omega)
      rw [hMi, getDG_atM h2] at h4
      (repeat (first | (apply QL.sub'; rfl; rfl; rfl; rfl; omega; omega) | (apply WL.pure; rfl; rfl; rfl) | (apply QL.pure; rfl; rfl; rfl) | (apply WL.nil) | (apply EX.thenN) | (apply CW.seq) | (apply QL.lenS; rfl; rfl; rfl) | (apply QL.fa; rfl; rfl; rfl) | (apply QL.ld; rfl; rfl; rfl; assumption; rfl) | (apply CW.draw; exact mixed; kernel_rfl)))
      rw [hge]
      skip
      rw [show ((M.length : Int) - 1) = ((ms.length : Nat) : Int) by omega]
      refine QL.elemN (i := ms.length) rfl rfl rfl rfl rfl (fun _ h => h) hps (by omega) (fun _ => rfl) (fun u q' hu => ?_)
      obtain ⟨ua, uc, rfl, hus⟩ := hu.sl
      (repeat (first | (apply QL.fa; rfl; rfl; rfl) | (apply QL.ld; rfl; rfl; rfl; assumption; rfl)))
      refine QL.elemN (i := k) rfl rfl rfl rfl rfl (fun _ h => h) hm h2 (fun _ => rfl) (fun u q' hu' => ?_)
      obtain ⟨va, vc, rfl, hvs⟩ := hu'.sl
      refine QL.call rfl rfl rfl (fun w hw => equal_int w (hus.up hw) (hvs.up hw)) ?_
      rw [show (M[ms.length] == ml[k]) = true by rw [h4]; simp]
      (repeat (first | (apply QL.pure; rfl; rfl; rfl) | (apply QL.pass; rfl; rfl) | (apply QL.fa; rfl; rfl; rfl) | (apply QL.ld; rfl; rfl; rfl; assumption; rfl)))
      rw [hlt]
      skip
      refine QL.nil (fun w17 e17 => ?_)
      (repeat (first | (apply WL.add; rfl; rfl; rfl; rfl; omega; omega) | (apply WL.pure; rfl; rfl; rfl) | (apply WL.nil) | (apply EX.thenN) | (apply CW.region) | (apply EX.inN) | (apply CW.condF; rfl) | (apply CW.skip)))
      exact EX.back (i + 1) (by repeat (first | exact trivial | refine ⟨rfl, ?_⟩)) ⟨hi', ((e13.trans e15).trans e16).trans e17⟩ (by omega)
  · clear hall hxs h
    (repeat (first | (apply WL.pure; rfl; rfl; rfl) | (apply WL.nil) | (apply EX.thenN) | (apply CW.seq) | (apply CW.region) | (apply WL.fa; rfl; rfl; rfl) | (apply WL.ld; rfl; rfl; rfl; assumption; rfl) | (apply CW.exit) | (apply EX.thenX) | (apply EX.inX)))
    by_cases h0 : sn ≥ 0
    case neg =>
      rw [decide_eq_false h0]
      (repeat (first | (apply WL.pure; rfl; rfl; rfl) | (apply WL.nil) | (apply EX.thenN) | (apply CW.seq) | (apply CW.region) | (apply CW.condF; rfl) | (apply CW.ret) | (apply CW.skip)))
      exact EX.ret1 rfl rfl ⟨rfl, hE13⟩
    rw [decide_eq_true h0]
    obtain ⟨k, rfl, hk, hrow, hemp, hnn⟩ := hend h0
    have hmk := hsr.ok _ (List.getElem_mem hk)
    have hcm := markOk_chk hz hmk
    have hk' : k < nl.length := by omega
    have hck := hcan k hk'
    rw [List.eq_nil_of_length_eq_zero hrow, getDG_atM hk] at hck
    have hcl : canL (ns, fl) ml[k] = [] := by
      unfold canE at hck
      rw [if_pos hcm] at hck
      simpa using hck.symm
    obtain ⟨hc0, _, _⟩ := stepsE_ok hz
    have hf30 := (chkPr_ok hc0).f
    dsimp only at hf30
    have hsum : 0 < ml[k].sum := by
      rw [getDG_atM hk] at hemp
      refine sum_pos (fun x hx => ?_) hemp
      obtain ⟨t, ht, rfl⟩ := List.mem_iff_getElem.1 hx
      have := (hmk.2 t).1
      rwa [getDm_at ht] at this
    have hlen := hmk.1
    dsimp only at hlen
    have hSE : ∀ w1, (fun x => Ext w13 x) w1 → Ext w13 w1 := fun _ h => h
    (repeat (first | (apply CW.seq) | (apply CW.condT; rfl)))
    refine CW.drawH (fun x => Ext w13 x) [(0, true), (1, true), (2, true), (3, true), (4, true), (5, true), (6, true), (7, false), (8, true), (9, true), (10, true), (11, true), (12, true)] mixed (by kernel_rfl) (Ext.drew w13) ?_
    (repeat (first | (refine HL.fa rfl rfl rfl rfl ?_) | (refine HL.ld (by assumption) rfl rfl rfl rfl (by assumption) rfl ?_) | (refine HL.ldA (by assumption) rfl rfl rfl rfl (by assumption) rfl ?_)))
    refine HL.elemN (k := k) hSE rfl rfl rfl rfl rfl rfl rfl (fun _ h => h) hm hk (fun _ => rfl) (fun u q hu => ?_)
    obtain ⟨ua, uc, rfl, hus⟩ := hu.sl
    have ed := Ext.drew w13
    refine HL.mut rfl (WL.call rfl rfl rfl (Enabled_ok (drew w13) (hs.up (hE13.trans ed)) (hf.up (hE13.trans ed)) (hus.up ed)) ?_)
    rintro _ w14 ⟨x, rfl, hox, e14⟩
    rw [if_pos hcm, hcl] at hox
    rw [hcm]
    obtain ⟨xo2, xc2, rfl⟩ := hox.val
    rw [show (([] : List Int).length) = 0 from rfl]
    have e14 := ed.trans e14
    refine WL.nil (EX.mut e14 ?_)
    (repeat (first | (apply HL.pure; rfl; rfl; rfl; rfl) | (apply HL.nil)))
    have hb9 := hb9.ext e14
    have hb11 := hb11.ext e14
    have hm := hm.up e14
    have hE14 := hE13.trans e14
    (repeat (first | (apply WL.pure; rfl; rfl; rfl) | (apply EX.thenN) | (apply CW.seq) | (apply CW.region) | (apply WL.lenS; rfl; rfl; rfl) | (apply WL.fa; rfl; rfl; rfl) | (apply WL.ld; rfl; rfl; rfl; assumption; rfl)))
    refine WL.elemN (i := k) rfl rfl rfl rfl rfl hm hk (fun _ => rfl) (fun u q hu => ?_)
    obtain ⟨va, vc, rfl, hvs⟩ := hu.sl
    skip
    refine WL.call rfl rfl rfl (sumOf_ok w14 hvs hmk.2 (by omega)) ?_
    rintro _ w15 ⟨rfl, e15⟩
    have hb9 := hb9.ext e15
    (repeat (apply WL.pure; rfl; rfl; rfl))
    rw [decide_eq_true (show ml[k].sum > 0 from hsum)]
    (repeat (first | (apply WL.pure; rfl; rfl; rfl) | (apply WL.nil) | (apply EX.thenN) | (apply WL.fa; rfl; rfl; rfl) | (apply WL.ld; rfl; rfl; rfl; assumption; rfl) | (apply CW.ret) | (apply EX.thenR)))
    rw [decide_eq_true (show nn ≥ 0 from hnn)]
    skip
    exact EX.ret1 rfl rfl ⟨rfl, hE14.trans e15⟩
end Go.Proofs.Ytljcnopekjinjaa
/-
  SoundEnds: walked.
-/
set_option linter.unusedVariables false
set_option linter.unusedSimpArgs false
namespace Go.Proofs.Ytljcnopekjinjaa
open Go.RowKit

instance iSe1 : IsF Try.prog 21 := ⟨_, Try.func21, rfl, by decide⟩
theorem sum_zero {m : List Int} (h : ∀ x ∈ m, 0 ≤ x) (he : emptyB m = true) : m.sum = 0 := by
  have h0 : ∀ x ∈ m, x = 0 := fun x hx => by
    unfold emptyB at he
    simp only [Bool.not_eq_true', List.any_eq_false, decide_eq_true_eq] at he
    have := he x hx
    have := h x hx
    omega
  clear he h
  induction m with
  | nil => rfl
  | cons a m ih => rw [List.sum_cons, h0 a (by simp), ih (fun x hx => h0 x (by simp [hx]))]; rfl
theorem rch_trans {g : Graph} {a : List Int} {m : Nat} (h1 : Rch g a m) {e : Nat} (h2 : Rch g [(m : Int)] e) : Rch g a e := by
  induction h2 with
  | @base x hx =>
    rw [List.mem_singleton] at hx
    subst hx
    rw [Int.toNat_natCast]; exact h1
  | @step k x _ hx ih => exact Rch.step ih hx
section
variable {p : LProc} {ml : List (List Int)} {nl : List (List LEdge)}
theorem ends_rch (hl : nl.length = ml.length) {n : Nat} (h : Rch (turnL (grL nl)) (endsL ml) n) : ∃ e : Nat, e < ml.length ∧ emptyB (ml.getD e []) = true ∧ Rch (grL nl) [(n : Int)] e := by
  induction h with
  | @base x hx =>
    unfold endsL endsP at hx
    rw [List.mem_map] at hx
    obtain ⟨i, hi, rfl⟩ := hx
    obtain ⟨h1, h2⟩ := List.mem_filter.1 hi
    rw [Int.toNat_natCast]
    exact ⟨i, List.mem_range.1 h1, h2, by have := Rch.base (g := grL nl) (from' := [(i : Int)]) (x := (i : Int)) (by simp); rwa [Int.toNat_natCast] at this⟩
  | @step m x hr hx ih =>
    obtain ⟨e, h1, h2, h3⟩ := ih
    refine ⟨e, h1, h2, ?_⟩
    have hmg : m < (turnL (grL nl)).length := by
      apply Classical.byContradiction
      intro h
      rw [List.getD_eq_getElem?_getD, List.getElem?_eq_none (by omega)] at hx
      cases hx
    have hxr := okG_row (turnL_ok (grL nl)) m x hx
    have hx' : ((x.toNat : Nat) : Int) ∈ (turnL (grL nl)).getD m [] := by rw [show ((x.toNat : Nat) : Int) = x by omega]; exact hx
    rw [turnL_len] at hmg
    have hm := ((turnL_mem hmg).1 hx').2
    have hb := Rch.base (g := grL nl) (from' := [((x.toNat : Nat) : Int)]) (x := ((x.toNat : Nat) : Int)) (by simp)
    rw [Int.toNat_natCast] at hb
    have hs := Rch.step hb hm
    rw [Int.toNat_natCast] at hs
    exact rch_trans hs h3
theorem never_all (hl : nl.length = ml.length) (h : true ∉ neverB ml nl) {n : Nat} (hn : n < ml.length) : ∃ e : Nat, e < ml.length ∧ emptyB (ml.getD e []) = true ∧ Rch (grL nl) [(n : Int)] e := by
  refine ends_rch hl ?_
  have hlen : n < (rchB (turnL (grL nl)) (endsL ml)).length := by rw [rchB_len, turnL_len, grL_len]; omega
  apply Classical.byContradiction
  intro hno
  refine h ?_
  unfold neverB
  rw [List.mem_map]
  refine ⟨(rchB (turnL (grL nl)) (endsL ml))[n], List.getElem_mem _, ?_⟩
  cases e : (rchB (turnL (grL nl)) (endsL ml))[n] with
  | false => rfl
  | true => exact absurd ((rchB_iff hlen).1 e) hno
theorem walk_in (hs : SpOk p ml nl) (hl : nl.length = ml.length) (hz : (stepsE p).2 = 0) (h0 : 0 < ml.length) (hb : ml.getD 0 [] = beginL p) (dice : List Int) : ∀ i, i < (walkedP p dice).1.length → ∃ a, a < ml.length ∧ ml.getD a [] = (walkedP p dice).1.getD i [] := by
  obtain ⟨hne, hw0⟩ := (show (walkedP p dice).1 ≠ [] ∧ (walkedP p dice).1.getD 0 [] = beginL p by
    unfold walkedP
    rw [if_neg (by simp [hz])]
    exact ⟨by simp, rfl⟩)
  obtain ⟨_, hlen, hst, hok⟩ := walked_law (p := p) dice hne
  intro i
  induction i with
  | zero => intro _; exact ⟨0, h0, by rw [hb, hw0]⟩
  | succ i ih =>
    intro hi
    obtain ⟨a, ha, he⟩ := ih (by omega)
    have hmi : (walkedP p dice).1.getD i [] ∈ (walkedP p dice).1 := by rw [getDG_atM (by omega)]; exact List.getElem_mem _
    obtain ⟨j, _, _, t0, t1, t2⟩ := space_step hz hs (by omega) he (hok _ hmi) (hst i (by omega))
    exact ⟨_, by omega, t2⟩
end
theorem idx_found {α : Type} {p : α → Bool} {l : List α} {a : Nat} (ha : a < l.length) (h : p l[a] = true) : ∃ k : Nat, idxOf p l = (k : Int) ∧ ∃ hk : k < l.length, p l[k] = true := by
  unfold idxOf
  cases e : l.findIdx? p with
  | none =>
    have := List.findIdx?_eq_none_iff.1 e _ (List.getElem_mem ha)
    rw [h] at this; cases this
  | some i =>
    obtain ⟨h1, h2, _⟩ := List.findIdx?_eq_some_iff_getElem.1 e
    exact ⟨i, rfl, h1, h2⟩
theorem ends1_ok (w : World) (b : Nat) {ko mo : Option Addr} {kc mc : Nat} {marks : List (List Int)} {m : List Int} (hb : Blk w b 32 [.slice ko marks.length kc]) (hk : Sl w (Old w) ko kc marks) (hm : Sl w (Old w) mo mc m) (h0 : 0 < marks.length) :
    Rt Try.prog 21 [.slice mo m.length mc, .pointer (some ⟨b, 0, none⟩)].toArray w fun v w' => v = .bool (m == marks[marks.length - 1]) ∧ Ext w w' := by
  have hkl := hk.len63
  refine Rt.enter2 Try.func21 Try.ntmps21 rfl rfl ?_
  (repeat (first | (apply WL.sub'; rfl; rfl; rfl; rfl; omega; omega) | (apply WL.pure; rfl; rfl; rfl) | (apply WL.nil) | (apply EX.thenN) | (apply CW.seq) | (apply CW.region) | (apply WL.lenS; rfl; rfl; rfl) | (apply WL.ld; rfl; rfl; rfl; assumption; rfl)))
  rw [show ((marks.length : Int) - 1) = ((marks.length - 1 : Nat) : Int) by omega]
  refine WL.elemN (i := marks.length - 1) rfl rfl rfl rfl rfl hk (by omega) (fun _ => rfl) (fun u q hu => ?_)
  obtain ⟨ua, uc, rfl, hus⟩ := hu.sl
  skip
  refine WL.call rfl rfl rfl (equal_int w hm hus) ?_
  rintro _ w1 ⟨rfl, e1⟩
  (repeat (first | (apply WL.pure; rfl; rfl; rfl) | (apply WL.nil) | (apply EX.thenN) | (apply CW.ret)))
  exact EX.ret1 rfl rfl ⟨rfl, e1⟩
set_option maxRecDepth 100000 in
set_option maxHeartbeats 1000000 in
theorem SoundEnds_ok (w0 : World) {so fo dO : Option Addr} {sc fc dc : Nat} {ns : List LNode} {fl : List LFlow} {dice : List Int} (hs : Sl w0 (Old w0) so sc ns) (hf : Sl w0 (Old w0) fo fc fl) (hd : Sl w0 (Old w0) dO dc dice) (hdl : dice.length ≤ 1048576) (tok st : Int) :
    Rt Try.prog 4 [procV so sc fo fc ns.length fl.length, .int .i64 tok, .int .i64 st, .slice dO dice.length dc].toArray w0 fun v w' => v = .bool true ∧ Ext w0 w' := by
  refine Rt.enter4 Try.func4 Try.ntmps4 rfl rfl ?_
  have hE := Ext.refl w0
  (repeat (first | (apply CW.seq) | (apply CW.region)))
  refine WL.boxB rfl rfl rfl fun w1 hb4 e1 => ?_
  have hE := hE.trans e1
  (repeat (first | (apply WL.pure; rfl; rfl; rfl) | (apply WL.nil) | (apply EX.thenN) | (apply CW.seq) | (apply CW.region)))
  refine WL.call rfl rfl rfl (straight_ok w1) ?_
  rintro _ w2 ⟨⟨p1, q1, p2, q2, rfl, g1, g2⟩, e2⟩
  have hb4 := hb4.ext e2
  have hE := hE.trans e2
  have hlk := Look_ok w2 (ns := straightP.1) (fl := straightP.2) g1 g2 1 9
  rw [show ((straightP.1, straightP.2) : LProc) = straightP from rfl, straight_look] at hlk
  skip
  refine WL.call rfl rfl rfl hlk ?_
  rintro _ w3 ⟨dv, sv, nv, rfl, hdv, hsv, hnv, e3⟩
  obtain ⟨d1, d2, rfl, _⟩ := hdv.sl
  obtain ⟨s1, s2, rfl, _⟩ := hsv.sl
  obtain ⟨n1, n2, rfl, _⟩ := hnv.sl
  have hb4 := hb4.ext e3
  have hE := hE.trans e3
  unfold finV
  dsimp only
  rw [show (([] : List Int).length) = 0 from rfl]
  (repeat (apply WL.pure; rfl; rfl; rfl))
  refine WL.alloc rfl rfl (fun w4 hb9 e4 => ?_)
  skip
  refine WL.st rfl rfl rfl hb9 rfl rfl (ones_of rfl) (fun w5 hb9 hg5 => ?_)
  have e5 : Ext w3 w5 := e4.grown hg5 e4.size (fun g hg => by cases hg; exact Nat.le_refl _)
  have hb4 := hb4.ext e5
  have hE := hE.trans e5
  clear e1 e2 e3 e4 e5 g1 g2 hg5 hlk hdv hsv hnv
  have hlk := Look_ok w5 (hs.up hE) (hf.up hE) tok st
  have hex := fun w (hw : Ext w0 w) => Explore_ok w (hs.up hw) (hf.up hw) tok st
  have hlaw := explore_law (p := (ns, fl)) (tok := tok) (st := st)
  unfold lookE at hlk
  generalize exploreE (ns, fl) tok st = r at *
  obtain ⟨⟨ml, nl⟩, er⟩ := r
  dsimp only at hlk hex hlaw
  by_cases her : er = 0
  case neg =>
    rw [if_pos her] at hlk
    have b1 : (er != 0) = true := by simpa using her
    have b2 : (er == 0) = false := by simpa using her
    (repeat (first | (apply WL.pure; rfl; rfl; rfl) | (apply WL.nil) | (apply EX.thenN) | (apply CW.seq) | (apply CW.region) | (apply WL.fa; rfl; rfl; rfl) | (apply WL.ld; rfl; rfl; rfl; assumption; rfl) | (apply WL.ldA; rfl; rfl; rfl; assumption; rfl) | (apply CW.condF; rfl) | (apply CW.skip)))
    refine WL.call rfl rfl rfl hlk ?_
    rintro _ w6 ⟨dv, sv, nv, rfl, hdv, hsv, hnv, e6⟩
    dsimp only at hdv hsv hnv ⊢
    obtain ⟨d1, d2, rfl, _⟩ := hdv.sl
    obtain ⟨s1, s2, rfl, _⟩ := hsv.sl
    obtain ⟨n1, n2, rfl, _⟩ := hnv.sl
    have hE := hE.trans e6
    unfold finV
    rw [show (([] : List Int).length) = 0 from rfl]
    (repeat (apply WL.pure; rfl; rfl; rfl))
    refine WL.alloc rfl rfl (fun w7 hb11 e7 => ?_)
    skip
    refine WL.st rfl rfl rfl hb11 rfl rfl (ones_of rfl) (fun w8 hb11 hg8 => ?_)
    have e8 : Ext w6 w8 := e7.grown hg8 e7.size (fun g hg => by cases hg; exact Nat.le_refl _)
    have hE := hE.trans e8
    (repeat (first | (apply WL.pure; rfl; rfl; rfl) | (apply WL.nil) | (apply EX.thenN) | (apply CW.seq) | (apply CW.region)))
    rw [b1]
    (repeat (first | (apply WL.pure; rfl; rfl; rfl) | (apply WL.nil) | (apply EX.thenN) | (apply CW.seq) | (apply CW.region) | (apply WL.pass; rfl; rfl) | (apply CW.condT; rfl)))
    rw [b2]
    (repeat (first | (apply WL.pure; rfl; rfl; rfl) | (apply WL.nil) | (apply EX.thenN) | (apply WL.fa; rfl; rfl; rfl) | (apply WL.ld; rfl; rfl; rfl; assumption; rfl) | (apply CW.ret) | (apply EX.thenR)))
    exact EX.ret1 rfl rfl ⟨rfl, hE⟩
  subst her
  rw [if_neg (by simp)] at hlk
  obtain ⟨hz, hsr, hsp, hnl, hml0, hfirst, h200⟩ := hlaw rfl
  have hst := hsr.st
  obtain ⟨hc0, _, hl60⟩ := stepsE_ok hz
  have hf30 := (chkPr_ok hc0).f
  dsimp only at hf30
  have hrow := sp_rows hsp hl60
  have hgok := grL_ok hsp hnl
  have hfn := first_law hsp hnl (by omega) hz hfirst (is := neverB ml nl) (by rw [never_eq hnl, List.length_map, List.length_range, hnl])
  have hall := fun h n hn => never_all (ml := ml) (nl := nl) hnl h (n := n) hn
  have hwin := walk_in hsp hnl hz hml0 hfirst dice
  unfold findingL at hlk
  dsimp only at hlk
  generalize firstE nl (stillB ml nl) = fs at *
  generalize firstE nl (neverB ml nl) = fn at *
  generalize neverB ml nl = nB at *
  generalize deadL (ns, fl) nl = dL at *
  obtain ⟨sn, sl⟩ := fs
  obtain ⟨nn, nL⟩ := fn
  dsimp only at hlk hfn
  (repeat (first | (apply WL.pure; rfl; rfl; rfl) | (apply WL.nil) | (apply EX.thenN) | (apply CW.seq) | (apply CW.region) | (apply WL.fa; rfl; rfl; rfl) | (apply WL.ld; rfl; rfl; rfl; assumption; rfl) | (apply WL.ldA; rfl; rfl; rfl; assumption; rfl) | (apply CW.condF; rfl) | (apply CW.skip)))
  refine WL.call rfl rfl rfl hlk ?_
  rintro _ w6 ⟨dv, sv, nv, rfl, hdv, hsv, hnv, e6⟩
  dsimp only at hdv hsv hnv ⊢
  obtain ⟨d1, d2, rfl, _⟩ := hdv.sl
  obtain ⟨s1, s2, rfl, _⟩ := hsv.sl
  obtain ⟨n1, n2, rfl, _⟩ := hnv.sl
  have hb4 := hb4.ext e6
  have hE := hE.trans e6
  unfold finV
  (repeat (apply WL.pure; rfl; rfl; rfl))
  refine WL.alloc rfl rfl (fun w7 hb11 e7 => ?_)
  skip
  refine WL.st rfl rfl rfl hb11 rfl rfl (ones_of rfl) (fun w8 hb11 hg8 => ?_)
  have e8 : Ext w6 w8 := e7.grown hg8 e7.size (fun g hg => by cases hg; exact Nat.le_refl _)
  have hb4 := hb4.ext e8
  have hE := hE.trans e8
  clear hlk hdv hsv hnv e6 e7 e8 hg8
  (repeat (first | (apply WL.pure; rfl; rfl; rfl) | (apply WL.nil) | (apply EX.thenN) | (apply CW.seq) | (apply CW.region) | (apply WL.fa; rfl; rfl; rfl) | (apply WL.ld; rfl; rfl; rfl; assumption; rfl)))
  by_cases hn0 : nn ≥ 0
  · rw [decide_eq_true hn0]
    (repeat (first | (apply WL.pure; rfl; rfl; rfl) | (apply WL.nil) | (apply EX.thenN) | (apply CW.seq) | (apply CW.region) | (apply WL.pass; rfl; rfl) | (apply CW.condT; rfl) | (apply CW.ret) | (apply EX.thenR)))
    exact EX.ret1 rfl rfl ⟨rfl, hE⟩
  rw [decide_eq_false hn0]
  have hall : ∀ n, n < ml.length → ∃ e : Nat, e < ml.length ∧ emptyB (ml.getD e []) = true ∧ Rch (grL nl) [(n : Int)] e := by
    rcases hfn with ⟨_, _, h⟩ | ⟨k, h, _⟩
    · exact hall h
    · exact absurd (show nn ≥ 0 by rw [h]; omega) hn0
  clear hfn
  (repeat (first | (apply WL.pure; rfl; rfl; rfl) | (apply EX.thenN) | (apply CW.seq) | (apply CW.region) | (apply WL.ldA; rfl; rfl; rfl; assumption; rfl) | (apply CW.condF; rfl) | (apply CW.skip)))
  refine WL.call rfl rfl rfl (walked_ok w8 (hs.up hE) (hf.up hE) (hd.up hE) hdl) ?_
  rintro _ w9 ⟨mv, lv, rfl, hmv, hlv, e9⟩
  have hb4 := hb4.ext e9
  have hE := hE.trans e9
  have hwne : (walkedP (ns, fl) dice).1 ≠ [] := by
    unfold walkedP
    rw [if_neg (by simp [hz])]; simp
  obtain ⟨ko, kc, rfl, hks⟩ := hmv.sl
  generalize (walkedP (ns, fl) dice).1 = marks at *
  have hkl := hks.len63
  have hkp : 0 < marks.length := List.length_pos_iff.2 hwne
  (repeat (apply WL.pure; rfl; rfl; rfl))
  refine WL.alloc rfl rfl (fun w10 hb13 e10 => ?_)
  skip
  refine WL.st rfl rfl rfl hb13 rfl rfl (ones_of rfl) (fun w11 hb13 hg11 => ?_)
  have e11 : Ext w9 w11 := e10.grown hg11 e10.size (fun g hg => by cases hg; exact Nat.le_refl _)
  have hb4 := hb4.ext e11
  have hE := hE.trans e11
  have hks := hks.up e11
  clear hmv hlv e9 e10 e11 hg11
  (repeat (first | (apply WL.pure; rfl; rfl; rfl) | (apply WL.nil) | (apply EX.thenN) | (apply CW.seq) | (apply CW.region) | (apply WL.ldA; rfl; rfl; rfl; assumption; rfl)))
  refine WL.call rfl rfl rfl (hex w11 hE) ?_
  rintro _ w12 ⟨xv, yv, rfl, hxv, hyv, e12⟩
  obtain ⟨mo, mc, rfl, hm⟩ := hxv.sl
  obtain ⟨no, nc, rfl, hn⟩ := hyv.sl
  have hb13 := hb13.ext e12
  have hE := hE.trans e12
  have hks := hks.up e12
  (repeat (apply WL.pure; rfl; rfl; rfl))
  refine WL.alloc rfl rfl (fun w13 hb15 e13 => ?_)
  skip
  refine WL.st rfl rfl rfl hb15 rfl rfl (ones_of rfl) (fun w14 hb15 hg14 => ?_)
  have e14 : Ext w12 w14 := e13.grown hg14 e13.size (fun g hg => by cases hg; exact Nat.le_refl _)
  have hb13 := hb13.ext e14
  have hE := hE.trans e14
  have hks := hks.up e14
  have hm := hm.up e14
  have hn := hn.up e14
  clear hxv hyv e12 e13 e14 hg14 hex hb4
  have hix := indexFunc_ll w14 (fun m => m == marks[marks.length - 1]) (fv := .func (.func 21) [].toArray [Value.pointer (some ⟨w9.heap.size, 0, none⟩)].toArray) hm (fun w hw k hk u hu => by
    obtain ⟨ua, uc, rfl, hus⟩ := hu.sl
    exact FnV.mk (cs := [_]) (ends1_ok w _ (hb13.ext hw) (hks.up hw) (hus.lift fun b hb => Nat.lt_of_lt_of_le hb hw.size) hkp))
  obtain ⟨a0, ha0, hae⟩ := hwin (marks.length - 1) (by omega)
  rw [getDG_atM ha0, getDG_atM (by omega)] at hae
  obtain ⟨at_, hat, hatl, _⟩ := idx_found (p := fun m => m == marks[marks.length - 1]) ha0 (by simp [hae])
  rw [hat] at hix
  clear hwin hae
  (repeat (first | (apply WL.pure; rfl; rfl; rfl) | (apply WL.nil) | (apply EX.thenN) | (apply CW.seq) | (apply CW.region) | (apply WL.makeFunc; rfl; rfl; rfl; rfl) | (apply WL.fa; rfl; rfl; rfl) | (apply WL.ld; rfl; rfl; rfl; assumption; rfl)))
  refine WL.call rfl rfl rfl hix ?_
  rintro _ w15 ⟨rfl, e15⟩
  have hb15 := hb15.ext e15
  have hE := hE.trans e15
  have hm := hm.up e15
  have hn := hn.up e15
  clear hix e15 hb13
  have hatn : decide ((at_ : Int) < 0) = false := decide_eq_false (by omega)
  (repeat (first | (apply WL.pure; rfl; rfl; rfl) | (apply WL.nil) | (apply EX.thenN) | (apply CW.seq) | (apply CW.region) | (apply WL.lenS; rfl; rfl; rfl) | (apply WL.fa; rfl; rfl; rfl) | (apply WL.ld; rfl; rfl; rfl; assumption; rfl) | (apply CW.condF; rfl) | (apply CW.skip)))
  rw [hatn]
  skip
  refine WL.make (α := Raw) rfl rfl rfl rfl (by omega) (by unfold maxLen; omega) (fun w3' ho3 hg3 => ?_)
  have hE3 : Ext w15 w3' := (Below.refl _ _).grown hg3 (Nat.le_refl _) (fun k h => by cases h)
  have hN3 : OwnN w3' w15.heap.size 26 3 (.slice (some ⟨w15.heap.size, 0, none⟩) nl.length nl.length) _ (List.replicate nl.length ([] : List Int)) := OwnN.made ho3
  rw [← gridP_start (full := toRow nl)] at hN3
  clear ho3 hg3
  have hbx := hb15.ext hE3
  (repeat (first | (apply WL.pure; rfl; rfl; rfl) | (apply WL.nil) | (apply EX.thenN) | (apply CW.seq) | (apply CW.region) | (apply WL.lenS; rfl; rfl; rfl) | (apply WL.fa; rfl; rfl; rfl) | (apply WL.ld; rfl; rfl; rfl; assumption; rfl) | (apply CW.block)))
  refine CW.loop (S := Nat × List Raw) (fun s => [(15, .pointer (some ⟨w12.heap.size, 0, none⟩)), (17, .int .i64 at_), (18, .slice (some ⟨w15.heap.size, 0, none⟩) nl.length nl.length), (84, .slice no nl.length nc), (85, .int .i64 nl.length), (86, .int .i64 s.1)])
    (fun s x => s.1 ≤ nl.length ∧ OwnN x w15.heap.size 26 3 (.slice (some ⟨w15.heap.size, 0, none⟩) nl.length nl.length) s.2 (gridP nl.length (toRow nl) s.1 []) ∧ Ext w15 x) (fun s => nl.length - s.1) (0, _) (by repeat (first | exact trivial | refine ⟨rfl, ?_⟩)) ⟨Nat.zero_le _, hN3, hE3⟩ ?_
  clear hbx
  rintro ⟨i, vs⟩ w4' ⟨hi, hN, e4⟩
  dsimp only at hi hN e4 ⊢
  (repeat (first | (apply WL.pure; rfl; rfl; rfl) | (apply WL.nil) | (apply EX.thenN) | (apply CW.seq) | (apply CW.region)))
  refine CW.cond rfl (fun h => ?_) (fun h => ?_)
  · have hi' : i < nl.length := by simp at h; omega
    have hr60 := hrow _ (List.getElem_mem hi')
    (repeat (first | (apply WL.pure; rfl; rfl; rfl) | (apply EX.thenN) | (apply CW.seq) | (apply CW.region) | (apply CW.block) | (apply CW.skip)))
    refine WL.elemN (i := i) rfl rfl rfl rfl rfl (hn.at e4) hi' (fun _ => rfl) (fun u q hu => ?_)
    obtain ⟨ro, rc, rfl, hrw⟩ := hu.sl
    (repeat (first | (apply WL.pure; rfl; rfl; rfl) | (apply WL.nil) | (apply EX.thenN) | (apply CW.seq) | (apply CW.region) | (apply WL.lenS; rfl; rfl; rfl) | (apply CW.block)))
    refine CW.loop (S := Nat × List Raw) (fun s => [(15, .pointer (some ⟨w12.heap.size, 0, none⟩)), (17, .int .i64 at_), (18, .slice (some ⟨w15.heap.size, 0, none⟩) nl.length nl.length), (19, .int .i64 i), (84, .slice no nl.length nc), (85, .int .i64 nl.length), (86, .int .i64 i), (91, .slice ro nl[i].length rc), (92, .int .i64 nl[i].length), (93, .int .i64 s.1)])
      (fun s z => s.1 ≤ nl[i].length ∧ OwnN z w15.heap.size 26 3 (.slice (some ⟨w15.heap.size, 0, none⟩) nl.length nl.length) s.2 (gridP nl.length (toRow nl) i ((toRow nl i).take s.1)) ∧ Ext w15 z) (fun s => nl[i].length - s.1) (0, vs) (by repeat (first | exact trivial | refine ⟨rfl, ?_⟩)) ⟨Nat.zero_le _, by rw [List.take_zero]; exact hN, e4⟩ ?_
    rintro ⟨j, vs⟩ w5' ⟨hj, hN, e5⟩
    dsimp only at hj hN e5 ⊢
    have hrow5 : Sl w5' (Old w15) ro rc nl[i] := hrw.mono (fun b hb => (e5.block b hb).trans (e4.block b hb).symm) (fun _ h => h)
    (repeat (first | (apply WL.pure; rfl; rfl; rfl) | (apply WL.nil) | (apply EX.thenN) | (apply CW.seq) | (apply CW.region)))
    refine CW.cond rfl (fun h => ?_) (fun h => ?_)
    · have hj' : j < nl[i].length := by simp at h; omega
      have hnext := toRow_next hi' hj'
      have htl := toRow_len hi'
      (repeat (first | (apply EX.thenN) | (apply CW.seq) | (apply CW.region) | (apply CW.block) | (apply CW.skip)))
      refine WL.elemN (i := j) rfl rfl rfl rfl rfl hrow5 hj' (fun _ => rfl) (fun u q hu => ?_)
      rw [rd_edge2 hu]
      clear hu
      generalize nl[i][j] = x at *
      skip
      refine WL.alloc rfl rfl (fun w6' hb7 e6 => ?_)
      skip
      refine WL.st rfl rfl rfl hb7 rfl rfl (ones_of rfl) (fun w7' hb7 hg7 => ?_)
      have e7 : Ext w5' w7' := e6.grown hg7 e6.size (fun g hg => by cases hg; exact Nat.le_refl _)
      have hsz : w15.heap.size < w5'.heap.size := (hN.out.lt _ rfl).2.1
      have hlen := hN.len
      rw [gridP_len] at hlen
      have hiv : i < vs.length := by omega
      have hbi := fun g hg => ((hN.inn i hiv (by rw [gridP_len]; exact hi')).lt g hg).2.1
      have hN := hN.ext e7
      have e7' := Ext.trans e5 e7
      clear e6 hg7
      skip
      apply WL.nil
      apply EX.thenN
      have hd := Ext.drew w7'
      have hNd := hN.ext hd
      have hb7d := hb7.ext hd
      have hin := hNd.inn i hiv (by rw [gridP_len]; exact hi')
      rw [gridP_get hi'] at hin
      obtain ⟨oo, oc, hov, hout⟩ := hNd.out.slF (F' := fun b => b = w15.heap.size) (fun _ h => h.elim) (fun g hg => by cases hg; rfl)
      obtain ⟨rfl, _, rfl⟩ := Value.slice.inj hov
      have hszd := hd.size
      have hsz7 := e7.size
      have hl7 := hb7.lt
      have hK : ∀ z, (fun z : World => ∀ b, b = w15.heap.size ∨ b = w5'.heap.size → z.heap[b]? = (drew w7').heap[b]?) z → z.heap[w5'.heap.size]? = (drew w7').heap[w5'.heap.size]? := fun z hz => hz _ (.inr rfl)
      refine CW.drawE (fun z : World => ∀ b, b = w15.heap.size ∨ b = w5'.heap.size → z.heap[b]? = (drew w7').heap[b]?) [(0, true), (1, true), (2, true), (3, true), (4, true), (5, true), (6, true), (7, true), (8, false), (9, false), (10, true)] 11 mixed (by kernel_rfl) (fun _ _ => rfl) ?_
      (repeat (apply HL.pure; rfl; rfl; rfl; rfl))
      rw [← hlen] at hout ⊢
      refine HL.elemK (w := drew w7') (F := fun b => b = w15.heap.size) (fun z hz b hb => hz b (.inl hb)) rfl rfl rfl rfl rfl rfl rfl hout hiv (fun _ => rfl) (fun u q hu => ?_)
      obtain ⟨rfl, _⟩ := hu.raw
      rw [hlen]
      (repeat (first | (refine HL.fa rfl rfl rfl rfl ?_) | (refine HL.ldK (by assumption) rfl rfl rfl rfl (by assumption) rfl ?_)))
      refine HL.app1 (bytes := 8) rfl rfl rfl rfl (fun _ => rfl) rfl rfl (fun _ => rfl) hin (Rd.mkInt _ _ _) (by omega) (fun _ h => h.elim) (by decide) (by rw [List.length_take]; unfold maxLen; omega) (by rw [List.length_take]; omega)
        (fun z hz b hb => hz.block b (by omega) (fun e => ?_)) (fun v' w8' p ho8 hg8 hnb => ?_)
      · rcases hb with rfl | rfl
        · exact hNd.dio i hiv _ e.symm rfl
        · have := hbi _ e.symm
          omega
      rw [← hnext] at ho8
      have hmid := hNd.mid hiv hg8
      skip
      refine HL.setTail (yv := (⟨v'⟩ : Raw)) rfl rfl rfl rfl rfl rfl hmid hiv (fun _ => rfl) (fun _ => rfl) (Rd.mkRaw _ _ _ ?_) (fun w9' q ho9 hg9 => ?_)
      · obtain ⟨a, b, rfl⟩ := ho8.val; rfl
      have hN9 := hNd.set hiv ho8 hg8 hnb ho9 hg9
      rw [gridP_set hi'] at hN9
      have e5d := e7'.trans hd
      have e9 : Ext w15 w9' := (e5d.grown hg8 e5d.size (fun b hb => (hin.lt b hb).1)).grown hg9 (Nat.le_trans e5d.size hg8.size) (fun b hb => (hNd.out.lt b hb).1)
      (repeat (first | (apply WL.add; rfl; rfl; rfl; rfl; omega; omega) | (apply WL.pure; rfl; rfl; rfl) | (apply WL.nil) | (apply EX.thenN) | (apply CW.region) | (apply EX.inN)))
      exact EX.back (j + 1, vs.set i ⟨v'⟩) (by repeat (first | exact trivial | refine ⟨rfl, ?_⟩)) ⟨hj', hN9, e9⟩ (by dsimp only; omega)
    · obtain rfl : j = nl[i].length := by simp at h; omega
      (repeat (first | (apply WL.add; rfl; rfl; rfl; rfl; omega; omega) | (apply WL.pure; rfl; rfl; rfl) | (apply WL.nil) | (apply EX.thenN) | (apply CW.region) | (apply EX.inN) | (apply CW.exit) | (apply EX.thenX) | (apply EX.inX)))
      refine EX.back (i + 1, vs) (by repeat (first | exact trivial | refine ⟨rfl, ?_⟩)) ⟨hi', ?_, e5⟩ (by dsimp only; omega)
      rw [← toRow_len hi', List.take_length, gridP_next] at hN
      exact hN
  obtain rfl : i = nl.length := by simp at h; omega
  rw [gridP_done] at hN
  change OwnN w4' w15.heap.size 26 3 _ vs (grL nl) at hN
  have hgl : (grL nl).length = nl.length := grL_len
  have hgs : Sl w4' (Old w4') (some ⟨w15.heap.size, 0, none⟩) nl.length (grL nl) := by
    obtain ⟨a, c, e, h⟩ := hN.old.sl
    obtain ⟨rfl, _, rfl⟩ := Value.slice.inj e
    exact h
  have hb15 := hb15.ext e4
  have hE := hE.trans e4
  have hm := hm.up e4
  clear hN hN3 hE3 hn
  (repeat (first | (apply WL.pure; rfl; rfl; rfl) | (apply EX.thenN) | (apply CW.seq) | (apply CW.region) | (apply CW.exit) | (apply EX.thenX) | (apply EX.inX)))
  refine WL.litR [(at_ : Int)] rfl rfl rfl rfl rfl (.cons (Rd.mkInt _ _ _) .nil) (by show 1 * 1 ≤ 16777216; decide) (fun v5 w5 e5 r5 _ => ?_)
  obtain ⟨fo2, fc2, rfl, hfs⟩ := r5.sl
  have hb15 := hb15.ext e5
  have hE := hE.trans e5
  have hm := hm.up e5
  have hol : okL (grL nl).length [(at_ : Int)] := fun x hx => by rw [List.mem_singleton] at hx; subst hx; omega
  have hedg := edges_le (g := grL nl) (n := 60) (fun r hr => by
    unfold grL at hr
    rw [List.mem_map] at hr
    obtain ⟨k, hk, rfl⟩ := hr
    have hk := List.mem_range.1 hk
    rw [toRow_len hk]
    exact hrow _ (List.getElem_mem hk))
  have hreach := Reach_ok w5 (hgs.up e5) hfs (by simp only [List.length_cons, List.length_nil]; omega)
  rw [reachF_of hgok hol (by omega), hgl] at hreach
  skip
  refine WL.call rfl rfl rfl hreach ?_
  rintro _ w6 ⟨ov, rfl, hoo, e6⟩
  dsimp only at hoo ⊢
  have hb15 := hb15.ext e6
  have hE := hE.trans e6
  have hm := hm.up e6
  obtain ⟨eo, ec, rfl, hes⟩ := hoo.oldN.sl
  have hsl : (rchB (grL nl) [(at_ : Int)]).length = nl.length := by rw [rchB_len, hgl]
  obtain ⟨e, hel, hee, her⟩ := hall at_ hatl
  have hseen : (rchB (grL nl) [(at_ : Int)]).getD e false = true := by
    have hl : e < (rchB (grL nl) [(at_ : Int)]).length := by omega
    rw [List.getD_eq_getElem?_getD, List.getElem?_eq_getElem hl, (rchB_iff hl).2 her]; rfl
  clear hreach her hoo
  have hsum : (ml[e]).sum = 0 := by
    rw [getDG_atM hel] at hee
    refine sum_zero (fun x hx => ?_) hee
    obtain ⟨t, ht, rfl⟩ := List.mem_iff_getElem.1 hx
    have := ((hsr.ok _ (List.getElem_mem hel)).2 t).1
    rwa [getDm_at ht] at this
  generalize rchB (grL nl) [(at_ : Int)] = seen at *
  clear hgs hfs r5 hall e4 e5 e6
  (repeat (first | (apply WL.pure; rfl; rfl; rfl) | (apply WL.nil) | (apply EX.thenN) | (apply CW.seq) | (apply CW.region) | (apply WL.lenS; rfl; rfl; rfl) | (apply CW.block)))
  refine CW.loop (S := Nat) (fun i => [(15, .pointer (some ⟨w12.heap.size, 0, none⟩)), (117, .slice eo seen.length ec), (118, .int .i64 seen.length), (119, .int .i64 i)])
    (fun i w => i ≤ e ∧ Ext w6 w) (fun i => e - i) 0 (by repeat (first | exact trivial | refine ⟨rfl, ?_⟩)) ⟨Nat.zero_le _, Ext.refl _⟩ ?_
  rintro i w7 ⟨hi, e7⟩
  have hb15 := hb15.ext e7
  have hE7 := hE.trans e7
  have hm := hm.up e7
  have hlt : decide ((i : Int) < (seen.length : Int)) = true := decide_eq_true (by omega)
  have hil : i < seen.length := by omega
  have him : i < ml.length := by omega
  have hmk := hsr.ok _ (List.getElem_mem him)
  have hlen := hmk.1
  dsimp only at hlen
  (repeat (first | (apply WL.pure; rfl; rfl; rfl) | (apply WL.nil) | (apply EX.thenN) | (apply CW.seq) | (apply CW.region)))
  rw [hlt]
  (repeat (first | (apply WL.pure; rfl; rfl; rfl) | (apply EX.thenN) | (apply CW.seq) | (apply CW.region) | (apply CW.block) | (apply CW.condT; rfl) | (apply CW.skip)))
  refine WL.elemB (i := i) (y := seen[i]) rfl rfl rfl rfl rfl (hes.up e7) hil rfl (fun _ => rfl) (fun q => ?_)
  cases hsi : seen[i] with
  | false =>
    have hne : i ≠ e := fun h => by subst h; rw [List.getD_eq_getElem?_getD, List.getElem?_eq_getElem hil, hsi] at hseen; cases hseen
    (repeat (first | (apply WL.add; rfl; rfl; rfl; rfl; omega; omega) | (apply WL.pure; rfl; rfl; rfl) | (apply WL.nil) | (apply EX.thenN) | (apply CW.seq) | (apply CW.region) | (apply WL.pass; rfl; rfl) | (apply EX.inN) | (apply CW.condF; rfl) | (apply CW.skip)))
    exact EX.back (i + 1) (by repeat (first | exact trivial | refine ⟨rfl, ?_⟩)) ⟨by omega, e7⟩ (by omega)
  | true =>
    (repeat (first | (apply WL.pure; rfl; rfl; rfl) | (apply WL.nil) | (apply EX.thenN) | (apply CW.seq) | (apply CW.region) | (apply WL.fa; rfl; rfl; rfl) | (apply WL.ld; rfl; rfl; rfl; assumption; rfl)))
    refine WL.elemN (i := i) rfl rfl rfl rfl rfl hm him (fun _ => rfl) (fun u q hu => ?_)
    obtain ⟨va, vc, rfl, hvs⟩ := hu.sl
    skip
    refine WL.call rfl rfl rfl (sumOf_ok w7 hvs hmk.2 (by omega)) ?_
    rintro _ w8 ⟨rfl, e8⟩
    by_cases hz0 : ml[i].sum = 0
    · (repeat (first | (apply WL.pure; rfl; rfl; rfl) | (apply WL.nil) | (apply EX.thenN)))
      rw [show (ml[i].sum == 0) = true by simpa using hz0]
      (repeat (first | (apply WL.pure; rfl; rfl; rfl) | (apply WL.nil) | (apply EX.thenN) | (apply CW.seq) | (apply CW.region) | (apply CW.condT; rfl) | (apply CW.ret) | (apply EX.thenR) | (apply EX.inR)))
      exact EX.ret1 rfl rfl ⟨rfl, hE7.trans e8⟩
    · have hne : i ≠ e := fun h => by subst h; exact hz0 hsum
      (repeat (first | (apply WL.pure; rfl; rfl; rfl) | (apply WL.nil) | (apply EX.thenN)))
      rw [show (ml[i].sum == 0) = false by simpa using hz0]
      (repeat (first | (apply WL.add; rfl; rfl; rfl; rfl; omega; omega) | (apply WL.pure; rfl; rfl; rfl) | (apply WL.nil) | (apply EX.thenN) | (apply CW.region) | (apply EX.inN) | (apply CW.condF; rfl) | (apply CW.skip)))
      exact EX.back (i + 1) (by repeat (first | exact trivial | refine ⟨rfl, ?_⟩)) ⟨by omega, e7.trans e8⟩ (by omega)
end Go.Proofs.Ytljcnopekjinjaa
/-
  From the form's readings of the arguments to our own, and back: what a law's proof needs at its two ends.
-/
set_option linter.unusedVariables false
set_option linter.unusedSimpArgs false
namespace Go.Proofs.Ytljcnopekjinjaa
open Go.RowKit Go.ChangeShapes Go.WideShapes Go.ChangeAt

theorem bulk_one {H : Type} (d : DataW H) : 1 ≤ Rows.uptoBulk d := by
  cases d with
  | lit l => cases l <;> simp [Rows.uptoBulk]
  | nil => simp [Rows.uptoBulk]
  | ptr d => simp [Rows.uptoBulk]
  | slice elems spare => simp [Rows.uptoBulk]
  | agg parts => simp [Rows.uptoBulk]
  | iface t d => simp [Rows.uptoBulk]
  | map entries => simp [Rows.uptoBulk]
  | held h => simp [Rows.uptoBulk]
theorem bulk_app {H : Type} (l r : List (DataW H)) : Rows.uptoBulkAll (l ++ r) = Rows.uptoBulkAll l + Rows.uptoBulkAll r := by
  induction l with
  | nil => simp [Rows.uptoBulkAll]
  | cons x l ih => simp only [List.cons_append, Rows.uptoBulkAll, ih]; omega

/-- the bound, as the form hands it over -/
theorem bound {H : Type} {l : List (DataW H)} (hk : Rows.uptoSmall H l = true) : Rows.uptoBulkAll l ≤ 1048576 := by
  simpa [Rows.uptoSmall] using hk
/-- how many values a value of ours holds -/
class Bk (α : Type) where
  bk : α → Nat
abbrev bk {α : Type} [Bk α] : α → Nat := Bk.bk
instance iOpen1 : Bk Int := ⟨fun _ => 1⟩
instance iOpen2 : Bk Bool := ⟨fun _ => 1⟩
instance iOpen3 : Bk Nat := ⟨fun _ => 1⟩
instance iOpen4 : Bk ByteArray := ⟨fun s => s.size + 1⟩
def bkL {α : Type} [Bk α] : List α → Nat
  | [] => 0
  | x :: r => bk x + bkL r
instance iOpen8 {α : Type} [Bk α] : Bk (List α) := ⟨fun l => bkL l + 1⟩

/-- what the form reads at a type, we read, too -/
class Opn (P : Program) (t : TypeId) (α : Type) [Rep α] [Bk α] : Prop where
  op : ∀ {H : Type} {enc : TypeId × Value → H} {w : World} {fuel : Nat} {cs : List Value} {d : DataW H} {ps : List MemPlace}, DataW.trod enc P w 0 (fun _ => true) true fuel t cs = some (d, ps) → ∃ x : α, rd w (Old w) cs x ∧ bk x ≤ Rows.uptoBulk d

theorem Opn.int {P : Program} {t : TypeId} (h : P.underlying t = some (.int .i64)) : Opn P t Int where
  op := by
    intro H enc w fuel cs d ps hd
    cases fuel with
    | zero => simp [DataW.trod] at hd
    | succ fuel =>
      unfold DataW.trod at hd
      rw [h] at hd
      split at hd <;> try (simp at *; done)
      rename_i k k' n e1
      simp at e1
      split at hd
      · rename_i hk
        simp at hd
        obtain ⟨rfl, rfl⟩ := hd
        exact ⟨n, by rw [hk.1, ← e1]; rfl, bulk_one _⟩
      · cases hd
theorem Opn.bool {P : Program} {t : TypeId} (h : P.underlying t = some .bool) : Opn P t Bool where
  op := by
    intro H enc w fuel cs d ps hd
    cases fuel with
    | zero => simp [DataW.trod] at hd
    | succ fuel =>
      unfold DataW.trod at hd
      rw [h] at hd
      split at hd <;> try (simp at *; done)
      rename_i b e1
      simp at hd
      obtain ⟨rfl, rfl⟩ := hd
      exact ⟨b, rfl, bulk_one _⟩
theorem Opn.u64 {P : Program} {t : TypeId} (h : P.underlying t = some (.int .u64)) : Opn P t Nat where
  op := by
    intro H enc w fuel cs d ps hd
    cases fuel with
    | zero => simp [DataW.trod] at hd
    | succ fuel =>
      unfold DataW.trod at hd
      rw [h] at hd
      split at hd <;> try (simp at *; done)
      rename_i k k' n e1
      simp at e1
      split at hd
      · rename_i hk
        simp at hd
        obtain ⟨rfl, rfl⟩ := hd
        have hwf := hk.2
        rw [← e1] at hwf
        have hb : 0 ≤ n ∧ n ≤ 18446744073709551615 := by simpa [Lit.wf, IntKind.min, IntKind.max, IntKind.signed, IntKind.bits] using hwf
        refine ⟨n.toNat, ⟨?_, by omega⟩, bulk_one _⟩
        rw [hk.1, ← e1, Int.toNat_of_nonneg hb.1]
      · cases hd
theorem Opn.string {P : Program} {t : TypeId} (h : P.underlying t = some .string) : Opn P t ByteArray where
  op := by
    intro H enc w fuel cs d ps hd
    cases fuel with
    | zero => simp [DataW.trod] at hd
    | succ fuel =>
      unfold DataW.trod at hd
      rw [h] at hd
      split at hd <;> try (simp at *; done)
      rename_i s e1
      split at hd
      · rename_i hk
        simp at hd
        obtain ⟨rfl, rfl⟩ := hd
        refine ⟨s, ⟨rfl, hk⟩, ?_⟩
        show s.size + 1 ≤ _
        simp only [Rows.uptoBulk]
        have e : s.data.toList.length = s.size := by rw [Array.length_toList]; rfl
        omega
      · cases hd

theorem mapM_range {β : Type} (f : Nat → Option β) : ∀ (n : Nat) (es : List β), (List.range n).mapM f = some es → es.length = n ∧ ∀ i (h : i < es.length), f i = some es[i]
  | 0, es, h => by
    simp at h; subst h
    exact ⟨rfl, fun i hi => absurd hi (by simp)⟩
  | n + 1, es, h => by
    rw [List.range_succ, List.mapM_append] at h
    simp only [List.mapM_cons, List.mapM_nil, Option.bind_eq_bind, Option.pure_def] at h
    cases h1 : (List.range n).mapM f with
    | none => rw [h1] at h; cases h
    | some l =>
      rw [h1] at h
      cases h2 : f n with
      | none => rw [h2] at h; cases h
      | some y =>
        rw [h2] at h
        simp at h
        subst h
        obtain ⟨hl, hi⟩ := mapM_range f n l h1
        refine ⟨by simp [hl], fun i hlt => ?_⟩
        by_cases hi' : i < l.length
        · rw [List.getElem_append_left hi']; exact hi i hi'
        · have : i = n := by simp at hlt; omega
          subst this
          rw [List.getElem_append_right (by omega)]
          simpa [hl] using h2
theorem mapM_cells {w : World} {a : Addr} {n : Nat} {cs : List Value} (h : w.cells? 0 a n = some cs) : cs.length = n ∧ ∀ j (hj : j < cs.length), w.cell? (a.add j) = some cs[j] := by
  unfold World.cells? at h
  rw [if_pos (Nat.zero_le _)] at h
  exact mapM_range _ n cs h

theorem slice_op {P : Program} {t e : TypeId} {α : Type} [Rep α] [Bk α] [hs : IsS P t e] [ht : IsT P e α] {H : Type} {enc : TypeId × Value → H} {w : World} {fuel : Nat}
    (ho : ∀ {cs : List Value} {d : DataW H} {ps : List MemPlace}, DataW.trod enc P w 0 (fun _ => true) true fuel e cs = some (d, ps) → ∃ x : α, rd w (Old w) cs x ∧ bk x ≤ Rows.uptoBulk d)
    {cs : List Value} {d : DataW H} {ps : List MemPlace} (hd : DataW.trod enc P w 0 (fun _ => true) true (fuel + 1) t cs = some (d, ps)) : ∃ x : List α, rd w (Old w) cs x ∧ bk x ≤ Rows.uptoBulk d := by
  unfold DataW.trod at hd
  rw [hs.ok] at hd
  obtain ⟨i0, hi1, hi2⟩ := IsT.info (P := P) (t := e) (α := α)
  have hsz : P.cellsOf e = sz α := by simp [Program.cellsOf, hi1, hi2]
  have hp : 0 < sz α := Rep.pos
  split at hd <;> try (simp at *; done)
  · simp at hd
    obtain ⟨rfl, rfl⟩ := hd
    exact ⟨[], ⟨none, 0, rfl, by simp, by simp [maxLen], fun _ => rfl, fun i hi => absurd hi (by simp)⟩, bulk_one _⟩
  · rename_i e' a len cap e1
    cases e1
    simp only at hd
    split at hd
    · rename_i hc
      obtain ⟨_, hle, hmx⟩ := hc
      rw [hsz] at hd
      cases hm : (List.range len).mapM (fun i => (w.cells? 0 (a.add (i * sz α)) (sz α)).bind (DataW.trod enc P w 0 (fun _ => true) true fuel e)) with
      | none => rw [hm] at hd; cases hd
      | some elems =>
        rw [hm] at hd
        simp only [Option.bind_some, if_true] at hd
        obtain ⟨rest, _, hd2⟩ := Option.map_eq_some_iff.1 hd
        simp only [Prod.mk.injEq] at hd2
        obtain ⟨rfl, _⟩ := hd2
        obtain ⟨hlen, hget⟩ := mapM_range _ len elems hm
        -- one element at a time
        have one : ∀ i (h : i < elems.length), ∃ x : α, (∃ b off, some a = some ⟨b, off, none⟩ ∧ Old w b ∧ ∃ es, Cells w b (off + i * sz α) es ∧ rd w (Old w) es x) ∧ bk x ≤ Rows.uptoBulk (elems[i]).1 := by
          intro i hi
          have h1 := hget i hi
          cases hcs : w.cells? 0 (a.add (i * sz α)) (sz α) with
          | none => rw [hcs] at h1; cases h1
          | some es =>
            rw [hcs] at h1
            simp only [Option.bind_some] at h1
            obtain ⟨x, hr, hb⟩ := ho (d := (elems[i]).1) (ps := (elems[i]).2) h1
            obtain ⟨hl, hc⟩ := mapM_cells hcs
            have h0 := hc 0 (by omega)
            have hspot : a.spot = none := by
              cases hsp : a.spot with
              | none => rfl
              | some k =>
                -- the first element's first cell lies at the address itself
                have h2 := hget 0 (by omega)
                cases hcs0 : w.cells? 0 (a.add (0 * sz α)) (sz α) with
                | none => rw [hcs0] at h2; cases h2
                | some es0 =>
                  obtain ⟨hl0, hc0⟩ := mapM_cells hcs0
                  have h3 := hc0 0 (by omega)
                  have e3 : (a.add (0 * sz α)).add 0 = a := by simp [Addr.add]
                  rw [e3] at h3
                  unfold World.cell? at h3
                  split at h3
                  · simp [hsp] at h3
                  · cases h3
            obtain ⟨b, off, sp⟩ := a
            simp only at hspot
            subst hspot
            rw [WideShapes.add_plain] at hc h0
            have hblt : b < w.heap.size := World.block_lt_of_cell? w _ h0
            refine ⟨x, ⟨b, off, rfl, hblt, es, ?_, hr⟩, hb⟩
            intro j u hu
            obtain ⟨hj, rfl⟩ := List.getElem?_eq_some_iff.1 hu
            have := hc j hj
            rwa [WideShapes.add_plain] at this
        have all : ∀ k, k ≤ elems.length → ∃ xs : List α, xs.length = k ∧ (∀ i (h : i < xs.length), ∃ b off, some a = some ⟨b, off, none⟩ ∧ Old w b ∧ ∃ es, Cells w b (off + i * sz α) es ∧ rd w (Old w) es xs[i]) ∧ bkL xs ≤ Rows.uptoBulkAll ((elems.map (·.1)).take k) := by
          intro k
          induction k with
          | zero => intro _; exact ⟨[], rfl, fun i hi => absurd hi (by simp), by simp [bkL, Rows.uptoBulkAll]⟩
          | succ k ih =>
            intro hk
            obtain ⟨xs, h1, h2, h3⟩ := ih (by omega)
            obtain ⟨x, h4, h5⟩ := one k (by omega)
            refine ⟨xs ++ [x], by simp [h1], ?_, ?_⟩
            · intro i hi
              by_cases hlt : i < xs.length
              · rw [List.getElem_append_left hlt]; exact h2 i hlt
              · have : i = k := by simp at hi; omega
                subst this
                rw [List.getElem_append_right (by omega)]
                simpa [h1] using h4
            · have hb : ∀ (l : List α), bkL (l ++ [x]) = bkL l + bk x := by
                intro l; induction l with
                | nil => simp [bkL]
                | cons y l ih => simp only [List.cons_append, bkL, ih]; omega
              rw [hb, List.take_succ_eq_append_getElem (by simp; omega), bulk_app]
              simp only [List.getElem_map, Rows.uptoBulkAll]
              omega
        obtain ⟨xs, h1, h2, h3⟩ := all elems.length (Nat.le_refl _)
        have hx : xs.length = len := by omega
        refine ⟨xs, ⟨some a, cap, by rw [hx], ⟨by omega, hmx, (fun h => by cases h), h2⟩⟩, ?_⟩
        show bkL xs + 1 ≤ _
        rw [List.take_of_length_le (by simp)] at h3
        simp only [Rows.uptoBulk]
        omega
    · cases hd

theorem Opn.slice {P : Program} {t e : TypeId} {α : Type} [Rep α] [Bk α] [hs : IsS P t e] [ht : IsT P e α] [ho : Opn P e α] : Opn P t (List α) where
  op := by
    intro H enc w fuel cs d ps hd
    cases fuel with
    | zero => simp [DataW.trod] at hd
    | succ fuel => exact slice_op (e := e) (fun h => ho.op h) hd

theorem okWide_form {P : Program} {w : World} {r : Reach} {base : Nat} {t : TypeId} {v : Value} {d : TypeDesc} (hu : P.underlying t = some d) (h : Value.okWide P w r base t v) :
    (aggD d = false → v.oneCell' = true) ∧ (aggD d = true → ∃ cs, v = .agg cs) := by
  unfold Value.okWide at h
  rw [hu] at h
  constructor
  · intro hd
    cases v <;> first
      | rfl
      | (exfalso; cases d <;> simp [aggD] at hd <;> simp [Cell.okWide, Cell.ok, hu] at h)
  · intro hd
    cases d <;> simp [aggD] at hd <;> (obtain ⟨cs, rfl, _⟩ := h; exact ⟨cs, rfl⟩)
/-- an argument, opened -/
theorem Opn.arg {P : Program} {t : TypeId} {α : Type} [Rep α] [Bk α] [ht : IsT P t α] [ho : Opn P t α] {H : Type} {enc : TypeId × Value → H} {w : World} {v : Value} {d : DataW H} {ps : List MemPlace} {r : Reach} {base : Nat}
    (hv : Value.okWide P w r base t v) (h : DataW.Trod enc P w 0 (fun _ => true) true t v d ps) : ∃ x : α, Rd w (Old w) v x ∧ bk x ≤ Rows.uptoBulk d := by
  obtain ⟨i, dd, _, _, h3, h4⟩ := ht.ok
  obtain ⟨f1, f2⟩ := okWide_form h3 hv
  obtain ⟨fuel, hf⟩ := h
  obtain ⟨x, hr, hb⟩ := ho.op hf
  refine ⟨x, ⟨v.cells.toList, ?_, hr⟩, hb⟩
  unfold vOf
  split
  · rename_i he
    obtain ⟨cs, rfl⟩ := f2 (h4.trans he)
    simp [Value.cells]
  · rename_i he
    have := f1 (h4.trans he)
    cases v <;> first | rfl | (simp [Value.oneCell'] at this)

theorem trodAll_below {H : Type} {enc : TypeId × Value → H} {P : Program} (hl : laidOutB P = true) {W W' : World} (hb : Ext W W') : ∀ {ts : List TypeId} {vs : List Value} {ds : List (DataW H)} {ps : List MemPlace},
    (∀ t ∈ ts, P.readableRec t = true ∧ t < P.types.size) → DataW.TrodAll enc P W 0 (fun _ => true) true ts vs ds ps → (∀ x ∈ ps, x.block < W.heap.size) →
    DataW.TrodAll enc P W' 0 (fun b => decide (b < W.heap.size)) true ts vs ds ps
  | [], [], [], _, _, h, _ => h
  | t :: ts, v :: vs, d :: ds, ps, hr, h, hlt => by
    obtain ⟨p, q, h1, h2, rfl⟩ := h
    exact ⟨p, q, Below.trod hl (hr t (by simp)).1 (hr t (by simp)).2 h1 hb (fun x hx => hlt x (by simp [hx])),
      trodAll_below hl hb (fun t ht => hr t (by simp [ht])) h2 (fun x hx => hlt x (by simp [hx])), rfl⟩
  | [], [], _ :: _, _, _, h, _ => h.elim
  | [], _ :: _, [], _, _, h, _ => h.elim
  | [], _ :: _, _ :: _, _, _, h, _ => h.elim
  | _ :: _, [], [], _, _, h, _ => h.elim
  | _ :: _, [], _ :: _, _, _, h, _ => h.elim
  | _ :: _, _ :: _, [], _, _, h, _ => h.elim

/-- the law's end: it returned true, and only new memory was made -/
theorem law_post {H : Type} {enc : TypeId × Value → H} {P : Program} {fn : Func} {s : ChangeSpec} {W W' : World} {args : Array Value} {ds gs : List (DataW H)} {before : List MemPlace} {tb : TypeId}
    (hl : laidOutB P = true) (hW : DataW.Whole enc P fn.params.toList s.vars false W args.toList ds gs before) (hv : s.vars = []) (hr : ∀ t ∈ fn.params.toList, P.readableRec t = true ∧ t < P.types.size)
    (hsp : (s.fn H (ds ++ gs)).results = [.lit (.bool true)] ∧ (s.fn H (ds ++ gs)).args = ds ∧ (s.fn H (ds ++ gs)).vars = []) (hres : fn.resultTypes = #[tb]) (hb : P.underlying tb = some .bool) (hE : Ext W W') :
    s.post enc P fn false true false false W args (.bool true) W' := by
  have hlt := hW.lt
  have hW' := hW
  obtain ⟨p, q, hA, hV, rfl, _, _⟩ := hW
  rw [hv] at hV
  obtain ⟨e1, e2, e3⟩ := hsp
  refine ⟨ds, gs, p ++ q, [], p, [], hW', ?_, ?_, ?_, hE.frame _, fun h => by cases h⟩
  · rw [e1, hres]
    exact trodAll_mk1 (shut_bool hb true)
  · rw [e2]
    exact trodAll_below hl hE hr hA (fun x hx => hlt x (by simp [hx]))
  · rw [e3, hv]
    exact rfl
/- structs -/
instance iOpen9 {α β : Type} [Bk α] [Bk β] : Bk (α × β) := ⟨fun x => bk x.1 + bk x.2⟩
/-- a list of fields, from an offset on -/
class OpnFs (P : Program) (fs : List (TypeId × Nat)) (off : Nat) (α : Type) [Rep α] [Bk α] : Prop where
  op : ∀ {H : Type} {enc : TypeId × Value → H} {w : World} {fuel : Nat} {cs : List Value} {xs : List (DataW H × List MemPlace)}, off + sz α = cs.length →
    (fs.mapM fun f => DataW.trod enc P w 0 (fun _ => true) true fuel f.1 ((cs.drop f.2).take (P.cellsOf f.1))) = some xs → ∃ x : α, rd w (Old w) (cs.drop off) x ∧ bk x ≤ Rows.uptoBulkAll (xs.map (·.1))
theorem cellsOf_T {P : Program} {t : TypeId} {α : Type} [Rep α] [ht : IsT P t α] : P.cellsOf t = sz α := by
  obtain ⟨i, h1, h2⟩ := IsT.info (P := P) (t := t) (α := α)
  simp [Program.cellsOf, h1, h2]
instance OpnFs.one {P : Program} {t : TypeId} {off : Nat} {α : Type} [Rep α] [Bk α] [ht : IsT P t α] [ho : Opn P t α] : OpnFs P [(t, off)] off α where
  op := by
    intro H enc w fuel cs xs hl h
    simp only [List.mapM_cons, List.mapM_nil, Option.bind_eq_bind, Option.pure_def] at h
    cases h1 : DataW.trod enc P w 0 (fun _ => true) true fuel t ((cs.drop off).take (P.cellsOf t)) with
    | none => rw [h1] at h; cases h
    | some d =>
      rw [h1] at h; simp at h; subst h
      obtain ⟨d, ps⟩ := d
      obtain ⟨x, hr, hb⟩ := ho.op h1
      rw [cellsOf_T (α := α), List.take_of_length_le (by rw [List.length_drop]; omega)] at hr
      exact ⟨x, hr, by simpa [Rows.uptoBulkAll] using hb⟩
instance OpnFs.cons {P : Program} {t : TypeId} {off : Nat} {f : TypeId × Nat} {fs : List (TypeId × Nat)} {α β : Type} [Rep α] [Bk α] [Rep β] [Bk β] [ht : IsT P t α] [ho : Opn P t α] [hr : OpnFs P (f :: fs) (off + sz α) β] : OpnFs P ((t, off) :: f :: fs) off (α × β) where
  op := by
    intro H enc w fuel cs xs hl h
    rw [List.mapM_cons] at h
    simp only [Option.bind_eq_bind, Option.pure_def] at h
    have hl' : off + sz α + sz β = cs.length := by
      have : sz (α × β) = sz α + sz β := rfl
      omega
    cases h1 : DataW.trod enc P w 0 (fun _ => true) true fuel t ((cs.drop off).take (P.cellsOf t)) with
    | none => rw [h1] at h; cases h
    | some d =>
      rw [h1] at h
      simp only [Option.bind_some] at h
      obtain ⟨ys, h2, h3⟩ := Option.bind_eq_some_iff.1 h
      cases h3
      obtain ⟨d, ps⟩ := d
      obtain ⟨x, hx, hb⟩ := ho.op h1
      obtain ⟨y, hy, hc⟩ := hr.op hl' h2
      rw [cellsOf_T (α := α)] at hx
      refine ⟨(x, y), ⟨(cs.drop off).take (sz α), cs.drop (off + sz α), ?_, hx, hy⟩, ?_⟩
      · rw [← List.drop_drop, List.take_append_drop]
      · show bk x + bk y ≤ _
        simp only [List.map_cons, Rows.uptoBulkAll]
        omega
def stFact (P : Program) (t : TypeId) : Option (List (TypeId × Nat)) := match P.underlying t with
  | some (.struct fs) => some (fs.toList.map fun f => (f.type, f.offset))
  | _ => none
theorem Opn.struct {P : Program} {t : TypeId} {fs : List (TypeId × Nat)} {α : Type} [Rep α] [Bk α] [ht : IsT P t α] [hf : OpnFs P fs 0 α] (h : stFact P t = some fs) : Opn P t α where
  op := by
    intro H enc w fuel cs d ps hd
    unfold stFact at h
    split at h
    · rename_i gs hu
      cases h
      cases fuel with
      | zero => simp [DataW.trod] at hd
      | succ fuel =>
        unfold DataW.trod at hd
        rw [hu] at hd
        simp only at hd
        split at hd
        · rename_i hl
          obtain ⟨xs, h1, h2⟩ := Option.map_eq_some_iff.1 hd
          cases h2
          have := hf.op (enc := enc) (w := w) (fuel := fuel) (cs := cs) (xs := xs) (by rw [hl, cellsOf_T (α := α)]; omega) (by rw [List.mapM_map]; exact h1)
          obtain ⟨x, hr, hb⟩ := this
          exact ⟨x, by simpa using hr, by simp only [Rows.uptoBulk]; omega⟩
        · cases hd
    · cases h
instance iOpen5 : Opn Try.prog 3 Int := Opn.int Try.underlying3
instance iOpen6 : Opn Try.prog 26 (List Int) := Opn.slice
instance iOpen7 : Opn Try.prog 32 (List (List Int)) := Opn.slice
end Go.Proofs.Ytljcnopekjinjaa
/-
  The types of the arguments, as the form reads them.
-/
set_option linter.unusedVariables false
namespace Go.Proofs.Ytljcnopekjinjaa
open Go.RowKit

instance iOpn1 : Opn Try.prog 4 Bool := Opn.bool Try.underlying4
instance iOpn2 : Opn Try.prog 86 Nat := Opn.u64 Try.underlying86
instance iOpn3 : Opn Try.prog 9 ByteArray := Opn.string Try.underlying9
instance iOpn4 : Opn Try.prog 27 Int := Opn.int Try.underlying27
instance iOpn5 : Opn Try.prog 55 (List Bool) := Opn.slice
instance iOpn6 : Opn Try.prog 81 (List Nat) := Opn.slice
instance iOpn10 : Opn Try.prog 67 (ByteArray × Int) := Opn.struct (fs := [(9, 0), (3, 1)]) (by kernel_rfl)
instance iOpn11 : Opn Try.prog 70 (Int × Int) := Opn.struct (fs := [(3, 0), (3, 1)]) (by kernel_rfl)
instance iOpn12 : Opn Try.prog 92 (Int × Int × Int) := Opn.struct (fs := [(3, 0), (3, 1), (3, 2)]) (by kernel_rfl)
instance iOpn13 : Opn Try.prog 54 (Int × Int) := Opn.struct (fs := [(3, 0), (3, 1)]) (by kernel_rfl)
instance iOpn14 : Opn Try.prog 22 (List (ByteArray × Int)) := Opn.slice
instance iOpn15 : Opn Try.prog 23 (List (Int × Int)) := Opn.slice
instance iOpn16 : Opn Try.prog 87 (List (Int × Int × Int)) := Opn.slice
instance iOpn17 : Opn Try.prog 52 (List (Int × Int)) := Opn.slice
instance iOpn19 : Opn Try.prog 97 (List Int × List Int) := Opn.struct (fs := [(26, 0), (26, 1)]) (by kernel_rfl)
instance iOpn22 : Opn Try.prog 83 (List Int × List (List Int) × List Nat × List (List Int)) := Opn.struct (fs := [(26, 0), (32, 1), (81, 2), (32, 3)]) (by kernel_rfl)
instance iOpn24 : Opn Try.prog 25 (List (ByteArray × Int) × List (Int × Int)) := Opn.struct (fs := [(22, 0), (23, 1)]) (by kernel_rfl)
end Go.Proofs.Ytljcnopekjinjaa
/-
  Bulk of lists of numbers.
-/
namespace Go.Proofs.Ytljcnopekjinjaa
open Go.RowKit

theorem bulk_flat {α : Type} [Bk α] (h : ∀ x : α, bk x = 1) : ∀ l : List α, bkL l = l.length
  | [] => rfl
  | x :: r => by simp only [bkL, h, bulk_flat h r, List.length_cons]; omega
theorem bulk_l (l : List Int) : l.length + 1 = bk l := by show _ = bkL l + 1; rw [bulk_flat (fun _ => rfl)]
theorem bulk_b (l : List Bool) : l.length + 1 = bk l := by show _ = bkL l + 1; rw [bulk_flat (fun _ => rfl)]
theorem bulk_n (l : List Nat) : l.length + 1 = bk l := by show _ = bkL l + 1; rw [bulk_flat (fun _ => rfl)]
theorem bulk_g : ∀ g : List (List Int), edges g + g.length ≤ bkL g
  | [] => by simp [edges, bkL]
  | l :: g => by
    have h1 := bulk_g g
    have h3 : bk l = l.length + 1 := (bulk_l l).symm
    simp only [bkL, h3, edges, List.map_cons, List.sum_cons, List.length_cons] at h1 ⊢
    omega
theorem bulk_gg (g : List (List Int)) : edges g + g.length + 1 ≤ bk g := by
  have := bulk_g g
  show _ ≤ bkL g + 1
  omega
end Go.Proofs.Ytljcnopekjinjaa
