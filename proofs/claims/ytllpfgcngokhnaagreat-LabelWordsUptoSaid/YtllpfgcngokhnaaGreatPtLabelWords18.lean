import Derived.Test.YtllpfgcngokhnaaGreatRows
import Derived.OpenShut
import Derived.JoinedCond
import Derived.Test.YtllpfgcngokhnaaGreatPtLabelWords17
/-
  LabelWords: walked. Printed by gen_labw.py.
-/
set_option linter.unusedVariables false
set_option linter.unusedSimpArgs false
namespace Go.Proofs.YtllpfgcngokhnaaGreat
open Go.RowKit

instance iLW1 : IsF Tryz.prog 14 := ⟨_, Tryz.func14, rfl, by decide⟩
instance iLW2 : IsT Tryz.prog 38 (Ltl × Ltl) := IsT.of (by kernel_rfl) Tryz.underlying38 rfl
instance iLW3 : IsC Tryz.prog 38 6 true := IsC.of (by kernel_rfl) Tryz.underlying38 rfl
instance iLW4 : IsFd Tryz.prog 38 0 0 := IsFd.of (by kernel_rfl)
instance iLW5 : IsFd Tryz.prog 38 1 3 := IsFd.of (by kernel_rfl)
instance iLW6 : IsZC Tryz.prog 38 [.int .i64 0, .int .i64 0, .slice none 0 0, .int .i64 0, .int .i64 0, .slice none 0 0] := IsZC.of (z := .agg #[.int .i64 0, .int .i64 0, .slice none 0 0, .int .i64 0, .int .i64 0, .slice none 0 0]) (by kernel_rfl) rfl
instance iLW7 : IsBd Tryz.prog 38 [(0, 3), (3, 3)] := IsBd.of (by kernel_rfl)
theorem nilSl (w : World) (F : Nat → Prop) : Sl w F none 0 ([] : List Ltl) := ⟨by simp, by simp [maxLen], fun _ => rfl, fun i hi => absurd hi (by simp)⟩
instance iLW8 : IsZ Tryz.prog 38 ((.mk 0 0 [], .mk 0 0 []) : (Ltl × Ltl)) 80 := IsZ.of (z := .agg #[.int .i64 0, .int .i64 0, .slice none 0 0, .int .i64 0, .int .i64 0, .slice none 0 0]) (by kernel_rfl) (fun w F => rd_mk (c1 := [.int .i64 0, .int .i64 0, .slice none 0 0]) (c2 := [.int .i64 0, .int .i64 0, .slice none 0 0]) (RdT.of (kids := []) (nilSl w F)) (RdT.of (kids := []) (nilSl w F)))
instance iLW9 : IsT Tryz.prog 41 (List (Ltl × Ltl)) := IsT.of (by kernel_rfl) Tryz.underlying41 rfl
instance iLW10 : IsS Tryz.prog 41 38 := ⟨Tryz.underlying41⟩
theorem lw1 (w : World) (b : Nat) {io : Option Addr} {ic x : Nat} {l : List Bool} (hb : Blk w b 42 [.slice io l.length ic]) (hl : Sl w (Old w) io ic l) (hx : x < l.length) :
    Rt Tryz.prog 14 [.int .i64 (x : Int), .pointer (some ⟨b, 0, none⟩)].toArray w fun v w' => v = .bool (!l.getD x false) ∧ Ext w w' := by
  refine Rt.enter2 Tryz.func14 Tryz.ntmps14 rfl rfl ?_
  (repeat (first | (apply WL.pure; rfl; rfl; rfl) | (apply WL.nil) | (apply EX.thenN) | (apply CW.seq) | (apply CW.region) | (apply WL.ld; rfl; rfl; rfl; assumption; rfl)))
  refine WL.elemB rfl rfl rfl rfl rfl hl hx (wgetB hx).symm (fun _ => rfl) (fun q => ?_)
  (repeat (first | (apply WL.pure; rfl; rfl; rfl) | (apply WL.nil) | (apply EX.thenN) | (apply CW.ret)))
  exact EX.ret1 rfl rfl ⟨rfl, Ext.refl _⟩
/-- the two say the same -/
structure PairOk (c t : Ltl) : Prop where
  md : okMk t
  ck : (chkC c 1 0).1 = 0
  same : ∀ (nx fr : Graph) (lb : List Nat) (s : Nat), ctlF nx lb fr c s ↔ AllF nx fr lb t s
theorem pairs_ok {n k : Nat} (hn : n < 64) (hk : k < 64) : ∀ p ∈ [((.mk 13 0 [.mk 3 (n : Int) []], .mk 11 0 [.mk 3 (n : Int) []]) : Ltl × Ltl), (.mk 12 0 [.mk 3 (n : Int) []], .mk 10 0 [.mk 3 (n : Int) []]), (.mk 11 0 [.mk 3 (n : Int) []], .mk 7 0 [.mk 3 (n : Int) []]), (.mk 14 0 [.mk 3 (n : Int) [], .mk 3 (k : Int) []], .mk 8 0 [.mk 3 (n : Int) [], .mk 3 (k : Int) []]), (.mk 13 0 [.mk 12 0 [.mk 3 (k : Int) []]], .mk 11 0 [.mk 10 0 [.mk 3 (k : Int) []]])], PairOk p.1 p.2 := by
  intro p hp
  simp only [List.mem_cons, List.not_mem_nil, or_false] at hp
  rcases hp with rfl | rfl | rfl | rfl | rfl
  · exact ⟨mkG ⟨n, hn⟩, ckG ⟨n, hn⟩, fun nx fr lb s => words_g⟩
  · exact ⟨mkF ⟨n, hn⟩, ckF ⟨n, hn⟩, fun nx fr lb s => words_f⟩
  · exact ⟨mkX ⟨n, hn⟩, ckX ⟨n, hn⟩, fun nx fr lb s => words_x⟩
  · exact ⟨mkU ⟨n, hn⟩ ⟨k, hk⟩, ckU ⟨n, hn⟩ ⟨k, hk⟩, fun nx fr lb s => words_u⟩
  · exact ⟨mkGF ⟨k, hk⟩, ckGF ⟨k, hk⟩, fun nx fr lb s => words_gf⟩
/-- where all labels stand, all runs do -/
theorem words_any {W : LWorld} {c t : Ltl} (h : PairOk c t) (hW : chkE W = 0) : (W.1.any fun x => !(boolsN W.2.1.length (ctlF W.2.1 W.2.2.1 W.2.2.2 c)).getD x.toNat false) = true ↔ ¬ AllW W t := by
  obtain ⟨_, _, _, h1, _, _⟩ := chkWd_ok hW
  rw [all_first, List.any_eq_true]
  constructor
  · rintro ⟨x, hx, hb⟩ hall
    have hr := h1 x hx
    have := (boolsN_iff (P := ctlF W.2.1 W.2.2.1 W.2.2.2 c) (show x.toNat < W.2.1.length by omega)).2 ((h.same _ _ _ _).2 (hall x hx hr.1))
    rw [this] at hb; cases hb
  · intro hn
    rw [Classical.not_forall] at hn
    obtain ⟨x, hx⟩ := hn
    rw [Classical.not_imp, Classical.not_imp] at hx
    have hr := h1 x hx.1
    refine ⟨x, hx.1, ?_⟩
    rw [Bool.not_eq_true', ← Bool.not_eq_true, boolsN_iff (by omega), h.same]
    exact hx.2.2
set_option maxHeartbeats 4000000 in
theorem LabelWords_ok (w0 : World) {W : LWorld} {o1 o2 o3 o4 : Option Addr} {c1 c2 c3 c4 : Nat} (h1 : Sl w0 (Old w0) o1 c1 W.1) (h2 : Sl w0 (Old w0) o2 c2 W.2.1) (h3 : Sl w0 (Old w0) o3 c3 W.2.2.1) (h4 : Sl w0 (Old w0) o4 c4 W.2.2.2)
    (sW : ∀ j, (W.2.1.getD j []).length ≤ 1048576) (tW : W.1.length ≤ 1048576) (eW : edges W.2.1 ≤ 8589934592) (p q : Int) :
    Rt Tryz.prog 3 [worldV o1 c1 o2 c2 o3 c3 o4 c4 W.1.length W.2.1.length W.2.2.1.length W.2.2.2.length, .int .i64 p, .int .i64 q].toArray w0 fun v w' => v = .bool true ∧ Ext w0 w' := by
  refine Rt.enter3 Tryz.func3 Tryz.ntmps3 rfl rfl ?_
  have hE := Ext.refl w0
  (repeat (first | (apply CW.seq) | (apply CW.region)))
  refine WL.boxB rfl rfl rfl fun w1 hb3 e1 => ?_
  have hE := hE.trans e1
  (repeat (first | (apply WL.pure; rfl; rfl; rfl) | (apply WL.nil) | (apply EX.thenN) | (apply CW.seq) | (apply CW.region)))
  refine WL.call rfl rfl rfl (known_ok w1) ?_
  rintro _ w2 ⟨rfl, e2⟩
  have hb3 := hb3.ext e2
  have hE := hE.trans e2
  clear e1 e2
  by_cases hp0 : p < 0
  case pos =>
    (repeat (first | (apply WL.pure; rfl; rfl; rfl) | (apply WL.nil) | (apply EX.thenN) | (apply CW.seq) | (apply CW.region) | (apply CW.condF; rfl) | (apply CW.skip)))
    rw [decide_eq_true hp0]
    (repeat (first | (apply WL.pure; rfl; rfl; rfl) | (apply WL.nil) | (apply EX.thenN) | (apply CW.seq) | (apply CW.region) | (apply WL.pass; rfl; rfl) | (apply CW.condT; rfl) | (apply CW.ret) | (apply EX.thenR)))
    exact EX.ret1 rfl rfl ⟨rfl, hE⟩
  by_cases hp1 : p > 63
  case pos =>
    (repeat (first | (apply WL.pure; rfl; rfl; rfl) | (apply WL.nil) | (apply EX.thenN) | (apply CW.seq) | (apply CW.region) | (apply CW.condF; rfl) | (apply CW.skip)))
    rw [decide_eq_false hp0]
    (repeat (apply WL.pure; rfl; rfl; rfl))
    rw [decide_eq_true hp1]
    (repeat (first | (apply WL.pure; rfl; rfl; rfl) | (apply WL.nil) | (apply EX.thenN) | (apply CW.seq) | (apply CW.region) | (apply WL.pass; rfl; rfl) | (apply CW.condT; rfl) | (apply CW.ret) | (apply EX.thenR)))
    exact EX.ret1 rfl rfl ⟨rfl, hE⟩
  by_cases hq0 : q < 0
  case pos =>
    (repeat (first | (apply WL.pure; rfl; rfl; rfl) | (apply WL.nil) | (apply EX.thenN) | (apply CW.seq) | (apply CW.region) | (apply CW.condF; rfl) | (apply CW.skip)))
    rw [decide_eq_false hp0]
    (repeat (apply WL.pure; rfl; rfl; rfl))
    rw [decide_eq_false hp1]
    (repeat (apply WL.pure; rfl; rfl; rfl))
    rw [decide_eq_true hq0]
    (repeat (first | (apply WL.pure; rfl; rfl; rfl) | (apply WL.nil) | (apply EX.thenN) | (apply CW.seq) | (apply CW.region) | (apply WL.pass; rfl; rfl) | (apply CW.condT; rfl) | (apply CW.ret) | (apply EX.thenR)))
    exact EX.ret1 rfl rfl ⟨rfl, hE⟩
  by_cases hq1 : q > 63
  case pos =>
    (repeat (first | (apply WL.pure; rfl; rfl; rfl) | (apply WL.nil) | (apply EX.thenN) | (apply CW.seq) | (apply CW.region) | (apply CW.condF; rfl) | (apply CW.skip)))
    rw [decide_eq_false hp0]
    (repeat (apply WL.pure; rfl; rfl; rfl))
    rw [decide_eq_false hp1]
    (repeat (apply WL.pure; rfl; rfl; rfl))
    rw [decide_eq_false hq0]
    (repeat (first | (apply WL.pure; rfl; rfl; rfl) | (apply WL.nil) | (apply EX.thenN)))
    rw [decide_eq_true hq1]
    (repeat (first | (apply WL.pure; rfl; rfl; rfl) | (apply WL.nil) | (apply EX.thenN) | (apply CW.seq) | (apply CW.region) | (apply CW.condT; rfl) | (apply CW.ret) | (apply EX.thenR)))
    exact EX.ret1 rfl rfl ⟨rfl, hE⟩
  obtain ⟨n, rfl⟩ := Int.eq_ofNat_of_zero_le (show 0 ≤ p by omega)
  obtain ⟨k, rfl⟩ := Int.eq_ofNat_of_zero_le (show 0 ≤ q by omega)
  have hall := pairs_ok (show n < 64 by omega) (show k < 64 by omega)
  have f1 : decide ((n : Int) < 0) = false := decide_eq_false hp0
  have f2 : decide ((n : Int) > 63) = false := decide_eq_false hp1
  have f3 : decide ((k : Int) < 0) = false := decide_eq_false hq0
  have f4 : decide ((k : Int) > 63) = false := decide_eq_false hq1
  clear hp0 hp1 hq0 hq1
  (repeat (first | (apply WL.pure; rfl; rfl; rfl) | (apply WL.nil) | (apply EX.thenN) | (apply CW.seq) | (apply CW.region) | (apply CW.condF; rfl) | (apply CW.skip)))
  rw [f1]
  skip
  rw [f2]
  (repeat (first | (apply WL.pure; rfl; rfl; rfl) | (apply WL.nil) | (apply EX.thenN)))
  rw [f3]
  skip
  rw [f4]
  clear f1 f2 f3 f4
  (repeat (first | (apply WL.pure; rfl; rfl; rfl) | (apply EX.thenN) | (apply CW.seq) | (apply CW.region) | (apply CW.condF; rfl) | (apply CW.skip)))
  refine WL.call rfl rfl rfl (mk_catom w2 (n : Int)) ?_
  rintro a0v w3 ⟨a0, e3⟩
  have hb3 := hb3.ext e3
  have hE := hE.trans e3
  clear e3
  skip
  refine WL.call rfl rfl rfl (mk_cone w3 13 a0) ?_
  rintro b0v w4 ⟨b0, e4⟩
  have a0 := CL.ext a0 e4
  have hb3 := hb3.ext e4
  have hE := hE.trans e4
  clear e4
  clear a0
  obtain ⟨b0o, b0c, rfl, b0s⟩ := Rd.ltl b0
  clear b0
  (repeat (apply WL.pure; rfl; rfl; rfl))
  refine WL.call rfl rfl rfl (mk_atom w4 (n : Int)) ?_
  rintro c0v w5 ⟨c0, e5⟩
  have b0s := b0s.up e5
  have hb3 := hb3.ext e5
  have hE := hE.trans e5
  clear e5
  skip
  refine WL.call rfl rfl rfl (mk_one w5 11 c0) ?_
  rintro d0v w6 ⟨d0, e6⟩
  have c0 := RL.ext c0 e6
  have b0s := b0s.up e6
  have hb3 := hb3.ext e6
  have hE := hE.trans e6
  clear e6
  clear c0
  obtain ⟨d0o, d0c, rfl, d0s⟩ := Rd.ltl d0
  clear d0
  skip
  refine WL.build (parts := [(0, _), (1, _)]) rfl rfl rfl rfl ?_
  (repeat (apply WL.pure; rfl; rfl; rfl))
  refine WL.call rfl rfl rfl (mk_catom w6 (n : Int)) ?_
  rintro a1v w7 ⟨a1, e7⟩
  have b0s := b0s.up e7
  have d0s := d0s.up e7
  have hb3 := hb3.ext e7
  have hE := hE.trans e7
  clear e7
  skip
  refine WL.call rfl rfl rfl (mk_cone w7 12 a1) ?_
  rintro b1v w8 ⟨b1, e8⟩
  have a1 := CL.ext a1 e8
  have b0s := b0s.up e8
  have d0s := d0s.up e8
  have hb3 := hb3.ext e8
  have hE := hE.trans e8
  clear e8
  clear a1
  obtain ⟨b1o, b1c, rfl, b1s⟩ := Rd.ltl b1
  clear b1
  (repeat (apply WL.pure; rfl; rfl; rfl))
  refine WL.call rfl rfl rfl (mk_atom w8 (n : Int)) ?_
  rintro c1v w9 ⟨c1, e9⟩
  have b0s := b0s.up e9
  have d0s := d0s.up e9
  have b1s := b1s.up e9
  have hb3 := hb3.ext e9
  have hE := hE.trans e9
  clear e9
  skip
  refine WL.call rfl rfl rfl (mk_one w9 10 c1) ?_
  rintro d1v w10 ⟨d1, e10⟩
  have c1 := RL.ext c1 e10
  have b0s := b0s.up e10
  have d0s := d0s.up e10
  have b1s := b1s.up e10
  have hb3 := hb3.ext e10
  have hE := hE.trans e10
  clear e10
  clear c1
  obtain ⟨d1o, d1c, rfl, d1s⟩ := Rd.ltl d1
  clear d1
  skip
  refine WL.build (parts := [(0, _), (1, _)]) rfl rfl rfl rfl ?_
  (repeat (apply WL.pure; rfl; rfl; rfl))
  refine WL.call rfl rfl rfl (mk_catom w10 (n : Int)) ?_
  rintro a2v w11 ⟨a2, e11⟩
  have b0s := b0s.up e11
  have d0s := d0s.up e11
  have b1s := b1s.up e11
  have d1s := d1s.up e11
  have hb3 := hb3.ext e11
  have hE := hE.trans e11
  clear e11
  skip
  refine WL.call rfl rfl rfl (mk_cone w11 11 a2) ?_
  rintro b2v w12 ⟨b2, e12⟩
  have a2 := CL.ext a2 e12
  have b0s := b0s.up e12
  have d0s := d0s.up e12
  have b1s := b1s.up e12
  have d1s := d1s.up e12
  have hb3 := hb3.ext e12
  have hE := hE.trans e12
  clear e12
  clear a2
  obtain ⟨b2o, b2c, rfl, b2s⟩ := Rd.ltl b2
  clear b2
  (repeat (apply WL.pure; rfl; rfl; rfl))
  refine WL.call rfl rfl rfl (mk_atom w12 (n : Int)) ?_
  rintro c2v w13 ⟨c2, e13⟩
  have b0s := b0s.up e13
  have d0s := d0s.up e13
  have b1s := b1s.up e13
  have d1s := d1s.up e13
  have b2s := b2s.up e13
  have hb3 := hb3.ext e13
  have hE := hE.trans e13
  clear e13
  skip
  refine WL.call rfl rfl rfl (mk_one w13 7 c2) ?_
  rintro d2v w14 ⟨d2, e14⟩
  have c2 := RL.ext c2 e14
  have b0s := b0s.up e14
  have d0s := d0s.up e14
  have b1s := b1s.up e14
  have d1s := d1s.up e14
  have b2s := b2s.up e14
  have hb3 := hb3.ext e14
  have hE := hE.trans e14
  clear e14
  clear c2
  obtain ⟨d2o, d2c, rfl, d2s⟩ := Rd.ltl d2
  clear d2
  skip
  refine WL.build (parts := [(0, _), (1, _)]) rfl rfl rfl rfl ?_
  (repeat (apply WL.pure; rfl; rfl; rfl))
  refine WL.call rfl rfl rfl (mk_catom w14 (n : Int)) ?_
  rintro a3v w15 ⟨a3, e15⟩
  have b0s := b0s.up e15
  have d0s := d0s.up e15
  have b1s := b1s.up e15
  have d1s := d1s.up e15
  have b2s := b2s.up e15
  have d2s := d2s.up e15
  have hb3 := hb3.ext e15
  have hE := hE.trans e15
  clear e15
  (repeat (apply WL.pure; rfl; rfl; rfl))
  refine WL.call rfl rfl rfl (mk_catom w15 (k : Int)) ?_
  rintro a23v w16 ⟨a23, e16⟩
  have a3 := CL.ext a3 e16
  have b0s := b0s.up e16
  have d0s := d0s.up e16
  have b1s := b1s.up e16
  have d1s := d1s.up e16
  have b2s := b2s.up e16
  have d2s := d2s.up e16
  have hb3 := hb3.ext e16
  have hE := hE.trans e16
  clear e16
  skip
  refine WL.call rfl rfl rfl (mk_ctwo w16 14 a3 a23) ?_
  rintro b3v w17 ⟨b3, e17⟩
  have a3 := CL.ext a3 e17
  have a23 := CL.ext a23 e17
  have b0s := b0s.up e17
  have d0s := d0s.up e17
  have b1s := b1s.up e17
  have d1s := d1s.up e17
  have b2s := b2s.up e17
  have d2s := d2s.up e17
  have hb3 := hb3.ext e17
  have hE := hE.trans e17
  clear e17
  clear a3
  clear a23
  obtain ⟨b3o, b3c, rfl, b3s⟩ := Rd.ltl b3
  clear b3
  (repeat (apply WL.pure; rfl; rfl; rfl))
  refine WL.call rfl rfl rfl (mk_atom w17 (n : Int)) ?_
  rintro c3v w18 ⟨c3, e18⟩
  have b0s := b0s.up e18
  have d0s := d0s.up e18
  have b1s := b1s.up e18
  have d1s := d1s.up e18
  have b2s := b2s.up e18
  have d2s := d2s.up e18
  have b3s := b3s.up e18
  have hb3 := hb3.ext e18
  have hE := hE.trans e18
  clear e18
  (repeat (apply WL.pure; rfl; rfl; rfl))
  refine WL.call rfl rfl rfl (mk_atom w18 (k : Int)) ?_
  rintro c23v w19 ⟨c23, e19⟩
  have c3 := RL.ext c3 e19
  have b0s := b0s.up e19
  have d0s := d0s.up e19
  have b1s := b1s.up e19
  have d1s := d1s.up e19
  have b2s := b2s.up e19
  have d2s := d2s.up e19
  have b3s := b3s.up e19
  have hb3 := hb3.ext e19
  have hE := hE.trans e19
  clear e19
  skip
  refine WL.call rfl rfl rfl (mk_two w19 8 c3 c23) ?_
  rintro d3v w20 ⟨d3, e20⟩
  have c3 := RL.ext c3 e20
  have c23 := RL.ext c23 e20
  have b0s := b0s.up e20
  have d0s := d0s.up e20
  have b1s := b1s.up e20
  have d1s := d1s.up e20
  have b2s := b2s.up e20
  have d2s := d2s.up e20
  have b3s := b3s.up e20
  have hb3 := hb3.ext e20
  have hE := hE.trans e20
  clear e20
  clear c3
  clear c23
  obtain ⟨d3o, d3c, rfl, d3s⟩ := Rd.ltl d3
  clear d3
  skip
  refine WL.build (parts := [(0, _), (1, _)]) rfl rfl rfl rfl ?_
  (repeat (apply WL.pure; rfl; rfl; rfl))
  refine WL.call rfl rfl rfl (mk_catom w20 (k : Int)) ?_
  rintro a4v w21 ⟨a4, e21⟩
  have b0s := b0s.up e21
  have d0s := d0s.up e21
  have b1s := b1s.up e21
  have d1s := d1s.up e21
  have b2s := b2s.up e21
  have d2s := d2s.up e21
  have b3s := b3s.up e21
  have d3s := d3s.up e21
  have hb3 := hb3.ext e21
  have hE := hE.trans e21
  clear e21
  skip
  refine WL.call rfl rfl rfl (mk_cone w21 12 a4) ?_
  rintro a24v w22 ⟨a24, e22⟩
  have a4 := CL.ext a4 e22
  have b0s := b0s.up e22
  have d0s := d0s.up e22
  have b1s := b1s.up e22
  have d1s := d1s.up e22
  have b2s := b2s.up e22
  have d2s := d2s.up e22
  have b3s := b3s.up e22
  have d3s := d3s.up e22
  have hb3 := hb3.ext e22
  have hE := hE.trans e22
  clear e22
  clear a4
  skip
  refine WL.call rfl rfl rfl (mk_cone w22 13 a24) ?_
  rintro b4v w23 ⟨b4, e23⟩
  have a24 := CL.ext a24 e23
  have b0s := b0s.up e23
  have d0s := d0s.up e23
  have b1s := b1s.up e23
  have d1s := d1s.up e23
  have b2s := b2s.up e23
  have d2s := d2s.up e23
  have b3s := b3s.up e23
  have d3s := d3s.up e23
  have hb3 := hb3.ext e23
  have hE := hE.trans e23
  clear e23
  clear a24
  obtain ⟨b4o, b4c, rfl, b4s⟩ := Rd.ltl b4
  clear b4
  (repeat (apply WL.pure; rfl; rfl; rfl))
  refine WL.call rfl rfl rfl (mk_atom w23 (k : Int)) ?_
  rintro c4v w24 ⟨c4, e24⟩
  have b0s := b0s.up e24
  have d0s := d0s.up e24
  have b1s := b1s.up e24
  have d1s := d1s.up e24
  have b2s := b2s.up e24
  have d2s := d2s.up e24
  have b3s := b3s.up e24
  have d3s := d3s.up e24
  have b4s := b4s.up e24
  have hb3 := hb3.ext e24
  have hE := hE.trans e24
  clear e24
  skip
  refine WL.call rfl rfl rfl (mk_one w24 10 c4) ?_
  rintro c24v w25 ⟨c24, e25⟩
  have c4 := RL.ext c4 e25
  have b0s := b0s.up e25
  have d0s := d0s.up e25
  have b1s := b1s.up e25
  have d1s := d1s.up e25
  have b2s := b2s.up e25
  have d2s := d2s.up e25
  have b3s := b3s.up e25
  have d3s := d3s.up e25
  have b4s := b4s.up e25
  have hb3 := hb3.ext e25
  have hE := hE.trans e25
  clear e25
  clear c4
  skip
  refine WL.call rfl rfl rfl (mk_one w25 11 c24) ?_
  rintro d4v w26 ⟨d4, e26⟩
  have c24 := RL.ext c24 e26
  have b0s := b0s.up e26
  have d0s := d0s.up e26
  have b1s := b1s.up e26
  have d1s := d1s.up e26
  have b2s := b2s.up e26
  have d2s := d2s.up e26
  have b3s := b3s.up e26
  have d3s := d3s.up e26
  have b4s := b4s.up e26
  have hb3 := hb3.ext e26
  have hE := hE.trans e26
  clear e26
  clear c24
  obtain ⟨d4o, d4c, rfl, d4s⟩ := Rd.ltl d4
  clear d4
  skip
  refine WL.build (parts := [(0, _), (1, _)]) rfl rfl rfl rfl ?_
  skip
  refine WL.litR [((.mk 13 0 [.mk 3 (n : Int) []], .mk 11 0 [.mk 3 (n : Int) []]) : Ltl × Ltl), (.mk 12 0 [.mk 3 (n : Int) []], .mk 10 0 [.mk 3 (n : Int) []]), (.mk 11 0 [.mk 3 (n : Int) []], .mk 7 0 [.mk 3 (n : Int) []]), (.mk 14 0 [.mk 3 (n : Int) [], .mk 3 (k : Int) []], .mk 8 0 [.mk 3 (n : Int) [], .mk 3 (k : Int) []]), (.mk 13 0 [.mk 12 0 [.mk 3 (k : Int) []]], .mk 11 0 [.mk 10 0 [.mk 3 (k : Int) []]])] rfl rfl rfl rfl rfl ⟨Rd.mkPr (RdT.of b0s) (RdT.of d0s), Rd.mkPr (RdT.of b1s) (RdT.of d1s), Rd.mkPr (RdT.of b2s) (RdT.of d2s), Rd.mkPr (RdT.of b3s) (RdT.of d3s), Rd.mkPr (RdT.of b4s) (RdT.of d4s), trivial⟩ (by show 5 * 6 ≤ 16777216; decide) (fun u w27 eN hu _ => ?_)
  obtain ⟨fo, fc, rfl, hfs⟩ := hu.sl
  have hb3 := hb3.ext eN
  have hE := hE.trans eN
  clear eN hu b0s d0s b1s d1s b2s d2s b3s d3s b4s d4s
  generalize hps : [((.mk 13 0 [.mk 3 (n : Int) []], .mk 11 0 [.mk 3 (n : Int) []]) : Ltl × Ltl), (.mk 12 0 [.mk 3 (n : Int) []], .mk 10 0 [.mk 3 (n : Int) []]), (.mk 11 0 [.mk 3 (n : Int) []], .mk 7 0 [.mk 3 (n : Int) []]), (.mk 14 0 [.mk 3 (n : Int) [], .mk 3 (k : Int) []], .mk 8 0 [.mk 3 (n : Int) [], .mk 3 (k : Int) []]), (.mk 13 0 [.mk 12 0 [.mk 3 (k : Int) []]], .mk 11 0 [.mk 10 0 [.mk 3 (k : Int) []]])] = ps at *
  have hpl : ps.length = 5 := by rw [← hps]; rfl
  (repeat (first | (apply WL.pure; rfl; rfl; rfl) | (apply WL.nil) | (apply EX.thenN) | (apply WL.lenS; rfl; rfl; rfl) | (apply CW.block)))
  refine CW.loop (S := Nat) (fun i => [(3, .pointer (some ⟨w0.heap.size, 0, none⟩)), (71, .slice fo ps.length fc), (72, .int .i64 ps.length), (73, .int .i64 i)])
    (fun i w => i ≤ ps.length ∧ Ext w27 w) (fun i => ps.length - i) 0 (by repeat (first | exact trivial | refine ⟨rfl, ?_⟩)) ⟨Nat.zero_le _, Ext.refl _⟩ ?_
  rintro i w ⟨hi, e⟩
  have hbw := hb3.ext e
  have hEw := hE.trans e
  (repeat (first | (apply WL.pure; rfl; rfl; rfl) | (apply WL.nil) | (apply EX.thenN) | (apply CW.seq) | (apply CW.region)))
  refine CW.cond rfl (fun h => ?_) (fun h => ?_)
  · have hi' : i < ps.length := by simp at h; omega
    clear h
    have hok := hall _ (List.getElem_mem hi')
    (repeat (first | (apply EX.thenN) | (apply CW.seq) | (apply CW.region) | (apply CW.block) | (apply CW.skip)))
    refine WL.elemN (i := i) rfl rfl rfl rfl rfl (hfs.up e) hi' (fun _ => rfl) (fun u q hu => ?_)
    generalize ps[i] = pr at *
    obtain ⟨c, t⟩ := pr
    obtain ⟨k1, k2, rfl, r1, r2⟩ := hu.pr
    obtain ⟨co, cc, rfl, hc⟩ := RdT.sl r1
    obtain ⟨lo, lc, rfl, hl⟩ := RdT.sl r2
    clear hu
    dsimp only at hok hc
    have hRt : RL w _ t := ⟨_, rfl, r2⟩
    clear hl r1 r2
    skip
    refine WL.alloc rfl rfl (fun x1 hb8 y1 => ?_)
    skip
    refine WL.st rfl rfl rfl hb8 rfl rfl (ones_of rfl) (fun x2 hb8 g2 => ?_)
    have y2 : Ext w x2 := y1.grown g2 y1.size (fun g hg => by cases hg; exact Nat.le_refl _)
    have hb3x := hbw.ext y2
    have hEx := hEw.trans y2
    clear y1 g2
    (repeat (first | (apply WL.nil) | (apply EX.thenN) | (apply CW.seq) | (apply CW.region) | (apply WL.fa; rfl; rfl; rfl) | (apply WL.ldA; rfl; rfl; rfl; assumption; rfl)))
    refine WL.call rfl rfl rfl (labels_ok x2 (t := c) (h1.up hEx) (h2.up hEx) (h3.up hEx) (h4.up hEx) (hc.up y2) eW) ?_
    rintro _ x3 ⟨x, rfl, hx, y3⟩
    have hb3x := hb3x.ext y3
    have hb8 := hb8.ext y3
    have hEx := hEx.trans y3
    have hRt := RL.ext hRt (y2.trans y3)
    have yw := e.trans (y2.trans y3)
    have hlab : labE W.1 W.2.1 W.2.2.1.length W.2.2.2 c = 0 ↔ chkE W = 0 := by
      constructor
      · exact fun h => (labE_ok h).1
      · intro h
        unfold labE
        rw [if_neg (fun h' => h' h)]
        exact hok.ck
    (repeat (apply WL.pure; rfl; rfl; rfl))
    refine WL.alloc rfl rfl (fun x4 hb9 y4 => ?_)
    obtain ⟨xo, xc, hxe, hxs⟩ := hx.oldN.sl
    subst hxe
    skip
    refine WL.st rfl rfl rfl hb9 rfl rfl (ones_of rfl) (fun x5 hb9 g5 => ?_)
    have y5 : Ext x3 x5 := y4.grown g5 y4.size (fun g hg => by cases hg; exact Nat.le_refl _)
    have hb3x := hb3x.ext y5
    have hb8 := hb8.ext y5
    have hEx := hEx.trans y5
    have hRt := RL.ext hRt y5
    have hxs := hxs.up y5
    have yw := yw.trans y5
    clear y4 g5 y5 y3 y2 hx
    (repeat (first | (apply WL.pure; rfl; rfl; rfl) | (apply WL.nil) | (apply EX.thenN) | (apply CW.seq) | (apply CW.region) | (apply WL.fa; rfl; rfl; rfl) | (apply WL.ldA; rfl; rfl; rfl; assumption; rfl)))
    refine WL.call rfl rfl rfl (jHolds_ok x5 (W := W) (f := t) (h1.up hEx) (h2.up hEx) (h3.up hEx) (h4.up hEx) hRt sW tW) ?_
    rintro _ x6 ⟨⟨s, l, is, err, so, sc, lo', lc', rfl, _, _, hJ⟩, y6⟩
    have hb3x := hb3x.ext y6
    have hb9 := hb9.ext y6
    have hEx := hEx.trans y6
    have hxs := hxs.up y6
    have yw := yw.trans y6
    (repeat (apply WL.pure; rfl; rfl; rfl))
    refine WL.alloc rfl rfl (fun x7 hb11 y7 => ?_)
    skip
    refine WL.st rfl rfl rfl hb11 rfl rfl (ones_of rfl) (fun x8 hb11 g8 => ?_)
    have y8 : Ext x6 x8 := y7.grown g8 y7.size (fun g hg => by cases hg; exact Nat.le_refl _)
    have hb3x := hb3x.ext y8
    have hb9 := hb9.ext y8
    have hEx := hEx.trans y8
    have hxs := hxs.up y8
    have yw := yw.trans y8
    clear y7 g8 y6 y8 hb11 hb8
    by_cases hW : chkE W = 0
    case neg =>
      have b1 : decide (labE W.1 W.2.1 W.2.2.1.length W.2.2.2 c = 0) = false := decide_eq_false (fun h => hW (hlab.1 h))
      have b2 : (err != 0) = true := by
        have : err ≠ 0 := fun h => hW (hJ.ok h).1
        simpa using this
      rw [b1]
      (repeat (first | (apply WL.pure; rfl; rfl; rfl) | (apply WL.nil) | (apply EX.thenN) | (apply CW.seq) | (apply CW.region) | (apply WL.pass; rfl; rfl) | (apply CW.condT; rfl) | (apply CW.ret) | (apply EX.thenR) | (apply EX.inR)))
      rw [b2]
      skip
      exact EX.ret1 rfl rfl ⟨rfl, hEx⟩
    obtain rfl : err = 0 := hJ.good hW hok.md.2.2 (mkT_ok hok.md.1 hok.md.2.1)
    obtain ⟨_, _, _, _, hiff, _, _⟩ := hJ.ok rfl
    have hany := words_any hok hW
    rw [if_pos (hlab.2 hW)] at hxs hb9
    rw [decide_eq_true (hlab.2 hW)]
    obtain ⟨_, _, _, hst, _, _⟩ := chkWd_ok hW
    have hbl := boolsN_len (n := W.2.1.length) (P := ctlF W.2.1 W.2.2.1 W.2.2.2 c)
    generalize boolsN W.2.1.length (ctlF W.2.1 W.2.2.1 W.2.2.2 c) = bl at *
    (repeat (first | (apply WL.pure; rfl; rfl; rfl) | (apply WL.nil) | (apply EX.thenN) | (apply CW.seq) | (apply CW.region) | (apply WL.makeFunc; rfl; rfl; rfl; rfl) | (apply WL.fa; rfl; rfl; rfl) | (apply WL.ld; rfl; rfl; rfl; assumption; rfl) | (apply CW.condF; rfl) | (apply CW.skip)))
    refine WL.call rfl rfl rfl (containsFunc_int x8 (fun x => !bl.getD x.toNat false) (h1.up hEx) (fun w5 hw5 j hj => ?_)) ?_
    · have hto := hst _ (List.getElem_mem hj)
      obtain ⟨to, eto⟩ := Int.eq_ofNat_of_zero_le hto.1
      rw [eto, Int.toNat_natCast]
      exact FnV.mk (cs := [_]) (lw1 w5 _ (hb9.ext hw5) (hxs.up hw5) (by omega))
    rintro _ x9 ⟨rfl, y9⟩
    have yw := yw.trans y9
    have hne : (is == W.1.any fun x => !bl.getD x.toNat false) = false := by
      rw [beq_eq_false_iff_ne]
      intro he
      rw [he] at hiff
      by_cases ha : AllW W t
      · exact hany.1 (hiff.2 ha) ha
      · exact ha (hiff.1 (hany.2 ha))
    generalize (W.1.any fun x => !bl.getD x.toNat false) = any at *
    (repeat (first | (apply WL.nil) | (apply EX.thenN) | (apply WL.eqB; rfl; rfl; rfl; rfl)))
    rw [hne]
    (repeat (first | (apply WL.add; rfl; rfl; rfl; rfl; omega; omega) | (apply WL.pure; rfl; rfl; rfl) | (apply WL.nil) | (apply EX.thenN) | (apply CW.region) | (apply EX.inN) | (apply CW.condF; rfl) | (apply CW.skip)))
    exact EX.back (i + 1) (by repeat (first | exact trivial | refine ⟨rfl, ?_⟩)) ⟨hi', yw⟩ (by omega)
  · (repeat (first | (apply WL.pure; rfl; rfl; rfl) | (apply WL.nil) | (apply EX.thenN) | (apply CW.seq) | (apply CW.region) | (apply CW.exit) | (apply EX.thenX) | (apply EX.inX) | (apply CW.ret)))
    exact EX.ret1 rfl rfl ⟨rfl, hEw⟩
end Go.Proofs.YtllpfgcngokhnaaGreat

/-
  From the form's readings of the arguments to our own, and back: what a law's proof needs at its two ends.
-/
set_option linter.unusedVariables false
set_option linter.unusedSimpArgs false
namespace Go.Proofs.YtllpfgcngokhnaaGreat
open Go.RowKit Go.ChangeShapes Go.WideShapes Go.ChangeAt

theorem bulk_one {H : Type} (d : DataW H) : 1 ≤ Rows.uptoBulk d := by
  cases d with
  | lit l => cases l <;> simp [Rows.uptoBulk]
  | nil => simp [Rows.uptoBulk]
  | ptr d => simp [Rows.uptoBulk]
  | slice elems spare => simp [Rows.uptoBulk]
  | agg parts => simp [Rows.uptoBulk]
  | iface t d => simp [Rows.uptoBulk]
  | map entries => simp [Rows.uptoBulk]
  | held h => simp [Rows.uptoBulk]
theorem bulk_app {H : Type} (l r : List (DataW H)) : Rows.uptoBulkAll (l ++ r) = Rows.uptoBulkAll l + Rows.uptoBulkAll r := by
  induction l with
  | nil => simp [Rows.uptoBulkAll]
  | cons x l ih => simp only [List.cons_append, Rows.uptoBulkAll, ih]; omega

/-- the bound, as the form hands it over -/
theorem bound {H : Type} {l : List (DataW H)} (hk : Rows.uptoSmall H l = true) : Rows.uptoBulkAll l ≤ 1048576 := by
  simpa [Rows.uptoSmall] using hk
/-- how many values a value of ours holds -/
class Bk (α : Type) where
  bk : α → Nat
abbrev bk {α : Type} [Bk α] : α → Nat := Bk.bk
instance iOpen1 : Bk Int := ⟨fun _ => 1⟩
instance iOpen2 : Bk Bool := ⟨fun _ => 1⟩
instance iOpen3 : Bk Nat := ⟨fun _ => 1⟩
instance iOpen4 : Bk ByteArray := ⟨fun s => s.size + 1⟩
def bkL {α : Type} [Bk α] : List α → Nat
  | [] => 0
  | x :: r => bk x + bkL r
instance iOpen8 {α : Type} [Bk α] : Bk (List α) := ⟨fun l => bkL l + 1⟩

/-- what the form reads at a type, we read, too -/
class Opn (P : Program) (t : TypeId) (α : Type) [Rep α] [Bk α] : Prop where
  op : ∀ {H : Type} {enc : TypeId × Value → H} {w : World} {fuel : Nat} {cs : List Value} {d : DataW H} {ps : List MemPlace}, DataW.trod enc P w 0 (fun _ => true) true fuel t cs = some (d, ps) → ∃ x : α, rd w (Old w) cs x ∧ bk x ≤ Rows.uptoBulk d

theorem Opn.int {P : Program} {t : TypeId} (h : P.underlying t = some (.int .i64)) : Opn P t Int where
  op := by
    intro H enc w fuel cs d ps hd
    cases fuel with
    | zero => simp [DataW.trod] at hd
    | succ fuel =>
      unfold DataW.trod at hd
      rw [h] at hd
      split at hd <;> try (simp at *; done)
      rename_i k k' n e1
      simp at e1
      split at hd
      · rename_i hk
        simp at hd
        obtain ⟨rfl, rfl⟩ := hd
        exact ⟨n, by rw [hk.1, ← e1]; rfl, bulk_one _⟩
      · cases hd
theorem Opn.bool {P : Program} {t : TypeId} (h : P.underlying t = some .bool) : Opn P t Bool where
  op := by
    intro H enc w fuel cs d ps hd
    cases fuel with
    | zero => simp [DataW.trod] at hd
    | succ fuel =>
      unfold DataW.trod at hd
      rw [h] at hd
      split at hd <;> try (simp at *; done)
      rename_i b e1
      simp at hd
      obtain ⟨rfl, rfl⟩ := hd
      exact ⟨b, rfl, bulk_one _⟩
theorem Opn.u64 {P : Program} {t : TypeId} (h : P.underlying t = some (.int .u64)) : Opn P t Nat where
  op := by
    intro H enc w fuel cs d ps hd
    cases fuel with
    | zero => simp [DataW.trod] at hd
    | succ fuel =>
      unfold DataW.trod at hd
      rw [h] at hd
      split at hd <;> try (simp at *; done)
      rename_i k k' n e1
      simp at e1
      split at hd
      · rename_i hk
        simp at hd
        obtain ⟨rfl, rfl⟩ := hd
        have hwf := hk.2
        rw [← e1] at hwf
        have hb : 0 ≤ n ∧ n ≤ 18446744073709551615 := by simpa [Lit.wf, IntKind.min, IntKind.max, IntKind.signed, IntKind.bits] using hwf
        refine ⟨n.toNat, ⟨?_, by omega⟩, bulk_one _⟩
        rw [hk.1, ← e1, Int.toNat_of_nonneg hb.1]
      · cases hd
theorem Opn.string {P : Program} {t : TypeId} (h : P.underlying t = some .string) : Opn P t ByteArray where
  op := by
    intro H enc w fuel cs d ps hd
    cases fuel with
    | zero => simp [DataW.trod] at hd
    | succ fuel =>
      unfold DataW.trod at hd
      rw [h] at hd
      split at hd <;> try (simp at *; done)
      rename_i s e1
      split at hd
      · rename_i hk
        simp at hd
        obtain ⟨rfl, rfl⟩ := hd
        refine ⟨s, ⟨rfl, hk⟩, ?_⟩
        show s.size + 1 ≤ _
        simp only [Rows.uptoBulk]
        have e : s.data.toList.length = s.size := by rw [Array.length_toList]; rfl
        omega
      · cases hd

theorem mapM_range {β : Type} (f : Nat → Option β) : ∀ (n : Nat) (es : List β), (List.range n).mapM f = some es → es.length = n ∧ ∀ i (h : i < es.length), f i = some es[i]
  | 0, es, h => by
    simp at h; subst h
    exact ⟨rfl, fun i hi => absurd hi (by simp)⟩
  | n + 1, es, h => by
    rw [List.range_succ, List.mapM_append] at h
    simp only [List.mapM_cons, List.mapM_nil, Option.bind_eq_bind, Option.pure_def] at h
    cases h1 : (List.range n).mapM f with
    | none => rw [h1] at h; cases h
    | some l =>
      rw [h1] at h
      cases h2 : f n with
      | none => rw [h2] at h; cases h
      | some y =>
        rw [h2] at h
        simp at h
        subst h
        obtain ⟨hl, hi⟩ := mapM_range f n l h1
        refine ⟨by simp [hl], fun i hlt => ?_⟩
        by_cases hi' : i < l.length
        · rw [List.getElem_append_left hi']; exact hi i hi'
        · have : i = n := by simp at hlt; omega
          subst this
          rw [List.getElem_append_right (by omega)]
          simpa [hl] using h2
theorem mapM_cells {w : World} {a : Addr} {n : Nat} {cs : List Value} (h : w.cells? 0 a n = some cs) : cs.length = n ∧ ∀ j (hj : j < cs.length), w.cell? (a.add j) = some cs[j] := by
  unfold World.cells? at h
  rw [if_pos (Nat.zero_le _)] at h
  exact mapM_range _ n cs h

theorem slice_op {P : Program} {t e : TypeId} {α : Type} [Rep α] [Bk α] [hs : IsS P t e] [ht : IsT P e α] {H : Type} {enc : TypeId × Value → H} {w : World} {fuel : Nat}
    (ho : ∀ {cs : List Value} {d : DataW H} {ps : List MemPlace}, DataW.trod enc P w 0 (fun _ => true) true fuel e cs = some (d, ps) → ∃ x : α, rd w (Old w) cs x ∧ bk x ≤ Rows.uptoBulk d)
    {cs : List Value} {d : DataW H} {ps : List MemPlace} (hd : DataW.trod enc P w 0 (fun _ => true) true (fuel + 1) t cs = some (d, ps)) : ∃ x : List α, rd w (Old w) cs x ∧ bk x ≤ Rows.uptoBulk d := by
  unfold DataW.trod at hd
  rw [hs.ok] at hd
  obtain ⟨i0, hi1, hi2⟩ := IsT.info (P := P) (t := e) (α := α)
  have hsz : P.cellsOf e = sz α := by simp [Program.cellsOf, hi1, hi2]
  have hp : 0 < sz α := Rep.pos
  split at hd <;> try (simp at *; done)
  · simp at hd
    obtain ⟨rfl, rfl⟩ := hd
    exact ⟨[], ⟨none, 0, rfl, by simp, by simp [maxLen], fun _ => rfl, fun i hi => absurd hi (by simp)⟩, bulk_one _⟩
  · rename_i e' a len cap e1
    cases e1
    simp only at hd
    split at hd
    · rename_i hc
      obtain ⟨_, hle, hmx⟩ := hc
      rw [hsz] at hd
      cases hm : (List.range len).mapM (fun i => (w.cells? 0 (a.add (i * sz α)) (sz α)).bind (DataW.trod enc P w 0 (fun _ => true) true fuel e)) with
      | none => rw [hm] at hd; cases hd
      | some elems =>
        rw [hm] at hd
        simp only [Option.bind_some, if_true] at hd
        obtain ⟨rest, _, hd2⟩ := Option.map_eq_some_iff.1 hd
        simp only [Prod.mk.injEq] at hd2
        obtain ⟨rfl, _⟩ := hd2
        obtain ⟨hlen, hget⟩ := mapM_range _ len elems hm
        -- one element at a time
        have one : ∀ i (h : i < elems.length), ∃ x : α, (∃ b off, some a = some ⟨b, off, none⟩ ∧ Old w b ∧ ∃ es, Cells w b (off + i * sz α) es ∧ rd w (Old w) es x) ∧ bk x ≤ Rows.uptoBulk (elems[i]).1 := by
          intro i hi
          have h1 := hget i hi
          cases hcs : w.cells? 0 (a.add (i * sz α)) (sz α) with
          | none => rw [hcs] at h1; cases h1
          | some es =>
            rw [hcs] at h1
            simp only [Option.bind_some] at h1
            obtain ⟨x, hr, hb⟩ := ho (d := (elems[i]).1) (ps := (elems[i]).2) h1
            obtain ⟨hl, hc⟩ := mapM_cells hcs
            have h0 := hc 0 (by omega)
            have hspot : a.spot = none := by
              cases hsp : a.spot with
              | none => rfl
              | some k =>
                -- the first element's first cell lies at the address itself
                have h2 := hget 0 (by omega)
                cases hcs0 : w.cells? 0 (a.add (0 * sz α)) (sz α) with
                | none => rw [hcs0] at h2; cases h2
                | some es0 =>
                  obtain ⟨hl0, hc0⟩ := mapM_cells hcs0
                  have h3 := hc0 0 (by omega)
                  have e3 : (a.add (0 * sz α)).add 0 = a := by simp [Addr.add]
                  rw [e3] at h3
                  unfold World.cell? at h3
                  split at h3
                  · simp [hsp] at h3
                  · cases h3
            obtain ⟨b, off, sp⟩ := a
            simp only at hspot
            subst hspot
            rw [WideShapes.add_plain] at hc h0
            have hblt : b < w.heap.size := World.block_lt_of_cell? w _ h0
            refine ⟨x, ⟨b, off, rfl, hblt, es, ?_, hr⟩, hb⟩
            intro j u hu
            obtain ⟨hj, rfl⟩ := List.getElem?_eq_some_iff.1 hu
            have := hc j hj
            rwa [WideShapes.add_plain] at this
        have all : ∀ k, k ≤ elems.length → ∃ xs : List α, xs.length = k ∧ (∀ i (h : i < xs.length), ∃ b off, some a = some ⟨b, off, none⟩ ∧ Old w b ∧ ∃ es, Cells w b (off + i * sz α) es ∧ rd w (Old w) es xs[i]) ∧ bkL xs ≤ Rows.uptoBulkAll ((elems.map (·.1)).take k) := by
          intro k
          induction k with
          | zero => intro _; exact ⟨[], rfl, fun i hi => absurd hi (by simp), by simp [bkL, Rows.uptoBulkAll]⟩
          | succ k ih =>
            intro hk
            obtain ⟨xs, h1, h2, h3⟩ := ih (by omega)
            obtain ⟨x, h4, h5⟩ := one k (by omega)
            refine ⟨xs ++ [x], by simp [h1], ?_, ?_⟩
            · intro i hi
              by_cases hlt : i < xs.length
              · rw [List.getElem_append_left hlt]; exact h2 i hlt
              · have : i = k := by simp at hi; omega
                subst this
                rw [List.getElem_append_right (by omega)]
                simpa [h1] using h4
            · have hb : ∀ (l : List α), bkL (l ++ [x]) = bkL l + bk x := by
                intro l; induction l with
                | nil => simp [bkL]
                | cons y l ih => simp only [List.cons_append, bkL, ih]; omega
              rw [hb, List.take_succ_eq_append_getElem (by simp; omega), bulk_app]
              simp only [List.getElem_map, Rows.uptoBulkAll]
              omega
        obtain ⟨xs, h1, h2, h3⟩ := all elems.length (Nat.le_refl _)
        have hx : xs.length = len := by omega
        refine ⟨xs, ⟨some a, cap, by rw [hx], ⟨by omega, hmx, (fun h => by cases h), h2⟩⟩, ?_⟩
        show bkL xs + 1 ≤ _
        rw [List.take_of_length_le (by simp)] at h3
        simp only [Rows.uptoBulk]
        omega
    · cases hd

theorem Opn.slice {P : Program} {t e : TypeId} {α : Type} [Rep α] [Bk α] [hs : IsS P t e] [ht : IsT P e α] [ho : Opn P e α] : Opn P t (List α) where
  op := by
    intro H enc w fuel cs d ps hd
    cases fuel with
    | zero => simp [DataW.trod] at hd
    | succ fuel => exact slice_op (e := e) (fun h => ho.op h) hd

theorem okWide_form {P : Program} {w : World} {r : Reach} {base : Nat} {t : TypeId} {v : Value} {d : TypeDesc} (hu : P.underlying t = some d) (h : Value.okWide P w r base t v) :
    (aggD d = false → v.oneCell' = true) ∧ (aggD d = true → ∃ cs, v = .agg cs) := by
  unfold Value.okWide at h
  rw [hu] at h
  constructor
  · intro hd
    cases v <;> first
      | rfl
      | (exfalso; cases d <;> simp [aggD] at hd <;> simp [Cell.okWide, Cell.ok, hu] at h)
  · intro hd
    cases d <;> simp [aggD] at hd <;> (obtain ⟨cs, rfl, _⟩ := h; exact ⟨cs, rfl⟩)
/-- an argument, opened -/
theorem Opn.arg {P : Program} {t : TypeId} {α : Type} [Rep α] [Bk α] [ht : IsT P t α] [ho : Opn P t α] {H : Type} {enc : TypeId × Value → H} {w : World} {v : Value} {d : DataW H} {ps : List MemPlace} {r : Reach} {base : Nat}
    (hv : Value.okWide P w r base t v) (h : DataW.Trod enc P w 0 (fun _ => true) true t v d ps) : ∃ x : α, Rd w (Old w) v x ∧ bk x ≤ Rows.uptoBulk d := by
  obtain ⟨i, dd, _, _, h3, h4⟩ := ht.ok
  obtain ⟨f1, f2⟩ := okWide_form h3 hv
  obtain ⟨fuel, hf⟩ := h
  obtain ⟨x, hr, hb⟩ := ho.op hf
  refine ⟨x, ⟨v.cells.toList, ?_, hr⟩, hb⟩
  unfold vOf
  split
  · rename_i he
    obtain ⟨cs, rfl⟩ := f2 (h4.trans he)
    simp [Value.cells]
  · rename_i he
    have := f1 (h4.trans he)
    cases v <;> first | rfl | (simp [Value.oneCell'] at this)

theorem trodAll_below {H : Type} {enc : TypeId × Value → H} {P : Program} (hl : laidOutB P = true) {W W' : World} (hb : Ext W W') : ∀ {ts : List TypeId} {vs : List Value} {ds : List (DataW H)} {ps : List MemPlace},
    (∀ t ∈ ts, P.readableRec t = true ∧ t < P.types.size) → DataW.TrodAll enc P W 0 (fun _ => true) true ts vs ds ps → (∀ x ∈ ps, x.block < W.heap.size) →
    DataW.TrodAll enc P W' 0 (fun b => decide (b < W.heap.size)) true ts vs ds ps
  | [], [], [], _, _, h, _ => h
  | t :: ts, v :: vs, d :: ds, ps, hr, h, hlt => by
    obtain ⟨p, q, h1, h2, rfl⟩ := h
    exact ⟨p, q, Below.trod hl (hr t (by simp)).1 (hr t (by simp)).2 h1 hb (fun x hx => hlt x (by simp [hx])),
      trodAll_below hl hb (fun t ht => hr t (by simp [ht])) h2 (fun x hx => hlt x (by simp [hx])), rfl⟩
  | [], [], _ :: _, _, _, h, _ => h.elim
  | [], _ :: _, [], _, _, h, _ => h.elim
  | [], _ :: _, _ :: _, _, _, h, _ => h.elim
  | _ :: _, [], [], _, _, h, _ => h.elim
  | _ :: _, [], _ :: _, _, _, h, _ => h.elim
  | _ :: _, _ :: _, [], _, _, h, _ => h.elim

/-- the law's end: it returned true, and only new memory was made -/
theorem law_post {H : Type} {enc : TypeId × Value → H} {P : Program} {fn : Func} {s : ChangeSpec} {W W' : World} {args : Array Value} {ds gs : List (DataW H)} {before : List MemPlace} {tb : TypeId}
    (hl : laidOutB P = true) (hW : DataW.Whole enc P fn.params.toList s.vars false W args.toList ds gs before) (hv : s.vars = []) (hr : ∀ t ∈ fn.params.toList, P.readableRec t = true ∧ t < P.types.size)
    (hsp : (s.fn H (ds ++ gs)).results = [.lit (.bool true)] ∧ (s.fn H (ds ++ gs)).args = ds ∧ (s.fn H (ds ++ gs)).vars = []) (hres : fn.resultTypes = #[tb]) (hb : P.underlying tb = some .bool) (hE : Ext W W') :
    s.post enc P fn false true false false W args (.bool true) W' := by
  have hlt := hW.lt
  have hW' := hW
  obtain ⟨p, q, hA, hV, rfl, _, _⟩ := hW
  rw [hv] at hV
  obtain ⟨e1, e2, e3⟩ := hsp
  refine ⟨ds, gs, p ++ q, [], p, [], hW', ?_, ?_, ?_, hE.frame _, fun h => by cases h⟩
  · rw [e1, hres]
    exact trodAll_mk1 (shut_bool hb true)
  · rw [e2]
    exact trodAll_below hl hE hr hA (fun x hx => hlt x (by simp [hx]))
  · rw [e3, hv]
    exact rfl
/- structs -/
instance iOpen9 {α β : Type} [Bk α] [Bk β] : Bk (α × β) := ⟨fun x => bk x.1 + bk x.2⟩
/-- a list of fields, from an offset on -/
class OpnFs (P : Program) (fs : List (TypeId × Nat)) (off : Nat) (α : Type) [Rep α] [Bk α] : Prop where
  op : ∀ {H : Type} {enc : TypeId × Value → H} {w : World} {fuel : Nat} {cs : List Value} {xs : List (DataW H × List MemPlace)}, off + sz α = cs.length →
    (fs.mapM fun f => DataW.trod enc P w 0 (fun _ => true) true fuel f.1 ((cs.drop f.2).take (P.cellsOf f.1))) = some xs → ∃ x : α, rd w (Old w) (cs.drop off) x ∧ bk x ≤ Rows.uptoBulkAll (xs.map (·.1))
theorem cellsOf_T {P : Program} {t : TypeId} {α : Type} [Rep α] [ht : IsT P t α] : P.cellsOf t = sz α := by
  obtain ⟨i, h1, h2⟩ := IsT.info (P := P) (t := t) (α := α)
  simp [Program.cellsOf, h1, h2]
instance OpnFs.one {P : Program} {t : TypeId} {off : Nat} {α : Type} [Rep α] [Bk α] [ht : IsT P t α] [ho : Opn P t α] : OpnFs P [(t, off)] off α where
  op := by
    intro H enc w fuel cs xs hl h
    simp only [List.mapM_cons, List.mapM_nil, Option.bind_eq_bind, Option.pure_def] at h
    cases h1 : DataW.trod enc P w 0 (fun _ => true) true fuel t ((cs.drop off).take (P.cellsOf t)) with
    | none => rw [h1] at h; cases h
    | some d =>
      rw [h1] at h; simp at h; subst h
      obtain ⟨d, ps⟩ := d
      obtain ⟨x, hr, hb⟩ := ho.op h1
      rw [cellsOf_T (α := α), List.take_of_length_le (by rw [List.length_drop]; omega)] at hr
      exact ⟨x, hr, by simpa [Rows.uptoBulkAll] using hb⟩
instance OpnFs.cons {P : Program} {t : TypeId} {off : Nat} {f : TypeId × Nat} {fs : List (TypeId × Nat)} {α β : Type} [Rep α] [Bk α] [Rep β] [Bk β] [ht : IsT P t α] [ho : Opn P t α] [hr : OpnFs P (f :: fs) (off + sz α) β] : OpnFs P ((t, off) :: f :: fs) off (α × β) where
  op := by
    intro H enc w fuel cs xs hl h
    rw [List.mapM_cons] at h
    simp only [Option.bind_eq_bind, Option.pure_def] at h
    have hl' : off + sz α + sz β = cs.length := by
      have : sz (α × β) = sz α + sz β := rfl
      omega
    cases h1 : DataW.trod enc P w 0 (fun _ => true) true fuel t ((cs.drop off).take (P.cellsOf t)) with
    | none => rw [h1] at h; cases h
    | some d =>
      rw [h1] at h
      simp only [Option.bind_some] at h
      obtain ⟨ys, h2, h3⟩ := Option.bind_eq_some_iff.1 h
      cases h3
      obtain ⟨d, ps⟩ := d
      obtain ⟨x, hx, hb⟩ := ho.op h1
      obtain ⟨y, hy, hc⟩ := hr.op hl' h2
      rw [cellsOf_T (α := α)] at hx
      refine ⟨(x, y), ⟨(cs.drop off).take (sz α), cs.drop (off + sz α), ?_, hx, hy⟩, ?_⟩
      · rw [← List.drop_drop, List.take_append_drop]
      · show bk x + bk y ≤ _
        simp only [List.map_cons, Rows.uptoBulkAll]
        omega
def stFact (P : Program) (t : TypeId) : Option (List (TypeId × Nat)) := match P.underlying t with
  | some (.struct fs) => some (fs.toList.map fun f => (f.type, f.offset))
  | _ => none
theorem Opn.struct {P : Program} {t : TypeId} {fs : List (TypeId × Nat)} {α : Type} [Rep α] [Bk α] [ht : IsT P t α] [hf : OpnFs P fs 0 α] (h : stFact P t = some fs) : Opn P t α where
  op := by
    intro H enc w fuel cs d ps hd
    unfold stFact at h
    split at h
    · rename_i gs hu
      cases h
      cases fuel with
      | zero => simp [DataW.trod] at hd
      | succ fuel =>
        unfold DataW.trod at hd
        rw [hu] at hd
        simp only at hd
        split at hd
        · rename_i hl
          obtain ⟨xs, h1, h2⟩ := Option.map_eq_some_iff.1 hd
          cases h2
          have := hf.op (enc := enc) (w := w) (fuel := fuel) (cs := cs) (xs := xs) (by rw [hl, cellsOf_T (α := α)]; omega) (by rw [List.mapM_map]; exact h1)
          obtain ⟨x, hr, hb⟩ := this
          exact ⟨x, by simpa using hr, by simp only [Rows.uptoBulk]; omega⟩
        · cases hd
    · cases h
instance iOpen5 : Opn Tryz.prog 3 Int := Opn.int Tryz.underlying3
instance iOpen6 : Opn Tryz.prog 22 (List Int) := Opn.slice
instance iOpen7 : Opn Tryz.prog 23 (List (List Int)) := Opn.slice
end Go.Proofs.YtllpfgcngokhnaaGreat

/-
  The types of the arguments, as the form reads them.
-/
set_option linter.unusedVariables false
namespace Go.Proofs.YtllpfgcngokhnaaGreat
open Go.RowKit

instance iOpn1 : Opn Tryz.prog 4 Bool := Opn.bool Tryz.underlying4
instance iOpn2 : Opn Tryz.prog 65 Nat := Opn.u64 Tryz.underlying65
instance iOpn3 : Opn Tryz.prog 9 ByteArray := Opn.string Tryz.underlying9
instance iOpn4 : Opn Tryz.prog 47 Int := Opn.int Tryz.underlying47
instance iOpn5 : Opn Tryz.prog 42 (List Bool) := Opn.slice
instance iOpn6 : Opn Tryz.prog 24 (List Nat) := Opn.slice
instance iOpn19 : Opn Tryz.prog 46 (List Int × List Int) := Opn.struct (fs := [(22, 0), (22, 1)]) (by kernel_rfl)
instance iOpn22 : Opn Tryz.prog 26 (List Int × List (List Int) × List Nat × List (List Int)) := Opn.struct (fs := [(22, 0), (23, 1), (24, 2), (23, 3)]) (by kernel_rfl)
instance iOpn23 : Opn Tryz.prog 60 (List Int × List (List Int) × List Nat × List Nat × List (List Int)) := Opn.struct (fs := [(22, 0), (23, 1), (24, 2), (24, 3), (23, 4)]) (by kernel_rfl)
end Go.Proofs.YtllpfgcngokhnaaGreat

/-
  Bulk of lists of numbers.
-/
namespace Go.Proofs.YtllpfgcngokhnaaGreat
open Go.RowKit

theorem bulk_flat {α : Type} [Bk α] (h : ∀ x : α, bk x = 1) : ∀ l : List α, bkL l = l.length
  | [] => rfl
  | x :: r => by simp only [bkL, h, bulk_flat h r, List.length_cons]; omega
theorem bulk_l (l : List Int) : l.length + 1 = bk l := by show _ = bkL l + 1; rw [bulk_flat (fun _ => rfl)]
theorem bulk_g : ∀ g : List (List Int), edges g + g.length ≤ bkL g
  | [] => by simp [edges, bkL]
  | l :: g => by
    have h1 := bulk_g g
    have h3 : bk l = l.length + 1 := (bulk_l l).symm
    simp only [bkL, h3, edges, List.map_cons, List.sum_cons, List.length_cons] at h1 ⊢
    omega
theorem bulk_gg (g : List (List Int)) : edges g + g.length + 1 ≤ bk g := by
  have := bulk_g g
  show _ ≤ bkL g + 1
  omega
end Go.Proofs.YtllpfgcngokhnaaGreat

