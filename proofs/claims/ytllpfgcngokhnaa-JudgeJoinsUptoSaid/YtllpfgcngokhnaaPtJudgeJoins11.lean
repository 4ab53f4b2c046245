import Derived.Test.YtllpfgcngokhnaaPtJudgeJoins10
/-
  Package empty: round, states: walked.
-/
set_option linter.unusedVariables false
set_option linter.unusedSimpArgs false
namespace Go.Proofs.Ytllpfgcngokhnaa
open Go.RowKit

theorem Cells.nthE {w : World} {b off : Nat} {cs : List Value} (h : Cells w b off cs) {j : Nat} {v : Value} (hv : cs[j]? = some v) : Cells w b (off + j) [v] := by
  intro k u hu
  cases k with
  | zero => simp at hu; subst hu; exact h j _ hv
  | succ k => simp at hu
theorem Sl.pairAt {w : World} {F : Nat → Prop} {ao : Option Addr} {cap : Nat} {xs : List Pr2} (h : Sl w F ao cap xs) (i : Nat) (hi : i < xs.length) : ∃ b off, ao = some ⟨b, off, none⟩ ∧ F b ∧ Cells w b (off + i * 2 + 0) [.int .i64 xs[i].1] ∧ Cells w b (off + i * 2 + 1) [.int .i64 xs[i].2] := by
  obtain ⟨b, off, e, hF, es, hc, hr⟩ := h.el i hi
  obtain ⟨c1, c2, rfl, h1, h2⟩ := rd_pr hr
  rw [rd_int h1, rd_int h2] at hc
  exact ⟨b, off, e, hF, hc.nthE rfl, hc.nthE rfl⟩
theorem drop_last1 {l : List Int} (h : 0 < l.length) : l.drop (l.length - 1) = [l.getD (l.length - 1) 0] := by
  refine List.ext_getElem (by simp; omega) fun i h1 h2 => ?_
  rw [List.length_drop] at h1
  obtain rfl : i = 0 := by omega
  rw [List.getElem_drop, List.getD_eq_getElem?_getD, List.getElem?_eq_getElem (by omega)]; rfl
/-- on in the part, from each node of a good part -/
theorem good_next {g : Graph} {part : List Int} {sets : List (List Bool)} (hg : okG g) (hp : PartsOK g part) {i : Nat} (hi : i < g.length) (h : GoodC g part sets (part.getD i 0)) : ∃ u : Nat, u < g.length ∧ (u : Int) ∈ g.getD i [] ∧ part.getD u 0 = part.getD i 0 := by
  obtain ⟨⟨u, h1, h2⟩, _⟩ := (good_core' hg hp hi).2 h
  have hu : u < g.length := Eg.lt hg h1
  exact ⟨u, hu, h1, (hp.same u i hu hi).2 ⟨(rch1 hg).2 h2, (rch1 hg).2 (Rc.one h1)⟩⟩
theorem eround1_ok (w : World) (b : Nat) {po : Option Addr} {pc : Nat} {S : List Bool} {k : Nat} (hb : Blk w b 54 [.slice po S.length pc]) (hp : Sl w (Old w) po pc S) (hk : k < S.length) :
    Rt Try.prog 100 [.int .i64 (k : Int), .pointer (some ⟨b, 0, none⟩)].toArray w fun v w' => v = .bool (S.getD k false) ∧ Ext w w' := by
  refine Rt.enter2 Try.func100 Try.ntmps100 rfl rfl ?_
  (repeat (first | (apply WL.pure; rfl; rfl; rfl) | (apply WL.nil) | (apply EX.thenN) | (apply CW.seq) | (apply CW.region) | (apply WL.ld; rfl; rfl; rfl; assumption; rfl)))
  refine WL.elemB rfl rfl rfl rfl rfl hp hk rfl (fun _ => rfl) (fun q => ?_)
  (repeat (first | (apply WL.pure; rfl; rfl; rfl) | (apply WL.nil) | (apply EX.thenN) | (apply CW.ret)))
  exact EX.ret1 rfl rfl ⟨by rw [wgetB hk], Ext.refl w⟩
theorem eround2_ok (w : World) (b : Nat) {po : Option Addr} {pc : Nat} {S : List Bool} {k : Nat} (hb : Blk w b 54 [.slice po S.length pc]) (hp : Sl w (Old w) po pc S) (hk : k < S.length) :
    Rt Try.prog 101 [.int .i64 (k : Int), .pointer (some ⟨b, 0, none⟩)].toArray w fun v w' => v = .bool (S.getD k false) ∧ Ext w w' := by
  refine Rt.enter2 Try.func101 Try.ntmps101 rfl rfl ?_
  (repeat (first | (apply WL.pure; rfl; rfl; rfl) | (apply WL.nil) | (apply EX.thenN) | (apply CW.seq) | (apply CW.region) | (apply WL.ld; rfl; rfl; rfl; assumption; rfl)))
  refine WL.elemB rfl rfl rfl rfl rfl hp hk rfl (fun _ => rfl) (fun q => ?_)
  (repeat (first | (apply WL.pure; rfl; rfl; rfl) | (apply WL.nil) | (apply EX.thenN) | (apply CW.ret)))
  exact EX.ret1 rfl rfl ⟨by rw [wgetB hk], Ext.refl w⟩
theorem eround3_ok (w : World) (b : Nat) {k n : Nat} (hb : Blk w b 3 [.int .i64 (n : Int)]) :
    Rt Try.prog 102 [.int .i64 (k : Int), .pointer (some ⟨b, 0, none⟩)].toArray w fun v w' => v = .bool (decide (k = n)) ∧ Ext w w' := by
  refine Rt.enter2 Try.func102 Try.ntmps102 rfl rfl ?_
  (repeat (first | (apply WL.pure; rfl; rfl; rfl) | (apply WL.nil) | (apply EX.thenN) | (apply CW.seq) | (apply CW.region) | (apply WL.ld; rfl; rfl; rfl; assumption; rfl) | (apply CW.ret)))
  refine EX.ret1 rfl rfl ⟨?_, Ext.refl w⟩
  congr 1
  (rw [Bool.eq_iff_iff]; simp; try omega)
set_option maxHeartbeats 2000000 in
theorem eround_ok (w0 : World) {sb n : Nat} {x0 x1 x2 x3 x4 x5 x6 x7 x8 x9 x10 x12 : Value} {no po so : Option Addr} {nc pc sc : Nat} {g : List (List Int)} {part : List Int} {sets : List (List Bool)}
    (hb : Blk w0 sb 90 [x0, x1, x2, x3, x4, x5, x6, x7, x8, x9, x10, .slice no g.length nc, x12]) (hs : Sl w0 (Old w0) no nc g) (hp : Sl w0 (Old w0) po pc part) (hfs : Sl w0 (Old w0) so sc sets)
    (hg : okG g) (hpt : PartsOK g part) (hl : g.length ≤ 1228800) (hsl : ∀ S ∈ sets, S.length = g.length) (hsn : sets.length ≤ 160) (hrw0 : ∀ r ∈ g, r.length ≤ 1099511627776) (hn : n < g.length) (hgd : GoodC g part sets (part.getD n 0)) :
    Rt Try.prog 50 [.pointer (some ⟨sb, 0, none⟩), .int .i64 (n : Int), .slice po part.length pc, .slice so sets.length sc].toArray w0 fun v w' => ∃ out, Own w' w0.heap.size 3 Non v out ∧ RoOK g n sets out ∧ Ext w0 w' := by
  have hpl := hpt.len
  have hms := hfs.len63
  have hnp : n < part.length := by omega
  have h0 := hpt.ge n hnp
  have hpn : part[n] = part.getD n 0 := (wgetDI hnp).symm
  have hsb0 := hb.lt
  have hsg : sets.length * g.length ≤ 160 * 1228800 := Nat.mul_le_mul hsn hl
  refine Rt.enter4 Try.func50 Try.ntmps50 rfl rfl ?_
  (repeat (first | (apply CW.seq) | (apply CW.region)))
  refine WL.boxB rfl rfl rfl fun w1 hb5 hE1 => ?_
  have hl5 := hb5.lt
  generalize hbn : w0.heap.size = b5 at *
  (repeat (first | (apply WL.pure; rfl; rfl; rfl) | (apply WL.nil) | (apply EX.thenN) | (apply CW.seq) | (apply CW.region) | (apply WL.ld; rfl; rfl; rfl; assumption; rfl)))
  refine WL.elemI rfl rfl rfl rfl rfl (hp.at hE1) hnp hpn (fun _ => rfl) (fun q => ?_)
  generalize hcc : part.getD n 0 = c at *
  (repeat (first | (apply WL.pure; rfl; rfl; rfl) | (apply WL.nil) | (apply EX.thenN) | (apply CW.seq) | (apply CW.region) | (apply WL.ld; rfl; rfl; rfl; assumption; rfl)))
  refine WL.lit (F := Non) (ys := [(n : Int)]) rfl rfl rfl rfl rfl (.cons (Rd.mkInt _ _ _) .nil) (by show 1 * 1 ≤ 16777216; decide) (fun _ h => h.elim) (fun w2 ho2 hg2 => ?_)
  have e2 : Ext w1 w2 := (Below.refl _ _).grown hg2 (Nat.le_refl _) (fun k h => by cases h)
  generalize hov : Value.slice (some ⟨w1.heap.size, 0, none⟩) 1 1 = ov0 at *
  (repeat (first | (apply WL.pure; rfl; rfl; rfl) | (apply WL.nil) | (apply EX.thenN) | (apply CW.seq) | (apply CW.region) | (apply WL.lenS; rfl; rfl; rfl) | (apply CW.block)))
  refine CW.loop (S := Nat × List Int × Value) (fun s => [(0, .pointer (some ⟨sb, 0, none⟩)), (2, .slice po part.length pc), (5, .pointer (some ⟨b5, 0, none⟩)), (9, .int .i64 c), (10, s.2.2), (24, .slice so sets.length sc), (25, .int .i64 sets.length), (26, .int .i64 s.1)])
    (fun s w => s.1 ≤ sets.length ∧ RoI g part n (sets.take s.1) s.2.1 ∧ Own w w1.heap.size 3 Non s.2.2 s.2.1 ∧ Ext w1 w) (fun s => sets.length - s.1) (0, [(n : Int)], ov0) (by repeat (first | exact trivial | refine ⟨rfl, ?_⟩))
    ⟨Nat.zero_le _, by simpa using RoI.start (part := part) hn, ho2, e2⟩ ?_
  clear ho2 hg2 e2
  rintro ⟨i, out, ov⟩ w ⟨hi, hR, ho, e⟩
  dsimp only at hi hR ho e ⊢
  have hE := hE1.trans e
  have hRl := hR.len
  have hRn := hR.ne
  have hlt := fun g hg => ho.lt g hg
  have hbw := hb.ext hE
  have hb5w := hb5.ext e
  have htl : (sets.take i).length ≤ 160 := by rw [List.length_take]; omega
  have htg : (sets.take i).length * g.length ≤ 160 * 1228800 := Nat.mul_le_mul htl hl
  have hol : out.length ≤ 196608001 := by omega
  have hlast0 : out.getD (out.length - 1) 0 ∈ out := by rw [List.getD_eq_getElem?_getD, List.getElem?_eq_getElem (by omega)]; exact List.getElem_mem _
  have hlr := hR.rg _ hlast0
  have hlp := hR.pt _ hlast0
  obtain ⟨la, hla⟩ := Int.eq_ofNat_of_zero_le hlr.1
  rw [hla, Int.toNat_natCast, hcc] at hlp
  have hlag : la < g.length := by omega
  (repeat (first | (apply WL.pure; rfl; rfl; rfl) | (apply WL.nil) | (apply EX.thenN) | (apply CW.seq) | (apply CW.region)))
  refine CW.cond rfl (fun h => ?_) (fun h => ?_)
  · have hi' : i < sets.length := by simp at h; omega
    clear h
    have hSm := List.getElem_mem hi'
    have hSl := hsl _ hSm
    have htk : sets.take (i + 1) = sets.take i ++ [sets[i]] := List.take_succ_eq_append_getElem hi'
    (repeat (first | (apply EX.thenN) | (apply CW.seq) | (apply CW.region) | (apply CW.block) | (apply CW.skip)))
    refine WL.elemN rfl rfl rfl rfl rfl (hfs.mono (w' := w) hE.block (F' := fun b => b < b5) (fun b hb => by rw [← hbn]; exact hb)) hi' (fun _ => rfl) (fun u q hu => ?_)
    obtain ⟨Fo, Fc, rfl, hF⟩ := hu.sl
    clear hu
    generalize sets[i] = S at *
    skip
    refine WL.alloc rfl rfl (fun w3 hb8 e3 => ?_)
    skip
    refine WL.st rfl rfl rfl hb8 rfl rfl (ones_of rfl) (fun w4 hb8 hg4 => ?_)
    have e4 : Ext w w4 := e3.grown hg4 e3.size (fun g hg => by cases hg; exact Nat.le_refl _)
    have hE4 := hE.trans e4
    have ho4 := ho.extN e4
    have hz4 := hE4.size
    have hF4 : ∀ {x : World}, Ext w4 x → Sl x (Old x) Fo Fc S := fun {x} hx => hF.mono (fun b hb => ((hE4.trans hx).block b (by rw [hbn]; exact hb)).trans (hE.block b (by rw [hbn]; exact hb)).symm) (fun b hb => by have := (hE4.trans hx).size; exact (show b < x.heap.size by omega))
    obtain ⟨oo, oc, rfl, hos⟩ := ho4.oldN.sl
    (repeat (first | (apply WL.pure; rfl; rfl; rfl) | (apply WL.nil) | (apply EX.thenN) | (apply CW.seq) | (apply CW.region) | (apply WL.makeFunc; rfl; rfl; rfl; rfl)))
    refine WL.call rfl rfl rfl (containsFunc_int w4 (fun x => S.getD x.toNat false) hos (fun w5 hw j hj => ?_)) ?_
    · have hto := hR.rg _ (List.getElem_mem hj)
      obtain ⟨to, eto⟩ := Int.eq_ofNat_of_zero_le hto.1
      rw [eto, Int.toNat_natCast]
      exact FnV.mk (cs := [_]) (eround1_ok w5 _ (hb8.ext hw) (hF4 hw) (by omega))
    rintro _ w5 ⟨rfl, e5⟩
    have e45 := e4.trans e5
    have hE5 := hE.trans e45
    have e15 := e.trans e45
    have ho5 := ho4.extN e5
    (repeat (first | (apply WL.nil) | (apply EX.thenN)))
    refine CW.cond rfl (fun h2 => ?_) (fun h2 => ?_)
    · (repeat (first | (apply WL.add; rfl; rfl; rfl; rfl; omega; omega) | (apply WL.pure; rfl; rfl; rfl) | (apply WL.nil) | (apply EX.thenN) | (apply CW.region) | (apply CW.exit) | (apply EX.thenX) | (apply EX.inX)))
      refine EX.back (i + 1, out, .slice oo out.length oc) (by repeat (first | exact trivial | refine ⟨rfl, ?_⟩)) ⟨hi', ?_, ho5, e15⟩ (by dsimp only; omega)
      dsimp only
      rw [htk]
      rw [List.any_eq_true] at h2
      exact hR.skip h2
    · have hdl := drop_last1 hRn
      (repeat (first | (apply WL.sub'; rfl; rfl; rfl; rfl; omega; omega) | (apply WL.pure; rfl; rfl; rfl) | (apply EX.thenN) | (apply CW.seq) | (apply CW.region) | (apply WL.lenS; rfl; rfl; rfl) | (apply CW.skip)))
      refine WL.cutLoO (α := Int) (out.length - 1) (by omega) rfl rfl rfl rfl ho5 (by omega) (fun tv2 ho2 hob => ?_)
      rw [hdl] at ho2
      obtain ⟨fo, fc, rfl, hfr⟩ := ho2.oldN.sl
      have hfin := hgd.2 S hSm
      obtain ⟨x, hx, hxs, hxp⟩ := hfin
      (repeat (first | (apply WL.pure; rfl; rfl; rfl) | (apply WL.makeFunc; rfl; rfl; rfl; rfl)))
      refine WL.call rfl rfl rfl (eway_ok w5 (fr := [out.getD (out.length - 1) 0]) (to := fun k => S.getD k false) (hb.ext hE5) (hs.up hE5) hfr (hp.up hE5) hg (fun y hy => by rw [List.mem_singleton] at hy; subst hy; exact hlr) hpl hl (fun z hz k hk => FnV.mk (cs := [_]) (eround2_ok z _ ((hb8.ext e5).ext hz) (hF4 (e5.trans hz)) (by omega)))) ?_
      rintro v6 w6 ⟨r, hor, hw, e6⟩
      have hw : WyOK g [out.getD (out.length - 1) 0] (fun k => S.getD k false) (alB part c) r := by
        rcases hw with ⟨_, hw⟩ | hw
        · exact absurd hw (way_inPart hg hpt h0 hlag hx hlp hxp (by rw [hla]; simp) hxs)
        · exact hw
      have hrl := hw.len
      have hrn := hw.ne
      have hR' := hR.go (S := S) (l := r) (by rw [hcc]; exact h0) (by rw [hcc]; exact hw)
      have ho6 := ho5.extN e6
      have hz5 := e15.size
      (repeat (first | (apply WL.pure; rfl; rfl; rfl) | (apply WL.nil) | (apply EX.thenN) | (apply CW.region)))
      refine WL.cutLoO (α := Int) 1 rfl rfl rfl rfl rfl hor (by omega) (fun v7 ho7 hob7 => ?_)
      obtain ⟨ro, rc, rfl, hrs⟩ := ho7.oldN.sl
      skip
      refine WL.app (F := Non) rfl rfl rfl rfl ho6 hrs.srcN (by have := (e15.trans e6).size; omega) (fun _ h => h.elim) (by unfold maxLen; rw [List.length_drop]; omega) (by rw [List.length_drop]; omega) (fun v8 w8 ho8 hg8 hnb8 => ?_)
      have e8 : Ext w1 w8 := (e15.trans e6).grown hg8 (e15.trans e6).size (fun b hb => (ho6.lt b hb).1)
      (repeat (first | (apply WL.add; rfl; rfl; rfl; rfl; omega; omega) | (apply WL.pure; rfl; rfl; rfl) | (apply WL.nil) | (apply EX.thenN) | (apply CW.region) | (apply EX.inN)))
      exact EX.back (i + 1, out ++ r.drop 1, v8) (by repeat (first | exact trivial | refine ⟨rfl, ?_⟩)) ⟨hi', by dsimp only; rw [htk]; exact hR', ho8, e8⟩ (by dsimp only; omega)
  obtain rfl : i = sets.length := by simp at h; omega
  rw [List.take_length] at hR
  clear h hi htl htg
  obtain ⟨oo, oc, rfl, hos⟩ := ho.oldN.sl
  have hrow : g.getD la [] = g[la] := wgetDG hlag
  (repeat (first | (apply QL.sub'; rfl; rfl; rfl; rfl; omega; omega) | (apply WL.pure; rfl; rfl; rfl) | (apply QL.pure; rfl; rfl; rfl) | (apply WL.nil) | (apply EX.thenN) | (apply CW.seq) | (apply CW.region) | (apply QL.lenS; rfl; rfl; rfl) | (apply QL.fa; rfl; rfl; rfl) | (apply QL.nck; rfl; rfl; rfl) | (apply QL.ld; rfl; rfl; rfl; assumption; rfl) | (apply CW.exit) | (apply EX.thenX) | (apply EX.inX) | (apply CW.draw; exact mixed; kernel_rfl)))
  have holl : out.length - 1 < out.length := by omega
  have hlael : out[out.length - 1] = (la : Int) := by rw [← hla, wgetDI holl]
  rw [show ((out.length : Nat) : Int) - 1 = ((out.length - 1 : Nat) : Int) by omega]
  refine QL.elemI rfl rfl rfl rfl rfl (fun _ h => h) hos holl hlael (fun _ => rfl) (fun q => ?_)
  skip
  refine QL.elemN rfl rfl rfl rfl rfl (fun b hb => by have := hE.size; omega) (hs.mono (w' := w) hE.block (F' := fun b => b < b5) (fun b hb => by rw [← hbn]; exact hb)) hlag (fun _ => rfl) (fun u q hu => ?_)
  obtain ⟨ro, rc, rfl, hrs⟩ := hu.sl
  clear hu
  have hrr : okL g.length g[la] := hg _ (List.getElem_mem hlag)
  have hrwl := hrw0 _ (List.getElem_mem hlag)
  generalize hrw : g[la] = row at *
  have hrl := hrs.len63
  (repeat (first | (apply QL.pure; rfl; rfl; rfl) | (apply QL.lenS; rfl; rfl; rfl)))
  refine QL.nil (fun w2 e2 => ?_)
  have e12 := e.trans e2
  have hE2 := hE.trans e2
  have ho2 := ho.extN e2
  have hz2 := hE2.size
  (repeat (first | (apply EX.thenN) | (apply CW.block)))
  refine CW.loop (S := Nat × List Int × Value) (fun s => [(0, .pointer (some ⟨sb, 0, none⟩)), (2, .slice po part.length pc), (5, .pointer (some ⟨b5, 0, none⟩)), (9, .int .i64 c), (10, .slice oo out.length oc), (14, s.2.2), (59, .slice ro row.length rc), (60, .int .i64 row.length), (61, .int .i64 s.1)])
    (fun s w => s.1 ≤ row.length ∧ s.2.1 = (row.take s.1).filter (fun k => decide (part.getD k.toNat 0 = c)) ∧ Own w w2.heap.size 3 Non s.2.2 s.2.1 ∧ Ext w2 w) (fun s => row.length - s.1) (0, [], .slice none 0 0) (by repeat (first | exact trivial | refine ⟨rfl, ?_⟩))
    ⟨Nat.zero_le _, by simp, Own.nil, Ext.refl _⟩ ?_
  rintro ⟨j, th, tv⟩ w3 ⟨hj, hth, ht, e3⟩
  dsimp only at hj hth ht e3 ⊢
  have hE3 := hE2.trans e3
  have hthl : th.length ≤ j := by
    rw [hth]
    exact Nat.le_trans (List.length_filter_le _ _) (by rw [List.length_take]; omega)
  (repeat (first | (apply WL.pure; rfl; rfl; rfl) | (apply WL.nil) | (apply EX.thenN) | (apply CW.seq) | (apply CW.region)))
  refine CW.cond rfl (fun h => ?_) (fun h => ?_)
  · have hj' : j < row.length := by simp at h; omega
    clear h
    have hkr := hrr _ (List.getElem_mem hj')
    have htk : row.take (j + 1) = row.take j ++ [row[j]] := List.take_succ_eq_append_getElem hj'
    (repeat (first | (apply EX.thenN) | (apply CW.seq) | (apply CW.region) | (apply CW.block) | (apply CW.skip)))
    refine WL.elemI rfl rfl rfl rfl rfl (hrs.mono (w' := w3) (fun b hb => (hE3.block b (by rw [hbn]; exact hb)).trans (hE.block b (by rw [hbn]; exact hb)).symm) (F' := fun b => b < b5) (fun _ h => h)) hj' rfl (fun _ => rfl) (fun q => ?_)
    generalize row[j] = k at *
    obtain ⟨kn, rfl⟩ := Int.eq_ofNat_of_zero_le hkr.1
    have hkp : kn < part.length := by omega
    have hpk : part.getD kn 0 = part[kn] := wgetDI hkp
    (repeat (first | (apply WL.pure; rfl; rfl; rfl) | (apply WL.nil) | (apply EX.thenN) | (apply CW.seq) | (apply CW.region)))
    refine WL.elemI rfl rfl rfl rfl rfl (hp.at hE3) hkp rfl (fun _ => rfl) (fun q => ?_)
    (repeat (first | (apply WL.pure; rfl; rfl; rfl) | (apply WL.nil) | (apply EX.thenN)))
    refine CW.cond rfl (fun h2 => ?_) (fun h2 => ?_)
    · have h2 : part[kn] = c := by simpa using h2
      (repeat (first | (apply WL.pure; rfl; rfl; rfl) | (apply CW.region)))
      refine WL.app1 (F := Non) (yv := (kn : Int)) rfl rfl (fun _ => rfl) rfl rfl (fun _ => rfl) ht (Rd.mkInt _ _ _) e3.size (fun _ h => h.elim) (by decide) (by unfold maxLen; omega) (by omega) (fun tv' w4 p ho4 hg4 hnb4 => ?_)
      (repeat (first | (apply WL.add; rfl; rfl; rfl; rfl; omega; omega) | (apply WL.pure; rfl; rfl; rfl) | (apply WL.nil) | (apply EX.thenN) | (apply CW.region) | (apply EX.inN)))
      refine EX.back (j + 1, th ++ [(kn : Int)], tv') (by repeat (first | exact trivial | refine ⟨rfl, ?_⟩)) ⟨hj', ?_, ho4, e3.grown hg4 e3.size (fun g hg => (ht.lt g hg).1)⟩ (by dsimp only; omega)
      dsimp only
      rw [htk, List.filter_append, ← hth, List.filter_cons, List.filter_nil, Int.toNat_natCast, hpk, decide_eq_true h2, if_pos rfl]
    · have h2 : ¬ part[kn] = c := by simpa using h2
      (repeat (first | (apply WL.add; rfl; rfl; rfl; rfl; omega; omega) | (apply WL.pure; rfl; rfl; rfl) | (apply WL.nil) | (apply EX.thenN) | (apply CW.region) | (apply EX.inN) | (apply CW.skip)))
      refine EX.back (j + 1, th, tv) (by repeat (first | exact trivial | refine ⟨rfl, ?_⟩)) ⟨hj', ?_, ht, e3⟩ (by dsimp only; omega)
      dsimp only
      rw [htk, List.filter_append, ← hth, List.filter_cons, List.filter_nil, Int.toNat_natCast, hpk, decide_eq_false h2, if_neg (by decide), List.append_nil]
  obtain rfl : j = row.length := by simp at h; omega
  rw [List.take_length] at hth
  clear h hj hthl
  have hmem : ∀ x ∈ th, x ∈ row := fun x hx => by rw [hth] at hx; exact (List.mem_filter.1 hx).1
  obtain ⟨tt, tc, rfl, hts⟩ := ht.oldN.sl
  have ho3 := ho2.extN e3
  obtain ⟨u, hu, hue, hup⟩ := good_next hg hpt hlag (sets := sets) (by rw [hlp]; exact hgd)
  rw [hrow] at hue
  have hut : (u : Int) ∈ th := by rw [hth]; exact List.mem_filter.2 ⟨hue, decide_eq_true (by rw [Int.toNat_natCast, hup, hlp])⟩
  have hb53 := hb5w.ext (e2.trans e3)
  (repeat (first | (apply WL.pure; rfl; rfl; rfl) | (apply EX.thenN) | (apply CW.seq) | (apply CW.region) | (apply WL.makeFunc; rfl; rfl; rfl; rfl) | (apply CW.exit) | (apply EX.thenX) | (apply EX.inX)))
  refine WL.call rfl rfl rfl (eway_ok w3 (fr := th) (to := fun k => decide (k = n)) (hb.ext hE3) (hs.up hE3) hts (hp.up hE3) hg (fun y hy => hrr y (hmem y hy)) hpl hl (fun z hz k hk => FnV.mk (cs := [_]) (eround3_ok z _ (hb53.ext hz)))) ?_
  rintro v6 w6 ⟨r, hor, hw, e6⟩
  have hw : WyOK g th (fun k => decide (k = n)) (alB part c) r := by
    rcases hw with ⟨_, hw⟩ | hw
    · exact absurd hw (way_inPart hg hpt h0 hu hn (by rw [hup, hlp]) hcc hut (by simp))
    · exact hw
  have hrl2 := hw.len
  have hrn := hw.ne
  have hRO := hR.close (l := r) (fr := th) (by rw [hla, Int.toNat_natCast, hrow]; exact hmem) hw
  have ho6 := ho3.extN e6
  have e16 := (e12.trans e3).trans e6
  (repeat (first | (apply WL.sub'; rfl; rfl; rfl; rfl; omega; omega) | (apply WL.pure; rfl; rfl; rfl) | (apply WL.nil) | (apply EX.thenN) | (apply CW.seq) | (apply CW.region) | (refine WL.lenO rfl rfl rfl (by assumption) ?_)))
  refine WL.cutHiO (α := Int) (r.length - 1) (by omega) rfl rfl rfl rfl hor (by omega) (fun v7 ho7 hob7 => ?_)
  obtain ⟨ro7, rc7, rfl, hrs7⟩ := ho7.oldN.sl
  skip
  refine WL.app (F := Non) rfl rfl rfl rfl ho6 hrs7.srcN e16.size (fun _ h => h.elim) (by unfold maxLen; rw [List.length_take]; omega) (by rw [List.length_take]; omega) (fun v8 w8 ho8 hg8 hnb8 => ?_)
  have e8 : Ext w1 w8 := e16.grown hg8 e16.size (fun b hb => (ho6.lt b hb).1)
  (repeat (first | (apply WL.pure; rfl; rfl; rfl) | (apply WL.nil) | (apply EX.thenN) | (apply CW.ret)))
  exact EX.ret1 rfl rfl ⟨_, ho8.low (by have := hE1.size; omega), hRO, hE1.trans e8⟩
/-- states along pairs -/
theorem estates_ok (w0 : World) {sb : Nat} {x0 x1 x2 x3 x4 x5 x6 x7 x8 x9 x11 x12 : Value} {lo ao : Option Addr} {lc ac : Nat} {ps : List Pr2} {l : List Int}
    (hb : Blk w0 sb 90 [x0, x1, x2, x3, x4, x5, x6, x7, x8, x9, .slice lo ps.length lc, x11, x12]) (hlo : Sl w0 (Old w0) lo lc ps) (hs : Sl w0 (Old w0) ao ac l) (hl : okL ps.length l) (hll : l.length ≤ 1099511627776) :
    Rt Try.prog 51 [.pointer (some ⟨sb, 0, none⟩), .slice ao l.length ac].toArray w0 fun v w' => Own w' w0.heap.size 3 Non v (l.map fun n => (ps.getD n.toNat (0, 0)).1) ∧ Ext w0 w' := by
  refine Rt.enter2 Try.func51 Try.ntmps51 rfl rfl ?_
  (repeat (first | (apply WL.pure; rfl; rfl; rfl) | (apply WL.nil) | (apply EX.thenN) | (apply CW.seq) | (apply CW.region) | (apply WL.lenS; rfl; rfl; rfl) | (apply CW.block)))
  refine CW.loop (S := Nat × Value) (fun s => [(0, .pointer (some ⟨sb, 0, none⟩)), (5, s.2), (8, .slice ao l.length ac), (9, .int .i64 l.length), (10, .int .i64 s.1)])
    (fun s w => s.1 ≤ l.length ∧ Own w w0.heap.size 3 Non s.2 ((l.take s.1).map fun n => (ps.getD n.toNat (0, 0)).1) ∧ Ext w0 w) (fun s => l.length - s.1) (0, .slice none 0 0) (by repeat (first | exact trivial | refine ⟨rfl, ?_⟩)) ⟨Nat.zero_le _, Own.nil, Ext.refl _⟩ ?_
  rintro ⟨i, ov⟩ w ⟨hi, ho, hE⟩
  dsimp only at hi ho hE ⊢
  have hbw := hb.ext hE
  (repeat (first | (apply WL.pure; rfl; rfl; rfl) | (apply WL.nil) | (apply EX.thenN) | (apply CW.seq) | (apply CW.region)))
  refine CW.cond rfl (fun h => ?_) (fun h => ?_)
  · have hi' : i < l.length := by simp at h; omega
    have hxr := hl _ (List.getElem_mem hi')
    have htk : (l.take (i + 1)).map (fun n => (ps.getD n.toNat (0, 0)).1) = (l.take i).map (fun n => (ps.getD n.toNat (0, 0)).1) ++ [(ps.getD l[i].toNat (0, 0)).1] := by
      rw [List.take_succ_eq_append_getElem hi', List.map_append]; rfl
    have htl : (List.map (fun n : Int => (ps.getD n.toNat (0, 0)).1) (l.take i)).length = i := by rw [List.length_map, List.length_take]; omega
    (repeat (first | (apply EX.thenN) | (apply CW.seq) | (apply CW.region) | (apply CW.block) | (apply CW.skip)))
    refine WL.elemI rfl rfl rfl rfl rfl (hs.up hE) hi' rfl (fun _ => rfl) (fun q => ?_)
    generalize l[i] = x at *
    obtain ⟨k, rfl⟩ := Int.eq_ofNat_of_zero_le hxr.1
    rw [Int.toNat_natCast] at htk
    have hk : k < ps.length := by omega
    have hpg : ps.getD k (0, 0) = ps[k] := by rw [List.getD_eq_getElem?_getD, List.getElem?_eq_getElem hk]; rfl
    rw [hpg] at htk
    obtain ⟨b, off, rfl, hFb, hc1, _⟩ := (hlo.up hE).pairAt k hk
    (repeat (first | (apply WL.pure; rfl; rfl; rfl) | (apply WL.nil) | (apply EX.thenN) | (apply CW.region) | (apply WL.fa; rfl; rfl; rfl) | (apply WL.nck; rfl; rfl; rfl) | (apply WL.ld; rfl; rfl; rfl; assumption; rfl)))
    refine WL.idx (α := Pr2) rfl rfl rfl rfl (by omega) (by omega) ?_
    refine WL.fa rfl rfl rfl ?_
    refine WL.load (α := Int) (F := Non) rfl rfl rfl hc1 rfl ?_
    refine WL.app1 (F := Non) (yv := ps[k].1) rfl rfl (fun _ => rfl) rfl rfl (fun _ => rfl) ho (Rd.mkInt _ _ _) hE.size (fun _ h => h.elim) (by decide) (by unfold maxLen; omega) (by omega) (fun tv' w4 p ho4 hg4 hnb4 => ?_)
    (repeat (first | (apply WL.add; rfl; rfl; rfl; rfl; omega; omega) | (apply WL.pure; rfl; rfl; rfl) | (apply WL.nil) | (apply EX.thenN) | (apply CW.region) | (apply EX.inN)))
    refine EX.back (i + 1, tv') (by repeat (first | exact trivial | refine ⟨rfl, ?_⟩)) ⟨hi', ?_, hE.grown hg4 hE.size (fun g hg => (ho.lt g hg).1)⟩ (by dsimp only; omega)
    dsimp only
    rw [htk]
    exact ho4
  · obtain rfl : i = l.length := by simp at h; omega
    rw [List.take_length] at ho
    (repeat (first | (apply WL.pure; rfl; rfl; rfl) | (apply WL.nil) | (apply EX.thenN) | (apply CW.seq) | (apply CW.region) | (apply CW.exit) | (apply EX.thenX) | (apply EX.inX) | (apply CW.ret)))
    exact EX.ret1 rfl rfl ⟨ho, hE⟩
end Go.Proofs.Ytllpfgcngokhnaa

/-
  Drawn regions whose operations, whatever the order, only make new memory: walked in the order of the text. What is known of each value lasts. Over any program.
-/
set_option linter.unusedVariables false
set_option linter.unusedSimpArgs false
namespace Go.Proofs.Ytllpfgcngokhnaa
open Go.RowKit

/-- what is known of an operation that has been walked: its number, its slot; its value, or a fact of it (of the value, of who made which block, of the world) -/
inductive ME where
  | kn (i d : Nat) (v : Value)
  | fc (i d : Nat) (Φ : Value → (Nat → Nat) → World → Prop)
def ME.i : ME → Nat | .kn i _ _ => i | .fc i _ _ => i
def ME.d : ME → Nat | .kn _ d _ => d | .fc _ d _ => d
def ME.Φ : ME → Value → (Nat → Nat) → World → Prop | .kn _ _ v => fun u _ _ => u = v | .fc _ _ Φ => Φ
def StM (Φ : Value → (Nat → Nat) → World → Prop) : Prop := ∀ v γ γ' w w', Φ v γ w → Ext w w' → (∀ b, b < w.heap.size → γ' b = γ b) → Φ v γ' w'
def ME.ok (m : ME) : Prop := StM m.Φ
/-- the new blocks are i's -/
def byM (γ : Nat → Nat) (w : World) (i : Nat) : Nat → Nat := fun b => if b < w.heap.size then γ b else i
abbrev Ctx := List ME
def findM : Ctx → Nat → Option ME
  | [], _ => none
  | m :: r, j => match Nat.beq m.i j with | true => some m | false => findM r j
theorem findM_mem : ∀ {Γ : Ctx} {j : Nat} {m : ME}, findM Γ j = some m → m ∈ Γ ∧ m.i = j
  | [], _, _, h => by cases h
  | x :: r, j, m, h => by
    unfold findM at h
    split at h
    · rename_i e
      injection h with h
      subst h
      exact ⟨by simp, Nat.eq_of_beq_eq_true e⟩
    · obtain ⟨h1, h2⟩ := findM_mem h
      exact ⟨by simp [h1], h2⟩
def elN (j : Nat) : List Nat → Bool
  | [] => false
  | x :: r => match Nat.beq x j with | true => true | false => elN j r
/-- the edges that an operation waits for, each once -/
def onsL : List Edge → List Nat
  | [] => []
  | e :: r => match Region.binds .any e with
    | true => (match elN e.on (onsL r) with | true => onsL r | false => e.on :: onsL r)
    | false => onsL r
def ons (o : Oper) : List Nat := onsL o.after.toList
theorem onsL_mem {j : Nat} : ∀ {l : List Edge}, j ∈ onsL l → ∃ e ∈ l, Region.binds .any e = true ∧ e.on = j
  | [], h => by cases h
  | e :: r, h => by
    have up : j ∈ onsL r → ∃ e' ∈ e :: r, Region.binds .any e' = true ∧ e'.on = j := fun h => by
      obtain ⟨e', h1, h2⟩ := onsL_mem h; exact ⟨e', by simp [h1], h2⟩
    unfold onsL at h
    split at h
    · rename_i hb
      split at h
      · exact up h
      · rcases List.mem_cons.1 h with rfl | h
        · exact ⟨e, by simp, hb, rfl⟩
        · exact up h
    · exact up h
theorem ons_mem {o : Oper} {j : Nat} (h : j ∈ ons o) : ∃ e ∈ o.after, Region.binds .any e = true ∧ e.on = j := by
  obtain ⟨e, h1, h2⟩ := onsL_mem h
  exact ⟨e, by simpa using h1, h2⟩
/-- the slots that an operation finds: those of values that are known -/
def kS (Γ : Ctx) (σ : Sg) : List Nat → Sg
  | [] => σ
  | j :: r => match findM Γ j with | some (.kn _ d v) => (d, v) :: kS Γ σ r | _ => kS Γ σ r
/-- .. and of facts -/
def needK (Γ : Ctx) (γ : Nat → Nat) (w : World) (k : Sg → Prop) : List Nat → Sg → Prop
  | [], σ => k σ
  | j :: r, σ => match findM Γ j with
    | some (.kn _ d v) => needK Γ γ w k r ((d, v) :: σ)
    | some (.fc _ d Φ) => ∀ v, Φ v γ w → needK Γ γ w k r ((d, v) :: σ)
    | none => needK Γ γ w k r σ
theorem fr_cons {n : Nat} {σ : Sg} {a : Act} {d : Nat} {v : Value} (h : Fr n σ a) (hv : a.tmps.getD d undef = v) : Fr n ((d, v) :: σ) a := by
  refine ⟨h.size, h.defers, fun t u hu => ?_⟩
  by_cases e : d = t
  · subst e; rw [fnd_cons_eq] at hu; cases hu; exact hv
  · rw [fnd_cons_ne e] at hu; exact h.slot _ _ hu
theorem kS_fr {Γ : Ctx} {n : Nat} {σ : Sg} {a : Act} {γ : Nat → Nat} {w : World} (ha : Fr n σ a) : ∀ (l : List Nat), (∀ j ∈ l, ∀ m ∈ Γ, m.i = j → m.Φ (a.tmps.getD m.d undef) γ w) → Fr n (kS Γ σ l) a
  | [], _ => ha
  | j :: r, h => by
    have ih := kS_fr (γ := γ) (w := w) ha r (fun x hx => h x (by simp [hx]))
    unfold kS
    split
    · rename_i i d v hf
      obtain ⟨h1, h2⟩ := findM_mem hf
      exact fr_cons ih (h j (by simp) _ h1 h2)
    · exact ih
theorem needK_fr {Γ : Ctx} {n : Nat} {a : Act} {γ : Nat → Nat} {w : World} {k : Sg → Prop} : ∀ (l : List Nat) (σ : Sg), needK Γ γ w k l σ → Fr n σ a → (∀ j ∈ l, ∀ m ∈ Γ, m.i = j → m.Φ (a.tmps.getD m.d undef) γ w) → ∃ τ, Fr n τ a ∧ k τ
  | [], σ, h, ha, _ => ⟨σ, ha, h⟩
  | j :: r, σ, h, ha, hΦ => by
    unfold needK at h
    have hr : ∀ x ∈ r, ∀ m ∈ Γ, m.i = x → m.Φ (a.tmps.getD m.d undef) γ w := fun x hx => hΦ x (by simp [hx])
    split at h
    · rename_i i d v hf
      obtain ⟨h1, h2⟩ := findM_mem hf
      exact needK_fr r _ h (fr_cons ha (hΦ j (by simp) _ h1 h2)) hr
    · rename_i i d Φ hf
      obtain ⟨h1, h2⟩ := findM_mem hf
      exact needK_fr r _ (h _ (hΦ j (by simp) _ h1 h2)) (fr_cons ha rfl) hr
    · exact needK_fr r _ h ha hr
/-- behind one operation -/
def AftM (γ : Nat → Nat) (w : World) (i d : Nat) (Φ : Value → (Nat → Nat) → World → Prop) : Exit → Act → World → Prop :=
  fun x a w' => x = .normal ∧ a.defers = [] ∧ Ext w w' ∧ Φ (a.tmps.getD d undef) (byM γ w i) w'
/-- what one operation does, wherever it comes; or it isn't wanted -/
def OB (P : Program) (L : List Oper) (w0 : World) (n : Nat) (σ : Sg) (Γ : Ctx) (o : Oper) (i d : Nat) (Φ : Value → (Nat → Nat) → World → Prop) : Prop :=
  ∀ w γ, Ext w0 w → ∀ a, Fr n σ a → (∀ j ∈ ons o, ∀ m ∈ Γ, m.i = j → m.Φ (a.tmps.getD m.d undef) γ w) →
    (Region.wanted o (yielded L.toArray a.tmps) = true ∧ o.wp P a w (fun a' w' => Ext w w' ∧ ∃ v, a' = a.put (some d) v ∧ Φ v (byM γ w i) w') Never) ∨ (Region.wanted o (yielded L.toArray a.tmps) = false ∧ Φ undef (byM γ w i) w)
/-- the walk -/
def ML (P : Program) (L : List Oper) (w0 : World) (n : Nat) (σ : Sg) (K : Ctx → Prop) : Nat → Ctx → List Oper → Prop
  | _, Γ, [] => K Γ
  | i, Γ, o :: r => ∃ m : ME, m.i = i ∧ o.dst = some m.d ∧ Nat.ble (m.d + 1) n = true ∧ fnd σ m.d = none ∧ m.ok ∧ OB P L w0 n σ Γ o i m.d m.Φ ∧ ML P L w0 n σ K (i + 1) (m :: Γ) r
theorem aft_wp {P : Program} {o : Oper} {i d n : Nat} {L : List Oper} {γ : Nat → Nat} {Φ : Value → (Nat → Nat) → World → Prop} {a : Act} {w : World} {τ : Sg} (hd : o.dst = some d) (hn : Nat.ble (d + 1) n = true) (ha : Fr n τ a) (hw : Region.wanted o (yielded L.toArray a.tmps) = true) (h : WL P L (AftM γ w i d Φ) [o] n τ w) :
    o.wp P a w (fun a' w' => Ext w w' ∧ ∃ v, a' = a.put (some d) v ∧ Φ v (byM γ w i) w') Never := by
  unfold WL at h
  have h2 := h a ha
  simp only [wpList, hw, if_true] at h2
  have hlt : d < n := Nat.le_of_ble_eq_true hn
  have hget : ∀ v, (a.put (some d) v).tmps.getD d undef = v := by
    intro v
    simp [Act.put, Array.getD, ha.size, hlt]
  rcases h2 with h2 | ⟨_, hl⟩
  · unfold Oper.wp at *
    obtain ⟨dst, op, ty, pos, af, g⟩ := o
    simp only at hd
    subst hd
    generalize (execOp a.eval _).run P w = r at *
    cases r with
    | ok k w' =>
      cases k <;> simp only [Oper.upon] at h2 ⊢ <;> first
        | exact ⟨h2.2.2.1, _, rfl, by have := h2.2.2.2; rw [hget] at this; exact this⟩
        | (exfalso; have := h2.2.1; simp [Act.put] at this; done)
        | (refine Calls.mono h2 (fun x w'' he => ?_)
           cases x
           · exact ⟨he.2.2.1, _, rfl, by have := he.2.2.2; rw [hget] at this; exact this⟩
           · exact absurd he.1 (by simp)
           · obtain ⟨_, _, hx⟩ := he; exact absurd hx.1 (by simp))
        | exact Rows.mono h2 (fun v w'' he => ⟨he.2.2.1, _, rfl, by have := he.2.2.2; rw [hget] at this; exact this⟩)
        | exact h2
    | halt x w' => cases x <;> simp only [Oper.upon] at h2 ⊢ <;> first | exact h2 | exact absurd h2.1 (by simp)
  · obtain ⟨_, _, hx⟩ := hl
    exact absurd hx.1 (by simp)
section
variable {P : Program} {L : List Oper} {w0 : World} {n : Nat} {σ : Sg} {K : Ctx → Prop} {i d : Nat} {Γ : Ctx} {r : List Oper} {op : Op} {ty : TypeId} {pos : String} {af : Array Edge} {g : Option (Nat × Bool)}
/-- an operation whose value is known, by the rule for its like -/
theorem ML.q {v : Value} (hg : gd L (kS Γ σ (onsL af.toList)) ⟨some d, op, ty, pos, af, g⟩ = some true) (hn : Nat.ble (d + 1) n = true) (hf : fnd σ d = none)
    (h : ∀ γ w, Ext w0 w → WL P L (AftM γ w i d (fun u _ _ => u = v)) [⟨some d, op, ty, pos, af, g⟩] n (kS Γ σ (onsL af.toList)) w) (hr : ML P L w0 n σ K (i + 1) (.kn i d v :: Γ) r) :
    ML P L w0 n σ K i Γ (⟨some d, op, ty, pos, af, g⟩ :: r) := by
  refine ⟨.kn i d v, rfl, rfl, hn, hf, fun u _ _ w w' h _ _ => h, fun w γ hw a ha hΦ => .inl ?_, hr⟩
  have hk : Fr n (kS Γ σ (onsL af.toList)) a := kS_fr ha _ hΦ
  have hwa := gd_wanted hk hg
  exact ⟨hwa, aft_wp rfl hn hk hwa (h γ w hw)⟩
/-- one that isn't wanted -/
theorem ML.pass (hg : gd L (kS Γ σ (onsL af.toList)) ⟨some d, op, ty, pos, af, g⟩ = some false) (hn : Nat.ble (d + 1) n = true) (hf : fnd σ d = none)
    (hr : ML P L w0 n σ K (i + 1) (.kn i d undef :: Γ) r) : ML P L w0 n σ K i Γ (⟨some d, op, ty, pos, af, g⟩ :: r) := by
  refine ⟨.kn i d undef, rfl, rfl, hn, hf, fun u _ _ w w' h _ _ => h, fun w γ hw a ha hΦ => .inr ?_, hr⟩
  have hk : Fr n (kS Γ σ (onsL af.toList)) a := kS_fr ha _ hΦ
  exact ⟨gd_wanted hk hg, rfl⟩
/-- one of whose value a fact is known -/
theorem ML.fc (Φ : Value → (Nat → Nat) → World → Prop) (hg : gd L (kS Γ σ (onsL af.toList)) ⟨some d, op, ty, pos, af, g⟩ = some true) (hn : Nat.ble (d + 1) n = true) (hf : fnd σ d = none) (hs : StM Φ)
    (h : ∀ γ w, Ext w0 w → needK Γ γ w (fun τ => WL P L (AftM γ w i d Φ) [⟨some d, op, ty, pos, af, g⟩] n τ w) (onsL af.toList) σ) (hr : ML P L w0 n σ K (i + 1) (.fc i d Φ :: Γ) r) :
    ML P L w0 n σ K i Γ (⟨some d, op, ty, pos, af, g⟩ :: r) := by
  refine ⟨.fc i d Φ, rfl, rfl, hn, hf, hs, fun w γ hw a ha hΦ => .inl ?_, hr⟩
  have hk : Fr n (kS Γ σ (onsL af.toList)) a := kS_fr ha _ hΦ
  have hwa := gd_wanted hk hg
  obtain ⟨τ, hτ, hW⟩ := needK_fr _ _ (h γ w hw) ha hΦ
  exact ⟨hwa, aft_wp rfl hn hτ hwa hW⟩
/-- the same, its value known, facts looked at -/
theorem ML.kc {v : Value} (hg : gd L (kS Γ σ (onsL af.toList)) ⟨some d, op, ty, pos, af, g⟩ = some true) (hn : Nat.ble (d + 1) n = true) (hf : fnd σ d = none)
    (h : ∀ γ w, Ext w0 w → needK Γ γ w (fun τ => WL P L (AftM γ w i d (fun u _ _ => u = v)) [⟨some d, op, ty, pos, af, g⟩] n τ w) (onsL af.toList) σ) (hr : ML P L w0 n σ K (i + 1) (.kn i d v :: Γ) r) :
    ML P L w0 n σ K i Γ (⟨some d, op, ty, pos, af, g⟩ :: r) := by
  refine ⟨.kn i d v, rfl, rfl, hn, hf, fun u _ _ w w' h _ _ => h, fun w γ hw a ha hΦ => .inl ?_, hr⟩
  have hk : Fr n (kS Γ σ (onsL af.toList)) a := kS_fr ha _ hΦ
  have hwa := gd_wanted hk hg
  obtain ⟨τ, hτ, hW⟩ := needK_fr _ _ (h γ w hw) ha hΦ
  exact ⟨hwa, aft_wp rfl hn hτ hwa hW⟩
end
/- THE ORDERS -/
/-- all that must come ahead, by marks -/
def mark (L : List Oper) : Nat → List Bool → List Bool
  | 0, m => m
  | i + 1, m => match m.getD i false, L[i]? with
    | true, some o => mark L i ((ons o).foldl (fun m j => m.set j true) m)
    | _, _ => mark L i m
theorem mark_sound {L : List Oper} {S : Nat → Prop} (hS : ∀ i o, S i → L[i]? = some o → ∀ j ∈ ons o, S j) : ∀ (i : Nat) (m : List Bool), (∀ x, m.getD x false = true → S x) → ∀ x, (mark L i m).getD x false = true → S x
  | 0, m, h, x, hx => h x hx
  | i + 1, m, h, x, hx => by
    unfold mark at hx
    split at hx
    · rename_i o hm ho
      refine mark_sound hS i _ ?_ x hx
      have hSi := hS i o (h i hm) ho
      have key : ∀ (l : List Nat) (m : List Bool), (∀ j ∈ l, S j) → (∀ x, m.getD x false = true → S x) → ∀ x, (l.foldl (fun m j => m.set j true) m).getD x false = true → S x := by
        intro l
        induction l with
        | nil => intro m _ h x hx; exact h x hx
        | cons j l ih =>
          intro m hl h x hx
          refine ih _ (fun y hy => hl y (by simp [hy])) (fun y hy => ?_) x hx
          by_cases e : j = y
          · subst e; exact hl _ (by simp)
          · refine h y ?_
            simpa [List.getD_eq_getElem?_getD, List.getElem?_set, e] using hy
      exact key _ _ hSi h
    · exact mark_sound hS i _ h x hx
/-- what the walk gives -/
structure MG (P : Program) (L : List Oper) (w0 : World) (n : Nat) (σ : Sg) (Γ : Ctx) (i : Nat) (o : Oper) : Prop where
  ex : ∃ m ∈ Γ, ∃ Δ : Ctx, (∀ x ∈ Δ, x ∈ Γ) ∧ m.i = i ∧ o.dst = some m.d ∧ Nat.ble (m.d + 1) n = true ∧ fnd σ m.d = none ∧ OB P L w0 n σ Δ o i m.d m.Φ
theorem map_inj {β γ : Type} {f : β → γ} {l : List β} (h : (l.map f).Nodup) : ∀ x ∈ l, ∀ y ∈ l, f x = f y → x = y := fun x hx y hy => nodup_inj h x hx y hy
structure MInv (L : List Oper) (w0 : World) (n : Nat) (σ : Sg) (Γ : Ctx) (k : Nat) (listed : Array Bool) (a : Act) (γ : Nat → Nat) (w : World) : Prop where
  size : listed.size = L.length
  fr : Fr n σ a
  ext : Ext w0 w
  facts : ∀ m ∈ Γ, listed.getD m.i false = true → m.Φ (a.tmps.getD m.d undef) γ w
  closed : ∀ i o, listed.getD i false = true → L[i]? = some o → ∀ j ∈ ons o, listed.getD j false = true
  low : ∀ i, listed.getD i false = true → i < k
theorem listed_set {l : Array Bool} {i j : Nat} : (l.setIfInBounds i true).getD j false = true ↔ (j = i ∧ i < l.size) ∨ l.getD j false = true := by
  simp only [Array.getD_eq_getD_getElem?, Array.getElem?_setIfInBounds]
  by_cases e : i = j
  · subst e
    by_cases h : i < l.size
    · simp [h]
    · simp [h]
  · rw [if_neg e]
    constructor
    · exact fun h => .inr h
    · rintro (⟨h, _⟩ | h)
      · exact absurd h.symm e
      · exact h
theorem MInv.step {L : List Oper} {w0 w w' : World} {n k i : Nat} {σ : Sg} {Γ : Ctx} {listed : Array Bool} {a : Act} {γ : Nat → Nat} {m : ME} {o : Oper} {v : Value} (h : MInv L w0 n σ Γ k listed a γ w) (hm : m ∈ Γ) (hmi : m.i = i) (ho : L[i]? = some o) (hn : Nat.ble (m.d + 1) n = true)
    (hf : fnd σ m.d = none) (hok : ∀ m ∈ Γ, m.ok) (hnd : (Γ.map (·.i)).Nodup) (hdd : ∀ x ∈ Γ, x.i ≠ i → x.d ≠ m.d) (hE : Ext w w') (hΦ : m.Φ v (byM γ w i) w') (hons : ∀ j ∈ ons o, listed.getD j false = true) (hik : i < k) : MInv L w0 n σ Γ k (listed.setIfInBounds i true) (a.put (some m.d) v) (byM γ w i) w' := by
  have hlt : m.d < n := Nat.le_of_ble_eq_true hn
  have hp := h.fr.put (d := some m.d) (v := v) hn
  refine ⟨by simpa using h.size, ⟨hp.size, hp.defers, fun t u hu => hp.slot t u ?_⟩, h.ext.trans hE, fun x hx hl => ?_, fun j o' hj ho' q hq => ?_, fun j hj => ?_⟩
  · show fnd ((m.d, v) :: σ) t = some u
    rw [fnd_cons_ne (fun e => by subst e; rw [hf] at hu; cases hu)]; exact hu
  · rcases listed_set.1 hl with ⟨e, _⟩ | hl
    · obtain rfl : x = m := map_inj hnd x hx m hm (by show x.i = m.i; rw [e, hmi])
      have : (a.put (some x.d) v).tmps.getD x.d undef = v := by simp [Act.put, Array.getD, h.fr.size, hlt]
      rw [this]; exact hΦ
    · by_cases e : x.i = i
      · obtain rfl : x = m := map_inj hnd x hx m hm (by show x.i = m.i; rw [e, hmi])
        have : (a.put (some x.d) v).tmps.getD x.d undef = v := by simp [Act.put, Array.getD, h.fr.size, hlt]
        rw [this]; exact hΦ
      · have hne := hdd x hx e
        have : (a.put (some m.d) v).tmps.getD x.d undef = a.tmps.getD x.d undef := by
          simp only [Act.put, Array.getD_eq_getD_getElem?]
          rw [Array.getElem?_setIfInBounds_ne (fun e => hne e.symm)]
        rw [this]
        exact hok x hx _ _ _ _ _ (h.facts x hx hl) hE (fun b hb => if_pos hb)
  · rcases listed_set.1 hj with ⟨e, _⟩ | hj
    · subst e
      rw [ho] at ho'
      cases ho'
      exact listed_set.2 (.inr (hons q hq))
    · exact listed_set.2 (.inr (h.closed j o' hj ho' q hq))
  · rcases listed_set.1 hj with ⟨e, _⟩ | hj
    · omega
    · exact h.low j hj
theorem onsE {o : Oper} {listed : Array Bool} (h : ∀ e ∈ o.after, Region.binds .any e = true → listed.getD e.on false = true) : ∀ j ∈ ons o, listed.getD j false = true := fun j hj => by
  obtain ⟨e, h1, h2, rfl⟩ := ons_mem hj
  exact h e h1 h2
theorem getD_tf {l : Array Bool} {i : Nat} (hi : i < l.size) : l.getD i true = l.getD i false := by simp [Array.getD_eq_getD_getElem?, hi]
section
variable {P : Program} {Q : Exit → Act → World → Prop} {n : Nat} {σ : Sg} {w : World} {L : List Oper}
theorem ML.nil {w0 : World} {K : Ctx → Prop} {i : Nat} {Γ : Ctx} (h : K Γ) : ML P L w0 n σ K i Γ [] := h
end
end Go.Proofs.Ytllpfgcngokhnaa

/-
  Orders of drawn regions, checked with marks in one number: for long regions. Over any program.
-/
set_option linter.unusedVariables false
set_option linter.unusedSimpArgs false
namespace Go.Proofs.Ytllpfgcngokhnaa
open Go.RowKit

def bt (m j : Nat) : Bool := Nat.beq (Nat.land (Nat.shiftRight m j) 1) 1
/-- what an operation waits for -/
def emask : List Edge → Nat
  | [] => 0
  | e :: r => match Region.binds .any e with
    | true => Nat.lor (Nat.shiftLeft 1 e.on) (emask r)
    | false => emask r
theorem emask_bit {j : Nat} : ∀ {l : List Edge}, (emask l).testBit j = true ↔ ∃ e ∈ l, Region.binds .any e = true ∧ e.on = j
  | [] => by simp [emask]
  | e :: r => by
    have ih := emask_bit (j := j) (l := r)
    unfold emask
    split
    · rename_i hb
      show ((1 <<< e.on) ||| emask r).testBit j = true ↔ _
      rw [Nat.testBit_or, Bool.or_eq_true, ih]
      have h1 : (1 <<< e.on).testBit j = decide (e.on = j) := by
        rw [Nat.one_shiftLeft, Nat.testBit_two_pow]
      rw [h1]
      simp [hb]
    · rename_i hb
      rw [ih]
      simp [hb]
def sub1 (m M : Nat) : Bool := Nat.beq (Nat.land m M) m
theorem sub1_iff {m M : Nat} : sub1 m M = true ↔ ∀ j, m.testBit j = true → M.testBit j = true := by
  unfold sub1
  rw [Nat.beq_eq]
  show m &&& M = m ↔ _
  constructor
  · intro h j hj
    have := congrArg (fun x => x.testBit j) h
    simp only [Nat.testBit_and, hj, Bool.true_and] at this
    exact this
  · intro h
    refine Nat.eq_of_testBit_eq fun j => ?_
    rw [Nat.testBit_and]
    cases hj : m.testBit j with
    | false => rfl
    | true => rw [h j hj]; rfl
/-- none but i is ready -/
def alone (i M : Nat) : Nat → List Nat → Bool
  | _, [] => true
  | j, m :: r => match Nat.beq j i with
    | true => alone i M (j + 1) r
    | false => match bt M j with
      | true => alone i M (j + 1) r
      | false => match sub1 m M with
        | true => false
        | false => alone i M (j + 1) r
/- WHAT IT SAYS -/
structure Mk1 (L : List Oper) (listed : Array Bool) (M : Nat) : Prop where
  size : listed.size = L.length
  bit : ∀ j, listed.getD j false = M.testBit j
section
variable {L : List Oper} {listed : Array Bool} {M i : Nat}
theorem Mk1.put (h : Mk1 L listed M) (hi : i < L.length) : Mk1 L (listed.setIfInBounds i true) (Nat.lor (Nat.shiftLeft 1 i) M) := by
  refine ⟨by simpa using h.size, fun j => ?_⟩
  have e : Nat.lor (Nat.shiftLeft 1 i) M = (1 <<< i) ||| M := rfl
  rw [e, Nat.testBit_or, Nat.one_shiftLeft, Nat.testBit_two_pow]
  by_cases hj : i = j
  · subst hj
    have := h.size
    simp [Array.getD_eq_getD_getElem?, show i < listed.size by omega]
  · rw [decide_eq_false hj, Bool.false_or, ← h.bit j]
    simp only [Array.getD_eq_getD_getElem?]
    rw [Array.getElem?_setIfInBounds_ne hj]
/-- ready, by marks -/
theorem Mk1.ready (h : Mk1 L listed M) {j : Nat} : j ∈ Region.ready .any L.toArray listed ↔ ∃ o, L[j]? = some o ∧ M.testBit j = false ∧ sub1 (emask o.after.toList) M = true := by
  rw [mem_ready]
  constructor
  · rintro ⟨h0, o, ho, he⟩
    have ho' : L[j]? = some o := by simpa using ho
    have hj : j < L.length := (List.getElem?_eq_some_iff.1 ho').1
    refine ⟨o, ho', ?_, sub1_iff.2 fun k hk => ?_⟩
    · rw [← h.bit, ← h0]
      have := h.size
      simp [Array.getD_eq_getD_getElem?, show j < listed.size by omega]
    · obtain ⟨e, h1, h2, rfl⟩ := emask_bit.1 hk
      rw [← h.bit]
      exact he e (by simpa using h1) h2
  · rintro ⟨o, ho, h0, hs⟩
    have hj : j < L.length := (List.getElem?_eq_some_iff.1 ho).1
    refine ⟨?_, o, by simpa using ho, fun e he hb => ?_⟩
    · have h1 := h.bit j
      rw [h0] at h1
      have := h.size
      simpa [Array.getD_eq_getD_getElem?, show j < listed.size by omega] using h1
    · rw [h.bit]
      exact sub1_iff.1 hs _ (emask_bit.2 ⟨e, by simpa using he, hb, rfl⟩)
end
section
variable {P : Program} {Q : Exit → Act → World → Prop} {n : Nat} {σ : Sg} {w : World} {L : List Oper}
end
end Go.Proofs.Ytllpfgcngokhnaa

/-
  Drawn regions with a turning point: what holds of the memory until operation c comes, and what holds throughout. Some reads must come ahead of c, others may come behind it. Over any program.
-/
set_option linter.unusedVariables false
set_option linter.unusedSimpArgs false
namespace Go.Proofs.Ytllpfgcngokhnaa
open Go.RowKit

/-- whatever order comes, a condition holds behind each operation; it may look at what has come -/
def wpAnyG (P : Program) (ops : Array Oper) (Q : Exit → Act → World → Prop) (S : Array Bool → World → Prop) : Nat → Array Bool → Act → World → Prop
  | 0, listed, a, w => Region.ready .any ops listed = [] ∧ Q .normal a w
  | fuel + 1, listed, a, w =>
    (Region.ready .any ops listed = [] → Q .normal a w) ∧
    ∀ i ∈ Region.ready .any ops listed, wpOp P ops Q i (fun a' w' => S (listed.setIfInBounds i true) w' ∧ wpAnyG P ops Q S fuel (listed.setIfInBounds i true) a' w') a w
section
variable {P : Program} {ops : Array Oper} {Q : Exit → Act → World → Prop} {S : Array Bool → World → Prop}
theorem wpAny_of_G : ∀ (fuel : Nat) (listed : Array Bool) (a : Act) (w : World), wpAnyG P ops Q S fuel listed a w → wpAny P .any ops Q fuel listed a w
  | 0, _, _, _, h => h
  | fuel + 1, _, _, _, h => ⟨h.1, fun i hi => wpOp_mono (fun a' w' h' => wpAny_of_G fuel _ a' w' h'.2) (h.2 i hi)⟩
theorem wpAnyG_first {i : Nat} {oi : Oper} {v : Value} (hi : ops[i]? = some oi) (hsel : ∀ (j : Nat) (o : Oper) cs b, ops[j]? = some o → o.op ≠ .select cs b)
    (hQ : ∀ c a w, Q (.panic c) (a.put oi.dst v) w → Q (.panic c) a w) (Rch : Array Bool → Prop) (hR : ∀ L j, Rch L → j ≠ i → j ∈ Region.ready .any ops L → Rch (L.setIfInBounds j true))
    (hSi : ∀ L w, S (L.setIfInBounds i true) w ↔ S L w) :
    ∀ (fuel : Nat) (listed : Array Bool) (a : Act) (w : World), Rch listed →
      (∀ j oj, ops[j]? = some oj → j ≠ i → listed.getD j true = false → (∀ e ∈ oj.after, Region.binds .any e = true → e.on ≠ i) → oi.apart ops oj = true) →
      i ∈ Region.ready .any ops listed → YieldsIf P ops (fun w => ∃ L, Rch L ∧ S L w) oi v a → S listed w →
      wpAnyG P ops Q S fuel (listed.setIfInBounds i true) (a.put oi.dst v) w → wpAnyG P ops Q S (fuel + 1) listed a w := by
  intro fuel
  induction fuel with
  | zero =>
    intro listed a w hRl _ hr hy hS H
    refine ⟨fun h => (by rw [h] at hr; cases hr), fun j hj => ?_⟩
    by_cases hji : j = i
    · subst hji; exact hy.wpOp hi ⟨listed, hRl, hS⟩ ⟨(hSi _ _).2 hS, H⟩
    · have := ready_mono hj hji
      rw [H.1] at this
      cases this
  | succ fuel ih =>
    intro listed a w hRl hfree hr hy hS H
    refine ⟨fun h => (by rw [h] at hr; cases hr), fun j hj => ?_⟩
    by_cases hji : j = i
    · subst hji; exact hy.wpOp hi ⟨listed, hRl, hS⟩ ⟨(hSi _ _).2 hS, H⟩
    · have h1 := H.2 j (ready_mono hj hji)
      obtain ⟨hjun, oj, hoj, hall⟩ := mem_ready.1 hj
      have hnot : ∀ e ∈ oj.after, Region.binds .any e = true → e.on ≠ i := fun e he hb heq => by
        have h1 := hall e he hb
        have h0 := (mem_ready.1 hr).1
        rw [heq] at h1
        rcases Nat.lt_or_ge i listed.size with h' | h'
        · simp [h'] at h0 h1; rw [h0] at h1; cases h1
        · simp [Array.getElem?_eq_none h'] at h1
      have h2 := wpOp_putIf hoj (hfree j oj hoj hji hjun hnot) (fun cs b => hsel i oi cs b hi) (fun cs b => hsel j oj cs b hoj) hQ hy h1
      have hfree' : ∀ k ok, ops[k]? = some ok → k ≠ i → (listed.setIfInBounds j true).getD k true = false →
          (∀ e ∈ ok.after, Region.binds .any e = true → e.on ≠ i) → oi.apart ops ok = true := fun k ok hk hki hun hno => by
        refine hfree k ok hk hki ?_ hno
        by_cases hjk : j = k
        · subst hjk; exact hjun
        · rw [getD_set_ne true hjk] at hun; exact hun
      refine wpOp_mono (fun a' w' h3 => ?_) h2
      have hcm : (listed.setIfInBounds i true).setIfInBounds j true = (listed.setIfInBounds j true).setIfInBounds i true := Array.setIfInBounds_comm _ _ (Ne.symm hji)
      rw [hcm] at h3
      have hS' := (hSi _ _).1 h3.2.1
      exact ⟨hS', ih (listed.setIfInBounds j true) a' w' (hR _ _ hRl hji hj) hfree' (ready_mono hr (Ne.symm hji)) h3.1 hS' h3.2.2⟩
end

/- THE TURNING POINT -/
structure Cls (L : List Oper) (l : Array Bool) : Prop where
  size : l.size = L.length
  cl : ∀ k o, l.getD k false = true → L[k]? = some o → ∀ j ∈ ons o, l.getD j false = true
theorem Cls.put {L : List Oper} {l : Array Bool} (h : Cls L l) {j : Nat} (hj : j ∈ Region.ready .any L.toArray l) : Cls L (l.setIfInBounds j true) := by
  obtain ⟨_, o, ho, he⟩ := mem_ready.1 hj
  have ho' : L[j]? = some o := by simpa using ho
  refine ⟨by simpa using h.size, fun k o' hk ho2 x hx => ?_⟩
  refine listed_set.2 (.inr ?_)
  rcases listed_set.1 hk with ⟨rfl, _⟩ | hk
  · rw [ho'] at ho2; cases ho2
    exact onsE he x hx
  · exact h.cl k o' hk ho2 x hx
/-- c: the turning point; e: the operation that comes last of all (or none, where e is out of range), behind which nothing is asked -/
def SG (c e : Nat) (Sw Ss : World → Prop) : Array Bool → World → Prop := fun l w => l.getD e false = false → Sw w ∧ (l.getD c false = false → Ss w)
theorem getD_setne {l : Array Bool} {i c : Nat} (hne : i ≠ c) : (l.setIfInBounds i true).getD c false = l.getD c false := by
  simp only [Array.getD_eq_getD_getElem?]
  rw [Array.getElem?_setIfInBounds_ne hne]
theorem SG_set {c e i : Nat} (hne : i ≠ c) (hne2 : i ≠ e) {Sw Ss : World → Prop} (l : Array Bool) (w : World) : SG c e Sw Ss (l.setIfInBounds i true) w ↔ SG c e Sw Ss l w := by
  unfold SG
  rw [getD_setne hne, getD_setne hne2]
def behind (L : List Oper) (c i : Nat) : Bool := (mark L (c + 1) ((List.replicate (c + 1) false).set c true)).getD i false
theorem behind_sound {L : List Oper} {l : Array Bool} {c i : Nat} (h : behind L c i = true) (hC : Cls L l) (hi : l.getD i false = false) : l.getD c false = false := by
  cases hcx : l.getD c false with
  | false => rfl
  | true =>
    have := mark_sound (L := L) (S := fun x => l.getD x false = true) (fun x o hx ho j hj => hC.cl x o hx ho j hj) (c + 1) ((List.replicate (c + 1) false).set c true) (fun x hx => by
      by_cases e : c = x
      · subst e; exact hcx
      · exfalso
        simp [List.getD_eq_getElem?_getD, List.getElem?_set, e, List.getElem?_replicate] at hx
        split at hx <;> simp at hx) i h
    rw [hi] at this; cases this
/-- 0: taken alone; 1: free, whatever holds throughout; 2: free, ahead of c; 3: the last -/
def ordP (L : List Oper) (c e : Nat) : List (Nat × Nat) → Array Bool → Bool
  | [], listed => (Region.ready .any L.toArray listed).isEmpty
  | (i, k) :: r, listed => match k with
    | 0 => decide (Region.ready .any L.toArray listed = [i]) && decide (i ≠ e) && ordP L c e r (listed.setIfInBounds i true)
    | 1 => (Region.ready .any L.toArray listed).contains i && Region.free .any L.toArray listed i && decide (i ≠ c) && decide (i ≠ e) && (decide (L.length ≤ e) || behind L e i) && ordP L c e r (listed.setIfInBounds i true)
    | 2 => (Region.ready .any L.toArray listed).contains i && Region.free .any L.toArray listed i && decide (i ≠ c) && decide (i ≠ e) && (decide (L.length ≤ e) || behind L e i) && behind L c i && ordP L c e r (listed.setIfInBounds i true)
    | _ => decide (Region.ready .any L.toArray listed = [i]) && decide (i = e) && ordP L c e r (listed.setIfInBounds i true)
def wpHP (P : Program) (ops : List Oper) (c e : Nat) (Sw Ss : World → Prop) (Q : Act → World → Prop) : Bool → List (Nat × Nat) → Act → World → Prop
  | _, [], a, w => Q a w
  | ph, (i, k) :: r, a, w => match k with
    | 0 => ∃ o, ops[i]? = some o ∧ (if Region.wanted o (yielded ops.toArray a.tmps) = true then o.wp P a w (fun a' w' => Sw w' ∧ ((ph || Nat.beq i c) = false → Ss w') ∧ wpHP P ops c e Sw Ss Q (ph || Nat.beq i c) r a' w') (fun e a w => e = .normal ∧ Q a w) else Sw w ∧ ((ph || Nat.beq i c) = false → Ss w) ∧ wpHP P ops c e Sw Ss Q (ph || Nat.beq i c) r (a.put o.dst undef) w)
    | 1 => ∃ o v, ops[i]? = some o ∧ YieldsIf P ops.toArray Sw o v a ∧ wpHP P ops c e Sw Ss Q ph r (a.put o.dst v) w
    | 2 => ∃ o v, ops[i]? = some o ∧ YieldsIf P ops.toArray Ss o v a ∧ wpHP P ops c e Sw Ss Q ph r (a.put o.dst v) w
    | _ => r = [] ∧ ∃ o, ops[i]? = some o ∧ (if Region.wanted o (yielded ops.toArray a.tmps) = true then o.wp P a w Q (fun e a w => e = .normal ∧ Q a w) else Q (a.put o.dst undef) w)
theorem yif_wk {P : Program} {ops : Array Oper} {S S' : World → Prop} {o : Oper} {v : Value} {a : Act} (h : YieldsIf P ops S o v a) (hS : ∀ w, S' w → S w) : YieldsIf P ops S' o v a :=
  h.imp (fun ⟨h1, h2⟩ => ⟨h1, fun w hw => h2 w (hS w hw)⟩) id
theorem wpHP_sound {P : Program} {L : List Oper} {c e : Nat} {Sw Ss : World → Prop} {Q : Act → World → Prop} (hs : Region.noSelect L.toArray = true) :
    ∀ (ord : List (Nat × Nat)) (ph : Bool) (listed : Array Bool) (a : Act) (w : World), ordP L c e ord listed = true → Cls L listed → (listed.getD c false = ph) → SG c e Sw Ss listed w → wpHP P L c e Sw Ss Q ph ord a w →
      wpAnyG P L.toArray (fun e a w => e = .normal ∧ Q a w) (SG c e Sw Ss) ord.length listed a w
  | [], ph, listed, a, w, hB, _, _, _, h => by
    simp only [ordP, List.isEmpty_iff] at hB
    exact ⟨hB, rfl, h⟩
  | (i, 0) :: r, ph, listed, a, w, hB, hC, hph, hS, ⟨o, ho, h⟩ => by
    simp only [ordP, Bool.and_eq_true, decide_eq_true_eq] at hB
    obtain ⟨⟨hB1, _⟩, hB2⟩ := hB
    have hin : i ∈ Region.ready .any L.toArray listed := by rw [hB1]; simp
    have hC' := hC.put hin
    have hil : i < L.length := (List.getElem?_eq_some_iff.1 ho).1
    have hph' : (listed.setIfInBounds i true).getD c false = (ph || Nat.beq i c) := by
      cases e : Nat.beq i c with
      | true =>
        obtain rfl := Nat.eq_of_beq_eq_true e
        have := hC.size
        simp [Array.getD_eq_getD_getElem?, show i < listed.size by omega]
      | false =>
        have hne : i ≠ c := fun h => by subst h; rw [Nat.beq_refl] at e; cases e
        rw [getD_setne hne, hph, Bool.or_false]
    refine ⟨fun h0 => (by rw [h0] at hin; cases hin), fun j hj => ?_⟩
    rw [hB1, List.mem_singleton] at hj
    subst hj
    have ho' : L.toArray[j]? = some o := by simpa using ho
    unfold wpOp
    simp only [ho']
    split
    · rename_i hw
      rw [if_pos hw] at h
      exact .inl (Oper.wp_mono (fun a' w' h' => ⟨fun _ => ⟨h'.1, fun hx => h'.2.1 (hph' ▸ hx)⟩, wpHP_sound hs r _ _ _ _ hB2 hC' hph' (fun _ => ⟨h'.1, fun hx => h'.2.1 (hph' ▸ hx)⟩) h'.2.2⟩) h)
    · rename_i hw
      rw [if_neg hw] at h
      exact ⟨fun _ => ⟨h.1, fun hx => h.2.1 (hph' ▸ hx)⟩, wpHP_sound hs r _ _ _ _ hB2 hC' hph' (fun _ => ⟨h.1, fun hx => h.2.1 (hph' ▸ hx)⟩) h.2.2⟩
  | (i, 1) :: r, ph, listed, a, w, hB, hC, hph, hS, ⟨o, v, ho, hy, h⟩ => by
    simp only [ordP, Bool.and_eq_true, decide_eq_true_eq, Bool.or_eq_true] at hB
    obtain ⟨⟨⟨⟨⟨h1, h2⟩, hne⟩, hne2⟩, hbe⟩, h3⟩ := hB
    have hin : i ∈ Region.ready .any L.toArray listed := by simpa using h1
    have ho' : L.toArray[i]? = some o := by simpa using ho
    have hph' : (listed.setIfInBounds i true).getD c false = ph := by rw [getD_setne hne]; exact hph
    have hil : i < L.length := (List.getElem?_eq_some_iff.1 ho).1
    have hun : listed.getD i false = false := by
      have := (mem_ready.1 hin).1
      have hsz := hC.size
      rw [getD_tf (by omega)] at this
      simpa using this
    have hend : ∀ l : Array Bool, Cls L l → l.getD i false = false → l.getD e false = false := fun l hl hi => hbe.elim (fun h => by
      have := hl.size
      simp [Array.getD_eq_getD_getElem?, Array.getElem?_eq_none (show l.size ≤ e by omega)]) (fun h => behind_sound h hl hi)
    exact wpAnyG_first ho' (Region.noSelect_spec hs) (fun _ _ _ h => by cases h.1) (fun l => Cls L l ∧ l.getD i false = false) (fun l j hl hne3 hj => ⟨hl.1.put hj, by rw [getD_setne hne3]; exact hl.2⟩) (fun l w => SG_set hne hne2 l w) r.length listed a w ⟨hC, hun⟩ (Region.free_spec ho' h2) hin
      (yif_wk hy fun w ⟨l, hl, hw⟩ => (hw (hend l hl.1 hl.2)).1) hS (wpHP_sound hs r ph _ _ _ h3 (hC.put hin) hph' ((SG_set hne hne2 _ _).2 hS) h)
  | (i, 2) :: r, ph, listed, a, w, hB, hC, hph, hS, ⟨o, v, ho, hy, h⟩ => by
    simp only [ordP, Bool.and_eq_true, decide_eq_true_eq, Bool.or_eq_true] at hB
    obtain ⟨⟨⟨⟨⟨⟨h1, h2⟩, hne⟩, hne2⟩, hbe⟩, hmk⟩, h3⟩ := hB
    have hin : i ∈ Region.ready .any L.toArray listed := by simpa using h1
    have ho' : L.toArray[i]? = some o := by simpa using ho
    have hph' : (listed.setIfInBounds i true).getD c false = ph := by rw [getD_setne hne]; exact hph
    have hil : i < L.length := (List.getElem?_eq_some_iff.1 ho).1
    have hun : listed.getD i false = false := by
      have := (mem_ready.1 hin).1
      have hsz := hC.size
      rw [getD_tf (by omega)] at this
      simpa using this
    have hend : ∀ l : Array Bool, Cls L l → l.getD i false = false → l.getD e false = false := fun l hl hi => hbe.elim (fun h => by
      have := hl.size
      simp [Array.getD_eq_getD_getElem?, Array.getElem?_eq_none (show l.size ≤ e by omega)]) (fun h => behind_sound h hl hi)
    exact wpAnyG_first ho' (Region.noSelect_spec hs) (fun _ _ _ h => by cases h.1) (fun l => Cls L l ∧ l.getD i false = false) (fun l j hl hne3 hj => ⟨hl.1.put hj, by rw [getD_setne hne3]; exact hl.2⟩) (fun l w => SG_set hne hne2 l w) r.length listed a w ⟨hC, hun⟩ (Region.free_spec ho' h2) hin
      (yif_wk hy fun w ⟨l, hl, hw⟩ => (hw (hend l hl.1 hl.2)).2 (behind_sound hmk hl.1 hl.2)) hS (wpHP_sound hs r ph _ _ _ h3 (hC.put hin) hph' ((SG_set hne hne2 _ _).2 hS) h)
  | (i, k + 3) :: r, ph, listed, a, w, hB, hC, hph, hS, ⟨hr, o, ho, h⟩ => by
    subst hr
    simp only [ordP, Bool.and_eq_true, decide_eq_true_eq] at hB
    obtain ⟨⟨hB1, rfl⟩, hB2⟩ := hB
    have hin : i ∈ Region.ready .any L.toArray listed := by rw [hB1]; simp
    have hil : i < L.length := (List.getElem?_eq_some_iff.1 ho).1
    have hie : (listed.setIfInBounds i true).getD i false = true := by
      have := hC.size
      simp [Array.getD_eq_getD_getElem?, show i < listed.size by omega]
    refine ⟨fun h0 => (by rw [h0] at hin; cases hin), fun j hj => ?_⟩
    rw [hB1, List.mem_singleton] at hj
    subst hj
    have ho' : L.toArray[j]? = some o := by simpa using ho
    have hfin : ∀ a' w', Q a' w' → SG c j Sw Ss (listed.setIfInBounds j true) w' ∧ wpAnyG P L.toArray (fun e a w => e = .normal ∧ Q a w) (SG c j Sw Ss) ([] : List (Nat × Nat)).length (listed.setIfInBounds j true) a' w' := fun a' w' hq =>
      ⟨fun h => (by rw [hie] at h; cases h), by simpa using hB2, rfl, hq⟩
    unfold wpOp
    simp only [ho']
    split
    · rename_i hw
      rw [if_pos hw] at h
      exact .inl (Oper.wp_mono (fun a' w' h' => hfin a' w' h') h)
    · rename_i hw
      rw [if_neg hw] at h
      exact hfin _ _ h

/- THE WALK -/
@[irreducible] def HP (P : Program) (ops : List Oper) (c e : Nat) (Sw Ss : World → Prop) (Q : Exit → Act → World → Prop) (ph : Bool) (ord : List (Nat × Nat)) (n : Nat) (σ : Sg) (w : World) : Prop :=
  ∀ a, Fr n σ a → wpHP P ops c e Sw Ss (fun a w => Q .normal a w) ph ord a w
section
variable {P : Program} {Q : Exit → Act → World → Prop} {n : Nat} {σ : Sg} {w : World} {L : List Oper} {c e : Nat} {Sw Ss : World → Prop}
theorem CW.drawP {id : Nat} (c e : Nat) (Sw Ss : World → Prop) (ord : List (Nat × Nat)) (hm : P.follows .mixedOrders = true) (hB : (Region.noSelect L.toArray && decide (ord.length = L.length) && ordP L c e ord (Array.replicate L.length false)) = true) (hw : Sw (drew w)) (hS : Ss (drew w)) (h : HP P L c e Sw Ss Q false ord n σ (drew w)) : CW P (.region id L.toArray true) Q n σ w := by
  unfold CW; unfold HP at h; intro a ha
  simp only [Bool.and_eq_true, decide_eq_true_eq] at hB
  obtain ⟨⟨hs, hl⟩, hB⟩ := hB
  have h0 : ∀ k, (Array.replicate L.length false).getD k false = false := fun k => by
    simp [Array.getD_eq_getD_getElem?, Array.getElem?_replicate]; split <;> rfl
  have h1 := wpHP_sound (Q := fun a w => Q .normal a w) hs ord false (Array.replicate L.length false) a (Go.Proofs.Ytllpfgcngokhnaa.drew w) hB ⟨by simp, fun k o hk => by rw [h0 k] at hk; cases hk⟩ (h0 c) (fun _ => ⟨hw, fun _ => hS⟩) (h a ha)
  rw [hl] at h1
  have h2 : (Code.region id L.toArray true).wp P (fun x a w => x = .normal ∧ Q .normal a w) a w := wp_region_any hm (by simpa using wpAny_of_G _ _ _ _ h1)
  exact wp_mono h2 (fun x a' w' ⟨he, hq⟩ => by subst he; exact hq)
theorem HP.nil {ph : Bool} (h : EX Q .normal n σ w) : HP P L c e Sw Ss Q ph [] n σ w := by
  unfold HP; unfold EX at h; exact fun a ha => h a ha
/-- behind one operation -/
def AfterP (P : Program) (ops : List Oper) (c e : Nat) (Sw Ss : World → Prop) (Q : Exit → Act → World → Prop) (ph : Bool) (ord : List (Nat × Nat)) : Exit → Act → World → Prop :=
  fun x a w => x = .normal ∧ Sw w ∧ (ph = false → Ss w) ∧ wpHP P ops c e Sw Ss (fun a w => Q .normal a w) ph ord a w
/-- stretches of reads that may come anywhere: by the rules for held regions -/
def toP (k : Nat) : List (Nat × Bool) → List (Nat × Nat)
  | [] => []
  | (i, _) :: r => (i, k) :: toP k r
def allT : List (Nat × Bool) → Bool
  | [] => true
  | (_, b) :: r => b && allT r
theorem wpHP_reads {Q : Act → World → Prop} {ph : Bool} {r : List (Nat × Nat)} {S : World → Prop} {k : Nat} (hk : ∀ i r a w, wpHP P L c e Sw Ss Q ph ((i, k) :: r) a w ↔ ∃ o v, L[i]? = some o ∧ YieldsIf P L.toArray S o v a ∧ wpHP P L c e Sw Ss Q ph r (a.put o.dst v) w) : ∀ (s : List (Nat × Bool)) (a : Act) (w : World), allT s = true → wpHL P L S (fun a w => wpHP P L c e Sw Ss Q ph r a w) s a w → wpHP P L c e Sw Ss Q ph (toP k s ++ r) a w
  | [], a, w, _, h => h
  | (i, true) :: s, a, w, hT, ⟨o, v, ho, hy, h⟩ => (hk i _ a w).2 ⟨o, v, ho, hy, wpHP_reads hk s _ _ (by simpa [allT] using hT) h⟩
  | (i, false) :: s, a, w, hT, _ => by simp [allT] at hT
/-- what follows a stretch -/
def RestP (P : Program) (ops : List Oper) (c e : Nat) (Sw Ss : World → Prop) (Q : Exit → Act → World → Prop) (ph : Bool) (ord : List (Nat × Nat)) : Exit → Act → World → Prop :=
  fun x a w => x = .normal ∧ wpHP P ops c e Sw Ss (fun a w => Q .normal a w) ph ord a w
theorem HP.weak {ph : Bool} {r : List (Nat × Nat)} (s : List (Nat × Bool)) (hT : allT s = true) (h : HL P L Sw (RestP P L c e Sw Ss Q ph r) s n σ w) : HP P L c e Sw Ss Q ph (toP 1 s ++ r) n σ w := by
  unfold HP; unfold HL at h
  intro a ha
  have h2 : wpHL P L Sw (fun a w => wpHP P L c e Sw Ss (fun a w => Q .normal a w) ph r a w) s a w := by
    have hmono : ∀ (s : List (Nat × Bool)) (a : Act) (w : World), allT s = true → wpHL P L Sw (fun a w => RestP P L c e Sw Ss Q ph r .normal a w) s a w → wpHL P L Sw (fun a w => wpHP P L c e Sw Ss (fun a w => Q .normal a w) ph r a w) s a w := by
      intro s
      induction s with
      | nil => intro a w _ h; exact h.2
      | cons x s ih =>
        obtain ⟨i, b⟩ := x
        intro a w hT h
        cases b with
        | false => simp [allT] at hT
        | true =>
          obtain ⟨o, v, ho, hy, h⟩ := h
          exact ⟨o, v, ho, hy, ih _ _ (by simpa [allT] using hT) h⟩
    exact hmono s a w hT (h a ha)
  exact wpHP_reads (S := Sw) (k := 1) (fun i r a w => Iff.rfl) s a w hT h2
theorem HP.early {ph : Bool} {r : List (Nat × Nat)} (s : List (Nat × Bool)) (hT : allT s = true) (h : HL P L Ss (RestP P L c e Sw Ss Q ph r) s n σ w) : HP P L c e Sw Ss Q ph (toP 2 s ++ r) n σ w := by
  unfold HP; unfold HL at h
  intro a ha
  have h2 : wpHL P L Ss (fun a w => wpHP P L c e Sw Ss (fun a w => Q .normal a w) ph r a w) s a w := by
    have hmono : ∀ (s : List (Nat × Bool)) (a : Act) (w : World), allT s = true → wpHL P L Ss (fun a w => RestP P L c e Sw Ss Q ph r .normal a w) s a w → wpHL P L Ss (fun a w => wpHP P L c e Sw Ss (fun a w => Q .normal a w) ph r a w) s a w := by
      intro s
      induction s with
      | nil => intro a w _ h; exact h.2
      | cons x s ih =>
        obtain ⟨i, b⟩ := x
        intro a w hT h
        cases b with
        | false => simp [allT] at hT
        | true =>
          obtain ⟨o, v, ho, hy, h⟩ := h
          exact ⟨o, v, ho, hy, ih _ _ (by simpa [allT] using hT) h⟩
    exact hmono s a w hT (h a ha)
  exact wpHP_reads (S := Ss) (k := 2) (fun i r a w => Iff.rfl) s a w hT h2
theorem EX.rest {ph : Bool} {r : List (Nat × Nat)} (h : HP P L c e Sw Ss Q ph r n σ w) : EX (RestP P L c e Sw Ss Q ph r) .normal n σ w := by
  unfold EX; unfold HP at h
  exact fun a ha => ⟨rfl, h a ha⟩
theorem HP.mut {ph : Bool} {i : Nat} {r : List (Nat × Nat)} {o : Oper} (ho : nthO L i = some o) (h : WL P L (AfterP P L c e Sw Ss Q (ph || Nat.beq i c) r) [o] n σ w) : HP P L c e Sw Ss Q ph ((i, 0) :: r) n σ w := by
  unfold HP; unfold WL at h
  intro a ha
  rw [nthO_eq] at ho
  have h2 := h a ha
  simp only [wpList] at h2
  refine ⟨o, ho, ?_⟩
  split
  · rename_i hw
    rw [if_pos hw] at h2
    rcases h2 with h2 | ⟨_, hl⟩
    · refine Oper.wp_mono (fun a' w' h' => h'.2) (wp_exits (fun x a w hne hf => absurd hf.1 hne) h2)
    · obtain ⟨_, _, hx⟩ := hl
      exact absurd hx.1 (by simp)
  · rename_i hw
    rw [if_neg hw] at h2
    exact h2.2
theorem EX.mutP {ph : Bool} {r : List (Nat × Nat)} (hw : Sw w) (hs : ph = false → Ss w) (h : HP P L c e Sw Ss Q ph r n σ w) : EX (AfterP P L c e Sw Ss Q ph r) .normal n σ w := by
  unfold EX; unfold HP at h
  exact fun a ha => ⟨rfl, hw, hs, h a ha⟩
/-- the last operation: nothing is asked behind it -/
theorem HP.last {ph : Bool} {i : Nat} {o : Oper} (ho : nthO L i = some o) (h : WL P L (fun x a w => x = .normal ∧ Q .normal a w) [o] n σ w) : HP P L c e Sw Ss Q ph [(i, 3)] n σ w := by
  unfold HP; unfold WL at h
  intro a ha
  rw [nthO_eq] at ho
  have h2 := h a ha
  simp only [wpList] at h2
  refine ⟨rfl, o, ho, ?_⟩
  split
  · rename_i hw
    rw [if_pos hw] at h2
    rcases h2 with h2 | ⟨_, hl⟩
    · refine Oper.wp_mono (fun a' w' h' => h'.2) (wp_exits (fun x a w hne hf => absurd hf.1 hne) h2)
    · obtain ⟨_, _, hx⟩ := hl
      exact absurd hx.1 (by simp)
  · rename_i hw
    rw [if_neg hw] at h2
    exact h2.2
/-- append(x, y), behind the turning point -/
theorem HP.app1 {α : Type} [Rep α] {x0 : α} {bytes : Nat} {F : Nat → Prop} {i i1 d d1 : Nat} {ty ty1 : TypeId} {pos pos1 : String} {af af1 : Array Edge} {g g1 : Option (Nat × Bool)} {t et : TypeId} {x y : Operand} {rest : List (Nat × Nat)} {v u : Value} {xs : List α} {yv : α} {B : Nat} {wc : World}
    (ho1 : nthO L i1 = some ⟨some d1, .buildSlice t 1 [(0, y)].toArray, ty1, pos1, af1, g1⟩) (ho : nthO L i = some ⟨some d, .call ⟨.builtin .append, #[x, .tmp d1], #[t, t]⟩, ty, pos, af, g⟩)
    (hg1 : gd L σ ⟨some d1, .buildSlice t 1 [(0, y)].toArray, ty1, pos1, af1, g1⟩ = some true) (hd1 : Nat.ble (d1 + 1) n = true)
    (hg : ∀ u, gd L ((d1, .slice u 1 1) :: σ) ⟨some d, .call ⟨.builtin .append, #[x, .tmp d1], #[t, t]⟩, ty, pos, af, g⟩ = some true) (hd : Nat.ble (d + 1) n = true)
    (hy : ev σ y = some u) (hx : ∀ u, ev ((d1, .slice u 1 1) :: σ) x = some v) [hs : IsS P t et] [ht : IsT P et α] [hz : IsZ P et x0 bytes] (hown : Own wc B et F v xs) (hu : Rd wc F u yv) (hB : B ≤ wc.heap.size) (hF : ∀ b, F b → b < wc.heap.size)
    (hsz : sz α ≤ 16777216) (hm : xs.length + 1 ≤ maxLen) (hb : (xs.length + 1) * bytes ≤ 140737488355328) (hS : ∀ w', wc.grownBy w' v.ownBlock → Sw w')
    (h : ∀ v' w' p, Own w' B et F v' (xs ++ [yv]) → wc.grownBy w' v.ownBlock → (∀ g, v'.ownBlock = some g → v.ownBlock = some g ∨ wc.heap.size ≤ g) → HP P L c e Sw Ss Q true rest n ((d, v') :: (d1, .slice p 1 1) :: σ) w') :
    HP P L c e Sw Ss Q true ((i1, 0) :: (i, 0) :: rest) n σ wc := by
  refine HP.mut ho1 ?_
  refine WL.lit (vs := [u]) (ys := [yv]) hg1 hd1 rfl (by simp [sndL, evs, hy]) rfl ⟨hu, trivial⟩ (by simpa using hsz) hF (fun w1 ho1 hgr1 => ?_)
  have hsize : wc.heap.size ≤ w1.heap.size := hgr1.size
  have hkeep : Own w1 B et F v xs := hown.kept hgr1 (fun _ _ h => by cases h) fun b hb => ⟨hF b hb, fun h => by cases h⟩
  have g2 : wc.grownBy w1 v.ownBlock := ⟨hgr1.os, hgr1.tape, hgr1.output, hgr1.size, fun k hk _ => hgr1.block k hk (fun h => by cases h)⟩
  refine WL.nil (EX.mutP (ph := true) (hS _ g2) (fun h => by cases h) ?_)
  refine HP.mut ho ?_
  refine WL.app (ys := [yv]) (hg _) hd (hx _) fnd_cons_eq hkeep ho1.src (Nat.le_trans hB hsize) (fun b hb => Nat.lt_of_lt_of_le (hF b hb) hsize) (by simpa using hm) (by simpa using hb) (fun v' w' ho' hgr hnb => ?_)
  have g3 : wc.grownBy w' v.ownBlock := ⟨hgr.os.trans hgr1.os, hgr.tape.trans hgr1.tape, hgr.output.trans hgr1.output, Nat.le_trans hsize hgr.size, fun k hk hne => (hgr.block k (Nat.lt_of_lt_of_le hk hsize) hne).trans (hgr1.block k hk (fun h => by cases h))⟩
  exact WL.nil (EX.mutP (ph := true) (hS _ g3) (fun h => by cases h) (h v' w' _ ho' g3 (fun g hg => (hnb g hg).imp id (fun h => Nat.le_trans hsize h))))
end
section
variable {P : Program} {Q : Exit → Act → World → Prop} {n : Nat} {σ : Sg} {wc : World} {L : List Oper} {S : World → Prop} {ord : List (Nat × Bool)} {i d : Nat} {ty : TypeId} {pos : String} {af : Array Edge} {g : Option (Nat × Bool)} {t : TypeId} {x : Operand} {b o : Nat}
/-- a field of a struct of which only other fields change meanwhile -/
theorem HL.ldC {v : Value} (hK : ∀ w1, S w1 → ∃ e cells, Blk w1 b e cells ∧ nthV cells o = some v) (ho : nthO L i = some ⟨some d, .load t x, ty, pos, af, g⟩) (hg : gd L σ ⟨some d, .load t x, ty, pos, af, g⟩ = some true) (hd : Nat.ble (d + 1) n = true) (hx : ev σ x = some (.pointer (some ⟨b, o, none⟩))) [hc : IsC P t 1 false]
    (h : HL P L S Q ord n ((d, v) :: σ) wc) : HL P L S Q ((i, true) :: ord) n σ wc := by
  refine HL.run ho hg hd (fun a ha w' hsw => ?_) h
  obtain ⟨e, cells, hb', hv⟩ := hK w' hsw
  simp [execOp, ha.ev hx, run_ld (P := P) (t := t) w' hb' hv]
end
end Go.Proofs.Ytllpfgcngokhnaa

