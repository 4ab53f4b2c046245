/-
  Package auto: accepts, Accepts.
-/
import Derived.Test.YthefpigolikmeaaAuto4
import Derived.Test.YthefpigolikmeaaHeld3
set_option linter.unusedVariables false
set_option linter.unusedSimpArgs false
namespace Go.Proofs.Ythefpigolikmeaa
open Go.RowKit

open Classical in
noncomputable def accB (A : LAuto) (L : Nat → Nat) : Bool := decide (Acc A.1 A.2.1 A.2.2.1 A.2.2.2.1 A.2.2.2.2 L)
theorem accB_iff {A : LAuto} {L : Nat → Nat} : accB A L = true ↔ Acc A.1 A.2.1 A.2.2.1 A.2.2.2.1 A.2.2.2.2 L := by unfold accB; simp
theorem sum_mod {n : Nat} (L : Nat → Nat) : ∀ m, ((List.range (n * m)).map fun x => L (x % n)).sum = m * ((List.range n).map L).sum
  | 0 => by simp
  | m + 1 => by
    rw [Nat.mul_add, Nat.mul_one, List.range_add, List.map_append, List.sum_append, sum_mod L m, Nat.add_mul, Nat.one_mul, List.map_map]
    congr 2
    refine List.map_congr_left fun x hx => ?_
    have hx := List.mem_range.1 hx
    show L ((n * m + x) % n) = L x
    rw [Nat.mul_add_mod, Nat.mod_eq_of_lt hx]
theorem sum_le : ∀ (l : List Nat) (f g : Nat → Nat), (∀ x ∈ l, f x ≤ g x) → (l.map f).sum ≤ (l.map g).sum
  | [], _, _, _ => Nat.le_refl _
  | x :: r, f, g, h => by
    have h1 := h x (by simp)
    have h2 := sum_le r f g (fun y hy => h y (by simp [hy]))
    simp only [List.map_cons, List.sum_cons]
    omega
theorem edges_range (g : Graph) : edges g = ((List.range g.length).map fun k => (g.getD k []).length).sum := by
  unfold edges
  congr 1
  refine List.ext_getElem (by simp) fun i h1 h2 => ?_
  simp at h1 h2
  simp [h1]
theorem edges_prod {nx : List (List Int)} {mu no s l : List Nat} : edges (prodG nx mu no s l) ≤ (s.length + l.length) * edges nx := by
  rw [edges_range nx, ← sum_mod]
  unfold edges prodG
  rw [List.map_map]
  refine sum_le _ _ _ fun x _ => ?_
  show (prodRow nx mu no s l (x / nx.length) (x % nx.length)).length ≤ _
  unfold prodRow
  split
  · rw [List.length_map]; exact List.length_filter_le _ _
  · exact Nat.zero_le _
/-- what accepts looks at so far -/
theorem filt_next {st : List Int} {p : Int → Bool} {i : Nat} (h : i < st.length) : (st.take (i + 1)).filter p = (st.take i).filter p ++ if p st[i] = true then [st[i]] else [] := by
  rw [← List.take_append_getElem h, List.filter_append]
  congr 1
  by_cases e : p st[i] = true
  · rw [if_pos e]; simp [e]
  · rw [if_neg e]; simp [e]
theorem rch_lt {g : Graph} {f : List Int} {x : Nat} (hg : okG g) (hf : okL g.length f) (h : Rch g f x) : x < g.length := by
  cases h with
  | base hx => have := hf _ hx; omega
  | step _ hx => have := okG_row hg _ _ hx; omega
theorem accepts_ok (w0 : World) {v0 : Value} {A : LAuto} {s l : List Nat} {so lo : Option Addr} {sc lc : Nat} (ha : AutoAt w0 (Old w0) v0 A) (hok : OkA A) (hs : Sl w0 (Old w0) so sc s) (hl : Sl w0 (Old w0) lo lc l)
    (h0 : 0 < l.length) (h60 : s.length + l.length ≤ 60) (hT : edges A.2.1 + A.1.length ≤ 8589934592) (hn0 : 0 < A.2.1.length) :
    Rt Try.prog 88 [v0, wordV so sc lo lc s l, .int .i64 (A.2.1.length : Nat)].toArray w0 fun v w' => v = .bool (accB A (lat s l)) ∧ Ext w0 w' := by
  obtain ⟨a1, c1, a2, c2, a3, c3, a4, c4, a5, c5, hv0, h1, h2, h3, h4, h5⟩ := ha.ok
  obtain ⟨st, nx, mu, no, fr⟩ := A
  dsimp only at *
  have hmu := hok.mu; have hno := hok.no; have hst := hok.st; have hnx := hok.nx; have hfr := hok.fr; have hn48 := hok.n
  dsimp only at hmu hno hst hnx hfr hn48
  have hm1 := h1.len63
  refine Rt.enter3 Try.func88 Try.ntmps88 rfl rfl ?_
  have hE := Ext.refl w0
  (repeat (first | (apply CW.seq) | (apply CW.region)))
  refine WL.boxB rfl rfl rfl fun w1 hb3 e1 => ?_
  have hE := hE.trans e1
  skip
  refine WL.boxB rfl rfl rfl fun w2 hb4 e2 => ?_
  have hb3 := hb3.ext e2
  have hE := hE.trans e2
  subst hv0
  (repeat (first | (apply WL.pure; rfl; rfl; rfl) | (apply WL.nil) | (apply EX.thenN) | (apply CW.seq) | (apply CW.region) | (apply WL.ldA; rfl; rfl; rfl; assumption; rfl)))
  have hrow : ∀ r ∈ nx, r.length ≤ 8589934592 := fun r hr => by
    obtain ⟨i, hi, rfl⟩ := List.mem_iff_getElem.1 hr
    have := row_edges hi; omega
  refine WL.call rfl rfl rfl (product_ok w2 (A := (st, nx, mu, no, fr)) ⟨a1, c1, a2, c2, a3, c3, a4, c4, a5, c5, rfl, h1.up hE, h2.up hE, h3.up hE, h4.up hE, h5.up hE⟩ hok (hs.up hE) (hl.up hE) h0 h60 hrow) ?_
  rintro gV w3 ⟨vs, hN, e3⟩
  have hb3 := hb3.ext e3
  have hb4 := hb4.ext e3
  have hE := hE.trans e3
  obtain ⟨go, gc, rfl, hg⟩ := hN.old.sl
  have hgok : okG (prodG nx mu no s l) := prodG_ok hnx h0
  have hgl : (prodG nx mu no s l).length = nx.length * (s.length + l.length) := by simp [prodG]
  have hge := edges_prod (nx := nx) (mu := mu) (no := no) (s := s) (l := l)
  have hge2 : (s.length + l.length) * edges nx ≤ 60 * edges nx := Nat.mul_le_mul_right _ h60
  have hgl2 : nx.length * (s.length + l.length) ≤ 2048 * 60 := Nat.mul_le_mul hn48 h60
  obtain ⟨g, hgd⟩ : ∃ g, g = prodG nx mu no s l := ⟨_, rfl⟩
  rw [← hgd] at hg hgok hgl hge ⊢
  clear hN
  (repeat (first | (apply WL.pure; rfl; rfl; rfl) | (apply WL.nil) | (apply EX.thenN) | (apply CW.seq) | (apply CW.region)))
  have hT0 : Ext w0 (drew w3) := hE.trans (Ext.drew w3)
  have hSE : ∀ x, (fun x => Ext w3 x) x → Ext w3 x := fun _ h => h
  refine CW.drawH (fun x => Ext w3 x) [(0, true), (1, true), (3, true), (4, true), (2, false), (5, false), (6, false), (7, false), (8, true)] mixed (by kernel_rfl) (Ext.drew w3) ?_
  (repeat (first | (refine HL.fa rfl rfl rfl rfl ?_) | (refine HL.ld (by assumption) rfl rfl rfl rfl (by assumption) rfl ?_)))
  refine HL.mut rfl (WL.call rfl rfl rfl (clone_u64 (drew w3) (hs.up hT0) (fun _ h => h) (by omega)) ?_)
  rintro cV w4 ⟨hoc, e4⟩
  have hT4 : Ext w3 w4 := (Ext.drew w3).trans e4
  refine WL.nil (EX.mut hT4 ?_)
  skip
  have hE4 := hE.trans hT4
  refine HL.mut rfl (WL.app (F := Non) rfl rfl rfl rfl hoc (hl.up hE4).srcN e4.size (fun _ h => h.elim) (by unfold maxLen; omega) (by omega) (fun wV w5 how hg5 _ => ?_))
  have hT5 : Ext w3 w5 := hT4.grown hg5 hT4.size (fun g hg => Nat.le_trans (Ext.drew w3).size (hoc.lt g hg).1)
  refine WL.nil (EX.mut hT5 ?_)
  skip
  obtain ⟨wo, wc, rfl, hall⟩ := how.oldN.sl
  have hal : 0 < (s ++ l).length := by rw [List.length_append]; omega
  refine HL.elemM (k := 0) hT5 rfl rfl rfl rfl rfl rfl rfl hall hal (fun _ => rfl) (fun u q hu => ?_)
  obtain ⟨rfl, hu64⟩ := hu.u64
  rw [lat_app hal] at hu64 ⊢
  (repeat (first | (apply HL.pure; rfl; rfl; rfl; rfl) | (apply HL.nil)))
  have hb3 := hb3.ext hT5
  have hE := hE.trans hT5
  have hg := hg.up hT5
  have hfit0 : ∀ k : Nat, k < nx.length → fitB mu no k (lat s l 0) = fitB mu no (k : Int).toNat (lat s l 0) := fun k _ => by rw [Int.toNat_natCast]
  clear e1 e2 e3 e4 hT0 hT4 hT5 hE4 how hg5 hoc hb4 hSE
  (repeat (first | (apply WL.pure; rfl; rfl; rfl) | (apply WL.nil) | (apply EX.thenN) | (apply CW.seq) | (apply CW.region) | (apply WL.lenS; rfl; rfl; rfl) | (apply WL.fa; rfl; rfl; rfl) | (apply WL.ld; rfl; rfl; rfl; assumption; rfl) | (apply CW.block)))
  refine CW.loop (S := Nat × Value) (fun x => [(2, .int .i64 nx.length), (3, .pointer (some ⟨w0.heap.size, 0, none⟩)), (7, .slice go g.length gc), (8, x.2), (9, .int .u64 (lat s l 0 : Nat)), (35, .slice a1 st.length c1), (36, .int .i64 st.length), (37, .int .i64 x.1)])
    (fun x w => x.1 ≤ st.length ∧ Own w w5.heap.size 3 Non x.2 ((st.take x.1).filter fun k => fitB mu no k.toNat (lat s l 0)) ∧ Ext w5 w) (fun x => st.length - x.1) (0, .slice none 0 0) (by repeat (first | exact trivial | refine ⟨rfl, ?_⟩)) ⟨Nat.zero_le _, Own.nil, Ext.refl _⟩ ?_
  rintro ⟨i, fV⟩ w6 ⟨hi, hof, e6⟩
  dsimp only at hi hof ⊢
  have hE6 := hE.trans e6
  have hb6 := hb3.ext e6
  (repeat (first | (apply WL.pure; rfl; rfl; rfl) | (apply WL.nil) | (apply EX.thenN) | (apply CW.seq) | (apply CW.region)))
  refine CW.cond rfl (fun h => ?_) (fun h => ?_)
  · have hi' : i < st.length := by simp at h; omega
    have hk := hst _ (List.getElem_mem hi')
    obtain ⟨k, ek⟩ := Int.eq_ofNat_of_zero_le hk.1
    have hkn : k < nx.length := by omega
    have hnext := filt_next (p := fun k => fitB mu no k.toNat (lat s l 0)) hi'
    rw [ek, Int.toNat_natCast] at hnext
    (repeat (first | (apply EX.thenN) | (apply CW.seq) | (apply CW.region) | (apply CW.block) | (apply CW.skip)))
    refine WL.elemI rfl rfl rfl rfl rfl (h1.at hE6) hi' ek (fun _ => rfl) (fun q => ?_)
    (repeat (first | (apply WL.pure; rfl; rfl; rfl) | (apply WL.nil) | (apply EX.thenN) | (apply CW.seq) | (apply CW.region) | (apply WL.ldA; rfl; rfl; rfl; assumption; rfl)))
    refine WL.call rfl rfl rfl (Fits_ok w6 (h3.up hE6) (h4.up hE6) k (lat s l 0) (by omega) (by omega) hu64) ?_
    rintro _ w7 ⟨rfl, e7⟩
    have hof := hof.extN e7
    have e7 := e6.trans e7
    have hfl : ((st.take i).filter fun k => fitB mu no k.toNat (lat s l 0)).length ≤ st.length := Nat.le_trans (List.length_filter_le _ _) (by rw [List.length_take]; omega)
    (repeat (first | (apply WL.nil) | (apply EX.thenN)))
    refine CW.cond rfl (fun hf => ?_) (fun hf => ?_)
    · rw [if_pos hf] at hnext
      (repeat (first | (apply WL.pure; rfl; rfl; rfl) | (apply CW.region)))
      refine WL.app1 (F := Non) (yv := (k : Int)) rfl rfl (fun _ => rfl) rfl rfl (fun _ => rfl) hof (Rd.mkInt _ _ _) e7.size (fun _ h => h.elim) (by decide) (by unfold maxLen; omega) (by omega) (fun v' w8 p ho8 hg8 hnb => ?_)
      rw [← hnext] at ho8
      have e8 : Ext w5 w8 := e7.grown hg8 e7.size (fun b hb => (hof.lt b hb).1)
      (repeat (first | (apply WL.add; rfl; rfl; rfl; rfl; omega; omega) | (apply WL.pure; rfl; rfl; rfl) | (apply WL.nil) | (apply EX.thenN) | (apply CW.region) | (apply EX.inN)))
      exact EX.back (i + 1, v') (by repeat (first | exact trivial | refine ⟨rfl, ?_⟩)) ⟨hi', ho8, e8⟩ (by dsimp only; omega)
    · rw [if_neg (by rw [hf]; simp), List.append_nil] at hnext
      (repeat (first | (apply WL.add; rfl; rfl; rfl; rfl; omega; omega) | (apply WL.pure; rfl; rfl; rfl) | (apply WL.nil) | (apply EX.thenN) | (apply CW.region) | (apply EX.inN) | (apply CW.skip)))
      exact EX.back (i + 1, fV) (by repeat (first | exact trivial | refine ⟨rfl, ?_⟩)) ⟨hi', by dsimp only; rw [hnext]; exact hof, e7⟩ (by dsimp only; omega)
  obtain rfl : i = st.length := by simp at h; omega
  rw [List.take_length] at hof
  have hofd : (st.filter fun k => fitB mu no k.toNat (lat s l 0)) = fromP st mu no s l := rfl
  rw [hofd] at hof
  have hfok : okL g.length (fromP st mu no s l) := by rw [hgd]; exact fromP_okL hst h0
  have hfl : (fromP st mu no s l).length ≤ st.length := List.length_filter_le _ _
  obtain ⟨fo, fc, rfl, hfs⟩ := hof.oldN.sl
  have hb3 := hb6
  clear hof hb6 h hi
  (repeat (first | (apply WL.pure; rfl; rfl; rfl) | (apply EX.thenN) | (apply CW.seq) | (apply CW.region) | (apply CW.exit) | (apply EX.thenX) | (apply EX.inX)))
  refine WL.call rfl rfl rfl (reached_ok w6 (hg.up e6) hfs hgok hfok (by omega)) ?_
  rintro _ w7 ⟨_, _, li, sm, rfl, hR, hli, hsm, e7⟩
  have hE := hE6.trans e7
  have hb3 := hb3.ext e7
  obtain ⟨lio, lic, rfl, hliS⟩ := hli.sl
  obtain ⟨smo, smc, rfl, hsmS⟩ := hsm.sl
  clear hli hsm
  have hli := hliS
  have hsm := hsmS
  clear hliS hsmS
  have hsmok := hR.okG hgok
  have hsml := hR.len
  have hlil : li.length ≤ g.length := by
    have hnd : (li.map Int.toNat).Nodup := by
      rw [List.Nodup, List.pairwise_map]
      refine List.Pairwise.imp_of_mem ?_ hR.nodup
      intro a b ha hb hab e
      have := hR.pos a ha; have := hR.pos b hb
      exact hab (by omega)
    have := nodup_len g.length (li.map Int.toNat) hnd (fun x hx => by
      obtain ⟨y, hy, rfl⟩ := List.mem_map.1 hx
      have h0 := hR.pos y hy
      have h1 := (hR.mem y.toNat).1 (by rw [show ((y.toNat : Nat) : Int) = y by omega]; exact hy)
      exact rch_lt hgok hfok h1)
    simpa using this
  clear e6 hE6
  (repeat (first | (apply WL.pure; rfl; rfl; rfl) | (apply WL.nil) | (apply EX.thenN) | (apply CW.seq) | (apply CW.region)))
  refine WL.call rfl rfl rfl (Split_ok w7 hsm (fun _ h => h) hsmok (by omega)) ?_
  rintro _ w8 ⟨part, hop, hP, e8⟩
  have hE := hE.trans e8
  have hb3 := hb3.ext e8
  have hli := hli.up e8
  have hsm := hsm.up e8
  obtain ⟨po, pc, rfl, hp⟩ := hop.oldN.sl
  have hpl := hP.len
  clear e7 e8 hop
  (repeat (first | (apply WL.pure; rfl; rfl; rfl) | (apply WL.nil) | (apply EX.thenN) | (apply CW.seq) | (apply CW.region)))
  refine WL.call rfl rfl rfl (round_ok w8 hsm hp hsmok hP (by omega)) ?_
  rintro gdV w9 ⟨good, hgo, hgol, hgood, e9⟩
  have hb9 := hb3.ext e9
  have hm5 := h5.len63
  have hm6 := hli.len63
  (repeat (first | (apply WL.pure; rfl; rfl; rfl) | (apply WL.nil) | (apply EX.thenN) | (apply CW.seq) | (apply CW.region) | (apply WL.lenS; rfl; rfl; rfl) | (apply WL.fa; rfl; rfl; rfl) | (apply WL.ld; rfl; rfl; rfl; assumption; rfl) | (apply CW.block)))
  refine CW.loop (S := Nat × List Bool) (fun x => [(2, .int .i64 nx.length), (12, .slice lio li.length lic), (13, .slice smo sm.length smc), (14, .slice po part.length pc), (15, gdV), (62, .slice a5 fr.length c5), (63, .int .i64 fr.length), (64, .int .i64 x.1)])
    (fun x w => x.1 ≤ fr.length ∧ Own w w8.heap.size 4 Non gdV x.2 ∧ x.2.length = sm.length ∧ (∀ c, c < sm.length → (x.2.getD c false = true ↔ (∃ u, u < sm.length ∧ part.getD u 0 = c ∧ ∃ to ∈ sm.getD u [], part.getD to.toNat 0 = c) ∧ ∀ F ∈ fr.take x.1, ∃ y, y < sm.length ∧ ((ndAt li y % nx.length : Nat) : Int) ∈ F ∧ part.getD y 0 = c)) ∧ Ext w8 w) (fun x => fr.length - x.1) (0, good) (by repeat (first | exact trivial | refine ⟨rfl, ?_⟩))
    ⟨Nat.zero_le _, hgo, hgol, fun c hc => by dsimp only; rw [hgood c hc, List.take_zero]; simp, e9⟩ ?_
  clear hgo hgol hgood hb9 e9
  rintro ⟨f, good⟩ w10 ⟨hf, hgo, hgol, hgood, e10⟩
  dsimp only at hf hgo hgol hgood ⊢
  (repeat (first | (apply WL.pure; rfl; rfl; rfl) | (apply WL.nil) | (apply EX.thenN) | (apply CW.seq) | (apply CW.region)))
  refine CW.cond rfl (fun h => ?_) (fun h => ?_)
  · have hf' : f < fr.length := by simp at h; omega
    have hE10 := hE.trans e10
    have hFok := hfr _ (List.getElem_mem hf')
    (repeat (first | (apply EX.thenN) | (apply CW.seq) | (apply CW.region) | (apply CW.block) | (apply CW.skip)))
    refine WL.elemN rfl rfl rfl rfl rfl (h5.at hE10) hf' (fun _ => rfl) (fun u q hu => ?_)
    obtain ⟨Fo, Fc, rfl, hF⟩ := hu.sl
    (repeat (first | (apply WL.pure; rfl; rfl; rfl) | (apply WL.nil) | (apply EX.thenN) | (apply CW.seq) | (apply CW.region)))
    refine WL.call rfl rfl rfl (member_ok w10 hF (fun b hb => Nat.lt_of_lt_of_le hb hE10.size) nx.length (by omega) hFok) ?_
    rintro _ w11 ⟨hom, e11⟩
    have hgo := hgo.extN e11
    have e11 := e10.trans e11
    have hE11 := hE.trans e11
    obtain ⟨mo, mc, rfl, hmem⟩ := hom.oldN.sl
    clear hom hF
    (repeat (first | (apply WL.pure; rfl; rfl; rfl) | (apply WL.nil) | (apply EX.thenN) | (apply CW.seq) | (apply CW.region) | (apply WL.lenS; rfl; rfl; rfl)))
    refine WL.make (α := Bool) rfl rfl rfl rfl (by omega) (by unfold maxLen; omega) (fun w12 ho12 hg12 => ?_)
    have e12 : Ext w11 w12 := (Below.refl _ _).grown hg12 (Nat.le_refl _) (fun k h => by cases h)
    have hglt : ∀ b, gdV.ownBlock = some b → b < w11.heap.size := fun b hb => (hgo.lt b hb).2.1
    (repeat (first | (apply WL.pure; rfl; rfl; rfl) | (apply WL.nil) | (apply EX.thenN) | (apply CW.seq) | (apply CW.region) | (apply WL.lenS; rfl; rfl; rfl) | (apply CW.block)))
    refine CW.loop (S := Nat × List Bool) (fun x => [(2, .int .i64 nx.length), (12, .slice lio li.length lic), (13, .slice smo sm.length smc), (14, .slice po part.length pc), (15, gdV), (18, .slice mo (memL nx.length fr[f]).length mc), (19, .slice (some ⟨w11.heap.size, 0, none⟩) sm.length sm.length), (62, .slice a5 fr.length c5), (63, .int .i64 fr.length), (64, .int .i64 f), (74, .slice lio li.length lic), (75, .int .i64 li.length), (76, .int .i64 x.1)])
      (fun x w => x.1 ≤ li.length ∧ Own w w11.heap.size 4 Non (.slice (some ⟨w11.heap.size, 0, none⟩) sm.length sm.length) x.2 ∧ x.2.length = sm.length ∧ (∀ c, c < sm.length → (x.2.getD c false = true ↔ ∃ y, y < x.1 ∧ ((ndAt li y % nx.length : Nat) : Int) ∈ fr[f] ∧ part.getD y 0 = c)) ∧ Ext w11 w) (fun x => li.length - x.1) (0, List.replicate sm.length false) (by repeat (first | exact trivial | refine ⟨rfl, ?_⟩))
      ⟨Nat.zero_le _, ho12, by simp, fun c hc => by dsimp only; rw [getD_rep]; simp, e12⟩ ?_
    rintro ⟨i, has⟩ w13 ⟨hi, hoh, hhl, hhas, e13⟩
    dsimp only at hi hoh hhl hhas ⊢
    (repeat (first | (apply WL.pure; rfl; rfl; rfl) | (apply WL.nil) | (apply EX.thenN) | (apply CW.seq) | (apply CW.region)))
    refine CW.cond rfl (fun h => ?_) (fun h => ?_)
    · have hi' : i < li.length := by simp at h; omega
      have hli13 := hli.up (e11.trans e13)
      have hp13 := hp.up (e11.trans e13)
      have hx0 := hR.pos _ (List.getElem_mem hi')
      obtain ⟨x, ex⟩ := Int.eq_ofNat_of_zero_le hx0
      have hnd : ndAt li i = x := by unfold ndAt; rw [getDI_at hi', ex]; omega
      have hip : i < part.length := by omega
      have hp0 := hP.ge i hip
      have hp1 := hP.lt i hip
      obtain ⟨c0, ec0⟩ := Int.eq_ofNat_of_zero_le hp0
      have hc0 : c0 < sm.length := by omega
      have hpc : part[i] = (c0 : Int) := by rw [← getDI_at hip]; exact ec0
      have hch : c0 < has.length := by omega
      have hxn : x % nx.length < (memL nx.length fr[f]).length := by rw [memL_len]; exact Nat.mod_lt _ hn0
      (repeat (first | (apply WL.pure; rfl; rfl; rfl) | (apply EX.thenN) | (apply CW.seq) | (apply CW.region) | (apply CW.block) | (apply CW.skip)))
      refine WL.elemI rfl rfl rfl rfl rfl hli13 hi' ex (fun _ => rfl) (fun q => ?_)
      (repeat (apply WL.pure; rfl; rfl; rfl))
      apply WL.nil
      apply EX.thenN
      have hd := Ext.drew w13
      have hpd := hp.at ((e11.trans e13).trans hd)
      have hmd := hmem.at (e13.trans hd)
      have hohd := hoh.extN hd
      obtain ⟨ho', hc', hv', hhs⟩ := hohd.slF (F' := fun b => b = w11.heap.size) (fun _ h => h.elim) (fun g hg => by cases hg; rfl)
      obtain ⟨rfl, _, rfl⟩ := Value.slice.inj hv'
      rw [← hhl] at hhs
      have hKK : ∀ (F : Nat → Prop) z, (fun x : World => x = drew w13) z → ∀ b, F b → z.heap[b]? = (drew w13).heap[b]? := fun F z hz b _ => by rw [hz]
      refine CW.drawE (fun x : World => x = drew w13) [(0, true), (1, true), (2, true), (3, true), (4, true), (5, true), (6, true), (7, true), (8, true), (9, true), (10, true), (11, true), (12, true), (13, true), (14, true), (15, true), (16, true), (17, true), (18, true), (19, true), (20, true)] 21 mixed (by kernel_rfl) rfl ?_
      (repeat (apply HL.pure; rfl; rfl; rfl; rfl))
      refine HL.elemK (w := drew w13) (F := Old w8) (hKK _) rfl rfl rfl rfl rfl rfl rfl hpd hip (fun _ => rfl) (fun u q hu => ?_)
      obtain rfl := hu.int
      rw [hpc]
      (repeat (apply HL.pure; rfl; rfl; rfl; rfl))
      refine HL.elemK (w := drew w13) (F := Old w8) (hKK _) rfl rfl rfl rfl rfl rfl rfl hpd hip (fun _ => rfl) (fun u q hu => ?_)
      obtain rfl := hu.int
      rw [hpc]
      skip
      rw [← hhl]
      refine HL.elemK (w := drew w13) (F := fun b => b = w11.heap.size) (hKK _) rfl rfl rfl rfl rfl rfl rfl hhs hch (fun _ => rfl) (fun u q hu => ?_)
      obtain rfl := hu.bool
      rw [hhl]
      have hstep : ∀ (b : Bool), (b = true ↔ has[c0] = true ∨ ((x % nx.length : Nat) : Int) ∈ fr[f]) → ∀ w', Own w' w11.heap.size 4 Non (.slice (some ⟨w11.heap.size, 0, none⟩) sm.length sm.length) (has.set c0 b) → Ext w11 w' →
          (i + 1 ≤ li.length ∧ Own w' w11.heap.size 4 Non (.slice (some ⟨w11.heap.size, 0, none⟩) sm.length sm.length) (has.set c0 b) ∧ (has.set c0 b).length = sm.length ∧ (∀ c, c < sm.length → ((has.set c0 b).getD c false = true ↔ ∃ y, y < i + 1 ∧ ((ndAt li y % nx.length : Nat) : Int) ∈ fr[f] ∧ part.getD y 0 = c)) ∧ Ext w11 w') := by
        intro b hb w' ho he
        refine ⟨hi', ho, by simpa using hhl, fun c hc => ?_, he⟩
        have hsplit : (∃ y, y < i + 1 ∧ ((ndAt li y % nx.length : Nat) : Int) ∈ fr[f] ∧ part.getD y 0 = c) ↔ (∃ y, y < i ∧ ((ndAt li y % nx.length : Nat) : Int) ∈ fr[f] ∧ part.getD y 0 = c) ∨ (((x % nx.length : Nat) : Int) ∈ fr[f] ∧ c0 = c) := by
          constructor
          · rintro ⟨y, hy1, hy2, hy3⟩
            by_cases e : y = i
            · subst e; rw [hnd] at hy2; exact .inr ⟨hy2, by omega⟩
            · exact .inl ⟨y, by omega, hy2, hy3⟩
          · rintro (⟨y, hy1, hy2⟩ | ⟨hy1, hy2⟩)
            · exact ⟨y, by omega, hy2⟩
            · exact ⟨i, by omega, by rw [hnd]; exact hy1, by omega⟩
        rw [getD_set hch, hsplit]
        by_cases e : c0 = c
        · subst e
          rw [if_pos rfl, hb, ← getB_at hch, hhas _ hc]
          simp
        · rw [if_neg e, hhas c hc]
          simp [e]
      by_cases hh : has[c0] = true
      · rw [hh]
        (repeat (first | (apply HL.pure; rfl; rfl; rfl; rfl) | (apply HL.pass; rfl; rfl; rfl)))
        refine HL.setTail (yv := true) rfl rfl rfl rfl rfl rfl hohd hch (fun _ => rfl) (fun _ => rfl) (Rd.mkBool _ _ _) (fun w14 q ho14 hg14 => ?_)
        have e14 : Ext w11 w14 := (e13.trans hd).grown hg14 (e13.trans hd).size (fun b hb => (hohd.lt b hb).1)
        (repeat (first | (apply WL.add; rfl; rfl; rfl; rfl; omega; omega) | (apply WL.pure; rfl; rfl; rfl) | (apply WL.nil) | (apply EX.thenN) | (apply CW.region) | (apply EX.inN)))
        exact EX.back (i + 1, has.set c0 true) (by repeat (first | exact trivial | refine ⟨rfl, ?_⟩)) (hstep true (by simp [hh]) _ ho14 e14) (by dsimp only; omega)
      · have hh : has[c0] = false := by simpa using hh
        rw [hh]
        (repeat (apply HL.pure; rfl; rfl; rfl; rfl))
        refine HL.rem rfl rfl rfl rfl rfl (by omega) (by omega) ?_
        rw [show (x : Int) % (nx.length : Int) = ((x % nx.length : Nat) : Int) from (Int.natCast_emod _ _).symm]
        skip
        refine HL.elemK (w := drew w13) (F := Old w11) (hKK _) rfl rfl rfl rfl rfl rfl rfl hmd hxn (fun _ => rfl) (fun u q hu => ?_)
        obtain rfl := hu.bool
        rw [memL_get (Nat.mod_lt _ hn0)]
        (repeat (apply HL.pure; rfl; rfl; rfl; rfl))
        refine HL.setTail (yv := decide (((x % nx.length : Nat) : Int) ∈ fr[f])) rfl rfl rfl rfl rfl rfl hohd hch (fun _ => rfl) (fun _ => rfl) (Rd.mkBool _ _ _) (fun w14 q ho14 hg14 => ?_)
        have e14 : Ext w11 w14 := (e13.trans hd).grown hg14 (e13.trans hd).size (fun b hb => (hohd.lt b hb).1)
        (repeat (first | (apply WL.add; rfl; rfl; rfl; rfl; omega; omega) | (apply WL.pure; rfl; rfl; rfl) | (apply WL.nil) | (apply EX.thenN) | (apply CW.region) | (apply EX.inN)))
        exact EX.back (i + 1, has.set c0 _) (by repeat (first | exact trivial | refine ⟨rfl, ?_⟩)) (hstep _ (by simp [hh]) _ ho14 e14) (by dsimp only; omega)
    · obtain rfl : i = li.length := by simp at h; omega
      have hgo13 := hgo.extN e13
      have e13' := e11.trans e13
      (repeat (first | (apply WL.pure; rfl; rfl; rfl) | (apply WL.nil) | (apply EX.thenN) | (apply CW.seq) | (apply CW.region) | (apply CW.block) | (apply CW.exit) | (apply EX.thenX) | (apply EX.inX) | (refine WL.lenO rfl rfl rfl (by assumption) ?_)))
      refine CW.loop (S := Nat × List Bool) (fun x => [(2, .int .i64 nx.length), (12, .slice lio li.length lic), (13, .slice smo sm.length smc), (14, .slice po part.length pc), (15, gdV), (19, .slice (some ⟨w11.heap.size, 0, none⟩) sm.length sm.length), (62, .slice a5 fr.length c5), (63, .int .i64 fr.length), (64, .int .i64 f), (104, .int .i64 sm.length), (105, .int .i64 x.1)])
        (fun x w => x.1 ≤ sm.length ∧ Own w w8.heap.size 4 Non gdV x.2 ∧ x.2.length = sm.length ∧ (∀ c, c < sm.length → x.2.getD c false = if c < x.1 then good.getD c false && has.getD c false else good.getD c false) ∧ Own w w11.heap.size 4 Non (.slice (some ⟨w11.heap.size, 0, none⟩) sm.length sm.length) has ∧ Ext w8 w) (fun x => sm.length - x.1) (0, good) ?_
        ⟨Nat.zero_le _, hgo13, hgol, fun c hc => by dsimp only; rw [if_neg (by omega)], hoh, e13'⟩ ?_
      · rw [hgol]; exact (by repeat (first | exact trivial | refine ⟨rfl, ?_⟩))
      rintro ⟨k, gd'⟩ w14 ⟨hk, hg14, hgl14, hgd14, hoh, e14⟩
      dsimp only at hk hg14 hgl14 hgd14 hoh ⊢
      (repeat (first | (apply WL.pure; rfl; rfl; rfl) | (apply WL.nil) | (apply EX.thenN) | (apply CW.seq) | (apply CW.region)))
      refine CW.cond rfl (fun h => ?_) (fun h => ?_)
      · have hk' : k < sm.length := by simp at h; omega
        have hkg : k < gd'.length := by omega
        have hkh : k < has.length := by omega
        have hgk : gd'[k] = good.getD k false := by rw [← getB_at hkg, hgd14 k hk', if_neg (by omega)]
        have hst : ∀ b : Bool, b = (good.getD k false && has.getD k false) → ∀ c, c < sm.length → (gd'.set k b).getD c false = if c < k + 1 then good.getD c false && has.getD c false else good.getD c false := by
          intro b hb c hc
          rw [getD_set hkg]
          by_cases e : k = c
          · subst e; rw [if_pos rfl, if_pos (by omega), hb]
          · rw [if_neg e, hgd14 c hc]
            by_cases h1 : c < k
            · rw [if_pos h1, if_pos (by omega)]
            · rw [if_neg h1, if_neg (by omega)]
        (repeat (first | (apply WL.pure; rfl; rfl; rfl) | (apply WL.nil) | (apply EX.thenN) | (apply CW.seq) | (apply CW.region) | (apply CW.block) | (apply CW.skip)))
        refine WL.elemON rfl rfl rfl rfl rfl hg14 hkg (fun _ => rfl) (fun u q hu => ?_)
        obtain rfl := hu.bool
        rw [hgk]
        (repeat (apply WL.pure; rfl; rfl; rfl))
        by_cases hgt : good.getD k false = true
        · rw [hgt]
          (repeat (apply WL.pure; rfl; rfl; rfl))
          refine WL.elemON rfl rfl rfl rfl rfl hoh hkh (fun _ => rfl) (fun u q hu => ?_)
          obtain rfl := hu.bool
          (repeat (apply WL.pure; rfl; rfl; rfl))
          refine WL.setN (u := .bool has[k]) (yv := has[k]) rfl rfl rfl rfl hg14 hkg (fun _ => rfl) (fun _ => rfl) (Rd.mkBool _ _ _) (fun w15 q ho15 hg15 => ?_)
          have e15 : Ext w8 w15 := e14.grown hg15 e14.size (fun b hb => (hg14.lt b hb).1)
          have hoh15 := hoh.keptN hg15 (fun g hg e => by cases hg; exact absurd (hglt _ e.symm) (Nat.lt_irrefl _))
          (repeat (first | (apply WL.add; rfl; rfl; rfl; rfl; omega; omega) | (apply WL.pure; rfl; rfl; rfl) | (apply WL.nil) | (apply EX.thenN) | (apply CW.region) | (apply EX.inN)))
          exact EX.back (k + 1, gd'.set k has[k]) (by repeat (first | exact trivial | refine ⟨rfl, ?_⟩)) ⟨hk', ho15, by simpa using hgl14, hst _ (by rw [hgt, getB_at hkh]; rfl), hoh15, e15⟩ (by dsimp only; omega)
        · have hgt : good.getD k false = false := by simpa using hgt
          rw [hgt]
          (repeat (first | (apply WL.pure; rfl; rfl; rfl) | (apply WL.pass; rfl; rfl)))
          refine WL.setN (u := .bool false) (yv := false) rfl rfl rfl rfl hg14 hkg (fun _ => rfl) (fun _ => rfl) (Rd.mkBool _ _ _) (fun w15 q ho15 hg15 => ?_)
          have e15 : Ext w8 w15 := e14.grown hg15 e14.size (fun b hb => (hg14.lt b hb).1)
          have hoh15 := hoh.keptN hg15 (fun g hg e => by cases hg; exact absurd (hglt _ e.symm) (Nat.lt_irrefl _))
          (repeat (first | (apply WL.add; rfl; rfl; rfl; rfl; omega; omega) | (apply WL.pure; rfl; rfl; rfl) | (apply WL.nil) | (apply EX.thenN) | (apply CW.region) | (apply EX.inN)))
          exact EX.back (k + 1, gd'.set k false) (by repeat (first | exact trivial | refine ⟨rfl, ?_⟩)) ⟨hk', ho15, by simpa using hgl14, hst _ (by rw [hgt]; rfl), hoh15, e15⟩ (by dsimp only; omega)
      · obtain rfl : k = sm.length := by simp at h; omega
        (repeat (first | (apply WL.add; rfl; rfl; rfl; rfl; omega; omega) | (apply WL.pure; rfl; rfl; rfl) | (apply WL.nil) | (apply EX.thenN) | (apply CW.region) | (apply EX.inN) | (apply CW.exit) | (apply EX.thenX) | (apply EX.inX)))
        refine EX.back (f + 1, gd') (by repeat (first | exact trivial | refine ⟨rfl, ?_⟩)) ⟨hf', hg14, hgl14, fun c hc => ?_, e14⟩ (by dsimp only; omega)
        dsimp only
        rw [hgd14 c hc, if_pos hc, Bool.and_eq_true, hgood c hc, hhas c hc, ← List.take_append_getElem hf', and_assoc]
        refine and_congr Iff.rfl ⟨fun ⟨h1, h2⟩ F hF => ?_, fun h1 => ⟨fun F hF => h1 F (List.mem_append.2 (.inl hF)), ?_⟩⟩
        · rcases List.mem_append.1 hF with hF | hF
          · exact h1 F hF
          · rw [List.mem_singleton] at hF; subst hF; rw [hsml]; exact h2
        · have := h1 fr[f] (List.mem_append.2 (.inr (by simp)))
          rw [hsml] at this; exact this
  · obtain rfl : f = fr.length := by simp at h; omega
    rw [List.take_length] at hgood
    obtain ⟨ggo, ggc, rfl, hgs⟩ := hgo.oldN.sl
    (repeat (first | (apply WL.pure; rfl; rfl; rfl) | (apply EX.thenN) | (apply CW.seq) | (apply CW.region) | (apply CW.exit) | (apply EX.thenX) | (apply EX.inX)))
    refine WL.call rfl rfl rfl (contains_bool w10 true hgs) ?_
    rintro _ w11 ⟨rfl, e11⟩
    (repeat (first | (apply WL.pure; rfl; rfl; rfl) | (apply WL.nil) | (apply EX.thenN) | (apply CW.ret)))
    refine EX.ret1 rfl rfl ⟨?_, (hE.trans e10).trans e11⟩
    congr 1
    rw [Bool.eq_iff_iff, accB_iff, List.contains_iff_mem]
    rw [hgd] at hR
    exact (acc_good hnx hst h0 hR hP hgol hgood).symm.symm
end Go.Proofs.Ythefpigolikmeaa
