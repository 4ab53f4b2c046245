import Derived.Test.YtadbkppgaekmpaaPtAutoOwn13
/-
  Package auto: accepts, Accepts.
-/
set_option linter.unusedVariables false
set_option linter.unusedSimpArgs false
namespace Go.Proofs.Ytadbkppgaekmpaa
open Go.RowKit

open Classical in
noncomputable def accB (A : LAuto) (L : Nat → Nat) : Bool := decide (Acc A.1 A.2.1 A.2.2.1 A.2.2.2.1 A.2.2.2.2 L)
theorem accB_iff {A : LAuto} {L : Nat → Nat} : accB A L = true ↔ Acc A.1 A.2.1 A.2.2.1 A.2.2.2.1 A.2.2.2.2 L := by unfold accB; simp
theorem sum_mod {n : Nat} (L : Nat → Nat) : ∀ m, ((List.range (n * m)).map fun x => L (x % n)).sum = m * ((List.range n).map L).sum
  | 0 => by simp
  | m + 1 => by
    rw [Nat.mul_add, Nat.mul_one, List.range_add, List.map_append, List.sum_append, sum_mod L m, Nat.add_mul, Nat.one_mul, List.map_map]
    congr 2
    refine List.map_congr_left fun x hx => ?_
    have hx := List.mem_range.1 hx
    show L ((n * m + x) % n) = L x
    rw [Nat.mul_add_mod, Nat.mod_eq_of_lt hx]
theorem sum_le : ∀ (l : List Nat) (f g : Nat → Nat), (∀ x ∈ l, f x ≤ g x) → (l.map f).sum ≤ (l.map g).sum
  | [], _, _, _ => Nat.le_refl _
  | x :: r, f, g, h => by
    have h1 := h x (by simp)
    have h2 := sum_le r f g (fun y hy => h y (by simp [hy]))
    simp only [List.map_cons, List.sum_cons]
    omega
theorem edges_range (g : Graph) : edges g = ((List.range g.length).map fun k => (g.getD k []).length).sum := by
  unfold edges
  congr 1
  refine List.ext_getElem (by simp) fun i h1 h2 => ?_
  simp at h1 h2
  simp [h1]
theorem edges_prod {nx : List (List Int)} {mu no s l : List Nat} : edges (prodG nx mu no s l) ≤ (s.length + l.length) * edges nx := by
  rw [edges_range nx, ← sum_mod]
  unfold edges prodG
  rw [List.map_map]
  refine sum_le _ _ _ fun x _ => ?_
  show (prodRow nx mu no s l (x / nx.length) (x % nx.length)).length ≤ _
  unfold prodRow
  split
  · rw [List.length_map]; exact List.length_filter_le _ _
  · exact Nat.zero_le _
/-- what accepts looks at so far -/
theorem filt_next {st : List Int} {p : Int → Bool} {i : Nat} (h : i < st.length) : (st.take (i + 1)).filter p = (st.take i).filter p ++ if p st[i] = true then [st[i]] else [] := by
  rw [← List.take_append_getElem h, List.filter_append]
  congr 1
  by_cases e : p st[i] = true
  · rw [if_pos e]; simp [e]
  · rw [if_neg e]; simp [e]
theorem rch_lt {g : Graph} {f : List Int} {x : Nat} (hg : okG g) (hf : okL g.length f) (h : Rch g f x) : x < g.length := by
  cases h with
  | base hx => have := hf _ hx; omega
  | step _ hx => have := okG_row hg _ _ hx; omega
theorem accepts_ok (w0 : World) {v0 : Value} {A : LAuto} {s l : List Nat} {so lo : Option Addr} {sc lc : Nat} (ha : AutoAt w0 (Old w0) v0 A) (hok : OkA A) (hs : Sl w0 (Old w0) so sc s) (hl : Sl w0 (Old w0) lo lc l)
    (h0 : 0 < l.length) (h60 : s.length + l.length ≤ 60) (hT : edges A.2.1 + A.1.length ≤ 8589934592) (hn0 : 0 < A.2.1.length) :
    Rt Try.prog 75 [v0, wordV so sc lo lc s l, .int .i64 (A.2.1.length : Nat)].toArray w0 fun v w' => v = .bool (accB A (lat s l)) ∧ Ext w0 w' := by
  obtain ⟨a1, c1, a2, c2, a3, c3, a4, c4, a5, c5, hv0, h1, h2, h3, h4, h5⟩ := ha.ok
  obtain ⟨st, nx, mu, no, fr⟩ := A
  dsimp only at *
  have hmu := hok.mu; have hno := hok.no; have hst := hok.st; have hnx := hok.nx; have hfr := hok.fr; have hn48 := hok.n
  dsimp only at hmu hno hst hnx hfr hn48
  have hm1 := h1.len63
  refine Rt.enter3 Try.func75 Try.ntmps75 rfl rfl ?_
  have hE := Ext.refl w0
  (repeat (first | (apply CW.seq) | (apply CW.region)))
  refine WL.boxB rfl rfl rfl fun w1 hb3 e1 => ?_
  have hE := hE.trans e1
  skip
  refine WL.boxB rfl rfl rfl fun w2 hb4 e2 => ?_
  have hb3 := hb3.ext e2
  have hE := hE.trans e2
  subst hv0
  (repeat (first | (apply WL.pure; rfl; rfl; rfl) | (apply WL.nil) | (apply EX.thenN) | (apply CW.seq) | (apply CW.region) | (apply WL.ldA; rfl; rfl; rfl; assumption; rfl)))
  have hrow : ∀ r ∈ nx, r.length ≤ 8589934592 := fun r hr => by
    obtain ⟨i, hi, rfl⟩ := List.mem_iff_getElem.1 hr
    have := row_edges hi; omega
  refine WL.call rfl rfl rfl (product_ok w2 (A := (st, nx, mu, no, fr)) ⟨a1, c1, a2, c2, a3, c3, a4, c4, a5, c5, rfl, h1.up hE, h2.up hE, h3.up hE, h4.up hE, h5.up hE⟩ hok (hs.up hE) (hl.up hE) h0 h60 hrow) ?_
  rintro gV w3 ⟨vs, hN, e3⟩
  have hb3 := hb3.ext e3
  have hb4 := hb4.ext e3
  have hE := hE.trans e3
  obtain ⟨go, gc, rfl, hg⟩ := hN.old.sl
  have hgok : okG (prodG nx mu no s l) := prodG_ok hnx h0
  have hgl : (prodG nx mu no s l).length = nx.length * (s.length + l.length) := by simp [prodG]
  have hge := edges_prod (nx := nx) (mu := mu) (no := no) (s := s) (l := l)
  have hge2 : (s.length + l.length) * edges nx ≤ 60 * edges nx := Nat.mul_le_mul_right _ h60
  have hgl2 : nx.length * (s.length + l.length) ≤ 2048 * 60 := Nat.mul_le_mul hn48 h60
  obtain ⟨g, hgd⟩ : ∃ g, g = prodG nx mu no s l := ⟨_, rfl⟩
  rw [← hgd] at hg hgok hgl hge ⊢
  clear hN
  (repeat (first | (apply WL.pure; rfl; rfl; rfl) | (apply WL.nil) | (apply EX.thenN) | (apply CW.seq) | (apply CW.region)))
  have hT0 : Ext w0 (drew w3) := hE.trans (Ext.drew w3)
  have hSE : ∀ x, (fun x => Ext w3 x) x → Ext w3 x := fun _ h => h
  refine CW.drawH (fun x => Ext w3 x) [(0, true), (1, true), (3, true), (4, true), (2, false), (5, false), (6, false), (7, false), (8, true)] mixed (by kernel_rfl) (Ext.drew w3) ?_
  (repeat (first | (refine HL.fa rfl rfl rfl rfl ?_) | (refine HL.ld (by assumption) rfl rfl rfl rfl (by assumption) rfl ?_)))
  refine HL.mut rfl (WL.call rfl rfl rfl (clone_u64 (drew w3) (hs.up hT0) (fun _ h => h) (by omega)) ?_)
  rintro cV w4 ⟨hoc, e4⟩
  have hT4 : Ext w3 w4 := (Ext.drew w3).trans e4
  refine WL.nil (EX.mut hT4 ?_)
  skip
  have hE4 := hE.trans hT4
  refine HL.mut rfl (WL.app (F := Non) rfl rfl rfl rfl hoc (hl.up hE4).srcN e4.size (fun _ h => h.elim) (by unfold maxLen; omega) (by omega) (fun wV w5 how hg5 _ => ?_))
  have hT5 : Ext w3 w5 := hT4.grown hg5 hT4.size (fun g hg => Nat.le_trans (Ext.drew w3).size (hoc.lt g hg).1)
  refine WL.nil (EX.mut hT5 ?_)
  skip
  obtain ⟨wo, wc, rfl, hall⟩ := how.oldN.sl
  have hal : 0 < (s ++ l).length := by rw [List.length_append]; omega
  refine HL.elemM (k := 0) hT5 rfl rfl rfl rfl rfl rfl rfl hall hal (fun _ => rfl) (fun u q hu => ?_)
  obtain ⟨rfl, hu64⟩ := hu.u64
  rw [lat_app hal] at hu64 ⊢
  (repeat (first | (apply HL.pure; rfl; rfl; rfl; rfl) | (apply HL.nil)))
  have hb3 := hb3.ext hT5
  have hE := hE.trans hT5
  have hg := hg.up hT5
  have hfit0 : ∀ k : Nat, k < nx.length → fitB mu no k (lat s l 0) = fitB mu no (k : Int).toNat (lat s l 0) := fun k _ => by rw [Int.toNat_natCast]
  clear e1 e2 e3 e4 hT0 hT4 hT5 hE4 how hg5 hoc hb4 hSE
  (repeat (first | (apply WL.pure; rfl; rfl; rfl) | (apply WL.nil) | (apply EX.thenN) | (apply CW.seq) | (apply CW.region) | (apply WL.lenS; rfl; rfl; rfl) | (apply WL.fa; rfl; rfl; rfl) | (apply WL.ld; rfl; rfl; rfl; assumption; rfl) | (apply CW.block)))
  refine CW.loop (S := Nat × Value) (fun x => [(2, .int .i64 nx.length), (3, .pointer (some ⟨w0.heap.size, 0, none⟩)), (7, .slice go g.length gc), (8, x.2), (9, .int .u64 (lat s l 0 : Nat)), (35, .slice a1 st.length c1), (36, .int .i64 st.length), (37, .int .i64 x.1)])
    (fun x w => x.1 ≤ st.length ∧ Own w w5.heap.size 3 Non x.2 ((st.take x.1).filter fun k => fitB mu no k.toNat (lat s l 0)) ∧ Ext w5 w) (fun x => st.length - x.1) (0, .slice none 0 0) (by repeat (first | exact trivial | refine ⟨rfl, ?_⟩)) ⟨Nat.zero_le _, Own.nil, Ext.refl _⟩ ?_
  rintro ⟨i, fV⟩ w6 ⟨hi, hof, e6⟩
  dsimp only at hi hof ⊢
  have hE6 := hE.trans e6
  have hb6 := hb3.ext e6
  (repeat (first | (apply WL.pure; rfl; rfl; rfl) | (apply WL.nil) | (apply EX.thenN) | (apply CW.seq) | (apply CW.region)))
  refine CW.cond rfl (fun h => ?_) (fun h => ?_)
  · have hi' : i < st.length := by simp at h; omega
    have hk := hst _ (List.getElem_mem hi')
    obtain ⟨k, ek⟩ := Int.eq_ofNat_of_zero_le hk.1
    have hkn : k < nx.length := by omega
    have hnext := filt_next (p := fun k => fitB mu no k.toNat (lat s l 0)) hi'
    rw [ek, Int.toNat_natCast] at hnext
    (repeat (first | (apply EX.thenN) | (apply CW.seq) | (apply CW.region) | (apply CW.block) | (apply CW.skip)))
    refine WL.elemI rfl rfl rfl rfl rfl (h1.at hE6) hi' ek (fun _ => rfl) (fun q => ?_)
    (repeat (first | (apply WL.pure; rfl; rfl; rfl) | (apply WL.nil) | (apply EX.thenN) | (apply CW.seq) | (apply CW.region) | (apply WL.ldA; rfl; rfl; rfl; assumption; rfl)))
    refine WL.call rfl rfl rfl (Fits_ok w6 (h3.up hE6) (h4.up hE6) k (lat s l 0) (by omega) (by omega) hu64) ?_
    rintro _ w7 ⟨rfl, e7⟩
    have hof := hof.extN e7
    have e7 := e6.trans e7
    have hfl : ((st.take i).filter fun k => fitB mu no k.toNat (lat s l 0)).length ≤ st.length := Nat.le_trans (List.length_filter_le _ _) (by rw [List.length_take]; omega)
    (repeat (first | (apply WL.nil) | (apply EX.thenN)))
    refine CW.cond rfl (fun hf => ?_) (fun hf => ?_)
    · rw [if_pos hf] at hnext
      (repeat (first | (apply WL.pure; rfl; rfl; rfl) | (apply CW.region)))
      refine WL.app1 (F := Non) (yv := (k : Int)) rfl rfl (fun _ => rfl) rfl rfl (fun _ => rfl) hof (Rd.mkInt _ _ _) e7.size (fun _ h => h.elim) (by decide) (by unfold maxLen; omega) (by omega) (fun v' w8 p ho8 hg8 hnb => ?_)
      rw [← hnext] at ho8
      have e8 : Ext w5 w8 := e7.grown hg8 e7.size (fun b hb => (hof.lt b hb).1)
      (repeat (first | (apply WL.add; rfl; rfl; rfl; rfl; omega; omega) | (apply WL.pure; rfl; rfl; rfl) | (apply WL.nil) | (apply EX.thenN) | (apply CW.region) | (apply EX.inN)))
      exact EX.back (i + 1, v') (by repeat (first | exact trivial | refine ⟨rfl, ?_⟩)) ⟨hi', ho8, e8⟩ (by dsimp only; omega)
    · rw [if_neg (by rw [hf]; simp), List.append_nil] at hnext
      (repeat (first | (apply WL.add; rfl; rfl; rfl; rfl; omega; omega) | (apply WL.pure; rfl; rfl; rfl) | (apply WL.nil) | (apply EX.thenN) | (apply CW.region) | (apply EX.inN) | (apply CW.skip)))
      exact EX.back (i + 1, fV) (by repeat (first | exact trivial | refine ⟨rfl, ?_⟩)) ⟨hi', by dsimp only; rw [hnext]; exact hof, e7⟩ (by dsimp only; omega)
  obtain rfl : i = st.length := by simp at h; omega
  rw [List.take_length] at hof
  have hofd : (st.filter fun k => fitB mu no k.toNat (lat s l 0)) = fromP st mu no s l := rfl
  rw [hofd] at hof
  have hfok : okL g.length (fromP st mu no s l) := by rw [hgd]; exact fromP_okL hst h0
  have hfl : (fromP st mu no s l).length ≤ st.length := List.length_filter_le _ _
  obtain ⟨fo, fc, rfl, hfs⟩ := hof.oldN.sl
  have hb3 := hb6
  clear hof hb6 h hi
  (repeat (first | (apply WL.pure; rfl; rfl; rfl) | (apply EX.thenN) | (apply CW.seq) | (apply CW.region) | (apply CW.exit) | (apply EX.thenX) | (apply EX.inX)))
  refine WL.call rfl rfl rfl (reached_ok w6 (hg.up e6) hfs hgok hfok (by omega)) ?_
  rintro _ w7 ⟨_, _, li, sm, rfl, hR, hli, hsm, e7⟩
  have hE := hE6.trans e7
  have hb3 := hb3.ext e7
  obtain ⟨lio, lic, rfl, hliS⟩ := hli.sl
  obtain ⟨smo, smc, rfl, hsmS⟩ := hsm.sl
  clear hli hsm
  have hli := hliS
  have hsm := hsmS
  clear hliS hsmS
  have hsmok := hR.okG hgok
  have hsml := hR.len
  have hlil : li.length ≤ g.length := by
    have hnd : (li.map Int.toNat).Nodup := by
      rw [List.Nodup, List.pairwise_map]
      refine List.Pairwise.imp_of_mem ?_ hR.nodup
      intro a b ha hb hab e
      have := hR.pos a ha; have := hR.pos b hb
      exact hab (by omega)
    have := nodup_len g.length (li.map Int.toNat) hnd (fun x hx => by
      obtain ⟨y, hy, rfl⟩ := List.mem_map.1 hx
      have h0 := hR.pos y hy
      have h1 := (hR.mem y.toNat).1 (by rw [show ((y.toNat : Nat) : Int) = y by omega]; exact hy)
      exact rch_lt hgok hfok h1)
    simpa using this
  clear e6 hE6
  (repeat (first | (apply WL.pure; rfl; rfl; rfl) | (apply WL.nil) | (apply EX.thenN) | (apply CW.seq) | (apply CW.region)))
  refine WL.call rfl rfl rfl (Split_ok w7 hsm (fun _ h => h) hsmok (by omega)) ?_
  rintro _ w8 ⟨part, hop, hP, e8⟩
  have hE := hE.trans e8
  have hb3 := hb3.ext e8
  have hli := hli.up e8
  have hsm := hsm.up e8
  obtain ⟨po, pc, rfl, hp⟩ := hop.oldN.sl
  have hpl := hP.len
  clear e7 e8 hop
  (repeat (first | (apply WL.pure; rfl; rfl; rfl) | (apply WL.nil) | (apply EX.thenN) | (apply CW.seq) | (apply CW.region)))
  refine WL.call rfl rfl rfl (round_ok w8 hsm hp hsmok hP (by omega)) ?_
  rintro gdV w9 ⟨good, hgo, hgol, hgood, e9⟩
  have hb9 := hb3.ext e9
  have hm5 := h5.len63
  have hm6 := hli.len63
  (repeat (first | (apply WL.pure; rfl; rfl; rfl) | (apply WL.nil) | (apply EX.thenN) | (apply CW.seq) | (apply CW.region) | (apply WL.lenS; rfl; rfl; rfl) | (apply WL.fa; rfl; rfl; rfl) | (apply WL.ld; rfl; rfl; rfl; assumption; rfl) | (apply CW.block)))
  refine CW.loop (S := Nat × List Bool) (fun x => [(2, .int .i64 nx.length), (12, .slice lio li.length lic), (13, .slice smo sm.length smc), (14, .slice po part.length pc), (15, gdV), (62, .slice a5 fr.length c5), (63, .int .i64 fr.length), (64, .int .i64 x.1)])
    (fun x w => x.1 ≤ fr.length ∧ Own w w8.heap.size 4 Non gdV x.2 ∧ x.2.length = sm.length ∧ (∀ c, c < sm.length → (x.2.getD c false = true ↔ (∃ u, u < sm.length ∧ part.getD u 0 = c ∧ ∃ to ∈ sm.getD u [], part.getD to.toNat 0 = c) ∧ ∀ F ∈ fr.take x.1, ∃ y, y < sm.length ∧ ((ndAt li y % nx.length : Nat) : Int) ∈ F ∧ part.getD y 0 = c)) ∧ Ext w8 w) (fun x => fr.length - x.1) (0, good) (by repeat (first | exact trivial | refine ⟨rfl, ?_⟩))
    ⟨Nat.zero_le _, hgo, hgol, fun c hc => by dsimp only; rw [hgood c hc, List.take_zero]; simp, e9⟩ ?_
  clear hgo hgol hgood hb9 e9
  rintro ⟨f, good⟩ w10 ⟨hf, hgo, hgol, hgood, e10⟩
  dsimp only at hf hgo hgol hgood ⊢
  (repeat (first | (apply WL.pure; rfl; rfl; rfl) | (apply WL.nil) | (apply EX.thenN) | (apply CW.seq) | (apply CW.region)))
  refine CW.cond rfl (fun h => ?_) (fun h => ?_)
  · have hf' : f < fr.length := by simp at h; omega
    have hE10 := hE.trans e10
    have hFok := hfr _ (List.getElem_mem hf')
    (repeat (first | (apply EX.thenN) | (apply CW.seq) | (apply CW.region) | (apply CW.block) | (apply CW.skip)))
    refine WL.elemN rfl rfl rfl rfl rfl (h5.at hE10) hf' (fun _ => rfl) (fun u q hu => ?_)
    obtain ⟨Fo, Fc, rfl, hF⟩ := hu.sl
    (repeat (first | (apply WL.pure; rfl; rfl; rfl) | (apply WL.nil) | (apply EX.thenN) | (apply CW.seq) | (apply CW.region)))
    refine WL.call rfl rfl rfl (member_ok w10 hF (fun b hb => Nat.lt_of_lt_of_le hb hE10.size) nx.length (by omega) hFok) ?_
    rintro _ w11 ⟨hom, e11⟩
    have hgo := hgo.extN e11
    have e11 := e10.trans e11
    have hE11 := hE.trans e11
    obtain ⟨mo, mc, rfl, hmem⟩ := hom.oldN.sl
    clear hom hF
    (repeat (first | (apply WL.pure; rfl; rfl; rfl) | (apply WL.nil) | (apply EX.thenN) | (apply CW.seq) | (apply CW.region) | (apply WL.lenS; rfl; rfl; rfl)))
    refine WL.make (α := Bool) rfl rfl rfl rfl (by omega) (by unfold maxLen; omega) (fun w12 ho12 hg12 => ?_)
    have e12 : Ext w11 w12 := (Below.refl _ _).grown hg12 (Nat.le_refl _) (fun k h => by cases h)
    have hglt : ∀ b, gdV.ownBlock = some b → b < w11.heap.size := fun b hb => (hgo.lt b hb).2.1
    (repeat (first | (apply WL.pure; rfl; rfl; rfl) | (apply WL.nil) | (apply EX.thenN) | (apply CW.seq) | (apply CW.region) | (apply WL.lenS; rfl; rfl; rfl) | (apply CW.block)))
    refine CW.loop (S := Nat × List Bool) (fun x => [(2, .int .i64 nx.length), (12, .slice lio li.length lic), (13, .slice smo sm.length smc), (14, .slice po part.length pc), (15, gdV), (18, .slice mo (memL nx.length fr[f]).length mc), (19, .slice (some ⟨w11.heap.size, 0, none⟩) sm.length sm.length), (62, .slice a5 fr.length c5), (63, .int .i64 fr.length), (64, .int .i64 f), (74, .slice lio li.length lic), (75, .int .i64 li.length), (76, .int .i64 x.1)])
      (fun x w => x.1 ≤ li.length ∧ Own w w11.heap.size 4 Non (.slice (some ⟨w11.heap.size, 0, none⟩) sm.length sm.length) x.2 ∧ x.2.length = sm.length ∧ (∀ c, c < sm.length → (x.2.getD c false = true ↔ ∃ y, y < x.1 ∧ ((ndAt li y % nx.length : Nat) : Int) ∈ fr[f] ∧ part.getD y 0 = c)) ∧ Ext w11 w) (fun x => li.length - x.1) (0, List.replicate sm.length false) (by repeat (first | exact trivial | refine ⟨rfl, ?_⟩))
      ⟨Nat.zero_le _, ho12, by simp, fun c hc => by dsimp only; rw [getD_rep]; simp, e12⟩ ?_
    rintro ⟨i, has⟩ w13 ⟨hi, hoh, hhl, hhas, e13⟩
    dsimp only at hi hoh hhl hhas ⊢
    (repeat (first | (apply WL.pure; rfl; rfl; rfl) | (apply WL.nil) | (apply EX.thenN) | (apply CW.seq) | (apply CW.region)))
    refine CW.cond rfl (fun h => ?_) (fun h => ?_)
    · have hi' : i < li.length := by simp at h; omega
      have hli13 := hli.up (e11.trans e13)
      have hp13 := hp.up (e11.trans e13)
      have hx0 := hR.pos _ (List.getElem_mem hi')
      obtain ⟨x, ex⟩ := Int.eq_ofNat_of_zero_le hx0
      have hnd : ndAt li i = x := by unfold ndAt; rw [getDI_at hi', ex]; omega
      have hip : i < part.length := by omega
      have hp0 := hP.ge i hip
      have hp1 := hP.lt i hip
      obtain ⟨c0, ec0⟩ := Int.eq_ofNat_of_zero_le hp0
      have hc0 : c0 < sm.length := by omega
      have hpc : part[i] = (c0 : Int) := by rw [← getDI_at hip]; exact ec0
      have hch : c0 < has.length := by omega
      have hxn : x % nx.length < (memL nx.length fr[f]).length := by rw [memL_len]; exact Nat.mod_lt _ hn0
      (repeat (first | (apply WL.pure; rfl; rfl; rfl) | (apply EX.thenN) | (apply CW.seq) | (apply CW.region) | (apply CW.block) | (apply CW.skip)))
      refine WL.elemI rfl rfl rfl rfl rfl hli13 hi' ex (fun _ => rfl) (fun q => ?_)
      (repeat (apply WL.pure; rfl; rfl; rfl))
      apply WL.nil
      apply EX.thenN
      have hd := Ext.drew w13
      have hpd := hp.at ((e11.trans e13).trans hd)
      have hmd := hmem.at (e13.trans hd)
      have hohd := hoh.extN hd
      obtain ⟨ho', hc', hv', hhs⟩ := hohd.slF (F' := fun b => b = w11.heap.size) (fun _ h => h.elim) (fun g hg => by cases hg; rfl)
      obtain ⟨rfl, _, rfl⟩ := Value.slice.inj hv'
      rw [← hhl] at hhs
      have hKK : ∀ (F : Nat → Prop) z, (fun x : World => x = drew w13) z → ∀ b, F b → z.heap[b]? = (drew w13).heap[b]? := fun F z hz b _ => by rw [hz]
      refine CW.drawE (fun x : World => x = drew w13) [(0, true), (1, true), (2, true), (3, true), (4, true), (5, true), (6, true), (7, true), (8, true), (9, true), (10, true), (11, true), (12, true), (13, true), (14, true), (15, true), (16, true), (17, true), (18, true), (19, true), (20, true)] 21 mixed (by kernel_rfl) rfl ?_
      (repeat (apply HL.pure; rfl; rfl; rfl; rfl))
      refine HL.elemK (w := drew w13) (F := Old w8) (hKK _) rfl rfl rfl rfl rfl rfl rfl hpd hip (fun _ => rfl) (fun u q hu => ?_)
      obtain rfl := hu.int
      rw [hpc]
      (repeat (apply HL.pure; rfl; rfl; rfl; rfl))
      refine HL.elemK (w := drew w13) (F := Old w8) (hKK _) rfl rfl rfl rfl rfl rfl rfl hpd hip (fun _ => rfl) (fun u q hu => ?_)
      obtain rfl := hu.int
      rw [hpc]
      skip
      rw [← hhl]
      refine HL.elemK (w := drew w13) (F := fun b => b = w11.heap.size) (hKK _) rfl rfl rfl rfl rfl rfl rfl hhs hch (fun _ => rfl) (fun u q hu => ?_)
      obtain rfl := hu.bool
      rw [hhl]
      have hstep : ∀ (b : Bool), (b = true ↔ has[c0] = true ∨ ((x % nx.length : Nat) : Int) ∈ fr[f]) → ∀ w', Own w' w11.heap.size 4 Non (.slice (some ⟨w11.heap.size, 0, none⟩) sm.length sm.length) (has.set c0 b) → Ext w11 w' →
          (i + 1 ≤ li.length ∧ Own w' w11.heap.size 4 Non (.slice (some ⟨w11.heap.size, 0, none⟩) sm.length sm.length) (has.set c0 b) ∧ (has.set c0 b).length = sm.length ∧ (∀ c, c < sm.length → ((has.set c0 b).getD c false = true ↔ ∃ y, y < i + 1 ∧ ((ndAt li y % nx.length : Nat) : Int) ∈ fr[f] ∧ part.getD y 0 = c)) ∧ Ext w11 w') := by
        intro b hb w' ho he
        refine ⟨hi', ho, by simpa using hhl, fun c hc => ?_, he⟩
        have hsplit : (∃ y, y < i + 1 ∧ ((ndAt li y % nx.length : Nat) : Int) ∈ fr[f] ∧ part.getD y 0 = c) ↔ (∃ y, y < i ∧ ((ndAt li y % nx.length : Nat) : Int) ∈ fr[f] ∧ part.getD y 0 = c) ∨ (((x % nx.length : Nat) : Int) ∈ fr[f] ∧ c0 = c) := by
          constructor
          · rintro ⟨y, hy1, hy2, hy3⟩
            by_cases e : y = i
            · subst e; rw [hnd] at hy2; exact .inr ⟨hy2, by omega⟩
            · exact .inl ⟨y, by omega, hy2, hy3⟩
          · rintro (⟨y, hy1, hy2⟩ | ⟨hy1, hy2⟩)
            · exact ⟨y, by omega, hy2⟩
            · exact ⟨i, by omega, by rw [hnd]; exact hy1, by omega⟩
        rw [getD_set hch, hsplit]
        by_cases e : c0 = c
        · subst e
          rw [if_pos rfl, hb, ← getB_at hch, hhas _ hc]
          simp
        · rw [if_neg e, hhas c hc]
          simp [e]
      by_cases hh : has[c0] = true
      · rw [hh]
        (repeat (first | (apply HL.pure; rfl; rfl; rfl; rfl) | (apply HL.pass; rfl; rfl; rfl)))
        refine HL.setTail (yv := true) rfl rfl rfl rfl rfl rfl hohd hch (fun _ => rfl) (fun _ => rfl) (Rd.mkBool _ _ _) (fun w14 q ho14 hg14 => ?_)
        have e14 : Ext w11 w14 := (e13.trans hd).grown hg14 (e13.trans hd).size (fun b hb => (hohd.lt b hb).1)
        (repeat (first | (apply WL.add; rfl; rfl; rfl; rfl; omega; omega) | (apply WL.pure; rfl; rfl; rfl) | (apply WL.nil) | (apply EX.thenN) | (apply CW.region) | (apply EX.inN)))
        exact EX.back (i + 1, has.set c0 true) (by repeat (first | exact trivial | refine ⟨rfl, ?_⟩)) (hstep true (by simp [hh]) _ ho14 e14) (by dsimp only; omega)
      · have hh : has[c0] = false := by simpa using hh
        rw [hh]
        (repeat (apply HL.pure; rfl; rfl; rfl; rfl))
        refine HL.rem rfl rfl rfl rfl rfl (by omega) (by omega) ?_
        rw [show (x : Int) % (nx.length : Int) = ((x % nx.length : Nat) : Int) from (Int.natCast_emod _ _).symm]
        skip
        refine HL.elemK (w := drew w13) (F := Old w11) (hKK _) rfl rfl rfl rfl rfl rfl rfl hmd hxn (fun _ => rfl) (fun u q hu => ?_)
        obtain rfl := hu.bool
        rw [memL_get (Nat.mod_lt _ hn0)]
        (repeat (apply HL.pure; rfl; rfl; rfl; rfl))
        refine HL.setTail (yv := decide (((x % nx.length : Nat) : Int) ∈ fr[f])) rfl rfl rfl rfl rfl rfl hohd hch (fun _ => rfl) (fun _ => rfl) (Rd.mkBool _ _ _) (fun w14 q ho14 hg14 => ?_)
        have e14 : Ext w11 w14 := (e13.trans hd).grown hg14 (e13.trans hd).size (fun b hb => (hohd.lt b hb).1)
        (repeat (first | (apply WL.add; rfl; rfl; rfl; rfl; omega; omega) | (apply WL.pure; rfl; rfl; rfl) | (apply WL.nil) | (apply EX.thenN) | (apply CW.region) | (apply EX.inN)))
        exact EX.back (i + 1, has.set c0 _) (by repeat (first | exact trivial | refine ⟨rfl, ?_⟩)) (hstep _ (by simp [hh]) _ ho14 e14) (by dsimp only; omega)
    · obtain rfl : i = li.length := by simp at h; omega
      have hgo13 := hgo.extN e13
      have e13' := e11.trans e13
      (repeat (first | (apply WL.pure; rfl; rfl; rfl) | (apply WL.nil) | (apply EX.thenN) | (apply CW.seq) | (apply CW.region) | (apply CW.block) | (apply CW.exit) | (apply EX.thenX) | (apply EX.inX) | (refine WL.lenO rfl rfl rfl (by assumption) ?_)))
      refine CW.loop (S := Nat × List Bool) (fun x => [(2, .int .i64 nx.length), (12, .slice lio li.length lic), (13, .slice smo sm.length smc), (14, .slice po part.length pc), (15, gdV), (19, .slice (some ⟨w11.heap.size, 0, none⟩) sm.length sm.length), (62, .slice a5 fr.length c5), (63, .int .i64 fr.length), (64, .int .i64 f), (104, .int .i64 sm.length), (105, .int .i64 x.1)])
        (fun x w => x.1 ≤ sm.length ∧ Own w w8.heap.size 4 Non gdV x.2 ∧ x.2.length = sm.length ∧ (∀ c, c < sm.length → x.2.getD c false = if c < x.1 then good.getD c false && has.getD c false else good.getD c false) ∧ Own w w11.heap.size 4 Non (.slice (some ⟨w11.heap.size, 0, none⟩) sm.length sm.length) has ∧ Ext w8 w) (fun x => sm.length - x.1) (0, good) ?_
        ⟨Nat.zero_le _, hgo13, hgol, fun c hc => by dsimp only; rw [if_neg (by omega)], hoh, e13'⟩ ?_
      · rw [hgol]; exact (by repeat (first | exact trivial | refine ⟨rfl, ?_⟩))
      rintro ⟨k, gd'⟩ w14 ⟨hk, hg14, hgl14, hgd14, hoh, e14⟩
      dsimp only at hk hg14 hgl14 hgd14 hoh ⊢
      (repeat (first | (apply WL.pure; rfl; rfl; rfl) | (apply WL.nil) | (apply EX.thenN) | (apply CW.seq) | (apply CW.region)))
      refine CW.cond rfl (fun h => ?_) (fun h => ?_)
      · have hk' : k < sm.length := by simp at h; omega
        have hkg : k < gd'.length := by omega
        have hkh : k < has.length := by omega
        have hgk : gd'[k] = good.getD k false := by rw [← getB_at hkg, hgd14 k hk', if_neg (by omega)]
        have hst : ∀ b : Bool, b = (good.getD k false && has.getD k false) → ∀ c, c < sm.length → (gd'.set k b).getD c false = if c < k + 1 then good.getD c false && has.getD c false else good.getD c false := by
          intro b hb c hc
          rw [getD_set hkg]
          by_cases e : k = c
          · subst e; rw [if_pos rfl, if_pos (by omega), hb]
          · rw [if_neg e, hgd14 c hc]
            by_cases h1 : c < k
            · rw [if_pos h1, if_pos (by omega)]
            · rw [if_neg h1, if_neg (by omega)]
        (repeat (first | (apply WL.pure; rfl; rfl; rfl) | (apply WL.nil) | (apply EX.thenN) | (apply CW.seq) | (apply CW.region) | (apply CW.block) | (apply CW.skip)))
        refine WL.elemON rfl rfl rfl rfl rfl hg14 hkg (fun _ => rfl) (fun u q hu => ?_)
        obtain rfl := hu.bool
        rw [hgk]
        (repeat (apply WL.pure; rfl; rfl; rfl))
        by_cases hgt : good.getD k false = true
        · rw [hgt]
          (repeat (apply WL.pure; rfl; rfl; rfl))
          refine WL.elemON rfl rfl rfl rfl rfl hoh hkh (fun _ => rfl) (fun u q hu => ?_)
          obtain rfl := hu.bool
          (repeat (apply WL.pure; rfl; rfl; rfl))
          refine WL.setN (u := .bool has[k]) (yv := has[k]) rfl rfl rfl rfl hg14 hkg (fun _ => rfl) (fun _ => rfl) (Rd.mkBool _ _ _) (fun w15 q ho15 hg15 => ?_)
          have e15 : Ext w8 w15 := e14.grown hg15 e14.size (fun b hb => (hg14.lt b hb).1)
          have hoh15 := hoh.keptN hg15 (fun g hg e => by cases hg; exact absurd (hglt _ e.symm) (Nat.lt_irrefl _))
          (repeat (first | (apply WL.add; rfl; rfl; rfl; rfl; omega; omega) | (apply WL.pure; rfl; rfl; rfl) | (apply WL.nil) | (apply EX.thenN) | (apply CW.region) | (apply EX.inN)))
          exact EX.back (k + 1, gd'.set k has[k]) (by repeat (first | exact trivial | refine ⟨rfl, ?_⟩)) ⟨hk', ho15, by simpa using hgl14, hst _ (by rw [hgt, getB_at hkh]; rfl), hoh15, e15⟩ (by dsimp only; omega)
        · have hgt : good.getD k false = false := by simpa using hgt
          rw [hgt]
          (repeat (first | (apply WL.pure; rfl; rfl; rfl) | (apply WL.pass; rfl; rfl)))
          refine WL.setN (u := .bool false) (yv := false) rfl rfl rfl rfl hg14 hkg (fun _ => rfl) (fun _ => rfl) (Rd.mkBool _ _ _) (fun w15 q ho15 hg15 => ?_)
          have e15 : Ext w8 w15 := e14.grown hg15 e14.size (fun b hb => (hg14.lt b hb).1)
          have hoh15 := hoh.keptN hg15 (fun g hg e => by cases hg; exact absurd (hglt _ e.symm) (Nat.lt_irrefl _))
          (repeat (first | (apply WL.add; rfl; rfl; rfl; rfl; omega; omega) | (apply WL.pure; rfl; rfl; rfl) | (apply WL.nil) | (apply EX.thenN) | (apply CW.region) | (apply EX.inN)))
          exact EX.back (k + 1, gd'.set k false) (by repeat (first | exact trivial | refine ⟨rfl, ?_⟩)) ⟨hk', ho15, by simpa using hgl14, hst _ (by rw [hgt]; rfl), hoh15, e15⟩ (by dsimp only; omega)
      · obtain rfl : k = sm.length := by simp at h; omega
        (repeat (first | (apply WL.add; rfl; rfl; rfl; rfl; omega; omega) | (apply WL.pure; rfl; rfl; rfl) | (apply WL.nil) | (apply EX.thenN) | (apply CW.region) | (apply EX.inN) | (apply CW.exit) | (apply EX.thenX) | (apply EX.inX)))
        refine EX.back (f + 1, gd') (by repeat (first | exact trivial | refine ⟨rfl, ?_⟩)) ⟨hf', hg14, hgl14, fun c hc => ?_, e14⟩ (by dsimp only; omega)
        dsimp only
        rw [hgd14 c hc, if_pos hc, Bool.and_eq_true, hgood c hc, hhas c hc, ← List.take_append_getElem hf', and_assoc]
        refine and_congr Iff.rfl ⟨fun ⟨h1, h2⟩ F hF => ?_, fun h1 => ⟨fun F hF => h1 F (List.mem_append.2 (.inl hF)), ?_⟩⟩
        · rcases List.mem_append.1 hF with hF | hF
          · exact h1 F hF
          · rw [List.mem_singleton] at hF; subst hF; rw [hsml]; exact h2
        · have := h1 fr[f] (List.mem_append.2 (.inr (by simp)))
          rw [hsml] at this; exact this
  · obtain rfl : f = fr.length := by simp at h; omega
    rw [List.take_length] at hgood
    obtain ⟨ggo, ggc, rfl, hgs⟩ := hgo.oldN.sl
    (repeat (first | (apply WL.pure; rfl; rfl; rfl) | (apply EX.thenN) | (apply CW.seq) | (apply CW.region) | (apply CW.exit) | (apply EX.thenX) | (apply EX.inX)))
    refine WL.call rfl rfl rfl (contains_bool w10 true hgs) ?_
    rintro _ w11 ⟨rfl, e11⟩
    (repeat (first | (apply WL.pure; rfl; rfl; rfl) | (apply WL.nil) | (apply EX.thenN) | (apply CW.ret)))
    refine EX.ret1 rfl rfl ⟨?_, (hE.trans e10).trans e11⟩
    congr 1
    rw [Bool.eq_iff_iff, accB_iff, List.contains_iff_mem]
    rw [hgd] at hR
    exact (acc_good hnx hst h0 hR hP hgol hgood).symm.symm
end Go.Proofs.Ytadbkppgaekmpaa
/-
  The least form of a word fits.
-/
set_option linter.unusedVariables false
set_option linter.unusedSimpArgs false
namespace Go.Proofs.Ytadbkppgaekmpaa
open Go.RowKit

theorem rollGo_len : ∀ (f : Nat) (s l : List Nat), 0 < l.length → (rollGo f s l).1.length ≤ s.length ∧ (rollGo f s l).2.length = l.length
  | 0, s, l, _ => by simp [rollGo]
  | f + 1, s, l, h => by
    unfold rollGo
    split
    · have hl : (l.getD (l.length - 1) 0 :: l.take (l.length - 1)).length = l.length := by rw [List.length_cons, List.length_take]; omega
      have := rollGo_len f (s.take (s.length - 1)) (l.getD (l.length - 1) 0 :: l.take (l.length - 1)) (by omega)
      rw [List.length_take] at this
      exact ⟨by omega, by omega⟩
    · exact ⟨Nat.le_refl _, rfl⟩
theorem leastL_chk {s l : List Nat} (h : chkW s l = 0) : chkW (leastL s l).1 (leastL s l).2 = 0 ∧ leastL (leastL s l).1 (leastL s l).2 = leastL s l := by
  have hW := chkW_ok h
  have sp := leastL_spec (s := s) hW.2
  have hpos := sp.pos
  have h1 : (leastL s l).1.length ≤ s.length ∧ (leastL s l).2.length ≤ l.length := by
    have h := perGo_spec (s := s) hW.2 l.length 1 (by omega) (by omega) (fun d hd hd1 => by omega)
    have hp : (perL l).length ≤ l.length := h.2.2.2
    have := rollGo_len s.length s (perL l) h.1
    exact ⟨this.1, by show (rollGo s.length s (perL l)).2.length ≤ _; omega⟩
  constructor
  · unfold chkW
    rw [if_neg (by omega), if_neg (by omega)]
  · exact leastL_eq hpos hW.2 sp.same
end Go.Proofs.Ytadbkppgaekmpaa
/-
  Package auto: Accepts.
-/
set_option linter.unusedVariables false
set_option linter.unusedSimpArgs false
namespace Go.Proofs.Ytadbkppgaekmpaa
open Go.RowKit

noncomputable def accF (A : LAuto) (s l : List Nat) : Bool × Int := if chkA A ≠ 0 then (false, chkA A) else if chkW s l ≠ 0 then (false, chkW s l) else (accB A (lat s l), 0)
theorem accB_none {A : LAuto} (h : OkA A) (h0 : A.2.1.length = 0) (L : Nat → Nat) : accB A L = false := by
  rw [← Bool.not_eq_true, accB_iff]
  rintro ⟨r, h1, _⟩
  have := h.st _ h1
  omega
theorem Accepts_ok (w0 : World) {v0 : Value} {A : LAuto} {s l : List Nat} {so lo : Option Addr} {sc lc : Nat} (ha : AutoAt w0 (Old w0) v0 A) (hs : Sl w0 (Old w0) so sc s) (hl : Sl w0 (Old w0) lo lc l)
    (hT : edges A.2.1 + A.1.length ≤ 8589934592) :
    Rt Try.prog 25 [v0, wordV so sc lo lc s l].toArray w0 fun v w' => v = .tuple ⟨[.bool (accF A s l).1, .int .i64 (accF A s l).2]⟩ ∧ Ext w0 w' := by
  have hms := hs.len63
  have hml := hl.len63
  obtain ⟨a1, c1, a2, c2, a3, c3, a4, c4, a5, c5, hv0, h1, h2, h3, h4, h5⟩ := ha.ok
  refine Rt.enter2 Try.func25 Try.ntmps25 rfl rfl ?_
  have hE := Ext.refl w0
  (repeat (first | (apply CW.seq) | (apply CW.region)))
  refine WL.boxB rfl rfl rfl fun w1 hb2 e1 => ?_
  have hE := hE.trans e1
  have z1 := hb2.lt
  skip
  refine WL.boxB rfl rfl rfl fun w2 hb3 e2 => ?_
  have hb2 := hb2.ext e2
  have hE := hE.trans e2
  have z2 := e1.size
  subst hv0
  unfold accF
  (repeat (first | (apply WL.pure; rfl; rfl; rfl) | (apply WL.nil) | (apply EX.thenN) | (apply CW.seq) | (apply CW.region) | (apply WL.ldA; rfl; rfl; rfl; assumption; rfl)))
  refine WL.call rfl rfl rfl (aCheck_ok w2 (A := A) ⟨a1, c1, a2, c2, a3, c3, a4, c4, a5, c5, rfl, h1.up hE, h2.up hE, h3.up hE, h4.up hE, h5.up hE⟩) ?_
  rintro _ w3 ⟨rfl, e3⟩
  have hb2 := hb2.ext e3
  have hb3 := hb3.ext e3
  have hE := hE.trans e3
  (repeat (first | (apply WL.pure; rfl; rfl; rfl) | (apply WL.nil) | (apply EX.thenN) | (apply CW.seq) | (apply CW.region)))
  refine CW.cond rfl (fun h => ?_) (fun h => ?_)
  · have h : chkA A ≠ 0 := by simpa using h
    (repeat (first | (apply WL.pure; rfl; rfl; rfl) | (apply WL.nil) | (apply EX.thenN) | (apply CW.seq) | (apply CW.region) | (apply CW.ret) | (apply EX.thenR)))
    refine EX.ret2 rfl rfl rfl ⟨?_, hE⟩
    rw [if_pos h]
  have hA : chkA A = 0 := by simpa using h
  have hok := chkA_ok hA
  rw [if_neg (by simp [hA])]
  (repeat (first | (apply EX.thenN) | (apply CW.seq) | (apply CW.region) | (apply WL.ldA; rfl; rfl; rfl; assumption; rfl) | (apply CW.skip)))
  refine WL.call rfl rfl rfl (lassoCheck w3 hs.len63 hl.len63) ?_
  rintro _ w4 ⟨rfl, e4⟩
  have hb2 := hb2.ext e4
  have hb3 := hb3.ext e4
  have z3 := hb3.lt
  have hE := hE.trans e4
  (repeat (first | (apply WL.pure; rfl; rfl; rfl) | (apply WL.nil) | (apply EX.thenN) | (apply CW.seq) | (apply CW.region)))
  refine CW.cond rfl (fun h => ?_) (fun h => ?_)
  · have h : chkW s l ≠ 0 := by simpa using h
    (repeat (first | (apply WL.pure; rfl; rfl; rfl) | (apply WL.nil) | (apply EX.thenN) | (apply CW.seq) | (apply CW.region) | (apply CW.ret) | (apply EX.thenR)))
    refine EX.ret2 rfl rfl rfl ⟨?_, hE⟩
    rw [if_pos h]
  have hW : chkW s l = 0 := by simpa using h
  rw [if_neg (by simp [hW])]
  have hk := chkW_ok hW
  (repeat (first | (apply EX.thenN) | (apply CW.seq) | (apply CW.region) | (apply WL.ldA; rfl; rfl; rfl; assumption; rfl) | (apply CW.skip)))
  refine WL.call rfl rfl rfl (Least_okF w4 (hs.up hE) (hl.up hE)) ?_
  rintro _ w5 ⟨x, rfl, hx, e5⟩
  have hb2 := hb2.ext e5
  have hb3 := hb3.ext e5
  have hE := hE.trans e5
  have hle : leastE s l = leastL s l := by unfold leastE; rw [if_neg (by simp [hW])]
  rw [hle] at hx
  have hsp := leastL_spec (s := s) hk.2
  have hck := leastL_chk hW
  generalize leastL s l = sl at hx hsp hck
  obtain ⟨s', l'⟩ := sl
  obtain ⟨so', sc', lo', lc', rfl, hs', hl'⟩ := hx.word
  dsimp only at hs' hl' hsp hck ⊢
  have hk' := chkW_ok hck.1
  (repeat (apply WL.pure; rfl; rfl; rfl))
  refine WL.st rfl rfl rfl hb3 rfl rfl (ones_of rfl) (fun w6 hb3 hg6 => ?_)
  have hb2 := hb2.kept hg6 (by simp; omega)
  have hE6 : Ext w0 w6 := hE.grown hg6 hE.size (fun g hg => by cases hg; exact z2)
  have hz4 := e5.size
  have hF : ∀ b, (w4.heap.size ≤ b ∧ b < w5.heap.size) → w6.heap[b]? = w5.heap[b]? := fun b hb => hg6.block b hb.2 (fun e => by cases e; have := z3; omega)
  have hO : ∀ b, (w4.heap.size ≤ b ∧ b < w5.heap.size) → Old w6 b := fun b hb => Nat.lt_of_lt_of_le hb.2 hg6.size
  have hs6 := hs'.mono hF hO
  have hl6 := hl'.mono hF hO
  (repeat (first | (apply WL.pure; rfl; rfl; rfl) | (apply WL.nil) | (apply EX.thenN) | (apply CW.seq) | (apply CW.region) | (apply WL.lenS; rfl; rfl; rfl) | (apply WL.fa; rfl; rfl; rfl) | (apply WL.ld; rfl; rfl; rfl; assumption; rfl)))
  refine CW.cond rfl (fun h => ?_) (fun h => ?_)
  · have h0 : A.2.1.length = 0 := by simpa using h
    (repeat (first | (apply WL.pure; rfl; rfl; rfl) | (apply WL.nil) | (apply EX.thenN) | (apply CW.seq) | (apply CW.region) | (apply CW.ret) | (apply EX.thenR)))
    refine EX.ret2 rfl rfl rfl ⟨?_, hE6⟩
    rw [accB_none hok h0]
  have h0 : 0 < A.2.1.length := by simp at h; exact Nat.pos_of_ne_zero (fun e => h (List.eq_nil_of_length_eq_zero e))
  (repeat (first | (apply WL.pure; rfl; rfl; rfl) | (apply EX.thenN) | (apply CW.seq) | (apply CW.region) | (apply WL.ldA; rfl; rfl; rfl; assumption; rfl) | (apply CW.skip)))
  refine WL.call rfl rfl rfl (accepts_ok w6 (A := A) ⟨a1, c1, a2, c2, a3, c3, a4, c4, a5, c5, rfl, h1.up hE6, h2.up hE6, h3.up hE6, h4.up hE6, h5.up hE6⟩ hok hs6 hl6 hk'.2 hk'.1 hT h0) ?_
  rintro _ w7 ⟨rfl, e7⟩
  (repeat (first | (apply WL.pure; rfl; rfl; rfl) | (apply WL.nil) | (apply EX.thenN) | (apply CW.ret)))
  refine EX.ret2 rfl rfl rfl ⟨?_, hE6.trans e7⟩
  rw [show lat s' l' = lat s l from funext hsp.same]
end Go.Proofs.Ytadbkppgaekmpaa
/-
  A graph turned round: plain lists.
-/
set_option linter.unusedVariables false
set_option linter.unusedSimpArgs false
namespace Go.Proofs.Ytadbkppgaekmpaa
open Go.RowKit

theorem turnL_row {g : Graph} {m : Nat} (h : m < (turnL g).length) : (turnL g)[m] = ((List.range g.length).filter (fun k => (g.getD k []).contains (m : Int))).map (fun k : Nat => (k : Int)) := by
  have e : (turnL g)[m] = trow g g.length 0 m := turnP_get _
  rw [e]
  unfold trow
  simp
theorem turn_thrice (g : Graph) : turnL (turnL (turnL g)) = turnL g := by
  apply List.ext_getElem (by simp only [turnL_len])
  intro m h1 h2
  rw [turnL_row, turnL_row]
  rw [turnL_len, turnL_len]
  congr 1
  apply List.filter_congr
  intro k hk
  rw [List.mem_range] at hk
  have hm : m < g.length := by rw [turnL_len] at h2; exact h2
  rw [Bool.eq_iff_iff]
  simp only [List.contains_iff_mem]
  rw [turnL_mem (by rw [turnL_len]; exact hk), turnL_mem hm]
  rw [turnL_len]
  exact ⟨fun h => h.2.2, fun h => ⟨hm, hk, h⟩⟩
theorem rch_turn1 {g : Graph} {a b : Nat} (h : Rch (turnL g) [(a : Int)] b) : Rch g [(b : Int)] a := by
  induction h with
  | @base x hx =>
    have : x = (a : Int) := by simpa using hx
    subst this
    simpa using Rch.self a
  | @step m x _ hx ih =>
    by_cases hm : m < g.length
    · have hx0 : 0 ≤ x := ((okG_row (turnL_ok g) m) x hx).1
      obtain ⟨k, rfl⟩ := Int.eq_ofNat_of_zero_le hx0
      exact (Rch.edge ((turnL_mem hm).1 hx).2).trans ih
    · rw [List.getD_eq_getElem?_getD, List.getElem?_eq_none (by rw [turnL_len]; omega)] at hx
      simp at hx
theorem rch_turn2 {g : Graph} (hg : okG g) {a b : Nat} (h : Rch g [(b : Int)] a) : Rch (turnL g) [(a : Int)] b := by
  induction h with
  | @base x hx =>
    have : x = (b : Int) := by simpa using hx
    subst this
    simpa using Rch.self b
  | @step m x _ hx ih =>
    have hxr := okG_row hg m x hx
    obtain ⟨k, rfl⟩ := Int.eq_ofNat_of_zero_le hxr.1
    have hm : m < g.length := by
      apply Classical.byContradiction
      intro hm
      rw [List.getD_eq_getElem?_getD, List.getElem?_eq_none (by omega)] at hx
      simp at hx
    have : (m : Int) ∈ (turnL g).getD k [] := (turnL_mem (by omega)).2 ⟨hm, hx⟩
    exact (Rch.edge this).trans ih
theorem rch_turn {g : Graph} (hg : okG g) {a b : Nat} : Rch (turnL g) [(a : Int)] b ↔ Rch g [(b : Int)] a := ⟨rch_turn1, rch_turn2 hg⟩
theorem parts_turn {g : Graph} (hg : okG g) {p q : List Int} (hp : PartsOK g p) (hq : PartsOK (turnL g) q) : p = q := by
  have hl : p.length = q.length := by rw [hp.len, hq.len, turnL_len]
  refine canon_unique hp.canon hq.canon hl fun a b ha hb => ?_
  rw [hp.len] at ha hb
  rw [hp.same a b ha hb, hq.same a b (by rw [turnL_len]; exact ha) (by rw [turnL_len]; exact hb), rch_turn hg, rch_turn hg]
  exact And.comm

theorem edges_le : ∀ (g : Graph) (c : Nat), (∀ l ∈ g, l.length ≤ c) → edges g ≤ g.length * c
  | [], c, _ => by simp [edges]
  | l :: g, c, h => by
    have h1 := edges_le g c (fun x hx => h x (by simp [hx]))
    have h2 := h l (by simp)
    simp only [edges, List.map_cons, List.sum_cons, List.length_cons] at h1 ⊢
    rw [Nat.add_mul, Nat.one_mul]
    omega
theorem edges_turn (g : Graph) : edges (turnL g) ≤ g.length * (g.length + 1) := by
  have h := edges_le (turnL g) (g.length + 1) (fun l hl => by
    obtain ⟨m, hm, rfl⟩ := List.mem_iff_getElem.1 hl
    have e : (turnL g)[m] = trow g g.length 0 m := turnP_get _
    rw [e]
    exact trow_len _ _ _ _)
  rwa [turnL_len] at h
end Go.Proofs.Ytadbkppgaekmpaa
/-
  What an automaton of pairs is like: plain lists, no program in sight.
-/
set_option linter.unusedVariables false
set_option linter.unusedSimpArgs false
namespace Go.Proofs.Ytadbkppgaekmpaa

theorem edges_getD : ∀ {g : Graph} {j : Nat}, (g.getD j []).length ≤ edges g
  | [], j => by simp
  | r :: g, 0 => by simp [edges]
  | r :: g, j + 1 => by
    have := edges_getD (g := g) (j := j)
    simp [edges] at this ⊢
    omega
theorem addP_nd {ps : List Pr2} {l : List Int} {p : Pr2} (h : l.Nodup) : (addP ps l p).2.Nodup := by
  unfold addP
  dsimp only
  split
  · exact h
  · rename_i hn
    rw [List.nodup_append]
    refine ⟨h, List.pairwise_singleton _ _, fun a ha b hb e => ?_⟩
    rw [List.mem_singleton] at hb
    exact hn (by rw [← hb, ← e]; exact ha)
theorem putP_nd : ∀ (r ps : List Pr2) (ok : Bool) (l : List Int), l.Nodup → (putP r ps ok l).2.2.Nodup
  | [], ps, ok, l, h => h
  | p :: r, ps, ok, l, h => by
    rw [putP]
    split
    · exact putP_nd r _ _ _ (addP_nd h)
    · exact putP_nd r _ _ _ h
theorem madeGo_nd {next : Pr2 → List Pr2} : ∀ (f n : Nat) (ps : List Pr2) (ok : Bool) (nx : List (List Int)), (∀ r ∈ nx, r.Nodup) → ∀ r ∈ (madeGo next f n ps ok nx).2.2, r.Nodup
  | 0, n, ps, ok, nx, h => h
  | f + 1, n, ps, ok, nx, h => by
    rw [madeGo]
    split
    · refine madeGo_nd f _ _ _ _ (fun r hr => ?_)
      rcases List.mem_append.1 hr with hr | hr
      · exact h r hr
      · rw [List.mem_singleton] at hr
        rw [hr]
        exact putP_nd _ _ _ _ List.nodup_nil
    · exact h
theorem okL_nodup_len {n : Nat} {l : List Int} (hn : l.Nodup) (h : okL n l) : l.length ≤ n := by
  have := nodup_len n (l.map Int.toNat) (by
    rw [List.nodup_iff_pairwise_ne] at hn ⊢
    rw [List.pairwise_map]
    refine List.Pairwise.imp_of_mem (fun {a b} ha hb hab e => hab ?_) hn
    have h1 := h a ha
    have h2 := h b hb
    omega) (fun x hx => by
    obtain ⟨y, hy, rfl⟩ := List.mem_map.1 hx
    have := h y hy
    omega)
  simpa using this
structure MadeIn (N : Nat) (st : List Int) (nx : List (List Int)) : Prop where
  so : okL N st
  no : ∀ r ∈ nx, okL N r
  ln : nx.length = N
  n : N ≤ 2048
  sl : st.length ≤ 2048
  ed : edges nx ≤ 4194304
theorem made_in {next : Pr2 → List Pr2} {start : List Pr2} (h : (madeE next start).2.1 = true) : MadeIn (madeE next start).1.length (madeS start) (madeE next start).2.2 := by
  obtain ⟨hM, hl⟩ := made_law h
  have h1 : okL (madeE next start).1.length (madeS start) := fun i hi => by
    obtain ⟨p, hp, e⟩ := (hM.st1 i).1 hi
    have := (idxOf_at (hM.st0 p hp)).1
    omega
  have h2 : ∀ r ∈ (madeE next start).2.2, okL (madeE next start).1.length r := fun r hr i hi => by
    obtain ⟨n, hn, rfl⟩ := List.mem_iff_getElem.1 hr
    have hg : (madeE next start).2.2.getD n [] = (madeE next start).2.2[n] := by rw [List.getD_eq_getElem?_getD, List.getElem?_eq_getElem hn]; rfl
    rw [← hg] at hi
    obtain ⟨p, hp, e⟩ := (hM.nx1 n hn i).1 hi
    have := (idxOf_at (hM.nx0 n hn p hp)).1
    omega
  have hn := hM.le
  refine ⟨h1, h2, hl, hn, ?_, ?_⟩
  · exact Nat.le_trans (okL_nodup_len (putP_nd _ _ _ _ List.nodup_nil) h1) hn
  · have h3 : ∀ r ∈ (madeE next start).2.2, r.length ≤ 2048 := fun r hr => Nat.le_trans (okL_nodup_len (madeGo_nd _ _ _ _ _ (fun _ h => by cases h) r hr) (h2 r hr)) hn
    have h4 := edges_le _ 2048 h3
    rw [hl] at h4
    have : (madeE next start).1.length * 2048 ≤ 2048 * 2048 := Nat.mul_le_mul_right _ hn
    omega
theorem setP_okL {ps : List Pr2} {of : Pr2 → Int} {F : List Int} : okL ps.length (setP ps of F) := fun i hi => by
  unfold setP at hi
  obtain ⟨j, hj, rfl⟩ := List.mem_map.1 hi
  have := List.mem_range.1 (List.mem_filter.1 hj).1
  omega
theorem oneFair_okL {fr : List (List Int)} {ps : List Pr2} : okL ps.length (oneFair fr ps) := fun i hi => by
  unfold oneFair at hi
  obtain ⟨j, hj, rfl⟩ := List.mem_map.1 hi
  have := List.mem_range.1 (List.mem_filter.1 hj).1
  omega
theorem both_okA {A B : LAuto} (h : (madeE (bothNext A B) (bothStart A B)).2.1 = true) (h80 : A.2.2.2.2.length + B.2.2.2.2.length ≤ 80) : OkA (bothL A B) ∧ edges (bothL A B).2.1 + (bothL A B).1.length ≤ 8589934592 := by
  have hI := made_in h
  have hl := hI.ln
  have hn := hI.n
  have hs := hI.sl
  have he := hI.ed
  refine ⟨⟨?_, ?_, ?_, ?_, ?_, ?_, ?_⟩, ?_⟩
  · show (madeE (bothNext A B) (bothStart A B)).2.2.length ≤ 2048; omega
  · show (A.2.2.2.2.map _ ++ B.2.2.2.2.map _).length ≤ 80
    rw [List.length_append, List.length_map, List.length_map]; exact h80
  · show ((bothPs A B).map _).length = (madeE (bothNext A B) (bothStart A B)).2.2.length
    rw [List.length_map]; exact hl.symm
  · show ((bothPs A B).map _).length = (madeE (bothNext A B) (bothStart A B)).2.2.length
    rw [List.length_map]; exact hl.symm
  · show okL (madeE (bothNext A B) (bothStart A B)).2.2.length (madeS (bothStart A B))
    rw [hl]; exact hI.so
  · show ∀ r ∈ (madeE (bothNext A B) (bothStart A B)).2.2, okL (madeE (bothNext A B) (bothStart A B)).2.2.length r
    rw [hl]; exact hI.no
  · show ∀ r ∈ A.2.2.2.2.map (setP (bothPs A B) Prod.fst) ++ B.2.2.2.2.map (setP (bothPs A B) Prod.snd), okL (madeE (bothNext A B) (bothStart A B)).2.2.length r
    rw [hl]
    intro r hr
    rcases List.mem_append.1 hr with hr | hr <;> (obtain ⟨F, _, rfl⟩ := List.mem_map.1 hr; exact setP_okL)
  · show edges (madeE (bothNext A B) (bothStart A B)).2.2 + (madeS (bothStart A B)).length ≤ _
    omega
theorem one_okA {A : LAuto} (h : (madeE (oneNext A) (oneStart A)).2.1 = true) : OkA (oneL A) ∧ edges (oneL A).2.1 + (oneL A).1.length ≤ 8589934592 := by
  have hI := made_in h
  have hl := hI.ln
  have hn := hI.n
  have hs := hI.sl
  have he := hI.ed
  refine ⟨⟨?_, ?_, ?_, ?_, ?_, ?_, ?_⟩, ?_⟩
  · show (madeE (oneNext A) (oneStart A)).2.2.length ≤ 2048; omega
  · show [oneFair A.2.2.2.2 (onePs A)].length ≤ 80
    simp
  · show ((onePs A).map _).length = (madeE (oneNext A) (oneStart A)).2.2.length
    rw [List.length_map]; exact hl.symm
  · show ((onePs A).map _).length = (madeE (oneNext A) (oneStart A)).2.2.length
    rw [List.length_map]; exact hl.symm
  · show okL (madeE (oneNext A) (oneStart A)).2.2.length (madeS (oneStart A))
    rw [hl]; exact hI.so
  · show ∀ r ∈ (madeE (oneNext A) (oneStart A)).2.2, okL (madeE (oneNext A) (oneStart A)).2.2.length r
    rw [hl]; exact hI.no
  · show ∀ r ∈ [oneFair A.2.2.2.2 (onePs A)], okL (madeE (oneNext A) (oneStart A)).2.2.length r
    rw [hl]
    intro r hr
    rw [List.mem_singleton] at hr
    rw [hr]; exact oneFair_okL
  · show edges (madeE (oneNext A) (oneStart A)).2.2 + (madeS (oneStart A)).length ≤ _
    omega
end Go.Proofs.Ytadbkppgaekmpaa
/-
  Package auto: Both: walked.
-/
set_option linter.unusedVariables false
set_option linter.unusedSimpArgs false
namespace Go.Proofs.Ytadbkppgaekmpaa
open Go.RowKit

instance iBo1 : IsZC Try.prog 26 [.slice none 0 0, .slice none 0 0, .slice none 0 0, .slice none 0 0, .slice none 0 0] := IsZC.of (z := .agg #[.slice none 0 0, .slice none 0 0, .slice none 0 0, .slice none 0 0, .slice none 0 0]) (by kernel_rfl) rfl
def nilA : LAuto := ([], [], [], [], [])
def bothE (A B : LAuto) : LAuto × Int :=
  if chkA A ≠ 0 then (nilA, chkA A) else if chkA B ≠ 0 then (nilA, chkA B) else if (madeE (bothNext A B) (bothStart A B)).2.1 = true ∧ A.2.2.2.2.length + B.2.2.2.2.length ≤ 80 then (bothL A B, 0) else (nilA, 2)
abbrev PrQ (A B : LAuto) (p : Pr2) : Prop := (0 ≤ p.1 ∧ p.1 < (A.2.1.length : Int)) ∧ 0 ≤ p.2 ∧ p.2 < (B.2.1.length : Int)
theorem nilA_at (w : World) : AutoAt w (Old w) (.agg #[.slice none 0 0, .slice none 0 0, .slice none 0 0, .slice none 0 0, .slice none 0 0]) nilA :=
  ⟨none, 0, none, 0, none, 0, none, 0, none, 0, rfl, Sl.zero w _, Sl.zero w _, Sl.zero w _, Sl.zero w _, Sl.zero w _⟩
set_option maxHeartbeats 2000000 in
theorem Both_ok (w0 : World) {va vb : Value} {A B : LAuto} (ha : AutoAt w0 (Old w0) va A) (hb : AutoAt w0 (Old w0) vb B) (sA : ∀ j, (A.2.1.getD j []).length ≤ 1048576) (sB : ∀ j, (B.2.1.getD j []).length ≤ 1048576) (tA : A.1.length ≤ 1048576) (tB : B.1.length ≤ 1048576) :
    Rt Try.prog 26 [va, vb].toArray w0 fun v w' => (∃ rv, v = .tuple ⟨[rv, .int .i64 (bothE A B).2]⟩ ∧ AutoAt w' (Old w') rv (bothE A B).1) ∧ Ext w0 w' := by
  obtain ⟨a1, c1, a2, c2, a3, c3, a4, c4, a5, c5, rfl, h1, h2, h3, h4, h5⟩ := ha.ok
  obtain ⟨k1, d1, k2, d2, k3, d3, k4, d4, k5, d5, rfl, g1, g2, g3, g4, g5⟩ := hb.ok
  refine Rt.enter2 Try.func26 Try.ntmps26 rfl rfl ?_
  have hE := Ext.refl w0
  (repeat (first | (apply CW.seq) | (apply CW.region)))
  refine WL.boxB rfl rfl rfl fun w1 hb2 e1 => ?_
  have hE := hE.trans e1
  skip
  refine WL.boxB rfl rfl rfl fun w2 hb3 e2 => ?_
  have hb2 := hb2.ext e2
  have hE := hE.trans e2
  skip
  refine WL.alloc rfl rfl (fun w3 hb4 e3 => ?_)
  have hb2 := hb2.ext e3
  have hb3 := hb3.ext e3
  have hE := hE.trans e3
  have y1 := e1.size
  have y2 := e2.size
  have y3 := hb4.lt
  have l2 := hb2.lt
  have l3 := hb3.lt
  unfold bothE
  (repeat (first | (apply WL.pure; rfl; rfl; rfl) | (apply WL.nil) | (apply EX.thenN) | (apply CW.seq) | (apply CW.region) | (apply WL.ldA; rfl; rfl; rfl; assumption; rfl)))
  refine WL.call rfl rfl rfl (aCheck_ok w3 (A := A) ⟨a1, c1, a2, c2, a3, c3, a4, c4, a5, c5, rfl, h1.up hE, h2.up hE, h3.up hE, h4.up hE, h5.up hE⟩) ?_
  rintro _ w4 ⟨rfl, e4⟩
  have hb2 := hb2.ext e4
  have hb3 := hb3.ext e4
  have hb4 := hb4.ext e4
  have hE := hE.trans e4
  have y4 := e4.size
  (repeat (first | (apply WL.pure; rfl; rfl; rfl) | (apply WL.nil) | (apply EX.thenN) | (apply CW.seq) | (apply CW.region)))
  refine CW.cond rfl (fun h => ?_) (fun h => ?_)
  · have h : chkA A ≠ 0 := by simpa using h
    rw [if_pos h]
    (repeat (first | (apply CW.seq) | (apply CW.region)))
    refine WL.build (parts := []) rfl rfl rfl rfl ?_
    (repeat (apply WL.pure; rfl; rfl; rfl))
    refine WL.st rfl rfl rfl hb4 rfl rfl (ones_of rfl) (fun w5 hb5 hg5 => ?_)
    have hE5 : Ext w0 w5 := hE.grown hg5 hE.size (fun g hg => by cases hg; omega)
    (repeat (first | (apply WL.pure; rfl; rfl; rfl) | (apply WL.nil) | (apply EX.thenN) | (apply CW.ret) | (apply EX.thenR)))
    exact EX.retC2 rfl rfl rfl hb5 rfl ⟨⟨_, rfl, nilA_at _⟩, hE5⟩
  have hA : chkA A = 0 := by simpa using h
  have okA := chkA_ok hA
  clear h
  rw [if_neg (by simp [hA])]
  (repeat (first | (apply EX.thenN) | (apply CW.seq) | (apply CW.region) | (apply WL.ldA; rfl; rfl; rfl; assumption; rfl) | (apply CW.skip)))
  refine WL.call rfl rfl rfl (aCheck_ok w4 (A := B) ⟨k1, d1, k2, d2, k3, d3, k4, d4, k5, d5, rfl, g1.up hE, g2.up hE, g3.up hE, g4.up hE, g5.up hE⟩) ?_
  rintro _ w5 ⟨rfl, e5⟩
  have hb2 := hb2.ext e5
  have hb3 := hb3.ext e5
  have hb4 := hb4.ext e5
  have hE := hE.trans e5
  have y5 := e5.size
  (repeat (first | (apply WL.pure; rfl; rfl; rfl) | (apply WL.nil) | (apply EX.thenN) | (apply CW.seq) | (apply CW.region)))
  refine CW.cond rfl (fun h => ?_) (fun h => ?_)
  · have h : chkA B ≠ 0 := by simpa using h
    rw [if_pos h]
    (repeat (first | (apply CW.seq) | (apply CW.region)))
    refine WL.build (parts := []) rfl rfl rfl rfl ?_
    (repeat (apply WL.pure; rfl; rfl; rfl))
    refine WL.st rfl rfl rfl hb4 rfl rfl (ones_of rfl) (fun w6 hb6 hg6 => ?_)
    have hE6 : Ext w0 w6 := hE.grown hg6 hE.size (fun g hg => by cases hg; omega)
    (repeat (first | (apply WL.pure; rfl; rfl; rfl) | (apply WL.nil) | (apply EX.thenN) | (apply CW.ret) | (apply EX.thenR)))
    exact EX.retC2 rfl rfl rfl hb6 rfl ⟨⟨_, rfl, nilA_at _⟩, hE6⟩
  have hB : chkA B = 0 := by simpa using h
  have okB := chkA_ok hB
  clear h
  rw [if_neg (by simp [hB])]
  (repeat (first | (apply EX.thenN) | (apply CW.seq) | (apply CW.region) | (apply WL.makeFunc; rfl; rfl; rfl; rfl) | (apply CW.skip)))
  refine WL.alloc rfl rfl (fun w6 hb8 e6 => ?_)
  skip
  refine WL.st rfl rfl rfl hb8 rfl rfl (ones_of rfl) (fun w7 hb8 hg7 => ?_)
  have e7 : Ext w5 w7 := Below.grown e6 hg7 e6.size (fun g hg => by cases hg; exact Nat.le_refl _)
  have hb2 := hb2.ext e7
  have hb3 := hb3.ext e7
  have hb4 := hb4.ext e7
  have hE := hE.trans e7
  have l8 := hb8.lt
  have y7 := e7.size
  clear e6 hg7
  (repeat (first | (apply WL.nil) | (apply EX.thenN) | (apply CW.seq) | (apply CW.region)))
  refine WL.mkMap (k := 133) rfl rfl (fun hnum => ?_)
  have e8 : Ext w7 (w7.alloc (.map #[] 0)) := Ext.alloc w7 _
  generalize w7.alloc (.map #[] 0) = w8 at *
  refine WL.build rfl rfl rfl rfl ?_
  refine WL.boxB rfl rfl rfl fun w9 hsb e9 => ?_
  have l7 := hnum.lt
  have hb2 := (hb2.ext e8).ext e9
  have hb3 := (hb3.ext e8).ext e9
  have hb4 := (hb4.ext e8).ext e9
  have hb8 := (hb8.ext e8).ext e9
  have hnum := hnum.ext e9
  have hE := (hE.trans e8).trans e9
  have y8 := e8.size
  have y9 := e9.size
  have l9 := hsb.lt
  clear e1 e2 e3 e4 e5 e7 e8 e9
  have hcross : ∀ l k : List Int, l.length ≤ 1048576 → k.length ≤ 1048576 → l.length * k.length ≤ 1099511627776 := fun l k h h' => Nat.mul_le_mul h h'
  have hq : ∀ l k : List Int, okL A.2.1.length l → okL B.2.1.length k → ∀ p ∈ crossP A.2.2.1 A.2.2.2.1 B.2.2.1 B.2.2.2.1 l k, PrQ A B p := fun l k h h' p hp => by
    obtain ⟨q1, q2, _⟩ := cross_mem.1 hp
    exact ⟨h _ q1, h' _ q2⟩
  have hAn := okA.n
  have hBn := okB.n
  have hst : bothStart A B = crossP A.2.2.1 A.2.2.2.1 B.2.2.1 B.2.2.2.1 A.1 B.1 := rfl
  have hmE := hcross A.1 B.1 tA tB
  (repeat (first | (apply WL.pure; rfl; rfl; rfl) | (apply WL.nil) | (apply EX.thenN) | (apply CW.seq) | (apply CW.region) | (apply WL.fa; rfl; rfl; rfl) | (apply WL.ld; rfl; rfl; rfl; assumption; rfl)))
  refine WL.callV (fv := []) rfl rfl rfl rfl (cross_ok w9 (F := Old w9) hb2 hb3 (h3.up hE) (h4.up hE) (g3.up hE) (g4.up hE) (h1.up hE) (g1.up hE) (fun _ h => h) okA.mu okA.no okB.mu okB.no okA.st okB.st (by omega)) ?_
  rintro sv w10 ⟨hos, e10⟩
  rw [← hst] at hos
  have hb2 := hb2.ext e10
  have hb3 := hb3.ext e10
  have hb4 := hb4.ext e10
  have hb8 := hb8.ext e10
  have hsb := hsb.ext e10
  have hnum := hnum.ext e10
  have hE := hE.trans e10
  have y10 := e10.size
  have hstl : (bothStart A B).length ≤ 1099511627776 := Nat.le_trans (crossP_len _) hmE
  have hlt10 := fun g hg => hos.lt g hg
  obtain ⟨so, sc, rfl⟩ := hos.val
  obtain ⟨so', sc', es, hss⟩ := hos.sl
  obtain ⟨rfl, _, rfl⟩ := Value.slice.inj es
  have hmk : Mk w10 w7.heap.size ⟨w8.heap.size, w7.heap.size, .slice none 0 0, .slice none 0 0, .slice none 0 0, .slice none 0 0, .slice none 0 0, .slice none 0 0⟩ [] :=
    ⟨hsb, hnum, Own.nil, ⟨by dsimp only; omega, Nat.le_refl _⟩, (by dsimp only; omega), (fun g hg => by cases hg), List.nodup_nil, (fun p hp => by cases hp)⟩
  have hfn : ∀ w p, Chg (fun b => b = w8.heap.size ∨ b = w7.heap.size) w10 w → PrQ A B p →
      FnV Try.prog (.func (.func 77) #[] #[.pointer (some ⟨w5.heap.size, 0, none⟩), .pointer (some ⟨w0.heap.size, 0, none⟩), .pointer (some ⟨w1.heap.size, 0, none⟩)]) [prV p] w fun v w' => Own w' w.heap.size 133 Non v (bothNext A B p) ∧ Ext w w' := fun w p hC hp => by
    have hEw : Ext w0 w := Chg.ext hE hC (fun b hb => by rcases hb with rfl | rfl <;> omega)
    have hk : ∀ b, b < w7.heap.size → w.heap[b]? = w10.heap[b]? := fun b hb => hC.block b (by omega) (fun h => by rcases h with h | h <;> omega)
    exact FnV.mk (cs := [_, _, _]) (both2_ok w (A := A) (B := B) ⟨a1, c1, a2, c2, a3, c3, a4, c4, a5, c5, (hk _ (by omega)).trans hb2, h1.up hEw, h2.up hEw, h3.up hEw, h4.up hEw, h5.up hEw⟩ ⟨k1, d1, k2, d2, k3, d3, k4, d4, k5, d5, (hk _ (by omega)).trans hb3, g1.up hEw, g2.up hEw, g3.up hEw, g4.up hEw, g5.up hEw⟩ ((hk _ (by omega)).trans hb8) okA okB hp.1 hp.2 sA sB)
  (repeat (apply WL.makeFunc; rfl; rfl; rfl; rfl))
  refine WL.call rfl rfl rfl (made_ok w10 (Q := PrQ A B) (next := bothNext A B) hmk (by omega) (Nat.le_refl _) hss (fun b hb => hb.elim (fun h => h.elim) (fun hb => by have := hlt10 b hb; exact ⟨by omega, by omega, by omega⟩)) (hq _ _ okA.st okB.st) hstl (fun p hp => ⟨by omega, by omega, by omega, by omega⟩)
    (fun p hp => ⟨hq _ _ (okG_row okA.nx _) (okG_row okB.nx _), Nat.le_trans (crossP_len _) (hcross _ _ (sA _) (sB _))⟩) hfn) ?_
  rintro _ w11 ⟨lo, lc, uo, uc, no, nc, rfl, hsb, hlo, hso, hno, hC⟩
  have hE11 : Ext w0 w11 := Chg.ext hE hC (fun b hb => by rcases hb with rfl | rfl <;> omega)
  have hk : ∀ b, b < w7.heap.size → w11.heap[b]? = w10.heap[b]? := fun b hb => hC.block b (by omega) (fun h => by rcases h with h | h <;> omega)
  have hb2 : Blk w11 _ _ _ := (hk _ (by omega)).trans hb2
  have hb3 : Blk w11 _ _ _ := (hk _ (by omega)).trans hb3
  have hb4 : Blk w11 _ _ _ := (hk _ (by omega)).trans hb4
  have y11 := hC.size
  have l11 := hsb.lt
  clear hfn hmk hss hb8 hnum hos hk es hlt10 hst hmE hstl
  have hin := made_in (next := bothNext A B) (start := bothStart A B)
  have hall := made_all (Q := PrQ A B) (next := bothNext A B) (start := bothStart A B) (fun p hp => hq _ _ (okG_row okA.nx _) (okG_row okB.nx _)) (hq _ _ okA.st okB.st)
  have hbl : bothL A B = (madeS (bothStart A B), (madeE (bothNext A B) (bothStart A B)).2.2, (madeE (bothNext A B) (bothStart A B)).1.map (fun p => A.2.2.1.getD p.1.toNat 0 ||| B.2.2.1.getD p.2.toNat 0), (madeE (bothNext A B) (bothStart A B)).1.map (fun p => A.2.2.2.1.getD p.1.toNat 0 ||| B.2.2.2.1.getD p.2.toNat 0),
    A.2.2.2.2.map (setP (madeE (bothNext A B) (bothStart A B)).1 Prod.fst) ++ B.2.2.2.2.map (setP (madeE (bothNext A B) (bothStart A B)).1 Prod.snd)) := rfl
  rw [hbl]
  generalize (madeE (bothNext A B) (bothStart A B)).2.1 = ok at *
  generalize (madeE (bothNext A B) (bothStart A B)).1 = ps at *
  generalize (madeE (bothNext A B) (bothStart A B)).2.2 = nx at *
  generalize madeS (bothStart A B) = st at *
  clear hbl hq
  have hA80 := okA.f
  have hB80 := okB.f
  cases ok with
  | false =>
    rw [if_neg (by simp)]
    (repeat (first | (apply WL.pure; rfl; rfl; rfl) | (apply WL.nil) | (apply EX.thenN) | (apply CW.seq) | (apply CW.region) | (apply WL.pass; rfl; rfl) | (apply CW.condT; rfl)))
    refine WL.build (parts := []) rfl rfl rfl rfl ?_
    skip
    refine WL.st rfl rfl rfl hb4 rfl rfl (ones_of rfl) (fun w12 hb12 hg12 => ?_)
    have hE12 : Ext w0 w12 := hE11.grown hg12 hE11.size (fun g hg => by cases hg; omega)
    (repeat (first | (apply WL.pure; rfl; rfl; rfl) | (apply WL.nil) | (apply EX.thenN) | (apply CW.ret) | (apply EX.thenR)))
    exact EX.retC2 rfl rfl rfl hb12 rfl ⟨⟨_, rfl, nilA_at _⟩, hE12⟩
  | true =>
  have hi := hin rfl
  have hp8 := hi.n
  by_cases h80 : A.2.2.2.2.length + B.2.2.2.2.length ≤ 80
  case neg =>
    rw [if_neg (fun h => h80 h.2)]
    (repeat (first | (apply WL.add; rfl; rfl; rfl; rfl; omega; omega) | (apply WL.pure; rfl; rfl; rfl) | (apply WL.nil) | (apply EX.thenN) | (apply WL.lenS; rfl; rfl; rfl) | (apply WL.fa; rfl; rfl; rfl) | (apply WL.ld; rfl; rfl; rfl; assumption; rfl)))
    rw [decide_eq_true (show ((A.2.2.2.2.length : Int) + (B.2.2.2.2.length : Int) > 80) by omega)]
    (repeat (first | (apply CW.seq) | (apply CW.region) | (apply CW.condT; rfl)))
    refine WL.build (parts := []) rfl rfl rfl rfl ?_
    skip
    refine WL.st rfl rfl rfl hb4 rfl rfl (ones_of rfl) (fun w12 hb12 hg12 => ?_)
    have hE12 : Ext w0 w12 := hE11.grown hg12 hE11.size (fun g hg => by cases hg; omega)
    (repeat (first | (apply WL.pure; rfl; rfl; rfl) | (apply WL.nil) | (apply EX.thenN) | (apply CW.ret) | (apply EX.thenR)))
    exact EX.retC2 rfl rfl rfl hb12 rfl ⟨⟨_, rfl, nilA_at _⟩, hE12⟩
  rw [if_pos ⟨rfl, h80⟩]
  (repeat (first | (apply WL.add; rfl; rfl; rfl; rfl; omega; omega) | (apply WL.pure; rfl; rfl; rfl) | (apply WL.nil) | (apply EX.thenN) | (apply WL.lenS; rfl; rfl; rfl) | (apply WL.fa; rfl; rfl; rfl) | (apply WL.ld; rfl; rfl; rfl; assumption; rfl)))
  rw [decide_eq_false (show ¬ ((A.2.2.2.2.length : Int) + (B.2.2.2.2.length : Int) > 80) by omega)]
  (repeat (first | (apply WL.pure; rfl; rfl; rfl) | (apply WL.nil) | (apply EX.thenN) | (apply CW.seq) | (apply CW.region) | (apply WL.lenS; rfl; rfl; rfl) | (apply WL.fa; rfl; rfl; rfl) | (apply WL.nck; rfl; rfl; rfl) | (apply WL.ld; rfl; rfl; rfl; assumption; rfl) | (apply CW.block) | (apply CW.condF; rfl) | (apply CW.skip)))
  refine CW.loop (S := Nat × Value × Value) (fun s => [(2, .pointer (some ⟨w0.heap.size, 0, none⟩)), (3, .pointer (some ⟨w1.heap.size, 0, none⟩)), (4, .pointer (some ⟨w2.heap.size, 0, none⟩)), (9, .pointer (some ⟨w8.heap.size, 0, none⟩)), (52, .slice lo ps.length lc), (53, .int .i64 ps.length), (54, .int .i64 s.1)])
    (fun s w => s.1 ≤ ps.length ∧ Blk w w8.heap.size 139 [.map (some w7.heap.size), .slice lo ps.length lc, .slice uo st.length uc, .slice no nx.length nc, s.2.1, s.2.2, .slice none 0 0] ∧ Own w w11.heap.size 33 Non s.2.1 ((ps.take s.1).map (fun p : Pr2 => A.2.2.1.getD p.1.toNat 0 ||| B.2.2.1.getD p.2.toNat 0)) ∧
      Own w w11.heap.size 33 Non s.2.2 ((ps.take s.1).map (fun p : Pr2 => A.2.2.2.1.getD p.1.toNat 0 ||| B.2.2.2.1.getD p.2.toNat 0)) ∧ (∀ g, s.2.1.ownBlock = some g → s.2.2.ownBlock ≠ some g) ∧ Chg (fun b => b = w8.heap.size) w11 w)
    (fun s => ps.length - s.1) (0, .slice none 0 0, .slice none 0 0) (by repeat (first | exact trivial | refine ⟨rfl, ?_⟩)) ⟨Nat.zero_le _, hsb, Own.nil, Own.nil, (fun g hg => by cases hg), Chg.refl _ _⟩ ?_
  rintro ⟨i, mv, nv⟩ w12 ⟨hi12, hsb12, hom, hon, hdis, hC12⟩
  dsimp only at hi12 hsb12 hom hon hdis hC12 ⊢
  have y12 := hC12.size
  have hE12 : Ext w0 w12 := Chg.ext hE11 hC12 (fun b hb => by subst hb; omega)
  have hlo12 := hlo.fz (hC12.wk (M' := fun b => b = w8.heap.size ∨ b < w7.heap.size) (fun b h => .inl h)) (fun b h => .inl h)
  have hlm := fun g hg => hom.lt g hg
  have hln := fun g hg => hon.lt g hg
  obtain ⟨mo, mc, rfl⟩ := hom.val
  obtain ⟨nvo, nvc, rfl⟩ := hon.val
  (repeat (first | (apply WL.pure; rfl; rfl; rfl) | (apply WL.nil) | (apply EX.thenN) | (apply CW.seq) | (apply CW.region)))
  refine CW.cond rfl (fun h => ?_) (fun h => ?_)
  · have hi' : i < ps.length := by simp only [decide_eq_true_eq] at h; omega
    clear h
    have hb2 : Blk w12 _ _ _ := (hC12.block _ (by omega) (fun h => by omega)).trans hb2
    have hb3 : Blk w12 _ _ _ := (hC12.block _ (by omega) (fun h => by omega)).trans hb3
    have hpm := hall _ (List.getElem_mem hi')
    have hn1 : (ps.take (i + 1)).map (fun p : Pr2 => A.2.2.1.getD p.1.toNat 0 ||| B.2.2.1.getD p.2.toNat 0) = (ps.take i).map (fun p : Pr2 => A.2.2.1.getD p.1.toNat 0 ||| B.2.2.1.getD p.2.toNat 0) ++ [A.2.2.1.getD ps[i].1.toNat 0 ||| B.2.2.1.getD ps[i].2.toNat 0] := by
      rw [List.take_add_one, List.getElem?_eq_getElem hi', List.map_append]; rfl
    have hn2 : (ps.take (i + 1)).map (fun p : Pr2 => A.2.2.2.1.getD p.1.toNat 0 ||| B.2.2.2.1.getD p.2.toNat 0) = (ps.take i).map (fun p : Pr2 => A.2.2.2.1.getD p.1.toNat 0 ||| B.2.2.2.1.getD p.2.toNat 0) ++ [A.2.2.2.1.getD ps[i].1.toNat 0 ||| B.2.2.2.1.getD ps[i].2.toNat 0] := by
      rw [List.take_add_one, List.getElem?_eq_getElem hi', List.map_append]; rfl
    (repeat (first | (apply EX.thenN) | (apply CW.seq) | (apply CW.region) | (apply CW.block) | (apply CW.skip)))
    refine WL.elemN (i := i) rfl rfl rfl rfl rfl hlo12 hi' (fun _ => rfl) (fun u q hu => ?_)
    rw [rd_pr2 hu]
    clear hu
    generalize ps[i] = p at *
    obtain ⟨x, hx⟩ : ∃ x : Nat, p.1 = (x : Int) := ⟨p.1.toNat, by omega⟩
    obtain ⟨y, hy⟩ : ∃ y : Nat, p.2 = (y : Int) := ⟨p.2.toNat, by omega⟩
    obtain ⟨pa, pb⟩ := p
    dsimp only at hx hy
    subst hx hy
    dsimp only at hpm hn1 hn2
    rw [Int.toNat_natCast, Int.toNat_natCast] at hn1 hn2
    skip
    refine WL.alloc rfl rfl (fun w13 hpb13 e13 => ?_)
    skip
    refine WL.st rfl rfl rfl hpb13 rfl rfl (ones_of rfl) (fun w14 hpb14 hg14 => ?_)
    have e14 : Ext w12 w14 := Below.grown e13 hg14 e13.size (fun g hg => by cases hg; exact Nat.le_refl _)
    have y14 := e14.size
    have hE14 := hE12.trans e14
    have hsb14 := hsb12.ext e14
    have hb214 := hb2.ext e14
    have hb314 := hb3.ext e14
    have hom14 := hom.extN e14
    have hon14 := hon.extN e14
    have hC14 := hC12.trans (Chg.of_ext _ e14)
    clear e13 hg14 hpb13
    -- R14
    have hD : Ext w14 (drew w14) := Ext.drew w14
    have hsbd := hsb14.ext hD
    have hb2d := hb214.ext hD
    have hb3d := hb314.ext hD
    have hpbd := hpb14.ext hD
    have lpb := hpb14.lt
    have hKs : ∀ u, (fun z : World => ∀ b, b < w14.heap.size → (Value.slice mo ((ps.take i).map (fun p : Pr2 => A.2.2.1.getD p.1.toNat 0 ||| B.2.2.1.getD p.2.toNat 0)).length mc).ownBlock ≠ some b → z.heap[b]? = (drew w14).heap[b]?) u → u.heap[w8.heap.size]? = (drew w14).heap[w8.heap.size]? := fun u h => h _ (by omega) (fun e => by have := hlm _ e; omega)
    have hK2 : ∀ u, (fun z : World => ∀ b, b < w14.heap.size → (Value.slice mo ((ps.take i).map (fun p : Pr2 => A.2.2.1.getD p.1.toNat 0 ||| B.2.2.1.getD p.2.toNat 0)).length mc).ownBlock ≠ some b → z.heap[b]? = (drew w14).heap[b]?) u → u.heap[w0.heap.size]? = (drew w14).heap[w0.heap.size]? := fun u h => h _ (by omega) (fun e => by have := hlm _ e; omega)
    have hK3 : ∀ u, (fun z : World => ∀ b, b < w14.heap.size → (Value.slice mo ((ps.take i).map (fun p : Pr2 => A.2.2.1.getD p.1.toNat 0 ||| B.2.2.1.getD p.2.toNat 0)).length mc).ownBlock ≠ some b → z.heap[b]? = (drew w14).heap[b]?) u → u.heap[w1.heap.size]? = (drew w14).heap[w1.heap.size]? := fun u h => h _ (by omega) (fun e => by have := hlm _ e; omega)
    have hKp : ∀ u, (fun z : World => ∀ b, b < w14.heap.size → (Value.slice mo ((ps.take i).map (fun p : Pr2 => A.2.2.1.getD p.1.toNat 0 ||| B.2.2.1.getD p.2.toNat 0)).length mc).ownBlock ≠ some b → z.heap[b]? = (drew w14).heap[b]?) u → u.heap[w12.heap.size]? = (drew w14).heap[w12.heap.size]? := fun u h => h _ (by omega) (fun e => by have := hlm _ e; omega)
    have hKo : ∀ u, (fun z : World => ∀ b, b < w14.heap.size → (Value.slice mo ((ps.take i).map (fun p : Pr2 => A.2.2.1.getD p.1.toNat 0 ||| B.2.2.1.getD p.2.toNat 0)).length mc).ownBlock ≠ some b → z.heap[b]? = (drew w14).heap[b]?) u → ∀ b, Old w0 b → u.heap[b]? = (drew w14).heap[b]? := fun u h b hb => by
      have hb : b < w0.heap.size := hb
      exact h _ (by omega) (fun e => by have := hlm _ e; omega)
    have hEd := hE14.trans hD
    (repeat (first | (apply WL.nil) | (apply EX.thenN) | (apply CW.seq)))
    refine CW.drawE (fun z : World => ∀ b, b < w14.heap.size → (Value.slice mo ((ps.take i).map (fun p : Pr2 => A.2.2.1.getD p.1.toNat 0 ||| B.2.2.1.getD p.2.toNat 0)).length mc).ownBlock ≠ some b → z.heap[b]? = (drew w14).heap[b]?) [(0, true), (1, true), (2, true), (3, true), (4, true), (5, true), (6, true), (7, true), (8, true), (9, true), (10, true), (11, true), (12, true), (13, true), (14, true), (15, true), (16, true), (17, true), (18, true), (19, false), (20, false), (21, false), (22, false), (23, false)] 24 mixed (by kernel_rfl) (fun _ _ _ => rfl) ?_
    (repeat (first | (apply HL.pure; rfl; rfl; rfl; rfl) | (refine HL.fa rfl rfl rfl rfl ?_) | (apply HL.nck; rfl; rfl; rfl; rfl) | (refine HL.ldK (by assumption) rfl rfl rfl rfl (by assumption) rfl ?_)))
    refine HL.elemK (k := x) hKo rfl rfl rfl rfl rfl rfl rfl (h3.at hEd) (show x < _ by have := okA.mu; omega) (fun _ => rfl) (fun u q hu => ?_)
    obtain ⟨rfl, q1⟩ := hu.u64
    rw [← wgetN'] at q1 ⊢
    (repeat (first | (refine HL.fa rfl rfl rfl rfl ?_) | (refine HL.ldK (by assumption) rfl rfl rfl rfl (by assumption) rfl ?_)))
    refine HL.elemK (k := y) hKo rfl rfl rfl rfl rfl rfl rfl (g3.at hEd) (show y < _ by have := okB.mu; omega) (fun _ => rfl) (fun u q hu => ?_)
    obtain ⟨rfl, q2⟩ := hu.u64
    rw [← wgetN'] at q2 ⊢
    refine HL.orN rfl rfl rfl rfl rfl q1 q2 ?_
    refine HL.app1 (α := Nat) (F := Non) (bytes := 8) (yv := A.2.2.1.getD x 0 ||| B.2.2.1.getD y 0) rfl rfl rfl rfl (fun _ => rfl) rfl rfl (fun _ => rfl) (hom14.extN hD) ⟨_, rfl, rd_mkU64 _ _ _ (Nat.or_lt_two_pow (n := 64) q1 q2)⟩ (by have := hD.size; omega) (fun _ h => h.elim) (by decide) (by unfold maxLen; rw [List.length_map, List.length_take]; omega) (by rw [List.length_map, List.length_take]; omega)
      (fun z hz b hb hne => hz.block b hb (fun e => hne e.symm)) (fun mv2 w15 q3 ho15 hg15 hnb15 => ?_)
    rw [← hn1] at ho15
    have hsb15 := hsbd.kept hg15 (fun e => by have := hlm _ e.symm; omega)
    have y15 : w14.heap.size ≤ w15.heap.size := hg15.size
    obtain ⟨mo', mc', rfl⟩ := ho15.val
    have hS15 : (fun z : World => ∀ b, b < w14.heap.size → (Value.slice mo ((ps.take i).map (fun p : Pr2 => A.2.2.1.getD p.1.toNat 0 ||| B.2.2.1.getD p.2.toNat 0)).length mc).ownBlock ≠ some b → z.heap[b]? = (drew w14).heap[b]?) w15 := fun b hb hne => hg15.block b hb (fun e => hne e.symm)
    refine HL.mut rfl (WL.nck rfl rfl rfl (WL.nil (EX.mut hS15 ?_)))
    refine HL.mut rfl (WL.fa rfl rfl rfl (WL.nil (EX.mut hS15 ?_)))
    refine HL.mut rfl (WL.fa rfl rfl rfl (WL.nil (EX.mut hS15 (HL.nil ?_))))
    refine EX.tail rfl (WL.st rfl rfl rfl hsb15 rfl rfl (ones_of rfl) (fun w16 hsb16 hg16 => WL.nil (EX.tailE ?_)))
    have hm16 : ∀ g, (Value.slice mo' ((ps.take (i + 1)).map (fun p : Pr2 => A.2.2.1.getD p.1.toNat 0 ||| B.2.2.1.getD p.2.toNat 0)).length mc').ownBlock = some g → w11.heap.size ≤ g ∧ g ≠ w8.heap.size := fun g hg => by
      rcases hnb15 g hg with h | h
      · have := hlm g h; omega
      · have h : w14.heap.size ≤ g := h
        omega
    have y16 := hg16.size
    have e14d : Ext w14 (drew w14) := Ext.drew w14
    have hkeep : ∀ b, b < w14.heap.size → b ≠ w8.heap.size → (Value.slice mo ((ps.take i).map (fun p : Pr2 => A.2.2.1.getD p.1.toNat 0 ||| B.2.2.1.getD p.2.toNat 0)).length mc).ownBlock ≠ some b → w16.heap[b]? = w14.heap[b]? := fun b hb h1 h2 => (hg16.block b (by omega) (fun e => h1 (Option.some.inj e))).trans (hg15.block b hb (fun e => h2 e.symm))
    have hb216 : Blk w16 _ _ _ := (hkeep _ (by omega) (by omega) (fun e => by have := hlm _ e; omega)).trans hb214
    have hb316 : Blk w16 _ _ _ := (hkeep _ (by omega) (by omega) (fun e => by have := hlm _ e; omega)).trans hb314
    have hpb16 : Blk w16 _ _ _ := (hkeep _ (by omega) (by omega) (fun e => by have := hlm _ e; omega)).trans hpb14
    have hom16 := ho15.keptN hg16 (fun g hg e => (hm16 g hg).2 (Option.some.inj e))
    have hon16 := ((hon14.extN e14d).keptN hg15 (fun g hg e => hdis g e.symm hg)).keptN hg16 (fun g hg e => by have := Option.some.inj e; have := hln g hg; omega)
    have hC16 := ((hC14.trans (Chg.of_ext _ e14d)).then (Chg.of_grown hg15) (fun b h => .inr (by have := hlm b h; omega))).grown hg16 (fun g hg => by cases hg; rfl)
    have hE16 : Ext w0 w16 := Chg.ext hE11 hC16 (fun b hb => by subst hb; omega)
    have hdis16 : ∀ g, (Value.slice mo' ((ps.take (i + 1)).map (fun p : Pr2 => A.2.2.1.getD p.1.toNat 0 ||| B.2.2.1.getD p.2.toNat 0)).length mc').ownBlock = some g → (Value.slice nvo ((ps.take i).map (fun p : Pr2 => A.2.2.2.1.getD p.1.toNat 0 ||| B.2.2.2.1.getD p.2.toNat 0)).length nvc).ownBlock ≠ some g := fun g hg e => by
      rcases hnb15 g hg with h | h
      · exact hdis g h e
      · have h : w14.heap.size ≤ g := h
        have := hln g e; omega
    have hlm16 := fun g hg => hom16.lt g hg
    clear hKs hK2 hK3 hKp hKo hS15 hD hsbd hb2d hb3d hpbd hEd ho15 hsb15 hg15 hg16 hkeep hsb14 hb214 hb314 hpb14 hom14 hon14 hE14 hnb15 q1 q2 hu
    apply EX.thenN
    -- R15
    have hD : Ext w16 (drew w16) := Ext.drew w16
    have hsbd := hsb16.ext hD
    have hb2d := hb216.ext hD
    have hb3d := hb316.ext hD
    have hpbd := hpb16.ext hD
    have lpb := hpb16.lt
    have hKs : ∀ u, (fun z : World => ∀ b, b < w16.heap.size → (Value.slice nvo ((ps.take i).map (fun p : Pr2 => A.2.2.2.1.getD p.1.toNat 0 ||| B.2.2.2.1.getD p.2.toNat 0)).length nvc).ownBlock ≠ some b → z.heap[b]? = (drew w16).heap[b]?) u → u.heap[w8.heap.size]? = (drew w16).heap[w8.heap.size]? := fun u h => h _ (by omega) (fun e => by have := hln _ e; omega)
    have hK2 : ∀ u, (fun z : World => ∀ b, b < w16.heap.size → (Value.slice nvo ((ps.take i).map (fun p : Pr2 => A.2.2.2.1.getD p.1.toNat 0 ||| B.2.2.2.1.getD p.2.toNat 0)).length nvc).ownBlock ≠ some b → z.heap[b]? = (drew w16).heap[b]?) u → u.heap[w0.heap.size]? = (drew w16).heap[w0.heap.size]? := fun u h => h _ (by omega) (fun e => by have := hln _ e; omega)
    have hK3 : ∀ u, (fun z : World => ∀ b, b < w16.heap.size → (Value.slice nvo ((ps.take i).map (fun p : Pr2 => A.2.2.2.1.getD p.1.toNat 0 ||| B.2.2.2.1.getD p.2.toNat 0)).length nvc).ownBlock ≠ some b → z.heap[b]? = (drew w16).heap[b]?) u → u.heap[w1.heap.size]? = (drew w16).heap[w1.heap.size]? := fun u h => h _ (by omega) (fun e => by have := hln _ e; omega)
    have hKp : ∀ u, (fun z : World => ∀ b, b < w16.heap.size → (Value.slice nvo ((ps.take i).map (fun p : Pr2 => A.2.2.2.1.getD p.1.toNat 0 ||| B.2.2.2.1.getD p.2.toNat 0)).length nvc).ownBlock ≠ some b → z.heap[b]? = (drew w16).heap[b]?) u → u.heap[w12.heap.size]? = (drew w16).heap[w12.heap.size]? := fun u h => h _ (by omega) (fun e => by have := hln _ e; omega)
    have hKo : ∀ u, (fun z : World => ∀ b, b < w16.heap.size → (Value.slice nvo ((ps.take i).map (fun p : Pr2 => A.2.2.2.1.getD p.1.toNat 0 ||| B.2.2.2.1.getD p.2.toNat 0)).length nvc).ownBlock ≠ some b → z.heap[b]? = (drew w16).heap[b]?) u → ∀ b, Old w0 b → u.heap[b]? = (drew w16).heap[b]? := fun u h b hb => by
      have hb : b < w0.heap.size := hb
      exact h _ (by omega) (fun e => by have := hln _ e; omega)
    have hEd := hE16.trans hD
    skip
    refine CW.drawE (fun z : World => ∀ b, b < w16.heap.size → (Value.slice nvo ((ps.take i).map (fun p : Pr2 => A.2.2.2.1.getD p.1.toNat 0 ||| B.2.2.2.1.getD p.2.toNat 0)).length nvc).ownBlock ≠ some b → z.heap[b]? = (drew w16).heap[b]?) [(0, true), (1, true), (2, true), (3, true), (4, true), (5, true), (6, true), (7, true), (8, true), (9, true), (10, true), (11, true), (12, true), (13, true), (14, true), (15, true), (16, true), (17, true), (18, true), (19, false), (20, false), (21, false), (22, false), (23, false)] 24 mixed (by kernel_rfl) (fun _ _ _ => rfl) ?_
    (repeat (first | (apply HL.pure; rfl; rfl; rfl; rfl) | (refine HL.fa rfl rfl rfl rfl ?_) | (apply HL.nck; rfl; rfl; rfl; rfl) | (refine HL.ldK (by assumption) rfl rfl rfl rfl (by assumption) rfl ?_)))
    refine HL.elemK (k := x) hKo rfl rfl rfl rfl rfl rfl rfl (h4.at hEd) (show x < _ by have := okA.no; omega) (fun _ => rfl) (fun u q hu => ?_)
    obtain ⟨rfl, q1⟩ := hu.u64
    rw [← wgetN'] at q1 ⊢
    (repeat (first | (refine HL.fa rfl rfl rfl rfl ?_) | (refine HL.ldK (by assumption) rfl rfl rfl rfl (by assumption) rfl ?_)))
    refine HL.elemK (k := y) hKo rfl rfl rfl rfl rfl rfl rfl (g4.at hEd) (show y < _ by have := okB.no; omega) (fun _ => rfl) (fun u q hu => ?_)
    obtain ⟨rfl, q2⟩ := hu.u64
    rw [← wgetN'] at q2 ⊢
    refine HL.orN rfl rfl rfl rfl rfl q1 q2 ?_
    refine HL.app1 (α := Nat) (F := Non) (bytes := 8) (yv := A.2.2.2.1.getD x 0 ||| B.2.2.2.1.getD y 0) rfl rfl rfl rfl (fun _ => rfl) rfl rfl (fun _ => rfl) (hon16.extN hD) ⟨_, rfl, rd_mkU64 _ _ _ (Nat.or_lt_two_pow (n := 64) q1 q2)⟩ (by have := hD.size; omega) (fun _ h => h.elim) (by decide) (by unfold maxLen; rw [List.length_map, List.length_take]; omega) (by rw [List.length_map, List.length_take]; omega)
      (fun z hz b hb hne => hz.block b hb (fun e => hne e.symm)) (fun nv2 w17 q3 ho17 hg17 hnb17 => ?_)
    rw [← hn2] at ho17
    have hsb17 := hsbd.kept hg17 (fun e => by have := hln _ e.symm; omega)
    have y17 : w16.heap.size ≤ w17.heap.size := hg17.size
    obtain ⟨nvo', nvc', rfl⟩ := ho17.val
    have hS17 : (fun z : World => ∀ b, b < w16.heap.size → (Value.slice nvo ((ps.take i).map (fun p : Pr2 => A.2.2.2.1.getD p.1.toNat 0 ||| B.2.2.2.1.getD p.2.toNat 0)).length nvc).ownBlock ≠ some b → z.heap[b]? = (drew w16).heap[b]?) w17 := fun b hb hne => hg17.block b hb (fun e => hne e.symm)
    refine HL.mut rfl (WL.nck rfl rfl rfl (WL.nil (EX.mut hS17 ?_)))
    refine HL.mut rfl (WL.fa rfl rfl rfl (WL.nil (EX.mut hS17 ?_)))
    refine HL.mut rfl (WL.fa rfl rfl rfl (WL.nil (EX.mut hS17 (HL.nil ?_))))
    refine EX.tail rfl (WL.st rfl rfl rfl hsb17 rfl rfl (ones_of rfl) (fun w18 hsb18 hg18 => WL.nil (EX.tailE ?_)))
    have hm18 : ∀ g, (Value.slice nvo' ((ps.take (i + 1)).map (fun p : Pr2 => A.2.2.2.1.getD p.1.toNat 0 ||| B.2.2.2.1.getD p.2.toNat 0)).length nvc').ownBlock = some g → w11.heap.size ≤ g ∧ g ≠ w8.heap.size := fun g hg => by
      rcases hnb17 g hg with h | h
      · have := hln g h; omega
      · have h : w16.heap.size ≤ g := h
        omega
    have y18 := hg18.size
    have e16d : Ext w16 (drew w16) := Ext.drew w16
    have hon18 := ho17.keptN hg18 (fun g hg e => (hm18 g hg).2 (Option.some.inj e))
    have hom18 := ((hom16.extN e16d).keptN hg17 (fun g hg e => hdis16 g hg e.symm)).keptN hg18 (fun g hg e => (hm16 g hg).2 (Option.some.inj e))
    have hC18 := ((hC16.trans (Chg.of_ext _ e16d)).then (Chg.of_grown hg17) (fun b h => .inr (by have := hln b h; omega))).grown hg18 (fun g hg => by cases hg; rfl)
    (repeat (first | (apply WL.add; rfl; rfl; rfl; rfl; omega; omega) | (apply WL.pure; rfl; rfl; rfl) | (apply WL.nil) | (apply EX.thenN) | (apply CW.region) | (apply EX.inN)))
    refine EX.back (i + 1, _, _) (by repeat (first | exact trivial | refine ⟨rfl, ?_⟩)) ⟨hi', hsb18, hom18, hon18, fun g hg e => ?_, hC18⟩ (by dsimp only; omega)
    rcases hnb17 g e with h | h
    · exact hdis16 g hg h
    · have h : w16.heap.size ≤ g := h
      have := (hlm16 g hg).2.1; omega
  have hie : i = ps.length := by simp only [decide_eq_false_iff_not] at h; omega
  subst hie
  rw [List.take_length] at hom hon hsb12
  clear h
  have hb212 : Blk w12 _ _ _ := (hC12.block _ (by omega) (fun h => by omega)).trans hb2
  have hb312 : Blk w12 _ _ _ := (hC12.block _ (by omega) (fun h => by omega)).trans hb3
  have hb412 : Blk w12 _ _ _ := (hC12.block _ (by omega) (fun h => by omega)).trans hb4
  have hso12 := hso.fz (hC12.wk (M' := fun b => b = w8.heap.size ∨ b < w7.heap.size) (fun b h => .inl h)) (fun b h => .inl h)
  have hno12 := hno.fz (hC12.wk (M' := fun b => b = w8.heap.size ∨ b < w7.heap.size) (fun b h => .inl h)) (fun b h => .inl h)
  have hlo12' := hlo12.mono (F' := Fz w12 (fun b => b = w8.heap.size ∨ (Value.slice none 0 0).ownBlock = some b)) (fun _ _ => rfl) (fun b hb => ⟨hb.1, fun h => hb.2 (.inl (h.resolve_right (fun h => by cases h)))⟩)
  have hf1 : Sl w12 (Fz w12 (fun b => b = w8.heap.size ∨ (Value.slice none 0 0).ownBlock = some b)) a5 c5 A.2.2.2.2 := (h5.at hE12).toFz (fun b hb => by
    have hb : b < w0.heap.size := hb
    exact ⟨by omega, fun h => by rcases h with h | h; (· omega); (· cases h)⟩)
  have hps1 : ∀ p ∈ ps, 0 ≤ p.1 ∧ p.1 < (A.2.1.length : Int) := fun p hp => (hall p hp).1
  have hps2 : ∀ p ∈ ps, 0 ≤ p.2 ∧ p.2 < (B.2.1.length : Int) := fun p hp => (hall p hp).2
  clear hb2 hb3 hb4 hlo hlo12 hsb hso hno hall hin hlm hln
  (repeat (first | (apply WL.pure; rfl; rfl; rfl) | (apply EX.thenN) | (apply CW.seq) | (apply CW.region) | (apply WL.lenS; rfl; rfl; rfl) | (apply WL.fa; rfl; rfl; rfl) | (apply WL.ld; rfl; rfl; rfl; assumption; rfl) | (apply CW.exit) | (apply EX.thenX) | (apply EX.inX)))
  refine WL.call rfl rfl rfl (sets_ok w12 (N := w7.heap.size) (B2 := w12.heap.size) (n := A.2.1.length) (vs := []) (xs := []) (of := Prod.fst) hsb12 hlo12' Own.nil (Nat.le_refl _) (by omega) InnR.nil (fun g hg => by cases hg) hf1 okA.fr (by omega) (fun w p hp => FnV.mk (cs := []) (both3_ok w p)) hps1 (by omega) (by simp; omega)) ?_
  rintro _ w13 ⟨nv1, vs1, hsb13, hf13, inn13, hC13, hnew13⟩
  rw [List.nil_append] at inn13
  have y13 := hC13.size
  have hE13 : Ext w0 w13 := Chg.ext hE12 hC13 (fun b hb => by rcases hb with h | h; (· subst h; omega); (· cases h))
  have hkk13 : ∀ b, b < w12.heap.size → b ≠ w8.heap.size → w13.heap[b]? = w12.heap[b]? := fun b hb hne => hC13.block b hb (fun h => by rcases h with h | h; (· exact hne h); (· cases h))
  have hb313 : Blk w13 _ _ _ := (hkk13 _ (by omega) (by omega)).trans hb312
  have hb413 : Blk w13 _ _ _ := (hkk13 _ (by omega) (by omega)).trans hb412
  have hnl1 := fun g hg => hf13.lt g hg
  have hlo13 := hlo12'.fz hC13 (M' := fun b => b = w8.heap.size ∨ nv1.ownBlock = some b) (fun b h => by
    rcases h with h | h
    · exact .inl (.inl h)
    · exact .inr (hnl1 b h).1)
  have hf2 : Sl w13 (Fz w13 (fun b => b = w8.heap.size ∨ nv1.ownBlock = some b)) k5 d5 B.2.2.2.2 := (g5.at hE13).toFz (fun b hb => by
    have hb : b < w0.heap.size := hb
    exact ⟨by omega, fun h => by rcases h with h | h; (· omega); (· have := (hnl1 b h).1; omega)⟩)
  clear hb312 hb412 hlo12' hf1
  (repeat (first | (apply WL.pure; rfl; rfl; rfl) | (apply WL.nil) | (apply EX.thenN) | (apply CW.seq) | (apply CW.region) | (apply WL.lenS; rfl; rfl; rfl) | (apply WL.fa; rfl; rfl; rfl) | (apply WL.ld; rfl; rfl; rfl; assumption; rfl)))
  refine WL.call rfl rfl rfl (sets_ok w13 (N := w7.heap.size) (B2 := w12.heap.size) (n := B.2.1.length) (of := Prod.snd) hsb13 hlo13 hf13 (by omega) (by omega) inn13 (fun g hg => by have := (hnl1 g hg).1; omega) hf2 okB.fr (by omega) (fun w p hp => FnV.mk (cs := []) (both4_ok w p)) hps2 (by omega) (by rw [List.length_map]; omega)) ?_
  rintro _ w14 ⟨nv2, vs2, hsb14, hf14, inn14, hC14, hnew14⟩
  have y14 := hC14.size
  have hE14 : Ext w0 w14 := Chg.ext hE13 hC14 (fun b hb => by rcases hb with h | h; (· subst h; omega); (· have := (hnl1 b h).1; omega))
  have hkk14 : ∀ b, b < w12.heap.size → b ≠ w8.heap.size → w14.heap[b]? = w12.heap[b]? := fun b hb hne => (hC14.block b (by omega) (fun h => by rcases h with h | h; (· exact hne h); (· have := (hnl1 b h).1; omega))).trans (hkk13 b hb hne)
  have hb414 : Blk w14 _ _ _ := (hC14.block _ (by omega) (fun h => by rcases h with h | h; (· omega); (· have := (hnl1 _ h).1; omega))).trans hb413
  have hnl2 := fun g hg => hf14.lt g hg
  obtain ⟨fo, fc, rfl, hfs⟩ := inn14.sl (F := fun b => b < w14.heap.size ∧ w7.heap.size ≤ b) hf14 (fun b hb => ⟨hb.1, by have h := hb.2; exact Nat.le_of_not_lt (fun hx => h (.inr (.inr hx)))⟩) (fun g hg => ⟨(hnl2 g hg).2.1, by have := (hnl2 g hg).1; omega⟩)
  clear hb413 hlo13 hf2
  (repeat (first | (apply WL.pure; rfl; rfl; rfl) | (apply WL.nil) | (apply EX.thenN) | (apply CW.seq) | (apply CW.region) | (apply WL.fa; rfl; rfl; rfl) | (apply WL.nck; rfl; rfl; rfl) | (apply WL.ldA; rfl; rfl; rfl; assumption; rfl)))
  refine WL.st rfl rfl rfl hb414 rfl rfl (ones_of rfl) (fun w15 hb15 hg15 => ?_)
  have y15 := hg15.size
  have hE15 : Ext w0 w15 := hE14.grown hg15 hE14.size (fun g hg => by cases hg; omega)
  have hkk15 : ∀ b, b < w14.heap.size → w7.heap.size ≤ b → w15.heap[b]? = w14.heap[b]? := fun b hb hge => hg15.block b hb (fun e => by have := Option.some.inj e; omega)
  have hfin : ∀ b, Fz w12 (fun b => b = w8.heap.size ∨ b < w7.heap.size) b → w15.heap[b]? = w12.heap[b]? := fun b hb => (hkk15 b (by have := hb.1; omega) (Nat.le_of_not_lt (fun hx => hb.2 (.inr hx)))).trans (hkk14 b hb.1 (fun h => hb.2 (.inl h)))
  have hle : ∀ b, Fz w12 (fun b => b = w8.heap.size ∨ b < w7.heap.size) b → Old w15 b := fun b hb => (show b < w15.heap.size by have := hb.1; omega)
  obtain ⟨mo', mc', em, hms⟩ := hom.slF (F' := Fz w12 (fun b => b = w8.heap.size ∨ b < w7.heap.size)) (fun _ h => h.elim) (fun g hg => ⟨(hom.lt g hg).2.1, fun h => by have := (hom.lt g hg).1; rcases h with h | h <;> omega⟩)
  obtain ⟨rfl, _, rfl⟩ := Value.slice.inj em
  obtain ⟨no', nc', en, hns⟩ := hon.slF (F' := Fz w12 (fun b => b = w8.heap.size ∨ b < w7.heap.size)) (fun _ h => h.elim) (fun g hg => ⟨(hon.lt g hg).2.1, fun h => by have := (hon.lt g hg).1; rcases h with h | h <;> omega⟩)
  obtain ⟨rfl, _, rfl⟩ := Value.slice.inj en
  (repeat (first | (apply WL.pure; rfl; rfl; rfl) | (apply WL.nil) | (apply EX.thenN) | (apply CW.ret)))
  exact EX.retC2 rfl rfl rfl hb15 rfl ⟨⟨_, rfl, ⟨uo, uc, no, nc, mo, mc, nvo, nvc, fo, fc, rfl, hso12.mono hfin hle, hno12.mono hfin hle, hms.mono hfin hle, hns.mono hfin hle, hfs.mono (fun b hb => hkk15 b hb.1 hb.2) (fun b hb => (show b < w15.heap.size by have := hb.1; omega))⟩⟩, hE15⟩
end Go.Proofs.Ytadbkppgaekmpaa
