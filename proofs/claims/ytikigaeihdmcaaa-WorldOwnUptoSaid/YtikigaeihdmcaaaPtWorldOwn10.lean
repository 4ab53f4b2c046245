import Derived.DeepKeys4
import Derived.Maps.Keyed
import Derived.Shelf.Slices.Reverse
import Derived.Test.YtikigaeihdmcaaaPtWorldOwn9
/-
  Lists of lists that grow: the outer row is owned, the inner ones stay as they are. Over any program.
-/
set_option linter.unusedVariables false
set_option linter.unusedSimpArgs false
namespace Go.Proofs.Ytikigaeihdmcaaa
open Go.RowKit

/-- what nobody changes: all but the blocks of M -/
def Fz (w : World) (M : Nat → Prop) : Nat → Prop := fun b => b < w.heap.size ∧ ¬ M b
section
variable {α : Type} [Rep α]
theorem Fz.keep {w w' : World} {M M' : Nat → Prop} (hC : Chg M w w') (hM : ∀ b, M' b → M b ∨ w.heap.size ≤ b) : (∀ b, Fz w M b → w'.heap[b]? = w.heap[b]?) ∧ ∀ b, Fz w M b → Fz w' M' b :=
  ⟨fun b hb => hC.block b hb.1 hb.2, fun b hb => ⟨Nat.lt_of_lt_of_le hb.1 hC.size, fun h => (hM b h).elim hb.2 (fun h => absurd hb.1 (by omega))⟩⟩
theorem Rd.fz {w w' : World} {M M' : Nat → Prop} {v : Value} {x : α} (h : Rd w (Fz w M) v x) (hC : Chg M w w') (hM : ∀ b, M' b → M b ∨ w.heap.size ≤ b) : Rd w' (Fz w' M') v x := h.mono (Fz.keep hC hM).1 (Fz.keep hC hM).2
theorem Sl.fz {w w' : World} {M M' : Nat → Prop} {ao : Option Addr} {cap : Nat} {xs : List α} (h : Sl w (Fz w M) ao cap xs) (hC : Chg M w w') (hM : ∀ b, M' b → M b ∨ w.heap.size ≤ b) : Sl w' (Fz w' M') ao cap xs := h.mono (Fz.keep hC hM).1 (Fz.keep hC hM).2
theorem Chg.of_ext {w w' : World} (M : Nat → Prop) (h : Ext w w') : Chg M w w' := ⟨h.os, h.tape, h.output, h.size, fun k hk _ => h.block k hk⟩
theorem Chg.trans {M : Nat → Prop} {a b c : World} (h : Chg M a b) (k : Chg M b c) : Chg M a c :=
  ⟨k.os.trans h.os, k.tape.trans h.tape, k.output.trans h.output, Nat.le_trans h.size k.size, fun i hi hn => (k.block i (Nat.lt_of_lt_of_le hi h.size) hn).trans (h.block i hi hn)⟩
/-- .. where the second changes new blocks too -/
theorem Chg.then {M M' : Nat → Prop} {a b c : World} (h : Chg M a b) (k : Chg M' b c) (hM : ∀ i, M' i → M i ∨ a.heap.size ≤ i) : Chg M a c :=
  ⟨k.os.trans h.os, k.tape.trans h.tape, k.output.trans h.output, Nat.le_trans h.size k.size, fun i hi hn => (k.block i (Nat.lt_of_lt_of_le hi h.size) (fun hm => (hM i hm).elim hn (by omega))).trans (h.block i hi hn)⟩
theorem Chg.wk {M M' : Nat → Prop} {a b : World} (h : Chg M a b) (hM : ∀ i, M i → M' i) : Chg M' a b := ⟨h.os, h.tape, h.output, h.size, fun i hi hn => h.block i hi (fun hm => hn (hM i hm))⟩
theorem Chg.of_grown {w w' : World} {row : Option Nat} (hg : w.grownBy w' row) : Chg (fun b => row = some b) w w' := (Chg.refl _ w).grown hg fun g h => h
/-- inner rows, read -/
structure InnR (w : World) (M : Nat → Prop) (vs : List Raw) (xs : List (List α)) : Prop where
  len : vs.length = xs.length
  el : ∀ i (h : i < vs.length) (h' : i < xs.length), Rd w (Fz w M) vs[i].v xs[i]
theorem InnR.nil {w : World} {M : Nat → Prop} : InnR w M [] ([] : List (List α)) := ⟨rfl, fun i h => absurd h (by simp)⟩
theorem InnR.to {w w' : World} {M M' : Nat → Prop} {vs : List Raw} {xs : List (List α)} (h : InnR w M vs xs) (hC : Chg M w w') (hM : ∀ b, M' b → M b ∨ w.heap.size ≤ b) : InnR w' M' vs xs := ⟨h.len, fun i h1 h2 => (h.el i h1 h2).fz hC hM⟩
theorem InnR.push {w : World} {M : Nat → Prop} {vs : List Raw} {xs : List (List α)} {v : Value} {x : List α} (h : InnR w M vs xs) (hv : Rd w (Fz w M) v x) : InnR w M (vs ++ [(⟨v⟩ : Raw)]) (xs ++ [x]) := by
  refine ⟨by simp [h.len], fun i h1 h2 => ?_⟩
  rcases Nat.lt_or_ge i vs.length with hi | hi
  · rw [List.getElem_append_left hi, List.getElem_append_left (by rw [← h.len]; exact hi)]
    exact h.el i hi _
  · have hl := h.len
    obtain rfl : i = vs.length := by simp at h1; omega
    rw [List.getElem_append_right (Nat.le_refl _), List.getElem_append_right (by omega)]
    simp only [hl, Nat.sub_self, List.getElem_cons_zero]
    exact hv
/-- the whole, read -/
theorem InnR.sl {w : World} {M F : Nat → Prop} {B : Nat} {e : TypeId} {v : Value} {vs : List Raw} {xs : List (List α)} (h : InnR w M vs xs) (ho : Own w B e Non v vs) (hF : ∀ b, Fz w M b → F b) (hv : ∀ g, v.ownBlock = some g → F g) : ∃ ao cap, v = .slice ao xs.length cap ∧ Sl w F ao cap xs := by
  obtain ⟨ao, cap, e, hs⟩ := ho.slF (F' := F) (fun _ h => h.elim) hv
  refine ⟨ao, cap, by rw [← h.len]; exact e, ⟨by rw [← h.len]; exact hs.le, hs.mx, hs.nil, fun i hi => ?_⟩⟩
  have hi' : i < vs.length := by rw [h.len]; exact hi
  obtain ⟨b, off, e1, hF1, es, hc, hr⟩ := hs.el i hi'
  obtain ⟨rfl, h1⟩ := hr
  obtain ⟨io, ic, e2, hs2⟩ := (h.el i hi' hi).sl
  exact ⟨b, off, e1, hF1, [vs[i].v], hc, io, ic, by rw [e2], hs2.mono (fun _ _ => rfl) hF⟩
theorem InnR.old {w : World} {M : Nat → Prop} {B : Nat} {e : TypeId} {v : Value} {vs : List Raw} {xs : List (List α)} (h : InnR w M vs xs) (ho : Own w B e Non v vs) : ∃ ao cap, v = .slice ao xs.length cap ∧ Sl w (Old w) ao cap xs :=
  h.sl ho (fun _ h => h.1) (fun g hg => (ho.lt g hg).2.1)
end
end Go.Proofs.Ytikigaeihdmcaaa

/-
  Package label: way, round: walked.
-/
set_option linter.unusedVariables false
set_option linter.unusedSimpArgs false
namespace Go.Proofs.Ytikigaeihdmcaaa
open Go.RowKit

/-- rows of old memory, laid into a row that the call owns -/
theorem rows_sl {w0 w : World} {B : Nat} {e : TypeId} {v : Value} {vs : List Raw} {xs : List (List Int)} (ho : Own w B e Non v vs) (hB : w0.heap.size ≤ B) (hl : vs.length = xs.length) (hE : Ext w0 w) (hr : ∀ k (h : k < vs.length) (h' : k < xs.length), Rd w (Old w0) vs[k].v xs[k]) : ∃ ao cap, v = .slice ao xs.length cap ∧ Sl w (Old w) ao cap xs := by
  refine InnR.old (M := fun b => v.ownBlock = some b) ⟨hl, fun k h h' => (hr k h h').mono (fun _ _ => rfl) (fun b hb => ⟨Nat.lt_of_lt_of_le hb hE.size, fun e => by
    have hb : b < w0.heap.size := hb
    have := (ho.lt b e).1; omega⟩)⟩ ho
instance iWit4 : IsF Try.prog 48 := ⟨_, Try.func48, rfl, by decide⟩
def thrRow (nx : Graph) (th to : List Bool) (i k : Nat) : List Int := if k < i then (thrG nx th to).getD k [] else []
set_option maxHeartbeats 1000000 in
theorem lway_ok (w0 : World) {b : Nat} {nx fr : Graph} {lb : List Nat} (hL : LabAt w0 b nx lb fr) {to' ho' : Option Addr} {tc hc : Nat} {th to : List Bool} {n : Nat} (hth : Sl w0 (Old w0) ho' hc th) (hto : Sl w0 (Old w0) to' tc to) (hok : okG nx) (hn6 : nx.length ≤ 600) (hn : n < nx.length) (hl1 : th.length = nx.length) (hl2 : to.length = nx.length) :
    Rt Try.prog 48 [labP b, .int .i64 (n : Int), .slice ho' th.length hc, .slice to' to.length tc].toArray w0 fun v w' => Own w' w0.heap.size 3 Non v (wayF (thrG nx th to) [(n : Int)] to).1 ∧ Ext w0 w' := by
  obtain ⟨a1, c1, n1, a2, c2, a3, c3, a4, c4, ao, ac, bo, bc, hblk, h2, h3, h4, h5, h6⟩ := hL
  clear h3 h4 h5 h6
  have hm2 := h2.len63
  refine Rt.enter4 Try.func48 Try.ntmps48 rfl rfl ?_
  (repeat (first | (apply WL.pure; rfl; rfl; rfl) | (apply WL.nil) | (apply EX.thenN) | (apply CW.seq) | (apply CW.region) | (apply WL.lenS; rfl; rfl; rfl) | (apply WL.fa; rfl; rfl; rfl) | (apply WL.nck; rfl; rfl; rfl) | (apply WL.ld; rfl; rfl; rfl; assumption; rfl)))
  refine WL.make (α := Raw) rfl rfl rfl rfl (by omega) (by unfold maxLen; omega) (fun w1 ho1 hg1 => ?_)
  have e1 : Ext w0 w1 := (Below.refl _ _).grown hg1 (Nat.le_refl _) (fun k h => by cases h)
  generalize hgv : Value.slice (some ⟨w0.heap.size, 0, none⟩) nx.length nx.length = gv at *
  have hblk1 := hblk.ext e1
  have hnil : ∀ w : World, Rd w (Old w0) (Value.slice none 0 0) ([] : List Int) := fun w => (Sl.zero (α := Int) w (Old w0)).rd
  (repeat (first | (apply WL.pure; rfl; rfl; rfl) | (apply WL.nil) | (apply EX.thenN) | (apply CW.seq) | (apply CW.region) | (apply WL.lenS; rfl; rfl; rfl) | (apply WL.fa; rfl; rfl; rfl) | (apply WL.nck; rfl; rfl; rfl) | (apply WL.ld; rfl; rfl; rfl; assumption; rfl) | (apply CW.block)))
  refine CW.loop (S := Nat × List Raw) (fun s => [(0, labP b), (1, .int .i64 (n : Int)), (2, .slice ho' th.length hc), (3, .slice to' to.length tc), (9, gv), (26, .slice a2 nx.length c2), (27, .int .i64 nx.length), (28, .int .i64 s.1)])
    (fun s w => s.1 ≤ nx.length ∧ Own w w0.heap.size 22 Non gv s.2 ∧ s.2.length = nx.length ∧ (∀ k (h : k < s.2.length), Rd w (Old w0) s.2[k].v (thrRow nx th to s.1 k)) ∧ Ext w0 w) (fun s => nx.length - s.1) (0, _) (by repeat (first | exact trivial | refine ⟨rfl, ?_⟩))
    ⟨Nat.zero_le _, ho1, by simp, fun k h => by dsimp only; rw [List.getElem_replicate]; unfold thrRow; rw [if_neg (by omega)]; exact hnil _, e1⟩ ?_
  clear ho1 hg1 hblk1 e1
  rintro ⟨i, vs⟩ w ⟨hi, ho, hvl, hrd, e⟩
  dsimp only at hi ho hvl hrd e ⊢
  have hblkw := hblk.ext e
  (repeat (first | (apply WL.pure; rfl; rfl; rfl) | (apply WL.nil) | (apply EX.thenN) | (apply CW.seq) | (apply CW.region)))
  refine CW.cond rfl (fun h => ?_) (fun h => ?_)
  · have hi' : i < nx.length := by simp at h; omega
    clear h
    have hit : i < th.length := by omega
    have hio : i < to.length := by omega
    have erow : nx.getD i [] = nx[i] := wgetDG hi'
    have hrow' := thrG_get (th := th) (to := to) hi'
    have hnew : ∀ {w' : World} {vs' : List Raw}, (∀ k (h : k < vs'.length) , k ≠ i → ∃ h' : k < vs.length, vs'[k] = vs[k]) → (∀ b, b < w0.heap.size → w'.heap[b]? = w.heap[b]?) → (∀ h : i < vs'.length, Rd w' (Old w0) vs'[i].v ((thrG nx th to).getD i [])) → ∀ k (h : k < vs'.length), Rd w' (Old w0) vs'[k].v (thrRow nx th to (i + 1) k) := by
      intro w' vs' hsame hkeep hi2 k h
      by_cases ek : k = i
      · subst ek
        unfold thrRow
        rw [if_pos (by omega)]
        exact hi2 h
      · obtain ⟨h', he⟩ := hsame k h ek
        rw [he, show thrRow nx th to (i + 1) k = thrRow nx th to i k by unfold thrRow; by_cases hk : k < i; (· rw [if_pos hk, if_pos (by omega)]); (· rw [if_neg hk, if_neg (by omega)])]
        exact (hrd k h').mono (fun b hb => hkeep b hb) (fun _ h => h)
    (repeat (first | (apply WL.pure; rfl; rfl; rfl) | (apply EX.thenN) | (apply CW.seq) | (apply CW.region) | (apply CW.block) | (apply CW.skip)))
    refine WL.elemN rfl rfl rfl rfl rfl (h2.at e) hi' (fun _ => rfl) (fun u q hu => ?_)
    obtain ⟨ro, rc, rfl, hrow⟩ := hu.sl
    (repeat (first | (apply WL.pure; rfl; rfl; rfl) | (apply WL.nil) | (apply EX.thenN) | (apply CW.seq) | (apply CW.region)))
    refine WL.elemB rfl rfl rfl rfl rfl (hth.at e) hit (wgetB hit).symm (fun _ => rfl) (fun q => ?_)
    have skip0 : (th.getD i false && !to.getD i false) = false → ∀ h : i < vs.length, Rd w (Old w0) vs[i].v ((thrG nx th to).getD i []) := fun hc h => by
      rw [hrow', if_neg (by rw [hc]; decide)]
      have := hrd i h
      unfold thrRow at this
      rwa [if_neg (by omega)] at this
    by_cases hc1 : th.getD i false = true
    · rw [hc1]
      (repeat (apply WL.pure; rfl; rfl; rfl))
      refine WL.elemB rfl rfl rfl rfl rfl (hto.at e) hio (wgetB hio).symm (fun _ => rfl) (fun q => ?_)
      by_cases hc2 : to.getD i false = true
      · rw [hc2]
        (repeat (first | (apply WL.add; rfl; rfl; rfl; rfl; omega; omega) | (apply WL.pure; rfl; rfl; rfl) | (apply WL.nil) | (apply EX.thenN) | (apply CW.region) | (apply EX.inN) | (apply CW.condF; rfl) | (apply CW.skip)))
        exact EX.back (i + 1, vs) (by repeat (first | exact trivial | refine ⟨rfl, ?_⟩)) ⟨hi', ho, hvl, hnew (fun k h _ => ⟨h, rfl⟩) (fun _ _ => rfl) (skip0 (by rw [hc2, Bool.not_true, Bool.and_false])), e⟩ (by dsimp only; omega)
      · have hc2 : to.getD i false = false := by simpa using hc2
        rw [hc2]
        (repeat (first | (apply WL.pure; rfl; rfl; rfl) | (apply WL.nil) | (apply EX.thenN) | (apply CW.region) | (apply CW.condT; rfl)))
        refine WL.setN (u := .slice ro nx[i].length rc) (yv := (⟨.slice ro nx[i].length rc⟩ : Raw)) rfl rfl rfl rfl ho (show i < vs.length by omega) (fun _ => rfl) (fun _ => rfl) (Rd.mkRaw _ _ _ rfl) (fun w' q ho' hg' => ?_)
        have e' : Ext w0 w' := e.grown hg' e.size (fun b hb => (ho.lt b hb).1)
        have hk' : ∀ b, b < w0.heap.size → w'.heap[b]? = w.heap[b]? := fun b hb => (e'.block b hb).trans (e.block b hb).symm
        (repeat (first | (apply WL.add; rfl; rfl; rfl; rfl; omega; omega) | (apply WL.pure; rfl; rfl; rfl) | (apply WL.nil) | (apply EX.thenN) | (apply CW.region) | (apply EX.inN)))
        refine EX.back (i + 1, vs.set i ⟨.slice ro nx[i].length rc⟩) (by repeat (first | exact trivial | refine ⟨rfl, ?_⟩)) ⟨hi', ho', by simpa using hvl, hnew (fun k h hne => ⟨by simpa using h, by rw [List.getElem_set_ne (Ne.symm hne)]⟩) hk' (fun h => ?_), e'⟩ (by dsimp only; omega)
        rw [List.getElem_set_self, hrow', if_pos (by rw [hc1, hc2]; rfl), erow]
        exact (hrow.mono hk' (fun _ h => h)).rd
    · have hc1 : th.getD i false = false := by simpa using hc1
      rw [hc1]
      (repeat (first | (apply WL.add; rfl; rfl; rfl; rfl; omega; omega) | (apply WL.pure; rfl; rfl; rfl) | (apply WL.nil) | (apply EX.thenN) | (apply CW.region) | (apply WL.pass; rfl; rfl) | (apply EX.inN) | (apply CW.condF; rfl) | (apply CW.skip)))
      exact EX.back (i + 1, vs) (by repeat (first | exact trivial | refine ⟨rfl, ?_⟩)) ⟨hi', ho, hvl, hnew (fun k h _ => ⟨h, rfl⟩) (fun _ _ => rfl) (skip0 (by rw [hc1, Bool.false_and])), e⟩ (by dsimp only; omega)
  obtain rfl : i = nx.length := by simp at h; omega
  have hgl := thrG_len (nx := nx) (th := th) (to := to)
  obtain ⟨go, gc, rfl, hg⟩ := rows_sl (xs := thrG nx th to) ho (Nat.le_refl _) (by omega) e (fun k h h' => by
    have := hrd k h
    unfold thrRow at this
    rw [if_pos (by omega)] at this
    rwa [wgetDG h'] at this)
  have y := e.size
  (repeat (first | (apply WL.pure; rfl; rfl; rfl) | (apply EX.thenN) | (apply CW.seq) | (apply CW.region) | (apply CW.exit) | (apply EX.thenX) | (apply EX.inX)))
  refine WL.litR [(n : Int)] rfl rfl rfl rfl rfl ⟨Rd.mkInt _ _ _, trivial⟩ (by show 1 * 1 ≤ 16777216; decide) (fun u w2 e2 hu _ => ?_)
  obtain ⟨fo, fc, rfl, hf⟩ := hu.sl
  (repeat (apply WL.pure; rfl; rfl; rfl))
  refine WL.call rfl rfl rfl (Way_ok w2 (g := thrG nx th to) (f := [(n : Int)]) (to := to) (hg.up e2) hf (hto.up (e.trans e2))) ?_
  rintro _ w3 ⟨v, rfl, hov, e3⟩
  have y2 := e2.size
  (repeat (first | (apply WL.pure; rfl; rfl; rfl) | (apply WL.nil) | (apply EX.thenN) | (apply CW.seq) | (apply CW.region) | (apply CW.ret)))
  exact EX.ret1 rfl rfl ⟨hov.low (by omega), e.trans (e2.trans e3)⟩
instance iWit5 : IsF Try.prog 61 := ⟨_, Try.func61, rfl, by decide⟩
instance iWit6 : IsF Try.prog 73 := ⟨_, Try.func73, rfl, by decide⟩
theorem lr1 (w : World) (b : Nat) {so : Option Addr} {sc : Nat} {set : List Int} (x : Int) (hb : Blk w b 22 [.slice so set.length sc]) (hs : Sl w (Old w) so sc set) :
    Rt Try.prog 73 [.int .i64 x, .pointer (some ⟨b, 0, none⟩)].toArray w fun v w' => v = .bool (set.contains x) ∧ Ext w w' := by
  refine Rt.enter2 Try.func73 Try.ntmps73 rfl rfl ?_
  (repeat (first | (apply WL.pure; rfl; rfl; rfl) | (apply WL.nil) | (apply EX.thenN) | (apply CW.seq) | (apply CW.region) | (apply WL.ld; rfl; rfl; rfl; assumption; rfl)))
  refine WL.call rfl rfl rfl (contains_int w x hs) ?_
  rintro _ w1 ⟨rfl, e1⟩
  (repeat (first | (apply WL.pure; rfl; rfl; rfl) | (apply WL.nil) | (apply EX.thenN) | (apply CW.ret)))
  exact EX.ret1 rfl rfl ⟨rfl, e1⟩
def rndFull (g : Graph) (part : List Int) (m k : Nat) : List Int := (g.getD k []).filter fun t => decide (part.getD k 0 = part.getD m 0) && decide (part.getD t.toNat 0 = part.getD m 0)
def rndRow (g : Graph) (part : List Int) (m k j : Nat) : List Int := ((g.getD k []).take j).filter fun t => decide (part.getD k 0 = part.getD m 0) && decide (part.getD t.toNat 0 = part.getD m 0)
theorem rndRow_next {g : Graph} {part : List Int} {m k j : Nat} (h : j < (g.getD k []).length) : rndRow g part m k (j + 1) = rndRow g part m k j ++ if (decide (part.getD k 0 = part.getD m 0) && decide (part.getD ((g.getD k [])[j]).toNat 0 = part.getD m 0)) = true then [(g.getD k [])[j]] else [] := by
  unfold rndRow
  rw [List.take_add_one, List.getElem?_eq_getElem h, List.filter_append]
  congr 1
  simp only [Option.toList_some, List.filter_cons, List.filter_nil]
set_option maxHeartbeats 2000000 in
theorem lround_ok (w0 : World) {b : Nat} {nx fr : Graph} {lb : List Nat} (hL : LabAt w0 b nx lb fr) {go po : Option Addr} {gc pc : Nat} {g : Graph} {part : List Int} {m : Nat} (hs : Sl w0 (Old w0) go gc g) (hp : Sl w0 (Old w0) po pc part)
    (hg : okG g) (hpt : PartsOK g part) (hgl : g.length ≤ 600) (hsets : ∀ F ∈ fr, okL g.length F) (hG : GoodPt g part fr m) (hf80 : fr.length ≤ 80) (hedg : edges g ≤ 8589934592) :
    Rt Try.prog 61 [labP b, .slice go g.length gc, .slice po part.length pc, .int .i64 (m : Int)].toArray w0 fun v w' => ∃ out : List Int, out.length ≤ 100000 ∧ Own w' w0.heap.size 3 Non v out ∧ Ext w0 w' := by
  obtain ⟨a1, c1, n1, a2, c2, a3, c3, a4, c4, ao, ac, bo, bc, hblk, h2, h3, h4, h5, h6⟩ := hL
  clear h2 h3 h5 h6
  have hpl := hpt.len
  have hml := hG.lt
  have hmp : m < part.length := by omega
  refine Rt.enter4 Try.func61 Try.ntmps61 rfl rfl ?_
  (repeat (first | (apply WL.pure; rfl; rfl; rfl) | (apply WL.nil) | (apply EX.thenN) | (apply CW.seq) | (apply CW.region) | (apply WL.lenS; rfl; rfl; rfl)))
  refine WL.make (α := Raw) rfl rfl rfl rfl (by omega) (by unfold maxLen; omega) (fun w2 ho2 hg2 => ?_)
  have e2 : Ext w0 w2 := (Below.refl _ _).grown hg2 (Nat.le_refl _) (fun k h => by cases h)
  generalize hsv : Value.slice (some ⟨w0.heap.size, 0, none⟩) g.length g.length = sv at *
  have hN2 : OwnN w2 w0.heap.size 22 3 sv _ (List.replicate g.length ([] : List Int)) := OwnN.made ho2
  rw [← gridP_start (full := rndFull g part m)] at hN2
  clear ho2 hg2
  (repeat (first | (apply WL.pure; rfl; rfl; rfl) | (apply WL.nil) | (apply EX.thenN) | (apply CW.seq) | (apply CW.region) | (apply WL.lenS; rfl; rfl; rfl) | (apply CW.block)))
  refine CW.loop (S := Nat × List Raw) (fun s => [(0, labP b), (1, .slice go g.length gc), (2, .slice po part.length pc), (3, .int .i64 (m : Int)), (9, sv), (30, .slice go g.length gc), (31, .int .i64 g.length), (32, .int .i64 s.1)])
    (fun s w => s.1 ≤ g.length ∧ OwnN w w0.heap.size 22 3 sv s.2 (gridP g.length (rndFull g part m) s.1 []) ∧ Ext w0 w) (fun s => g.length - s.1) (0, _) (by repeat (first | exact trivial | refine ⟨rfl, ?_⟩)) ⟨Nat.zero_le _, hN2, e2⟩ ?_
  clear hN2 e2
  rintro ⟨n, vs⟩ w3 ⟨hn3, hN, e3⟩
  dsimp only at hn3 hN e3 ⊢
  (repeat (first | (apply WL.pure; rfl; rfl; rfl) | (apply WL.nil) | (apply EX.thenN) | (apply CW.seq) | (apply CW.region)))
  refine CW.cond rfl (fun h => ?_) (fun h => ?_)
  · have hn' : n < g.length := by simp at h; omega
    clear h
    have hnp : n < part.length := by omega
    have erow : g.getD n [] = g[n] := wgetDG hn'
    have hre := edges_row hn'
    (repeat (first | (apply WL.pure; rfl; rfl; rfl) | (apply EX.thenN) | (apply CW.seq) | (apply CW.region) | (apply CW.block) | (apply CW.skip)))
    refine WL.elemN rfl rfl rfl rfl rfl (hs.at e3) hn' (fun _ => rfl) (fun u q hu => ?_)
    obtain ⟨ro, rc, rfl, hrow⟩ := hu.sl
    have hrl := hrow.len63
    (repeat (first | (apply WL.pure; rfl; rfl; rfl) | (apply WL.nil) | (apply EX.thenN) | (apply CW.seq) | (apply CW.region) | (apply WL.lenS; rfl; rfl; rfl) | (apply CW.block)))
    refine CW.loop (S := Nat × List Raw) (fun s => [(0, labP b), (1, .slice go g.length gc), (2, .slice po part.length pc), (3, .int .i64 (m : Int)), (9, sv), (10, .int .i64 n), (30, .slice go g.length gc), (31, .int .i64 g.length), (32, .int .i64 n), (37, .slice ro g[n].length rc), (38, .int .i64 g[n].length), (39, .int .i64 s.1)])
      (fun s w => s.1 ≤ g[n].length ∧ OwnN w w0.heap.size 22 3 sv s.2 (gridP g.length (rndFull g part m) n (rndRow g part m n s.1)) ∧ Ext w0 w) (fun s => g[n].length - s.1) (0, vs) (by repeat (first | exact trivial | refine ⟨rfl, ?_⟩)) ⟨Nat.zero_le _, by show OwnN _ _ _ _ _ _ (gridP _ _ _ (rndRow g part m n 0)); rw [show rndRow g part m n 0 = [] by simp [rndRow]]; exact hN, e3⟩ ?_
    rintro ⟨j, vs⟩ w4 ⟨hj, hN, e4⟩
    dsimp only at hj hN e4 ⊢
    have hrow4 : Sl w4 (Old w0) ro rc g[n] := hrow.mono (fun b hb => (e4.block b hb).trans (e3.block b hb).symm) (fun _ h => h)
    have hp4 := hp.up e4
    (repeat (first | (apply WL.pure; rfl; rfl; rfl) | (apply WL.nil) | (apply EX.thenN) | (apply CW.seq) | (apply CW.region)))
    refine CW.cond rfl (fun h => ?_) (fun h => ?_)
    · have hj' : j < g[n].length := by simp at h; omega
      clear h
      have hto := hg _ (List.getElem_mem hn') _ (List.getElem_mem hj')
      obtain ⟨to, eto⟩ := Int.eq_ofNat_of_zero_le hto.1
      have htp : to < part.length := by omega
      have hnext := rndRow_next (g := g) (part := part) (m := m) (k := n) (j := j) (by rw [erow]; exact hj')
      have hgj : (g.getD n [])[j]'(by rw [erow]; exact hj') = (to : Int) := by simp only [erow]; exact eto
      rw [hgj, Int.toNat_natCast] at hnext
      have hlen := hN.len
      rw [gridP_len] at hlen
      have hnv : n < vs.length := by omega
      have hin' := hN.inn n hnv (by rw [gridP_len]; exact hn')
      rw [gridP_get hn'] at hin'
      have hil2 : (rndRow g part m n j).length ≤ g[n].length := by
        unfold rndRow; rw [erow]
        exact Nat.le_trans (List.length_filter_le _ _) (by rw [List.length_take]; omega)
      (repeat (first | (apply EX.thenN) | (apply CW.seq) | (apply CW.region) | (apply CW.block) | (apply CW.skip)))
      refine WL.elemI rfl rfl rfl rfl rfl hrow4 hj' eto (fun _ => rfl) (fun q => ?_)
      (repeat (first | (apply WL.pure; rfl; rfl; rfl) | (apply QL.pure; rfl; rfl; rfl) | (apply WL.nil) | (apply EX.thenN) | (apply CW.seq) | (apply CW.draw; exact mixed; kernel_rfl)))
      refine QL.elemI rfl rfl rfl rfl rfl (fun _ h => h) hp4 hnp (wgetDI hnp).symm (fun _ => rfl) (fun q => ?_)
      (repeat (apply QL.pure; rfl; rfl; rfl))
      refine QL.elemI rfl rfl rfl rfl rfl (fun _ h => h) hp4 hmp (wgetDI hmp).symm (fun _ => rfl) (fun q => ?_)
      (repeat (apply QL.pure; rfl; rfl; rfl))
      by_cases hc1 : part.getD n 0 = part.getD m 0
      · have b1 : (part.getD n 0 == part.getD m 0) = true := by simpa using hc1
        rw [b1]
        (repeat (apply QL.pure; rfl; rfl; rfl))
        refine QL.elemI rfl rfl rfl rfl rfl (fun _ h => h) hp4 htp (wgetDI htp).symm (fun _ => rfl) (fun q => ?_)
        (repeat (apply QL.pure; rfl; rfl; rfl))
        refine QL.elemI rfl rfl rfl rfl rfl (fun _ h => h) hp4 hmp (wgetDI hmp).symm (fun _ => rfl) (fun q => ?_)
        (repeat (apply QL.pure; rfl; rfl; rfl))
        refine QL.nil (fun w5 e5 => ?_)
        have hN := hN.ext e5
        have e5 := e4.trans e5
        have hin' := hN.inn n hnv (by rw [gridP_len]; exact hn')
        rw [gridP_get hn'] at hin'
        by_cases hc2 : part.getD to 0 = part.getD m 0
        · have b2 : (part.getD to 0 == part.getD m 0) = true := by simpa using hc2
          rw [b2]
          rw [if_pos (by simpa using And.intro hc1 hc2)] at hnext
          (repeat (first | (apply WL.pure; rfl; rfl; rfl) | (apply EX.thenN) | (apply CW.region) | (apply CW.condT; rfl)))
          refine WL.elemON rfl rfl rfl rfl rfl hN.out hnv (fun _ => rfl) (fun u q hu => ?_)
          obtain ⟨rfl, _⟩ := hu.raw
          (repeat (apply WL.pure; rfl; rfl; rfl))
          refine WL.app1 (F := Non) (yv := (to : Int)) rfl rfl (fun _ => rfl) rfl rfl (fun _ => rfl) hin' (Rd.mkInt _ _ _) e5.size (fun _ h => h.elim) (by decide) (by unfold maxLen; omega) (by omega) (fun v' w6 p ho6 hg6 hnb => ?_)
          rw [← hnext] at ho6
          have hmid := hN.mid hnv hg6
          skip
          refine WL.setN (u := v') (yv := ⟨v'⟩) rfl rfl rfl rfl hmid hnv (fun _ => rfl) (fun _ => rfl) (Rd.mkRaw _ _ _ ?_) (fun w7 q ho7 hg7 => ?_)
          · obtain ⟨a, b, rfl⟩ := ho6.val; rfl
          have hN7 := hN.set hnv ho6 hg6 hnb ho7 hg7
          rw [gridP_set hn'] at hN7
          have e7 : Ext w0 w7 := (e5.grown hg6 e5.size (fun b hb => (hin'.lt b hb).1)).grown hg7 (Nat.le_trans e5.size hg6.size) (fun b hb => (hN.out.lt b hb).1)
          (repeat (first | (apply WL.add; rfl; rfl; rfl; rfl; omega; omega) | (apply WL.pure; rfl; rfl; rfl) | (apply WL.nil) | (apply EX.thenN) | (apply CW.region) | (apply EX.inN)))
          exact EX.back (j + 1, vs.set n ⟨v'⟩) (by repeat (first | exact trivial | refine ⟨rfl, ?_⟩)) ⟨hj', hN7, e7⟩ (by dsimp only; omega)
        · have b2 : (part.getD to 0 == part.getD m 0) = false := by simpa using hc2
          rw [b2]
          rw [if_neg (by simpa using (show part.getD n 0 = part.getD m 0 → ¬ part.getD to 0 = part.getD m 0 from fun _ => hc2)), List.append_nil] at hnext
          (repeat (first | (apply WL.add; rfl; rfl; rfl; rfl; omega; omega) | (apply WL.pure; rfl; rfl; rfl) | (apply WL.nil) | (apply EX.thenN) | (apply CW.region) | (apply EX.inN) | (apply CW.condF; rfl) | (apply CW.skip)))
          exact EX.back (j + 1, vs) (by repeat (first | exact trivial | refine ⟨rfl, ?_⟩)) ⟨hj', by rw [hnext]; exact hN, e5⟩ (by dsimp only; omega)
      · have b1 : (part.getD n 0 == part.getD m 0) = false := by simpa using hc1
        rw [b1]
        rw [if_neg (by simpa using (show part.getD n 0 = part.getD m 0 → ¬ part.getD to 0 = part.getD m 0 from fun h => absurd h hc1)), List.append_nil] at hnext
        (repeat (first | (apply QL.pure; rfl; rfl; rfl) | (apply QL.pass; rfl; rfl)))
        refine QL.nil (fun w5 e5 => ?_)
        (repeat (first | (apply WL.add; rfl; rfl; rfl; rfl; omega; omega) | (apply WL.pure; rfl; rfl; rfl) | (apply WL.nil) | (apply EX.thenN) | (apply CW.region) | (apply EX.inN) | (apply CW.condF; rfl) | (apply CW.skip)))
        exact EX.back (j + 1, vs) (by repeat (first | exact trivial | refine ⟨rfl, ?_⟩)) ⟨hj', by rw [hnext]; exact hN.ext e5, e4.trans e5⟩ (by dsimp only; omega)
    · obtain rfl : j = g[n].length := by simp at h; omega
      (repeat (first | (apply WL.add; rfl; rfl; rfl; rfl; omega; omega) | (apply WL.pure; rfl; rfl; rfl) | (apply WL.nil) | (apply EX.thenN) | (apply CW.region) | (apply EX.inN) | (apply CW.exit) | (apply EX.thenX) | (apply EX.inX)))
      refine EX.back (n + 1, vs) (by repeat (first | exact trivial | refine ⟨rfl, ?_⟩)) ⟨hn', ?_, e4⟩ (by dsimp only; omega)
      rw [show rndRow g part m n g[n].length = rndFull g part m n by unfold rndRow rndFull; rw [erow, List.take_length], gridP_next] at hN
      exact hN
  obtain rfl : n = g.length := by simp at h; omega
  rw [gridP_done] at hN
  have hgG : (List.range g.length).map (rndFull g part m) = rndG g part m := rfl
  rw [hgG] at hN
  have hhl := rndG_len (g := g) (part := part) (m := m)
  have hhok := rndG_ok (part := part) (m := m) hg
  obtain ⟨ho, hc, hsvv, hh⟩ := hN.old.sl
  subst hsvv
  have y3 := e3.size
  clear h hn3 hN
  -- a round
  (repeat (first | (apply WL.pure; rfl; rfl; rfl) | (apply EX.thenN) | (apply CW.seq) | (apply CW.region) | (apply CW.exit) | (apply EX.thenX) | (apply EX.inX)))
  refine WL.lit (F := Non) (ys := [(m : Int)]) rfl rfl rfl rfl rfl ⟨Rd.mkInt _ _ _, trivial⟩ (by show 1 * 1 ≤ 16777216; decide) (fun _ h => h.elim) (fun w4 ho4 hg4 => ?_)
  have e4 : Ext w3 w4 := (Below.refl _ _).grown hg4 (Nat.le_refl _) (fun k h => by cases h)
  have hblk4 := hblk.ext (e3.trans e4)
  have hstart : RndI g part m 0 [(m : Int)] := RndI.start hml
  generalize Value.slice (some ⟨w3.heap.size, 0, none⟩) 1 1 = ov at *
  (repeat (first | (apply WL.pure; rfl; rfl; rfl) | (apply WL.nil) | (apply EX.thenN) | (apply CW.seq) | (apply CW.region) | (apply WL.lenS; rfl; rfl; rfl) | (apply WL.fa; rfl; rfl; rfl) | (apply WL.nck; rfl; rfl; rfl) | (apply WL.ld; rfl; rfl; rfl; assumption; rfl) | (apply CW.block)))
  refine CW.loop (S := Nat × Value × List Int) (fun s => [(0, labP b), (1, .slice go g.length gc), (2, .slice po part.length pc), (3, .int .i64 (m : Int)), (9, .slice ho (rndG g part m).length hc), (14, s.2.1), (81, .slice a4 fr.length c4), (82, .int .i64 fr.length), (83, .int .i64 s.1)])
    (fun s w => s.1 ≤ fr.length ∧ Own w w3.heap.size 3 Non s.2.1 s.2.2 ∧ RndI g part m s.1 s.2.2 ∧ Ext w3 w) (fun s => fr.length - s.1) (0, ov, [(m : Int)]) (by repeat (first | exact trivial | refine ⟨rfl, ?_⟩)) ⟨Nat.zero_le _, ho4, hstart, e4⟩ ?_
  clear ho4 hg4 hstart hblk4 e4 ov
  rintro ⟨i, ov, out⟩ w ⟨hi, hov, hI, e⟩
  dsimp only at hi hov hI e ⊢
  have hE := e3.trans e
  have hlen := hI.len
  have hi601 : i * (g.length + 1) ≤ 80 * 601 := Nat.mul_le_mul (by omega) (by omega)
  have hne := hI.ne
  have hyw := e.size
  have hhw := hh.up e
  (repeat (first | (apply WL.pure; rfl; rfl; rfl) | (apply WL.nil) | (apply EX.thenN) | (apply CW.seq) | (apply CW.region)))
  refine CW.cond rfl (fun h => ?_) (fun h => ?_)
  · have hi' : i < fr.length := by simp at h; omega
    clear h
    have hFok := hsets _ (List.getElem_mem hi')
    (repeat (first | (apply EX.thenN) | (apply CW.seq) | (apply CW.region) | (apply CW.block) | (apply CW.skip)))
    refine WL.elemN rfl rfl rfl rfl rfl (h4.at hE) hi' (fun _ => rfl) (fun u q hu => ?_)
    obtain ⟨Fo, Fc, rfl, hF⟩ := hu.sl
    have hFl := hF.len63
    skip
    refine WL.alloc rfl rfl (fun x1 hb16 y1 => ?_)
    skip
    refine WL.st rfl rfl rfl hb16 rfl rfl (ones_of rfl) (fun x2 hb16 hg16 => ?_)
    have y2 : Ext w x2 := y1.grown hg16 y1.size (fun g hg => by cases hg; exact Nat.le_refl _)
    have hE2 := hE.trans y2
    have ho2 := hov.extN y2
    have hF2 : Sl x2 (Old x2) Fo Fc fr[i] := hF.mono (fun b hb => (hE2.block b hb).trans (hE.block b hb).symm) (fun b hb => Nat.lt_of_lt_of_le hb hE2.size)
    obtain ⟨oo, oc, rfl, hos⟩ := ho2.oldN.sl
    (repeat (first | (apply WL.pure; rfl; rfl; rfl) | (apply WL.nil) | (apply EX.thenN) | (apply CW.seq) | (apply CW.region) | (apply WL.makeFunc; rfl; rfl; rfl; rfl)))
    refine WL.call rfl rfl rfl (containsFunc_int x2 (fun x => fr[i].contains x) hos (fun w5 hw k hk => FnV.mk (cs := [_]) (lr1 w5 _ _ (hb16.ext hw) (hF2.up hw)))) ?_
    rintro _ x3 ⟨rfl, y3'⟩
    have hE3 := hE2.trans y3'
    have ee3 := e.trans (y2.trans y3')
    have ho3 := ho2.extN y3'
    have hb163 := hb16.ext y3'
    have hF3 := hF2.up y3'
    have hh3 := hhw.up (y2.trans y3')
    (repeat (first | (apply WL.nil) | (apply EX.thenN)))
    refine CW.cond rfl (fun h => ?_) (fun h => ?_)
    · (repeat (first | (apply WL.add; rfl; rfl; rfl; rfl; omega; omega) | (apply WL.pure; rfl; rfl; rfl) | (apply WL.nil) | (apply EX.thenN) | (apply CW.region) | (apply CW.exit) | (apply EX.thenX) | (apply EX.inX)))
      exact EX.back (i + 1, _, out) (by repeat (first | exact trivial | refine ⟨rfl, ?_⟩)) ⟨hi', ho3, hI.skip, ee3⟩ (by dsimp only; omega)
    (repeat (first | (apply WL.pure; rfl; rfl; rfl) | (apply EX.thenN) | (apply CW.seq) | (apply CW.region) | (apply WL.lenS; rfl; rfl; rfl) | (apply CW.skip)))
    refine WL.make (α := Bool) rfl rfl rfl rfl (by omega) (by unfold maxLen; omega) (fun x4 ho4 hg4 => ?_)
    have y4 : Ext x3 x4 := (Below.refl _ _).grown hg4 (Nat.le_refl _) (fun k h => by cases h)
    generalize hhv : Value.slice (some ⟨x3.heap.size, 0, none⟩) g.length g.length = hv at *
    have hb164 := hb163.ext y4
    (repeat (first | (apply WL.pure; rfl; rfl; rfl) | (apply WL.nil) | (apply EX.thenN) | (apply CW.seq) | (apply CW.region) | (apply WL.lenS; rfl; rfl; rfl) | (apply WL.ld; rfl; rfl; rfl; assumption; rfl) | (apply CW.block)))
    refine CW.loop (S := Nat × List Bool) (fun s => [(0, labP b), (1, .slice go g.length gc), (2, .slice po part.length pc), (3, .int .i64 (m : Int)), (9, .slice ho (rndG g part m).length hc), (14, .slice oo out.length oc), (17, hv), (81, .slice a4 fr.length c4), (82, .int .i64 fr.length), (83, .int .i64 i), (93, .slice Fo fr[i].length Fc), (94, .int .i64 fr[i].length), (95, .int .i64 s.1)])
      (fun s w => s.1 ≤ fr[i].length ∧ Own w x3.heap.size 4 Non hv s.2 ∧ s.2.length = g.length ∧ (∀ y ∈ fr[i].take s.1, part.getD y.toNat 0 = part.getD m 0 → s.2.getD y.toNat false = true) ∧ Ext x3 w) (fun s => fr[i].length - s.1) (0, List.replicate g.length false) (by repeat (first | exact trivial | refine ⟨rfl, ?_⟩))
      ⟨Nat.zero_le _, ho4, by simp, (fun y hy => by simp at hy), y4⟩ ?_
    clear ho4 hg4 y4 hb164
    rintro ⟨j, tl⟩ x5 ⟨hj, hto, htl, htr, y5⟩
    dsimp only at hj hto htl htr y5 ⊢
    have hE5 := hE3.trans y5
    have hF5 := hF3.up y5
    (repeat (first | (apply WL.pure; rfl; rfl; rfl) | (apply WL.nil) | (apply EX.thenN) | (apply CW.seq) | (apply CW.region)))
    refine CW.cond rfl (fun h => ?_) (fun h => ?_)
    · have hj' : j < fr[i].length := by simp at h; omega
      clear h
      have hto' := hFok _ (List.getElem_mem hj')
      obtain ⟨x, ex⟩ := Int.eq_ofNat_of_zero_le hto'.1
      have hxp : x < part.length := by omega
      have hD : Ext x5 (drew x5) := Ext.drew x5
      have hpd := hp.up (hE5.trans hD)
      have htod := hto.extN hD
      have hSE : ∀ z, (fun z : World => Ext (drew x5) z) z → Ext (drew x5) z := fun _ h => h
      (repeat (first | (apply EX.thenN) | (apply CW.seq) | (apply CW.region) | (apply CW.block) | (apply CW.skip)))
      refine WL.elemI rfl rfl rfl rfl rfl hF5 hj' ex (fun _ => rfl) (fun q => ?_)
      (repeat (apply WL.pure; rfl; rfl; rfl))
      apply WL.nil
      apply EX.thenN
      skip
      refine CW.drawE (fun z : World => Ext (drew x5) z) [(0, true), (1, true), (2, true), (3, true), (4, true), (5, true), (6, true), (7, true), (8, true), (9, true), (10, true), (11, true)] 12 mixed (by kernel_rfl) (Ext.refl _) ?_
      (repeat (apply HL.pure; rfl; rfl; rfl; rfl))
      refine HL.elemN (k := x) hSE rfl rfl rfl rfl rfl rfl rfl (fun _ h => h) hpd hxp (fun _ => rfl) (fun u q hu => ?_)
      obtain rfl := hu.int
      (repeat (apply HL.pure; rfl; rfl; rfl; rfl))
      refine HL.elemN (k := m) hSE rfl rfl rfl rfl rfl rfl rfl (fun _ h => h) hpd hmp (fun _ => rfl) (fun u q hu => ?_)
      obtain rfl := hu.int
      (repeat (apply HL.pure; rfl; rfl; rfl; rfl))
      refine HL.setTail (yv := (part[x] == part[m])) rfl rfl rfl rfl rfl rfl htod (show x < tl.length by omega) (fun _ => rfl) (fun _ => rfl) (Rd.mkBool _ _ _) (fun x6 q2 ho6 hg6 => ?_)
      have y6 : Ext x3 x6 := (y5.trans hD).grown hg6 (y5.trans hD).size (fun b hb => (htod.lt b hb).1)
      (repeat (first | (apply WL.add; rfl; rfl; rfl; rfl; omega; omega) | (apply WL.pure; rfl; rfl; rfl) | (apply WL.nil) | (apply EX.thenN) | (apply CW.region) | (apply EX.inN)))
      refine EX.back (j + 1, tl.set x (part[x] == part[m])) (by repeat (first | exact trivial | refine ⟨rfl, ?_⟩)) ⟨hj', ho6, by simpa using htl, fun y hy hpy => ?_, y6⟩ (by dsimp only; omega)
      dsimp only at hy ⊢
      have hyr := hFok y (List.mem_of_mem_take hy)
      rw [getD_set (by omega)]
      by_cases exy : x = y.toNat
      · rw [if_pos exy]
        rw [← wgetDI hxp, ← wgetDI hmp, exy, hpy]; simp
      · rw [if_neg exy]
        rw [← List.take_append_getElem hj'] at hy
        rcases List.mem_append.1 hy with hy | hy
        · exact htr y hy hpy
        · rw [List.mem_singleton] at hy
          exact absurd (by rw [hy, ex]; simp) exy
    obtain rfl : j = fr[i].length := by simp at h; omega
    rw [List.take_length] at htr
    obtain ⟨x, hxl, hxg, hxp⟩ := hI.last
    obtain ⟨tto, ttc, hve, hts⟩ := hto.oldN.sl
    subst hve
    have ho5 := ho3.extN y5
    have hh5 := hh3.up y5
    have ee5 := ee3.trans y5
    have hdrop : out.drop (out.length - 1) = [(x : Int)] := by
      rw [List.drop_eq_getElem_cons (by omega), show out.length - 1 + 1 = out.length by omega, List.drop_length]
      rw [List.getElem?_eq_getElem (by omega)] at hxl
      rw [Option.some.inj hxl]
    (repeat (first | (apply WL.sub'; rfl; rfl; rfl; rfl; omega; omega) | (apply WL.pure; rfl; rfl; rfl) | (apply EX.thenN) | (apply CW.seq) | (apply CW.region) | (apply WL.lenS; rfl; rfl; rfl) | (apply CW.exit) | (apply EX.thenX) | (apply EX.inX)))
    refine WL.cutLoO (k := out.length - 1) (by omega) rfl rfl rfl rfl ho5 (by omega) (fun v' ho' hob' => ?_)
    rw [hdrop] at ho'
    obtain ⟨lo, lc, rfl, hls⟩ := ho'.oldN.sl
    (repeat (apply WL.pure; rfl; rfl; rfl))
    refine WL.call rfl rfl rfl (Way_ok x5 (g := rndG g part m) (f := [(x : Int)]) (to := tl) hh5 hls hts) ?_
    rintro _ x6 ⟨wv, rfl, hwv, y6⟩
    obtain ⟨hw0, hsh⟩ := way_found hhok (by omega) (f := [(x : Int)]) (to := tl) (fun y hy => by rw [List.mem_singleton] at hy; subst hy; exact ⟨by omega, by omega⟩) (by omega) (rnd_set hg hpt hG (List.getElem_mem hi') hFok hxg hxp htr)
    have hwl := wayF_len (g := rndG g part m) (f := [(x : Int)]) (to := tl)
    have hwin := rnd_in hg hsh (fun y hy => by rw [List.mem_singleton] at hy; subst hy; rw [Int.toNat_natCast]; exact hxp)
    generalize (wayF (rndG g part m) [(x : Int)] tl).1 = wy at *
    have ho6 := ho5.extN y6
    have ee6 := ee5.trans y6
    have y6s := ee6.size
    (repeat (first | (apply WL.pure; rfl; rfl; rfl) | (apply WL.nil) | (apply EX.thenN) | (apply CW.region)))
    refine WL.cutLoO (k := 1) rfl rfl rfl rfl rfl hwv hw0 (fun v' hov' hob2 => ?_)
    have hdl : (wy.drop 1).length ≤ g.length := by rw [List.length_drop]; omega
    obtain ⟨do', dc, rfl, hds⟩ := hov'.oldN.sl
    skip
    refine WL.app (F := Non) rfl rfl rfl rfl ho6 hds.srcN ee6.size (fun _ h => h.elim) (by unfold maxLen; omega) (by omega) (fun nv x7 ho7 hg7 _ => ?_)
    have e7 : Ext w3 x7 := ee6.grown hg7 ee6.size (fun b hb => (ho6.lt b hb).1)
    (repeat (first | (apply WL.add; rfl; rfl; rfl; rfl; omega; omega) | (apply WL.pure; rfl; rfl; rfl) | (apply WL.nil) | (apply EX.thenN) | (apply CW.region) | (apply EX.inN)))
    refine EX.back (i + 1, nv, out ++ wy.drop 1) (by repeat (first | exact trivial | refine ⟨rfl, ?_⟩)) ⟨hi', ho7, ⟨by rw [List.length_append]; omega, fun y hy => ?_, ?_⟩, e7⟩ (by dsimp only; omega)
    · rcases List.mem_append.1 hy with hy | hy
      · exact hI.rg y hy
      · exact hwin y (List.mem_of_mem_drop hy)
    · rw [List.length_append, Nat.add_mul]; omega
  obtain rfl : i = fr.length := by simp at h; omega
  clear h
  obtain ⟨x, hxl, hxg, hxp⟩ := hI.last
  have hrowl : ((rndG g part m).getD x []).length ≤ 8589934592 := Nat.le_trans (by rw [rndG_get hxg]; exact List.length_filter_le _ _) (by rw [wgetDG hxg]; exact Nat.le_trans (edges_row hxg) hedg)
  (repeat (first | (apply WL.pure; rfl; rfl; rfl) | (apply EX.thenN) | (apply CW.seq) | (apply CW.region) | (apply WL.lenS; rfl; rfl; rfl) | (apply CW.exit) | (apply EX.thenX) | (apply EX.inX)))
  refine WL.make (α := Bool) rfl rfl rfl rfl (by omega) (by unfold maxLen; omega) (fun x4 ho4 hg4 => ?_)
  have y4 : Ext w x4 := (Below.refl _ _).grown hg4 (Nat.le_refl _) (fun k h => by cases h)
  generalize hhv : Value.slice (some ⟨w.heap.size, 0, none⟩) g.length g.length = hv at *
  (repeat (first | (apply WL.pure; rfl; rfl; rfl) | (apply WL.nil) | (apply EX.thenN) | (apply CW.seq) | (apply CW.region)))
  refine WL.setN (u := .bool true) (yv := true) rfl rfl rfl rfl ho4 (show m < (List.replicate g.length false).length by simpa using hml) (fun _ => rfl) (fun _ => rfl) (Rd.mkBool _ _ _) (fun x5 q2 ho5 hg5 => ?_)
  have y5 : Ext w x5 := y4.grown hg5 y4.size (fun b hb => (ho4.lt b hb).1)
  obtain ⟨tto, ttc, hve, hts⟩ := ho5.oldN.sl
  subst hve
  have htm : ((List.replicate g.length false).set m true).getD m false = true := by rw [getD_set (by simpa using hml), if_pos rfl]
  have htl : ((List.replicate g.length false).set m true).length = g.length := by simp
  generalize (List.replicate g.length false).set m true = tl at *
  have ho6 := hov.extN y5
  have hh6 := hhw.up y5
  have ee5 := e.trans y5
  have hxo : x < (rndG g part m).length := by omega
  have hol1 : out.length - 1 < out.length := by omega
  have hxe : out[out.length - 1] = (x : Int) := by rw [List.getElem?_eq_getElem hol1] at hxl; exact Option.some.inj hxl
  obtain ⟨oo, oc, hove, hos⟩ := ho6.oldN.sl
  subst hove
  (repeat (first | (apply WL.sub'; rfl; rfl; rfl; rfl; omega; omega) | (apply WL.pure; rfl; rfl; rfl) | (apply WL.nil) | (apply EX.thenN) | (apply CW.seq) | (apply CW.region) | (apply WL.lenS; rfl; rfl; rfl)))
  refine WL.elemI (i := out.length - 1) rfl rfl rfl rfl (by rw [show ((out.length - 1 : Nat) : Int) = (out.length : Int) - 1 by omega]; rfl) hos hol1 hxe (fun _ => rfl) (fun q => ?_)
  skip
  refine WL.elemN (i := x) rfl rfl rfl rfl rfl hh6 hxo (fun _ => rfl) (fun u q hu => ?_)
  rw [← wgetDG hxo] at hu
  obtain ⟨ro, rc, rfl, hrow⟩ := hu.sl
  (repeat (apply WL.pure; rfl; rfl; rfl))
  refine WL.call rfl rfl rfl (Way_ok x5 (g := rndG g part m) (to := tl) hh6 hrow hts) ?_
  rintro _ x6 ⟨wv, rfl, hwv, y6⟩
  obtain ⟨hw0, hsh⟩ := way_found hhok (by omega) (f := (rndG g part m).getD x []) (to := tl) (okL_row hhok) (by omega) (rnd_back hg hpt hG hxg hxp htm)
  have hwl := wayF_len (g := rndG g part m) (f := (rndG g part m).getD x []) (to := tl)
  generalize (wayF (rndG g part m) ((rndG g part m).getD x []) tl).1 = wy at *
  have ho7 := ho6.extN y6
  have ee6 := ee5.trans y6
  (repeat (first | (apply WL.sub'; rfl; rfl; rfl; rfl; omega; omega) | (apply WL.pure; rfl; rfl; rfl) | (apply WL.nil) | (apply EX.thenN) | (apply CW.seq) | (apply CW.region) | (refine WL.lenO rfl rfl rfl (by assumption) ?_)))
  refine WL.cutHiO (k := wy.length - 1) (by omega) rfl rfl rfl rfl hwv (by omega) (fun v' hov' hob2 => ?_)
  have hdl : (wy.take (wy.length - 1)).length ≤ g.length := by rw [List.length_take]; omega
  obtain ⟨do', dc, rfl, hds⟩ := hov'.oldN.sl
  skip
  refine WL.app (F := Non) rfl rfl rfl rfl ho7 hds.srcN ee6.size (fun _ h => h.elim) (by unfold maxLen; omega) (by omega) (fun nv x7 ho8 hg7 _ => ?_)
  have e7 : Ext w3 x7 := ee6.grown hg7 ee6.size (fun b hb => (ho7.lt b hb).1)
  (repeat (first | (apply WL.pure; rfl; rfl; rfl) | (apply WL.nil) | (apply EX.thenN) | (apply CW.ret)))
  exact EX.ret1 rfl rfl ⟨out ++ wy.take (wy.length - 1), by rw [List.length_append]; omega, ho8.low (by omega), e3.trans e7⟩
end Go.Proofs.Ytikigaeihdmcaaa

/-
  watchkeep.unrolled: a word written otherwise.
-/
set_option linter.unusedVariables false
set_option linter.unusedSimpArgs false
namespace Go.Proofs.Ytikigaeihdmcaaa
open Go.RowKit

end Go.Proofs.Ytikigaeihdmcaaa

/-
  Package auto: odd, Check, Fits, member, product.
-/
set_option linter.unusedVariables false
set_option linter.unusedSimpArgs false
namespace Go.Proofs.Ytikigaeihdmcaaa
open Go.RowKit

abbrev LAuto := List Int × List (List Int) × List Nat × List Nat × List (List Int)
abbrev autoV (a1 : Option Addr) (c1 : Nat) (a2 : Option Addr) (c2 : Nat) (a3 : Option Addr) (c3 : Nat) (a4 : Option Addr) (c4 : Nat) (a5 : Option Addr) (c5 : Nat) (n1 n2 n3 n4 n5 : Nat) : Value := .agg [.slice a1 n1 c1, .slice a2 n2 c2, .slice a3 n3 c3, .slice a4 n4 c4, .slice a5 n5 c5].toArray
/-- the cells of an automaton: what they read as -/
structure AutoAt (w : World) (F : Nat → Prop) (v : Value) (A : LAuto) : Prop where
  ok : ∃ a1 c1 a2 c2 a3 c3 a4 c4 a5 c5, v = autoV a1 c1 a2 c2 a3 c3 a4 c4 a5 c5 A.1.length A.2.1.length A.2.2.1.length A.2.2.2.1.length A.2.2.2.2.length ∧ Sl w F a1 c1 A.1 ∧ Sl w F a2 c2 A.2.1 ∧ Sl w F a3 c3 A.2.2.1 ∧ Sl w F a4 c4 A.2.2.2.1 ∧ Sl w F a5 c5 A.2.2.2.2
structure OkA (A : LAuto) : Prop where
  n : A.2.1.length ≤ 2048
  f : A.2.2.2.2.length ≤ 80
  mu : A.2.2.1.length = A.2.1.length
  no : A.2.2.2.1.length = A.2.1.length
  st : okL A.2.1.length A.1
  nx : ∀ r ∈ A.2.1, okL A.2.1.length r
  fr : ∀ r ∈ A.2.2.2.2, okL A.2.1.length r
end Go.Proofs.Ytikigaeihdmcaaa

/-
  Package auto: product.
-/
set_option linter.unusedVariables false
set_option linter.unusedSimpArgs false
namespace Go.Proofs.Ytikigaeihdmcaaa
open Go.RowKit

end Go.Proofs.Ytikigaeihdmcaaa

/-
  Package auto: reached, round.
-/
set_option linter.unusedVariables false
set_option linter.unusedSimpArgs false
namespace Go.Proofs.Ytikigaeihdmcaaa
open Go.RowKit

def nzB (num : List Int) : List Bool := num.map fun x => decide (x ≠ 0)
structure NInv (g : Graph) (f num li todo : List Int) : Prop where
  ln : num.length = g.length
  nd : li.Nodup
  ok : okL g.length li
  val : ∀ k : Nat, k < g.length → num.getD k 0 = if (k : Int) ∈ li then (li.idxOf (k : Int) : Int) + 1 else 0
  rv : RInv g f (nzB num) todo
section
variable {g : Graph} {f num li todo : List Int}
theorem nzB_get {k : Nat} (h : k < num.length) : (nzB num).getD k false = decide (num.getD k 0 ≠ 0) := by
  unfold nzB
  rw [List.getD_eq_getElem?_getD, List.getD_eq_getElem?_getD, List.getElem?_map, List.getElem?_eq_getElem h]; rfl
theorem nzB_set {k : Nat} {v : Int} (hv : v ≠ 0) : nzB (num.set k v) = (nzB num).set k true := by
  unfold nzB; rw [List.map_set, decide_eq_true hv]
theorem NInv.start (hf : okL g.length f) : NInv g f (List.replicate g.length 0) [] f := by
  refine ⟨by simp, List.nodup_nil, (fun x hx => by cases hx), fun k hk => ?_, ?_⟩
  · rw [if_neg (by simp), List.getD_eq_getElem?_getD, List.getElem?_replicate, if_pos hk]; rfl
  · have : nzB (List.replicate g.length (0 : Int)) = List.replicate g.length false := by simp [nzB]
    rw [this]; exact RInv.start hf
theorem NInv.pass {x : Int} (h : NInv g f num li (todo ++ [x])) (hx : num.getD x.toNat 0 ≠ 0) : NInv g f num li todo := by
  have hxo := h.rv.ok x (by simp)
  refine ⟨h.ln, h.nd, h.ok, h.val, RInv.pass h.rv ?_⟩
  rw [nzB_get (by rw [h.ln]; omega)]
  simpa using hx
theorem NInv.mark {x : Int} (hg : okG g) (h : NInv g f num li (todo ++ [x])) (hx : num.getD x.toNat 0 = 0) : NInv g f (num.set x.toNat ((li.length : Int) + 1)) (li ++ [x]) (todo ++ g.getD x.toNat []) := by
  have hxo := h.rv.ok x (by simp)
  have hxn : ((x.toNat : Nat) : Int) = x := by omega
  have hxl : x.toNat < g.length := by omega
  have hni : x ∉ li := by
    intro hm
    have := h.val x.toNat hxl
    rw [hxn, if_pos hm, hx] at this
    omega
  refine ⟨by simpa using h.ln, ?_, ?_, fun k hk => ?_, ?_⟩
  · rw [List.nodup_append]
    refine ⟨h.nd, by simp, fun a ha b hb e => ?_⟩
    rw [List.mem_singleton] at hb; subst hb; subst e; exact hni ha
  · intro y hy
    rcases List.mem_append.1 hy with h1 | h1
    · exact h.ok y h1
    · rw [List.mem_singleton] at h1; subst h1; exact hxo
  · rw [getD_setI (by rw [h.ln]; exact hxl)]
    by_cases e : x.toNat = k
    · subst e
      rw [if_pos rfl, hxn, if_pos (by simp), List.idxOf_append, if_neg hni]
      simp
    · rw [if_neg e, h.val k hk]
      have hne : ¬ (k : Int) = x := by omega
      have hiff : ((k : Int) ∈ li ++ [x]) ↔ (k : Int) ∈ li := by
        rw [List.mem_append, List.mem_singleton]; exact ⟨fun h => h.resolve_right hne, .inl⟩
      by_cases hm : (k : Int) ∈ li
      · rw [if_pos hm, if_pos (hiff.2 hm), List.idxOf_append, if_pos hm]
      · rw [if_neg hm, if_neg (fun h => hm (hiff.1 h))]
  · rw [nzB_set (by omega)]; exact RInv.mark hg h.rv
theorem NInv.done (h : NInv g f num li []) (hg : okG g) (hf : okL g.length f) (x : Nat) : (x : Int) ∈ li ↔ Rch g f x := by
  have hr := h.rv.done
  constructor
  · intro hm
    have hx := h.ok _ hm
    have hxl : x < g.length := by omega
    have h1 : (nzB num).getD x false = true := by
      rw [nzB_get (by rw [h.ln]; exact hxl), h.val x hxl, if_pos hm]
      simp; omega
    exact h.rv.sound x h1
  · intro hm
    have hxl : x < g.length := by
      cases hm with
      | base hx => have := hf _ hx; omega
      | step _ hx => have := okG_row hg _ _ hx; omega
    have h1 : (rchB g f).getD x false = true := by
      rw [List.getD_eq_getElem?_getD, rchB_get hxl]; simp [hm]
    rw [← hr, nzB_get (by rw [h.ln]; exact hxl), h.val x hxl] at h1
    apply Classical.byContradiction
    intro hn
    rw [if_neg hn] at h1
    simp at h1
end
end Go.Proofs.Ytikigaeihdmcaaa

/-
  slices.Index and slices.Contains at []bool.
-/
set_option linter.unusedVariables false
namespace Go.Proofs.Ytikigaeihdmcaaa
open Go.RowKit
end Go.Proofs.Ytikigaeihdmcaaa

/-
  lasso.turns, least, Same: walked.
-/
set_option linter.unusedVariables false
set_option linter.unusedSimpArgs false
namespace Go.Proofs.Ytikigaeihdmcaaa
open Go.RowKit

end Go.Proofs.Ytikigaeihdmcaaa

/-
  lasso.Least walked.
-/
set_option linter.unusedVariables false
set_option linter.unusedSimpArgs false
namespace Go.Proofs.Ytikigaeihdmcaaa
open Go.RowKit

end Go.Proofs.Ytikigaeihdmcaaa

/-
  Package auto: round, accepts, Accepts.
-/
set_option linter.unusedVariables false
set_option linter.unusedSimpArgs false
namespace Go.Proofs.Ytikigaeihdmcaaa
open Go.RowKit

end Go.Proofs.Ytikigaeihdmcaaa

/-
  An element that is read in a drawn region when nothing else may come.
-/
set_option linter.unusedVariables false
set_option linter.unusedSimpArgs false
namespace Go.Proofs.Ytikigaeihdmcaaa
open Go.RowKit
section
variable {P : Program} {Q : Exit → Act → World → Prop} {n : Nat} {σ : Sg} {wc : World} {L : List Oper} {S : World → Prop} {rest : List (Nat × Bool)} {i j d d' : Nat} {ty : TypeId} {pos : String} {af : Array Edge} {g : Option (Nat × Bool)} {ty' : TypeId} {pos' : String} {af' : Array Edge} {g' : Option (Nat × Bool)} {t e : TypeId} {x ix : Operand}
variable {α : Type} [Rep α] {F : Nat → Prop}
end
end Go.Proofs.Ytikigaeihdmcaaa

/-
  Package auto: accepts, Accepts.
-/
set_option linter.unusedVariables false
set_option linter.unusedSimpArgs false
namespace Go.Proofs.Ytikigaeihdmcaaa
open Go.RowKit

open Classical in
noncomputable def accB (A : LAuto) (L : Nat → Nat) : Bool := decide (Acc A.1 A.2.1 A.2.2.1 A.2.2.2.1 A.2.2.2.2 L)
end Go.Proofs.Ytikigaeihdmcaaa

/-
  The least form of a word fits.
-/
set_option linter.unusedVariables false
set_option linter.unusedSimpArgs false
namespace Go.Proofs.Ytikigaeihdmcaaa
open Go.RowKit

end Go.Proofs.Ytikigaeihdmcaaa

/-
  Package auto: Accepts.
-/
set_option linter.unusedVariables false
set_option linter.unusedSimpArgs false
namespace Go.Proofs.Ytikigaeihdmcaaa
open Go.RowKit

end Go.Proofs.Ytikigaeihdmcaaa

/-
  Literals all of whose blocks are new.
-/
set_option linter.unusedVariables false
set_option linter.unusedSimpArgs false
namespace Go.Proofs.Ytikigaeihdmcaaa
open Go.RowKit

/-- the blocks from c on -/
def From (c : Nat) (w : World) : Nat → Prop := fun b => c ≤ b ∧ b < w.heap.size
theorem Rd.upF {α : Type} [Rep α] {w w' : World} {c : Nat} {v : Value} {x : α} (h : Rd w (From c w) v x) (hE : Ext w w') : Rd w' (From c w') v x := h.mono (fun b hb => hE.block b hb.2) fun b hb => ⟨hb.1, Nat.lt_of_lt_of_le hb.2 hE.size⟩
section
variable {P : Program} {Q : Exit → Act → World → Prop} {n : Nat} {σ : Sg} {w : World} {L rest : List Oper} {d : Nat} {ty : TypeId} {pos : String} {af : Array Edge} {g : Option (Nat × Bool)}
variable {α : Type} [Rep α] {e t : TypeId} {x0 : α} {bytes : Nat}
theorem WL.litF (c : Nat) (hc : c ≤ w.heap.size) {len : Nat} {parts : List (Nat × Operand)} {vs : List Value} (ys : List α) (hg : gd L σ ⟨some d, .buildSlice t len parts.toArray, ty, pos, af, g⟩ = some true) (hd : Nat.ble (d + 1) n = true)
    (hp : idxL 0 (sndL parts) = parts) (hv : evs σ (sndL parts) = some vs) [hs : IsS P t e] [ht : IsT P e α] [hz : IsZ P e x0 bytes] (hlen : len = ys.length) (hr : RdAll w (From c w) vs ys) (hsz : ys.length * sz α ≤ 16777216)
    (h : ∀ v w', Ext w w' → Rd w' (From c w') v ys → WL P L Q rest n ((d, v) :: σ) w') :
    WL P L Q (⟨some d, .buildSlice t len parts.toArray, ty, pos, af, g⟩ :: rest) n σ w :=
  WL.lit hg hd hp hv hlen hr hsz (fun b h => h.2) fun w' ho hgr => by
    have hE : Ext w w' := (Below.refl _ _).grown hgr (Nat.le_refl _) (fun k h => by cases h)
    refine h _ w' hE (ho.rd.mono (fun _ _ => rfl) fun b hb => ?_)
    rcases hb with hb | hb
    · exact ⟨hb.1, Nat.lt_of_lt_of_le hb.2 hE.size⟩
    · have := ho.lt b hb; exact ⟨by omega, this.2.1⟩
end
end Go.Proofs.Ytikigaeihdmcaaa

/-
  watchkeep.ones, ever; slices.Clone at [][]int.
-/
set_option linter.unusedVariables false
set_option linter.unusedSimpArgs false
namespace Go.Proofs.Ytikigaeihdmcaaa
open Go.RowKit

end Go.Proofs.Ytikigaeihdmcaaa

/-
  Accepts, by its error and its answer.
-/
set_option linter.unusedVariables false
set_option linter.unusedSimpArgs false
namespace Go.Proofs.Ytikigaeihdmcaaa
open Go.RowKit

theorem AutoAt.up {w w' : World} {v : Value} {A : LAuto} (h : AutoAt w (Old w) v A) (hE : Ext w w') : AutoAt w' (Old w') v A := by
  obtain ⟨a1, c1, a2, c2, a3, c3, a4, c4, a5, c5, hv, h1, h2, h3, h4, h5⟩ := h.ok
  exact ⟨a1, c1, a2, c2, a3, c3, a4, c4, a5, c5, hv, h1.up hE, h2.up hE, h3.up hE, h4.up hE, h5.up hE⟩
end Go.Proofs.Ytikigaeihdmcaaa

/-
  What Find tells, against fair ways that are accepted. Plain lists.
-/
set_option linter.unusedVariables false
set_option linter.unusedSimpArgs false
namespace Go.Proofs.Ytikigaeihdmcaaa

structure WWay (W : LWorld) (r : Nat → Nat) : Prop where
  first : (r 0 : Int) ∈ W.1
  step : ∀ i, (r (i + 1) : Int) ∈ W.2.1.getD (r i) []
  fair : ∀ F ∈ W.2.2.2, ∀ i, ∃ j, i ≤ j ∧ (r j : Int) ∈ F
section
variable {W : LWorld} {A : LAuto2} {s l : List Int}
/-- what is found -/
structure PathE (W : LWorld) (A : LAuto2) (s l : List Int) : Prop where
  so : okL W.2.1.length s
  lo : okL W.2.1.length l
  l0 : 0 < l.length
  good : goodB W.1 W.2.1 W.2.2.2 (s ++ l) l = true
  acc : AccA A (lat (labL W.2.2.1 s) (labL W.2.2.1 l))
end
section
variable {W : LWorld} {A : LAuto2} {ps : List Pr2} {fr : List Int} {g : List (List Int)} {part : List Int}
end
end Go.Proofs.Ytikigaeihdmcaaa

/-
  Maps from a key to its number, made by the call: the keys as a list, in the order in which they came. Over any program.
-/
set_option linter.unusedVariables false
set_option linter.unusedSimpArgs false
namespace Go.Proofs.Ytikigaeihdmcaaa
open Go.RowKit

/-- a map type, its key's type and its element's type -/
class IsM (P : Program) (t : TypeId) (k e : outParam TypeId) : Prop where
  ok : P.underlying t = some (.map k e)
/-- keys of which the model's order is whole -/
class IsKy (P : Program) (k : TypeId) : Prop where
  ok : WideMaps.KeyLaw P k
theorem IsKy.of {P : Program} {k : TypeId} {d : TypeDesc} (hl : laidOutB P = true) {m : Nat} (hm : Nat.ble (m + 1) 10000 = true) (hrow : Nat.ble (k + 1) P.types.size = true) (hk : P.keyTypeAt m k = true) (hu : P.underlying k = some d) (hd : aggD d = true) : IsKy P k :=
  ⟨deep_law_laid hl (Nat.le_of_ble_eq_true hm) (Nat.lt_of_succ_le (Nat.le_of_ble_eq_true hrow)) hk (by
    rw [hu]; cases d <;> first | rfl | (cases hd))⟩
/-- a type whose zero value is the number 0 -/
class IsZ0 (P : Program) (e : TypeId) : Prop where
  ok : (P.info? e).map (fun i => i.zero) = some (some (.int .i64 0))
/-- v is a key of type k -/
def KeyV (P : Program) (k : TypeId) (v : Value) : Prop := ∃ l, keyOf P k v = some l
/-- block b is a map that holds the keys ks, each with its number -/
def NumM (P : Program) (k : TypeId) (w : World) (b : Nat) (ks : List Value) : Prop :=
  ∃ (es : Array MapEntry) (clock : Nat), w.heap[b]? = some (.map es clock) ∧ es.toList.map (·.key) = ks ∧ (∀ (i : Nat) (e : MapEntry), es.toList[i]? = some e → e.val = .int .i64 (i : Int)) ∧ (∀ x ∈ ks, KeyV P k x) ∧ ks.Nodup
section
variable {P : Program} {k : TypeId} {w w' : World} {b : Nat} {ks : List Value}
theorem NumM.lt (h : NumM P k w b ks) : b < w.heap.size := by
  obtain ⟨es, clock, hb, _⟩ := h
  exact (Array.getElem?_eq_some_iff.1 hb).1
theorem NumM.at (h : NumM P k w b ks) (hb : w'.heap[b]? = w.heap[b]?) : NumM P k w' b ks := by
  obtain ⟨es, clock, h1, h2⟩ := h
  exact ⟨es, clock, hb.trans h1, h2⟩
theorem NumM.ext (h : NumM P k w b ks) (hE : Ext w w') : NumM P k w' b ks := h.at (hE.block b h.lt)
theorem NumM.kept {row : Option Nat} (h : NumM P k w b ks) (hg : w.grownBy w' row) (hne : some b ≠ row) : NumM P k w' b ks := h.at (hg.block b h.lt hne)
theorem NumM.made (w : World) : NumM P k (w.alloc (.map #[] 0)) w.heap.size [] :=
  ⟨#[], 0, heap_alloc_new w _, rfl, fun i e h => by simp at h, fun x h => by simp at h, List.Pairwise.nil⟩
theorem run_num {t e : TypeId} {x : Value} [ht : IsM P t k e] [hk : IsKy P k] [hz : IsZ0 P e] (h : NumM P k w b ks) (hx : KeyV P k x) :
    (x ∉ ks ∧ (Instr.lookup t (.map (some b)) x true).run P w = .ok (.tuple #[.int .i64 0, .bool false]) w) ∨
    ∃ (j : Nat) (hj : j < ks.length), ks[j] = x ∧ (Instr.lookup t (.map (some b)) x true).run P w = .ok (.tuple #[.int .i64 (j : Int), .bool true]) w := by
  obtain ⟨es, clock, hb, hes, hv, hks, hnd⟩ := h
  obtain ⟨l, hx⟩ := hx
  obtain ⟨i, h1, h2⟩ := Option.map_eq_some_iff.1 hz.ok
  have hzr : (zeroValue e).run P w = .ok (.int .i64 0) w := by simp [zeroValue, typeInfo, h1, h2]
  have hkeys : ∀ e ∈ es.toList, ∃ l, keyOf P k e.key = some l := fun e he => hks _ (hes ▸ List.mem_map.2 ⟨e, he, rfl⟩)
  rcases hk.ok.find w hx es.toList hkeys with ⟨g1, g2⟩ | ⟨j, e0, g1, g2, g3⟩
  · refine .inl ⟨fun hm => ?_, by simp [Instr.lookup, run_underlying ht.ok, MapKept.run_getObj_map hb, hk.ok.check w _ hx, g1, hzr, Result.andThen]⟩
    rw [← hes] at hm
    obtain ⟨e, he, hke⟩ := List.mem_map.1 hm
    exact g2 e he hke
  · have hj : j < ks.length := by rw [← hes, List.length_map]; exact (List.getElem?_eq_some_iff.1 g2).1
    refine .inr ⟨j, hj, ?_, ?_⟩
    · subst hes
      rw [List.getElem_map, ← g3]
      congr 1
      exact (List.getElem?_eq_some_iff.1 g2).2
    · have hval := hv j e0 g2
      simp [Instr.lookup, run_underlying ht.ok, MapKept.run_getObj_map hb, hk.ok.check w _ hx, g1, Result.andThen, hval]
end

section
variable {P : Program} {Q : Exit → Act → World → Prop} {n : Nat} {σ : Sg} {w : World} {L rest : List Oper} {d : Nat} {ty : TypeId} {pos : String} {af : Array Edge} {g : Option (Nat × Bool)} {t k e : TypeId} {b : Nat} {ks : List Value} {x y z : Operand} {v : Value}
/-- v, ok := m[x] -/
theorem WL.num (hg : gd L σ ⟨some d, .lookup t x y true, ty, pos, af, g⟩ = some true) (hd : Nat.ble (d + 1) n = true) (hx : ev σ x = some (.map (some b))) (hy : ev σ y = some v) [ht : IsM P t k e] [hk : IsKy P k] [hz : IsZ0 P e]
    (h : NumM P k w b ks) (hv : KeyV P k v)
    (h1 : v ∉ ks → WL P L Q rest n ((d, .tuple ⟨[.int .i64 0, .bool false]⟩) :: σ) w)
    (h2 : ∀ (j : Nat) (hj : j < ks.length), ks[j] = v → WL P L Q rest n ((d, .tuple ⟨[.int .i64 (j : Int), .bool true]⟩) :: σ) w) :
    WL P L Q (⟨some d, .lookup t x y true, ty, pos, af, g⟩ :: rest) n σ w := by
  rcases run_num (t := t) h hv with ⟨g1, g2⟩ | ⟨j, hj, g1, g2⟩
  · refine WL.run hg hd (fun a ha => ?_) (h1 g1)
    simp [execOp, ha.ev hx, ha.ev hy, g2]
  · refine WL.run hg hd (fun a ha => ?_) (h2 j hj g1)
    simp [execOp, ha.ev hx, ha.ev hy, g2]
end
end Go.Proofs.Ytikigaeihdmcaaa

/-
  Maps in drawn regions that only read.
-/
set_option linter.unusedVariables false
set_option linter.unusedSimpArgs false
namespace Go.Proofs.Ytikigaeihdmcaaa
open Go.RowKit

section
variable {P : Program} {Q : Exit → Act → World → Prop} {n : Nat} {σ : Sg} {w : World} {L rest : List Oper} {d : Nat} {ty : TypeId} {pos : String} {af : Array Edge} {g : Option (Nat × Bool)} {t k e : TypeId} {b : Nat} {ks : List Value} {x y z : Operand} {v : Value}
end
theorem HL.ldAQ {P : Program} {Q : Exit → Act → World → Prop} {n : Nat} {σ : Sg} {w wc : World} {L : List Oper} {S : World → Prop} {ord : List (Nat × Bool)} {i d : Nat} {ty : TypeId} {pos : String} {af : Array Edge} {g : Option (Nat × Bool)} {t e : TypeId} {x : Operand} {b o k : Nat} {cells vs : List Value}
    (hK : ∀ w1, S w1 → w1.heap[b]? = w.heap[b]?) (ho : nthO L i = some ⟨some d, .load t x, ty, pos, af, g⟩) (hg : gd L σ ⟨some d, .load t x, ty, pos, af, g⟩ = some true) (hd : Nat.ble (d + 1) n = true) (hx : ev σ x = some (.pointer (some ⟨b, o, none⟩))) [hc : IsC P t k true] (hb : Blk w b e cells) (hv : segL cells o k = some vs)
    (h : HL P L S Q ord n ((d, .agg vs.toArray) :: σ) wc) : HL P L S Q ((i, true) :: ord) n σ wc := by
  refine HL.run ho hg hd (fun a ha w' hsw => ?_) h
  have hb' : Blk w' b e cells := (hK w' hsw).trans hb
  simp [execOp, ha.ev hx, run_ldA (P := P) (t := t) w' hb' hv]
end Go.Proofs.Ytikigaeihdmcaaa

/-
  Package empty: add: walked.
-/
set_option linter.unusedVariables false
set_option linter.unusedSimpArgs false
namespace Go.Proofs.Ytikigaeihdmcaaa
open Go.RowKit

end Go.Proofs.Ytikigaeihdmcaaa

/-
  Package empty: cross, states: walked.
-/
set_option linter.unusedVariables false
set_option linter.unusedSimpArgs false
namespace Go.Proofs.Ytikigaeihdmcaaa
open Go.RowKit

end Go.Proofs.Ytikigaeihdmcaaa

/-
  Package empty: sets: walked.
-/
set_option linter.unusedVariables false
set_option linter.unusedSimpArgs false
namespace Go.Proofs.Ytikigaeihdmcaaa
open Go.RowKit

end Go.Proofs.Ytikigaeihdmcaaa

/-
  Maps made by the call: keys with any elements, as a list in the order in which they came. Over any program.
-/
set_option linter.unusedVariables false
set_option linter.unusedSimpArgs false
namespace Go.Proofs.Ytikigaeihdmcaaa
open Go.RowKit

/-- keys of which the model's order is whole, whatever their kind -/
class IsKx (P : Program) (k : TypeId) : Prop where
  ok : Go.Maps.Keyed P k
theorem IsKx.int {P : Program} {k : TypeId} (h : P.underlying k = some (.int .i64)) : IsKx P k := ⟨Go.Maps.int_keyed h⟩
theorem KeyV.int {P : Program} {k : TypeId} (h : P.underlying k = some (.int .i64)) {x : Int} (hx : -9223372036854775808 ≤ x ∧ x ≤ 9223372036854775807) : KeyV P k (.int .i64 x) := by
  refine ⟨.int .i64 x, ?_⟩
  unfold keyOf
  rw [h]
  dsimp only
  unfold mapKey
  rw [h]
  dsimp only
  rw [if_pos ⟨rfl, by simp [Lit.wf, IntKind.min, IntKind.max, IntKind.signed, IntKind.bits]; omega⟩]
/-- block b is a map that holds these keys with these elements -/
def MapI (P : Program) (k : TypeId) (w : World) (b : Nat) (kv : List (Value × Value)) : Prop :=
  ∃ (es : Array MapEntry) (clock : Nat), w.heap[b]? = some (.map es clock) ∧ es.toList.map (fun e => (e.key, e.val)) = kv ∧ (∀ x ∈ kv, KeyV P k x.1) ∧ (kv.map Prod.fst).Nodup
section
variable {P : Program} {k : TypeId} {w w' : World} {b : Nat} {kv : List (Value × Value)}
theorem MapI.lt (h : MapI P k w b kv) : b < w.heap.size := by
  obtain ⟨es, clock, hb, _⟩ := h
  exact (Array.getElem?_eq_some_iff.1 hb).1
theorem MapI.at (h : MapI P k w b kv) (hb : w'.heap[b]? = w.heap[b]?) : MapI P k w' b kv := by
  obtain ⟨es, clock, h1, h2⟩ := h
  exact ⟨es, clock, hb.trans h1, h2⟩
theorem MapI.ext (h : MapI P k w b kv) (hE : Ext w w') : MapI P k w' b kv := h.at (hE.block b h.lt)
theorem MapI.kept {row : Option Nat} (h : MapI P k w b kv) (hg : w.grownBy w' row) (hne : some b ≠ row) : MapI P k w' b kv := h.at (hg.block b h.lt hne)
theorem MapI.made (w : World) : MapI P k (w.alloc (.map #[] 0)) w.heap.size [] :=
  ⟨#[], 0, heap_alloc_new w _, rfl, fun x h => by simp at h, List.Pairwise.nil⟩
end
section
variable {P : Program} {Q : Exit → Act → World → Prop} {n : Nat} {σ : Sg} {w : World} {L rest : List Oper} {d : Nat} {ty : TypeId} {pos : String} {af : Array Edge} {g : Option (Nat × Bool)} {t k e : TypeId} {b : Nat} {kv : List (Value × Value)} {x y z : Operand} {v u : Value}
end
end Go.Proofs.Ytikigaeihdmcaaa

/-
  slices.Reverse at []int: the kit's proof, over our own rows.
-/
set_option linter.unusedVariables false
set_option linter.unusedSimpArgs false
namespace Go.Proofs.Ytikigaeihdmcaaa
open Go.RowKit Go.Shelf

end Go.Proofs.Ytikigaeihdmcaaa

/-
  Package empty: way: walked.
-/
set_option linter.unusedVariables false
set_option linter.unusedSimpArgs false
namespace Go.Proofs.Ytikigaeihdmcaaa
open Go.RowKit

end Go.Proofs.Ytikigaeihdmcaaa

/-
  Package empty: good: walked.
-/
set_option linter.unusedVariables false
set_option linter.unusedSimpArgs false
namespace Go.Proofs.Ytikigaeihdmcaaa
open Go.RowKit

end Go.Proofs.Ytikigaeihdmcaaa

/-
  Package empty: round, states: walked.
-/
set_option linter.unusedVariables false
set_option linter.unusedSimpArgs false
namespace Go.Proofs.Ytikigaeihdmcaaa
open Go.RowKit

end Go.Proofs.Ytikigaeihdmcaaa

/-
  Drawn regions whose operations, whatever the order, only make new memory: walked in the order of the text. What is known of each value lasts. Over any program.
-/
set_option linter.unusedVariables false
set_option linter.unusedSimpArgs false
namespace Go.Proofs.Ytikigaeihdmcaaa
open Go.RowKit

/-- what is known of an operation that has been walked: its number, its slot; its value, or a fact of it (of the value, of who made which block, of the world) -/
inductive ME where
  | kn (i d : Nat) (v : Value)
  | fc (i d : Nat) (Φ : Value → (Nat → Nat) → World → Prop)
def ME.i : ME → Nat | .kn i _ _ => i | .fc i _ _ => i
def ME.d : ME → Nat | .kn _ d _ => d | .fc _ d _ => d
def ME.Φ : ME → Value → (Nat → Nat) → World → Prop | .kn _ _ v => fun u _ _ => u = v | .fc _ _ Φ => Φ
def StM (Φ : Value → (Nat → Nat) → World → Prop) : Prop := ∀ v γ γ' w w', Φ v γ w → Ext w w' → (∀ b, b < w.heap.size → γ' b = γ b) → Φ v γ' w'
def ME.ok (m : ME) : Prop := StM m.Φ
/-- the new blocks are i's -/
def byM (γ : Nat → Nat) (w : World) (i : Nat) : Nat → Nat := fun b => if b < w.heap.size then γ b else i
abbrev Ctx := List ME
def findM : Ctx → Nat → Option ME
  | [], _ => none
  | m :: r, j => match Nat.beq m.i j with | true => some m | false => findM r j
theorem findM_mem : ∀ {Γ : Ctx} {j : Nat} {m : ME}, findM Γ j = some m → m ∈ Γ ∧ m.i = j
  | [], _, _, h => by cases h
  | x :: r, j, m, h => by
    unfold findM at h
    split at h
    · rename_i e
      injection h with h
      subst h
      exact ⟨by simp, Nat.eq_of_beq_eq_true e⟩
    · obtain ⟨h1, h2⟩ := findM_mem h
      exact ⟨by simp [h1], h2⟩
def elN (j : Nat) : List Nat → Bool
  | [] => false
  | x :: r => match Nat.beq x j with | true => true | false => elN j r
/-- the edges that an operation waits for, each once -/
def onsL : List Edge → List Nat
  | [] => []
  | e :: r => match Region.binds .any e with
    | true => (match elN e.on (onsL r) with | true => onsL r | false => e.on :: onsL r)
    | false => onsL r
def ons (o : Oper) : List Nat := onsL o.after.toList
theorem onsL_mem {j : Nat} : ∀ {l : List Edge}, j ∈ onsL l → ∃ e ∈ l, Region.binds .any e = true ∧ e.on = j
  | [], h => by cases h
  | e :: r, h => by
    have up : j ∈ onsL r → ∃ e' ∈ e :: r, Region.binds .any e' = true ∧ e'.on = j := fun h => by
      obtain ⟨e', h1, h2⟩ := onsL_mem h; exact ⟨e', by simp [h1], h2⟩
    unfold onsL at h
    split at h
    · rename_i hb
      split at h
      · exact up h
      · rcases List.mem_cons.1 h with rfl | h
        · exact ⟨e, by simp, hb, rfl⟩
        · exact up h
    · exact up h
theorem ons_mem {o : Oper} {j : Nat} (h : j ∈ ons o) : ∃ e ∈ o.after, Region.binds .any e = true ∧ e.on = j := by
  obtain ⟨e, h1, h2⟩ := onsL_mem h
  exact ⟨e, by simpa using h1, h2⟩
/-- the slots that an operation finds: those of values that are known -/
def kS (Γ : Ctx) (σ : Sg) : List Nat → Sg
  | [] => σ
  | j :: r => match findM Γ j with | some (.kn _ d v) => (d, v) :: kS Γ σ r | _ => kS Γ σ r
/-- .. and of facts -/
def needK (Γ : Ctx) (γ : Nat → Nat) (w : World) (k : Sg → Prop) : List Nat → Sg → Prop
  | [], σ => k σ
  | j :: r, σ => match findM Γ j with
    | some (.kn _ d v) => needK Γ γ w k r ((d, v) :: σ)
    | some (.fc _ d Φ) => ∀ v, Φ v γ w → needK Γ γ w k r ((d, v) :: σ)
    | none => needK Γ γ w k r σ
theorem fr_cons {n : Nat} {σ : Sg} {a : Act} {d : Nat} {v : Value} (h : Fr n σ a) (hv : a.tmps.getD d undef = v) : Fr n ((d, v) :: σ) a := by
  refine ⟨h.size, h.defers, fun t u hu => ?_⟩
  by_cases e : d = t
  · subst e; rw [fnd_cons_eq] at hu; cases hu; exact hv
  · rw [fnd_cons_ne e] at hu; exact h.slot _ _ hu
theorem kS_fr {Γ : Ctx} {n : Nat} {σ : Sg} {a : Act} {γ : Nat → Nat} {w : World} (ha : Fr n σ a) : ∀ (l : List Nat), (∀ j ∈ l, ∀ m ∈ Γ, m.i = j → m.Φ (a.tmps.getD m.d undef) γ w) → Fr n (kS Γ σ l) a
  | [], _ => ha
  | j :: r, h => by
    have ih := kS_fr (γ := γ) (w := w) ha r (fun x hx => h x (by simp [hx]))
    unfold kS
    split
    · rename_i i d v hf
      obtain ⟨h1, h2⟩ := findM_mem hf
      exact fr_cons ih (h j (by simp) _ h1 h2)
    · exact ih
theorem needK_fr {Γ : Ctx} {n : Nat} {a : Act} {γ : Nat → Nat} {w : World} {k : Sg → Prop} : ∀ (l : List Nat) (σ : Sg), needK Γ γ w k l σ → Fr n σ a → (∀ j ∈ l, ∀ m ∈ Γ, m.i = j → m.Φ (a.tmps.getD m.d undef) γ w) → ∃ τ, Fr n τ a ∧ k τ
  | [], σ, h, ha, _ => ⟨σ, ha, h⟩
  | j :: r, σ, h, ha, hΦ => by
    unfold needK at h
    have hr : ∀ x ∈ r, ∀ m ∈ Γ, m.i = x → m.Φ (a.tmps.getD m.d undef) γ w := fun x hx => hΦ x (by simp [hx])
    split at h
    · rename_i i d v hf
      obtain ⟨h1, h2⟩ := findM_mem hf
      exact needK_fr r _ h (fr_cons ha (hΦ j (by simp) _ h1 h2)) hr
    · rename_i i d Φ hf
      obtain ⟨h1, h2⟩ := findM_mem hf
      exact needK_fr r _ (h _ (hΦ j (by simp) _ h1 h2)) (fr_cons ha rfl) hr
    · exact needK_fr r _ h ha hr
/-- behind one operation -/
def AftM (γ : Nat → Nat) (w : World) (i d : Nat) (Φ : Value → (Nat → Nat) → World → Prop) : Exit → Act → World → Prop :=
  fun x a w' => x = .normal ∧ a.defers = [] ∧ Ext w w' ∧ Φ (a.tmps.getD d undef) (byM γ w i) w'
/-- what one operation does, wherever it comes; or it isn't wanted -/
def OB (P : Program) (L : List Oper) (w0 : World) (n : Nat) (σ : Sg) (Γ : Ctx) (o : Oper) (i d : Nat) (Φ : Value → (Nat → Nat) → World → Prop) : Prop :=
  ∀ w γ, Ext w0 w → ∀ a, Fr n σ a → (∀ j ∈ ons o, ∀ m ∈ Γ, m.i = j → m.Φ (a.tmps.getD m.d undef) γ w) →
    (Region.wanted o (yielded L.toArray a.tmps) = true ∧ o.wp P a w (fun a' w' => Ext w w' ∧ ∃ v, a' = a.put (some d) v ∧ Φ v (byM γ w i) w') Never) ∨ (Region.wanted o (yielded L.toArray a.tmps) = false ∧ Φ undef (byM γ w i) w)
/-- the walk -/
def ML (P : Program) (L : List Oper) (w0 : World) (n : Nat) (σ : Sg) (K : Ctx → Prop) : Nat → Ctx → List Oper → Prop
  | _, Γ, [] => K Γ
  | i, Γ, o :: r => ∃ m : ME, m.i = i ∧ o.dst = some m.d ∧ Nat.ble (m.d + 1) n = true ∧ fnd σ m.d = none ∧ m.ok ∧ OB P L w0 n σ Γ o i m.d m.Φ ∧ ML P L w0 n σ K (i + 1) (m :: Γ) r
theorem aft_wp {P : Program} {o : Oper} {i d n : Nat} {L : List Oper} {γ : Nat → Nat} {Φ : Value → (Nat → Nat) → World → Prop} {a : Act} {w : World} {τ : Sg} (hd : o.dst = some d) (hn : Nat.ble (d + 1) n = true) (ha : Fr n τ a) (hw : Region.wanted o (yielded L.toArray a.tmps) = true) (h : WL P L (AftM γ w i d Φ) [o] n τ w) :
    o.wp P a w (fun a' w' => Ext w w' ∧ ∃ v, a' = a.put (some d) v ∧ Φ v (byM γ w i) w') Never := by
  unfold WL at h
  have h2 := h a ha
  simp only [wpList, hw, if_true] at h2
  have hlt : d < n := Nat.le_of_ble_eq_true hn
  have hget : ∀ v, (a.put (some d) v).tmps.getD d undef = v := by
    intro v
    simp [Act.put, Array.getD, ha.size, hlt]
  rcases h2 with h2 | ⟨_, hl⟩
  · unfold Oper.wp at *
    obtain ⟨dst, op, ty, pos, af, g⟩ := o
    simp only at hd
    subst hd
    generalize (execOp a.eval _).run P w = r at *
    cases r with
    | ok k w' =>
      cases k <;> simp only [Oper.upon] at h2 ⊢ <;> first
        | exact ⟨h2.2.2.1, _, rfl, by have := h2.2.2.2; rw [hget] at this; exact this⟩
        | (exfalso; have := h2.2.1; simp [Act.put] at this; done)
        | (refine Calls.mono h2 (fun x w'' he => ?_)
           cases x
           · exact ⟨he.2.2.1, _, rfl, by have := he.2.2.2; rw [hget] at this; exact this⟩
           · exact absurd he.1 (by simp)
           · obtain ⟨_, _, hx⟩ := he; exact absurd hx.1 (by simp))
        | exact Rows.mono h2 (fun v w'' he => ⟨he.2.2.1, _, rfl, by have := he.2.2.2; rw [hget] at this; exact this⟩)
        | exact h2
    | halt x w' => cases x <;> simp only [Oper.upon] at h2 ⊢ <;> first | exact h2 | exact absurd h2.1 (by simp)
  · obtain ⟨_, _, hx⟩ := hl
    exact absurd hx.1 (by simp)
section
variable {P : Program} {L : List Oper} {w0 : World} {n : Nat} {σ : Sg} {K : Ctx → Prop} {i d : Nat} {Γ : Ctx} {r : List Oper} {op : Op} {ty : TypeId} {pos : String} {af : Array Edge} {g : Option (Nat × Bool)}
/-- an operation whose value is known, by the rule for its like -/
theorem ML.q {v : Value} (hg : gd L (kS Γ σ (onsL af.toList)) ⟨some d, op, ty, pos, af, g⟩ = some true) (hn : Nat.ble (d + 1) n = true) (hf : fnd σ d = none)
    (h : ∀ γ w, Ext w0 w → WL P L (AftM γ w i d (fun u _ _ => u = v)) [⟨some d, op, ty, pos, af, g⟩] n (kS Γ σ (onsL af.toList)) w) (hr : ML P L w0 n σ K (i + 1) (.kn i d v :: Γ) r) :
    ML P L w0 n σ K i Γ (⟨some d, op, ty, pos, af, g⟩ :: r) := by
  refine ⟨.kn i d v, rfl, rfl, hn, hf, fun u _ _ w w' h _ _ => h, fun w γ hw a ha hΦ => .inl ?_, hr⟩
  have hk : Fr n (kS Γ σ (onsL af.toList)) a := kS_fr ha _ hΦ
  have hwa := gd_wanted hk hg
  exact ⟨hwa, aft_wp rfl hn hk hwa (h γ w hw)⟩
/-- one that isn't wanted -/
theorem ML.pass (hg : gd L (kS Γ σ (onsL af.toList)) ⟨some d, op, ty, pos, af, g⟩ = some false) (hn : Nat.ble (d + 1) n = true) (hf : fnd σ d = none)
    (hr : ML P L w0 n σ K (i + 1) (.kn i d undef :: Γ) r) : ML P L w0 n σ K i Γ (⟨some d, op, ty, pos, af, g⟩ :: r) := by
  refine ⟨.kn i d undef, rfl, rfl, hn, hf, fun u _ _ w w' h _ _ => h, fun w γ hw a ha hΦ => .inr ?_, hr⟩
  have hk : Fr n (kS Γ σ (onsL af.toList)) a := kS_fr ha _ hΦ
  exact ⟨gd_wanted hk hg, rfl⟩
/-- one of whose value a fact is known -/
theorem ML.fc (Φ : Value → (Nat → Nat) → World → Prop) (hg : gd L (kS Γ σ (onsL af.toList)) ⟨some d, op, ty, pos, af, g⟩ = some true) (hn : Nat.ble (d + 1) n = true) (hf : fnd σ d = none) (hs : StM Φ)
    (h : ∀ γ w, Ext w0 w → needK Γ γ w (fun τ => WL P L (AftM γ w i d Φ) [⟨some d, op, ty, pos, af, g⟩] n τ w) (onsL af.toList) σ) (hr : ML P L w0 n σ K (i + 1) (.fc i d Φ :: Γ) r) :
    ML P L w0 n σ K i Γ (⟨some d, op, ty, pos, af, g⟩ :: r) := by
  refine ⟨.fc i d Φ, rfl, rfl, hn, hf, hs, fun w γ hw a ha hΦ => .inl ?_, hr⟩
  have hk : Fr n (kS Γ σ (onsL af.toList)) a := kS_fr ha _ hΦ
  have hwa := gd_wanted hk hg
  obtain ⟨τ, hτ, hW⟩ := needK_fr _ _ (h γ w hw) ha hΦ
  exact ⟨hwa, aft_wp rfl hn hτ hwa hW⟩
/-- the same, its value known, facts looked at -/
theorem ML.kc {v : Value} (hg : gd L (kS Γ σ (onsL af.toList)) ⟨some d, op, ty, pos, af, g⟩ = some true) (hn : Nat.ble (d + 1) n = true) (hf : fnd σ d = none)
    (h : ∀ γ w, Ext w0 w → needK Γ γ w (fun τ => WL P L (AftM γ w i d (fun u _ _ => u = v)) [⟨some d, op, ty, pos, af, g⟩] n τ w) (onsL af.toList) σ) (hr : ML P L w0 n σ K (i + 1) (.kn i d v :: Γ) r) :
    ML P L w0 n σ K i Γ (⟨some d, op, ty, pos, af, g⟩ :: r) := by
  refine ⟨.kn i d v, rfl, rfl, hn, hf, fun u _ _ w w' h _ _ => h, fun w γ hw a ha hΦ => .inl ?_, hr⟩
  have hk : Fr n (kS Γ σ (onsL af.toList)) a := kS_fr ha _ hΦ
  have hwa := gd_wanted hk hg
  obtain ⟨τ, hτ, hW⟩ := needK_fr _ _ (h γ w hw) ha hΦ
  exact ⟨hwa, aft_wp rfl hn hτ hwa hW⟩
end
/- THE ORDERS -/
/-- all that must come ahead, by marks -/
def mark (L : List Oper) : Nat → List Bool → List Bool
  | 0, m => m
  | i + 1, m => match m.getD i false, L[i]? with
    | true, some o => mark L i ((ons o).foldl (fun m j => m.set j true) m)
    | _, _ => mark L i m
/-- what the walk gives -/
structure MG (P : Program) (L : List Oper) (w0 : World) (n : Nat) (σ : Sg) (Γ : Ctx) (i : Nat) (o : Oper) : Prop where
  ex : ∃ m ∈ Γ, ∃ Δ : Ctx, (∀ x ∈ Δ, x ∈ Γ) ∧ m.i = i ∧ o.dst = some m.d ∧ Nat.ble (m.d + 1) n = true ∧ fnd σ m.d = none ∧ OB P L w0 n σ Δ o i m.d m.Φ
theorem map_inj {β γ : Type} {f : β → γ} {l : List β} (h : (l.map f).Nodup) : ∀ x ∈ l, ∀ y ∈ l, f x = f y → x = y := fun x hx y hy => nodup_inj h x hx y hy
structure MInv (L : List Oper) (w0 : World) (n : Nat) (σ : Sg) (Γ : Ctx) (k : Nat) (listed : Array Bool) (a : Act) (γ : Nat → Nat) (w : World) : Prop where
  size : listed.size = L.length
  fr : Fr n σ a
  ext : Ext w0 w
  facts : ∀ m ∈ Γ, listed.getD m.i false = true → m.Φ (a.tmps.getD m.d undef) γ w
  closed : ∀ i o, listed.getD i false = true → L[i]? = some o → ∀ j ∈ ons o, listed.getD j false = true
  low : ∀ i, listed.getD i false = true → i < k
theorem listed_set {l : Array Bool} {i j : Nat} : (l.setIfInBounds i true).getD j false = true ↔ (j = i ∧ i < l.size) ∨ l.getD j false = true := by
  simp only [Array.getD_eq_getD_getElem?, Array.getElem?_setIfInBounds]
  by_cases e : i = j
  · subst e
    by_cases h : i < l.size
    · simp [h]
    · simp [h]
  · rw [if_neg e]
    constructor
    · exact fun h => .inr h
    · rintro (⟨h, _⟩ | h)
      · exact absurd h.symm e
      · exact h
theorem MInv.step {L : List Oper} {w0 w w' : World} {n k i : Nat} {σ : Sg} {Γ : Ctx} {listed : Array Bool} {a : Act} {γ : Nat → Nat} {m : ME} {o : Oper} {v : Value} (h : MInv L w0 n σ Γ k listed a γ w) (hm : m ∈ Γ) (hmi : m.i = i) (ho : L[i]? = some o) (hn : Nat.ble (m.d + 1) n = true)
    (hf : fnd σ m.d = none) (hok : ∀ m ∈ Γ, m.ok) (hnd : (Γ.map (·.i)).Nodup) (hdd : ∀ x ∈ Γ, x.i ≠ i → x.d ≠ m.d) (hE : Ext w w') (hΦ : m.Φ v (byM γ w i) w') (hons : ∀ j ∈ ons o, listed.getD j false = true) (hik : i < k) : MInv L w0 n σ Γ k (listed.setIfInBounds i true) (a.put (some m.d) v) (byM γ w i) w' := by
  have hlt : m.d < n := Nat.le_of_ble_eq_true hn
  have hp := h.fr.put (d := some m.d) (v := v) hn
  refine ⟨by simpa using h.size, ⟨hp.size, hp.defers, fun t u hu => hp.slot t u ?_⟩, h.ext.trans hE, fun x hx hl => ?_, fun j o' hj ho' q hq => ?_, fun j hj => ?_⟩
  · show fnd ((m.d, v) :: σ) t = some u
    rw [fnd_cons_ne (fun e => by subst e; rw [hf] at hu; cases hu)]; exact hu
  · rcases listed_set.1 hl with ⟨e, _⟩ | hl
    · obtain rfl : x = m := map_inj hnd x hx m hm (by show x.i = m.i; rw [e, hmi])
      have : (a.put (some x.d) v).tmps.getD x.d undef = v := by simp [Act.put, Array.getD, h.fr.size, hlt]
      rw [this]; exact hΦ
    · by_cases e : x.i = i
      · obtain rfl : x = m := map_inj hnd x hx m hm (by show x.i = m.i; rw [e, hmi])
        have : (a.put (some x.d) v).tmps.getD x.d undef = v := by simp [Act.put, Array.getD, h.fr.size, hlt]
        rw [this]; exact hΦ
      · have hne := hdd x hx e
        have : (a.put (some m.d) v).tmps.getD x.d undef = a.tmps.getD x.d undef := by
          simp only [Act.put, Array.getD_eq_getD_getElem?]
          rw [Array.getElem?_setIfInBounds_ne (fun e => hne e.symm)]
        rw [this]
        exact hok x hx _ _ _ _ _ (h.facts x hx hl) hE (fun b hb => if_pos hb)
  · rcases listed_set.1 hj with ⟨e, _⟩ | hj
    · subst e
      rw [ho] at ho'
      cases ho'
      exact listed_set.2 (.inr (hons q hq))
    · exact listed_set.2 (.inr (h.closed j o' hj ho' q hq))
  · rcases listed_set.1 hj with ⟨e, _⟩ | hj
    · omega
    · exact h.low j hj
theorem onsE {o : Oper} {listed : Array Bool} (h : ∀ e ∈ o.after, Region.binds .any e = true → listed.getD e.on false = true) : ∀ j ∈ ons o, listed.getD j false = true := fun j hj => by
  obtain ⟨e, h1, h2, rfl⟩ := ons_mem hj
  exact h e h1 h2
section
variable {P : Program} {Q : Exit → Act → World → Prop} {n : Nat} {σ : Sg} {w : World} {L : List Oper}
theorem ML.nil {w0 : World} {K : Ctx → Prop} {i : Nat} {Γ : Ctx} (h : K Γ) : ML P L w0 n σ K i Γ [] := h
end
end Go.Proofs.Ytikigaeihdmcaaa

/-
  Orders of drawn regions, checked with marks in one number: for long regions. Over any program.
-/
set_option linter.unusedVariables false
set_option linter.unusedSimpArgs false
namespace Go.Proofs.Ytikigaeihdmcaaa
open Go.RowKit

def bt (m j : Nat) : Bool := Nat.beq (Nat.land (Nat.shiftRight m j) 1) 1
/-- what an operation waits for -/
def emask : List Edge → Nat
  | [] => 0
  | e :: r => match Region.binds .any e with
    | true => Nat.lor (Nat.shiftLeft 1 e.on) (emask r)
    | false => emask r
theorem emask_bit {j : Nat} : ∀ {l : List Edge}, (emask l).testBit j = true ↔ ∃ e ∈ l, Region.binds .any e = true ∧ e.on = j
  | [] => by simp [emask]
  | e :: r => by
    have ih := emask_bit (j := j) (l := r)
    unfold emask
    split
    · rename_i hb
      show ((1 <<< e.on) ||| emask r).testBit j = true ↔ _
      rw [Nat.testBit_or, Bool.or_eq_true, ih]
      have h1 : (1 <<< e.on).testBit j = decide (e.on = j) := by
        rw [Nat.one_shiftLeft, Nat.testBit_two_pow]
      rw [h1]
      simp [hb]
    · rename_i hb
      rw [ih]
      simp [hb]
def sub1 (m M : Nat) : Bool := Nat.beq (Nat.land m M) m
theorem sub1_iff {m M : Nat} : sub1 m M = true ↔ ∀ j, m.testBit j = true → M.testBit j = true := by
  unfold sub1
  rw [Nat.beq_eq]
  show m &&& M = m ↔ _
  constructor
  · intro h j hj
    have := congrArg (fun x => x.testBit j) h
    simp only [Nat.testBit_and, hj, Bool.true_and] at this
    exact this
  · intro h
    refine Nat.eq_of_testBit_eq fun j => ?_
    rw [Nat.testBit_and]
    cases hj : m.testBit j with
    | false => rfl
    | true => rw [h j hj]; rfl
/-- none but i is ready -/
def alone (i M : Nat) : Nat → List Nat → Bool
  | _, [] => true
  | j, m :: r => match Nat.beq j i with
    | true => alone i M (j + 1) r
    | false => match bt M j with
      | true => alone i M (j + 1) r
      | false => match sub1 m M with
        | true => false
        | false => alone i M (j + 1) r
/- WHAT IT SAYS -/
structure Mk1 (L : List Oper) (listed : Array Bool) (M : Nat) : Prop where
  size : listed.size = L.length
  bit : ∀ j, listed.getD j false = M.testBit j
section
variable {L : List Oper} {listed : Array Bool} {M i : Nat}
theorem Mk1.put (h : Mk1 L listed M) (hi : i < L.length) : Mk1 L (listed.setIfInBounds i true) (Nat.lor (Nat.shiftLeft 1 i) M) := by
  refine ⟨by simpa using h.size, fun j => ?_⟩
  have e : Nat.lor (Nat.shiftLeft 1 i) M = (1 <<< i) ||| M := rfl
  rw [e, Nat.testBit_or, Nat.one_shiftLeft, Nat.testBit_two_pow]
  by_cases hj : i = j
  · subst hj
    have := h.size
    simp [Array.getD_eq_getD_getElem?, show i < listed.size by omega]
  · rw [decide_eq_false hj, Bool.false_or, ← h.bit j]
    simp only [Array.getD_eq_getD_getElem?]
    rw [Array.getElem?_setIfInBounds_ne hj]
/-- ready, by marks -/
theorem Mk1.ready (h : Mk1 L listed M) {j : Nat} : j ∈ Region.ready .any L.toArray listed ↔ ∃ o, L[j]? = some o ∧ M.testBit j = false ∧ sub1 (emask o.after.toList) M = true := by
  rw [mem_ready]
  constructor
  · rintro ⟨h0, o, ho, he⟩
    have ho' : L[j]? = some o := by simpa using ho
    have hj : j < L.length := (List.getElem?_eq_some_iff.1 ho').1
    refine ⟨o, ho', ?_, sub1_iff.2 fun k hk => ?_⟩
    · rw [← h.bit, ← h0]
      have := h.size
      simp [Array.getD_eq_getD_getElem?, show j < listed.size by omega]
    · obtain ⟨e, h1, h2, rfl⟩ := emask_bit.1 hk
      rw [← h.bit]
      exact he e (by simpa using h1) h2
  · rintro ⟨o, ho, h0, hs⟩
    have hj : j < L.length := (List.getElem?_eq_some_iff.1 ho).1
    refine ⟨?_, o, by simpa using ho, fun e he hb => ?_⟩
    · have h1 := h.bit j
      rw [h0] at h1
      have := h.size
      simpa [Array.getD_eq_getD_getElem?, show j < listed.size by omega] using h1
    · rw [h.bit]
      exact sub1_iff.1 hs _ (emask_bit.2 ⟨e, by simpa using he, hb, rfl⟩)
end
section
variable {P : Program} {Q : Exit → Act → World → Prop} {n : Nat} {σ : Sg} {w : World} {L : List Oper}
end
end Go.Proofs.Ytikigaeihdmcaaa

