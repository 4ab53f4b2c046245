import Derived.Test.YtljcnopekjinjaaPtSoundEnds11
/-
  Package scc: Way.
-/
set_option linter.unusedVariables false
set_option linter.unusedSimpArgs false
namespace Go.Proofs.Ytljcnopekjinjaa
open Go.RowKit

theorem dAt_at {d : List Int} {k : Nat} (h : k < d.length) : dAt d (k : Int) = d[k] := by unfold dAt; rw [Int.toNat_natCast, getD_at h]
theorem wayPick_next (d : List Int) (l : List Int) (j : Nat) (h : j < l.length) : wayPick d (l.take (j + 1)) = if pickB d (wayPick d (l.take j)) l[j] then l[j] else wayPick d (l.take j) := by
  unfold wayPick; rw [List.take_succ_eq_append_getElem h, List.foldl_append]; rfl
theorem wayNext_next (d : List Int) (a : Int) (l : List Int) (j : Nat) (h : j < l.length) : wayNext d a (l.take (j + 1)) = if nextB d a (wayNext d a (l.take j)) l[j] then l[j] else wayNext d a (l.take j) := by
  unfold wayNext; rw [List.take_succ_eq_append_getElem h, List.foldl_append]; rfl
theorem wayPick_in (d : List Int) (l : List Int) : wayPick d l = -1 ∨ wayPick d l ∈ l := by
  have key : ∀ (l : List Int) (a : Int), l.foldl (fun at' n => if pickB d at' n then n else at') a = a ∨ l.foldl (fun at' n => if pickB d at' n then n else at') a ∈ l := by
    intro l
    induction l with
    | nil => intro a; exact .inl rfl
    | cons x l ih =>
      intro a
      rcases ih (if pickB d a x then x else a) with h | h
      · rw [List.foldl_cons, h]
        split
        · exact .inr (by simp)
        · exact .inl rfl
      · exact .inr (List.mem_cons_of_mem _ h)
  exact key l (-1)
theorem wayNext_in (d : List Int) (c : Int) (l : List Int) : wayNext d c l = -1 ∨ wayNext d c l ∈ l := by
  have key : ∀ (l : List Int) (a : Int), l.foldl (fun nx n => if nextB d c nx n then n else nx) a = a ∨ l.foldl (fun nx n => if nextB d c nx n then n else nx) a ∈ l := by
    intro l
    induction l with
    | nil => intro a; exact .inl rfl
    | cons x l ih =>
      intro a
      rcases ih (if nextB d c a x then x else a) with h | h
      · rw [List.foldl_cons, h]
        split
        · exact .inr (by simp)
        · exact .inl rfl
      · exact .inr (List.mem_cons_of_mem _ h)
  exact key l (-1)

theorem Way_ok (w0 : World) {ao fo lo : Option Addr} {cap fc lc : Nat} {g : List (List Int)} {f : List Int} {to : List Bool} (hs : Sl w0 (Old w0) ao cap g) (hf : Sl w0 (Old w0) fo fc f) (ht : Sl w0 (Old w0) lo lc to) :
    Rt Try.prog 89 [.slice ao g.length cap, .slice fo f.length fc, .slice lo to.length lc].toArray w0 fun r w' => ∃ v, r = .tuple ⟨[v, .bool (wayF g f to).2.1, .int .i64 (wayF g f to).2.2]⟩ ∧ Own w' w0.heap.size 3 Non v (wayF g f to).1 ∧ Ext w0 w' := by
  have hgl := hs.len63
  have hfl := hf.len63
  have htl := ht.len63
  refine Rt.enter3 Try.func89 Try.ntmps89 rfl rfl ?_
  (repeat (first | (apply WL.pure; rfl; rfl; rfl) | (apply WL.nil) | (apply EX.thenN) | (apply CW.seq) | (apply CW.region)))
  refine WL.call rfl rfl rfl (chk_ok w0 hs) ?_
  rintro v w1 ⟨rfl, hE1⟩
  (repeat (first | (apply WL.pure; rfl; rfl; rfl) | (apply WL.nil) | (apply EX.thenN) | (apply CW.seq) | (apply CW.region)))
  refine CW.cond rfl (fun h => ?_) (fun h => ?_)
  · have hc : chkG g ≠ 0 := by simpa using h
    (repeat (first | (apply WL.pure; rfl; rfl; rfl) | (apply WL.nil) | (apply EX.thenN) | (apply CW.seq) | (apply CW.region) | (apply CW.ret) | (apply EX.thenR)))
    exact EX.ret3 rfl rfl rfl rfl ⟨.slice none 0 0, by rw [wayF, if_pos hc], by rw [wayF, if_pos hc]; exact Own.nil, hE1⟩
  have hc : chkG g = 0 := by simpa using h
  obtain ⟨hg, hg2⟩ := chkG_ok hc
  (repeat (first | (apply WL.pure; rfl; rfl; rfl) | (apply EX.thenN) | (apply CW.seq) | (apply CW.region) | (apply CW.skip)))
  refine WL.call rfl rfl rfl (odd_ok w1 (hs.up hE1) (hf.up hE1)) ?_
  rintro v w2 ⟨rfl, hE2⟩
  have hE2 := hE1.trans hE2
  refine WL.pure rfl rfl rfl ?_
  have hodd : oddB g.length f = true ∨ to.length ≠ g.length → wayF g f to = ([], false, 1) := fun h => by rw [wayF, if_neg (by simp [hc]), if_pos h]
  (refine WL.lookG rfl rfl (fun h => ?_) (fun h => ?_))
  · (repeat (first | (apply WL.pure; rfl; rfl; rfl) | (apply WL.nil) | (apply EX.thenN) | (apply CW.seq) | (apply CW.region) | (apply WL.pass; rfl; rfl) | (apply CW.condT; rfl) | (apply CW.ret) | (apply EX.thenR)))
    exact EX.ret3 rfl rfl rfl rfl ⟨.slice none 0 0, by rw [hodd (.inl h)], by rw [hodd (.inl h)]; exact Own.nil, hE2⟩
  (repeat (first | (apply WL.pure; rfl; rfl; rfl) | (apply WL.nil) | (apply EX.thenN) | (apply WL.lenS; rfl; rfl; rfl)))
  refine CW.cond rfl (fun h1 => ?_) (fun h1 => ?_)
  · have h1 : to.length ≠ g.length := by simp at h1; omega
    (repeat (first | (apply WL.pure; rfl; rfl; rfl) | (apply WL.nil) | (apply EX.thenN) | (apply CW.seq) | (apply CW.region) | (apply CW.ret) | (apply EX.thenR)))
    exact EX.ret3 rfl rfl rfl rfl ⟨.slice none 0 0, by rw [hodd (.inr h1)], by rw [hodd (.inr h1)]; exact Own.nil, hE2⟩
  have htg : to.length = g.length := by simp at h1; omega
  have hof : okL g.length f := oddB_false.1 h
  have eW : wayF g f to = if wayPick (farL g to) f < 0 then ([], false, 0) else (wayGo g (farL g to) g.length (wayPick (farL g to) f), true, 0) := by
    rw [wayF, if_neg (by simp [hc]), if_neg (by simp [h, htg])]
  clear hodd
  have hI := farL_inv htg
  (repeat (first | (apply WL.pure; rfl; rfl; rfl) | (apply EX.thenN) | (apply CW.seq) | (apply CW.region) | (apply CW.skip)))
  refine WL.call rfl rfl rfl (far_ok w2 (hs.up hE2) (ht.up hE2) (fun _ h => h) hg (by omega) htg) ?_
  rintro dv w3 ⟨hod, hE3⟩
  have hE3 := hE2.trans hE3
  obtain ⟨dO, dc, rfl, hd⟩ := hod.oldN.sl
  generalize hfa : farL g to = d at *
  have hdl : d.length = g.length := hI.len
  (repeat (first | (apply WL.pure; rfl; rfl; rfl) | (apply WL.nil) | (apply EX.thenN) | (apply CW.seq) | (apply CW.region) | (apply WL.lenS; rfl; rfl; rfl) | (apply CW.block)))
  refine CW.loop (S := Nat) (fun j => [(0, .slice ao g.length cap), (10, .slice dO d.length dc), (11, .int .i64 (wayPick d (f.take j))), (36, .slice fo f.length fc), (37, .int .i64 f.length), (38, .int .i64 j)])
    (fun j w => j ≤ f.length ∧ Ext w3 w) (fun j => f.length - j) 0 (by repeat (first | exact trivial | refine ⟨rfl, ?_⟩)) ⟨by omega, Ext.refl _⟩ ?_
  rintro j w ⟨hj, hE⟩
  (repeat (first | (apply WL.pure; rfl; rfl; rfl) | (apply WL.nil) | (apply EX.thenN) | (apply CW.seq) | (apply CW.region)))
  refine CW.cond rfl (fun hlt => ?_) (fun hlt => ?_)
  · simp at hlt
    have hx := hof _ (List.getElem_mem hlt)
    obtain ⟨n, en⟩ := Int.eq_ofNat_of_zero_le hx.1
    have hnd : n < d.length := by omega
    have hpn := wayPick_next d f j hlt
    rw [en] at hpn
    have hpin := wayPick_in d (f.take j)
    generalize hp : wayPick d (f.take j) = p at *
    have hpr : p = -1 ∨ ∃ a : Nat, p = (a : Int) ∧ a < d.length := by
      rcases hpin with h | h
      · exact .inl h
      · have := hof _ (List.mem_of_mem_take h)
        obtain ⟨a, ea⟩ := Int.eq_ofNat_of_zero_le this.1
        exact .inr ⟨a, ea, by omega⟩
    have hdw := hd.up hE
    (repeat (first | (apply EX.thenN) | (apply CW.seq) | (apply CW.region) | (apply CW.block) | (apply CW.skip)))
    refine WL.elemI rfl rfl rfl rfl rfl ((hf.at hE3).mono (fun b hb => hE.block b (Nat.lt_of_lt_of_le hb hE3.size)) fun _ h => h) hlt en (fun _ => rfl) (fun q => ?_)
    (repeat (apply WL.pure; rfl; rfl; rfl))
    apply WL.nil
    apply EX.thenN
    refine CW.cutE [(0, .slice ao g.length cap), (10, .slice dO d.length dc), (11, .int .i64 p), (13, .int .i64 n), (36, .slice fo f.length fc), (37, .int .i64 f.length), (38, .int .i64 j), (77, .bool (pickB d p n))] ?_ ?_
    · (repeat (first | (apply QL.pure; rfl; rfl; rfl) | (apply CW.draw; exact mixed; kernel_rfl)))
      refine QL.elemI rfl rfl rfl rfl rfl (fun _ h => h) hdw hnd rfl (fun _ => rfl) (fun q => ?_)
      (repeat (apply QL.pure; rfl; rfl; rfl))
      (refine QL.lookG rfl rfl (fun h => ?_) (fun h => ?_))
      rotate_left
      · have e : pickB d p n = false := by unfold pickB; rw [dAt_at hnd]; simp at h; simp; omega
        (repeat (first | (apply QL.pure; rfl; rfl; rfl) | (apply QL.pass; rfl; rfl)))
        refine QL.nil (fun w4 hE4 => ?_)
        rw [e]
        exact EX.cutE (by repeat (first | exact trivial | refine ⟨rfl, ?_⟩)) hE4
      have h0 : 0 ≤ d[n] := by simpa using h
      (repeat (apply QL.pure; rfl; rfl; rfl))
      (refine QL.lookG rfl rfl (fun h => ?_) (fun h => ?_))
      · have e : pickB d p n = true := by unfold pickB; rw [dAt_at hnd]; simp at h; simp [h, h0]
        (repeat (first | (apply QL.pure; rfl; rfl; rfl) | (apply QL.pass; rfl; rfl)))
        refine QL.nil (fun w4 hE4 => ?_)
        rw [e]
        exact EX.cutE (by repeat (first | exact trivial | refine ⟨rfl, ?_⟩)) hE4
      have hp0 : ¬ p < 0 := by simpa using h
      obtain ⟨a, rfl, had⟩ : ∃ a : Nat, p = (a : Int) ∧ a < d.length := by
        rcases hpr with h | h
        · omega
        · exact h
      have eP : pickB d a n = (decide (d[n] < d[a]) || (decide (d[n] = d[a]) && decide ((n : Int) < a))) := by
        unfold pickB; rw [dAt_at hnd, dAt_at had]; simp [h0, hp0]
      (repeat (apply QL.pure; rfl; rfl; rfl))
      refine QL.elemI rfl rfl rfl rfl rfl (fun _ h => h) hdw hnd rfl (fun _ => rfl) (fun q => ?_)
      (repeat (apply QL.pure; rfl; rfl; rfl))
      refine QL.elemI rfl rfl rfl rfl rfl (fun _ h => h) hdw had rfl (fun _ => rfl) (fun q => ?_)
      (repeat (apply QL.pure; rfl; rfl; rfl))
      (refine QL.lookG rfl rfl (fun h => ?_) (fun h => ?_))
      · have h3 : d[n] < d[a] := by simpa using h
        (repeat (first | (apply QL.pure; rfl; rfl; rfl) | (apply QL.pass; rfl; rfl)))
        refine QL.nil (fun w4 hE4 => ?_)
        rw [eP]
        simp only [h3, decide_true, Bool.true_or]
        exact EX.cutE (by repeat (first | exact trivial | refine ⟨rfl, ?_⟩)) hE4
      have h3 : ¬ d[n] < d[a] := by simpa using h
      (repeat (apply QL.pure; rfl; rfl; rfl))
      refine QL.elemI rfl rfl rfl rfl rfl (fun _ h => h) hdw hnd rfl (fun _ => rfl) (fun q => ?_)
      (repeat (apply QL.pure; rfl; rfl; rfl))
      refine QL.elemI rfl rfl rfl rfl rfl (fun _ h => h) hdw had rfl (fun _ => rfl) (fun q => ?_)
      (repeat (apply QL.pure; rfl; rfl; rfl))
      (refine QL.lookG rfl rfl (fun h => ?_) (fun h => ?_))
      · have h4 : d[n] = d[a] := by simpa using h
        (repeat (apply QL.pure; rfl; rfl; rfl))
        refine QL.nil (fun w4 hE4 => ?_)
        rw [eP]
        simp only [h4, decide_true, Bool.true_and, Int.lt_irrefl, decide_false, Bool.false_or]
        exact EX.cutE (by repeat (first | exact trivial | refine ⟨rfl, ?_⟩)) hE4
      · have h4 : ¬ d[n] = d[a] := by simpa using h
        (repeat (first | (apply QL.pure; rfl; rfl; rfl) | (apply QL.pass; rfl; rfl)))
        refine QL.nil (fun w4 hE4 => ?_)
        rw [eP]
        simp only [h3, h4, decide_false, Bool.false_and, Bool.false_or]
        exact EX.cutE (by repeat (first | exact trivial | refine ⟨rfl, ?_⟩)) hE4
    · rintro w4 hE4
      refine CW.cond rfl (fun h2 => ?_) (fun h2 => ?_)
      · rw [if_pos h2] at hpn
        (repeat (first | (apply WL.add; rfl; rfl; rfl; rfl; omega; omega) | (apply WL.pure; rfl; rfl; rfl) | (apply WL.nil) | (apply EX.thenN) | (apply CW.region) | (apply EX.inN)))
        refine EX.back (j + 1) ?_ ⟨hlt, hE.trans hE4⟩ (by omega)
        rw [hpn]
        exact (by repeat (first | exact trivial | refine ⟨rfl, ?_⟩))
      · rw [if_neg (by simp [h2])] at hpn
        (repeat (first | (apply WL.add; rfl; rfl; rfl; rfl; omega; omega) | (apply WL.pure; rfl; rfl; rfl) | (apply WL.nil) | (apply EX.thenN) | (apply CW.region) | (apply EX.inN) | (apply CW.skip)))
        refine EX.back (j + 1) ?_ ⟨hlt, hE.trans hE4⟩ (by omega)
        rw [hpn]
        exact (by repeat (first | exact trivial | refine ⟨rfl, ?_⟩))
  simp at hlt
  have : j = f.length := by omega
  subst this
  rw [List.take_length]
  have hps := pick_spec (d := d) f (fun x hx => (hof x hx).1)
  generalize hp : wayPick d f = p at *
  (repeat (first | (apply WL.pure; rfl; rfl; rfl) | (apply WL.nil) | (apply EX.thenN) | (apply CW.seq) | (apply CW.region) | (apply CW.exit) | (apply EX.thenX) | (apply EX.inX)))
  refine CW.cond rfl (fun h2 => ?_) (fun h2 => ?_)
  · have h2 : p < 0 := by simpa using h2
    rw [if_pos h2] at eW
    (repeat (first | (apply WL.pure; rfl; rfl; rfl) | (apply WL.nil) | (apply EX.thenN) | (apply CW.seq) | (apply CW.region) | (apply CW.ret) | (apply EX.thenR)))
    exact EX.ret3 rfl rfl rfl rfl ⟨.slice none 0 0, by rw [eW], by rw [eW]; exact Own.nil, hE3.trans hE⟩
  have h2 : ¬ p < 0 := by simpa using h2
  rw [if_neg h2] at eW
  have hpf : p ∈ f ∧ 0 ≤ dAt d p := by
    rcases hps with h | h
    · omega
    · exact h
  have hpr := hof p hpf.1
  rw [eW]
  dsimp only
  (repeat (first | (apply WL.pure; rfl; rfl; rfl) | (apply EX.thenN) | (apply CW.seq) | (apply CW.region) | (apply CW.skip)))
  refine WL.lit (F := Non) (ys := [p]) rfl rfl rfl rfl rfl (.cons (Rd.mkInt _ _ _) .nil) (by show 1 * 1 ≤ 16777216; decide) (fun _ h => h.elim) (fun w4 ho4 hg4 => ?_)
  have hE4 : Ext w3 w4 := hE.grown hg4 hE.size (fun k h => by cases h)
  (repeat (first | (apply WL.pure; rfl; rfl; rfl) | (apply WL.nil) | (apply EX.thenN) | (apply CW.seq) | (apply CW.block)))
  refine CW.loop (S := Int × List Int × Value) (fun s => [(0, .slice ao g.length cap), (10, .slice dO d.length dc), (11, .int .i64 s.1), (14, s.2.2)])
    (fun s w => (0 ≤ s.1 ∧ s.1 < g.length) ∧ 0 ≤ dAt d s.1 ∧ (s.2.1.length : Int) + dAt d s.1 ≤ g.length ∧ (∃ pre fu, s.2.1 = pre ++ [s.1] ∧ wayGo g d g.length p = pre ++ wayGo g d fu s.1 ∧ dAt d s.1 ≤ (fu : Nat)) ∧ Own w w3.heap.size 3 Non s.2.2 s.2.1 ∧ Ext w3 w) (fun s => (dAt d s.1).toNat) (p, [p], _) (by repeat (first | exact trivial | refine ⟨rfl, ?_⟩)) ⟨hpr, hpf.2, ?_, ⟨[], g.length, rfl, rfl, ?_⟩, ho4.low hE.size, hE4⟩ ?_
  · obtain ⟨pn, rfl⟩ := Int.eq_ofNat_of_zero_le hpr.1
    have hpd : pn < d.length := by omega
    have := hI.le pn hpd
    rw [dAt_at hpd]; simp; omega
  · obtain ⟨pn, rfl⟩ := Int.eq_ofNat_of_zero_le hpr.1
    have hpd : pn < d.length := by omega
    have := hI.le pn hpd
    rw [dAt_at hpd]; omega
  rintro ⟨a, out, ov⟩ w5 ⟨har, h0, hm, ⟨pre, fu, hout, hgo, hfu⟩, how, hE5⟩
  dsimp only at har h0 hm hout how hfu hgo
  obtain ⟨an, rfl⟩ := Int.eq_ofNat_of_zero_le har.1
  have had : an < d.length := by omega
  rw [dAt_at had] at h0 hm hfu
  (repeat (first | (apply WL.pure; rfl; rfl; rfl) | (apply CW.seq) | (apply CW.region)))
  refine WL.elemI rfl rfl rfl rfl rfl (hd.up hE5) had rfl (fun _ => rfl) (fun q => ?_)
  (repeat (first | (apply WL.pure; rfl; rfl; rfl) | (apply WL.nil) | (apply EX.thenN)))
  refine CW.cond rfl (fun h3 => ?_) (fun h3 => ?_)
  · have h3 : 0 < d[an] := by simpa using h3
    have hang : an < g.length := by omega
    have hwn := way_next (a := (an : Int)) (by rw [hfa]; exact hI) hg har (by rw [hfa, dAt_at had]; exact h3)
    rw [hfa, Int.toNat_natCast, dAt_at had] at hwn
    have erow : g.getD an [] = g[an] := by rw [List.getD_eq_getElem?_getD, List.getElem?_eq_getElem hang]; rfl
    rw [erow] at hwn
    have hE05 := hE3.trans hE5
    (repeat (first | (apply WL.pure; rfl; rfl; rfl) | (apply WL.nil) | (apply EX.thenN) | (apply CW.seq) | (apply CW.region) | (apply CW.block) | (apply CW.skip)))
    refine WL.elemN rfl rfl rfl rfl rfl (hs.at hE05) hang (fun _ => rfl) (fun u q hu => ?_)
    obtain ⟨ro, rc, rfl, hrow⟩ := hu.sl
    have hrl := hrow.len63
    generalize hrw : g[an] = row at *
    have hrok : okL g.length row := by rw [← hrw]; exact hg _ (List.getElem_mem hang)
    (repeat (first | (apply WL.pure; rfl; rfl; rfl) | (apply WL.nil) | (apply EX.thenN) | (apply WL.lenS; rfl; rfl; rfl) | (apply CW.block)))
    refine CW.loop (S := Nat) (fun j => [(0, .slice ao g.length cap), (10, .slice dO d.length dc), (11, .int .i64 an), (14, ov), (15, .int .i64 (wayNext d an (row.take j))), (92, .slice ro row.length rc), (93, .int .i64 row.length), (94, .int .i64 j)])
      (fun j w => j ≤ row.length ∧ Ext w5 w) (fun j => row.length - j) 0 (by repeat (first | exact trivial | refine ⟨rfl, ?_⟩)) ⟨by omega, Ext.refl _⟩ ?_
    rintro j w6 ⟨hj, hE6⟩
    (repeat (first | (apply WL.pure; rfl; rfl; rfl) | (apply WL.nil) | (apply EX.thenN) | (apply CW.seq) | (apply CW.region)))
    refine CW.cond rfl (fun hlt => ?_) (fun hlt => ?_)
    · simp at hlt
      have hx := hrok _ (List.getElem_mem hlt)
      obtain ⟨n, en⟩ := Int.eq_ofNat_of_zero_le hx.1
      have hnd : n < d.length := by omega
      have hpn := wayNext_next d an row j hlt
      rw [en] at hpn
      generalize hp : wayNext d an (row.take j) = nx at *
      have hdw := hd.up (hE5.trans hE6)
      have hdr := hI.le an had
      (repeat (first | (apply EX.thenN) | (apply CW.seq) | (apply CW.region) | (apply CW.block) | (apply CW.skip)))
      refine WL.elemI rfl rfl rfl rfl rfl (hrow.mono (fun b hb => hE6.block b (Nat.lt_of_lt_of_le hb hE05.size)) fun _ h => h) hlt en (fun _ => rfl) (fun q => ?_)
      (repeat (apply WL.pure; rfl; rfl; rfl))
      apply WL.nil
      apply EX.thenN
      refine CW.cutE [(0, .slice ao g.length cap), (10, .slice dO d.length dc), (11, .int .i64 an), (14, ov), (15, .int .i64 nx), (17, .int .i64 n), (92, .slice ro row.length rc), (93, .int .i64 row.length), (94, .int .i64 j), (116, .bool (nextB d an nx n))] ?_ ?_
      · (repeat (first | (apply QL.pure; rfl; rfl; rfl) | (apply CW.draw; exact mixed; kernel_rfl)))
        refine QL.elemI rfl rfl rfl rfl rfl (fun _ h => h) hdw hnd rfl (fun _ => rfl) (fun q => ?_)
        (repeat (apply QL.pure; rfl; rfl; rfl))
        refine QL.elemI rfl rfl rfl rfl rfl (fun _ h => h) hdw had rfl (fun _ => rfl) (fun q => ?_)
        (repeat (first | (apply QL.sub'; rfl; rfl; rfl; rfl; omega; omega) | (apply QL.pure; rfl; rfl; rfl)))
        have eP : nextB d an nx n = (decide (d[n] = d[an] - 1) && (decide (nx < 0) || decide ((n : Int) < nx))) := by
          unfold nextB; rw [dAt_at hnd, dAt_at had]
        (refine QL.lookG rfl rfl (fun h => ?_) (fun h => ?_))
        rotate_left
        · have h : ¬ d[n] = d[an] - 1 := by simpa using h
          (repeat (first | (apply QL.pure; rfl; rfl; rfl) | (apply QL.pass; rfl; rfl)))
          refine QL.nil (fun w4 hE4 => ?_)
          rw [eP]
          simp only [h, decide_false, Bool.false_and]
          exact EX.cutE (by repeat (first | exact trivial | refine ⟨rfl, ?_⟩)) hE4
        have h4 : d[n] = d[an] - 1 := by simpa using h
        (repeat (apply QL.pure; rfl; rfl; rfl))
        (refine QL.lookG rfl rfl (fun h => ?_) (fun h => ?_))
        · have h5 : nx < 0 := by simpa using h
          (repeat (first | (apply QL.pure; rfl; rfl; rfl) | (apply QL.pass; rfl; rfl)))
          refine QL.nil (fun w4 hE4 => ?_)
          rw [eP]
          simp only [h4, h5, decide_true, Bool.true_and, Bool.true_or]
          exact EX.cutE (by repeat (first | exact trivial | refine ⟨rfl, ?_⟩)) hE4
        · have h5 : ¬ nx < 0 := by simpa using h
          (repeat (apply QL.pure; rfl; rfl; rfl))
          refine QL.nil (fun w4 hE4 => ?_)
          rw [eP]
          simp only [h4, h5, decide_true, decide_false, Bool.true_and, Bool.false_or]
          exact EX.cutE (by repeat (first | exact trivial | refine ⟨rfl, ?_⟩)) hE4
      · rintro w7 hE7
        refine CW.cond rfl (fun h2 => ?_) (fun h2 => ?_)
        · rw [if_pos h2] at hpn
          (repeat (first | (apply WL.add; rfl; rfl; rfl; rfl; omega; omega) | (apply WL.pure; rfl; rfl; rfl) | (apply WL.nil) | (apply EX.thenN) | (apply CW.region) | (apply EX.inN)))
          refine EX.back (j + 1) ?_ ⟨hlt, hE6.trans hE7⟩ (by omega)
          rw [hpn]
          exact (by repeat (first | exact trivial | refine ⟨rfl, ?_⟩))
        · rw [if_neg (by simp [h2])] at hpn
          (repeat (first | (apply WL.add; rfl; rfl; rfl; rfl; omega; omega) | (apply WL.pure; rfl; rfl; rfl) | (apply WL.nil) | (apply EX.thenN) | (apply CW.region) | (apply EX.inN) | (apply CW.skip)))
          refine EX.back (j + 1) ?_ ⟨hlt, hE6.trans hE7⟩ (by omega)
          rw [hpn]
          exact (by repeat (first | exact trivial | refine ⟨rfl, ?_⟩))
    simp at hlt
    have : j = row.length := by omega
    subst this
    rw [List.take_length]
    generalize hx : wayNext d an row = x at *
    have hE06 := hE5.trans hE6
    have how6 := how.extN hE6
    (repeat (first | (apply WL.pure; rfl; rfl; rfl) | (apply WL.nil) | (apply EX.thenN) | (apply CW.seq) | (apply CW.region) | (apply CW.exit) | (apply EX.thenX) | (apply EX.inX)))
    refine WL.app1 (F := Non) (yv := x) rfl rfl (fun _ => rfl) rfl rfl (fun _ => rfl) how6 (Rd.mkInt _ _ _) hE06.size (fun _ h => h.elim) (by decide) (by unfold maxLen; omega) (by omega) (fun v' w7 p ho7 hg7 hnb => ?_)
    have hE7 : Ext w3 w7 := hE06.grown hg7 hE06.size (fun b hb => (how6.lt b hb).1)
    (repeat (first | (apply WL.pure; rfl; rfl; rfl) | (apply WL.nil) | (apply EX.inN)))
    refine EX.back (x, out ++ [x], v') (by repeat (first | exact trivial | refine ⟨rfl, ?_⟩)) ⟨hwn.2.2, by dsimp only; rw [hwn.2.1]; omega, by dsimp only; rw [hwn.2.1, List.length_append]; simp; omega, ⟨out, fu - 1, rfl, ?_, ?_⟩, ho7, hE7⟩ ?_
    · cases fu with
      | zero => omega
      | succ fu =>
        rw [hgo, wayGo, if_pos (by rw [dAt_at had]; exact h3), Int.toNat_natCast, erow, hx, hout]
        simp
    · dsimp only; rw [hwn.2.1]; omega
    · dsimp only; rw [hwn.2.1, dAt_at had]; omega
  · have h3 : ¬ 0 < d[an] := by simpa using h3
    (repeat (first | (apply WL.pure; rfl; rfl; rfl) | (apply WL.nil) | (apply EX.thenN) | (apply CW.seq) | (apply CW.region) | (apply CW.exit) | (apply EX.thenX) | (apply EX.inX) | (apply CW.ret)))
    refine EX.ret3 rfl rfl rfl rfl ⟨ov, rfl, ?_, hE3.trans hE5⟩
    have e : wayGo g d fu an = [(an : Int)] := by
      cases fu with
      | zero => rfl
      | succ fu => rw [wayGo, if_neg (by rw [dAt_at had]; exact h3)]
    rw [hgo, e, ← hout]
    exact how.low hE3.size
end Go.Proofs.Ytljcnopekjinjaa
/-
  What the shortest way is: plain laws.
-/
set_option linter.unusedVariables false
set_option linter.unusedSimpArgs false
namespace Go.Proofs.Ytljcnopekjinjaa

/-- the ways of a law: what Way answers where the graph is right -/
structure Short (g : List (List Int)) (f : List Int) (to : List Bool) (l : List Int) (is : Bool) : Prop where
  len : is = decide (0 < l.length)
  come : is = true ↔ ∃ n, n < g.length ∧ Rch g f n ∧ to.getD n false = true
  inR : ∀ i (hi : i < l.length), 0 ≤ l[i] ∧ l[i] < g.length
  last : ∀ i (hi : i < l.length), to.getD l[i].toNat false = decide (i = l.length - 1)
  edge : ∀ i (hi : i < l.length) (hp : 0 < i), l[i] ∈ g.getD (l[i - 1]'(by omega)).toNat []
  again : ∀ i (hi : i < l.length), (wayF g [l[i]] to).1 = l.drop i
  first : ∀ h : 0 < l.length, l[0] ∈ f
theorem wayF_ok {g : List (List Int)} {f : List Int} {to : List Bool} (h : (wayF g f to).2.2 = 0) : okG g ∧ okL g.length f ∧ g.length ≤ 20000 ∧ to.length = g.length ∧ Short g f to (wayF g f to).1 (wayF g f to).2.1 := by
  have hcases : chkG g = 0 ∧ ¬ (oddB g.length f = true ∨ to.length ≠ g.length) := by
    unfold wayF at h
    split at h
    · rename_i h1; exact absurd h h1
    · rename_i h1
      split at h
      · cases h
      · rename_i h2; exact ⟨by simpa using h1, h2⟩
  obtain ⟨hc, hn⟩ := hcases
  obtain ⟨hg, hl⟩ := chkG_ok hc
  have htl : to.length = g.length := Classical.byContradiction fun h => hn (.inr h)
  have hof : okL g.length f := oddB_false.1 (by cases e : oddB g.length f; rfl; exact absurd (.inl e) hn)
  refine ⟨hg, hof, hl, htl, ?_⟩
  have hI := farL_inv htl
  have eW : ∀ f', okL g.length f' → wayF g f' to = if wayPick (farL g to) f' < 0 then ([], false, 0) else (wayGo g (farL g to) g.length (wayPick (farL g to) f'), true, 0) := by
    intro f' hf'
    rw [wayF, if_neg (by simp [hc]), if_neg (by simp [oddB_false.2 hf', htl])]
  have hps := pick_spec (d := farL g to) f (fun x hx => (hof x hx).1)
  have hrw := rch_way hI hg hof
  rw [eW f hof]
  rcases hps with ⟨h1, h2⟩ | ⟨h1, h2⟩
  · rw [if_pos (by omega)]
    refine ⟨by simp, ?_, fun i hi => absurd hi (by simp), fun i hi => absurd hi (by simp), fun i hi => absurd hi (by simp), fun i hi => absurd hi (by simp), fun h => absurd h (by simp)⟩
    rw [hrw]
    constructor
    · intro e; cases e
    · rintro ⟨x, hx, h0⟩; have := h2 x hx; omega
  · have hpr := hof _ h1
    generalize hp : wayPick (farL g to) f = p at *
    rw [if_neg (by omega)]
    have hle : ∀ x, 0 ≤ x ∧ x < (g.length : Int) → dAt (farL g to) x ≤ (g.length : Nat) := by
      intro x hx
      obtain ⟨k, rfl⟩ := Int.eq_ofNat_of_zero_le hx.1
      have hk : k < (farL g to).length := by rw [hI.len]; omega
      have := hI.le k hk
      unfold dAt; rw [Int.toNat_natCast, getD_at hk]; omega
    have hW := way_all hI hg g.length p hpr h2 (hle p hpr)
    dsimp only
    generalize wayGo g (farL g to) g.length p = l at hW
    have hlen := hW.len
    refine ⟨(decide_eq_true (by omega)).symm, ?_, hW.inR, ?_, hW.edge, ?_, ?_⟩
    · rw [hrw]
      exact ⟨fun _ => ⟨p, h1, h2⟩, fun _ => rfl⟩
    · intro i hi
      have a1 := hW.at' i hi
      have a2 := hW.inR i hi
      have hk : l[i].toNat < (farL g to).length := by rw [hI.len]; omega
      have hz := hI.zero _ hk
      have hd : dAt (farL g to) l[i] = (farL g to)[l[i].toNat] := by unfold dAt; rw [getD_at hk]
      rw [Bool.eq_iff_iff, ← hz, ← hd, a1]
      simp; omega
    · intro i hi
      have a1 := hW.at' i hi
      have a2 := hW.inR i hi
      have e : wayPick (farL g to) [l[i]] = l[i] := by
        have := pick_spec (d := farL g to) [l[i]] (fun x hx => by simp at hx; subst hx; exact a2.1)
        rcases this with ⟨_, h4⟩ | ⟨h4, _⟩
        · have := h4 l[i] (by simp); omega
        · simpa using h4
      rw [eW [l[i]] (fun x hx => by simp at hx; subst hx; exact a2), e, if_neg (by omega)]
      exact hW.go i hi _ (hle _ a2)
    · intro h0
      have := hW.hd
      rw [List.getElem?_eq_getElem h0] at this
      rw [Option.some.inj this]; exact h1
theorem wayF_err {g : List (List Int)} {f : List Int} {to : List Bool} (h : (wayF g f to).2.2 ≠ 0) : (wayF g f to).1 = [] ∧ (wayF g f to).2.1 = false := by
  unfold wayF at h ⊢
  split
  · exact ⟨rfl, rfl⟩
  · split
    · exact ⟨rfl, rfl⟩
    · rename_i h1 h2
      rw [if_neg h1, if_neg h2] at h
      split at h <;> exact absurd rfl h
theorem wayGo_len {g : List (List Int)} {d : List Int} : ∀ (f : Nat) (a : Int), (wayGo g d f a).length ≤ f + 1
  | 0, a => by simp [wayGo]
  | f + 1, a => by
    rw [wayGo]
    split
    · have := wayGo_len (g := g) (d := d) f (wayNext d a (g.getD a.toNat []))
      rw [List.length_cons]; omega
    · simp
theorem wayF_len {g : List (List Int)} {f : List Int} {to : List Bool} : (wayF g f to).1.length ≤ g.length + 1 := by
  unfold wayF
  split
  · simp
  · split
    · simp
    · split
      · simp
      · exact wayGo_len _ _
theorem wayF_in {g : List (List Int)} {f : List Int} {to : List Bool} : okL g.length (wayF g f to).1 := by
  by_cases h : (wayF g f to).2.2 = 0
  · have hS := (wayF_ok h).2.2.2.2
    intro x hx
    obtain ⟨i, hi, rfl⟩ := List.mem_iff_getElem.1 hx
    exact hS.inR i hi
  · rw [(wayF_err h).1]
    intro x hx; cases hx
end Go.Proofs.Ytljcnopekjinjaa
/-
  Package sound: first: walked.
-/
set_option linter.unusedVariables false
set_option linter.unusedSimpArgs false
namespace Go.Proofs.Ytljcnopekjinjaa
open Go.RowKit

def oneB (n : Nat) (k : Nat) : List Bool := (List.replicate n false).set k true
def wayL (nl : List (List LEdge)) (k : Nat) : List Int := (wayF (grL nl) [0] (oneB nl.length k)).1
def firstE (nl : List (List LEdge)) (is : List Bool) : Int × List Int :=
  if idxOf (fun y => true == y) is < 0 then (-1, []) else (idxOf (fun y => true == y) is, alongL nl (wayL nl (idxOf (fun y => true == y) is).toNat))
theorem grL_len {nl : List (List LEdge)} : (grL nl).length = nl.length := by simp [grL]
theorem idxOf_lt {α : Type} {p : α → Bool} {l : List α} (h : 0 ≤ idxOf p l) : (idxOf p l).toNat < l.length := by
  unfold idxOf at h ⊢
  cases e : l.findIdx? p with
  | none => rw [e] at h; exact absurd h (by decide)
  | some i =>
    have := (List.findIdx?_eq_some_iff_getElem.1 e).1
    simpa using this
theorem first_ok (w0 : World) {mo no io : Option Addr} {mc nc ml ic : Nat} {nl : List (List LEdge)} {is : List Bool} (hn : Sl w0 (Old w0) no nc nl) (hi : Sl w0 (Old w0) io ic is) (hl : is.length = nl.length) (h200 : nl.length ≤ 200) (hr : ∀ r ∈ nl, r.length ≤ 60) :
    Rt Try.prog 54 [spA mo mc no nc ml nl.length, .slice io is.length ic].toArray w0 fun v w' => ∃ x, v = .tuple ⟨[.int .i64 (firstE nl is).1, x]⟩ ∧ Own w' w0.heap.size 3 Non x (firstE nl is).2 ∧ Ext w0 w' := by
  refine Rt.enter2 Try.func54 Try.ntmps54 rfl rfl ?_
  have hgr := fun w (hw : Ext w0 w) => graph_ok w (mo := mo) (mc := mc) (ml := ml) (hn.up hw) h200 hr
  have hal := fun w (hw : Ext w0 w) => @along_ok w mo no
  unfold spA at hgr ⊢
  (repeat (first | (apply CW.seq) | (apply CW.region)))
  refine WL.boxB rfl rfl rfl fun w1 hb2 e1 => ?_
  (repeat (first | (apply WL.pure; rfl; rfl; rfl) | (apply WL.nil) | (apply EX.thenN) | (apply CW.seq) | (apply CW.region)))
  refine WL.call rfl rfl rfl (index_bool w1 true (hi.up e1)) ?_
  rintro _ w2 ⟨rfl, e2⟩
  have hb2 := hb2.ext e2
  have hE := e1.trans e2
  have hl1 := hb2.lt
  unfold firstE
  by_cases hneg : idxOf (fun y => true == y) is < 0
  · rw [if_pos hneg]
    (repeat (first | (apply WL.pure; rfl; rfl; rfl) | (apply WL.nil) | (apply EX.thenN) | (apply CW.seq) | (apply CW.region)))
    rw [decide_eq_true hneg]
    (repeat (first | (apply WL.pure; rfl; rfl; rfl) | (apply WL.nil) | (apply EX.thenN) | (apply CW.seq) | (apply CW.region) | (apply CW.condT; rfl) | (apply CW.ret) | (apply EX.thenR)))
    exact EX.ret2 rfl rfl rfl ⟨_, rfl, Own.nil, hE⟩
  rw [if_neg hneg]
  have hlt := idxOf_lt (p := fun y => true == y) (l := is) (by omega)
  obtain ⟨k, hk⟩ := Int.eq_ofNat_of_zero_le (show 0 ≤ idxOf (fun y => true == y) is by omega)
  rw [hk] at hneg hlt ⊢
  rw [Int.toNat_natCast] at hlt ⊢
  rw [hl] at hlt
  (repeat (first | (apply WL.pure; rfl; rfl; rfl) | (apply WL.nil) | (apply EX.thenN) | (apply CW.seq) | (apply CW.region) | (apply WL.lenS; rfl; rfl; rfl) | (apply CW.condF; rfl) | (apply CW.skip)))
  rw [decide_eq_false hneg]
  rw [hl]
  skip
  refine WL.make (α := Bool) rfl rfl rfl rfl (by omega) (by unfold maxLen; omega) (fun w3 ho hg3 => ?_)
  have e3 : Ext w2 w3 := (Below.refl _ _).grown hg3 (Nat.le_refl _) (fun k h => by cases h)
  have hb2 := hb2.ext e3
  have hE3 := hE.trans e3
  (repeat (first | (apply WL.pure; rfl; rfl; rfl) | (apply WL.nil) | (apply EX.thenN) | (apply CW.seq) | (apply CW.region)))
  refine WL.set rfl rfl rfl rfl ho (by omega) (by simp; omega) (fun _ => rfl) (fun _ => rfl) (Rd.mkBool _ _ true) (fun w4 q ho4 hg4 => ?_)
  have e4 : Ext w2 w4 := e3.grown hg4 e3.size (fun g hg => by cases hg; exact Nat.le_refl _)
  have hz2 := hE.size
  have hE4 := hE.trans e4
  have hl2 := hb2.lt
  have hb2 := hb2.kept hg4 (fun e => by have := Option.some.inj e; dsimp only at this; omega)
  rw [Int.toNat_natCast] at ho4
  obtain ⟨to, tc, hv, hts⟩ := ho4.slF (F' := Old w4) (fun _ h => h.elim) (fun g hg => (ho4.lt g hg).2.1)
  obtain ⟨rfl, _, rfl⟩ := Value.slice.inj hv
  have htl : ((List.replicate nl.length false).set k true).length = nl.length := by simp
  change Sl w4 (Old w4) _ _ (oneB nl.length k) at hts
  have hol : (oneB nl.length k).length = nl.length := htl
  clear ho ho4 hg3 hg4
  (repeat (first | (apply WL.nil) | (apply EX.thenN) | (apply CW.seq) | (apply CW.region) | (apply WL.ldA; rfl; rfl; rfl; assumption; rfl)))
  refine WL.call rfl rfl rfl (hgr w4 hE4) ?_
  rintro gv w5 ⟨vs, hN, e5⟩
  have hb2 := hb2.ext e5
  have hE5 := hE4.trans e5
  have hts := hts.up e5
  obtain ⟨go, gc, rfl, hgs⟩ := hN.old.sl
  skip
  refine WL.litR [(0 : Int)] rfl rfl rfl rfl rfl (.cons (Rd.mkInt _ _ _) .nil) (by decide) (fun v6 w6 e6 r6 _ => ?_)
  obtain ⟨fo, fc, rfl, hfs⟩ := r6.sl
  have hb2 := hb2.ext e6
  have hE6 := hE5.trans e6
  (repeat (apply WL.pure; rfl; rfl; rfl))
  have hway := Way_ok w6 (hgs.up e6) hfs (hts.up e6)
  rw [hol] at hway
  refine WL.call rfl rfl rfl hway ?_
  rintro _ w7 ⟨wv, rfl, how, e7⟩
  have hb2 := hb2.ext e7
  have hE7 := hE6.trans e7
  have hin : okL nl.length (wayL nl k) := by have := wayF_in (g := grL nl) (f := [0]) (to := oneB nl.length k); rwa [grL_len] at this
  have hwl : (wayL nl k).length ≤ nl.length + 1 := by have := wayF_len (g := grL nl) (f := [0]) (to := oneB nl.length k); rwa [grL_len] at this
  obtain ⟨wo, wc, rfl, hws⟩ := how.oldN.sl
  (repeat (first | (apply WL.pure; rfl; rfl; rfl) | (apply WL.nil) | (apply EX.thenN) | (apply CW.seq) | (apply CW.region) | (apply WL.ldA; rfl; rfl; rfl; assumption; rfl)))
  refine WL.call rfl rfl rfl (along_ok w7 (mo := mo) (mc := mc) (ml := ml) (hn.up hE7) hws hin (by show (wayL nl k).length ≤ 1000; omega)) ?_
  rintro _ w8 ⟨ho8, e8⟩
  (repeat (first | (apply WL.pure; rfl; rfl; rfl) | (apply WL.nil) | (apply EX.thenN) | (apply CW.ret)))
  exact EX.ret2 rfl rfl rfl ⟨_, rfl, ho8.low hE7.size, hE7.trans e8⟩
end Go.Proofs.Ytljcnopekjinjaa
/-
  GameTokens: walked.
-/
set_option linter.unusedVariables false
set_option linter.unusedSimpArgs false
namespace Go.Proofs.Ytljcnopekjinjaa
open Go.RowKit

theorem sum_range {m : List Int} (h : ∀ j : Nat, 0 ≤ m.getD j 0 ∧ m.getD j 0 ≤ 9) : ∀ i, i ≤ m.length → 0 ≤ (m.take i).sum ∧ (m.take i).sum ≤ 9 * (i : Int)
  | 0, _ => by simp
  | i + 1, hi => by
    have ih := sum_range h i (by omega)
    have hj := h i
    rw [getDm_at (by omega)] at hj
    rw [← List.take_append_getElem (by omega), List.sum_append, List.sum_cons, List.sum_nil]
    omega
theorem sumOf_ok (w : World) {mo : Option Addr} {mc : Nat} {m : List Int} (hm : Sl w (Old w) mo mc m) (h09 : ∀ j : Nat, 0 ≤ m.getD j 0 ∧ m.getD j 0 ≤ 9) (hl : m.length ≤ 30) :
    Rt Try.prog 23 [.slice mo m.length mc].toArray w fun v w' => v = .int .i64 m.sum ∧ Ext w w' := by
  refine Rt.enter1 Try.func23 Try.ntmps23 rfl rfl ?_
  (repeat (first | (apply WL.add; rfl; rfl; rfl; rfl; omega; omega) | (apply QL.add; rfl; rfl; rfl; rfl; omega; omega) | (apply WL.sub'; rfl; rfl; rfl; rfl; omega; omega) | (apply QL.sub'; rfl; rfl; rfl; rfl; omega; omega) | (apply WL.mul; rfl; rfl; rfl; rfl; omega; omega) | (apply QL.mul; rfl; rfl; rfl; rfl; omega; omega) | (apply WL.pure; rfl; rfl; rfl) | (apply QL.pure; rfl; rfl; rfl) | (apply WL.nil) | (apply EX.thenN) | (apply CW.seq) | (apply CW.region) | (apply WL.pass; rfl; rfl) | (apply QL.pass; rfl; rfl) | (apply WL.eqB; rfl; rfl; rfl; rfl) | (apply QL.eqB; rfl; rfl; rfl; rfl) | (apply WL.neB; rfl; rfl; rfl; rfl) | (apply QL.neB; rfl; rfl; rfl; rfl) | (apply WL.lenS; rfl; rfl; rfl) | (apply QL.lenS; rfl; rfl; rfl) | (apply WL.makeFunc; rfl; rfl; rfl; rfl) | (apply QL.makeFunc; rfl; rfl; rfl; rfl) | (apply WL.fa; rfl; rfl; rfl) | (apply QL.fa; rfl; rfl; rfl) | (apply WL.nck; rfl; rfl; rfl) | (apply QL.nck; rfl; rfl; rfl) | (apply WL.ld; rfl; rfl; rfl; assumption; rfl) | (apply QL.ld; rfl; rfl; rfl; assumption; rfl) | (apply WL.ldA; rfl; rfl; rfl; assumption; rfl) | (apply QL.ldA; rfl; rfl; rfl; assumption; rfl) | (apply CW.block) | (apply EX.inN) | (apply CW.condT; rfl) | (apply CW.condF; rfl) | (apply CW.exit) | (apply EX.thenX) | (apply EX.inX) | (apply EX.inXne; rfl) | (apply CW.ret) | (apply EX.thenR) | (apply EX.inR) | (apply CW.skip) | (refine WL.lenO rfl rfl rfl (by assumption) ?_) | (apply WL.isNil; rfl; rfl; rfl) | (apply CW.draw; exact mixed; kernel_rfl)))
  refine CW.loop (S := Nat) (fun i => [(3, .int .i64 (m.take i).sum), (6, .slice mo m.length mc), (7, .int .i64 m.length), (8, .int .i64 i)])
    (fun i w' => i ≤ m.length ∧ Ext w w') (fun i => m.length - i) 0 (by repeat (first | exact trivial | refine ⟨rfl, ?_⟩)) ⟨Nat.zero_le _, Ext.refl _⟩ ?_
  rintro i w1 ⟨hi, e1⟩
  (repeat (first | (apply WL.add; rfl; rfl; rfl; rfl; omega; omega) | (apply QL.add; rfl; rfl; rfl; rfl; omega; omega) | (apply WL.sub'; rfl; rfl; rfl; rfl; omega; omega) | (apply QL.sub'; rfl; rfl; rfl; rfl; omega; omega) | (apply WL.mul; rfl; rfl; rfl; rfl; omega; omega) | (apply QL.mul; rfl; rfl; rfl; rfl; omega; omega) | (apply WL.pure; rfl; rfl; rfl) | (apply QL.pure; rfl; rfl; rfl) | (apply WL.nil) | (apply EX.thenN) | (apply CW.seq) | (apply CW.region) | (apply WL.pass; rfl; rfl) | (apply QL.pass; rfl; rfl) | (apply WL.eqB; rfl; rfl; rfl; rfl) | (apply QL.eqB; rfl; rfl; rfl; rfl) | (apply WL.neB; rfl; rfl; rfl; rfl) | (apply QL.neB; rfl; rfl; rfl; rfl) | (apply WL.lenS; rfl; rfl; rfl) | (apply QL.lenS; rfl; rfl; rfl) | (apply WL.makeFunc; rfl; rfl; rfl; rfl) | (apply QL.makeFunc; rfl; rfl; rfl; rfl) | (apply WL.fa; rfl; rfl; rfl) | (apply QL.fa; rfl; rfl; rfl) | (apply WL.nck; rfl; rfl; rfl) | (apply QL.nck; rfl; rfl; rfl) | (apply WL.ld; rfl; rfl; rfl; assumption; rfl) | (apply QL.ld; rfl; rfl; rfl; assumption; rfl) | (apply WL.ldA; rfl; rfl; rfl; assumption; rfl) | (apply QL.ldA; rfl; rfl; rfl; assumption; rfl) | (apply CW.block) | (apply EX.inN) | (apply CW.condT; rfl) | (apply CW.condF; rfl) | (apply CW.exit) | (apply EX.thenX) | (apply EX.inX) | (apply EX.inXne; rfl) | (apply CW.ret) | (apply EX.thenR) | (apply EX.inR) | (apply CW.skip) | (refine WL.lenO rfl rfl rfl (by assumption) ?_) | (apply WL.isNil; rfl; rfl; rfl) | (apply CW.draw; exact mixed; kernel_rfl)))
  refine CW.cond rfl (fun h => ?_) (fun h => ?_)
  · have hi' : i < m.length := by simp at h; omega
    have h1 := sum_range h09 i hi
    have hj := h09 i
    rw [getDm_at hi'] at hj
    have hs : (m.take (i + 1)).sum = (m.take i).sum + m[i] := by rw [← List.take_append_getElem hi', List.sum_append, List.sum_cons, List.sum_nil]; omega
    (repeat (first | (apply WL.add; rfl; rfl; rfl; rfl; omega; omega) | (apply QL.add; rfl; rfl; rfl; rfl; omega; omega) | (apply WL.sub'; rfl; rfl; rfl; rfl; omega; omega) | (apply QL.sub'; rfl; rfl; rfl; rfl; omega; omega) | (apply WL.mul; rfl; rfl; rfl; rfl; omega; omega) | (apply QL.mul; rfl; rfl; rfl; rfl; omega; omega) | (apply WL.pure; rfl; rfl; rfl) | (apply QL.pure; rfl; rfl; rfl) | (apply WL.nil) | (apply EX.thenN) | (apply CW.seq) | (apply CW.region) | (apply WL.pass; rfl; rfl) | (apply QL.pass; rfl; rfl) | (apply WL.eqB; rfl; rfl; rfl; rfl) | (apply QL.eqB; rfl; rfl; rfl; rfl) | (apply WL.neB; rfl; rfl; rfl; rfl) | (apply QL.neB; rfl; rfl; rfl; rfl) | (apply WL.lenS; rfl; rfl; rfl) | (apply QL.lenS; rfl; rfl; rfl) | (apply WL.makeFunc; rfl; rfl; rfl; rfl) | (apply QL.makeFunc; rfl; rfl; rfl; rfl) | (apply WL.fa; rfl; rfl; rfl) | (apply QL.fa; rfl; rfl; rfl) | (apply WL.nck; rfl; rfl; rfl) | (apply QL.nck; rfl; rfl; rfl) | (apply WL.ld; rfl; rfl; rfl; assumption; rfl) | (apply QL.ld; rfl; rfl; rfl; assumption; rfl) | (apply WL.ldA; rfl; rfl; rfl; assumption; rfl) | (apply QL.ldA; rfl; rfl; rfl; assumption; rfl) | (apply CW.block) | (apply EX.inN) | (apply CW.condT; rfl) | (apply CW.condF; rfl) | (apply CW.exit) | (apply EX.thenX) | (apply EX.inX) | (apply EX.inXne; rfl) | (apply CW.ret) | (apply EX.thenR) | (apply EX.inR) | (apply CW.skip) | (refine WL.lenO rfl rfl rfl (by assumption) ?_) | (apply WL.isNil; rfl; rfl; rfl) | (apply CW.draw; exact mixed; kernel_rfl)))
    refine WL.elemI rfl rfl rfl rfl rfl (hm.up e1) hi' rfl (fun _ => rfl) (fun q => ?_)
    (repeat (first | (apply WL.add; rfl; rfl; rfl; rfl; omega; omega) | (apply QL.add; rfl; rfl; rfl; rfl; omega; omega) | (apply WL.sub'; rfl; rfl; rfl; rfl; omega; omega) | (apply QL.sub'; rfl; rfl; rfl; rfl; omega; omega) | (apply WL.mul; rfl; rfl; rfl; rfl; omega; omega) | (apply QL.mul; rfl; rfl; rfl; rfl; omega; omega) | (apply WL.pure; rfl; rfl; rfl) | (apply QL.pure; rfl; rfl; rfl) | (apply WL.nil) | (apply EX.thenN) | (apply CW.seq) | (apply CW.region) | (apply WL.pass; rfl; rfl) | (apply QL.pass; rfl; rfl) | (apply WL.eqB; rfl; rfl; rfl; rfl) | (apply QL.eqB; rfl; rfl; rfl; rfl) | (apply WL.neB; rfl; rfl; rfl; rfl) | (apply QL.neB; rfl; rfl; rfl; rfl) | (apply WL.lenS; rfl; rfl; rfl) | (apply QL.lenS; rfl; rfl; rfl) | (apply WL.makeFunc; rfl; rfl; rfl; rfl) | (apply QL.makeFunc; rfl; rfl; rfl; rfl) | (apply WL.fa; rfl; rfl; rfl) | (apply QL.fa; rfl; rfl; rfl) | (apply WL.nck; rfl; rfl; rfl) | (apply QL.nck; rfl; rfl; rfl) | (apply WL.ld; rfl; rfl; rfl; assumption; rfl) | (apply QL.ld; rfl; rfl; rfl; assumption; rfl) | (apply WL.ldA; rfl; rfl; rfl; assumption; rfl) | (apply QL.ldA; rfl; rfl; rfl; assumption; rfl) | (apply CW.block) | (apply EX.inN) | (apply CW.condT; rfl) | (apply CW.condF; rfl) | (apply CW.exit) | (apply EX.thenX) | (apply EX.inX) | (apply EX.inXne; rfl) | (apply CW.ret) | (apply EX.thenR) | (apply EX.inR) | (apply CW.skip) | (refine WL.lenO rfl rfl rfl (by assumption) ?_) | (apply WL.isNil; rfl; rfl; rfl) | (apply CW.draw; exact mixed; kernel_rfl)))
    rw [← hs]
    exact EX.back (i + 1) (by repeat (first | exact trivial | refine ⟨rfl, ?_⟩)) ⟨hi', e1⟩ (by omega)
  · obtain rfl : i = m.length := by simp at h; omega
    rw [List.take_length]
    (repeat (first | (apply WL.add; rfl; rfl; rfl; rfl; omega; omega) | (apply QL.add; rfl; rfl; rfl; rfl; omega; omega) | (apply WL.sub'; rfl; rfl; rfl; rfl; omega; omega) | (apply QL.sub'; rfl; rfl; rfl; rfl; omega; omega) | (apply WL.mul; rfl; rfl; rfl; rfl; omega; omega) | (apply QL.mul; rfl; rfl; rfl; rfl; omega; omega) | (apply WL.pure; rfl; rfl; rfl) | (apply QL.pure; rfl; rfl; rfl) | (apply WL.nil) | (apply EX.thenN) | (apply CW.seq) | (apply CW.region) | (apply WL.pass; rfl; rfl) | (apply QL.pass; rfl; rfl) | (apply WL.eqB; rfl; rfl; rfl; rfl) | (apply QL.eqB; rfl; rfl; rfl; rfl) | (apply WL.neB; rfl; rfl; rfl; rfl) | (apply QL.neB; rfl; rfl; rfl; rfl) | (apply WL.lenS; rfl; rfl; rfl) | (apply QL.lenS; rfl; rfl; rfl) | (apply WL.makeFunc; rfl; rfl; rfl; rfl) | (apply QL.makeFunc; rfl; rfl; rfl; rfl) | (apply WL.fa; rfl; rfl; rfl) | (apply QL.fa; rfl; rfl; rfl) | (apply WL.nck; rfl; rfl; rfl) | (apply QL.nck; rfl; rfl; rfl) | (apply WL.ld; rfl; rfl; rfl; assumption; rfl) | (apply QL.ld; rfl; rfl; rfl; assumption; rfl) | (apply WL.ldA; rfl; rfl; rfl; assumption; rfl) | (apply QL.ldA; rfl; rfl; rfl; assumption; rfl) | (apply CW.block) | (apply EX.inN) | (apply CW.condT; rfl) | (apply CW.condF; rfl) | (apply CW.exit) | (apply EX.thenX) | (apply EX.inX) | (apply EX.inXne; rfl) | (apply CW.ret) | (apply EX.thenR) | (apply EX.inR) | (apply CW.skip) | (refine WL.lenO rfl rfl rfl (by assumption) ?_) | (apply WL.isNil; rfl; rfl; rfl) | (apply CW.draw; exact mixed; kernel_rfl)))
    exact EX.ret1 rfl rfl ⟨rfl, e1⟩
theorem straight_fire : fireE straightP [1, 0] 0 = ([0, 1], 0) := by
  have hz : (stepsE straightP).2 = 0 := by rw [straight_steps]
  have hl : stepsL straightP = [(1, 0, 1), (2, 1, 0)] := by decide
  have hm : chkM straightP [1, 0] = 0 := markOk_chk hz ⟨rfl, fun j => by
    rcases j with _ | _ | j
    · decide
    · decide
    · exact ⟨Int.le_refl _, (by decide : (0 : Int) ≤ 9)⟩⟩
  unfold fireE
  rw [if_neg (by simp [hm]), hl, if_neg (by decide), if_neg (by decide)]
  decide
theorem getDG_atM {l : List (List Int)} {j : Nat} (h : j < l.length) : l.getD j [] = l[j] := by rw [List.getD_eq_getElem?_getD, List.getElem?_eq_getElem h]; rfl
theorem steps_at {p : LProc} {k : Int} (h0 : 0 ≤ k) (h1 : k < (stepsL p).length) : ∃ n, n < p.1.length ∧ (stepsL p).getD k.toNat (0, 0, 0) ∈ stepsN p n := by
  rw [stepsL_at (by omega)]
  exact stepsP_mem.1 (List.getElem_mem _)
theorem putN_range {n : Int} : ∀ c : Nat, 0 ≤ putN n 0 c ∧ putN n 0 c ≤ c
  | 0 => by simp [putN]
  | c + 1 => by
    have := putN_range (n := n) c
    have := bitK_01 n c
    rw [putN_last]; omega
end Go.Proofs.Ytljcnopekjinjaa
/-
  Package game: Play: walked.
-/
set_option linter.unusedVariables false
set_option linter.unusedSimpArgs false
namespace Go.Proofs.Ytljcnopekjinjaa
open Go.RowKit

noncomputable def playGo (p : LProc) : List Int → List Int → List (List Int) × Nat × Int
  | [], _ => ([], 0, 0)
  | k :: r, m => if (fireE p m k).2 ≠ 0 then ([], 0, (fireE p m k).2) else ((fireE p m k).1 :: (playGo p r (fireE p m k).1).1, (playGo p r (fireE p m k).1).2.1 + 1, (playGo p r (fireE p m k).1).2.2)
noncomputable def playE (p : LProc) (l : List Int) : List (List Int) × Nat × Int :=
  if (stepsE p).2 ≠ 0 then ([], 0, (stepsE p).2) else if l.length > 500 then ([], 0, 2) else (beginL p :: (playGo p l (beginL p)).1, (playGo p l (beginL p)).2.1, (playGo p l (beginL p)).2.2)
theorem Play_ok (w0 : World) {so fo lo : Option Addr} {sc fc lc : Nat} {ns : List LNode} {fl : List LFlow} {l : List Int} (hs : Sl w0 (Old w0) so sc ns) (hf : Sl w0 (Old w0) fo fc fl) (hl : Sl w0 (Old w0) lo lc l) :
    Rt Try.prog 12 [procV so sc fo fc ns.length fl.length, .slice lo l.length lc].toArray w0 fun v w' => ∃ mv, v = .tuple ⟨[mv, .int .i64 (playE (ns, fl) l).2.1, .int .i64 (playE (ns, fl) l).2.2]⟩ ∧ Rd w' (Old w') mv (playE (ns, fl) l).1 ∧ Ext w0 w' := by
  have hll := hl.len63
  refine Rt.enter2 Try.func12 Try.ntmps12 rfl rfl ?_
  have hE := Ext.refl w0
  (repeat (first | (apply CW.seq) | (apply CW.region)))
  refine WL.boxB rfl rfl rfl fun w1 hb1 e1 => ?_
  have hE := hE.trans e1
  (repeat (first | (apply WL.pure; rfl; rfl; rfl) | (apply WL.nil) | (apply EX.thenN) | (apply CW.seq) | (apply CW.region) | (apply WL.ldA; rfl; rfl; rfl; assumption; rfl)))
  refine WL.call rfl rfl rfl (Begin_ok w1 (hs.up hE) (hf.up hE)) ?_
  rintro _ w2 ⟨x, rfl, hox, e2⟩
  have hE := hE.trans e2
  have hb2 := hb1.ext e2
  unfold playE
  by_cases hz : (stepsE (ns, fl)).2 = 0
  case neg =>
    have hz1 : ((stepsE (ns, fl)).2 != 0) = true := by simpa using hz
    rw [if_pos hz]
    (repeat (first | (apply WL.pure; rfl; rfl; rfl) | (apply WL.nil) | (apply EX.thenN) | (apply CW.seq) | (apply CW.region)))
    rw [hz1]
    (repeat (first | (apply WL.pure; rfl; rfl; rfl) | (apply WL.nil) | (apply EX.thenN) | (apply CW.seq) | (apply CW.region) | (apply CW.condT; rfl) | (apply CW.ret) | (apply EX.thenR)))
    exact EX.ret3 rfl rfl rfl rfl ⟨_, rfl, (Own.nil (B := 0) (F := Non) (e := 0) (α := List Int)).old (fun _ h => h.elim), hE⟩
  rw [if_pos hz] at hox
  rw [if_neg (by simp [hz]), hz]
  obtain ⟨xo, xc, rfl, hxs⟩ := hox.oldN.sl
  have hbx := fun g hg => (hox.lt g hg)
  generalize beginL (ns, fl) = m0 at *
  (repeat (first | (apply WL.pure; rfl; rfl; rfl) | (apply WL.nil) | (apply EX.thenN) | (apply CW.seq) | (apply CW.region) | (apply WL.lenS; rfl; rfl; rfl) | (apply CW.condF; rfl) | (apply CW.skip)))
  refine CW.cond rfl (fun h => ?_) (fun h => ?_)
  · have h : l.length > 500 := by simp at h; omega
    rw [if_pos h]
    (repeat (first | (apply WL.pure; rfl; rfl; rfl) | (apply WL.nil) | (apply EX.thenN) | (apply CW.seq) | (apply CW.region) | (apply CW.ret) | (apply EX.thenR)))
    exact EX.ret3 rfl rfl rfl rfl ⟨_, rfl, (Own.nil (B := 0) (F := Non) (e := 0) (α := List Int)).old (fun _ h => h.elim), hE⟩
  have h500 : ¬ l.length > 500 := by simp at h; omega
  rw [if_neg h500]
  (repeat (first | (apply WL.pure; rfl; rfl; rfl) | (apply EX.thenN) | (apply CW.seq) | (apply CW.region) | (apply CW.skip)))
  refine WL.lit (α := Raw) (F := Non) (ys := [(⟨.slice xo m0.length xc⟩ : Raw)]) rfl rfl rfl rfl rfl (.cons (Rd.mkRaw _ _ _ rfl) .nil) (by show 1 * 1 ≤ 16777216; decide) (fun _ h => h.elim) (fun w3 ho3 hg3 => ?_)
  have e3 : Ext w2 w3 := (Ext.refl _).grown hg3 (Nat.le_refl _) (fun k h => by cases h)
  have hm0 : Sl w3 (Fx w3 (.slice (some ⟨w2.heap.size, 0, none⟩) 1 1) (.slice none 0 0)) xo xc m0 := hxs.mono (fun b hb => e3.block b hb) fun b hb => ⟨Nat.lt_of_lt_of_le hb e3.size, fun e => by
    have e : some w2.heap.size = some b := e
    injection e with e; have : b < w2.heap.size := hb; omega, fun e => by cases e⟩
  have hM : Marks w3 w2.heap.size (.slice (some ⟨w2.heap.size, 0, none⟩) 1 1) (.slice none 0 0) [(⟨.slice xo m0.length xc⟩ : Raw)] [m0] [] :=
    ⟨ho3, Own.nil, (fun g _ h => by cases h), rfl, fun i h1 h2 => by
      obtain rfl : i = 0 := by simp at h1; omega
      exact ⟨xo, xc, rfl, hm0⟩⟩
  have hb3 := hb2.ext e3
  clear ho3 hg3 hox hxs hbx hb1
  generalize Value.slice (some ⟨w2.heap.size, 0, none⟩) 1 1 = mv0 at *
  (repeat (first | (apply WL.pure; rfl; rfl; rfl) | (apply WL.nil) | (apply EX.thenN) | (apply CW.seq) | (apply CW.region) | (apply WL.lenS; rfl; rfl; rfl) | (apply CW.block)))
  refine CW.loop (S := Nat × (Option Addr × Nat) × Value × List Raw × List (List Int) × List Int) (fun s => [(1, .slice lo l.length lc), (2, .pointer (some ⟨w0.heap.size, 0, none⟩)), (7, .slice s.2.1.1 s.2.2.2.2.2.length s.2.1.2), (9, s.2.2.1), (25, .slice lo l.length lc), (26, .int .i64 l.length), (27, .int .i64 s.1)])
    (fun s w => s.1 ≤ l.length ∧ s.2.2.2.2.1 ++ (playGo (ns, fl) (l.drop s.1) s.2.2.2.2.2).1 = m0 :: (playGo (ns, fl) l m0).1 ∧ s.1 + (playGo (ns, fl) (l.drop s.1) s.2.2.2.2.2).2.1 = (playGo (ns, fl) l m0).2.1 ∧ (playGo (ns, fl) (l.drop s.1) s.2.2.2.2.2).2.2 = (playGo (ns, fl) l m0).2.2
      ∧ Marks w w2.heap.size s.2.2.1 (.slice none 0 0) s.2.2.2.1 s.2.2.2.2.1 [] ∧ Sl w (Fx w s.2.2.1 (.slice none 0 0)) s.2.1.1 s.2.1.2 s.2.2.2.2.2 ∧ s.2.2.2.1.length = s.1 + 1 ∧ Ext w2 w) (fun s => l.length - s.1)
    (0, (xo, xc), mv0, [(⟨.slice xo m0.length xc⟩ : Raw)], [m0], m0) (by repeat (first | exact trivial | refine ⟨rfl, ?_⟩)) ⟨Nat.zero_le _, by simp, by simp, by simp, hM, hm0, rfl, e3⟩ ?_
  clear hM hm0 hb3 e3
  rintro ⟨i, ⟨ao, cap⟩, mv, vs, xs, m⟩ w4 ⟨hi, hT1, hT2, hT3, hM, hm, hvl, e4⟩
  dsimp only at hi hT1 hT2 hT3 hM hm hvl e4 ⊢
  have hE4 := hE.trans e4
  have hb4 := hb2.ext e4
  (repeat (first | (apply WL.pure; rfl; rfl; rfl) | (apply WL.nil) | (apply EX.thenN) | (apply CW.seq) | (apply CW.region)))
  refine CW.cond rfl (fun h => ?_) (fun h => ?_)
  · have hi' : i < l.length := by simp at h; omega
    rw [List.drop_eq_getElem_cons hi', playGo] at hT1 hT2 hT3
    (repeat (first | (apply WL.pure; rfl; rfl; rfl) | (apply EX.thenN) | (apply CW.seq) | (apply CW.region) | (apply CW.block) | (apply CW.skip)))
    refine WL.elemI rfl rfl rfl rfl rfl (hl.up hE4) hi' rfl (fun _ => rfl) (fun q => ?_)
    generalize l[i] = k at *
    (repeat (first | (apply WL.pure; rfl; rfl; rfl) | (apply WL.nil) | (apply EX.thenN) | (apply CW.seq) | (apply CW.region) | (apply WL.ldA; rfl; rfl; rfl; assumption; rfl)))
    refine WL.call rfl rfl rfl (Fire_ok w4 (hs.up hE4) (hf.up hE4) (Fx.old hm) k) ?_
    rintro _ w6 ⟨x, rfl, hoy, e6⟩
    have hM5 := hM
    have hM := hM.ext e6
    have hE6 := hE4.trans e6
    have e6' := e4.trans e6
    have hb6 := hb2.ext e6'
    by_cases hz2 : (fireE (ns, fl) m k).2 = 0
    case neg =>
      have hz1 : ((fireE (ns, fl) m k).2 != 0) = true := by simpa using hz2
      rw [if_pos hz2] at hT1 hT2 hT3
      rw [List.append_nil] at hT1
      rw [← hT1, ← hT2, ← hT3]
      (repeat (first | (apply WL.pure; rfl; rfl; rfl) | (apply WL.nil) | (apply EX.thenN) | (apply CW.seq) | (apply CW.region)))
      rw [hz1]
      (repeat (first | (apply WL.pure; rfl; rfl; rfl) | (apply WL.nil) | (apply EX.thenN) | (apply CW.seq) | (apply CW.region) | (apply CW.condT; rfl) | (apply CW.ret) | (apply EX.thenR) | (apply EX.inR)))
      exact EX.ret3 rfl rfl rfl rfl ⟨_, rfl, hM.rd, hE6⟩
    rw [if_neg (by simp [hz2])] at hT1 hT2 hT3
    rw [hz2]
    generalize (fireE (ns, fl) m k).1 = m' at *
    obtain ⟨yo, yc, rfl, hym⟩ := hoy.slF (F' := Fx w6 mv (.slice none 0 0)) (fun _ h => h.elim) (fun g hg => by
      have h1 := hoy.lt g hg
      refine ⟨h1.2.1, fun e => ?_, fun e => by cases e⟩
      have := (hM5.own.lt g e).2.1; omega)
    clear hoy hM5
    (repeat (first | (apply WL.pure; rfl; rfl; rfl) | (apply WL.nil) | (apply EX.thenN) | (apply CW.seq) | (apply CW.region) | (apply CW.condF; rfl) | (apply CW.skip)))
    refine WL.app1 (α := Raw) (F := Non) (yv := (⟨.slice yo m'.length yc⟩ : Raw)) rfl rfl (fun _ => rfl) rfl rfl (fun _ => rfl) hM.own (Rd.mkRaw _ _ _ rfl) e6'.size (fun _ h => h.elim) (by decide) (by unfold maxLen; omega) (by omega) (fun mv' w7 p ho7 hg7 hnb7 => ?_)
    have hM7 := hM.push hym ho7 hg7 hnb7
    have hm7 := Fx.step1 hg7 hnb7 hym
    have e7 : Ext w2 w7 := e6'.grown hg7 e6'.size (fun b hb => (hM.own.lt b hb).1)
    (repeat (first | (apply WL.add; rfl; rfl; rfl; rfl; omega; omega) | (apply WL.pure; rfl; rfl; rfl) | (apply WL.nil) | (apply EX.thenN) | (apply CW.region) | (apply EX.inN)))
    exact EX.back (i + 1, (yo, yc), mv', vs ++ [⟨.slice yo m'.length yc⟩], xs ++ [m'], m') (by repeat (first | exact trivial | refine ⟨rfl, ?_⟩)) ⟨hi', by simpa using hT1, by dsimp only at hT2 ⊢; omega, hT3, hM7, hm7, by simp [hvl], e7⟩ (by dsimp only; omega)
  · obtain rfl : i = l.length := by simp at h; omega
    rw [List.drop_length, playGo] at hT1 hT2 hT3
    rw [List.append_nil] at hT1
    rw [← hT1, ← hT2, ← hT3]
    (repeat (first | (apply WL.pure; rfl; rfl; rfl) | (apply WL.nil) | (apply EX.thenN) | (apply CW.seq) | (apply CW.region) | (apply WL.lenS; rfl; rfl; rfl) | (apply CW.exit) | (apply EX.thenX) | (apply EX.inX) | (apply CW.ret)))
    exact EX.ret3 rfl rfl rfl rfl ⟨_, rfl, hM.rd, hE4⟩
/- plain: what is walked is played -/
theorem walk_play {p : LProc} : ∀ (dice m : List Int), playGo p (walkGo p dice m).2 m = ((walkGo p dice m).1, (walkGo p dice m).2.length, 0)
  | [], m => rfl
  | d :: r, m => by
    rw [walkGo]
    split
    · rfl
    · split
      · rfl
      · rename_i h1 h2
        dsimp only
        rw [playGo, if_neg h2, walk_play r]
        rfl
theorem straight_play : playE straightP [0, 1] = ([[1, 0], [0, 1], [0, 0]], 2, 0) := by
  have hz : (stepsE straightP).2 = 0 := by rw [straight_steps]
  have hl : stepsL straightP = [(1, 0, 1), (2, 1, 0)] := by decide
  have hm : chkM straightP [0, 1] = 0 := markOk_chk hz ⟨rfl, fun j => by
    rcases j with _ | _ | j
    · decide
    · decide
    · exact ⟨Int.le_refl _, (by decide : (0 : Int) ≤ 9)⟩⟩
  have h2 : fireE straightP [0, 1] 1 = ([0, 0], 0) := by
    unfold fireE
    rw [if_neg (by simp [hm]), hl, if_neg (by decide), if_neg (by decide)]
    decide
  have hb : beginL straightP = [1, 0] := by decide
  unfold playE
  rw [if_neg (by simp [hz]), if_neg (by decide), hb]
  simp [playGo, straight_fire, h2]
end Go.Proofs.Ytljcnopekjinjaa
/-
  All markings: plain laws.
-/
set_option linter.unusedVariables false
set_option linter.unusedSimpArgs false
namespace Go.Proofs.Ytljcnopekjinjaa

/- greater bounds -/
theorem putE_same {a b c d : Int} {s : Sr} {m : List Int} {fr : Int × Int} (h1 : (putE a b s m fr).2.2 = 0) (h2 : (putE c d s m fr).2.2 = 0) : putE a b s m fr = putE c d s m fr := by
  unfold putE at h1 h2 ⊢
  by_cases g1 : tooMany a m = true
  · rw [if_pos g1] at h1; cases h1
  by_cases g2 : tooMany c m = true
  · rw [if_pos g2] at h2; cases h2
  rw [if_neg g1] at h1
  rw [if_neg g2] at h2
  rw [if_neg g1, if_neg g2]
  by_cases g3 : m ∈ s.1
  · rw [if_pos g3, if_pos g3]
  rw [if_neg g3] at h1 h2
  rw [if_neg g3, if_neg g3]
  by_cases g4 : (s.1.length : Int) = b
  · rw [if_pos g4] at h1; cases h1
  by_cases g5 : (s.1.length : Int) = d
  · rw [if_pos g5] at h2; cases h2
  rw [if_neg g4, if_neg g5]
theorem edgesGo_same {p : LProc} {a b c d n : Int} {m : List Int} : ∀ (l : List Int) (s : Sr) (out : List LEdge), (edgesGo p a b n m l s out).2.2 = 0 → (edgesGo p c d n m l s out).2.2 = 0 → edgesGo p a b n m l s out = edgesGo p c d n m l s out
  | [], s, out, _, _ => rfl
  | k :: r, s, out, h1, h2 => by
    rw [edgesGo] at h1 h2 ⊢
    rw [edgesGo]
    by_cases g : (fireE p m k).2 = 0
    case neg => rw [if_pos g] at h1; exact absurd h1 g
    have hg : ¬ (fireE p m k).2 ≠ 0 := by simp [g]
    rw [if_neg hg] at h1 h2
    rw [if_neg hg, if_neg hg]
    by_cases g1 : (putE a b s (fireE p m k).1 (n, k)).2.2 = 0
    case neg => rw [if_pos g1] at h1; exact absurd h1 g1
    by_cases g2 : (putE c d s (fireE p m k).1 (n, k)).2.2 = 0
    case neg => rw [if_pos g2] at h2; exact absurd h2 g2
    have e := putE_same g1 g2
    have hg1 : ¬ (putE a b s (fireE p m k).1 (n, k)).2.2 ≠ 0 := by simp [g1]
    have hg2 : ¬ (putE c d s (fireE p m k).1 (n, k)).2.2 ≠ 0 := by simp [g2]
    rw [if_neg hg1] at h1
    rw [if_neg hg2] at h2
    rw [if_neg hg1, if_neg hg2]
    rw [e] at h1 ⊢
    exact edgesGo_same r _ _ h1 h2
theorem runGo_same {p : LProc} {a b c d : Int} : ∀ (f n : Nat) (s : Sr) (nx : List (List LEdge)), (runGo p a b f n s nx).2.2 = 0 → (runGo p c d f n s nx).2.2 = 0 → runGo p a b f n s nx = runGo p c d f n s nx
  | 0, n, s, nx, _, _ => rfl
  | f + 1, n, s, nx, h1, h2 => by
    rw [runGo] at h1 h2 ⊢
    rw [runGo]
    by_cases hn : n < s.1.length
    case neg => rw [if_neg hn, if_neg hn]
    rw [if_pos hn] at h1 h2
    rw [if_pos hn, if_pos hn]
    by_cases g1 : (edgesE p a b n s).2.2 = 0
    case neg => rw [if_pos g1] at h1; exact absurd h1 g1
    by_cases g2 : (edgesE p c d n s).2.2 = 0
    case neg => rw [if_pos g2] at h2; exact absurd h2 g2
    have e : edgesE p a b n s = edgesE p c d n s := edgesGo_same _ _ _ g1 g2
    rw [if_neg (by simp [g1])] at h1
    rw [if_neg (by simp [g2])] at h2
    rw [if_neg (by simp [g1]), if_neg (by simp [g2])]
    rw [e] at h1 ⊢
    exact runGo_same f _ _ _ h1 h2
theorem runB_same {p : LProc} {a b c d : Int} (h1 : (runB p a b).2.2 = 0) (h2 : (runB p c d).2.2 = 0) : runB p a b = runB p c d := by
  unfold runB at h1 h2 ⊢
  by_cases g1 : (putE a b ([], [], (0, 0)) (beginL p) (-1, -1)).2.2 = 0
  case neg => rw [if_pos g1] at h1; exact absurd h1 g1
  by_cases g2 : (putE c d ([], [], (0, 0)) (beginL p) (-1, -1)).2.2 = 0
  case neg => rw [if_pos g2] at h2; exact absurd h2 g2
  have e := putE_same g1 g2
  rw [if_neg (by simp [g1])] at h1
  rw [if_neg (by simp [g2])] at h2
  rw [if_neg (by simp [g1]), if_neg (by simp [g2])]
  rw [e] at h1 ⊢
  exact runGo_same _ _ _ _ h1 h2
theorem exploreE_ok {p : LProc} {a b : Int} (h : (exploreE p a b).2 = 0) : (stepsE p).2 = 0 ∧ 1 ≤ a ∧ 1 ≤ b ∧ b ≤ 200 ∧ (runB p a b).2.2 = 0 ∧ exploreE p a b = (((runB p a b).1.1, (runB p a b).2.1), 0) := by
  unfold exploreE at h ⊢
  by_cases g1 : runPre p a b = 0
  case neg => rw [if_pos g1] at h; exact absurd h g1
  rw [if_neg (by simp [g1])] at h ⊢
  by_cases g2 : (runB p a b).2.2 = 0
  case neg => rw [if_pos g2] at h; exact absurd h g2
  rw [if_neg (by simp [g2])]
  unfold runPre at g1
  by_cases g3 : (stepsE p).2 = 0
  case neg => rw [if_pos g3] at g1; exact absurd g1 g3
  rw [if_neg (by simp [g3])] at g1
  unfold runArg at g1
  split at g1
  · cases g1
  · rename_i g4
    exact ⟨g3, by omega, by omega, by omega, g2, rfl⟩
theorem exploreE_err {p : LProc} {a b : Int} (h : (exploreE p a b).2 ≠ 0) : (exploreE p a b).1 = ([], []) := by
  unfold exploreE at h ⊢
  split
  · rfl
  · split
    · rfl
    · rename_i h1 h2; rw [if_neg h1, if_neg h2] at h; exact absurd rfl h
theorem exploreE_same {p : LProc} {a b c d : Int} (h1 : (exploreE p a b).2 = 0) (h2 : (exploreE p c d).2 = 0) : exploreE p a b = exploreE p c d := by
  obtain ⟨_, _, _, _, r1, e1⟩ := exploreE_ok h1
  obtain ⟨_, _, _, _, r2, e2⟩ := exploreE_ok h2
  rw [e1, e2, runB_same r1 r2]

/- the straight process -/
theorem straight_sp : (exploreE straightP 1 2).2 = 8 ∧ exploreE straightP 9 200 = (([[1, 0], [0, 1], [0, 0]], [[(0, 1)], [(1, 2)], []]), 0) ∧ exploreE straightP 1 9 = (([[1, 0], [0, 1], [0, 0]], [[(0, 1)], [(1, 2)], []]), 0) := by
  have hz : (stepsE straightP).2 = 0 := by rw [straight_steps]
  have hl : stepsL straightP = [(1, 0, 1), (2, 1, 0)] := by decide
  have ok : ∀ a b : Int, 0 ≤ a → a ≤ 9 → 0 ≤ b → b ≤ 9 → chkM straightP [a, b] = 0 := fun a b a0 a9 b0 b9 => markOk_chk hz ⟨rfl, fun j => by
    rcases j with _ | _ | j
    · exact ⟨a0, a9⟩
    · exact ⟨b0, b9⟩
    · exact ⟨Int.le_refl _, (by decide : (0 : Int) ≤ 9)⟩⟩
  have hm0 := ok 1 0 (by decide) (by decide) (by decide) (by decide)
  have hm1 := ok 0 1 (by decide) (by decide) (by decide) (by decide)
  have hm2 := ok 0 0 (by decide) (by decide) (by decide) (by decide)
  have f0 : fireE straightP [1, 0] 0 = ([0, 1], 0) := straight_fire
  have f1 : fireE straightP [0, 1] 1 = ([0, 0], 0) := by
    unfold fireE
    rw [if_neg (by simp [hm1]), hl, if_neg (by decide), if_neg (by decide)]
    decide
  have c0 : canE straightP [1, 0] = [0] := by unfold canE; rw [if_pos hm0]; decide
  have c1 : canE straightP [0, 1] = [1] := by unfold canE; rw [if_pos hm1]; decide
  have c2 : canE straightP [0, 0] = [] := by unfold canE; rw [if_pos hm2]; decide
  have hb : beginL straightP = [1, 0] := by decide
  refine ⟨?_, ?_, ?_⟩
  · simp [exploreE, runPre, hz, runArg, runB, hb, putE, tooMany, runGo, edgesE, edgesGo, c0, c1, c2, f0, f1, posOf]
  · simp [exploreE, runPre, hz, runArg, runB, hb, putE, tooMany, runGo, edgesE, edgesGo, c0, c1, c2, f0, f1, posOf]
  · simp [exploreE, runPre, hz, runArg, runB, hb, putE, tooMany, runGo, edgesE, edgesGo, c0, c1, c2, f0, f1, posOf]

/- a search that ends -/
theorem posOf_mem {m : List Int} : ∀ {l : List (List Int)}, m ∈ l → posOf m l < l.length ∧ l.getD (posOf m l) [] = m
  | x :: r, h => by
    unfold posOf
    by_cases e : x = m
    · rw [if_pos e]; exact ⟨by simp, by simpa using e⟩
    · rw [if_neg e]
      rcases List.mem_cons.1 h with h | h
      · exact absurd h.symm e
      · obtain ⟨h1, h2⟩ := posOf_mem h
        exact ⟨by simp; omega, by simpa using h2⟩
/-- an edge of marking m that leads to where step k leads -/
def EdgeOk (p : LProc) (m : List Int) (l : List (List Int)) (e : LEdge) : Prop := (fireE p m e.1).2 = 0 ∧ 0 ≤ e.2 ∧ e.2 < l.length ∧ l.getD e.2.toNat [] = (fireE p m e.1).1
theorem EdgeOk.more {p : LProc} {m : List Int} {l t : List (List Int)} {e : LEdge} (h : EdgeOk p m l e) : EdgeOk p m (l ++ t) e := by
  obtain ⟨h1, h2, h3, h4⟩ := h
  refine ⟨h1, h2, by rw [List.length_append]; omega, ?_⟩
  rw [← h4, List.getD_eq_getElem?_getD, List.getD_eq_getElem?_getD, List.getElem?_append_left (by omega)]
structure SrOk (p : LProc) (tok st : Int) (l : List (List Int)) : Prop where
  nd : l.Nodup
  ok : ∀ m ∈ l, MarkOk p m
  le : ∀ m ∈ l, ∀ x ∈ m, x ≤ tok
  st : (l.length : Int) ≤ st
theorem putE_law {p : LProc} {tok st : Int} {s : Sr} {m : List Int} {fr : Int × Int} (h : SrOk p tok st s.1) (hm : MarkOk p m) (he : (putE tok st s m fr).2.2 = 0) :
    SrOk p tok st (putE tok st s m fr).1.1 ∧ (∃ t, (putE tok st s m fr).1.1 = s.1 ++ t ∧ ∀ i : Nat, s.1.length ≤ i → i < (s.1 ++ t).length → (putE tok st s m fr).2.1 = (i : Int)) ∧
      0 ≤ (putE tok st s m fr).2.1 ∧ (putE tok st s m fr).2.1 < (putE tok st s m fr).1.1.length ∧ (putE tok st s m fr).1.1.getD (putE tok st s m fr).2.1.toNat [] = m := by
  unfold putE at he ⊢
  by_cases g1 : tooMany tok m = true
  · rw [if_pos g1] at he; cases he
  rw [if_neg g1] at he ⊢
  by_cases g3 : m ∈ s.1
  · rw [if_pos g3]
    obtain ⟨h1, h2⟩ := posOf_mem g3
    exact ⟨h, ⟨[], by simp, fun i h1 h2 => by simp at h2; omega⟩, by dsimp only; omega, by dsimp only; omega, by simpa using h2⟩
  rw [if_neg g3] at he ⊢
  by_cases g4 : (s.1.length : Int) = st
  · rw [if_pos g4] at he; cases he
  rw [if_neg g4]
  have hst := h.st
  refine ⟨⟨?_, ?_, ?_, ?_⟩, ⟨[m], rfl, fun i h1 h2 => by simp at h2; dsimp only; omega⟩, by dsimp only; omega, by simp; omega, by simp⟩
  · rw [List.nodup_append]
    refine ⟨h.nd, List.pairwise_singleton _ _, ?_⟩
    intro a ha b hb e
    rw [List.mem_singleton] at hb
    subst hb; subst e
    exact g3 ha
  · intro x hx
    rcases List.mem_append.1 hx with hx | hx
    · exact h.ok x hx
    · rw [List.mem_singleton] at hx; subst hx; exact hm
  · intro x hx
    rcases List.mem_append.1 hx with hx | hx
    · exact h.le x hx
    · rw [List.mem_singleton] at hx; subst hx
      intro n hn
      unfold tooMany at g1
      rw [List.any_eq_true] at g1
      have : ¬ n > tok := fun hgt => g1 ⟨n, hn, by simpa using hgt⟩
      omega
  · simp; omega
theorem fireE_mark {p : LProc} {m : List Int} {k : Int} (h : (fireE p m k).2 = 0) : MarkOk p (fireE p m k).1 := by
  obtain ⟨h1, _, _, h3, h4⟩ := fireE_ok h
  exact fire_next (chk_markOk h1) h3 h4
theorem edgesGo_law {p : LProc} {tok st n : Int} {m : List Int} : ∀ (l : List Int) (s : Sr) (out : List LEdge), SrOk p tok st s.1 → (∀ e ∈ out, EdgeOk p m s.1 e) → (edgesGo p tok st n m l s out).2.2 = 0 →
    SrOk p tok st (edgesGo p tok st n m l s out).1.1 ∧ (edgesGo p tok st n m l s out).2.1.map Prod.fst = out.map Prod.fst ++ l ∧ (∀ e ∈ (edgesGo p tok st n m l s out).2.1, EdgeOk p m (edgesGo p tok st n m l s out).1.1 e) ∧
      (∃ u, (edgesGo p tok st n m l s out).2.1 = out ++ u) ∧ ∃ t, (edgesGo p tok st n m l s out).1.1 = s.1 ++ t ∧ ∀ i : Nat, s.1.length ≤ i → i < (s.1 ++ t).length → ∃ e ∈ (edgesGo p tok st n m l s out).2.1, e.2 = (i : Int)
  | [], s, out, hs, ho, he => ⟨hs, by simp [edgesGo], ho, ⟨[], by simp [edgesGo]⟩, [], by simp [edgesGo], fun i h1 h2 => by simp at h2; omega⟩
  | k :: r, s, out, hs, ho, he => by
    rw [edgesGo] at he ⊢
    by_cases g : (fireE p m k).2 = 0
    case neg => rw [if_pos g] at he; exact absurd he g
    rw [if_neg (by simp [g])] at he ⊢
    by_cases g1 : (putE tok st s (fireE p m k).1 (n, k)).2.2 = 0
    case neg => rw [if_pos g1] at he; exact absurd he g1
    rw [if_neg (by simp [g1])] at he ⊢
    obtain ⟨hs1, ⟨t, ht, hti⟩, hp0, hp1, hp2⟩ := putE_law hs (fireE_mark g) g1
    generalize putE tok st s (fireE p m k).1 (n, k) = q at *
    obtain ⟨q1, q2, q3⟩ := q
    dsimp only at *
    have ho' : ∀ e ∈ out ++ [(k, q2)], EdgeOk p m q1.1 e := by
      intro e h
      rcases List.mem_append.1 h with h | h
      · rw [ht]; exact (ho e h).more
      · rw [List.mem_singleton] at h; subst h
        exact ⟨g, hp0, hp1, hp2⟩
    obtain ⟨a1, a2, a3, ⟨u, a4⟩, t', a5, a6⟩ := edgesGo_law r q1 (out ++ [(k, q2)]) hs1 ho' he
    refine ⟨a1, by rw [a2]; simp, a3, ⟨(k, q2) :: u, by rw [a4]; simp⟩, t ++ t', by rw [a5, ht]; simp, fun i h1 h2 => ?_⟩
    by_cases hi : i < q1.1.length
    · refine ⟨(k, q2), by rw [a4]; simp, ?_⟩
      exact hti i h1 (by rw [← ht]; exact hi)
    · exact a6 i (by omega) (by rw [ht]; simpa using h2)
structure SpOk (p : LProc) (l : List (List Int)) (nx : List (List LEdge)) : Prop where
  le : nx.length ≤ l.length
  can : ∀ j, j < nx.length → (nx.getD j []).map Prod.fst = canE p (l.getD j [])
  ed : ∀ j, j < nx.length → ∀ e ∈ nx.getD j [], EdgeOk p (l.getD j []) l e
  fr : ∀ i : Nat, 1 ≤ i → i < l.length → ∃ j, j < i ∧ j < nx.length ∧ ∃ e ∈ nx.getD j [], e.2 = (i : Int)
theorem getDG_left {α : Type} {l t : List α} {j : Nat} {d : α} (h : j < l.length) : (l ++ t).getD j d = l.getD j d := by rw [List.getD_eq_getElem?_getD, List.getD_eq_getElem?_getD, List.getElem?_append_left h]
theorem getDG_last {α : Type} {l : List α} {x d : α} : (l ++ [x]).getD l.length d = x := by rw [List.getD_eq_getElem?_getD, List.getElem?_append_right (Nat.le_refl _)]; simp
theorem runGo_law {p : LProc} {tok st : Int} : ∀ (f n : Nat) (s : Sr) (nx : List (List LEdge)), f + n = 201 → st ≤ 200 → nx.length = n → SrOk p tok st s.1 → SpOk p s.1 nx → (runGo p tok st f n s nx).2.2 = 0 →
    SrOk p tok st (runGo p tok st f n s nx).1.1 ∧ SpOk p (runGo p tok st f n s nx).1.1 (runGo p tok st f n s nx).2.1 ∧ (runGo p tok st f n s nx).2.1.length = (runGo p tok st f n s nx).1.1.length ∧ ∃ t, (runGo p tok st f n s nx).1.1 = s.1 ++ t
  | 0, n, s, nx, hf, h200, hn, hs, hx, he => by have := hx.le; have := hs.st; omega
  | f + 1, n, s, nx, hf, h200, hn, hs, hx, he => by
    rw [runGo] at he ⊢
    by_cases hlt : n < s.1.length
    case neg =>
      rw [if_neg hlt] at he ⊢
      exact ⟨hs, hx, by have := hx.le; dsimp only; omega, [], by simp⟩
    rw [if_pos hlt] at he ⊢
    by_cases g1 : (edgesE p tok st n s).2.2 = 0
    case neg => rw [if_pos g1] at he; exact absurd he g1
    rw [if_neg (by simp [g1])] at he ⊢
    obtain ⟨a1, a2, a3, _, t, a5, a6⟩ := edgesGo_law (p := p) (tok := tok) (st := st) (n := (n : Int)) (m := s.1.getD n []) (canE p (s.1.getD n [])) s [] hs (fun e h => by cases h) g1
    change SrOk p tok st (edgesE p tok st n s).1.1 at a1
    change (edgesE p tok st n s).2.1.map Prod.fst = _ at a2
    change ∀ e ∈ (edgesE p tok st n s).2.1, EdgeOk p _ (edgesE p tok st n s).1.1 e at a3
    change (edgesE p tok st n s).1.1 = _ at a5
    change ∀ i : Nat, _ → _ → ∃ e ∈ (edgesE p tok st n s).2.1, _ at a6
    generalize edgesE p tok st n s = q at *
    obtain ⟨s', es, er⟩ := q
    dsimp only at *
    have hx' : SpOk p s'.1 (nx ++ [es]) := by
      have hle := hx.le
      refine ⟨by rw [a5]; simp; omega, fun j hj => ?_, fun j hj => ?_, fun i h1 h2 => ?_⟩
      · simp at hj
        by_cases e : j < nx.length
        · rw [getDG_left e, a5, getDG_left (by omega)]; exact hx.can j e
        · obtain rfl : j = nx.length := by omega
          rw [getDG_last, a2, a5, getDG_left (by omega), hn]; simp
      · simp at hj
        by_cases e : j < nx.length
        · rw [getDG_left e, a5, getDG_left (by omega)]; exact fun x h => (hx.ed j e x h).more
        · obtain rfl : j = nx.length := by omega
          rw [getDG_last, a5, getDG_left (by omega), hn, ← a5]; exact a3
      · by_cases e : i < s.1.length
        · obtain ⟨j, q1, q2, x, q3, q4⟩ := hx.fr i h1 e
          exact ⟨j, q1, by simp; omega, x, by rw [getDG_left q2]; exact q3, q4⟩
        · obtain ⟨x, q3, q4⟩ := a6 i (by omega) (by rw [← a5]; exact h2)
          exact ⟨nx.length, by omega, by simp, x, by rw [getDG_last]; exact q3, q4⟩
    obtain ⟨b1, b2, b3, t', b4⟩ := runGo_law f (n + 1) s' (nx ++ [es]) (by omega) h200 (by simp [hn]) a1 hx' he
    exact ⟨b1, b2, b3, t ++ t', by rw [b4, a5]; simp⟩
/-- what a space is -/
theorem explore_law {p : LProc} {tok st : Int} (h : (exploreE p tok st).2 = 0) :
    (stepsE p).2 = 0 ∧ SrOk p tok st (exploreE p tok st).1.1 ∧ SpOk p (exploreE p tok st).1.1 (exploreE p tok st).1.2 ∧ (exploreE p tok st).1.2.length = (exploreE p tok st).1.1.length ∧ 0 < (exploreE p tok st).1.1.length ∧ (exploreE p tok st).1.1.getD 0 [] = beginL p ∧ st ≤ 200 := by
  obtain ⟨hz, h1, h2, h3, hr, he⟩ := exploreE_ok h
  rw [he]
  dsimp only
  unfold runB at hr ⊢
  by_cases g1 : (putE tok st ([], [], (0, 0)) (beginL p) (-1, -1)).2.2 = 0
  case neg => rw [if_pos g1] at hr; exact absurd hr g1
  rw [if_neg (by simp [g1])] at hr ⊢
  have hs0 : SrOk p tok st ([] : List (List Int)) := ⟨List.Pairwise.nil, fun m h => (by cases h), fun m h => (by cases h), by simp; omega⟩
  obtain ⟨a1, ⟨t, a2, a2i⟩, a3, a4, a5⟩ := putE_law (s := ([], [], (0, 0))) hs0 (begin_ok (p := p)) g1
  have hd : (putE tok st ([], [], (0, 0)) (beginL p) (-1, -1)).1.1 = [beginL p] := by
    unfold putE at g1 ⊢
    by_cases q1 : tooMany tok (beginL p) = true
    · rw [if_pos q1] at g1; cases g1
    rw [if_neg q1, if_neg (by simp)] at g1 ⊢
    by_cases q2 : (([] : List (List Int)).length : Int) = st
    · rw [if_pos q2] at g1; cases g1
    rw [if_neg q2]; rfl
  generalize putE tok st ([], [], (0, 0)) (beginL p) (-1, -1) = q at *
  obtain ⟨b1, b2, b3, t', b4⟩ := runGo_law 201 0 q.1 [] rfl h3 rfl a1 ⟨by simp, fun j h => absurd h (by simp), fun j h => absurd h (by simp), fun i h1 h2 => by rw [hd] at h2; simp at h2; omega⟩ hr
  refine ⟨hz, b1, b2, b3, by rw [b4, hd]; simp, by rw [b4, hd]; simp, h3⟩
/-- a step of a walk is an edge -/
theorem space_step {p : LProc} {l : List (List Int)} {nx : List (List LEdge)} {at_ : Nat} {k : Int} {m m' : List Int} (hz : (stepsE p).2 = 0) (hx : SpOk p l nx) (ha : at_ < nx.length) (hm : l.getD at_ [] = m) (hok : MarkOk p m) (h : StepAt p m k m') :
    ∃ j, j < (nx.getD at_ []).length ∧ idxOf (fun e : LEdge => e.1 == k) (nx.getD at_ []) = (j : Int) ∧ 0 ≤ ((nx.getD at_ []).getD j (0, 0)).2 ∧ ((nx.getD at_ []).getD j (0, 0)).2 < l.length ∧ l.getD ((nx.getD at_ []).getD j (0, 0)).2.toNat [] = m' := by
  have hcm := markOk_chk hz hok
  have hc := hx.can at_ ha
  have he := hx.ed at_ ha
  rw [hm] at hc he
  generalize nx.getD at_ [] = es at *
  obtain ⟨h0, h1, h2, h3⟩ := h
  have hin : k ∈ canE p m := by
    unfold canE
    rw [if_pos hcm]
    have : k = ((k.toNat : Nat) : Int) := by omega
    rw [this]
    unfold canL canP
    rw [List.mem_map]
    exact ⟨k.toNat, List.mem_filter.2 ⟨List.mem_range.2 (by omega), h2⟩, rfl⟩
  rw [← hc, List.mem_map] at hin
  obtain ⟨e, hmem, hek⟩ := hin
  have hex : ∃ j, j < es.length ∧ idxOf (fun e : LEdge => e.1 == k) es = (j : Int) ∧ (es.getD j (0, 0)).1 = k := by
    unfold idxOf
    cases h : es.findIdx? (fun e : LEdge => e.1 == k) with
    | none =>
      have := List.findIdx?_eq_none_iff.1 h e hmem
      simp [hek] at this
    | some i =>
      obtain ⟨h1, h2, _⟩ := List.findIdx?_eq_some_iff_getElem.1 h
      refine ⟨i, h1, rfl, ?_⟩
      rw [List.getD_eq_getElem?_getD, List.getElem?_eq_getElem h1]
      simpa using h2
  obtain ⟨j, q1, q2, q3⟩ := hex
  have hmj : es.getD j (0, 0) ∈ es := by rw [List.getD_eq_getElem?_getD, List.getElem?_eq_getElem q1]; exact List.getElem_mem _
  obtain ⟨r1, r2, r3, r4⟩ := he _ hmj
  refine ⟨j, q1, q2, r2, r3, ?_⟩
  rw [r4, q3]
  unfold fireE
  rw [if_neg (by simp [hcm]), if_neg (by omega), if_neg (by rw [h2]; decide), h3]
  rfl
end Go.Proofs.Ytljcnopekjinjaa
/-
  Package sound: Look: walked.
-/
set_option linter.unusedVariables false
set_option linter.unusedSimpArgs false
namespace Go.Proofs.Ytljcnopekjinjaa
open Go.RowKit

instance iSnf0 : IsFd Try.prog 41 0 0 := IsFd.of (by kernel_rfl)
instance iSnf1 : IsFd Try.prog 41 1 1 := IsFd.of (by kernel_rfl)
instance iSnf2 : IsFd Try.prog 41 2 2 := IsFd.of (by kernel_rfl)
instance iSnf3 : IsFd Try.prog 41 3 3 := IsFd.of (by kernel_rfl)
instance iSnf4 : IsFd Try.prog 41 4 4 := IsFd.of (by kernel_rfl)
def endsP (ml : List (List Int)) (k : Nat) : List Int := ((List.range k).filter fun i => emptyB (ml.getD i [])).map fun i : Nat => (i : Int)
def endsL (ml : List (List Int)) : List Int := endsP ml ml.length
def stillAt (ml : List (List Int)) (nl : List (List LEdge)) (i : Nat) : Bool := decide ((nl.getD i []).length = 0) && !emptyB (ml.getD i [])
def stillB (ml : List (List Int)) (nl : List (List LEdge)) : List Bool := (List.range ml.length).map (stillAt ml nl)
noncomputable def neverB (ml : List (List Int)) (nl : List (List LEdge)) : List Bool := (rchB (turnL (grL nl)) (endsL ml)).map fun b => !b
structure LFinding where
  dead : List Int
  still : Int
  never : Int
  toStill : List Int
  toNever : List Int
noncomputable def findingL (p : LProc) (ml : List (List Int)) (nl : List (List LEdge)) : LFinding :=
  ⟨deadL p nl, (firstE nl (stillB ml nl)).1, (firstE nl (neverB ml nl)).1, (firstE nl (stillB ml nl)).2, (firstE nl (neverB ml nl)).2⟩
noncomputable def lookE (p : LProc) (tok st : Int) : LFinding × Int :=
  if (exploreE p tok st).2 ≠ 0 then (⟨[], 0, 0, [], []⟩, (exploreE p tok st).2) else (findingL p (exploreE p tok st).1.1 (exploreE p tok st).1.2, 0)
theorem endsP_next {ml : List (List Int)} {k : Nat} : endsP ml (k + 1) = endsP ml k ++ if emptyB (ml.getD k []) = true then [(k : Int)] else [] := by
  unfold endsP
  rw [List.range_succ, List.filter_append, List.map_append]
  congr 1
  by_cases h : emptyB (ml.getD k []) = true
  · rw [if_pos h, List.filter_cons_of_pos (p := fun i => emptyB (ml.getD i [])) h]; rfl
  · rw [if_neg h, List.filter_cons_of_neg (p := fun i => emptyB (ml.getD i [])) h]; rfl
theorem endsP_len {ml : List (List Int)} {k : Nat} : (endsP ml k).length ≤ k := by
  unfold endsP
  rw [List.length_map]
  exact Nat.le_trans (List.length_filter_le _ _) (by rw [List.length_range]; exact Nat.le_refl _)
theorem endsP_ok {ml : List (List Int)} {k : Nat} : okL k (endsP ml k) := by
  intro x hx
  unfold endsP at hx
  rw [List.mem_map] at hx
  obtain ⟨i, hi, rfl⟩ := hx
  have := List.mem_range.1 (List.mem_filter.1 hi).1
  omega
theorem grL_ok {p : LProc} {ml : List (List Int)} {nl : List (List LEdge)} (hs : SpOk p ml nl) (hl : nl.length = ml.length) : okG (grL nl) := by
  intro r hr x hx
  unfold grL at hr
  rw [List.mem_map] at hr
  obtain ⟨i, hi, rfl⟩ := hr
  have hi' := List.mem_range.1 hi
  unfold toRow at hx
  rw [List.mem_map] at hx
  obtain ⟨e, he, rfl⟩ := hx
  obtain ⟨_, h1, h2, _⟩ := hs.ed i hi' e he
  rw [grL_len]
  omega
theorem can_le {p : LProc} {m : List Int} (hl : (stepsL p).length ≤ 60) : (canE p m).length ≤ 60 := by
  unfold canE
  split
  · unfold canL canP
    rw [List.length_map]
    exact Nat.le_trans (List.length_filter_le _ _) (by rw [List.length_range]; exact hl)
  · simp
theorem sp_rows {p : LProc} {ml : List (List Int)} {nl : List (List LEdge)} (hs : SpOk p ml nl) (hl : (stepsL p).length ≤ 60) : ∀ r ∈ nl, r.length ≤ 60 := by
  intro r hr
  obtain ⟨i, hi, rfl⟩ := List.mem_iff_getElem.1 hr
  have h := hs.can i hi
  rw [getDE_at hi] at h
  have := congrArg List.length h
  rw [List.length_map] at this
  rw [this]; exact can_le hl
theorem can_in {p : LProc} {m : List Int} {k : Int} (h : k ∈ canE p m) : 0 ≤ k ∧ k < (stepsL p).length := by
  unfold canE at h
  split at h
  · unfold canL canP at h
    rw [List.mem_map] at h
    obtain ⟨i, hi, rfl⟩ := h
    have := List.mem_range.1 (List.mem_filter.1 hi).1
    omega
  · cases h
theorem sp_steps {p : LProc} {ml : List (List Int)} {nl : List (List LEdge)} (hs : SpOk p ml nl) : ∀ r ∈ nl, ∀ x ∈ r, 0 ≤ x.1 ∧ x.1 < (stepsL p).length := by
  intro r hr x hx
  obtain ⟨i, hi, rfl⟩ := List.mem_iff_getElem.1 hr
  have h := hs.can i hi
  rw [getDE_at hi] at h
  exact can_in (by rw [← h]; exact List.mem_map.2 ⟨x, hx, rfl⟩)
theorem edges_le {g : Graph} {n : Nat} (h : ∀ r ∈ g, r.length ≤ n) : edges g ≤ g.length * n := by
  unfold edges
  induction g with
  | nil => simp
  | cons r g ih =>
    have := ih (fun r hr => h r (by simp [hr]))
    have := h r (by simp)
    rw [List.map_cons, List.sum_cons, List.length_cons, Nat.add_mul]
    omega
theorem turn_edges {g : Graph} (h : g.length ≤ 200) : edges (turnL g) ≤ 200 * 201 := by
  have h1 := edges_le (g := turnL g) (n := 201) (fun r hr => by
    obtain ⟨i, hi, rfl⟩ := List.mem_iff_getElem.1 hr
    have e : (turnL g)[i] = trow g g.length 0 i := turnP_get hi
    rw [e]
    have := trow_len g g.length 0 i
    omega)
  rw [turnL_len] at h1
  have := Nat.mul_le_mul_right 201 h
  omega
end Go.Proofs.Ytljcnopekjinjaa
