import Derived.Test.YtikigaeihdmcaaaGreatDoorPtReportLines14
/-
  ltl.Parse, walked: copies.
-/
set_option linter.unusedVariables false
set_option linter.unusedSimpArgs false
namespace Go.Proofs.YtikigaeihdmcaaaGreatDoor
open Go.RowKit

mutual
/-- no more than two kids anywhere -/
def K2 : Ltl → Prop
  | .mk _ _ kids => kids.length ≤ 2 ∧ K2s kids
def K2s : List Ltl → Prop
  | [] => True
  | x :: r => K2 x ∧ K2s r
end
theorem K2s.get : ∀ (l : List Ltl), K2s l → ∀ (i : Nat) (h : i < l.length), K2 l[i]
  | x :: r, h, 0, _ => by simp only [K2s] at h; exact h.1
  | x :: r, h, i + 1, hi => by simp only [K2s] at h; exact K2s.get r h.2 i (by simpa using hi)
theorem k2_le {k n : Int} {kids : List Ltl} (h : K2 (.mk k n kids)) : kids.length ≤ 2 := by simp only [K2] at h; exact h.1
theorem k2_kid {k n : Int} {kids : List Ltl} (h : K2 (.mk k n kids)) {i : Nat} (hi : i < kids.length) : K2 kids[i] := by simp only [K2] at h; exact K2s.get kids h.2 i hi
theorem pfo_k2 (nms : List ByteArray) (N : Nat) : PFo nms N K2 := by
  refine ⟨fun st => ?_, by simp [K2, K2s], fun k f hk hf => by simp [K2, K2s, hf], fun k f g hk hf hg => by simp [K2, K2s, hf, hg]⟩
  unfold wordR
  split
  · simp [Res, K2, K2s]
  split
  · simp [Res, K2, K2s]
  split
  · simp [Res, K2, K2s]
  split
  · exact ⟨by decide, atT_le _ _⟩
  · simp [Res, K2, K2s]
theorem Grow.lowL {α : Type} [Rep α] {B B' : Nat} {e : TypeId} {w : World} {v : Value} {xs : List α} (h : Grow B e w v xs) (hB : B' ≤ B) : Grow B' e w v xs := by
  obtain ⟨F, h1, h2⟩ := h
  exact ⟨F, fun b hb => ⟨Nat.le_trans hB (h1 b hb).1, (h1 b hb).2⟩, h2.low hB⟩
theorem lcopyOf_ok : ∀ (m : Nat) (t : Ltl), t.nodes ≤ m → K2 t → ∀ (w : World) (F : Nat → Prop) (ao : Option Addr) (cap : Nat), Sl w F ao cap t.kids → (∀ b, F b → b < w.heap.size) →
    Rt Tryz.prog 124 [ltlV t.k t.n ao t.kids.length cap].toArray w fun v w' => (∃ kv, v = .agg [.int .i64 t.k, .int .i64 t.n, kv].toArray ∧ Grow w.heap.size 28 w' kv t.kids) ∧ Ext w w' := by
  intro m
  induction m with
  | zero => intro t h; have := t.nodes_pos; omega
  | succ m ih =>
    rintro ⟨k, n, kids⟩ hm hwf w F ao cap hs hF
    simp only [Ltl.k, Ltl.n, Ltl.kids] at hs ⊢
    have hkl := k2_le hwf
    refine Rt.enter1 Tryz.func124 Tryz.ntmps124 rfl rfl ?_
    (repeat (first | (apply CW.seq) | (apply CW.region)))
    refine WL.boxB rfl rfl rfl fun w1 hf hE1 => ?_
    refine WL.alloc rfl rfl (fun w2 hr hE2 => ?_)
    have hf := hf.ext hE2
    have hE12 := hE1.trans hE2
    have hz1 : w.heap.size ≤ w1.heap.size := hE1.size
    have hlf := hf.lt
    have hlr := hr.lt
    (repeat (first | (apply WL.nil) | (apply EX.thenN) | (apply CW.seq) | (apply CW.region) | (apply WL.fa; rfl; rfl; rfl) | (apply WL.ld; rfl; rfl; rfl; assumption; rfl)))
    refine WL.build rfl rfl rfl rfl ?_
    refine WL.alloc rfl rfl (fun w3 ho hE3 => ?_)
    refine WL.st rfl rfl rfl ho rfl rfl (ones_of rfl) (fun w4 ho4 hg4 => ?_)
    have e4 : Ext w2 w4 := hE3.grown hg4 hE3.size (fun g hg => by cases hg; exact Nat.le_refl _)
    have hf4 := hf.ext e4
    have hr4 := hr.ext e4
    have hE4 := hE12.trans e4
    have hlo := ho4.lt
    have hsz := hE12.size
    clear hf hr ho hg4 hE3 e4 hE12
    (repeat (first | (apply WL.pure; rfl; rfl; rfl) | (apply WL.nil) | (apply EX.thenN) | (apply CW.seq) | (apply CW.region) | (apply WL.lenS; rfl; rfl; rfl) | (apply WL.fa; rfl; rfl; rfl) | (apply WL.ld; rfl; rfl; rfl; assumption; rfl) | (apply CW.block)))
    refine CW.loop (S := Nat × Value) (fun x => [(1, .pointer (some ⟨w.heap.size, 0, none⟩)), (2, .pointer (some ⟨w1.heap.size, 0, none⟩)), (3, .pointer (some ⟨w2.heap.size, 0, none⟩)), (12, .slice ao kids.length cap), (13, .int .i64 kids.length), (14, .int .i64 x.1)])
      (fun x w' => x.1 ≤ kids.length ∧ Ext w w' ∧ w4.heap.size ≤ w'.heap.size ∧ Blk w' w.heap.size 28 [.int .i64 k, .int .i64 n, .slice ao kids.length cap] ∧ Blk w' w1.heap.size 28 [.int .i64 0, .int .i64 0, .slice none 0 0] ∧
        Blk w' w2.heap.size 28 [.int .i64 k, .int .i64 n, x.2] ∧ Grow w4.heap.size 28 w' x.2 (kids.take x.1)) (fun x => kids.length - x.1) (0, .slice none 0 0) (by repeat (first | exact trivial | refine ⟨rfl, ?_⟩)) ⟨by simp, hE4, Nat.le_refl _, hf4, hr4, ho4, by simpa using Grow.nil⟩ ?_
    rintro ⟨i, kv⟩ w5 ⟨hi, hE5, hsz5, hf5, hr5, ho5, hG5⟩
    dsimp only at hi hE5 hsz5 hf5 hr5 ho5 hG5 ⊢
    clear hf4 hr4 ho4
    (repeat (first | (apply WL.pure; rfl; rfl; rfl) | (apply WL.nil) | (apply EX.thenN) | (apply CW.seq) | (apply CW.region)))
    refine CW.cond rfl (fun h => ?_) (fun h => ?_)
    · have h : i < kids.length := by simpa using h
      (repeat (first | (apply EX.thenN) | (apply CW.seq) | (apply CW.region) | (apply CW.block) | (apply CW.skip)))
      refine WL.elemN rfl rfl rfl rfl rfl (hs.up0 hE5 hF) h (fun _ => rfl) (fun u q hu => ?_)
      obtain ⟨uo, uc, rfl, hku⟩ := Rd.ltl hu
      refine WL.alloc rfl rfl (fun w6 hx hE6 => ?_)
      refine WL.st rfl rfl rfl hx rfl rfl (ones_of rfl) (fun w7 hx7 hg7 => ?_)
      have e7 : Ext w5 w7 := hE6.grown hg7 hE6.size (fun g hg => by cases hg; exact Nat.le_refl _)
      have hE7 := hE5.trans e7
      have ed := Ext.drew w7
      have hd := hE7.trans ed
      have ho7 := (ho5.ext e7).ext ed
      have hxd := hx7.ext ed
      have hG7 := (hG5.ext e7).ext ed
      have hlx := hx7.lt
      have hz7 := e7.size
      have hKo : ∀ x, (fun x : World => x.heap[w2.heap.size]? = (drew w7).heap[w2.heap.size]? ∧ x.heap[w5.heap.size]? = (drew w7).heap[w5.heap.size]?) x → x.heap[w2.heap.size]? = (drew w7).heap[w2.heap.size]? := fun _ h => h.1
      have hKx : ∀ x, (fun x : World => x.heap[w2.heap.size]? = (drew w7).heap[w2.heap.size]? ∧ x.heap[w5.heap.size]? = (drew w7).heap[w5.heap.size]?) x → x.heap[w5.heap.size]? = (drew w7).heap[w5.heap.size]? := fun _ h => h.2
      (repeat (first | (apply WL.nil) | (apply EX.thenN)))
      refine CW.drawE (fun x : World => x.heap[w2.heap.size]? = (drew w7).heap[w2.heap.size]? ∧ x.heap[w5.heap.size]? = (drew w7).heap[w5.heap.size]?) [(0, true), (1, true), (2, true), (3, false), (4, false), (5, false), (6, true)] 7 mixed (by kernel_rfl) ⟨rfl, rfl⟩ ?_
      (repeat (first | (refine HL.fa rfl rfl rfl rfl ?_) | (refine HL.ldK (by assumption) rfl rfl rfl rfl (by assumption) rfl ?_)))
      refine HL.ldAK hKx rfl rfl rfl rfl hxd rfl ?_
      skip
      have hFd : ∀ b, F b → b < (drew w7).heap.size := fun b hb => Nat.lt_of_lt_of_le (hF b hb) hd.size
      have hku' : Sl (drew w7) F uo uc (kids[i]).kids := hku.up0 (e7.trans ed) (fun b hb => Nat.lt_of_lt_of_le (hF b hb) hE5.size)
      refine HL.mut rfl (WL.call rfl rfl rfl (ih kids[i] (nodes_kid' hm h) (k2_kid hwf h) (drew w7) F uo uc hku' hFd) ?_)
      rintro v w8 ⟨⟨kv8, rfl, hK8⟩, e8⟩
      obtain ⟨ko, kc, rfl, hks⟩ := hK8.sl
      have hv : Rd w8 (Nw (drew w7) w8) (ltlV (kids[i]).k (kids[i]).n ko (kids[i]).kids.length kc) kids[i] := by
        have := Rd.mkLtl (k := (kids[i]).k) (n := (kids[i]).n) hks
        rwa [show Ltl.mk (kids[i]).k (kids[i]).n (kids[i]).kids = kids[i] by cases kids[i]; rfl] at this
      have ho8 := ho7.ext e8
      have hG8 := hG7.ext e8
      have hsz8 : w7.heap.size ≤ w8.heap.size := e8.size
      refine WL.nil (EX.mut ⟨e8.block _ ho7.lt, e8.block _ hlx⟩ ?_)
      have hgl := hG7.lt
      obtain ⟨F', hF', hO, hsub⟩ := hG8.open (Fu := Nw (drew w7) w8) (fun b hb => ⟨Nat.le_trans hsz5 (Nat.le_trans hz7 hb.1), hb.2⟩) (fun g hg hb => by have := (hgl g hg).2; have := hb.1; omega)
      have hnl : (kids.take i).length = i := by rw [List.length_take]; omega
      have hgl5 := hG5.lt
      refine HL.app1 (bytes := 40) (F := F') rfl rfl rfl rfl (fun _ => rfl) rfl rfl (fun _ => rfl) hO (hv.wk hsub) (by omega) (fun b hb => (hF' b hb).2) (by decide) (by rw [hnl]; unfold maxLen; omega) (by rw [hnl]; omega)
        (fun w' hg' => ⟨(hg'.block _ ho8.lt (fun e => ?_)).trans (e8.block _ ho7.lt), (hg'.block _ (by omega) (fun e => ?_)).trans (e8.block _ hlx)⟩) (fun cV w9 q2 hO9 hg9 hnb => ?_)
      · have := (hgl5 _ e.symm).1; omega
      · have := (hgl5 _ e.symm).2; omega
      have hG9 : Grow w4.heap.size 28 w9 cV (kids.take i ++ [kids[i]]) := ⟨F', fun b hb => ⟨(hF' b hb).1, Nat.lt_of_lt_of_le (hF' b hb).2 hg9.size⟩, hO9⟩
      rw [show kids.take i ++ [kids[i]] = kids.take (i + 1) by rw [List.take_succ_eq_append_getElem h]] at hG9
      obtain ⟨co, cc, rfl, _⟩ := hG9.sl
      have hnr : ∀ r, r < w4.heap.size → some r ≠ kv.ownBlock := fun r hr e => by have := (hgl5 _ e.symm).1; omega
      have ho9 := ho8.kept hg9 (hnr _ (by omega))
      have hf9 := ((((hf5.ext e7).ext ed).ext e8)).kept hg9 (hnr _ (by omega))
      have hr9 := ((((hr5.ext e7).ext ed).ext e8)).kept hg9 (hnr _ (by omega))
      have hE8 := hd.trans e8
      have hE9 : Ext w w9 := hE8.grown hg9 hE8.size (fun g hg => by have := (hgl5 g hg).1; omega)
      (repeat (first | (refine HL.fa rfl rfl rfl rfl ?_) | (apply HL.nil)))
      refine EX.tail rfl (WL.st rfl rfl rfl ho9 rfl rfl (ones_of rfl) (fun w10 ho10 hg10 => WL.nil (EX.tailE ?_)))
      have hE10 : Ext w w10 := hE9.grown hg10 hE9.size (fun g hg => by cases hg; omega)
      have hsz9 := hg9.size
      have hsz10 := hg10.size
      (repeat (first | (apply WL.add; rfl; rfl; rfl; rfl; omega; omega) | (apply WL.pure; rfl; rfl; rfl) | (apply WL.nil) | (apply EX.thenN) | (apply CW.region) | (apply EX.inN)))
      exact EX.back (i + 1, .slice co (kids.take (i + 1)).length cc) (by repeat (first | exact trivial | refine ⟨rfl, ?_⟩)) ⟨h, hE10, by omega, hf9.kept hg10 (fun e => by have := Option.some.inj e; omega), hr9.kept hg10 (fun e => by have := Option.some.inj e; omega), ho10, hG9.kept hg10 (by omega)⟩ (by dsimp only; omega)
    · have h : ¬ i < kids.length := by simpa using h
      have hik : i = kids.length := by omega
      subst hik
      rw [List.take_length] at hG5
      obtain ⟨co, cc, rfl, hsl⟩ := hG5.sl
      (repeat (first | (apply EX.thenN) | (apply CW.seq) | (apply CW.region) | (apply WL.ldA; rfl; rfl; rfl; assumption; rfl) | (apply CW.exit) | (apply EX.thenX) | (apply EX.inX)))
      refine WL.st rfl rfl rfl hr5 rfl rfl (ones_of rfl) (fun w6 hr6 hg6 => ?_)
      have hG6 := hG5.kept hg6 (by omega)
      (repeat (first | (apply WL.nil) | (apply EX.thenN) | (apply CW.ret)))
      exact EX.retC rfl rfl hr6 rfl ⟨⟨_, rfl, Grow.lowL hG6 (by omega)⟩, hE5.grown hg6 hE5.size (fun g hg => by cases hg; omega)⟩
end Go.Proofs.YtikigaeihdmcaaaGreatDoor

/-
  ltl.Parse, walked: ways.
-/
set_option linter.unusedVariables false
set_option linter.unusedSimpArgs false
namespace Go.Proofs.YtikigaeihdmcaaaGreatDoor
open Go.RowKit

set_option maxHeartbeats 2000000 in
theorem lway_ok {rb : Nat} {s : Bys} {no : Option Addr} {nc : Nat} {nms : List ByteArray} {n o : Nat} {st : Bys × Bys} (w0 : World) (hr : Rdr 125 w0 rb s no nc nms o st) (hs : s.length ≤ 300) {sa : Nat → Addr} (hSn : SenH w0 sa) (hBn : 3 < rb ∧ ∀ i, i < 3 → (sa i).block < rb) (ho : o ≤ 20) (hS : SinL sa rb s no nc nms n) (hW : WayOK sa rb s no nc nms n) (hn : 10 * mT st + 2 ≤ n + 1) :
    Rt Tryz.prog 114 [.pointer (some ⟨rb, 0, none⟩)].toArray w0 fun v w' => PRl 125 rb s no nc nms o w0.heap.size (pWay nms s.length (n + 1) o st) v w' ∧ w0.grownBy w' (some rb) := by
  have hrl := hr.lt
  refine Rt.enter1 Tryz.func114 Tryz.ntmps114 rfl rfl ?_
  rw [pWay]
  (repeat (first | (apply CW.seq) | (apply CW.region)))
  refine WL.alloc rfl rfl (fun w1 hb2 e1 => ?_)
  have l2 := hb2.lt
  have hr1 := hr.ext e1
  (repeat (first | (apply WL.pure; rfl; rfl; rfl) | (apply WL.nil) | (apply EX.thenN) | (apply CW.seq) | (apply CW.region)))
  refine WL.call rfl rfl rfl (hS n (Nat.le_refl _) o st w1 hr1 (hSn.kept (e1.grw none) (fun b e => by cases e) hBn) ho (by omega)) ?_
  rintro _ w2 ⟨⟨x, e, t, st1, rfl, hx, hr2, hE2⟩, hg2⟩
  have hmm : ∀ f st', pSin nms s.length n o st = .ok f st' → mT st' ≤ mT st := fun f st' h => (l_mono nms s.length n).2.2.2.2.2 _ _ _ _ h
  generalize pSin nms s.length n o st = r1 at *
  have hb2 := hb2.kept hg2 (fun e => by have := Option.some.inj e; omega)
  have hG := grown_tr (e1.grw (some rb)) hg2
  have hx : GX w0.heap.size [w0.heap.size] w2 x t := GX.of hx (Nat.le_of_lt l2) (fun r hr => by rw [List.mem_singleton.1 hr]; exact l2)
  have hE2 := hE2.low (B' := w0.heap.size) (Nat.le_of_lt l2)
  have z2 := hg2.size
  obtain ⟨uo, uc, rfl, hk⟩ := Rd.ltl hx
  (repeat (apply WL.pure; rfl; rfl; rfl))
  refine WL.alloc rfl rfl (fun w3 hb4 e3 => ?_)
  have hx := hx.add e3 (Nat.le_refl _)
  have hb2 := hb2.ext e3
  have hr3 := hr2.ext e3
  have hE3 := hE2.ext e3
  have hG := grown_tr hG (e3.grw (some rb))
  have l4 := hb4.lt
  have h24 : w0.heap.size < w2.heap.size := by omega
  generalize hB4 : w2.heap.size = b4 at *
  skip
  refine WL.st rfl rfl rfl hb4 rfl rfl (ones_of rfl) (fun w4 hb44 hg4 => ?_)
  have hx := hx.st hg4 (.inr (List.mem_cons_self ..))
  have hH := HF.of hb44 hx
  have hb2 := hb2.kept hg4 (fun e => by have := Option.some.inj e; omega)
  have hr4 := hr3.kept hg4 (fun b e => by cases e; omega)
  have hE4 := hE3.stT hg4 hb4 (by decide)
  have hG := grown_new hG hg4 (by omega)
  clear hb4 hb44 hg4 hx hr3 hr2 hr1 hE2 hE3 hk e3 hg2 hr
  have he := hE4.err
  (repeat (first | (apply WL.pure; rfl; rfl; rfl) | (apply WL.nil) | (apply EX.thenN) | (apply CW.seq) | (apply CW.region)))
  refine WL.neNil rfl rfl rfl he ?_
  rcases hE4 with ⟨rfl, rfl⟩ | ⟨c, a, rfl, hFl⟩
  rotate_left
  · rw [hFl.err.2]
    obtain ⟨vo, vc, hb4, hy⟩ := hH.gx
    (repeat (first | (apply WL.pure; rfl; rfl; rfl) | (apply WL.nil) | (apply EX.thenN) | (apply CW.seq) | (apply CW.region) | (apply WL.ldA; rfl; rfl; rfl; assumption; rfl) | (apply CW.condT; rfl)))
    refine WL.st rfl rfl rfl hb2 rfl rfl (ones_of rfl) (fun w8 hb8 hg8 => ?_)
    (repeat (first | (apply WL.pure; rfl; rfl; rfl) | (apply WL.nil) | (apply EX.thenN) | (apply CW.ret) | (apply EX.thenR)))
    exact EX.retC2 rfl rfl rfl hb8 rfl ⟨⟨_, _, t, st1, rfl, (hy.st hg8 (.inr (by simp))).gl, hr4.kept hg8 (fun b e => by cases e; omega), .inr ⟨_, _, rfl, hFl.stT hg8 hb2 (by decide)⟩⟩, grown_new hG hg8 (Nat.le_refl _)⟩
  rw [show (!nilI Value.nilIface) = false from rfl]
  have hmm := hmm _ _ rfl
  have hrb := hr4.blk
  dsimp only
  (repeat (first | (apply WL.pure; rfl; rfl; rfl) | (apply WL.nil) | (apply EX.thenN) | (apply CW.skip) | (apply CW.condF; rfl)))
  apply CW.seq
  apply CW.region
  (repeat (first | (apply WL.pure; rfl; rfl; rfl) | (apply WL.fa; rfl; rfl; rfl) | (apply WL.nck; rfl; rfl; rfl) | (apply WL.ld; rfl; rfl; rfl; assumption; rfl)))
  apply WL.nil
  apply EX.thenN
  apply CW.seq
  refine CW.cut [(0, .pointer (some ⟨rb, 0, none⟩)), (2, .pointer (some ⟨w0.heap.size, 0, none⟩)), (4, .pointer (some ⟨b4, 0, none⟩)), (6, tV st1.1), (31, .bool (decide (¬ (st1.1 = [85] ∨ st1.1 = [82] ∨ st1.1 = [87]))))] ?_ ?_
  · (repeat (first | (apply WL.pure; rfl; rfl; rfl) | (apply CW.region)))
    rw [show ((txA st1.1).data.toList == (ByteArray.mk #[85]).data.toList) = decide (st1.1 = [85]) from txA_eqd _ _]
    by_cases h85 : st1.1 = [85]
    · rw [decide_eq_true h85]
      (repeat (first | (apply WL.pure; rfl; rfl; rfl) | (apply WL.nil) | (apply WL.pass; rfl; rfl)))
      exact EX.cut ⟨rfl, rfl, rfl, rfl, congrArg (fun b => some (Value.bool b)) (show false = _ from (decide_eq_false (fun h => h (Or.inl h85))).symm), trivial⟩
    rw [decide_eq_false h85]
    (repeat (apply WL.pure; rfl; rfl; rfl))
    rw [show ((txA st1.1).data.toList == (ByteArray.mk #[82]).data.toList) = decide (st1.1 = [82]) from txA_eqd _ _]
    by_cases h82 : st1.1 = [82]
    · rw [decide_eq_true h82]
      (repeat (first | (apply WL.pure; rfl; rfl; rfl) | (apply WL.nil) | (apply WL.pass; rfl; rfl)))
      exact EX.cut ⟨rfl, rfl, rfl, rfl, congrArg (fun b => some (Value.bool b)) (show false = _ from (decide_eq_false (fun h => h (Or.inr (Or.inl h82)))).symm), trivial⟩
    rw [decide_eq_false h82]
    (repeat (first | (apply WL.pure; rfl; rfl; rfl) | (apply WL.nil)))
    rw [show ((txA st1.1).data.toList == (ByteArray.mk #[87]).data.toList) = decide (st1.1 = [87]) from txA_eqd _ _]
    skip
    refine EX.cut ⟨rfl, rfl, rfl, rfl, ?_, trivial⟩
    refine congrArg (fun b => some (Value.bool b)) ?_
    rw [Bool.eq_iff_iff]
    simp [h85, h82]
  refine CW.cond rfl (fun h => ?_) (fun h => ?_)
  · rw [if_neg (of_decide_eq_true h)]
    obtain ⟨vo, vc, hb4, hy⟩ := hH.gx
    (repeat (first | (apply CW.seq) | (apply CW.region) | (apply WL.ldA; rfl; rfl; rfl; assumption; rfl)))
    refine WL.st rfl rfl rfl hb2 rfl rfl (ones_of rfl) (fun w8 hb8 hg8 => ?_)
    (repeat (first | (apply WL.pure; rfl; rfl; rfl) | (apply WL.nil) | (apply EX.thenN) | (apply CW.ret) | (apply EX.thenR)))
    exact EX.retC2 rfl rfl rfl hb8 rfl ⟨⟨_, _, t, st1, rfl, (hy.st hg8 (.inr (by simp))).gl, hr4.kept hg8 (fun b e => by cases e; omega), .inl ⟨rfl, rfl⟩⟩, grown_new hG hg8 (Nat.le_refl _)⟩
  have hc : st1.1 = [85] ∨ st1.1 = [82] ∨ st1.1 = [87] := Decidable.not_not.1 (of_decide_eq_false h)
  rw [if_pos hc]
  clear h
  have hm1 := mT_nx1 (st := st1) (by rcases hc with h | h | h <;> (rw [h]; decide))
  (repeat (first | (apply WL.pure; rfl; rfl; rfl) | (apply EX.thenN) | (apply CW.seq) | (apply CW.region) | (apply CW.skip)))
  refine WL.call rfl rfl rfl (lnext_ok w4 hr4 hs) ?_
  rintro _ w5 ⟨hr5, hg5⟩
  have l24 := hb2.lt
  have l44 := hH.lt
  have hb2 := hb2.kept hg5 (fun e => by have := Option.some.inj e; omega)
  have hH := hH.st hg5 (.inl hrl) (by omega)
  have hG := grown_tr hG hg5
  have z5 := hg5.size
  (repeat (first | (apply WL.pure; rfl; rfl; rfl) | (apply WL.nil) | (apply EX.thenN) | (apply CW.seq) | (apply CW.region)))
  refine WL.call rfl rfl rfl (hW n (Nat.le_refl _) o _ w5 hr5 (hSn.kept hG (fun b e => by cases e; exact Nat.le_refl _) hBn) ho (by omega)) ?_
  rintro _ w6 ⟨⟨x, e, g, st2, rfl, hx, hr6, hE6⟩, hg6⟩
  have hk2 : ∀ f st', pWay nms s.length n o (nxT st1.2) = .ok f st' → K2 f := fun f st' h => by
    have := (p_ind (pfo_k2 nms s.length) n).2.2.2.2.1 o (nxT st1.2)
    rw [h] at this; exact this
  generalize pWay nms s.length n o (nxT st1.2) = r2 at *
  have hb2 := hb2.kept hg6 (fun e => by have := Option.some.inj e; omega)
  have hH := hH.st hg6 (.inl hrl) (by omega)
  have hG := grown_tr hG hg6
  have hx : GX w0.heap.size [b4, w0.heap.size] w6 x g := GX.of hx (by omega) (fun r hr => by
    simp only [List.mem_cons, List.not_mem_nil, or_false] at hr
    rcases hr with rfl | rfl <;> omega)
  have hE6 := hE6.low (B' := w0.heap.size) (by omega)
  have z6 := hg6.size
  obtain ⟨uo, uc, rfl, hk⟩ := Rd.ltl hx
  (repeat (apply WL.pure; rfl; rfl; rfl))
  refine WL.alloc rfl rfl (fun w7 hb7 e7 => ?_)
  have hx := hx.add e7 (Nat.le_refl _)
  have hH := hH.add e7 (Nat.le_refl _)
  have hb2 := hb2.ext e7
  have hr7 := hr6.ext e7
  have hE7 := hE6.ext e7
  have hG := grown_tr hG (e7.grw (some rb))
  have l7 := hb7.lt
  have h27 : w0.heap.size < w6.heap.size := by omega
  have h47 : b4 < w6.heap.size := by omega
  generalize hB7 : w6.heap.size = b7 at *
  skip
  refine WL.st rfl rfl rfl hb7 rfl rfl (ones_of rfl) (fun w8 hb78 hg8 => ?_)
  have hx := hx.st hg8 (.inr (List.mem_cons_self ..))
  have hK := HF.of hb78 hx
  have hH := hH.st hg8 (.inr (List.mem_cons_self ..)) (by omega)
  have hb2 := hb2.kept hg8 (fun e => by have := Option.some.inj e; omega)
  have hr8 := hr7.kept hg8 (fun b e => by cases e; omega)
  have hE8 := hE7.stT hg8 hb7 (by decide)
  have hG := grown_new hG hg8 (by omega)
  clear hb7 hb78 hg8 hx hr7 hr6 hr5 hr4 hrb hE6 hE7 hk e7 hg6 hg5
  have he := hE8.err
  obtain ⟨vo, vc, hb4, hy⟩ := hH.gx
  (repeat (first | (apply WL.pure; rfl; rfl; rfl) | (apply WL.nil) | (apply EX.thenN) | (apply CW.seq) | (apply CW.region)))
  refine WL.neNil rfl rfl rfl he ?_
  rcases hE8 with ⟨rfl, rfl⟩ | ⟨c, a, rfl, hFl⟩
  rotate_left
  · rw [hFl.err.2]
    (repeat (first | (apply WL.pure; rfl; rfl; rfl) | (apply WL.nil) | (apply EX.thenN) | (apply CW.seq) | (apply CW.region) | (apply WL.ldA; rfl; rfl; rfl; assumption; rfl) | (apply CW.condT; rfl)))
    refine WL.st rfl rfl rfl hb2 rfl rfl (ones_of rfl) (fun w9 hb9 hg9 => ?_)
    (repeat (first | (apply WL.pure; rfl; rfl; rfl) | (apply WL.nil) | (apply EX.thenN) | (apply CW.ret) | (apply EX.thenR)))
    exact EX.retC2 rfl rfl rfl hb9 rfl ⟨⟨_, _, t, st2, rfl, (hy.st hg9 (.inr (by simp))).gl, hr8.kept hg9 (fun b e => by cases e; omega), .inr ⟨_, _, rfl, hFl.stT hg9 hb2 (by decide)⟩⟩, grown_new hG hg9 (Nat.le_refl _)⟩
  rw [show (!nilI Value.nilIface) = false from rfl]
  have hk2 := hk2 _ _ rfl
  obtain ⟨xo, xc, hb7, hz⟩ := hK.gx
  have l27 := hb2.lt
  have l77 := hb7.lt
  dsimp only
  (repeat (first | (apply WL.pure; rfl; rfl; rfl) | (apply WL.nil) | (apply EX.thenN) | (apply CW.seq) | (apply CW.region) | (apply CW.block) | (apply CW.condF; rfl) | (apply CW.skip)))
  rw [show ((txA st1.1).data.toList == (ByteArray.mk #[85]).data.toList) = decide (st1.1 = [85]) from txA_eqd _ _]
  refine CW.cond rfl (fun h => ?_) (fun h => ?_)
  · have h1 : st1.1 = [85] := of_decide_eq_true h
    (repeat (first | (apply CW.seq) | (apply CW.region) | (apply WL.ldA; rfl; rfl; rfl; assumption; rfl)))
    refine WL.call rfl rfl rfl (ltwo_ok w8 (F := GXs w0.heap.size [b7, b4, w0.heap.size] w8) (fun b hb => hb.2.1) 8 hy hz) ?_
    rintro _ w11 ⟨hv, e11⟩
    have hv : GX w0.heap.size [b7, b4, w0.heap.size] w11 _ (.mk 8 0 [t, g]) := GX.plus hv e11 (by omega) (fun r hr => by
      simp only [List.mem_cons, List.not_mem_nil, or_false] at hr
      rcases hr with rfl | rfl | rfl <;> omega)
    obtain ⟨uo', uc', rfl, hk'⟩ := Rd.ltl hv
    have hb2 := hb2.ext e11
    have hr11 := hr8.ext e11
    have hG := grown_tr hG (e11.grw (some rb))
    skip
    refine WL.st rfl rfl rfl hb2 rfl rfl (ones_of rfl) (fun w12 hb212 hg12 => ?_)
    (repeat (first | (apply WL.pure; rfl; rfl; rfl) | (apply WL.nil) | (apply EX.thenN) | (apply CW.ret) | (apply EX.thenR) | (apply EX.inR)))
    exact EX.retC2 rfl rfl rfl hb212 rfl ⟨⟨_, _, _, st2, rfl, (hv.st hg12 (.inr (by simp))).gl, hr11.kept hg12 (fun b e => by cases e; omega), .inl ⟨rfl, by rw [show wayT st1.1 t g = .mk 8 0 [t, g] by unfold wayT; rw [if_pos h1]]⟩⟩, grown_new hG hg12 (Nat.le_refl _)⟩
  have n85 : ¬ st1.1 = [85] := of_decide_eq_false h
  clear h
  (repeat (first | (apply WL.pure; rfl; rfl; rfl) | (apply WL.nil) | (apply EX.thenN) | (apply CW.seq) | (apply CW.region)))
  rw [show ((txA st1.1).data.toList == (ByteArray.mk #[82]).data.toList) = decide (st1.1 = [82]) from txA_eqd _ _]
  refine CW.cond rfl (fun h => ?_) (fun h => ?_)
  · have h1 : st1.1 = [82] := of_decide_eq_true h
    (repeat (first | (apply CW.seq) | (apply CW.region) | (apply WL.ldA; rfl; rfl; rfl; assumption; rfl)))
    refine WL.call rfl rfl rfl (ltwo_ok w8 (F := GXs w0.heap.size [b7, b4, w0.heap.size] w8) (fun b hb => hb.2.1) 9 hy hz) ?_
    rintro _ w11 ⟨hv, e11⟩
    have hv : GX w0.heap.size [b7, b4, w0.heap.size] w11 _ (.mk 9 0 [t, g]) := GX.plus hv e11 (by omega) (fun r hr => by
      simp only [List.mem_cons, List.not_mem_nil, or_false] at hr
      rcases hr with rfl | rfl | rfl <;> omega)
    obtain ⟨uo', uc', rfl, hk'⟩ := Rd.ltl hv
    have hb2 := hb2.ext e11
    have hr11 := hr8.ext e11
    have hG := grown_tr hG (e11.grw (some rb))
    skip
    refine WL.st rfl rfl rfl hb2 rfl rfl (ones_of rfl) (fun w12 hb212 hg12 => ?_)
    (repeat (first | (apply WL.pure; rfl; rfl; rfl) | (apply WL.nil) | (apply EX.thenN) | (apply CW.ret) | (apply EX.thenR) | (apply EX.inR)))
    exact EX.retC2 rfl rfl rfl hb212 rfl ⟨⟨_, _, _, st2, rfl, (hv.st hg12 (.inr (by simp))).gl, hr11.kept hg12 (fun b e => by cases e; omega), .inl ⟨rfl, by rw [show wayT st1.1 t g = .mk 9 0 [t, g] by unfold wayT; rw [if_neg n85]; rw [if_pos h1]]⟩⟩, grown_new hG hg12 (Nat.le_refl _)⟩
  have n82 : ¬ st1.1 = [82] := of_decide_eq_false h
  clear h
  (repeat (first | (apply EX.thenN) | (apply CW.seq) | (apply CW.region) | (apply EX.inN) | (apply CW.skip)))
  refine WL.build rfl rfl rfl rfl ?_
  refine WL.alloc rfl rfl (fun w9 hb8 e9 => ?_)
  have hH := (HF.of hb4 hy).add e9 (Nat.le_refl _)
  have hK := (HF.of hb7 hz).add e9 (Nat.le_refl _)
  have hb2 := hb2.ext e9
  have hr9 := hr8.ext e9
  have hG := grown_tr hG (e9.grw (some rb))
  have l8 := hb8.lt
  have h8a : w0.heap.size < w8.heap.size := by omega
  have h8b : b4 < w8.heap.size := by have := hb4.lt; omega
  have h8c : b7 < w8.heap.size := by omega
  clear hy hz hb4 hb7 hr8
  generalize hB8 : w8.heap.size = b8 at *
  skip
  refine WL.st rfl rfl rfl hb8 rfl rfl (ones_of rfl) (fun w10 hb810 hg10 => ?_)
  have hH := hH.st hg10 (.inr (List.mem_cons_self ..)) (by omega)
  have hK := hK.st hg10 (.inr (List.mem_cons_self ..)) (by omega)
  have hb2 := hb2.kept hg10 (fun e => by have := Option.some.inj e; omega)
  have hr10 := hr9.kept hg10 (fun b e => by cases e; omega)
  have hG := grown_new hG hg10 (by omega)
  have hM : HF 28 w10 b8 w0.heap.size [b8, b7, b4, w0.heap.size] (.mk 1 0 []) := HF.of hb810 (Rd.mkLtl (kids := []) (Sl.zero _ _))
  clear hb8 hb810 hg10 hr9
  have l10 := hM.lt
  (repeat (first | (apply WL.pure; rfl; rfl; rfl) | (apply WL.nil) | (apply EX.thenN)))
  refine CW.cutI (S := Ltl) (fun _ => [(2, .pointer (some ⟨w0.heap.size, 0, none⟩)), (4, .pointer (some ⟨b4, 0, none⟩)), (7, .pointer (some ⟨b7, 0, none⟩)), (8, .pointer (some ⟨b8, 0, none⟩))])
    (fun h w => w0.grownBy w (some rb) ∧ Blk w w0.heap.size 28 [.int .i64 0, .int .i64 0, .slice none 0 0] ∧ Rdr 125 w rb s no nc nms o st2 ∧ HF 28 w b4 w0.heap.size [b8, b7, b4, w0.heap.size] t ∧ HF 28 w b7 w0.heap.size [b8, b7, b4, w0.heap.size] g ∧
      HF 28 w b8 w0.heap.size [b8, b7, b4, w0.heap.size] h ∧ h = (if szF g 0 ≤ 60 then g else .mk 1 0 [])) ?_ ?_
  · obtain ⟨xo, xc, hb7, hsl⟩ := id hK
    have hFX : ∀ b, GXs w0.heap.size [b8, b7, b4, w0.heap.size] w10 b → b < w10.heap.size := fun b hb => hb.2.1
    have hb8 := hM.lt
    (repeat (first | (apply CW.seq) | (apply CW.region) | (apply WL.ldA; rfl; rfl; rfl; assumption; rfl)))
    refine WL.call rfl rfl rfl (lsize_ok g.nodes g (Nat.le_refl _) w10 _ xo xc 0 hsl hFX (by decide) (by decide)) ?_
    rintro _ w11 ⟨rfl, e11⟩
    have hb7 := hb7.ext e11
    (repeat (first | (apply WL.pure; rfl; rfl; rfl) | (apply WL.nil) | (apply EX.thenN)))
    refine CW.cond rfl (fun h => ?_) (fun h => ?_)
    · have h60 : szF g 0 ≤ 60 := of_decide_eq_true h
      (repeat (first | (apply CW.region) | (apply WL.ldA; rfl; rfl; rfl; assumption; rfl)))
      refine WL.call rfl rfl rfl (lcopyOf_ok g.nodes g (Nat.le_refl _) hk2 w11 _ xo xc (hsl.up0 e11 hFX) (fun b hb => Nat.lt_of_lt_of_le (hFX b hb) e11.size)) ?_
      rintro _ w12 ⟨⟨kv, rfl, F', hF', hO⟩, e12⟩
      obtain ⟨ko, kc, rfl, hks⟩ := hO.slF (F' := fun b => w11.heap.size ≤ b ∧ b < w12.heap.size) (fun b hb => hF' b hb) (fun x hx => ⟨(hO.lt x hx).1, (hO.lt x hx).2.1⟩)
      have hz11 := e11.size
      have e1012 := e11.trans e12
      have hb2 := hb2.ext e1012
      have hr12 := hr10.ext e1012
      have hH := hH.ext e1012
      have hK := hK.ext e1012
      have hG := grown_tr hG (e1012.grw (some rb))
      have hgg : GL w11.heap.size w12 (ltlV g.k g.n ko g.kids.length kc) g := by
        cases g with
        | mk k n kids => exact Rd.mkLtl hks
      have hgx : GX w0.heap.size [b8, b7, b4, w0.heap.size] w12 (ltlV g.k g.n ko g.kids.length kc) g := GX.of hgg (by omega) (fun r hr => by
        simp only [List.mem_cons, List.not_mem_nil, or_false] at hr
        rcases hr with rfl | rfl | rfl | rfl <;> omega)
      obtain ⟨yo, yc, hb8', _⟩ := hM.ext e1012
      skip
      refine WL.st rfl rfl rfl hb8' rfl rfl (ones_of rfl) (fun w13 hb813 hg13 => ?_)
      (repeat (apply WL.nil))
      exact EX.cutI g (by repeat (first | exact trivial | refine ⟨rfl, ?_⟩)) ⟨grown_new hG hg13 (by omega), hb2.kept hg13 (fun e => by have := Option.some.inj e; omega), hr12.kept hg13 (fun b e => by cases e; omega), hH.st hg13 (.inr (by simp)) (by omega), hK.st hg13 (.inr (by simp)) (by omega), HF.of hb813 (hgx.st hg13 (.inr (by simp))), (if_pos h60).symm⟩
    · have h60 : ¬ szF g 0 ≤ 60 := of_decide_eq_false h
      (repeat (apply CW.skip))
      exact EX.cutI _ (by repeat (first | exact trivial | refine ⟨rfl, ?_⟩)) ⟨grown_tr hG (e11.grw _), hb2.ext e11, hr10.ext e11, hH.ext e11, hK.ext e11, hM.ext e11, (if_neg h60).symm⟩
  clear hG hb2 hr10 hH hK hM
  rintro h w11 ⟨hG, hb2, hr11, hH, hK, hM, hh⟩
  have hD := Ext.drew w11
  have hb2 := hb2.ext hD
  have hr12 := hr11.ext hD
  have hG := grown_tr hG (hD.grw _)
  obtain ⟨vo, vc, hb4, hy⟩ := (hH.ext hD).gx
  obtain ⟨xo, xc, hb7, hz⟩ := (hK.ext hD).gx
  obtain ⟨mo, mc, hb8, hm⟩ := (hM.ext hD).gx
  have l2d := hb2.lt
  have l4d := hb4.lt
  have l7d := hb7.lt
  have l8d := hb8.lt
  have hXX : ∀ w, Ext (drew w11) w → w0.heap.size ≤ w.heap.size ∧ ∀ r ∈ [b8, b7, b4, w0.heap.size], r < w.heap.size := fun w hw => by
    have := hw.size
    refine ⟨by omega, fun r hr => ?_⟩
    simp only [List.mem_cons, List.not_mem_nil, or_false] at hr
    rcases hr with rfl | rfl | rfl | rfl <;> omega
  (repeat (apply CW.seq))
  refine CW.drawM 5 mixed (by kernel_rfl) ?_
  (repeat (apply ML.q; rfl; rfl; rfl; (intro γ' w' hw'; apply WL.ldA; rfl; rfl; rfl; apply Blk.ext; assumption; exact hw'; rfl; exact WL.nil (EX.mm rfl (Ext.refl _) rfl))))
  refine ML.fc (fun v γ w => GX w0.heap.size [b8, b7, b4, w0.heap.size] w v (.mk 6 0 [t, h])) rfl rfl rfl (fun v γ γ' w w' h e _ => h.ext e) (fun γ w hw => WL.call rfl rfl rfl (ltwo_ok w (F := GXs w0.heap.size [b8, b7, b4, w0.heap.size] w) (fun b hb => hb.2.1) 6 (hy.ext hw) (hm.ext hw)) (fun v w' h => WL.nil (EX.mm rfl h.2 (GX.plus h.1 h.2 (hXX w hw).1 (hXX w hw).2)))) ?_
  refine ML.fc (fun v γ w => GX w0.heap.size [b8, b7, b4, w0.heap.size] w v (.mk 9 0 [g, .mk 6 0 [t, h]])) rfl rfl rfl (fun v γ γ' w w' h e _ => h.ext e) (fun γ w hw v64 g64 => WL.call rfl rfl rfl (ltwo_ok w (F := GXs w0.heap.size [b8, b7, b4, w0.heap.size] w) (fun b hb => hb.2.1) 9 (hz.ext hw) g64) (fun v w' h => WL.nil (EX.mm rfl h.2 (GX.plus h.1 h.2 (hXX w hw).1 (hXX w hw).2)))) ?_
  refine ML.nil fun γ w13 hw13 v65 g65 v64 g64 => ?_
  change WL _ _ _ _ _ _ _
  obtain ⟨uo, uc, rfl, hku⟩ := Rd.ltl g65
  refine WL.st rfl rfl rfl (hb2.ext hw13) rfl rfl (ones_of rfl) (fun w14 hb214 hg14 => ?_)
  have hv := g65.st hg14 (.inr (by simp))
  have hG := grown_new (grown_tr hG (hw13.grw _)) hg14 (Nat.le_refl _)
  have hr14 := (hr12.ext hw13).kept hg14 (fun b e => by cases e; omega)
  (repeat (apply WL.pure; rfl; rfl; rfl))
  refine WL.nil (EX.tailE ?_)
  (repeat (first | (apply EX.thenN) | (apply CW.ret)))
  refine EX.retC2 rfl rfl rfl hb214 rfl ⟨⟨_, _, _, st2, rfl, hv.gl, hr14, .inl ⟨rfl, ?_⟩⟩, hG⟩
  rw [show wayT st1.1 t g = .mk 9 0 [g, .mk 6 0 [t, h]] by unfold wayT; rw [if_neg n85, if_neg n82, hh]]
end Go.Proofs.YtikigaeihdmcaaaGreatDoor

/-
  ltl.Parse, walked: the reader, all together.
-/
set_option linter.unusedVariables false
set_option linter.unusedSimpArgs false
namespace Go.Proofs.YtikigaeihdmcaaaGreatDoor
open Go.RowKit

theorem lreader_ok {sa : Nat → Addr} {rb : Nat} {s : Bys} {no : Option Addr} {nc : Nat} {nms : List ByteArray} (hs : s.length ≤ 300) (hBn : 3 < rb ∧ ∀ i, i < 3 → (sa i).block < rb) : ∀ n, SinL sa rb s no nc nms n ∧ WayOK sa rb s no nc nms n ∧ ForL sa rb s no nc nms n
  | 0 => ⟨fun m hm o st w hr hS ho h => by omega, fun m hm o st w hr hS ho h => by omega, fun m hm o st w hr hS ho h => by omega⟩
  | n + 1 => by
    obtain ⟨h1, h2, h3⟩ := lreader_ok (no := no) (nc := nc) (nms := nms) hs hBn n
    refine ⟨fun m hm o st w hr hS ho h => ?_, fun m hm o st w hr hS ho h => ?_, fun m hm o st w hr hS ho h => ?_⟩
    · by_cases e : m = n + 1
      · subst e
        exact lsingle_ok w hr hs hS hBn ho h1 h3 h
      · exact h1 m (by omega) o st w hr hS ho h
    · by_cases e : m = n + 1
      · subst e
        exact lway_ok w hr hs hS hBn ho h1 h2 h
      · exact h2 m (by omega) o st w hr hS ho h
    · exact lformula_ok w hr hs hS hBn ho h2 m hm h
/-- what Parse makes of what was read -/
def finL (N : Nat) : PR → Ltl × Nat × Int
  | .er c a => (.mk 0 0 [], a, c)
  | .ok f st => if st.1 ≠ [] then (.mk 0 0 [], atT N st, 3) else if (chkF f 1 0).1 ≠ 0 then (.mk 0 0 [], N, (chkF f 1 0).1) else (f, 0, 0)
theorem parseL_fin (s : Bys) (nms : List ByteArray) : parseL s nms = if s.length > 300 then (.mk 0 0 [], 0, 2) else finL s.length (pFor nms s.length (10 * s.length + 20) 0 [] (nxT s)) := by
  unfold parseL
  split
  · rfl
  · cases pFor nms s.length (10 * s.length + 20) 0 [] (nxT s) <;> rfl
end Go.Proofs.YtikigaeihdmcaaaGreatDoor

/-
  ltl.Parse, walked: all of it.
-/
set_option linter.unusedVariables false
set_option linter.unusedSimpArgs false
namespace Go.Proofs.YtikigaeihdmcaaaGreatDoor
open Go.RowKit

set_option maxHeartbeats 2000000 in
theorem lparse_ok (w0 : World) (hE : ErrH w0) {sa : Nat → Addr} (hSn : SenH w0 sa) {s : Bys} {no : Option Addr} {nc : Nat} {nms : List ByteArray} (hn : Sl w0 (Old w0) no nc nms) :
    Rt Tryz.prog 67 [tV s, .slice no nms.length nc].toArray w0 fun v w' => ∃ x, v = .tuple ⟨[x, .int .i64 ((parseL s nms).2.1 : Int), .int .i64 (parseL s nms).2.2]⟩ ∧ GL w0.heap.size w' x (parseL s nms).1 ∧ Ext w0 w' := by
  have h1 := hE.lt
  refine Rt.enter2 Tryz.func67 Tryz.ntmps67 rfl rfl ?_
  rw [parseL_fin]
  (repeat (first | (apply CW.seq) | (apply CW.region)))
  refine WL.alloc rfl rfl (fun w1 hb4 e1 => ?_)
  have l4 := hb4.lt
  (repeat (first | (apply WL.pure; rfl; rfl; rfl) | (apply WL.nil) | (apply EX.thenN) | (apply CW.seq) | (apply CW.region)))
  refine WL.lenB rfl rfl rfl ?_
  (repeat (first | (apply WL.pure; rfl; rfl; rfl) | (apply WL.nil) | (apply EX.thenN)))
  refine CW.cond rfl (fun h => ?_) (fun h => ?_)
  · have h : s.length > 300 := by have : (s.length : Int) > 300 := by simpa using h
                                  omega
    rw [if_pos h]
    (repeat (first | (apply CW.seq) | (apply CW.region)))
    refine WL.build (parts := []) rfl rfl rfl rfl ?_
    skip
    refine WL.st rfl rfl rfl hb4 rfl rfl (ones_of rfl) (fun w2 hb42 hg2 => ?_)
    (repeat (first | (apply WL.pure; rfl; rfl; rfl) | (apply WL.nil) | (apply EX.thenN) | (apply CW.ret) | (apply EX.thenR)))
    exact EX.retC3 rfl rfl rfl rfl hb42 rfl ⟨_, rfl, GL.zero 0 0, e1.grown hg2 e1.size (fun g hg => by cases hg; exact Nat.le_refl _)⟩
  have hs : s.length ≤ 300 := by have : ¬ (s.length : Int) > 300 := by simpa using h
                                 omega
  rw [if_neg (by omega)]
  clear h
  (repeat (first | (apply WL.pure; rfl; rfl; rfl) | (apply EX.thenN) | (apply CW.seq) | (apply CW.region) | (apply CW.skip)))
  refine WL.build rfl rfl rfl rfl ?_
  refine WL.boxB rfl rfl rfl fun w2 hbr e2 => ?_
  have hb4 := hb4.ext e2
  have e12 := e1.trans e2
  have lr := hbr.lt
  have hr2 : Rdr 125 w2 w1.heap.size s no nc nms 0 ([], s) := ⟨by
    have : atT s.length ([], s) = 0 := by simp [atT]
    rw [this, show ([], s).2.length = s.length from rfl, Nat.sub_self]
    exact hbr, hn.mono (fun b hb => e12.block b hb) (fun b hb => by show b < _; have : b < w0.heap.size := hb; omega), by simp, by simp⟩
  generalize hRB : w1.heap.size = rb at *
  have h2 : ErrH w2 := hE.kept (e12.grw none) (by simp)
  have hBn : 3 < rb ∧ ∀ i, i < 3 → (sa i).block < rb := by
    have h3 := cell_lt hSn.g2
    have h3' : 3 < w0.heap.size := h3
    refine ⟨by omega, fun i hi => ?_⟩
    obtain ⟨c, t, e⟩ := hSn.h i hi
    rcases Nat.lt_or_ge (sa i).block w0.heap.size with h | h
    · omega
    · rw [Array.getElem?_eq_none h] at e; cases e
  have hS2 : SenH w2 sa := hSn.kept (e12.grw none) (fun b e => by cases e) hBn
  (repeat (first | (apply WL.pure; rfl; rfl; rfl) | (apply WL.nil) | (apply EX.thenN) | (apply CW.seq) | (apply CW.region)))
  refine WL.call rfl rfl rfl (lnext_ok w2 hr2 hs) ?_
  rintro _ w3 ⟨hr3, hg3⟩
  have hb4 := hb4.kept hg3 (fun e => by have := Option.some.inj e; omega)
  have hG := hg3
  have z3 := hg3.size
  have hm3 : mT (nxT s) ≤ s.length := nxT_len s
  (repeat (first | (apply WL.pure; rfl; rfl; rfl) | (apply WL.nil) | (apply EX.thenN) | (apply CW.seq) | (apply CW.region)))
  refine WL.call rfl rfl rfl ((lreader_ok hs hBn (10 * s.length + 20)).2.2 (10 * s.length + 20) (Nat.le_refl _) 0 _ w3 hr3 (hS2.kept hg3 (fun b e => by cases e; exact Nat.le_refl _) hBn) (by omega) (by show 10 * mT (nxT s) + 8 ≤ _; omega)) ?_
  rintro _ w4 ⟨⟨x, e, t, st1, rfl, hx, hr4, hE4⟩, hg4⟩
  have l3 := hb4.lt
  have lr3 := hr3.lt
  have hb4 := hb4.kept hg4 (fun e => by have := Option.some.inj e; omega)
  have hG := grown_tr hG hg4
  have hx : GX w0.heap.size [w0.heap.size] w4 x t := GX.of hx (by omega) (fun r hr => by rw [List.mem_singleton.1 hr]; exact l3)
  have hE4 : ErL w4 w0.heap.size (pFor nms s.length (10 * s.length + 20) 0 [] (nxT s)) e t st1 := hE4.low (by omega)
  generalize pFor nms s.length (10 * s.length + 20) 0 [] (nxT s) = R at *
  obtain ⟨uo, uc, rfl, hk⟩ := Rd.ltl hx
  have z4 := hg4.size
  (repeat (apply WL.pure; rfl; rfl; rfl))
  refine WL.alloc rfl rfl (fun w5 hb8 e5 => ?_)
  have hx := hx.add e5 (Nat.le_refl _)
  have hb4 := hb4.ext e5
  have hr5 := hr4.ext e5
  have hE5 := hE4.ext e5
  have hG := grown_tr hG (e5.grw (some rb))
  have h48 : w0.heap.size < w4.heap.size := by omega
  have hr8 : rb < w4.heap.size := hr4.lt
  have l8 := hb8.lt
  generalize hB8 : w4.heap.size = b8 at *
  skip
  refine WL.st rfl rfl rfl hb8 rfl rfl (ones_of rfl) (fun w6 hb86 hg6 => ?_)
  have hx := hx.st hg6 (.inr (List.mem_cons_self ..))
  have hH := HF.of hb86 hx
  have hb4 := hb4.kept hg6 (fun e => by have := Option.some.inj e; omega)
  have hr6 := hr5.kept hg6 (fun b e => by cases e; omega)
  have hE6 := hE5.stT hg6 hb8 (by decide)
  have hG := grown_row hG hg6 (fun g hg => by cases hg; have := e2.size; omega)
  have hrb := hr6.blk
  have he := hE6.err
  have z6 := hg6.size
  clear hb8 hb86 hx hr5 hr4 hE5 hE4 hr3 hr2 hg6 hk hg3 hg4
  (repeat (first | (apply WL.pure; rfl; rfl; rfl) | (apply WL.nil) | (apply EX.thenN)))
  refine CW.cutI (S := Value) (fun e => [(0, tV s), (4, .pointer (some ⟨w0.heap.size, 0, none⟩)), (8, .pointer (some ⟨b8, 0, none⟩)), (9, e)])
    (fun e w => w2.grownBy w (some rb) ∧ w6.heap.size ≤ w.heap.size ∧ Blk w w0.heap.size 28 [.int .i64 0, .int .i64 0, .slice none 0 0] ∧ HF 28 w b8 w0.heap.size [b8, w0.heap.size] t ∧
      ((e = .nilIface ∧ R = .ok t st1 ∧ st1.1 = []) ∨ ∃ c a, FlL w w0.heap.size c a e ∧ finL s.length R = (.mk 0 0 [], a, c))) ?_ ?_
  · (repeat (first | (apply WL.pure; rfl; rfl; rfl) | (apply CW.seq) | (apply CW.region)))
    refine WL.eqNil rfl rfl rfl he ?_
    rcases hE6 with ⟨rfl, rfl⟩ | ⟨c, a, rfl, hF⟩
    · rw [show nilI Value.nilIface = true from rfl]
      (repeat (first | (apply WL.pure; rfl; rfl; rfl) | (apply WL.nil) | (apply EX.thenN) | (apply WL.fa; rfl; rfl; rfl) | (apply WL.nck; rfl; rfl; rfl) | (apply WL.ld; rfl; rfl; rfl; assumption; rfl)))
      rw [show ((txA st1.1).data.toList == (ByteArray.mk #[]).data.toList) = decide (st1.1 = []) from txA_eqd _ _]
      refine CW.cond rfl (fun h => ?_) (fun h => ?_)
      · have h : ¬ st1.1 = [] := by simpa using h
        have hD := Ext.drew w6
        have hrd := hr6.ext hD
        have hGd := grown_tr hG (hD.grw _)
        have hSd : SenH (drew w6) sa := hS2.kept hGd (fun b e => by cases e; exact Nat.le_refl _) hBn
        skip
        refine CW.drawH (fun z : World => Blk z rb 125 [tV s, .slice no nms.length nc, tV st1.1, .int .i64 (atT s.length st1 : Int), .int .i64 ((s.length - st1.2.length : Nat) : Int), .int .i64 ((0 : Nat) : Int)] ∧ z.cell? ⟨0, 0, none⟩ = some (.iface 205 (.pointer (some (sa 0))))) [(0, true), (1, true), (2, true), (3, true), (4, true), (5, false), (6, true)] mixed (by kernel_rfl) ⟨hrd.blk, hSd.g0⟩ ?_
        refine HL.ldG (fun z hz => hz.2) rfl rfl rfl rfl ?_
        (repeat (first | (apply HL.pure; rfl; rfl; rfl; rfl) | (refine HL.fa rfl rfl rfl rfl ?_) | (apply HL.nck; rfl; rfl; rfl; rfl)))
        refine HL.ldS (fun z hz => hz.1) rfl rfl rfl rfl rfl ?_
        refine HL.mut rfl (WL.call rfl rfl rfl (lfault_ok (drew w6) hSd (i := 0) (by omega) (atT s.length st1)) ?_)
        rintro e w7 ⟨hF, e7⟩
        have hr7 := hrd.ext e7
        have hG7 := grown_tr hGd (e7.grw _)
        refine WL.nil (EX.mut ⟨hr7.blk, (hS2.kept hG7 (fun b e => by cases e; exact Nat.le_refl _) hBn).g0⟩ ?_)
        (repeat (first | (apply HL.pure; rfl; rfl; rfl; rfl) | (apply HL.nil)))
        skip
        exact EX.cutI _ (by repeat (first | exact trivial | refine ⟨rfl, ?_⟩)) ⟨hG7, Nat.le_trans hD.size e7.size, (hb4.ext hD).ext e7, (hH.ext hD).ext e7, .inr ⟨_, _, hF.low (by show w0.heap.size ≤ w6.heap.size; omega), if_pos h⟩⟩
      · have h : st1.1 = [] := by simpa using h
        (repeat (apply CW.skip))
        exact EX.cutI _ (by repeat (first | exact trivial | refine ⟨rfl, ?_⟩)) ⟨hG, Nat.le_refl _, hb4, hH, .inl ⟨rfl, rfl, h⟩⟩
    · rw [hF.err.2]
      (repeat (first | (apply WL.pure; rfl; rfl; rfl) | (apply WL.nil) | (apply EX.thenN) | (apply WL.pass; rfl; rfl) | (apply CW.condF; rfl) | (apply CW.skip)))
      exact EX.cutI _ (by repeat (first | exact trivial | refine ⟨rfl, ?_⟩)) ⟨hG, Nat.le_refl _, hb4, hH, .inr ⟨c, a, hF, rfl⟩⟩
  clear hG hb4 hH hr6 hrb he hE6
  rintro e w7 ⟨hG, z7, hb4, hH, hI⟩
  have l87 := hH.lt
  have l47 := hb4.lt
  have h7 : ErrH w7 := h2.kept hG (fun e => by have := Option.some.inj e; omega)
  have hX : Ext w0 w7 := e12.grown hG e12.size (fun g hg => by cases hg; have := e1.size; omega)
  (repeat (first | (apply CW.seq) | (apply CW.region)))
  refine WL.alloc rfl rfl (fun w8 hb10 e8 => ?_)
  have hb4 := hb4.ext e8
  have hH := hH.ext e8
  have h8 : ErrH w8 := h7.kept (e8.grw none) (by simp)
  have hX := hX.trans e8
  have l10 := hb10.lt
  have h710 : w0.heap.size < w7.heap.size := by omega
  have h810 : b8 < w7.heap.size := by omega
  (repeat (first | (apply WL.pure; rfl; rfl; rfl) | (apply WL.nil) | (apply EX.thenN) | (apply CW.seq) | (apply CW.region)))
  refine WL.mkIf rfl rfl rfl Tryz.underlying133 rfl ?_
  rcases hI with ⟨rfl, rfl, hst⟩ | ⟨c, a, hF, hR⟩
  · refine WL.call rfl rfl rfl (as_none w8 _) ?_
    rintro _ w9 ⟨rfl, rfl⟩
    dsimp only [finL]
    rw [if_neg (by simp [hst])]
    have hy := hH.gx
    obtain ⟨vo, vc, hb8, hsl⟩ := hH
    (repeat (first | (apply WL.nil) | (apply EX.thenN) | (apply CW.seq) | (apply CW.region) | (apply WL.ldA; rfl; rfl; rfl; assumption; rfl) | (apply CW.condF; rfl) | (apply CW.skip)))
    refine WL.call rfl rfl rfl (ltlCheck w9 (t := t) (F := GXs w0.heap.size [b8, w0.heap.size] w9) hsl (fun b hb => hb.2.1)) ?_
    rintro _ w10 ⟨rfl, e10⟩
    have hb4 := hb4.ext e10
    have hb8 := hb8.ext e10
    have hX := hX.trans e10
    have hy : GX w0.heap.size [b8, w0.heap.size] w9 (ltlV t.k t.n vo t.kids.length vc) t := by
      cases t with
      | mk k n kids => exact Rd.mkLtl hsl
    have hy := hy.ext e10
    (repeat (first | (apply WL.pure; rfl; rfl; rfl) | (apply WL.nil) | (apply EX.thenN) | (apply CW.seq) | (apply CW.region)))
    refine CW.cond rfl (fun h => ?_) (fun h => ?_)
    · have h : (chkF t 1 0).1 ≠ 0 := by simpa using h
      rw [if_pos h]
      (repeat (first | (apply CW.seq) | (apply CW.region)))
      refine WL.build (parts := []) rfl rfl rfl rfl ?_
      (repeat (apply WL.pure; rfl; rfl; rfl))
      refine WL.lenB rfl rfl rfl ?_
      (repeat (apply WL.pure; rfl; rfl; rfl))
      refine WL.st rfl rfl rfl hb4 rfl rfl (ones_of rfl) (fun w11 hb11 hg11 => ?_)
      (repeat (first | (apply WL.pure; rfl; rfl; rfl) | (apply WL.nil) | (apply EX.thenN) | (apply CW.ret) | (apply EX.thenR)))
      exact EX.retC3 rfl rfl rfl rfl hb11 rfl ⟨_, rfl, GL.zero 0 0, hX.grown hg11 hX.size (fun g hg => by cases hg; exact Nat.le_refl _)⟩
    · have h : (chkF t 1 0).1 = 0 := by simpa using h
      rw [if_neg (by simp [h])]
      (repeat (first | (apply EX.thenN) | (apply CW.seq) | (apply CW.region) | (apply WL.ldA; rfl; rfl; rfl; assumption; rfl) | (apply CW.skip)))
      refine WL.st rfl rfl rfl hb4 rfl rfl (ones_of rfl) (fun w11 hb11 hg11 => ?_)
      (repeat (first | (apply WL.pure; rfl; rfl; rfl) | (apply WL.nil) | (apply EX.thenN) | (apply CW.ret)))
      exact EX.retC3 rfl rfl rfl rfl hb11 rfl ⟨_, rfl, (hy.st hg11 (.inr (by simp))).gl, hX.grown hg11 hX.size (fun g hg => by cases hg; exact Nat.le_refl _)⟩
  · obtain ⟨fb, why, rfl, hfB, hfb⟩ := hF.ext e8
    have lfb : fb < w7.heap.size := by
      obtain ⟨fb', why', e', _, h'⟩ := hF
      cases e'
      exact h'.lt
    refine WL.call rfl rfl rfl (as_fault w8 h8 hb10) ?_
    rintro _ w9 ⟨rfl, hb109, hg9⟩
    have hb4 := hb4.kept hg9 (fun e => by have := Option.some.inj e; omega)
    have hfb := hfb.kept hg9 (fun e => by have := Option.some.inj e; omega)
    have hX : Ext w0 w9 := hX.grown hg9 hX.size (fun g hg => by cases hg; omega)
    have hD := Ext.drew w9
    have hb4 := hb4.ext hD
    have hfb := hfb.ext hD
    have hb10 := hb109.ext hD
    have hX := hX.trans hD
    generalize hB10 : w7.heap.size = b10 at *
    clear hb109 hg9 h8 h7 hF hH
    rw [hR]
    (repeat (first | (apply WL.nil) | (apply EX.thenN) | (apply CW.seq) | (apply CW.condT; rfl)))
    refine CW.drawH (fun z : World => z.heap[b10]? = (drew w9).heap[b10]? ∧ z.heap[fb]? = (drew w9).heap[fb]?) [(0, true), (1, true), (2, true), (3, true), (4, true), (5, true), (6, true), (7, true), (8, true), (9, false), (10, true), (11, true)] mixed (by kernel_rfl) ⟨rfl, rfl⟩ ?_
    refine HL.build (parts := []) rfl rfl rfl rfl rfl ?_
    refine HL.ldS (fun z hz => hz.1.trans hb10) rfl rfl rfl rfl rfl ?_
    (repeat (first | (refine HL.fa rfl rfl rfl rfl ?_) | (apply HL.nck; rfl; rfl; rfl; rfl)))
    refine HL.ldS (fun z hz => hz.2.trans hfb) rfl rfl rfl rfl rfl ?_
    refine HL.ldS (fun z hz => hz.1.trans hb10) rfl rfl rfl rfl rfl ?_
    (repeat (first | (refine HL.fa rfl rfl rfl rfl ?_) | (apply HL.nck; rfl; rfl; rfl; rfl)))
    refine HL.ldS (fun z hz => hz.2.trans hfb) rfl rfl rfl rfl rfl ?_
    refine HL.mut rfl (WL.st rfl rfl rfl hb4 rfl rfl (ones_of rfl) (fun w11 hb11 hg11 => ?_))
    refine WL.nil (EX.mut ⟨hg11.block _ hb10.lt (fun e => by have := Option.some.inj e; omega), hg11.block _ hfb.lt (fun e => hfb.neT hb4 (by decide) (Option.some.inj e))⟩ ?_)
    (repeat (first | (apply HL.pure; rfl; rfl; rfl; rfl) | (apply HL.nil)))
    (repeat (first | (apply EX.thenN) | (apply CW.ret) | (apply EX.thenR)))
    exact EX.retC3 rfl rfl rfl rfl hb11 rfl ⟨_, rfl, GL.zero 0 0, hX.grown hg11 hX.size (fun g hg => by cases hg; exact Nat.le_refl _)⟩
end Go.Proofs.YtikigaeihdmcaaaGreatDoor

/-
  rule's reader of words: text, formula: walked.
-/
set_option linter.unusedVariables false
set_option linter.unusedSimpArgs false
namespace Go.Proofs.YtikigaeihdmcaaaGreatDoor
open Go.RowKit

instance iRtv1 : IsF Tryz.prog 68 := ⟨_, Tryz.func68, rfl, by decide⟩
instance iRtv2 : IsF Tryz.prog 47 := ⟨_, Tryz.func47, rfl, by decide⟩
theorem SenH.bnd {w : World} {a : Nat → Addr} (h : SenH w a) : 3 < w.heap.size ∧ ∀ i, i < 3 → (a i).block < w.heap.size := by
  refine ⟨cell_lt h.g2, fun i hi => ?_⟩
  obtain ⟨c, t, h⟩ := h.h i hi
  exact (Array.getElem?_eq_some_iff.1 h).1
theorem SenH.low {w w' : World} {a : Nat → Addr} (h : SenH w a) (hE : Ext w w') : SenH w' a := h.kept (hE.grw none) (fun b e => by cases e) h.bnd
theorem joinS_drop : ∀ (l : List Bys) (n : Nat), (joinS 32 (l.drop n)).length ≤ (joinS 32 l).length
  | [], n => by simp
  | x :: r, 0 => Nat.le_refl _
  | [x], n + 1 => by simp [joinS]
  | x :: y :: r, n + 1 => by
    have := joinS_drop (y :: r) n
    simp only [List.drop_succ_cons, joinS, List.length_append, List.length_cons] at this ⊢
    omega
theorem rtext_ok (w : World) {b : Nat} {wo : Option Addr} {wc : Nat} {W : List ByteArray} {no : Option Addr} {nc : Nat} {nms : List ByteArray} {st : RSt} (h : RRd w b wo wc W no nc nms st) :
    Rt Tryz.prog 68 [.pointer (some ⟨b, 0, none⟩)].toArray w fun v w' => v = tV (joinS 32 st.1) ∧ Ext w w' := by
  have hW := h.sz
  have hle := h.le
  have hD := Ext.drew w
  have hd := h.ext hD
  have hb := hd.blk
  have hws : ∀ w', Ext (drew w) w' → Sl w' (Old w') wo wc W := fun w' e => (hd.ext e).ws.mono (fun _ _ => rfl) (fun c hc => Nat.lt_trans hc (hd.ext e).lt)
  have hj : ∀ w', Ext (drew w) w' → Rt Tryz.prog 83 [.slice (if wc = W.length - st.1.length then wo else wo.map (·.add ((W.length - st.1.length) * sz ByteArray))) (W.length - (W.length - st.1.length)) (wc - (W.length - st.1.length)), tV [32]].toArray w' fun v w'' => v = tV (joinS 32 st.1) ∧ Ext w' w'' := fun w' e => by
    have hs := (hws w' e).drop (k := W.length - st.1.length) (by omega)
    have hm : (W.drop (W.length - st.1.length)).map bysA = st.1 := by rw [List.map_drop]; exact h.dr.symm
    have := sjoin_ok w' hs (by rw [List.map_drop]; have := joinS_drop (W.map bysA) (W.length - st.1.length); have := h.tot; omega) (by rw [List.length_drop]; omega)
    rw [hm, List.length_drop] at this
    exact this
  refine Rt.enter1 Tryz.func68 Tryz.ntmps68 rfl rfl ?_
  (repeat (first | (apply WL.pure; rfl; rfl; rfl) | (apply WL.nil) | (apply EX.thenN) | (apply CW.seq) | (apply CW.region)))
  refine CW.drawM 10 mixed (by kernel_rfl) ?_
  (repeat (first | (refine ML.q rfl rfl rfl (fun γ' w' hw' => WL.pure rfl rfl rfl (WL.nil (EX.mm rfl (Ext.refl _) rfl))) ?_) | (refine ML.q rfl rfl rfl (fun γ' w' hw' => WL.fa rfl rfl rfl (WL.nil (EX.mm rfl (Ext.refl _) rfl))) ?_) | (apply ML.q; rfl; rfl; rfl; (intro γ' w' hw'; apply WL.ld; rfl; rfl; rfl; apply Blk.ext; assumption; exact hw'; rfl; exact WL.nil (EX.mm rfl (Ext.refl _) rfl))) | (refine ML.q rfl rfl rfl (fun γ' w' hw' => WL.nck rfl rfl rfl (WL.nil (EX.mm rfl (Ext.refl _) rfl))) ?_)))
  refine ML.q rfl rfl rfl (fun γ' w' hw' => WL.cutLo (α := ByteArray) (W.length - st.1.length) rfl rfl rfl rfl rfl (by omega) (hws _ hw').le (WL.nil (EX.mm rfl (Ext.refl _) rfl))) ?_
  refine ML.kc (v := tV (joinS 32 st.1)) rfl rfl rfl (fun γ w hw => by
    change WL _ _ _ _ _ _ _
    refine WL.call rfl rfl rfl (hj w hw) ?_
    rintro _ w' ⟨rfl, e'⟩
    exact WL.nil (EX.mm rfl e' rfl)) ?_
  refine ML.nil fun γ w6 hw6 => ?_
  change WL _ _ _ _ _ _ _
  (repeat (apply WL.pure; rfl; rfl; rfl))
  refine WL.nil (EX.tailE ?_)
  (repeat (first | (apply EX.thenN) | (apply CW.ret)))
  exact EX.ret1 rfl rfl ⟨rfl, hD.trans hw6⟩
/-- all but two blocks stand -/
structure Two (w w' : World) (b c : Nat) : Prop where
  os : w'.os = w.os
  tape : w'.tape = w.tape
  output : w'.output = w.output
  size : w.heap.size ≤ w'.heap.size
  block : ∀ x, x < w.heap.size → x ≠ b → x ≠ c → w'.heap[x]? = w.heap[x]?
theorem Two.l {w w' w'' : World} {b c : Nat} (h : w.grownBy w' (some b)) (k : Two w' w'' b c) : Two w w'' b c :=
  ⟨k.os.trans h.os, k.tape.trans h.tape, k.output.trans h.output, Nat.le_trans h.size k.size, fun x hx h1 h2 => (k.block x (Nat.lt_of_lt_of_le hx h.size) h1 h2).trans (h.block x hx (fun e => h1 (Option.some.inj e)))⟩
theorem Two.of1 {w w' w'' : World} {b c : Nat} (h : w.grownBy w' (some b)) (k : w'.grownBy w'' (some c)) : Two w w'' b c :=
  ⟨k.os.trans h.os, k.tape.trans h.tape, k.output.trans h.output, Nat.le_trans h.size k.size, fun x hx h1 h2 => (k.block x (Nat.lt_of_lt_of_le hx h.size) (fun e => h2 (Option.some.inj e))).trans (h.block x hx (fun e => h1 (Option.some.inj e)))⟩
theorem Two.r {w w' w'' : World} {b c : Nat} (h : Two w w' b c) (k : w'.grownBy w'' (some b)) : Two w w'' b c :=
  ⟨k.os.trans h.os, k.tape.trans h.tape, k.output.trans h.output, Nat.le_trans h.size k.size, fun x hx h1 h2 => (k.block x (Nat.lt_of_lt_of_le hx h.size) (fun e => h1 (Option.some.inj e))).trans (h.block x hx h1 h2)⟩
abbrev rulLR (nm : ByteArray) (so : Int) (pt : LPat) (tp : LTpl) (lk ln : Int) (lo : Option Addr) (ll lc : Nat) (ck cn : Int) (co : Option Addr) (cl cc : Nat) : List Value := [.string nm, .int .i64 so,
  .int .i64 pt.1, .int .i64 pt.2.1, .int .i64 pt.2.2.1, .int .i64 pt.2.2.2.1, .int .i64 pt.2.2.2.2.1, .int .i64 pt.2.2.2.2.2.1, .int .i64 pt.2.2.2.2.2.2,
  .int .i64 tp.1, .int .i64 tp.2.1, .int .i64 tp.2.2.1, .int .i64 tp.2.2.2, .int .i64 lk, .int .i64 ln, .slice lo ll lc, .int .i64 ck, .int .i64 cn, .slice co cl cc]
abbrev rul0 (nm : ByteArray) (so : Int) : List Value := rulLR nm so patZ tplZ 0 0 none 0 0 0 0 none 0 0
set_option maxHeartbeats 4000000 in
theorem rformL_ok (w0 w : World) {b b3 : Nat} {nm : ByteArray} {wo : Option Addr} {wc : Nat} {W : List ByteArray} {no : Option Addr} {nc : Nat} {nms : List ByteArray} {st : RSt} (h : RRd w b wo wc W no nc nms st) (hne : st.1 ≠ []) (he0 : st.2 = 0) (hb3 : Blk w b3 33 (rul0 nm 3)) (hlt : b < b3) (hX : Below b w0 w) (hb0 : w0.heap.size ≤ b) (hE : ErrH w0) {sa : Nat → Addr} (hSn : SenH w0 sa) :
    Rt Tryz.prog 47 [.pointer (some ⟨b, 0, none⟩), .pointer (some ⟨b3, 0, none⟩)].toArray w fun v w' => v = .tuple #[] ∧ ∃ xo xc, Blk w' b3 33 (rulLR nm 3 patZ tplZ (parseL (joinS 32 (takeW st).1) nms).1.k (parseL (joinS 32 (takeW st).1) nms).1.n xo (parseL (joinS 32 (takeW st).1) nms).1.kids.length xc 0 0 none 0 0) ∧ Sl w' (fun c => w.heap.size ≤ c ∧ c < w'.heap.size) xo xc (parseL (joinS 32 (takeW st).1) nms).1.kids ∧
      RRd w' b wo wc W no nc nms (if (parseL (joinS 32 (takeW st).1) nms).2.2 ≠ 0 then failW (takeW st) (parseL (joinS 32 (takeW st).1) nms).2.2 else ([], st.2)) ∧ Two w w' b b3 := by
  have hWs := h.sz
  have hle := h.le
  have hb := h.blk
  have hlb := h.lt
  have hlb3 := hb3.lt
  refine Rt.enter2 Tryz.func47 Tryz.ntmps47 rfl rfl ?_
  (repeat (first | (apply WL.add; rfl; rfl; rfl; rfl; omega; omega) | (apply WL.pure; rfl; rfl; rfl) | (apply CW.seq) | (apply CW.region) | (apply WL.fa; rfl; rfl; rfl) | (apply WL.nck; rfl; rfl; rfl) | (apply WL.ld; rfl; rfl; rfl; assumption; rfl)))
  refine WL.st rfl rfl rfl hb rfl rfl (ones_of rfl) (fun w1 hb1 hg1 => ?_)
  have h1 := h.took hne hg1 hb1
  have hb31 := hb3.kept hg1 (fun e => by have := Option.some.inj e; omega)
  clear hb1 hb
  have hX1 : Below b w0 w1 := hX.grown hg1 (Nat.le_of_lt hlb) (fun k e => by cases e; exact Nat.le_refl _)
  have hle1 := h1.le
  generalize hst : takeW st = s1 at *
  have hs1 : s1.2 = st.2 := by rw [← hst]; rfl
  (repeat (first | (apply WL.pure; rfl; rfl; rfl) | (apply WL.nil) | (apply EX.thenN) | (apply CW.seq) | (apply CW.region) | (apply WL.fa; rfl; rfl; rfl) | (apply WL.nck; rfl; rfl; rfl) | (apply WL.ld; rfl; rfl; rfl; assumption; rfl) | (apply CW.condT; rfl)))
  have hD := Ext.drew w1
  have hd := h1.ext hD
  have hb3d := hb31.ext hD
  have hbd := hd.blk
  have hXd : Below b w0 (drew w1) := hX1.drew
  have hEd : Ext w0 (drew w1) := hXd.mono hb0
  have z1 := hg1.size
  have hKs : ∀ u, (fun z : World => z.heap[b]? = (drew w1).heap[b]?) u → u.heap[b]? = (drew w1).heap[b]? := fun u h => h
  skip
  refine CW.drawH (fun z : World => z.heap[b]? = (drew w1).heap[b]?) [(0, true), (1, true), (3, true), (4, true), (5, true), (6, true), (2, false), (7, false), (8, true), (9, true), (10, true), (11, true), (12, true), (13, true), (14, false), (15, true)] mixed (by kernel_rfl) rfl ?_
  (repeat (first | (apply HL.pure; rfl; rfl; rfl; rfl) | (refine HL.fa rfl rfl rfl rfl ?_) | (apply HL.nck; rfl; rfl; rfl; rfl) | (refine HL.ldK (by assumption) rfl rfl rfl rfl (by assumption) rfl ?_)))
  refine HL.mut rfl (WL.call rfl rfl rfl (rtext_ok (drew w1) hd) ?_)
  rintro _ w2 ⟨rfl, e2⟩
  refine WL.nil (EX.mut (e2.block b hd.lt) ?_)
  have h2 := hd.ext e2
  have hn2 : Sl w2 (Old w2) no nc nms := h2.nm.mono (fun _ _ => rfl) (fun c hc => Nat.lt_trans hc h2.lt)
  have hE2 := hEd.trans e2
  refine HL.mut rfl (WL.call rfl rfl rfl (lparse_ok w2 (hE.kept (hE2.grw none) (by simp)) (hSn.low hE2) (s := joinS 32 s1.1) hn2) ?_)
  rintro _ w3 ⟨x, rfl, hx, e3⟩
  refine WL.nil (EX.mut ((e3.block b h2.lt).trans (e2.block b hd.lt)) ?_)
  obtain ⟨xo, xc, rfl, hxk⟩ := Rd.ltl hx
  have hb33 := (hb3d.ext e2).ext e3
  have h3 := h2.ext e3
  have z2 := e2.size
  have z3 := e3.size
  have zd := hD.size
  (repeat (first | (apply HL.pure; rfl; rfl; rfl; rfl) | (refine HL.fa rfl rfl rfl rfl ?_) | (apply HL.nck; rfl; rfl; rfl; rfl)))
  refine HL.mut rfl (WL.st rfl rfl rfl hb33 rfl rfl (ones_of rfl) (fun w4 hb34 hg4 => ?_))
  refine WL.nil (EX.mut ((hg4.block b h3.lt (fun e => by have := Option.some.inj e; omega)).trans ((e3.block b h2.lt).trans (e2.block b hd.lt))) ?_)
  (repeat (first | (apply HL.pure; rfl; rfl; rfl; rfl) | (apply HL.nil)))
  have h4 := h3.keep hg4 (fun c e => by have := Option.some.inj e; omega)
  have hxk4 : Sl w4 (fun c => w.heap.size ≤ c ∧ c < w4.heap.size) xo xc _ := hxk.mono (fun c hc => hg4.block c hc.2 (fun e => by have := Option.some.inj e; have := hc.1; omega)) (fun c hc => ⟨by have := hc.1; omega, Nat.lt_of_lt_of_le hc.2 hg4.size⟩)
  have hT : Two w w4 b b3 := Two.of1 (grT hg1 ((hD.trans (e2.trans e3)).grw _)) hg4
  have z4 := hg4.size
  clear hx hxk hb33 hb3d hbd hKs
  generalize parseL (joinS 32 s1.1) nms = pr at *
  obtain ⟨t, a, e⟩ := pr
  dsimp only at hxk4 hb34 ⊢
  have hb4 := h4.blk
  (repeat (first | (apply WL.pure; rfl; rfl; rfl) | (apply WL.nil) | (apply EX.thenN) | (apply CW.seq) | (apply CW.region)))
  refine CW.cond rfl (fun hc => ?_) (fun hc => ?_)
  · have hc : e ≠ 0 := by simpa using hc
    rw [if_pos hc]
    (repeat (first | (apply WL.pure; rfl; rfl; rfl) | (apply CW.seq) | (apply CW.region)))
    refine WL.call rfl rfl rfl (fail_ok w4 h4 e) ?_
    rintro _ w5 ⟨rfl, h5, g5⟩
    (repeat (first | (apply WL.nil) | (apply EX.thenN) | (apply CW.ret) | (apply EX.thenR)))
    exact EX.ret0 rfl ⟨rfl, xo, xc, hb34.kept g5 (fun e => by have := Option.some.inj e; omega), hxk4.mono (fun c hc => g5.block c hc.2 (fun e => by have := Option.some.inj e; have := hc.1; omega)) (fun c hc => ⟨hc.1, Nat.lt_of_lt_of_le hc.2 g5.size⟩), h5, hT.r g5⟩
  · have hc : e = 0 := by simpa using hc
    rw [if_neg (by simpa using hc)]
    (repeat (first | (apply WL.pure; rfl; rfl; rfl) | (apply EX.thenN) | (apply CW.region) | (apply WL.lenS; rfl; rfl; rfl) | (apply WL.fa; rfl; rfl; rfl) | (apply WL.nck; rfl; rfl; rfl) | (apply WL.ld; rfl; rfl; rfl; assumption; rfl) | (apply CW.skip)))
    refine WL.st rfl rfl rfl hb4 rfl rfl (ones_of rfl) (fun w5 hb5 g5 => ?_)
    (repeat (apply WL.nil))
    refine EX.end0 rfl ⟨rfl, xo, xc, hb34.kept g5 (fun e => by have := Option.some.inj e; omega), hxk4.mono (fun c hc => g5.block c hc.2 (fun e => by have := Option.some.inj e; have := hc.1; omega)) (fun c hc => ⟨hc.1, Nat.lt_of_lt_of_le hc.2 g5.size⟩), h4.own (st' := ([], st.2)) g5 ?_ ?_ (Nat.zero_le _), hT.r g5⟩
    · rw [← hs1]; exact hb5
    · show [] = (W.map bysA).drop (W.length - 0)
      rw [Nat.sub_zero, ← List.length_map (f := bysA), List.drop_length]
set_option maxHeartbeats 4000000 in
theorem rformC_ok (w0 w : World) {b b3 : Nat} {nm : ByteArray} {wo : Option Addr} {wc : Nat} {W : List ByteArray} {no : Option Addr} {nc : Nat} {nms : List ByteArray} {st : RSt} (h : RRd w b wo wc W no nc nms st) (hne : st.1 ≠ []) (he0 : st.2 = 0) (hb3 : Blk w b3 33 (rul0 nm 4)) (hlt : b < b3) (hX : Below b w0 w) (hb0 : w0.heap.size ≤ b) (hE : ErrH w0) :
    Rt Tryz.prog 47 [.pointer (some ⟨b, 0, none⟩), .pointer (some ⟨b3, 0, none⟩)].toArray w fun v w' => v = .tuple #[] ∧ ∃ xo xc, Blk w' b3 33 (rulLR nm 4 patZ tplZ 0 0 none 0 0 (parseC (joinS 32 (takeW st).1) nms).1.k (parseC (joinS 32 (takeW st).1) nms).1.n xo (parseC (joinS 32 (takeW st).1) nms).1.kids.length xc) ∧ Sl w' (fun c => w.heap.size ≤ c ∧ c < w'.heap.size) xo xc (parseC (joinS 32 (takeW st).1) nms).1.kids ∧
      RRd w' b wo wc W no nc nms (if (parseC (joinS 32 (takeW st).1) nms).2.2 ≠ 0 then failW (takeW st) (parseC (joinS 32 (takeW st).1) nms).2.2 else ([], st.2)) ∧ Two w w' b b3 := by
  have hWs := h.sz
  have hle := h.le
  have hb := h.blk
  have hlb := h.lt
  have hlb3 := hb3.lt
  refine Rt.enter2 Tryz.func47 Tryz.ntmps47 rfl rfl ?_
  (repeat (first | (apply WL.add; rfl; rfl; rfl; rfl; omega; omega) | (apply WL.pure; rfl; rfl; rfl) | (apply CW.seq) | (apply CW.region) | (apply WL.fa; rfl; rfl; rfl) | (apply WL.nck; rfl; rfl; rfl) | (apply WL.ld; rfl; rfl; rfl; assumption; rfl)))
  refine WL.st rfl rfl rfl hb rfl rfl (ones_of rfl) (fun w1 hb1 hg1 => ?_)
  have h1 := h.took hne hg1 hb1
  have hb31 := hb3.kept hg1 (fun e => by have := Option.some.inj e; omega)
  clear hb1 hb
  have hX1 : Below b w0 w1 := hX.grown hg1 (Nat.le_of_lt hlb) (fun k e => by cases e; exact Nat.le_refl _)
  have hle1 := h1.le
  generalize hst : takeW st = s1 at *
  have hs1 : s1.2 = st.2 := by rw [← hst]; rfl
  (repeat (first | (apply WL.pure; rfl; rfl; rfl) | (apply WL.nil) | (apply EX.thenN) | (apply CW.seq) | (apply CW.region) | (apply WL.fa; rfl; rfl; rfl) | (apply WL.nck; rfl; rfl; rfl) | (apply WL.ld; rfl; rfl; rfl; assumption; rfl) | (apply CW.condF; rfl)))
  have hD := Ext.drew w1
  have hd := h1.ext hD
  have hb3d := hb31.ext hD
  have hbd := hd.blk
  have hXd : Below b w0 (drew w1) := hX1.drew
  have hEd : Ext w0 (drew w1) := hXd.mono hb0
  have z1 := hg1.size
  have hKs : ∀ u, (fun z : World => z.heap[b]? = (drew w1).heap[b]?) u → u.heap[b]? = (drew w1).heap[b]? := fun u h => h
  skip
  refine CW.drawH (fun z : World => z.heap[b]? = (drew w1).heap[b]?) [(0, true), (1, true), (3, true), (4, true), (5, true), (6, true), (2, false), (7, false), (8, true), (9, true), (10, true), (11, true), (12, true), (13, true), (14, false), (15, true)] mixed (by kernel_rfl) rfl ?_
  (repeat (first | (apply HL.pure; rfl; rfl; rfl; rfl) | (refine HL.fa rfl rfl rfl rfl ?_) | (apply HL.nck; rfl; rfl; rfl; rfl) | (refine HL.ldK (by assumption) rfl rfl rfl rfl (by assumption) rfl ?_)))
  refine HL.mut rfl (WL.call rfl rfl rfl (rtext_ok (drew w1) hd) ?_)
  rintro _ w2 ⟨rfl, e2⟩
  refine WL.nil (EX.mut (e2.block b hd.lt) ?_)
  have h2 := hd.ext e2
  have hn2 : Sl w2 (Old w2) no nc nms := h2.nm.mono (fun _ _ => rfl) (fun c hc => Nat.lt_trans hc h2.lt)
  have hE2 := hEd.trans e2
  refine HL.mut rfl (WL.call rfl rfl rfl (cparse_ok w2 (hE.kept (hE2.grw none) (by simp)) (s := joinS 32 s1.1) hn2) ?_)
  rintro _ w3 ⟨x, rfl, hx, e3⟩
  refine WL.nil (EX.mut ((e3.block b h2.lt).trans (e2.block b hd.lt)) ?_)
  obtain ⟨xo, xc, rfl, hxk⟩ := Rd.ltl hx
  have hb33 := (hb3d.ext e2).ext e3
  have h3 := h2.ext e3
  have z2 := e2.size
  have z3 := e3.size
  have zd := hD.size
  (repeat (first | (apply HL.pure; rfl; rfl; rfl; rfl) | (refine HL.fa rfl rfl rfl rfl ?_) | (apply HL.nck; rfl; rfl; rfl; rfl)))
  refine HL.mut rfl (WL.st rfl rfl rfl hb33 rfl rfl (ones_of rfl) (fun w4 hb34 hg4 => ?_))
  refine WL.nil (EX.mut ((hg4.block b h3.lt (fun e => by have := Option.some.inj e; omega)).trans ((e3.block b h2.lt).trans (e2.block b hd.lt))) ?_)
  (repeat (first | (apply HL.pure; rfl; rfl; rfl; rfl) | (apply HL.nil)))
  have h4 := h3.keep hg4 (fun c e => by have := Option.some.inj e; omega)
  have hxk4 : Sl w4 (fun c => w.heap.size ≤ c ∧ c < w4.heap.size) xo xc _ := hxk.mono (fun c hc => hg4.block c hc.2 (fun e => by have := Option.some.inj e; have := hc.1; omega)) (fun c hc => ⟨by have := hc.1; omega, Nat.lt_of_lt_of_le hc.2 hg4.size⟩)
  have hT : Two w w4 b b3 := Two.of1 (grT hg1 ((hD.trans (e2.trans e3)).grw _)) hg4
  have z4 := hg4.size
  clear hx hxk hb33 hb3d hbd hKs
  generalize parseC (joinS 32 s1.1) nms = pr at *
  obtain ⟨t, a, e⟩ := pr
  dsimp only at hxk4 hb34 ⊢
  have hb4 := h4.blk
  (repeat (first | (apply WL.pure; rfl; rfl; rfl) | (apply WL.nil) | (apply EX.thenN) | (apply CW.seq) | (apply CW.region)))
  refine CW.cond rfl (fun hc => ?_) (fun hc => ?_)
  · have hc : e ≠ 0 := by simpa using hc
    rw [if_pos hc]
    (repeat (first | (apply WL.pure; rfl; rfl; rfl) | (apply CW.seq) | (apply CW.region)))
    refine WL.call rfl rfl rfl (fail_ok w4 h4 e) ?_
    rintro _ w5 ⟨rfl, h5, g5⟩
    (repeat (first | (apply WL.nil) | (apply EX.thenN) | (apply CW.ret) | (apply EX.thenR)))
    exact EX.ret0 rfl ⟨rfl, xo, xc, hb34.kept g5 (fun e => by have := Option.some.inj e; omega), hxk4.mono (fun c hc => g5.block c hc.2 (fun e => by have := Option.some.inj e; have := hc.1; omega)) (fun c hc => ⟨hc.1, Nat.lt_of_lt_of_le hc.2 g5.size⟩), h5, hT.r g5⟩
  · have hc : e = 0 := by simpa using hc
    rw [if_neg (by simpa using hc)]
    (repeat (first | (apply WL.pure; rfl; rfl; rfl) | (apply EX.thenN) | (apply CW.region) | (apply WL.lenS; rfl; rfl; rfl) | (apply WL.fa; rfl; rfl; rfl) | (apply WL.nck; rfl; rfl; rfl) | (apply WL.ld; rfl; rfl; rfl; assumption; rfl) | (apply CW.skip)))
    refine WL.st rfl rfl rfl hb4 rfl rfl (ones_of rfl) (fun w5 hb5 g5 => ?_)
    (repeat (apply WL.nil))
    refine EX.end0 rfl ⟨rfl, xo, xc, hb34.kept g5 (fun e => by have := Option.some.inj e; omega), hxk4.mono (fun c hc => g5.block c hc.2 (fun e => by have := Option.some.inj e; have := hc.1; omega)) (fun c hc => ⟨hc.1, Nat.lt_of_lt_of_le hc.2 g5.size⟩), h4.own (st' := ([], st.2)) g5 ?_ ?_ (Nat.zero_le _), hT.r g5⟩
    · rw [← hs1]; exact hb5
    · show [] = (W.map bysA).drop (W.length - 0)
      rw [Nat.sub_zero, ← List.length_map (f := bysA), List.drop_length]
end Go.Proofs.YtikigaeihdmcaaaGreatDoor

/-
  rule's reader of words: rule: walked.
-/
set_option linter.unusedVariables false
set_option linter.unusedSimpArgs false
namespace Go.Proofs.YtikigaeihdmcaaaGreatDoor
open Go.RowKit

instance iRtu1 : IsF Tryz.prog 27 := ⟨_, Tryz.func27, rfl, by decide⟩
instance iRtu2 : IsZC Tryz.prog 33 [.string ⟨#[]⟩, .int .i64 0, .int .i64 0, .int .i64 0, .int .i64 0, .int .i64 0, .int .i64 0, .int .i64 0, .int .i64 0, .int .i64 0, .int .i64 0, .int .i64 0, .int .i64 0, .int .i64 0, .int .i64 0, .slice none 0 0, .int .i64 0, .int .i64 0, .slice none 0 0] := IsZC.of (z := .agg #[.string ⟨#[]⟩, .int .i64 0, .int .i64 0, .int .i64 0, .int .i64 0, .int .i64 0, .int .i64 0, .int .i64 0, .int .i64 0, .int .i64 0, .int .i64 0, .int .i64 0, .int .i64 0, .int .i64 0, .int .i64 0, .slice none 0 0, .int .i64 0, .int .i64 0, .slice none 0 0]) (by kernel_rfl) rfl
instance iRtu3 : IsBd Tryz.prog 33 [(0, 1), (1, 1), (2, 7), (9, 4), (13, 3), (16, 3)] := IsBd.of (by kernel_rfl)
section
variable {w0 w w' : World} {b b2 b3 : Nat} {T : TypeId} {z c c' : List Value} {wo : Option Addr} {wc : Nat} {W : List ByteArray} {no : Option Addr} {nc : Nat} {nms : List ByteArray} {st st' : RSt}
theorem RW.two (h : RW w0 w b b2 b3 T z c wo wc W no nc nms st) (hT : Two w w' b b3) (hr : RRd w' b wo wc W no nc nms st') (hb : Blk w' b3 T c') : RW w0 w' b b2 b3 T z c' wo wc W no nc nms st' := by
  have h1 := h.lo; have h2 := h.lt; have h3 := h.lob
  have g := h.g
  exact ⟨hr, (hT.block b2 h.h2.lt (by omega) (by omega)).trans h.h2, hb, ⟨hT.os.trans g.os, hT.tape.trans g.tape, hT.output.trans g.output, Nat.le_trans g.size hT.size, fun x hx hn => (hT.block x (Nat.lt_of_lt_of_le hx g.size) (fun e => hn (by rw [e])) (by omega)).trans (g.block x hx hn)⟩, h1, h2, h3⟩
theorem head_join : ∀ l : List Bys, (l.headD []).length ≤ (joinS 32 l).length
  | [] => by simp
  | [x] => Nat.le_refl _
  | x :: y :: r => by simp only [List.headD_cons, joinS, List.length_append]; omega
theorem RRd.next_len (h : RRd w b wo wc W no nc nms st) : (nextW st).length ≤ 5000 := by
  unfold nextW
  split
  · simp
  · have h1 := head_join st.1
    have h2 := joinS_drop (W.map bysA) (W.length - st.1.length)
    rw [← h.dr] at h2
    have := h.tot
    omega
theorem RRd.next_ne (hx : nextW st ≠ []) : st.1 ≠ [] := fun e => hx (by unfold nextW; rw [e]; split <;> rfl)
end
set_option maxHeartbeats 4000000 in
theorem rrule_ok (w0 w : World) {b : Nat} {wo : Option Addr} {wc : Nat} {W : List ByteArray} {no : Option Addr} {nc : Nat} {nms : List ByteArray} {st : RSt} (h : RRd w b wo wc W no nc nms st) (he0 : st.2 = 0) (hX : Below b w0 w) (hb0 : w0.heap.size ≤ b) (hE : ErrH w0) {sa : Nat → Addr} (hSn : SenH w0 sa) :
    Rt Tryz.prog 27 [.pointer (some ⟨b, 0, none⟩)].toArray w fun v w' => ∃ lo lc co cc, v = rulV (ruleR nms st).1 lo lc co cc ∧ Sl w' (fun c => w.heap.size ≤ c ∧ c < w'.heap.size) lo lc (ruleR nms st).1.2.2.2.2.1.kids ∧ Sl w' (fun c => w.heap.size ≤ c ∧ c < w'.heap.size) co cc (ruleR nms st).1.2.2.2.2.2.kids ∧
      RRd w' b wo wc W no nc nms (ruleR nms st).2 ∧ w.grownBy w' (some b) := by
  have hWs := h.sz
  have lb := h.lt
  refine Rt.enter1 Tryz.func27 Tryz.ntmps27 rfl rfl ?_
  unfold ruleR
  (repeat (first | (apply CW.seq) | (apply CW.region)))
  refine WL.alloc rfl rfl (fun w1 hb2 x1 => ?_)
  have hr1 := h.ext x1
  have l2 := hb2.lt
  (repeat (first | (apply WL.pure; rfl; rfl; rfl) | (apply WL.nil) | (apply EX.thenN) | (apply CW.seq) | (apply CW.region)))
  refine WL.call rfl rfl rfl (next_ok w1 hr1) ?_
  rintro _ w2 ⟨rfl, x2⟩
  have hr2 := hr1.ext x2
  have hne1 := RRd.next_ne (st := st)
  generalize hnw : nextW st = nw at *
  skip
  refine WL.build (parts := [(0, .tmp 5)]) rfl rfl rfl rfl ?_
  refine WL.alloc rfl rfl (fun w3 hb3 x3 => ?_)
  refine WL.st rfl rfl rfl hb3 rfl rfl (ones_of rfl) (fun w4 hb3 hg4 => ?_)
  have z1 := x1.size
  have z2 := x2.size
  have l23 : w.heap.size < w2.heap.size := by omega
  have h : RW w w4 b w.heap.size w2.heap.size 33 (rul0 ⟨#[]⟩ 0) (rul0 (txA nw) 0) wo wc W no nc nms st :=
    ⟨(hr2.ext x3).keep hg4 (fun x e => by have := Option.some.inj e; omega), ((hb2.ext x2).ext x3).kept hg4 (fun e => by have := Option.some.inj e; omega), hb3, grN (((x1.trans x2).trans x3).grw _) hg4 (by omega), Nat.le_refl _, l23, lb⟩
  clear hb2 hb3 hr1 hr2 x1 x2 x3 hg4 z1 z2
  generalize w2.heap.size = b3 at *
  have hb3 := h.h3
  (repeat (first | (apply WL.nil) | (apply EX.thenN) | (apply CW.seq) | (apply CW.region) | (apply WL.fa; rfl; rfl; rfl) | (apply WL.ld; rfl; rfl; rfl; assumption; rfl)))
  refine WL.call rfl rfl rfl (Named_ok w4 (txA nw)) ?_
  rintro _ w5 ⟨rfl, x5⟩
  have h := h.ext x5
  have hnb : namedB (txA nw) = namedL nw := rfl
  rw [hnb]
  cases hn : namedL nw with
  | false =>
    rw [if_pos rfl]
    (repeat (first | (apply WL.pure; rfl; rfl; rfl) | (apply WL.nil) | (apply EX.thenN) | (apply CW.seq) | (apply CW.region) | (apply CW.condT; rfl)))
    refine WL.call rfl rfl rfl (fail_ok w5 h.rd 3) ?_
    rintro _ w6 ⟨rfl, h6, g6⟩
    have h := h.step h6 g6
    have hb3 := h.h3
    have hb2 := h.h2
    (repeat (first | (apply WL.nil) | (apply EX.thenN) | (apply CW.seq) | (apply CW.region) | (apply WL.ldA; rfl; rfl; rfl; assumption; rfl)))
    refine WL.st rfl rfl rfl hb2 rfl rfl (ones_of rfl) (fun wz hbz hgz => ?_)
    (repeat (first | (apply WL.nil) | (apply EX.thenN) | (apply CW.ret) | (apply EX.thenR)))
    have lt3 := h.lt
    have lo3 := h.lo
    have zz := hgz.size
    refine EX.retC rfl rfl hbz rfl ⟨_, _, _, _, rfl, Sl.zero _ _, Sl.zero _ _, h.rd.keep hgz (fun x e => by have := Option.some.inj e; omega), grN h.g hgz (Nat.le_refl _)⟩
  | true =>
  rw [if_neg (by decide)]
  have hb := h.rd.blk
  have hle := h.rd.le
  (repeat (first | (apply WL.add; rfl; rfl; rfl; rfl; omega; omega) | (apply WL.pure; rfl; rfl; rfl) | (apply WL.nil) | (apply EX.thenN) | (apply CW.seq) | (apply CW.region) | (apply WL.fa; rfl; rfl; rfl) | (apply WL.nck; rfl; rfl; rfl) | (apply WL.ld; rfl; rfl; rfl; assumption; rfl) | (apply CW.condF; rfl) | (apply CW.skip)))
  refine WL.st rfl rfl rfl hb rfl rfl (ones_of rfl) (fun w6 hb6 hg6 => ?_)
  have h := h.step (h.rd.took (hne1 (fun e => by rw [e] at hn; cases hn)) hg6 hb6) hg6
  clear hb hb6 hg6 hle hne1
  have hs1 : (takeW st).2 = 0 := he0
  generalize takeW st = s1 at *
  have lo6 := h.lo
  have lt6 := h.lt
  obtain ⟨w2s, hw2s⟩ : ∃ n, n = b3 := ⟨_, rfl⟩
  have hs0 : s1.2 = 0 := hs1
  (repeat (first | (apply WL.pure; rfl; rfl; rfl) | (apply WL.nil) | (apply EX.thenN) | (apply CW.seq) | (apply CW.region)))
  refine WL.call rfl rfl rfl (next_ok w6 h.rd) ?_
  rintro _ w7 ⟨rfl, x7⟩
  have h := h.ext x7
  have hne2 := RRd.next_ne (st := s1)
  generalize nextW s1 = nx at *
  (repeat (first | (apply WL.pure; rfl; rfl; rfl) | (apply WL.nil) | (apply EX.thenN) | (apply CW.seq) | (apply CW.region) | (apply CW.block)))
  by_cases hd : nx = tDecl
  · rw [if_pos hd]
    have hne2 := hne2 (by rw [hd]; decide)
    rw [show ((txA nx).data.toList == ({ data := #[100, 101, 99, 108, 97, 114, 101] } : ByteArray).data.toList) = true from beq_iff_eq.2 hd]
    (repeat (first | (apply WL.pure; rfl; rfl; rfl) | (apply CW.seq) | (apply CW.region) | (apply WL.fa; rfl; rfl; rfl) | (apply WL.nck; rfl; rfl; rfl) | (apply CW.condT; rfl)))
    have hb := h.rd.blk
    have hle := h.rd.le
    (repeat (first | (apply WL.add; rfl; rfl; rfl; rfl; omega; omega) | (apply WL.fa; rfl; rfl; rfl) | (apply WL.nck; rfl; rfl; rfl) | (apply WL.ld; rfl; rfl; rfl; assumption; rfl)))
    refine WL.st rfl rfl rfl hb rfl rfl (ones_of rfl) (fun wt hbt hgt => ?_)
    have h := h.step (h.rd.took hne2 hgt hbt) hgt
    clear hb hbt hgt hle
    generalize takeW s1 = s2 at *
    (repeat (first | (apply WL.pure; rfl; rfl; rfl) | (apply WL.nil) | (apply EX.thenN) | (apply CW.region)))
    refine WL.call rfl rfl rfl (rtpl_ok _ h.rd) ?_
    rintro _ w9 ⟨rfl, h9, g9⟩
    have h := h.step h9 g9
    generalize tplR nms s2 = pr at *
    obtain ⟨tp, s3⟩ := pr
    have hb3 := h.h3
    dsimp only at h ⊢
    (repeat (apply WL.fa; rfl; rfl; rfl))
    refine WL.st rfl rfl rfl hb3 rfl rfl (ones_of rfl) (fun wq hb hg => ?_)
    have h := h.put hb hg
    have hb3 := h.h3
    (repeat (apply WL.fa; rfl; rfl; rfl))
    refine WL.st rfl rfl rfl hb3 rfl rfl (ones_of rfl) (fun wq hb hg => ?_)
    have h := h.put hb hg
    have hb3 := h.h3
    have hb2 := h.h2
    (repeat (first | (apply WL.nil) | (apply EX.thenN) | (apply CW.seq) | (apply CW.region) | (apply WL.ldA; rfl; rfl; rfl; assumption; rfl) | (apply EX.inN)))
    refine WL.st rfl rfl rfl hb2 rfl rfl (ones_of rfl) (fun wz hbz hgz => ?_)
    (repeat (first | (apply WL.nil) | (apply EX.thenN) | (apply CW.ret)))
    have lt3 := h.lt
    have lo3 := h.lo
    have zz := hgz.size
    refine EX.retC rfl rfl hbz rfl ⟨_, _, _, _, rfl, Sl.zero _ _, Sl.zero _ _, h.rd.keep hgz (fun x e => by have := Option.some.inj e; omega), grN h.g hgz (Nat.le_refl _)⟩
  rw [if_neg hd]
  rw [show ((txA nx).data.toList == ({ data := #[100, 101, 99, 108, 97, 114, 101] } : ByteArray).data.toList) = false from beq_eq_false_iff_ne.2 hd]
  (repeat (first | (apply WL.pure; rfl; rfl; rfl) | (apply WL.nil) | (apply EX.thenN) | (apply CW.seq) | (apply CW.region) | (apply CW.condF; rfl)))
  by_cases hlt : nx = tLtl
  · rw [if_pos hlt]
    have hne2 := hne2 (by rw [hlt]; decide)
    rw [show ((txA nx).data.toList == ({ data := #[108, 116, 108] } : ByteArray).data.toList) = true from beq_iff_eq.2 hlt]
    have hb3 := h.h3
    (repeat (first | (apply CW.seq) | (apply CW.region) | (apply WL.fa; rfl; rfl; rfl) | (apply CW.condT; rfl)))
    refine WL.st rfl rfl rfl hb3 rfl rfl (ones_of rfl) (fun wf hbf hgf => ?_)
    have h := h.put hbf hgf
    have hXf : Below b w0 wf := hX.trans (⟨h.g.os, h.g.tape, h.g.output, h.g.size, fun x hx => h.g.block x (by omega) (fun e => by have := Option.some.inj e; omega)⟩)
    have ltf := h.lt
    have lof := h.lo
    (repeat (first | (apply WL.pure; rfl; rfl; rfl) | (apply WL.nil) | (apply EX.thenN) | (apply CW.region)))
    refine WL.call rfl rfl rfl (rformL_ok w0 wf h.rd hne2 hs0 h.h3 (by omega) hXf hb0 hE hSn) ?_
    rintro _ wg ⟨rfl, xo, xc, hbg, hxk, hrg, hTg⟩
    have h := h.two hTg hrg hbg
    have zgf := h.g.size
    have hlw : w.heap.size ≤ wf.heap.size := by have := Nat.le_of_lt ltf; have := hbf.lt; omega
    have hxk := hxk.mono (F' := fun c => w2s ≤ c ∧ c < wg.heap.size) (fun _ _ => rfl) (fun c hc => ⟨by have := hc.1; have := hbf.lt; omega, hc.2⟩)
    rw [hs0] at h
    rw [he0]
    have hb3 := h.h3
    have hb2 := h.h2
    (repeat (first | (apply WL.nil) | (apply EX.thenN) | (apply CW.seq) | (apply CW.region) | (apply WL.ldA; rfl; rfl; rfl; assumption; rfl) | (apply EX.inN)))
    refine WL.st rfl rfl rfl hb2 rfl rfl (ones_of rfl) (fun wz hbz hgz => ?_)
    (repeat (first | (apply WL.nil) | (apply EX.thenN) | (apply CW.ret)))
    have lt3 := h.lt
    have lo3 := h.lo
    have zz := hgz.size
    refine EX.retC rfl rfl hbz rfl ⟨_, _, _, _, rfl, hxk.mono (fun c hc => hgz.block c hc.2 (fun e => by have := Option.some.inj e; have := hc.1; omega)) (fun c hc => ⟨by have := hc.1; omega, Nat.lt_of_lt_of_le hc.2 zz⟩), Sl.zero _ _, h.rd.keep hgz (fun x e => by have := Option.some.inj e; omega), grN h.g hgz (Nat.le_refl _)⟩
  rw [if_neg hlt]
  rw [show ((txA nx).data.toList == ({ data := #[108, 116, 108] } : ByteArray).data.toList) = false from beq_eq_false_iff_ne.2 hlt]
  (repeat (first | (apply WL.pure; rfl; rfl; rfl) | (apply WL.nil) | (apply EX.thenN) | (apply CW.seq) | (apply CW.region) | (apply CW.condF; rfl)))
  by_cases hct : nx = tCtl
  · rw [if_pos hct]
    have hne2 := hne2 (by rw [hct]; decide)
    rw [show ((txA nx).data.toList == ({ data := #[99, 116, 108] } : ByteArray).data.toList) = true from beq_iff_eq.2 hct]
    have hb3 := h.h3
    (repeat (first | (apply CW.seq) | (apply CW.region) | (apply WL.fa; rfl; rfl; rfl) | (apply CW.condT; rfl)))
    refine WL.st rfl rfl rfl hb3 rfl rfl (ones_of rfl) (fun wf hbf hgf => ?_)
    have h := h.put hbf hgf
    have hXf : Below b w0 wf := hX.trans (⟨h.g.os, h.g.tape, h.g.output, h.g.size, fun x hx => h.g.block x (by omega) (fun e => by have := Option.some.inj e; omega)⟩)
    have ltf := h.lt
    have lof := h.lo
    (repeat (first | (apply WL.pure; rfl; rfl; rfl) | (apply WL.nil) | (apply EX.thenN) | (apply CW.region)))
    refine WL.call rfl rfl rfl (rformC_ok w0 wf h.rd hne2 hs0 h.h3 (by omega) hXf hb0 hE) ?_
    rintro _ wg ⟨rfl, xo, xc, hbg, hxk, hrg, hTg⟩
    have h := h.two hTg hrg hbg
    have zgf := h.g.size
    have hlw : w.heap.size ≤ wf.heap.size := by have := Nat.le_of_lt ltf; have := hbf.lt; omega
    have hxk := hxk.mono (F' := fun c => w2s ≤ c ∧ c < wg.heap.size) (fun _ _ => rfl) (fun c hc => ⟨by have := hc.1; have := hbf.lt; omega, hc.2⟩)
    rw [hs0] at h
    rw [he0]
    have hb3 := h.h3
    have hb2 := h.h2
    (repeat (first | (apply WL.nil) | (apply EX.thenN) | (apply CW.seq) | (apply CW.region) | (apply WL.ldA; rfl; rfl; rfl; assumption; rfl) | (apply EX.inN)))
    refine WL.st rfl rfl rfl hb2 rfl rfl (ones_of rfl) (fun wz hbz hgz => ?_)
    (repeat (first | (apply WL.nil) | (apply EX.thenN) | (apply CW.ret)))
    have lt3 := h.lt
    have lo3 := h.lo
    have zz := hgz.size
    refine EX.retC rfl rfl hbz rfl ⟨_, _, _, _, rfl, Sl.zero _ _, hxk.mono (fun c hc => hgz.block c hc.2 (fun e => by have := Option.some.inj e; have := hc.1; omega)) (fun c hc => ⟨by have := hc.1; omega, Nat.lt_of_lt_of_le hc.2 zz⟩), h.rd.keep hgz (fun x e => by have := Option.some.inj e; omega), grN h.g hgz (Nat.le_refl _)⟩
  rw [if_neg hct]
  rw [show ((txA nx).data.toList == ({ data := #[99, 116, 108] } : ByteArray).data.toList) = false from beq_eq_false_iff_ne.2 hct]
  (repeat (first | (apply WL.pure; rfl; rfl; rfl) | (apply CW.region) | (apply CW.condF; rfl)))
  refine WL.call rfl rfl rfl (rpat_ok _ h.rd) ?_
  rintro _ w9 ⟨rfl, h9, g9⟩
  have h := h.step h9 g9
  generalize patR nms s1 = pr at *
  obtain ⟨pt, s3⟩ := pr
  have hb3 := h.h3
  dsimp only at h ⊢
  (repeat (apply WL.fa; rfl; rfl; rfl))
  refine WL.st rfl rfl rfl hb3 rfl rfl (ones_of rfl) (fun wq hb hg => ?_)
  have h := h.put hb hg
  have hb3 := h.h3
  (repeat (apply WL.fa; rfl; rfl; rfl))
  refine WL.st rfl rfl rfl hb3 rfl rfl (ones_of rfl) (fun wq hb hg => ?_)
  have h := h.put hb hg
  have hb3 := h.h3
  have hb2 := h.h2
  (repeat (first | (apply WL.nil) | (apply EX.thenN) | (apply CW.seq) | (apply CW.region) | (apply WL.ldA; rfl; rfl; rfl; assumption; rfl) | (apply EX.inN)))
  refine WL.st rfl rfl rfl hb2 rfl rfl (ones_of rfl) (fun wz hbz hgz => ?_)
  (repeat (first | (apply WL.nil) | (apply EX.thenN) | (apply CW.ret)))
  have lt3 := h.lt
  have lo3 := h.lo
  have zz := hgz.size
  refine EX.retC rfl rfl hbz rfl ⟨_, _, _, _, rfl, Sl.zero _ _, Sl.zero _ _, h.rd.keep hgz (fun x e => by have := Option.some.inj e; omega), grN h.g hgz (Nat.le_refl _)⟩
end Go.Proofs.YtikigaeihdmcaaaGreatDoor

