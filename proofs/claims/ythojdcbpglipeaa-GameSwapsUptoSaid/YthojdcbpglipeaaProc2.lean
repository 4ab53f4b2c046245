/-
  Package proc: nodes, Check, Ins, Outs: walked.
-/
import Derived.Test.YthojdcbpglipeaaProc
import Derived.Test.YthojdcbpglipeaaLibB
import Derived.Test.YthojdcbpglipeaaTail
set_option linter.unusedVariables false
set_option linter.unusedSimpArgs false
namespace Go.Proofs.Ythojdcbpglipeaa
open Go.RowKit

theorem nodes1 (w : World) (m : LNode) (b : Nat) {x : LNode} (hb : Blk w b 82 [.string x.1, .int .i64 x.2]) :
    Rt Try.prog 179 [.agg [.string m.1, .int .i64 m.2].toArray, .pointer (some ⟨b, 0, none⟩)].toArray w fun v w' => v = .bool (nameEq m.1 x.1) ∧ Ext w w' := by
  refine Rt.enter2 Try.func179 Try.ntmps179 rfl rfl ?_
  (repeat (first | (apply CW.seq) | (apply CW.region)))
  refine WL.boxB rfl rfl rfl fun w1 hb1 e1 => ?_
  have hb := hb.ext e1
  (repeat (first | (apply WL.pure; rfl; rfl; rfl) | (apply WL.nil) | (apply EX.thenN) | (apply CW.seq) | (apply CW.region) | (apply WL.fa; rfl; rfl; rfl) | (apply WL.ld; rfl; rfl; rfl; assumption; rfl) | (apply CW.ret)))
  exact EX.ret1 rfl rfl ⟨rfl, e1⟩
theorem nodes_ok (w0 : World) {so fo : Option Addr} {sc fc k : Nat} {ns : List LNode} (hs : Sl w0 (Old w0) so sc ns) :
    Rt Try.prog 148 [procV so sc fo fc ns.length k].toArray w0 fun v w' => v = .int .i64 (nodesE ns) ∧ Ext w0 w' := by
  have hm := hs.len63
  have hle := hs.le
  refine Rt.enter1 Try.func148 Try.ntmps148 rfl rfl ?_
  (repeat (first | (apply CW.seq) | (apply CW.region)))
  refine WL.boxB rfl rfl rfl fun w1 hb1 e1 => ?_
  have hl1 := hb1.lt
  (repeat (first | (apply WL.pure; rfl; rfl; rfl) | (apply WL.nil) | (apply EX.thenN) | (apply CW.seq) | (apply CW.region) | (apply WL.lenS; rfl; rfl; rfl) | (apply WL.fa; rfl; rfl; rfl) | (apply WL.ld; rfl; rfl; rfl; assumption; rfl) | (apply CW.block)))
  refine CW.loop (S := Nat) (fun i => [(1, .pointer (some ⟨w0.heap.size, 0, none⟩)), (6, .slice so ns.length sc), (7, .int .i64 ns.length), (8, .int .i64 i)])
    (fun i w => i ≤ ns.length ∧ Ext w1 w ∧ ∀ j, j < i → nodeE ns j = 0) (fun i => ns.length - i) 0 (by repeat (first | exact trivial | refine ⟨rfl, ?_⟩)) ⟨by omega, Ext.refl _, by omega⟩ ?_
  rintro i w ⟨hi, e, hno⟩
  have hE := e1.trans e
  have hb1 := hb1.ext e
  (repeat (first | (apply WL.pure; rfl; rfl; rfl) | (apply WL.nil) | (apply EX.thenN) | (apply CW.seq) | (apply CW.region)))
  refine CW.cond rfl (fun h => ?_) (fun h => ?_)
  · have hi' : i < ns.length := by simp at h; omega
    have hnd := getDNd_at hi'
    (repeat (first | (apply WL.pure; rfl; rfl; rfl) | (apply EX.thenN) | (apply CW.seq) | (apply CW.region) | (apply CW.block) | (apply CW.skip)))
    refine WL.elemN rfl rfl rfl rfl rfl (hs.at hE) hi' (fun _ => rfl) (fun u q hu => ?_)
    obtain rfl := hu.node
    skip
    refine WL.alloc rfl rfl (fun w2 hb4 e2 => ?_)
    have hl4 := hb4.lt
    (repeat (apply WL.pure; rfl; rfl; rfl))
    refine WL.st rfl rfl rfl hb4 rfl rfl (ones_of rfl) (fun w3 hb4 hg3 => ?_)
    have e3 : Ext w w3 := e2.grown hg3 e2.size (fun g hg => by cases hg; exact Nat.le_refl _)
    have hb1 := hb1.ext e3
    have hE := hE.trans e3
    (repeat (first | (apply WL.nil) | (apply EX.thenN) | (apply CW.seq) | (apply CW.region) | (apply WL.fa; rfl; rfl; rfl) | (apply WL.ld; rfl; rfl; rfl; assumption; rfl)))
    refine WL.call rfl rfl rfl (Named_ok w3 ns[i].1) ?_
    rintro _ w4 ⟨rfl, e4⟩
    have hb1 := hb1.ext e4
    have hb4 := hb4.ext e4
    have hE := hE.trans e4
    have e34 := e3.trans e4
    have hbad : (!namedB ns[i].1 || decide (ns[i].2 < 1) || decide (ns[i].2 > 7)) = true → nodesE ns = 1 := fun hb => by
      have : nodeE ns i = 1 := by unfold nodeE; rw [hnd, if_pos hb]
      rw [nodesE_first hi' hno (by rw [this]; decide), this]
    (repeat (apply WL.pure; rfl; rfl; rfl))
    by_cases c1 : namedB ns[i].1 = true
    · rw [c1] at hbad ⊢
      (repeat (first | (apply WL.pure; rfl; rfl; rfl) | (apply WL.fa; rfl; rfl; rfl) | (apply WL.ld; rfl; rfl; rfl; assumption; rfl)))
      by_cases c2 : decide (ns[i].2 < 1) = true
      · rw [c2]
        (repeat (first | (apply WL.pure; rfl; rfl; rfl) | (apply WL.nil) | (apply EX.thenN) | (apply CW.seq) | (apply CW.region) | (apply WL.pass; rfl; rfl) | (apply CW.condT; rfl) | (apply CW.ret) | (apply EX.thenR) | (apply EX.inR)))
        refine EX.ret1 rfl rfl ⟨?_, hE⟩
        rw [hbad (by rw [c2]; rfl)]
      have c2 : decide (ns[i].2 < 1) = false := by simpa using c2
      rw [c2]
      (repeat (first | (apply WL.pure; rfl; rfl; rfl) | (apply WL.nil) | (apply EX.thenN) | (apply WL.fa; rfl; rfl; rfl) | (apply WL.ld; rfl; rfl; rfl; assumption; rfl)))
      by_cases c3 : decide (ns[i].2 > 7) = true
      · rw [c3]
        (repeat (first | (apply WL.pure; rfl; rfl; rfl) | (apply WL.nil) | (apply EX.thenN) | (apply CW.seq) | (apply CW.region) | (apply CW.condT; rfl) | (apply CW.ret) | (apply EX.thenR) | (apply EX.inR)))
        refine EX.ret1 rfl rfl ⟨?_, hE⟩
        rw [hbad (by rw [c2, c3]; rfl)]
      have c3 : decide (ns[i].2 > 7) = false := by simpa using c3
      rw [c3]
      (repeat (first | (apply WL.pure; rfl; rfl; rfl) | (apply EX.thenN) | (apply CW.seq) | (apply CW.region) | (apply WL.fa; rfl; rfl; rfl) | (apply WL.ld; rfl; rfl; rfl; assumption; rfl) | (apply CW.condF; rfl) | (apply CW.skip)))
      refine WL.cutHi (α := LNode) i rfl rfl rfl rfl rfl (by omega) ?_
      (repeat (apply WL.makeFunc; rfl; rfl; rfl; rfl))
      have hcut := (hs.up hE).take (k := i) (by omega)
      have htl : (ns.take i).length = i := by rw [List.length_take]; omega
      have hcf := containsFunc_node w4 (fv := .func (.func 179) [].toArray [.pointer (some ⟨w.heap.size, 0, none⟩)].toArray) (fun m => nameEq m.1 ns[i].1) hcut (fun w5 hw j hj u hu => by
        obtain rfl := hu.node
        exact FnV.mk (cs := [_]) (nodes1 w5 _ _ (hb4.ext hw)))
      rw [htl] at hcf
      refine WL.call rfl rfl rfl hcf ?_
      rintro _ w5 ⟨rfl, e5⟩
      have hb1 := hb1.ext e5
      (repeat (first | (apply WL.nil) | (apply EX.thenN)))
      refine CW.cond rfl (fun h2 => ?_) (fun h2 => ?_)
      · (repeat (first | (apply WL.pure; rfl; rfl; rfl) | (apply WL.nil) | (apply EX.thenN) | (apply CW.seq) | (apply CW.region) | (apply CW.ret) | (apply EX.thenR) | (apply EX.inR)))
        refine EX.ret1 rfl rfl ⟨?_, hE.trans e5⟩
        have : nodeE ns i = 4 := by unfold nodeE; rw [hnd, if_neg (by rw [show namedB ns[i].1 = true from c1, c2, c3]; simp), if_pos h2]
        rw [nodesE_first hi' hno (by rw [this]; decide), this]
      · (repeat (first | (apply WL.add; rfl; rfl; rfl; rfl; omega; omega) | (apply WL.pure; rfl; rfl; rfl) | (apply WL.nil) | (apply EX.thenN) | (apply CW.region) | (apply EX.inN) | (apply CW.skip)))
        refine EX.back (i + 1) (by repeat (first | exact trivial | refine ⟨rfl, ?_⟩)) ⟨hi', (e.trans e34).trans e5, fun j hj => ?_⟩ (by omega)
        by_cases ej : j = i
        · subst ej
          unfold nodeE; rw [hnd, if_neg (by rw [show namedB ns[j].1 = true from c1, c2, c3]; simp), if_neg (by rw [h2]; simp)]
        · exact hno j (by omega)
    · have c1 : namedB ns[i].1 = false := by simpa using c1
      rw [c1] at hbad ⊢
      (repeat (first | (apply WL.pure; rfl; rfl; rfl) | (apply WL.nil) | (apply EX.thenN) | (apply CW.seq) | (apply CW.region) | (apply WL.pass; rfl; rfl) | (apply CW.condT; rfl) | (apply CW.ret) | (apply EX.thenR) | (apply EX.inR)))
      refine EX.ret1 rfl rfl ⟨?_, hE⟩
      rw [hbad rfl]
  · obtain rfl : i = ns.length := by simp at h; omega
    (repeat (first | (apply WL.pure; rfl; rfl; rfl) | (apply WL.nil) | (apply EX.thenN) | (apply CW.seq) | (apply CW.region) | (apply CW.exit) | (apply EX.thenX) | (apply EX.inX) | (apply CW.ret)))
    refine EX.ret1 rfl rfl ⟨?_, hE⟩
    rw [nodesE_zero hno]

/- THE GRAPH OF THE FLOWS -/
def flowsP (n : Nat) (fl : List LFlow) (i : Nat) : Graph := flowsG n (fl.take i)
theorem flowsP_len {n : Nat} {fl : List LFlow} {i : Nat} : (flowsP n fl i).length = n := by simp [flowsP, flowsG]
theorem flowsP_zero {n : Nat} {fl : List LFlow} : flowsP n fl 0 = List.replicate n [] := by
  refine List.ext_getElem (by simp [flowsP, flowsG]) fun k h1 h2 => ?_
  simp [flowsP, flowsG]
theorem flowsP_get {n : Nat} {fl : List LFlow} {i k : Nat} (h : k < n) : (flowsP n fl i)[k]'(by rw [flowsP_len]; exact h) = ((fl.take i).filter fun f => f.1 == (k : Int)).map (·.2) := by simp [flowsP, flowsG]
theorem flowsP_next {n : Nat} {fl : List LFlow} {i a : Nat} {b : Int} (hi : i < fl.length) (hf : fl[i] = ((a : Int), b)) (ha : a < n) :
    (flowsP n fl i).set a ((((fl.take i).filter fun f => f.1 == (a : Int)).map (·.2)) ++ [b]) = flowsP n fl (i + 1) := by
  refine List.ext_getElem (by simp [flowsP_len]) fun k h1 h2 => ?_
  have hk : k < n := by rw [flowsP_len] at h2; exact h2
  rw [List.getElem_set, flowsP_get hk, flowsP_get hk, ← List.take_append_getElem hi, hf, List.filter_append, List.map_append]
  by_cases e : a = k
  · subst e; rw [if_pos rfl]; simp
  · rw [if_neg e]
    have : ((a : Int) == (k : Int)) = false := by simpa using fun h : (a : Int) = k => e (by omega)
    simp [List.filter_cons, this]
theorem flowsG_ok {n : Nat} {fl : List LFlow} (h : ∀ f ∈ fl, 0 ≤ f.2 ∧ f.2 < n) : okG (flowsG n fl) := by
  intro r hr x hx
  rw [show (flowsG n fl).length = n by simp [flowsG]]
  obtain ⟨k, _, rfl⟩ := List.mem_map.1 hr
  obtain ⟨f, hf, rfl⟩ := List.mem_map.1 hx
  exact h f (List.mem_filter.1 hf).1
theorem flowsG_edges {n : Nat} {fl : List LFlow} : edges (flowsG n fl) ≤ n * fl.length := by
  unfold edges flowsG
  rw [List.map_map]
  have : ∀ m : List Nat, (m.map (List.length ∘ fun k : Nat => (fl.filter fun f => f.1 == (k : Int)).map (·.2))).sum ≤ m.length * fl.length := fun m => by
    induction m with
    | nil => simp
    | cons a m ih =>
      simp only [List.map_cons, List.sum_cons, List.length_cons, Nat.add_mul, Nat.one_mul]
      have : (List.length ∘ fun k : Nat => (fl.filter fun f => f.1 == (k : Int)).map (·.2)) a ≤ fl.length := by
        show ((fl.filter fun f => f.1 == (a : Int)).map (·.2)).length ≤ _
        rw [List.length_map]; exact List.length_filter_le _ _
      omega
  have := this (List.range n)
  rwa [List.length_range] at this
theorem startsL_next {ns : List LNode} {k : Nat} : startsL ns (k + 1) = startsL ns k ++ if ((ns.getD k (⟨#[]⟩, 0)).2 == 1) = true then [k] else [] := by
  unfold startsL
  rw [List.range_succ, List.filter_append]
  congr 1
  by_cases e : ((ns.getD k (⟨#[]⟩, 0)).2 == 1) = true
  · rw [if_pos e]; simp only [List.filter_cons, e, List.filter_nil]; rfl
  · rw [if_neg e]; simp only [List.filter_cons, e, List.filter_nil]; rfl
def lastI (l : List Nat) : Int := (l.getLast?.map fun n : Nat => (n : Int)).getD (-1)
theorem startsL_len {ns : List LNode} {k : Nat} : (startsL ns k).length ≤ k := by
  unfold startsL; exact Nat.le_trans (List.length_filter_le _ _) (by simp)
theorem chkR_eq {ns : List LNode} {fl : List LFlow} {s : Nat} (h : startsL ns ns.length = [s]) : chkR (ns, fl) = if (rchB (flowsG ns.length fl) [(s : Int)]).contains false = true then 6 else 0 := by
  have hgl : (flowsG ns.length fl).length = ns.length := by simp [flowsG]
  have hiff : (∃ n, n < ns.length ∧ ¬ Rch (flowsG ns.length fl) (((startsL ns ns.length).getLast?.map fun n : Nat => (n : Int)).toList) n) ↔ (rchB (flowsG ns.length fl) [(s : Int)]).contains false = true := by
    rw [h, List.contains_iff_mem, List.mem_iff_getElem]
    show (∃ n, n < ns.length ∧ ¬ Rch (flowsG ns.length fl) [(s : Int)] n) ↔ _
    constructor
    · rintro ⟨n, hn, hr⟩
      have hn' : n < (rchB (flowsG ns.length fl) [(s : Int)]).length := by rw [rchB_len, hgl]; exact hn
      refine ⟨n, hn', ?_⟩
      rw [← Bool.not_eq_true, rchB_iff hn']; exact hr
    · rintro ⟨n, hn, he⟩
      have hn' : n < ns.length := by rw [rchB_len, hgl] at hn; exact hn
      exact ⟨n, hn', fun hr => by rw [(rchB_iff hn).2 hr] at he; cases he⟩
  unfold chkR
  by_cases hc : (rchB (flowsG ns.length fl) [(s : Int)]).contains false = true
  · rw [if_pos hc]; exact if_pos (hiff.2 hc)
  · rw [if_neg hc]; exact if_neg (fun h => hc (hiff.1 h))
theorem Check_pr (w0 : World) {so fo : Option Addr} {sc fc : Nat} {ns : List LNode} {fl : List LFlow} (hs : Sl w0 (Old w0) so sc ns) (hf : Sl w0 (Old w0) fo fc fl) :
    Rt Try.prog 96 [procV so sc fo fc ns.length fl.length].toArray w0 fun v w' => v = .int .i64 (chkPr (ns, fl)) ∧ Ext w0 w' := by
  have hms := hs.len63
  have hmf := hf.len63
  refine Rt.enter1 Try.func96 Try.ntmps96 rfl rfl ?_
  have hE := Ext.refl w0
  (repeat (first | (apply CW.seq) | (apply CW.region)))
  refine WL.boxB rfl rfl rfl fun w1 hb1 e1 => ?_
  have hE := hE.trans e1
  unfold chkPr
  dsimp only
  (repeat (first | (apply WL.pure; rfl; rfl; rfl) | (apply WL.nil) | (apply EX.thenN) | (apply CW.seq) | (apply CW.region) | (apply WL.lenS; rfl; rfl; rfl) | (apply WL.fa; rfl; rfl; rfl) | (apply WL.ld; rfl; rfl; rfl; assumption; rfl)))
  (refine WL.lookG rfl rfl (fun h => ?_) (fun h => ?_))
  · (repeat (first | (apply WL.pure; rfl; rfl; rfl) | (apply WL.nil) | (apply EX.thenN) | (apply CW.seq) | (apply CW.region) | (apply WL.pass; rfl; rfl) | (apply CW.condT; rfl) | (apply CW.ret) | (apply EX.thenR)))
    refine EX.ret1 rfl rfl ⟨?_, hE⟩
    rw [if_pos (.inl (by simp at h; omega))]
  have c1 : ns.length ≤ 20 := by simp at h; omega
  clear h
  (repeat (first | (apply WL.pure; rfl; rfl; rfl) | (apply WL.nil) | (apply EX.thenN) | (apply WL.lenS; rfl; rfl; rfl) | (apply WL.fa; rfl; rfl; rfl) | (apply WL.ld; rfl; rfl; rfl; assumption; rfl)))
  refine CW.cond rfl (fun h => ?_) (fun h => ?_)
  · (repeat (first | (apply WL.pure; rfl; rfl; rfl) | (apply WL.nil) | (apply EX.thenN) | (apply CW.seq) | (apply CW.region) | (apply CW.ret) | (apply EX.thenR)))
    refine EX.ret1 rfl rfl ⟨?_, hE⟩
    rw [if_pos (.inr (by simp at h; omega))]
  have c2 : fl.length ≤ 30 := by simp at h; omega
  clear h
  rw [if_neg (by omega)]
  (repeat (first | (apply EX.thenN) | (apply CW.seq) | (apply CW.region) | (apply WL.ldA; rfl; rfl; rfl; assumption; rfl) | (apply CW.skip)))
  refine WL.call rfl rfl rfl (nodes_ok w1 (hs.up hE)) ?_
  rintro _ w2 ⟨rfl, e2⟩
  have hb1 := hb1.ext e2
  have hE := hE.trans e2
  (repeat (first | (apply WL.pure; rfl; rfl; rfl) | (apply WL.nil) | (apply EX.thenN) | (apply CW.seq) | (apply CW.region)))
  refine CW.cond rfl (fun h => ?_) (fun h => ?_)
  · have h : nodesE ns ≠ 0 := by simpa using h
    (repeat (first | (apply WL.pure; rfl; rfl; rfl) | (apply WL.nil) | (apply EX.thenN) | (apply CW.seq) | (apply CW.region) | (apply CW.ret) | (apply EX.thenR)))
    refine EX.ret1 rfl rfl ⟨?_, hE⟩
    rw [if_pos h]
  have h : nodesE ns = 0 := by simpa using h
  rw [if_neg (by simp [h])]
  clear h e1 e2
  have z2 := hE.size
  (repeat (first | (apply EX.thenN) | (apply CW.seq) | (apply CW.region) | (apply WL.lenS; rfl; rfl; rfl) | (apply WL.fa; rfl; rfl; rfl) | (apply WL.ld; rfl; rfl; rfl; assumption; rfl) | (apply CW.skip)))
  refine WL.make (α := Raw) rfl rfl rfl rfl (by omega) (by unfold maxLen; omega) (fun w3 ho3 hg3 => ?_)
  have e3 : Ext w2 w3 := (Below.refl _ _).grown hg3 (Nat.le_refl _) (fun k h => by cases h)
  have hN3 : OwnN w3 w2.heap.size 22 3 (.slice (some ⟨w2.heap.size, 0, none⟩) ns.length ns.length) _ (List.replicate ns.length ([] : List Int)) := OwnN.made ho3
  rw [← flowsP_zero (fl := fl)] at hN3
  have hb13 := hb1.ext e3
  clear ho3 hg3
  (repeat (first | (apply WL.pure; rfl; rfl; rfl) | (apply WL.nil) | (apply EX.thenN) | (apply CW.seq) | (apply CW.region) | (apply WL.lenS; rfl; rfl; rfl) | (apply WL.fa; rfl; rfl; rfl) | (apply WL.ld; rfl; rfl; rfl; assumption; rfl) | (apply CW.block)))
  refine CW.loop (S := Nat × List Raw) (fun s => [(1, .pointer (some ⟨w0.heap.size, 0, none⟩)), (4, .slice (some ⟨w2.heap.size, 0, none⟩) ns.length ns.length), (35, .slice fo fl.length fc), (36, .int .i64 fl.length), (37, .int .i64 s.1)])
    (fun s w => s.1 ≤ fl.length ∧ (∀ f ∈ fl.take s.1, flowOdd ns.length f = false) ∧ OwnN w w2.heap.size 22 3 (.slice (some ⟨w2.heap.size, 0, none⟩) ns.length ns.length) s.2 (flowsP ns.length fl s.1) ∧ Ext w2 w) (fun s => fl.length - s.1) (0, _) (by repeat (first | exact trivial | refine ⟨rfl, ?_⟩)) ⟨Nat.zero_le _, (fun f hf => by simp at hf), hN3, e3⟩ ?_
  rintro ⟨i, vs⟩ w4 ⟨hi, hev, hN, e4⟩
  dsimp only at hi hev hN ⊢
  have hE4 := hE.trans e4
  have hN4 := hN
  have hsz : w2.heap.size < w4.heap.size := (hN.out.lt _ rfl).2.1
  (repeat (first | (apply WL.pure; rfl; rfl; rfl) | (apply WL.nil) | (apply EX.thenN) | (apply CW.seq) | (apply CW.region)))
  refine CW.cond rfl (fun h => ?_) (fun h => ?_)
  · have hi' : i < fl.length := by simp at h; omega
    have hbad : flowOdd ns.length fl[i] = true → (if fl.any (flowOdd ns.length) = true then (1 : Int) else if (startsL ns ns.length).length ≠ 1 then 1 else if (List.range ns.length).any (badCount (ns, fl)) = true then 1 else chkR (ns, fl)) = 1 := fun hb => by
      rw [if_pos (List.any_eq_true.2 ⟨_, List.getElem_mem hi', hb⟩)]
    (repeat (first | (apply EX.thenN) | (apply CW.seq) | (apply CW.region) | (apply CW.block) | (apply CW.skip)))
    refine WL.elemN rfl rfl rfl rfl rfl (hf.at hE4) hi' (fun _ => rfl) (fun u q hu => ?_)
    obtain rfl := hu.flow
    skip
    refine WL.alloc rfl rfl (fun w5 hb6 e5 => ?_)
    skip
    refine WL.st rfl rfl rfl hb6 rfl rfl (ones_of rfl) (fun w6 hb6 hg6 => ?_)
    have e6 : Ext w4 w6 := e5.grown hg6 e5.size (fun g hg => by cases hg; exact Nat.le_refl _)
    have hN := hN.ext e6
    have hE6 := hE4.trans e6
    have e26 := e4.trans e6
    (repeat (first | (apply WL.pure; rfl; rfl; rfl) | (apply WL.nil) | (apply EX.thenN) | (apply CW.seq) | (apply CW.region) | (apply WL.fa; rfl; rfl; rfl) | (apply WL.ld; rfl; rfl; rfl; assumption; rfl)))
    by_cases d1 : decide (fl[i].1 < 0) = true
    · rw [d1]
      (repeat (first | (apply WL.pure; rfl; rfl; rfl) | (apply WL.nil) | (apply EX.thenN) | (apply CW.seq) | (apply CW.region) | (apply WL.pass; rfl; rfl) | (apply CW.condT; rfl) | (apply CW.ret) | (apply EX.thenR) | (apply EX.inR)))
      refine EX.ret1 rfl rfl ⟨?_, hE6⟩
      rw [hbad (by unfold flowOdd; rw [d1]; rfl)]
    have d1 : decide (fl[i].1 < 0) = false := by simpa using d1
    rw [d1]
    (repeat (first | (apply WL.pure; rfl; rfl; rfl) | (apply WL.lenS; rfl; rfl; rfl) | (apply WL.fa; rfl; rfl; rfl) | (apply WL.ld; rfl; rfl; rfl; assumption; rfl)))
    by_cases d2 : decide (fl[i].1 ≥ (ns.length : Int)) = true
    · rw [d2]
      (repeat (first | (apply WL.pure; rfl; rfl; rfl) | (apply WL.nil) | (apply EX.thenN) | (apply CW.seq) | (apply CW.region) | (apply WL.pass; rfl; rfl) | (apply CW.condT; rfl) | (apply CW.ret) | (apply EX.thenR) | (apply EX.inR)))
      refine EX.ret1 rfl rfl ⟨?_, hE6⟩
      rw [hbad (by unfold flowOdd; rw [d1, d2]; rfl)]
    have d2 : decide (fl[i].1 ≥ (ns.length : Int)) = false := by simpa using d2
    rw [d2]
    (repeat (first | (apply WL.pure; rfl; rfl; rfl) | (apply WL.fa; rfl; rfl; rfl) | (apply WL.ld; rfl; rfl; rfl; assumption; rfl)))
    by_cases d3 : decide (fl[i].2 < 0) = true
    · rw [d3]
      (repeat (first | (apply WL.pure; rfl; rfl; rfl) | (apply WL.nil) | (apply EX.thenN) | (apply CW.seq) | (apply CW.region) | (apply WL.pass; rfl; rfl) | (apply CW.condT; rfl) | (apply CW.ret) | (apply EX.thenR) | (apply EX.inR)))
      refine EX.ret1 rfl rfl ⟨?_, hE6⟩
      rw [hbad (by unfold flowOdd; rw [d1, d2, d3]; rfl)]
    have d3 : decide (fl[i].2 < 0) = false := by simpa using d3
    rw [d3]
    (repeat (first | (apply WL.pure; rfl; rfl; rfl) | (apply WL.nil) | (apply EX.thenN) | (apply WL.lenS; rfl; rfl; rfl) | (apply WL.fa; rfl; rfl; rfl) | (apply WL.ld; rfl; rfl; rfl; assumption; rfl)))
    refine CW.cond rfl (fun d4 => ?_) (fun d4 => ?_)
    · (repeat (first | (apply WL.pure; rfl; rfl; rfl) | (apply WL.nil) | (apply EX.thenN) | (apply CW.seq) | (apply CW.region) | (apply CW.ret) | (apply EX.thenR) | (apply EX.inR)))
      refine EX.ret1 rfl rfl ⟨?_, hE6⟩
      rw [hbad (by unfold flowOdd; rw [d1, d2, d3, d4]; rfl)]
    have hgd : flowOdd ns.length fl[i] = false := by unfold flowOdd; rw [d1, d2, d3, d4]; rfl
    simp at d1 d2 d3 d4
    obtain ⟨a, ea⟩ := Int.eq_ofNat_of_zero_le d1
    have han : a < ns.length := by omega
    have hfi : fl[i] = ((a : Int), fl[i].2) := by rw [← ea]
    have hnext := flowsP_next hi' hfi han
    have hlen := hN.len
    rw [flowsP_len] at hlen
    have hav : a < vs.length := by omega
    have hd := Ext.drew w6
    have hNd := hN.ext hd
    have hb6d := hb6.ext hd
    have hin := hNd.inn a hav (by rw [flowsP_len]; exact han)
    rw [flowsP_get han] at hin
    have hrl : (((fl.take i).filter fun f => f.1 == (a : Int)).map (·.2)).length ≤ 30 := by
      rw [List.length_map]; exact Nat.le_trans (List.length_filter_le _ _) (by rw [List.length_take]; omega)
    obtain ⟨oo, oc, hov, hout⟩ := hNd.out.slF (F' := fun b => b = w2.heap.size) (fun _ h => h.elim) (fun g hg => by cases hg; rfl)
    obtain ⟨rfl, _, rfl⟩ := Value.slice.inj hov
    rw [← hlen] at hout
    have hsz6 := e6.size
    have hszd := hd.size
    have hl6 := hb6.lt
    rw [ea] at hb6d
    (repeat (first | (apply EX.thenN) | (apply CW.skip)))
    have hK : ∀ z, (fun z : World => ∀ b, b = w2.heap.size ∨ b = w4.heap.size → z.heap[b]? = (drew w6).heap[b]?) z → z.heap[w4.heap.size]? = (drew w6).heap[w4.heap.size]? := fun z hz => hz _ (.inr rfl)
    refine CW.drawE (fun z : World => ∀ b, b = w2.heap.size ∨ b = w4.heap.size → z.heap[b]? = (drew w6).heap[b]?) [(0, true), (1, true), (2, true), (3, true), (4, true), (5, true), (6, true), (7, true), (8, true), (9, true), (10, false), (11, false), (12, true)] 13 mixed (by kernel_rfl) (fun _ _ => rfl) ?_
    (repeat (first | (apply HL.pure; rfl; rfl; rfl; rfl) | (refine HL.fa rfl rfl rfl rfl ?_) | (refine HL.ldK (by assumption) rfl rfl rfl rfl (by assumption) rfl ?_)))
    rw [← hlen]
    refine HL.elemK (w := drew w6) (F := fun b => b = w2.heap.size) (fun z hz b hb => hz b (.inl hb)) rfl rfl rfl rfl rfl rfl rfl hout hav (fun _ => rfl) (fun u q hu => ?_)
    obtain ⟨rfl, _⟩ := hu.raw
    rw [hlen]
    (repeat (first | (refine HL.fa rfl rfl rfl rfl ?_) | (refine HL.ldK (by assumption) rfl rfl rfl rfl (by assumption) rfl ?_)))
    refine HL.app1 (bytes := 8) rfl rfl rfl rfl (fun _ => rfl) rfl rfl (fun _ => rfl) hin (Rd.mkInt _ _ _) (by omega) (fun _ h => h.elim) (by decide) (by unfold maxLen; omega) (by omega)
      (fun z hz b hb => hz.block b (by omega) (fun e => ?_)) (fun v' w7 p ho7 hg7 hnb => ?_)
    · rcases hb with rfl | rfl
      · exact hNd.dio a hav _ e.symm rfl
      · exact absurd ((hN4.inn a hav (by rw [flowsP_len]; exact han)).lt _ e.symm).2.1 (Nat.lt_irrefl _)
    rw [hfi] at ho7
    have hmid := hNd.mid hav hg7
    skip
    refine HL.setTail (yv := (⟨v'⟩ : Raw)) rfl rfl rfl rfl rfl rfl hmid hav (fun _ => rfl) (fun _ => rfl) (Rd.mkRaw _ _ _ ?_) (fun w8 q ho8 hg8 => ?_)
    · obtain ⟨a, b, rfl⟩ := ho7.val; rfl
    have hN8 := hNd.set hav ho7 hg7 hnb ho8 hg8
    rw [hnext] at hN8
    have e26d := e26.trans hd
    have e8 : Ext w2 w8 := (e26d.grown hg7 e26d.size (fun b hb => (hin.lt b hb).1)).grown hg8 (Nat.le_trans e26d.size hg7.size) (fun b hb => (hNd.out.lt b hb).1)
    (repeat (first | (apply WL.add; rfl; rfl; rfl; rfl; omega; omega) | (apply WL.pure; rfl; rfl; rfl) | (apply WL.nil) | (apply EX.thenN) | (apply CW.region) | (apply EX.inN)))
    refine EX.back (i + 1, vs.set a ⟨v'⟩) (by repeat (first | exact trivial | refine ⟨rfl, ?_⟩)) ⟨hi', fun f hf' => ?_, hN8, e8⟩ (by dsimp only; omega)
    dsimp only at hf'
    rw [← List.take_append_getElem hi'] at hf'
    rcases List.mem_append.1 hf' with h1 | h1
    · exact hev f h1
    · rw [List.mem_singleton] at h1; subst h1; exact hgd
  obtain rfl : i = fl.length := by simp at h; omega
  rw [List.take_length] at hev
  have hany : fl.any (flowOdd ns.length) = false := List.any_eq_false.2 (fun f hf => by simp [hev f hf])
  have hfok : ∀ f ∈ fl, 0 ≤ f.1 ∧ f.1 < ns.length ∧ 0 ≤ f.2 ∧ f.2 < ns.length := fun f hf => by
    have := hev f hf
    unfold flowOdd at this
    simp at this
    omega
  rw [if_neg (by rw [hany]; simp)]
  have hgG : flowsP ns.length fl fl.length = flowsG ns.length fl := by unfold flowsP; rw [List.take_length]
  rw [hgG] at hN
  have hgl : (flowsG ns.length fl).length = ns.length := by simp [flowsG]
  have hgok : okG (flowsG ns.length fl) := by
    intro r hr x hx
    rw [hgl]
    obtain ⟨k, _, rfl⟩ := List.mem_map.1 hr
    obtain ⟨f, hf, rfl⟩ := List.mem_map.1 hx
    exact (hfok f (List.mem_filter.1 hf).1).2.2
  have hge := flowsG_edges (n := ns.length) (fl := fl)
  have hge2 : ns.length * fl.length ≤ 20 * 30 := Nat.mul_le_mul c1 c2
  obtain ⟨go, gc, hgv, hg⟩ := hN.old.sl
  rw [hgl] at hgv
  obtain ⟨rfl, _, rfl⟩ := Value.slice.inj hgv
  have hb14 := hb1.ext e4
  clear h hi hev hN hN4 hN3 hany hgv
  (repeat (first | (apply WL.pure; rfl; rfl; rfl) | (apply WL.nil) | (apply EX.thenN) | (apply CW.seq) | (apply CW.region) | (apply WL.lenS; rfl; rfl; rfl) | (apply WL.fa; rfl; rfl; rfl) | (apply WL.ld; rfl; rfl; rfl; assumption; rfl) | (apply CW.block) | (apply CW.exit) | (apply EX.thenX) | (apply EX.inX)))
  refine CW.loop (S := Nat) (fun i => [(1, .pointer (some ⟨w0.heap.size, 0, none⟩)), (4, .slice (some ⟨w2.heap.size, 0, none⟩) ns.length ns.length), (7, .int .i64 (lastI (startsL ns i))), (8, .int .i64 ((startsL ns i).length : Int)), (78, .slice so ns.length sc), (79, .int .i64 ns.length), (80, .int .i64 i)])
    (fun i w => i ≤ ns.length ∧ Ext w4 w) (fun i => ns.length - i) 0 (by repeat (first | exact trivial | refine ⟨rfl, ?_⟩)) ⟨by omega, Ext.refl _⟩ ?_
  rintro i w5 ⟨hi, e5⟩
  have hE5 := hE4.trans e5
  have hnext := startsL_next (ns := ns) (k := i)
  have hsl := startsL_len (ns := ns) (k := i)
  (repeat (first | (apply WL.pure; rfl; rfl; rfl) | (apply WL.nil) | (apply EX.thenN) | (apply CW.seq) | (apply CW.region)))
  refine CW.cond rfl (fun h => ?_) (fun h => ?_)
  · have hi' : i < ns.length := by simp at h; omega
    rw [getDNd_at hi'] at hnext
    (repeat (first | (apply WL.pure; rfl; rfl; rfl) | (apply EX.thenN) | (apply CW.seq) | (apply CW.region) | (apply CW.block) | (apply CW.skip)))
    refine WL.elemN rfl rfl rfl rfl rfl (hs.at hE5) hi' (fun _ => rfl) (fun u q hu => ?_)
    obtain rfl := hu.node
    skip
    refine WL.alloc rfl rfl (fun w6 hb10 e6 => ?_)
    (repeat (apply WL.pure; rfl; rfl; rfl))
    refine WL.st rfl rfl rfl hb10 rfl rfl (ones_of rfl) (fun w7 hb10 hg7 => ?_)
    have e7 : Ext w5 w7 := e6.grown hg7 e6.size (fun g hg => by cases hg; exact Nat.le_refl _)
    (repeat (first | (apply WL.pure; rfl; rfl; rfl) | (apply WL.nil) | (apply EX.thenN) | (apply CW.seq) | (apply CW.region) | (apply WL.fa; rfl; rfl; rfl) | (apply WL.ld; rfl; rfl; rfl; assumption; rfl)))
    refine CW.cond rfl (fun h2 => ?_) (fun h2 => ?_)
    · rw [if_pos h2] at hnext
      have hn1 : ((startsL ns i).length : Int) + 1 = ((startsL ns (i + 1)).length : Int) := by rw [hnext]; simp
      have hn2 : (i : Int) = lastI (startsL ns (i + 1)) := by rw [hnext]; simp [lastI]
      (repeat (first | (apply WL.add; rfl; rfl; rfl; rfl; omega; omega) | (apply WL.pure; rfl; rfl; rfl) | (apply WL.nil) | (apply EX.thenN) | (apply CW.seq) | (apply CW.region) | (apply EX.inN)))
      refine EX.back (i + 1) ⟨rfl, rfl, ?_, ?_, rfl, rfl, rfl, trivial⟩ ⟨hi', e5.trans e7⟩ (by omega)
      · rw [← hn2]; rfl
      · rw [← hn1]; rfl
    · rw [if_neg (by rw [h2]; simp), List.append_nil] at hnext
      (repeat (first | (apply WL.add; rfl; rfl; rfl; rfl; omega; omega) | (apply WL.pure; rfl; rfl; rfl) | (apply WL.nil) | (apply EX.thenN) | (apply CW.region) | (apply EX.inN) | (apply CW.skip)))
      refine EX.back (i + 1) ?_ ⟨hi', e5.trans e7⟩ (by omega)
      rw [hnext]; exact (by repeat (first | exact trivial | refine ⟨rfl, ?_⟩))
  obtain rfl : i = ns.length := by simp at h; omega
  have hb15 := hb14.ext e5
  clear h hi hnext
  (repeat (first | (apply WL.pure; rfl; rfl; rfl) | (apply WL.nil) | (apply EX.thenN) | (apply CW.seq) | (apply CW.region) | (apply CW.exit) | (apply EX.thenX) | (apply EX.inX)))
  refine CW.cond rfl (fun h => ?_) (fun h => ?_)
  · have h : (startsL ns ns.length).length ≠ 1 := by simp at h; omega
    (repeat (first | (apply WL.pure; rfl; rfl; rfl) | (apply WL.nil) | (apply EX.thenN) | (apply CW.seq) | (apply CW.region) | (apply CW.ret) | (apply EX.thenR)))
    refine EX.ret1 rfl rfl ⟨?_, hE5⟩
    rw [if_pos h]
  have h1 : (startsL ns ns.length).length = 1 := by simp at h; omega
  rw [if_neg (by omega)]
  obtain ⟨s, hs1⟩ := List.length_eq_one_iff.1 h1
  have hsn : s < ns.length := by
    have : s ∈ startsL ns ns.length := by rw [hs1]; simp
    unfold startsL at this
    exact List.mem_range.1 (List.mem_filter.1 this).1
  rw [chkR_eq hs1, hs1]
  rw [show lastI [s] = (s : Int) from rfl]
  clear h
  (repeat (first | (apply WL.pure; rfl; rfl; rfl) | (apply WL.nil) | (apply EX.thenN) | (apply CW.seq) | (apply CW.region) | (apply WL.lenS; rfl; rfl; rfl) | (apply WL.fa; rfl; rfl; rfl) | (apply WL.ld; rfl; rfl; rfl; assumption; rfl) | (apply CW.block) | (apply CW.skip)))
  refine CW.loop (S := Nat) (fun i => [(1, .pointer (some ⟨w0.heap.size, 0, none⟩)), (4, .slice (some ⟨w2.heap.size, 0, none⟩) ns.length ns.length), (7, .int .i64 (s : Int)), (95, .slice so ns.length sc), (96, .int .i64 ns.length), (97, .int .i64 i)])
    (fun i w => i ≤ ns.length ∧ Ext w5 w ∧ ∀ j, j < i → badCount (ns, fl) j = false) (fun i => ns.length - i) 0 (by repeat (first | exact trivial | refine ⟨rfl, ?_⟩)) ⟨by omega, Ext.refl _, by omega⟩ ?_
  rintro i w6 ⟨hi, e6, hno⟩
  have hE6 := hE5.trans e6
  have hb16 := hb15.ext e6
  (repeat (first | (apply WL.pure; rfl; rfl; rfl) | (apply WL.nil) | (apply EX.thenN) | (apply CW.seq) | (apply CW.region)))
  refine CW.cond rfl (fun h => ?_) (fun h => ?_)
  · have hi' : i < ns.length := by simp at h; omega
    have hnd := getDNd_at hi'
    (repeat (first | (apply WL.pure; rfl; rfl; rfl) | (apply EX.thenN) | (apply CW.seq) | (apply CW.region) | (apply CW.block) | (apply CW.skip)))
    refine WL.elemN rfl rfl rfl rfl rfl (hs.at hE6) hi' (fun _ => rfl) (fun u q hu => ?_)
    obtain rfl := hu.node
    skip
    refine WL.alloc rfl rfl (fun w7 hb12 e7 => ?_)
    (repeat (apply WL.pure; rfl; rfl; rfl))
    refine WL.st rfl rfl rfl hb12 rfl rfl (ones_of rfl) (fun w8 hb12 hg8 => ?_)
    have e8 : Ext w6 w8 := e7.grown hg8 e7.size (fun g hg => by cases hg; exact Nat.le_refl _)
    have hb18 := hb16.ext e8
    have hE8 := hE6.trans e8
    have hd := Ext.drew w8
    have hSE : ∀ x, (fun x => Ext w8 x) x → Ext w8 x := fun _ h => h
    have hb12d := hb12
    (repeat (first | (apply WL.nil) | (apply EX.thenN) | (apply CW.seq)))
    refine CW.drawH (fun x => Ext w8 x) [(0, true), (1, true), (2, true), (3, true), (6, true), (7, true), (4, false), (5, true), (8, false), (9, true), (10, false), (11, true)] mixed (by kernel_rfl) (Ext.drew w8) ?_
    (repeat (first | (apply HL.pure; rfl; rfl; rfl; rfl) | (refine HL.fa rfl rfl rfl rfl ?_) | (refine HL.ld (by assumption) rfl rfl rfl rfl (by assumption) rfl ?_) | (refine HL.ldA (by assumption) rfl rfl rfl rfl (by assumption) rfl ?_)))
    refine HL.mut rfl (WL.call rfl rfl rfl (ins_ok (drew w8) (hf.up (hE8.trans hd)) (i : Int) (by omega)) ?_)
    rintro iv w9 ⟨hoi, e9⟩
    have hT9 := hd.trans e9
    obtain ⟨iao, ica, rfl⟩ := hoi.val
    refine WL.nil (EX.mut hT9 ?_)
    (repeat (refine HL.lenS rfl rfl rfl rfl ?_))
    refine HL.mut rfl (WL.call rfl rfl rfl (outs_ok w9 (hf.up (hE8.trans hT9)) (i : Int) (by omega)) ?_)
    rintro ov w10 ⟨hoo, e10⟩
    have hT10 := hT9.trans e10
    obtain ⟨oao, oca, rfl⟩ := hoo.val
    refine WL.nil (EX.mut hT10 ?_)
    (repeat (refine HL.lenS rfl rfl rfl rfl ?_))
    refine HL.mut rfl (WL.call rfl rfl rfl (counts_ok w10 ns[i].2 (insL fl (i : Int)).length (outsL fl (i : Int)).length) ?_)
    rintro _ _ ⟨rfl, rfl⟩
    refine WL.nil (EX.mut hT10 ?_)
    have hbc : badCount (ns, fl) i = !countsB ns[i].2 (insL fl (i : Int)).length (outsL fl (i : Int)).length := by unfold badCount; rw [hnd]
    (repeat (first | (apply HL.pure; rfl; rfl; rfl; rfl) | (apply HL.nil)))
    (repeat (apply EX.thenN))
    refine CW.cond rfl (fun h2 => ?_) (fun h2 => ?_)
    · (repeat (first | (apply WL.pure; rfl; rfl; rfl) | (apply WL.nil) | (apply EX.thenN) | (apply CW.seq) | (apply CW.region) | (apply CW.ret) | (apply EX.thenR) | (apply EX.inR)))
      refine EX.ret1 rfl rfl ⟨?_, hE8.trans hT10⟩
      rw [if_pos (List.any_eq_true.2 ⟨i, List.mem_range.2 hi', by rw [hbc]; exact h2⟩)]
    · (repeat (first | (apply WL.add; rfl; rfl; rfl; rfl; omega; omega) | (apply WL.pure; rfl; rfl; rfl) | (apply WL.nil) | (apply EX.thenN) | (apply CW.region) | (apply EX.inN) | (apply CW.skip)))
      refine EX.back (i + 1) (by repeat (first | exact trivial | refine ⟨rfl, ?_⟩)) ⟨hi', (e6.trans e8).trans hT10, fun j hj => ?_⟩ (by omega)
      by_cases e : j = i
      · subst e; rw [hbc]; exact h2
      · exact hno j (by omega)
  obtain rfl : i = ns.length := by simp at h; omega
  have hany : (List.range ns.length).any (badCount (ns, fl)) = false := List.any_eq_false.2 (fun j hj => by simp [hno j (List.mem_range.1 hj)])
  rw [if_neg (by rw [hany]; simp)]
  clear h hi hno
  have hg6 := hg.up (e5.trans e6)
  (repeat (first | (apply WL.pure; rfl; rfl; rfl) | (apply EX.thenN) | (apply CW.seq) | (apply CW.region) | (apply CW.exit) | (apply EX.thenX) | (apply EX.inX)))
  refine WL.litR [(s : Int)] rfl rfl rfl rfl rfl (.cons (Rd.mkInt _ _ _) .nil) (by show 1 * 1 ≤ 16777216; decide) (fun v7 w7 e7 r7 _ => ?_)
  obtain ⟨lo, lc, rfl, hls⟩ := r7.sl
  have hsok : okL (flowsG ns.length fl).length [(s : Int)] := fun x hx => by rw [List.mem_singleton] at hx; subst hx; rw [hgl]; omega
  have hrF := reachF_of hgok hsok (by omega)
  rw [← hgl]
  have hRR := Reach_ok w7 (hg6.up e7) hls (by simp only [List.length_singleton]; omega)
  rw [hrF, hgl] at hRR
  rw [hgl]
  skip
  refine WL.call rfl rfl rfl hRR ?_
  rintro _ w8 ⟨rv, rfl, hor, e8⟩
  obtain ⟨ro, rc, rfl, hrs⟩ := hor.oldN.sl
  (repeat (first | (apply WL.pure; rfl; rfl; rfl) | (apply WL.nil) | (apply EX.thenN) | (apply CW.seq) | (apply CW.region)))
  refine WL.call rfl rfl rfl (contains_bool w8 false hrs) ?_
  rintro _ w9 ⟨rfl, e9⟩
  have hE9 := ((hE6.trans e7).trans e8).trans e9
  (repeat (first | (apply WL.nil) | (apply EX.thenN)))
  refine CW.cond rfl (fun h2 => ?_) (fun h2 => ?_)
  · (repeat (first | (apply WL.pure; rfl; rfl; rfl) | (apply WL.nil) | (apply EX.thenN) | (apply CW.seq) | (apply CW.region) | (apply CW.ret) | (apply EX.thenR)))
    refine EX.ret1 rfl rfl ⟨?_, hE9⟩
    rw [if_pos h2]
  · (repeat (first | (apply WL.pure; rfl; rfl; rfl) | (apply WL.nil) | (apply EX.thenN) | (apply CW.seq) | (apply CW.region) | (apply CW.ret) | (apply CW.skip)))
    refine EX.ret1 rfl rfl ⟨?_, hE9⟩
    rw [if_neg (by rw [h2]; simp)]
end Go.Proofs.Ythojdcbpglipeaa
