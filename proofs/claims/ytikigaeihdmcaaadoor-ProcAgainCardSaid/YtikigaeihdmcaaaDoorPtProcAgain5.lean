import Derived.Shelf.Strings.Split
import Derived.Shelf.Strings.Cut
import Derived.Shelf.Strings.Builder1
import Derived.Shelf.Vars
import Derived.Test.YtikigaeihdmcaaaDoorPtProcAgain4
/-
  Package proc: nodes, Check, Ins, Outs: walked.
-/
set_option linter.unusedVariables false
set_option linter.unusedSimpArgs false
namespace Go.Proofs.YtikigaeihdmcaaaDoor
open Go.RowKit

theorem nodes1 (w : World) (m : LNode) (b : Nat) {x : LNode} (hb : Blk w b 94 [.string x.1, .int .i64 x.2]) :
    Rt Tryd.prog 78 [.agg [.string m.1, .int .i64 m.2].toArray, .pointer (some ⟨b, 0, none⟩)].toArray w fun v w' => v = .bool (nameEq m.1 x.1) ∧ Ext w w' := by
  refine Rt.enter2 Tryd.func78 Tryd.ntmps78 rfl rfl ?_
  (repeat (first | (apply CW.seq) | (apply CW.region)))
  refine WL.boxB rfl rfl rfl fun w1 hb1 e1 => ?_
  have hb := hb.ext e1
  (repeat (first | (apply WL.pure; rfl; rfl; rfl) | (apply WL.nil) | (apply EX.thenN) | (apply CW.seq) | (apply CW.region) | (apply WL.fa; rfl; rfl; rfl) | (apply WL.ld; rfl; rfl; rfl; assumption; rfl) | (apply CW.ret)))
  exact EX.ret1 rfl rfl ⟨rfl, e1⟩
theorem nodes_ok (w0 : World) {so fo : Option Addr} {sc fc k : Nat} {ns : List LNode} (hs : Sl w0 (Old w0) so sc ns) :
    Rt Tryd.prog 40 [procV so sc fo fc ns.length k].toArray w0 fun v w' => v = .int .i64 (nodesE ns) ∧ Ext w0 w' := by
  have hm := hs.len63
  have hle := hs.le
  refine Rt.enter1 Tryd.func40 Tryd.ntmps40 rfl rfl ?_
  (repeat (first | (apply CW.seq) | (apply CW.region)))
  refine WL.boxB rfl rfl rfl fun w1 hb1 e1 => ?_
  have hl1 := hb1.lt
  (repeat (first | (apply WL.pure; rfl; rfl; rfl) | (apply WL.nil) | (apply EX.thenN) | (apply CW.seq) | (apply CW.region) | (apply WL.lenS; rfl; rfl; rfl) | (apply WL.fa; rfl; rfl; rfl) | (apply WL.ld; rfl; rfl; rfl; assumption; rfl) | (apply CW.block)))
  refine CW.loop (S := Nat) (fun i => [(1, .pointer (some ⟨w0.heap.size, 0, none⟩)), (6, .slice so ns.length sc), (7, .int .i64 ns.length), (8, .int .i64 i)])
    (fun i w => i ≤ ns.length ∧ Ext w1 w ∧ ∀ j, j < i → nodeE ns j = 0) (fun i => ns.length - i) 0 (by repeat (first | exact trivial | refine ⟨rfl, ?_⟩)) ⟨by omega, Ext.refl _, by omega⟩ ?_
  rintro i w ⟨hi, e, hno⟩
  have hE := e1.trans e
  have hb1 := hb1.ext e
  (repeat (first | (apply WL.pure; rfl; rfl; rfl) | (apply WL.nil) | (apply EX.thenN) | (apply CW.seq) | (apply CW.region)))
  refine CW.cond rfl (fun h => ?_) (fun h => ?_)
  · have hi' : i < ns.length := by simp at h; omega
    have hnd := getDNd_at hi'
    (repeat (first | (apply WL.pure; rfl; rfl; rfl) | (apply EX.thenN) | (apply CW.seq) | (apply CW.region) | (apply CW.block) | (apply CW.skip)))
    refine WL.elemN rfl rfl rfl rfl rfl (hs.at hE) hi' (fun _ => rfl) (fun u q hu => ?_)
    obtain rfl := hu.node
    skip
    refine WL.alloc rfl rfl (fun w2 hb4 e2 => ?_)
    have hl4 := hb4.lt
    (repeat (apply WL.pure; rfl; rfl; rfl))
    refine WL.st rfl rfl rfl hb4 rfl rfl (ones_of rfl) (fun w3 hb4 hg3 => ?_)
    have e3 : Ext w w3 := e2.grown hg3 e2.size (fun g hg => by cases hg; exact Nat.le_refl _)
    have hb1 := hb1.ext e3
    have hE := hE.trans e3
    (repeat (first | (apply WL.nil) | (apply EX.thenN) | (apply CW.seq) | (apply CW.region) | (apply WL.fa; rfl; rfl; rfl) | (apply WL.ld; rfl; rfl; rfl; assumption; rfl)))
    refine WL.call rfl rfl rfl (Named_ok w3 ns[i].1) ?_
    rintro _ w4 ⟨rfl, e4⟩
    have hb1 := hb1.ext e4
    have hb4 := hb4.ext e4
    have hE := hE.trans e4
    have e34 := e3.trans e4
    have hbad : (!namedB ns[i].1 || decide (ns[i].2 < 1) || decide (ns[i].2 > 7)) = true → nodesE ns = 1 := fun hb => by
      have : nodeE ns i = 1 := by unfold nodeE; rw [hnd, if_pos hb]
      rw [nodesE_first hi' hno (by rw [this]; decide), this]
    (repeat (apply WL.pure; rfl; rfl; rfl))
    by_cases c1 : namedB ns[i].1 = true
    · rw [c1] at hbad ⊢
      (repeat (first | (apply WL.pure; rfl; rfl; rfl) | (apply WL.fa; rfl; rfl; rfl) | (apply WL.ld; rfl; rfl; rfl; assumption; rfl)))
      by_cases c2 : decide (ns[i].2 < 1) = true
      · rw [c2]
        (repeat (first | (apply WL.pure; rfl; rfl; rfl) | (apply WL.nil) | (apply EX.thenN) | (apply CW.seq) | (apply CW.region) | (apply WL.pass; rfl; rfl) | (apply CW.condT; rfl) | (apply CW.ret) | (apply EX.thenR) | (apply EX.inR)))
        refine EX.ret1 rfl rfl ⟨?_, hE⟩
        rw [hbad (by rw [c2]; rfl)]
      have c2 : decide (ns[i].2 < 1) = false := by simpa using c2
      rw [c2]
      (repeat (first | (apply WL.pure; rfl; rfl; rfl) | (apply WL.nil) | (apply EX.thenN) | (apply WL.fa; rfl; rfl; rfl) | (apply WL.ld; rfl; rfl; rfl; assumption; rfl)))
      by_cases c3 : decide (ns[i].2 > 7) = true
      · rw [c3]
        (repeat (first | (apply WL.pure; rfl; rfl; rfl) | (apply WL.nil) | (apply EX.thenN) | (apply CW.seq) | (apply CW.region) | (apply CW.condT; rfl) | (apply CW.ret) | (apply EX.thenR) | (apply EX.inR)))
        refine EX.ret1 rfl rfl ⟨?_, hE⟩
        rw [hbad (by rw [c2, c3]; rfl)]
      have c3 : decide (ns[i].2 > 7) = false := by simpa using c3
      rw [c3]
      (repeat (first | (apply WL.pure; rfl; rfl; rfl) | (apply EX.thenN) | (apply CW.seq) | (apply CW.region) | (apply WL.fa; rfl; rfl; rfl) | (apply WL.ld; rfl; rfl; rfl; assumption; rfl) | (apply CW.condF; rfl) | (apply CW.skip)))
      refine WL.cutHi (α := LNode) i rfl rfl rfl rfl rfl (by omega) ?_
      (repeat (apply WL.makeFunc; rfl; rfl; rfl; rfl))
      have hcut := (hs.up hE).take (k := i) (by omega)
      have htl : (ns.take i).length = i := by rw [List.length_take]; omega
      have hcf := containsFunc_node w4 (fv := .func (.func 78) [].toArray [.pointer (some ⟨w.heap.size, 0, none⟩)].toArray) (fun m => nameEq m.1 ns[i].1) hcut (fun w5 hw j hj u hu => by
        obtain rfl := hu.node
        exact FnV.mk (cs := [_]) (nodes1 w5 _ _ (hb4.ext hw)))
      rw [htl] at hcf
      refine WL.call rfl rfl rfl hcf ?_
      rintro _ w5 ⟨rfl, e5⟩
      have hb1 := hb1.ext e5
      (repeat (first | (apply WL.nil) | (apply EX.thenN)))
      refine CW.cond rfl (fun h2 => ?_) (fun h2 => ?_)
      · (repeat (first | (apply WL.pure; rfl; rfl; rfl) | (apply WL.nil) | (apply EX.thenN) | (apply CW.seq) | (apply CW.region) | (apply CW.ret) | (apply EX.thenR) | (apply EX.inR)))
        refine EX.ret1 rfl rfl ⟨?_, hE.trans e5⟩
        have : nodeE ns i = 4 := by unfold nodeE; rw [hnd, if_neg (by rw [show namedB ns[i].1 = true from c1, c2, c3]; simp), if_pos h2]
        rw [nodesE_first hi' hno (by rw [this]; decide), this]
      · (repeat (first | (apply WL.add; rfl; rfl; rfl; rfl; omega; omega) | (apply WL.pure; rfl; rfl; rfl) | (apply WL.nil) | (apply EX.thenN) | (apply CW.region) | (apply EX.inN) | (apply CW.skip)))
        refine EX.back (i + 1) (by repeat (first | exact trivial | refine ⟨rfl, ?_⟩)) ⟨hi', (e.trans e34).trans e5, fun j hj => ?_⟩ (by omega)
        by_cases ej : j = i
        · subst ej
          unfold nodeE; rw [hnd, if_neg (by rw [show namedB ns[j].1 = true from c1, c2, c3]; simp), if_neg (by rw [h2]; simp)]
        · exact hno j (by omega)
    · have c1 : namedB ns[i].1 = false := by simpa using c1
      rw [c1] at hbad ⊢
      (repeat (first | (apply WL.pure; rfl; rfl; rfl) | (apply WL.nil) | (apply EX.thenN) | (apply CW.seq) | (apply CW.region) | (apply WL.pass; rfl; rfl) | (apply CW.condT; rfl) | (apply CW.ret) | (apply EX.thenR) | (apply EX.inR)))
      refine EX.ret1 rfl rfl ⟨?_, hE⟩
      rw [hbad rfl]
  · obtain rfl : i = ns.length := by simp at h; omega
    (repeat (first | (apply WL.pure; rfl; rfl; rfl) | (apply WL.nil) | (apply EX.thenN) | (apply CW.seq) | (apply CW.region) | (apply CW.exit) | (apply EX.thenX) | (apply EX.inX) | (apply CW.ret)))
    refine EX.ret1 rfl rfl ⟨?_, hE⟩
    rw [nodesE_zero hno]

/- THE GRAPH OF THE FLOWS -/
def flowsP (n : Nat) (fl : List LFlow) (i : Nat) : Graph := flowsG n (fl.take i)
theorem flowsP_len {n : Nat} {fl : List LFlow} {i : Nat} : (flowsP n fl i).length = n := by simp [flowsP, flowsG]
theorem flowsP_zero {n : Nat} {fl : List LFlow} : flowsP n fl 0 = List.replicate n [] := by
  refine List.ext_getElem (by simp [flowsP, flowsG]) fun k h1 h2 => ?_
  simp [flowsP, flowsG]
theorem flowsP_get {n : Nat} {fl : List LFlow} {i k : Nat} (h : k < n) : (flowsP n fl i)[k]'(by rw [flowsP_len]; exact h) = ((fl.take i).filter fun f => f.1 == (k : Int)).map (·.2) := by simp [flowsP, flowsG]
theorem flowsP_next {n : Nat} {fl : List LFlow} {i a : Nat} {b : Int} (hi : i < fl.length) (hf : fl[i] = ((a : Int), b)) (ha : a < n) :
    (flowsP n fl i).set a ((((fl.take i).filter fun f => f.1 == (a : Int)).map (·.2)) ++ [b]) = flowsP n fl (i + 1) := by
  refine List.ext_getElem (by simp [flowsP_len]) fun k h1 h2 => ?_
  have hk : k < n := by rw [flowsP_len] at h2; exact h2
  rw [List.getElem_set, flowsP_get hk, flowsP_get hk, ← List.take_append_getElem hi, hf, List.filter_append, List.map_append]
  by_cases e : a = k
  · subst e; rw [if_pos rfl]; simp
  · rw [if_neg e]
    have : ((a : Int) == (k : Int)) = false := by simpa using fun h : (a : Int) = k => e (by omega)
    simp [List.filter_cons, this]
theorem flowsG_edges {n : Nat} {fl : List LFlow} : edges (flowsG n fl) ≤ n * fl.length := by
  unfold edges flowsG
  rw [List.map_map]
  have : ∀ m : List Nat, (m.map (List.length ∘ fun k : Nat => (fl.filter fun f => f.1 == (k : Int)).map (·.2))).sum ≤ m.length * fl.length := fun m => by
    induction m with
    | nil => simp
    | cons a m ih =>
      simp only [List.map_cons, List.sum_cons, List.length_cons, Nat.add_mul, Nat.one_mul]
      have : (List.length ∘ fun k : Nat => (fl.filter fun f => f.1 == (k : Int)).map (·.2)) a ≤ fl.length := by
        show ((fl.filter fun f => f.1 == (a : Int)).map (·.2)).length ≤ _
        rw [List.length_map]; exact List.length_filter_le _ _
      omega
  have := this (List.range n)
  rwa [List.length_range] at this
theorem startsL_next {ns : List LNode} {k : Nat} : startsL ns (k + 1) = startsL ns k ++ if ((ns.getD k (⟨#[]⟩, 0)).2 == 1) = true then [k] else [] := by
  unfold startsL
  rw [List.range_succ, List.filter_append]
  congr 1
  by_cases e : ((ns.getD k (⟨#[]⟩, 0)).2 == 1) = true
  · rw [if_pos e]; simp only [List.filter_cons, e, List.filter_nil]; rfl
  · rw [if_neg e]; simp only [List.filter_cons, e, List.filter_nil]; rfl
def lastI (l : List Nat) : Int := (l.getLast?.map fun n : Nat => (n : Int)).getD (-1)
theorem startsL_len {ns : List LNode} {k : Nat} : (startsL ns k).length ≤ k := by
  unfold startsL; exact Nat.le_trans (List.length_filter_le _ _) (by simp)
theorem chkR_eq {ns : List LNode} {fl : List LFlow} {s : Nat} (h : startsL ns ns.length = [s]) : chkR (ns, fl) = if (rchB (flowsG ns.length fl) [(s : Int)]).contains false = true then 6 else 0 := by
  have hgl : (flowsG ns.length fl).length = ns.length := by simp [flowsG]
  have hiff : (∃ n, n < ns.length ∧ ¬ Rch (flowsG ns.length fl) (((startsL ns ns.length).getLast?.map fun n : Nat => (n : Int)).toList) n) ↔ (rchB (flowsG ns.length fl) [(s : Int)]).contains false = true := by
    rw [h, List.contains_iff_mem, List.mem_iff_getElem]
    show (∃ n, n < ns.length ∧ ¬ Rch (flowsG ns.length fl) [(s : Int)] n) ↔ _
    constructor
    · rintro ⟨n, hn, hr⟩
      have hn' : n < (rchB (flowsG ns.length fl) [(s : Int)]).length := by rw [rchB_len, hgl]; exact hn
      refine ⟨n, hn', ?_⟩
      rw [← Bool.not_eq_true, rchB_iff hn']; exact hr
    · rintro ⟨n, hn, he⟩
      have hn' : n < ns.length := by rw [rchB_len, hgl] at hn; exact hn
      exact ⟨n, hn', fun hr => by rw [(rchB_iff hn).2 hr] at he; cases he⟩
  unfold chkR
  by_cases hc : (rchB (flowsG ns.length fl) [(s : Int)]).contains false = true
  · rw [if_pos hc]; exact if_pos (hiff.2 hc)
  · rw [if_neg hc]; exact if_neg (fun h => hc (hiff.1 h))
theorem Check_pr (w0 : World) {so fo : Option Addr} {sc fc : Nat} {ns : List LNode} {fl : List LFlow} (hs : Sl w0 (Old w0) so sc ns) (hf : Sl w0 (Old w0) fo fc fl) :
    Rt Tryd.prog 23 [procV so sc fo fc ns.length fl.length].toArray w0 fun v w' => v = .int .i64 (chkPr (ns, fl)) ∧ Ext w0 w' := by
  have hms := hs.len63
  have hmf := hf.len63
  refine Rt.enter1 Tryd.func23 Tryd.ntmps23 rfl rfl ?_
  have hE := Ext.refl w0
  (repeat (first | (apply CW.seq) | (apply CW.region)))
  refine WL.boxB rfl rfl rfl fun w1 hb1 e1 => ?_
  have hE := hE.trans e1
  unfold chkPr
  dsimp only
  (repeat (first | (apply WL.pure; rfl; rfl; rfl) | (apply WL.nil) | (apply EX.thenN) | (apply CW.seq) | (apply CW.region) | (apply WL.lenS; rfl; rfl; rfl) | (apply WL.fa; rfl; rfl; rfl) | (apply WL.ld; rfl; rfl; rfl; assumption; rfl)))
  (refine WL.lookG rfl rfl (fun h => ?_) (fun h => ?_))
  · (repeat (first | (apply WL.pure; rfl; rfl; rfl) | (apply WL.nil) | (apply EX.thenN) | (apply CW.seq) | (apply CW.region) | (apply WL.pass; rfl; rfl) | (apply CW.condT; rfl) | (apply CW.ret) | (apply EX.thenR)))
    refine EX.ret1 rfl rfl ⟨?_, hE⟩
    rw [if_pos (.inl (by simp at h; omega))]
  have c1 : ns.length ≤ 20 := by simp at h; omega
  clear h
  (repeat (first | (apply WL.pure; rfl; rfl; rfl) | (apply WL.nil) | (apply EX.thenN) | (apply WL.lenS; rfl; rfl; rfl) | (apply WL.fa; rfl; rfl; rfl) | (apply WL.ld; rfl; rfl; rfl; assumption; rfl)))
  refine CW.cond rfl (fun h => ?_) (fun h => ?_)
  · (repeat (first | (apply WL.pure; rfl; rfl; rfl) | (apply WL.nil) | (apply EX.thenN) | (apply CW.seq) | (apply CW.region) | (apply CW.ret) | (apply EX.thenR)))
    refine EX.ret1 rfl rfl ⟨?_, hE⟩
    rw [if_pos (.inr (by simp at h; omega))]
  have c2 : fl.length ≤ 30 := by simp at h; omega
  clear h
  rw [if_neg (by omega)]
  (repeat (first | (apply EX.thenN) | (apply CW.seq) | (apply CW.region) | (apply WL.ldA; rfl; rfl; rfl; assumption; rfl) | (apply CW.skip)))
  refine WL.call rfl rfl rfl (nodes_ok w1 (hs.up hE)) ?_
  rintro _ w2 ⟨rfl, e2⟩
  have hb1 := hb1.ext e2
  have hE := hE.trans e2
  (repeat (first | (apply WL.pure; rfl; rfl; rfl) | (apply WL.nil) | (apply EX.thenN) | (apply CW.seq) | (apply CW.region)))
  refine CW.cond rfl (fun h => ?_) (fun h => ?_)
  · have h : nodesE ns ≠ 0 := by simpa using h
    (repeat (first | (apply WL.pure; rfl; rfl; rfl) | (apply WL.nil) | (apply EX.thenN) | (apply CW.seq) | (apply CW.region) | (apply CW.ret) | (apply EX.thenR)))
    refine EX.ret1 rfl rfl ⟨?_, hE⟩
    rw [if_pos h]
  have h : nodesE ns = 0 := by simpa using h
  rw [if_neg (by simp [h])]
  clear h e1 e2
  have z2 := hE.size
  (repeat (first | (apply EX.thenN) | (apply CW.seq) | (apply CW.region) | (apply WL.lenS; rfl; rfl; rfl) | (apply WL.fa; rfl; rfl; rfl) | (apply WL.ld; rfl; rfl; rfl; assumption; rfl) | (apply CW.skip)))
  refine WL.make (α := Raw) rfl rfl rfl rfl (by omega) (by unfold maxLen; omega) (fun w3 ho3 hg3 => ?_)
  have e3 : Ext w2 w3 := (Below.refl _ _).grown hg3 (Nat.le_refl _) (fun k h => by cases h)
  have hN3 : OwnN w3 w2.heap.size 102 3 (.slice (some ⟨w2.heap.size, 0, none⟩) ns.length ns.length) _ (List.replicate ns.length ([] : List Int)) := OwnN.made ho3
  rw [← flowsP_zero (fl := fl)] at hN3
  have hb13 := hb1.ext e3
  clear ho3 hg3
  (repeat (first | (apply WL.pure; rfl; rfl; rfl) | (apply WL.nil) | (apply EX.thenN) | (apply CW.seq) | (apply CW.region) | (apply WL.lenS; rfl; rfl; rfl) | (apply WL.fa; rfl; rfl; rfl) | (apply WL.ld; rfl; rfl; rfl; assumption; rfl) | (apply CW.block)))
  refine CW.loop (S := Nat × List Raw) (fun s => [(1, .pointer (some ⟨w0.heap.size, 0, none⟩)), (4, .slice (some ⟨w2.heap.size, 0, none⟩) ns.length ns.length), (35, .slice fo fl.length fc), (36, .int .i64 fl.length), (37, .int .i64 s.1)])
    (fun s w => s.1 ≤ fl.length ∧ (∀ f ∈ fl.take s.1, flowOdd ns.length f = false) ∧ OwnN w w2.heap.size 102 3 (.slice (some ⟨w2.heap.size, 0, none⟩) ns.length ns.length) s.2 (flowsP ns.length fl s.1) ∧ Ext w2 w) (fun s => fl.length - s.1) (0, _) (by repeat (first | exact trivial | refine ⟨rfl, ?_⟩)) ⟨Nat.zero_le _, (fun f hf => by simp at hf), hN3, e3⟩ ?_
  rintro ⟨i, vs⟩ w4 ⟨hi, hev, hN, e4⟩
  dsimp only at hi hev hN ⊢
  have hE4 := hE.trans e4
  have hN4 := hN
  have hsz : w2.heap.size < w4.heap.size := (hN.out.lt _ rfl).2.1
  (repeat (first | (apply WL.pure; rfl; rfl; rfl) | (apply WL.nil) | (apply EX.thenN) | (apply CW.seq) | (apply CW.region)))
  refine CW.cond rfl (fun h => ?_) (fun h => ?_)
  · have hi' : i < fl.length := by simp at h; omega
    have hbad : flowOdd ns.length fl[i] = true → (if fl.any (flowOdd ns.length) = true then (1 : Int) else if (startsL ns ns.length).length ≠ 1 then 1 else if (List.range ns.length).any (badCount (ns, fl)) = true then 1 else chkR (ns, fl)) = 1 := fun hb => by
      rw [if_pos (List.any_eq_true.2 ⟨_, List.getElem_mem hi', hb⟩)]
    (repeat (first | (apply EX.thenN) | (apply CW.seq) | (apply CW.region) | (apply CW.block) | (apply CW.skip)))
    refine WL.elemN rfl rfl rfl rfl rfl (hf.at hE4) hi' (fun _ => rfl) (fun u q hu => ?_)
    obtain rfl := hu.flow
    skip
    refine WL.alloc rfl rfl (fun w5 hb6 e5 => ?_)
    skip
    refine WL.st rfl rfl rfl hb6 rfl rfl (ones_of rfl) (fun w6 hb6 hg6 => ?_)
    have e6 : Ext w4 w6 := e5.grown hg6 e5.size (fun g hg => by cases hg; exact Nat.le_refl _)
    have hN := hN.ext e6
    have hE6 := hE4.trans e6
    have e26 := e4.trans e6
    (repeat (first | (apply WL.pure; rfl; rfl; rfl) | (apply WL.nil) | (apply EX.thenN) | (apply CW.seq) | (apply CW.region) | (apply WL.fa; rfl; rfl; rfl) | (apply WL.ld; rfl; rfl; rfl; assumption; rfl)))
    by_cases d1 : decide (fl[i].1 < 0) = true
    · rw [d1]
      (repeat (first | (apply WL.pure; rfl; rfl; rfl) | (apply WL.nil) | (apply EX.thenN) | (apply CW.seq) | (apply CW.region) | (apply WL.pass; rfl; rfl) | (apply CW.condT; rfl) | (apply CW.ret) | (apply EX.thenR) | (apply EX.inR)))
      refine EX.ret1 rfl rfl ⟨?_, hE6⟩
      rw [hbad (by unfold flowOdd; rw [d1]; rfl)]
    have d1 : decide (fl[i].1 < 0) = false := by simpa using d1
    rw [d1]
    (repeat (first | (apply WL.pure; rfl; rfl; rfl) | (apply WL.lenS; rfl; rfl; rfl) | (apply WL.fa; rfl; rfl; rfl) | (apply WL.ld; rfl; rfl; rfl; assumption; rfl)))
    by_cases d2 : decide (fl[i].1 ≥ (ns.length : Int)) = true
    · rw [d2]
      (repeat (first | (apply WL.pure; rfl; rfl; rfl) | (apply WL.nil) | (apply EX.thenN) | (apply CW.seq) | (apply CW.region) | (apply WL.pass; rfl; rfl) | (apply CW.condT; rfl) | (apply CW.ret) | (apply EX.thenR) | (apply EX.inR)))
      refine EX.ret1 rfl rfl ⟨?_, hE6⟩
      rw [hbad (by unfold flowOdd; rw [d1, d2]; rfl)]
    have d2 : decide (fl[i].1 ≥ (ns.length : Int)) = false := by simpa using d2
    rw [d2]
    (repeat (first | (apply WL.pure; rfl; rfl; rfl) | (apply WL.fa; rfl; rfl; rfl) | (apply WL.ld; rfl; rfl; rfl; assumption; rfl)))
    by_cases d3 : decide (fl[i].2 < 0) = true
    · rw [d3]
      (repeat (first | (apply WL.pure; rfl; rfl; rfl) | (apply WL.nil) | (apply EX.thenN) | (apply CW.seq) | (apply CW.region) | (apply WL.pass; rfl; rfl) | (apply CW.condT; rfl) | (apply CW.ret) | (apply EX.thenR) | (apply EX.inR)))
      refine EX.ret1 rfl rfl ⟨?_, hE6⟩
      rw [hbad (by unfold flowOdd; rw [d1, d2, d3]; rfl)]
    have d3 : decide (fl[i].2 < 0) = false := by simpa using d3
    rw [d3]
    (repeat (first | (apply WL.pure; rfl; rfl; rfl) | (apply WL.nil) | (apply EX.thenN) | (apply WL.lenS; rfl; rfl; rfl) | (apply WL.fa; rfl; rfl; rfl) | (apply WL.ld; rfl; rfl; rfl; assumption; rfl)))
    refine CW.cond rfl (fun d4 => ?_) (fun d4 => ?_)
    · (repeat (first | (apply WL.pure; rfl; rfl; rfl) | (apply WL.nil) | (apply EX.thenN) | (apply CW.seq) | (apply CW.region) | (apply CW.ret) | (apply EX.thenR) | (apply EX.inR)))
      refine EX.ret1 rfl rfl ⟨?_, hE6⟩
      rw [hbad (by unfold flowOdd; rw [d1, d2, d3, d4]; rfl)]
    have hgd : flowOdd ns.length fl[i] = false := by unfold flowOdd; rw [d1, d2, d3, d4]; rfl
    simp at d1 d2 d3 d4
    obtain ⟨a, ea⟩ := Int.eq_ofNat_of_zero_le d1
    have han : a < ns.length := by omega
    have hfi : fl[i] = ((a : Int), fl[i].2) := by rw [← ea]
    have hnext := flowsP_next hi' hfi han
    have hlen := hN.len
    rw [flowsP_len] at hlen
    have hav : a < vs.length := by omega
    have hd := Ext.drew w6
    have hNd := hN.ext hd
    have hb6d := hb6.ext hd
    have hin := hNd.inn a hav (by rw [flowsP_len]; exact han)
    rw [flowsP_get han] at hin
    have hrl : (((fl.take i).filter fun f => f.1 == (a : Int)).map (·.2)).length ≤ 30 := by
      rw [List.length_map]; exact Nat.le_trans (List.length_filter_le _ _) (by rw [List.length_take]; omega)
    obtain ⟨oo, oc, hov, hout⟩ := hNd.out.slF (F' := fun b => b = w2.heap.size) (fun _ h => h.elim) (fun g hg => by cases hg; rfl)
    obtain ⟨rfl, _, rfl⟩ := Value.slice.inj hov
    rw [← hlen] at hout
    have hsz6 := e6.size
    have hszd := hd.size
    have hl6 := hb6.lt
    rw [ea] at hb6d
    (repeat (first | (apply EX.thenN) | (apply CW.skip)))
    have hK : ∀ z, (fun z : World => ∀ b, b = w2.heap.size ∨ b = w4.heap.size → z.heap[b]? = (drew w6).heap[b]?) z → z.heap[w4.heap.size]? = (drew w6).heap[w4.heap.size]? := fun z hz => hz _ (.inr rfl)
    refine CW.drawE (fun z : World => ∀ b, b = w2.heap.size ∨ b = w4.heap.size → z.heap[b]? = (drew w6).heap[b]?) [(0, true), (1, true), (2, true), (3, true), (4, true), (5, true), (6, true), (7, true), (8, true), (9, true), (10, false), (11, false), (12, true)] 13 mixed (by kernel_rfl) (fun _ _ => rfl) ?_
    (repeat (first | (apply HL.pure; rfl; rfl; rfl; rfl) | (refine HL.fa rfl rfl rfl rfl ?_) | (refine HL.ldK (by assumption) rfl rfl rfl rfl (by assumption) rfl ?_)))
    rw [← hlen]
    refine HL.elemK (w := drew w6) (F := fun b => b = w2.heap.size) (fun z hz b hb => hz b (.inl hb)) rfl rfl rfl rfl rfl rfl rfl hout hav (fun _ => rfl) (fun u q hu => ?_)
    obtain ⟨rfl, _⟩ := hu.raw
    rw [hlen]
    (repeat (first | (refine HL.fa rfl rfl rfl rfl ?_) | (refine HL.ldK (by assumption) rfl rfl rfl rfl (by assumption) rfl ?_)))
    refine HL.app1 (bytes := 8) rfl rfl rfl rfl (fun _ => rfl) rfl rfl (fun _ => rfl) hin (Rd.mkInt _ _ _) (by omega) (fun _ h => h.elim) (by decide) (by unfold maxLen; omega) (by omega)
      (fun z hz b hb => hz.block b (by omega) (fun e => ?_)) (fun v' w7 p ho7 hg7 hnb => ?_)
    · rcases hb with rfl | rfl
      · exact hNd.dio a hav _ e.symm rfl
      · exact absurd ((hN4.inn a hav (by rw [flowsP_len]; exact han)).lt _ e.symm).2.1 (Nat.lt_irrefl _)
    rw [hfi] at ho7
    have hmid := hNd.mid hav hg7
    skip
    refine HL.setTail (yv := (⟨v'⟩ : Raw)) rfl rfl rfl rfl rfl rfl hmid hav (fun _ => rfl) (fun _ => rfl) (Rd.mkRaw _ _ _ ?_) (fun w8 q ho8 hg8 => ?_)
    · obtain ⟨a, b, rfl⟩ := ho7.val; rfl
    have hN8 := hNd.set hav ho7 hg7 hnb ho8 hg8
    rw [hnext] at hN8
    have e26d := e26.trans hd
    have e8 : Ext w2 w8 := (e26d.grown hg7 e26d.size (fun b hb => (hin.lt b hb).1)).grown hg8 (Nat.le_trans e26d.size hg7.size) (fun b hb => (hNd.out.lt b hb).1)
    (repeat (first | (apply WL.add; rfl; rfl; rfl; rfl; omega; omega) | (apply WL.pure; rfl; rfl; rfl) | (apply WL.nil) | (apply EX.thenN) | (apply CW.region) | (apply EX.inN)))
    refine EX.back (i + 1, vs.set a ⟨v'⟩) (by repeat (first | exact trivial | refine ⟨rfl, ?_⟩)) ⟨hi', fun f hf' => ?_, hN8, e8⟩ (by dsimp only; omega)
    dsimp only at hf'
    rw [← List.take_append_getElem hi'] at hf'
    rcases List.mem_append.1 hf' with h1 | h1
    · exact hev f h1
    · rw [List.mem_singleton] at h1; subst h1; exact hgd
  obtain rfl : i = fl.length := by simp at h; omega
  rw [List.take_length] at hev
  have hany : fl.any (flowOdd ns.length) = false := List.any_eq_false.2 (fun f hf => by simp [hev f hf])
  have hfok : ∀ f ∈ fl, 0 ≤ f.1 ∧ f.1 < ns.length ∧ 0 ≤ f.2 ∧ f.2 < ns.length := fun f hf => by
    have := hev f hf
    unfold flowOdd at this
    simp at this
    omega
  rw [if_neg (by rw [hany]; simp)]
  have hgG : flowsP ns.length fl fl.length = flowsG ns.length fl := by unfold flowsP; rw [List.take_length]
  rw [hgG] at hN
  have hgl : (flowsG ns.length fl).length = ns.length := by simp [flowsG]
  have hgok : okG (flowsG ns.length fl) := by
    intro r hr x hx
    rw [hgl]
    obtain ⟨k, _, rfl⟩ := List.mem_map.1 hr
    obtain ⟨f, hf, rfl⟩ := List.mem_map.1 hx
    exact (hfok f (List.mem_filter.1 hf).1).2.2
  have hge := flowsG_edges (n := ns.length) (fl := fl)
  have hge2 : ns.length * fl.length ≤ 20 * 30 := Nat.mul_le_mul c1 c2
  obtain ⟨go, gc, hgv, hg⟩ := hN.old.sl
  rw [hgl] at hgv
  obtain ⟨rfl, _, rfl⟩ := Value.slice.inj hgv
  have hb14 := hb1.ext e4
  clear h hi hev hN hN4 hN3 hany hgv
  (repeat (first | (apply WL.pure; rfl; rfl; rfl) | (apply WL.nil) | (apply EX.thenN) | (apply CW.seq) | (apply CW.region) | (apply WL.lenS; rfl; rfl; rfl) | (apply WL.fa; rfl; rfl; rfl) | (apply WL.ld; rfl; rfl; rfl; assumption; rfl) | (apply CW.block) | (apply CW.exit) | (apply EX.thenX) | (apply EX.inX)))
  refine CW.loop (S := Nat) (fun i => [(1, .pointer (some ⟨w0.heap.size, 0, none⟩)), (4, .slice (some ⟨w2.heap.size, 0, none⟩) ns.length ns.length), (7, .int .i64 (lastI (startsL ns i))), (8, .int .i64 ((startsL ns i).length : Int)), (78, .slice so ns.length sc), (79, .int .i64 ns.length), (80, .int .i64 i)])
    (fun i w => i ≤ ns.length ∧ Ext w4 w) (fun i => ns.length - i) 0 (by repeat (first | exact trivial | refine ⟨rfl, ?_⟩)) ⟨by omega, Ext.refl _⟩ ?_
  rintro i w5 ⟨hi, e5⟩
  have hE5 := hE4.trans e5
  have hnext := startsL_next (ns := ns) (k := i)
  have hsl := startsL_len (ns := ns) (k := i)
  (repeat (first | (apply WL.pure; rfl; rfl; rfl) | (apply WL.nil) | (apply EX.thenN) | (apply CW.seq) | (apply CW.region)))
  refine CW.cond rfl (fun h => ?_) (fun h => ?_)
  · have hi' : i < ns.length := by simp at h; omega
    rw [getDNd_at hi'] at hnext
    (repeat (first | (apply WL.pure; rfl; rfl; rfl) | (apply EX.thenN) | (apply CW.seq) | (apply CW.region) | (apply CW.block) | (apply CW.skip)))
    refine WL.elemN rfl rfl rfl rfl rfl (hs.at hE5) hi' (fun _ => rfl) (fun u q hu => ?_)
    obtain rfl := hu.node
    skip
    refine WL.alloc rfl rfl (fun w6 hb10 e6 => ?_)
    (repeat (apply WL.pure; rfl; rfl; rfl))
    refine WL.st rfl rfl rfl hb10 rfl rfl (ones_of rfl) (fun w7 hb10 hg7 => ?_)
    have e7 : Ext w5 w7 := e6.grown hg7 e6.size (fun g hg => by cases hg; exact Nat.le_refl _)
    (repeat (first | (apply WL.pure; rfl; rfl; rfl) | (apply WL.nil) | (apply EX.thenN) | (apply CW.seq) | (apply CW.region) | (apply WL.fa; rfl; rfl; rfl) | (apply WL.ld; rfl; rfl; rfl; assumption; rfl)))
    refine CW.cond rfl (fun h2 => ?_) (fun h2 => ?_)
    · rw [if_pos h2] at hnext
      have hn1 : ((startsL ns i).length : Int) + 1 = ((startsL ns (i + 1)).length : Int) := by rw [hnext]; simp
      have hn2 : (i : Int) = lastI (startsL ns (i + 1)) := by rw [hnext]; simp [lastI]
      (repeat (first | (apply WL.add; rfl; rfl; rfl; rfl; omega; omega) | (apply WL.pure; rfl; rfl; rfl) | (apply WL.nil) | (apply EX.thenN) | (apply CW.seq) | (apply CW.region) | (apply EX.inN)))
      refine EX.back (i + 1) ⟨rfl, rfl, ?_, ?_, rfl, rfl, rfl, trivial⟩ ⟨hi', e5.trans e7⟩ (by omega)
      · rw [← hn2]; rfl
      · rw [← hn1]; rfl
    · rw [if_neg (by rw [h2]; simp), List.append_nil] at hnext
      (repeat (first | (apply WL.add; rfl; rfl; rfl; rfl; omega; omega) | (apply WL.pure; rfl; rfl; rfl) | (apply WL.nil) | (apply EX.thenN) | (apply CW.region) | (apply EX.inN) | (apply CW.skip)))
      refine EX.back (i + 1) ?_ ⟨hi', e5.trans e7⟩ (by omega)
      rw [hnext]; exact (by repeat (first | exact trivial | refine ⟨rfl, ?_⟩))
  obtain rfl : i = ns.length := by simp at h; omega
  have hb15 := hb14.ext e5
  clear h hi hnext
  (repeat (first | (apply WL.pure; rfl; rfl; rfl) | (apply WL.nil) | (apply EX.thenN) | (apply CW.seq) | (apply CW.region) | (apply CW.exit) | (apply EX.thenX) | (apply EX.inX)))
  refine CW.cond rfl (fun h => ?_) (fun h => ?_)
  · have h : (startsL ns ns.length).length ≠ 1 := by simp at h; omega
    (repeat (first | (apply WL.pure; rfl; rfl; rfl) | (apply WL.nil) | (apply EX.thenN) | (apply CW.seq) | (apply CW.region) | (apply CW.ret) | (apply EX.thenR)))
    refine EX.ret1 rfl rfl ⟨?_, hE5⟩
    rw [if_pos h]
  have h1 : (startsL ns ns.length).length = 1 := by simp at h; omega
  rw [if_neg (by omega)]
  obtain ⟨s, hs1⟩ := List.length_eq_one_iff.1 h1
  have hsn : s < ns.length := by
    have : s ∈ startsL ns ns.length := by rw [hs1]; simp
    unfold startsL at this
    exact List.mem_range.1 (List.mem_filter.1 this).1
  rw [chkR_eq hs1, hs1]
  rw [show lastI [s] = (s : Int) from rfl]
  clear h
  (repeat (first | (apply WL.pure; rfl; rfl; rfl) | (apply WL.nil) | (apply EX.thenN) | (apply CW.seq) | (apply CW.region) | (apply WL.lenS; rfl; rfl; rfl) | (apply WL.fa; rfl; rfl; rfl) | (apply WL.ld; rfl; rfl; rfl; assumption; rfl) | (apply CW.block) | (apply CW.skip)))
  refine CW.loop (S := Nat) (fun i => [(1, .pointer (some ⟨w0.heap.size, 0, none⟩)), (4, .slice (some ⟨w2.heap.size, 0, none⟩) ns.length ns.length), (7, .int .i64 (s : Int)), (95, .slice so ns.length sc), (96, .int .i64 ns.length), (97, .int .i64 i)])
    (fun i w => i ≤ ns.length ∧ Ext w5 w ∧ ∀ j, j < i → badCount (ns, fl) j = false) (fun i => ns.length - i) 0 (by repeat (first | exact trivial | refine ⟨rfl, ?_⟩)) ⟨by omega, Ext.refl _, by omega⟩ ?_
  rintro i w6 ⟨hi, e6, hno⟩
  have hE6 := hE5.trans e6
  have hb16 := hb15.ext e6
  (repeat (first | (apply WL.pure; rfl; rfl; rfl) | (apply WL.nil) | (apply EX.thenN) | (apply CW.seq) | (apply CW.region)))
  refine CW.cond rfl (fun h => ?_) (fun h => ?_)
  · have hi' : i < ns.length := by simp at h; omega
    have hnd := getDNd_at hi'
    (repeat (first | (apply WL.pure; rfl; rfl; rfl) | (apply EX.thenN) | (apply CW.seq) | (apply CW.region) | (apply CW.block) | (apply CW.skip)))
    refine WL.elemN rfl rfl rfl rfl rfl (hs.at hE6) hi' (fun _ => rfl) (fun u q hu => ?_)
    obtain rfl := hu.node
    skip
    refine WL.alloc rfl rfl (fun w7 hb12 e7 => ?_)
    (repeat (apply WL.pure; rfl; rfl; rfl))
    refine WL.st rfl rfl rfl hb12 rfl rfl (ones_of rfl) (fun w8 hb12 hg8 => ?_)
    have e8 : Ext w6 w8 := e7.grown hg8 e7.size (fun g hg => by cases hg; exact Nat.le_refl _)
    have hb18 := hb16.ext e8
    have hE8 := hE6.trans e8
    have hd := Ext.drew w8
    have hSE : ∀ x, (fun x => Ext w8 x) x → Ext w8 x := fun _ h => h
    have hb12d := hb12
    (repeat (first | (apply WL.nil) | (apply EX.thenN) | (apply CW.seq)))
    refine CW.drawH (fun x => Ext w8 x) [(0, true), (1, true), (2, true), (3, true), (6, true), (7, true), (4, false), (5, true), (8, false), (9, true), (10, false), (11, true)] mixed (by kernel_rfl) (Ext.drew w8) ?_
    (repeat (first | (apply HL.pure; rfl; rfl; rfl; rfl) | (refine HL.fa rfl rfl rfl rfl ?_) | (refine HL.ld (by assumption) rfl rfl rfl rfl (by assumption) rfl ?_) | (refine HL.ldA (by assumption) rfl rfl rfl rfl (by assumption) rfl ?_)))
    refine HL.mut rfl (WL.call rfl rfl rfl (ins_ok (drew w8) (hf.up (hE8.trans hd)) (i : Int) (by omega)) ?_)
    rintro iv w9 ⟨hoi, e9⟩
    have hT9 := hd.trans e9
    obtain ⟨iao, ica, rfl⟩ := hoi.val
    refine WL.nil (EX.mut hT9 ?_)
    (repeat (refine HL.lenS rfl rfl rfl rfl ?_))
    refine HL.mut rfl (WL.call rfl rfl rfl (outs_ok w9 (hf.up (hE8.trans hT9)) (i : Int) (by omega)) ?_)
    rintro ov w10 ⟨hoo, e10⟩
    have hT10 := hT9.trans e10
    obtain ⟨oao, oca, rfl⟩ := hoo.val
    refine WL.nil (EX.mut hT10 ?_)
    (repeat (refine HL.lenS rfl rfl rfl rfl ?_))
    refine HL.mut rfl (WL.call rfl rfl rfl (counts_ok w10 ns[i].2 (insL fl (i : Int)).length (outsL fl (i : Int)).length) ?_)
    rintro _ _ ⟨rfl, rfl⟩
    refine WL.nil (EX.mut hT10 ?_)
    have hbc : badCount (ns, fl) i = !countsB ns[i].2 (insL fl (i : Int)).length (outsL fl (i : Int)).length := by unfold badCount; rw [hnd]
    (repeat (first | (apply HL.pure; rfl; rfl; rfl; rfl) | (apply HL.nil)))
    (repeat (apply EX.thenN))
    refine CW.cond rfl (fun h2 => ?_) (fun h2 => ?_)
    · (repeat (first | (apply WL.pure; rfl; rfl; rfl) | (apply WL.nil) | (apply EX.thenN) | (apply CW.seq) | (apply CW.region) | (apply CW.ret) | (apply EX.thenR) | (apply EX.inR)))
      refine EX.ret1 rfl rfl ⟨?_, hE8.trans hT10⟩
      rw [if_pos (List.any_eq_true.2 ⟨i, List.mem_range.2 hi', by rw [hbc]; exact h2⟩)]
    · (repeat (first | (apply WL.add; rfl; rfl; rfl; rfl; omega; omega) | (apply WL.pure; rfl; rfl; rfl) | (apply WL.nil) | (apply EX.thenN) | (apply CW.region) | (apply EX.inN) | (apply CW.skip)))
      refine EX.back (i + 1) (by repeat (first | exact trivial | refine ⟨rfl, ?_⟩)) ⟨hi', (e6.trans e8).trans hT10, fun j hj => ?_⟩ (by omega)
      by_cases e : j = i
      · subst e; rw [hbc]; exact h2
      · exact hno j (by omega)
  obtain rfl : i = ns.length := by simp at h; omega
  have hany : (List.range ns.length).any (badCount (ns, fl)) = false := List.any_eq_false.2 (fun j hj => by simp [hno j (List.mem_range.1 hj)])
  rw [if_neg (by rw [hany]; simp)]
  clear h hi hno
  have hg6 := hg.up (e5.trans e6)
  (repeat (first | (apply WL.pure; rfl; rfl; rfl) | (apply EX.thenN) | (apply CW.seq) | (apply CW.region) | (apply CW.exit) | (apply EX.thenX) | (apply EX.inX)))
  refine WL.litR [(s : Int)] rfl rfl rfl rfl rfl (.cons (Rd.mkInt _ _ _) .nil) (by show 1 * 1 ≤ 16777216; decide) (fun v7 w7 e7 r7 _ => ?_)
  obtain ⟨lo, lc, rfl, hls⟩ := r7.sl
  have hsok : okL (flowsG ns.length fl).length [(s : Int)] := fun x hx => by rw [List.mem_singleton] at hx; subst hx; rw [hgl]; omega
  have hrF := reachF_of hgok hsok (by omega)
  rw [← hgl]
  have hRR := Reach_ok w7 (hg6.up e7) hls (by simp only [List.length_singleton]; omega)
  rw [hrF, hgl] at hRR
  rw [hgl]
  skip
  refine WL.call rfl rfl rfl hRR ?_
  rintro _ w8 ⟨rv, rfl, hor, e8⟩
  obtain ⟨ro, rc, rfl, hrs⟩ := hor.oldN.sl
  (repeat (first | (apply WL.pure; rfl; rfl; rfl) | (apply WL.nil) | (apply EX.thenN) | (apply CW.seq) | (apply CW.region)))
  refine WL.call rfl rfl rfl (contains_bool w8 false hrs) ?_
  rintro _ w9 ⟨rfl, e9⟩
  have hE9 := ((hE6.trans e7).trans e8).trans e9
  (repeat (first | (apply WL.nil) | (apply EX.thenN)))
  refine CW.cond rfl (fun h2 => ?_) (fun h2 => ?_)
  · (repeat (first | (apply WL.pure; rfl; rfl; rfl) | (apply WL.nil) | (apply EX.thenN) | (apply CW.seq) | (apply CW.region) | (apply CW.ret) | (apply EX.thenR)))
    refine EX.ret1 rfl rfl ⟨?_, hE9⟩
    rw [if_pos h2]
  · (repeat (first | (apply WL.pure; rfl; rfl; rfl) | (apply WL.nil) | (apply EX.thenN) | (apply CW.seq) | (apply CW.region) | (apply CW.ret) | (apply CW.skip)))
    refine EX.ret1 rfl rfl ⟨?_, hE9⟩
    rw [if_neg (by rw [h2]; simp)]
end Go.Proofs.YtikigaeihdmcaaaDoor

/-
  The library's contracts of texts, laid over our own rows: strings.Cut, strings.Split, strings.Builder.
-/
set_option linter.unusedVariables false
set_option linter.unusedSimpArgs false
namespace Go.Proofs.YtikigaeihdmcaaaDoor
open Go.RowKit Go.Shelf

def shR : Ren := ⟨fun x => if Nat.beq x 138 = true then 118 else if Nat.beq x 143 = true then 119 else if Nat.beq x 145 = true then 46 else if Nat.beq x 146 = true then 84 else if Nat.beq x 166 = true then 37 else if Nat.beq x 169 = true then 39 else if Nat.beq x 195 = true then 126 else if Nat.beq x 197 = true then 127 else if Nat.beq x 217 = true then 113 else if Nat.beq x 218 = true then 128 else if Nat.beq x 219 = true then 102 else if Nat.beq x 220 = true then 83 else if Nat.beq x 221 = true then 103 else if Nat.beq x 224 = true then 115 else if Nat.beq x 225 = true then 114 else if Nat.beq x 240 = true then 75 else if Nat.beq x 260 = true then 129 else if Nat.beq x 266 = true then 124 else if Nat.beq x 267 = true then 116 else if Nat.beq x 268 = true then 117 else if Nat.beq x 276 = true then 98 else if Nat.beq x 314 = true then 125 else 0,
  fun x => if Nat.beq x 0 = true then 0 else if Nat.beq x 3 = true then 3 else if Nat.beq x 4 = true then 4 else if Nat.beq x 5 = true then 5 else if Nat.beq x 9 = true then 9 else if Nat.beq x 20 = true then 20 else if Nat.beq x 21 = true then 21 else if Nat.beq x 31 = true then 25 else if Nat.beq x 37 = true then 90 else if Nat.beq x 46 = true then 188 else if Nat.beq x 51 = true then 192 else if Nat.beq x 59 = true then 113 else if Nat.beq x 70 = true then 89 else if Nat.beq x 72 = true then 92 else if Nat.beq x 75 = true then 69 else if Nat.beq x 80 = true then 100 else if Nat.beq x 105 = true then 195 else if Nat.beq x 119 = true then 197 else if Nat.beq x 127 = true then 146 else if Nat.beq x 138 = true then 199 else if Nat.beq x 139 = true then 200 else if Nat.beq x 146 = true then 193 else if Nat.beq x 164 = true then 126 else 0,
  fun x => if Nat.beq x 1 = true then 4 else if Nat.beq x 3 = true then 5 else if Nat.beq x 4 = true then 6 else 0⟩
set_option maxRecDepth 100000 in
theorem shL145 : Lays.n145 Tryd.prog shR where
  mixed := by kernel_rfl
  f145 := (Tryd.func46).trans (congrArg some (by kernel_rfl))
  f217 := (Tryd.func113).trans (congrArg some (by kernel_rfl))
  f219 := (Tryd.func102).trans (congrArg some (by kernel_rfl))
  f220 := (Tryd.func83).trans (congrArg some (by kernel_rfl))
  f224 := (Tryd.func115).trans (congrArg some (by kernel_rfl))
  f225 := (Tryd.func114).trans (congrArg some (by kernel_rfl))
  f266 := (Tryd.func124).trans (congrArg some (by kernel_rfl))
  f267 := (Tryd.func116).trans (congrArg some (by kernel_rfl))
  f314 := (Tryd.func125).trans (congrArg some (by kernel_rfl))
  t3 := Tryd.underlying3
  a3 := Tryd.isAgg3
  z3 := Tryd.sizeOf3
  v3 := Tryd.zeroValue3
  t4 := Tryd.underlying4
  a4 := Tryd.isAgg4
  z4 := Tryd.sizeOf4
  v4 := Tryd.zeroValue4
  t5 := Tryd.underlying5
  a5 := Tryd.isAgg5
  z5 := Tryd.sizeOf5
  v5 := Tryd.zeroValue5
  t9 := Tryd.underlying9
  a9 := Tryd.isAgg9
  z9 := Tryd.sizeOf9
  v9 := Tryd.zeroValue9
  t46 := Tryd.underlying188
  a46 := Tryd.isAgg188
  z46 := Tryd.sizeOf188
  v46 := Tryd.zeroValue188
  t51 := Tryd.underlying192
  a51 := Tryd.isAgg192
  z51 := Tryd.sizeOf192
  v51 := Tryd.zeroValue192
  t59 := Tryd.underlying113
  a59 := Tryd.isAgg113
  z59 := Tryd.sizeOf113
  v59 := Tryd.zeroValue113
  t146 := Tryd.underlying193
  a146 := Tryd.isAgg193
  z146 := Tryd.sizeOf193
  v146 := Tryd.zeroValue193
  g1 := by kernel_rfl
set_option maxRecDepth 100000 in
theorem shL146 : Lays.n146 Tryd.prog shR where
  mixed := by kernel_rfl
  f138 := (Tryd.func118).trans (congrArg some (by kernel_rfl))
  f143 := (Tryd.func119).trans (congrArg some (by kernel_rfl))
  f146 := (Tryd.func84).trans (congrArg some (by kernel_rfl))
  f195 := (Tryd.func126).trans (congrArg some (by kernel_rfl))
  f197 := (Tryd.func127).trans (congrArg some (by kernel_rfl))
  f217 := (Tryd.func113).trans (congrArg some (by kernel_rfl))
  f218 := (Tryd.func128).trans (congrArg some (by kernel_rfl))
  f219 := (Tryd.func102).trans (congrArg some (by kernel_rfl))
  f221 := (Tryd.func103).trans (congrArg some (by kernel_rfl))
  f224 := (Tryd.func115).trans (congrArg some (by kernel_rfl))
  f225 := (Tryd.func114).trans (congrArg some (by kernel_rfl))
  f260 := (Tryd.func129).trans (congrArg some (by kernel_rfl))
  f266 := (Tryd.func124).trans (congrArg some (by kernel_rfl))
  f267 := (Tryd.func116).trans (congrArg some (by kernel_rfl))
  f268 := (Tryd.func117).trans (congrArg some (by kernel_rfl))
  f314 := (Tryd.func125).trans (congrArg some (by kernel_rfl))
  t0 := by kernel_rfl
  a0 := fun w => rfl
  z0 := fun w => rfl
  v0 := fun w => rfl
  t3 := Tryd.underlying3
  a3 := Tryd.isAgg3
  z3 := Tryd.sizeOf3
  v3 := Tryd.zeroValue3
  t4 := Tryd.underlying4
  a4 := Tryd.isAgg4
  z4 := Tryd.sizeOf4
  v4 := Tryd.zeroValue4
  t5 := Tryd.underlying5
  a5 := Tryd.isAgg5
  z5 := Tryd.sizeOf5
  v5 := Tryd.zeroValue5
  t9 := Tryd.underlying9
  a9 := Tryd.isAgg9
  z9 := Tryd.sizeOf9
  v9 := Tryd.zeroValue9
  t21 := Tryd.underlying21
  a21 := Tryd.isAgg21
  z21 := Tryd.sizeOf21
  v21 := Tryd.zeroValue21
  t31 := Tryd.underlying25
  a31 := Tryd.isAgg25
  z31 := Tryd.sizeOf25
  v31 := Tryd.zeroValue25
  t46 := Tryd.underlying188
  a46 := Tryd.isAgg188
  z46 := Tryd.sizeOf188
  v46 := Tryd.zeroValue188
  t51 := Tryd.underlying192
  a51 := Tryd.isAgg192
  z51 := Tryd.sizeOf192
  v51 := Tryd.zeroValue192
  t105 := Tryd.underlying195
  a105 := Tryd.isAgg195
  z105 := Tryd.sizeOf195
  v105 := Tryd.zeroValue195
  t119 := Tryd.underlying197
  a119 := Tryd.isAgg197
  z119 := Tryd.sizeOf197
  t138 := Tryd.underlying199
  a138 := Tryd.isAgg199
  z138 := Tryd.sizeOf199
  v138 := Tryd.zeroValue199
  t139 := Tryd.underlying200
  a139 := Tryd.isAgg200
  z139 := Tryd.sizeOf200
  v139 := Tryd.zeroValue200
  t146 := Tryd.underlying193
  a146 := Tryd.isAgg193
  z146 := Tryd.sizeOf193
  v146 := Tryd.zeroValue193
  g1 := by kernel_rfl
  g3 := by kernel_rfl
  g4 := by kernel_rfl
set_option maxRecDepth 100000 in
theorem shL166 : Lays.n166 Tryd.prog shR where
  mixed := by kernel_rfl
  f166 := (Tryd.func37).trans (congrArg some (by kernel_rfl))
  f240 := (Tryd.func75).trans (congrArg some (by kernel_rfl))
  f276 := (Tryd.func98).trans (congrArg some (by kernel_rfl))
  t0 := by kernel_rfl
  a0 := fun w => rfl
  z0 := fun w => rfl
  v0 := fun w => rfl
  t3 := Tryd.underlying3
  a3 := Tryd.isAgg3
  z3 := Tryd.sizeOf3
  v3 := Tryd.zeroValue3
  t4 := Tryd.underlying4
  a4 := Tryd.isAgg4
  z4 := Tryd.sizeOf4
  v4 := Tryd.zeroValue4
  t9 := Tryd.underlying9
  a9 := Tryd.isAgg9
  z9 := Tryd.sizeOf9
  v9 := Tryd.zeroValue9
  t20 := Tryd.underlying20
  a20 := Tryd.isAgg20
  z20 := Tryd.sizeOf20
  v20 := Tryd.zeroValue20
  t37 := Tryd.underlying90
  a37 := Tryd.isAgg90
  z37 := Tryd.sizeOf90
  v37 := Tryd.zeroValue90
  t70 := Tryd.underlying89
  a70 := Tryd.isAgg89
  z70 := Tryd.sizeOf89
  v70 := Tryd.zeroValue89
  t72 := Tryd.underlying92
  a72 := Tryd.isAgg92
  z72 := Tryd.sizeOf92
  v72 := Tryd.zeroValue92
  t75 := Tryd.underlying69
  a75 := Tryd.isAgg69
  z75 := Tryd.sizeOf69
  v75 := Tryd.zeroValue69
  t164 := Tryd.underlying126
  a164 := Tryd.isAgg126
  z164 := Tryd.sizeOf126
  v164 := Tryd.zeroValue126
set_option maxRecDepth 100000 in
theorem shL169 : Lays.n169 Tryd.prog shR where
  mixed := by kernel_rfl
  f169 := (Tryd.func39).trans (congrArg some (by kernel_rfl))
  t0 := by kernel_rfl
  a0 := fun w => rfl
  z0 := fun w => rfl
  v0 := fun w => rfl
  t3 := Tryd.underlying3
  a3 := Tryd.isAgg3
  z3 := Tryd.sizeOf3
  v3 := Tryd.zeroValue3
  t9 := Tryd.underlying9
  a9 := Tryd.isAgg9
  z9 := Tryd.sizeOf9
  v9 := Tryd.zeroValue9
  t37 := Tryd.underlying90
  a37 := Tryd.isAgg90
  z37 := Tryd.sizeOf90
  v37 := Tryd.zeroValue90
  t70 := Tryd.underlying89
  a70 := Tryd.isAgg89
  z70 := Tryd.sizeOf89
  v70 := Tryd.zeroValue89
  t72 := Tryd.underlying92
  a72 := Tryd.isAgg92
  z72 := Tryd.sizeOf92
  v72 := Tryd.zeroValue92
  t127 := Tryd.underlying146
  a127 := Tryd.isAgg146
  z127 := Tryd.sizeOf146
  v127 := Tryd.zeroValue146
theorem shX : Builder.Extra Tryd.prog shR where
  sizeBuilder := by kernel_rfl
  liesBuilder := by kernel_rfl
  t5 := Tryd.underlying5
  a5 := Tryd.isAgg5
  z5 := Tryd.sizeOf5
  v5 := Tryd.zeroValue5
  infoByte := by kernel_rfl
  cellsByte := by kernel_rfl
  sizeByte := by kernel_rfl
  neB5 := of_decide_eq_true (by kernel_rfl)
theorem shI : (Tryd.prog.info? (shR.t 9)).map (fun i => (i.zero, i.size, i.bytes)) = some (some (.string ByteArray.empty), 1, 16) := by kernel_rfl
/-- the cell that the library's search reads -/
def MaxH (w : World) : Prop := ∃ m, w.cell? ⟨4, 0, none⟩ = some (.int .i64 m)
theorem maxH_of {w : World} (h : w.ShapedOpen Tryd.prog) : MaxH w :=
  Go.Proofs.cell_of_shapedOpen_int (zero := #[.int .i64 0]) (t := 3) h (of_decide_eq_true (by kernel_rfl)) (by kernel_rfl) rfl (by kernel_rfl) (by kernel_rfl) Tryd.underlying3
end Go.Proofs.YtikigaeihdmcaaaDoor

/-
  Formulas of one way: how they lie in memory, their check.
-/
set_option linter.unusedVariables false
set_option linter.unusedSimpArgs false
namespace Go.Proofs.YtikigaeihdmcaaaDoor
open Go.RowKit

inductive Ltl where
  | mk (k n : Int) (kids : List Ltl) : Ltl
def Ltl.k : Ltl → Int | .mk k _ _ => k
def Ltl.n : Ltl → Int | .mk _ n _ => n
def Ltl.kids : Ltl → List Ltl | .mk _ _ l => l
mutual
def Ltl.nodes : Ltl → Nat
  | .mk _ _ kids => 1 + Ltl.nodesL kids
def Ltl.nodesL : List Ltl → Nat
  | [] => 0
  | x :: r => x.nodes + Ltl.nodesL r
end
inductive RdT (w : World) (F : Nat → Prop) : List Value → Ltl → Prop
  | mk (k n : Int) (kids : List Ltl) (ao : Option Addr) (cap : Nat) (es : Nat → List Value) : kids.length ≤ cap → cap ≤ maxLen → (ao = none → cap = 0) →
      (∀ i, i < kids.length → ∃ b off, ao = some ⟨b, off, none⟩ ∧ F b ∧ Cells w b (off + i * 3) (es i)) → (∀ i (h : i < kids.length), RdT w F (es i) kids[i]) →
      RdT w F [.int .i64 k, .int .i64 n, .slice ao kids.length cap] (.mk k n kids)
instance iLtl1 : Rep Ltl where
  sz := 3
  pos := by decide
  agg := true
  rd := RdT
  len := by intro w F cs x h; cases h; rfl
  one := by
    intro w F cs x h v hv
    cases h
    simp at hv
    rcases hv with rfl | rfl | rfl <;> rfl
  szAgg := fun h => by cases h
  mono := by
    intro w w' F F' cs x h hb hF
    induction h with
    | mk k n kids ao cap es h1 h2 h3 h4 h5 ih =>
      refine .mk k n kids ao cap es h1 h2 h3 (fun i hi => ?_) (fun i hi => ih i hi)
      obtain ⟨b, off, e, hf, hc⟩ := h4 i hi
      exact ⟨b, off, e, hF b hf, hc.mono (hb b hf)⟩
theorem RdT.sl {w : World} {F : Nat → Prop} {cs : List Value} {t : Ltl} (h : rd w F cs t) : ∃ ao cap, cs = [.int .i64 t.k, .int .i64 t.n, .slice ao t.kids.length cap] ∧ Sl w F ao cap t.kids := by
  cases h with
  | mk k n kids ao cap es h1 h2 h3 h4 h5 =>
    refine ⟨ao, cap, rfl, h1, h2, h3, fun i hi => ?_⟩
    obtain ⟨b, off, e, hf, hc⟩ := h4 i hi
    exact ⟨b, off, e, hf, es i, hc, h5 i hi⟩
theorem RdT.of {w : World} {F : Nat → Prop} {k n : Int} {kids : List Ltl} {ao : Option Addr} {cap : Nat} (h : Sl w F ao cap kids) : rd w F [.int .i64 k, .int .i64 n, .slice ao kids.length cap] (Ltl.mk k n kids) := by
  have h4 : ∀ i, ∃ es : List Value, ∀ hi : i < kids.length, ∃ b off, ao = some ⟨b, off, none⟩ ∧ F b ∧ Cells w b (off + i * 3) es ∧ rd w F es kids[i] := by
    intro i
    by_cases hi : i < kids.length
    · obtain ⟨b, off, e, hf, es, hc, hr⟩ := h.el i hi
      exact ⟨es, fun _ => ⟨b, off, e, hf, hc, hr⟩⟩
    · exact ⟨[], fun h => absurd h hi⟩
  refine .mk k n kids ao cap (fun i => Classical.choose (h4 i)) h.le h.mx h.nil (fun i hi => ?_) (fun i hi => ?_)
  · obtain ⟨b, off, e, hf, hc, _⟩ := Classical.choose_spec (h4 i) hi
    exact ⟨b, off, e, hf, hc⟩
  · obtain ⟨b, off, e, hf, hc, hr⟩ := Classical.choose_spec (h4 i) hi
    exact hr
instance iLtl2 : IsT Tryd.prog 39 Ltl := IsT.of (by kernel_rfl) Tryd.underlying39 rfl
instance iLtl3 : IsS Tryd.prog 37 39 := ⟨Tryd.underlying37⟩
instance iLtl4 : IsT Tryd.prog 37 (List Ltl) := IsT.of (by kernel_rfl) Tryd.underlying37 rfl
instance iLtl5 : IsZ Tryd.prog 39 (Ltl.mk 0 0 []) 40 := IsZ.of (z := .agg #[.int .i64 0, .int .i64 0, .slice none 0 0]) (by kernel_rfl) (fun _ _ => RdT.of (kids := []) ⟨by simp, by simp [maxLen], fun _ => rfl, fun i hi => absurd hi (by simp)⟩)
instance iLtl6 : IsC Tryd.prog 39 3 true := IsC.of (by kernel_rfl) Tryd.underlying39 rfl
instance iLtl7 : IsC Tryd.prog 37 1 false := IsC.of (by kernel_rfl) Tryd.underlying37 rfl
instance iLtl8 : IsZC Tryd.prog 37 [.slice none 0 0] := IsZC.of (z := .slice none 0 0) (by kernel_rfl) rfl
instance iLtl9 : IsFd Tryd.prog 39 0 0 := IsFd.of (by kernel_rfl)
instance iLtl10 : IsFd Tryd.prog 39 1 1 := IsFd.of (by kernel_rfl)
instance iLtl11 : IsFd Tryd.prog 39 2 2 := IsFd.of (by kernel_rfl)
instance iLtl12 : IsZC Tryd.prog 39 [.int .i64 0, .int .i64 0, .slice none 0 0] := IsZC.of (z := .agg #[.int .i64 0, .int .i64 0, .slice none 0 0]) (by kernel_rfl) rfl
instance iLtl13 : IsBd Tryd.prog 39 [(0, 1), (1, 1), (2, 1)] := IsBd.of (by kernel_rfl)
instance iLtl14 : IsC Tryd.prog 122 1 false := IsC.of (by kernel_rfl) Tryd.underlying122 rfl

end Go.Proofs.YtikigaeihdmcaaaDoor

/-
  Package ltl: Check.
-/
set_option linter.unusedVariables false
set_option linter.unusedSimpArgs false
namespace Go.Proofs.YtikigaeihdmcaaaDoor
open Go.RowKit

end Go.Proofs.YtikigaeihdmcaaaDoor

/-
  Texts of formulas of one way: what is printed, what is read: plain.
-/
set_option linter.unusedVariables false
set_option linter.unusedSimpArgs false
namespace Go.Proofs.YtikigaeihdmcaaaDoor

abbrev Bys := List UInt8
def tTrue : Bys := [116, 114, 117, 101]
def tFalse : Bys := [102, 97, 108, 115, 101]
def tSil : Bys := [115, 105, 108, 101, 110, 116]
theorem named_low {l : Bys} (h : namedL l = true) : ∀ c ∈ l, lowB c = true := by
  unfold namedL at h
  simp only [Bool.and_eq_true] at h
  exact List.all_eq_true.1 h.2
theorem named_ne {l : Bys} (h : namedL l = true) : l ≠ [] ∧ l ≠ tTrue ∧ l ≠ tFalse ∧ l ≠ tSil ∧ l.length ≤ 8 := by
  unfold namedL at h
  simp only [Bool.and_eq_true, Bool.not_eq_true', beq_eq_false_iff_ne, decide_eq_false_iff_not] at h
  obtain ⟨⟨⟨⟨⟨h1, h2⟩, h3⟩, h4⟩, h5⟩, _⟩ := h
  exact ⟨h1, h3, h4, h5, by omega⟩
/- PRINTED -/
/- READ -/
inductive PR where
  | er (c : Int) (a : Nat) : PR
  | ok (f : Ltl) (st : Bys × Bys) : PR
end Go.Proofs.YtikigaeihdmcaaaDoor

/-
  Texts put together; a list of words that stands in an array. Over any program.
-/
set_option linter.unusedVariables false
set_option linter.unusedSimpArgs false
namespace Go.Proofs.YtikigaeihdmcaaaDoor
open Go.RowKit

/-- a text by its bytes -/
def txA (l : List UInt8) : ByteArray := ⟨l.toArray⟩
theorem txA_list (l : List UInt8) : (txA l).data.toList = l := by simp [txA]
theorem txA_eta (s : ByteArray) : txA s.data.toList = s := by cases s; simp [txA]
theorem txA_app (a b : List UInt8) : txA a ++ txA b = txA (a ++ b) := by
  apply ByteArray.ext
  simp [txA, ByteArray.append]
theorem txA_size (l : List UInt8) : (txA l).size = l.length := by simp [txA, ByteArray.size]
abbrev tV (l : List UInt8) : Value := .string (txA l)
section
variable {P : Program} {Q : Exit → Act → World → Prop} {n : Nat} {σ : Sg} {w : World} {L rest : List Oper} {d : Nat} {op : Op} {ty : TypeId} {pos : String} {af : Array Edge} {g : Option (Nat × Bool)} {t yt : TypeId} {x y ix : Operand}
theorem run_cat {a b : List UInt8} (w : World) (h : a.length + b.length < 9223372036854775808) : ((do eqGuard .add t x y (tV a) (tV b); binOp .add t (tV a) (tV b) : Sem Value)).run P w = .ok (tV (a ++ b)) w := by
  have h1 : ((txA a).size : Int) + ((txA b).size : Int) ≤ 9223372036854775807 := by rw [txA_size, txA_size]; omega
  simp [eqGuard, binOp, Op.stringOp, h1, txA_app, show IntKind.i64.max = 9223372036854775807 by decide]
/-- a + b, texts -/
theorem WL.cat {a b : List UInt8} (hg : gd L σ ⟨some d, .binOp .add t x y yt, ty, pos, af, g⟩ = some true) (hd : Nat.ble (d + 1) n = true) (hx : ev σ x = some (tV a)) (hy : ev σ y = some (tV b)) (hl : a.length + b.length < 9223372036854775808)
    (h : WL P L Q rest n ((d, tV (a ++ b)) :: σ) w) : WL P L Q (⟨some d, .binOp .add t x y yt, ty, pos, af, g⟩ :: rest) n σ w := by
  refine WL.run hg hd (fun c hc => ?_) h
  simp only [execOp, hc.ev hx, hc.ev hy]
  rw [Sem.run_bind, run_cat w hl]; rfl
theorem QL.cat {a b : List UInt8} (hg : gd L σ ⟨some d, .binOp .add t x y yt, ty, pos, af, g⟩ = some true) (hd : Nat.ble (d + 1) n = true) (hx : ev σ x = some (tV a)) (hy : ev σ y = some (tV b)) (hl : a.length + b.length < 9223372036854775808)
    (h : QL P L w Q rest n ((d, tV (a ++ b)) :: σ)) : QL P L w Q (⟨some d, .binOp .add t x y yt, ty, pos, af, g⟩ :: rest) n σ := by
  refine QL.run hg hd (fun c hc w' _ => ?_) h
  simp only [execOp, hc.ev hx, hc.ev hy]
  rw [Sem.run_bind, run_cat w' hl]; rfl
theorem HL.cat {S : World → Prop} {ord : List (Nat × Bool)} {i : Nat} {a b : List UInt8} (ho : nthO L i = some ⟨some d, .binOp .add t x y yt, ty, pos, af, g⟩) (hg : gd L σ ⟨some d, .binOp .add t x y yt, ty, pos, af, g⟩ = some true) (hd : Nat.ble (d + 1) n = true)
    (hx : ev σ x = some (tV a)) (hy : ev σ y = some (tV b)) (hl : a.length + b.length < 9223372036854775808) (h : HL P L S Q ord n ((d, tV (a ++ b)) :: σ) w) : HL P L S Q ((i, true) :: ord) n σ w := by
  refine HL.run ho hg hd (fun c hc w' _ => ?_) h
  simp only [execOp, hc.ev hx, hc.ev hy]
  rw [Sem.run_bind, run_cat w' hl]; rfl
/-- an array type -/
class IsAr (P : Program) (t : TypeId) (k : outParam Nat) (e : outParam TypeId) : Prop where
  ok : P.underlying t = some (.array k e)
theorem fill_mono {p p' : Nat → Option (Nat × Nat)} (h : ∀ i q, p i = some q → p' i = some q) : ∀ (parts : List (Nat × Value)) (cells out : Array Value), Instr.fill p cells parts = some out → Instr.fill p' cells parts = some out
  | [], cells, out, e => e
  | (i, v) :: r, cells, out, e => by
    unfold Instr.fill at e ⊢
    cases hp : p i with
    | none => rw [hp] at e; cases e
    | some q =>
      obtain ⟨off, size⟩ := q
      rw [hp] at e
      rw [h i _ hp]
      dsimp only at e ⊢
      split at e
      · cases e
      · rename_i hc
        rw [if_neg hc]
        exact fill_mono h r _ out e
def placesA : Nat → Nat → List (Nat × Nat)
  | 0, _ => []
  | k + 1, o => (o, 1) :: placesA k (o + 1)
theorem placesA_get : ∀ (k o i : Nat) (q : Nat × Nat), (placesA k o)[i]? = some q → q = (o + i, 1)
  | 0, o, i, q, h => by simp [placesA] at h
  | k + 1, o, 0, q, h => by simp [placesA] at h; rw [← h]; rfl
  | k + 1, o, i + 1, q, h => by
    simp only [placesA, List.getElem?_cons_succ] at h
    rw [placesA_get k (o + 1) i q h, show o + 1 + i = o + (i + 1) by omega]
/-- an array's value, a word in each cell that is named -/
theorem WL.buildAr {parts : List (Nat × Operand)} {vs : List Value} {k : Nat} {e : TypeId} {zs out : List Value} (hg : gd L σ ⟨some d, .build t parts.toArray, ty, pos, af, g⟩ = some true) (hd : Nat.ble (d + 1) n = true)
    (hv : evs σ (sndL parts) = some vs) [hz : IsZC P t zs] [hp : IsAr P t k e] [hc : IsC P e 1 false] (hf : fillL (placesA k 0) zs ((parts.map (·.1)).zip vs) = some out)
    (h : WL P L Q rest n ((d, .agg out.toArray) :: σ) w) : WL P L Q (⟨some d, .build t parts.toArray, ty, pos, af, g⟩ :: rest) n σ w := by
  refine WL.run hg hd (fun a ha => ?_) h
  obtain ⟨i, z, hz1, hz2, hz3⟩ := hz.ok
  obtain ⟨j, dd, hc1, hc2, _, _⟩ := hc.ok
  have e1 := evs_eq ha (sndL parts) vs hv
  have e2 : (parts.toArray.map fun x => (x.1, a.eval x.2)).toList = (parts.map (·.1)).zip vs := by
    rw [← e1]
    clear hv hf hg h e1
    induction parts with
    | nil => simp [sndL]
    | cons p r ih => simpa [sndL] using ih
  have e3 := fill_mono (p' := fun i => some (i * 1, 1)) (fun i q hq => by
    have hq' : (placesA k 0)[i]? = some q := by simpa using hq
    rw [placesA_get k 0 i q hq']; simp) _ _ _ (fillL_eq (placesA k 0) _ _ _ hf)
  simp only [Nat.mul_one] at e3
  simp only [execOp, Instr.build, zeroValue, typeInfo, hz1, hz2, hz3, run_underlying hp.ok, sizeOf, hc1, hc2]
  simp [hz1, hz2, hz3, run_underlying hp.ok, hc1, hc2]
  simp at e2
  rw [e2, e3]
  rfl
/-- an array's cell -/
theorem WL.indexAr {k i : Nat} {e : TypeId} {kd : IntKind} {cells : List Value} {v : Value} (hg : gd L σ ⟨some d, .index t x ix, ty, pos, af, g⟩ = some true) (hd : Nat.ble (d + 1) n = true)
    (hx : ev σ x = some (.agg cells.toArray)) (hi : ev σ ix = some (.int kd (i : Int))) [ha : IsAr P t k e] [hc : IsC P e 1 false] (h1 : i < k) (hv : nthV cells i = some v)
    (h : WL P L Q rest n ((d, v) :: σ) w) : WL P L Q (⟨some d, .index t x ix, ty, pos, af, g⟩ :: rest) n σ w := by
  obtain ⟨j, dd, hc1, hc2, hc3, hc4⟩ := hc.ok
  rw [nthV_eq] at hv
  have hagg : (isAgg e).run P w = .ok false w := by
    unfold isAgg
    rw [Sem.run_bind, run_underlying hc3 w, ← hc4]
    cases dd <;> rfl
  have hv' : cells.toArray[i]? = some v := by simpa using hv
  refine WL.run hg hd (fun a ha0 => ?_) h
  simp [execOp, ha0.ev hx, ha0.ev hi, Instr.index, asIntOf, run_underlying ha.ok, h1, sizeOf, typeInfo, hc1, hc2, part, hagg, hv]
end
end Go.Proofs.YtikigaeihdmcaaaDoor

/-
  Texts of processes: printed, read. Plain: no program in sight.
-/
set_option linter.unusedVariables false
set_option linter.unusedSimpArgs false
namespace Go.Proofs.YtikigaeihdmcaaaDoor

abbrev FlT := ByteArray × ByteArray × Int
abbrev bysA (s : ByteArray) : Bys := s.data.toList
def wordP (k : Int) : Bys :=
  if k = 1 then [115, 116, 97, 114, 116] else if k = 2 then [101, 110, 100] else if k = 3 then [115, 116, 111, 112] else if k = 4 then [116, 97, 115, 107]
  else if k = 5 then [120, 111, 114] else if k = 6 then [97, 110, 100] else if k = 7 then [111, 114] else []
def flowW : Bys := [102, 108, 111, 119]
def nodeT (n : LNode) : Bys := wordP n.2 ++ [32] ++ bysA n.1 ++ [10]
def nmAt (ns : List LNode) (i : Int) : Bys := bysA (ns.getD i.toNat (⟨#[]⟩, 0)).1
def lineF (a b : Bys) : Bys := [102, 108, 111, 119, 32] ++ a ++ [32] ++ b ++ [10]
def flowT (ns : List LNode) (f : LFlow) : Bys := lineF (nmAt ns f.1) (nmAt ns f.2)
def procT (p : LProc) : Bys := (p.1.map nodeT).flatten ++ (p.2.map (flowT p.1)).flatten
/- PARTS OF A TEXT -/
def splitL (c : UInt8) : Bys → List Bys
  | [] => [[]]
  | b :: l => if b = c then [] :: splitL c l else match splitL c l with
    | [] => [[b]]
    | x :: r => (b :: x) :: r
def joinS (c : UInt8) : List Bys → Bys
  | [] => []
  | [x] => x
  | x :: y :: r => x ++ c :: joinS c (y :: r)
theorem splitL_ne (c : UInt8) : ∀ s, splitL c s ≠ []
  | [] => by simp [splitL]
  | b :: l => by
    unfold splitL
    split
    · simp
    · split <;> simp
theorem splitL_no {c : UInt8} : ∀ {a : Bys}, c ∉ a → splitL c a = [a]
  | [], _ => rfl
  | b :: l, h => by
    have hb : ¬ b = c := fun e => h (by simp [e])
    have hl : c ∉ l := fun e => h (by simp [e])
    unfold splitL
    rw [if_neg hb, splitL_no hl]
theorem splitL_at {c : UInt8} : ∀ {a b : Bys}, c ∉ a → splitL c (a ++ c :: b) = a :: splitL c b
  | [], b, _ => by simp [splitL]
  | d :: l, b, h => by
    have hb : ¬ d = c := fun e => h (by simp [e])
    have hl : c ∉ l := fun e => h (by simp [e])
    simp only [List.cons_append]
    rw [splitL, if_neg hb, splitL_at hl]
theorem join_split (c : UInt8) : ∀ s, joinS c (splitL c s) = s
  | [] => rfl
  | b :: l => by
    have ih := join_split c l
    have hne := splitL_ne c l
    unfold splitL
    cases h : splitL c l with
    | nil => exact absurd h hne
    | cons x r =>
      rw [h] at ih
      split
      · rename_i e
        simp only [joinS, List.nil_append]
        rw [ih, e]
      · cases r with
        | nil => simp only [joinS] at ih ⊢; rw [ih]
        | cons y r => simp only [joinS, List.cons_append] at ih ⊢; rw [ih]
def cutL (c : UInt8) : Bys → Option (Bys × Bys)
  | [] => none
  | b :: l => if b = c then some ([], l) else (cutL c l).map fun x => (b :: x.1, x.2)
theorem cutL_some {c : UInt8} : ∀ {s a r : Bys}, cutL c s = some (a, r) → s = a ++ c :: r
  | [], a, r, h => by cases h
  | b :: l, a, r, h => by
    unfold cutL at h
    split at h
    · rename_i e
      injection h with h; injection h with h1 h2
      rw [← h1, ← h2, e]; rfl
    · cases h2 : cutL c l with
      | none => rw [h2] at h; cases h
      | some x =>
        rw [h2] at h
        injection h with h; injection h with h3 h4
        have := cutL_some (a := x.1) (r := x.2) h2
        rw [← h3, ← h4, this]; rfl
theorem cutL_at {c : UInt8} : ∀ {a r : Bys}, c ∉ a → cutL c (a ++ c :: r) = some (a, r)
  | [], r, _ => by simp [cutL]
  | b :: l, r, h => by
    have hb : ¬ b = c := fun e => h (by simp [e])
    have hl : c ∉ l := fun e => h (by simp [e])
    simp only [List.cons_append]
    rw [cutL, if_neg hb, cutL_at hl]; rfl
/- READ -/
def kindW (a : Bys) : Int := if a = wordP 1 then 1 else if a = wordP 2 then 2 else if a = wordP 3 then 3 else if a = wordP 4 then 4 else if a = wordP 5 then 5 else if a = wordP 6 then 6 else if a = wordP 7 then 7 else 0
def lineP (ns : List LNode) (fs : List FlT) (l : Bys) (ln : Int) : Option (List LNode × List FlT) :=
  if (splitL 32 l).getD 0 [] = flowW then
    if (splitL 32 l).length = 3 ∧ namedL ((splitL 32 l).getD 1 []) = true ∧ namedL ((splitL 32 l).getD 2 []) = true then some (ns, fs ++ [(txA ((splitL 32 l).getD 1 []), txA ((splitL 32 l).getD 2 []), ln)]) else none
  else if kindW ((splitL 32 l).getD 0 []) = 0 then none
  else if (splitL 32 l).length = 2 ∧ namedL ((splitL 32 l).getD 1 []) = true ∧ fs = [] then some (ns ++ [(txA ((splitL 32 l).getD 1 []), kindW ((splitL 32 l).getD 0 []))], fs) else none
def readP : Nat → Bys → Int → List LNode → List FlT → Option (List LNode × List FlT) × Int
  | 0, _, ln, ns, fs => (some (ns, fs), ln)
  | f + 1, s, ln, ns, fs => if s = [] then (some (ns, fs), ln) else match cutL 10 s with
    | none => (none, ln)
    | some x => match lineP ns fs x.1 ln with
      | none => (none, ln)
      | some y => readP f x.2 (ln + 1) y.1 y.2
def nodeIx (ns : List LNode) (nm : ByteArray) : Int := idxOf (fun n : LNode => nameEq n.1 nm) ns
def flowsR (ns : List LNode) : List FlT → List LFlow → Option (List LFlow) × Int
  | [], acc => (some acc, 0)
  | f :: r, acc => if nodeIx ns f.1 < 0 ∨ nodeIx ns f.2.1 < 0 then (none, f.2.2) else flowsR ns r (acc ++ [(nodeIx ns f.1, nodeIx ns f.2.1)])
/-- what Parse tells -/
noncomputable def parseP (s : Bys) : LProc × Int × Int :=
  if s.length > 4096 then (([], []), 0, 2) else match readP s.length s 1 [] [] with
  | (none, ln) => (([], []), ln, 3)
  | (some x, _) => match flowsR x.1 x.2 [] with
    | (none, ln) => (([], []), ln, 4)
    | (some fl, _) => if chkPr (x.1, fl) ≠ 0 then (([], []), 0, chkPr (x.1, fl)) else ((x.1, fl), 0, 0)
/- WHAT IS READ IS PRINTED SO -/
theorem word_ok {k : Int} (h1 : 1 ≤ k) (h2 : k ≤ 7) : kindW (wordP k) = k ∧ wordP k ≠ flowW ∧ (32 : UInt8) ∉ wordP k ∧ (10 : UInt8) ∉ wordP k ∧ (wordP k).length ≤ 5 := by
  obtain rfl | rfl | rfl | rfl | rfl | rfl | rfl : k = 1 ∨ k = 2 ∨ k = 3 ∨ k = 4 ∨ k = 5 ∨ k = 6 ∨ k = 7 := by omega
  all_goals decide
theorem word_kind {a : Bys} (h : kindW a ≠ 0) : wordP (kindW a) = a ∧ 1 ≤ kindW a ∧ kindW a ≤ 7 := by
  unfold kindW at h ⊢
  by_cases h1 : a = wordP 1
  · rw [if_pos h1]; exact ⟨h1.symm, by omega, by omega⟩
  rw [if_neg h1] at h ⊢
  by_cases h1 : a = wordP 2
  · rw [if_pos h1]; exact ⟨h1.symm, by omega, by omega⟩
  rw [if_neg h1] at h ⊢
  by_cases h1 : a = wordP 3
  · rw [if_pos h1]; exact ⟨h1.symm, by omega, by omega⟩
  rw [if_neg h1] at h ⊢
  by_cases h1 : a = wordP 4
  · rw [if_pos h1]; exact ⟨h1.symm, by omega, by omega⟩
  rw [if_neg h1] at h ⊢
  by_cases h1 : a = wordP 5
  · rw [if_pos h1]; exact ⟨h1.symm, by omega, by omega⟩
  rw [if_neg h1] at h ⊢
  by_cases h1 : a = wordP 6
  · rw [if_pos h1]; exact ⟨h1.symm, by omega, by omega⟩
  rw [if_neg h1] at h ⊢
  by_cases h1 : a = wordP 7
  · rw [if_pos h1]; exact ⟨h1.symm, by omega, by omega⟩
  rw [if_neg h1] at h
  exact absurd rfl h
def flT (f : FlT) : Bys := lineF (bysA f.1) (bysA f.2.1)
def outP (ns : List LNode) (fs : List FlT) : Bys := (ns.map nodeT).flatten ++ (fs.map flT).flatten
theorem list2 {l : List Bys} (h : l.length = 2) : l = [l.getD 0 [], l.getD 1 []] := by
  match l, h with
  | [a, b], _ => rfl
theorem list3 {l : List Bys} (h : l.length = 3) : l = [l.getD 0 [], l.getD 1 [], l.getD 2 []] := by
  match l, h with
  | [a, b, c], _ => rfl
theorem line_out {ns ns' : List LNode} {fs fs' : List FlT} {l : Bys} {ln : Int} (h : lineP ns fs l ln = some (ns', fs')) (h1 : ∀ f ∈ fs, 1 ≤ f.2.2) (hl : 1 ≤ ln) : outP ns' fs' = outP ns fs ++ (l ++ [10]) ∧ ∀ f ∈ fs', 1 ≤ f.2.2 := by
  have hj := join_split 32 l
  unfold lineP at h
  split at h
  · rename_i h0
    split at h
    · rename_i h2
      injection h with h; injection h with h3 h4
      rw [list3 h2.1] at hj
      generalize (splitL 32 l).getD 1 [] = a at *
      generalize (splitL 32 l).getD 2 [] = b at *
      rw [h0] at hj
      rw [← h3, ← h4]
      refine ⟨?_, fun f hf => ?_⟩
      · simp only [outP, List.map_append, List.flatten_append, List.append_assoc]
        rw [← hj]
        simp [flT, lineF, joinS, flowW, txA]
      · rcases List.mem_append.1 hf with hf | hf
        · exact h1 f hf
        · rw [List.mem_singleton.1 hf]; exact hl
    · cases h
  · split at h
    · cases h
    · rename_i h0 hk
      obtain ⟨hw, -, -⟩ := word_kind hk
      split at h
      · rename_i h2
        injection h with h; injection h with h3 h4
        obtain ⟨h5, h6, rfl⟩ := h2
        rw [list2 h5] at hj
        generalize (splitL 32 l).getD 1 [] = a at *
        generalize (splitL 32 l).getD 0 [] = b at *
        rw [← h3, ← h4]
        refine ⟨?_, fun f hf => by cases hf⟩
        simp only [outP, List.map_append, List.flatten_append, List.append_assoc]
        rw [← hj]
        simp [nodeT, joinS, txA, hw]
      · cases h
theorem read_out : ∀ (f : Nat) {s : Bys} {ln ln' : Int} {ns : List LNode} {fs : List FlT} {o : Option (List LNode × List FlT)}, readP f s ln ns fs = (o, ln') → s.length ≤ f → (∀ f ∈ fs, 1 ≤ f.2.2) → 1 ≤ ln →
    1 ≤ ln' ∧ ∀ x, o = some x → outP x.1 x.2 = outP ns fs ++ s ∧ ∀ f ∈ x.2, 1 ≤ f.2.2
  | 0, s, ln, ln', ns, fs, o, h, hf, h1, hl => by
    have hs : s = [] := List.length_eq_zero_iff.1 (by omega)
    unfold readP at h
    injection h with h2 h3
    subst hs
    exact ⟨by omega, fun x hx => by rw [← h2] at hx; injection hx with hx; rw [← hx]; exact ⟨by simp, h1⟩⟩
  | f + 1, s, ln, ln', ns, fs, o, h, hf, h1, hl => by
    unfold readP at h
    split at h
    · rename_i hs
      injection h with h2 h3
      subst hs
      exact ⟨by omega, fun x hx => by rw [← h2] at hx; injection hx with hx; rw [← hx]; exact ⟨by simp, h1⟩⟩
    · split at h
      · injection h with h2 h3
        exact ⟨by omega, fun x hx => by rw [← h2] at hx; cases hx⟩
      · rename_i x hx
        have hc := cutL_some (a := x.1) (r := x.2) hx
        split at h
        · injection h with h2 h3
          exact ⟨by omega, fun x hx => by rw [← h2] at hx; cases hx⟩
        · rename_i y hy
          obtain ⟨g1, g2⟩ := line_out (ns' := y.1) (fs' := y.2) hy h1 hl
          have hlen : x.2.length ≤ f := by
            have := congrArg List.length hc
            simp at this; omega
          obtain ⟨g3, g4⟩ := read_out f h hlen g2 (by omega)
          refine ⟨g3, fun z hz => ⟨?_, (g4 z hz).2⟩⟩
          rw [(g4 z hz).1, g1, hc]
          simp
theorem ix_name {ns : List LNode} {nm : ByteArray} (h : ¬ nodeIx ns nm < 0) : nmAt ns (nodeIx ns nm) = bysA nm ∧ (nodeIx ns nm).toNat < ns.length := by
  unfold nodeIx idxOf at h ⊢
  cases e : ns.findIdx? (fun n : LNode => nameEq n.1 nm) with
  | none => rw [e] at h; exact absurd (by decide) h
  | some i =>
    obtain ⟨h1, h2, -⟩ := List.findIdx?_eq_some_iff_getElem.1 e
    refine ⟨?_, by simpa using h1⟩
    simp only [nameEq, beq_iff_eq] at h2
    simp only [nmAt, Int.toNat_natCast]
    rw [List.getD_eq_getElem?_getD, List.getElem?_eq_getElem h1]
    exact h2
theorem flows_out {ns : List LNode} : ∀ {fs : List FlT} {acc : List LFlow} {o : Option (List LFlow)} {ln : Int}, flowsR ns fs acc = (o, ln) → (∀ f ∈ fs, 1 ≤ f.2.2) →
    0 ≤ ln ∧ ∀ fl, o = some fl → (fl.map (flowT ns)).flatten = (acc.map (flowT ns)).flatten ++ (fs.map flT).flatten
  | [], acc, o, ln, h, _ => by
    unfold flowsR at h
    injection h with h1 h2
    exact ⟨by omega, fun fl e => by rw [← h1] at e; injection e with e; rw [← e]; simp⟩
  | f :: r, acc, o, ln, h, hl => by
    unfold flowsR at h
    split at h
    · injection h with h1 h2
      have := hl f (by simp)
      exact ⟨by omega, fun fl e => by rw [← h1] at e; cases e⟩
    · rename_i hn
      simp only [not_or] at hn
      obtain ⟨g1, g2⟩ := flows_out h (fun f hf => hl f (by simp [hf]))
      refine ⟨g1, fun fl e => ?_⟩
      rw [g2 fl e]
      simp [flowT, flT, (ix_name hn.1).1, (ix_name hn.2).1]
/-- P8: what is read is printed as just that text -/
theorem pagain_law (s : Bys) : ((parseP s).2.2 = 0 → procT (parseP s).1 = s ∧ chkPr (parseP s).1 = 0 ∧ (parseP s).2.1 = 0) ∧ ((parseP s).2.2 ≠ 0 → (parseP s).1 = ([], []) ∧ 0 ≤ (parseP s).2.1) := by
  unfold parseP
  split
  · exact ⟨fun h => absurd h (show ¬ (2 : Int) = 0 by decide), fun _ => ⟨rfl, Int.le_refl 0⟩⟩
  · cases hr : readP s.length s 1 [] [] with
    | mk o ln =>
      obtain ⟨g1, g2⟩ := read_out _ hr (Nat.le_refl _) (fun f hf => by cases hf) (by omega)
      cases o with
      | none => exact ⟨fun h => absurd h (show ¬ (3 : Int) = 0 by decide), fun _ => ⟨rfl, (by omega : 0 ≤ ln)⟩⟩
      | some x =>
        obtain ⟨g3, g4⟩ := g2 x rfl
        dsimp only
        cases hf : flowsR x.1 x.2 [] with
        | mk o2 ln2 =>
          obtain ⟨g5, g6⟩ := flows_out hf g4
          cases o2 with
          | none => exact ⟨fun h => absurd h (show ¬ (4 : Int) = 0 by decide), fun _ => ⟨rfl, g5⟩⟩
          | some fl =>
            dsimp only
            by_cases hc : chkPr (x.1, fl) = 0
            · rw [if_neg (by simpa using hc)]
              refine ⟨fun _ => ⟨?_, hc, rfl⟩, fun h => absurd rfl h⟩
              have := g6 fl rfl
              show (x.1.map nodeT).flatten ++ (fl.map (flowT x.1)).flatten = s
              rw [this]
              simpa [outP] using g3
            · rw [if_pos hc]
              exact ⟨fun h => absurd h hc, fun _ => ⟨rfl, Int.le_refl 0⟩⟩
/- WHAT IS PRINTED IS READ AS IT WAS -/
theorem named_no {l : Bys} (h : namedL l = true) : (32 : UInt8) ∉ l ∧ (10 : UInt8) ∉ l ∧ l.length ≤ 8 := by
  have hl := named_low h
  exact ⟨fun e => by have := hl _ e; exact absurd this (by decide), fun e => by have := hl _ e; exact absurd this (by decide), (named_ne h).2.2.2.2⟩
theorem line_node {ns : List LNode} {n : LNode} {ln : Int} (h1 : 1 ≤ n.2) (h2 : n.2 ≤ 7) (hn : namedB n.1 = true) : lineP ns [] (wordP n.2 ++ [32] ++ bysA n.1) ln = some (ns ++ [n], []) := by
  obtain ⟨g1, g2, g3, g4, g5⟩ := word_ok h1 h2
  obtain ⟨g6, g7, g8⟩ := named_no hn
  have hs : splitL 32 (wordP n.2 ++ [32] ++ bysA n.1) = [wordP n.2, bysA n.1] := by
    rw [List.append_assoc]
    show splitL 32 (wordP n.2 ++ 32 :: bysA n.1) = _
    rw [splitL_at g3, splitL_no g6]
  unfold lineP
  rw [hs]
  simp only [List.getD_cons_zero, List.getD_cons_succ, List.length_cons, List.length_nil]
  rw [if_neg g2, g1, if_neg (by omega), if_pos (by simpa using hn)]
  rfl
theorem line_flow {ns : List LNode} {fs : List FlT} {a b : ByteArray} {ln : Int} (ha : namedB a = true) (hb : namedB b = true) : lineP ns fs ([102, 108, 111, 119, 32] ++ bysA a ++ [32] ++ bysA b) ln = some (ns, fs ++ [(a, b, ln)]) := by
  obtain ⟨g6, g7, g8⟩ := named_no ha
  obtain ⟨h6, h7, h8⟩ := named_no hb
  have hs : splitL 32 ([102, 108, 111, 119, 32] ++ bysA a ++ [32] ++ bysA b) = [flowW, bysA a, bysA b] := by
    rw [show [102, 108, 111, 119, 32] ++ bysA a ++ [32] ++ bysA b = flowW ++ 32 :: (bysA a ++ 32 :: bysA b) by simp [flowW], splitL_at (by decide), splitL_at g6, splitL_no h6]
  unfold lineP
  rw [hs]
  simp only [List.getD_cons_zero, List.getD_cons_succ, List.length_cons, List.length_nil]
  rw [if_pos trivial, if_pos ⟨trivial, ha, hb⟩]
  rfl
theorem read_line {f : Nat} {l r : Bys} {ln : Int} {ns : List LNode} {fs : List FlT} {y : List LNode × List FlT} (h : (10 : UInt8) ∉ l) (hy : lineP ns fs l ln = some y) : readP (f + 1) (l ++ 10 :: r) ln ns fs = readP f r (ln + 1) y.1 y.2 := by
  rw [readP, if_neg (by simp), cutL_at h]
  dsimp only
  rw [hy]
theorem read_nodes {rest : Bys} : ∀ (ms : List LNode) (ns : List LNode) (f : Nat) (ln : Int), (∀ n ∈ ms, 1 ≤ n.2 ∧ n.2 ≤ 7 ∧ namedB n.1 = true) → ((ms.map nodeT).flatten ++ rest).length ≤ f →
    ∃ f' ln', rest.length ≤ f' ∧ readP f ((ms.map nodeT).flatten ++ rest) ln ns [] = readP f' rest ln' (ns ++ ms) []
  | [], ns, f, ln, _, hf => ⟨f, ln, by simpa using hf, by simp⟩
  | n :: ms, ns, f, ln, h, hf => by
    obtain ⟨h1, h2, h3⟩ := h n (by simp)
    obtain ⟨g1, g2, g3, g4, g5⟩ := word_ok h1 h2
    obtain ⟨g6, g7, g8⟩ := named_no h3
    have e : ((n :: ms).map nodeT).flatten ++ rest = (wordP n.2 ++ [32] ++ bysA n.1) ++ 10 :: ((ms.map nodeT).flatten ++ rest) := by simp [nodeT]
    rw [e] at hf ⊢
    have hl : 1 ≤ f := by simp at hf; omega
    obtain ⟨f, rfl⟩ : ∃ f', f = f' + 1 := ⟨f - 1, by omega⟩
    rw [read_line (by simp only [List.mem_append, List.mem_singleton, not_or]; exact ⟨⟨g4, by decide⟩, g7⟩) (line_node h1 h2 h3)]
    obtain ⟨f', ln', k1, k2⟩ := read_nodes (rest := rest) ms (ns ++ [n]) f (ln + 1) (fun m hm => h m (by simp [hm])) (by simp only [List.length_append, List.length_cons] at hf ⊢; omega)
    exact ⟨f', ln', k1, by rw [k2]; simp⟩
theorem read_flows {ns : List LNode} : ∀ (fl : List LFlow) (fs : List FlT) (f : Nat) (ln : Int), (∀ x ∈ fl, namedL (nmAt ns x.1) = true ∧ namedL (nmAt ns x.2) = true) → ((fl.map (flowT ns)).flatten).length ≤ f →
    ∃ gs ln', readP f ((fl.map (flowT ns)).flatten) ln ns fs = (some (ns, fs ++ gs), ln') ∧ gs.map (fun g => (g.1, g.2.1)) = fl.map fun x => (txA (nmAt ns x.1), txA (nmAt ns x.2))
  | [], fs, f, ln, _, hf => ⟨[], ln, by cases f <;> simp [readP], rfl⟩
  | x :: fl, fs, f, ln, h, hf => by
    obtain ⟨h1, h2⟩ := h x (by simp)
    obtain ⟨g1, g2, g3⟩ := named_no h1
    obtain ⟨g4, g5, g6⟩ := named_no h2
    have e : ((x :: fl).map (flowT ns)).flatten = ([102, 108, 111, 119, 32] ++ bysA (txA (nmAt ns x.1)) ++ [32] ++ bysA (txA (nmAt ns x.2))) ++ 10 :: ((fl.map (flowT ns)).flatten) := by simp [flowT, lineF, txA]
    rw [e] at hf ⊢
    have hl : 1 ≤ f := by simp at hf; omega
    obtain ⟨f, rfl⟩ : ∃ f', f = f' + 1 := ⟨f - 1, by omega⟩
    rw [read_line (by simp only [List.mem_append, List.mem_singleton, not_or]; exact ⟨⟨⟨by decide, g2⟩, by decide⟩, g5⟩) (line_flow (a := txA (nmAt ns x.1)) (b := txA (nmAt ns x.2)) h1 h2)]
    obtain ⟨gs, ln', k1, k2⟩ := read_flows fl (fs ++ [(txA (nmAt ns x.1), txA (nmAt ns x.2), ln)]) f (ln + 1) (fun m hm => h m (by simp [hm])) (by simp only [List.length_append, List.length_cons] at hf ⊢; omega)
    exact ⟨(txA (nmAt ns x.1), txA (nmAt ns x.2), ln) :: gs, ln', by rw [k1]; simp, by simp [k2]⟩
theorem flowsR_ok {ns : List LNode} : ∀ (fl : List LFlow) (gs : List FlT) (acc : List LFlow), gs.map (fun g => (g.1, g.2.1)) = fl.map (fun x => (txA (nmAt ns x.1), txA (nmAt ns x.2))) → (∀ x ∈ fl, nodeIx ns (txA (nmAt ns x.1)) = x.1 ∧ nodeIx ns (txA (nmAt ns x.2)) = x.2 ∧ 0 ≤ x.1 ∧ 0 ≤ x.2) →
    flowsR ns gs acc = (some (acc ++ fl), 0)
  | [], [], acc, _, _ => by simp [flowsR]
  | [], g :: gs, acc, h, _ => by simp at h
  | x :: fl, [], acc, h, _ => by simp at h
  | x :: fl, g :: gs, acc, h, hx => by
    simp only [List.map_cons, List.cons.injEq, Prod.mk.injEq] at h
    obtain ⟨⟨h1, h2⟩, h3⟩ := h
    obtain ⟨k1, k2, k3, k4⟩ := hx x (by simp)
    unfold flowsR
    rw [h1, h2, k1, k2, if_neg (by omega), flowsR_ok fl gs _ h3 (fun y hy => hx y (by simp [hy]))]
    simp
theorem node_ok {ns : List LNode} (h : ∀ i, i < ns.length → nodeE ns i = 0) : (∀ n ∈ ns, 1 ≤ n.2 ∧ n.2 ≤ 7 ∧ namedB n.1 = true) ∧ ∀ i (hi : i < ns.length), nodeIx ns (ns[i]).1 = (i : Int) := by
  have key : ∀ i (hi : i < ns.length), (1 ≤ (ns[i]).2 ∧ (ns[i]).2 ≤ 7 ∧ namedB (ns[i]).1 = true) ∧ ∀ j (hj : j < ns.length), j < i → nameEq (ns[j]).1 (ns[i]).1 = false := by
    intro i hi
    have h1 := h i hi
    have hg : ns.getD i (⟨#[]⟩, 0) = ns[i] := by rw [List.getD_eq_getElem?_getD, List.getElem?_eq_getElem hi]; rfl
    unfold nodeE at h1
    rw [hg] at h1
    split at h1
    · cases h1
    split at h1
    · cases h1
    rename_i h2 h3
    simp only [Bool.or_eq_true, not_or, Bool.not_eq_true', decide_eq_true_eq, Bool.not_eq_false] at h2
    refine ⟨⟨by omega, by omega, h2.1.1⟩, fun j hj hji => ?_⟩
    simp only [List.any_eq_true, not_exists, not_and, Bool.not_eq_true] at h3
    exact h3 ns[j] (List.mem_take_iff_getElem.2 ⟨j, by omega, rfl⟩)
  refine ⟨fun n hn => ?_, fun i hi => ?_⟩
  · obtain ⟨i, hi, rfl⟩ := List.mem_iff_getElem.1 hn
    exact (key i hi).1
  · exact idxOf_here hi (fun j hj hji => (key i hi).2 j hj hji) (by simp [nameEq])
theorem flat_len {α : Type} (g : α → Bys) (c : Nat) : ∀ l : List α, (∀ x ∈ l, (g x).length ≤ c) → ((l.map g).flatten).length ≤ c * l.length
  | [], _ => by simp
  | x :: r, h => by
    have h1 := flat_len g c r (fun y hy => h y (by simp [hy]))
    have h2 := h x (by simp)
    simp only [List.map_cons, List.flatten_cons, List.length_append, List.length_cons, Nat.mul_add, Nat.mul_one]
    omega
theorem nmAt_get {ns : List LNode} {i : Nat} (hi : i < ns.length) : nmAt ns (i : Int) = bysA (ns[i]).1 := by
  unfold nmAt
  rw [Int.toNat_natCast, List.getD_eq_getElem?_getD, List.getElem?_eq_getElem hi]; rfl
theorem ok_names {p : LProc} (h : OkPr p) : ∀ x ∈ p.2, (namedL (nmAt p.1 x.1) = true ∧ namedL (nmAt p.1 x.2) = true) ∧ nodeIx p.1 (txA (nmAt p.1 x.1)) = x.1 ∧ nodeIx p.1 (txA (nmAt p.1 x.2)) = x.2 ∧ 0 ≤ x.1 ∧ 0 ≤ x.2 := by
  obtain ⟨g1, g2⟩ := node_ok h.nodes
  intro x hx
  obtain ⟨h1, h2, h3, h4⟩ := h.flows x hx
  obtain ⟨i, hi⟩ : ∃ i : Nat, x.1 = (i : Int) := ⟨x.1.toNat, by omega⟩
  obtain ⟨j, hj⟩ : ∃ j : Nat, x.2 = (j : Int) := ⟨x.2.toNat, by omega⟩
  have hil : i < p.1.length := by omega
  have hjl : j < p.1.length := by omega
  rw [hi, hj, nmAt_get hil, nmAt_get hjl, txA_eta, txA_eta]
  exact ⟨⟨(g1 _ (List.getElem_mem hil)).2.2, (g1 _ (List.getElem_mem hjl)).2.2⟩, g2 i hil, g2 j hjl, by omega, by omega⟩
theorem procT_len {p : LProc} (h : OkPr p) : (procT p).length ≤ 1000 := by
  obtain ⟨g1, g2⟩ := node_ok h.nodes
  have h1 := flat_len nodeT 15 p.1 (fun n hn => by
    obtain ⟨k1, k2, k3⟩ := g1 n hn
    have := (word_ok k1 k2).2.2.2.2
    have : (bysA n.1).length ≤ 8 := (named_no k3).2.2
    simp only [nodeT, List.length_append, List.length_cons, List.length_nil]
    omega)
  have h2 := flat_len (flowT p.1) 23 p.2 (fun x hx => by
    obtain ⟨⟨k1, k2⟩, -⟩ := ok_names h x hx
    have := (named_no k1).2.2
    have := (named_no k2).2.2
    simp only [flowT, lineF, List.length_append, List.length_cons, List.length_nil]
    omega)
  have := h.n
  have := h.f
  unfold procT
  rw [List.length_append]
  omega
/-- P8: what is printed is read as it was -/
theorem pback_law {p : LProc} (h : chkPr p = 0) : parseP (procT p) = (p, 0, 0) := by
  have ho := chkPr_ok h
  have hl := procT_len ho
  obtain ⟨g1, g2⟩ := node_ok ho.nodes
  have hn := ok_names ho
  unfold parseP
  rw [if_neg (by omega)]
  obtain ⟨f', ln', k1, k2⟩ := read_nodes (rest := (p.2.map (flowT p.1)).flatten) p.1 [] (procT p).length 1 g1 (Nat.le_refl _)
  obtain ⟨gs, ln2, k3, k4⟩ := read_flows (ns := p.1) p.2 [] f' ln' (fun x hx => (hn x hx).1) k1
  have hr : readP (procT p).length (procT p) 1 [] [] = (some (p.1, gs), ln2) := by
    show readP (procT p).length ((p.1.map nodeT).flatten ++ (p.2.map (flowT p.1)).flatten) 1 [] [] = _
    rw [k2, List.nil_append, k3, List.nil_append]
  rw [hr]
  dsimp only
  rw [flowsR_ok p.2 gs [] k4 (fun x hx => (hn x hx).2)]
  dsimp only
  rw [List.nil_append, if_neg (by simpa using h)]
end Go.Proofs.YtikigaeihdmcaaaDoor

/-
  strings.Cut, strings.Split at one byte, strings.Builder: the library's contracts in our words.
-/
set_option linter.unusedVariables false
set_option linter.unusedSimpArgs false
namespace Go.Proofs.YtikigaeihdmcaaaDoor
open Go.RowKit Go.Shelf

theorem index1 (c : UInt8) : ∀ l : Bys, (c ∉ l ∧ Lib.index l [c] = -1) ∨ ∃ a b, l = a ++ c :: b ∧ c ∉ a ∧ Lib.index l [c] = (a.length : Int)
  | [] => .inl ⟨by simp, by simp [Lib.index]⟩
  | d :: l => by
    by_cases h : d = c
    · subst h
      exact .inr ⟨[], l, rfl, by simp, by simp [Lib.index, List.isPrefixOf]⟩
    · have hp : List.isPrefixOf [c] (d :: l) = false := by
        have : (c == d) = false := by simpa using fun e : c = d => h e.symm
        simp [List.isPrefixOf, this]
      rcases index1 c l with ⟨h1, h2⟩ | ⟨a, b, rfl, h1, h2⟩
      · refine .inl ⟨by simp [h1, Ne.symm h], ?_⟩
        unfold Lib.index
        rw [hp, h2]; rfl
      · refine .inr ⟨d :: a, b, rfl, by simp [h1, Ne.symm h], ?_⟩
        unfold Lib.index
        have hn : ((a.length : Int) == -1) = false := by
          rw [beq_eq_false_iff_ne]; omega
        rw [hp, h2, hn]
        simp
theorem cutL_none {c : UInt8} : ∀ {s : Bys}, c ∉ s → cutL c s = none
  | [], _ => rfl
  | b :: l, h => by
    have hb : ¬ b = c := fun e => h (by simp [e])
    have hl : c ∉ l := fun e => h (by simp [e])
    unfold cutL
    rw [if_neg hb, cutL_none hl]; rfl
/-- what strings.Cut tells -/
def cutT (c : UInt8) (s : Bys) : Bys × Bys × Bool := match cutL c s with
  | none => (s, [], false)
  | some x => (x.1, x.2, true)
theorem cut1 (c : UInt8) (s : Bys) : Lib.cut s [c] = cutT c s := by
  unfold Lib.cut cutT
  rcases index1 c s with ⟨h1, h2⟩ | ⟨a, b, rfl, h1, h2⟩
  · rw [h2, cutL_none h1]; rfl
  · rw [h2, cutL_at h1, if_pos (by omega)]
    simp
theorem splitK1 (c : UInt8) : ∀ (n : Nat) (s : Bys), s.length ≤ n → ∀ k, Lib.count s [c] ≤ k → Lib.splitK [c] 0 k s = splitL c s := by
  intro n
  induction n with
  | zero =>
    intro s hs k hk
    have : s = [] := List.length_eq_zero_iff.1 (by omega)
    subst this
    cases k with
    | zero => rfl
    | succ k => simp [Lib.splitK, Lib.index, splitL]
  | succ n ih =>
    intro s hs k hk
    rcases index1 c s with ⟨h1, h2⟩ | ⟨a, b, rfl, h1, h2⟩
    · rw [splitL_no h1]
      cases k with
      | zero => rfl
      | succ k => unfold Lib.splitK; rw [h2]; rfl
    · have hc := Lib.count_hit (sub := [c]) (by simp) h2
      have hd : (a ++ c :: b).drop (a.length + [c].length) = b := by simp
      rw [hd] at hc
      rw [splitL_at h1]
      cases k with
      | zero => omega
      | succ k =>
        unfold Lib.splitK
        have hn : ((a.length : Int) == -1) = false := by
          rw [beq_eq_false_iff_ne]; omega
        rw [h2, hn]
        simp only [Int.toNat_natCast, Bool.false_eq_true, if_false]
        rw [hd, ih b (by simp at hs; omega) k (by omega)]
        simp
theorem splitB1 (s : Bys) : Lib.splitB (txA [32]) 0 (Lib.countB (txA s) (txA [32])) (txA s) = (splitL 32 s).map txA := by
  have h := Lib.splitB_data (txA [32]) 0 (Lib.countB (txA s) (txA [32])) (txA s)
  rw [show (txA [32]).data.toList = [32] from rfl, txA_list, splitK1 32 _ s (Nat.le_refl _) (Lib.countB (txA s) (txA [32])) (Nat.le_of_eq rfl)] at h
  rw [← h, List.map_map]
  have : (txA ∘ fun x : ByteArray => x.data.toList) = id := by funext x; exact txA_eta x
  rw [this, List.map_id]
theorem countB1 (s : Bys) : Lib.countB (txA s) (txA [32]) + 1 = (splitL 32 s).length := by
  have h := Lib.splitB_all (txA [32]) (by decide) 0 _ (txA s) rfl
  rw [splitB1, List.length_map] at h
  omega
theorem MaxH.ext {w w' : World} (h : MaxH w) (hE : Ext w w') : MaxH w' := by
  obtain ⟨m, hm⟩ := h
  refine ⟨m, ?_⟩
  have hlt : 4 < w.heap.size := by
    apply Classical.byContradiction
    intro hn
    simp [World.cell?, Array.getElem?_eq_none (Nat.le_of_not_lt hn)] at hm
  rw [hE.cell (p := ⟨4, 0, none⟩) hlt]; exact hm
theorem ext_drewN (w : World) (n : Nat) : Ext w (w.drewN n) := ⟨rfl, rfl, rfl, Nat.le_refl _, fun _ _ => rfl⟩
theorem cut_ok (w : World) (s : Bys) (hs : s.length ≤ 100000) (hM : MaxH w) : Rt Tryd.prog 46 [tV s, tV [10]].toArray w fun v w' => v = .tuple ⟨[tV (cutT 10 s).1, tV (cutT 10 s).2.1, .bool (cutT 10 s).2.2]⟩ ∧ Ext w w' := by
  obtain ⟨m, hm⟩ := hM
  refine Calls.mono (Any.strings_Cut shL145 (txA s) (txA [10]) m w (by rw [txA_size]; omega) hm) ?_
  rintro e w' ⟨rfl, n, rfl⟩
  refine ⟨_, rfl, ?_, ext_drewN w n⟩
  rw [show (txA [10]).data.toList = [10] from rfl, txA_list, cut1]
  rfl
theorem split_ok (w : World) (s : Bys) (hs : s.length ≤ 100000) (hM : MaxH w) : Rt Tryd.prog 84 [tV s, tV [32]].toArray w fun v w' => (∃ ao cap, v = .slice ao ((splitL 32 s).map txA).length cap ∧ Sl w' (fun b => b = w.heap.size ∧ b < w'.heap.size) ao cap ((splitL 32 s).map txA)) ∧ Ext w w' := by
  obtain ⟨m, hm⟩ := hM
  refine Calls.mono (Any.strings_Split shL146 shI (txA s) (txA [32]) m w (by rw [txA_size]; omega) hm (by decide)) ?_
  rintro e w' ⟨rfl, rfl⟩
  have hl := countB1 s
  rw [splitB1, hl]
  have hle : ∀ x ∈ splitL 32 s, x.length ≤ s.length := by
    intro x hx
    have h := Lib.splitB_data (txA [32]) 0 (Lib.countB (txA s) (txA [32])) (txA s)
    clear h
    have : ∀ (l : List Bys), x ∈ l → x.length ≤ (joinS 32 l).length := by
      intro l
      induction l with
      | nil => intro h; cases h
      | cons y r ih =>
        intro h
        cases r with
        | nil => simp only [joinS]; rw [List.mem_singleton.1 h]; exact Nat.le_refl _
        | cons z r =>
          simp only [joinS, List.length_append, List.length_cons]
          rcases List.mem_cons.1 h with rfl | h
          · omega
          · have := ih h; omega
    have := this _ hx
    rwa [join_split] at this
  have hn : (splitL 32 s).length ≤ 100001 := by
    have := Lib.countB_le (txA [32]) (by decide) _ (txA s) (Nat.le_refl _)
    rw [txA_size] at this
    omega
  refine ⟨_, rfl, ⟨_, _, by rw [List.length_map], ⟨by rw [List.length_map]; exact Nat.le_refl _, by unfold maxLen; omega, (fun h => by cases h), fun i hi => ?_⟩⟩, Ext.alloc w _⟩
  rw [List.length_map] at hi
  refine ⟨w.heap.size, 0, rfl, ⟨rfl, (Blk.alloc w (((splitL 32 s).map txA).map Value.string) 9).lt⟩, [.string (txA (splitL 32 s)[i])], ?_, ?_⟩
  · have hb : Blk (w.alloc (.cells (((splitL 32 s).map txA).map Value.string).toArray 9)) w.heap.size 9 (((splitL 32 s).map txA).map Value.string) := Blk.alloc w _ _
    intro j u hu
    have hj : j = 0 := by
      cases j with
      | zero => rfl
      | succ j => simp at hu
    subst hj
    refine hb.cell ?_
    simp only [List.getElem?_cons_zero, Option.some.injEq] at hu
    rw [← hu]
    show (((splitL 32 s).map txA).map Value.string)[0 + i * 1 + 0]? = _
    simp [List.getElem?_eq_getElem hi]
  · rw [List.getElem_map]
    obtain ⟨cs, h1, h2⟩ := Rd.mkStr (w.alloc (.cells (((splitL 32 s).map txA).map Value.string).toArray 9)) (fun b => b = w.heap.size ∧ b < (w.alloc (.cells (((splitL 32 s).map txA).map Value.string).toArray 9)).heap.size) (txA (splitL 32 s)[i]) (by
      rw [txA_size]; have := hle _ (List.getElem_mem hi); unfold maxLen; omega)
    obtain ⟨v, rfl⟩ : ∃ v, cs = [v] := by
      have := Rep.len h2
      match cs, this with
      | [v], _ => exact ⟨v, rfl⟩
    have : v = .string (txA (splitL 32 s)[i]) := h1.symm
    rw [← this]; exact h2
/- A BUILDER -/
def Bld (w : World) (B b : Nat) (l : Bys) : Prop := Lib.IsBuilder 92 5 B b (Lib.byteCells l) w
theorem Bld.new {w : World} {B b : Nat} (h : Blk w b 92 [.pointer none, .slice none 0 0]) (hB : B ≤ b) : Bld w B b [] :=
  .inl ⟨hB, .slice none 0 0, h, World.ownsRow_nil _ _ _ _, by simp [Value.ownBlock]⟩
theorem Bld.ext {w w' : World} {B b : Nat} {l : Bys} (h : Bld w B b l) (hE : Ext w w') : Bld w' B b l := by
  have key : ∀ p, Lib.BuilderAt 92 5 B b p (Lib.byteCells l) w → Lib.BuilderAt 92 5 B b p (Lib.byteCells l) w' := by
    rintro p ⟨hB, v, hb, ho, hne⟩
    refine ⟨hB, v, (hE.block b (Array.getElem?_eq_some_iff.1 hb).1).trans hb, ⟨ho.1, ?_⟩, hne⟩
    rcases ho.2 with h | ⟨g, cap, cur, h1, h2, h3, h4⟩
    · exact .inl h
    · exact .inr ⟨g, cap, cur, h1, h2, (hE.block g (Array.getElem?_eq_some_iff.1 h3).1).trans h3, h4⟩
  exact h.elim (fun h => .inl (key _ h)) (fun h => .inr (key _ h))
theorem wstr_ok (w : World) {B b : Nat} {l s : Bys} (h : Bld w B b l) (hl : l.length + s.length ≤ 1000000) (hB : B ≤ w.heap.size) :
    Rt Tryd.prog 37 [.pointer (some ⟨b, 0, none⟩), tV s].toArray w fun v w' => Bld w' B b (l ++ s) ∧ Below B w w' := by
  refine Calls.mono (Any.Builder_WriteString shL166 shX B b (Lib.byteCells l) (txA s) w h (by rw [Lib.byteCells_length, txA_size]; omega) hB) ?_
  rintro e w' ⟨rfl, h1, h2⟩
  refine ⟨_, rfl, ?_, h2⟩
  rw [Lib.strCells_eq, txA_list, ← Lib.byteCells_append] at h1
  exact .inr h1
theorem bstr_ok (w : World) {B b : Nat} {l : Bys} (h : Bld w B b l) (hB : B ≤ w.heap.size) :
    Rt Tryd.prog 39 [.pointer (some ⟨b, 0, none⟩)].toArray w fun v w' => v = tV l ∧ Below B w w' := by
  refine Calls.mono (Any.Builder_String_any shL169 shX B b l w h hB) ?_
  rintro e w' ⟨rfl, h2⟩
  exact ⟨_, rfl, rfl, h2⟩
end Go.Proofs.YtikigaeihdmcaaaDoor

