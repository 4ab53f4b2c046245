/-
  StepsCover: walked.
-/
import Derived.Test.YthefpigolikmeaaStepEq
import Derived.Test.YthefpigolikmeaaProcFlows
set_option linter.unusedVariables false
set_option linter.unusedSimpArgs false
namespace Go.Proofs.Ythefpigolikmeaa
open Go.RowKit

section
variable {P : Program} {Q : Exit → Act → World → Prop} {n : Nat} {σ : Sg} {w : World} {L rest : List Oper} {d : Nat} {ty : TypeId} {pos : String} {af : Array Edge} {g : Option (Nat × Bool)} {t e : TypeId} {α : Type} [Rep α]
/-- x[:k] -/
theorem QL.cutHi {x y : Operand} {ao : Option Addr} {len cap : Nat} {i : Int} {kd : IntKind} (k : Nat) (hik : i = (k : Int)) (hg : gd L σ ⟨some d, .slice t x none (some y) none, ty, pos, af, g⟩ = some true) (hd : Nat.ble (d + 1) n = true)
    (hx : ev σ x = some (.slice ao len cap)) (hy : ev σ y = some (.int kd i)) [hs : IsS P t e] [ht : IsT P e α] (hk : k ≤ cap)
    (h : QL P L w Q rest n ((d, .slice ao k cap) :: σ)) : QL P L w Q (⟨some d, .slice t x none (some y) none, ty, pos, af, g⟩ :: rest) n σ := by
  subst hik
  refine QL.run hg hd (fun a ha w' _ => ?_) h
  have := run_cut (P := P) (t := t) (e := e) (α := α) (ao := ao) (len := len) (cap := cap) (lo := 0) (hi := k) w' (by omega) hk none (some (.int kd (k : Int))) (.inl ⟨rfl, rfl⟩) (.inr ⟨kd, rfl⟩)
  simp [execOp, ha.ev hx, ha.ev hy, this, Addr.add_zero']
end
theorem run_shr0 (P : Program) (w : World) (a : Int) (s : Nat) (h0 : 0 ≤ a) (h1 : a < 2 ^ s) (hs : s ≤ 62) (t : TypeId) : (binOp .shr t (.int .i64 a) (.int .i64 (s : Int))).run P w = .ok (.int .i64 0) w := by
  rw [binOp_shr, shift_shr_i64 (h₀ := by omega) (h₁ := by omega), Int.toNat_natCast, Int.ediv_eq_zero_of_lt h0 h1]; rfl
section
variable {P : Program} {Q : Exit → Act → World → Prop} {n : Nat} {σ : Sg} {w : World} {L rest : List Oper} {d : Nat} {ty : TypeId} {pos : String} {af : Array Edge} {g : Option (Nat × Bool)} {t yt : TypeId} {x y : Operand}
theorem QL.shr0 {a : Int} {s : Nat} (hg : gd L σ ⟨some d, .binOp .shr t x y yt, ty, pos, af, g⟩ = some true) (hd : Nat.ble (d + 1) n = true) (hx : ev σ x = some (.int .i64 a)) (hy : ev σ y = some (.int .i64 (s : Int))) (h0 : 0 ≤ a) (h1 : a < 2 ^ s) (hs : s ≤ 62)
    (h : QL P L w Q rest n ((d, .int .i64 0) :: σ)) : QL P L w Q (⟨some d, .binOp .shr t x y yt, ty, pos, af, g⟩ :: rest) n σ := by
  refine QL.run hg hd (fun a0 ha0 w' _ => ?_) h
  have := run_shr0 P w' a s h0 h1 hs t
  simp [execOp, ha0.ev hx, ha0.ev hy, eqG (op := .shr) rfl, this]
end
theorem straight_steps : stepsE straightP = ([(1, 0, 1), (2, 1, 0)], 0) := by
  have h : stepsL straightP = [(1, 0, 1), (2, 1, 0)] := by decide
  unfold stepsE
  rw [if_neg (by simp [straight_chk]), h]; rfl
theorem stepsE_ok {p : LProc} (h : (stepsE p).2 = 0) : chkPr p = 0 ∧ (stepsE p).1 = stepsL p ∧ (stepsL p).length ≤ 60 := by
  unfold stepsE at h ⊢
  split at h
  · rename_i h1; exact absurd h h1
  · split at h
    · simp at h
    · rename_i h1 h2
      rw [if_neg h1, if_neg h2]
      exact ⟨by simpa using h1, rfl, by omega⟩
theorem stepsE_bad {p : LProc} (h : (stepsE p).2 ≠ 0) : (stepsE p).1 = [] := by
  unfold stepsE at h ⊢
  split
  · rfl
  · split
    · rfl
    · rename_i h1 h2; rw [if_neg h1, if_neg h2] at h; exact absurd rfl h
theorem cover1 (w : World) (b : Nat) (s : LStep) {k : Int} (hb : Blk w b 3 [.int .i64 k]) :
    Rt Try.prog 37 [stV s, .pointer (some ⟨b, 0, none⟩)].toArray w fun v w' => v = .bool (s.1 == k) ∧ Ext w w' := by
  obtain ⟨s1, s2, s3⟩ := s
  unfold stV
  dsimp only
  refine Rt.enter2 Try.func37 Try.ntmps37 rfl rfl ?_
  (repeat (first | (apply CW.seq) | (apply CW.region)))
  refine WL.boxB rfl rfl rfl fun w1 hb1 e1 => ?_
  have hb := hb.ext e1
  (repeat (first | (apply WL.pure; rfl; rfl; rfl) | (apply WL.nil) | (apply EX.thenN) | (apply CW.seq) | (apply CW.region) | (apply WL.fa; rfl; rfl; rfl) | (apply WL.ld; rfl; rfl; rfl; assumption; rfl) | (apply CW.ret)))
  exact EX.ret1 rfl rfl ⟨rfl, e1⟩
theorem steps_any {p : LProc} (h : OkPr p) {n : Nat} (hn : n < p.1.length) : ((stepsL p).any (fun s : LStep => s.1 == (n : Int)) != (kindAt p n != 1)) = false := by
  have hs := stepsN_some h hn
  have : (stepsL p).any (fun s : LStep => s.1 == (n : Int)) = (kindAt p n != 1) := by
    rw [Bool.eq_iff_iff, List.any_eq_true, bne_iff_ne, ← hs]
    constructor
    · rintro ⟨s, hs, e⟩
      obtain ⟨m, hm, hsm⟩ := stepsP_mem.1 hs
      have := stepsK_node s hsm
      have e : s.1 = (n : Int) := by simpa using e
      obtain rfl : m = n := by omega
      intro e0
      rw [e0] at hsm; cases hsm
    · intro hne
      obtain ⟨s, hs⟩ := List.exists_mem_of_ne_nil _ hne
      exact ⟨s, stepsP_mem.2 ⟨n, hn, hs⟩, by simpa using stepsK_node s hs⟩
  rw [this]; simp
theorem nodup_take {α : Type} [BEq α] [LawfulBEq α] {l : List α} (h : l.Nodup) {i : Nat} (hi : i < l.length) : (l.take i).contains l[i] = false := by
  rw [List.contains_eq_mem, decide_eq_false_iff_not]
  intro hm
  obtain ⟨j, hj, e⟩ := List.mem_iff_getElem.1 hm
  rw [List.length_take] at hj
  rw [List.getElem_take] at e
  have := (List.getElem_inj h).1 e
  omega
set_option maxRecDepth 100000 in
theorem StepsCover_ok (w0 : World) {so fo : Option Addr} {sc fc : Nat} {ns : List LNode} {fl : List LFlow} (hs : Sl w0 (Old w0) so sc ns) (hf : Sl w0 (Old w0) fo fc fl) :
    Rt Try.prog 5 [procV so sc fo fc ns.length fl.length].toArray w0 fun v w' => v = .bool true ∧ Ext w0 w' := by
  have hms := hs.len63
  have hmf := hf.len63
  refine Rt.enter1 Try.func5 Try.ntmps5 rfl rfl ?_
  have hE := Ext.refl w0
  (repeat (first | (apply CW.seq) | (apply CW.region)))
  refine WL.boxB rfl rfl rfl fun w1 hb1 e1 => ?_
  have hE := hE.trans e1
  (repeat (first | (apply WL.pure; rfl; rfl; rfl) | (apply WL.nil) | (apply EX.thenN) | (apply CW.seq) | (apply CW.region)))
  refine WL.call rfl rfl rfl (straight_ok w1) ?_
  rintro _ w2 ⟨⟨p1, q1, p2, q2, rfl, g1, g2⟩, e2⟩
  have hb1 := hb1.ext e2
  have hE := hE.trans e2
  skip
  refine WL.call rfl rfl rfl (Of_ok w2 (ns := straightP.1) (fl := straightP.2) g1 g2) ?_
  rintro _ w3 ⟨x, rfl, hox, e3⟩
  rw [show ((straightP.1, straightP.2) : LProc) = straightP from rfl, straight_steps] at hox ⊢
  have hb1 := hb1.ext e3
  have hE := hE.trans e3
  obtain ⟨xo, xc, rfl, hxs⟩ := hox.oldN.sl
  (repeat (first | (apply WL.pure; rfl; rfl; rfl) | (apply WL.nil) | (apply EX.thenN) | (apply CW.seq) | (apply CW.region)))
  refine WL.build rfl rfl rfl rfl ?_
  refine WL.build rfl rfl rfl rfl ?_
  refine WL.litR [((1, 0, 1) : LStep), (2, 1, 0)] rfl rfl rfl rfl rfl (.cons (rdSt _ _ _ _ _) (.cons (rdSt _ _ _ _ _) .nil)) (by decide) (fun v4 w4 e4 r4 _ => ?_)
  have hb1 := hb1.ext e4
  have hE := hE.trans e4
  obtain ⟨yo, yc, rfl, hys⟩ := r4.sl
  skip
  refine WL.call rfl rfl rfl (equal_step w4 (hxs.up e4) hys) ?_
  rintro _ w5 ⟨rfl, e5⟩
  have hb1 := hb1.ext e5
  have hE := hE.trans e5
  rw [show (([((1, 0, 1) : LStep), (2, 1, 0)]) == [((1, 0, 1) : LStep), (2, 1, 0)]) = true by decide]
  clear e1 e2 e3 e4 e5 hox hxs hys r4 g1 g2
  (repeat (first | (apply WL.pure; rfl; rfl; rfl) | (apply WL.nil) | (apply EX.thenN) | (apply CW.seq) | (apply CW.region) | (apply WL.ldA; rfl; rfl; rfl; assumption; rfl) | (apply CW.condF; rfl) | (apply CW.skip)))
  refine WL.call rfl rfl rfl (Of_ok w5 (hs.up hE) (hf.up hE)) ?_
  rintro _ w6 ⟨x, rfl, hox, e6⟩
  have hb1 := hb1.ext e6
  have hE := hE.trans e6
  by_cases hz : (stepsE (ns, fl)).2 = 0
  case neg =>
    rw [stepsE_bad hz] at hox
    obtain ⟨xo, xc, rfl, hxs⟩ := hox.oldN.sl
    have hz1 : ((stepsE (ns, fl)).2 != 0) = true := by simpa using hz
    (repeat (first | (apply WL.pure; rfl; rfl; rfl) | (apply WL.nil) | (apply EX.thenN) | (apply CW.seq) | (apply CW.region)))
    rw [hz1]
    (repeat (first | (apply WL.pure; rfl; rfl; rfl) | (apply WL.nil) | (apply EX.thenN) | (apply CW.seq) | (apply CW.region) | (apply WL.lenS; rfl; rfl; rfl) | (apply CW.condT; rfl) | (apply CW.ret) | (apply EX.thenR)))
    exact EX.ret1 rfl rfl ⟨rfl, hE⟩
  obtain ⟨hc0, hst, hl60⟩ := stepsE_ok hz
  rw [hst] at hox
  rw [hz]
  have hok := chkPr_ok hc0
  have hn20 := hok.n
  have hf30 := hok.f
  dsimp only at hn20 hf30
  have hnd := stepsP_nodup (p := (ns, fl)) (k := ns.length)
  have hany := fun n (hn : n < ns.length) => steps_any (p := (ns, fl)) hok hn
  have hmem := fun s (h : s ∈ stepsL (ns, fl)) => stepsP_mem (p := (ns, fl)) (k := ns.length).1 h
  obtain ⟨xo, xc, rfl, hxs⟩ := hox.oldN.sl
  clear hst hox hz
  change (stepsL (ns, fl)).Nodup at hnd
  generalize stepsL (ns, fl) = l at *
  have hxc := hxs.le
  (repeat (first | (apply WL.pure; rfl; rfl; rfl) | (apply WL.nil) | (apply EX.thenN) | (apply CW.seq) | (apply CW.region) | (apply WL.lenS; rfl; rfl; rfl) | (apply WL.fa; rfl; rfl; rfl) | (apply WL.ld; rfl; rfl; rfl; assumption; rfl) | (apply CW.block) | (apply CW.condF; rfl) | (apply CW.skip)))
  refine CW.loop (S := Nat) (fun i => [(1, .pointer (some ⟨w0.heap.size, 0, none⟩)), (5, .slice xo l.length xc), (39, .slice so ns.length sc), (40, .int .i64 ns.length), (41, .int .i64 i)])
    (fun i w => i ≤ ns.length ∧ Ext w6 w) (fun i => ns.length - i) 0 (by repeat (first | exact trivial | refine ⟨rfl, ?_⟩)) ⟨by omega, Ext.refl _⟩ ?_
  rintro i w7 ⟨hi, e7⟩
  have hb1 := hb1.ext e7
  have hE7 := hE.trans e7
  have hxs7 := hxs.up e7
  (repeat (first | (apply WL.pure; rfl; rfl; rfl) | (apply WL.nil) | (apply EX.thenN) | (apply CW.seq) | (apply CW.region)))
  refine CW.cond rfl (fun h => ?_) (fun h => ?_)
  · have hi' : i < ns.length := by simp at h; omega
    have hanyi := hany i hi'
    (repeat (first | (apply WL.pure; rfl; rfl; rfl) | (apply EX.thenN) | (apply CW.seq) | (apply CW.region) | (apply CW.block) | (apply CW.skip)))
    refine WL.elemN rfl rfl rfl rfl rfl (hs.up hE7) hi' (fun _ => rfl) (fun u q hu => ?_)
    obtain ⟨c1, c2, rfl, k1, k2⟩ := hu.pr
    obtain ⟨rfl, _⟩ := k1
    rw [rd_int k2]
    have hkk : kindAt (ns, fl) i = ns[i].2 := by unfold kindAt; rw [getDNd_at hi']
    rw [hkk] at hanyi
    generalize ns[i].2 = kk at *
    generalize ns[i].1 = nm at *
    clear hu k2
    skip
    refine WL.alloc rfl rfl (fun w8 hb7 e8 => ?_)
    have z78 := hb7.lt
    skip
    refine WL.alloc rfl rfl (fun w9 hb8 e9 => ?_)
    have hb7 := hb7.ext e9
    have e9 := e8.trans e9
    skip
    refine WL.st rfl rfl rfl hb7 rfl rfl (ones_of rfl) (fun w10 hb7 hg10 => ?_)
    have z8 := e8.size
    have z7 := hb7.lt
    have hb8 := hb8.kept hg10 (fun e => by injection e with e; omega)
    have e10 : Ext w7 w10 := e9.grown hg10 e9.size (fun g hg => by cases hg; exact Nat.le_refl _)
    skip
    refine WL.st rfl rfl rfl hb8 rfl rfl (ones_of rfl) (fun w11 hb8 hg11 => ?_)
    have hb7 := hb7.kept hg11 (fun e => by injection e with e; omega)
    have e11 : Ext w7 w11 := e10.grown hg11 e10.size (fun g hg => by cases hg; exact z8)
    have hb1 := hb1.ext e11
    have hE11 := hE7.trans e11
    have hxs := hxs.up (e7.trans e11)
    clear e8 e9 e10 hg10 hg11
    (repeat (first | (apply QL.pure; rfl; rfl; rfl) | (apply WL.nil) | (apply EX.thenN) | (apply CW.seq) | (apply QL.makeFunc; rfl; rfl; rfl; rfl) | (apply CW.draw; exact mixed; kernel_rfl)))
    refine QL.call rfl rfl rfl (fun w hw => containsFunc_step w (fun s => s.1 == (i : Int)) (hxs.up hw) (fun w2 hw2 j hj u hu => ?_)) ?_
    · rw [hu.step]
      exact FnV.mk (cs := [_]) (cover1 w2 _ _ (hb7.ext (hw.trans hw2)))
    have hb8v := hb8
    (repeat (first | (apply QL.pure; rfl; rfl; rfl) | (apply QL.neB; rfl; rfl; rfl; rfl) | (apply QL.fa; rfl; rfl; rfl) | (apply QL.ld; rfl; rfl; rfl; assumption; rfl)))
    refine QL.nil (fun w12 e12 => ?_)
    rw [hanyi]
    (repeat (first | (apply WL.add; rfl; rfl; rfl; rfl; omega; omega) | (apply WL.pure; rfl; rfl; rfl) | (apply WL.nil) | (apply EX.thenN) | (apply CW.region) | (apply EX.inN) | (apply CW.condF; rfl) | (apply CW.skip)))
    exact EX.back (i + 1) (by repeat (first | exact trivial | refine ⟨rfl, ?_⟩)) ⟨hi', (e7.trans e11).trans e12⟩ (by omega)
  obtain rfl : i = ns.length := by simp at h; omega
  have hb1 := hb1
  (repeat (first | (apply WL.pure; rfl; rfl; rfl) | (apply WL.nil) | (apply EX.thenN) | (apply CW.seq) | (apply CW.region) | (apply WL.lenS; rfl; rfl; rfl) | (apply CW.block) | (apply CW.exit) | (apply EX.thenX) | (apply EX.inX)))
  refine CW.loop (S := Nat) (fun i => [(1, .pointer (some ⟨w0.heap.size, 0, none⟩)), (5, .slice xo l.length xc), (54, .slice xo l.length xc), (55, .int .i64 l.length), (56, .int .i64 i)])
    (fun i w => i ≤ l.length ∧ Ext w7 w) (fun i => l.length - i) 0 (by repeat (first | exact trivial | refine ⟨rfl, ?_⟩)) ⟨by omega, Ext.refl _⟩ ?_
  rintro i w8 ⟨hi, e8⟩
  have hb1 := hb1.ext e8
  have hE8 := hE7.trans e8
  have hxs8 := hxs7.up e8
  (repeat (first | (apply WL.pure; rfl; rfl; rfl) | (apply WL.nil) | (apply EX.thenN) | (apply CW.seq) | (apply CW.region)))
  refine CW.cond rfl (fun h => ?_) (fun h => ?_)
  · have hi' : i < l.length := by simp at h; omega
    obtain ⟨n, hn, hsn⟩ := hmem _ (List.getElem_mem hi')
    have q1 := stepsK_node _ hsn
    have q2 := stepsK_in _ hsn
    have q3 := stepsK_out _ hsn
    have q4 := nodup_take hnd hi'
    have hle : listE (ns, fl) (n : Int) = 0 := listE_ok hc0 hn
    have hol : (outsL fl (n : Int)).length ≤ fl.length := outsP_len
    (repeat (first | (apply WL.pure; rfl; rfl; rfl) | (apply EX.thenN) | (apply CW.seq) | (apply CW.region) | (apply CW.block) | (apply CW.skip)))
    refine WL.elemN rfl rfl rfl rfl rfl hxs8 hi' (fun _ => rfl) (fun u q hu => ?_)
    rw [hu.step]
    clear hu
    generalize l[i] = s at *
    obtain ⟨s1, s2, s3⟩ := s
    dsimp only at q1 q2 q3
    subst q1
    unfold stV
    dsimp only
    skip
    refine WL.alloc rfl rfl (fun w9 hb10 e9 => ?_)
    (repeat (apply WL.pure; rfl; rfl; rfl))
    refine WL.st rfl rfl rfl hb10 rfl rfl (ones_of rfl) (fun w10 hb10 hg10 => ?_)
    have e10 : Ext w8 w10 := e9.grown hg10 e9.size (fun g hg => by cases hg; exact Nat.le_refl _)
    have hb1 := hb1.ext e10
    have hE10 := hE8.trans e10
    (repeat (first | (apply WL.nil) | (apply EX.thenN) | (apply CW.seq) | (apply CW.region) | (apply WL.fa; rfl; rfl; rfl) | (apply WL.ld; rfl; rfl; rfl; assumption; rfl) | (apply WL.ldA; rfl; rfl; rfl; assumption; rfl)))
    refine WL.call rfl rfl rfl (Outs_ok w10 (hs.up hE10) (hf.up hE10) (n : Int)) ?_
    rintro _ w11 ⟨y, rfl, hoy, e11⟩
    rw [hle, if_pos rfl] at hoy
    rw [hle]
    have hb1 := hb1.ext e11
    have hb10 := hb10.ext e11
    have hE11 := hE10.trans e11
    have hxs11 := hxs8.up (e10.trans e11)
    obtain ⟨yo, yc, rfl, hys⟩ := hoy.oldN.sl
    (repeat (first | (apply WL.pure; rfl; rfl; rfl) | (apply QL.pure; rfl; rfl; rfl) | (apply WL.nil) | (apply EX.thenN) | (apply CW.seq) | (apply QL.fa; rfl; rfl; rfl) | (apply QL.ld; rfl; rfl; rfl; assumption; rfl) | (apply CW.draw; exact mixed; kernel_rfl)))
    have e10' : Ext w7 w10 := e8.trans e10
    have htk : (l.take i).length = i := by rw [List.length_take]; omega
    have hct := fun w (hw : Ext w11 w) => contains_step w ((n : Int), s2, s3) ((hxs11.up hw).take (k := i) (by omega))
    simp only [htk] at hct
    rcases q2 with rfl | hin
    · rw [show decide ((-1 : Int) ≥ 0) = false by decide]
      (repeat (first | (apply QL.pure; rfl; rfl; rfl) | (apply QL.pass; rfl; rfl) | (apply QL.lenS; rfl; rfl; rfl) | (apply QL.fa; rfl; rfl; rfl) | (apply QL.ld; rfl; rfl; rfl; assumption; rfl)))
      refine QL.shr0 (s := (outsL fl (n : Int)).length) rfl rfl rfl rfl q3.1 q3.2 (by omega) ?_
      (repeat (apply QL.pure; rfl; rfl; rfl))
      refine QL.cutHi (α := LStep) i rfl rfl rfl rfl rfl (by omega) ?_
      (repeat (apply QL.ldA; rfl; rfl; rfl; assumption; rfl))
      refine QL.call rfl rfl rfl hct ?_
      rw [q4]
      (repeat (apply QL.pure; rfl; rfl; rfl))
      refine QL.nil (fun w12 e12 => ?_)
      (repeat (first | (apply WL.add; rfl; rfl; rfl; rfl; omega; omega) | (apply WL.pure; rfl; rfl; rfl) | (apply WL.nil) | (apply EX.thenN) | (apply CW.region) | (apply EX.inN) | (apply CW.condF; rfl) | (apply CW.skip)))
      exact EX.back (i + 1) (by repeat (first | exact trivial | refine ⟨rfl, ?_⟩)) ⟨hi', (e10'.trans e11).trans e12⟩ (by omega)
    · obtain ⟨j, rfl, hj, hjn⟩ := insP_mem.1 hin
      rw [getDF_at hj] at hjn
      obtain ⟨fb, off, rfl, hfb, _, hc2⟩ := (hf.up hE11).pair hj
      rw [show decide ((j : Int) ≥ 0) = true from decide_eq_true (by omega)]
      (repeat (first | (apply QL.fa; rfl; rfl; rfl) | (apply QL.ld; rfl; rfl; rfl; assumption; rfl)))
      refine QL.idx (α := LFlow) rfl rfl rfl rfl (by omega) (by omega) ?_
      (repeat (apply QL.fa; rfl; rfl; rfl))
      refine QL.load (α := Int) (F := Non) (y := fl[j].2) rfl rfl rfl hfb (fun _ h => h.elim) (by rw [Int.toNat_natCast]; exact hc2) rfl ?_
      rw [hjn]
      (repeat (first | (apply QL.pure; rfl; rfl; rfl) | (apply QL.fa; rfl; rfl; rfl) | (apply QL.ld; rfl; rfl; rfl; assumption; rfl)))
      rw [show ((n : Int) != (n : Int)) = false by simp]
      (repeat (first | (apply QL.pure; rfl; rfl; rfl) | (apply QL.lenS; rfl; rfl; rfl) | (apply QL.fa; rfl; rfl; rfl) | (apply QL.ld; rfl; rfl; rfl; assumption; rfl)))
      refine QL.shr0 (s := (outsL fl (n : Int)).length) rfl rfl rfl rfl q3.1 q3.2 (by omega) ?_
      (repeat (apply QL.pure; rfl; rfl; rfl))
      refine QL.cutHi (α := LStep) i rfl rfl rfl rfl rfl (by omega) ?_
      (repeat (apply QL.ldA; rfl; rfl; rfl; assumption; rfl))
      refine QL.call rfl rfl rfl hct ?_
      rw [q4]
      (repeat (apply QL.pure; rfl; rfl; rfl))
      refine QL.nil (fun w12 e12 => ?_)
      (repeat (first | (apply WL.add; rfl; rfl; rfl; rfl; omega; omega) | (apply WL.pure; rfl; rfl; rfl) | (apply WL.nil) | (apply EX.thenN) | (apply CW.region) | (apply EX.inN) | (apply CW.condF; rfl) | (apply CW.skip)))
      exact EX.back (i + 1) (by repeat (first | exact trivial | refine ⟨rfl, ?_⟩)) ⟨hi', (e10'.trans e11).trans e12⟩ (by omega)
  · (repeat (first | (apply WL.pure; rfl; rfl; rfl) | (apply WL.nil) | (apply EX.thenN) | (apply CW.seq) | (apply CW.region) | (apply CW.exit) | (apply EX.thenX) | (apply EX.inX) | (apply CW.ret)))
    exact EX.ret1 rfl rfl ⟨rfl, hE8⟩
end Go.Proofs.Ythefpigolikmeaa
