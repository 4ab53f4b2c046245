/-
  Package game: joins, enabled, Enabled: walked.
-/
import Derived.Test.YthojdcbpglipeaaGame2
set_option linter.unusedVariables false
set_option linter.unusedSimpArgs false
namespace Go.Proofs.Ythojdcbpglipeaa
open Go.RowKit

theorem any_take_next {α : Type} (p : α → Bool) {l : List α} {i : Nat} (h : i < l.length) : (l.take (i + 1)).any p = ((l.take i).any p || p l[i]) := by
  rw [← List.take_append_getElem h, List.any_append]; simp
theorem getDm_at {l : List Int} {j : Nat} (h : j < l.length) : l.getD j 0 = l[j] := by rw [List.getD_eq_getElem?_getD, List.getElem?_eq_getElem h]; rfl
theorem joinsP_false {p : LProc} {m : List Int} {n f : Int} (h : f ∈ insL p.2 n) (h1 : ¬ m.getD f.toNat 0 > 0) (h2 : badIn p m n f = true) : joinsP p m n = false := by
  unfold joinsP
  rw [if_pos]
  exact List.any_eq_true.2 ⟨f, h, by rw [decide_eq_false h1, h2]; rfl⟩
theorem joinsP_some {p : LProc} {m : List Int} {n : Int} (h : ∀ f ∈ insL p.2 n, ¬ m.getD f.toNat 0 > 0 → badIn p m n f = false) : joinsP p m n = (insL p.2 n).any fun f => decide (m.getD f.toNat 0 > 0) := by
  unfold joinsP
  rw [if_neg]
  rw [List.any_eq_true]
  rintro ⟨f, hf, hb⟩
  rw [Bool.and_eq_true] at hb
  have h1 : ¬ m.getD f.toNat 0 > 0 := by simpa using hb.1
  rw [h f hf h1] at hb
  simp at hb
def badAt (fl : List LFlow) (m : List Int) (c : List Bool) (n : Int) (i : Nat) : Bool := c.getD i false && decide (m.getD i 0 > 0) && decide ((fl.getD i (0, 0)).2 ≠ n)
theorem badIn_eq {p : LProc} {m : List Int} {n : Int} {f : Nat} : badIn p m n (f : Int) = (List.range p.2.length).any (badAt p.2 m (comeL p.2 f n) n) := rfl
theorem joins_ok (w0 : World) {so fo mo : Option Addr} {sc fc mc : Nat} {ns : List LNode} {fl : List LFlow} {m : List Int} (hs : Sl w0 (Old w0) so sc ns) (hf : Sl w0 (Old w0) fo fc fl) (hm : Sl w0 (Old w0) mo mc m) (hc0 : chkPr (ns, fl) = 0) (hml : m.length = fl.length) {n : Nat} (hn : n < ns.length) :
    Rt Try.prog 145 [procV so sc fo fc ns.length fl.length, .slice mo m.length mc, .int .i64 (n : Int)].toArray w0 fun v w' => v = .bool (joinsP (ns, fl) m (n : Int)) ∧ Ext w0 w' := by
  have hok := chkPr_ok hc0
  have hf30 := hok.f
  dsimp only at hf30
  have hle : listE (ns, fl) (n : Int) = 0 := listE_ok hc0 hn
  refine Rt.enter3 Try.func145 Try.ntmps145 rfl rfl ?_
  have hE := Ext.refl w0
  (repeat (first | (apply CW.seq) | (apply CW.region)))
  refine WL.boxB rfl rfl rfl fun w1 hb1 e1 => ?_
  have hE := hE.trans e1
  (repeat (first | (apply WL.pure; rfl; rfl; rfl) | (apply WL.nil) | (apply EX.thenN) | (apply CW.seq) | (apply CW.region) | (apply WL.ldA; rfl; rfl; rfl; assumption; rfl)))
  refine WL.call rfl rfl rfl (Ins_ok w1 (hs.up hE) (hf.up hE) (n : Int)) ?_
  rintro _ w2 ⟨x, rfl, hox, e2⟩
  rw [hle, if_pos rfl] at hox
  have hb1 := hb1.ext e2
  have hE := hE.trans e2
  obtain ⟨xo, xc, rfl, hxs⟩ := hox.oldN.sl
  have hins := fun x (hx : x ∈ insL fl (n : Int)) => insP_mem.1 hx
  have hjf := fun f => @joinsP_false (ns, fl) m (n : Int) f
  have hjs := @joinsP_some (ns, fl) m (n : Int)
  have hil : (insL fl (n : Int)).length ≤ fl.length := insP_len
  dsimp only at hjf hjs
  rw [hle]
  clear hox e1
  generalize insL fl (n : Int) = ins at *
  (repeat (first | (apply WL.pure; rfl; rfl; rfl) | (apply WL.nil) | (apply EX.thenN) | (apply CW.seq) | (apply CW.region) | (apply WL.lenS; rfl; rfl; rfl) | (apply CW.block)))
  refine CW.loop (S := Nat × Bool) (fun s => [(1, .slice mo m.length mc), (2, .int .i64 (n : Int)), (3, .pointer (some ⟨w0.heap.size, 0, none⟩)), (9, .bool s.2), (20, .slice xo ins.length xc), (21, .int .i64 ins.length), (22, .int .i64 s.1)])
    (fun s w => s.1 ≤ ins.length ∧ s.2 = ((ins.take s.1).any fun f => decide (m.getD f.toNat 0 > 0)) ∧ (∀ j (h : j < ins.length), j < s.1 → ¬ m.getD ins[j].toNat 0 > 0 → badIn (ns, fl) m (n : Int) ins[j] = false) ∧ Ext w2 w) (fun s => ins.length - s.1)
    (0, false) (by repeat (first | exact trivial | refine ⟨rfl, ?_⟩)) ⟨Nat.zero_le _, rfl, (fun j _ h => absurd h (Nat.not_lt_zero _)), Ext.refl _⟩ ?_
  rintro ⟨i, b⟩ w3 ⟨hi, hb, hbad, e3⟩
  dsimp only at hi hb hbad e3 ⊢
  have hb1 := hb1.ext e3
  have hE3 := hE.trans e3
  (repeat (first | (apply WL.pure; rfl; rfl; rfl) | (apply WL.nil) | (apply EX.thenN) | (apply CW.seq) | (apply CW.region)))
  refine CW.cond rfl (fun h => ?_) (fun h => ?_)
  · have hi' : i < ins.length := by simp at h; omega
    have hmem := List.getElem_mem hi'
    obtain ⟨f, ef, hlt, _⟩ := hins _ hmem
    have hfm : f < m.length := by rw [hml]; exact hlt
    have hnext := any_take_next (fun f : Int => decide (m.getD f.toNat 0 > 0)) hi'
    rw [ef, Int.toNat_natCast, getDm_at hfm] at hnext
    (repeat (first | (apply EX.thenN) | (apply CW.seq) | (apply CW.region) | (apply CW.block) | (apply CW.skip)))
    refine WL.elemI rfl rfl rfl rfl rfl (hxs.up e3) hi' ef (fun _ => rfl) (fun q => ?_)
    (repeat (first | (apply WL.pure; rfl; rfl; rfl) | (apply WL.nil) | (apply EX.thenN) | (apply CW.seq) | (apply CW.region)))
    refine WL.elemI rfl rfl rfl rfl rfl (hm.up hE3) hfm rfl (fun _ => rfl) (fun q => ?_)
    (repeat (first | (apply WL.pure; rfl; rfl; rfl) | (apply WL.nil) | (apply EX.thenN)))
    refine CW.cond rfl (fun h => ?_) (fun h => ?_)
    · rw [h, Bool.or_true] at hnext
      have hp : m.getD ins[i].toNat 0 > 0 := by rw [ef, Int.toNat_natCast, getDm_at hfm]; simpa using h
      (repeat (first | (apply WL.add; rfl; rfl; rfl; rfl; omega; omega) | (apply WL.pure; rfl; rfl; rfl) | (apply WL.nil) | (apply EX.thenN) | (apply CW.seq) | (apply CW.region) | (apply CW.exit) | (apply EX.thenX) | (apply EX.inX)))
      refine EX.back (i + 1, true) (by repeat (first | exact trivial | refine ⟨rfl, ?_⟩)) ⟨hi', hnext.symm, fun j hj hlt hn => ?_, e3⟩ (by dsimp only; omega)
      dsimp only at hlt
      by_cases e : j = i
      · subst e; exact absurd hp hn
      · exact hbad j hj (by omega) hn
    rw [h, Bool.or_false, ← hb] at hnext
    have hnp : ¬ m.getD ins[i].toNat 0 > 0 := by rw [ef, Int.toNat_natCast, getDm_at hfm]; simpa using h
    have hbi := badIn_eq (p := (ns, fl)) (m := m) (n := (n : Int)) (f := f)
    rw [← ef] at hbi
    dsimp only at hbi
    (repeat (first | (apply WL.pure; rfl; rfl; rfl) | (apply EX.thenN) | (apply CW.seq) | (apply CW.region) | (apply WL.ldA; rfl; rfl; rfl; assumption; rfl) | (apply CW.skip)))
    refine WL.call rfl rfl rfl (come_ok w3 (hs.up hE3) (hf.up hE3) hok hlt (n : Int)) ?_
    rintro v w4 ⟨hoc, e4⟩
    have hb1 := hb1.ext e4
    have hE4 := hE3.trans e4
    have hcl := comeL_len (fl := fl) (flow := f) (but := (n : Int))
    generalize comeL fl f (n : Int) = c at *
    obtain ⟨co, cc, rfl, hcs⟩ := hoc.oldN.sl
    clear hoc
    (repeat (first | (apply WL.pure; rfl; rfl; rfl) | (apply WL.nil) | (apply EX.thenN) | (apply WL.lenS; rfl; rfl; rfl) | (apply CW.block)))
    refine CW.loop (S := Nat) (fun j => [(1, .slice mo m.length mc), (2, .int .i64 (n : Int)), (3, .pointer (some ⟨w0.heap.size, 0, none⟩)), (9, .bool b), (20, .slice xo ins.length xc), (21, .int .i64 ins.length), (22, .int .i64 i), (34, .slice co c.length cc), (35, .int .i64 c.length), (36, .int .i64 j)])
      (fun j w => j ≤ c.length ∧ (∀ k, k < j → badAt fl m c (n : Int) k = false) ∧ Ext w4 w) (fun j => c.length - j) 0 (by repeat (first | exact trivial | refine ⟨rfl, ?_⟩)) ⟨Nat.zero_le _, (fun k h => absurd h (Nat.not_lt_zero _)), Ext.refl _⟩ ?_
    rintro j w5 ⟨hj, hall, e5⟩
    have hb1 := hb1.ext e5
    have hE5 := hE4.trans e5
    (repeat (first | (apply WL.pure; rfl; rfl; rfl) | (apply WL.nil) | (apply EX.thenN) | (apply CW.seq) | (apply CW.region)))
    refine CW.cond rfl (fun h2 => ?_) (fun h2 => ?_)
    · have hj' : j < c.length := by simp at h2; omega
      have hjf' : j < fl.length := by omega
      have hjm : j < m.length := by omega
      have hba : badAt fl m c (n : Int) j = (c[j] && decide (m[j] > 0) && decide (fl[j].2 ≠ (n : Int))) := by unfold badAt; rw [getDB_at hj', getDm_at hjm, getDF_at hjf']
      have hbk : badAt fl m c (n : Int) j = false → ∀ k, k < j + 1 → badAt fl m c (n : Int) k = false := fun h k hk => by
        by_cases e : k = j
        · subst e; exact h
        · exact hall k (by omega)
      (repeat (first | (apply WL.pure; rfl; rfl; rfl) | (apply EX.thenN) | (apply CW.seq) | (apply CW.region) | (apply CW.block) | (apply CW.skip)))
      refine WL.elemB rfl rfl rfl rfl rfl (hcs.up e5) hj' rfl (fun _ => rfl) (fun q => ?_)
      (repeat (first | (apply WL.pure; rfl; rfl; rfl) | (apply WL.nil) | (apply EX.thenN) | (apply CW.seq) | (apply CW.region)))
      by_cases h3 : c[j] = true
      · rw [h3] at hba ⊢
        rw [Bool.true_and] at hba
        (repeat (apply WL.pure; rfl; rfl; rfl))
        refine WL.elemI rfl rfl rfl rfl rfl (hm.up hE5) hjm rfl (fun _ => rfl) (fun q => ?_)
        (repeat (apply WL.pure; rfl; rfl; rfl))
        by_cases h4 : m[j] > 0
        · rw [decide_eq_true h4] at hba ⊢
          rw [Bool.true_and] at hba
          obtain ⟨fb, off, rfl, hfb, _, hc2⟩ := (hf.up hE5).pair hjf'
          (repeat (first | (apply WL.pure; rfl; rfl; rfl) | (apply WL.fa; rfl; rfl; rfl) | (apply WL.ld; rfl; rfl; rfl; assumption; rfl)))
          refine WL.idx (α := LFlow) rfl rfl rfl rfl (by omega) (by omega) ?_
          (repeat (apply WL.fa; rfl; rfl; rfl))
          refine WL.load (α := Int) (F := Non) (y := fl[j].2) rfl rfl rfl (by rw [Int.toNat_natCast]; exact hc2) rfl ?_
          rw [show vOf Int [.int .i64 fl[j].2] = .int .i64 fl[j].2 from rfl]
          (repeat (first | (apply WL.pure; rfl; rfl; rfl) | (apply WL.nil) | (apply EX.thenN)))
          refine CW.cond rfl (fun h5 => ?_) (fun h5 => ?_)
          · have h5 : fl[j].2 ≠ (n : Int) := by simpa using h5
            rw [decide_eq_true h5] at hba
            have hbt : badIn (ns, fl) m (n : Int) ins[i] = true := by
              rw [hbi]
              exact List.any_eq_true.2 ⟨j, List.mem_range.2 hjf', hba⟩
            (repeat (first | (apply WL.pure; rfl; rfl; rfl) | (apply WL.nil) | (apply EX.thenN) | (apply CW.seq) | (apply CW.region) | (apply CW.ret) | (apply EX.thenR) | (apply EX.inR)))
            refine EX.ret1 rfl rfl ⟨?_, hE5⟩
            rw [hjf _ hmem hnp hbt]
          · have h5 : ¬ fl[j].2 ≠ (n : Int) := by simpa using h5
            rw [decide_eq_false h5] at hba
            (repeat (first | (apply WL.add; rfl; rfl; rfl; rfl; omega; omega) | (apply WL.pure; rfl; rfl; rfl) | (apply WL.nil) | (apply EX.thenN) | (apply CW.region) | (apply EX.inN) | (apply CW.skip)))
            exact EX.back (j + 1) (by repeat (first | exact trivial | refine ⟨rfl, ?_⟩)) ⟨hj', hbk hba, e5⟩ (by omega)
        · rw [decide_eq_false h4] at hba ⊢
          rw [Bool.false_and] at hba
          (repeat (first | (apply WL.add; rfl; rfl; rfl; rfl; omega; omega) | (apply WL.pure; rfl; rfl; rfl) | (apply WL.nil) | (apply EX.thenN) | (apply CW.region) | (apply WL.pass; rfl; rfl) | (apply EX.inN) | (apply CW.condF; rfl) | (apply CW.skip)))
          exact EX.back (j + 1) (by repeat (first | exact trivial | refine ⟨rfl, ?_⟩)) ⟨hj', hbk hba, e5⟩ (by omega)
      · have h3 : c[j] = false := by simpa using h3
        rw [h3] at hba ⊢
        rw [Bool.false_and, Bool.false_and] at hba
        (repeat (first | (apply WL.add; rfl; rfl; rfl; rfl; omega; omega) | (apply WL.pure; rfl; rfl; rfl) | (apply WL.nil) | (apply EX.thenN) | (apply CW.region) | (apply WL.pass; rfl; rfl) | (apply EX.inN) | (apply CW.condF; rfl) | (apply CW.skip)))
        exact EX.back (j + 1) (by repeat (first | exact trivial | refine ⟨rfl, ?_⟩)) ⟨hj', hbk hba, e5⟩ (by omega)
    · obtain rfl : j = c.length := by simp at h2; omega
      have hbf : badIn (ns, fl) m (n : Int) ins[i] = false := by
        rw [hbi]
        exact List.any_eq_false.2 (fun k hk => by rw [hall k (by rw [hcl]; exact List.mem_range.1 hk)]; simp)
      (repeat (first | (apply WL.add; rfl; rfl; rfl; rfl; omega; omega) | (apply WL.pure; rfl; rfl; rfl) | (apply WL.nil) | (apply EX.thenN) | (apply CW.region) | (apply EX.inN) | (apply CW.exit) | (apply EX.thenX) | (apply EX.inX)))
      refine EX.back (i + 1, b) (by repeat (first | exact trivial | refine ⟨rfl, ?_⟩)) ⟨hi', hnext.symm, fun j hj hlt hn => ?_, (e3.trans e4).trans e5⟩ (by dsimp only; omega)
      dsimp only at hlt
      by_cases e : j = i
      · subst e; exact hbf
      · exact hbad j hj (by omega) hn
  · obtain rfl : i = ins.length := by simp at h; omega
    rw [List.take_length] at hb
    have := hjs (fun f hf hn => by
      obtain ⟨j, hj, rfl⟩ := List.mem_iff_getElem.1 hf
      exact hbad j hj hj hn)
    (repeat (first | (apply WL.pure; rfl; rfl; rfl) | (apply WL.nil) | (apply EX.thenN) | (apply CW.seq) | (apply CW.region) | (apply CW.exit) | (apply EX.thenX) | (apply EX.inX) | (apply CW.ret)))
    exact EX.ret1 rfl rfl ⟨by rw [this, ← hb], hE3⟩
theorem enabled1_ok (w : World) (b : Nat) {mo : Option Addr} {mc : Nat} {m : List Int} (hb : Blk w b 22 [.slice mo m.length mc]) (hm : Sl w (Old w) mo mc m) {f : Nat} (hfm : f < m.length) :
    Rt Try.prog 147 [.int .i64 (f : Int), .pointer (some ⟨b, 0, none⟩)].toArray w fun v w' => v = .bool (m.getD f 0 == 0) ∧ Ext w w' := by
  refine Rt.enter2 Try.func147 Try.ntmps147 rfl rfl ?_
  (repeat (first | (apply WL.pure; rfl; rfl; rfl) | (apply WL.nil) | (apply EX.thenN) | (apply CW.seq) | (apply CW.region) | (apply WL.ld; rfl; rfl; rfl; assumption; rfl)))
  refine WL.elemI rfl rfl rfl rfl rfl hm hfm rfl (fun _ => rfl) (fun q => ?_)
  (repeat (first | (apply WL.pure; rfl; rfl; rfl) | (apply WL.nil) | (apply EX.thenN) | (apply CW.ret)))
  exact EX.ret1 rfl rfl ⟨by rw [getDm_at hfm], Ext.refl _⟩
theorem enabled_ok (w0 : World) {so fo mo : Option Addr} {sc fc mc : Nat} {ns : List LNode} {fl : List LFlow} {m : List Int} (hs : Sl w0 (Old w0) so sc ns) (hf : Sl w0 (Old w0) fo fc fl) (hm : Sl w0 (Old w0) mo mc m) (hc0 : chkPr (ns, fl) = 0) (hml : m.length = fl.length) {s : LStep} {n : Nat} (hn : n < ns.length) (hsn : s ∈ stepsN (ns, fl) n) :
    Rt Try.prog 94 [procV so sc fo fc ns.length fl.length, .slice mo m.length mc, stV s].toArray w0 fun v w' => v = .bool (enabledP (ns, fl) m s) ∧ Ext w0 w' := by
  have hok := chkPr_ok hc0
  have hf30 := hok.f
  dsimp only at hf30
  have q1 := stepsK_node _ hsn
  have q2 := stepsK_in _ hsn
  have hle : listE (ns, fl) (n : Int) = 0 := listE_ok hc0 hn
  clear hsn
  obtain ⟨s1, s2, s3⟩ := s
  dsimp only at q1 q2
  subst q1
  unfold stV enabledP
  dsimp only
  refine Rt.enter3 Try.func94 Try.ntmps94 rfl rfl ?_
  have hE := Ext.refl w0
  (repeat (first | (apply CW.seq) | (apply CW.region)))
  refine WL.boxB rfl rfl rfl fun w1 hb3 e1 => ?_
  have hE := hE.trans e1
  skip
  refine WL.boxB rfl rfl rfl fun w2 hb4 e2 => ?_
  have hb3 := hb3.ext e2
  have hE := hE.trans e2
  skip
  refine WL.boxB rfl rfl rfl fun w3 hb5 e3 => ?_
  have hb3 := hb3.ext e3
  have hb4 := hb4.ext e3
  have hE := hE.trans e3
  (repeat (first | (apply WL.pure; rfl; rfl; rfl) | (apply WL.nil) | (apply EX.thenN) | (apply CW.seq) | (apply CW.region) | (apply WL.fa; rfl; rfl; rfl) | (apply WL.ld; rfl; rfl; rfl; assumption; rfl)))
  refine CW.cond rfl (fun h => ?_) (fun h => ?_)
  · have h : s2 ≥ 0 := by simpa using h
    rcases q2 with rfl | hin
    · omega
    obtain ⟨f, rfl, hlt, _⟩ := insP_mem.1 hin
    have hfm : f < m.length := by rw [hml]; exact hlt
    rw [if_pos h, Int.toNat_natCast, getDm_at hfm]
    (repeat (first | (apply CW.seq) | (apply CW.region) | (apply WL.fa; rfl; rfl; rfl) | (apply WL.ld; rfl; rfl; rfl; assumption; rfl)))
    refine WL.elemI rfl rfl rfl rfl rfl (hm.up hE) hfm rfl (fun _ => rfl) (fun q => ?_)
    (repeat (first | (apply WL.pure; rfl; rfl; rfl) | (apply WL.nil) | (apply EX.thenN) | (apply CW.ret) | (apply EX.thenR)))
    exact EX.ret1 rfl rfl ⟨rfl, hE⟩
  have h : ¬ 0 ≤ s2 := by simpa using h
  rw [if_neg h, Int.toNat_natCast, kindAt_at hn]
  obtain ⟨nb, off, rfl, hnb, hnc⟩ := (hs.at hE).nodeK hn
  (repeat (first | (apply EX.thenN) | (apply CW.seq) | (apply CW.region) | (apply WL.fa; rfl; rfl; rfl) | (apply WL.ld; rfl; rfl; rfl; assumption; rfl) | (apply CW.skip)))
  refine WL.idx (α := LNode) rfl rfl rfl rfl (by omega) (by omega) ?_
  (repeat (apply WL.fa; rfl; rfl; rfl))
  refine WL.load (α := Int) (F := Non) (y := ns[n].2) rfl rfl rfl (by rw [Int.toNat_natCast]; exact hnc) rfl ?_
  rw [show vOf Int [.int .i64 ns[n].2] = .int .i64 ns[n].2 from rfl]
  (repeat (first | (apply WL.pure; rfl; rfl; rfl) | (apply WL.nil) | (apply EX.thenN)))
  refine CW.cond rfl (fun h => ?_) (fun h => ?_)
  · have h : ns[n].2 = 7 := by simpa using h
    rw [if_pos h]
    (repeat (first | (apply CW.seq) | (apply CW.region) | (apply WL.fa; rfl; rfl; rfl) | (apply WL.ld; rfl; rfl; rfl; assumption; rfl) | (apply WL.ldA; rfl; rfl; rfl; assumption; rfl)))
    refine WL.call rfl rfl rfl (joins_ok w3 (hs.up hE) (hf.up hE) (hm.up hE) hc0 hml hn) ?_
    rintro _ w4 ⟨rfl, e4⟩
    (repeat (first | (apply WL.pure; rfl; rfl; rfl) | (apply WL.nil) | (apply EX.thenN) | (apply CW.ret) | (apply EX.thenR)))
    exact EX.ret1 rfl rfl ⟨rfl, hE.trans e4⟩
  have h : ¬ ns[n].2 = 7 := by simpa using h
  rw [if_neg h]
  (repeat (first | (apply EX.thenN) | (apply CW.seq) | (apply CW.region) | (apply WL.fa; rfl; rfl; rfl) | (apply WL.ld; rfl; rfl; rfl; assumption; rfl) | (apply WL.ldA; rfl; rfl; rfl; assumption; rfl) | (apply CW.skip)))
  refine WL.call rfl rfl rfl (Ins_ok w3 (hs.up hE) (hf.up hE) (n : Int)) ?_
  rintro _ w4 ⟨x, rfl, hox, e4⟩
  rw [hle, if_pos rfl] at hox
  rw [hle]
  have hb4 := hb4.ext e4
  have hE := hE.trans e4
  obtain ⟨xo, xc, rfl, hxs⟩ := hox.oldN.sl
  (repeat (first | (apply WL.pure; rfl; rfl; rfl) | (apply WL.nil) | (apply EX.thenN) | (apply CW.seq) | (apply CW.region) | (apply WL.makeFunc; rfl; rfl; rfl; rfl)))
  refine WL.call rfl rfl rfl (containsFunc_int w4 (fun f => m.getD f.toNat 0 == 0) hxs (fun w hw j hj => ?_)) ?_
  · obtain ⟨f, ef, hlt, _⟩ := insP_mem.1 (List.getElem_mem hj)
    rw [ef, Int.toNat_natCast]
    exact FnV.mk (cs := [_]) (enabled1_ok w _ (hb4.ext hw) (hm.up (hE.trans hw)) (by rw [hml]; exact hlt))
  rintro _ w5 ⟨rfl, e5⟩
  (repeat (first | (apply WL.pure; rfl; rfl; rfl) | (apply WL.nil) | (apply EX.thenN) | (apply CW.ret)))
  exact EX.ret1 rfl rfl ⟨rfl, hE.trans e5⟩
theorem stepsL_at {p : LProc} {i : Nat} (h : i < (stepsL p).length) : (stepsL p).getD i (0, 0, 0) = (stepsL p)[i] := by rw [List.getD_eq_getElem?_getD, List.getElem?_eq_getElem h]; rfl
theorem chkM_ok {p : LProc} {m : List Int} (h : chkM p m = 0) : chkPr p = 0 ∧ m.length = p.2.length ∧ m.any tokB = false ∧ (stepsL p).length ≤ 60 := by
  unfold chkM at h
  split at h
  · rename_i h1; exact absurd h h1
  · rename_i h1
    split at h
    · cases h
    · rename_i h2
      have := stepsE_ok (p := p) (by simpa using h1)
      refine ⟨this.1, Classical.byContradiction fun e => h2 (.inl e), ?_, this.2.2⟩
      by_cases e : m.any tokB = true
      · exact absurd (.inr e) h2
      · simpa using e
theorem Enabled_ok (w0 : World) {so fo mo : Option Addr} {sc fc mc : Nat} {ns : List LNode} {fl : List LFlow} {m : List Int} (hs : Sl w0 (Old w0) so sc ns) (hf : Sl w0 (Old w0) fo fc fl) (hm : Sl w0 (Old w0) mo mc m) :
    Rt Try.prog 37 [procV so sc fo fc ns.length fl.length, .slice mo m.length mc].toArray w0 fun v w' => ∃ x, v = .tuple ⟨[x, .int .i64 (chkM (ns, fl) m)]⟩ ∧ Own w' w0.heap.size 3 Non x (if chkM (ns, fl) m = 0 then canL (ns, fl) m else []) ∧ Ext w0 w' := by
  refine Rt.enter2 Try.func37 Try.ntmps37 rfl rfl ?_
  have hE := Ext.refl w0
  (repeat (first | (apply CW.seq) | (apply CW.region)))
  refine WL.boxB rfl rfl rfl fun w1 hb1 e1 => ?_
  have hE := hE.trans e1
  (repeat (first | (apply WL.pure; rfl; rfl; rfl) | (apply WL.nil) | (apply EX.thenN) | (apply CW.seq) | (apply CW.region) | (apply WL.ldA; rfl; rfl; rfl; assumption; rfl)))
  refine WL.call rfl rfl rfl (check_ok w1 (hs.up hE) (hf.up hE) (hm.up hE)) ?_
  rintro _ w2 ⟨x, rfl, hox, e2⟩
  have hb1 := hb1.ext e2
  have hE := hE.trans e2
  by_cases hz : chkM (ns, fl) m = 0
  case neg =>
    have hz1 : (chkM (ns, fl) m != 0) = true := by simpa using hz
    (repeat (first | (apply WL.pure; rfl; rfl; rfl) | (apply WL.nil) | (apply EX.thenN) | (apply CW.seq) | (apply CW.region)))
    rw [hz1]
    (repeat (first | (apply WL.pure; rfl; rfl; rfl) | (apply WL.nil) | (apply EX.thenN) | (apply CW.seq) | (apply CW.region) | (apply CW.condT; rfl) | (apply CW.ret) | (apply EX.thenR)))
    refine EX.ret2 rfl rfl rfl ⟨_, rfl, ?_, hE⟩
    rw [if_neg hz]; exact Own.nil
  obtain ⟨hc0, hml, _, hl60⟩ := chkM_ok hz
  rw [if_pos hz] at hox
  rw [if_pos hz, hz]
  dsimp only at hml
  obtain ⟨xo, xc, rfl, hxs⟩ := hox.oldN.sl
  clear hox
  have hlen : ∀ k, k ≤ (stepsL (ns, fl)).length → (canP (ns, fl) m k).length ≤ 60 := fun k hk => by
    unfold canP
    rw [List.length_map]
    have := List.length_filter_le (fun i => enabledP (ns, fl) m ((stepsL (ns, fl)).getD i (0, 0, 0))) (List.range k)
    rw [List.length_range] at this
    omega
  have z2 := hE.size
  (repeat (first | (apply WL.pure; rfl; rfl; rfl) | (apply WL.nil) | (apply EX.thenN) | (apply CW.seq) | (apply CW.region) | (apply WL.lenS; rfl; rfl; rfl) | (apply CW.block) | (apply CW.condF; rfl) | (apply CW.skip)))
  refine CW.loop (S := Nat × Value) (fun s => [(1, .slice mo m.length mc), (2, .pointer (some ⟨w0.heap.size, 0, none⟩)), (8, s.2), (20, .slice xo (stepsL (ns, fl)).length xc), (21, .int .i64 (stepsL (ns, fl)).length), (22, .int .i64 s.1)])
    (fun s w => s.1 ≤ (stepsL (ns, fl)).length ∧ Own w w2.heap.size 3 Non s.2 (canP (ns, fl) m s.1) ∧ Ext w2 w) (fun s => (stepsL (ns, fl)).length - s.1) (0, .slice none 0 0) (by repeat (first | exact trivial | refine ⟨rfl, ?_⟩)) ⟨Nat.zero_le _, Own.nil, Ext.refl _⟩ ?_
  rintro ⟨i, ov⟩ w3 ⟨hi, ho, e3⟩
  dsimp only at hi ho e3 ⊢
  have hb1 := hb1.ext e3
  have hE3 := hE.trans e3
  (repeat (first | (apply WL.pure; rfl; rfl; rfl) | (apply WL.nil) | (apply EX.thenN) | (apply CW.seq) | (apply CW.region)))
  refine CW.cond rfl (fun h => ?_) (fun h => ?_)
  · have hi' : i < (stepsL (ns, fl)).length := by simp at h; omega
    obtain ⟨n, hn, hsn⟩ := stepsP_mem.1 (List.getElem_mem hi')
    have hnext := canP_next (p := (ns, fl)) (m := m) (k := i)
    rw [stepsL_at hi'] at hnext
    have hl1 := hlen i hi
    (repeat (first | (apply WL.pure; rfl; rfl; rfl) | (apply EX.thenN) | (apply CW.seq) | (apply CW.region) | (apply CW.block) | (apply CW.skip)))
    refine WL.elemN rfl rfl rfl rfl rfl (hxs.up e3) hi' (fun _ => rfl) (fun u q hu => ?_)
    rw [hu.step]
    have hen := fun w hs hf hm => enabled_ok w (so := so) (fo := fo) (mo := mo) (sc := sc) (fc := fc) (mc := mc) hs hf hm hc0 hml hn hsn
    clear hu hsn
    generalize (stepsL (ns, fl))[i] = s at *
    unfold stV at hen ⊢
    skip
    refine WL.alloc rfl rfl (fun w4 hb10 e4 => ?_)
    (repeat (apply WL.pure; rfl; rfl; rfl))
    refine WL.st rfl rfl rfl hb10 rfl rfl (ones_of rfl) (fun w5 hb10 hg5 => ?_)
    have e5 : Ext w3 w5 := e4.grown hg5 e4.size (fun g hg => by cases hg; exact Nat.le_refl _)
    have hb1 := hb1.ext e5
    have hE5 := hE3.trans e5
    have ho := ho.extN e5
    (repeat (first | (apply WL.pure; rfl; rfl; rfl) | (apply WL.nil) | (apply EX.thenN) | (apply CW.seq) | (apply CW.region) | (apply WL.ldA; rfl; rfl; rfl; assumption; rfl)))
    refine WL.call rfl rfl rfl (hen w5 (hs.up hE5) (hf.up hE5) (hm.up hE5)) ?_
    rintro _ w6 ⟨rfl, e6⟩
    have ho := ho.extN e6
    have e6 : Ext w2 w6 := (e3.trans e5).trans e6
    have z6 := e6.size
    (repeat (first | (apply WL.nil) | (apply EX.thenN)))
    refine CW.cond rfl (fun h => ?_) (fun h => ?_)
    · rw [if_pos h] at hnext
      (repeat (first | (apply WL.pure; rfl; rfl; rfl) | (apply CW.region)))
      refine WL.app1 (F := Non) (yv := (i : Int)) rfl rfl (fun _ => rfl) rfl rfl (fun _ => rfl) ho (Rd.mkInt _ _ _) e6.size (fun _ h => h.elim) (by decide) (by unfold maxLen; omega) (by omega) (fun v' w7 p ho7 hg7 hnb => ?_)
      have e7 : Ext w2 w7 := e6.grown hg7 e6.size (fun b hb => (ho.lt b hb).1)
      rw [← hnext] at ho7
      (repeat (first | (apply WL.add; rfl; rfl; rfl; rfl; omega; omega) | (apply WL.pure; rfl; rfl; rfl) | (apply WL.nil) | (apply EX.thenN) | (apply CW.region) | (apply EX.inN)))
      exact EX.back (i + 1, v') (by repeat (first | exact trivial | refine ⟨rfl, ?_⟩)) ⟨hi', ho7, e7⟩ (by dsimp only; omega)
    · rw [if_neg (by simp [h]), List.append_nil] at hnext
      (repeat (first | (apply WL.add; rfl; rfl; rfl; rfl; omega; omega) | (apply WL.pure; rfl; rfl; rfl) | (apply WL.nil) | (apply EX.thenN) | (apply CW.region) | (apply EX.inN) | (apply CW.skip)))
      exact EX.back (i + 1, ov) (by repeat (first | exact trivial | refine ⟨rfl, ?_⟩)) ⟨hi', by dsimp only; rw [hnext]; exact ho, e6⟩ (by dsimp only; omega)
  · obtain rfl : i = (stepsL (ns, fl)).length := by simp at h; omega
    (repeat (first | (apply WL.pure; rfl; rfl; rfl) | (apply WL.nil) | (apply EX.thenN) | (apply CW.seq) | (apply CW.region) | (apply CW.exit) | (apply EX.thenX) | (apply EX.inX) | (apply CW.ret)))
    exact EX.ret2 rfl rfl rfl ⟨_, rfl, ho.low z2, hE3⟩
end Go.Proofs.Ythojdcbpglipeaa
