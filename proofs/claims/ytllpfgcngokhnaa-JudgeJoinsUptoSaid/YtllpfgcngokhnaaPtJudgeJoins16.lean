import Derived.Test.YtllpfgcngokhnaaRows
import Derived.OpenShut
import Derived.JoinedCond
import Derived.Test.YtllpfgcngokhnaaPtJudgeJoins15
/-
  Package judge: Holds: walked.
-/
set_option linter.unusedVariables false
set_option linter.unusedSimpArgs false
namespace Go.Proofs.Ytllpfgcngokhnaa
open Go.RowKit

/-- a block without numbers is none of a list of numbers -/
theorem Sl.notB {w : World} {F : Nat → Prop} {ao : Option Addr} {cap b : Nat} {xs : List Int} {e : TypeId} {cells : List Value} (h : Sl w F ao cap xs) (hb : Blk w b e cells) (hc : ∀ (k : Nat) (x : Int), cells[k]? ≠ some (Value.int IntKind.i64 x)) : Sl w (fun c => F c ∧ c ≠ b) ao cap xs := by
  refine ⟨h.le, h.mx, h.nil, fun i hi => ?_⟩
  obtain ⟨c, off, e1, hf, es, hcl, hr⟩ := h.el i hi
  have hr' : es = [Value.int IntKind.i64 xs[i]] := hr
  refine ⟨c, off, e1, ⟨hf, fun he => ?_⟩, es, hcl, hr'⟩
  subst hr'
  have h1 := hcl 0 _ rfl
  rw [he, cell_of_row w b _ cells.toArray e (0, 0) hb] at h1
  exact hc _ _ (by simpa using h1)
/-- all fair runs satisfy it -/
def AllW (W : LWorld) (f : Ltl) : Prop := ∀ ρ, WWay W ρ → sem (fun i => W.2.2.1.getD (ρ i) 0) f 0
def notT (f : Ltl) : Ltl := .mk 4 0 [f]
theorem sem_not {L : Nat → Nat} {f : Ltl} {i : Nat} : sem L (notT f) i ↔ ¬ sem L f i := by simp [notT, sem, sems, semK]
theorem eway_all {W : LWorld} {f : Ltl} (hW : PosW W) (h : (makeT (notT f)).2 = 0) : EWay W (makeT (notT f)).1 ↔ ¬ AllW W f := by
  have hA := fun L => (makeT_acc (L := L) h).2.1
  have okA := (makeT_acc (L := fun _ => 0) h).1
  constructor
  · rintro ⟨r, hr⟩ hall
    obtain ⟨h1, h2⟩ := eway_run hW (okA_pos okA) hr
    exact sem_not.1 ((hA _).1 h2) (hall _ h1)
  · intro hn
    unfold AllW at hn
    rw [Classical.not_forall] at hn
    obtain ⟨ρ, hρ⟩ := hn
    rw [Classical.not_imp] at hρ
    exact eway_of hρ.1 ((hA _).2 (sem_not.2 hρ.2))
/-- what judge.Holds tells -/
structure JudE (W : LWorld) (f : Ltl) (s l : List Int) (is : Bool) (err : Int) : Prop where
  bad : err ≠ 0 → is = false ∧ s = [] ∧ l = []
  good : chkE W = 0 → (chkF f 1 0).1 = 0 → (makeT (notT f)).2 = 0 → err = 0
  ok : err = 0 → chkE W = 0 ∧ (chkF f 1 0).1 = 0 ∧ wfT f ∧ (makeT (notT f)).2 = 0 ∧ (is = true ↔ AllW W f) ∧ (is = true → s = [] ∧ l = []) ∧ (is = false → PathE W (makeT (notT f)).1 s l)
theorem jud_found {W : LWorld} {f : Ltl} {s l : List Int} {is : Bool} {err : Int} (hf : (chkF f 1 0).1 = 0) (h : (makeT (notT f)).2 = 0) (hF : FoundE W (makeT (notT f)).1 s l is err) : JudE W f s l (!is && decide (err = 0)) err := by
  have hwn := (makeT_acc (L := fun _ => 0) h).2.2
  have hw : wfT f := by
    have := hwn
    unfold notT at this
    simp only [wfT, wfTs] at this
    exact this.2.2.2.2.1
  have okA := (makeT_acc (L := fun _ => 0) h).1
  rcases hF with ⟨he, rfl, rfl, rfl, hno⟩ | ⟨rfl, hW, hA, ⟨rfl, rfl, rfl, hne⟩ | ⟨rfl, hy, hP⟩⟩
  · exact ⟨fun _ => ⟨by simp [he], rfl, rfl⟩, fun hW _ _ => (hno hW (chkA_of okA)).elim, fun h0 => absurd h0 he⟩
  · exact ⟨fun h => absurd rfl h, fun _ _ _ => rfl, fun _ => ⟨hW, hf, hw, h, ⟨fun _ => Classical.not_not.1 (fun hn => hne ((eway_all (chkE_pos hW) h).2 hn)), fun _ => by simp⟩, fun _ => ⟨rfl, rfl⟩, fun hx => by simp at hx⟩⟩
  · exact ⟨fun h => absurd rfl h, fun _ _ _ => rfl, fun _ => ⟨hW, hf, hw, h, ⟨fun hx => by simp at hx, fun ha => absurd ha ((eway_all (chkE_pos hW) h).1 hy)⟩, fun hx => by simp at hx, fun _ => hP⟩⟩
theorem jud_err {W : LWorld} {f : Ltl} {err : Int} (h : err ≠ 0) (hg : chkE W = 0 → (chkF f 1 0).1 = 0 → (makeT (notT f)).2 = 0 → False) : JudE W f [] [] false err :=
  ⟨fun _ => ⟨rfl, rfl, rfl⟩, fun a b c => (hg a b c).elim, fun h0 => absurd h0 h⟩
set_option maxHeartbeats 1000000 in
theorem jHolds_ok (w0 : World) {vf : Value} {W : LWorld} {f : Ltl} {o1 o2 o3 o4 : Option Addr} {c1 c2 c3 c4 : Nat} (h1 : Sl w0 (Old w0) o1 c1 W.1) (h2 : Sl w0 (Old w0) o2 c2 W.2.1) (h3 : Sl w0 (Old w0) o3 c3 W.2.2.1) (h4 : Sl w0 (Old w0) o4 c4 W.2.2.2) (hf : RL w0 vf f)
    (sW : ∀ j, (W.2.1.getD j []).length ≤ 1048576) (tW : W.1.length ≤ 1048576) :
    Rt Try.prog 37 [worldV o1 c1 o2 c2 o3 c3 o4 c4 W.1.length W.2.1.length W.2.2.1.length W.2.2.2.length, vf].toArray w0 fun v w' => (∃ s l is err so sc lo lc, v = .tuple ⟨[pathV so sc lo lc s l, .bool is, .int .i64 err]⟩ ∧ Sl w' (Old w') so sc s ∧ Sl w' (Old w') lo lc l ∧ JudE W f s l is err) ∧ Ext w0 w' := by
  have hm3 := h3.len63
  obtain ⟨ko, kc, rfl, hk⟩ := Rd.ltl hf
  refine Rt.enter2 Try.func37 Try.ntmps37 rfl rfl ?_
  have hE := Ext.refl w0
  (repeat (first | (apply CW.seq) | (apply CW.region)))
  refine WL.boxB rfl rfl rfl fun w1 hb2 e1 => ?_
  have hE := hE.trans e1
  skip
  refine WL.boxB rfl rfl rfl fun w2 hb3 e2 => ?_
  have hb2 := hb2.ext e2
  have hE := hE.trans e2
  skip
  refine WL.alloc rfl rfl (fun w3 hb4 e3 => ?_)
  have hb2 := hb2.ext e3
  have hb3 := hb3.ext e3
  have l2 := hE.size
  have hE := hE.trans e3
  have l4 := hb4.lt
  (repeat (first | (apply WL.pure; rfl; rfl; rfl) | (apply WL.nil) | (apply EX.thenN) | (apply CW.seq) | (apply CW.region) | (apply WL.ldA; rfl; rfl; rfl; assumption; rfl)))
  refine WL.call rfl rfl rfl (wCheck_ok w3 (h1.up hE) (h2.up hE) hm3 (h4.up hE)) ?_
  rintro _ w4 ⟨rfl, e4⟩
  have hb2 := hb2.ext e4
  have hb3 := hb3.ext e4
  have hb4 := hb4.ext e4
  have hE := hE.trans e4
  clear e1 e2 e3
  (repeat (first | (apply WL.pure; rfl; rfl; rfl) | (apply WL.nil) | (apply EX.thenN) | (apply CW.seq) | (apply CW.region)))
  refine CW.cond rfl (fun h => ?_) (fun h => ?_)
  · have h : chkE W ≠ 0 := by simpa using h
    (repeat (first | (apply CW.seq) | (apply CW.region)))
    refine WL.build (parts := []) rfl rfl rfl rfl ?_
    (repeat (apply WL.pure; rfl; rfl; rfl))
    refine WL.st rfl rfl rfl hb4 rfl rfl (ones_of rfl) (fun w5 hb5 hg5 => ?_)
    have hE5 : Ext w0 w5 := hE.grown hg5 hE.size (fun g hg => by cases hg; omega)
    (repeat (first | (apply WL.pure; rfl; rfl; rfl) | (apply WL.nil) | (apply EX.thenN) | (apply CW.ret) | (apply EX.thenR)))
    exact EX.retCE rfl rfl rfl rfl hb5 rfl ⟨⟨[], [], false, _, _, _, _, _, rfl, Sl.zero w5 _, Sl.zero w5 _, jud_err h (fun h' _ _ => h h')⟩, hE5⟩
  have hW : chkE W = 0 := by simpa using h
  clear h
  (repeat (first | (apply EX.thenN) | (apply CW.seq) | (apply CW.region) | (apply WL.ldA; rfl; rfl; rfl; assumption; rfl) | (apply CW.skip)))
  refine WL.call rfl rfl rfl (ltlCheck w4 (hk.up hE) (fun _ h => h)) ?_
  rintro _ w5 ⟨rfl, e5⟩
  have hb2 := hb2.ext e5
  have hb3 := hb3.ext e5
  have hb4 := hb4.ext e5
  have hE := hE.trans e5
  (repeat (first | (apply WL.pure; rfl; rfl; rfl) | (apply WL.nil) | (apply EX.thenN) | (apply CW.seq) | (apply CW.region)))
  refine CW.cond rfl (fun h => ?_) (fun h => ?_)
  · have h : (chkF f 1 0).1 ≠ 0 := by simpa using h
    (repeat (first | (apply CW.seq) | (apply CW.region)))
    refine WL.build (parts := []) rfl rfl rfl rfl ?_
    (repeat (apply WL.pure; rfl; rfl; rfl))
    refine WL.st rfl rfl rfl hb4 rfl rfl (ones_of rfl) (fun w6 hb6 hg6 => ?_)
    have hE6 : Ext w0 w6 := hE.grown hg6 hE.size (fun g hg => by cases hg; omega)
    (repeat (first | (apply WL.pure; rfl; rfl; rfl) | (apply WL.nil) | (apply EX.thenN) | (apply CW.ret) | (apply EX.thenR)))
    exact EX.retCE rfl rfl rfl rfl hb6 rfl ⟨⟨[], [], false, _, _, _, _, _, rfl, Sl.zero w6 _, Sl.zero w6 _, jud_err h (fun _ h' _ => h h')⟩, hE6⟩
  have hcf : (chkF f 1 0).1 = 0 := by simpa using h
  clear h
  (repeat (first | (apply EX.thenN) | (apply CW.seq) | (apply CW.region) | (apply WL.ldA; rfl; rfl; rfl; assumption; rfl) | (apply CW.skip)))
  refine WL.litR [f] rfl rfl rfl rfl rfl ⟨RL.ext hf hE, trivial⟩ (by show 1 * 3 ≤ 16777216; decide) (fun u w6 e6 hu _ => ?_)
  obtain ⟨fo, fc, rfl, hfs⟩ := hu.sl
  skip
  refine WL.build (parts := [(0, _), (2, _)]) rfl rfl rfl rfl ?_
  skip
  refine WL.call rfl rfl rfl (Make_ok w6 (t := notT f) hfs) ?_
  rintro _ w7 ⟨⟨rv, rfl, hr⟩, e7⟩
  have e57 := e6.trans e7
  have hb2 := hb2.ext e57
  have hb3 := hb3.ext e57
  have hb4 := hb4.ext e57
  have hE := hE.trans e57
  have hsz := makeT_size (notT f)
  have hfd := fun s l is err => jud_found (W := W) (s := s) (l := l) (is := is) (err := err) hcf
  have hje := fun err h => jud_err (W := W) (f := f) (err := err) h
  obtain ⟨q1, f1, q2, f2, q3, f3, q4, f4, q5, f5, rfl, p1, p2, p3, p4, p5⟩ := hr.ok
  generalize (makeT (notT f)).2 = e at *
  generalize (makeT (notT f)).1 = A at *
  clear hr
  (repeat (apply WL.pure; rfl; rfl; rfl))
  refine WL.alloc rfl rfl (fun w8 hb9 e8 => ?_)
  skip
  refine WL.st rfl rfl rfl hb9 rfl rfl (ones_of rfl) (fun w9 hb9 hg9 => ?_)
  have e9 : Ext w7 w9 := e8.grown hg9 e8.size (fun g hg => by cases hg; exact Nat.le_refl _)
  have hb2 := hb2.ext e9
  have hb4 := hb4.ext e9
  have hE := hE.trans e9
  have hA : AutoAt w9 (Old w9) _ A := ⟨q1, f1, q2, f2, q3, f3, q4, f4, q5, f5, rfl, p1.up e9, p2.up e9, p3.up e9, p4.up e9, p5.up e9⟩
  clear e4 e5 e6 e7 e57 e8 e9 hg9 p1 p2 p3 p4 p5 hfs hu hb3
  (repeat (first | (apply WL.pure; rfl; rfl; rfl) | (apply WL.nil) | (apply EX.thenN) | (apply CW.seq) | (apply CW.region)))
  refine CW.cond rfl (fun h => ?_) (fun h => ?_)
  · have h : e ≠ 0 := by simpa using h
    (repeat (first | (apply CW.seq) | (apply CW.region)))
    refine WL.build (parts := []) rfl rfl rfl rfl ?_
    (repeat (apply WL.pure; rfl; rfl; rfl))
    refine WL.st rfl rfl rfl hb4 rfl rfl (ones_of rfl) (fun w10 hb10 hg10 => ?_)
    have hE10 : Ext w0 w10 := hE.grown hg10 hE.size (fun g hg => by cases hg; omega)
    (repeat (first | (apply WL.pure; rfl; rfl; rfl) | (apply WL.nil) | (apply EX.thenN) | (apply CW.ret) | (apply EX.thenR)))
    exact EX.retCE rfl rfl rfl rfl hb10 rfl ⟨⟨[], [], false, _, _, _, _, _, rfl, Sl.zero w10 _, Sl.zero w10 _, hje _ h (fun _ _ h' => h h')⟩, hE10⟩
  have he : e = 0 := by simpa using h
  clear h
  (repeat (first | (apply EX.thenN) | (apply CW.seq) | (apply CW.region) | (apply WL.ldA; rfl; rfl; rfl; assumption; rfl) | (apply CW.skip)))
  refine WL.call rfl rfl rfl (find_ok w9 (W := W) (A := A) (h1.up hE) (h2.up hE) (h3.up hE) (h4.up hE) hA sW hsz.2.1 tW hsz.2.2) ?_
  rintro _ w10 ⟨⟨s, l, is, err, so, sc, lo, lc, rfl, hs, hl, hF⟩, e10⟩
  have hb4 := hb4.ext e10
  have hE := hE.trans e10
  (repeat (apply WL.pure; rfl; rfl; rfl))
  refine WL.alloc rfl rfl (fun w11 hb11 e11 => ?_)
  skip
  refine WL.st rfl rfl rfl hb11 rfl rfl (ones_of rfl) (fun w12 hb11 hg12 => ?_)
  have e12 : Ext w10 w12 := e11.grown hg12 e11.size (fun g hg => by cases hg; exact Nat.le_refl _)
  have hb4 := hb4.ext e12
  have hE := hE.trans e12
  have hs := hs.up e12
  have hl := hl.up e12
  have hJ := hfd s l is err he hF
  clear e11 hg12 hfd hje hF
  have z4 : w2.heap.size < w12.heap.size := hb4.lt
  cases is <;> by_cases h0 : err = 0
  all_goals
    first
      | rw [show decide (err = 0) = true by simpa using h0] at hJ
      | rw [show decide (err = 0) = false by simpa using h0] at hJ
    first
      | have hbe : (err == 0) = true := by simpa using h0
      | have hbe : (err == 0) = false := by simpa using h0
    (repeat (first | (apply WL.pure; rfl; rfl; rfl) | (apply WL.nil) | (apply EX.thenN) | (apply CW.seq) | (apply CW.region) | (apply WL.pass; rfl; rfl) | (apply WL.ldA; rfl; rfl; rfl; assumption; rfl)))
    try rw [hbe]
    skip
    refine WL.st rfl rfl rfl hb4 rfl rfl (ones_of rfl) (fun w13 hb13 hg13 => ?_)
    have hE13 : Ext w0 w13 := hE.grown hg13 hE.size (fun g hg => by cases hg; omega)
    have hne2 : ∀ {ao : Option Addr} {cap : Nat} {xs : List Int}, Sl w12 (Old w12) ao cap xs → Sl w13 (Old w13) ao cap xs := fun h => (h.notB hb4 (fun k x => by
      match k with
      | 0 => simp
      | 1 => simp
      | k + 2 => simp)).mono (fun b hb => hg13.block b hb.1 (fun e => hb.2 (Option.some.inj e))) (fun b hb => Nat.lt_of_lt_of_le hb.1 hg13.size)
    (repeat (first | (apply WL.pure; rfl; rfl; rfl) | (apply WL.nil) | (apply EX.thenN) | (apply CW.ret)))
    exact EX.retCE rfl rfl rfl rfl hb13 rfl ⟨⟨s, l, _, err, _, _, _, _, rfl, hne2 hs, hne2 hl, hJ⟩, hE13⟩
end Go.Proofs.Ytllpfgcngokhnaa

/-
  Package world: where fair ways begin: plain laws, and Fair walked.
-/
set_option linter.unusedVariables false
set_option linter.unusedSimpArgs false
namespace Go.Proofs.Ytllpfgcngokhnaa
open Go.RowKit

theorem repT {n k : Nat} (h : k < n) : (List.replicate n true).getD k false = true := by
  rw [List.getD_eq_getElem?_getD, List.getElem?_replicate, if_pos h]; rfl
noncomputable abbrev allB (nx fr : Graph) : List Bool := withinB nx (List.replicate nx.length true) fr
theorem all_edge {nx : Graph} (hok : okG nx) {u v : Nat} : Eg (inG nx (List.replicate nx.length true)) u v ↔ Eg nx u v := by
  rw [inG_edge]
  exact ⟨fun h => h.1, fun h => ⟨h, repT h.lt1, repT (h.lt hok)⟩⟩
theorem allB_iff {nx fr : Graph} (hok : okG nx) {n : Nat} (h : n < nx.length) : (allB nx fr).getD n false = true ↔ ∃ r, r 0 = n ∧ Way8 (Eg nx) (setPs fr) r := by
  rw [withinB_iff h, show Eg (inG nx (List.replicate nx.length true)) = Eg nx from funext fun u => funext fun v => propext (all_edge hok)]
theorem Fair_ok (w0 : World) {a1 a2 a3 a4 : Option Addr} {c1 c2 c3 c4 k : Nat} {st : List Int} {nx fr : Graph} (h1 : Sl w0 (Old w0) a1 c1 st) (h2 : Sl w0 (Old w0) a2 c2 nx) (hk : k ≤ 9223372036854775807) (h4 : Sl w0 (Old w0) a4 c4 fr) (hT : edges nx ≤ 8589934592) :
    Rt Try.prog 39 [worldV a1 c1 a2 c2 a3 c3 a4 c4 st.length nx.length k fr.length].toArray w0 fun v w' => ∃ x, v = .tuple ⟨[x, .int .i64 (chkWd st nx k fr)]⟩ ∧ Own w' w0.heap.size 4 Non x (if chkWd st nx k fr = 0 then allB nx fr else []) ∧ Ext w0 w' := by
  have hm2 := h2.len63
  refine Rt.enter1 Try.func39 Try.ntmps39 rfl rfl ?_
  have hE := Ext.refl w0
  (repeat (first | (apply CW.seq) | (apply CW.region)))
  refine WL.boxB rfl rfl rfl fun w1 hb1 e1 => ?_
  have hE := hE.trans e1
  (repeat (first | (apply WL.pure; rfl; rfl; rfl) | (apply WL.nil) | (apply EX.thenN) | (apply CW.seq) | (apply CW.region) | (apply WL.ldA; rfl; rfl; rfl; assumption; rfl)))
  refine WL.call rfl rfl rfl (wCheck_ok w1 (h1.up hE) (h2.up hE) hk (h4.up hE)) ?_
  rintro _ w2 ⟨rfl, e2⟩
  have hb1 := hb1.ext e2
  have hE := hE.trans e2
  (repeat (first | (apply WL.pure; rfl; rfl; rfl) | (apply WL.nil) | (apply EX.thenN) | (apply CW.seq) | (apply CW.region)))
  refine CW.cond rfl (fun h => ?_) (fun h => ?_)
  · have h : chkWd st nx k fr ≠ 0 := by simpa using h
    (repeat (first | (apply WL.pure; rfl; rfl; rfl) | (apply WL.nil) | (apply EX.thenN) | (apply CW.seq) | (apply CW.region) | (apply CW.ret) | (apply EX.thenR)))
    exact EX.ret2 rfl rfl rfl ⟨_, rfl, by rw [if_neg h]; exact Own.nil, hE⟩
  have h : chkWd st nx k fr = 0 := by simpa using h
  obtain ⟨hn600, hf80, hkn, hokst, hoknx, hokfr⟩ := chkWd_ok h
  have hok : okG nx := fun r hr => (hoknx r hr).2
  rw [if_pos h, h]
  (repeat (first | (apply EX.thenN) | (apply CW.seq) | (apply CW.region) | (apply WL.lenS; rfl; rfl; rfl) | (apply WL.fa; rfl; rfl; rfl) | (apply WL.ld; rfl; rfl; rfl; assumption; rfl) | (apply CW.skip)))
  refine WL.make (α := Bool) rfl rfl rfl rfl (by omega) (by unfold maxLen; omega) (fun w3 ho3 hg3 => ?_)
  have e3 : Ext w2 w3 := (Below.refl _ _).grown hg3 (Nat.le_refl _) (fun k h => by cases h)
  generalize hsv : Value.slice (some ⟨w2.heap.size, 0, none⟩) nx.length nx.length = sv at *
  have hlv : ∃ ao cap, sv = .slice ao nx.length cap := ⟨_, _, hsv.symm⟩
  (repeat (first | (apply WL.pure; rfl; rfl; rfl) | (apply WL.nil) | (apply EX.thenN) | (apply CW.seq) | (apply CW.region) | (apply CW.block) | (refine WL.lenO rfl rfl rfl (by assumption) ?_)))
  rw [List.length_replicate]
  refine CW.loop (S := Nat × List Bool) (fun s => [(1, .pointer (some ⟨w0.heap.size, 0, none⟩)), (5, sv), (17, .int .i64 nx.length), (18, .int .i64 s.1)])
    (fun s w => s.1 ≤ nx.length ∧ Own w w2.heap.size 4 Non sv s.2 ∧ s.2.length = nx.length ∧ (∀ c, c < s.1 → s.2.getD c false = true) ∧ Ext w2 w) (fun s => nx.length - s.1) (0, List.replicate nx.length false) (by repeat (first | exact trivial | refine ⟨rfl, ?_⟩)) ⟨Nat.zero_le _, ho3, by simp, fun c hc => absurd hc (by dsimp only; omega), e3⟩ ?_
  rintro ⟨i, inn⟩ w4 ⟨hi, ho, hil, hin, e4⟩
  dsimp only at hi ho hil hin ⊢
  have hE4 := hE.trans e4
  have hb4 := hb1.ext e4
  (repeat (first | (apply WL.pure; rfl; rfl; rfl) | (apply WL.nil) | (apply EX.thenN) | (apply CW.seq) | (apply CW.region)))
  refine CW.cond rfl (fun h => ?_) (fun h => ?_)
  · have hi' : i < nx.length := by simp at h; omega
    (repeat (first | (apply WL.pure; rfl; rfl; rfl) | (apply WL.nil) | (apply EX.thenN) | (apply CW.seq) | (apply CW.region) | (apply CW.block) | (apply CW.skip)))
    refine WL.setN (u := .bool true) (yv := true) rfl rfl rfl rfl ho (show i < inn.length by omega) (fun _ => rfl) (fun _ => rfl) (Rd.mkBool _ _ _) (fun w5 q2 ho5 hg5 => ?_)
    have e5 : Ext w2 w5 := e4.grown hg5 e4.size (fun b hb => (ho.lt b hb).1)
    (repeat (first | (apply WL.add; rfl; rfl; rfl; rfl; omega; omega) | (apply WL.pure; rfl; rfl; rfl) | (apply WL.nil) | (apply EX.thenN) | (apply CW.region) | (apply EX.inN)))
    refine EX.back (i + 1, inn.set i true) (by repeat (first | exact trivial | refine ⟨rfl, ?_⟩)) ⟨hi', ho5, by simpa using hil, fun c hc => ?_, e5⟩ (by dsimp only; omega)
    dsimp only at hc ⊢
    rw [getD_set (by omega)]
    by_cases e : i = c
    · rw [if_pos e]
    · rw [if_neg e]; exact hin c (by omega)
  obtain rfl : i = nx.length := by simp at h; omega
  have hrep : inn = List.replicate nx.length true := by
    refine List.ext_getElem (by simpa using hil) fun c h1 h2 => ?_
    rw [← wgetB h1, List.getElem_replicate]
    exact hin c (by omega)
  subst hrep
  obtain ⟨io, ic, hiv, his⟩ := ho.oldN.sl
  subst hiv
  (repeat (first | (apply WL.pure; rfl; rfl; rfl) | (apply EX.thenN) | (apply CW.seq) | (apply CW.region) | (apply WL.ldA; rfl; rfl; rfl; assumption; rfl) | (apply CW.exit) | (apply EX.thenX) | (apply EX.inX)))
  refine WL.call rfl rfl rfl (Within_ok w4 (h2.up hE4) (h4.up hE4) his hok hokfr (by simp) hn600 hT) ?_
  rintro v w5 ⟨hov, e5⟩
  (repeat (first | (apply WL.pure; rfl; rfl; rfl) | (apply WL.nil) | (apply EX.thenN) | (apply CW.ret)))
  exact EX.ret2 rfl rfl rfl ⟨_, rfl, hov.low hE4.size, hE4.trans e5⟩
end Go.Proofs.Ytllpfgcngokhnaa

/-
  Drawn regions with a chain of changes of memory and one more change (e) that may come anywhere among them. Over any program.
-/
set_option linter.unusedVariables false
set_option linter.unusedSimpArgs false
namespace Go.Proofs.Ytllpfgcngokhnaa
open Go.RowKit

def wpChain (P : Program) (ops : List Oper) (S : World → Prop) (Q : Act → World → Prop) (e : Nat) (r : List (Nat × Bool)) : List Nat → Act → World → Prop
  | [], a, w => wpHL P ops S Q ((e, false) :: r) a w
  | i :: c, a, w => (∃ o, ops[i]? = some o ∧ (if Region.wanted o (yielded ops.toArray a.tmps) = true then o.wp P a w (fun a' w' => S w' ∧ wpChain P ops S Q e r c a' w') (fun x a w => x = .normal ∧ Q a w) else S w ∧ wpChain P ops S Q e r c (a.put o.dst undef) w)) ∧
      wpHL P ops S Q ((e, false) :: ((i :: c).map (fun j => (j, false)) ++ r)) a w
def ChainQ (P : Program) (ops : List Oper) (S : World → Prop) (Q : Exit → Act → World → Prop) (e : Nat) (c : List Nat) (r : List (Nat × Bool)) : Exit → Act → World → Prop :=
  fun x a w => x = .normal ∧ (S w ∧ wpChain P ops S (fun a w => Q .normal a w) e r c a w)
section
variable {P : Program} {Q : Exit → Act → World → Prop} {n : Nat} {σ : Sg} {w : World} {L : List Oper} {S : World → Prop}
/-- the chain's next, or e -/
theorem EX.chain {e i : Nat} {c : List Nat} {r : List (Nat × Bool)} {o : Oper} (hS : S w) (ho : nthO L i = some o) (h1 : WL P L (ChainQ P L S Q e c r) [o] n σ w) (h2 : HL P L S Q ((e, false) :: ((i :: c).map (fun j => (j, false)) ++ r)) n σ w) : EX (ChainQ P L S Q e (i :: c) r) .normal n σ w := by
  unfold EX; unfold WL at h1; unfold HL at h2
  intro a ha
  refine ⟨rfl, hS, ?_, h2 a ha⟩
  rw [nthO_eq] at ho
  refine ⟨o, ho, ?_⟩
  have h2 : wpList P L.toArray (ChainQ P L S Q e c r) [o] a w := h1 a ha
  simp only [wpList] at h2
  split
  · rename_i hw
    rw [if_pos hw] at h2
    rcases h2 with h2 | ⟨_, hlets⟩
    · unfold Oper.wp at *
      generalize (execOp a.eval o).run P w = r at *
      cases r with
      | ok k w' =>
        cases k <;> simp only [Oper.upon] at h2 ⊢ <;> first
          | exact h2.2
          | exact h2
          | (refine Calls.mono h2 (fun e w'' he => ?_); cases e <;> first | exact he.2 | (exact absurd he.1 (by simp)) | (obtain ⟨_, _, hx⟩ := he; exact absurd hx.1 (by simp)))
          | exact Rows.mono h2 (fun _ _ he => he.2)
      | halt x w' => cases x <;> simp only [Oper.upon] at h2 ⊢ <;> first | exact h2 | (exact absurd h2.1 (by simp))
    · obtain ⟨_, _, hx⟩ := hlets
      exact absurd hx.1 (by simp)
  · rename_i hw
    rw [if_neg hw] at h2
    exact h2.2
theorem HL.sub {τ : Sg} {ord : List (Nat × Bool)} (hs : Sub τ σ) (h : HL P L S Q ord n τ w) : HL P L S Q ord n σ w := by
  unfold HL at *
  exact fun a ha => h a (ha.sub hs)
end
end Go.Proofs.Ytllpfgcngokhnaa

/-
  As XChain, where reads that may come anywhere stand in the chain too. Over any program.
-/
set_option linter.unusedVariables false
set_option linter.unusedSimpArgs false
namespace Go.Proofs.Ytllpfgcngokhnaa
open Go.RowKit

def chnFB (ops : Array Oper) (e : Nat) (r : List (Nat × Bool)) : List (Nat × Bool) → Array Bool → Bool
  | [], listed => ordB ops ((e, false) :: r) listed
  | (i, true) :: c, listed => (Region.ready .any ops listed).contains i && Region.free .any ops listed i && chnFB ops e r c (listed.setIfInBounds i true)
  | (i, false) :: c, listed => (Region.ready .any ops listed).all (fun j => j == i || j == e) && !(Region.ready .any ops listed).isEmpty && chnFB ops e r c (listed.setIfInBounds i true) &&
      ordB ops ((i, false) :: c ++ r) (listed.setIfInBounds e true)
def chainFOk (l : List Oper) (e : Nat) (c : List (Nat × Bool)) (r : List (Nat × Bool)) : Bool :=
  Region.noSelect l.toArray && decide ((c.length + 1) + r.length = l.length) && chnFB l.toArray e r c (Array.replicate l.length false)
def wpChF (P : Program) (ops : List Oper) (S : World → Prop) (Q : Act → World → Prop) (e : Nat) (r : List (Nat × Bool)) : List (Nat × Bool) → Act → World → Prop
  | [], a, w => wpHL P ops S Q ((e, false) :: r) a w
  | (i, true) :: c, a, w => ∃ o v, ops[i]? = some o ∧ YieldsIf P ops.toArray S o v a ∧ wpChF P ops S Q e r c (a.put o.dst v) w
  | (i, false) :: c, a, w => (∃ o, ops[i]? = some o ∧ (if Region.wanted o (yielded ops.toArray a.tmps) = true then o.wp P a w (fun a' w' => S w' ∧ wpChF P ops S Q e r c a' w') (fun x a w => x = .normal ∧ Q a w) else S w ∧ wpChF P ops S Q e r c (a.put o.dst undef) w)) ∧
      wpHL P ops S Q ((e, false) :: ((i, false) :: c ++ r)) a w
theorem wpChF_sound {P : Program} {ops : List Oper} {S : World → Prop} {Q : Act → World → Prop} (hs : Region.noSelect ops.toArray = true) (e : Nat) (r : List (Nat × Bool)) :
    ∀ (c : List (Nat × Bool)) (listed : Array Bool) (a : Act) (w : World), chnFB ops.toArray e r c listed = true → S w → wpChF P ops S Q e r c a w → wpAnyH P .any ops.toArray (fun x a w => x = .normal ∧ Q a w) S (r.length + (c.length + 1)) listed a w
  | [], listed, a, w, hB, hS, h => by
    have := wpHL_sound (Q := Q) hs ((e, false) :: r) listed a w hB hS h
    simpa using this
  | (i, true) :: c, listed, a, w, hB, hS, ⟨o, v, ho, hy, h⟩ => by
    simp only [chnFB, Bool.and_eq_true] at hB
    have := wpAnyH_take (fuel := r.length + (c.length + 1)) (by simpa using ho) hs hB.1.2 hB.1.1 (fun _ _ _ h => by cases h.1) hy hS (wpChF_sound hs e r c _ _ _ hB.2 hS h)
    rw [show r.length + (((i, true) :: c).length + 1) = (r.length + (c.length + 1)) + 1 by simp; omega]
    exact this
  | (i, false) :: c, listed, a, w, hB, hS, ⟨⟨o, ho, h⟩, ⟨oe, hoe, he⟩⟩ => by
    simp only [chnFB, Bool.and_eq_true, List.all_eq_true, Bool.not_eq_true', List.isEmpty_eq_false_iff, Bool.or_eq_true, beq_iff_eq] at hB
    obtain ⟨⟨⟨hin, hne⟩, hrec⟩, hord⟩ := hB
    have hlen : r.length + (((i, false) :: c).length + 1) = (r.length + (c.length + 1)) + 1 := by simp; omega
    rw [hlen]
    refine wpAnyH_all rfl hne ?_
    intro j hj
    by_cases hji : j = i
    · subst hji
      have ho' : ops.toArray[j]? = some o := by simpa using ho
      unfold wpOp
      simp only [ho']
      split
      · rename_i hw
        rw [if_pos hw] at h
        exact .inl (Oper.wp_mono (fun a' w' h' => ⟨h'.1, wpChF_sound hs e r c _ _ _ hrec h'.1 h'.2⟩) (wp_exits (fun x a w hne hf => absurd hf.1 hne) h))
      · rename_i hw
        rw [if_neg hw] at h
        exact ⟨h.1, wpChF_sound hs e r c _ _ _ hrec h.1 h.2⟩
    · have hje : j = e := (hin j hj).resolve_left hji
      subst hje
      have ho' : ops.toArray[j]? = some oe := by simpa using hoe
      have hl2 : ((i, false) :: c ++ r).length = r.length + (c.length + 1) := by simp; omega
      unfold wpOp
      simp only [ho']
      split
      · rename_i hw
        rw [if_pos hw] at he
        refine .inl (Oper.wp_mono (fun a' w' h' => ⟨h'.1, ?_⟩) (wp_exits (fun x a w hne hf => absurd hf.1 hne) he))
        have := wpHL_sound (Q := Q) hs _ _ a' w' hord h'.1 h'.2
        rw [hl2] at this
        exact this
      · rename_i hw
        rw [if_neg hw] at he
        refine ⟨he.1, ?_⟩
        have := wpHL_sound (Q := Q) hs _ _ _ w hord he.1 he.2
        rw [hl2] at this
        exact this
def allT2 : List (Nat × Bool) → Bool
  | [] => true
  | (_, b) :: r => b && allT2 r
def ChFQ (P : Program) (ops : List Oper) (S : World → Prop) (Q : Exit → Act → World → Prop) (e : Nat) (c : List (Nat × Bool)) (r : List (Nat × Bool)) : Exit → Act → World → Prop :=
  fun x a w => x = .normal ∧ (S w ∧ wpChF P ops S (fun a w => Q .normal a w) e r c a w)
theorem wpChF_reads {P : Program} {L : List Oper} {S : World → Prop} {Q K : Act → World → Prop} {e : Nat} {c r : List (Nat × Bool)} (hK : ∀ a w, K a w → wpChF P L S Q e r c a w) : ∀ (s : List (Nat × Bool)) (a : Act) (w : World), allT2 s = true → wpHL P L S K s a w → wpChF P L S Q e r (s ++ c) a w
  | [], a, w, _, h => hK _ _ h
  | (i, true) :: s, a, w, hT, ⟨o, v, ho, hy, h⟩ => ⟨o, v, ho, hy, wpChF_reads hK s _ _ (by simpa [allT2] using hT) h⟩
  | (i, false) :: s, a, w, hT, _ => by simp [allT2] at hT
section
variable {P : Program} {Q : Exit → Act → World → Prop} {n : Nat} {σ : Sg} {w : World} {L : List Oper} {S : World → Prop}
theorem CW.drawCF {id : Nat} (S : World → Prop) (e : Nat) (c : List (Nat × Bool)) (r : List (Nat × Bool)) (hm : P.follows .mixedOrders = true) (hB : chainFOk L e c r = true) (hS : S (drew w)) (h : EX (ChFQ P L S Q e c r) .normal n σ (drew w)) : CW P (.region id L.toArray true) Q n σ w := by
  unfold CW; unfold EX at h; intro a ha
  simp only [chainFOk, Bool.and_eq_true, decide_eq_true_eq] at hB
  obtain ⟨⟨hs, hl⟩, hB⟩ := hB
  obtain ⟨_, _, h0⟩ := h a ha
  have h1 := wpChF_sound hs e r c (Array.replicate L.length false) a (Go.Proofs.Ytllpfgcngokhnaa.drew w) hB hS h0
  rw [show r.length + (c.length + 1) = L.length by omega] at h1
  have h2 := wp_region_held (id := id) (S := S) hm (w := w) (ops := L.toArray) (by simpa using h1)
  exact wp_mono h2 (fun x a' w' ⟨he, hq⟩ => by subst he; exact hq)
/-- reads that may come anywhere -/
theorem EX.chFT {e : Nat} (s : List (Nat × Bool)) {c r : List (Nat × Bool)} (hT : allT2 s = true) (hS : S w) (h : HL P L S (ChFQ P L S Q e c r) s n σ w) : EX (ChFQ P L S Q e (s ++ c) r) .normal n σ w := by
  unfold EX; unfold HL at h
  intro a ha
  exact ⟨rfl, hS, wpChF_reads (fun a w h => h.2.2) s a w hT (h a ha)⟩
/-- the chain's next, or e -/
theorem EX.chF {e i : Nat} {c : List (Nat × Bool)} {r : List (Nat × Bool)} {o : Oper} (hS : S w) (ho : nthO L i = some o) (h1 : WL P L (ChFQ P L S Q e c r) [o] n σ w) (h2 : HL P L S Q ((e, false) :: ((i, false) :: c ++ r)) n σ w) : EX (ChFQ P L S Q e ((i, false) :: c) r) .normal n σ w := by
  unfold EX; unfold WL at h1; unfold HL at h2
  intro a ha
  refine ⟨rfl, hS, ?_, h2 a ha⟩
  rw [nthO_eq] at ho
  refine ⟨o, ho, ?_⟩
  have h2 : wpList P L.toArray (ChFQ P L S Q e c r) [o] a w := h1 a ha
  simp only [wpList] at h2
  split
  · rename_i hw
    rw [if_pos hw] at h2
    rcases h2 with h2 | ⟨_, hlets⟩
    · unfold Oper.wp at *
      generalize (execOp a.eval o).run P w = r at *
      cases r with
      | ok k w' =>
        cases k <;> simp only [Oper.upon] at h2 ⊢ <;> first
          | exact h2.2
          | exact h2
          | (refine Calls.mono h2 (fun e w'' he => ?_); cases e <;> first | exact he.2 | (exact absurd he.1 (by simp)) | (obtain ⟨_, _, hx⟩ := he; exact absurd hx.1 (by simp)))
          | exact Rows.mono h2 (fun _ _ he => he.2)
      | halt x w' => cases x <;> simp only [Oper.upon] at h2 ⊢ <;> first | exact h2 | (exact absurd h2.1 (by simp))
    · obtain ⟨_, _, hx⟩ := hlets
      exact absurd hx.1 (by simp)
  · rename_i hw
    rw [if_neg hw] at h2
    exact h2.2
theorem EX.chF0 {e : Nat} {r : List (Nat × Bool)} (hS : S w) (h : HL P L S Q ((e, false) :: r) n σ w) : EX (ChFQ P L S Q e [] r) .normal n σ w := by
  unfold EX; unfold HL at h
  exact fun a ha => ⟨rfl, hS, h a ha⟩
end
end Go.Proofs.Ytllpfgcngokhnaa

/-
  JudgeJoins: walked.
-/
set_option linter.unusedVariables false
set_option linter.unusedSimpArgs false
namespace Go.Proofs.Ytllpfgcngokhnaa
open Go.RowKit

theorem gf_chk : (chkF gfT 1 0).1 = 0 := by decide +kernel
theorem gf_nmake : (makeT (notT gfT)).2 = 0 := by decide +kernel
theorem turns_gf : AllW turnsW gfT := by
  intro ρ h
  have hlet : ∀ i, ρ i = 0 → turnsW.2.2.1.getD (ρ i) 0 = 1 := fun i hi => by rw [hi]; rfl
  have h2 : ¬ Til (fun _ => True) (fun j => ¬ Til (fun _ => True) (fun j => turnsW.2.2.1.getD (ρ j) 0 >>> (0 : Int).toNat &&& 1 = 1) j) 0 := by
    rintro ⟨j, _, hj, _⟩
    obtain ⟨k, hk, hF⟩ := h.fair [0] (by simp [turnsW]) j
    have h0 : ρ k = 0 := by simpa using hF
    exact hj ⟨k, hk, by show turnsW.2.2.1.getD (ρ k) 0 >>> (0 : Int).toNat &&& 1 = 1; rw [hlet k h0]; decide, fun _ _ _ => trivial⟩
  exact h2
theorem jud_turns_gf {s l : List Int} {is : Bool} {err : Int} (h : JudE turnsW gfT s l is err) : is = true ∧ err = 0 := by
  have he := h.good turns_chk gf_chk gf_nmake
  obtain ⟨_, _, _, _, h1, _, _⟩ := h.ok he
  exact ⟨h1.2 turns_gf, he⟩
theorem all_and {W : LWorld} {f g : Ltl} : AllW W (.mk 5 0 [f, g]) ↔ AllW W f ∧ AllW W g := by
  unfold AllW
  simp only [sem, sems, semK]
  constructor
  · intro h
    refine ⟨fun ρ hρ => ?_, fun ρ hρ => ?_⟩
    · have := h ρ hρ; simp at this; exact this.1
    · have := h ρ hρ; simp at this; exact this.2
  · rintro ⟨h1, h2⟩ ρ hρ
    have a := h1 ρ hρ
    have b := h2 ρ hρ
    simp
    exact ⟨a, b⟩
theorem all_not {W : LWorld} {f : Ltl} (h1 : AllW W f) (h2 : AllW W (notT f)) : ¬ ∃ ρ, WWay W ρ := by
  rintro ⟨ρ, hρ⟩
  exact sem_not.1 (h2 ρ hρ) (h1 ρ hρ)
theorem not_all {W : LWorld} {f : Ltl} (h : ¬ (AllW W f ∧ AllW W (notT f))) : ∃ ρ, WWay W ρ := by
  apply Classical.byContradiction
  intro hn
  exact h ⟨fun ρ hρ => absurd ⟨ρ, hρ⟩ hn, fun ρ hρ => absurd ⟨ρ, hρ⟩ hn⟩
theorem jud_and {W : LWorld} {f g : Ltl} {s1 l1 s2 l2 s3 l3 : List Int} {i1 i2 i3 : Bool} (h1 : JudE W f s1 l1 i1 0) (h2 : JudE W g s2 l2 i2 0) (h3 : JudE W (.mk 5 0 [f, g]) s3 l3 i3 0) : i3 = (i1 && i2) := by
  obtain ⟨_, _, _, _, a1, _, _⟩ := h1.ok rfl
  obtain ⟨_, _, _, _, a2, _, _⟩ := h2.ok rfl
  obtain ⟨_, _, _, _, a3, _, _⟩ := h3.ok rfl
  rw [Bool.eq_iff_iff, Bool.and_eq_true, a1, a2, a3, all_and]
/-- a fair way begins at a first state -/
theorem fair_any {W : LWorld} (hW : chkE W = 0) : (W.1.any fun x => (allB W.2.1 W.2.2.2).getD x.toNat false) = true ↔ ∃ ρ, WWay W ρ := by
  obtain ⟨_, _, _, h1, h2, h3⟩ := chkWd_ok hW
  have hok : okG W.2.1 := fun r hr => (h2 r hr).2
  rw [List.any_eq_true]
  constructor
  · rintro ⟨x, hx, hf⟩
    have hxr := h1 x hx
    rw [allB_iff hok (by omega)] at hf
    obtain ⟨r, h0, hs, hfr⟩ := hf
    refine ⟨r, ?_, fun i => hs i, fun F hF i => hfr _ (List.mem_map_of_mem hF) i⟩
    rw [h0, show ((x.toNat : Nat) : Int) = x by omega]
    exact hx
  · rintro ⟨ρ, hρ⟩
    have hxr := h1 _ hρ.first
    refine ⟨(ρ 0 : Int), hρ.first, ?_⟩
    rw [Int.toNat_natCast, allB_iff hok (by omega)]
    refine ⟨ρ, rfl, hρ.step, fun P hP i => ?_⟩
    obtain ⟨F, hF, rfl⟩ := List.mem_map.1 hP
    exact hρ.fair F hF i
instance iJJ : IsF Try.prog 41 := ⟨_, Try.func41, rfl, by decide⟩
theorem jj1 (w : World) (b : Nat) {io : Option Addr} {ic x : Nat} {l : List Bool} (hb : Blk w b 54 [.slice io l.length ic]) (hl : Sl w (Old w) io ic l) (hx : x < l.length) :
    Rt Try.prog 41 [.int .i64 (x : Int), .pointer (some ⟨b, 0, none⟩)].toArray w fun v w' => v = .bool (l.getD x false) ∧ Ext w w' := by
  refine Rt.enter2 Try.func41 Try.ntmps41 rfl rfl ?_
  (repeat (first | (apply WL.pure; rfl; rfl; rfl) | (apply WL.nil) | (apply EX.thenN) | (apply CW.seq) | (apply CW.region) | (apply WL.ld; rfl; rfl; rfl; assumption; rfl)))
  refine WL.elemB rfl rfl rfl rfl rfl hl hx (wgetB hx).symm (fun _ => rfl) (fun q => ?_)
  (repeat (first | (apply WL.pure; rfl; rfl; rfl) | (apply WL.nil) | (apply EX.thenN) | (apply CW.ret)))
  exact EX.ret1 rfl rfl ⟨rfl, Ext.refl _⟩
set_option maxHeartbeats 2000000 in
theorem JudgeJoins_ok (w0 : World) {vf vg : Value} {W : LWorld} {f g : Ltl} {o1 o2 o3 o4 : Option Addr} {c1 c2 c3 c4 : Nat} (h1 : Sl w0 (Old w0) o1 c1 W.1) (h2 : Sl w0 (Old w0) o2 c2 W.2.1) (h3 : Sl w0 (Old w0) o3 c3 W.2.2.1) (h4 : Sl w0 (Old w0) o4 c4 W.2.2.2) (hf : RL w0 vf f) (hg : RL w0 vg g)
    (sW : ∀ j, (W.2.1.getD j []).length ≤ 1048576) (tW : W.1.length ≤ 1048576) (eW : edges W.2.1 ≤ 8589934592) :
    Rt Try.prog 9 [worldV o1 c1 o2 c2 o3 c3 o4 c4 W.1.length W.2.1.length W.2.2.1.length W.2.2.2.length, vf, vg].toArray w0 fun v w' => v = .bool true ∧ Ext w0 w' := by
  have hm3 := h3.len63
  obtain ⟨ko, kc, rfl, hk⟩ := Rd.ltl hf
  obtain ⟨k2, kc2, rfl, hk2⟩ := Rd.ltl hg
  refine Rt.enter3 Try.func9 Try.ntmps9 rfl rfl ?_
  have hE := Ext.refl w0
  (repeat (first | (apply CW.seq) | (apply CW.region)))
  refine WL.boxB rfl rfl rfl fun w1 hb3 e1 => ?_
  have hE := hE.trans e1
  skip
  refine WL.boxB rfl rfl rfl fun w2 hb4 e2 => ?_
  have hb3 := hb3.ext e2
  have hE := hE.trans e2
  skip
  refine WL.boxB rfl rfl rfl fun w3 hb5 e3 => ?_
  have hb3 := hb3.ext e3
  have hb4 := hb4.ext e3
  have hE := hE.trans e3
  clear e1 e2 e3
  (repeat (first | (apply WL.pure; rfl; rfl; rfl) | (apply WL.nil) | (apply EX.thenN) | (apply CW.seq) | (apply CW.region)))
  refine WL.call rfl rfl rfl (wturns_okL w3) ?_
  rintro _ w4 ⟨⟨p1, q1, p2, q2, p3, q3, p4, q4, rfl, t1, t2, t3, t4⟩, e4⟩
  skip
  refine WL.call rfl rfl rfl (mk_atom w4 0) ?_
  rintro v1 w5 ⟨g1, e5⟩
  skip
  refine WL.call rfl rfl rfl (mk_one w5 10 g1) ?_
  rintro v2 w6 ⟨g2, e6⟩
  skip
  refine WL.call rfl rfl rfl (mk_one w6 11 g2) ?_
  rintro v3 w7 ⟨g3, e7⟩
  have e47 := e5.trans (e6.trans e7)
  skip
  refine WL.call rfl rfl rfl (jHolds_ok w7 (W := turnsW) (f := gfT) (t1.up e47) (t2.up e47) (t3.up e47) (t4.up e47) g3 turnsW_row (by decide)) ?_
  rintro _ w8 ⟨⟨s, l, is, err, so, sc, lo, lc, rfl, hs, hl, hJ⟩, e8⟩
  obtain ⟨rfl, rfl⟩ := jud_turns_gf hJ
  have e38 := e4.trans (e47.trans e8)
  have hb3 := hb3.ext e38
  have hb4 := hb4.ext e38
  have hb5 := hb5.ext e38
  have hE := hE.trans e38
  clear hJ t1 t2 t3 t4 g1 g2 g3 e38 e4 e5 e6 e7 e47 e8
  (repeat (apply WL.pure; rfl; rfl; rfl))
  refine WL.alloc rfl rfl (fun w9 hb7 e9 => ?_)
  skip
  refine WL.st rfl rfl rfl hb7 rfl rfl (ones_of rfl) (fun w10 hb7 hg10 => ?_)
  have e10 : Ext w8 w10 := e9.grown hg10 e9.size (fun g hg => by cases hg; exact Nat.le_refl _)
  have hb3 := hb3.ext e10
  have hb4 := hb4.ext e10
  have hb5 := hb5.ext e10
  have hE := hE.trans e10
  clear e9 hg10 hb7 hs hl e10
  -- the first
  (repeat (first | (apply WL.pure; rfl; rfl; rfl) | (apply WL.nil) | (apply EX.thenN) | (apply CW.seq) | (apply CW.region) | (apply WL.ldA; rfl; rfl; rfl; assumption; rfl) | (apply CW.condF; rfl) | (apply CW.skip)))
  refine WL.call rfl rfl rfl (jHolds_ok w10 (W := W) (f := f) (h1.up hE) (h2.up hE) (h3.up hE) (h4.up hE) (RL.ext hf hE) sW tW) ?_
  rintro _ w11 ⟨⟨s, l, i1, x1, so, sc, lo, lc, rfl, hs, hl, hJ1⟩, e11⟩
  (repeat (apply WL.pure; rfl; rfl; rfl))
  refine WL.alloc rfl rfl (fun w12 hb10 e12 => ?_)
  skip
  refine WL.st rfl rfl rfl hb10 rfl rfl (ones_of rfl) (fun w13 hb10 hg13 => ?_)
  have e13 : Ext w10 w13 := e11.trans (e12.grown hg13 e12.size (fun g hg => by cases hg; exact Nat.le_refl _))
  have hb3 := hb3.ext e13
  have hb4 := hb4.ext e13
  have hb5 := hb5.ext e13
  have hE := hE.trans e13
  clear e11 e12 e13 hg13 hb10 hs hl
  -- the second
  (repeat (first | (apply WL.pure; rfl; rfl; rfl) | (apply WL.nil) | (apply EX.thenN) | (apply CW.seq) | (apply CW.region) | (apply WL.ldA; rfl; rfl; rfl; assumption; rfl)))
  refine WL.call rfl rfl rfl (jHolds_ok w13 (W := W) (f := g) (h1.up hE) (h2.up hE) (h3.up hE) (h4.up hE) (RL.ext hg hE) sW tW) ?_
  rintro _ w14 ⟨⟨s', l', i2, x2, so', sc', lo', lc', rfl, hs, hl, hJ2⟩, e14⟩
  (repeat (apply WL.pure; rfl; rfl; rfl))
  refine WL.alloc rfl rfl (fun w15 hb13 e15 => ?_)
  skip
  refine WL.st rfl rfl rfl hb13 rfl rfl (ones_of rfl) (fun w16 hb13 hg16 => ?_)
  have e16 : Ext w13 w16 := e14.trans (e15.grown hg16 e15.size (fun g hg => by cases hg; exact Nat.le_refl _))
  have hb3 := hb3.ext e16
  have hb4 := hb4.ext e16
  have hb5 := hb5.ext e16
  have hE := hE.trans e16
  clear e14 e15 e16 hg16 hb13 hs hl
  (repeat (apply WL.pure; rfl; rfl; rfl))
  apply WL.nil
  apply EX.thenN
  refine CW.cutI (S := Bool × Int) (fun x => [(3, .pointer (some ⟨w0.heap.size, 0, none⟩)), (4, .pointer (some ⟨w1.heap.size, 0, none⟩)), (11, .bool i1), (12, .int .i64 x1), (14, .bool i2), (15, .int .i64 x2), (17, .bool x.1), (18, .int .i64 x.2)]) (fun x w => Ext w16 w ∧ ∃ s l, JudE W (.mk 5 0 [f, g]) s l x.1 x.2) ?_ ?_
  · skip
    refine CW.drawCF (fun x => Ext w16 x) 9 [(0, true), (1, true), (2, true), (3, false), (4, false), (5, true), (6, true), (7, true), (8, true)] [(10, false), (11, false), (12, false)] mixed (by kernel_rfl) (Ext.drew w16) ?_
    have hSE : ∀ x, (fun x => Ext w16 x) x → Ext w16 x := fun _ h => h
    refine EX.chFT [(0, true), (1, true), (2, true)] rfl (Ext.drew w16) ?_
    (repeat (first | (refine HL.ldA (by assumption) rfl rfl rfl rfl (by assumption) rfl ?_) | (apply HL.nil)))
    refine EX.chF (Ext.drew w16) rfl ?_ ?_
    · skip
      refine WL.call rfl rfl rfl (mk_two (drew w16) 5 (RL.ext hf (hE.trans (Ext.drew w16))) (RL.ext hg (hE.trans (Ext.drew w16)))) ?_
      rintro v1 x1 ⟨k1, y1⟩
      have T1 : Ext w16 x1 := Ext.trans (Ext.drew w16) y1
      have K := k1
      refine WL.nil ?_
      refine EX.chF T1 rfl ?_ ?_
      · skip
        refine WL.call rfl rfl rfl (jHolds_ok x1 (W := W) (f := (.mk 5 0 [f, g])) (h1.up (hE.trans T1)) (h2.up (hE.trans T1)) (h3.up (hE.trans T1)) (h4.up (hE.trans T1)) K sW tW) ?_
        rintro _ x2 ⟨⟨s3, l3, i3, err3, so3, sc3, lo3, lc3, rfl, _, _, hJ3⟩, y2⟩
        have T2 : Ext w16 x2 := Ext.trans T1 y2
        refine WL.nil ?_
        refine EX.chFT [(5, true), (6, true), (7, true), (8, true)] rfl T2 ?_
        (repeat (first | (apply HL.pure; rfl; rfl; rfl; rfl) | (apply HL.nil)))
        refine EX.chF0 T2 ?_
        refine HL.mut rfl (WL.alloc rfl rfl (fun x3 hbx3 ex3 => ?_))
        have T3 : Ext w16 x3 := Ext.trans T2 ex3
        have hgex3 : w16.heap.size ≤ x2.heap.size := Below.size T2
        refine WL.nil (EX.mut T3 ?_)
        refine HL.mut rfl (WL.st rfl rfl rfl hbx3 rfl rfl (ones_of rfl) (fun x4 hbx4 hgx4 => ?_))
        have T4 : Ext w16 x4 := Below.grown T3 hgx4 (Below.size T3) (fun g hg => by cases hg; exact hgex3)
        refine WL.nil (EX.mut T4 ?_)
        refine HL.mut rfl ?_
        (repeat (apply WL.pure; rfl; rfl; rfl))
        refine WL.nil (EX.mut T4 ?_)
        refine HL.mut rfl ?_
        (repeat (apply WL.pure; rfl; rfl; rfl))
        refine WL.nil (EX.mut T4 ?_)
        refine HL.nil ?_
        exact EX.cutI (i3, err3) (by repeat (first | exact trivial | refine ⟨rfl, ?_⟩)) ⟨T4, ⟨s3, l3, hJ3⟩⟩
      · skip
        refine HL.mut rfl (WL.alloc rfl rfl (fun x5 hbx5 ex5 => ?_))
        have T5 : Ext w16 x5 := Ext.trans T1 ex5
        have hgex5 : w16.heap.size ≤ x1.heap.size := Below.size T1
        refine WL.nil (EX.mut T5 ?_)
        have K := RL.ext K ex5
        refine HL.mut rfl ?_
        refine WL.call rfl rfl rfl (jHolds_ok x5 (W := W) (f := (.mk 5 0 [f, g])) (h1.up (hE.trans T5)) (h2.up (hE.trans T5)) (h3.up (hE.trans T5)) (h4.up (hE.trans T5)) K sW tW) ?_
        rintro _ x6 ⟨⟨s3, l3, i3, err3, so3, sc3, lo3, lc3, rfl, _, _, hJ3⟩, y6⟩
        have T6 : Ext w16 x6 := Ext.trans T5 y6
        refine WL.nil ?_
        refine EX.mut T6 ?_
        have hbq := hbx5.ext y6
        (repeat (apply HL.pure; rfl; rfl; rfl; rfl))
        refine HL.mut rfl (WL.st rfl rfl rfl hbq rfl rfl (ones_of rfl) (fun x7 hbx7 hgx7 => ?_))
        have T7 : Ext w16 x7 := Below.grown T6 hgx7 (Below.size T6) (fun g hg => by cases hg; exact hgex5)
        refine WL.nil (EX.mut T7 ?_)
        refine HL.mut rfl ?_
        (repeat (apply WL.pure; rfl; rfl; rfl))
        refine WL.nil (EX.mut T7 ?_)
        refine HL.mut rfl ?_
        (repeat (apply WL.pure; rfl; rfl; rfl))
        refine WL.nil (EX.mut T7 ?_)
        refine HL.nil ?_
        exact EX.cutI (i3, err3) (by repeat (first | exact trivial | refine ⟨rfl, ?_⟩)) ⟨T7, ⟨s3, l3, hJ3⟩⟩
    · skip
      refine HL.mut rfl (WL.alloc rfl rfl (fun x8 hbx8 ex8 => ?_))
      have T8 : Ext w16 x8 := Ext.trans (Ext.drew w16) ex8
      have hgex8 : w16.heap.size ≤ (drew w16).heap.size := Below.size (Ext.drew w16)
      refine WL.nil (EX.mut T8 ?_)
      refine HL.mut rfl ?_
      refine WL.call rfl rfl rfl (mk_two x8 5 (RL.ext hf (hE.trans T8)) (RL.ext hg (hE.trans T8))) ?_
      rintro v9 x9 ⟨k9, y9⟩
      have T9 : Ext w16 x9 := Ext.trans T8 y9
      have K := k9
      refine WL.nil ?_
      refine EX.mut T9 ?_
      have hbq := hbx8.ext y9
      refine HL.mut rfl ?_
      refine WL.call rfl rfl rfl (jHolds_ok x9 (W := W) (f := (.mk 5 0 [f, g])) (h1.up (hE.trans T9)) (h2.up (hE.trans T9)) (h3.up (hE.trans T9)) (h4.up (hE.trans T9)) K sW tW) ?_
      rintro _ x10 ⟨⟨s3, l3, i3, err3, so3, sc3, lo3, lc3, rfl, _, _, hJ3⟩, y10⟩
      have T10 : Ext w16 x10 := Ext.trans T9 y10
      refine WL.nil ?_
      refine EX.mut T10 ?_
      have hbq := hbq.ext y10
      (repeat (apply HL.pure; rfl; rfl; rfl; rfl))
      refine HL.mut rfl (WL.st rfl rfl rfl hbq rfl rfl (ones_of rfl) (fun x11 hbx11 hgx11 => ?_))
      have T11 : Ext w16 x11 := Below.grown T10 hgx11 (Below.size T10) (fun g hg => by cases hg; exact hgex8)
      refine WL.nil (EX.mut T11 ?_)
      refine HL.mut rfl ?_
      (repeat (apply WL.pure; rfl; rfl; rfl))
      refine WL.nil (EX.mut T11 ?_)
      refine HL.mut rfl ?_
      (repeat (apply WL.pure; rfl; rfl; rfl))
      refine WL.nil (EX.mut T11 ?_)
      refine HL.nil ?_
      exact EX.cutI (i3, err3) (by repeat (first | exact trivial | refine ⟨rfl, ?_⟩)) ⟨T11, ⟨s3, l3, hJ3⟩⟩
  rintro ⟨i3, x3⟩ w17 ⟨e17, s3, l3, hJ3⟩
  dsimp only at hJ3 ⊢
  have hb3 := hb3.ext e17
  have hb4 := hb4.ext e17
  have hE := hE.trans e17
  clear hb5 e17
  refine CW.cutI (S := Unit) (fun _ => [(3, .pointer (some ⟨w0.heap.size, 0, none⟩)), (4, .pointer (some ⟨w1.heap.size, 0, none⟩)), (11, .bool i1), (12, .int .i64 x1)]) (fun _ w => w17 = w) ?_ ?_
  · have hall : x1 = 0 → x2 = 0 → x3 = 0 → i3 = (i1 && i2) := fun a b c => by
      subst a b c
      exact jud_and hJ1 hJ2 hJ3
    by_cases a : x1 = 0
    case neg =>
      have be : (x1 == 0) = false := by simpa using a
      (repeat (first | (apply WL.pure; rfl; rfl; rfl) | (apply CW.seq) | (apply CW.region)))
      rw [be]
      (repeat (first | (apply WL.pure; rfl; rfl; rfl) | (apply WL.nil) | (apply EX.thenN) | (apply WL.pass; rfl; rfl) | (apply CW.condF; rfl) | (apply CW.skip)))
      exact EX.cutI () (by repeat (first | exact trivial | refine ⟨rfl, ?_⟩)) rfl
    subst a
    by_cases b : x2 = 0
    case neg =>
      have be : (x2 == 0) = false := by simpa using b
      (repeat (first | (apply WL.pure; rfl; rfl; rfl) | (apply CW.seq) | (apply CW.region)))
      rw [be]
      (repeat (first | (apply WL.pure; rfl; rfl; rfl) | (apply WL.nil) | (apply EX.thenN) | (apply WL.pass; rfl; rfl) | (apply CW.condF; rfl) | (apply CW.skip)))
      exact EX.cutI () (by repeat (first | exact trivial | refine ⟨rfl, ?_⟩)) rfl
    subst b
    by_cases c : x3 = 0
    case neg =>
      have be : (x3 == 0) = false := by simpa using c
      (repeat (first | (apply WL.pure; rfl; rfl; rfl) | (apply CW.seq) | (apply CW.region)))
      rw [be]
      (repeat (first | (apply WL.pure; rfl; rfl; rfl) | (apply WL.nil) | (apply EX.thenN) | (apply WL.pass; rfl; rfl) | (apply CW.condF; rfl) | (apply CW.skip)))
      exact EX.cutI () (by repeat (first | exact trivial | refine ⟨rfl, ?_⟩)) rfl
    subst c
    obtain rfl := hall rfl rfl rfl
    cases i1 <;> cases i2
    all_goals
      (repeat (first | (apply WL.pure; rfl; rfl; rfl) | (apply WL.nil) | (apply EX.thenN) | (apply CW.seq) | (apply CW.region) | (apply WL.pass; rfl; rfl) | (apply WL.neB; rfl; rfl; rfl; rfl) | (apply CW.condF; rfl) | (apply CW.skip)))
      exact EX.cutI () (by repeat (first | exact trivial | refine ⟨rfl, ?_⟩)) rfl
  rintro ⟨⟩ _ rfl
  clear hJ2 hJ3
  refine CW.cutI (S := Bool × Int) (fun x => [(3, .pointer (some ⟨w0.heap.size, 0, none⟩)), (4, .pointer (some ⟨w1.heap.size, 0, none⟩)), (11, .bool i1), (12, .int .i64 x1), (20, .bool x.1), (21, .int .i64 x.2)]) (fun x w => Ext w17 w ∧ ∃ s l, JudE W (notT f) s l x.1 x.2) ?_ ?_
  · skip
    refine CW.drawCF (fun x => Ext w17 x) 8 [(0, true), (1, true), (2, false), (3, false), (4, true), (5, true), (6, true), (7, true)] [(9, false), (10, false), (11, false)] mixed (by kernel_rfl) (Ext.drew w17) ?_
    have hSE : ∀ x, (fun x => Ext w17 x) x → Ext w17 x := fun _ h => h
    refine EX.chFT [(0, true), (1, true)] rfl (Ext.drew w17) ?_
    (repeat (first | (refine HL.ldA (by assumption) rfl rfl rfl rfl (by assumption) rfl ?_) | (apply HL.nil)))
    refine EX.chF (Ext.drew w17) rfl ?_ ?_
    · skip
      refine WL.call rfl rfl rfl (mk_one (drew w17) 4 (RL.ext hf (hE.trans (Ext.drew w17)))) ?_
      rintro v1 x1 ⟨k1, y1⟩
      have T1 : Ext w17 x1 := Ext.trans (Ext.drew w17) y1
      have K := k1
      refine WL.nil ?_
      refine EX.chF T1 rfl ?_ ?_
      · skip
        refine WL.call rfl rfl rfl (jHolds_ok x1 (W := W) (f := (notT f)) (h1.up (hE.trans T1)) (h2.up (hE.trans T1)) (h3.up (hE.trans T1)) (h4.up (hE.trans T1)) K sW tW) ?_
        rintro _ x2 ⟨⟨s3, l3, i3, err3, so3, sc3, lo3, lc3, rfl, _, _, hJ3⟩, y2⟩
        have T2 : Ext w17 x2 := Ext.trans T1 y2
        refine WL.nil ?_
        refine EX.chFT [(4, true), (5, true), (6, true), (7, true)] rfl T2 ?_
        (repeat (first | (apply HL.pure; rfl; rfl; rfl; rfl) | (apply HL.nil)))
        refine EX.chF0 T2 ?_
        refine HL.mut rfl (WL.alloc rfl rfl (fun x3 hbx3 ex3 => ?_))
        have T3 : Ext w17 x3 := Ext.trans T2 ex3
        have hgex3 : w17.heap.size ≤ x2.heap.size := Below.size T2
        refine WL.nil (EX.mut T3 ?_)
        refine HL.mut rfl (WL.st rfl rfl rfl hbx3 rfl rfl (ones_of rfl) (fun x4 hbx4 hgx4 => ?_))
        have T4 : Ext w17 x4 := Below.grown T3 hgx4 (Below.size T3) (fun g hg => by cases hg; exact hgex3)
        refine WL.nil (EX.mut T4 ?_)
        refine HL.mut rfl ?_
        (repeat (apply WL.pure; rfl; rfl; rfl))
        refine WL.nil (EX.mut T4 ?_)
        refine HL.mut rfl ?_
        (repeat (apply WL.pure; rfl; rfl; rfl))
        refine WL.nil (EX.mut T4 ?_)
        refine HL.nil ?_
        exact EX.cutI (i3, err3) (by repeat (first | exact trivial | refine ⟨rfl, ?_⟩)) ⟨T4, ⟨s3, l3, hJ3⟩⟩
      · skip
        refine HL.mut rfl (WL.alloc rfl rfl (fun x5 hbx5 ex5 => ?_))
        have T5 : Ext w17 x5 := Ext.trans T1 ex5
        have hgex5 : w17.heap.size ≤ x1.heap.size := Below.size T1
        refine WL.nil (EX.mut T5 ?_)
        have K := RL.ext K ex5
        refine HL.mut rfl ?_
        refine WL.call rfl rfl rfl (jHolds_ok x5 (W := W) (f := (notT f)) (h1.up (hE.trans T5)) (h2.up (hE.trans T5)) (h3.up (hE.trans T5)) (h4.up (hE.trans T5)) K sW tW) ?_
        rintro _ x6 ⟨⟨s3, l3, i3, err3, so3, sc3, lo3, lc3, rfl, _, _, hJ3⟩, y6⟩
        have T6 : Ext w17 x6 := Ext.trans T5 y6
        refine WL.nil ?_
        refine EX.mut T6 ?_
        have hbq := hbx5.ext y6
        (repeat (apply HL.pure; rfl; rfl; rfl; rfl))
        refine HL.mut rfl (WL.st rfl rfl rfl hbq rfl rfl (ones_of rfl) (fun x7 hbx7 hgx7 => ?_))
        have T7 : Ext w17 x7 := Below.grown T6 hgx7 (Below.size T6) (fun g hg => by cases hg; exact hgex5)
        refine WL.nil (EX.mut T7 ?_)
        refine HL.mut rfl ?_
        (repeat (apply WL.pure; rfl; rfl; rfl))
        refine WL.nil (EX.mut T7 ?_)
        refine HL.mut rfl ?_
        (repeat (apply WL.pure; rfl; rfl; rfl))
        refine WL.nil (EX.mut T7 ?_)
        refine HL.nil ?_
        exact EX.cutI (i3, err3) (by repeat (first | exact trivial | refine ⟨rfl, ?_⟩)) ⟨T7, ⟨s3, l3, hJ3⟩⟩
    · skip
      refine HL.mut rfl (WL.alloc rfl rfl (fun x8 hbx8 ex8 => ?_))
      have T8 : Ext w17 x8 := Ext.trans (Ext.drew w17) ex8
      have hgex8 : w17.heap.size ≤ (drew w17).heap.size := Below.size (Ext.drew w17)
      refine WL.nil (EX.mut T8 ?_)
      refine HL.mut rfl ?_
      refine WL.call rfl rfl rfl (mk_one x8 4 (RL.ext hf (hE.trans T8))) ?_
      rintro v9 x9 ⟨k9, y9⟩
      have T9 : Ext w17 x9 := Ext.trans T8 y9
      have K := k9
      refine WL.nil ?_
      refine EX.mut T9 ?_
      have hbq := hbx8.ext y9
      refine HL.mut rfl ?_
      refine WL.call rfl rfl rfl (jHolds_ok x9 (W := W) (f := (notT f)) (h1.up (hE.trans T9)) (h2.up (hE.trans T9)) (h3.up (hE.trans T9)) (h4.up (hE.trans T9)) K sW tW) ?_
      rintro _ x10 ⟨⟨s3, l3, i3, err3, so3, sc3, lo3, lc3, rfl, _, _, hJ3⟩, y10⟩
      have T10 : Ext w17 x10 := Ext.trans T9 y10
      refine WL.nil ?_
      refine EX.mut T10 ?_
      have hbq := hbq.ext y10
      (repeat (apply HL.pure; rfl; rfl; rfl; rfl))
      refine HL.mut rfl (WL.st rfl rfl rfl hbq rfl rfl (ones_of rfl) (fun x11 hbx11 hgx11 => ?_))
      have T11 : Ext w17 x11 := Below.grown T10 hgx11 (Below.size T10) (fun g hg => by cases hg; exact hgex8)
      refine WL.nil (EX.mut T11 ?_)
      refine HL.mut rfl ?_
      (repeat (apply WL.pure; rfl; rfl; rfl))
      refine WL.nil (EX.mut T11 ?_)
      refine HL.mut rfl ?_
      (repeat (apply WL.pure; rfl; rfl; rfl))
      refine WL.nil (EX.mut T11 ?_)
      refine HL.nil ?_
      exact EX.cutI (i3, err3) (by repeat (first | exact trivial | refine ⟨rfl, ?_⟩)) ⟨T11, ⟨s3, l3, hJ3⟩⟩
  rintro ⟨i4, x4⟩ w18 ⟨e18, s4, l4, hJ4⟩
  dsimp only at hJ4 ⊢
  have hb3 := hb3.ext e18
  have hE := hE.trans e18
  clear hb4 e18
  by_cases a : x1 = 0
  case neg =>
    have be : (x1 != 0) = true := by simpa using a
    (repeat (first | (apply WL.pure; rfl; rfl; rfl) | (apply CW.seq) | (apply CW.region)))
    rw [be]
    (repeat (first | (apply WL.pure; rfl; rfl; rfl) | (apply WL.nil) | (apply EX.thenN) | (apply CW.seq) | (apply CW.region) | (apply WL.pass; rfl; rfl) | (apply CW.condT; rfl) | (apply CW.ret) | (apply EX.thenR)))
    exact EX.ret1 rfl rfl ⟨rfl, hE⟩
  subst a
  by_cases b : x4 = 0
  case neg =>
    have be : (x4 != 0) = true := by simpa using b
    (repeat (first | (apply WL.pure; rfl; rfl; rfl) | (apply WL.nil) | (apply EX.thenN) | (apply CW.seq) | (apply CW.region)))
    rw [be]
    (repeat (first | (apply WL.pure; rfl; rfl; rfl) | (apply WL.nil) | (apply EX.thenN) | (apply CW.seq) | (apply CW.region) | (apply CW.condT; rfl) | (apply CW.ret) | (apply EX.thenR)))
    exact EX.ret1 rfl rfl ⟨rfl, hE⟩
  subst b
  obtain ⟨hW, _, _, _, a1, _, _⟩ := hJ1.ok rfl
  obtain ⟨_, _, _, _, a4, _, _⟩ := hJ4.ok rfl
  have hfa := fair_any hW
  obtain ⟨_, _, _, hst, hn2, _⟩ := chkWd_ok hW
  have hok : okG W.2.1 := fun r hr => (hn2 r hr).2
  (repeat (first | (apply WL.pure; rfl; rfl; rfl) | (apply WL.nil) | (apply EX.thenN) | (apply CW.seq) | (apply CW.region) | (apply WL.ldA; rfl; rfl; rfl; assumption; rfl) | (apply CW.condF; rfl) | (apply CW.skip)))
  refine WL.call rfl rfl rfl (Fair_ok w18 (h1.up hE) (h2.up hE) hm3 (h4.up hE) eW) ?_
  rintro _ w19 ⟨x, rfl, hx, e19⟩
  rw [if_pos hW] at hx
  rw [show chkWd W.1 W.2.1 W.2.2.1.length W.2.2.2 = 0 from hW]
  have hal : (allB W.2.1 W.2.2.2).length = W.2.1.length := by simp [withinB]
  generalize allB W.2.1 W.2.2.2 = al at *
  obtain ⟨xo, xc, rfl, hxs⟩ := hx.oldN.sl
  have hb3 := hb3.ext e19
  have hE := hE.trans e19
  clear hx
  (repeat (apply WL.pure; rfl; rfl; rfl))
  refine WL.alloc rfl rfl (fun w20 hb22 e20 => ?_)
  skip
  refine WL.st rfl rfl rfl hb22 rfl rfl (ones_of rfl) (fun w21 hb22 hg21 => ?_)
  have e21 : Ext w19 w21 := e20.grown hg21 e20.size (fun g hg => by cases hg; exact Nat.le_refl _)
  have hb3 := hb3.ext e21
  have hE := hE.trans e21
  have hxs := hxs.up e21
  clear e19 e20 hg21 e21
  (repeat (first | (apply WL.pure; rfl; rfl; rfl) | (apply WL.nil) | (apply EX.thenN) | (apply CW.seq) | (apply CW.region) | (apply WL.makeFunc; rfl; rfl; rfl; rfl) | (apply WL.fa; rfl; rfl; rfl) | (apply WL.ld; rfl; rfl; rfl; assumption; rfl)))
  refine WL.call rfl rfl rfl (containsFunc_int w21 (fun x => al.getD x.toNat false) (h1.up hE) (fun w5 hw5 j hj => ?_)) ?_
  · have hto := hst _ (List.getElem_mem hj)
    obtain ⟨to, eto⟩ := Int.eq_ofNat_of_zero_le hto.1
    rw [eto, Int.toNat_natCast]
    exact FnV.mk (cs := [_]) (jj1 w5 _ (hb22.ext hw5) (hxs.up hw5) (by omega))
  rintro _ w22 ⟨rfl, e22⟩
  have hE := hE.trans e22
  have hlaw : (i1 = true ∧ i4 = true) ↔ ¬ (W.1.any fun x => al.getD x.toNat false) = true := by
    rw [hfa, a1, a4]
    exact ⟨fun h => all_not h.1 h.2, fun h => Classical.not_not.1 (fun hn => h (not_all hn))⟩
  generalize (W.1.any fun x => al.getD x.toNat false) = any at *
  cases i1 <;> cases i4 <;> cases any
  all_goals
    first
      | (exfalso; revert hlaw; decide)
      | ((repeat (first | (apply WL.pure; rfl; rfl; rfl) | (apply WL.nil) | (apply EX.thenN) | (apply CW.seq) | (apply CW.region) | (apply WL.pass; rfl; rfl) | (apply WL.eqB; rfl; rfl; rfl; rfl) | (apply CW.ret)))
         exact EX.ret1 rfl rfl ⟨rfl, hE⟩)
end Go.Proofs.Ytllpfgcngokhnaa

/-
  From the form's readings of the arguments to our own, and back: what a law's proof needs at its two ends.
-/
set_option linter.unusedVariables false
set_option linter.unusedSimpArgs false
namespace Go.Proofs.Ytllpfgcngokhnaa
open Go.RowKit Go.ChangeShapes Go.WideShapes Go.ChangeAt

theorem bulk_one {H : Type} (d : DataW H) : 1 ≤ Rows.uptoBulk d := by
  cases d with
  | lit l => cases l <;> simp [Rows.uptoBulk]
  | nil => simp [Rows.uptoBulk]
  | ptr d => simp [Rows.uptoBulk]
  | slice elems spare => simp [Rows.uptoBulk]
  | agg parts => simp [Rows.uptoBulk]
  | iface t d => simp [Rows.uptoBulk]
  | map entries => simp [Rows.uptoBulk]
  | held h => simp [Rows.uptoBulk]
theorem bulk_app {H : Type} (l r : List (DataW H)) : Rows.uptoBulkAll (l ++ r) = Rows.uptoBulkAll l + Rows.uptoBulkAll r := by
  induction l with
  | nil => simp [Rows.uptoBulkAll]
  | cons x l ih => simp only [List.cons_append, Rows.uptoBulkAll, ih]; omega

/-- the bound, as the form hands it over -/
theorem bound {H : Type} {l : List (DataW H)} (hk : Rows.uptoSmall H l = true) : Rows.uptoBulkAll l ≤ 1048576 := by
  simpa [Rows.uptoSmall] using hk
/-- how many values a value of ours holds -/
class Bk (α : Type) where
  bk : α → Nat
abbrev bk {α : Type} [Bk α] : α → Nat := Bk.bk
instance iOpen1 : Bk Int := ⟨fun _ => 1⟩
instance iOpen2 : Bk Bool := ⟨fun _ => 1⟩
instance iOpen3 : Bk Nat := ⟨fun _ => 1⟩
instance iOpen4 : Bk ByteArray := ⟨fun s => s.size + 1⟩
def bkL {α : Type} [Bk α] : List α → Nat
  | [] => 0
  | x :: r => bk x + bkL r
instance iOpen8 {α : Type} [Bk α] : Bk (List α) := ⟨fun l => bkL l + 1⟩

/-- what the form reads at a type, we read, too -/
class Opn (P : Program) (t : TypeId) (α : Type) [Rep α] [Bk α] : Prop where
  op : ∀ {H : Type} {enc : TypeId × Value → H} {w : World} {fuel : Nat} {cs : List Value} {d : DataW H} {ps : List MemPlace}, DataW.trod enc P w 0 (fun _ => true) true fuel t cs = some (d, ps) → ∃ x : α, rd w (Old w) cs x ∧ bk x ≤ Rows.uptoBulk d

theorem Opn.int {P : Program} {t : TypeId} (h : P.underlying t = some (.int .i64)) : Opn P t Int where
  op := by
    intro H enc w fuel cs d ps hd
    cases fuel with
    | zero => simp [DataW.trod] at hd
    | succ fuel =>
      unfold DataW.trod at hd
      rw [h] at hd
      split at hd <;> try (simp at *; done)
      rename_i k k' n e1
      simp at e1
      split at hd
      · rename_i hk
        simp at hd
        obtain ⟨rfl, rfl⟩ := hd
        exact ⟨n, by rw [hk.1, ← e1]; rfl, bulk_one _⟩
      · cases hd
theorem Opn.bool {P : Program} {t : TypeId} (h : P.underlying t = some .bool) : Opn P t Bool where
  op := by
    intro H enc w fuel cs d ps hd
    cases fuel with
    | zero => simp [DataW.trod] at hd
    | succ fuel =>
      unfold DataW.trod at hd
      rw [h] at hd
      split at hd <;> try (simp at *; done)
      rename_i b e1
      simp at hd
      obtain ⟨rfl, rfl⟩ := hd
      exact ⟨b, rfl, bulk_one _⟩
theorem Opn.u64 {P : Program} {t : TypeId} (h : P.underlying t = some (.int .u64)) : Opn P t Nat where
  op := by
    intro H enc w fuel cs d ps hd
    cases fuel with
    | zero => simp [DataW.trod] at hd
    | succ fuel =>
      unfold DataW.trod at hd
      rw [h] at hd
      split at hd <;> try (simp at *; done)
      rename_i k k' n e1
      simp at e1
      split at hd
      · rename_i hk
        simp at hd
        obtain ⟨rfl, rfl⟩ := hd
        have hwf := hk.2
        rw [← e1] at hwf
        have hb : 0 ≤ n ∧ n ≤ 18446744073709551615 := by simpa [Lit.wf, IntKind.min, IntKind.max, IntKind.signed, IntKind.bits] using hwf
        refine ⟨n.toNat, ⟨?_, by omega⟩, bulk_one _⟩
        rw [hk.1, ← e1, Int.toNat_of_nonneg hb.1]
      · cases hd
theorem Opn.string {P : Program} {t : TypeId} (h : P.underlying t = some .string) : Opn P t ByteArray where
  op := by
    intro H enc w fuel cs d ps hd
    cases fuel with
    | zero => simp [DataW.trod] at hd
    | succ fuel =>
      unfold DataW.trod at hd
      rw [h] at hd
      split at hd <;> try (simp at *; done)
      rename_i s e1
      split at hd
      · rename_i hk
        simp at hd
        obtain ⟨rfl, rfl⟩ := hd
        refine ⟨s, ⟨rfl, hk⟩, ?_⟩
        show s.size + 1 ≤ _
        simp only [Rows.uptoBulk]
        have e : s.data.toList.length = s.size := by rw [Array.length_toList]; rfl
        omega
      · cases hd

theorem mapM_range {β : Type} (f : Nat → Option β) : ∀ (n : Nat) (es : List β), (List.range n).mapM f = some es → es.length = n ∧ ∀ i (h : i < es.length), f i = some es[i]
  | 0, es, h => by
    simp at h; subst h
    exact ⟨rfl, fun i hi => absurd hi (by simp)⟩
  | n + 1, es, h => by
    rw [List.range_succ, List.mapM_append] at h
    simp only [List.mapM_cons, List.mapM_nil, Option.bind_eq_bind, Option.pure_def] at h
    cases h1 : (List.range n).mapM f with
    | none => rw [h1] at h; cases h
    | some l =>
      rw [h1] at h
      cases h2 : f n with
      | none => rw [h2] at h; cases h
      | some y =>
        rw [h2] at h
        simp at h
        subst h
        obtain ⟨hl, hi⟩ := mapM_range f n l h1
        refine ⟨by simp [hl], fun i hlt => ?_⟩
        by_cases hi' : i < l.length
        · rw [List.getElem_append_left hi']; exact hi i hi'
        · have : i = n := by simp at hlt; omega
          subst this
          rw [List.getElem_append_right (by omega)]
          simpa [hl] using h2
theorem mapM_cells {w : World} {a : Addr} {n : Nat} {cs : List Value} (h : w.cells? 0 a n = some cs) : cs.length = n ∧ ∀ j (hj : j < cs.length), w.cell? (a.add j) = some cs[j] := by
  unfold World.cells? at h
  rw [if_pos (Nat.zero_le _)] at h
  exact mapM_range _ n cs h

theorem slice_op {P : Program} {t e : TypeId} {α : Type} [Rep α] [Bk α] [hs : IsS P t e] [ht : IsT P e α] {H : Type} {enc : TypeId × Value → H} {w : World} {fuel : Nat}
    (ho : ∀ {cs : List Value} {d : DataW H} {ps : List MemPlace}, DataW.trod enc P w 0 (fun _ => true) true fuel e cs = some (d, ps) → ∃ x : α, rd w (Old w) cs x ∧ bk x ≤ Rows.uptoBulk d)
    {cs : List Value} {d : DataW H} {ps : List MemPlace} (hd : DataW.trod enc P w 0 (fun _ => true) true (fuel + 1) t cs = some (d, ps)) : ∃ x : List α, rd w (Old w) cs x ∧ bk x ≤ Rows.uptoBulk d := by
  unfold DataW.trod at hd
  rw [hs.ok] at hd
  obtain ⟨i0, hi1, hi2⟩ := IsT.info (P := P) (t := e) (α := α)
  have hsz : P.cellsOf e = sz α := by simp [Program.cellsOf, hi1, hi2]
  have hp : 0 < sz α := Rep.pos
  split at hd <;> try (simp at *; done)
  · simp at hd
    obtain ⟨rfl, rfl⟩ := hd
    exact ⟨[], ⟨none, 0, rfl, by simp, by simp [maxLen], fun _ => rfl, fun i hi => absurd hi (by simp)⟩, bulk_one _⟩
  · rename_i e' a len cap e1
    cases e1
    simp only at hd
    split at hd
    · rename_i hc
      obtain ⟨_, hle, hmx⟩ := hc
      rw [hsz] at hd
      cases hm : (List.range len).mapM (fun i => (w.cells? 0 (a.add (i * sz α)) (sz α)).bind (DataW.trod enc P w 0 (fun _ => true) true fuel e)) with
      | none => rw [hm] at hd; cases hd
      | some elems =>
        rw [hm] at hd
        simp only [Option.bind_some, if_true] at hd
        obtain ⟨rest, _, hd2⟩ := Option.map_eq_some_iff.1 hd
        simp only [Prod.mk.injEq] at hd2
        obtain ⟨rfl, _⟩ := hd2
        obtain ⟨hlen, hget⟩ := mapM_range _ len elems hm
        -- one element at a time
        have one : ∀ i (h : i < elems.length), ∃ x : α, (∃ b off, some a = some ⟨b, off, none⟩ ∧ Old w b ∧ ∃ es, Cells w b (off + i * sz α) es ∧ rd w (Old w) es x) ∧ bk x ≤ Rows.uptoBulk (elems[i]).1 := by
          intro i hi
          have h1 := hget i hi
          cases hcs : w.cells? 0 (a.add (i * sz α)) (sz α) with
          | none => rw [hcs] at h1; cases h1
          | some es =>
            rw [hcs] at h1
            simp only [Option.bind_some] at h1
            obtain ⟨x, hr, hb⟩ := ho (d := (elems[i]).1) (ps := (elems[i]).2) h1
            obtain ⟨hl, hc⟩ := mapM_cells hcs
            have h0 := hc 0 (by omega)
            have hspot : a.spot = none := by
              cases hsp : a.spot with
              | none => rfl
              | some k =>
                -- the first element's first cell lies at the address itself
                have h2 := hget 0 (by omega)
                cases hcs0 : w.cells? 0 (a.add (0 * sz α)) (sz α) with
                | none => rw [hcs0] at h2; cases h2
                | some es0 =>
                  obtain ⟨hl0, hc0⟩ := mapM_cells hcs0
                  have h3 := hc0 0 (by omega)
                  have e3 : (a.add (0 * sz α)).add 0 = a := by simp [Addr.add]
                  rw [e3] at h3
                  unfold World.cell? at h3
                  split at h3
                  · simp [hsp] at h3
                  · cases h3
            obtain ⟨b, off, sp⟩ := a
            simp only at hspot
            subst hspot
            rw [WideShapes.add_plain] at hc h0
            have hblt : b < w.heap.size := World.block_lt_of_cell? w _ h0
            refine ⟨x, ⟨b, off, rfl, hblt, es, ?_, hr⟩, hb⟩
            intro j u hu
            obtain ⟨hj, rfl⟩ := List.getElem?_eq_some_iff.1 hu
            have := hc j hj
            rwa [WideShapes.add_plain] at this
        have all : ∀ k, k ≤ elems.length → ∃ xs : List α, xs.length = k ∧ (∀ i (h : i < xs.length), ∃ b off, some a = some ⟨b, off, none⟩ ∧ Old w b ∧ ∃ es, Cells w b (off + i * sz α) es ∧ rd w (Old w) es xs[i]) ∧ bkL xs ≤ Rows.uptoBulkAll ((elems.map (·.1)).take k) := by
          intro k
          induction k with
          | zero => intro _; exact ⟨[], rfl, fun i hi => absurd hi (by simp), by simp [bkL, Rows.uptoBulkAll]⟩
          | succ k ih =>
            intro hk
            obtain ⟨xs, h1, h2, h3⟩ := ih (by omega)
            obtain ⟨x, h4, h5⟩ := one k (by omega)
            refine ⟨xs ++ [x], by simp [h1], ?_, ?_⟩
            · intro i hi
              by_cases hlt : i < xs.length
              · rw [List.getElem_append_left hlt]; exact h2 i hlt
              · have : i = k := by simp at hi; omega
                subst this
                rw [List.getElem_append_right (by omega)]
                simpa [h1] using h4
            · have hb : ∀ (l : List α), bkL (l ++ [x]) = bkL l + bk x := by
                intro l; induction l with
                | nil => simp [bkL]
                | cons y l ih => simp only [List.cons_append, bkL, ih]; omega
              rw [hb, List.take_succ_eq_append_getElem (by simp; omega), bulk_app]
              simp only [List.getElem_map, Rows.uptoBulkAll]
              omega
        obtain ⟨xs, h1, h2, h3⟩ := all elems.length (Nat.le_refl _)
        have hx : xs.length = len := by omega
        refine ⟨xs, ⟨some a, cap, by rw [hx], ⟨by omega, hmx, (fun h => by cases h), h2⟩⟩, ?_⟩
        show bkL xs + 1 ≤ _
        rw [List.take_of_length_le (by simp)] at h3
        simp only [Rows.uptoBulk]
        omega
    · cases hd

theorem Opn.slice {P : Program} {t e : TypeId} {α : Type} [Rep α] [Bk α] [hs : IsS P t e] [ht : IsT P e α] [ho : Opn P e α] : Opn P t (List α) where
  op := by
    intro H enc w fuel cs d ps hd
    cases fuel with
    | zero => simp [DataW.trod] at hd
    | succ fuel => exact slice_op (e := e) (fun h => ho.op h) hd

theorem okWide_form {P : Program} {w : World} {r : Reach} {base : Nat} {t : TypeId} {v : Value} {d : TypeDesc} (hu : P.underlying t = some d) (h : Value.okWide P w r base t v) :
    (aggD d = false → v.oneCell' = true) ∧ (aggD d = true → ∃ cs, v = .agg cs) := by
  unfold Value.okWide at h
  rw [hu] at h
  constructor
  · intro hd
    cases v <;> first
      | rfl
      | (exfalso; cases d <;> simp [aggD] at hd <;> simp [Cell.okWide, Cell.ok, hu] at h)
  · intro hd
    cases d <;> simp [aggD] at hd <;> (obtain ⟨cs, rfl, _⟩ := h; exact ⟨cs, rfl⟩)
/-- an argument, opened -/
theorem Opn.arg {P : Program} {t : TypeId} {α : Type} [Rep α] [Bk α] [ht : IsT P t α] [ho : Opn P t α] {H : Type} {enc : TypeId × Value → H} {w : World} {v : Value} {d : DataW H} {ps : List MemPlace} {r : Reach} {base : Nat}
    (hv : Value.okWide P w r base t v) (h : DataW.Trod enc P w 0 (fun _ => true) true t v d ps) : ∃ x : α, Rd w (Old w) v x ∧ bk x ≤ Rows.uptoBulk d := by
  obtain ⟨i, dd, _, _, h3, h4⟩ := ht.ok
  obtain ⟨f1, f2⟩ := okWide_form h3 hv
  obtain ⟨fuel, hf⟩ := h
  obtain ⟨x, hr, hb⟩ := ho.op hf
  refine ⟨x, ⟨v.cells.toList, ?_, hr⟩, hb⟩
  unfold vOf
  split
  · rename_i he
    obtain ⟨cs, rfl⟩ := f2 (h4.trans he)
    simp [Value.cells]
  · rename_i he
    have := f1 (h4.trans he)
    cases v <;> first | rfl | (simp [Value.oneCell'] at this)

theorem trodAll_below {H : Type} {enc : TypeId × Value → H} {P : Program} (hl : laidOutB P = true) {W W' : World} (hb : Ext W W') : ∀ {ts : List TypeId} {vs : List Value} {ds : List (DataW H)} {ps : List MemPlace},
    (∀ t ∈ ts, P.readableRec t = true ∧ t < P.types.size) → DataW.TrodAll enc P W 0 (fun _ => true) true ts vs ds ps → (∀ x ∈ ps, x.block < W.heap.size) →
    DataW.TrodAll enc P W' 0 (fun b => decide (b < W.heap.size)) true ts vs ds ps
  | [], [], [], _, _, h, _ => h
  | t :: ts, v :: vs, d :: ds, ps, hr, h, hlt => by
    obtain ⟨p, q, h1, h2, rfl⟩ := h
    exact ⟨p, q, Below.trod hl (hr t (by simp)).1 (hr t (by simp)).2 h1 hb (fun x hx => hlt x (by simp [hx])),
      trodAll_below hl hb (fun t ht => hr t (by simp [ht])) h2 (fun x hx => hlt x (by simp [hx])), rfl⟩
  | [], [], _ :: _, _, _, h, _ => h.elim
  | [], _ :: _, [], _, _, h, _ => h.elim
  | [], _ :: _, _ :: _, _, _, h, _ => h.elim
  | _ :: _, [], [], _, _, h, _ => h.elim
  | _ :: _, [], _ :: _, _, _, h, _ => h.elim
  | _ :: _, _ :: _, [], _, _, h, _ => h.elim

/-- the law's end: it returned true, and only new memory was made -/
theorem law_post {H : Type} {enc : TypeId × Value → H} {P : Program} {fn : Func} {s : ChangeSpec} {W W' : World} {args : Array Value} {ds gs : List (DataW H)} {before : List MemPlace} {tb : TypeId}
    (hl : laidOutB P = true) (hW : DataW.Whole enc P fn.params.toList s.vars false W args.toList ds gs before) (hv : s.vars = []) (hr : ∀ t ∈ fn.params.toList, P.readableRec t = true ∧ t < P.types.size)
    (hsp : (s.fn H (ds ++ gs)).results = [.lit (.bool true)] ∧ (s.fn H (ds ++ gs)).args = ds ∧ (s.fn H (ds ++ gs)).vars = []) (hres : fn.resultTypes = #[tb]) (hb : P.underlying tb = some .bool) (hE : Ext W W') :
    s.post enc P fn false true false false W args (.bool true) W' := by
  have hlt := hW.lt
  have hW' := hW
  obtain ⟨p, q, hA, hV, rfl, _, _⟩ := hW
  rw [hv] at hV
  obtain ⟨e1, e2, e3⟩ := hsp
  refine ⟨ds, gs, p ++ q, [], p, [], hW', ?_, ?_, ?_, hE.frame _, fun h => by cases h⟩
  · rw [e1, hres]
    exact trodAll_mk1 (shut_bool hb true)
  · rw [e2]
    exact trodAll_below hl hE hr hA (fun x hx => hlt x (by simp [hx]))
  · rw [e3, hv]
    exact rfl
/- structs -/
instance iOpen9 {α β : Type} [Bk α] [Bk β] : Bk (α × β) := ⟨fun x => bk x.1 + bk x.2⟩
/-- a list of fields, from an offset on -/
class OpnFs (P : Program) (fs : List (TypeId × Nat)) (off : Nat) (α : Type) [Rep α] [Bk α] : Prop where
  op : ∀ {H : Type} {enc : TypeId × Value → H} {w : World} {fuel : Nat} {cs : List Value} {xs : List (DataW H × List MemPlace)}, off + sz α = cs.length →
    (fs.mapM fun f => DataW.trod enc P w 0 (fun _ => true) true fuel f.1 ((cs.drop f.2).take (P.cellsOf f.1))) = some xs → ∃ x : α, rd w (Old w) (cs.drop off) x ∧ bk x ≤ Rows.uptoBulkAll (xs.map (·.1))
theorem cellsOf_T {P : Program} {t : TypeId} {α : Type} [Rep α] [ht : IsT P t α] : P.cellsOf t = sz α := by
  obtain ⟨i, h1, h2⟩ := IsT.info (P := P) (t := t) (α := α)
  simp [Program.cellsOf, h1, h2]
instance OpnFs.one {P : Program} {t : TypeId} {off : Nat} {α : Type} [Rep α] [Bk α] [ht : IsT P t α] [ho : Opn P t α] : OpnFs P [(t, off)] off α where
  op := by
    intro H enc w fuel cs xs hl h
    simp only [List.mapM_cons, List.mapM_nil, Option.bind_eq_bind, Option.pure_def] at h
    cases h1 : DataW.trod enc P w 0 (fun _ => true) true fuel t ((cs.drop off).take (P.cellsOf t)) with
    | none => rw [h1] at h; cases h
    | some d =>
      rw [h1] at h; simp at h; subst h
      obtain ⟨d, ps⟩ := d
      obtain ⟨x, hr, hb⟩ := ho.op h1
      rw [cellsOf_T (α := α), List.take_of_length_le (by rw [List.length_drop]; omega)] at hr
      exact ⟨x, hr, by simpa [Rows.uptoBulkAll] using hb⟩
instance OpnFs.cons {P : Program} {t : TypeId} {off : Nat} {f : TypeId × Nat} {fs : List (TypeId × Nat)} {α β : Type} [Rep α] [Bk α] [Rep β] [Bk β] [ht : IsT P t α] [ho : Opn P t α] [hr : OpnFs P (f :: fs) (off + sz α) β] : OpnFs P ((t, off) :: f :: fs) off (α × β) where
  op := by
    intro H enc w fuel cs xs hl h
    rw [List.mapM_cons] at h
    simp only [Option.bind_eq_bind, Option.pure_def] at h
    have hl' : off + sz α + sz β = cs.length := by
      have : sz (α × β) = sz α + sz β := rfl
      omega
    cases h1 : DataW.trod enc P w 0 (fun _ => true) true fuel t ((cs.drop off).take (P.cellsOf t)) with
    | none => rw [h1] at h; cases h
    | some d =>
      rw [h1] at h
      simp only [Option.bind_some] at h
      obtain ⟨ys, h2, h3⟩ := Option.bind_eq_some_iff.1 h
      cases h3
      obtain ⟨d, ps⟩ := d
      obtain ⟨x, hx, hb⟩ := ho.op h1
      obtain ⟨y, hy, hc⟩ := hr.op hl' h2
      rw [cellsOf_T (α := α)] at hx
      refine ⟨(x, y), ⟨(cs.drop off).take (sz α), cs.drop (off + sz α), ?_, hx, hy⟩, ?_⟩
      · rw [← List.drop_drop, List.take_append_drop]
      · show bk x + bk y ≤ _
        simp only [List.map_cons, Rows.uptoBulkAll]
        omega
def stFact (P : Program) (t : TypeId) : Option (List (TypeId × Nat)) := match P.underlying t with
  | some (.struct fs) => some (fs.toList.map fun f => (f.type, f.offset))
  | _ => none
theorem Opn.struct {P : Program} {t : TypeId} {fs : List (TypeId × Nat)} {α : Type} [Rep α] [Bk α] [ht : IsT P t α] [hf : OpnFs P fs 0 α] (h : stFact P t = some fs) : Opn P t α where
  op := by
    intro H enc w fuel cs d ps hd
    unfold stFact at h
    split at h
    · rename_i gs hu
      cases h
      cases fuel with
      | zero => simp [DataW.trod] at hd
      | succ fuel =>
        unfold DataW.trod at hd
        rw [hu] at hd
        simp only at hd
        split at hd
        · rename_i hl
          obtain ⟨xs, h1, h2⟩ := Option.map_eq_some_iff.1 hd
          cases h2
          have := hf.op (enc := enc) (w := w) (fuel := fuel) (cs := cs) (xs := xs) (by rw [hl, cellsOf_T (α := α)]; omega) (by rw [List.mapM_map]; exact h1)
          obtain ⟨x, hr, hb⟩ := this
          exact ⟨x, by simpa using hr, by simp only [Rows.uptoBulk]; omega⟩
        · cases hd
    · cases h
instance iOpen5 : Opn Try.prog 3 Int := Opn.int Try.underlying3
instance iOpen6 : Opn Try.prog 22 (List Int) := Opn.slice
instance iOpen7 : Opn Try.prog 23 (List (List Int)) := Opn.slice
end Go.Proofs.Ytllpfgcngokhnaa

/-
  The types of the arguments, as the form reads them.
-/
set_option linter.unusedVariables false
namespace Go.Proofs.Ytllpfgcngokhnaa
open Go.RowKit

instance iOpn1 : Opn Try.prog 4 Bool := Opn.bool Try.underlying4
instance iOpn2 : Opn Try.prog 53 Nat := Opn.u64 Try.underlying53
instance iOpn3 : Opn Try.prog 9 ByteArray := Opn.string Try.underlying9
instance iOpn4 : Opn Try.prog 31 Int := Opn.int Try.underlying31
instance iOpn5 : Opn Try.prog 54 (List Bool) := Opn.slice
instance iOpn6 : Opn Try.prog 24 (List Nat) := Opn.slice
instance iOpn8 : Opn Try.prog 181 (List Bool) := Opn.slice
instance iOpn9 : Opn Try.prog 213 (List (List Bool)) := Opn.slice
instance iOpn18 : Opn Try.prog 39 (List Nat × List Nat) := Opn.struct (fs := [(24, 0), (24, 1)]) (by kernel_rfl)
instance iOpn19 : Opn Try.prog 30 (List Int × List Int) := Opn.struct (fs := [(22, 0), (22, 1)]) (by kernel_rfl)
instance iOpn22 : Opn Try.prog 26 (List Int × List (List Int) × List Nat × List (List Int)) := Opn.struct (fs := [(22, 0), (23, 1), (24, 2), (23, 3)]) (by kernel_rfl)
instance iOpn23 : Opn Try.prog 28 (List Int × List (List Int) × List Nat × List Nat × List (List Int)) := Opn.struct (fs := [(22, 0), (23, 1), (24, 2), (24, 3), (23, 4)]) (by kernel_rfl)
end Go.Proofs.Ytllpfgcngokhnaa

/-
  Formulas as arguments.
-/
set_option linter.unusedVariables false
set_option linter.unusedSimpArgs false
namespace Go.Proofs.Ytllpfgcngokhnaa
open Go.RowKit

instance iOpnLtl1 : Bk Ltl := ⟨Ltl.nodes⟩
theorem len3 {cs : List Value} (h : cs.length = 3) : ∃ c0 c1 c2, cs = [c0, c1, c2] := by
  match cs, h with
  | [a, b, c], _ => exact ⟨a, b, c, rfl⟩
theorem ltl_op {H : Type} {enc : TypeId × Value → H} {w : World} : ∀ (fuel : Nat) {cs : List Value} {d : DataW H} {ps : List MemPlace}, DataW.trod enc Try.prog w 0 (fun _ => true) true fuel 68 cs = some (d, ps) → ∃ x : Ltl, rd w (Old w) cs x ∧ bk x ≤ Rows.uptoBulk d := by
  intro fuel
  induction fuel using Nat.strongRecOn with
  | _ fuel ih =>
    intro cs d ps hd
    have hst : stFact Try.prog 68 = some [(3, 0), (3, 1), (66, 2)] := by kernel_rfl
    unfold stFact at hst
    split at hst
    · rename_i gs hu
      have hst := Option.some.inj hst
      cases fuel with
      | zero => simp [DataW.trod] at hd
      | succ fuel =>
        unfold DataW.trod at hd
        rw [hu] at hd
        simp only at hd
        split at hd
        · rename_i hl
          obtain ⟨xs, h1, h2⟩ := Option.map_eq_some_iff.1 hd
          cases h2
          have h3 : (List.map (fun f : Field => (f.type, f.offset)) gs.toList).mapM (fun f : TypeId × Nat => DataW.trod enc Try.prog w 0 (fun _ => true) true fuel f.1 ((cs.drop f.2).take (Try.prog.cellsOf f.1))) = some xs := by rw [List.mapM_map]; exact h1
          rw [hst] at h3
          rw [cellsOf_T (α := Ltl)] at hl
          have hl3 : cs.length = 3 := hl
          simp only [List.mapM_cons, List.mapM_nil, Option.bind_eq_bind, Option.pure_def] at h3
          obtain ⟨x1, e1, h3⟩ := Option.bind_eq_some_iff.1 h3
          obtain ⟨y1, h3, hy1⟩ := Option.bind_eq_some_iff.1 h3
          obtain ⟨x2, e2, h3⟩ := Option.bind_eq_some_iff.1 h3
          obtain ⟨y2, h3, hy2⟩ := Option.bind_eq_some_iff.1 h3
          obtain ⟨x3, e3, h3⟩ := Option.bind_eq_some_iff.1 h3
          simp at h3 hy2 hy1
          subst h3 hy2 hy1
          obtain ⟨d1, p1⟩ := x1
          obtain ⟨d2, p2⟩ := x2
          obtain ⟨d3, p3⟩ := x3
          rw [cellsOf_T (α := Int)] at e1 e2
          rw [cellsOf_T (α := List Ltl)] at e3
          obtain ⟨k, hk, bk1⟩ := Opn.op (P := Try.prog) (t := 3) (α := Int) e1
          obtain ⟨n, hn, bk2⟩ := Opn.op (P := Try.prog) (t := 3) (α := Int) e2
          cases fuel with
          | zero => simp [DataW.trod] at e3
          | succ fuel =>
            obtain ⟨kids, hkids, bk3⟩ := slice_op (α := Ltl) (e := 68) (fun h => ih fuel (by omega) h) e3
            obtain ⟨ao, cap, hc, hs⟩ := rd_sl hkids
            have hk' := rd_int hk
            have hn' := rd_int hn
            refine ⟨.mk k n kids, ?_, ?_⟩
            · clear hu hst h1 e1 e2 e3 ih bk1 bk2 bk3
              obtain ⟨c0, c1, c2, rfl⟩ := len3 hl3
              have a0 : [c0] = [.int .i64 k] := hk'
              have a1 : [c1] = [.int .i64 n] := hn'
              have a2 : [c2] = [.slice ao kids.length cap] := hc
              rw [List.cons.inj a0 |>.1, List.cons.inj a1 |>.1, List.cons.inj a2 |>.1]
              exact RdT.of hs
            · have hnl : ∀ l : List Ltl, bkL l = Ltl.nodesL l := by
                intro l
                induction l with
                | nil => rfl
                | cons x r ihl => simp only [bkL, Ltl.nodesL, ihl]; rfl
              have e3' : bk kids = bkL kids + 1 := rfl
              have e4 : bk (Ltl.mk k n kids) = 1 + Ltl.nodesL kids := by show Ltl.nodes _ = _; simp [Ltl.nodes]
              rw [e4, ← hnl]
              simp only [List.map_cons, List.map_nil, Rows.uptoBulk, Rows.uptoBulkAll]
              omega
        · cases hd
    · cases hst
instance iOpnLtl2 : Opn Try.prog 68 Ltl where
  op := fun h => ltl_op _ h
end Go.Proofs.Ytllpfgcngokhnaa

/-
  Bulk of lists of numbers.
-/
namespace Go.Proofs.Ytllpfgcngokhnaa
open Go.RowKit

theorem bulk_flat {α : Type} [Bk α] (h : ∀ x : α, bk x = 1) : ∀ l : List α, bkL l = l.length
  | [] => rfl
  | x :: r => by simp only [bkL, h, bulk_flat h r, List.length_cons]; omega
theorem bulk_l (l : List Int) : l.length + 1 = bk l := by show _ = bkL l + 1; rw [bulk_flat (fun _ => rfl)]
theorem bulk_g : ∀ g : List (List Int), edges g + g.length ≤ bkL g
  | [] => by simp [edges, bkL]
  | l :: g => by
    have h1 := bulk_g g
    have h3 : bk l = l.length + 1 := (bulk_l l).symm
    simp only [bkL, h3, edges, List.map_cons, List.sum_cons, List.length_cons] at h1 ⊢
    omega
theorem bulk_gg (g : List (List Int)) : edges g + g.length + 1 ≤ bk g := by
  have := bulk_g g
  show _ ≤ bkL g + 1
  omega
end Go.Proofs.Ytllpfgcngokhnaa

