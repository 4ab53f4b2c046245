import Derived.Test.YtllpfgcngokhnaaGreatPtLabelWords15
/-
  Package judge: Holds: walked.
-/
set_option linter.unusedVariables false
set_option linter.unusedSimpArgs false
namespace Go.Proofs.YtllpfgcngokhnaaGreat
open Go.RowKit

/-- a block without numbers is none of a list of numbers -/
theorem Sl.notB {w : World} {F : Nat → Prop} {ao : Option Addr} {cap b : Nat} {xs : List Int} {e : TypeId} {cells : List Value} (h : Sl w F ao cap xs) (hb : Blk w b e cells) (hc : ∀ (k : Nat) (x : Int), cells[k]? ≠ some (Value.int IntKind.i64 x)) : Sl w (fun c => F c ∧ c ≠ b) ao cap xs := by
  refine ⟨h.le, h.mx, h.nil, fun i hi => ?_⟩
  obtain ⟨c, off, e1, hf, es, hcl, hr⟩ := h.el i hi
  have hr' : es = [Value.int IntKind.i64 xs[i]] := hr
  refine ⟨c, off, e1, ⟨hf, fun he => ?_⟩, es, hcl, hr'⟩
  subst hr'
  have h1 := hcl 0 _ rfl
  rw [he, cell_of_row w b _ cells.toArray e (0, 0) hb] at h1
  exact hc _ _ (by simpa using h1)
/-- all fair runs satisfy it -/
def AllW (W : LWorld) (f : Ltl) : Prop := ∀ ρ, WWay W ρ → sem (fun i => W.2.2.1.getD (ρ i) 0) f 0
def notT (f : Ltl) : Ltl := .mk 4 0 [f]
theorem sem_not {L : Nat → Nat} {f : Ltl} {i : Nat} : sem L (notT f) i ↔ ¬ sem L f i := by simp [notT, sem, sems, semK]
theorem eway_all {W : LWorld} {f : Ltl} (hW : PosW W) (h : (makeT (notT f)).2 = 0) : EWay W (makeT (notT f)).1 ↔ ¬ AllW W f := by
  have hA := fun L => (makeT_acc (L := L) h).2.1
  have okA := (makeT_acc (L := fun _ => 0) h).1
  constructor
  · rintro ⟨r, hr⟩ hall
    obtain ⟨h1, h2⟩ := eway_run hW (okA_pos okA) hr
    exact sem_not.1 ((hA _).1 h2) (hall _ h1)
  · intro hn
    unfold AllW at hn
    rw [Classical.not_forall] at hn
    obtain ⟨ρ, hρ⟩ := hn
    rw [Classical.not_imp] at hρ
    exact eway_of hρ.1 ((hA _).2 (sem_not.2 hρ.2))
/-- what judge.Holds tells -/
structure JudE (W : LWorld) (f : Ltl) (s l : List Int) (is : Bool) (err : Int) : Prop where
  bad : err ≠ 0 → is = false ∧ s = [] ∧ l = []
  good : chkE W = 0 → (chkF f 1 0).1 = 0 → (makeT (notT f)).2 = 0 → err = 0
  ok : err = 0 → chkE W = 0 ∧ (chkF f 1 0).1 = 0 ∧ wfT f ∧ (makeT (notT f)).2 = 0 ∧ (is = true ↔ AllW W f) ∧ (is = true → s = [] ∧ l = []) ∧ (is = false → PathE W (makeT (notT f)).1 s l)
theorem jud_found {W : LWorld} {f : Ltl} {s l : List Int} {is : Bool} {err : Int} (hf : (chkF f 1 0).1 = 0) (h : (makeT (notT f)).2 = 0) (hF : FoundE W (makeT (notT f)).1 s l is err) : JudE W f s l (!is && decide (err = 0)) err := by
  have hwn := (makeT_acc (L := fun _ => 0) h).2.2
  have hw : wfT f := by
    have := hwn
    unfold notT at this
    simp only [wfT, wfTs] at this
    exact this.2.2.2.2.1
  have okA := (makeT_acc (L := fun _ => 0) h).1
  rcases hF with ⟨he, rfl, rfl, rfl, hno⟩ | ⟨rfl, hW, hA, ⟨rfl, rfl, rfl, hne⟩ | ⟨rfl, hy, hP⟩⟩
  · exact ⟨fun _ => ⟨by simp [he], rfl, rfl⟩, fun hW _ _ => (hno hW (chkA_of okA)).elim, fun h0 => absurd h0 he⟩
  · exact ⟨fun h => absurd rfl h, fun _ _ _ => rfl, fun _ => ⟨hW, hf, hw, h, ⟨fun _ => Classical.not_not.1 (fun hn => hne ((eway_all (chkE_pos hW) h).2 hn)), fun _ => by simp⟩, fun _ => ⟨rfl, rfl⟩, fun hx => by simp at hx⟩⟩
  · exact ⟨fun h => absurd rfl h, fun _ _ _ => rfl, fun _ => ⟨hW, hf, hw, h, ⟨fun hx => by simp at hx, fun ha => absurd ha ((eway_all (chkE_pos hW) h).1 hy)⟩, fun hx => by simp at hx, fun _ => hP⟩⟩
theorem jud_err {W : LWorld} {f : Ltl} {err : Int} (h : err ≠ 0) (hg : chkE W = 0 → (chkF f 1 0).1 = 0 → (makeT (notT f)).2 = 0 → False) : JudE W f [] [] false err :=
  ⟨fun _ => ⟨rfl, rfl, rfl⟩, fun a b c => (hg a b c).elim, fun h0 => absurd h0 h⟩
set_option maxHeartbeats 1000000 in
theorem jHolds_ok (w0 : World) {vf : Value} {W : LWorld} {f : Ltl} {o1 o2 o3 o4 : Option Addr} {c1 c2 c3 c4 : Nat} (h1 : Sl w0 (Old w0) o1 c1 W.1) (h2 : Sl w0 (Old w0) o2 c2 W.2.1) (h3 : Sl w0 (Old w0) o3 c3 W.2.2.1) (h4 : Sl w0 (Old w0) o4 c4 W.2.2.2) (hf : RL w0 vf f)
    (sW : ∀ j, (W.2.1.getD j []).length ≤ 1048576) (tW : W.1.length ≤ 1048576) :
    Rt Tryz.prog 12 [worldV o1 c1 o2 c2 o3 c3 o4 c4 W.1.length W.2.1.length W.2.2.1.length W.2.2.2.length, vf].toArray w0 fun v w' => (∃ s l is err so sc lo lc, v = .tuple ⟨[pathV so sc lo lc s l, .bool is, .int .i64 err]⟩ ∧ Sl w' (Old w') so sc s ∧ Sl w' (Old w') lo lc l ∧ JudE W f s l is err) ∧ Ext w0 w' := by
  have hm3 := h3.len63
  obtain ⟨ko, kc, rfl, hk⟩ := Rd.ltl hf
  refine Rt.enter2 Tryz.func12 Tryz.ntmps12 rfl rfl ?_
  have hE := Ext.refl w0
  (repeat (first | (apply CW.seq) | (apply CW.region)))
  refine WL.boxB rfl rfl rfl fun w1 hb2 e1 => ?_
  have hE := hE.trans e1
  skip
  refine WL.boxB rfl rfl rfl fun w2 hb3 e2 => ?_
  have hb2 := hb2.ext e2
  have hE := hE.trans e2
  skip
  refine WL.alloc rfl rfl (fun w3 hb4 e3 => ?_)
  have hb2 := hb2.ext e3
  have hb3 := hb3.ext e3
  have l2 := hE.size
  have hE := hE.trans e3
  have l4 := hb4.lt
  (repeat (first | (apply WL.pure; rfl; rfl; rfl) | (apply WL.nil) | (apply EX.thenN) | (apply CW.seq) | (apply CW.region) | (apply WL.ldA; rfl; rfl; rfl; assumption; rfl)))
  refine WL.call rfl rfl rfl (wCheck_ok w3 (h1.up hE) (h2.up hE) hm3 (h4.up hE)) ?_
  rintro _ w4 ⟨rfl, e4⟩
  have hb2 := hb2.ext e4
  have hb3 := hb3.ext e4
  have hb4 := hb4.ext e4
  have hE := hE.trans e4
  clear e1 e2 e3
  (repeat (first | (apply WL.pure; rfl; rfl; rfl) | (apply WL.nil) | (apply EX.thenN) | (apply CW.seq) | (apply CW.region)))
  refine CW.cond rfl (fun h => ?_) (fun h => ?_)
  · have h : chkE W ≠ 0 := by simpa using h
    (repeat (first | (apply CW.seq) | (apply CW.region)))
    refine WL.build (parts := []) rfl rfl rfl rfl ?_
    (repeat (apply WL.pure; rfl; rfl; rfl))
    refine WL.st rfl rfl rfl hb4 rfl rfl (ones_of rfl) (fun w5 hb5 hg5 => ?_)
    have hE5 : Ext w0 w5 := hE.grown hg5 hE.size (fun g hg => by cases hg; omega)
    (repeat (first | (apply WL.pure; rfl; rfl; rfl) | (apply WL.nil) | (apply EX.thenN) | (apply CW.ret) | (apply EX.thenR)))
    exact EX.retCE rfl rfl rfl rfl hb5 rfl ⟨⟨[], [], false, _, _, _, _, _, rfl, Sl.zero w5 _, Sl.zero w5 _, jud_err h (fun h' _ _ => h h')⟩, hE5⟩
  have hW : chkE W = 0 := by simpa using h
  clear h
  (repeat (first | (apply EX.thenN) | (apply CW.seq) | (apply CW.region) | (apply WL.ldA; rfl; rfl; rfl; assumption; rfl) | (apply CW.skip)))
  refine WL.call rfl rfl rfl (ltlCheck w4 (hk.up hE) (fun _ h => h)) ?_
  rintro _ w5 ⟨rfl, e5⟩
  have hb2 := hb2.ext e5
  have hb3 := hb3.ext e5
  have hb4 := hb4.ext e5
  have hE := hE.trans e5
  (repeat (first | (apply WL.pure; rfl; rfl; rfl) | (apply WL.nil) | (apply EX.thenN) | (apply CW.seq) | (apply CW.region)))
  refine CW.cond rfl (fun h => ?_) (fun h => ?_)
  · have h : (chkF f 1 0).1 ≠ 0 := by simpa using h
    (repeat (first | (apply CW.seq) | (apply CW.region)))
    refine WL.build (parts := []) rfl rfl rfl rfl ?_
    (repeat (apply WL.pure; rfl; rfl; rfl))
    refine WL.st rfl rfl rfl hb4 rfl rfl (ones_of rfl) (fun w6 hb6 hg6 => ?_)
    have hE6 : Ext w0 w6 := hE.grown hg6 hE.size (fun g hg => by cases hg; omega)
    (repeat (first | (apply WL.pure; rfl; rfl; rfl) | (apply WL.nil) | (apply EX.thenN) | (apply CW.ret) | (apply EX.thenR)))
    exact EX.retCE rfl rfl rfl rfl hb6 rfl ⟨⟨[], [], false, _, _, _, _, _, rfl, Sl.zero w6 _, Sl.zero w6 _, jud_err h (fun _ h' _ => h h')⟩, hE6⟩
  have hcf : (chkF f 1 0).1 = 0 := by simpa using h
  clear h
  (repeat (first | (apply EX.thenN) | (apply CW.seq) | (apply CW.region) | (apply WL.ldA; rfl; rfl; rfl; assumption; rfl) | (apply CW.skip)))
  refine WL.litR [f] rfl rfl rfl rfl rfl ⟨RL.ext hf hE, trivial⟩ (by show 1 * 3 ≤ 16777216; decide) (fun u w6 e6 hu _ => ?_)
  obtain ⟨fo, fc, rfl, hfs⟩ := hu.sl
  skip
  refine WL.build (parts := [(0, _), (2, _)]) rfl rfl rfl rfl ?_
  skip
  refine WL.call rfl rfl rfl (Make_ok w6 (t := notT f) hfs) ?_
  rintro _ w7 ⟨⟨rv, rfl, hr⟩, e7⟩
  have e57 := e6.trans e7
  have hb2 := hb2.ext e57
  have hb3 := hb3.ext e57
  have hb4 := hb4.ext e57
  have hE := hE.trans e57
  have hsz := makeT_size (notT f)
  have hfd := fun s l is err => jud_found (W := W) (s := s) (l := l) (is := is) (err := err) hcf
  have hje := fun err h => jud_err (W := W) (f := f) (err := err) h
  obtain ⟨q1, f1, q2, f2, q3, f3, q4, f4, q5, f5, rfl, p1, p2, p3, p4, p5⟩ := hr.ok
  generalize (makeT (notT f)).2 = e at *
  generalize (makeT (notT f)).1 = A at *
  clear hr
  (repeat (apply WL.pure; rfl; rfl; rfl))
  refine WL.alloc rfl rfl (fun w8 hb9 e8 => ?_)
  skip
  refine WL.st rfl rfl rfl hb9 rfl rfl (ones_of rfl) (fun w9 hb9 hg9 => ?_)
  have e9 : Ext w7 w9 := e8.grown hg9 e8.size (fun g hg => by cases hg; exact Nat.le_refl _)
  have hb2 := hb2.ext e9
  have hb4 := hb4.ext e9
  have hE := hE.trans e9
  have hA : AutoAt w9 (Old w9) _ A := ⟨q1, f1, q2, f2, q3, f3, q4, f4, q5, f5, rfl, p1.up e9, p2.up e9, p3.up e9, p4.up e9, p5.up e9⟩
  clear e4 e5 e6 e7 e57 e8 e9 hg9 p1 p2 p3 p4 p5 hfs hu hb3
  (repeat (first | (apply WL.pure; rfl; rfl; rfl) | (apply WL.nil) | (apply EX.thenN) | (apply CW.seq) | (apply CW.region)))
  refine CW.cond rfl (fun h => ?_) (fun h => ?_)
  · have h : e ≠ 0 := by simpa using h
    (repeat (first | (apply CW.seq) | (apply CW.region)))
    refine WL.build (parts := []) rfl rfl rfl rfl ?_
    (repeat (apply WL.pure; rfl; rfl; rfl))
    refine WL.st rfl rfl rfl hb4 rfl rfl (ones_of rfl) (fun w10 hb10 hg10 => ?_)
    have hE10 : Ext w0 w10 := hE.grown hg10 hE.size (fun g hg => by cases hg; omega)
    (repeat (first | (apply WL.pure; rfl; rfl; rfl) | (apply WL.nil) | (apply EX.thenN) | (apply CW.ret) | (apply EX.thenR)))
    exact EX.retCE rfl rfl rfl rfl hb10 rfl ⟨⟨[], [], false, _, _, _, _, _, rfl, Sl.zero w10 _, Sl.zero w10 _, hje _ h (fun _ _ h' => h h')⟩, hE10⟩
  have he : e = 0 := by simpa using h
  clear h
  (repeat (first | (apply EX.thenN) | (apply CW.seq) | (apply CW.region) | (apply WL.ldA; rfl; rfl; rfl; assumption; rfl) | (apply CW.skip)))
  refine WL.call rfl rfl rfl (find_ok w9 (W := W) (A := A) (h1.up hE) (h2.up hE) (h3.up hE) (h4.up hE) hA sW hsz.2.1 tW hsz.2.2) ?_
  rintro _ w10 ⟨⟨s, l, is, err, so, sc, lo, lc, rfl, hs, hl, hF⟩, e10⟩
  have hb4 := hb4.ext e10
  have hE := hE.trans e10
  (repeat (apply WL.pure; rfl; rfl; rfl))
  refine WL.alloc rfl rfl (fun w11 hb11 e11 => ?_)
  skip
  refine WL.st rfl rfl rfl hb11 rfl rfl (ones_of rfl) (fun w12 hb11 hg12 => ?_)
  have e12 : Ext w10 w12 := e11.grown hg12 e11.size (fun g hg => by cases hg; exact Nat.le_refl _)
  have hb4 := hb4.ext e12
  have hE := hE.trans e12
  have hs := hs.up e12
  have hl := hl.up e12
  have hJ := hfd s l is err he hF
  clear e11 hg12 hfd hje hF
  have z4 : w2.heap.size < w12.heap.size := hb4.lt
  cases is <;> by_cases h0 : err = 0
  all_goals
    first
      | rw [show decide (err = 0) = true by simpa using h0] at hJ
      | rw [show decide (err = 0) = false by simpa using h0] at hJ
    first
      | have hbe : (err == 0) = true := by simpa using h0
      | have hbe : (err == 0) = false := by simpa using h0
    (repeat (first | (apply WL.pure; rfl; rfl; rfl) | (apply WL.nil) | (apply EX.thenN) | (apply CW.seq) | (apply CW.region) | (apply WL.pass; rfl; rfl) | (apply WL.ldA; rfl; rfl; rfl; assumption; rfl)))
    try rw [hbe]
    skip
    refine WL.st rfl rfl rfl hb4 rfl rfl (ones_of rfl) (fun w13 hb13 hg13 => ?_)
    have hE13 : Ext w0 w13 := hE.grown hg13 hE.size (fun g hg => by cases hg; omega)
    have hne2 : ∀ {ao : Option Addr} {cap : Nat} {xs : List Int}, Sl w12 (Old w12) ao cap xs → Sl w13 (Old w13) ao cap xs := fun h => (h.notB hb4 (fun k x => by
      match k with
      | 0 => simp
      | 1 => simp
      | k + 2 => simp)).mono (fun b hb => hg13.block b hb.1 (fun e => hb.2 (Option.some.inj e))) (fun b hb => Nat.lt_of_lt_of_le hb.1 hg13.size)
    (repeat (first | (apply WL.pure; rfl; rfl; rfl) | (apply WL.nil) | (apply EX.thenN) | (apply CW.ret)))
    exact EX.retCE rfl rfl rfl rfl hb13 rfl ⟨⟨s, l, _, err, _, _, _, _, rfl, hne2 hs, hne2 hl, hJ⟩, hE13⟩
end Go.Proofs.YtllpfgcngokhnaaGreat

/-
  Package label: each, not, both, ex: walked.
-/
set_option linter.unusedVariables false
set_option linter.unusedSimpArgs false
namespace Go.Proofs.YtllpfgcngokhnaaGreat
open Go.RowKit

/-- a labeler of a world -/
def LabAt (w : World) (b : Nat) (nx : Graph) (lb : List Nat) (fr : Graph) : Prop :=
  ∃ (a1 : Option Addr) (c1 n1 : Nat) (a2 : Option Addr) (c2 : Nat) (a3 : Option Addr) (c3 : Nat) (a4 : Option Addr) (c4 : Nat) (ao : Option Addr) (ac : Nat) (bo : Option Addr) (bc : Nat),
    Blk w b 103 [.slice a1 n1 c1, .slice a2 nx.length c2, .slice a3 lb.length c3, .slice a4 fr.length c4, .slice ao (boolsN nx.length (fairP nx fr)).length ac, .slice bo (turnL nx).length bc] ∧
    Sl w (Old w) a2 c2 nx ∧ Sl w (Old w) a3 c3 lb ∧ Sl w (Old w) a4 c4 fr ∧ Sl w (Old w) ao ac (boolsN nx.length (fairP nx fr)) ∧ Sl w (Old w) bo bc (turnL nx)
theorem LabAt.up {w w' : World} {b : Nat} {nx fr : Graph} {lb : List Nat} (h : LabAt w b nx lb fr) (hE : Ext w w') : LabAt w' b nx lb fr := by
  obtain ⟨a1, c1, n1, a2, c2, a3, c3, a4, c4, ao, ac, bo, bc, hb, h2, h3, h4, h5, h6⟩ := h
  exact ⟨a1, c1, n1, a2, c2, a3, c3, a4, c4, ao, ac, bo, bc, hb.ext hE, h2.up hE, h3.up hE, h4.up hE, h5.up hE, h6.up hE⟩
/-- a world that passes -/
structure WOk (nx : Graph) (fr : Graph) : Prop where
  n : nx.length ≤ 600
  g : okG nx
  f : ∀ F ∈ fr, okL nx.length F
  e : edges nx ≤ 8589934592
abbrev labP (b : Nat) : Value := .pointer (some ⟨b, 0, none⟩)
theorem each_ok (w0 : World) {b : Nat} {nx fr : Graph} {lb : List Nat} (hL : LabAt w0 b nx lb fr) (hn : nx.length ≤ 600) {fv : Value} {P : Nat → Prop}
    (hf : ∀ (w : World) (n : Nat), Ext w0 w → n < nx.length → FnV Tryz.prog fv [.int .i64 (n : Int)] w fun v w' => ∃ c : Bool, v = .bool c ∧ (c = true ↔ P n) ∧ Ext w w') :
    Rt Tryz.prog 51 [labP b, fv].toArray w0 fun v w' => Own w' w0.heap.size 4 Non v (boolsN nx.length P) ∧ Ext w0 w' := by
  obtain ⟨a1, c1, n1, a2, c2, a3, c3, a4, c4, ao, ac, bo, bc, hb, h2, h3, h4, h5, h6⟩ := hL
  refine Rt.enter2 Tryz.func51 Tryz.ntmps51 rfl rfl ?_
  (repeat (first | (apply WL.pure; rfl; rfl; rfl) | (apply WL.nil) | (apply EX.thenN) | (apply CW.seq) | (apply CW.region) | (apply WL.lenS; rfl; rfl; rfl) | (apply WL.fa; rfl; rfl; rfl) | (apply WL.nck; rfl; rfl; rfl) | (apply WL.ld; rfl; rfl; rfl; assumption; rfl)))
  refine WL.make (α := Bool) rfl rfl rfl rfl (by omega) (by unfold maxLen; omega) (fun w3 ho3 hg3 => ?_)
  have e3 : Ext w0 w3 := (Below.refl _ _).grown hg3 (Nat.le_refl _) (fun k h => by cases h)
  generalize hsv : Value.slice (some ⟨w0.heap.size, 0, none⟩) nx.length nx.length = sv at *
  have hlv : ∃ ao cap, sv = .slice ao nx.length cap := ⟨_, _, hsv.symm⟩
  (repeat (first | (apply WL.pure; rfl; rfl; rfl) | (apply WL.nil) | (apply EX.thenN) | (apply CW.seq) | (apply CW.region) | (apply CW.block) | (refine WL.lenO rfl rfl rfl (by assumption) ?_)))
  rw [List.length_replicate]
  refine CW.loop (S := Nat × List Bool) (fun s => [(1, fv), (5, sv), (15, .int .i64 nx.length), (16, .int .i64 s.1)])
    (fun s w => s.1 ≤ nx.length ∧ Own w w0.heap.size 4 Non sv s.2 ∧ s.2.length = nx.length ∧ (∀ c, c < s.1 → (s.2.getD c false = true ↔ P c)) ∧ Ext w0 w) (fun s => nx.length - s.1) (0, List.replicate nx.length false) (by repeat (first | exact trivial | refine ⟨rfl, ?_⟩)) ⟨Nat.zero_le _, ho3, by simp, fun c hc => absurd hc (by dsimp only; omega), e3⟩ ?_
  rintro ⟨i, o⟩ w4 ⟨hi, ho, hil, hin, e4⟩
  dsimp only at hi ho hil hin ⊢
  (repeat (first | (apply WL.pure; rfl; rfl; rfl) | (apply WL.nil) | (apply EX.thenN) | (apply CW.seq) | (apply CW.region)))
  refine CW.cond rfl (fun h => ?_) (fun h => ?_)
  · have hi' : i < nx.length := by simp at h; omega
    (repeat (first | (apply WL.pure; rfl; rfl; rfl) | (apply WL.nil) | (apply EX.thenN) | (apply CW.seq) | (apply CW.region) | (apply CW.block) | (apply CW.skip)))
    refine WL.callF rfl rfl rfl rfl (hf w4 i e4 hi') ?_
    rintro _ w5 ⟨c, rfl, hc, e5⟩
    skip
    refine WL.setN (u := .bool c) (yv := c) rfl rfl rfl rfl (ho.extN e5) (show i < o.length by omega) (fun _ => rfl) (fun _ => rfl) (Rd.mkBool _ _ _) (fun w6 q2 ho6 hg6 => ?_)
    have e6 : Ext w0 w6 := (e4.trans e5).grown hg6 (e4.trans e5).size (fun b hb => (ho.lt b hb).1)
    (repeat (first | (apply WL.add; rfl; rfl; rfl; rfl; omega; omega) | (apply WL.pure; rfl; rfl; rfl) | (apply WL.nil) | (apply EX.thenN) | (apply CW.region) | (apply EX.inN)))
    refine EX.back (i + 1, o.set i c) (by repeat (first | exact trivial | refine ⟨rfl, ?_⟩)) ⟨hi', ho6, by simpa using hil, fun k hk => ?_, e6⟩ (by dsimp only; omega)
    dsimp only at hk ⊢
    rw [getD_set (by omega)]
    by_cases e : i = k
    · subst e; rw [if_pos rfl]; exact hc
    · rw [if_neg e]; exact hin k (by omega)
  obtain rfl : i = nx.length := by simp at h; omega
  rw [boolsN_of hil hin] at ho
  (repeat (first | (apply WL.pure; rfl; rfl; rfl) | (apply WL.nil) | (apply EX.thenN) | (apply CW.seq) | (apply CW.region) | (apply CW.exit) | (apply EX.thenX) | (apply EX.inX) | (apply CW.ret)))
  exact EX.ret1 rfl rfl ⟨ho, e4⟩
theorem lnot1 (w : World) {bb x : Nat} {ao : Option Addr} {ac : Nat} {l : List Bool} (hb : Blk w bb 42 [.slice ao l.length ac]) (hl : Sl w (Old w) ao ac l) (hx : x < l.length) :
    Rt Tryz.prog 89 [.int .i64 (x : Int), .pointer (some ⟨bb, 0, none⟩)].toArray w fun v w' => v = .bool (!l.getD x false) ∧ Ext w w' := by
  refine Rt.enter2 Tryz.func89 Tryz.ntmps89 rfl rfl ?_
  (repeat (first | (apply WL.pure; rfl; rfl; rfl) | (apply WL.nil) | (apply EX.thenN) | (apply CW.seq) | (apply CW.region) | (apply WL.ld; rfl; rfl; rfl; assumption; rfl)))
  refine WL.elemB rfl rfl rfl rfl rfl hl hx (wgetB hx).symm (fun _ => rfl) (fun q => ?_)
  (repeat (first | (apply WL.pure; rfl; rfl; rfl) | (apply WL.nil) | (apply EX.thenN) | (apply CW.ret)))
  exact EX.ret1 rfl rfl ⟨rfl, Ext.refl _⟩
theorem not_notB {c : Bool} {P : Prop} (h : c = true ↔ P) : (!c) = true ↔ ¬ P := by
  rw [← h]; cases c <;> simp
theorem lnot_ok (w0 : World) {b : Nat} {nx fr : Graph} {lb : List Nat} (hL : LabAt w0 b nx lb fr) (hn : nx.length ≤ 600) {ao : Option Addr} {ac : Nat} {P : Nat → Prop} (ha : Sl w0 (Old w0) ao ac (boolsN nx.length P)) :
    Rt Tryz.prog 54 [labP b, .slice ao (boolsN nx.length P).length ac].toArray w0 fun v w' => Own w' w0.heap.size 4 Non v (boolsN nx.length fun i => ¬ P i) ∧ Ext w0 w' := by
  refine Rt.enter2 Tryz.func54 Tryz.ntmps54 rfl rfl ?_
  (repeat (first | (apply CW.seq) | (apply CW.region)))
  refine WL.boxB rfl rfl rfl fun w1 hb1 e1 => ?_
  have hlt := hb1.lt
  (repeat (first | (apply WL.pure; rfl; rfl; rfl) | (apply WL.nil) | (apply EX.thenN) | (apply CW.seq) | (apply CW.region) | (apply WL.makeFunc; rfl; rfl; rfl; rfl)))
  refine WL.call rfl rfl rfl (each_ok w1 (P := fun i => ¬ P i) (hL.up e1) hn (fun w n hE hn => FnV.mk (f := 89) (Rt.mono (lnot1 w (hb1.ext hE) (ha.up (e1.trans hE)) (show n < _ by rw [boolsN_len]; exact hn)) (fun v w' hv => ⟨_, hv.1, not_notB (boolsN_iff hn), hv.2⟩)))) ?_
  rintro _ w2 ⟨ho, e2⟩
  (repeat (first | (apply WL.pure; rfl; rfl; rfl) | (apply WL.nil) | (apply EX.thenN) | (apply CW.ret)))
  exact EX.ret1 rfl rfl ⟨ho.low e1.size, e1.trans e2⟩
theorem lboth1 (w : World) {b1 b2 x : Nat} {ao bo : Option Addr} {ac bc : Nat} {l k : List Bool} (hb1 : Blk w b1 42 [.slice ao l.length ac]) (hb2 : Blk w b2 42 [.slice bo k.length bc]) (hl : Sl w (Old w) ao ac l) (hk : Sl w (Old w) bo bc k) (hx : x < l.length) (hx2 : x < k.length) :
    Rt Tryz.prog 90 [.int .i64 (x : Int), .pointer (some ⟨b1, 0, none⟩), .pointer (some ⟨b2, 0, none⟩)].toArray w fun v w' => v = .bool (l.getD x false && k.getD x false) ∧ Ext w w' := by
  refine Rt.enter3 Tryz.func90 Tryz.ntmps90 rfl rfl ?_
  (repeat (first | (apply WL.pure; rfl; rfl; rfl) | (apply WL.nil) | (apply EX.thenN) | (apply CW.seq) | (apply CW.region) | (apply WL.ld; rfl; rfl; rfl; assumption; rfl)))
  refine WL.elemB rfl rfl rfl rfl rfl hl hx (wgetB hx).symm (fun _ => rfl) (fun q => ?_)
  generalize l.getD x false = c
  cases c with
  | false =>
    (repeat (first | (apply WL.pure; rfl; rfl; rfl) | (apply WL.nil) | (apply EX.thenN) | (apply WL.pass; rfl; rfl) | (apply CW.ret)))
    exact EX.ret1 rfl rfl ⟨rfl, Ext.refl _⟩
  | true =>
    (repeat (first | (apply WL.pure; rfl; rfl; rfl) | (apply WL.ld; rfl; rfl; rfl; assumption; rfl)))
    refine WL.elemB rfl rfl rfl rfl rfl hk hx2 (wgetB hx2).symm (fun _ => rfl) (fun q2 => ?_)
    (repeat (first | (apply WL.pure; rfl; rfl; rfl) | (apply WL.nil) | (apply EX.thenN) | (apply CW.ret)))
    exact EX.ret1 rfl rfl ⟨rfl, Ext.refl _⟩
theorem and_andB {c d : Bool} {P Q : Prop} (h : c = true ↔ P) (k : d = true ↔ Q) : (c && d) = true ↔ P ∧ Q := by
  rw [← h, ← k]; cases c <;> cases d <;> simp
theorem lboth_ok (w0 : World) {b : Nat} {nx fr : Graph} {lb : List Nat} (hL : LabAt w0 b nx lb fr) (hn : nx.length ≤ 600) {ao bo : Option Addr} {ac bc : Nat} {P Q : Nat → Prop} (ha : Sl w0 (Old w0) ao ac (boolsN nx.length P)) (hb : Sl w0 (Old w0) bo bc (boolsN nx.length Q)) :
    Rt Tryz.prog 55 [labP b, .slice ao (boolsN nx.length P).length ac, .slice bo (boolsN nx.length Q).length bc].toArray w0 fun v w' => Own w' w0.heap.size 4 Non v (boolsN nx.length fun i => P i ∧ Q i) ∧ Ext w0 w' := by
  refine Rt.enter3 Tryz.func55 Tryz.ntmps55 rfl rfl ?_
  (repeat (first | (apply CW.seq) | (apply CW.region)))
  refine WL.boxB rfl rfl rfl fun w1 hb1 e1 => ?_
  skip
  refine WL.boxB rfl rfl rfl fun w2 hb2 e2 => ?_
  have hb1 := hb1.ext e2
  have hE := e1.trans e2
  (repeat (first | (apply WL.pure; rfl; rfl; rfl) | (apply WL.nil) | (apply EX.thenN) | (apply CW.seq) | (apply CW.region) | (apply WL.makeFunc; rfl; rfl; rfl; rfl)))
  refine WL.call rfl rfl rfl (each_ok w2 (P := fun i => P i ∧ Q i) (hL.up hE) hn (fun w n hE2 hn => FnV.mk (f := 90) (Rt.mono (lboth1 w (hb1.ext hE2) (hb2.ext hE2) (ha.up (hE.trans hE2)) (hb.up (hE.trans hE2)) (show n < _ by rw [boolsN_len]; exact hn) (show n < _ by rw [boolsN_len]; exact hn)) (fun v w' hv => ⟨_, hv.1, and_andB (boolsN_iff hn) (boolsN_iff hn), hv.2⟩)))) ?_
  rintro _ w3 ⟨ho, e3⟩
  (repeat (first | (apply WL.pure; rfl; rfl; rfl) | (apply WL.nil) | (apply EX.thenN) | (apply CW.ret)))
  exact EX.ret1 rfl rfl ⟨ho.low hE.size, hE.trans e3⟩
theorem lex1 (w : World) {b b1 b2 x : Nat} {nx fr : Graph} {lb : List Nat} (hL : LabAt w b nx lb fr) (hok : okG nx) {ao : Option Addr} {ac : Nat} {P : Nat → Prop} (hb1 : Blk w b1 67 [labP b]) (hb2 : Blk w b2 42 [.slice ao (boolsN nx.length P).length ac])
    (hl : Sl w (Old w) ao ac (boolsN nx.length P)) (hx : x < nx.length) :
    Rt Tryz.prog 91 [.int .i64 (x : Int), .pointer (some ⟨b1, 0, none⟩), .pointer (some ⟨b2, 0, none⟩)].toArray w fun v w' => ∃ c : Bool, v = .bool c ∧ (c = true ↔ exP nx fr P x) ∧ Ext w w' := by
  obtain ⟨a1, c1, n1, a2, c2, a3, c3, a4, c4, fo, fc, bo, bc, hb, h2, h3, h4, h5, h6⟩ := hL
  have hrow := okG_row hok x
  rw [wgetDG hx] at hrow
  have hmem : ∀ m : Nat, Eg nx x m ↔ (m : Int) ∈ nx[x] := fun m => by unfold Eg; rw [wgetDG hx]
  refine Rt.enter3 Tryz.func91 Tryz.ntmps91 rfl rfl ?_
  (repeat (first | (apply WL.pure; rfl; rfl; rfl) | (apply WL.nil) | (apply EX.thenN) | (apply CW.seq) | (apply CW.region) | (apply WL.fa; rfl; rfl; rfl) | (apply WL.nck; rfl; rfl; rfl) | (apply WL.ld; rfl; rfl; rfl; assumption; rfl)))
  refine WL.elemN rfl rfl rfl rfl rfl h2 hx (fun _ => rfl) (fun u q hu => ?_)
  obtain ⟨ro, rc, rfl, hr⟩ := hu.sl
  have hrl := hr.len63
  generalize nx[x] = row at *
  (repeat (first | (apply WL.pure; rfl; rfl; rfl) | (apply WL.nil) | (apply EX.thenN) | (apply WL.lenS; rfl; rfl; rfl) | (apply CW.block)))
  refine CW.loop (S := Nat) (fun i => [(1, .pointer (some ⟨b1, 0, none⟩)), (2, .pointer (some ⟨b2, 0, none⟩)), (14, .slice ro row.length rc), (15, .int .i64 row.length), (16, .int .i64 i)])
    (fun i w' => w' = w ∧ i ≤ row.length ∧ ∀ m : Nat, (m : Int) ∈ row.take i → ¬ (P m ∧ fairP nx fr m)) (fun i => row.length - i) 0 (by repeat (first | exact trivial | refine ⟨rfl, ?_⟩)) ⟨rfl, Nat.zero_le _, fun m hm => by simp at hm⟩ ?_
  rintro i w' ⟨rfl, hi, hno⟩
  (repeat (first | (apply WL.pure; rfl; rfl; rfl) | (apply WL.nil) | (apply EX.thenN) | (apply CW.seq) | (apply CW.region)))
  refine CW.cond rfl (fun h => ?_) (fun h => ?_)
  · have hi' : i < row.length := by simp at h; omega
    obtain ⟨k, hk⟩ : ∃ k : Nat, row[i] = (k : Int) := ⟨(row[i]).toNat, by have := hrow _ (List.getElem_mem hi'); omega⟩
    have hkn : k < nx.length := by have := hrow _ (List.getElem_mem hi'); omega
    have htk : row.take (i + 1) = row.take i ++ [(k : Int)] := by rw [List.take_add_one, List.getElem?_eq_getElem hi', hk]; rfl
    have hin : (k : Int) ∈ row := hk ▸ List.getElem_mem hi'
    have bP := boolsN_iff (P := P) hkn
    have bF := boolsN_iff (P := fairP nx fr) hkn
    (repeat (first | (apply EX.thenN) | (apply CW.seq) | (apply CW.region) | (apply CW.block) | (apply CW.skip)))
    refine WL.elemI rfl rfl rfl rfl rfl hr hi' hk (fun _ => rfl) (fun q => ?_)
    (repeat (first | (apply WL.pure; rfl; rfl; rfl) | (apply WL.nil) | (apply EX.thenN) | (apply CW.seq) | (apply CW.region) | (apply WL.ld; rfl; rfl; rfl; assumption; rfl)))
    refine WL.elemB rfl rfl rfl rfl rfl hl (show k < _ by rw [boolsN_len]; exact hkn) (wgetB _).symm (fun _ => rfl) (fun q2 => ?_)
    generalize (boolsN nx.length P).getD k false = c at *
    cases c with
    | false =>
      (repeat (first | (apply WL.add; rfl; rfl; rfl; rfl; omega; omega) | (apply WL.pure; rfl; rfl; rfl) | (apply WL.nil) | (apply EX.thenN) | (apply CW.region) | (apply WL.pass; rfl; rfl) | (apply EX.inN) | (apply CW.condF; rfl) | (apply CW.skip)))
      refine EX.back (i + 1) (by repeat (first | exact trivial | refine ⟨rfl, ?_⟩)) ⟨rfl, hi', fun m hm => ?_⟩ (by omega)
      rw [htk] at hm
      rcases List.mem_append.1 hm with hm | hm
      · exact hno m hm
      · have : m = k := by have := List.mem_singleton.1 hm; omega
        subst this
        exact fun h => by have := bP.2 h.1; cases this
    | true =>
      (repeat (first | (apply WL.pure; rfl; rfl; rfl) | (apply WL.fa; rfl; rfl; rfl) | (apply WL.nck; rfl; rfl; rfl) | (apply WL.ld; rfl; rfl; rfl; assumption; rfl)))
      refine WL.elemB rfl rfl rfl rfl rfl h5 (show k < _ by rw [boolsN_len]; exact hkn) (wgetB _).symm (fun _ => rfl) (fun q3 => ?_)
      generalize (boolsN nx.length (fairP nx fr)).getD k false = c at *
      cases c with
      | false =>
        (repeat (first | (apply WL.add; rfl; rfl; rfl; rfl; omega; omega) | (apply WL.pure; rfl; rfl; rfl) | (apply WL.nil) | (apply EX.thenN) | (apply CW.region) | (apply EX.inN) | (apply CW.condF; rfl) | (apply CW.skip)))
        refine EX.back (i + 1) (by repeat (first | exact trivial | refine ⟨rfl, ?_⟩)) ⟨rfl, hi', fun m hm => ?_⟩ (by omega)
        rw [htk] at hm
        rcases List.mem_append.1 hm with hm | hm
        · exact hno m hm
        · have : m = k := by have := List.mem_singleton.1 hm; omega
          subst this
          exact fun h => by have := bF.2 h.2; cases this
      | true =>
        (repeat (first | (apply WL.pure; rfl; rfl; rfl) | (apply WL.nil) | (apply EX.thenN) | (apply CW.seq) | (apply CW.region) | (apply CW.condT; rfl) | (apply CW.ret) | (apply EX.thenR) | (apply EX.inR)))
        exact EX.ret1 rfl rfl ⟨_, rfl, ⟨fun _ => ⟨k, (hmem k).2 hin, bP.1 rfl, bF.1 rfl⟩, fun _ => rfl⟩, Ext.refl _⟩
  · obtain rfl : i = row.length := by simp at h; omega
    rw [List.take_length] at hno
    (repeat (first | (apply WL.pure; rfl; rfl; rfl) | (apply WL.nil) | (apply EX.thenN) | (apply CW.seq) | (apply CW.region) | (apply CW.exit) | (apply EX.thenX) | (apply EX.inX) | (apply CW.ret)))
    refine EX.ret1 rfl rfl ⟨_, rfl, ⟨(fun h => by cases h), fun ⟨m, h1, h2⟩ => absurd h2 (hno m ((hmem m).1 h1))⟩, Ext.refl _⟩
theorem lex_ok (w0 : World) {b : Nat} {nx fr : Graph} {lb : List Nat} (hL : LabAt w0 b nx lb fr) (hok : okG nx) (hn : nx.length ≤ 600) {ao : Option Addr} {ac : Nat} {P : Nat → Prop} (ha : Sl w0 (Old w0) ao ac (boolsN nx.length P)) :
    Rt Tryz.prog 57 [labP b, .slice ao (boolsN nx.length P).length ac].toArray w0 fun v w' => Own w' w0.heap.size 4 Non v (boolsN nx.length (exP nx fr P)) ∧ Ext w0 w' := by
  refine Rt.enter2 Tryz.func57 Tryz.ntmps57 rfl rfl ?_
  (repeat (first | (apply CW.seq) | (apply CW.region)))
  refine WL.boxB rfl rfl rfl fun w1 hb1 e1 => ?_
  skip
  refine WL.boxB rfl rfl rfl fun w2 hb2 e2 => ?_
  have hb1 := hb1.ext e2
  have hE := e1.trans e2
  (repeat (first | (apply WL.pure; rfl; rfl; rfl) | (apply WL.nil) | (apply EX.thenN) | (apply CW.seq) | (apply CW.region) | (apply WL.makeFunc; rfl; rfl; rfl; rfl) | (apply WL.ld; rfl; rfl; rfl; assumption; rfl)))
  refine WL.call rfl rfl rfl (each_ok w2 (P := exP nx fr P) (hL.up hE) hn (fun w n hE2 hn => FnV.mk (f := 91) (lex1 w (hL.up (hE.trans hE2)) hok (hb1.ext hE2) (hb2.ext hE2) (ha.up (hE.trans hE2)) hn))) ?_
  rintro _ w3 ⟨ho, e3⟩
  (repeat (first | (apply WL.pure; rfl; rfl; rfl) | (apply WL.nil) | (apply EX.thenN) | (apply CW.ret)))
  exact EX.ret1 rfl rfl ⟨ho.low hE.size, hE.trans e3⟩
end Go.Proofs.YtllpfgcngokhnaaGreat

/-
  Package label: eu, eg, au: walked.
-/
set_option linter.unusedVariables false
set_option linter.unusedSimpArgs false
namespace Go.Proofs.YtllpfgcngokhnaaGreat
open Go.RowKit

/- THE SEARCH, PLAIN -/
def unm (out : List Bool) : Nat := out.countP fun b => !b
theorem unm_set {out : List Bool} {k : Nat} (hk : k < out.length) (h : out.getD k false = false) : unm (out.set k true) + 1 = unm out := by
  have hv : out[k] = false := by rw [← wgetB hk]; exact h
  unfold unm
  rw [List.countP_set hk, hv]
  have : 0 < out.countP fun b => !b := List.countP_pos_iff.2 ⟨false, hv ▸ List.getElem_mem _, rfl⟩
  simp only [Bool.not_false, Bool.not_true, if_true, Bool.false_eq_true, if_false]
  omega
theorem turnE_mem {nx : Graph} {c k : Nat} : (k : Int) ∈ (turnL nx).getD c [] ↔ c < nx.length ∧ Eg nx k c := by
  by_cases hc : c < nx.length
  · have hc' : c < (turnL nx).length := by rw [turnL_len]; exact hc
    rw [wgetDG hc', turnL_row hc', List.mem_map]
    constructor
    · rintro ⟨x, hx, e⟩
      obtain rfl : x = k := by omega
      obtain ⟨h1, h2⟩ := List.mem_filter.1 hx
      exact ⟨hc, by unfold Eg; simpa using h2⟩
    · rintro ⟨_, h⟩
      refine ⟨k, List.mem_filter.2 ⟨List.mem_range.2 h.lt1, ?_⟩, rfl⟩
      unfold Eg at h; simpa using h
  · constructor
    · intro h
      rw [List.getD_eq_getElem?_getD, List.getElem?_eq_none (by rw [turnL_len]; omega)] at h
      cases h
    · exact fun h => absurd h.1 hc
structure EuI (nx : Graph) (A B : Nat → Prop) (out : List Bool) (todo : List Int) (cur : Option (Nat × Nat)) : Prop where
  len : out.length = nx.length
  td : ∀ x ∈ todo, 0 ≤ x ∧ x < nx.length ∧ out.getD x.toNat false = true
  snd : ∀ c, c < nx.length → out.getD c false = true → EuP (Eg nx) A B c
  bas : ∀ c, c < nx.length → B c → out.getD c false = true
  cls : ∀ c, c < nx.length → out.getD c false = true → (c : Int) ∈ todo ∨ (∀ k, Eg nx k c → A k → out.getD k false = true) ∨ ∃ j, cur = some (c, j) ∧ ∀ k : Nat, (k : Int) ∈ ((turnL nx).getD c []).take j → A k → out.getD k false = true
  cnt : todo.length + unm out ≤ nx.length
section
variable {nx : Graph} {A B : Nat → Prop} {out : List Bool} {todo : List Int}
theorem EuI.done (hok : okG nx) (h : EuI nx A B out [] none) : out = boolsN nx.length (EuP (Eg nx) A B) := by
  refine boolsN_of h.len fun c hc => ⟨h.snd c hc, fun hu => ?_⟩
  induction hu with
  | here hb => exact h.bas _ hc hb
  | @step n m h1 h2 h3 ih =>
    have hm := h2.lt hok
    rcases h.cls m hm (ih hm) with h4 | h4 | ⟨j, h4, _⟩
    · cases h4
    · exact h4 n h2 h1
    · cases h4
theorem EuI.pop {c : Nat} {r : List Int} (h : EuI nx A B out ((c : Int) :: r) none) : EuI nx A B out r (some (c, 0)) := by
  refine ⟨h.len, fun x hx => h.td x (by simp [hx]), h.snd, h.bas, fun c' hc' ho => ?_, by have := h.cnt; simp at this; omega⟩
  rcases h.cls c' hc' ho with h4 | h4 | ⟨j, h4, _⟩
  · rcases List.mem_cons.1 h4 with h4 | h4
    · exact .inr (.inr ⟨0, by rw [show c' = c by omega], fun k hk => by simp at hk⟩)
    · exact .inl h4
  · exact .inr (.inl h4)
  · cases h4
theorem EuI.rowEnd {c j : Nat} (h : EuI nx A B out todo (some (c, j))) (hj : ((turnL nx).getD c []).length ≤ j) : EuI nx A B out todo none := by
  refine ⟨h.len, h.td, h.snd, h.bas, fun c' hc' ho => ?_, h.cnt⟩
  rcases h.cls c' hc' ho with h4 | h4 | ⟨j', h4, h5⟩
  · exact .inl h4
  · exact .inr (.inl h4)
  · obtain ⟨rfl, rfl⟩ := Prod.mk.inj (Option.some.inj h4)
    rw [List.take_of_length_le hj] at h5
    exact .inr (.inl fun k hk ha => h5 k (turnE_mem.2 ⟨hc', hk⟩) ha)
theorem EuI.skip {c j k : Nat} (h : EuI nx A B out todo (some (c, j))) (hj : j < ((turnL nx).getD c []).length) (hk : ((turnL nx).getD c [])[j] = (k : Int)) (ha : A k → out.getD k false = true) : EuI nx A B out todo (some (c, j + 1)) := by
  refine ⟨h.len, h.td, h.snd, h.bas, fun c' hc' ho => ?_, h.cnt⟩
  rcases h.cls c' hc' ho with h4 | h4 | ⟨j', h4, h5⟩
  · exact .inl h4
  · exact .inr (.inl h4)
  · obtain ⟨rfl, rfl⟩ := Prod.mk.inj (Option.some.inj h4)
    refine .inr (.inr ⟨j + 1, rfl, fun k' hk' ha' => ?_⟩)
    rw [List.take_add_one, List.getElem?_eq_getElem hj, hk] at hk'
    rcases List.mem_append.1 hk' with hk' | hk'
    · exact h5 k' hk' ha'
    · have : k' = k := by have := List.mem_singleton.1 hk'; omega
      subst this; exact ha ha'
theorem EuI.mark {c j k : Nat} (hc : c < nx.length) (ho : out.getD c false = true) (h : EuI nx A B out todo (some (c, j))) (hj : j < ((turnL nx).getD c []).length) (hk : ((turnL nx).getD c [])[j] = (k : Int)) (ha : A k) (hu : out.getD k false = false) :
    EuI nx A B (out.set k true) (todo ++ [(k : Int)]) (some (c, j + 1)) ∧ k < nx.length := by
  have hin : (k : Int) ∈ (turnL nx).getD c [] := hk ▸ List.getElem_mem hj
  obtain ⟨_, he⟩ := turnE_mem.1 hin
  have hkn := he.lt1
  have hg : ∀ i, (out.set k true).getD i false = if k = i then true else out.getD i false := fun i => getD_set (by rw [h.len]; exact hkn)
  have up : ∀ i, out.getD i false = true → (out.set k true).getD i false = true := fun i hi => by rw [hg]; split; rfl; exact hi
  refine ⟨⟨by simp [h.len], fun x hx => ?_, fun i hi hoi => ?_, fun i hi hb => up i (h.bas i hi hb), fun i hi hoi => ?_, ?_⟩, hkn⟩
  · rcases List.mem_append.1 hx with hx | hx
    · obtain ⟨h1, h2, h3⟩ := h.td x hx
      exact ⟨h1, h2, up _ h3⟩
    · rw [List.mem_singleton] at hx; subst hx
      exact ⟨by omega, by omega, by rw [hg]; simp⟩
  · rw [hg] at hoi
    split at hoi
    · rename_i e; subst e; exact .step ha he (h.snd c hc ho)
    · exact h.snd i hi hoi
  · rw [hg] at hoi
    split at hoi
    · rename_i e; subst e; exact .inl (List.mem_append_right _ (by simp))
    · rcases h.cls i hi hoi with h4 | h4 | ⟨j', h4, h5⟩
      · exact .inl (List.mem_append_left _ h4)
      · exact .inr (.inl fun q hq hq2 => up q (h4 q hq hq2))
      · obtain ⟨rfl, rfl⟩ := Prod.mk.inj (Option.some.inj h4)
        refine .inr (.inr ⟨j + 1, rfl, fun k' hk' ha' => ?_⟩)
        rw [List.take_add_one, List.getElem?_eq_getElem hj, hk] at hk'
        rcases List.mem_append.1 hk' with hk' | hk'
        · exact up _ (h5 k' hk' ha')
        · have : k' = k := by have := List.mem_singleton.1 hk'; omega
          subst this; rw [hg]; simp
  · have := unm_set (out := out) (by rw [h.len]; exact hkn) hu
    have := h.cnt
    rw [List.length_append]; simp; omega
end
/-- the marked ones of the first i -/
def trueL (out : List Bool) (i : Nat) : List Int := ((List.range i).filter fun c => out.getD c false).map fun c : Nat => (c : Int)
theorem trueL_next {out : List Bool} {i : Nat} : trueL out (i + 1) = trueL out i ++ if out.getD i false = true then [(i : Int)] else [] := by
  unfold trueL
  rw [List.range_succ, List.filter_append, List.map_append]
  congr 1
  cases h : out.getD i false with
  | false => rw [List.filter_cons_of_neg (by rw [h]; decide)]; rfl
  | true => rw [List.filter_cons_of_pos (by rw [h])]; rfl
theorem trueL_mem {out : List Bool} {i c : Nat} : (c : Int) ∈ trueL out i ↔ c < i ∧ out.getD c false = true := by
  unfold trueL
  rw [List.mem_map]
  constructor
  · rintro ⟨x, hx, e⟩
    obtain rfl : x = c := by omega
    obtain ⟨h1, h2⟩ := List.mem_filter.1 hx
    exact ⟨List.mem_range.1 h1, h2⟩
  · rintro ⟨h1, h2⟩
    exact ⟨c, List.mem_filter.2 ⟨List.mem_range.2 h1, h2⟩, rfl⟩
theorem trueL_len {out : List Bool} : ∀ i, i ≤ out.length → (trueL out i).length + (out.take i).countP (fun b => !b) = i
  | 0, _ => by simp [trueL]
  | i + 1, h => by
    have hi : i < out.length := by omega
    have ih := trueL_len (out := out) i (by omega)
    rw [trueL_next, List.length_append, List.take_add_one, List.getElem?_eq_getElem hi, List.countP_append, wgetB hi]
    cases hb : out[i] <;> simp <;> omega
theorem EuI.start {nx : Graph} {A B : Nat → Prop} : EuI nx A B (boolsN nx.length B) (trueL (boolsN nx.length B) nx.length) none := by
  refine ⟨boolsN_len, fun x hx => ?_, fun c hc h => .here ((boolsN_iff hc).1 h), fun c hc h => (boolsN_iff hc).2 h, fun c hc h => .inl (trueL_mem.2 ⟨hc, h⟩), ?_⟩
  · obtain ⟨c, hc, rfl⟩ : ∃ c : Nat, c < nx.length ∧ x = (c : Int) := by
      unfold trueL at hx
      obtain ⟨c, hc, rfl⟩ := List.mem_map.1 hx
      exact ⟨c, List.mem_range.1 (List.mem_filter.1 hc).1, rfl⟩
    exact ⟨by omega, by omega, (trueL_mem.1 hx).2⟩
  · have := trueL_len (out := boolsN nx.length B) nx.length (by rw [boolsN_len]; exact Nat.le_refl _)
    rw [List.take_of_length_le (by rw [boolsN_len]; exact Nat.le_refl _)] at this
    unfold unm; omega

set_option maxHeartbeats 1000000 in
theorem leu_ok (w0 : World) {b : Nat} {nx fr : Graph} {lb : List Nat} (hL : LabAt w0 b nx lb fr) (hok : okG nx) (hn : nx.length ≤ 600) {ao bo : Option Addr} {ac bc : Nat} {P Q : Nat → Prop} (ha : Sl w0 (Old w0) ao ac (boolsN nx.length P)) (hb : Sl w0 (Old w0) bo bc (boolsN nx.length Q)) :
    Rt Tryz.prog 58 [labP b, .slice ao (boolsN nx.length P).length ac, .slice bo (boolsN nx.length Q).length bc].toArray w0 fun v w' => Own w' w0.heap.size 4 Non v (boolsN nx.length (euP nx fr P Q)) ∧ Ext w0 w' := by
  have hL0 := hL
  obtain ⟨a1, c1, n1, a2, c2, a3, c3, a4, c4, fo, fc, ro, rc, hlb, h2, h3, h4, h5, h6⟩ := hL
  refine Rt.enter3 Tryz.func58 Tryz.ntmps58 rfl rfl ?_
  (repeat (first | (apply WL.pure; rfl; rfl; rfl) | (apply WL.nil) | (apply EX.thenN) | (apply CW.seq) | (apply CW.region) | (apply WL.fa; rfl; rfl; rfl) | (apply WL.nck; rfl; rfl; rfl) | (apply WL.ld; rfl; rfl; rfl; assumption; rfl)))
  refine WL.call rfl rfl rfl (lboth_ok w0 hL0 hn hb h5) ?_
  rintro _ w1 ⟨ho, e1⟩
  rename_i ov
  have hov : ∃ oo oc, ov = .slice oo nx.length oc := by
    obtain ⟨oo, oc, e⟩ := ho.val
    rw [boolsN_len] at e; exact ⟨oo, oc, e⟩
  obtain ⟨oo, oc, rfl⟩ := hov
  (repeat (first | (apply WL.pure; rfl; rfl; rfl) | (apply WL.nil) | (apply EX.thenN) | (apply CW.seq) | (apply CW.region) | (apply WL.lenS; rfl; rfl; rfl) | (apply CW.block)))
  refine CW.loop (S := Nat × Value) (fun s => [(0, labP b), (1, .slice ao (boolsN nx.length P).length ac), (7, .slice oo nx.length oc), (8, s.2), (21, .slice oo nx.length oc), (22, .int .i64 nx.length), (23, .int .i64 s.1)])
    (fun s w => s.1 ≤ nx.length ∧ Own w w0.heap.size 4 Non (.slice oo nx.length oc) (boolsN nx.length fun i => Q i ∧ fairP nx fr i) ∧ Own w w0.heap.size 3 Non s.2 (trueL (boolsN nx.length fun i => Q i ∧ fairP nx fr i) s.1) ∧ (∀ g, s.2.ownBlock = some g → Value.ownBlock (.slice oo nx.length oc) ≠ some g) ∧ Ext w0 w)
    (fun s => nx.length - s.1) (0, .slice none 0 0) (by repeat (first | exact trivial | refine ⟨rfl, ?_⟩)) ⟨Nat.zero_le _, ho, Own.nil, (fun g hg => by cases hg), e1⟩ ?_
  · clear ho e1
    rintro ⟨i, tv⟩ w2 ⟨hi, ho, ht, hd, e2⟩
    dsimp only at hi ho ht hd e2 ⊢
    have hle := trueL_len (out := boolsN nx.length fun i => Q i ∧ fairP nx fr i) i (by rw [boolsN_len]; exact hi)
    (repeat (first | (apply WL.pure; rfl; rfl; rfl) | (apply WL.nil) | (apply EX.thenN) | (apply CW.seq) | (apply CW.region)))
    refine CW.cond rfl (fun h => ?_) (fun h => ?_)
    · have hi' : i < nx.length := by simp at h; omega
      have hix : i < (boolsN nx.length fun i => Q i ∧ fairP nx fr i).length := by rw [boolsN_len]; exact hi'
      have hnx := trueL_next (out := boolsN nx.length fun i => Q i ∧ fairP nx fr i) (i := i)
      (repeat (first | (apply WL.pure; rfl; rfl; rfl) | (apply EX.thenN) | (apply CW.seq) | (apply CW.region) | (apply CW.block) | (apply CW.skip)))
      refine WL.elemON (i := i) rfl rfl rfl rfl rfl ho hix (fun _ => rfl) (fun u q hu => ?_)
      rw [hu.bool, ← wgetB hix]
      clear hu
      generalize (boolsN nx.length fun i => Q i ∧ fairP nx fr i).getD i false = c at *
      cases c with
      | false =>
        rw [if_neg (by decide), List.append_nil] at hnx
        rw [← hnx] at ht
        (repeat (first | (apply WL.add; rfl; rfl; rfl; rfl; omega; omega) | (apply WL.pure; rfl; rfl; rfl) | (apply WL.nil) | (apply EX.thenN) | (apply CW.seq) | (apply CW.region) | (apply EX.inN) | (apply CW.condF; rfl) | (apply CW.skip)))
        exact EX.back (i + 1, tv) (by repeat (first | exact trivial | refine ⟨rfl, ?_⟩)) ⟨hi', ho, ht, hd, e2⟩ (by dsimp only; omega)
      | true =>
        rw [if_pos rfl] at hnx
        (repeat (first | (apply WL.pure; rfl; rfl; rfl) | (apply WL.nil) | (apply EX.thenN) | (apply CW.seq) | (apply CW.region) | (apply CW.condT; rfl)))
        refine WL.app1 (α := Int) (F := Non) (bytes := 8) rfl rfl (fun _ => rfl) rfl rfl (fun _ => rfl) ht (Rd.mkInt _ _ _) e2.size (fun _ h => h.elim) (by decide) (by unfold maxLen; omega) (by omega) (fun tv' w3 q ht3 hg3 hnb3 => ?_)
        rw [← hnx] at ht3
        (repeat (first | (apply WL.add; rfl; rfl; rfl; rfl; omega; omega) | (apply WL.pure; rfl; rfl; rfl) | (apply WL.nil) | (apply EX.thenN) | (apply CW.region) | (apply EX.inN)))
        exact EX.back (i + 1, tv') (by repeat (first | exact trivial | refine ⟨rfl, ?_⟩)) ⟨hi', ho.keptN hg3 (fun g hg e => hd g e.symm hg), ht3, fun g hg e => by
          rcases hnb3 g hg with h | h
          · exact hd g h e
          · have := (ho.lt g e).2.1; omega, e2.grown hg3 e2.size (fun g hg => (ht.lt g hg).1)⟩ (by dsimp only; omega)
    obtain rfl : i = nx.length := by simp at h; omega
    have hI0 : EuI nx P (fun i => Q i ∧ fairP nx fr i) _ _ none := EuI.start
    generalize trueL (boolsN nx.length fun i => Q i ∧ fairP nx fr i) nx.length = todo at *
    generalize (boolsN nx.length fun i => Q i ∧ fairP nx fr i) = out at *
    (repeat (first | (apply EX.thenN) | (apply CW.seq) | (apply CW.block) | (apply CW.exit) | (apply EX.thenX) | (apply EX.inX)))
    refine CW.loop (S := List Bool × Value × List Int) (fun s => [(0, labP b), (1, .slice ao (boolsN nx.length P).length ac), (7, .slice oo nx.length oc), (8, s.2.1)])
      (fun s w => EuI nx P (fun i => Q i ∧ fairP nx fr i) s.1 s.2.2 none ∧ Own w w0.heap.size 4 Non (.slice oo nx.length oc) s.1 ∧ Own w w0.heap.size 3 Non s.2.1 s.2.2 ∧ (∀ g, s.2.1.ownBlock = some g → Value.ownBlock (.slice oo nx.length oc) ≠ some g) ∧ Ext w0 w)
      (fun s => s.2.2.length + 2 * unm s.1) (out, tv, todo) (by repeat (first | exact trivial | refine ⟨rfl, ?_⟩)) ⟨hI0, ho, ht, hd, e2⟩ ?_
    clear hI0 ho ht hd e2 hle h tv
    rintro ⟨out, tv, todo⟩ w2 ⟨hI, ho, ht, hd, e2⟩
    dsimp only at hI ho ht hd e2 ⊢
    (repeat (first | (apply WL.pure; rfl; rfl; rfl) | (apply WL.nil) | (apply EX.thenN) | (apply CW.seq) | (apply CW.region) | (refine WL.lenO rfl rfl rfl (by assumption) ?_)))
    refine CW.cond rfl (fun h => ?_) (fun h => ?_)
    · have ht0 : 0 < todo.length := by simpa using h
      obtain ⟨x, r, rfl⟩ : ∃ x r, todo = x :: r := by
        cases todo with
        | nil => simp at ht0
        | cons x r => exact ⟨x, r, rfl⟩
      obtain ⟨hx0, hxn, hxo⟩ := hI.td x (by simp)
      obtain ⟨c, rfl⟩ : ∃ c : Nat, x = (c : Int) := ⟨x.toNat, by omega⟩
      rw [Int.toNat_natCast] at hxo
      have hc : c < nx.length := by omega
      have hct : c < (turnL nx).length := by rw [turnL_len]; exact hc
      have hb2 := hlb.ext e2
      have hrows := h6.at e2
      (repeat (first | (apply WL.pure; rfl; rfl; rfl) | (apply EX.thenN) | (apply CW.seq) | (apply CW.region) | (apply CW.block) | (apply CW.skip)))
      refine WL.elemON (i := 0) rfl rfl rfl rfl rfl ht (by simp) (fun _ => rfl) (fun u q hu => ?_)
      rw [hu.int]
      simp only [List.getElem_cons_zero]
      (repeat (first | (apply WL.pure; rfl; rfl; rfl) | (apply WL.nil) | (apply EX.thenN) | (apply CW.seq) | (apply CW.region)))
      refine WL.cutLoO (α := Int) 1 rfl rfl rfl rfl rfl ht (by simp) (fun tv2 ht2 hnb => ?_)
      rw [List.drop_one, List.tail_cons] at ht2
      (repeat (first | (apply WL.pure; rfl; rfl; rfl) | (apply WL.nil) | (apply EX.thenN) | (apply CW.seq) | (apply CW.region) | (apply WL.fa; rfl; rfl; rfl) | (apply WL.nck; rfl; rfl; rfl) | (apply WL.ld; rfl; rfl; rfl; assumption; rfl)))
      refine WL.elemN (i := c) rfl rfl rfl rfl rfl hrows hct (fun _ => rfl) (fun u2 q2 hu2 => ?_)
      obtain ⟨po, pc, rfl, hp⟩ := hu2.sl
      have hpl := hp.len63
      have hgr : (turnL nx)[c] = (turnL nx).getD c [] := (wgetDG hct).symm
      rw [hgr] at hp hpl ⊢
      clear ht ht0 hu hu2 hgr hrows hb2
      (repeat (first | (apply WL.pure; rfl; rfl; rfl) | (apply WL.nil) | (apply EX.thenN) | (apply WL.lenS; rfl; rfl; rfl) | (apply CW.block)))
      refine CW.loop (S := Nat × List Bool × Value × List Int) (fun s => [(0, labP b), (1, .slice ao (boolsN nx.length P).length ac), (7, .slice oo nx.length oc), (8, s.2.2.1), (48, .slice po ((turnL nx).getD c []).length pc), (49, .int .i64 ((turnL nx).getD c []).length), (50, .int .i64 s.1)])
        (fun s w => s.1 ≤ ((turnL nx).getD c []).length ∧ EuI nx P (fun i => Q i ∧ fairP nx fr i) s.2.1 s.2.2.2 (some (c, s.1)) ∧ s.2.1.getD c false = true ∧ Own w w0.heap.size 4 Non (.slice oo nx.length oc) s.2.1 ∧ Own w w0.heap.size 3 Non s.2.2.1 s.2.2.2 ∧ (∀ g, s.2.2.1.ownBlock = some g → Value.ownBlock (.slice oo nx.length oc) ≠ some g) ∧ Ext w0 w ∧ s.2.2.2.length + 2 * unm s.2.1 + 1 ≤ ((c : Int) :: r).length + 2 * unm out)
        (fun s => ((turnL nx).getD c []).length - s.1) (0, out, tv2, r) (by repeat (first | exact trivial | refine ⟨rfl, ?_⟩)) ⟨Nat.zero_le _, hI.pop, hxo, ho, ht2, (fun g hg => hd g (hnb ▸ hg)), e2, by simp only [List.length_cons]; omega⟩ ?_
      clear hI ho ht2 hd hxo hnb
      rintro ⟨j, o2, tv3, t2⟩ w3 ⟨hj, hI, hco, ho, ht, hd, e3, hmu⟩
      dsimp only at hj hI hco ho ht hd e3 hmu ⊢
      (repeat (first | (apply WL.pure; rfl; rfl; rfl) | (apply WL.nil) | (apply EX.thenN) | (apply CW.seq) | (apply CW.region)))
      refine CW.cond rfl (fun h => ?_) (fun h => ?_)
      · have hj' : j < ((turnL nx).getD c []).length := by simp only [decide_eq_true_eq] at h; omega
        obtain ⟨k, hk⟩ : ∃ k : Nat, ((turnL nx).getD c [])[j] = (k : Int) := ⟨(((turnL nx).getD c [])[j]).toNat, by
          have := okG_row (turnL_ok nx) c _ (List.getElem_mem hj'); omega⟩
        have hkn : k < nx.length := by
          have := okG_row (turnL_ok nx) c _ (List.getElem_mem hj')
          rw [turnL_len] at this; omega
        have hp3 : Sl w3 (Old w0) po pc ((turnL nx).getD c []) := hp.mono (fun b hb => (e3.block b hb).trans (e2.block b hb).symm) (fun _ h => h)
        have haa := ha.up e3
        have bP := boolsN_iff (P := P) hkn
        have hko : k < o2.length := by rw [hI.len]; exact hkn
        (repeat (first | (apply EX.thenN) | (apply CW.seq) | (apply CW.region) | (apply CW.block) | (apply CW.skip)))
        refine WL.elemI rfl rfl rfl rfl rfl hp3 hj' hk (fun _ => rfl) (fun q => ?_)
        (repeat (first | (apply WL.pure; rfl; rfl; rfl) | (apply WL.nil) | (apply EX.thenN) | (apply CW.seq) | (apply CW.region)))
        refine WL.elemB rfl rfl rfl rfl rfl haa (show k < _ by rw [boolsN_len]; exact hkn) (wgetB _).symm (fun _ => rfl) (fun q2 => ?_)
        generalize (boolsN nx.length P).getD k false = pk at *
        cases pk with
        | false =>
          (repeat (first | (apply WL.add; rfl; rfl; rfl; rfl; omega; omega) | (apply WL.pure; rfl; rfl; rfl) | (apply WL.nil) | (apply EX.thenN) | (apply CW.region) | (apply WL.pass; rfl; rfl) | (apply EX.inN) | (apply CW.condF; rfl) | (apply CW.skip)))
          exact EX.back (j + 1, o2, tv3, t2) (by repeat (first | exact trivial | refine ⟨rfl, ?_⟩)) ⟨hj', hI.skip hj' hk (fun h => by have := bP.2 h; cases this), hco, ho, ht, hd, e3, hmu⟩ (by dsimp only; omega)
        | true =>
          (repeat (apply WL.pure; rfl; rfl; rfl))
          refine WL.elemON (i := k) rfl rfl rfl rfl rfl ho hko (fun _ => rfl) (fun u q3 hu => ?_)
          rw [hu.bool, ← wgetB hko]
          cases hok2 : o2.getD k false with
          | true =>
            (repeat (first | (apply WL.add; rfl; rfl; rfl; rfl; omega; omega) | (apply WL.pure; rfl; rfl; rfl) | (apply WL.nil) | (apply EX.thenN) | (apply CW.region) | (apply EX.inN) | (apply CW.condF; rfl) | (apply CW.skip)))
            exact EX.back (j + 1, o2, tv3, t2) (by repeat (first | exact trivial | refine ⟨rfl, ?_⟩)) ⟨hj', hI.skip hj' hk (fun _ => hok2), hco, ho, ht, hd, e3, hmu⟩ (by dsimp only; omega)
          | false =>
            obtain ⟨hI4, _⟩ := hI.mark hc hco hj' hk (bP.1 rfl) hok2
            have hu4 := unm_set hko hok2
            have hcnt := hI4.cnt
            have hcnt' := hI.cnt
            (repeat (first | (apply WL.pure; rfl; rfl; rfl) | (apply WL.nil) | (apply EX.thenN) | (apply CW.seq) | (apply CW.region) | (apply CW.condT; rfl)))
            refine WL.setN (u := .bool true) (yv := true) rfl rfl rfl rfl ho hko (fun _ => rfl) (fun _ => rfl) (Rd.mkBool _ _ _) (fun w4 q4 ho4 hg4 => ?_)
            have e4 : Ext w0 w4 := e3.grown hg4 e3.size (fun g hg => (ho.lt g hg).1)
            have ht4 := ht.keptN hg4 (fun g hg e => hd g hg e.symm)
            (repeat (first | (apply WL.pure; rfl; rfl; rfl) | (apply WL.nil) | (apply EX.thenN) | (apply CW.region)))
            refine WL.app1 (α := Int) (F := Non) (bytes := 8) rfl rfl (fun _ => rfl) rfl rfl (fun _ => rfl) ht4 (Rd.mkInt _ _ _) e4.size (fun _ h => h.elim) (by decide) (by unfold maxLen; omega) (by omega) (fun tv' w5 q5 ht5 hg5 hnb5 => ?_)
            (repeat (first | (apply WL.add; rfl; rfl; rfl; rfl; omega; omega) | (apply WL.pure; rfl; rfl; rfl) | (apply WL.nil) | (apply EX.thenN) | (apply CW.region) | (apply EX.inN)))
            refine EX.back (j + 1, o2.set k true, tv', t2 ++ [(k : Int)]) (by repeat (first | exact trivial | refine ⟨rfl, ?_⟩)) ⟨hj', hI4, ?_, ho4.keptN hg5 (fun g hg e => hd g e.symm hg), ht5, fun g hg e => ?_, e4.grown hg5 e4.size (fun g hg => (ht4.lt g hg).1), ?_⟩ (by dsimp only; omega)
            · dsimp only; rw [getD_set hko]; split; rfl; exact hco
            · rcases hnb5 g hg with h | h
              · exact hd g h e
              · have := (ho4.lt g e).2.1; omega
            · dsimp only; rw [List.length_append]; simp only [List.length_cons, List.length_nil] at hmu ⊢; omega
      · have hj' : ((turnL nx).getD c []).length ≤ j := by simp only [decide_eq_false_iff_not] at h; omega
        (repeat (first | (apply EX.inN) | (apply CW.exit) | (apply EX.thenX) | (apply EX.inX)))
        exact EX.back (o2, tv3, t2) (by repeat (first | exact trivial | refine ⟨rfl, ?_⟩)) ⟨hI.rowEnd hj', ho, ht, hd, e3⟩ (by dsimp only; simp only [List.length_cons] at hmu ⊢; omega)
    · have ht0 : todo = [] := List.eq_nil_of_length_eq_zero (by simpa using h)
      subst ht0
      rw [hI.done hok] at ho
      (repeat (first | (apply WL.pure; rfl; rfl; rfl) | (apply WL.nil) | (apply EX.thenN) | (apply CW.seq) | (apply CW.region) | (apply CW.exit) | (apply EX.thenX) | (apply EX.inX) | (apply CW.ret)))
      exact EX.ret1 rfl rfl ⟨ho, e2⟩
theorem leg_ok (w0 : World) {b : Nat} {nx fr : Graph} {lb : List Nat} (hL : LabAt w0 b nx lb fr) (hW : WOk nx fr) {ao : Option Addr} {ac : Nat} {P : Nat → Prop} (ha : Sl w0 (Old w0) ao ac (boolsN nx.length P)) :
    Rt Tryz.prog 59 [labP b, .slice ao (boolsN nx.length P).length ac].toArray w0 fun v w' => Own w' w0.heap.size 4 Non v (boolsN nx.length (egP nx fr P)) ∧ Ext w0 w' := by
  obtain ⟨a1, c1, n1, a2, c2, a3, c3, a4, c4, fo, fc, ro, rc, hlb, h2, h3, h4, h5, h6⟩ := hL
  refine Rt.enter2 Tryz.func59 Tryz.ntmps59 rfl rfl ?_
  (repeat (first | (apply WL.pure; rfl; rfl; rfl) | (apply WL.nil) | (apply EX.thenN) | (apply CW.seq) | (apply CW.region) | (apply WL.fa; rfl; rfl; rfl) | (apply WL.nck; rfl; rfl; rfl) | (apply WL.ldA; rfl; rfl; rfl; assumption; rfl)))
  refine WL.call rfl rfl rfl (Within_ok w0 (inn := boolsN nx.length P) (n1 := n1) (a1 := a1) (c1 := c1) h2 h4 ha hW.g hW.f boolsN_len hW.n hW.e) ?_
  rintro _ w1 ⟨ho, e1⟩
  rw [within_egP hW.g] at ho
  (repeat (first | (apply WL.pure; rfl; rfl; rfl) | (apply WL.nil) | (apply EX.thenN) | (apply CW.ret)))
  exact EX.ret1 rfl rfl ⟨ho, e1⟩
theorem Own.asSl {w : World} {B : Nat} {e : TypeId} {v : Value} {xs : List Bool} (h : Own w B e Non v xs) : ∃ ao cap, v = .slice ao xs.length cap ∧ Sl w (Old w) ao cap xs := h.oldN.sl
set_option maxHeartbeats 1000000 in
theorem lau_ok (w0 : World) {b : Nat} {nx fr : Graph} {lb : List Nat} (hL : LabAt w0 b nx lb fr) (hW : WOk nx fr) {ao bo : Option Addr} {ac bc : Nat} {P Q : Nat → Prop} (ha : Sl w0 (Old w0) ao ac (boolsN nx.length P)) (hb : Sl w0 (Old w0) bo bc (boolsN nx.length Q)) :
    Rt Tryz.prog 60 [labP b, .slice ao (boolsN nx.length P).length ac, .slice bo (boolsN nx.length Q).length bc].toArray w0 fun v w' => Own w' w0.heap.size 4 Non v (boolsN nx.length (auP nx fr P Q)) ∧ Ext w0 w' := by
  have hn := hW.n
  refine Rt.enter3 Tryz.func60 Tryz.ntmps60 rfl rfl ?_
  (repeat (first | (apply WL.pure; rfl; rfl; rfl) | (apply WL.nil) | (apply EX.thenN) | (apply CW.seq) | (apply CW.region)))
  refine WL.call rfl rfl rfl (lnot_ok w0 hL hn hb) ?_
  rintro _ w1 ⟨hxo, e1⟩
  obtain ⟨xo, xc, rfl, hx⟩ := hxo.asSl
  (repeat (apply WL.pure; rfl; rfl; rfl))
  refine WL.call rfl rfl rfl (lnot_ok w1 (hL.up e1) hn (ha.up e1)) ?_
  rintro _ w2 ⟨hyo, e2⟩
  obtain ⟨yo, yc, rfl, hy⟩ := hyo.asSl
  have hE := e1.trans e2
  (repeat (apply WL.pure; rfl; rfl; rfl))
  refine WL.call rfl rfl rfl (lnot_ok w2 (hL.up hE) hn (hb.up hE)) ?_
  rintro _ w3 ⟨hzo, e3⟩
  obtain ⟨zo, zc, rfl, hz⟩ := hzo.asSl
  have hE := hE.trans e3
  skip
  refine WL.call rfl rfl rfl (lboth_ok w3 (hL.up hE) hn (hy.up e3) hz) ?_
  rintro _ w4 ⟨hvo, e4⟩
  obtain ⟨vo, vc, rfl, hv⟩ := hvo.asSl
  have hE4 := hE.trans e4
  skip
  refine WL.call rfl rfl rfl (leu_ok w4 (hL.up hE4) hW.g hn (hx.up (e2.trans (e3.trans e4))) hv) ?_
  rintro bv w5 ⟨ho, e5⟩
  have hE5 := hE4.trans e5
  have ho := ho.low (B' := w0.heap.size) hE4.size
  clear hx hy hz hv hxo hyo hzo hvo e1 e2 e3 e4 e5 hE hE4
  (repeat (first | (apply WL.pure; rfl; rfl; rfl) | (apply WL.nil) | (apply EX.thenN) | (apply CW.seq) | (apply CW.region)))
  refine WL.call rfl rfl rfl (lnot_ok w5 (hL.up hE5) hn (hb.up hE5)) ?_
  rintro _ w6 ⟨hxo, e6⟩
  obtain ⟨xo, xc, rfl, hx⟩ := hxo.asSl
  have hE6 := hE5.trans e6
  have ho := ho.extN e6
  have hl6 := fun g hg => (ho.lt g hg).2.1
  skip
  refine WL.call rfl rfl rfl (leg_ok w6 (hL.up hE6) hW hx) ?_
  rintro gv w7 ⟨hg, e7⟩
  have hE7 := hE6.trans e7
  have ho := ho.extN e7
  have hgx : ∃ go gc, gv = .slice go nx.length gc := by
    obtain ⟨go, gc, e⟩ := hg.val
    rw [boolsN_len] at e; exact ⟨go, gc, e⟩
  obtain ⟨go, gc, rfl⟩ := hgx
  have hdis : ∀ g, bv.ownBlock = some g → Value.ownBlock (.slice go nx.length gc) ≠ some g := fun g h1 h2 => by
    have := hl6 g h1; have := (hg.lt g h2).1; omega
  have hg := hg.low (B' := w0.heap.size) hE6.size
  have hol : (boolsN nx.length (euP nx fr (fun i => ¬ Q i) fun i => ¬ P i ∧ ¬ Q i)).length = nx.length := boolsN_len
  have hob : ∀ c, c < nx.length → ((boolsN nx.length (euP nx fr (fun i => ¬ Q i) fun i => ¬ P i ∧ ¬ Q i)).getD c false = true ↔ euP nx fr (fun i => ¬ Q i) (fun i => ¬ P i ∧ ¬ Q i) c) := fun c hc => boolsN_iff hc
  generalize boolsN nx.length (euP nx fr (fun i => ¬ Q i) fun i => ¬ P i ∧ ¬ Q i) = out at *
  clear hl6 hx hxo e6 e7
  (repeat (first | (apply WL.pure; rfl; rfl; rfl) | (apply WL.nil) | (apply EX.thenN) | (apply WL.lenS; rfl; rfl; rfl) | (apply CW.block)))
  refine CW.loop (S := Nat × List Bool) (fun s => [(0, labP b), (7, bv), (27, .slice go nx.length gc), (28, .int .i64 nx.length), (29, .int .i64 s.1)])
    (fun s w => s.1 ≤ nx.length ∧ s.2.length = nx.length ∧ (∀ c, c < nx.length → (s.2.getD c false = true ↔ euP nx fr (fun i => ¬ Q i) (fun i => ¬ P i ∧ ¬ Q i) c ∨ (c < s.1 ∧ egP nx fr (fun i => ¬ Q i) c))) ∧ Own w w0.heap.size 4 Non bv s.2 ∧ Own w w0.heap.size 4 Non (.slice go nx.length gc) (boolsN nx.length (egP nx fr fun i => ¬ Q i)) ∧ Ext w0 w)
    (fun s => nx.length - s.1) (0, out) (by repeat (first | exact trivial | refine ⟨rfl, ?_⟩)) ⟨Nat.zero_le _, hol, fun c hc => by rw [hob c hc]; exact ⟨.inl, fun h => h.elim id (fun h => absurd h.1 (Nat.not_lt_zero _))⟩, ho, hg, hE7⟩ ?_
  clear hol hob ho hg hE7 hE6 hE5
  rintro ⟨i, o⟩ w8 ⟨hi, hol, hob, ho, hg, e8⟩
  dsimp only at hi hol hob ho hg e8 ⊢
  obtain ⟨oo, oc, hov⟩ := ho.val
  (repeat (first | (apply WL.pure; rfl; rfl; rfl) | (apply WL.nil) | (apply EX.thenN) | (apply CW.seq) | (apply CW.region)))
  refine CW.cond rfl (fun h => ?_) (fun h => ?_)
  · have hi' : i < nx.length := by simp at h; omega
    have hix : i < (boolsN nx.length (egP nx fr fun i => ¬ Q i)).length := by rw [boolsN_len]; exact hi'
    have hio : i < o.length := by omega
    have bG := boolsN_iff (P := egP nx fr fun i => ¬ Q i) hi'
    have bO := hob i hi'
    (repeat (first | (apply WL.pure; rfl; rfl; rfl) | (apply EX.thenN) | (apply CW.seq) | (apply CW.region) | (apply CW.block) | (apply CW.skip)))
    refine WL.elemON (i := i) rfl rfl rfl rfl rfl hg hix (fun _ => rfl) (fun u q hu => ?_)
    rw [hu.bool, ← wgetB hix]
    clear hu
    generalize (boolsN nx.length (egP nx fr fun i => ¬ Q i)).getD i false = gb at *
    (repeat (first | (apply WL.pure; rfl; rfl; rfl) | (apply WL.nil) | (apply EX.thenN) | (apply CW.region)))
    refine WL.elemON (i := i) rfl rfl rfl rfl rfl ho hio (fun _ => rfl) (fun u q2 hu => ?_)
    rw [hu.bool, ← wgetB hio]
    clear hu
    have fin : ∀ c : Bool, (c = true ↔ euP nx fr (fun i => ¬ Q i) (fun i => ¬ P i ∧ ¬ Q i) i ∨ egP nx fr (fun i => ¬ Q i) i) → ∀ k, k < nx.length → ((o.set i c).getD k false = true ↔ euP nx fr (fun i => ¬ Q i) (fun i => ¬ P i ∧ ¬ Q i) k ∨ (k < i + 1 ∧ egP nx fr (fun i => ¬ Q i) k)) := fun c hc k hk => by
      rw [getD_set hio]
      by_cases e : i = k
      · subst e; rw [if_pos rfl, hc]
        exact or_congr Iff.rfl ⟨fun h => ⟨Nat.lt_succ_self _, h⟩, fun h => h.2⟩
      · rw [if_neg e, hob k hk]
        exact or_congr Iff.rfl (and_congr (by omega) Iff.rfl)
    generalize o.getD i false = ob at *
    cases ob with
    | true =>
      (repeat (first | (apply WL.pure; rfl; rfl; rfl) | (apply WL.pass; rfl; rfl)))
      refine WL.setN (u := .bool true) (yv := true) rfl rfl rfl rfl ho hio (fun _ => rfl) (fun _ => rfl) (Rd.mkBool _ _ _) (fun w9 q4 ho4 hg4 => ?_)
      (repeat (first | (apply WL.add; rfl; rfl; rfl; rfl; omega; omega) | (apply WL.pure; rfl; rfl; rfl) | (apply WL.nil) | (apply EX.thenN) | (apply CW.region) | (apply EX.inN)))
      refine EX.back (i + 1, o.set i true) (by repeat (first | exact trivial | refine ⟨rfl, ?_⟩)) ⟨hi', by simpa using hol, fin true ⟨fun _ => (bO.1 rfl).imp id (fun h => h.2), fun _ => rfl⟩, ho4, hg.keptN hg4 (fun g h1 e => hdis g e.symm h1), e8.grown hg4 e8.size (fun g hg => (ho.lt g hg).1)⟩ (by dsimp only; omega)
    | false =>
      (repeat (apply WL.pure; rfl; rfl; rfl))
      refine WL.setN (u := .bool gb) (yv := gb) rfl rfl rfl rfl ho hio (fun _ => rfl) (fun _ => rfl) (Rd.mkBool _ _ _) (fun w9 q4 ho4 hg4 => ?_)
      (repeat (first | (apply WL.add; rfl; rfl; rfl; rfl; omega; omega) | (apply WL.pure; rfl; rfl; rfl) | (apply WL.nil) | (apply EX.thenN) | (apply CW.region) | (apply EX.inN)))
      refine EX.back (i + 1, o.set i gb) (by repeat (first | exact trivial | refine ⟨rfl, ?_⟩)) ⟨hi', by simpa using hol, fin gb ⟨fun h => .inr (bG.1 h), fun h => h.elim (fun h => by have := bO.2 (.inl h); cases this) (fun h => bG.2 h)⟩, ho4, hg.keptN hg4 (fun g h1 e => hdis g e.symm h1), e8.grown hg4 e8.size (fun g hg => (ho.lt g hg).1)⟩ (by dsimp only; omega)
  obtain rfl : i = nx.length := by simp at h; omega
  have hfin : o = boolsN nx.length fun c => euP nx fr (fun i => ¬ Q i) (fun i => ¬ P i ∧ ¬ Q i) c ∨ egP nx fr (fun i => ¬ Q i) c := boolsN_of hol fun c hc => by
    rw [hob c hc]
    exact or_congr Iff.rfl ⟨fun h => h.2, fun h => ⟨hc, h⟩⟩
  subst hfin
  obtain ⟨oo, oc, rfl, hos⟩ := ho.asSl
  (repeat (first | (apply WL.pure; rfl; rfl; rfl) | (apply EX.thenN) | (apply CW.seq) | (apply CW.region) | (apply CW.exit) | (apply EX.thenX) | (apply EX.inX)))
  refine WL.call rfl rfl rfl (lnot_ok w8 (hL.up e8) hn hos) ?_
  rintro _ w9 ⟨ho9, e9⟩
  (repeat (first | (apply WL.pure; rfl; rfl; rfl) | (apply WL.nil) | (apply EX.thenN) | (apply CW.ret)))
  exact EX.ret1 rfl rfl ⟨ho9.low e8.size, e8.trans e9⟩
end Go.Proofs.YtllpfgcngokhnaaGreat

