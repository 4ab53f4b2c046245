import Derived.Test.YtllpfgcngokhnaaRows
import Derived.OpenShut
import Derived.JoinedCond
import Derived.Test.YtllpfgcngokhnaaPtJudgeShows16
/-
  Package judge: Holds: walked.
-/
set_option linter.unusedVariables false
set_option linter.unusedSimpArgs false
namespace Go.Proofs.Ytllpfgcngokhnaa
open Go.RowKit

/-- a block without numbers is none of a list of numbers -/
theorem Sl.notB {w : World} {F : Nat → Prop} {ao : Option Addr} {cap b : Nat} {xs : List Int} {e : TypeId} {cells : List Value} (h : Sl w F ao cap xs) (hb : Blk w b e cells) (hc : ∀ (k : Nat) (x : Int), cells[k]? ≠ some (Value.int IntKind.i64 x)) : Sl w (fun c => F c ∧ c ≠ b) ao cap xs := by
  refine ⟨h.le, h.mx, h.nil, fun i hi => ?_⟩
  obtain ⟨c, off, e1, hf, es, hcl, hr⟩ := h.el i hi
  have hr' : es = [Value.int IntKind.i64 xs[i]] := hr
  refine ⟨c, off, e1, ⟨hf, fun he => ?_⟩, es, hcl, hr'⟩
  subst hr'
  have h1 := hcl 0 _ rfl
  rw [he, cell_of_row w b _ cells.toArray e (0, 0) hb] at h1
  exact hc _ _ (by simpa using h1)
/-- all fair runs satisfy it -/
def AllW (W : LWorld) (f : Ltl) : Prop := ∀ ρ, WWay W ρ → sem (fun i => W.2.2.1.getD (ρ i) 0) f 0
def notT (f : Ltl) : Ltl := .mk 4 0 [f]
theorem sem_not {L : Nat → Nat} {f : Ltl} {i : Nat} : sem L (notT f) i ↔ ¬ sem L f i := by simp [notT, sem, sems, semK]
theorem eway_all {W : LWorld} {f : Ltl} (hW : PosW W) (h : (makeT (notT f)).2 = 0) : EWay W (makeT (notT f)).1 ↔ ¬ AllW W f := by
  have hA := fun L => (makeT_acc (L := L) h).2.1
  have okA := (makeT_acc (L := fun _ => 0) h).1
  constructor
  · rintro ⟨r, hr⟩ hall
    obtain ⟨h1, h2⟩ := eway_run hW (okA_pos okA) hr
    exact sem_not.1 ((hA _).1 h2) (hall _ h1)
  · intro hn
    unfold AllW at hn
    rw [Classical.not_forall] at hn
    obtain ⟨ρ, hρ⟩ := hn
    rw [Classical.not_imp] at hρ
    exact eway_of hρ.1 ((hA _).2 (sem_not.2 hρ.2))
/-- what judge.Holds tells -/
structure JudE (W : LWorld) (f : Ltl) (s l : List Int) (is : Bool) (err : Int) : Prop where
  bad : err ≠ 0 → is = false ∧ s = [] ∧ l = []
  good : chkE W = 0 → (chkF f 1 0).1 = 0 → (makeT (notT f)).2 = 0 → err = 0
  ok : err = 0 → chkE W = 0 ∧ (chkF f 1 0).1 = 0 ∧ wfT f ∧ (makeT (notT f)).2 = 0 ∧ (is = true ↔ AllW W f) ∧ (is = true → s = [] ∧ l = []) ∧ (is = false → PathE W (makeT (notT f)).1 s l)
theorem jud_found {W : LWorld} {f : Ltl} {s l : List Int} {is : Bool} {err : Int} (hf : (chkF f 1 0).1 = 0) (h : (makeT (notT f)).2 = 0) (hF : FoundE W (makeT (notT f)).1 s l is err) : JudE W f s l (!is && decide (err = 0)) err := by
  have hwn := (makeT_acc (L := fun _ => 0) h).2.2
  have hw : wfT f := by
    have := hwn
    unfold notT at this
    simp only [wfT, wfTs] at this
    exact this.2.2.2.2.1
  have okA := (makeT_acc (L := fun _ => 0) h).1
  rcases hF with ⟨he, rfl, rfl, rfl, hno⟩ | ⟨rfl, hW, hA, ⟨rfl, rfl, rfl, hne⟩ | ⟨rfl, hy, hP⟩⟩
  · exact ⟨fun _ => ⟨by simp [he], rfl, rfl⟩, fun hW _ _ => (hno hW (chkA_of okA)).elim, fun h0 => absurd h0 he⟩
  · exact ⟨fun h => absurd rfl h, fun _ _ _ => rfl, fun _ => ⟨hW, hf, hw, h, ⟨fun _ => Classical.not_not.1 (fun hn => hne ((eway_all (chkE_pos hW) h).2 hn)), fun _ => by simp⟩, fun _ => ⟨rfl, rfl⟩, fun hx => by simp at hx⟩⟩
  · exact ⟨fun h => absurd rfl h, fun _ _ _ => rfl, fun _ => ⟨hW, hf, hw, h, ⟨fun hx => by simp at hx, fun ha => absurd ha ((eway_all (chkE_pos hW) h).1 hy)⟩, fun hx => by simp at hx, fun _ => hP⟩⟩
theorem jud_err {W : LWorld} {f : Ltl} {err : Int} (h : err ≠ 0) (hg : chkE W = 0 → (chkF f 1 0).1 = 0 → (makeT (notT f)).2 = 0 → False) : JudE W f [] [] false err :=
  ⟨fun _ => ⟨rfl, rfl, rfl⟩, fun a b c => (hg a b c).elim, fun h0 => absurd h0 h⟩
set_option maxHeartbeats 1000000 in
theorem jHolds_ok (w0 : World) {vf : Value} {W : LWorld} {f : Ltl} {o1 o2 o3 o4 : Option Addr} {c1 c2 c3 c4 : Nat} (h1 : Sl w0 (Old w0) o1 c1 W.1) (h2 : Sl w0 (Old w0) o2 c2 W.2.1) (h3 : Sl w0 (Old w0) o3 c3 W.2.2.1) (h4 : Sl w0 (Old w0) o4 c4 W.2.2.2) (hf : RL w0 vf f)
    (sW : ∀ j, (W.2.1.getD j []).length ≤ 1048576) (tW : W.1.length ≤ 1048576) :
    Rt Try.prog 37 [worldV o1 c1 o2 c2 o3 c3 o4 c4 W.1.length W.2.1.length W.2.2.1.length W.2.2.2.length, vf].toArray w0 fun v w' => (∃ s l is err so sc lo lc, v = .tuple ⟨[pathV so sc lo lc s l, .bool is, .int .i64 err]⟩ ∧ Sl w' (Old w') so sc s ∧ Sl w' (Old w') lo lc l ∧ JudE W f s l is err) ∧ Ext w0 w' := by
  have hm3 := h3.len63
  obtain ⟨ko, kc, rfl, hk⟩ := Rd.ltl hf
  refine Rt.enter2 Try.func37 Try.ntmps37 rfl rfl ?_
  have hE := Ext.refl w0
  (repeat (first | (apply CW.seq) | (apply CW.region)))
  refine WL.boxB rfl rfl rfl fun w1 hb2 e1 => ?_
  have hE := hE.trans e1
  skip
  refine WL.boxB rfl rfl rfl fun w2 hb3 e2 => ?_
  have hb2 := hb2.ext e2
  have hE := hE.trans e2
  skip
  refine WL.alloc rfl rfl (fun w3 hb4 e3 => ?_)
  have hb2 := hb2.ext e3
  have hb3 := hb3.ext e3
  have l2 := hE.size
  have hE := hE.trans e3
  have l4 := hb4.lt
  (repeat (first | (apply WL.pure; rfl; rfl; rfl) | (apply WL.nil) | (apply EX.thenN) | (apply CW.seq) | (apply CW.region) | (apply WL.ldA; rfl; rfl; rfl; assumption; rfl)))
  refine WL.call rfl rfl rfl (wCheck_ok w3 (h1.up hE) (h2.up hE) hm3 (h4.up hE)) ?_
  rintro _ w4 ⟨rfl, e4⟩
  have hb2 := hb2.ext e4
  have hb3 := hb3.ext e4
  have hb4 := hb4.ext e4
  have hE := hE.trans e4
  clear e1 e2 e3
  (repeat (first | (apply WL.pure; rfl; rfl; rfl) | (apply WL.nil) | (apply EX.thenN) | (apply CW.seq) | (apply CW.region)))
  refine CW.cond rfl (fun h => ?_) (fun h => ?_)
  · have h : chkE W ≠ 0 := by simpa using h
    (repeat (first | (apply CW.seq) | (apply CW.region)))
    refine WL.build (parts := []) rfl rfl rfl rfl ?_
    (repeat (apply WL.pure; rfl; rfl; rfl))
    refine WL.st rfl rfl rfl hb4 rfl rfl (ones_of rfl) (fun w5 hb5 hg5 => ?_)
    have hE5 : Ext w0 w5 := hE.grown hg5 hE.size (fun g hg => by cases hg; omega)
    (repeat (first | (apply WL.pure; rfl; rfl; rfl) | (apply WL.nil) | (apply EX.thenN) | (apply CW.ret) | (apply EX.thenR)))
    exact EX.retCE rfl rfl rfl rfl hb5 rfl ⟨⟨[], [], false, _, _, _, _, _, rfl, Sl.zero w5 _, Sl.zero w5 _, jud_err h (fun h' _ _ => h h')⟩, hE5⟩
  have hW : chkE W = 0 := by simpa using h
  clear h
  (repeat (first | (apply EX.thenN) | (apply CW.seq) | (apply CW.region) | (apply WL.ldA; rfl; rfl; rfl; assumption; rfl) | (apply CW.skip)))
  refine WL.call rfl rfl rfl (ltlCheck w4 (hk.up hE) (fun _ h => h)) ?_
  rintro _ w5 ⟨rfl, e5⟩
  have hb2 := hb2.ext e5
  have hb3 := hb3.ext e5
  have hb4 := hb4.ext e5
  have hE := hE.trans e5
  (repeat (first | (apply WL.pure; rfl; rfl; rfl) | (apply WL.nil) | (apply EX.thenN) | (apply CW.seq) | (apply CW.region)))
  refine CW.cond rfl (fun h => ?_) (fun h => ?_)
  · have h : (chkF f 1 0).1 ≠ 0 := by simpa using h
    (repeat (first | (apply CW.seq) | (apply CW.region)))
    refine WL.build (parts := []) rfl rfl rfl rfl ?_
    (repeat (apply WL.pure; rfl; rfl; rfl))
    refine WL.st rfl rfl rfl hb4 rfl rfl (ones_of rfl) (fun w6 hb6 hg6 => ?_)
    have hE6 : Ext w0 w6 := hE.grown hg6 hE.size (fun g hg => by cases hg; omega)
    (repeat (first | (apply WL.pure; rfl; rfl; rfl) | (apply WL.nil) | (apply EX.thenN) | (apply CW.ret) | (apply EX.thenR)))
    exact EX.retCE rfl rfl rfl rfl hb6 rfl ⟨⟨[], [], false, _, _, _, _, _, rfl, Sl.zero w6 _, Sl.zero w6 _, jud_err h (fun _ h' _ => h h')⟩, hE6⟩
  have hcf : (chkF f 1 0).1 = 0 := by simpa using h
  clear h
  (repeat (first | (apply EX.thenN) | (apply CW.seq) | (apply CW.region) | (apply WL.ldA; rfl; rfl; rfl; assumption; rfl) | (apply CW.skip)))
  refine WL.litR [f] rfl rfl rfl rfl rfl ⟨RL.ext hf hE, trivial⟩ (by show 1 * 3 ≤ 16777216; decide) (fun u w6 e6 hu _ => ?_)
  obtain ⟨fo, fc, rfl, hfs⟩ := hu.sl
  skip
  refine WL.build (parts := [(0, _), (2, _)]) rfl rfl rfl rfl ?_
  skip
  refine WL.call rfl rfl rfl (Make_ok w6 (t := notT f) hfs) ?_
  rintro _ w7 ⟨⟨rv, rfl, hr⟩, e7⟩
  have e57 := e6.trans e7
  have hb2 := hb2.ext e57
  have hb3 := hb3.ext e57
  have hb4 := hb4.ext e57
  have hE := hE.trans e57
  have hsz := makeT_size (notT f)
  have hfd := fun s l is err => jud_found (W := W) (s := s) (l := l) (is := is) (err := err) hcf
  have hje := fun err h => jud_err (W := W) (f := f) (err := err) h
  obtain ⟨q1, f1, q2, f2, q3, f3, q4, f4, q5, f5, rfl, p1, p2, p3, p4, p5⟩ := hr.ok
  generalize (makeT (notT f)).2 = e at *
  generalize (makeT (notT f)).1 = A at *
  clear hr
  (repeat (apply WL.pure; rfl; rfl; rfl))
  refine WL.alloc rfl rfl (fun w8 hb9 e8 => ?_)
  skip
  refine WL.st rfl rfl rfl hb9 rfl rfl (ones_of rfl) (fun w9 hb9 hg9 => ?_)
  have e9 : Ext w7 w9 := e8.grown hg9 e8.size (fun g hg => by cases hg; exact Nat.le_refl _)
  have hb2 := hb2.ext e9
  have hb4 := hb4.ext e9
  have hE := hE.trans e9
  have hA : AutoAt w9 (Old w9) _ A := ⟨q1, f1, q2, f2, q3, f3, q4, f4, q5, f5, rfl, p1.up e9, p2.up e9, p3.up e9, p4.up e9, p5.up e9⟩
  clear e4 e5 e6 e7 e57 e8 e9 hg9 p1 p2 p3 p4 p5 hfs hu hb3
  (repeat (first | (apply WL.pure; rfl; rfl; rfl) | (apply WL.nil) | (apply EX.thenN) | (apply CW.seq) | (apply CW.region)))
  refine CW.cond rfl (fun h => ?_) (fun h => ?_)
  · have h : e ≠ 0 := by simpa using h
    (repeat (first | (apply CW.seq) | (apply CW.region)))
    refine WL.build (parts := []) rfl rfl rfl rfl ?_
    (repeat (apply WL.pure; rfl; rfl; rfl))
    refine WL.st rfl rfl rfl hb4 rfl rfl (ones_of rfl) (fun w10 hb10 hg10 => ?_)
    have hE10 : Ext w0 w10 := hE.grown hg10 hE.size (fun g hg => by cases hg; omega)
    (repeat (first | (apply WL.pure; rfl; rfl; rfl) | (apply WL.nil) | (apply EX.thenN) | (apply CW.ret) | (apply EX.thenR)))
    exact EX.retCE rfl rfl rfl rfl hb10 rfl ⟨⟨[], [], false, _, _, _, _, _, rfl, Sl.zero w10 _, Sl.zero w10 _, hje _ h (fun _ _ h' => h h')⟩, hE10⟩
  have he : e = 0 := by simpa using h
  clear h
  (repeat (first | (apply EX.thenN) | (apply CW.seq) | (apply CW.region) | (apply WL.ldA; rfl; rfl; rfl; assumption; rfl) | (apply CW.skip)))
  refine WL.call rfl rfl rfl (find_ok w9 (W := W) (A := A) (h1.up hE) (h2.up hE) (h3.up hE) (h4.up hE) hA sW hsz.2.1 tW hsz.2.2) ?_
  rintro _ w10 ⟨⟨s, l, is, err, so, sc, lo, lc, rfl, hs, hl, hF⟩, e10⟩
  have hb4 := hb4.ext e10
  have hE := hE.trans e10
  (repeat (apply WL.pure; rfl; rfl; rfl))
  refine WL.alloc rfl rfl (fun w11 hb11 e11 => ?_)
  skip
  refine WL.st rfl rfl rfl hb11 rfl rfl (ones_of rfl) (fun w12 hb11 hg12 => ?_)
  have e12 : Ext w10 w12 := e11.grown hg12 e11.size (fun g hg => by cases hg; exact Nat.le_refl _)
  have hb4 := hb4.ext e12
  have hE := hE.trans e12
  have hs := hs.up e12
  have hl := hl.up e12
  have hJ := hfd s l is err he hF
  clear e11 hg12 hfd hje hF
  have z4 : w2.heap.size < w12.heap.size := hb4.lt
  cases is <;> by_cases h0 : err = 0
  all_goals
    first
      | rw [show decide (err = 0) = true by simpa using h0] at hJ
      | rw [show decide (err = 0) = false by simpa using h0] at hJ
    first
      | have hbe : (err == 0) = true := by simpa using h0
      | have hbe : (err == 0) = false := by simpa using h0
    (repeat (first | (apply WL.pure; rfl; rfl; rfl) | (apply WL.nil) | (apply EX.thenN) | (apply CW.seq) | (apply CW.region) | (apply WL.pass; rfl; rfl) | (apply WL.ldA; rfl; rfl; rfl; assumption; rfl)))
    try rw [hbe]
    skip
    refine WL.st rfl rfl rfl hb4 rfl rfl (ones_of rfl) (fun w13 hb13 hg13 => ?_)
    have hE13 : Ext w0 w13 := hE.grown hg13 hE.size (fun g hg => by cases hg; omega)
    have hne2 : ∀ {ao : Option Addr} {cap : Nat} {xs : List Int}, Sl w12 (Old w12) ao cap xs → Sl w13 (Old w13) ao cap xs := fun h => (h.notB hb4 (fun k x => by
      match k with
      | 0 => simp
      | 1 => simp
      | k + 2 => simp)).mono (fun b hb => hg13.block b hb.1 (fun e => hb.2 (Option.some.inj e))) (fun b hb => Nat.lt_of_lt_of_le hb.1 hg13.size)
    (repeat (first | (apply WL.pure; rfl; rfl; rfl) | (apply WL.nil) | (apply EX.thenN) | (apply CW.ret)))
    exact EX.retCE rfl rfl rfl rfl hb13 rfl ⟨⟨s, l, _, err, _, _, _, _, rfl, hne2 hs, hne2 hl, hJ⟩, hE13⟩
end Go.Proofs.Ytllpfgcngokhnaa

/-
  JudgeShows: walked.
-/
set_option linter.unusedVariables false
set_option linter.unusedSimpArgs false
namespace Go.Proofs.Ytllpfgcngokhnaa
open Go.RowKit

def gT : Ltl := .mk 11 0 [.mk 3 0 []]
theorem g_chk : (chkF gT 1 0).1 = 0 := by decide +kernel
theorem g_make : (makeT (notT gT)).2 = 0 := by decide +kernel
theorem turns_not_g : ¬ AllW turnsW gT := by
  intro h
  have h1 := h (fun i => i % 2) ⟨by decide, fun i => ?_, fun F hF i => ?_⟩
  · have h2 : ¬ Til (fun _ => True) (fun j => ¬ (turnsW.2.2.1.getD (j % 2) 0 >>> (0 : Int).toNat &&& 1 = 1)) 0 := by
      simpa [sem, sems, semK, gT] using h1
    exact h2 ⟨1, by omega, by decide, fun _ _ _ => trivial⟩
  · rcases even_odd i with h | h
    · rw [h, show (i + 1) % 2 = 1 by omega]; decide
    · rw [h, show (i + 1) % 2 = 0 by omega]; decide
  · have hF : F = [0] ∨ F = [1] := by simpa [turnsW] using hF
    rcases hF with rfl | rfl
    · exact ⟨2 * i, by omega, by rw [show 2 * i % 2 = 0 by omega]; decide⟩
    · exact ⟨2 * i + 1, by omega, by rw [show (2 * i + 1) % 2 = 1 by omega]; decide⟩
theorem jud_turns_g {s l : List Int} {is : Bool} {err : Int} (h : JudE turnsW gT s l is err) : is = false ∧ err = 0 ∧ 0 < l.length := by
  have he := h.good turns_chk g_chk g_make
  obtain ⟨_, _, _, _, h1, _, h2⟩ := h.ok he
  cases is with
  | true => exact absurd (h1.1 rfl) turns_not_g
  | false => exact ⟨rfl, he, (h2 rfl).l0⟩
theorem truth_false {s l : List Nat} {f : Ltl} (hf : (chkF f 1 0).1 = 0) (hw : wfT f) (hW : chkW s l = 0) (hn : ¬ sem (lat s l) f 0) : truthL s l f = (false, true) := by
  have h0 : (holdsL s l f).getD 0 false = false := by
    rw [← Bool.not_eq_true, holds0 hW hw]; exact hn
  obtain ⟨h1, h2⟩ := chkW_ok hW
  have hE : holdsE s l f = (holdsL s l f, 0) := by
    unfold holdsE
    rw [if_neg (fun h => h hf), if_neg (fun h => h hW)]
  have hl := holdsL_len (s := s) (l := l) f hw
  unfold truthL
  rw [hE, if_neg]
  · rw [h0]
  · rintro (h | h)
    · exact h rfl
    · dsimp only at h
      omega
set_option maxHeartbeats 1000000 in
theorem JudgeShows_ok (w0 : World) {vf : Value} {W : LWorld} {f : Ltl} {o1 o2 o3 o4 : Option Addr} {c1 c2 c3 c4 : Nat} (h1 : Sl w0 (Old w0) o1 c1 W.1) (h2 : Sl w0 (Old w0) o2 c2 W.2.1) (h3 : Sl w0 (Old w0) o3 c3 W.2.2.1) (h4 : Sl w0 (Old w0) o4 c4 W.2.2.2) (hf : RL w0 vf f)
    (sW : ∀ j, (W.2.1.getD j []).length ≤ 1048576) (tW : W.1.length ≤ 1048576) :
    Rt Try.prog 10 [worldV o1 c1 o2 c2 o3 c3 o4 c4 W.1.length W.2.1.length W.2.2.1.length W.2.2.2.length, vf].toArray w0 fun v w' => v = .bool true ∧ Ext w0 w' := by
  have hm3 := h3.len63
  obtain ⟨ko, kc, rfl, hk⟩ := Rd.ltl hf
  refine Rt.enter2 Try.func10 Try.ntmps10 rfl rfl ?_
  have hE := Ext.refl w0
  (repeat (first | (apply CW.seq) | (apply CW.region)))
  refine WL.boxB rfl rfl rfl fun w1 hb2 e1 => ?_
  have hE := hE.trans e1
  skip
  refine WL.boxB rfl rfl rfl fun w2 hb3 e2 => ?_
  have hb2 := hb2.ext e2
  have hE := hE.trans e2
  (repeat (first | (apply WL.pure; rfl; rfl; rfl) | (apply WL.nil) | (apply EX.thenN) | (apply CW.seq) | (apply CW.region)))
  refine WL.call rfl rfl rfl (wturns_okL w2) ?_
  rintro _ w3 ⟨⟨p1, q1, p2, q2, p3, q3, p4, q4, rfl, t1, t2, t3, t4⟩, e3⟩
  skip
  refine WL.call rfl rfl rfl (mk_atom w3 0) ?_
  rintro v1 w4 ⟨g1, e4⟩
  skip
  refine WL.call rfl rfl rfl (mk_one w4 11 g1) ?_
  rintro v2 w5 ⟨g2, e5⟩
  have e35 := e4.trans e5
  skip
  refine WL.call rfl rfl rfl (jHolds_ok w5 (W := turnsW) (f := gT) (t1.up e35) (t2.up e35) (t3.up e35) (t4.up e35) g2 turnsW_row (by decide)) ?_
  rintro _ w6 ⟨⟨s, l, is, err, so, sc, lo, lc, rfl, hs, hl, hJ⟩, e6⟩
  obtain ⟨rfl, rfl, hl0⟩ := jud_turns_g hJ
  have e26 := e3.trans (e35.trans e6)
  have hb2 := hb2.ext e26
  have hb3 := hb3.ext e26
  have hE := hE.trans e26
  clear hJ t1 t2 t3 t4 g1 g2 e26 e1 e2 e3 e4 e5 e35 e6
  (repeat (apply WL.pure; rfl; rfl; rfl))
  refine WL.alloc rfl rfl (fun w7 hb5 e7 => ?_)
  skip
  refine WL.st rfl rfl rfl hb5 rfl rfl (ones_of rfl) (fun w8 hb5 hg8 => ?_)
  have e8 : Ext w6 w8 := e7.grown hg8 e7.size (fun g hg => by cases hg; exact Nat.le_refl _)
  have hb2 := hb2.ext e8
  have hb3 := hb3.ext e8
  have hE := hE.trans e8
  clear e7 hg8
  (repeat (first | (apply WL.pure; rfl; rfl; rfl) | (apply WL.nil) | (apply EX.thenN) | (apply CW.seq) | (apply CW.region) | (apply WL.lenS; rfl; rfl; rfl) | (apply WL.fa; rfl; rfl; rfl) | (apply WL.ld; rfl; rfl; rfl; assumption; rfl)))
  refine CW.cond rfl (fun h => ?_) (fun h => ?_)
  · simp at h; subst h; simp at hl0
  clear h hb5 hs hl
  (repeat (first | (apply EX.thenN) | (apply CW.seq) | (apply CW.region) | (apply WL.ldA; rfl; rfl; rfl; assumption; rfl) | (apply CW.skip)))
  refine WL.call rfl rfl rfl (jHolds_ok w8 (W := W) (f := f) (h1.up hE) (h2.up hE) (h3.up hE) (h4.up hE) (RL.ext hf hE) sW tW) ?_
  rintro _ w9 ⟨⟨s, l, is, err, so, sc, lo, lc, rfl, hs, hl, hJ⟩, e9⟩
  have hb2 := hb2.ext e9
  have hb3 := hb3.ext e9
  have hE := hE.trans e9
  (repeat (apply WL.pure; rfl; rfl; rfl))
  refine WL.alloc rfl rfl (fun w10 hb8 e10 => ?_)
  skip
  refine WL.st rfl rfl rfl hb8 rfl rfl (ones_of rfl) (fun w11 hb8 hg11 => ?_)
  have e11 : Ext w9 w11 := e10.grown hg11 e10.size (fun g hg => by cases hg; exact Nat.le_refl _)
  have hb2 := hb2.ext e11
  have hb3 := hb3.ext e11
  have hE := hE.trans e11
  have hs := hs.up e11
  have hl := hl.up e11
  clear e10 hg11 e9 e8
  by_cases he : err = 0
  case neg =>
    obtain ⟨rfl, rfl, rfl⟩ := hJ.bad he
    have hb : (err != 0) = true := by simpa using he
    (repeat (first | (apply WL.pure; rfl; rfl; rfl) | (apply WL.nil) | (apply EX.thenN) | (apply CW.seq) | (apply CW.region)))
    rw [hb]
    (repeat (first | (apply WL.pure; rfl; rfl; rfl) | (apply WL.nil) | (apply EX.thenN) | (apply CW.seq) | (apply CW.region) | (apply WL.pass; rfl; rfl) | (apply WL.lenS; rfl; rfl; rfl) | (apply WL.fa; rfl; rfl; rfl) | (apply WL.ld; rfl; rfl; rfl; assumption; rfl) | (apply CW.condT; rfl) | (apply CW.ret) | (apply EX.thenR)))
    exact EX.ret1 rfl rfl ⟨rfl, hE⟩
  subst he
  obtain ⟨hW, hcf, hwf, hmk, _, hyes, hno⟩ := hJ.ok rfl
  cases is with
  | true =>
    obtain ⟨rfl, rfl⟩ := hyes rfl
    (repeat (first | (apply WL.pure; rfl; rfl; rfl) | (apply WL.nil) | (apply EX.thenN) | (apply CW.seq) | (apply CW.region) | (apply WL.lenS; rfl; rfl; rfl) | (apply WL.fa; rfl; rfl; rfl) | (apply WL.ld; rfl; rfl; rfl; assumption; rfl) | (apply CW.condT; rfl) | (apply CW.ret) | (apply EX.thenR)))
    exact EX.ret1 rfl rfl ⟨rfl, hE⟩
  | false =>
  have hP := hno rfl
  have hacc := hP.acc
  rw [(makeT_acc hmk).2.1, sem_not] at hacc
  (repeat (first | (apply WL.pure; rfl; rfl; rfl) | (apply WL.nil) | (apply EX.thenN) | (apply CW.seq) | (apply CW.region) | (apply WL.ldA; rfl; rfl; rfl; assumption; rfl) | (apply CW.condF; rfl) | (apply CW.skip)))
  refine WL.call rfl rfl rfl (Good_ok w11 (h1.up hE) (h2.up hE) hm3 (h4.up hE) hs hl) ?_
  rintro _ w12 ⟨rfl, e12⟩
  have hb2 := hb2.ext e12
  have hb3 := hb3.ext e12
  have hb8 := hb8.ext e12
  have hE := hE.trans e12
  have hs := hs.up e12
  have hl := hl.up e12
  rcases hP.goodF hW with hG | hG
  · rw [hG]
    (repeat (first | (apply WL.pure; rfl; rfl; rfl) | (apply WL.nil) | (apply EX.thenN) | (apply CW.seq) | (apply CW.region) | (apply WL.pass; rfl; rfl) | (apply CW.condT; rfl) | (apply CW.ret) | (apply EX.thenR)))
    exact EX.ret1 rfl rfl ⟨rfl, hE⟩
  obtain ⟨hs6, hl6⟩ := goodF_len hG
  rw [hG]
  (repeat (first | (apply WL.pure; rfl; rfl; rfl) | (apply WL.nil) | (apply EX.thenN) | (apply CW.seq) | (apply CW.region) | (apply WL.ldA; rfl; rfl; rfl; assumption; rfl) | (apply CW.condF; rfl) | (apply CW.skip)))
  refine WL.call rfl rfl rfl (Word_ok w12 (h1.up hE) (h2.up hE) (h3.up hE) (h4.up hE) hs hl hs6 hl6) ?_
  rintro _ w13 ⟨x, rfl, hx, e13⟩
  obtain ⟨xo, xc, yo, yc, rfl, hxs, hxl⟩ := hx.word
  have hb3 := hb3.ext e13
  have hE := hE.trans e13
  (repeat (apply WL.pure; rfl; rfl; rfl))
  refine WL.alloc rfl rfl (fun w14 hb14 e14 => ?_)
  skip
  refine WL.st rfl rfl rfl hb14 rfl rfl (ones_of rfl) (fun w15 hb14 hg15 => ?_)
  have e15 : Ext w13 w15 := e14.grown hg15 e14.size (fun g hg => by cases hg; exact Nat.le_refl _)
  have hb3 := hb3.ext e15
  have hE := hE.trans e15
  have hxs := hxs.up e15
  have hxl := hxl.up e15
  clear e14 hg15
  rcases hP.wordF hW with hw | hw
  · rw [hw]
    (repeat (first | (apply WL.pure; rfl; rfl; rfl) | (apply WL.nil) | (apply EX.thenN) | (apply CW.seq) | (apply CW.region) | (apply CW.condT; rfl) | (apply CW.ret) | (apply EX.thenR)))
    exact EX.ret1 rfl rfl ⟨rfl, hE⟩
  obtain ⟨hwe, hwc⟩ := wordF_ok hw
  rw [hw]
  (repeat (first | (apply WL.pure; rfl; rfl; rfl) | (apply WL.nil) | (apply EX.thenN) | (apply CW.seq) | (apply CW.region) | (apply WL.ldA; rfl; rfl; rfl; assumption; rfl) | (apply CW.condF; rfl) | (apply CW.skip)))
  refine WL.call rfl rfl rfl (truth_ok w15 (hk.up hE) hxs hxl (fun _ h => h)) ?_
  rintro _ w16 ⟨rfl, e16⟩
  rw [hwe, truth_false hcf hwf hwc hacc]
  (repeat (first | (apply WL.pure; rfl; rfl; rfl) | (apply WL.nil) | (apply EX.thenN) | (apply CW.seq) | (apply CW.region) | (apply CW.ret)))
  exact EX.ret1 rfl rfl ⟨rfl, hE.trans e16⟩
end Go.Proofs.Ytllpfgcngokhnaa

/-
  From the form's readings of the arguments to our own, and back: what a law's proof needs at its two ends.
-/
set_option linter.unusedVariables false
set_option linter.unusedSimpArgs false
namespace Go.Proofs.Ytllpfgcngokhnaa
open Go.RowKit Go.ChangeShapes Go.WideShapes Go.ChangeAt

theorem bulk_one {H : Type} (d : DataW H) : 1 ≤ Rows.uptoBulk d := by
  cases d with
  | lit l => cases l <;> simp [Rows.uptoBulk]
  | nil => simp [Rows.uptoBulk]
  | ptr d => simp [Rows.uptoBulk]
  | slice elems spare => simp [Rows.uptoBulk]
  | agg parts => simp [Rows.uptoBulk]
  | iface t d => simp [Rows.uptoBulk]
  | map entries => simp [Rows.uptoBulk]
  | held h => simp [Rows.uptoBulk]
theorem bulk_app {H : Type} (l r : List (DataW H)) : Rows.uptoBulkAll (l ++ r) = Rows.uptoBulkAll l + Rows.uptoBulkAll r := by
  induction l with
  | nil => simp [Rows.uptoBulkAll]
  | cons x l ih => simp only [List.cons_append, Rows.uptoBulkAll, ih]; omega

/-- the bound, as the form hands it over -/
theorem bound {H : Type} {l : List (DataW H)} (hk : Rows.uptoSmall H l = true) : Rows.uptoBulkAll l ≤ 1048576 := by
  simpa [Rows.uptoSmall] using hk
/-- how many values a value of ours holds -/
class Bk (α : Type) where
  bk : α → Nat
abbrev bk {α : Type} [Bk α] : α → Nat := Bk.bk
instance iOpen1 : Bk Int := ⟨fun _ => 1⟩
instance iOpen2 : Bk Bool := ⟨fun _ => 1⟩
instance iOpen3 : Bk Nat := ⟨fun _ => 1⟩
instance iOpen4 : Bk ByteArray := ⟨fun s => s.size + 1⟩
def bkL {α : Type} [Bk α] : List α → Nat
  | [] => 0
  | x :: r => bk x + bkL r
instance iOpen8 {α : Type} [Bk α] : Bk (List α) := ⟨fun l => bkL l + 1⟩

/-- what the form reads at a type, we read, too -/
class Opn (P : Program) (t : TypeId) (α : Type) [Rep α] [Bk α] : Prop where
  op : ∀ {H : Type} {enc : TypeId × Value → H} {w : World} {fuel : Nat} {cs : List Value} {d : DataW H} {ps : List MemPlace}, DataW.trod enc P w 0 (fun _ => true) true fuel t cs = some (d, ps) → ∃ x : α, rd w (Old w) cs x ∧ bk x ≤ Rows.uptoBulk d

theorem Opn.int {P : Program} {t : TypeId} (h : P.underlying t = some (.int .i64)) : Opn P t Int where
  op := by
    intro H enc w fuel cs d ps hd
    cases fuel with
    | zero => simp [DataW.trod] at hd
    | succ fuel =>
      unfold DataW.trod at hd
      rw [h] at hd
      split at hd <;> try (simp at *; done)
      rename_i k k' n e1
      simp at e1
      split at hd
      · rename_i hk
        simp at hd
        obtain ⟨rfl, rfl⟩ := hd
        exact ⟨n, by rw [hk.1, ← e1]; rfl, bulk_one _⟩
      · cases hd
theorem Opn.bool {P : Program} {t : TypeId} (h : P.underlying t = some .bool) : Opn P t Bool where
  op := by
    intro H enc w fuel cs d ps hd
    cases fuel with
    | zero => simp [DataW.trod] at hd
    | succ fuel =>
      unfold DataW.trod at hd
      rw [h] at hd
      split at hd <;> try (simp at *; done)
      rename_i b e1
      simp at hd
      obtain ⟨rfl, rfl⟩ := hd
      exact ⟨b, rfl, bulk_one _⟩
theorem Opn.u64 {P : Program} {t : TypeId} (h : P.underlying t = some (.int .u64)) : Opn P t Nat where
  op := by
    intro H enc w fuel cs d ps hd
    cases fuel with
    | zero => simp [DataW.trod] at hd
    | succ fuel =>
      unfold DataW.trod at hd
      rw [h] at hd
      split at hd <;> try (simp at *; done)
      rename_i k k' n e1
      simp at e1
      split at hd
      · rename_i hk
        simp at hd
        obtain ⟨rfl, rfl⟩ := hd
        have hwf := hk.2
        rw [← e1] at hwf
        have hb : 0 ≤ n ∧ n ≤ 18446744073709551615 := by simpa [Lit.wf, IntKind.min, IntKind.max, IntKind.signed, IntKind.bits] using hwf
        refine ⟨n.toNat, ⟨?_, by omega⟩, bulk_one _⟩
        rw [hk.1, ← e1, Int.toNat_of_nonneg hb.1]
      · cases hd
theorem Opn.string {P : Program} {t : TypeId} (h : P.underlying t = some .string) : Opn P t ByteArray where
  op := by
    intro H enc w fuel cs d ps hd
    cases fuel with
    | zero => simp [DataW.trod] at hd
    | succ fuel =>
      unfold DataW.trod at hd
      rw [h] at hd
      split at hd <;> try (simp at *; done)
      rename_i s e1
      split at hd
      · rename_i hk
        simp at hd
        obtain ⟨rfl, rfl⟩ := hd
        refine ⟨s, ⟨rfl, hk⟩, ?_⟩
        show s.size + 1 ≤ _
        simp only [Rows.uptoBulk]
        have e : s.data.toList.length = s.size := by rw [Array.length_toList]; rfl
        omega
      · cases hd

theorem mapM_range {β : Type} (f : Nat → Option β) : ∀ (n : Nat) (es : List β), (List.range n).mapM f = some es → es.length = n ∧ ∀ i (h : i < es.length), f i = some es[i]
  | 0, es, h => by
    simp at h; subst h
    exact ⟨rfl, fun i hi => absurd hi (by simp)⟩
  | n + 1, es, h => by
    rw [List.range_succ, List.mapM_append] at h
    simp only [List.mapM_cons, List.mapM_nil, Option.bind_eq_bind, Option.pure_def] at h
    cases h1 : (List.range n).mapM f with
    | none => rw [h1] at h; cases h
    | some l =>
      rw [h1] at h
      cases h2 : f n with
      | none => rw [h2] at h; cases h
      | some y =>
        rw [h2] at h
        simp at h
        subst h
        obtain ⟨hl, hi⟩ := mapM_range f n l h1
        refine ⟨by simp [hl], fun i hlt => ?_⟩
        by_cases hi' : i < l.length
        · rw [List.getElem_append_left hi']; exact hi i hi'
        · have : i = n := by simp at hlt; omega
          subst this
          rw [List.getElem_append_right (by omega)]
          simpa [hl] using h2
theorem mapM_cells {w : World} {a : Addr} {n : Nat} {cs : List Value} (h : w.cells? 0 a n = some cs) : cs.length = n ∧ ∀ j (hj : j < cs.length), w.cell? (a.add j) = some cs[j] := by
  unfold World.cells? at h
  rw [if_pos (Nat.zero_le _)] at h
  exact mapM_range _ n cs h

theorem slice_op {P : Program} {t e : TypeId} {α : Type} [Rep α] [Bk α] [hs : IsS P t e] [ht : IsT P e α] {H : Type} {enc : TypeId × Value → H} {w : World} {fuel : Nat}
    (ho : ∀ {cs : List Value} {d : DataW H} {ps : List MemPlace}, DataW.trod enc P w 0 (fun _ => true) true fuel e cs = some (d, ps) → ∃ x : α, rd w (Old w) cs x ∧ bk x ≤ Rows.uptoBulk d)
    {cs : List Value} {d : DataW H} {ps : List MemPlace} (hd : DataW.trod enc P w 0 (fun _ => true) true (fuel + 1) t cs = some (d, ps)) : ∃ x : List α, rd w (Old w) cs x ∧ bk x ≤ Rows.uptoBulk d := by
  unfold DataW.trod at hd
  rw [hs.ok] at hd
  obtain ⟨i0, hi1, hi2⟩ := IsT.info (P := P) (t := e) (α := α)
  have hsz : P.cellsOf e = sz α := by simp [Program.cellsOf, hi1, hi2]
  have hp : 0 < sz α := Rep.pos
  split at hd <;> try (simp at *; done)
  · simp at hd
    obtain ⟨rfl, rfl⟩ := hd
    exact ⟨[], ⟨none, 0, rfl, by simp, by simp [maxLen], fun _ => rfl, fun i hi => absurd hi (by simp)⟩, bulk_one _⟩
  · rename_i e' a len cap e1
    cases e1
    simp only at hd
    split at hd
    · rename_i hc
      obtain ⟨_, hle, hmx⟩ := hc
      rw [hsz] at hd
      cases hm : (List.range len).mapM (fun i => (w.cells? 0 (a.add (i * sz α)) (sz α)).bind (DataW.trod enc P w 0 (fun _ => true) true fuel e)) with
      | none => rw [hm] at hd; cases hd
      | some elems =>
        rw [hm] at hd
        simp only [Option.bind_some, if_true] at hd
        obtain ⟨rest, _, hd2⟩ := Option.map_eq_some_iff.1 hd
        simp only [Prod.mk.injEq] at hd2
        obtain ⟨rfl, _⟩ := hd2
        obtain ⟨hlen, hget⟩ := mapM_range _ len elems hm
        -- one element at a time
        have one : ∀ i (h : i < elems.length), ∃ x : α, (∃ b off, some a = some ⟨b, off, none⟩ ∧ Old w b ∧ ∃ es, Cells w b (off + i * sz α) es ∧ rd w (Old w) es x) ∧ bk x ≤ Rows.uptoBulk (elems[i]).1 := by
          intro i hi
          have h1 := hget i hi
          cases hcs : w.cells? 0 (a.add (i * sz α)) (sz α) with
          | none => rw [hcs] at h1; cases h1
          | some es =>
            rw [hcs] at h1
            simp only [Option.bind_some] at h1
            obtain ⟨x, hr, hb⟩ := ho (d := (elems[i]).1) (ps := (elems[i]).2) h1
            obtain ⟨hl, hc⟩ := mapM_cells hcs
            have h0 := hc 0 (by omega)
            have hspot : a.spot = none := by
              cases hsp : a.spot with
              | none => rfl
              | some k =>
                -- the first element's first cell lies at the address itself
                have h2 := hget 0 (by omega)
                cases hcs0 : w.cells? 0 (a.add (0 * sz α)) (sz α) with
                | none => rw [hcs0] at h2; cases h2
                | some es0 =>
                  obtain ⟨hl0, hc0⟩ := mapM_cells hcs0
                  have h3 := hc0 0 (by omega)
                  have e3 : (a.add (0 * sz α)).add 0 = a := by simp [Addr.add]
                  rw [e3] at h3
                  unfold World.cell? at h3
                  split at h3
                  · simp [hsp] at h3
                  · cases h3
            obtain ⟨b, off, sp⟩ := a
            simp only at hspot
            subst hspot
            rw [WideShapes.add_plain] at hc h0
            have hblt : b < w.heap.size := World.block_lt_of_cell? w _ h0
            refine ⟨x, ⟨b, off, rfl, hblt, es, ?_, hr⟩, hb⟩
            intro j u hu
            obtain ⟨hj, rfl⟩ := List.getElem?_eq_some_iff.1 hu
            have := hc j hj
            rwa [WideShapes.add_plain] at this
        have all : ∀ k, k ≤ elems.length → ∃ xs : List α, xs.length = k ∧ (∀ i (h : i < xs.length), ∃ b off, some a = some ⟨b, off, none⟩ ∧ Old w b ∧ ∃ es, Cells w b (off + i * sz α) es ∧ rd w (Old w) es xs[i]) ∧ bkL xs ≤ Rows.uptoBulkAll ((elems.map (·.1)).take k) := by
          intro k
          induction k with
          | zero => intro _; exact ⟨[], rfl, fun i hi => absurd hi (by simp), by simp [bkL, Rows.uptoBulkAll]⟩
          | succ k ih =>
            intro hk
            obtain ⟨xs, h1, h2, h3⟩ := ih (by omega)
            obtain ⟨x, h4, h5⟩ := one k (by omega)
            refine ⟨xs ++ [x], by simp [h1], ?_, ?_⟩
            · intro i hi
              by_cases hlt : i < xs.length
              · rw [List.getElem_append_left hlt]; exact h2 i hlt
              · have : i = k := by simp at hi; omega
                subst this
                rw [List.getElem_append_right (by omega)]
                simpa [h1] using h4
            · have hb : ∀ (l : List α), bkL (l ++ [x]) = bkL l + bk x := by
                intro l; induction l with
                | nil => simp [bkL]
                | cons y l ih => simp only [List.cons_append, bkL, ih]; omega
              rw [hb, List.take_succ_eq_append_getElem (by simp; omega), bulk_app]
              simp only [List.getElem_map, Rows.uptoBulkAll]
              omega
        obtain ⟨xs, h1, h2, h3⟩ := all elems.length (Nat.le_refl _)
        have hx : xs.length = len := by omega
        refine ⟨xs, ⟨some a, cap, by rw [hx], ⟨by omega, hmx, (fun h => by cases h), h2⟩⟩, ?_⟩
        show bkL xs + 1 ≤ _
        rw [List.take_of_length_le (by simp)] at h3
        simp only [Rows.uptoBulk]
        omega
    · cases hd

theorem Opn.slice {P : Program} {t e : TypeId} {α : Type} [Rep α] [Bk α] [hs : IsS P t e] [ht : IsT P e α] [ho : Opn P e α] : Opn P t (List α) where
  op := by
    intro H enc w fuel cs d ps hd
    cases fuel with
    | zero => simp [DataW.trod] at hd
    | succ fuel => exact slice_op (e := e) (fun h => ho.op h) hd

theorem okWide_form {P : Program} {w : World} {r : Reach} {base : Nat} {t : TypeId} {v : Value} {d : TypeDesc} (hu : P.underlying t = some d) (h : Value.okWide P w r base t v) :
    (aggD d = false → v.oneCell' = true) ∧ (aggD d = true → ∃ cs, v = .agg cs) := by
  unfold Value.okWide at h
  rw [hu] at h
  constructor
  · intro hd
    cases v <;> first
      | rfl
      | (exfalso; cases d <;> simp [aggD] at hd <;> simp [Cell.okWide, Cell.ok, hu] at h)
  · intro hd
    cases d <;> simp [aggD] at hd <;> (obtain ⟨cs, rfl, _⟩ := h; exact ⟨cs, rfl⟩)
/-- an argument, opened -/
theorem Opn.arg {P : Program} {t : TypeId} {α : Type} [Rep α] [Bk α] [ht : IsT P t α] [ho : Opn P t α] {H : Type} {enc : TypeId × Value → H} {w : World} {v : Value} {d : DataW H} {ps : List MemPlace} {r : Reach} {base : Nat}
    (hv : Value.okWide P w r base t v) (h : DataW.Trod enc P w 0 (fun _ => true) true t v d ps) : ∃ x : α, Rd w (Old w) v x ∧ bk x ≤ Rows.uptoBulk d := by
  obtain ⟨i, dd, _, _, h3, h4⟩ := ht.ok
  obtain ⟨f1, f2⟩ := okWide_form h3 hv
  obtain ⟨fuel, hf⟩ := h
  obtain ⟨x, hr, hb⟩ := ho.op hf
  refine ⟨x, ⟨v.cells.toList, ?_, hr⟩, hb⟩
  unfold vOf
  split
  · rename_i he
    obtain ⟨cs, rfl⟩ := f2 (h4.trans he)
    simp [Value.cells]
  · rename_i he
    have := f1 (h4.trans he)
    cases v <;> first | rfl | (simp [Value.oneCell'] at this)

theorem trodAll_below {H : Type} {enc : TypeId × Value → H} {P : Program} (hl : laidOutB P = true) {W W' : World} (hb : Ext W W') : ∀ {ts : List TypeId} {vs : List Value} {ds : List (DataW H)} {ps : List MemPlace},
    (∀ t ∈ ts, P.readableRec t = true ∧ t < P.types.size) → DataW.TrodAll enc P W 0 (fun _ => true) true ts vs ds ps → (∀ x ∈ ps, x.block < W.heap.size) →
    DataW.TrodAll enc P W' 0 (fun b => decide (b < W.heap.size)) true ts vs ds ps
  | [], [], [], _, _, h, _ => h
  | t :: ts, v :: vs, d :: ds, ps, hr, h, hlt => by
    obtain ⟨p, q, h1, h2, rfl⟩ := h
    exact ⟨p, q, Below.trod hl (hr t (by simp)).1 (hr t (by simp)).2 h1 hb (fun x hx => hlt x (by simp [hx])),
      trodAll_below hl hb (fun t ht => hr t (by simp [ht])) h2 (fun x hx => hlt x (by simp [hx])), rfl⟩
  | [], [], _ :: _, _, _, h, _ => h.elim
  | [], _ :: _, [], _, _, h, _ => h.elim
  | [], _ :: _, _ :: _, _, _, h, _ => h.elim
  | _ :: _, [], [], _, _, h, _ => h.elim
  | _ :: _, [], _ :: _, _, _, h, _ => h.elim
  | _ :: _, _ :: _, [], _, _, h, _ => h.elim

/-- the law's end: it returned true, and only new memory was made -/
theorem law_post {H : Type} {enc : TypeId × Value → H} {P : Program} {fn : Func} {s : ChangeSpec} {W W' : World} {args : Array Value} {ds gs : List (DataW H)} {before : List MemPlace} {tb : TypeId}
    (hl : laidOutB P = true) (hW : DataW.Whole enc P fn.params.toList s.vars false W args.toList ds gs before) (hv : s.vars = []) (hr : ∀ t ∈ fn.params.toList, P.readableRec t = true ∧ t < P.types.size)
    (hsp : (s.fn H (ds ++ gs)).results = [.lit (.bool true)] ∧ (s.fn H (ds ++ gs)).args = ds ∧ (s.fn H (ds ++ gs)).vars = []) (hres : fn.resultTypes = #[tb]) (hb : P.underlying tb = some .bool) (hE : Ext W W') :
    s.post enc P fn false true false false W args (.bool true) W' := by
  have hlt := hW.lt
  have hW' := hW
  obtain ⟨p, q, hA, hV, rfl, _, _⟩ := hW
  rw [hv] at hV
  obtain ⟨e1, e2, e3⟩ := hsp
  refine ⟨ds, gs, p ++ q, [], p, [], hW', ?_, ?_, ?_, hE.frame _, fun h => by cases h⟩
  · rw [e1, hres]
    exact trodAll_mk1 (shut_bool hb true)
  · rw [e2]
    exact trodAll_below hl hE hr hA (fun x hx => hlt x (by simp [hx]))
  · rw [e3, hv]
    exact rfl
/- structs -/
instance iOpen9 {α β : Type} [Bk α] [Bk β] : Bk (α × β) := ⟨fun x => bk x.1 + bk x.2⟩
/-- a list of fields, from an offset on -/
class OpnFs (P : Program) (fs : List (TypeId × Nat)) (off : Nat) (α : Type) [Rep α] [Bk α] : Prop where
  op : ∀ {H : Type} {enc : TypeId × Value → H} {w : World} {fuel : Nat} {cs : List Value} {xs : List (DataW H × List MemPlace)}, off + sz α = cs.length →
    (fs.mapM fun f => DataW.trod enc P w 0 (fun _ => true) true fuel f.1 ((cs.drop f.2).take (P.cellsOf f.1))) = some xs → ∃ x : α, rd w (Old w) (cs.drop off) x ∧ bk x ≤ Rows.uptoBulkAll (xs.map (·.1))
theorem cellsOf_T {P : Program} {t : TypeId} {α : Type} [Rep α] [ht : IsT P t α] : P.cellsOf t = sz α := by
  obtain ⟨i, h1, h2⟩ := IsT.info (P := P) (t := t) (α := α)
  simp [Program.cellsOf, h1, h2]
instance OpnFs.one {P : Program} {t : TypeId} {off : Nat} {α : Type} [Rep α] [Bk α] [ht : IsT P t α] [ho : Opn P t α] : OpnFs P [(t, off)] off α where
  op := by
    intro H enc w fuel cs xs hl h
    simp only [List.mapM_cons, List.mapM_nil, Option.bind_eq_bind, Option.pure_def] at h
    cases h1 : DataW.trod enc P w 0 (fun _ => true) true fuel t ((cs.drop off).take (P.cellsOf t)) with
    | none => rw [h1] at h; cases h
    | some d =>
      rw [h1] at h; simp at h; subst h
      obtain ⟨d, ps⟩ := d
      obtain ⟨x, hr, hb⟩ := ho.op h1
      rw [cellsOf_T (α := α), List.take_of_length_le (by rw [List.length_drop]; omega)] at hr
      exact ⟨x, hr, by simpa [Rows.uptoBulkAll] using hb⟩
instance OpnFs.cons {P : Program} {t : TypeId} {off : Nat} {f : TypeId × Nat} {fs : List (TypeId × Nat)} {α β : Type} [Rep α] [Bk α] [Rep β] [Bk β] [ht : IsT P t α] [ho : Opn P t α] [hr : OpnFs P (f :: fs) (off + sz α) β] : OpnFs P ((t, off) :: f :: fs) off (α × β) where
  op := by
    intro H enc w fuel cs xs hl h
    rw [List.mapM_cons] at h
    simp only [Option.bind_eq_bind, Option.pure_def] at h
    have hl' : off + sz α + sz β = cs.length := by
      have : sz (α × β) = sz α + sz β := rfl
      omega
    cases h1 : DataW.trod enc P w 0 (fun _ => true) true fuel t ((cs.drop off).take (P.cellsOf t)) with
    | none => rw [h1] at h; cases h
    | some d =>
      rw [h1] at h
      simp only [Option.bind_some] at h
      obtain ⟨ys, h2, h3⟩ := Option.bind_eq_some_iff.1 h
      cases h3
      obtain ⟨d, ps⟩ := d
      obtain ⟨x, hx, hb⟩ := ho.op h1
      obtain ⟨y, hy, hc⟩ := hr.op hl' h2
      rw [cellsOf_T (α := α)] at hx
      refine ⟨(x, y), ⟨(cs.drop off).take (sz α), cs.drop (off + sz α), ?_, hx, hy⟩, ?_⟩
      · rw [← List.drop_drop, List.take_append_drop]
      · show bk x + bk y ≤ _
        simp only [List.map_cons, Rows.uptoBulkAll]
        omega
def stFact (P : Program) (t : TypeId) : Option (List (TypeId × Nat)) := match P.underlying t with
  | some (.struct fs) => some (fs.toList.map fun f => (f.type, f.offset))
  | _ => none
theorem Opn.struct {P : Program} {t : TypeId} {fs : List (TypeId × Nat)} {α : Type} [Rep α] [Bk α] [ht : IsT P t α] [hf : OpnFs P fs 0 α] (h : stFact P t = some fs) : Opn P t α where
  op := by
    intro H enc w fuel cs d ps hd
    unfold stFact at h
    split at h
    · rename_i gs hu
      cases h
      cases fuel with
      | zero => simp [DataW.trod] at hd
      | succ fuel =>
        unfold DataW.trod at hd
        rw [hu] at hd
        simp only at hd
        split at hd
        · rename_i hl
          obtain ⟨xs, h1, h2⟩ := Option.map_eq_some_iff.1 hd
          cases h2
          have := hf.op (enc := enc) (w := w) (fuel := fuel) (cs := cs) (xs := xs) (by rw [hl, cellsOf_T (α := α)]; omega) (by rw [List.mapM_map]; exact h1)
          obtain ⟨x, hr, hb⟩ := this
          exact ⟨x, by simpa using hr, by simp only [Rows.uptoBulk]; omega⟩
        · cases hd
    · cases h
instance iOpen5 : Opn Try.prog 3 Int := Opn.int Try.underlying3
instance iOpen6 : Opn Try.prog 22 (List Int) := Opn.slice
instance iOpen7 : Opn Try.prog 23 (List (List Int)) := Opn.slice
end Go.Proofs.Ytllpfgcngokhnaa

/-
  The types of the arguments, as the form reads them.
-/
set_option linter.unusedVariables false
namespace Go.Proofs.Ytllpfgcngokhnaa
open Go.RowKit

instance iOpn1 : Opn Try.prog 4 Bool := Opn.bool Try.underlying4
instance iOpn2 : Opn Try.prog 53 Nat := Opn.u64 Try.underlying53
instance iOpn3 : Opn Try.prog 9 ByteArray := Opn.string Try.underlying9
instance iOpn4 : Opn Try.prog 31 Int := Opn.int Try.underlying31
instance iOpn5 : Opn Try.prog 54 (List Bool) := Opn.slice
instance iOpn6 : Opn Try.prog 24 (List Nat) := Opn.slice
instance iOpn8 : Opn Try.prog 181 (List Bool) := Opn.slice
instance iOpn9 : Opn Try.prog 213 (List (List Bool)) := Opn.slice
instance iOpn18 : Opn Try.prog 39 (List Nat × List Nat) := Opn.struct (fs := [(24, 0), (24, 1)]) (by kernel_rfl)
instance iOpn19 : Opn Try.prog 30 (List Int × List Int) := Opn.struct (fs := [(22, 0), (22, 1)]) (by kernel_rfl)
instance iOpn22 : Opn Try.prog 26 (List Int × List (List Int) × List Nat × List (List Int)) := Opn.struct (fs := [(22, 0), (23, 1), (24, 2), (23, 3)]) (by kernel_rfl)
instance iOpn23 : Opn Try.prog 28 (List Int × List (List Int) × List Nat × List Nat × List (List Int)) := Opn.struct (fs := [(22, 0), (23, 1), (24, 2), (24, 3), (23, 4)]) (by kernel_rfl)
end Go.Proofs.Ytllpfgcngokhnaa

/-
  Formulas as arguments.
-/
set_option linter.unusedVariables false
set_option linter.unusedSimpArgs false
namespace Go.Proofs.Ytllpfgcngokhnaa
open Go.RowKit

instance iOpnLtl1 : Bk Ltl := ⟨Ltl.nodes⟩
theorem len3 {cs : List Value} (h : cs.length = 3) : ∃ c0 c1 c2, cs = [c0, c1, c2] := by
  match cs, h with
  | [a, b, c], _ => exact ⟨a, b, c, rfl⟩
theorem ltl_op {H : Type} {enc : TypeId × Value → H} {w : World} : ∀ (fuel : Nat) {cs : List Value} {d : DataW H} {ps : List MemPlace}, DataW.trod enc Try.prog w 0 (fun _ => true) true fuel 68 cs = some (d, ps) → ∃ x : Ltl, rd w (Old w) cs x ∧ bk x ≤ Rows.uptoBulk d := by
  intro fuel
  induction fuel using Nat.strongRecOn with
  | _ fuel ih =>
    intro cs d ps hd
    have hst : stFact Try.prog 68 = some [(3, 0), (3, 1), (66, 2)] := by kernel_rfl
    unfold stFact at hst
    split at hst
    · rename_i gs hu
      have hst := Option.some.inj hst
      cases fuel with
      | zero => simp [DataW.trod] at hd
      | succ fuel =>
        unfold DataW.trod at hd
        rw [hu] at hd
        simp only at hd
        split at hd
        · rename_i hl
          obtain ⟨xs, h1, h2⟩ := Option.map_eq_some_iff.1 hd
          cases h2
          have h3 : (List.map (fun f : Field => (f.type, f.offset)) gs.toList).mapM (fun f : TypeId × Nat => DataW.trod enc Try.prog w 0 (fun _ => true) true fuel f.1 ((cs.drop f.2).take (Try.prog.cellsOf f.1))) = some xs := by rw [List.mapM_map]; exact h1
          rw [hst] at h3
          rw [cellsOf_T (α := Ltl)] at hl
          have hl3 : cs.length = 3 := hl
          simp only [List.mapM_cons, List.mapM_nil, Option.bind_eq_bind, Option.pure_def] at h3
          obtain ⟨x1, e1, h3⟩ := Option.bind_eq_some_iff.1 h3
          obtain ⟨y1, h3, hy1⟩ := Option.bind_eq_some_iff.1 h3
          obtain ⟨x2, e2, h3⟩ := Option.bind_eq_some_iff.1 h3
          obtain ⟨y2, h3, hy2⟩ := Option.bind_eq_some_iff.1 h3
          obtain ⟨x3, e3, h3⟩ := Option.bind_eq_some_iff.1 h3
          simp at h3 hy2 hy1
          subst h3 hy2 hy1
          obtain ⟨d1, p1⟩ := x1
          obtain ⟨d2, p2⟩ := x2
          obtain ⟨d3, p3⟩ := x3
          rw [cellsOf_T (α := Int)] at e1 e2
          rw [cellsOf_T (α := List Ltl)] at e3
          obtain ⟨k, hk, bk1⟩ := Opn.op (P := Try.prog) (t := 3) (α := Int) e1
          obtain ⟨n, hn, bk2⟩ := Opn.op (P := Try.prog) (t := 3) (α := Int) e2
          cases fuel with
          | zero => simp [DataW.trod] at e3
          | succ fuel =>
            obtain ⟨kids, hkids, bk3⟩ := slice_op (α := Ltl) (e := 68) (fun h => ih fuel (by omega) h) e3
            obtain ⟨ao, cap, hc, hs⟩ := rd_sl hkids
            have hk' := rd_int hk
            have hn' := rd_int hn
            refine ⟨.mk k n kids, ?_, ?_⟩
            · clear hu hst h1 e1 e2 e3 ih bk1 bk2 bk3
              obtain ⟨c0, c1, c2, rfl⟩ := len3 hl3
              have a0 : [c0] = [.int .i64 k] := hk'
              have a1 : [c1] = [.int .i64 n] := hn'
              have a2 : [c2] = [.slice ao kids.length cap] := hc
              rw [List.cons.inj a0 |>.1, List.cons.inj a1 |>.1, List.cons.inj a2 |>.1]
              exact RdT.of hs
            · have hnl : ∀ l : List Ltl, bkL l = Ltl.nodesL l := by
                intro l
                induction l with
                | nil => rfl
                | cons x r ihl => simp only [bkL, Ltl.nodesL, ihl]; rfl
              have e3' : bk kids = bkL kids + 1 := rfl
              have e4 : bk (Ltl.mk k n kids) = 1 + Ltl.nodesL kids := by show Ltl.nodes _ = _; simp [Ltl.nodes]
              rw [e4, ← hnl]
              simp only [List.map_cons, List.map_nil, Rows.uptoBulk, Rows.uptoBulkAll]
              omega
        · cases hd
    · cases hst
instance iOpnLtl2 : Opn Try.prog 68 Ltl where
  op := fun h => ltl_op _ h
end Go.Proofs.Ytllpfgcngokhnaa

/-
  Bulk of lists of numbers.
-/
namespace Go.Proofs.Ytllpfgcngokhnaa
open Go.RowKit

theorem bulk_flat {α : Type} [Bk α] (h : ∀ x : α, bk x = 1) : ∀ l : List α, bkL l = l.length
  | [] => rfl
  | x :: r => by simp only [bkL, h, bulk_flat h r, List.length_cons]; omega
theorem bulk_l (l : List Int) : l.length + 1 = bk l := by show _ = bkL l + 1; rw [bulk_flat (fun _ => rfl)]
theorem bulk_g : ∀ g : List (List Int), edges g + g.length ≤ bkL g
  | [] => by simp [edges, bkL]
  | l :: g => by
    have h1 := bulk_g g
    have h3 : bk l = l.length + 1 := (bulk_l l).symm
    simp only [bkL, h3, edges, List.map_cons, List.sum_cons, List.length_cons] at h1 ⊢
    omega
theorem bulk_gg (g : List (List Int)) : edges g + g.length + 1 ≤ bk g := by
  have := bulk_g g
  show _ ≤ bkL g + 1
  omega
end Go.Proofs.Ytllpfgcngokhnaa

