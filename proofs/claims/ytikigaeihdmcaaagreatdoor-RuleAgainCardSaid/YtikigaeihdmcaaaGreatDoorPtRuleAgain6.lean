import Derived.Test.YtikigaeihdmcaaaGreatDoorPtRuleAgain5
/-
  ctl.Print, walked.
-/
set_option linter.unusedVariables false
set_option linter.unusedSimpArgs false
namespace Go.Proofs.YtikigaeihdmcaaaGreatDoor
open Go.RowKit

mutual
theorem chkC_sh : ∀ (t : Ltl) (d c : Int), (chkC t d c).1 = 0 → ShT kidsC t ∧ (chkC t d c).2 = c + t.nodes
  | .mk k n kids, d, c, h => by
    simp only [chkC] at h ⊢
    split at h
    · cases h
    split at h
    · cases h
    split at h
    · cases h
    rename_i h1 h2 h3
    rw [if_neg h1, if_neg h2, if_neg h3]
    have ⟨g1, g2⟩ := chkCL_sh kids (d + 1) (c + 1) h
    simp only [not_or] at h3
    refine ⟨.mk k n kids (by omega) (by omega) (by omega) g1, ?_⟩
    rw [g2]; simp only [Ltl.nodes]; omega
theorem chkCL_sh : ∀ (l : List Ltl) (d c : Int), (chkCL l d c).1 = 0 → (∀ x ∈ l, ShT kidsC x) ∧ (chkCL l d c).2 = c + Ltl.nodesL l
  | [], d, c, h => ⟨fun x hx => by (cases hx), by simp [chkCL, Ltl.nodesL]⟩
  | y :: r, d, c, h => by
    simp only [chkCL] at h ⊢
    split at h
    · rename_i h1; exact absurd h h1
    rename_i h1
    rw [if_neg h1]
    have ⟨g1, g2⟩ := chkC_sh y d c (by simpa using h1)
    have ⟨g3, g4⟩ := chkCL_sh r d _ h
    refine ⟨fun x hx => ?_, ?_⟩
    · rcases List.mem_cons.1 hx with rfl | hx
      · exact g1
      · exact g3 x hx
    · rw [g4, g2]; simp only [Ltl.nodesL]; omega
end
theorem txtC_bin {nm : Int → Bys} {n : Int} {x y : Ltl} :
    txtC nm (.mk 5 n [x, y]) = kidT (bareC 5 0 x.k) (txtC nm x) ++ [32, 38, 32] ++ kidT (bareC 5 1 y.k) (txtC nm y) ∧ txtC nm (.mk 6 n [x, y]) = kidT (bareC 6 0 x.k) (txtC nm x) ++ [32, 47, 32] ++ kidT (bareC 6 1 y.k) (txtC nm y) ∧
    txtC nm (.mk 10 n [x, y]) = [69, 32, 91] ++ txtC nm x ++ [32, 85, 32] ++ txtC nm y ++ [93] ∧ txtC nm (.mk 14 n [x, y]) = [65, 32, 91] ++ txtC nm x ++ [32, 85, 32] ++ txtC nm y ++ [93] := by
  refine ⟨?_, ?_, ?_, ?_⟩ <;> simp [txtC, txtCs, joinC]
theorem txtC_one {nm : Int → Bys} {k n : Int} {x : Ltl} (hk : k = 4 ∨ k = 7 ∨ k = 8 ∨ k = 9 ∨ k = 11 ∨ k = 12 ∨ k = 13) : txtC nm (.mk k n [x]) = sigC k ++ kidT (bareC k 0 x.k) (txtC nm x) := by
  rcases hk with rfl | rfl | rfl | rfl | rfl | rfl | rfl <;> simp [txtC, txtCs, joinC]
theorem badC_two {nm : Int → Bys} {k n : Int} {x y : Ltl} (hk : k ≠ 3) (b : Bool) : (b || badF nm (.mk k n [x, y])) = (b || badF nm x || badF nm y) := by
  have : (k == 3) = false := by simpa using hk
  simp [badF, badFs, this, Bool.or_assoc]
theorem badC_one {nm : Int → Bys} {k n : Int} {x : Ltl} (hk : k ≠ 3) (b : Bool) : (b || badF nm (.mk k n [x])) = (b || badF nm x) := by
  have : (k == 3) = false := by simpa using hk
  simp [badF, badFs, this]
instance iPrc1 : IsFd Tryz.prog 85 0 0 := IsFd.of (by kernel_rfl)
instance iPrc2 : IsFd Tryz.prog 85 1 1 := IsFd.of (by kernel_rfl)
instance iPrc3 : IsBd Tryz.prog 85 [(0, 1), (1, 1)] := IsBd.of (by kernel_rfl)
instance iPrc4 : IsZC Tryz.prog 85 [.slice none 0 0, .bool false] := IsZC.of (z := .agg #[.slice none 0 0, .bool false]) (by kernel_rfl) rfl
instance iPrc5 : IsC Tryz.prog 85 2 true := IsC.of (by kernel_rfl) Tryz.underlying85 rfl
instance iPrc6 : IsAr Tryz.prog 118 14 9 := ⟨Tryz.underlying118⟩
abbrev noTC : Value := .string ⟨#[]⟩
instance iPrc7 : IsZC Tryz.prog 118 [noTC, noTC, noTC, noTC, noTC, noTC, noTC, noTC, noTC, noTC, noTC, noTC, noTC, noTC] := IsZC.of (z := .agg #[noTC, noTC, noTC, noTC, noTC, noTC, noTC, noTC, noTC, noTC, noTC, noTC, noTC, noTC]) (by kernel_rfl) rfl
theorem csign_ok (w0 : World) {k : Int} (hk : k = 4 ∨ k = 7 ∨ k = 8 ∨ k = 9 ∨ k = 11 ∨ k = 12 ∨ k = 13) : Rt Tryz.prog 57 [.int .i64 k].toArray w0 fun v w' => v = tV (sigC k) ∧ Ext w0 w' := by
  obtain ⟨ki, rfl, hki, hsg⟩ : ∃ i : Nat, k = (i : Int) ∧ i < 14 ∧ nthV [noTC, noTC, noTC, noTC, tV [33], noTC, noTC, tV [69, 88, 32], tV [69, 70, 32], tV [69, 71, 32], noTC, tV [65, 88, 32], tV [65, 70, 32], tV [65, 71, 32]] i = some (tV (sigC k)) := by
    rcases hk with rfl | rfl | rfl | rfl | rfl | rfl | rfl
    · exact ⟨4, rfl, by decide, rfl⟩
    · exact ⟨7, rfl, by decide, rfl⟩
    · exact ⟨8, rfl, by decide, rfl⟩
    · exact ⟨9, rfl, by decide, rfl⟩
    · exact ⟨11, rfl, by decide, rfl⟩
    · exact ⟨12, rfl, by decide, rfl⟩
    · exact ⟨13, rfl, by decide, rfl⟩
  generalize sigC (ki : Int) = sg at *
  refine Rt.enter1 Tryz.func57 Tryz.ntmps57 rfl rfl ?_
  (repeat (first | (apply WL.pure; rfl; rfl; rfl) | (apply WL.nil) | (apply EX.thenN) | (apply CW.seq) | (apply CW.region)))
  refine WL.buildAr (out := [noTC, noTC, noTC, noTC, tV [33], noTC, noTC, tV [69, 88, 32], tV [69, 70, 32], tV [69, 71, 32], noTC, tV [65, 88, 32], tV [65, 70, 32], tV [65, 71, 32]]) rfl rfl rfl rfl ?_
  (repeat (apply WL.pure; rfl; rfl; rfl))
  refine WL.indexAr rfl rfl rfl rfl hki hsg ?_
  (repeat (first | (apply WL.pure; rfl; rfl; rfl) | (apply WL.nil) | (apply EX.thenN) | (apply CW.ret)))
  exact EX.ret1 rfl rfl ⟨rfl, Ext.refl _⟩
theorem cbare_ok (w0 : World) (k i x : Int) : Rt Tryz.prog 74 [.int .i64 k, .int .i64 i, .int .i64 x].toArray w0 fun v w' => v = .bool (bareC k i x) ∧ w0 = w' := by
  refine Rt.enter3 Tryz.func74 Tryz.ntmps74 rfl rfl ?_
  unfold bareC
  (repeat (first | (apply WL.pure; rfl; rfl; rfl) | (apply WL.nil) | (apply EX.thenN) | (apply CW.seq) | (apply CW.region) | (apply CW.block)))
  refine CW.cond rfl (fun h => ?_) (fun h => ?_)
  · have hx : x = 5 := by simpa using h
    rw [if_pos hx]
    clear h
    (repeat (first | (apply WL.pure; rfl; rfl; rfl) | (apply CW.seq) | (apply CW.region)))
    (refine WL.lookG rfl rfl (fun h => ?_) (fun h => ?_))
    · (repeat (first | (apply WL.pure; rfl; rfl; rfl) | (apply WL.nil) | (apply EX.thenN) | (apply WL.pass; rfl; rfl) | (apply CW.ret) | (apply EX.thenR) | (apply EX.inR)))
      exact EX.ret1 rfl rfl ⟨by rw [h]; rfl, rfl⟩
    · rw [h]
      clear h
      (repeat (apply WL.pure; rfl; rfl; rfl))
      (refine WL.lookG rfl rfl (fun h => ?_) (fun h => ?_))
      · (repeat (first | (apply WL.pure; rfl; rfl; rfl) | (apply WL.nil) | (apply EX.thenN) | (apply CW.ret) | (apply EX.thenR) | (apply EX.inR)))
        exact EX.ret1 rfl rfl ⟨by rw [h]; rfl, rfl⟩
      · (repeat (first | (apply WL.pure; rfl; rfl; rfl) | (apply WL.nil) | (apply EX.thenN) | (apply WL.pass; rfl; rfl) | (apply CW.ret) | (apply EX.thenR) | (apply EX.inR)))
        exact EX.ret1 rfl rfl ⟨by rw [h]; rfl, rfl⟩
  have h5 : ¬ x = 5 := by simpa using h
  rw [if_neg h5]
  (repeat (first | (apply WL.pure; rfl; rfl; rfl) | (apply WL.nil) | (apply EX.thenN) | (apply CW.seq) | (apply CW.region)))
  refine CW.cond rfl (fun h => ?_) (fun h => ?_)
  · have h : x = 6 := by simpa using h
    rw [if_pos h]
    clear h
    (repeat (first | (apply WL.pure; rfl; rfl; rfl) | (apply CW.seq) | (apply CW.region)))
    (refine WL.lookG rfl rfl (fun h => ?_) (fun h => ?_))
    · (repeat (first | (apply WL.pure; rfl; rfl; rfl) | (apply WL.nil) | (apply EX.thenN) | (apply CW.ret) | (apply EX.thenR) | (apply EX.inR)))
      exact EX.ret1 rfl rfl ⟨by rw [h]; rfl, rfl⟩
    · (repeat (first | (apply WL.pure; rfl; rfl; rfl) | (apply WL.nil) | (apply EX.thenN) | (apply WL.pass; rfl; rfl) | (apply CW.ret) | (apply EX.thenR) | (apply EX.inR)))
      exact EX.ret1 rfl rfl ⟨by rw [h]; rfl, rfl⟩
  have h6 : ¬ x = 6 := by simpa using h
  rw [if_neg h6]
  (repeat (first | (apply WL.pure; rfl; rfl; rfl) | (apply WL.nil) | (apply EX.thenN) | (apply CW.seq) | (apply CW.region) | (apply EX.inN) | (apply CW.ret) | (apply CW.skip)))
  exact EX.ret1 rfl rfl ⟨rfl, rfl⟩
/-- a writer of texts -/
abbrev WrC (w : World) (bw : Nat) (no : Option Addr) (len nc : Nat) (b : Bool) : Prop := Blk w bw 85 [.slice no len nc, .bool b]
def CText (t : Ltl) : Prop := ∀ (w : World) (F : Nat → Prop) (bw : Nat) (ao : Option Addr) (cap : Nat) (no : Option Addr) (nc : Nat) (nms : List ByteArray) (b : Bool), Sl w F ao cap t.kids → Sl w F no nc nms → (∀ k, F k → k < w.heap.size) → ¬ F bw → WrC w bw no nms.length nc b →
  Rt Tryz.prog 39 [.pointer (some ⟨bw, 0, none⟩), ltlV t.k t.n ao t.kids.length cap].toArray w fun v w' => v = tV (txtC (nmL nms) t) ∧ WrC w' bw no nms.length nc (b || badF (nmL nms) t) ∧ w.grownBy w' (some bw)
theorem ckid_ok {t : Ltl} {i : Nat} (hi : i < t.kids.length) (ih : CText t.kids[i]) (hl : t.kids[i].nodes ≤ 1000) (w : World) (F : Nat → Prop) (bw : Nat) (ao : Option Addr) (cap : Nat) (no : Option Addr) (nc : Nat) (nms : List ByteArray) (b : Bool)
    (hs : Sl w F ao cap t.kids) (hn : Sl w F no nc nms) (hF : ∀ k, F k → k < w.heap.size) (hnb : ¬ F bw) (hb : WrC w bw no nms.length nc b) :
    Rt Tryz.prog 56 [.pointer (some ⟨bw, 0, none⟩), ltlV t.k t.n ao t.kids.length cap, .int .i64 (i : Int)].toArray w fun v w' => v = tV (kidT (bareC t.k i t.kids[i].k) (txtC (nmL nms) t.kids[i])) ∧ WrC w' bw no nms.length nc (b || badF (nmL nms) t.kids[i]) ∧ w.grownBy w' (some bw) := by
  have hm := hs.len63
  have hbl := hb.lt
  have htl := txtC_len (nmL_len nms) t.kids[i]
  obtain ⟨kb, koff, rfl, hFk, es, hcl, hrd⟩ := hs.el i hi
  refine Rt.enter3 Tryz.func56 Tryz.ntmps56 rfl rfl ?_
  (repeat (first | (apply CW.seq) | (apply CW.region)))
  refine WL.boxB rfl rfl rfl fun w1 hb4 e1 => ?_
  have hF1 : ∀ k, F k → k < w1.heap.size := fun k hk => Nat.lt_of_lt_of_le (hF k hk) e1.size
  have hs1 : Sl w1 F _ cap t.kids := hs.mono (fun k hk => e1.block k (hF k hk)) fun _ h => h
  have hn1 : Sl w1 F no nc nms := hn.mono (fun k hk => e1.block k (hF k hk)) fun _ h => h
  (repeat (first | (apply WL.pure; rfl; rfl; rfl) | (apply WL.nil) | (apply EX.thenN) | (apply CW.seq) | (apply CW.region) | (apply WL.fa; rfl; rfl; rfl) | (apply WL.ld; rfl; rfl; rfl; assumption; rfl)))
  refine WL.elemN rfl rfl rfl rfl rfl hs1 hi (fun _ => rfl) (fun u q hu => ?_)
  obtain ⟨ao', cap', rfl, hx⟩ := hu.ltl
  skip
  refine WL.call rfl rfl rfl (ih w1 F bw ao' cap' no nc nms b hx hn1 hF1 hnb (hb.ext e1)) ?_
  rintro _ w2 ⟨rfl, hb2, hg2⟩
  have hb42 := hb4.kept hg2 (fun e => by have := Option.some.inj e; omega)
  have hF2 : ∀ k, F k → k < w2.heap.size := fun k hk => Nat.lt_of_lt_of_le (hF1 k hk) hg2.size
  have hk2 : w2.heap[kb]? = w.heap[kb]? := (hg2.block kb (hF1 kb hFk) (fun e => by cases e; exact hnb hFk)).trans (e1.block kb (hF kb hFk))
  have hc2 : Cells w2 kb (koff + i * sz Ltl) [.int .i64 t.kids[i].k] := kid_cells (Rep.mono hrd (fun k hk => (hg2.block k (hF1 k hk) (fun e => by cases e; exact hnb hk)).trans (e1.block k (hF k hk))) fun _ h => h) (hcl.mono hk2)
  have hE : w.grownBy w2 (some bw) := grown_tr (e1.grw (some bw)) hg2
  generalize hT : txtC (nmL nms) t.kids[i] = T at *
  (repeat (first | (apply WL.pure; rfl; rfl; rfl) | (apply QL.pure; rfl; rfl; rfl) | (apply WL.nil) | (apply EX.thenN) | (apply CW.seq) | (apply QL.fa; rfl; rfl; rfl) | (apply QL.ld; rfl; rfl; rfl; assumption; rfl) | (apply CW.draw; exact mixed; kernel_rfl)))
  refine QL.idx (α := Ltl) rfl rfl rfl rfl (by omega) (by omega) ?_
  (repeat (apply QL.fa; rfl; rfl; rfl))
  refine QL.load (α := Int) (F := F) (y := t.kids[i].k) rfl rfl rfl (hF2 kb hFk) hF2 (by rw [Int.toNat_natCast]; exact hc2) rfl ?_
  rw [show vOf Int [.int .i64 t.kids[i].k] = .int .i64 t.kids[i].k from rfl]
  skip
  refine QL.call rfl rfl rfl (fun w' h => Rt.mono (cbare_ok w' t.k i t.kids[i].k) (fun v w'' hv => ⟨hv.1, hv.2 ▸ Ext.refl _⟩)) ?_
  refine QL.nil (fun w3 e3 => ?_)
  have hE3 : w.grownBy w3 (some bw) := grown_tr hE (e3.grw (some bw))
  have hb3 := hb2.ext e3
  unfold kidT
  (repeat (apply EX.thenN))
  refine CW.cond rfl (fun h => ?_) (fun h => ?_)
  · rw [if_pos h]
    (repeat (first | (apply WL.pure; rfl; rfl; rfl) | (apply WL.nil) | (apply EX.thenN) | (apply CW.seq) | (apply CW.region) | (apply CW.ret) | (apply EX.thenR)))
    exact EX.ret1 rfl rfl ⟨rfl, hb3, hE3⟩
  · rw [if_neg (by rw [h]; decide)]
    (repeat (first | (apply WL.pure; rfl; rfl; rfl) | (apply EX.thenN) | (apply CW.seq) | (apply CW.region) | (apply CW.skip)))
    refine WL.cat (a := [40]) (b := T) rfl rfl rfl rfl (by simp only [List.length_cons, List.length_nil]; omega) ?_
    refine WL.cat (a := [40] ++ T) (b := [41]) rfl rfl rfl rfl (by simp only [List.length_append, List.length_cons, List.length_nil]; omega) ?_
    (repeat (first | (apply WL.pure; rfl; rfl; rfl) | (apply WL.nil) | (apply EX.thenN) | (apply CW.ret)))
    exact EX.ret1 rfl rfl ⟨rfl, hb3, hE3⟩
theorem cname_ok (w : World) {F : Nat → Prop} {no : Option Addr} {nc bw : Nat} {nms : List ByteArray} {b : Bool} (hnF : Sl w F no nc nms) (hF : ∀ k, F k → k < w.heap.size) (hb : WrC w bw no nms.length nc b) (n : Int) (h0 : 0 ≤ n) :
    Rt Tryz.prog 55 [.pointer (some ⟨bw, 0, none⟩), .int .i64 n].toArray w fun v w' => v = tV (nmL nms n) ∧ WrC w' bw no nms.length nc (b || nmL nms n == []) ∧ w.grownBy w' (some bw) := by
  have hn := hnF.lift hF
  have hm := hn.len63
  refine Rt.enter2 Tryz.func55 Tryz.ntmps55 rfl rfl ?_
  obtain ⟨i, rfl⟩ := Int.eq_ofNat_of_zero_le h0
  (repeat (first | (apply WL.pure; rfl; rfl; rfl) | (apply WL.nil) | (apply EX.thenN) | (apply CW.seq) | (apply CW.region)))
  refine CW.cond rfl (fun h => ?_) (fun h => ?_)
  · have h63 : (i : Int) = 63 := by simpa using h
    (repeat (first | (apply WL.pure; rfl; rfl; rfl) | (apply WL.nil) | (apply EX.thenN) | (apply CW.seq) | (apply CW.region) | (apply CW.ret) | (apply EX.thenR)))
    refine EX.ret1 rfl rfl ?_
    unfold nmL; rw [if_pos h63]
    exact ⟨rfl, by rw [show (b || tSil == []) = b by simp [tSil]]; exact hb, World.grownBy.refl _ _⟩
  have h63 : ¬ (i : Int) = 63 := by simpa using h
  have hbad : ∀ {w' : World} {σ : Sg}, nmL nms (i : Int) = [] → Ext w w' → True := fun _ _ => trivial
  (repeat (first | (apply QL.pure; rfl; rfl; rfl) | (apply EX.thenN) | (apply CW.seq) | (apply QL.lenS; rfl; rfl; rfl) | (apply QL.fa; rfl; rfl; rfl) | (apply QL.nck; rfl; rfl; rfl) | (apply QL.ld; rfl; rfl; rfl; assumption; rfl) | (apply CW.skip) | (apply CW.draw; exact mixed; kernel_rfl)))
  (refine QL.lookG rfl rfl (fun h => ?_) (fun h => ?_))
  · have h1 : (i : Int) ≥ (nms.length : Int) := by simpa using h
    (repeat (first | (apply QL.pure; rfl; rfl; rfl) | (apply QL.pass; rfl; rfl)))
    refine QL.nil (fun w1 e1 => ?_)
    have hb1 := hb.ext e1
    (repeat (first | (apply WL.pure; rfl; rfl; rfl) | (apply EX.thenN) | (apply CW.seq) | (apply CW.region) | (apply WL.fa; rfl; rfl; rfl) | (apply WL.nck; rfl; rfl; rfl) | (apply CW.condT; rfl)))
    refine WL.st rfl rfl rfl hb1 rfl rfl (ones_of rfl) (fun w2 hb2 hg2 => ?_)
    (repeat (first | (apply WL.pure; rfl; rfl; rfl) | (apply WL.nil) | (apply EX.thenN) | (apply CW.seq) | (apply CW.region) | (apply CW.ret) | (apply EX.thenR)))
    refine EX.ret1 rfl rfl ?_
    unfold nmL; rw [if_neg h63, if_pos h1]
    exact ⟨rfl, by simpa using hb2, grown_tr (e1.grw _) hg2⟩
  have h1 : ¬ (i : Int) ≥ (nms.length : Int) := by simpa using h
  have hi : i < nms.length := by omega
  (repeat (first | (apply QL.pure; rfl; rfl; rfl) | (apply QL.fa; rfl; rfl; rfl) | (apply QL.nck; rfl; rfl; rfl) | (apply QL.ld; rfl; rfl; rfl; assumption; rfl)))
  refine QL.elemN rfl rfl rfl rfl rfl (fun _ h => h) hn hi (fun _ => rfl) (fun u1 q1 hu1 => ?_)
  obtain ⟨rfl, _⟩ := hu1.str
  skip
  refine QL.call rfl rfl rfl (fun w' h => Named_ok w' nms[i]) ?_
  (repeat (apply QL.pure; rfl; rfl; rfl))
  (refine QL.lookG rfl rfl (fun h => ?_) (fun h => ?_))
  · (repeat (first | (apply QL.pure; rfl; rfl; rfl) | (apply QL.pass; rfl; rfl)))
    refine QL.nil (fun w1 e1 => ?_)
    have hb1 := hb.ext e1
    (repeat (first | (apply WL.pure; rfl; rfl; rfl) | (apply EX.thenN) | (apply CW.seq) | (apply CW.region) | (apply WL.fa; rfl; rfl; rfl) | (apply WL.nck; rfl; rfl; rfl) | (apply CW.condT; rfl)))
    refine WL.st rfl rfl rfl hb1 rfl rfl (ones_of rfl) (fun w2 hb2 hg2 => ?_)
    (repeat (first | (apply WL.pure; rfl; rfl; rfl) | (apply WL.nil) | (apply EX.thenN) | (apply CW.seq) | (apply CW.region) | (apply CW.ret) | (apply EX.thenR)))
    refine EX.ret1 rfl rfl ?_
    unfold nmL; rw [if_neg h63, if_neg h1, if_pos (by rw [Int.toNat_natCast, getDNm_at hi]; simpa using h)]
    exact ⟨rfl, by simpa using hb2, grown_tr (e1.grw _) hg2⟩
  have h2 : ¬ namedB nms[i] = false := by simpa using h
  (repeat (first | (apply QL.pure; rfl; rfl; rfl) | (apply QL.fa; rfl; rfl; rfl) | (apply QL.nck; rfl; rfl; rfl) | (apply QL.ld; rfl; rfl; rfl; assumption; rfl)))
  refine QL.elemN rfl rfl rfl rfl rfl (fun _ h => h) hn hi (fun _ => rfl) (fun u1 q1 hu1 => ?_)
  obtain ⟨rfl, _⟩ := hu1.str
  skip
  refine QL.call rfl rfl rfl (fun w' h => Rt.mono (index_str w' nms[i] (hn.up h)) (fun v w'' hv => ⟨hv.1, hv.2 ▸ Ext.refl _⟩)) ?_
  (repeat (apply QL.pure; rfl; rfl; rfl))
  refine QL.nil (fun w1 e1 => ?_)
  have hb1 := hb.ext e1
  (repeat (apply EX.thenN))
  refine CW.cond rfl (fun h => ?_) (fun h => ?_)
  · (repeat (first | (apply WL.pure; rfl; rfl; rfl) | (apply CW.seq) | (apply CW.region) | (apply WL.fa; rfl; rfl; rfl) | (apply WL.nck; rfl; rfl; rfl)))
    refine WL.st rfl rfl rfl hb1 rfl rfl (ones_of rfl) (fun w2 hb2 hg2 => ?_)
    (repeat (first | (apply WL.pure; rfl; rfl; rfl) | (apply WL.nil) | (apply EX.thenN) | (apply CW.seq) | (apply CW.region) | (apply CW.ret) | (apply EX.thenR)))
    refine EX.ret1 rfl rfl ?_
    unfold nmL; rw [if_neg h63, if_neg h1, if_neg (by rw [Int.toNat_natCast, getDNm_at hi]; exact h2), if_pos (by rw [Int.toNat_natCast, getDNm_at hi, ← idxB_of]; simpa using h)]
    exact ⟨rfl, by simpa using hb2, grown_tr (e1.grw _) hg2⟩
  (repeat (first | (apply WL.pure; rfl; rfl; rfl) | (apply EX.thenN) | (apply CW.seq) | (apply CW.region) | (apply WL.fa; rfl; rfl; rfl) | (apply WL.nck; rfl; rfl; rfl) | (apply WL.ld; rfl; rfl; rfl; assumption; rfl) | (apply CW.skip)))
  refine WL.elemN rfl rfl rfl rfl rfl (hn.up e1) hi (fun _ => rfl) (fun u1 q1 hu1 => ?_)
  obtain ⟨rfl, _⟩ := hu1.str
  (repeat (first | (apply WL.pure; rfl; rfl; rfl) | (apply WL.nil) | (apply EX.thenN) | (apply CW.ret)))
  refine EX.ret1 rfl rfl ?_
  have hnm : namedL nms[i].data.toList = true := by simpa using h2
  have e : nmL nms (i : Int) = nms[i].data.toList := by
    unfold nmL; rw [if_neg h63, if_neg h1, if_neg (by rw [Int.toNat_natCast, getDNm_at hi]; exact h2), if_neg (by rw [Int.toNat_natCast, getDNm_at hi, ← idxB_of]; simpa using h)]
    rw [Int.toNat_natCast, getDNm_at hi]
  rw [e]
  exact ⟨by rw [tV, txA_eta], by rw [show (nms[i].data.toList == []) = false from by rw [beq_eq_false_iff_ne]; exact (named_ne hnm).1, Bool.or_false]; exact hb1, e1.grw _⟩
set_option maxHeartbeats 2000000 in
theorem ctext_ok : ∀ (m : Nat) (t : Ltl), t.nodes ≤ m → m ≤ 1000 → ShT kidsC t → CText t
  | 0, t, hm, _, _ => by have := t.nodes_pos; omega
  | m + 1, .mk k n kids, hm, hm1, hsh => by
    intro w F bw ao cap no nc nms b hs hn hF hnb hb
    obtain ⟨hk, h0, h63, hkids⟩ := shT_inv hsh
    simp only [Ltl.nodes] at hm
    have hnd : ∀ i (hi : i < kids.length), kids[i].nodes ≤ m := fun i hi => by have := Ltl.nodes_kid kids _ (List.getElem_mem hi); omega
    have ihk : ∀ i (hi : i < kids.length), CText kids[i] := fun i hi => ctext_ok m kids[i] (hnd i hi) (by omega) (hkids _ (List.getElem_mem hi))
    have htl : ∀ i (hi : i < kids.length), (txtC (nmL nms) kids[i]).length ≤ 8000 := fun i hi => by have := txtC_len (nmL_len nms) kids[i]; have := hnd i hi; omega
    have hbl := hb.lt
    simp only [mk_kids] at hs
    simp only [mk_k, mk_n, mk_kids]
    refine Rt.enter2 Tryz.func39 Tryz.ntmps39 rfl rfl ?_
    (repeat (first | (apply CW.seq) | (apply CW.region)))
    refine WL.boxB rfl rfl rfl fun w1 hb3 e1 => ?_
    have hF1 : ∀ k, F k → k < w1.heap.size := fun k hk => Nat.lt_of_lt_of_le (hF k hk) e1.size
    have hs1 : Sl w1 F ao cap kids := hs.mono (fun k hk => e1.block k (hF k hk)) fun _ h => h
    have hn1 : Sl w1 F no nc nms := hn.mono (fun k hk => e1.block k (hF k hk)) fun _ h => h
    have hb1 := hb.ext e1
    have hg1 : w.grownBy w1 (some bw) := e1.grw (some bw)
    have hl3 := hb3.lt
    have htwo : ∀ K, kidsC K = 2 → k = K → ∃ x y, kids = [x, y] := fun K hK e => by
      have : kids.length = 2 := by rw [e] at hk; omega
      match kids, this with
      | [x, y], _ => exact ⟨x, y, rfl⟩
    have hD : Ext w1 (drew w1) := Ext.drew w1
    have hb3d := hb3.ext hD
    have hbd := hb1.ext hD
    have hsd : Sl (drew w1) F ao cap kids := hs1.mono (fun k hk => hD.block k (hF1 k hk)) fun _ h => h
    have hnd1 : Sl (drew w1) F no nc nms := hn1.mono (fun k hk => hD.block k (hF1 k hk)) fun _ h => h
    have hFd : ∀ k, F k → k < (drew w1).heap.size := hF1
    have hgD : w.grownBy (drew w1) (some bw) := grown_tr hg1 (hD.grw _)
    have hw3 : w.heap.size ≠ bw := by omega
    -- what all orders keep
    have hSk : ∀ {z z' : World}, (z.heap[w.heap.size]? = (drew w1).heap[w.heap.size]? ∧ w1.heap.size ≤ z.heap.size ∧ ∀ k, F k → z.heap[k]? = (drew w1).heap[k]?) → z.grownBy z' (some bw) → (z'.heap[w.heap.size]? = (drew w1).heap[w.heap.size]? ∧ w1.heap.size ≤ z'.heap.size ∧ ∀ k, F k → z'.heap[k]? = (drew w1).heap[k]?) :=
      fun {z z'} hz hg => ⟨(hg.block _ (by omega) (fun e => hw3 (Option.some.inj e))).trans hz.1, Nat.le_trans hz.2.1 hg.size, fun k hk => (hg.block k (Nat.lt_of_lt_of_le (hF1 k hk) hz.2.1) (fun e => by cases e; exact hnb hk)).trans (hz.2.2 k hk)⟩
    have hKS : ∀ z : World, (fun z : World => z.heap[w.heap.size]? = (drew w1).heap[w.heap.size]? ∧ w1.heap.size ≤ z.heap.size ∧ ∀ k, F k → z.heap[k]? = (drew w1).heap[k]?) z → Blk z w.heap.size 31 [.int .i64 k, .int .i64 n, .slice ao kids.length cap] := fun z hz => hz.1.trans hb3d
    have hS0 : (fun z : World => z.heap[w.heap.size]? = (drew w1).heap[w.heap.size]? ∧ w1.heap.size ≤ z.heap.size ∧ ∀ k, F k → z.heap[k]? = (drew w1).heap[k]?) (drew w1) := ⟨rfl, Nat.le_refl _, fun _ _ => rfl⟩
    (repeat (first | (apply WL.pure; rfl; rfl; rfl) | (apply WL.nil) | (apply EX.thenN) | (apply CW.seq) | (apply CW.region) | (apply WL.fa; rfl; rfl; rfl) | (apply WL.ld; rfl; rfl; rfl; assumption; rfl) | (apply CW.block)))
    refine CW.cond rfl (fun h => ?_) (fun h => ?_)
    · obtain rfl : k = 1 := by simpa using h
      obtain rfl : kids = [] := List.eq_nil_of_length_eq_zero (by have : kidsC 1 = 0 := rfl; omega)
      (repeat (first | (apply WL.pure; rfl; rfl; rfl) | (apply WL.nil) | (apply EX.thenN) | (apply CW.seq) | (apply CW.region) | (apply CW.ret) | (apply EX.thenR) | (apply EX.inR)))
      exact EX.ret1 rfl rfl ⟨rfl, by simpa [badF, badFs] using hb1, hg1⟩
    have k1 : ¬ k = 1 := by simpa using h
    clear h
    (repeat (first | (apply WL.pure; rfl; rfl; rfl) | (apply WL.nil) | (apply EX.thenN) | (apply CW.seq) | (apply CW.region)))
    refine CW.cond rfl (fun h => ?_) (fun h => ?_)
    · obtain rfl : k = 2 := by simpa using h
      obtain rfl : kids = [] := List.eq_nil_of_length_eq_zero (by have : kidsC 2 = 0 := rfl; omega)
      (repeat (first | (apply WL.pure; rfl; rfl; rfl) | (apply WL.nil) | (apply EX.thenN) | (apply CW.seq) | (apply CW.region) | (apply CW.ret) | (apply EX.thenR) | (apply EX.inR)))
      exact EX.ret1 rfl rfl ⟨rfl, by simpa [badF, badFs] using hb1, hg1⟩
    have k2 : ¬ k = 2 := by simpa using h
    clear h
    (repeat (first | (apply WL.pure; rfl; rfl; rfl) | (apply WL.nil) | (apply EX.thenN) | (apply CW.seq) | (apply CW.region)))
    refine CW.cond rfl (fun h => ?_) (fun h => ?_)
    · obtain rfl : k = 3 := by simpa using h
      obtain rfl : kids = [] := List.eq_nil_of_length_eq_zero (by have : kidsC 3 = 0 := rfl; omega)
      (repeat (first | (apply WL.pure; rfl; rfl; rfl) | (apply CW.seq) | (apply CW.region) | (apply WL.fa; rfl; rfl; rfl) | (apply WL.ld; rfl; rfl; rfl; assumption; rfl)))
      refine WL.call rfl rfl rfl (cname_ok w1 hn1 hF1 hb1 n h0) ?_
      rintro _ w2 ⟨rfl, hb2, hg2⟩
      (repeat (first | (apply WL.pure; rfl; rfl; rfl) | (apply WL.nil) | (apply EX.thenN) | (apply CW.ret) | (apply EX.thenR) | (apply EX.inR)))
      exact EX.ret1 rfl rfl ⟨by simp [txtC, joinC], by simpa [badF, badFs] using hb2, grown_tr hg1 hg2⟩
    have k3 : ¬ k = 3 := by simpa using h
    clear h
    (repeat (first | (apply WL.pure; rfl; rfl; rfl) | (apply WL.nil) | (apply EX.thenN) | (apply CW.seq) | (apply CW.region)))
    refine CW.cond rfl (fun h => ?_) (fun h => ?_)
    · obtain rfl : k = 5 := by simpa using h
      obtain ⟨x, y, rfl⟩ := htwo 5 rfl rfl
      have hlx := htl 0 (by simp)
      have hly := htl 1 (by simp)
      simp only [List.getElem_cons_zero, List.getElem_cons_succ] at hlx hly
      have hkx := kidT_len (bareC 5 ((0 : Nat) : Int) x.k) (txtC (nmL nms) x)
      have hky := kidT_len (bareC 5 ((1 : Nat) : Int) y.k) (txtC (nmL nms) y)
      (repeat (apply CW.seq))
      refine CW.drawH (fun z : World => z.heap[w.heap.size]? = (drew w1).heap[w.heap.size]? ∧ w1.heap.size ≤ z.heap.size ∧ ∀ k, F k → z.heap[k]? = (drew w1).heap[k]?) [(0, true), (1, true), (4, true), (5, true), (2, false), (3, true), (6, false), (7, true), (8, true)] mixed (by kernel_rfl) hS0 ?_
      (repeat (apply HL.pure; rfl; rfl; rfl; rfl))
      refine HL.ldAS hKS rfl rfl rfl rfl rfl ?_
      (repeat (apply HL.pure; rfl; rfl; rfl; rfl))
      refine HL.ldAS hKS rfl rfl rfl rfl rfl ?_
      refine HL.mut rfl (WL.call rfl rfl rfl (ckid_ok (t := .mk 5 n [x, y]) (i := 0) (by simp [mk_kids]) (ihk 0 (by simp)) (by have := hnd 0 (by simp); show x.nodes ≤ 1000; simp only [List.getElem_cons_zero] at this; omega) (drew w1) F bw ao cap no nc nms b hsd hnd1 hFd hnb hbd) ?_)
      rintro _ w2 ⟨rfl, hb2, hg2⟩
      have hS2 := hSk hS0 hg2
      refine WL.nil (EX.mut hS2 ?_)
      simp only [mk_k, mk_kids, List.getElem_cons_zero] at hb2 ⊢
      refine HL.cat (b := [32, 38, 32]) rfl rfl rfl rfl rfl (by simp only [List.length_cons, List.length_nil]; omega) ?_
      refine HL.mut rfl (WL.call rfl rfl rfl (ckid_ok (t := .mk 5 n [x, y]) (i := 1) (by simp [mk_kids]) (ihk 1 (by simp)) (by have := hnd 1 (by simp); show y.nodes ≤ 1000; simp only [List.getElem_cons_succ, List.getElem_cons_zero] at this; omega) w2 F bw ao cap no nc nms _ (hsd.mono hS2.2.2 fun _ h => h) (hnd1.mono hS2.2.2 fun _ h => h) (fun k hk => Nat.lt_of_lt_of_le (hF1 k hk) hS2.2.1) hnb hb2) ?_)
      rintro _ w3 ⟨rfl, hb33, hg3⟩
      refine WL.nil (EX.mut (hSk hS2 hg3) ?_)
      simp only [mk_k, mk_kids, List.getElem_cons_succ, List.getElem_cons_zero] at hb33 ⊢
      refine HL.cat rfl rfl rfl rfl rfl (by simp only [List.length_append, List.length_cons, List.length_nil]; omega) ?_
      (repeat (first | (apply HL.pure; rfl; rfl; rfl; rfl) | (apply HL.nil)))
      (repeat (first | (apply EX.thenN) | (apply CW.ret) | (apply EX.thenR) | (apply EX.inR)))
      refine EX.ret1 rfl rfl ⟨by rw [txtC_bin.1]; rfl, ?_, grown_tr (grown_tr hgD hg2) hg3⟩
      rw [badC_two (by decide)]
      exact hb33
    have k5 : ¬ k = 5 := by simpa using h
    clear h
    (repeat (first | (apply WL.pure; rfl; rfl; rfl) | (apply WL.nil) | (apply EX.thenN) | (apply CW.seq) | (apply CW.region)))
    refine CW.cond rfl (fun h => ?_) (fun h => ?_)
    · obtain rfl : k = 6 := by simpa using h
      obtain ⟨x, y, rfl⟩ := htwo 6 rfl rfl
      have hlx := htl 0 (by simp)
      have hly := htl 1 (by simp)
      simp only [List.getElem_cons_zero, List.getElem_cons_succ] at hlx hly
      have hkx := kidT_len (bareC 6 ((0 : Nat) : Int) x.k) (txtC (nmL nms) x)
      have hky := kidT_len (bareC 6 ((1 : Nat) : Int) y.k) (txtC (nmL nms) y)
      (repeat (apply CW.seq))
      refine CW.drawH (fun z : World => z.heap[w.heap.size]? = (drew w1).heap[w.heap.size]? ∧ w1.heap.size ≤ z.heap.size ∧ ∀ k, F k → z.heap[k]? = (drew w1).heap[k]?) [(0, true), (1, true), (4, true), (5, true), (2, false), (3, true), (6, false), (7, true), (8, true)] mixed (by kernel_rfl) hS0 ?_
      (repeat (apply HL.pure; rfl; rfl; rfl; rfl))
      refine HL.ldAS hKS rfl rfl rfl rfl rfl ?_
      (repeat (apply HL.pure; rfl; rfl; rfl; rfl))
      refine HL.ldAS hKS rfl rfl rfl rfl rfl ?_
      refine HL.mut rfl (WL.call rfl rfl rfl (ckid_ok (t := .mk 6 n [x, y]) (i := 0) (by simp [mk_kids]) (ihk 0 (by simp)) (by have := hnd 0 (by simp); show x.nodes ≤ 1000; simp only [List.getElem_cons_zero] at this; omega) (drew w1) F bw ao cap no nc nms b hsd hnd1 hFd hnb hbd) ?_)
      rintro _ w2 ⟨rfl, hb2, hg2⟩
      have hS2 := hSk hS0 hg2
      refine WL.nil (EX.mut hS2 ?_)
      simp only [mk_k, mk_kids, List.getElem_cons_zero] at hb2 ⊢
      refine HL.cat (b := [32, 47, 32]) rfl rfl rfl rfl rfl (by simp only [List.length_cons, List.length_nil]; omega) ?_
      refine HL.mut rfl (WL.call rfl rfl rfl (ckid_ok (t := .mk 6 n [x, y]) (i := 1) (by simp [mk_kids]) (ihk 1 (by simp)) (by have := hnd 1 (by simp); show y.nodes ≤ 1000; simp only [List.getElem_cons_succ, List.getElem_cons_zero] at this; omega) w2 F bw ao cap no nc nms _ (hsd.mono hS2.2.2 fun _ h => h) (hnd1.mono hS2.2.2 fun _ h => h) (fun k hk => Nat.lt_of_lt_of_le (hF1 k hk) hS2.2.1) hnb hb2) ?_)
      rintro _ w3 ⟨rfl, hb33, hg3⟩
      refine WL.nil (EX.mut (hSk hS2 hg3) ?_)
      simp only [mk_k, mk_kids, List.getElem_cons_succ, List.getElem_cons_zero] at hb33 ⊢
      refine HL.cat rfl rfl rfl rfl rfl (by simp only [List.length_append, List.length_cons, List.length_nil]; omega) ?_
      (repeat (first | (apply HL.pure; rfl; rfl; rfl; rfl) | (apply HL.nil)))
      (repeat (first | (apply EX.thenN) | (apply CW.ret) | (apply EX.thenR) | (apply EX.inR)))
      refine EX.ret1 rfl rfl ⟨by rw [txtC_bin.2.1]; rfl, ?_, grown_tr (grown_tr hgD hg2) hg3⟩
      rw [badC_two (by decide)]
      exact hb33
    have k6 : ¬ k = 6 := by simpa using h
    clear h
    (repeat (first | (apply WL.pure; rfl; rfl; rfl) | (apply WL.nil) | (apply EX.thenN) | (apply CW.seq) | (apply CW.region)))
    refine CW.cond rfl (fun h => ?_) (fun h => ?_)
    · obtain rfl : k = 10 := by simpa using h
      obtain ⟨x, y, rfl⟩ := htwo 10 rfl rfl
      have hlx := htl 0 (by simp)
      have hly := htl 1 (by simp)
      simp only [List.getElem_cons_zero, List.getElem_cons_succ] at hlx hly
      have hle : ∀ z : World, (fun z : World => z.heap[w.heap.size]? = (drew w1).heap[w.heap.size]? ∧ w1.heap.size ≤ z.heap.size ∧ ∀ k, F k → z.heap[k]? = (drew w1).heap[k]?) z → ∀ b, F b → z.heap[b]? = (drew w1).heap[b]? := fun z hz => hz.2.2
      (repeat (apply CW.seq))
      refine CW.drawH (fun z : World => z.heap[w.heap.size]? = (drew w1).heap[w.heap.size]? ∧ w1.heap.size ≤ z.heap.size ∧ ∀ k, F k → z.heap[k]? = (drew w1).heap[k]?) [(0, true), (1, true), (2, true), (3, true), (4, true), (8, true), (9, true), (10, true), (11, true), (12, true), (5, false), (6, true), (7, true), (13, false), (14, true), (15, true), (16, true)] mixed (by kernel_rfl) hS0 ?_
      (repeat (first | (apply HL.pure; rfl; rfl; rfl; rfl) | (refine HL.fa rfl rfl rfl rfl ?_)))
      refine HL.ldS hKS rfl rfl rfl rfl rfl ?_
      refine HL.elemK (w := drew w1) (k := 0) hle rfl rfl rfl rfl rfl rfl rfl hsd (by simp) (fun _ => rfl) (fun u q hu => ?_)
      obtain ⟨ao0, cap0, rfl, hx0⟩ := hu.ltl
      (repeat (first | (apply HL.pure; rfl; rfl; rfl; rfl) | (refine HL.fa rfl rfl rfl rfl ?_)))
      refine HL.ldS hKS rfl rfl rfl rfl rfl ?_
      refine HL.elemK (w := drew w1) (k := 1) hle rfl rfl rfl rfl rfl rfl rfl hsd (by simp) (fun _ => rfl) (fun u q hu => ?_)
      obtain ⟨ao1, cap1, rfl, hx1⟩ := hu.ltl
      simp only [List.getElem_cons_succ, List.getElem_cons_zero] at hx0 hx1 ⊢
      refine HL.mut rfl (WL.call rfl rfl rfl (ihk 0 (by simp) (drew w1) F bw ao0 cap0 no nc nms b hx0 hnd1 hFd hnb hbd) ?_)
      rintro _ w2 ⟨rfl, hb2, hg2⟩
      have hS2 := hSk hS0 hg2
      refine WL.nil (EX.mut hS2 ?_)
      simp only [List.getElem_cons_zero] at hb2 ⊢
      refine HL.cat (a := [69, 32, 91]) rfl rfl rfl rfl rfl (by simp only [List.length_cons, List.length_nil]; omega) ?_
      refine HL.cat (b := [32, 85, 32]) rfl rfl rfl rfl rfl (by simp only [List.length_append, List.length_cons, List.length_nil]; omega) ?_
      refine HL.mut rfl (WL.call rfl rfl rfl (ihk 1 (by simp) w2 F bw ao1 cap1 no nc nms _ (hx1.mono hS2.2.2 fun _ h => h) (hnd1.mono hS2.2.2 fun _ h => h) (fun k hk => Nat.lt_of_lt_of_le (hF1 k hk) hS2.2.1) hnb hb2) ?_)
      rintro _ w3 ⟨rfl, hb33, hg3⟩
      refine WL.nil (EX.mut (hSk hS2 hg3) ?_)
      simp only [List.getElem_cons_succ, List.getElem_cons_zero] at hb33 ⊢
      refine HL.cat rfl rfl rfl rfl rfl (by simp only [List.length_append, List.length_cons, List.length_nil]; omega) ?_
      refine HL.cat (b := [93]) rfl rfl rfl rfl rfl (by simp only [List.length_append, List.length_cons, List.length_nil]; omega) ?_
      (repeat (first | (apply HL.pure; rfl; rfl; rfl; rfl) | (apply HL.nil)))
      (repeat (first | (apply EX.thenN) | (apply CW.ret) | (apply EX.thenR) | (apply EX.inR)))
      refine EX.ret1 rfl rfl ⟨by rw [txtC_bin.2.2.1], ?_, grown_tr (grown_tr hgD hg2) hg3⟩
      rw [badC_two (by decide)]
      exact hb33
    have k10 : ¬ k = 10 := by simpa using h
    clear h
    (repeat (first | (apply WL.pure; rfl; rfl; rfl) | (apply WL.nil) | (apply EX.thenN) | (apply CW.seq) | (apply CW.region)))
    refine CW.cond rfl (fun h => ?_) (fun h => ?_)
    · obtain rfl : k = 14 := by simpa using h
      obtain ⟨x, y, rfl⟩ := htwo 14 rfl rfl
      have hlx := htl 0 (by simp)
      have hly := htl 1 (by simp)
      simp only [List.getElem_cons_zero, List.getElem_cons_succ] at hlx hly
      have hle : ∀ z : World, (fun z : World => z.heap[w.heap.size]? = (drew w1).heap[w.heap.size]? ∧ w1.heap.size ≤ z.heap.size ∧ ∀ k, F k → z.heap[k]? = (drew w1).heap[k]?) z → ∀ b, F b → z.heap[b]? = (drew w1).heap[b]? := fun z hz => hz.2.2
      (repeat (apply CW.seq))
      refine CW.drawH (fun z : World => z.heap[w.heap.size]? = (drew w1).heap[w.heap.size]? ∧ w1.heap.size ≤ z.heap.size ∧ ∀ k, F k → z.heap[k]? = (drew w1).heap[k]?) [(0, true), (1, true), (2, true), (3, true), (4, true), (8, true), (9, true), (10, true), (11, true), (12, true), (5, false), (6, true), (7, true), (13, false), (14, true), (15, true), (16, true)] mixed (by kernel_rfl) hS0 ?_
      (repeat (first | (apply HL.pure; rfl; rfl; rfl; rfl) | (refine HL.fa rfl rfl rfl rfl ?_)))
      refine HL.ldS hKS rfl rfl rfl rfl rfl ?_
      refine HL.elemK (w := drew w1) (k := 0) hle rfl rfl rfl rfl rfl rfl rfl hsd (by simp) (fun _ => rfl) (fun u q hu => ?_)
      obtain ⟨ao0, cap0, rfl, hx0⟩ := hu.ltl
      (repeat (first | (apply HL.pure; rfl; rfl; rfl; rfl) | (refine HL.fa rfl rfl rfl rfl ?_)))
      refine HL.ldS hKS rfl rfl rfl rfl rfl ?_
      refine HL.elemK (w := drew w1) (k := 1) hle rfl rfl rfl rfl rfl rfl rfl hsd (by simp) (fun _ => rfl) (fun u q hu => ?_)
      obtain ⟨ao1, cap1, rfl, hx1⟩ := hu.ltl
      simp only [List.getElem_cons_succ, List.getElem_cons_zero] at hx0 hx1 ⊢
      refine HL.mut rfl (WL.call rfl rfl rfl (ihk 0 (by simp) (drew w1) F bw ao0 cap0 no nc nms b hx0 hnd1 hFd hnb hbd) ?_)
      rintro _ w2 ⟨rfl, hb2, hg2⟩
      have hS2 := hSk hS0 hg2
      refine WL.nil (EX.mut hS2 ?_)
      simp only [List.getElem_cons_zero] at hb2 ⊢
      refine HL.cat (a := [65, 32, 91]) rfl rfl rfl rfl rfl (by simp only [List.length_cons, List.length_nil]; omega) ?_
      refine HL.cat (b := [32, 85, 32]) rfl rfl rfl rfl rfl (by simp only [List.length_append, List.length_cons, List.length_nil]; omega) ?_
      refine HL.mut rfl (WL.call rfl rfl rfl (ihk 1 (by simp) w2 F bw ao1 cap1 no nc nms _ (hx1.mono hS2.2.2 fun _ h => h) (hnd1.mono hS2.2.2 fun _ h => h) (fun k hk => Nat.lt_of_lt_of_le (hF1 k hk) hS2.2.1) hnb hb2) ?_)
      rintro _ w3 ⟨rfl, hb33, hg3⟩
      refine WL.nil (EX.mut (hSk hS2 hg3) ?_)
      simp only [List.getElem_cons_succ, List.getElem_cons_zero] at hb33 ⊢
      refine HL.cat rfl rfl rfl rfl rfl (by simp only [List.length_append, List.length_cons, List.length_nil]; omega) ?_
      refine HL.cat (b := [93]) rfl rfl rfl rfl rfl (by simp only [List.length_append, List.length_cons, List.length_nil]; omega) ?_
      (repeat (first | (apply HL.pure; rfl; rfl; rfl; rfl) | (apply HL.nil)))
      (repeat (first | (apply EX.thenN) | (apply CW.ret) | (apply EX.thenR) | (apply EX.inR)))
      refine EX.ret1 rfl rfl ⟨by rw [txtC_bin.2.2.2], ?_, grown_tr (grown_tr hgD hg2) hg3⟩
      rw [badC_two (by decide)]
      exact hb33
    have k14 : ¬ k = 14 := by simpa using h
    clear h
    -- one kid
    have hok : (k = 4 ∨ k = 7 ∨ k = 8 ∨ k = 9 ∨ k = 11 ∨ k = 12 ∨ k = 13) ∧ kids.length = 1 := by
      rcases kidsC_nat hk with ⟨_, e⟩ | ⟨e1, e⟩ | ⟨_, e⟩
      · omega
      · exact ⟨e, e1⟩
      · omega
    obtain ⟨hok, hk1⟩ := hok
    obtain ⟨x, rfl⟩ := List.length_eq_one_iff.1 hk1
    have hlx := htl 0 (by simp)
    simp only [List.getElem_cons_zero] at hlx
    have hkx := kidT_len (bareC k ((0 : Nat) : Int) x.k) (txtC (nmL nms) x)
    have hsl : (sigC k).length ≤ 3 := by unfold sigC; (repeat' split) <;> decide
    (repeat (first | (apply EX.thenN) | (apply CW.seq) | (apply EX.inN) | (apply CW.skip)))
    refine CW.drawH (fun z : World => z.heap[w.heap.size]? = (drew w1).heap[w.heap.size]? ∧ w1.heap.size ≤ z.heap.size ∧ ∀ k, F k → z.heap[k]? = (drew w1).heap[k]?) [(0, true), (1, true), (3, true), (4, true), (2, false), (5, false), (6, true), (7, true)] mixed (by kernel_rfl) hS0 ?_
    (repeat (refine HL.fa rfl rfl rfl rfl ?_))
    refine HL.ldS hKS rfl rfl rfl rfl rfl ?_
    (repeat (apply HL.pure; rfl; rfl; rfl; rfl))
    refine HL.ldAS hKS rfl rfl rfl rfl rfl ?_
    refine HL.mut rfl (WL.call rfl rfl rfl (csign_ok (drew w1) hok) ?_)
    rintro _ w2 ⟨rfl, e2⟩
    have hS2 := hSk hS0 (e2.grw (some bw))
    refine WL.nil (EX.mut hS2 ?_)
    refine HL.mut rfl (WL.call rfl rfl rfl (ckid_ok (t := .mk k n [x]) (i := 0) (by simp [mk_kids]) (ihk 0 (by simp)) (by have := hnd 0 (by simp); show x.nodes ≤ 1000; simp only [List.getElem_cons_zero] at this; omega) w2 F bw ao cap no nc nms b (hsd.mono hS2.2.2 fun _ h => h) (hnd1.mono hS2.2.2 fun _ h => h) (fun k hk => Nat.lt_of_lt_of_le (hF1 k hk) hS2.2.1) hnb (hbd.ext e2)) ?_)
    rintro _ w3 ⟨rfl, hb33, hg3⟩
    refine WL.nil (EX.mut (hSk hS2 hg3) ?_)
    simp only [mk_k, mk_kids, List.getElem_cons_zero] at hb33 ⊢
    refine HL.cat rfl rfl rfl rfl rfl (by omega) ?_
    (repeat (first | (apply HL.pure; rfl; rfl; rfl; rfl) | (apply HL.nil)))
    (repeat (first | (apply EX.thenN) | (apply CW.ret)))
    refine EX.ret1 rfl rfl ⟨by rw [txtC_one hok]; rfl, ?_, grown_tr (grown_tr hgD (e2.grw _)) hg3⟩
    rw [badC_one k3]
    exact hb33
theorem cprint_ok (w0 : World) {ao no : Option Addr} {cap nc : Nat} {t : Ltl} {nms : List ByteArray} (hs : Sl w0 (Old w0) ao cap t.kids) (hn : Sl w0 (Old w0) no nc nms) :
    Rt Tryz.prog 22 [ltlV t.k t.n ao t.kids.length cap, .slice no nms.length nc].toArray w0 fun v w' => v = .tuple ⟨[tV (printC t nms).1, .int .i64 (printC t nms).2]⟩ ∧ Ext w0 w' := by
  refine Rt.enter2 Tryz.func22 Tryz.ntmps22 rfl rfl ?_
  unfold printC
  (repeat (first | (apply CW.seq) | (apply CW.region)))
  refine WL.boxB rfl rfl rfl fun w1 hb2 e1 => ?_
  (repeat (first | (apply WL.pure; rfl; rfl; rfl) | (apply WL.nil) | (apply EX.thenN) | (apply CW.seq) | (apply CW.region) | (apply WL.ldA; rfl; rfl; rfl; assumption; rfl)))
  refine WL.call rfl rfl rfl (ctlCheck w1 (hs.up e1) (fun _ h => h)) ?_
  rintro _ w2 ⟨rfl, e2⟩
  have hb2 := hb2.ext e2
  have hE := e1.trans e2
  (repeat (first | (apply WL.pure; rfl; rfl; rfl) | (apply WL.nil) | (apply EX.thenN) | (apply CW.seq) | (apply CW.region)))
  refine CW.cond rfl (fun h => ?_) (fun h => ?_)
  · rw [if_pos (by simpa using h)]
    (repeat (first | (apply WL.pure; rfl; rfl; rfl) | (apply WL.nil) | (apply EX.thenN) | (apply CW.seq) | (apply CW.region) | (apply CW.ret) | (apply EX.thenR)))
    exact EX.ret2 rfl rfl rfl ⟨rfl, hE⟩
  have hc : (chkC t 1 0).1 = 0 := by simpa using h
  rw [if_neg (by simpa using h)]
  obtain ⟨hsh, hnn⟩ := chkC_sh t 1 0 hc
  have hle := (chkC_le t 1 0 hc).2
  (repeat (first | (apply WL.pure; rfl; rfl; rfl) | (apply EX.thenN) | (apply CW.seq) | (apply CW.region) | (apply CW.skip)))
  refine WL.build rfl rfl rfl rfl ?_
  refine WL.boxB rfl rfl rfl fun w3 hb16 e3 => ?_
  have hb2 := hb2.ext e3
  have hE3 := hE.trans e3
  (repeat (first | (apply WL.pure; rfl; rfl; rfl) | (apply WL.nil) | (apply EX.thenN) | (apply CW.seq) | (apply CW.region) | (apply WL.ldA; rfl; rfl; rfl; assumption; rfl)))
  refine WL.call rfl rfl rfl (ctext_ok t.nodes t (Nat.le_refl _) (by omega) hsh w3 (Old w0) w2.heap.size ao cap no nc nms false (hs.at hE3) (hn.at hE3) (fun k hk => Nat.lt_of_lt_of_le hk hE3.size) (fun hk => by have h1 : w2.heap.size < w0.heap.size := hk; have := hE.size; omega) hb16) ?_
  rintro _ w4 ⟨rfl, hb4, hg4⟩
  have hE4 : Ext w0 w4 := hE3.grown hg4 hE3.size (fun g hg => by cases hg; exact hE.size)
  rw [Bool.false_or] at hb4
  (repeat (first | (apply WL.pure; rfl; rfl; rfl) | (apply WL.nil) | (apply EX.thenN) | (apply CW.seq) | (apply CW.region) | (apply WL.fa; rfl; rfl; rfl) | (apply WL.nck; rfl; rfl; rfl) | (apply WL.ld; rfl; rfl; rfl; assumption; rfl)))
  refine CW.cond rfl (fun h => ?_) (fun h => ?_)
  · rw [if_pos h]
    (repeat (first | (apply WL.pure; rfl; rfl; rfl) | (apply WL.nil) | (apply EX.thenN) | (apply CW.seq) | (apply CW.region) | (apply CW.ret) | (apply EX.thenR)))
    exact EX.ret2 rfl rfl rfl ⟨rfl, hE4⟩
  · rw [if_neg (by rw [h]; decide)]
    (repeat (first | (apply WL.pure; rfl; rfl; rfl) | (apply WL.nil) | (apply EX.thenN) | (apply CW.seq) | (apply CW.region) | (apply CW.ret) | (apply CW.skip)))
    exact EX.ret2 rfl rfl rfl ⟨rfl, hE4⟩
end Go.Proofs.YtikigaeihdmcaaaGreatDoor

/-
  Texts of rules: printed, read. Plain: no program in sight.
-/
set_option linter.unusedVariables false
set_option linter.unusedSimpArgs false
namespace Go.Proofs.YtikigaeihdmcaaaGreatDoor

def kindT (k : Int) : Bys :=
  if k = 1 then [97, 98, 115, 101, 110, 99, 101] else if k = 2 then [117, 110, 105, 118, 101, 114, 115, 97, 108] else if k = 3 then [101, 120, 105, 115, 116, 101, 110, 99, 101] else if k = 4 then [98, 111, 117, 110, 100, 101, 100]
  else if k = 5 then [112, 114, 101, 99, 101, 100, 101, 110, 99, 101] else if k = 6 then [114, 101, 115, 112, 111, 110, 115, 101] else []
def scopT (k : Int) : Bys :=
  if k = 1 then [103, 108, 111, 98, 97, 108] else if k = 2 then [98, 101, 102, 111, 114, 101] else if k = 3 then [97, 102, 116, 101, 114] else if k = 4 then [98, 101, 116, 119, 101, 101, 110] else if k = 5 then [117, 110, 116, 105, 108] else []
def tempT (k : Int) : Bys :=
  if k = 1 then [101, 120, 105, 115, 116, 101, 110, 99, 101] else if k = 2 then [97, 98, 115, 101, 110, 99, 101] else if k = 3 then [101, 120, 97, 99, 116, 108, 121] else if k = 4 then [105, 110, 105, 116]
  else if k = 5 then [99, 104, 111, 105, 99, 101] else if k = 6 then [114, 101, 115, 112, 111, 110, 100, 101, 100] else if k = 7 then [99, 111, 101, 120, 105, 115, 116] else if k = 8 then [114, 101, 115, 112, 111, 110, 115, 101]
  else if k = 9 then [112, 114, 101, 99, 101, 100, 101, 110, 99, 101] else if k = 10 then [115, 117, 99, 99, 101, 115, 115, 105, 111, 110] else if k = 11 then [97, 108, 116, 101, 114, 110, 97, 116, 101] else if k = 12 then [99, 104, 97, 105, 110]
  else if k = 13 then [110, 111, 116, 99, 111, 101, 120, 105, 115, 116] else if k = 14 then [110, 111, 116, 115, 117, 99, 99, 101, 101, 100] else []
def tDecl : Bys := [100, 101, 99, 108, 97, 114, 101]
def tLtl : Bys := [108, 116, 108]
def tCtl : Bys := [99, 116, 108]
def dgT (n : Int) : Bys := [UInt8.ofNat (48 + n.toNat)]
/-- the words of a rule that is right -/
def wordsR (r : LRule) (nms : List ByteArray) : List Bys :=
  r.1.data.toList :: (if r.2.1 = 1 then
      kindT r.2.2.1.1 :: ((if r.2.2.1.1 = 4 then [dgT r.2.2.1.2.2.2.2.2.2] else []) ++ ((ownA r.2.2.1).map fun n => rnmL nms n true) ++ scopT r.2.2.1.2.1 :: ((scopeA r.2.2.1).map fun n => rnmL nms n true))
    else if r.2.1 = 2 then
      tDecl :: tempT r.2.2.2.1.1 :: rnmL nms r.2.2.2.1.2.1 false :: ((if 0 < r.2.2.2.1.2.2.2 then [dgT r.2.2.2.1.2.2.2] else []) ++ (if aloneB r.2.2.2.1.1 = true then [] else [rnmL nms r.2.2.2.1.2.2.1 false]))
    else if r.2.1 = 3 then [tLtl, (printL r.2.2.2.2.1 nms).1] else [tCtl, (printC r.2.2.2.2.2 nms).1])
/-- what Print tells -/
def printR (r : LRule) (nms : List ByteArray) : Bys × Int := if chkRl r nms ≠ 0 then ([], chkRl r nms) else (joinS 32 (wordsR r nms), 0)
/- A READER: THE WORDS THAT ARE LEFT, AND WHAT WENT WRONG -/
abbrev RSt := List Bys × Int
def nextW (s : RSt) : Bys := if s.2 ≠ 0 then [] else s.1.headD []
def failW (s : RSt) (e : Int) : RSt := (s.1, if s.2 = 0 then e else s.2)
def takeW (s : RSt) : RSt := (s.1.tail, s.2)
def firstW (of : Int → Bys) (w : Bys) : Nat → Int → Int
  | 0, _ => 0
  | n + 1, k => if w ≠ [] ∧ w = of k then k else firstW of w n (k + 1)
def oneR (n : Nat) (of : Int → Bys) (s : RSt) : Int × RSt := if firstW of (nextW s) n 1 = 0 then (0, failW s 3) else (firstW of (nextW s) n 1, takeW s)
def namedR (nms : List ByteArray) (silent : Bool) (s : RSt) : Int × RSt :=
  if silent = true ∧ nextW s = tSil then (63, takeW s) else if namedL (nextW s) = false then (0, failW s 3)
  else if idxB nms (nextW s) < 0 ∨ idxB nms (nextW s) ≥ 63 then (0, failW s 4) else (idxB nms (nextW s), takeW s)
def digitR (s : RSt) : Int × RSt :=
  if (nextW s).length ≠ 1 ∨ (nextW s).headD 0 < 48 ∨ 57 < (nextW s).headD 0 then (0, failW s 3) else ((((nextW s).headD 0).toNat : Int) - 48, takeW s)
def patR (nms : List ByteArray) (s : RSt) : LPat × RSt :=
  let k := oneR 6 kindT s
  let c : Int × RSt := if k.1 = 4 then digitR k.2 else (0, k.2)
  let o : Int × RSt := if k.1 = 5 ∨ k.1 = 6 then namedR nms true c.2 else (0, c.2)
  let p := namedR nms true o.2
  let sc := oneR 5 scopT p.2
  let q : Int × RSt := if sc.1 = 3 ∨ sc.1 = 4 ∨ sc.1 = 5 then namedR nms true sc.2 else (0, sc.2)
  let r : Int × RSt := if sc.1 = 2 ∨ sc.1 = 4 ∨ sc.1 = 5 then namedR nms true q.2 else (0, q.2)
  ((k.1, sc.1, p.1, o.1, q.1, r.1, c.1), r.2)
def tplR (nms : List ByteArray) (s : RSt) : LTpl × RSt :=
  let k := oneR 14 tempT s
  let a := namedR nms false k.2
  let c : Int × RSt := if 1 ≤ k.1 ∧ k.1 ≤ 3 then digitR a.2 else (0, a.2)
  let b : Int × RSt := if ¬ (1 ≤ k.1 ∧ k.1 ≤ 3) ∧ aloneB k.1 = false then namedR nms false c.2 else (0, c.2)
  ((k.1, a.1, b.1, c.1), b.2)
def ltl0 : Ltl := .mk 0 0 []
def ruleZ : LRule := (⟨#[]⟩, 0, patZ, tplZ, ltl0, ltl0)
/-- what a reader reads -/
def ruleR (nms : List ByteArray) (s : RSt) : LRule × RSt :=
  if namedL (nextW s) = false then ((txA (nextW s), 0, patZ, tplZ, ltl0, ltl0), failW s 3)
  else if nextW (takeW s) = tDecl then ((txA (nextW s), 2, patZ, (tplR nms (takeW (takeW s))).1, ltl0, ltl0), (tplR nms (takeW (takeW s))).2)
  else if nextW (takeW s) = tLtl then
    ((txA (nextW s), 3, patZ, tplZ, (parseL (joinS 32 (takeW (takeW s)).1) nms).1, ltl0), if (parseL (joinS 32 (takeW (takeW s)).1) nms).2.2 ≠ 0 then failW (takeW (takeW s)) (parseL (joinS 32 (takeW (takeW s)).1) nms).2.2 else ([], s.2))
  else if nextW (takeW s) = tCtl then
    ((txA (nextW s), 4, patZ, tplZ, ltl0, (parseC (joinS 32 (takeW (takeW s)).1) nms).1), if (parseC (joinS 32 (takeW (takeW s)).1) nms).2.2 ≠ 0 then failW (takeW (takeW s)) (parseC (joinS 32 (takeW (takeW s)).1) nms).2.2 else ([], s.2))
  else ((txA (nextW s), 1, (patR nms (takeW s)).1, tplZ, ltl0, ltl0), (patR nms (takeW s)).2)
def endW (s : RSt) : RSt := if s.2 = 0 ∧ s.1 ≠ [] then failW s 3 else s
/-- what Parse tells -/
def parseR (s : Bys) (nms : List ByteArray) : LRule × Nat × Int :=
  if s.length > 4096 then (ruleZ, 0, 2)
  else if (endW (ruleR nms (splitL 32 s, 0)).2).2 ≠ 0 then (ruleZ, (splitL 32 s).length - (endW (ruleR nms (splitL 32 s, 0)).2).1.length, (endW (ruleR nms (splitL 32 s, 0)).2).2)
  else if chkRl (ruleR nms (splitL 32 s, 0)).1 nms ≠ 0 then (ruleZ, 0, chkRl (ruleR nms (splitL 32 s, 0)).1 nms)
  else ((ruleR nms (splitL 32 s, 0)).1, 0, 0)
theorem splitL_join : ∀ (l : List Bys), l ≠ [] → (∀ w ∈ l, (32 : UInt8) ∉ w) → splitL 32 (joinS 32 l) = l
  | [], h, _ => absurd rfl h
  | [x], _, h => by simp only [joinS]; exact splitL_no (h x (by simp))
  | x :: y :: r, _, h => by
    simp only [joinS]
    rw [splitL_at (h x (by simp)), splitL_join (y :: r) (by simp) (fun w hw => h w (by simp [hw]))]
theorem firstW_kind {k : Int} (h1 : 1 ≤ k) (h2 : k ≤ 6) : firstW kindT (kindT k) 6 1 = k ∧ (32 : UInt8) ∉ kindT k ∧ kindT k ≠ tDecl ∧ kindT k ≠ tLtl ∧ kindT k ≠ tCtl ∧ (kindT k).length ≤ 10 := by
  obtain rfl | rfl | rfl | rfl | rfl | rfl : k = 1 ∨ k = 2 ∨ k = 3 ∨ k = 4 ∨ k = 5 ∨ k = 6 := by omega
  all_goals decide
theorem firstW_scop {k : Int} (h1 : 1 ≤ k) (h2 : k ≤ 5) : firstW scopT (scopT k) 5 1 = k ∧ (32 : UInt8) ∉ scopT k ∧ (scopT k).length ≤ 10 := by
  obtain rfl | rfl | rfl | rfl | rfl : k = 1 ∨ k = 2 ∨ k = 3 ∨ k = 4 ∨ k = 5 := by omega
  all_goals decide
theorem firstW_temp {k : Int} (h1 : 1 ≤ k) (h2 : k ≤ 14) : firstW tempT (tempT k) 14 1 = k ∧ (32 : UInt8) ∉ tempT k ∧ (tempT k).length ≤ 10 := by
  obtain rfl | rfl | rfl | rfl | rfl | rfl | rfl | rfl | rfl | rfl | rfl | rfl | rfl | rfl : k = 1 ∨ k = 2 ∨ k = 3 ∨ k = 4 ∨ k = 5 ∨ k = 6 ∨ k = 7 ∨ k = 8 ∨ k = 9 ∨ k = 10 ∨ k = 11 ∨ k = 12 ∨ k = 13 ∨ k = 14 := by omega
  all_goals decide
section
variable {nms : List ByteArray} {l : List Bys}
theorem one_kind {k : Int} (h1 : 1 ≤ k) (h2 : k ≤ 6) : oneR 6 kindT (kindT k :: l, 0) = (k, (l, 0)) := by
  have h := (firstW_kind h1 h2).1
  unfold oneR
  rw [show nextW (kindT k :: l, 0) = kindT k from rfl, h, if_neg (by omega)]; rfl
theorem one_scop {k : Int} (h1 : 1 ≤ k) (h2 : k ≤ 5) : oneR 5 scopT (scopT k :: l, 0) = (k, (l, 0)) := by
  have h := (firstW_scop h1 h2).1
  unfold oneR
  rw [show nextW (scopT k :: l, 0) = scopT k from rfl, h, if_neg (by omega)]; rfl
theorem one_temp {k : Int} (h1 : 1 ≤ k) (h2 : k ≤ 14) : oneR 14 tempT (tempT k :: l, 0) = (k, (l, 0)) := by
  have h := (firstW_temp h1 h2).1
  unfold oneR
  rw [show nextW (tempT k :: l, 0) = tempT k from rfl, h, if_neg (by omega)]; rfl
theorem rnm_cases {n : Int} {b : Bool} (h : rnmL nms n b ≠ []) : (n = 63 ∧ b = true ∧ rnmL nms n b = tSil) ∨ (0 ≤ n ∧ n < 63 ∧ namedL (rnmL nms n b) = true ∧ idxB nms (rnmL nms n b) = n) := by
  unfold rnmL at h ⊢
  by_cases h1 : n = 63 ∧ b = true
  · rw [if_pos h1]; exact .inl ⟨h1.1, h1.2, rfl⟩
  rw [if_neg h1] at h ⊢
  by_cases h2 : n < 0 ∨ n ≥ (nms.length : Int) ∨ n ≥ 63 ∨ namedB (nms.getD n.toNat ⟨#[]⟩) = false ∨ idxB nms (nms.getD n.toNat ⟨#[]⟩).data.toList ≠ n
  · rw [if_pos h2] at h; exact absurd rfl h
  rw [if_neg h2]
  simp only [not_or] at h2
  exact .inr ⟨by omega, by omega, by simpa using h2.2.2.2.1, by simpa using h2.2.2.2.2⟩
theorem named_rnm {n : Int} {b : Bool} (h : rnmL nms n b ≠ []) : namedR nms b (rnmL nms n b :: l, 0) = (n, (l, 0)) := by
  unfold namedR
  rw [show nextW (rnmL nms n b :: l, 0) = rnmL nms n b from rfl]
  rcases rnm_cases h with ⟨rfl, rfl, h1⟩ | ⟨h1, h2, h3, h4⟩
  · rw [h1, if_pos ⟨rfl, rfl⟩]; rfl
  · rw [if_neg (fun e => (named_ne h3).2.2.2.1 e.2), if_neg (by rw [h3]; decide), h4, if_neg (by omega)]; rfl
theorem rnm_word {n : Int} {b : Bool} (h : rnmL nms n b ≠ []) : (32 : UInt8) ∉ rnmL nms n b ∧ (rnmL nms n b).length ≤ 8 := by
  rcases rnm_cases h with ⟨rfl, rfl, h1⟩ | ⟨h1, h2, h3, h4⟩
  · rw [h1]; decide
  · exact ⟨(named_no h3).1, (named_no h3).2.2⟩
theorem digit_ok {n : Int} (h1 : 0 ≤ n) (h2 : n ≤ 3) : digitR (dgT n :: l, 0) = (n, (l, 0)) ∧ (32 : UInt8) ∉ dgT n := by
  obtain rfl | rfl | rfl | rfl : n = 0 ∨ n = 1 ∨ n = 2 ∨ n = 3 := by omega
  all_goals exact ⟨rfl, by decide⟩
theorem right_has {n : Int} (h : rightB n false = true) : n = 0 := by
  unfold rightB at h; simp at h; exact h.2
set_option maxHeartbeats 2000000 in
theorem pat_back {pt : LPat} (hc : chkP pt = 0) (ha : ∀ n ∈ ownA pt ++ scopeA pt, rnmL nms n true ≠ []) :
    patR nms (kindT pt.1 :: ((if pt.1 = 4 then [dgT pt.2.2.2.2.2.2] else []) ++ ((ownA pt).map fun n => rnmL nms n true) ++ scopT pt.2.1 :: ((scopeA pt).map fun n => rnmL nms n true)), 0) = (pt, ([], 0)) := by
  obtain ⟨k, sc, p, s, q, r, c⟩ := pt
  unfold chkP at hc
  dsimp only at hc ha ⊢
  split at hc
  · cases hc
  split at hc
  · cases hc
  split at hc
  · cases hc
  rename_i h1 h2 h3
  simp only [Bool.not_eq_false, Bool.and_eq_true] at h2
  obtain ⟨⟨⟨h4, h5⟩, h6⟩, h7⟩ := h2
  have hk : k = 1 ∨ k = 2 ∨ k = 3 ∨ k = 4 ∨ k = 5 ∨ k = 6 := by omega
  have hs : sc = 1 ∨ sc = 2 ∨ sc = 3 ∨ sc = 4 ∨ sc = 5 := by omega
  have e1 : ∀ l, oneR 6 kindT (kindT k :: l, 0) = (k, (l, 0)) := fun l => one_kind (by omega) (by omega)
  have e2 : ∀ l, oneR 5 scopT (scopT sc :: l, 0) = (sc, (l, 0)) := fun l => one_scop (by omega) (by omega)
  have e3 : ∀ l, digitR (dgT c :: l, 0) = (c, (l, 0)) := fun l => (digit_ok (by omega) (by omega)).1
  have e4 : ∀ n l, n ∈ ownA (k, sc, p, s, q, r, c) ++ scopeA (k, sc, p, s, q, r, c) → namedR nms true (rnmL nms n true :: l, 0) = (n, (l, 0)) := fun n l hn => named_rnm (ha n hn)
  unfold ownA scopeA at e4 ⊢
  unfold patR
  dsimp only at e4 ⊢
  rw [e1]
  dsimp only
  have hc0 : k ≠ 4 → c = 0 := fun hk => by omega
  have hS : ¬ (k = 5 ∨ k = 6) → s = 0 := fun hk => by rw [decide_eq_false hk] at h5; exact right_has h5
  have hQ : ¬ (sc = 3 ∨ sc = 4 ∨ sc = 5) → q = 0 := fun hk => by rw [decide_eq_false hk] at h6; exact right_has h6
  have hR : ¬ (sc = 2 ∨ sc = 4 ∨ sc = 5) → r = 0 := fun hk => by rw [decide_eq_false hk] at h7; exact right_has h7
  clear h1 h3 h4 h5 h6 h7 ha e1 hc
  generalize kindT k = kt at *
  rcases hk with rfl | rfl | rfl | rfl | rfl | rfl <;> rcases hs with rfl | rfl | rfl | rfl | rfl <;> simp at e4 hc0 hS hQ hR ⊢ <;> simp [e2, e3, e4, hc0, hS, hQ, hR]
set_option maxHeartbeats 2000000 in
theorem tpl_back {t : LTpl} (hc : chkT t = 0) (ha : rnmL nms t.2.1 false ≠ []) (hb : aloneB t.1 = false → rnmL nms t.2.2.1 false ≠ []) :
    tplR nms (tempT t.1 :: rnmL nms t.2.1 false :: ((if 0 < t.2.2.2 then [dgT t.2.2.2] else []) ++ (if aloneB t.1 = true then [] else [rnmL nms t.2.2.1 false])), 0) = (t, ([], 0)) := by
  obtain ⟨k, a, b, c⟩ := t
  unfold chkT countedB at hc
  unfold aloneB at hb ⊢
  dsimp only at hc ha hb ⊢
  split at hc
  · cases hc
  split at hc
  · cases hc
  rename_i h1 h2
  simp only [not_or, Bool.or_eq_true, decide_eq_true_eq, decide_eq_false_iff_not, not_and] at h1 h2
  have e1 : ∀ l, oneR 14 tempT (tempT k :: l, 0) = (k, (l, 0)) := fun l => one_temp (by omega) (by omega)
  have e2 : ∀ l, namedR nms false (rnmL nms a false :: l, 0) = (a, (l, 0)) := fun l => named_rnm ha
  unfold tplR aloneB
  dsimp only
  rw [e1]
  dsimp only
  rw [e2]
  dsimp only
  by_cases hk : 1 ≤ k ∧ k ≤ 3
  · have e3 : ∀ l, digitR (dgT c :: l, 0) = (c, (l, 0)) := fun l => (digit_ok (by omega) (by omega)).1
    have hb0 : b = 0 := by omega
    have hc0 : 0 < c := by omega
    rw [if_pos hc0, if_pos hk, if_pos (decide_eq_true (show k ≤ 4 by omega))]
    simp only [List.singleton_append]
    rw [e3]
    dsimp only
    rw [if_neg (fun h => h.1 hk), hb0]
  · have hc0 : c = 0 := by omega
    subst hc0
    rw [if_neg (show ¬ (0 : Int) < 0 by decide), if_neg hk]
    dsimp only
    by_cases h4 : k = 4
    · subst h4
      have hb0 : b = 0 := by omega
      simp [hb0]
    · have d4 : decide (k ≤ 4) = false := decide_eq_false (by omega)
      have hb' : rnmL nms b false ≠ [] := hb d4
      have e3 : ∀ l, namedR nms false (rnmL nms b false :: l, 0) = (b, (l, 0)) := fun l => named_rnm hb'
      simp only [d4, Bool.false_eq_true, if_false, List.nil_append]
      rw [if_pos ⟨hk, trivial⟩, e3]
theorem join_len (c : Nat) : ∀ l : List Bys, (∀ w ∈ l, w.length ≤ c) → (joinS 32 l).length ≤ (c + 1) * l.length
  | [], _ => by simp [joinS]
  | [x], h => by have := h x (by simp); simp only [joinS, List.length_singleton]; omega
  | x :: y :: r, h => by
    have h1 := join_len c (y :: r) (fun w hw => h w (by simp [hw]))
    have h2 := h x (by simp)
    simp only [joinS, List.length_append, List.length_cons, Nat.mul_add, Nat.mul_one] at h1 ⊢
    omega
theorem printL_len (f : Ltl) (nms : List ByteArray) : (printL f nms).1.length ≤ 480 := by
  unfold printL
  split
  · simp
  split
  · simp
  rename_i h _
  have h : (chkF f 1 0).1 = 0 := by simpa using h
  have h1 := (chkF_le f 1 0 h).2
  have h2 := (chkF_sh f 1 0 h).2
  have h3 := txtL_len (nm := nmL nms) (nmL_len nms) f
  dsimp only
  omega
theorem printC_len (f : Ltl) (nms : List ByteArray) : (printC f nms).1.length ≤ 480 := by
  unfold printC
  split
  · simp
  split
  · simp
  rename_i h _
  have h : (chkC f 1 0).1 = 0 := by simpa using h
  have h1 := (chkC_le f 1 0 h).2
  have h2 := (chkC_sh f 1 0 h).2
  have h3 := txtC_len (nm := nmL nms) (nmL_len nms) f
  dsimp only
  omega
theorem fill_zero {t : Ltl} (h : fillF t = false) : t = ltl0 := by
  obtain ⟨k, n, kids⟩ := t
  unfold fillF at h
  simp only [Bool.or_eq_false_iff, bne_eq_false_iff_eq, decide_eq_false_iff_not, Ltl.k, Ltl.n, Ltl.kids] at h
  obtain ⟨⟨rfl, rfl⟩, h3⟩ := h
  cases kids with
  | nil => rfl
  | cons x r => simp at h3
theorem end_ok : endW ([], 0) = ([], 0) := rfl
theorem parse_ok {s : Bys} {r : LRule} (hl : s.length ≤ 4096) (h : ruleR nms (splitL 32 s, 0) = (r, ([], 0))) (hc : chkRl r nms = 0) : parseR s nms = (r, 0, 0) := by
  unfold parseR
  rw [if_neg (by omega), h]
  dsimp only
  rw [end_ok, if_neg (by simp), if_neg (by simpa using hc)]
theorem parse_err {s : Bys} {r : LRule} {l : List Bys} {e : Int} (hl : s.length ≤ 4096) (h : ruleR nms (splitL 32 s, 0) = (r, (l, e))) (he : e ≠ 0) : parseR s nms = (ruleZ, (splitL 32 s).length - l.length, e) := by
  unfold parseR
  rw [if_neg (by omega), h]
  have : endW (l, e) = (l, e) := by unfold endW; rw [if_neg (fun h => he h.1)]
  dsimp only
  rw [this, if_pos he]
set_option maxHeartbeats 1000000 in
/-- P46: what is printed is read as it was, but for formulas that are too long or too deep -/
theorem rback_law {r : LRule} (h : chkRl r nms = 0) : parseR (printR r nms).1 nms = (r, 0, 0) ∨ ((r.2.1 = 3 ∨ r.2.1 = 4) ∧ ∃ e, (e = 2 ∨ e = 5) ∧ parseR (printR r nms).1 nms = (ruleZ, 2, e)) := by
  have hp : (printR r nms).1 = joinS 32 (wordsR r nms) := by unfold printR; rw [if_neg (by simpa using h)]
  rw [hp]
  have h0 := h
  unfold chkRl at h0
  split at h0
  · cases h0
  split at h0
  · rename_i h1 h2; exact absurd h0 h2
  split at h0
  · cases h0
  rename_i h1 h2 h3
  obtain ⟨nm, so, pt, tp, fl, fc⟩ := r
  simp only [not_or, Bool.not_eq_false] at h1
  obtain ⟨hn, hs1, hs4⟩ := h1
  unfold otherB at h3
  dsimp only at hn hs1 hs4 h2 h3 ⊢
  simp only [Bool.or_eq_true, Bool.and_eq_true, bne_iff_ne, not_or, not_and, Bool.not_eq_true] at h3
  obtain ⟨⟨⟨k1, k2⟩, k3⟩, k4⟩ := h3
  have hnn := named_no hn
  have hne : nm.data.toList ≠ [] := (named_ne hn).1
  have e0 : txA nm.data.toList = nm := txA_eta nm
  unfold partE at h2
  have hpe : partE0 (nm, so, pt, tp, fl, fc) nms = 0 := by
    apply Classical.byContradiction
    intro hx
    rw [if_neg (fun h => hx h.1)] at h2
    exact h2 hx
  rw [hpe] at h2
  have hat : ∀ n ∈ atomsR (nm, so, pt, tp, fl, fc), rnmL nms n (decide (so = 1)) ≠ [] := by
    intro n hn2 he
    apply h2
    rw [if_pos ⟨rfl, List.any_eq_true.2 ⟨n, hn2, by dsimp only; rw [he]; rfl⟩⟩]
    decide
  clear h2
  obtain rfl | rfl | rfl | rfl : so = 1 ∨ so = 2 ∨ so = 3 ∨ so = 4 := by omega
  · -- patterns
    left
    obtain rfl : tp = tplZ := Classical.byContradiction fun e => k2 (by decide) e
    obtain rfl := fill_zero (k3 (by decide))
    obtain rfl := fill_zero (k4 (by decide))
    have hc : chkP pt = 0 := hpe
    have hk : 1 ≤ pt.1 ∧ pt.1 ≤ 6 ∧ 1 ≤ pt.2.1 ∧ pt.2.1 ≤ 5 ∧ 0 ≤ pt.2.2.2.2.2.2 ∧ pt.2.2.2.2.2.2 ≤ 3 := by
      unfold chkP at hc
      split at hc
      · cases hc
      split at hc
      · cases hc
      split at hc
      · cases hc
      omega
    obtain ⟨g1, g2, g3, g4, g5, g6⟩ := firstW_kind hk.1 hk.2.1
    obtain ⟨g7, g8, g9⟩ := firstW_scop hk.2.2.1 hk.2.2.2.1
    have ha : ∀ n ∈ ownA pt ++ scopeA pt, rnmL nms n true ≠ [] := hat
    have hw : wordsR (nm, 1, pt, tplZ, ltl0, ltl0) nms = nm.data.toList :: (kindT pt.1 :: ((if pt.1 = 4 then [dgT pt.2.2.2.2.2.2] else []) ++ ((ownA pt).map fun n => rnmL nms n true) ++ scopT pt.2.1 :: ((scopeA pt).map fun n => rnmL nms n true))) := rfl
    have hb := pat_back hc ha
    have hword : ∀ w ∈ wordsR (nm, 1, pt, tplZ, ltl0, ltl0) nms, (32 : UInt8) ∉ w ∧ w.length ≤ 10 := by
      rw [hw]
      intro w hw
      simp only [List.mem_cons, List.mem_append, List.mem_map] at hw
      rcases hw with rfl | rfl | (hw | ⟨n, hn1, rfl⟩) | rfl | ⟨n, hn1, rfl⟩
      · exact ⟨hnn.1, by have := hnn.2.2; omega⟩
      · exact ⟨g2, g6⟩
      · split at hw
        · rw [List.mem_singleton.1 hw]
          exact ⟨(digit_ok (l := []) hk.2.2.2.2.1 hk.2.2.2.2.2).2, by simp [dgT]⟩
        · cases hw
      · have := rnm_word (ha n (List.mem_append.2 (.inl hn1))); exact ⟨this.1, by omega⟩
      · exact ⟨g8, g9⟩
      · have := rnm_word (ha n (List.mem_append.2 (.inr hn1))); exact ⟨this.1, by omega⟩
    have hlen := join_len 10 _ (fun w h => (hword w h).2)
    have hcnt : (wordsR (nm, 1, pt, tplZ, ltl0, ltl0) nms).length ≤ 10 := by
      have ho : (ownA pt).length ≤ 2 := by unfold ownA; split <;> simp
      have hsc : (scopeA pt).length ≤ 2 := by unfold scopeA; split <;> (try split) <;> (try split) <;> simp
      rw [hw]
      have : (if pt.1 = 4 then [dgT pt.2.2.2.2.2.2] else []).length ≤ 1 := by split <;> simp
      simp only [List.length_cons, List.length_append, List.length_map]
      omega
    refine parse_ok (by omega) ?_ h
    rw [splitL_join _ (by rw [hw]; simp) (fun w h => (hword w h).1), hw]
    unfold ruleR
    rw [show nextW (nm.data.toList :: (kindT pt.1 :: ((if pt.1 = 4 then [dgT pt.2.2.2.2.2.2] else []) ++ ((ownA pt).map fun n => rnmL nms n true) ++ scopT pt.2.1 :: ((scopeA pt).map fun n => rnmL nms n true))), 0) = nm.data.toList from rfl, if_neg (by rw [show namedL nm.data.toList = true from hn]; decide)]
    rw [show takeW (nm.data.toList :: (kindT pt.1 :: ((if pt.1 = 4 then [dgT pt.2.2.2.2.2.2] else []) ++ ((ownA pt).map fun n => rnmL nms n true) ++ scopT pt.2.1 :: ((scopeA pt).map fun n => rnmL nms n true))), 0) = (kindT pt.1 :: ((if pt.1 = 4 then [dgT pt.2.2.2.2.2.2] else []) ++ ((ownA pt).map fun n => rnmL nms n true) ++ scopT pt.2.1 :: ((scopeA pt).map fun n => rnmL nms n true)), 0) from rfl]
    rw [show ∀ l, nextW (kindT pt.1 :: l, 0) = kindT pt.1 from fun _ => rfl, if_neg g3, if_neg g4, if_neg g5, hb, e0]
  · -- templates
    left
    obtain rfl : pt = patZ := Classical.byContradiction fun e => k1 (by decide) e
    obtain rfl := fill_zero (k3 (by decide))
    obtain rfl := fill_zero (k4 (by decide))
    have hc : chkT tp = 0 := hpe
    have hk : 1 ≤ tp.1 ∧ tp.1 ≤ 14 ∧ 0 ≤ tp.2.2.2 ∧ tp.2.2.2 ≤ 3 := by
      unfold chkT at hc
      split at hc
      · cases hc
      split at hc
      · cases hc
      rename_i q1 q2
      by_cases hq : countedB tp.1 = true
      · simp [hq] at q2; omega
      · simp [hq] at q2; omega
    obtain ⟨g1, g2, g3⟩ := firstW_temp hk.1 hk.2.1
    have hat' : ∀ n ∈ (if aloneB tp.1 = true then [tp.2.1] else [tp.2.1, tp.2.2.1]), rnmL nms n false ≠ [] := hat
    have ha : rnmL nms tp.2.1 false ≠ [] := hat' _ (by split <;> simp)
    have hb : aloneB tp.1 = false → rnmL nms tp.2.2.1 false ≠ [] := fun e => hat' _ (by rw [if_neg (by rw [e]; decide)]; simp)
    have hw : wordsR (nm, 2, patZ, tp, ltl0, ltl0) nms = nm.data.toList :: (tDecl :: tempT tp.1 :: rnmL nms tp.2.1 false :: ((if 0 < tp.2.2.2 then [dgT tp.2.2.2] else []) ++ (if aloneB tp.1 = true then [] else [rnmL nms tp.2.2.1 false]))) := rfl
    have ht := tpl_back hc ha hb
    have hword : ∀ w ∈ wordsR (nm, 2, patZ, tp, ltl0, ltl0) nms, (32 : UInt8) ∉ w ∧ w.length ≤ 10 := by
      rw [hw]
      intro w hw
      simp only [List.mem_cons, List.mem_append] at hw
      rcases hw with rfl | rfl | rfl | rfl | hw | hw
      · exact ⟨hnn.1, by have := hnn.2.2; omega⟩
      · decide
      · exact ⟨g2, g3⟩
      · have := rnm_word ha; exact ⟨this.1, by omega⟩
      · split at hw
        · rw [List.mem_singleton.1 hw]
          exact ⟨(digit_ok (l := []) hk.2.2.1 hk.2.2.2).2, by simp [dgT]⟩
        · cases hw
      · split at hw
        · cases hw
        · rename_i e
          rw [List.mem_singleton.1 hw]
          have := rnm_word (hb (by simpa using e)); exact ⟨this.1, by omega⟩
    have hlen := join_len 10 _ (fun w h => (hword w h).2)
    have hcnt : (wordsR (nm, 2, patZ, tp, ltl0, ltl0) nms).length ≤ 10 := by
      rw [hw]
      have : (if 0 < tp.2.2.2 then [dgT tp.2.2.2] else []).length ≤ 1 := by split <;> simp
      have : (if aloneB tp.1 = true then [] else [rnmL nms tp.2.2.1 false]).length ≤ 1 := by split <;> simp
      simp only [List.length_cons, List.length_append]
      omega
    refine parse_ok (by omega) ?_ h
    rw [splitL_join _ (by rw [hw]; simp) (fun w h => (hword w h).1), hw]
    generalize tempT tp.1 :: rnmL nms tp.2.1 false :: ((if 0 < tp.2.2.2 then [dgT tp.2.2.2] else []) ++ (if aloneB tp.1 = true then [] else [rnmL nms tp.2.2.1 false])) = l at *
    unfold ruleR
    rw [show nextW (nm.data.toList :: tDecl :: l, 0) = nm.data.toList from rfl, if_neg (by rw [show namedL nm.data.toList = true from hn]; decide)]
    rw [show takeW (nm.data.toList :: tDecl :: l, 0) = (tDecl :: l, 0) from rfl, show nextW (tDecl :: l, 0) = tDecl from rfl, if_pos rfl, show takeW (tDecl :: l, 0) = (l, 0) from rfl, ht, e0]
  · -- ltl
    obtain rfl : pt = patZ := Classical.byContradiction fun e => k1 (by decide) e
    obtain rfl : tp = tplZ := Classical.byContradiction fun e => k2 (by decide) e
    obtain rfl := fill_zero (k4 (by decide))
    have hc : (printL fl nms).2 = 0 := hpe
    have hw : wordsR (nm, 3, patZ, tplZ, fl, ltl0) nms = [nm.data.toList, tLtl, (printL fl nms).1] := rfl
    have hlen := printL_len fl nms
    obtain ⟨_, b1, b2⟩ := back_law hc
    generalize (printL fl nms).1 = t at *
    have hj : joinS 32 [nm.data.toList, tLtl, t] = nm.data.toList ++ 32 :: (tLtl ++ 32 :: t) := rfl
    have hsp : splitL 32 (joinS 32 [nm.data.toList, tLtl, t]) = nm.data.toList :: tLtl :: splitL 32 t := by
      rw [hj, splitL_at hnn.1, splitL_at (by decide)]
    have hsz : (joinS 32 [nm.data.toList, tLtl, t]).length ≤ 4096 := by
      rw [hj]; simp only [List.length_append, List.length_cons, show tLtl.length = 3 from rfl]
      have := hnn.2.2; omega
    have hr : ruleR nms (nm.data.toList :: tLtl :: splitL 32 t, 0) = ((nm, 3, patZ, tplZ, (parseL t nms).1, ltl0), if (parseL t nms).2.2 ≠ 0 then (splitL 32 t, (parseL t nms).2.2) else ([], 0)) := by
      unfold ruleR
      rw [show nextW (nm.data.toList :: tLtl :: splitL 32 t, 0) = nm.data.toList from rfl, if_neg (by rw [show namedL nm.data.toList = true from hn]; decide)]
      rw [show takeW (nm.data.toList :: tLtl :: splitL 32 t, 0) = (tLtl :: splitL 32 t, 0) from rfl, show nextW (tLtl :: splitL 32 t, 0) = tLtl from rfl, if_neg (by decide), if_pos rfl, show takeW (tLtl :: splitL 32 t, 0) = (splitL 32 t, 0) from rfl]
      dsimp only
      rw [join_split, e0]
      rfl
    rw [hw]
    rw [← hsp] at hr
    have key : ∀ a e, (e = 2 ∨ e = 5) → parseL t nms = (.mk 0 0 [], a, e) → ((3 : Int) = 3 ∨ (3 : Int) = 4) ∧ ∃ e, (e = 2 ∨ e = 5) ∧ parseR (joinS 32 [nm.data.toList, tLtl, t]) nms = (ruleZ, 2, e) := by
      intro a e he hp
      rw [hp] at hr
      dsimp only at hr
      have hz : e ≠ 0 := by omega
      rw [if_pos hz] at hr
      refine ⟨.inl rfl, e, he, ?_⟩
      rw [parse_err hsz hr hz, hsp]
      simp
      omega
    by_cases hl : t.length > 300
    · exact .inr (key _ 2 (.inl rfl) (b1 hl))
    · rcases b2 (by omega) with hp | ⟨a, -, hp⟩
      · left
        rw [hp] at hr
        exact parse_ok hsz hr h
      · exact .inr (key _ 5 (.inr rfl) hp)
  · -- ctl
    obtain rfl : pt = patZ := Classical.byContradiction fun e => k1 (by decide) e
    obtain rfl : tp = tplZ := Classical.byContradiction fun e => k2 (by decide) e
    obtain rfl := fill_zero (k3 (by decide))
    have hc : (printC fc nms).2 = 0 := hpe
    have hw : wordsR (nm, 4, patZ, tplZ, ltl0, fc) nms = [nm.data.toList, tCtl, (printC fc nms).1] := rfl
    have hlen := printC_len fc nms
    obtain ⟨_, b1, b2⟩ := cback_law hc
    generalize (printC fc nms).1 = t at *
    have hj : joinS 32 [nm.data.toList, tCtl, t] = nm.data.toList ++ 32 :: (tCtl ++ 32 :: t) := rfl
    have hsp : splitL 32 (joinS 32 [nm.data.toList, tCtl, t]) = nm.data.toList :: tCtl :: splitL 32 t := by
      rw [hj, splitL_at hnn.1, splitL_at (by decide)]
    have hsz : (joinS 32 [nm.data.toList, tCtl, t]).length ≤ 4096 := by
      rw [hj]; simp only [List.length_append, List.length_cons, show tCtl.length = 3 from rfl]
      have := hnn.2.2; omega
    have hr : ruleR nms (nm.data.toList :: tCtl :: splitL 32 t, 0) = ((nm, 4, patZ, tplZ, ltl0, (parseC t nms).1), if (parseC t nms).2.2 ≠ 0 then (splitL 32 t, (parseC t nms).2.2) else ([], 0)) := by
      unfold ruleR
      rw [show nextW (nm.data.toList :: tCtl :: splitL 32 t, 0) = nm.data.toList from rfl, if_neg (by rw [show namedL nm.data.toList = true from hn]; decide)]
      rw [show takeW (nm.data.toList :: tCtl :: splitL 32 t, 0) = (tCtl :: splitL 32 t, 0) from rfl, show nextW (tCtl :: splitL 32 t, 0) = tCtl from rfl, if_neg (by decide), if_neg (by decide), if_pos rfl, show takeW (tCtl :: splitL 32 t, 0) = (splitL 32 t, 0) from rfl]
      dsimp only
      rw [join_split, e0]
      rfl
    rw [hw]
    rw [← hsp] at hr
    have key : ∀ a e, (e = 2 ∨ e = 5) → parseC t nms = (.mk 0 0 [], a, e) → ((4 : Int) = 3 ∨ (4 : Int) = 4) ∧ ∃ e, (e = 2 ∨ e = 5) ∧ parseR (joinS 32 [nm.data.toList, tCtl, t]) nms = (ruleZ, 2, e) := by
      intro a e he hp
      rw [hp] at hr
      dsimp only at hr
      have hz : e ≠ 0 := by omega
      rw [if_pos hz] at hr
      refine ⟨.inr rfl, e, he, ?_⟩
      rw [parse_err hsz hr hz, hsp]
      simp
      omega
    by_cases hl : t.length > 300
    · exact .inr (key _ 2 (.inl rfl) (b1 hl))
    · rcases b2 (by omega) with hp | ⟨a, -, hp⟩
      · left
        rw [hp] at hr
        exact parse_ok hsz hr h
      · exact .inr (key _ 5 (.inr rfl) hp)
end
end Go.Proofs.YtikigaeihdmcaaaGreatDoor

/-
  Results that lie in a variable; slices that are read, later on; slices cut with their capacity. Over any program.
-/
set_option linter.unusedVariables false
set_option linter.unusedSimpArgs false
namespace Go.Proofs.YtikigaeihdmcaaaGreatDoor
open Go.RowKit

theorem results_cell {fn : Func} {a : Nat} {t : TypeId} (h : fn.results = #[.cell a t]) (tmps : Array Value) (P : Program) (w : World) {p : Addr} {v : Value} (ha : tmps.getD a undef = .pointer (some p)) (hl : (loadVar t p).run P w = .ok v w) :
    (results fn tmps).run P w = .ok v w := by
  simp only [Array.getD_eq_getD_getElem?] at ha
  simp [results, h, ha, asAddr, hl]
theorem EX.retC {P : Program} {n : Nat} {σ : Sg} {w : World} {fn : Func} {a b : Nat} {t e : TypeId} {cells : List Value} {k : Nat} {R : Value → World → Prop} (hr : fn.results = #[.cell a t]) (ha : fnd σ a = some (.pointer (some ⟨b, 0, none⟩))) [hc : IsC P t k true] (hb : Blk w b e cells) (hk : lenL cells = k) (h : R (.agg cells.toArray) w) :
    EX (bodyPost P fn fun e w' => ∃ v, e = .returned v ∧ R v w') .ret n σ w := by
  unfold EX; intro ac hac
  refine bodyPost_ret (results_cell hr _ _ _ (hac.slot a _ ha) (v := .agg cells.toArray) ?_) hac.defers ⟨_, rfl, h⟩
  rw [lenL_eq] at hk
  have hld := run_loadCells_list (P := P) w ⟨b, 0, none⟩ cells (fun j u hu => by rw [WideShapes.add_plain, Nat.zero_add]; exact hb.cell hu)
  obtain ⟨i, dd, h1, h2, h3, h4⟩ := hc.ok
  have hagg : (isAgg t).run P w = .ok true w := by
    unfold isAgg
    rw [Sem.run_bind, run_underlying h3 w, ← h4]
    cases dd <;> rfl
  rw [hk] at hld
  simp [loadVar, hagg, sizeOf, typeInfo, h1, h2, hld]
theorem results_cell2 {fn : Func} {a u : Nat} {t : TypeId} (h : fn.results = #[.cell a t, .tmp u]) (tmps : Array Value) (P : Program) (w : World) {p : Addr} {v : Value} (ha : tmps.getD a undef = .pointer (some p)) (hl : (loadVar t p).run P w = .ok v w) :
    (results fn tmps).run P w = .ok (.tuple ⟨[v, tmps.getD u undef]⟩) w := by
  simp only [Array.getD_eq_getD_getElem?] at ha ⊢
  simp [results, h, ha, asAddr, hl]
theorem EX.retC2 {P : Program} {n : Nat} {σ : Sg} {w : World} {fn : Func} {a b u : Nat} {t e : TypeId} {cells : List Value} {k : Nat} {x : Value} {R : Value → World → Prop} (hr : fn.results = #[.cell a t, .tmp u]) (ha : fnd σ a = some (.pointer (some ⟨b, 0, none⟩))) (hu : fnd σ u = some x) [hc : IsC P t k true] (hb : Blk w b e cells) (hk : lenL cells = k) (h : R (.tuple ⟨[.agg cells.toArray, x]⟩) w) :
    EX (bodyPost P fn fun e w' => ∃ v, e = .returned v ∧ R v w') .ret n σ w := by
  unfold EX; intro ac hac
  refine bodyPost_ret (results_cell2 hr _ _ _ (hac.slot a _ ha) (v := .agg cells.toArray) ?_) hac.defers ⟨_, by rw [hac.slot u x hu], h⟩
  rw [lenL_eq] at hk
  have hld := run_loadCells_list (P := P) w ⟨b, 0, none⟩ cells (fun j u hu => by rw [WideShapes.add_plain, Nat.zero_add]; exact hb.cell hu)
  obtain ⟨i, dd, h1, h2, h3, h4⟩ := hc.ok
  have hagg : (isAgg t).run P w = .ok true w := by
    unfold isAgg
    rw [Sem.run_bind, run_underlying h3 w, ← h4]
    cases dd <;> rfl
  rw [hk] at hld
  simp [loadVar, hagg, sizeOf, typeInfo, h1, h2, hld]
theorem Sl.zero {α : Type} [Rep α] (w : World) (F : Nat → Prop) : Sl w F none 0 ([] : List α) := ⟨by simp, by simp [maxLen], fun _ => rfl, fun i hi => absurd hi (by simp)⟩
theorem Sl.up0 {α : Type} [Rep α] {w w' : World} {F : Nat → Prop} {ao : Option Addr} {cap : Nat} {xs : List α} (h : Sl w F ao cap xs) (hE : Ext w w') (hF : ∀ b, F b → b < w.heap.size) : Sl w' F ao cap xs := h.mono (fun b hb => hE.block b (hF b hb)) fun _ h => h
section
variable {P : Program} {Q : Exit → Act → World → Prop} {n : Nat} {σ : Sg} {w : World} {L rest : List Oper} {d : Nat} {ty : TypeId} {pos : String} {af : Array Edge} {g : Option (Nat × Bool)} {t e : TypeId} {α : Type} [Rep α] {F : Nat → Prop}
end
end Go.Proofs.YtikigaeihdmcaaaGreatDoor

