import Derived.Test.YtikigaeihdmcaaaRows
import Derived.OpenShut
import Derived.JoinedCond
import Derived.Test.YtikigaeihdmcaaaPtWorldOwn13
/-
  WorldOwn: walked.
-/
set_option linter.unusedVariables false
set_option linter.unusedSimpArgs false
namespace Go.Proofs.Ytikigaeihdmcaaa
open Go.RowKit

instance iWo1 : IsF Try.prog 26 := ⟨_, Try.func26, rfl, by decide⟩
instance iWo2 : IsF Try.prog 15 := ⟨_, Try.func15, rfl, by decide⟩
instance iWo3 : IsF Try.prog 16 := ⟨_, Try.func16, rfl, by decide⟩
theorem samew1_ok (w0 : World) {ao bo : Option Addr} {cap cap' : Nat} {xs : List (List Int)} (hs : Sl w0 (Old w0) ao cap xs) (ht : Sl w0 (Old w0) bo cap' xs) :
    Rt Try.prog 26 [.slice ao xs.length cap, .slice bo xs.length cap'].toArray w0 fun v w' => v = .bool true ∧ Ext w0 w' := by
  refine Rt.enter2 Try.func26 Try.ntmps26 rfl rfl ?_
  (repeat (first | (apply WL.pure; rfl; rfl; rfl) | (apply WL.nil) | (apply EX.thenN) | (apply CW.seq) | (apply CW.region)))
  refine WL.call rfl rfl rfl (equalFunc_ll w0 hs ht (fun w hE i hi hi' u u' hu hu' => ?_)) ?_
  · obtain ⟨a, b, rfl, h1⟩ := hu.sl
    obtain ⟨a', b', rfl, h2⟩ := hu'.sl
    have := equal_int w (h1.lift fun b hb => Nat.lt_of_lt_of_le hb hE.size) (h2.lift fun b hb => Nat.lt_of_lt_of_le hb hE.size)
    exact FnV.mk (cs := []) (by simpa using this)
  · rintro v w' ⟨rfl, hE⟩
    rw [show (xs == xs) = true from beq_self_eq_true _]
    (repeat (first | (apply WL.pure; rfl; rfl; rfl) | (apply WL.nil) | (apply EX.thenN) | (apply CW.ret)))
    exact EX.ret1 rfl rfl ⟨rfl, hE⟩
/-- a world that is read -/
def WorldAt (w : World) (v : Value) (W : LWorld) : Prop := ∃ a1 c1 a2 c2 a3 c3 a4 c4, v = worldV a1 c1 a2 c2 a3 c3 a4 c4 W.1.length W.2.1.length W.2.2.1.length W.2.2.2.length ∧ Sl w (Old w) a1 c1 W.1 ∧ Sl w (Old w) a2 c2 W.2.1 ∧ Sl w (Old w) a3 c3 W.2.2.1 ∧ Sl w (Old w) a4 c4 W.2.2.2
theorem WorldAt.up {w w' : World} {v : Value} {W : LWorld} (h : WorldAt w v W) (hE : Ext w w') : WorldAt w' v W := by
  obtain ⟨a1, c1, a2, c2, a3, c3, a4, c4, rfl, h1, h2, h3, h4⟩ := h
  exact ⟨a1, c1, a2, c2, a3, c3, a4, c4, rfl, h1.up hE, h2.up hE, h3.up hE, h4.up hE⟩
theorem SameWorld_eq (w0 : World) {va vb : Value} {W : LWorld} (ha : WorldAt w0 va W) (hb : WorldAt w0 vb W) :
    Rt Try.prog 11 [va, vb].toArray w0 fun v w' => v = .bool true ∧ Ext w0 w' := by
  obtain ⟨a1, c1, a2, c2, a3, c3, a4, c4, rfl, h1, h2, h3, h4⟩ := ha
  obtain ⟨k1, d1, k2, d2, k3, d3, k4, d4, rfl, g1, g2, g3, g4⟩ := hb
  refine Rt.enter2 Try.func11 Try.ntmps11 rfl rfl ?_
  (repeat (first | (apply CW.seq) | (apply CW.region)))
  refine WL.boxB rfl rfl rfl fun w1 hb2 e1 => ?_
  skip
  refine WL.boxB rfl rfl rfl fun w2 hb3 e2 => ?_
  have hb2 := hb2.ext e2
  have hE := e1.trans e2
  (repeat (first | (apply WL.pure; rfl; rfl; rfl) | (apply WL.nil) | (apply EX.thenN) | (apply CW.seq) | (apply CW.region) | (apply WL.fa; rfl; rfl; rfl) | (apply WL.ld; rfl; rfl; rfl; assumption; rfl)))
  refine WL.call rfl rfl rfl (equal_int w2 (h1.up hE) (g1.up hE)) ?_
  rintro _ w3 ⟨rfl, e3⟩
  rw [show (W.1 == W.1) = true from beq_self_eq_true _]
  have hb2 := hb2.ext e3
  have hb3 := hb3.ext e3
  have hE := hE.trans e3
  (repeat (first | (apply WL.pure; rfl; rfl; rfl) | (apply WL.fa; rfl; rfl; rfl) | (apply WL.ld; rfl; rfl; rfl; assumption; rfl)))
  refine WL.callV (fv := []) rfl rfl rfl rfl (samew1_ok w3 (h2.up hE) (g2.up hE)) ?_
  rintro _ w4 ⟨rfl, e4⟩
  have hb2 := hb2.ext e4
  have hb3 := hb3.ext e4
  have hE := hE.trans e4
  (repeat (first | (apply WL.pure; rfl; rfl; rfl) | (apply WL.fa; rfl; rfl; rfl) | (apply WL.ld; rfl; rfl; rfl; assumption; rfl)))
  refine WL.call rfl rfl rfl (equal_u64 w4 (h3.up hE) (g3.up hE)) ?_
  rintro _ w5 ⟨rfl, e5⟩
  rw [show (W.2.2.1 == W.2.2.1) = true from beq_self_eq_true _]
  have hb2 := hb2.ext e5
  have hb3 := hb3.ext e5
  have hE := hE.trans e5
  (repeat (first | (apply WL.pure; rfl; rfl; rfl) | (apply WL.fa; rfl; rfl; rfl) | (apply WL.ld; rfl; rfl; rfl; assumption; rfl)))
  refine WL.callV (fv := []) rfl rfl rfl rfl (samew1_ok w5 (h4.up hE) (g4.up hE)) ?_
  rintro _ w6 ⟨rfl, e6⟩
  (repeat (first | (apply WL.pure; rfl; rfl; rfl) | (apply WL.nil) | (apply EX.thenN) | (apply CW.ret)))
  exact EX.ret1 rfl rfl ⟨rfl, hE.trans e6⟩
theorem wown1_ok (w0 : World) {B : Nat} {v : Value} {xs : List Int} (h : Room w0 B 3 v xs 77) (hb : xs.length ≤ 1099511627776) :
    Rt Try.prog 15 [v].toArray w0 fun v w' => v = .bool false ∧ w0 = w' := by
  refine Rt.enter1 Try.func15 Try.ntmps15 rfl rfl ?_
  (repeat (first | (apply WL.pure; rfl; rfl; rfl) | (apply WL.nil) | (apply EX.thenN) | (apply CW.seq) | (apply CW.region)))
  refine WL.call rfl rfl rfl (kept_ok w0 h hb) ?_
  rintro _ _ ⟨rfl, rfl⟩
  (repeat (first | (apply WL.pure; rfl; rfl; rfl) | (apply WL.nil) | (apply EX.thenN) | (apply CW.ret)))
  exact EX.ret1 rfl rfl ⟨rfl, rfl⟩
theorem wown2_ok (w0 : World) {B : Nat} {v : Value} {xs : List Int} (h : Room w0 B 3 v xs 77) (hb : xs.length ≤ 1099511627776) :
    Rt Try.prog 16 [v].toArray w0 fun v w' => v = .bool false ∧ w0 = w' := by
  refine Rt.enter1 Try.func16 Try.ntmps16 rfl rfl ?_
  (repeat (first | (apply WL.pure; rfl; rfl; rfl) | (apply WL.nil) | (apply EX.thenN) | (apply CW.seq) | (apply CW.region)))
  refine WL.call rfl rfl rfl (kept_ok w0 h hb) ?_
  rintro _ _ ⟨rfl, rfl⟩
  (repeat (first | (apply WL.pure; rfl; rfl; rfl) | (apply WL.nil) | (apply EX.thenN) | (apply CW.ret)))
  exact EX.ret1 rfl rfl ⟨rfl, rfl⟩
/-- the copy with room behind its lists: what a chain's state is -/
abbrev woLit (a1 : Option Addr) (c1 l1 : Nat) (a3 : Option Addr) (c3 l3 : Nat) (p0 p1 p2 : Value) : Sg := [(25, .slice a3 l3 c3), (22, .slice a1 l1 c1), (2, p0), (3, p1), (4, p2)]
def woOB (B : Nat) (w : World) (ob : Option Nat) : Prop := ∀ b, ob = some b → Blk w b 26 [.slice none 0 0, .slice none 0 0, .slice none 0 0, .slice none 0 0] ∧ B ≤ b
theorem woOB.ext {B : Nat} {w w' : World} {ob : Option Nat} (h : woOB B w ob) (hE : Ext w w') : woOB B w' ob := fun b hb => ⟨(h b hb).1.ext hE, (h b hb).2⟩
def woO (v : Value) (ob : Option Nat) : Prop := ∀ b, ob = some b → v.ownBlock ≠ some b
def woV (v u : Value) : Prop := ∀ g, v.ownBlock = some g → u.ownBlock ≠ some g
def woI (lit : Sg) (B : Nat) (st : List Int) (lb : List Nat) (i : Nat) (σ : Sg) (w : World) (ob : Option Nat) : Prop :=
  match i with
  | 0 => σ = lit ∧ woOB B w ob
  | 1 => ∃ sv, σ = (23, sv) :: lit ∧ Room w B 3 sv st 77 ∧ woO sv ob ∧ woOB B w ob
  | 2 => ∃ sv mv, σ = (26, mv) :: (23, sv) :: lit ∧ Room w B 3 sv st 77 ∧ RoomU w B 33 mv lb 77 ∧ woV mv sv ∧ woO sv ob ∧ woO mv ob ∧ woOB B w ob
  | _ => ∃ sv mv, σ = (27, .agg [sv, .slice none 0 0, mv, .slice none 0 0].toArray) :: (26, mv) :: (23, sv) :: lit ∧ Room w B 3 sv st 77 ∧ RoomU w B 33 mv lb 77 ∧ woV mv sv ∧ woO sv ob ∧ woO mv ob ∧ woOB B w ob
set_option maxRecDepth 100000 in
set_option maxHeartbeats 4000000 in
theorem WorldOwn_ok (w0 : World) {W : LWorld} {f : Ltl} {a1 a2 a3 a4 fo : Option Addr} {c1 c2 c3 c4 fc : Nat} (h1 : Sl w0 (Old w0) a1 c1 W.1) (h2 : Sl w0 (Old w0) a2 c2 W.2.1) (h3 : Sl w0 (Old w0) a3 c3 W.2.2.1) (h4 : Sl w0 (Old w0) a4 c4 W.2.2.2) (hf : Sl w0 (Old w0) fo fc f.kids) (n : Int)
    (hsz : W.1.length + edges W.2.1 + W.2.1.length + W.2.2.1.length + edges W.2.2.2 + W.2.2.2.length ≤ 1048576) :
    Rt Try.prog 3 [worldV a1 c1 a2 c2 a3 c3 a4 c4 W.1.length W.2.1.length W.2.2.1.length W.2.2.2.length, ltlV f.k f.n fo f.kids.length fc, .int .i64 n].toArray w0 fun v w' => v = .bool true ∧ Ext w0 w' := by
  refine Rt.enter3 Try.func3 Try.ntmps3 rfl rfl ?_
  have hE := Ext.refl w0
  (repeat (first | (apply CW.seq) | (apply CW.region)))
  refine WL.boxB rfl rfl rfl fun w1 hb3 e1 => ?_
  have hE := hE.trans e1
  skip
  refine WL.boxB rfl rfl rfl fun w2 hb4 e2 => ?_
  have hb3 := hb3.ext e2
  have hE := hE.trans e2
  (repeat (first | (apply WL.pure; rfl; rfl; rfl) | (apply WL.nil) | (apply EX.thenN) | (apply CW.seq) | (apply CW.region)))
  refine WL.call rfl rfl rfl (known_ok w2) ?_
  rintro _ w5 ⟨rfl, e5⟩
  have hb3 := hb3.ext e5
  have hb4 := hb4.ext e5
  have hE := hE.trans e5
  clear e1 e2 e5
  (repeat (first | (apply WL.pure; rfl; rfl; rfl) | (apply WL.nil) | (apply EX.thenN) | (apply CW.seq) | (apply CW.condF; rfl) | (apply CW.skip)))
  have hSE : ∀ z, (fun z : World => Ext w5 z) z → Ext w5 z := fun _ h => h
  have l3 := hb3.lt
  have l4 := hb4.lt
  refine CW.drawC (fun x => Ext w5 x) [(0, true), (1, true), (3, true), (4, true)] 7 [2, 5, 6] [(8, false)] mixed (by kernel_rfl) (Ext.drew w5) ?_
  (repeat (first | (refine HL.fa rfl rfl rfl rfl ?_) | (refine HL.ld (by assumption) rfl rfl rfl rfl (by assumption) rfl ?_) | (apply HL.nil)))
  refine EX.sub (τ := woLit a1 c1 W.1.length a3 c3 W.2.2.1.length (.int .i64 n) (.pointer (some ⟨w0.heap.size, 0, none⟩)) (.pointer (some ⟨w1.heap.size, 0, none⟩))) (by repeat (first | exact trivial | refine ⟨rfl, ?_⟩)) ?_
  refine EX.chainA (e := 7) rfl rfl (woI (woLit a1 c1 W.1.length a3 c3 W.2.2.1.length (.int .i64 n) (.pointer (some ⟨w0.heap.size, 0, none⟩)) (.pointer (some ⟨w1.heap.size, 0, none⟩))) w5.heap.size W.1 W.2.2.1) ?_ ?_ ?_ ?_ ⟨rfl, fun b h => by cases h⟩ (Ext.drew w5)
  · intro i σ w ob hI
    match i with
    | 0 => obtain ⟨rfl, _⟩ := hI; rfl
    | 1 => obtain ⟨_, rfl, _⟩ := hI; rfl
    | 2 => obtain ⟨_, _, rfl, _⟩ := hI; rfl
    | _ + 3 => obtain ⟨_, _, rfl, _⟩ := hI; rfl
  · intro i σ w hI hS w' hb hE'
    have hS : Ext w5 w := hS
    refine ⟨Ext.trans hS hE', ?_⟩
    have ob : woOB w5.heap.size w' (some w.heap.size) := fun b h => by cases h; exact ⟨hb, hS.size⟩
    have ap : ∀ {α : Type} [Rep α] {e : TypeId} {v : Value} {xs : List α}, Own w w5.heap.size e Non v xs → woO v (some w.heap.size) := fun ho b h hg => by cases h; have := (ho.lt _ hg).2.1; omega
    match i with
    | 0 => obtain ⟨h, _⟩ := hI; exact ⟨h, ob⟩
    | 1 => obtain ⟨sv, h, ho, _⟩ := hI; exact ⟨sv, h, ho.ext hE', ap ho.own, ob⟩
    | 2 => obtain ⟨sv, mv, h, ho, hm, hd, _⟩ := hI; exact ⟨sv, mv, h, ho.ext hE', hm.ext hE', hd, ap ho.own, ap hm.own, ob⟩
    | _ + 3 => obtain ⟨sv, mv, h, ho, hm, hd, _⟩ := hI; exact ⟨sv, mv, h, ho.ext hE', hm.ext hE', hd, ap ho.own, ap hm.own, ob⟩
  · intro i hi σ w ob τ hI hS
    have hS : Ext w5 w := hS
    have apn : ∀ {α : Type} [Rep α] {e : TypeId} {v u : Value} {xs : List α} {B : Nat} {w' : World}, w.heap.size ≤ B → Own w' B e Non v xs → (∀ g, u.ownBlock = some g → g < w.heap.size) → woV v u := fun hB ho hu g hg e => by have := (ho.lt _ hg).1; have := hu g e; omega
    match i, hi with
    | 0, _ =>
      obtain ⟨rfl, hob⟩ := hI
      refine ⟨_, rfl, ?_⟩
      refine WL.call rfl rfl rfl (roomy_ok w (h1.up (hE.trans hS)) (fun _ h => h) 77 (by omega)) ?_
      rintro sv w' ⟨ho, e⟩
      exact WL.nil (EX.stepA (σ := (23, sv) :: _) (Ext.trans hS e) ⟨sv, rfl, ho.low hS.size, fun b h hg => by have := (ho.own.lt _ hg).1; have := (hob b h).1.lt; omega, hob.ext e⟩)
    | 1, _ =>
      obtain ⟨sv, rfl, ho, hap, hob⟩ := hI
      refine ⟨_, rfl, ?_⟩
      refine WL.call rfl rfl rfl (roomyU_ok w (h3.up (hE.trans hS)) (fun _ h => h) 77 (by decide) (by omega)) ?_
      rintro mv w' ⟨hm, e⟩
      exact WL.nil (EX.stepA (σ := (26, mv) :: _) (Ext.trans hS e) ⟨sv, mv, rfl, ho.ext e, hm.low hS.size, apn (Nat.le_refl _) hm.own (fun g hg => (ho.own.lt g hg).2.1), hap, fun b h hg => by have := (hm.own.lt _ hg).1; have := (hob b h).1.lt; omega, hob.ext e⟩)
    | 2, _ =>
      obtain ⟨sv, mv, rfl, ho, hm, hd, hap, hap2, hob⟩ := hI
      obtain ⟨so, rfl, _⟩ := ho.ok
      obtain ⟨mo, rfl, _⟩ := hm.ok
      refine ⟨_, rfl, ?_⟩
      refine WL.build rfl rfl rfl rfl ?_
      exact WL.nil (EX.stepA (σ := (27, _) :: _) hS ⟨_, _, rfl, ho, hm, hd, hap, hap2, hob⟩)
    | i + 3, hi => exact absurd hi (by simp)
  intro σ w6 b5 hI hS
  have hS : Ext w5 w6 := hS
  obtain ⟨sv, mv, rfl, hst, hmu, d1, hap, hap2, hob⟩ := hI
  have hgt := (hob b5 rfl).2
  have hb5 := (hob b5 rfl).1
  obtain ⟨so, rfl, _⟩ := hst.ok
  obtain ⟨mo, rfl, _⟩ := hmu.ok
  refine HL.mut rfl (WL.st rfl rfl rfl hb5 rfl rfl (ones_of rfl) (fun w7 hb5 hg7 => ?_))
  have hS7 : Ext w5 w7 := Below.grown hS hg7 hS.size (fun g hg => by cases hg; exact hgt)
  refine WL.nil (EX.mut hS7 ?_)
  have hst := hst.keep (fun g hg => hg7.block g (hst.own.lt g hg).2.1 (fun e => hap b5 rfl (by rw [← e]; exact hg)))
  have hmu := hmu.keep (fun g hg => hg7.block g (hmu.own.lt g hg).2.1 (fun e => hap2 b5 rfl (by rw [← e]; exact hg)))
  have hne1 := hap b5 rfl
  have hne2 := hap2 b5 rfl
  have l5 := hb5.lt
  have hE7 := hE.trans hS7
  have hb3 := hb3.ext hS7
  have hb4 := hb4.ext hS7
  have z7 := hS7.size
  have z5 := hE.size
  clear hob hap hap2 hg7 hS hS7 hSE hE
  apply HL.nil
  (repeat (first | (apply WL.pure; rfl; rfl; rfl) | (apply WL.nil) | (apply EX.thenN) | (apply CW.seq) | (apply CW.region) | (apply WL.lenS; rfl; rfl; rfl) | (apply WL.fa; rfl; rfl; rfl) | (apply WL.ld; rfl; rfl; rfl; assumption; rfl) | (apply CW.block)))
  refine CW.loop (S := Nat × Value × List Raw) (fun s => [(2, .int .i64 n), (3, .pointer (some ⟨w0.heap.size, 0, none⟩)), (4, .pointer (some ⟨w1.heap.size, 0, none⟩)), (7, .pointer (some ⟨b5, 0, none⟩)), (29, .slice a2 W.2.1.length c2), (30, .int .i64 W.2.1.length), (31, .int .i64 s.1)])
    (fun s w => s.1 ≤ W.2.1.length ∧ Blk w b5 26 [.slice (some ⟨so, 0, none⟩) W.1.length (W.1.length + 3), s.2.1, .slice (some ⟨mo, 0, none⟩) W.2.2.1.length (W.2.2.1.length + 3), .slice none 0 0] ∧ RoomN w w7.heap.size s.2.1 s.2.2 (W.2.1.take s.1) ∧ Chg (fun b => b = b5) w7 w)
    (fun s => W.2.1.length - s.1) (0, .slice none 0 0, []) (by repeat (first | exact trivial | refine ⟨rfl, ?_⟩)) ⟨Nat.zero_le _, hb5, by simpa using RoomN.nil, Chg.refl _ _⟩ ?_
  rintro ⟨i, nxv, nxs⟩ w8 ⟨hi, hb5, hNx, hC8⟩
  dsimp only at hi hb5 hNx hC8 ⊢
  have z8 := hC8.size
  have hE8 : Ext w0 w8 := Chg.ext hE7 hC8 (fun b hb => by subst hb; omega)
  have hb38 : Blk w8 _ _ _ := (hC8.block _ (by omega) (fun h => by omega)).trans hb3
  have hb48 : Blk w8 _ _ _ := (hC8.block _ (by omega) (fun h => by omega)).trans hb4
  have hln := fun g hg => hNx.out.lt g hg
  have hil : nxs.length = i := by rw [hNx.len, List.length_take]; omega
  obtain ⟨nxo, nxc, hnv⟩ := hNx.out.val
  subst hnv
  (repeat (first | (apply WL.pure; rfl; rfl; rfl) | (apply WL.nil) | (apply EX.thenN) | (apply CW.seq) | (apply CW.region)))
  refine CW.cond rfl (fun h => ?_) (fun h => ?_)
  · have hi' : i < W.2.1.length := by simp only [decide_eq_true_eq] at h; omega
    clear h
    have hle := len_edges W.2.1 i hi'
    (repeat (first | (apply EX.thenN) | (apply CW.seq) | (apply CW.region) | (apply CW.block) | (apply CW.skip)))
    refine WL.elemN (i := i) rfl rfl rfl rfl rfl (h2.up hE8) hi' (fun _ => rfl) (fun u q hu => ?_)
    obtain ⟨ro, rc, rfl, hr⟩ := hu.sl
    clear hu
    have hD : Ext w8 (drew w8) := Ext.drew w8
    have hb5d := hb5.ext hD
    have hKs : ∀ u, (fun z : World => ∀ b, b < w8.heap.size → (Value.slice nxo nxs.length nxc).ownBlock ≠ some b → z.heap[b]? = (drew w8).heap[b]?) u → u.heap[b5]? = (drew w8).heap[b5]? := fun u h => h _ (by omega) (fun e => by have := hln _ e; omega)
    (repeat (first | (apply WL.pure; rfl; rfl; rfl) | (apply WL.nil) | (apply EX.thenN)))
    refine CW.drawE (fun z : World => ∀ b, b < w8.heap.size → (Value.slice nxo nxs.length nxc).ownBlock ≠ some b → z.heap[b]? = (drew w8).heap[b]?) [(0, true), (1, true), (2, true), (3, false), (4, false), (5, false), (6, false)] 7 mixed (by kernel_rfl) (fun _ _ _ => rfl) ?_
    (repeat (first | (apply HL.pure; rfl; rfl; rfl; rfl) | (refine HL.fa rfl rfl rfl rfl ?_) | (refine HL.ldK (by assumption) rfl rfl rfl rfl (by assumption) rfl ?_)))
    refine HL.mut rfl (WL.call rfl rfl rfl (roomy_ok (drew w8) (hr.up hD) (fun _ h => h) 77 (by omega)) ?_)
    rintro rv wa ⟨hrm, ea⟩
    have hone : rv.oneCell' = true := by obtain ⟨b, rfl, _⟩ := hrm.ok; rfl
    refine WL.nil (EX.mut (fun b hb _ => ea.block b hb) ?_)
    have hNa := (hNx.ext hD).ext ea
    have za := ea.size
    have zd := hD.size
    refine HL.app1 (α := Raw) (F := Non) (bytes := 24) (yv := (⟨rv⟩ : Raw)) rfl rfl rfl rfl (fun _ => rfl) rfl rfl (fun _ => rfl) hNa.out (Rd.mkRaw _ _ _ hone) (by omega) (fun _ h => h.elim) (by decide) (by unfold maxLen; omega) (by omega)
      (fun z hz b hb hne => (hz.block b (by omega) (fun e => hne e.symm)).trans (ea.block b hb)) (fun nv3 wb qb hob hgb hnbb => ?_)
    have hNb := (hNx.ext hD).app (by omega) hrm ea hob hgb hnbb
    rw [← List.take_succ_eq_append_getElem hi'] at hNb
    have hb5b := (hb5d.ext ea).kept hgb (fun e => by have := hln _ e.symm; omega)
    have hSb : (fun z : World => ∀ b, b < w8.heap.size → (Value.slice nxo nxs.length nxc).ownBlock ≠ some b → z.heap[b]? = (drew w8).heap[b]?) wb := fun b hb hne => (hgb.block b (by omega) (fun e => hne e.symm)).trans (ea.block b hb)
    obtain ⟨no3, nc3, hnv3⟩ := hob.val
    subst hnv3
    refine HL.mut rfl (WL.fa rfl rfl rfl (WL.nil (EX.mut hSb (HL.nil ?_))))
    refine EX.tail rfl (WL.st rfl rfl rfl hb5b rfl rfl (ones_of rfl) (fun wc hb5c hgc => WL.nil (EX.tailE ?_)))
    have hNc := hNb.keep (w' := wc) (fun b h1 h2 => hgc.block b h2 (fun e => by have := Option.some.inj e; omega))
    have hCc : Chg (fun b => b = b5) w7 wc := (((hC8.trans (Chg.of_ext _ hD)).trans (Chg.of_ext _ ea)).then (Chg.of_grown hgb) (fun b h => .inr (by have := hln b h; omega))).grown hgc (fun g hg => by cases hg; rfl)
    (repeat (first | (apply WL.add; rfl; rfl; rfl; rfl; omega; omega) | (apply WL.pure; rfl; rfl; rfl) | (apply WL.nil) | (apply EX.thenN) | (apply CW.region) | (apply EX.inN)))
    exact EX.back (i + 1, _, _) (by repeat (first | exact trivial | refine ⟨rfl, ?_⟩)) ⟨hi', hb5c, hNc, hCc⟩ (by dsimp only; omega)
  have hie : i = W.2.1.length := by simp only [decide_eq_false_iff_not] at h; omega
  subst hie
  rw [List.take_length] at hNx
  clear h
  have hnl := hNx.len
  rw [hnl] at hb5 hNx
  clear hln hil
  (repeat (first | (apply WL.pure; rfl; rfl; rfl) | (apply WL.nil) | (apply EX.thenN) | (apply CW.seq) | (apply CW.region) | (apply WL.lenS; rfl; rfl; rfl) | (apply WL.fa; rfl; rfl; rfl) | (apply WL.ld; rfl; rfl; rfl; assumption; rfl) | (apply CW.block) | (apply CW.exit) | (apply EX.thenX) | (apply EX.inX)))
  refine CW.loop (S := Nat × Value × List Raw) (fun s => [(2, .int .i64 n), (3, .pointer (some ⟨w0.heap.size, 0, none⟩)), (4, .pointer (some ⟨w1.heap.size, 0, none⟩)), (7, .pointer (some ⟨b5, 0, none⟩)), (44, .slice a4 W.2.2.2.length c4), (45, .int .i64 W.2.2.2.length), (46, .int .i64 s.1)])
    (fun s w => s.1 ≤ W.2.2.2.length ∧ Blk w b5 26 [.slice (some ⟨so, 0, none⟩) W.1.length (W.1.length + 3), .slice nxo W.2.1.length nxc, .slice (some ⟨mo, 0, none⟩) W.2.2.1.length (W.2.2.1.length + 3), s.2.1] ∧ RoomN w w8.heap.size s.2.1 s.2.2 (W.2.2.2.take s.1) ∧ Chg (fun b => b = b5) w8 w)
    (fun s => W.2.2.2.length - s.1) (0, .slice none 0 0, []) (by repeat (first | exact trivial | refine ⟨rfl, ?_⟩)) ⟨Nat.zero_le _, hb5, by simpa using RoomN.nil, Chg.refl _ _⟩ ?_
  rintro ⟨k, frv, fs⟩ w9 ⟨hi, hb5, hFr, hC9⟩
  dsimp only at hi hb5 hFr hC9 ⊢
  have z9 := hC9.size
  have hE9 : Ext w0 w9 := Chg.ext hE8 hC9 (fun b hb => by subst hb; omega)
  have hb39 : Blk w9 _ _ _ := (hC9.block _ (by omega) (fun h => by omega)).trans hb38
  have hb49 : Blk w9 _ _ _ := (hC9.block _ (by omega) (fun h => by omega)).trans hb48
  have hln := fun g hg => hFr.out.lt g hg
  have hil : fs.length = k := by rw [hFr.len, List.length_take]; omega
  obtain ⟨fro, frc, hnv⟩ := hFr.out.val
  subst hnv
  (repeat (first | (apply WL.pure; rfl; rfl; rfl) | (apply WL.nil) | (apply EX.thenN) | (apply CW.seq) | (apply CW.region)))
  refine CW.cond rfl (fun h => ?_) (fun h => ?_)
  · have hi' : k < W.2.2.2.length := by simp only [decide_eq_true_eq] at h; omega
    clear h
    have hle := len_edges W.2.2.2 k hi'
    (repeat (first | (apply EX.thenN) | (apply CW.seq) | (apply CW.region) | (apply CW.block) | (apply CW.skip)))
    refine WL.elemN (i := k) rfl rfl rfl rfl rfl (h4.up hE9) hi' (fun _ => rfl) (fun u q hu => ?_)
    obtain ⟨ro, rc, rfl, hr⟩ := hu.sl
    clear hu
    have hD : Ext w9 (drew w9) := Ext.drew w9
    have hb5d := hb5.ext hD
    have hKs : ∀ u, (fun z : World => ∀ b, b < w9.heap.size → (Value.slice fro fs.length frc).ownBlock ≠ some b → z.heap[b]? = (drew w9).heap[b]?) u → u.heap[b5]? = (drew w9).heap[b5]? := fun u h => h _ (by omega) (fun e => by have := hln _ e; omega)
    (repeat (first | (apply WL.pure; rfl; rfl; rfl) | (apply WL.nil) | (apply EX.thenN)))
    refine CW.drawE (fun z : World => ∀ b, b < w9.heap.size → (Value.slice fro fs.length frc).ownBlock ≠ some b → z.heap[b]? = (drew w9).heap[b]?) [(0, true), (1, true), (2, true), (3, false), (4, false), (5, false), (6, false)] 7 mixed (by kernel_rfl) (fun _ _ _ => rfl) ?_
    (repeat (first | (apply HL.pure; rfl; rfl; rfl; rfl) | (refine HL.fa rfl rfl rfl rfl ?_) | (refine HL.ldK (by assumption) rfl rfl rfl rfl (by assumption) rfl ?_)))
    refine HL.mut rfl (WL.call rfl rfl rfl (roomy_ok (drew w9) (hr.up hD) (fun _ h => h) 77 (by omega)) ?_)
    rintro rv wa ⟨hrm, ea⟩
    have hone : rv.oneCell' = true := by obtain ⟨b, rfl, _⟩ := hrm.ok; rfl
    refine WL.nil (EX.mut (fun b hb _ => ea.block b hb) ?_)
    have hNa := (hFr.ext hD).ext ea
    have za := ea.size
    have zd := hD.size
    refine HL.app1 (α := Raw) (F := Non) (bytes := 24) (yv := (⟨rv⟩ : Raw)) rfl rfl rfl rfl (fun _ => rfl) rfl rfl (fun _ => rfl) hNa.out (Rd.mkRaw _ _ _ hone) (by omega) (fun _ h => h.elim) (by decide) (by unfold maxLen; omega) (by omega)
      (fun z hz b hb hne => (hz.block b (by omega) (fun e => hne e.symm)).trans (ea.block b hb)) (fun nv3 wb qb hob hgb hnbb => ?_)
    have hNb := (hFr.ext hD).app (by omega) hrm ea hob hgb hnbb
    rw [← List.take_succ_eq_append_getElem hi'] at hNb
    have hb5b := (hb5d.ext ea).kept hgb (fun e => by have := hln _ e.symm; omega)
    have hSb : (fun z : World => ∀ b, b < w9.heap.size → (Value.slice fro fs.length frc).ownBlock ≠ some b → z.heap[b]? = (drew w9).heap[b]?) wb := fun b hb hne => (hgb.block b (by omega) (fun e => hne e.symm)).trans (ea.block b hb)
    obtain ⟨no3, nc3, hnv3⟩ := hob.val
    subst hnv3
    refine HL.mut rfl (WL.fa rfl rfl rfl (WL.nil (EX.mut hSb (HL.nil ?_))))
    refine EX.tail rfl (WL.st rfl rfl rfl hb5b rfl rfl (ones_of rfl) (fun wc hb5c hgc => WL.nil (EX.tailE ?_)))
    have hNc := hNb.keep (w' := wc) (fun b h1 h2 => hgc.block b h2 (fun e => by have := Option.some.inj e; omega))
    have hCc : Chg (fun b => b = b5) w8 wc := (((hC9.trans (Chg.of_ext _ hD)).trans (Chg.of_ext _ ea)).then (Chg.of_grown hgb) (fun b h => .inr (by have := hln b h; omega))).grown hgc (fun g hg => by cases hg; rfl)
    (repeat (first | (apply WL.add; rfl; rfl; rfl; rfl; omega; omega) | (apply WL.pure; rfl; rfl; rfl) | (apply WL.nil) | (apply EX.thenN) | (apply CW.region) | (apply EX.inN)))
    exact EX.back (k + 1, _, _) (by repeat (first | exact trivial | refine ⟨rfl, ?_⟩)) ⟨hi', hb5c, hNc, hCc⟩ (by dsimp only; omega)
  have hie : k = W.2.2.2.length := by simp only [decide_eq_false_iff_not] at h; omega
  subst hie
  rw [List.take_length] at hFr
  clear h
  have hfl := hFr.len
  rw [hfl] at hb5 hFr
  clear hln hil
  -- what stays
  have hk79 : ∀ b, b < w7.heap.size → b ≠ b5 → w9.heap[b]? = w7.heap[b]? := fun b hb hne => (hC9.block b (by omega) (fun h => hne h)).trans (hC8.block b hb (fun h => hne h))
  have hst := hst.keep (fun g hg => hk79 g (hst.own.lt g hg).2.1 (fun e => hne1 (by rw [← e]; exact hg)))
  have hmu := hmu.keep (fun g hg => hk79 g (hmu.own.lt g hg).2.1 (fun e => hne2 (by rw [← e]; exact hg)))
  have hNx := hNx.keep (w' := w9) (fun b h1 h2 => hC9.block b h2 (fun h => by omega))
  obtain ⟨x1, y1, e1, k1⟩ := hst.own.oldN.sl
  obtain ⟨x2, y2, e2, k2⟩ := hNx.own.old.sl
  obtain ⟨x3, y3, e3, k3⟩ := hmu.own.oldN.sl
  obtain ⟨x4, y4, e4, k4⟩ := hFr.own.old.sl
  rw [e1, e2, e3, e4] at hb5
  have hl1 : W.1.length ≤ 1048576 := by omega
  clear hk79 hC8 hC9 hb38 hb48 hb3 hb4 hE7 hE8
  (repeat (first | (apply EX.thenN) | (apply CW.seq) | (apply CW.region) | (apply WL.ldA; rfl; rfl; rfl; assumption; rfl) | (apply CW.exit) | (apply EX.thenX) | (apply EX.inX)))
  refine WL.call rfl rfl rfl (Label_ok w9 (t := f) k1 k2 k3 k4 (hf.up hE9) (by omega)) ?_
  rintro _ w10 ⟨lv, rfl, hlv, e10⟩
  have hE10 := hE9.trans e10
  have hb310 := hb39.ext e10
  have hb410 := hb49.ext e10
  have hb510 := hb5.ext e10
  (repeat (first | (apply WL.pure; rfl; rfl; rfl) | (apply WL.nil) | (apply EX.thenN) | (apply CW.seq) | (apply CW.region) | (apply WL.ldA; rfl; rfl; rfl; assumption; rfl)))
  refine WL.call rfl rfl rfl (Witness_ok w10 (t := f) (k1.up e10) (k2.up e10) (k3.up e10) (k4.up e10) (hf.up hE10) (by omega) n) ?_
  rintro _ w11 ⟨⟨is, err, vs, vl, s, l, rfl, hvs, hvl, hdj⟩, e11⟩
  have e911 := e10.trans e11
  have hE11 := hE10.trans e11
  have hb311 := hb310.ext e11
  have hb411 := hb410.ext e11
  have hb511 := hb510.ext e11
  obtain ⟨vo, vc, rfl⟩ := hvs.val
  obtain ⟨lo, lc, rfl⟩ := hvl.val
  (repeat (apply WL.pure; rfl; rfl; rfl))
  refine WL.alloc rfl rfl (fun w12 hb14 e12 => ?_)
  skip
  refine WL.st rfl rfl rfl hb14 rfl rfl (ones_of rfl) (fun w13 hb14 hg13 => ?_)
  have e13 : Ext w11 w13 := Below.grown e12 hg13 e12.size (fun g hg => by cases hg; exact Nat.le_refl _)
  have e913 := e911.trans e13
  have hE13 := hE11.trans e13
  have hvs13 := hvs.extN e13
  have hvl13 := hvl.extN e13
  have z10 := e10.size
  have z11 := e11.size
  have z13 := e13.size
  have hlvs := fun g hg => hvs.lt g hg
  have hlvl := fun g hg => hvl.lt g hg
  clear e12 hg13 hvs hvl
  -- what is told is spoilt
  (repeat (first | (apply WL.pure; rfl; rfl; rfl) | (apply WL.nil) | (apply EX.thenN) | (apply CW.seq) | (apply CW.region) | (apply WL.fa; rfl; rfl; rfl) | (apply WL.ld; rfl; rfl; rfl; assumption; rfl)))
  refine WL.call rfl rfl rfl (spoil_ok w13 hvs13 0) ?_
  rintro _ w14 hg14
  have z14 := hg14.size
  have hvl14 := hvl13.keptN hg14 (fun g hg e => hdj g e.symm hg)
  have hb1414 := hb14.kept hg14 (fun e => by have := (hlvs _ e.symm).2.1; omega)
  (repeat (first | (apply WL.nil) | (apply EX.thenN) | (apply CW.seq) | (apply CW.region) | (apply WL.fa; rfl; rfl; rfl) | (apply WL.ld; rfl; rfl; rfl; assumption; rfl)))
  refine WL.call rfl rfl rfl (spoil_ok w14 hvl14 0) ?_
  rintro _ w15 hg15
  have z15 := hg15.size
  have hC15 : Chg (fun b => w10.heap.size ≤ b) w13 w15 := ((Chg.of_grown hg14).wk (M' := fun b => w10.heap.size ≤ b) (fun b hb => (hlvs b hb).1)).grown hg15 (fun g hg => (hlvl g hg).1)
  have hkeep : Ext w10 w15 := ⟨hC15.os.trans (e11.trans e13).os, hC15.tape.trans (e11.trans e13).tape, hC15.output.trans (e11.trans e13).output, by omega, fun b hb => (hC15.block b (by omega) (fun h => by omega)).trans ((e11.trans e13).block b hb)⟩
  have e915 := e10.trans hkeep
  have hE15 := hE9.trans e915
  have hb315 := hb39.ext e915
  have hb415 := hb49.ext e915
  have hb515 := hb5.ext e915
  have hlv15 := hlv.extN hkeep
  clear hC15 hg14 hg15 hvs13 hvl13 hvl14 hb14 hb1414 e13 e911 e913 hE11 hE13 hb310 hb410 hb510 hb311 hb411 hb511 e11 hdj hlvs hlvl
  (repeat (first | (apply WL.nil) | (apply EX.thenN) | (apply CW.seq) | (apply CW.region) | (apply WL.ldA; rfl; rfl; rfl; assumption; rfl)))
  refine WL.call rfl rfl rfl (Label_ok w15 (t := f) (h1.up hE15) (h2.up hE15) (h3.up hE15) (h4.up hE15) (hf.up hE15) (by omega)) ?_
  rintro _ w16 ⟨mv, rfl, hmv, e16⟩
  have e916 := e915.trans e16
  have hE16 := hE9.trans e916
  have hb316 := hb315.ext e16
  have hb516 := hb515.ext e16
  have hlv16 := hlv15.extN e16
  obtain ⟨lo1, lc1, rfl, hls1⟩ := hlv16.oldN.sl
  obtain ⟨lo2, lc2, rfl, hls2⟩ := hmv.oldN.sl
  generalize labE W.1 W.2.1 W.2.2.1.length W.2.2.2 f = er at *
  generalize (if er = 0 then boolsN W.2.1.length (ctlF W.2.1 W.2.2.1 W.2.2.2 f) else []) = bl at *
  (repeat (first | (apply WL.pure; rfl; rfl; rfl) | (apply WL.nil) | (apply EX.thenN) | (apply CW.seq) | (apply CW.region)))
  rw [show (er == er) = true from beq_self_eq_true _]
  (repeat (apply WL.pure; rfl; rfl; rfl))
  refine WL.call rfl rfl rfl (equal_bool w16 hls1 hls2) ?_
  rintro _ w17 ⟨rfl, e17⟩
  rw [show (bl == bl) = true from beq_self_eq_true _]
  have e917 := e916.trans e17
  have hE17 := hE9.trans e917
  have hb317 := hb316.ext e17
  have hb517 := hb516.ext e17
  (repeat (first | (apply WL.pure; rfl; rfl; rfl) | (apply WL.ldA; rfl; rfl; rfl; assumption; rfl)))
  refine WL.call rfl rfl rfl (SameWorld_eq w17 (W := W) ⟨x1, y1, x2, y2, x3, y3, x4, y4, rfl, k1.up e917, k2.up e917, k3.up e917, k4.up e917⟩ ⟨a1, c1, a2, c2, a3, c3, a4, c4, rfl, h1.up hE17, h2.up hE17, h3.up hE17, h4.up hE17⟩) ?_
  rintro _ w18 ⟨rfl, e18⟩
  have e918 := e917.trans e18
  have hE18 := hE9.trans e918
  have hb518 := hb517.ext e18
  rw [← e1, ← e2, ← e3, ← e4] at hb518
  (repeat (first | (apply WL.pure; rfl; rfl; rfl) | (apply WL.fa; rfl; rfl; rfl) | (apply WL.ld; rfl; rfl; rfl; assumption; rfl)))
  refine WL.call rfl rfl rfl (kept_ok w18 (hst.ext e918) (by omega)) ?_
  rintro _ _ ⟨rfl, rfl⟩
  (repeat (first | (apply WL.pure; rfl; rfl; rfl) | (apply WL.fa; rfl; rfl; rfl) | (apply WL.ld; rfl; rfl; rfl; assumption; rfl)))
  refine WL.call rfl rfl rfl (keptU_ok w18 (hmu.ext e918) (by omega)) ?_
  rintro _ _ ⟨rfl, rfl⟩
  have hNx13 := hNx.ext e918
  obtain ⟨roNx, rcNx, eqNx, rawNx⟩ := hNx13.out.oldN.sl
  have hcf := containsFunc_raw w18 (fun _ => false) rawNx (fv := .func (.func 15) #[] #[]) (fun w hE i hi u hu => by
    obtain ⟨rfl, _⟩ := hu.raw
    have hig : i < W.2.1.length := by rw [← hNx.len]; exact hi
    have hle := len_edges W.2.1 i hig
    have hrm := (hNx13.inn i hi hig).ext hE
    exact (FnV.mk (cs := []) (wown1_ok w hrm (by omega))).mono fun v w' ⟨h1, h2⟩ => ⟨h1, h2 ▸ Ext.refl _⟩)
  rw [← eqNx] at hcf
  (repeat (first | (apply WL.pure; rfl; rfl; rfl) | (apply WL.fa; rfl; rfl; rfl) | (apply WL.ld; rfl; rfl; rfl; assumption; rfl)))
  refine WL.call rfl rfl rfl hcf ?_
  rintro _ w19 ⟨rfl, e19⟩
  rw [show (nxs.any fun _ => false) = false by simp]
  have e919 := e918.trans e19
  have hb519 := hb518.ext e19
  have hFr14 := hFr.ext e919
  obtain ⟨roFr, rcFr, eqFr, rawFr⟩ := hFr14.out.oldN.sl
  have hcf2 := containsFunc_raw w19 (fun _ => false) rawFr (fv := .func (.func 16) #[] #[]) (fun w hE i hi u hu => by
    obtain ⟨rfl, _⟩ := hu.raw
    have hig : i < W.2.2.2.length := by rw [← hFr.len]; exact hi
    have hle := len_edges W.2.2.2 i hig
    have hrm := (hFr14.inn i hi hig).ext hE
    exact (FnV.mk (cs := []) (wown2_ok w hrm (by omega))).mono fun v w' ⟨h1, h2⟩ => ⟨h1, h2 ▸ Ext.refl _⟩)
  rw [← eqFr] at hcf2
  (repeat (first | (apply WL.pure; rfl; rfl; rfl) | (apply WL.fa; rfl; rfl; rfl) | (apply WL.ld; rfl; rfl; rfl; assumption; rfl)))
  refine WL.call rfl rfl rfl hcf2 ?_
  rintro _ w20 ⟨rfl, e20⟩
  rw [show (fs.any fun _ => false) = false by simp]
  (repeat (first | (apply WL.pure; rfl; rfl; rfl) | (apply WL.nil) | (apply EX.thenN) | (apply CW.ret)))
  exact EX.ret1 rfl rfl ⟨rfl, hE9.trans (e919.trans e20)⟩
end Go.Proofs.Ytikigaeihdmcaaa

/-
  From the form's readings of the arguments to our own, and back: what a law's proof needs at its two ends.
-/
set_option linter.unusedVariables false
set_option linter.unusedSimpArgs false
namespace Go.Proofs.Ytikigaeihdmcaaa
open Go.RowKit Go.ChangeShapes Go.WideShapes Go.ChangeAt

theorem bulk_one {H : Type} (d : DataW H) : 1 ≤ Rows.uptoBulk d := by
  cases d with
  | lit l => cases l <;> simp [Rows.uptoBulk]
  | nil => simp [Rows.uptoBulk]
  | ptr d => simp [Rows.uptoBulk]
  | slice elems spare => simp [Rows.uptoBulk]
  | agg parts => simp [Rows.uptoBulk]
  | iface t d => simp [Rows.uptoBulk]
  | map entries => simp [Rows.uptoBulk]
  | held h => simp [Rows.uptoBulk]
theorem bulk_app {H : Type} (l r : List (DataW H)) : Rows.uptoBulkAll (l ++ r) = Rows.uptoBulkAll l + Rows.uptoBulkAll r := by
  induction l with
  | nil => simp [Rows.uptoBulkAll]
  | cons x l ih => simp only [List.cons_append, Rows.uptoBulkAll, ih]; omega

/-- the bound, as the form hands it over -/
theorem bound {H : Type} {l : List (DataW H)} (hk : Rows.uptoSmall H l = true) : Rows.uptoBulkAll l ≤ 1048576 := by
  simpa [Rows.uptoSmall] using hk
/-- how many values a value of ours holds -/
class Bk (α : Type) where
  bk : α → Nat
abbrev bk {α : Type} [Bk α] : α → Nat := Bk.bk
instance iOpen1 : Bk Int := ⟨fun _ => 1⟩
instance iOpen2 : Bk Bool := ⟨fun _ => 1⟩
instance iOpen3 : Bk Nat := ⟨fun _ => 1⟩
instance iOpen4 : Bk ByteArray := ⟨fun s => s.size + 1⟩
def bkL {α : Type} [Bk α] : List α → Nat
  | [] => 0
  | x :: r => bk x + bkL r
instance iOpen8 {α : Type} [Bk α] : Bk (List α) := ⟨fun l => bkL l + 1⟩

/-- what the form reads at a type, we read, too -/
class Opn (P : Program) (t : TypeId) (α : Type) [Rep α] [Bk α] : Prop where
  op : ∀ {H : Type} {enc : TypeId × Value → H} {w : World} {fuel : Nat} {cs : List Value} {d : DataW H} {ps : List MemPlace}, DataW.trod enc P w 0 (fun _ => true) true fuel t cs = some (d, ps) → ∃ x : α, rd w (Old w) cs x ∧ bk x ≤ Rows.uptoBulk d

theorem Opn.int {P : Program} {t : TypeId} (h : P.underlying t = some (.int .i64)) : Opn P t Int where
  op := by
    intro H enc w fuel cs d ps hd
    cases fuel with
    | zero => simp [DataW.trod] at hd
    | succ fuel =>
      unfold DataW.trod at hd
      rw [h] at hd
      split at hd <;> try (simp at *; done)
      rename_i k k' n e1
      simp at e1
      split at hd
      · rename_i hk
        simp at hd
        obtain ⟨rfl, rfl⟩ := hd
        exact ⟨n, by rw [hk.1, ← e1]; rfl, bulk_one _⟩
      · cases hd
theorem Opn.bool {P : Program} {t : TypeId} (h : P.underlying t = some .bool) : Opn P t Bool where
  op := by
    intro H enc w fuel cs d ps hd
    cases fuel with
    | zero => simp [DataW.trod] at hd
    | succ fuel =>
      unfold DataW.trod at hd
      rw [h] at hd
      split at hd <;> try (simp at *; done)
      rename_i b e1
      simp at hd
      obtain ⟨rfl, rfl⟩ := hd
      exact ⟨b, rfl, bulk_one _⟩
theorem Opn.u64 {P : Program} {t : TypeId} (h : P.underlying t = some (.int .u64)) : Opn P t Nat where
  op := by
    intro H enc w fuel cs d ps hd
    cases fuel with
    | zero => simp [DataW.trod] at hd
    | succ fuel =>
      unfold DataW.trod at hd
      rw [h] at hd
      split at hd <;> try (simp at *; done)
      rename_i k k' n e1
      simp at e1
      split at hd
      · rename_i hk
        simp at hd
        obtain ⟨rfl, rfl⟩ := hd
        have hwf := hk.2
        rw [← e1] at hwf
        have hb : 0 ≤ n ∧ n ≤ 18446744073709551615 := by simpa [Lit.wf, IntKind.min, IntKind.max, IntKind.signed, IntKind.bits] using hwf
        refine ⟨n.toNat, ⟨?_, by omega⟩, bulk_one _⟩
        rw [hk.1, ← e1, Int.toNat_of_nonneg hb.1]
      · cases hd
theorem Opn.string {P : Program} {t : TypeId} (h : P.underlying t = some .string) : Opn P t ByteArray where
  op := by
    intro H enc w fuel cs d ps hd
    cases fuel with
    | zero => simp [DataW.trod] at hd
    | succ fuel =>
      unfold DataW.trod at hd
      rw [h] at hd
      split at hd <;> try (simp at *; done)
      rename_i s e1
      split at hd
      · rename_i hk
        simp at hd
        obtain ⟨rfl, rfl⟩ := hd
        refine ⟨s, ⟨rfl, hk⟩, ?_⟩
        show s.size + 1 ≤ _
        simp only [Rows.uptoBulk]
        have e : s.data.toList.length = s.size := by rw [Array.length_toList]; rfl
        omega
      · cases hd

theorem mapM_range {β : Type} (f : Nat → Option β) : ∀ (n : Nat) (es : List β), (List.range n).mapM f = some es → es.length = n ∧ ∀ i (h : i < es.length), f i = some es[i]
  | 0, es, h => by
    simp at h; subst h
    exact ⟨rfl, fun i hi => absurd hi (by simp)⟩
  | n + 1, es, h => by
    rw [List.range_succ, List.mapM_append] at h
    simp only [List.mapM_cons, List.mapM_nil, Option.bind_eq_bind, Option.pure_def] at h
    cases h1 : (List.range n).mapM f with
    | none => rw [h1] at h; cases h
    | some l =>
      rw [h1] at h
      cases h2 : f n with
      | none => rw [h2] at h; cases h
      | some y =>
        rw [h2] at h
        simp at h
        subst h
        obtain ⟨hl, hi⟩ := mapM_range f n l h1
        refine ⟨by simp [hl], fun i hlt => ?_⟩
        by_cases hi' : i < l.length
        · rw [List.getElem_append_left hi']; exact hi i hi'
        · have : i = n := by simp at hlt; omega
          subst this
          rw [List.getElem_append_right (by omega)]
          simpa [hl] using h2
theorem mapM_cells {w : World} {a : Addr} {n : Nat} {cs : List Value} (h : w.cells? 0 a n = some cs) : cs.length = n ∧ ∀ j (hj : j < cs.length), w.cell? (a.add j) = some cs[j] := by
  unfold World.cells? at h
  rw [if_pos (Nat.zero_le _)] at h
  exact mapM_range _ n cs h

theorem slice_op {P : Program} {t e : TypeId} {α : Type} [Rep α] [Bk α] [hs : IsS P t e] [ht : IsT P e α] {H : Type} {enc : TypeId × Value → H} {w : World} {fuel : Nat}
    (ho : ∀ {cs : List Value} {d : DataW H} {ps : List MemPlace}, DataW.trod enc P w 0 (fun _ => true) true fuel e cs = some (d, ps) → ∃ x : α, rd w (Old w) cs x ∧ bk x ≤ Rows.uptoBulk d)
    {cs : List Value} {d : DataW H} {ps : List MemPlace} (hd : DataW.trod enc P w 0 (fun _ => true) true (fuel + 1) t cs = some (d, ps)) : ∃ x : List α, rd w (Old w) cs x ∧ bk x ≤ Rows.uptoBulk d := by
  unfold DataW.trod at hd
  rw [hs.ok] at hd
  obtain ⟨i0, hi1, hi2⟩ := IsT.info (P := P) (t := e) (α := α)
  have hsz : P.cellsOf e = sz α := by simp [Program.cellsOf, hi1, hi2]
  have hp : 0 < sz α := Rep.pos
  split at hd <;> try (simp at *; done)
  · simp at hd
    obtain ⟨rfl, rfl⟩ := hd
    exact ⟨[], ⟨none, 0, rfl, by simp, by simp [maxLen], fun _ => rfl, fun i hi => absurd hi (by simp)⟩, bulk_one _⟩
  · rename_i e' a len cap e1
    cases e1
    simp only at hd
    split at hd
    · rename_i hc
      obtain ⟨_, hle, hmx⟩ := hc
      rw [hsz] at hd
      cases hm : (List.range len).mapM (fun i => (w.cells? 0 (a.add (i * sz α)) (sz α)).bind (DataW.trod enc P w 0 (fun _ => true) true fuel e)) with
      | none => rw [hm] at hd; cases hd
      | some elems =>
        rw [hm] at hd
        simp only [Option.bind_some, if_true] at hd
        obtain ⟨rest, _, hd2⟩ := Option.map_eq_some_iff.1 hd
        simp only [Prod.mk.injEq] at hd2
        obtain ⟨rfl, _⟩ := hd2
        obtain ⟨hlen, hget⟩ := mapM_range _ len elems hm
        -- one element at a time
        have one : ∀ i (h : i < elems.length), ∃ x : α, (∃ b off, some a = some ⟨b, off, none⟩ ∧ Old w b ∧ ∃ es, Cells w b (off + i * sz α) es ∧ rd w (Old w) es x) ∧ bk x ≤ Rows.uptoBulk (elems[i]).1 := by
          intro i hi
          have h1 := hget i hi
          cases hcs : w.cells? 0 (a.add (i * sz α)) (sz α) with
          | none => rw [hcs] at h1; cases h1
          | some es =>
            rw [hcs] at h1
            simp only [Option.bind_some] at h1
            obtain ⟨x, hr, hb⟩ := ho (d := (elems[i]).1) (ps := (elems[i]).2) h1
            obtain ⟨hl, hc⟩ := mapM_cells hcs
            have h0 := hc 0 (by omega)
            have hspot : a.spot = none := by
              cases hsp : a.spot with
              | none => rfl
              | some k =>
                -- the first element's first cell lies at the address itself
                have h2 := hget 0 (by omega)
                cases hcs0 : w.cells? 0 (a.add (0 * sz α)) (sz α) with
                | none => rw [hcs0] at h2; cases h2
                | some es0 =>
                  obtain ⟨hl0, hc0⟩ := mapM_cells hcs0
                  have h3 := hc0 0 (by omega)
                  have e3 : (a.add (0 * sz α)).add 0 = a := by simp [Addr.add]
                  rw [e3] at h3
                  unfold World.cell? at h3
                  split at h3
                  · simp [hsp] at h3
                  · cases h3
            obtain ⟨b, off, sp⟩ := a
            simp only at hspot
            subst hspot
            rw [WideShapes.add_plain] at hc h0
            have hblt : b < w.heap.size := World.block_lt_of_cell? w _ h0
            refine ⟨x, ⟨b, off, rfl, hblt, es, ?_, hr⟩, hb⟩
            intro j u hu
            obtain ⟨hj, rfl⟩ := List.getElem?_eq_some_iff.1 hu
            have := hc j hj
            rwa [WideShapes.add_plain] at this
        have all : ∀ k, k ≤ elems.length → ∃ xs : List α, xs.length = k ∧ (∀ i (h : i < xs.length), ∃ b off, some a = some ⟨b, off, none⟩ ∧ Old w b ∧ ∃ es, Cells w b (off + i * sz α) es ∧ rd w (Old w) es xs[i]) ∧ bkL xs ≤ Rows.uptoBulkAll ((elems.map (·.1)).take k) := by
          intro k
          induction k with
          | zero => intro _; exact ⟨[], rfl, fun i hi => absurd hi (by simp), by simp [bkL, Rows.uptoBulkAll]⟩
          | succ k ih =>
            intro hk
            obtain ⟨xs, h1, h2, h3⟩ := ih (by omega)
            obtain ⟨x, h4, h5⟩ := one k (by omega)
            refine ⟨xs ++ [x], by simp [h1], ?_, ?_⟩
            · intro i hi
              by_cases hlt : i < xs.length
              · rw [List.getElem_append_left hlt]; exact h2 i hlt
              · have : i = k := by simp at hi; omega
                subst this
                rw [List.getElem_append_right (by omega)]
                simpa [h1] using h4
            · have hb : ∀ (l : List α), bkL (l ++ [x]) = bkL l + bk x := by
                intro l; induction l with
                | nil => simp [bkL]
                | cons y l ih => simp only [List.cons_append, bkL, ih]; omega
              rw [hb, List.take_succ_eq_append_getElem (by simp; omega), bulk_app]
              simp only [List.getElem_map, Rows.uptoBulkAll]
              omega
        obtain ⟨xs, h1, h2, h3⟩ := all elems.length (Nat.le_refl _)
        have hx : xs.length = len := by omega
        refine ⟨xs, ⟨some a, cap, by rw [hx], ⟨by omega, hmx, (fun h => by cases h), h2⟩⟩, ?_⟩
        show bkL xs + 1 ≤ _
        rw [List.take_of_length_le (by simp)] at h3
        simp only [Rows.uptoBulk]
        omega
    · cases hd

theorem Opn.slice {P : Program} {t e : TypeId} {α : Type} [Rep α] [Bk α] [hs : IsS P t e] [ht : IsT P e α] [ho : Opn P e α] : Opn P t (List α) where
  op := by
    intro H enc w fuel cs d ps hd
    cases fuel with
    | zero => simp [DataW.trod] at hd
    | succ fuel => exact slice_op (e := e) (fun h => ho.op h) hd

theorem okWide_form {P : Program} {w : World} {r : Reach} {base : Nat} {t : TypeId} {v : Value} {d : TypeDesc} (hu : P.underlying t = some d) (h : Value.okWide P w r base t v) :
    (aggD d = false → v.oneCell' = true) ∧ (aggD d = true → ∃ cs, v = .agg cs) := by
  unfold Value.okWide at h
  rw [hu] at h
  constructor
  · intro hd
    cases v <;> first
      | rfl
      | (exfalso; cases d <;> simp [aggD] at hd <;> simp [Cell.okWide, Cell.ok, hu] at h)
  · intro hd
    cases d <;> simp [aggD] at hd <;> (obtain ⟨cs, rfl, _⟩ := h; exact ⟨cs, rfl⟩)
/-- an argument, opened -/
theorem Opn.arg {P : Program} {t : TypeId} {α : Type} [Rep α] [Bk α] [ht : IsT P t α] [ho : Opn P t α] {H : Type} {enc : TypeId × Value → H} {w : World} {v : Value} {d : DataW H} {ps : List MemPlace} {r : Reach} {base : Nat}
    (hv : Value.okWide P w r base t v) (h : DataW.Trod enc P w 0 (fun _ => true) true t v d ps) : ∃ x : α, Rd w (Old w) v x ∧ bk x ≤ Rows.uptoBulk d := by
  obtain ⟨i, dd, _, _, h3, h4⟩ := ht.ok
  obtain ⟨f1, f2⟩ := okWide_form h3 hv
  obtain ⟨fuel, hf⟩ := h
  obtain ⟨x, hr, hb⟩ := ho.op hf
  refine ⟨x, ⟨v.cells.toList, ?_, hr⟩, hb⟩
  unfold vOf
  split
  · rename_i he
    obtain ⟨cs, rfl⟩ := f2 (h4.trans he)
    simp [Value.cells]
  · rename_i he
    have := f1 (h4.trans he)
    cases v <;> first | rfl | (simp [Value.oneCell'] at this)

theorem trodAll_below {H : Type} {enc : TypeId × Value → H} {P : Program} (hl : laidOutB P = true) {W W' : World} (hb : Ext W W') : ∀ {ts : List TypeId} {vs : List Value} {ds : List (DataW H)} {ps : List MemPlace},
    (∀ t ∈ ts, P.readableRec t = true ∧ t < P.types.size) → DataW.TrodAll enc P W 0 (fun _ => true) true ts vs ds ps → (∀ x ∈ ps, x.block < W.heap.size) →
    DataW.TrodAll enc P W' 0 (fun b => decide (b < W.heap.size)) true ts vs ds ps
  | [], [], [], _, _, h, _ => h
  | t :: ts, v :: vs, d :: ds, ps, hr, h, hlt => by
    obtain ⟨p, q, h1, h2, rfl⟩ := h
    exact ⟨p, q, Below.trod hl (hr t (by simp)).1 (hr t (by simp)).2 h1 hb (fun x hx => hlt x (by simp [hx])),
      trodAll_below hl hb (fun t ht => hr t (by simp [ht])) h2 (fun x hx => hlt x (by simp [hx])), rfl⟩
  | [], [], _ :: _, _, _, h, _ => h.elim
  | [], _ :: _, [], _, _, h, _ => h.elim
  | [], _ :: _, _ :: _, _, _, h, _ => h.elim
  | _ :: _, [], [], _, _, h, _ => h.elim
  | _ :: _, [], _ :: _, _, _, h, _ => h.elim
  | _ :: _, _ :: _, [], _, _, h, _ => h.elim

/-- the law's end: it returned true, and only new memory was made -/
theorem law_post {H : Type} {enc : TypeId × Value → H} {P : Program} {fn : Func} {s : ChangeSpec} {W W' : World} {args : Array Value} {ds gs : List (DataW H)} {before : List MemPlace} {tb : TypeId}
    (hl : laidOutB P = true) (hW : DataW.Whole enc P fn.params.toList s.vars false W args.toList ds gs before) (hv : s.vars = []) (hr : ∀ t ∈ fn.params.toList, P.readableRec t = true ∧ t < P.types.size)
    (hsp : (s.fn H (ds ++ gs)).results = [.lit (.bool true)] ∧ (s.fn H (ds ++ gs)).args = ds ∧ (s.fn H (ds ++ gs)).vars = []) (hres : fn.resultTypes = #[tb]) (hb : P.underlying tb = some .bool) (hE : Ext W W') :
    s.post enc P fn false true false false W args (.bool true) W' := by
  have hlt := hW.lt
  have hW' := hW
  obtain ⟨p, q, hA, hV, rfl, _, _⟩ := hW
  rw [hv] at hV
  obtain ⟨e1, e2, e3⟩ := hsp
  refine ⟨ds, gs, p ++ q, [], p, [], hW', ?_, ?_, ?_, hE.frame _, fun h => by cases h⟩
  · rw [e1, hres]
    exact trodAll_mk1 (shut_bool hb true)
  · rw [e2]
    exact trodAll_below hl hE hr hA (fun x hx => hlt x (by simp [hx]))
  · rw [e3, hv]
    exact rfl
/- structs -/
instance iOpen9 {α β : Type} [Bk α] [Bk β] : Bk (α × β) := ⟨fun x => bk x.1 + bk x.2⟩
/-- a list of fields, from an offset on -/
class OpnFs (P : Program) (fs : List (TypeId × Nat)) (off : Nat) (α : Type) [Rep α] [Bk α] : Prop where
  op : ∀ {H : Type} {enc : TypeId × Value → H} {w : World} {fuel : Nat} {cs : List Value} {xs : List (DataW H × List MemPlace)}, off + sz α = cs.length →
    (fs.mapM fun f => DataW.trod enc P w 0 (fun _ => true) true fuel f.1 ((cs.drop f.2).take (P.cellsOf f.1))) = some xs → ∃ x : α, rd w (Old w) (cs.drop off) x ∧ bk x ≤ Rows.uptoBulkAll (xs.map (·.1))
theorem cellsOf_T {P : Program} {t : TypeId} {α : Type} [Rep α] [ht : IsT P t α] : P.cellsOf t = sz α := by
  obtain ⟨i, h1, h2⟩ := IsT.info (P := P) (t := t) (α := α)
  simp [Program.cellsOf, h1, h2]
instance OpnFs.one {P : Program} {t : TypeId} {off : Nat} {α : Type} [Rep α] [Bk α] [ht : IsT P t α] [ho : Opn P t α] : OpnFs P [(t, off)] off α where
  op := by
    intro H enc w fuel cs xs hl h
    simp only [List.mapM_cons, List.mapM_nil, Option.bind_eq_bind, Option.pure_def] at h
    cases h1 : DataW.trod enc P w 0 (fun _ => true) true fuel t ((cs.drop off).take (P.cellsOf t)) with
    | none => rw [h1] at h; cases h
    | some d =>
      rw [h1] at h; simp at h; subst h
      obtain ⟨d, ps⟩ := d
      obtain ⟨x, hr, hb⟩ := ho.op h1
      rw [cellsOf_T (α := α), List.take_of_length_le (by rw [List.length_drop]; omega)] at hr
      exact ⟨x, hr, by simpa [Rows.uptoBulkAll] using hb⟩
instance OpnFs.cons {P : Program} {t : TypeId} {off : Nat} {f : TypeId × Nat} {fs : List (TypeId × Nat)} {α β : Type} [Rep α] [Bk α] [Rep β] [Bk β] [ht : IsT P t α] [ho : Opn P t α] [hr : OpnFs P (f :: fs) (off + sz α) β] : OpnFs P ((t, off) :: f :: fs) off (α × β) where
  op := by
    intro H enc w fuel cs xs hl h
    rw [List.mapM_cons] at h
    simp only [Option.bind_eq_bind, Option.pure_def] at h
    have hl' : off + sz α + sz β = cs.length := by
      have : sz (α × β) = sz α + sz β := rfl
      omega
    cases h1 : DataW.trod enc P w 0 (fun _ => true) true fuel t ((cs.drop off).take (P.cellsOf t)) with
    | none => rw [h1] at h; cases h
    | some d =>
      rw [h1] at h
      simp only [Option.bind_some] at h
      obtain ⟨ys, h2, h3⟩ := Option.bind_eq_some_iff.1 h
      cases h3
      obtain ⟨d, ps⟩ := d
      obtain ⟨x, hx, hb⟩ := ho.op h1
      obtain ⟨y, hy, hc⟩ := hr.op hl' h2
      rw [cellsOf_T (α := α)] at hx
      refine ⟨(x, y), ⟨(cs.drop off).take (sz α), cs.drop (off + sz α), ?_, hx, hy⟩, ?_⟩
      · rw [← List.drop_drop, List.take_append_drop]
      · show bk x + bk y ≤ _
        simp only [List.map_cons, Rows.uptoBulkAll]
        omega
def stFact (P : Program) (t : TypeId) : Option (List (TypeId × Nat)) := match P.underlying t with
  | some (.struct fs) => some (fs.toList.map fun f => (f.type, f.offset))
  | _ => none
theorem Opn.struct {P : Program} {t : TypeId} {fs : List (TypeId × Nat)} {α : Type} [Rep α] [Bk α] [ht : IsT P t α] [hf : OpnFs P fs 0 α] (h : stFact P t = some fs) : Opn P t α where
  op := by
    intro H enc w fuel cs d ps hd
    unfold stFact at h
    split at h
    · rename_i gs hu
      cases h
      cases fuel with
      | zero => simp [DataW.trod] at hd
      | succ fuel =>
        unfold DataW.trod at hd
        rw [hu] at hd
        simp only at hd
        split at hd
        · rename_i hl
          obtain ⟨xs, h1, h2⟩ := Option.map_eq_some_iff.1 hd
          cases h2
          have := hf.op (enc := enc) (w := w) (fuel := fuel) (cs := cs) (xs := xs) (by rw [hl, cellsOf_T (α := α)]; omega) (by rw [List.mapM_map]; exact h1)
          obtain ⟨x, hr, hb⟩ := this
          exact ⟨x, by simpa using hr, by simp only [Rows.uptoBulk]; omega⟩
        · cases hd
    · cases h
instance iOpen5 : Opn Try.prog 3 Int := Opn.int Try.underlying3
instance iOpen6 : Opn Try.prog 22 (List Int) := Opn.slice
instance iOpen7 : Opn Try.prog 23 (List (List Int)) := Opn.slice
end Go.Proofs.Ytikigaeihdmcaaa

/-
  The types of the arguments, as the form reads them.
-/
set_option linter.unusedVariables false
namespace Go.Proofs.Ytikigaeihdmcaaa
open Go.RowKit

instance iOpn1 : Opn Try.prog 4 Bool := Opn.bool Try.underlying4
instance iOpn2 : Opn Try.prog 33 Nat := Opn.u64 Try.underlying33
instance iOpn3 : Opn Try.prog 9 ByteArray := Opn.string Try.underlying9
instance iOpn4 : Opn Try.prog 35 Int := Opn.int Try.underlying35
instance iOpn5 : Opn Try.prog 34 (List Bool) := Opn.slice
instance iOpn6 : Opn Try.prog 24 (List Nat) := Opn.slice
instance iOpn19 : Opn Try.prog 39 (List Int × List Int) := Opn.struct (fs := [(22, 0), (22, 1)]) (by kernel_rfl)
instance iOpn22 : Opn Try.prog 26 (List Int × List (List Int) × List Nat × List (List Int)) := Opn.struct (fs := [(22, 0), (23, 1), (24, 2), (23, 3)]) (by kernel_rfl)
end Go.Proofs.Ytikigaeihdmcaaa

/-
  Formulas as arguments.
-/
set_option linter.unusedVariables false
set_option linter.unusedSimpArgs false
namespace Go.Proofs.Ytikigaeihdmcaaa
open Go.RowKit

instance iOpnLtl1 : Bk Ltl := ⟨Ltl.nodes⟩
theorem len3 {cs : List Value} (h : cs.length = 3) : ∃ c0 c1 c2, cs = [c0, c1, c2] := by
  match cs, h with
  | [a, b, c], _ => exact ⟨a, b, c, rfl⟩
end Go.Proofs.Ytikigaeihdmcaaa

/-
  Formulas of all ways as arguments.
-/
set_option linter.unusedVariables false
set_option linter.unusedSimpArgs false
namespace Go.Proofs.Ytikigaeihdmcaaa
open Go.RowKit

theorem ctl_op {H : Type} {enc : TypeId × Value → H} {w : World} : ∀ (fuel : Nat) {cs : List Value} {d : DataW H} {ps : List MemPlace}, DataW.trod enc Try.prog w 0 (fun _ => true) true fuel 29 cs = some (d, ps) → ∃ x : Ltl, rd w (Old w) cs x ∧ bk x ≤ Rows.uptoBulk d := by
  intro fuel
  induction fuel using Nat.strongRecOn with
  | _ fuel ih =>
    intro cs d ps hd
    have hst : stFact Try.prog 29 = some [(3, 0), (3, 1), (27, 2)] := by kernel_rfl
    unfold stFact at hst
    split at hst
    · rename_i gs hu
      have hst := Option.some.inj hst
      cases fuel with
      | zero => simp [DataW.trod] at hd
      | succ fuel =>
        unfold DataW.trod at hd
        rw [hu] at hd
        simp only at hd
        split at hd
        · rename_i hl
          obtain ⟨xs, h1, h2⟩ := Option.map_eq_some_iff.1 hd
          cases h2
          have h3 : (List.map (fun f : Field => (f.type, f.offset)) gs.toList).mapM (fun f : TypeId × Nat => DataW.trod enc Try.prog w 0 (fun _ => true) true fuel f.1 ((cs.drop f.2).take (Try.prog.cellsOf f.1))) = some xs := by rw [List.mapM_map]; exact h1
          rw [hst] at h3
          rw [cellsOf_T (α := Ltl)] at hl
          have hl3 : cs.length = 3 := hl
          simp only [List.mapM_cons, List.mapM_nil, Option.bind_eq_bind, Option.pure_def] at h3
          obtain ⟨x1, e1, h3⟩ := Option.bind_eq_some_iff.1 h3
          obtain ⟨y1, h3, hy1⟩ := Option.bind_eq_some_iff.1 h3
          obtain ⟨x2, e2, h3⟩ := Option.bind_eq_some_iff.1 h3
          obtain ⟨y2, h3, hy2⟩ := Option.bind_eq_some_iff.1 h3
          obtain ⟨x3, e3, h3⟩ := Option.bind_eq_some_iff.1 h3
          simp at h3 hy2 hy1
          subst h3 hy2 hy1
          obtain ⟨d1, p1⟩ := x1
          obtain ⟨d2, p2⟩ := x2
          obtain ⟨d3, p3⟩ := x3
          rw [cellsOf_T (α := Int)] at e1 e2
          rw [cellsOf_T (α := List Ltl)] at e3
          obtain ⟨k, hk, bk1⟩ := Opn.op (P := Try.prog) (t := 3) (α := Int) e1
          obtain ⟨n, hn, bk2⟩ := Opn.op (P := Try.prog) (t := 3) (α := Int) e2
          cases fuel with
          | zero => simp [DataW.trod] at e3
          | succ fuel =>
            obtain ⟨kids, hkids, bk3⟩ := slice_op (α := Ltl) (e := 29) (fun h => ih fuel (by omega) h) e3
            obtain ⟨ao, cap, hc, hs⟩ := rd_sl hkids
            have hk' := rd_int hk
            have hn' := rd_int hn
            refine ⟨.mk k n kids, ?_, ?_⟩
            · clear hu hst h1 e1 e2 e3 ih bk1 bk2 bk3
              obtain ⟨c0, c1, c2, rfl⟩ := len3 hl3
              have a0 : [c0] = [.int .i64 k] := hk'
              have a1 : [c1] = [.int .i64 n] := hn'
              have a2 : [c2] = [.slice ao kids.length cap] := hc
              rw [List.cons.inj a0 |>.1, List.cons.inj a1 |>.1, List.cons.inj a2 |>.1]
              exact RdT.of hs
            · have hnl : ∀ l : List Ltl, bkL l = Ltl.nodesL l := by
                intro l
                induction l with
                | nil => rfl
                | cons x r ihl => simp only [bkL, Ltl.nodesL, ihl]; rfl
              have e3' : bk kids = bkL kids + 1 := rfl
              have e4 : bk (Ltl.mk k n kids) = 1 + Ltl.nodesL kids := by show Ltl.nodes _ = _; simp [Ltl.nodes]
              rw [e4, ← hnl]
              simp only [List.map_cons, List.map_nil, Rows.uptoBulk, Rows.uptoBulkAll]
              omega
        · cases hd
    · cases hst
instance iOpnCtl2 : Opn Try.prog 29 Ltl where
  op := fun h => ctl_op _ h
end Go.Proofs.Ytikigaeihdmcaaa

/-
  Bulk of lists of numbers.
-/
namespace Go.Proofs.Ytikigaeihdmcaaa
open Go.RowKit

theorem bulk_flat {α : Type} [Bk α] (h : ∀ x : α, bk x = 1) : ∀ l : List α, bkL l = l.length
  | [] => rfl
  | x :: r => by simp only [bkL, h, bulk_flat h r, List.length_cons]; omega
theorem bulk_l (l : List Int) : l.length + 1 = bk l := by show _ = bkL l + 1; rw [bulk_flat (fun _ => rfl)]
theorem bulk_n (l : List Nat) : l.length + 1 = bk l := by show _ = bkL l + 1; rw [bulk_flat (fun _ => rfl)]
theorem bulk_g : ∀ g : List (List Int), edges g + g.length ≤ bkL g
  | [] => by simp [edges, bkL]
  | l :: g => by
    have h1 := bulk_g g
    have h3 : bk l = l.length + 1 := (bulk_l l).symm
    simp only [bkL, h3, edges, List.map_cons, List.sum_cons, List.length_cons] at h1 ⊢
    omega
theorem bulk_gg (g : List (List Int)) : edges g + g.length + 1 ≤ bk g := by
  have := bulk_g g
  show _ ≤ bkL g + 1
  omega
end Go.Proofs.Ytikigaeihdmcaaa

