import Derived.DeepKeys4
import Derived.Maps.Keyed
import Derived.Test.YtllpfgcngokhnaaGreatPtLabelWords8
/-
  Package auto: reached, round.
-/
set_option linter.unusedVariables false
set_option linter.unusedSimpArgs false
namespace Go.Proofs.YtllpfgcngokhnaaGreat
open Go.RowKit

def nzB (num : List Int) : List Bool := num.map fun x => decide (x ≠ 0)
structure NInv (g : Graph) (f num li todo : List Int) : Prop where
  ln : num.length = g.length
  nd : li.Nodup
  ok : okL g.length li
  val : ∀ k : Nat, k < g.length → num.getD k 0 = if (k : Int) ∈ li then (li.idxOf (k : Int) : Int) + 1 else 0
  rv : RInv g f (nzB num) todo
section
variable {g : Graph} {f num li todo : List Int}
theorem nzB_get {k : Nat} (h : k < num.length) : (nzB num).getD k false = decide (num.getD k 0 ≠ 0) := by
  unfold nzB
  rw [List.getD_eq_getElem?_getD, List.getD_eq_getElem?_getD, List.getElem?_map, List.getElem?_eq_getElem h]; rfl
theorem nzB_set {k : Nat} {v : Int} (hv : v ≠ 0) : nzB (num.set k v) = (nzB num).set k true := by
  unfold nzB; rw [List.map_set, decide_eq_true hv]
theorem NInv.start (hf : okL g.length f) : NInv g f (List.replicate g.length 0) [] f := by
  refine ⟨by simp, List.nodup_nil, (fun x hx => by cases hx), fun k hk => ?_, ?_⟩
  · rw [if_neg (by simp), List.getD_eq_getElem?_getD, List.getElem?_replicate, if_pos hk]; rfl
  · have : nzB (List.replicate g.length (0 : Int)) = List.replicate g.length false := by simp [nzB]
    rw [this]; exact RInv.start hf
theorem NInv.pass {x : Int} (h : NInv g f num li (todo ++ [x])) (hx : num.getD x.toNat 0 ≠ 0) : NInv g f num li todo := by
  have hxo := h.rv.ok x (by simp)
  refine ⟨h.ln, h.nd, h.ok, h.val, RInv.pass h.rv ?_⟩
  rw [nzB_get (by rw [h.ln]; omega)]
  simpa using hx
theorem NInv.mark {x : Int} (hg : okG g) (h : NInv g f num li (todo ++ [x])) (hx : num.getD x.toNat 0 = 0) : NInv g f (num.set x.toNat ((li.length : Int) + 1)) (li ++ [x]) (todo ++ g.getD x.toNat []) := by
  have hxo := h.rv.ok x (by simp)
  have hxn : ((x.toNat : Nat) : Int) = x := by omega
  have hxl : x.toNat < g.length := by omega
  have hni : x ∉ li := by
    intro hm
    have := h.val x.toNat hxl
    rw [hxn, if_pos hm, hx] at this
    omega
  refine ⟨by simpa using h.ln, ?_, ?_, fun k hk => ?_, ?_⟩
  · rw [List.nodup_append]
    refine ⟨h.nd, by simp, fun a ha b hb e => ?_⟩
    rw [List.mem_singleton] at hb; subst hb; subst e; exact hni ha
  · intro y hy
    rcases List.mem_append.1 hy with h1 | h1
    · exact h.ok y h1
    · rw [List.mem_singleton] at h1; subst h1; exact hxo
  · rw [getD_setI (by rw [h.ln]; exact hxl)]
    by_cases e : x.toNat = k
    · subst e
      rw [if_pos rfl, hxn, if_pos (by simp), List.idxOf_append, if_neg hni]
      simp
    · rw [if_neg e, h.val k hk]
      have hne : ¬ (k : Int) = x := by omega
      have hiff : ((k : Int) ∈ li ++ [x]) ↔ (k : Int) ∈ li := by
        rw [List.mem_append, List.mem_singleton]; exact ⟨fun h => h.resolve_right hne, .inl⟩
      by_cases hm : (k : Int) ∈ li
      · rw [if_pos hm, if_pos (hiff.2 hm), List.idxOf_append, if_pos hm]
      · rw [if_neg hm, if_neg (fun h => hm (hiff.1 h))]
  · rw [nzB_set (by omega)]; exact RInv.mark hg h.rv
theorem NInv.done (h : NInv g f num li []) (hg : okG g) (hf : okL g.length f) (x : Nat) : (x : Int) ∈ li ↔ Rch g f x := by
  have hr := h.rv.done
  constructor
  · intro hm
    have hx := h.ok _ hm
    have hxl : x < g.length := by omega
    have h1 : (nzB num).getD x false = true := by
      rw [nzB_get (by rw [h.ln]; exact hxl), h.val x hxl, if_pos hm]
      simp; omega
    exact h.rv.sound x h1
  · intro hm
    have hxl : x < g.length := by
      cases hm with
      | base hx => have := hf _ hx; omega
      | step _ hx => have := okG_row hg _ _ hx; omega
    have h1 : (rchB g f).getD x false = true := by
      rw [List.getD_eq_getElem?_getD, rchB_get hxl]; simp [hm]
    rw [← hr, nzB_get (by rw [h.ln]; exact hxl), h.val x hxl] at h1
    apply Classical.byContradiction
    intro hn
    rw [if_neg hn] at h1
    simp at h1
end
end Go.Proofs.YtllpfgcngokhnaaGreat

/-
  slices.Index and slices.Contains at []bool.
-/
set_option linter.unusedVariables false
namespace Go.Proofs.YtllpfgcngokhnaaGreat
open Go.RowKit
theorem index_bool (w0 : World) {ao : Option Addr} {cap : Nat} {xs : List Bool} (x : Bool) (hs : Sl w0 (Old w0) ao cap xs) :
    Rt Tryz.prog 80 [.slice ao xs.length cap, .bool x].toArray w0 fun v w' => v = .int .i64 (idxOf (fun y => x == y) xs) ∧ Ext w0 w' := by
  have hm := hs.len63
  refine Rt.enter2 Tryz.func80 Tryz.ntmps80 rfl rfl ?_
  (repeat (first | (apply WL.pure; rfl; rfl; rfl) | (apply WL.nil) | (apply EX.thenN) | (apply CW.seq) | (apply CW.region) | (apply WL.lenS; rfl; rfl; rfl) | (apply CW.block)))
  refine CW.loop (S := Nat) (fun k => [(0, .slice ao xs.length cap), (1, .bool x), (7, .int .i64 xs.length), (8, .int .i64 k)])
    (fun k w => k ≤ xs.length ∧ Ext w0 w ∧ ∀ j (h : j < xs.length), j < k → (x == xs[j]) = false) (fun k => xs.length - k) 0 (by repeat (first | exact trivial | refine ⟨rfl, ?_⟩)) ⟨by omega, Ext.refl _, by omega⟩ ?_
  rintro k w ⟨hk, hB, hn⟩
  (repeat (first | (apply WL.pure; rfl; rfl; rfl) | (apply WL.nil) | (apply EX.thenN) | (apply CW.seq) | (apply CW.region)))
  refine CW.cond rfl (fun h => ?_) (fun h => ?_)
  · simp at h
    (repeat (first | (apply WL.pure; rfl; rfl; rfl) | (apply WL.nil) | (apply EX.thenN) | (apply CW.seq) | (apply CW.region) | (apply CW.block) | (apply CW.skip)))
    refine WL.elemB rfl rfl rfl rfl rfl (hs.at hB) h rfl (fun _ => rfl) (fun q => ?_)
    (repeat (first | (apply WL.nil) | (apply EX.thenN) | (apply WL.eqB; rfl; rfl; rfl; rfl)))
    refine CW.cond rfl (fun h' => ?_) (fun h' => ?_)
    · (repeat (first | (apply WL.pure; rfl; rfl; rfl) | (apply WL.nil) | (apply EX.thenN) | (apply CW.seq) | (apply CW.region) | (apply CW.ret) | (apply EX.thenR) | (apply EX.inR)))
      refine EX.ret1 rfl rfl ⟨?_, hB⟩
      rw [idxOf_here h hn h']
    · (repeat (first | (apply WL.add; rfl; rfl; rfl; rfl; omega; omega) | (apply WL.pure; rfl; rfl; rfl) | (apply WL.nil) | (apply EX.thenN) | (apply CW.region) | (apply EX.inN) | (apply CW.skip)))
      refine EX.back (k + 1) (by repeat (first | exact trivial | refine ⟨rfl, ?_⟩)) ⟨h, hB, ?_⟩ (by omega)
      intro j hj hlt
      by_cases e : j = k
      · subst e; exact h'
      · exact hn j hj (by omega)
  · simp at h
    (repeat (first | (apply WL.pure; rfl; rfl; rfl) | (apply WL.nil) | (apply EX.thenN) | (apply CW.seq) | (apply CW.region) | (apply CW.exit) | (apply EX.thenX) | (apply EX.inX) | (apply CW.ret)))
    refine EX.ret1 rfl rfl ⟨?_, hB⟩
    rw [idxOf_none (fun j hj => hn j hj (by omega))]
end Go.Proofs.YtllpfgcngokhnaaGreat

/-
  lasso.turns, least, Same: walked.
-/
set_option linter.unusedVariables false
set_option linter.unusedSimpArgs false
namespace Go.Proofs.YtllpfgcngokhnaaGreat
open Go.RowKit

end Go.Proofs.YtllpfgcngokhnaaGreat

/-
  lasso.Least walked.
-/
set_option linter.unusedVariables false
set_option linter.unusedSimpArgs false
namespace Go.Proofs.YtllpfgcngokhnaaGreat
open Go.RowKit

end Go.Proofs.YtllpfgcngokhnaaGreat

/-
  Package auto: round, accepts, Accepts.
-/
set_option linter.unusedVariables false
set_option linter.unusedSimpArgs false
namespace Go.Proofs.YtllpfgcngokhnaaGreat
open Go.RowKit

theorem getB_at {l : List Bool} {j : Nat} (h : j < l.length) : l.getD j false = l[j] := by rw [List.getD_eq_getElem?_getD, List.getElem?_eq_getElem h]; rfl
end Go.Proofs.YtllpfgcngokhnaaGreat

/-
  An element that is read in a drawn region when nothing else may come.
-/
set_option linter.unusedVariables false
set_option linter.unusedSimpArgs false
namespace Go.Proofs.YtllpfgcngokhnaaGreat
open Go.RowKit
section
variable {P : Program} {Q : Exit → Act → World → Prop} {n : Nat} {σ : Sg} {wc : World} {L : List Oper} {S : World → Prop} {rest : List (Nat × Bool)} {i j d d' : Nat} {ty : TypeId} {pos : String} {af : Array Edge} {g : Option (Nat × Bool)} {ty' : TypeId} {pos' : String} {af' : Array Edge} {g' : Option (Nat × Bool)} {t e : TypeId} {x ix : Operand}
variable {α : Type} [Rep α] {F : Nat → Prop}
end
end Go.Proofs.YtllpfgcngokhnaaGreat

/-
  Package auto: accepts, Accepts.
-/
set_option linter.unusedVariables false
set_option linter.unusedSimpArgs false
namespace Go.Proofs.YtllpfgcngokhnaaGreat
open Go.RowKit

open Classical in
noncomputable def accB (A : LAuto) (L : Nat → Nat) : Bool := decide (Acc A.1 A.2.1 A.2.2.1 A.2.2.2.1 A.2.2.2.2 L)
end Go.Proofs.YtllpfgcngokhnaaGreat

/-
  The least form of a word fits.
-/
set_option linter.unusedVariables false
set_option linter.unusedSimpArgs false
namespace Go.Proofs.YtllpfgcngokhnaaGreat
open Go.RowKit

end Go.Proofs.YtllpfgcngokhnaaGreat

/-
  Package auto: Accepts.
-/
set_option linter.unusedVariables false
set_option linter.unusedSimpArgs false
namespace Go.Proofs.YtllpfgcngokhnaaGreat
open Go.RowKit

end Go.Proofs.YtllpfgcngokhnaaGreat

/-
  Literals all of whose blocks are new.
-/
set_option linter.unusedVariables false
set_option linter.unusedSimpArgs false
namespace Go.Proofs.YtllpfgcngokhnaaGreat
open Go.RowKit

/-- the blocks from c on -/
def From (c : Nat) (w : World) : Nat → Prop := fun b => c ≤ b ∧ b < w.heap.size
theorem Rd.upF {α : Type} [Rep α] {w w' : World} {c : Nat} {v : Value} {x : α} (h : Rd w (From c w) v x) (hE : Ext w w') : Rd w' (From c w') v x := h.mono (fun b hb => hE.block b hb.2) fun b hb => ⟨hb.1, Nat.lt_of_lt_of_le hb.2 hE.size⟩
section
variable {P : Program} {Q : Exit → Act → World → Prop} {n : Nat} {σ : Sg} {w : World} {L rest : List Oper} {d : Nat} {ty : TypeId} {pos : String} {af : Array Edge} {g : Option (Nat × Bool)}
variable {α : Type} [Rep α] {e t : TypeId} {x0 : α} {bytes : Nat}
theorem WL.litF (c : Nat) (hc : c ≤ w.heap.size) {len : Nat} {parts : List (Nat × Operand)} {vs : List Value} (ys : List α) (hg : gd L σ ⟨some d, .buildSlice t len parts.toArray, ty, pos, af, g⟩ = some true) (hd : Nat.ble (d + 1) n = true)
    (hp : idxL 0 (sndL parts) = parts) (hv : evs σ (sndL parts) = some vs) [hs : IsS P t e] [ht : IsT P e α] [hz : IsZ P e x0 bytes] (hlen : len = ys.length) (hr : RdAll w (From c w) vs ys) (hsz : ys.length * sz α ≤ 16777216)
    (h : ∀ v w', Ext w w' → Rd w' (From c w') v ys → WL P L Q rest n ((d, v) :: σ) w') :
    WL P L Q (⟨some d, .buildSlice t len parts.toArray, ty, pos, af, g⟩ :: rest) n σ w :=
  WL.lit hg hd hp hv hlen hr hsz (fun b h => h.2) fun w' ho hgr => by
    have hE : Ext w w' := (Below.refl _ _).grown hgr (Nat.le_refl _) (fun k h => by cases h)
    refine h _ w' hE (ho.rd.mono (fun _ _ => rfl) fun b hb => ?_)
    rcases hb with hb | hb
    · exact ⟨hb.1, Nat.lt_of_lt_of_le hb.2 hE.size⟩
    · have := ho.lt b hb; exact ⟨by omega, this.2.1⟩
end
end Go.Proofs.YtllpfgcngokhnaaGreat

/-
  watchkeep.ones, ever; slices.Clone at [][]int.
-/
set_option linter.unusedVariables false
set_option linter.unusedSimpArgs false
namespace Go.Proofs.YtllpfgcngokhnaaGreat
open Go.RowKit

end Go.Proofs.YtllpfgcngokhnaaGreat

/-
  Accepts, by its error and its answer.
-/
set_option linter.unusedVariables false
set_option linter.unusedSimpArgs false
namespace Go.Proofs.YtllpfgcngokhnaaGreat
open Go.RowKit

theorem AutoAt.up {w w' : World} {v : Value} {A : LAuto} (h : AutoAt w (Old w) v A) (hE : Ext w w') : AutoAt w' (Old w') v A := by
  obtain ⟨a1, c1, a2, c2, a3, c3, a4, c4, a5, c5, hv, h1, h2, h3, h4, h5⟩ := h.ok
  exact ⟨a1, c1, a2, c2, a3, c3, a4, c4, a5, c5, hv, h1.up hE, h2.up hE, h3.up hE, h4.up hE, h5.up hE⟩
theorem okA_pos {A : LAuto} (h : OkA A) : PosA A := ⟨fun x hx => (h.st x hx).1, fun k x hx => (okG_row h.nx k x hx).1⟩
end Go.Proofs.YtllpfgcngokhnaaGreat

/-
  What Find tells, against fair ways that are accepted. Plain lists.
-/
set_option linter.unusedVariables false
set_option linter.unusedSimpArgs false
namespace Go.Proofs.YtllpfgcngokhnaaGreat

def fitW (W : LWorld) (A : LAuto2) (p : Pr2) : Bool := fitB A.2.2.1 A.2.2.2.1 p.2.toNat (W.2.2.1.getD p.1.toNat 0)
def nextE (W : LWorld) (A : LAuto2) (p : Pr2) : List Pr2 := pairsX (W.2.1.getD p.1.toNat []) (A.2.1.getD p.2.toNat [])
def startE (W : LWorld) (A : LAuto2) : List Pr2 := pairsX W.1 A.1
def ssE (W : LWorld) (A : LAuto2) : List (Pr2 → Bool) := W.2.2.2.map (fun F p => decide (p.1 ∈ F)) ++ A.2.2.2.2.map (fun F p => decide (p.2 ∈ F))
def EWay (W : LWorld) (A : LAuto2) : Prop := ∃ r, PWay (fitW W A) (nextE W A) (startE W A) (ssE W A) r
structure WWay (W : LWorld) (r : Nat → Nat) : Prop where
  first : (r 0 : Int) ∈ W.1
  step : ∀ i, (r (i + 1) : Int) ∈ W.2.1.getD (r i) []
  fair : ∀ F ∈ W.2.2.2, ∀ i, ∃ j, i ≤ j ∧ (r j : Int) ∈ F
/-- states are numbers -/
def PosW (W : LWorld) : Prop := (∀ x ∈ W.1, 0 ≤ x) ∧ ∀ k, ∀ x ∈ W.2.1.getD k [], 0 ≤ x
abbrev chkE (W : LWorld) : Int := chkWd W.1 W.2.1 W.2.2.1.length W.2.2.2
section
variable {W : LWorld} {A : LAuto2} {s l : List Int}
theorem okL_getD {n k : Nat} {g : List (List Int)} (h : ∀ r ∈ g, okL n r) : okL n (g.getD k []) := by
  by_cases e : k < g.length
  · rw [List.getD_eq_getElem?_getD, List.getElem?_eq_getElem e]; exact h _ (List.getElem_mem e)
  · rw [List.getD_eq_getElem?_getD, List.getElem?_eq_none (by omega)]; exact fun x hx => by cases hx
theorem chkE_pos (h : chkE W = 0) : PosW W := by
  obtain ⟨_, _, _, h1, h2, _⟩ := chkWd_ok h
  exact ⟨fun x hx => (h1 x hx).1, fun k x hx => (okL_getD (fun r hr => (h2 r hr).2) x hx).1⟩
theorem okA_pos2 (h : OkA A) : PosA A := okA_pos h
theorem eway_run (hW : PosW W) (hA : PosA A) {r : Nat → Pr2} (h : PWay (fitW W A) (nextE W A) (startE W A) (ssE W A) r) :
    WWay W (fun i => (r i).1.toNat) ∧ AccA A (fun i => W.2.2.1.getD (r i).1.toNat 0) := by
  have h0 := pairsX_mem.1 h.first
  have hs : ∀ i, (r (i + 1)).1 ∈ W.2.1.getD (r i).1.toNat [] ∧ (r (i + 1)).2 ∈ A.2.1.getD (r i).2.toNat [] := fun i => pairsX_mem.1 (h.step i)
  have hp : ∀ i, 0 ≤ (r i).1 ∧ 0 ≤ (r i).2 := fun i => by
    cases i with
    | zero => exact ⟨hW.1 _ h0.1, hA.1 _ h0.2⟩
    | succ i => exact ⟨hW.2 _ _ (hs i).1, hA.2 _ _ (hs i).2⟩
  have e1 : ∀ i, (((r i).1.toNat : Nat) : Int) = (r i).1 := fun i => Int.toNat_of_nonneg (hp i).1
  have e2 : ∀ i, (((r i).2.toNat : Nat) : Int) = (r i).2 := fun i => Int.toNat_of_nonneg (hp i).2
  refine ⟨⟨by rw [e1]; exact h0.1, fun i => by rw [e1]; exact (hs i).1, fun F hF i => ?_⟩, fun i => (r i).2.toNat, ⟨by rw [e2]; exact h0.2, fun i => h.fits i, fun i => by rw [e2]; exact (hs i).2, fun F hF i => ?_⟩⟩
  · obtain ⟨j, h1, h2⟩ := h.fair _ (List.mem_append_left _ (List.mem_map.2 ⟨F, hF, rfl⟩)) i
    exact ⟨j, h1, by rw [e1]; exact of_decide_eq_true h2⟩
  · obtain ⟨j, h1, h2⟩ := h.fair _ (List.mem_append_right _ (List.mem_map.2 ⟨F, hF, rfl⟩)) i
    exact ⟨j, h1, by rw [e2]; exact of_decide_eq_true h2⟩
theorem eway_of {ρ : Nat → Nat} (hw : WWay W ρ) (ha : AccA A (fun i => W.2.2.1.getD (ρ i) 0)) : EWay W A := by
  obtain ⟨q, hq⟩ := ha
  refine ⟨fun i => ((ρ i : Int), (q i : Int)), pairsX_mem.2 ⟨hw.first, hq.first⟩, fun i => ?_, fun i => pairsX_mem.2 ⟨?_, ?_⟩, fun S hS i => ?_⟩
  · exact hq.fits i
  · exact hw.step i
  · exact hq.step i
  · rcases List.mem_append.1 hS with h | h
    · obtain ⟨F, hF, rfl⟩ := List.mem_map.1 h
      obtain ⟨j, h1, h2⟩ := hw.fair F hF i
      exact ⟨j, h1, decide_eq_true h2⟩
    · obtain ⟨F, hF, rfl⟩ := List.mem_map.1 h
      obtain ⟨j, h1, h2⟩ := hq.fair F hF i
      exact ⟨j, h1, decide_eq_true h2⟩
theorem lat_map {f : Nat → Nat} {s l : List Nat} (h0 : 0 < l.length) (i : Nat) : lat (s.map f) (l.map f) i = f (lat s l i) := by
  unfold lat
  rw [List.length_map, List.length_map]
  by_cases h : i < s.length
  · rw [if_pos h, if_pos h, List.getD_eq_getElem?_getD, List.getElem?_map, List.getElem?_eq_getElem h, List.getD_eq_getElem?_getD, List.getElem?_eq_getElem h]; rfl
  · have hm := Nat.mod_lt (i - s.length) h0
    rw [if_neg h, if_neg h, List.getD_eq_getElem?_getD, List.getElem?_map, List.getElem?_eq_getElem hm, List.getD_eq_getElem?_getD, List.getElem?_eq_getElem hm]; rfl
theorem labL_nat {n : Nat} {lb : List Nat} {l : List Int} (h : okL n l) : labL lb l = (l.map Int.toNat).map fun x => lb.getD x 0 := by
  unfold labL
  rw [List.map_map]; rfl
/-- the loop is met again and again -/
theorem lat_again {s l : List Nat} {k : Nat} (hk : k < l.length) (i : Nat) : ∃ j, i ≤ j ∧ lat s l j = l.getD k 0 := by
  refine ⟨s.length + (k + i * l.length), ?_, ?_⟩
  · have : i * 1 ≤ i * l.length := Nat.mul_le_mul_left i (by omega)
    omega
  · unfold lat
    rw [if_neg (by omega), Nat.add_sub_cancel_left, Nat.add_mul_mod_self_right, Nat.mod_eq_of_lt hk]
/-- what is found -/
structure PathE (W : LWorld) (A : LAuto2) (s l : List Int) : Prop where
  so : okL W.2.1.length s
  lo : okL W.2.1.length l
  l0 : 0 < l.length
  good : goodB W.1 W.2.1 W.2.2.2 (s ++ l) l = true
  acc : AccA A (lat (labL W.2.2.1 s) (labL W.2.2.1 l))
end
def stE (ps : List Pr2) (l : List Int) : List Int := l.map fun n => (ps.getD n.toNat (0, 0)).1
section
variable {W : LWorld} {A : LAuto2} {ps : List Pr2} {fr : List Int} {g : List (List Int)} {part : List Int}
/-- the path that is found -/
theorem path_found (h : RunE (fitW W A) (nextE W A) (startE W A) ps fr g) (hl : g.length = ps.length) (hin : ∀ p ∈ ps, (0 ≤ p.1 ∧ p.1 < (W.2.1.length : Int)) ∧ 0 ≤ p.2 ∧ p.2 < (A.2.1.length : Int)) (hW : PosW W) (hA : PosA A)
    {st lo : List Int} {to al : Nat → Bool} (hs : WyOK g fr to al st) (hr : RoOK g (st.getD (st.length - 1) 0).toNat (setsL (ssE W A) ps) lo) : PathE W A (stE ps (st.take (st.length - 1))) (stE ps lo) := by
  have hs0 := hs.ne
  have hr0 := hr.ne
  have hg := h.okG hl
  have oks : okL g.length (st.take (st.length - 1)) := fun x hx => hs.rg x (List.mem_of_mem_take hx)
  have hst : ∀ {l : List Int}, okL g.length l → okL W.2.1.length (stE ps l) := fun {l} hk x hx => by
    obtain ⟨n, hn, rfl⟩ := List.mem_map.1 hx
    have := hk n hn
    exact (hin _ (getDP_mem (by omega))).1
  have htl : (st.take (st.length - 1)).length = st.length - 1 := by rw [List.length_take]; omega
  have hgt : ∀ i, i < st.length - 1 → (st.take (st.length - 1)).getD i 0 = st.getD i 0 := fun i hi => by
    rw [List.getD_eq_getElem?_getD, List.getElem?_take_of_lt hi, ← List.getD_eq_getElem?_getD]
  have hlast : 0 ≤ st.getD (st.length - 1) 0 := by
    rw [List.getD_eq_getElem?_getD, List.getElem?_eq_getElem (by omega)]
    exact (hs.rg _ (List.getElem_mem (by omega))).1
  have hr1 : lo.getD 0 0 = st.getD (st.length - 1) 0 := by rw [hr.st]; omega
  -- edges
  generalize hq : st.take (st.length - 1) = sq at *
  have hln : 0 < (lo.map Int.toNat).length := by rw [List.length_map]; exact hr0
  have hcat : ∀ i, i + 1 < (sq ++ lo).length → (sq ++ lo).getD (i + 1) 0 ∈ g.getD ((sq ++ lo).getD i 0).toNat [] := fun i hi => by
    rw [List.length_append, htl] at hi
    by_cases e : i < st.length - 1
    · rw [getI_app1 (i := i) (by omega), hgt i e]
      have he := (hs.ed i (by omega)).1
      by_cases e2 : i + 1 < st.length - 1
      · rw [getI_app1 (by omega), hgt _ e2]; exact he
      · rw [getI_app2 (by omega), htl, show i + 1 - (st.length - 1) = 0 by omega, hr1, show st.length - 1 = i + 1 by omega]; exact he
    · rw [getI_app2 (i := i) (by omega), getI_app2 (i := i + 1) (by omega), htl, show i + 1 - (st.length - 1) = (i - (st.length - 1)) + 1 by omega]
      exact hr.ed _ (by omega)
  have hclo : lo.getD 0 0 ∈ g.getD ((sq ++ lo).getD ((sq ++ lo).length - 1) 0).toNat [] := by
    rw [List.length_append, getI_app2 (by omega), show sq.length + lo.length - 1 - sq.length = lo.length - 1 by omega, hr1]
    have := hr.cl
    rwa [Int.toNat_of_nonneg hlast] at this
  have hedge : ∀ i, edgeB g (sq.map Int.toNat) (lo.map Int.toNat) i = true := by
    rw [← edges_all hln, List.map_append, int_nat oks, int_nat hr.rg, List.all_eq_true]
    intro i hi
    rw [List.mem_range] at hi
    unfold stepB toPw
    rw [List.contains_iff_mem]
    split
    · exact hcat i (by assumption)
    · obtain rfl : i = (sq ++ lo).length - 1 := by omega
      exact hclo
  -- the way of pairs
  have hlat : ∀ i, lat (sq.map Int.toNat) (lo.map Int.toNat) i < ps.length := fun i => by
    have h1 := hedge i
    unfold edgeB at h1
    rw [List.contains_iff_mem] at h1
    have := Eg.lt1 (g := g) (u := lat (sq.map Int.toNat) (lo.map Int.toNat) i) h1
    omega
  have hfirst : (sq ++ lo).getD 0 0 = st.getD 0 0 := by
    by_cases e : 0 < st.length - 1
    · rw [getI_app1 (by omega), hgt 0 e]
    · rw [getI_app2 (by omega), htl, show 0 - (st.length - 1) = 0 by omega, hr1, show st.length - 1 = 0 by omega]
  have hfl : ((lat (sq.map Int.toNat) (lo.map Int.toNat) 0 : Nat) : Int) = st.getD 0 0 := by
    have := all_lat (s := sq.map Int.toNat) (l := lo.map Int.toNat) (i := 0) (by rw [List.length_append]; omega)
    rw [List.map_append, int_nat oks, int_nat hr.rg, hfirst] at this
    exact this.symm
  have hway : PWay (fitW W A) (nextE W A) (startE W A) (ssE W A) (fun i => ps.getD (lat (sq.map Int.toNat) (lo.map Int.toNat) i) (0, 0)) := by
    refine ⟨?_, fun i => h.ok _ (getDP_mem (hlat i)), fun i => ?_, fun S hS i => ?_⟩
    · obtain ⟨p, h1, h2, h3⟩ := (h.sn _).1 (show st.getD 0 0 ∈ fr from hs.st)
      have h4 := idxOf_at (h.sm p h1 h2)
      rw [show lat (sq.map Int.toNat) (lo.map Int.toNat) 0 = ps.idxOf p by omega, h4.2]
      exact h1
    · have he : ((lat (sq.map Int.toNat) (lo.map Int.toNat) (i + 1) : Nat) : Int) ∈ g.getD (lat (sq.map Int.toNat) (lo.map Int.toNat) i) [] := by simpa [edgeB] using hedge i
      obtain ⟨q, h1, h2, h3⟩ := (h.nn _ (by have := hlat i; omega) _).1 he
      have h4 := idxOf_at (h.nm _ (by have := hlat i; omega) q h1 h2)
      rw [show lat (sq.map Int.toNat) (lo.map Int.toNat) (i + 1) = ps.idxOf q by omega, h4.2]
      exact h1
    · obtain ⟨x, hx, hxs⟩ := hr.all (ps.map S) (List.mem_map.2 ⟨S, hS, rfl⟩)
      have hxr := hr.rg x hx
      rw [setsL_get (by omega)] at hxs
      obtain ⟨k, hk, rfl⟩ := List.mem_iff_getElem.1 hx
      obtain ⟨j, hj, he⟩ := lat_again (s := sq.map Int.toNat) (l := lo.map Int.toNat) (k := k) (by rw [List.length_map]; exact hk) i
      refine ⟨j, hj, ?_⟩
      have he2 : (lo.map Int.toNat).getD k 0 = lo[k].toNat := by rw [List.getD_eq_getElem?_getD, List.getElem?_map, List.getElem?_eq_getElem hk]; rfl
      rw [he, he2]
      exact hxs
  obtain ⟨hww, hacc⟩ := eway_run hW hA hway
  -- back to the world
  have okss := hst oks
  have okll := hst hr.rg
  have hmapN : ∀ {l : List Int}, okL g.length l → (stE ps l).map Int.toNat = (l.map Int.toNat).map fun n => (ps.getD n (0, 0)).1.toNat := fun {l} hk => by
    unfold stE
    rw [List.map_map, List.map_map]; rfl
  have hlatE : ∀ i, lat ((stE ps sq).map Int.toNat) ((stE ps lo).map Int.toNat) i = (ps.getD (lat (sq.map Int.toNat) (lo.map Int.toNat) i) (0, 0)).1.toNat := fun i => by
    rw [hmapN oks, hmapN hr.rg, lat_map hln]
  have hln2 : 0 < ((stE ps lo).map Int.toNat).length := by unfold stE; rw [List.length_map, List.length_map]; exact hr0
  refine ⟨okss, okll, by unfold stE; rw [List.length_map]; exact hr0, ?_, ?_⟩
  · unfold goodB
    rw [Bool.and_eq_true, Bool.and_eq_true]
    refine ⟨⟨?_, ?_⟩, ?_⟩
    · have h1 := hww.first
      rw [← hlatE] at h1
      rw [← int_nat okss, ← int_nat okll, ← List.map_append, all_lat (by rw [List.length_append]; omega)]
      simpa using h1
    · rw [← int_nat okss, ← int_nat okll, ← List.map_append, edges_all hln2]
      intro i
      have h1 := hww.step i
      rw [← hlatE, ← hlatE] at h1
      simpa [edgeB] using h1
    · rw [List.all_eq_true]
      intro F hF
      rw [List.any_eq_true]
      obtain ⟨x, hx, hxs⟩ := hr.all (ps.map fun p => decide (p.1 ∈ F)) (List.mem_map.2 ⟨_, List.mem_append_left _ (List.mem_map.2 ⟨F, hF, rfl⟩), rfl⟩)
      have hxr := hr.rg x hx
      rw [setsL_get (by omega)] at hxs
      exact ⟨_, of_decide_eq_true hxs, by rw [List.contains_iff_mem]; exact List.mem_map.2 ⟨x, hx, rfl⟩⟩
  · have e1 := labL_nat (lb := W.2.2.1) okss
    have e2 := labL_nat (lb := W.2.2.1) okll
    rw [e1, e2]
    exact (Acc.congr fun i => (by rw [lat_map hln2, hlatE] : W.2.2.1.getD (ps.getD (lat (sq.map Int.toNat) (lo.map Int.toNat) i) (0, 0)).1.toNat 0 = _)).1 hacc
end
end Go.Proofs.YtllpfgcngokhnaaGreat

/-
  Maps from a key to its number, made by the call: the keys as a list, in the order in which they came. Over any program.
-/
set_option linter.unusedVariables false
set_option linter.unusedSimpArgs false
namespace Go.Proofs.YtllpfgcngokhnaaGreat
open Go.RowKit

/-- a map type, its key's type and its element's type -/
class IsM (P : Program) (t : TypeId) (k e : outParam TypeId) : Prop where
  ok : P.underlying t = some (.map k e)
/-- keys of which the model's order is whole -/
class IsKy (P : Program) (k : TypeId) : Prop where
  ok : WideMaps.KeyLaw P k
theorem IsKy.of {P : Program} {k : TypeId} {d : TypeDesc} (hl : laidOutB P = true) {m : Nat} (hm : Nat.ble (m + 1) 10000 = true) (hrow : Nat.ble (k + 1) P.types.size = true) (hk : P.keyTypeAt m k = true) (hu : P.underlying k = some d) (hd : aggD d = true) : IsKy P k :=
  ⟨deep_law_laid hl (Nat.le_of_ble_eq_true hm) (Nat.lt_of_succ_le (Nat.le_of_ble_eq_true hrow)) hk (by
    rw [hu]; cases d <;> first | rfl | (cases hd))⟩
/-- a type whose zero value is the number 0 -/
class IsZ0 (P : Program) (e : TypeId) : Prop where
  ok : (P.info? e).map (fun i => i.zero) = some (some (.int .i64 0))
/-- v is a key of type k -/
def KeyV (P : Program) (k : TypeId) (v : Value) : Prop := ∃ l, keyOf P k v = some l
/-- block b is a map that holds the keys ks, each with its number -/
def NumM (P : Program) (k : TypeId) (w : World) (b : Nat) (ks : List Value) : Prop :=
  ∃ (es : Array MapEntry) (clock : Nat), w.heap[b]? = some (.map es clock) ∧ es.toList.map (·.key) = ks ∧ (∀ (i : Nat) (e : MapEntry), es.toList[i]? = some e → e.val = .int .i64 (i : Int)) ∧ (∀ x ∈ ks, KeyV P k x) ∧ ks.Nodup
section
variable {P : Program} {k : TypeId} {w w' : World} {b : Nat} {ks : List Value}
theorem NumM.lt (h : NumM P k w b ks) : b < w.heap.size := by
  obtain ⟨es, clock, hb, _⟩ := h
  exact (Array.getElem?_eq_some_iff.1 hb).1
theorem NumM.at (h : NumM P k w b ks) (hb : w'.heap[b]? = w.heap[b]?) : NumM P k w' b ks := by
  obtain ⟨es, clock, h1, h2⟩ := h
  exact ⟨es, clock, hb.trans h1, h2⟩
theorem NumM.ext (h : NumM P k w b ks) (hE : Ext w w') : NumM P k w' b ks := h.at (hE.block b h.lt)
theorem NumM.kept {row : Option Nat} (h : NumM P k w b ks) (hg : w.grownBy w' row) (hne : some b ≠ row) : NumM P k w' b ks := h.at (hg.block b h.lt hne)
theorem NumM.made (w : World) : NumM P k (w.alloc (.map #[] 0)) w.heap.size [] :=
  ⟨#[], 0, heap_alloc_new w _, rfl, fun i e h => by simp at h, fun x h => by simp at h, List.Pairwise.nil⟩
theorem run_num {t e : TypeId} {x : Value} [ht : IsM P t k e] [hk : IsKy P k] [hz : IsZ0 P e] (h : NumM P k w b ks) (hx : KeyV P k x) :
    (x ∉ ks ∧ (Instr.lookup t (.map (some b)) x true).run P w = .ok (.tuple #[.int .i64 0, .bool false]) w) ∨
    ∃ (j : Nat) (hj : j < ks.length), ks[j] = x ∧ (Instr.lookup t (.map (some b)) x true).run P w = .ok (.tuple #[.int .i64 (j : Int), .bool true]) w := by
  obtain ⟨es, clock, hb, hes, hv, hks, hnd⟩ := h
  obtain ⟨l, hx⟩ := hx
  obtain ⟨i, h1, h2⟩ := Option.map_eq_some_iff.1 hz.ok
  have hzr : (zeroValue e).run P w = .ok (.int .i64 0) w := by simp [zeroValue, typeInfo, h1, h2]
  have hkeys : ∀ e ∈ es.toList, ∃ l, keyOf P k e.key = some l := fun e he => hks _ (hes ▸ List.mem_map.2 ⟨e, he, rfl⟩)
  rcases hk.ok.find w hx es.toList hkeys with ⟨g1, g2⟩ | ⟨j, e0, g1, g2, g3⟩
  · refine .inl ⟨fun hm => ?_, by simp [Instr.lookup, run_underlying ht.ok, MapKept.run_getObj_map hb, hk.ok.check w _ hx, g1, hzr, Result.andThen]⟩
    rw [← hes] at hm
    obtain ⟨e, he, hke⟩ := List.mem_map.1 hm
    exact g2 e he hke
  · have hj : j < ks.length := by rw [← hes, List.length_map]; exact (List.getElem?_eq_some_iff.1 g2).1
    refine .inr ⟨j, hj, ?_, ?_⟩
    · subst hes
      rw [List.getElem_map, ← g3]
      congr 1
      exact (List.getElem?_eq_some_iff.1 g2).2
    · have hval := hv j e0 g2
      simp [Instr.lookup, run_underlying ht.ok, MapKept.run_getObj_map hb, hk.ok.check w _ hx, g1, Result.andThen, hval]
theorem run_numPut {t e : TypeId} {x : Value} [ht : IsM P t k e] [hk : IsKy P k] (h : NumM P k w b ks) (hx : KeyV P k x) (hn : x ∉ ks) :
    ∃ w', (Instr.mapUpdate t (.map (some b)) x (.int .i64 (ks.length : Int))).run P w = .ok () w' ∧ NumM P k w' b (ks ++ [x]) ∧ w.grownBy w' (some b) := by
  obtain ⟨es, clock, hb, hes, hv, hks, hnd⟩ := h
  obtain ⟨l, hx'⟩ := hx
  have hkeys : ∀ e ∈ es.toList, ∃ l, keyOf P k e.key = some l := fun e he => hks _ (hes ▸ List.mem_map.2 ⟨e, he, rfl⟩)
  have hsz : es.toList.length = ks.length := by rw [← hes, List.length_map]
  have hlt := (Array.getElem?_eq_some_iff.1 hb).1
  rcases hk.ok.find w hx' es.toList hkeys with ⟨g1, g2⟩ | ⟨j, e0, g1, g2, g3⟩
  · refine ⟨_, by simp [Instr.mapUpdate, run_underlying ht.ok, MapKept.run_getObj_map hb, hk.ok.check w false hx', g1, MapKept.run_setObj_map _ hb, Result.andThen]; rfl, ?_, ?_⟩
    · refine ⟨es.push ⟨x, .int .i64 (ks.length : Int), clock⟩, clock + 1, by simp [hlt], by simp [hes], fun i e he => ?_, fun y hy => ?_, ?_⟩
      · rw [Array.toList_push] at he
        rcases Nat.lt_or_ge i es.toList.length with hi | hi
        · rw [List.getElem?_append_left hi] at he
          exact hv i e he
        · rw [List.getElem?_append_right hi] at he
          have h0 : i - es.toList.length = 0 := by
            have := (List.getElem?_eq_some_iff.1 he).1
            simp at this; omega
          rw [h0] at he
          simp at he
          subst he
          show Value.int .i64 (ks.length : Int) = _
          congr 1; omega
      · rcases List.mem_append.1 hy with hy | hy
        · exact hks y hy
        · rw [List.mem_singleton] at hy; subst hy; exact ⟨l, hx'⟩
      · rw [List.nodup_append]
        refine ⟨hnd, by simp, fun a ha c hc e => ?_⟩
        rw [List.mem_singleton] at hc
        subst hc; subst e; exact hn ha
    · exact ⟨rfl, rfl, rfl, by simp, fun i _ hi => by
        simp only [Array.getElem?_setIfInBounds]
        rw [if_neg (fun e => hi (by rw [e]))]⟩
  · exact absurd (hes ▸ List.mem_map.2 ⟨e0, List.mem_of_getElem? g2, g3⟩) hn
end

section
variable {P : Program} {Q : Exit → Act → World → Prop} {n : Nat} {σ : Sg} {w : World} {L rest : List Oper} {d : Nat} {ty : TypeId} {pos : String} {af : Array Edge} {g : Option (Nat × Bool)} {t k e : TypeId} {b : Nat} {ks : List Value} {x y z : Operand} {v : Value}
/-- v, ok := m[x] -/
theorem WL.num (hg : gd L σ ⟨some d, .lookup t x y true, ty, pos, af, g⟩ = some true) (hd : Nat.ble (d + 1) n = true) (hx : ev σ x = some (.map (some b))) (hy : ev σ y = some v) [ht : IsM P t k e] [hk : IsKy P k] [hz : IsZ0 P e]
    (h : NumM P k w b ks) (hv : KeyV P k v)
    (h1 : v ∉ ks → WL P L Q rest n ((d, .tuple ⟨[.int .i64 0, .bool false]⟩) :: σ) w)
    (h2 : ∀ (j : Nat) (hj : j < ks.length), ks[j] = v → WL P L Q rest n ((d, .tuple ⟨[.int .i64 (j : Int), .bool true]⟩) :: σ) w) :
    WL P L Q (⟨some d, .lookup t x y true, ty, pos, af, g⟩ :: rest) n σ w := by
  rcases run_num (t := t) h hv with ⟨g1, g2⟩ | ⟨j, hj, g1, g2⟩
  · refine WL.run hg hd (fun a ha => ?_) (h1 g1)
    simp [execOp, ha.ev hx, ha.ev hy, g2]
  · refine WL.run hg hd (fun a ha => ?_) (h2 j hj g1)
    simp [execOp, ha.ev hx, ha.ev hy, g2]
/-- m[x] = len(m), at a new key -/
theorem WL.numPut (hg : gd L σ ⟨none, .mapUpdate t x y z, ty, pos, af, g⟩ = some true) (hx : ev σ x = some (.map (some b))) (hy : ev σ y = some v) (hzv : ev σ z = some (.int .i64 (ks.length : Int))) [ht : IsM P t k e] [hk : IsKy P k]
    (h : NumM P k w b ks) (hv : KeyV P k v) (hn : v ∉ ks)
    (hr : ∀ w', NumM P k w' b (ks ++ [v]) → w.grownBy w' (some b) → WL P L Q rest n σ w') :
    WL P L Q (⟨none, .mapUpdate t x y z, ty, pos, af, g⟩ :: rest) n σ w := by
  obtain ⟨w', g1, g2, g3⟩ := run_numPut (t := t) h hv hn
  refine WL.runU hg (fun a ha => ?_) (hr w' g2 g3)
  simp [execOp, ha.ev hx, ha.ev hy, ha.ev hzv, g1]
/-- make(map[K]int) -/
theorem WL.mkMap (hg : gd L σ ⟨some d, .makeMap t none, ty, pos, af, g⟩ = some true) (hd : Nat.ble (d + 1) n = true)
    (h : NumM P k (w.alloc (.map #[] 0)) w.heap.size [] → WL P L Q rest n ((d, .map (some w.heap.size)) :: σ) (w.alloc (.map #[] 0))) :
    WL P L Q (⟨some d, .makeMap t none, ty, pos, af, g⟩ :: rest) n σ w := by
  refine WL.run hg hd (fun a ha => ?_) (h (NumM.made w))
  simp [execOp, Instr.makeMap]
end
/-- a key that is a pair of numbers -/
theorem KeyV.pair {P : Program} {k fa fb : TypeId} {x y : Int} (h : (P.keyType k && Value.formed P k (.agg #[.int .i64 0, .int .i64 0])) = true)
    (hk : ∀ a b : Int, P.keyLits (P.types.size + 1) k [.int .i64 a, .int .i64 b] = (if (Lit.int .i64 a).wf = true ∧ (Lit.int .i64 b).wf = true then some [.int .i64 a, .int .i64 b] else none))
    (hd : ∃ d, P.underlying k = some (.struct d)) (hx : (Lit.int .i64 x).wf = true) (hy : (Lit.int .i64 y).wf = true) : KeyV P k (.agg ⟨[.int .i64 x, .int .i64 y]⟩) := by
  obtain ⟨d, hd⟩ := hd
  refine ⟨.string (keyBytes [.int .i64 x, .int .i64 y]), ?_⟩
  unfold keyOf
  rw [hd]
  dsimp only
  have hf : Value.formed P k (.agg ⟨[.int .i64 x, .int .i64 y]⟩) = Value.formed P k (.agg #[.int .i64 0, .int .i64 0]) := by
    unfold Value.formed
    rw [hd]; rfl
  rw [hf, if_pos h]
  show Option.map _ (P.keyLits (P.types.size + 1) k [.int .i64 x, .int .i64 y]) = _
  rw [hk, if_pos ⟨hx, hy⟩]
  rfl
end Go.Proofs.YtllpfgcngokhnaaGreat

/-
  Maps in drawn regions that only read.
-/
set_option linter.unusedVariables false
set_option linter.unusedSimpArgs false
namespace Go.Proofs.YtllpfgcngokhnaaGreat
open Go.RowKit

theorem nodup_get {α : Type} {l : List α} (h : l.Nodup) {i j : Nat} (hi : i < l.length) (hj : j < l.length) (e : l[i] = l[j]) : i = j := by
  have h := List.pairwise_iff_getElem.1 h
  rcases Nat.lt_trichotomy i j with hlt | he | hlt
  · exact absurd e (h i j hi hj hlt)
  · exact he
  · exact absurd e.symm (h j i hj hi hlt)
section
variable {P : Program} {Q : Exit → Act → World → Prop} {n : Nat} {σ : Sg} {w : World} {L rest : List Oper} {d : Nat} {ty : TypeId} {pos : String} {af : Array Edge} {g : Option (Nat × Bool)} {t k e : TypeId} {b : Nat} {ks : List Value} {x y z : Operand} {v : Value}
theorem QL.numNo (hg : gd L σ ⟨some d, .lookup t x y true, ty, pos, af, g⟩ = some true) (hd : Nat.ble (d + 1) n = true) (hx : ev σ x = some (.map (some b))) (hy : ev σ y = some v) [ht : IsM P t k e] [hk : IsKy P k] [hz : IsZ0 P e]
    (h : NumM P k w b ks) (hv : KeyV P k v) (hn : v ∉ ks) (hr : QL P L w Q rest n ((d, .tuple ⟨[.int .i64 0, .bool false]⟩) :: σ)) : QL P L w Q (⟨some d, .lookup t x y true, ty, pos, af, g⟩ :: rest) n σ := by
  refine QL.run hg hd (fun a ha w' hw' => ?_) hr
  rcases run_num (t := t) (h.ext hw') hv with ⟨_, g2⟩ | ⟨j, hj, g1, g2⟩
  · simp [execOp, ha.ev hx, ha.ev hy, g2]
  · exact absurd (g1 ▸ List.getElem_mem hj) hn
theorem QL.numYes {j : Nat} (hj : j < ks.length) (hjv : ks[j] = v) (hg : gd L σ ⟨some d, .lookup t x y true, ty, pos, af, g⟩ = some true) (hd : Nat.ble (d + 1) n = true) (hx : ev σ x = some (.map (some b))) (hy : ev σ y = some v) [ht : IsM P t k e] [hk : IsKy P k] [hz : IsZ0 P e]
    (h : NumM P k w b ks) (hv : KeyV P k v) (hr : QL P L w Q rest n ((d, .tuple ⟨[.int .i64 (j : Int), .bool true]⟩) :: σ)) : QL P L w Q (⟨some d, .lookup t x y true, ty, pos, af, g⟩ :: rest) n σ := by
  refine QL.run hg hd (fun a ha w' hw' => ?_) hr
  rcases run_num (t := t) (h.ext hw') hv with ⟨g1, _⟩ | ⟨i, hi, g1, g2⟩
  · exact absurd (hjv ▸ List.getElem_mem hj) g1
  · obtain ⟨_, _, _, _, _, _, hnd⟩ := h
    obtain rfl : i = j := nodup_get hnd hi hj (g1.trans hjv.symm)
    simp [execOp, ha.ev hx, ha.ev hy, g2]
end
theorem HL.ldAQ {P : Program} {Q : Exit → Act → World → Prop} {n : Nat} {σ : Sg} {w wc : World} {L : List Oper} {S : World → Prop} {ord : List (Nat × Bool)} {i d : Nat} {ty : TypeId} {pos : String} {af : Array Edge} {g : Option (Nat × Bool)} {t e : TypeId} {x : Operand} {b o k : Nat} {cells vs : List Value}
    (hK : ∀ w1, S w1 → w1.heap[b]? = w.heap[b]?) (ho : nthO L i = some ⟨some d, .load t x, ty, pos, af, g⟩) (hg : gd L σ ⟨some d, .load t x, ty, pos, af, g⟩ = some true) (hd : Nat.ble (d + 1) n = true) (hx : ev σ x = some (.pointer (some ⟨b, o, none⟩))) [hc : IsC P t k true] (hb : Blk w b e cells) (hv : segL cells o k = some vs)
    (h : HL P L S Q ord n ((d, .agg vs.toArray) :: σ) wc) : HL P L S Q ((i, true) :: ord) n σ wc := by
  refine HL.run ho hg hd (fun a ha w' hsw => ?_) h
  have hb' : Blk w' b e cells := (hK w' hsw).trans hb
  simp [execOp, ha.ev hx, run_ldA (P := P) (t := t) w' hb' hv]
end Go.Proofs.YtllpfgcngokhnaaGreat

/-
  Lists of lists that grow: the outer row is owned, the inner ones stay as they are. Over any program.
-/
set_option linter.unusedVariables false
set_option linter.unusedSimpArgs false
namespace Go.Proofs.YtllpfgcngokhnaaGreat
open Go.RowKit

/-- what nobody changes: all but the blocks of M -/
def Fz (w : World) (M : Nat → Prop) : Nat → Prop := fun b => b < w.heap.size ∧ ¬ M b
section
variable {α : Type} [Rep α]
theorem Fz.keep {w w' : World} {M M' : Nat → Prop} (hC : Chg M w w') (hM : ∀ b, M' b → M b ∨ w.heap.size ≤ b) : (∀ b, Fz w M b → w'.heap[b]? = w.heap[b]?) ∧ ∀ b, Fz w M b → Fz w' M' b :=
  ⟨fun b hb => hC.block b hb.1 hb.2, fun b hb => ⟨Nat.lt_of_lt_of_le hb.1 hC.size, fun h => (hM b h).elim hb.2 (fun h => absurd hb.1 (by omega))⟩⟩
theorem Rd.fz {w w' : World} {M M' : Nat → Prop} {v : Value} {x : α} (h : Rd w (Fz w M) v x) (hC : Chg M w w') (hM : ∀ b, M' b → M b ∨ w.heap.size ≤ b) : Rd w' (Fz w' M') v x := h.mono (Fz.keep hC hM).1 (Fz.keep hC hM).2
theorem Sl.fz {w w' : World} {M M' : Nat → Prop} {ao : Option Addr} {cap : Nat} {xs : List α} (h : Sl w (Fz w M) ao cap xs) (hC : Chg M w w') (hM : ∀ b, M' b → M b ∨ w.heap.size ≤ b) : Sl w' (Fz w' M') ao cap xs := h.mono (Fz.keep hC hM).1 (Fz.keep hC hM).2
theorem Rd.old' {w : World} {M : Nat → Prop} {v : Value} {x : α} (h : Rd w (Fz w M) v x) : Rd w (Old w) v x := h.mono (fun _ _ => rfl) fun _ h => h.1
theorem Sl.old' {w : World} {M : Nat → Prop} {ao : Option Addr} {cap : Nat} {xs : List α} (h : Sl w (Fz w M) ao cap xs) : Sl w (Old w) ao cap xs := h.mono (fun _ _ => rfl) fun _ h => h.1
theorem Chg.of_ext {w w' : World} (M : Nat → Prop) (h : Ext w w') : Chg M w w' := ⟨h.os, h.tape, h.output, h.size, fun k hk _ => h.block k hk⟩
theorem Chg.trans {M : Nat → Prop} {a b c : World} (h : Chg M a b) (k : Chg M b c) : Chg M a c :=
  ⟨k.os.trans h.os, k.tape.trans h.tape, k.output.trans h.output, Nat.le_trans h.size k.size, fun i hi hn => (k.block i (Nat.lt_of_lt_of_le hi h.size) hn).trans (h.block i hi hn)⟩
/-- .. where the second changes new blocks too -/
theorem Chg.then {M M' : Nat → Prop} {a b c : World} (h : Chg M a b) (k : Chg M' b c) (hM : ∀ i, M' i → M i ∨ a.heap.size ≤ i) : Chg M a c :=
  ⟨k.os.trans h.os, k.tape.trans h.tape, k.output.trans h.output, Nat.le_trans h.size k.size, fun i hi hn => (k.block i (Nat.lt_of_lt_of_le hi h.size) (fun hm => (hM i hm).elim hn (by omega))).trans (h.block i hi hn)⟩
theorem Chg.wk {M M' : Nat → Prop} {a b : World} (h : Chg M a b) (hM : ∀ i, M i → M' i) : Chg M' a b := ⟨h.os, h.tape, h.output, h.size, fun i hi hn => h.block i hi (fun hm => hn (hM i hm))⟩
theorem Chg.of_grown {w w' : World} {row : Option Nat} (hg : w.grownBy w' row) : Chg (fun b => row = some b) w w' := (Chg.refl _ w).grown hg fun g h => h
/-- inner rows, read -/
structure InnR (w : World) (M : Nat → Prop) (vs : List Raw) (xs : List (List α)) : Prop where
  len : vs.length = xs.length
  el : ∀ i (h : i < vs.length) (h' : i < xs.length), Rd w (Fz w M) vs[i].v xs[i]
theorem InnR.nil {w : World} {M : Nat → Prop} : InnR w M [] ([] : List (List α)) := ⟨rfl, fun i h => absurd h (by simp)⟩
theorem InnR.to {w w' : World} {M M' : Nat → Prop} {vs : List Raw} {xs : List (List α)} (h : InnR w M vs xs) (hC : Chg M w w') (hM : ∀ b, M' b → M b ∨ w.heap.size ≤ b) : InnR w' M' vs xs := ⟨h.len, fun i h1 h2 => (h.el i h1 h2).fz hC hM⟩
theorem InnR.push {w : World} {M : Nat → Prop} {vs : List Raw} {xs : List (List α)} {v : Value} {x : List α} (h : InnR w M vs xs) (hv : Rd w (Fz w M) v x) : InnR w M (vs ++ [(⟨v⟩ : Raw)]) (xs ++ [x]) := by
  refine ⟨by simp [h.len], fun i h1 h2 => ?_⟩
  rcases Nat.lt_or_ge i vs.length with hi | hi
  · rw [List.getElem_append_left hi, List.getElem_append_left (by rw [← h.len]; exact hi)]
    exact h.el i hi _
  · have hl := h.len
    obtain rfl : i = vs.length := by simp at h1; omega
    rw [List.getElem_append_right (Nat.le_refl _), List.getElem_append_right (by omega)]
    simp only [hl, Nat.sub_self, List.getElem_cons_zero]
    exact hv
/-- the whole, read -/
theorem InnR.sl {w : World} {M F : Nat → Prop} {B : Nat} {e : TypeId} {v : Value} {vs : List Raw} {xs : List (List α)} (h : InnR w M vs xs) (ho : Own w B e Non v vs) (hF : ∀ b, Fz w M b → F b) (hv : ∀ g, v.ownBlock = some g → F g) : ∃ ao cap, v = .slice ao xs.length cap ∧ Sl w F ao cap xs := by
  obtain ⟨ao, cap, e, hs⟩ := ho.slF (F' := F) (fun _ h => h.elim) hv
  refine ⟨ao, cap, by rw [← h.len]; exact e, ⟨by rw [← h.len]; exact hs.le, hs.mx, hs.nil, fun i hi => ?_⟩⟩
  have hi' : i < vs.length := by rw [h.len]; exact hi
  obtain ⟨b, off, e1, hF1, es, hc, hr⟩ := hs.el i hi'
  obtain ⟨rfl, h1⟩ := hr
  obtain ⟨io, ic, e2, hs2⟩ := (h.el i hi' hi).sl
  exact ⟨b, off, e1, hF1, [vs[i].v], hc, io, ic, by rw [e2], hs2.mono (fun _ _ => rfl) hF⟩
theorem InnR.old {w : World} {M : Nat → Prop} {B : Nat} {e : TypeId} {v : Value} {vs : List Raw} {xs : List (List α)} (h : InnR w M vs xs) (ho : Own w B e Non v vs) : ∃ ao cap, v = .slice ao xs.length cap ∧ Sl w (Old w) ao cap xs :=
  h.sl ho (fun _ h => h.1) (fun g hg => (ho.lt g hg).2.1)
end
end Go.Proofs.YtllpfgcngokhnaaGreat

/-
  Package empty: add: walked.
-/
set_option linter.unusedVariables false
set_option linter.unusedSimpArgs false
namespace Go.Proofs.YtllpfgcngokhnaaGreat
open Go.RowKit

instance iEm1 : IsM Tryz.prog 88 94 3 := ⟨Tryz.underlying88⟩
instance iEm2 : IsC Tryz.prog 88 1 false := IsC.of (by kernel_rfl) Tryz.underlying88 rfl
instance iEm3 : IsZ0 Tryz.prog 3 := ⟨by kernel_rfl⟩
theorem emLaid : laidOutB Tryz.prog = true := by kernel_rfl
instance iEm4 : IsKy Tryz.prog 94 := IsKy.of (m := 2) emLaid (by decide) (by kernel_rfl) (by kernel_rfl) Tryz.underlying94 rfl
abbrev peV (p : Pr2) : Value := .agg ⟨[.int .i64 p.1, .int .i64 p.2]⟩
def SmE (p : Pr2) : Prop := 0 ≤ p.1 ∧ p.1 < 4096 ∧ 0 ≤ p.2 ∧ p.2 < 4096
theorem peV_key {p : Pr2} (h : SmE p) : KeyV Tryz.prog 94 (peV p) := by
  obtain ⟨h1, h2, h3, h4⟩ := h
  refine KeyV.pair (fa := 3) (fb := 3) (by kernel_rfl) (fun a b => ?_) ⟨_, Tryz.underlying94⟩ ?_ ?_
  · obtain ⟨s, hs⟩ : ∃ s, Tryz.prog.types.size = s + 1 := by
      have : Nat.ble 1 Tryz.prog.types.size = true := by kernel_rfl
      have := Nat.le_of_ble_eq_true this
      exact ⟨Tryz.prog.types.size - 1, by omega⟩
    have hc : Tryz.prog.cellsOf 3 = 1 := by kernel_rfl
    have hI : ∀ (x : Int), Tryz.prog.keyLits (s + 1) 3 [.int .i64 x] = if (Lit.int .i64 x).wf = true then some [.int .i64 x] else none := fun x => by
      rw [Program.keyLits.eq_def]
      simp only [Tryz.underlying3]
      by_cases h : (Lit.int .i64 x).wf = true <;> simp [h]
    rw [hs, Program.keyLits.eq_def]
    simp only [Tryz.underlying94]
    rw [if_pos ⟨by kernel_rfl, by kernel_rfl⟩]
    simp only [List.mapM_cons, List.mapM_nil, hc, List.drop_zero, List.take_succ_cons, List.take_zero, List.drop_succ_cons, hI]
    by_cases h1 : (Lit.int .i64 a).wf = true <;> by_cases h2 : (Lit.int .i64 b).wf = true <;> simp [h1, h2]
  · simp [Lit.wf, IntKind.min, IntKind.max, IntKind.signed, IntKind.bits]; omega
  · simp [Lit.wf, IntKind.min, IntKind.max, IntKind.signed, IntKind.bits]; omega
theorem peV_inj {p q : Pr2} (h : peV p = peV q) : p = q := by
  obtain ⟨a, b⟩ := p
  obtain ⟨c, d⟩ := q
  simp [peV] at h
  exact Prod.ext h.1 h.2
/-- where the world and the automaton lie that are searched -/
structure EA where
  a1 : Option Addr
  c1 : Nat
  a2 : Option Addr
  c2 : Nat
  a3 : Option Addr
  c3 : Nat
  a4 : Option Addr
  c4 : Nat
  k1 : Option Addr
  d1 : Nat
  k2 : Option Addr
  d2 : Nat
  k3 : Option Addr
  d3 : Nat
  k4 : Option Addr
  d4 : Nat
  k5 : Option Addr
  d5 : Nat
  W : LWorld
  A : LAuto2
abbrev eCells (e : EA) (mb : Nat) (lv nv fv : Value) : List Value := [.slice e.a1 e.W.1.length e.c1, .slice e.a2 e.W.2.1.length e.c2, .slice e.a3 e.W.2.2.1.length e.c3, .slice e.a4 e.W.2.2.2.length e.c4, .slice e.k1 e.A.1.length e.d1, .slice e.k2 e.A.2.1.length e.d2, .slice e.k3 e.A.2.2.1.length e.d3, .slice e.k4 e.A.2.2.2.1.length e.d4, .slice e.k5 e.A.2.2.2.2.length e.d5, .map (some mb), lv, nv, fv]
structure EIn (w : World) (F : Nat → Prop) (e : EA) : Prop where
  h1 : Sl w F e.a1 e.c1 e.W.1
  h2 : Sl w F e.a2 e.c2 e.W.2.1
  h3 : Sl w F e.a3 e.c3 e.W.2.2.1
  h4 : Sl w F e.a4 e.c4 e.W.2.2.2
  g1 : Sl w F e.k1 e.d1 e.A.1
  g2 : Sl w F e.k2 e.d2 e.A.2.1
  g3 : Sl w F e.k3 e.d3 e.A.2.2.1
  g4 : Sl w F e.k4 e.d4 e.A.2.2.2.1
  g5 : Sl w F e.k5 e.d5 e.A.2.2.2.2
theorem EIn.to {w w' : World} {F F' : Nat → Prop} {e : EA} (h : EIn w F e) (hK : ∀ b, F b → w'.heap[b]? = w.heap[b]?) (hF : ∀ b, F b → F' b) : EIn w' F' e :=
  ⟨h.h1.mono hK hF, h.h2.mono hK hF, h.h3.mono hK hF, h.h4.mono hK hF, h.g1.mono hK hF, h.g2.mono hK hF, h.g3.mono hK hF, h.g4.mono hK hF, h.g5.mono hK hF⟩
def fitE (e : EA) (p : Pr2) : Bool := fitB e.A.2.2.1 e.A.2.2.2.1 p.2.toNat (e.W.2.2.1.getD p.1.toNat 0)
/-- a pair of a state of the world and one of the automaton -/
def InE (e : EA) (p : Pr2) : Prop := (0 ≤ p.1 ∧ p.1 < (e.W.2.1.length : Int)) ∧ 0 ≤ p.2 ∧ p.2 < (e.A.2.1.length : Int)
/-- sizes are right -/
structure OkE (e : EA) : Prop where
  wn : e.W.2.1.length ≤ 600
  an : e.A.2.1.length ≤ 2048
  lb : e.W.2.2.1.length = e.W.2.1.length
  mu : e.A.2.2.1.length = e.A.2.1.length
  no : e.A.2.2.2.1.length = e.A.2.1.length
theorem InE.sm {e : EA} {p : Pr2} (hk : OkE e) (h : InE e p) : SmE p := by
  obtain ⟨⟨h1, h2⟩, h3, h4⟩ := h
  have := hk.wn
  have := hk.an
  exact ⟨h1, by omega, h3, by omega⟩
/-- the search -/
structure Em (w : World) (B : Nat) (e : EA) (sb mb : Nat) (lv nv fv : Value) (ps : List Pr2) : Prop where
  blk : Blk w sb 91 (eCells e mb lv nv fv)
  num : NumM Tryz.prog 94 w mb (ps.map peV)
  lo : Own w B 94 Non lv ps
  inn : EIn w (fun b => b < B) e
  ge : B ≤ sb ∧ B ≤ mb
  ne : sb ≠ mb
  nl : ∀ g, lv.ownBlock = some g → g ≠ sb ∧ g ≠ mb
  nd : ps.Nodup
  ins : ∀ p ∈ ps, InE e p
  ok : OkE e
theorem Em.ext {w w' : World} {B : Nat} {e : EA} {sb mb : Nat} {lv nv fv : Value} {ps : List Pr2} (h : Em w B e sb mb lv nv fv ps) (hB : B ≤ w.heap.size) (hE : Ext w w') : Em w' B e sb mb lv nv fv ps :=
  ⟨h.blk.ext hE, h.num.ext hE, h.lo.extN hE, h.inn.to (fun b hb => hE.block b (Nat.lt_of_lt_of_le hb hB)) (fun _ h => h), h.ge, h.ne, h.nl, h.nd, h.ins, h.ok⟩
theorem Em.len {w : World} {B : Nat} {e : EA} {sb mb : Nat} {lv nv fv : Value} {ps : List Pr2} (h : Em w B e sb mb lv nv fv ps) : ps.length ≤ 1228800 := by
  have h1 := nodup_box h.nd h.ins
  have h2 := Nat.mul_le_mul h.ok.wn h.ok.an
  omega
def emB (sb mb : Nat) (lv : Value) : Nat → Prop := fun b => b = sb ∨ b = mb ∨ lv.ownBlock = some b
set_option maxHeartbeats 2000000 in
theorem eadd_ok (w0 : World) {B : Nat} {e : EA} {sb mb : Nat} {lv nv fv : Value} {ps : List Pr2} {p : Pr2} (h : Em w0 B e sb mb lv nv fv ps) (hB : B ≤ w0.heap.size) (hp : InE e p) :
    Rt Tryz.prog 74 [.pointer (some ⟨sb, 0, none⟩), peV p].toArray w0 fun v w' => ∃ lv', v = .int .i64 (if fitE e p = true then (ps.idxOf p : Int) else -1) ∧ Em w' B e sb mb lv' nv fv (if fitE e p = true then addF ps p else ps) ∧
      Chg (emB sb mb lv) w0 w' ∧ (∀ g, lv'.ownBlock = some g → lv.ownBlock = some g ∨ w0.heap.size ≤ g) := by
  obtain ⟨x, y, rfl⟩ : ∃ x y : Nat, p = ((x : Int), (y : Int)) := ⟨p.1.toNat, p.2.toNat, by
    obtain ⟨⟨p1, p2⟩, p3, p4⟩ := hp
    exact Prod.ext (by show p.1 = ((p.1.toNat : Nat) : Int); omega) (by show p.2 = ((p.2.toNat : Nat) : Int); omega)⟩
  have hkey := peV_key (hp.sm h.ok)
  have hlen := h.len
  have hmem : peV ((x : Int), (y : Int)) ∈ ps.map peV ↔ ((x : Int), (y : Int)) ∈ ps := by
    rw [List.mem_map]
    exact ⟨fun ⟨q, h1, h2⟩ => by rw [← peV_inj h2]; exact h1, fun h => ⟨_, h, rfl⟩⟩
  refine Rt.enter2 Tryz.func74 Tryz.ntmps74 rfl rfl ?_
  (repeat (first | (apply CW.seq) | (apply CW.region)))
  refine WL.boxB rfl rfl rfl fun w1 hb3 e1 => ?_
  have h1 := h.ext hB e1
  have hblk := h1.blk
  have z1 := e1.size
  have l3 := hb3.lt
  obtain ⟨lo, lc, rfl⟩ := h.lo.val
  have hok := h.ok
  have hxl : x < e.W.2.2.1.length := by have := hp.1.2; have := hok.lb; dsimp only at *; omega
  have hym : y < e.A.2.2.1.length := by have := hp.2.2; have := hok.mu; dsimp only at *; omega
  have hyn : y < e.A.2.2.2.1.length := by have := hp.2.2; have := hok.no; dsimp only at *; omega
  have hI := h1.inn.to (F' := Old w1) (fun _ _ => rfl) (fun b hb => (show b < w1.heap.size by omega))
  have hfe : fitE e ((x : Int), (y : Int)) = fitB e.A.2.2.1 e.A.2.2.2.1 y e.W.2.2.1[x] := by
    unfold fitE
    dsimp only
    rw [Int.toNat_natCast, Int.toNat_natCast, List.getD_eq_getElem?_getD, List.getElem?_eq_getElem hxl]; rfl
  have hSE : ∀ z, (fun z : World => Ext w1 z) z → Ext w1 z := fun _ h => h
  generalize hpp : (((x : Int), (y : Int)) : Pr2) = pp at *
  have hp1 : pp.1 = (x : Int) := by rw [← hpp]
  have hp2 : pp.2 = (y : Int) := by rw [← hpp]
  (repeat (first | (apply WL.pure; rfl; rfl; rfl) | (apply WL.nil) | (apply EX.thenN) | (apply CW.seq)))
  refine CW.drawH (fun z => Ext w1 z) [(0, true), (1, true), (2, true), (3, true), (4, true), (5, true), (6, true), (7, true), (8, true), (9, true), (10, true), (11, true), (12, true), (13, true), (14, true), (15, false), (16, true)] mixed (by kernel_rfl) (Ext.drew w1) ?_
  (repeat (first | (apply HL.pure; rfl; rfl; rfl; rfl) | (refine HL.fa rfl rfl rfl rfl ?_) | (apply HL.nck; rfl; rfl; rfl; rfl) | (refine HL.ld (by assumption) rfl rfl rfl rfl (by assumption) rfl ?_) | (refine HL.ldA (by assumption) rfl rfl rfl rfl (by assumption) rfl ?_)))
  rw [hp1, hp2]
  refine HL.elemN (α := Nat) (k := x) hSE rfl rfl rfl rfl rfl rfl rfl (fun _ h => h) hI.h3 hxl (fun _ => rfl) (fun u q hu => ?_)
  obtain ⟨rfl, hu64⟩ := hu.u64
  skip
  have hd := Ext.drew w1
  refine HL.mut rfl (WL.call rfl rfl rfl (Fits_ok (drew w1) (hI.g3.at hd) (hI.g4.at hd) y e.W.2.2.1[x] hym hyn hu64) ?_)
  rintro _ w2 ⟨rfl, e2⟩
  have e2 := hd.trans e2
  refine WL.nil (EX.mut e2 ?_)
  rw [← hfe]
  (repeat (first | (apply HL.pure; rfl; rfl; rfl; rfl) | (apply HL.nil)))
  have hE := e1.trans e2
  by_cases hfit : fitE e pp = true
  case neg =>
    have hfit : fitE e pp = false := by simpa using hfit
    rw [hfit]
    (repeat (first | (apply WL.pure; rfl; rfl; rfl) | (apply WL.nil) | (apply EX.thenN) | (apply CW.seq) | (apply CW.region) | (apply CW.condT; rfl) | (apply CW.ret) | (apply EX.thenR)))
    exact EX.ret1 rfl rfl ⟨.slice lo ps.length lc, rfl, by simpa using h.ext hB hE, ⟨hE.os, hE.tape, hE.output, hE.size, fun b hb _ => hE.block b hb⟩, fun g hg => .inl hg⟩
  rw [hfit, if_pos rfl, if_pos rfl]
  apply EX.thenN
  refine CW.condF rfl ?_
  apply CW.skip
  apply EX.thenN
  have h2 := h.ext hB hE
  have hb32 := hb3.ext e2
  have hz2 := hE.size
  refine CW.cutE [(0, .pointer (some ⟨sb, 0, none⟩)), (3, .pointer (some ⟨w0.heap.size, 0, none⟩)), (5, .int .i64 (if pp ∈ ps then (ps.idxOf pp : Int) else 0)), (6, .bool (decide (pp ∈ ps)))] ?_ (fun w3 e3 => ?_)
  · have hblk := h2.blk
    by_cases hin : pp ∈ ps
    · rw [if_pos hin, decide_eq_true hin]
      obtain ⟨j, hj, hjm⟩ := List.mem_iff_getElem.1 hin
      have hix : ps.idxOf pp = j := by rw [← hjm]; exact h.nd.idxOf_getElem j hj
      rw [hix]
      (repeat (first | (apply QL.pure; rfl; rfl; rfl) | (apply QL.fa; rfl; rfl; rfl) | (apply QL.nck; rfl; rfl; rfl) | (apply QL.ld; rfl; rfl; rfl; assumption; rfl) | (apply QL.ldA; rfl; rfl; rfl; assumption; rfl) | (apply CW.draw; exact mixed; kernel_rfl)))
      refine QL.numYes (j := j) (by simpa using hj) (by rw [List.getElem_map, hjm]) rfl rfl rfl rfl h2.num hkey ?_
      (repeat (apply QL.pure; rfl; rfl; rfl))
      refine QL.nil (fun w3 e3 => ?_)
      exact EX.cutE (by repeat (first | exact trivial | refine ⟨rfl, ?_⟩)) e3
    · rw [if_neg hin, decide_eq_false hin]
      (repeat (first | (apply QL.pure; rfl; rfl; rfl) | (apply QL.fa; rfl; rfl; rfl) | (apply QL.nck; rfl; rfl; rfl) | (apply QL.ld; rfl; rfl; rfl; assumption; rfl) | (apply QL.ldA; rfl; rfl; rfl; assumption; rfl) | (apply CW.draw; exact mixed; kernel_rfl)))
      refine QL.numNo rfl rfl rfl rfl h2.num hkey (fun h => hin (hmem.1 h)) ?_
      (repeat (apply QL.pure; rfl; rfl; rfl))
      refine QL.nil (fun w3 e3 => ?_)
      exact EX.cutE (by repeat (first | exact trivial | refine ⟨rfl, ?_⟩)) e3
  have hE3 := hE.trans e3
  have h3 := h.ext hB hE3
  have hb3 := hb32.ext e3
  have hz3 := hE3.size
  have hchg : Chg (emB sb mb (.slice lo ps.length lc)) w0 w3 := ⟨hE3.os, hE3.tape, hE3.output, hE3.size, fun b hb _ => hE3.block b hb⟩
  clear h1 hblk hI hSE hb32 h2 e2 e1 hE hd
  by_cases hin : pp ∈ ps
  · rw [if_pos hin, decide_eq_true hin, show addF ps pp = ps from if_pos hin]
    (repeat (first | (apply WL.pure; rfl; rfl; rfl) | (apply WL.nil) | (apply EX.thenN) | (apply CW.seq) | (apply CW.region) | (apply CW.condF; rfl) | (apply CW.ret) | (apply CW.skip)))
    exact EX.ret1 rfl rfl ⟨.slice lo ps.length lc, rfl, h3, hchg, fun g hg => .inl hg⟩
  rw [if_neg hin, decide_eq_false hin, show addF ps pp = ps ++ [pp] from if_neg hin]
  have hix := idxOf_new hin
  have hblk := h3.blk
  have hmb0 := h.num.lt
  have hsb0 := h.blk.lt
  have hlt0 := h.lo.lt
  have hne := h.ne
  have hnl := h.nl
  have hl3x := hb3.lt
  rw [hix]
  -- the map
  have hD : Ext w3 (drew w3) := Ext.drew w3
  have hblkd := hblk.ext hD
  have hb3d := hb3.ext hD
  have hK5 : ∀ u, (fun x : World => x.heap[w0.heap.size]? = (drew w3).heap[w0.heap.size]? ∧ x.heap[sb]? = (drew w3).heap[sb]?) u → u.heap[w0.heap.size]? = (drew w3).heap[w0.heap.size]? := fun _ h => h.1
  have hKs : ∀ u, (fun x : World => x.heap[w0.heap.size]? = (drew w3).heap[w0.heap.size]? ∧ x.heap[sb]? = (drew w3).heap[sb]?) u → u.heap[sb]? = (drew w3).heap[sb]? := fun _ h => h.2
  (repeat (first | (apply WL.pure; rfl; rfl; rfl) | (apply WL.nil) | (apply EX.thenN) | (apply CW.seq) | (apply CW.region) | (apply WL.lenS; rfl; rfl; rfl) | (apply WL.fa; rfl; rfl; rfl) | (apply WL.nck; rfl; rfl; rfl) | (apply WL.ld; rfl; rfl; rfl; assumption; rfl) | (apply CW.condT; rfl)))
  refine CW.drawH (fun x : World => x.heap[w0.heap.size]? = (drew w3).heap[w0.heap.size]? ∧ x.heap[sb]? = (drew w3).heap[sb]?) [(0, true), (1, true), (2, true), (3, true), (4, true), (5, true), (6, false)] mixed (by kernel_rfl) ⟨rfl, rfl⟩ ?_
  (repeat (first | (apply HL.pure; rfl; rfl; rfl; rfl) | (refine HL.fa rfl rfl rfl rfl ?_) | (apply HL.nck; rfl; rfl; rfl; rfl) | (refine HL.ldK (by assumption) rfl rfl rfl rfl (by assumption) rfl ?_)))
  refine HL.ldAQ hK5 rfl rfl rfl rfl hb3d rfl ?_
  (repeat (apply HL.pure; rfl; rfl; rfl; rfl))
  refine HL.mut rfl (WL.numPut (ks := ps.map peV) rfl rfl rfl (by simp [ev, fnd, List.length_map]) (h3.num.ext hD) hkey (fun h => hin (hmem.1 h)) (fun w4 hnum4 hg4 => ?_))
  have hzd := hD.size
  refine WL.nil (EX.mut ⟨?_, ?_⟩ (HL.nil ?_))
  · exact hg4.block _ (by omega) (fun e => by have := Option.some.inj e; omega)
  · exact hg4.block _ (by omega) (fun e => hne (Option.some.inj e))
  have hz4 := hg4.size
  have hblk4 := hblkd.kept hg4 (fun e => hne (Option.some.inj e))
  have hb34 := hb3d.kept hg4 (fun e => by have := Option.some.inj e; omega)
  have hlo4 := (h3.lo.extN hD).keptN hg4 (fun g hg e => (hnl g hg).2 (Option.some.inj e))
  have hC4 : Chg (emB sb mb (.slice lo ps.length lc)) w0 w4 := (⟨hD.os.trans hchg.os, hD.tape.trans hchg.tape, hD.output.trans hchg.output, Nat.le_trans hchg.size hD.size, fun b hb hn => (hD.block b (Nat.lt_of_lt_of_le hb hchg.size)).trans (hchg.block b hb hn)⟩ : Chg _ w0 (drew w3)).grown hg4 (fun g hg => by cases hg; exact .inr (.inl rfl))
  clear hblkd hb3d hK5 hKs hD hzd hg4 hblk hb3
  -- the list
  have hD : Ext w4 (drew w4) := Ext.drew w4
  have hblkd := hblk4.ext hD
  have hb3d := hb34.ext hD
  have hlsb := hblk4.lt
  have hl3 := hb34.lt
  have hK5 : ∀ u, (fun x : World => x.heap[w0.heap.size]? = (drew w4).heap[w0.heap.size]? ∧ x.heap[sb]? = (drew w4).heap[sb]?) u → u.heap[w0.heap.size]? = (drew w4).heap[w0.heap.size]? := fun _ h => h.1
  have hKs : ∀ u, (fun x : World => x.heap[w0.heap.size]? = (drew w4).heap[w0.heap.size]? ∧ x.heap[sb]? = (drew w4).heap[sb]?) u → u.heap[sb]? = (drew w4).heap[sb]? := fun _ h => h.2
  have hzd := hD.size
  (repeat (apply EX.thenN))
  refine CW.drawE (fun x : World => x.heap[w0.heap.size]? = (drew w4).heap[w0.heap.size]? ∧ x.heap[sb]? = (drew w4).heap[sb]?) [(0, true), (1, true), (2, true), (3, true), (4, true), (5, true), (6, false), (7, false), (8, false), (9, false)] 10 mixed (by kernel_rfl) ⟨rfl, rfl⟩ ?_
  (repeat (first | (apply HL.pure; rfl; rfl; rfl; rfl) | (refine HL.fa rfl rfl rfl rfl ?_) | (apply HL.nck; rfl; rfl; rfl; rfl) | (refine HL.ldK (by assumption) rfl rfl rfl rfl (by assumption) rfl ?_)))
  refine HL.ldAQ hK5 rfl rfl rfl rfl hb3d rfl ?_
  refine HL.app1 (α := Int × Int) (F := Non) (bytes := 16) (yv := pp) rfl rfl rfl rfl (fun _ => rfl) rfl rfl (fun _ => rfl) (hlo4.extN hD) (Rd.mkPr (c1 := [.int .i64 pp.1]) (c2 := [.int .i64 pp.2]) (rd_mkInt _ _ _) (rd_mkInt _ _ _)) (by omega) (fun _ h => h.elim) (by decide) (by unfold maxLen; omega) (by omega)
    (fun z hz => ⟨hz.block _ (by omega) (fun e => by have := hlt0 _ e.symm; omega), hz.block _ (by omega) (fun e => (hnl _ e.symm).1 rfl)⟩) (fun cl w5 q5 ho5 hg5 hnb5 => ?_)
  obtain ⟨lo', lc', rfl⟩ := ho5.val
  have hblk5 := hblkd.kept hg5 (fun e => (hnl _ e.symm).1 rfl)
  have hnum5 := (hnum4.ext hD).kept hg5 (fun e => (hnl _ e.symm).2 rfl)
  have hS5 : w5.heap[w0.heap.size]? = (drew w4).heap[w0.heap.size]? ∧ w5.heap[sb]? = (drew w4).heap[sb]? := ⟨hg5.block _ (by omega) (fun e => by have := hlt0 _ e.symm; omega), hg5.block _ (by omega) (fun e => (hnl _ e.symm).1 rfl)⟩
  refine HL.mut rfl (WL.nck rfl rfl rfl (WL.nil (EX.mut hS5 ?_)))
  refine HL.mut rfl (WL.fa rfl rfl rfl (WL.nil (EX.mut hS5 (HL.nil ?_))))
  refine EX.tail rfl (WL.st rfl rfl rfl hblk5 rfl rfl (ones_of rfl) (fun w6 hblk6 hg6 => WL.nil (EX.tailE ?_)))
  have hlo6 := ho5.keptN hg6 (fun g hg e => by
    rcases hnb5 g hg with h | h
    · exact (hnl g h).1 (Option.some.inj e)
    · have := Option.some.inj e; omega)
  have hnum6 := hnum5.kept hg6 (fun e => hne (Option.some.inj e).symm)
  have hC5 := (⟨hD.os.trans hC4.os, hD.tape.trans hC4.tape, hD.output.trans hC4.output, Nat.le_trans hC4.size hD.size, fun b hb hn => (hD.block b (Nat.lt_of_lt_of_le hb hC4.size)).trans (hC4.block b hb hn)⟩ : Chg (emB sb mb (.slice lo ps.length lc)) w0 (drew w4)).grown hg5 (fun g hg => .inr (.inr hg))
  have hC6 := hC5.grown hg6 (fun g hg => by cases hg; exact .inl rfl)
  have hz5 := hg5.size
  rw [show ps.map peV ++ [peV pp] = (ps ++ [pp]).map peV by simp] at hnum6
  have hge := h.ge
  have hSb : ∀ b, emB sb mb (.slice lo ps.length lc) b → B ≤ b := fun b hb => by
    rcases hb with h' | h' | h'
    · omega
    · omega
    · exact (hlt0 b h').1
  (repeat (first | (apply WL.pure; rfl; rfl; rfl) | (apply WL.nil) | (apply EX.thenN) | (apply CW.seq) | (apply CW.region) | (apply CW.ret)))
  refine EX.ret1 rfl rfl ⟨.slice lo' (ps ++ [pp]).length lc', rfl, ⟨hblk6, hnum6, hlo6, h.inn.to (fun b hb => hC6.block b (by omega) (fun hs => by have := hSb b hs; omega)) (fun _ h => h), hge, hne, fun g hg => ?_, ?_, fun q hq => ?_, hok⟩, hC6, fun g hg => ?_⟩
  · rcases hnb5 g hg with h | h
    · exact hnl g h
    · exact ⟨by omega, by omega⟩
  · rw [List.nodup_append]
    refine ⟨h.nd, List.pairwise_singleton _ _, fun a ha b hb e' => ?_⟩
    rw [List.mem_singleton] at hb
    exact hin (by rw [← hb, ← e']; exact ha)
  · rcases List.mem_append.1 hq with hq | hq
    · exact h.ins q hq
    · rw [List.mem_singleton] at hq; rw [hq]; exact hp
  · rcases hnb5 g hg with h | h
    · exact .inl h
    · exact .inr (by omega)
end Go.Proofs.YtllpfgcngokhnaaGreat

/-
  Package empty: cross, states: walked.
-/
set_option linter.unusedVariables false
set_option linter.unusedSimpArgs false
namespace Go.Proofs.YtllpfgcngokhnaaGreat
open Go.RowKit

theorem Em.chg {S : Nat → Prop} {w w' : World} {B : Nat} {e : EA} {sb mb : Nat} {lv nv fv : Value} {ps : List Pr2} (h : Em w B e sb mb lv nv fv ps) (hB : B ≤ w.heap.size) (hC : Chg S w w') (hS : ∀ b, S b → B ≤ b ∧ b ≠ sb ∧ b ≠ mb ∧ lv.ownBlock ≠ some b) : Em w' B e sb mb lv nv fv ps :=
  ⟨(hC.block sb h.blk.lt (fun k => (hS _ k).2.1 rfl)).trans h.blk, h.num.at (hC.block mb h.num.lt (fun k => (hS _ k).2.2.1 rfl)), h.lo.chg hC (fun b hb k => (hS b k).2.2.2 hb), h.inn.to (fun b hb => hC.block b (Nat.lt_of_lt_of_le hb hB) (fun k => by have := (hS b k).1; omega)) (fun _ h => h), h.ge, h.ne, h.nl, h.nd, h.ins, h.ok⟩
structure CrI (w0 w : World) (B : Nat) (e : EA) (sb mb : Nat) (lv0 lv ov nv fv : Value) (ps : List Pr2) (out : List Int) : Prop where
  em : Em w B e sb mb lv nv fv ps
  own : Own w w0.heap.size 3 Non ov out
  chg : Chg (emB sb mb lv0) w0 w
  new : ∀ g, lv.ownBlock = some g → lv0.ownBlock = some g ∨ w0.heap.size ≤ g
  dis : ∀ g, ov.ownBlock = some g → lv.ownBlock ≠ some g
theorem pairsX_cons {x : Int} {l k : List Int} : pairsX (x :: l) k = (k.map fun y => (x, y)) ++ pairsX l k := rfl
theorem pairsX_len (l k : List Int) : (pairsX l k).length = l.length * k.length := by
  unfold pairsX
  induction l with
  | nil => simp
  | cons x r ih => rw [List.flatMap_cons, List.length_append, ih, List.length_map, List.length_cons, Nat.succ_mul]; omega
set_option maxHeartbeats 2000000 in
theorem cross_okE (w0 : World) {B : Nat} {e : EA} {sb mb : Nat} {lv nv fv : Value} {ps : List Pr2} {lo ko : Option Addr} {lc kc : Nat} {l k : List Int} (h : Em w0 B e sb mb lv nv fv ps) (hB : B ≤ w0.heap.size) (hl : Sl w0 (fun b => b < B) lo lc l) (hk : Sl w0 (fun b => b < B) ko kc k)
    (okl : okL e.W.2.1.length l) (okk : okL e.A.2.1.length k) (hln : l.length ≤ 1048576) (hkn : k.length ≤ 1048576) :
    Rt Tryz.prog 40 [.pointer (some ⟨sb, 0, none⟩), .slice lo l.length lc, .slice ko k.length kc].toArray w0 fun v w' => ∃ lv', CrI w0 w' B e sb mb lv lv' v nv fv (putF (fitE e) (pairsX l k) ps []).1 (putF (fitE e) (pairsX l k) ps []).2 := by
  have hT : (pairsX l k).length ≤ 1099511627776 := by rw [pairsX_len]; exact Nat.mul_le_mul hln hkn
  have hge := h.ge
  have hsb0 := h.blk.lt
  have hmb0 := h.num.lt
  have hlt0 := h.lo.lt
  have hSB : ∀ b, emB sb mb lv b → B ≤ b := fun b hb => by
    rcases hb with h' | h' | h'
    · omega
    · omega
    · exact (hlt0 b h').1
  generalize hG : putF (fitE e) (pairsX l k) ps [] = G at *
  refine Rt.enter3 Tryz.func40 Tryz.ntmps40 rfl rfl ?_
  (repeat (first | (apply WL.pure; rfl; rfl; rfl) | (apply WL.nil) | (apply EX.thenN) | (apply CW.seq) | (apply CW.region) | (apply WL.lenS; rfl; rfl; rfl) | (apply CW.block)))
  refine CW.loop (S := Nat × Value × Value × List Pr2 × List Int) (fun s => [(0, .pointer (some ⟨sb, 0, none⟩)), (2, .slice ko k.length kc), (7, s.2.2.1), (13, .slice lo l.length lc), (14, .int .i64 l.length), (15, .int .i64 s.1)])
    (fun s w => s.1 ≤ l.length ∧ putF (fitE e) (pairsX (l.drop s.1) k) s.2.2.2.1 s.2.2.2.2 = G ∧ CrI w0 w B e sb mb lv s.2.1 s.2.2.1 nv fv s.2.2.2.1 s.2.2.2.2 ∧ s.2.2.2.2.length + (pairsX (l.drop s.1) k).length ≤ (pairsX l k).length)
    (fun s => l.length - s.1) (0, lv, .slice none 0 0, ps, []) (by repeat (first | exact trivial | refine ⟨rfl, ?_⟩)) ⟨Nat.zero_le _, hG, ⟨h, Own.nil, Chg.refl _ _, fun g hg => .inl hg, fun g hg => by cases hg⟩, by simp⟩ ?_
  rintro ⟨i, lv1, ov, ps1, out⟩ w1 ⟨hi, hT1, hI, hle⟩
  dsimp only at hi hT1 hI hle ⊢
  (repeat (first | (apply WL.pure; rfl; rfl; rfl) | (apply WL.nil) | (apply EX.thenN) | (apply CW.seq) | (apply CW.region)))
  refine CW.cond rfl (fun hc => ?_) (fun hc => ?_)
  · have hi' : i < l.length := by simp at hc; omega
    rw [List.drop_eq_getElem_cons hi', pairsX_cons] at hT1 hle
    have hl1 := hl.mono (w' := w1) (fun b hb => hI.chg.block b (by omega) (fun hs => by have := hSB b hs; omega)) (F' := Old w1) (fun b hb => by have := hI.chg.size; exact (show b < w1.heap.size by omega))
    have hxr := okl _ (List.getElem_mem hi')
    (repeat (first | (apply EX.thenN) | (apply CW.seq) | (apply CW.region) | (apply CW.block) | (apply CW.skip)))
    refine WL.elemI rfl rfl rfl rfl rfl hl1 hi' rfl (fun _ => rfl) (fun q => ?_)
    generalize l[i] = x at *
    generalize hR : pairsX (l.drop (i + 1)) k = R at *
    (repeat (first | (apply WL.pure; rfl; rfl; rfl) | (apply WL.nil) | (apply EX.thenN) | (apply CW.seq) | (apply CW.region) | (apply WL.lenS; rfl; rfl; rfl) | (apply CW.block)))
    refine CW.loop (S := Nat × Value × Value × List Pr2 × List Int) (fun s => [(0, .pointer (some ⟨sb, 0, none⟩)), (2, .slice ko k.length kc), (7, s.2.2.1), (9, .int .i64 x), (13, .slice lo l.length lc), (14, .int .i64 l.length), (15, .int .i64 i), (19, .slice ko k.length kc), (20, .int .i64 k.length), (21, .int .i64 s.1)])
      (fun s w => s.1 ≤ k.length ∧ putF (fitE e) (((k.drop s.1).map fun y => (x, y)) ++ R) s.2.2.2.1 s.2.2.2.2 = G ∧ CrI w0 w B e sb mb lv s.2.1 s.2.2.1 nv fv s.2.2.2.1 s.2.2.2.2 ∧ s.2.2.2.2.length + (k.length - s.1) + R.length ≤ (pairsX l k).length)
      (fun s => k.length - s.1) (0, lv1, ov, ps1, out) (by repeat (first | exact trivial | refine ⟨rfl, ?_⟩)) ⟨Nat.zero_le _, hT1, hI, by simp only [List.length_append, List.length_map] at hle; dsimp only; omega⟩ ?_
    clear hT1 hI hle hl1
    rintro ⟨j, lv1, ov, ps1, out⟩ w1 ⟨hj, hT1, hI, hle⟩
    dsimp only at hj hT1 hI hle ⊢
    have z1 := hI.chg.size
    (repeat (first | (apply WL.pure; rfl; rfl; rfl) | (apply WL.nil) | (apply EX.thenN) | (apply CW.seq) | (apply CW.region)))
    refine CW.cond rfl (fun hc => ?_) (fun hc => ?_)
    · have hj' : j < k.length := by simp at hc; omega
      rw [List.drop_eq_getElem_cons hj', List.map_cons, List.cons_append, putF] at hT1
      have hk1 := hk.mono (w' := w1) (fun b hb => hI.chg.block b (by omega) (fun hs => by have := hSB b hs; omega)) (F' := Old w1) (fun b hb => (show b < w1.heap.size by omega))
      have hyr := okk _ (List.getElem_mem hj')
      (repeat (first | (apply EX.thenN) | (apply CW.seq) | (apply CW.region) | (apply CW.block) | (apply CW.skip)))
      refine WL.elemI rfl rfl rfl rfl rfl hk1 hj' rfl (fun _ => rfl) (fun q => ?_)
      generalize k[j] = y at *
      have hin : InE e (x, y) := ⟨hxr, hyr⟩
      (repeat (first | (apply WL.pure; rfl; rfl; rfl) | (apply WL.nil) | (apply EX.thenN) | (apply CW.seq) | (apply CW.region)))
      refine WL.build rfl rfl rfl rfl ?_
      have hadd := eadd_ok w1 hI.em (by omega) hin
      rw [show peV (x, y) = .agg [.int .i64 x, .int .i64 y].toArray from rfl] at hadd
      refine WL.call rfl rfl rfl hadd ?_
      rintro _ w2 ⟨lv2, rfl, hE2, hC2, hn2⟩
      have hlo1 := fun g hg => hI.own.lt g hg
      have hll1 := fun g hg => hI.em.lo.lt g hg
      have z2 := hC2.size
      have hov2 := hI.own.chg hC2 (fun b hb hs => by
        have := hlo1 b hb
        rcases hs with h' | h' | h'
        · omega
        · omega
        · exact hI.dis b hb h')
      have hC02 : Chg (emB sb mb lv) w0 w2 := hI.chg.then hC2 (fun b hs => by
        rcases hs with h' | h' | h'
        · exact .inl (.inl h')
        · exact .inl (.inr (.inl h'))
        · exact (hI.new b h').imp (fun h => .inr (.inr h)) id)
      have hn02 : ∀ g, lv2.ownBlock = some g → lv.ownBlock = some g ∨ w0.heap.size ≤ g := fun g hg => (hn2 g hg).elim (hI.new g) (fun h => .inr (by omega))
      have hd2 : ∀ g, ov.ownBlock = some g → lv2.ownBlock ≠ some g := fun g hg hl => (hn2 g hl).elim (hI.dis g hg) (fun h => by have := (hlo1 g hg).2; omega)
      by_cases hf : fitE e (x, y) = true
      · rw [if_pos hf] at hT1 hE2
        rw [if_pos hf]
        have hge0 : decide (((ps1.idxOf (x, y) : Nat) : Int) ≥ 0) = true := decide_eq_true (by omega)
        (repeat (first | (apply WL.pure; rfl; rfl; rfl) | (apply WL.nil) | (apply EX.thenN) | (apply CW.seq) | (apply CW.region) | (apply CW.condT; rfl)))
        rw [hge0]
        skip
        refine WL.app1 (α := Int) (F := Non) (bytes := 8) (yv := ((ps1.idxOf (x, y) : Nat) : Int)) rfl rfl (fun _ => rfl) rfl rfl (fun _ => rfl) hov2 (Rd.mkInt _ _ _) (by omega) (fun _ h => h.elim) (by decide) (by unfold maxLen; omega) (by omega) (fun ov' w3 q ho3 hg3 hnb3 => ?_)
        have hll2 := fun g hg => hE2.lo.lt g hg
        have hov2l := fun g hg => hov2.lt g hg
        have hE3 := hE2.chg (by omega) (Chg.of_grown hg3) (fun b hb => ⟨by have := (hov2l b hb).1; omega, by have := (hov2l b hb).1; omega, by have := (hov2l b hb).1; omega, hd2 b hb⟩)
        (repeat (first | (apply WL.add; rfl; rfl; rfl; rfl; omega; omega) | (apply WL.pure; rfl; rfl; rfl) | (apply WL.nil) | (apply EX.thenN) | (apply CW.region) | (apply EX.inN)))
        exact EX.back (j + 1, lv2, ov', _, _) (by repeat (first | exact trivial | refine ⟨rfl, ?_⟩)) ⟨hj', hT1, ⟨hE3, ho3, hC02.then (Chg.of_grown hg3) (fun b hb => .inr (hov2l b hb).1), hn02, fun g hg hl => (hnb3 g hg).elim (fun h => hd2 g h hl) (fun h => by have := (hll2 g hl).2.1; omega)⟩, by simp; omega⟩ (by dsimp only; omega)
      · rw [if_neg hf] at hT1 hE2
        rw [if_neg hf]
        (repeat (first | (apply WL.add; rfl; rfl; rfl; rfl; omega; omega) | (apply WL.pure; rfl; rfl; rfl) | (apply WL.nil) | (apply EX.thenN) | (apply CW.seq) | (apply CW.region) | (apply EX.inN) | (apply CW.condF; rfl) | (apply CW.skip)))
        exact EX.back (j + 1, lv2, ov, _, _) (by repeat (first | exact trivial | refine ⟨rfl, ?_⟩)) ⟨hj', hT1, ⟨hE2, hov2, hC02, hn02, hd2⟩, by dsimp only; omega⟩ (by dsimp only; omega)
    · obtain rfl : j = k.length := by simp at hc; omega
      rw [List.drop_length, List.map_nil, List.nil_append] at hT1
      (repeat (first | (apply WL.add; rfl; rfl; rfl; rfl; omega; omega) | (apply WL.pure; rfl; rfl; rfl) | (apply WL.nil) | (apply EX.thenN) | (apply CW.region) | (apply EX.inN) | (apply CW.exit) | (apply EX.thenX) | (apply EX.inX)))
      exact EX.back (i + 1, lv1, ov, ps1, out) (by repeat (first | exact trivial | refine ⟨rfl, ?_⟩)) ⟨hi', by rw [hR]; exact hT1, hI, by dsimp only; rw [hR]; omega⟩ (by dsimp only; omega)
  · obtain rfl : i = l.length := by simp at hc; omega
    rw [List.drop_length] at hT1
    have hT1 : (ps1, out) = G := hT1
    subst hT1
    (repeat (first | (apply WL.pure; rfl; rfl; rfl) | (apply WL.nil) | (apply EX.thenN) | (apply CW.seq) | (apply CW.region) | (apply CW.exit) | (apply EX.thenX) | (apply EX.inX) | (apply CW.ret)))
    exact EX.ret1 rfl rfl ⟨lv1, hI⟩
end Go.Proofs.YtllpfgcngokhnaaGreat

