import Derived.Test.YtadbkppgaekmpaaPtProcOwn9
/-
  Package space: the key of a marking; the search as it lies in memory.
-/
set_option linter.unusedVariables false
set_option linter.unusedSimpArgs false
namespace Go.Proofs.Ytadbkppgaekmpaa
open Go.RowKit

instance iSp1 : IsC Try.prog 163 10 true := IsC.of (by kernel_rfl) Try.underlying163 rfl
instance iSp2 : IsFd Try.prog 163 0 0 := IsFd.of (by kernel_rfl)
instance iSp3 : IsFd Try.prog 163 1 2 := IsFd.of (by kernel_rfl)
instance iSp4 : IsFd Try.prog 163 2 3 := IsFd.of (by kernel_rfl)
instance iSp5 : IsFd Try.prog 163 3 4 := IsFd.of (by kernel_rfl)
instance iSp6 : IsFd Try.prog 163 4 6 := IsFd.of (by kernel_rfl)
instance iSp7 : IsFd Try.prog 163 5 7 := IsFd.of (by kernel_rfl)
instance iSp8 : IsFd Try.prog 163 6 8 := IsFd.of (by kernel_rfl)
instance iSp9 : IsZC Try.prog 163 [.slice none 0 0, .slice none 0 0, .int .i64 0, .int .i64 0, .slice none 0 0, .slice none 0 0, .map none, .slice none 0 0, .int .i64 0, .int .i64 0] := IsZC.of (z := .agg #[.slice none 0 0, .slice none 0 0, .int .i64 0, .int .i64 0, .slice none 0 0, .slice none 0 0, .map none, .slice none 0 0, .int .i64 0, .int .i64 0]) (by kernel_rfl) rfl
instance iSp10 : IsBd Try.prog 163 [(0, 2), (2, 1), (3, 1), (4, 2), (6, 1), (7, 1), (8, 2)] := IsBd.of (by kernel_rfl)
instance iSp11 : IsC Try.prog 252 30 true := IsC.of (by kernel_rfl) Try.underlying252 rfl
abbrev zKey : List Value := [.int .i8 0, .int .i8 0, .int .i8 0, .int .i8 0, .int .i8 0, .int .i8 0, .int .i8 0, .int .i8 0, .int .i8 0, .int .i8 0, .int .i8 0, .int .i8 0, .int .i8 0, .int .i8 0, .int .i8 0, .int .i8 0, .int .i8 0, .int .i8 0, .int .i8 0, .int .i8 0, .int .i8 0, .int .i8 0, .int .i8 0, .int .i8 0, .int .i8 0, .int .i8 0, .int .i8 0, .int .i8 0, .int .i8 0, .int .i8 0]
instance iSp12 : IsZC Try.prog 252 zKey := IsZC.of (z := .agg zKey.toArray) (by kernel_rfl) rfl
instance iSp13 : IsA Try.prog 252 30 250 := ⟨Try.underlying252⟩
instance iSp14 : IsC Try.prog 250 1 false := IsC.of (by kernel_rfl) Try.underlying250 rfl
instance iSp15 : IsI Try.prog 250 .i8 := ⟨Try.underlying250⟩
instance iSp16 : IsM Try.prog 158 252 3 := ⟨Try.underlying158⟩
instance iSp17 : IsC Try.prog 158 1 false := IsC.of (by kernel_rfl) Try.underlying158 rfl
instance iSp18 : IsZ0 Try.prog 3 := ⟨by kernel_rfl⟩
theorem spLaid : laidOutB Try.prog = true := by kernel_rfl
instance iSp19 : IsKy Try.prog 252 := IsKy.of (m := 2) spLaid (by decide) (by kernel_rfl) (by kernel_rfl) Try.underlying252 rfl
abbrev keyV (m : List Int) : Value := .agg ((keyX m).map fun x => .int .i8 x).toArray
def Tok (m : List Int) : Prop := ∀ x ∈ m, 0 ≤ x ∧ x ≤ 9
theorem Tok.at {m : List Int} (h : Tok m) (j : Nat) : 0 ≤ m.getD j 0 ∧ m.getD j 0 ≤ 9 := by
  rw [List.getD_eq_getElem?_getD]
  cases hj : m[j]? with
  | none => exact ⟨Int.le_refl _, by decide⟩
  | some x => exact h x (List.mem_of_getElem? hj)
theorem keyV_key {m : List Int} (hm : Tok m) : KeyV Try.prog 252 (keyV m) :=
  KeyV.arr (n := 30) Try.underlying252 Try.underlying250 (by kernel_rfl) (by kernel_rfl) (by kernel_rfl) (by kernel_rfl) (keyX_len m) (fun x hx => by
    unfold keyX at hx
    obtain ⟨i, _, rfl⟩ := List.mem_map.1 hx
    have := hm.at i
    rw [List.getD_eq_getElem?_getD] at this
    simp [Lit.wf, IntKind.min, IntKind.max, IntKind.signed, IntKind.bits]
    omega)
theorem keyV_inj {a b : List Int} (ha : a.length ≤ 30) (h : a.length = b.length) (he : keyV a = keyV b) : a = b := by
  refine keyX_inj ha h ?_
  have h1 : ((keyX a).map fun x => Value.int .i8 x).toArray = ((keyX b).map fun x => Value.int .i8 x).toArray := by injection he
  have h2 : (keyX a).map (fun x => Value.int .i8 x) = (keyX b).map (fun x => Value.int .i8 x) := by simpa using h1
  exact List.map_inj_right (fun x y e => by injection e) |>.1 h2
theorem i8_wrap {x : Int} (h : 0 ≤ x ∧ x ≤ 9) : IntKind.i8.wrap x = x := by
  simp [IntKind.wrap, IntKind.bits, IntKind.signed]
  omega
@[irreducible] def keyU (m : List Int) (i : Nat) : List Value := (List.range 30).map fun j => .int .i8 (if j < i then m.getD j 0 else 0)
theorem keyU_len {m : List Int} {i : Nat} : (keyU m i).length = 30 := by simp [keyU]
theorem keyU_zero {m : List Int} : keyU m 0 = zKey := by
  unfold keyU
  simp only [Nat.not_lt_zero, if_false]
  rfl
theorem keyU_set {m : List Int} {i : Nat} (hi : i < m.length) : (keyU m i).set i (.int .i8 m[i]) = keyU m (i + 1) := by
  unfold keyU
  refine List.ext_getElem (by simp) fun j h1 h2 => ?_
  rw [List.getElem_set]
  simp only [List.getElem_map, List.getElem_range]
  by_cases e : i = j
  · subst e
    rw [if_pos rfl, if_pos (by omega), List.getD_eq_getElem?_getD, List.getElem?_eq_getElem hi]
    rfl
  · rw [if_neg e]
    by_cases hj : j < i
    · rw [if_pos hj, if_pos (by omega)]
    · rw [if_neg hj, if_neg (by omega)]
theorem keyU_all {m : List Int} : keyU m m.length = (keyX m).map fun x => .int .i8 x := by
  unfold keyU keyX
  rw [List.map_map]
  refine List.map_congr_left fun j _ => ?_
  show Value.int .i8 _ = Value.int .i8 _
  congr 1
  split
  · rfl
  · show (0 : Int) = m.getD j 0
    rw [List.getD_eq_getElem?_getD, List.getElem?_eq_none (by omega)]; rfl
theorem keyU_ones {m : List Int} {i : Nat} : ∀ u ∈ keyU m i, u.oneCell' = true := by
  intro u hu
  unfold keyU at hu
  obtain ⟨j, _, rfl⟩ := List.mem_map.1 hu
  rfl
theorem keyOf_ok (w0 : World) {mo : Option Addr} {mc : Nat} {m : List Int} (hm : Sl w0 (Old w0) mo mc m) (hl : m.length ≤ 30) (hx : Tok m) :
    Rt Try.prog 184 [.slice mo m.length mc].toArray w0 fun v w' => v = keyV m ∧ Ext w0 w' := by
  refine Rt.enter1 Try.func184 Try.ntmps184 rfl rfl ?_
  (repeat (first | (apply CW.seq) | (apply CW.region)))
  refine WL.alloc rfl rfl (fun w1 hb2 e1 => ?_)
  (repeat (first | (apply WL.nil) | (apply EX.thenN) | (apply CW.seq) | (apply CW.region)))
  refine WL.alloc rfl rfl (fun w2 hb3 e2 => ?_)
  have hl2 := hb2.lt
  have hb2 := hb2.ext e2
  have hE := e1.trans e2
  have hz1 := e1.size
  have hl1 : w0.heap.size ≠ w1.heap.size := by omega
  rw [← keyU_zero (m := m)] at hb3
  (repeat (first | (apply WL.pure; rfl; rfl; rfl) | (apply WL.nil) | (apply EX.thenN) | (apply CW.seq) | (apply CW.region) | (apply WL.lenS; rfl; rfl; rfl) | (apply CW.block)))
  refine CW.loop (S := Nat) (fun i => [(2, .pointer (some ⟨w0.heap.size, 0, none⟩)), (3, .pointer (some ⟨w1.heap.size, 0, none⟩)), (6, .slice mo m.length mc), (7, .int .i64 m.length), (8, .int .i64 i)])
    (fun i w => i ≤ m.length ∧ Ext w0 w ∧ Blk w w0.heap.size 252 zKey ∧ Blk w w1.heap.size 252 (keyU m i)) (fun i => m.length - i) 0 (by repeat (first | exact trivial | refine ⟨rfl, ?_⟩)) ⟨Nat.zero_le _, hE, hb2, hb3⟩ ?_
  clear hb2 hb3 hE
  rintro i w3 ⟨hi, hE, hb2, hb3⟩
  (repeat (first | (apply WL.pure; rfl; rfl; rfl) | (apply WL.nil) | (apply EX.thenN) | (apply CW.seq) | (apply CW.region)))
  refine CW.cond rfl (fun h => ?_) (fun h => ?_)
  · have hi' : i < m.length := by simp at h; omega
    have h09 := hx _ (List.getElem_mem hi')
    (repeat (first | (apply WL.pure; rfl; rfl; rfl) | (apply EX.thenN) | (apply CW.seq) | (apply CW.region) | (apply CW.block) | (apply CW.skip)))
    refine WL.elemI rfl rfl rfl rfl rfl (hm.up hE) hi' rfl (fun _ => rfl) (fun q => ?_)
    (repeat (first | (apply WL.pure; rfl; rfl; rfl) | (apply WL.nil) | (apply EX.thenN) | (apply CW.region)))
    refine WL.conv (k' := .i8) rfl rfl rfl ?_
    rw [i8_wrap h09]
    refine WL.idxA rfl rfl rfl rfl (by omega) ?_
    refine WL.st1 rfl rfl rfl hb3 (by rw [keyU_len]; omega) rfl rfl (fun w4 hb4 hg4 => ?_)
    rw [Nat.zero_add, keyU_set hi'] at hb4
    have hb2 := hb2.kept hg4 (fun e => hl1 (Option.some.inj e))
    have hE4 : Ext w0 w4 := hE.grown hg4 hE.size (fun g hg => by cases hg; exact hz1)
    (repeat (first | (apply WL.add; rfl; rfl; rfl; rfl; omega; omega) | (apply WL.pure; rfl; rfl; rfl) | (apply WL.nil) | (apply EX.thenN) | (apply CW.region) | (apply EX.inN)))
    exact EX.back (i + 1) (by repeat (first | exact trivial | refine ⟨rfl, ?_⟩)) ⟨hi', hE4, hb2, hb4⟩ (by omega)
  · obtain rfl : i = m.length := by simp at h; omega
    (repeat (first | (apply EX.thenN) | (apply CW.seq) | (apply CW.region) | (apply CW.exit) | (apply EX.thenX) | (apply EX.inX)))
    refine WL.ldAll rfl rfl rfl hb3 keyU_len ?_
    refine WL.stAll rfl rfl rfl hb2 keyU_len rfl keyU_ones (fun w4 hb4 hg4 => ?_)
    have hE4 : Ext w0 w4 := hE.grown hg4 hE.size (fun g hg => by cases hg; exact Nat.le_refl _)
    (repeat (first | (apply WL.nil) | (apply EX.thenN) | (apply CW.ret)))
    exact EX.retCA rfl rfl hb4 keyU_len ⟨by rw [keyU_all], hE4⟩

/- THE SEARCH IN MEMORY -/
structure SC where
  sb : Nat
  mb : Nat
  mv : Value
  nv : Value
  ov : Value
  mvs : List Raw
  nvs : List Raw
  p1 : Value
  p2 : Value
  tok : Int
  st : Int
  N : Nat
  /-- one more that is written meanwhile -/
  xt : Value
  /-- where the blocks of what is read begin -/
  lo : Nat
def busy (c : SC) : Nat → Prop := fun b => b = c.sb ∨ b = c.mb ∨ c.mv.ownBlock = some b ∨ c.nv.ownBlock = some b ∨ c.ov.ownBlock = some b ∨ c.xt.ownBlock = some b
/-- met, but none that the search may write -/
def Fb (c : SC) (w : World) : Nat → Prop := fun b => c.lo ≤ b ∧ b < w.heap.size ∧ ¬ busy c b
structure Inn {α : Type} [Rep α] (w : World) (c : SC) (vs : List Raw) (xs : List (List α)) : Prop where
  len : vs.length = xs.length
  el : ∀ i (h : i < vs.length) (h' : i < xs.length), ∃ ao cap, vs[i].v = .slice ao xs[i].length cap ∧ Sl w (Fb c w) ao cap xs[i]
  ty : ∀ i (h : i < vs.length), RowT (Fb c w) w (sz α) vs[i].v
theorem Fb.toT {w w' : World} {c c' : SC} {z : Nat} {v : Value} (h : RowT (Fb c w) w z v) (hc : Chg (busy c) w w') (hb : ∀ b, busy c' b → busy c b ∨ w.heap.size ≤ b) (hl : c'.lo ≤ c.lo := by exact Nat.le_refl _) : RowT (Fb c' w') w' z v :=
  h.to fun b hb1 _ => ⟨⟨Nat.le_trans hl hb1.1, Nat.lt_of_lt_of_le hb1.2.1 hc.size, fun h => (hb b h).elim hb1.2.2 (fun h => by have := hb1.2.1; omega)⟩, hc.block b hb1.2.1 hb1.2.2⟩
theorem Fb.to {α : Type} [Rep α] {w w' : World} {c c' : SC} {ao : Option Addr} {cap : Nat} {xs : List α} (h : Sl w (Fb c w) ao cap xs) (hc : Chg (busy c) w w') (hb : ∀ b, busy c' b → busy c b ∨ w.heap.size ≤ b) (hl : c'.lo ≤ c.lo := by exact Nat.le_refl _) : Sl w' (Fb c' w') ao cap xs :=
  h.mono (fun b hb1 => hc.block b hb1.2.1 hb1.2.2) fun b hb1 => ⟨Nat.le_trans hl hb1.1, Nat.lt_of_lt_of_le hb1.2.1 hc.size, fun h => (hb b h).elim hb1.2.2 (fun h => by have := hb1.2.1; omega)⟩
theorem Inn.to {α : Type} [Rep α] {w w' : World} {c c' : SC} {vs : List Raw} {xs : List (List α)} (h : Inn w c vs xs) (hc : Chg (busy c) w w') (hb : ∀ b, busy c' b → busy c b ∨ w.heap.size ≤ b) (hl : c'.lo ≤ c.lo := by exact Nat.le_refl _) : Inn w' c' vs xs :=
  ⟨h.len, fun i h1 h2 => by
    obtain ⟨ao, cap, e, hs⟩ := h.el i h1 h2
    exact ⟨ao, cap, e, Fb.to hs hc hb hl⟩, fun i h1 => Fb.toT (h.ty i h1) hc hb hl⟩
theorem Inn.push {α : Type} [Rep α] {w : World} {c : SC} {vs : List Raw} {xs : List (List α)} {ao : Option Addr} {cap : Nat} {m : List α} (h : Inn w c vs xs) (hm : Sl w (Fb c w) ao cap m) (hmT : RowT (Fb c w) w (sz α) (.slice ao m.length cap)) : Inn w c (vs ++ [⟨.slice ao m.length cap⟩]) (xs ++ [m]) := by
  refine ⟨by simp [h.len], fun i h1 h2 => ?_, fun i h1 => ?_⟩
  case refine_2 =>
    by_cases hi : i < vs.length
    · rw [List.getElem_append_left hi]; exact h.ty i hi
    · have hiv : i = vs.length := by simp at h1; omega
      subst hiv
      rw [List.getElem_append_right (Nat.le_refl _)]
      simpa using hmT
  by_cases hi : i < vs.length
  · have hi' : i < xs.length := by rw [← h.len]; exact hi
    obtain ⟨a, k, e, hs⟩ := h.el i hi hi'
    refine ⟨a, k, ?_, ?_⟩
    · rw [List.getElem_append_left hi, e]; simp only [List.getElem_append_left hi']
    · rw [List.getElem_append_left hi']; exact hs
  · have hiv : i = vs.length := by simp at h1; omega
    have hix : i = xs.length := by rw [← h.len]; exact hiv
    refine ⟨ao, cap, ?_, ?_⟩
    · rw [List.getElem_append_right (by omega), List.getElem_append_right (by omega)]
      simp [hiv, h.len]
    · rw [List.getElem_append_right (by omega)]
      simp only [hix, Nat.sub_self, List.getElem_cons_zero]
      exact hm
def ap (a b : Option Nat) : Prop := ∀ g, a = some g → b = some g → False
theorem ap.new {a a' b : Option Nat} {k : Nat} (h : ap a b) (hn : ∀ g, a' = some g → a = some g ∨ k ≤ g) (hb : ∀ g, b = some g → g < k) : ap a' b := fun g h1 h2 => by
  rcases hn g h1 with h3 | h3
  · exact h g h3 h2
  · have := hb g h2; omega
theorem ap.sym {a b : Option Nat} (h : ap a b) : ap b a := fun g h1 h2 => h g h2 h1
theorem ap.ne {a b : Option Nat} (h : ap a b) : ∀ g, b = some g → some g ≠ a := fun g h1 e => h g e.symm h1
structure ApartS (c : SC) : Prop where
  d01 : c.sb ≠ c.mb
  d02 : ap (some c.sb) c.mv.ownBlock
  d03 : ap (some c.sb) c.nv.ownBlock
  d04 : ap (some c.sb) c.ov.ownBlock
  d12 : ap (some c.mb) c.mv.ownBlock
  d13 : ap (some c.mb) c.nv.ownBlock
  d14 : ap (some c.mb) c.ov.ownBlock
  d23 : ap c.mv.ownBlock c.nv.ownBlock
  d24 : ap c.mv.ownBlock c.ov.ownBlock
  d34 : ap c.nv.ownBlock c.ov.ownBlock
  d05 : ap (some c.sb) c.xt.ownBlock
  d15 : ap (some c.mb) c.xt.ownBlock
  d25 : ap c.mv.ownBlock c.xt.ownBlock
  d35 : ap c.nv.ownBlock c.xt.ownBlock
  d45 : ap c.ov.ownBlock c.xt.ownBlock
structure Srch (w : World) (B : Nat) (c : SC) (s : Sr) (nx : List (List LEdge)) : Prop where
  blk : Blk w c.sb 163 [c.p1, c.p2, .int .i64 c.tok, .int .i64 c.st, c.mv, c.nv, .map (some c.mb), c.ov, .int .i64 s.2.2.1, .int .i64 s.2.2.2]
  num : NumM Try.prog 252 w c.mb (s.1.map keyV)
  mo : Own w B 22 Non c.mv c.mvs
  no : Own w B 74 Non c.nv c.nvs
  oo : Own w B 161 Non c.ov s.2.1
  mi : Inn w c c.mvs s.1
  ni : Inn w c c.nvs nx
  ge : B ≤ c.sb ∧ B ≤ c.mb
  lob : c.lo ≤ B
  xo : ∀ g, c.xt.ownBlock = some g → B ≤ g ∧ g < w.heap.size
  dis : ApartS c
  ok : ∀ m ∈ s.1, m.length = c.N ∧ Tok m
  nd : s.1.Nodup
  lim : (s.1.length : Int) ≤ c.st ∧ 0 < c.st ∧ c.st ≤ 200 ∧ s.2.1.length = s.1.length ∧ c.N ≤ 30
theorem busy_ge {w : World} {B : Nat} {c : SC} {s : Sr} {nx : List (List LEdge)} (h : Srch w B c s nx) : ∀ b, busy c b → B ≤ b ∧ b < w.heap.size := fun b hb => by
  rcases hb with rfl | rfl | hb | hb | hb | hb
  · exact ⟨h.ge.1, h.blk.lt⟩
  · exact ⟨h.ge.2, h.num.lt⟩
  · exact ⟨(h.mo.lt b hb).1, (h.mo.lt b hb).2.1⟩
  · exact ⟨(h.no.lt b hb).1, (h.no.lt b hb).2.1⟩
  · exact ⟨(h.oo.lt b hb).1, (h.oo.lt b hb).2.1⟩
  · exact h.xo b hb
theorem Chg.ofExt {S : Nat → Prop} {w w' : World} (h : Ext w w') : Chg S w w' := ⟨h.os, h.tape, h.output, h.size, fun b hb _ => h.block b hb⟩
theorem Srch.ext {w w' : World} {B : Nat} {c : SC} {s : Sr} {nx : List (List LEdge)} (h : Srch w B c s nx) (hE : Ext w w') : Srch w' B c s nx :=
  ⟨h.blk.ext hE, h.num.ext hE, h.mo.extN hE, h.no.extN hE, h.oo.extN hE, h.mi.to (.ofExt hE) (fun _ h => .inl h), h.ni.to (.ofExt hE) (fun _ h => .inl h), h.ge, h.lob, (fun g hg => ⟨(h.xo g hg).1, Nat.lt_of_lt_of_le (h.xo g hg).2 hE.size⟩), h.dis, h.ok, h.nd, h.lim⟩
end Go.Proofs.Ytadbkppgaekmpaa
/-
  Maps in drawn regions that only read.
-/
set_option linter.unusedVariables false
set_option linter.unusedSimpArgs false
namespace Go.Proofs.Ytadbkppgaekmpaa
open Go.RowKit

theorem nodup_get {α : Type} {l : List α} (h : l.Nodup) {i j : Nat} (hi : i < l.length) (hj : j < l.length) (e : l[i] = l[j]) : i = j := by
  have h := List.pairwise_iff_getElem.1 h
  rcases Nat.lt_trichotomy i j with hlt | he | hlt
  · exact absurd e (h i j hi hj hlt)
  · exact he
  · exact absurd e.symm (h j i hj hi hlt)
section
variable {P : Program} {Q : Exit → Act → World → Prop} {n : Nat} {σ : Sg} {w : World} {L rest : List Oper} {d : Nat} {ty : TypeId} {pos : String} {af : Array Edge} {g : Option (Nat × Bool)} {t k e : TypeId} {b : Nat} {ks : List Value} {x y z : Operand} {v : Value}
theorem QL.numNo (hg : gd L σ ⟨some d, .lookup t x y true, ty, pos, af, g⟩ = some true) (hd : Nat.ble (d + 1) n = true) (hx : ev σ x = some (.map (some b))) (hy : ev σ y = some v) [ht : IsM P t k e] [hk : IsKy P k] [hz : IsZ0 P e]
    (h : NumM P k w b ks) (hv : KeyV P k v) (hn : v ∉ ks) (hr : QL P L w Q rest n ((d, .tuple ⟨[.int .i64 0, .bool false]⟩) :: σ)) : QL P L w Q (⟨some d, .lookup t x y true, ty, pos, af, g⟩ :: rest) n σ := by
  refine QL.run hg hd (fun a ha w' hw' => ?_) hr
  rcases run_num (t := t) (h.ext hw') hv with ⟨_, g2⟩ | ⟨j, hj, g1, g2⟩
  · simp [execOp, ha.ev hx, ha.ev hy, g2]
  · exact absurd (g1 ▸ List.getElem_mem hj) hn
theorem QL.numYes {j : Nat} (hj : j < ks.length) (hjv : ks[j] = v) (hg : gd L σ ⟨some d, .lookup t x y true, ty, pos, af, g⟩ = some true) (hd : Nat.ble (d + 1) n = true) (hx : ev σ x = some (.map (some b))) (hy : ev σ y = some v) [ht : IsM P t k e] [hk : IsKy P k] [hz : IsZ0 P e]
    (h : NumM P k w b ks) (hv : KeyV P k v) (hr : QL P L w Q rest n ((d, .tuple ⟨[.int .i64 (j : Int), .bool true]⟩) :: σ)) : QL P L w Q (⟨some d, .lookup t x y true, ty, pos, af, g⟩ :: rest) n σ := by
  refine QL.run hg hd (fun a ha w' hw' => ?_) hr
  rcases run_num (t := t) (h.ext hw') hv with ⟨g1, _⟩ | ⟨i, hi, g1, g2⟩
  · exact absurd (hjv ▸ List.getElem_mem hj) g1
  · obtain ⟨_, _, _, _, _, _, hnd⟩ := h
    obtain rfl : i = j := nodup_get hnd hi hj (g1.trans hjv.symm)
    simp [execOp, ha.ev hx, ha.ev hy, g2]
end
theorem HL.ldAQ {P : Program} {Q : Exit → Act → World → Prop} {n : Nat} {σ : Sg} {w wc : World} {L : List Oper} {S : World → Prop} {ord : List (Nat × Bool)} {i d : Nat} {ty : TypeId} {pos : String} {af : Array Edge} {g : Option (Nat × Bool)} {t e : TypeId} {x : Operand} {b o k : Nat} {cells vs : List Value}
    (hK : ∀ w1, S w1 → w1.heap[b]? = w.heap[b]?) (ho : nthO L i = some ⟨some d, .load t x, ty, pos, af, g⟩) (hg : gd L σ ⟨some d, .load t x, ty, pos, af, g⟩ = some true) (hd : Nat.ble (d + 1) n = true) (hx : ev σ x = some (.pointer (some ⟨b, o, none⟩))) [hc : IsC P t k true] (hb : Blk w b e cells) (hv : segL cells o k = some vs)
    (h : HL P L S Q ord n ((d, .agg vs.toArray) :: σ) wc) : HL P L S Q ((i, true) :: ord) n σ wc := by
  refine HL.run ho hg hd (fun a ha w' hsw => ?_) h
  have hb' : Blk w' b e cells := (hK w' hsw).trans hb
  simp [execOp, ha.ev hx, run_ldA (P := P) (t := t) w' hb' hv]
end Go.Proofs.Ytadbkppgaekmpaa
/-
  Package space: state: walked.
-/
set_option linter.unusedVariables false
set_option linter.unusedSimpArgs false
namespace Go.Proofs.Ytadbkppgaekmpaa
open Go.RowKit

/-- what the search itself may write -/
def busyI (c : SC) : Nat → Prop := fun b => b = c.sb ∨ b = c.mb ∨ c.mv.ownBlock = some b ∨ c.nv.ownBlock = some b ∨ c.ov.ownBlock = some b ∨ False
theorem busyI.to {c : SC} {b : Nat} (h : busyI c b) : busy c b := by
  rcases h with h | h | h | h | h | h
  · exact .inl h
  · exact .inr (.inl h)
  · exact .inr (.inr (.inl h))
  · exact .inr (.inr (.inr (.inl h)))
  · exact .inr (.inr (.inr (.inr (.inl h))))
  · exact h.elim
theorem bI {c : SC} {w w' : World} (h : Chg (busyI c) w w') : Chg (busy c) w w' := ⟨h.os, h.tape, h.output, h.size, fun b hb hn => h.block b hb (fun k => hn k.to)⟩
theorem tooFn (w : World) (b3 : Nat) {c : SC} {u v : Value} {vs : List Value} (x : Int) (h3 : Blk w b3 155 [.pointer (some ⟨c.sb, 0, none⟩)]) (hb : Blk w c.sb 163 (u :: v :: .int .i64 c.tok :: vs)) :
    Rt Try.prog 183 [.int .i64 x, .pointer (some ⟨b3, 0, none⟩)].toArray w fun v w' => v = .bool (decide (x > c.tok)) ∧ Ext w w' := by
  refine Rt.enter2 Try.func183 Try.ntmps183 rfl rfl ?_
  (repeat (first | (apply WL.pure; rfl; rfl; rfl) | (apply WL.nil) | (apply EX.thenN) | (apply CW.seq) | (apply CW.region) | (apply WL.fa; rfl; rfl; rfl) | (apply WL.nck; rfl; rfl; rfl) | (apply WL.ld; rfl; rfl; rfl; assumption; rfl) | (apply CW.ret)))
  exact EX.ret1 rfl rfl ⟨rfl, Ext.refl w⟩
def SameC (c c' : SC) : Prop := c'.sb = c.sb ∧ c'.p1 = c.p1 ∧ c'.p2 = c.p2 ∧ c'.tok = c.tok ∧ c'.st = c.st ∧ c'.N = c.N ∧ c'.xt = c.xt ∧ c'.lo = c.lo
theorem SameC.trans {a b c : SC} (h : SameC a b) (k : SameC b c) : SameC a c := ⟨k.1.trans h.1, k.2.1.trans h.2.1, k.2.2.1.trans h.2.2.1, k.2.2.2.1.trans h.2.2.2.1, k.2.2.2.2.1.trans h.2.2.2.2.1, k.2.2.2.2.2.1.trans h.2.2.2.2.2.1, k.2.2.2.2.2.2.1.trans h.2.2.2.2.2.2.1, k.2.2.2.2.2.2.2.trans h.2.2.2.2.2.2.2⟩
/-- the step that is tried is noted -/
theorem Srch.last {w w' : World} {B : Nat} {c : SC} {s : Sr} {nx : List (List LEdge)} {fr : Int × Int} (h : Srch w B c s nx) (hg : w.grownBy w' (some c.sb)) (hb : Blk w' c.sb 163 [c.p1, c.p2, .int .i64 c.tok, .int .i64 c.st, c.mv, c.nv, .map (some c.mb), c.ov, .int .i64 fr.1, .int .i64 fr.2]) : Srch w' B c (s.1, s.2.1, fr) nx := by
  have hc : Chg (busy c) w w' := (Chg.refl _ w).grown hg (fun g hg => by cases hg; exact .inl rfl)
  exact ⟨hb, h.num.kept hg (fun e => h.dis.d01 (Option.some.inj e).symm), h.mo.keptN hg (fun g hg e => h.dis.d02 g e.symm hg), h.no.keptN hg (fun g hg e => h.dis.d03 g e.symm hg), h.oo.keptN hg (fun g hg e => h.dis.d04 g e.symm hg), h.mi.to hc (fun _ h => .inl h), h.ni.to hc (fun _ h => .inl h), h.ge, h.lob, (fun g k => ⟨(h.xo g k).1, Nat.lt_of_lt_of_le (h.xo g k).2 hg.size⟩), h.dis, h.ok, h.nd, h.lim⟩
theorem key_mem {m : List Int} {l : List (List Int)} {N : Nat} (hN : N ≤ 30) (hl : ∀ x ∈ l, x.length = N ∧ Tok x) (hm : m.length = N) : keyV m ∈ l.map keyV ↔ m ∈ l := by
  constructor
  · intro h
    obtain ⟨x, hx, e⟩ := List.mem_map.1 h
    obtain rfl := keyV_inj (by rw [(hl x hx).1]; exact hN) (by rw [(hl x hx).1, hm]) e
    exact hx
  · exact fun h => List.mem_map.2 ⟨m, h, rfl⟩
set_option maxHeartbeats 1000000 in
theorem state_ok {B : Nat} (w0 : World) {c : SC} {s : Sr} {nx : List (List LEdge)} (hS : Srch w0 B c s nx) (hBw : B ≤ w0.heap.size) {mo : Option Addr} {mc : Nat} {m : List Int} (hm : Sl w0 (Fb c w0) mo mc m) (hmT : RowT (Fb c w0) w0 1 (.slice mo m.length mc)) (hN : m.length = c.N) (hT : Tok m) (fr : Int × Int) :
    Rt Try.prog 143 [.pointer (some ⟨c.sb, 0, none⟩), .slice mo m.length mc, .agg [.int .i64 fr.1, .int .i64 fr.2].toArray].toArray w0 fun v w' => ∃ c', v = .tuple ⟨[.int .i64 (putE c.tok c.st s m fr).2.1, .int .i64 (putE c.tok c.st s m fr).2.2]⟩ ∧
      Srch w' B c' (putE c.tok c.st s m fr).1 nx ∧ SameC c c' ∧ Chg (busyI c) w0 w' ∧ ∀ b, busy c' b → busy c b ∨ w0.heap.size ≤ b := by
  have same : SameC c c := ⟨rfl, rfl, rfl, rfl, rfl, rfl, rfl, rfl⟩
  have hbg := busy_ge hS
  refine Rt.enter3 Try.func143 Try.ntmps143 rfl rfl ?_
  (repeat (first | (apply CW.seq) | (apply CW.region)))
  refine WL.boxB rfl rfl rfl fun w1 hb3 e1 => ?_
  skip
  refine WL.boxB rfl rfl rfl fun w2 hb5 e2 => ?_
  have hl3 := hb3.lt
  have hb3 := hb3.ext e2
  have e2 := e1.trans e2
  have hS2 := hS.ext e2
  have hm2 := Fb.to hm (.ofExt e2) (fun _ h => .inl h)
  have hblk := hS2.blk
  have hz1 := e1.size
  have hn3 : ∀ b, busy c b → b ≠ w0.heap.size := fun b hb e => by have := hbg b hb; omega
  have hn5 : ∀ b, busy c b → b ≠ w1.heap.size := fun b hb e => by have := hbg b hb; omega
  (repeat (first | (apply WL.pure; rfl; rfl; rfl) | (apply WL.nil) | (apply EX.thenN) | (apply CW.seq) | (apply CW.region) | (apply WL.fa; rfl; rfl; rfl) | (apply WL.nck; rfl; rfl; rfl) | (apply WL.ld; rfl; rfl; rfl; assumption; rfl) | (apply WL.ldA; rfl; rfl; rfl; assumption; rfl)))
  refine WL.st rfl rfl rfl hblk rfl rfl (ones_of rfl) (fun w3 hb hg3 => ?_)
  have hb3 := hb3.kept hg3 (fun e => hn3 c.sb (.inl rfl) (Option.some.inj e).symm)
  have hb5 := hb5.kept hg3 (fun e => hn5 c.sb (.inl rfl) (Option.some.inj e).symm)
  have hS3 := hS2.last hg3 hb
  have hC3 : Chg (busyI c) w0 w3 := (Chg.ofExt e2).grown hg3 (fun g hg => by cases hg; exact .inl rfl)
  have hm3 := Fb.to hm (bI hC3) (fun _ h => .inl h)
  clear hblk hg3 hm2 hS2
  (repeat (first | (apply WL.pure; rfl; rfl; rfl) | (apply WL.nil) | (apply EX.thenN) | (apply CW.seq) | (apply CW.region) | (apply WL.makeFunc; rfl; rfl; rfl; rfl)))
  refine WL.call rfl rfl rfl (containsFunc_int w3 (fun x => decide (x > c.tok)) (hm3.mono (fun _ _ => rfl) (fun b hb => hb.2.1)) (fun w hE i hi => FnV.mk (cs := [_]) (tooFn w _ _ (hb3.ext hE) (hb.ext hE)))) ?_
  rintro _ w4 ⟨rfl, e4⟩
  have hb3 := hb3.ext e4
  have hb5 := hb5.ext e4
  have hS4 := hS3.ext e4
  have hC4 : Chg (busyI c) w0 w4 := ⟨e4.os.trans hC3.os, e4.tape.trans hC3.tape, e4.output.trans hC3.output, Nat.le_trans hC3.size e4.size, fun b hb hn => (e4.block b (Nat.lt_of_lt_of_le hb hC3.size)).trans (hC3.block b hb hn)⟩
  have hm4 := Fb.to hm (bI hC4) (fun _ h => .inl h)
  clear hb hS3 hm3 e4
  unfold putE
  (repeat (first | (apply WL.nil) | (apply EX.thenN)))
  refine CW.cond rfl (fun h => ?_) (fun h => ?_)
  · rw [if_pos (show tooMany c.tok m = true from h)]
    (repeat (first | (apply WL.pure; rfl; rfl; rfl) | (apply WL.nil) | (apply EX.thenN) | (apply CW.seq) | (apply CW.region) | (apply CW.ret) | (apply EX.thenR)))
    exact EX.ret2 rfl rfl rfl ⟨c, rfl, hS4, same, hC4, fun _ h => .inl h⟩
  rw [if_neg (show ¬ tooMany c.tok m = true by rw [show tooMany c.tok m = false from h]; decide)]
  have hkey := keyV_key hT
  have hmem := key_mem hS4.lim.2.2.2.2 hS4.ok hN
  have hmold : Sl w4 (Old w4) mo mc m := hm4.mono (fun _ _ => rfl) (fun b hb => hb.2.1)
  have h30 : m.length ≤ 30 := by rw [hN]; exact hS4.lim.2.2.2.2
  have hblk := hS4.blk
  dsimp only at hblk hmem
  (repeat (first | (apply QL.pure; rfl; rfl; rfl) | (apply EX.thenN) | (apply CW.seq) | (apply QL.fa; rfl; rfl; rfl) | (apply QL.nck; rfl; rfl; rfl) | (apply QL.ld; rfl; rfl; rfl; assumption; rfl) | (apply CW.skip) | (apply CW.draw; exact mixed; kernel_rfl)))
  refine QL.call rfl rfl rfl (fun w hE => keyOf_ok w (hmold.up hE) h30 hT) ?_
  by_cases hin : m ∈ s.1
  · rw [if_pos hin]
    obtain ⟨j, hj, hjm⟩ := List.mem_iff_getElem.1 hin
    rw [posOf_at hj hS.nd hjm]
    refine QL.numYes (j := j) (by simpa using hj) (by rw [List.getElem_map, hjm]) rfl rfl rfl rfl hS4.num hkey ?_
    (repeat (apply QL.pure; rfl; rfl; rfl))
    refine QL.nil (fun w5 e5 => ?_)
    have hC5 : Chg (busyI c) w0 w5 := ⟨e5.os.trans hC4.os, e5.tape.trans hC4.tape, e5.output.trans hC4.output, Nat.le_trans hC4.size e5.size, fun b hb hn => (e5.block b (Nat.lt_of_lt_of_le hb hC4.size)).trans (hC4.block b hb hn)⟩
    (repeat (first | (apply WL.pure; rfl; rfl; rfl) | (apply WL.nil) | (apply EX.thenN) | (apply CW.seq) | (apply CW.region) | (apply CW.condT; rfl) | (apply CW.ret) | (apply EX.thenR)))
    exact EX.ret2 rfl rfl rfl ⟨c, rfl, hS4.ext e5, same, hC5, fun _ h => .inl h⟩
  rw [if_neg hin]
  refine QL.numNo rfl rfl rfl rfl hS4.num hkey (fun h => hin (hmem.1 h)) ?_
  (repeat (apply QL.pure; rfl; rfl; rfl))
  refine QL.nil (fun w5 e5 => ?_)
  have hb3 := hb3.ext e5
  have hb5 := hb5.ext e5
  have hC5 : Chg (busyI c) w0 w5 := ⟨e5.os.trans hC4.os, e5.tape.trans hC4.tape, e5.output.trans hC4.output, Nat.le_trans hC4.size e5.size, fun b hb hn => (e5.block b (Nat.lt_of_lt_of_le hb hC4.size)).trans (hC4.block b hb hn)⟩
  have hS5 := hS4.ext e5
  clear hblk hm4 hmold hS4 e5
  obtain ⟨sb, mb, mv, nv, ov, mvs, nvs, p1, p2, tok, st, N, xt, lo⟩ := c
  dsimp only at *
  have hmoA := hS5.mo
  have hooA := hS5.oo
  dsimp only at hmoA hooA
  obtain ⟨ao, ac, rfl⟩ := hmoA.val
  obtain ⟨oo, oc, rfl⟩ := hooA.val
  have hml := hS5.mi.len
  dsimp only at hml
  have hblk := hS5.blk
  have hlim := hS5.lim
  dsimp only at hlim hblk
  rw [hml] at hblk
  (repeat (first | (apply WL.pure; rfl; rfl; rfl) | (apply WL.nil) | (apply EX.thenN) | (apply CW.seq) | (apply CW.region) | (apply WL.lenS; rfl; rfl; rfl) | (apply WL.fa; rfl; rfl; rfl) | (apply WL.nck; rfl; rfl; rfl) | (apply WL.ld; rfl; rfl; rfl; assumption; rfl) | (apply CW.condF; rfl) | (apply CW.skip)))
  refine CW.cond rfl (fun h => ?_) (fun h => ?_)
  · have h : (s.1.length : Int) = st := by simpa using h
    rw [if_pos h]
    (repeat (first | (apply WL.pure; rfl; rfl; rfl) | (apply WL.nil) | (apply EX.thenN) | (apply CW.seq) | (apply CW.region) | (apply CW.ret) | (apply EX.thenR)))
    exact EX.ret2 rfl rfl rfl ⟨_, rfl, hS5, same, hC5, fun _ h => .inl h⟩
  have h : ¬ (s.1.length : Int) = st := by simpa using h
  rw [if_neg h]
  have hm5 := Fb.to hm (bI hC5) (fun _ h => .inl h)
  have hmo5 : Sl w5 (Old w5) mo mc m := hm5.mono (fun _ _ => rfl) (fun b hb => hb.2.1)
  have hdis := hS5.dis
  have hD : Ext w5 (drew w5) := Ext.drew w5
  have hlsb := hblk.lt
  have hlmb := hS5.num.lt
  have hl35 := hb3.lt
  have hz5 := hC5.size
  -- the map
  have hb3d := hb3.ext hD
  have hblkd := hblk.ext hD
  have hK3 : ∀ u, (fun x : World => x.heap[w0.heap.size]? = (drew w5).heap[w0.heap.size]? ∧ x.heap[sb]? = (drew w5).heap[sb]?) u → u.heap[w0.heap.size]? = (drew w5).heap[w0.heap.size]? := fun _ h => h.1
  have hKs : ∀ u, (fun x : World => x.heap[w0.heap.size]? = (drew w5).heap[w0.heap.size]? ∧ x.heap[sb]? = (drew w5).heap[sb]?) u → u.heap[sb]? = (drew w5).heap[sb]? := fun _ h => h.2
  (repeat (first | (apply EX.thenN) | (apply CW.seq) | (apply CW.skip)))
  refine CW.drawH (fun x : World => x.heap[w0.heap.size]? = (drew w5).heap[w0.heap.size]? ∧ x.heap[sb]? = (drew w5).heap[sb]?) [(0, true), (1, true), (2, true), (3, true), (4, true), (6, true), (5, false), (7, false)] mixed (by kernel_rfl) ⟨rfl, rfl⟩ ?_
  (repeat (first | (apply HL.pure; rfl; rfl; rfl; rfl) | (refine HL.fa rfl rfl rfl rfl ?_) | (apply HL.nck; rfl; rfl; rfl; rfl) | (refine HL.ldK (by assumption) rfl rfl rfl rfl (by assumption) rfl ?_)))
  refine HL.mut rfl (WL.call rfl rfl rfl (keyOf_ok (drew w5) (hmo5.up hD) h30 hT) ?_)
  rintro _ w6 ⟨rfl, e6⟩
  have hE6 := hD.trans e6
  refine WL.nil (EX.mut ⟨e6.block _ (Nat.lt_of_lt_of_le hl35 hD.size), e6.block _ (Nat.lt_of_lt_of_le hlsb hD.size)⟩ ?_)
  have hS6 := hS5.ext hE6
  have hnum6 := hS6.num
  dsimp only at hnum6
  skip
  refine HL.mut rfl (WL.numPut (ks := s.1.map keyV) rfl rfl rfl (by simp [ev, fnd, List.length_map]) hnum6 hkey (fun h => hin (hmem.1 h)) (fun w7 hnum7 hg7 => ?_))
  have hl31 : w0.heap.size ≠ mb := fun e => hn3 mb (.inr (.inl rfl)) e.symm
  refine WL.nil (EX.mut ⟨?_, ?_⟩ (HL.nil ?_))
  · exact (hg7.block _ (Nat.lt_of_lt_of_le hl35 hE6.size) (fun e => hl31 (Option.some.inj e))).trans (e6.block _ (Nat.lt_of_lt_of_le hl35 hD.size))
  · exact (hg7.block _ (Nat.lt_of_lt_of_le hlsb hE6.size) (fun e => hdis.d01 (Option.some.inj e))).trans (e6.block _ (Nat.lt_of_lt_of_le hlsb hD.size))
  have hb3 : Blk w7 w0.heap.size 155 [.pointer (some ⟨sb, 0, none⟩)] := (hb3d.ext e6).kept hg7 (fun e => hl31 (Option.some.inj e))
  have hb5 : Blk w7 w1.heap.size 161 [.int .i64 fr.1, .int .i64 fr.2] := (hb5.ext hE6).kept hg7 (fun e => hn5 mb (.inr (.inl rfl)) (Option.some.inj e).symm)
  have hblk : Blk w7 sb 163 _ := (hblkd.ext e6).kept hg7 (fun e => hdis.d01 (Option.some.inj e))
  have hmo := hS6.mo.keptN hg7 (fun g hg e => hdis.d12 g e.symm hg)
  have hno := hS6.no.keptN hg7 (fun g hg e => hdis.d13 g e.symm hg)
  have hoo := hS6.oo.keptN hg7 (fun g hg e => hdis.d14 g e.symm hg)
  dsimp only at hmo hno hoo
  rw [hml] at hmo
  have hC7 : Chg (busyI ⟨sb, mb, .slice ao mvs.length ac, nv, .slice oo s.2.1.length oc, mvs, nvs, p1, p2, tok, st, N, xt, lo⟩) w0 w7 :=
    (⟨hE6.os.trans hC5.os, hE6.tape.trans hC5.tape, hE6.output.trans hC5.output, Nat.le_trans hC5.size hE6.size, fun b hb hn => (hE6.block b (Nat.lt_of_lt_of_le hb hC5.size)).trans (hC5.block b hb hn)⟩ : Chg _ w0 w6).grown hg7 (fun g hg => by cases hg; exact .inr (.inl rfl))
  rw [hml] at hC7 hn3 hn5 hbg hdis
  have hz7 := hC7.size
  clear hnum6 hS6 hK3 hKs hb3d hblkd hg7 e6 hE6 hD
  -- the marking
  have hD : Ext w7 (drew w7) := Ext.drew w7
  have hlsb := hblk.lt
  have hl37 := hb3.lt
  have hl57 := hb5.lt
  have hb3d := hb3.ext hD
  have hb5d := hb5.ext hD
  have hblkd := hblk.ext hD
  have hK3 : ∀ u, (fun x : World => x.heap[w0.heap.size]? = (drew w7).heap[w0.heap.size]? ∧ x.heap[sb]? = (drew w7).heap[sb]?) u → u.heap[w0.heap.size]? = (drew w7).heap[w0.heap.size]? := fun _ h => h.1
  have hKs : ∀ u, (fun x : World => x.heap[w0.heap.size]? = (drew w7).heap[w0.heap.size]? ∧ x.heap[sb]? = (drew w7).heap[sb]?) u → u.heap[sb]? = (drew w7).heap[sb]? := fun _ h => h.2
  have hlen200 : s.1.length ≤ 200 := by omega
  (repeat (first | (apply EX.thenN) | (apply CW.seq)))
  refine CW.drawE (fun x : World => x.heap[w0.heap.size]? = (drew w7).heap[w0.heap.size]? ∧ x.heap[sb]? = (drew w7).heap[sb]?) [(0, true), (1, true), (2, true), (3, true), (4, true), (5, true), (6, true), (7, false), (8, false), (9, false), (10, false), (11, false)] 12 mixed (by kernel_rfl) ⟨rfl, rfl⟩ ?_
  (repeat (first | (apply HL.pure; rfl; rfl; rfl; rfl) | (refine HL.fa rfl rfl rfl rfl ?_) | (apply HL.nck; rfl; rfl; rfl; rfl) | (refine HL.ldK (by assumption) rfl rfl rfl rfl (by assumption) rfl ?_)))
  refine HL.app1 (α := Raw) (F := Non) (bytes := 24) (yv := (⟨.slice mo m.length mc⟩ : Raw)) rfl rfl rfl rfl (fun _ => rfl) rfl rfl (fun _ => rfl) (hmo.extN hD) (Rd.mkRaw _ _ _ rfl) (Nat.le_trans hBw (Nat.le_trans hz7 hD.size)) (fun _ h => h.elim) (by decide) (by rw [hml]; unfold maxLen; omega) (by rw [hml]; omega)
    (fun z hz => ⟨hz.block _ (Nat.lt_of_lt_of_le hl37 hD.size) (fun e => hn3 _ (.inr (.inr (.inl e.symm))) rfl), hz.block _ (Nat.lt_of_lt_of_le hlsb hD.size) (fun e => hdis.d02 _ rfl e.symm)⟩) (fun mv' w9 p9 ho9 hg9 hnb9 => ?_)
  obtain ⟨ao', ac', rfl⟩ := ho9.val
  have hb3 := hb3d.kept hg9 (fun e => hn3 _ (.inr (.inr (.inl e.symm))) rfl)
  have hb5 := hb5d.kept hg9 (fun e => hn5 _ (.inr (.inr (.inl e.symm))) rfl)
  have hblk := hblkd.kept hg9 (fun e => hdis.d02 _ rfl e.symm)
  have hnum := (hnum7.ext hD).kept hg9 (fun e => hdis.d12 _ rfl e.symm)
  have hno := (hno.extN hD).keptN hg9 (fun g hg e => hdis.d23 g e.symm hg)
  have hoo := (hoo.extN hD).keptN hg9 (fun g hg e => hdis.d24 g e.symm hg)
  have hS9 : w9.heap[w0.heap.size]? = (drew w7).heap[w0.heap.size]? ∧ w9.heap[sb]? = (drew w7).heap[sb]? := ⟨hg9.block _ (Nat.lt_of_lt_of_le hl37 hD.size) (fun e => hn3 _ (.inr (.inr (.inl e.symm))) rfl), hg9.block _ (Nat.lt_of_lt_of_le hlsb hD.size) (fun e => hdis.d02 _ rfl e.symm)⟩
  refine HL.mut rfl (WL.nck rfl rfl rfl (WL.nil (EX.mut hS9 ?_)))
  refine HL.mut rfl (WL.fa rfl rfl rfl (WL.nil (EX.mut hS9 ?_)))
  refine HL.mut rfl (WL.fa rfl rfl rfl (WL.nil (EX.mut hS9 (HL.nil ?_))))
  refine EX.tail rfl (WL.st rfl rfl rfl hblk rfl rfl (ones_of rfl) (fun w10 hblk hg10 => WL.nil (EX.tailE ?_)))
  have hz9 := hg9.size
  have hzd := hD.size
  have hnew : ∀ g, Value.ownBlock (.slice ao' (mvs ++ [(⟨.slice mo m.length mc⟩ : Raw)]).length ac') = some g → Value.ownBlock (.slice ao s.1.length ac) = some g ∨ w7.heap.size ≤ g := fun g hg => (hnb9 g hg).imp id (fun h => Nat.le_trans hzd h)
  have hlt7 : ∀ b, busy ⟨sb, mb, .slice ao s.1.length ac, nv, .slice oo s.2.1.length oc, mvs, nvs, p1, p2, tok, st, N, xt, lo⟩ b → b < w7.heap.size := fun b hb => Nat.lt_of_lt_of_le (hbg b hb).2 hz7
  have n2 : ap (Value.ownBlock (.slice ao' (mvs ++ [(⟨.slice mo m.length mc⟩ : Raw)]).length ac')) (some sb) := hdis.d02.sym.new hnew (fun g hg => by cases hg; exact hlt7 _ (.inl rfl))
  have n12 : ap (Value.ownBlock (.slice ao' (mvs ++ [(⟨.slice mo m.length mc⟩ : Raw)]).length ac')) (some mb) := hdis.d12.sym.new hnew (fun g hg => by cases hg; exact hlt7 _ (.inr (.inl rfl)))
  have n23 : ap (Value.ownBlock (.slice ao' (mvs ++ [(⟨.slice mo m.length mc⟩ : Raw)]).length ac')) nv.ownBlock := hdis.d23.new hnew (fun g hg => hlt7 _ (.inr (.inr (.inr (.inl hg)))))
  have n24 : ap (Value.ownBlock (.slice ao' (mvs ++ [(⟨.slice mo m.length mc⟩ : Raw)]).length ac')) (Value.ownBlock (.slice oo s.2.1.length oc)) := hdis.d24.new hnew (fun g hg => hlt7 _ (.inr (.inr (.inr (.inr (.inl hg))))))
  have n25 : ap (Value.ownBlock (.slice ao' (mvs ++ [(⟨.slice mo m.length mc⟩ : Raw)]).length ac')) xt.ownBlock := hdis.d25.new hnew (fun g hg => hlt7 _ (.inr (.inr (.inr (.inr (.inr hg))))))
  have hb3 := hb3.kept hg10 (fun e => hn3 sb (.inl rfl) (Option.some.inj e).symm)
  have hb5 := hb5.kept hg10 (fun e => hn5 sb (.inl rfl) (Option.some.inj e).symm)
  have hnum := hnum.kept hg10 (fun e => hdis.d01 (Option.some.inj e).symm)
  have ho10 := ho9.keptN hg10 (fun g hg e => n2 g hg e.symm)
  have hno := hno.keptN hg10 (fun g hg e => hdis.d03 g e.symm hg)
  have hoo := hoo.keptN hg10 (fun g hg e => hdis.d04 g e.symm hg)
  have hC10 := ((hC7.grown (⟨hD.os, hD.tape, hD.output, hD.size, fun b hb _ => hD.block b hb⟩ : w7.grownBy (drew w7) none) (fun g hg => by cases hg)).grown hg9 (fun g hg => .inr (.inr (.inl hg)))).grown hg10 (fun g hg => by cases hg; exact .inl rfl)
  have hz10 := hC10.size
  have hz710 : w7.heap.size ≤ w10.heap.size := Nat.le_trans hzd (Nat.le_trans hz9 hg10.size)
  have hlt10 : ∀ g, Value.ownBlock (.slice ao' (mvs ++ [(⟨.slice mo m.length mc⟩ : Raw)]).length ac') = some g → g < w10.heap.size := fun g hg => (ho10.lt g hg).2.1
  clear hmo hnum7 hblkd hb3d hb5d hK3 hKs hD hg9 hg10 ho9 hS9
  -- its origin
  have hD : Ext w10 (drew w10) := Ext.drew w10
  have hlsb := hblk.lt
  have hl37 := hb3.lt
  have hl57 := hb5.lt
  have hb3d := hb3.ext hD
  have hb5d := hb5.ext hD
  have hblkd := hblk.ext hD
  have hK3 : ∀ u, (fun x : World => x.heap[w0.heap.size]? = (drew w10).heap[w0.heap.size]? ∧ x.heap[sb]? = (drew w10).heap[sb]? ∧ x.heap[w1.heap.size]? = (drew w10).heap[w1.heap.size]?) u → u.heap[w0.heap.size]? = (drew w10).heap[w0.heap.size]? := fun _ h => h.1
  have hKs : ∀ u, (fun x : World => x.heap[w0.heap.size]? = (drew w10).heap[w0.heap.size]? ∧ x.heap[sb]? = (drew w10).heap[sb]? ∧ x.heap[w1.heap.size]? = (drew w10).heap[w1.heap.size]?) u → u.heap[sb]? = (drew w10).heap[sb]? := fun _ h => h.2.1
  have hK5 : ∀ u, (fun x : World => x.heap[w0.heap.size]? = (drew w10).heap[w0.heap.size]? ∧ x.heap[sb]? = (drew w10).heap[sb]? ∧ x.heap[w1.heap.size]? = (drew w10).heap[w1.heap.size]?) u → u.heap[w1.heap.size]? = (drew w10).heap[w1.heap.size]? := fun _ h => h.2.2
  (repeat (first | (apply EX.thenN) | (apply CW.seq)))
  refine CW.drawE (fun x : World => x.heap[w0.heap.size]? = (drew w10).heap[w0.heap.size]? ∧ x.heap[sb]? = (drew w10).heap[sb]? ∧ x.heap[w1.heap.size]? = (drew w10).heap[w1.heap.size]?) [(0, true), (1, true), (2, true), (3, true), (4, true), (5, true), (6, false), (7, false), (8, false), (9, false)] 10 mixed (by kernel_rfl) ⟨rfl, rfl, rfl⟩ ?_
  (repeat (first | (refine HL.fa rfl rfl rfl rfl ?_) | (apply HL.nck; rfl; rfl; rfl; rfl) | (refine HL.ldK (by assumption) rfl rfl rfl rfl (by assumption) rfl ?_)))
  refine HL.ldAQ hK5 rfl rfl rfl rfl hb5d rfl ?_
  refine HL.app1 (α := Int × Int) (F := Non) (bytes := 16) (yv := fr) rfl rfl rfl rfl (fun _ => rfl) rfl rfl (fun _ => rfl) (hoo.extN hD) (Rd.mkPr (c1 := [.int .i64 fr.1]) (c2 := [.int .i64 fr.2]) (rd_mkInt _ _ _) (rd_mkInt _ _ _)) (Nat.le_trans hBw (Nat.le_trans hz10 hD.size)) (fun _ h => h.elim) (by decide) (by rw [hlim.2.2.2.1]; unfold maxLen; omega) (by rw [hlim.2.2.2.1]; omega)
    (fun z hz => ⟨hz.block _ (Nat.lt_of_lt_of_le hl37 hD.size) (fun e => hn3 _ (.inr (.inr (.inr (.inr (.inl e.symm))))) rfl), hz.block _ (Nat.lt_of_lt_of_le hlsb hD.size) (fun e => hdis.d04 _ rfl e.symm), hz.block _ (Nat.lt_of_lt_of_le hl57 hD.size) (fun e => hn5 _ (.inr (.inr (.inr (.inr (.inl e.symm))))) rfl)⟩) (fun ov' w12 p12 ho12 hg12 hnb12 => ?_)
  obtain ⟨oo', oc', rfl⟩ := ho12.val
  have hblk := hblkd.kept hg12 (fun e => hdis.d04 _ rfl e.symm)
  have hnum := (hnum.ext hD).kept hg12 (fun e => hdis.d14 _ rfl e.symm)
  have hno := (hno.extN hD).keptN hg12 (fun g hg e => hdis.d34 g hg e.symm)
  have ho10 := (ho10.extN hD).keptN hg12 (fun g hg e => n24 g hg e.symm)
  have hS12 : w12.heap[w0.heap.size]? = (drew w10).heap[w0.heap.size]? ∧ w12.heap[sb]? = (drew w10).heap[sb]? ∧ w12.heap[w1.heap.size]? = (drew w10).heap[w1.heap.size]? := ⟨hg12.block _ (Nat.lt_of_lt_of_le hl37 hD.size) (fun e => hn3 _ (.inr (.inr (.inr (.inr (.inl e.symm))))) rfl), hg12.block _ (Nat.lt_of_lt_of_le hlsb hD.size) (fun e => hdis.d04 _ rfl e.symm), hg12.block _ (Nat.lt_of_lt_of_le hl57 hD.size) (fun e => hn5 _ (.inr (.inr (.inr (.inr (.inl e.symm))))) rfl)⟩
  refine HL.mut rfl (WL.nck rfl rfl rfl (WL.nil (EX.mut hS12 ?_)))
  refine HL.mut rfl (WL.fa rfl rfl rfl (WL.nil (EX.mut hS12 (HL.nil ?_))))
  refine EX.tail rfl (WL.st rfl rfl rfl hblk rfl rfl (ones_of rfl) (fun w13 hblk hg13 => WL.nil (EX.tailE ?_)))
  have hzd := hD.size
  have hnew2 : ∀ g, Value.ownBlock (.slice oo' (s.2.1 ++ [fr]).length oc') = some g → Value.ownBlock (.slice oo s.2.1.length oc) = some g ∨ w10.heap.size ≤ g := fun g hg => (hnb12 g hg).imp id (fun h => Nat.le_trans hzd h)
  have m4 : ap (Value.ownBlock (.slice oo' (s.2.1 ++ [fr]).length oc')) (some sb) := hdis.d04.sym.new hnew2 (fun g hg => by cases hg; exact hlsb)
  have m14 : ap (Value.ownBlock (.slice oo' (s.2.1 ++ [fr]).length oc')) (some mb) := hdis.d14.sym.new hnew2 (fun g hg => by cases hg; exact Nat.lt_of_lt_of_le (hlt7 _ (.inr (.inl rfl))) hz710)
  have m34 : ap (Value.ownBlock (.slice oo' (s.2.1 ++ [fr]).length oc')) nv.ownBlock := hdis.d34.sym.new hnew2 (fun g hg => Nat.lt_of_lt_of_le (hlt7 _ (.inr (.inr (.inr (.inl hg))))) hz710)
  have m24 : ap (Value.ownBlock (.slice oo' (s.2.1 ++ [fr]).length oc')) (Value.ownBlock (.slice ao' (mvs ++ [(⟨.slice mo m.length mc⟩ : Raw)]).length ac')) := n24.sym.new hnew2 hlt10
  have m45 : ap (Value.ownBlock (.slice oo' (s.2.1 ++ [fr]).length oc')) xt.ownBlock := hdis.d45.new hnew2 (fun g hg => Nat.lt_of_lt_of_le (hlt7 _ (.inr (.inr (.inr (.inr (.inr hg)))))) hz710)
  have hno := hno.keptN hg13 (fun g hg e => hdis.d03 g e.symm hg)
  have hnum := hnum.kept hg13 (fun e => hdis.d01 (Option.some.inj e).symm)
  have hmoF := ho10.keptN hg13 (fun g hg e => n2 g hg e.symm)
  have hooF := ho12.keptN hg13 (fun g hg e => m4 g hg e.symm)
  have hC13 := ((hC10.grown (⟨hD.os, hD.tape, hD.output, hD.size, fun b hb _ => hD.block b hb⟩ : w10.grownBy (drew w10) none) (fun g hg => by cases hg)).grown hg12 (fun g hg => .inr (.inr (.inr (.inr (.inl hg)))))).grown hg13 (fun g hg => by cases hg; exact .inl rfl)
  have hbusy : ∀ b, busy ⟨sb, mb, .slice ao' (mvs ++ [(⟨.slice mo m.length mc⟩ : Raw)]).length ac', nv, .slice oo' (s.2.1 ++ [fr]).length oc', mvs ++ [(⟨.slice mo m.length mc⟩ : Raw)], nvs, p1, p2, tok, st, N, xt, lo⟩ b →
      busy ⟨sb, mb, .slice ao s.1.length ac, nv, .slice oo s.2.1.length oc, mvs, nvs, p1, p2, tok, st, N, xt, lo⟩ b ∨ w0.heap.size ≤ b := by
    intro b hb
    rcases hb with h | h | h | h | h | h
    · exact .inl (.inl h)
    · exact .inl (.inr (.inl h))
    · exact (hnew b h).imp (fun h => .inr (.inr (.inl h))) (fun h => by omega)
    · exact .inl (.inr (.inr (.inr (.inl h))))
    · exact (hnew2 b h).imp (fun h => .inr (.inr (.inr (.inr (.inl h))))) (fun h => by omega)
    · exact .inl (.inr (.inr (.inr (.inr (.inr h)))))
  rw [hml] at hS hm hmT same
  have hmi := (hS.mi.to (bI hC13) hbusy).push (Fb.to hm (bI hC13) hbusy) (Fb.toT hmT (bI hC13) hbusy)
  have hni := hS.ni.to (bI hC13) hbusy
  dsimp only at hmi hni
  have hml2 : (mvs ++ [(⟨.slice mo m.length mc⟩ : Raw)]).length = s.1.length + 1 := by rw [List.length_append, hml]; rfl
  (repeat (first | (apply WL.pure; rfl; rfl; rfl) | (apply WL.nil) | (apply EX.thenN) | (apply CW.seq) | (apply CW.region) | (apply CW.ret)))
  rw [hml]
  refine EX.ret2 rfl rfl rfl ⟨⟨sb, mb, .slice ao' (mvs ++ [(⟨.slice mo m.length mc⟩ : Raw)]).length ac', nv, .slice oo' (s.2.1 ++ [fr]).length oc', mvs ++ [(⟨.slice mo m.length mc⟩ : Raw)], nvs, p1, p2, tok, st, N, xt, lo⟩, rfl, ?_, same, hC13, hbusy⟩
  refine ⟨hblk, ?_, hmoF, hno, hooF, hmi, hni, hS.ge, hS.lob, (fun g hg => ⟨(hS.xo g hg).1, Nat.lt_of_lt_of_le (hS.xo g hg).2 hC13.size⟩), ⟨hdis.d01, n2.sym, hdis.d03, m4.sym, n12.sym, hdis.d13, m14.sym, n23, m24.sym, m34.sym, hdis.d05, hdis.d15, n25, hdis.d35, m45⟩, ?_, ?_, ?_⟩
  · dsimp only
    rw [List.map_append]
    exact hnum
  · intro x hx
    rcases List.mem_append.1 hx with hx | hx
    · exact hS.ok x hx
    · rw [List.mem_singleton] at hx; subst hx; exact ⟨hN, hT⟩
  · rw [List.nodup_append]
    refine ⟨hS.nd, by simp, fun a ha b hb e => ?_⟩
    rw [List.mem_singleton] at hb
    subst hb; subst e; exact hin ha
  · have := hlim
    dsimp only
    simp only [List.length_append, List.length_cons, List.length_nil]
    omega
end Go.Proofs.Ytadbkppgaekmpaa
/-
  Package space: edges: walked.
-/
set_option linter.unusedVariables false
set_option linter.unusedSimpArgs false
namespace Go.Proofs.Ytadbkppgaekmpaa
open Go.RowKit

theorem Chg.step {S S' : Nat → Prop} {w0 w w' : World} (h : Chg S w0 w) (k : Chg S' w w') (hS : ∀ b, S' b → S b ∨ w0.heap.size ≤ b) : Chg S w0 w' :=
  ⟨k.os.trans h.os, k.tape.trans h.tape, k.output.trans h.output, Nat.le_trans h.size k.size, fun b hb hn => (k.block b (Nat.lt_of_lt_of_le hb h.size) (fun hs => (hS b hs).elim hn (fun h => by omega))).trans (h.block b hb hn)⟩
theorem Chg.stepE {S : Nat → Prop} {w0 w w' : World} (h : Chg S w0 w) (k : Ext w w') : Chg S w0 w' := h.step (S' := fun _ => False) (.ofExt k) (fun _ h => h.elim)
theorem Chg.stepG {S : Nat → Prop} {w0 w w' : World} {row : Option Nat} (h : Chg S w0 w) (k : w.grownBy w' row) (hS : ∀ b, row = some b → S b ∨ w0.heap.size ≤ b) : Chg S w0 w' :=
  h.step (S' := fun b => row = some b) ⟨k.os, k.tape, k.output, k.size, fun b hb hn => k.block b hb (fun e => hn e.symm)⟩ hS
/-- the blocks that were there before the search began -/
def Lw (B : Nat) : Nat → Prop := fun b => b < B
theorem Lw.at {α : Type} [Rep α] {w w' : World} {B : Nat} {S : Nat → Prop} {ao : Option Addr} {cap : Nat} {xs : List α} (h : Sl w (Lw B) ao cap xs) (hc : Chg S w w') (hB : B ≤ w.heap.size) (hS : ∀ b, S b → B ≤ b) : Sl w' (Lw B) ao cap xs :=
  h.mono (fun b hb => hc.block b (Nat.lt_of_lt_of_le hb hB) (fun hs => by have := hS b hs; have : b < B := hb; omega)) fun _ h => h
theorem Lw.old {α : Type} [Rep α] {w : World} {B : Nat} {ao : Option Addr} {cap : Nat} {xs : List α} (h : Sl w (Lw B) ao cap xs) (hB : B ≤ w.heap.size) : Sl w (Old w) ao cap xs := h.mono (fun _ _ => rfl) fun b hb => Nat.lt_of_lt_of_le hb hB
theorem putE_grows {tok st : Int} {s : Sr} {m : List Int} {fr : Int × Int} : (putE tok st s m fr).1.1 = s.1 ∨ (putE tok st s m fr).1.1 = s.1 ++ [m] := by
  unfold putE
  split
  · exact .inl rfl
  split
  · exact .inl rfl
  split
  · exact .inl rfl
  · exact .inr rfl
theorem grows_at {l l' : List (List Int)} {m m' : List Int} {n : Nat} (h : l' = l ∨ l' = l ++ [m']) (hn : n < l.length) (hm : l.getD n [] = m) : n < l'.length ∧ l'.getD n [] = m := by
  rcases h with rfl | rfl
  · exact ⟨hn, hm⟩
  · refine ⟨by simp; omega, ?_⟩
    rw [List.getD_eq_getElem?_getD, List.getElem?_append_left hn, ← List.getD_eq_getElem?_getD]; exact hm
theorem tok_mark {p : LProc} {m : List Int} (hl : m.length = p.2.length) (hT : Tok m) : MarkOk p m := ⟨hl, fun j => hT.at j⟩
theorem mark_tok {p : LProc} {m : List Int} (h : MarkOk p m) : Tok m := fun x hx => by
  obtain ⟨j, hj, rfl⟩ := List.mem_iff_getElem.1 hx
  have := h.2 j
  rwa [getDm_at hj] at this
theorem fire_mark {p : LProc} {m : List Int} {k : Int} (hm : MarkOk p m) (h : (fireE p m k).2 = 0) : MarkOk p (fireE p m k).1 := by
  obtain ⟨_, hst⟩ := fireE_ok h
  exact fire_next hm hst.2.2.1 hst.2.2.2
def SameX (c c' : SC) : Prop := c'.sb = c.sb ∧ c'.p1 = c.p1 ∧ c'.p2 = c.p2 ∧ c'.tok = c.tok ∧ c'.st = c.st ∧ c'.N = c.N ∧ c'.lo = c.lo
theorem SameX.trans {a b c : SC} (h : SameX a b) (k : SameX b c) : SameX a c := ⟨k.1.trans h.1, k.2.1.trans h.2.1, k.2.2.1.trans h.2.2.1, k.2.2.2.1.trans h.2.2.2.1, k.2.2.2.2.1.trans h.2.2.2.2.1, k.2.2.2.2.2.1.trans h.2.2.2.2.2.1, k.2.2.2.2.2.2.trans h.2.2.2.2.2.2⟩
theorem SameC.x {a b : SC} (h : SameC a b) : SameX a b := ⟨h.1, h.2.1, h.2.2.1, h.2.2.2.1, h.2.2.2.2.1, h.2.2.2.2.2.1, h.2.2.2.2.2.2.2⟩
/-- the list beside the search grows, or another takes its place -/
theorem Srch.grow {w w' : World} {B : Nat} {c : SC} {s : Sr} {nx : List (List LEdge)} {x' : Value} (h : Srch w B c s nx) (hg : w.grownBy w' c.xt.ownBlock) (hnb : ∀ g, x'.ownBlock = some g → c.xt.ownBlock = some g ∨ w.heap.size ≤ g) (hlt : ∀ g, x'.ownBlock = some g → B ≤ g ∧ g < w'.heap.size) :
    Srch w' B ⟨c.sb, c.mb, c.mv, c.nv, c.ov, c.mvs, c.nvs, c.p1, c.p2, c.tok, c.st, c.N, x', c.lo⟩ s nx ∧ (∀ b, busy ⟨c.sb, c.mb, c.mv, c.nv, c.ov, c.mvs, c.nvs, c.p1, c.p2, c.tok, c.st, c.N, x', c.lo⟩ b → busy c b ∨ w.heap.size ≤ b) := by
  have hd := h.dis
  have hc : Chg (busy c) w w' := (Chg.refl _ w).grown hg (fun g hg => .inr (.inr (.inr (.inr (.inr hg)))))
  have hb : ∀ b, busy ⟨c.sb, c.mb, c.mv, c.nv, c.ov, c.mvs, c.nvs, c.p1, c.p2, c.tok, c.st, c.N, x', c.lo⟩ b → busy c b ∨ w.heap.size ≤ b := by
    intro b hb
    rcases hb with h | h | h | h | h | h
    · exact .inl (.inl h)
    · exact .inl (.inr (.inl h))
    · exact .inl (.inr (.inr (.inl h)))
    · exact .inl (.inr (.inr (.inr (.inl h))))
    · exact .inl (.inr (.inr (.inr (.inr (.inl h)))))
    · exact (hnb b h).imp (fun h => .inr (.inr (.inr (.inr (.inr h))))) id
  have hl := busy_ge h
  have na : ∀ {a : Option Nat}, ap a c.xt.ownBlock → (∀ g, a = some g → g < w.heap.size) → ap a x'.ownBlock := fun k kl => (k.sym.new hnb kl).sym
  refine ⟨⟨h.blk.kept hg (fun e => hd.d05 _ rfl e.symm), h.num.kept hg (fun e => hd.d15 _ rfl e.symm), h.mo.keptN hg (fun g k e => hd.d25 g k e.symm), h.no.keptN hg (fun g k e => hd.d35 g k e.symm), h.oo.keptN hg (fun g k e => hd.d45 g k e.symm), h.mi.to hc hb, h.ni.to hc hb, h.ge, h.lob, hlt,
    ⟨hd.d01, hd.d02, hd.d03, hd.d04, hd.d12, hd.d13, hd.d14, hd.d23, hd.d24, hd.d34, na hd.d05 (fun g e => by cases e; exact (hl _ (.inl rfl)).2), na hd.d15 (fun g e => by cases e; exact (hl _ (.inr (.inl rfl))).2), na hd.d25 (fun g e => (hl _ (.inr (.inr (.inl e)))).2), na hd.d35 (fun g e => (hl _ (.inr (.inr (.inr (.inl e))))).2), na hd.d45 (fun g e => (hl _ (.inr (.inr (.inr (.inr (.inl e)))))).2)⟩, h.ok, h.nd, h.lim⟩, hb⟩
set_option maxHeartbeats 2000000 in
theorem edges_ok {B : Nat} (w0 : World) {c : SC} {s : Sr} {nx : List (List LEdge)} {so fo : Option Addr} {sc fc : Nat} {ns : List LNode} {fl : List LFlow} (hS : Srch w0 B c s nx) (hBw : B ≤ w0.heap.size) (hs : Sl w0 (Lw B) so sc ns) (hf : Sl w0 (Lw B) fo fc fl)
    (hp1 : c.p1 = .slice so ns.length sc) (hp2 : c.p2 = .slice fo fl.length fc) (hcN : c.N = fl.length) (hz : (stepsE (ns, fl)).2 = 0) (hxt : c.xt = .slice none 0 0) {n : Nat} (hn : n < s.1.length) :
    Rt Try.prog 144 [.pointer (some ⟨c.sb, 0, none⟩), .int .i64 (n : Int)].toArray w0 fun v w' => ∃ c' x, v = .tuple ⟨[x, .int .i64 (edgesE (ns, fl) c.tok c.st n s).2.2]⟩ ∧ Srch w' B c' (edgesE (ns, fl) c.tok c.st n s).1 nx ∧ SameX c c' ∧
      Chg (busy c) w0 w' ∧ (∀ b, busy c' b → busy c b ∨ w0.heap.size ≤ b) ∧ Own w' w0.heap.size 77 Non x (edgesE (ns, fl) c.tok c.st n s).2.1 ∧ ∀ g, x.ownBlock = some g → c'.xt.ownBlock = some g := by
  have hbg := busy_ge hS
  have hBb : ∀ b, busy c b → B ≤ b := fun b h => (hbg b h).1
  have hlo := hS.lob
  have hmok : ∀ m ∈ s.1, MarkOk (ns, fl) m := fun m hm => tok_mark (by rw [(hS.ok m hm).1]; exact hcN) (hS.ok m hm).2
  obtain ⟨m, hmd⟩ : ∃ m, m = s.1.getD n [] := ⟨_, rfl⟩
  have hmn : s.1[n] = m := by rw [hmd, List.getD_eq_getElem?_getD, List.getElem?_eq_getElem hn]; rfl
  have hmk : MarkOk (ns, fl) m := hmok m (hmn ▸ List.getElem_mem hn)
  have hcm := markOk_chk hz hmk
  unfold edgesE
  rw [← hmd]
  refine Rt.enter2 Try.func144 Try.ntmps144 rfl rfl ?_
  -- what is read of a search: the marking n, and the process
  have hread : ∀ {w : World} {d : SC} {r : Sr}, Srch w B d r nx → n < r.1.length ∧ r.1.getD n [] = m → ∃ ao ac, d.mv = .slice ao d.mvs.length ac ∧ ∃ hv : n < d.mvs.length, Sl w (Old w) ao ac d.mvs ∧ ∃ mo mc, d.mvs[n].v = .slice mo m.length mc ∧ Sl w (Old w) mo mc m := by
    intro w d r hR hr
    obtain ⟨ao, ac, hv, hsl⟩ := hR.mo.oldN.sl
    have hlen := hR.mi.len
    have hn1 : n < d.mvs.length := by rw [hlen]; exact hr.1
    obtain ⟨mo, mc, he, hms⟩ := hR.mi.el n hn1 hr.1
    obtain ⟨hr1, hr2⟩ := hr
    have e1 : r.1[n] = m := by
      rw [List.getD_eq_getElem?_getD, List.getElem?_eq_getElem hr1] at hr2
      exact hr2
    rw [e1] at he hms
    exact ⟨ao, ac, hv, hn1, hsl, mo, mc, he, hms.mono (fun _ _ => rfl) (fun b hb => hb.2.1)⟩
  have hD : Ext w0 (drew w0) := Ext.drew w0
  obtain ⟨ao, ac, hmv, hnv, hsl, mo, mc, hmvn, hmo⟩ := hread hS ⟨hn, hmd.symm⟩
  have hblk := hS.blk
  rw [hmv, hp1, hp2] at hblk
  (repeat (first | (apply WL.pure; rfl; rfl; rfl) | (apply WL.nil) | (apply EX.thenN) | (apply CW.seq) | (apply CW.region)))
  have hSE : ∀ w1, (fun x => Ext w0 x) w1 → Ext w0 w1 := fun _ h => h
  refine CW.drawH (fun x => Ext w0 x) [(0, true), (1, true), (2, true), (3, true), (4, true), (5, true), (6, true), (7, true), (8, true), (9, true), (10, true), (11, true), (12, false), (13, true), (14, true), (15, true), (16, true), (17, true)] mixed (by kernel_rfl) hD ?_
  (repeat (first | (apply HL.pure; rfl; rfl; rfl; rfl) | (refine HL.fa rfl rfl rfl rfl ?_) | (apply HL.nck; rfl; rfl; rfl; rfl) | (refine HL.ld (by assumption) rfl rfl rfl rfl (by assumption) rfl ?_) | (refine HL.ldA (by assumption) rfl rfl rfl rfl (by assumption) rfl ?_)))
  refine HL.elemK (w := w0) (F := Old w0) (fun z hz b hb => hz.block b hb) rfl rfl rfl rfl rfl rfl rfl hsl hnv (fun _ => rfl) (fun u q hu => ?_)
  obtain ⟨rfl, _⟩ := hu.raw
  rw [hmvn]
  refine HL.mut rfl (WL.call rfl rfl rfl (Enabled_ok (drew w0) ((hs.mono (fun _ _ => rfl) fun _ h => h : Sl (drew w0) (Lw B) so sc ns) |> fun h => Lw.old h (Nat.le_trans hBw hD.size)) ((hf.mono (fun _ _ => rfl) fun _ h => h : Sl (drew w0) (Lw B) fo fc fl) |> fun h => Lw.old h (Nat.le_trans hBw hD.size)) (hmo.up hD)) ?_)
  rintro _ w1 ⟨x, rfl, hox, e1⟩
  have hE1 := hD.trans e1
  refine WL.nil (EX.mut hE1 ?_)
  rw [if_pos hcm] at hox
  rw [hcm]
  obtain ⟨xo, xc, rfl, hxs⟩ := hox.slF (F' := fun b => w0.heap.size ≤ b ∧ b < w1.heap.size) (fun _ h => h.elim) (fun g hg => ⟨Nat.le_trans hD.size (hox.lt g hg).1, (hox.lt g hg).2.1⟩)
  have hcan : canE (ns, fl) m = canL (ns, fl) m := by unfold canE; rw [if_pos hcm]
  have hcl := canE_len (p := (ns, fl)) (m := m)
  rw [hcan] at hcl ⊢
  generalize canL (ns, fl) m = can at *
  (repeat (first | (apply HL.pure; rfl; rfl; rfl; rfl) | (apply HL.nil)))
  (repeat (first | (apply WL.pure; rfl; rfl; rfl) | (apply WL.nil) | (apply EX.thenN) | (apply CW.seq) | (apply CW.region) | (apply WL.lenS; rfl; rfl; rfl) | (apply CW.block)))
  refine CW.loop (S := Nat × SC × Sr × List LEdge) (fun t => [(0, .pointer (some ⟨c.sb, 0, none⟩)), (1, .int .i64 (n : Int)), (6, t.2.1.xt), (30, .slice xo can.length xc), (31, .int .i64 can.length), (32, .int .i64 t.1)])
    (fun t w => t.1 ≤ can.length ∧ edgesGo (ns, fl) c.tok c.st (n : Int) m (can.drop t.1) t.2.2.1 t.2.2.2 = edgesGo (ns, fl) c.tok c.st (n : Int) m can s [] ∧ Srch w B t.2.1 t.2.2.1 nx ∧ SameX c t.2.1 ∧ Chg (busy c) w0 w ∧ (∀ b, busy t.2.1 b → busy c b ∨ w0.heap.size ≤ b) ∧ Own w w0.heap.size 77 Non t.2.1.xt t.2.2.2 ∧ t.2.2.2.length ≤ t.1
      ∧ n < t.2.2.1.1.length ∧ t.2.2.1.1.getD n [] = m ∧ Sl w (Fb t.2.1 w) xo xc can) (fun t => can.length - t.1) (0, c, s, []) (by rw [hxt]; exact (by repeat (first | exact trivial | refine ⟨rfl, ?_⟩))) ⟨Nat.zero_le _, by rw [List.drop_zero], hS.ext hE1, ⟨rfl, rfl, rfl, rfl, rfl, rfl, rfl⟩, .ofExt hE1, fun _ h => .inl h, by rw [hxt]; exact Own.nil, Nat.le_refl _, hn, hmd.symm,
      hxs.mono (fun _ _ => rfl) (fun b hb => ⟨by show c.lo ≤ b; have := hb.1; have := hlo; omega, hb.2, fun h => by have := (hbg b h).2; have := hb.1; omega⟩)⟩ ?_
  clear hblk hxs hox hsl hmo hmv hmvn hS
  rintro ⟨i, d, r, out⟩ w2 ⟨hi, hT, hS, hsx, hC, hby, hxo, hol, hrn, hrm, hxs⟩
  dsimp only at hi hT hS hsx hC hby hxo hol hrn hrm hxs ⊢
  obtain ⟨sb, mb, mv, nv, ov, mvs, nvs, p1, p2, tok, st, N, xt, lo⟩ := d
  obtain ⟨q1, q2, q3, q4, q5, q6, q7⟩ := hsx
  dsimp only at q1 q2 q3 q4 q5 q6 q7 hxo
  subst q1 q4 q5 q7
  rw [hp1] at q2
  rw [hp2] at q3
  rw [hcN] at q6
  subst q2 q3 q6
  have hz2 := hC.size
  have hB2 : B ≤ w2.heap.size := Nat.le_trans hBw hz2
  have hbg2 := busy_ge hS
  (repeat (first | (apply WL.pure; rfl; rfl; rfl) | (apply WL.nil) | (apply EX.thenN) | (apply CW.seq) | (apply CW.region)))
  refine CW.cond rfl (fun h => ?_) (fun h => ?_)
  · have hi' : i < can.length := by simp at h; omega
    rw [List.drop_eq_getElem_cons hi', edgesGo] at hT
    have hblk := hS.blk
    (repeat (first | (apply EX.thenN) | (apply CW.seq) | (apply CW.region) | (apply CW.block) | (apply CW.skip)))
    refine WL.elemI rfl rfl rfl rfl rfl hxs hi' rfl (fun _ => rfl) (fun q => ?_)
    generalize can[i] = k at *
    (repeat (first | (apply WL.pure; rfl; rfl; rfl) | (apply WL.nil) | (apply EX.thenN) | (apply CW.seq) | (apply CW.region)))
    refine WL.build rfl rfl rfl rfl ?_
    (repeat (first | (apply WL.fa; rfl; rfl; rfl) | (apply WL.nck; rfl; rfl; rfl)))
    refine WL.st rfl rfl rfl hblk rfl rfl (ones_of rfl) (fun w3 hblk3 hg3 => ?_)
    have hS3 := hS.last (fr := ((n : Int), k)) hg3 hblk3
    have hC3 : Chg (busy c) w0 w3 := hC.stepG hg3 (fun b h => by cases h; exact hby _ (.inl rfl))
    have hxs3 := Fb.to hxs ((Chg.refl _ w2).grown hg3 (fun g h => by cases h; exact .inl rfl)) (fun _ h => .inl h)
    have hxo3 := hxo.keptN hg3 (fun g hg e => hS.dis.d05 g e.symm hg)
    obtain ⟨ao, ac, hmv, hnv, hsl, mo, mc, hmvn, hmo⟩ := hread hS3 ⟨hrn, hrm⟩
    dsimp only at hmv hnv hsl hmvn
    subst hmv
    have hblk := hblk3
    have hD : Ext w3 (drew w3) := Ext.drew w3
    have hSE : ∀ w1, (fun x => Ext w3 x) w1 → Ext w3 w1 := fun _ h => h
    have hB3 : B ≤ w3.heap.size := Nat.le_trans hBw hC3.size
    have hs3 := Lw.at hs hC3 hBw hBb
    have hf3 := Lw.at hf hC3 hBw hBb
    clear hblk3 hg3
    (repeat (first | (apply WL.nil) | (apply EX.thenN) | (apply CW.seq)))
    refine CW.drawH (fun x => Ext w3 x) [(0, true), (1, true), (2, true), (3, true), (4, true), (5, true), (6, true), (7, true), (8, true), (9, true), (10, true), (11, true), (12, true), (13, false), (14, true), (15, true), (16, true), (17, true), (18, true)] mixed (by kernel_rfl) hD ?_
    (repeat (first | (apply HL.pure; rfl; rfl; rfl; rfl) | (refine HL.fa rfl rfl rfl rfl ?_) | (apply HL.nck; rfl; rfl; rfl; rfl) | (refine HL.ld (by assumption) rfl rfl rfl rfl (by assumption) rfl ?_) | (refine HL.ldA (by assumption) rfl rfl rfl rfl (by assumption) rfl ?_)))
    refine HL.elemK (w := w3) (F := Old w3) (fun z hz b hb => hz.block b hb) rfl rfl rfl rfl rfl rfl rfl hsl hnv (fun _ => rfl) (fun u q hu => ?_)
    obtain ⟨rfl, _⟩ := hu.raw
    rw [hmvn]
    (repeat (apply HL.pure; rfl; rfl; rfl; rfl))
    refine HL.mut rfl (WL.call rfl rfl rfl (Fire_ok (drew w3) ((Lw.old hs3 hB3).up hD) ((Lw.old hf3 hB3).up hD) (hmo.up hD) k) ?_)
    rintro _ w4 ⟨x, rfl, hoy, e4⟩
    have hE4 := hD.trans e4
    refine WL.nil (EX.mut hE4 ?_)
    (repeat (first | (apply HL.pure; rfl; rfl; rfl; rfl) | (apply HL.nil)))
    have hS4 := hS3.ext hE4
    have hC4 := hC3.stepE hE4
    have hxs4 := Fb.to hxs3 (.ofExt hE4) (fun _ h => .inl h)
    have hxo4 := hxo3.extN hE4
    have hlt3 : ∀ b, busy ⟨c.sb, mb, .slice ao mvs.length ac, nv, ov, mvs, nvs, .slice so ns.length sc, .slice fo fl.length fc, c.tok, c.st, fl.length, xt, c.lo⟩ b → b < w3.heap.size := fun b hb => (busy_ge hS3 b hb).2
    by_cases he : (fireE (ns, fl) m k).2 = 0
    case neg =>
      have hz1 : ((fireE (ns, fl) m k).2 != 0) = true := by simpa using he
      rw [if_pos he] at hT
      rw [← hT]
      (repeat (first | (apply WL.pure; rfl; rfl; rfl) | (apply WL.nil) | (apply EX.thenN) | (apply CW.seq) | (apply CW.region)))
      rw [hz1]
      (repeat (first | (apply WL.pure; rfl; rfl; rfl) | (apply WL.nil) | (apply EX.thenN) | (apply CW.seq) | (apply CW.region) | (apply CW.condT; rfl) | (apply CW.ret) | (apply EX.thenR) | (apply EX.inR)))
      exact EX.ret2 rfl rfl rfl ⟨_, _, rfl, hS4, ⟨rfl, hp1.symm, hp2.symm, rfl, rfl, hcN.symm, rfl⟩, hC4, hby, Own.nil, fun g hg => by cases hg⟩
    rw [if_neg (by simp [he])] at hT
    have hmk4 := fire_mark hmk he
    have hT4 := mark_tok hmk4
    rw [he]
    generalize (fireE (ns, fl) m k).1 = m' at *
    have hyT := hoy.rowT (F := Fb ⟨c.sb, mb, .slice ao mvs.length ac, nv, ov, mvs, nvs, .slice so ns.length sc, .slice fo fl.length fc, c.tok, c.st, fl.length, xt, c.lo⟩ w4) (fun g hg => ⟨by have := (hoy.lt g hg).1; have := hD.size; have := hlo; dsimp only; omega, (hoy.lt g hg).2.1, fun h => by have := hlt3 g h; have := (hoy.lt g hg).1; have := hD.size; omega⟩)
    obtain ⟨yo, yc, rfl, hys⟩ := hoy.slF (F' := Fb ⟨c.sb, mb, .slice ao mvs.length ac, nv, ov, mvs, nvs, .slice so ns.length sc, .slice fo fl.length fc, c.tok, c.st, fl.length, xt, c.lo⟩ w4) (fun _ h => h.elim) (fun g hg => ⟨by have := (hoy.lt g hg).1; have := hD.size; have := hlo; dsimp only; omega, (hoy.lt g hg).2.1, fun h => by have := hlt3 g h; have := (hoy.lt g hg).1; have := hD.size; omega⟩)
    (repeat (first | (apply WL.pure; rfl; rfl; rfl) | (apply WL.nil) | (apply EX.thenN) | (apply CW.seq) | (apply CW.region) | (apply CW.condF; rfl) | (apply CW.skip)))
    refine WL.build rfl rfl rfl rfl ?_
    refine WL.call rfl rfl rfl (state_ok w4 hS4 (Nat.le_trans hBw hC4.size) hys hyT hmk4.1 hT4 ((n : Int), k)) ?_
    rintro _ w5 ⟨d', rfl, hS5, hsc, hC5, hby5⟩
    dsimp only at hS5 hsc
    have hpe : putE c.tok c.st (r.1, r.2.1, ((n : Int), k)) m' ((n : Int), k) = putE c.tok c.st r m' ((n : Int), k) := rfl
    rw [hpe] at hS5 ⊢
    have hby' : ∀ b, busy d' b → busy c b ∨ w0.heap.size ≤ b := fun b h => (hby5 b h).elim (hby b) (fun h => .inr (Nat.le_trans hC4.size h))
    have hC6 : Chg (busy c) w0 w5 := hC4.step (bI hC5) hby
    have hxs5 := Fb.to hxs4 (bI hC5) hby5 (Nat.le_of_eq hsc.2.2.2.2.2.2.2)
    have hap := hS4.dis
    have hxo5 : Own w5 w0.heap.size 77 Non xt out := hxo4.chg hC5 (fun b hb hbb => by
      rcases hbb with h | h | h | h | h | h
      · exact hap.d05 b (by rw [h]) hb
      · exact hap.d15 b (by rw [h]) hb
      · exact hap.d25 b h hb
      · exact hap.d35 b h hb
      · exact hap.d45 b h hb
      · exact h)
    obtain ⟨g1, g2, g3, g4, g5, g6, g7, g8⟩ := hsc
    dsimp only at g1 g2 g3 g4 g5 g6 g7 g8
    have hgr := grows_at (putE_grows (tok := c.tok) (st := c.st) (s := r) (m := m') (fr := ((n : Int), k))) hrn hrm
    by_cases hf2 : (putE c.tok c.st r m' ((n : Int), k)).2.2 = 0
    case neg =>
      have hz1 : ((putE c.tok c.st r m' ((n : Int), k)).2.2 != 0) = true := by simpa using hf2
      rw [if_pos hf2] at hT
      rw [← hT]
      (repeat (first | (apply WL.pure; rfl; rfl; rfl) | (apply WL.nil) | (apply EX.thenN) | (apply CW.seq) | (apply CW.region)))
      rw [hz1]
      (repeat (first | (apply WL.pure; rfl; rfl; rfl) | (apply WL.nil) | (apply EX.thenN) | (apply CW.seq) | (apply CW.region) | (apply CW.condT; rfl) | (apply CW.ret) | (apply EX.thenR) | (apply EX.inR)))
      exact EX.ret2 rfl rfl rfl ⟨d', _, rfl, hS5, ⟨g1, by rw [g2, hp1], by rw [g3, hp2], g4, g5, by rw [g6, hcN], g8⟩, hC6, hby', Own.nil, fun g hg => by cases hg⟩
    rw [if_neg (by simp [hf2])] at hT
    rw [hf2]
    generalize putE c.tok c.st r m' ((n : Int), k) = pe at *
    obtain ⟨r', to, er⟩ := pe
    dsimp only at hT hS5 hgr hf2 ⊢
    have hC5z := hC6.size
    (repeat (first | (apply WL.pure; rfl; rfl; rfl) | (apply WL.nil) | (apply EX.thenN) | (apply CW.seq) | (apply CW.region) | (apply CW.condF; rfl) | (apply CW.skip)))
    refine WL.build rfl rfl rfl rfl ?_
    refine WL.app1 (α := Int × Int) (F := Non) (bytes := 16) (yv := (k, to)) rfl rfl (fun _ => rfl) rfl rfl (fun _ => rfl) hxo5 (Rd.mkPr (c1 := [.int .i64 k]) (c2 := [.int .i64 to]) (rd_mkInt _ _ _) (rd_mkInt _ _ _)) hC5z (fun _ h => h.elim) (by decide) (by unfold maxLen; omega) (by omega) (fun xt' w6 p6 ho6 hg6 hnb6 => ?_)
    rw [← g7] at hg6 hnb6
    obtain ⟨hS6, hb6⟩ := hS5.grow hg6 hnb6 (fun g hg => ⟨Nat.le_trans hBw (ho6.lt g hg).1, (ho6.lt g hg).2.1⟩)
    have hxlt : ∀ g, d'.xt.ownBlock = some g → w0.heap.size ≤ g := fun g hg => by rw [g7] at hg; exact (hxo5.lt g hg).1
    have hC7 := hC6.stepG hg6 (fun b hb => .inr (hxlt b hb))
    have hxs6 := Fb.to hxs5 ((Chg.refl _ w5).grown hg6 (fun g hg => .inr (.inr (.inr (.inr (.inr hg)))))) hb6
    (repeat (first | (apply WL.add; rfl; rfl; rfl; rfl; omega; omega) | (apply WL.pure; rfl; rfl; rfl) | (apply WL.nil) | (apply EX.thenN) | (apply CW.region) | (apply EX.inN)))
    refine EX.back (i + 1, ⟨d'.sb, d'.mb, d'.mv, d'.nv, d'.ov, d'.mvs, d'.nvs, d'.p1, d'.p2, d'.tok, d'.st, d'.N, xt', d'.lo⟩, r', out ++ [(k, to)]) (by repeat (first | exact trivial | refine ⟨rfl, ?_⟩)) ⟨hi', hT, hS6, ⟨g1, by rw [g2, hp1], by rw [g3, hp2], g4, g5, by rw [g6, hcN], g8⟩, hC7, fun b hb => (hb6 b hb).elim (hby' b) (fun h => .inr (Nat.le_trans hC5z h)), ho6, by simp; omega, hgr.1, hgr.2, hxs6⟩ (by dsimp only; omega)
  · obtain rfl : i = can.length := by simp at h; omega
    rw [List.drop_length, edgesGo] at hT
    rw [← hT]
    (repeat (first | (apply WL.pure; rfl; rfl; rfl) | (apply WL.nil) | (apply EX.thenN) | (apply CW.seq) | (apply CW.region) | (apply CW.exit) | (apply EX.thenX) | (apply EX.inX) | (apply CW.ret)))
    exact EX.ret2 rfl rfl rfl ⟨_, _, rfl, hS, ⟨rfl, hp1.symm, hp2.symm, rfl, rfl, hcN.symm, rfl⟩, hC, hby, hxo, fun g hg => hg⟩
end Go.Proofs.Ytadbkppgaekmpaa
