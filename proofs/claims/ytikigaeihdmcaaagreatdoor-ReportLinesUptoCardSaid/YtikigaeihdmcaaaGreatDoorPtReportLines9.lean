import Derived.Laws.IdiomStrings
import Derived.Stop.IfaceNil
import Derived.Test.YtikigaeihdmcaaaGreatDoorPtReportLines8
/-
  rule's words: kindWord, scopeWord, templateWord, digit, words, join: walked.
-/
set_option linter.unusedVariables false
set_option linter.unusedSimpArgs false
namespace Go.Proofs.YtikigaeihdmcaaaGreatDoor
open Go.RowKit

abbrev noTR : Value := .string ⟨#[]⟩
instance iRtx1 : IsF Tryz.prog 14 := ⟨_, Tryz.func14, rfl, by decide⟩
instance iRtx2 : IsF Tryz.prog 17 := ⟨_, Tryz.func17, rfl, by decide⟩
instance iRtx3 : IsF Tryz.prog 18 := ⟨_, Tryz.func18, rfl, by decide⟩
instance ikindWdA : IsAr Tryz.prog 72 7 9 := ⟨Tryz.underlying72⟩
instance ikindWdZ : IsZC Tryz.prog 72 [noTR, noTR, noTR, noTR, noTR, noTR, noTR] := IsZC.of (z := .agg #[noTR, noTR, noTR, noTR, noTR, noTR, noTR]) (by kernel_rfl) rfl
abbrev kindWdL : List Value := [noTR, tV (kindT 1), tV (kindT 2), tV (kindT 3), tV (kindT 4), tV (kindT 5), tV (kindT 6)]
theorem kindWd_ok (w0 : World) {k : Int} (h1 : 1 ≤ k) (h2 : k ≤ 6) : Rt Tryz.prog 14 [.int .i64 k].toArray w0 fun v w' => v = tV (kindT k) ∧ Ext w0 w' := by
  obtain ⟨ki, rfl, hki, hsg⟩ : ∃ i : Nat, k = (i : Int) ∧ i < 7 ∧ nthV kindWdL i = some (tV (kindT k)) := by
    obtain rfl | rfl | rfl | rfl | rfl | rfl : k = 1 ∨ k = 2 ∨ k = 3 ∨ k = 4 ∨ k = 5 ∨ k = 6 := by omega
    · exact ⟨1, rfl, by decide, rfl⟩
    · exact ⟨2, rfl, by decide, rfl⟩
    · exact ⟨3, rfl, by decide, rfl⟩
    · exact ⟨4, rfl, by decide, rfl⟩
    · exact ⟨5, rfl, by decide, rfl⟩
    · exact ⟨6, rfl, by decide, rfl⟩
  generalize kindT (ki : Int) = sg at *
  refine Rt.enter1 Tryz.func14 Tryz.ntmps14 rfl rfl ?_
  (repeat (first | (apply WL.pure; rfl; rfl; rfl) | (apply WL.nil) | (apply EX.thenN) | (apply CW.seq) | (apply CW.region)))
  refine WL.buildAr (out := kindWdL) rfl rfl rfl rfl ?_
  (repeat (apply WL.pure; rfl; rfl; rfl))
  refine WL.indexAr rfl rfl rfl rfl hki hsg ?_
  (repeat (first | (apply WL.pure; rfl; rfl; rfl) | (apply WL.nil) | (apply EX.thenN) | (apply CW.ret)))
  exact EX.ret1 rfl rfl ⟨rfl, Ext.refl _⟩
instance iscopWdA : IsAr Tryz.prog 74 6 9 := ⟨Tryz.underlying74⟩
instance iscopWdZ : IsZC Tryz.prog 74 [noTR, noTR, noTR, noTR, noTR, noTR] := IsZC.of (z := .agg #[noTR, noTR, noTR, noTR, noTR, noTR]) (by kernel_rfl) rfl
abbrev scopWdL : List Value := [noTR, tV (scopT 1), tV (scopT 2), tV (scopT 3), tV (scopT 4), tV (scopT 5)]
theorem scopWd_ok (w0 : World) {k : Int} (h1 : 1 ≤ k) (h2 : k ≤ 5) : Rt Tryz.prog 17 [.int .i64 k].toArray w0 fun v w' => v = tV (scopT k) ∧ Ext w0 w' := by
  obtain ⟨ki, rfl, hki, hsg⟩ : ∃ i : Nat, k = (i : Int) ∧ i < 6 ∧ nthV scopWdL i = some (tV (scopT k)) := by
    obtain rfl | rfl | rfl | rfl | rfl : k = 1 ∨ k = 2 ∨ k = 3 ∨ k = 4 ∨ k = 5 := by omega
    · exact ⟨1, rfl, by decide, rfl⟩
    · exact ⟨2, rfl, by decide, rfl⟩
    · exact ⟨3, rfl, by decide, rfl⟩
    · exact ⟨4, rfl, by decide, rfl⟩
    · exact ⟨5, rfl, by decide, rfl⟩
  generalize scopT (ki : Int) = sg at *
  refine Rt.enter1 Tryz.func17 Tryz.ntmps17 rfl rfl ?_
  (repeat (first | (apply WL.pure; rfl; rfl; rfl) | (apply WL.nil) | (apply EX.thenN) | (apply CW.seq) | (apply CW.region)))
  refine WL.buildAr (out := scopWdL) rfl rfl rfl rfl ?_
  (repeat (apply WL.pure; rfl; rfl; rfl))
  refine WL.indexAr rfl rfl rfl rfl hki hsg ?_
  (repeat (first | (apply WL.pure; rfl; rfl; rfl) | (apply WL.nil) | (apply EX.thenN) | (apply CW.ret)))
  exact EX.ret1 rfl rfl ⟨rfl, Ext.refl _⟩
instance itempWdA : IsAr Tryz.prog 75 15 9 := ⟨Tryz.underlying75⟩
instance itempWdZ : IsZC Tryz.prog 75 [noTR, noTR, noTR, noTR, noTR, noTR, noTR, noTR, noTR, noTR, noTR, noTR, noTR, noTR, noTR] := IsZC.of (z := .agg #[noTR, noTR, noTR, noTR, noTR, noTR, noTR, noTR, noTR, noTR, noTR, noTR, noTR, noTR, noTR]) (by kernel_rfl) rfl
abbrev tempWdL : List Value := [noTR, tV (tempT 1), tV (tempT 2), tV (tempT 3), tV (tempT 4), tV (tempT 5), tV (tempT 6), tV (tempT 7), tV (tempT 8), tV (tempT 9), tV (tempT 10), tV (tempT 11), tV (tempT 12), tV (tempT 13), tV (tempT 14)]
theorem tempWd_ok (w0 : World) {k : Int} (h1 : 1 ≤ k) (h2 : k ≤ 14) : Rt Tryz.prog 18 [.int .i64 k].toArray w0 fun v w' => v = tV (tempT k) ∧ Ext w0 w' := by
  obtain ⟨ki, rfl, hki, hsg⟩ : ∃ i : Nat, k = (i : Int) ∧ i < 15 ∧ nthV tempWdL i = some (tV (tempT k)) := by
    obtain rfl | rfl | rfl | rfl | rfl | rfl | rfl | rfl | rfl | rfl | rfl | rfl | rfl | rfl : k = 1 ∨ k = 2 ∨ k = 3 ∨ k = 4 ∨ k = 5 ∨ k = 6 ∨ k = 7 ∨ k = 8 ∨ k = 9 ∨ k = 10 ∨ k = 11 ∨ k = 12 ∨ k = 13 ∨ k = 14 := by omega
    · exact ⟨1, rfl, by decide, rfl⟩
    · exact ⟨2, rfl, by decide, rfl⟩
    · exact ⟨3, rfl, by decide, rfl⟩
    · exact ⟨4, rfl, by decide, rfl⟩
    · exact ⟨5, rfl, by decide, rfl⟩
    · exact ⟨6, rfl, by decide, rfl⟩
    · exact ⟨7, rfl, by decide, rfl⟩
    · exact ⟨8, rfl, by decide, rfl⟩
    · exact ⟨9, rfl, by decide, rfl⟩
    · exact ⟨10, rfl, by decide, rfl⟩
    · exact ⟨11, rfl, by decide, rfl⟩
    · exact ⟨12, rfl, by decide, rfl⟩
    · exact ⟨13, rfl, by decide, rfl⟩
    · exact ⟨14, rfl, by decide, rfl⟩
  generalize tempT (ki : Int) = sg at *
  refine Rt.enter1 Tryz.func18 Tryz.ntmps18 rfl rfl ?_
  (repeat (first | (apply WL.pure; rfl; rfl; rfl) | (apply WL.nil) | (apply EX.thenN) | (apply CW.seq) | (apply CW.region)))
  refine WL.buildAr (out := tempWdL) rfl rfl rfl rfl ?_
  (repeat (apply WL.pure; rfl; rfl; rfl))
  refine WL.indexAr rfl rfl rfl rfl hki hsg ?_
  (repeat (first | (apply WL.pure; rfl; rfl; rfl) | (apply WL.nil) | (apply EX.thenN) | (apply CW.ret)))
  exact EX.ret1 rfl rfl ⟨rfl, Ext.refl _⟩
instance iRtx4 : IsT Tryz.prog 5 Raw := IsT.of (by kernel_rfl) Tryz.underlying5 rfl
instance iRtx5 : IsZ Tryz.prog 5 (⟨.int .u8 0⟩ : Raw) 1 := IsZ.of (z := .int .u8 0) (by kernel_rfl) (fun _ _ => ⟨rfl, rfl⟩)
instance iRtx8 : IsZ Tryz.prog 9 (⟨#[]⟩ : ByteArray) 16 := IsZ.of (z := .string ⟨#[]⟩) (by kernel_rfl) (fun _ _ => ⟨rfl, by decide⟩)
instance iRtx6 : IsS Tryz.prog 73 5 := ⟨Tryz.underlying73⟩
section
variable {P : Program} {Q : Exit → Act → World → Prop} {n : Nat} {σ : Sg} {w : World} {L rest : List Oper} {d : Nat} {op : Op} {ty : TypeId} {pos : String} {af : Array Edge} {g : Option (Nat × Bool)} {t yt e : TypeId} {x y : Operand}
/-- an operation that tells a value, whatever it is -/
theorem WL.bin {o : BinOp} {a b r : Value} (hg : gd L σ ⟨some d, .binOp o t x y yt, ty, pos, af, g⟩ = some true) (hd : Nat.ble (d + 1) n = true) (hx : ev σ x = some a) (hy : ev σ y = some b) (hr : ((do eqGuard o t x y a b; binOp o t a b : Sem Value)).run P w = .ok r w)
    (h : WL P L Q rest n ((d, r) :: σ) w) : WL P L Q (⟨some d, .binOp o t x y yt, ty, pos, af, g⟩ :: rest) n σ w := by
  refine WL.run hg hd (fun c hc => ?_) h
  simp only [execOp, hc.ev hx, hc.ev hy]
  rw [Sem.run_bind, hr]; rfl
/-- string(b), bytes -/
theorem WL.bytesT {a : Addr} {cap : Nat} {l : List UInt8} (hg : gd L σ ⟨some d, .convert t yt x, ty, pos, af, g⟩ = some true) (hd : Nat.ble (d + 1) n = true) (hx : ev σ x = some (.slice (some a) l.length cap)) (hs : P.underlying t = some (.slice e)) (he : P.underlying e = some (.int .u8)) (hy : P.underlying yt = some .string)
    (hc : ∀ j (hj : j < l.length), w.cell? (a.add j) = some (.int .u8 (l[j].toNat : Int))) (h : WL P L Q rest n ((d, tV l) :: σ) w) : WL P L Q (⟨some d, .convert t yt x, ty, pos, af, g⟩ :: rest) n σ w := by
  refine WL.run hg hd (fun c hcc => ?_) h
  have := run_convert_bytes_back (P := P) w t yt e a cap l hs he hy hc
  simp only [execOp, hcc.ev hx]
  rw [Sem.run_bind, this]; rfl
end
theorem rdigit_ok (w0 : World) {k : Int} (h1 : 0 ≤ k) (h2 : k ≤ 3) : Rt Tryz.prog 15 [.int .i64 k].toArray w0 fun v w' => v = tV (dgT k) ∧ Ext w0 w' := by
  refine Rt.enter1 Tryz.func15 Tryz.ntmps15 rfl rfl ?_
  (repeat (first | (apply WL.pure; rfl; rfl; rfl) | (apply WL.nil) | (apply EX.thenN) | (apply CW.seq) | (apply CW.region)))
  refine WL.conv (k := .i64) (k' := .u8) rfl rfl rfl ?_
  refine WL.bin (a := .int .u8 48) (b := .int .u8 (IntKind.u8.wrap k)) (r := .int .u8 ((48 + k.toNat : Nat) : Int)) rfl rfl rfl rfl ?_ ?_
  · obtain rfl | rfl | rfl | rfl : k = 0 ∨ k = 1 ∨ k = 2 ∨ k = 3 := by omega
    all_goals (simp [binOp, run_underlying Tryz.underlying5, eqG (op := .add) rfl]; rfl)
  refine WL.lit (α := Raw) (F := Non) (ys := [(⟨.int .u8 ((48 + k.toNat : Nat) : Int)⟩ : Raw)]) rfl rfl rfl rfl rfl (.cons (Rd.mkRaw _ _ _ rfl) .nil) (by show 1 * 1 ≤ 16777216; decide) (fun _ h => h.elim) (fun w3 ho3 hg3 => ?_)
  have e3 : Ext w0 w3 := (Ext.refl _).grown hg3 (Nat.le_refl _) (fun k h => by cases h)
  obtain ⟨ao, cap, he, hs⟩ := ho3.oldN.sl
  obtain ⟨rfl, _, rfl⟩ := Value.slice.inj he
  refine WL.bytesT (l := dgT k) (e := 5) rfl rfl rfl Tryz.underlying73 Tryz.underlying5 Tryz.underlying9 (fun j hj => ?_) ?_
  · obtain rfl : j = 0 := by simp [dgT] at hj; omega
    obtain ⟨b, off, e1, _, es, hc, hr⟩ := hs.el 0 (by show 0 < 1; decide)
    injection e1 with e1
    injection e1 with e2 e4 _
    subst e2; subst e4
    obtain ⟨rfl, _⟩ := hr
    have hd : ((dgT k)[0]).toNat = 48 + k.toNat := by
      obtain rfl | rfl | rfl | rfl : k = 0 ∨ k = 1 ∨ k = 2 ∨ k = 3 := by omega
      all_goals rfl
    rw [hd]
    exact hc 0 _ rfl
  (repeat (first | (apply WL.pure; rfl; rfl; rfl) | (apply WL.nil) | (apply EX.thenN) | (apply CW.ret)))
  exact EX.ret1 rfl rfl ⟨rfl, e3⟩
theorem rnmL_len (nms : List ByteArray) (n : Int) (s : Bool) : (rnmL nms n s).length ≤ 8 := by
  by_cases h : rnmL nms n s = []
  · rw [h]; simp
  · exact (rnm_word h).2
instance iRtx7 : IsF Tryz.prog 19 := ⟨_, Tryz.func19, rfl, by decide⟩
theorem rwords_ok (w0 : World) {ao no : Option Addr} {ac nc : Nat} {l : List Int} {nms : List ByteArray} (hl : Sl w0 (Old w0) ao ac l) (hn : Sl w0 (Old w0) no nc nms) (hlen : l.length ≤ 100) :
    Rt Tryz.prog 16 [.slice ao l.length ac, .slice no nms.length nc].toArray w0 fun v w' => Own w' w0.heap.size 9 Non v (l.map fun n => txA (rnmL nms n true)) ∧ Ext w0 w' := by
  refine Rt.enter2 Tryz.func16 Tryz.ntmps16 rfl rfl ?_
  (repeat (first | (apply WL.pure; rfl; rfl; rfl) | (apply WL.nil) | (apply EX.thenN) | (apply CW.seq) | (apply CW.region) | (apply WL.lenS; rfl; rfl; rfl) | (apply CW.block)))
  refine CW.loop (S := Nat × Value) (fun s => [(1, .slice no nms.length nc), (8, .slice ao l.length ac), (9, .int .i64 l.length), (10, .int .i64 s.1), (5, s.2)])
    (fun s w => s.1 ≤ l.length ∧ Own w w0.heap.size 9 Non s.2 ((l.take s.1).map fun n => txA (rnmL nms n true)) ∧ Ext w0 w) (fun s => l.length - s.1) (0, .slice none 0 0) (by repeat (first | exact trivial | refine ⟨rfl, ?_⟩)) ⟨Nat.zero_le _, Own.nil, Ext.refl _⟩ ?_
  rintro ⟨i, v⟩ w ⟨hi, ho, hE⟩
  dsimp only at hi ho hE ⊢
  (repeat (first | (apply WL.pure; rfl; rfl; rfl) | (apply WL.nil) | (apply EX.thenN) | (apply CW.seq) | (apply CW.region)))
  refine CW.cond rfl (fun h => ?_) (fun h => ?_)
  · have hi' : i < l.length := by simpa using h
    clear h
    (repeat (first | (apply EX.thenN) | (apply CW.seq) | (apply CW.region) | (apply CW.block) | (apply CW.skip)))
    refine WL.elemI rfl rfl rfl rfl rfl (hl.up hE) hi' rfl (fun _ => rfl) (fun q => ?_)
    (repeat (first | (apply WL.pure; rfl; rfl; rfl) | (apply WL.nil) | (apply EX.thenN) | (apply CW.region)))
    refine WL.call rfl rfl rfl (rname_ok w (hn.up hE) l[i] true) ?_
    rintro _ w2 ⟨rfl, e2⟩
    have ho2 := ho.extN e2
    have hE2 := hE.trans e2
    have h8 := rnmL_len nms l[i] true
    skip
    refine WL.app1 (α := ByteArray) (F := Non) (yv := txA (rnmL nms l[i] true)) rfl rfl (fun _ => rfl) rfl rfl (fun _ => rfl) ho2 (Rd.mkStr _ _ _ (by rw [txA_size]; unfold maxLen; omega)) hE2.size (fun _ h => h.elim) (by decide) (by rw [List.length_map, List.length_take]; unfold maxLen; omega) (by rw [List.length_map, List.length_take]; omega) (fun v' w4 q ho4 hg4 hnb => ?_)
    have hE4 : Ext w0 w4 := hE2.grown hg4 hE2.size (fun g hg => (ho2.lt g hg).1)
    (repeat (first | (apply WL.add; rfl; rfl; rfl; rfl; omega; omega) | (apply WL.pure; rfl; rfl; rfl) | (apply WL.nil) | (apply EX.thenN) | (apply CW.region) | (apply EX.inN)))
    refine EX.back (i + 1, v') (by repeat (first | exact trivial | refine ⟨rfl, ?_⟩)) ⟨hi', ?_, hE4⟩ (by dsimp only; omega)
    rw [show (l.take (i + 1)).map (fun n => txA (rnmL nms n true)) = (l.take i).map (fun n => txA (rnmL nms n true)) ++ [txA (rnmL nms l[i] true)] by rw [List.take_succ_eq_append_getElem hi', List.map_append]; rfl]
    exact ho4
  · obtain rfl : i = l.length := by simp at h; omega
    rw [List.take_length] at ho
    (repeat (first | (apply WL.pure; rfl; rfl; rfl) | (apply WL.nil) | (apply EX.thenN) | (apply CW.seq) | (apply CW.region) | (apply CW.exit) | (apply EX.thenX) | (apply EX.inX) | (apply CW.ret)))
    exact EX.ret1 rfl rfl ⟨ho, hE⟩
theorem joinS_snoc : ∀ (l : List Bys) (x : Bys), l ≠ [] → joinS 32 (l ++ [x]) = joinS 32 l ++ 32 :: x
  | [], _, h => absurd rfl h
  | [y], x, _ => rfl
  | y :: z :: r, x, _ => by
    have := joinS_snoc (z :: r) x (by simp)
    simp only [List.cons_append, joinS] at this ⊢
    rw [this]
    simp
theorem rjoin_ok (w0 : World) {ao : Option Addr} {cap : Nat} {ws : List ByteArray} (hs : Sl w0 (Old w0) ao cap ws) (h0 : 0 < ws.length) (h1 : ws.length ≤ 100) (hl : ∀ x ∈ ws, x.size ≤ 1000) :
    Rt Tryz.prog 23 [.slice ao ws.length cap].toArray w0 fun v w' => v = tV (joinS 32 (ws.map bysA)) ∧ Ext w0 w' := by
  have hjl : ∀ k, (joinS 32 ((ws.take k).map bysA)).length ≤ 1001 * 100 := fun k => by
    have := join_len 1000 ((ws.take k).map bysA) (fun x hx => by
      obtain ⟨y, hy, rfl⟩ := List.mem_map.1 hx
      have := hl y (List.mem_of_mem_take hy)
      rwa [← size_len] at this)
    rw [List.length_map, List.length_take] at this
    have : min k ws.length ≤ 100 := by omega
    have := Nat.mul_le_mul_left 1001 this
    omega
  refine Rt.enter1 Tryz.func23 Tryz.ntmps23 rfl rfl ?_
  (repeat (first | (apply WL.pure; rfl; rfl; rfl) | (apply WL.nil) | (apply EX.thenN) | (apply CW.seq) | (apply CW.region)))
  refine WL.elemN (i := 0) rfl rfl rfl rfl rfl hs h0 (fun _ => rfl) (fun u q hu => ?_)
  obtain ⟨rfl, -⟩ := hu.str
  clear hu
  (repeat (first | (apply WL.pure; rfl; rfl; rfl) | (apply WL.nil) | (apply EX.thenN) | (apply CW.seq) | (apply CW.region)))
  refine WL.cutLo (α := ByteArray) 1 rfl rfl rfl rfl rfl (by omega) hs.le ?_
  have hsd := hs.drop (k := 1) (by omega)
  generalize (if cap = 1 then ao else ao.map (·.add (1 * sz ByteArray))) = ao2 at *
  generalize cap - 1 = cap2 at *
  have hdl : (ws.drop 1).length = ws.length - 1 := List.length_drop ..
  rw [← hdl]
  (repeat (first | (apply WL.pure; rfl; rfl; rfl) | (apply WL.nil) | (apply EX.thenN) | (apply WL.lenS; rfl; rfl; rfl) | (apply CW.block)))
  refine CW.loop (S := Nat) (fun i => [(3, tV (joinS 32 ((ws.take (i + 1)).map bysA))), (10, .slice ao2 (ws.drop 1).length cap2), (11, .int .i64 (ws.drop 1).length), (12, .int .i64 i)])
    (fun i w => i ≤ (ws.drop 1).length ∧ Ext w0 w) (fun i => (ws.drop 1).length - i) 0 ?_ ⟨Nat.zero_le _, Ext.refl _⟩ ?_
  · have e0 : tV (joinS 32 ((ws.take (0 + 1)).map bysA)) = .string ws[0] := by
      obtain ⟨y, r, rfl⟩ : ∃ y r, ws = y :: r := by
        cases ws with
        | nil => cases h0
        | cons y r => exact ⟨y, r, rfl⟩
      simp [joinS, tV, txA_eta]
    rw [e0]
    exact (by repeat (first | exact trivial | refine ⟨rfl, ?_⟩))
  rintro i w ⟨hi, hE⟩
  (repeat (first | (apply WL.pure; rfl; rfl; rfl) | (apply WL.nil) | (apply EX.thenN) | (apply CW.seq) | (apply CW.region)))
  refine CW.cond rfl (fun h => ?_) (fun h => ?_)
  · have hi' : i < (ws.drop 1).length := by simpa using h
    clear h
    have hx : (ws.drop 1)[i] = ws[i + 1]'(by omega) := by rw [List.getElem_drop]; congr 1; omega
    (repeat (first | (apply EX.thenN) | (apply CW.seq) | (apply CW.region) | (apply CW.block) | (apply CW.skip)))
    refine WL.elemN (i := i) rfl rfl rfl rfl rfl (hsd.up hE) hi' (fun _ => rfl) (fun u q hu => ?_)
    obtain ⟨rfl, -⟩ := hu.str
    clear hu
    have hsz := hl _ (List.getElem_mem (show i + 1 < ws.length by omega))
    rw [hx]
    rw [← txA_eta (ws[i + 1]'(by omega))]
    have hb : (bysA (ws[i + 1]'(by omega))).length ≤ 1000 := by rw [size_len]; exact hsz
    have hj := hjl (i + 1)
    (repeat (first | (apply WL.pure; rfl; rfl; rfl) | (apply WL.nil) | (apply EX.thenN) | (apply CW.region)))
    refine WL.cat (a := [32]) (b := bysA (ws[i + 1]'(by omega))) rfl rfl rfl rfl (by simp only [List.length_cons, List.length_nil]; omega) ?_
    refine WL.cat (a := joinS 32 ((ws.take (i + 1)).map bysA)) (b := [32] ++ bysA (ws[i + 1]'(by omega))) rfl rfl rfl rfl (by simp only [List.length_append, List.length_cons, List.length_nil]; omega) ?_
    have hn : joinS 32 ((ws.take (i + 1)).map bysA) ++ ([32] ++ bysA (ws[i + 1]'(by omega))) = joinS 32 ((ws.take (i + 1 + 1)).map bysA) := by
      rw [List.take_succ_eq_append_getElem (show i + 1 < ws.length by omega), List.map_append]
      rw [show [ws[i + 1]].map bysA = [bysA (ws[i + 1]'(by omega))] from rfl, joinS_snoc _ _ (by
        intro e
        have := congrArg List.length e
        rw [List.length_map, List.length_take, List.length_nil] at this
        omega)]
      rfl
    rw [hn]
    (repeat (first | (apply WL.add; rfl; rfl; rfl; rfl; omega; omega) | (apply WL.pure; rfl; rfl; rfl) | (apply WL.nil) | (apply EX.thenN) | (apply CW.region) | (apply EX.inN)))
    exact EX.back (i + 1) (by repeat (first | exact trivial | refine ⟨rfl, ?_⟩)) ⟨hi', hE⟩ (by omega)
  · have hi : i = (ws.drop 1).length := by simp at h hi ⊢; omega
    (repeat (first | (apply WL.pure; rfl; rfl; rfl) | (apply WL.nil) | (apply EX.thenN) | (apply CW.seq) | (apply CW.region) | (apply CW.exit) | (apply EX.thenX) | (apply EX.inX) | (apply CW.ret)))
    refine EX.ret1 rfl rfl ⟨?_, hE⟩
    rw [hi, hdl, List.take_of_length_le (by omega)]
end Go.Proofs.YtikigaeihdmcaaaGreatDoor

/-
  rule.Print, walked.
-/
set_option linter.unusedVariables false
set_option linter.unusedSimpArgs false
namespace Go.Proofs.YtikigaeihdmcaaaGreatDoor
open Go.RowKit

theorem rl_parts {r : LRule} {nms : List ByteArray} (h : chkRl r nms = 0) : namedB r.1 = true ∧ ((r.2.1 = 1 ∧ chkP r.2.2.1 = 0) ∨ (r.2.1 = 2 ∧ chkT r.2.2.2.1 = 0) ∨ r.2.1 = 3 ∨ r.2.1 = 4) := by
  unfold chkRl at h
  split at h
  · cases h
  split at h
  · rename_i h1 h2; exact absurd h h2
  rename_i h1 h2
  simp only [not_or, Bool.not_eq_false] at h1
  obtain ⟨hn, hs1, hs4⟩ := h1
  have hpe : partE0 r nms = 0 := by
    apply Classical.byContradiction
    intro hx
    unfold partE at h2
    rw [if_neg (fun h => hx h.1)] at h2
    exact h2 hx
  refine ⟨hn, ?_⟩
  unfold partE0 at hpe
  by_cases h1 : r.2.1 = 1
  · rw [if_pos h1] at hpe; exact .inl ⟨h1, hpe⟩
  rw [if_neg h1] at hpe
  by_cases h2 : r.2.1 = 2
  · rw [if_pos h2] at hpe; exact .inr (.inl ⟨h2, hpe⟩)
  omega
theorem chkP_bd {pt : LPat} (hc : chkP pt = 0) : 1 ≤ pt.1 ∧ pt.1 ≤ 6 ∧ 1 ≤ pt.2.1 ∧ pt.2.1 ≤ 5 ∧ 0 ≤ pt.2.2.2.2.2.2 ∧ pt.2.2.2.2.2.2 ≤ 3 := by
  unfold chkP at hc
  split at hc
  · cases hc
  split at hc
  · cases hc
  split at hc
  · cases hc
  omega
theorem chkT_bd {tp : LTpl} (hc : chkT tp = 0) : 1 ≤ tp.1 ∧ tp.1 ≤ 14 ∧ 0 ≤ tp.2.2.2 ∧ tp.2.2.2 ≤ 3 := by
  unfold chkT at hc
  split at hc
  · cases hc
  split at hc
  · cases hc
  rename_i q1 q2
  by_cases hq : countedB tp.1 = true
  · simp [hq] at q2; omega
  · simp [hq] at q2; omega
theorem kindT_len {k : Int} (h1 : 1 ≤ k) (h2 : k ≤ 6) : (kindT k).length ≤ 10 := (firstW_kind h1 h2).2.2.2.2.2
theorem scopT_len {k : Int} (h1 : 1 ≤ k) (h2 : k ≤ 5) : (scopT k).length ≤ 10 := (firstW_scop h1 h2).2.2
theorem tempT_len {k : Int} (h1 : 1 ≤ k) (h2 : k ≤ 14) : (tempT k).length ≤ 10 := (firstW_temp h1 h2).2.2
theorem dgT_len (k : Int) : (dgT k).length = 1 := rfl
theorem ownA_len (pt : LPat) : (ownA pt).length ≤ 2 := by unfold ownA; split <;> simp
theorem scopeA_len (pt : LPat) : (scopeA pt).length ≤ 2 := by unfold scopeA; split <;> (try split) <;> (try split) <;> simp
/-- what is kept while the words are put together -/
structure PW (w2 w : World) (B b2 b8 : Nat) (e8 : TypeId) (c2 c8 : List Value) (v u1 u2 : Value) (l : List ByteArray) (x1 x2 : List Int) : Prop where
  own : Own w B 9 Non v l
  o1 : Own w B 3 Non u1 x1
  o2 : Own w B 3 Non u2 x2
  h2 : Blk w b2 33 c2
  h8 : Blk w b8 e8 c8
  X : Below B w2 w
  ge : B ≤ w2.heap.size
section
variable {w2 w w' : World} {B b2 b8 : Nat} {e8 : TypeId} {c2 c8 : List Value} {v v' u1 u2 : Value} {l l' : List ByteArray} {x1 x2 : List Int}
theorem PW.sz (h : PW w2 w B b2 b8 e8 c2 c8 v u1 u2 l x1 x2) : B ≤ w.heap.size := Nat.le_trans h.ge h.X.size
theorem PW.ext (h : PW w2 w B b2 b8 e8 c2 c8 v u1 u2 l x1 x2) (hE : Ext w w') : PW w2 w' B b2 b8 e8 c2 c8 v u1 u2 l x1 x2 :=
  ⟨h.own.extN hE, h.o1.extN hE, h.o2.extN hE, h.h2.ext hE, h.h8.ext hE, h.X.trans (hE.mono h.sz), h.ge⟩
theorem PW.app (h : PW w2 w B b2 b8 e8 c2 c8 v u1 u2 l x1 x2) (ho : Own w' B 9 Non v' l') (hg : w.grownBy w' v.ownBlock) (h8 : 9 ≠ e8) : PW w2 w' B b2 b8 e8 c2 c8 v' u1 u2 l' x1 x2 :=
  ⟨ho, h.o1.keptN hg (fun g k e => own_ap h.own h.o1 (by decide) g e.symm k), h.o2.keptN hg (fun g k e => own_ap h.own h.o2 (by decide) g e.symm k), h.h2.kept hg (fun e => own_blk h.own h.h2 (by decide) e.symm), h.h8.kept hg (fun e => own_blk h.own h.h8 h8 e.symm),
    h.X.grown hg h.sz (fun k e => (h.own.lt k e).1), h.ge⟩
end
set_option maxHeartbeats 4000000 in
theorem rprint_ok (w0 : World) {r : LRule} {lo co no : Option Addr} {lc cc nc : Nat} {nms : List ByteArray} (hl : Sl w0 (Old w0) lo lc r.2.2.2.2.1.kids) (hc : Sl w0 (Old w0) co cc r.2.2.2.2.2.kids) (hn : Sl w0 (Old w0) no nc nms) (hsz : r.1.size ≤ maxLen) :
    Rt Tryz.prog 6 [rulV r lo lc co cc, .slice no nms.length nc].toArray w0 fun v w' => v = .tuple ⟨[tV (printR r nms).1, .int .i64 (printR r nms).2]⟩ ∧ Ext w0 w' := by
  refine Rt.enter2 Tryz.func6 Tryz.ntmps6 rfl rfl ?_
  unfold printR
  have hw0 : wordsR r nms = wordsR r nms := rfl
  obtain ⟨nm, so, pt, tp, lt, ct⟩ := r
  dsimp only at hl hc hsz
  have hchk := fun w (e : Ext w0 w) => rcheck_ok w (r := (nm, so, pt, tp, lt, ct)) (hl.up e) (hc.up e) (hn.up e)
  have hpt := fun h => rl_parts (r := (nm, so, pt, tp, lt, ct)) (nms := nms) h
  unfold wordsR at hw0 ⊢
  unfold rulV at hchk ⊢
  dsimp only at hchk hpt hw0 ⊢
  clear hw0
  (repeat (first | (apply CW.seq) | (apply CW.region)))
  refine WL.boxB rfl rfl rfl fun w1 hb2 e1 => ?_
  (repeat (first | (apply WL.pure; rfl; rfl; rfl) | (apply WL.nil) | (apply EX.thenN) | (apply CW.seq) | (apply CW.region) | (apply WL.ldA; rfl; rfl; rfl; assumption; rfl)))
  refine WL.call rfl rfl rfl (hchk w1 e1) ?_
  rintro _ w2 ⟨rfl, e2⟩
  have hE := e1.trans e2
  have hb2 := hb2.ext e2
  (repeat (first | (apply WL.pure; rfl; rfl; rfl) | (apply WL.nil) | (apply EX.thenN) | (apply CW.seq) | (apply CW.region)))
  refine CW.cond rfl (fun h => ?_) (fun h => ?_)
  · have h : chkRl (nm, so, pt, tp, lt, ct) nms ≠ 0 := by simpa using h
    (repeat (first | (apply WL.pure; rfl; rfl; rfl) | (apply WL.nil) | (apply EX.thenN) | (apply CW.seq) | (apply CW.region) | (apply CW.ret) | (apply EX.thenR)))
    rw [if_pos h]
    exact EX.ret2 rfl rfl rfl ⟨rfl, hE⟩
  have hz : chkRl (nm, so, pt, tp, lt, ct) nms = 0 := by simpa using h
  clear h hchk
  obtain ⟨hnb, hpt⟩ := hpt hz
  rw [if_neg (by simpa using hz)]
  clear hz
  have hnl : nm.size ≤ 8 := by rw [← size_len]; exact (named_no hnb).2.2
  clear hnb
  (repeat (first | (apply EX.thenN) | (apply CW.seq) | (apply CW.region) | (apply WL.fa; rfl; rfl; rfl) | (apply WL.ld; rfl; rfl; rfl; assumption; rfl) | (apply CW.skip)))
  refine WL.lit (α := ByteArray) (F := Non) (ys := [nm]) rfl rfl rfl rfl rfl (.cons (Rd.mkStr _ _ _ hsz) .nil) (by show 1 * 1 ≤ 16777216; decide) (fun _ h => h.elim) (fun w3 ho3 hg3 => ?_)
  have e3 : Ext w2 w3 := (Ext.refl _).grown hg3 (Nat.le_refl _) (fun k h => by cases h)
  have hb2 := hb2.ext e3
  clear hg3
  have l2 := hb2.lt
  have hX : Below w2.heap.size w2 w3 := e3
  clear e3
  obtain ⟨W, hW⟩ : ∃ W : List Bys, W = nm.data.toList :: (if so = 1 then
      kindT pt.1 :: ((if pt.1 = 4 then [dgT pt.2.2.2.2.2.2] else []) ++ ((ownA pt).map fun n => rnmL nms n true) ++ scopT pt.2.1 :: ((scopeA pt).map fun n => rnmL nms n true))
    else if so = 2 then
      tDecl :: tempT tp.1 :: rnmL nms tp.2.1 false :: ((if 0 < tp.2.2.2 then [dgT tp.2.2.2] else []) ++ (if aloneB tp.1 = true then [] else [rnmL nms tp.2.2.1 false]))
    else if so = 3 then [tLtl, (printL lt nms).1] else [tCtl, (printC ct nms).1]) := ⟨_, rfl⟩
  rw [← hW]
  have hn3 := (hn.up hE).up hX
  have hl3 := (hl.up hE).up hX
  have hc3 := (hc.up hE).up hX
  have hnm : nm = txA (bysA nm) := (txA_eta nm).symm
  have hnl' : (bysA nm).length ≤ 8 := by rw [size_len]; exact hnl
  (repeat (first | (apply WL.pure; rfl; rfl; rfl) | (apply WL.nil) | (apply EX.thenN) | (apply CW.seq) | (apply CW.region) | (apply WL.fa; rfl; rfl; rfl) | (apply WL.ld; rfl; rfl; rfl; assumption; rfl) | (apply CW.block)))
  refine CW.cond rfl (fun h => ?_) (fun h => ?_)
  · obtain rfl : so = 1 := by simpa using h
    clear h
    have hcp : chkP pt = 0 := by
      rcases hpt with h | h | h | h
      · exact h.2
      · exact absurd h.1 (by decide)
      · exact absurd h (by decide)
      · exact absurd h (by decide)
    clear hpt
    have hk := chkP_bd hcp
    have hkl := kindT_len hk.1 hk.2.1
    have hsl := scopT_len hk.2.2.1 hk.2.2.2.1
    have hoA := ownA_len pt
    have hsA := scopeA_len pt
    rw [if_pos rfl] at hW
    (repeat (first | (apply CW.seq) | (apply CW.region) | (apply WL.fa; rfl; rfl; rfl) | (apply WL.ldA; rfl; rfl; rfl; assumption; rfl)))
    refine WL.alloc rfl rfl (fun w4 hb8 e4 => ?_)
    skip
    refine WL.st rfl rfl rfl hb8 rfl rfl (ones_of rfl) (fun w5 hb8 hg5 => ?_)
    have e5 : Ext w3 w5 := e4.grown hg5 e4.size (fun g hg => by cases hg; exact Nat.le_refl _)
    clear e4 hg5
    (repeat (first | (apply WL.nil) | (apply EX.thenN) | (apply CW.seq) | (apply CW.region) | (apply WL.ldA; rfl; rfl; rfl; assumption; rfl)))
    refine WL.call rfl rfl rfl (atoms_ok w5 pt) ?_
    rintro _ w6 ⟨⟨u1, u2, rfl, hu1, hu2⟩, e6⟩
    have e56 := e5.trans e6
    have hP : PW w2 w6 w2.heap.size w0.heap.size w3.heap.size 23 _ _ _ u1 u2 [nm] (ownA pt) (scopeA pt) :=
      ⟨ho3.extN e56, hu1.low (Nat.le_trans hX.size e5.size), hu2.low (Nat.le_trans hX.size e5.size), hb2.ext e56, hb8.ext e6, hX.trans (e56.mono hX.size), Nat.le_refl _⟩
    clear hb2 hb8 ho3 hu1 hu2 e5 e6 e56
    have hb8 := hP.h8
    (repeat (first | (apply WL.pure; rfl; rfl; rfl) | (apply WL.nil) | (apply EX.thenN) | (apply CW.seq) | (apply CW.region) | (apply WL.fa; rfl; rfl; rfl) | (apply WL.ld; rfl; rfl; rfl; assumption; rfl)))
    refine WL.call rfl rfl rfl (kindWd_ok w6 hk.1 hk.2.1) ?_
    rintro _ w11 ⟨rfl, e⟩
    have hP := hP.ext e
    skip
    refine WL.app1 (α := ByteArray) (F := Non) (yv := txA (kindT pt.1)) rfl rfl (fun _ => rfl) rfl rfl (fun _ => rfl) hP.own (Rd.mkStr _ _ _ (by rw [txA_size]; unfold maxLen; omega)) hP.sz (fun _ h => h.elim) (by decide) (by unfold maxLen; simp only [List.length_append, List.length_cons, List.length_nil, List.length_map]; omega) (by simp only [List.length_append, List.length_cons, List.length_nil, List.length_map]; omega) (fun v12 w12 q12 ho hg hnb => ?_)
    have hP := hP.app ho hg (by decide)
    clear ho hg hnb
    have hb8 := hP.h8
    (repeat (first | (apply WL.pure; rfl; rfl; rfl) | (apply WL.nil) | (apply EX.thenN) | (apply CW.seq) | (apply CW.region) | (apply WL.fa; rfl; rfl; rfl) | (apply WL.ld; rfl; rfl; rfl; assumption; rfl)))
    refine CW.cond rfl (fun h => ?_) (fun h => ?_)
    · have h4 : pt.1 = 4 := by simpa using h
      clear h
      rw [if_pos h4] at hW
      (repeat (first | (apply WL.pure; rfl; rfl; rfl) | (apply CW.region) | (apply WL.fa; rfl; rfl; rfl) | (apply WL.ld; rfl; rfl; rfl; assumption; rfl)))
      refine WL.call rfl rfl rfl (rdigit_ok _ hk.2.2.2.2.1 hk.2.2.2.2.2) ?_
      rintro _ w62 ⟨rfl, e⟩
      have hP := hP.ext e
      have hdl := dgT_len pt.2.2.2.2.2.2
      skip
      refine WL.app1 (α := ByteArray) (F := Non) (yv := txA (dgT pt.2.2.2.2.2.2)) rfl rfl (fun _ => rfl) rfl rfl (fun _ => rfl) hP.own (Rd.mkStr _ _ _ (by rw [txA_size]; unfold maxLen; omega)) hP.sz (fun _ h => h.elim) (by decide) (by unfold maxLen; simp only [List.length_append, List.length_cons, List.length_nil, List.length_map]; omega) (by simp only [List.length_append, List.length_cons, List.length_nil, List.length_map]; omega) (fun v63 w63 q63 ho hg hnb => ?_)
      have hP := hP.app ho hg (by decide)
      clear ho hg hnb
      obtain ⟨ao, ac, hav⟩ := hP.o1.val
      obtain ⟨bo, bc, hbv⟩ := hP.o2.val
      subst hav
      subst hbv
      obtain ⟨xo, xc, he, ha⟩ := hP.o1.oldN.sl
      obtain ⟨rfl, _, rfl⟩ := Value.slice.inj he
      have hnw := hn.up (hE.trans hP.X)
      (repeat (first | (apply WL.pure; rfl; rfl; rfl) | (apply WL.nil) | (apply EX.thenN) | (apply CW.seq) | (apply CW.region)))
      refine WL.call rfl rfl rfl (rwords_ok _ ha hnw (by omega)) ?_
      rintro wv wA ⟨howv, e⟩
      have hP := hP.ext e
      obtain ⟨wo, wc, hwv⟩ := howv.val
      subst hwv
      skip
      refine WL.app (α := ByteArray) (F := Non) rfl rfl rfl rfl hP.own howv.src hP.sz (fun _ h => h.elim) (by unfold maxLen; simp only [List.length_append, List.length_cons, List.length_nil, List.length_map]; omega) (by simp only [List.length_append, List.length_cons, List.length_nil, List.length_map]; omega) (fun v64 w64 ho hg hnb => ?_)
      have hP := hP.app ho hg (by decide)
      clear ho hg hnb
      have hb8 := hP.h8
      (repeat (first | (apply WL.pure; rfl; rfl; rfl) | (apply WL.nil) | (apply EX.thenN) | (apply CW.region) | (apply WL.fa; rfl; rfl; rfl) | (apply WL.ld; rfl; rfl; rfl; assumption; rfl)))
      refine WL.call rfl rfl rfl (scopWd_ok _ hk.2.2.1 hk.2.2.2.1) ?_
      rintro _ w65 ⟨rfl, e⟩
      have hP := hP.ext e
      skip
      refine WL.app1 (α := ByteArray) (F := Non) (yv := txA (scopT pt.2.1)) rfl rfl (fun _ => rfl) rfl rfl (fun _ => rfl) hP.own (Rd.mkStr _ _ _ (by rw [txA_size]; unfold maxLen; omega)) hP.sz (fun _ h => h.elim) (by decide) (by unfold maxLen; simp only [List.length_append, List.length_cons, List.length_nil, List.length_map]; omega) (by simp only [List.length_append, List.length_cons, List.length_nil, List.length_map]; omega) (fun v66 w66 q66 ho hg hnb => ?_)
      have hP := hP.app ho hg (by decide)
      clear ho hg hnb
      obtain ⟨xo, xc, he, hb⟩ := hP.o2.oldN.sl
      obtain ⟨rfl, _, rfl⟩ := Value.slice.inj he
      have hnw := hn.up (hE.trans hP.X)
      (repeat (apply WL.pure; rfl; rfl; rfl))
      refine WL.call rfl rfl rfl (rwords_ok _ hb hnw (by omega)) ?_
      rintro wv2 wB ⟨howv2, e⟩
      have hP := hP.ext e
      obtain ⟨wo2, wc2, hwv2⟩ := howv2.val
      subst hwv2
      skip
      refine WL.app (α := ByteArray) (F := Non) rfl rfl rfl rfl hP.own howv2.src hP.sz (fun _ h => h.elim) (by unfold maxLen; simp only [List.length_append, List.length_cons, List.length_nil, List.length_map]; omega) (by simp only [List.length_append, List.length_cons, List.length_nil, List.length_map]; omega) (fun v67 w67 ho hg hnb => ?_)
      have hP := hP.app ho hg (by decide)
      clear ho hg hnb
      (repeat (first | (apply WL.pure; rfl; rfl; rfl) | (apply WL.nil) | (apply EX.thenN) | (apply CW.seq) | (apply CW.region) | (apply EX.inN)))
      obtain ⟨zo, zc, hzv⟩ := hP.own.val
      subst hzv
      obtain ⟨yo, yc, he, hys⟩ := hP.own.oldN.sl
      obtain ⟨rfl, _, rfl⟩ := Value.slice.inj he
      refine WL.call rfl rfl rfl (rjoin_ok _ hys (by simp only [List.length_append, List.length_cons, List.length_nil, List.length_map]; omega) (by simp only [List.length_append, List.length_cons, List.length_nil, List.length_map]; omega) ?_) ?_
      · intro x hx
        simp only [List.mem_append, List.mem_cons, List.not_mem_nil, or_false, List.mem_map] at hx
        have hr8 : ∀ n, (rnmL nms n true).length ≤ 8 := fun n => rnmL_len nms n true
        rcases hx with ((((rfl | rfl) | rfl) | ⟨n, _, rfl⟩) | rfl) | ⟨n, _, rfl⟩
        · omega
        · rw [txA_size]; omega
        · rw [txA_size]; omega
        · rw [txA_size]; have := hr8 n; omega
        · rw [txA_size]; omega
        · rw [txA_size]; have := hr8 n; omega
      rintro _ w30 ⟨rfl, e⟩
      have hP := hP.ext e
      (repeat (first | (apply WL.pure; rfl; rfl; rfl) | (apply WL.nil) | (apply EX.thenN) | (apply CW.ret)))
      refine EX.ret2 rfl rfl rfl ⟨?_, hE.trans hP.X⟩
      rw [hW]
      have e2 : ∀ l : List Int, (l.map fun n => txA (rnmL nms n true)).map bysA = l.map fun n => rnmL nms n true := fun l => by rw [List.map_map]; rfl
      simp only [List.map_append, e2, List.map_cons, List.map_nil, List.append_assoc, List.cons_append, List.nil_append]
      rfl
    · have h4 : ¬ pt.1 = 4 := by simpa using h
      clear h
      rw [if_neg h4] at hW
      obtain ⟨ao, ac, hav⟩ := hP.o1.val
      obtain ⟨bo, bc, hbv⟩ := hP.o2.val
      subst hav
      subst hbv
      obtain ⟨xo, xc, he, ha⟩ := hP.o1.oldN.sl
      obtain ⟨rfl, _, rfl⟩ := Value.slice.inj he
      have hnw := hn.up (hE.trans hP.X)
      (repeat (first | (apply WL.pure; rfl; rfl; rfl) | (apply EX.thenN) | (apply CW.seq) | (apply CW.region) | (apply CW.skip)))
      refine WL.call rfl rfl rfl (rwords_ok _ ha hnw (by omega)) ?_
      rintro wv wA ⟨howv, e⟩
      have hP := hP.ext e
      obtain ⟨wo, wc, hwv⟩ := howv.val
      subst hwv
      skip
      refine WL.app (α := ByteArray) (F := Non) rfl rfl rfl rfl hP.own howv.src hP.sz (fun _ h => h.elim) (by unfold maxLen; simp only [List.length_append, List.length_cons, List.length_nil, List.length_map]; omega) (by simp only [List.length_append, List.length_cons, List.length_nil, List.length_map]; omega) (fun v68 w68 ho hg hnb => ?_)
      have hP := hP.app ho hg (by decide)
      clear ho hg hnb
      have hb8 := hP.h8
      (repeat (first | (apply WL.pure; rfl; rfl; rfl) | (apply WL.nil) | (apply EX.thenN) | (apply CW.region) | (apply WL.fa; rfl; rfl; rfl) | (apply WL.ld; rfl; rfl; rfl; assumption; rfl)))
      refine WL.call rfl rfl rfl (scopWd_ok _ hk.2.2.1 hk.2.2.2.1) ?_
      rintro _ w69 ⟨rfl, e⟩
      have hP := hP.ext e
      skip
      refine WL.app1 (α := ByteArray) (F := Non) (yv := txA (scopT pt.2.1)) rfl rfl (fun _ => rfl) rfl rfl (fun _ => rfl) hP.own (Rd.mkStr _ _ _ (by rw [txA_size]; unfold maxLen; omega)) hP.sz (fun _ h => h.elim) (by decide) (by unfold maxLen; simp only [List.length_append, List.length_cons, List.length_nil, List.length_map]; omega) (by simp only [List.length_append, List.length_cons, List.length_nil, List.length_map]; omega) (fun v70 w70 q70 ho hg hnb => ?_)
      have hP := hP.app ho hg (by decide)
      clear ho hg hnb
      obtain ⟨xo, xc, he, hb⟩ := hP.o2.oldN.sl
      obtain ⟨rfl, _, rfl⟩ := Value.slice.inj he
      have hnw := hn.up (hE.trans hP.X)
      (repeat (apply WL.pure; rfl; rfl; rfl))
      refine WL.call rfl rfl rfl (rwords_ok _ hb hnw (by omega)) ?_
      rintro wv2 wB ⟨howv2, e⟩
      have hP := hP.ext e
      obtain ⟨wo2, wc2, hwv2⟩ := howv2.val
      subst hwv2
      skip
      refine WL.app (α := ByteArray) (F := Non) rfl rfl rfl rfl hP.own howv2.src hP.sz (fun _ h => h.elim) (by unfold maxLen; simp only [List.length_append, List.length_cons, List.length_nil, List.length_map]; omega) (by simp only [List.length_append, List.length_cons, List.length_nil, List.length_map]; omega) (fun v71 w71 ho hg hnb => ?_)
      have hP := hP.app ho hg (by decide)
      clear ho hg hnb
      (repeat (first | (apply WL.pure; rfl; rfl; rfl) | (apply WL.nil) | (apply EX.thenN) | (apply CW.seq) | (apply CW.region) | (apply EX.inN)))
      obtain ⟨zo, zc, hzv⟩ := hP.own.val
      subst hzv
      obtain ⟨yo, yc, he, hys⟩ := hP.own.oldN.sl
      obtain ⟨rfl, _, rfl⟩ := Value.slice.inj he
      refine WL.call rfl rfl rfl (rjoin_ok _ hys (by simp only [List.length_append, List.length_cons, List.length_nil, List.length_map]; omega) (by simp only [List.length_append, List.length_cons, List.length_nil, List.length_map]; omega) ?_) ?_
      · intro x hx
        simp only [List.mem_append, List.mem_cons, List.not_mem_nil, or_false, List.mem_map] at hx
        have hr8 : ∀ n, (rnmL nms n true).length ≤ 8 := fun n => rnmL_len nms n true
        rcases hx with (((rfl | rfl) | ⟨n, _, rfl⟩) | rfl) | ⟨n, _, rfl⟩
        · omega
        · rw [txA_size]; omega
        · rw [txA_size]; have := hr8 n; omega
        · rw [txA_size]; omega
        · rw [txA_size]; have := hr8 n; omega
      rintro _ w30 ⟨rfl, e⟩
      have hP := hP.ext e
      (repeat (first | (apply WL.pure; rfl; rfl; rfl) | (apply WL.nil) | (apply EX.thenN) | (apply CW.ret)))
      refine EX.ret2 rfl rfl rfl ⟨?_, hE.trans hP.X⟩
      rw [hW]
      have e2 : ∀ l : List Int, (l.map fun n => txA (rnmL nms n true)).map bysA = l.map fun n => rnmL nms n true := fun l => by rw [List.map_map]; rfl
      simp only [List.map_append, e2, List.map_cons, List.map_nil, List.append_assoc, List.cons_append, List.nil_append]
      rfl
  · have hs1 : ¬ so = 1 := by simpa using h
    clear h
    rw [if_neg hs1] at hW
    (repeat (first | (apply WL.pure; rfl; rfl; rfl) | (apply WL.nil) | (apply EX.thenN) | (apply CW.seq) | (apply CW.region)))
    refine CW.cond rfl (fun h => ?_) (fun h => ?_)
    · obtain rfl : so = 2 := by simpa using h
      clear h
      have hcp : chkT tp = 0 := by
        rcases hpt with h | h | h | h
        · exact absurd h.1 (by decide)
        · exact h.2
        · exact absurd h (by decide)
        · exact absurd h (by decide)
      clear hpt
      have hk := chkT_bd hcp
      have hkl := tempT_len hk.1 hk.2.1
      have hrA := rnmL_len nms tp.2.1 false
      have hrB := rnmL_len nms tp.2.2.1 false
      have hdc : tDecl.length = 7 := rfl
      rw [if_pos rfl] at hW
      (repeat (first | (apply CW.seq) | (apply CW.region) | (apply WL.fa; rfl; rfl; rfl) | (apply WL.ldA; rfl; rfl; rfl; assumption; rfl)))
      refine WL.alloc rfl rfl (fun w4 hb8 e4 => ?_)
      skip
      refine WL.st rfl rfl rfl hb8 rfl rfl (ones_of rfl) (fun w5 hb8 hg5 => ?_)
      have e5 : Ext w3 w5 := e4.grown hg5 e4.size (fun g hg => by cases hg; exact Nat.le_refl _)
      clear e4 hg5
      have e6 := e5.trans (Ext.drew w5)
      have hP : PW w2 (drew w5) w2.heap.size w0.heap.size w3.heap.size 25 _ _ _ (.slice none 0 0) (.slice none 0 0) [nm] ([] : List Int) ([] : List Int) :=
        ⟨ho3.extN e6, Own.nil, Own.nil, hb2.ext e6, hb8.ext (Ext.drew w5), hX.trans (e6.mono hX.size), Nat.le_refl _⟩
      clear hb2 hb8 ho3 e5 e6
      have hb8 := hP.h8
      have hnw := hn.up (hE.trans hP.X)
      (repeat (first | (apply WL.nil) | (apply EX.thenN) | (apply CW.seq)))
      refine CW.drawM 9 mixed (by kernel_rfl) ?_
      (repeat (first | (refine ML.q rfl rfl rfl (fun γ' w' hw' => WL.pure rfl rfl rfl (WL.nil (EX.mm rfl (Ext.refl _) rfl))) ?_) | (refine ML.q rfl rfl rfl (fun γ' w' hw' => WL.fa rfl rfl rfl (WL.nil (EX.mm rfl (Ext.refl _) rfl))) ?_) | (apply ML.q; rfl; rfl; rfl; (intro γ' w' hw'; apply WL.ld; rfl; rfl; rfl; apply Blk.ext; assumption; exact hw'; rfl; exact WL.nil (EX.mm rfl (Ext.refl _) rfl)))))
      refine ML.kc (v := tV (tempT tp.1)) rfl rfl rfl (fun γ w hw => by
        change WL _ _ _ _ _ _ _
        refine WL.call rfl rfl rfl (tempWd_ok w hk.1 hk.2.1) ?_
        rintro _ w' ⟨rfl, e'⟩
        exact WL.nil (EX.mm rfl e' rfl)) ?_
      (repeat (first | (refine ML.q rfl rfl rfl (fun γ' w' hw' => WL.pure rfl rfl rfl (WL.nil (EX.mm rfl (Ext.refl _) rfl))) ?_) | (refine ML.q rfl rfl rfl (fun γ' w' hw' => WL.fa rfl rfl rfl (WL.nil (EX.mm rfl (Ext.refl _) rfl))) ?_) | (apply ML.q; rfl; rfl; rfl; (intro γ' w' hw'; apply WL.ld; rfl; rfl; rfl; apply Blk.ext; assumption; exact hw'; rfl; exact WL.nil (EX.mm rfl (Ext.refl _) rfl)))))
      refine ML.kc (v := tV (rnmL nms tp.2.1 false)) rfl rfl rfl (fun γ w hw => by
        change WL _ _ _ _ _ _ _
        refine WL.call rfl rfl rfl (rname_ok w (hnw.up hw) tp.2.1 false) ?_
        rintro _ w' ⟨rfl, e'⟩
        exact WL.nil (EX.mm rfl e' rfl)) ?_
      refine ML.fc (fun v γ w => ∃ ao, v = .slice ao 3 3 ∧ Sl w (Old w) ao 3 [txA tDecl, txA (tempT tp.1), txA (rnmL nms tp.2.1 false)]) rfl rfl rfl (fun v γ γ' w w' h hE _ => by obtain ⟨ao, e, h⟩ := h; exact ⟨ao, e, h.up hE⟩) (fun γ w hw => by
        change WL _ _ _ _ _ _ _
        refine WL.lit (α := ByteArray) (F := Non) (ys := [txA (tDecl), txA (tempT tp.1), txA (rnmL nms tp.2.1 false)]) rfl rfl rfl rfl rfl (.cons (Rd.mkStr _ _ _ (by decide)) (.cons (Rd.mkStr _ _ _ (by rw [txA_size]; unfold maxLen; omega)) (.cons (Rd.mkStr _ _ _ (by rw [txA_size]; unfold maxLen; omega)) (.nil)))) (by show 3 * 1 ≤ 16777216; decide) (fun _ h => h.elim) (fun w' ho' hg' => ?_)
        obtain ⟨xo, xc, he, hs'⟩ := ho'.oldN.sl
        obtain ⟨rfl, _, rfl⟩ := Value.slice.inj he
        exact WL.nil (EX.mm rfl ((Below.refl _ _).grown hg' (Nat.le_refl _) (fun k h => by cases h)) ⟨_, rfl, hs'⟩)) ?_
      refine ML.nil fun γ w6 hw6 => ?_
      intro v78 g78
      change WL _ _ _ _ _ _ _
      obtain ⟨xo, rfl, hs78⟩ := g78
      have hP := hP.ext hw6
      refine WL.app (α := ByteArray) (F := Non) rfl rfl rfl rfl hP.own hs78.srcN hP.sz (fun _ h => h.elim) (by unfold maxLen; simp only [List.length_append, List.length_cons, List.length_nil, List.length_map]; omega) (by simp only [List.length_append, List.length_cons, List.length_nil, List.length_map]; omega) (fun v61 w61 ho hg hnb => ?_)
      have hP := hP.app ho hg (by decide)
      clear ho hg hnb
      (repeat (apply WL.pure; rfl; rfl; rfl))
      refine WL.nil (EX.tailE ?_)
      have hb8 := hP.h8
      (repeat (first | (apply WL.pure; rfl; rfl; rfl) | (apply WL.nil) | (apply EX.thenN) | (apply CW.seq) | (apply CW.region) | (apply WL.fa; rfl; rfl; rfl) | (apply WL.ld; rfl; rfl; rfl; assumption; rfl)))
      refine CW.cond rfl (fun h => ?_) (fun h => ?_)
      · have h4 : 0 < tp.2.2.2 := by simpa using h
        clear h
        rw [if_pos h4] at hW
        (repeat (first | (apply WL.pure; rfl; rfl; rfl) | (apply CW.region) | (apply WL.fa; rfl; rfl; rfl) | (apply WL.ld; rfl; rfl; rfl; assumption; rfl)))
        refine WL.call rfl rfl rfl (rdigit_ok _ hk.2.2.1 hk.2.2.2) ?_
        rintro _ w72 ⟨rfl, e⟩
        have hP := hP.ext e
        have hdl := dgT_len tp.2.2.2
        skip
        refine WL.app1 (α := ByteArray) (F := Non) (yv := txA (dgT tp.2.2.2)) rfl rfl (fun _ => rfl) rfl rfl (fun _ => rfl) hP.own (Rd.mkStr _ _ _ (by rw [txA_size]; unfold maxLen; omega)) hP.sz (fun _ h => h.elim) (by decide) (by unfold maxLen; simp only [List.length_append, List.length_cons, List.length_nil, List.length_map]; omega) (by simp only [List.length_append, List.length_cons, List.length_nil, List.length_map]; omega) (fun v73 w73 q73 ho hg hnb => ?_)
        have hP := hP.app ho hg (by decide)
        clear ho hg hnb
        have hb8 := hP.h8
        (repeat (first | (apply WL.pure; rfl; rfl; rfl) | (apply WL.nil) | (apply EX.thenN) | (apply CW.seq) | (apply CW.region) | (apply WL.fa; rfl; rfl; rfl) | (apply WL.ld; rfl; rfl; rfl; assumption; rfl)))
        refine WL.call rfl rfl rfl (alone_ok _ tp.1) ?_
        rintro _ wC ⟨rfl, rfl⟩
        (repeat (first | (apply WL.pure; rfl; rfl; rfl) | (apply WL.nil) | (apply EX.thenN)))
        cases hal : aloneB tp.1 with
        | true =>
          rw [if_pos hal] at hW
          (repeat (first | (apply WL.pure; rfl; rfl; rfl) | (apply EX.thenN) | (apply CW.seq) | (apply CW.region) | (apply EX.inN) | (apply CW.condF; rfl) | (apply CW.skip)))
          obtain ⟨zo, zc, hzv⟩ := hP.own.val
          subst hzv
          obtain ⟨yo, yc, he, hys⟩ := hP.own.oldN.sl
          obtain ⟨rfl, _, rfl⟩ := Value.slice.inj he
          refine WL.call rfl rfl rfl (rjoin_ok _ hys (by simp only [List.length_append, List.length_cons, List.length_nil, List.length_map]; omega) (by simp only [List.length_append, List.length_cons, List.length_nil, List.length_map]; omega) ?_) ?_
          · intro x hx
            simp only [List.mem_append, List.mem_cons, List.not_mem_nil, or_false, List.mem_map] at hx
            rcases hx with (rfl | (rfl | rfl | rfl)) | rfl
            · omega
            · rw [txA_size]; omega
            · rw [txA_size]; omega
            · rw [txA_size]; omega
            · rw [txA_size]; omega
          rintro _ w30 ⟨rfl, e⟩
          have hP := hP.ext e
          (repeat (first | (apply WL.pure; rfl; rfl; rfl) | (apply WL.nil) | (apply EX.thenN) | (apply CW.ret)))
          refine EX.ret2 rfl rfl rfl ⟨?_, hE.trans hP.X⟩
          rw [hW]
          simp only [List.map_append, List.map_cons, List.map_nil, List.append_assoc, List.cons_append, List.nil_append]
          rfl
        | false =>
          rw [if_neg (by rw [hal]; decide)] at hW
          have hnw := hn.up (hE.trans hP.X)
          (repeat (first | (apply WL.pure; rfl; rfl; rfl) | (apply CW.region) | (apply WL.fa; rfl; rfl; rfl) | (apply WL.ld; rfl; rfl; rfl; assumption; rfl) | (apply CW.condT; rfl)))
          refine WL.call rfl rfl rfl (rname_ok _ hnw tp.2.2.1 false) ?_
          rintro _ w74 ⟨rfl, e⟩
          have hP := hP.ext e
          skip
          refine WL.app1 (α := ByteArray) (F := Non) (yv := txA (rnmL nms tp.2.2.1 false)) rfl rfl (fun _ => rfl) rfl rfl (fun _ => rfl) hP.own (Rd.mkStr _ _ _ (by rw [txA_size]; unfold maxLen; omega)) hP.sz (fun _ h => h.elim) (by decide) (by unfold maxLen; simp only [List.length_append, List.length_cons, List.length_nil, List.length_map]; omega) (by simp only [List.length_append, List.length_cons, List.length_nil, List.length_map]; omega) (fun v75 w75 q75 ho hg hnb => ?_)
          have hP := hP.app ho hg (by decide)
          clear ho hg hnb
          (repeat (first | (apply WL.pure; rfl; rfl; rfl) | (apply WL.nil) | (apply EX.thenN) | (apply CW.seq) | (apply CW.region) | (apply EX.inN)))
          obtain ⟨zo, zc, hzv⟩ := hP.own.val
          subst hzv
          obtain ⟨yo, yc, he, hys⟩ := hP.own.oldN.sl
          obtain ⟨rfl, _, rfl⟩ := Value.slice.inj he
          refine WL.call rfl rfl rfl (rjoin_ok _ hys (by simp only [List.length_append, List.length_cons, List.length_nil, List.length_map]; omega) (by simp only [List.length_append, List.length_cons, List.length_nil, List.length_map]; omega) ?_) ?_
          · intro x hx
            simp only [List.mem_append, List.mem_cons, List.not_mem_nil, or_false, List.mem_map] at hx
            rcases hx with ((rfl | (rfl | rfl | rfl)) | rfl) | rfl
            · omega
            · rw [txA_size]; omega
            · rw [txA_size]; omega
            · rw [txA_size]; omega
            · rw [txA_size]; omega
            · rw [txA_size]; omega
          rintro _ w30 ⟨rfl, e⟩
          have hP := hP.ext e
          (repeat (first | (apply WL.pure; rfl; rfl; rfl) | (apply WL.nil) | (apply EX.thenN) | (apply CW.ret)))
          refine EX.ret2 rfl rfl rfl ⟨?_, hE.trans hP.X⟩
          rw [hW]
          simp only [List.map_append, List.map_cons, List.map_nil, List.append_assoc, List.cons_append, List.nil_append]
          rfl
      · have h4 : ¬ 0 < tp.2.2.2 := by simpa using h
        clear h
        rw [if_neg h4] at hW
        have hb8 := hP.h8
        (repeat (first | (apply EX.thenN) | (apply CW.seq) | (apply CW.region) | (apply WL.fa; rfl; rfl; rfl) | (apply WL.ld; rfl; rfl; rfl; assumption; rfl) | (apply CW.skip)))
        refine WL.call rfl rfl rfl (alone_ok _ tp.1) ?_
        rintro _ wC ⟨rfl, rfl⟩
        (repeat (first | (apply WL.pure; rfl; rfl; rfl) | (apply WL.nil) | (apply EX.thenN)))
        cases hal : aloneB tp.1 with
        | true =>
          rw [if_pos hal] at hW
          (repeat (first | (apply WL.pure; rfl; rfl; rfl) | (apply EX.thenN) | (apply CW.seq) | (apply CW.region) | (apply EX.inN) | (apply CW.condF; rfl) | (apply CW.skip)))
          obtain ⟨zo, zc, hzv⟩ := hP.own.val
          subst hzv
          obtain ⟨yo, yc, he, hys⟩ := hP.own.oldN.sl
          obtain ⟨rfl, _, rfl⟩ := Value.slice.inj he
          refine WL.call rfl rfl rfl (rjoin_ok _ hys (by simp only [List.length_append, List.length_cons, List.length_nil, List.length_map]; omega) (by simp only [List.length_append, List.length_cons, List.length_nil, List.length_map]; omega) ?_) ?_
          · intro x hx
            simp only [List.mem_append, List.mem_cons, List.not_mem_nil, or_false, List.mem_map] at hx
            rcases hx with rfl | (rfl | rfl | rfl)
            · omega
            · rw [txA_size]; omega
            · rw [txA_size]; omega
            · rw [txA_size]; omega
          rintro _ w30 ⟨rfl, e⟩
          have hP := hP.ext e
          (repeat (first | (apply WL.pure; rfl; rfl; rfl) | (apply WL.nil) | (apply EX.thenN) | (apply CW.ret)))
          refine EX.ret2 rfl rfl rfl ⟨?_, hE.trans hP.X⟩
          rw [hW]
          simp only [List.map_append, List.map_cons, List.map_nil, List.append_assoc, List.cons_append, List.nil_append]
          rfl
        | false =>
          rw [if_neg (by rw [hal]; decide)] at hW
          have hnw := hn.up (hE.trans hP.X)
          (repeat (first | (apply WL.pure; rfl; rfl; rfl) | (apply CW.region) | (apply WL.fa; rfl; rfl; rfl) | (apply WL.ld; rfl; rfl; rfl; assumption; rfl) | (apply CW.condT; rfl)))
          refine WL.call rfl rfl rfl (rname_ok _ hnw tp.2.2.1 false) ?_
          rintro _ w76 ⟨rfl, e⟩
          have hP := hP.ext e
          skip
          refine WL.app1 (α := ByteArray) (F := Non) (yv := txA (rnmL nms tp.2.2.1 false)) rfl rfl (fun _ => rfl) rfl rfl (fun _ => rfl) hP.own (Rd.mkStr _ _ _ (by rw [txA_size]; unfold maxLen; omega)) hP.sz (fun _ h => h.elim) (by decide) (by unfold maxLen; simp only [List.length_append, List.length_cons, List.length_nil, List.length_map]; omega) (by simp only [List.length_append, List.length_cons, List.length_nil, List.length_map]; omega) (fun v77 w77 q77 ho hg hnb => ?_)
          have hP := hP.app ho hg (by decide)
          clear ho hg hnb
          (repeat (first | (apply WL.pure; rfl; rfl; rfl) | (apply WL.nil) | (apply EX.thenN) | (apply CW.seq) | (apply CW.region) | (apply EX.inN)))
          obtain ⟨zo, zc, hzv⟩ := hP.own.val
          subst hzv
          obtain ⟨yo, yc, he, hys⟩ := hP.own.oldN.sl
          obtain ⟨rfl, _, rfl⟩ := Value.slice.inj he
          refine WL.call rfl rfl rfl (rjoin_ok _ hys (by simp only [List.length_append, List.length_cons, List.length_nil, List.length_map]; omega) (by simp only [List.length_append, List.length_cons, List.length_nil, List.length_map]; omega) ?_) ?_
          · intro x hx
            simp only [List.mem_append, List.mem_cons, List.not_mem_nil, or_false, List.mem_map] at hx
            rcases hx with (rfl | (rfl | rfl | rfl)) | rfl
            · omega
            · rw [txA_size]; omega
            · rw [txA_size]; omega
            · rw [txA_size]; omega
            · rw [txA_size]; omega
          rintro _ w30 ⟨rfl, e⟩
          have hP := hP.ext e
          (repeat (first | (apply WL.pure; rfl; rfl; rfl) | (apply WL.nil) | (apply EX.thenN) | (apply CW.ret)))
          refine EX.ret2 rfl rfl rfl ⟨?_, hE.trans hP.X⟩
          rw [hW]
          simp only [List.map_append, List.map_cons, List.map_nil, List.append_assoc, List.cons_append, List.nil_append]
          rfl
    · have hs2 : ¬ so = 2 := by simpa using h
      clear h
      rw [if_neg hs2] at hW
      (repeat (first | (apply WL.pure; rfl; rfl; rfl) | (apply WL.nil) | (apply EX.thenN) | (apply CW.seq) | (apply CW.region)))
      refine CW.cond rfl (fun h => ?_) (fun h => ?_)
      · obtain rfl : so = 3 := by simpa using h
        clear h
        rw [if_pos rfl] at hW
        have hpl := printL_len lt nms
        have htl : tLtl.length = 3 := rfl
        have hP : PW w2 w3 w2.heap.size w0.heap.size w0.heap.size 33 _ _ _ (.slice none 0 0) (.slice none 0 0) [nm] ([] : List Int) ([] : List Int) :=
          ⟨ho3, Own.nil, Own.nil, hb2, hb2, hX, Nat.le_refl _⟩
        clear hb2 ho3
        have hb2 := hP.h2
        (repeat (first | (apply WL.pure; rfl; rfl; rfl) | (apply CW.seq) | (apply CW.region) | (apply WL.fa; rfl; rfl; rfl) | (apply WL.ldA; rfl; rfl; rfl; assumption; rfl)))
        refine WL.call rfl rfl rfl (lprint_ok (t := lt) w3 hl3 hn3) ?_
        rintro _ w81 ⟨rfl, e⟩
        have hP := hP.ext e
        generalize printL lt nms = pq at *
        obtain ⟨tx, er⟩ := pq
        dsimp only at hpl hW ⊢
        (repeat (first | (apply WL.pure; rfl; rfl; rfl) | (apply WL.nil) | (apply EX.thenN) | (apply CW.region)))
        refine WL.lit (α := ByteArray) (F := Non) (ys := [txA (tLtl), txA (tx)]) rfl rfl rfl rfl rfl (.cons (Rd.mkStr _ _ _ (by decide)) (.cons (Rd.mkStr _ _ _ (by rw [txA_size]; unfold maxLen; omega)) (.nil))) (by show 2 * 1 ≤ 16777216; decide) (fun _ h => h.elim) (fun wL hoL hgL => ?_)
        have hP := hP.ext ((Below.refl _ _).grown hgL (Nat.le_refl _) (fun k h => by cases h))
        clear hgL
        refine WL.app (α := ByteArray) (F := Non) (ys := [txA (tLtl), txA tx]) rfl rfl rfl rfl hP.own hoL.src hP.sz (fun _ h => h.elim) (by unfold maxLen; simp only [List.length_append, List.length_cons, List.length_nil, List.length_map]; omega) (by simp only [List.length_append, List.length_cons, List.length_nil, List.length_map]; omega) (fun v82 w82 ho hg hnb => ?_)
        have hP := hP.app ho hg (by decide)
        clear ho hg hnb
        (repeat (first | (apply WL.pure; rfl; rfl; rfl) | (apply WL.nil) | (apply EX.thenN) | (apply CW.seq) | (apply CW.region) | (apply EX.inN)))
        obtain ⟨zo, zc, hzv⟩ := hP.own.val
        subst hzv
        obtain ⟨yo, yc, he, hys⟩ := hP.own.oldN.sl
        obtain ⟨rfl, _, rfl⟩ := Value.slice.inj he
        refine WL.call rfl rfl rfl (rjoin_ok _ hys (by simp only [List.length_append, List.length_cons, List.length_nil, List.length_map]; omega) (by simp only [List.length_append, List.length_cons, List.length_nil, List.length_map]; omega) ?_) ?_
        · intro x hx
          simp only [List.mem_append, List.mem_cons, List.not_mem_nil, or_false, List.mem_map] at hx
          rcases hx with rfl | (rfl | rfl)
          · omega
          · rw [txA_size]; omega
          · rw [txA_size]; omega
        rintro _ w30 ⟨rfl, e⟩
        have hP := hP.ext e
        (repeat (first | (apply WL.pure; rfl; rfl; rfl) | (apply WL.nil) | (apply EX.thenN) | (apply CW.ret)))
        refine EX.ret2 rfl rfl rfl ⟨?_, hE.trans hP.X⟩
        rw [hW]
        simp only [List.map_append, List.map_cons, List.map_nil, List.append_assoc, List.cons_append, List.nil_append]
        rfl
      · have hs3 : ¬ so = 3 := by simpa using h
        clear h
        rw [if_neg hs3] at hW
        obtain rfl : so = 4 := by
          rcases hpt with h | h | h | h
          · exact absurd h.1 hs1
          · exact absurd h.1 hs2
          · exact absurd h hs3
          · exact h
        (repeat (first | (apply WL.pure; rfl; rfl; rfl) | (apply WL.nil) | (apply EX.thenN) | (apply CW.seq) | (apply CW.region) | (apply WL.fa; rfl; rfl; rfl) | (apply WL.ldA; rfl; rfl; rfl; assumption; rfl) | (apply CW.condT; rfl)))
        have hpl := printC_len ct nms
        have htl : tCtl.length = 3 := rfl
        have hP : PW w2 w3 w2.heap.size w0.heap.size w0.heap.size 33 _ _ _ (.slice none 0 0) (.slice none 0 0) [nm] ([] : List Int) ([] : List Int) :=
          ⟨ho3, Own.nil, Own.nil, hb2, hb2, hX, Nat.le_refl _⟩
        clear hb2 ho3
        have hb2 := hP.h2
        skip
        refine WL.call rfl rfl rfl (cprint_ok (t := ct) w3 hc3 hn3) ?_
        rintro _ w81 ⟨rfl, e⟩
        have hP := hP.ext e
        generalize printC ct nms = pq at *
        obtain ⟨tx, er⟩ := pq
        dsimp only at hpl hW ⊢
        (repeat (first | (apply WL.pure; rfl; rfl; rfl) | (apply WL.nil) | (apply EX.thenN) | (apply CW.region)))
        refine WL.lit (α := ByteArray) (F := Non) (ys := [txA (tCtl), txA (tx)]) rfl rfl rfl rfl rfl (.cons (Rd.mkStr _ _ _ (by decide)) (.cons (Rd.mkStr _ _ _ (by rw [txA_size]; unfold maxLen; omega)) (.nil))) (by show 2 * 1 ≤ 16777216; decide) (fun _ h => h.elim) (fun wL hoL hgL => ?_)
        have hP := hP.ext ((Below.refl _ _).grown hgL (Nat.le_refl _) (fun k h => by cases h))
        clear hgL
        refine WL.app (α := ByteArray) (F := Non) (ys := [txA (tCtl), txA tx]) rfl rfl rfl rfl hP.own hoL.src hP.sz (fun _ h => h.elim) (by unfold maxLen; simp only [List.length_append, List.length_cons, List.length_nil, List.length_map]; omega) (by simp only [List.length_append, List.length_cons, List.length_nil, List.length_map]; omega) (fun v82 w82 ho hg hnb => ?_)
        have hP := hP.app ho hg (by decide)
        clear ho hg hnb
        (repeat (first | (apply WL.pure; rfl; rfl; rfl) | (apply WL.nil) | (apply EX.thenN) | (apply CW.seq) | (apply CW.region) | (apply EX.inN)))
        obtain ⟨zo, zc, hzv⟩ := hP.own.val
        subst hzv
        obtain ⟨yo, yc, he, hys⟩ := hP.own.oldN.sl
        obtain ⟨rfl, _, rfl⟩ := Value.slice.inj he
        refine WL.call rfl rfl rfl (rjoin_ok _ hys (by simp only [List.length_append, List.length_cons, List.length_nil, List.length_map]; omega) (by simp only [List.length_append, List.length_cons, List.length_nil, List.length_map]; omega) ?_) ?_
        · intro x hx
          simp only [List.mem_append, List.mem_cons, List.not_mem_nil, or_false, List.mem_map] at hx
          rcases hx with rfl | (rfl | rfl)
          · omega
          · rw [txA_size]; omega
          · rw [txA_size]; omega
        rintro _ w30 ⟨rfl, e⟩
        have hP := hP.ext e
        (repeat (first | (apply WL.pure; rfl; rfl; rfl) | (apply WL.nil) | (apply EX.thenN) | (apply CW.ret)))
        refine EX.ret2 rfl rfl rfl ⟨?_, hE.trans hP.X⟩
        rw [hW]
        simp only [List.map_append, List.map_cons, List.map_nil, List.append_assoc, List.cons_append, List.nil_append]
        rfl
end Go.Proofs.YtikigaeihdmcaaaGreatDoor

/-
  Reading a text: nil errors, bytes and parts of texts, functions of a receiver. Over any program. What the next token is: plain.
-/
set_option linter.unusedVariables false
set_option linter.unusedSimpArgs false
namespace Go.Proofs.YtikigaeihdmcaaaGreatDoor
open Go.RowKit

class IsIf (P : Program) (t : TypeId) : Prop where
  ok : P.isIface t = true
/-- an error, nil or not -/
def errI : Value → Bool | .nilIface => true | .iface _ _ => true | _ => false
def nilI : Value → Bool | .nilIface => true | _ => false
section
variable {P : Program} {Q : Exit → Act → World → Prop} {n : Nat} {σ : Sg} {w : World} {L rest : List Oper} {d : Nat} {op : Op} {ty : TypeId} {pos : String} {af : Array Edge} {g : Option (Nat × Bool)} {t yt : TypeId} {x y ix : Operand}
theorem run_eqNil [hi : IsIf P t] {v : Value} (hv : errI v = true) (w : World) : ((do eqGuard .eql t x (.const .nilIface) v .nilIface; binOp .eql t v .nilIface : Sem Value)).run P w = .ok (.bool (nilI v)) w := by
  cases v <;> simp [errI] at hv
  · rename_i u z
    have h1 : eqGuard .eql t x (.const .nilIface) (.iface u z) .nilIface = pure () := rfl
    have h2 := Go.run_eql_iface_nil (P := P) w t hi.ok u z
    rw [h1, Sem.run_bind]
    simpa [nilI] using h2
  · rw [eqGuard_nil_constR, Sem.run_bind]
    have h2 := Go.run_eql_nil_nil_at (P := P) w t hi.ok
    simpa [nilI] using h2
theorem run_neNil [hi : IsIf P t] {v : Value} (hv : errI v = true) (w : World) : ((do eqGuard .neq t x (.const .nilIface) v .nilIface; binOp .neq t v .nilIface : Sem Value)).run P w = .ok (.bool (!nilI v)) w := by
  cases v <;> simp [errI] at hv
  · rename_i u z
    have h1 : eqGuard .neq t x (.const .nilIface) (.iface u z) .nilIface = pure () := rfl
    have h2 := Go.run_neq_iface_nil (P := P) w t hi.ok u z
    rw [h1, Sem.run_bind]
    simpa [nilI] using h2
  · rw [eqGuard_nil_constR, Sem.run_bind]
    have h2 := Go.run_neq_nil_nil_at (P := P) w t hi.ok
    simpa [nilI] using h2
/-- err == nil -/
theorem WL.eqNil {v : Value} (hg : gd L σ ⟨some d, .binOp .eql t x (.const .nilIface) yt, ty, pos, af, g⟩ = some true) (hd : Nat.ble (d + 1) n = true) (hx : ev σ x = some v) [hi : IsIf P t] (hv : errI v = true)
    (h : WL P L Q rest n ((d, .bool (nilI v)) :: σ) w) : WL P L Q (⟨some d, .binOp .eql t x (.const .nilIface) yt, ty, pos, af, g⟩ :: rest) n σ w := by
  refine WL.run hg hd (fun c hc => ?_) h
  have := run_eqNil (P := P) (t := t) (x := x) hv w
  simp only [execOp, hc.ev hx]
  rw [Sem.run_bind]
  show Result.andThen (Sem.run P _ w) _ = _
  rw [show (Act.eval c (Operand.const Value.nilIface)) = Value.nilIface from rfl, this]; rfl
theorem WL.neNil {v : Value} (hg : gd L σ ⟨some d, .binOp .neq t x (.const .nilIface) yt, ty, pos, af, g⟩ = some true) (hd : Nat.ble (d + 1) n = true) (hx : ev σ x = some v) [hi : IsIf P t] (hv : errI v = true)
    (h : WL P L Q rest n ((d, .bool (!nilI v)) :: σ) w) : WL P L Q (⟨some d, .binOp .neq t x (.const .nilIface) yt, ty, pos, af, g⟩ :: rest) n σ w := by
  refine WL.run hg hd (fun c hc => ?_) h
  have := run_neNil (P := P) (t := t) (x := x) hv w
  simp only [execOp, hc.ev hx]
  rw [Sem.run_bind]
  show Result.andThen (Sem.run P _ w) _ = _
  rw [show (Act.eval c (Operand.const Value.nilIface)) = Value.nilIface from rfl, this]; rfl
theorem txA_get {l : List UInt8} {i : Nat} (h : i < l.length) : (txA l)[i]? = some l[i] := by
  have : i < (txA l).size := by rw [txA_size]; exact h
  rw [getElem?_pos (txA l) i this]
  show some (l.toArray[i]'(by simpa using h)) = _
  simp
theorem run_byte {s : List UInt8} {i : Nat} {kd : IntKind} [hs : IsStr P t] (h1 : i < s.length) (w : World) : (Instr.index t (tV s) (.int kd (i : Int))).run P w = .ok (.int .u8 ((s[i]).toNat : Int)) w := by
  simp [Instr.index, asIntOf, run_underlying hs.ok, txA_get h1]
/-- s[i] -/
theorem WL.byteL {s : List UInt8} {i : Nat} {kd : IntKind} (hg : gd L σ ⟨some d, .index t x ix, ty, pos, af, g⟩ = some true) (hd : Nat.ble (d + 1) n = true)
    (hx : ev σ x = some (tV s)) (hi : ev σ ix = some (.int kd (i : Int))) [hs : IsStr P t] (h1 : i < s.length) (h : WL P L Q rest n ((d, .int .u8 ((s[i]).toNat : Int)) :: σ) w) : WL P L Q (⟨some d, .index t x ix, ty, pos, af, g⟩ :: rest) n σ w := by
  refine WL.run hg hd (fun a ha => ?_) h
  have := run_byte (P := P) (t := t) (kd := kd) h1 w
  simp only [execOp, ha.ev hx, ha.ev hi]
  rw [Sem.run_bind, this]; rfl
theorem QL.byteL {s : List UInt8} {i : Nat} {kd : IntKind} (hg : gd L σ ⟨some d, .index t x ix, ty, pos, af, g⟩ = some true) (hd : Nat.ble (d + 1) n = true)
    (hx : ev σ x = some (tV s)) (hi : ev σ ix = some (.int kd (i : Int))) [hs : IsStr P t] (h1 : i < s.length) (h : QL P L w Q rest n ((d, .int .u8 ((s[i]).toNat : Int)) :: σ)) : QL P L w Q (⟨some d, .index t x ix, ty, pos, af, g⟩ :: rest) n σ := by
  refine QL.run hg hd (fun a ha w' _ => ?_) h
  have := run_byte (P := P) (t := t) (kd := kd) h1 w'
  simp only [execOp, ha.ev hx, ha.ev hi]
  rw [Sem.run_bind, this]; rfl
theorem txA_cut {l : List UInt8} {i j : Nat} : (txA l).extract i j = txA ((l.take j).drop i) := by
  apply ByteArray.ext
  simp [txA, ByteArray.data_extract, List.drop_take]
theorem run_cutT {s : List UInt8} {i j : Nat} {k1 k2 : IntKind} [hs : IsStr P t] (h1 : i ≤ j) (h2 : j ≤ s.length) (w : World) : (Instr.sliceAt t (tV s) (some (.int k1 (i : Int))) (some (.int k2 (j : Int))) none).run P w = .ok (tV ((s.take j).drop i)) w := by
  have hz := txA_size s
  simp [Instr.sliceAt, Instr.slice, Instr.sliceBounds, Instr.sliceBound, asIntOf, run_underlying hs.ok, hz, h1, h2, txA_cut]
theorem HL.cutT {S : World → Prop} {ord : List (Nat × Bool)} {o : Nat} {s : List UInt8} {i j : Nat} {k1 k2 : IntKind} (ho : nthO L o = some ⟨some d, .slice t x (some y) (some ix) none, ty, pos, af, g⟩) (hg : gd L σ ⟨some d, .slice t x (some y) (some ix) none, ty, pos, af, g⟩ = some true) (hd : Nat.ble (d + 1) n = true)
    (hx : ev σ x = some (tV s)) (hy : ev σ y = some (.int k1 (i : Int))) (hz : ev σ ix = some (.int k2 (j : Int))) [hs : IsStr P t] (h1 : i ≤ j) (h2 : j ≤ s.length) (h : HL P L S Q ord n ((d, tV ((s.take j).drop i)) :: σ) w) : HL P L S Q ((o, true) :: ord) n σ w := by
  refine HL.run ho hg hd (fun a ha w' _ => ?_) h
  have := run_cutT (P := P) (t := t) (k1 := k1) (k2 := k2) h1 h2 w'
  simp only [execOp, ha.ev hx, ha.ev hy, ha.ev hz, Option.map_some, Option.map_none]
  rw [Sem.run_bind, this]; rfl
/-- a pointer that becomes an interface value -/
theorem WL.mkIf {v : Value} {T : TypeDesc} (hg : gd L σ ⟨some d, .makeInterface t x, ty, pos, af, g⟩ = some true) (hd : Nat.ble (d + 1) n = true) (hx : ev σ x = some v) (hT : P.underlying t = some T) (hn : (match T with | .interface _ => true | _ => false) = false)
    (h : WL P L Q rest n ((d, .iface t v) :: σ) w) : WL P L Q (⟨some d, .makeInterface t x, ty, pos, af, g⟩ :: rest) n σ w := by
  refine WL.run hg hd (fun c hc => ?_) h
  simp only [execOp, hc.ev hx, Instr.makeInterface]
  rw [Sem.run_bind, Sem.run_bind, run_underlying hT]
  cases T <;> simp_all
end
/-- a function of a receiver -/
theorem FnV.mkM {P : Program} {f : FuncId} {fs args : List Value} {w : World} {R : Value → World → Prop} [hf : IsF P f] (h : Rt P f (fs ++ args).toArray w R) : FnV P (.func (.func f) fs.toArray [].toArray) args w R :=
  ⟨f, fs, [], rfl, hf, by simpa using h⟩

/- THE NEXT TOKEN, BY PLACES -/
theorem dropW_all {p : UInt8 → Bool} {a b : Bys} (h : ∀ c ∈ a, p c = true) (hb : ∀ c, b.head? = some c → p c = false) : (a ++ b).dropWhile p = b := by
  induction a with
  | nil =>
    cases b with
    | nil => rfl
    | cons c t => simp [List.dropWhile, hb c rfl]
  | cons c a ih => simp [List.dropWhile, h c (by simp), ih (fun d hd => h d (by simp [hd]))]
theorem drop_split {s : Bys} {e i : Nat} (h : e ≤ i) : s.drop e = (s.drop e).take (i - e) ++ s.drop i := by
  rw [show s.drop i = (s.drop e).drop (i - e) by rw [List.drop_drop]; congr 1; omega, List.take_append_drop]
theorem take_mem {s : Bys} {e i : Nat} {p : UInt8 → Bool} (h : ∀ k (hk : k < s.length), e ≤ k → k < i → p s[k] = true) : ∀ c ∈ (s.drop e).take (i - e), p c = true := by
  intro c hc
  obtain ⟨j, hj, rfl⟩ := List.mem_iff_getElem.1 hc
  rw [List.length_take, List.length_drop] at hj
  rw [List.getElem_take, List.getElem_drop]
  exact h _ (by omega) (by omega) (by omega)
theorem head_drop {s : Bys} {i : Nat} {c : UInt8} (h : (s.drop i).head? = some c) : ∃ hi : i < s.length, c = s[i] := by
  rw [List.head?_drop] at h
  obtain ⟨hi, e⟩ := List.getElem?_eq_some_iff.1 h
  exact ⟨hi, e.symm⟩
theorem nx_done {s : Bys} {e i j : Nat} (hei : e ≤ i) (hij : i ≤ j) (hj : j ≤ s.length) (h1 : ∀ k (hk : k < s.length), e ≤ k → k < i → (s[k] == 32) = true) (h2 : ∀ hk : i < s.length, (s[i] == 32) = false)
    (h3 : ∀ k (hk : k < s.length), i ≤ k → k < j → lowB s[k] = true) (h4 : ∀ hk : j < s.length, lowB s[j] = false) :
    (i < j ∨ i = s.length → nxT (s.drop e) = ((s.take j).drop i, s.drop j)) ∧ (i = j → i < s.length → s[i]? = some 45 → s[i + 1]? = some 62 → nxT (s.drop e) = ((s.take (i + 2)).drop i, s.drop (i + 2))) ∧
    (i = j → i < s.length → ¬ (s[i]? = some 45 ∧ s[i + 1]? = some 62) → nxT (s.drop e) = ((s.take (i + 1)).drop i, s.drop (i + 1))) := by
  have hd : (s.drop e).dropWhile (fun c => c == 32) = s.drop i := by
    rw [drop_split hei]
    exact dropW_all (take_mem h1) (fun c hc => by obtain ⟨hi, rfl⟩ := head_drop hc; exact h2 hi)
  have hdt : ∀ m, (s.take m).drop i = (s.drop i).take (m - i) := fun m => by rw [List.drop_take]
  have hsp := takeW_all (l := (s.drop i).take (j - i)) (r := s.drop j) (take_mem h3) (fun c hc => by obtain ⟨hi, rfl⟩ := head_drop hc; exact h4 hi)
  rw [← drop_split hij] at hsp
  unfold nxT
  rw [hd, hdt, hdt, hdt]
  refine ⟨fun h => ?_, fun h hi a b => ?_, fun h hi a => ?_⟩
  · by_cases hi : i < s.length
    · have hij' : i < j := by omega
      have hc : lowB s[i] = true := h3 i hi (Nat.le_refl _) hij'
      rw [List.drop_eq_getElem_cons hi] at hsp ⊢
      dsimp only
      rw [if_pos hc, hsp.1, hsp.2]
    · have : s.drop i = [] := List.drop_eq_nil_of_le (by omega)
      rw [this, show s.drop j = [] from List.drop_eq_nil_of_le (by omega)]
      simp
  · subst h
    have hc : ¬ lowB s[i] = true := by rw [h4 hi]; decide
    have hi1 : i + 1 < s.length := by obtain ⟨h, _⟩ := List.getElem?_eq_some_iff.1 b; exact h
    obtain ⟨_, ea⟩ := List.getElem?_eq_some_iff.1 a
    obtain ⟨_, eb⟩ := List.getElem?_eq_some_iff.1 b
    rw [List.drop_eq_getElem_cons hi, List.drop_eq_getElem_cons hi1]
    dsimp only
    rw [if_neg hc, if_pos (by rw [ea, eb]; rfl), show i + 2 - i = 2 by omega]
    rfl
  · subst h
    have hc : ¬ lowB s[i] = true := by rw [h4 hi]; decide
    rw [List.drop_eq_getElem_cons hi]
    dsimp only
    rw [if_neg hc]
    by_cases hi1 : i + 1 < s.length
    · rw [List.drop_eq_getElem_cons hi1]
      dsimp only
      rw [if_neg]
      · rw [show i + 1 - i = 1 by omega]; rfl
      · intro h
        rw [Bool.and_eq_true, beq_iff_eq, beq_iff_eq] at h
        exact a ⟨by rw [List.getElem?_eq_getElem hi, h.1], by rw [List.getElem?_eq_getElem hi1, h.2]⟩
    · rw [show s.drop (i + 1) = [] from List.drop_eq_nil_of_le (by omega), show i + 1 - i = 1 by omega]
      rfl
end Go.Proofs.YtikigaeihdmcaaaGreatDoor

