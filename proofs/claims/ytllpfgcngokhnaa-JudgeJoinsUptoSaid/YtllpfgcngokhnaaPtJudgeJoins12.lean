import Derived.Test.YtllpfgcngokhnaaPtJudgeJoins11
/-
  Package empty: Find: walked.
-/
set_option linter.unusedVariables false
set_option linter.unusedSimpArgs false
namespace Go.Proofs.Ytllpfgcngokhnaa
open Go.RowKit

theorem results_cellE {fn : Func} {a u s : Nat} {t : TypeId} (h : fn.results = #[.cell a t, .tmp u, .tmp s]) (tmps : Array Value) (P : Program) (w : World) {p : Addr} {v : Value} (ha : tmps.getD a undef = .pointer (some p)) (hl : (loadVar t p).run P w = .ok v w) :
    (results fn tmps).run P w = .ok (.tuple ⟨[v, tmps.getD u undef, tmps.getD s undef]⟩) w := by
  simp only [Array.getD_eq_getD_getElem?] at ha ⊢
  simp [results, h, ha, asAddr, hl]
theorem EX.retCE {P : Program} {n : Nat} {σ : Sg} {w : World} {fn : Func} {a b u s : Nat} {t e : TypeId} {cells : List Value} {k : Nat} {x y : Value} {R : Value → World → Prop} (hr : fn.results = #[.cell a t, .tmp u, .tmp s]) (ha : fnd σ a = some (.pointer (some ⟨b, 0, none⟩))) (hu : fnd σ u = some x) (hs : fnd σ s = some y) [hc : IsC P t k true] (hb : Blk w b e cells) (hk : lenL cells = k) (h : R (.tuple ⟨[.agg cells.toArray, x, y]⟩) w) :
    EX (bodyPost P fn fun e w' => ∃ v, e = .returned v ∧ R v w') .ret n σ w := by
  unfold EX; intro ac hac
  refine bodyPost_ret (results_cellE hr _ _ _ (hac.slot a _ ha) (v := .agg cells.toArray) ?_) hac.defers ⟨_, by rw [hac.slot u x hu, hac.slot s y hs], h⟩
  rw [lenL_eq] at hk
  have hld := run_loadCells_list (P := P) w ⟨b, 0, none⟩ cells (fun j u hu => by rw [WideShapes.add_plain, Nat.zero_add]; exact hb.cell hu)
  obtain ⟨i, dd, h1, h2, h3, h4⟩ := hc.ok
  have hagg : (isAgg t).run P w = .ok true w := by
    unfold isAgg
    rw [Sem.run_bind, run_underlying h3 w, ← h4]
    cases dd <;> rfl
  rw [hk] at hld
  simp [loadVar, hagg, sizeOf, typeInfo, h1, h2, hld]
/-- what Find tells -/
def FoundE (W : LWorld) (A : LAuto2) (s l : List Int) (is : Bool) (err : Int) : Prop :=
  (err ≠ 0 ∧ is = false ∧ s = [] ∧ l = [] ∧ (chkE W = 0 → chkA A = 0 → False)) ∨ (err = 0 ∧ chkE W = 0 ∧ chkA A = 0 ∧ ((is = false ∧ s = [] ∧ l = [] ∧ ¬ EWay W A) ∨ (is = true ∧ EWay W A ∧ PathE W A s l)))
def fMx (sb mb : Nat) (lv nv : Value) : Nat → Prop := fun b => b = sb ∨ b = mb ∨ lv.ownBlock = some b ∨ nv.ownBlock = some b
structure FndI (w8 w : World) (B : Nat) (e : EA) (sb mb : Nat) (lv nv fv : Value) (fr : List Int) (vs : List Raw) (ps : List Pr2) (nx : List (List Int)) : Prop where
  em : Em w B e sb mb lv nv fv ps
  run : RunE (fitW e.W e.A) (nextE e.W e.A) (startE e.W e.A) ps fr nx
  hn : Own w w8.heap.size 22 Non nv vs
  inn : InnR w (fMx sb mb lv nv) vs nx
  hf : ∃ fo fc, fv = .slice fo fr.length fc ∧ Sl w (Fz w (fMx sb mb lv nv)) fo fc fr
  chg : Chg (fun b => b = sb ∨ b = mb) w8 w
  lvn : ∀ g, lv.ownBlock = some g → w8.heap.size ≤ g
  dis : ∀ g, nv.ownBlock = some g → lv.ownBlock ≠ some g
  rows : ∀ r ∈ nx, r.length ≤ 1099511627776
theorem find1_ok (w : World) (b b' : Nat) {po : Option Addr} {pc : Nat} {part : List Int} {p : Int} {k : Nat} (hb : Blk w b 22 [.slice po part.length pc]) (hb' : Blk w b' 3 [.int .i64 p]) (hp : Sl w (Old w) po pc part) (hk : k < part.length) :
    Rt Try.prog 49 [.int .i64 (k : Int), .pointer (some ⟨b, 0, none⟩), .pointer (some ⟨b', 0, none⟩)].toArray w fun v w' => v = .bool (decide (part.getD k 0 = p)) ∧ Ext w w' := by
  refine Rt.enter3 Try.func49 Try.ntmps49 rfl rfl ?_
  (repeat (first | (apply WL.pure; rfl; rfl; rfl) | (apply QL.pure; rfl; rfl; rfl) | (apply WL.nil) | (apply EX.thenN) | (apply CW.seq) | (apply CW.region) | (apply QL.ld; rfl; rfl; rfl; assumption; rfl) | (apply CW.draw; exact mixed; kernel_rfl)))
  refine QL.elemI rfl rfl rfl rfl rfl (fun _ h => h) hp hk rfl (fun _ => rfl) (fun q => ?_)
  (repeat (first | (apply QL.pure; rfl; rfl; rfl) | (apply QL.ld; rfl; rfl; rfl; assumption; rfl)))
  refine QL.nil (fun w2 e2 => ?_)
  (repeat (first | (apply EX.thenN) | (apply CW.ret)))
  refine EX.ret1 rfl rfl ⟨?_, e2⟩
  rw [wgetDI hk]
  rfl
set_option maxHeartbeats 4000000 in
theorem find_ok (w0 : World) {va : Value} {W : LWorld} {A : LAuto2} {o1 o2 o3 o4 : Option Addr} {c1 c2 c3 c4 : Nat} (h1 : Sl w0 (Old w0) o1 c1 W.1) (h2 : Sl w0 (Old w0) o2 c2 W.2.1) (h3 : Sl w0 (Old w0) o3 c3 W.2.2.1) (h4 : Sl w0 (Old w0) o4 c4 W.2.2.2) (ha : AutoAt w0 (Old w0) va A)
    (sW : ∀ j, (W.2.1.getD j []).length ≤ 1048576) (sA : ∀ j, (A.2.1.getD j []).length ≤ 1048576) (tW : W.1.length ≤ 1048576) (tA : A.1.length ≤ 1048576) :
    Rt Try.prog 11 [worldV o1 c1 o2 c2 o3 c3 o4 c4 W.1.length W.2.1.length W.2.2.1.length W.2.2.2.length, va].toArray w0 fun v w' => (∃ s l is err so sc lo lc, v = .tuple ⟨[pathV so sc lo lc s l, .bool is, .int .i64 err]⟩ ∧ Sl w' (Old w') so sc s ∧ Sl w' (Old w') lo lc l ∧ FoundE W A s l is err) ∧ Ext w0 w' := by
  obtain ⟨k1, d1, k2, d2, k3, d3, k4, d4, k5, d5, rfl, g1, g2, g3, g4, g5⟩ := ha.ok
  refine Rt.enter2 Try.func11 Try.ntmps11 rfl rfl ?_
  have hE := Ext.refl w0
  (repeat (first | (apply CW.seq) | (apply CW.region)))
  refine WL.boxB rfl rfl rfl fun w1 hb2 e1 => ?_
  have hE := hE.trans e1
  skip
  refine WL.boxB rfl rfl rfl fun w2 hb3 e2 => ?_
  have hb2 := hb2.ext e2
  have hE := hE.trans e2
  skip
  refine WL.alloc rfl rfl (fun w3 hb4 e3 => ?_)
  have hb2 := hb2.ext e3
  have hb3 := hb3.ext e3
  have hE := hE.trans e3
  have y1 := e1.size
  have y2 := e2.size
  have y3 := hb4.lt
  have l2 := hb2.lt
  have l3 := hb3.lt
  (repeat (first | (apply WL.pure; rfl; rfl; rfl) | (apply WL.nil) | (apply EX.thenN) | (apply CW.seq) | (apply CW.region) | (apply WL.ldA; rfl; rfl; rfl; assumption; rfl)))
  refine WL.call rfl rfl rfl (wCheck_ok w3 (h1.up hE) (h2.up hE) h3.len63 (h4.up hE)) ?_
  rintro _ w4 ⟨rfl, e4⟩
  have hb2 := hb2.ext e4
  have hb3 := hb3.ext e4
  have hb4 := hb4.ext e4
  have hE := hE.trans e4
  have y4 := e4.size
  have nilS := fun (w : World) => Sl.zero (α := Int) w (Old w)
  (repeat (first | (apply WL.pure; rfl; rfl; rfl) | (apply WL.nil) | (apply EX.thenN) | (apply CW.seq) | (apply CW.region)))
  refine CW.cond rfl (fun h => ?_) (fun h => ?_)
  · have h : chkE W ≠ 0 := by simpa using h
    (repeat (first | (apply CW.seq) | (apply CW.region)))
    refine WL.build (parts := []) rfl rfl rfl rfl ?_
    (repeat (apply WL.pure; rfl; rfl; rfl))
    refine WL.st rfl rfl rfl hb4 rfl rfl (ones_of rfl) (fun w5 hb5 hg5 => ?_)
    have hE5 : Ext w0 w5 := hE.grown hg5 hE.size (fun g hg => by cases hg; omega)
    (repeat (first | (apply WL.pure; rfl; rfl; rfl) | (apply WL.nil) | (apply EX.thenN) | (apply CW.ret) | (apply EX.thenR)))
    exact EX.retCE rfl rfl rfl rfl hb5 rfl ⟨⟨[], [], false, _, _, _, _, _, rfl, nilS _, nilS _, .inl ⟨h, rfl, rfl, rfl, fun h' => absurd h' h⟩⟩, hE5⟩
  have hW : chkE W = 0 := by simpa using h
  clear h
  (repeat (first | (apply EX.thenN) | (apply CW.seq) | (apply CW.region) | (apply WL.ldA; rfl; rfl; rfl; assumption; rfl) | (apply CW.skip)))
  refine WL.call rfl rfl rfl (aCheck_ok w4 (A := A) ⟨k1, d1, k2, d2, k3, d3, k4, d4, k5, d5, rfl, g1.up hE, g2.up hE, g3.up hE, g4.up hE, g5.up hE⟩) ?_
  rintro _ w5 ⟨rfl, e5⟩
  have hb2 := hb2.ext e5
  have hb3 := hb3.ext e5
  have hb4 := hb4.ext e5
  have hE := hE.trans e5
  have y5 := e5.size
  (repeat (first | (apply WL.pure; rfl; rfl; rfl) | (apply WL.nil) | (apply EX.thenN) | (apply CW.seq) | (apply CW.region)))
  refine CW.cond rfl (fun h => ?_) (fun h => ?_)
  · have h : chkA A ≠ 0 := by simpa using h
    (repeat (first | (apply CW.seq) | (apply CW.region)))
    refine WL.build (parts := []) rfl rfl rfl rfl ?_
    (repeat (apply WL.pure; rfl; rfl; rfl))
    refine WL.st rfl rfl rfl hb4 rfl rfl (ones_of rfl) (fun w6 hb5 hg5 => ?_)
    have hE5 : Ext w0 w6 := hE.grown hg5 hE.size (fun g hg => by cases hg; omega)
    (repeat (first | (apply WL.pure; rfl; rfl; rfl) | (apply WL.nil) | (apply EX.thenN) | (apply CW.ret) | (apply EX.thenR)))
    exact EX.retCE rfl rfl rfl rfl hb5 rfl ⟨⟨[], [], false, _, _, _, _, _, rfl, nilS _, nilS _, .inl ⟨h, rfl, rfl, rfl, fun _ h' => absurd h' h⟩⟩, hE5⟩
  have hA : chkA A = 0 := by simpa using h
  clear h
  have okA := chkA_ok hA
  obtain ⟨w600, w80, wlb, wst, wnx, wfr⟩ := chkWd_ok hW
  (repeat (first | (apply EX.thenN) | (apply CW.seq) | (apply CW.region) | (apply WL.ldA; rfl; rfl; rfl; assumption; rfl) | (apply CW.skip)))
  refine WL.mkMap (k := 93) rfl rfl (fun hnum => ?_)
  have e6 : Ext w5 (w5.alloc (.map #[] 0)) := Ext.alloc w5 _
  generalize w5.alloc (.map #[] 0) = w6 at *
  refine WL.build rfl rfl rfl rfl ?_
  refine WL.boxB rfl rfl rfl fun w7 hsb e7 => ?_
  have lm := hnum.lt
  have hb2 := (hb2.ext e6).ext e7
  have hb3 := (hb3.ext e6).ext e7
  have hb4 := (hb4.ext e6).ext e7
  have hnum := hnum.ext e7
  have hE7 := (hE.trans e6).trans e7
  have y6 := e6.size
  have y7 := hsb.lt
  obtain ⟨e, heW, heA, hein, hecells⟩ : ∃ e : EA, e.W = W ∧ e.A = A ∧ EIn w5 (Old w5) e ∧ ∀ mb lv nv fv, eCells e mb lv nv fv = [.slice o1 W.1.length c1, .slice o2 W.2.1.length c2, .slice o3 W.2.2.1.length c3, .slice o4 W.2.2.2.length c4, .slice k1 A.1.length d1, .slice k2 A.2.1.length d2, .slice k3 A.2.2.1.length d3, .slice k4 A.2.2.2.1.length d4, .slice k5 A.2.2.2.2.length d5, .map (some mb), lv, nv, fv] :=
    ⟨⟨o1, c1, o2, c2, o3, c3, o4, c4, k1, d1, k2, d2, k3, d3, k4, d4, k5, d5, W, A⟩, rfl, rfl, ⟨h1.up hE, h2.up hE, h3.up hE, h4.up hE, g1.up hE, g2.up hE, g3.up hE, g4.up hE, g5.up hE⟩, fun _ _ _ _ => rfl⟩
  subst heW heA
  have hEm7 : Em w7 w5.heap.size e w6.heap.size w5.heap.size (.slice none 0 0) (.slice none 0 0) (.slice none 0 0) [] :=
    ⟨by rw [hecells]; exact hsb, hnum, Own.nil, hein.to (fun b hb => (e6.trans e7).block b hb) (fun b h => h), ⟨y6, Nat.le_refl _⟩, by omega, (fun g hg => by cases hg), List.Pairwise.nil, (fun p hp => by cases hp), ⟨w600, okA.n, wlb, okA.mu, okA.no⟩⟩
  have hG1 := h1.up hE
  have hG2 := h2.up hE
  have hK1 := g1.up hE
  have hK2 := g2.up hE
  have lb4 := hb4.lt
  clear hecells hein hsb hnum h1 h2 h3 h4 g1 g2 g3 g4 g5 ha
  have e57 := e6.trans e7
  clear e6 e7
  have hb25 : w0.heap.size < w5.heap.size ∧ w1.heap.size < w5.heap.size ∧ w2.heap.size < w5.heap.size := by omega
  generalize hBn : w5.heap.size = B at *
  generalize hsbn : w6.heap.size = sb at *
  have hB7 : B ≤ w7.heap.size := by omega
  have hold7 : ∀ b, b < B → w7.heap[b]? = w5.heap[b]? := fun b hb => e57.block b (by omega)
  (repeat (first | (apply WL.pure; rfl; rfl; rfl) | (apply WL.nil) | (apply EX.thenN) | (apply CW.seq) | (apply CW.region) | (apply WL.fa; rfl; rfl; rfl) | (apply WL.ld; rfl; rfl; rfl; assumption; rfl)))
  refine WL.call rfl rfl rfl (cross_okE w7 hEm7 hB7 (hG1.mono (w' := w7) (fun b hb => hold7 b (by rw [← hBn]; exact hb)) (fun b hb => by rw [← hBn]; exact hb)) (hK1.mono (w' := w7) (fun b hb => hold7 b (by rw [← hBn]; exact hb)) (fun b hb => by rw [← hBn]; exact hb)) wst okA.st tW tA) ?_
  rintro fv w8 ⟨lv, hCr⟩
  obtain ⟨fo, fc, rfl⟩ := hCr.own.val
  change CrI w7 w8 B e sb B (.slice none 0 0) lv (.slice fo (putF (fitW e.W e.A) (startE e.W e.A) [] []).2.length fc) (.slice none 0 0) (.slice none 0 0) (putF (fitW e.W e.A) (startE e.W e.A) [] []).1 (putF (fitW e.W e.A) (startE e.W e.A) [] []).2 at hCr
  have z8 := hCr.chg.size
  have hblk8 := hCr.em.blk
  have hlt8 := fun g hg => hCr.em.lo.lt g hg
  have hof8 := fun g hg => hCr.own.lt g hg
  have hnl8 := hCr.em.nl
  have hlv8 : ∀ g, lv.ownBlock = some g → w7.heap.size ≤ g := fun g hg => (hCr.new g hg).resolve_left (fun h => by cases h)
  have hC8 : Chg (fun b => b = sb ∨ b = B) w7 w8 := hCr.chg.wk (fun b h => by
    rcases h with h | h | h
    · exact .inl h
    · exact .inr h
    · cases h)
  (repeat (first | (apply WL.fa; rfl; rfl; rfl) | (apply WL.nck; rfl; rfl; rfl)))
  refine WL.st rfl rfl rfl hblk8 rfl rfl (ones_of rfl) (fun w9 hblk9 hg9 => ?_)
  have z9 := hg9.size
  have hC9 : Chg (fun b => b = sb ∨ b = B) w7 w9 := hC8.grown hg9 (fun g hg => by cases hg; exact .inl rfl)
  have hPW : PosW e.W := chkE_pos hW
  have hold9 : ∀ {w : World}, Chg (fun b => b = sb ∨ b = B) w7 w → ∀ b, b < B → w.heap[b]? = w5.heap[b]? := fun {w} hC b hb => (hC.block b (by omega) (by omega)).trans (hold7 b hb)
  have hstart := RunE.init (fit := fitW e.W e.A) (next := nextE e.W e.A) (start := startE e.W e.A)
  have hI0 : FndI w7 w9 B e sb B lv (.slice none 0 0) (.slice fo (putF (fitW e.W e.A) (startE e.W e.A) [] []).2.length fc) (putF (fitW e.W e.A) (startE e.W e.A) [] []).2 [] (putF (fitW e.W e.A) (startE e.W e.A) [] []).1 [] := by
    refine ⟨⟨hblk9, hCr.em.num.kept hg9 (fun e => by have := Option.some.inj e; omega), hCr.em.lo.keptN hg9 (fun g hg e => (hnl8 g hg).1 (Option.some.inj e)), hCr.em.inn.to (fun b hb => hg9.block b (by omega) (fun e => by have := Option.some.inj e; omega)) (fun _ h => h), hCr.em.ge, hCr.em.ne, hnl8, hCr.em.nd, hCr.em.ins, hCr.em.ok⟩, hstart, Own.nil, InnR.nil, ?_, hC9, hlv8, (fun g hg => by cases hg), (fun r hr => by cases hr)⟩
    have ho9 := hCr.own.keptN hg9 (fun g hg e => by have := (hof8 g hg).1; have := Option.some.inj e; omega)
    obtain ⟨fo', fc', e, hsl⟩ := ho9.slF (F' := Fz w9 (fMx sb B lv (.slice none 0 0))) (fun _ h => h.elim) (fun g hg => ⟨(ho9.lt g hg).2.1, fun h => by
      have h1 := (hof8 g hg).1
      rcases h with h | h | h | h
      · omega
      · omega
      · exact hCr.dis g hg h
      · cases h⟩)
    exact ⟨fo', fc', e, hsl⟩
  generalize hfrn : (putF (fitW e.W e.A) (startE e.W e.A) [] []).2 = fr at *
  generalize (putF (fitW e.W e.A) (startE e.W e.A) [] []).1 = ps0 at *
  clear hCr hblk8 hlt8 hof8 hnl8 hlv8 hC8 hblk9 hg9 hC9 hstart
  have z79 : w7.heap.size ≤ w9.heap.size := by omega
  clear z8 z9 w8
  (repeat (first | (apply WL.pure; rfl; rfl; rfl) | (apply WL.nil) | (apply EX.thenN) | (apply CW.seq) | (apply CW.region) | (apply CW.block)))
  refine CW.loop (S := Nat × Value × Value × List Raw × List Pr2 × List (List Int)) (fun s => [(2, .pointer (some ⟨w0.heap.size, 0, none⟩)), (3, .pointer (some ⟨w1.heap.size, 0, none⟩)), (4, .pointer (some ⟨w2.heap.size, 0, none⟩)), (9, .pointer (some ⟨sb, 0, none⟩)), (10, .int .i64 s.1)])
    (fun s w => FndI w7 w B e sb B s.2.1 s.2.2.1 (.slice fo fr.length fc) fr s.2.2.2.1 s.2.2.2.2.1 s.2.2.2.2.2 ∧ s.2.2.2.2.2.length = s.1) (fun s => 1228801 - s.1) (0, lv, .slice none 0 0, [], ps0, []) (by repeat (first | exact trivial | refine ⟨rfl, ?_⟩)) ⟨hI0, rfl⟩ ?_
  clear hI0 hEm7
  rintro ⟨n, lv, nv, vs, ps, nx⟩ w ⟨hI, hnl⟩
  dsimp only at hI hnl ⊢
  have hblk := hI.em.blk
  have hpl := hI.em.len
  have hle := hI.run.le
  have hcw := hold9 hI.chg
  have hb2w : Blk w _ _ _ := ((hcw _ hb25.1).trans (hold7 _ hb25.1).symm).trans hb2
  have hb3w : Blk w _ _ _ := ((hcw _ hb25.2.1).trans (hold7 _ hb25.2.1).symm).trans hb3
  have hb4w : Blk w _ _ _ := ((hcw _ hb25.2.2).trans (hold7 _ hb25.2.2).symm).trans hb4
  have zw := hI.chg.size
  obtain ⟨lo, lc, rfl⟩ := hI.em.lo.val
  obtain ⟨no, nc, rfl⟩ := hI.hn.val
  (repeat (first | (apply WL.pure; rfl; rfl; rfl) | (apply WL.nil) | (apply EX.thenN) | (apply CW.seq) | (apply CW.region) | (apply WL.lenS; rfl; rfl; rfl) | (apply WL.fa; rfl; rfl; rfl) | (apply WL.nck; rfl; rfl; rfl) | (apply WL.ld; rfl; rfl; rfl; assumption; rfl)))
  refine CW.cond rfl (fun h => ?_) (fun h => ?_)
  · have hn' : n < ps.length := by simp at h; omega
    clear h
    have hpn : ps.getD n (0, 0) = ps[n] := by rw [List.getD_eq_getElem?_getD, List.getElem?_eq_getElem hn']; rfl
    have hins := hI.em.ins _ (List.getElem_mem hn')
    obtain ⟨x, hx⟩ := Int.eq_ofNat_of_zero_le hins.1.1
    obtain ⟨y, hy⟩ := Int.eq_ofNat_of_zero_le hins.2.1
    have hxl : x < e.W.2.1.length := by have := hins.1.2; omega
    have hyl : y < e.A.2.1.length := by have := hins.2.2; omega
    have hrX : e.W.2.1.getD x [] = e.W.2.1[x] := wgetDG hxl
    have hrY : e.A.2.1.getD y [] = e.A.2.1[y] := wgetDG hyl
    have hnext : nextE e.W e.A (ps.getD nx.length (0, 0)) = pairsX e.W.2.1[x] e.A.2.1[y] := by
      rw [hnl, hpn]; unfold nextE; rw [hx, hy, Int.toNat_natCast, Int.toNat_natCast, hrX, hrY]
    have hrun := hI.run.step (by omega)
    rw [hnext] at hrun
    have hsX := sW x
    rw [hrX] at hsX
    have hsY := sA y
    rw [hrY] at hsY
    have hokX : okL e.W.2.1.length e.W.2.1[x] := (wnx _ (List.getElem_mem hxl)).2
    have hokY : okL e.A.2.1.length e.A.2.1[y] := okA.nx _ (List.getElem_mem hyl)
    have hD : Ext w (drew w) := Ext.drew w
    have zd : (drew w).heap.size = w.heap.size := rfl
    have hblkd := hblk.ext hD
    have hb2d := hb2w.ext hD
    have hb3d := hb3w.ext hD
    obtain ⟨lo', lc', el, hlsl⟩ := (hI.em.lo.extN hD).oldN.sl
    obtain ⟨rfl, _, rfl⟩ := Value.slice.inj el
    obtain ⟨lb, off, rfl, hFb, hc1, hc2⟩ := hlsl.pairAt n hn'
    rw [hx] at hc1
    rw [hy] at hc2
    have hG2d := hG2.mono (w' := drew w) (fun b hb => (hD.block b (by have h' : b < w5.heap.size := hb; omega)).trans (hcw b (by rw [← hBn]; exact hb))) (F' := fun b => b < B) (fun b hb => by rw [← hBn]; exact hb)
    have hK2d := hK2.mono (w' := drew w) (fun b hb => (hD.block b (by have h' : b < w5.heap.size := hb; omega)).trans (hcw b (by rw [← hBn]; exact hb))) (F' := fun b => b < B) (fun b hb => by rw [← hBn]; exact hb)
    have hKs : ∀ u, (fun z : World => z = drew w) u → u.heap[sb]? = (drew w).heap[sb]? := fun u hu => by rw [hu]
    have hKb2 : ∀ u, (fun z : World => z = drew w) u → u.heap[w0.heap.size]? = (drew w).heap[w0.heap.size]? := fun u hu => by rw [hu]
    have hKb3 : ∀ u, (fun z : World => z = drew w) u → u.heap[w1.heap.size]? = (drew w).heap[w1.heap.size]? := fun u hu => by rw [hu]
    have hKK : ∀ (F : Nat → Prop) z, (fun x : World => x = drew w) z → ∀ b, F b → z.heap[b]? = (drew w).heap[b]? := fun F z hz b _ => by rw [hz]
    have hSE : ∀ z, (fun x : World => x = drew w) z → Ext (drew w) z := fun z hz => by rw [hz]; exact Ext.refl _
    (repeat (first | (apply EX.thenN) | (apply CW.seq) | (apply CW.block) | (apply CW.skip)))
    refine CW.drawP 30 35 (fun z : World => ∃ l', Blk z sb 90 (eCells e B l' (.slice no vs.length nc) (.slice fo fr.length fc))) (fun z : World => z = drew w)
      (toP 1 [(0, true), (1, true), (2, true), (3, true), (4, true)] ++ (toP 2 [(5, true), (6, true), (7, true), (8, true), (9, true), (10, true), (11, true), (12, true), (13, true), (14, true), (15, true), (16, true), (17, true), (18, true), (19, true), (20, true), (21, true), (22, true), (23, true), (24, true), (25, true), (26, true), (27, true), (28, true), (29, true)] ++ [(30, 0), (31, 0), (32, 0), (33, 1), (34, 1), (35, 3)])) mixed (by kernel_rfl) ⟨_, hblkd⟩ rfl ?_
    refine HP.weak [(0, true), (1, true), (2, true), (3, true), (4, true)] rfl ?_
    (repeat (first | (apply HL.pure; rfl; rfl; rfl; rfl) | (refine HL.fa rfl rfl rfl rfl ?_) | (apply HL.nck; rfl; rfl; rfl; rfl)))
    refine HL.ldC (v := .slice no vs.length nc) (fun z hz => by obtain ⟨l', hb⟩ := hz; exact ⟨_, _, hb, rfl⟩) rfl rfl rfl rfl ?_
    (repeat (apply HL.nil))
    refine EX.rest ?_
    refine HP.early [(5, true), (6, true), (7, true), (8, true), (9, true), (10, true), (11, true), (12, true), (13, true), (14, true), (15, true), (16, true), (17, true), (18, true), (19, true), (20, true), (21, true), (22, true), (23, true), (24, true), (25, true), (26, true), (27, true), (28, true), (29, true)] rfl ?_
    (repeat (first | (apply HL.pure; rfl; rfl; rfl; rfl) | (refine HL.fa rfl rfl rfl rfl ?_) | (apply HL.nck; rfl; rfl; rfl; rfl) | (refine HL.ld (by assumption) rfl rfl rfl rfl (by assumption) rfl ?_)))
    refine HL.idx (α := Pr2) rfl rfl rfl rfl rfl (by omega) (by omega) ?_
    (repeat (refine HL.fa rfl rfl rfl rfl ?_))
    refine HL.load (α := Int) (F := Non) hSE rfl rfl rfl rfl (by have := hFb; exact this) (fun _ h => h.elim) hc1 rfl ?_
    refine HL.elemK (k := x) (F := fun b => b < B) (hKK _) rfl rfl rfl rfl rfl rfl rfl hG2d hxl (fun _ => rfl) (fun u q hu => ?_)
    obtain ⟨ro, rc, rfl, hrow⟩ := hu.sl
    clear hu
    (repeat (first | (apply HL.pure; rfl; rfl; rfl; rfl) | (refine HL.fa rfl rfl rfl rfl ?_) | (apply HL.nck; rfl; rfl; rfl; rfl) | (refine HL.ld (by assumption) rfl rfl rfl rfl (by assumption) rfl ?_)))
    refine HL.idx (α := Pr2) rfl rfl rfl rfl rfl (by omega) (by omega) ?_
    (repeat (refine HL.fa rfl rfl rfl rfl ?_))
    refine HL.load (α := Int) (F := Non) hSE rfl rfl rfl rfl (by have := hFb; exact this) (fun _ h => h.elim) hc2 rfl ?_
    refine HL.elemK (k := y) (F := fun b => b < B) (hKK _) rfl rfl rfl rfl rfl rfl rfl hK2d hyl (fun _ => rfl) (fun u q hu => ?_)
    obtain ⟨so, sc, rfl, hsow⟩ := hu.sl
    clear hu
    (repeat (apply HL.nil))
    refine EX.rest ?_
    refine HP.mut rfl (WL.call rfl rfl rfl (cross_okE (drew w) (hI.em.ext (by omega) hD) (by omega) hrow hsow hokX hokY hsX hsY) ?_)
    rintro rv w8 ⟨lv', hCr⟩
    obtain ⟨uo, uc, rfl⟩ := hCr.own.val
    rw [show fitE e = fitW e.W e.A from rfl] at hCr ⊢
    have hput := putF_law (fit := fitW e.W e.A) (pairsX e.W.2.1[x] e.A.2.1[y]) ps [] hI.em.nd
    have hplen := hput.len
    rw [pairsX_len] at hplen
    have hmulX := Nat.mul_le_mul hsX hsY
    generalize hP : putF (fitW e.W e.A) (pairsX e.W.2.1[x] e.A.2.1[y]) ps [] = pq at *
    have hblk8 := hCr.em.blk
    have z8 := hCr.chg.size
    have lsb := hblk.lt
    have hnlt := fun g hg => hI.hn.lt g hg
    have hllt := fun g hg => hI.em.lo.lt g hg
    have hlu := fun g hg => hCr.own.lt g hg
    have hlc := fun g hg => hCr.em.lo.lt g hg
    have hnle := hCr.em.nl
    have hvl := hI.inn.len
    refine WL.nil (EX.mutP (ph := true) ⟨_, hblk8⟩ (fun h => by cases h) ?_)
    have hn8 : Own w8 w7.heap.size 22 Non (.slice no vs.length nc) vs := (hI.hn.extN hD).chg hCr.chg (fun b hb hs => by
      have hx := hnlt b hb
      rcases hs with h | h | h
      · omega
      · omega
      · exact hI.dis b hb h)
    refine HP.app1 (α := Raw) (F := Non) (bytes := 24) (yv := (⟨.slice uo pq.2.length uc⟩ : Raw)) rfl rfl rfl rfl (fun _ => rfl) rfl rfl (fun _ => rfl) hn8 (Rd.mkRaw _ _ _ rfl) (by omega) (fun _ h => h.elim) (by decide) (by unfold maxLen; omega) (by omega)
      (fun z hz => ⟨_, hblk8.kept hz (fun e => by have := hnlt sb e.symm; omega)⟩) (fun nv' w9 q9 ho9 hg9 hnb9 => ?_)
    obtain ⟨no', nc', rfl⟩ := ho9.val
    have hblk9 := hblk8.kept hg9 (fun e => by have := hnlt sb e.symm; omega)
    have z9 := hg9.size
    refine HP.weak (r := [(35, 3)]) [(33, true), (34, true)] rfl ?_
    (repeat (first | (refine HL.fa rfl rfl rfl rfl ?_) | (apply HL.nck; rfl; rfl; rfl; rfl) | (apply HL.nil)))
    refine EX.rest ?_
    refine HP.last rfl (WL.st rfl rfl rfl hblk9 rfl rfl (ones_of rfl) (fun w10 hblk10 hg10 => WL.nil (EX.tailE ?_)))
    have z10 := hg10.size
    have hlv' : ∀ g, lv'.ownBlock = some g → w7.heap.size ≤ g := fun g hg => (hCr.new g hg).elim (hI.lvn g) (fun h => by omega)
    have hdis8 : ∀ g, (Value.slice no vs.length nc).ownBlock = some g → lv'.ownBlock ≠ some g := fun g hg hl => (hCr.new g hl).elim (hI.dis g hg) (fun h => by have := (hnlt g hg).2.1; omega)
    have hM68 : ∀ b, fMx sb B lv' (.slice no vs.length nc) b → fMx sb B (.slice (some ⟨lb, off, none⟩) ps.length lc) (.slice no vs.length nc) b ∨ w.heap.size ≤ b := fun b h => by
      rcases h with h | h | h | h
      · exact .inl (.inl h)
      · exact .inl (.inr (.inl h))
      · exact (hCr.new b h).imp (fun h => .inr (.inr (.inl h))) id
      · exact .inl (.inr (.inr (.inr h)))
    have hC68 : Chg (fMx sb B (.slice (some ⟨lb, off, none⟩) ps.length lc) (.slice no vs.length nc)) w w8 := (Chg.of_ext _ hD).trans (hCr.chg.wk (fun b h => by
      rcases h with h | h | h
      · exact .inl h
      · exact .inr (.inl h)
      · exact .inr (.inr (.inl h))))
    have hC810 : Chg (fMx sb B lv' (.slice no vs.length nc)) w8 w10 := ((Chg.of_grown hg9).wk (fun b h => .inr (.inr (.inr h)))).grown hg10 (fun g hg => by cases hg; exact .inl rfl)
    have hM810 : ∀ b, fMx sb B lv' (.slice no' (vs ++ [(⟨.slice uo pq.2.length uc⟩ : Raw)]).length nc') b → fMx sb B lv' (.slice no vs.length nc) b ∨ w8.heap.size ≤ b := fun b h => by
      rcases h with h | h | h | h
      · exact .inl (.inl h)
      · exact .inl (.inr (.inl h))
      · exact .inl (.inr (.inr (.inl h)))
      · exact (hnb9 b h).imp (fun h => .inr (.inr (.inr h))) id
    have hrow8 : Rd w8 (Fz w8 (fMx sb B lv' (.slice no vs.length nc))) (.slice uo pq.2.length uc) pq.2 :=
      hCr.own.rd.mono (fun _ _ => rfl) (fun g hg => hg.elim (fun h => h.elim) (fun hg => ⟨(hlu g hg).2.1, fun h => by
        have h1 := (hlu g hg).1
        rcases h with h | h | h | h
        · omega
        · omega
        · exact hCr.dis g hg h
        · have := (hnlt g h).2.1; omega⟩))
    have hin10 := ((hI.inn.to hC68 hM68).push hrow8).to hC810 hM810
    obtain ⟨fo', fc', ef, hfs⟩ := hI.hf
    obtain ⟨rfl, _, rfl⟩ := Value.slice.inj ef
    have hfs10 := (hfs.fz hC68 hM68).fz hC810 hM810
    have hC10 : Chg (fun b => b = sb ∨ b = B) w7 w10 := (hI.chg.then hC68 (fun b h => by
      rcases h with h | h | h | h
      · exact .inl (.inl h)
      · exact .inl (.inr h)
      · exact .inr (hI.lvn b h)
      · exact .inr (hnlt b h).1)).then hC810 (fun b h => by
      rcases h with h | h | h | h
      · exact .inl (.inl h)
      · exact .inl (.inr h)
      · exact .inr (hlv' b h)
      · exact .inr (hnlt b h).1)
    have hne10 := hCr.em.ne
    (repeat (first | (apply WL.add; rfl; rfl; rfl; rfl; omega; omega) | (apply WL.pure; rfl; rfl; rfl) | (apply WL.nil) | (apply EX.thenN) | (apply CW.region) | (apply EX.inN)))
    refine EX.back (n + 1, lv', .slice no' (vs ++ [(⟨.slice uo pq.2.length uc⟩ : Raw)]).length nc', vs ++ [(⟨.slice uo pq.2.length uc⟩ : Raw)], pq.1, nx ++ [pq.2]) (by repeat (first | exact trivial | refine ⟨rfl, ?_⟩))
      ⟨⟨⟨hblk10, (hCr.em.num.kept hg9 (fun e => by have := hnlt B e.symm; omega)).kept hg10 (fun e => by have := Option.some.inj e; omega), (hCr.em.lo.keptN hg9 (fun g hg e => hdis8 g e.symm hg)).keptN hg10 (fun g hg e => (hnle g hg).1 (Option.some.inj e)),
        hCr.em.inn.to (fun b hb => (hg10.block b (by omega) (fun e => by have := Option.some.inj e; omega)).trans (hg9.block b (by omega) (fun e => by have := hnlt b e.symm; omega))) (fun _ h => h), hCr.em.ge, hne10, hnle, hCr.em.nd, hCr.em.ins, hCr.em.ok⟩, hrun, ho9.keptN hg10 (fun g hg e => by
          have := Option.some.inj e
          rcases hnb9 g hg with h | h
          · have := (hnlt g h).1; omega
          · omega), hin10, ⟨fo, fc, rfl, hfs10⟩, hC10, hlv', fun g hg hl => ?_, fun r hr => ?_⟩, by dsimp only; rw [List.length_append, hnl]; rfl⟩ (by dsimp only; omega)
    · rcases hnb9 g hg with h | h
      · exact hdis8 g h hl
      · have := (hlc g hl).2.1; omega
    · rcases List.mem_append.1 hr with hr | hr
      · exact hI.rows r hr
      · rw [List.mem_singleton] at hr; subst hr; simp at hplen; omega
  have hnp : nx.length = ps.length := by simp at h; omega
  clear h
  have hg := hI.run.okG hnp
  have hfl := hI.run.okF hnp
  have hN : nx.length ≤ 1228800 := by omega
  obtain ⟨no', nc', en, hns⟩ := hI.inn.old hI.hn
  obtain ⟨rfl, hvl, rfl⟩ := Value.slice.inj en
  obtain ⟨fo', fc', ef, hfs⟩ := hI.hf
  obtain ⟨rfl, _, rfl⟩ := Value.slice.inj ef
  have hfs := hfs.old'
  obtain ⟨lo', lc', el, hls⟩ := hI.em.lo.oldN.sl
  obtain ⟨rfl, _, rfl⟩ := Value.slice.inj el
  have hem := hI.em
  have hrun := hI.run
  have hrows := hI.rows
  have hins := hI.em.ins
  rw [hvl] at hblk hem
  have hE0w : Ext w0 w := Chg.ext hE7 hI.chg (fun b hb => by rcases hb with h | h <;> omega)
  have hE0 : ∀ {x : World}, Ext w x → Ext w0 x := fun {x} hx => hE0w.trans hx
  clear hI
  (repeat (first | (apply WL.pure; rfl; rfl; rfl) | (apply EX.thenN) | (apply CW.seq) | (apply CW.region) | (apply WL.fa; rfl; rfl; rfl) | (apply WL.nck; rfl; rfl; rfl) | (apply WL.ld; rfl; rfl; rfl; assumption; rfl) | (apply CW.exit) | (apply EX.thenX) | (apply EX.inX)))
  refine WL.call rfl rfl rfl (Split_ok w hns (fun _ h => h) hg (by omega)) ?_
  rintro pv w10 ⟨part, hpo, hPt, e10⟩
  obtain ⟨po, pc, rfl, hps⟩ := hpo.oldN.sl
  have hppl := hPt.len
  skip
  refine WL.alloc rfl rfl (fun w11 hb11 e11 => ?_)
  skip
  refine WL.st rfl rfl rfl hb11 rfl rfl (ones_of rfl) (fun w12 hb11 hg12 => ?_)
  have e12 : Ext w10 w12 := e11.grown hg12 e11.size (fun g hg => by cases hg; exact Nat.le_refl _)
  have x12 := e10.trans e12
  clear e11 hg12
  (repeat (first | (apply WL.pure; rfl; rfl; rfl) | (apply WL.nil) | (apply EX.thenN) | (apply CW.seq) | (apply CW.region)))
  refine WL.call rfl rfl rfl (esets_ok w12 (hem.ext (by omega) x12) (by have := x12.size; omega) wfr okA.fr w80 okA.f) ?_
  rintro _ w13 ⟨so, sc, rfl, hss, e13⟩
  have x13 := x12.trans e13
  have hsx : setsX e.W e.A ps = setsL (ssE e.W e.A) ps := by unfold setsX setsL ssE; rw [List.map_append, List.map_map, List.map_map]; rfl
  have hslen : ∀ S ∈ setsX e.W e.A ps, S.length = nx.length := fun S hS => by
    rw [hsx] at hS
    obtain ⟨f, _, rfl⟩ := List.mem_map.1 hS
    rw [List.length_map, hnp]
  have hsn : (setsX e.W e.A ps).length ≤ 160 := by unfold setsX; rw [List.length_append, List.length_map, List.length_map]; have := okA.f; omega
  generalize hsets : setsX e.W e.A ps = sets at *
  have hb11 := hb11.ext e13
  (repeat (first | (apply WL.pure; rfl; rfl; rfl) | (apply WL.nil) | (apply EX.thenN) | (apply CW.seq) | (apply CW.region) | (apply WL.ld; rfl; rfl; rfl; assumption; rfl)))
  refine WL.call rfl rfl rfl (egood_ok w13 (hblk.ext x13) hnp.symm (hns.up x13) (hps.up (e12.trans e13)) hss hg hPt hN hslen) ?_
  rintro _ w14 ⟨p, rfl, hp, e14⟩
  have x14 := x13.trans e14
  have hb11 := hb11.ext e14
  skip
  refine WL.alloc rfl rfl (fun w15 hb13 e15 => ?_)
  skip
  refine WL.st rfl rfl rfl hb13 rfl rfl (ones_of rfl) (fun w16 hb13 hg16 => ?_)
  have e16 : Ext w14 w16 := e15.grown hg16 e15.size (fun g hg => by cases hg; exact Nat.le_refl _)
  have x16 := x14.trans e16
  clear e15 hg16
  have hb11 := hb11.ext e16
  have hpway := pway_good (Ss := ssE e.W e.A) hrun hnp hPt
  rw [← hsx] at hpway
  (repeat (first | (apply WL.pure; rfl; rfl; rfl) | (apply WL.nil) | (apply EX.thenN) | (apply CW.seq) | (apply CW.region) | (apply WL.ld; rfl; rfl; rfl; assumption; rfl)))
  refine CW.cond rfl (fun h => ?_) (fun h => ?_)
  · have h : p < 0 := by simpa using h
    have hno : ¬ EWay e.W e.A := fun hr => by
      obtain ⟨c, h1, h2, h3⟩ := hpway.1 hr
      rcases hp with ⟨_, hp⟩ | ⟨hp, _⟩
      · exact hp c h1 h2 h3
      · omega
    (repeat (first | (apply CW.seq) | (apply CW.region)))
    refine WL.build (parts := []) rfl rfl rfl rfl ?_
    skip
    refine WL.st rfl rfl rfl (hb4w.ext x16) rfl rfl (ones_of rfl) (fun w17 hb17 hg17 => ?_)
    have hE17 : Ext w0 w17 := (hE0 x16).grown hg17 (hE0 x16).size (fun g hg => by cases hg; omega)
    (repeat (first | (apply WL.pure; rfl; rfl; rfl) | (apply WL.nil) | (apply EX.thenN) | (apply CW.ret) | (apply EX.thenR)))
    exact EX.retCE rfl rfl rfl rfl hb17 rfl ⟨⟨[], [], false, _, _, _, _, _, rfl, nilS _, nilS _, .inr ⟨rfl, hW, hA, .inl ⟨rfl, rfl, rfl, hno⟩⟩⟩, hE17⟩
  have h : ¬ p < 0 := by simpa using h
  obtain ⟨hp0, hpN, hgood⟩ : 0 ≤ p ∧ p < nx.length ∧ GoodC nx part sets p := hp.resolve_left (fun h' => by omega)
  have hyes : EWay e.W e.A := hpway.2 ⟨p, hp0, hpN, hgood⟩
  clear hp h hpway
  obtain ⟨u, hu, hup, _⟩ := id hgood.1
  obtain ⟨a, haf, hrc⟩ := hrun.reach hnp u hu
  -- the way to it
  have hD : Ext w16 (drew w16) := Ext.drew w16
  have xd := x16.trans hD
  have hblkd := hblk.ext xd
  have hb11d := hb11.ext hD
  have hb13d := hb13.ext hD
  have hSE : ∀ z, (fun z : World => Ext (drew w16) z) z → Ext (drew w16) z := fun _ h => h
  (repeat (first | (apply EX.thenN) | (apply CW.seq) | (apply CW.skip)))
  refine CW.drawH (fun z : World => Ext (drew w16) z) [(0, true), (1, true), (2, true), (3, true), (4, true), (5, true), (6, true), (7, false), (8, true)] mixed (by kernel_rfl) (Ext.refl _) ?_
  (repeat (first | (apply HL.pure; rfl; rfl; rfl; rfl) | (refine HL.fa rfl rfl rfl rfl ?_) | (apply HL.nck; rfl; rfl; rfl; rfl) | (refine HL.ld (by assumption) rfl rfl rfl rfl (by assumption) rfl ?_) | (apply HL.makeFunc; rfl; rfl; rfl; rfl; rfl)))
  have hpd := ((hps.up (e12.trans e13)).up (e14.trans e16)).up hD
  refine HL.mut rfl (WL.call rfl rfl rfl (eway_ok (drew w16) (fr := fr) (part := part) (only := -1) (to := fun k => decide (part.getD k 0 = p)) hblkd (hns.up xd) (hfs.up xd) hpd hg hfl hppl hN (fun z hz k hk => FnV.mk (cs := [_, _]) (find1_ok z _ _ (hb11d.ext hz) (hb13d.ext hz) (hpd.up hz) (by omega)))) ?_)
  rintro stv w17 ⟨st, hso, hst, e17⟩
  have hst : WyOK nx fr (fun k => decide (part.getD k 0 = p)) (alB part (-1)) st := by
    rcases hst with ⟨_, hst⟩ | hst
    · exact absurd hst (way_any haf hrc (decide_eq_true hup))
    · exact hst
  refine WL.nil (EX.mut e17 ?_)
  (repeat (first | (apply HL.pure; rfl; rfl; rfl; rfl) | (apply HL.nil)))
  have x17 := xd.trans e17
  have hb1117 := hb11d.ext e17
  have hp17 := hpd.up e17
  have hstn := hst.ne
  have hstl := hst.len
  obtain ⟨sto, stc, rfl, hsts⟩ := hso.oldN.sl
  have hlast : 0 ≤ st.getD (st.length - 1) 0 ∧ st.getD (st.length - 1) 0 < nx.length := by
    rw [List.getD_eq_getElem?_getD, List.getElem?_eq_getElem (by omega)]
    exact hst.rg _ (List.getElem_mem _)
  obtain ⟨m, hm⟩ := Int.eq_ofNat_of_zero_le hlast.1
  have hml : m < nx.length := by omega
  have hmp : part.getD m 0 = p := by have := hst.en; rw [hm] at this; simpa using this
  have hlel : st[st.length - 1]'(by omega) = (m : Int) := by rw [← hm, List.getD_eq_getElem?_getD, List.getElem?_eq_getElem (by omega)]; rfl
  have hgd2 : GoodC nx part sets (part.getD m 0) := by rw [hmp]; exact hgood
  have hD2 : Ext w17 (drew w17) := Ext.drew w17
  have hblk2 := hblk.ext (x17.trans hD2)
  have hb112 := hb1117.ext hD2
  have hsts2 := hsts.up hD2
  have hSE : ∀ z, (fun z : World => Ext (drew w17) z) z → Ext (drew w17) z := fun _ h => h
  have hKK : ∀ (F : Nat → Prop) (hF : ∀ b, F b → b < (drew w17).heap.size) z, (fun z : World => Ext (drew w17) z) z → ∀ b, F b → z.heap[b]? = (drew w17).heap[b]? := fun F hF z hz b hb => hz.block b (hF b hb)
  (repeat (first | (apply EX.thenN) | (apply CW.seq)))
  refine CW.drawH (fun z : World => Ext (drew w17) z) [(0, true), (1, true), (2, true), (3, true), (4, true), (5, true), (6, true), (7, true), (8, true), (9, false), (10, true)] mixed (by kernel_rfl) (Ext.refl _) ?_
  (repeat (first | (apply HL.sub'; rfl; rfl; rfl; rfl; rfl; omega; omega) | (apply HL.pure; rfl; rfl; rfl; rfl) | (refine HL.lenS rfl rfl rfl rfl ?_)))
  rw [show ((st.length : Nat) : Int) - 1 = ((st.length - 1 : Nat) : Int) by omega]
  refine HL.elemK (w := drew w17) (F := Old (drew w17)) (k := st.length - 1) (hKK _ (fun _ h => h)) rfl rfl rfl rfl rfl rfl rfl hsts2 (by omega) (fun _ => rfl) (fun u q hu => ?_)
  obtain rfl := hu.int
  rw [hlel]
  (repeat (first | (apply HL.pure; rfl; rfl; rfl; rfl) | (refine HL.ld (by assumption) rfl rfl rfl rfl (by assumption) rfl ?_)))
  refine HL.mut rfl (WL.call rfl rfl rfl (eround_ok (drew w17) hblk2 (hns.up (x17.trans hD2)) (hp17.up hD2) (((hss.up e14).up e16).up ((hD.trans e17).trans hD2)) hg hPt hN hslen hsn hrows hml hgd2) ?_)
  rintro lov w18 ⟨lo2, hlo, hRO, e18⟩
  refine WL.nil (EX.mut e18 ?_)
  (repeat (first | (apply HL.pure; rfl; rfl; rfl; rfl) | (apply HL.nil)))
  have x18 := (x17.trans hD2).trans e18
  have e1718 := hD2.trans e18
  have hlol := hRO.len
  have hlsl : sets.length + 1 ≤ 161 := by omega
  have hlmul := Nat.mul_le_mul hlsl hN
  obtain ⟨loo, loc, rfl, hlos⟩ := hlo.oldN.sl
  have hso18 := hso.extN e1718
  have hblk18 := hblk.ext x18
  have hls18 := hls.up x18
  rw [hnp] at hlmul hlol
  have hokst : okL ps.length (st.take (st.length - 1)) := fun y hy => by rw [← hnp]; exact hst.rg y (List.mem_of_mem_take hy)
  have hoklo : okL ps.length lo2 := fun y hy => by rw [← hnp]; exact hRO.rg y hy
  have hb418 := hb4w.ext x18
  (repeat (first | (apply WL.sub'; rfl; rfl; rfl; rfl; omega; omega) | (apply WL.pure; rfl; rfl; rfl) | (apply EX.thenN) | (apply CW.seq) | (apply CW.region) | (apply WL.lenS; rfl; rfl; rfl)))
  refine WL.cutHiO (α := Int) (st.length - 1) (by omega) rfl rfl rfl rfl hso18 (by omega) (fun v19 ho19 hob19 => ?_)
  obtain ⟨cuo, cuc, rfl, hcus⟩ := ho19.oldN.sl
  skip
  refine WL.call rfl rfl rfl (estates_ok w18 hblk18 hls18 hcus hokst (by rw [List.length_take]; omega)) ?_
  rintro sv w19 ⟨hsv, e19⟩
  obtain ⟨svo, svc, rfl, hsvs⟩ := hsv.slF (F' := fun b => w18.heap.size ≤ b ∧ b < w19.heap.size) (fun _ h => h.elim) (fun g hg => ⟨(hsv.lt g hg).1, (hsv.lt g hg).2.1⟩)
  (repeat (apply WL.pure; rfl; rfl; rfl))
  refine WL.call rfl rfl rfl (estates_ok w19 (hblk18.ext e19) (hls18.up e19) (hlos.up e19) hoklo (by omega)) ?_
  rintro lv2 w20 ⟨hlv2, e20⟩
  obtain ⟨lvo, lvc, rfl, hlvs⟩ := hlv2.slF (F' := fun b => w19.heap.size ≤ b ∧ b < w20.heap.size) (fun _ h => h.elim) (fun g hg => ⟨(hlv2.lt g hg).1, (hlv2.lt g hg).2.1⟩)
  have x20 := (x18.trans e19).trans e20
  skip
  refine WL.build rfl rfl rfl rfl ?_
  skip
  refine WL.st rfl rfl rfl (hb418.ext (e19.trans e20)) rfl rfl (ones_of rfl) (fun w21 hb21 hg21 => ?_)
  have hE21 : Ext w0 w21 := (hE0 x20).grown hg21 (hE0 x20).size (fun g hg => by cases hg; omega)
  have hRO' : RoOK nx (st.getD (st.length - 1) 0).toNat (setsL (ssE e.W e.A) ps) lo2 := by rw [hm, Int.toNat_natCast, ← hsx]; exact hRO
  have hpath := path_found hrun hnp hins hPW (okA_pos2 okA) hst hRO'
  have q18 := x18.size
  have q19 := e19.size
  have q20 := e20.size
  have r1 := hsvs.mono (w' := w21) (fun b hb => (hg21.block b (by omega) (fun e => by have := Option.some.inj e; omega)).trans (e20.block b hb.2)) (F' := Old w21) (fun b hb => by have := hg21.size; exact (show b < w21.heap.size by omega))
  have r2 := hlvs.mono (w' := w21) (fun b hb => hg21.block b hb.2 (fun e => by have := Option.some.inj e; omega)) (F' := Old w21) (fun b hb => by have := hg21.size; exact (show b < w21.heap.size by omega))
  (repeat (first | (apply WL.pure; rfl; rfl; rfl) | (apply WL.nil) | (apply EX.thenN) | (apply CW.ret)))
  exact EX.retCE rfl rfl rfl rfl hb21 rfl ⟨⟨_, _, true, 0, _, _, _, _, rfl, r1, r2, .inr ⟨rfl, hW, hA, .inr ⟨rfl, hyes, hpath⟩⟩⟩, hE21⟩
end Go.Proofs.Ytllpfgcngokhnaa

/-
  watchkeep.turns walked.
-/
set_option linter.unusedVariables false
set_option linter.unusedSimpArgs false
namespace Go.Proofs.Ytllpfgcngokhnaa
open Go.RowKit

theorem wturns_okL (w0 : World) : Rt Try.prog 12 [].toArray w0 fun v w' => (∃ a1 c1 a2 c2 a3 c3 a4 c4, v = worldV a1 c1 a2 c2 a3 c3 a4 c4 1 2 2 2 ∧ Sl w' (Old w') a1 c1 [(0 : Int)] ∧ Sl w' (Old w') a2 c2 [[(1 : Int), 0], [0, 1]] ∧ Sl w' (Old w') a3 c3 [(1 : Nat), 2] ∧ Sl w' (Old w') a4 c4 [[(0 : Int)], [1]]) ∧ Ext w0 w' := by
  refine Rt.enter0 Try.func12 Try.ntmps12 rfl ?_
  (repeat (first | (apply CW.seq) | (apply CW.region)))
  refine WL.alloc rfl rfl (fun w1 hb hE1 => ?_)
  have hc1 : w0.heap.size + 1 ≤ w1.heap.size := hb.lt
  generalize hcc : w0.heap.size + 1 = c at hc1
  (repeat (first | (apply WL.nil) | (apply EX.thenN) | (apply CW.seq) | (apply CW.region)))
  refine WL.litF c (by omega) [(0 : Int)] rfl rfl rfl rfl rfl (.cons (Rd.mkInt _ _ _) .nil) (by decide) (fun v2 w2 e2 r2 => ?_)
  have z2 := e2.size
  refine WL.litF c (by omega) [(1 : Int), 0] rfl rfl rfl rfl rfl (.cons (Rd.mkInt _ _ _) (.cons (Rd.mkInt _ _ _) .nil)) (by decide) (fun v3 w3 e3 r3 => ?_)
  have z3 := e3.size
  refine WL.litF c (by omega) [(0 : Int), 1] rfl rfl rfl rfl rfl (.cons (Rd.mkInt _ _ _) (.cons (Rd.mkInt _ _ _) .nil)) (by decide) (fun v4 w4 e4 r4 => ?_)
  have z4 := e4.size
  refine WL.litF c (by omega) [[(1 : Int), 0], [0, 1]] rfl rfl rfl rfl rfl (.cons (r3.upF e4) (.cons r4 .nil)) (by decide) (fun v5 w5 e5 r5 => ?_)
  have z5 := e5.size
  refine WL.litF c (by omega) [(1 : Nat), 2] rfl rfl rfl rfl rfl (.cons ⟨_, rfl, rd_mkU64 _ _ _ (by decide)⟩ (.cons ⟨_, rfl, rd_mkU64 _ _ _ (by decide)⟩ .nil)) (by decide) (fun v6 w6 e6 r6 => ?_)
  have z6 := e6.size
  refine WL.litF c (by omega) [(0 : Int)] rfl rfl rfl rfl rfl (.cons (Rd.mkInt _ _ _) .nil) (by decide) (fun v7 w7 e7 r7 => ?_)
  have z7 := e7.size
  refine WL.litF c (by omega) [(1 : Int)] rfl rfl rfl rfl rfl (.cons (Rd.mkInt _ _ _) .nil) (by decide) (fun v8 w8 e8 r8 => ?_)
  have z8 := e8.size
  refine WL.litF c (by omega) [[(0 : Int)], [1]] rfl rfl rfl rfl rfl (.cons (r7.upF e8) (.cons r8 .nil)) (by decide) (fun v9 w9 e9 r9 => ?_)
  replace r2 := r2.upF (e3.trans (e4.trans (e5.trans (e6.trans (e7.trans (e8.trans e9))))))
  replace r5 := r5.upF (e6.trans (e7.trans (e8.trans e9)))
  replace r6 := r6.upF (e7.trans (e8.trans e9))
  have hb9 := hb.ext (e2.trans (e3.trans (e4.trans (e5.trans (e6.trans (e7.trans (e8.trans e9)))))))
  have hE9 := hE1.trans (e2.trans (e3.trans (e4.trans (e5.trans (e6.trans (e7.trans (e8.trans e9)))))))
  clear r3 r4 r7 r8 e2 e3 e4 e5 e6 e7 e8 e9 hE1
  obtain ⟨a1, c1, rfl, s1⟩ := r2.sl
  obtain ⟨a2, c2, rfl, s2⟩ := r5.sl
  obtain ⟨a3, c3, rfl, s3⟩ := r6.sl
  obtain ⟨a4, c4, rfl, s4⟩ := r9.sl
  skip
  refine WL.build rfl rfl rfl rfl ?_
  skip
  refine WL.st rfl rfl rfl hb9 rfl rfl (ones_of rfl) (fun w10 hb10 hg10 => ?_)
  have hE10 : Ext w0 w10 := hE9.grown hg10 hE9.size (fun g hg => by cases hg; exact Nat.le_refl _)
  have hF : ∀ b, From c w9 b → w10.heap[b]? = w9.heap[b]? := fun b hb => hg10.block b hb.2 (fun e => by cases e; have := hb.1; omega)
  have hO : ∀ b, From c w9 b → Old w10 b := fun b hb => Nat.lt_of_lt_of_le hb.2 hg10.size
  (repeat (first | (apply WL.nil) | (apply EX.thenN) | (apply CW.ret)))
  exact EX.retC rfl rfl hb10 rfl ⟨⟨a1, c1, a2, c2, a3, c3, a4, c4, rfl, s1.mono hF hO, s2.mono hF hO, s3.mono hF hO, s4.mono hF hO⟩, hE10⟩
end Go.Proofs.Ytllpfgcngokhnaa

/-
  One fair set in place of many (Choueka): plain lists, no program in sight.
-/
set_option linter.unusedVariables false
set_option linter.unusedSimpArgs false
namespace Go.Proofs.Ytllpfgcngokhnaa

/- COUNTING -/
section
variable {fr : List (List Int)} {q : Nat → Pr2}
end
end Go.Proofs.Ytllpfgcngokhnaa

/-
  What an automaton of pairs is like: plain lists, no program in sight.
-/
set_option linter.unusedVariables false
set_option linter.unusedSimpArgs false
namespace Go.Proofs.Ytllpfgcngokhnaa

theorem edges_getD : ∀ {g : Graph} {j : Nat}, (g.getD j []).length ≤ edges g
  | [], j => by simp
  | r :: g, 0 => by simp [edges]
  | r :: g, j + 1 => by
    have := edges_getD (g := g) (j := j)
    simp [edges] at this ⊢
    omega
structure MadeIn (N : Nat) (st : List Int) (nx : List (List Int)) : Prop where
  so : okL N st
  no : ∀ r ∈ nx, okL N r
  ln : nx.length = N
  n : N ≤ 2048
  sl : st.length ≤ 2048
  ed : edges nx ≤ 4194304
end Go.Proofs.Ytllpfgcngokhnaa

/-
  EmptyShows, EmptyTakes: walked.
-/
set_option linter.unusedVariables false
set_option linter.unusedSimpArgs false
namespace Go.Proofs.Ytllpfgcngokhnaa
open Go.RowKit

def turnsW : LWorld := ([0], [[1, 0], [0, 1]], [1, 2], [[0], [1]])
theorem turns_chk : chkE turnsW = 0 := by decide
theorem turnsW_row (j : Nat) : (turnsW.2.1.getD j []).length ≤ 1048576 := by
  match j with
  | 0 => decide
  | 1 => decide
  | j + 2 => simp [turnsW]
end Go.Proofs.Ytllpfgcngokhnaa

/-
  Package auto: the maker of pairs: what it holds.
-/
set_option linter.unusedVariables false
set_option linter.unusedSimpArgs false
namespace Go.Proofs.Ytllpfgcngokhnaa
open Go.RowKit

instance iMk1 : IsM Try.prog 108 105 3 := ⟨Try.underlying108⟩
instance iMk2 : IsC Try.prog 108 1 false := IsC.of (by kernel_rfl) Try.underlying108 rfl
instance iMk3 : IsZ0 Try.prog 3 := ⟨by kernel_rfl⟩
theorem mkLaid : laidOutB Try.prog = true := by kernel_rfl
instance iMk4 : IsKy Try.prog 105 := IsKy.of (m := 2) mkLaid (by decide) (by kernel_rfl) (by kernel_rfl) Try.underlying105 rfl
abbrev prV (p : Pr2) : Value := .agg ⟨[.int .i64 p.1, .int .i64 p.2]⟩
def SmP (p : Pr2) : Prop := 0 ≤ p.1 ∧ p.1 < 4096 ∧ 0 ≤ p.2 ∧ p.2 < 4096
structure MC where
  sb : Nat
  mb : Nat
  lv : Value
  a1 : Value
  a2 : Value
  a3 : Value
  a4 : Value
  a5 : Value
structure Mk (w : World) (B : Nat) (c : MC) (ps : List Pr2) : Prop where
  blk : Blk w c.sb 110 [.map (some c.mb), c.lv, c.a1, c.a2, c.a3, c.a4, c.a5]
  num : NumM Try.prog 105 w c.mb (ps.map prV)
  lo : Own w B 105 Non c.lv ps
  ge : B ≤ c.sb ∧ B ≤ c.mb
  ne : c.sb ≠ c.mb
  nl : ∀ g, c.lv.ownBlock = some g → g ≠ c.sb ∧ g ≠ c.mb
  nd : ps.Nodup
  sm : ∀ p ∈ ps, SmP p
theorem Mk.ext {w w' : World} {B : Nat} {c : MC} {ps : List Pr2} (h : Mk w B c ps) (hE : Ext w w') : Mk w' B c ps :=
  ⟨h.blk.ext hE, h.num.ext hE, h.lo.extN hE, h.ge, h.ne, h.nl, h.nd, h.sm⟩
def mkBusy (c : MC) (lv : Value) : Nat → Prop := fun b => b = c.sb ∨ b = c.mb ∨ c.lv.ownBlock = some b ∨ lv.ownBlock = some b
/-- what stands ahead of the number's place in the list -/
structure AddI (w0 w : World) (B B2 : Nat) (c : MC) (cl lv : Value) (ps : List Pr2) (l : List Int) : Prop where
  mak : Mk w B ⟨c.sb, c.mb, cl, c.a1, c.a2, c.a3, c.a4, c.a5⟩ ps
  own : Own w B2 3 Non lv l
  chg : Chg (mkBusy c lv) w0 w
  new : ∀ g, cl.ownBlock = some g → c.lv.ownBlock = some g ∨ w0.heap.size ≤ g
end Go.Proofs.Ytllpfgcngokhnaa

/-
  Package auto: put, the maker's closure: walked.
-/
set_option linter.unusedVariables false
set_option linter.unusedSimpArgs false
namespace Go.Proofs.Ytllpfgcngokhnaa
open Go.RowKit

end Go.Proofs.Ytllpfgcngokhnaa

/-
  Package auto: made: walked.
-/
set_option linter.unusedVariables false
set_option linter.unusedSimpArgs false
namespace Go.Proofs.Ytllpfgcngokhnaa
open Go.RowKit

/-- the maker while all pairs are made -/
structure MadeI (w0 w : World) (N B B2 sb mb kb tb : Nat) (cl sv nv : Value) (st : List Int) (vs : List Raw) (ps : List Pr2) (ok : Bool) (nx : List (List Int)) : Prop where
  mak : Mk w B ⟨sb, mb, cl, sv, nv, .slice none 0 0, .slice none 0 0, .slice none 0 0⟩ ps
  hk : Blk w kb 4 [.bool ok]
  ht : Blk w tb 107 [.pointer (some ⟨sb, 0, none⟩)]
  hn : Own w B2 22 Non nv vs
  inn : InnR w (fun b => b = sb ∨ b = mb ∨ cl.ownBlock = some b ∨ b = kb ∨ nv.ownBlock = some b ∨ b < N) vs nx
  hs : ∃ so sc, sv = .slice so st.length sc ∧ Sl w (Fz w (fun b => b = sb ∨ b = mb ∨ cl.ownBlock = some b ∨ b = kb ∨ nv.ownBlock = some b ∨ b < N)) so sc st
  chg : Chg (fun b => b = sb ∨ b = mb) w0 w
  cln : ∀ g, cl.ownBlock = some g → w0.heap.size ≤ g ∧ g ≠ kb ∧ g ≠ tb
  clv : ∀ g, cl.ownBlock = some g → nv.ownBlock ≠ some g
end Go.Proofs.Ytllpfgcngokhnaa

/-
  Package auto: the closures of Both and Single, sets: walked.
-/
set_option linter.unusedVariables false
set_option linter.unusedSimpArgs false
namespace Go.Proofs.Ytllpfgcngokhnaa
open Go.RowKit

/-- a variable that holds an automaton -/
def AuB (w : World) (b : Nat) (A : LAuto) : Prop :=
  ∃ (a1 : Option Addr) (c1 : Nat) (a2 : Option Addr) (c2 : Nat) (a3 : Option Addr) (c3 : Nat) (a4 : Option Addr) (c4 : Nat) (a5 : Option Addr) (c5 : Nat), Blk w b 28 [.slice a1 A.1.length c1, .slice a2 A.2.1.length c2, .slice a3 A.2.2.1.length c3, .slice a4 A.2.2.2.1.length c4, .slice a5 A.2.2.2.2.length c5] ∧
    Sl w (Old w) a1 c1 A.1 ∧ Sl w (Old w) a2 c2 A.2.1 ∧ Sl w (Old w) a3 c3 A.2.2.1 ∧ Sl w (Old w) a4 c4 A.2.2.2.1 ∧ Sl w (Old w) a5 c5 A.2.2.2.2
theorem AuB.up {w w' : World} {b : Nat} {A : LAuto} (h : AuB w b A) (hE : Ext w w') : AuB w' b A := by
  obtain ⟨a1, c1, a2, c2, a3, c3, a4, c4, a5, c5, hb, h1, h2, h3, h4, h5⟩ := h
  exact ⟨a1, c1, a2, c2, a3, c3, a4, c4, a5, c5, hb.ext hE, h1.up hE, h2.up hE, h3.up hE, h4.up hE, h5.up hE⟩
instance iMk10 : IsC Try.prog 106 1 false := IsC.of (by kernel_rfl) Try.underlying106 rfl
instance iMk11 : IsZC Try.prog 106 [.nilFunc] := IsZC.of (z := .nilFunc) (by kernel_rfl) rfl
end Go.Proofs.Ytllpfgcngokhnaa

/-
  Package auto: sets: walked.
-/
set_option linter.unusedVariables false
set_option linter.unusedSimpArgs false
namespace Go.Proofs.Ytllpfgcngokhnaa
open Go.RowKit

end Go.Proofs.Ytllpfgcngokhnaa

/-
  Package auto: Both: walked.
-/
set_option linter.unusedVariables false
set_option linter.unusedSimpArgs false
namespace Go.Proofs.Ytllpfgcngokhnaa
open Go.RowKit

instance iBo1 : IsZC Try.prog 28 [.slice none 0 0, .slice none 0 0, .slice none 0 0, .slice none 0 0, .slice none 0 0] := IsZC.of (z := .agg #[.slice none 0 0, .slice none 0 0, .slice none 0 0, .slice none 0 0, .slice none 0 0]) (by kernel_rfl) rfl
end Go.Proofs.Ytllpfgcngokhnaa

/-
  Both, by its error.
-/
set_option linter.unusedVariables false
set_option linter.unusedSimpArgs false
namespace Go.Proofs.Ytllpfgcngokhnaa
open Go.RowKit

end Go.Proofs.Ytllpfgcngokhnaa

/-
  EmptyTakes: walked.
-/
set_option linter.unusedVariables false
set_option linter.unusedSimpArgs false
namespace Go.Proofs.Ytllpfgcngokhnaa
open Go.RowKit

end Go.Proofs.Ytllpfgcngokhnaa

/-
  Formulas of one way: how they lie in memory, their check.
-/
set_option linter.unusedVariables false
set_option linter.unusedSimpArgs false
namespace Go.Proofs.Ytllpfgcngokhnaa
open Go.RowKit

inductive Ltl where
  | mk (k n : Int) (kids : List Ltl) : Ltl
def Ltl.k : Ltl → Int | .mk k _ _ => k
def Ltl.n : Ltl → Int | .mk _ n _ => n
def Ltl.kids : Ltl → List Ltl | .mk _ _ l => l
mutual
def Ltl.nodes : Ltl → Nat
  | .mk _ _ kids => 1 + Ltl.nodesL kids
def Ltl.nodesL : List Ltl → Nat
  | [] => 0
  | x :: r => x.nodes + Ltl.nodesL r
end
theorem Ltl.nodes_pos (t : Ltl) : 0 < t.nodes := by cases t; simp [Ltl.nodes]; omega
theorem Ltl.nodes_kid : ∀ (l : List Ltl) (x : Ltl), x ∈ l → x.nodes ≤ Ltl.nodesL l
  | [], x, h => by cases h
  | y :: r, x, h => by
    simp only [Ltl.nodesL]
    rcases List.mem_cons.1 h with rfl | h
    · omega
    · have := Ltl.nodes_kid r x h; omega

inductive RdT (w : World) (F : Nat → Prop) : List Value → Ltl → Prop
  | mk (k n : Int) (kids : List Ltl) (ao : Option Addr) (cap : Nat) (es : Nat → List Value) : kids.length ≤ cap → cap ≤ maxLen → (ao = none → cap = 0) →
      (∀ i, i < kids.length → ∃ b off, ao = some ⟨b, off, none⟩ ∧ F b ∧ Cells w b (off + i * 3) (es i)) → (∀ i (h : i < kids.length), RdT w F (es i) kids[i]) →
      RdT w F [.int .i64 k, .int .i64 n, .slice ao kids.length cap] (.mk k n kids)
instance iLtl1 : Rep Ltl where
  sz := 3
  pos := by decide
  agg := true
  rd := RdT
  len := by intro w F cs x h; cases h; rfl
  one := by
    intro w F cs x h v hv
    cases h
    simp at hv
    rcases hv with rfl | rfl | rfl <;> rfl
  szAgg := fun h => by cases h
  mono := by
    intro w w' F F' cs x h hb hF
    induction h with
    | mk k n kids ao cap es h1 h2 h3 h4 h5 ih =>
      refine .mk k n kids ao cap es h1 h2 h3 (fun i hi => ?_) (fun i hi => ih i hi)
      obtain ⟨b, off, e, hf, hc⟩ := h4 i hi
      exact ⟨b, off, e, hF b hf, hc.mono (hb b hf)⟩
theorem RdT.sl {w : World} {F : Nat → Prop} {cs : List Value} {t : Ltl} (h : rd w F cs t) : ∃ ao cap, cs = [.int .i64 t.k, .int .i64 t.n, .slice ao t.kids.length cap] ∧ Sl w F ao cap t.kids := by
  cases h with
  | mk k n kids ao cap es h1 h2 h3 h4 h5 =>
    refine ⟨ao, cap, rfl, h1, h2, h3, fun i hi => ?_⟩
    obtain ⟨b, off, e, hf, hc⟩ := h4 i hi
    exact ⟨b, off, e, hf, es i, hc, h5 i hi⟩
theorem RdT.of {w : World} {F : Nat → Prop} {k n : Int} {kids : List Ltl} {ao : Option Addr} {cap : Nat} (h : Sl w F ao cap kids) : rd w F [.int .i64 k, .int .i64 n, .slice ao kids.length cap] (Ltl.mk k n kids) := by
  have h4 : ∀ i, ∃ es : List Value, ∀ hi : i < kids.length, ∃ b off, ao = some ⟨b, off, none⟩ ∧ F b ∧ Cells w b (off + i * 3) es ∧ rd w F es kids[i] := by
    intro i
    by_cases hi : i < kids.length
    · obtain ⟨b, off, e, hf, es, hc, hr⟩ := h.el i hi
      exact ⟨es, fun _ => ⟨b, off, e, hf, hc, hr⟩⟩
    · exact ⟨[], fun h => absurd h hi⟩
  refine .mk k n kids ao cap (fun i => Classical.choose (h4 i)) h.le h.mx h.nil (fun i hi => ?_) (fun i hi => ?_)
  · obtain ⟨b, off, e, hf, hc, _⟩ := Classical.choose_spec (h4 i) hi
    exact ⟨b, off, e, hf, hc⟩
  · obtain ⟨b, off, e, hf, hc, hr⟩ := Classical.choose_spec (h4 i) hi
    exact hr
abbrev ltlV (k n : Int) (ao : Option Addr) (len cap : Nat) : Value := .agg [.int .i64 k, .int .i64 n, .slice ao len cap].toArray
theorem Rd.ltl {w : World} {F : Nat → Prop} {v : Value} {t : Ltl} (h : Rd w F v t) : ∃ ao cap, v = ltlV t.k t.n ao t.kids.length cap ∧ Sl w F ao cap t.kids := by
  obtain ⟨cs, e, hr⟩ := h
  obtain ⟨ao, cap, rfl, hs⟩ := RdT.sl hr
  exact ⟨ao, cap, e, hs⟩
theorem Rd.mkLtl {w : World} {F : Nat → Prop} {k n : Int} {kids : List Ltl} {ao : Option Addr} {cap : Nat} (h : Sl w F ao cap kids) : Rd w F (ltlV k n ao kids.length cap) (Ltl.mk k n kids) := ⟨_, rfl, RdT.of h⟩
instance iLtl2 : IsT Try.prog 68 Ltl := IsT.of (by kernel_rfl) Try.underlying68 rfl
instance iLtl3 : IsS Try.prog 66 68 := ⟨Try.underlying66⟩
instance iLtl4 : IsT Try.prog 66 (List Ltl) := IsT.of (by kernel_rfl) Try.underlying66 rfl
instance iLtl5 : IsZ Try.prog 68 (Ltl.mk 0 0 []) 40 := IsZ.of (z := .agg #[.int .i64 0, .int .i64 0, .slice none 0 0]) (by kernel_rfl) (fun _ _ => RdT.of (kids := []) ⟨by simp, by simp [maxLen], fun _ => rfl, fun i hi => absurd hi (by simp)⟩)
instance iLtl6 : IsC Try.prog 68 3 true := IsC.of (by kernel_rfl) Try.underlying68 rfl
instance iLtl7 : IsC Try.prog 66 1 false := IsC.of (by kernel_rfl) Try.underlying66 rfl
instance iLtl8 : IsZC Try.prog 66 [.slice none 0 0] := IsZC.of (z := .slice none 0 0) (by kernel_rfl) rfl
instance iLtl9 : IsFd Try.prog 68 0 0 := IsFd.of (by kernel_rfl)
instance iLtl10 : IsFd Try.prog 68 1 1 := IsFd.of (by kernel_rfl)
instance iLtl11 : IsFd Try.prog 68 2 2 := IsFd.of (by kernel_rfl)
instance iLtl12 : IsZC Try.prog 68 [.int .i64 0, .int .i64 0, .slice none 0 0] := IsZC.of (z := .agg #[.int .i64 0, .int .i64 0, .slice none 0 0]) (by kernel_rfl) rfl
instance iLtl13 : IsBd Try.prog 68 [(0, 1), (1, 1), (2, 1)] := IsBd.of (by kernel_rfl)
instance iLtl14 : IsC Try.prog 184 1 false := IsC.of (by kernel_rfl) Try.underlying184 rfl

def kidsK (k : Int) : Int := if k = 1 ∨ k = 2 ∨ k = 3 then 0 else if k = 4 ∨ k = 7 ∨ k = 10 ∨ k = 11 then 1 else if k = 5 ∨ k = 6 ∨ k = 8 ∨ k = 9 then 2 else -1
theorem kids_ok (w : World) (k : Int) : Rt Try.prog 175 [.int .i64 k].toArray w fun v w' => v = .int .i64 (kidsK k) ∧ w = w' := by
  refine Rt.enter1 Try.func175 Try.ntmps175 rfl rfl ?_
  unfold kidsK
  (repeat (first | (apply WL.pure; rfl; rfl; rfl) | (apply WL.nil) | (apply EX.thenN) | (apply CW.seq) | (apply CW.region) | (apply CW.block)))
  refine CW.cond rfl (fun h => ?_) (fun h => ?_) <;> simp at h
  · subst h; (repeat (first | (apply WL.pure; rfl; rfl; rfl) | (apply WL.nil) | (apply EX.thenN) | (apply CW.seq) | (apply CW.region) | (apply CW.condT; rfl) | (apply CW.ret) | (apply EX.thenR) | (apply EX.inR) | (apply CW.skip)))
    exact EX.ret1 rfl rfl ⟨rfl, rfl⟩
  (repeat (first | (apply WL.pure; rfl; rfl; rfl) | (apply WL.nil) | (apply EX.thenN) | (apply CW.seq) | (apply CW.region)))
  refine CW.cond rfl (fun h => ?_) (fun h => ?_) <;> simp at h
  · subst h; (repeat (first | (apply WL.pure; rfl; rfl; rfl) | (apply WL.nil) | (apply EX.thenN) | (apply CW.seq) | (apply CW.region) | (apply CW.condT; rfl) | (apply CW.ret) | (apply EX.thenR) | (apply EX.inR) | (apply CW.skip)))
    exact EX.ret1 rfl rfl ⟨rfl, rfl⟩
  (repeat (first | (apply WL.pure; rfl; rfl; rfl) | (apply WL.nil) | (apply EX.thenN) | (apply CW.region)))
  refine CW.cond rfl (fun h => ?_) (fun h => ?_) <;> simp at h
  · subst h; (repeat (first | (apply WL.pure; rfl; rfl; rfl) | (apply WL.nil) | (apply EX.thenN) | (apply CW.seq) | (apply CW.region) | (apply CW.ret) | (apply EX.thenR) | (apply EX.inR)))
    exact EX.ret1 rfl rfl ⟨rfl, rfl⟩
  rw [if_neg (by omega)]
  (repeat (first | (apply WL.pure; rfl; rfl; rfl) | (apply WL.nil) | (apply EX.thenN) | (apply CW.seq) | (apply CW.region)))
  refine CW.cond rfl (fun h => ?_) (fun h => ?_) <;> simp at h
  · subst h; (repeat (first | (apply WL.pure; rfl; rfl; rfl) | (apply WL.nil) | (apply EX.thenN) | (apply CW.seq) | (apply CW.region) | (apply CW.condT; rfl) | (apply CW.ret) | (apply EX.thenR) | (apply EX.inR) | (apply CW.skip)))
    exact EX.ret1 rfl rfl ⟨rfl, rfl⟩
  (repeat (first | (apply WL.pure; rfl; rfl; rfl) | (apply WL.nil) | (apply EX.thenN) | (apply CW.seq) | (apply CW.region)))
  refine CW.cond rfl (fun h => ?_) (fun h => ?_) <;> simp at h
  · subst h; (repeat (first | (apply WL.pure; rfl; rfl; rfl) | (apply WL.nil) | (apply EX.thenN) | (apply CW.seq) | (apply CW.region) | (apply CW.condT; rfl) | (apply CW.ret) | (apply EX.thenR) | (apply EX.inR) | (apply CW.skip)))
    exact EX.ret1 rfl rfl ⟨rfl, rfl⟩
  (repeat (first | (apply WL.pure; rfl; rfl; rfl) | (apply WL.nil) | (apply EX.thenN) | (apply CW.seq) | (apply CW.region)))
  refine CW.cond rfl (fun h => ?_) (fun h => ?_) <;> simp at h
  · subst h; (repeat (first | (apply WL.pure; rfl; rfl; rfl) | (apply WL.nil) | (apply EX.thenN) | (apply CW.seq) | (apply CW.region) | (apply CW.condT; rfl) | (apply CW.ret) | (apply EX.thenR) | (apply EX.inR) | (apply CW.skip)))
    exact EX.ret1 rfl rfl ⟨rfl, rfl⟩
  (repeat (first | (apply WL.pure; rfl; rfl; rfl) | (apply WL.nil) | (apply EX.thenN) | (apply CW.region)))
  refine CW.cond rfl (fun h => ?_) (fun h => ?_) <;> simp at h
  · subst h; (repeat (first | (apply WL.pure; rfl; rfl; rfl) | (apply WL.nil) | (apply EX.thenN) | (apply CW.seq) | (apply CW.region) | (apply CW.ret) | (apply EX.thenR) | (apply EX.inR)))
    exact EX.ret1 rfl rfl ⟨rfl, rfl⟩
  rw [if_neg (by omega)]
  (repeat (first | (apply WL.pure; rfl; rfl; rfl) | (apply WL.nil) | (apply EX.thenN) | (apply CW.seq) | (apply CW.region)))
  refine CW.cond rfl (fun h => ?_) (fun h => ?_) <;> simp at h
  · subst h; (repeat (first | (apply WL.pure; rfl; rfl; rfl) | (apply WL.nil) | (apply EX.thenN) | (apply CW.seq) | (apply CW.region) | (apply CW.condT; rfl) | (apply CW.ret) | (apply EX.thenR) | (apply EX.inR) | (apply CW.skip)))
    exact EX.ret1 rfl rfl ⟨rfl, rfl⟩
  (repeat (first | (apply WL.pure; rfl; rfl; rfl) | (apply WL.nil) | (apply EX.thenN) | (apply CW.seq) | (apply CW.region)))
  refine CW.cond rfl (fun h => ?_) (fun h => ?_) <;> simp at h
  · subst h; (repeat (first | (apply WL.pure; rfl; rfl; rfl) | (apply WL.nil) | (apply EX.thenN) | (apply CW.seq) | (apply CW.region) | (apply CW.condT; rfl) | (apply CW.ret) | (apply EX.thenR) | (apply EX.inR) | (apply CW.skip)))
    exact EX.ret1 rfl rfl ⟨rfl, rfl⟩
  (repeat (first | (apply WL.pure; rfl; rfl; rfl) | (apply WL.nil) | (apply EX.thenN) | (apply CW.seq) | (apply CW.region)))
  refine CW.cond rfl (fun h => ?_) (fun h => ?_) <;> simp at h
  · subst h; (repeat (first | (apply WL.pure; rfl; rfl; rfl) | (apply WL.nil) | (apply EX.thenN) | (apply CW.seq) | (apply CW.region) | (apply CW.condT; rfl) | (apply CW.ret) | (apply EX.thenR) | (apply EX.inR) | (apply CW.skip)))
    exact EX.ret1 rfl rfl ⟨rfl, rfl⟩
  (repeat (first | (apply WL.pure; rfl; rfl; rfl) | (apply WL.nil) | (apply EX.thenN) | (apply CW.region)))
  refine CW.cond rfl (fun h => ?_) (fun h => ?_) <;> simp at h
  · subst h; (repeat (first | (apply WL.pure; rfl; rfl; rfl) | (apply WL.nil) | (apply EX.thenN) | (apply CW.seq) | (apply CW.region) | (apply CW.ret) | (apply EX.thenR) | (apply EX.inR)))
    exact EX.ret1 rfl rfl ⟨rfl, rfl⟩
  rw [if_neg (by omega)]
  (repeat (first | (apply WL.pure; rfl; rfl; rfl) | (apply WL.nil) | (apply EX.thenN) | (apply CW.seq) | (apply CW.region) | (apply EX.inN) | (apply CW.ret) | (apply CW.skip)))
  exact EX.ret1 rfl rfl ⟨rfl, rfl⟩
end Go.Proofs.Ytllpfgcngokhnaa

/-
  Package ltl: Check.
-/
set_option linter.unusedVariables false
set_option linter.unusedSimpArgs false
namespace Go.Proofs.Ytllpfgcngokhnaa
open Go.RowKit

theorem grown_tr {w w1 w2 : World} {r : Option Nat} (h1 : w.grownBy w1 r) (h2 : w1.grownBy w2 r) : w.grownBy w2 r :=
  ⟨h2.os.trans h1.os, h2.tape.trans h1.tape, h2.output.trans h1.output, Nat.le_trans h1.size h2.size, fun k hk hne => (h2.block k (Nat.lt_of_lt_of_le hk h1.size) hne).trans (h1.block k hk hne)⟩
theorem Ext.grw {w w1 : World} (h : Ext w w1) (r : Option Nat) : w.grownBy w1 r := ⟨h.os, h.tape, h.output, h.size, fun k hk _ => h.block k hk⟩
mutual
def chkF : Ltl → Int → Int → Int × Int
  | .mk k n kids, deep, c => if c + 1 > 60 then (2, c + 1) else if deep > 20 then (5, c + 1) else if kidsK k ≠ kids.length ∨ n < 0 ∨ n > 63 ∨ (k ≠ 3 ∧ n ≠ 0) then (1, c + 1) else chkFL kids (deep + 1) (c + 1)
def chkFL : List Ltl → Int → Int → Int × Int
  | [], _, c => (0, c)
  | x :: r, deep, c => if (chkF x deep c).1 ≠ 0 then chkF x deep c else chkFL r deep (chkF x deep c).2
end
mutual
theorem chkF_le : ∀ (t : Ltl) (deep c : Int), (chkF t deep c).1 = 0 → c < (chkF t deep c).2 ∧ (chkF t deep c).2 ≤ 60
  | .mk k n kids, deep, c, h => by
    simp only [chkF] at h ⊢
    split at h
    · cases h
    · rename_i h1
      rw [if_neg h1]
      split at h
      · cases h
      · rename_i h2
        rw [if_neg h2]
        split at h
        · cases h
        · rename_i h3
          rw [if_neg h3]
          have := chkFL_le kids (deep + 1) (c + 1) (by omega) h
          omega
theorem chkFL_le : ∀ (l : List Ltl) (deep c : Int), c ≤ 60 → (chkFL l deep c).1 = 0 → c ≤ (chkFL l deep c).2 ∧ (chkFL l deep c).2 ≤ 60
  | [], deep, c, hc, h => by simp only [chkFL]; omega
  | x :: r, deep, c, hc, h => by
    simp only [chkFL] at h ⊢
    split at h
    · rename_i h1; exact absurd h h1
    · rename_i h1
      rw [if_neg h1]
      have h2 := chkF_le x deep c (by simpa using h1)
      have h3 := chkFL_le r deep _ h2.2 h
      omega
end
theorem ltlCheck0_ok : ∀ (m : Nat) (t : Ltl), t.nodes ≤ m → ∀ (w : World) (F : Nat → Prop) (deep c : Int) (bn : Nat) (ao : Option Addr) (cap : Nat), Sl w F ao cap t.kids → (∀ b, F b → b < w.heap.size) → ¬ F bn →
    Blk w bn 3 [.int .i64 c] → 0 ≤ c → c ≤ 60 → 0 ≤ deep → deep ≤ 1000 →
    Rt Try.prog 138 [ltlV t.k t.n ao t.kids.length cap, .int .i64 deep, .pointer (some ⟨bn, 0, none⟩)].toArray w fun v w' => v = .int .i64 (chkF t deep c).1 ∧ Blk w' bn 3 [.int .i64 (chkF t deep c).2] ∧ w.grownBy w' (some bn)
  | 0, t, hm => by have := t.nodes_pos; omega
  | m + 1, .mk k n kids, hm => by
    intro w F deep c bn ao cap hs hF hn hb hc0 hc1 hd0 hd1
    simp only [Ltl.kids, Ltl.k, Ltl.n] at *
    refine Rt.enter3 Try.func138 Try.ntmps138 rfl rfl ?_
    have hlen := hs.len63
    have hbn := hb.lt
    (repeat (first | (apply CW.seq) | (apply CW.region)))
    refine WL.boxB rfl rfl rfl fun w1 hf hE1 => ?_
    have hb1 := hb.ext hE1
    have hg1 := hE1.grw (some bn)
    (repeat (first | (apply WL.add; rfl; rfl; rfl; rfl; omega; omega) | (apply WL.pure; rfl; rfl; rfl) | (apply WL.nil) | (apply EX.thenN) | (apply CW.seq) | (apply CW.region) | (apply WL.nck; rfl; rfl; rfl) | (apply WL.ld; rfl; rfl; rfl; assumption; rfl)))
    refine WL.st rfl rfl rfl hb1 rfl rfl (ones_of rfl) (fun w2 hb2 hgr => ?_)
    have hf2 := hf.kept hgr (by simp; omega)
    have hg2 := grown_tr hg1 hgr
    simp only [chkF]
    (repeat (first | (apply WL.pure; rfl; rfl; rfl) | (apply WL.nil) | (apply EX.thenN) | (apply CW.seq) | (apply CW.region) | (apply WL.nck; rfl; rfl; rfl) | (apply WL.ld; rfl; rfl; rfl; assumption; rfl) | (apply CW.block)))
    refine CW.cond rfl (fun h => ?_) (fun h => ?_) <;> simp only [decide_eq_true_eq, decide_eq_false_iff_not, gt_iff_lt] at h
    · (repeat (first | (apply WL.pure; rfl; rfl; rfl) | (apply WL.nil) | (apply EX.thenN) | (apply CW.seq) | (apply CW.region) | (apply CW.ret) | (apply EX.thenR) | (apply EX.inR)))
      refine EX.ret1 rfl rfl ?_
      rw [if_pos h]
      exact ⟨rfl, hb2, hg2⟩
    rw [if_neg (by omega)]
    (repeat (first | (apply WL.pure; rfl; rfl; rfl) | (apply WL.nil) | (apply EX.thenN) | (apply CW.seq) | (apply CW.region)))
    refine CW.cond rfl (fun h1 => ?_) (fun h1 => ?_) <;> simp only [decide_eq_true_eq, decide_eq_false_iff_not, gt_iff_lt] at h1
    · (repeat (first | (apply WL.pure; rfl; rfl; rfl) | (apply WL.nil) | (apply EX.thenN) | (apply CW.seq) | (apply CW.region) | (apply CW.ret) | (apply EX.thenR) | (apply EX.inR)))
      refine EX.ret1 rfl rfl ?_
      rw [if_pos h1]
      exact ⟨rfl, hb2, hg2⟩
    rw [if_neg (by omega)]
    refine CW.cutE [(1, .int .i64 deep), (2, .pointer (some ⟨bn, 0, none⟩)), (3, .pointer (some ⟨w.heap.size, 0, none⟩)), (23, .bool (decide (kidsK k ≠ kids.length ∨ n < 0 ∨ n > 63 ∨ (k ≠ 3 ∧ n ≠ 0))))] ?_ ?_
    · (repeat (first | (apply CW.seq) | (apply QL.fa; rfl; rfl; rfl) | (apply QL.ld; rfl; rfl; rfl; assumption; rfl) | (apply CW.draw; exact mixed; kernel_rfl)))
      refine QL.call rfl rfl rfl (fun w' h => Rt.mono (kids_ok w' k) (fun v w'' hv => ⟨hv.1, hv.2 ▸ Ext.refl _⟩)) ?_
      (repeat (first | (apply QL.pure; rfl; rfl; rfl) | (apply QL.lenS; rfl; rfl; rfl) | (apply QL.fa; rfl; rfl; rfl) | (apply QL.ld; rfl; rfl; rfl; assumption; rfl)))
      refine QL.nil fun w3 hE3 => ?_
      have hf3 := hf2.ext hE3
      (repeat (apply EX.thenN))
      refine CW.cond rfl (fun h2 => ?_) (fun h2 => ?_) <;> simp at h2
      · (repeat (apply CW.skip))
        refine EX.cutE ⟨rfl, rfl, rfl, ?_, trivial⟩ hE3
        refine congrArg (fun b => some (Value.bool b)) ?_
        have : (kidsK k != (kids.length : Int)) = true := by simpa using h2
        rw [this, decide_eq_true (.inl h2)]
      · (repeat (first | (apply WL.pure; rfl; rfl; rfl) | (apply CW.seq) | (apply CW.region) | (apply WL.fa; rfl; rfl; rfl) | (apply WL.ld; rfl; rfl; rfl; assumption; rfl)))
        (refine WL.lookG rfl rfl (fun h => ?_) (fun h => ?_)) <;> simp at h
        · (repeat (first | (apply WL.pure; rfl; rfl; rfl) | (apply WL.nil) | (apply EX.thenN) | (apply WL.pass; rfl; rfl) | (apply CW.condT; rfl) | (apply CW.skip)))
          refine EX.cutE ⟨rfl, rfl, rfl, ?_, trivial⟩ hE3
          refine congrArg (fun b => some (Value.bool b)) ?_
          rw [decide_eq_true (.inr (.inl h))]
        · (repeat (first | (apply WL.pure; rfl; rfl; rfl) | (apply WL.nil) | (apply EX.thenN) | (apply WL.fa; rfl; rfl; rfl) | (apply WL.ld; rfl; rfl; rfl; assumption; rfl)))
          refine CW.cond rfl (fun h3 => ?_) (fun h3 => ?_) <;> simp at h3
          · (repeat (apply CW.skip))
            refine EX.cutE ⟨rfl, rfl, rfl, ?_, trivial⟩ hE3
            refine congrArg (fun b => some (Value.bool b)) ?_
            rw [decide_eq_true h3, decide_eq_true (.inr (.inr (.inl h3)))]
          · (repeat (first | (apply WL.pure; rfl; rfl; rfl) | (apply CW.region) | (apply WL.fa; rfl; rfl; rfl) | (apply WL.ld; rfl; rfl; rfl; assumption; rfl)))
            (refine WL.lookG rfl rfl (fun h => ?_) (fun h => ?_)) <;> simp at h
            · (repeat (first | (apply WL.pure; rfl; rfl; rfl) | (apply WL.nil) | (apply WL.fa; rfl; rfl; rfl) | (apply WL.ld; rfl; rfl; rfl; assumption; rfl)))
              refine EX.cutE ⟨rfl, rfl, rfl, ?_, trivial⟩ hE3
              refine congrArg (fun b => some (Value.bool b)) ?_
              (rw [Bool.eq_iff_iff]; simp; try omega)
            · (repeat (first | (apply WL.pure; rfl; rfl; rfl) | (apply WL.nil) | (apply WL.pass; rfl; rfl)))
              refine EX.cutE ⟨rfl, rfl, rfl, ?_, trivial⟩ hE3
              refine congrArg (fun b => some (Value.bool b)) ?_
              (rw [Bool.eq_iff_iff]; simp; try omega)
    intro w3 hE3
    have hb3 := hb2.ext hE3
    have hf3 := hf2.ext hE3
    have hg3 := grown_tr hg2 (hE3.grw (some bn))
    refine CW.cond rfl (fun h2 => ?_) (fun h2 => ?_) <;> simp only [decide_eq_true_eq, decide_eq_false_iff_not] at h2
    · rw [if_pos h2]
      (repeat (first | (apply WL.pure; rfl; rfl; rfl) | (apply WL.nil) | (apply EX.thenN) | (apply CW.seq) | (apply CW.region) | (apply CW.ret) | (apply EX.thenR) | (apply EX.inR)))
      exact EX.ret1 rfl rfl ⟨rfl, hb3, hg3⟩
    rw [if_neg h2]
    (repeat (first | (apply WL.pure; rfl; rfl; rfl) | (apply WL.nil) | (apply EX.thenN) | (apply CW.seq) | (apply CW.region) | (apply WL.lenS; rfl; rfl; rfl) | (apply WL.fa; rfl; rfl; rfl) | (apply WL.ld; rfl; rfl; rfl; assumption; rfl) | (apply CW.block) | (apply EX.inN) | (apply CW.skip)))
    refine CW.loop (S := Nat × Int) (fun x => [(1, .int .i64 deep), (2, .pointer (some ⟨bn, 0, none⟩)), (48, .slice ao kids.length cap), (49, .int .i64 (kids.length : Int)), (50, .int .i64 (x.1 : Int))])
      (fun x w' => w.grownBy w' (some bn) ∧ Blk w' bn 3 [.int .i64 x.2] ∧ 0 ≤ x.2 ∧ x.2 ≤ 60 ∧ x.1 ≤ kids.length ∧ chkFL kids (deep + 1) (c + 1) = chkFL (kids.drop x.1) (deep + 1) x.2) (fun x => kids.length - x.1) (0, c + 1) (by repeat (first | exact trivial | refine ⟨rfl, ?_⟩)) ⟨hg3, hb3, by simp only; omega, by simp only; omega, by omega, rfl⟩ ?_
    rintro ⟨i, ci⟩ w4 ⟨hg4, hb4, hci0, hci, hi, heq⟩
    simp only at hb4 hci0 hci hi heq
    rw [heq]
    (repeat (first | (apply WL.pure; rfl; rfl; rfl) | (apply WL.nil) | (apply EX.thenN) | (apply CW.seq) | (apply CW.region)))
    refine CW.cond rfl (fun h3 => ?_) (fun h3 => ?_) <;> simp at h3
    · have hs4 : Sl w4 F ao cap kids := hs.mono (fun b hb => hg4.block b (hF b hb) (by intro e; cases e; exact hn hb)) fun _ h => h
      have hF4 : ∀ b, F b → b < w4.heap.size := fun b hb => Nat.lt_of_lt_of_le (hF b hb) hg4.size
      (repeat (first | (apply EX.thenN) | (apply CW.seq) | (apply CW.region) | (apply CW.block) | (apply CW.skip)))
      refine WL.elemN rfl rfl rfl rfl rfl hs4 h3 (fun _ => rfl) (fun u q hu => ?_)
      have hdrop : kids.drop i = kids[i] :: kids.drop (i + 1) := List.drop_eq_getElem_cons h3
      have hnode : (kids[i]).nodes ≤ m := by
        have := Ltl.nodes_kid kids _ (List.getElem_mem h3)
        simp only [Ltl.nodes] at hm; omega
      rw [hdrop]
      simp only [chkFL]
      generalize kids[i] = x at *
      obtain ⟨ao', cap', rfl, hx⟩ := hu.ltl
      have hw4 : w.heap.size ≤ w4.heap.size := hg4.size
      refine WL.alloc rfl rfl (fun w5 hb5 hE5 => ?_)
      refine WL.st rfl rfl rfl hb5 rfl rfl (ones_of rfl) (fun w6 hb6 hgr6 => ?_)
      have hE6 : Ext w4 w6 := hE5.grown hgr6 hE5.size (fun g hg => by cases hg; exact Nat.le_refl _)
      have hb46 := hb4.ext hE6
      have hg6 := grown_tr hg4 (hE6.grw (some bn))
      (repeat (first | (apply WL.add; rfl; rfl; rfl; rfl; omega; omega) | (apply WL.pure; rfl; rfl; rfl) | (apply WL.nil) | (apply EX.thenN) | (apply CW.seq) | (apply CW.region) | (apply WL.ldA; rfl; rfl; rfl; assumption; rfl)))
      refine WL.call rfl rfl rfl (ltlCheck0_ok m x hnode w6 F (deep + 1) ci bn ao' cap' (hx.mono (fun b hb => hE6.block b (hF4 b hb)) fun _ h => h) (fun b hb => Nat.lt_of_lt_of_le (hF4 b hb) hE6.size) hn hb46 hci0 hci (by omega) (by omega)) ?_
      rintro v w7 ⟨rfl, hb7, hg7⟩
      have hg7 := grown_tr hg6 hg7
      have hle := chkF_le x (deep + 1) ci
      generalize chkF x (deep + 1) ci = r at *
      obtain ⟨e, c'⟩ := r
      simp only at hle hb7
      (repeat (first | (apply WL.pure; rfl; rfl; rfl) | (apply WL.nil) | (apply EX.thenN) | (apply CW.seq) | (apply CW.region)))
      refine CW.cond rfl (fun h4 => ?_) (fun h4 => ?_) <;> simp at h4
      · (repeat (first | (apply WL.pure; rfl; rfl; rfl) | (apply WL.nil) | (apply EX.thenN) | (apply CW.seq) | (apply CW.region) | (apply CW.ret) | (apply EX.thenR) | (apply EX.inR)))
        refine EX.ret1 rfl rfl ?_
        rw [if_pos h4]
        exact ⟨rfl, hb7, hg7⟩
      · have := hle h4
        (repeat (first | (apply WL.add; rfl; rfl; rfl; rfl; omega; omega) | (apply WL.pure; rfl; rfl; rfl) | (apply WL.nil) | (apply EX.thenN) | (apply CW.region) | (apply EX.inN) | (apply CW.skip)))
        refine EX.back (i + 1, c') (by repeat (first | exact trivial | refine ⟨rfl, ?_⟩)) ⟨hg7, hb7, by simp only; omega, by simp only; omega, by simp only; omega, ?_⟩ (by simp only; omega)
        simp only
        rw [if_neg (by simp [h4])]
    · (repeat (first | (apply WL.pure; rfl; rfl; rfl) | (apply WL.nil) | (apply EX.thenN) | (apply CW.seq) | (apply CW.region) | (apply CW.exit) | (apply EX.thenX) | (apply EX.inX) | (apply CW.ret)))
      refine EX.ret1 rfl rfl ?_
      rw [List.drop_eq_nil_of_le (by omega)]
      exact ⟨rfl, hb4, hg4⟩
theorem ltlCheck (w : World) {F : Nat → Prop} {t : Ltl} {ao : Option Addr} {cap : Nat} (hs : Sl w F ao cap t.kids) (hF : ∀ b, F b → b < w.heap.size) :
    Rt Try.prog 85 [ltlV t.k t.n ao t.kids.length cap].toArray w fun v w' => v = .int .i64 (chkF t 1 0).1 ∧ Ext w w' := by
  refine Rt.enter1 Try.func85 Try.ntmps85 rfl rfl ?_
  (repeat (first | (apply CW.seq) | (apply CW.region)))
  refine WL.boxB rfl rfl rfl fun w1 hf hE1 => ?_
  (repeat (first | (apply WL.pure; rfl; rfl; rfl) | (apply WL.nil) | (apply EX.thenN) | (apply CW.seq) | (apply CW.region)))
  refine WL.alloc rfl rfl (fun w2 hb hE2 => ?_)
  have hlt := hb.lt
  refine WL.st rfl rfl rfl hb rfl rfl (ones_of rfl) (fun w3 hb hgr => ?_)
  have hE12 := hE1.trans hE2
  have hE3 : Ext w w3 := hE12.grown hgr hE12.size (fun g hg => by cases hg; exact hE1.size)
  have hf3 := (hf.ext hE2).kept hgr (by have := hf.lt; simp; omega)
  have hw1 : w.heap.size ≤ w1.heap.size := hE1.size
  (repeat (first | (apply WL.nil) | (apply EX.thenN) | (apply CW.seq) | (apply CW.region) | (apply WL.ldA; rfl; rfl; rfl; assumption; rfl)))
  refine WL.call rfl rfl rfl (ltlCheck0_ok t.nodes t (Nat.le_refl _) w3 F 1 0 w1.heap.size ao cap (hs.mono (fun b hb => hE3.block b (hF b hb)) fun _ h => h) (fun b hb => Nat.lt_of_lt_of_le (hF b hb) hE3.size) (fun h => by have := hF _ h; omega) hb (by omega) (by omega) (by omega) (by omega)) ?_
  rintro v w4 ⟨rfl, hb4, hg4⟩
  (repeat (first | (apply WL.pure; rfl; rfl; rfl) | (apply WL.nil) | (apply EX.thenN) | (apply CW.ret)))
  exact EX.ret1 rfl rfl ⟨rfl, hE3.grown hg4 hE3.size (fun g hg => by cases hg; exact hE1.size)⟩
end Go.Proofs.Ytllpfgcngokhnaa

/-
  Package lasso: what formulas say at all places.
-/
set_option linter.unusedVariables false
set_option linter.unusedSimpArgs false
namespace Go.Proofs.Ytllpfgcngokhnaa
open Go.RowKit

mutual
def wfT : Ltl → Prop
  | .mk k n kids => kidsK k = kids.length ∧ 0 ≤ n ∧ n ≤ 63 ∧ (k ≠ 3 → n = 0) ∧ wfTs kids
def wfTs : List Ltl → Prop
  | [] => True
  | x :: r => wfT x ∧ wfTs r
end
mutual
theorem chkF_wf : ∀ (t : Ltl) (deep c : Int), (chkF t deep c).1 = 0 → wfT t
  | .mk k n kids, deep, c, h => by
    simp only [chkF] at h
    split at h
    · cases h
    · split at h
      · cases h
      · split at h
        · cases h
        · rename_i h3
          simp only [wfT]
          have := chkFL_wf kids _ _ h
          refine ⟨by omega, by omega, by omega, by omega, this⟩
theorem chkFL_wf : ∀ (l : List Ltl) (deep c : Int), (chkFL l deep c).1 = 0 → wfTs l
  | [], _, _, _ => trivial
  | x :: r, deep, c, h => by
    simp only [chkFL] at h
    split at h
    · rename_i h1; exact absurd h h1
    · rename_i h1
      exact ⟨chkF_wf x deep c (by simpa using h1), chkFL_wf r _ _ h⟩
end
theorem wfTs_get : ∀ (kids : List Ltl) (i : Nat) (h : i < kids.length), wfTs kids → wfT kids[i]
  | x :: r, 0, h, hw => hw.1
  | x :: r, i + 1, h, hw => wfTs_get r i (by simpa using h) hw.2
end Go.Proofs.Ytllpfgcngokhnaa

/-
  What formulas of one way mean, on endless words; that lasso.holds says so. Plain law, no program in sight.
-/
set_option linter.unusedVariables false
set_option linter.unusedSimpArgs false
namespace Go.Proofs.Ytllpfgcngokhnaa
open Go.RowKit

def Til (A B : Nat → Prop) (i : Nat) : Prop := ∃ j, i ≤ j ∧ B j ∧ ∀ m, i ≤ m → m < j → A m
theorem Til.step {A B : Nat → Prop} {i : Nat} : Til A B i ↔ B i ∨ (A i ∧ Til A B (i + 1)) := by
  constructor
  · rintro ⟨j, hj, hb, ha⟩
    by_cases h : i = j
    · subst h; exact .inl hb
    · exact .inr ⟨ha i (Nat.le_refl _) (by omega), j, by omega, hb, fun m h1 h2 => ha m (by omega) h2⟩
  · rintro (hb | ⟨ha, j, hj, hb, hm⟩)
    · exact ⟨i, Nat.le_refl _, hb, fun m h1 h2 => by omega⟩
    · refine ⟨j, by omega, hb, fun m h1 h2 => ?_⟩
      by_cases h : m = i
      · subst h; exact ha
      · exact hm m (by omega) h2
def semK (L : Nat → Nat) (k n : Int) (ks : List (Nat → Prop)) (i : Nat) : Prop :=
  if k = 1 then True
  else if k = 3 then L i >>> n.toNat &&& 1 = 1
  else if k = 4 then ¬ ks.getD 0 (fun _ => False) i
  else if k = 5 then ks.getD 0 (fun _ => False) i ∧ ks.getD 1 (fun _ => False) i
  else if k = 6 then ks.getD 0 (fun _ => False) i ∨ ks.getD 1 (fun _ => False) i
  else if k = 7 then ks.getD 0 (fun _ => False) (i + 1)
  else if k = 8 then Til (ks.getD 0 (fun _ => False)) (ks.getD 1 (fun _ => False)) i
  else if k = 9 then ¬ Til (fun j => ¬ ks.getD 0 (fun _ => False) j) (fun j => ¬ ks.getD 1 (fun _ => False) j) i
  else if k = 10 then Til (fun _ => True) (ks.getD 0 (fun _ => False)) i
  else if k = 11 then ¬ Til (fun _ => True) (fun j => ¬ ks.getD 0 (fun _ => False) j) i
  else False
mutual
def sem (L : Nat → Nat) : Ltl → Nat → Prop
  | .mk k n kids => semK L k n (sems L kids)
def sems (L : Nat → Nat) : List Ltl → List (Nat → Prop)
  | [] => []
  | x :: r => sem L x :: sems L r
end
theorem Til.shift {A B A' B' : Nat → Prop} {i i' : Nat} (ha : ∀ j, A (i + j) ↔ A' (i' + j)) (hb : ∀ j, B (i + j) ↔ B' (i' + j)) : Til A B i ↔ Til A' B' i' := by
  constructor
  · rintro ⟨j, hj, h1, h2⟩
    obtain ⟨d, rfl⟩ := Nat.exists_eq_add_of_le hj
    refine ⟨i' + d, by omega, (hb d).1 h1, fun m hm hm2 => ?_⟩
    obtain ⟨e, rfl⟩ := Nat.exists_eq_add_of_le hm
    exact (ha e).1 (h2 (i + e) (by omega) (by omega))
  · rintro ⟨j, hj, h1, h2⟩
    obtain ⟨d, rfl⟩ := Nat.exists_eq_add_of_le hj
    refine ⟨i + d, by omega, (hb d).2 h1, fun m hm hm2 => ?_⟩
    obtain ⟨e, rfl⟩ := Nat.exists_eq_add_of_le hm
    exact (ha e).2 (h2 (i' + e) (by omega) (by omega))
section
variable {s l : List Nat} {a b : List Bool} {A B : Nat → Prop} {N : Nat}
end

/- WHAT HOLDS -/
theorem notB {xs : List Bool} {N i : Nat} (hl : xs.length = N) (hi : i < N) : ((xs.map (!·)).getD i false = true ↔ ¬ xs.getD i false = true) := by
  rw [List.getD_eq_getElem?_getD, List.getD_eq_getElem?_getD, List.getElem?_map, List.getElem?_eq_getElem (by omega)]
  simp
end Go.Proofs.Ytllpfgcngokhnaa

/-
  Package push, plain: nots pushed down, plain, slim; what they mean and what forms they give.
-/
set_option linter.unusedVariables false
set_option linter.unusedSimpArgs false
namespace Go.Proofs.Ytllpfgcngokhnaa
open Go.RowKit

/-- induction over right formulas -/
theorem wf_ind {M : Ltl → Prop} (h1 : M (.mk 1 0 [])) (h2 : M (.mk 2 0 [])) (h3 : ∀ n, 0 ≤ n → n ≤ 63 → M (.mk 3 n []))
    (hu : ∀ k a, k = 4 ∨ k = 7 ∨ k = 10 ∨ k = 11 → wfT a → M a → M (.mk k 0 [a]))
    (hb : ∀ k a b, k = 5 ∨ k = 6 ∨ k = 8 ∨ k = 9 → wfT a → wfT b → M a → M b → M (.mk k 0 [a, b])) : ∀ t, wfT t → M t := by
  have key : ∀ m (t : Ltl), t.nodes ≤ m → wfT t → M t := by
    intro m
    induction m with
    | zero => intro t ht; have := t.nodes_pos; omega
    | succ m ih =>
      rintro ⟨k, n, kids⟩ ht hw
      simp only [wfT] at hw
      simp only [Ltl.nodes] at ht
      obtain ⟨hk, hn0, hn1, hn2, hks⟩ := hw
      unfold kidsK at hk
      split at hk
      · rename_i hc
        have : kids = [] := List.eq_nil_of_length_eq_zero (by omega)
        subst this
        rcases hc with rfl | rfl | rfl
        · rw [hn2 (by decide)]; exact h1
        · rw [hn2 (by decide)]; exact h2
        · exact h3 n hn0 hn1
      · split at hk
        · rename_i hc
          rw [hn2 (by omega)]
          match kids, hk with
          | [a], _ =>
            simp only [Ltl.nodesL, wfTs] at ht hks
            exact hu k a hc hks.1 (ih a (by omega) hks.1)
        · split at hk
          · rename_i hc
            rw [hn2 (by omega)]
            match kids, hk with
            | [a, b], _ =>
              simp only [Ltl.nodesL, wfTs] at ht hks
              have := a.nodes_pos
              have := b.nodes_pos
              exact hb k a b hc hks.1 hks.2.1 (ih a (by omega) hks.1) (ih b (by omega) hks.2.1)
          · omega
  exact fun t hw => key t.nodes t (Nat.le_refl _) hw
/- DEPTH, AND WHAT Check ASKS -/
mutual
def Ltl.deep : Ltl → Nat
  | .mk _ _ kids => 1 + Ltl.deepL kids
def Ltl.deepL : List Ltl → Nat
  | [] => 0
  | x :: r => max x.deep (Ltl.deepL r)
end
mutual
theorem chk_size : ∀ (t : Ltl) (d c : Int), (chkF t d c).1 = 0 → (chkF t d c).2 = c + t.nodes ∧ d + t.deep ≤ 21
  | .mk k n kids, d, c, h => by
    simp only [chkF] at h ⊢
    split at h
    · cases h
    · rename_i h1
      rw [if_neg h1]
      split at h
      · cases h
      · rename_i h2
        rw [if_neg h2]
        split at h
        · cases h
        · rename_i h3
          rw [if_neg h3]
          have := chks_size kids (d + 1) (c + 1) (by omega) h
          simp only [Ltl.nodes, Ltl.deep]
          omega
theorem chks_size : ∀ (l : List Ltl) (d c : Int), d ≤ 21 → (chkFL l d c).1 = 0 → (chkFL l d c).2 = c + Ltl.nodesL l ∧ d + Ltl.deepL l ≤ 21
  | [], d, c, hd, h => by simp only [chkFL, Ltl.nodesL, Ltl.deepL]; omega
  | x :: r, d, c, hd, h => by
    simp only [chkFL] at h ⊢
    split at h
    · rename_i h1; exact absurd h h1
    · rename_i h1
      rw [if_neg h1]
      have h2 := chk_size x d c (by simpa using h1)
      have h3 := chks_size r d _ hd h
      simp only [Ltl.nodesL, Ltl.deepL]
      omega
end
mutual
theorem chk_of : ∀ (t : Ltl) (d c : Int), wfT t → c + t.nodes ≤ 60 → d + t.deep ≤ 21 → (chkF t d c).1 = 0
  | .mk k n kids, d, c, hw, h1, h2 => by
    simp only [wfT] at hw
    simp only [Ltl.nodes, Ltl.deep] at h1 h2
    simp only [chkF]
    have h3 : ¬ (kidsK k ≠ kids.length ∨ n < 0 ∨ n > 63 ∨ (k ≠ 3 ∧ n ≠ 0)) := by
      intro h
      rcases h with h | h | h | h
      · exact h hw.1
      · omega
      · omega
      · exact h.2 (hw.2.2.2.1 h.1)
    rw [if_neg (by omega), if_neg (by omega), if_neg h3]
    exact chks_of kids _ _ hw.2.2.2.2 (by omega) (by omega)
theorem chks_of : ∀ (l : List Ltl) (d c : Int), wfTs l → c + Ltl.nodesL l ≤ 60 → d + Ltl.deepL l ≤ 21 → (chkFL l d c).1 = 0
  | [], d, c, _, _, _ => by simp only [chkFL]
  | x :: r, d, c, hw, h1, h2 => by
    simp only [wfTs] at hw
    simp only [Ltl.nodesL, Ltl.deepL] at h1 h2
    have h3 := chk_of x d c hw.1 (by omega) (by omega)
    have h4 := chk_size x d c h3
    simp only [chkFL]
    rw [if_neg (by simp [h3]), h4.1]
    exact chks_of r d _ hw.2 (by omega) (by omega)
end
theorem chk_iff (t : Ltl) : (chkF t 1 0).1 = 0 ↔ wfT t ∧ t.nodes ≤ 60 ∧ t.deep ≤ 20 := by
  constructor
  · intro h
    have h1 := chk_size t 1 0 h
    have h2 := chkF_le t 1 0 h
    exact ⟨chkF_wf t 1 0 h, by omega, by omega⟩
  · rintro ⟨h1, h2, h3⟩
    exact chk_of t 1 0 h1 (by omega) (by omega)

/- EQUALITY -/
mutual
def sameB : Ltl → Ltl → Bool
  | .mk k n l, .mk k' n' l' => k == k' && n == n' && sameBs l l'
def sameBs : List Ltl → List Ltl → Bool
  | [], [] => true
  | x :: r, y :: q => sameB x y && sameBs r q
  | [], _ :: _ => false
  | _ :: _, [] => false
end
mutual
theorem sameB_iff : ∀ (a b : Ltl), sameB a b = true ↔ a = b
  | .mk k n l, .mk k' n' l' => by
    simp only [sameB, Bool.and_eq_true, beq_iff_eq, sameBs_iff l l', Ltl.mk.injEq]
    exact and_assoc
theorem sameBs_iff : ∀ (a b : List Ltl), sameBs a b = true ↔ a = b
  | [], [] => by simp [sameBs]
  | x :: r, y :: q => by simp only [sameBs, Bool.and_eq_true, sameB_iff x y, sameBs_iff r q, List.cons.injEq]
  | [], _ :: _ => by simp [sameBs]
  | _ :: _, [] => by simp [sameBs]
end
theorem sameB_self (a : Ltl) : sameB a a = true := (sameB_iff a a).2 rfl

/- THE MEANING, KIND BY KIND -/
section
variable {L : Nat → Nat} {n : Int} {a b : Ltl} {i : Nat}
theorem sem1 : sem L (.mk 1 n []) i ↔ True := by simp [sem, sems, semK]
theorem sem2 : sem L (.mk 2 n []) i ↔ False := by simp [sem, sems, semK]
theorem sem3 : sem L (.mk 3 n []) i ↔ L i >>> n.toNat &&& 1 = 1 := by simp [sem, sems, semK]
theorem sem4 : sem L (.mk 4 n [a]) i ↔ ¬ sem L a i := by simp [sem, sems, semK]
theorem sem5 : sem L (.mk 5 n [a, b]) i ↔ sem L a i ∧ sem L b i := by simp [sem, sems, semK]
theorem sem6 : sem L (.mk 6 n [a, b]) i ↔ sem L a i ∨ sem L b i := by simp [sem, sems, semK]
theorem sem7 : sem L (.mk 7 n [a]) i ↔ sem L a (i + 1) := by simp [sem, sems, semK]
theorem sem8 : sem L (.mk 8 n [a, b]) i ↔ Til (sem L a) (sem L b) i := by simp [sem, sems, semK]
theorem sem9 : sem L (.mk 9 n [a, b]) i ↔ ¬ Til (fun j => ¬ sem L a j) (fun j => ¬ sem L b j) i := by simp [sem, sems, semK]
theorem sem10 : sem L (.mk 10 n [a]) i ↔ Til (fun _ => True) (sem L a) i := by simp [sem, sems, semK]
theorem sem11 : sem L (.mk 11 n [a]) i ↔ ¬ Til (fun _ => True) (fun j => ¬ sem L a j) i := by simp [sem, sems, semK]
end
theorem Til.congr {A B A' B' : Nat → Prop} (ha : ∀ j, A j ↔ A' j) (hb : ∀ j, B j ↔ B' j) (i : Nat) : Til A B i ↔ Til A' B' i :=
  Til.shift (fun _ => ha _) (fun _ => hb _)

/- NOTS -/
end Go.Proofs.Ytllpfgcngokhnaa

