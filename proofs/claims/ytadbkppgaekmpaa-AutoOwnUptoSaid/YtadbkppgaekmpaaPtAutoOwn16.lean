import Derived.Test.YtadbkppgaekmpaaPtAutoOwn15
/-
  Lists with room behind them: roomy, kept, spoil; capacity; stores into a row whose cells need not be known.
-/
set_option linter.unusedVariables false
set_option linter.unusedSimpArgs false
namespace Go.Proofs.Ytadbkppgaekmpaa
open Go.RowKit

section
variable {P : Program} {Q : Exit → Act → World → Prop} {n : Nat} {σ : Sg} {w : World} {L rest : List Oper} {d : Nat} {ty : TypeId} {pos : String} {af : Array Edge} {g : Option (Nat × Bool)}
variable {α : Type} [Rep α] {e t : TypeId} {x0 : α} {bytes : Nat} {F : Nat → Prop}
/-- cap(x) -/
theorem WL.capS {x : Operand} {ao : Option Addr} {k cap : Nat} (hg : gd L σ ⟨some d, .call ⟨.builtin .cap, #[x], #[t]⟩, ty, pos, af, g⟩ = some true) (hd : Nat.ble (d + 1) n = true)
    (hx : ev σ x = some (.slice ao k cap)) [hs : IsS P t e] (h : WL P L Q rest n ((d, .int .i64 (cap : Int)) :: σ) w) : WL P L Q (⟨some d, .call ⟨.builtin .cap, #[x], #[t]⟩, ty, pos, af, g⟩ :: rest) n σ w := by
  refine WL.run hg hd (fun a ha => ?_) h
  simp [execOp, resolve, invoke, builtin, ha.ev hx, Builtin.cap_, run_underlying hs.ok, goInt]
/-- make([]T, 0, k) -/
theorem WL.makeC {x y : Operand} {k : Nat} {kl kc : IntKind} (hg : gd L σ ⟨some d, .makeSlice t x y, ty, pos, af, g⟩ = some true) (hd : Nat.ble (d + 1) n = true)
    (hx : ev σ x = some (.int kl 0)) (hy : ev σ y = some (.int kc (k : Int))) [hs : IsS P t e] [ht : IsT P e α] [hz : IsZ P e x0 bytes] (hb : k * bytes ≤ 281474976710656) (hm : k ≤ maxLen)
    (h : ∀ w', Own w' w.heap.size e Non (.slice (some ⟨w.heap.size, 0, none⟩) 0 k) ([] : List α) → w.grownBy w' none → WL P L Q rest n ((d, .slice (some ⟨w.heap.size, 0, none⟩) 0 k) :: σ) w') :
    WL P L Q (⟨some d, .makeSlice t x y, ty, pos, af, g⟩ :: rest) n σ w := by
  obtain ⟨i, z, h1, h2, h3, h4⟩ := hz.ok
  obtain ⟨i', h1', h5⟩ := IsT.info (P := P) (t := e) (α := α)
  obtain rfl : i = i' := Option.some.inj (h1.symm.trans h1')
  have hzs : z.cells.size = sz α := by have := Rep.len (h4 w Non); simpa using this
  have hmm := hm
  unfold maxLen at hmm
  have hb' : (i.bytes : Int) * (k : Int) ≤ 281474976710656 := by
    have h : ((k * bytes : Nat) : Int) ≤ 281474976710656 := by omega
    rw [h3, Int.mul_comm]; rwa [Int.natCast_mul] at h
  have hr := run_make (P := P) w t e i z hs.ok h1 h2 kl kc 0 k (Int.le_refl _) (by omega) hb' (by omega)
  simp only [Int.toNat_natCast, Int.toNat_zero] at hr
  have hown : Own (w.alloc (.cells (madeCells z.cells (k * i.size)) e)) w.heap.size e Non (.slice (some ⟨w.heap.size, 0, none⟩) 0 k) ([] : List α) := by
    refine .inr ⟨w.heap.size, 0, k, _, rfl, ⟨heap_alloc_new w _, Nat.le_refl _, fun h => h, by simp, hm, ?_, ?_⟩⟩
    · simp [madeCells, h5]
    · simpa using Elems.nil
  refine WL.run hg hd (fun a ha => ?_) (h _ hown (grown_alloc w _ none))
  simp [execOp, ha.ev hx, ha.ev hy, hr]
/-- append(x, ys...) where there is room -/
theorem WL.appIn {x y : Operand} {xs ys : List α} {ao : Option Addr} {b off cap cp B : Nat} (hg : gd L σ ⟨some d, .call ⟨.builtin .append, #[x, y], #[t, t]⟩, ty, pos, af, g⟩ = some true) (hd : Nat.ble (d + 1) n = true)
    (hx : ev σ x = some (.slice (some ⟨b, off, none⟩) xs.length cp)) (hy : ev σ y = some (.slice ao ys.length cap)) [hs : IsS P t e] [ht : IsT P e α] [hz : IsZ P e x0 bytes] (hown : Own w B e F (.slice (some ⟨b, off, none⟩) xs.length cp) xs) (hsl : Src w F ao ys)
    (hroom : xs.length + ys.length ≤ cp)
    (h : ∀ w', Own w' B e F (.slice (some ⟨b, off, none⟩) (xs.length + ys.length) cp) (xs ++ ys) → w.grownBy w' (some b) → WL P L Q rest n ((d, .slice (some ⟨b, off, none⟩) (xs.length + ys.length) cp) :: σ) w') :
    WL P L Q (⟨some d, .call ⟨.builtin .append, #[x, y], #[t, t]⟩, ty, pos, af, g⟩ :: rest) n σ w := by
  obtain ⟨i, z, h1, h2, h3, h4⟩ := hz.ok
  obtain ⟨i', h1', h5⟩ := IsT.info (P := P) (t := e) (α := α)
  obtain rfl : i = i' := Option.some.inj (h1.symm.trans h1')
  obtain ⟨hnone, news, he, hc⟩ := hsl
  have hl := he.1
  have hne : ∀ u ∈ news, u.oneCell' = true := he.ones
  have news0 : ys.length = 0 → news = [] := fun h => List.eq_nil_of_length_eq_zero (by rw [hl, h, Nat.zero_mul])
  rcases hown with ⟨h0, _⟩ | ⟨g', off', cp', cur, h0, ho⟩
  · cases h0
  · obtain ⟨h01, _, rfl⟩ := Value.slice.inj h0
    simp only [Option.some.injEq, Addr.mk.injEq] at h01
    obtain ⟨rfl, rfl, _⟩ := h01
    have hfit : off + xs.length * sz α + news.length ≤ cur.size := by
      have h6 : (xs.length + ys.length) * sz α ≤ cp * sz α := Nat.mul_le_mul_right _ hroom
      have h7 := ho.fit
      rw [Nat.add_mul] at h6
      rw [hl]
      omega
    have hfst : (Builtin.firstCells (sz α) ys.length (.slice ao ys.length cap)).run P w = .ok news.toArray w := by
      cases ao with
      | none =>
        have : ys.length = 0 := by rw [hnone rfl]; rfl
        rw [news0 this]
        simp [Builtin.firstCells]
      | some b' =>
        by_cases hy0 : ys.length = 0
        · rw [news0 hy0, hy0]
          simp [Builtin.firstCells, loadCells, loadCellsFrom]
        · exact run_firstCells_some (P := P) w (sz α) ys.length b' ys.length cap news hl (hc b' rfl (fun e => hy0 (by rw [e]; rfl)))
    have hst := run_storeCells_at P b (off + xs.length * sz α) e news 0 cur w ho.blk (by simpa using hfit) hne
    simp only [Nat.add_zero] at hst
    have hrun : (Builtin.append_ #[t, t] ty #[.slice (some ⟨b, off, none⟩) xs.length cp, .slice ao ys.length cap]).run P w =
        .ok (.slice (some ⟨b, off, none⟩) (xs.length + ys.length) cp) (w.setRow b (cur.toList.take (off + xs.length * sz α) ++ news ++ cur.toList.drop (off + xs.length * sz α + news.length)).toArray) := by
      simp [Builtin.append_, run_underlying hs.ok, sizeOf, typeInfo, h1, Builtin.lenOf, hroom, h5, hfst, WideShapes.add_plain, hst]
    have hown' : Own (w.setRow b (cur.toList.take (off + xs.length * sz α) ++ news ++ cur.toList.drop (off + xs.length * sz α + news.length)).toArray) B e F (.slice (some ⟨b, off, none⟩) (xs.length + ys.length) cp) (xs ++ ys) := by
      refine .inr ⟨b, off, cp, _, by rw [List.length_append], ⟨setRow_heap w b cur _ e _ ho.blk, ho.ge, ho.nF, by simpa using hroom, ho.mx, ?_, ?_⟩⟩
      · have h7 := ho.fit
        simp only [List.size_toArray, List.length_append, List.length_take, List.length_drop, Array.length_toList]
        omega
      · have hh : ∀ k, F k → (w.setRow b (cur.toList.take (off + xs.length * sz α) ++ news ++ cur.toList.drop (off + xs.length * sz α + news.length)).toArray).heap[k]? = w.heap[k]? :=
          fun k hk => setRow_other w b k _ (fun e => ho.nF (e ▸ hk))
        have e1 : (((cur.toList.take (off + xs.length * sz α) ++ news ++ cur.toList.drop (off + xs.length * sz α + news.length)).toArray.toList.drop off).take ((xs ++ ys).length * sz α)) = (cur.toList.drop off).take (xs.length * sz α) ++ news := by
          rw [List.length_append, Nat.add_mul]
          have h8 : off + xs.length * sz α + ys.length * sz α ≤ cur.toList.length := by rw [hl] at hfit; rw [Array.length_toList]; exact hfit
          have h9 := take_drop_over (cur := cur.toList) hl h8
          rw [hl]
          exact h9
        rw [e1]
        exact (ho.el.mono hh fun _ h => h).append (he.mono hh fun _ h => h)
    refine WL.run hg hd (fun a ha => ?_) (h _ hown' (grown_setRow w b _))
    simp [execOp, resolve, invoke, builtin, ha.ev hx, ha.ev hy, hrun]
/-- x[i] = y in a row whose cells need not be known; elements of one cell -/
theorem WL.stRow {x ix y : Operand} {v : Value} {b off len cap : Nat} {cur : Array Value} {i : Nat} {kd : IntKind} {ty' : TypeId} {pos' : String} {af' : Array Edge} {g' : Option (Nat × Bool)}
    (hg : gd L σ ⟨some d, .indexAddr t x ix, ty, pos, af, g⟩ = some true) (hd : Nat.ble (d + 1) n = true)
    (hx : ev σ x = some (.slice (some ⟨b, off, none⟩) len cap)) (hi : ev σ ix = some (.int kd (i : Int))) [hs : IsS P t e] [ht : IsT P e α] (h1 : sz α = 1) (hlt : i < len) (hb : w.heap[b]? = some (.cells cur e (0, 0))) (hfit : off + i < cur.size)
    (hg' : ∀ p, gd L ((d, .pointer p) :: σ) ⟨none, .store e (.tmp d) y, ty', pos', af', g'⟩ = some true) (hy : ∀ p, ev ((d, .pointer p) :: σ) y = some v) (hv : v.oneCell' = true)
    (h : ∀ w' p cur', w'.heap[b]? = some (.cells cur' e (0, 0)) → cur'.size = cur.size → w.grownBy w' (some b) → WL P L Q rest n ((d, .pointer p) :: σ) w') :
    WL P L Q (⟨some d, .indexAddr t x ix, ty, pos, af, g⟩ :: ⟨none, .store e (.tmp d) y, ty', pos', af', g'⟩ :: rest) n σ w := by
  refine WL.idx (α := α) hg hd hx hi (by omega) (by omega) ?_
  rw [h1, Nat.mul_one, Int.toNat_natCast]
  have hst := run_storeCells_at P b (off + i) e [v] 0 cur w hb (by simp; omega) (by simpa using hv)
  simp only [Nat.add_zero] at hst
  have hvc : v.cells = #[v] := by cases v <;> first | rfl | (simp [Value.oneCell'] at hv)
  refine WL.runU (hg' _) (fun a ha => ?_) (h _ _ (cur.toList.take (off + i) ++ [v] ++ cur.toList.drop (off + i + [v].length)).toArray (setRow_heap w b cur _ e _ hb) ?_ (grown_setRow w b _))
  · have e1 := ha.ev (x := .tmp d) fnd_cons_eq
    have e2 := ha.ev (hy _)
    simp only [execOp, e1, e2, Instr.storeAt, Sem.run_bind, Instr.sureAddr, Sem.run_pure, Result.andThen_ok, storeVar, run_sizeOf (α := α), h1, hvc]
    simp
    simp [hst]
  · simp; omega
end

/-- a list with two of x behind it -/
structure Room (w : World) (B : Nat) (e : TypeId) (v : Value) (xs : List Int) (x : Int) : Prop where
  ok : ∃ b, v = .slice (some ⟨b, 0, none⟩) xs.length (xs.length + 3) ∧ Own w B e Non (.slice (some ⟨b, 0, none⟩) (xs ++ [x, x]).length (xs.length + 3)) (xs ++ [x, x])
theorem Room.own {w : World} {B : Nat} {e : TypeId} {v : Value} {xs : List Int} {x : Int} (h : Room w B e v xs x) : Own w B e Non v xs := by
  obtain ⟨b, rfl, ho⟩ := h.ok
  have := ho.take rfl (k := xs.length) (by simp)
  rwa [List.take_left'] at this
  rfl
theorem Room.keep {w w' : World} {B : Nat} {e : TypeId} {v : Value} {xs : List Int} {x : Int} (h : Room w B e v xs x) (hg : ∀ g, v.ownBlock = some g → w'.heap[g]? = w.heap[g]?) : Room w' B e v xs x := by
  obtain ⟨b, rfl, ho⟩ := h.ok
  exact ⟨b, rfl, ho.keep hg fun _ h => h.elim⟩
theorem Room.ext {w w' : World} {B : Nat} {e : TypeId} {v : Value} {xs : List Int} {x : Int} (h : Room w B e v xs x) (hE : Ext w w') : Room w' B e v xs x :=
  h.keep fun g hg => hE.block g (h.own.lt g hg).2.1

theorem roomy_ok (w0 : World) {F : Nat → Prop} {ao : Option Addr} {cap : Nat} {xs : List Int} (hs : Sl w0 F ao cap xs) (hF : ∀ b, F b → b < w0.heap.size) (x : Int) (hb : xs.length ≤ 1099511627776) :
    Rt Try.prog 15 [.slice ao xs.length cap, .int .i64 x].toArray w0 fun v w' => Room w' w0.heap.size 3 v xs x ∧ Ext w0 w' := by
  refine Rt.enter2 Try.func15 Try.ntmps15 rfl rfl ?_
  (repeat (first | (apply WL.add; rfl; rfl; rfl; rfl; omega; omega) | (apply WL.pure; rfl; rfl; rfl) | (apply WL.nil) | (apply EX.thenN) | (apply CW.seq) | (apply CW.region) | (apply WL.lenS; rfl; rfl; rfl)))
  refine WL.makeC (α := Int) (k := xs.length + 3) rfl rfl rfl rfl (by omega) (by unfold maxLen; omega) (fun w1 ho1 hg1 => ?_)
  have hE1 : Ext w0 w1 := (Below.refl _ _).grown hg1 (Nat.le_refl _) (fun k h => by cases h)
  (repeat (apply WL.pure; rfl; rfl; rfl))
  have hs1 : Sl w1 F ao cap xs := hs.mono (fun b hb => hE1.block b (hF b hb)) fun _ h => h
  refine WL.appIn (F := Non) (xs := []) (cap := cap) rfl rfl rfl rfl ho1 hs1.srcN (by simp) (fun w2 ho2 hg2 => ?_)
  have hE2 : Ext w0 w2 := hE1.grown hg2 hE1.size (fun k h => by cases h; exact Nat.le_refl _)
  simp only [List.nil_append, List.length_nil, Nat.zero_add] at ho2
  (repeat (apply WL.pure; rfl; rfl; rfl))
  refine WL.lit (F := Non) (ys := [x, x]) rfl rfl rfl rfl rfl (.cons (Rd.mkInt _ _ _) (.cons (Rd.mkInt _ _ _) .nil)) (by show 2 * 1 ≤ 16777216; decide) (fun _ h => h.elim) (fun w3 ho3 hg3 => ?_)
  have hE3 : Ext w0 w3 := hE2.grown hg3 hE2.size (fun k h => by cases h)
  have ho2' := ho2.keptN hg3 (fun g hg e => by cases e)
  refine WL.appIn (F := Non) (xs := xs) (ys := [x, x]) (cap := 2) rfl rfl (by simp only [List.length_nil, Nat.zero_add]; rfl) rfl ho2' ho3.src (by simp) (fun w4 ho4 hg4 => ?_)
  have hE4 : Ext w0 w4 := hE3.grown hg4 hE3.size (fun k h => by cases h; exact Nat.le_refl _)
  (repeat (first | (apply WL.pure; rfl; rfl; rfl) | (apply WL.nil) | (apply EX.thenN) | (apply CW.seq) | (apply CW.region) | (apply WL.lenS; rfl; rfl; rfl)))
  refine WL.cutHi (α := Int) xs.length rfl rfl rfl rfl rfl (by omega) ?_
  (repeat (first | (apply WL.pure; rfl; rfl; rfl) | (apply WL.nil) | (apply EX.thenN) | (apply CW.ret)))
  exact EX.ret1 rfl rfl ⟨⟨w0.heap.size, rfl, by simpa using ho4⟩, hE4⟩
theorem kept_ok (w0 : World) {B : Nat} {v : Value} {xs : List Int} {x : Int} (h : Room w0 B 3 v xs x) (hb : xs.length ≤ 1099511627776) :
    Rt Try.prog 18 [v, .int .i64 x].toArray w0 fun v w' => v = .bool true ∧ w0 = w' := by
  obtain ⟨b, rfl, ho⟩ := h.ok
  refine Rt.enter2 Try.func18 Try.ntmps18 rfl rfl ?_
  (repeat (first | (apply WL.add; rfl; rfl; rfl; rfl; omega; omega) | (apply WL.pure; rfl; rfl; rfl) | (apply WL.nil) | (apply EX.thenN) | (apply CW.seq) | (apply CW.region) | (apply WL.lenS; rfl; rfl; rfl)))
  refine WL.cutHi (α := Int) (xs.length + 2) (by omega) rfl rfl rfl rfl (by omega) ?_
  have hl : (xs ++ [x, x]).length = xs.length + 2 := by simp
  rw [hl] at ho
  (repeat (first | (apply WL.pure; rfl; rfl; rfl) | (apply WL.nil) | (apply EX.thenN) | (apply CW.seq) | (apply CW.region) | (apply WL.lenS; rfl; rfl; rfl)))
  refine WL.elemON (i := xs.length) rfl rfl rfl rfl rfl ho (by simp) (fun _ => rfl) (fun u q hu => ?_)
  obtain rfl := hu.int
  have e1 : (xs ++ [x, x])[xs.length]'(by simp) = x := by simp
  rw [e1]
  (repeat (apply WL.pure; rfl; rfl; rfl))
  rw [show (x == x) = true from beq_self_eq_true x]
  (repeat (first | (apply WL.add; rfl; rfl; rfl; rfl; omega; omega) | (apply WL.pure; rfl; rfl; rfl) | (apply WL.lenS; rfl; rfl; rfl)))
  refine WL.elemO rfl rfl rfl rfl rfl ho (by omega) (by simp) (fun _ => rfl) (fun u q hu => ?_)
  obtain rfl := hu.int
  have e2 : (xs ++ [x, x])[((xs.length : Int) + 1).toNat]'(by simp) = x := by
    have : ((xs.length : Int) + 1).toNat = xs.length + 1 := by omega
    simp [this]
  rw [e2]
  (repeat (first | (apply WL.pure; rfl; rfl; rfl) | (apply WL.nil) | (apply EX.thenN) | (apply CW.ret)))
  exact EX.ret1 rfl rfl ⟨by rw [show (x == x) = true from beq_self_eq_true x], rfl⟩
theorem spoil_ok (w0 : World) {B : Nat} {v : Value} {xs : List Int} (h : Own w0 B 3 Non v xs) (x : Int) :
    Rt Try.prog 22 [v, .int .i64 x].toArray w0 fun _ w' => w0.grownBy w' v.ownBlock := by
  refine Rt.enter2 Try.func22 Try.ntmps22 rfl rfl ?_
  have hv : ∃ ao cap, v = .slice ao xs.length cap ∧ cap ≤ maxLen ∧ (0 < cap → ∃ b off cur, ao = some ⟨b, off, none⟩ ∧ w0.heap[b]? = some (.cells cur 3 (0, 0)) ∧ off + cap ≤ cur.size) := by
    rcases h with ⟨rfl, rfl⟩ | ⟨b, off, cap, cur, rfl, ho⟩
    · exact ⟨none, 0, rfl, by simp [maxLen], fun h => absurd h (by simp)⟩
    · exact ⟨_, cap, rfl, ho.mx, fun _ => ⟨b, off, cur, rfl, ho.blk, by have := ho.fit; simpa [sz, Rep.sz] using this⟩⟩
  obtain ⟨ao, cap, rfl, hmx, hcap⟩ := hv
  unfold maxLen at hmx
  (repeat (first | (apply WL.pure; rfl; rfl; rfl) | (apply CW.seq) | (apply CW.region)))
  refine WL.capS rfl rfl rfl ?_
  skip
  refine WL.cutHi (α := Int) cap rfl rfl rfl rfl rfl (Nat.le_refl _) ?_
  (repeat (first | (apply WL.pure; rfl; rfl; rfl) | (apply WL.nil) | (apply EX.thenN) | (apply CW.seq) | (apply CW.region) | (apply WL.lenS; rfl; rfl; rfl) | (apply CW.block)))
  refine CW.loop (S := Nat) (fun k => [(0, .slice ao cap cap), (1, .int .i64 x), (10, .int .i64 cap), (11, .int .i64 k)])
    (fun k w => k ≤ cap ∧ w0.grownBy w (Value.ownBlock (.slice ao xs.length cap)) ∧ ∀ b off, ao = some ⟨b, off, none⟩ → 0 < cap → ∃ cur, w.heap[b]? = some (.cells cur 3 (0, 0)) ∧ off + cap ≤ cur.size) (fun k => cap - k) 0 (by repeat (first | exact trivial | refine ⟨rfl, ?_⟩)) ⟨by omega, ⟨rfl, rfl, rfl, Nat.le_refl _, fun _ _ _ => rfl⟩, ?_⟩ ?_
  · intro b off e hpos
    obtain ⟨b', off', cur, e', h1, h2⟩ := hcap hpos
    rw [e] at e'
    simp only [Option.some.injEq, Addr.mk.injEq] at e'
    obtain ⟨rfl, rfl, _⟩ := e'
    exact ⟨cur, h1, h2⟩
  rintro k w ⟨hk, hg, hb⟩
  (repeat (first | (apply WL.pure; rfl; rfl; rfl) | (apply WL.nil) | (apply EX.thenN) | (apply CW.seq) | (apply CW.region)))
  refine CW.cond rfl (fun h1 => ?_) (fun h1 => ?_)
  · simp at h1
    obtain ⟨b, off, cur0, rfl, h2, h3⟩ := hcap (by omega)
    obtain ⟨cur, h4, h5⟩ := hb b off rfl (by omega)
    (repeat (first | (apply WL.pure; rfl; rfl; rfl) | (apply WL.nil) | (apply EX.thenN) | (apply CW.seq) | (apply CW.region) | (apply CW.block) | (apply CW.skip)))
    refine WL.stRow (α := Int) rfl rfl rfl rfl rfl h1 h4 (by omega) (fun _ => rfl) (fun _ => rfl) rfl (fun w' p cur' h6 h7 hg2 => ?_)
    (repeat (first | (apply WL.add; rfl; rfl; rfl; rfl; omega; omega) | (apply WL.pure; rfl; rfl; rfl) | (apply WL.nil) | (apply EX.thenN) | (apply CW.region) | (apply EX.inN)))
    refine EX.back (k + 1) (by repeat (first | exact trivial | refine ⟨rfl, ?_⟩)) ⟨h1, ?_, fun b' off' e _ => ?_⟩ (by omega)
    · exact ⟨hg2.os.trans hg.os, hg2.tape.trans hg.tape, hg2.output.trans hg.output, Nat.le_trans hg.size hg2.size, fun k hk hne => (hg2.block k (Nat.lt_of_lt_of_le hk hg.size) hne).trans (hg.block k hk hne)⟩
    · simp only [Option.some.injEq, Addr.mk.injEq] at e
      obtain ⟨rfl, rfl, _⟩ := e
      exact ⟨cur', h6, by rw [h7]; exact h5⟩
  · simp at h1
    (repeat (first | (apply CW.exit) | (apply EX.thenX) | (apply EX.inX)))
    exact EX.end0 rfl hg
theorem lists_ok (w0 : World) {ao bo : Option Addr} {cap cap' : Nat} {xs ys : List (List Int)} (hs : Sl w0 (Old w0) ao cap xs) (ht : Sl w0 (Old w0) bo cap' ys) :
    Rt Try.prog 62 [.slice ao xs.length cap, .slice bo ys.length cap'].toArray w0 fun v w' => v = .bool (xs == ys) ∧ Ext w0 w' := by
  refine Rt.enter2 Try.func62 Try.ntmps62 rfl rfl ?_
  (repeat (first | (apply WL.pure; rfl; rfl; rfl) | (apply WL.nil) | (apply EX.thenN) | (apply CW.seq) | (apply CW.region)))
  refine WL.call rfl rfl rfl (equalFunc_ll w0 hs ht (fun w hE i hi hi' u u' hu hu' => ?_)) ?_
  · obtain ⟨a, b, rfl, h1⟩ := hu.sl
    obtain ⟨a', b', rfl, h2⟩ := hu'.sl
    have := equal_int w (h1.lift fun b hb => Nat.lt_of_lt_of_le hb hE.size) (h2.lift fun b hb => Nat.lt_of_lt_of_le hb hE.size)
    exact FnV.mk (cs := []) (by simpa using this)
  · rintro v w' ⟨rfl, hE⟩
    (repeat (first | (apply WL.pure; rfl; rfl; rfl) | (apply WL.nil) | (apply EX.thenN) | (apply CW.ret)))
    exact EX.ret1 rfl rfl ⟨rfl, hE⟩
end Go.Proofs.Ytadbkppgaekmpaa
/-
  roomy, kept and spoil at []uint64 (printed out of XRoom).
-/
set_option linter.unusedVariables false
set_option linter.unusedSimpArgs false
namespace Go.Proofs.Ytadbkppgaekmpaa
open Go.RowKit

/-- letters with two of x behind them -/
structure RoomU (w : World) (B : Nat) (e : TypeId) (v : Value) (xs : List Nat) (x : Nat) : Prop where
  ok : ∃ b, v = .slice (some ⟨b, 0, none⟩) xs.length (xs.length + 3) ∧ Own w B e Non (.slice (some ⟨b, 0, none⟩) (xs ++ [x, x]).length (xs.length + 3)) (xs ++ [x, x])
theorem RoomU.own {w : World} {B : Nat} {e : TypeId} {v : Value} {xs : List Nat} {x : Nat} (h : RoomU w B e v xs x) : Own w B e Non v xs := by
  obtain ⟨b, rfl, ho⟩ := h.ok
  have := ho.take rfl (k := xs.length) (by simp)
  rwa [List.take_left'] at this
  rfl
theorem RoomU.keep {w w' : World} {B : Nat} {e : TypeId} {v : Value} {xs : List Nat} {x : Nat} (h : RoomU w B e v xs x) (hg : ∀ g, v.ownBlock = some g → w'.heap[g]? = w.heap[g]?) : RoomU w' B e v xs x := by
  obtain ⟨b, rfl, ho⟩ := h.ok
  exact ⟨b, rfl, ho.keep hg fun _ h => h.elim⟩
theorem RoomU.ext {w w' : World} {B : Nat} {e : TypeId} {v : Value} {xs : List Nat} {x : Nat} (h : RoomU w B e v xs x) (hE : Ext w w') : RoomU w' B e v xs x :=
  h.keep fun g hg => hE.block g (h.own.lt g hg).2.1

theorem RoomU.low {w : World} {B B' : Nat} {e : TypeId} {v : Value} {xs : List Nat} {x : Nat} (h : RoomU w B e v xs x) (hB : B' ≤ B) : RoomU w B' e v xs x := by
  obtain ⟨b, h1, h2⟩ := h.ok
  exact ⟨b, h1, h2.low hB⟩
theorem roomyU_ok (w0 : World) {F : Nat → Prop} {ao : Option Addr} {cap : Nat} {xs : List Nat} (hs : Sl w0 F ao cap xs) (hF : ∀ b, F b → b < w0.heap.size) (x : Nat) (hx64 : x < 18446744073709551616) (hb : xs.length ≤ 1099511627776) :
    Rt Try.prog 16 [.slice ao xs.length cap, .int .u64 (x : Int)].toArray w0 fun v w' => RoomU w' w0.heap.size 33 v xs x ∧ Ext w0 w' := by
  refine Rt.enter2 Try.func16 Try.ntmps16 rfl rfl ?_
  (repeat (first | (apply WL.add; rfl; rfl; rfl; rfl; omega; omega) | (apply WL.pure; rfl; rfl; rfl) | (apply WL.nil) | (apply EX.thenN) | (apply CW.seq) | (apply CW.region) | (apply WL.lenS; rfl; rfl; rfl)))
  refine WL.makeC (α := Nat) (k := xs.length + 3) rfl rfl rfl rfl (by omega) (by unfold maxLen; omega) (fun w1 ho1 hg1 => ?_)
  have hE1 : Ext w0 w1 := (Below.refl _ _).grown hg1 (Nat.le_refl _) (fun k h => by cases h)
  (repeat (apply WL.pure; rfl; rfl; rfl))
  have hs1 : Sl w1 F ao cap xs := hs.mono (fun b hb => hE1.block b (hF b hb)) fun _ h => h
  refine WL.appIn (F := Non) (xs := []) (cap := cap) rfl rfl rfl rfl ho1 hs1.srcN (by simp) (fun w2 ho2 hg2 => ?_)
  have hE2 : Ext w0 w2 := hE1.grown hg2 hE1.size (fun k h => by cases h; exact Nat.le_refl _)
  simp only [List.nil_append, List.length_nil, Nat.zero_add] at ho2
  (repeat (apply WL.pure; rfl; rfl; rfl))
  refine WL.lit (F := Non) (ys := [x, x]) rfl rfl rfl rfl rfl (.cons ⟨_, rfl, rd_mkU64 _ _ x hx64⟩ (.cons ⟨_, rfl, rd_mkU64 _ _ x hx64⟩ .nil)) (by show 2 * 1 ≤ 16777216; decide) (fun _ h => h.elim) (fun w3 ho3 hg3 => ?_)
  have hE3 : Ext w0 w3 := hE2.grown hg3 hE2.size (fun k h => by cases h)
  have ho2' := ho2.keptN hg3 (fun g hg e => by cases e)
  refine WL.appIn (F := Non) (xs := xs) (ys := [x, x]) (cap := 2) rfl rfl (by simp only [List.length_nil, Nat.zero_add]; rfl) rfl ho2' ho3.src (by simp) (fun w4 ho4 hg4 => ?_)
  have hE4 : Ext w0 w4 := hE3.grown hg4 hE3.size (fun k h => by cases h; exact Nat.le_refl _)
  (repeat (first | (apply WL.pure; rfl; rfl; rfl) | (apply WL.nil) | (apply EX.thenN) | (apply CW.seq) | (apply CW.region) | (apply WL.lenS; rfl; rfl; rfl)))
  refine WL.cutHi (α := Nat) xs.length rfl rfl rfl rfl rfl (by omega) ?_
  (repeat (first | (apply WL.pure; rfl; rfl; rfl) | (apply WL.nil) | (apply EX.thenN) | (apply CW.ret)))
  exact EX.ret1 rfl rfl ⟨⟨w0.heap.size, rfl, by simpa using ho4⟩, hE4⟩
theorem keptU_ok (w0 : World) {B : Nat} {v : Value} {xs : List Nat} {x : Nat} (h : RoomU w0 B 33 v xs x) (hb : xs.length ≤ 1099511627776) :
    Rt Try.prog 51 [v, .int .u64 (x : Int)].toArray w0 fun v w' => v = .bool true ∧ w0 = w' := by
  obtain ⟨b, rfl, ho⟩ := h.ok
  refine Rt.enter2 Try.func51 Try.ntmps51 rfl rfl ?_
  (repeat (first | (apply WL.add; rfl; rfl; rfl; rfl; omega; omega) | (apply WL.pure; rfl; rfl; rfl) | (apply WL.nil) | (apply EX.thenN) | (apply CW.seq) | (apply CW.region) | (apply WL.lenS; rfl; rfl; rfl)))
  refine WL.cutHi (α := Nat) (xs.length + 2) (by omega) rfl rfl rfl rfl (by omega) ?_
  have hl : (xs ++ [x, x]).length = xs.length + 2 := by simp
  rw [hl] at ho
  (repeat (first | (apply WL.pure; rfl; rfl; rfl) | (apply WL.nil) | (apply EX.thenN) | (apply CW.seq) | (apply CW.region) | (apply WL.lenS; rfl; rfl; rfl)))
  refine WL.elemON (i := xs.length) rfl rfl rfl rfl rfl ho (by simp) (fun _ => rfl) (fun u q hu => ?_)
  obtain ⟨rfl, _⟩ := hu.u64
  have e1 : (xs ++ [x, x])[xs.length]'(by simp) = x := by simp
  rw [e1]
  (repeat (apply WL.pure; rfl; rfl; rfl))
  rw [show ((x : Int) == (x : Int)) = true from beq_self_eq_true (x : Int)]
  (repeat (first | (apply WL.add; rfl; rfl; rfl; rfl; omega; omega) | (apply WL.pure; rfl; rfl; rfl) | (apply WL.lenS; rfl; rfl; rfl)))
  refine WL.elemO rfl rfl rfl rfl rfl ho (by omega) (by simp) (fun _ => rfl) (fun u q hu => ?_)
  obtain ⟨rfl, _⟩ := hu.u64
  have e2 : (xs ++ [x, x])[((xs.length : Int) + 1).toNat]'(by simp) = x := by
    have : ((xs.length : Int) + 1).toNat = xs.length + 1 := by omega
    simp [this]
  rw [e2]
  (repeat (first | (apply WL.pure; rfl; rfl; rfl) | (apply WL.nil) | (apply EX.thenN) | (apply CW.ret)))
  exact EX.ret1 rfl rfl ⟨by rw [show ((x : Int) == (x : Int)) = true from beq_self_eq_true (x : Int)], rfl⟩
theorem spoilU_ok (w0 : World) {B : Nat} {v : Value} {xs : List Nat} (h : Own w0 B 33 Non v xs) (x : Nat) :
    Rt Try.prog 23 [v, .int .u64 (x : Int)].toArray w0 fun _ w' => w0.grownBy w' v.ownBlock := by
  refine Rt.enter2 Try.func23 Try.ntmps23 rfl rfl ?_
  have hv : ∃ ao cap, v = .slice ao xs.length cap ∧ cap ≤ maxLen ∧ (0 < cap → ∃ b off cur, ao = some ⟨b, off, none⟩ ∧ w0.heap[b]? = some (.cells cur 33 (0, 0)) ∧ off + cap ≤ cur.size) := by
    rcases h with ⟨rfl, rfl⟩ | ⟨b, off, cap, cur, rfl, ho⟩
    · exact ⟨none, 0, rfl, by simp [maxLen], fun h => absurd h (by simp)⟩
    · exact ⟨_, cap, rfl, ho.mx, fun _ => ⟨b, off, cur, rfl, ho.blk, by have := ho.fit; simpa [sz, Rep.sz] using this⟩⟩
  obtain ⟨ao, cap, rfl, hmx, hcap⟩ := hv
  unfold maxLen at hmx
  (repeat (first | (apply WL.pure; rfl; rfl; rfl) | (apply CW.seq) | (apply CW.region)))
  refine WL.capS rfl rfl rfl ?_
  skip
  refine WL.cutHi (α := Nat) cap rfl rfl rfl rfl rfl (Nat.le_refl _) ?_
  (repeat (first | (apply WL.pure; rfl; rfl; rfl) | (apply WL.nil) | (apply EX.thenN) | (apply CW.seq) | (apply CW.region) | (apply WL.lenS; rfl; rfl; rfl) | (apply CW.block)))
  refine CW.loop (S := Nat) (fun k => [(0, .slice ao cap cap), (1, .int .u64 (x : Int)), (10, .int .i64 cap), (11, .int .i64 k)])
    (fun k w => k ≤ cap ∧ w0.grownBy w (Value.ownBlock (.slice ao xs.length cap)) ∧ ∀ b off, ao = some ⟨b, off, none⟩ → 0 < cap → ∃ cur, w.heap[b]? = some (.cells cur 33 (0, 0)) ∧ off + cap ≤ cur.size) (fun k => cap - k) 0 (by repeat (first | exact trivial | refine ⟨rfl, ?_⟩)) ⟨by omega, ⟨rfl, rfl, rfl, Nat.le_refl _, fun _ _ _ => rfl⟩, ?_⟩ ?_
  · intro b off e hpos
    obtain ⟨b', off', cur, e', h1, h2⟩ := hcap hpos
    rw [e] at e'
    simp only [Option.some.injEq, Addr.mk.injEq] at e'
    obtain ⟨rfl, rfl, _⟩ := e'
    exact ⟨cur, h1, h2⟩
  rintro k w ⟨hk, hg, hb⟩
  (repeat (first | (apply WL.pure; rfl; rfl; rfl) | (apply WL.nil) | (apply EX.thenN) | (apply CW.seq) | (apply CW.region)))
  refine CW.cond rfl (fun h1 => ?_) (fun h1 => ?_)
  · simp at h1
    obtain ⟨b, off, cur0, rfl, h2, h3⟩ := hcap (by omega)
    obtain ⟨cur, h4, h5⟩ := hb b off rfl (by omega)
    (repeat (first | (apply WL.pure; rfl; rfl; rfl) | (apply WL.nil) | (apply EX.thenN) | (apply CW.seq) | (apply CW.region) | (apply CW.block) | (apply CW.skip)))
    refine WL.stRow (α := Nat) rfl rfl rfl rfl rfl h1 h4 (by omega) (fun _ => rfl) (fun _ => rfl) rfl (fun w' p cur' h6 h7 hg2 => ?_)
    (repeat (first | (apply WL.add; rfl; rfl; rfl; rfl; omega; omega) | (apply WL.pure; rfl; rfl; rfl) | (apply WL.nil) | (apply EX.thenN) | (apply CW.region) | (apply EX.inN)))
    refine EX.back (k + 1) (by repeat (first | exact trivial | refine ⟨rfl, ?_⟩)) ⟨h1, ?_, fun b' off' e _ => ?_⟩ (by omega)
    · exact ⟨hg2.os.trans hg.os, hg2.tape.trans hg.tape, hg2.output.trans hg.output, Nat.le_trans hg.size hg2.size, fun k hk hne => (hg2.block k (Nat.lt_of_lt_of_le hk hg.size) hne).trans (hg.block k hk hne)⟩
    · simp only [Option.some.injEq, Addr.mk.injEq] at e
      obtain ⟨rfl, rfl, _⟩ := e
      exact ⟨cur', h6, by rw [h7]; exact h5⟩
  · simp at h1
    (repeat (first | (apply CW.exit) | (apply EX.thenX) | (apply EX.inX)))
    exact EX.end0 rfl hg
end Go.Proofs.Ytadbkppgaekmpaa
/-
  Lists of lists with room behind each.
-/
set_option linter.unusedVariables false
set_option linter.unusedSimpArgs false
namespace Go.Proofs.Ytadbkppgaekmpaa
open Go.RowKit

structure RoomN (w : World) (B : Nat) (v : Value) (vs : List Raw) (xs : List (List Int)) : Prop where
  out : Own w B 22 Non v vs
  len : vs.length = xs.length
  inn : ∀ i (h : i < vs.length) (h' : i < xs.length), Room w B 3 vs[i].v xs[i] 77
  dis : ∀ i j (hi : i < vs.length) (hj : j < vs.length), i ≠ j → ∀ g, vs[i].v.ownBlock = some g → vs[j].v.ownBlock = some g → False
  dio : ∀ i (hi : i < vs.length) g, vs[i].v.ownBlock = some g → v.ownBlock = some g → False
theorem RoomN.own {w : World} {B : Nat} {v : Value} {vs : List Raw} {xs : List (List Int)} (h : RoomN w B v vs xs) : OwnN w B 22 3 v vs xs :=
  ⟨h.out, h.len, fun i hi hi' => (h.inn i hi hi').own, h.dis, h.dio⟩
theorem RoomN.ext {w w' : World} {B : Nat} {v : Value} {vs : List Raw} {xs : List (List Int)} (h : RoomN w B v vs xs) (hE : Ext w w') : RoomN w' B v vs xs :=
  ⟨h.out.extN hE, h.len, fun i hi hi' => (h.inn i hi hi').ext hE, h.dis, h.dio⟩
theorem RoomN.nil {w : World} {B : Nat} : RoomN w B (.slice none 0 0) [] [] := ⟨Own.nil, rfl, fun i hi => absurd hi (by simp), fun i j hi => absurd hi (by simp), fun i hi => absurd hi (by simp)⟩
theorem Room.low {w : World} {B B' : Nat} {e : TypeId} {v : Value} {xs : List Int} {x : Int} (h : Room w B e v xs x) (hB : B' ≤ B) : Room w B' e v xs x := by
  obtain ⟨b, h1, h2⟩ := h.ok
  exact ⟨b, h1, h2.low hB⟩
theorem RoomN.app {w w1 w2 : World} {B : Nat} {v v' r : Value} {vs : List Raw} {xs : List (List Int)} {x : List Int} (h : RoomN w B v vs xs) (hB : B ≤ w.heap.size) (hr : Room w1 w.heap.size 3 r x 77) (hE : Ext w w1)
    (ho : Own w2 B 22 Non v' (vs ++ [⟨r⟩])) (hg : w1.grownBy w2 v.ownBlock) (hnb : ∀ g, v'.ownBlock = some g → v.ownBlock = some g ∨ w1.heap.size ≤ g) : RoomN w2 B v' (vs ++ [⟨r⟩]) (xs ++ [x]) := by
  have hold : ∀ j (hj : j < vs.length), ∀ g, vs[j].v.ownBlock = some g → g < w.heap.size := fun j hj g hg => ((h.inn j hj (by rw [← h.len]; exact hj)).own.lt g hg).2.1
  have holdv : ∀ g, v.ownBlock = some g → g < w.heap.size := fun g hg => (h.out.lt g hg).2.1
  have hnew : ∀ g, r.ownBlock = some g → w.heap.size ≤ g ∧ g < w1.heap.size := fun g hg => ⟨(hr.own.lt g hg).1, (hr.own.lt g hg).2.1⟩
  have hsz := hE.size
  refine ⟨ho, by simp [h.len], fun i hi hi' => ?_, fun i j hi hj hne g h1 h2 => ?_, fun i hi g h1 h2 => ?_⟩
  · by_cases e : i < vs.length
    · rw [List.getElem_append_left e, List.getElem_append_left (by rw [← h.len]; exact e)]
      have h0 := (h.inn i e (by rw [← h.len]; exact e))
      refine (h0.ext hE).keep fun g hg' => hg.block g (Nat.lt_of_lt_of_le (hold i e g hg') hsz) (fun e2 => h.dio i e g hg' e2.symm)
    · have : i = vs.length := by simp at hi; omega
      subst this
      have e2 : (xs ++ [x])[vs.length]'hi' = x := by simp [h.len]
      rw [e2]
      simp only [List.getElem_concat_length]
      refine (hr.low hB).keep fun g hg' => hg.block g (hnew g hg').2 (fun e2 => ?_)
      have := holdv g e2.symm
      have := (hnew g hg').1
      omega
  · by_cases ei : i < vs.length <;> by_cases ej : j < vs.length
    · rw [List.getElem_append_left ei] at h1
      rw [List.getElem_append_left ej] at h2
      exact h.dis i j ei ej hne g h1 h2
    · have : j = vs.length := by simp at hj; omega
      subst this
      rw [List.getElem_append_left ei] at h1
      simp only [List.getElem_concat_length] at h2
      have := hold i ei g h1
      have := (hnew g h2).1
      omega
    · have : i = vs.length := by simp at hi; omega
      subst this
      rw [List.getElem_append_left ej] at h2
      simp only [List.getElem_concat_length] at h1
      have := hold j ej g h2
      have := (hnew g h1).1
      omega
    · simp at hi hj; omega
  · by_cases ei : i < vs.length
    · rw [List.getElem_append_left ei] at h1
      rcases hnb g h2 with h3 | h3
      · exact h.dio i ei g h1 h3
      · have := hold i ei g h1; omega
    · have : i = vs.length := by simp at hi; omega
      subst this
      simp only [List.getElem_concat_length] at h1
      have h4 := hnew g h1
      rcases hnb g h2 with h3 | h3
      · have := holdv g h3; omega
      · omega

theorem len_edges : ∀ (g : List (List Int)) (i : Nat) (h : i < g.length), g[i].length ≤ edges g
  | [], i, h => absurd h (by simp)
  | l :: g, 0, h => by simp [edges]
  | l :: g, i + 1, h => by
    have := len_edges g i (by simpa using h)
    simp only [edges, List.map_cons, List.sum_cons, List.getElem_cons_succ] at this ⊢
    omega

theorem RoomN.keep {w w' : World} {B : Nat} {v : Value} {vs : List Raw} {xs : List (List Int)} (h : RoomN w B v vs xs) (hk : ∀ b, B ≤ b → b < w.heap.size → w'.heap[b]? = w.heap[b]?) : RoomN w' B v vs xs :=
  ⟨h.out.keep (fun g hg => hk g (h.out.lt g hg).1 (h.out.lt g hg).2.1) (fun _ h => h.elim), h.len, fun i hi hi' => (h.inn i hi hi').keep fun g hg => hk g ((h.inn i hi hi').own.lt g hg).1 ((h.inn i hi hi').own.lt g hg).2.1, h.dis, h.dio⟩
end Go.Proofs.Ytadbkppgaekmpaa
/-
  Drawn regions with a chain of changes of memory and one more change (e) that may come anywhere among them. Over any program.
-/
set_option linter.unusedVariables false
set_option linter.unusedSimpArgs false
namespace Go.Proofs.Ytadbkppgaekmpaa
open Go.RowKit

def chnB (ops : Array Oper) (e : Nat) (r : List (Nat × Bool)) : List Nat → Array Bool → Bool
  | [], listed => ordB ops ((e, false) :: r) listed
  | i :: c, listed => (Region.ready .any ops listed).all (fun j => j == i || j == e) && !(Region.ready .any ops listed).isEmpty && chnB ops e r c (listed.setIfInBounds i true) &&
      ordB ops ((i :: c).map (fun j => (j, false)) ++ r) (listed.setIfInBounds e true)
def ordChB (ops : Array Oper) (e : Nat) (c : List Nat) (r : List (Nat × Bool)) : List (Nat × Bool) → Array Bool → Bool
  | [], listed => chnB ops e r c listed
  | (i, true) :: s, listed => (Region.ready .any ops listed).contains i && Region.free .any ops listed i && ordChB ops e c r s (listed.setIfInBounds i true)
  | (i, false) :: s, listed => decide (Region.ready .any ops listed = [i]) && ordChB ops e c r s (listed.setIfInBounds i true)
def chainOk (l : List Oper) (s : List (Nat × Bool)) (e : Nat) (c : List Nat) (r : List (Nat × Bool)) : Bool :=
  Region.noSelect l.toArray && decide (s.length + (c.length + 1) + r.length = l.length) && ordChB l.toArray e c r s (Array.replicate l.length false)

def wpChain (P : Program) (ops : List Oper) (S : World → Prop) (Q : Act → World → Prop) (e : Nat) (r : List (Nat × Bool)) : List Nat → Act → World → Prop
  | [], a, w => wpHL P ops S Q ((e, false) :: r) a w
  | i :: c, a, w => (∃ o, ops[i]? = some o ∧ (if Region.wanted o (yielded ops.toArray a.tmps) = true then o.wp P a w (fun a' w' => S w' ∧ wpChain P ops S Q e r c a' w') (fun x a w => x = .normal ∧ Q a w) else S w ∧ wpChain P ops S Q e r c (a.put o.dst undef) w)) ∧
      wpHL P ops S Q ((e, false) :: ((i :: c).map (fun j => (j, false)) ++ r)) a w
theorem wpChain_sound {P : Program} {ops : List Oper} {S : World → Prop} {Q : Act → World → Prop} (hs : Region.noSelect ops.toArray = true) (e : Nat) (r : List (Nat × Bool)) :
    ∀ (c : List Nat) (listed : Array Bool) (a : Act) (w : World), chnB ops.toArray e r c listed = true → S w → wpChain P ops S Q e r c a w → wpAnyH P .any ops.toArray (fun x a w => x = .normal ∧ Q a w) S (r.length + (c.length + 1)) listed a w
  | [], listed, a, w, hB, hS, h => by
    have := wpHL_sound (Q := Q) hs ((e, false) :: r) listed a w hB hS h
    simpa using this
  | i :: c, listed, a, w, hB, hS, ⟨⟨o, ho, h⟩, ⟨oe, hoe, he⟩⟩ => by
    simp only [chnB, Bool.and_eq_true, List.all_eq_true, Bool.not_eq_true', List.isEmpty_eq_false_iff, Bool.or_eq_true, beq_iff_eq] at hB
    obtain ⟨⟨⟨hin, hne⟩, hrec⟩, hord⟩ := hB
    have hlen : r.length + ((i :: c).length + 1) = (r.length + (c.length + 1)) + 1 := by simp; omega
    rw [hlen]
    refine wpAnyH_all rfl hne ?_
    intro j hj
    by_cases hji : j = i
    · subst hji
      have ho' : ops.toArray[j]? = some o := by simpa using ho
      unfold wpOp
      simp only [ho']
      split
      · rename_i hw
        rw [if_pos hw] at h
        exact .inl (Oper.wp_mono (fun a' w' h' => ⟨h'.1, wpChain_sound hs e r c _ _ _ hrec h'.1 h'.2⟩) (wp_exits (fun x a w hne hf => absurd hf.1 hne) h))
      · rename_i hw
        rw [if_neg hw] at h
        exact ⟨h.1, wpChain_sound hs e r c _ _ _ hrec h.1 h.2⟩
    · have hje : j = e := (hin j hj).resolve_left hji
      subst hje
      have ho' : ops.toArray[j]? = some oe := by simpa using hoe
      have hl2 : ((i :: c).map (fun j => (j, false)) ++ r).length = r.length + (c.length + 1) := by simp; omega
      unfold wpOp
      simp only [ho']
      split
      · rename_i hw
        rw [if_pos hw] at he
        refine .inl (Oper.wp_mono (fun a' w' h' => ⟨h'.1, ?_⟩) (wp_exits (fun x a w hne hf => absurd hf.1 hne) he))
        have := wpHL_sound (Q := Q) hs _ _ a' w' hord h'.1 h'.2
        rw [hl2] at this
        exact this
      · rename_i hw
        rw [if_neg hw] at he
        refine ⟨he.1, ?_⟩
        have := wpHL_sound (Q := Q) hs _ _ _ w hord he.1 he.2
        rw [hl2] at this
        exact this
theorem wpHLCh_sound {P : Program} {ops : List Oper} {S : World → Prop} {Q : Act → World → Prop} (hs : Region.noSelect ops.toArray = true) (e : Nat) (c : List Nat) (r : List (Nat × Bool)) :
    ∀ (s : List (Nat × Bool)) (listed : Array Bool) (a : Act) (w : World), ordChB ops.toArray e c r s listed = true → S w → wpHL P ops S (fun a w => S w ∧ wpChain P ops S Q e r c a w) s a w → wpAnyH P .any ops.toArray (fun x a w => x = .normal ∧ Q a w) S (r.length + (c.length + 1) + s.length) listed a w
  | [], listed, a, w, hB, hS, h => wpChain_sound hs e r c _ _ _ hB hS h.2
  | (i, true) :: s, listed, a, w, hB, hS, ⟨o, v, ho, hy, h⟩ => by
    simp only [ordChB, Bool.and_eq_true] at hB
    exact wpAnyH_take (by simpa using ho) hs hB.1.2 hB.1.1 (fun _ _ _ h => by cases h.1) hy hS (wpHLCh_sound hs e c r s _ _ _ hB.2 hS h)
  | (i, false) :: s, listed, a, w, hB, hS, ⟨o, ho, h⟩ => by
    simp only [ordChB, Bool.and_eq_true, decide_eq_true_eq] at hB
    refine wpAnyH_all hB.1 (by simp) ?_
    intro j hj
    have hji : j = i := by simpa using hj
    subst hji
    have ho' : ops.toArray[j]? = some o := by simpa using ho
    unfold wpOp
    simp only [ho']
    split
    · rename_i hw
      rw [if_pos hw] at h
      exact .inl (Oper.wp_mono (fun a' w' h' => ⟨h'.1, wpHLCh_sound hs e c r s _ _ _ hB.2 h'.1 h'.2⟩) (wp_exits (fun x a w hne hf => absurd hf.1 hne) h))
    · rename_i hw
      rw [if_neg hw] at h
      exact ⟨h.1, wpHLCh_sound hs e c r s _ _ _ hB.2 h.1 h.2⟩
def ChainQ (P : Program) (ops : List Oper) (S : World → Prop) (Q : Exit → Act → World → Prop) (e : Nat) (c : List Nat) (r : List (Nat × Bool)) : Exit → Act → World → Prop :=
  fun x a w => x = .normal ∧ (S w ∧ wpChain P ops S (fun a w => Q .normal a w) e r c a w)
section
variable {P : Program} {Q : Exit → Act → World → Prop} {n : Nat} {σ : Sg} {w : World} {L : List Oper} {S : World → Prop}
theorem CW.drawC {id : Nat} (S : World → Prop) (s : List (Nat × Bool)) (e : Nat) (c : List Nat) (r : List (Nat × Bool)) (hm : P.follows .mixedOrders = true) (hB : chainOk L s e c r = true) (hS : S (drew w)) (h : HL P L S (ChainQ P L S Q e c r) s n σ (drew w)) : CW P (.region id L.toArray true) Q n σ w := by
  unfold CW; unfold HL at h; intro a ha
  simp only [chainOk, Bool.and_eq_true, decide_eq_true_eq] at hB
  obtain ⟨⟨hs, hl⟩, hB⟩ := hB
  have h0 := h a ha
  have h0' : wpHL P L S (fun a w => S w ∧ wpChain P L S (fun a w => Q .normal a w) e r c a w) s a (Go.Proofs.Ytadbkppgaekmpaa.drew w) := by
    have : (fun a w => ChainQ P L S Q e c r .normal a w) = (fun a w => S w ∧ wpChain P L S (fun a w => Q .normal a w) e r c a w) := by funext a w; simp [ChainQ]
    rw [← this]; exact h0
  have h1 := wpHLCh_sound hs e c r s (Array.replicate L.length false) a (Go.Proofs.Ytadbkppgaekmpaa.drew w) hB hS h0'
  rw [show r.length + (c.length + 1) + s.length = L.length by omega] at h1
  have h2 := wp_region_held (id := id) (S := S) hm (w := w) (ops := L.toArray) (by simpa using h1)
  exact wp_mono h2 (fun x a' w' ⟨he, hq⟩ => by subst he; exact hq)
/-- the chain's next, or e -/
theorem EX.chain {e i : Nat} {c : List Nat} {r : List (Nat × Bool)} {o : Oper} (hS : S w) (ho : nthO L i = some o) (h1 : WL P L (ChainQ P L S Q e c r) [o] n σ w) (h2 : HL P L S Q ((e, false) :: ((i :: c).map (fun j => (j, false)) ++ r)) n σ w) : EX (ChainQ P L S Q e (i :: c) r) .normal n σ w := by
  unfold EX; unfold WL at h1; unfold HL at h2
  intro a ha
  refine ⟨rfl, hS, ?_, h2 a ha⟩
  rw [nthO_eq] at ho
  refine ⟨o, ho, ?_⟩
  have h2 : wpList P L.toArray (ChainQ P L S Q e c r) [o] a w := h1 a ha
  simp only [wpList] at h2
  split
  · rename_i hw
    rw [if_pos hw] at h2
    rcases h2 with h2 | ⟨_, hlets⟩
    · unfold Oper.wp at *
      generalize (execOp a.eval o).run P w = r at *
      cases r with
      | ok k w' =>
        cases k <;> simp only [Oper.upon] at h2 ⊢ <;> first
          | exact h2.2
          | exact h2
          | (refine Calls.mono h2 (fun e w'' he => ?_); cases e <;> first | exact he.2 | (exact absurd he.1 (by simp)) | (obtain ⟨_, _, hx⟩ := he; exact absurd hx.1 (by simp)))
          | exact Rows.mono h2 (fun _ _ he => he.2)
      | halt x w' => cases x <;> simp only [Oper.upon] at h2 ⊢ <;> first | exact h2 | (exact absurd h2.1 (by simp))
    · obtain ⟨_, _, hx⟩ := hlets
      exact absurd hx.1 (by simp)
  · rename_i hw
    rw [if_neg hw] at h2
    exact h2.2
theorem EX.chain0 {e : Nat} {r : List (Nat × Bool)} (hS : S w) (h : HL P L S Q ((e, false) :: r) n σ w) : EX (ChainQ P L S Q e [] r) .normal n σ w := by
  unfold EX; unfold HL at h
  exact fun a ha => ⟨rfl, hS, h a ha⟩
theorem HL.sub {τ : Sg} {ord : List (Nat × Bool)} (hs : Sub τ σ) (h : HL P L S Q ord n τ w) : HL P L S Q ord n σ w := by
  unfold HL at *
  exact fun a ha => h a (ha.sub hs)
end
end Go.Proofs.Ytadbkppgaekmpaa
/-
  Drawn regions with a chain of changes and an alloc that may come anywhere among them: one walk for all orders. Over any program.
-/
set_option linter.unusedVariables false
set_option linter.unusedSimpArgs false
namespace Go.Proofs.Ytadbkppgaekmpaa
open Go.RowKit

section
variable {P : Program} {n : Nat} {σ : Sg} {w : World} {L : List Oper}
theorem WL.mono1 {Q Q' : Exit → Act → World → Prop} {o : Oper} (hQ : ∀ x a w, Q x a w → x = .normal) (hm : ∀ a w, Q .normal a w → Q' .normal a w) (h : WL P L Q [o] n σ w) : WL P L Q' [o] n σ w := by
  unfold WL at *
  intro a ha
  have h2 := h a ha
  simp only [wpList] at h2 ⊢
  split
  · rename_i hw
    rw [if_pos hw] at h2
    rcases h2 with h2 | ⟨_, hl⟩
    · exact .inl (Oper.wp_mono (fun a' w' h' => hm _ _ h') (wp_exits (fun e a w hne hf => absurd (hQ _ _ _ hf) hne) h2))
    · obtain ⟨_, _, hx⟩ := hl
      exact absurd (hQ _ _ _ hx) (by simp)
  · rename_i hw
    rw [if_neg hw] at h2
    exact hm _ _ h2
theorem fnd_app {σ τ : Sg} {t : Nat} : fnd (σ ++ τ) t = match fnd σ t with | some v => some v | none => fnd τ t := by
  induction σ with
  | nil => rfl
  | cons x r ih =>
    obtain ⟨k, v⟩ := x
    show fnd ((k, v) :: (r ++ τ)) t = match fnd ((k, v) :: r) t with | some v => some v | none => fnd τ t
    by_cases h : k = t
    · subst h; rw [fnd_cons_eq, fnd_cons_eq]
    · rw [fnd_cons_ne h, fnd_cons_ne h]; exact ih
theorem Fr.toEnd {a : Act} {d : Nat} {v : Value} (h : Fr n ((d, v) :: σ) a) (hd : fnd σ d = none) : Fr n (σ ++ [(d, v)]) a := by
  refine ⟨h.size, h.defers, fun t u hu => h.slot t u ?_⟩
  rw [fnd_app] at hu
  by_cases e : d = t
  · subst e
    rw [hd] at hu
    rw [fnd_cons_eq]
    simpa [fnd_cons_eq] using hu
  · rw [fnd_cons_ne e]
    cases hx : fnd σ t with
    | some x => rw [hx] at hu; exact hu
    | none => rw [hx] at hu; simp only [fnd_cons_ne e] at hu; cases hu
/-- behind a step of the chain: one more slot -/
def StepA (S : World → Prop) (I : Sg → World → Option Nat → Prop) (n : Nat) (τ : Sg) (ob : Option Nat) : Exit → Act → World → Prop :=
  fun x a w => x = .normal ∧ S w ∧ ∃ σ, Fr n (σ ++ τ) a ∧ I σ w ob
theorem EX.stepA {S : World → Prop} {I : Sg → World → Option Nat → Prop} {τ : Sg} {ob : Option Nat} (hS : S w) (hI : I σ w ob) : EX (StepA S I n τ ob) .normal n (σ ++ τ) w := by
  unfold EX
  exact fun a ha => ⟨rfl, hS, σ, ha, hI⟩
theorem EX.chainA {Q : Exit → Act → World → Prop} {S : World → Prop} {e de : Nat} {c : List Nat} {r : List (Nat × Bool)} {t ty : TypeId} {pos : String} {af : Array Edge} {zs : List Value} [hz : IsZC P t zs] (hoe : nthO L e = some ⟨some de, .alloc t, ty, pos, af, none⟩) (hn : Nat.ble (de + 1) n = true)
    (I : Nat → Sg → World → Option Nat → Prop) (hde : ∀ i σ w ob, I i σ w ob → fnd σ de = none)
    (hal : ∀ i σ w, I i σ w none → S w → ∀ w', Blk w' w.heap.size t zs → Ext w w' → S w' ∧ I i σ w' (some w.heap.size))
    (hst : ∀ i (hi : i < c.length) σ w ob τ, I i σ w ob → S w → ∃ o, nthO L c[i] = some o ∧ WL P L (StepA S (I (i + 1)) n τ ob) [o] n (σ ++ τ) w)
    (hend : ∀ σ w b, I c.length σ w (some b) → S w → HL P L S Q r n (σ ++ [(de, .pointer (some ⟨b, 0, none⟩))]) w)
    (hI0 : I 0 σ w none) (hS : S w) : EX (ChainQ P L S Q e c r) .normal n σ w := by
  have aft : ∀ d k σ w b, d + k = c.length → I k σ w (some b) → S w → HL P L S Q ((c.drop k).map (fun j => (j, false)) ++ r) n (σ ++ [(de, .pointer (some ⟨b, 0, none⟩))]) w := by
    intro d
    induction d with
    | zero =>
      intro k σ w b hk hI hS
      obtain rfl : k = c.length := by omega
      rw [List.drop_length]
      exact hend σ w b hI hS
    | succ d ih =>
      intro k σ w b hk hI hS
      have hkl : k < c.length := by omega
      rw [List.drop_eq_getElem_cons hkl]
      obtain ⟨o, ho, hw⟩ := hst k hkl σ w (some b) [(de, .pointer (some ⟨b, 0, none⟩))] hI hS
      refine HL.mut ho (WL.mono1 (fun x a w h => h.1) (fun a w h => ?_) hw)
      obtain ⟨_, hS', σ', hF, hI'⟩ := h
      have := ih (k + 1) σ' w b (by omega) hI' hS'
      unfold HL at this
      exact ⟨rfl, hS', this a hF⟩
  have alc : ∀ k σ w, k ≤ c.length → I k σ w none → S w → HL P L S Q ((e, false) :: ((c.drop k).map (fun j => (j, false)) ++ r)) n σ w := by
    intro k σ w hk hI hS
    refine HL.mut hoe (WL.alloc rfl hn (fun w' hb hE => WL.nil ?_))
    obtain ⟨hS', hI'⟩ := hal k σ w hI hS w' hb hE
    have h1 := aft (c.length - k) k σ w' _ (by omega) hI' hS'
    unfold HL at h1
    unfold EX
    exact fun a ha => ⟨rfl, hS', h1 a (ha.toEnd (hde _ _ _ _ hI))⟩
  have bef : ∀ d k σ w, d + k = c.length → I k σ w none → S w → EX (ChainQ P L S Q e (c.drop k) r) .normal n σ w := by
    intro d
    induction d with
    | zero =>
      intro k σ w hk hI hS
      obtain rfl : k = c.length := by omega
      have := alc c.length σ w (Nat.le_refl _) hI hS
      rw [List.drop_length] at this ⊢
      exact EX.chain0 hS this
    | succ d ih =>
      intro k σ w hk hI hS
      have hkl : k < c.length := by omega
      have ha := alc k σ w (by omega) hI hS
      rw [List.drop_eq_getElem_cons hkl] at ha ⊢
      obtain ⟨o, ho, hw⟩ := hst k hkl σ w none [] hI hS
      rw [List.append_nil] at hw
      refine EX.chain hS ho (WL.mono1 (fun x a w h => h.1) (fun a w h => ?_) hw) ha
      obtain ⟨_, hS', σ', hF, hI'⟩ := h
      rw [List.append_nil] at hF
      have := ih (k + 1) σ' w (by omega) hI' hS'
      unfold EX at this
      exact this a hF
  exact bef c.length 0 σ w (by omega) hI0 hS
end
end Go.Proofs.Ytadbkppgaekmpaa
/-
  AutoOwn: walked.
-/
set_option linter.unusedVariables false
set_option linter.unusedSimpArgs false
namespace Go.Proofs.Ytadbkppgaekmpaa
open Go.RowKit

theorem same1_ok (w0 : World) {ao bo : Option Addr} {cap cap' : Nat} {xs : List (List Int)} (hs : Sl w0 (Old w0) ao cap xs) (ht : Sl w0 (Old w0) bo cap' xs) :
    Rt Try.prog 69 [.slice ao xs.length cap, .slice bo xs.length cap'].toArray w0 fun v w' => v = .bool true ∧ Ext w0 w' := by
  refine Rt.enter2 Try.func69 Try.ntmps69 rfl rfl ?_
  (repeat (first | (apply WL.pure; rfl; rfl; rfl) | (apply WL.nil) | (apply EX.thenN) | (apply CW.seq) | (apply CW.region)))
  refine WL.call rfl rfl rfl (equalFunc_ll w0 hs ht (fun w hE i hi hi' u u' hu hu' => ?_)) ?_
  · obtain ⟨a, b, rfl, h1⟩ := hu.sl
    obtain ⟨a', b', rfl, h2⟩ := hu'.sl
    have := equal_int w (h1.lift fun b hb => Nat.lt_of_lt_of_le hb hE.size) (h2.lift fun b hb => Nat.lt_of_lt_of_le hb hE.size)
    exact FnV.mk (cs := []) (by simpa using this)
  · rintro v w' ⟨rfl, hE⟩
    rw [show (xs == xs) = true from beq_self_eq_true _]
    (repeat (first | (apply WL.pure; rfl; rfl; rfl) | (apply WL.nil) | (apply EX.thenN) | (apply CW.ret)))
    exact EX.ret1 rfl rfl ⟨rfl, hE⟩
theorem SameAuto_eq (w0 : World) {va vb : Value} {A : LAuto} (ha : AutoAt w0 (Old w0) va A) (hb : AutoAt w0 (Old w0) vb A) :
    Rt Try.prog 17 [va, vb].toArray w0 fun v w' => v = .bool true ∧ Ext w0 w' := by
  obtain ⟨a1, c1, a2, c2, a3, c3, a4, c4, a5, c5, rfl, h1, h2, h3, h4, h5⟩ := ha.ok
  obtain ⟨k1, d1, k2, d2, k3, d3, k4, d4, k5, d5, rfl, g1, g2, g3, g4, g5⟩ := hb.ok
  refine Rt.enter2 Try.func17 Try.ntmps17 rfl rfl ?_
  (repeat (first | (apply CW.seq) | (apply CW.region)))
  refine WL.boxB rfl rfl rfl fun w1 hb2 e1 => ?_
  skip
  refine WL.boxB rfl rfl rfl fun w2 hb3 e2 => ?_
  have hb2 := hb2.ext e2
  have hE := e1.trans e2
  (repeat (first | (apply WL.pure; rfl; rfl; rfl) | (apply WL.nil) | (apply EX.thenN) | (apply CW.seq) | (apply CW.region) | (apply WL.fa; rfl; rfl; rfl) | (apply WL.ld; rfl; rfl; rfl; assumption; rfl)))
  refine WL.call rfl rfl rfl (equal_int w2 (h1.up hE) (g1.up hE)) ?_
  rintro _ w3 ⟨rfl, e3⟩
  rw [show (A.1 == A.1) = true from beq_self_eq_true _]
  have hb2 := hb2.ext e3
  have hb3 := hb3.ext e3
  have hE := hE.trans e3
  (repeat (first | (apply WL.pure; rfl; rfl; rfl) | (apply WL.fa; rfl; rfl; rfl) | (apply WL.ld; rfl; rfl; rfl; assumption; rfl)))
  refine WL.callV (fv := []) rfl rfl rfl rfl (same1_ok w3 (h2.up hE) (g2.up hE)) ?_
  rintro _ w4 ⟨rfl, e4⟩
  have hb2 := hb2.ext e4
  have hb3 := hb3.ext e4
  have hE := hE.trans e4
  (repeat (first | (apply WL.pure; rfl; rfl; rfl) | (apply WL.fa; rfl; rfl; rfl) | (apply WL.ld; rfl; rfl; rfl; assumption; rfl)))
  refine WL.call rfl rfl rfl (equal_u64 w4 (h3.up hE) (g3.up hE)) ?_
  rintro _ w5 ⟨rfl, e5⟩
  rw [show (A.2.2.1 == A.2.2.1) = true from beq_self_eq_true _]
  have hb2 := hb2.ext e5
  have hb3 := hb3.ext e5
  have hE := hE.trans e5
  (repeat (first | (apply WL.pure; rfl; rfl; rfl) | (apply WL.fa; rfl; rfl; rfl) | (apply WL.ld; rfl; rfl; rfl; assumption; rfl)))
  refine WL.call rfl rfl rfl (equal_u64 w5 (h4.up hE) (g4.up hE)) ?_
  rintro _ w6 ⟨rfl, e6⟩
  rw [show (A.2.2.2.1 == A.2.2.2.1) = true from beq_self_eq_true _]
  have hb2 := hb2.ext e6
  have hb3 := hb3.ext e6
  have hE := hE.trans e6
  (repeat (first | (apply WL.pure; rfl; rfl; rfl) | (apply WL.fa; rfl; rfl; rfl) | (apply WL.ld; rfl; rfl; rfl; assumption; rfl)))
  refine WL.callV (fv := []) rfl rfl rfl rfl (same1_ok w6 (h5.up hE) (g5.up hE)) ?_
  rintro _ w7 ⟨rfl, e7⟩
  (repeat (first | (apply WL.pure; rfl; rfl; rfl) | (apply WL.nil) | (apply EX.thenN) | (apply CW.ret)))
  exact EX.ret1 rfl rfl ⟨rfl, hE.trans e7⟩
theorem ones_single : (singleE onesA).2 = 0 ∧ (singleE onesA).1.2.1.length = 2 := by decide
theorem aown1_ok (w0 : World) {B : Nat} {v : Value} {xs : List Int} (h : Room w0 B 3 v xs 77) (hb : xs.length ≤ 1099511627776) :
    Rt Try.prog 20 [v].toArray w0 fun v w' => v = .bool false ∧ w0 = w' := by
  refine Rt.enter1 Try.func20 Try.ntmps20 rfl rfl ?_
  (repeat (first | (apply WL.pure; rfl; rfl; rfl) | (apply WL.nil) | (apply EX.thenN) | (apply CW.seq) | (apply CW.region)))
  refine WL.call rfl rfl rfl (kept_ok w0 h hb) ?_
  rintro _ _ ⟨rfl, rfl⟩
  (repeat (first | (apply WL.pure; rfl; rfl; rfl) | (apply WL.nil) | (apply EX.thenN) | (apply CW.ret)))
  exact EX.ret1 rfl rfl ⟨rfl, rfl⟩
theorem aown2_ok (w0 : World) {B : Nat} {v : Value} {xs : List Int} (h : Room w0 B 3 v xs 77) (hb : xs.length ≤ 1099511627776) :
    Rt Try.prog 21 [v].toArray w0 fun v w' => v = .bool false ∧ w0 = w' := by
  refine Rt.enter1 Try.func21 Try.ntmps21 rfl rfl ?_
  (repeat (first | (apply WL.pure; rfl; rfl; rfl) | (apply WL.nil) | (apply EX.thenN) | (apply CW.seq) | (apply CW.region)))
  refine WL.call rfl rfl rfl (kept_ok w0 h hb) ?_
  rintro _ _ ⟨rfl, rfl⟩
  (repeat (first | (apply WL.pure; rfl; rfl; rfl) | (apply WL.nil) | (apply EX.thenN) | (apply CW.ret)))
  exact EX.ret1 rfl rfl ⟨rfl, rfl⟩
/-- the copy with room behind its lists: what a chain's state is -/
abbrev ownLit (a1 : Option Addr) (c1 l1 : Nat) (a3 : Option Addr) (c3 l3 : Nat) (a4 : Option Addr) (c4 l4 : Nat) (p1 : Value) : Sg := [(36, .slice a4 l4 c4), (33, .slice a3 l3 c3), (30, .slice a1 l1 c1), (1, p1)]
def ownOB (B : Nat) (w : World) (ob : Option Nat) : Prop := ∀ b, ob = some b → Blk w b 26 [.slice none 0 0, .slice none 0 0, .slice none 0 0, .slice none 0 0, .slice none 0 0] ∧ B ≤ b
theorem ownOB.ext {B : Nat} {w w' : World} {ob : Option Nat} (h : ownOB B w ob) (hE : Ext w w') : ownOB B w' ob := fun b hb => ⟨(h b hb).1.ext hE, (h b hb).2⟩
def apO (v : Value) (ob : Option Nat) : Prop := ∀ b, ob = some b → v.ownBlock ≠ some b
def apV (v u : Value) : Prop := ∀ g, v.ownBlock = some g → u.ownBlock ≠ some g
def ownI (lit : Sg) (B : Nat) (st : List Int) (mu no : List Nat) (i : Nat) (σ : Sg) (w : World) (ob : Option Nat) : Prop :=
  match i with
  | 0 => σ = lit ∧ ownOB B w ob
  | 1 => ∃ sv, σ = (31, sv) :: lit ∧ Room w B 3 sv st 77 ∧ apO sv ob ∧ ownOB B w ob
  | 2 => ∃ sv mv, σ = (34, mv) :: (31, sv) :: lit ∧ Room w B 3 sv st 77 ∧ RoomU w B 33 mv mu 77 ∧ apV mv sv ∧ apO sv ob ∧ apO mv ob ∧ ownOB B w ob
  | 3 => ∃ sv mv nv, σ = (37, nv) :: (34, mv) :: (31, sv) :: lit ∧ Room w B 3 sv st 77 ∧ RoomU w B 33 mv mu 77 ∧ RoomU w B 33 nv no 77 ∧ apV mv sv ∧ apV nv sv ∧ apV nv mv ∧ apO sv ob ∧ apO mv ob ∧ apO nv ob ∧ ownOB B w ob
  | _ => ∃ sv mv nv, σ = (38, .agg [sv, .slice none 0 0, mv, nv, .slice none 0 0].toArray) :: (37, nv) :: (34, mv) :: (31, sv) :: lit ∧ Room w B 3 sv st 77 ∧ RoomU w B 33 mv mu 77 ∧ RoomU w B 33 nv no 77 ∧ apV mv sv ∧ apV nv sv ∧ apV nv mv ∧ apO sv ob ∧ apO mv ob ∧ apO nv ob ∧ ownOB B w ob
set_option maxRecDepth 100000 in
set_option maxHeartbeats 4000000 in
theorem AutoOwn_ok (w0 : World) {va : Value} {A : LAuto} (ha : AutoAt w0 (Old w0) va A) (hsz : A.1.length + edges A.2.1 + A.2.1.length + A.2.2.1.length + A.2.2.2.1.length + edges A.2.2.2.2 + A.2.2.2.2.length ≤ 1048576) :
    Rt Try.prog 3 [va].toArray w0 fun v w' => v = .bool true ∧ Ext w0 w' := by
  have ha0 := ha
  obtain ⟨a1, c1, a2, c2, a3, c3, a4, c4, a5, c5, rfl, h1, h2, h3, h4, h5⟩ := ha.ok
  have sA : ∀ j, (A.2.1.getD j []).length ≤ 1048576 := fun j => Nat.le_trans edges_getD (by omega)
  refine Rt.enter1 Try.func3 Try.ntmps3 rfl rfl ?_
  have hE := Ext.refl w0
  (repeat (first | (apply CW.seq) | (apply CW.region)))
  refine WL.boxB rfl rfl rfl fun w1 hb1 e1 => ?_
  have hE := hE.trans e1
  (repeat (first | (apply WL.pure; rfl; rfl; rfl) | (apply WL.nil) | (apply EX.thenN) | (apply CW.seq) | (apply CW.region)))
  refine WL.call rfl rfl rfl (ones_ok w1) ?_
  rintro ov w2 ⟨ho, e2⟩
  have hb1 := hb1.ext e2
  have hE := hE.trans e2
  skip
  refine WL.call rfl rfl rfl (Single_ok w2 ho (fun j => Nat.le_trans (edges_getD (g := onesA.2.1)) (by decide)) (by decide)) ?_
  rintro _ w3 ⟨⟨rv, rfl, hr⟩, e3⟩
  obtain ⟨q1, f1, q2, f2, q3, f3, q4, f4, q5, f5, rfl, p1, p2, p3, p4, p5⟩ := hr.ok
  rw [ones_single.1, ones_single.2]
  have hb1 := hb1.ext e3
  have hE := hE.trans e3
  (repeat (apply WL.pure; rfl; rfl; rfl))
  refine WL.alloc rfl rfl (fun w4 hb3 e4 => ?_)
  skip
  refine WL.st rfl rfl rfl hb3 rfl rfl (ones_of rfl) (fun w5 hb3 hg5 => ?_)
  have e5 : Ext w3 w5 := e4.grown hg5 e4.size (fun g hg => by cases hg; exact Nat.le_refl _)
  have hb1 := hb1.ext e5
  have hE := hE.trans e5
  clear ho hr p1 p2 p3 p4 p5 e1 e2 e3 e4 e5 hg5
  (repeat (first | (apply WL.pure; rfl; rfl; rfl) | (apply WL.nil) | (apply EX.thenN) | (apply CW.seq) | (apply CW.region) | (apply WL.lenS; rfl; rfl; rfl) | (apply WL.fa; rfl; rfl; rfl) | (apply WL.ld; rfl; rfl; rfl; assumption; rfl) | (apply CW.condF; rfl) | (apply CW.skip)))
  have hSE : ∀ z, (fun z : World => Ext w5 z) z → Ext w5 z := fun _ h => h
  have l1 := hb1.lt
  refine CW.drawC (fun x => Ext w5 x) [(0, true), (1, true), (3, true), (4, true), (6, true), (7, true)] 10 [2, 5, 8, 9] [(11, false)] mixed (by kernel_rfl) (Ext.drew w5) ?_
  (repeat (first | (refine HL.fa rfl rfl rfl rfl ?_) | (refine HL.ld (by assumption) rfl rfl rfl rfl (by assumption) rfl ?_) | (apply HL.nil)))
  refine EX.sub (τ := ownLit a1 c1 A.1.length a3 c3 A.2.2.1.length a4 c4 A.2.2.2.1.length (.pointer (some ⟨w0.heap.size, 0, none⟩))) (by repeat (first | exact trivial | refine ⟨rfl, ?_⟩)) ?_
  refine EX.chainA (e := 10) rfl rfl (ownI (ownLit a1 c1 A.1.length a3 c3 A.2.2.1.length a4 c4 A.2.2.2.1.length (.pointer (some ⟨w0.heap.size, 0, none⟩))) w5.heap.size A.1 A.2.2.1 A.2.2.2.1) ?_ ?_ ?_ ?_ ⟨rfl, fun b h => by cases h⟩ (Ext.drew w5)
  · intro i σ w ob hI
    match i with
    | 0 => obtain ⟨rfl, _⟩ := hI; rfl
    | 1 => obtain ⟨_, rfl, _⟩ := hI; rfl
    | 2 => obtain ⟨_, _, rfl, _⟩ := hI; rfl
    | 3 => obtain ⟨_, _, _, rfl, _⟩ := hI; rfl
    | _ + 4 => obtain ⟨_, _, _, rfl, _⟩ := hI; rfl
  · intro i σ w hI hS w' hb hE'
    have hS : Ext w5 w := hS
    refine ⟨Ext.trans hS hE', ?_⟩
    have ob : ownOB w5.heap.size w' (some w.heap.size) := fun b h => by cases h; exact ⟨hb, hS.size⟩
    have ap : ∀ {α : Type} [Rep α] {e : TypeId} {v : Value} {xs : List α}, Own w w5.heap.size e Non v xs → apO v (some w.heap.size) := fun ho b h hg => by cases h; have := (ho.lt _ hg).2.1; omega
    match i with
    | 0 => obtain ⟨h, _⟩ := hI; exact ⟨h, ob⟩
    | 1 => obtain ⟨sv, h, ho, _⟩ := hI; exact ⟨sv, h, ho.ext hE', ap ho.own, ob⟩
    | 2 => obtain ⟨sv, mv, h, ho, hm, hd, _⟩ := hI; exact ⟨sv, mv, h, ho.ext hE', hm.ext hE', hd, ap ho.own, ap hm.own, ob⟩
    | 3 => obtain ⟨sv, mv, nv, h, ho, hm, hn, d1, d2, d3, _⟩ := hI; exact ⟨sv, mv, nv, h, ho.ext hE', hm.ext hE', hn.ext hE', d1, d2, d3, ap ho.own, ap hm.own, ap hn.own, ob⟩
    | _ + 4 => obtain ⟨sv, mv, nv, h, ho, hm, hn, d1, d2, d3, _⟩ := hI; exact ⟨sv, mv, nv, h, ho.ext hE', hm.ext hE', hn.ext hE', d1, d2, d3, ap ho.own, ap hm.own, ap hn.own, ob⟩
  · intro i hi σ w ob τ hI hS
    have hS : Ext w5 w := hS
    have apn : ∀ {α : Type} [Rep α] {e : TypeId} {v u : Value} {xs : List α} {B : Nat} {w' : World}, w.heap.size ≤ B → Own w' B e Non v xs → (∀ g, u.ownBlock = some g → g < w.heap.size) → apV v u := fun hB ho hu g hg e => by have := (ho.lt _ hg).1; have := hu g e; omega
    match i, hi with
    | 0, _ =>
      obtain ⟨rfl, hob⟩ := hI
      refine ⟨_, rfl, ?_⟩
      refine WL.call rfl rfl rfl (roomy_ok w (h1.up (hE.trans hS)) (fun _ h => h) 77 (by omega)) ?_
      rintro sv w' ⟨ho, e⟩
      exact WL.nil (EX.stepA (σ := (31, sv) :: _) (Ext.trans hS e) ⟨sv, rfl, ho.low hS.size, fun b h hg => by have := (ho.own.lt _ hg).1; have := (hob b h).1.lt; omega, hob.ext e⟩)
    | 1, _ =>
      obtain ⟨sv, rfl, ho, hap, hob⟩ := hI
      refine ⟨_, rfl, ?_⟩
      refine WL.call rfl rfl rfl (roomyU_ok w (h3.up (hE.trans hS)) (fun _ h => h) 77 (by decide) (by omega)) ?_
      rintro mv w' ⟨hm, e⟩
      exact WL.nil (EX.stepA (σ := (34, mv) :: _) (Ext.trans hS e) ⟨sv, mv, rfl, ho.ext e, hm.low hS.size, apn (Nat.le_refl _) hm.own (fun g hg => (ho.own.lt g hg).2.1), hap, fun b h hg => by have := (hm.own.lt _ hg).1; have := (hob b h).1.lt; omega, hob.ext e⟩)
    | 2, _ =>
      obtain ⟨sv, mv, rfl, ho, hm, hd, hap, hap2, hob⟩ := hI
      refine ⟨_, rfl, ?_⟩
      refine WL.call rfl rfl rfl (roomyU_ok w (h4.up (hE.trans hS)) (fun _ h => h) 77 (by decide) (by omega)) ?_
      rintro nv w' ⟨hn, e⟩
      exact WL.nil (EX.stepA (σ := (37, nv) :: _) (Ext.trans hS e) ⟨sv, mv, nv, rfl, ho.ext e, hm.ext e, hn.low hS.size, hd, apn (Nat.le_refl _) hn.own (fun g hg => (ho.own.lt g hg).2.1), apn (Nat.le_refl _) hn.own (fun g hg => (hm.own.lt g hg).2.1), hap, hap2, fun b h hg => by have := (hn.own.lt _ hg).1; have := (hob b h).1.lt; omega, hob.ext e⟩)
    | 3, _ =>
      obtain ⟨sv, mv, nv, rfl, ho, hm, hn, d1, d2, d3, hap, hap2, hap3, hob⟩ := hI
      obtain ⟨so, rfl, _⟩ := ho.ok
      obtain ⟨mo, rfl, _⟩ := hm.ok
      obtain ⟨no, rfl, _⟩ := hn.ok
      refine ⟨_, rfl, ?_⟩
      refine WL.build rfl rfl rfl rfl ?_
      exact WL.nil (EX.stepA (σ := (38, _) :: _) hS ⟨_, _, _, rfl, ho, hm, hn, d1, d2, d3, hap, hap2, hap3, hob⟩)
    | i + 4, hi => exact absurd hi (by simp)
  intro σ w6 b5 hI hS
  have hS : Ext w5 w6 := hS
  obtain ⟨sv, mv, nv, rfl, hst, hmu, hno, d1, d2, d3, hap, hap2, hap3, hob⟩ := hI
  have hgt := (hob b5 rfl).2
  have hb5 := (hob b5 rfl).1
  obtain ⟨so, rfl, _⟩ := hst.ok
  obtain ⟨mo, rfl, _⟩ := hmu.ok
  obtain ⟨no, rfl, _⟩ := hno.ok
  refine HL.mut rfl (WL.st rfl rfl rfl hb5 rfl rfl (ones_of rfl) (fun w7 hb5 hg7 => ?_))
  have hS7 : Ext w5 w7 := Below.grown hS hg7 hS.size (fun g hg => by cases hg; exact hgt)
  refine WL.nil (EX.mut hS7 ?_)
  have hst := hst.keep (fun g hg => hg7.block g (hst.own.lt g hg).2.1 (fun e => hap b5 rfl (by rw [← e]; exact hg)))
  have hmu := hmu.keep (fun g hg => hg7.block g (hmu.own.lt g hg).2.1 (fun e => hap2 b5 rfl (by rw [← e]; exact hg)))
  have hno := hno.keep (fun g hg => hg7.block g (hno.own.lt g hg).2.1 (fun e => hap3 b5 rfl (by rw [← e]; exact hg)))
  have hst0 := hst
  have hmu0 := hmu
  have hne1 := hap b5 rfl
  have hne2 := hap2 b5 rfl
  have hne3 := hap3 b5 rfl
  have l5 := hb5.lt
  have hE7 := hE.trans hS7
  have hb1 := hb1.ext hS7
  have z7 := hS7.size
  have z5 := hE.size
  clear hob hap hap2 hap3 hg7 hS hS7 hSE hE
  apply HL.nil
  (repeat (first | (apply WL.pure; rfl; rfl; rfl) | (apply WL.nil) | (apply EX.thenN) | (apply CW.seq) | (apply CW.region) | (apply WL.lenS; rfl; rfl; rfl) | (apply WL.fa; rfl; rfl; rfl) | (apply WL.ld; rfl; rfl; rfl; assumption; rfl) | (apply CW.block)))
  refine CW.loop (S := Nat × Value × List Raw) (fun s => [(1, .pointer (some ⟨w0.heap.size, 0, none⟩)), (5, .pointer (some ⟨b5, 0, none⟩)), (40, .slice a2 A.2.1.length c2), (41, .int .i64 A.2.1.length), (42, .int .i64 s.1)])
    (fun s w => s.1 ≤ A.2.1.length ∧ Blk w b5 26 [.slice (some ⟨so, 0, none⟩) A.1.length (A.1.length + 3), s.2.1, .slice (some ⟨mo, 0, none⟩) A.2.2.1.length (A.2.2.1.length + 3), .slice (some ⟨no, 0, none⟩) A.2.2.2.1.length (A.2.2.2.1.length + 3), .slice none 0 0] ∧ RoomN w w7.heap.size s.2.1 s.2.2 (A.2.1.take s.1) ∧ Chg (fun b => b = b5) w7 w)
    (fun s => A.2.1.length - s.1) (0, .slice none 0 0, []) (by repeat (first | exact trivial | refine ⟨rfl, ?_⟩)) ⟨Nat.zero_le _, hb5, by simpa using RoomN.nil, Chg.refl _ _⟩ ?_
  rintro ⟨i, nxv, nxs⟩ w8 ⟨hi, hb5, hNx, hC8⟩
  dsimp only at hi hb5 hNx hC8 ⊢
  have z8 := hC8.size
  have hE8 : Ext w0 w8 := Chg.ext hE7 hC8 (fun b hb => by subst hb; omega)
  have hb18 : Blk w8 _ _ _ := (hC8.block _ (by omega) (fun h => by omega)).trans hb1
  have hln := fun g hg => hNx.out.lt g hg
  have hil : nxs.length = i := by rw [hNx.len, List.length_take]; omega
  obtain ⟨nxo, nxc, hnv⟩ := hNx.out.val
  subst hnv
  (repeat (first | (apply WL.pure; rfl; rfl; rfl) | (apply WL.nil) | (apply EX.thenN) | (apply CW.seq) | (apply CW.region)))
  refine CW.cond rfl (fun h => ?_) (fun h => ?_)
  · have hi' : i < A.2.1.length := by simp only [decide_eq_true_eq] at h; omega
    clear h
    have hle := len_edges A.2.1 i hi'
    (repeat (first | (apply EX.thenN) | (apply CW.seq) | (apply CW.region) | (apply CW.block) | (apply CW.skip)))
    refine WL.elemN (i := i) rfl rfl rfl rfl rfl (h2.up hE8) hi' (fun _ => rfl) (fun u q hu => ?_)
    obtain ⟨ro, rc, rfl, hr⟩ := hu.sl
    clear hu
    have hD : Ext w8 (drew w8) := Ext.drew w8
    have hb5d := hb5.ext hD
    have hKs : ∀ u, (fun z : World => ∀ b, b < w8.heap.size → (Value.slice nxo nxs.length nxc).ownBlock ≠ some b → z.heap[b]? = (drew w8).heap[b]?) u → u.heap[b5]? = (drew w8).heap[b5]? := fun u h => h _ (by omega) (fun e => by have := hln _ e; omega)
    (repeat (first | (apply WL.pure; rfl; rfl; rfl) | (apply WL.nil) | (apply EX.thenN)))
    refine CW.drawE (fun z : World => ∀ b, b < w8.heap.size → (Value.slice nxo nxs.length nxc).ownBlock ≠ some b → z.heap[b]? = (drew w8).heap[b]?) [(0, true), (1, true), (2, true), (3, false), (4, false), (5, false), (6, false)] 7 mixed (by kernel_rfl) (fun _ _ _ => rfl) ?_
    (repeat (first | (apply HL.pure; rfl; rfl; rfl; rfl) | (refine HL.fa rfl rfl rfl rfl ?_) | (refine HL.ldK (by assumption) rfl rfl rfl rfl (by assumption) rfl ?_)))
    refine HL.mut rfl (WL.call rfl rfl rfl (roomy_ok (drew w8) (hr.up hD) (fun _ h => h) 77 (by omega)) ?_)
    rintro rv wa ⟨hrm, ea⟩
    have hone : rv.oneCell' = true := by obtain ⟨b, rfl, _⟩ := hrm.ok; rfl
    refine WL.nil (EX.mut (fun b hb _ => ea.block b hb) ?_)
    have hNa := (hNx.ext hD).ext ea
    have za := ea.size
    have zd := hD.size
    refine HL.app1 (α := Raw) (F := Non) (bytes := 24) (yv := (⟨rv⟩ : Raw)) rfl rfl rfl rfl (fun _ => rfl) rfl rfl (fun _ => rfl) hNa.out (Rd.mkRaw _ _ _ hone) (by omega) (fun _ h => h.elim) (by decide) (by unfold maxLen; omega) (by omega)
      (fun z hz b hb hne => (hz.block b (by omega) (fun e => hne e.symm)).trans (ea.block b hb)) (fun nv3 wb qb hob hgb hnbb => ?_)
    have hNb := (hNx.ext hD).app (by omega) hrm ea hob hgb hnbb
    rw [← List.take_succ_eq_append_getElem hi'] at hNb
    have hb5b := (hb5d.ext ea).kept hgb (fun e => by have := hln _ e.symm; omega)
    have hSb : (fun z : World => ∀ b, b < w8.heap.size → (Value.slice nxo nxs.length nxc).ownBlock ≠ some b → z.heap[b]? = (drew w8).heap[b]?) wb := fun b hb hne => (hgb.block b (by omega) (fun e => hne e.symm)).trans (ea.block b hb)
    obtain ⟨no3, nc3, hnv3⟩ := hob.val
    subst hnv3
    refine HL.mut rfl (WL.fa rfl rfl rfl (WL.nil (EX.mut hSb (HL.nil ?_))))
    refine EX.tail rfl (WL.st rfl rfl rfl hb5b rfl rfl (ones_of rfl) (fun wc hb5c hgc => WL.nil (EX.tailE ?_)))
    have hNc := hNb.keep (w' := wc) (fun b h1 h2 => hgc.block b h2 (fun e => by have := Option.some.inj e; omega))
    have hCc : Chg (fun b => b = b5) w7 wc := (((hC8.trans (Chg.of_ext _ hD)).trans (Chg.of_ext _ ea)).then (Chg.of_grown hgb) (fun b h => .inr (by have := hln b h; omega))).grown hgc (fun g hg => by cases hg; rfl)
    (repeat (first | (apply WL.add; rfl; rfl; rfl; rfl; omega; omega) | (apply WL.pure; rfl; rfl; rfl) | (apply WL.nil) | (apply EX.thenN) | (apply CW.region) | (apply EX.inN)))
    exact EX.back (i + 1, _, _) (by repeat (first | exact trivial | refine ⟨rfl, ?_⟩)) ⟨hi', hb5c, hNc, hCc⟩ (by dsimp only; omega)
  have hie : i = A.2.1.length := by simp only [decide_eq_false_iff_not] at h; omega
  subst hie
  rw [List.take_length] at hNx
  clear h
  have hnl := hNx.len
  rw [hnl] at hb5 hNx
  clear hln hil
  (repeat (first | (apply WL.pure; rfl; rfl; rfl) | (apply WL.nil) | (apply EX.thenN) | (apply CW.seq) | (apply CW.region) | (apply WL.lenS; rfl; rfl; rfl) | (apply WL.fa; rfl; rfl; rfl) | (apply WL.ld; rfl; rfl; rfl; assumption; rfl) | (apply CW.block) | (apply CW.exit) | (apply EX.thenX) | (apply EX.inX)))
  refine CW.loop (S := Nat × Value × List Raw) (fun s => [(1, .pointer (some ⟨w0.heap.size, 0, none⟩)), (5, .pointer (some ⟨b5, 0, none⟩)), (55, .slice a5 A.2.2.2.2.length c5), (56, .int .i64 A.2.2.2.2.length), (57, .int .i64 s.1)])
    (fun s w => s.1 ≤ A.2.2.2.2.length ∧ Blk w b5 26 [.slice (some ⟨so, 0, none⟩) A.1.length (A.1.length + 3), .slice nxo A.2.1.length nxc, .slice (some ⟨mo, 0, none⟩) A.2.2.1.length (A.2.2.1.length + 3), .slice (some ⟨no, 0, none⟩) A.2.2.2.1.length (A.2.2.2.1.length + 3), s.2.1] ∧ RoomN w w8.heap.size s.2.1 s.2.2 (A.2.2.2.2.take s.1) ∧ Chg (fun b => b = b5) w8 w)
    (fun s => A.2.2.2.2.length - s.1) (0, .slice none 0 0, []) (by repeat (first | exact trivial | refine ⟨rfl, ?_⟩)) ⟨Nat.zero_le _, hb5, by simpa using RoomN.nil, Chg.refl _ _⟩ ?_
  rintro ⟨k, frv, fs⟩ w9 ⟨hi, hb5, hFr, hC9⟩
  dsimp only at hi hb5 hFr hC9 ⊢
  have z9 := hC9.size
  have hE9 : Ext w0 w9 := Chg.ext hE8 hC9 (fun b hb => by subst hb; omega)
  have hb19 : Blk w9 _ _ _ := (hC9.block _ (by omega) (fun h => by omega)).trans hb18
  have hln := fun g hg => hFr.out.lt g hg
  have hil : fs.length = k := by rw [hFr.len, List.length_take]; omega
  obtain ⟨fro, frc, hnv⟩ := hFr.out.val
  subst hnv
  (repeat (first | (apply WL.pure; rfl; rfl; rfl) | (apply WL.nil) | (apply EX.thenN) | (apply CW.seq) | (apply CW.region)))
  refine CW.cond rfl (fun h => ?_) (fun h => ?_)
  · have hi' : k < A.2.2.2.2.length := by simp only [decide_eq_true_eq] at h; omega
    clear h
    have hle := len_edges A.2.2.2.2 k hi'
    (repeat (first | (apply EX.thenN) | (apply CW.seq) | (apply CW.region) | (apply CW.block) | (apply CW.skip)))
    refine WL.elemN (i := k) rfl rfl rfl rfl rfl (h5.up hE9) hi' (fun _ => rfl) (fun u q hu => ?_)
    obtain ⟨ro, rc, rfl, hr⟩ := hu.sl
    clear hu
    have hD : Ext w9 (drew w9) := Ext.drew w9
    have hb5d := hb5.ext hD
    have hKs : ∀ u, (fun z : World => ∀ b, b < w9.heap.size → (Value.slice fro fs.length frc).ownBlock ≠ some b → z.heap[b]? = (drew w9).heap[b]?) u → u.heap[b5]? = (drew w9).heap[b5]? := fun u h => h _ (by omega) (fun e => by have := hln _ e; omega)
    (repeat (first | (apply WL.pure; rfl; rfl; rfl) | (apply WL.nil) | (apply EX.thenN)))
    refine CW.drawE (fun z : World => ∀ b, b < w9.heap.size → (Value.slice fro fs.length frc).ownBlock ≠ some b → z.heap[b]? = (drew w9).heap[b]?) [(0, true), (1, true), (2, true), (3, false), (4, false), (5, false), (6, false)] 7 mixed (by kernel_rfl) (fun _ _ _ => rfl) ?_
    (repeat (first | (apply HL.pure; rfl; rfl; rfl; rfl) | (refine HL.fa rfl rfl rfl rfl ?_) | (refine HL.ldK (by assumption) rfl rfl rfl rfl (by assumption) rfl ?_)))
    refine HL.mut rfl (WL.call rfl rfl rfl (roomy_ok (drew w9) (hr.up hD) (fun _ h => h) 77 (by omega)) ?_)
    rintro rv wa ⟨hrm, ea⟩
    have hone : rv.oneCell' = true := by obtain ⟨b, rfl, _⟩ := hrm.ok; rfl
    refine WL.nil (EX.mut (fun b hb _ => ea.block b hb) ?_)
    have hNa := (hFr.ext hD).ext ea
    have za := ea.size
    have zd := hD.size
    refine HL.app1 (α := Raw) (F := Non) (bytes := 24) (yv := (⟨rv⟩ : Raw)) rfl rfl rfl rfl (fun _ => rfl) rfl rfl (fun _ => rfl) hNa.out (Rd.mkRaw _ _ _ hone) (by omega) (fun _ h => h.elim) (by decide) (by unfold maxLen; omega) (by omega)
      (fun z hz b hb hne => (hz.block b (by omega) (fun e => hne e.symm)).trans (ea.block b hb)) (fun nv3 wb qb hob hgb hnbb => ?_)
    have hNb := (hFr.ext hD).app (by omega) hrm ea hob hgb hnbb
    rw [← List.take_succ_eq_append_getElem hi'] at hNb
    have hb5b := (hb5d.ext ea).kept hgb (fun e => by have := hln _ e.symm; omega)
    have hSb : (fun z : World => ∀ b, b < w9.heap.size → (Value.slice fro fs.length frc).ownBlock ≠ some b → z.heap[b]? = (drew w9).heap[b]?) wb := fun b hb hne => (hgb.block b (by omega) (fun e => hne e.symm)).trans (ea.block b hb)
    obtain ⟨no3, nc3, hnv3⟩ := hob.val
    subst hnv3
    refine HL.mut rfl (WL.fa rfl rfl rfl (WL.nil (EX.mut hSb (HL.nil ?_))))
    refine EX.tail rfl (WL.st rfl rfl rfl hb5b rfl rfl (ones_of rfl) (fun wc hb5c hgc => WL.nil (EX.tailE ?_)))
    have hNc := hNb.keep (w' := wc) (fun b h1 h2 => hgc.block b h2 (fun e => by have := Option.some.inj e; omega))
    have hCc : Chg (fun b => b = b5) w8 wc := (((hC9.trans (Chg.of_ext _ hD)).trans (Chg.of_ext _ ea)).then (Chg.of_grown hgb) (fun b h => .inr (by have := hln b h; omega))).grown hgc (fun g hg => by cases hg; rfl)
    (repeat (first | (apply WL.add; rfl; rfl; rfl; rfl; omega; omega) | (apply WL.pure; rfl; rfl; rfl) | (apply WL.nil) | (apply EX.thenN) | (apply CW.region) | (apply EX.inN)))
    exact EX.back (k + 1, _, _) (by repeat (first | exact trivial | refine ⟨rfl, ?_⟩)) ⟨hi', hb5c, hNc, hCc⟩ (by dsimp only; omega)
  have hie : k = A.2.2.2.2.length := by simp only [decide_eq_false_iff_not] at h; omega
  subst hie
  rw [List.take_length] at hFr
  clear h
  have hfl := hFr.len
  rw [hfl] at hb5 hFr
  clear hln hil
  -- what stays
  have hk79 : ∀ b, b < w7.heap.size → b ≠ b5 → w9.heap[b]? = w7.heap[b]? := fun b hb hne => (hC9.block b (by omega) (fun h => hne h)).trans (hC8.block b hb (fun h => hne h))
  have hst := hst.keep (fun g hg => hk79 g (hst.own.lt g hg).2.1 (fun e => hne1 (by rw [← e]; exact hg)))
  have hmu := hmu.keep (fun g hg => hk79 g (hmu.own.lt g hg).2.1 (fun e => hne2 (by rw [← e]; exact hg)))
  have hno := hno.keep (fun g hg => hk79 g (hno.own.lt g hg).2.1 (fun e => hne3 (by rw [← e]; exact hg)))
  have hNx := hNx.keep (w' := w9) (fun b h1 h2 => hC9.block b h2 (fun h => by omega))
  have inA : AutoAt w9 (Old w9) (.agg [.slice (some ⟨so, 0, none⟩) A.1.length (A.1.length + 3), .slice nxo A.2.1.length nxc, .slice (some ⟨mo, 0, none⟩) A.2.2.1.length (A.2.2.1.length + 3), .slice (some ⟨no, 0, none⟩) A.2.2.2.1.length (A.2.2.2.1.length + 3), .slice fro A.2.2.2.2.length frc].toArray) A := by
    obtain ⟨x1, y1, e1, k1⟩ := hst.own.oldN.sl
    obtain ⟨x2, y2, e2, k2⟩ := hNx.own.old.sl
    obtain ⟨x3, y3, e3, k3⟩ := hmu.own.oldN.sl
    obtain ⟨x4, y4, e4, k4⟩ := hno.own.oldN.sl
    obtain ⟨x5, y5, e5, k5⟩ := hFr.own.old.sl
    rw [e1, e2, e3, e4, e5]
    exact ⟨x1, y1, x2, y2, x3, y3, x4, y4, x5, y5, rfl, k1, k2, k3, k4, k5⟩
  have hl1 : A.1.length ≤ 1048576 := by omega
  clear hk79 hC8 hC9 hb18 hb1 hE7 hE8
  (repeat (first | (apply EX.thenN) | (apply CW.seq) | (apply CW.region) | (apply WL.ldA; rfl; rfl; rfl; assumption; rfl) | (apply CW.exit) | (apply EX.thenX) | (apply EX.inX)))
  refine WL.call rfl rfl rfl (Single_ok w9 inA sA (by omega)) ?_
  rintro _ w10 ⟨⟨cv, rfl, hc⟩, e10⟩
  obtain ⟨q1, f1, q2, f2, q3, f3, q4, f4, q5, f5, rfl, p1, p2, p3, p4, p5⟩ := hc.ok
  have z10 := e10.size
  have hb19 := hb19.ext e10
  have hb510 := hb5.ext e10
  (repeat (apply WL.pure; rfl; rfl; rfl))
  refine WL.alloc rfl rfl (fun w11 hb10 e11 => ?_)
  skip
  refine WL.st rfl rfl rfl hb10 rfl rfl (ones_of rfl) (fun w12 hb10 hg12 => ?_)
  have e12 : Ext w10 w12 := Below.grown e11 hg12 e11.size (fun g hg => by cases hg; exact Nat.le_refl _)
  have hb112 := hb19.ext e12
  have hb512 := hb510.ext e12
  have e912 := e10.trans e12
  have z12 := e12.size
  have hE12 := hE9.trans e912
  have l10 := hb10.lt
  clear e11 hg12 hb510 hb19 hb5
  (repeat (first | (apply WL.pure; rfl; rfl; rfl) | (apply WL.nil) | (apply EX.thenN) | (apply CW.seq) | (apply CW.region) | (apply WL.ldA; rfl; rfl; rfl; assumption; rfl)))
  refine WL.call rfl rfl rfl (SameAuto_eq w12 (inA.up e912) (ha0.up hE12)) ?_
  rintro _ w13 ⟨rfl, e13⟩
  have e913 := e912.trans e13
  have hb113 := hb112.ext e13
  have hb513 := hb512.ext e13
  have hb1013 := hb10.ext e13
  (repeat (first | (apply WL.pure; rfl; rfl; rfl) | (apply WL.fa; rfl; rfl; rfl) | (apply WL.ld; rfl; rfl; rfl; assumption; rfl)))
  refine WL.call rfl rfl rfl (kept_ok w13 (hst.ext e913) (by omega)) ?_
  rintro _ _ ⟨rfl, rfl⟩
  have hNx13 := hNx.ext e913
  obtain ⟨roNx, rcNx, eqNx, rawNx⟩ := hNx13.out.oldN.sl
  have hcf := containsFunc_raw w13 (fun _ => false) rawNx (fv := .func (.func 20) #[] #[]) (fun w hE i hi u hu => by
    obtain ⟨rfl, _⟩ := hu.raw
    have hig : i < A.2.1.length := by rw [← hNx.len]; exact hi
    have hle := len_edges A.2.1 i hig
    have hrm := (hNx13.inn i hi hig).ext hE
    exact (FnV.mk (cs := []) (aown1_ok w hrm (by omega))).mono fun v w' ⟨h1, h2⟩ => ⟨h1, h2 ▸ Ext.refl _⟩)
  rw [← eqNx] at hcf
  (repeat (first | (apply WL.pure; rfl; rfl; rfl) | (apply WL.fa; rfl; rfl; rfl) | (apply WL.ld; rfl; rfl; rfl; assumption; rfl)))
  refine WL.call rfl rfl rfl hcf ?_
  rintro _ w14 ⟨rfl, e14⟩
  rw [show (nxs.any fun _ => false) = false by simp]
  have e914 := e913.trans e14
  have hb114 := hb113.ext e14
  have hb514 := hb513.ext e14
  have hb1014 := hb1013.ext e14
  have hFr14 := hFr.ext e914
  obtain ⟨roFr, rcFr, eqFr, rawFr⟩ := hFr14.out.oldN.sl
  have hcf2 := containsFunc_raw w14 (fun _ => false) rawFr (fv := .func (.func 21) #[] #[]) (fun w hE i hi u hu => by
    obtain ⟨rfl, _⟩ := hu.raw
    have hig : i < A.2.2.2.2.length := by rw [← hFr.len]; exact hi
    have hle := len_edges A.2.2.2.2 i hig
    have hrm := (hFr14.inn i hi hig).ext hE
    exact (FnV.mk (cs := []) (aown2_ok w hrm (by omega))).mono fun v w' ⟨h1, h2⟩ => ⟨h1, h2 ▸ Ext.refl _⟩)
  rw [← eqFr] at hcf2
  (repeat (first | (apply WL.pure; rfl; rfl; rfl) | (apply WL.fa; rfl; rfl; rfl) | (apply WL.ld; rfl; rfl; rfl; assumption; rfl)))
  refine WL.call rfl rfl rfl hcf2 ?_
  rintro _ w15 ⟨rfl, e15⟩
  rw [show (fs.any fun _ => false) = false by simp]
  have e915 := e914.trans e15
  have hb115 := hb114.ext e15
  have hb515 := hb514.ext e15
  have hb1015 := hb1014.ext e15
  have hE15 := hE9.trans e915
  have e1015 : Ext w10 w15 := ((e12.trans e13).trans e14).trans e15
  have zz := ((e13.trans e14).trans e15).size
  clear hcf hcf2 hNx13 hFr14 e13 e14 e15 e912 e913 e914 hb112 hb113 hb114 hb512 hb513 hb514 hb10 hb1013 hb1014 e12 hE12
  (repeat (first | (apply WL.pure; rfl; rfl; rfl) | (apply WL.nil) | (apply EX.thenN) | (apply CW.seq) | (apply CW.region) | (apply WL.ldA; rfl; rfl; rfl; assumption; rfl) | (apply CW.condF; rfl) | (apply CW.skip)))
  refine WL.call rfl rfl rfl (Single_ok w15 (ha0.up hE15) sA (by omega)) ?_
  rintro _ w16 ⟨⟨dv, rfl, hd⟩, e16⟩
  obtain ⟨r1, m1, r2, m2, r3, m3, r4, m4, r5, m5, rfl, t1, t2, t3, t4, t5⟩ := hd.ok
  have z15 := e915.size
  have z16 := e16.size
  have hb516 := hb515.ext e16
  have hb1016 := hb1015.ext e16
  generalize (singleE A).2 = er at *
  generalize (singleE A).1 = C at *
  (repeat (apply WL.pure; rfl; rfl; rfl))
  refine WL.alloc rfl rfl (fun w17 hb12 e17 => ?_)
  skip
  refine WL.st rfl rfl rfl hb12 rfl rfl (ones_of rfl) (fun w18 hb12 hg18 => ?_)
  have e18 : Ext w16 w18 := Below.grown e17 hg18 e17.size (fun g hg => by cases hg; exact Nat.le_refl _)
  have hb518 := hb516.ext e18
  have hb1018 := hb1016.ext e18
  have z18 := e18.size
  have l12 := hb12.lt
  have hE18 := (hE15.trans e16).trans e18
  have e918 := (e915.trans e16).trans e18
  have e1018 := (e1015.trans e16).trans e18
  have hNx18 := hNx.ext e918
  have hst18 := hst.ext e918
  have hmu18 := hmu.ext e918
  have hlNx := fun b h => hNx.own.lt b h
  have hlst := fun b h => hst.own.lt b h
  have hlmu := fun b h => hmu.own.lt b h
  have hz8 : w8.heap.size ≤ w9.heap.size := z9
  clear e17 hg18 hb515 hb516 hb1015 hb1016 hst hmu hno hNx hFr inA hc hd
  (repeat (first | (apply WL.pure; rfl; rfl; rfl) | (apply WL.nil) | (apply EX.thenN) | (apply CW.seq) | (apply CW.region) | (apply WL.lenS; rfl; rfl; rfl) | (apply WL.fa; rfl; rfl; rfl) | (apply WL.ld; rfl; rfl; rfl; assumption; rfl) | (apply CW.block)))
  refine CW.loop (S := Nat) (fun k => [(5, .pointer (some ⟨b5, 0, none⟩)), (10, .pointer (some ⟨w10.heap.size, 0, none⟩)), (11, .int .i64 er), (12, .pointer (some ⟨w16.heap.size, 0, none⟩)), (100, .slice nxo A.2.1.length nxc), (101, .int .i64 A.2.1.length), (102, .int .i64 k)])
    (fun k w => k ≤ A.2.1.length ∧ Chg (OwnN.blk (.slice nxo A.2.1.length nxc) nxs) w18 w ∧ Own w w7.heap.size 22 Non (.slice nxo A.2.1.length nxc) nxs ∧ (∀ j (h : j < nxs.length) (h' : j < A.2.1.length), k ≤ j → Own w w7.heap.size 3 Non nxs[j].v A.2.1[j])) (fun k => A.2.1.length - k) 0 (by repeat (first | exact trivial | refine ⟨rfl, ?_⟩)) ⟨by omega, Chg.refl _ _, hNx18.out, fun j h h' _ => hNx18.own.inn j h h'⟩ ?_
  rintro k w19 ⟨hk, hC, hO, hI⟩
  (repeat (first | (apply WL.pure; rfl; rfl; rfl) | (apply WL.nil) | (apply EX.thenN) | (apply CW.seq) | (apply CW.region)))
  refine CW.cond rfl (fun h1 => ?_) (fun h1 => ?_)
  · have hkl : k < A.2.1.length := by simpa using h1
    have hki : k < nxs.length := by omega
    (repeat (first | (apply EX.thenN) | (apply CW.seq) | (apply CW.region) | (apply CW.block) | (apply CW.skip)))
    refine WL.elemON rfl rfl rfl rfl rfl hO hki (fun _ => rfl) (fun u q hu => ?_)
    obtain ⟨rfl, _⟩ := hu.raw
    (repeat (first | (apply WL.pure; rfl; rfl; rfl) | (apply WL.nil) | (apply EX.thenN) | (apply CW.region)))
    refine WL.call rfl rfl rfl (spoil_ok w19 (hI k hki hkl (Nat.le_refl _)) 0) ?_
    rintro _ w20 hg20
    have hsub : ∀ b, nxs[k].v.ownBlock = some b → OwnN.blk (.slice nxo A.2.1.length nxc) nxs b := fun b hb => .inr ⟨_, List.getElem_mem hki, hb⟩
    (repeat (first | (apply WL.add; rfl; rfl; rfl; rfl; omega; omega) | (apply WL.pure; rfl; rfl; rfl) | (apply WL.nil) | (apply EX.thenN) | (apply CW.region) | (apply EX.inN)))
    refine EX.back (k + 1) (by repeat (first | exact trivial | refine ⟨rfl, ?_⟩)) ⟨hkl, hC.grown hg20 hsub, hO.keptN hg20 (fun b hb e => hNx18.dio k hki b e.symm hb), fun j hj hj' hkj => ?_⟩ (by omega)
    exact (hI j hj hj' (by omega)).keptN hg20 (fun b hb e => hNx18.dis k j hki hj (by omega) b e.symm hb)
  clear hO hI h1 hk
  have z19 := hC.size
  have hn18 : ∀ b, b < w7.heap.size → w19.heap[b]? = w18.heap[b]? := fun b hb => hC.block b (by omega) (fun h => by have := (hlNx b h).1; omega)
  have hnw : ∀ b, w9.heap.size ≤ b → b < w18.heap.size → w19.heap[b]? = w18.heap[b]? := fun b h1 h2 => hC.block b h2 (fun h => by have := (hlNx b h).2; omega)
  have hb519 : Blk w19 _ _ _ := (hn18 b5 (by omega)).trans hb518
  have hlst2 : ∀ g, Value.ownBlock (.slice (some ⟨so, 0, none⟩) A.1.length (A.1.length + 3)) = some g → w5.heap.size ≤ g ∧ g < w7.heap.size := fun g hg => ⟨(hst0.own.lt g hg).1, (hst0.own.lt g hg).2.1⟩
  have hlmu2 : ∀ g, Value.ownBlock (.slice (some ⟨mo, 0, none⟩) A.2.2.1.length (A.2.2.1.length + 3)) = some g → w5.heap.size ≤ g ∧ g < w7.heap.size := fun g hg => ⟨(hmu0.own.lt g hg).1, (hmu0.own.lt g hg).2.1⟩
  have hst19 := hst18.keep (w' := w19) (fun g hg => hn18 g (hlst2 g hg).2)
  have hmu19 := hmu18.keep (w' := w19) (fun g hg => hn18 g (hlmu2 g hg).2)
  (repeat (first | (apply EX.thenN) | (apply CW.seq) | (apply CW.region) | (apply WL.fa; rfl; rfl; rfl) | (apply WL.ld; rfl; rfl; rfl; assumption; rfl) | (apply CW.exit) | (apply EX.thenX) | (apply EX.inX)))
  refine WL.call rfl rfl rfl (spoil_ok w19 hst19.own 0) ?_
  rintro _ w20 hg20
  have z20 := hg20.size
  have hb520 := hb519.kept hg20 (fun e => hne1 e.symm)
  have hmu20 := hmu19.keep (w' := w20) (fun g hg => hg20.block g (by have := (hlmu2 g hg).2; omega) (fun e => d1 g hg e.symm))
  (repeat (first | (apply WL.nil) | (apply EX.thenN) | (apply CW.seq) | (apply CW.region) | (apply WL.fa; rfl; rfl; rfl) | (apply WL.ld; rfl; rfl; rfl; assumption; rfl)))
  refine WL.call rfl rfl rfl (spoilU_ok w20 hmu20.own 5) ?_
  rintro _ w21 hg21
  have z21 := hg21.size
  have hfin : ∀ b, w9.heap.size ≤ b → b < w18.heap.size → w21.heap[b]? = w18.heap[b]? := fun b h1 h2 => ((hg21.block b (by omega) (fun e => by have := (hlmu2 b e.symm).2; omega)).trans (hg20.block b (by omega) (fun e => by have := (hlst2 b e.symm).2; omega))).trans (hnw b h1 h2)
  have hgeNx : ∀ b, OwnN.blk (.slice nxo A.2.1.length nxc) nxs b → w0.heap.size ≤ b := fun b h => by have := (hlNx b h).1; omega
  have hE21 : Ext w0 w21 := ((Chg.ext hE18 hC hgeNx).grown hg20 (by have := hE18.size; omega) (fun g hg => by have := (hlst2 g hg).1; omega)).grown hg21 (by have := hE18.size; omega) (fun g hg => by have := (hlmu2 g hg).1; omega)
  have hb1021 : Blk w21 _ _ _ := (hfin _ (by omega) (by omega)).trans hb1018
  have hb1221 : Blk w21 _ _ _ := (hfin _ (by omega) (by omega)).trans hb12
  have kc : ∀ b, (w9.heap.size ≤ b ∧ b < w10.heap.size) → w21.heap[b]? = w10.heap[b]? := fun b hb => (hfin b hb.1 (by omega)).trans (e1018.block b hb.2)
  have kd : ∀ b, (w15.heap.size ≤ b ∧ b < w16.heap.size) → w21.heap[b]? = w16.heap[b]? := fun b hb => (hfin b (by omega) (by omega)).trans (e18.block b hb.2)
  have lc : ∀ b, (w9.heap.size ≤ b ∧ b < w10.heap.size) → Old w21 b := fun b hb => (show b < w21.heap.size by omega)
  have ld : ∀ b, (w15.heap.size ≤ b ∧ b < w16.heap.size) → Old w21 b := fun b hb => (show b < w21.heap.size by omega)
  (repeat (first | (apply WL.pure; rfl; rfl; rfl) | (apply WL.nil) | (apply EX.thenN) | (apply CW.seq) | (apply CW.region)))
  by_cases he : er = 0
  case neg =>
    rw [show (er != 0) = true by simpa using he]
    (repeat (first | (apply WL.pure; rfl; rfl; rfl) | (apply WL.nil) | (apply EX.thenN) | (apply WL.pass; rfl; rfl) | (apply CW.ret)))
    exact EX.ret1 rfl rfl ⟨rfl, hE21⟩
  subst he
  (repeat (apply WL.ldA; rfl; rfl; rfl; assumption; rfl))
  refine WL.call rfl rfl rfl (SameAuto_eq w21 (A := C) ⟨q1, f1, q2, f2, q3, f3, q4, f4, q5, f5, rfl, p1.mono kc lc, p2.mono kc lc, p3.mono kc lc, p4.mono kc lc, p5.mono kc lc⟩ ⟨r1, m1, r2, m2, r3, m3, r4, m4, r5, m5, rfl, t1.mono kd ld, t2.mono kd ld, t3.mono kd ld, t4.mono kd ld, t5.mono kd ld⟩) ?_
  rintro _ w22 ⟨rfl, e22⟩
  (repeat (first | (apply WL.pure; rfl; rfl; rfl) | (apply WL.nil) | (apply EX.thenN) | (apply CW.ret)))
  exact EX.ret1 rfl rfl ⟨rfl, hE21.trans e22⟩
end Go.Proofs.Ytadbkppgaekmpaa
