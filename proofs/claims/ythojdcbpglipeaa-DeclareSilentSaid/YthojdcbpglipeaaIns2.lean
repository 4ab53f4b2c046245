/-
  slices.Insert of one letter. First: capacity, append of zeros, copies, cuts in drawn regions, calls of the model's own. Over any program.
-/
import Derived.Test.YthojdcbpglipeaaIns
import Derived.Test.YthojdcbpglipeaaRet
import Derived.Test.YthojdcbpglipeaaTail
import Derived.Lib.AppendZerosOnto
import Derived.Lib.Overlaps
set_option linter.unusedVariables false
set_option linter.unusedSimpArgs false
namespace Go.Proofs.Ythojdcbpglipeaa
open Go.RowKit

section
variable {P : Program} {Q : Exit → Act → World → Prop} {n : Nat} {σ : Sg} {w wc : World} {L rest : List Oper} {d i : Nat} {ty : TypeId} {pos : String} {af : Array Edge} {g : Option (Nat × Bool)} {S : World → Prop} {ord : List (Nat × Bool)}
variable {α : Type} [Rep α] {e t tn : TypeId} {x0 : α} {bytes : Nat} {F : Nat → Prop} {kn : IntKind}
/-- cap(x) -/
theorem WL.capI {x : Operand} {ao : Option Addr} {k cap : Nat} (hg : gd L σ ⟨some d, .call ⟨.builtin .cap, #[x], #[t]⟩, ty, pos, af, g⟩ = some true) (hd : Nat.ble (d + 1) n = true)
    (hx : ev σ x = some (.slice ao k cap)) [hs : IsS P t e] (h : WL P L Q rest n ((d, .int .i64 (cap : Int)) :: σ) w) : WL P L Q (⟨some d, .call ⟨.builtin .cap, #[x], #[t]⟩, ty, pos, af, g⟩ :: rest) n σ w := by
  refine WL.run hg hd (fun a ha => ?_) h
  simp [execOp, resolve, invoke, builtin, ha.ev hx, Builtin.cap_, run_underlying hs.ok, goInt]
/-- append(x, make([]T, k)...) where there is no room -/
theorem run_appZ {ao : Option Addr} {xs : List α} {cap k B : Nat} {kq : IntKind} [hs : IsS P t e] [ht : IsT P e α] [hz : IsZ P e x0 bytes] [hn : IsI P tn kn] (hown : Own w B e F (.slice ao xs.length cap) xs)
    (hB : B ≤ w.heap.size) (hF : ∀ b, F b → b < w.heap.size) (h0 : 0 < k) (hroom : cap < xs.length + k) (hm : xs.length + k ≤ maxLen) (hb : (xs.length + k) * bytes ≤ 140737488355328) :
    ∃ v' w', (Builtin.append_ #[t, tn] ty #[.slice ao xs.length cap, .int kq (k : Int)]).run P w = .ok v' w' ∧ Own w' B e F v' (xs ++ List.replicate k x0) ∧ w.grownBy w' none ∧ (∀ g, v'.ownBlock = some g → w.heap.size ≤ g) := by
  obtain ⟨i, z, h1, h2, h3, h4⟩ := hz.ok
  obtain ⟨i', h1', h5⟩ := IsT.info (P := P) (t := e) (α := α)
  obtain rfl : i = i' := Option.some.inj (h1.symm.trans h1')
  have hzs : z.cells.size = sz α := by have := Rep.len (h4 w F); simpa using this
  have hmm := hm
  unfold maxLen at hmm
  have hpos : 0 < sz α := Rep.pos
  obtain ⟨olds, hol, hoE, hfst⟩ : ∃ olds : List Value, olds.length = xs.length * sz α ∧ Elems w F olds xs ∧ (Builtin.firstCells i.size xs.length (.slice ao xs.length cap)).run P w.drew = .ok olds.toArray w.drew := by
    rcases hown with ⟨h, rfl⟩ | ⟨g, off, cp, cur, h, ho⟩
    · cases h
      exact ⟨[], by simp, Elems.nil, run_firstCells_none w.drew _ _ _ _⟩
    · cases h
      refine ⟨(cur.toList.drop off).take (xs.length * sz α), ho.el.1, ho.el, ?_⟩
      refine run_firstCells_some w.drew _ _ _ _ _ _ (by rw [ho.el.1, h5]) (fun j u hu => ?_)
      rw [WideShapes.add_plain]
      have := cell_of_row w g (off + j) cur e (0, 0) ho.blk
      exact this.trans (cur_get hu)
  have hk0 : k * i.bytes ≤ 281474976710656 := by
    have : k * bytes ≤ (xs.length + k) * bytes := Nat.mul_le_mul_right _ (by omega)
    rw [h3]; omega
  have hfit : Builtin.nextslicecap (xs.length + k) cap * i.bytes ≤ 281474976710656 := growslice_fits (by omega) (by rw [h3]; exact hb)
  have hr := Lib.run_append_grow_zeros (P := P) w t tn ty e i z kq kn hs.ok hn.ok h1 h2 ao xs.length cap olds hfst k h0 (by rw [h5]; exact hpos) hroom (by omega) hk0 hfit
  have hge : xs.length + k ≤ grownCap w (xs.length + k) cap e := grownCap_ge _ _ _ _
  have hcm : grownCap w (xs.length + k) cap e ≤ maxLen := grownCap_le_maxLen w _ cap e hm
  have hz1 : (Builtin.zeroCells z.cells k).toList = (List.replicate k z.cells.toList).flatten := made_flat z.cells k (by rw [hzs]; exact hpos)
  refine ⟨_, _, hr, .inr ⟨w.heap.size, 0, _, _, by rw [List.length_append, List.length_replicate], ⟨heap_alloc_new w.drew _, hB, fun h => by have := hF _ h; omega, by simpa using hge, hcm, ?_, ?_⟩⟩, ⟨rfl, rfl, rfl, by simp, fun k hk _ => Below.heap_alloc w.drew _ k hk⟩, fun g h => by simp [Value.ownBlock] at h; omega⟩
  · simp only [Nat.zero_add, Array.size_append, List.size_toArray, size_zeroCells, hzs, hol, ← Nat.add_mul]
    exact Nat.mul_le_mul_right _ (by omega)
  · have hh : ∀ b, F b → (w.drew.alloc (.cells (olds.toArray ++ Builtin.zeroCells z.cells k ++ Builtin.zeroCells z.cells (grownCap w (xs.length + k) cap e - (xs.length + k))) e)).heap[b]? = w.heap[b]? := fun b hb => Below.heap_alloc w.drew _ b (hF b hb)
    have hlen : (olds ++ (List.replicate k z.cells.toList).flatten).length = (xs ++ List.replicate k x0).length * sz α := by
      rw [List.length_append, List.length_append, hol, Nat.add_mul]
      rw [(Elems.rep h4 k : Elems w F _ _).1]
    have e1 : ((olds.toArray ++ Builtin.zeroCells z.cells k ++ Builtin.zeroCells z.cells (grownCap w (xs.length + k) cap e - (xs.length + k))).toList.drop 0).take ((xs ++ List.replicate k x0).length * sz α) = olds ++ (List.replicate k z.cells.toList).flatten := by
      simp only [Array.toList_append, List.drop_zero, hz1]
      rw [← hlen]
      exact List.take_left
    rw [e1]
    exact (hoE.mono hh fun _ h => h).append (Elems.rep h4 k)
theorem WL.appZ {x y : Operand} {ao : Option Addr} {xs : List α} {len cap B : Nat} {j : Int} {kq : IntKind} (k : Nat) (hjk : j = (k : Int)) (hlen : len = xs.length) (hg : gd L σ ⟨some d, .call ⟨.builtin .append, #[x, y], #[t, tn]⟩, ty, pos, af, g⟩ = some true) (hd : Nat.ble (d + 1) n = true)
    (hx : ev σ x = some (.slice ao len cap)) (hy : ev σ y = some (.int kq j)) [hs : IsS P t e] [ht : IsT P e α] [hz : IsZ P e x0 bytes] [hn : IsI P tn kn] (hown : Own w B e F (.slice ao len cap) xs)
    (hB : B ≤ w.heap.size) (hF : ∀ b, F b → b < w.heap.size) (h0 : 0 < k) (hroom : cap < xs.length + k) (hm : xs.length + k ≤ maxLen) (hb : (xs.length + k) * bytes ≤ 140737488355328)
    (h : ∀ v' w', Own w' B e F v' (xs ++ List.replicate k x0) → w.grownBy w' none → (∀ g, v'.ownBlock = some g → w.heap.size ≤ g) → WL P L Q rest n ((d, v') :: σ) w') :
    WL P L Q (⟨some d, .call ⟨.builtin .append, #[x, y], #[t, tn]⟩, ty, pos, af, g⟩ :: rest) n σ w := by
  subst hjk hlen
  obtain ⟨v', w', h1, h2, h3, h4⟩ := run_appZ (P := P) (t := t) (tn := tn) (kn := kn) (ty := ty) (kq := kq) hown hB hF h0 hroom hm hb
  refine WL.run hg hd (fun a ha => ?_) (h v' w' h2 h3 h4)
  simp [execOp, resolve, invoke, builtin, ha.ev hx, ha.ev hy, h1]
/-- copy, of cells -/
theorem WL.copyR {x y : Operand} {b o dLen dCap : Nat} {a : Addr} {sLen sCap : Nat} {cs : List Value} {cur : Array Value} (hg : gd L σ ⟨some d, .call ⟨.builtin .copy, #[x, y], #[t, t]⟩, ty, pos, af, g⟩ = some true) (hd : Nat.ble (d + 1) n = true)
    (hx : ev σ x = some (.slice (some ⟨b, o, none⟩) dLen dCap)) (hy : ev σ y = some (.slice (some a) sLen sCap)) [hs : IsS P t e] [ht : IsT P e α] (h1z : sz α = 1)
    (hb : w.heap[b]? = some (.cells cur e (0, 0))) (hfit : o + cs.length ≤ cur.size) (hn : cs.length = Nat.min sLen dLen) (hsrc : ∀ j v, cs[j]? = some v → w.cell? (a.add j) = some v) (h1 : ∀ v ∈ cs, v.oneCell' = true)
    (h : ∀ u, WL P L Q rest n ((d, u) :: σ) (w.setRow b (ovr cur.toList o cs).toArray)) : WL P L Q (⟨some d, .call ⟨.builtin .copy, #[x, y], #[t, t]⟩, ty, pos, af, g⟩ :: rest) n σ w := by
  refine WL.run hg hd (fun ac ha => ?_) (h (goInt cs.length))
  have := run_copyRow (P := P) (t := t) (ty := ty) (e := e) (dCap := dCap) (sCap := sCap) h1z w hb hfit hn hsrc h1
  simp [execOp, resolve, invoke, builtin, ha.ev hx, ha.ev hy, this, ovr]
theorem ovr_part {β : Type} {l : List β} {off n k : Nat} {cs : List β} (hk : k + cs.length ≤ n) (hl : off + n ≤ l.length) : ((ovr l (off + k) cs).drop off).take n = ovr ((l.drop off).take n) k cs := by
  have hC : ((l.drop off).take n).length = n := by rw [List.length_take, List.length_drop]; omega
  apply List.ext_getElem?
  intro j
  by_cases hj : j < n
  · rw [List.getElem?_take_of_lt hj, List.getElem?_drop, ovr_get (by omega), ovr_get (by omega)]
    by_cases h : k ≤ j ∧ j < k + cs.length
    · rw [if_pos (by omega), if_pos h]; congr 1; omega
    · rw [if_neg (by omega), if_neg h, List.getElem?_take_of_lt hj, List.getElem?_drop]
  · rw [List.getElem?_eq_none (by rw [List.length_take]; omega), List.getElem?_eq_none (by rw [ovr_len (by omega)]; omega)]
theorem OwnAt.copied {xs ys : List α} {b off cap B k : Nat} {cur : Array Value} {cs : List Value} (h1z : sz α = 1) (ho : OwnAt w B e F b off cap cur xs) (hk : k + ys.length ≤ xs.length) (hc : Elems w F cs ys) :
    OwnAt (w.setRow b (ovr cur.toList (off + k) cs).toArray) B e F b off cap (ovr cur.toList (off + k) cs).toArray (xs.take k ++ ys ++ xs.drop (k + ys.length)) ∧ w.grownBy (w.setRow b (ovr cur.toList (off + k) cs).toArray) (some b) := by
  have hcl : cs.length = ys.length := by have := hc.1; rw [h1z] at this; omega
  have hle := ho.le
  have hfit := ho.fit
  rw [h1z] at hfit
  have hsz : cur.toList.length = cur.size := Array.length_toList
  have hlen : (xs.take k ++ ys ++ xs.drop (k + ys.length)).length = xs.length := by simp; omega
  have hh : ∀ c, F c → (w.setRow b (ovr cur.toList (off + k) cs).toArray).heap[c]? = w.heap[c]? := fun c hc => setRow_other w b c _ (fun e => ho.nF (e ▸ hc))
  have hel : Elems w F ((cur.toList.drop off).take xs.length) xs := by have := ho.el; rw [h1z, Nat.mul_one] at this; exact this
  refine ⟨⟨setRow_heap w b cur _ e _ ho.blk, ho.ge, ho.nF, by rw [hlen]; exact hle, ho.mx, ?_, ?_⟩, grown_setRow w b _⟩
  · rw [h1z]; simp only [List.size_toArray]; rw [ovr_len (by omega)]; omega
  · rw [hlen, h1z, Nat.mul_one]
    rw [ovr_part (by omega) (by omega)]
    have h1 := hel.take k (by omega)
    have h2 := hel.drop (k + ys.length) hk
    rw [h1z, Nat.mul_one] at h1 h2
    have h3 := ((h1.mono hh fun _ h => h).append (hc.mono hh fun _ h => h)).append (h2.mono hh fun _ h => h)
    have e : ovr ((cur.toList.drop off).take xs.length) k cs = ((cur.toList.drop off).take xs.length).take k ++ cs ++ ((cur.toList.drop off).take xs.length).drop (k + ys.length) := by unfold ovr; rw [hcl]
    rw [e]
    exact h3
/-- x[k:], elements of one cell, not at the capacity's end -/
theorem WL.cutS {x y : Operand} {b o len cap : Nat} {j : Int} {kd : IntKind} (k : Nat) (hik : j = (k : Int)) (hg : gd L σ ⟨some d, .slice t x (some y) none none, ty, pos, af, g⟩ = some true) (hd : Nat.ble (d + 1) n = true)
    (hx : ev σ x = some (.slice (some ⟨b, o, none⟩) len cap)) (hy : ev σ y = some (.int kd j)) [hs : IsS P t e] [ht : IsT P e α] (h1z : sz α = 1) (hk : k ≤ len) (hc : len ≤ cap) (hkc : k < cap)
    (h : WL P L Q rest n ((d, .slice (some ⟨b, o + k, none⟩) (len - k) (cap - k)) :: σ) w) : WL P L Q (⟨some d, .slice t x (some y) none none, ty, pos, af, g⟩ :: rest) n σ w := by
  refine WL.cutLo (α := α) k hik hg hd hx hy hk hc ?_
  rw [if_neg (by omega), h1z, Nat.mul_one, Option.map_some, WideShapes.add_plain]
  exact h
/-- .. in a drawn region -/
theorem HL.cutS {x y : Operand} {b o len cap : Nat} {j : Int} {kd : IntKind} (k : Nat) (hik : j = (k : Int)) (ho : nthO L i = some ⟨some d, .slice t x (some y) none none, ty, pos, af, g⟩) (hg : gd L σ ⟨some d, .slice t x (some y) none none, ty, pos, af, g⟩ = some true) (hd : Nat.ble (d + 1) n = true)
    (hx : ev σ x = some (.slice (some ⟨b, o, none⟩) len cap)) (hy : ev σ y = some (.int kd j)) [hs : IsS P t e] [ht : IsT P e α] (h1z : sz α = 1) (hk : k ≤ len) (hc : len ≤ cap) (hkc : k < cap)
    (h : HL P L S Q ord n ((d, .slice (some ⟨b, o + k, none⟩) (len - k) (cap - k)) :: σ) wc) : HL P L S Q ((i, true) :: ord) n σ wc := by
  refine HL.cutLo (α := α) k hik ho hg hd hx hy hk hc ?_
  rw [if_neg (by omega), h1z, Nat.mul_one, Option.map_some, WideShapes.add_plain]
  exact h
/-- a call of a function that the model itself answers -/
theorem WL.callX {f : FuncId} {xs : List Operand} {ts : Array TypeId} {vs : List Value} {v : Value} (hg : gd L σ ⟨some d, .call ⟨.value (.func f), xs.toArray, ts⟩, ty, pos, af, g⟩ = some true) (hd : Nat.ble (d + 1) n = true) (hv : evs σ xs = some vs)
    (hr : (callFunc f vs.toArray).run P w = .ok (.value v) w) (h : WL P L Q rest n ((d, v) :: σ) w) : WL P L Q (⟨some d, .call ⟨.value (.func f), xs.toArray, ts⟩, ty, pos, af, g⟩ :: rest) n σ w := by
  refine WL.run hg hd (fun a ha => ?_) h
  have e1 := evs_eq ha xs vs hv
  have e2 : a.eval (.func f) = .func (.func f) #[] #[] := rfl
  simp [execOp, resolve, Deferred.ofValue, invoke, e1, e2]
  simpa using hr
end
end Go.Proofs.Ythojdcbpglipeaa
