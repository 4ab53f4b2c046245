import Derived.Shelf.Slices.Reverse
import Derived.Test.YtllpfgcngokhnaaPtJudgeJoins8
/-
  Maps made by the call: keys with any elements, as a list in the order in which they came. Over any program.
-/
set_option linter.unusedVariables false
set_option linter.unusedSimpArgs false
namespace Go.Proofs.Ytllpfgcngokhnaa
open Go.RowKit

/-- keys of which the model's order is whole, whatever their kind -/
class IsKx (P : Program) (k : TypeId) : Prop where
  ok : Go.Maps.Keyed P k
theorem IsKx.int {P : Program} {k : TypeId} (h : P.underlying k = some (.int .i64)) : IsKx P k := ⟨Go.Maps.int_keyed h⟩
theorem KeyV.int {P : Program} {k : TypeId} (h : P.underlying k = some (.int .i64)) {x : Int} (hx : -9223372036854775808 ≤ x ∧ x ≤ 9223372036854775807) : KeyV P k (.int .i64 x) := by
  refine ⟨.int .i64 x, ?_⟩
  unfold keyOf
  rw [h]
  dsimp only
  unfold mapKey
  rw [h]
  dsimp only
  rw [if_pos ⟨rfl, by simp [Lit.wf, IntKind.min, IntKind.max, IntKind.signed, IntKind.bits]; omega⟩]
/-- block b is a map that holds these keys with these elements -/
def MapI (P : Program) (k : TypeId) (w : World) (b : Nat) (kv : List (Value × Value)) : Prop :=
  ∃ (es : Array MapEntry) (clock : Nat), w.heap[b]? = some (.map es clock) ∧ es.toList.map (fun e => (e.key, e.val)) = kv ∧ (∀ x ∈ kv, KeyV P k x.1) ∧ (kv.map Prod.fst).Nodup
section
variable {P : Program} {k : TypeId} {w w' : World} {b : Nat} {kv : List (Value × Value)}
theorem MapI.lt (h : MapI P k w b kv) : b < w.heap.size := by
  obtain ⟨es, clock, hb, _⟩ := h
  exact (Array.getElem?_eq_some_iff.1 hb).1
theorem MapI.at (h : MapI P k w b kv) (hb : w'.heap[b]? = w.heap[b]?) : MapI P k w' b kv := by
  obtain ⟨es, clock, h1, h2⟩ := h
  exact ⟨es, clock, hb.trans h1, h2⟩
theorem MapI.ext (h : MapI P k w b kv) (hE : Ext w w') : MapI P k w' b kv := h.at (hE.block b h.lt)
theorem MapI.kept {row : Option Nat} (h : MapI P k w b kv) (hg : w.grownBy w' row) (hne : some b ≠ row) : MapI P k w' b kv := h.at (hg.block b h.lt hne)
theorem MapI.made (w : World) : MapI P k (w.alloc (.map #[] 0)) w.heap.size [] :=
  ⟨#[], 0, heap_alloc_new w _, rfl, fun x h => by simp at h, List.Pairwise.nil⟩
theorem run_mget {t e : TypeId} {x : Value} [ht : IsM P t k e] [hk : IsKx P k] [hz : IsZ0 P e] (h : MapI P k w b kv) (hx : KeyV P k x) :
    (x ∉ kv.map Prod.fst ∧ (Instr.lookup t (.map (some b)) x true).run P w = .ok (.tuple #[.int .i64 0, .bool false]) w) ∨
    ∃ (j : Nat) (hj : j < kv.length), kv[j].1 = x ∧ (Instr.lookup t (.map (some b)) x true).run P w = .ok (.tuple #[kv[j].2, .bool true]) w ∧ (Instr.lookup t (.map (some b)) x false).run P w = .ok kv[j].2 w := by
  obtain ⟨es, clock, hb, hes, hks, hnd⟩ := h
  obtain ⟨l, hx⟩ := hx
  obtain ⟨i, h1, h2⟩ := Option.map_eq_some_iff.1 hz.ok
  have hzr : (zeroValue e).run P w = .ok (.int .i64 0) w := by simp [zeroValue, typeInfo, h1, h2]
  have hkeys : ∀ e ∈ es.toList, ∃ l, keyOf P k e.key = some l := fun e he => hks (e.key, e.val) (hes ▸ List.mem_map.2 ⟨e, he, rfl⟩)
  rcases hk.ok.find w hx es.toList hkeys with ⟨g1, g2⟩ | ⟨j, e0, g1, g2, g3⟩
  · refine .inl ⟨fun hm => ?_, by simp [Instr.lookup, run_underlying ht.ok, MapKept.run_getObj_map hb, hk.ok.check w _ hx, g1, hzr, Result.andThen]⟩
    rw [← hes, List.map_map] at hm
    obtain ⟨e, he, hke⟩ := List.mem_map.1 hm
    exact g2 e he hke
  · have hj : j < kv.length := by rw [← hes, List.length_map]; exact (List.getElem?_eq_some_iff.1 g2).1
    have hj0 : j < es.toList.length := (List.getElem?_eq_some_iff.1 g2).1
    have hje : es.toList[j] = e0 := (List.getElem?_eq_some_iff.1 g2).2
    subst hes
    refine .inr ⟨j, hj, ?_, ?_, ?_⟩
    · rw [List.getElem_map, ← g3, hje]
    · rw [List.getElem_map, hje]
      simp [Instr.lookup, run_underlying ht.ok, MapKept.run_getObj_map hb, hk.ok.check w _ hx, g1, Result.andThen]
    · rw [List.getElem_map, hje]
      simp [Instr.lookup, run_underlying ht.ok, MapKept.run_getObj_map hb, hk.ok.check w _ hx, g1, Result.andThen]
theorem run_mput {t e : TypeId} {x y : Value} [ht : IsM P t k e] [hk : IsKx P k] (h : MapI P k w b kv) (hx : KeyV P k x) (hn : x ∉ kv.map Prod.fst) :
    ∃ w', (Instr.mapUpdate t (.map (some b)) x y).run P w = .ok () w' ∧ MapI P k w' b (kv ++ [(x, y)]) ∧ w.grownBy w' (some b) := by
  obtain ⟨es, clock, hb, hes, hks, hnd⟩ := h
  obtain ⟨l, hx'⟩ := hx
  have hkeys : ∀ e ∈ es.toList, ∃ l, keyOf P k e.key = some l := fun e he => hks (e.key, e.val) (hes ▸ List.mem_map.2 ⟨e, he, rfl⟩)
  have hlt := (Array.getElem?_eq_some_iff.1 hb).1
  rcases hk.ok.find w hx' es.toList hkeys with ⟨g1, g2⟩ | ⟨j, e0, g1, g2, g3⟩
  · refine ⟨_, by simp [Instr.mapUpdate, run_underlying ht.ok, MapKept.run_getObj_map hb, hk.ok.check w false hx', g1, MapKept.run_setObj_map _ hb, Result.andThen]; rfl, ?_, ?_⟩
    · refine ⟨es.push ⟨x, y, clock⟩, clock + 1, by simp [hlt], by simp [hes], fun z hz => ?_, ?_⟩
      · rcases List.mem_append.1 hz with hz | hz
        · exact hks z hz
        · rw [List.mem_singleton] at hz; subst hz; exact ⟨l, hx'⟩
      · rw [List.map_append, List.nodup_append]
        refine ⟨hnd, by simp, fun a ha c hc e => ?_⟩
        simp at hc
        subst hc; subst e; exact hn ha
    · exact ⟨rfl, rfl, rfl, by simp, fun i _ hi => by
        simp only [Array.getElem?_setIfInBounds]
        rw [if_neg (fun e => hi (by rw [e]))]⟩
  · refine absurd ?_ hn
    rw [← hes, List.map_map]
    exact List.mem_map.2 ⟨e0, List.mem_of_getElem? g2, g3⟩
end
section
variable {P : Program} {Q : Exit → Act → World → Prop} {n : Nat} {σ : Sg} {w : World} {L rest : List Oper} {d : Nat} {ty : TypeId} {pos : String} {af : Array Edge} {g : Option (Nat × Bool)} {t k e : TypeId} {b : Nat} {kv : List (Value × Value)} {x y z : Operand} {v u : Value}
/-- v, ok := m[x] -/
theorem WL.mget (hg : gd L σ ⟨some d, .lookup t x y true, ty, pos, af, g⟩ = some true) (hd : Nat.ble (d + 1) n = true) (hx : ev σ x = some (.map (some b))) (hy : ev σ y = some v) [ht : IsM P t k e] [hk : IsKx P k] [hz : IsZ0 P e]
    (h : MapI P k w b kv) (hv : KeyV P k v)
    (h1 : v ∉ kv.map Prod.fst → WL P L Q rest n ((d, .tuple ⟨[.int .i64 0, .bool false]⟩) :: σ) w)
    (h2 : ∀ (j : Nat) (hj : j < kv.length), kv[j].1 = v → WL P L Q rest n ((d, .tuple ⟨[kv[j].2, .bool true]⟩) :: σ) w) :
    WL P L Q (⟨some d, .lookup t x y true, ty, pos, af, g⟩ :: rest) n σ w := by
  rcases run_mget (t := t) h hv with ⟨g1, g2⟩ | ⟨j, hj, g1, g2, _⟩
  · refine WL.run hg hd (fun a ha => ?_) (h1 g1)
    simp [execOp, ha.ev hx, ha.ev hy, g2]
  · refine WL.run hg hd (fun a ha => ?_) (h2 j hj g1)
    simp [execOp, ha.ev hx, ha.ev hy, g2]
/-- v := m[x], at a key -/
theorem WL.mgetY {j : Nat} (hj : j < kv.length) (hjv : kv[j].1 = v) (hg : gd L σ ⟨some d, .lookup t x y false, ty, pos, af, g⟩ = some true) (hd : Nat.ble (d + 1) n = true) (hx : ev σ x = some (.map (some b))) (hy : ev σ y = some v) [ht : IsM P t k e] [hk : IsKx P k] [hz : IsZ0 P e]
    (h : MapI P k w b kv) (hv : KeyV P k v)
    (hr : WL P L Q rest n ((d, kv[j].2) :: σ) w) : WL P L Q (⟨some d, .lookup t x y false, ty, pos, af, g⟩ :: rest) n σ w := by
  have hnd : (kv.map Prod.fst).Nodup := by obtain ⟨_, _, _, _, _, h⟩ := h; exact h
  rcases run_mget (t := t) h hv with ⟨g1, g2⟩ | ⟨i, hi, g1, _, g3⟩
  · exact absurd (List.mem_map.2 ⟨kv[j], List.getElem_mem hj, hjv⟩) g1
  · have hij : i = j := by
      have h1 : (kv.map Prod.fst)[i]'(by simpa using hi) = (kv.map Prod.fst)[j]'(by simpa using hj) := by simp [g1, hjv]
      exact (List.getElem_inj hnd).1 h1
    subst hij
    refine WL.run hg hd (fun a ha => ?_) hr
    simp [execOp, ha.ev hx, ha.ev hy, g3]
/-- m[x] = y, at a new key -/
theorem WL.mput (hg : gd L σ ⟨none, .mapUpdate t x y z, ty, pos, af, g⟩ = some true) (hx : ev σ x = some (.map (some b))) (hy : ev σ y = some v) (hzv : ev σ z = some u) [ht : IsM P t k e] [hk : IsKx P k]
    (h : MapI P k w b kv) (hv : KeyV P k v) (hn : v ∉ kv.map Prod.fst)
    (hr : ∀ w', MapI P k w' b (kv ++ [(v, u)]) → w.grownBy w' (some b) → WL P L Q rest n σ w') :
    WL P L Q (⟨none, .mapUpdate t x y z, ty, pos, af, g⟩ :: rest) n σ w := by
  obtain ⟨w', g1, g2, g3⟩ := run_mput (t := t) (y := u) h hv hn
  refine WL.runU hg (fun a ha => ?_) (hr w' g2 g3)
  simp [execOp, ha.ev hx, ha.ev hy, ha.ev hzv, g1]
theorem WL.mkMapI (hg : gd L σ ⟨some d, .makeMap t none, ty, pos, af, g⟩ = some true) (hd : Nat.ble (d + 1) n = true)
    (h : MapI P k (w.alloc (.map #[] 0)) w.heap.size [] → WL P L Q rest n ((d, .map (some w.heap.size)) :: σ) (w.alloc (.map #[] 0))) :
    WL P L Q (⟨some d, .makeMap t none, ty, pos, af, g⟩ :: rest) n σ w := by
  refine WL.run hg hd (fun a ha => ?_) (h (MapI.made w))
  simp [execOp, Instr.makeMap]
end
end Go.Proofs.Ytllpfgcngokhnaa

/-
  slices.Reverse at []int: the kit's proof, over our own rows.
-/
set_option linter.unusedVariables false
set_option linter.unusedSimpArgs false
namespace Go.Proofs.Ytllpfgcngokhnaa
open Go.RowKit Go.Shelf

def revRen : Ren := ⟨fun _ => 99, fun x => if Nat.beq x 3 = true then 3 else if Nat.beq x 4 = true then 4 else if Nat.beq x 28 = true then 22 else 0, fun x => x⟩
set_option maxRecDepth 100000 in
theorem revLays : Lays.n112 Try.prog revRen where
  mixed := by kernel_rfl
  f112 := (Try.func99).trans (by kernel_rfl)
  t0 := by kernel_rfl
  a0 := fun w => rfl
  z0 := fun w => rfl
  v0 := fun w => rfl
  t3 := Try.underlying3
  a3 := Try.isAgg3
  z3 := Try.sizeOf3
  v3 := Try.zeroValue3
  t4 := Try.underlying4
  a4 := Try.isAgg4
  z4 := Try.sizeOf4
  v4 := Try.zeroValue4
  t28 := Try.underlying22
  a28 := Try.isAgg22
  z28 := Try.sizeOf22
  v28 := Try.zeroValue22
theorem elems_get {w : World} {F : Nat → Prop} {cells : List Value} {xs : List Int} (h : Elems w F cells xs) : cells = xs.map fun x => Value.int .i64 x := by
  refine List.ext_getElem (by rw [List.length_map, h.1]; show _ * 1 = _; omega) fun i h1 h2 => ?_
  rw [List.length_map] at h2
  have h3 := h.2 i h2
  have hz : sz Int = 1 := rfl
  rw [hz, Nat.mul_one] at h3
  have h4 := rd_int h3
  have h5 := congrArg (fun l : List Value => l[0]?) h4
  simp only [List.getElem?_take_of_lt (show 0 < 1 by omega), List.getElem?_drop, Nat.add_zero, List.getElem?_eq_getElem h1] at h5
  simpa using h5
theorem elems_ints (w : World) (F : Nat → Prop) : ∀ xs : List Int, Elems w F (xs.map fun x => Value.int .i64 x) xs
  | [] => Elems.nil
  | x :: r => by
    have := (Elems.one (rd_mkInt w F x)).append (elems_ints w F r)
    simpa using this
theorem reverse_int (w : World) {B : Nat} {v : Value} {xs : List Int} (ho : Own w B 3 Non v xs) :
    Rt Try.prog 99 [v].toArray w fun u w' => u = .tuple #[] ∧ Own w' B 3 Non v xs.reverse ∧ w.grownBy w' v.ownBlock := by
  have hgr : w.grownBy w v.ownBlock := ⟨rfl, rfl, rfl, Nat.le_refl _, fun _ _ _ => rfl⟩
  rcases ho with ⟨rfl, rfl⟩ | ⟨g, off, cap, cur, rfl, ho⟩
  · refine Calls.mono (Any.slices_Reverse_int_empty revLays none 0 w) ?_
    rintro e w' ⟨rfl, rfl⟩
    exact ⟨_, rfl, rfl, Own.nil, hgr⟩
  · have hz : sz Int = 1 := rfl
    have hfit := ho.fit
    have hle := ho.le
    have hmx := ho.mx
    have hel := elems_get ho.el
    rw [hz, Nat.mul_one] at hfit hel
    have hcell : ∀ j (hj : j < xs.length), cur[off + j]? = some (Value.int .i64 xs[j]) := fun j hj => by
      have h1 : ((cur.toList.drop off).take xs.length)[j]? = (xs.map fun x => Value.int .i64 x)[j]? := by rw [hel]
      rw [List.getElem?_take_of_lt hj, List.getElem?_drop, List.getElem?_map, List.getElem?_eq_getElem hj] at h1
      simpa using h1
    have hH : Sort.Holds (Value.int .i64) w g off xs.toArray := fun j hj => by
      have hj' : j < xs.length := by simpa using hj
      constructor
      · have : xs.toArray[j]! = xs[j] := by simp [hj']
        rw [this]
        simp [World.cell?, ho.blk, hcell j hj']
      · simp [World.frozen?, ho.blk]
    refine Calls.mono (Any.slices_Reverse_int revLays g off cap xs w hH (by unfold maxLen at hmx; omega)) ?_
    rintro e w' ⟨rfl, n, rfl⟩
    have hheap : (Sort.putRow (Value.int .i64) (Sort.ahead w n) g off xs.reverse.toArray).heap[g]? = some (.cells (Sort.putCells (Value.int .i64) off xs.reverse.toArray cur) 3 (0, 0)) := by
      show (w.heap.modify g _)[g]? = _
      rw [Array.getElem?_modify, if_pos rfl, ho.blk]; rfl
    have hother : ∀ k, k ≠ g → (Sort.putRow (Value.int .i64) (Sort.ahead w n) g off xs.reverse.toArray).heap[k]? = w.heap[k]? := fun k hk => by
      show (w.heap.modify g _)[k]? = _
      rw [Array.getElem?_modify, if_neg (fun e => hk e.symm)]
    have hsize : (Sort.putRow (Value.int .i64) (Sort.ahead w n) g off xs.reverse.toArray).heap.size = w.heap.size := by
      show (w.heap.modify g _).size = _
      rw [Array.size_modify]
    have hos : (Sort.putRow (Value.int .i64) (Sort.ahead w n) g off xs.reverse.toArray).os = w.os := rfl
    have htp : (Sort.putRow (Value.int .i64) (Sort.ahead w n) g off xs.reverse.toArray).tape = w.tape := rfl
    have hou : (Sort.putRow (Value.int .i64) (Sort.ahead w n) g off xs.reverse.toArray).output = w.output := rfl
    generalize Sort.putRow (Value.int .i64) (Sort.ahead w n) g off xs.reverse.toArray = w' at *
    have hps : (Sort.putCells (Value.int .i64) off xs.reverse.toArray cur).size = cur.size := by simp [Sort.putCells]
    refine ⟨_, rfl, rfl, .inr ⟨g, off, cap, _, by rw [List.length_reverse], ⟨hheap, ho.ge, ho.nF, by simpa using hle, hmx, by rw [hps, hz]; omega, ?_⟩⟩, ⟨hos, htp, hou, by omega, fun k _ hk => hother k (fun e => hk (by rw [e]; rfl))⟩⟩
    have e1 : (((Sort.putCells (Value.int .i64) off xs.reverse.toArray cur).toList.drop off).take (xs.reverse.length * sz Int)) = xs.reverse.map fun x => Value.int .i64 x := by
      rw [hz, Nat.mul_one]
      refine List.ext_getElem? fun j => ?_
      by_cases hj : j < xs.length
      · rw [List.getElem?_take_of_lt (by simpa using hj), List.getElem?_drop, Array.getElem?_toList, Sort.putCells, Array.getElem?_mapIdx, hcell j hj, List.getElem?_map, List.getElem?_eq_getElem (by simpa using hj)]
        simp [hj, show off + j < off + xs.length by omega]
      · rw [List.getElem?_eq_none (by simp; try omega), List.getElem?_eq_none (by simp; try omega)]
    rw [e1]
    exact elems_ints _ _ _
end Go.Proofs.Ytllpfgcngokhnaa

/-
  Package empty: way: walked.
-/
set_option linter.unusedVariables false
set_option linter.unusedSimpArgs false
namespace Go.Proofs.Ytllpfgcngokhnaa
open Go.RowKit

theorem Don_push {g : List (List Int)} {to al : Nat → Bool} {up : UP} {h : Nat} {x : Int × Int} (hh : h ≤ up.length)
    (hd : ∀ i (hi : i < up.length), i < h → to up[i].1.toNat = false ∧ ∀ k ∈ g.getD up[i].1.toNat [], al k.toNat = true → k ∈ keysU up) :
    ∀ i (hi : i < (up ++ [x]).length), i < h → to (up ++ [x])[i].1.toNat = false ∧ ∀ k ∈ g.getD (up ++ [x])[i].1.toNat [], al k.toNat = true → k ∈ keysU (up ++ [x]) := fun i hi hih => by
  have h' : i < up.length := by omega
  rw [List.getElem_append_left h']
  refine ⟨(hd i h' hih).1, fun k hk ha => ?_⟩
  unfold keysU
  rw [List.map_append]
  exact List.mem_append_left _ ((hd i h' hih).2 k hk ha)
instance iEw1 : IsM Try.prog 150 3 3 := ⟨Try.underlying150⟩
instance iEw2 : IsC Try.prog 150 1 false := IsC.of (by kernel_rfl) Try.underlying150 rfl
instance iEw3 : IsZ0 Try.prog 3 := ⟨by kernel_rfl⟩
instance iEw4 : IsKx Try.prog 3 := IsKx.int Try.underlying3
def kvU (up : UP) : List (Value × Value) := up.map fun x => (Value.int .i64 x.1, Value.int .i64 x.2)
theorem kvU_push {up : UP} {x : Int × Int} : kvU up ++ [(Value.int .i64 x.1, Value.int .i64 x.2)] = kvU (up ++ [x]) := by unfold kvU; simp
theorem kvU_key {up : UP} {x : Int} : Value.int .i64 x ∈ (kvU up).map Prod.fst ↔ x ∈ keysU up := by
  unfold kvU keysU
  simp only [List.map_map, List.mem_map, Function.comp]
  constructor
  · rintro ⟨a, ha, e⟩; injection e with _ e; exact ⟨a, ha, e⟩
  · rintro ⟨a, ha, e⟩; exact ⟨a, ha, by rw [e]⟩
theorem kvU_len {up : UP} : (kvU up).length = up.length := by unfold kvU; simp
theorem keyI {x : Int} (h : 0 ≤ x ∧ x < 9223372036854775807) : KeyV Try.prog 3 (.int .i64 x) := KeyV.int Try.underlying3 ⟨by omega, by omega⟩
set_option maxHeartbeats 4000000 in
theorem eway_ok (w0 : World) {sb : Nat} {x0 x1 x2 x3 x4 x5 x6 x7 x8 x9 x10 x12 fv : Value} {no fo po : Option Addr} {nc fc pc : Nat} {g : List (List Int)} {fr part : List Int} {only : Int} {to : Nat → Bool}
    (hb : Blk w0 sb 90 [x0, x1, x2, x3, x4, x5, x6, x7, x8, x9, x10, .slice no g.length nc, x12]) (hg : Sl w0 (Old w0) no nc g) (hf : Sl w0 (Old w0) fo fc fr) (hp : Sl w0 (Old w0) po pc part)
    (hG : okG g) (hfr : okL g.length fr) (hpl : part.length = g.length) (hN : g.length ≤ 1228800)
    (hto : ∀ w, Ext w0 w → ∀ n : Nat, n < g.length → FnV Try.prog fv [.int .i64 (n : Int)] w fun v w' => v = .bool (to n) ∧ Ext w w') :
    Rt Try.prog 48 [.pointer (some ⟨sb, 0, none⟩), .slice fo fr.length fc, fv, .slice po part.length pc, .int .i64 only].toArray w0 fun v w' => ∃ r, Own w' w0.heap.size 3 Non v r ∧ ((r = [] ∧ WyNo g fr to (alB part only)) ∨ WyOK g fr to (alB part only) r) ∧ Ext w0 w' := by
  have hfl := hf.len63
  refine Rt.enter5 Try.func48 Try.ntmps48 rfl rfl ?_
  (repeat (first | (apply WL.pure; rfl; rfl; rfl) | (apply WL.nil) | (apply EX.thenN) | (apply CW.seq) | (apply CW.region)))
  refine WL.mkMapI (k := 3) rfl rfl (fun hmap => ?_)
  have e1 : Ext w0 (w0.alloc (.map #[] 0)) := Ext.alloc w0 _
  generalize hmb : w0.heap.size = mb at *
  generalize w0.alloc (.map #[] 0) = w1 at *
  have lmb := hmap.lt
  have hle1 := e1.size
  (repeat (first | (apply WL.pure; rfl; rfl; rfl) | (apply WL.nil) | (apply EX.thenN) | (apply CW.seq) | (apply CW.region) | (apply WL.lenS; rfl; rfl; rfl) | (apply CW.block)))
  refine CW.loop (S := Nat × UP × Value) (fun s => [(0, .pointer (some ⟨sb, 0, none⟩)), (2, fv), (3, .slice po part.length pc), (4, .int .i64 only), (11, .map (some mb)), (12, s.2.2), (24, .slice fo fr.length fc), (25, .int .i64 fr.length), (26, .int .i64 s.1)])
    (fun s w => s.1 ≤ fr.length ∧ WyC g fr (alB part only) s.2.1 ∧ (∀ x ∈ fr.take s.1, x ∈ keysU s.2.1) ∧ MapI Try.prog 3 w mb (kvU s.2.1) ∧ Own w w1.heap.size 3 Non s.2.2 (keysU s.2.1) ∧ Ext w0 w ∧ w1.heap.size ≤ w.heap.size) (fun s => fr.length - s.1) (0, [], .slice none 0 0) (by repeat (first | exact trivial | refine ⟨rfl, ?_⟩)) ⟨Nat.zero_le _, WyC.nil, (fun x hx => by simp at hx), hmap, Own.nil, e1, Nat.le_refl _⟩ ?_
  clear hmap
  rintro ⟨i, up, tv⟩ w2 ⟨hi, hC, hfm, hM, ho, hE2, hz2⟩
  dsimp only at hi hC hfm hM ho hE2 hz2 ⊢
  have hul := hC.len
  have hkl : (keysU up).length = up.length := List.length_map _
  have hlt := fun g hg => ho.lt g hg
  (repeat (first | (apply WL.pure; rfl; rfl; rfl) | (apply WL.nil) | (apply EX.thenN) | (apply CW.seq) | (apply CW.region)))
  refine CW.cond rfl (fun h => ?_) (fun h => ?_)
  · have hi' : i < fr.length := by simp at h; omega
    have hxr := hfr _ (List.getElem_mem hi')
    have htk : fr.take (i + 1) = fr.take i ++ [fr[i]] := List.take_succ_eq_append_getElem hi'
    have hxm := List.getElem_mem hi'
    (repeat (first | (apply EX.thenN) | (apply CW.seq) | (apply CW.region) | (apply CW.block) | (apply CW.skip)))
    refine WL.elemI rfl rfl rfl rfl rfl (hf.up hE2) hi' rfl (fun _ => rfl) (fun q => ?_)
    generalize fr[i] = x at *
    (repeat (first | (apply WL.pure; rfl; rfl; rfl) | (apply WL.nil) | (apply EX.thenN) | (apply CW.seq) | (apply CW.region)))
    refine WL.mget rfl rfl rfl rfl hM (keyI ⟨hxr.1, by omega⟩) (fun hn => ?_) (fun j hj hjx => ?_)
    · have hn := fun h => hn (kvU_key.2 h)
      (repeat (first | (apply WL.pure; rfl; rfl; rfl) | (apply WL.nil) | (apply EX.thenN) | (apply CW.seq) | (apply CW.region) | (apply CW.condT; rfl)))
      refine WL.mput rfl rfl rfl rfl hM (keyI ⟨hxr.1, by omega⟩) (fun h => hn (kvU_key.1 h)) (fun w3 hM3 hg3 => ?_)
      rw [kvU_push (x := (x, -1))] at hM3
      have ho3 := ho.keptN hg3 (fun g hg e => by have := (hlt g hg).1; have := Option.some.inj e; omega)
      have hE3 : Ext w0 w3 := hE2.grown hg3 hE2.size (fun g hg => by cases hg; omega)
      have hz3 := hg3.size
      (repeat (first | (apply WL.pure; rfl; rfl; rfl) | (apply WL.nil) | (apply EX.thenN) | (apply CW.region)))
      refine WL.app1 (F := Non) (yv := x) rfl rfl (fun _ => rfl) rfl rfl (fun _ => rfl) ho3 (Rd.mkInt _ _ _) (by omega) (fun _ h => h.elim) (by decide) (by unfold maxLen; omega) (by omega) (fun tv' w4 p ho4 hg4 hnb4 => ?_)
      have hM4 := hM3.kept hg4 (fun e => by have := (hlt _ e.symm).1; omega)
      have hE4 : Ext w0 w4 := hE3.grown hg4 hE3.size (fun g hg => by have := (hlt g hg).1; omega)
      have hz4 := hg4.size
      (repeat (first | (apply WL.add; rfl; rfl; rfl; rfl; omega; omega) | (apply WL.pure; rfl; rfl; rfl) | (apply WL.nil) | (apply EX.thenN) | (apply CW.region) | (apply EX.inN)))
      refine EX.back (i + 1, up ++ [(x, -1)], tv') (by repeat (first | exact trivial | refine ⟨rfl, ?_⟩)) ⟨hi', hC.push hn hxr (.inl ⟨rfl, hxm⟩), fun y hy => ?_, hM4, by simpa [keysU] using ho4, hE4, by omega⟩ (by dsimp only; omega)
      dsimp only at hy ⊢
      rw [htk] at hy
      unfold keysU
      rw [List.map_append]
      rcases List.mem_append.1 hy with hy | hy
      · exact List.mem_append_left _ (hfm y hy)
      · rw [List.mem_singleton] at hy; subst hy; exact List.mem_append_right _ (by simp)
    · have hxk : x ∈ keysU up := kvU_key.1 (by rw [← hjx]; exact List.mem_map.2 ⟨_, List.getElem_mem hj, rfl⟩)
      (repeat (first | (apply WL.add; rfl; rfl; rfl; rfl; omega; omega) | (apply WL.pure; rfl; rfl; rfl) | (apply WL.nil) | (apply EX.thenN) | (apply CW.seq) | (apply CW.region) | (apply EX.inN) | (apply CW.condF; rfl) | (apply CW.skip)))
      refine EX.back (i + 1, up, tv) (by repeat (first | exact trivial | refine ⟨rfl, ?_⟩)) ⟨hi', hC, fun y hy => ?_, hM, ho, hE2, hz2⟩ (by dsimp only; omega)
      dsimp only at hy ⊢
      rw [htk] at hy
      rcases List.mem_append.1 hy with hy | hy
      · exact hfm y hy
      · rw [List.mem_singleton] at hy; subst hy; exact hxk
  obtain rfl : i = fr.length := by simp at h; omega
  rw [List.take_length] at hfm
  clear h hi
  (repeat (first | (apply EX.thenN) | (apply CW.seq) | (apply CW.block) | (apply CW.exit) | (apply EX.thenX) | (apply EX.inX)))
  refine CW.loop (S := Nat × UP × Value) (fun s => [(0, .pointer (some ⟨sb, 0, none⟩)), (2, fv), (3, .slice po part.length pc), (4, .int .i64 only), (11, .map (some mb)), (12, s.2.2)])
    (fun s w => s.1 ≤ s.2.1.length ∧ WyC g fr (alB part only) s.2.1 ∧ (∀ x ∈ fr, x ∈ keysU s.2.1) ∧ (∀ i (hi : i < s.2.1.length), i < s.1 → to s.2.1[i].1.toNat = false ∧ ∀ k ∈ g.getD s.2.1[i].1.toNat [], alB part only k.toNat = true → k ∈ keysU s.2.1) ∧ MapI Try.prog 3 w mb (kvU s.2.1) ∧ Own w w1.heap.size 3 Non s.2.2 ((keysU s.2.1).drop s.1) ∧ Ext w0 w ∧ w1.heap.size ≤ w.heap.size) (fun s => g.length - s.1) (0, up, tv) (by repeat (first | exact trivial | refine ⟨rfl, ?_⟩)) ⟨Nat.zero_le _, hC, hfm, fun i hi h => absurd h (by simp), hM, by simpa using ho, hE2, hz2⟩ ?_
  clear hC hfm hM ho hE2 hz2 hul hkl hlt
  rintro ⟨h, up, tv⟩ w2 ⟨hh, hC, hfm, hD, hM, ho, hE2, hz2⟩
  dsimp only at hh hC hfm hD hM ho hE2 hz2 ⊢
  have hul := hC.len
  have hkl : (keysU up).length = up.length := List.length_map _
  have hlt := fun g hg => ho.lt g hg
  have hdl : ((keysU up).drop h).length = up.length - h := by rw [List.length_drop, hkl]
  (repeat (first | (apply WL.pure; rfl; rfl; rfl) | (apply WL.nil) | (apply EX.thenN) | (apply CW.seq) | (apply CW.region) | (refine WL.lenO rfl rfl rfl (by assumption) ?_)))
  refine CW.cond rfl (fun hc => ?_) (fun hc => ?_)
  · have hh' : h < up.length := by rw [hdl] at hc; simp at hc; omega
    have hhk : h < (keysU up).length := by omega
    have hd0 : 0 < ((keysU up).drop h).length := by omega
    have hget : ((keysU up).drop h)[0] = up[h].1 := by rw [List.getElem_drop]; simp [keysU]
    have hnr := hC.rg _ (List.mem_map.2 ⟨up[h], List.getElem_mem hh', rfl⟩)
    (repeat (first | (apply WL.pure; rfl; rfl; rfl) | (apply EX.thenN) | (apply CW.seq) | (apply CW.region) | (apply CW.block) | (apply CW.skip)))
    refine WL.elemON (i := 0) rfl rfl rfl rfl rfl ho hd0 (fun _ => rfl) (fun u q hu => ?_)
    obtain rfl := hu.int
    rw [hget]
    obtain ⟨n, hn⟩ : ∃ n : Nat, up[h].1 = (n : Int) := ⟨up[h].1.toNat, by omega⟩
    rw [hn]
    rw [hn] at hnr
    (repeat (first | (apply WL.pure; rfl; rfl; rfl) | (apply WL.nil) | (apply EX.thenN) | (apply CW.seq) | (apply CW.region)))
    refine WL.cutLoO (α := Int) 1 rfl rfl rfl rfl rfl ho (by omega) (fun tv2 ho2 hob => ?_)
    rw [List.drop_drop] at ho2
    (repeat (first | (apply WL.pure; rfl; rfl; rfl) | (apply WL.nil) | (apply EX.thenN) | (apply CW.seq) | (apply CW.region)))
    refine WL.callF rfl rfl rfl rfl (hto w2 hE2 n (by omega)) ?_
    rintro _ w3 ⟨rfl, e3⟩
    have hM3 := hM.ext e3
    have ho3 := ho2.extN e3
    have hE3 := hE2.trans e3
    have hz3 : w1.heap.size ≤ w3.heap.size := Nat.le_trans hz2 e3.size
    have hlt3 := fun g hg => ho3.lt g hg
    cases htn : to n
    · -- on
      have hgn : n < g.length := by omega
      have hrow : g.getD n [] = g[n] := by rw [List.getD_eq_getElem?_getD, List.getElem?_eq_getElem hgn]; rfl
      have hrr : okL g.length g[n] := hG _ (List.getElem_mem hgn)
      have hb3 := hb.ext hE3
      (repeat (first | (apply WL.pure; rfl; rfl; rfl) | (apply WL.nil) | (apply EX.thenN) | (apply CW.seq) | (apply CW.region) | (apply WL.fa; rfl; rfl; rfl) | (apply WL.nck; rfl; rfl; rfl) | (apply WL.ld; rfl; rfl; rfl; assumption; rfl) | (apply CW.condF; rfl) | (apply CW.skip)))
      refine WL.elemN (i := n) rfl rfl rfl rfl rfl (hg.mono (w' := w3) hE3.block (F' := Old w0) (fun _ h => h)) hgn (fun _ => rfl) (fun u q hu => ?_)
      obtain ⟨ro, rc, rfl, hrs⟩ := hu.sl
      generalize g[n] = row at *
      have hrl := hrs.len63
      (repeat (first | (apply WL.pure; rfl; rfl; rfl) | (apply WL.nil) | (apply EX.thenN) | (apply WL.lenS; rfl; rfl; rfl) | (apply CW.block)))
      refine CW.loop (S := Nat × UP × Value) (fun s => [(0, .pointer (some ⟨sb, 0, none⟩)), (2, fv), (3, .slice po part.length pc), (4, .int .i64 only), (11, .map (some mb)), (12, s.2.2), (17, .int .i64 n), (74, .slice ro row.length rc), (75, .int .i64 row.length), (76, .int .i64 s.1)])
        (fun s w => s.1 ≤ row.length ∧ WyC g fr (alB part only) s.2.1 ∧ (∀ x ∈ fr, x ∈ keysU s.2.1) ∧ (∀ i (hi : i < s.2.1.length), i < h → to s.2.1[i].1.toNat = false ∧ ∀ k ∈ g.getD s.2.1[i].1.toNat [], alB part only k.toNat = true → k ∈ keysU s.2.1) ∧ (∃ hh' : h < s.2.1.length, s.2.1[h].1 = (n : Int)) ∧ (∀ k ∈ row.take s.1, alB part only k.toNat = true → k ∈ keysU s.2.1) ∧ MapI Try.prog 3 w mb (kvU s.2.1) ∧ Own w w1.heap.size 3 Non s.2.2 ((keysU s.2.1).drop (h + 1)) ∧ Ext w0 w ∧ w1.heap.size ≤ w.heap.size) (fun s => row.length - s.1) (0, up, tv2) (by repeat (first | exact trivial | refine ⟨rfl, ?_⟩)) ⟨Nat.zero_le _, hC, hfm, hD, ⟨hh', hn⟩, (fun k hk => by simp at hk), hM3, by simpa [Nat.add_comm] using ho3, hE3, hz3⟩ ?_
      clear hC hfm hD hM3 ho3 hul hc ho2 hob hlt3
      rintro ⟨j, up, tv⟩ w4 ⟨hj, hC, hfm, hD, ⟨hh', hn⟩, hpt, hM, ho, hE04, hz4⟩
      dsimp only at hj hC hfm hD hh' hn hpt hM ho hE04 hz4 ⊢
      have hul := hC.len
      have hkl : (keysU up).length = up.length := List.length_map _
      have hlt := fun g hg => ho.lt g hg
      (repeat (first | (apply WL.pure; rfl; rfl; rfl) | (apply WL.nil) | (apply EX.thenN) | (apply CW.seq) | (apply CW.region)))
      refine CW.cond rfl (fun hc => ?_) (fun hc => ?_)
      · have hj' : j < row.length := by simp at hc; omega
        have hkr := hrr _ (List.getElem_mem hj')
        have hkm : row[j] ∈ g.getD n [] := by rw [hrow]; exact List.getElem_mem hj'
        have htk : row.take (j + 1) = row.take j ++ [row[j]] := List.take_succ_eq_append_getElem hj'
        have skip : ∀ (hx : alB part only row[j].toNat = true → row[j] ∈ keysU up), ∀ k ∈ row.take (j + 1), alB part only k.toNat = true → k ∈ keysU up := fun hx k hk ha => by
          rw [htk] at hk
          rcases List.mem_append.1 hk with hk | hk
          · exact hpt k hk ha
          · rw [List.mem_singleton] at hk; subst hk; exact hx ha
        (repeat (first | (apply EX.thenN) | (apply CW.seq) | (apply CW.region) | (apply CW.block) | (apply CW.skip)))
        refine WL.elemI rfl rfl rfl rfl rfl (hrs.mono (w' := w4) (fun b hb => (hE04.block b hb).trans (hE3.block b hb).symm) (F' := Old w0) (fun _ h => h)) hj' rfl (fun _ => rfl) (fun q => ?_)
        generalize row[j] = k at *
        obtain ⟨kn, rfl⟩ : ∃ m : Nat, k = (m : Int) := ⟨k.toNat, by omega⟩
        have hkp : kn < part.length := by omega
        have hpk : part.getD kn 0 = part[kn] := by rw [List.getD_eq_getElem?_getD, List.getElem?_eq_getElem hkp]; rfl
        rw [Int.toNat_natCast] at skip
        (repeat (first | (apply WL.pure; rfl; rfl; rfl) | (apply WL.nil) | (apply EX.thenN) | (apply CW.seq) | (apply CW.region)))
        refine WL.mget rfl rfl rfl rfl hM (keyI ⟨hkr.1, by omega⟩) (fun hnk => ?_) (fun i hi hix => ?_)
        · have hnk := fun h => hnk (kvU_key.2 h)
          have hpush : ∀ (ha : alB part only kn = true) (w5 : World) (tv' : Value), MapI Try.prog 3 w5 mb (kvU (up ++ [((kn : Int), (n : Int))])) → Own w5 w1.heap.size 3 Non tv' ((keysU up).drop (h + 1) ++ [(kn : Int)]) → Ext w0 w5 → w1.heap.size ≤ w5.heap.size →
              (j + 1 ≤ row.length ∧ WyC g fr (alB part only) (up ++ [((kn : Int), (n : Int))]) ∧ (∀ x ∈ fr, x ∈ keysU (up ++ [((kn : Int), (n : Int))])) ∧ (∀ i (hi : i < (up ++ [((kn : Int), (n : Int))]).length), i < h → to (up ++ [((kn : Int), (n : Int))])[i].1.toNat = false ∧ ∀ k ∈ g.getD (up ++ [((kn : Int), (n : Int))])[i].1.toNat [], alB part only k.toNat = true → k ∈ keysU (up ++ [((kn : Int), (n : Int))])) ∧ (∃ hh' : h < (up ++ [((kn : Int), (n : Int))]).length, (up ++ [((kn : Int), (n : Int))])[h].1 = (n : Int)) ∧ (∀ k ∈ row.take (j + 1), alB part only k.toNat = true → k ∈ keysU (up ++ [((kn : Int), (n : Int))])) ∧ MapI Try.prog 3 w5 mb (kvU (up ++ [((kn : Int), (n : Int))])) ∧ Own w5 w1.heap.size 3 Non tv' ((keysU (up ++ [((kn : Int), (n : Int))])).drop (h + 1)) ∧ Ext w0 w5 ∧ w1.heap.size ≤ w5.heap.size) := by
            intro ha w5 tv' hM5 ho5 hE5 hz5
            have hin : ∀ x, x ∈ keysU up → x ∈ keysU (up ++ [((kn : Int), (n : Int))]) := fun x hx => by unfold keysU; rw [List.map_append]; exact List.mem_append_left _ hx
            refine ⟨hj', hC.push hnk hkr (.inr ⟨h, hh', by rw [hn], by rw [hn, Int.toNat_natCast]; exact hkm, by rw [Int.toNat_natCast]; exact ha⟩), fun x hx => hin x (hfm x hx), Don_push (by omega) hD, ⟨by simp; omega, by rw [List.getElem_append_left hh']; exact hn⟩, fun x hx hxa => ?_, hM5, ?_, hE5, hz5⟩
            · rw [htk] at hx
              rcases List.mem_append.1 hx with hx | hx
              · exact hin x (hpt x hx hxa)
              · rw [List.mem_singleton] at hx; subst hx; unfold keysU; rw [List.map_append]; exact List.mem_append_right _ (by simp)
            · rw [show (keysU (up ++ [((kn : Int), (n : Int))])).drop (h + 1) = (keysU up).drop (h + 1) ++ [(kn : Int)] by
                unfold keysU
                rw [List.map_append, List.drop_append_of_le_length (by simp; omega)]; rfl]
              exact ho5
          have hdlen : ((keysU up).drop (h + 1)).length ≤ 1228800 := by rw [List.length_drop]; omega
          have ins : ∀ (w5 : World) (hM5 : MapI Try.prog 3 w5 mb (kvU up ++ [(Value.int .i64 (kn : Int), Value.int .i64 (n : Int))])) (hg5 : w4.grownBy w5 (some mb)), Own w5 w1.heap.size 3 Non tv ((keysU up).drop (h + 1)) ∧ Ext w0 w5 ∧ w1.heap.size ≤ w5.heap.size := fun w5 hM5 hg5 =>
            ⟨ho.keptN hg5 (fun g hg e => by have := (hlt g hg).1; have := Option.some.inj e; omega), hE04.grown hg5 hE04.size (fun g hg => by cases hg; omega), by have := hg5.size; omega⟩
          by_cases hon : only < 0
          · have ha : alB part only kn = true := by unfold alB; rw [decide_eq_true hon]; rfl
            (repeat (first | (apply WL.pure; rfl; rfl; rfl) | (apply WL.nil) | (apply EX.thenN) | (apply CW.seq) | (apply CW.region)))
            rw [decide_eq_true hon]
            (repeat (first | (apply WL.pure; rfl; rfl; rfl) | (apply WL.nil) | (apply EX.thenN) | (apply CW.seq) | (apply CW.region) | (apply WL.pass; rfl; rfl) | (apply CW.condT; rfl)))
            refine WL.mput rfl rfl rfl rfl hM (keyI ⟨hkr.1, by omega⟩) (fun h => hnk (kvU_key.1 h)) (fun w5 hM5 hg5 => ?_)
            obtain ⟨ho5, hE5, hz5⟩ := ins w5 hM5 hg5
            (repeat (first | (apply WL.pure; rfl; rfl; rfl) | (apply WL.nil) | (apply EX.thenN) | (apply CW.region)))
            refine WL.app1 (F := Non) (yv := (kn : Int)) rfl rfl (fun _ => rfl) rfl rfl (fun _ => rfl) ho5 (Rd.mkInt _ _ _) (by omega) (fun _ h => h.elim) (by decide) (by unfold maxLen; omega) (by omega) (fun tv' w6 p ho6 hg6 hnb6 => ?_)
            have hM6 := hM5.kept hg6 (fun e => by have := (hlt _ e.symm).1; omega)
            rw [kvU_push (x := ((kn : Int), (n : Int)))] at hM6
            (repeat (first | (apply WL.add; rfl; rfl; rfl; rfl; omega; omega) | (apply WL.pure; rfl; rfl; rfl) | (apply WL.nil) | (apply EX.thenN) | (apply CW.region) | (apply EX.inN)))
            exact EX.back (j + 1, up ++ [((kn : Int), (n : Int))], tv') (by repeat (first | exact trivial | refine ⟨rfl, ?_⟩)) (hpush ha w6 tv' hM6 ho6 (hE5.grown hg6 hE5.size (fun g hg => by have := (hlt g hg).1; omega)) (by have := hg6.size; omega)) (by dsimp only; omega)
          by_cases hpe : part[kn] = only
          · have ha : alB part only kn = true := by unfold alB; rw [hpk, decide_eq_true hpe, Bool.or_true]
            (repeat (first | (apply WL.pure; rfl; rfl; rfl) | (apply WL.nil) | (apply EX.thenN) | (apply CW.seq) | (apply CW.region)))
            rw [decide_eq_false hon]
            (repeat (apply WL.pure; rfl; rfl; rfl))
            refine WL.elemI rfl rfl rfl rfl rfl (hp.at hE04) hkp rfl (fun _ => rfl) (fun q => ?_)
            rw [hpe]
            (repeat (first | (apply WL.pure; rfl; rfl; rfl) | (apply WL.nil) | (apply EX.thenN)))
            refine CW.cond rfl (fun _ => ?_) (fun hx => by simp at hx)
            (repeat (first | (apply WL.pure; rfl; rfl; rfl) | (apply CW.seq) | (apply CW.region)))
            refine WL.mput rfl rfl rfl rfl hM (keyI ⟨hkr.1, by omega⟩) (fun h => hnk (kvU_key.1 h)) (fun w5 hM5 hg5 => ?_)
            obtain ⟨ho5, hE5, hz5⟩ := ins w5 hM5 hg5
            (repeat (first | (apply WL.pure; rfl; rfl; rfl) | (apply WL.nil) | (apply EX.thenN) | (apply CW.region)))
            refine WL.app1 (F := Non) (yv := (kn : Int)) rfl rfl (fun _ => rfl) rfl rfl (fun _ => rfl) ho5 (Rd.mkInt _ _ _) (by omega) (fun _ h => h.elim) (by decide) (by unfold maxLen; omega) (by omega) (fun tv' w6 p ho6 hg6 hnb6 => ?_)
            have hM6 := hM5.kept hg6 (fun e => by have := (hlt _ e.symm).1; omega)
            rw [kvU_push (x := ((kn : Int), (n : Int)))] at hM6
            (repeat (first | (apply WL.add; rfl; rfl; rfl; rfl; omega; omega) | (apply WL.pure; rfl; rfl; rfl) | (apply WL.nil) | (apply EX.thenN) | (apply CW.region) | (apply EX.inN)))
            exact EX.back (j + 1, up ++ [((kn : Int), (n : Int))], tv') (by repeat (first | exact trivial | refine ⟨rfl, ?_⟩)) (hpush ha w6 tv' hM6 ho6 (hE5.grown hg6 hE5.size (fun g hg => by have := (hlt g hg).1; omega)) (by have := hg6.size; omega)) (by dsimp only; omega)
          · have ha : ¬ alB part only kn = true := by unfold alB; rw [hpk, decide_eq_false hpe, decide_eq_false hon]; decide
            (repeat (first | (apply WL.pure; rfl; rfl; rfl) | (apply WL.nil) | (apply EX.thenN) | (apply CW.seq) | (apply CW.region)))
            rw [decide_eq_false hon]
            (repeat (apply WL.pure; rfl; rfl; rfl))
            refine WL.elemI rfl rfl rfl rfl rfl (hp.at hE04) hkp rfl (fun _ => rfl) (fun q => ?_)
            (repeat (first | (apply WL.pure; rfl; rfl; rfl) | (apply WL.nil) | (apply EX.thenN)))
            refine CW.cond rfl (fun hx => absurd (by simpa using hx) hpe) (fun _ => ?_)
            (repeat (first | (apply WL.add; rfl; rfl; rfl; rfl; omega; omega) | (apply WL.pure; rfl; rfl; rfl) | (apply WL.nil) | (apply EX.thenN) | (apply CW.region) | (apply EX.inN) | (apply CW.skip)))
            exact EX.back (j + 1, up, tv) (by repeat (first | exact trivial | refine ⟨rfl, ?_⟩)) ⟨hj', hC, hfm, hD, ⟨hh', hn⟩, skip (fun h => absurd h ha), hM, ho, hE04, hz4⟩ (by dsimp only; omega)
        · have hxk : (kn : Int) ∈ keysU up := kvU_key.1 (by rw [← hix]; exact List.mem_map.2 ⟨_, List.getElem_mem hi, rfl⟩)
          (repeat (first | (apply WL.add; rfl; rfl; rfl; rfl; omega; omega) | (apply WL.pure; rfl; rfl; rfl) | (apply WL.nil) | (apply EX.thenN) | (apply CW.seq) | (apply CW.region) | (apply WL.pass; rfl; rfl) | (apply EX.inN) | (apply CW.condF; rfl) | (apply CW.skip)))
          exact EX.back (j + 1, up, tv) (by repeat (first | exact trivial | refine ⟨rfl, ?_⟩)) ⟨hj', hC, hfm, hD, ⟨hh', hn⟩, skip (fun _ => hxk), hM, ho, hE04, hz4⟩ (by dsimp only; omega)
      · obtain rfl : j = row.length := by simp at hc; omega
        rw [List.take_length] at hpt
        (repeat (first | (apply EX.inN) | (apply CW.exit) | (apply EX.thenX) | (apply EX.inX)))
        refine EX.back (h + 1, up, tv) (by repeat (first | exact trivial | refine ⟨rfl, ?_⟩)) ⟨hh', hC, hfm, fun i hi hih => ?_, hM, ho, hE04, hz4⟩ (by dsimp only; omega)
        dsimp only at hi hih ⊢
        by_cases e : i < h
        · exact hD i hi e
        · obtain rfl : i = h := by omega
          rw [hn, Int.toNat_natCast]
          exact ⟨htn, fun k hk ha => hpt k (by rw [← hrow]; exact hk) ha⟩
    · -- there
      have hq1 : Value.int .i64 (n : Int) = .int .i64 (numQ up (h + 1)) := by
        rw [← hn]; unfold numQ; rw [dif_pos ⟨by omega, by omega⟩]; rfl
      (repeat (first | (apply WL.pure; rfl; rfl; rfl) | (apply WL.nil) | (apply EX.thenN) | (apply CW.seq) | (apply CW.region) | (apply CW.block) | (apply CW.condT; rfl)))
      rw [hq1]
      refine CW.loop (S := Nat × List Int × Value) (fun s => [(11, .map (some mb)), (17, .int .i64 (numQ up s.1)), (18, s.2.2)])
        (fun s w => BackI g fr (alB part only) up h s.1 s.2.1 ∧ MapI Try.prog 3 w mb (kvU up) ∧ Own w w1.heap.size 3 Non s.2.2 s.2.1 ∧ Ext w0 w ∧ w1.heap.size ≤ w.heap.size) (fun s => s.1) (h + 1, [], .slice none 0 0) (by repeat (first | exact trivial | refine ⟨rfl, ?_⟩)) ⟨BackI.start hh', hM3, Own.nil, hE3, hz3⟩ ?_
      clear hM3 ho3 hlt3
      rintro ⟨q, out, ov⟩ w4 ⟨hI, hM, ho, hE4, hz4⟩
      dsimp only at hI hM ho hE4 hz4 ⊢
      have hq := hI.hq
      have hlen := hI.len
      have hltq := fun g hg => ho.lt g hg
      (repeat (first | (apply WL.pure; rfl; rfl; rfl) | (apply WL.nil) | (apply EX.thenN) | (apply CW.seq) | (apply CW.region)))
      refine CW.cond rfl (fun hc => ?_) (fun hc => ?_)
      · have hc : 0 ≤ numQ up q := by simpa using hc
        have h0 : 0 < q := by
          rcases Nat.eq_zero_or_pos q with e | e
          · subst e; simp [numQ] at hc
          · exact e
        have hqn : numQ up q = up[q - 1].1 := by unfold numQ; rw [dif_pos ⟨h0, hq⟩]
        obtain ⟨q', hq', hv, hI'⟩ := hI.step hC h0
        have hqr := hC.rg _ (List.mem_map.2 ⟨up[q - 1], List.getElem_mem (by omega), rfl⟩)
        have hkq : q - 1 < (kvU up).length := by rw [kvU_len]; omega
        have hk1 : (kvU up)[q - 1].1 = .int .i64 (numQ up q) := by rw [hqn]; simp [kvU]
        have hk2 : (kvU up)[q - 1].2 = .int .i64 (numQ up q') := by rw [← hv]; simp [kvU]
        (repeat (first | (apply WL.pure; rfl; rfl; rfl) | (apply EX.thenN) | (apply CW.seq) | (apply CW.region) | (apply CW.block) | (apply CW.skip)))
        refine WL.app1 (F := Non) (yv := numQ up q) rfl rfl (fun _ => rfl) rfl rfl (fun _ => rfl) ho (Rd.mkInt _ _ _) (by omega) (fun _ h => h.elim) (by decide) (by unfold maxLen; omega) (by omega) (fun ov' w5 p ho5 hg5 hnb5 => ?_)
        have hM5 := hM.kept hg5 (fun e => by have := (hltq _ e.symm).1; omega)
        have hE5 : Ext w0 w5 := hE4.grown hg5 hE4.size (fun g hg => by have := (hltq g hg).1; omega)
        rw [hqn] at ho5
        (repeat (first | (apply WL.pure; rfl; rfl; rfl) | (apply WL.nil) | (apply EX.thenN) | (apply CW.region) | (apply EX.inN)))
        refine WL.mgetY (j := q - 1) hkq hk1 rfl rfl rfl rfl hM5 (keyI ⟨hc, by rw [hqn]; omega⟩) ?_
        rw [hk2]
        (repeat (first | (apply WL.pure; rfl; rfl; rfl) | (apply WL.nil)))
        exact EX.back (q', out ++ [up[q - 1].1], ov') (by repeat (first | exact trivial | refine ⟨rfl, ?_⟩)) ⟨hI', hM5, ho5, hE5, by have := hg5.size; omega⟩ hq'
      · have hc : ¬ 0 ≤ numQ up q := by simpa using hc
        obtain rfl : q = 0 := by
          rcases Nat.eq_zero_or_pos q with e | e
          · exact e
          · refine absurd ?_ hc
            unfold numQ
            rw [dif_pos ⟨e, hq⟩]
            exact (hC.rg _ (List.mem_map.2 ⟨up[q - 1], List.getElem_mem (by omega), rfl⟩)).1
        (repeat (first | (apply WL.pure; rfl; rfl; rfl) | (apply EX.thenN) | (apply CW.seq) | (apply CW.region) | (apply CW.exit) | (apply EX.thenX) | (apply EX.inX)))
        refine WL.call rfl rfl rfl (reverse_int w4 ho) ?_
        rintro _ w5 ⟨rfl, hor, hgr⟩
        (repeat (first | (apply WL.pure; rfl; rfl; rfl) | (apply WL.nil) | (apply EX.thenN) | (apply CW.seq) | (apply CW.region) | (apply CW.ret) | (apply EX.thenR) | (apply EX.inR)))
        exact EX.ret1 rfl rfl ⟨out.reverse, hor.low (by omega), .inr (hI.done hC (by rw [hn]; exact htn)), hE4.grown hgr hE4.size (fun g hg => by have := (hltq g hg).1; omega)⟩
  · obtain rfl : h = up.length := by rw [hdl] at hc; simp at hc; omega
    (repeat (first | (apply WL.pure; rfl; rfl; rfl) | (apply WL.nil) | (apply EX.thenN) | (apply CW.seq) | (apply CW.region) | (apply CW.exit) | (apply EX.thenX) | (apply EX.inX) | (apply CW.ret)))
    exact EX.ret1 rfl rfl ⟨[], Own.nil, .inl ⟨rfl, keysU up, hfm, fun x hx => by
      obtain ⟨y, hy, rfl⟩ := List.mem_map.1 hx
      obtain ⟨i, hi, rfl⟩ := List.mem_iff_getElem.1 hy
      exact hD i hi hi⟩, hE2⟩
end Go.Proofs.Ytllpfgcngokhnaa

/-
  A graph turned round: plain lists.
-/
set_option linter.unusedVariables false
set_option linter.unusedSimpArgs false
namespace Go.Proofs.Ytllpfgcngokhnaa
open Go.RowKit

theorem rch_turn1 {g : Graph} {a b : Nat} (h : Rch (turnL g) [(a : Int)] b) : Rch g [(b : Int)] a := by
  induction h with
  | @base x hx =>
    have : x = (a : Int) := by simpa using hx
    subst this
    simpa using Rch.self a
  | @step m x _ hx ih =>
    by_cases hm : m < g.length
    · have hx0 : 0 ≤ x := ((okG_row (turnL_ok g) m) x hx).1
      obtain ⟨k, rfl⟩ := Int.eq_ofNat_of_zero_le hx0
      exact (Rch.edge ((turnL_mem hm).1 hx).2).trans ih
    · rw [List.getD_eq_getElem?_getD, List.getElem?_eq_none (by rw [turnL_len]; omega)] at hx
      simp at hx
theorem rch_turn2 {g : Graph} (hg : okG g) {a b : Nat} (h : Rch g [(b : Int)] a) : Rch (turnL g) [(a : Int)] b := by
  induction h with
  | @base x hx =>
    have : x = (b : Int) := by simpa using hx
    subst this
    simpa using Rch.self b
  | @step m x _ hx ih =>
    have hxr := okG_row hg m x hx
    obtain ⟨k, rfl⟩ := Int.eq_ofNat_of_zero_le hxr.1
    have hm : m < g.length := by
      apply Classical.byContradiction
      intro hm
      rw [List.getD_eq_getElem?_getD, List.getElem?_eq_none (by omega)] at hx
      simp at hx
    have : (m : Int) ∈ (turnL g).getD k [] := (turnL_mem (by omega)).2 ⟨hm, hx⟩
    exact (Rch.edge this).trans ih
theorem rch_turn {g : Graph} (hg : okG g) {a b : Nat} : Rch (turnL g) [(a : Int)] b ↔ Rch g [(b : Int)] a := ⟨rch_turn1, rch_turn2 hg⟩
theorem edges_le : ∀ (g : Graph) (c : Nat), (∀ l ∈ g, l.length ≤ c) → edges g ≤ g.length * c
  | [], c, _ => by simp [edges]
  | l :: g, c, h => by
    have h1 := edges_le g c (fun x hx => h x (by simp [hx]))
    have h2 := h l (by simp)
    simp only [edges, List.map_cons, List.sum_cons, List.length_cons] at h1 ⊢
    rw [Nat.add_mul, Nat.one_mul]
    omega
theorem edges_turn (g : Graph) : edges (turnL g) ≤ g.length * (g.length + 1) := by
  have h := edges_le (turnL g) (g.length + 1) (fun l hl => by
    obtain ⟨m, hm, rfl⟩ := List.mem_iff_getElem.1 hl
    have e : (turnL g)[m] = trow g g.length 0 m := turnP_get _
    rw [e]
    exact trow_len _ _ _ _)
  rwa [turnL_len] at h
end Go.Proofs.Ytllpfgcngokhnaa

