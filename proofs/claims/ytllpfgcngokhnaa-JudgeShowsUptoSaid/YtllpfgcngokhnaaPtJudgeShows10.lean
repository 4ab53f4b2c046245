import Derived.Shelf.Slices.Reverse
import Derived.Test.YtllpfgcngokhnaaPtJudgeShows9
/-
  Maps made by the call: keys with any elements, as a list in the order in which they came. Over any program.
-/
set_option linter.unusedVariables false
set_option linter.unusedSimpArgs false
namespace Go.Proofs.Ytllpfgcngokhnaa
open Go.RowKit

/-- keys of which the model's order is whole, whatever their kind -/
class IsKx (P : Program) (k : TypeId) : Prop where
  ok : Go.Maps.Keyed P k
theorem IsKx.int {P : Program} {k : TypeId} (h : P.underlying k = some (.int .i64)) : IsKx P k := ⟨Go.Maps.int_keyed h⟩
theorem KeyV.int {P : Program} {k : TypeId} (h : P.underlying k = some (.int .i64)) {x : Int} (hx : -9223372036854775808 ≤ x ∧ x ≤ 9223372036854775807) : KeyV P k (.int .i64 x) := by
  refine ⟨.int .i64 x, ?_⟩
  unfold keyOf
  rw [h]
  dsimp only
  unfold mapKey
  rw [h]
  dsimp only
  rw [if_pos ⟨rfl, by simp [Lit.wf, IntKind.min, IntKind.max, IntKind.signed, IntKind.bits]; omega⟩]
/-- block b is a map that holds these keys with these elements -/
def MapI (P : Program) (k : TypeId) (w : World) (b : Nat) (kv : List (Value × Value)) : Prop :=
  ∃ (es : Array MapEntry) (clock : Nat), w.heap[b]? = some (.map es clock) ∧ es.toList.map (fun e => (e.key, e.val)) = kv ∧ (∀ x ∈ kv, KeyV P k x.1) ∧ (kv.map Prod.fst).Nodup
section
variable {P : Program} {k : TypeId} {w w' : World} {b : Nat} {kv : List (Value × Value)}
theorem MapI.lt (h : MapI P k w b kv) : b < w.heap.size := by
  obtain ⟨es, clock, hb, _⟩ := h
  exact (Array.getElem?_eq_some_iff.1 hb).1
theorem MapI.at (h : MapI P k w b kv) (hb : w'.heap[b]? = w.heap[b]?) : MapI P k w' b kv := by
  obtain ⟨es, clock, h1, h2⟩ := h
  exact ⟨es, clock, hb.trans h1, h2⟩
theorem MapI.ext (h : MapI P k w b kv) (hE : Ext w w') : MapI P k w' b kv := h.at (hE.block b h.lt)
theorem MapI.kept {row : Option Nat} (h : MapI P k w b kv) (hg : w.grownBy w' row) (hne : some b ≠ row) : MapI P k w' b kv := h.at (hg.block b h.lt hne)
theorem MapI.made (w : World) : MapI P k (w.alloc (.map #[] 0)) w.heap.size [] :=
  ⟨#[], 0, heap_alloc_new w _, rfl, fun x h => by simp at h, List.Pairwise.nil⟩
theorem run_mget {t e : TypeId} {x : Value} [ht : IsM P t k e] [hk : IsKx P k] [hz : IsZ0 P e] (h : MapI P k w b kv) (hx : KeyV P k x) :
    (x ∉ kv.map Prod.fst ∧ (Instr.lookup t (.map (some b)) x true).run P w = .ok (.tuple #[.int .i64 0, .bool false]) w) ∨
    ∃ (j : Nat) (hj : j < kv.length), kv[j].1 = x ∧ (Instr.lookup t (.map (some b)) x true).run P w = .ok (.tuple #[kv[j].2, .bool true]) w ∧ (Instr.lookup t (.map (some b)) x false).run P w = .ok kv[j].2 w := by
  obtain ⟨es, clock, hb, hes, hks, hnd⟩ := h
  obtain ⟨l, hx⟩ := hx
  obtain ⟨i, h1, h2⟩ := Option.map_eq_some_iff.1 hz.ok
  have hzr : (zeroValue e).run P w = .ok (.int .i64 0) w := by simp [zeroValue, typeInfo, h1, h2]
  have hkeys : ∀ e ∈ es.toList, ∃ l, keyOf P k e.key = some l := fun e he => hks (e.key, e.val) (hes ▸ List.mem_map.2 ⟨e, he, rfl⟩)
  rcases hk.ok.find w hx es.toList hkeys with ⟨g1, g2⟩ | ⟨j, e0, g1, g2, g3⟩
  · refine .inl ⟨fun hm => ?_, by simp [Instr.lookup, run_underlying ht.ok, MapKept.run_getObj_map hb, hk.ok.check w _ hx, g1, hzr, Result.andThen]⟩
    rw [← hes, List.map_map] at hm
    obtain ⟨e, he, hke⟩ := List.mem_map.1 hm
    exact g2 e he hke
  · have hj : j < kv.length := by rw [← hes, List.length_map]; exact (List.getElem?_eq_some_iff.1 g2).1
    have hj0 : j < es.toList.length := (List.getElem?_eq_some_iff.1 g2).1
    have hje : es.toList[j] = e0 := (List.getElem?_eq_some_iff.1 g2).2
    subst hes
    refine .inr ⟨j, hj, ?_, ?_, ?_⟩
    · rw [List.getElem_map, ← g3, hje]
    · rw [List.getElem_map, hje]
      simp [Instr.lookup, run_underlying ht.ok, MapKept.run_getObj_map hb, hk.ok.check w _ hx, g1, Result.andThen]
    · rw [List.getElem_map, hje]
      simp [Instr.lookup, run_underlying ht.ok, MapKept.run_getObj_map hb, hk.ok.check w _ hx, g1, Result.andThen]
theorem run_mput {t e : TypeId} {x y : Value} [ht : IsM P t k e] [hk : IsKx P k] (h : MapI P k w b kv) (hx : KeyV P k x) (hn : x ∉ kv.map Prod.fst) :
    ∃ w', (Instr.mapUpdate t (.map (some b)) x y).run P w = .ok () w' ∧ MapI P k w' b (kv ++ [(x, y)]) ∧ w.grownBy w' (some b) := by
  obtain ⟨es, clock, hb, hes, hks, hnd⟩ := h
  obtain ⟨l, hx'⟩ := hx
  have hkeys : ∀ e ∈ es.toList, ∃ l, keyOf P k e.key = some l := fun e he => hks (e.key, e.val) (hes ▸ List.mem_map.2 ⟨e, he, rfl⟩)
  have hlt := (Array.getElem?_eq_some_iff.1 hb).1
  rcases hk.ok.find w hx' es.toList hkeys with ⟨g1, g2⟩ | ⟨j, e0, g1, g2, g3⟩
  · refine ⟨_, by simp [Instr.mapUpdate, run_underlying ht.ok, MapKept.run_getObj_map hb, hk.ok.check w false hx', g1, MapKept.run_setObj_map _ hb, Result.andThen]; rfl, ?_, ?_⟩
    · refine ⟨es.push ⟨x, y, clock⟩, clock + 1, by simp [hlt], by simp [hes], fun z hz => ?_, ?_⟩
      · rcases List.mem_append.1 hz with hz | hz
        · exact hks z hz
        · rw [List.mem_singleton] at hz; subst hz; exact ⟨l, hx'⟩
      · rw [List.map_append, List.nodup_append]
        refine ⟨hnd, by simp, fun a ha c hc e => ?_⟩
        simp at hc
        subst hc; subst e; exact hn ha
    · exact ⟨rfl, rfl, rfl, by simp, fun i _ hi => by
        simp only [Array.getElem?_setIfInBounds]
        rw [if_neg (fun e => hi (by rw [e]))]⟩
  · refine absurd ?_ hn
    rw [← hes, List.map_map]
    exact List.mem_map.2 ⟨e0, List.mem_of_getElem? g2, g3⟩
end
section
variable {P : Program} {Q : Exit → Act → World → Prop} {n : Nat} {σ : Sg} {w : World} {L rest : List Oper} {d : Nat} {ty : TypeId} {pos : String} {af : Array Edge} {g : Option (Nat × Bool)} {t k e : TypeId} {b : Nat} {kv : List (Value × Value)} {x y z : Operand} {v u : Value}
/-- v, ok := m[x] -/
theorem WL.mget (hg : gd L σ ⟨some d, .lookup t x y true, ty, pos, af, g⟩ = some true) (hd : Nat.ble (d + 1) n = true) (hx : ev σ x = some (.map (some b))) (hy : ev σ y = some v) [ht : IsM P t k e] [hk : IsKx P k] [hz : IsZ0 P e]
    (h : MapI P k w b kv) (hv : KeyV P k v)
    (h1 : v ∉ kv.map Prod.fst → WL P L Q rest n ((d, .tuple ⟨[.int .i64 0, .bool false]⟩) :: σ) w)
    (h2 : ∀ (j : Nat) (hj : j < kv.length), kv[j].1 = v → WL P L Q rest n ((d, .tuple ⟨[kv[j].2, .bool true]⟩) :: σ) w) :
    WL P L Q (⟨some d, .lookup t x y true, ty, pos, af, g⟩ :: rest) n σ w := by
  rcases run_mget (t := t) h hv with ⟨g1, g2⟩ | ⟨j, hj, g1, g2, _⟩
  · refine WL.run hg hd (fun a ha => ?_) (h1 g1)
    simp [execOp, ha.ev hx, ha.ev hy, g2]
  · refine WL.run hg hd (fun a ha => ?_) (h2 j hj g1)
    simp [execOp, ha.ev hx, ha.ev hy, g2]
/-- v := m[x], at a key -/
theorem WL.mgetY {j : Nat} (hj : j < kv.length) (hjv : kv[j].1 = v) (hg : gd L σ ⟨some d, .lookup t x y false, ty, pos, af, g⟩ = some true) (hd : Nat.ble (d + 1) n = true) (hx : ev σ x = some (.map (some b))) (hy : ev σ y = some v) [ht : IsM P t k e] [hk : IsKx P k] [hz : IsZ0 P e]
    (h : MapI P k w b kv) (hv : KeyV P k v)
    (hr : WL P L Q rest n ((d, kv[j].2) :: σ) w) : WL P L Q (⟨some d, .lookup t x y false, ty, pos, af, g⟩ :: rest) n σ w := by
  have hnd : (kv.map Prod.fst).Nodup := by obtain ⟨_, _, _, _, _, h⟩ := h; exact h
  rcases run_mget (t := t) h hv with ⟨g1, g2⟩ | ⟨i, hi, g1, _, g3⟩
  · exact absurd (List.mem_map.2 ⟨kv[j], List.getElem_mem hj, hjv⟩) g1
  · have hij : i = j := by
      have h1 : (kv.map Prod.fst)[i]'(by simpa using hi) = (kv.map Prod.fst)[j]'(by simpa using hj) := by simp [g1, hjv]
      exact (List.getElem_inj hnd).1 h1
    subst hij
    refine WL.run hg hd (fun a ha => ?_) hr
    simp [execOp, ha.ev hx, ha.ev hy, g3]
/-- m[x] = y, at a new key -/
theorem WL.mput (hg : gd L σ ⟨none, .mapUpdate t x y z, ty, pos, af, g⟩ = some true) (hx : ev σ x = some (.map (some b))) (hy : ev σ y = some v) (hzv : ev σ z = some u) [ht : IsM P t k e] [hk : IsKx P k]
    (h : MapI P k w b kv) (hv : KeyV P k v) (hn : v ∉ kv.map Prod.fst)
    (hr : ∀ w', MapI P k w' b (kv ++ [(v, u)]) → w.grownBy w' (some b) → WL P L Q rest n σ w') :
    WL P L Q (⟨none, .mapUpdate t x y z, ty, pos, af, g⟩ :: rest) n σ w := by
  obtain ⟨w', g1, g2, g3⟩ := run_mput (t := t) (y := u) h hv hn
  refine WL.runU hg (fun a ha => ?_) (hr w' g2 g3)
  simp [execOp, ha.ev hx, ha.ev hy, ha.ev hzv, g1]
theorem WL.mkMapI (hg : gd L σ ⟨some d, .makeMap t none, ty, pos, af, g⟩ = some true) (hd : Nat.ble (d + 1) n = true)
    (h : MapI P k (w.alloc (.map #[] 0)) w.heap.size [] → WL P L Q rest n ((d, .map (some w.heap.size)) :: σ) (w.alloc (.map #[] 0))) :
    WL P L Q (⟨some d, .makeMap t none, ty, pos, af, g⟩ :: rest) n σ w := by
  refine WL.run hg hd (fun a ha => ?_) (h (MapI.made w))
  simp [execOp, Instr.makeMap]
end
end Go.Proofs.Ytllpfgcngokhnaa

/-
  slices.Reverse at []int: the kit's proof, over our own rows.
-/
set_option linter.unusedVariables false
set_option linter.unusedSimpArgs false
namespace Go.Proofs.Ytllpfgcngokhnaa
open Go.RowKit Go.Shelf

def revRen : Ren := ⟨fun _ => 99, fun x => if Nat.beq x 3 = true then 3 else if Nat.beq x 4 = true then 4 else if Nat.beq x 28 = true then 22 else 0, fun x => x⟩
set_option maxRecDepth 100000 in
theorem revLays : Lays.n112 Try.prog revRen where
  mixed := by kernel_rfl
  f112 := (Try.func99).trans (by kernel_rfl)
  t0 := by kernel_rfl
  a0 := fun w => rfl
  z0 := fun w => rfl
  v0 := fun w => rfl
  t3 := Try.underlying3
  a3 := Try.isAgg3
  z3 := Try.sizeOf3
  v3 := Try.zeroValue3
  t4 := Try.underlying4
  a4 := Try.isAgg4
  z4 := Try.sizeOf4
  v4 := Try.zeroValue4
  t28 := Try.underlying22
  a28 := Try.isAgg22
  z28 := Try.sizeOf22
  v28 := Try.zeroValue22
theorem elems_get {w : World} {F : Nat → Prop} {cells : List Value} {xs : List Int} (h : Elems w F cells xs) : cells = xs.map fun x => Value.int .i64 x := by
  refine List.ext_getElem (by rw [List.length_map, h.1]; show _ * 1 = _; omega) fun i h1 h2 => ?_
  rw [List.length_map] at h2
  have h3 := h.2 i h2
  have hz : sz Int = 1 := rfl
  rw [hz, Nat.mul_one] at h3
  have h4 := rd_int h3
  have h5 := congrArg (fun l : List Value => l[0]?) h4
  simp only [List.getElem?_take_of_lt (show 0 < 1 by omega), List.getElem?_drop, Nat.add_zero, List.getElem?_eq_getElem h1] at h5
  simpa using h5
theorem elems_ints (w : World) (F : Nat → Prop) : ∀ xs : List Int, Elems w F (xs.map fun x => Value.int .i64 x) xs
  | [] => Elems.nil
  | x :: r => by
    have := (Elems.one (rd_mkInt w F x)).append (elems_ints w F r)
    simpa using this
theorem reverse_int (w : World) {B : Nat} {v : Value} {xs : List Int} (ho : Own w B 3 Non v xs) :
    Rt Try.prog 99 [v].toArray w fun u w' => u = .tuple #[] ∧ Own w' B 3 Non v xs.reverse ∧ w.grownBy w' v.ownBlock := by
  have hgr : w.grownBy w v.ownBlock := ⟨rfl, rfl, rfl, Nat.le_refl _, fun _ _ _ => rfl⟩
  rcases ho with ⟨rfl, rfl⟩ | ⟨g, off, cap, cur, rfl, ho⟩
  · refine Calls.mono (Any.slices_Reverse_int_empty revLays none 0 w) ?_
    rintro e w' ⟨rfl, rfl⟩
    exact ⟨_, rfl, rfl, Own.nil, hgr⟩
  · have hz : sz Int = 1 := rfl
    have hfit := ho.fit
    have hle := ho.le
    have hmx := ho.mx
    have hel := elems_get ho.el
    rw [hz, Nat.mul_one] at hfit hel
    have hcell : ∀ j (hj : j < xs.length), cur[off + j]? = some (Value.int .i64 xs[j]) := fun j hj => by
      have h1 : ((cur.toList.drop off).take xs.length)[j]? = (xs.map fun x => Value.int .i64 x)[j]? := by rw [hel]
      rw [List.getElem?_take_of_lt hj, List.getElem?_drop, List.getElem?_map, List.getElem?_eq_getElem hj] at h1
      simpa using h1
    have hH : Sort.Holds (Value.int .i64) w g off xs.toArray := fun j hj => by
      have hj' : j < xs.length := by simpa using hj
      constructor
      · have : xs.toArray[j]! = xs[j] := by simp [hj']
        rw [this]
        simp [World.cell?, ho.blk, hcell j hj']
      · simp [World.frozen?, ho.blk]
    refine Calls.mono (Any.slices_Reverse_int revLays g off cap xs w hH (by unfold maxLen at hmx; omega)) ?_
    rintro e w' ⟨rfl, n, rfl⟩
    have hheap : (Sort.putRow (Value.int .i64) (Sort.ahead w n) g off xs.reverse.toArray).heap[g]? = some (.cells (Sort.putCells (Value.int .i64) off xs.reverse.toArray cur) 3 (0, 0)) := by
      show (w.heap.modify g _)[g]? = _
      rw [Array.getElem?_modify, if_pos rfl, ho.blk]; rfl
    have hother : ∀ k, k ≠ g → (Sort.putRow (Value.int .i64) (Sort.ahead w n) g off xs.reverse.toArray).heap[k]? = w.heap[k]? := fun k hk => by
      show (w.heap.modify g _)[k]? = _
      rw [Array.getElem?_modify, if_neg (fun e => hk e.symm)]
    have hsize : (Sort.putRow (Value.int .i64) (Sort.ahead w n) g off xs.reverse.toArray).heap.size = w.heap.size := by
      show (w.heap.modify g _).size = _
      rw [Array.size_modify]
    have hos : (Sort.putRow (Value.int .i64) (Sort.ahead w n) g off xs.reverse.toArray).os = w.os := rfl
    have htp : (Sort.putRow (Value.int .i64) (Sort.ahead w n) g off xs.reverse.toArray).tape = w.tape := rfl
    have hou : (Sort.putRow (Value.int .i64) (Sort.ahead w n) g off xs.reverse.toArray).output = w.output := rfl
    generalize Sort.putRow (Value.int .i64) (Sort.ahead w n) g off xs.reverse.toArray = w' at *
    have hps : (Sort.putCells (Value.int .i64) off xs.reverse.toArray cur).size = cur.size := by simp [Sort.putCells]
    refine ⟨_, rfl, rfl, .inr ⟨g, off, cap, _, by rw [List.length_reverse], ⟨hheap, ho.ge, ho.nF, by simpa using hle, hmx, by rw [hps, hz]; omega, ?_⟩⟩, ⟨hos, htp, hou, by omega, fun k _ hk => hother k (fun e => hk (by rw [e]; rfl))⟩⟩
    have e1 : (((Sort.putCells (Value.int .i64) off xs.reverse.toArray cur).toList.drop off).take (xs.reverse.length * sz Int)) = xs.reverse.map fun x => Value.int .i64 x := by
      rw [hz, Nat.mul_one]
      refine List.ext_getElem? fun j => ?_
      by_cases hj : j < xs.length
      · rw [List.getElem?_take_of_lt (by simpa using hj), List.getElem?_drop, Array.getElem?_toList, Sort.putCells, Array.getElem?_mapIdx, hcell j hj, List.getElem?_map, List.getElem?_eq_getElem (by simpa using hj)]
        simp [hj, show off + j < off + xs.length by omega]
      · rw [List.getElem?_eq_none (by simp; try omega), List.getElem?_eq_none (by simp; try omega)]
    rw [e1]
    exact elems_ints _ _ _
end Go.Proofs.Ytllpfgcngokhnaa

/-
  Package empty: way: walked.
-/
set_option linter.unusedVariables false
set_option linter.unusedSimpArgs false
namespace Go.Proofs.Ytllpfgcngokhnaa
open Go.RowKit

theorem Don_push {g : List (List Int)} {to al : Nat → Bool} {up : UP} {h : Nat} {x : Int × Int} (hh : h ≤ up.length)
    (hd : ∀ i (hi : i < up.length), i < h → to up[i].1.toNat = false ∧ ∀ k ∈ g.getD up[i].1.toNat [], al k.toNat = true → k ∈ keysU up) :
    ∀ i (hi : i < (up ++ [x]).length), i < h → to (up ++ [x])[i].1.toNat = false ∧ ∀ k ∈ g.getD (up ++ [x])[i].1.toNat [], al k.toNat = true → k ∈ keysU (up ++ [x]) := fun i hi hih => by
  have h' : i < up.length := by omega
  rw [List.getElem_append_left h']
  refine ⟨(hd i h' hih).1, fun k hk ha => ?_⟩
  unfold keysU
  rw [List.map_append]
  exact List.mem_append_left _ ((hd i h' hih).2 k hk ha)
instance iEw1 : IsM Try.prog 150 3 3 := ⟨Try.underlying150⟩
instance iEw2 : IsC Try.prog 150 1 false := IsC.of (by kernel_rfl) Try.underlying150 rfl
instance iEw3 : IsZ0 Try.prog 3 := ⟨by kernel_rfl⟩
instance iEw4 : IsKx Try.prog 3 := IsKx.int Try.underlying3
def kvU (up : UP) : List (Value × Value) := up.map fun x => (Value.int .i64 x.1, Value.int .i64 x.2)
theorem kvU_push {up : UP} {x : Int × Int} : kvU up ++ [(Value.int .i64 x.1, Value.int .i64 x.2)] = kvU (up ++ [x]) := by unfold kvU; simp
theorem kvU_key {up : UP} {x : Int} : Value.int .i64 x ∈ (kvU up).map Prod.fst ↔ x ∈ keysU up := by
  unfold kvU keysU
  simp only [List.map_map, List.mem_map, Function.comp]
  constructor
  · rintro ⟨a, ha, e⟩; injection e with _ e; exact ⟨a, ha, e⟩
  · rintro ⟨a, ha, e⟩; exact ⟨a, ha, by rw [e]⟩
theorem kvU_len {up : UP} : (kvU up).length = up.length := by unfold kvU; simp
theorem keyI {x : Int} (h : 0 ≤ x ∧ x < 9223372036854775807) : KeyV Try.prog 3 (.int .i64 x) := KeyV.int Try.underlying3 ⟨by omega, by omega⟩
set_option maxHeartbeats 4000000 in
theorem eway_ok (w0 : World) {sb : Nat} {x0 x1 x2 x3 x4 x5 x6 x7 x8 x9 x10 x12 fv : Value} {no fo po : Option Addr} {nc fc pc : Nat} {g : List (List Int)} {fr part : List Int} {only : Int} {to : Nat → Bool}
    (hb : Blk w0 sb 90 [x0, x1, x2, x3, x4, x5, x6, x7, x8, x9, x10, .slice no g.length nc, x12]) (hg : Sl w0 (Old w0) no nc g) (hf : Sl w0 (Old w0) fo fc fr) (hp : Sl w0 (Old w0) po pc part)
    (hG : okG g) (hfr : okL g.length fr) (hpl : part.length = g.length) (hN : g.length ≤ 1228800)
    (hto : ∀ w, Ext w0 w → ∀ n : Nat, n < g.length → FnV Try.prog fv [.int .i64 (n : Int)] w fun v w' => v = .bool (to n) ∧ Ext w w') :
    Rt Try.prog 48 [.pointer (some ⟨sb, 0, none⟩), .slice fo fr.length fc, fv, .slice po part.length pc, .int .i64 only].toArray w0 fun v w' => ∃ r, Own w' w0.heap.size 3 Non v r ∧ ((r = [] ∧ WyNo g fr to (alB part only)) ∨ WyOK g fr to (alB part only) r) ∧ Ext w0 w' := by
  have hfl := hf.len63
  refine Rt.enter5 Try.func48 Try.ntmps48 rfl rfl ?_
  (repeat (first | (apply WL.pure; rfl; rfl; rfl) | (apply WL.nil) | (apply EX.thenN) | (apply CW.seq) | (apply CW.region)))
  refine WL.mkMapI (k := 3) rfl rfl (fun hmap => ?_)
  have e1 : Ext w0 (w0.alloc (.map #[] 0)) := Ext.alloc w0 _
  generalize hmb : w0.heap.size = mb at *
  generalize w0.alloc (.map #[] 0) = w1 at *
  have lmb := hmap.lt
  have hle1 := e1.size
  (repeat (first | (apply WL.pure; rfl; rfl; rfl) | (apply WL.nil) | (apply EX.thenN) | (apply CW.seq) | (apply CW.region) | (apply WL.lenS; rfl; rfl; rfl) | (apply CW.block)))
  refine CW.loop (S := Nat × UP × Value) (fun s => [(0, .pointer (some ⟨sb, 0, none⟩)), (2, fv), (3, .slice po part.length pc), (4, .int .i64 only), (11, .map (some mb)), (12, s.2.2), (24, .slice fo fr.length fc), (25, .int .i64 fr.length), (26, .int .i64 s.1)])
    (fun s w => s.1 ≤ fr.length ∧ WyC g fr (alB part only) s.2.1 ∧ (∀ x ∈ fr.take s.1, x ∈ keysU s.2.1) ∧ MapI Try.prog 3 w mb (kvU s.2.1) ∧ Own w w1.heap.size 3 Non s.2.2 (keysU s.2.1) ∧ Ext w0 w ∧ w1.heap.size ≤ w.heap.size) (fun s => fr.length - s.1) (0, [], .slice none 0 0) (by repeat (first | exact trivial | refine ⟨rfl, ?_⟩)) ⟨Nat.zero_le _, WyC.nil, (fun x hx => by simp at hx), hmap, Own.nil, e1, Nat.le_refl _⟩ ?_
  clear hmap
  rintro ⟨i, up, tv⟩ w2 ⟨hi, hC, hfm, hM, ho, hE2, hz2⟩
  dsimp only at hi hC hfm hM ho hE2 hz2 ⊢
  have hul := hC.len
  have hkl : (keysU up).length = up.length := List.length_map _
  have hlt := fun g hg => ho.lt g hg
  (repeat (first | (apply WL.pure; rfl; rfl; rfl) | (apply WL.nil) | (apply EX.thenN) | (apply CW.seq) | (apply CW.region)))
  refine CW.cond rfl (fun h => ?_) (fun h => ?_)
  · have hi' : i < fr.length := by simp at h; omega
    have hxr := hfr _ (List.getElem_mem hi')
    have htk : fr.take (i + 1) = fr.take i ++ [fr[i]] := List.take_succ_eq_append_getElem hi'
    have hxm := List.getElem_mem hi'
    (repeat (first | (apply EX.thenN) | (apply CW.seq) | (apply CW.region) | (apply CW.block) | (apply CW.skip)))
    refine WL.elemI rfl rfl rfl rfl rfl (hf.up hE2) hi' rfl (fun _ => rfl) (fun q => ?_)
    generalize fr[i] = x at *
    (repeat (first | (apply WL.pure; rfl; rfl; rfl) | (apply WL.nil) | (apply EX.thenN) | (apply CW.seq) | (apply CW.region)))
    refine WL.mget rfl rfl rfl rfl hM (keyI ⟨hxr.1, by omega⟩) (fun hn => ?_) (fun j hj hjx => ?_)
    · have hn := fun h => hn (kvU_key.2 h)
      (repeat (first | (apply WL.pure; rfl; rfl; rfl) | (apply WL.nil) | (apply EX.thenN) | (apply CW.seq) | (apply CW.region) | (apply CW.condT; rfl)))
      refine WL.mput rfl rfl rfl rfl hM (keyI ⟨hxr.1, by omega⟩) (fun h => hn (kvU_key.1 h)) (fun w3 hM3 hg3 => ?_)
      rw [kvU_push (x := (x, -1))] at hM3
      have ho3 := ho.keptN hg3 (fun g hg e => by have := (hlt g hg).1; have := Option.some.inj e; omega)
      have hE3 : Ext w0 w3 := hE2.grown hg3 hE2.size (fun g hg => by cases hg; omega)
      have hz3 := hg3.size
      (repeat (first | (apply WL.pure; rfl; rfl; rfl) | (apply WL.nil) | (apply EX.thenN) | (apply CW.region)))
      refine WL.app1 (F := Non) (yv := x) rfl rfl (fun _ => rfl) rfl rfl (fun _ => rfl) ho3 (Rd.mkInt _ _ _) (by omega) (fun _ h => h.elim) (by decide) (by unfold maxLen; omega) (by omega) (fun tv' w4 p ho4 hg4 hnb4 => ?_)
      have hM4 := hM3.kept hg4 (fun e => by have := (hlt _ e.symm).1; omega)
      have hE4 : Ext w0 w4 := hE3.grown hg4 hE3.size (fun g hg => by have := (hlt g hg).1; omega)
      have hz4 := hg4.size
      (repeat (first | (apply WL.add; rfl; rfl; rfl; rfl; omega; omega) | (apply WL.pure; rfl; rfl; rfl) | (apply WL.nil) | (apply EX.thenN) | (apply CW.region) | (apply EX.inN)))
      refine EX.back (i + 1, up ++ [(x, -1)], tv') (by repeat (first | exact trivial | refine ⟨rfl, ?_⟩)) ⟨hi', hC.push hn hxr (.inl ⟨rfl, hxm⟩), fun y hy => ?_, hM4, by simpa [keysU] using ho4, hE4, by omega⟩ (by dsimp only; omega)
      dsimp only at hy ⊢
      rw [htk] at hy
      unfold keysU
      rw [List.map_append]
      rcases List.mem_append.1 hy with hy | hy
      · exact List.mem_append_left _ (hfm y hy)
      · rw [List.mem_singleton] at hy; subst hy; exact List.mem_append_right _ (by simp)
    · have hxk : x ∈ keysU up := kvU_key.1 (by rw [← hjx]; exact List.mem_map.2 ⟨_, List.getElem_mem hj, rfl⟩)
      (repeat (first | (apply WL.add; rfl; rfl; rfl; rfl; omega; omega) | (apply WL.pure; rfl; rfl; rfl) | (apply WL.nil) | (apply EX.thenN) | (apply CW.seq) | (apply CW.region) | (apply EX.inN) | (apply CW.condF; rfl) | (apply CW.skip)))
      refine EX.back (i + 1, up, tv) (by repeat (first | exact trivial | refine ⟨rfl, ?_⟩)) ⟨hi', hC, fun y hy => ?_, hM, ho, hE2, hz2⟩ (by dsimp only; omega)
      dsimp only at hy ⊢
      rw [htk] at hy
      rcases List.mem_append.1 hy with hy | hy
      · exact hfm y hy
      · rw [List.mem_singleton] at hy; subst hy; exact hxk
  obtain rfl : i = fr.length := by simp at h; omega
  rw [List.take_length] at hfm
  clear h hi
  (repeat (first | (apply EX.thenN) | (apply CW.seq) | (apply CW.block) | (apply CW.exit) | (apply EX.thenX) | (apply EX.inX)))
  refine CW.loop (S := Nat × UP × Value) (fun s => [(0, .pointer (some ⟨sb, 0, none⟩)), (2, fv), (3, .slice po part.length pc), (4, .int .i64 only), (11, .map (some mb)), (12, s.2.2)])
    (fun s w => s.1 ≤ s.2.1.length ∧ WyC g fr (alB part only) s.2.1 ∧ (∀ x ∈ fr, x ∈ keysU s.2.1) ∧ (∀ i (hi : i < s.2.1.length), i < s.1 → to s.2.1[i].1.toNat = false ∧ ∀ k ∈ g.getD s.2.1[i].1.toNat [], alB part only k.toNat = true → k ∈ keysU s.2.1) ∧ MapI Try.prog 3 w mb (kvU s.2.1) ∧ Own w w1.heap.size 3 Non s.2.2 ((keysU s.2.1).drop s.1) ∧ Ext w0 w ∧ w1.heap.size ≤ w.heap.size) (fun s => g.length - s.1) (0, up, tv) (by repeat (first | exact trivial | refine ⟨rfl, ?_⟩)) ⟨Nat.zero_le _, hC, hfm, fun i hi h => absurd h (by simp), hM, by simpa using ho, hE2, hz2⟩ ?_
  clear hC hfm hM ho hE2 hz2 hul hkl hlt
  rintro ⟨h, up, tv⟩ w2 ⟨hh, hC, hfm, hD, hM, ho, hE2, hz2⟩
  dsimp only at hh hC hfm hD hM ho hE2 hz2 ⊢
  have hul := hC.len
  have hkl : (keysU up).length = up.length := List.length_map _
  have hlt := fun g hg => ho.lt g hg
  have hdl : ((keysU up).drop h).length = up.length - h := by rw [List.length_drop, hkl]
  (repeat (first | (apply WL.pure; rfl; rfl; rfl) | (apply WL.nil) | (apply EX.thenN) | (apply CW.seq) | (apply CW.region) | (refine WL.lenO rfl rfl rfl (by assumption) ?_)))
  refine CW.cond rfl (fun hc => ?_) (fun hc => ?_)
  · have hh' : h < up.length := by rw [hdl] at hc; simp at hc; omega
    have hhk : h < (keysU up).length := by omega
    have hd0 : 0 < ((keysU up).drop h).length := by omega
    have hget : ((keysU up).drop h)[0] = up[h].1 := by rw [List.getElem_drop]; simp [keysU]
    have hnr := hC.rg _ (List.mem_map.2 ⟨up[h], List.getElem_mem hh', rfl⟩)
    (repeat (first | (apply WL.pure; rfl; rfl; rfl) | (apply EX.thenN) | (apply CW.seq) | (apply CW.region) | (apply CW.block) | (apply CW.skip)))
    refine WL.elemON (i := 0) rfl rfl rfl rfl rfl ho hd0 (fun _ => rfl) (fun u q hu => ?_)
    obtain rfl := hu.int
    rw [hget]
    obtain ⟨n, hn⟩ : ∃ n : Nat, up[h].1 = (n : Int) := ⟨up[h].1.toNat, by omega⟩
    rw [hn]
    rw [hn] at hnr
    (repeat (first | (apply WL.pure; rfl; rfl; rfl) | (apply WL.nil) | (apply EX.thenN) | (apply CW.seq) | (apply CW.region)))
    refine WL.cutLoO (α := Int) 1 rfl rfl rfl rfl rfl ho (by omega) (fun tv2 ho2 hob => ?_)
    rw [List.drop_drop] at ho2
    (repeat (first | (apply WL.pure; rfl; rfl; rfl) | (apply WL.nil) | (apply EX.thenN) | (apply CW.seq) | (apply CW.region)))
    refine WL.callF rfl rfl rfl rfl (hto w2 hE2 n (by omega)) ?_
    rintro _ w3 ⟨rfl, e3⟩
    have hM3 := hM.ext e3
    have ho3 := ho2.extN e3
    have hE3 := hE2.trans e3
    have hz3 : w1.heap.size ≤ w3.heap.size := Nat.le_trans hz2 e3.size
    have hlt3 := fun g hg => ho3.lt g hg
    cases htn : to n
    · -- on
      have hgn : n < g.length := by omega
      have hrow : g.getD n [] = g[n] := by rw [List.getD_eq_getElem?_getD, List.getElem?_eq_getElem hgn]; rfl
      have hrr : okL g.length g[n] := hG _ (List.getElem_mem hgn)
      have hb3 := hb.ext hE3
      (repeat (first | (apply WL.pure; rfl; rfl; rfl) | (apply WL.nil) | (apply EX.thenN) | (apply CW.seq) | (apply CW.region) | (apply WL.fa; rfl; rfl; rfl) | (apply WL.nck; rfl; rfl; rfl) | (apply WL.ld; rfl; rfl; rfl; assumption; rfl) | (apply CW.condF; rfl) | (apply CW.skip)))
      refine WL.elemN (i := n) rfl rfl rfl rfl rfl (hg.mono (w' := w3) hE3.block (F' := Old w0) (fun _ h => h)) hgn (fun _ => rfl) (fun u q hu => ?_)
      obtain ⟨ro, rc, rfl, hrs⟩ := hu.sl
      generalize g[n] = row at *
      have hrl := hrs.len63
      (repeat (first | (apply WL.pure; rfl; rfl; rfl) | (apply WL.nil) | (apply EX.thenN) | (apply WL.lenS; rfl; rfl; rfl) | (apply CW.block)))
      refine CW.loop (S := Nat × UP × Value) (fun s => [(0, .pointer (some ⟨sb, 0, none⟩)), (2, fv), (3, .slice po part.length pc), (4, .int .i64 only), (11, .map (some mb)), (12, s.2.2), (17, .int .i64 n), (74, .slice ro row.length rc), (75, .int .i64 row.length), (76, .int .i64 s.1)])
        (fun s w => s.1 ≤ row.length ∧ WyC g fr (alB part only) s.2.1 ∧ (∀ x ∈ fr, x ∈ keysU s.2.1) ∧ (∀ i (hi : i < s.2.1.length), i < h → to s.2.1[i].1.toNat = false ∧ ∀ k ∈ g.getD s.2.1[i].1.toNat [], alB part only k.toNat = true → k ∈ keysU s.2.1) ∧ (∃ hh' : h < s.2.1.length, s.2.1[h].1 = (n : Int)) ∧ (∀ k ∈ row.take s.1, alB part only k.toNat = true → k ∈ keysU s.2.1) ∧ MapI Try.prog 3 w mb (kvU s.2.1) ∧ Own w w1.heap.size 3 Non s.2.2 ((keysU s.2.1).drop (h + 1)) ∧ Ext w0 w ∧ w1.heap.size ≤ w.heap.size) (fun s => row.length - s.1) (0, up, tv2) (by repeat (first | exact trivial | refine ⟨rfl, ?_⟩)) ⟨Nat.zero_le _, hC, hfm, hD, ⟨hh', hn⟩, (fun k hk => by simp at hk), hM3, by simpa [Nat.add_comm] using ho3, hE3, hz3⟩ ?_
      clear hC hfm hD hM3 ho3 hul hc ho2 hob hlt3
      rintro ⟨j, up, tv⟩ w4 ⟨hj, hC, hfm, hD, ⟨hh', hn⟩, hpt, hM, ho, hE04, hz4⟩
      dsimp only at hj hC hfm hD hh' hn hpt hM ho hE04 hz4 ⊢
      have hul := hC.len
      have hkl : (keysU up).length = up.length := List.length_map _
      have hlt := fun g hg => ho.lt g hg
      (repeat (first | (apply WL.pure; rfl; rfl; rfl) | (apply WL.nil) | (apply EX.thenN) | (apply CW.seq) | (apply CW.region)))
      refine CW.cond rfl (fun hc => ?_) (fun hc => ?_)
      · have hj' : j < row.length := by simp at hc; omega
        have hkr := hrr _ (List.getElem_mem hj')
        have hkm : row[j] ∈ g.getD n [] := by rw [hrow]; exact List.getElem_mem hj'
        have htk : row.take (j + 1) = row.take j ++ [row[j]] := List.take_succ_eq_append_getElem hj'
        have skip : ∀ (hx : alB part only row[j].toNat = true → row[j] ∈ keysU up), ∀ k ∈ row.take (j + 1), alB part only k.toNat = true → k ∈ keysU up := fun hx k hk ha => by
          rw [htk] at hk
          rcases List.mem_append.1 hk with hk | hk
          · exact hpt k hk ha
          · rw [List.mem_singleton] at hk; subst hk; exact hx ha
        (repeat (first | (apply EX.thenN) | (apply CW.seq) | (apply CW.region) | (apply CW.block) | (apply CW.skip)))
        refine WL.elemI rfl rfl rfl rfl rfl (hrs.mono (w' := w4) (fun b hb => (hE04.block b hb).trans (hE3.block b hb).symm) (F' := Old w0) (fun _ h => h)) hj' rfl (fun _ => rfl) (fun q => ?_)
        generalize row[j] = k at *
        obtain ⟨kn, rfl⟩ : ∃ m : Nat, k = (m : Int) := ⟨k.toNat, by omega⟩
        have hkp : kn < part.length := by omega
        have hpk : part.getD kn 0 = part[kn] := by rw [List.getD_eq_getElem?_getD, List.getElem?_eq_getElem hkp]; rfl
        rw [Int.toNat_natCast] at skip
        (repeat (first | (apply WL.pure; rfl; rfl; rfl) | (apply WL.nil) | (apply EX.thenN) | (apply CW.seq) | (apply CW.region)))
        refine WL.mget rfl rfl rfl rfl hM (keyI ⟨hkr.1, by omega⟩) (fun hnk => ?_) (fun i hi hix => ?_)
        · have hnk := fun h => hnk (kvU_key.2 h)
          have hpush : ∀ (ha : alB part only kn = true) (w5 : World) (tv' : Value), MapI Try.prog 3 w5 mb (kvU (up ++ [((kn : Int), (n : Int))])) → Own w5 w1.heap.size 3 Non tv' ((keysU up).drop (h + 1) ++ [(kn : Int)]) → Ext w0 w5 → w1.heap.size ≤ w5.heap.size →
              (j + 1 ≤ row.length ∧ WyC g fr (alB part only) (up ++ [((kn : Int), (n : Int))]) ∧ (∀ x ∈ fr, x ∈ keysU (up ++ [((kn : Int), (n : Int))])) ∧ (∀ i (hi : i < (up ++ [((kn : Int), (n : Int))]).length), i < h → to (up ++ [((kn : Int), (n : Int))])[i].1.toNat = false ∧ ∀ k ∈ g.getD (up ++ [((kn : Int), (n : Int))])[i].1.toNat [], alB part only k.toNat = true → k ∈ keysU (up ++ [((kn : Int), (n : Int))])) ∧ (∃ hh' : h < (up ++ [((kn : Int), (n : Int))]).length, (up ++ [((kn : Int), (n : Int))])[h].1 = (n : Int)) ∧ (∀ k ∈ row.take (j + 1), alB part only k.toNat = true → k ∈ keysU (up ++ [((kn : Int), (n : Int))])) ∧ MapI Try.prog 3 w5 mb (kvU (up ++ [((kn : Int), (n : Int))])) ∧ Own w5 w1.heap.size 3 Non tv' ((keysU (up ++ [((kn : Int), (n : Int))])).drop (h + 1)) ∧ Ext w0 w5 ∧ w1.heap.size ≤ w5.heap.size) := by
            intro ha w5 tv' hM5 ho5 hE5 hz5
            have hin : ∀ x, x ∈ keysU up → x ∈ keysU (up ++ [((kn : Int), (n : Int))]) := fun x hx => by unfold keysU; rw [List.map_append]; exact List.mem_append_left _ hx
            refine ⟨hj', hC.push hnk hkr (.inr ⟨h, hh', by rw [hn], by rw [hn, Int.toNat_natCast]; exact hkm, by rw [Int.toNat_natCast]; exact ha⟩), fun x hx => hin x (hfm x hx), Don_push (by omega) hD, ⟨by simp; omega, by rw [List.getElem_append_left hh']; exact hn⟩, fun x hx hxa => ?_, hM5, ?_, hE5, hz5⟩
            · rw [htk] at hx
              rcases List.mem_append.1 hx with hx | hx
              · exact hin x (hpt x hx hxa)
              · rw [List.mem_singleton] at hx; subst hx; unfold keysU; rw [List.map_append]; exact List.mem_append_right _ (by simp)
            · rw [show (keysU (up ++ [((kn : Int), (n : Int))])).drop (h + 1) = (keysU up).drop (h + 1) ++ [(kn : Int)] by
                unfold keysU
                rw [List.map_append, List.drop_append_of_le_length (by simp; omega)]; rfl]
              exact ho5
          have hdlen : ((keysU up).drop (h + 1)).length ≤ 1228800 := by rw [List.length_drop]; omega
          have ins : ∀ (w5 : World) (hM5 : MapI Try.prog 3 w5 mb (kvU up ++ [(Value.int .i64 (kn : Int), Value.int .i64 (n : Int))])) (hg5 : w4.grownBy w5 (some mb)), Own w5 w1.heap.size 3 Non tv ((keysU up).drop (h + 1)) ∧ Ext w0 w5 ∧ w1.heap.size ≤ w5.heap.size := fun w5 hM5 hg5 =>
            ⟨ho.keptN hg5 (fun g hg e => by have := (hlt g hg).1; have := Option.some.inj e; omega), hE04.grown hg5 hE04.size (fun g hg => by cases hg; omega), by have := hg5.size; omega⟩
          by_cases hon : only < 0
          · have ha : alB part only kn = true := by unfold alB; rw [decide_eq_true hon]; rfl
            (repeat (first | (apply WL.pure; rfl; rfl; rfl) | (apply WL.nil) | (apply EX.thenN) | (apply CW.seq) | (apply CW.region)))
            rw [decide_eq_true hon]
            (repeat (first | (apply WL.pure; rfl; rfl; rfl) | (apply WL.nil) | (apply EX.thenN) | (apply CW.seq) | (apply CW.region) | (apply WL.pass; rfl; rfl) | (apply CW.condT; rfl)))
            refine WL.mput rfl rfl rfl rfl hM (keyI ⟨hkr.1, by omega⟩) (fun h => hnk (kvU_key.1 h)) (fun w5 hM5 hg5 => ?_)
            obtain ⟨ho5, hE5, hz5⟩ := ins w5 hM5 hg5
            (repeat (first | (apply WL.pure; rfl; rfl; rfl) | (apply WL.nil) | (apply EX.thenN) | (apply CW.region)))
            refine WL.app1 (F := Non) (yv := (kn : Int)) rfl rfl (fun _ => rfl) rfl rfl (fun _ => rfl) ho5 (Rd.mkInt _ _ _) (by omega) (fun _ h => h.elim) (by decide) (by unfold maxLen; omega) (by omega) (fun tv' w6 p ho6 hg6 hnb6 => ?_)
            have hM6 := hM5.kept hg6 (fun e => by have := (hlt _ e.symm).1; omega)
            rw [kvU_push (x := ((kn : Int), (n : Int)))] at hM6
            (repeat (first | (apply WL.add; rfl; rfl; rfl; rfl; omega; omega) | (apply WL.pure; rfl; rfl; rfl) | (apply WL.nil) | (apply EX.thenN) | (apply CW.region) | (apply EX.inN)))
            exact EX.back (j + 1, up ++ [((kn : Int), (n : Int))], tv') (by repeat (first | exact trivial | refine ⟨rfl, ?_⟩)) (hpush ha w6 tv' hM6 ho6 (hE5.grown hg6 hE5.size (fun g hg => by have := (hlt g hg).1; omega)) (by have := hg6.size; omega)) (by dsimp only; omega)
          by_cases hpe : part[kn] = only
          · have ha : alB part only kn = true := by unfold alB; rw [hpk, decide_eq_true hpe, Bool.or_true]
            (repeat (first | (apply WL.pure; rfl; rfl; rfl) | (apply WL.nil) | (apply EX.thenN) | (apply CW.seq) | (apply CW.region)))
            rw [decide_eq_false hon]
            (repeat (apply WL.pure; rfl; rfl; rfl))
            refine WL.elemI rfl rfl rfl rfl rfl (hp.at hE04) hkp rfl (fun _ => rfl) (fun q => ?_)
            rw [hpe]
            (repeat (first | (apply WL.pure; rfl; rfl; rfl) | (apply WL.nil) | (apply EX.thenN)))
            refine CW.cond rfl (fun _ => ?_) (fun hx => by simp at hx)
            (repeat (first | (apply WL.pure; rfl; rfl; rfl) | (apply CW.seq) | (apply CW.region)))
            refine WL.mput rfl rfl rfl rfl hM (keyI ⟨hkr.1, by omega⟩) (fun h => hnk (kvU_key.1 h)) (fun w5 hM5 hg5 => ?_)
            obtain ⟨ho5, hE5, hz5⟩ := ins w5 hM5 hg5
            (repeat (first | (apply WL.pure; rfl; rfl; rfl) | (apply WL.nil) | (apply EX.thenN) | (apply CW.region)))
            refine WL.app1 (F := Non) (yv := (kn : Int)) rfl rfl (fun _ => rfl) rfl rfl (fun _ => rfl) ho5 (Rd.mkInt _ _ _) (by omega) (fun _ h => h.elim) (by decide) (by unfold maxLen; omega) (by omega) (fun tv' w6 p ho6 hg6 hnb6 => ?_)
            have hM6 := hM5.kept hg6 (fun e => by have := (hlt _ e.symm).1; omega)
            rw [kvU_push (x := ((kn : Int), (n : Int)))] at hM6
            (repeat (first | (apply WL.add; rfl; rfl; rfl; rfl; omega; omega) | (apply WL.pure; rfl; rfl; rfl) | (apply WL.nil) | (apply EX.thenN) | (apply CW.region) | (apply EX.inN)))
            exact EX.back (j + 1, up ++ [((kn : Int), (n : Int))], tv') (by repeat (first | exact trivial | refine ⟨rfl, ?_⟩)) (hpush ha w6 tv' hM6 ho6 (hE5.grown hg6 hE5.size (fun g hg => by have := (hlt g hg).1; omega)) (by have := hg6.size; omega)) (by dsimp only; omega)
          · have ha : ¬ alB part only kn = true := by unfold alB; rw [hpk, decide_eq_false hpe, decide_eq_false hon]; decide
            (repeat (first | (apply WL.pure; rfl; rfl; rfl) | (apply WL.nil) | (apply EX.thenN) | (apply CW.seq) | (apply CW.region)))
            rw [decide_eq_false hon]
            (repeat (apply WL.pure; rfl; rfl; rfl))
            refine WL.elemI rfl rfl rfl rfl rfl (hp.at hE04) hkp rfl (fun _ => rfl) (fun q => ?_)
            (repeat (first | (apply WL.pure; rfl; rfl; rfl) | (apply WL.nil) | (apply EX.thenN)))
            refine CW.cond rfl (fun hx => absurd (by simpa using hx) hpe) (fun _ => ?_)
            (repeat (first | (apply WL.add; rfl; rfl; rfl; rfl; omega; omega) | (apply WL.pure; rfl; rfl; rfl) | (apply WL.nil) | (apply EX.thenN) | (apply CW.region) | (apply EX.inN) | (apply CW.skip)))
            exact EX.back (j + 1, up, tv) (by repeat (first | exact trivial | refine ⟨rfl, ?_⟩)) ⟨hj', hC, hfm, hD, ⟨hh', hn⟩, skip (fun h => absurd h ha), hM, ho, hE04, hz4⟩ (by dsimp only; omega)
        · have hxk : (kn : Int) ∈ keysU up := kvU_key.1 (by rw [← hix]; exact List.mem_map.2 ⟨_, List.getElem_mem hi, rfl⟩)
          (repeat (first | (apply WL.add; rfl; rfl; rfl; rfl; omega; omega) | (apply WL.pure; rfl; rfl; rfl) | (apply WL.nil) | (apply EX.thenN) | (apply CW.seq) | (apply CW.region) | (apply WL.pass; rfl; rfl) | (apply EX.inN) | (apply CW.condF; rfl) | (apply CW.skip)))
          exact EX.back (j + 1, up, tv) (by repeat (first | exact trivial | refine ⟨rfl, ?_⟩)) ⟨hj', hC, hfm, hD, ⟨hh', hn⟩, skip (fun _ => hxk), hM, ho, hE04, hz4⟩ (by dsimp only; omega)
      · obtain rfl : j = row.length := by simp at hc; omega
        rw [List.take_length] at hpt
        (repeat (first | (apply EX.inN) | (apply CW.exit) | (apply EX.thenX) | (apply EX.inX)))
        refine EX.back (h + 1, up, tv) (by repeat (first | exact trivial | refine ⟨rfl, ?_⟩)) ⟨hh', hC, hfm, fun i hi hih => ?_, hM, ho, hE04, hz4⟩ (by dsimp only; omega)
        dsimp only at hi hih ⊢
        by_cases e : i < h
        · exact hD i hi e
        · obtain rfl : i = h := by omega
          rw [hn, Int.toNat_natCast]
          exact ⟨htn, fun k hk ha => hpt k (by rw [← hrow]; exact hk) ha⟩
    · -- there
      have hq1 : Value.int .i64 (n : Int) = .int .i64 (numQ up (h + 1)) := by
        rw [← hn]; unfold numQ; rw [dif_pos ⟨by omega, by omega⟩]; rfl
      (repeat (first | (apply WL.pure; rfl; rfl; rfl) | (apply WL.nil) | (apply EX.thenN) | (apply CW.seq) | (apply CW.region) | (apply CW.block) | (apply CW.condT; rfl)))
      rw [hq1]
      refine CW.loop (S := Nat × List Int × Value) (fun s => [(11, .map (some mb)), (17, .int .i64 (numQ up s.1)), (18, s.2.2)])
        (fun s w => BackI g fr (alB part only) up h s.1 s.2.1 ∧ MapI Try.prog 3 w mb (kvU up) ∧ Own w w1.heap.size 3 Non s.2.2 s.2.1 ∧ Ext w0 w ∧ w1.heap.size ≤ w.heap.size) (fun s => s.1) (h + 1, [], .slice none 0 0) (by repeat (first | exact trivial | refine ⟨rfl, ?_⟩)) ⟨BackI.start hh', hM3, Own.nil, hE3, hz3⟩ ?_
      clear hM3 ho3 hlt3
      rintro ⟨q, out, ov⟩ w4 ⟨hI, hM, ho, hE4, hz4⟩
      dsimp only at hI hM ho hE4 hz4 ⊢
      have hq := hI.hq
      have hlen := hI.len
      have hltq := fun g hg => ho.lt g hg
      (repeat (first | (apply WL.pure; rfl; rfl; rfl) | (apply WL.nil) | (apply EX.thenN) | (apply CW.seq) | (apply CW.region)))
      refine CW.cond rfl (fun hc => ?_) (fun hc => ?_)
      · have hc : 0 ≤ numQ up q := by simpa using hc
        have h0 : 0 < q := by
          rcases Nat.eq_zero_or_pos q with e | e
          · subst e; simp [numQ] at hc
          · exact e
        have hqn : numQ up q = up[q - 1].1 := by unfold numQ; rw [dif_pos ⟨h0, hq⟩]
        obtain ⟨q', hq', hv, hI'⟩ := hI.step hC h0
        have hqr := hC.rg _ (List.mem_map.2 ⟨up[q - 1], List.getElem_mem (by omega), rfl⟩)
        have hkq : q - 1 < (kvU up).length := by rw [kvU_len]; omega
        have hk1 : (kvU up)[q - 1].1 = .int .i64 (numQ up q) := by rw [hqn]; simp [kvU]
        have hk2 : (kvU up)[q - 1].2 = .int .i64 (numQ up q') := by rw [← hv]; simp [kvU]
        (repeat (first | (apply WL.pure; rfl; rfl; rfl) | (apply EX.thenN) | (apply CW.seq) | (apply CW.region) | (apply CW.block) | (apply CW.skip)))
        refine WL.app1 (F := Non) (yv := numQ up q) rfl rfl (fun _ => rfl) rfl rfl (fun _ => rfl) ho (Rd.mkInt _ _ _) (by omega) (fun _ h => h.elim) (by decide) (by unfold maxLen; omega) (by omega) (fun ov' w5 p ho5 hg5 hnb5 => ?_)
        have hM5 := hM.kept hg5 (fun e => by have := (hltq _ e.symm).1; omega)
        have hE5 : Ext w0 w5 := hE4.grown hg5 hE4.size (fun g hg => by have := (hltq g hg).1; omega)
        rw [hqn] at ho5
        (repeat (first | (apply WL.pure; rfl; rfl; rfl) | (apply WL.nil) | (apply EX.thenN) | (apply CW.region) | (apply EX.inN)))
        refine WL.mgetY (j := q - 1) hkq hk1 rfl rfl rfl rfl hM5 (keyI ⟨hc, by rw [hqn]; omega⟩) ?_
        rw [hk2]
        (repeat (first | (apply WL.pure; rfl; rfl; rfl) | (apply WL.nil)))
        exact EX.back (q', out ++ [up[q - 1].1], ov') (by repeat (first | exact trivial | refine ⟨rfl, ?_⟩)) ⟨hI', hM5, ho5, hE5, by have := hg5.size; omega⟩ hq'
      · have hc : ¬ 0 ≤ numQ up q := by simpa using hc
        obtain rfl : q = 0 := by
          rcases Nat.eq_zero_or_pos q with e | e
          · exact e
          · refine absurd ?_ hc
            unfold numQ
            rw [dif_pos ⟨e, hq⟩]
            exact (hC.rg _ (List.mem_map.2 ⟨up[q - 1], List.getElem_mem (by omega), rfl⟩)).1
        (repeat (first | (apply WL.pure; rfl; rfl; rfl) | (apply EX.thenN) | (apply CW.seq) | (apply CW.region) | (apply CW.exit) | (apply EX.thenX) | (apply EX.inX)))
        refine WL.call rfl rfl rfl (reverse_int w4 ho) ?_
        rintro _ w5 ⟨rfl, hor, hgr⟩
        (repeat (first | (apply WL.pure; rfl; rfl; rfl) | (apply WL.nil) | (apply EX.thenN) | (apply CW.seq) | (apply CW.region) | (apply CW.ret) | (apply EX.thenR) | (apply EX.inR)))
        exact EX.ret1 rfl rfl ⟨out.reverse, hor.low (by omega), .inr (hI.done hC (by rw [hn]; exact htn)), hE4.grown hgr hE4.size (fun g hg => by have := (hltq g hg).1; omega)⟩
  · obtain rfl : h = up.length := by rw [hdl] at hc; simp at hc; omega
    (repeat (first | (apply WL.pure; rfl; rfl; rfl) | (apply WL.nil) | (apply EX.thenN) | (apply CW.seq) | (apply CW.region) | (apply CW.exit) | (apply EX.thenX) | (apply EX.inX) | (apply CW.ret)))
    exact EX.ret1 rfl rfl ⟨[], Own.nil, .inl ⟨rfl, keysU up, hfm, fun x hx => by
      obtain ⟨y, hy, rfl⟩ := List.mem_map.1 hx
      obtain ⟨i, hi, rfl⟩ := List.mem_iff_getElem.1 hy
      exact hD i hi hi⟩, hE2⟩
end Go.Proofs.Ytllpfgcngokhnaa

/-
  A graph turned round: plain lists.
-/
set_option linter.unusedVariables false
set_option linter.unusedSimpArgs false
namespace Go.Proofs.Ytllpfgcngokhnaa
open Go.RowKit

end Go.Proofs.Ytllpfgcngokhnaa

/-
  Package world: fairParts, Within, Fair: walked.
-/
set_option linter.unusedVariables false
set_option linter.unusedSimpArgs false
namespace Go.Proofs.Ytllpfgcngokhnaa
open Go.RowKit

theorem wgetDI {l : List Int} {j : Nat} (h : j < l.length) : l.getD j 0 = l[j] := by rw [List.getD_eq_getElem?_getD, List.getElem?_eq_getElem h]; rfl
theorem wgetDG {l : List (List Int)} {j : Nat} (h : j < l.length) : l.getD j [] = l[j] := by rw [List.getD_eq_getElem?_getD, List.getElem?_eq_getElem h]; rfl
theorem wgetB {l : List Bool} {j : Nat} (h : j < l.length) : l.getD j false = l[j] := by rw [List.getD_eq_getElem?_getD, List.getElem?_eq_getElem h]; rfl
def prtP (g : Graph) (part : List Int) (n c : Nat) : Prop := ∃ u, u < n ∧ part.getD u 0 = c ∧ ∃ to ∈ g.getD u [], part.getD to.toNat 0 = c
theorem prtP_next {g : Graph} {part : List Int} {n c : Nat} : prtP g part (n + 1) c ↔ prtP g part n c ∨ (part.getD n 0 = c ∧ ∃ to ∈ g.getD n [], part.getD to.toNat 0 = part.getD n 0) := by
  unfold prtP
  constructor
  · rintro ⟨u, h1, h2, h3⟩
    by_cases e : u = n
    · subst e; exact .inr ⟨h2, by rw [h2]; exact h3⟩
    · exact .inl ⟨u, by omega, h2, h3⟩
  · rintro (⟨u, h1, h2⟩ | ⟨h1, h2⟩)
    · exact ⟨u, by omega, h2⟩
    · exact ⟨n, by omega, h1, by rw [← h1]; exact h2⟩
/- WITHIN SOME STATES -/
def inFull (nx : Graph) (inn : List Bool) (n : Nat) : List Int := (nx.getD n []).filter fun to => inn.getD n false && inn.getD to.toNat false
def inG (nx : Graph) (inn : List Bool) : Graph := (List.range nx.length).map (inFull nx inn)
abbrev setPs (fr : Graph) : List (Nat → Prop) := fr.map fun F x => ((x : Nat) : Int) ∈ F
open Classical in
/-- of each state whether a fair way begins there that stays among some -/
noncomputable def withinB (nx : Graph) (inn : List Bool) (fr : Graph) : List Bool := (List.range nx.length).map fun n => decide (∃ r, r 0 = n ∧ Way8 (Eg (inG nx inn)) (setPs fr) r)
end Go.Proofs.Ytllpfgcngokhnaa

/-
  Package empty: good: walked.
-/
set_option linter.unusedVariables false
set_option linter.unusedSimpArgs false
namespace Go.Proofs.Ytllpfgcngokhnaa
open Go.RowKit

theorem idxOf_true {l : List Bool} {k : Nat} (hl : l.length = k) : (idxOf (fun y => true == y) l = -1 ∧ ∀ c, l.getD c false = false) ∨ ∃ c : Nat, idxOf (fun y => true == y) l = (c : Int) ∧ c < k ∧ l.getD c false = true := by
  unfold idxOf
  cases h : l.findIdx? fun y => true == y with
  | none =>
    refine .inl ⟨rfl, fun c => ?_⟩
    rw [List.findIdx?_eq_none_iff] at h
    rw [List.getD_eq_getElem?_getD]
    cases e : l[c]? with
    | none => rfl
    | some b =>
      have := h b (List.mem_of_getElem? e)
      cases b <;> simp_all
  | some i =>
    obtain ⟨h1, h2, h3⟩ := List.findIdx?_eq_some_iff_getElem.1 h
    refine .inr ⟨i, rfl, by omega, ?_⟩
    rw [wgetB h1]
    simpa using h2.symm
theorem egood1_ok (w : World) (b b' : Nat) {po : Option Addr} {pc : Nat} {part : List Int} {to n : Nat} (hb : Blk w b 22 [.slice po part.length pc]) (hb' : Blk w b' 3 [.int .i64 (n : Int)]) (hp : Sl w (Old w) po pc part) (ht : to < part.length) (hn : n < part.length) :
    Rt Try.prog 97 [.int .i64 (to : Int), .pointer (some ⟨b, 0, none⟩), .pointer (some ⟨b', 0, none⟩)].toArray w fun v w' => v = .bool (part.getD to 0 == part.getD n 0) ∧ Ext w w' := by
  refine Rt.enter3 Try.func97 Try.ntmps97 rfl rfl ?_
  (repeat (first | (apply WL.pure; rfl; rfl; rfl) | (apply QL.pure; rfl; rfl; rfl) | (apply WL.nil) | (apply EX.thenN) | (apply CW.seq) | (apply CW.region) | (apply QL.ld; rfl; rfl; rfl; assumption; rfl) | (apply CW.draw; exact mixed; kernel_rfl)))
  refine QL.elemI rfl rfl rfl rfl rfl (fun _ h => h) hp ht rfl (fun _ => rfl) (fun q => ?_)
  (repeat (apply QL.ld; rfl; rfl; rfl; assumption; rfl))
  refine QL.elemI rfl rfl rfl rfl rfl (fun _ h => h) hp hn rfl (fun _ => rfl) (fun q' => ?_)
  (repeat (apply QL.pure; rfl; rfl; rfl))
  refine QL.nil (fun w2 e2 => ?_)
  (repeat (first | (apply EX.thenN) | (apply CW.ret)))
  exact EX.ret1 rfl rfl ⟨by rw [wgetDI ht, wgetDI hn], e2⟩
set_option maxHeartbeats 2000000 in
theorem egood_ok (w0 : World) {sb N : Nat} {x0 x1 x2 x3 x4 x5 x6 x7 x8 x9 x12 : Value} {lo no po so : Option Addr} {lc nc pc sc : Nat} {g : List (List Int)} {part : List Int} {sets : List (List Bool)}
    (hb : Blk w0 sb 90 [x0, x1, x2, x3, x4, x5, x6, x7, x8, x9, .slice lo N lc, .slice no g.length nc, x12]) (hN : N = g.length) (hs : Sl w0 (Old w0) no nc g) (hp : Sl w0 (Old w0) po pc part) (hfs : Sl w0 (Old w0) so sc sets)
    (hg : okG g) (hpt : PartsOK g part) (hl : g.length ≤ 1228800) (hsl : ∀ S ∈ sets, S.length = g.length) :
    Rt Try.prog 47 [.pointer (some ⟨sb, 0, none⟩), .slice po part.length pc, .slice so sets.length sc].toArray w0 fun v w' => ∃ p : Int, v = .int .i64 p ∧ ((p = -1 ∧ ∀ c : Int, 0 ≤ c → c < g.length → ¬ GoodC g part sets c) ∨ (0 ≤ p ∧ p < g.length ∧ GoodC g part sets p)) ∧ Ext w0 w' := by
  have hm := hs.len63
  have hmp := hp.len63
  have hms := hfs.len63
  have hpl := hpt.len
  subst hN
  have hsb0 := hb.lt
  refine Rt.enter3 Try.func47 Try.ntmps47 rfl rfl ?_
  (repeat (first | (apply CW.seq) | (apply CW.region)))
  refine WL.boxB rfl rfl rfl fun w1 hb4 hE1 => ?_
  have hb40 := hb4
  have hl1 := hb4.lt
  have hb1 := hb.ext hE1
  (repeat (first | (apply WL.pure; rfl; rfl; rfl) | (apply WL.nil) | (apply EX.thenN) | (apply CW.seq) | (apply CW.region) | (apply WL.lenS; rfl; rfl; rfl) | (apply WL.fa; rfl; rfl; rfl) | (apply WL.nck; rfl; rfl; rfl) | (apply WL.ld; rfl; rfl; rfl; assumption; rfl)))
  refine WL.make (α := Bool) rfl rfl rfl rfl (by omega) (by unfold maxLen; omega) (fun w2 ho2 hg2 => ?_)
  have e2 : Ext w1 w2 := (Below.refl _ _).grown hg2 (Nat.le_refl _) (fun k h => by cases h)
  generalize hsv : Value.slice (some ⟨w1.heap.size, 0, none⟩) g.length g.length = sv at *
  have hpc : ∀ n, n < part.length → ∃ c0 : Nat, part[n]! = (c0 : Int) ∧ c0 < g.length ∧ part.getD n 0 = (c0 : Int) := fun n hn => by
    have h0 := hpt.ge n hn; have h1 := hpt.lt n hn
    obtain ⟨c0, hc0⟩ := Int.eq_ofNat_of_zero_le h0
    exact ⟨c0, by rw [← hc0, wgetDI hn]; simp [hn], by omega, hc0⟩
  have hb2 := hb1.ext e2
  (repeat (first | (apply WL.pure; rfl; rfl; rfl) | (apply WL.nil) | (apply EX.thenN) | (apply CW.seq) | (apply CW.region) | (apply WL.lenS; rfl; rfl; rfl) | (apply WL.fa; rfl; rfl; rfl) | (apply WL.nck; rfl; rfl; rfl) | (apply WL.ld; rfl; rfl; rfl; assumption; rfl) | (apply CW.block)))
  refine CW.loop (S := Nat × List Bool) (fun s => [(0, .pointer (some ⟨sb, 0, none⟩)), (2, .slice so sets.length sc), (4, .pointer (some ⟨w0.heap.size, 0, none⟩)), (7, sv), (25, .slice no g.length nc), (26, .int .i64 g.length), (27, .int .i64 s.1)])
    (fun s w => s.1 ≤ g.length ∧ Own w w1.heap.size 4 Non sv s.2 ∧ s.2.length = g.length ∧ (∀ c : Nat, c < g.length → (s.2.getD c false = true ↔ prtP g part s.1 c)) ∧ Ext w1 w) (fun s => g.length - s.1) (0, List.replicate g.length false) (by repeat (first | exact trivial | refine ⟨rfl, ?_⟩))
    ⟨Nat.zero_le _, ho2, by simp, fun c hc => by dsimp only; rw [getD_rep]; unfold prtP; simp, e2⟩ ?_
  rintro ⟨n, out⟩ w ⟨hn, ho, hol, hr, e⟩
  dsimp only at hn ho hol hr ⊢
  have hE := hE1.trans e
  (repeat (first | (apply WL.pure; rfl; rfl; rfl) | (apply WL.nil) | (apply EX.thenN) | (apply CW.seq) | (apply CW.region)))
  refine CW.cond rfl (fun h => ?_) (fun h => ?_)
  · have hn' : n < g.length := by simp at h; omega
    have erow : g.getD n [] = g[n] := wgetDG hn'
    have hnp : n < part.length := by omega
    obtain ⟨c0, _, hc0l, hc0⟩ := hpc n hnp
    have hpn : part[n] = (c0 : Int) := by rw [← wgetDI hnp]; exact hc0
    (repeat (first | (apply WL.pure; rfl; rfl; rfl) | (apply EX.thenN) | (apply CW.seq) | (apply CW.region) | (apply CW.block) | (apply CW.skip)))
    refine WL.elemN rfl rfl rfl rfl rfl (hs.at hE) hn' (fun _ => rfl) (fun u q hu => ?_)
    obtain ⟨ro, rc, rfl, hrow⟩ := hu.sl
    have hrl := hrow.len63
    skip
    refine WL.alloc rfl rfl (fun w3 hb8 e3 => ?_)
    have z3 := hb8.lt
    skip
    refine WL.st rfl rfl rfl hb8 rfl rfl (ones_of rfl) (fun w4 hb8 hg4 => ?_)
    have e4 : Ext w w4 := e3.grown hg4 e3.size (fun g hg => by cases hg; exact Nat.le_refl _)
    have hE4 := hE.trans e4
    have hb44 := hb4.ext (e.trans e4)
    have ho := ho.extN e4
    (repeat (first | (apply WL.pure; rfl; rfl; rfl) | (apply WL.nil) | (apply EX.thenN) | (apply CW.seq) | (apply CW.region) | (apply WL.makeFunc; rfl; rfl; rfl; rfl)))
    refine WL.call rfl rfl rfl (containsFunc_int w4 (fun x => part.getD x.toNat 0 == part.getD n 0) (hrow.mono (fun b hb => (hE4.block b hb).trans (hE.block b hb).symm) (fun b hb => Nat.lt_of_lt_of_le hb hE4.size)) (fun w5 hw i hi => ?_)) ?_
    · have hto := hg _ (List.getElem_mem hn') _ (List.getElem_mem hi)
      obtain ⟨to, eto⟩ := Int.eq_ofNat_of_zero_le hto.1
      rw [eto, Int.toNat_natCast]
      exact FnV.mk (cs := [_, _]) (egood1_ok w5 _ _ (hb44.ext hw) (hb8.ext hw) (hp.up (hE4.trans hw)) (by omega) hnp)
    rintro _ w5 ⟨rfl, e5⟩
    have hb45 := hb44.ext e5
    have hb8 := hb8.ext e5
    have ho := ho.extN e5
    have hE5 := hE4.trans e5
    have e5 := (e.trans e4).trans e5
    have hany : (g[n].any fun x => part.getD x.toNat 0 == part.getD n 0) = true ↔ ∃ to ∈ g.getD n [], part.getD to.toNat 0 = part.getD n 0 := by
      rw [List.any_eq_true, erow]; simp
    (repeat (first | (apply WL.nil) | (apply EX.thenN)))
    refine CW.cond rfl (fun h2 => ?_) (fun h2 => ?_)
    · (repeat (first | (apply WL.pure; rfl; rfl; rfl) | (apply CW.region) | (apply WL.ld; rfl; rfl; rfl; assumption; rfl)))
      refine WL.elemI rfl rfl rfl rfl rfl (hp.at hE5) hnp hpn (fun _ => rfl) (fun q => ?_)
      skip
      refine WL.setN (u := .bool true) (yv := true) rfl rfl rfl rfl ho (show c0 < out.length by omega) (fun _ => rfl) (fun _ => rfl) (Rd.mkBool _ _ _) (fun w6 q2 ho6 hg6 => ?_)
      have e6 : Ext w1 w6 := e5.grown hg6 e5.size (fun b hb => (ho.lt b hb).1)
      (repeat (first | (apply WL.add; rfl; rfl; rfl; rfl; omega; omega) | (apply WL.pure; rfl; rfl; rfl) | (apply WL.nil) | (apply EX.thenN) | (apply CW.region) | (apply EX.inN)))
      refine EX.back (n + 1, out.set c0 true) (by repeat (first | exact trivial | refine ⟨rfl, ?_⟩)) ⟨hn', ho6, by simpa using hol, fun c hc => ?_, e6⟩ (by dsimp only; omega)
      dsimp only
      rw [getD_set (by omega), prtP_next, ← hany]
      by_cases e : c0 = c
      · subst e
        rw [if_pos rfl]
        exact ⟨fun _ => .inr ⟨hc0, h2⟩, fun _ => rfl⟩
      · rw [if_neg e, hr c hc]
        exact ⟨.inl, fun h => h.resolve_right (fun ⟨h1, _⟩ => e (by have := hc0.symm.trans h1; omega))⟩
    · (repeat (first | (apply WL.add; rfl; rfl; rfl; rfl; omega; omega) | (apply WL.pure; rfl; rfl; rfl) | (apply WL.nil) | (apply EX.thenN) | (apply CW.region) | (apply EX.inN) | (apply CW.skip)))
      refine EX.back (n + 1, out) (by repeat (first | exact trivial | refine ⟨rfl, ?_⟩)) ⟨hn', ho, hol, fun c hc => ?_, e5⟩ (by dsimp only; omega)
      dsimp only
      rw [hr c hc, prtP_next, ← hany, h2]
      simp
  obtain rfl : n = g.length := by simp at h; omega
  clear h hn
  have hb4 := hb4.ext e
  (repeat (first | (apply WL.pure; rfl; rfl; rfl) | (apply WL.nil) | (apply EX.thenN) | (apply CW.seq) | (apply CW.region) | (apply WL.lenS; rfl; rfl; rfl) | (apply CW.block) | (apply CW.exit) | (apply EX.thenX) | (apply EX.inX)))
  refine CW.loop (S := Nat × List Bool) (fun s => [(0, .pointer (some ⟨sb, 0, none⟩)), (4, .pointer (some ⟨w0.heap.size, 0, none⟩)), (7, sv), (42, .slice so sets.length sc), (43, .int .i64 sets.length), (44, .int .i64 s.1)])
    (fun s w => s.1 ≤ sets.length ∧ Own w w1.heap.size 4 Non sv s.2 ∧ s.2.length = g.length ∧ (∀ c : Nat, c < g.length → (s.2.getD c false = true ↔ prtP g part g.length c ∧ ∀ S ∈ sets.take s.1, ∃ x, x < g.length ∧ S.getD x false = true ∧ part.getD x 0 = c)) ∧ Ext w1 w) (fun s => sets.length - s.1) (0, out) (by repeat (first | exact trivial | refine ⟨rfl, ?_⟩))
    ⟨Nat.zero_le _, ho, hol, fun c hc => by dsimp only; rw [hr c hc]; simp, e⟩ ?_
  clear hr ho hol hE
  rintro ⟨f, out⟩ w3 ⟨hf, ho, hol, hr, e3⟩
  dsimp only at hf ho hol hr ⊢
  have hE := hE1.trans e3
  have hbs3 := hb.ext hE
  (repeat (first | (apply WL.pure; rfl; rfl; rfl) | (apply WL.nil) | (apply EX.thenN) | (apply CW.seq) | (apply CW.region)))
  refine CW.cond rfl (fun h => ?_) (fun h => ?_)
  · have hf' : f < sets.length := by simp at h; omega
    have hSl := hsl _ (List.getElem_mem hf')
    (repeat (first | (apply EX.thenN) | (apply CW.seq) | (apply CW.region) | (apply CW.block) | (apply CW.skip)))
    refine WL.elemN rfl rfl rfl rfl rfl (hfs.at hE) hf' (fun _ => rfl) (fun u q hu => ?_)
    obtain ⟨Fo, Fc, rfl, hF⟩ := hu.sl
    have hFl := hF.len63
    (repeat (first | (apply WL.pure; rfl; rfl; rfl) | (apply WL.nil) | (apply EX.thenN) | (apply CW.seq) | (apply CW.region) | (apply WL.lenS; rfl; rfl; rfl) | (apply WL.fa; rfl; rfl; rfl) | (apply WL.nck; rfl; rfl; rfl) | (apply WL.ld; rfl; rfl; rfl; assumption; rfl)))
    refine WL.make (α := Bool) rfl rfl rfl rfl (by omega) (by unfold maxLen; omega) (fun w4 ho4 hg4 => ?_)
    have e4 : Ext w3 w4 := (Below.refl _ _).grown hg4 (Nat.le_refl _) (fun k h => by cases h)
    have hslt : ∀ b, sv.ownBlock = some b → b < w3.heap.size := fun b hb => (ho.lt b hb).2.1
    (repeat (first | (apply WL.pure; rfl; rfl; rfl) | (apply WL.nil) | (apply EX.thenN) | (apply CW.seq) | (apply CW.region) | (apply WL.lenS; rfl; rfl; rfl) | (apply CW.block)))
    refine CW.loop (S := Nat × List Bool) (fun s => [(0, .pointer (some ⟨sb, 0, none⟩)), (4, .pointer (some ⟨w0.heap.size, 0, none⟩)), (7, sv), (12, .slice (some ⟨w3.heap.size, 0, none⟩) g.length g.length), (42, .slice so sets.length sc), (43, .int .i64 sets.length), (44, .int .i64 f), (54, .slice Fo sets[f].length Fc), (55, .int .i64 sets[f].length), (56, .int .i64 s.1)])
      (fun s w => s.1 ≤ sets[f].length ∧ Own w w3.heap.size 4 Non (.slice (some ⟨w3.heap.size, 0, none⟩) g.length g.length) s.2 ∧ s.2.length = g.length ∧ (∀ c : Nat, c < g.length → (s.2.getD c false = true ↔ ∃ x, x < s.1 ∧ sets[f].getD x false = true ∧ part.getD x 0 = c)) ∧ Ext w3 w) (fun s => sets[f].length - s.1) (0, List.replicate g.length false) (by repeat (first | exact trivial | refine ⟨rfl, ?_⟩))
      ⟨Nat.zero_le _, ho4, by simp, fun c hc => by dsimp only; rw [getD_rep]; simp, e4⟩ ?_
    rintro ⟨i, has⟩ w5 ⟨hi, hoh, hhl, hhas, e5⟩
    dsimp only at hi hoh hhl hhas ⊢
    have hE5 := hE.trans e5
    have hb5 := hb40.ext (e3.trans e5)
    (repeat (first | (apply WL.pure; rfl; rfl; rfl) | (apply WL.nil) | (apply EX.thenN) | (apply CW.seq) | (apply CW.region)))
    refine CW.cond rfl (fun h => ?_) (fun h => ?_)
    · have hi' : i < sets[f].length := by simp at h; omega
      have hip : i < part.length := by omega
      obtain ⟨c0, _, hc0, ec0⟩ := hpc i hip
      have hpc' : part[i] = (c0 : Int) := by rw [← wgetDI hip]; exact ec0
      have hch : c0 < has.length := by omega
      have hF5 : Sl w5 (Old w0) Fo Fc sets[f] := hF.mono (fun b hb => (hE5.block b hb).trans (hE.block b hb).symm) (fun _ h => h)
      (repeat (first | (apply WL.pure; rfl; rfl; rfl) | (apply EX.thenN) | (apply CW.seq) | (apply CW.region) | (apply CW.block) | (apply CW.skip)))
      refine WL.elemB rfl rfl rfl rfl rfl hF5 hi' rfl (fun _ => rfl) (fun q => ?_)
      have hsg : sets[f].getD i false = sets[f][i] := wgetB hi'
      generalize sets[f][i] = is at *
      (repeat (apply WL.pure; rfl; rfl; rfl))
      apply WL.nil
      apply EX.thenN
      have hd := Ext.drew w5
      have hpd := hp.at (hE5.trans hd)
      have hbd := hb5.ext hd
      have hohd := hoh.extN hd
      obtain ⟨ho', hc', hv', hhs⟩ := hohd.slF (F' := fun b => b = w3.heap.size) (fun _ h => h.elim) (fun g hg => by cases hg; rfl)
      obtain ⟨rfl, _, rfl⟩ := Value.slice.inj hv'
      rw [← hhl] at hhs
      have hKK : ∀ (F : Nat → Prop) z, (fun x : World => x = drew w5) z → ∀ b, F b → z.heap[b]? = (drew w5).heap[b]? := fun F z hz b _ => by rw [hz]
      have hK1 : ∀ u, (fun x : World => x = drew w5) u → u.heap[w0.heap.size]? = (drew w5).heap[w0.heap.size]? := fun u hu => by rw [hu]
      have hstep : ∀ (b : Bool), (b = true ↔ has[c0] = true ∨ is = true) → ∀ w', Own w' w3.heap.size 4 Non (.slice (some ⟨w3.heap.size, 0, none⟩) g.length g.length) (has.set c0 b) → Ext w3 w' →
          (i + 1 ≤ sets[f].length ∧ Own w' w3.heap.size 4 Non (.slice (some ⟨w3.heap.size, 0, none⟩) g.length g.length) (has.set c0 b) ∧ (has.set c0 b).length = g.length ∧ (∀ c : Nat, c < g.length → ((has.set c0 b).getD c false = true ↔ ∃ y, y < i + 1 ∧ sets[f].getD y false = true ∧ part.getD y 0 = c)) ∧ Ext w3 w') := by
        intro b hb w' ho he
        refine ⟨hi', ho, by simpa using hhl, fun c hc => ?_, he⟩
        have hsplit : (∃ y, y < i + 1 ∧ sets[f].getD y false = true ∧ part.getD y 0 = c) ↔ (∃ y, y < i ∧ sets[f].getD y false = true ∧ part.getD y 0 = c) ∨ (is = true ∧ c0 = c) := by
          constructor
          · rintro ⟨y, hy1, hy2, hy3⟩
            by_cases e : y = i
            · subst e; exact .inr ⟨by rw [← hsg]; exact hy2, by omega⟩
            · exact .inl ⟨y, by omega, hy2, hy3⟩
          · rintro (⟨y, hy1, hy2⟩ | ⟨hy1, hy2⟩)
            · exact ⟨y, by omega, hy2⟩
            · exact ⟨i, by omega, by rw [hsg]; exact hy1, by omega⟩
        rw [getD_set hch, hsplit]
        by_cases e : c0 = c
        · subst e
          rw [if_pos rfl, hb, ← getB_at hch, hhas _ hc]
          simp
        · rw [if_neg e, hhas c hc]
          simp [e]
      refine CW.drawE (fun x : World => x = drew w5) [(0, true), (1, true), (2, true), (3, true), (4, true), (5, true), (6, true), (7, true), (8, true), (9, true), (10, true), (11, true), (12, true), (13, true), (14, true), (15, true)] 16 mixed (by kernel_rfl) rfl ?_
      (repeat (first | (apply HL.pure; rfl; rfl; rfl; rfl) | (refine HL.ldK (by assumption) rfl rfl rfl rfl (by assumption) rfl ?_)))
      refine HL.elemK (w := drew w5) (F := Old w0) (hKK _) rfl rfl rfl rfl rfl rfl rfl hpd hip (fun _ => rfl) (fun u q hu => ?_)
      obtain rfl := hu.int
      rw [hpc']
      (repeat (first | (apply HL.pure; rfl; rfl; rfl; rfl) | (refine HL.ldK (by assumption) rfl rfl rfl rfl (by assumption) rfl ?_)))
      refine HL.elemK (w := drew w5) (F := Old w0) (hKK _) rfl rfl rfl rfl rfl rfl rfl hpd hip (fun _ => rfl) (fun u q hu => ?_)
      obtain rfl := hu.int
      rw [hpc']
      skip
      rw [← hhl]
      refine HL.elemK (w := drew w5) (F := fun b => b = w3.heap.size) (hKK _) rfl rfl rfl rfl rfl rfl rfl hhs hch (fun _ => rfl) (fun u q hu => ?_)
      obtain rfl := hu.bool
      rw [hhl]
      by_cases hh : has[c0] = true
      · rw [hh]
        (repeat (first | (apply HL.pure; rfl; rfl; rfl; rfl) | (apply HL.pass; rfl; rfl; rfl)))
        refine HL.setTail (yv := true) rfl rfl rfl rfl rfl rfl hohd hch (fun _ => rfl) (fun _ => rfl) (Rd.mkBool _ _ _) (fun w14 q ho14 hg14 => ?_)
        have e14 : Ext w3 w14 := (e5.trans hd).grown hg14 (e5.trans hd).size (fun b hb => (hohd.lt b hb).1)
        (repeat (first | (apply WL.add; rfl; rfl; rfl; rfl; omega; omega) | (apply WL.pure; rfl; rfl; rfl) | (apply WL.nil) | (apply EX.thenN) | (apply CW.region) | (apply EX.inN)))
        exact EX.back (i + 1, has.set c0 true) (by repeat (first | exact trivial | refine ⟨rfl, ?_⟩)) (hstep true (by simp [hh]) _ ho14 e14) (by dsimp only; omega)
      · have hh : has[c0] = false := by simpa using hh
        rw [hh]
        (repeat (apply HL.pure; rfl; rfl; rfl; rfl))
        refine HL.setTail (yv := is) rfl rfl rfl rfl rfl rfl hohd hch (fun _ => rfl) (fun _ => rfl) (Rd.mkBool _ _ _) (fun w14 q ho14 hg14 => ?_)
        have e14 : Ext w3 w14 := (e5.trans hd).grown hg14 (e5.trans hd).size (fun b hb => (hohd.lt b hb).1)
        (repeat (first | (apply WL.add; rfl; rfl; rfl; rfl; omega; omega) | (apply WL.pure; rfl; rfl; rfl) | (apply WL.nil) | (apply EX.thenN) | (apply CW.region) | (apply EX.inN)))
        exact EX.back (i + 1, has.set c0 is) (by repeat (first | exact trivial | refine ⟨rfl, ?_⟩)) (hstep _ (by simp [hh]) _ ho14 e14) (by dsimp only; omega)
    · obtain rfl : i = sets[f].length := by simp at h; omega
      have ho5 := ho.extN e5
      rw [hSl] at hhas
      generalize hhv : Value.slice (some ⟨w3.heap.size, 0, none⟩) g.length g.length = hv at *
      have hhb : hv.ownBlock = some w3.heap.size := by rw [← hhv]; rfl
      (repeat (first | (apply WL.pure; rfl; rfl; rfl) | (apply WL.nil) | (apply EX.thenN) | (apply CW.seq) | (apply CW.region) | (apply CW.block) | (apply CW.exit) | (apply EX.thenX) | (apply EX.inX) | (refine WL.lenO rfl rfl rfl (by assumption) ?_)))
      refine CW.loop (S := Nat × List Bool) (fun s => [(0, .pointer (some ⟨sb, 0, none⟩)), (4, .pointer (some ⟨w0.heap.size, 0, none⟩)), (7, sv), (12, hv), (42, .slice so sets.length sc), (43, .int .i64 sets.length), (44, .int .i64 f), (79, .int .i64 g.length), (80, .int .i64 s.1)])
        (fun s w => s.1 ≤ g.length ∧ Own w w1.heap.size 4 Non sv s.2 ∧ s.2.length = g.length ∧ (∀ c : Nat, c < g.length → s.2.getD c false = if c < s.1 then out.getD c false && has.getD c false else out.getD c false) ∧ Own w w3.heap.size 4 Non hv has ∧ Ext w1 w) (fun s => g.length - s.1) (0, out) ?_
        ⟨Nat.zero_le _, ho5, hol, fun c hc => by dsimp only; rw [if_neg (by omega)], hoh, e3.trans e5⟩ ?_
      · rw [hol]; exact (by repeat (first | exact trivial | refine ⟨rfl, ?_⟩))
      rintro ⟨k, gd'⟩ w14 ⟨hk, hg14, hgl14, hgd14, hoh, e14⟩
      dsimp only at hk hg14 hgl14 hgd14 hoh ⊢
      (repeat (first | (apply WL.pure; rfl; rfl; rfl) | (apply WL.nil) | (apply EX.thenN) | (apply CW.seq) | (apply CW.region)))
      refine CW.cond rfl (fun h => ?_) (fun h => ?_)
      · have hk' : k < g.length := by simp at h; omega
        have hkg : k < gd'.length := by omega
        have hkh : k < has.length := by omega
        have hgk : gd'[k] = out.getD k false := by rw [← wgetB hkg, hgd14 k hk', if_neg (by omega)]
        have hst : ∀ b : Bool, b = (out.getD k false && has.getD k false) → ∀ c : Nat, c < g.length → (gd'.set k b).getD c false = if c < k + 1 then out.getD c false && has.getD c false else out.getD c false := by
          intro b hb c hc
          rw [getD_set hkg]
          by_cases e : k = c
          · subst e; rw [if_pos rfl, if_pos (by omega), hb]
          · rw [if_neg e, hgd14 c hc]
            by_cases h1 : c < k
            · rw [if_pos h1, if_pos (by omega)]
            · rw [if_neg h1, if_neg (by omega)]
        (repeat (first | (apply WL.pure; rfl; rfl; rfl) | (apply WL.nil) | (apply EX.thenN) | (apply CW.seq) | (apply CW.region) | (apply CW.block) | (apply CW.skip)))
        refine WL.elemON rfl rfl rfl rfl rfl hg14 hkg (fun _ => rfl) (fun u q hu => ?_)
        obtain rfl := hu.bool
        rw [hgk]
        by_cases hgt : out.getD k false = true
        · rw [hgt]
          (repeat (apply WL.pure; rfl; rfl; rfl))
          refine WL.elemON rfl rfl rfl rfl rfl hoh hkh (fun _ => rfl) (fun u q hu => ?_)
          obtain rfl := hu.bool
          (repeat (apply WL.pure; rfl; rfl; rfl))
          refine WL.setN (u := .bool has[k]) (yv := has[k]) rfl rfl rfl rfl hg14 hkg (fun _ => rfl) (fun _ => rfl) (Rd.mkBool _ _ _) (fun w15 q ho15 hg15 => ?_)
          have e15 : Ext w1 w15 := e14.grown hg15 e14.size (fun b hb => (hg14.lt b hb).1)
          have hoh15 := hoh.keptN hg15 (fun g hg e => by rw [hhb] at hg; cases hg; exact absurd (hslt _ e.symm) (Nat.lt_irrefl _))
          (repeat (first | (apply WL.add; rfl; rfl; rfl; rfl; omega; omega) | (apply WL.pure; rfl; rfl; rfl) | (apply WL.nil) | (apply EX.thenN) | (apply CW.region) | (apply EX.inN)))
          exact EX.back (k + 1, gd'.set k has[k]) (by repeat (first | exact trivial | refine ⟨rfl, ?_⟩)) ⟨hk', ho15, by simpa using hgl14, hst _ (by rw [hgt, wgetB hkh]; rfl), hoh15, e15⟩ (by dsimp only; omega)
        · have hgt : out.getD k false = false := by simpa using hgt
          rw [hgt]
          (repeat (first | (apply WL.pure; rfl; rfl; rfl) | (apply WL.pass; rfl; rfl)))
          refine WL.setN (u := .bool false) (yv := false) rfl rfl rfl rfl hg14 hkg (fun _ => rfl) (fun _ => rfl) (Rd.mkBool _ _ _) (fun w15 q ho15 hg15 => ?_)
          have e15 : Ext w1 w15 := e14.grown hg15 e14.size (fun b hb => (hg14.lt b hb).1)
          have hoh15 := hoh.keptN hg15 (fun g hg e => by rw [hhb] at hg; cases hg; exact absurd (hslt _ e.symm) (Nat.lt_irrefl _))
          (repeat (first | (apply WL.add; rfl; rfl; rfl; rfl; omega; omega) | (apply WL.pure; rfl; rfl; rfl) | (apply WL.nil) | (apply EX.thenN) | (apply CW.region) | (apply EX.inN)))
          exact EX.back (k + 1, gd'.set k false) (by repeat (first | exact trivial | refine ⟨rfl, ?_⟩)) ⟨hk', ho15, by simpa using hgl14, hst _ (by rw [hgt]; rfl), hoh15, e15⟩ (by dsimp only; omega)
      · obtain rfl : k = g.length := by simp at h; omega
        (repeat (first | (apply WL.add; rfl; rfl; rfl; rfl; omega; omega) | (apply WL.pure; rfl; rfl; rfl) | (apply WL.nil) | (apply EX.thenN) | (apply CW.region) | (apply EX.inN) | (apply CW.exit) | (apply EX.thenX) | (apply EX.inX)))
        refine EX.back (f + 1, gd') (by repeat (first | exact trivial | refine ⟨rfl, ?_⟩)) ⟨hf', hg14, hgl14, fun c hc => ?_, e14⟩ (by dsimp only; omega)
        dsimp only
        rw [hgd14 c hc, if_pos hc, Bool.and_eq_true, hr c hc, hhas c hc, ← List.take_append_getElem hf', and_assoc]
        refine and_congr Iff.rfl ⟨fun ⟨h1, h2⟩ F hF => ?_, fun h1 => ⟨fun F hF => h1 F (List.mem_append.2 (.inl hF)), h1 sets[f] (List.mem_append.2 (.inr (by simp)))⟩⟩
        rcases List.mem_append.1 hF with hF | hF
        · exact h1 F hF
        · rw [List.mem_singleton] at hF; subst hF; exact h2
  · obtain rfl : f = sets.length := by simp at h; omega
    rw [List.take_length] at hr
    obtain ⟨oo, oc, rfl, hos⟩ := ho.oldN.sl
    (repeat (first | (apply WL.pure; rfl; rfl; rfl) | (apply EX.thenN) | (apply CW.seq) | (apply CW.region) | (apply CW.exit) | (apply EX.thenX) | (apply EX.inX)))
    refine WL.call rfl rfl rfl (index_bool w3 true hos) ?_
    rintro _ w4 ⟨rfl, e4⟩
    have hiff : ∀ c : Nat, c < g.length → (out.getD c false = true ↔ GoodC g part sets (c : Int)) := fun c hc => hr c hc
    (repeat (first | (apply WL.pure; rfl; rfl; rfl) | (apply WL.nil) | (apply EX.thenN) | (apply CW.ret)))
    refine EX.ret1 rfl rfl ⟨_, rfl, ?_, hE.trans e4⟩
    rcases idxOf_true hol with ⟨h1, h2⟩ | ⟨c, h1, h2, h3⟩
    · refine .inl ⟨h1, fun c h0 h3 h4 => ?_⟩
      obtain ⟨c, rfl⟩ := Int.eq_ofNat_of_zero_le h0
      have := (hiff c (by omega)).2 h4
      rw [h2] at this
      cases this
    · exact .inr ⟨by omega, by omega, by rw [h1]; exact (hiff c h2).1 h3⟩
end Go.Proofs.Ytllpfgcngokhnaa

