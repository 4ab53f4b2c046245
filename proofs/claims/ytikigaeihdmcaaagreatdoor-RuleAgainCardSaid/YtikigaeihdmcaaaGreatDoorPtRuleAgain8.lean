import Derived.Laws.IdiomStrings
import Derived.Shelf.Strings.Split
import Derived.Shelf.Strings.Cut
import Derived.Shelf.Strings.Builder1
import Derived.Shelf.Strings.OnBuilder
import Derived.Shelf.Vars
import Derived.Test.YtikigaeihdmcaaaGreatDoorPtRuleAgain7
/-
  Drawn regions whose operations, whatever the order, only make new memory: walked in the order of the text. What is known of each value lasts. Over any program.
-/
set_option linter.unusedVariables false
set_option linter.unusedSimpArgs false
namespace Go.Proofs.YtikigaeihdmcaaaGreatDoor
open Go.RowKit

/-- what is known of an operation that has been walked: its number, its slot; its value, or a fact of it (of the value, of who made which block, of the world) -/
inductive ME where
  | kn (i d : Nat) (v : Value)
  | fc (i d : Nat) (Φ : Value → (Nat → Nat) → World → Prop)
def ME.i : ME → Nat | .kn i _ _ => i | .fc i _ _ => i
def ME.d : ME → Nat | .kn _ d _ => d | .fc _ d _ => d
def ME.Φ : ME → Value → (Nat → Nat) → World → Prop | .kn _ _ v => fun u _ _ => u = v | .fc _ _ Φ => Φ
def StM (Φ : Value → (Nat → Nat) → World → Prop) : Prop := ∀ v γ γ' w w', Φ v γ w → Ext w w' → (∀ b, b < w.heap.size → γ' b = γ b) → Φ v γ' w'
def ME.ok (m : ME) : Prop := StM m.Φ
/-- the new blocks are i's -/
def byM (γ : Nat → Nat) (w : World) (i : Nat) : Nat → Nat := fun b => if b < w.heap.size then γ b else i
abbrev Ctx := List ME
def findM : Ctx → Nat → Option ME
  | [], _ => none
  | m :: r, j => match Nat.beq m.i j with | true => some m | false => findM r j
theorem findM_mem : ∀ {Γ : Ctx} {j : Nat} {m : ME}, findM Γ j = some m → m ∈ Γ ∧ m.i = j
  | [], _, _, h => by cases h
  | x :: r, j, m, h => by
    unfold findM at h
    split at h
    · rename_i e
      injection h with h
      subst h
      exact ⟨by simp, Nat.eq_of_beq_eq_true e⟩
    · obtain ⟨h1, h2⟩ := findM_mem h
      exact ⟨by simp [h1], h2⟩
def elN (j : Nat) : List Nat → Bool
  | [] => false
  | x :: r => match Nat.beq x j with | true => true | false => elN j r
theorem elN_mem {j : Nat} : ∀ {l : List Nat}, elN j l = true → j ∈ l
  | [], h => by cases h
  | x :: r, h => by
    unfold elN at h
    split at h
    · rename_i e; rw [Nat.eq_of_beq_eq_true e]; simp
    · exact List.mem_cons_of_mem _ (elN_mem h)
/-- the edges that an operation waits for, each once -/
def onsL : List Edge → List Nat
  | [] => []
  | e :: r => match Region.binds .any e with
    | true => (match elN e.on (onsL r) with | true => onsL r | false => e.on :: onsL r)
    | false => onsL r
def ons (o : Oper) : List Nat := onsL o.after.toList
theorem onsL_mem {j : Nat} : ∀ {l : List Edge}, j ∈ onsL l → ∃ e ∈ l, Region.binds .any e = true ∧ e.on = j
  | [], h => by cases h
  | e :: r, h => by
    have up : j ∈ onsL r → ∃ e' ∈ e :: r, Region.binds .any e' = true ∧ e'.on = j := fun h => by
      obtain ⟨e', h1, h2⟩ := onsL_mem h; exact ⟨e', by simp [h1], h2⟩
    unfold onsL at h
    split at h
    · rename_i hb
      split at h
      · exact up h
      · rcases List.mem_cons.1 h with rfl | h
        · exact ⟨e, by simp, hb, rfl⟩
        · exact up h
    · exact up h
theorem ons_mem {o : Oper} {j : Nat} (h : j ∈ ons o) : ∃ e ∈ o.after, Region.binds .any e = true ∧ e.on = j := by
  obtain ⟨e, h1, h2⟩ := onsL_mem h
  exact ⟨e, by simpa using h1, h2⟩
/-- the slots that an operation finds: those of values that are known -/
def kS (Γ : Ctx) (σ : Sg) : List Nat → Sg
  | [] => σ
  | j :: r => match findM Γ j with | some (.kn _ d v) => (d, v) :: kS Γ σ r | _ => kS Γ σ r
/-- .. and of facts -/
def needK (Γ : Ctx) (γ : Nat → Nat) (w : World) (k : Sg → Prop) : List Nat → Sg → Prop
  | [], σ => k σ
  | j :: r, σ => match findM Γ j with
    | some (.kn _ d v) => needK Γ γ w k r ((d, v) :: σ)
    | some (.fc _ d Φ) => ∀ v, Φ v γ w → needK Γ γ w k r ((d, v) :: σ)
    | none => needK Γ γ w k r σ
def allK (γ : Nat → Nat) (w : World) (k : Sg → Prop) : Ctx → Sg → Prop
  | [], σ => k σ
  | .kn _ d v :: r, σ => allK γ w k r ((d, v) :: σ)
  | .fc _ d Φ :: r, σ => ∀ v, Φ v γ w → allK γ w k r ((d, v) :: σ)
theorem fr_cons {n : Nat} {σ : Sg} {a : Act} {d : Nat} {v : Value} (h : Fr n σ a) (hv : a.tmps.getD d undef = v) : Fr n ((d, v) :: σ) a := by
  refine ⟨h.size, h.defers, fun t u hu => ?_⟩
  by_cases e : d = t
  · subst e; rw [fnd_cons_eq] at hu; cases hu; exact hv
  · rw [fnd_cons_ne e] at hu; exact h.slot _ _ hu
theorem kS_fr {Γ : Ctx} {n : Nat} {σ : Sg} {a : Act} {γ : Nat → Nat} {w : World} (ha : Fr n σ a) : ∀ (l : List Nat), (∀ j ∈ l, ∀ m ∈ Γ, m.i = j → m.Φ (a.tmps.getD m.d undef) γ w) → Fr n (kS Γ σ l) a
  | [], _ => ha
  | j :: r, h => by
    have ih := kS_fr (γ := γ) (w := w) ha r (fun x hx => h x (by simp [hx]))
    unfold kS
    split
    · rename_i i d v hf
      obtain ⟨h1, h2⟩ := findM_mem hf
      exact fr_cons ih (h j (by simp) _ h1 h2)
    · exact ih
theorem needK_fr {Γ : Ctx} {n : Nat} {a : Act} {γ : Nat → Nat} {w : World} {k : Sg → Prop} : ∀ (l : List Nat) (σ : Sg), needK Γ γ w k l σ → Fr n σ a → (∀ j ∈ l, ∀ m ∈ Γ, m.i = j → m.Φ (a.tmps.getD m.d undef) γ w) → ∃ τ, Fr n τ a ∧ k τ
  | [], σ, h, ha, _ => ⟨σ, ha, h⟩
  | j :: r, σ, h, ha, hΦ => by
    unfold needK at h
    have hr : ∀ x ∈ r, ∀ m ∈ Γ, m.i = x → m.Φ (a.tmps.getD m.d undef) γ w := fun x hx => hΦ x (by simp [hx])
    split at h
    · rename_i i d v hf
      obtain ⟨h1, h2⟩ := findM_mem hf
      exact needK_fr r _ h (fr_cons ha (hΦ j (by simp) _ h1 h2)) hr
    · rename_i i d Φ hf
      obtain ⟨h1, h2⟩ := findM_mem hf
      exact needK_fr r _ (h _ (hΦ j (by simp) _ h1 h2)) (fr_cons ha rfl) hr
    · exact needK_fr r _ h ha hr
theorem allK_fr {n : Nat} {a : Act} {γ : Nat → Nat} {w : World} {k : Sg → Prop} : ∀ (Γ : Ctx) (σ : Sg), allK γ w k Γ σ → Fr n σ a → (∀ m ∈ Γ, m.Φ (a.tmps.getD m.d undef) γ w) → ∃ τ, Fr n τ a ∧ k τ
  | [], σ, h, ha, _ => ⟨σ, ha, h⟩
  | .kn i d v :: r, σ, h, ha, hΦ => allK_fr r _ h (fr_cons ha (hΦ (.kn i d v) (by simp))) (fun m hm => hΦ m (by simp [hm]))
  | .fc i d Φ :: r, σ, h, ha, hΦ => allK_fr r _ (h _ (hΦ (.fc i d Φ) (by simp))) (fr_cons ha rfl) (fun m hm => hΦ m (by simp [hm]))
/-- behind one operation -/
def AftM (γ : Nat → Nat) (w : World) (i d : Nat) (Φ : Value → (Nat → Nat) → World → Prop) : Exit → Act → World → Prop :=
  fun x a w' => x = .normal ∧ a.defers = [] ∧ Ext w w' ∧ Φ (a.tmps.getD d undef) (byM γ w i) w'
theorem EX.mm {γ : Nat → Nat} {w w' : World} {n i d : Nat} {σ : Sg} {v : Value} {Φ : Value → (Nat → Nat) → World → Prop} (hv : fnd σ d = some v) (hE : Ext w w') (hΦ : Φ v (byM γ w i) w') : EX (AftM γ w i d Φ) .normal n σ w' := by
  unfold EX
  intro a ha
  exact ⟨rfl, ha.defers, hE, by rw [ha.slot _ _ hv]; exact hΦ⟩
/-- what one operation does, wherever it comes; or it isn't wanted -/
def OB (P : Program) (L : List Oper) (w0 : World) (n : Nat) (σ : Sg) (Γ : Ctx) (o : Oper) (i d : Nat) (Φ : Value → (Nat → Nat) → World → Prop) : Prop :=
  ∀ w γ, Ext w0 w → ∀ a, Fr n σ a → (∀ j ∈ ons o, ∀ m ∈ Γ, m.i = j → m.Φ (a.tmps.getD m.d undef) γ w) →
    (Region.wanted o (yielded L.toArray a.tmps) = true ∧ o.wp P a w (fun a' w' => Ext w w' ∧ ∃ v, a' = a.put (some d) v ∧ Φ v (byM γ w i) w') Never) ∨ (Region.wanted o (yielded L.toArray a.tmps) = false ∧ Φ undef (byM γ w i) w)
/-- the walk -/
def ML (P : Program) (L : List Oper) (w0 : World) (n : Nat) (σ : Sg) (K : Ctx → Prop) : Nat → Ctx → List Oper → Prop
  | _, Γ, [] => K Γ
  | i, Γ, o :: r => ∃ m : ME, m.i = i ∧ o.dst = some m.d ∧ Nat.ble (m.d + 1) n = true ∧ fnd σ m.d = none ∧ m.ok ∧ OB P L w0 n σ Γ o i m.d m.Φ ∧ ML P L w0 n σ K (i + 1) (m :: Γ) r
theorem aft_wp {P : Program} {o : Oper} {i d n : Nat} {L : List Oper} {γ : Nat → Nat} {Φ : Value → (Nat → Nat) → World → Prop} {a : Act} {w : World} {τ : Sg} (hd : o.dst = some d) (hn : Nat.ble (d + 1) n = true) (ha : Fr n τ a) (hw : Region.wanted o (yielded L.toArray a.tmps) = true) (h : WL P L (AftM γ w i d Φ) [o] n τ w) :
    o.wp P a w (fun a' w' => Ext w w' ∧ ∃ v, a' = a.put (some d) v ∧ Φ v (byM γ w i) w') Never := by
  unfold WL at h
  have h2 := h a ha
  simp only [wpList, hw, if_true] at h2
  have hlt : d < n := Nat.le_of_ble_eq_true hn
  have hget : ∀ v, (a.put (some d) v).tmps.getD d undef = v := by
    intro v
    simp [Act.put, Array.getD, ha.size, hlt]
  rcases h2 with h2 | ⟨_, hl⟩
  · unfold Oper.wp at *
    obtain ⟨dst, op, ty, pos, af, g⟩ := o
    simp only at hd
    subst hd
    generalize (execOp a.eval _).run P w = r at *
    cases r with
    | ok k w' =>
      cases k <;> simp only [Oper.upon] at h2 ⊢ <;> first
        | exact ⟨h2.2.2.1, _, rfl, by have := h2.2.2.2; rw [hget] at this; exact this⟩
        | (exfalso; have := h2.2.1; simp [Act.put] at this; done)
        | (refine Calls.mono h2 (fun x w'' he => ?_)
           cases x
           · exact ⟨he.2.2.1, _, rfl, by have := he.2.2.2; rw [hget] at this; exact this⟩
           · exact absurd he.1 (by simp)
           · obtain ⟨_, _, hx⟩ := he; exact absurd hx.1 (by simp))
        | exact Rows.mono h2 (fun v w'' he => ⟨he.2.2.1, _, rfl, by have := he.2.2.2; rw [hget] at this; exact this⟩)
        | exact h2
    | halt x w' => cases x <;> simp only [Oper.upon] at h2 ⊢ <;> first | exact h2 | exact absurd h2.1 (by simp)
  · obtain ⟨_, _, hx⟩ := hl
    exact absurd hx.1 (by simp)
section
variable {P : Program} {L : List Oper} {w0 : World} {n : Nat} {σ : Sg} {K : Ctx → Prop} {i d : Nat} {Γ : Ctx} {r : List Oper} {op : Op} {ty : TypeId} {pos : String} {af : Array Edge} {g : Option (Nat × Bool)}
/-- an operation whose value is known, by the rule for its like -/
theorem ML.q {v : Value} (hg : gd L (kS Γ σ (onsL af.toList)) ⟨some d, op, ty, pos, af, g⟩ = some true) (hn : Nat.ble (d + 1) n = true) (hf : fnd σ d = none)
    (h : ∀ γ w, Ext w0 w → WL P L (AftM γ w i d (fun u _ _ => u = v)) [⟨some d, op, ty, pos, af, g⟩] n (kS Γ σ (onsL af.toList)) w) (hr : ML P L w0 n σ K (i + 1) (.kn i d v :: Γ) r) :
    ML P L w0 n σ K i Γ (⟨some d, op, ty, pos, af, g⟩ :: r) := by
  refine ⟨.kn i d v, rfl, rfl, hn, hf, fun u _ _ w w' h _ _ => h, fun w γ hw a ha hΦ => .inl ?_, hr⟩
  have hk : Fr n (kS Γ σ (onsL af.toList)) a := kS_fr ha _ hΦ
  have hwa := gd_wanted hk hg
  exact ⟨hwa, aft_wp rfl hn hk hwa (h γ w hw)⟩
/-- one that isn't wanted -/
theorem ML.pass (hg : gd L (kS Γ σ (onsL af.toList)) ⟨some d, op, ty, pos, af, g⟩ = some false) (hn : Nat.ble (d + 1) n = true) (hf : fnd σ d = none)
    (hr : ML P L w0 n σ K (i + 1) (.kn i d undef :: Γ) r) : ML P L w0 n σ K i Γ (⟨some d, op, ty, pos, af, g⟩ :: r) := by
  refine ⟨.kn i d undef, rfl, rfl, hn, hf, fun u _ _ w w' h _ _ => h, fun w γ hw a ha hΦ => .inr ?_, hr⟩
  have hk : Fr n (kS Γ σ (onsL af.toList)) a := kS_fr ha _ hΦ
  exact ⟨gd_wanted hk hg, rfl⟩
/-- one of whose value a fact is known -/
theorem ML.fc (Φ : Value → (Nat → Nat) → World → Prop) (hg : gd L (kS Γ σ (onsL af.toList)) ⟨some d, op, ty, pos, af, g⟩ = some true) (hn : Nat.ble (d + 1) n = true) (hf : fnd σ d = none) (hs : StM Φ)
    (h : ∀ γ w, Ext w0 w → needK Γ γ w (fun τ => WL P L (AftM γ w i d Φ) [⟨some d, op, ty, pos, af, g⟩] n τ w) (onsL af.toList) σ) (hr : ML P L w0 n σ K (i + 1) (.fc i d Φ :: Γ) r) :
    ML P L w0 n σ K i Γ (⟨some d, op, ty, pos, af, g⟩ :: r) := by
  refine ⟨.fc i d Φ, rfl, rfl, hn, hf, hs, fun w γ hw a ha hΦ => .inl ?_, hr⟩
  have hk : Fr n (kS Γ σ (onsL af.toList)) a := kS_fr ha _ hΦ
  have hwa := gd_wanted hk hg
  obtain ⟨τ, hτ, hW⟩ := needK_fr _ _ (h γ w hw) ha hΦ
  exact ⟨hwa, aft_wp rfl hn hτ hwa hW⟩
/-- the same, its value known, facts looked at -/
theorem ML.kc {v : Value} (hg : gd L (kS Γ σ (onsL af.toList)) ⟨some d, op, ty, pos, af, g⟩ = some true) (hn : Nat.ble (d + 1) n = true) (hf : fnd σ d = none)
    (h : ∀ γ w, Ext w0 w → needK Γ γ w (fun τ => WL P L (AftM γ w i d (fun u _ _ => u = v)) [⟨some d, op, ty, pos, af, g⟩] n τ w) (onsL af.toList) σ) (hr : ML P L w0 n σ K (i + 1) (.kn i d v :: Γ) r) :
    ML P L w0 n σ K i Γ (⟨some d, op, ty, pos, af, g⟩ :: r) := by
  refine ⟨.kn i d v, rfl, rfl, hn, hf, fun u _ _ w w' h _ _ => h, fun w γ hw a ha hΦ => .inl ?_, hr⟩
  have hk : Fr n (kS Γ σ (onsL af.toList)) a := kS_fr ha _ hΦ
  have hwa := gd_wanted hk hg
  obtain ⟨τ, hτ, hW⟩ := needK_fr _ _ (h γ w hw) ha hΦ
  exact ⟨hwa, aft_wp rfl hn hτ hwa hW⟩
end
/- THE ORDERS -/
def dOf (L : List Oper) (i : Nat) : Option Nat := match L[i]? with | some o => o.dst | none => none
/-- all that must come ahead, by marks -/
def mark (L : List Oper) : Nat → List Bool → List Bool
  | 0, m => m
  | i + 1, m => match m.getD i false, L[i]? with
    | true, some o => mark L i ((ons o).foldl (fun m j => m.set j true) m)
    | _, _ => mark L i m
/-- the first k only wait for earlier ones and have slots of their own; each behind them waits for all that stand ahead -/
def monoB (L : List Oper) (k : Nat) : Bool :=
  Region.noSelect L.toArray && (List.range L.length).all (fun i => match L[i]? with | some o => (ons o).all fun j => decide (j < i) | none => false) &&
  (List.range k).all (fun i => (List.range i).all fun j => match dOf L i, dOf L j with | some x, some y => !(Nat.beq x y) | _, _ => false) &&
  decide (k ≤ L.length) && (List.range (L.length - k)).all fun p => (List.range (k + p)).all fun i => (mark L (k + p + 1) ((List.replicate (k + p + 1) false).set (k + p) true)).getD i false
theorem mark_sound {L : List Oper} {S : Nat → Prop} (hS : ∀ i o, S i → L[i]? = some o → ∀ j ∈ ons o, S j) : ∀ (i : Nat) (m : List Bool), (∀ x, m.getD x false = true → S x) → ∀ x, (mark L i m).getD x false = true → S x
  | 0, m, h, x, hx => h x hx
  | i + 1, m, h, x, hx => by
    unfold mark at hx
    split at hx
    · rename_i o hm ho
      refine mark_sound hS i _ ?_ x hx
      have hSi := hS i o (h i hm) ho
      have key : ∀ (l : List Nat) (m : List Bool), (∀ j ∈ l, S j) → (∀ x, m.getD x false = true → S x) → ∀ x, (l.foldl (fun m j => m.set j true) m).getD x false = true → S x := by
        intro l
        induction l with
        | nil => intro m _ h x hx; exact h x hx
        | cons j l ih =>
          intro m hl h x hx
          refine ih _ (fun y hy => hl y (by simp [hy])) (fun y hy => ?_) x hx
          by_cases e : j = y
          · subst e; exact hl _ (by simp)
          · refine h y ?_
            simpa [List.getD_eq_getElem?_getD, List.getElem?_set, e] using hy
      exact key _ _ hSi h
    · exact mark_sound hS i _ h x hx
/-- what the walk gives -/
structure MG (P : Program) (L : List Oper) (w0 : World) (n : Nat) (σ : Sg) (Γ : Ctx) (i : Nat) (o : Oper) : Prop where
  ex : ∃ m ∈ Γ, ∃ Δ : Ctx, (∀ x ∈ Δ, x ∈ Γ) ∧ m.i = i ∧ o.dst = some m.d ∧ Nat.ble (m.d + 1) n = true ∧ fnd σ m.d = none ∧ OB P L w0 n σ Δ o i m.d m.Φ
theorem ML_get {P : Program} {L : List Oper} {w0 : World} {n : Nat} {σ : Sg} {K : Ctx → Prop} : ∀ (r : List Oper) (i : Nat) (Γ : Ctx), ML P L w0 n σ K i Γ r → (∀ m ∈ Γ, m.i < i ∧ m.ok) → (Γ.map (·.i)).Nodup →
    ∃ Γ' : Ctx, K Γ' ∧ (∀ m ∈ Γ, m ∈ Γ') ∧ (∀ m ∈ Γ', m.i < i + r.length ∧ m.ok) ∧ (Γ'.map (·.i)).Nodup ∧ ∀ j o, r[j]? = some o → MG P L w0 n σ Γ' (i + j) o
  | [], i, Γ, h, hΓ, hd => ⟨Γ, h, fun m h => h, hΓ, hd, fun j o h => by simp at h⟩
  | o :: r, i, Γ, h, hΓ, hd => by
    obtain ⟨m, h1, h2, h3, h4, h5, h6, h7⟩ := h
    obtain ⟨Γ', g1, g2, g3, g4, g5⟩ := ML_get r (i + 1) (m :: Γ) h7 (fun x hx => by
      rcases List.mem_cons.1 hx with rfl | hx
      · exact ⟨by omega, h5⟩
      · have := hΓ x hx; exact ⟨by omega, this.2⟩) (by
      rw [List.map_cons, List.nodup_cons]
      refine ⟨fun hm => ?_, hd⟩
      obtain ⟨x, hx, e⟩ := List.mem_map.1 hm
      have := (hΓ x hx).1; omega)
    refine ⟨Γ', g1, fun x hx => g2 x (by simp [hx]), fun x hx => by have := g3 x hx; simp only [List.length_cons]; exact ⟨by omega, this.2⟩, g4, fun j o' hj => ?_⟩
    cases j with
    | zero =>
      simp at hj
      subst hj
      exact ⟨m, g2 m (by simp), Γ, fun x hx => g2 x (by simp [hx]), h1, h2, h3, h4, h6⟩
    | succ j =>
      have := g5 j o' (by simpa using hj)
      rwa [show i + (j + 1) = i + 1 + j by omega]
theorem map_inj {β γ : Type} {f : β → γ} {l : List β} (h : (l.map f).Nodup) : ∀ x ∈ l, ∀ y ∈ l, f x = f y → x = y := fun x hx y hy => nodup_inj h x hx y hy
structure MInv (L : List Oper) (w0 : World) (n : Nat) (σ : Sg) (Γ : Ctx) (k : Nat) (listed : Array Bool) (a : Act) (γ : Nat → Nat) (w : World) : Prop where
  size : listed.size = L.length
  fr : Fr n σ a
  ext : Ext w0 w
  facts : ∀ m ∈ Γ, listed.getD m.i false = true → m.Φ (a.tmps.getD m.d undef) γ w
  closed : ∀ i o, listed.getD i false = true → L[i]? = some o → ∀ j ∈ ons o, listed.getD j false = true
  low : ∀ i, listed.getD i false = true → i < k
theorem listed_set {l : Array Bool} {i j : Nat} : (l.setIfInBounds i true).getD j false = true ↔ (j = i ∧ i < l.size) ∨ l.getD j false = true := by
  simp only [Array.getD_eq_getD_getElem?, Array.getElem?_setIfInBounds]
  by_cases e : i = j
  · subst e
    by_cases h : i < l.size
    · simp [h]
    · simp [h]
  · rw [if_neg e]
    constructor
    · exact fun h => .inr h
    · rintro (⟨h, _⟩ | h)
      · exact absurd h.symm e
      · exact h
theorem count_set {l : Array Bool} {i : Nat} (h : l.getD i true = false) : (l.setIfInBounds i true).toList.countP (fun b => !b) + 1 = l.toList.countP fun b => !b := by
  have hi : i < l.size := by
    rcases Nat.lt_or_ge i l.size with h' | h'
    · exact h'
    · simp [Array.getD_eq_getD_getElem?, Array.getElem?_eq_none h'] at h
  have hv : l[i] = false := by simpa [Array.getD_eq_getD_getElem?, hi] using h
  have h1 : (l.setIfInBounds i true).toList = l.toList.set i true := by simp
  rw [h1, List.countP_set (by simpa using hi)]
  have h2 : l.toList[i]'(by simpa using hi) = false := by simpa using hv
  rw [h2]
  have : 0 < l.toList.countP fun b => !b := List.countP_pos_iff.2 ⟨false, h2 ▸ List.getElem_mem _, rfl⟩
  generalize (l.toList.countP fun b => !b) = c at *
  simp only [Bool.not_false, Bool.not_true, if_true, Bool.false_eq_true, if_false]
  omega
theorem MInv.step {L : List Oper} {w0 w w' : World} {n k i : Nat} {σ : Sg} {Γ : Ctx} {listed : Array Bool} {a : Act} {γ : Nat → Nat} {m : ME} {o : Oper} {v : Value} (h : MInv L w0 n σ Γ k listed a γ w) (hm : m ∈ Γ) (hmi : m.i = i) (ho : L[i]? = some o) (hn : Nat.ble (m.d + 1) n = true)
    (hf : fnd σ m.d = none) (hok : ∀ m ∈ Γ, m.ok) (hnd : (Γ.map (·.i)).Nodup) (hdd : ∀ x ∈ Γ, x.i ≠ i → x.d ≠ m.d) (hE : Ext w w') (hΦ : m.Φ v (byM γ w i) w') (hons : ∀ j ∈ ons o, listed.getD j false = true) (hik : i < k) : MInv L w0 n σ Γ k (listed.setIfInBounds i true) (a.put (some m.d) v) (byM γ w i) w' := by
  have hlt : m.d < n := Nat.le_of_ble_eq_true hn
  have hp := h.fr.put (d := some m.d) (v := v) hn
  refine ⟨by simpa using h.size, ⟨hp.size, hp.defers, fun t u hu => hp.slot t u ?_⟩, h.ext.trans hE, fun x hx hl => ?_, fun j o' hj ho' q hq => ?_, fun j hj => ?_⟩
  · show fnd ((m.d, v) :: σ) t = some u
    rw [fnd_cons_ne (fun e => by subst e; rw [hf] at hu; cases hu)]; exact hu
  · rcases listed_set.1 hl with ⟨e, _⟩ | hl
    · obtain rfl : x = m := map_inj hnd x hx m hm (by show x.i = m.i; rw [e, hmi])
      have : (a.put (some x.d) v).tmps.getD x.d undef = v := by simp [Act.put, Array.getD, h.fr.size, hlt]
      rw [this]; exact hΦ
    · by_cases e : x.i = i
      · obtain rfl : x = m := map_inj hnd x hx m hm (by show x.i = m.i; rw [e, hmi])
        have : (a.put (some x.d) v).tmps.getD x.d undef = v := by simp [Act.put, Array.getD, h.fr.size, hlt]
        rw [this]; exact hΦ
      · have hne := hdd x hx e
        have : (a.put (some m.d) v).tmps.getD x.d undef = a.tmps.getD x.d undef := by
          simp only [Act.put, Array.getD_eq_getD_getElem?]
          rw [Array.getElem?_setIfInBounds_ne (fun e => hne e.symm)]
        rw [this]
        exact hok x hx _ _ _ _ _ (h.facts x hx hl) hE (fun b hb => if_pos hb)
  · rcases listed_set.1 hj with ⟨e, _⟩ | hj
    · subst e
      rw [ho] at ho'
      cases ho'
      exact listed_set.2 (.inr (hons q hq))
    · exact listed_set.2 (.inr (h.closed j o' hj ho' q hq))
  · rcases listed_set.1 hj with ⟨e, _⟩ | hj
    · omega
    · exact h.low j hj
theorem mem_ons {o : Oper} {e : Edge} (he : e ∈ o.after) (hb : Region.binds .any e = true) : e.on ∈ ons o := by
  unfold ons
  have key : ∀ l : List Edge, e ∈ l → e.on ∈ onsL l := by
    intro l
    induction l with
    | nil => intro h; cases h
    | cons x l ih2 =>
      intro h
      unfold onsL
      rcases List.mem_cons.1 h with rfl | h
      · rw [hb]
        dsimp only
        split
        · rename_i he; exact elN_mem he
        · simp
      · split
        · split
          · exact ih2 h
          · exact List.mem_cons_of_mem _ (ih2 h)
        · exact ih2 h
  exact key _ (by simpa using he)
theorem onsE {o : Oper} {listed : Array Bool} (h : ∀ e ∈ o.after, Region.binds .any e = true → listed.getD e.on false = true) : ∀ j ∈ ons o, listed.getD j false = true := fun j hj => by
  obtain ⟨e, h1, h2, rfl⟩ := ons_mem hj
  exact h e h1 h2
theorem getD_tf {l : Array Bool} {i : Nat} (hi : i < l.size) : l.getD i true = l.getD i false := by simp [Array.getD_eq_getD_getElem?, hi]
/-- what waits for all that stand ahead comes behind them -/
theorem all_ahead {L : List Oper} {i : Nat} {o : Oper} {listed : Array Bool} (hmk : ∀ x, x < i → (mark L (i + 1) ((List.replicate (i + 1) false).set i true)).getD x false = true) (ho : L[i]? = some o) (hol : ∀ j ∈ ons o, listed.getD j false = true)
    (hcl : ∀ i o, listed.getD i false = true → L[i]? = some o → ∀ j ∈ ons o, listed.getD j false = true) : ∀ x, x < i → listed.getD x false = true := fun x hx => by
  have hS := mark_sound (L := L) (S := fun x => x = i ∨ listed.getD x false = true) (fun x o' hx ho2 j hj => by
    rcases hx with rfl | hx
    · rw [ho] at ho2; cases ho2; exact .inr (hol j hj)
    · exact .inr (hcl x o' hx ho2 j hj)) (i + 1) ((List.replicate (i + 1) false).set i true) (fun x hx => by
    by_cases e : i = x
    · exact .inl e.symm
    · exfalso
      simp [List.getD_eq_getElem?_getD, List.getElem?_set, e, List.getElem?_replicate] at hx
      split at hx <;> simp at hx)
  exact (hS x (hmk x hx)).resolve_left (by omega)
/-- the tail, in its one order -/
theorem tailM {P : Program} {L : List Oper} {Q : Exit → Act → World → Prop} {k : Nat} (hmk : ∀ p, k ≤ p → p < L.length → ∀ x, x < p → (mark L (p + 1) ((List.replicate (p + 1) false).set p true)).getD x false = true) (hons : ∀ i o, L[i]? = some o → ∀ j ∈ ons o, j < i) :
    ∀ (fuel p : Nat) (listed : Array Bool) (a : Act) (w : World), k ≤ p → fuel + p = L.length → listed.size = L.length → (∀ i, listed.getD i false = true ↔ i < p) → wpList P L.toArray (fun x a w => x = .normal ∧ Q .normal a w) (L.drop p) a w →
      wpAny P .any L.toArray (fun x a w => x = .normal ∧ Q .normal a w) fuel listed a w
  | 0, p, listed, a, w, hk, hp, hsz, hl, h => by
    rw [List.drop_of_length_le (by omega)] at h
    refine ⟨List.eq_nil_iff_forall_not_mem.2 fun i hi => ?_, h⟩
    obtain ⟨h0, oi, hoi, _⟩ := mem_ready.1 hi
    have hil : i < L.length := by have := (Array.getElem?_eq_some_iff.1 hoi).1; simpa using this
    rw [getD_tf (by omega), (hl i).2 (by omega)] at h0
    cases h0
  | fuel + 1, p, listed, a, w, hk, hp, hsz, hl, h => by
    have hpl : p < L.length := by omega
    have hcl : ∀ i o, listed.getD i false = true → L[i]? = some o → ∀ j ∈ ons o, listed.getD j false = true := fun i o hi ho j hj => (hl j).2 (by have := hons i o ho j hj; have := (hl i).1 hi; omega)
    have hready : ∀ i, i ∈ Region.ready .any L.toArray listed → i = p := fun i hi => by
      obtain ⟨h0, oi, hoi, hed⟩ := mem_ready.1 hi
      have hoi' : L[i]? = some oi := by simpa using hoi
      have hil : i < L.length := (List.getElem?_eq_some_iff.1 hoi').1
      rw [getD_tf (by omega)] at h0
      have hge : ¬ i < p := fun hlt => by rw [(hl i).2 hlt] at h0; cases h0
      rcases Nat.lt_or_ge p i with hlt | hle
      · have := all_ahead (hmk i (by omega) hil) hoi' (onsE hed) hcl p hlt
        exact absurd ((hl p).1 this) (Nat.lt_irrefl _)
      · omega
    have hin : p ∈ Region.ready .any L.toArray listed := mem_ready.2 ⟨by
      rw [getD_tf (by omega)]
      cases hx : listed.getD p false with
      | false => rfl
      | true => exact absurd ((hl p).1 hx) (Nat.lt_irrefl _), L[p], by simp [hpl], fun e he hb => (hl _).2 (hons p L[p] (List.getElem?_eq_getElem hpl) _ (mem_ons he hb))⟩
    refine ⟨fun hr => (by rw [hr] at hin; cases hin), fun i hi => ?_⟩
    obtain rfl := hready i hi
    rw [List.drop_eq_getElem_cons hpl] at h
    simp only [wpList] at h
    have ho : L.toArray[i]? = some L[i] := by simp [hpl]
    unfold wpOp
    simp only [ho]
    have hl' : ∀ j, (listed.setIfInBounds i true).getD j false = true ↔ j < i + 1 := fun j => by
      rw [listed_set, hl]
      omega
    split
    · rename_i hw
      rw [if_pos hw] at h
      exact h.imp (Oper.wp_mono fun a' w' h' => tailM hmk hons fuel (i + 1) _ _ _ (by omega) (by omega) (by simpa using hsz) hl' h') id
    · rename_i hw
      rw [if_neg hw] at h
      exact tailM hmk hons fuel (i + 1) _ _ _ (by omega) (by omega) (by simpa using hsz) hl' h
theorem wpAnyM {P : Program} {L : List Oper} {Q : Exit → Act → World → Prop} {w0 : World} {n k : Nat} {σ : Sg} {Γ : Ctx} (hB : monoB L k = true) (hΓ : ∀ m ∈ Γ, m.i < k ∧ m.ok) (hnd : (Γ.map (·.i)).Nodup) (hM : ∀ j o, j < k → L[j]? = some o → MG P L w0 n σ Γ j o)
    (hK : ∀ γ w', Ext w0 w' → allK γ w' (fun τ => WL P L (fun x a w => x = .normal ∧ Q .normal a w) (L.drop k) n τ w') Γ σ) :
    ∀ (fuel : Nat) (listed : Array Bool) (a : Act) (γ : Nat → Nat) (w : World), MInv L w0 n σ Γ k listed a γ w → listed.toList.countP (fun b => !b) = fuel → wpAny P .any L.toArray (fun x a w => x = .normal ∧ Q .normal a w) fuel listed a w := by
  simp only [monoB, Bool.and_eq_true, decide_eq_true_eq, List.all_eq_true, List.mem_range] at hB
  obtain ⟨⟨⟨⟨hs, hlow⟩, hdst⟩, hkl⟩, hmk0⟩ := hB
  have hmk : ∀ p, k ≤ p → p < L.length → ∀ x, x < p → (mark L (p + 1) ((List.replicate (p + 1) false).set p true)).getD x false = true := fun p h1 h2 x hx => by
    have := hmk0 (p - k) (by omega) x (by omega)
    rwa [show k + (p - k) = p by omega] at this
  have hons : ∀ i o, L[i]? = some o → ∀ j ∈ ons o, j < i := fun i o ho j hj => by
    have h := hlow i (List.getElem?_eq_some_iff.1 ho).1
    rw [ho] at h
    simp only [List.all_eq_true, decide_eq_true_eq] at h
    exact h j hj
  have hdd : ∀ x ∈ Γ, ∀ m ∈ Γ, x.i ≠ m.i → x.d ≠ m.d := by
    have hdx : ∀ x ∈ Γ, dOf L x.i = some x.d := fun x hx => by
      have hxk := (hΓ x hx).1
      have hxl : x.i < L.length := by omega
      obtain ⟨m, hm, _, _, e, hd, _⟩ := (hM x.i L[x.i] hxk (List.getElem?_eq_getElem hxl)).ex
      obtain rfl : m = x := map_inj hnd m hm x hx e
      unfold dOf
      rw [List.getElem?_eq_getElem hxl]
      exact hd
    have lt : ∀ x ∈ Γ, ∀ m ∈ Γ, x.i < m.i → x.d ≠ m.d := fun x hx m hm h e => by
      have h1 := hdst m.i (hΓ m hm).1 x.i h
      rw [hdx x hx, hdx m hm, e] at h1
      simp at h1
    intro x hx m hm hne
    rcases Nat.lt_or_gt_of_ne hne with h | h
    · exact lt x hx m hm h
    · exact fun e => lt m hm x hx h e.symm
  -- what is listed when nothing is ready
  have hall : ∀ (listed : Array Bool), listed.size = L.length → Region.ready .any L.toArray listed = [] → ∀ i, i < L.length → listed.getD i false = true := by
    intro listed hsz hr i
    induction i using Nat.strongRecOn with
    | ind i ih =>
      intro hi
      by_cases hl : listed.getD i false = true
      · exact hl
      · have : i ∈ Region.ready .any L.toArray listed := mem_ready.2 ⟨by
          rw [getD_tf (by omega)]
          simpa using hl, L[i], by simp [hi], fun e he hb => by
          have hlt := hons i L[i] (List.getElem?_eq_getElem hi) _ (mem_ons he hb)
          exact ih _ hlt (by omega)⟩
        rw [hr] at this; cases this
  intro fuel
  induction fuel with
  | zero =>
    intro listed a γ w hI hc
    have hl : ∀ i, i < L.length → listed.getD i false = true := fun i hi => by
      cases hx : listed.getD i false with
      | true => rfl
      | false =>
        have := count_set (l := listed) (i := i) (by rw [getD_tf (by have := hI.size; omega)]; exact hx)
        omega
    obtain ⟨τ, hτ, hF⟩ := allK_fr Γ σ (hK γ w hI.ext) hI.fr (fun m hm => hI.facts m hm (hl m.i (by have := (hΓ m hm).1; omega)))
    have hke : k = L.length := by
      rcases Nat.lt_or_ge k L.length with h | h
      · exact absurd (hI.low k (hl k h)) (Nat.lt_irrefl _)
      · omega
    unfold WL at hF
    exact tailM hmk hons 0 k listed a w (Nat.le_refl _) (by omega) hI.size (fun i => ⟨hI.low i, fun h => hl i (by omega)⟩) (hF a hτ)
  | succ fuel ih =>
    intro listed a γ w hI hc
    by_cases hal : ∀ i, i < k → listed.getD i false = true
    · -- all of the first k are listed
      obtain ⟨τ, hτ, hF⟩ := allK_fr Γ σ (hK γ w hI.ext) hI.fr (fun m hm => hI.facts m hm (hal m.i (hΓ m hm).1))
      unfold WL at hF
      have hcount : fuel + 1 + k = L.length := by
        have hlt : listed.toList = (List.range L.length).map (fun i => decide (i < k)) := by
          refine List.ext_getElem (by simpa using hI.size) fun i h1 h2 => ?_
          simp only [List.getElem_map, List.getElem_range, Array.getElem_toList]
          have h3 : listed.getD i false = listed[i]'(by simpa using h1) := by simp [Array.getD_eq_getD_getElem?, show i < listed.size by simpa using h1]
          by_cases h : i < k
          · have := hal i h
            rw [h3] at this; rw [this]; simp [h]
          · cases hx : listed[i]'(by simpa using h1) with
            | false => simp [h]
            | true => exact absurd (hI.low i (by rw [h3, hx])) h
        rw [hlt] at hc
        have hcnt : ∀ N, k ≤ N → ((List.range N).map fun i => decide (i < k)).countP (fun b => !b) + k = N := by
          intro N
          induction N with
          | zero => intro h; simp at h ⊢; omega
          | succ N ihN =>
            intro h
            rw [List.range_succ, List.map_append, List.countP_append]
            by_cases hN : k ≤ N
            · have := ihN hN
              have e1 : ([N].map fun i => decide (i < k)).countP (fun b => !b) = 1 := by
                simp; omega
              omega
            · obtain rfl : k = N + 1 := by omega
              have h0 : ((List.range N).map fun i => decide (i < N + 1)).countP (fun b => !b) = 0 := by
                rw [List.countP_eq_zero]
                intro b hb
                obtain ⟨i, hi, rfl⟩ := List.mem_map.1 hb
                have := List.mem_range.1 hi
                simp; omega
              rw [h0]; simp
        have := hcnt L.length hkl
        omega
      exact tailM hmk hons (fuel + 1) k listed a w (Nat.le_refl _) hcount hI.size (fun i => ⟨hI.low i, hal i⟩) (hF a hτ)
    · refine ⟨fun hr => absurd (fun i hi => hall listed hI.size hr i (by omega)) hal, fun i hi => ?_⟩
      obtain ⟨hun, o, ho, hed⟩ := mem_ready.1 hi
      have hcs := count_set hun
      have ho' : L[i]? = some o := by simpa using ho
      have hil : i < L.length := (List.getElem?_eq_some_iff.1 ho').1
      have hol := onsE hed
      have hik : i < k := by
        rcases Nat.lt_or_ge i k with h | h
        · exact h
        · exact absurd (fun x hx => all_ahead (hmk i h hil) ho' hol hI.closed x (by omega)) hal
      unfold wpOp
      simp only [ho]
      obtain ⟨m, hm, Δ, hΔ, hmi, hd, hn, hf, hob⟩ := (hM i o hik ho').ex
      have hst : ∀ (w' : World) (v : Value), Ext w w' → m.Φ v (byM γ w i) w' → wpAny P .any L.toArray (fun x a w => x = .normal ∧ Q .normal a w) fuel (listed.setIfInBounds i true) (a.put (some m.d) v) w' := fun w' v hE hΦ =>
        ih _ _ _ _ (hI.step hm hmi ho' hn hf (fun m hm => (hΓ m hm).2) hnd (fun x hx hne => hdd x hx m hm (by rw [hmi]; exact hne)) hE hΦ hol hik) (by omega)
      rcases hob w γ hI.ext a hI.fr (fun j hj x hx e => hI.facts x (hΔ x hx) (by rw [e]; exact hol j hj)) with ⟨hw, hwp⟩ | ⟨hw, hΦ⟩
      · simp only [hw, if_true]
        refine .inl (Oper.wp_mono (fun a' w' h' => ?_) (wp_exits (fun e a w _ hf => hf.elim) hwp))
        obtain ⟨hE, v, rfl, hΦ⟩ := h'
        exact hst w' v hE hΦ
      · simp only [hw, Bool.false_eq_true, if_false]
        rw [hd]
        exact hst w undef (Ext.refl w) hΦ
section
variable {P : Program} {Q : Exit → Act → World → Prop} {n : Nat} {σ : Sg} {w : World} {L : List Oper}
/-- behind the walk of the first ones: the tail -/
def FinM (P : Program) (L : List Oper) (Q : Exit → Act → World → Prop) (n : Nat) (σ : Sg) (w : World) (T : List Oper) : Ctx → Prop :=
  fun Γ => ∀ γ w', Ext w w' → allK γ w' (fun τ => WL P L (fun x a w => x = .normal ∧ Q .normal a w) T n τ w') Γ σ
/-- a drawn region: the first k operations only make new memory, the others stand in one order behind them -/
theorem CW.drawM {id : Nat} (k : Nat) (hm : P.follows .mixedOrders = true) (hB : monoB L k = true) (h : ML P L (drew w) n σ (FinM P L Q n σ (drew w) (L.drop k)) 0 [] (L.take k)) : CW P (.region id L.toArray true) Q n σ w := by
  unfold CW
  intro a ha
  have hkl : k ≤ L.length := by
    simp only [monoB, Bool.and_eq_true, decide_eq_true_eq] at hB
    exact hB.1.2
  obtain ⟨Γ, g1, _, g3, g4, g5⟩ := ML_get _ _ _ h (fun m hm => by cases hm) List.Pairwise.nil
  have h1 := wpAnyM (P := P) (Q := Q) (w0 := drew w) hB (fun m hm => by have := g3 m hm; simp only [List.length_take, Nat.zero_add] at this; exact ⟨by omega, this.2⟩) g4 (fun j o hj ho => by
    have := g5 j o (by rw [List.getElem?_take_of_lt hj]; exact ho)
    rwa [Nat.zero_add] at this) g1 L.length (Array.replicate L.length false) a (fun _ => 0) (drew w) ⟨by simp, ha, Ext.refl _, fun m hm hl => by
      exfalso; simp [Array.getD_eq_getD_getElem?, Array.getElem?_replicate] at hl; split at hl <;> simp at hl, fun i o hl => by
      exfalso; simp [Array.getD_eq_getD_getElem?, Array.getElem?_replicate] at hl; split at hl <;> simp at hl, fun i hl => by
      exfalso; simp [Array.getD_eq_getD_getElem?, Array.getElem?_replicate] at hl; split at hl <;> simp at hl⟩ (by simp [List.countP_replicate])
  have h2 : (Code.region id L.toArray true).wp P (fun x a w => x = .normal ∧ Q .normal a w) a w := wp_region_any hm (by simpa using h1)
  exact wp_mono h2 (fun e a' w' ⟨he, hq⟩ => by subst he; exact hq)
theorem ML.nil {w0 : World} {K : Ctx → Prop} {i : Nat} {Γ : Ctx} (h : K Γ) : ML P L w0 n σ K i Γ [] := h
end
end Go.Proofs.YtikigaeihdmcaaaGreatDoor

/-
  rule's words: kindWord, scopeWord, templateWord, digit, words, join: walked.
-/
set_option linter.unusedVariables false
set_option linter.unusedSimpArgs false
namespace Go.Proofs.YtikigaeihdmcaaaGreatDoor
open Go.RowKit

abbrev noTR : Value := .string ⟨#[]⟩
instance iRtx1 : IsF Tryz.prog 14 := ⟨_, Tryz.func14, rfl, by decide⟩
instance iRtx2 : IsF Tryz.prog 17 := ⟨_, Tryz.func17, rfl, by decide⟩
instance iRtx3 : IsF Tryz.prog 18 := ⟨_, Tryz.func18, rfl, by decide⟩
instance ikindWdA : IsAr Tryz.prog 72 7 9 := ⟨Tryz.underlying72⟩
instance ikindWdZ : IsZC Tryz.prog 72 [noTR, noTR, noTR, noTR, noTR, noTR, noTR] := IsZC.of (z := .agg #[noTR, noTR, noTR, noTR, noTR, noTR, noTR]) (by kernel_rfl) rfl
abbrev kindWdL : List Value := [noTR, tV (kindT 1), tV (kindT 2), tV (kindT 3), tV (kindT 4), tV (kindT 5), tV (kindT 6)]
theorem kindWd_ok (w0 : World) {k : Int} (h1 : 1 ≤ k) (h2 : k ≤ 6) : Rt Tryz.prog 14 [.int .i64 k].toArray w0 fun v w' => v = tV (kindT k) ∧ Ext w0 w' := by
  obtain ⟨ki, rfl, hki, hsg⟩ : ∃ i : Nat, k = (i : Int) ∧ i < 7 ∧ nthV kindWdL i = some (tV (kindT k)) := by
    obtain rfl | rfl | rfl | rfl | rfl | rfl : k = 1 ∨ k = 2 ∨ k = 3 ∨ k = 4 ∨ k = 5 ∨ k = 6 := by omega
    · exact ⟨1, rfl, by decide, rfl⟩
    · exact ⟨2, rfl, by decide, rfl⟩
    · exact ⟨3, rfl, by decide, rfl⟩
    · exact ⟨4, rfl, by decide, rfl⟩
    · exact ⟨5, rfl, by decide, rfl⟩
    · exact ⟨6, rfl, by decide, rfl⟩
  generalize kindT (ki : Int) = sg at *
  refine Rt.enter1 Tryz.func14 Tryz.ntmps14 rfl rfl ?_
  (repeat (first | (apply WL.pure; rfl; rfl; rfl) | (apply WL.nil) | (apply EX.thenN) | (apply CW.seq) | (apply CW.region)))
  refine WL.buildAr (out := kindWdL) rfl rfl rfl rfl ?_
  (repeat (apply WL.pure; rfl; rfl; rfl))
  refine WL.indexAr rfl rfl rfl rfl hki hsg ?_
  (repeat (first | (apply WL.pure; rfl; rfl; rfl) | (apply WL.nil) | (apply EX.thenN) | (apply CW.ret)))
  exact EX.ret1 rfl rfl ⟨rfl, Ext.refl _⟩
instance iscopWdA : IsAr Tryz.prog 74 6 9 := ⟨Tryz.underlying74⟩
instance iscopWdZ : IsZC Tryz.prog 74 [noTR, noTR, noTR, noTR, noTR, noTR] := IsZC.of (z := .agg #[noTR, noTR, noTR, noTR, noTR, noTR]) (by kernel_rfl) rfl
abbrev scopWdL : List Value := [noTR, tV (scopT 1), tV (scopT 2), tV (scopT 3), tV (scopT 4), tV (scopT 5)]
theorem scopWd_ok (w0 : World) {k : Int} (h1 : 1 ≤ k) (h2 : k ≤ 5) : Rt Tryz.prog 17 [.int .i64 k].toArray w0 fun v w' => v = tV (scopT k) ∧ Ext w0 w' := by
  obtain ⟨ki, rfl, hki, hsg⟩ : ∃ i : Nat, k = (i : Int) ∧ i < 6 ∧ nthV scopWdL i = some (tV (scopT k)) := by
    obtain rfl | rfl | rfl | rfl | rfl : k = 1 ∨ k = 2 ∨ k = 3 ∨ k = 4 ∨ k = 5 := by omega
    · exact ⟨1, rfl, by decide, rfl⟩
    · exact ⟨2, rfl, by decide, rfl⟩
    · exact ⟨3, rfl, by decide, rfl⟩
    · exact ⟨4, rfl, by decide, rfl⟩
    · exact ⟨5, rfl, by decide, rfl⟩
  generalize scopT (ki : Int) = sg at *
  refine Rt.enter1 Tryz.func17 Tryz.ntmps17 rfl rfl ?_
  (repeat (first | (apply WL.pure; rfl; rfl; rfl) | (apply WL.nil) | (apply EX.thenN) | (apply CW.seq) | (apply CW.region)))
  refine WL.buildAr (out := scopWdL) rfl rfl rfl rfl ?_
  (repeat (apply WL.pure; rfl; rfl; rfl))
  refine WL.indexAr rfl rfl rfl rfl hki hsg ?_
  (repeat (first | (apply WL.pure; rfl; rfl; rfl) | (apply WL.nil) | (apply EX.thenN) | (apply CW.ret)))
  exact EX.ret1 rfl rfl ⟨rfl, Ext.refl _⟩
instance itempWdA : IsAr Tryz.prog 75 15 9 := ⟨Tryz.underlying75⟩
instance itempWdZ : IsZC Tryz.prog 75 [noTR, noTR, noTR, noTR, noTR, noTR, noTR, noTR, noTR, noTR, noTR, noTR, noTR, noTR, noTR] := IsZC.of (z := .agg #[noTR, noTR, noTR, noTR, noTR, noTR, noTR, noTR, noTR, noTR, noTR, noTR, noTR, noTR, noTR]) (by kernel_rfl) rfl
abbrev tempWdL : List Value := [noTR, tV (tempT 1), tV (tempT 2), tV (tempT 3), tV (tempT 4), tV (tempT 5), tV (tempT 6), tV (tempT 7), tV (tempT 8), tV (tempT 9), tV (tempT 10), tV (tempT 11), tV (tempT 12), tV (tempT 13), tV (tempT 14)]
theorem tempWd_ok (w0 : World) {k : Int} (h1 : 1 ≤ k) (h2 : k ≤ 14) : Rt Tryz.prog 18 [.int .i64 k].toArray w0 fun v w' => v = tV (tempT k) ∧ Ext w0 w' := by
  obtain ⟨ki, rfl, hki, hsg⟩ : ∃ i : Nat, k = (i : Int) ∧ i < 15 ∧ nthV tempWdL i = some (tV (tempT k)) := by
    obtain rfl | rfl | rfl | rfl | rfl | rfl | rfl | rfl | rfl | rfl | rfl | rfl | rfl | rfl : k = 1 ∨ k = 2 ∨ k = 3 ∨ k = 4 ∨ k = 5 ∨ k = 6 ∨ k = 7 ∨ k = 8 ∨ k = 9 ∨ k = 10 ∨ k = 11 ∨ k = 12 ∨ k = 13 ∨ k = 14 := by omega
    · exact ⟨1, rfl, by decide, rfl⟩
    · exact ⟨2, rfl, by decide, rfl⟩
    · exact ⟨3, rfl, by decide, rfl⟩
    · exact ⟨4, rfl, by decide, rfl⟩
    · exact ⟨5, rfl, by decide, rfl⟩
    · exact ⟨6, rfl, by decide, rfl⟩
    · exact ⟨7, rfl, by decide, rfl⟩
    · exact ⟨8, rfl, by decide, rfl⟩
    · exact ⟨9, rfl, by decide, rfl⟩
    · exact ⟨10, rfl, by decide, rfl⟩
    · exact ⟨11, rfl, by decide, rfl⟩
    · exact ⟨12, rfl, by decide, rfl⟩
    · exact ⟨13, rfl, by decide, rfl⟩
    · exact ⟨14, rfl, by decide, rfl⟩
  generalize tempT (ki : Int) = sg at *
  refine Rt.enter1 Tryz.func18 Tryz.ntmps18 rfl rfl ?_
  (repeat (first | (apply WL.pure; rfl; rfl; rfl) | (apply WL.nil) | (apply EX.thenN) | (apply CW.seq) | (apply CW.region)))
  refine WL.buildAr (out := tempWdL) rfl rfl rfl rfl ?_
  (repeat (apply WL.pure; rfl; rfl; rfl))
  refine WL.indexAr rfl rfl rfl rfl hki hsg ?_
  (repeat (first | (apply WL.pure; rfl; rfl; rfl) | (apply WL.nil) | (apply EX.thenN) | (apply CW.ret)))
  exact EX.ret1 rfl rfl ⟨rfl, Ext.refl _⟩
instance iRtx4 : IsT Tryz.prog 5 Raw := IsT.of (by kernel_rfl) Tryz.underlying5 rfl
instance iRtx5 : IsZ Tryz.prog 5 (⟨.int .u8 0⟩ : Raw) 1 := IsZ.of (z := .int .u8 0) (by kernel_rfl) (fun _ _ => ⟨rfl, rfl⟩)
instance iRtx8 : IsZ Tryz.prog 9 (⟨#[]⟩ : ByteArray) 16 := IsZ.of (z := .string ⟨#[]⟩) (by kernel_rfl) (fun _ _ => ⟨rfl, by decide⟩)
instance iRtx6 : IsS Tryz.prog 73 5 := ⟨Tryz.underlying73⟩
section
variable {P : Program} {Q : Exit → Act → World → Prop} {n : Nat} {σ : Sg} {w : World} {L rest : List Oper} {d : Nat} {op : Op} {ty : TypeId} {pos : String} {af : Array Edge} {g : Option (Nat × Bool)} {t yt e : TypeId} {x y : Operand}
/-- an operation that tells a value, whatever it is -/
theorem WL.bin {o : BinOp} {a b r : Value} (hg : gd L σ ⟨some d, .binOp o t x y yt, ty, pos, af, g⟩ = some true) (hd : Nat.ble (d + 1) n = true) (hx : ev σ x = some a) (hy : ev σ y = some b) (hr : ((do eqGuard o t x y a b; binOp o t a b : Sem Value)).run P w = .ok r w)
    (h : WL P L Q rest n ((d, r) :: σ) w) : WL P L Q (⟨some d, .binOp o t x y yt, ty, pos, af, g⟩ :: rest) n σ w := by
  refine WL.run hg hd (fun c hc => ?_) h
  simp only [execOp, hc.ev hx, hc.ev hy]
  rw [Sem.run_bind, hr]; rfl
/-- string(b), bytes -/
theorem WL.bytesT {a : Addr} {cap : Nat} {l : List UInt8} (hg : gd L σ ⟨some d, .convert t yt x, ty, pos, af, g⟩ = some true) (hd : Nat.ble (d + 1) n = true) (hx : ev σ x = some (.slice (some a) l.length cap)) (hs : P.underlying t = some (.slice e)) (he : P.underlying e = some (.int .u8)) (hy : P.underlying yt = some .string)
    (hc : ∀ j (hj : j < l.length), w.cell? (a.add j) = some (.int .u8 (l[j].toNat : Int))) (h : WL P L Q rest n ((d, tV l) :: σ) w) : WL P L Q (⟨some d, .convert t yt x, ty, pos, af, g⟩ :: rest) n σ w := by
  refine WL.run hg hd (fun c hcc => ?_) h
  have := run_convert_bytes_back (P := P) w t yt e a cap l hs he hy hc
  simp only [execOp, hcc.ev hx]
  rw [Sem.run_bind, this]; rfl
end
theorem rdigit_ok (w0 : World) {k : Int} (h1 : 0 ≤ k) (h2 : k ≤ 3) : Rt Tryz.prog 15 [.int .i64 k].toArray w0 fun v w' => v = tV (dgT k) ∧ Ext w0 w' := by
  refine Rt.enter1 Tryz.func15 Tryz.ntmps15 rfl rfl ?_
  (repeat (first | (apply WL.pure; rfl; rfl; rfl) | (apply WL.nil) | (apply EX.thenN) | (apply CW.seq) | (apply CW.region)))
  refine WL.conv (k := .i64) (k' := .u8) rfl rfl rfl ?_
  refine WL.bin (a := .int .u8 48) (b := .int .u8 (IntKind.u8.wrap k)) (r := .int .u8 ((48 + k.toNat : Nat) : Int)) rfl rfl rfl rfl ?_ ?_
  · obtain rfl | rfl | rfl | rfl : k = 0 ∨ k = 1 ∨ k = 2 ∨ k = 3 := by omega
    all_goals (simp [binOp, run_underlying Tryz.underlying5, eqG (op := .add) rfl]; rfl)
  refine WL.lit (α := Raw) (F := Non) (ys := [(⟨.int .u8 ((48 + k.toNat : Nat) : Int)⟩ : Raw)]) rfl rfl rfl rfl rfl (.cons (Rd.mkRaw _ _ _ rfl) .nil) (by show 1 * 1 ≤ 16777216; decide) (fun _ h => h.elim) (fun w3 ho3 hg3 => ?_)
  have e3 : Ext w0 w3 := (Ext.refl _).grown hg3 (Nat.le_refl _) (fun k h => by cases h)
  obtain ⟨ao, cap, he, hs⟩ := ho3.oldN.sl
  obtain ⟨rfl, _, rfl⟩ := Value.slice.inj he
  refine WL.bytesT (l := dgT k) (e := 5) rfl rfl rfl Tryz.underlying73 Tryz.underlying5 Tryz.underlying9 (fun j hj => ?_) ?_
  · obtain rfl : j = 0 := by simp [dgT] at hj; omega
    obtain ⟨b, off, e1, _, es, hc, hr⟩ := hs.el 0 (by show 0 < 1; decide)
    injection e1 with e1
    injection e1 with e2 e4 _
    subst e2; subst e4
    obtain ⟨rfl, _⟩ := hr
    have hd : ((dgT k)[0]).toNat = 48 + k.toNat := by
      obtain rfl | rfl | rfl | rfl : k = 0 ∨ k = 1 ∨ k = 2 ∨ k = 3 := by omega
      all_goals rfl
    rw [hd]
    exact hc 0 _ rfl
  (repeat (first | (apply WL.pure; rfl; rfl; rfl) | (apply WL.nil) | (apply EX.thenN) | (apply CW.ret)))
  exact EX.ret1 rfl rfl ⟨rfl, e3⟩
theorem rnmL_len (nms : List ByteArray) (n : Int) (s : Bool) : (rnmL nms n s).length ≤ 8 := by
  by_cases h : rnmL nms n s = []
  · rw [h]; simp
  · exact (rnm_word h).2
instance iRtx7 : IsF Tryz.prog 19 := ⟨_, Tryz.func19, rfl, by decide⟩
theorem rwords_ok (w0 : World) {ao no : Option Addr} {ac nc : Nat} {l : List Int} {nms : List ByteArray} (hl : Sl w0 (Old w0) ao ac l) (hn : Sl w0 (Old w0) no nc nms) (hlen : l.length ≤ 100) :
    Rt Tryz.prog 16 [.slice ao l.length ac, .slice no nms.length nc].toArray w0 fun v w' => Own w' w0.heap.size 9 Non v (l.map fun n => txA (rnmL nms n true)) ∧ Ext w0 w' := by
  refine Rt.enter2 Tryz.func16 Tryz.ntmps16 rfl rfl ?_
  (repeat (first | (apply WL.pure; rfl; rfl; rfl) | (apply WL.nil) | (apply EX.thenN) | (apply CW.seq) | (apply CW.region) | (apply WL.lenS; rfl; rfl; rfl) | (apply CW.block)))
  refine CW.loop (S := Nat × Value) (fun s => [(1, .slice no nms.length nc), (8, .slice ao l.length ac), (9, .int .i64 l.length), (10, .int .i64 s.1), (5, s.2)])
    (fun s w => s.1 ≤ l.length ∧ Own w w0.heap.size 9 Non s.2 ((l.take s.1).map fun n => txA (rnmL nms n true)) ∧ Ext w0 w) (fun s => l.length - s.1) (0, .slice none 0 0) (by repeat (first | exact trivial | refine ⟨rfl, ?_⟩)) ⟨Nat.zero_le _, Own.nil, Ext.refl _⟩ ?_
  rintro ⟨i, v⟩ w ⟨hi, ho, hE⟩
  dsimp only at hi ho hE ⊢
  (repeat (first | (apply WL.pure; rfl; rfl; rfl) | (apply WL.nil) | (apply EX.thenN) | (apply CW.seq) | (apply CW.region)))
  refine CW.cond rfl (fun h => ?_) (fun h => ?_)
  · have hi' : i < l.length := by simpa using h
    clear h
    (repeat (first | (apply EX.thenN) | (apply CW.seq) | (apply CW.region) | (apply CW.block) | (apply CW.skip)))
    refine WL.elemI rfl rfl rfl rfl rfl (hl.up hE) hi' rfl (fun _ => rfl) (fun q => ?_)
    (repeat (first | (apply WL.pure; rfl; rfl; rfl) | (apply WL.nil) | (apply EX.thenN) | (apply CW.region)))
    refine WL.call rfl rfl rfl (rname_ok w (hn.up hE) l[i] true) ?_
    rintro _ w2 ⟨rfl, e2⟩
    have ho2 := ho.extN e2
    have hE2 := hE.trans e2
    have h8 := rnmL_len nms l[i] true
    skip
    refine WL.app1 (α := ByteArray) (F := Non) (yv := txA (rnmL nms l[i] true)) rfl rfl (fun _ => rfl) rfl rfl (fun _ => rfl) ho2 (Rd.mkStr _ _ _ (by rw [txA_size]; unfold maxLen; omega)) hE2.size (fun _ h => h.elim) (by decide) (by rw [List.length_map, List.length_take]; unfold maxLen; omega) (by rw [List.length_map, List.length_take]; omega) (fun v' w4 q ho4 hg4 hnb => ?_)
    have hE4 : Ext w0 w4 := hE2.grown hg4 hE2.size (fun g hg => (ho2.lt g hg).1)
    (repeat (first | (apply WL.add; rfl; rfl; rfl; rfl; omega; omega) | (apply WL.pure; rfl; rfl; rfl) | (apply WL.nil) | (apply EX.thenN) | (apply CW.region) | (apply EX.inN)))
    refine EX.back (i + 1, v') (by repeat (first | exact trivial | refine ⟨rfl, ?_⟩)) ⟨hi', ?_, hE4⟩ (by dsimp only; omega)
    rw [show (l.take (i + 1)).map (fun n => txA (rnmL nms n true)) = (l.take i).map (fun n => txA (rnmL nms n true)) ++ [txA (rnmL nms l[i] true)] by rw [List.take_succ_eq_append_getElem hi', List.map_append]; rfl]
    exact ho4
  · obtain rfl : i = l.length := by simp at h; omega
    rw [List.take_length] at ho
    (repeat (first | (apply WL.pure; rfl; rfl; rfl) | (apply WL.nil) | (apply EX.thenN) | (apply CW.seq) | (apply CW.region) | (apply CW.exit) | (apply EX.thenX) | (apply EX.inX) | (apply CW.ret)))
    exact EX.ret1 rfl rfl ⟨ho, hE⟩
theorem joinS_snoc : ∀ (l : List Bys) (x : Bys), l ≠ [] → joinS 32 (l ++ [x]) = joinS 32 l ++ 32 :: x
  | [], _, h => absurd rfl h
  | [y], x, _ => rfl
  | y :: z :: r, x, _ => by
    have := joinS_snoc (z :: r) x (by simp)
    simp only [List.cons_append, joinS] at this ⊢
    rw [this]
    simp
theorem rjoin_ok (w0 : World) {ao : Option Addr} {cap : Nat} {ws : List ByteArray} (hs : Sl w0 (Old w0) ao cap ws) (h0 : 0 < ws.length) (h1 : ws.length ≤ 100) (hl : ∀ x ∈ ws, x.size ≤ 1000) :
    Rt Tryz.prog 23 [.slice ao ws.length cap].toArray w0 fun v w' => v = tV (joinS 32 (ws.map bysA)) ∧ Ext w0 w' := by
  have hjl : ∀ k, (joinS 32 ((ws.take k).map bysA)).length ≤ 1001 * 100 := fun k => by
    have := join_len 1000 ((ws.take k).map bysA) (fun x hx => by
      obtain ⟨y, hy, rfl⟩ := List.mem_map.1 hx
      have := hl y (List.mem_of_mem_take hy)
      rwa [← size_len] at this)
    rw [List.length_map, List.length_take] at this
    have : min k ws.length ≤ 100 := by omega
    have := Nat.mul_le_mul_left 1001 this
    omega
  refine Rt.enter1 Tryz.func23 Tryz.ntmps23 rfl rfl ?_
  (repeat (first | (apply WL.pure; rfl; rfl; rfl) | (apply WL.nil) | (apply EX.thenN) | (apply CW.seq) | (apply CW.region)))
  refine WL.elemN (i := 0) rfl rfl rfl rfl rfl hs h0 (fun _ => rfl) (fun u q hu => ?_)
  obtain ⟨rfl, -⟩ := hu.str
  clear hu
  (repeat (first | (apply WL.pure; rfl; rfl; rfl) | (apply WL.nil) | (apply EX.thenN) | (apply CW.seq) | (apply CW.region)))
  refine WL.cutLo (α := ByteArray) 1 rfl rfl rfl rfl rfl (by omega) hs.le ?_
  have hsd := hs.drop (k := 1) (by omega)
  generalize (if cap = 1 then ao else ao.map (·.add (1 * sz ByteArray))) = ao2 at *
  generalize cap - 1 = cap2 at *
  have hdl : (ws.drop 1).length = ws.length - 1 := List.length_drop ..
  rw [← hdl]
  (repeat (first | (apply WL.pure; rfl; rfl; rfl) | (apply WL.nil) | (apply EX.thenN) | (apply WL.lenS; rfl; rfl; rfl) | (apply CW.block)))
  refine CW.loop (S := Nat) (fun i => [(3, tV (joinS 32 ((ws.take (i + 1)).map bysA))), (10, .slice ao2 (ws.drop 1).length cap2), (11, .int .i64 (ws.drop 1).length), (12, .int .i64 i)])
    (fun i w => i ≤ (ws.drop 1).length ∧ Ext w0 w) (fun i => (ws.drop 1).length - i) 0 ?_ ⟨Nat.zero_le _, Ext.refl _⟩ ?_
  · have e0 : tV (joinS 32 ((ws.take (0 + 1)).map bysA)) = .string ws[0] := by
      obtain ⟨y, r, rfl⟩ : ∃ y r, ws = y :: r := by
        cases ws with
        | nil => cases h0
        | cons y r => exact ⟨y, r, rfl⟩
      simp [joinS, tV, txA_eta]
    rw [e0]
    exact (by repeat (first | exact trivial | refine ⟨rfl, ?_⟩))
  rintro i w ⟨hi, hE⟩
  (repeat (first | (apply WL.pure; rfl; rfl; rfl) | (apply WL.nil) | (apply EX.thenN) | (apply CW.seq) | (apply CW.region)))
  refine CW.cond rfl (fun h => ?_) (fun h => ?_)
  · have hi' : i < (ws.drop 1).length := by simpa using h
    clear h
    have hx : (ws.drop 1)[i] = ws[i + 1]'(by omega) := by rw [List.getElem_drop]; congr 1; omega
    (repeat (first | (apply EX.thenN) | (apply CW.seq) | (apply CW.region) | (apply CW.block) | (apply CW.skip)))
    refine WL.elemN (i := i) rfl rfl rfl rfl rfl (hsd.up hE) hi' (fun _ => rfl) (fun u q hu => ?_)
    obtain ⟨rfl, -⟩ := hu.str
    clear hu
    have hsz := hl _ (List.getElem_mem (show i + 1 < ws.length by omega))
    rw [hx]
    rw [← txA_eta (ws[i + 1]'(by omega))]
    have hb : (bysA (ws[i + 1]'(by omega))).length ≤ 1000 := by rw [size_len]; exact hsz
    have hj := hjl (i + 1)
    (repeat (first | (apply WL.pure; rfl; rfl; rfl) | (apply WL.nil) | (apply EX.thenN) | (apply CW.region)))
    refine WL.cat (a := [32]) (b := bysA (ws[i + 1]'(by omega))) rfl rfl rfl rfl (by simp only [List.length_cons, List.length_nil]; omega) ?_
    refine WL.cat (a := joinS 32 ((ws.take (i + 1)).map bysA)) (b := [32] ++ bysA (ws[i + 1]'(by omega))) rfl rfl rfl rfl (by simp only [List.length_append, List.length_cons, List.length_nil]; omega) ?_
    have hn : joinS 32 ((ws.take (i + 1)).map bysA) ++ ([32] ++ bysA (ws[i + 1]'(by omega))) = joinS 32 ((ws.take (i + 1 + 1)).map bysA) := by
      rw [List.take_succ_eq_append_getElem (show i + 1 < ws.length by omega), List.map_append]
      rw [show [ws[i + 1]].map bysA = [bysA (ws[i + 1]'(by omega))] from rfl, joinS_snoc _ _ (by
        intro e
        have := congrArg List.length e
        rw [List.length_map, List.length_take, List.length_nil] at this
        omega)]
      rfl
    rw [hn]
    (repeat (first | (apply WL.add; rfl; rfl; rfl; rfl; omega; omega) | (apply WL.pure; rfl; rfl; rfl) | (apply WL.nil) | (apply EX.thenN) | (apply CW.region) | (apply EX.inN)))
    exact EX.back (i + 1) (by repeat (first | exact trivial | refine ⟨rfl, ?_⟩)) ⟨hi', hE⟩ (by omega)
  · have hi : i = (ws.drop 1).length := by simp at h hi ⊢; omega
    (repeat (first | (apply WL.pure; rfl; rfl; rfl) | (apply WL.nil) | (apply EX.thenN) | (apply CW.seq) | (apply CW.region) | (apply CW.exit) | (apply EX.thenX) | (apply EX.inX) | (apply CW.ret)))
    refine EX.ret1 rfl rfl ⟨?_, hE⟩
    rw [hi, hdl, List.take_of_length_le (by omega)]
end Go.Proofs.YtikigaeihdmcaaaGreatDoor

/-
  The library's contracts of texts, laid over our own rows: strings.Cut, strings.Split, strings.Join, strings.Builder.
-/
set_option linter.unusedVariables false
set_option linter.unusedSimpArgs false
namespace Go.Proofs.YtikigaeihdmcaaaGreatDoor
open Go.RowKit Go.Shelf

def lookN : List (Nat × Nat) → Nat → Nat
  | [], _ => 0
  | (a, b) :: r, x => match Nat.beq a x with | true => b | false => lookN r x
def shF : List (Nat × Nat) :=
  (138, 62) ::
  (143, 63) ::
  (146, 26) ::
  (156, 83) ::
  (165, 103) ::
  (166, 104) ::
  (169, 105) ::
  (195, 75) ::
  (197, 76) ::
  (217, 88) ::
  (218, 77) ::
  (219, 78) ::
  (221, 44) ::
  (224, 90) ::
  (225, 89) ::
  (240, 119) ::
  (241, 120) ::
  (260, 87) ::
  (266, 112) ::
  (267, 91) ::
  (268, 61) ::
  (276, 125) ::
  (277, 126) ::
  (314, 113) ::
  []
def shT : List (Nat × Nat) :=
  (0, 0) ::
  (3, 3) ::
  (4, 4) ::
  (5, 5) ::
  (9, 9) ::
  (20, 20) ::
  (21, 21) ::
  (31, 34) ::
  (37, 73) ::
  (46, 143) ::
  (51, 175) ::
  (70, 162) ::
  (72, 164) ::
  (75, 127) ::
  (76, 166) ::
  (80, 91) ::
  (105, 120) ::
  (119, 171) ::
  (127, 193) ::
  (138, 173) ::
  (139, 174) ::
  (146, 176) ::
  (164, 149) ::
  []
def shG : List (Nat × Nat) :=
  (1, 1) ::
  (3, 5) ::
  (4, 6) ::
  []
def shR : Ren := ⟨fun x => lookN shF x, fun x => lookN shT x, fun x => lookN shG x⟩
set_option maxRecDepth 100000 in
theorem shL146 : Lays.n146 Tryz.prog shR where
  mixed := by kernel_rfl
  f138 := (Tryz.func62).trans (congrArg some (by kernel_rfl))
  f143 := (Tryz.func63).trans (congrArg some (by kernel_rfl))
  f146 := (Tryz.func26).trans (congrArg some (by kernel_rfl))
  f195 := (Tryz.func75).trans (congrArg some (by kernel_rfl))
  f197 := (Tryz.func76).trans (congrArg some (by kernel_rfl))
  f217 := (Tryz.func88).trans (congrArg some (by kernel_rfl))
  f218 := (Tryz.func77).trans (congrArg some (by kernel_rfl))
  f219 := (Tryz.func78).trans (congrArg some (by kernel_rfl))
  f221 := (Tryz.func44).trans (congrArg some (by kernel_rfl))
  f224 := (Tryz.func90).trans (congrArg some (by kernel_rfl))
  f225 := (Tryz.func89).trans (congrArg some (by kernel_rfl))
  f260 := (Tryz.func87).trans (congrArg some (by kernel_rfl))
  f266 := (Tryz.func112).trans (congrArg some (by kernel_rfl))
  f267 := (Tryz.func91).trans (congrArg some (by kernel_rfl))
  f268 := (Tryz.func61).trans (congrArg some (by kernel_rfl))
  f314 := (Tryz.func113).trans (congrArg some (by kernel_rfl))
  t0 := by kernel_rfl
  a0 := fun w => rfl
  z0 := fun w => rfl
  v0 := fun w => rfl
  t3 := Tryz.underlying3
  a3 := Tryz.isAgg3
  z3 := Tryz.sizeOf3
  v3 := Tryz.zeroValue3
  t4 := Tryz.underlying4
  a4 := Tryz.isAgg4
  z4 := Tryz.sizeOf4
  v4 := Tryz.zeroValue4
  t5 := Tryz.underlying5
  a5 := Tryz.isAgg5
  z5 := Tryz.sizeOf5
  v5 := Tryz.zeroValue5
  t9 := Tryz.underlying9
  a9 := Tryz.isAgg9
  z9 := Tryz.sizeOf9
  v9 := Tryz.zeroValue9
  t21 := Tryz.underlying21
  a21 := Tryz.isAgg21
  z21 := Tryz.sizeOf21
  v21 := Tryz.zeroValue21
  t31 := Tryz.underlying34
  a31 := Tryz.isAgg34
  z31 := Tryz.sizeOf34
  v31 := Tryz.zeroValue34
  t46 := Tryz.underlying143
  a46 := Tryz.isAgg143
  z46 := Tryz.sizeOf143
  v46 := Tryz.zeroValue143
  t51 := Tryz.underlying175
  a51 := Tryz.isAgg175
  z51 := Tryz.sizeOf175
  v51 := Tryz.zeroValue175
  t105 := Tryz.underlying120
  a105 := Tryz.isAgg120
  z105 := Tryz.sizeOf120
  v105 := Tryz.zeroValue120
  t119 := Tryz.underlying171
  a119 := Tryz.isAgg171
  z119 := Tryz.sizeOf171
  t138 := Tryz.underlying173
  a138 := Tryz.isAgg173
  z138 := Tryz.sizeOf173
  v138 := Tryz.zeroValue173
  t139 := Tryz.underlying174
  a139 := Tryz.isAgg174
  z139 := Tryz.sizeOf174
  v139 := Tryz.zeroValue174
  t146 := Tryz.underlying176
  a146 := Tryz.isAgg176
  z146 := Tryz.sizeOf176
  v146 := Tryz.zeroValue176
  g1 := by kernel_rfl
  g3 := by kernel_rfl
  g4 := by kernel_rfl
set_option maxRecDepth 100000 in
theorem shL156 : Lays.n156 Tryz.prog shR where
  mixed := by kernel_rfl
  f156 := (Tryz.func83).trans (congrArg some (by kernel_rfl))
  f165 := (Tryz.func103).trans (congrArg some (by kernel_rfl))
  f166 := (Tryz.func104).trans (congrArg some (by kernel_rfl))
  f169 := (Tryz.func105).trans (congrArg some (by kernel_rfl))
  f240 := (Tryz.func119).trans (congrArg some (by kernel_rfl))
  f241 := (Tryz.func120).trans (congrArg some (by kernel_rfl))
  f276 := (Tryz.func125).trans (congrArg some (by kernel_rfl))
  f277 := (Tryz.func126).trans (congrArg some (by kernel_rfl))
  t0 := by kernel_rfl
  a0 := fun w => rfl
  z0 := fun w => rfl
  v0 := fun w => rfl
  t3 := Tryz.underlying3
  a3 := Tryz.isAgg3
  z3 := Tryz.sizeOf3
  v3 := Tryz.zeroValue3
  t4 := Tryz.underlying4
  a4 := Tryz.isAgg4
  z4 := Tryz.sizeOf4
  v4 := Tryz.zeroValue4
  t9 := Tryz.underlying9
  a9 := Tryz.isAgg9
  z9 := Tryz.sizeOf9
  v9 := Tryz.zeroValue9
  t20 := Tryz.underlying20
  a20 := Tryz.isAgg20
  z20 := Tryz.sizeOf20
  v20 := Tryz.zeroValue20
  t31 := Tryz.underlying34
  a31 := Tryz.isAgg34
  z31 := Tryz.sizeOf34
  v31 := Tryz.zeroValue34
  t37 := Tryz.underlying73
  a37 := Tryz.isAgg73
  z37 := Tryz.sizeOf73
  v37 := Tryz.zeroValue73
  t70 := Tryz.underlying162
  a70 := Tryz.isAgg162
  z70 := Tryz.sizeOf162
  v70 := Tryz.zeroValue162
  t72 := Tryz.underlying164
  a72 := Tryz.isAgg164
  z72 := Tryz.sizeOf164
  v72 := Tryz.zeroValue164
  t75 := Tryz.underlying127
  a75 := Tryz.isAgg127
  z75 := Tryz.sizeOf127
  v75 := Tryz.zeroValue127
  t76 := Tryz.underlying166
  a76 := Tryz.isAgg166
  z76 := Tryz.sizeOf166
  v76 := Tryz.zeroValue166
  t127 := Tryz.underlying193
  a127 := Tryz.isAgg193
  z127 := Tryz.sizeOf193
  v127 := Tryz.zeroValue193
  t164 := Tryz.underlying149
  a164 := Tryz.isAgg149
  z164 := Tryz.sizeOf149
  v164 := Tryz.zeroValue149
theorem shX : Builder.Extra Tryz.prog shR where
  sizeBuilder := by kernel_rfl
  liesBuilder := by kernel_rfl
  t5 := Tryz.underlying5
  a5 := Tryz.isAgg5
  z5 := Tryz.sizeOf5
  v5 := Tryz.zeroValue5
  infoByte := by kernel_rfl
  cellsByte := by kernel_rfl
  sizeByte := by kernel_rfl
  neB5 := of_decide_eq_true (by kernel_rfl)
theorem shI : (Tryz.prog.info? (shR.t 9)).map (fun i => (i.zero, i.size, i.bytes)) = some (some (.string ByteArray.empty), 1, 16) := by kernel_rfl
/-- the cell that the library's search reads -/
def MaxH (w : World) : Prop := ∃ m, w.cell? ⟨1, 0, none⟩ = some (.int .i64 m)
theorem maxH_of {w : World} (h : w.ShapedOpen Tryz.prog) : MaxH w :=
  Go.Proofs.cell_of_shapedOpen_int (zero := #[.int .i64 0]) (t := 3) h (of_decide_eq_true (by kernel_rfl)) (by kernel_rfl) rfl (by kernel_rfl) (by kernel_rfl) Tryz.underlying3
end Go.Proofs.YtikigaeihdmcaaaGreatDoor

/-
  strings.Cut, strings.Split at one byte, strings.Builder: the library's contracts in our words.
-/
set_option linter.unusedVariables false
set_option linter.unusedSimpArgs false
namespace Go.Proofs.YtikigaeihdmcaaaGreatDoor
open Go.RowKit Go.Shelf

theorem index1 (c : UInt8) : ∀ l : Bys, (c ∉ l ∧ Lib.index l [c] = -1) ∨ ∃ a b, l = a ++ c :: b ∧ c ∉ a ∧ Lib.index l [c] = (a.length : Int)
  | [] => .inl ⟨by simp, by simp [Lib.index]⟩
  | d :: l => by
    by_cases h : d = c
    · subst h
      exact .inr ⟨[], l, rfl, by simp, by simp [Lib.index, List.isPrefixOf]⟩
    · have hp : List.isPrefixOf [c] (d :: l) = false := by
        have : (c == d) = false := by simpa using fun e : c = d => h e.symm
        simp [List.isPrefixOf, this]
      rcases index1 c l with ⟨h1, h2⟩ | ⟨a, b, rfl, h1, h2⟩
      · refine .inl ⟨by simp [h1, Ne.symm h], ?_⟩
        unfold Lib.index
        rw [hp, h2]; rfl
      · refine .inr ⟨d :: a, b, rfl, by simp [h1, Ne.symm h], ?_⟩
        unfold Lib.index
        have hn : ((a.length : Int) == -1) = false := by
          rw [beq_eq_false_iff_ne]; omega
        rw [hp, h2, hn]
        simp
/-- what strings.Cut tells -/
def cutT (c : UInt8) (s : Bys) : Bys × Bys × Bool := match cutL c s with
  | none => (s, [], false)
  | some x => (x.1, x.2, true)
theorem splitK1 (c : UInt8) : ∀ (n : Nat) (s : Bys), s.length ≤ n → ∀ k, Lib.count s [c] ≤ k → Lib.splitK [c] 0 k s = splitL c s := by
  intro n
  induction n with
  | zero =>
    intro s hs k hk
    have : s = [] := List.length_eq_zero_iff.1 (by omega)
    subst this
    cases k with
    | zero => rfl
    | succ k => simp [Lib.splitK, Lib.index, splitL]
  | succ n ih =>
    intro s hs k hk
    rcases index1 c s with ⟨h1, h2⟩ | ⟨a, b, rfl, h1, h2⟩
    · rw [splitL_no h1]
      cases k with
      | zero => rfl
      | succ k => unfold Lib.splitK; rw [h2]; rfl
    · have hc := Lib.count_hit (sub := [c]) (by simp) h2
      have hd : (a ++ c :: b).drop (a.length + [c].length) = b := by simp
      rw [hd] at hc
      rw [splitL_at h1]
      cases k with
      | zero => omega
      | succ k =>
        unfold Lib.splitK
        have hn : ((a.length : Int) == -1) = false := by
          rw [beq_eq_false_iff_ne]; omega
        rw [h2, hn]
        simp only [Int.toNat_natCast, Bool.false_eq_true, if_false]
        rw [hd, ih b (by simp at hs; omega) k (by omega)]
        simp
theorem splitB1 (s : Bys) : Lib.splitB (txA [32]) 0 (Lib.countB (txA s) (txA [32])) (txA s) = (splitL 32 s).map txA := by
  have h := Lib.splitB_data (txA [32]) 0 (Lib.countB (txA s) (txA [32])) (txA s)
  rw [show (txA [32]).data.toList = [32] from rfl, txA_list, splitK1 32 _ s (Nat.le_refl _) (Lib.countB (txA s) (txA [32])) (Nat.le_of_eq rfl)] at h
  rw [← h, List.map_map]
  have : (txA ∘ fun x : ByteArray => x.data.toList) = id := by funext x; exact txA_eta x
  rw [this, List.map_id]
theorem countB1 (s : Bys) : Lib.countB (txA s) (txA [32]) + 1 = (splitL 32 s).length := by
  have h := Lib.splitB_all (txA [32]) (by decide) 0 _ (txA s) rfl
  rw [splitB1, List.length_map] at h
  omega
section
variable {α β : Type} [Rep α] [Rep β] {w w' : World} {B B' : Nat} {e e' : TypeId} {F F' : Nat → Prop} {v v' : Value} {xs : List α} {ys : List β}
/-- lists of unlike elements lie apart -/
theorem own_ap (h : Own w B e F v xs) (h' : Own w B' e' F' v' ys) (hn : e ≠ e') : ∀ g, v.ownBlock = some g → v'.ownBlock ≠ some g := by
  intro g h1 h2
  rcases h with ⟨rfl, _⟩ | ⟨g1, off, cap, cur, rfl, h⟩
  · cases h1
  rcases h' with ⟨rfl, _⟩ | ⟨g2, off', cap', cur', rfl, h'⟩
  · cases h2
  injection h1 with h1
  injection h2 with h2
  dsimp only at h1 h2
  subst h1
  subst h2
  have := h.blk.symm.trans h'.blk
  injection this with this
  injection this with _ h3 _
  exact hn h3
theorem own_blk {b : Nat} {T : TypeId} {cells : List Value} (h : Own w B e F v xs) (hb : Blk w b T cells) (hn : e ≠ T) : v.ownBlock ≠ some b := by
  intro h1
  rcases h with ⟨rfl, _⟩ | ⟨g1, off, cap, cur, rfl, h⟩
  · cases h1
  injection h1 with h1
  dsimp only at h1
  subst h1
  have := h.blk.symm.trans hb
  injection this with this
  injection this with _ h3 _
  exact hn h3
end
theorem MaxH.ext {w w' : World} (h : MaxH w) (hE : Ext w w') : MaxH w' := by
  obtain ⟨m, hm⟩ := h
  refine ⟨m, ?_⟩
  have hlt : 1 < w.heap.size := by
    apply Classical.byContradiction
    intro hn
    simp [World.cell?, Array.getElem?_eq_none (Nat.le_of_not_lt hn)] at hm
  rw [hE.cell (p := ⟨1, 0, none⟩) hlt]; exact hm
theorem split_ok (w : World) (s : Bys) (hs : s.length ≤ 100000) (hM : MaxH w) : Rt Tryz.prog 26 [tV s, tV [32]].toArray w fun v w' => (∃ ao cap, v = .slice ao ((splitL 32 s).map txA).length cap ∧ Sl w' (fun b => b = w.heap.size ∧ b < w'.heap.size) ao cap ((splitL 32 s).map txA)) ∧ Ext w w' := by
  obtain ⟨m, hm⟩ := hM
  refine Calls.mono (Any.strings_Split shL146 shI (txA s) (txA [32]) m w (by rw [txA_size]; omega) hm (by decide)) ?_
  rintro e w' ⟨rfl, rfl⟩
  have hl := countB1 s
  rw [splitB1, hl]
  have hle : ∀ x ∈ splitL 32 s, x.length ≤ s.length := by
    intro x hx
    have h := Lib.splitB_data (txA [32]) 0 (Lib.countB (txA s) (txA [32])) (txA s)
    clear h
    have : ∀ (l : List Bys), x ∈ l → x.length ≤ (joinS 32 l).length := by
      intro l
      induction l with
      | nil => intro h; cases h
      | cons y r ih =>
        intro h
        cases r with
        | nil => simp only [joinS]; rw [List.mem_singleton.1 h]; exact Nat.le_refl _
        | cons z r =>
          simp only [joinS, List.length_append, List.length_cons]
          rcases List.mem_cons.1 h with rfl | h
          · omega
          · have := ih h; omega
    have := this _ hx
    rwa [join_split] at this
  have hn : (splitL 32 s).length ≤ 100001 := by
    have := Lib.countB_le (txA [32]) (by decide) _ (txA s) (Nat.le_refl _)
    rw [txA_size] at this
    omega
  refine ⟨_, rfl, ⟨_, _, by rw [List.length_map], ⟨by rw [List.length_map]; exact Nat.le_refl _, by unfold maxLen; omega, (fun h => by cases h), fun i hi => ?_⟩⟩, Ext.alloc w _⟩
  rw [List.length_map] at hi
  refine ⟨w.heap.size, 0, rfl, ⟨rfl, (Blk.alloc w (((splitL 32 s).map txA).map Value.string) 9).lt⟩, [.string (txA (splitL 32 s)[i])], ?_, ?_⟩
  · have hb : Blk (w.alloc (.cells (((splitL 32 s).map txA).map Value.string).toArray 9)) w.heap.size 9 (((splitL 32 s).map txA).map Value.string) := Blk.alloc w _ _
    intro j u hu
    have hj : j = 0 := by
      cases j with
      | zero => rfl
      | succ j => simp at hu
    subst hj
    refine hb.cell ?_
    simp only [List.getElem?_cons_zero, Option.some.injEq] at hu
    rw [← hu]
    show (((splitL 32 s).map txA).map Value.string)[0 + i * 1 + 0]? = _
    simp [List.getElem?_eq_getElem hi]
  · rw [List.getElem_map]
    obtain ⟨cs, h1, h2⟩ := Rd.mkStr (w.alloc (.cells (((splitL 32 s).map txA).map Value.string).toArray 9)) (fun b => b = w.heap.size ∧ b < (w.alloc (.cells (((splitL 32 s).map txA).map Value.string).toArray 9)).heap.size) (txA (splitL 32 s)[i]) (by
      rw [txA_size]; have := hle _ (List.getElem_mem hi); unfold maxLen; omega)
    obtain ⟨v, rfl⟩ : ∃ v, cs = [v] := by
      have := Rep.len h2
      match cs, this with
      | [v], _ => exact ⟨v, rfl⟩
    have : v = .string (txA (splitL 32 s)[i]) := h1.symm
    rw [← this]; exact h2
/- A BUILDER -/
def Bld (w : World) (B b : Nat) (l : Bys) : Prop := Lib.IsBuilder 164 5 B b (Lib.byteCells l) w
theorem Bld.new {w : World} {B b : Nat} (h : Blk w b 164 [.pointer none, .slice none 0 0]) (hB : B ≤ b) : Bld w B b [] :=
  .inl ⟨hB, .slice none 0 0, h, World.ownsRow_nil _ _ _ _, by simp [Value.ownBlock]⟩
theorem Bld.ext {w w' : World} {B b : Nat} {l : Bys} (h : Bld w B b l) (hE : Ext w w') : Bld w' B b l := by
  have key : ∀ p, Lib.BuilderAt 164 5 B b p (Lib.byteCells l) w → Lib.BuilderAt 164 5 B b p (Lib.byteCells l) w' := by
    rintro p ⟨hB, v, hb, ho, hne⟩
    refine ⟨hB, v, (hE.block b (Array.getElem?_eq_some_iff.1 hb).1).trans hb, ⟨ho.1, ?_⟩, hne⟩
    rcases ho.2 with h | ⟨g, cap, cur, h1, h2, h3, h4⟩
    · exact .inl h
    · exact .inr ⟨g, cap, cur, h1, h2, (hE.block g (Array.getElem?_eq_some_iff.1 h3).1).trans h3, h4⟩
  exact h.elim (fun h => .inl (key _ h)) (fun h => .inr (key _ h))
theorem join1 : ∀ l : List Bys, Lib.join l [32] = joinS 32 l
  | [] => rfl
  | [x] => by rw [Lib.join_one]; rfl
  | x :: y :: r => by
    have ih := join1 (y :: r)
    rw [Lib.join_cons] at ih ⊢
    simp only [joinS]
    rw [← ih]
    simp [Lib.joinTail]
theorem sjoin_ok (w : World) {ao : Option Addr} {cap : Nat} {ws : List ByteArray} (hs : Sl w (Old w) ao cap ws) (hl : (joinS 32 (ws.map bysA)).length ≤ 100000) (hn : ws.length ≤ 100000) :
    Rt Tryz.prog 83 [.slice ao ws.length cap, tV [32]].toArray w fun v w' => v = tV (joinS 32 (ws.map bysA)) ∧ Ext w w' := by
  cases hw : ws with
  | nil =>
    refine Calls.mono (Any.strings_Join_none shL156 shX ao cap (txA [32]) w) ?_
    rintro e w' ⟨rfl, rfl⟩
    exact ⟨_, rfl, rfl, Ext.refl _⟩
  | cons y r =>
    rw [← hw]
    obtain ⟨b, off, rfl, hb, -⟩ := hs.el 0 (by rw [hw]; simp)
    refine Calls.mono (Any.strings_Join shL156 shX b off cap ws (txA [32]) w (fun j x hx => ?_) hb (by omega) hs.le (by rw [show (txA [32]).data.toList = [32] from rfl]; have := join1 (ws.map bysA); rw [show ws.map (·.data.toList) = ws.map bysA from rfl, this]; omega)) ?_
    · obtain ⟨hj, rfl⟩ := List.getElem?_eq_some_iff.1 hx
      obtain ⟨b', off', e, _, es, hc, hr⟩ := hs.el j hj
      injection e with e
      injection e with e1 e2 _
      subst e1; subst e2
      rw [hr.1] at hc
      have := hc 0 _ rfl
      rw [show sz ByteArray = 1 from rfl, Nat.mul_one] at this
      exact this
    · rintro e w' ⟨rfl, hE⟩
      refine ⟨_, rfl, ?_, hE⟩
      have := join1 (ws.map bysA)
      rw [show (txA [32]).data.toList = [32] from rfl, show ws.map (·.data.toList) = ws.map bysA from rfl, this]
      rfl
end Go.Proofs.YtikigaeihdmcaaaGreatDoor

