import Derived.Test.YtikigaeihdmcaaaDoorPtProcAgain5
/-
  Drawn regions whose operations, whatever the order, only make new memory: walked in the order of the text. What is known of each value lasts. Over any program.
-/
set_option linter.unusedVariables false
set_option linter.unusedSimpArgs false
namespace Go.Proofs.YtikigaeihdmcaaaDoor
open Go.RowKit

/-- what is known of an operation that has been walked: its number, its slot; its value, or a fact of it (of the value, of who made which block, of the world) -/
inductive ME where
  | kn (i d : Nat) (v : Value)
  | fc (i d : Nat) (Φ : Value → (Nat → Nat) → World → Prop)
def ME.i : ME → Nat | .kn i _ _ => i | .fc i _ _ => i
def ME.d : ME → Nat | .kn _ d _ => d | .fc _ d _ => d
def ME.Φ : ME → Value → (Nat → Nat) → World → Prop | .kn _ _ v => fun u _ _ => u = v | .fc _ _ Φ => Φ
def StM (Φ : Value → (Nat → Nat) → World → Prop) : Prop := ∀ v γ γ' w w', Φ v γ w → Ext w w' → (∀ b, b < w.heap.size → γ' b = γ b) → Φ v γ' w'
def ME.ok (m : ME) : Prop := StM m.Φ
/-- the new blocks are i's -/
def byM (γ : Nat → Nat) (w : World) (i : Nat) : Nat → Nat := fun b => if b < w.heap.size then γ b else i
abbrev Ctx := List ME
def findM : Ctx → Nat → Option ME
  | [], _ => none
  | m :: r, j => match Nat.beq m.i j with | true => some m | false => findM r j
theorem findM_mem : ∀ {Γ : Ctx} {j : Nat} {m : ME}, findM Γ j = some m → m ∈ Γ ∧ m.i = j
  | [], _, _, h => by cases h
  | x :: r, j, m, h => by
    unfold findM at h
    split at h
    · rename_i e
      injection h with h
      subst h
      exact ⟨by simp, Nat.eq_of_beq_eq_true e⟩
    · obtain ⟨h1, h2⟩ := findM_mem h
      exact ⟨by simp [h1], h2⟩
def elN (j : Nat) : List Nat → Bool
  | [] => false
  | x :: r => match Nat.beq x j with | true => true | false => elN j r
theorem elN_mem {j : Nat} : ∀ {l : List Nat}, elN j l = true → j ∈ l
  | [], h => by cases h
  | x :: r, h => by
    unfold elN at h
    split at h
    · rename_i e; rw [Nat.eq_of_beq_eq_true e]; simp
    · exact List.mem_cons_of_mem _ (elN_mem h)
/-- the edges that an operation waits for, each once -/
def onsL : List Edge → List Nat
  | [] => []
  | e :: r => match Region.binds .any e with
    | true => (match elN e.on (onsL r) with | true => onsL r | false => e.on :: onsL r)
    | false => onsL r
def ons (o : Oper) : List Nat := onsL o.after.toList
theorem onsL_mem {j : Nat} : ∀ {l : List Edge}, j ∈ onsL l → ∃ e ∈ l, Region.binds .any e = true ∧ e.on = j
  | [], h => by cases h
  | e :: r, h => by
    have up : j ∈ onsL r → ∃ e' ∈ e :: r, Region.binds .any e' = true ∧ e'.on = j := fun h => by
      obtain ⟨e', h1, h2⟩ := onsL_mem h; exact ⟨e', by simp [h1], h2⟩
    unfold onsL at h
    split at h
    · rename_i hb
      split at h
      · exact up h
      · rcases List.mem_cons.1 h with rfl | h
        · exact ⟨e, by simp, hb, rfl⟩
        · exact up h
    · exact up h
theorem ons_mem {o : Oper} {j : Nat} (h : j ∈ ons o) : ∃ e ∈ o.after, Region.binds .any e = true ∧ e.on = j := by
  obtain ⟨e, h1, h2⟩ := onsL_mem h
  exact ⟨e, by simpa using h1, h2⟩
/-- the slots that an operation finds: those of values that are known -/
def kS (Γ : Ctx) (σ : Sg) : List Nat → Sg
  | [] => σ
  | j :: r => match findM Γ j with | some (.kn _ d v) => (d, v) :: kS Γ σ r | _ => kS Γ σ r
/-- .. and of facts -/
def needK (Γ : Ctx) (γ : Nat → Nat) (w : World) (k : Sg → Prop) : List Nat → Sg → Prop
  | [], σ => k σ
  | j :: r, σ => match findM Γ j with
    | some (.kn _ d v) => needK Γ γ w k r ((d, v) :: σ)
    | some (.fc _ d Φ) => ∀ v, Φ v γ w → needK Γ γ w k r ((d, v) :: σ)
    | none => needK Γ γ w k r σ
def allK (γ : Nat → Nat) (w : World) (k : Sg → Prop) : Ctx → Sg → Prop
  | [], σ => k σ
  | .kn _ d v :: r, σ => allK γ w k r ((d, v) :: σ)
  | .fc _ d Φ :: r, σ => ∀ v, Φ v γ w → allK γ w k r ((d, v) :: σ)
theorem fr_cons {n : Nat} {σ : Sg} {a : Act} {d : Nat} {v : Value} (h : Fr n σ a) (hv : a.tmps.getD d undef = v) : Fr n ((d, v) :: σ) a := by
  refine ⟨h.size, h.defers, fun t u hu => ?_⟩
  by_cases e : d = t
  · subst e; rw [fnd_cons_eq] at hu; cases hu; exact hv
  · rw [fnd_cons_ne e] at hu; exact h.slot _ _ hu
theorem kS_fr {Γ : Ctx} {n : Nat} {σ : Sg} {a : Act} {γ : Nat → Nat} {w : World} (ha : Fr n σ a) : ∀ (l : List Nat), (∀ j ∈ l, ∀ m ∈ Γ, m.i = j → m.Φ (a.tmps.getD m.d undef) γ w) → Fr n (kS Γ σ l) a
  | [], _ => ha
  | j :: r, h => by
    have ih := kS_fr (γ := γ) (w := w) ha r (fun x hx => h x (by simp [hx]))
    unfold kS
    split
    · rename_i i d v hf
      obtain ⟨h1, h2⟩ := findM_mem hf
      exact fr_cons ih (h j (by simp) _ h1 h2)
    · exact ih
theorem needK_fr {Γ : Ctx} {n : Nat} {a : Act} {γ : Nat → Nat} {w : World} {k : Sg → Prop} : ∀ (l : List Nat) (σ : Sg), needK Γ γ w k l σ → Fr n σ a → (∀ j ∈ l, ∀ m ∈ Γ, m.i = j → m.Φ (a.tmps.getD m.d undef) γ w) → ∃ τ, Fr n τ a ∧ k τ
  | [], σ, h, ha, _ => ⟨σ, ha, h⟩
  | j :: r, σ, h, ha, hΦ => by
    unfold needK at h
    have hr : ∀ x ∈ r, ∀ m ∈ Γ, m.i = x → m.Φ (a.tmps.getD m.d undef) γ w := fun x hx => hΦ x (by simp [hx])
    split at h
    · rename_i i d v hf
      obtain ⟨h1, h2⟩ := findM_mem hf
      exact needK_fr r _ h (fr_cons ha (hΦ j (by simp) _ h1 h2)) hr
    · rename_i i d Φ hf
      obtain ⟨h1, h2⟩ := findM_mem hf
      exact needK_fr r _ (h _ (hΦ j (by simp) _ h1 h2)) (fr_cons ha rfl) hr
    · exact needK_fr r _ h ha hr
theorem allK_fr {n : Nat} {a : Act} {γ : Nat → Nat} {w : World} {k : Sg → Prop} : ∀ (Γ : Ctx) (σ : Sg), allK γ w k Γ σ → Fr n σ a → (∀ m ∈ Γ, m.Φ (a.tmps.getD m.d undef) γ w) → ∃ τ, Fr n τ a ∧ k τ
  | [], σ, h, ha, _ => ⟨σ, ha, h⟩
  | .kn i d v :: r, σ, h, ha, hΦ => allK_fr r _ h (fr_cons ha (hΦ (.kn i d v) (by simp))) (fun m hm => hΦ m (by simp [hm]))
  | .fc i d Φ :: r, σ, h, ha, hΦ => allK_fr r _ (h _ (hΦ (.fc i d Φ) (by simp))) (fr_cons ha rfl) (fun m hm => hΦ m (by simp [hm]))
/-- behind one operation -/
def AftM (γ : Nat → Nat) (w : World) (i d : Nat) (Φ : Value → (Nat → Nat) → World → Prop) : Exit → Act → World → Prop :=
  fun x a w' => x = .normal ∧ a.defers = [] ∧ Ext w w' ∧ Φ (a.tmps.getD d undef) (byM γ w i) w'
theorem EX.mm {γ : Nat → Nat} {w w' : World} {n i d : Nat} {σ : Sg} {v : Value} {Φ : Value → (Nat → Nat) → World → Prop} (hv : fnd σ d = some v) (hE : Ext w w') (hΦ : Φ v (byM γ w i) w') : EX (AftM γ w i d Φ) .normal n σ w' := by
  unfold EX
  intro a ha
  exact ⟨rfl, ha.defers, hE, by rw [ha.slot _ _ hv]; exact hΦ⟩
/-- what one operation does, wherever it comes; or it isn't wanted -/
def OB (P : Program) (L : List Oper) (w0 : World) (n : Nat) (σ : Sg) (Γ : Ctx) (o : Oper) (i d : Nat) (Φ : Value → (Nat → Nat) → World → Prop) : Prop :=
  ∀ w γ, Ext w0 w → ∀ a, Fr n σ a → (∀ j ∈ ons o, ∀ m ∈ Γ, m.i = j → m.Φ (a.tmps.getD m.d undef) γ w) →
    (Region.wanted o (yielded L.toArray a.tmps) = true ∧ o.wp P a w (fun a' w' => Ext w w' ∧ ∃ v, a' = a.put (some d) v ∧ Φ v (byM γ w i) w') Never) ∨ (Region.wanted o (yielded L.toArray a.tmps) = false ∧ Φ undef (byM γ w i) w)
/-- the walk -/
def ML (P : Program) (L : List Oper) (w0 : World) (n : Nat) (σ : Sg) (K : Ctx → Prop) : Nat → Ctx → List Oper → Prop
  | _, Γ, [] => K Γ
  | i, Γ, o :: r => ∃ m : ME, m.i = i ∧ o.dst = some m.d ∧ Nat.ble (m.d + 1) n = true ∧ fnd σ m.d = none ∧ m.ok ∧ OB P L w0 n σ Γ o i m.d m.Φ ∧ ML P L w0 n σ K (i + 1) (m :: Γ) r
theorem aft_wp {P : Program} {o : Oper} {i d n : Nat} {L : List Oper} {γ : Nat → Nat} {Φ : Value → (Nat → Nat) → World → Prop} {a : Act} {w : World} {τ : Sg} (hd : o.dst = some d) (hn : Nat.ble (d + 1) n = true) (ha : Fr n τ a) (hw : Region.wanted o (yielded L.toArray a.tmps) = true) (h : WL P L (AftM γ w i d Φ) [o] n τ w) :
    o.wp P a w (fun a' w' => Ext w w' ∧ ∃ v, a' = a.put (some d) v ∧ Φ v (byM γ w i) w') Never := by
  unfold WL at h
  have h2 := h a ha
  simp only [wpList, hw, if_true] at h2
  have hlt : d < n := Nat.le_of_ble_eq_true hn
  have hget : ∀ v, (a.put (some d) v).tmps.getD d undef = v := by
    intro v
    simp [Act.put, Array.getD, ha.size, hlt]
  rcases h2 with h2 | ⟨_, hl⟩
  · unfold Oper.wp at *
    obtain ⟨dst, op, ty, pos, af, g⟩ := o
    simp only at hd
    subst hd
    generalize (execOp a.eval _).run P w = r at *
    cases r with
    | ok k w' =>
      cases k <;> simp only [Oper.upon] at h2 ⊢ <;> first
        | exact ⟨h2.2.2.1, _, rfl, by have := h2.2.2.2; rw [hget] at this; exact this⟩
        | (exfalso; have := h2.2.1; simp [Act.put] at this; done)
        | (refine Calls.mono h2 (fun x w'' he => ?_)
           cases x
           · exact ⟨he.2.2.1, _, rfl, by have := he.2.2.2; rw [hget] at this; exact this⟩
           · exact absurd he.1 (by simp)
           · obtain ⟨_, _, hx⟩ := he; exact absurd hx.1 (by simp))
        | exact Rows.mono h2 (fun v w'' he => ⟨he.2.2.1, _, rfl, by have := he.2.2.2; rw [hget] at this; exact this⟩)
        | exact h2
    | halt x w' => cases x <;> simp only [Oper.upon] at h2 ⊢ <;> first | exact h2 | exact absurd h2.1 (by simp)
  · obtain ⟨_, _, hx⟩ := hl
    exact absurd hx.1 (by simp)
section
variable {P : Program} {L : List Oper} {w0 : World} {n : Nat} {σ : Sg} {K : Ctx → Prop} {i d : Nat} {Γ : Ctx} {r : List Oper} {op : Op} {ty : TypeId} {pos : String} {af : Array Edge} {g : Option (Nat × Bool)}
/-- an operation whose value is known, by the rule for its like -/
theorem ML.q {v : Value} (hg : gd L (kS Γ σ (onsL af.toList)) ⟨some d, op, ty, pos, af, g⟩ = some true) (hn : Nat.ble (d + 1) n = true) (hf : fnd σ d = none)
    (h : ∀ γ w, Ext w0 w → WL P L (AftM γ w i d (fun u _ _ => u = v)) [⟨some d, op, ty, pos, af, g⟩] n (kS Γ σ (onsL af.toList)) w) (hr : ML P L w0 n σ K (i + 1) (.kn i d v :: Γ) r) :
    ML P L w0 n σ K i Γ (⟨some d, op, ty, pos, af, g⟩ :: r) := by
  refine ⟨.kn i d v, rfl, rfl, hn, hf, fun u _ _ w w' h _ _ => h, fun w γ hw a ha hΦ => .inl ?_, hr⟩
  have hk : Fr n (kS Γ σ (onsL af.toList)) a := kS_fr ha _ hΦ
  have hwa := gd_wanted hk hg
  exact ⟨hwa, aft_wp rfl hn hk hwa (h γ w hw)⟩
/-- one that isn't wanted -/
theorem ML.pass (hg : gd L (kS Γ σ (onsL af.toList)) ⟨some d, op, ty, pos, af, g⟩ = some false) (hn : Nat.ble (d + 1) n = true) (hf : fnd σ d = none)
    (hr : ML P L w0 n σ K (i + 1) (.kn i d undef :: Γ) r) : ML P L w0 n σ K i Γ (⟨some d, op, ty, pos, af, g⟩ :: r) := by
  refine ⟨.kn i d undef, rfl, rfl, hn, hf, fun u _ _ w w' h _ _ => h, fun w γ hw a ha hΦ => .inr ?_, hr⟩
  have hk : Fr n (kS Γ σ (onsL af.toList)) a := kS_fr ha _ hΦ
  exact ⟨gd_wanted hk hg, rfl⟩
/-- one of whose value a fact is known -/
theorem ML.fc (Φ : Value → (Nat → Nat) → World → Prop) (hg : gd L (kS Γ σ (onsL af.toList)) ⟨some d, op, ty, pos, af, g⟩ = some true) (hn : Nat.ble (d + 1) n = true) (hf : fnd σ d = none) (hs : StM Φ)
    (h : ∀ γ w, Ext w0 w → needK Γ γ w (fun τ => WL P L (AftM γ w i d Φ) [⟨some d, op, ty, pos, af, g⟩] n τ w) (onsL af.toList) σ) (hr : ML P L w0 n σ K (i + 1) (.fc i d Φ :: Γ) r) :
    ML P L w0 n σ K i Γ (⟨some d, op, ty, pos, af, g⟩ :: r) := by
  refine ⟨.fc i d Φ, rfl, rfl, hn, hf, hs, fun w γ hw a ha hΦ => .inl ?_, hr⟩
  have hk : Fr n (kS Γ σ (onsL af.toList)) a := kS_fr ha _ hΦ
  have hwa := gd_wanted hk hg
  obtain ⟨τ, hτ, hW⟩ := needK_fr _ _ (h γ w hw) ha hΦ
  exact ⟨hwa, aft_wp rfl hn hτ hwa hW⟩
/-- the same, its value known, facts looked at -/
theorem ML.kc {v : Value} (hg : gd L (kS Γ σ (onsL af.toList)) ⟨some d, op, ty, pos, af, g⟩ = some true) (hn : Nat.ble (d + 1) n = true) (hf : fnd σ d = none)
    (h : ∀ γ w, Ext w0 w → needK Γ γ w (fun τ => WL P L (AftM γ w i d (fun u _ _ => u = v)) [⟨some d, op, ty, pos, af, g⟩] n τ w) (onsL af.toList) σ) (hr : ML P L w0 n σ K (i + 1) (.kn i d v :: Γ) r) :
    ML P L w0 n σ K i Γ (⟨some d, op, ty, pos, af, g⟩ :: r) := by
  refine ⟨.kn i d v, rfl, rfl, hn, hf, fun u _ _ w w' h _ _ => h, fun w γ hw a ha hΦ => .inl ?_, hr⟩
  have hk : Fr n (kS Γ σ (onsL af.toList)) a := kS_fr ha _ hΦ
  have hwa := gd_wanted hk hg
  obtain ⟨τ, hτ, hW⟩ := needK_fr _ _ (h γ w hw) ha hΦ
  exact ⟨hwa, aft_wp rfl hn hτ hwa hW⟩
end
/- THE ORDERS -/
def dOf (L : List Oper) (i : Nat) : Option Nat := match L[i]? with | some o => o.dst | none => none
/-- all that must come ahead, by marks -/
def mark (L : List Oper) : Nat → List Bool → List Bool
  | 0, m => m
  | i + 1, m => match m.getD i false, L[i]? with
    | true, some o => mark L i ((ons o).foldl (fun m j => m.set j true) m)
    | _, _ => mark L i m
/-- the first k only wait for earlier ones and have slots of their own; each behind them waits for all that stand ahead -/
def monoB (L : List Oper) (k : Nat) : Bool :=
  Region.noSelect L.toArray && (List.range L.length).all (fun i => match L[i]? with | some o => (ons o).all fun j => decide (j < i) | none => false) &&
  (List.range k).all (fun i => (List.range i).all fun j => match dOf L i, dOf L j with | some x, some y => !(Nat.beq x y) | _, _ => false) &&
  decide (k ≤ L.length) && (List.range (L.length - k)).all fun p => (List.range (k + p)).all fun i => (mark L (k + p + 1) ((List.replicate (k + p + 1) false).set (k + p) true)).getD i false
theorem mark_sound {L : List Oper} {S : Nat → Prop} (hS : ∀ i o, S i → L[i]? = some o → ∀ j ∈ ons o, S j) : ∀ (i : Nat) (m : List Bool), (∀ x, m.getD x false = true → S x) → ∀ x, (mark L i m).getD x false = true → S x
  | 0, m, h, x, hx => h x hx
  | i + 1, m, h, x, hx => by
    unfold mark at hx
    split at hx
    · rename_i o hm ho
      refine mark_sound hS i _ ?_ x hx
      have hSi := hS i o (h i hm) ho
      have key : ∀ (l : List Nat) (m : List Bool), (∀ j ∈ l, S j) → (∀ x, m.getD x false = true → S x) → ∀ x, (l.foldl (fun m j => m.set j true) m).getD x false = true → S x := by
        intro l
        induction l with
        | nil => intro m _ h x hx; exact h x hx
        | cons j l ih =>
          intro m hl h x hx
          refine ih _ (fun y hy => hl y (by simp [hy])) (fun y hy => ?_) x hx
          by_cases e : j = y
          · subst e; exact hl _ (by simp)
          · refine h y ?_
            simpa [List.getD_eq_getElem?_getD, List.getElem?_set, e] using hy
      exact key _ _ hSi h
    · exact mark_sound hS i _ h x hx
/-- what the walk gives -/
structure MG (P : Program) (L : List Oper) (w0 : World) (n : Nat) (σ : Sg) (Γ : Ctx) (i : Nat) (o : Oper) : Prop where
  ex : ∃ m ∈ Γ, ∃ Δ : Ctx, (∀ x ∈ Δ, x ∈ Γ) ∧ m.i = i ∧ o.dst = some m.d ∧ Nat.ble (m.d + 1) n = true ∧ fnd σ m.d = none ∧ OB P L w0 n σ Δ o i m.d m.Φ
theorem ML_get {P : Program} {L : List Oper} {w0 : World} {n : Nat} {σ : Sg} {K : Ctx → Prop} : ∀ (r : List Oper) (i : Nat) (Γ : Ctx), ML P L w0 n σ K i Γ r → (∀ m ∈ Γ, m.i < i ∧ m.ok) → (Γ.map (·.i)).Nodup →
    ∃ Γ' : Ctx, K Γ' ∧ (∀ m ∈ Γ, m ∈ Γ') ∧ (∀ m ∈ Γ', m.i < i + r.length ∧ m.ok) ∧ (Γ'.map (·.i)).Nodup ∧ ∀ j o, r[j]? = some o → MG P L w0 n σ Γ' (i + j) o
  | [], i, Γ, h, hΓ, hd => ⟨Γ, h, fun m h => h, hΓ, hd, fun j o h => by simp at h⟩
  | o :: r, i, Γ, h, hΓ, hd => by
    obtain ⟨m, h1, h2, h3, h4, h5, h6, h7⟩ := h
    obtain ⟨Γ', g1, g2, g3, g4, g5⟩ := ML_get r (i + 1) (m :: Γ) h7 (fun x hx => by
      rcases List.mem_cons.1 hx with rfl | hx
      · exact ⟨by omega, h5⟩
      · have := hΓ x hx; exact ⟨by omega, this.2⟩) (by
      rw [List.map_cons, List.nodup_cons]
      refine ⟨fun hm => ?_, hd⟩
      obtain ⟨x, hx, e⟩ := List.mem_map.1 hm
      have := (hΓ x hx).1; omega)
    refine ⟨Γ', g1, fun x hx => g2 x (by simp [hx]), fun x hx => by have := g3 x hx; simp only [List.length_cons]; exact ⟨by omega, this.2⟩, g4, fun j o' hj => ?_⟩
    cases j with
    | zero =>
      simp at hj
      subst hj
      exact ⟨m, g2 m (by simp), Γ, fun x hx => g2 x (by simp [hx]), h1, h2, h3, h4, h6⟩
    | succ j =>
      have := g5 j o' (by simpa using hj)
      rwa [show i + (j + 1) = i + 1 + j by omega]
theorem map_inj {β γ : Type} {f : β → γ} {l : List β} (h : (l.map f).Nodup) : ∀ x ∈ l, ∀ y ∈ l, f x = f y → x = y := fun x hx y hy => nodup_inj h x hx y hy
structure MInv (L : List Oper) (w0 : World) (n : Nat) (σ : Sg) (Γ : Ctx) (k : Nat) (listed : Array Bool) (a : Act) (γ : Nat → Nat) (w : World) : Prop where
  size : listed.size = L.length
  fr : Fr n σ a
  ext : Ext w0 w
  facts : ∀ m ∈ Γ, listed.getD m.i false = true → m.Φ (a.tmps.getD m.d undef) γ w
  closed : ∀ i o, listed.getD i false = true → L[i]? = some o → ∀ j ∈ ons o, listed.getD j false = true
  low : ∀ i, listed.getD i false = true → i < k
theorem listed_set {l : Array Bool} {i j : Nat} : (l.setIfInBounds i true).getD j false = true ↔ (j = i ∧ i < l.size) ∨ l.getD j false = true := by
  simp only [Array.getD_eq_getD_getElem?, Array.getElem?_setIfInBounds]
  by_cases e : i = j
  · subst e
    by_cases h : i < l.size
    · simp [h]
    · simp [h]
  · rw [if_neg e]
    constructor
    · exact fun h => .inr h
    · rintro (⟨h, _⟩ | h)
      · exact absurd h.symm e
      · exact h
theorem count_set {l : Array Bool} {i : Nat} (h : l.getD i true = false) : (l.setIfInBounds i true).toList.countP (fun b => !b) + 1 = l.toList.countP fun b => !b := by
  have hi : i < l.size := by
    rcases Nat.lt_or_ge i l.size with h' | h'
    · exact h'
    · simp [Array.getD_eq_getD_getElem?, Array.getElem?_eq_none h'] at h
  have hv : l[i] = false := by simpa [Array.getD_eq_getD_getElem?, hi] using h
  have h1 : (l.setIfInBounds i true).toList = l.toList.set i true := by simp
  rw [h1, List.countP_set (by simpa using hi)]
  have h2 : l.toList[i]'(by simpa using hi) = false := by simpa using hv
  rw [h2]
  have : 0 < l.toList.countP fun b => !b := List.countP_pos_iff.2 ⟨false, h2 ▸ List.getElem_mem _, rfl⟩
  generalize (l.toList.countP fun b => !b) = c at *
  simp only [Bool.not_false, Bool.not_true, if_true, Bool.false_eq_true, if_false]
  omega
theorem MInv.step {L : List Oper} {w0 w w' : World} {n k i : Nat} {σ : Sg} {Γ : Ctx} {listed : Array Bool} {a : Act} {γ : Nat → Nat} {m : ME} {o : Oper} {v : Value} (h : MInv L w0 n σ Γ k listed a γ w) (hm : m ∈ Γ) (hmi : m.i = i) (ho : L[i]? = some o) (hn : Nat.ble (m.d + 1) n = true)
    (hf : fnd σ m.d = none) (hok : ∀ m ∈ Γ, m.ok) (hnd : (Γ.map (·.i)).Nodup) (hdd : ∀ x ∈ Γ, x.i ≠ i → x.d ≠ m.d) (hE : Ext w w') (hΦ : m.Φ v (byM γ w i) w') (hons : ∀ j ∈ ons o, listed.getD j false = true) (hik : i < k) : MInv L w0 n σ Γ k (listed.setIfInBounds i true) (a.put (some m.d) v) (byM γ w i) w' := by
  have hlt : m.d < n := Nat.le_of_ble_eq_true hn
  have hp := h.fr.put (d := some m.d) (v := v) hn
  refine ⟨by simpa using h.size, ⟨hp.size, hp.defers, fun t u hu => hp.slot t u ?_⟩, h.ext.trans hE, fun x hx hl => ?_, fun j o' hj ho' q hq => ?_, fun j hj => ?_⟩
  · show fnd ((m.d, v) :: σ) t = some u
    rw [fnd_cons_ne (fun e => by subst e; rw [hf] at hu; cases hu)]; exact hu
  · rcases listed_set.1 hl with ⟨e, _⟩ | hl
    · obtain rfl : x = m := map_inj hnd x hx m hm (by show x.i = m.i; rw [e, hmi])
      have : (a.put (some x.d) v).tmps.getD x.d undef = v := by simp [Act.put, Array.getD, h.fr.size, hlt]
      rw [this]; exact hΦ
    · by_cases e : x.i = i
      · obtain rfl : x = m := map_inj hnd x hx m hm (by show x.i = m.i; rw [e, hmi])
        have : (a.put (some x.d) v).tmps.getD x.d undef = v := by simp [Act.put, Array.getD, h.fr.size, hlt]
        rw [this]; exact hΦ
      · have hne := hdd x hx e
        have : (a.put (some m.d) v).tmps.getD x.d undef = a.tmps.getD x.d undef := by
          simp only [Act.put, Array.getD_eq_getD_getElem?]
          rw [Array.getElem?_setIfInBounds_ne (fun e => hne e.symm)]
        rw [this]
        exact hok x hx _ _ _ _ _ (h.facts x hx hl) hE (fun b hb => if_pos hb)
  · rcases listed_set.1 hj with ⟨e, _⟩ | hj
    · subst e
      rw [ho] at ho'
      cases ho'
      exact listed_set.2 (.inr (hons q hq))
    · exact listed_set.2 (.inr (h.closed j o' hj ho' q hq))
  · rcases listed_set.1 hj with ⟨e, _⟩ | hj
    · omega
    · exact h.low j hj
theorem mem_ons {o : Oper} {e : Edge} (he : e ∈ o.after) (hb : Region.binds .any e = true) : e.on ∈ ons o := by
  unfold ons
  have key : ∀ l : List Edge, e ∈ l → e.on ∈ onsL l := by
    intro l
    induction l with
    | nil => intro h; cases h
    | cons x l ih2 =>
      intro h
      unfold onsL
      rcases List.mem_cons.1 h with rfl | h
      · rw [hb]
        dsimp only
        split
        · rename_i he; exact elN_mem he
        · simp
      · split
        · split
          · exact ih2 h
          · exact List.mem_cons_of_mem _ (ih2 h)
        · exact ih2 h
  exact key _ (by simpa using he)
theorem onsE {o : Oper} {listed : Array Bool} (h : ∀ e ∈ o.after, Region.binds .any e = true → listed.getD e.on false = true) : ∀ j ∈ ons o, listed.getD j false = true := fun j hj => by
  obtain ⟨e, h1, h2, rfl⟩ := ons_mem hj
  exact h e h1 h2
theorem getD_tf {l : Array Bool} {i : Nat} (hi : i < l.size) : l.getD i true = l.getD i false := by simp [Array.getD_eq_getD_getElem?, hi]
/-- what waits for all that stand ahead comes behind them -/
theorem all_ahead {L : List Oper} {i : Nat} {o : Oper} {listed : Array Bool} (hmk : ∀ x, x < i → (mark L (i + 1) ((List.replicate (i + 1) false).set i true)).getD x false = true) (ho : L[i]? = some o) (hol : ∀ j ∈ ons o, listed.getD j false = true)
    (hcl : ∀ i o, listed.getD i false = true → L[i]? = some o → ∀ j ∈ ons o, listed.getD j false = true) : ∀ x, x < i → listed.getD x false = true := fun x hx => by
  have hS := mark_sound (L := L) (S := fun x => x = i ∨ listed.getD x false = true) (fun x o' hx ho2 j hj => by
    rcases hx with rfl | hx
    · rw [ho] at ho2; cases ho2; exact .inr (hol j hj)
    · exact .inr (hcl x o' hx ho2 j hj)) (i + 1) ((List.replicate (i + 1) false).set i true) (fun x hx => by
    by_cases e : i = x
    · exact .inl e.symm
    · exfalso
      simp [List.getD_eq_getElem?_getD, List.getElem?_set, e, List.getElem?_replicate] at hx
      split at hx <;> simp at hx)
  exact (hS x (hmk x hx)).resolve_left (by omega)
/-- the tail, in its one order -/
theorem tailM {P : Program} {L : List Oper} {Q : Exit → Act → World → Prop} {k : Nat} (hmk : ∀ p, k ≤ p → p < L.length → ∀ x, x < p → (mark L (p + 1) ((List.replicate (p + 1) false).set p true)).getD x false = true) (hons : ∀ i o, L[i]? = some o → ∀ j ∈ ons o, j < i) :
    ∀ (fuel p : Nat) (listed : Array Bool) (a : Act) (w : World), k ≤ p → fuel + p = L.length → listed.size = L.length → (∀ i, listed.getD i false = true ↔ i < p) → wpList P L.toArray (fun x a w => x = .normal ∧ Q .normal a w) (L.drop p) a w →
      wpAny P .any L.toArray (fun x a w => x = .normal ∧ Q .normal a w) fuel listed a w
  | 0, p, listed, a, w, hk, hp, hsz, hl, h => by
    rw [List.drop_of_length_le (by omega)] at h
    refine ⟨List.eq_nil_iff_forall_not_mem.2 fun i hi => ?_, h⟩
    obtain ⟨h0, oi, hoi, _⟩ := mem_ready.1 hi
    have hil : i < L.length := by have := (Array.getElem?_eq_some_iff.1 hoi).1; simpa using this
    rw [getD_tf (by omega), (hl i).2 (by omega)] at h0
    cases h0
  | fuel + 1, p, listed, a, w, hk, hp, hsz, hl, h => by
    have hpl : p < L.length := by omega
    have hcl : ∀ i o, listed.getD i false = true → L[i]? = some o → ∀ j ∈ ons o, listed.getD j false = true := fun i o hi ho j hj => (hl j).2 (by have := hons i o ho j hj; have := (hl i).1 hi; omega)
    have hready : ∀ i, i ∈ Region.ready .any L.toArray listed → i = p := fun i hi => by
      obtain ⟨h0, oi, hoi, hed⟩ := mem_ready.1 hi
      have hoi' : L[i]? = some oi := by simpa using hoi
      have hil : i < L.length := (List.getElem?_eq_some_iff.1 hoi').1
      rw [getD_tf (by omega)] at h0
      have hge : ¬ i < p := fun hlt => by rw [(hl i).2 hlt] at h0; cases h0
      rcases Nat.lt_or_ge p i with hlt | hle
      · have := all_ahead (hmk i (by omega) hil) hoi' (onsE hed) hcl p hlt
        exact absurd ((hl p).1 this) (Nat.lt_irrefl _)
      · omega
    have hin : p ∈ Region.ready .any L.toArray listed := mem_ready.2 ⟨by
      rw [getD_tf (by omega)]
      cases hx : listed.getD p false with
      | false => rfl
      | true => exact absurd ((hl p).1 hx) (Nat.lt_irrefl _), L[p], by simp [hpl], fun e he hb => (hl _).2 (hons p L[p] (List.getElem?_eq_getElem hpl) _ (mem_ons he hb))⟩
    refine ⟨fun hr => (by rw [hr] at hin; cases hin), fun i hi => ?_⟩
    obtain rfl := hready i hi
    rw [List.drop_eq_getElem_cons hpl] at h
    simp only [wpList] at h
    have ho : L.toArray[i]? = some L[i] := by simp [hpl]
    unfold wpOp
    simp only [ho]
    have hl' : ∀ j, (listed.setIfInBounds i true).getD j false = true ↔ j < i + 1 := fun j => by
      rw [listed_set, hl]
      omega
    split
    · rename_i hw
      rw [if_pos hw] at h
      exact h.imp (Oper.wp_mono fun a' w' h' => tailM hmk hons fuel (i + 1) _ _ _ (by omega) (by omega) (by simpa using hsz) hl' h') id
    · rename_i hw
      rw [if_neg hw] at h
      exact tailM hmk hons fuel (i + 1) _ _ _ (by omega) (by omega) (by simpa using hsz) hl' h
theorem wpAnyM {P : Program} {L : List Oper} {Q : Exit → Act → World → Prop} {w0 : World} {n k : Nat} {σ : Sg} {Γ : Ctx} (hB : monoB L k = true) (hΓ : ∀ m ∈ Γ, m.i < k ∧ m.ok) (hnd : (Γ.map (·.i)).Nodup) (hM : ∀ j o, j < k → L[j]? = some o → MG P L w0 n σ Γ j o)
    (hK : ∀ γ w', Ext w0 w' → allK γ w' (fun τ => WL P L (fun x a w => x = .normal ∧ Q .normal a w) (L.drop k) n τ w') Γ σ) :
    ∀ (fuel : Nat) (listed : Array Bool) (a : Act) (γ : Nat → Nat) (w : World), MInv L w0 n σ Γ k listed a γ w → listed.toList.countP (fun b => !b) = fuel → wpAny P .any L.toArray (fun x a w => x = .normal ∧ Q .normal a w) fuel listed a w := by
  simp only [monoB, Bool.and_eq_true, decide_eq_true_eq, List.all_eq_true, List.mem_range] at hB
  obtain ⟨⟨⟨⟨hs, hlow⟩, hdst⟩, hkl⟩, hmk0⟩ := hB
  have hmk : ∀ p, k ≤ p → p < L.length → ∀ x, x < p → (mark L (p + 1) ((List.replicate (p + 1) false).set p true)).getD x false = true := fun p h1 h2 x hx => by
    have := hmk0 (p - k) (by omega) x (by omega)
    rwa [show k + (p - k) = p by omega] at this
  have hons : ∀ i o, L[i]? = some o → ∀ j ∈ ons o, j < i := fun i o ho j hj => by
    have h := hlow i (List.getElem?_eq_some_iff.1 ho).1
    rw [ho] at h
    simp only [List.all_eq_true, decide_eq_true_eq] at h
    exact h j hj
  have hdd : ∀ x ∈ Γ, ∀ m ∈ Γ, x.i ≠ m.i → x.d ≠ m.d := by
    have hdx : ∀ x ∈ Γ, dOf L x.i = some x.d := fun x hx => by
      have hxk := (hΓ x hx).1
      have hxl : x.i < L.length := by omega
      obtain ⟨m, hm, _, _, e, hd, _⟩ := (hM x.i L[x.i] hxk (List.getElem?_eq_getElem hxl)).ex
      obtain rfl : m = x := map_inj hnd m hm x hx e
      unfold dOf
      rw [List.getElem?_eq_getElem hxl]
      exact hd
    have lt : ∀ x ∈ Γ, ∀ m ∈ Γ, x.i < m.i → x.d ≠ m.d := fun x hx m hm h e => by
      have h1 := hdst m.i (hΓ m hm).1 x.i h
      rw [hdx x hx, hdx m hm, e] at h1
      simp at h1
    intro x hx m hm hne
    rcases Nat.lt_or_gt_of_ne hne with h | h
    · exact lt x hx m hm h
    · exact fun e => lt m hm x hx h e.symm
  -- what is listed when nothing is ready
  have hall : ∀ (listed : Array Bool), listed.size = L.length → Region.ready .any L.toArray listed = [] → ∀ i, i < L.length → listed.getD i false = true := by
    intro listed hsz hr i
    induction i using Nat.strongRecOn with
    | ind i ih =>
      intro hi
      by_cases hl : listed.getD i false = true
      · exact hl
      · have : i ∈ Region.ready .any L.toArray listed := mem_ready.2 ⟨by
          rw [getD_tf (by omega)]
          simpa using hl, L[i], by simp [hi], fun e he hb => by
          have hlt := hons i L[i] (List.getElem?_eq_getElem hi) _ (mem_ons he hb)
          exact ih _ hlt (by omega)⟩
        rw [hr] at this; cases this
  intro fuel
  induction fuel with
  | zero =>
    intro listed a γ w hI hc
    have hl : ∀ i, i < L.length → listed.getD i false = true := fun i hi => by
      cases hx : listed.getD i false with
      | true => rfl
      | false =>
        have := count_set (l := listed) (i := i) (by rw [getD_tf (by have := hI.size; omega)]; exact hx)
        omega
    obtain ⟨τ, hτ, hF⟩ := allK_fr Γ σ (hK γ w hI.ext) hI.fr (fun m hm => hI.facts m hm (hl m.i (by have := (hΓ m hm).1; omega)))
    have hke : k = L.length := by
      rcases Nat.lt_or_ge k L.length with h | h
      · exact absurd (hI.low k (hl k h)) (Nat.lt_irrefl _)
      · omega
    unfold WL at hF
    exact tailM hmk hons 0 k listed a w (Nat.le_refl _) (by omega) hI.size (fun i => ⟨hI.low i, fun h => hl i (by omega)⟩) (hF a hτ)
  | succ fuel ih =>
    intro listed a γ w hI hc
    by_cases hal : ∀ i, i < k → listed.getD i false = true
    · -- all of the first k are listed
      obtain ⟨τ, hτ, hF⟩ := allK_fr Γ σ (hK γ w hI.ext) hI.fr (fun m hm => hI.facts m hm (hal m.i (hΓ m hm).1))
      unfold WL at hF
      have hcount : fuel + 1 + k = L.length := by
        have hlt : listed.toList = (List.range L.length).map (fun i => decide (i < k)) := by
          refine List.ext_getElem (by simpa using hI.size) fun i h1 h2 => ?_
          simp only [List.getElem_map, List.getElem_range, Array.getElem_toList]
          have h3 : listed.getD i false = listed[i]'(by simpa using h1) := by simp [Array.getD_eq_getD_getElem?, show i < listed.size by simpa using h1]
          by_cases h : i < k
          · have := hal i h
            rw [h3] at this; rw [this]; simp [h]
          · cases hx : listed[i]'(by simpa using h1) with
            | false => simp [h]
            | true => exact absurd (hI.low i (by rw [h3, hx])) h
        rw [hlt] at hc
        have hcnt : ∀ N, k ≤ N → ((List.range N).map fun i => decide (i < k)).countP (fun b => !b) + k = N := by
          intro N
          induction N with
          | zero => intro h; simp at h ⊢; omega
          | succ N ihN =>
            intro h
            rw [List.range_succ, List.map_append, List.countP_append]
            by_cases hN : k ≤ N
            · have := ihN hN
              have e1 : ([N].map fun i => decide (i < k)).countP (fun b => !b) = 1 := by
                simp; omega
              omega
            · obtain rfl : k = N + 1 := by omega
              have h0 : ((List.range N).map fun i => decide (i < N + 1)).countP (fun b => !b) = 0 := by
                rw [List.countP_eq_zero]
                intro b hb
                obtain ⟨i, hi, rfl⟩ := List.mem_map.1 hb
                have := List.mem_range.1 hi
                simp; omega
              rw [h0]; simp
        have := hcnt L.length hkl
        omega
      exact tailM hmk hons (fuel + 1) k listed a w (Nat.le_refl _) hcount hI.size (fun i => ⟨hI.low i, hal i⟩) (hF a hτ)
    · refine ⟨fun hr => absurd (fun i hi => hall listed hI.size hr i (by omega)) hal, fun i hi => ?_⟩
      obtain ⟨hun, o, ho, hed⟩ := mem_ready.1 hi
      have hcs := count_set hun
      have ho' : L[i]? = some o := by simpa using ho
      have hil : i < L.length := (List.getElem?_eq_some_iff.1 ho').1
      have hol := onsE hed
      have hik : i < k := by
        rcases Nat.lt_or_ge i k with h | h
        · exact h
        · exact absurd (fun x hx => all_ahead (hmk i h hil) ho' hol hI.closed x (by omega)) hal
      unfold wpOp
      simp only [ho]
      obtain ⟨m, hm, Δ, hΔ, hmi, hd, hn, hf, hob⟩ := (hM i o hik ho').ex
      have hst : ∀ (w' : World) (v : Value), Ext w w' → m.Φ v (byM γ w i) w' → wpAny P .any L.toArray (fun x a w => x = .normal ∧ Q .normal a w) fuel (listed.setIfInBounds i true) (a.put (some m.d) v) w' := fun w' v hE hΦ =>
        ih _ _ _ _ (hI.step hm hmi ho' hn hf (fun m hm => (hΓ m hm).2) hnd (fun x hx hne => hdd x hx m hm (by rw [hmi]; exact hne)) hE hΦ hol hik) (by omega)
      rcases hob w γ hI.ext a hI.fr (fun j hj x hx e => hI.facts x (hΔ x hx) (by rw [e]; exact hol j hj)) with ⟨hw, hwp⟩ | ⟨hw, hΦ⟩
      · simp only [hw, if_true]
        refine .inl (Oper.wp_mono (fun a' w' h' => ?_) (wp_exits (fun e a w _ hf => hf.elim) hwp))
        obtain ⟨hE, v, rfl, hΦ⟩ := h'
        exact hst w' v hE hΦ
      · simp only [hw, Bool.false_eq_true, if_false]
        rw [hd]
        exact hst w undef (Ext.refl w) hΦ
section
variable {P : Program} {Q : Exit → Act → World → Prop} {n : Nat} {σ : Sg} {w : World} {L : List Oper}
/-- behind the walk of the first ones: the tail -/
def FinM (P : Program) (L : List Oper) (Q : Exit → Act → World → Prop) (n : Nat) (σ : Sg) (w : World) (T : List Oper) : Ctx → Prop :=
  fun Γ => ∀ γ w', Ext w w' → allK γ w' (fun τ => WL P L (fun x a w => x = .normal ∧ Q .normal a w) T n τ w') Γ σ
/-- a drawn region: the first k operations only make new memory, the others stand in one order behind them -/
theorem CW.drawM {id : Nat} (k : Nat) (hm : P.follows .mixedOrders = true) (hB : monoB L k = true) (h : ML P L (drew w) n σ (FinM P L Q n σ (drew w) (L.drop k)) 0 [] (L.take k)) : CW P (.region id L.toArray true) Q n σ w := by
  unfold CW
  intro a ha
  have hkl : k ≤ L.length := by
    simp only [monoB, Bool.and_eq_true, decide_eq_true_eq] at hB
    exact hB.1.2
  obtain ⟨Γ, g1, _, g3, g4, g5⟩ := ML_get _ _ _ h (fun m hm => by cases hm) List.Pairwise.nil
  have h1 := wpAnyM (P := P) (Q := Q) (w0 := drew w) hB (fun m hm => by have := g3 m hm; simp only [List.length_take, Nat.zero_add] at this; exact ⟨by omega, this.2⟩) g4 (fun j o hj ho => by
    have := g5 j o (by rw [List.getElem?_take_of_lt hj]; exact ho)
    rwa [Nat.zero_add] at this) g1 L.length (Array.replicate L.length false) a (fun _ => 0) (drew w) ⟨by simp, ha, Ext.refl _, fun m hm hl => by
      exfalso; simp [Array.getD_eq_getD_getElem?, Array.getElem?_replicate] at hl; split at hl <;> simp at hl, fun i o hl => by
      exfalso; simp [Array.getD_eq_getD_getElem?, Array.getElem?_replicate] at hl; split at hl <;> simp at hl, fun i hl => by
      exfalso; simp [Array.getD_eq_getD_getElem?, Array.getElem?_replicate] at hl; split at hl <;> simp at hl⟩ (by simp [List.countP_replicate])
  have h2 : (Code.region id L.toArray true).wp P (fun x a w => x = .normal ∧ Q .normal a w) a w := wp_region_any hm (by simpa using h1)
  exact wp_mono h2 (fun e a' w' ⟨he, hq⟩ => by subst he; exact hq)
theorem ML.nil {w0 : World} {K : Ctx → Prop} {i : Nat} {Γ : Ctx} (h : K Γ) : ML P L w0 n σ K i Γ [] := h
end
end Go.Proofs.YtikigaeihdmcaaaDoor

/-
  Results that lie in a variable; slices that are read, later on; slices cut with their capacity. Over any program.
-/
set_option linter.unusedVariables false
set_option linter.unusedSimpArgs false
namespace Go.Proofs.YtikigaeihdmcaaaDoor
open Go.RowKit

theorem Sl.zero {α : Type} [Rep α] (w : World) (F : Nat → Prop) : Sl w F none 0 ([] : List α) := ⟨by simp, by simp [maxLen], fun _ => rfl, fun i hi => absurd hi (by simp)⟩
section
variable {P : Program} {Q : Exit → Act → World → Prop} {n : Nat} {σ : Sg} {w : World} {L rest : List Oper} {d : Nat} {ty : TypeId} {pos : String} {af : Array Edge} {g : Option (Nat × Bool)} {t e : TypeId} {α : Type} [Rep α] {F : Nat → Prop}
end
end Go.Proofs.YtikigaeihdmcaaaDoor

