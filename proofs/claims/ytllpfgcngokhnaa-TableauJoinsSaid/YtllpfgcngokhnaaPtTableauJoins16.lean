import Derived.Test.YtllpfgcngokhnaaPtTableauJoins15
/-
  Drawn regions whose operations, whatever the order, only make new memory: walked in the order of the text. What is known of each value lasts. Over any program.
-/
set_option linter.unusedVariables false
set_option linter.unusedSimpArgs false
namespace Go.Proofs.Ytllpfgcngokhnaa
open Go.RowKit

/-- what is known of an operation that has been walked: its number, its slot; its value, or a fact of it (of the value, of who made which block, of the world) -/
inductive ME where
  | kn (i d : Nat) (v : Value)
  | fc (i d : Nat) (Φ : Value → (Nat → Nat) → World → Prop)
def ME.i : ME → Nat | .kn i _ _ => i | .fc i _ _ => i
def ME.d : ME → Nat | .kn _ d _ => d | .fc _ d _ => d
def ME.Φ : ME → Value → (Nat → Nat) → World → Prop | .kn _ _ v => fun u _ _ => u = v | .fc _ _ Φ => Φ
def StM (Φ : Value → (Nat → Nat) → World → Prop) : Prop := ∀ v γ γ' w w', Φ v γ w → Ext w w' → (∀ b, b < w.heap.size → γ' b = γ b) → Φ v γ' w'
def ME.ok (m : ME) : Prop := StM m.Φ
/-- the new blocks are i's -/
def byM (γ : Nat → Nat) (w : World) (i : Nat) : Nat → Nat := fun b => if b < w.heap.size then γ b else i
abbrev Ctx := List ME
def findM : Ctx → Nat → Option ME
  | [], _ => none
  | m :: r, j => match Nat.beq m.i j with | true => some m | false => findM r j
theorem findM_mem : ∀ {Γ : Ctx} {j : Nat} {m : ME}, findM Γ j = some m → m ∈ Γ ∧ m.i = j
  | [], _, _, h => by cases h
  | x :: r, j, m, h => by
    unfold findM at h
    split at h
    · rename_i e
      injection h with h
      subst h
      exact ⟨by simp, Nat.eq_of_beq_eq_true e⟩
    · obtain ⟨h1, h2⟩ := findM_mem h
      exact ⟨by simp [h1], h2⟩
def elN (j : Nat) : List Nat → Bool
  | [] => false
  | x :: r => match Nat.beq x j with | true => true | false => elN j r
theorem elN_mem {j : Nat} : ∀ {l : List Nat}, elN j l = true → j ∈ l
  | [], h => by cases h
  | x :: r, h => by
    unfold elN at h
    split at h
    · rename_i e; rw [Nat.eq_of_beq_eq_true e]; simp
    · exact List.mem_cons_of_mem _ (elN_mem h)
/-- the edges that an operation waits for, each once -/
def onsL : List Edge → List Nat
  | [] => []
  | e :: r => match Region.binds .any e with
    | true => (match elN e.on (onsL r) with | true => onsL r | false => e.on :: onsL r)
    | false => onsL r
def ons (o : Oper) : List Nat := onsL o.after.toList
theorem onsL_mem {j : Nat} : ∀ {l : List Edge}, j ∈ onsL l → ∃ e ∈ l, Region.binds .any e = true ∧ e.on = j
  | [], h => by cases h
  | e :: r, h => by
    have up : j ∈ onsL r → ∃ e' ∈ e :: r, Region.binds .any e' = true ∧ e'.on = j := fun h => by
      obtain ⟨e', h1, h2⟩ := onsL_mem h; exact ⟨e', by simp [h1], h2⟩
    unfold onsL at h
    split at h
    · rename_i hb
      split at h
      · exact up h
      · rcases List.mem_cons.1 h with rfl | h
        · exact ⟨e, by simp, hb, rfl⟩
        · exact up h
    · exact up h
theorem ons_mem {o : Oper} {j : Nat} (h : j ∈ ons o) : ∃ e ∈ o.after, Region.binds .any e = true ∧ e.on = j := by
  obtain ⟨e, h1, h2⟩ := onsL_mem h
  exact ⟨e, by simpa using h1, h2⟩
/-- the slots that an operation finds: those of values that are known -/
def kS (Γ : Ctx) (σ : Sg) : List Nat → Sg
  | [] => σ
  | j :: r => match findM Γ j with | some (.kn _ d v) => (d, v) :: kS Γ σ r | _ => kS Γ σ r
/-- .. and of facts -/
def needK (Γ : Ctx) (γ : Nat → Nat) (w : World) (k : Sg → Prop) : List Nat → Sg → Prop
  | [], σ => k σ
  | j :: r, σ => match findM Γ j with
    | some (.kn _ d v) => needK Γ γ w k r ((d, v) :: σ)
    | some (.fc _ d Φ) => ∀ v, Φ v γ w → needK Γ γ w k r ((d, v) :: σ)
    | none => needK Γ γ w k r σ
def allK (γ : Nat → Nat) (w : World) (k : Sg → Prop) : Ctx → Sg → Prop
  | [], σ => k σ
  | .kn _ d v :: r, σ => allK γ w k r ((d, v) :: σ)
  | .fc _ d Φ :: r, σ => ∀ v, Φ v γ w → allK γ w k r ((d, v) :: σ)
theorem fr_cons {n : Nat} {σ : Sg} {a : Act} {d : Nat} {v : Value} (h : Fr n σ a) (hv : a.tmps.getD d undef = v) : Fr n ((d, v) :: σ) a := by
  refine ⟨h.size, h.defers, fun t u hu => ?_⟩
  by_cases e : d = t
  · subst e; rw [fnd_cons_eq] at hu; cases hu; exact hv
  · rw [fnd_cons_ne e] at hu; exact h.slot _ _ hu
theorem kS_fr {Γ : Ctx} {n : Nat} {σ : Sg} {a : Act} {γ : Nat → Nat} {w : World} (ha : Fr n σ a) : ∀ (l : List Nat), (∀ j ∈ l, ∀ m ∈ Γ, m.i = j → m.Φ (a.tmps.getD m.d undef) γ w) → Fr n (kS Γ σ l) a
  | [], _ => ha
  | j :: r, h => by
    have ih := kS_fr (γ := γ) (w := w) ha r (fun x hx => h x (by simp [hx]))
    unfold kS
    split
    · rename_i i d v hf
      obtain ⟨h1, h2⟩ := findM_mem hf
      exact fr_cons ih (h j (by simp) _ h1 h2)
    · exact ih
theorem needK_fr {Γ : Ctx} {n : Nat} {a : Act} {γ : Nat → Nat} {w : World} {k : Sg → Prop} : ∀ (l : List Nat) (σ : Sg), needK Γ γ w k l σ → Fr n σ a → (∀ j ∈ l, ∀ m ∈ Γ, m.i = j → m.Φ (a.tmps.getD m.d undef) γ w) → ∃ τ, Fr n τ a ∧ k τ
  | [], σ, h, ha, _ => ⟨σ, ha, h⟩
  | j :: r, σ, h, ha, hΦ => by
    unfold needK at h
    have hr : ∀ x ∈ r, ∀ m ∈ Γ, m.i = x → m.Φ (a.tmps.getD m.d undef) γ w := fun x hx => hΦ x (by simp [hx])
    split at h
    · rename_i i d v hf
      obtain ⟨h1, h2⟩ := findM_mem hf
      exact needK_fr r _ h (fr_cons ha (hΦ j (by simp) _ h1 h2)) hr
    · rename_i i d Φ hf
      obtain ⟨h1, h2⟩ := findM_mem hf
      exact needK_fr r _ (h _ (hΦ j (by simp) _ h1 h2)) (fr_cons ha rfl) hr
    · exact needK_fr r _ h ha hr
theorem allK_fr {n : Nat} {a : Act} {γ : Nat → Nat} {w : World} {k : Sg → Prop} : ∀ (Γ : Ctx) (σ : Sg), allK γ w k Γ σ → Fr n σ a → (∀ m ∈ Γ, m.Φ (a.tmps.getD m.d undef) γ w) → ∃ τ, Fr n τ a ∧ k τ
  | [], σ, h, ha, _ => ⟨σ, ha, h⟩
  | .kn i d v :: r, σ, h, ha, hΦ => allK_fr r _ h (fr_cons ha (hΦ (.kn i d v) (by simp))) (fun m hm => hΦ m (by simp [hm]))
  | .fc i d Φ :: r, σ, h, ha, hΦ => allK_fr r _ (h _ (hΦ (.fc i d Φ) (by simp))) (fr_cons ha rfl) (fun m hm => hΦ m (by simp [hm]))
/-- behind one operation -/
def AftM (γ : Nat → Nat) (w : World) (i d : Nat) (Φ : Value → (Nat → Nat) → World → Prop) : Exit → Act → World → Prop :=
  fun x a w' => x = .normal ∧ a.defers = [] ∧ Ext w w' ∧ Φ (a.tmps.getD d undef) (byM γ w i) w'
theorem EX.mm {γ : Nat → Nat} {w w' : World} {n i d : Nat} {σ : Sg} {v : Value} {Φ : Value → (Nat → Nat) → World → Prop} (hv : fnd σ d = some v) (hE : Ext w w') (hΦ : Φ v (byM γ w i) w') : EX (AftM γ w i d Φ) .normal n σ w' := by
  unfold EX
  intro a ha
  exact ⟨rfl, ha.defers, hE, by rw [ha.slot _ _ hv]; exact hΦ⟩
/-- what one operation does, wherever it comes; or it isn't wanted -/
def OB (P : Program) (L : List Oper) (w0 : World) (n : Nat) (σ : Sg) (Γ : Ctx) (o : Oper) (i d : Nat) (Φ : Value → (Nat → Nat) → World → Prop) : Prop :=
  ∀ w γ, Ext w0 w → ∀ a, Fr n σ a → (∀ j ∈ ons o, ∀ m ∈ Γ, m.i = j → m.Φ (a.tmps.getD m.d undef) γ w) →
    (Region.wanted o (yielded L.toArray a.tmps) = true ∧ o.wp P a w (fun a' w' => Ext w w' ∧ ∃ v, a' = a.put (some d) v ∧ Φ v (byM γ w i) w') Never) ∨ (Region.wanted o (yielded L.toArray a.tmps) = false ∧ Φ undef (byM γ w i) w)
/-- the walk -/
def ML (P : Program) (L : List Oper) (w0 : World) (n : Nat) (σ : Sg) (K : Ctx → Prop) : Nat → Ctx → List Oper → Prop
  | _, Γ, [] => K Γ
  | i, Γ, o :: r => ∃ m : ME, m.i = i ∧ o.dst = some m.d ∧ Nat.ble (m.d + 1) n = true ∧ fnd σ m.d = none ∧ m.ok ∧ OB P L w0 n σ Γ o i m.d m.Φ ∧ ML P L w0 n σ K (i + 1) (m :: Γ) r
theorem aft_wp {P : Program} {o : Oper} {i d n : Nat} {L : List Oper} {γ : Nat → Nat} {Φ : Value → (Nat → Nat) → World → Prop} {a : Act} {w : World} {τ : Sg} (hd : o.dst = some d) (hn : Nat.ble (d + 1) n = true) (ha : Fr n τ a) (hw : Region.wanted o (yielded L.toArray a.tmps) = true) (h : WL P L (AftM γ w i d Φ) [o] n τ w) :
    o.wp P a w (fun a' w' => Ext w w' ∧ ∃ v, a' = a.put (some d) v ∧ Φ v (byM γ w i) w') Never := by
  unfold WL at h
  have h2 := h a ha
  simp only [wpList, hw, if_true] at h2
  have hlt : d < n := Nat.le_of_ble_eq_true hn
  have hget : ∀ v, (a.put (some d) v).tmps.getD d undef = v := by
    intro v
    simp [Act.put, Array.getD, ha.size, hlt]
  rcases h2 with h2 | ⟨_, hl⟩
  · unfold Oper.wp at *
    obtain ⟨dst, op, ty, pos, af, g⟩ := o
    simp only at hd
    subst hd
    generalize (execOp a.eval _).run P w = r at *
    cases r with
    | ok k w' =>
      cases k <;> simp only [Oper.upon] at h2 ⊢ <;> first
        | exact ⟨h2.2.2.1, _, rfl, by have := h2.2.2.2; rw [hget] at this; exact this⟩
        | (exfalso; have := h2.2.1; simp [Act.put] at this; done)
        | (refine Calls.mono h2 (fun x w'' he => ?_)
           cases x
           · exact ⟨he.2.2.1, _, rfl, by have := he.2.2.2; rw [hget] at this; exact this⟩
           · exact absurd he.1 (by simp)
           · obtain ⟨_, _, hx⟩ := he; exact absurd hx.1 (by simp))
        | exact Rows.mono h2 (fun v w'' he => ⟨he.2.2.1, _, rfl, by have := he.2.2.2; rw [hget] at this; exact this⟩)
        | exact h2
    | halt x w' => cases x <;> simp only [Oper.upon] at h2 ⊢ <;> first | exact h2 | exact absurd h2.1 (by simp)
  · obtain ⟨_, _, hx⟩ := hl
    exact absurd hx.1 (by simp)
section
variable {P : Program} {L : List Oper} {w0 : World} {n : Nat} {σ : Sg} {K : Ctx → Prop} {i d : Nat} {Γ : Ctx} {r : List Oper} {op : Op} {ty : TypeId} {pos : String} {af : Array Edge} {g : Option (Nat × Bool)}
/-- an operation whose value is known, by the rule for its like -/
theorem ML.q {v : Value} (hg : gd L (kS Γ σ (onsL af.toList)) ⟨some d, op, ty, pos, af, g⟩ = some true) (hn : Nat.ble (d + 1) n = true) (hf : fnd σ d = none)
    (h : ∀ γ w, Ext w0 w → WL P L (AftM γ w i d (fun u _ _ => u = v)) [⟨some d, op, ty, pos, af, g⟩] n (kS Γ σ (onsL af.toList)) w) (hr : ML P L w0 n σ K (i + 1) (.kn i d v :: Γ) r) :
    ML P L w0 n σ K i Γ (⟨some d, op, ty, pos, af, g⟩ :: r) := by
  refine ⟨.kn i d v, rfl, rfl, hn, hf, fun u _ _ w w' h _ _ => h, fun w γ hw a ha hΦ => .inl ?_, hr⟩
  have hk : Fr n (kS Γ σ (onsL af.toList)) a := kS_fr ha _ hΦ
  have hwa := gd_wanted hk hg
  exact ⟨hwa, aft_wp rfl hn hk hwa (h γ w hw)⟩
/-- one that isn't wanted -/
theorem ML.pass (hg : gd L (kS Γ σ (onsL af.toList)) ⟨some d, op, ty, pos, af, g⟩ = some false) (hn : Nat.ble (d + 1) n = true) (hf : fnd σ d = none)
    (hr : ML P L w0 n σ K (i + 1) (.kn i d undef :: Γ) r) : ML P L w0 n σ K i Γ (⟨some d, op, ty, pos, af, g⟩ :: r) := by
  refine ⟨.kn i d undef, rfl, rfl, hn, hf, fun u _ _ w w' h _ _ => h, fun w γ hw a ha hΦ => .inr ?_, hr⟩
  have hk : Fr n (kS Γ σ (onsL af.toList)) a := kS_fr ha _ hΦ
  exact ⟨gd_wanted hk hg, rfl⟩
/-- one of whose value a fact is known -/
theorem ML.fc (Φ : Value → (Nat → Nat) → World → Prop) (hg : gd L (kS Γ σ (onsL af.toList)) ⟨some d, op, ty, pos, af, g⟩ = some true) (hn : Nat.ble (d + 1) n = true) (hf : fnd σ d = none) (hs : StM Φ)
    (h : ∀ γ w, Ext w0 w → needK Γ γ w (fun τ => WL P L (AftM γ w i d Φ) [⟨some d, op, ty, pos, af, g⟩] n τ w) (onsL af.toList) σ) (hr : ML P L w0 n σ K (i + 1) (.fc i d Φ :: Γ) r) :
    ML P L w0 n σ K i Γ (⟨some d, op, ty, pos, af, g⟩ :: r) := by
  refine ⟨.fc i d Φ, rfl, rfl, hn, hf, hs, fun w γ hw a ha hΦ => .inl ?_, hr⟩
  have hk : Fr n (kS Γ σ (onsL af.toList)) a := kS_fr ha _ hΦ
  have hwa := gd_wanted hk hg
  obtain ⟨τ, hτ, hW⟩ := needK_fr _ _ (h γ w hw) ha hΦ
  exact ⟨hwa, aft_wp rfl hn hτ hwa hW⟩
/-- the same, its value known, facts looked at -/
theorem ML.kc {v : Value} (hg : gd L (kS Γ σ (onsL af.toList)) ⟨some d, op, ty, pos, af, g⟩ = some true) (hn : Nat.ble (d + 1) n = true) (hf : fnd σ d = none)
    (h : ∀ γ w, Ext w0 w → needK Γ γ w (fun τ => WL P L (AftM γ w i d (fun u _ _ => u = v)) [⟨some d, op, ty, pos, af, g⟩] n τ w) (onsL af.toList) σ) (hr : ML P L w0 n σ K (i + 1) (.kn i d v :: Γ) r) :
    ML P L w0 n σ K i Γ (⟨some d, op, ty, pos, af, g⟩ :: r) := by
  refine ⟨.kn i d v, rfl, rfl, hn, hf, fun u _ _ w w' h _ _ => h, fun w γ hw a ha hΦ => .inl ?_, hr⟩
  have hk : Fr n (kS Γ σ (onsL af.toList)) a := kS_fr ha _ hΦ
  have hwa := gd_wanted hk hg
  obtain ⟨τ, hτ, hW⟩ := needK_fr _ _ (h γ w hw) ha hΦ
  exact ⟨hwa, aft_wp rfl hn hτ hwa hW⟩
end
/- THE ORDERS -/
def dOf (L : List Oper) (i : Nat) : Option Nat := match L[i]? with | some o => o.dst | none => none
/-- all that must come ahead, by marks -/
def mark (L : List Oper) : Nat → List Bool → List Bool
  | 0, m => m
  | i + 1, m => match m.getD i false, L[i]? with
    | true, some o => mark L i ((ons o).foldl (fun m j => m.set j true) m)
    | _, _ => mark L i m
/-- the first k only wait for earlier ones and have slots of their own; each behind them waits for all that stand ahead -/
def monoB (L : List Oper) (k : Nat) : Bool :=
  Region.noSelect L.toArray && (List.range L.length).all (fun i => match L[i]? with | some o => (ons o).all fun j => decide (j < i) | none => false) &&
  (List.range k).all (fun i => (List.range i).all fun j => match dOf L i, dOf L j with | some x, some y => !(Nat.beq x y) | _, _ => false) &&
  decide (k ≤ L.length) && (List.range (L.length - k)).all fun p => (List.range (k + p)).all fun i => (mark L (k + p + 1) ((List.replicate (k + p + 1) false).set (k + p) true)).getD i false
theorem mark_sound {L : List Oper} {S : Nat → Prop} (hS : ∀ i o, S i → L[i]? = some o → ∀ j ∈ ons o, S j) : ∀ (i : Nat) (m : List Bool), (∀ x, m.getD x false = true → S x) → ∀ x, (mark L i m).getD x false = true → S x
  | 0, m, h, x, hx => h x hx
  | i + 1, m, h, x, hx => by
    unfold mark at hx
    split at hx
    · rename_i o hm ho
      refine mark_sound hS i _ ?_ x hx
      have hSi := hS i o (h i hm) ho
      have key : ∀ (l : List Nat) (m : List Bool), (∀ j ∈ l, S j) → (∀ x, m.getD x false = true → S x) → ∀ x, (l.foldl (fun m j => m.set j true) m).getD x false = true → S x := by
        intro l
        induction l with
        | nil => intro m _ h x hx; exact h x hx
        | cons j l ih =>
          intro m hl h x hx
          refine ih _ (fun y hy => hl y (by simp [hy])) (fun y hy => ?_) x hx
          by_cases e : j = y
          · subst e; exact hl _ (by simp)
          · refine h y ?_
            simpa [List.getD_eq_getElem?_getD, List.getElem?_set, e] using hy
      exact key _ _ hSi h
    · exact mark_sound hS i _ h x hx
/-- what the walk gives -/
structure MG (P : Program) (L : List Oper) (w0 : World) (n : Nat) (σ : Sg) (Γ : Ctx) (i : Nat) (o : Oper) : Prop where
  ex : ∃ m ∈ Γ, ∃ Δ : Ctx, (∀ x ∈ Δ, x ∈ Γ) ∧ m.i = i ∧ o.dst = some m.d ∧ Nat.ble (m.d + 1) n = true ∧ fnd σ m.d = none ∧ OB P L w0 n σ Δ o i m.d m.Φ
theorem ML_get {P : Program} {L : List Oper} {w0 : World} {n : Nat} {σ : Sg} {K : Ctx → Prop} : ∀ (r : List Oper) (i : Nat) (Γ : Ctx), ML P L w0 n σ K i Γ r → (∀ m ∈ Γ, m.i < i ∧ m.ok) → (Γ.map (·.i)).Nodup →
    ∃ Γ' : Ctx, K Γ' ∧ (∀ m ∈ Γ, m ∈ Γ') ∧ (∀ m ∈ Γ', m.i < i + r.length ∧ m.ok) ∧ (Γ'.map (·.i)).Nodup ∧ ∀ j o, r[j]? = some o → MG P L w0 n σ Γ' (i + j) o
  | [], i, Γ, h, hΓ, hd => ⟨Γ, h, fun m h => h, hΓ, hd, fun j o h => by simp at h⟩
  | o :: r, i, Γ, h, hΓ, hd => by
    obtain ⟨m, h1, h2, h3, h4, h5, h6, h7⟩ := h
    obtain ⟨Γ', g1, g2, g3, g4, g5⟩ := ML_get r (i + 1) (m :: Γ) h7 (fun x hx => by
      rcases List.mem_cons.1 hx with rfl | hx
      · exact ⟨by omega, h5⟩
      · have := hΓ x hx; exact ⟨by omega, this.2⟩) (by
      rw [List.map_cons, List.nodup_cons]
      refine ⟨fun hm => ?_, hd⟩
      obtain ⟨x, hx, e⟩ := List.mem_map.1 hm
      have := (hΓ x hx).1; omega)
    refine ⟨Γ', g1, fun x hx => g2 x (by simp [hx]), fun x hx => by have := g3 x hx; simp only [List.length_cons]; exact ⟨by omega, this.2⟩, g4, fun j o' hj => ?_⟩
    cases j with
    | zero =>
      simp at hj
      subst hj
      exact ⟨m, g2 m (by simp), Γ, fun x hx => g2 x (by simp [hx]), h1, h2, h3, h4, h6⟩
    | succ j =>
      have := g5 j o' (by simpa using hj)
      rwa [show i + (j + 1) = i + 1 + j by omega]
theorem map_inj {β γ : Type} {f : β → γ} {l : List β} (h : (l.map f).Nodup) : ∀ x ∈ l, ∀ y ∈ l, f x = f y → x = y := fun x hx y hy => nodup_inj h x hx y hy
structure MInv (L : List Oper) (w0 : World) (n : Nat) (σ : Sg) (Γ : Ctx) (k : Nat) (listed : Array Bool) (a : Act) (γ : Nat → Nat) (w : World) : Prop where
  size : listed.size = L.length
  fr : Fr n σ a
  ext : Ext w0 w
  facts : ∀ m ∈ Γ, listed.getD m.i false = true → m.Φ (a.tmps.getD m.d undef) γ w
  closed : ∀ i o, listed.getD i false = true → L[i]? = some o → ∀ j ∈ ons o, listed.getD j false = true
  low : ∀ i, listed.getD i false = true → i < k
theorem listed_set {l : Array Bool} {i j : Nat} : (l.setIfInBounds i true).getD j false = true ↔ (j = i ∧ i < l.size) ∨ l.getD j false = true := by
  simp only [Array.getD_eq_getD_getElem?, Array.getElem?_setIfInBounds]
  by_cases e : i = j
  · subst e
    by_cases h : i < l.size
    · simp [h]
    · simp [h]
  · rw [if_neg e]
    constructor
    · exact fun h => .inr h
    · rintro (⟨h, _⟩ | h)
      · exact absurd h.symm e
      · exact h
theorem count_set {l : Array Bool} {i : Nat} (h : l.getD i true = false) : (l.setIfInBounds i true).toList.countP (fun b => !b) + 1 = l.toList.countP fun b => !b := by
  have hi : i < l.size := by
    rcases Nat.lt_or_ge i l.size with h' | h'
    · exact h'
    · simp [Array.getD_eq_getD_getElem?, Array.getElem?_eq_none h'] at h
  have hv : l[i] = false := by simpa [Array.getD_eq_getD_getElem?, hi] using h
  have h1 : (l.setIfInBounds i true).toList = l.toList.set i true := by simp
  rw [h1, List.countP_set (by simpa using hi)]
  have h2 : l.toList[i]'(by simpa using hi) = false := by simpa using hv
  rw [h2]
  have : 0 < l.toList.countP fun b => !b := List.countP_pos_iff.2 ⟨false, h2 ▸ List.getElem_mem _, rfl⟩
  generalize (l.toList.countP fun b => !b) = c at *
  simp only [Bool.not_false, Bool.not_true, if_true, Bool.false_eq_true, if_false]
  omega
theorem MInv.step {L : List Oper} {w0 w w' : World} {n k i : Nat} {σ : Sg} {Γ : Ctx} {listed : Array Bool} {a : Act} {γ : Nat → Nat} {m : ME} {o : Oper} {v : Value} (h : MInv L w0 n σ Γ k listed a γ w) (hm : m ∈ Γ) (hmi : m.i = i) (ho : L[i]? = some o) (hn : Nat.ble (m.d + 1) n = true)
    (hf : fnd σ m.d = none) (hok : ∀ m ∈ Γ, m.ok) (hnd : (Γ.map (·.i)).Nodup) (hdd : ∀ x ∈ Γ, x.i ≠ i → x.d ≠ m.d) (hE : Ext w w') (hΦ : m.Φ v (byM γ w i) w') (hons : ∀ j ∈ ons o, listed.getD j false = true) (hik : i < k) : MInv L w0 n σ Γ k (listed.setIfInBounds i true) (a.put (some m.d) v) (byM γ w i) w' := by
  have hlt : m.d < n := Nat.le_of_ble_eq_true hn
  have hp := h.fr.put (d := some m.d) (v := v) hn
  refine ⟨by simpa using h.size, ⟨hp.size, hp.defers, fun t u hu => hp.slot t u ?_⟩, h.ext.trans hE, fun x hx hl => ?_, fun j o' hj ho' q hq => ?_, fun j hj => ?_⟩
  · show fnd ((m.d, v) :: σ) t = some u
    rw [fnd_cons_ne (fun e => by subst e; rw [hf] at hu; cases hu)]; exact hu
  · rcases listed_set.1 hl with ⟨e, _⟩ | hl
    · obtain rfl : x = m := map_inj hnd x hx m hm (by show x.i = m.i; rw [e, hmi])
      have : (a.put (some x.d) v).tmps.getD x.d undef = v := by simp [Act.put, Array.getD, h.fr.size, hlt]
      rw [this]; exact hΦ
    · by_cases e : x.i = i
      · obtain rfl : x = m := map_inj hnd x hx m hm (by show x.i = m.i; rw [e, hmi])
        have : (a.put (some x.d) v).tmps.getD x.d undef = v := by simp [Act.put, Array.getD, h.fr.size, hlt]
        rw [this]; exact hΦ
      · have hne := hdd x hx e
        have : (a.put (some m.d) v).tmps.getD x.d undef = a.tmps.getD x.d undef := by
          simp only [Act.put, Array.getD_eq_getD_getElem?]
          rw [Array.getElem?_setIfInBounds_ne (fun e => hne e.symm)]
        rw [this]
        exact hok x hx _ _ _ _ _ (h.facts x hx hl) hE (fun b hb => if_pos hb)
  · rcases listed_set.1 hj with ⟨e, _⟩ | hj
    · subst e
      rw [ho] at ho'
      cases ho'
      exact listed_set.2 (.inr (hons q hq))
    · exact listed_set.2 (.inr (h.closed j o' hj ho' q hq))
  · rcases listed_set.1 hj with ⟨e, _⟩ | hj
    · omega
    · exact h.low j hj
theorem mem_ons {o : Oper} {e : Edge} (he : e ∈ o.after) (hb : Region.binds .any e = true) : e.on ∈ ons o := by
  unfold ons
  have key : ∀ l : List Edge, e ∈ l → e.on ∈ onsL l := by
    intro l
    induction l with
    | nil => intro h; cases h
    | cons x l ih2 =>
      intro h
      unfold onsL
      rcases List.mem_cons.1 h with rfl | h
      · rw [hb]
        dsimp only
        split
        · rename_i he; exact elN_mem he
        · simp
      · split
        · split
          · exact ih2 h
          · exact List.mem_cons_of_mem _ (ih2 h)
        · exact ih2 h
  exact key _ (by simpa using he)
theorem onsE {o : Oper} {listed : Array Bool} (h : ∀ e ∈ o.after, Region.binds .any e = true → listed.getD e.on false = true) : ∀ j ∈ ons o, listed.getD j false = true := fun j hj => by
  obtain ⟨e, h1, h2, rfl⟩ := ons_mem hj
  exact h e h1 h2
theorem getD_tf {l : Array Bool} {i : Nat} (hi : i < l.size) : l.getD i true = l.getD i false := by simp [Array.getD_eq_getD_getElem?, hi]
/-- what waits for all that stand ahead comes behind them -/
theorem all_ahead {L : List Oper} {i : Nat} {o : Oper} {listed : Array Bool} (hmk : ∀ x, x < i → (mark L (i + 1) ((List.replicate (i + 1) false).set i true)).getD x false = true) (ho : L[i]? = some o) (hol : ∀ j ∈ ons o, listed.getD j false = true)
    (hcl : ∀ i o, listed.getD i false = true → L[i]? = some o → ∀ j ∈ ons o, listed.getD j false = true) : ∀ x, x < i → listed.getD x false = true := fun x hx => by
  have hS := mark_sound (L := L) (S := fun x => x = i ∨ listed.getD x false = true) (fun x o' hx ho2 j hj => by
    rcases hx with rfl | hx
    · rw [ho] at ho2; cases ho2; exact .inr (hol j hj)
    · exact .inr (hcl x o' hx ho2 j hj)) (i + 1) ((List.replicate (i + 1) false).set i true) (fun x hx => by
    by_cases e : i = x
    · exact .inl e.symm
    · exfalso
      simp [List.getD_eq_getElem?_getD, List.getElem?_set, e, List.getElem?_replicate] at hx
      split at hx <;> simp at hx)
  exact (hS x (hmk x hx)).resolve_left (by omega)
/-- the tail, in its one order -/
theorem tailM {P : Program} {L : List Oper} {Q : Exit → Act → World → Prop} {k : Nat} (hmk : ∀ p, k ≤ p → p < L.length → ∀ x, x < p → (mark L (p + 1) ((List.replicate (p + 1) false).set p true)).getD x false = true) (hons : ∀ i o, L[i]? = some o → ∀ j ∈ ons o, j < i) :
    ∀ (fuel p : Nat) (listed : Array Bool) (a : Act) (w : World), k ≤ p → fuel + p = L.length → listed.size = L.length → (∀ i, listed.getD i false = true ↔ i < p) → wpList P L.toArray (fun x a w => x = .normal ∧ Q .normal a w) (L.drop p) a w →
      wpAny P .any L.toArray (fun x a w => x = .normal ∧ Q .normal a w) fuel listed a w
  | 0, p, listed, a, w, hk, hp, hsz, hl, h => by
    rw [List.drop_of_length_le (by omega)] at h
    refine ⟨List.eq_nil_iff_forall_not_mem.2 fun i hi => ?_, h⟩
    obtain ⟨h0, oi, hoi, _⟩ := mem_ready.1 hi
    have hil : i < L.length := by have := (Array.getElem?_eq_some_iff.1 hoi).1; simpa using this
    rw [getD_tf (by omega), (hl i).2 (by omega)] at h0
    cases h0
  | fuel + 1, p, listed, a, w, hk, hp, hsz, hl, h => by
    have hpl : p < L.length := by omega
    have hcl : ∀ i o, listed.getD i false = true → L[i]? = some o → ∀ j ∈ ons o, listed.getD j false = true := fun i o hi ho j hj => (hl j).2 (by have := hons i o ho j hj; have := (hl i).1 hi; omega)
    have hready : ∀ i, i ∈ Region.ready .any L.toArray listed → i = p := fun i hi => by
      obtain ⟨h0, oi, hoi, hed⟩ := mem_ready.1 hi
      have hoi' : L[i]? = some oi := by simpa using hoi
      have hil : i < L.length := (List.getElem?_eq_some_iff.1 hoi').1
      rw [getD_tf (by omega)] at h0
      have hge : ¬ i < p := fun hlt => by rw [(hl i).2 hlt] at h0; cases h0
      rcases Nat.lt_or_ge p i with hlt | hle
      · have := all_ahead (hmk i (by omega) hil) hoi' (onsE hed) hcl p hlt
        exact absurd ((hl p).1 this) (Nat.lt_irrefl _)
      · omega
    have hin : p ∈ Region.ready .any L.toArray listed := mem_ready.2 ⟨by
      rw [getD_tf (by omega)]
      cases hx : listed.getD p false with
      | false => rfl
      | true => exact absurd ((hl p).1 hx) (Nat.lt_irrefl _), L[p], by simp [hpl], fun e he hb => (hl _).2 (hons p L[p] (List.getElem?_eq_getElem hpl) _ (mem_ons he hb))⟩
    refine ⟨fun hr => (by rw [hr] at hin; cases hin), fun i hi => ?_⟩
    obtain rfl := hready i hi
    rw [List.drop_eq_getElem_cons hpl] at h
    simp only [wpList] at h
    have ho : L.toArray[i]? = some L[i] := by simp [hpl]
    unfold wpOp
    simp only [ho]
    have hl' : ∀ j, (listed.setIfInBounds i true).getD j false = true ↔ j < i + 1 := fun j => by
      rw [listed_set, hl]
      omega
    split
    · rename_i hw
      rw [if_pos hw] at h
      exact h.imp (Oper.wp_mono fun a' w' h' => tailM hmk hons fuel (i + 1) _ _ _ (by omega) (by omega) (by simpa using hsz) hl' h') id
    · rename_i hw
      rw [if_neg hw] at h
      exact tailM hmk hons fuel (i + 1) _ _ _ (by omega) (by omega) (by simpa using hsz) hl' h
theorem wpAnyM {P : Program} {L : List Oper} {Q : Exit → Act → World → Prop} {w0 : World} {n k : Nat} {σ : Sg} {Γ : Ctx} (hB : monoB L k = true) (hΓ : ∀ m ∈ Γ, m.i < k ∧ m.ok) (hnd : (Γ.map (·.i)).Nodup) (hM : ∀ j o, j < k → L[j]? = some o → MG P L w0 n σ Γ j o)
    (hK : ∀ γ w', Ext w0 w' → allK γ w' (fun τ => WL P L (fun x a w => x = .normal ∧ Q .normal a w) (L.drop k) n τ w') Γ σ) :
    ∀ (fuel : Nat) (listed : Array Bool) (a : Act) (γ : Nat → Nat) (w : World), MInv L w0 n σ Γ k listed a γ w → listed.toList.countP (fun b => !b) = fuel → wpAny P .any L.toArray (fun x a w => x = .normal ∧ Q .normal a w) fuel listed a w := by
  simp only [monoB, Bool.and_eq_true, decide_eq_true_eq, List.all_eq_true, List.mem_range] at hB
  obtain ⟨⟨⟨⟨hs, hlow⟩, hdst⟩, hkl⟩, hmk0⟩ := hB
  have hmk : ∀ p, k ≤ p → p < L.length → ∀ x, x < p → (mark L (p + 1) ((List.replicate (p + 1) false).set p true)).getD x false = true := fun p h1 h2 x hx => by
    have := hmk0 (p - k) (by omega) x (by omega)
    rwa [show k + (p - k) = p by omega] at this
  have hons : ∀ i o, L[i]? = some o → ∀ j ∈ ons o, j < i := fun i o ho j hj => by
    have h := hlow i (List.getElem?_eq_some_iff.1 ho).1
    rw [ho] at h
    simp only [List.all_eq_true, decide_eq_true_eq] at h
    exact h j hj
  have hdd : ∀ x ∈ Γ, ∀ m ∈ Γ, x.i ≠ m.i → x.d ≠ m.d := by
    have hdx : ∀ x ∈ Γ, dOf L x.i = some x.d := fun x hx => by
      have hxk := (hΓ x hx).1
      have hxl : x.i < L.length := by omega
      obtain ⟨m, hm, _, _, e, hd, _⟩ := (hM x.i L[x.i] hxk (List.getElem?_eq_getElem hxl)).ex
      obtain rfl : m = x := map_inj hnd m hm x hx e
      unfold dOf
      rw [List.getElem?_eq_getElem hxl]
      exact hd
    have lt : ∀ x ∈ Γ, ∀ m ∈ Γ, x.i < m.i → x.d ≠ m.d := fun x hx m hm h e => by
      have h1 := hdst m.i (hΓ m hm).1 x.i h
      rw [hdx x hx, hdx m hm, e] at h1
      simp at h1
    intro x hx m hm hne
    rcases Nat.lt_or_gt_of_ne hne with h | h
    · exact lt x hx m hm h
    · exact fun e => lt m hm x hx h e.symm
  -- what is listed when nothing is ready
  have hall : ∀ (listed : Array Bool), listed.size = L.length → Region.ready .any L.toArray listed = [] → ∀ i, i < L.length → listed.getD i false = true := by
    intro listed hsz hr i
    induction i using Nat.strongRecOn with
    | ind i ih =>
      intro hi
      by_cases hl : listed.getD i false = true
      · exact hl
      · have : i ∈ Region.ready .any L.toArray listed := mem_ready.2 ⟨by
          rw [getD_tf (by omega)]
          simpa using hl, L[i], by simp [hi], fun e he hb => by
          have hlt := hons i L[i] (List.getElem?_eq_getElem hi) _ (mem_ons he hb)
          exact ih _ hlt (by omega)⟩
        rw [hr] at this; cases this
  intro fuel
  induction fuel with
  | zero =>
    intro listed a γ w hI hc
    have hl : ∀ i, i < L.length → listed.getD i false = true := fun i hi => by
      cases hx : listed.getD i false with
      | true => rfl
      | false =>
        have := count_set (l := listed) (i := i) (by rw [getD_tf (by have := hI.size; omega)]; exact hx)
        omega
    obtain ⟨τ, hτ, hF⟩ := allK_fr Γ σ (hK γ w hI.ext) hI.fr (fun m hm => hI.facts m hm (hl m.i (by have := (hΓ m hm).1; omega)))
    have hke : k = L.length := by
      rcases Nat.lt_or_ge k L.length with h | h
      · exact absurd (hI.low k (hl k h)) (Nat.lt_irrefl _)
      · omega
    unfold WL at hF
    exact tailM hmk hons 0 k listed a w (Nat.le_refl _) (by omega) hI.size (fun i => ⟨hI.low i, fun h => hl i (by omega)⟩) (hF a hτ)
  | succ fuel ih =>
    intro listed a γ w hI hc
    by_cases hal : ∀ i, i < k → listed.getD i false = true
    · -- all of the first k are listed
      obtain ⟨τ, hτ, hF⟩ := allK_fr Γ σ (hK γ w hI.ext) hI.fr (fun m hm => hI.facts m hm (hal m.i (hΓ m hm).1))
      unfold WL at hF
      have hcount : fuel + 1 + k = L.length := by
        have hlt : listed.toList = (List.range L.length).map (fun i => decide (i < k)) := by
          refine List.ext_getElem (by simpa using hI.size) fun i h1 h2 => ?_
          simp only [List.getElem_map, List.getElem_range, Array.getElem_toList]
          have h3 : listed.getD i false = listed[i]'(by simpa using h1) := by simp [Array.getD_eq_getD_getElem?, show i < listed.size by simpa using h1]
          by_cases h : i < k
          · have := hal i h
            rw [h3] at this; rw [this]; simp [h]
          · cases hx : listed[i]'(by simpa using h1) with
            | false => simp [h]
            | true => exact absurd (hI.low i (by rw [h3, hx])) h
        rw [hlt] at hc
        have hcnt : ∀ N, k ≤ N → ((List.range N).map fun i => decide (i < k)).countP (fun b => !b) + k = N := by
          intro N
          induction N with
          | zero => intro h; simp at h ⊢; omega
          | succ N ihN =>
            intro h
            rw [List.range_succ, List.map_append, List.countP_append]
            by_cases hN : k ≤ N
            · have := ihN hN
              have e1 : ([N].map fun i => decide (i < k)).countP (fun b => !b) = 1 := by
                simp; omega
              omega
            · obtain rfl : k = N + 1 := by omega
              have h0 : ((List.range N).map fun i => decide (i < N + 1)).countP (fun b => !b) = 0 := by
                rw [List.countP_eq_zero]
                intro b hb
                obtain ⟨i, hi, rfl⟩ := List.mem_map.1 hb
                have := List.mem_range.1 hi
                simp; omega
              rw [h0]; simp
        have := hcnt L.length hkl
        omega
      exact tailM hmk hons (fuel + 1) k listed a w (Nat.le_refl _) hcount hI.size (fun i => ⟨hI.low i, hal i⟩) (hF a hτ)
    · refine ⟨fun hr => absurd (fun i hi => hall listed hI.size hr i (by omega)) hal, fun i hi => ?_⟩
      obtain ⟨hun, o, ho, hed⟩ := mem_ready.1 hi
      have hcs := count_set hun
      have ho' : L[i]? = some o := by simpa using ho
      have hil : i < L.length := (List.getElem?_eq_some_iff.1 ho').1
      have hol := onsE hed
      have hik : i < k := by
        rcases Nat.lt_or_ge i k with h | h
        · exact h
        · exact absurd (fun x hx => all_ahead (hmk i h hil) ho' hol hI.closed x (by omega)) hal
      unfold wpOp
      simp only [ho]
      obtain ⟨m, hm, Δ, hΔ, hmi, hd, hn, hf, hob⟩ := (hM i o hik ho').ex
      have hst : ∀ (w' : World) (v : Value), Ext w w' → m.Φ v (byM γ w i) w' → wpAny P .any L.toArray (fun x a w => x = .normal ∧ Q .normal a w) fuel (listed.setIfInBounds i true) (a.put (some m.d) v) w' := fun w' v hE hΦ =>
        ih _ _ _ _ (hI.step hm hmi ho' hn hf (fun m hm => (hΓ m hm).2) hnd (fun x hx hne => hdd x hx m hm (by rw [hmi]; exact hne)) hE hΦ hol hik) (by omega)
      rcases hob w γ hI.ext a hI.fr (fun j hj x hx e => hI.facts x (hΔ x hx) (by rw [e]; exact hol j hj)) with ⟨hw, hwp⟩ | ⟨hw, hΦ⟩
      · simp only [hw, if_true]
        refine .inl (Oper.wp_mono (fun a' w' h' => ?_) (wp_exits (fun e a w _ hf => hf.elim) hwp))
        obtain ⟨hE, v, rfl, hΦ⟩ := h'
        exact hst w' v hE hΦ
      · simp only [hw, Bool.false_eq_true, if_false]
        rw [hd]
        exact hst w undef (Ext.refl w) hΦ
section
variable {P : Program} {Q : Exit → Act → World → Prop} {n : Nat} {σ : Sg} {w : World} {L : List Oper}
/-- behind the walk of the first ones: the tail -/
def FinM (P : Program) (L : List Oper) (Q : Exit → Act → World → Prop) (n : Nat) (σ : Sg) (w : World) (T : List Oper) : Ctx → Prop :=
  fun Γ => ∀ γ w', Ext w w' → allK γ w' (fun τ => WL P L (fun x a w => x = .normal ∧ Q .normal a w) T n τ w') Γ σ
/-- a drawn region: the first k operations only make new memory, the others stand in one order behind them -/
theorem CW.drawM {id : Nat} (k : Nat) (hm : P.follows .mixedOrders = true) (hB : monoB L k = true) (h : ML P L (drew w) n σ (FinM P L Q n σ (drew w) (L.drop k)) 0 [] (L.take k)) : CW P (.region id L.toArray true) Q n σ w := by
  unfold CW
  intro a ha
  have hkl : k ≤ L.length := by
    simp only [monoB, Bool.and_eq_true, decide_eq_true_eq] at hB
    exact hB.1.2
  obtain ⟨Γ, g1, _, g3, g4, g5⟩ := ML_get _ _ _ h (fun m hm => by cases hm) List.Pairwise.nil
  have h1 := wpAnyM (P := P) (Q := Q) (w0 := drew w) hB (fun m hm => by have := g3 m hm; simp only [List.length_take, Nat.zero_add] at this; exact ⟨by omega, this.2⟩) g4 (fun j o hj ho => by
    have := g5 j o (by rw [List.getElem?_take_of_lt hj]; exact ho)
    rwa [Nat.zero_add] at this) g1 L.length (Array.replicate L.length false) a (fun _ => 0) (drew w) ⟨by simp, ha, Ext.refl _, fun m hm hl => by
      exfalso; simp [Array.getD_eq_getD_getElem?, Array.getElem?_replicate] at hl; split at hl <;> simp at hl, fun i o hl => by
      exfalso; simp [Array.getD_eq_getD_getElem?, Array.getElem?_replicate] at hl; split at hl <;> simp at hl, fun i hl => by
      exfalso; simp [Array.getD_eq_getD_getElem?, Array.getElem?_replicate] at hl; split at hl <;> simp at hl⟩ (by simp [List.countP_replicate])
  have h2 : (Code.region id L.toArray true).wp P (fun x a w => x = .normal ∧ Q .normal a w) a w := wp_region_any hm (by simpa using h1)
  exact wp_mono h2 (fun e a' w' ⟨he, hq⟩ => by subst he; exact hq)
theorem ML.nil {w0 : World} {K : Ctx → Prop} {i : Nat} {Γ : Ctx} (h : K Γ) : ML P L w0 n σ K i Γ [] := h
end
end Go.Proofs.Ytllpfgcngokhnaa
/-
  Orders of drawn regions, checked with marks in one number: for long regions. Over any program.
-/
set_option linter.unusedVariables false
set_option linter.unusedSimpArgs false
namespace Go.Proofs.Ytllpfgcngokhnaa
open Go.RowKit

def bt (m j : Nat) : Bool := Nat.beq (Nat.land (Nat.shiftRight m j) 1) 1
theorem bt_eq (m j : Nat) : bt m j = m.testBit j := by
  unfold bt
  have h1 : Nat.land (Nat.shiftRight m j) 1 = (m >>> j) &&& 1 := rfl
  rw [h1, Nat.testBit_eq_decide_div_mod_eq, Nat.and_one_is_mod, Nat.shiftRight_eq_div_pow]
  by_cases h : m / 2 ^ j % 2 = 1
  · rw [decide_eq_true h, h]; rfl
  · rw [decide_eq_false h]
    have : m / 2 ^ j % 2 = 0 := by omega
    rw [this]; rfl
/-- what an operation waits for -/
def emask : List Edge → Nat
  | [] => 0
  | e :: r => match Region.binds .any e with
    | true => Nat.lor (Nat.shiftLeft 1 e.on) (emask r)
    | false => emask r
theorem emask_bit {j : Nat} : ∀ {l : List Edge}, (emask l).testBit j = true ↔ ∃ e ∈ l, Region.binds .any e = true ∧ e.on = j
  | [] => by simp [emask]
  | e :: r => by
    have ih := emask_bit (j := j) (l := r)
    unfold emask
    split
    · rename_i hb
      show ((1 <<< e.on) ||| emask r).testBit j = true ↔ _
      rw [Nat.testBit_or, Bool.or_eq_true, ih]
      have h1 : (1 <<< e.on).testBit j = decide (e.on = j) := by
        rw [Nat.one_shiftLeft, Nat.testBit_two_pow]
      rw [h1]
      simp [hb]
    · rename_i hb
      rw [ih]
      simp [hb]
def masks (L : List Oper) : List Nat := L.map fun o => emask o.after.toList
def sub1 (m M : Nat) : Bool := Nat.beq (Nat.land m M) m
theorem sub1_iff {m M : Nat} : sub1 m M = true ↔ ∀ j, m.testBit j = true → M.testBit j = true := by
  unfold sub1
  rw [Nat.beq_eq]
  show m &&& M = m ↔ _
  constructor
  · intro h j hj
    have := congrArg (fun x => x.testBit j) h
    simp only [Nat.testBit_and, hj, Bool.true_and] at this
    exact this
  · intro h
    refine Nat.eq_of_testBit_eq fun j => ?_
    rw [Nat.testBit_and]
    cases hj : m.testBit j with
    | false => rfl
    | true => rw [h j hj]; rfl
def nthM : List Nat → Nat → Nat
  | [], _ => 0
  | m :: _, 0 => m
  | _ :: r, i + 1 => nthM r i
/-- none but i is ready -/
def alone (i M : Nat) : Nat → List Nat → Bool
  | _, [] => true
  | j, m :: r => match Nat.beq j i with
    | true => alone i M (j + 1) r
    | false => match bt M j with
      | true => alone i M (j + 1) r
      | false => match sub1 m M with
        | true => false
        | false => alone i M (j + 1) r
/-- none is ready -/
def nonF (M : Nat) : Nat → List Nat → Bool
  | _, [] => true
  | j, m :: r => match bt M j with
      | true => nonF M (j + 1) r
      | false => match sub1 m M with
        | true => false
        | false => nonF M (j + 1) r
def free1 (ops : Array Oper) (oi o : Oper) (i M j m : Nat) : Bool := match Nat.beq j i with
  | true => true
  | false => match bt M j with
    | true => true
    | false => match bt m i with
      | true => true
      | false => oi.apart ops o
def freeF (ops : Array Oper) (oi : Oper) (i M : Nat) : Nat → List Nat → List Oper → Bool
  | _, [], _ => true
  | j, m :: r, l => match l with
    | [] => true
    | o :: s => match free1 ops oi o i M j m with
      | true => freeF ops oi i M (j + 1) r s
      | false => false
def ordF (L : List Oper) (ms : List Nat) : List (Nat × Bool) → Nat → Bool
  | [], M => nonF M 0 ms
  | (i, true) :: r, M => match bt M i with
    | true => false
    | false => match sub1 (nthM ms i) M with
      | false => false
      | true => match nthO L i with
        | none => false
        | some oi => match freeF L.toArray oi i M 0 ms L with
          | false => false
          | true => ordF L ms r (Nat.lor (Nat.shiftLeft 1 i) M)
  | (i, false) :: r, M => match bt M i with
    | true => false
    | false => match sub1 (nthM ms i) M with
      | false => false
      | true => match nthO L i with
        | none => false
        | some _ => match alone i M 0 ms with
          | false => false
          | true => ordF L ms r (Nat.lor (Nat.shiftLeft 1 i) M)
/- WHAT IT SAYS -/
structure Mk1 (L : List Oper) (listed : Array Bool) (M : Nat) : Prop where
  size : listed.size = L.length
  bit : ∀ j, listed.getD j false = M.testBit j
section
variable {L : List Oper} {listed : Array Bool} {M i : Nat}
theorem Mk1.put (h : Mk1 L listed M) (hi : i < L.length) : Mk1 L (listed.setIfInBounds i true) (Nat.lor (Nat.shiftLeft 1 i) M) := by
  refine ⟨by simpa using h.size, fun j => ?_⟩
  have e : Nat.lor (Nat.shiftLeft 1 i) M = (1 <<< i) ||| M := rfl
  rw [e, Nat.testBit_or, Nat.one_shiftLeft, Nat.testBit_two_pow]
  by_cases hj : i = j
  · subst hj
    have := h.size
    simp [Array.getD_eq_getD_getElem?, show i < listed.size by omega]
  · rw [decide_eq_false hj, Bool.false_or, ← h.bit j]
    simp only [Array.getD_eq_getD_getElem?]
    rw [Array.getElem?_setIfInBounds_ne hj]
theorem masks_nth {o : Oper} : ∀ {L : List Oper} {i : Nat}, L[i]? = some o → nthM (masks L) i = emask o.after.toList
  | o' :: r, 0, h => by simp at h; subst h; rfl
  | o' :: r, i + 1, h => by
    have : r[i]? = some o := by simpa using h
    exact masks_nth (L := r) this
/-- ready, by marks -/
theorem Mk1.ready (h : Mk1 L listed M) {j : Nat} : j ∈ Region.ready .any L.toArray listed ↔ ∃ o, L[j]? = some o ∧ M.testBit j = false ∧ sub1 (emask o.after.toList) M = true := by
  rw [mem_ready]
  constructor
  · rintro ⟨h0, o, ho, he⟩
    have ho' : L[j]? = some o := by simpa using ho
    have hj : j < L.length := (List.getElem?_eq_some_iff.1 ho').1
    refine ⟨o, ho', ?_, sub1_iff.2 fun k hk => ?_⟩
    · rw [← h.bit, ← h0]
      have := h.size
      simp [Array.getD_eq_getD_getElem?, show j < listed.size by omega]
    · obtain ⟨e, h1, h2, rfl⟩ := emask_bit.1 hk
      rw [← h.bit]
      exact he e (by simpa using h1) h2
  · rintro ⟨o, ho, h0, hs⟩
    have hj : j < L.length := (List.getElem?_eq_some_iff.1 ho).1
    refine ⟨?_, o, by simpa using ho, fun e he hb => ?_⟩
    · have h1 := h.bit j
      rw [h0] at h1
      have := h.size
      simpa [Array.getD_eq_getD_getElem?, show j < listed.size by omega] using h1
    · rw [h.bit]
      exact sub1_iff.1 hs _ (emask_bit.2 ⟨e, by simpa using he, hb, rfl⟩)
theorem nonF_sound : ∀ (ms : List Nat) (j : Nat), nonF M j ms = true → ∀ k m, ms[k]? = some m → M.testBit (j + k) = false → sub1 m M = false
  | m :: r, j, h, 0, m', hk, hb => by
    simp at hk; subst hk
    unfold nonF at h
    rw [bt_eq, show M.testBit j = false by simpa using hb] at h
    simp only at h
    cases hs : sub1 m M with
    | false => rfl
    | true => rw [hs] at h; cases h
  | m :: r, j, h, k + 1, m', hk, hb => by
    have hr : nonF M (j + 1) r = true := by
      unfold nonF at h
      split at h
      · exact h
      · split at h
        · cases h
        · exact h
    exact nonF_sound r (j + 1) hr k m' (by simpa using hk) (by rw [show j + 1 + k = j + (k + 1) by omega]; exact hb)
theorem alone_sound : ∀ (ms : List Nat) (j : Nat), alone i M j ms = true → ∀ k m, ms[k]? = some m → j + k ≠ i → M.testBit (j + k) = false → sub1 m M = false
  | m :: r, j, h, 0, m', hk, hne, hb => by
    simp at hk; subst hk
    unfold alone at h
    have hji : Nat.beq j i = false := by
      cases e : Nat.beq j i with
      | false => rfl
      | true => exact absurd (Nat.eq_of_beq_eq_true e) (by simpa using hne)
    rw [hji, bt_eq, show M.testBit j = false by simpa using hb] at h
    simp only at h
    cases hs : sub1 m M with
    | false => rfl
    | true => rw [hs] at h; cases h
  | m :: r, j, h, k + 1, m', hk, hne, hb => by
    have hr : alone i M (j + 1) r = true := by
      unfold alone at h
      split at h
      · exact h
      · split at h
        · exact h
        · split at h
          · cases h
          · exact h
    exact alone_sound r (j + 1) hr k m' (by simpa using hk) (by omega) (by rw [show j + 1 + k = j + (k + 1) by omega]; exact hb)
theorem free1_sound {ops : Array Oper} {oi o : Oper} {j m : Nat} (h : free1 ops oi o i M j m = true) (hne : j ≠ i) (hb : M.testBit j = false) : m.testBit i = true ∨ oi.apart ops o = true := by
  unfold free1 at h
  rw [beq_ne hne, bt_eq, hb] at h
  simp only at h
  rw [bt_eq] at h
  cases hm : m.testBit i with
  | true => exact .inl rfl
  | false => rw [hm] at h; exact .inr h
theorem freeF_sound {ops : Array Oper} {oi : Oper} (ms : List Nat) : ∀ (l : List Oper) (j : Nat), freeF ops oi i M j ms l = true → ms.length = l.length → ∀ k m o, ms[k]? = some m → l[k]? = some o → j + k ≠ i → M.testBit (j + k) = false → m.testBit i = true ∨ oi.apart ops o = true := by
  induction ms with
  | nil => intro l j h hl k m o hk; simp at hk
  | cons m r ih =>
    intro l j h hl k m' o' hk ho hne hb
    cases l with
    | nil => simp at ho
    | cons o s =>
      rw [freeF] at h
      have h1 : free1 ops oi o i M j m = true ∧ freeF ops oi i M (j + 1) r s = true := by
        revert h
        cases free1 ops oi o i M j m with
        | true => exact fun h => ⟨rfl, h⟩
        | false => exact fun h => by cases h
      cases k with
      | zero =>
        simp at hk ho; subst hk ho
        exact free1_sound h1.1 (by simpa using hne) (by simpa using hb)
      | succ k => exact ih s (j + 1) h1.2 (by simpa using hl) k m' o' (by simpa using hk) (by simpa using ho) (by omega) (by rw [show j + 1 + k = j + (k + 1) by omega]; exact hb)
theorem masks_get {k : Nat} : (masks L)[k]? = (L[k]?).map fun o => emask o.after.toList := by unfold masks; rw [List.getElem?_map]
theorem ordF_sound : ∀ (ord : List (Nat × Bool)) (listed : Array Bool) (M : Nat), Mk1 L listed M → ordF L (masks L) ord M = true → ordB L.toArray ord listed = true
  | [], listed, M, h, hB => by
    unfold ordB
    rw [List.isEmpty_iff]
    refine List.eq_nil_iff_forall_not_mem.2 fun j hj => ?_
    obtain ⟨o, ho, h0, hs⟩ := h.ready.1 hj
    have := nonF_sound (masks L) 0 hB j _ (by rw [masks_get, ho]; rfl) (by rw [Nat.zero_add]; exact h0)
    rw [this] at hs; cases hs
  | (i, true) :: r, listed, M, h, hB => by
    unfold ordF at hB
    split at hB
    · cases hB
    rename_i hb
    split at hB
    · cases hB
    rename_i hs
    split at hB
    · cases hB
    rename_i oi hoi
    split at hB
    · cases hB
    rename_i hf
    rw [nthO_eq] at hoi
    rw [bt_eq] at hb
    rw [masks_nth hoi] at hs
    have hi : i < L.length := (List.getElem?_eq_some_iff.1 hoi).1
    unfold ordB
    rw [Bool.and_eq_true, Bool.and_eq_true]
    refine ⟨⟨?_, ?_⟩, ordF_sound r _ _ (h.put hi) hB⟩
    · rw [List.contains_iff_mem]
      exact h.ready.2 ⟨oi, hoi, hb, hs⟩
    · unfold Region.free
      have hoi' : L.toArray[i]? = some oi := by simpa using hoi
      rw [hoi']
      simp only [List.all_eq_true, List.mem_range, Bool.or_eq_true, beq_iff_eq]
      intro j hj
      have hj' : j < L.length := by simpa using hj
      by_cases hji : j = i
      · exact .inl (.inl hji)
      by_cases hl : listed.getD j true = true
      · exact .inl (.inr hl)
      refine .inr ?_
      have hsz := h.size
      have hjb : M.testBit j = false := by
        rw [← h.bit]
        simpa [Array.getD_eq_getD_getElem?, show j < listed.size by omega] using hl
      have hoj : L.toArray[j]? = some L[j] := by simp [hj']
      rw [hoj]
      simp only [Bool.or_eq_true]
      rcases freeF_sound (masks L) L 0 hf (by simp [masks]) j _ L[j] (by rw [masks_get, List.getElem?_eq_getElem hj']; rfl) (List.getElem?_eq_getElem hj') (by omega) (by rw [Nat.zero_add]; exact hjb) with h1 | h1
      · obtain ⟨e, h2, h3, h4⟩ := emask_bit.1 h1
        left
        rw [Array.any_eq_true']
        exact ⟨e, by simpa using h2, by simp [h3, h4]⟩
      · exact .inr h1
  | (i, false) :: r, listed, M, h, hB => by
    unfold ordF at hB
    split at hB
    · cases hB
    rename_i hb
    split at hB
    · cases hB
    rename_i hs
    split at hB
    · cases hB
    rename_i oi hoi
    split at hB
    · cases hB
    rename_i hf
    rw [nthO_eq] at hoi
    rw [bt_eq] at hb
    rw [masks_nth hoi] at hs
    have hi : i < L.length := (List.getElem?_eq_some_iff.1 hoi).1
    unfold ordB
    rw [Bool.and_eq_true]
    refine ⟨?_, ordF_sound r _ _ (h.put hi) hB⟩
    rw [decide_eq_true_eq]
    -- just i is ready
    have hmem : ∀ j, j ∈ Region.ready .any L.toArray listed ↔ j = i := fun j => by
      rw [h.ready]
      constructor
      · rintro ⟨o, ho, h0, h1⟩
        rcases Nat.decEq j i with hne | e
        · have := alone_sound (masks L) 0 hf j _ (by rw [masks_get, ho]; rfl) (by omega) (by rw [Nat.zero_add]; exact h0)
          rw [this] at h1; cases h1
        · exact e
      · rintro rfl; exact ⟨oi, hoi, hb, hs⟩
    have hnd : (Region.ready .any L.toArray listed).Nodup := List.Nodup.sublist List.filter_sublist List.nodup_range
    generalize Region.ready .any L.toArray listed = rs at hmem hnd
    match rs, hmem, hnd with
    | [], hmem, _ => exact absurd ((hmem i).2 rfl) (by simp)
    | [x], hmem, _ => rw [(hmem x).1 (by simp)]
    | x :: y :: s, hmem, hnd =>
      have h1 := (hmem x).1 (by simp)
      have h2 := (hmem y).1 (by simp)
      rw [h1, h2] at hnd
      simp at hnd
end
section
variable {P : Program} {Q : Exit → Act → World → Prop} {n : Nat} {σ : Sg} {w : World} {L : List Oper}
theorem CW.drawF {id : Nat} (S : World → Prop) (ms : List Nat) (ord : List (Nat × Bool)) (hm : P.follows .mixedOrders = true) (hsel : Region.noSelect L.toArray = true) (hms : masks L = ms) (hlen : Nat.beq ord.length L.length = true) (hB : ordF L ms ord 0 = true) (hS : S (drew w)) (h : HL P L S Q ord n σ (drew w)) : CW P (.region id L.toArray true) Q n σ w := by
  subst hms
  refine CW.drawH S ord hm ?_ hS h
  unfold ordOk
  rw [Bool.and_eq_true, Bool.and_eq_true, decide_eq_true_eq]
  exact ⟨⟨hsel, Nat.eq_of_beq_eq_true hlen⟩, ordF_sound ord _ 0 ⟨by simp, fun j => by simp [Array.getD_eq_getD_getElem?, Array.getElem?_replicate]; split <;> rfl⟩ hB⟩
end
end Go.Proofs.Ytllpfgcngokhnaa
/-
  Drawn regions with a turning point: what holds of the memory until operation c comes, and what holds throughout. Some reads must come ahead of c, others may come behind it. Over any program.
-/
set_option linter.unusedVariables false
set_option linter.unusedSimpArgs false
namespace Go.Proofs.Ytllpfgcngokhnaa
open Go.RowKit

/-- whatever order comes, a condition holds behind each operation; it may look at what has come -/
def wpAnyG (P : Program) (ops : Array Oper) (Q : Exit → Act → World → Prop) (S : Array Bool → World → Prop) : Nat → Array Bool → Act → World → Prop
  | 0, listed, a, w => Region.ready .any ops listed = [] ∧ Q .normal a w
  | fuel + 1, listed, a, w =>
    (Region.ready .any ops listed = [] → Q .normal a w) ∧
    ∀ i ∈ Region.ready .any ops listed, wpOp P ops Q i (fun a' w' => S (listed.setIfInBounds i true) w' ∧ wpAnyG P ops Q S fuel (listed.setIfInBounds i true) a' w') a w
section
variable {P : Program} {ops : Array Oper} {Q : Exit → Act → World → Prop} {S : Array Bool → World → Prop}
theorem wpAny_of_G : ∀ (fuel : Nat) (listed : Array Bool) (a : Act) (w : World), wpAnyG P ops Q S fuel listed a w → wpAny P .any ops Q fuel listed a w
  | 0, _, _, _, h => h
  | fuel + 1, _, _, _, h => ⟨h.1, fun i hi => wpOp_mono (fun a' w' h' => wpAny_of_G fuel _ a' w' h'.2) (h.2 i hi)⟩
theorem wpAnyG_first {i : Nat} {oi : Oper} {v : Value} (hi : ops[i]? = some oi) (hsel : ∀ (j : Nat) (o : Oper) cs b, ops[j]? = some o → o.op ≠ .select cs b)
    (hQ : ∀ c a w, Q (.panic c) (a.put oi.dst v) w → Q (.panic c) a w) (Rch : Array Bool → Prop) (hR : ∀ L j, Rch L → j ≠ i → j ∈ Region.ready .any ops L → Rch (L.setIfInBounds j true))
    (hSi : ∀ L w, S (L.setIfInBounds i true) w ↔ S L w) :
    ∀ (fuel : Nat) (listed : Array Bool) (a : Act) (w : World), Rch listed →
      (∀ j oj, ops[j]? = some oj → j ≠ i → listed.getD j true = false → (∀ e ∈ oj.after, Region.binds .any e = true → e.on ≠ i) → oi.apart ops oj = true) →
      i ∈ Region.ready .any ops listed → YieldsIf P ops (fun w => ∃ L, Rch L ∧ S L w) oi v a → S listed w →
      wpAnyG P ops Q S fuel (listed.setIfInBounds i true) (a.put oi.dst v) w → wpAnyG P ops Q S (fuel + 1) listed a w := by
  intro fuel
  induction fuel with
  | zero =>
    intro listed a w hRl _ hr hy hS H
    refine ⟨fun h => (by rw [h] at hr; cases hr), fun j hj => ?_⟩
    by_cases hji : j = i
    · subst hji; exact hy.wpOp hi ⟨listed, hRl, hS⟩ ⟨(hSi _ _).2 hS, H⟩
    · have := ready_mono hj hji
      rw [H.1] at this
      cases this
  | succ fuel ih =>
    intro listed a w hRl hfree hr hy hS H
    refine ⟨fun h => (by rw [h] at hr; cases hr), fun j hj => ?_⟩
    by_cases hji : j = i
    · subst hji; exact hy.wpOp hi ⟨listed, hRl, hS⟩ ⟨(hSi _ _).2 hS, H⟩
    · have h1 := H.2 j (ready_mono hj hji)
      obtain ⟨hjun, oj, hoj, hall⟩ := mem_ready.1 hj
      have hnot : ∀ e ∈ oj.after, Region.binds .any e = true → e.on ≠ i := fun e he hb heq => by
        have h1 := hall e he hb
        have h0 := (mem_ready.1 hr).1
        rw [heq] at h1
        rcases Nat.lt_or_ge i listed.size with h' | h'
        · simp [h'] at h0 h1; rw [h0] at h1; cases h1
        · simp [Array.getElem?_eq_none h'] at h1
      have h2 := wpOp_putIf hoj (hfree j oj hoj hji hjun hnot) (fun cs b => hsel i oi cs b hi) (fun cs b => hsel j oj cs b hoj) hQ hy h1
      have hfree' : ∀ k ok, ops[k]? = some ok → k ≠ i → (listed.setIfInBounds j true).getD k true = false →
          (∀ e ∈ ok.after, Region.binds .any e = true → e.on ≠ i) → oi.apart ops ok = true := fun k ok hk hki hun hno => by
        refine hfree k ok hk hki ?_ hno
        by_cases hjk : j = k
        · subst hjk; exact hjun
        · rw [getD_set_ne true hjk] at hun; exact hun
      refine wpOp_mono (fun a' w' h3 => ?_) h2
      have hcm : (listed.setIfInBounds i true).setIfInBounds j true = (listed.setIfInBounds j true).setIfInBounds i true := Array.setIfInBounds_comm _ _ (Ne.symm hji)
      rw [hcm] at h3
      have hS' := (hSi _ _).1 h3.2.1
      exact ⟨hS', ih (listed.setIfInBounds j true) a' w' (hR _ _ hRl hji hj) hfree' (ready_mono hr (Ne.symm hji)) h3.1 hS' h3.2.2⟩
end

/- THE TURNING POINT -/
structure Cls (L : List Oper) (l : Array Bool) : Prop where
  size : l.size = L.length
  cl : ∀ k o, l.getD k false = true → L[k]? = some o → ∀ j ∈ ons o, l.getD j false = true
theorem Cls.put {L : List Oper} {l : Array Bool} (h : Cls L l) {j : Nat} (hj : j ∈ Region.ready .any L.toArray l) : Cls L (l.setIfInBounds j true) := by
  obtain ⟨_, o, ho, he⟩ := mem_ready.1 hj
  have ho' : L[j]? = some o := by simpa using ho
  refine ⟨by simpa using h.size, fun k o' hk ho2 x hx => ?_⟩
  refine listed_set.2 (.inr ?_)
  rcases listed_set.1 hk with ⟨rfl, _⟩ | hk
  · rw [ho'] at ho2; cases ho2
    exact onsE he x hx
  · exact h.cl k o' hk ho2 x hx
/-- c: the turning point; e: the operation that comes last of all (or none, where e is out of range), behind which nothing is asked -/
def SG (c e : Nat) (Sw Ss : World → Prop) : Array Bool → World → Prop := fun l w => l.getD e false = false → Sw w ∧ (l.getD c false = false → Ss w)
theorem getD_setne {l : Array Bool} {i c : Nat} (hne : i ≠ c) : (l.setIfInBounds i true).getD c false = l.getD c false := by
  simp only [Array.getD_eq_getD_getElem?]
  rw [Array.getElem?_setIfInBounds_ne hne]
theorem SG_set {c e i : Nat} (hne : i ≠ c) (hne2 : i ≠ e) {Sw Ss : World → Prop} (l : Array Bool) (w : World) : SG c e Sw Ss (l.setIfInBounds i true) w ↔ SG c e Sw Ss l w := by
  unfold SG
  rw [getD_setne hne, getD_setne hne2]
def behind (L : List Oper) (c i : Nat) : Bool := (mark L (c + 1) ((List.replicate (c + 1) false).set c true)).getD i false
theorem behind_sound {L : List Oper} {l : Array Bool} {c i : Nat} (h : behind L c i = true) (hC : Cls L l) (hi : l.getD i false = false) : l.getD c false = false := by
  cases hcx : l.getD c false with
  | false => rfl
  | true =>
    have := mark_sound (L := L) (S := fun x => l.getD x false = true) (fun x o hx ho j hj => hC.cl x o hx ho j hj) (c + 1) ((List.replicate (c + 1) false).set c true) (fun x hx => by
      by_cases e : c = x
      · subst e; exact hcx
      · exfalso
        simp [List.getD_eq_getElem?_getD, List.getElem?_set, e, List.getElem?_replicate] at hx
        split at hx <;> simp at hx) i h
    rw [hi] at this; cases this
/-- 0: taken alone; 1: free, whatever holds throughout; 2: free, ahead of c; 3: the last -/
def ordP (L : List Oper) (c e : Nat) : List (Nat × Nat) → Array Bool → Bool
  | [], listed => (Region.ready .any L.toArray listed).isEmpty
  | (i, k) :: r, listed => match k with
    | 0 => decide (Region.ready .any L.toArray listed = [i]) && decide (i ≠ e) && ordP L c e r (listed.setIfInBounds i true)
    | 1 => (Region.ready .any L.toArray listed).contains i && Region.free .any L.toArray listed i && decide (i ≠ c) && decide (i ≠ e) && (decide (L.length ≤ e) || behind L e i) && ordP L c e r (listed.setIfInBounds i true)
    | 2 => (Region.ready .any L.toArray listed).contains i && Region.free .any L.toArray listed i && decide (i ≠ c) && decide (i ≠ e) && (decide (L.length ≤ e) || behind L e i) && behind L c i && ordP L c e r (listed.setIfInBounds i true)
    | _ => decide (Region.ready .any L.toArray listed = [i]) && decide (i = e) && ordP L c e r (listed.setIfInBounds i true)
def wpHP (P : Program) (ops : List Oper) (c e : Nat) (Sw Ss : World → Prop) (Q : Act → World → Prop) : Bool → List (Nat × Nat) → Act → World → Prop
  | _, [], a, w => Q a w
  | ph, (i, k) :: r, a, w => match k with
    | 0 => ∃ o, ops[i]? = some o ∧ (if Region.wanted o (yielded ops.toArray a.tmps) = true then o.wp P a w (fun a' w' => Sw w' ∧ ((ph || Nat.beq i c) = false → Ss w') ∧ wpHP P ops c e Sw Ss Q (ph || Nat.beq i c) r a' w') (fun e a w => e = .normal ∧ Q a w) else Sw w ∧ ((ph || Nat.beq i c) = false → Ss w) ∧ wpHP P ops c e Sw Ss Q (ph || Nat.beq i c) r (a.put o.dst undef) w)
    | 1 => ∃ o v, ops[i]? = some o ∧ YieldsIf P ops.toArray Sw o v a ∧ wpHP P ops c e Sw Ss Q ph r (a.put o.dst v) w
    | 2 => ∃ o v, ops[i]? = some o ∧ YieldsIf P ops.toArray Ss o v a ∧ wpHP P ops c e Sw Ss Q ph r (a.put o.dst v) w
    | _ => r = [] ∧ ∃ o, ops[i]? = some o ∧ (if Region.wanted o (yielded ops.toArray a.tmps) = true then o.wp P a w Q (fun e a w => e = .normal ∧ Q a w) else Q (a.put o.dst undef) w)
theorem yif_wk {P : Program} {ops : Array Oper} {S S' : World → Prop} {o : Oper} {v : Value} {a : Act} (h : YieldsIf P ops S o v a) (hS : ∀ w, S' w → S w) : YieldsIf P ops S' o v a :=
  h.imp (fun ⟨h1, h2⟩ => ⟨h1, fun w hw => h2 w (hS w hw)⟩) id
theorem wpHP_sound {P : Program} {L : List Oper} {c e : Nat} {Sw Ss : World → Prop} {Q : Act → World → Prop} (hs : Region.noSelect L.toArray = true) :
    ∀ (ord : List (Nat × Nat)) (ph : Bool) (listed : Array Bool) (a : Act) (w : World), ordP L c e ord listed = true → Cls L listed → (listed.getD c false = ph) → SG c e Sw Ss listed w → wpHP P L c e Sw Ss Q ph ord a w →
      wpAnyG P L.toArray (fun e a w => e = .normal ∧ Q a w) (SG c e Sw Ss) ord.length listed a w
  | [], ph, listed, a, w, hB, _, _, _, h => by
    simp only [ordP, List.isEmpty_iff] at hB
    exact ⟨hB, rfl, h⟩
  | (i, 0) :: r, ph, listed, a, w, hB, hC, hph, hS, ⟨o, ho, h⟩ => by
    simp only [ordP, Bool.and_eq_true, decide_eq_true_eq] at hB
    obtain ⟨⟨hB1, _⟩, hB2⟩ := hB
    have hin : i ∈ Region.ready .any L.toArray listed := by rw [hB1]; simp
    have hC' := hC.put hin
    have hil : i < L.length := (List.getElem?_eq_some_iff.1 ho).1
    have hph' : (listed.setIfInBounds i true).getD c false = (ph || Nat.beq i c) := by
      cases e : Nat.beq i c with
      | true =>
        obtain rfl := Nat.eq_of_beq_eq_true e
        have := hC.size
        simp [Array.getD_eq_getD_getElem?, show i < listed.size by omega]
      | false =>
        have hne : i ≠ c := fun h => by subst h; rw [Nat.beq_refl] at e; cases e
        rw [getD_setne hne, hph, Bool.or_false]
    refine ⟨fun h0 => (by rw [h0] at hin; cases hin), fun j hj => ?_⟩
    rw [hB1, List.mem_singleton] at hj
    subst hj
    have ho' : L.toArray[j]? = some o := by simpa using ho
    unfold wpOp
    simp only [ho']
    split
    · rename_i hw
      rw [if_pos hw] at h
      exact .inl (Oper.wp_mono (fun a' w' h' => ⟨fun _ => ⟨h'.1, fun hx => h'.2.1 (hph' ▸ hx)⟩, wpHP_sound hs r _ _ _ _ hB2 hC' hph' (fun _ => ⟨h'.1, fun hx => h'.2.1 (hph' ▸ hx)⟩) h'.2.2⟩) h)
    · rename_i hw
      rw [if_neg hw] at h
      exact ⟨fun _ => ⟨h.1, fun hx => h.2.1 (hph' ▸ hx)⟩, wpHP_sound hs r _ _ _ _ hB2 hC' hph' (fun _ => ⟨h.1, fun hx => h.2.1 (hph' ▸ hx)⟩) h.2.2⟩
  | (i, 1) :: r, ph, listed, a, w, hB, hC, hph, hS, ⟨o, v, ho, hy, h⟩ => by
    simp only [ordP, Bool.and_eq_true, decide_eq_true_eq, Bool.or_eq_true] at hB
    obtain ⟨⟨⟨⟨⟨h1, h2⟩, hne⟩, hne2⟩, hbe⟩, h3⟩ := hB
    have hin : i ∈ Region.ready .any L.toArray listed := by simpa using h1
    have ho' : L.toArray[i]? = some o := by simpa using ho
    have hph' : (listed.setIfInBounds i true).getD c false = ph := by rw [getD_setne hne]; exact hph
    have hil : i < L.length := (List.getElem?_eq_some_iff.1 ho).1
    have hun : listed.getD i false = false := by
      have := (mem_ready.1 hin).1
      have hsz := hC.size
      rw [getD_tf (by omega)] at this
      simpa using this
    have hend : ∀ l : Array Bool, Cls L l → l.getD i false = false → l.getD e false = false := fun l hl hi => hbe.elim (fun h => by
      have := hl.size
      simp [Array.getD_eq_getD_getElem?, Array.getElem?_eq_none (show l.size ≤ e by omega)]) (fun h => behind_sound h hl hi)
    exact wpAnyG_first ho' (Region.noSelect_spec hs) (fun _ _ _ h => by cases h.1) (fun l => Cls L l ∧ l.getD i false = false) (fun l j hl hne3 hj => ⟨hl.1.put hj, by rw [getD_setne hne3]; exact hl.2⟩) (fun l w => SG_set hne hne2 l w) r.length listed a w ⟨hC, hun⟩ (Region.free_spec ho' h2) hin
      (yif_wk hy fun w ⟨l, hl, hw⟩ => (hw (hend l hl.1 hl.2)).1) hS (wpHP_sound hs r ph _ _ _ h3 (hC.put hin) hph' ((SG_set hne hne2 _ _).2 hS) h)
  | (i, 2) :: r, ph, listed, a, w, hB, hC, hph, hS, ⟨o, v, ho, hy, h⟩ => by
    simp only [ordP, Bool.and_eq_true, decide_eq_true_eq, Bool.or_eq_true] at hB
    obtain ⟨⟨⟨⟨⟨⟨h1, h2⟩, hne⟩, hne2⟩, hbe⟩, hmk⟩, h3⟩ := hB
    have hin : i ∈ Region.ready .any L.toArray listed := by simpa using h1
    have ho' : L.toArray[i]? = some o := by simpa using ho
    have hph' : (listed.setIfInBounds i true).getD c false = ph := by rw [getD_setne hne]; exact hph
    have hil : i < L.length := (List.getElem?_eq_some_iff.1 ho).1
    have hun : listed.getD i false = false := by
      have := (mem_ready.1 hin).1
      have hsz := hC.size
      rw [getD_tf (by omega)] at this
      simpa using this
    have hend : ∀ l : Array Bool, Cls L l → l.getD i false = false → l.getD e false = false := fun l hl hi => hbe.elim (fun h => by
      have := hl.size
      simp [Array.getD_eq_getD_getElem?, Array.getElem?_eq_none (show l.size ≤ e by omega)]) (fun h => behind_sound h hl hi)
    exact wpAnyG_first ho' (Region.noSelect_spec hs) (fun _ _ _ h => by cases h.1) (fun l => Cls L l ∧ l.getD i false = false) (fun l j hl hne3 hj => ⟨hl.1.put hj, by rw [getD_setne hne3]; exact hl.2⟩) (fun l w => SG_set hne hne2 l w) r.length listed a w ⟨hC, hun⟩ (Region.free_spec ho' h2) hin
      (yif_wk hy fun w ⟨l, hl, hw⟩ => (hw (hend l hl.1 hl.2)).2 (behind_sound hmk hl.1 hl.2)) hS (wpHP_sound hs r ph _ _ _ h3 (hC.put hin) hph' ((SG_set hne hne2 _ _).2 hS) h)
  | (i, k + 3) :: r, ph, listed, a, w, hB, hC, hph, hS, ⟨hr, o, ho, h⟩ => by
    subst hr
    simp only [ordP, Bool.and_eq_true, decide_eq_true_eq] at hB
    obtain ⟨⟨hB1, rfl⟩, hB2⟩ := hB
    have hin : i ∈ Region.ready .any L.toArray listed := by rw [hB1]; simp
    have hil : i < L.length := (List.getElem?_eq_some_iff.1 ho).1
    have hie : (listed.setIfInBounds i true).getD i false = true := by
      have := hC.size
      simp [Array.getD_eq_getD_getElem?, show i < listed.size by omega]
    refine ⟨fun h0 => (by rw [h0] at hin; cases hin), fun j hj => ?_⟩
    rw [hB1, List.mem_singleton] at hj
    subst hj
    have ho' : L.toArray[j]? = some o := by simpa using ho
    have hfin : ∀ a' w', Q a' w' → SG c j Sw Ss (listed.setIfInBounds j true) w' ∧ wpAnyG P L.toArray (fun e a w => e = .normal ∧ Q a w) (SG c j Sw Ss) ([] : List (Nat × Nat)).length (listed.setIfInBounds j true) a' w' := fun a' w' hq =>
      ⟨fun h => (by rw [hie] at h; cases h), by simpa using hB2, rfl, hq⟩
    unfold wpOp
    simp only [ho']
    split
    · rename_i hw
      rw [if_pos hw] at h
      exact .inl (Oper.wp_mono (fun a' w' h' => hfin a' w' h') h)
    · rename_i hw
      rw [if_neg hw] at h
      exact hfin _ _ h

/- THE WALK -/
@[irreducible] def HP (P : Program) (ops : List Oper) (c e : Nat) (Sw Ss : World → Prop) (Q : Exit → Act → World → Prop) (ph : Bool) (ord : List (Nat × Nat)) (n : Nat) (σ : Sg) (w : World) : Prop :=
  ∀ a, Fr n σ a → wpHP P ops c e Sw Ss (fun a w => Q .normal a w) ph ord a w
section
variable {P : Program} {Q : Exit → Act → World → Prop} {n : Nat} {σ : Sg} {w : World} {L : List Oper} {c e : Nat} {Sw Ss : World → Prop}
theorem CW.drawP {id : Nat} (c e : Nat) (Sw Ss : World → Prop) (ord : List (Nat × Nat)) (hm : P.follows .mixedOrders = true) (hB : (Region.noSelect L.toArray && decide (ord.length = L.length) && ordP L c e ord (Array.replicate L.length false)) = true) (hw : Sw (drew w)) (hS : Ss (drew w)) (h : HP P L c e Sw Ss Q false ord n σ (drew w)) : CW P (.region id L.toArray true) Q n σ w := by
  unfold CW; unfold HP at h; intro a ha
  simp only [Bool.and_eq_true, decide_eq_true_eq] at hB
  obtain ⟨⟨hs, hl⟩, hB⟩ := hB
  have h0 : ∀ k, (Array.replicate L.length false).getD k false = false := fun k => by
    simp [Array.getD_eq_getD_getElem?, Array.getElem?_replicate]; split <;> rfl
  have h1 := wpHP_sound (Q := fun a w => Q .normal a w) hs ord false (Array.replicate L.length false) a (Go.Proofs.Ytllpfgcngokhnaa.drew w) hB ⟨by simp, fun k o hk => by rw [h0 k] at hk; cases hk⟩ (h0 c) (fun _ => ⟨hw, fun _ => hS⟩) (h a ha)
  rw [hl] at h1
  have h2 : (Code.region id L.toArray true).wp P (fun x a w => x = .normal ∧ Q .normal a w) a w := wp_region_any hm (by simpa using wpAny_of_G _ _ _ _ h1)
  exact wp_mono h2 (fun x a' w' ⟨he, hq⟩ => by subst he; exact hq)
theorem HP.nil {ph : Bool} (h : EX Q .normal n σ w) : HP P L c e Sw Ss Q ph [] n σ w := by
  unfold HP; unfold EX at h; exact fun a ha => h a ha
/-- behind one operation -/
def AfterP (P : Program) (ops : List Oper) (c e : Nat) (Sw Ss : World → Prop) (Q : Exit → Act → World → Prop) (ph : Bool) (ord : List (Nat × Nat)) : Exit → Act → World → Prop :=
  fun x a w => x = .normal ∧ Sw w ∧ (ph = false → Ss w) ∧ wpHP P ops c e Sw Ss (fun a w => Q .normal a w) ph ord a w
/-- stretches of reads that may come anywhere: by the rules for held regions -/
def toP (k : Nat) : List (Nat × Bool) → List (Nat × Nat)
  | [] => []
  | (i, _) :: r => (i, k) :: toP k r
def allT : List (Nat × Bool) → Bool
  | [] => true
  | (_, b) :: r => b && allT r
theorem wpHP_reads {Q : Act → World → Prop} {ph : Bool} {r : List (Nat × Nat)} {S : World → Prop} {k : Nat} (hk : ∀ i r a w, wpHP P L c e Sw Ss Q ph ((i, k) :: r) a w ↔ ∃ o v, L[i]? = some o ∧ YieldsIf P L.toArray S o v a ∧ wpHP P L c e Sw Ss Q ph r (a.put o.dst v) w) : ∀ (s : List (Nat × Bool)) (a : Act) (w : World), allT s = true → wpHL P L S (fun a w => wpHP P L c e Sw Ss Q ph r a w) s a w → wpHP P L c e Sw Ss Q ph (toP k s ++ r) a w
  | [], a, w, _, h => h
  | (i, true) :: s, a, w, hT, ⟨o, v, ho, hy, h⟩ => (hk i _ a w).2 ⟨o, v, ho, hy, wpHP_reads hk s _ _ (by simpa [allT] using hT) h⟩
  | (i, false) :: s, a, w, hT, _ => by simp [allT] at hT
/-- what follows a stretch -/
def RestP (P : Program) (ops : List Oper) (c e : Nat) (Sw Ss : World → Prop) (Q : Exit → Act → World → Prop) (ph : Bool) (ord : List (Nat × Nat)) : Exit → Act → World → Prop :=
  fun x a w => x = .normal ∧ wpHP P ops c e Sw Ss (fun a w => Q .normal a w) ph ord a w
theorem HP.weak {ph : Bool} {r : List (Nat × Nat)} (s : List (Nat × Bool)) (hT : allT s = true) (h : HL P L Sw (RestP P L c e Sw Ss Q ph r) s n σ w) : HP P L c e Sw Ss Q ph (toP 1 s ++ r) n σ w := by
  unfold HP; unfold HL at h
  intro a ha
  have h2 : wpHL P L Sw (fun a w => wpHP P L c e Sw Ss (fun a w => Q .normal a w) ph r a w) s a w := by
    have hmono : ∀ (s : List (Nat × Bool)) (a : Act) (w : World), allT s = true → wpHL P L Sw (fun a w => RestP P L c e Sw Ss Q ph r .normal a w) s a w → wpHL P L Sw (fun a w => wpHP P L c e Sw Ss (fun a w => Q .normal a w) ph r a w) s a w := by
      intro s
      induction s with
      | nil => intro a w _ h; exact h.2
      | cons x s ih =>
        obtain ⟨i, b⟩ := x
        intro a w hT h
        cases b with
        | false => simp [allT] at hT
        | true =>
          obtain ⟨o, v, ho, hy, h⟩ := h
          exact ⟨o, v, ho, hy, ih _ _ (by simpa [allT] using hT) h⟩
    exact hmono s a w hT (h a ha)
  exact wpHP_reads (S := Sw) (k := 1) (fun i r a w => Iff.rfl) s a w hT h2
theorem HP.early {ph : Bool} {r : List (Nat × Nat)} (s : List (Nat × Bool)) (hT : allT s = true) (h : HL P L Ss (RestP P L c e Sw Ss Q ph r) s n σ w) : HP P L c e Sw Ss Q ph (toP 2 s ++ r) n σ w := by
  unfold HP; unfold HL at h
  intro a ha
  have h2 : wpHL P L Ss (fun a w => wpHP P L c e Sw Ss (fun a w => Q .normal a w) ph r a w) s a w := by
    have hmono : ∀ (s : List (Nat × Bool)) (a : Act) (w : World), allT s = true → wpHL P L Ss (fun a w => RestP P L c e Sw Ss Q ph r .normal a w) s a w → wpHL P L Ss (fun a w => wpHP P L c e Sw Ss (fun a w => Q .normal a w) ph r a w) s a w := by
      intro s
      induction s with
      | nil => intro a w _ h; exact h.2
      | cons x s ih =>
        obtain ⟨i, b⟩ := x
        intro a w hT h
        cases b with
        | false => simp [allT] at hT
        | true =>
          obtain ⟨o, v, ho, hy, h⟩ := h
          exact ⟨o, v, ho, hy, ih _ _ (by simpa [allT] using hT) h⟩
    exact hmono s a w hT (h a ha)
  exact wpHP_reads (S := Ss) (k := 2) (fun i r a w => Iff.rfl) s a w hT h2
theorem EX.rest {ph : Bool} {r : List (Nat × Nat)} (h : HP P L c e Sw Ss Q ph r n σ w) : EX (RestP P L c e Sw Ss Q ph r) .normal n σ w := by
  unfold EX; unfold HP at h
  exact fun a ha => ⟨rfl, h a ha⟩
theorem HP.mut {ph : Bool} {i : Nat} {r : List (Nat × Nat)} {o : Oper} (ho : nthO L i = some o) (h : WL P L (AfterP P L c e Sw Ss Q (ph || Nat.beq i c) r) [o] n σ w) : HP P L c e Sw Ss Q ph ((i, 0) :: r) n σ w := by
  unfold HP; unfold WL at h
  intro a ha
  rw [nthO_eq] at ho
  have h2 := h a ha
  simp only [wpList] at h2
  refine ⟨o, ho, ?_⟩
  split
  · rename_i hw
    rw [if_pos hw] at h2
    rcases h2 with h2 | ⟨_, hl⟩
    · refine Oper.wp_mono (fun a' w' h' => h'.2) (wp_exits (fun x a w hne hf => absurd hf.1 hne) h2)
    · obtain ⟨_, _, hx⟩ := hl
      exact absurd hx.1 (by simp)
  · rename_i hw
    rw [if_neg hw] at h2
    exact h2.2
theorem EX.mutP {ph : Bool} {r : List (Nat × Nat)} (hw : Sw w) (hs : ph = false → Ss w) (h : HP P L c e Sw Ss Q ph r n σ w) : EX (AfterP P L c e Sw Ss Q ph r) .normal n σ w := by
  unfold EX; unfold HP at h
  exact fun a ha => ⟨rfl, hw, hs, h a ha⟩
/-- the last operation: nothing is asked behind it -/
theorem HP.last {ph : Bool} {i : Nat} {o : Oper} (ho : nthO L i = some o) (h : WL P L (fun x a w => x = .normal ∧ Q .normal a w) [o] n σ w) : HP P L c e Sw Ss Q ph [(i, 3)] n σ w := by
  unfold HP; unfold WL at h
  intro a ha
  rw [nthO_eq] at ho
  have h2 := h a ha
  simp only [wpList] at h2
  refine ⟨rfl, o, ho, ?_⟩
  split
  · rename_i hw
    rw [if_pos hw] at h2
    rcases h2 with h2 | ⟨_, hl⟩
    · refine Oper.wp_mono (fun a' w' h' => h'.2) (wp_exits (fun x a w hne hf => absurd hf.1 hne) h2)
    · obtain ⟨_, _, hx⟩ := hl
      exact absurd hx.1 (by simp)
  · rename_i hw
    rw [if_neg hw] at h2
    exact h2.2
/-- append(x, y), behind the turning point -/
theorem HP.app1 {α : Type} [Rep α] {x0 : α} {bytes : Nat} {F : Nat → Prop} {i i1 d d1 : Nat} {ty ty1 : TypeId} {pos pos1 : String} {af af1 : Array Edge} {g g1 : Option (Nat × Bool)} {t et : TypeId} {x y : Operand} {rest : List (Nat × Nat)} {v u : Value} {xs : List α} {yv : α} {B : Nat} {wc : World}
    (ho1 : nthO L i1 = some ⟨some d1, .buildSlice t 1 [(0, y)].toArray, ty1, pos1, af1, g1⟩) (ho : nthO L i = some ⟨some d, .call ⟨.builtin .append, #[x, .tmp d1], #[t, t]⟩, ty, pos, af, g⟩)
    (hg1 : gd L σ ⟨some d1, .buildSlice t 1 [(0, y)].toArray, ty1, pos1, af1, g1⟩ = some true) (hd1 : Nat.ble (d1 + 1) n = true)
    (hg : ∀ u, gd L ((d1, .slice u 1 1) :: σ) ⟨some d, .call ⟨.builtin .append, #[x, .tmp d1], #[t, t]⟩, ty, pos, af, g⟩ = some true) (hd : Nat.ble (d + 1) n = true)
    (hy : ev σ y = some u) (hx : ∀ u, ev ((d1, .slice u 1 1) :: σ) x = some v) [hs : IsS P t et] [ht : IsT P et α] [hz : IsZ P et x0 bytes] (hown : Own wc B et F v xs) (hu : Rd wc F u yv) (hB : B ≤ wc.heap.size) (hF : ∀ b, F b → b < wc.heap.size)
    (hsz : sz α ≤ 16777216) (hm : xs.length + 1 ≤ maxLen) (hb : (xs.length + 1) * bytes ≤ 140737488355328) (hS : ∀ w', wc.grownBy w' v.ownBlock → Sw w')
    (h : ∀ v' w' p, Own w' B et F v' (xs ++ [yv]) → wc.grownBy w' v.ownBlock → (∀ g, v'.ownBlock = some g → v.ownBlock = some g ∨ wc.heap.size ≤ g) → HP P L c e Sw Ss Q true rest n ((d, v') :: (d1, .slice p 1 1) :: σ) w') :
    HP P L c e Sw Ss Q true ((i1, 0) :: (i, 0) :: rest) n σ wc := by
  refine HP.mut ho1 ?_
  refine WL.lit (vs := [u]) (ys := [yv]) hg1 hd1 rfl (by simp [sndL, evs, hy]) rfl ⟨hu, trivial⟩ (by simpa using hsz) hF (fun w1 ho1 hgr1 => ?_)
  have hsize : wc.heap.size ≤ w1.heap.size := hgr1.size
  have hkeep : Own w1 B et F v xs := hown.kept hgr1 (fun _ _ h => by cases h) fun b hb => ⟨hF b hb, fun h => by cases h⟩
  have g2 : wc.grownBy w1 v.ownBlock := ⟨hgr1.os, hgr1.tape, hgr1.output, hgr1.size, fun k hk _ => hgr1.block k hk (fun h => by cases h)⟩
  refine WL.nil (EX.mutP (ph := true) (hS _ g2) (fun h => by cases h) ?_)
  refine HP.mut ho ?_
  refine WL.app (ys := [yv]) (hg _) hd (hx _) fnd_cons_eq hkeep ho1.src (Nat.le_trans hB hsize) (fun b hb => Nat.lt_of_lt_of_le (hF b hb) hsize) (by simpa using hm) (by simpa using hb) (fun v' w' ho' hgr hnb => ?_)
  have g3 : wc.grownBy w' v.ownBlock := ⟨hgr.os.trans hgr1.os, hgr.tape.trans hgr1.tape, hgr.output.trans hgr1.output, Nat.le_trans hsize hgr.size, fun k hk hne => (hgr.block k (Nat.lt_of_lt_of_le hk hsize) hne).trans (hgr1.block k hk (fun h => by cases h))⟩
  exact WL.nil (EX.mutP (ph := true) (hS _ g3) (fun h => by cases h) (h v' w' _ ho' g3 (fun g hg => (hnb g hg).imp id (fun h => Nat.le_trans hsize h))))
end
section
variable {P : Program} {Q : Exit → Act → World → Prop} {n : Nat} {σ : Sg} {wc : World} {L : List Oper} {S : World → Prop} {ord : List (Nat × Bool)} {i d : Nat} {ty : TypeId} {pos : String} {af : Array Edge} {g : Option (Nat × Bool)} {t : TypeId} {x : Operand} {b o : Nat}
/-- a field of a struct of which only other fields change meanwhile -/
theorem HL.ldC {v : Value} (hK : ∀ w1, S w1 → ∃ e cells, Blk w1 b e cells ∧ nthV cells o = some v) (ho : nthO L i = some ⟨some d, .load t x, ty, pos, af, g⟩) (hg : gd L σ ⟨some d, .load t x, ty, pos, af, g⟩ = some true) (hd : Nat.ble (d + 1) n = true) (hx : ev σ x = some (.pointer (some ⟨b, o, none⟩))) [hc : IsC P t 1 false]
    (h : HL P L S Q ord n ((d, v) :: σ) wc) : HL P L S Q ((i, true) :: ord) n σ wc := by
  refine HL.run ho hg hd (fun a ha w' hsw => ?_) h
  obtain ⟨e, cells, hb', hv⟩ := hK w' hsw
  simp [execOp, ha.ev hx, run_ld (P := P) (t := t) w' hb' hv]
end
end Go.Proofs.Ytllpfgcngokhnaa
