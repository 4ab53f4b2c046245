import Derived.Test.YtljcnopekjinjaaPtSoundEnds12
/-
  Drawn regions whose operations, whatever the order, only make new memory: walked in the order of the text. What is known of each value lasts. Over any program.
-/
set_option linter.unusedVariables false
set_option linter.unusedSimpArgs false
namespace Go.Proofs.Ytljcnopekjinjaa
open Go.RowKit

/-- what is known of an operation that has been walked: its number, its slot; its value, or a fact of it (of the value, of who made which block, of the world) -/
inductive ME where
  | kn (i d : Nat) (v : Value)
  | fc (i d : Nat) (Φ : Value → (Nat → Nat) → World → Prop)
def ME.i : ME → Nat | .kn i _ _ => i | .fc i _ _ => i
def ME.d : ME → Nat | .kn _ d _ => d | .fc _ d _ => d
def ME.Φ : ME → Value → (Nat → Nat) → World → Prop | .kn _ _ v => fun u _ _ => u = v | .fc _ _ Φ => Φ
def StM (Φ : Value → (Nat → Nat) → World → Prop) : Prop := ∀ v γ γ' w w', Φ v γ w → Ext w w' → (∀ b, b < w.heap.size → γ' b = γ b) → Φ v γ' w'
def ME.ok (m : ME) : Prop := StM m.Φ
/-- the new blocks are i's -/
def byM (γ : Nat → Nat) (w : World) (i : Nat) : Nat → Nat := fun b => if b < w.heap.size then γ b else i
abbrev Ctx := List ME
def findM : Ctx → Nat → Option ME
  | [], _ => none
  | m :: r, j => match Nat.beq m.i j with | true => some m | false => findM r j
theorem findM_mem : ∀ {Γ : Ctx} {j : Nat} {m : ME}, findM Γ j = some m → m ∈ Γ ∧ m.i = j
  | [], _, _, h => by cases h
  | x :: r, j, m, h => by
    unfold findM at h
    split at h
    · rename_i e
      injection h with h
      subst h
      exact ⟨by simp, Nat.eq_of_beq_eq_true e⟩
    · obtain ⟨h1, h2⟩ := findM_mem h
      exact ⟨by simp [h1], h2⟩
def elN (j : Nat) : List Nat → Bool
  | [] => false
  | x :: r => match Nat.beq x j with | true => true | false => elN j r
theorem elN_mem {j : Nat} : ∀ {l : List Nat}, elN j l = true → j ∈ l
  | [], h => by cases h
  | x :: r, h => by
    unfold elN at h
    split at h
    · rename_i e; rw [Nat.eq_of_beq_eq_true e]; simp
    · exact List.mem_cons_of_mem _ (elN_mem h)
/-- the edges that an operation waits for, each once -/
def onsL : List Edge → List Nat
  | [] => []
  | e :: r => match Region.binds .any e with
    | true => (match elN e.on (onsL r) with | true => onsL r | false => e.on :: onsL r)
    | false => onsL r
def ons (o : Oper) : List Nat := onsL o.after.toList
theorem onsL_mem {j : Nat} : ∀ {l : List Edge}, j ∈ onsL l → ∃ e ∈ l, Region.binds .any e = true ∧ e.on = j
  | [], h => by cases h
  | e :: r, h => by
    have up : j ∈ onsL r → ∃ e' ∈ e :: r, Region.binds .any e' = true ∧ e'.on = j := fun h => by
      obtain ⟨e', h1, h2⟩ := onsL_mem h; exact ⟨e', by simp [h1], h2⟩
    unfold onsL at h
    split at h
    · rename_i hb
      split at h
      · exact up h
      · rcases List.mem_cons.1 h with rfl | h
        · exact ⟨e, by simp, hb, rfl⟩
        · exact up h
    · exact up h
theorem ons_mem {o : Oper} {j : Nat} (h : j ∈ ons o) : ∃ e ∈ o.after, Region.binds .any e = true ∧ e.on = j := by
  obtain ⟨e, h1, h2⟩ := onsL_mem h
  exact ⟨e, by simpa using h1, h2⟩
/-- the slots that an operation finds: those of values that are known -/
def kS (Γ : Ctx) (σ : Sg) : List Nat → Sg
  | [] => σ
  | j :: r => match findM Γ j with | some (.kn _ d v) => (d, v) :: kS Γ σ r | _ => kS Γ σ r
/-- .. and of facts -/
def needK (Γ : Ctx) (γ : Nat → Nat) (w : World) (k : Sg → Prop) : List Nat → Sg → Prop
  | [], σ => k σ
  | j :: r, σ => match findM Γ j with
    | some (.kn _ d v) => needK Γ γ w k r ((d, v) :: σ)
    | some (.fc _ d Φ) => ∀ v, Φ v γ w → needK Γ γ w k r ((d, v) :: σ)
    | none => needK Γ γ w k r σ
def allK (γ : Nat → Nat) (w : World) (k : Sg → Prop) : Ctx → Sg → Prop
  | [], σ => k σ
  | .kn _ d v :: r, σ => allK γ w k r ((d, v) :: σ)
  | .fc _ d Φ :: r, σ => ∀ v, Φ v γ w → allK γ w k r ((d, v) :: σ)
theorem fr_cons {n : Nat} {σ : Sg} {a : Act} {d : Nat} {v : Value} (h : Fr n σ a) (hv : a.tmps.getD d undef = v) : Fr n ((d, v) :: σ) a := by
  refine ⟨h.size, h.defers, fun t u hu => ?_⟩
  by_cases e : d = t
  · subst e; rw [fnd_cons_eq] at hu; cases hu; exact hv
  · rw [fnd_cons_ne e] at hu; exact h.slot _ _ hu
theorem kS_fr {Γ : Ctx} {n : Nat} {σ : Sg} {a : Act} {γ : Nat → Nat} {w : World} (ha : Fr n σ a) : ∀ (l : List Nat), (∀ j ∈ l, ∀ m ∈ Γ, m.i = j → m.Φ (a.tmps.getD m.d undef) γ w) → Fr n (kS Γ σ l) a
  | [], _ => ha
  | j :: r, h => by
    have ih := kS_fr (γ := γ) (w := w) ha r (fun x hx => h x (by simp [hx]))
    unfold kS
    split
    · rename_i i d v hf
      obtain ⟨h1, h2⟩ := findM_mem hf
      exact fr_cons ih (h j (by simp) _ h1 h2)
    · exact ih
theorem needK_fr {Γ : Ctx} {n : Nat} {a : Act} {γ : Nat → Nat} {w : World} {k : Sg → Prop} : ∀ (l : List Nat) (σ : Sg), needK Γ γ w k l σ → Fr n σ a → (∀ j ∈ l, ∀ m ∈ Γ, m.i = j → m.Φ (a.tmps.getD m.d undef) γ w) → ∃ τ, Fr n τ a ∧ k τ
  | [], σ, h, ha, _ => ⟨σ, ha, h⟩
  | j :: r, σ, h, ha, hΦ => by
    unfold needK at h
    have hr : ∀ x ∈ r, ∀ m ∈ Γ, m.i = x → m.Φ (a.tmps.getD m.d undef) γ w := fun x hx => hΦ x (by simp [hx])
    split at h
    · rename_i i d v hf
      obtain ⟨h1, h2⟩ := findM_mem hf
      exact needK_fr r _ h (fr_cons ha (hΦ j (by simp) _ h1 h2)) hr
    · rename_i i d Φ hf
      obtain ⟨h1, h2⟩ := findM_mem hf
      exact needK_fr r _ (h _ (hΦ j (by simp) _ h1 h2)) (fr_cons ha rfl) hr
    · exact needK_fr r _ h ha hr
theorem allK_fr {n : Nat} {a : Act} {γ : Nat → Nat} {w : World} {k : Sg → Prop} : ∀ (Γ : Ctx) (σ : Sg), allK γ w k Γ σ → Fr n σ a → (∀ m ∈ Γ, m.Φ (a.tmps.getD m.d undef) γ w) → ∃ τ, Fr n τ a ∧ k τ
  | [], σ, h, ha, _ => ⟨σ, ha, h⟩
  | .kn i d v :: r, σ, h, ha, hΦ => allK_fr r _ h (fr_cons ha (hΦ (.kn i d v) (by simp))) (fun m hm => hΦ m (by simp [hm]))
  | .fc i d Φ :: r, σ, h, ha, hΦ => allK_fr r _ (h _ (hΦ (.fc i d Φ) (by simp))) (fr_cons ha rfl) (fun m hm => hΦ m (by simp [hm]))
/-- behind one operation -/
def AftM (γ : Nat → Nat) (w : World) (i d : Nat) (Φ : Value → (Nat → Nat) → World → Prop) : Exit → Act → World → Prop :=
  fun x a w' => x = .normal ∧ a.defers = [] ∧ Ext w w' ∧ Φ (a.tmps.getD d undef) (byM γ w i) w'
theorem EX.mm {γ : Nat → Nat} {w w' : World} {n i d : Nat} {σ : Sg} {v : Value} {Φ : Value → (Nat → Nat) → World → Prop} (hv : fnd σ d = some v) (hE : Ext w w') (hΦ : Φ v (byM γ w i) w') : EX (AftM γ w i d Φ) .normal n σ w' := by
  unfold EX
  intro a ha
  exact ⟨rfl, ha.defers, hE, by rw [ha.slot _ _ hv]; exact hΦ⟩
/-- what one operation does, wherever it comes; or it isn't wanted -/
def OB (P : Program) (L : List Oper) (w0 : World) (n : Nat) (σ : Sg) (Γ : Ctx) (o : Oper) (i d : Nat) (Φ : Value → (Nat → Nat) → World → Prop) : Prop :=
  ∀ w γ, Ext w0 w → ∀ a, Fr n σ a → (∀ j ∈ ons o, ∀ m ∈ Γ, m.i = j → m.Φ (a.tmps.getD m.d undef) γ w) →
    (Region.wanted o (yielded L.toArray a.tmps) = true ∧ o.wp P a w (fun a' w' => Ext w w' ∧ ∃ v, a' = a.put (some d) v ∧ Φ v (byM γ w i) w') Never) ∨ (Region.wanted o (yielded L.toArray a.tmps) = false ∧ Φ undef (byM γ w i) w)
/-- the walk -/
def ML (P : Program) (L : List Oper) (w0 : World) (n : Nat) (σ : Sg) (K : Ctx → Prop) : Nat → Ctx → List Oper → Prop
  | _, Γ, [] => K Γ
  | i, Γ, o :: r => ∃ m : ME, m.i = i ∧ o.dst = some m.d ∧ Nat.ble (m.d + 1) n = true ∧ fnd σ m.d = none ∧ m.ok ∧ OB P L w0 n σ Γ o i m.d m.Φ ∧ ML P L w0 n σ K (i + 1) (m :: Γ) r
theorem aft_wp {P : Program} {o : Oper} {i d n : Nat} {L : List Oper} {γ : Nat → Nat} {Φ : Value → (Nat → Nat) → World → Prop} {a : Act} {w : World} {τ : Sg} (hd : o.dst = some d) (hn : Nat.ble (d + 1) n = true) (ha : Fr n τ a) (hw : Region.wanted o (yielded L.toArray a.tmps) = true) (h : WL P L (AftM γ w i d Φ) [o] n τ w) :
    o.wp P a w (fun a' w' => Ext w w' ∧ ∃ v, a' = a.put (some d) v ∧ Φ v (byM γ w i) w') Never := by
  unfold WL at h
  have h2 := h a ha
  simp only [wpList, hw, if_true] at h2
  have hlt : d < n := Nat.le_of_ble_eq_true hn
  have hget : ∀ v, (a.put (some d) v).tmps.getD d undef = v := by
    intro v
    simp [Act.put, Array.getD, ha.size, hlt]
  rcases h2 with h2 | ⟨_, hl⟩
  · unfold Oper.wp at *
    obtain ⟨dst, op, ty, pos, af, g⟩ := o
    simp only at hd
    subst hd
    generalize (execOp a.eval _).run P w = r at *
    cases r with
    | ok k w' =>
      cases k <;> simp only [Oper.upon] at h2 ⊢ <;> first
        | exact ⟨h2.2.2.1, _, rfl, by have := h2.2.2.2; rw [hget] at this; exact this⟩
        | (exfalso; have := h2.2.1; simp [Act.put] at this; done)
        | (refine Calls.mono h2 (fun x w'' he => ?_)
           cases x
           · exact ⟨he.2.2.1, _, rfl, by have := he.2.2.2; rw [hget] at this; exact this⟩
           · exact absurd he.1 (by simp)
           · obtain ⟨_, _, hx⟩ := he; exact absurd hx.1 (by simp))
        | exact Rows.mono h2 (fun v w'' he => ⟨he.2.2.1, _, rfl, by have := he.2.2.2; rw [hget] at this; exact this⟩)
        | exact h2
    | halt x w' => cases x <;> simp only [Oper.upon] at h2 ⊢ <;> first | exact h2 | exact absurd h2.1 (by simp)
  · obtain ⟨_, _, hx⟩ := hl
    exact absurd hx.1 (by simp)
section
variable {P : Program} {L : List Oper} {w0 : World} {n : Nat} {σ : Sg} {K : Ctx → Prop} {i d : Nat} {Γ : Ctx} {r : List Oper} {op : Op} {ty : TypeId} {pos : String} {af : Array Edge} {g : Option (Nat × Bool)}
/-- an operation whose value is known, by the rule for its like -/
theorem ML.q {v : Value} (hg : gd L (kS Γ σ (onsL af.toList)) ⟨some d, op, ty, pos, af, g⟩ = some true) (hn : Nat.ble (d + 1) n = true) (hf : fnd σ d = none)
    (h : ∀ γ w, Ext w0 w → WL P L (AftM γ w i d (fun u _ _ => u = v)) [⟨some d, op, ty, pos, af, g⟩] n (kS Γ σ (onsL af.toList)) w) (hr : ML P L w0 n σ K (i + 1) (.kn i d v :: Γ) r) :
    ML P L w0 n σ K i Γ (⟨some d, op, ty, pos, af, g⟩ :: r) := by
  refine ⟨.kn i d v, rfl, rfl, hn, hf, fun u _ _ w w' h _ _ => h, fun w γ hw a ha hΦ => .inl ?_, hr⟩
  have hk : Fr n (kS Γ σ (onsL af.toList)) a := kS_fr ha _ hΦ
  have hwa := gd_wanted hk hg
  exact ⟨hwa, aft_wp rfl hn hk hwa (h γ w hw)⟩
/-- one that isn't wanted -/
theorem ML.pass (hg : gd L (kS Γ σ (onsL af.toList)) ⟨some d, op, ty, pos, af, g⟩ = some false) (hn : Nat.ble (d + 1) n = true) (hf : fnd σ d = none)
    (hr : ML P L w0 n σ K (i + 1) (.kn i d undef :: Γ) r) : ML P L w0 n σ K i Γ (⟨some d, op, ty, pos, af, g⟩ :: r) := by
  refine ⟨.kn i d undef, rfl, rfl, hn, hf, fun u _ _ w w' h _ _ => h, fun w γ hw a ha hΦ => .inr ?_, hr⟩
  have hk : Fr n (kS Γ σ (onsL af.toList)) a := kS_fr ha _ hΦ
  exact ⟨gd_wanted hk hg, rfl⟩
/-- one of whose value a fact is known -/
theorem ML.fc (Φ : Value → (Nat → Nat) → World → Prop) (hg : gd L (kS Γ σ (onsL af.toList)) ⟨some d, op, ty, pos, af, g⟩ = some true) (hn : Nat.ble (d + 1) n = true) (hf : fnd σ d = none) (hs : StM Φ)
    (h : ∀ γ w, Ext w0 w → needK Γ γ w (fun τ => WL P L (AftM γ w i d Φ) [⟨some d, op, ty, pos, af, g⟩] n τ w) (onsL af.toList) σ) (hr : ML P L w0 n σ K (i + 1) (.fc i d Φ :: Γ) r) :
    ML P L w0 n σ K i Γ (⟨some d, op, ty, pos, af, g⟩ :: r) := by
  refine ⟨.fc i d Φ, rfl, rfl, hn, hf, hs, fun w γ hw a ha hΦ => .inl ?_, hr⟩
  have hk : Fr n (kS Γ σ (onsL af.toList)) a := kS_fr ha _ hΦ
  have hwa := gd_wanted hk hg
  obtain ⟨τ, hτ, hW⟩ := needK_fr _ _ (h γ w hw) ha hΦ
  exact ⟨hwa, aft_wp rfl hn hτ hwa hW⟩
/-- the same, its value known, facts looked at -/
theorem ML.kc {v : Value} (hg : gd L (kS Γ σ (onsL af.toList)) ⟨some d, op, ty, pos, af, g⟩ = some true) (hn : Nat.ble (d + 1) n = true) (hf : fnd σ d = none)
    (h : ∀ γ w, Ext w0 w → needK Γ γ w (fun τ => WL P L (AftM γ w i d (fun u _ _ => u = v)) [⟨some d, op, ty, pos, af, g⟩] n τ w) (onsL af.toList) σ) (hr : ML P L w0 n σ K (i + 1) (.kn i d v :: Γ) r) :
    ML P L w0 n σ K i Γ (⟨some d, op, ty, pos, af, g⟩ :: r) := by
  refine ⟨.kn i d v, rfl, rfl, hn, hf, fun u _ _ w w' h _ _ => h, fun w γ hw a ha hΦ => .inl ?_, hr⟩
  have hk : Fr n (kS Γ σ (onsL af.toList)) a := kS_fr ha _ hΦ
  have hwa := gd_wanted hk hg
  obtain ⟨τ, hτ, hW⟩ := needK_fr _ _ (h γ w hw) ha hΦ
  exact ⟨hwa, aft_wp rfl hn hτ hwa hW⟩
end
/- THE ORDERS -/
def dOf (L : List Oper) (i : Nat) : Option Nat := match L[i]? with | some o => o.dst | none => none
/-- all that must come ahead, by marks -/
def mark (L : List Oper) : Nat → List Bool → List Bool
  | 0, m => m
  | i + 1, m => match m.getD i false, L[i]? with
    | true, some o => mark L i ((ons o).foldl (fun m j => m.set j true) m)
    | _, _ => mark L i m
/-- the first k only wait for earlier ones and have slots of their own; each behind them waits for all that stand ahead -/
def monoB (L : List Oper) (k : Nat) : Bool :=
  Region.noSelect L.toArray && (List.range L.length).all (fun i => match L[i]? with | some o => (ons o).all fun j => decide (j < i) | none => false) &&
  (List.range k).all (fun i => (List.range i).all fun j => match dOf L i, dOf L j with | some x, some y => !(Nat.beq x y) | _, _ => false) &&
  decide (k ≤ L.length) && (List.range (L.length - k)).all fun p => (List.range (k + p)).all fun i => (mark L (k + p + 1) ((List.replicate (k + p + 1) false).set (k + p) true)).getD i false
theorem mark_sound {L : List Oper} {S : Nat → Prop} (hS : ∀ i o, S i → L[i]? = some o → ∀ j ∈ ons o, S j) : ∀ (i : Nat) (m : List Bool), (∀ x, m.getD x false = true → S x) → ∀ x, (mark L i m).getD x false = true → S x
  | 0, m, h, x, hx => h x hx
  | i + 1, m, h, x, hx => by
    unfold mark at hx
    split at hx
    · rename_i o hm ho
      refine mark_sound hS i _ ?_ x hx
      have hSi := hS i o (h i hm) ho
      have key : ∀ (l : List Nat) (m : List Bool), (∀ j ∈ l, S j) → (∀ x, m.getD x false = true → S x) → ∀ x, (l.foldl (fun m j => m.set j true) m).getD x false = true → S x := by
        intro l
        induction l with
        | nil => intro m _ h x hx; exact h x hx
        | cons j l ih =>
          intro m hl h x hx
          refine ih _ (fun y hy => hl y (by simp [hy])) (fun y hy => ?_) x hx
          by_cases e : j = y
          · subst e; exact hl _ (by simp)
          · refine h y ?_
            simpa [List.getD_eq_getElem?_getD, List.getElem?_set, e] using hy
      exact key _ _ hSi h
    · exact mark_sound hS i _ h x hx
/-- what the walk gives -/
structure MG (P : Program) (L : List Oper) (w0 : World) (n : Nat) (σ : Sg) (Γ : Ctx) (i : Nat) (o : Oper) : Prop where
  ex : ∃ m ∈ Γ, ∃ Δ : Ctx, (∀ x ∈ Δ, x ∈ Γ) ∧ m.i = i ∧ o.dst = some m.d ∧ Nat.ble (m.d + 1) n = true ∧ fnd σ m.d = none ∧ OB P L w0 n σ Δ o i m.d m.Φ
theorem ML_get {P : Program} {L : List Oper} {w0 : World} {n : Nat} {σ : Sg} {K : Ctx → Prop} : ∀ (r : List Oper) (i : Nat) (Γ : Ctx), ML P L w0 n σ K i Γ r → (∀ m ∈ Γ, m.i < i ∧ m.ok) → (Γ.map (·.i)).Nodup →
    ∃ Γ' : Ctx, K Γ' ∧ (∀ m ∈ Γ, m ∈ Γ') ∧ (∀ m ∈ Γ', m.i < i + r.length ∧ m.ok) ∧ (Γ'.map (·.i)).Nodup ∧ ∀ j o, r[j]? = some o → MG P L w0 n σ Γ' (i + j) o
  | [], i, Γ, h, hΓ, hd => ⟨Γ, h, fun m h => h, hΓ, hd, fun j o h => by simp at h⟩
  | o :: r, i, Γ, h, hΓ, hd => by
    obtain ⟨m, h1, h2, h3, h4, h5, h6, h7⟩ := h
    obtain ⟨Γ', g1, g2, g3, g4, g5⟩ := ML_get r (i + 1) (m :: Γ) h7 (fun x hx => by
      rcases List.mem_cons.1 hx with rfl | hx
      · exact ⟨by omega, h5⟩
      · have := hΓ x hx; exact ⟨by omega, this.2⟩) (by
      rw [List.map_cons, List.nodup_cons]
      refine ⟨fun hm => ?_, hd⟩
      obtain ⟨x, hx, e⟩ := List.mem_map.1 hm
      have := (hΓ x hx).1; omega)
    refine ⟨Γ', g1, fun x hx => g2 x (by simp [hx]), fun x hx => by have := g3 x hx; simp only [List.length_cons]; exact ⟨by omega, this.2⟩, g4, fun j o' hj => ?_⟩
    cases j with
    | zero =>
      simp at hj
      subst hj
      exact ⟨m, g2 m (by simp), Γ, fun x hx => g2 x (by simp [hx]), h1, h2, h3, h4, h6⟩
    | succ j =>
      have := g5 j o' (by simpa using hj)
      rwa [show i + (j + 1) = i + 1 + j by omega]
theorem map_inj {β γ : Type} {f : β → γ} {l : List β} (h : (l.map f).Nodup) : ∀ x ∈ l, ∀ y ∈ l, f x = f y → x = y := fun x hx y hy => nodup_inj h x hx y hy
structure MInv (L : List Oper) (w0 : World) (n : Nat) (σ : Sg) (Γ : Ctx) (k : Nat) (listed : Array Bool) (a : Act) (γ : Nat → Nat) (w : World) : Prop where
  size : listed.size = L.length
  fr : Fr n σ a
  ext : Ext w0 w
  facts : ∀ m ∈ Γ, listed.getD m.i false = true → m.Φ (a.tmps.getD m.d undef) γ w
  closed : ∀ i o, listed.getD i false = true → L[i]? = some o → ∀ j ∈ ons o, listed.getD j false = true
  low : ∀ i, listed.getD i false = true → i < k
theorem listed_set {l : Array Bool} {i j : Nat} : (l.setIfInBounds i true).getD j false = true ↔ (j = i ∧ i < l.size) ∨ l.getD j false = true := by
  simp only [Array.getD_eq_getD_getElem?, Array.getElem?_setIfInBounds]
  by_cases e : i = j
  · subst e
    by_cases h : i < l.size
    · simp [h]
    · simp [h]
  · rw [if_neg e]
    constructor
    · exact fun h => .inr h
    · rintro (⟨h, _⟩ | h)
      · exact absurd h.symm e
      · exact h
theorem count_set {l : Array Bool} {i : Nat} (h : l.getD i true = false) : (l.setIfInBounds i true).toList.countP (fun b => !b) + 1 = l.toList.countP fun b => !b := by
  have hi : i < l.size := by
    rcases Nat.lt_or_ge i l.size with h' | h'
    · exact h'
    · simp [Array.getD_eq_getD_getElem?, Array.getElem?_eq_none h'] at h
  have hv : l[i] = false := by simpa [Array.getD_eq_getD_getElem?, hi] using h
  have h1 : (l.setIfInBounds i true).toList = l.toList.set i true := by simp
  rw [h1, List.countP_set (by simpa using hi)]
  have h2 : l.toList[i]'(by simpa using hi) = false := by simpa using hv
  rw [h2]
  have : 0 < l.toList.countP fun b => !b := List.countP_pos_iff.2 ⟨false, h2 ▸ List.getElem_mem _, rfl⟩
  generalize (l.toList.countP fun b => !b) = c at *
  simp only [Bool.not_false, Bool.not_true, if_true, Bool.false_eq_true, if_false]
  omega
theorem MInv.step {L : List Oper} {w0 w w' : World} {n k i : Nat} {σ : Sg} {Γ : Ctx} {listed : Array Bool} {a : Act} {γ : Nat → Nat} {m : ME} {o : Oper} {v : Value} (h : MInv L w0 n σ Γ k listed a γ w) (hm : m ∈ Γ) (hmi : m.i = i) (ho : L[i]? = some o) (hn : Nat.ble (m.d + 1) n = true)
    (hf : fnd σ m.d = none) (hok : ∀ m ∈ Γ, m.ok) (hnd : (Γ.map (·.i)).Nodup) (hdd : ∀ x ∈ Γ, x.i ≠ i → x.d ≠ m.d) (hE : Ext w w') (hΦ : m.Φ v (byM γ w i) w') (hons : ∀ j ∈ ons o, listed.getD j false = true) (hik : i < k) : MInv L w0 n σ Γ k (listed.setIfInBounds i true) (a.put (some m.d) v) (byM γ w i) w' := by
  have hlt : m.d < n := Nat.le_of_ble_eq_true hn
  have hp := h.fr.put (d := some m.d) (v := v) hn
  refine ⟨by simpa using h.size, ⟨hp.size, hp.defers, fun t u hu => hp.slot t u ?_⟩, h.ext.trans hE, fun x hx hl => ?_, fun j o' hj ho' q hq => ?_, fun j hj => ?_⟩
  · show fnd ((m.d, v) :: σ) t = some u
    rw [fnd_cons_ne (fun e => by subst e; rw [hf] at hu; cases hu)]; exact hu
  · rcases listed_set.1 hl with ⟨e, _⟩ | hl
    · obtain rfl : x = m := map_inj hnd x hx m hm (by show x.i = m.i; rw [e, hmi])
      have : (a.put (some x.d) v).tmps.getD x.d undef = v := by simp [Act.put, Array.getD, h.fr.size, hlt]
      rw [this]; exact hΦ
    · by_cases e : x.i = i
      · obtain rfl : x = m := map_inj hnd x hx m hm (by show x.i = m.i; rw [e, hmi])
        have : (a.put (some x.d) v).tmps.getD x.d undef = v := by simp [Act.put, Array.getD, h.fr.size, hlt]
        rw [this]; exact hΦ
      · have hne := hdd x hx e
        have : (a.put (some m.d) v).tmps.getD x.d undef = a.tmps.getD x.d undef := by
          simp only [Act.put, Array.getD_eq_getD_getElem?]
          rw [Array.getElem?_setIfInBounds_ne (fun e => hne e.symm)]
        rw [this]
        exact hok x hx _ _ _ _ _ (h.facts x hx hl) hE (fun b hb => if_pos hb)
  · rcases listed_set.1 hj with ⟨e, _⟩ | hj
    · subst e
      rw [ho] at ho'
      cases ho'
      exact listed_set.2 (.inr (hons q hq))
    · exact listed_set.2 (.inr (h.closed j o' hj ho' q hq))
  · rcases listed_set.1 hj with ⟨e, _⟩ | hj
    · omega
    · exact h.low j hj
theorem mem_ons {o : Oper} {e : Edge} (he : e ∈ o.after) (hb : Region.binds .any e = true) : e.on ∈ ons o := by
  unfold ons
  have key : ∀ l : List Edge, e ∈ l → e.on ∈ onsL l := by
    intro l
    induction l with
    | nil => intro h; cases h
    | cons x l ih2 =>
      intro h
      unfold onsL
      rcases List.mem_cons.1 h with rfl | h
      · rw [hb]
        dsimp only
        split
        · rename_i he; exact elN_mem he
        · simp
      · split
        · split
          · exact ih2 h
          · exact List.mem_cons_of_mem _ (ih2 h)
        · exact ih2 h
  exact key _ (by simpa using he)
theorem onsE {o : Oper} {listed : Array Bool} (h : ∀ e ∈ o.after, Region.binds .any e = true → listed.getD e.on false = true) : ∀ j ∈ ons o, listed.getD j false = true := fun j hj => by
  obtain ⟨e, h1, h2, rfl⟩ := ons_mem hj
  exact h e h1 h2
theorem getD_tf {l : Array Bool} {i : Nat} (hi : i < l.size) : l.getD i true = l.getD i false := by simp [Array.getD_eq_getD_getElem?, hi]
/-- what waits for all that stand ahead comes behind them -/
theorem all_ahead {L : List Oper} {i : Nat} {o : Oper} {listed : Array Bool} (hmk : ∀ x, x < i → (mark L (i + 1) ((List.replicate (i + 1) false).set i true)).getD x false = true) (ho : L[i]? = some o) (hol : ∀ j ∈ ons o, listed.getD j false = true)
    (hcl : ∀ i o, listed.getD i false = true → L[i]? = some o → ∀ j ∈ ons o, listed.getD j false = true) : ∀ x, x < i → listed.getD x false = true := fun x hx => by
  have hS := mark_sound (L := L) (S := fun x => x = i ∨ listed.getD x false = true) (fun x o' hx ho2 j hj => by
    rcases hx with rfl | hx
    · rw [ho] at ho2; cases ho2; exact .inr (hol j hj)
    · exact .inr (hcl x o' hx ho2 j hj)) (i + 1) ((List.replicate (i + 1) false).set i true) (fun x hx => by
    by_cases e : i = x
    · exact .inl e.symm
    · exfalso
      simp [List.getD_eq_getElem?_getD, List.getElem?_set, e, List.getElem?_replicate] at hx
      split at hx <;> simp at hx)
  exact (hS x (hmk x hx)).resolve_left (by omega)
/-- the tail, in its one order -/
theorem tailM {P : Program} {L : List Oper} {Q : Exit → Act → World → Prop} {k : Nat} (hmk : ∀ p, k ≤ p → p < L.length → ∀ x, x < p → (mark L (p + 1) ((List.replicate (p + 1) false).set p true)).getD x false = true) (hons : ∀ i o, L[i]? = some o → ∀ j ∈ ons o, j < i) :
    ∀ (fuel p : Nat) (listed : Array Bool) (a : Act) (w : World), k ≤ p → fuel + p = L.length → listed.size = L.length → (∀ i, listed.getD i false = true ↔ i < p) → wpList P L.toArray (fun x a w => x = .normal ∧ Q .normal a w) (L.drop p) a w →
      wpAny P .any L.toArray (fun x a w => x = .normal ∧ Q .normal a w) fuel listed a w
  | 0, p, listed, a, w, hk, hp, hsz, hl, h => by
    rw [List.drop_of_length_le (by omega)] at h
    refine ⟨List.eq_nil_iff_forall_not_mem.2 fun i hi => ?_, h⟩
    obtain ⟨h0, oi, hoi, _⟩ := mem_ready.1 hi
    have hil : i < L.length := by have := (Array.getElem?_eq_some_iff.1 hoi).1; simpa using this
    rw [getD_tf (by omega), (hl i).2 (by omega)] at h0
    cases h0
  | fuel + 1, p, listed, a, w, hk, hp, hsz, hl, h => by
    have hpl : p < L.length := by omega
    have hcl : ∀ i o, listed.getD i false = true → L[i]? = some o → ∀ j ∈ ons o, listed.getD j false = true := fun i o hi ho j hj => (hl j).2 (by have := hons i o ho j hj; have := (hl i).1 hi; omega)
    have hready : ∀ i, i ∈ Region.ready .any L.toArray listed → i = p := fun i hi => by
      obtain ⟨h0, oi, hoi, hed⟩ := mem_ready.1 hi
      have hoi' : L[i]? = some oi := by simpa using hoi
      have hil : i < L.length := (List.getElem?_eq_some_iff.1 hoi').1
      rw [getD_tf (by omega)] at h0
      have hge : ¬ i < p := fun hlt => by rw [(hl i).2 hlt] at h0; cases h0
      rcases Nat.lt_or_ge p i with hlt | hle
      · have := all_ahead (hmk i (by omega) hil) hoi' (onsE hed) hcl p hlt
        exact absurd ((hl p).1 this) (Nat.lt_irrefl _)
      · omega
    have hin : p ∈ Region.ready .any L.toArray listed := mem_ready.2 ⟨by
      rw [getD_tf (by omega)]
      cases hx : listed.getD p false with
      | false => rfl
      | true => exact absurd ((hl p).1 hx) (Nat.lt_irrefl _), L[p], by simp [hpl], fun e he hb => (hl _).2 (hons p L[p] (List.getElem?_eq_getElem hpl) _ (mem_ons he hb))⟩
    refine ⟨fun hr => (by rw [hr] at hin; cases hin), fun i hi => ?_⟩
    obtain rfl := hready i hi
    rw [List.drop_eq_getElem_cons hpl] at h
    simp only [wpList] at h
    have ho : L.toArray[i]? = some L[i] := by simp [hpl]
    unfold wpOp
    simp only [ho]
    have hl' : ∀ j, (listed.setIfInBounds i true).getD j false = true ↔ j < i + 1 := fun j => by
      rw [listed_set, hl]
      omega
    split
    · rename_i hw
      rw [if_pos hw] at h
      exact h.imp (Oper.wp_mono fun a' w' h' => tailM hmk hons fuel (i + 1) _ _ _ (by omega) (by omega) (by simpa using hsz) hl' h') id
    · rename_i hw
      rw [if_neg hw] at h
      exact tailM hmk hons fuel (i + 1) _ _ _ (by omega) (by omega) (by simpa using hsz) hl' h
theorem wpAnyM {P : Program} {L : List Oper} {Q : Exit → Act → World → Prop} {w0 : World} {n k : Nat} {σ : Sg} {Γ : Ctx} (hB : monoB L k = true) (hΓ : ∀ m ∈ Γ, m.i < k ∧ m.ok) (hnd : (Γ.map (·.i)).Nodup) (hM : ∀ j o, j < k → L[j]? = some o → MG P L w0 n σ Γ j o)
    (hK : ∀ γ w', Ext w0 w' → allK γ w' (fun τ => WL P L (fun x a w => x = .normal ∧ Q .normal a w) (L.drop k) n τ w') Γ σ) :
    ∀ (fuel : Nat) (listed : Array Bool) (a : Act) (γ : Nat → Nat) (w : World), MInv L w0 n σ Γ k listed a γ w → listed.toList.countP (fun b => !b) = fuel → wpAny P .any L.toArray (fun x a w => x = .normal ∧ Q .normal a w) fuel listed a w := by
  simp only [monoB, Bool.and_eq_true, decide_eq_true_eq, List.all_eq_true, List.mem_range] at hB
  obtain ⟨⟨⟨⟨hs, hlow⟩, hdst⟩, hkl⟩, hmk0⟩ := hB
  have hmk : ∀ p, k ≤ p → p < L.length → ∀ x, x < p → (mark L (p + 1) ((List.replicate (p + 1) false).set p true)).getD x false = true := fun p h1 h2 x hx => by
    have := hmk0 (p - k) (by omega) x (by omega)
    rwa [show k + (p - k) = p by omega] at this
  have hons : ∀ i o, L[i]? = some o → ∀ j ∈ ons o, j < i := fun i o ho j hj => by
    have h := hlow i (List.getElem?_eq_some_iff.1 ho).1
    rw [ho] at h
    simp only [List.all_eq_true, decide_eq_true_eq] at h
    exact h j hj
  have hdd : ∀ x ∈ Γ, ∀ m ∈ Γ, x.i ≠ m.i → x.d ≠ m.d := by
    have hdx : ∀ x ∈ Γ, dOf L x.i = some x.d := fun x hx => by
      have hxk := (hΓ x hx).1
      have hxl : x.i < L.length := by omega
      obtain ⟨m, hm, _, _, e, hd, _⟩ := (hM x.i L[x.i] hxk (List.getElem?_eq_getElem hxl)).ex
      obtain rfl : m = x := map_inj hnd m hm x hx e
      unfold dOf
      rw [List.getElem?_eq_getElem hxl]
      exact hd
    have lt : ∀ x ∈ Γ, ∀ m ∈ Γ, x.i < m.i → x.d ≠ m.d := fun x hx m hm h e => by
      have h1 := hdst m.i (hΓ m hm).1 x.i h
      rw [hdx x hx, hdx m hm, e] at h1
      simp at h1
    intro x hx m hm hne
    rcases Nat.lt_or_gt_of_ne hne with h | h
    · exact lt x hx m hm h
    · exact fun e => lt m hm x hx h e.symm
  -- what is listed when nothing is ready
  have hall : ∀ (listed : Array Bool), listed.size = L.length → Region.ready .any L.toArray listed = [] → ∀ i, i < L.length → listed.getD i false = true := by
    intro listed hsz hr i
    induction i using Nat.strongRecOn with
    | ind i ih =>
      intro hi
      by_cases hl : listed.getD i false = true
      · exact hl
      · have : i ∈ Region.ready .any L.toArray listed := mem_ready.2 ⟨by
          rw [getD_tf (by omega)]
          simpa using hl, L[i], by simp [hi], fun e he hb => by
          have hlt := hons i L[i] (List.getElem?_eq_getElem hi) _ (mem_ons he hb)
          exact ih _ hlt (by omega)⟩
        rw [hr] at this; cases this
  intro fuel
  induction fuel with
  | zero =>
    intro listed a γ w hI hc
    have hl : ∀ i, i < L.length → listed.getD i false = true := fun i hi => by
      cases hx : listed.getD i false with
      | true => rfl
      | false =>
        have := count_set (l := listed) (i := i) (by rw [getD_tf (by have := hI.size; omega)]; exact hx)
        omega
    obtain ⟨τ, hτ, hF⟩ := allK_fr Γ σ (hK γ w hI.ext) hI.fr (fun m hm => hI.facts m hm (hl m.i (by have := (hΓ m hm).1; omega)))
    have hke : k = L.length := by
      rcases Nat.lt_or_ge k L.length with h | h
      · exact absurd (hI.low k (hl k h)) (Nat.lt_irrefl _)
      · omega
    unfold WL at hF
    exact tailM hmk hons 0 k listed a w (Nat.le_refl _) (by omega) hI.size (fun i => ⟨hI.low i, fun h => hl i (by omega)⟩) (hF a hτ)
  | succ fuel ih =>
    intro listed a γ w hI hc
    by_cases hal : ∀ i, i < k → listed.getD i false = true
    · -- all of the first k are listed
      obtain ⟨τ, hτ, hF⟩ := allK_fr Γ σ (hK γ w hI.ext) hI.fr (fun m hm => hI.facts m hm (hal m.i (hΓ m hm).1))
      unfold WL at hF
      have hcount : fuel + 1 + k = L.length := by
        have hlt : listed.toList = (List.range L.length).map (fun i => decide (i < k)) := by
          refine List.ext_getElem (by simpa using hI.size) fun i h1 h2 => ?_
          simp only [List.getElem_map, List.getElem_range, Array.getElem_toList]
          have h3 : listed.getD i false = listed[i]'(by simpa using h1) := by simp [Array.getD_eq_getD_getElem?, show i < listed.size by simpa using h1]
          by_cases h : i < k
          · have := hal i h
            rw [h3] at this; rw [this]; simp [h]
          · cases hx : listed[i]'(by simpa using h1) with
            | false => simp [h]
            | true => exact absurd (hI.low i (by rw [h3, hx])) h
        rw [hlt] at hc
        have hcnt : ∀ N, k ≤ N → ((List.range N).map fun i => decide (i < k)).countP (fun b => !b) + k = N := by
          intro N
          induction N with
          | zero => intro h; simp at h ⊢; omega
          | succ N ihN =>
            intro h
            rw [List.range_succ, List.map_append, List.countP_append]
            by_cases hN : k ≤ N
            · have := ihN hN
              have e1 : ([N].map fun i => decide (i < k)).countP (fun b => !b) = 1 := by
                simp; omega
              omega
            · obtain rfl : k = N + 1 := by omega
              have h0 : ((List.range N).map fun i => decide (i < N + 1)).countP (fun b => !b) = 0 := by
                rw [List.countP_eq_zero]
                intro b hb
                obtain ⟨i, hi, rfl⟩ := List.mem_map.1 hb
                have := List.mem_range.1 hi
                simp; omega
              rw [h0]; simp
        have := hcnt L.length hkl
        omega
      exact tailM hmk hons (fuel + 1) k listed a w (Nat.le_refl _) hcount hI.size (fun i => ⟨hI.low i, hal i⟩) (hF a hτ)
    · refine ⟨fun hr => absurd (fun i hi => hall listed hI.size hr i (by omega)) hal, fun i hi => ?_⟩
      obtain ⟨hun, o, ho, hed⟩ := mem_ready.1 hi
      have hcs := count_set hun
      have ho' : L[i]? = some o := by simpa using ho
      have hil : i < L.length := (List.getElem?_eq_some_iff.1 ho').1
      have hol := onsE hed
      have hik : i < k := by
        rcases Nat.lt_or_ge i k with h | h
        · exact h
        · exact absurd (fun x hx => all_ahead (hmk i h hil) ho' hol hI.closed x (by omega)) hal
      unfold wpOp
      simp only [ho]
      obtain ⟨m, hm, Δ, hΔ, hmi, hd, hn, hf, hob⟩ := (hM i o hik ho').ex
      have hst : ∀ (w' : World) (v : Value), Ext w w' → m.Φ v (byM γ w i) w' → wpAny P .any L.toArray (fun x a w => x = .normal ∧ Q .normal a w) fuel (listed.setIfInBounds i true) (a.put (some m.d) v) w' := fun w' v hE hΦ =>
        ih _ _ _ _ (hI.step hm hmi ho' hn hf (fun m hm => (hΓ m hm).2) hnd (fun x hx hne => hdd x hx m hm (by rw [hmi]; exact hne)) hE hΦ hol hik) (by omega)
      rcases hob w γ hI.ext a hI.fr (fun j hj x hx e => hI.facts x (hΔ x hx) (by rw [e]; exact hol j hj)) with ⟨hw, hwp⟩ | ⟨hw, hΦ⟩
      · simp only [hw, if_true]
        refine .inl (Oper.wp_mono (fun a' w' h' => ?_) (wp_exits (fun e a w _ hf => hf.elim) hwp))
        obtain ⟨hE, v, rfl, hΦ⟩ := h'
        exact hst w' v hE hΦ
      · simp only [hw, Bool.false_eq_true, if_false]
        rw [hd]
        exact hst w undef (Ext.refl w) hΦ
section
variable {P : Program} {Q : Exit → Act → World → Prop} {n : Nat} {σ : Sg} {w : World} {L : List Oper}
/-- behind the walk of the first ones: the tail -/
def FinM (P : Program) (L : List Oper) (Q : Exit → Act → World → Prop) (n : Nat) (σ : Sg) (w : World) (T : List Oper) : Ctx → Prop :=
  fun Γ => ∀ γ w', Ext w w' → allK γ w' (fun τ => WL P L (fun x a w => x = .normal ∧ Q .normal a w) T n τ w') Γ σ
/-- a drawn region: the first k operations only make new memory, the others stand in one order behind them -/
theorem CW.drawM {id : Nat} (k : Nat) (hm : P.follows .mixedOrders = true) (hB : monoB L k = true) (h : ML P L (drew w) n σ (FinM P L Q n σ (drew w) (L.drop k)) 0 [] (L.take k)) : CW P (.region id L.toArray true) Q n σ w := by
  unfold CW
  intro a ha
  have hkl : k ≤ L.length := by
    simp only [monoB, Bool.and_eq_true, decide_eq_true_eq] at hB
    exact hB.1.2
  obtain ⟨Γ, g1, _, g3, g4, g5⟩ := ML_get _ _ _ h (fun m hm => by cases hm) List.Pairwise.nil
  have h1 := wpAnyM (P := P) (Q := Q) (w0 := drew w) hB (fun m hm => by have := g3 m hm; simp only [List.length_take, Nat.zero_add] at this; exact ⟨by omega, this.2⟩) g4 (fun j o hj ho => by
    have := g5 j o (by rw [List.getElem?_take_of_lt hj]; exact ho)
    rwa [Nat.zero_add] at this) g1 L.length (Array.replicate L.length false) a (fun _ => 0) (drew w) ⟨by simp, ha, Ext.refl _, fun m hm hl => by
      exfalso; simp [Array.getD_eq_getD_getElem?, Array.getElem?_replicate] at hl; split at hl <;> simp at hl, fun i o hl => by
      exfalso; simp [Array.getD_eq_getD_getElem?, Array.getElem?_replicate] at hl; split at hl <;> simp at hl, fun i hl => by
      exfalso; simp [Array.getD_eq_getD_getElem?, Array.getElem?_replicate] at hl; split at hl <;> simp at hl⟩ (by simp [List.countP_replicate])
  have h2 : (Code.region id L.toArray true).wp P (fun x a w => x = .normal ∧ Q .normal a w) a w := wp_region_any hm (by simpa using h1)
  exact wp_mono h2 (fun e a' w' ⟨he, hq⟩ => by subst he; exact hq)
theorem ML.nil {w0 : World} {K : Ctx → Prop} {i : Nat} {Γ : Ctx} (h : K Γ) : ML P L w0 n σ K i Γ [] := h
end
end Go.Proofs.Ytljcnopekjinjaa
/-
  Package sound: Look: walked.
-/
set_option linter.unusedVariables false
set_option linter.unusedSimpArgs false
namespace Go.Proofs.Ytljcnopekjinjaa
open Go.RowKit

/-- the first i of n are right -/
def preB (n : Nat) (f : Nat → Bool) (i : Nat) : List Bool := (List.range n).map fun k => decide (k < i) && f k
theorem preB_len {n i : Nat} {f : Nat → Bool} : (preB n f i).length = n := by simp [preB]
theorem preB_zero {n : Nat} {f : Nat → Bool} : preB n f 0 = List.replicate n false := by
  unfold preB
  refine List.ext_getElem (by simp) fun i h1 h2 => by simp
theorem preB_set {n i : Nat} {f : Nat → Bool} : (preB n f i).set i (f i) = preB n f (i + 1) := by
  unfold preB
  refine List.ext_getElem (by simp) fun k h1 h2 => ?_
  rw [List.getElem_set]
  simp only [List.getElem_map, List.getElem_range]
  split
  · rename_i e; subst e; simp
  · rename_i e
    by_cases h : k < i
    · simp [h, show k < i + 1 by omega]
    · simp [h, show ¬ k < i + 1 by omega]
theorem preB_done {n : Nat} {f : Nat → Bool} : preB n f n = (List.range n).map f := by
  unfold preB
  refine List.ext_getElem (by simp) fun k h1 h2 => ?_
  simp at h1
  simp [h1]
theorem never_eq {ml : List (List Int)} {nl : List (List LEdge)} (hl : nl.length = ml.length) : neverB ml nl = (List.range ml.length).map fun k => !(rchB (turnL (grL nl)) (endsL ml)).getD k false := by
  unfold neverB
  have h : (rchB (turnL (grL nl)) (endsL ml)).length = ml.length := by rw [rchB_len, turnL_len, grL_len, hl]
  refine List.ext_getElem (by simp [h]) fun k h1 h2 => ?_
  rw [List.length_map] at h1
  simp [List.getElem_map, List.getD_eq_getElem?_getD, List.getElem?_eq_getElem h1]
def finV (dv sv nv : Value) (s n : Int) : Value := .agg [dv, .int .i64 s, .int .i64 n, sv, nv].toArray
set_option maxHeartbeats 2000000 in
set_option maxRecDepth 100000 in
theorem Look_ok (w0 : World) {so fo : Option Addr} {sc fc : Nat} {ns : List LNode} {fl : List LFlow} (hs : Sl w0 (Old w0) so sc ns) (hf : Sl w0 (Old w0) fo fc fl) (tok st : Int) :
    Rt Try.prog 17 [procV so sc fo fc ns.length fl.length, .int .i64 tok, .int .i64 st].toArray w0 fun v w' => ∃ dv sv nv, v = .tuple ⟨[finV dv sv nv (lookE (ns, fl) tok st).1.still (lookE (ns, fl) tok st).1.never, .int .i64 (lookE (ns, fl) tok st).2]⟩ ∧
      Rd w' (Old w') dv (lookE (ns, fl) tok st).1.dead ∧ Rd w' (Old w') sv (lookE (ns, fl) tok st).1.toStill ∧ Rd w' (Old w') nv (lookE (ns, fl) tok st).1.toNever ∧ Ext w0 w' := by
  refine Rt.enter3 Try.func17 Try.ntmps17 rfl rfl ?_
  (repeat (first | (apply CW.seq) | (apply CW.region)))
  refine WL.boxB rfl rfl rfl fun w1 hb3 e1 => ?_
  skip
  refine WL.alloc rfl rfl (fun w2 hb6 e2 => ?_)
  have hb3 := hb3.ext e2
  have hE := e1.trans e2
  (repeat (first | (apply WL.pure; rfl; rfl; rfl) | (apply WL.nil) | (apply EX.thenN) | (apply CW.seq) | (apply CW.region) | (apply WL.ldA; rfl; rfl; rfl; assumption; rfl)))
  refine WL.call rfl rfl rfl (Explore_ok w2 (hs.up hE) (hf.up hE) tok st) ?_
  rintro _ w3 ⟨mv, nv, rfl, hmv, hnv, e3⟩
  obtain ⟨mo, mc, rfl, hm⟩ := hmv.sl
  obtain ⟨no, nc, rfl, hn⟩ := hnv.sl
  have hb3 := hb3.ext e3
  have hb6 := hb6.ext e3
  have hE := hE.trans e3
  have hlaw := explore_law (p := (ns, fl)) (tok := tok) (st := st)
  unfold lookE
  generalize exploreE (ns, fl) tok st = r at *
  obtain ⟨⟨ml, nl⟩, er⟩ := r
  dsimp only at hm hn hlaw ⊢
  clear hmv hnv
  (repeat (apply WL.pure; rfl; rfl; rfl))
  refine WL.alloc rfl rfl (fun w4 hb8 e4 => ?_)
  skip
  refine WL.st rfl rfl rfl hb8 rfl rfl (ones_of rfl) (fun w5 hb8 hg5 => ?_)
  have e5 : Ext w3 w5 := e4.grown hg5 e4.size (fun g hg => by cases hg; exact Nat.le_refl _)
  have hb3 := hb3.ext e5
  have hb6 := hb6.ext e5
  have hE5 := hE.trans e5
  have hm := hm.up e5
  have hn := hn.up e5
  have hl6 := hb6.lt
  have hl8 := hb8.lt
  have hs1 := e1.size
  have hs2 := e2.size
  have hs3 := e3.size
  clear e4 hg5
  by_cases her : er = 0
  case neg =>
    rw [if_pos her]
    have b1 : (er != 0) = true := by simpa using her
    (repeat (first | (apply WL.pure; rfl; rfl; rfl) | (apply WL.nil) | (apply EX.thenN) | (apply CW.seq) | (apply CW.region)))
    rw [b1]
    (repeat (first | (apply CW.seq) | (apply CW.region) | (apply CW.condT; rfl)))
    refine WL.build (parts := []) rfl rfl rfl rfl ?_
    (repeat (apply WL.pure; rfl; rfl; rfl))
    refine WL.st rfl rfl rfl hb6 rfl rfl (ones_of rfl) (fun w6 hb6 hg6 => ?_)
    (repeat (first | (apply WL.pure; rfl; rfl; rfl) | (apply WL.nil) | (apply EX.thenN) | (apply CW.ret) | (apply EX.thenR)))
    exact EX.retC2 rfl rfl rfl hb6 rfl ⟨_, _, _, rfl, (Sl.zero w6 (Old w6)).rd, (Sl.zero w6 (Old w6)).rd, (Sl.zero w6 (Old w6)).rd, hE5.grown hg6 hE5.size (fun g hg => by cases hg; exact hs1)⟩
  subst her
  rw [if_neg (by simp)]
  obtain ⟨hz, hsr, hsp, hnl, hml0, _, h200⟩ := hlaw rfl
  obtain ⟨hc0, hse, hl60⟩ := stepsE_ok hz
  have hst := hsr.st
  have hrow := sp_rows hsp hl60
  have hstp := sp_steps hsp
  have hgok := grL_ok hsp hnl
  clear hlaw
  (repeat (first | (apply WL.pure; rfl; rfl; rfl) | (apply WL.nil) | (apply EX.thenN) | (apply CW.seq) | (apply CW.region) | (apply WL.lenS; rfl; rfl; rfl) | (apply WL.fa; rfl; rfl; rfl) | (apply WL.ld; rfl; rfl; rfl; assumption; rfl) | (apply CW.condF; rfl) | (apply CW.skip)))
  -- two lists
  have mkS : ∀ i : Nat, StM (fun v γ w => Own w w5.heap.size 4 Non v (List.replicate ml.length false) ∧ ∃ b, v.ownBlock = some b ∧ γ b = i) := fun i v γ γ' w w' h e hγ => by
    obtain ⟨ho, b, hb, hg⟩ := h
    exact ⟨ho.extN e, b, hb, by rw [hγ b (ho.lt b hb).2.1]; exact hg⟩
  refine CW.drawM 6 mixed (by kernel_rfl) ?_
  (repeat (refine ML.q rfl rfl rfl (fun γ' w' hw' => WL.pure rfl rfl rfl (WL.nil (EX.mm rfl (Ext.refl _) rfl))) ?_))
  refine ML.fc (fun v γ w => Own w w5.heap.size 4 Non v (List.replicate ml.length false) ∧ ∃ b, v.ownBlock = some b ∧ γ b = 1) rfl rfl rfl (mkS 1) (fun γ w hw => WL.make (α := Bool) rfl rfl rfl rfl (by omega) (by unfold maxLen; omega) (fun w2 ho hgr => WL.nil (EX.mm rfl ((Ext.refl w).grown hgr (Nat.le_refl _) (fun k h => by cases h)) ⟨ho.low ((Ext.drew w5).trans hw).size, _, rfl, by simp [byM]⟩))) ?_
  (repeat (refine ML.q rfl rfl rfl (fun γ' w' hw' => WL.pure rfl rfl rfl (WL.nil (EX.mm rfl (Ext.refl _) rfl))) ?_))
  refine ML.fc (fun v γ w => Own w w5.heap.size 4 Non v (List.replicate ml.length false) ∧ ∃ b, v.ownBlock = some b ∧ γ b = 3) rfl rfl rfl (mkS 3) (fun γ w hw => WL.make (α := Bool) rfl rfl rfl rfl (by omega) (by unfold maxLen; omega) (fun w2 ho hgr => WL.nil (EX.mm rfl ((Ext.refl w).grown hgr (Nat.le_refl _) (fun k h => by cases h)) ⟨ho.low ((Ext.drew w5).trans hw).size, _, rfl, by simp [byM]⟩))) ?_
  refine ML.fc (fun v γ w => Own w w5.heap.size 4 Non v (List.replicate ml.length false) ∧ ∃ b, v.ownBlock = some b ∧ γ b = 1) rfl rfl rfl (mkS 1) (fun γ w hw v37 g37 => WL.pure rfl rfl rfl (WL.nil (EX.mm rfl (Ext.refl _) (by
    obtain ⟨ho, b, hb, hg⟩ := g37
    exact ⟨ho, b, hb, by unfold byM; rw [if_pos (ho.lt b hb).2.1]; exact hg⟩)))) ?_
  refine ML.fc (fun v γ w => Own w w5.heap.size 4 Non v (List.replicate ml.length false) ∧ ∃ b, v.ownBlock = some b ∧ γ b = 3) rfl rfl rfl (mkS 3) (fun γ w hw => by
    intro v39 g39 v11 g11 v37 g37
    change WL _ _ _ _ _ _ _
    refine WL.pure rfl rfl rfl ?_
    refine WL.nil (EX.mm rfl (Ext.refl _) ?_)
    obtain ⟨ho, b, hb, hg⟩ := g11
    exact ⟨ho, b, hb, by unfold byM; rw [if_pos (ho.lt b hb).2.1]; exact hg⟩) ?_
  refine ML.nil fun γ w6 hw6 nv g12 sv g11 v39 g39 v37 g37 => ?_
  change WL _ _ _ _ _ _ _
  refine WL.nil (EX.tailE ?_)
  clear g37 g39
  obtain ⟨hso, sb, hsb, m1⟩ := g11
  obtain ⟨hno, nb, hnb, m2⟩ := g12
  have hsn : sb ≠ nb := fun e => by rw [e] at m1; omega
  have e6 : Ext w5 w6 := (Ext.drew w5).trans hw6
  clear m1 m2 mkS hw6
  (repeat (first | (apply WL.pure; rfl; rfl; rfl) | (apply WL.nil) | (apply EX.thenN) | (apply CW.seq) | (apply CW.region) | (apply WL.fa; rfl; rfl; rfl)))
  have hl5 : ∀ g, g < w5.heap.size → g ≠ sb ∧ g ≠ nb := fun g hg => ⟨by have := (hso.lt sb hsb).1; omega, by have := (hno.lt nb hnb).1; omega⟩
  have hsb6 := (hso.lt sb hsb).2.1
  have hnb6 := (hno.lt nb hnb).2.1
  have hsb5 := (hso.lt sb hsb).1
  have hnb5 := (hno.lt nb hnb).1
  have hmlm := hm.len63
  rw [← preB_zero (f := stillAt ml nl)] at hso
  have hb8x := hb8.ext e6
  (repeat (first | (apply WL.pure; rfl; rfl; rfl) | (apply WL.nil) | (apply EX.thenN) | (apply WL.lenS; rfl; rfl; rfl) | (apply WL.ld; rfl; rfl; rfl; assumption; rfl) | (apply CW.block)))
  refine CW.loop (S := Nat × Value) (fun s => [(3, .pointer (some ⟨w0.heap.size, 0, none⟩)), (6, .pointer (some ⟨w1.heap.size, 0, none⟩)), (8, .pointer (some ⟨w3.heap.size, 0, none⟩)), (11, sv), (12, nv), (13, s.2), (41, .slice mo ml.length mc), (42, .int .i64 ml.length), (43, .int .i64 s.1)])
    (fun s w => s.1 ≤ ml.length ∧ Own w w5.heap.size 4 Non sv (preB ml.length (stillAt ml nl) s.1) ∧ Own w w5.heap.size 4 Non nv (List.replicate ml.length false) ∧ Own w w6.heap.size 3 Non s.2 (endsP ml s.1) ∧ Ext w5 w ∧ w6.heap.size ≤ w.heap.size) (fun s => ml.length - s.1) (0, .slice none 0 0) (by repeat (first | exact trivial | refine ⟨rfl, ?_⟩)) ⟨Nat.zero_le _, hso, hno, by simp [endsP]; exact Own.nil, e6, Nat.le_refl _⟩ ?_
  clear hso hno hb8x
  rintro ⟨i, ev⟩ w7 ⟨hi, hso, hno, heo, e7, hz7⟩
  dsimp only at hi hso hno heo e7 hz7 ⊢
  have hb8x := hb8.ext e7
  have hel := endsP_len (ml := ml) (k := i)
  (repeat (first | (apply WL.pure; rfl; rfl; rfl) | (apply WL.nil) | (apply EX.thenN) | (apply CW.seq) | (apply CW.region)))
  refine CW.cond rfl (fun h => ?_) (fun h => ?_)
  · have hi' : i < ml.length := by simp at h; omega
    have hin : i < nl.length := by omega
    have hnx := endsP_next (ml := ml) (k := i)
    rw [getDG_atM hi'] at hnx
    have hsa : stillAt ml nl i = (decide (nl[i].length = 0) && !emptyB ml[i]) := by unfold stillAt; rw [getDE_at hin, getDG_atM hi']
    (repeat (first | (apply WL.pure; rfl; rfl; rfl) | (apply EX.thenN) | (apply CW.seq) | (apply CW.region) | (apply CW.block) | (apply CW.skip)))
    refine WL.elemN (i := i) rfl rfl rfl rfl rfl (hm.at e7) hi' (fun _ => rfl) (fun u q hu => ?_)
    obtain ⟨ua, uc, rfl, hus⟩ := hu.sl
    clear hu
    have husA : ∀ {w}, Ext w5 w → Sl w (Old w) ua uc ml[i] := fun hw => hus.mono (fun b hb => (hw.block b hb).trans (e7.block b hb).symm) (fun b hb => Nat.lt_of_lt_of_le hb hw.size)
    (repeat (apply WL.pure; rfl; rfl; rfl))
    apply WL.nil
    apply EX.thenN
    refine CW.cutI (S := Unit) (fun _ => [(3, .pointer (some ⟨w0.heap.size, 0, none⟩)), (6, .pointer (some ⟨w1.heap.size, 0, none⟩)), (8, .pointer (some ⟨w3.heap.size, 0, none⟩)), (11, sv), (12, nv), (13, ev), (14, .int .i64 i), (15, .slice ua ml[i].length uc), (41, .slice mo ml.length mc), (42, .int .i64 ml.length), (43, .int .i64 i)])
      (fun _ w => Own w w5.heap.size 4 Non sv (preB ml.length (stillAt ml nl) (i + 1)) ∧ Own w w5.heap.size 4 Non nv (List.replicate ml.length false) ∧ Own w w6.heap.size 3 Non ev (endsP ml i) ∧ Ext w5 w ∧ w7.heap.size ≤ w.heap.size) ?_ ?_
    · have fin : ∀ {w8 w9 : World} (_ : Ext w7 w8), Own w9 w5.heap.size 4 Non sv (preB ml.length (stillAt ml nl) (i + 1)) → w8.grownBy w9 sv.ownBlock → Own w9 w5.heap.size 4 Non sv (preB ml.length (stillAt ml nl) (i + 1)) ∧ Own w9 w5.heap.size 4 Non nv (List.replicate ml.length false) ∧ Own w9 w6.heap.size 3 Non ev (endsP ml i) ∧ Ext w5 w9 ∧ w7.heap.size ≤ w9.heap.size := by
        intro w8 w9 e8 ho9 hg9
        have hm9 : Ext w5 w9 := (e7.trans e8).grown hg9 (e7.trans e8).size (fun g hg => by rw [hsb] at hg; cases hg; exact hsb5)
        refine ⟨ho9, (hno.extN e8).keptN hg9 (fun g hg e => by rw [hsb] at e; rw [hnb] at hg; cases hg; cases e; exact hsn rfl), (heo.extN e8).keptN hg9 (fun g hg e => by rw [hsb] at e; cases e; have := (heo.lt _ hg).1; omega), hm9, Nat.le_trans e8.size hg9.size⟩
      (repeat (first | (apply WL.pure; rfl; rfl; rfl) | (apply CW.region) | (apply WL.fa; rfl; rfl; rfl) | (apply WL.ld; rfl; rfl; rfl; assumption; rfl)))
      refine WL.elemN (i := i) rfl rfl rfl rfl rfl (hn.up e7) hin (fun _ => rfl) (fun u q hu => ?_)
      obtain ⟨va, vc, rfl, hvs⟩ := hu.sl
      clear hu hvs
      by_cases h0 : nl[i].length = 0
      · have b0 : ((nl[i].length : Int) == 0) = true := by rw [beq_iff_eq]; omega
        rw [decide_eq_true h0] at hsa
        (repeat (first | (apply WL.pure; rfl; rfl; rfl) | (apply WL.lenS; rfl; rfl; rfl)))
        rw [b0]
        (repeat (apply WL.pure; rfl; rfl; rfl))
        refine WL.call rfl rfl rfl (empty_ok w7 (husA e7)) ?_
        rintro _ w8 ⟨rfl, e8⟩
        (repeat (apply WL.pure; rfl; rfl; rfl))
        refine WL.set rfl rfl rfl rfl (hso.extN e8) (by omega) (by rw [preB_len]; omega) (fun _ => rfl) (fun _ => rfl) (Rd.mkBool _ _ _) (fun w9 q ho9 hg9 => ?_)
        rw [show (!emptyB ml[i]) = stillAt ml nl i by rw [hsa]; rfl, Int.toNat_natCast, preB_set] at ho9
        (repeat (apply WL.nil))
        exact EX.cutI () (by repeat (first | exact trivial | refine ⟨rfl, ?_⟩)) (fin e8 ho9 hg9)
      · have b0 : ((nl[i].length : Int) == 0) = false := by rw [beq_eq_false_iff_ne]; omega
        rw [decide_eq_false h0] at hsa
        (repeat (first | (apply WL.pure; rfl; rfl; rfl) | (apply WL.lenS; rfl; rfl; rfl)))
        rw [b0]
        (repeat (first | (apply WL.pure; rfl; rfl; rfl) | (apply WL.pass; rfl; rfl)))
        refine WL.set rfl rfl rfl rfl hso (by omega) (by rw [preB_len]; omega) (fun _ => rfl) (fun _ => rfl) (Rd.mkBool _ _ _) (fun w9 q ho9 hg9 => ?_)
        rw [show false = stillAt ml nl i by rw [hsa]; rfl, Int.toNat_natCast, preB_set] at ho9
        (repeat (apply WL.nil))
        exact EX.cutI () (by repeat (first | exact trivial | refine ⟨rfl, ?_⟩)) (fin (Ext.refl _) ho9 hg9)
    · clear hso hno heo hb8x
      rintro _ w8 ⟨hso, hno, heo, e8, hz8⟩
      (repeat (first | (apply WL.pure; rfl; rfl; rfl) | (apply CW.seq) | (apply CW.region)))
      refine WL.call rfl rfl rfl (empty_ok w8 (husA e8)) ?_
      rintro _ w9 ⟨rfl, e9⟩
      have e9' := e8.trans e9
      cases hem : emptyB ml[i]
      · rw [hem, if_neg (by decide), List.append_nil] at hnx
        (repeat (first | (apply WL.add; rfl; rfl; rfl; rfl; omega; omega) | (apply WL.pure; rfl; rfl; rfl) | (apply WL.nil) | (apply EX.thenN) | (apply CW.region) | (apply EX.inN) | (apply CW.condF; rfl) | (apply CW.skip)))
        exact EX.back (i + 1, ev) (by repeat (first | exact trivial | refine ⟨rfl, ?_⟩)) ⟨hi', hso.extN e9, hno.extN e9, by dsimp only; rw [hnx]; exact heo.extN e9, e9', by have := e9.size; omega⟩ (by dsimp only; omega)
      · rw [hem, if_pos rfl] at hnx
        (repeat (first | (apply WL.pure; rfl; rfl; rfl) | (apply WL.nil) | (apply EX.thenN) | (apply CW.region) | (apply CW.condT; rfl)))
        refine WL.app1 (α := Int) (F := Non) (bytes := 8) rfl rfl (fun _ => rfl) rfl rfl (fun _ => rfl) (heo.extN e9) (Rd.mkInt _ _ _) (by have := e9.size; omega) (fun _ h => h.elim) (by decide) (by unfold maxLen; omega) (by omega) (fun ev' w10 p ho10 hg10 hnb10 => ?_)
        rw [← hnx] at ho10
        have hlo := (heo.extN e9).lt
        have e10 := e9'.grown hg10 e9'.size (fun g hg => by have := (hlo g hg).1; have := e6.size; omega)
        have hz9 := e9.size
        have hz10 := hg10.size
        (repeat (first | (apply WL.add; rfl; rfl; rfl; rfl; omega; omega) | (apply WL.pure; rfl; rfl; rfl) | (apply WL.nil) | (apply EX.thenN) | (apply CW.region) | (apply EX.inN)))
        exact EX.back (i + 1, ev') (by repeat (first | exact trivial | refine ⟨rfl, ?_⟩)) ⟨hi', (hso.extN e9).keptN hg10 (fun g hg e => by rw [hsb] at hg; cases hg; have := (hlo _ e.symm).1; omega), (hno.extN e9).keptN hg10 (fun g hg e => by rw [hnb] at hg; cases hg; have := (hlo _ e.symm).1; omega), ho10, e10, by omega⟩ (by dsimp only; omega)
  obtain rfl : i = ml.length := by simp at h; omega
  rw [preB_done] at hso
  change Own w7 w5.heap.size 4 Non sv (stillB ml nl) at hso
  change Own w7 w6.heap.size 3 Non ev (endsL ml) at heo
  have hgl : (grL nl).length = ml.length := by rw [grL_len, hnl]
  have hgr := graph_ok w7 (mo := mo) (mc := mc) (ml := ml.length) (hn.up e7) (by omega) hrow
  unfold spA at hgr
  (repeat (first | (apply EX.thenN) | (apply CW.seq) | (apply CW.region) | (apply WL.ldA; rfl; rfl; rfl; assumption; rfl) | (apply CW.exit) | (apply EX.thenX) | (apply EX.inX)))
  refine WL.call rfl rfl rfl hgr ?_
  rintro gv w8 ⟨vs, hN, e8⟩
  obtain ⟨go, gc, rfl, hgs⟩ := hN.old.sl
  clear hN
  skip
  refine WL.call rfl rfl rfl (Turn_ok w8 hgs) ?_
  rintro _ w9 ⟨tv, vs2, rfl, hN2, e9⟩
  have hchk : chkG (grL nl) = 0 := chkG_of hgok (by omega)
  unfold turnF at hN2
  rw [if_pos hchk] at hN2
  rw [hchk]
  obtain ⟨to, tc, rfl, hts⟩ := hN2.old.sl
  clear hN2
  have e89 := e8.trans e9
  obtain ⟨eo, ec, rfl, hes⟩ := (heo.extN e89).oldN.sl
  have htl : (turnL (grL nl)).length = ml.length := by rw [turnL_len, hgl]
  have hte := turn_edges (g := grL nl) (by omega)
  have hol : okL (turnL (grL nl)).length (endsL ml) := by rw [htl]; exact endsP_ok
  have hreach := Reach_ok w9 hts hes (by have : (endsL ml).length ≤ ml.length := endsP_len; omega)
  rw [reachF_of (turnL_ok _) hol (by omega)] at hreach
  (repeat (first | (apply WL.pure; rfl; rfl; rfl) | (apply WL.nil) | (apply EX.thenN) | (apply CW.seq) | (apply CW.region)))
  refine WL.call rfl rfl rfl hreach ?_
  rintro _ w10 ⟨ov, rfl, hoo, e10⟩
  dsimp only at hoo ⊢
  have e7x := e89.trans e10
  have hso := hso.extN e7x
  have hno := hno.extN e7x
  have e10' := e7.trans e7x
  have hrl : (rchB (turnL (grL nl)) (endsL ml)).length = ml.length := by rw [rchB_len, htl]
  have hz10 := e7x.size
  have hz79 := e89.size
  clear hes hts hgs heo hreach hgr hte hol e8 e9 e89
  rw [← preB_zero (f := fun k => !(rchB (turnL (grL nl)) (endsL ml)).getD k false)] at hno
  have hnvl := hno.val
  obtain ⟨no', nc', hnv⟩ := hnvl
  rw [preB_len] at hnv
  rw [hnv]
  (repeat (first | (apply WL.pure; rfl; rfl; rfl) | (apply WL.nil) | (apply EX.thenN) | (apply CW.seq) | (apply CW.region) | (apply WL.lenS; rfl; rfl; rfl) | (apply CW.block)))
  rw [← hnv]
  have hnever := never_eq (ml := ml) (nl := nl) hnl
  generalize rchB (turnL (grL nl)) (endsL ml) = okl at *
  refine CW.loop (S := Nat) (fun i => [(3, .pointer (some ⟨w0.heap.size, 0, none⟩)), (6, .pointer (some ⟨w1.heap.size, 0, none⟩)), (8, .pointer (some ⟨w3.heap.size, 0, none⟩)), (11, sv), (12, nv), (18, ov), (83, .int .i64 ml.length), (84, .int .i64 i)])
    (fun i w => i ≤ ml.length ∧ Own w w5.heap.size 4 Non sv (stillB ml nl) ∧ Own w w5.heap.size 4 Non nv (preB ml.length (fun k => !okl.getD k false) i) ∧ Own w w9.heap.size 4 Non ov okl ∧ Ext w5 w) (fun i => ml.length - i) 0 (by repeat (first | exact trivial | refine ⟨rfl, ?_⟩)) ⟨Nat.zero_le _, hso, hno, hoo, e10'⟩ ?_
  clear hso hno hoo
  rintro i w11 ⟨hi, hso, hno, hoo, e11⟩
  (repeat (first | (apply WL.pure; rfl; rfl; rfl) | (apply WL.nil) | (apply EX.thenN) | (apply CW.seq) | (apply CW.region)))
  refine CW.cond rfl (fun h => ?_) (fun h => ?_)
  · have hi' : i < ml.length := by simp at h; omega
    (repeat (first | (apply WL.pure; rfl; rfl; rfl) | (apply WL.nil) | (apply EX.thenN) | (apply CW.seq) | (apply CW.region) | (apply CW.block) | (apply CW.skip)))
    refine WL.elemO (i := (i : Int)) rfl rfl rfl rfl rfl hoo (by omega) (by omega) (fun _ => rfl) (fun u q hu => ?_)
    obtain rfl := hu.bool
    have hget : okl[((i : Nat) : Int).toNat]'(by rw [Int.toNat_natCast]; omega) = okl.getD i false := by
      rw [List.getD_eq_getElem?_getD, List.getElem?_eq_getElem (by omega)]; rfl
    rw [hget]
    (repeat (apply WL.pure; rfl; rfl; rfl))
    refine WL.set rfl rfl rfl rfl hno (by omega) (by rw [preB_len]; omega) (fun _ => rfl) (fun _ => rfl) (Rd.mkBool _ _ _) (fun w12 q hno12 hg12 => ?_)
    rw [Int.toNat_natCast, preB_set] at hno12
    have e12 := e11.grown hg12 e11.size (fun g hg => by rw [hnb] at hg; cases hg; exact hnb5)
    (repeat (first | (apply WL.add; rfl; rfl; rfl; rfl; omega; omega) | (apply WL.pure; rfl; rfl; rfl) | (apply WL.nil) | (apply EX.thenN) | (apply CW.region) | (apply EX.inN)))
    exact EX.back (i + 1) (by repeat (first | exact trivial | refine ⟨rfl, ?_⟩)) ⟨hi', hso.keptN hg12 (fun g hg e => by rw [hnb] at e; rw [hsb] at hg; cases hg; cases e; exact hsn rfl), hno12, hoo.keptN hg12 (fun g hg e => by rw [hnb] at e; cases e; have := (hoo.lt _ hg).1; omega), e12⟩ (by omega)
  obtain rfl : i = ml.length := by simp at h; omega
  rw [preB_done, ← hnever] at hno
  clear hoo hnever hnv
  have hb3 := hb3.ext e11
  have hb8 := hb8.ext e11
  have hE11 := hE5.trans e11
  have hn := hn.up e11
  have hb6 := hb6.ext e11
  have hdead := dead_ok w11 (mo := mo) (mc := mc) (ml := ml.length) (hs.up hE11) (hf.up hE11) hn hz hstp
  unfold spA at hdead
  (repeat (first | (apply EX.thenN) | (apply CW.seq) | (apply CW.region) | (apply WL.ldA; rfl; rfl; rfl; assumption; rfl) | (apply CW.exit) | (apply EX.thenX) | (apply EX.inX)))
  refine WL.call rfl rfl rfl hdead ?_
  rintro dv w12 ⟨hod, e12⟩
  have hb3 := hb3.ext e12
  have hb8 := hb8.ext e12
  have hb6 := hb6.ext e12
  have hE12 := hE11.trans e12
  have hn := hn.up e12
  have hso := hso.extN e12
  have hno := hno.extN e12
  obtain ⟨do', dc, rfl⟩ := hod.val
  clear hdead
  skip
  refine WL.build rfl rfl rfl rfl ?_
  skip
  refine WL.alloc rfl rfl (fun w13 hb21 e13 => ?_)
  skip
  refine WL.st rfl rfl rfl hb21 rfl rfl (ones_of rfl) (fun w14 hb21 hg14 => ?_)
  have e14 : Ext w12 w14 := e13.grown hg14 e13.size (fun g hg => by cases hg; exact Nat.le_refl _)
  have hl21 := hb21.lt
  have hb8 := hb8.ext e14
  have hb6 := hb6.ext e14
  have hz14 := e14.size
  have hz12 := hE12.size
  clear e13 hg14
  have hb21 : Blk w14 w12.heap.size 41 [.slice do' (deadL (ns, fl) nl).length dc, .int .i64 0, .int .i64 0, .slice none 0 0, .slice none 0 0] := hb21
  have hstl : (stillB ml nl).length = nl.length := by unfold stillB; rw [List.length_map, List.length_range, hnl]
  have hnvl : (neverB ml nl).length = nl.length := by rw [never_eq hnl, List.length_map, List.length_range, hnl]
  obtain ⟨so', sc', rfl⟩ := hso.val
  obtain ⟨no', nc', rfl⟩ := hno.val
  have hss : Sl w12 (Old w12) so' sc' (stillB ml nl) := by
    obtain ⟨a, c, e, h⟩ := hso.oldN.sl
    obtain ⟨rfl, _, rfl⟩ := Value.slice.inj e
    exact h
  have hns : Sl w12 (Old w12) no' nc' (neverB ml nl) := by
    obtain ⟨a, c, e, h⟩ := hno.oldN.sl
    obtain ⟨rfl, _, rfl⟩ := Value.slice.inj e
    exact h
  have hf1 := fun w (hw : Ext w12 w) => first_ok w (mo := mo) (mc := mc) (ml := ml.length) (hn.up hw) (hss.up hw) hstl (by omega) hrow
  have hf2 := fun w (hw : Ext w12 w) => first_ok w (mo := mo) (mc := mc) (ml := ml.length) (hn.up hw) (hns.up hw) hnvl (by omega) hrow
  unfold spA at hf1 hf2
  unfold findingL
  clear hso hno hss hns hn
  have hb8l := (hb8.lt)
  have h8ne : w3.heap.size ≠ w12.heap.size := by have := e11.size; have := e12.size; omega
  have h6ne : w1.heap.size ≠ w12.heap.size := by have := e11.size; have := e12.size; omega
  (repeat (first | (apply WL.pure; rfl; rfl; rfl) | (apply WL.nil) | (apply EX.thenN) | (apply CW.seq) | (apply CW.region) | (apply WL.ldA; rfl; rfl; rfl; assumption; rfl)))
  refine WL.call rfl rfl rfl (hf1 w14 e14) ?_
  rintro _ w15 ⟨sx, rfl, hox, e15⟩
  obtain ⟨sxo, sxc, rfl⟩ := hox.val
  have hb8 := hb8.ext e15
  have hb6 := hb6.ext e15
  have hb21 := hb21.ext e15
  have hz15 := e15.size
  have e15x := e14.trans e15
  (repeat (first | (apply WL.pure; rfl; rfl; rfl) | (apply WL.fa; rfl; rfl; rfl)))
  refine WL.st rfl rfl rfl hb21 rfl rfl (ones_of rfl) (fun w16 hb21 hg16 => ?_)
  (repeat (apply WL.fa; rfl; rfl; rfl))
  refine WL.st rfl rfl rfl hb21 rfl rfl (ones_of rfl) (fun w17 hb21 hg17 => ?_)
  have n21 : ∀ {v : Value} {xs : List Int} {w : World}, Own w w14.heap.size 3 Non v xs → ∀ g, v.ownBlock = some g → ¬ (some g = some w12.heap.size) := fun h g hg e => by have := (h.lt g hg).1; cases e; omega
  have hox := (hox.keptN hg16 (fun g hg e => n21 hox g hg e))
  have hox := (hox.keptN hg17 (fun g hg e => n21 hox g hg e))
  have hb8 := (hb8.kept hg16 (fun e => h8ne (Option.some.inj e))).kept hg17 (fun e => h8ne (Option.some.inj e))
  have hb6 := (hb6.kept hg16 (fun e => h6ne (Option.some.inj e))).kept hg17 (fun e => h6ne (Option.some.inj e))
  have e16 : Ext w12 w16 := (e15x.grown hg16 e15x.size (fun g hg => by cases hg; exact Nat.le_refl _))
  have e17 : Ext w12 w17 := (e16.grown hg17 e16.size (fun g hg => by cases hg; exact Nat.le_refl _))
  have hb21 : Blk w17 w12.heap.size 41 [.slice do' (deadL (ns, fl) nl).length dc, .int .i64 (firstE nl (stillB ml nl)).1, .int .i64 0, .slice sxo (firstE nl (stillB ml nl)).2.length sxc, .slice none 0 0] := hb21
  (repeat (first | (apply WL.pure; rfl; rfl; rfl) | (apply WL.nil) | (apply EX.thenN) | (apply CW.seq) | (apply CW.region) | (apply WL.ldA; rfl; rfl; rfl; assumption; rfl)))
  refine WL.call rfl rfl rfl (hf2 w17 e17) ?_
  rintro _ w18 ⟨nx, rfl, hon, e18⟩
  obtain ⟨nxo, nxc, rfl⟩ := hon.val
  have hb6 := hb6.ext e18
  have hb21 := hb21.ext e18
  have e18x := e17.trans e18
  have hox := hox.extN e18
  have hz17 := e17.size
  (repeat (first | (apply WL.pure; rfl; rfl; rfl) | (apply WL.fa; rfl; rfl; rfl)))
  refine WL.st rfl rfl rfl hb21 rfl rfl (ones_of rfl) (fun w19 hb21 hg19 => ?_)
  (repeat (apply WL.fa; rfl; rfl; rfl))
  refine WL.st rfl rfl rfl hb21 rfl rfl (ones_of rfl) (fun w20 hb21 hg20 => ?_)
  have hon := hon.low (show w14.heap.size ≤ w17.heap.size by have := hg16.size; have := hg17.size; omega)
  have hox := (hox.keptN hg19 (fun g hg e => n21 hox g hg e))
  have hox := (hox.keptN hg20 (fun g hg e => n21 hox g hg e))
  have hon := (hon.keptN hg19 (fun g hg e => n21 hon g hg e))
  have hon := (hon.keptN hg20 (fun g hg e => n21 hon g hg e))
  have hb6 := (hb6.kept hg19 (fun e => h6ne (Option.some.inj e))).kept hg20 (fun e => h6ne (Option.some.inj e))
  have e19 : Ext w12 w19 := (e18x.grown hg19 e18x.size (fun g hg => by cases hg; exact Nat.le_refl _))
  have e20 : Ext w12 w20 := (e19.grown hg20 e19.size (fun g hg => by cases hg; exact Nat.le_refl _))
  have hb21 : Blk w20 w12.heap.size 41 [.slice do' (deadL (ns, fl) nl).length dc, .int .i64 (firstE nl (stillB ml nl)).1, .int .i64 (firstE nl (neverB ml nl)).1, .slice sxo (firstE nl (stillB ml nl)).2.length sxc, .slice nxo (firstE nl (neverB ml nl)).2.length nxc] := hb21
  have hod := hod.extN e20
  have hE20 := hE12.trans e20
  clear hg16 hg17 hg19 hg20 e17 e18 e18x e15 e15x hf1 hf2
  (repeat (first | (apply WL.nil) | (apply EX.thenN) | (apply CW.seq) | (apply CW.region) | (apply WL.ldA; rfl; rfl; rfl; assumption; rfl)))
  refine WL.st rfl rfl rfl hb6 rfl rfl (ones_of rfl) (fun w21 hb6 hg21 => ?_)
  have m6 : ∀ {v : Value} {xs : List Int} {B : Nat}, w1.heap.size < B → Own w20 B 3 Non v xs → Own w21 B 3 Non v xs := fun hB h => h.keptN hg21 (fun g hg e => by cases e; have := (h.lt _ hg).1; omega)
  have hod := m6 (by have := e11.size; omega) hod
  have hox := m6 (by omega) hox
  have hon := m6 (by omega) hon
  (repeat (first | (apply WL.pure; rfl; rfl; rfl) | (apply WL.nil) | (apply EX.thenN) | (apply CW.ret)))
  exact EX.retC2 rfl rfl rfl hb6 rfl ⟨_, _, _, rfl, hod.oldN, hox.oldN, hon.oldN, hE20.grown hg21 hE20.size (fun g hg => by cases hg; exact hs1)⟩
end Go.Proofs.Ytljcnopekjinjaa
/-
  Findings about a process: plain laws.
-/
set_option linter.unusedVariables false
set_option linter.unusedSimpArgs false
namespace Go.Proofs.Ytljcnopekjinjaa

theorem grL_row {nl : List (List LEdge)} {n : Nat} (h : n < nl.length) : (grL nl).getD n [] = toRow nl n := by
  unfold grL
  rw [List.getD_eq_getElem?_getD, List.getElem?_map, List.getElem?_range h]; rfl
theorem toRow_mem {nl : List (List LEdge)} {n : Nat} {x : Int} : x ∈ toRow nl n ↔ ∃ e ∈ nl.getD n [], e.2 = x := by
  unfold toRow
  rw [List.mem_map]
section
variable {p : LProc} {ml : List (List Int)} {nl : List (List LEdge)}
theorem all_rch (hs : SpOk p ml nl) (hl : nl.length = ml.length) : ∀ i, i < ml.length → Rch (grL nl) [0] i := by
  intro i
  induction i using Nat.strongRecOn with
  | ind i ih =>
    intro hi
    by_cases h0 : i = 0
    · subst h0
      exact Rch.base (x := 0) (by simp)
    · obtain ⟨j, h1, h2, e, h3, h4⟩ := hs.fr i (by omega) hi
      have := Rch.step (x := (i : Int)) (ih j h1 (by omega)) (by rw [grL_row h2]; exact toRow_mem.2 ⟨e, h3, h4⟩)
      simpa using this
/-- a list that goes along edges from the first marking -/
structure PathOk (nl : List (List LEdge)) (l : List Int) : Prop where
  ne : 0 < l.length
  inR : ∀ i (hi : i < l.length), 0 ≤ l[i] ∧ l[i] < nl.length
  first : l[0] = 0
  edge : ∀ i (hi : i + 1 < l.length), l[i + 1] ∈ toRow nl l[i].toNat
theorem way_path (hs : SpOk p ml nl) (hl : nl.length = ml.length) (h200 : nl.length ≤ 200) {k : Nat} (hk : k < nl.length) : PathOk nl (wayL nl k) ∧ ∀ h : (wayL nl k).length - 1 < (wayL nl k).length, (wayL nl k)[(wayL nl k).length - 1] = (k : Int) := by
  have hg := grL_ok hs hl
  have htl : (oneB nl.length k).length = nl.length := by simp [oneB]
  have herr : (wayF (grL nl) [0] (oneB nl.length k)).2.2 = 0 := by
    unfold wayF
    rw [if_neg (by rw [chkG_of hg (by rw [grL_len]; omega)]; decide), if_neg, ]
    · split <;> rfl
    · rintro (h | h)
      · rw [oddB_false.2 (fun x hx => by rw [List.mem_singleton] at hx; rw [grL_len]; omega)] at h; cases h
      · exact h (by rw [htl, grL_len])
  obtain ⟨_, _, _, _, hS⟩ := wayF_ok herr
  change Short (grL nl) [0] (oneB nl.length k) (wayL nl k) _ at hS
  have hone : ∀ x : Nat, (oneB nl.length k).getD x false = decide (x = k) := fun x => by
    unfold oneB
    rw [List.getD_eq_getElem?_getD, List.getElem?_set]
    by_cases e : k = x
    · subst e; simp [hk]
    · rw [if_neg e]
      have : decide (x = k) = false := by simp; omega
      rw [this, List.getElem?_replicate]
      split <;> rfl
  have hpos : 0 < (wayL nl k).length := by
    have h1 := hS.come.2 ⟨k, by rw [grL_len]; exact hk, all_rch hs hl k (by omega), by rw [hone]; simp⟩
    have h2 := hS.len
    rw [h1] at h2
    simpa using h2.symm
  have hin : ∀ i (hi : i < (wayL nl k).length), 0 ≤ (wayL nl k)[i] ∧ (wayL nl k)[i] < nl.length := fun i hi => by have := hS.inR i hi; rwa [grL_len] at this
  refine ⟨⟨hpos, hin, by have := hS.first hpos; simpa using this, fun i hi => ?_⟩, fun h => ?_⟩
  · have h1 := hS.edge (i + 1) hi (by omega)
    have h2 := hin i (by omega)
    simp only [Nat.add_sub_cancel] at h1
    rwa [grL_row (by omega)] at h1
  · have h1 := hS.last _ h
    rw [hone] at h1
    have h2 := hin _ h
    simp at h1
    omega
theorem along_play (hs : SpOk p ml nl) (hl : nl.length = ml.length) {l : List Int} (hp : PathOk nl l) : ∀ i (hi : i < l.length), ∃ ms : List (List Int), ms.length = i ∧ (alongP nl l i).length = i ∧ (ml.getD (l[0]'hp.ne).toNat [] :: ms).getD i [] = ml.getD l[i].toNat [] ∧
    ∀ r, playGo p (alongP nl l i ++ r) (ml.getD (l[0]'hp.ne).toNat []) = (ms ++ (playGo p r (ml.getD l[i].toNat [])).1, i + (playGo p r (ml.getD l[i].toNat [])).2.1, (playGo p r (ml.getD l[i].toNat [])).2.2)
  | 0, hi => ⟨[], rfl, by simp [alongP], by simp, fun r => by simp [alongP]⟩
  | i + 1, hi => by
    obtain ⟨ms, h1, h2, h3, h4⟩ := along_play hs hl hp i (by omega)
    have hr := hp.inR i (by omega)
    have hed := hp.edge i hi
    obtain ⟨e, he1, he2⟩ := toRow_mem.1 hed
    have hx : ∃ x ∈ nl.getD l[i].toNat [], x.2 = l[i + 1] ∧ alongRow (nl.getD l[i].toNat []) l[i + 1] = [x.1] := by
      unfold alongRow
      cases hf : (nl.getD l[i].toNat []).find? (fun x => x.2 == l[i + 1]) with
      | none =>
        have := List.find?_eq_none.1 hf e he1
        simp [he2] at this
      | some x => exact ⟨x, List.mem_of_find?_eq_some hf, by simpa using List.find?_some hf, rfl⟩
    obtain ⟨x, hx1, hx2, hx3⟩ := hx
    obtain ⟨f1, f2, f3, f4⟩ := hs.ed l[i].toNat (by omega) x hx1
    have hg0 : l.getD i 0 = l[i] := by rw [List.getD_eq_getElem?_getD, List.getElem?_eq_getElem (by omega)]; rfl
    have hg1 : l.getD (i + 1) 0 = l[i + 1] := by rw [List.getD_eq_getElem?_getD, List.getElem?_eq_getElem hi]; rfl
    have hnx := alongP_next (nl := nl) (ms := l) (k := i)
    rw [hg0, hg1, hx3] at hnx
    rw [hx2] at f4
    refine ⟨ms ++ [ml.getD l[i + 1].toNat []], by simp [h1], by rw [hnx, List.length_append, h2]; rfl, ?_, fun r => ?_⟩
    · generalize ml.getD l[i + 1].toNat [] = q
      rw [← List.cons_append, List.getD_eq_getElem?_getD, List.getElem?_append_right (by simp [h1])]
      simp [h1]
    · rw [hnx, List.append_assoc, h4, List.singleton_append, playGo, if_neg (by rw [f1]; decide), ← f4]
      simp
      omega
theorem idxOf_val {is : List Bool} : (idxOf (fun y => true == y) is = -1 ∧ true ∉ is) ∨ ∃ n : Nat, idxOf (fun y => true == y) is = (n : Int) ∧ n < is.length ∧ is.getD n false = true := by
  unfold idxOf
  cases e : is.findIdx? (fun y => true == y) with
  | none =>
    refine .inl ⟨rfl, fun h => ?_⟩
    have := List.findIdx?_eq_none_iff.1 e true h
    simp at this
  | some i =>
    obtain ⟨h1, h2, _⟩ := List.findIdx?_eq_some_iff_getElem.1 e
    refine .inr ⟨i, rfl, h1, ?_⟩
    rw [List.getD_eq_getElem?_getD, List.getElem?_eq_getElem h1]
    simpa using h2
theorem first_law (hs : SpOk p ml nl) (hl : nl.length = ml.length) (h200 : nl.length ≤ 200) (hz : (stepsE p).2 = 0) (hb : ml.getD 0 [] = beginL p) {is : List Bool} (hi : is.length = nl.length) :
    ((firstE nl is).1 = -1 ∧ (firstE nl is).2 = [] ∧ true ∉ is) ∨ ∃ n : Nat, (firstE nl is).1 = (n : Int) ∧ n < ml.length ∧ is.getD n false = true ∧ ∃ ms, playE p (firstE nl is).2 = (beginL p :: ms, (firstE nl is).2.length, 0) ∧ (beginL p :: ms).getD ms.length [] = ml.getD n [] := by
  unfold firstE
  rcases idxOf_val (is := is) with ⟨h1, h2⟩ | ⟨n, h1, h2, h3⟩
  · rw [h1, if_pos (by decide)]
    exact .inl ⟨rfl, rfl, h2⟩
  · rw [h1, if_neg (by omega), Int.toNat_natCast]
    refine .inr ⟨n, rfl, by omega, h3, ?_⟩
    obtain ⟨hp, hlast⟩ := way_path hs hl h200 (k := n) (by omega)
    have hne := hp.ne
    obtain ⟨ms, a1, a2, a3, a4⟩ := along_play hs hl hp ((wayL nl n).length - 1) (by omega)
    rw [hp.first, show (0 : Int).toNat = 0 from rfl, hb] at a3 a4
    have h4 := a4 []
    rw [List.append_nil] at h4
    have hwl : (wayL nl n).length ≤ nl.length + 1 := by have := wayF_len (g := grL nl) (f := [0]) (to := oneB nl.length n); rwa [grL_len] at this
    refine ⟨ms, ?_, ?_⟩
    · dsimp only
      unfold playE
      rw [if_neg (by simp [hz]), if_neg (by unfold alongL; omega)]
      unfold alongL
      rw [h4, a2]
      simp [playGo]
    · rw [a1, a3, hlast (by omega), Int.toNat_natCast]
theorem still_never (hl : nl.length = ml.length) {n : Nat} (hn : n < ml.length) (h : (stillB ml nl).getD n false = true) : (nl.getD n []).length = 0 ∧ emptyB (ml.getD n []) = false ∧ true ∈ neverB ml nl := by
  unfold stillB at h
  rw [List.getD_eq_getElem?_getD, List.getElem?_map, List.getElem?_range hn] at h
  have h : stillAt ml nl n = true := h
  unfold stillAt at h
  simp only [Bool.and_eq_true, decide_eq_true_eq, Bool.not_eq_true'] at h
  refine ⟨h.1, h.2, ?_⟩
  have hno : ¬ Rch (turnL (grL nl)) (endsL ml) n := by
    have key : ∀ m, Rch (turnL (grL nl)) (endsL ml) m → m ≠ n := by
      intro m hm
      cases hm with
      | @base x hx =>
        intro e
        unfold endsL endsP at hx
        rw [List.mem_map] at hx
        obtain ⟨i, hi, rfl⟩ := hx
        have := (List.mem_filter.1 hi).2
        rw [Int.toNat_natCast] at e
        subst e
        rw [h.2] at this; cases this
      | @step m x hr hx =>
        intro e
        have hmg : m < (turnL (grL nl)).length := by
          apply Classical.byContradiction
          intro h
          rw [List.getD_eq_getElem?_getD, List.getElem?_eq_none (by omega)] at hx
          cases hx
        have hxr := okG_row (turnL_ok (grL nl)) m x hx
        have hx' : ((n : Nat) : Int) ∈ (turnL (grL nl)).getD m [] := by rw [← e, show ((x.toNat : Nat) : Int) = x by omega]; exact hx
        rw [turnL_len] at hmg
        have := ((turnL_mem hmg).1 hx').2
        rw [grL_row (by omega)] at this
        obtain ⟨e', h1, _⟩ := toRow_mem.1 this
        rw [List.eq_nil_of_length_eq_zero h.1] at h1
        cases h1
    exact fun h => key n h rfl
  rw [never_eq hl]
  rw [List.mem_map]
  refine ⟨n, List.mem_range.2 hn, ?_⟩
  have hlen : n < (rchB (turnL (grL nl)) (endsL ml)).length := by rw [rchB_len, turnL_len, grL_len]; omega
  rw [List.getD_eq_getElem?_getD, List.getElem?_eq_getElem hlen]
  cases e : (rchB (turnL (grL nl)) (endsL ml))[n] with
  | false => rfl
  | true => exact absurd ((rchB_iff hlen).1 e) hno
end
end Go.Proofs.Ytljcnopekjinjaa
