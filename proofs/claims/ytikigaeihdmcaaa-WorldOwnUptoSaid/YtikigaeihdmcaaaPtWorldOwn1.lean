import Derived.WalkKit
import Derived.ProofKit
import Derived.Deep.Quiet
import Derived.Deep.LoopGhost
/-
  The engine of our walks: frames as short lists of slots, weakest preconditions over them, pure operations by evaluation. Over any program.
-/
set_option linter.unusedVariables false
set_option linter.unusedSimpArgs false
namespace Go.Proofs.Ytikigaeihdmcaaa
open Go.RowKit

/- FRAMES -/
abbrev Sg := List (Nat × Value)

def fnd : Sg → Nat → Option Value
  | [], _ => none
  | (k, v) :: r, t => match Nat.beq k t with
    | true => some v
    | false => fnd r t

structure Fr (n : Nat) (σ : Sg) (a : Act) : Prop where
  size : a.tmps.size = n
  defers : a.defers = []
  slot : ∀ t v, fnd σ t = some v → a.tmps.getD t undef = v

def ev (σ : Sg) : Operand → Option Value
  | .tmp t => fnd σ t
  | .const v => some v
  | .global g => some (.pointer (some ⟨g, 0, none⟩))
  | .func f => some (.func (.func f) #[] #[])

theorem Fr.ev {n : Nat} {σ : Sg} {a : Act} (h : Fr n σ a) {x : Operand} {v : Value} (hx : ev σ x = some v) : a.eval x = v := by
  cases x with
  | tmp t => exact h.slot t v hx
  | const u => exact Option.some.inj hx
  | global g => exact Option.some.inj hx
  | func f => exact Option.some.inj hx

def putS (d : Option Nat) (v : Value) (σ : Sg) : Sg := match d with | some d => (d, v) :: σ | none => σ

theorem fnd_cons_eq {σ : Sg} {d : Nat} {v : Value} : fnd ((d, v) :: σ) d = some v := by
  show (match Nat.beq d d with | true => some v | false => fnd σ d) = _
  rw [Nat.beq_refl d]
theorem beq_ne {d t : Nat} (h : d ≠ t) : Nat.beq d t = false := by
  cases e : Nat.beq d t with
  | false => rfl
  | true => exact absurd (Nat.eq_of_beq_eq_true e) h
theorem fnd_cons_ne {σ : Sg} {d t : Nat} {v : Value} (h : d ≠ t) : fnd ((d, v) :: σ) t = fnd σ t := by
  show (match Nat.beq d t with | true => some v | false => fnd σ t) = _
  rw [beq_ne h]

def okD (n : Nat) : Option Nat → Bool | some d => Nat.ble (d + 1) n | none => true

theorem Fr.put {n : Nat} {σ : Sg} {a : Act} (h : Fr n σ a) {d : Option Nat} {v : Value} (hd : okD n d = true) : Fr n (putS d v σ) (a.put d v) := by
  cases d with
  | none => exact h
  | some d =>
    have hd' : d < n := Nat.le_of_ble_eq_true hd
    refine ⟨by simpa [Act.put] using h.size, by simpa [Act.put] using h.defers, ?_⟩
    intro t u hu
    by_cases e : d = t
    · subst e
      rw [putS, fnd_cons_eq] at hu
      cases hu
      simp [Act.put, Array.getD, h.size, hd']
    · rw [putS, fnd_cons_ne e] at hu
      have := h.slot t u hu
      simp only [Act.put, Array.getD_eq_getD_getElem?] at this ⊢
      rw [Array.getElem?_setIfInBounds_ne e]
      exact this

/-- one more binding of a slot that holds that value anyway -/
theorem Fr.set {n : Nat} {σ : Sg} {a : Act} (h : Fr n σ a) {s : Nat} {v : Value} (hs : fnd σ s = some v) : Fr n ((s, v) :: σ) a := by
  refine ⟨h.size, h.defers, fun t u hu => ?_⟩
  by_cases e : s = t
  · subst e; rw [fnd_cons_eq] at hu; cases hu; exact h.slot _ _ hs
  · rw [fnd_cons_ne e] at hu; exact h.slot _ _ hu

/-- every binding of τ is one of σ -/
def Sub : Sg → Sg → Prop
  | [], _ => True
  | p :: r, σ => fnd σ p.1 = some p.2 ∧ Sub r σ
theorem Sub.fnd {τ σ : Sg} (h : Sub τ σ) : ∀ t v, fnd τ t = some v → fnd σ t = some v := by
  induction τ with
  | nil => intro t v hv; cases hv
  | cons p r ih =>
    intro t v hv
    by_cases e : p.1 = t
    · subst e
      obtain ⟨d, u⟩ := p
      rw [fnd_cons_eq] at hv
      cases hv
      exact h.1
    · obtain ⟨d, u⟩ := p
      rw [fnd_cons_ne e] at hv
      exact ih h.2 t v hv
theorem Fr.sub {n : Nat} {σ τ : Sg} {a : Act} (h : Fr n σ a) (hs : Sub τ σ) : Fr n τ a := ⟨h.size, h.defers, fun t v hv => h.slot t v (hs.fnd t v hv)⟩

/- WEAKEST PRECONDITIONS -/
@[irreducible] def CW (P : Program) (c : Code) (Q : Exit → Act → World → Prop) (n : Nat) (σ : Sg) (w : World) : Prop := ∀ a, Fr n σ a → c.wp P Q a w
/-- an ending -/
@[irreducible] def EX (Q : Exit → Act → World → Prop) (e : Exit) (n : Nat) (σ : Sg) (w : World) : Prop := ∀ a, Fr n σ a → Q e a w
@[irreducible] def WL (P : Program) (ops : List Oper) (Q : Exit → Act → World → Prop) (l : List Oper) (n : Nat) (σ : Sg) (w : World) : Prop := ∀ a, Fr n σ a → wpList P ops.toArray Q l a w

section
variable {P : Program} {Q : Exit → Act → World → Prop} {n : Nat} {σ : Sg} {w : World}

theorem CW.seq {x y : Code} (h : CW P x (Exit.then (y.wp P Q) Q) n σ w) : CW P (.seq x y) Q n σ w := by
  unfold CW at *; exact fun a ha => wp_seq (h a ha)
theorem EX.thenN {y : Code} (h : CW P y Q n σ w) : EX (Exit.then (y.wp P Q) Q) .normal n σ w := by
  unfold EX CW at *; exact fun a ha => h a ha
theorem EX.thenX {id : Nat} {R : Act → World → Prop} (h : EX Q (.exit id) n σ w) : EX (Exit.then R Q) (.exit id) n σ w := by
  unfold EX at *; exact fun a ha => h a ha
theorem EX.thenR {R : Act → World → Prop} (h : EX Q .ret n σ w) : EX (Exit.then R Q) .ret n σ w := by
  unfold EX at *; exact fun a ha => h a ha
theorem EX.inN {id : Nat} (h : EX Q .normal n σ w) : EX (Exit.inBlock id Q) .normal n σ w := by
  unfold EX at *; exact fun a ha => h a ha
theorem EX.inR {id : Nat} (h : EX Q .ret n σ w) : EX (Exit.inBlock id Q) .ret n σ w := by
  unfold EX at *; exact fun a ha => h a ha
theorem EX.inX {id : Nat} (h : EX Q .normal n σ w) : EX (Exit.inBlock id Q) (.exit id) n σ w := by
  unfold EX at *; intro a ha; show (if id = id then _ else _); rw [if_pos rfl]; exact h a ha
theorem EX.inXne {id id' : Nat} (hne : Nat.beq id' id = false) (h : EX Q (.exit id') n σ w) : EX (Exit.inBlock id Q) (.exit id') n σ w := by
  unfold EX at *; intro a ha; show (if id' = id then _ else _)
  rw [if_neg (fun e => by subst e; rw [Nat.beq_refl id'] at hne; cases hne)]; exact h a ha
theorem CW.block {id : Nat} {c : Code} (h : CW P c (Exit.inBlock id Q) n σ w) : CW P (.block id c) Q n σ w := by
  unfold CW at *; exact fun a ha => wp_block (h a ha)
theorem CW.exit {id : Nat} (h : EX Q (.exit id) n σ w) : CW P (.exit id) Q n σ w := by
  unfold CW EX at *; exact fun a ha => wp_exit (h a ha)
theorem CW.ret (h : EX Q .ret n σ w) : CW P .ret Q n σ w := by
  unfold CW EX at *; exact fun a ha => wp_ret (h a ha)
theorem CW.skip (h : EX Q .normal n σ w) : CW P .skip Q n σ w := by
  unfold CW EX at *; exact fun a ha => wp_skip (h a ha)
theorem CW.cond {c : Operand} {x y : Code} {t : Bool} (hc : ev σ c = some (.bool t)) (ht : t = true → CW P x Q n σ w) (hf : t = false → CW P y Q n σ w) : CW P (.cond c x y) Q n σ w := by
  unfold CW at *
  exact fun a ha => wp_cond_split (ha.ev hc) (fun h => ht h a ha) (fun h => hf h a ha)
theorem CW.condT {c : Operand} {x y : Code} (hc : ev σ c = some (.bool true)) (ht : CW P x Q n σ w) : CW P (.cond c x y) Q n σ w :=
  CW.cond hc (fun _ => ht) (fun h => by cases h)
theorem CW.condF {c : Operand} {x y : Code} (hc : ev σ c = some (.bool false)) (hf : CW P y Q n σ w) : CW P (.cond c x y) Q n σ w :=
  CW.cond hc (fun h => by cases h) (fun _ => hf)
theorem CW.region {id : Nat} {l : List Oper} (h : WL P l Q l n σ w) : CW P (.region id l.toArray false) Q n σ w := by
  unfold CW WL at *; exact fun a ha => wp_region_lit (h a ha)
theorem CW.sub {c : Code} {τ : Sg} (hs : Sub τ σ) (h : CW P c Q n τ w) : CW P c Q n σ w := by
  unfold CW at *; exact fun a ha => h a (ha.sub hs)
theorem WL.nil {l : List Oper} (h : EX Q .normal n σ w) : WL P l Q [] n σ w := by
  unfold WL EX at *; exact fun a ha => wpList_nil (h a ha)
theorem WL.sub {l l' : List Oper} {τ : Sg} (hs : Sub τ σ) (h : WL P l Q l' n τ w) : WL P l Q l' n σ w := by
  unfold WL at *; exact fun a ha => h a (ha.sub hs)
theorem EX.sub {e : Exit} {τ : Sg} (hs : Sub τ σ) (h : EX Q e n τ w) : EX Q e n σ w := by
  unfold EX at *; exact fun a ha => h a (ha.sub hs)

/- LOOPS: a relation over a type of states; each state says its slots -/
def Back {S : Type} (n : Nat) (σs : S → Sg) (I : S → World → Prop) (μ : S → Nat) (s : S) : Act → World → Prop :=
  fun a w => ∃ s', Fr n (σs s') a ∧ I s' w ∧ μ s' < μ s
theorem CW.loop {S : Type} {c : Code} (σs : S → Sg) (I : S → World → Prop) (μ : S → Nat) (s0 : S) (hs : Sub (σs s0) σ) (h0 : I s0 w)
    (round : ∀ s w, I s w → CW P c (Exit.then (Back n σs I μ s) Q) n (σs s) w) : CW P (.loop c) Q n σ w := by
  unfold CW at *
  intro a ha
  refine wp_loop_ghost (fun m a w => ∃ s, μ s = m ∧ Fr n (σs s) a ∧ I s w) (μ s0) ⟨s0, rfl, ha.sub hs, h0⟩ ?_
  rintro m a w ⟨s, rfl, hF, hI⟩
  refine wp_mono (round s w hI a hF) ?_
  intro e a' w' hq
  cases e with
  | normal =>
    obtain ⟨s', hF', hI', hlt⟩ := hq
    exact ⟨μ s', hlt, s', rfl, hF', hI'⟩
  | exit id => exact hq
  | goto l => exact hq
  | ret => exact hq
  | panic ch => exact hq
  | outgrown => exact hq
theorem EX.back {S : Type} {σs : S → Sg} {I : S → World → Prop} {μ : S → Nat} {s : S} (s' : S) (hs : Sub (σs s') σ) (hI : I s' w) (hμ : μ s' < μ s) :
    EX (Exit.then (Back n σs I μ s) Q) .normal n σ w := by
  unfold EX; exact fun a ha => ⟨s', ha.sub hs, hI, hμ⟩

/- ENTERING A FUNCTION, AND LEAVING IT -/
/-- 'it returns v in w', and that is so' -/
def Rt (P : Program) (f : FuncId) (args : Array Value) (w : World) (R : Value → World → Prop) : Prop :=
  Calls P f args w fun e w' => ∃ v, e = .returned v ∧ R v w'
theorem Rt.mono {f : FuncId} {args : Array Value} {R R' : Value → World → Prop} (h : Rt P f args w R) (hr : ∀ v w', R v w' → R' v w') : Rt P f args w R' :=
  Calls.mono h fun e w' ⟨v, he, hv⟩ => ⟨v, he, hr v w' hv⟩

def argS : Nat → List Value → Sg
  | _, [] => []
  | k, v :: r => (k, v) :: argS (k + 1) r
theorem fnd_argS : ∀ (vs : List Value) (k t : Nat) (v : Value), fnd (argS k vs) t = some v → k ≤ t ∧ vs[t - k]? = some v := by
  intro vs
  induction vs with
  | nil => intro k t v h; cases h
  | cons u r ih =>
    intro k t v h
    by_cases e : k = t
    · subst e; rw [argS, fnd_cons_eq] at h; cases h; exact ⟨Nat.le_refl _, by simp⟩
    · rw [argS, fnd_cons_ne e] at h
      obtain ⟨h1, h2⟩ := ih (k + 1) t v h
      refine ⟨by omega, ?_⟩
      have : t - k = (t - (k + 1)) + 1 := by omega
      rw [this, List.getElem?_cons_succ]; exact h2
theorem Rt.enter {f : FuncId} {fn : Func} {c : Code} {vs : List Value} {R : Value → World → Prop} (hf : P.funcs[f]? = some fn) (hb : fn.body = some c) (hn : fn.ntmps = n)
    (hle : Nat.ble vs.length n = true) (h : CW P c (bodyPost P fn fun e w' => ∃ v, e = .returned v ∧ R v w') n (argS 0 vs) w) : Rt P f vs.toArray w R := by
  refine calls_of_wp hf hb ?_
  unfold CW at h
  have hl := Nat.le_of_ble_eq_true hle
  refine h _ ⟨by simp [hn]; omega, rfl, fun t v hv => ?_⟩
  obtain ⟨_, h2⟩ := fnd_argS vs 0 t v hv
  simp only [Nat.sub_zero] at h2
  have hlt := (List.getElem?_eq_some_iff.1 h2).1
  simp only [Array.getD_eq_getD_getElem?]
  rw [Array.getElem?_append_left (by simpa using hlt)]
  simp [h2]
theorem Rt.enter0 {f : FuncId} {fn : Func} {c : Code} {R : Value → World → Prop} (hf : P.funcs[f]? = some fn) (hn : fn.ntmps = n) (hb : fn.body = some c)
    (h : CW P c (bodyPost P fn fun e w' => ∃ v, e = .returned v ∧ R v w') n [] w) : Rt P f [].toArray w R := Rt.enter (vs := []) hf hb hn rfl h
theorem Rt.enter1 {f : FuncId} {fn : Func} {c : Code} {a0 : Value} {R : Value → World → Prop} (hf : P.funcs[f]? = some fn) (hn : fn.ntmps = n) (hb : fn.body = some c)
    (hle : Nat.ble 1 n = true) (h : CW P c (bodyPost P fn fun e w' => ∃ v, e = .returned v ∧ R v w') n [(0, a0)] w) : Rt P f [a0].toArray w R := Rt.enter hf hb hn hle h
theorem Rt.enter2 {f : FuncId} {fn : Func} {c : Code} {a0 a1 : Value} {R : Value → World → Prop} (hf : P.funcs[f]? = some fn) (hn : fn.ntmps = n) (hb : fn.body = some c)
    (hle : Nat.ble 2 n = true) (h : CW P c (bodyPost P fn fun e w' => ∃ v, e = .returned v ∧ R v w') n [(0, a0), (1, a1)] w) : Rt P f [a0, a1].toArray w R := Rt.enter hf hb hn hle h
theorem Rt.enter3 {f : FuncId} {fn : Func} {c : Code} {a0 a1 a2 : Value} {R : Value → World → Prop} (hf : P.funcs[f]? = some fn) (hn : fn.ntmps = n) (hb : fn.body = some c)
    (hle : Nat.ble 3 n = true) (h : CW P c (bodyPost P fn fun e w' => ∃ v, e = .returned v ∧ R v w') n [(0, a0), (1, a1), (2, a2)] w) : Rt P f [a0, a1, a2].toArray w R := Rt.enter hf hb hn hle h
theorem Rt.enter4 {f : FuncId} {fn : Func} {c : Code} {a0 a1 a2 a3 : Value} {R : Value → World → Prop} (hf : P.funcs[f]? = some fn) (hn : fn.ntmps = n) (hb : fn.body = some c)
    (hle : Nat.ble 4 n = true) (h : CW P c (bodyPost P fn fun e w' => ∃ v, e = .returned v ∧ R v w') n [(0, a0), (1, a1), (2, a2), (3, a3)] w) : Rt P f [a0, a1, a2, a3].toArray w R := Rt.enter hf hb hn hle h
theorem EX.ret1 {fn : Func} {t : Nat} {v : Value} {R : Value → World → Prop} (hr : fn.results = #[.tmp t]) (ht : fnd σ t = some v) (h : R v w) :
    EX (bodyPost P fn fun e w' => ∃ v, e = .returned v ∧ R v w') .ret n σ w := by
  unfold EX; intro a ha
  exact bodyPost_ret (results_tmp hr _ _ _) ha.defers ⟨v, by rw [ha.slot t v ht], h⟩
theorem EX.ret2 {fn : Func} {t u : Nat} {v x : Value} {R : Value → World → Prop} (hr : fn.results = #[.tmp t, .tmp u]) (ht : fnd σ t = some v) (hu : fnd σ u = some x) (h : R (.tuple ⟨[v, x]⟩) w) :
    EX (bodyPost P fn fun e w' => ∃ v, e = .returned v ∧ R v w') .ret n σ w := by
  unfold EX; intro a ha
  exact bodyPost_ret (results_tmp2 hr _ _ _) ha.defers ⟨_, by rw [ha.slot t v ht, ha.slot u x hu], h⟩
theorem EX.end0 {fn : Func} {R : Value → World → Prop} (hr : fn.results = #[]) (h : R (.tuple #[]) w) :
    EX (bodyPost P fn fun e w' => ∃ v, e = .returned v ∧ R v w') .normal n σ w := by
  unfold EX; intro a ha
  exact bodyPost_end (results_none hr _ _ _) ha.defers ⟨_, rfl, h⟩
end

/- GUARDS -/
def gslot : List Oper → Nat → Option Nat
  | [], _ => none
  | o :: _, 0 => o.dst
  | _ :: r, j + 1 => gslot r j
theorem gslot_eq : ∀ (l : List Oper) (j : Nat), gslot l j = (l[j]?).bind (·.dst)
  | [], j => by simp [gslot]
  | o :: r, 0 => by simp [gslot]
  | o :: r, j + 1 => by simp [gslot, gslot_eq r j]
/-- is the guard met? none: it can't be told -/
def gd (ops : List Oper) (σ : Sg) (o : Oper) : Option Bool :=
  match o.guard with
  | none => some true
  | some (j, want) =>
    match gslot ops j with
    | none => none
    | some s => match fnd σ s with
      | some (.bool b) => some (match b, want with | true, true => true | false, false => true | _, _ => false)
      | some (.tuple _) => some false
      | _ => none
theorem gd_wanted {ops : List Oper} {σ : Sg} {o : Oper} {b : Bool} {n : Nat} {a : Act} (ha : Fr n σ a) (h : gd ops σ o = some b) : Region.wanted o (yielded ops.toArray a.tmps) = b := by
  unfold gd at h
  unfold Region.wanted
  split at h
  · rename_i hg; rw [hg]; exact (Option.some.inj h)
  · rename_i j want hg
    rw [hg]
    have hy : ∀ s v, gslot ops j = some s → fnd σ s = some v → yielded ops.toArray a.tmps j = (match v with | .bool b => some b | _ => none) := by
      intro s v hs hv
      have := ha.slot s v hv
      unfold yielded
      have e : ops.toArray[j]?.bind (·.dst) = some s := by rw [← hs, gslot_eq]; simp
      rw [e]
      simp only [Option.bind_some]
      simp only [Array.getD_eq_getD_getElem?] at this
      cases ht : a.tmps[s]? with
      | none =>
        rw [ht] at this
        simp only [Option.getD_none] at this
        subst this
        simp [undef]
      | some u =>
        rw [ht] at this
        simp only [Option.getD_some] at this
        subst this
        cases u <;> rfl
    split at h
    · cases h
    · rename_i s hs
      split at h
      · rename_i b' hb
        have := hy s _ hs hb
        simp only [this]
        cases b' <;> cases want <;> simp at h <;> simp [← h]
      · rename_i x hb
        have := hy s _ hs hb
        simp only [this]
        simp at h; subst h; simp
      · cases h

/- PURE OPERATIONS -/
def pbin (op : BinOp) (x y : Value) : Option Value :=
  match op, x, y with
  | .shl, .int k a, .int .i64 b => match decide (0 ≤ b) with | true => some (.int k (k.wrap (a * 2 ^ (min b.toNat k.bits)))) | false => none
  | .add, .int .i64 a, .int .i64 b => some (.int .i64 (IntKind.i64.wrap (a + b)))
  | .sub, .int .i64 a, .int .i64 b => some (.int .i64 (IntKind.i64.wrap (a - b)))
  | .mul, .int .i64 a, .int .i64 b => some (.int .i64 (IntKind.i64.wrap (a * b)))
  | .eql, .int .i64 a, .int .i64 b => some (.bool (a == b))
  | .neq, .int .i64 a, .int .i64 b => some (.bool (a != b))
  | .lss, .int .i64 a, .int .i64 b => some (.bool (decide (a < b)))
  | .leq, .int .i64 a, .int .i64 b => some (.bool (decide (a ≤ b)))
  | .gtr, .int .i64 a, .int .i64 b => some (.bool (decide (a > b)))
  | .geq, .int .i64 a, .int .i64 b => some (.bool (decide (a ≥ b)))
  | .eql, .int .u64 a, .int .u64 b => some (.bool (a == b))
  | .neq, .int .u64 a, .int .u64 b => some (.bool (a != b))
  | .and, .int .u64 a, .int .u64 b => some (.int .u64 (bits .and .u64 a b))
  | .or, .int .u64 a, .int .u64 b => some (.int .u64 (bits .or .u64 a b))
  | .and, .int .i64 a, .int .i64 b => some (.int .i64 (bits .and .i64 a b))
  | .or, .int .i64 a, .int .i64 b => some (.int .i64 (bits .or .i64 a b))
  | .eql, .string a, .string b => some (.bool (a.data.toList == b.data.toList))
  | .neq, .string a, .string b => some (.bool !(a.data.toList == b.data.toList))
  | .eql, .int .u8 a, .int .u8 b => some (.bool (a == b))
  | .neq, .int .u8 a, .int .u8 b => some (.bool (a != b))
  | .lss, .int .u8 a, .int .u8 b => some (.bool (decide (a < b)))
  | .leq, .int .u8 a, .int .u8 b => some (.bool (decide (a ≤ b)))
  | .gtr, .int .u8 a, .int .u8 b => some (.bool (decide (a > b)))
  | .geq, .int .u8 a, .int .u8 b => some (.bool (decide (a ≥ b)))
  | _, _, _ => none

def nthV : List Value → Nat → Option Value
  | [], _ => none
  | v :: _, 0 => some v
  | _ :: r, i + 1 => nthV r i
theorem nthV_eq : ∀ (l : List Value) (i : Nat), nthV l i = l[i]?
  | [], i => by simp [nthV]
  | v :: r, 0 => by simp [nthV]
  | v :: r, i + 1 => by simp [nthV, nthV_eq r i]
def evs (σ : Sg) : List Operand → Option (List Value)
  | [] => some []
  | x :: r => match ev σ x, evs σ r with
    | some v, some vs => some (v :: vs)
    | _, _ => none
theorem evs_eq {n : Nat} {σ : Sg} {a : Act} (ha : Fr n σ a) : ∀ (l : List Operand) (vs : List Value), evs σ l = some vs → l.map a.eval = vs
  | [], vs, h => by cases h; rfl
  | x :: r, vs, h => by
    simp only [evs] at h
    split at h
    · rename_i v us hv hu
      cases h
      simp [ha.ev hv, evs_eq ha r us hu]
    · cases h

def pureOp (σ : Sg) : Op → Option Value
  | .move x => ev σ x
  | .assign x => ev σ x
  | .pick c a b => match ev σ c with
    | some (.bool true) => ev σ a
    | some (.bool false) => ev σ b
    | _ => none
  | .binOp op _ x y _ => match ev σ x, ev σ y with
    | some u, some v => pbin op u v
    | _, _ => none
  | .unOp .not _ x => match ev σ x with
    | some (.bool b) => some (.bool !b)
    | _ => none
  | .extract x i => match ev σ x with
    | some (.tuple vs) => nthV vs.toList i
    | _ => none
  | _ => none

theorem pbin_run {P : Program} {w : World} {op : BinOp} {t yt : TypeId} {x y : Operand} {u v r : Value} (h : pbin op u v = some r) :
    ((do eqGuard op t x y u v; binOp op t u v : Sem Value)).run P w = .ok r w := by
  unfold pbin at h
  split at h <;> first
    | (cases h; done)
    | (rename_i k a b; split at h
       · rename_i hb; have hb' : ¬ b < 0 := by simpa using hb
         cases h; simp [eqGuard, binOp, Op.shift, hb']
       · cases h)
    | (cases h; simp [eqGuard, binOp, Op.intArith, Op.intCmp, intBits_and, intBits_or]; done)
    | (cases h; simp [eqGuard_at_string, binOp, Op.stringOp, ByteArray.toList_eq]; done)

theorem pureOp_run {P : Program} {w : World} {n : Nat} {σ : Sg} {a : Act} {o : Oper} {v : Value} (ha : Fr n σ a) (h : pureOp σ o.op = some v) :
    (execOp a.eval o).run P w = .ok (.value v) w := by
  unfold pureOp at h
  unfold execOp
  split at h
  · rename_i x hx; simp [hx, ha.ev h]
  · rename_i x hx; simp [hx, ha.ev h]
  · rename_i c x y hx
    split at h
    · rename_i hc; simp [hx, ha.ev hc, asBool, ha.ev h]
    · rename_i hc; simp [hx, ha.ev hc, asBool, ha.ev h]
    · cases h
  · rename_i op t x y yt hx
    split at h
    · rename_i u v' hu hv
      have hp := pbin_run (P := P) (w := w) (t := t) (yt := yt) (x := x) (y := y) h
      simp only [hx, ha.ev hu, ha.ev hv]
      rw [Sem.run_bind, hp]
      rfl
    · cases h
  · rename_i t x hx
    split at h
    · rename_i b hb; cases h; simp [hx, ha.ev hb, Op.unary]
    · cases h
  · rename_i x i hx
    split at h
    · rename_i vs hvs
      rw [nthV_eq] at h
      have h' : vs[i]? = some v := by simpa using h
      simp [hx, ha.ev hvs, Instr.extract, h']
    · cases h
  · cases h

section
variable {P : Program} {Q : Exit → Act → World → Prop} {n : Nat} {σ : Sg} {w : World} {L rest : List Oper} {d : Nat} {op : Op} {ty : TypeId} {pos : String} {af : Array Edge} {g : Option (Nat × Bool)}

/-- an operation whose run is known -/
theorem WL.run {v : Value} {w' : World} (hg : gd L σ ⟨some d, op, ty, pos, af, g⟩ = some true) (hd : Nat.ble (d + 1) n = true)
    (hr : ∀ a, Fr n σ a → (execOp a.eval ⟨some d, op, ty, pos, af, g⟩).run P w = .ok (.value v) w') (h : WL P L Q rest n ((d, v) :: σ) w') : WL P L Q (⟨some d, op, ty, pos, af, g⟩ :: rest) n σ w := by
  unfold WL at *
  intro a ha
  refine wpList_step fun K hK => ?_
  rw [gd_wanted ha hg, if_pos rfl]
  unfold Oper.wp
  rw [hr a ha]
  exact hK _ _ (h _ (ha.put (d := some d) hd))
theorem WL.runU {w' : World} (hg : gd L σ ⟨none, op, ty, pos, af, g⟩ = some true)
    (hr : ∀ a, Fr n σ a → (execOp a.eval ⟨none, op, ty, pos, af, g⟩).run P w = .ok .skip w') (h : WL P L Q rest n σ w') : WL P L Q (⟨none, op, ty, pos, af, g⟩ :: rest) n σ w := by
  unfold WL at *
  intro a ha
  refine wpList_step fun K hK => ?_
  rw [gd_wanted ha hg, if_pos rfl]
  unfold Oper.wp
  rw [hr a ha]
  exact hK _ _ (h _ ha)
theorem WL.pure {v : Value} (hg : gd L σ ⟨some d, op, ty, pos, af, g⟩ = some true) (hd : Nat.ble (d + 1) n = true)
    (hv : pureOp σ op = some v) (h : WL P L Q rest n ((d, v) :: σ) w) : WL P L Q (⟨some d, op, ty, pos, af, g⟩ :: rest) n σ w :=
  WL.run hg hd (fun a ha => pureOp_run ha hv) h
/-- an operation whose guard is not met -/
theorem WL.pass (hg : gd L σ ⟨some d, op, ty, pos, af, g⟩ = some false) (hd : Nat.ble (d + 1) n = true) (h : WL P L Q rest n ((d, undef) :: σ) w) : WL P L Q (⟨some d, op, ty, pos, af, g⟩ :: rest) n σ w := by
  unfold WL at *
  intro a ha
  refine wpList_step fun K hK => ?_
  rw [gd_wanted ha hg, if_neg (by simp)]
  exact hK _ _ (h _ (ha.put (d := some d) hd))
/-- a slot's bool is looked at -/
theorem WL.look {s : Nat} {b : Bool} (hs : fnd σ s = some (.bool b)) (ht : b = true → WL P L Q rest n ((s, .bool true) :: σ) w) (hf : b = false → WL P L Q rest n ((s, .bool false) :: σ) w) : WL P L Q rest n σ w := by
  unfold WL at *
  intro a ha
  cases b with
  | true => exact ht rfl a (ha.set hs)
  | false => exact hf rfl a (ha.set hs)

/-- the guard that the next operation waits for -/
theorem WL.lookG {dd : Option Nat} {j s : Nat} {want b : Bool} (hj : gslot L j = some s) (hs : fnd σ s = some (.bool b)) (ht : b = true → WL P L Q (⟨dd, op, ty, pos, af, some (j, want)⟩ :: rest) n ((s, .bool true) :: σ) w)
    (hf : b = false → WL P L Q (⟨dd, op, ty, pos, af, some (j, want)⟩ :: rest) n ((s, .bool false) :: σ) w) : WL P L Q (⟨dd, op, ty, pos, af, some (j, want)⟩ :: rest) n σ w := WL.look hs ht hf
/- SUMS THAT FIT -/
theorem wrap_in {a : Int} (h0 : -9223372036854775808 ≤ a) (h1 : a < 9223372036854775808) : IntKind.i64.wrap a = a := IntWalk.i64_in _ ⟨h0, by omega⟩
theorem WL.add {t yt : TypeId} {x y : Operand} {a b : Int} (hg : gd L σ ⟨some d, .binOp .add t x y yt, ty, pos, af, g⟩ = some true) (hd : Nat.ble (d + 1) n = true)
    (hx : ev σ x = some (.int .i64 a)) (hy : ev σ y = some (.int .i64 b)) (h0 : -9223372036854775808 ≤ a + b) (h1 : a + b < 9223372036854775808) (h : WL P L Q rest n ((d, .int .i64 (a + b)) :: σ) w) : WL P L Q (⟨some d, .binOp .add t x y yt, ty, pos, af, g⟩ :: rest) n σ w := by
  refine WL.pure hg hd (v := .int .i64 (a + b)) ?_ h
  simp only [pureOp, hx, hy, pbin]
  rw [wrap_in h0 h1]
theorem WL.sub' {t yt : TypeId} {x y : Operand} {a b : Int} (hg : gd L σ ⟨some d, .binOp .sub t x y yt, ty, pos, af, g⟩ = some true) (hd : Nat.ble (d + 1) n = true)
    (hx : ev σ x = some (.int .i64 a)) (hy : ev σ y = some (.int .i64 b)) (h0 : -9223372036854775808 ≤ a - b) (h1 : a - b < 9223372036854775808) (h : WL P L Q rest n ((d, .int .i64 (a - b)) :: σ) w) : WL P L Q (⟨some d, .binOp .sub t x y yt, ty, pos, af, g⟩ :: rest) n σ w := by
  refine WL.pure hg hd (v := .int .i64 (a - b)) ?_ h
  simp only [pureOp, hx, hy, pbin]
  rw [wrap_in h0 h1]
theorem WL.mul {t yt : TypeId} {x y : Operand} {a b : Int} (hg : gd L σ ⟨some d, .binOp .mul t x y yt, ty, pos, af, g⟩ = some true) (hd : Nat.ble (d + 1) n = true)
    (hx : ev σ x = some (.int .i64 a)) (hy : ev σ y = some (.int .i64 b)) (h0 : -9223372036854775808 ≤ a * b) (h1 : a * b < 9223372036854775808) (h : WL P L Q rest n ((d, .int .i64 (a * b)) :: σ) w) : WL P L Q (⟨some d, .binOp .mul t x y yt, ty, pos, af, g⟩ :: rest) n σ w := by
  refine WL.pure hg hd (v := .int .i64 (a * b)) ?_ h
  simp only [pureOp, hx, hy, pbin]
  rw [wrap_in h0 h1]
end

/- CALLS, AND FUNCTIONS AS VALUES -/
section
variable {P : Program} {Q : Exit → Act → World → Prop} {n : Nat} {σ : Sg} {w : World} {L rest : List Oper} {d : Nat} {op : Op} {ty : TypeId} {pos : String} {af : Array Edge} {g : Option (Nat × Bool)}
theorem WL.makeFunc {fn : Fn} {fs cs : List Operand} {fv cv : List Value} (hg : gd L σ ⟨some d, .makeFunc fn fs.toArray cs.toArray, ty, pos, af, g⟩ = some true) (hd : Nat.ble (d + 1) n = true)
    (hf : evs σ fs = some fv) (hc : evs σ cs = some cv) (h : WL P L Q rest n ((d, .func fn fv.toArray cv.toArray) :: σ) w) : WL P L Q (⟨some d, .makeFunc fn fs.toArray cs.toArray, ty, pos, af, g⟩ :: rest) n σ w := by
  refine WL.run hg hd (fun a ha => ?_) h
  have e1 := evs_eq ha fs fv hf
  have e2 := evs_eq ha cs cv hc
  simp [execOp, Instr.makeFunc, e1, e2]
/-- a function is there, with a body -/
class IsF (P : Program) (f : FuncId) : Prop where
  ok : ∃ fn, P.funcs[f]? = some fn ∧ fn.body.isSome = true ∧ (fn.name == "runtime.NumGoroutine") = false
theorem callFunc_run {f : FuncId} [hf : IsF P f] (args : Array Value) : (callFunc f args).run P w = .ok (.enter f args) w := by
  obtain ⟨fn, h1, h2, h3⟩ := hf.ok
  have h4 : fn.body ≠ none := by intro e; rw [e] at h2; cases h2
  have h5 : fn.name ≠ "runtime.NumGoroutine" := by simpa using h3
  simp [callFunc, h1, h4, h5]
theorem WL.callV {f : FuncId} {x : Operand} {xs : List Operand} {ts : Array TypeId} {vs fv cv : List Value} {R : Value → World → Prop}
    (hg : gd L σ ⟨some d, .call ⟨.value x, xs.toArray, ts⟩, ty, pos, af, g⟩ = some true) (hd : Nat.ble (d + 1) n = true) (hx : ev σ x = some (.func (.func f) fv.toArray cv.toArray)) (hv : evs σ xs = some vs) [hf : IsF P f]
    (hc : Rt P f (fv ++ vs ++ cv).toArray w R) (h : ∀ v w', R v w' → WL P L Q rest n ((d, v) :: σ) w') : WL P L Q (⟨some d, .call ⟨.value x, xs.toArray, ts⟩, ty, pos, af, g⟩ :: rest) n σ w := by
  unfold WL at *
  intro a ha
  refine wpList_step fun K hK => ?_
  rw [gd_wanted ha hg, if_pos rfl]
  have e1 := evs_eq ha xs vs hv
  have e2 := ha.ev hx
  have hr : (execOp a.eval ⟨some d, .call ⟨.value x, xs.toArray, ts⟩, ty, pos, af, g⟩).run P w = .ok (.enter f (fv ++ vs ++ cv).toArray) w := by
    have := callFunc_run (P := P) (f := f) (w := w) (fv ++ vs ++ cv).toArray
    simp [execOp, resolve, e2, Deferred.ofValue, invoke, e1]
    simpa using this
  unfold Oper.wp
  rw [hr]
  refine Calls.mono hc ?_
  rintro e w' ⟨v, rfl, hR⟩
  exact hK _ _ (h v w' hR _ (ha.put (d := some d) hd))
/-- a call by name -/
theorem WL.call {f : FuncId} {xs : List Operand} {ts : Array TypeId} {vs : List Value} {R : Value → World → Prop}
    (hg : gd L σ ⟨some d, .call ⟨.value (.func f), xs.toArray, ts⟩, ty, pos, af, g⟩ = some true) (hd : Nat.ble (d + 1) n = true) (hv : evs σ xs = some vs) [hf : IsF P f]
    (hc : Rt P f vs.toArray w R) (h : ∀ v w', R v w' → WL P L Q rest n ((d, v) :: σ) w') : WL P L Q (⟨some d, .call ⟨.value (.func f), xs.toArray, ts⟩, ty, pos, af, g⟩ :: rest) n σ w :=
  WL.callV hg hd (fv := []) (cv := []) rfl hv (by simpa using hc) h
end

end Go.Proofs.Ytikigaeihdmcaaa

/-
  What comes from some nodes of a graph: plain lists, no program in sight.
-/
set_option linter.unusedVariables false
set_option linter.unusedSimpArgs false
namespace Go.Proofs.Ytikigaeihdmcaaa

abbrev Graph := List (List Int)
inductive Rch (g : Graph) (from' : List Int) : Nat → Prop
  | base {x : Int} : x ∈ from' → Rch g from' x.toNat
  | step {n : Nat} {x : Int} : Rch g from' n → x ∈ g.getD n [] → Rch g from' x.toNat
open Classical in
noncomputable def rchB (g : Graph) (from' : List Int) : List Bool := (List.range g.length).map fun n => decide (Rch g from' n)
theorem rchB_len (g : Graph) (f : List Int) : (rchB g f).length = g.length := by simp [rchB]
theorem rchB_get {g : Graph} {f : List Int} {n : Nat} (h : n < g.length) : (rchB g f)[n]? = some (@decide (Rch g f n) (Classical.propDecidable _)) := by
  simp [rchB, h]
theorem rchB_iff {g : Graph} {f : List Int} {n : Nat} (h : n < (rchB g f).length) : (rchB g f)[n] = true ↔ Rch g f n := by
  have h' : n < g.length := by rwa [rchB_len] at h
  simp [rchB]

/-- all its numbers are nodes -/
def okL (n : Nat) (l : List Int) : Prop := ∀ x ∈ l, 0 ≤ x ∧ x < n
def okG (g : Graph) : Prop := ∀ l ∈ g, okL g.length l
theorem okG_row {g : Graph} (h : okG g) (n : Nat) : okL g.length (g.getD n []) := by
  intro x hx
  by_cases hn : n < g.length
  · rw [List.getD_eq_getElem?_getD, List.getElem?_eq_getElem hn] at hx
    exact h _ (List.getElem_mem hn) x hx
  · rw [List.getD_eq_getElem?_getD, List.getElem?_eq_none (by omega)] at hx
    simp at hx

/-- what is still to be looked at -/
def pot : Graph → List Bool → Nat
  | l :: g, s :: r => (match s with | true => 0 | false => l.length + 1) + pot g r
  | _, _ => 0
theorem pot_set : ∀ (g : Graph) (seen : List Bool) (n : Nat), n < g.length → seen.length = g.length → seen.getD n true = false → pot g (seen.set n true) + (g.getD n []).length + 1 = pot g seen
  | [], _, n, h, _, _ => absurd h (by simp)
  | l :: g, [], n, _, h, _ => absurd h (by simp)
  | l :: g, s :: r, 0, _, _, h => by
    simp at h; subst h; simp [pot]; omega
  | l :: g, s :: r, n + 1, h1, h2, h3 => by
    have := pot_set g r n (by simpa using h1) (by simpa using h2) (by simpa using h3)
    simp only [List.set_cons_succ, pot, List.getD_cons_succ]
    omega
def edges (g : Graph) : Nat := (g.map List.length).sum
theorem pot_start : ∀ g : Graph, pot g (List.replicate g.length false) = edges g + g.length
  | [] => rfl
  | l :: g => by
    simp only [List.length_cons, List.replicate_succ, pot, pot_start g, edges, List.map_cons, List.sum_cons]
    omega

structure RInv (g : Graph) (f : List Int) (seen : List Bool) (todo : List Int) : Prop where
  len : seen.length = g.length
  ok : okL g.length todo
  sound : ∀ n, seen.getD n false = true → Rch g f n
  tsound : ∀ x ∈ todo, Rch g f x.toNat
  base : ∀ x ∈ f, seen.getD x.toNat false = true ∨ x ∈ todo
  clo : ∀ n, seen.getD n false = true → ∀ x ∈ g.getD n [], seen.getD x.toNat false = true ∨ x ∈ todo

theorem getD_set {l : List Bool} {n k : Nat} {b : Bool} (h : n < l.length) : (l.set n b).getD k false = if n = k then b else l.getD k false := by
  simp only [List.getD_eq_getElem?_getD, List.getElem?_set]
  split
  · subst_vars; simp [h]
  · rfl
theorem getD_rep {n k : Nat} : (List.replicate n false).getD k false = false := by
  simp only [List.getD_eq_getElem?_getD, List.getElem?_replicate]
  split <;> rfl
theorem RInv.start {g : Graph} {f : List Int} (hf : okL g.length f) : RInv g f (List.replicate g.length false) f where
  len := by simp
  ok := hf
  sound := fun n h => by rw [getD_rep] at h; cases h
  tsound := fun x hx => .base hx
  base := fun x hx => .inr hx
  clo := fun n h => by rw [getD_rep] at h; cases h
theorem RInv.pass {g : Graph} {f : List Int} {seen : List Bool} {todo : List Int} {x : Int} (h : RInv g f seen (todo ++ [x])) (hs : seen.getD x.toNat false = true) : RInv g f seen todo where
  len := h.len
  ok := fun y hy => h.ok y (by simp [hy])
  sound := h.sound
  tsound := fun y hy => h.tsound y (by simp [hy])
  base := fun y hy => by
    rcases h.base y hy with h1 | h1
    · exact .inl h1
    · rcases List.mem_append.1 h1 with h2 | h2
      · exact .inr h2
      · simp at h2; subst h2; exact .inl hs
  clo := fun n hn y hy => by
    rcases h.clo n hn y hy with h1 | h1
    · exact .inl h1
    · rcases List.mem_append.1 h1 with h2 | h2
      · exact .inr h2
      · simp at h2; subst h2; exact .inl hs
theorem RInv.mark {g : Graph} {f : List Int} {seen : List Bool} {todo : List Int} {x : Int} (hg : okG g) (h : RInv g f seen (todo ++ [x])) : RInv g f (seen.set x.toNat true) (todo ++ g.getD x.toNat []) := by
  have hx := h.ok x (by simp)
  have hlt : x.toNat < seen.length := by rw [h.len]; omega
  have key : ∀ y, seen.getD y.toNat false = true ∨ y ∈ todo ++ [x] → (seen.set x.toNat true).getD y.toNat false = true ∨ y ∈ todo ++ g.getD x.toNat [] := by
    intro y hy
    rw [getD_set hlt]
    rcases hy with h1 | h1
    · left; split
      · rfl
      · exact h1
    · rcases List.mem_append.1 h1 with h2 | h2
      · exact .inr (by simp [h2])
      · simp at h2; subst h2; left; simp
  refine ⟨by simpa using h.len, ?_, ?_, ?_, ?_, ?_⟩
  · intro y hy
    rcases List.mem_append.1 hy with h1 | h1
    · exact h.ok y (by simp [h1])
    · exact okG_row hg _ y h1
  · intro n hn
    rw [getD_set hlt] at hn
    split at hn
    · rename_i e; subst e; exact h.tsound x (by simp)
    · exact h.sound n hn
  · intro y hy
    rcases List.mem_append.1 hy with h1 | h1
    · exact h.tsound y (by simp [h1])
    · exact .step (h.tsound x (by simp)) h1
  · intro y hy; exact key y (h.base y hy)
  · intro n hn y hy
    rw [getD_set hlt] at hn
    split at hn
    · rename_i e; subst e; exact .inr (List.mem_append.2 (.inr hy))
    · exact key y (h.clo n hn y hy)
theorem RInv.done {g : Graph} {f : List Int} {seen : List Bool} (h : RInv g f seen []) : seen = rchB g f := by
  have all : ∀ n, Rch g f n → seen.getD n false = true := by
    intro n hn
    induction hn with
    | base hx => exact (h.base _ hx).resolve_right (by simp)
    | step _ hx ih => exact (h.clo _ ih _ hx).resolve_right (by simp)
  apply List.ext_getElem (by rw [h.len, rchB_len])
  intro n h1 h2
  have e1 : seen.getD n false = seen[n] := by simp [List.getD_eq_getElem?_getD, h1]
  rw [Bool.eq_iff_iff, rchB_iff h2, ← e1]
  exact ⟨h.sound n, all n⟩

/- WHAT THE LAW SAYS -/
theorem Rch.mono {g : Graph} {a b : List Int} (h : ∀ x ∈ a, x ∈ b) {n : Nat} (hn : Rch g a n) : Rch g b n := by
  induction hn with
  | base hx => exact .base (h _ hx)
  | step _ hx ih => exact .step ih hx
theorem Rch.app {g : Graph} {a b : List Int} {n : Nat} : Rch g (a ++ b) n ↔ Rch g a n ∨ Rch g b n := by
  constructor
  · intro h
    induction h with
    | base hx =>
      rcases List.mem_append.1 hx with h | h
      · exact .inl (.base h)
      · exact .inr (.base h)
    | step _ hx ih => exact ih.imp (fun h => .step h hx) (fun h => .step h hx)
  · rintro (h | h)
    · exact h.mono fun x hx => by simp [hx]
    · exact h.mono fun x hx => by simp [hx]

/- CHECKS -/
def oddB (n : Nat) (l : List Int) : Bool := l.any fun x => decide (x < 0 ∨ x ≥ n)
theorem oddB_false {n : Nat} {l : List Int} : oddB n l = false ↔ okL n l := by
  unfold oddB okL
  rw [List.any_eq_false]
  constructor
  · intro h x hx; have := h x hx; simp at this; omega
  · intro h x hx; have := h x hx; simp; omega
def chkG (g : Graph) : Int := match decide (g.length > 20000), g.any (oddB g.length) with
  | true, _ => 2
  | false, true => 1
  | false, false => 0
theorem chkG_ok {g : Graph} (h : chkG g = 0) : okG g ∧ g.length ≤ 20000 := by
  unfold chkG at h
  split at h
  · cases h
  · cases h
  · rename_i h1 h2
    simp at h1
    refine ⟨fun l hl => oddB_false.1 ?_, h1⟩
    rw [List.any_eq_false] at h2
    simpa using h2 l hl
end Go.Proofs.Ytikigaeihdmcaaa

/-
  Package scc: what turn, far and Way compute, in plain Lean.
-/
set_option linter.unusedVariables false
set_option linter.unusedSimpArgs false
namespace Go.Proofs.Ytikigaeihdmcaaa

/- TURN -/
/-- who leads to m: of the rows before n, and of row n's first j -/
def trow (g : List (List Int)) (n j : Nat) (m : Nat) : List Int :=
  ((List.range n).filter (fun k => (g.getD k []).contains (m : Int))).map (fun k : Nat => (k : Int)) ++ (if ((g.getD n []).take j).contains (m : Int) then [(n : Int)] else [])
def turnP (g : List (List Int)) (n j : Nat) : List (List Int) := (List.range g.length).map (trow g n j)
def turnL (g : List (List Int)) : List (List Int) := turnP g g.length 0
theorem turnP_len (g : List (List Int)) (n j : Nat) : (turnP g n j).length = g.length := by simp [turnP]
theorem turnP_get {g : List (List Int)} {n j i : Nat} (h : i < (turnP g n j).length) : (turnP g n j)[i] = trow g n j i := by simp [turnP]
theorem trow_len (g : List (List Int)) (n j m : Nat) : (trow g n j m).length ≤ n + 1 := by
  unfold trow
  have h1 := List.length_filter_le (fun k => (g.getD k []).contains (m : Int)) (List.range n)
  rw [List.length_range] at h1
  rw [List.length_append, List.length_map]
  split
  · simp only [List.length_singleton]; omega
  · simp only [List.length_nil]; omega
theorem trow_start (g : List (List Int)) (m : Nat) : trow g 0 0 m = [] := by simp [trow]
theorem turnP_start (g : List (List Int)) : turnP g 0 0 = List.replicate g.length [] := by
  apply List.ext_getElem (by simp [turnP])
  intro i h1 h2
  rw [turnP_get, trow_start]; simp
theorem trow_next {g : List (List Int)} {n : Nat} (m : Nat) : trow g (n + 1) 0 m = trow g n (g.getD n []).length m := by
  unfold trow
  rw [List.take_length, List.take_zero, List.range_succ, List.filter_append, List.map_append]
  cases h : (g.getD n []).contains (m : Int) <;> simp at h <;> simp [h]
theorem turnP_next {g : List (List Int)} {n : Nat} : turnP g (n + 1) 0 = turnP g n (g.getD n []).length := by
  unfold turnP; congr 1; funext m; exact trow_next m
theorem take_next {l : List Int} {j : Nat} (h : j < l.length) (x : Int) : (l.take (j + 1)).contains x = ((l.take j).contains x || x == l[j]) := by
  rw [List.take_succ_eq_append_getElem h, List.contains_eq_any_beq, List.contains_eq_any_beq, List.any_append]
  simp
theorem trow_new {g : List (List Int)} {n j m : Nat} (hj : j < (g.getD n []).length) (hm : (g.getD n [])[j] = (m : Int)) (hn : ((g.getD n []).take j).contains (m : Int) = false) : trow g n (j + 1) m = trow g n j m ++ [(n : Int)] := by
  unfold trow
  rw [take_next hj, hn, hm]; simp
theorem trow_old {g : List (List Int)} {n j m : Nat} (hj : j < (g.getD n []).length) (hn : ((g.getD n []).take j).contains (m : Int) = true) : trow g n (j + 1) m = trow g n j m := by
  unfold trow
  rw [take_next hj, hn]; simp
theorem trow_other {g : List (List Int)} {n j m : Nat} (hj : j < (g.getD n []).length) (hm : (g.getD n [])[j] ≠ (m : Int)) : trow g n (j + 1) m = trow g n j m := by
  unfold trow
  rw [take_next hj]
  have : ((m : Int) == (g.getD n [])[j]) = false := by rw [beq_eq_false_iff_ne]; exact Ne.symm hm
  rw [this, Bool.or_false]
/-- its last one is n just if n was put there -/
theorem trow_last {g : List (List Int)} {n j m : Nat} (h : 0 < (trow g n j m).length) : ((trow g n j m)[(trow g n j m).length - 1] = (n : Int)) ↔ ((g.getD n []).take j).contains (m : Int) = true := by
  have hl : (trow g n j m)[(trow g n j m).length - 1] = (trow g n j m).getLast (List.ne_nil_of_length_pos h) := by rw [List.getLast_eq_getElem]
  rw [hl]
  constructor
  · intro e
    apply Classical.byContradiction
    intro hc
    have hc' : ((g.getD n []).take j).contains (m : Int) = false := by simpa using hc
    have : (n : Int) ∈ trow g n j m := by rw [← e]; exact List.getLast_mem _
    unfold trow at this
    rw [hc'] at this
    simp at this
    omega
  · intro hc
    have : trow g n j m = ((List.range n).filter (fun k => (g.getD k []).contains (m : Int))).map (fun k : Nat => (k : Int)) ++ [(n : Int)] := by unfold trow; rw [if_pos hc]
    simp only [this]
    simp
theorem trow_nil {g : List (List Int)} {n j m : Nat} (h : (trow g n j m).length = 0) : ((g.getD n []).take j).contains (m : Int) = false := by
  cases hc : ((g.getD n []).take j).contains (m : Int)
  · rfl
  · unfold trow at h; rw [if_pos hc] at h; simp at h
theorem turnP_set {g : List (List Int)} {n j : Nat} (hj : j < (g.getD n []).length) {m : Nat} (hm : (g.getD n [])[j] = (m : Int)) (hmg : m < g.length) (hn : ((g.getD n []).take j).contains (m : Int) = false) :
    (turnP g n j).set m (trow g n j m ++ [(n : Int)]) = turnP g n (j + 1) := by
  apply List.ext_getElem (by simp [turnP])
  intro i h1 h2
  rw [List.getElem_set]
  by_cases e : m = i
  · subst e; rw [if_pos rfl, turnP_get, trow_new hj hm hn]
  · rw [if_neg e, turnP_get, turnP_get, trow_other hj (by rw [hm]; omega)]
theorem turnP_same {g : List (List Int)} {n j : Nat} (hj : j < (g.getD n []).length) {m : Nat} (hm : (g.getD n [])[j] = (m : Int)) (hn : ((g.getD n []).take j).contains (m : Int) = true) : turnP g n j = turnP g n (j + 1) := by
  apply List.ext_getElem (by simp [turnP])
  intro i h1 h2
  rw [turnP_get, turnP_get]
  by_cases e : m = i
  · subst e; rw [trow_old hj hn]
  · rw [trow_other hj (by rw [hm]; omega)]
theorem turnL_len (g : List (List Int)) : (turnL g).length = g.length := turnP_len _ _ _
theorem turnL_mem {g : List (List Int)} {m k : Nat} (hm : m < g.length) : (k : Int) ∈ (turnL g).getD m [] ↔ k < g.length ∧ (m : Int) ∈ g.getD k [] := by
  have : (turnL g).getD m [] = trow g g.length 0 m := by
    rw [List.getD_eq_getElem?_getD, List.getElem?_eq_getElem (by rw [turnL_len]; exact hm)]
    exact turnP_get _
  rw [this]
  unfold trow
  simp
  constructor
  · rintro ⟨a, ⟨h1, h2⟩, h3⟩
    have : a = k := by omega
    subst this; exact ⟨h1, h2⟩
  · rintro ⟨h1, h2⟩
    exact ⟨k, ⟨h1, h2⟩, rfl⟩
theorem turnL_ok (g : List (List Int)) : okG (turnL g) := by
  intro l hl x hx
  obtain ⟨m, hm, rfl⟩ := List.mem_iff_getElem.1 hl
  rw [turnL_len] at hm ⊢
  have e : (turnL g)[m]'(by rw [turnL_len]; exact hm) = trow g g.length 0 m := turnP_get _
  rw [e] at hx
  unfold trow at hx
  simp at hx
  obtain ⟨k, ⟨h1, _⟩, rfl⟩ := hx
  omega

/- FAR -/
def farStep (n : Int) (s : List Int × List Int) (k : Int) : List Int × List Int := if s.1.getD k.toNat 0 < 0 then (s.1.set k.toNat (s.1.getD n.toNat 0 + 1), s.2 ++ [k]) else s
def farGo (back : List (List Int)) : Nat → List Int → List Int → List Int
  | 0, d, _ => d
  | _ + 1, d, [] => d
  | f + 1, d, n :: r => farGo back f ((back.getD n.toNat []).foldl (farStep n) (d, r)).1 ((back.getD n.toNat []).foldl (farStep n) (d, r)).2
def farD (to : List Bool) : List Int := to.map fun b => if b then 0 else -1
def farN (to : List Bool) (n : Nat) : List Int := ((List.range n).filter (fun k => to.getD k false)).map fun k : Nat => (k : Int)
def farL (g : List (List Int)) (to : List Bool) : List Int := farGo (turnL g) (2 * g.length + 2) (farD to) (farN to to.length)
def negs (d : List Int) : Nat := d.countP fun x => decide (x < 0)
theorem negs_set {d : List Int} {k : Nat} {v : Int} (hk : k < d.length) (h : d[k] < 0) (hv : 0 ≤ v) : negs (d.set k v) + 1 = negs d := by
  unfold negs
  have e : d = d.take k ++ d[k] :: d.drop (k + 1) := by simp
  have e2 : d.set k v = d.take k ++ v :: d.drop (k + 1) := by rw [List.set_eq_take_append_cons_drop, if_pos hk]
  rw [e2]
  conv => rhs; rw [e]
  simp only [List.countP_append, List.countP_cons, h, decide_true, if_true]
  have : decide (v < 0) = false := by simp; omega
  rw [this]; simp; omega
/-- while one goes: what is marked stands; a number above 0 has one less beside it; who is done has all behind it numbered -/
structure FInv (g : List (List Int)) (to : List Bool) (d now : List Int) (cur : Option (Nat × Nat)) : Prop where
  len : d.length = g.length
  tol : to.length = g.length
  ge : ∀ n (h : n < d.length), -1 ≤ d[n]
  le : ∀ n (h : n < d.length), d[n] + negs d + 1 ≤ g.length
  zero : ∀ n (h : n < d.length), d[n] = 0 ↔ to.getD n false = true
  pos : ∀ n (h : n < d.length), 0 < d[n] → ∃ m, ∃ hm : m < d.length, (m : Int) ∈ g.getD n [] ∧ d[m] = d[n] - 1
  inN : ∀ x ∈ now, 0 ≤ x ∧ x < g.length
  nowd : ∀ x ∈ now, 0 ≤ d.getD x.toNat (-1)
  done : ∀ m (h : m < d.length), 0 ≤ d[m] → (m : Int) ∈ now ∨ (∃ j, cur = some (m, j)) ∨ ∀ k (hk : k < d.length), (m : Int) ∈ g.getD k [] → 0 ≤ d[k]
  curd : ∀ m j, cur = some (m, j) → ∃ hm : m < d.length, 0 ≤ d[m] ∧ ∀ x ∈ ((turnL g).getD m []).take j, 0 ≤ d.getD x.toNat (-1)
theorem getD_at {d : List Int} {n : Nat} {x : Int} (h : n < d.length) : d.getD n x = d[n] := by rw [List.getD_eq_getElem?_getD, List.getElem?_eq_getElem h]; rfl
theorem FInv.step {g : List (List Int)} {to : List Bool} {d now : List Int} {m j : Nat} (h : FInv g to d now (some (m, j))) (hj : j < ((turnL g).getD m []).length) {k : Int} (hk : ((turnL g).getD m [])[j] = k) :
    FInv g to (farStep m (d, now) k).1 (farStep m (d, now) k).2 (some (m, j + 1)) ∧ (farStep m (d, now) k).2.length + negs (farStep m (d, now) k).1 = now.length + negs d := by
  obtain ⟨hm, hdm, hpre⟩ := h.curd m j rfl
  have hml : m < g.length := by rw [← h.len]; exact hm
  have hrow : ((turnL g).getD m []) ∈ turnL g := by
    rw [List.getD_eq_getElem?_getD, List.getElem?_eq_getElem (by rw [turnL_len]; exact hml)]
    exact List.getElem_mem _
  have hk2 : 0 ≤ k ∧ k < g.length := by
    have := turnL_ok g _ hrow k (hk ▸ List.getElem_mem _)
    rwa [turnL_len] at this
  obtain ⟨kn, rfl⟩ := Int.eq_ofNat_of_zero_le hk2.1
  have hkn : kn < g.length := by omega
  have hkd : kn < d.length := by rw [h.len]; exact hkn
  have hmem : (m : Int) ∈ g.getD kn [] := ((turnL_mem hml).1 (hk ▸ List.getElem_mem hj)).2
  have htk : ∀ x, x ∈ ((turnL g).getD m []).take (j + 1) → x ∈ ((turnL g).getD m []).take j ∨ x = (kn : Int) := by
    intro x hx
    rw [List.take_succ_eq_append_getElem hj, hk] at hx
    simpa using hx
  unfold farStep
  simp only [Int.toNat_natCast]
  rw [getD_at hkd, getD_at hm]
  split
  · rename_i hneg
    have hne : m ≠ kn := fun e => by subst e; omega
    have hn := negs_set hkd hneg (v := d[m] + 1) (by omega)
    have hget : ∀ n (hn : n < (d.set kn (d[m] + 1)).length), (d.set kn (d[m] + 1))[n] = if kn = n then d[m] + 1 else d[n]'(by rw [List.length_set] at hn; exact hn) := fun n hn => List.getElem_set ..
    have hup : ∀ x, 0 ≤ d.getD x (-1) → 0 ≤ (d.set kn (d[m] + 1)).getD x (-1) := by
      intro x hx
      by_cases hxl : x < d.length
      · rw [getD_at (by rw [List.length_set]; exact hxl), hget]
        split
        · omega
        · rwa [getD_at hxl] at hx
      · rw [List.getD_eq_getElem?_getD, List.getElem?_eq_none (by omega)] at hx
        simp at hx
    refine ⟨⟨by rw [List.length_set]; exact h.len, h.tol, ?_, ?_, ?_, ?_, ?_, ?_, ?_, ?_⟩, by simp only [List.length_append, List.length_singleton]; omega⟩
    · intro n hn2
      rw [hget]
      split
      · omega
      · exact h.ge n _
    · intro n hn2
      rw [List.length_set] at hn2
      rw [hget]
      have h1 := h.le m hm
      have h2 := h.le n hn2
      dsimp only
      split <;> omega
    · intro n hn2
      rw [List.length_set] at hn2
      rw [hget]
      split
      · rename_i e
        subst e
        have := h.zero kn hkd
        constructor
        · intro e; omega
        · intro e; have := this.2 e; omega
      · exact h.zero n hn2
    · intro n hn2 hp
      rw [List.length_set] at hn2
      rw [hget] at hp ⊢
      split at hp
      · rename_i e
        subst e
        rw [if_pos rfl]
        refine ⟨m, by rw [List.length_set]; exact hm, hmem, ?_⟩
        rw [hget, if_neg (Ne.symm hne)]; omega
      · rename_i e
        rw [if_neg e]
        obtain ⟨m2, h1, h2, h3⟩ := h.pos n hn2 hp
        refine ⟨m2, by rw [List.length_set]; exact h1, h2, ?_⟩
        rw [hget, if_neg (fun e => by subst e; omega)]; exact h3
    · intro x hx
      rw [List.mem_append, List.mem_singleton] at hx
      rcases hx with hx | rfl
      · exact h.inN x hx
      · omega
    · intro x hx
      rw [List.mem_append, List.mem_singleton] at hx
      rcases hx with hx | rfl
      · exact hup _ (h.nowd x hx)
      · rw [Int.toNat_natCast, getD_at (by rw [List.length_set]; exact hkd), hget, if_pos rfl]; omega
    · intro m' hm' hp
      rw [List.length_set] at hm'
      rw [hget] at hp
      split at hp
      · rename_i e; subst e; exact .inl (by simp)
      · rcases h.done m' hm' hp with h1 | ⟨j', h1⟩ | h1
        · exact .inl (List.mem_append_left _ h1)
        · simp only [Option.some.injEq, Prod.mk.injEq] at h1
          exact .inr (.inl ⟨j + 1, by rw [h1.1]⟩)
        · refine .inr (.inr fun k2 hk2 hmk => ?_)
          rw [List.length_set] at hk2
          rw [hget]
          split
          · omega
          · exact h1 k2 hk2 hmk
    · intro m2 j2 e
      simp only [Option.some.injEq, Prod.mk.injEq] at e
      obtain ⟨rfl, rfl⟩ := e
      refine ⟨by rw [List.length_set]; exact hm, by rw [hget, if_neg (Ne.symm hne)]; exact hdm, fun x hx => ?_⟩
      rcases htk x hx with hx | rfl
      · exact hup _ (hpre x hx)
      · rw [Int.toNat_natCast, getD_at (by rw [List.length_set]; exact hkd), hget, if_pos rfl]; omega
  · rename_i hpos
    refine ⟨⟨h.len, h.tol, h.ge, h.le, h.zero, h.pos, h.inN, h.nowd, ?_, ?_⟩, rfl⟩
    · intro m' hm' hp
      rcases h.done m' hm' hp with h1 | ⟨j', h1⟩ | h1
      · exact .inl h1
      · simp only [Option.some.injEq, Prod.mk.injEq] at h1
        exact .inr (.inl ⟨j + 1, by rw [h1.1]⟩)
      · exact .inr (.inr h1)
    · intro m2 j2 e
      simp only [Option.some.injEq, Prod.mk.injEq] at e
      obtain ⟨rfl, rfl⟩ := e
      refine ⟨hm, hdm, fun x hx => ?_⟩
      rcases htk x hx with hx | rfl
      · exact hpre x hx
      · rw [Int.toNat_natCast, getD_at hkd]; omega
theorem FInv.steps {g : List (List Int)} {to : List Bool} {d now : List Int} {m : Nat} (h : FInv g to d now (some (m, 0))) : ∀ j, j ≤ ((turnL g).getD m []).length →
    FInv g to ((((turnL g).getD m []).take j).foldl (farStep m) (d, now)).1 ((((turnL g).getD m []).take j).foldl (farStep m) (d, now)).2 (some (m, j)) ∧
    ((((turnL g).getD m []).take j).foldl (farStep m) (d, now)).2.length + negs ((((turnL g).getD m []).take j).foldl (farStep m) (d, now)).1 = now.length + negs d
  | 0, _ => by simp only [List.take_zero, List.foldl_nil]; exact ⟨h, trivial⟩
  | j + 1, hj => by
    obtain ⟨h1, h2⟩ := FInv.steps h j (by omega)
    rw [List.take_succ_eq_append_getElem (by omega), List.foldl_append, List.foldl_cons, List.foldl_nil]
    obtain ⟨h3, h4⟩ := h1.step (by omega) rfl
    exact ⟨h3, by rw [h4, h2]⟩
theorem FInv.over {g : List (List Int)} {to : List Bool} {d now : List Int} {m : Nat} (h : FInv g to d now (some (m, ((turnL g).getD m []).length))) : FInv g to d now none := by
  obtain ⟨hm, hdm, hpre⟩ := h.curd m _ rfl
  refine ⟨h.len, h.tol, h.ge, h.le, h.zero, h.pos, h.inN, h.nowd, ?_, fun _ _ e => by cases e⟩
  intro m' hm' hp
  rcases h.done m' hm' hp with h1 | ⟨j', h1⟩ | h1
  · exact .inl h1
  · simp only [Option.some.injEq, Prod.mk.injEq] at h1
    obtain ⟨rfl, _⟩ := h1
    refine .inr (.inr fun k hk hmk => ?_)
    rw [List.take_length] at hpre
    have := hpre (k : Int) ((turnL_mem (by rw [← h.len]; exact hm)).2 ⟨by rw [← h.len]; exact hk, hmk⟩)
    rwa [Int.toNat_natCast, getD_at hk] at this
  · exact .inr (.inr h1)
theorem FInv.pop {g : List (List Int)} {to : List Bool} {d r : List Int} {n : Int} (h : FInv g to d (n :: r) none) : ∃ m : Nat, n = (m : Int) ∧ m < g.length ∧ FInv g to d r (some (m, 0)) := by
  have hn := h.inN n (by simp)
  obtain ⟨m, rfl⟩ := Int.eq_ofNat_of_zero_le hn.1
  have hm : m < d.length := by rw [h.len]; omega
  refine ⟨m, rfl, by omega, h.len, h.tol, h.ge, h.le, h.zero, h.pos, fun x hx => h.inN x (by simp [hx]), fun x hx => h.nowd x (by simp [hx]), ?_, ?_⟩
  · intro m' hm' hp
    rcases h.done m' hm' hp with h1 | ⟨j', h1⟩ | h1
    · rcases List.mem_cons.1 h1 with h1 | h1
      · exact .inr (.inl ⟨0, by rw [show m' = m by omega]⟩)
      · exact .inl h1
    · cases h1
    · exact .inr (.inr h1)
  · intro m2 j2 e
    simp only [Option.some.injEq, Prod.mk.injEq] at e
    obtain ⟨rfl, rfl⟩ := e
    refine ⟨hm, ?_, fun x hx => by simp at hx⟩
    have := h.nowd m (by simp)
    rwa [Int.toNat_natCast, getD_at hm] at this
theorem farGo_fuel {g : List (List Int)} {to : List Bool} : ∀ (f f' : Nat) (d now : List Int), FInv g to d now none → now.length + negs d ≤ f → now.length + negs d ≤ f' → farGo (turnL g) f d now = farGo (turnL g) f' d now
  | 0, f', d, now, h, h1, h2 => by
    have : now = [] := List.eq_nil_of_length_eq_zero (by omega)
    subst this
    cases f' <;> rfl
  | f + 1, 0, d, now, h, h1, h2 => by
    have : now = [] := List.eq_nil_of_length_eq_zero (by omega)
    subst this
    rfl
  | f + 1, f' + 1, d, [], h, h1, h2 => rfl
  | f + 1, f' + 1, d, n :: r, h, h1, h2 => by
    obtain ⟨m, rfl, hm, hp⟩ := h.pop
    obtain ⟨h3, h4⟩ := hp.steps _ (Nat.le_refl _)
    have h5 := h3.over
    rw [List.take_length] at h4 h5
    simp only [List.length_cons] at h1 h2
    unfold farGo
    rw [Int.toNat_natCast]
    exact farGo_fuel f f' _ _ h5 (by omega) (by omega)
theorem farGo_inv {g : List (List Int)} {to : List Bool} : ∀ (f : Nat) (d now : List Int), FInv g to d now none → now.length + negs d ≤ f → FInv g to (farGo (turnL g) f d now) [] none
  | 0, d, now, h, h1 => by
    have : now = [] := List.eq_nil_of_length_eq_zero (by omega)
    subst this
    exact h
  | f + 1, d, [], h, h1 => h
  | f + 1, d, n :: r, h, h1 => by
    obtain ⟨m, rfl, hm, hp⟩ := h.pop
    obtain ⟨h3, h4⟩ := hp.steps _ (Nat.le_refl _)
    have h5 := h3.over
    rw [List.take_length] at h4 h5
    simp only [List.length_cons] at h1
    unfold farGo
    rw [Int.toNat_natCast]
    exact farGo_inv f _ _ h5 (by omega)
theorem farD_get {to : List Bool} {n : Nat} (h : n < (farD to).length) : (farD to)[n] = if to.getD n false = true then 0 else -1 := by
  have h' : n < to.length := by simpa [farD] using h
  simp [farD, List.getD_eq_getElem?_getD, h']
theorem farD_negs (to : List Bool) : negs (farD to) + (to.countP fun b => b) = to.length := by
  unfold negs farD
  rw [List.countP_map, List.length_eq_countP_add_countP (fun b => b) (l := to), Nat.add_comm]
  congr 1
  apply List.countP_congr
  intro x _
  cases x <;> simp
theorem farN_len (to : List Bool) (n : Nat) : (farN to n).length ≤ n := by
  unfold farN
  rw [List.length_map]
  have := List.length_filter_le (fun k => to.getD k false) (List.range n)
  rwa [List.length_range] at this
theorem FInv.start {g : List (List Int)} {to : List Bool} (h : to.length = g.length) : FInv g to (farD to) (farN to to.length) none := by
  have hl : (farD to).length = g.length := by simp [farD, h]
  have hneg := farD_negs to
  refine ⟨hl, h, ?_, ?_, ?_, ?_, ?_, ?_, ?_, fun _ _ e => by cases e⟩
  · intro n hn; rw [farD_get]; split <;> omega
  · intro n hn
    rw [farD_get]
    split
    · rename_i ht
      have : 0 < to.countP fun b => b := by
        rw [List.countP_pos_iff]
        have hn' : n < to.length := by omega
        refine ⟨to[n], List.getElem_mem _, ?_⟩
        rw [List.getD_eq_getElem?_getD, List.getElem?_eq_getElem hn'] at ht
        exact ht
      omega
    · omega
  · intro n hn; rw [farD_get]; split <;> simp_all
  · intro n hn hp; rw [farD_get] at hp; split at hp <;> omega
  · intro x hx; simp [farN] at hx; obtain ⟨k, ⟨h1, _⟩, rfl⟩ := hx; omega
  · intro x hx
    simp [farN] at hx
    obtain ⟨k, ⟨h1, h2⟩, rfl⟩ := hx
    rw [Int.toNat_natCast, getD_at (by omega), farD_get, if_pos (by simpa using h2)]; omega
  · intro m hm hp
    rw [farD_get] at hp
    split at hp
    · rename_i ht
      refine .inl ?_
      simp [farN]
      exact ⟨m, ⟨by omega, by simpa using ht⟩, rfl⟩
    · omega
theorem farL_inv {g : List (List Int)} {to : List Bool} (h : to.length = g.length) : FInv g to (farL g to) [] none := by
  refine farGo_inv _ _ _ (FInv.start h) ?_
  have := farD_negs to
  have := farN_len to to.length
  omega

/- WAY -/
def dAt (d : List Int) (x : Int) : Int := d.getD x.toNat 0
def pickB (d : List Int) (at' n : Int) : Bool := decide (0 ≤ dAt d n) && (decide (at' < 0) || (decide (dAt d n < dAt d at') || (decide (dAt d n = dAt d at') && decide (n < at'))))
def wayPick (d : List Int) (l : List Int) : Int := l.foldl (fun at' n => if pickB d at' n then n else at') (-1)
def nextB (d : List Int) (at' nx n : Int) : Bool := decide (dAt d n = dAt d at' - 1) && (decide (nx < 0) || decide (n < nx))
def wayNext (d : List Int) (at' : Int) (row : List Int) : Int := row.foldl (fun nx n => if nextB d at' nx n then n else nx) (-1)
def wayGo (g : List (List Int)) (d : List Int) : Nat → Int → List Int
  | 0, a => [a]
  | f + 1, a => if 0 < dAt d a then a :: wayGo g d f (wayNext d a (g.getD a.toNat [])) else [a]
def wayF (g : List (List Int)) (from' : List Int) (to : List Bool) : List Int × Bool × Int :=
  if chkG g ≠ 0 then ([], false, chkG g) else if oddB g.length from' = true ∨ to.length ≠ g.length then ([], false, 1) else
  if wayPick (farL g to) from' < 0 then ([], false, 0) else (wayGo g (farL g to) g.length (wayPick (farL g to) from'), true, 0)
theorem pick_spec {d : List Int} : ∀ (l : List Int), (∀ x ∈ l, 0 ≤ x) → (wayPick d l = -1 ∧ ∀ x ∈ l, dAt d x < 0) ∨ (wayPick d l ∈ l ∧ 0 ≤ dAt d (wayPick d l)) := by
  have key : ∀ (l pre : List Int) (a : Int), (∀ x ∈ l, 0 ≤ x) → ((a = -1 ∧ ∀ x ∈ pre, dAt d x < 0) ∨ (a ∈ pre ∧ 0 ≤ a ∧ 0 ≤ dAt d a)) →
      ((l.foldl (fun at' n => if pickB d at' n then n else at') a = -1 ∧ ∀ x ∈ pre ++ l, dAt d x < 0) ∨ (l.foldl (fun at' n => if pickB d at' n then n else at') a ∈ pre ++ l ∧ 0 ≤ dAt d (l.foldl (fun at' n => if pickB d at' n then n else at') a))) := by
    intro l
    induction l with
    | nil => intro pre a _ h; simpa using h.imp id (fun h => ⟨h.1, h.2.2⟩)
    | cons x l ih =>
      intro pre a hl h
      have := ih (pre ++ [x]) (if pickB d a x then x else a) (fun y hy => hl y (by simp [hy])) (by
        have hx := hl x (by simp)
        rcases h with ⟨rfl, h2⟩ | ⟨h1, h2, h3⟩
        · by_cases h0 : 0 ≤ dAt d x
          · rw [if_pos (by simp [pickB, h0])]
            exact .inr ⟨by simp, hx, h0⟩
          · rw [if_neg (by simp [pickB, h0])]
            refine .inl ⟨rfl, fun y hy => ?_⟩
            rw [List.mem_append, List.mem_singleton] at hy
            rcases hy with hy | rfl
            · exact h2 y hy
            · omega
        · split
          · rename_i hp
            simp only [pickB, Bool.and_eq_true, decide_eq_true_eq] at hp
            exact .inr ⟨by simp, hx, hp.1⟩
          · exact .inr ⟨by simp [h1], h2, h3⟩)
      simpa using this
  intro l hl
  have := key l [] (-1) hl (.inl ⟨rfl, by simp⟩)
  simpa [wayPick] using this
theorem next_spec {d : List Int} {a : Int} (row : List Int) (hr : ∀ x ∈ row, 0 ≤ x) (h : ∃ m ∈ row, dAt d m = dAt d a - 1) : wayNext d a row ∈ row ∧ dAt d (wayNext d a row) = dAt d a - 1 := by
  have key : ∀ (l pre : List Int) (nx : Int), (∀ x ∈ l, 0 ≤ x) → ((nx = -1 ∧ ∀ x ∈ pre, dAt d x ≠ dAt d a - 1) ∨ (nx ∈ pre ∧ dAt d nx = dAt d a - 1)) →
      ((l.foldl (fun nx n => if nextB d a nx n then n else nx) nx = -1 ∧ ∀ x ∈ pre ++ l, dAt d x ≠ dAt d a - 1) ∨ (l.foldl (fun nx n => if nextB d a nx n then n else nx) nx ∈ pre ++ l ∧ dAt d (l.foldl (fun nx n => if nextB d a nx n then n else nx) nx) = dAt d a - 1)) := by
    intro l
    induction l with
    | nil => intro pre nx _ h; simpa using h
    | cons x l ih =>
      intro pre nx hl h
      have := ih (pre ++ [x]) (if nextB d a nx x then x else nx) (fun y hy => hl y (by simp [hy])) (by
        rcases h with ⟨rfl, h2⟩ | ⟨h1, h2⟩
        · by_cases h0 : dAt d x = dAt d a - 1
          · rw [if_pos (by simp [nextB, h0])]
            exact .inr ⟨by simp, h0⟩
          · rw [if_neg (by simp [nextB, h0])]
            refine .inl ⟨rfl, fun y hy => ?_⟩
            rw [List.mem_append, List.mem_singleton] at hy
            rcases hy with hy | rfl
            · exact h2 y hy
            · exact h0
        · split
          · rename_i hp
            simp only [nextB, Bool.and_eq_true, decide_eq_true_eq] at hp
            exact .inr ⟨by simp, hp.1⟩
          · exact .inr ⟨by simp [h1], h2⟩)
      simpa using this
  have := key row [] (-1) hr (.inl ⟨rfl, by simp⟩)
  simp only [List.nil_append] at this
  rcases this with ⟨_, h2⟩ | h2
  · obtain ⟨m, hm, he⟩ := h; exact absurd he (h2 m hm)
  · exact h2
/-- a list that is the way from a -/
structure WayOK (g : List (List Int)) (d : List Int) (l : List Int) (a : Int) : Prop where
  len : (l.length : Int) = dAt d a + 1
  hd : l[0]? = some a
  at' : ∀ i (hi : i < l.length), dAt d l[i] = dAt d a - i
  inR : ∀ i (hi : i < l.length), 0 ≤ l[i] ∧ l[i] < g.length
  go : ∀ i (hi : i < l.length) (f' : Nat), dAt d l[i] ≤ f' → wayGo g d f' l[i] = l.drop i
  edge : ∀ i (hi : i < l.length) (hp : 0 < i), l[i] ∈ g.getD (l[i - 1]'(by omega)).toNat []
section
variable {g : List (List Int)} {to : List Bool} (h : FInv g to (farL g to) [] none) (hg : okG g)
include h hg
theorem way_next {a : Int} (ha : 0 ≤ a ∧ a < g.length) (hp : 0 < dAt (farL g to) a) :
    wayNext (farL g to) a (g.getD a.toNat []) ∈ g.getD a.toNat [] ∧ dAt (farL g to) (wayNext (farL g to) a (g.getD a.toNat [])) = dAt (farL g to) a - 1 ∧ 0 ≤ wayNext (farL g to) a (g.getD a.toNat []) ∧ wayNext (farL g to) a (g.getD a.toNat []) < g.length := by
  have hr := okG_row hg a.toNat
  have hal : a.toNat < (farL g to).length := by rw [h.len]; omega
  unfold dAt at hp
  rw [getD_at hal] at hp
  obtain ⟨m, hm, h1, h2⟩ := h.pos a.toNat hal hp
  have hx := next_spec (d := farL g to) (a := a) (g.getD a.toNat []) (fun x hx => (hr x hx).1) ⟨(m : Int), h1, by unfold dAt; rw [Int.toNat_natCast, getD_at hm, getD_at hal]; exact h2⟩
  exact ⟨hx.1, hx.2, hr _ hx.1⟩
/-- the way from a -/
theorem way_all : ∀ (f : Nat) (a : Int), 0 ≤ a ∧ a < g.length → 0 ≤ dAt (farL g to) a → dAt (farL g to) a ≤ f → WayOK g (farL g to) (wayGo g (farL g to) f a) a
  | f, a, ha, h0, hf => by
    by_cases hp : 0 < dAt (farL g to) a
    · cases f with
      | zero => omega
      | succ f =>
        have hn := way_next h hg ha hp
        generalize hx : wayNext (farL g to) a (g.getD a.toNat []) = x at *
        have ih := way_all f x hn.2.2 (by omega) (by omega)
        generalize hl : wayGo g (farL g to) f x = l at *
        have hz : ∀ (h : 0 < l.length), l[0] = x := fun h => by
          have := ih.hd
          rw [List.getElem?_eq_getElem h] at this
          exact Option.some.inj this
        have hl0 : 0 < l.length := by have := ih.len; omega
        have efu : ∀ f' : Nat, dAt (farL g to) a ≤ f' → wayGo g (farL g to) f' a = a :: l := by
          intro f' hf'
          cases f' with
          | zero => omega
          | succ f' =>
            rw [wayGo, if_pos hp, hx]
            have h0 := ih.go 0 hl0 f' (by rw [hz hl0]; omega)
            rw [hz hl0] at h0
            rw [h0]; rfl
        rw [efu (f + 1) hf]
        have hlen := ih.len
        refine ⟨by rw [List.length_cons]; omega, rfl, fun i hi => ?_, fun i hi => ?_, fun i hi f' hf' => ?_, fun i hi hpos => ?_⟩
        · cases i with
          | zero => simp
          | succ i =>
            have := ih.at' i (by simpa using hi)
            simp only [List.getElem_cons_succ]; omega
        · cases i with
          | zero => exact ha
          | succ i => exact ih.inR i (by simpa using hi)
        · cases i with
          | zero => exact efu f' hf'
          | succ i => exact ih.go i (by simpa using hi) f' hf'
        · cases i with
          | zero => omega
          | succ i =>
            cases i with
            | zero =>
              simp only [List.getElem_cons_succ, Nat.zero_add, Nat.sub_self, List.getElem_cons_zero]
              rw [hz hl0]; exact hn.1
            | succ i =>
              have := ih.edge (i + 1) (by simpa using hi) (by omega)
              simpa using this
    · have e : ∀ f', wayGo g (farL g to) f' a = [a] := by
        intro f'
        cases f' with
        | zero => rfl
        | succ f' => rw [wayGo, if_neg hp]
      rw [e]
      have h1 : ∀ i, i < [a].length → i = 0 := fun i hi => by simpa using hi
      refine ⟨by simp; omega, by simp, fun i hi => ?_, fun i hi => ?_, fun i hi f' hf' => ?_, fun i hi hpos => ?_⟩ <;> obtain rfl := h1 i hi
      · simp
      · exact ha
      · exact e f'
      · omega
end
/-- what one comes to from some, if something marked is among it -/
theorem rch_way {g : List (List Int)} {to : List Bool} (h : FInv g to (farL g to) [] none) (hg : okG g) {f : List Int} (hf : okL g.length f) : (∃ n, n < g.length ∧ Rch g f n ∧ to.getD n false = true) ↔ ∃ x ∈ f, 0 ≤ dAt (farL g to) x := by
  constructor
  · rintro ⟨n, hn, hr, ht⟩
    apply Classical.byContradiction
    intro hno
    have key : ∀ m, Rch g f m → m < g.length ∧ dAt (farL g to) m < 0 := by
      intro m hm
      induction hm with
      | @base x hx =>
        have := hf x hx
        refine ⟨by omega, ?_⟩
        rw [show ((x.toNat : Nat) : Int) = x by omega]
        exact Int.not_le.1 fun h0 => hno ⟨x, hx, h0⟩
      | @step m x _ hx ih =>
        have hxr := okG_row hg m x hx
        refine ⟨by omega, ?_⟩
        rw [show ((x.toNat : Nat) : Int) = x by omega]
        apply Int.not_le.1
        intro h0
        have hxl : x.toNat < (farL g to).length := by rw [h.len]; omega
        have hml : m < (farL g to).length := by rw [h.len]; exact ih.1
        unfold dAt at h0
        rw [getD_at hxl] at h0
        have := h.done x.toNat hxl h0
        rcases this with h1 | ⟨j, h1⟩ | h1
        · cases h1
        · cases h1
        · have h2 := h1 m hml (by rw [show ((x.toNat : Nat) : Int) = x by omega]; exact hx)
          have h3 := ih.2
          unfold dAt at h3
          rw [Int.toNat_natCast, getD_at hml] at h3
          omega
    have h1 := (key n hr).2
    have hnl : n < (farL g to).length := by rw [h.len]; exact hn
    unfold dAt at h1
    rw [Int.toNat_natCast, getD_at hnl, (h.zero n hnl).2 ht] at h1
    omega
  · rintro ⟨x, hx, h0⟩
    have hxr := hf x hx
    have hW := way_all h hg (dAt (farL g to) x).toNat x hxr h0 (by omega)
    generalize wayGo g (farL g to) (dAt (farL g to) x).toNat x = l at hW
    have hlen := hW.len
    have hr : ∀ i (hi : i < l.length), Rch g f l[i].toNat := by
      intro i
      induction i with
      | zero =>
        intro hi
        have := hW.hd
        rw [List.getElem?_eq_getElem hi] at this
        rw [Option.some.inj this]
        exact .base hx
      | succ i ih =>
        intro hi
        exact .step (ih (by omega)) (by have := hW.edge (i + 1) hi (by omega); simpa using this)
    have hi : l.length - 1 < l.length := by omega
    have h1 := hW.at' _ hi
    have h2 := hW.inR _ hi
    refine ⟨l[l.length - 1].toNat, by omega, hr _ hi, ?_⟩
    have hll : l[l.length - 1].toNat < (farL g to).length := by rw [h.len]; omega
    refine (h.zero _ hll).1 ?_
    unfold dAt at h1 hlen
    rw [getD_at hll] at h1
    omega
end Go.Proofs.Ytikigaeihdmcaaa

/-
  What the shortest way is: plain laws.
-/
set_option linter.unusedVariables false
set_option linter.unusedSimpArgs false
namespace Go.Proofs.Ytikigaeihdmcaaa

/-- the ways of a law: what Way answers where the graph is right -/
structure Short (g : List (List Int)) (f : List Int) (to : List Bool) (l : List Int) (is : Bool) : Prop where
  len : is = decide (0 < l.length)
  come : is = true ↔ ∃ n, n < g.length ∧ Rch g f n ∧ to.getD n false = true
  inR : ∀ i (hi : i < l.length), 0 ≤ l[i] ∧ l[i] < g.length
  last : ∀ i (hi : i < l.length), to.getD l[i].toNat false = decide (i = l.length - 1)
  edge : ∀ i (hi : i < l.length) (hp : 0 < i), l[i] ∈ g.getD (l[i - 1]'(by omega)).toNat []
  again : ∀ i (hi : i < l.length), (wayF g [l[i]] to).1 = l.drop i
  first : ∀ h : 0 < l.length, l[0] ∈ f
theorem wayF_ok {g : List (List Int)} {f : List Int} {to : List Bool} (h : (wayF g f to).2.2 = 0) : okG g ∧ okL g.length f ∧ g.length ≤ 20000 ∧ to.length = g.length ∧ Short g f to (wayF g f to).1 (wayF g f to).2.1 := by
  have hcases : chkG g = 0 ∧ ¬ (oddB g.length f = true ∨ to.length ≠ g.length) := by
    unfold wayF at h
    split at h
    · rename_i h1; exact absurd h h1
    · rename_i h1
      split at h
      · cases h
      · rename_i h2; exact ⟨by simpa using h1, h2⟩
  obtain ⟨hc, hn⟩ := hcases
  obtain ⟨hg, hl⟩ := chkG_ok hc
  have htl : to.length = g.length := Classical.byContradiction fun h => hn (.inr h)
  have hof : okL g.length f := oddB_false.1 (by cases e : oddB g.length f; rfl; exact absurd (.inl e) hn)
  refine ⟨hg, hof, hl, htl, ?_⟩
  have hI := farL_inv htl
  have eW : ∀ f', okL g.length f' → wayF g f' to = if wayPick (farL g to) f' < 0 then ([], false, 0) else (wayGo g (farL g to) g.length (wayPick (farL g to) f'), true, 0) := by
    intro f' hf'
    rw [wayF, if_neg (by simp [hc]), if_neg (by simp [oddB_false.2 hf', htl])]
  have hps := pick_spec (d := farL g to) f (fun x hx => (hof x hx).1)
  have hrw := rch_way hI hg hof
  rw [eW f hof]
  rcases hps with ⟨h1, h2⟩ | ⟨h1, h2⟩
  · rw [if_pos (by omega)]
    refine ⟨by simp, ?_, fun i hi => absurd hi (by simp), fun i hi => absurd hi (by simp), fun i hi => absurd hi (by simp), fun i hi => absurd hi (by simp), fun h => absurd h (by simp)⟩
    rw [hrw]
    constructor
    · intro e; cases e
    · rintro ⟨x, hx, h0⟩; have := h2 x hx; omega
  · have hpr := hof _ h1
    generalize hp : wayPick (farL g to) f = p at *
    rw [if_neg (by omega)]
    have hle : ∀ x, 0 ≤ x ∧ x < (g.length : Int) → dAt (farL g to) x ≤ (g.length : Nat) := by
      intro x hx
      obtain ⟨k, rfl⟩ := Int.eq_ofNat_of_zero_le hx.1
      have hk : k < (farL g to).length := by rw [hI.len]; omega
      have := hI.le k hk
      unfold dAt; rw [Int.toNat_natCast, getD_at hk]; omega
    have hW := way_all hI hg g.length p hpr h2 (hle p hpr)
    dsimp only
    generalize wayGo g (farL g to) g.length p = l at hW
    have hlen := hW.len
    refine ⟨(decide_eq_true (by omega)).symm, ?_, hW.inR, ?_, hW.edge, ?_, ?_⟩
    · rw [hrw]
      exact ⟨fun _ => ⟨p, h1, h2⟩, fun _ => rfl⟩
    · intro i hi
      have a1 := hW.at' i hi
      have a2 := hW.inR i hi
      have hk : l[i].toNat < (farL g to).length := by rw [hI.len]; omega
      have hz := hI.zero _ hk
      have hd : dAt (farL g to) l[i] = (farL g to)[l[i].toNat] := by unfold dAt; rw [getD_at hk]
      rw [Bool.eq_iff_iff, ← hz, ← hd, a1]
      simp; omega
    · intro i hi
      have a1 := hW.at' i hi
      have a2 := hW.inR i hi
      have e : wayPick (farL g to) [l[i]] = l[i] := by
        have := pick_spec (d := farL g to) [l[i]] (fun x hx => by simp at hx; subst hx; exact a2.1)
        rcases this with ⟨_, h4⟩ | ⟨h4, _⟩
        · have := h4 l[i] (by simp); omega
        · simpa using h4
      rw [eW [l[i]] (fun x hx => by simp at hx; subst hx; exact a2), e, if_neg (by omega)]
      exact hW.go i hi _ (hle _ a2)
    · intro h0
      have := hW.hd
      rw [List.getElem?_eq_getElem h0] at this
      rw [Option.some.inj this]; exact h1
theorem wayGo_len {g : List (List Int)} {d : List Int} : ∀ (f : Nat) (a : Int), (wayGo g d f a).length ≤ f + 1
  | 0, a => by simp [wayGo]
  | f + 1, a => by
    rw [wayGo]
    split
    · have := wayGo_len (g := g) (d := d) f (wayNext d a (g.getD a.toNat []))
      rw [List.length_cons]; omega
    · simp
theorem wayF_len {g : List (List Int)} {f : List Int} {to : List Bool} : (wayF g f to).1.length ≤ g.length + 1 := by
  unfold wayF
  split
  · simp
  · split
    · simp
    · split
      · simp
      · exact wayGo_len _ _
end Go.Proofs.Ytikigaeihdmcaaa

/-
  Ways through a graph that meet sets again and again: plain lists, no program in sight.
-/
set_option linter.unusedVariables false
set_option linter.unusedSimpArgs false
namespace Go.Proofs.Ytikigaeihdmcaaa

/-- n steps of E along p -/
structure Wlk (E : Nat → Nat → Prop) (p : Nat → Nat) (n a b : Nat) : Prop where
  first : p 0 = a
  last : p n = b
  step : ∀ i, i < n → E (p i) (p (i + 1))
def glue (p q : Nat → Nat) (n : Nat) : Nat → Nat := fun i => if i < n then p i else q (i - n)
theorem glue_lt {p q : Nat → Nat} {n i : Nat} (h : i < n) : glue p q n i = p i := by unfold glue; rw [if_pos h]
theorem glue_ge {p q : Nat → Nat} {n i : Nat} (h : n ≤ i) : glue p q n i = q (i - n) := by unfold glue; rw [if_neg (by omega)]
theorem glue_le {p q : Nat → Nat} {n i : Nat} (h : i ≤ n) (he : p n = q 0) : glue p q n i = p i := by
  by_cases hi : i < n
  · exact glue_lt hi
  · obtain rfl : i = n := by omega
    rw [glue_ge (Nat.le_refl _), Nat.sub_self, he]
theorem Wlk.trans {E : Nat → Nat → Prop} {p q : Nat → Nat} {n m a b c : Nat} (h : Wlk E p n a b) (k : Wlk E q m b c) : Wlk E (glue p q n) (n + m) a c := by
  have he : p n = q 0 := h.last.trans k.first.symm
  refine ⟨(glue_le (Nat.zero_le _) he).trans h.first, ?_, fun i hi => ?_⟩
  · rw [glue_ge (by omega), show n + m - n = m by omega]; exact k.last
  · by_cases hn : i < n
    · rw [glue_lt hn, glue_le (i := i + 1) (Nat.succ_le_of_lt hn) he]; exact h.step i hn
    · rw [glue_ge (by omega), glue_ge (by omega), show i + 1 - n = (i - n) + 1 by omega]
      exact k.step _ (by omega)
def Rc (E : Nat → Nat → Prop) (a b : Nat) : Prop := ∃ p n, Wlk E p n a b
theorem Rc.refl {E : Nat → Nat → Prop} (a : Nat) : Rc E a a := ⟨fun _ => a, 0, rfl, rfl, fun i h => absurd h (by omega)⟩
theorem Rc.trans {E : Nat → Nat → Prop} {a b c : Nat} : Rc E a b → Rc E b c → Rc E a c
  | ⟨_, _, h⟩, ⟨_, _, k⟩ => ⟨_, _, h.trans k⟩
theorem Wlk.one {E : Nat → Nat → Prop} {a b : Nat} (h : E a b) : Wlk E (fun i => if i = 0 then a else b) 1 a b :=
  ⟨rfl, rfl, fun i hi => by obtain rfl : i = 0 := by omega
                            exact h⟩
theorem Rc.one {E : Nat → Nat → Prop} {a b : Nat} (h : E a b) : Rc E a b := ⟨_, _, Wlk.one h⟩
theorem Rc.of_way {E : Nat → Nat → Prop} {r : Nat → Nat} (h : ∀ i, E (r i) (r (i + 1))) {i j : Nat} (hij : i ≤ j) : Rc E (r i) (r j) :=
  ⟨fun k => r (i + k), j - i, by simp, by rw [show i + (j - i) = j by omega], fun k _ => by
    have := h (i + k)
    rwa [show i + k + 1 = i + (k + 1) by omega] at this⟩
theorem Rc.mono {E E' : Nat → Nat → Prop} (h : ∀ a b, E a b → E' a b) {a b : Nat} : Rc E a b → Rc E' a b
  | ⟨p, n, k⟩ => ⟨p, n, k.first, k.last, fun i hi => h _ _ (k.step i hi)⟩

theorem inf_often : ∀ (N : Nat) (r : Nat → Nat), (∀ i, r i < N) → ∃ v, v < N ∧ ∀ i, ∃ j, i ≤ j ∧ r j = v
  | 0, r, h => absurd (h 0) (by omega)
  | N + 1, r, h => by
    by_cases hv : ∀ i, ∃ j, i ≤ j ∧ r j = N
    · exact ⟨N, by omega, hv⟩
    · obtain ⟨i0, h0⟩ := Classical.not_forall.1 hv
      have h1 : ∀ j, i0 ≤ j → r j ≠ N := fun j hj he => h0 ⟨j, hj, he⟩
      obtain ⟨v, hv1, hv2⟩ := inf_often N (fun k => r (i0 + k)) (fun k => by
        have a := h (i0 + k); have b := h1 (i0 + k) (by omega); omega)
      refine ⟨v, by omega, fun i => ?_⟩
      obtain ⟨j, hj1, hj2⟩ := hv2 i
      exact ⟨i0 + j, by omega, hj2⟩

/-- a round from v that meets all of some sets -/
theorem loop_all {E : Nat → Nat → Prop} {v u : Nat} (hu : E v u) (hb : Rc E u v) : ∀ Ps : List (Nat → Prop), (∀ P ∈ Ps, ∃ x, P x ∧ Rc E v x ∧ Rc E x v) →
    ∃ p n, 0 < n ∧ Wlk E p n v v ∧ ∀ P ∈ Ps, ∃ i, i < n ∧ P (p i)
  | [], _ => by
    obtain ⟨q, m, hq⟩ := hb
    exact ⟨_, _, by omega, (Wlk.one hu).trans hq, fun P hP => by cases hP⟩
  | P :: Ps, h => by
    obtain ⟨p, n, hn, hp, hall⟩ := loop_all hu hb Ps (fun Q hQ => h Q (by simp [hQ]))
    obtain ⟨x, hx, ⟨q1, n1, h1⟩, ⟨q2, n2, h2⟩⟩ := h P (by simp)
    refine ⟨glue p (glue q1 q2 n1) n, n + (n1 + n2), by omega, hp.trans (h1.trans h2), fun Q hQ => ?_⟩
    rcases List.mem_cons.1 hQ with rfl | hQ
    · by_cases h0 : n2 = 0
      · subst h0
        have hxv : x = v := h2.first.symm.trans h2.last
        exact ⟨0, by omega, by rw [glue_lt hn, hp.first, ← hxv]; exact hx⟩
      · refine ⟨n + n1, by omega, ?_⟩
        rw [glue_ge (by omega), show n + n1 - n = n1 by omega, glue_ge (Nat.le_refl _), Nat.sub_self, h2.first]
        exact hx
    · obtain ⟨i, hi, hq⟩ := hall Q hQ
      exact ⟨i, by omega, by rw [glue_lt hi]; exact hq⟩

/-- a way without end from a that meets each of some sets again and again -/
def Way8 (E : Nat → Nat → Prop) (Ps : List (Nat → Prop)) (r : Nat → Nat) : Prop := (∀ i, E (r i) (r (i + 1))) ∧ ∀ P ∈ Ps, ∀ i, ∃ j, i ≤ j ∧ P (r j)
def Core (E : Nat → Nat → Prop) (Ps : List (Nat → Prop)) (v : Nat) : Prop := (∃ u, E v u ∧ Rc E u v) ∧ ∀ P ∈ Ps, ∃ x, P x ∧ Rc E v x ∧ Rc E x v
theorem way8_core {E : Nat → Nat → Prop} {Ps : List (Nat → Prop)} {N : Nat} {r : Nat → Nat} (hN : ∀ i, r i < N) (h : Way8 E Ps r) : ∃ v, Rc E (r 0) v ∧ Core E Ps v ∧ ∃ i, r i = v := by
  obtain ⟨v, _, hv⟩ := inf_often N r hN
  obtain ⟨i0, _, h0⟩ := hv 0
  refine ⟨v, by rw [← h0]; exact Rc.of_way h.1 (Nat.zero_le _), ⟨⟨r (i0 + 1), by rw [← h0]; exact h.1 i0, ?_⟩, fun P hP => ?_⟩, i0, h0⟩
  · obtain ⟨j, hj, hr⟩ := hv (i0 + 1)
    rw [← hr]; exact Rc.of_way h.1 hj
  · obtain ⟨j, hj, hr⟩ := h.2 P hP i0
    obtain ⟨k, hk, hkr⟩ := hv j
    exact ⟨r j, hr, by rw [← h0]; exact Rc.of_way h.1 hj, by rw [← hkr]; exact Rc.of_way h.1 hk⟩
/-- a stem, and a round again and again -/
def lassoW (q p : Nat → Nat) (m n : Nat) : Nat → Nat := glue q (fun i => p (i % n)) m
theorem lassoW_step {E : Nat → Nat → Prop} {q p : Nat → Nat} {m n a v : Nat} (hn : 0 < n) (hq : Wlk E q m a v) (hp : Wlk E p n v v) : ∀ i, E (lassoW q p m n i) (lassoW q p m n (i + 1)) := by
  intro i
  have he : q m = (fun i => p (i % n)) 0 := by show _ = p (0 % n); rw [Nat.zero_mod, hp.first, hq.last]
  unfold lassoW
  by_cases h : i < m
  · rw [glue_lt h, glue_le (q := fun i => p (i % n)) (i := i + 1) (Nat.succ_le_of_lt h) he]; exact hq.step i h
  · rw [glue_ge (by omega), glue_ge (by omega), show i + 1 - m = (i - m) + 1 by omega]
    generalize i - m = k
    have hlt := Nat.mod_lt k hn
    have hs := hp.step (k % n) hlt
    show E (p (k % n)) (p ((k + 1) % n))
    by_cases h1 : k % n + 1 = n
    · rw [h1, hp.last] at hs
      have : (k + 1) % n = 0 := by rw [Nat.add_mod]; by_cases hn1 : n = 1
                                   · subst hn1; omega
                                   · rw [Nat.mod_eq_of_lt (show 1 < n by omega), h1, Nat.mod_self]
      rw [this, hp.first]; exact hs
    · have : (k + 1) % n = k % n + 1 := by
        rw [Nat.add_mod, Nat.mod_eq_of_lt (show 1 < n by omega), Nat.mod_eq_of_lt (by omega)]
      rw [this]; exact hs
theorem core_way8 {E : Nat → Nat → Prop} {Ps : List (Nat → Prop)} {a v : Nat} (hr : Rc E a v) (h : Core E Ps v) : ∃ r, r 0 = a ∧ Way8 E Ps r := by
  obtain ⟨⟨u, hu, hb⟩, hP⟩ := h
  obtain ⟨p, n, hn, hp, hall⟩ := loop_all hu hb Ps hP
  obtain ⟨q, m, hq⟩ := hr
  refine ⟨lassoW q p m n, ?_, lassoW_step hn hq hp, fun P hP i => ?_⟩
  · have he : q m = (fun i => p (i % n)) 0 := by show _ = p (0 % n); rw [Nat.zero_mod, hp.first, hq.last]
    show glue q (fun i => p (i % n)) m 0 = a
    rw [glue_le (q := fun i => p (i % n)) (Nat.zero_le _) he]; exact hq.first
  · obtain ⟨k, hk, hx⟩ := hall P hP
    refine ⟨m + (i * n + k), by have := Nat.le_mul_of_pos_right i hn; omega, ?_⟩
    unfold lassoW
    rw [glue_ge (by omega), show m + (i * n + k) - m = i * n + k by omega]
    show P (p ((i * n + k) % n))
    rw [Nat.add_comm, Nat.add_mul_mod_self_right, Nat.mod_eq_of_lt hk]
    exact hx
theorem fair_iff {E : Nat → Nat → Prop} {Ps : List (Nat → Prop)} {N a : Nat} (hN : ∀ u v, E u v → v < N) (ha : a < N) : (∃ r, r 0 = a ∧ Way8 E Ps r) ↔ ∃ v, Rc E a v ∧ Core E Ps v := by
  constructor
  · rintro ⟨r, h0, h⟩
    obtain ⟨v, h1, h2, _⟩ := way8_core (N := N) (fun i => by
      cases i with
      | zero => rw [h0]; exact ha
      | succ i => exact hN _ _ (h.1 i)) h
    exact ⟨v, by rw [← h0]; exact h1, h2⟩
  · rintro ⟨v, h1, h2⟩
    exact core_way8 h1 h2

/- GRAPHS OF LISTS -/
def Eg (g : Graph) (u v : Nat) : Prop := (v : Int) ∈ g.getD u []
theorem Eg.lt {g : Graph} (hg : okG g) {u v : Nat} (h : Eg g u v) : v < g.length := by have := okG_row hg u _ h; omega
theorem rch_rc {g : Graph} (hg : okG g) {f : List Int} (hf : ∀ x ∈ f, 0 ≤ x) {b : Nat} : Rch g f b ↔ ∃ a : Nat, (a : Int) ∈ f ∧ Rc (Eg g) a b := by
  constructor
  · intro h
    induction h with
    | base hx => rename_i x; exact ⟨x.toNat, by rw [show ((x.toNat : Nat) : Int) = x by have := hf x hx; omega]; exact hx, Rc.refl _⟩
    | step _ hx ih =>
      obtain ⟨a, h1, h2⟩ := ih
      refine ⟨a, h1, h2.trans (Rc.one ?_)⟩
      rename_i n x _
      have := (okG_row hg n x hx).1
      show ((x.toNat : Nat) : Int) ∈ _
      rw [show ((x.toNat : Nat) : Int) = x by omega]; exact hx
  · rintro ⟨a, h1, p, n, h⟩
    have : ∀ i, i ≤ n → Rch g f (p i) := by
      intro i
      induction i with
      | zero => intro _; rw [h.first]; exact Rch.base (x := (a : Int)) h1
      | succ i ih => intro hi; exact Rch.step (x := (p (i + 1) : Int)) (ih (by omega)) (h.step i (by omega))
    rw [← h.last]; exact this n (Nat.le_refl _)
theorem rch1 {g : Graph} (hg : okG g) {a b : Nat} : Rch g [(a : Int)] b ↔ Rc (Eg g) a b := by
  rw [rch_rc hg (fun x hx => by simp at hx; omega)]
  constructor
  · rintro ⟨c, hc, h⟩
    simp at hc
    obtain rfl : c = a := by omega
    exact h
  · exact fun h => ⟨a, by simp, h⟩
end Go.Proofs.Ytikigaeihdmcaaa

