import Derived.Test.YtamnlkconfannaaGreatDoorBwB3
import Derived.RangeFuncRecord
import Derived.OrdersIn
import Derived.TacticsIn
/-
The abstract heap: code, and calls.
-/
namespace Go.Abs
open Go

/-- What the texts know from without: the variables of the packages; whether a round of a range over a function is run. -/
structure Gl where
  heap : Array Obj := #[]
  rnd : Bool := false
  base : Option Nat := none

/-- Within a call that began with n blocks. -/
def Gl.at (Γ : Gl) (n : Nat) : Gl := ⟨Γ.heap, false, some n⟩
/-- Within a round that began with n blocks. -/
def Gl.round (Γ : Gl) (n : Nat) : Gl := ⟨Γ.heap, true, some n⟩

/-- A round of the model's, and the blocks of the beginning, beside what is known. -/
def Fits (Γ : Gl) (ρ0 : Ren) (h0 : H) (r : Option Nat) : Prop := (Γ.rnd = false → r = none) ∧ ∀ n, Γ.base = some n → h0.size ≤ n ∧ ∀ i t, ρ0 i = some t → i < n

variable {P : Program} {Γ : Gl} {ρ : Ren} {α β : Type}

/-- The variables of the packages, as they lie. -/
def Glob (Γ : Gl) (ρ : Ren) (w : World) : Prop := ∀ g ob, Γ.heap[g]? = some ob → w.heap[g]? = some ob ∧ ∀ i B, ρ i = some (some B) → B.ro = false → B.b ≠ g

theorem Glob.later {Γ : Gl} {ρ ρ' : Ren} {h h' : H} {w w' : World} (hG : Glob Γ ρ w) (hl : Later ρ h w ρ' h' w') : Glob Γ ρ' w' := fun g ob hg => by
  obtain ⟨h1, h2⟩ := hG g ob hg
  have hlt := (Array.getElem?_eq_some_iff.1 h1).1
  refine ⟨(hl.frame g hlt h2).trans h1, fun i B hB hro => ?_⟩
  rcases hl.fresh i B hB with h | h | ⟨_, j, C, hC, hCro, hCB⟩
  · exact h2 i B h hro
  · omega
  · rw [← hCB]; exact h2 j C hC hCro

theorem Glob.none (ρ : Ren) (w : World) : Glob {} ρ w := fun g ob h => by simp at h

def okExit : Exit → Bool
  | .normal | .exit _ | .ret => true
  | _ => false

def CodePost (P : Program) (ρ0 : Ren) (h0 : H) (w0 : World) (Q : Exit → Act → H → Prop) : Exit → Act → World → Prop := fun e a' w' =>
  okExit e = true ∧ ∃ ρ1 a h1, Q e a h1 ∧ Later ρ0 h0 w0 ρ1 h1 w' ∧ Sim P ρ1 h1 w' ∧ ActRel P ρ1 a a'

/-- No fence, but for the round. -/
def Wd (r : Option Nat) : Fence := { Fence.wide with round := r }

theorem Wd.room (r : Option Nat) (n : Nat) : (Wd r).room n := fun _ h => by simp [Wd, Fence.wide] at h

/-- A piece of code, begun with this frame in this heap, ends with Q. -/
def ACode (P : Program) (Γ : Gl) (c : Code) (a : Act) (h : H) (Q : Exit → Act → H → Prop) : Prop :=
  ∀ ρ0 h0 w0, Glob Γ ρ0 w0 → ∀ r, Fits Γ ρ0 h0 r → ∀ ρ a' w, Later ρ0 h0 w0 ρ h w → Sim P ρ h w → ActRel P ρ a a' → c.wpIn (Wd r) 0 P (CodePost P ρ0 h0 w0 Q) a' w

/-- A call, begun in this heap, returns with Q. -/
def ACall (P : Program) (Γ : Gl) (f : FuncId) (args : Array Value) (h : H) (Q : Value → H → Prop) : Prop :=
  ∀ ρ0 h0 w0, Glob Γ ρ0 w0 → ∀ ρ args' w, Later ρ0 h0 w0 ρ h w → Sim P ρ h w → RRel P ρ args args' →
    Calls P f args' w fun e w1 => ∃ v', e = .returned v' ∧ ∃ ρ1 v h1, Q v h1 ∧ Later ρ0 h0 w0 ρ1 h1 w1 ∧ Sim P ρ1 h1 w1 ∧ VRel P ρ1 v v'

def NPost (P : Program) (ρ0 : Ren) (h0 : H) (w0 : World) (K : Act → H → Prop) : Exit → Act → World → Prop := fun e a' w' =>
  e = .normal ∧ ∃ ρ1 a h1, K a h1 ∧ Later ρ0 h0 w0 ρ1 h1 w' ∧ Sim P ρ1 h1 w' ∧ ActRel P ρ1 a a'

/-- The operations of a region, in the order of a list. -/
def AOps (P : Program) (Γ : Gl) (ops : Array Oper) (l : List Nat) (a : Act) (h : H) (K : Act → H → Prop) : Prop :=
  ∀ ρ0 h0 w0, Glob Γ ρ0 w0 → ∀ r, Fits Γ ρ0 h0 r → ∀ ρ a' w, Later ρ0 h0 w0 ρ h w → Sim P ρ h w → ActRel P ρ a a' → wpOpsIn (Wd r) 0 P ops (NPost P ρ0 h0 w0 K) l a' w

/-! One operation, by what it does -/
theorem not_defer {o : Oper} {e : Operand → Value} {w w1 : World} {x : Next} (h : (execOp e o).run P w = .ok x w1) (hx : ∀ d, x ≠ .defer d) : ∀ c, o.op ≠ .defer c := fun c hc => by
  unfold execOp at h
  rw [hc] at h
  simp only [Sem.run_bind] at h
  cases hr : (resolve e c o.type).run P w with
  | ok d w2 =>
    rw [hr] at h
    simp only [Result.andThen_ok, Sem.run_pure, Result.ok.injEq] at h
    exact hx d h.1.symm
  | halt e w2 => rw [hr] at h; cases h

theorem wpIn_of {r : Option Nat} {o : Oper} {a' : Act} {w w1 : World} {x : Next} {K : Act → World → Prop} {Q : Exit → Act → World → Prop} (h : (execOp a'.eval o).run P w = .ok x w1) (hx : ∀ d, x ≠ .defer d)
    (hk : o.uponIn (Wd r) 0 P a' K Q (.ok x w1)) : o.wpIn (Wd r) 0 P a' w K Q := by
  refine ⟨fun _ _ => trivial, ?_⟩
  rw [Oper.semAt_eq _ _ _ (not_defer h hx), h]
  exact hk

theorem wpIn_val {r : Option Nat} {o : Oper} {a' : Act} {w w1 : World} {v : Value} {K : Act → World → Prop} {Q : Exit → Act → World → Prop}
    (h : (execOp a'.eval o).run P w = .ok (.value v) w1 ∨ (execOp a'.eval o).run P w = .ok .skip w1 ∧ v = undef) (hk : K (a'.put o.dst v) w1) : o.wpIn (Wd r) 0 P a' w K Q := by
  rcases h with h | ⟨h, rfl⟩
  · exact wpIn_of h (fun d e => by cases e) hk
  · exact wpIn_of h (fun d e => by cases e) hk

theorem wpIn_enter {r : Option Nat} {o : Oper} {a' : Act} {w w1 : World} {f : FuncId} {args : Array Value} {K : Act → World → Prop} {Q : Exit → Act → World → Prop} {R : Ending → World → Prop}
    (h : (execOp a'.eval o).run P w = .ok (.enter f args) w1) (hc : Calls P f args w1 R) (hk : ∀ e w2, R e w2 → ∃ v, e = .returned v ∧ K (a'.put o.dst v) w2) : o.wpIn (Wd r) 0 P a' w K Q := by
  refine wpIn_of h (fun d e => by cases e) ⟨fun hd => by simp [Wd, Fence.wide] at hd, ?_⟩
  have hc2 : CallsIn (Wd r) 0 P f args w1 R := (callsIn_wide (n := 0)).2 hc
  refine hc2.mono ?_
  intro e w2 hr
  obtain ⟨v, rfl, hv⟩ := hk e w2 hr
  exact hv

theorem yielded_rel {ops : Array Oper} {a a' : Act} (ha : ActRel P ρ a a') (j : Nat) : yielded ops a'.tmps j = yielded ops a.tmps j := by
  unfold yielded
  cases (ops[j]?).bind (·.dst) with
  | none => rfl
  | some d =>
    simp only [Option.bind_some]
    cases hd : a.tmps[d]? with
    | none =>
      have : a'.tmps[d]? = none := by
        rw [Array.getElem?_eq_none_iff] at hd ⊢; rw [← ha.1.1]; exact hd
      rw [this]
    | some v =>
      have hlt : d < a'.tmps.size := by rw [← ha.1.1]; exact (Array.getElem?_eq_some_iff.1 hd).1
      rw [Array.getElem?_eq_getElem hlt]
      have := ha.1.2 d _ _ hd (Array.getElem?_eq_getElem hlt)
      generalize a'.tmps[d] = v' at this
      cases this <;> rfl

theorem wanted_rel {ops : Array Oper} {a a' : Act} (ha : ActRel P ρ a a') (o : Oper) : Region.wanted o (yielded ops a'.tmps) = Region.wanted o (yielded ops a.tmps) := by
  unfold Region.wanted
  split
  · rfl
  · rw [yielded_rel ha]

theorem AOps.nil {ops : Array Oper} {a : Act} {h : H} {K : Act → H → Prop} (hk : K a h) : AOps P Γ ops [] a h K :=
  fun _ _ _ _ _ _ ρ _ _ hl hs ha => ⟨rfl, ρ, a, h, hk, hl, hs, ha⟩

theorem AOps.none {ops : Array Oper} {i : Nat} {l : List Nat} {a : Act} {h : H} {K : Act → H → Prop} (hi : ops[i]? = none) (hr : AOps P Γ ops l a h K) : AOps P Γ ops (i :: l) a h K :=
  fun ρ0 h0 w0 hG r hrr ρ a' w hl hs ha => by
    simp only [wpOpsIn, hi]
    exact hr ρ0 h0 w0 hG r hrr ρ a' w hl hs ha

theorem AOps.skip {ops : Array Oper} {i : Nat} {o : Oper} {l : List Nat} {a : Act} {h : H} {K : Act → H → Prop} (hi : ops[i]? = some o) (hw : Region.wanted o (yielded ops a.tmps) = false)
    (hr : AOps P Γ ops l (a.put o.dst undef) h K) : AOps P Γ ops (i :: l) a h K :=
  fun ρ0 h0 w0 hG r hrr ρ a' w hl hs ha => by
    have hw' := (wanted_rel (ops := ops) ha o).trans hw
    simp only [wpOpsIn, hi, hw', Bool.false_eq_true, if_false]
    exact ⟨fun _ _ => trivial, hr ρ0 h0 w0 hG r hrr ρ _ w hl hs (ha.put o.dst undef_rel)⟩

theorem AOps.val {ops : Array Oper} {i : Nat} {o : Oper} {l : List Nat} {a : Act} {h h1 : H} {v : Value} {K : Act → H → Prop} (hi : ops[i]? = some o) (hw : Region.wanted o (yielded ops a.tmps) = true)
    (hv : aop P a o h = some (.val v h1)) (hr : AOps P Γ ops l (a.put o.dst v) h1 K) : AOps P Γ ops (i :: l) a h K :=
  fun ρ0 h0 w0 hG r hrr ρ a' w hl hs ha => by
    have hw' := (wanted_rel (ops := ops) ha o).trans hw
    simp only [wpOpsIn, hi, hw', if_true]
    obtain ⟨v', w1, ρ1, e1, e2, e3, e4⟩ := aop_does hs ha hv
    exact wpIn_val e1 (hr ρ0 h0 w0 hG r hrr ρ1 _ w1 (hl.trans e2) e3 ((ha.mono e2.le).put o.dst e4))

theorem AOps.enter {ops : Array Oper} {i : Nat} {o : Oper} {l : List Nat} {a : Act} {h h1 : H} {f : FuncId} {args : Array Value} {K : Act → H → Prop} {R : Value → H → Prop} (hi : ops[i]? = some o)
    (hw : Region.wanted o (yielded ops a.tmps) = true) (hv : aop P a o h = some (.enter f args h1)) (hc : ACall P Γ f args h1 R) (hr : ∀ v h2, R v h2 → AOps P Γ ops l (a.put o.dst v) h2 K) : AOps P Γ ops (i :: l) a h K :=
  fun ρ0 h0 w0 hG r hrr ρ a' w hl hs ha => by
    have hw' := (wanted_rel (ops := ops) ha o).trans hw
    simp only [wpOpsIn, hi, hw', if_true]
    obtain ⟨args', w1, ρ1, e1, e2, e3, e4⟩ := aop_does hs ha hv
    refine wpIn_enter e1 (hc ρ h w (hG.later hl) ρ1 args' w1 e2 e3 e4) ?_
    rintro e w2 ⟨v', rfl, ρ2, v, h2, g1, g2, g3, g4⟩
    exact ⟨v', rfl, hr v h2 g1 ρ0 h0 w0 hG r hrr ρ2 _ w2 (hl.trans g2) g3 ((ha.mono g2.le).put o.dst g4)⟩

theorem ACode.mono {c : Code} {a : Act} {h : H} {Q Q' : Exit → Act → H → Prop} (hc : ACode P Γ c a h Q) (hq : ∀ e a h, Q e a h → Q' e a h) : ACode P Γ c a h Q' :=
  fun ρ0 h0 w0 hG r hrr ρ a' w hl hs ha => wpIn_mono (hc ρ0 h0 w0 hG r hrr ρ a' w hl hs ha) fun _ _ _ ⟨h1, ρ1, a1, h2, h3, h4⟩ => ⟨h1, ρ1, a1, h2, hq _ _ _ h3, h4⟩

theorem ACall.mono {f : FuncId} {args : Array Value} {h : H} {Q Q' : Value → H → Prop} (hc : ACall P Γ f args h Q) (hq : ∀ v h, Q v h → Q' v h) : ACall P Γ f args h Q' :=
  fun ρ0 h0 w0 hG ρ a' w hl hs ha => (hc ρ0 h0 w0 hG ρ a' w hl hs ha).mono fun _ _ ⟨v', h1, ρ1, v, h2, h3, h4⟩ => ⟨v', h1, ρ1, v, h2, hq _ _ h3, h4⟩

theorem ACode.region {id : Nat} {ops : Array Oper} {a : Act} {h : H} {Q : Exit → Act → H → Prop} (hr : AOps P Γ ops (List.range ops.size) a h (fun a h => Q .normal a h)) : ACode P Γ (.region id ops false) a h Q :=
  fun ρ0 h0 w0 hG r hrr ρ a' w hl hs ha => by
    refine wpIn_mono (wpIn_region (hr ρ0 h0 w0 hG r hrr ρ a' w hl hs ha)) ?_
    rintro e a w ⟨rfl, ρ1, a1, h1, h2⟩
    exact ⟨rfl, ρ1, a1, h1, h2⟩

theorem ACode.skip {a : Act} {h : H} {Q : Exit → Act → H → Prop} (hq : Q .normal a h) : ACode P Γ .skip a h Q :=
  fun _ _ _ _ _ _ ρ _ _ hl hs ha => wpIn_skip ⟨rfl, ρ, a, h, hq, hl, hs, ha⟩
theorem ACode.label {l : Nat} {a : Act} {h : H} {Q : Exit → Act → H → Prop} (hq : Q .normal a h) : ACode P Γ (.label l) a h Q :=
  fun _ _ _ _ _ _ ρ _ _ hl hs ha => wpIn_label ⟨rfl, ρ, a, h, hq, hl, hs, ha⟩
theorem ACode.exit {id : Nat} {a : Act} {h : H} {Q : Exit → Act → H → Prop} (hq : Q (.exit id) a h) : ACode P Γ (.exit id) a h Q :=
  fun _ _ _ _ _ _ ρ _ _ hl hs ha => wpIn_exit ⟨rfl, ρ, a, h, hq, hl, hs, ha⟩
theorem ACode.ret {a : Act} {h : H} {Q : Exit → Act → H → Prop} (hq : Q .ret a h) : ACode P Γ .ret a h Q :=
  fun _ _ _ _ _ _ ρ _ _ hl hs ha => wpIn_ret ⟨rfl, ρ, a, h, hq, hl, hs, ha⟩

/-- What follows where a piece of code ends as it stands. -/
def andThen (K : Act → H → Prop) (Q : Exit → Act → H → Prop) : Exit → Act → H → Prop
  | .normal, a, h => K a h
  | e, a, h => Q e a h

theorem ACode.seq {x y : Code} {a : Act} {h : H} {Q : Exit → Act → H → Prop} (hx : ACode P Γ x a h (andThen (fun a h => ACode P Γ y a h Q) Q)) : ACode P Γ (.seq x y) a h Q :=
  fun ρ0 h0 w0 hG r hrr ρ a' w hl hs ha => by
    refine wpIn_seq (wpIn_mono (hx ρ0 h0 w0 hG r hrr ρ a' w hl hs ha) ?_)
    rintro e a1 w1 ⟨g0, ρ1, a2, h2, g1, g2, g3, g4⟩
    cases e with
    | normal => exact g1 ρ0 h0 w0 hG r hrr ρ1 a1 w1 g2 g3 g4
    | exit id => exact ⟨g0, ρ1, a2, h2, g1, g2, g3, g4⟩
    | ret => exact ⟨g0, ρ1, a2, h2, g1, g2, g3, g4⟩
    | _ => cases g0

theorem ACode.cond {c : Operand} {x y : Code} {t : Bool} {a : Act} {h : H} {Q : Exit → Act → H → Prop} (ho : okOperand c = true) (hc : a.eval c = .bool t) (hx : ACode P Γ (if t = true then x else y) a h Q) : ACode P Γ (.cond c x y) a h Q :=
  fun ρ0 h0 w0 hG r hrr ρ a' w hl hs ha => by
    have := ha.eval ho
    rw [hc] at this
    have hc' : a'.eval c = .bool t := by
      generalize a'.eval c = v at this
      cases this; rfl
    exact wpIn_cond hc' (hx ρ0 h0 w0 hG r hrr ρ a' w hl hs ha)

def inBlock (id : Nat) (Q : Exit → Act → H → Prop) : Exit → Act → H → Prop
  | .exit id', a, h => if id' = id then Q .normal a h else Q (.exit id') a h
  | e, a, h => Q e a h

theorem ACode.block {id : Nat} {c : Code} {a : Act} {h : H} {Q : Exit → Act → H → Prop} (hc : ACode P Γ c a h (inBlock id Q)) : ACode P Γ (.block id c) a h Q :=
  fun ρ0 h0 w0 hG r hrr ρ a' w hl hs ha => by
    refine wpIn_block (wpIn_mono (hc ρ0 h0 w0 hG r hrr ρ a' w hl hs ha) ?_)
    rintro e a1 w1 ⟨g0, ρ1, a2, h2, g1, g2, g3, g4⟩
    cases e with
    | exit id' =>
      simp only [inBlock] at g1
      simp only [Exit.inBlock]
      split
      · rename_i e; rw [if_pos e] at g1; exact ⟨rfl, ρ1, a2, h2, g1, g2, g3, g4⟩
      · rename_i e; rw [if_neg e] at g1; exact ⟨rfl, ρ1, a2, h2, g1, g2, g3, g4⟩
    | normal => exact ⟨g0, ρ1, a2, h2, g1, g2, g3, g4⟩
    | ret => exact ⟨g0, ρ1, a2, h2, g1, g2, g3, g4⟩
    | _ => cases g0

theorem exitTo_length (id : Nat) : ∀ (k k' : List Item), exitTo id k = some k' → k'.length < k.length + 1 := by
  intro k
  induction k with
  | nil => intro k' h; simp [exitTo] at h
  | cons x k ih =>
    intro k' h
    cases x <;> simp only [exitTo] at h
    case inBlock i =>
      split at h
      · cases h; simp; omega
      · have := ih k' h; simp; omega
    all_goals (have := ih k' h; simp; omega)

theorem StepsIn.tail {I : Machine → Prop} {m m' X : Machine} (h : StepsIn I P m m') (hne : m ≠ m') (hx : step P m = .next X) : StepsIn I P X m' := by
  cases h with
  | refl => exact absurd rfl hne
  | head _ hs h' => rw [hs] at hx; cases hx; exact h'

/-- One round of a loop. -/
theorem wpIn_loop_unroll {F : Fence} {n : Nat} {c : Code} {Q : Exit → Act → World → Prop} {a : Act} {w : World} (hQ : ∀ e a w, Q e a w → okExit e = true) (h : c.wpIn F n P (Exit.then ((Code.loop c).wpIn F n P Q) Q) a w) : (Code.loop c).wpIn F n P Q a w := by
  intro b k cs hro hb hr
  have h0 : ∀ a w, (lone (b.atR a (.code (.loop c) :: k)) cs w).fenced P F := fun a w => fenced_calm hb hr rfl
  have h2 : ∀ a w, (lone (b.atR a (.inLoop c :: k)) cs w).fenced P F := fun a w => fenced_calm hb hr rfl
  obtain ⟨e, a₁, w₁, hq, harr⟩ := h b (.inLoop c :: k) cs hro hb hr
  cases e with
  | normal =>
    obtain ⟨e₂, a₂, w₂, hq₂, harr₂⟩ := hq b k cs hro hb hr
    refine ⟨e₂, a₂, w₂, hq₂, .of_steps (.head (h0 _ _) stepR_loop harr) ?_⟩
    have hok := hQ _ _ _ hq₂
    have s1 : step P (lone (b.atR a₁ (.code (.loop c) :: k)) cs w₁) = .next (lone (b.atR a₁ (.code c :: .inLoop c :: k)) cs w₁) := stepR_loop
    have s2 : step P (lone (b.atR a₁ (.inLoop c :: k)) cs w₁) = .next (lone (b.atR a₁ (.code c :: .inLoop c :: k)) cs w₁) := stepR_inLoop
    have ne : ∀ (k' : List Item) (a' : Act) (w' : World), k'.length ≤ k.length → lone (b.atR a₁ (.code (.loop c) :: k)) cs w₁ ≠ lone (b.atR a' k') cs w' := by
      intro k' a' w' hl he
      have h1 := congrArg (fun m : Machine => ((m.gs[0]?).map (fun g => g.frame.todo.length))) he
      simp [lone, Frame.atR] at h1
      omega
    have ne2 : ∀ (x : Code) (k' : List Item) (a' : Act) (w' : World), (∀ c, x ≠ .loop c) → lone (b.atR a₁ (.code (.loop c) :: k)) cs w₁ ≠ lone (b.atR a' (.code x :: k')) cs w' := by
      intro x k' a' w' hl he
      have h1 := congrArg (fun m : Machine => ((m.gs[0]?).bind (fun g => g.frame.todo.head?))) he
      simp [lone, Frame.atR] at h1
      exact hl c h1.symm
    cases e₂ with
    | normal => exact .head (h2 _ _) s2 (StepsIn.tail harr₂ (ne k a₂ w₂ (Nat.le_refl _)) s1)
    | exit id =>
      refine ⟨fun k' hk => .head (h2 _ _) s2 (StepsIn.tail (harr₂.1 k' hk) (ne k' a₂ w₂ (by have := exitTo_length id k k' hk; omega)) s1), fun hr1 hk => ?_⟩
      obtain ⟨k₁, g1, g2⟩ := harr₂.2 hr1 hk
      exact ⟨k₁, g1, .head (h2 _ _) s2 (StepsIn.tail g2 (ne2 _ k₁ a₂ w₂ (fun c e => by cases e)) s1)⟩
    | ret =>
      refine ⟨fun hr1 => ?_, fun hr1 => ?_⟩
      · obtain ⟨todo, hs⟩ := harr₂.1 hr1
        refine ⟨todo, .head (h2 _ _) s2 (StepsIn.tail hs ?_ s1)⟩
        intro he
        have h1 := congrArg (fun m : Machine => ((m.gs[0]?).map (fun g => match g.frame.mode with | .run => true | _ => false))) he
        simp [lone, Frame.atR] at h1
      · obtain ⟨k₁, hs⟩ := harr₂.2 hr1
        exact ⟨k₁, .head (h2 _ _) s2 (StepsIn.tail hs (ne2 _ k₁ a₂ w₂ (fun c e => by cases e)) s1)⟩
    | _ => cases hok
  | exit id => exact ⟨_, a₁, w₁, hq, .of_steps (.one (h0 _ _) stepR_loop) (.pass (x := .inLoop c) rfl (fun _ _ => .inl (by simp)) harr)⟩
  | goto l => exact ⟨_, a₁, w₁, hq, .of_steps (.one (h0 _ _) stepR_loop) (.pass (x := .inLoop c) rfl (fun _ _ => .inl (by simp)) harr)⟩
  | ret => exact ⟨_, a₁, w₁, hq, .of_steps (.one (h0 _ _) stepR_loop) (.pass (x := .inLoop c) rfl (fun _ _ => .inl (by simp)) harr)⟩
  | panic ch => exact ⟨_, a₁, w₁, hq, .of_steps (.one (h0 _ _) stepR_loop) (.pass (x := .inLoop c) rfl (fun _ _ => .inl (by simp)) harr)⟩
  | outgrown => exact ⟨_, a₁, w₁, hq, .of_steps (.one (h0 _ _) stepR_loop) (.pass (x := .inLoop c) rfl (fun _ _ => .inl (by simp)) harr)⟩

theorem ACode.loop {c : Code} {a : Act} {h : H} {Q : Exit → Act → H → Prop} (hc : ACode P Γ c a h (andThen (fun a h => ACode P Γ (.loop c) a h Q) Q)) : ACode P Γ (.loop c) a h Q :=
  fun ρ0 h0 w0 hG r hrr ρ a' w hl hs ha => by
    refine wpIn_loop_unroll (fun e a w hq => hq.1) (wpIn_mono (hc ρ0 h0 w0 hG r hrr ρ a' w hl hs ha) ?_)
    rintro e a1 w1 ⟨g0, ρ1, a2, h2, g1, g2, g3, g4⟩
    cases e with
    | normal => exact g1 ρ0 h0 w0 hG r hrr ρ1 a1 w1 g2 g3 g4
    | exit id => exact ⟨g0, ρ1, a2, h2, g1, g2, g3, g4⟩
    | ret => exact ⟨g0, ρ1, a2, h2, g1, g2, g3, g4⟩
    | _ => cases g0


/-! Calls -/
theorem loadCellsFrom_still (a : Addr) (n : Nat) : ∀ (i : Nat) (acc : Array Value) (w w1 : World) (x : Array Value), (Go.loadCellsFrom a i n acc).run P w = .ok x w1 → w1 = w := by
  induction n with
  | zero => intro i acc w w1 x h; simp [Go.loadCellsFrom] at h; exact h.2.symm
  | succ n ih =>
    intro i acc w w1 x h
    simp only [Go.loadCellsFrom, Sem.run_bind, run_load] at h
    cases hc : w.cell? (a.add i) with
    | some v => rw [hc] at h; exact ih _ _ _ _ _ h
    | none =>
      rw [hc] at h
      dsimp only at h
      cases hf : w.farLoad P (a.add i) (Mode.plain == .atomic) with
      | ok r => rw [hf] at h; obtain ⟨v, t⟩ := r; exact ih _ _ _ _ _ h
      | error e => rw [hf] at h; cases h

theorem loadVar_still {t : TypeId} {a : Addr} {w w1 : World} {x : Value} (h : (Go.loadVar t a).run P w = .ok x w1) : w1 = w := by
  unfold Go.loadVar Go.isAgg at h
  simp only [Sem.run_bind, run_underlying'] at h
  cases hd : P.underlying t with
  | none => rw [hd] at h; cases h
  | some d =>
    rw [hd] at h
    simp only [Result.andThen_ok] at h
    have two : ∀ (b : Bool), ((if b = true then (do Pure.pure (.agg (← Go.loadCells a (← Go.sizeOf t)))) else Go.load a : Sem Value).run P w = .ok x w1) → w1 = w := by
      intro b hb
      cases b with
      | true =>
        simp only [if_true, Sem.run_bind, Go.sizeOf, run_typeInfo'] at hb
        cases hi : P.info? t with
        | none => rw [hi] at hb; cases hb
        | some i =>
          rw [hi] at hb
          simp only [Result.andThen_ok, Sem.run_pure] at hb
          cases hl : (Go.loadCells a i.size).run P w with
          | ok y w2 =>
            rw [hl] at hb
            simp only [Result.andThen_ok, Result.ok.injEq] at hb
            rw [← hb.2]
            exact loadCellsFrom_still _ _ _ _ _ _ _ hl
          | halt e w2 => rw [hl] at hb; cases hb
      | false =>
        simp only [Bool.false_eq_true, if_false, run_load] at hb
        cases hc : w.cell? a with
        | some v => rw [hc] at hb; simp at hb; exact hb.2.symm
        | none =>
          rw [hc] at hb
          dsimp only at hb
          cases hf : w.farLoad P a (Mode.plain == .atomic) with
          | ok r => rw [hf] at hb; obtain ⟨v, t⟩ := r; simp at hb; exact hb.2.symm
          | error e => rw [hf] at hb; cases hb
    cases d <;> simp only [Sem.run_pure, Result.andThen_ok] at h <;> first | exact two true h | exact two false h

def resOne (tmps : Array Value) : ResultVar → Sem Value
  | .tmp t => Pure.pure (tmps.getD t undef)
  | .cell a t => do Go.loadVar t (← Go.asAddr (tmps.getD a undef))

theorem results_eq (fn : Func) (tmps : Array Value) : results fn tmps = (do
    let vs ← fn.results.toList.foldlM (fun bs x => do let b ← resOne tmps x; Pure.pure (bs.push b)) #[]
    Pure.pure (if h : vs.size = 1 then vs[0] else .tuple vs)) := by
  unfold results
  rw [Array.mapM_eq_foldlM, ← Array.foldlM_toList]
  congr 1

theorem resOne_still {tmps : Array Value} {r : ResultVar} {w w1 : World} {x : Value} (h : (resOne tmps r).run P w = .ok x w1) : w1 = w := by
  cases r with
  | tmp t => simp [resOne] at h; exact h.2.symm
  | cell a t =>
    simp only [resOne, Sem.run_bind] at h
    cases hv : tmps.getD a undef with
    | pointer p =>
      cases p with
      | none =>
        rw [hv] at h
        simp [Go.asAddr, Go.runtimePanic] at h
      | some p =>
        rw [hv] at h
        simp only [Go.asAddr, Sem.run_pure, Result.andThen_ok] at h
        exact loadVar_still h
    | _ => rw [hv] at h; cases h

theorem resAll_still {tmps : Array Value} : ∀ (l : List ResultVar) (bs : Array Value) (w w1 : World) (x : Array Value),
    (l.foldlM (fun bs x => do let b ← resOne tmps x; Pure.pure (bs.push b)) bs : Sem (Array Value)).run P w = .ok x w1 → w1 = w := by
  intro l
  induction l with
  | nil => intro bs w w1 x h; simp at h; exact h.2.symm
  | cons r l ih =>
    intro bs w w1 x h
    simp only [List.foldlM_cons, Sem.run_bind] at h
    cases hr : (resOne tmps r).run P w with
    | ok b w2 =>
      rw [hr] at h
      simp only [Result.andThen_ok, Sem.run_pure] at h
      have := resOne_still hr
      subst this
      exact ih _ _ _ _ h
    | halt e w2 => rw [hr] at h; cases h

theorem results_still {fn : Func} {tmps : Array Value} {w w1 : World} {x : Value} (h : (results fn tmps).run P w = .ok x w1) : w1 = w := by
  rw [results_eq] at h
  simp only [Sem.run_bind] at h
  cases hr : (fn.results.toList.foldlM (fun bs x => do let b ← resOne tmps x; Pure.pure (bs.push b)) #[] : Sem (Array Value)).run P w with
  | ok b w2 =>
    rw [hr] at h
    simp only [Result.andThen_ok, Sem.run_pure, Result.ok.injEq] at h
    rw [← h.2]
    exact resAll_still _ _ _ _ _ hr
  | halt e w2 => rw [hr] at h; cases h


theorem RRel.getD {x x' : Array Value} (h : RRel P ρ x x') (i : Nat) : VRel P ρ (x.getD i undef) (x'.getD i undef) := by
  simp only [Array.getD_eq_getD_getElem?]
  cases hx : x[i]? with
  | none =>
    have : x'[i]? = none := by
      rw [Array.getElem?_eq_none_iff] at hx ⊢; rw [← h.1]; exact hx
    rw [this]; exact undef_rel
  | some v =>
    have hlt : i < x'.size := by rw [← h.1]; exact (Array.getElem?_eq_some_iff.1 hx).1
    rw [Array.getElem?_eq_getElem hlt]
    exact h.2 i _ _ hx (Array.getElem?_eq_getElem hlt)

theorem SR.asAddr {v v' : Value} (hv : VRel P ρ v v') : SR P ρ (fun ρ a a' => ARel ρ a a') (Go.asAddr v) (Go.asAddr v') := by
  cases hv with
  | ptr h => exact SR.pure fun _ hl => h.mono hl
  | nilp => exact SR.fail fun _ => by simp [Go.asAddr, Go.runtimePanic]
  | _ => exact SR.stuck

theorem SV.resOne {x x' : Array Value} (h : RRel P ρ x x') (r : ResultVar) : SV P ρ (resOne x r) (resOne x' r) := by
  cases r with
  | tmp t => exact SR.pure fun _ hl => (h.getD t).mono hl
  | cell a t => exact SR.bind (SR.asAddr (h.getD a)) fun ρ1 b b' hl hb => SV.loadVar hb t

theorem SR.resAll {x x' : Array Value} : ∀ (l : List ResultVar) {ρ : Ren} (bs bs' : Array Value), RRel P ρ x x' → RRel P ρ bs bs' → SR P ρ (fun ρ y y' => RRel P ρ y y')
    (l.foldlM (fun bs r => do let b ← Abs.resOne x r; Pure.pure (bs.push b)) bs) (l.foldlM (fun bs r => do let b ← Abs.resOne x' r; Pure.pure (bs.push b)) bs') := by
  intro l
  induction l with
  | nil => intro ρ bs bs' _ h; exact SR.pure fun _ hl => h.mono hl
  | cons r l ih =>
    intro ρ bs bs' hx hb
    simp only [List.foldlM_cons]
    refine SR.bind (R := fun ρ y y' => RRel P ρ y y') ?_ fun ρ1 y y' hl hy => ih y y' (hx.mono hl) hy
    refine SR.bind (SV.resOne hx r) fun ρ1 v v' hl hv => SR.pure fun ρ2 hl2 => ?_
    refine ⟨by simp [hb.1], fun i u u' hu hu' => ?_⟩
    rw [Array.getElem?_push] at hu hu'
    rw [← hb.1] at hu'
    split at hu
    · rename_i e
      rw [if_pos e] at hu'
      cases hu; cases hu'
      exact hv.mono hl2
    · rename_i e
      rw [if_neg e] at hu'
      exact ((hb.2 i u u' hu hu').mono hl).mono hl2

theorem SV.results {x x' : Array Value} (fn : Func) (h : RRel P ρ x x') : SV P ρ (Go.results fn x) (Go.results fn x') := by
  rw [results_eq, results_eq]
  refine SR.bind (SR.resAll _ #[] #[] h (RRel.empty ρ)) fun ρ1 y y' hl hy => SR.pure fun ρ2 hl2 => ?_
  have hy2 := hy.mono hl2
  by_cases h1 : y.size = 1
  · rw [dif_pos h1, dif_pos (by rw [← hy2.1]; exact h1)]
    exact hy2.2 0 _ _ (Array.getElem?_eq_getElem _) (Array.getElem?_eq_getElem _)
  · rw [dif_neg h1, dif_neg (by rw [← hy2.1]; exact h1)]
    exact .tuple hy2.1 hy2.2

/-- What a function hands back. -/
def aresults (P : Program) (fn : Func) (a : Act) (h : H) : Option Value := (arun P (Go.results fn a.tmps) h).map (·.1)

def start (fn : Func) (args : Array Value) : Act := { tmps := args ++ Array.replicate (fn.ntmps - args.size) undef, defers := [] }

/-- The marks are come to: the blocks of deferred calls are shut. -/
def collect : List Deferred → H → Option H
  | [], h => some h
  | d :: ds, h => match d.target with
    | .collected i => match h[i]? with
      | some (.deferred (some [])) => collect ds (h.setIfInBounds i (.deferred none))
      | _ => none
    | _ => none

theorem collect_does {F : Fence} {n : Nat} {fn : Func} {tmps : Array Value} {R : Ending → World → Prop} {ds ds' : List Deferred} (hd : DRel ρ ds ds') : ∀ {h h1 : H} {w : World}, Sim P ρ h w → collect ds h = some h1 →
    (∀ w1, Later ρ h w ρ h1 w1 → Sim P ρ h1 w1 → LeavesInM F n P fn tmps R [] .returning w1) → LeavesInM F n P fn tmps R ds' .returning w := by
  induction hd with
  | nil => intro h h1 w hs hc hk; cases hc; exact hk w (.refl _ _ _) hs
  | @cons i r ds ds' hi hd ih =>
    intro h h1 w hs hc hk
    unfold collect at hc
    dsimp only at hc
    split at hc
    · rename_i ho
      have : ∃ B, ρ i = some (some B) ∧ r = B.b := by
        rcases hi with hi | hi
        · rw [hs.dead _ hi] at ho; cases ho
        · exact hi
      obtain ⟨B, hB, rfl⟩ := this
      obtain ⟨o, o', q1, q2, q3⟩ := hs.live _ _ hB
      rw [ho] at q1; cases q1
      cases o' with
      | deferred x =>
        obtain ⟨b1, b2, rfl, _⟩ := q3
        obtain ⟨g1, g2⟩ := hs.setObj (o := .deferred none) (o' := .deferred none) hB b2 ⟨b1, b2, rfl, .inl rfl⟩
        refine ⟨(by intro h; cases h), .inl ⟨B.b, _, rfl, run_takeDeferred q2, ?_⟩⟩
        exact ih g1 hc fun w1 k1 k2 => hk w1 (g2.trans k1) k2
      | _ => exact q3.elim
    · cases hc

/-- What a function hands back where it ends. -/
def leave (P : Program) (fn : Func) (a : Act) (h : H) : Option (Value × H) := match collect a.defers h with
  | some h1 => arun P (Go.results fn a.tmps) h1
  | none => none

def RetPost (P : Program) (fn : Func) (Q : Value → H → Prop) : Exit → Act → H → Prop
  | .normal, a, h | .ret, a, h => ∃ v h1, leave P fn a h = some (v, h1) ∧ Q v h1
  | _, _, _ => False

theorem ACall.body {f : FuncId} {fn : Func} {c : Code} {args : Array Value} {h : H} {Q : Value → H → Prop} (hf : P.funcs[f]? = some fn) (hb : fn.body = some c)
    (hc : ACode P (Γ.at h.size) c (start fn args) h (RetPost P fn Q)) : ACall P Γ f args h Q := by
  intro ρ0 h0 w0 hG ρ args' w hl hs ha
  refine (callsIn_wide (n := 0)).1 ?_
  have hact : ActRel P ρ (start fn args) { tmps := args' ++ Array.replicate (fn.ntmps - args'.size) undef, defers := [] } := by
    refine ⟨?_, .nil⟩
    show RRel P ρ (args ++ Array.replicate (fn.ntmps - args.size) undef) (args' ++ Array.replicate (fn.ntmps - args'.size) undef)
    rw [← ha.1]
    refine ha.append ⟨rfl, fun i u u' hu hu' => ?_⟩
    rw [hu] at hu'; cases hu'
    rw [Array.getElem?_replicate] at hu
    split at hu
    · cases hu; exact undef_rel
    · cases hu
  refine callsIn_of_wp_marks (F := Wd none) (n := 0) hf hb trivial (wpIn_mono (hc ρ h w (hG.later hl) none ⟨fun _ => rfl, fun n hn => by cases hn; exact ⟨Nat.le_refl _, fun i t h => hs.lt h⟩⟩ ρ _ w (.refl _ _ _) hs hact) ?_) rfl
  rintro e a1 w1 ⟨g0, ρ1, a2, h2, g1, g2, g3, g4⟩
  have fin : (∃ v h1, leave P fn a2 h2 = some (v, h1) ∧ Q v h1) → LeavesInM (Wd none) 0 P fn a1.tmps (fun e w1 => ∃ v', e = .returned v' ∧ ∃ ρ1 v h1, Q v h1 ∧ Later ρ0 h0 w0 ρ1 h1 w1 ∧ Sim P ρ1 h1 w1 ∧ VRel P ρ1 v v') a1.defers .returning w1 := by
    rintro ⟨v, h1, hr, hq⟩
    unfold leave at hr
    split at hr
    · rename_i h3 hcol
      refine collect_does g4.2 g3 hcol fun w3 k1 k2 => ?_
      obtain ⟨v', w2, ρ2, e1, e2, e3, e4⟩ := SV.results fn g4.1 ρ1 h3 w3 (.refl _) k2 v h1 hr
      have := results_still e1
      subst this
      exact ⟨v', e1, v', rfl, ρ2, v, h1, hq, ((hl.trans g2).trans k1).trans e2, e3, e4⟩
    · cases hr
  cases e with
  | normal => exact fin g1
  | ret => exact fin g1
  | exit id => exact g1.elim
  | _ => cases g0

/-- Where a later renaming agrees with the elder one on all that the elder one names, what the elder one can say of a value it does say. -/
theorem VRel.back {ρ1 : Ren} (hlive : ∀ i B, ρ i = some (some B) → ρ1 i = some (some B)) {x y0 : Value} (h0 : VRel P ρ x y0) : ∀ {y : Value}, VRel P ρ1 x y → VRel P ρ x y := by
  have ar : ∀ {a a0 a' : Addr}, ARel ρ a a0 → ARel ρ1 a a' → ARel ρ a a' := by
    intro a a0 a' h1 h2
    obtain ⟨hs, h | ⟨B, hB, _⟩⟩ := h1
    · exact ⟨hs, .inl h⟩
    · obtain ⟨_, h2 | ⟨C, hC, e⟩⟩ := h2
      · rw [hlive _ _ hB] at h2; cases h2
      · rw [hlive _ _ hB] at hC; cases hC
        exact ⟨hs, .inr ⟨B, hB, e⟩⟩
  induction h0 with
  | bool b => intro y h; cases h; exact .bool b
  | int k n => intro y h; cases h; exact .int k n
  | float k b => intro y h; cases h; exact .float k b
  | complex k a b => intro y h; cases h; exact .complex k a b
  | string s => intro y h; cases h; exact .string s
  | nilp => intro y h; cases h; exact .nilp
  | ptr h1 => intro y h; cases h with | ptr h2 => exact .ptr (ar h1 h2)
  | nils => intro y h; cases h; exact .nils
  | slc hc hn h1 =>
    intro y h
    cases h with
    | slc hc2 hn2 h2 =>
      rcases h1 with h1 | h1
      · rcases h2 with h2 | h2
        · exact .slc hc hn (.inl (ar h1 h2))
        · exact .slc hc hn (.inr h2)
      · exact .slc hc hn (.inr h1)
    | opn _ => exact absurd hc (Nat.lt_irrefl _)
  | opn h1 =>
    intro y h
    cases h with
    | slc hc2 _ _ => exact absurd hc2 (Nat.lt_irrefl _)
    | opn h2 =>
      refine .opn ?_
      obtain ⟨hs, h | ⟨B, hB, q⟩⟩ := h1
      · exact ⟨hs, .inl h⟩
      · obtain ⟨_, h2 | ⟨C, hC, q2⟩⟩ := h2
        · rw [hlive _ _ hB] at h2; cases h2
        · rw [hlive _ _ hB] at hC; cases hC
          exact ⟨hs, .inr ⟨B, hB, q2⟩⟩
  | nilm => intro y h; cases h; exact .nilm
  | map h1 =>
    intro y h
    cases h with
    | map h2 =>
      rcases h1 with h1 | ⟨B, hB, _⟩
      · exact .map (.inl h1)
      · rcases h2 with h2 | ⟨C, hC, e⟩
        · rw [hlive _ _ hB] at h2; cases h2
        · rw [hlive _ _ hB] at hC; cases hC
          exact .map (.inr ⟨B, hB, e⟩)
  | nilc => intro y h; cases h; exact .nilc
  | func hf hx h1 hy h2 i1 i2 =>
    intro y h
    cases h with
    | yld _ => exact absurd rfl (hf _)
    | func hf' hx' k1 hy' k2 =>
      refine .func hf hx' (fun i u u' hu hu' => ?_) hy' (fun i u u' hu hu' => ?_)
      · have hlt := (Array.getElem?_eq_some_iff.1 hu).1
        exact i1 i u _ hu (Array.getElem?_eq_getElem (by rw [← hx]; exact hlt)) (k1 i u u' hu hu')
      · have hlt := (Array.getElem?_eq_some_iff.1 hu).1
        exact i2 i u _ hu (Array.getElem?_eq_getElem (by rw [← hy]; exact hlt)) (k2 i u u' hu hu')
  | yld h1 =>
    intro y h
    cases h with
    | func hf => exact absurd rfl (hf _)
    | yld h2 =>
      rcases h1 with h1 | ⟨B, hB, _⟩
      · exact .yld (.inl h1)
      · rcases h2 with h2 | ⟨C, hC, e⟩
        · rw [hlive _ _ hB] at h2; cases h2
        · rw [hlive _ _ hB] at hC; cases hC
          exact .yld (.inr ⟨B, hB, e⟩)
  | nilFunc => intro y h; cases h; exact .nilFunc
  | iface _ ih => intro y h; cases h with | iface h2 => exact .iface (ih h2)
  | nilIface => intro y h; cases h; exact .nilIface
  | agg hx h1 ih =>
    intro y h
    cases h with
    | agg hx' k1 =>
      refine .agg hx' fun i u u' hu hu' => ?_
      have hlt := (Array.getElem?_eq_some_iff.1 hu).1
      exact ih i u _ hu (Array.getElem?_eq_getElem (by rw [← hx]; exact hlt)) (k1 i u u' hu hu')
  | tuple hx h1 ih =>
    intro y h
    cases h with
    | tuple hx' k1 =>
      refine .tuple hx' fun i u u' hu hu' => ?_
      have hlt := (Array.getElem?_eq_some_iff.1 hu).1
      exact ih i u _ hu (Array.getElem?_eq_getElem (by rw [← hx]; exact hlt)) (k1 i u u' hu hu')

theorem ObjRel.back {ρ1 : Ren} (hlive : ∀ i B, ρ i = some (some B) → ρ1 i = some (some B)) {B : Blk} {o o0 o' : Obj} (h0 : ObjRel P ρ B o o0) (h : ObjRel P ρ1 B o o') : ObjRel P ρ B o o' := by
  cases o with
  | cells c e f =>
    cases o0 with
    | cells c0 e0 f0 =>
      cases o' with
      | cells c' e' f' =>
        obtain ⟨a1, a2, a3, a4, a5, a6, a7⟩ := h0
        obtain ⟨b1, b2, b3, b4, b5, b6, b7⟩ := h
        refine ⟨b1, b2, b3, b4, fun j v v' hv hv' => ?_, b6, b7⟩
        have hlt := (Array.getElem?_eq_some_iff.1 hv).1
        exact (a5 j v _ hv (Array.getElem?_eq_getElem (by omega))).back hlive (b5 j v v' hv hv')
      | _ => exact h.elim
    | _ => exact h0.elim
  | map es k =>
    cases o0 with
    | map es0 k0 =>
      cases o' with
      | map es' k' =>
        obtain ⟨a1, a2, a3, a4, a5⟩ := h0
        obtain ⟨b1, b2, b3, b4, b5⟩ := h
        refine ⟨b1, b2, b3, b4, fun j m m' hm hm' => ?_⟩
        obtain ⟨c1, c2, c3, c4⟩ := b5 j m m' hm hm'
        have hlt := (Array.getElem?_eq_some_iff.1 hm).1
        exact ⟨c1, c2, (a5 j m _ hm (Array.getElem?_eq_getElem (by omega))).2.2.1.back hlive c3, c4⟩
      | _ => exact h.elim
    | _ => exact h0.elim
  | stringIter s p =>
    cases o' with
    | stringIter s' p' => exact h
    | _ => exact h.elim
  | deferred x =>
    cases o' with
    | deferred x' => exact h
    | _ => exact h.elim
  | loop r =>
    cases o0 with
    | loop r0 =>
      cases o' with
      | loop r' =>
        obtain ⟨a1, a2, a3, a4, a5, a6, a7, a8⟩ := h0
        obtain ⟨b1, b2, b3, b4, b5, b6, b7, b8⟩ := h
        refine ⟨b1, b2, b3, b4, ⟨b5.1, fun j v v' hv hv' => ?_⟩, b6, b7, b8⟩
        have hlt := (Array.getElem?_eq_some_iff.1 hv).1
        exact (a5.2 j v _ hv (Array.getElem?_eq_getElem (by rw [← a5.1]; exact hlt))).back hlive (b5.2 j v v' hv hv')
      | _ => exact h.elim
    | _ => exact h0.elim
  | _ => exact h0.elim

/-- What lay before lies as it lay. -/
def Same (h h1 : H) : Prop := h.size ≤ h1.size ∧ ∀ i, i < h.size → h1[i]? = h[i]?

theorem Same.refl (h : H) : Same h h := ⟨Nat.le_refl _, fun _ _ => rfl⟩
theorem Same.trans {h h1 h2 : H} (a : Same h h1) (b : Same h1 h2) : Same h h2 :=
  ⟨Nat.le_trans a.1 b.1, fun i hi => (b.2 i (Nat.lt_of_lt_of_le hi a.1)).trans (a.2 i hi)⟩
theorem Same.push (h : H) (o : Obj) : Same h (h.push o) := ⟨by simp, fun i hi => by rw [Array.getElem?_push, if_neg (by omega)]⟩

/-- A call that leaves all as it was and hands back no address leaves the heap itself. -/
theorem ACall.forget {f : FuncId} {args : Array Value} {h : H} {Q : Value → Prop}
    (hc : ACall P Γ f args h fun v h1 => Q v ∧ flat v = true ∧ Same h h1) : ACall P Γ f args h fun v h1 => Q v ∧ h1 = h := by
  intro ρ0 h0 w0 hG ρ args' w hl hs ha
  refine (hc ρ h w (hG.later hl) ρ args' w (.refl _ _ _) hs ha).mono ?_
  rintro e w1 ⟨v', rfl, ρ1, v, h1, ⟨hq, hfl, _, hsame⟩, g2, g3, g4⟩
  have hlive : ∀ i B, ρ i = some (some B) → ρ1 i = some (some B) := fun i B hB => by
    rcases g2.le i _ hB with h | hd
    · exact h
    · exfalso
      have h1t := g3.dead i hd
      rw [hsame i (hs.lt hB)] at h1t
      obtain ⟨o, o', q1, q2, q3⟩ := hs.live i B hB
      rw [h1t] at q1; cases q1
      exact q3.not_tomb
  have hsim : Sim P ρ h w1 := by
    refine ⟨fun i B hB => ?_, hs.dead, hs.one⟩
    obtain ⟨o, o', q1, q2, q3⟩ := g3.live i B (hlive i B hB)
    obtain ⟨o2, o2', p1, p2, p3⟩ := hs.live i B hB
    rw [hsame i (hs.lt hB), p1] at q1
    cases q1
    exact ⟨_, o', p1, q2, p3.back hlive q3⟩
  have hlat : Later ρ h w ρ h w1 :=
    ⟨.refl ρ, Nat.le_refl _, g2.wsize, g2.os, g2.tape, g2.output, fun i _ hn => ⟨hn, rfl⟩, g2.frame, fun i B hB => .inl hB⟩
  exact ⟨v', rfl, ρ, v, h, ⟨hq, rfl⟩, hl.trans hlat, hsim, by rw [flat_eq hfl g4]; exact flat_rel hfl⟩

end Go.Abs

/-
The abstract heap: regions that draw their order.
-/
namespace Go.Abs
open Go
variable {P : Program} {Γ : Gl} {ρ : Ren} {α β : Type}

/-- Operation number i, and what follows it. -/
def AOp (P : Program) (Γ : Gl) (ops : Array Oper) (i : Nat) (K : Act → H → Prop) (a : Act) (h : H) : Prop :=
  match ops[i]? with
  | none => K a h
  | some o =>
    if Region.wanted o (yielded ops a.tmps) = true then
      (∃ v h1, aop P a o h = some (.val v h1) ∧ K (a.put o.dst v) h1) ∨
      (∃ f args h1 R, aop P a o h = some (.enter f args h1) ∧ ACall P Γ f args h1 R ∧ ∀ v h2, R v h2 → K (a.put o.dst v) h2)
    else K (a.put o.dst undef) h

theorem AOp.mono {ops : Array Oper} {i : Nat} {K K' : Act → H → Prop} {a : Act} {h : H} (hk : ∀ a h, K a h → K' a h) (ho : AOp P Γ ops i K a h) : AOp P Γ ops i K' a h := by
  unfold AOp at *
  split
  · rename_i hi; simp only [hi] at ho; exact hk _ _ ho
  · rename_i o hi
    simp only [hi] at ho
    split
    · rename_i hw
      simp only [hw, if_true] at ho
      rcases ho with ⟨v, h1, e1, e2⟩ | ⟨f, args, h1, R, e1, e2, e3⟩
      · exact .inl ⟨v, h1, e1, hk _ _ e2⟩
      · exact .inr ⟨f, args, h1, R, e1, e2, fun v h2 hr => hk _ _ (e3 v h2 hr)⟩
    · rename_i hw; simp only [hw] at ho; exact hk _ _ ho

/-- A waits for b. -/
def waits (ops : Array Oper) (j i : Nat) : Bool := (ops[j]?).any fun o => o.after.any fun e => Region.binds .any e && e.on == i

/-- Operations that leave the heap as it is. -/
def takes (o : Oper) : Bool :=
  match o.op with
  | .move _ | .assign _ | .pick _ _ _ | .load _ _ | .nilCheck _ | .binOp _ _ _ _ _ | .unOp _ _ _ | .convert _ _ _ | .makeInterface _ _ | .makeFunc _ _ _ | .slice _ _ _ _ _ | .fieldAddr _ _ _ | .field _ _ _
  | .indexAddr _ _ _ | .index _ _ _ | .lookup _ _ _ _ | .extract _ _ | .build _ _ => true
  | .call c => match c.callee with | .builtin .len | .builtin .min | .builtin .max => true | _ => false
  | _ => false

/-- What was found in passing: operation i would still find it. -/
abbrev Facts := List (Nat × (H → Prop))

def still (ops : Array Oper) (j : Nat) (F : Facts) : Facts :=
  if (ops[j]?).any takes = true then F else F.filter fun x => !waits ops j x.1

def AAny (P : Program) (Γ : Gl) (ops : Array Oper) (K : Act → H → Prop) : Facts → Nat → Array Bool → Act → H → Prop
  | _, 0, listed, a, h => Region.ready .any ops listed = [] ∧ K a h
  | F, n + 1, listed, a, h =>
    (Region.ready .any ops listed = [] → K a h) ∧
    ∀ j ∈ Region.ready .any ops listed, AOp P Γ ops j (fun a' h' => (∀ x ∈ still ops j F, x.2 h') ∧ AAny P Γ ops K (still ops j F) n (listed.setIfInBounds j true) a' h') a h

theorem AAny.sound {ops : Array Oper} {K : Act → H → Prop} : ∀ (n : Nat) (F : Facts) (listed : Array Bool) (a : Act) (h : H), AAny P Γ ops K F n listed a h →
    ∀ ρ0 h0 w0, Glob Γ ρ0 w0 → ∀ r, Fits Γ ρ0 h0 r → ∀ ρ a' w, Later ρ0 h0 w0 ρ h w → Sim P ρ h w → ActRel P ρ a a' → wpAnyIn (Wd r) 0 P .any ops (NPost P ρ0 h0 w0 K) n listed a' w := by
  intro n
  induction n with
  | zero => exact fun F listed a h hh ρ0 h0 w0 hG r hrr ρ a' w hl hs ha => ⟨hh.1, rfl, ρ, a, h, hh.2, hl, hs, ha⟩
  | succ n ih =>
    intro F listed a h hh ρ0 h0 w0 hG r hrr ρ a' w hl hs ha
    refine ⟨fun hr => ⟨rfl, ρ, a, h, hh.1 hr, hl, hs, ha⟩, fun j hj => ?_⟩
    have ho := hh.2 j hj
    unfold AOp at ho
    unfold wpOpIn
    cases hop : ops[j]? with
    | none =>
      simp only [hop] at ho ⊢
      exact ih _ _ _ _ ho.2 ρ0 h0 w0 hG r hrr ρ a' w hl hs ha
    | some o =>
      simp only [hop] at ho ⊢
      have hw := wanted_rel (ops := ops) ha o
      rw [hw]
      split
      · rename_i hwt
        simp only [hwt, if_true] at ho
        rcases ho with ⟨v, h1, e1, _, e2⟩ | ⟨f, args, h1, R, e1, e2, e3⟩
        · obtain ⟨v', w1, ρ1, g1, g2, g3, g4⟩ := aop_does hs ha e1
          exact wpIn_val g1 (ih _ _ _ _ e2 ρ0 h0 w0 hG r hrr ρ1 _ w1 (hl.trans g2) g3 ((ha.mono g2.le).put o.dst g4))
        · obtain ⟨args', w1, ρ1, g1, g2, g3, g4⟩ := aop_does hs ha e1
          refine wpIn_enter g1 (e2 ρ h w (hG.later hl) ρ1 args' w1 g2 g3 g4) ?_
          rintro e w2 ⟨v', rfl, ρ2, v, h2, k1, k2, k3, k4⟩
          exact ⟨v', rfl, ih _ _ _ _ (e3 v h2 k1).2 ρ0 h0 w0 hG r hrr ρ2 _ w2 (hl.trans k2) k3 ((ha.mono k2.le).put o.dst k4)⟩
      · rename_i hwt
        have hwt' : Region.wanted o (yielded ops a.tmps) = false := by simpa using hwt
        simp only [hwt', Bool.false_eq_true, if_false] at ho
        exact ⟨fun _ _ => trivial, ih _ _ _ _ ho.2 ρ0 h0 w0 hG r hrr ρ _ w hl hs (ha.put o.dst undef_rel)⟩

theorem AAny.code {ops : Array Oper} {a : Act} {h : H} {id : Nat} {Q : Exit → Act → H → Prop} (hm : P.follows .mixedOrders = true)
    (hr : AAny P Γ ops (fun a h => Q .normal a h) [] ops.size (Array.replicate ops.size false) a h) : ACode P Γ (.region id ops true) a h Q :=
  fun ρ0 h0 w0 hG r hrr ρ a' w hl hs ha => by
    refine wpIn_mono (wpIn_region_any hm (AAny.sound _ _ _ _ _ hr ρ0 h0 w0 hG r hrr ρ a' _ (hl.trans (Later.drew ρ h w _)) (hs.drew _) ha)) ?_
    rintro e a w ⟨rfl, ρ1, a1, h1, h2⟩
    exact ⟨rfl, ρ1, a1, h1, h2⟩

theorem AAny.less {ops : Array Oper} {K : Act → H → Prop} : ∀ (n : Nat) (F G : Facts) (listed : Array Bool) (a : Act) (h : H), (∀ x ∈ F, x ∈ G) → AAny P Γ ops K G n listed a h → AAny P Γ ops K F n listed a h := by
  intro n
  induction n with
  | zero => exact fun _ _ _ _ _ _ h => h
  | succ n ih =>
    intro F G listed a h hFG hh
    refine ⟨hh.1, fun j hj => (hh.2 j hj).mono fun a' h' hk => ?_⟩
    have hs : ∀ x ∈ still ops j F, x ∈ still ops j G := by
      intro x hx
      unfold still at *
      split
      · rename_i ht; rw [if_pos ht] at hx; exact hFG x hx
      · rename_i ht
        rw [if_neg ht] at hx
        rw [List.mem_filter] at hx ⊢
        exact ⟨hFG x hx.1, hx.2⟩
    exact ⟨fun x hx => hk.1 x (hs x hx), ih _ _ _ _ _ hs hk.2⟩

theorem evals_congr {a a' : Act} {xs : Array Operand} (h : ∀ x ∈ xs, a'.eval x = a.eval x) : xs.map a'.eval = xs.map a.eval := by
  apply Array.ext
  · simp
  · intro i h1 h2
    simp only [Array.getElem_map]
    exact h _ (Array.getElem_mem _)

theorem flatStep_congr {a a' : Act} {o : Oper} {h : H} (hsel : ∀ cs b, o.op ≠ .select cs b) (he : ∀ x ∈ o.op.operands, a'.eval x = a.eval x) : flatStep P a' o h = flatStep P a o h := by
  unfold flatStep
  rw [execOp_congr o hsel he]
  have : (o.op.operands.all fun x => flat (a'.eval x)) = (o.op.operands.all fun x => flat (a.eval x)) := by
    rw [Bool.eq_iff_iff, Array.all_eq_true, Array.all_eq_true]
    constructor <;> intro hh i hi <;> have := hh i hi <;> have h2 := he _ (Array.getElem_mem hi) <;> simp_all
  rw [this]

theorem acall_congr {a a' : Act} {o : Oper} {c : Call} {h : H} (he : ∀ x ∈ c.operands, a'.eval x = a.eval x) : acall P a' o c h = acall P a o c h := by
  have hargs : ∀ y ∈ c.args, a'.eval y = a.eval y := fun y hy => he y (Array.mem_append.2 (.inr hy))
  have hm := evals_congr hargs
  unfold acall
  rw [hm]
  cases hc : c.callee with
  | value f =>
    have hf : a'.eval f = a.eval f := he f (by unfold Call.operands; rw [hc]; simp)
    simp only [hf]
  | invoke r m => rfl
  | builtin b => cases b <;> rfl

theorem aop_congr {a a' : Act} {o : Oper} {h : H} (he : ∀ x ∈ o.op.operands, a'.eval x = a.eval x) : aop P a' o h = aop P a o h := by
  unfold aop
  have fl : (∀ cs b, o.op ≠ .select cs b) → flatStep P a' o h = flatStep P a o h := fun hsel => flatStep_congr hsel he
  generalize hO : o.op = op at he fl
  split
  · cases op with
    | move x => simp only [he x (by simp [Op.operands])]
    | assign x => simp only [he x (by simp [Op.operands])]
    | pick c x y => simp only [he c (by simp [Op.operands]), he x (by simp [Op.operands]), he y (by simp [Op.operands])]
    | alloc e => rfl
    | box e x => simp only [he x (by simp [Op.operands])]
    | build t parts =>
      have : (parts.map fun p => (p.1, a'.eval p.2)) = (parts.map fun p => (p.1, a.eval p.2)) := by
        apply Array.map_congr_left
        intro p hp
        rw [he p.2 (by simp only [Op.operands, List.mem_toArray, List.mem_map]; exact ⟨p, by simpa using hp, rfl⟩)]
      simp only [this]
    | buildSlice t n parts =>
      have : (parts.map fun p => (p.1, a'.eval p.2)) = (parts.map fun p => (p.1, a.eval p.2)) := by
        apply Array.map_congr_left
        intro p hp
        rw [he p.2 (by simp only [Op.operands, List.mem_toArray, List.mem_map]; exact ⟨p, by simpa using hp, rfl⟩)]
      simp only [this]
    | load t x => simp only [he x (by simp [Op.operands])]
    | store t x y => simp only [he x (by simp [Op.operands]), he y (by simp [Op.operands])]
    | nilCheck x => simp only [he x (by simp [Op.operands])]
    | binOp op t x y ty =>
      have := fl (by intro cs b e; cases e)
      simp only [he x (by simp [Op.operands]), he y (by simp [Op.operands]), this]
    | makeInterface t x => simp only [he x (by simp [Op.operands])]
    | makeFunc fn first cap =>
      have e1 := evals_congr (xs := first) fun x hx => he x (Array.mem_append.2 (.inl hx))
      have e2 := evals_congr (xs := cap) fun x hx => he x (Array.mem_append.2 (.inr hx))
      simp only [e1, e2]
    | makeMap t r =>
      cases r with
      | none => rfl
      | some x => exact fl (by intro cs b e; cases e)
    | makeSlice t l c => simp only [he l (by simp [Op.operands]), he c (by simp [Op.operands])]
    | slice t x lo hi mx =>
      have e1 : lo.map a'.eval = lo.map a.eval := by
        cases lo with
        | none => rfl
        | some y => simp only [Option.map_some, he y (by simp [Op.operands])]
      have e2 : hi.map a'.eval = hi.map a.eval := by
        cases hi with
        | none => rfl
        | some y => simp only [Option.map_some, he y (by simp [Op.operands])]
      have e3 : mx.map a'.eval = mx.map a.eval := by
        cases mx with
        | none => rfl
        | some y => simp only [Option.map_some, he y (by simp [Op.operands])]
      simp only [he x (by simp [Op.operands]), e1, e2, e3]
    | fieldAddr t x f => simp only [he x (by simp [Op.operands])]
    | field t x f => simp only [he x (by simp [Op.operands])]
    | indexAddr t x i => simp only [he x (by simp [Op.operands]), he i (by simp [Op.operands])]
    | index t x i => simp only [he x (by simp [Op.operands]), he i (by simp [Op.operands])]
    | lookup t x k ok => simp only [he x (by simp [Op.operands]), he k (by simp [Op.operands])]
    | mapUpdate t m k x => simp only [he m (by simp [Op.operands]), he k (by simp [Op.operands]), he x (by simp [Op.operands])]
    | insert t m k x => simp only [he m (by simp [Op.operands]), he k (by simp [Op.operands]), he x (by simp [Op.operands])]
    | mapEntry t m k => simp only [he m (by simp [Op.operands]), he k (by simp [Op.operands])]
    | entryStore t m s x => simp only [he m (by simp [Op.operands]), he s (by simp [Op.operands]), he x (by simp [Op.operands])]
    | extract t i => simp only [he t (by simp [Op.operands])]
    | call c =>
      have := fl (by intro cs b e; cases e)
      have h2 := acall_congr (P := P) (o := o) (h := h) (c := c) he
      simp only [h2, this]
    | select cs b => rfl
    | _ => exact fl (by intro cs b e; cases e)
  · rfl

end Go.Abs
