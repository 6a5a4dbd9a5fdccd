/-
The abstract heap: regions that draw their order.
-/
import Derived.Test.YtgeoihombkjgnaaGreatDoorBwAbsL
namespace Go.Abs
open Go
variable {P : Program} {Γ : Gl} {ρ : Ren} {α β : Type}

/-- Operation number i, and what follows it. -/
def AOp (P : Program) (Γ : Gl) (ops : Array Oper) (i : Nat) (K : Act → H → Prop) (a : Act) (h : H) : Prop :=
  match ops[i]? with
  | none => K a h
  | some o =>
    if Region.wanted o (yielded ops a.tmps) = true then
      (∃ v h1, aop P a o h = some (.val v h1) ∧ K (a.put o.dst v) h1) ∨
      (∃ f args h1 R, aop P a o h = some (.enter f args h1) ∧ ACall P Γ f args h1 R ∧ ∀ v h2, R v h2 → K (a.put o.dst v) h2)
    else K (a.put o.dst undef) h

theorem AOp.mono {ops : Array Oper} {i : Nat} {K K' : Act → H → Prop} {a : Act} {h : H} (hk : ∀ a h, K a h → K' a h) (ho : AOp P Γ ops i K a h) : AOp P Γ ops i K' a h := by
  unfold AOp at *
  split
  · rename_i hi; simp only [hi] at ho; exact hk _ _ ho
  · rename_i o hi
    simp only [hi] at ho
    split
    · rename_i hw
      simp only [hw, if_true] at ho
      rcases ho with ⟨v, h1, e1, e2⟩ | ⟨f, args, h1, R, e1, e2, e3⟩
      · exact .inl ⟨v, h1, e1, hk _ _ e2⟩
      · exact .inr ⟨f, args, h1, R, e1, e2, fun v h2 hr => hk _ _ (e3 v h2 hr)⟩
    · rename_i hw; simp only [hw] at ho; exact hk _ _ ho

/-- A waits for b. -/
def waits (ops : Array Oper) (j i : Nat) : Bool := (ops[j]?).any fun o => o.after.any fun e => Region.binds .any e && e.on == i

/-- Operations that leave the heap as it is. -/
def takes (o : Oper) : Bool :=
  match o.op with
  | .move _ | .assign _ | .pick _ _ _ | .load _ _ | .nilCheck _ | .binOp _ _ _ _ _ | .unOp _ _ _ | .convert _ _ _ | .makeInterface _ _ | .makeFunc _ _ _ | .slice _ _ _ _ _ | .fieldAddr _ _ _ | .field _ _ _
  | .indexAddr _ _ _ | .index _ _ _ | .lookup _ _ _ _ | .extract _ _ | .build _ _ => true
  | .call c => match c.callee with | .builtin .len | .builtin .min | .builtin .max => true | _ => false
  | _ => false

/-- What was found in passing: operation i would still find it. -/
abbrev Facts := List (Nat × (H → Prop))

def still (ops : Array Oper) (j : Nat) (F : Facts) : Facts :=
  if (ops[j]?).any takes = true then F else F.filter fun x => !waits ops j x.1

def AAny (P : Program) (Γ : Gl) (ops : Array Oper) (K : Act → H → Prop) : Facts → Nat → Array Bool → Act → H → Prop
  | _, 0, listed, a, h => Region.ready .any ops listed = [] ∧ K a h
  | F, n + 1, listed, a, h =>
    (Region.ready .any ops listed = [] → K a h) ∧
    ∀ j ∈ Region.ready .any ops listed, AOp P Γ ops j (fun a' h' => (∀ x ∈ still ops j F, x.2 h') ∧ AAny P Γ ops K (still ops j F) n (listed.setIfInBounds j true) a' h') a h

theorem AAny.sound {ops : Array Oper} {K : Act → H → Prop} : ∀ (n : Nat) (F : Facts) (listed : Array Bool) (a : Act) (h : H), AAny P Γ ops K F n listed a h →
    ∀ ρ0 h0 w0, Glob Γ ρ0 w0 → ∀ r, (Γ.rnd = false → r = none) → ∀ ρ a' w, Later ρ0 h0 w0 ρ h w → Sim P ρ h w → ActRel P ρ a a' → wpAnyIn (Wd r) 0 P .any ops (NPost P ρ0 h0 w0 K) n listed a' w := by
  intro n
  induction n with
  | zero => exact fun F listed a h hh ρ0 h0 w0 hG r hrr ρ a' w hl hs ha => ⟨hh.1, rfl, ρ, a, h, hh.2, hl, hs, ha⟩
  | succ n ih =>
    intro F listed a h hh ρ0 h0 w0 hG r hrr ρ a' w hl hs ha
    refine ⟨fun hr => ⟨rfl, ρ, a, h, hh.1 hr, hl, hs, ha⟩, fun j hj => ?_⟩
    have ho := hh.2 j hj
    unfold AOp at ho
    unfold wpOpIn
    cases hop : ops[j]? with
    | none =>
      simp only [hop] at ho ⊢
      exact ih _ _ _ _ ho.2 ρ0 h0 w0 hG r hrr ρ a' w hl hs ha
    | some o =>
      simp only [hop] at ho ⊢
      have hw := wanted_rel (ops := ops) ha o
      rw [hw]
      split
      · rename_i hwt
        simp only [hwt, if_true] at ho
        rcases ho with ⟨v, h1, e1, _, e2⟩ | ⟨f, args, h1, R, e1, e2, e3⟩
        · obtain ⟨v', w1, ρ1, g1, g2, g3, g4⟩ := aop_does hs ha e1
          exact wpIn_val g1 (ih _ _ _ _ e2 ρ0 h0 w0 hG r hrr ρ1 _ w1 (hl.trans g2) g3 ((ha.mono g2.le).put o.dst g4))
        · obtain ⟨args', w1, ρ1, g1, g2, g3, g4⟩ := aop_does hs ha e1
          refine wpIn_enter g1 (e2 ρ h w (hG.later hl) ρ1 args' w1 g2 g3 g4) ?_
          rintro e w2 ⟨v', rfl, ρ2, v, h2, k1, k2, k3, k4⟩
          exact ⟨v', rfl, ih _ _ _ _ (e3 v h2 k1).2 ρ0 h0 w0 hG r hrr ρ2 _ w2 (hl.trans k2) k3 ((ha.mono k2.le).put o.dst k4)⟩
      · rename_i hwt
        have hwt' : Region.wanted o (yielded ops a.tmps) = false := by simpa using hwt
        simp only [hwt', Bool.false_eq_true, if_false] at ho
        exact ⟨fun _ _ => trivial, ih _ _ _ _ ho.2 ρ0 h0 w0 hG r hrr ρ _ w hl hs (ha.put o.dst undef_rel)⟩

theorem AAny.code {ops : Array Oper} {a : Act} {h : H} {id : Nat} {Q : Exit → Act → H → Prop} (hm : P.follows .mixedOrders = true)
    (hr : AAny P Γ ops (fun a h => Q .normal a h) [] ops.size (Array.replicate ops.size false) a h) : ACode P Γ (.region id ops true) a h Q :=
  fun ρ0 h0 w0 hG r hrr ρ a' w hl hs ha => by
    refine wpIn_mono (wpIn_region_any hm (AAny.sound _ _ _ _ _ hr ρ0 h0 w0 hG r hrr ρ a' _ (hl.trans (Later.drew ρ h w _)) (hs.drew _) ha)) ?_
    rintro e a w ⟨rfl, ρ1, a1, h1, h2⟩
    exact ⟨rfl, ρ1, a1, h1, h2⟩

theorem AAny.less {ops : Array Oper} {K : Act → H → Prop} : ∀ (n : Nat) (F G : Facts) (listed : Array Bool) (a : Act) (h : H), (∀ x ∈ F, x ∈ G) → AAny P Γ ops K G n listed a h → AAny P Γ ops K F n listed a h := by
  intro n
  induction n with
  | zero => exact fun _ _ _ _ _ _ h => h
  | succ n ih =>
    intro F G listed a h hFG hh
    refine ⟨hh.1, fun j hj => (hh.2 j hj).mono fun a' h' hk => ?_⟩
    have hs : ∀ x ∈ still ops j F, x ∈ still ops j G := by
      intro x hx
      unfold still at *
      split
      · rename_i ht; rw [if_pos ht] at hx; exact hFG x hx
      · rename_i ht
        rw [if_neg ht] at hx
        rw [List.mem_filter] at hx ⊢
        exact ⟨hFG x hx.1, hx.2⟩
    exact ⟨fun x hx => hk.1 x (hs x hx), ih _ _ _ _ _ hs hk.2⟩

theorem evals_congr {a a' : Act} {xs : Array Operand} (h : ∀ x ∈ xs, a'.eval x = a.eval x) : xs.map a'.eval = xs.map a.eval := by
  apply Array.ext
  · simp
  · intro i h1 h2
    simp only [Array.getElem_map]
    exact h _ (Array.getElem_mem _)

theorem flatStep_congr {a a' : Act} {o : Oper} {h : H} (hsel : ∀ cs b, o.op ≠ .select cs b) (he : ∀ x ∈ o.op.operands, a'.eval x = a.eval x) : flatStep P a' o h = flatStep P a o h := by
  unfold flatStep
  rw [execOp_congr o hsel he]
  have : (o.op.operands.all fun x => flat (a'.eval x)) = (o.op.operands.all fun x => flat (a.eval x)) := by
    rw [Bool.eq_iff_iff, Array.all_eq_true, Array.all_eq_true]
    constructor <;> intro hh i hi <;> have := hh i hi <;> have h2 := he _ (Array.getElem_mem hi) <;> simp_all
  rw [this]

theorem acall_congr {a a' : Act} {o : Oper} {c : Call} {h : H} (he : ∀ x ∈ c.operands, a'.eval x = a.eval x) : acall P a' o c h = acall P a o c h := by
  have hargs : ∀ y ∈ c.args, a'.eval y = a.eval y := fun y hy => he y (Array.mem_append.2 (.inr hy))
  have hm := evals_congr hargs
  unfold acall
  rw [hm]
  cases hc : c.callee with
  | value f =>
    have hf : a'.eval f = a.eval f := he f (by unfold Call.operands; rw [hc]; simp)
    simp only [hf]
  | invoke r m => rfl
  | builtin b => cases b <;> rfl

theorem aop_congr {a a' : Act} {o : Oper} {h : H} (he : ∀ x ∈ o.op.operands, a'.eval x = a.eval x) : aop P a' o h = aop P a o h := by
  unfold aop
  have fl : (∀ cs b, o.op ≠ .select cs b) → flatStep P a' o h = flatStep P a o h := fun hsel => flatStep_congr hsel he
  generalize hO : o.op = op at he fl
  split
  · cases op with
    | move x => simp only [he x (by simp [Op.operands])]
    | assign x => simp only [he x (by simp [Op.operands])]
    | pick c x y => simp only [he c (by simp [Op.operands]), he x (by simp [Op.operands]), he y (by simp [Op.operands])]
    | alloc e => rfl
    | box e x => simp only [he x (by simp [Op.operands])]
    | build t parts =>
      have : (parts.map fun p => (p.1, a'.eval p.2)) = (parts.map fun p => (p.1, a.eval p.2)) := by
        apply Array.map_congr_left
        intro p hp
        rw [he p.2 (by simp only [Op.operands, List.mem_toArray, List.mem_map]; exact ⟨p, by simpa using hp, rfl⟩)]
      simp only [this]
    | buildSlice t n parts =>
      have : (parts.map fun p => (p.1, a'.eval p.2)) = (parts.map fun p => (p.1, a.eval p.2)) := by
        apply Array.map_congr_left
        intro p hp
        rw [he p.2 (by simp only [Op.operands, List.mem_toArray, List.mem_map]; exact ⟨p, by simpa using hp, rfl⟩)]
      simp only [this]
    | load t x => simp only [he x (by simp [Op.operands])]
    | store t x y => simp only [he x (by simp [Op.operands]), he y (by simp [Op.operands])]
    | nilCheck x => simp only [he x (by simp [Op.operands])]
    | binOp op t x y ty =>
      have := fl (by intro cs b e; cases e)
      simp only [he x (by simp [Op.operands]), he y (by simp [Op.operands]), this]
    | makeInterface t x => simp only [he x (by simp [Op.operands])]
    | makeFunc fn first cap =>
      have e1 := evals_congr (xs := first) fun x hx => he x (Array.mem_append.2 (.inl hx))
      have e2 := evals_congr (xs := cap) fun x hx => he x (Array.mem_append.2 (.inr hx))
      simp only [e1, e2]
    | makeMap t r =>
      cases r with
      | none => rfl
      | some x => exact fl (by intro cs b e; cases e)
    | makeSlice t l c => simp only [he l (by simp [Op.operands]), he c (by simp [Op.operands])]
    | slice t x lo hi mx =>
      have e1 : lo.map a'.eval = lo.map a.eval := by
        cases lo with
        | none => rfl
        | some y => simp only [Option.map_some, he y (by simp [Op.operands])]
      have e2 : hi.map a'.eval = hi.map a.eval := by
        cases hi with
        | none => rfl
        | some y => simp only [Option.map_some, he y (by simp [Op.operands])]
      have e3 : mx.map a'.eval = mx.map a.eval := by
        cases mx with
        | none => rfl
        | some y => simp only [Option.map_some, he y (by simp [Op.operands])]
      simp only [he x (by simp [Op.operands]), e1, e2, e3]
    | fieldAddr t x f => simp only [he x (by simp [Op.operands])]
    | field t x f => simp only [he x (by simp [Op.operands])]
    | indexAddr t x i => simp only [he x (by simp [Op.operands]), he i (by simp [Op.operands])]
    | index t x i => simp only [he x (by simp [Op.operands]), he i (by simp [Op.operands])]
    | lookup t x k ok => simp only [he x (by simp [Op.operands]), he k (by simp [Op.operands])]
    | mapUpdate t m k x => simp only [he m (by simp [Op.operands]), he k (by simp [Op.operands]), he x (by simp [Op.operands])]
    | insert t m k x => simp only [he m (by simp [Op.operands]), he k (by simp [Op.operands]), he x (by simp [Op.operands])]
    | mapEntry t m k => simp only [he m (by simp [Op.operands]), he k (by simp [Op.operands])]
    | entryStore t m s x => simp only [he m (by simp [Op.operands]), he s (by simp [Op.operands]), he x (by simp [Op.operands])]
    | extract t i => simp only [he t (by simp [Op.operands])]
    | call c =>
      have := fl (by intro cs b e; cases e)
      have h2 := acall_congr (P := P) (o := o) (h := h) (c := c) he
      simp only [h2, this]
    | select cs b => rfl
    | _ => exact fl (by intro cs b e; cases e)
  · rfl

end Go.Abs
