/-
The abstract heap: steps on numbers that are not known.
-/
import Derived.Test.YtgeoihombkjgnaaGreatDoorBwAbsU
namespace Go.Abs
open Go
variable {P : Program} {Γ : Gl} {ρ : Ren} {α β : Type}

theorem ACode.condD {c : Operand} {x y : Code} {a : Act} {h : H} {Q : Exit → Act → H → Prop} (p : Prop) [Decidable p] (ho : okOperand c = true) (hc : a.eval c = .bool (decide p)) (hx : p → ACode P Γ x a h Q) (hy : ¬ p → ACode P Γ y a h Q) :
    ACode P Γ (.cond c x y) a h Q := by
  refine ACode.cond ho hc ?_
  by_cases hp : p
  · rw [if_pos (decide_eq_true hp)]; exact hx hp
  · rw [if_neg (by simp [hp])]; exact hy hp

theorem retIs {fn : Func} {a : Act} {h : H} {Q : Value → H → Prop} (v : Value) (h1 : H) (hs : leave P fn a h = some (v, h1)) (hq : Q v h1) :
    ∃ u h1, leave P fn a h = some (u, h1) ∧ Q u h1 := ⟨v, h1, hs, hq⟩

/-- A division whose divisor is not zero. -/
theorem aop_div {a : Act} {o : Oper} {h : H} {op : BinOp} {t ty : TypeId} {x y : Operand} {k : IntKind} {u v : Int} (hop : o.op = .binOp op t x y ty) (hq : op = .rem ∨ op = .quo) (hx : okOperand x = true) (hy : okOperand y = true)
    (ex : a.eval x = .int k u) (ey : a.eval y = .int k v) (hv : v ≠ 0) : aop P a o h = some (.val (.int k (if op = .rem then u.tmod v else k.wrap (u.tdiv v))) h) := by
  have hexec : execOp a.eval o = (do Pure.pure (.value (← (do eqGuard op t x y (a.eval x) (a.eval y); binOp op t (a.eval x) (a.eval y))))) := by
    unfold execOp; rw [hop]
  unfold aop
  rw [hop]
  have hall : ((Op.binOp op t x y ty).operands.all okOperand) = true := by
    simp [Op.operands, hx, hy]
  rw [if_pos hall]
  dsimp only
  rw [ex, ey, if_neg (by simp [nilish])]
  unfold flatStep
  rw [hop]
  have hall2 : ((Op.binOp op t x y ty).operands.all fun x => flat (a.eval x)) = true := by
    simp [Op.operands, ex, ey, flat, flat1]
  rw [if_pos hall2, hexec, ex, ey]
  rcases hq with rfl | rfl
  · have : prun P (do Pure.pure (.value (← (do eqGuard .rem t x y (.int k u) (.int k v); binOp .rem t (.int k u) (.int k v)))) : Sem Next) = some (.value (.int k (u.tmod v))) := by
      simp only [binOp, ne_eq, not_true_eq_false, if_false, Op.intDiv, hv]
      rfl
    rw [this]
    rfl
  · have : prun P (do Pure.pure (.value (← (do eqGuard .quo t x y (.int k u) (.int k v); binOp .quo t (.int k u) (.int k v)))) : Sem Next) = some (.value (.int k (k.wrap (u.tdiv v)))) := by
      simp only [binOp, ne_eq, not_true_eq_false, if_false, Op.intDiv, hv]
      rfl
    rw [this]
    rfl

theorem AOps.div {ops : Array Oper} {i : Nat} {l : List Nat} {a : Act} {h : H} {K : Act → H → Prop} (op : BinOp) (t ty : TypeId) (x y : Operand) (k : IntKind) (u v : Int) (hi : decide (i < ops.size) = true) (hw : Region.wanted (ops.getD i default) (yielded ops a.tmps) = true)
    (hop : (ops.getD i default).op = .binOp op t x y ty) (hq : op = .rem ∨ op = .quo) (hx : okOperand x = true) (hy : okOperand y = true)
    (ex : a.eval x = .int k u) (ey : a.eval y = .int k v) (hv : v ≠ 0) (hr : AOps P Γ ops l (a.put (ops.getD i default).dst (.int k (if op = .rem then u.tmod v else k.wrap (u.tdiv v)))) h K) : AOps P Γ ops (i :: l) a h K :=
  AOps.val (getD_some hi) hw (aop_div hop hq hx hy ex ey hv) hr

end Go.Abs
