/-
The abstract heap: variables of packages, and rows of the model that read them.
-/
import Derived.Test.YtgeoihombkjgnaaGreatDoorBwAbsS
namespace Go.Abs
open Go
variable {P : Program} {Γ : Gl} {ρ : Ren} {α β : Type}

/-- A row of the model that asks only of variables of packages. -/
theorem AOps.row {ops : Array Oper} {i : Nat} {o : Oper} {l : List Nat} {a : Act} {h : H} {v : Value} {K : Act → H → Prop}
    (hi : ops[i]? = some o) (hw : Region.wanted o (yielded ops a.tmps) = true) (hok : (o.op.operands.all fun x => match x with | .func _ => true | x => okOperand x && flat (a.eval x)) = true) (hsel : ∀ cs b, o.op ≠ .select cs b)
    (hrun : ∀ w : World, (∀ (g : Nat) (ob : Obj), Γ.heap[g]? = some ob → w.heap[g]? = some ob) → (execOp a.eval o).run P w = .ok (.value v) w) (hf : flat v = true) (hr : AOps P Γ ops l (a.put o.dst v) h K) : AOps P Γ ops (i :: l) a h K :=
  fun ρ0 h0 w0 hG r hrr ρ a' w hl hs ha => by
    have hw' := (wanted_rel (ops := ops) ha o).trans hw
    simp only [wpOpsIn, hi, hw', if_true]
    have hcongr : execOp a'.eval o = execOp a.eval o := execOp_congr o hsel fun x hx => by
      obtain ⟨j, hj, rfl⟩ := Array.getElem_of_mem hx
      have := Array.all_eq_true.1 hok j hj
      generalize o.op.operands[j] = x at this
      cases x with
      | func f => rfl
      | _ =>
        simp only [Bool.and_eq_true] at this
        exact flat_eq this.2 (ha.eval this.1)
    refine wpIn_val (.inl ?_) (hr ρ0 h0 w0 hG r hrr ρ _ w hl hs (ha.put o.dst (flat_rel hf)))
    rw [hcongr]
    exact hrun w fun g ob hg => ((hG.later hl) g ob hg).1

end Go.Abs
