/-
The abstract heap: cells that are not known by counting.
-/
import Derived.Test.YtgeoihombkjgnaaGreatDoorBwAbsW
namespace Go.Abs
open Go
variable {P : Program} {Γ : Gl} {ρ : Ren} {α β : Type}

theorem aop_load {a : Act} {o : Oper} {h : H} {t : TypeId} {x : Operand} {ad : Addr} {d : TypeDesc} {v : Value} (hop : o.op = .load t x) (hx : okOperand x = true) (ex : a.eval x = .pointer (some ad)) (hu : P.underlying t = some d) (hd : plainDesc d = true)
    (hc : cell? h ad = some v) : aop P a o h = some (.val v h) := by
  unfold aop
  rw [hop]
  have hall : ((Op.load t x).operands.all okOperand) = true := by simp [Op.operands, hx]
  rw [if_pos hall]
  dsimp only
  rw [ex]
  have : arun P (Instr.loadAt t (.pointer (some ad))) h = some (v, h) := by
    unfold Instr.loadAt Instr.sureAddr Go.loadVar Go.isAgg
    simp only [pure_bind, arun_bind, arun_underlying, hu, Option.map_some, Option.bind_some]
    cases d <;> first | (cases hd; done) | simp [hc]
  rw [this]
  rfl

theorem aop_indexAddr {a : Act} {o : Oper} {h : H} {t e : TypeId} {x i : Operand} {ad : Addr} {n c : Nat} {k : IntKind} {m : Int} {inf : TypeInfo} (hop : o.op = .indexAddr t x i) (hx : okOperand x = true) (hi : okOperand i = true)
    (ex : a.eval x = .slice (some ad) n c) (ei : a.eval i = .int k m) (hu : P.underlying t = some (.slice e)) (hs : P.info? e = some inf) (h0 : 0 ≤ m) (hm : m < n) :
    aop P a o h = some (.val (.pointer (some (ad.add (m.toNat * inf.size)))) h) := by
  unfold aop
  rw [hop]
  have hall : ((Op.indexAddr t x i).operands.all okOperand) = true := by simp [Op.operands, hx, hi]
  rw [if_pos hall]
  dsimp only
  rw [ex, ei]
  have : arun P (Instr.indexAt t (.slice (some ad) n c) (.int k m)) h = some (.pointer (some (ad.add (m.toNat * inf.size))), h) := by
    unfold Instr.indexAt Go.asIntOf Go.sizeOf
    simp [hu, hs, h0, hm]
  rw [this]
  rfl

end Go.Abs
