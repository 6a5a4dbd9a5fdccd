/-
The quick runs: the common operations.
-/
import Derived.Test.YtgeoihombkjgnaaGreatDoorBwAbsZA
namespace Go.Abs
open Go
variable {P : Program} {Γ : Gl} {ρ : Ren} {α β : Type}

theorem aop_int {a : Act} {o : Oper} {h : H} {op : BinOp} {t ty : TypeId} {x y : Operand} {k : IntKind} {u v : Int} (hop : o.op = .binOp op t x y ty) (hok : (o.op.operands.all okOperand) = true) (hb : binOk op = true)
    (ex : a.eval x = .int k u) (ey : a.eval y = .int k v) : aop P a o h = some (.val (binI op k u v) h) := by
  have hexec : execOp a.eval o = (do Pure.pure (.value (← (do eqGuard op t x y (a.eval x) (a.eval y); binOp op t (a.eval x) (a.eval y))))) := by
    unfold execOp; rw [hop]
  unfold aop
  rw [if_pos hok, hop]
  dsimp only
  rw [ex, ey, if_neg (by simp [nilish])]
  unfold flatStep
  rw [hop]
  have hall2 : ((Op.binOp op t x y ty).operands.all fun x => flat (a.eval x)) = true := by
    simp [Op.operands, ex, ey, flat, flat1]
  rw [if_pos hall2, hexec, ex, ey]
  have : prun P (do Pure.pure (.value (← (do eqGuard op t x y (.int k u) (.int k v); binOp op t (.int k u) (.int k v)))) : Sem Next) = some (.value (binI op k u v)) := by
    cases op <;> first
      | (cases hb; done)
      | (simp only [binOp, ne_eq, not_true_eq_false, if_false, Op.intArith, Op.intCmp, binI]; rfl)
  rw [this]
  have hf : flat (binI op k u v) = true := by cases op <;> rfl
  simp [hf]

theorem ad_add (ad : Addr) (n : Nat) : ad.add n = ad.add n := rfl

theorem fi_sound {a : Act} {o : Oper} {h : FH} {r : FStep} (hr : runFI P a.eval o h (fi P o) = some r) : aop P a o h.toH = some r.cv := by
  have slow : ∀ {r : FStep}, aopF P a.eval o h = some r → aop P a o h.toH = some r.cv := fun hr => by rw [aopF_toH, hr]; rfl
  unfold fi at hr
  split at hr
  case isFalse => exact slow hr
  rename_i hok
  split at hr
  · -- move
    rename_i x hop
    cases hr
    unfold aop
    rw [if_pos hok, hop]; rfl
  · rename_i x hop
    cases hr
    unfold aop
    rw [if_pos hok, hop]; rfl
  · -- binOp
    rename_i op t x y ty hop
    split at hr
    case isFalse => exact slow hr
    rename_i hb
    unfold runFI at hr
    dsimp only at hr
    split at hr
    · rename_i k u ex
      split at hr
      · rename_i k' v ey
        split at hr
        · rename_i hk
          subst hk
          cases hr
          exact aop_int hop hok hb ex ey
        · cases hr
      · cases hr
    · exact slow hr
  · -- pick
    rename_i c x y hop
    unfold runFI at hr
    dsimp only at hr
    split at hr
    · rename_i ec
      cases hr
      unfold aop
      rw [if_pos hok, hop]
      dsimp only
      rw [ec]; rfl
    · rename_i ec
      cases hr
      unfold aop
      rw [if_pos hok, hop]
      dsimp only
      rw [ec]; rfl
    · cases hr
  · -- load
    rename_i t x hop
    split at hr
    case h_2 => exact slow hr
    rename_i d hd
    split at hr
    case isFalse => exact slow hr
    rename_i hpl
    unfold runFI at hr
    dsimp only at hr
    split at hr
    case h_2 => cases hr
    rename_i ad ex
    split at hr
    case h_2 => cases hr
    rename_i v hc
    cases hr
    have hx : okOperand x = true := by
      rw [hop] at hok
      simpa [Op.operands] using hok
    exact aop_load hop hx ex hd hpl ((cellF_toH h ad).trans hc)
  · -- indexAddr
    rename_i t x i hop
    split at hr
    case h_2 => exact slow hr
    rename_i e ht
    split at hr
    case h_2 => exact slow hr
    rename_i inf hinf
    unfold runFI at hr
    dsimp only at hr
    split at hr
    case h_2 => cases hr
    rename_i ad n c ex
    split at hr
    case h_2 => cases hr
    rename_i k m ei
    rw [blt_iff] at hr
    split at hr
    case h_2 => cases hr
    rename_i hlt
    cases hr
    have hx : okOperand x = true ∧ okOperand i = true := by
      rw [hop] at hok
      simpa [Op.operands] using hok
    have := aop_indexAddr (P := P) (h := h.toH) hop hx.1 hx.2 ex ei ht hinf (Int.natCast_nonneg m) (Int.ofNat_lt.2 (of_decide_eq_true hlt))
    rw [this]
    rfl
  · -- call
    rename_i c hop
    split at hr
    · -- len
      rename_i hcal
      split at hr
      case h_2 => exact slow hr
      rename_i t x ht hx
      split at hr
      case h_2 => exact slow hr
      rename_i e hu
      unfold runFI at hr
      dsimp only at hr
      split at hr
      case h_2 => cases hr
      rename_i ad n cp ex
      cases hr
      unfold aop
      rw [if_pos hok, hop]
      dsimp only
      unfold acall
      rw [hcal]
      have hm : (c.args.map a.eval).toList = [a.eval x] := by simp [hx]
      rw [ht, hm]
      dsimp only
      have hlen : lenable P t = true := by unfold lenable; rw [hu]
      rw [if_pos hlen, ex]
      have : arun P (Builtin.len_ #[t] o.type #[.slice ad n cp]) h.toH = some (.int .i64 n, h.toH) := by
        unfold Builtin.len_
        simp [hu]
        rfl
      rw [this]
      rfl
    · -- value
      rename_i f hcal
      unfold runFI at hr
      dsimp only at hr
      split at hr
      case h_2 => cases hr
      rename_i g first cap ef
      split at hr
      · rename_i r' hcf
        cases hr
        unfold callF at hcf
        split at hcf
        case h_2 => cases hcf
        rename_i fn hfn
        split at hcf
        case isFalse => cases hcf
        rename_i hbody
        split at hcf
        case isFalse => cases hcf
        rename_i hname
        cases hcf
        unfold aop
        rw [if_pos hok, hop]
        dsimp only
        unfold acall
        rw [hcal]
        dsimp only
        rw [ef]
        dsimp only
        rw [hfn]
        dsimp only
        rw [if_pos hbody, if_pos hname, cat3_eq]
        rfl
      · exact slow hr
    · exact slow hr
  · exact slow hr

end Go.Abs
