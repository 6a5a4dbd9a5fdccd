/-
The quick runs: what they find is what the plain ones find.
-/
import Derived.Test.YtgeoihombkjgnaaGreatDoorBwAbsZ
namespace Go.Abs
open Go
variable {P : Program} {Γ : Gl} {ρ : Ren} {α β : Type}

theorem look_cons {β : Type} (d : β) (k : Nat) (v : β) (l : List (Nat × β)) (i : Nat) : look d ((k, v) :: l) i = if k = i then v else look d l i := by
  by_cases h : k = i
  · subst h; simp [look]
  · have : Nat.beq k i = false := by
      cases hb : Nat.beq k i
      · rfl
      · exact absurd (Nat.eq_of_beq_eq_true hb) h
    rw [if_neg h]
    show (match Nat.beq k i with | true => v | false => look d l i) = _
    rw [this]

theorem blt_iff {i n : Nat} : Nat.blt i n = decide (i < n) := by
  unfold Nat.blt
  rw [Bool.eq_iff_iff]
  simp [Nat.lt_iff_add_one_le]

theorem FH.size_toH (h : FH) : h.toH.size = h.n := by simp [FH.toH]

theorem FH.get_toH (h : FH) (i : Nat) : h.toH[i]? = h.get i := by
  unfold FH.get FH.toH
  rw [blt_iff]
  by_cases hi : i < h.n
  · simp [hi]
  · simp [hi]

theorem FH.push_toH (h : FH) (o : Obj) : (h.push o).toH = h.toH.push o := by
  apply Array.ext_getElem?
  intro i
  rw [FH.get_toH, Array.getElem?_push, FH.size_toH, FH.get_toH]
  unfold FH.get FH.push
  simp only [blt_iff]
  by_cases h1 : i = h.n
  · subst h1
    simp [look_cons]
  · by_cases h2 : i < h.n
    · have h3 : i < h.n + 1 := by omega
      simp [h1, h2, h3, look_cons, Ne.symm h1]
    · have h3 : ¬ i < h.n + 1 := by omega
      simp [h1, h2, h3]

theorem FH.set_toH (h : FH) (j : Nat) (o : Obj) : (h.set j o).toH = h.toH.setIfInBounds j o := by
  apply Array.ext_getElem?
  intro i
  rw [FH.get_toH, Array.getElem?_setIfInBounds, FH.size_toH, FH.get_toH]
  unfold FH.get FH.set
  simp only [blt_iff]
  by_cases hj : j < h.n
  · simp only [hj, decide_true]
    by_cases hi : i < h.n
    · simp only [hi, decide_true, look_cons]
      by_cases e : j = i
      · subst e; simp [hj]
      · simp [e]
    · simp only [hi, decide_false]
      by_cases e : j = i
      · subst e; exact absurd hj hi
      · simp [e]
  · simp only [hj, decide_false]
    by_cases e : j = i
    · subst e; simp [hj]
    · simp [e]

theorem cellF_toH (h : FH) (a : Addr) : cell? h.toH a = cellF? h a := by
  unfold cell? cellF?
  rw [FH.get_toH]
  cases h.get a.block with
  | none => rfl
  | some o => cases o <;> simp

theorem freeF_toH (h : FH) (a : Addr) : free h.toH a = freeF h a := by
  unfold free freeF
  rw [FH.get_toH]
  cases h.get a.block with
  | none => rfl
  | some o =>
    cases o with
    | cells c e f =>
      obtain ⟨lo, hi⟩ := f
      have : decide (a.off < c.size) = (c.toList[a.off]?).isSome := by
        rw [Bool.eq_iff_iff]; simp
      simp only [this]
    | _ => rfl

theorem setCellF_toH (h : FH) (a : Addr) (v : Value) : setCell h.toH a v = (setCellF h a v).toH := by
  unfold setCell setCellF
  apply Array.ext_getElem?
  intro i
  rw [Array.getElem?_modify, FH.get_toH]
  cases hg : h.get a.block with
  | none =>
    rw [FH.get_toH]
    by_cases e : a.block = i
    · subst e; rw [hg]; simp
    · simp [e]
  | some o =>
    cases o with
    | cells c el f =>
      rw [FH.set_toH, Array.getElem?_setIfInBounds, FH.get_toH, FH.size_toH]
      have hlt : a.block < h.n := by
        unfold FH.get at hg
        rw [blt_iff] at hg
        by_cases hb : a.block < h.n
        · exact hb
        · simp [hb] at hg
      by_cases e : a.block = i
      · subst e
        rw [hg]
        simp only [if_true, hlt, Option.map_some, Option.some.injEq, Obj.cells.injEq, and_self, and_true]
        apply Array.ext'
        simp
      · simp [e]
    | _ =>
      dsimp only
      rw [FH.get_toH]
      by_cases e : a.block = i
      · subst e; rw [hg]; simp
      · simp [e]

def cv {α : Type} (x : α × FH) : α × H := (x.1, x.2.toH)

theorem arunF_toH {α : Type} (s : Sem α) : ∀ h : FH, arun P s h.toH = (arunF P s h).map cv := by
  induction s with
  | pure a => intro h; rfl
  | load m a k ih =>
    intro h
    simp only [arun, arunF, cellF_toH]
    split
    · cases cellF? h a with
      | none => rfl
      | some v => exact ih v h
    · rfl
  | store m a v k ih =>
    intro h
    simp only [arun, arunF, freeF_toH, setCellF_toH]
    split
    · exact ih _
    · rfl
  | new o k ih =>
    intro h
    simp only [arun, arunF, FH.size_toH, ← FH.push_toH]
    split
    · exact ih _ _
    · cases o with
      | cells c e f =>
        obtain ⟨lo, hi⟩ := f
        cases lo with
        | succ n => rfl
        | zero =>
          cases hi with
          | succ n => rfl
          | zero =>
            have hall : c.all Value.oneCell' = c.toList.all Value.oneCell' := by simp
            show (if c.all Value.oneCell' = true then arun P (k h.n) (h.push (.cells c e)).toH else none) = (if c.toList.all Value.oneCell' = true then arunF P (k h.n) (h.push (.cells c e)) else none).map cv
            rw [hall]
            split
            · exact ih _ _
            · rfl
      | _ => rfl
  | getObj r k ih =>
    intro h
    simp only [arun, arunF, FH.get_toH]
    cases h.get r with
    | none => rfl
    | some o =>
      dsimp only
      split
      · exact ih _ _
      · rfl
  | setObj r o k ih =>
    intro h
    simp only [arun, arunF, FH.get_toH, ← FH.set_toH]
    cases h.get r with
    | none => rfl
    | some o' =>
      dsimp only
      split
      · exact ih _
      · rfl
  | program k ih => intro h; exact ih _ _
  | mark m k ih =>
    intro h
    simp only [arun, arunF]
    split
    · rfl
    · exact ih _
  | _ => intro h; rfl

/-! Frames -/
theorem FA.eval_toA (a : FA) : a.toA.eval = a.eval := by
  funext x
  cases x with
  | tmp t =>
    show a.toA.tmps.getD t undef = _
    unfold FA.eval FA.toA
    simp only [blt_iff, Array.getD_eq_getD_getElem?]
    by_cases h : t < a.n
    · simp [h]
    · simp [h]
  | _ => rfl

theorem FA.get_toA (a : FA) (t : Nat) : a.toA.tmps[t]? = a.get t := by
  unfold FA.get FA.toA
  simp only [blt_iff]
  by_cases h : t < a.n
  · simp [h]
  · simp [h]

theorem FA.put_toA (a : FA) (d : Option Tmp) (v : Value) : (a.put d v).toA = a.toA.put d v := by
  cases d with
  | none => rfl
  | some d =>
    unfold FA.put Act.put
    simp only [blt_iff]
    have key : ∀ x : FA, x.ds = a.ds → (∀ i, x.get i = (a.toA.tmps.setIfInBounds d v)[i]?) → x.toA = { a.toA with tmps := a.toA.tmps.setIfInBounds d v } := by
      intro x h1 h2
      have ht : x.toA.tmps = a.toA.tmps.setIfInBounds d v := by
        apply Array.ext_getElem?
        intro i
        rw [FA.get_toA, h2]
      have hd : x.toA.defers = a.toA.defers := h1
      generalize hx : x.toA = X at ht hd
      cases X
      simp only at ht hd
      rw [ht, hd]
    by_cases hd : d < a.n
    · simp only [hd, decide_true]
      refine key _ rfl fun i => ?_
      rw [Array.getElem?_setIfInBounds, FA.get_toA]
      have hsz : a.toA.tmps.size = a.n := by simp [FA.toA]
      rw [hsz]
      unfold FA.get
      simp only [blt_iff, look_cons]
      by_cases e : d = i
      · subst e; simp [hd]
      · simp [e]
    · simp only [hd, decide_false]
      refine key _ rfl fun i => ?_
      rw [Array.getElem?_setIfInBounds, FA.get_toA]
      have hsz : a.toA.tmps.size = a.n := by simp [FA.toA]
      rw [hsz]
      by_cases e : d = i
      · subst e; simp [hd, FA.get, blt_iff]
      · simp [e]

theorem yieldedF_toA (ops : Array Oper) (a : FA) : yielded ops a.toA.tmps = yieldedF ops a := by
  funext j
  unfold yielded yieldedF
  have : (fun x => a.toA.tmps[x]?) = fun x => a.get x := funext fun t => a.get_toA t
  rw [this]
  generalize ((ops[j]?).bind fun x => x.dst).bind (fun x => a.get x) = z
  cases z with
  | none => rfl
  | some v => cases v <;> rfl

/-! One operation -/
def FStep.cv : FStep → AStep
  | .val v h => .val v h.toH
  | .enter f x h => .enter f x h.toH

theorem cat3_eq (x : Array Value) (y : Array Operand) (ev : Operand → Value) (z : Array Value) : cat3 x (y.toList.map ev) z = x ++ y.map ev ++ z := by
  apply Array.ext'
  simp [cat3]

theorem mapL_eq (y : Array Operand) (ev : Operand → Value) : (⟨y.toList.map ev⟩ : Array Value) = y.map ev := by
  apply Array.ext'
  simp

theorem vals_cv (r : Option (Value × FH)) : vals (r.map Abs.cv) = (valsF r).map FStep.cv := by cases r <;> rfl
theorem units_cv (r : Option (Unit × FH)) : units (r.map Abs.cv) = (unitsF r).map FStep.cv := by cases r <;> rfl

theorem flatStepF_toH (a : Act) (o : Oper) (h : FH) : flatStep P a o h.toH = (flatStepF P a.eval o h).map FStep.cv := by
  unfold flatStep flatStepF
  have : (o.op.operands.all fun x => flat (a.eval x)) = (o.op.operands.toList.all fun x => flat (a.eval x)) := by simp
  rw [this]
  split
  · cases prun P (execOp a.eval o) with
    | none => rfl
    | some x =>
      cases x with
      | value v => dsimp only; split <;> rfl
      | _ => rfl
  · rfl

theorem asrcF_toH (u : TypeId) (i : TypeInfo) (z x : Value) (h : FH) : asrc P u i z x h.toH = asrcF P u i z x h := by
  unfold asrc asrcF
  simp only [arunF_toH, Option.map_map]
  rfl

theorem omap2 {α β γ : Type} (x : Option α) (f : α → β) (g : β → γ) : (x.map f).map g = x.map (g ∘ f) := by cases x <;> rfl

theorem appendToF_toH (e : TypeId) (i : TypeInfo) (s : Value) (m : Nat) (news : Array Value) (h : FH) : appendTo P e i s m news h.toH = (appendToF P e i s m news h).map cv := by
  unfold appendTo appendToF
  simp only [arunF_toH, FH.size_toH, ← FH.push_toH, FH.get_toH, ← FH.set_toH, omap2]
  cases s with
  | slice ad n c =>
    cases ad with
    | none =>
      cases n with
      | succ n => rfl
      | zero =>
        cases c with
        | succ c => rfl
        | zero =>
          show (if m = 0 then some (Value.slice none 0 0, h.toH) else if m * i.bytes ≤ 140737488355328 then some (Value.slice (some ⟨h.n, 0, none⟩) m OPEN, (h.push (.cells news e)).toH) else none) =
            (if m = 0 then some (Value.slice none 0 0, h) else if m * i.bytes ≤ 140737488355328 then some (Value.slice (some ⟨h.n, 0, none⟩) m OPEN, h.push (.cells news e)) else none).map cv
          split
          · rfl
          · split <;> rfl
    | some a =>
      dsimp only
      split
      · generalize h.get a.block = g
        cases g with
        | none => rfl
        | some o =>
          cases o with
          | cells cs e' f =>
            obtain ⟨lo, hi⟩ := f
            cases lo with
            | succ n => rfl
            | zero =>
              cases hi with
              | succ n => rfl
              | zero =>
                show (if e' = e then
                    if a.off + (n + m) * i.size ≤ cs.size then (arunF P (Go.storeCells (a.add (n * i.size)) news.toList) h).map ((fun r => (Value.slice (some a) (n + m) OPEN, r.2)) ∘ cv)
                    else if a.off + n * i.size = cs.size ∧ (n + m) * i.bytes ≤ 140737488355328 then some (Value.slice (some ⟨h.n, 0, none⟩) (n + m) OPEN, ((h.set a.block tomb).push (.cells (cs.extract a.off cs.size ++ news) e)).toH) else none
                  else none) = (if e' = e then
                    if a.off + (n + m) * i.size ≤ cs.size then (arunF P (Go.storeCells (a.add (n * i.size)) news.toList) h).map (fun r => (Value.slice (some a) (n + m) OPEN, r.2))
                    else if a.off + n * i.size = cs.size ∧ (n + m) * i.bytes ≤ 140737488355328 then some (Value.slice (some ⟨h.n, 0, none⟩) (n + m) OPEN, (h.set a.block tomb).push (.cells (cs.extract a.off cs.size ++ news) e)) else none
                  else none).map cv
                split
                · split
                  · rw [omap2]; rfl
                  · split <;> rfl
                · rfl
          | _ => rfl
      · split
        · rw [omap2]; rfl
        · split
          · rw [omap2]; simp only [Function.comp_def, cv, FH.push_toH]
          · rfl
  | _ => rfl

theorem aappendF_toH (ts : Array TypeId) (args : Array Value) (h : FH) : aappend P ts args h.toH = (aappendF P ts args h).map cv := by
  unfold aappend aappendF
  generalize ts.toList = l1
  generalize args.toList = l2
  match l1, l2 with
  | [], _ => rfl
  | [_], _ => rfl
  | _ :: _ :: _ :: _, _ => rfl
  | [_, _], [] => rfl
  | [_, _], [_] => rfl
  | [_, _], _ :: _ :: _ :: _ => rfl
  | [t, u], [s, x] =>
    dsimp only
    cases P.underlying t with
    | none => rfl
    | some d =>
      cases d with
      | slice e =>
        dsimp only
        cases eok P e with
        | none => rfl
        | some iz =>
          obtain ⟨i, z⟩ := iz
          dsimp only
          rw [asrcF_toH]
          cases asrcF P u i z x h with
          | none => rfl
          | some mn => exact appendToF_toH _ _ _ _ _ _
      | _ => rfl

theorem asliceF_toH (t : TypeId) (a : Addr) (n : Nat) (lo hi mx : Option Value) (h : FH) : aslice P t a n lo hi mx h.toH = asliceF P t a n lo hi mx h := by
  unfold aslice asliceF
  simp only [arunF_toH, FH.get_toH]
  cases P.underlying t with
  | none => rfl
  | some d =>
    cases d with
    | slice e =>
      dsimp only
      cases P.info? e with
      | none => rfl
      | some i =>
        dsimp only
        cases h.get a.block with
        | none => rfl
        | some o =>
          cases o with
          | cells cs e' f =>
            obtain ⟨lo', hi'⟩ := f
            cases lo' with
            | succ n => rfl
            | zero =>
              cases hi' with
              | succ n => rfl
              | zero =>
                show (if e' = e ∧ 0 < i.size ∧ n ≤ (cs.size - a.off) / i.size then
                    match (arunF P (Instr.sliceBounds true n ((cs.size - a.off) / i.size) lo hi mx) h).map cv with
                    | some ((l, u, m), _) => if mx.isNone then some (Value.slice (some (a.add (l * i.size))) (u - l) OPEN) else if m < OPEN then some (Value.slice (some (if m = l then a else a.add (l * i.size))) (u - l) (m - l)) else none
                    | none => none
                  else none) = (if e' = e ∧ 0 < i.size ∧ n ≤ (cs.size - a.off) / i.size then
                    match arunF P (Instr.sliceBounds true n ((cs.size - a.off) / i.size) lo hi mx) h with
                    | some ((l, u, m), _) => if mx.isNone then some (Value.slice (some (a.add (l * i.size))) (u - l) OPEN) else if m < OPEN then some (Value.slice (some (if m = l then a else a.add (l * i.size))) (u - l) (m - l)) else none
                    | none => none
                  else none)
                split
                · cases arunF P (Instr.sliceBounds true n ((cs.size - a.off) / i.size) lo hi mx) h with
                  | none => rfl
                  | some x => rfl
                · rfl
          | _ => rfl
    | _ => rfl

theorem acallF_toH (a : Act) (o : Oper) (c : Call) (h : FH) : acall P a o c h.toH = (acallF P a.eval o c h).map FStep.cv := by
  unfold acall acallF
  simp only [arunF_toH, aappendF_toH, vals_cv, cat3_eq, mapL_eq]
  have hargs : (c.args.map a.eval).toList = c.args.toList.map a.eval := by simp
  simp only [hargs]
  cases c.callee with
  | builtin b =>
    cases b with
    | append => rfl
    | len =>
      dsimp only
      generalize c.argTypes.toList = l1
      generalize c.args.toList.map a.eval = l2
      match l1, l2 with
      | [], _ => rfl
      | _ :: _ :: _, _ => rfl
      | [_], [] => rfl
      | [_], _ :: _ :: _ => rfl
      | [t], [x] => dsimp only; split <;> rfl
    | copy =>
      dsimp only
      generalize c.argTypes.toList = l1
      generalize c.args.toList.map a.eval = l2
      match l1, l2 with
      | [], _ => rfl
      | [_], _ => rfl
      | _ :: _ :: _ :: _, _ => rfl
      | [_, _], [] => rfl
      | [_, _], [_] => rfl
      | [_, _], _ :: _ :: _ :: _ => rfl
      | [t, u], [x, y] => rfl
    | clear =>
      dsimp only
      generalize c.argTypes.toList = l1
      generalize c.args.toList.map a.eval = l2
      match l1, l2 with
      | [], _ => rfl
      | _ :: _ :: _, _ => rfl
      | [_], [] => rfl
      | [_], _ :: _ :: _ => rfl
      | [t], [x] => dsimp only; split <;> rfl
    | delete =>
      dsimp only
      generalize c.argTypes.toList = l1
      generalize c.args.toList.map a.eval = l2
      match l1, l2 with
      | [], _ => rfl
      | [_], _ => rfl
      | _ :: _ :: _ :: _, _ => rfl
      | [_, _], [] => rfl
      | [_, _], [_] => rfl
      | [_, _], _ :: _ :: _ :: _ => rfl
      | [t, u], [x, y] => dsimp only; split <;> rfl
    | _ => rfl
  | value f =>
    dsimp only
    cases a.eval f with
    | func g first cap =>
      cases g with
      | func g =>
        dsimp only
        cases P.funcs[g]? with
        | none => rfl
        | some fn =>
          dsimp only
          split
          · split <;> rfl
          · split
            · cases prun P (callFunc g (first ++ c.args.map a.eval ++ cap)) with
              | none => rfl
              | some x =>
                cases x with
                | value v => dsimp only; split <;> rfl
                | _ => rfl
            · rfl
      | _ => rfl
    | _ => rfl
  | _ => rfl

theorem aopF_toH (a : Act) (o : Oper) (h : FH) : aop P a o h.toH = (aopF P a.eval o h).map FStep.cv := by
  unfold aop aopF
  split
  · simp only [arunF_toH, flatStepF_toH, acallF_toH, asliceF_toH, vals_cv, units_cv]
    generalize o.op = op
    cases op with
    | pick c x y => dsimp only; cases a.eval c <;> rfl
    | alloc => dsimp only; split <;> rfl
    | build => dsimp only; split <;> rfl
    | buildSlice => dsimp only; split <;> rfl
    | nilCheck x =>
      dsimp only
      cases a.eval x with
      | pointer p => cases p <;> rfl
      | _ => rfl
    | binOp => dsimp only; split <;> rfl
    | makeFunc fn first cap => cases fn <;> rfl
    | makeMap t r => cases r <;> rfl
    | makeSlice => dsimp only; split <;> rfl
    | slice t x lo hi mx =>
      dsimp only
      split
      · cases a.eval x with
        | slice ad n c =>
          cases ad with
          | none => rfl
          | some ad =>
            dsimp only
            split
            · rw [omap2]; rfl
            · rfl
        | _ => rfl
      · rfl
    | lookup => dsimp only; split <;> rfl
    | mapUpdate => dsimp only; split <;> rfl
    | insert => dsimp only; split <;> rfl
    | mapEntry => dsimp only; split <;> rfl
    | call c =>
      dsimp only
      cases acallF P a.eval o c h <;> rfl
    | _ => rfl
  · rfl

theorem aextF_toH (a : Act) (o : Oper) (h : FH) : aext P a o h.toH = (aextF P a.eval o h).map cv := by
  unfold aext aextF
  generalize o.op = op
  cases op with
  | convert src dst x =>
    dsimp only
    split
    · simp only [arunF_toH, FH.size_toH, ← FH.push_toH]
      cases P.underlying src with
      | none => rfl
      | some d1 =>
        cases P.underlying dst with
        | none => cases d1 <;> rfl
        | some d2 =>
          cases a.eval x with
          | string s =>
            cases d1 <;> cases d2 <;> first
              | rfl
              | (rename_i el
                 dsimp only
                 cases eok P el with
                 | none => rfl
                 | some iz => obtain ⟨i, z⟩ := iz; dsimp only; split <;> rfl)
          | slice ad n c =>
            cases d1 <;> cases d2 <;> first
              | rfl
              | (cases ad with
                 | none => cases n <;> cases c <;> first
                   | rfl
                   | (rename_i el; show (if isU8 P el = true then some (Value.string .empty, h.toH) else none) = (if isU8 P el = true then some (Value.string .empty, h) else none).map cv; split <;> rfl)
                 | some ad =>
                   dsimp only
                   split
                   · rename_i e1 _
                     cases arunF P (Go.loadCells ad n) h with
                     | none => rfl
                     | some cs =>
                       obtain ⟨cs, h1⟩ := cs
                       dsimp only [Option.map_some, cv]
                       split
                       · cases prun P (bytesLoop cs) with
                         | none => rfl
                         | some v => dsimp only; split <;> rfl
                       · rfl
                   · rfl)
          | _ => cases d1 <;> cases d2 <;> rfl
    · rfl
  | _ => rfl

end Go.Abs
