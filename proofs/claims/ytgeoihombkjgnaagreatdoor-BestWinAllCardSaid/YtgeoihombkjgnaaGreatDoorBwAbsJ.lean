/-
The abstract heap: one operation.
-/
import Derived.Test.YtgeoihombkjgnaaGreatDoorBwAbsI
import Derived.Orders
namespace Go.Abs
open Go
variable {P : Program} {ρ : Ren} {α β : Type}

theorem prun_run (s : Sem α) (a : α) (h : prun P s = some a) : ∀ w, s.run P w = .ok a w := by
  induction s with
  | pure x => simp only [prun, Option.some.injEq] at h; subst h; exact fun _ => rfl
  | program k ih => exact fun w => ih P h w
  | mark m k ih =>
    simp only [prun] at h
    split at h
    · cases h
    · exact fun w => ih h w
  | _ => simp [prun] at h

def okOperand : Operand → Bool
  | .tmp _ => true
  | .const v => flat v
  | .global _ => false
  | .func _ => true

/-- The marks of ranges over functions, among the deferred calls. -/
inductive DRel (ρ : Ren) : List Deferred → List Deferred → Prop
  | nil : DRel ρ [] []
  | cons {i r : Nat} {ds ds' : List Deferred} : (ρ i = some none ∨ ∃ B, ρ i = some (some B) ∧ r = B.b) → DRel ρ ds ds' → DRel ρ ({ target := .collected i, args := #[] } :: ds) ({ target := .collected r, args := #[] } :: ds')

theorem DRel.mono {ρ' : Ren} (hl : Ren.Le ρ ρ') {ds ds' : List Deferred} (h : DRel ρ ds ds') : DRel ρ' ds ds' := by
  induction h with
  | nil => exact .nil
  | cons h _ ih =>
    refine .cons ?_ ih
    rcases h with h | ⟨B, hB, hr⟩
    · rcases hl _ _ h with h | h <;> exact .inl h
    · rcases hl _ _ hB with h | h
      · exact .inr ⟨B, h, hr⟩
      · exact .inl h

/-- Frames, slot by slot. -/
def ActRel (P : Program) (ρ : Ren) (a a' : Act) : Prop := RRel P ρ a.tmps a'.tmps ∧ DRel ρ a.defers a'.defers

theorem ActRel.mono {ρ' : Ren} {a a' : Act} (hl : Ren.Le ρ ρ') (h : ActRel P ρ a a') : ActRel P ρ' a a' := ⟨h.1.mono hl, h.2.mono hl⟩

theorem undef_rel : VRel P ρ undef undef := .tuple rfl fun i u u' h => by simp at h

theorem ActRel.eval {a a' : Act} (h : ActRel P ρ a a') {x : Operand} (hx : okOperand x = true) : VRel P ρ (a.eval x) (a'.eval x) := by
  cases x with
  | tmp t =>
    show VRel P ρ (a.tmps.getD t undef) (a'.tmps.getD t undef)
    simp only [Array.getD_eq_getD_getElem?]
    cases ht : a.tmps[t]? with
    | none =>
      have : a'.tmps[t]? = none := by
        rw [Array.getElem?_eq_none_iff] at ht ⊢
        rw [← h.1.1]; exact ht
      rw [this]; exact undef_rel
    | some v =>
      have hlt : t < a'.tmps.size := by rw [← h.1.1]; exact (Array.getElem?_eq_some_iff.1 ht).1
      rw [Array.getElem?_eq_getElem hlt]
      exact h.1.2 t _ _ ht (Array.getElem?_eq_getElem hlt)
  | const v => exact flat_rel hx
  | global g => cases hx
  | func f => exact .func (by intro l h; cases h) rfl (fun i u u' h => by simp at h) rfl (fun i u u' h => by simp at h)

theorem ActRel.put {a a' : Act} (h : ActRel P ρ a a') (d : Option Tmp) {v v' : Value} (hv : VRel P ρ v v') : ActRel P ρ (a.put d v) (a'.put d v') := by
  cases d with
  | none => exact h
  | some d => exact ⟨h.1.set d hv, h.2⟩

inductive AStep where
  | val (v : Value) (h : H)
  | enter (f : FuncId) (args : Array Value) (h : H)

/-- An operation on values without addresses. -/
def flatStep (P : Program) (a : Act) (o : Oper) (h : H) : Option AStep :=
  if (o.op.operands.all fun x => flat (a.eval x)) = true then
    match prun P (execOp a.eval o) with
    | some (.value v) => if flat v = true then some (.val v h) else none
    | _ => none
  else none

def vals (r : Option (Value × H)) : Option AStep := r.map fun r => .val r.1 r.2
def units (r : Option (Unit × H)) : Option AStep := r.map fun r => .val undef r.2

def sliceZok (P : Program) (t : TypeId) : Bool := match P.underlying t with | some (.slice e) => zok P e | _ => true
def mapZok (P : Program) (t : TypeId) : Bool := match P.underlying t with | some (.map _ e) => zok P e | _ => true
def strSlice (P : Program) (t : TypeId) : Bool := match P.underlying t with | some .string | some (.slice _) => true | _ => false
def lenable (P : Program) (t : TypeId) : Bool := match P.underlying t with | some .string | some (.slice _) | some (.map _ _) | some (.array _ _) => true | _ => false

def isEq : BinOp → Bool
  | .eql | .neq => true
  | _ => false

def isSlice : Value → Bool
  | .slice _ _ _ => true
  | _ => false

def nilish : Value → Value → Bool
  | .slice none _ _, .slice _ _ _ | .slice _ _ _, .slice none _ _ | .map none, .map _ | .map _, .map none | .pointer none, .pointer _ | .pointer _, .pointer none
  | .nilFunc, .func _ _ _ | .func _ _ _, .nilFunc => true
  | _, _ => false

def acall (P : Program) (a : Act) (o : Oper) (c : Call) (h : H) : Option AStep :=
  match c.callee with
  | .builtin .append => vals (aappend P c.argTypes (c.args.map a.eval) h)
  | .builtin .len => match c.argTypes.toList, (c.args.map a.eval).toList with
    | [t], [x] => if lenable P t = true then vals (arun P (Builtin.len_ #[t] o.type #[x]) h) else none
    | _, _ => none
  | .builtin .copy => match c.argTypes.toList, (c.args.map a.eval).toList with
    | [t, u], [x, y] => vals (arun P (Builtin.copy_ #[t, u] o.type #[x, y]) h)
    | _, _ => none
  | .builtin .clear => match c.argTypes.toList, (c.args.map a.eval).toList with
    | [t], [x] => if sliceZok P t = true ∧ isSlice (x) = true then vals (arun P (Builtin.clear_ #[t] o.type #[x]) h) else none
    | _, _ => none
  | .builtin .delete => match c.argTypes.toList, (c.args.map a.eval).toList with
    | [t, u], [x, y] => if flat (y) = true then vals (arun P (Builtin.delete_ #[t, u] o.type #[x, y]) h) else none
    | _, _ => none
  | .value f => match a.eval f with
    | .func (.func g) first cap =>
      match P.funcs[g]? with
      | some fn =>
        if fn.body.isSome = true then if fn.name ≠ "runtime.NumGoroutine" then some (.enter g (first ++ c.args.map a.eval ++ cap) h) else none
        else if (first ++ c.args.map a.eval ++ cap).all flat = true then
          match prun P (callFunc g (first ++ c.args.map a.eval ++ cap)) with
          | some (.value v) => if flat v = true then some (.val v h) else none
          | _ => none
        else none
      | none => none
    | _ => none
  | _ => none


def aop (P : Program) (a : Act) (o : Oper) (h : H) : Option AStep :=
  if (o.op.operands.all okOperand) = true then
    match o.op with
    | .move x | .assign x => some (.val (a.eval x) h)
    | .pick c x y => match a.eval c with | .bool b => some (.val (if b = true then a.eval x else a.eval y) h) | _ => none
    | .alloc e => if zok P e = true then vals (arun P (Instr.alloc e true (.tuple #[])) h) else none
    | .box e x => vals (arun P (Instr.box e (a.eval x)) h)
    | .build t parts => if zok P t = true then vals (arun P (Instr.build t (parts.map fun p => (p.1, a.eval p.2))) h) else none
    | .buildSlice t n parts => if sliceZok P t = true ∧ n < OPEN then vals (arun P (Instr.buildSlice t n (parts.map fun p => (p.1, a.eval p.2))) h) else none
    | .load t x => vals (arun P (Instr.loadAt t (a.eval x)) h)
    | .store t x y => units (arun P (Instr.storeAt t (a.eval x) (a.eval y)) h)
    | .nilCheck x => match a.eval x with | .pointer (some ad) => some (.val (.pointer (some ad)) h) | _ => none
    | .binOp op t x y _ =>
      if nilish (a.eval x) (a.eval y) = true ∧ isEq op = true then vals (arun P (do eqGuard op t x y (a.eval x) (a.eval y); binOp op t (a.eval x) (a.eval y)) h)
      else flatStep P a o h
    | .makeInterface t x => vals (arun P (Instr.makeInterface t (a.eval x)) h)
    | .makeFunc fn first cap => match fn with | .func f => some (.val (.func (.func f) (first.map a.eval) (cap.map a.eval)) h) | _ => none
    | .makeMap t none => vals (arun P (Instr.makeMap t none) h)
    | .makeSlice t l c => if sliceZok P t = true then vals (arun P (Instr.makeSlice t (a.eval l) (a.eval c)) h) else none
    | .slice t x lo hi mx =>
      if strSlice P t = true then
        match a.eval x with
        | .slice (some ad) n c =>
          if c = OPEN then (aslice P t ad n (lo.map a.eval) (hi.map a.eval) (mx.map a.eval) h).map fun v => .val v h
          else vals (arun P (Instr.slice t (.slice (some ad) n c) (lo.map a.eval) (hi.map a.eval) (mx.map a.eval)) h)
        | v => vals (arun P (Instr.slice t v (lo.map a.eval) (hi.map a.eval) (mx.map a.eval)) h)
      else none
    | .fieldAddr t x f => vals (arun P (Instr.fieldAt t (a.eval x) f) h)
    | .field t x f => vals (arun P (Instr.field t (a.eval x) f) h)
    | .indexAddr t x i => vals (arun P (Instr.indexAt t (a.eval x) (a.eval i)) h)
    | .index t x i => vals (arun P (Instr.index t (a.eval x) (a.eval i)) h)
    | .lookup t x k ok => if mapZok P t = true ∧ flat (a.eval k) = true then vals (arun P (Instr.lookup t (a.eval x) (a.eval k) ok) h) else none
    | .mapUpdate t m k x | .insert t m k x => if flat (a.eval k) = true then units (arun P (Instr.mapUpdate t (a.eval m) (a.eval k) (a.eval x)) h) else none
    | .mapEntry t m k => if mapZok P t = true ∧ flat (a.eval k) = true then vals (arun P (Instr.mapEntry t (a.eval m) (a.eval k)) h) else none
    | .entryStore t m s x => units (arun P (Instr.entryStore t (a.eval m) (a.eval s) (a.eval x)) h)
    | .extract t i => vals (arun P (Instr.extract (a.eval t) i) h)
    | .call c => match acall P a o c h with
      | some r => some r
      | none => flatStep P a o h
    | .select _ _ => none
    | _ => flatStep P a o h
  else none

/-- What an operation does in the model, beside what it does here. -/
def OpDoes (P : Program) (ρ : Ren) (h : H) (w : World) (r : AStep) (s : Sem Next) : Prop :=
  match r with
  | .val v h1 => ∃ v' w1 ρ1, (s.run P w = .ok (.value v') w1 ∨ (s.run P w = .ok .skip w1 ∧ v' = undef)) ∧ Later ρ h w ρ1 h1 w1 ∧ Sim P ρ1 h1 w1 ∧ VRel P ρ1 v v'
  | .enter f args h1 => ∃ args' w1 ρ1, s.run P w = .ok (.enter f args') w1 ∧ Later ρ h w ρ1 h1 w1 ∧ Sim P ρ1 h1 w1 ∧ RRel P ρ1 args args'

theorem OpDoes.ofSV {h : H} {w : World} (hs : Sim P ρ h w) {s s' : Sem Value} (hv : SV P ρ s s') {r : AStep} (hr : vals (arun P s h) = some r) : OpDoes P ρ h w r (do Pure.pure (.value (← s'))) := by
  unfold vals at hr
  simp only [Option.map_eq_some_iff] at hr
  obtain ⟨⟨v, h1⟩, hr, rfl⟩ := hr
  obtain ⟨v', w1, ρ2, e1, e2, e3, e4⟩ := hv ρ h w (.refl _) hs v h1 hr
  exact ⟨v', w1, ρ2, .inl (by simp [e1]), e2, e3, e4⟩

theorem OpDoes.ofUnit {h : H} {w : World} (hs : Sim P ρ h w) {s s' : Sem Unit} (hv : SR P ρ (fun _ _ _ => True) s s') {r : AStep} (hr : units (arun P s h) = some r) : OpDoes P ρ h w r (do s'; Pure.pure .skip) := by
  unfold units at hr
  simp only [Option.map_eq_some_iff] at hr
  obtain ⟨⟨v, h1⟩, hr, rfl⟩ := hr
  obtain ⟨v', w1, ρ2, e1, e2, e3, e4⟩ := hv ρ h w (.refl _) hs v h1 hr
  exact ⟨undef, w1, ρ2, .inr ⟨by simp [e1], rfl⟩, e2, e3, undef_rel⟩

theorem OpDoes.ofDoes {h h1 : H} {w : World} {v : Value} {s' : Sem Value} (hd : Does P ρ h w v h1 s') : OpDoes P ρ h w (.val v h1) (do Pure.pure (.value (← s'))) := by
  obtain ⟨v', w1, ρ2, e1, e2, e3, e4⟩ := hd
  exact ⟨v', w1, ρ2, .inl (by simp [e1]), e2, e3, e4⟩

theorem flatStep_does {a a' : Act} {o : Oper} {h : H} {w : World} (hs : Sim P ρ h w) (ha : ActRel P ρ a a') (hok : (o.op.operands.all okOperand) = true) (hsel : ∀ cs b, o.op ≠ .select cs b) {r : AStep} (hr : flatStep P a o h = some r) :
    OpDoes P ρ h w r (execOp a'.eval o) := by
  unfold flatStep at hr
  split at hr
  · rename_i hf
    split at hr
    · rename_i v hp
      split at hr
      · rename_i hfv
        cases hr
        have hcongr : execOp a'.eval o = execOp a.eval o := execOp_congr o hsel fun x hx => by
          have h1 : okOperand x = true := by
            obtain ⟨i, hi, rfl⟩ := Array.getElem_of_mem hx
            exact Array.all_eq_true.1 hok i hi
          have h2 : flat (a.eval x) = true := by
            obtain ⟨i, hi, rfl⟩ := Array.getElem_of_mem hx
            exact Array.all_eq_true.1 hf i hi
          exact flat_eq h2 (ha.eval h1)
        rw [hcongr]
        exact ⟨v, w, ρ, .inl (prun_run _ _ hp w), .refl _ _ _, hs, flat_rel hfv⟩
      · cases hr
    · cases hr
  · cases hr

end Go.Abs
