import Derived.Test.YtamnlkconfannaaGreatDoorBwB2
import Derived.Orders
/-
The abstract heap: one operation.
-/
namespace Go.Abs
open Go
variable {P : Program} {ρ : Ren} {α β : Type}

theorem prun_run (s : Sem α) (a : α) (h : prun P s = some a) : ∀ w, s.run P w = .ok a w := by
  induction s with
  | pure x => simp only [prun, Option.some.injEq] at h; subst h; exact fun _ => rfl
  | program k ih => exact fun w => ih P h w
  | mark m k ih =>
    simp only [prun] at h
    split at h
    · cases h
    · exact fun w => ih h w
  | _ => simp [prun] at h

def okOperand : Operand → Bool
  | .tmp _ => true
  | .const v => flat v
  | .global _ => false
  | .func _ => true

/-- The marks of ranges over functions, among the deferred calls. -/
inductive DRel (ρ : Ren) : List Deferred → List Deferred → Prop
  | nil : DRel ρ [] []
  | cons {i r : Nat} {ds ds' : List Deferred} : (ρ i = some none ∨ ∃ B, ρ i = some (some B) ∧ r = B.b) → DRel ρ ds ds' → DRel ρ ({ target := .collected i, args := #[] } :: ds) ({ target := .collected r, args := #[] } :: ds')

theorem DRel.mono {ρ' : Ren} (hl : Ren.Le ρ ρ') {ds ds' : List Deferred} (h : DRel ρ ds ds') : DRel ρ' ds ds' := by
  induction h with
  | nil => exact .nil
  | cons h _ ih =>
    refine .cons ?_ ih
    rcases h with h | ⟨B, hB, hr⟩
    · rcases hl _ _ h with h | h <;> exact .inl h
    · rcases hl _ _ hB with h | h
      · exact .inr ⟨B, h, hr⟩
      · exact .inl h

/-- Frames, slot by slot. -/
def ActRel (P : Program) (ρ : Ren) (a a' : Act) : Prop := RRel P ρ a.tmps a'.tmps ∧ DRel ρ a.defers a'.defers

theorem ActRel.mono {ρ' : Ren} {a a' : Act} (hl : Ren.Le ρ ρ') (h : ActRel P ρ a a') : ActRel P ρ' a a' := ⟨h.1.mono hl, h.2.mono hl⟩

theorem undef_rel : VRel P ρ undef undef := .tuple rfl fun i u u' h => by simp at h

theorem ActRel.eval {a a' : Act} (h : ActRel P ρ a a') {x : Operand} (hx : okOperand x = true) : VRel P ρ (a.eval x) (a'.eval x) := by
  cases x with
  | tmp t =>
    show VRel P ρ (a.tmps.getD t undef) (a'.tmps.getD t undef)
    simp only [Array.getD_eq_getD_getElem?]
    cases ht : a.tmps[t]? with
    | none =>
      have : a'.tmps[t]? = none := by
        rw [Array.getElem?_eq_none_iff] at ht ⊢
        rw [← h.1.1]; exact ht
      rw [this]; exact undef_rel
    | some v =>
      have hlt : t < a'.tmps.size := by rw [← h.1.1]; exact (Array.getElem?_eq_some_iff.1 ht).1
      rw [Array.getElem?_eq_getElem hlt]
      exact h.1.2 t _ _ ht (Array.getElem?_eq_getElem hlt)
  | const v => exact flat_rel hx
  | global g => cases hx
  | func f => exact .func (by intro l h; cases h) rfl (fun i u u' h => by simp at h) rfl (fun i u u' h => by simp at h)

theorem ActRel.put {a a' : Act} (h : ActRel P ρ a a') (d : Option Tmp) {v v' : Value} (hv : VRel P ρ v v') : ActRel P ρ (a.put d v) (a'.put d v') := by
  cases d with
  | none => exact h
  | some d => exact ⟨h.1.set d hv, h.2⟩

inductive AStep where
  | val (v : Value) (h : H)
  | enter (f : FuncId) (args : Array Value) (h : H)

/-- An operation on values without addresses. -/
def flatStep (P : Program) (a : Act) (o : Oper) (h : H) : Option AStep :=
  if (o.op.operands.all fun x => flat (a.eval x)) = true then
    match prun P (execOp a.eval o) with
    | some (.value v) => if flat v = true then some (.val v h) else none
    | _ => none
  else none

def vals (r : Option (Value × H)) : Option AStep := r.map fun r => .val r.1 r.2
def units (r : Option (Unit × H)) : Option AStep := r.map fun r => .val undef r.2

def sliceZok (P : Program) (t : TypeId) : Bool := match P.underlying t with | some (.slice e) => zok P e | _ => true
def mapZok (P : Program) (t : TypeId) : Bool := match P.underlying t with | some (.map _ e) => zok P e | _ => true
def strSlice (P : Program) (t : TypeId) : Bool := match P.underlying t with | some .string | some (.slice _) => true | _ => false
def lenable (P : Program) (t : TypeId) : Bool := match P.underlying t with | some .string | some (.slice _) | some (.map _ _) | some (.array _ _) => true | _ => false

def isEq : BinOp → Bool
  | .eql | .neq => true
  | _ => false

def isSlice : Value → Bool
  | .slice _ _ _ => true
  | _ => false

def nilish : Value → Value → Bool
  | .slice none _ _, .slice _ _ _ | .slice _ _ _, .slice none _ _ | .map none, .map _ | .map _, .map none | .pointer none, .pointer _ | .pointer _, .pointer none
  | .nilFunc, .func _ _ _ | .func _ _ _, .nilFunc => true
  | _, _ => false

def acall (P : Program) (a : Act) (o : Oper) (c : Call) (h : H) : Option AStep :=
  match c.callee with
  | .builtin .append => vals (aappend P c.argTypes (c.args.map a.eval) h)
  | .builtin .len => match c.argTypes.toList, (c.args.map a.eval).toList with
    | [t], [x] => if lenable P t = true then vals (arun P (Builtin.len_ #[t] o.type #[x]) h) else none
    | _, _ => none
  | .builtin .copy => match c.argTypes.toList, (c.args.map a.eval).toList with
    | [t, u], [x, y] => vals (arun P (Builtin.copy_ #[t, u] o.type #[x, y]) h)
    | _, _ => none
  | .builtin .clear => match c.argTypes.toList, (c.args.map a.eval).toList with
    | [t], [x] => if sliceZok P t = true ∧ isSlice (x) = true then vals (arun P (Builtin.clear_ #[t] o.type #[x]) h) else none
    | _, _ => none
  | .builtin .delete => match c.argTypes.toList, (c.args.map a.eval).toList with
    | [t, u], [x, y] => if flat (y) = true then vals (arun P (Builtin.delete_ #[t, u] o.type #[x, y]) h) else none
    | _, _ => none
  | .value f => match a.eval f with
    | .func (.func g) first cap =>
      match P.funcs[g]? with
      | some fn =>
        if fn.body.isSome = true then if fn.name ≠ "runtime.NumGoroutine" then some (.enter g (first ++ c.args.map a.eval ++ cap) h) else none
        else if (first ++ c.args.map a.eval ++ cap).all flat = true then
          match prun P (callFunc g (first ++ c.args.map a.eval ++ cap)) with
          | some (.value v) => if flat v = true then some (.val v h) else none
          | _ => none
        else none
      | none => none
    | _ => none
  | _ => none


def aop (P : Program) (a : Act) (o : Oper) (h : H) : Option AStep :=
  if (o.op.operands.all okOperand) = true then
    match o.op with
    | .move x | .assign x => some (.val (a.eval x) h)
    | .pick c x y => match a.eval c with | .bool b => some (.val (if b = true then a.eval x else a.eval y) h) | _ => none
    | .alloc e => if zok P e = true then vals (arun P (Instr.alloc e true (.tuple #[])) h) else none
    | .box e x => vals (arun P (Instr.box e (a.eval x)) h)
    | .build t parts => if zok P t = true then vals (arun P (Instr.build t (parts.map fun p => (p.1, a.eval p.2))) h) else none
    | .buildSlice t n parts => if sliceZok P t = true ∧ n < OPEN then vals (arun P (Instr.buildSlice t n (parts.map fun p => (p.1, a.eval p.2))) h) else none
    | .load t x => vals (arun P (Instr.loadAt t (a.eval x)) h)
    | .store t x y => units (arun P (Instr.storeAt t (a.eval x) (a.eval y)) h)
    | .nilCheck x => match a.eval x with | .pointer (some ad) => some (.val (.pointer (some ad)) h) | _ => none
    | .binOp op t x y _ =>
      if nilish (a.eval x) (a.eval y) = true ∧ isEq op = true then vals (arun P (do eqGuard op t x y (a.eval x) (a.eval y); binOp op t (a.eval x) (a.eval y)) h)
      else flatStep P a o h
    | .makeInterface t x => vals (arun P (Instr.makeInterface t (a.eval x)) h)
    | .makeFunc fn first cap => match fn with | .func f => some (.val (.func (.func f) (first.map a.eval) (cap.map a.eval)) h) | _ => none
    | .makeMap t none => vals (arun P (Instr.makeMap t none) h)
    | .makeSlice t l c => if sliceZok P t = true then vals (arun P (Instr.makeSlice t (a.eval l) (a.eval c)) h) else none
    | .slice t x lo hi mx =>
      if strSlice P t = true then
        match a.eval x with
        | .slice (some ad) n c =>
          if c = OPEN then (aslice P t ad n (lo.map a.eval) (hi.map a.eval) (mx.map a.eval) h).map fun v => .val v h
          else vals (arun P (Instr.slice t (.slice (some ad) n c) (lo.map a.eval) (hi.map a.eval) (mx.map a.eval)) h)
        | v => vals (arun P (Instr.slice t v (lo.map a.eval) (hi.map a.eval) (mx.map a.eval)) h)
      else none
    | .fieldAddr t x f => vals (arun P (Instr.fieldAt t (a.eval x) f) h)
    | .field t x f => vals (arun P (Instr.field t (a.eval x) f) h)
    | .indexAddr t x i => vals (arun P (Instr.indexAt t (a.eval x) (a.eval i)) h)
    | .index t x i => vals (arun P (Instr.index t (a.eval x) (a.eval i)) h)
    | .lookup t x k ok => if mapZok P t = true ∧ flat (a.eval k) = true then vals (arun P (Instr.lookup t (a.eval x) (a.eval k) ok) h) else none
    | .mapUpdate t m k x | .insert t m k x => if flat (a.eval k) = true then units (arun P (Instr.mapUpdate t (a.eval m) (a.eval k) (a.eval x)) h) else none
    | .mapEntry t m k => if mapZok P t = true ∧ flat (a.eval k) = true then vals (arun P (Instr.mapEntry t (a.eval m) (a.eval k)) h) else none
    | .entryStore t m s x => units (arun P (Instr.entryStore t (a.eval m) (a.eval s) (a.eval x)) h)
    | .extract t i => vals (arun P (Instr.extract (a.eval t) i) h)
    | .call c => match acall P a o c h with
      | some r => some r
      | none => flatStep P a o h
    | .select _ _ => none
    | _ => flatStep P a o h
  else none

/-- What an operation does in the model, beside what it does here. -/
def OpDoes (P : Program) (ρ : Ren) (h : H) (w : World) (r : AStep) (s : Sem Next) : Prop :=
  match r with
  | .val v h1 => ∃ v' w1 ρ1, (s.run P w = .ok (.value v') w1 ∨ (s.run P w = .ok .skip w1 ∧ v' = undef)) ∧ Later ρ h w ρ1 h1 w1 ∧ Sim P ρ1 h1 w1 ∧ VRel P ρ1 v v'
  | .enter f args h1 => ∃ args' w1 ρ1, s.run P w = .ok (.enter f args') w1 ∧ Later ρ h w ρ1 h1 w1 ∧ Sim P ρ1 h1 w1 ∧ RRel P ρ1 args args'

theorem OpDoes.ofSV {h : H} {w : World} (hs : Sim P ρ h w) {s s' : Sem Value} (hv : SV P ρ s s') {r : AStep} (hr : vals (arun P s h) = some r) : OpDoes P ρ h w r (do Pure.pure (.value (← s'))) := by
  unfold vals at hr
  simp only [Option.map_eq_some_iff] at hr
  obtain ⟨⟨v, h1⟩, hr, rfl⟩ := hr
  obtain ⟨v', w1, ρ2, e1, e2, e3, e4⟩ := hv ρ h w (.refl _) hs v h1 hr
  exact ⟨v', w1, ρ2, .inl (by simp [e1]), e2, e3, e4⟩

theorem OpDoes.ofUnit {h : H} {w : World} (hs : Sim P ρ h w) {s s' : Sem Unit} (hv : SR P ρ (fun _ _ _ => True) s s') {r : AStep} (hr : units (arun P s h) = some r) : OpDoes P ρ h w r (do s'; Pure.pure .skip) := by
  unfold units at hr
  simp only [Option.map_eq_some_iff] at hr
  obtain ⟨⟨v, h1⟩, hr, rfl⟩ := hr
  obtain ⟨v', w1, ρ2, e1, e2, e3, e4⟩ := hv ρ h w (.refl _) hs v h1 hr
  exact ⟨undef, w1, ρ2, .inr ⟨by simp [e1], rfl⟩, e2, e3, undef_rel⟩

theorem OpDoes.ofDoes {h h1 : H} {w : World} {v : Value} {s' : Sem Value} (hd : Does P ρ h w v h1 s') : OpDoes P ρ h w (.val v h1) (do Pure.pure (.value (← s'))) := by
  obtain ⟨v', w1, ρ2, e1, e2, e3, e4⟩ := hd
  exact ⟨v', w1, ρ2, .inl (by simp [e1]), e2, e3, e4⟩

theorem flatStep_does {a a' : Act} {o : Oper} {h : H} {w : World} (hs : Sim P ρ h w) (ha : ActRel P ρ a a') (hok : (o.op.operands.all okOperand) = true) (hsel : ∀ cs b, o.op ≠ .select cs b) {r : AStep} (hr : flatStep P a o h = some r) :
    OpDoes P ρ h w r (execOp a'.eval o) := by
  unfold flatStep at hr
  split at hr
  · rename_i hf
    split at hr
    · rename_i v hp
      split at hr
      · rename_i hfv
        cases hr
        have hcongr : execOp a'.eval o = execOp a.eval o := execOp_congr o hsel fun x hx => by
          have h1 : okOperand x = true := by
            obtain ⟨i, hi, rfl⟩ := Array.getElem_of_mem hx
            exact Array.all_eq_true.1 hok i hi
          have h2 : flat (a.eval x) = true := by
            obtain ⟨i, hi, rfl⟩ := Array.getElem_of_mem hx
            exact Array.all_eq_true.1 hf i hi
          exact flat_eq h2 (ha.eval h1)
        rw [hcongr]
        exact ⟨v, w, ρ, .inl (prun_run _ _ hp w), .refl _ _ _, hs, flat_rel hfv⟩
      · cases hr
    · cases hr
  · cases hr

end Go.Abs

/-
The abstract heap: one operation, both sides.
-/
namespace Go.Abs
open Go
variable {P : Program} {ρ : Ren} {α β : Type}

theorem SV.nilEq {op : BinOp} {t : TypeId} {x y : Operand} {u v u' v' : Value} (hn : nilish u v = true) (hop : isEq op = true) (hu : VRel P ρ u u') (hv : VRel P ρ v v') :
    SV P ρ (do eqGuard op t x y u v; binOp op t u v) (do eqGuard op t x y u' v'; binOp op t u' v') := by
  have hg : ∀ {a b : Value}, nilish a b = true → eqGuard op t x y a b = Pure.pure () := by
    intro a b hab
    cases a <;> cases b <;> first | (simp [nilish] at hab; done) | (cases op <;> rfl)
  have hn' : nilish u' v' = true := by
    cases hu <;> cases hv <;> first | exact hn | (simp [nilish] at hn ⊢; done)
  rw [hg hn, hg hn']
  simp only [pure_bind]
  have key : SR P ρ (fun _ a b => a = b) (Op.equal t u v) (Op.equal t u' v') := by
    have e : Op.maxDepth = 9999 + 1 := rfl
    unfold Op.equal
    rw [e]
    unfold Op.equalIn
    refine SR.bind (SR.underlying t) fun ρ1 d d' hl hd => ?_
    obtain ⟨rfl, _⟩ := hd
    cases hu <;> cases hv <;> first
      | (simp [nilish] at hn; done)
      | (cases d <;> first | exact SR.stuck | exact SR.pure fun _ _ => rfl | exact SR.fail fun _ => rfl)
  have e1 : ∀ {a b : Value}, nilish a b = true → binOp .eql t a b = (do Pure.pure (.bool (← Op.equal t a b))) ∧ binOp .neq t a b = (do Pure.pure (.bool (!(← Op.equal t a b)))) := by
    intro a b hab
    cases a <;> cases b <;> first | (simp [nilish] at hab; done) | exact ⟨rfl, rfl⟩
  cases op <;> first | (simp [isEq] at hop; done) | skip
  · rw [(e1 hn).1, (e1 hn').1]
    exact SR.bind key fun ρ1 a b _ hab => SR.pure fun _ _ => by rw [hab]; exact .bool _
  · rw [(e1 hn).2, (e1 hn').2]
    exact SR.bind key fun ρ1 a b _ hab => SR.pure fun _ _ => by rw [hab]; exact .bool _

theorem ORl.of {a a' : Act} (ha : ActRel P ρ a a') {x : Option Operand} (hx : ∀ y, x = some y → okOperand y = true) : ORl P ρ (x.map a.eval) (x.map a'.eval) := by
  cases x with
  | none => exact .inl ⟨rfl, rfl⟩
  | some y => exact .inr ⟨_, _, rfl, rfl, ha.eval (hx y rfl)⟩

theorem RRel.mapEval {a a' : Act} (ha : ActRel P ρ a a') {xs : Array Operand} (hx : ∀ y ∈ xs, okOperand y = true) : RRel P ρ (xs.map a.eval) (xs.map a'.eval) := by
  refine ⟨by simp, fun i u u' hu hu' => ?_⟩
  simp only [Array.getElem?_map, Option.map_eq_some_iff] at hu hu'
  obtain ⟨y, hy, rfl⟩ := hu
  obtain ⟨y', hy', rfl⟩ := hu'
  rw [hy] at hy'; cases hy'
  exact ha.eval (hx y (Array.mem_of_getElem? hy))

theorem PRel.mapEval {a a' : Act} (ha : ActRel P ρ a a') {xs : Array (Nat × Operand)} (hx : ∀ p ∈ xs, okOperand p.2 = true) :
    PRel P ρ (xs.map fun p => (p.1, a.eval p.2)).toList (xs.map fun p => (p.1, a'.eval p.2)).toList := by
  refine ⟨by simp, fun i u u' hu hu' => ?_⟩
  simp only [Array.getElem?_toList, Array.getElem?_map, Option.map_eq_some_iff] at hu hu'
  obtain ⟨y, hy, rfl⟩ := hu
  obtain ⟨y', hy', rfl⟩ := hu'
  rw [hy] at hy'; cases hy'
  exact ⟨rfl, ha.eval (hx y (Array.mem_of_getElem? hy))⟩

theorem appendCall {h : H} {w : World} (hs : Sim P ρ h w) {ts : Array TypeId} {ty : TypeId} {xs xs' : Array Value} (hx : RRel P ρ xs xs') {v : Value} {h1 : H} (hr : aappend P ts xs h = some (v, h1)) :
    Does P ρ h w v h1 (Builtin.append_ ts ty xs') := by
  unfold aappend at hr
  split at hr
  case h_2 => cases hr
  rename_i t u s x hts hxs
  have hts' : ts = #[t, u] := Array.ext' (by simpa using hts)
  have hxs' : xs = #[s, x] := Array.ext' (by simpa using hxs)
  subst hts'; subst hxs'
  have hx' : ∃ s' x', xs' = #[s', x'] ∧ VRel P ρ s s' ∧ VRel P ρ x x' := by
    have h2 : xs'.size = 2 := hx.1.symm
    refine ⟨xs'[0], xs'[1], ?_, hx.2 0 _ _ rfl (Array.getElem?_eq_getElem (by omega)), hx.2 1 _ _ rfl (Array.getElem?_eq_getElem (by omega))⟩
    apply Array.ext
    · simpa using h2
    · intro i h1 h3
      match i with
      | 0 => rfl
      | 1 => rfl
      | i + 2 => simp at h3; omega
  obtain ⟨s', x', rfl, h1', h2'⟩ := hx'
  split at hr
  case h_2 => cases hr
  rename_i e ht
  split at hr
  case h_2 => cases hr
  rename_i i z he
  split at hr
  case h_2 => cases hr
  rename_i m news hsrc
  obtain ⟨news', g1, g2, g3, g4⟩ := asrc_src he hs h2' hsrc
  exact appendTo_does hs h1' ht he g1 g2 g3 g4 hr

theorem RRel.single {xs' : Array Value} {x : Value} (h : RRel P ρ #[x] xs') : ∃ x', xs' = #[x'] ∧ VRel P ρ x x' := by
  have h2 : xs'.size = 1 := h.1.symm
  refine ⟨xs'[0], ?_, h.2 0 _ _ rfl (Array.getElem?_eq_getElem (by omega))⟩
  apply Array.ext
  · simpa using h2
  · intro i h1 h3
    match i with
    | 0 => rfl
    | i + 1 => simp at h3

theorem RRel.pair {xs' : Array Value} {x y : Value} (h : RRel P ρ #[x, y] xs') : ∃ x' y', xs' = #[x', y'] ∧ VRel P ρ x x' ∧ VRel P ρ y y' := by
  have h2 : xs'.size = 2 := h.1.symm
  refine ⟨xs'[0], xs'[1], ?_, h.2 0 _ _ rfl (Array.getElem?_eq_getElem (by omega)), h.2 1 _ _ rfl (Array.getElem?_eq_getElem (by omega))⟩
  apply Array.ext
  · simpa using h2
  · intro i h1 h3
    match i with
    | 0 => rfl
    | 1 => rfl
    | i + 2 => simp at h3; omega

theorem acall_does {a a' : Act} {o : Oper} {c : Call} {h : H} {w : World} (hs : Sim P ρ h w) (ha : ActRel P ρ a a') (hok : ∀ y ∈ c.operands, okOperand y = true) (hop : o.op = .call c) {r : AStep} (hr : acall P a o c h = some r) :
    OpDoes P ρ h w r (execOp a'.eval o) := by
  have hargs : ∀ y ∈ c.args, okOperand y = true := fun y hy => hok y (Array.mem_append.2 (.inr hy))
  have hrel := RRel.mapEval ha hargs
  have hexec : execOp a'.eval o = (do let d ← resolve a'.eval c o.type; invoke d.target d.args) := by unfold execOp; rw [hop]
  rw [hexec]
  unfold acall at hr
  split at hr
  · -- append
    rename_i hc
    simp only [vals, Option.map_eq_some_iff] at hr
    obtain ⟨⟨v, h1⟩, hr, rfl⟩ := hr
    simp only [resolve, hc, pure_bind, invoke, builtin]
    exact OpDoes.ofDoes (appendCall hs hrel hr)
  · -- len
    rename_i hc
    split at hr
    case h_2 => cases hr
    rename_i t x ht hx
    replace ht : c.argTypes = #[t] := Array.ext' (by simpa using ht)
    replace hx : c.args.map a.eval = #[x] := Array.ext' (by simpa using hx)
    rw [hx] at hrel
    obtain ⟨x', hx', hxr⟩ := hrel.single
    split at hr
    case isFalse => cases hr
    rename_i hle
    simp only [resolve, hc, pure_bind, invoke, builtin, ht, hx']
    exact OpDoes.ofSV hs (SV.len t o.type hle hxr) hr
  · -- copy
    rename_i hc
    split at hr
    case h_2 => cases hr
    rename_i t u x y ht hx
    replace ht : c.argTypes = #[t, u] := Array.ext' (by simpa using ht)
    replace hx : c.args.map a.eval = #[x, y] := Array.ext' (by simpa using hx)
    rw [hx] at hrel
    obtain ⟨x', y', hx', hxr, hyr⟩ := hrel.pair
    simp only [resolve, hc, pure_bind, invoke, builtin, ht, hx']
    exact OpDoes.ofSV hs (SV.copy t o.type u hxr hyr) hr
  · -- clear
    rename_i hc
    split at hr
    case h_2 => cases hr
    rename_i t x ht hx
    replace ht : c.argTypes = #[t] := Array.ext' (by simpa using ht)
    replace hx : c.args.map a.eval = #[x] := Array.ext' (by simpa using hx)
    rw [hx] at hrel
    obtain ⟨x', hx', hxr⟩ := hrel.single
    split at hr
    case isFalse => cases hr
    rename_i hcond
    simp only [resolve, hc, pure_bind, invoke, builtin, ht, hx']
    refine OpDoes.ofSV hs (SV.clear t o.type ?_ ?_ hxr) hr
    · intro r hr'
      rw [hr'] at hcond
      simp [isSlice] at hcond
    · intro e he
      have := hcond.1
      unfold sliceZok at this
      rw [he] at this
      exact this
  · -- delete
    rename_i hc
    split at hr
    case h_2 => cases hr
    rename_i t u x y ht hx
    replace ht : c.argTypes = #[t, u] := Array.ext' (by simpa using ht)
    replace hx : c.args.map a.eval = #[x, y] := Array.ext' (by simpa using hx)
    rw [hx] at hrel
    obtain ⟨x', y', hx', hxr, hyr⟩ := hrel.pair
    split at hr
    case isFalse => cases hr
    rename_i hcond
    simp only [resolve, hc, pure_bind, invoke, builtin, ht, hx']
    exact OpDoes.ofSV hs (SV.delete t u o.type hxr hcond hyr) hr
  · -- a function
    rename_i f hc
    have hf : okOperand f = true := hok f (by unfold Call.operands; rw [hc]; simp)
    have hfv := ha.eval hf
    split at hr
    case h_2 => cases hr
    rename_i g first cap hfe
    rw [hfe] at hfv
    obtain ⟨first', cap', hfe', hfr, hcr⟩ : ∃ first' cap', a'.eval f = .func (.func g) first' cap' ∧ RRel P ρ first first' ∧ RRel P ρ cap cap' := by
      cases hfv2 : a'.eval f <;> rw [hfv2] at hfv <;> cases hfv
      rename_i h1 h2 h3 h4 h5
      exact ⟨_, _, rfl, ⟨h2, h3⟩, ⟨h4, h5⟩⟩
    have hall : RRel P ρ (first ++ c.args.map a.eval ++ cap) (first' ++ c.args.map a'.eval ++ cap') := (hfr.append hrel).append hcr
    have hinv : (do let d ← resolve a'.eval c o.type; invoke d.target d.args) = callFunc g (first' ++ c.args.map a'.eval ++ cap') := by
      simp only [resolve, hc, Deferred.ofValue, hfe', pure_bind, invoke]
    rw [hinv]
    split at hr
    case h_2 => cases hr
    rename_i fn hfn
    split at hr
    · rename_i hbody
      split at hr
      case isFalse => cases hr
      rename_i hname
      cases hr
      refine ⟨_, w, ρ, ?_, .refl _ _ _, hs, hall⟩
      have hb : fn.body.isNone = false := by simpa [Option.isNone_iff_eq_none, Option.isSome_iff_ne_none] using hbody
      have hn : (fn.name == "runtime.NumGoroutine") = false := by simpa using hname
      simp only [callFunc, Sem.run_bind, run_program, Result.andThen_ok, hfn, hn, hb]
      rfl
    · split at hr
      case isFalse => cases hr
      rename_i hflat
      split at hr
      case h_2 => cases hr
      rename_i v hp
      split at hr
      case isFalse => cases hr
      rename_i hfv'
      cases hr
      have heq : first' ++ c.args.map a'.eval ++ cap' = first ++ c.args.map a.eval ++ cap := by
        apply Array.ext
        · exact hall.1.symm
        · intro i h1 h2
          exact flat_eq (Array.all_eq_true.1 hflat i h2) (hall.2 i _ _ (Array.getElem?_eq_getElem h2) (Array.getElem?_eq_getElem h1))
      rw [heq]
      exact ⟨v, w, ρ, .inl (prun_run _ _ hp w), .refl _ _ _, hs, flat_rel hfv'⟩
  · cases hr


theorem aop_does {a a' : Act} {o : Oper} {h : H} {w : World} (hs : Sim P ρ h w) (ha : ActRel P ρ a a') {r : AStep} (hr : aop P a o h = some r) : OpDoes P ρ h w r (execOp a'.eval o) := by
  unfold aop at hr
  split at hr
  case isFalse => cases hr
  rename_i hok
  have hmem : ∀ y ∈ o.op.operands, okOperand y = true := fun y hy => by
    obtain ⟨i, hi, rfl⟩ := Array.getElem_of_mem hy
    exact Array.all_eq_true.1 hok i hi
  have e0 : execOp a'.eval o = execOp a'.eval o := rfl
  generalize hO : o.op = op at hr hmem
  have ev : ∀ {x : Operand}, x ∈ op.operands → VRel P ρ (a.eval x) (a'.eval x) := fun hx => ha.eval (hmem _ hx)
  have flatCase : ∀ {r : AStep}, flatStep P a o h = some r → (∀ cs b, op ≠ .select cs b) → OpDoes P ρ h w r (execOp a'.eval o) := fun hr hsel =>
    flatStep_does hs ha hok (fun cs b e => hsel cs b (hO ▸ e)) hr
  cases op with
  | move x =>
    cases hr
    refine ⟨a'.eval x, w, ρ, .inl ?_, .refl _ _ _, hs, ev (by simp [Op.operands])⟩
    unfold execOp; rw [hO]; rfl
  | assign x =>
    cases hr
    refine ⟨a'.eval x, w, ρ, .inl ?_, .refl _ _ _, hs, ev (by simp [Op.operands])⟩
    unfold execOp; rw [hO]; rfl
  | pick c x y =>
    dsimp only at hr
    split at hr
    case h_2 => cases hr
    rename_i b hb
    cases hr
    have hc := ev (x := c) (by simp [Op.operands])
    rw [hb] at hc
    have hc' : a'.eval c = .bool b := by
      generalize a'.eval c = v at hc
      cases hc; rfl
    refine ⟨if b = true then a'.eval x else a'.eval y, w, ρ, .inl ?_, .refl _ _ _, hs, ?_⟩
    · unfold execOp; rw [hO]; simp only [hc', asBool, pure_bind]; rfl
    · cases b
      · exact ev (by simp [Op.operands])
      · exact ev (by simp [Op.operands])
  | alloc e =>
    dsimp only at hr
    split at hr
    case isFalse => cases hr
    rename_i hz
    have := OpDoes.ofSV hs (SV.alloc hz) hr
    unfold execOp; rw [hO]; exact this
  | box e x =>
    have := OpDoes.ofSV hs (SV.box e (ev (x := x) (by simp [Op.operands]))) hr
    unfold execOp; rw [hO]; exact this
  | build t parts =>
    dsimp only at hr
    split at hr
    case isFalse => cases hr
    rename_i hz
    have hp : ∀ p ∈ parts, okOperand p.2 = true := fun p hp => hmem _ (by
      simp only [Op.operands, List.mem_toArray, List.mem_map]
      exact ⟨p, by simpa using hp, rfl⟩)
    have := OpDoes.ofSV hs (SV.build t hz (PRel.mapEval ha hp)) hr
    unfold execOp; rw [hO]; exact this
  | buildSlice t n parts =>
    dsimp only at hr
    split at hr
    case isFalse => cases hr
    rename_i hz
    have hp : ∀ p ∈ parts, okOperand p.2 = true := fun p hp => hmem _ (by
      simp only [Op.operands, List.mem_toArray, List.mem_map]
      exact ⟨p, by simpa using hp, rfl⟩)
    have hz' : ∀ e, P.underlying t = some (.slice e) → zok P e = true := fun e he => by
      have := hz.1; unfold sliceZok at this; rw [he] at this; exact this
    have := OpDoes.ofSV hs (SV.buildSlice t n hz' hz.2 (PRel.mapEval ha hp)) hr
    unfold execOp; rw [hO]; exact this
  | load t x =>
    have := OpDoes.ofSV hs (SV.loadAt t (ev (x := x) (by simp [Op.operands]))) hr
    unfold execOp; rw [hO]; exact this
  | store t x y =>
    have := OpDoes.ofUnit hs (SR.storeAt t (ev (x := x) (by simp [Op.operands])) (ev (x := y) (by simp [Op.operands]))) hr
    unfold execOp; rw [hO]; exact this
  | nilCheck x =>
    dsimp only at hr
    split at hr
    case h_2 => cases hr
    rename_i ad hb
    cases hr
    have hc := ev (x := x) (by simp [Op.operands])
    rw [hb] at hc
    obtain ⟨ad', hc'⟩ : ∃ ad', a'.eval x = .pointer (some ad') := by
      generalize a'.eval x = v at hc
      cases hc; exact ⟨_, rfl⟩
    refine ⟨a'.eval x, w, ρ, .inl ?_, .refl _ _ _, hs, hc⟩
    unfold execOp; rw [hO]; simp only [hc']; rfl
  | binOp op t x y ty =>
    dsimp only at hr
    split at hr
    · rename_i hn
      have := OpDoes.ofSV hs (SV.nilEq (x := x) (y := y) (t := t) hn.1 hn.2 (ev (x := x) (by simp [Op.operands])) (ev (x := y) (by simp [Op.operands]))) hr
      unfold execOp; rw [hO]; exact this
    · exact flatCase hr (by intro cs b e; cases e)
  | makeInterface t x =>
    have hx := ev (x := x) (by simp [Op.operands])
    have hsv : SV P ρ (Instr.makeInterface t (a.eval x)) (Instr.makeInterface t (a'.eval x)) := by
      unfold Instr.makeInterface
      refine SR.bind (SR.underlying t) fun ρ1 d d' hl hd => ?_
      obtain ⟨rfl, _⟩ := hd
      split
      · exact SR.stuck
      · exact SR.pure fun _ hl2 => .iface ((hx.mono hl).mono hl2)
    have := OpDoes.ofSV hs hsv hr
    unfold execOp; rw [hO]; exact this
  | makeFunc fn first cap =>
    dsimp only at hr
    split at hr
    case h_2 => cases hr
    rename_i f
    cases hr
    have h1 : ∀ y ∈ first, okOperand y = true := fun y hy => hmem y (Array.mem_append.2 (.inl hy))
    have h2 : ∀ y ∈ cap, okOperand y = true := fun y hy => hmem y (Array.mem_append.2 (.inr hy))
    have r1 := RRel.mapEval ha h1
    have r2 := RRel.mapEval ha h2
    refine ⟨.func (.func f) (first.map a'.eval) (cap.map a'.eval), w, ρ, .inl ?_, .refl _ _ _, hs, .func (by intro l e; cases e) r1.1 r1.2 r2.1 r2.2⟩
    unfold execOp; rw [hO]; rfl
  | makeMap t r0 =>
    cases r0 with
    | some x => exact flatCase hr (by intro cs b e; cases e)
    | none =>
      have hsv : SV P ρ (Instr.makeMap t none) (Instr.makeMap t none) := by
        unfold Instr.makeMap
        intro ρ1 h0 w0 hl hs0 v h1 hrun
        simp only [arun_bind, newObj, arun, plainObj, if_true, Option.bind_some, arun_pure, Option.some.injEq, Prod.mk.injEq] at hrun
        obtain ⟨rfl, rfl⟩ := hrun
        obtain ⟨g1, g2⟩ := hs0.push (.map #[] 0) (.map #[] 0) ⟨w0.heap.size, 0, false, 0, 0⟩ rfl ⟨rfl, rfl, rfl, rfl, fun j m m' h => by simp at h⟩
        exact ⟨.map (some w0.heap.size), w0.alloc (.map #[] 0), _, by simp, g2, g1, .map (.inr ⟨_, Ren.set_same _ _ _, rfl⟩)⟩
      have := OpDoes.ofSV hs hsv hr
      unfold execOp; rw [hO]; exact this
  | makeSlice t l c =>
    dsimp only at hr
    split at hr
    case isFalse => cases hr
    rename_i hz
    have hz' : ∀ e, P.underlying t = some (.slice e) → zok P e = true := fun e he => by
      unfold sliceZok at hz; rw [he] at hz; exact hz
    have := OpDoes.ofSV hs (SV.makeSlice t hz' (ev (x := l) (by simp [Op.operands])) (ev (x := c) (by simp [Op.operands]))) hr
    unfold execOp; rw [hO]; exact this
  | slice t x lo hi mx =>
    dsimp only at hr
    split at hr
    case isFalse => cases hr
    rename_i hst
    have hx := ev (x := x) (by simp [Op.operands])
    have hlo : ORl P ρ (lo.map a.eval) (lo.map a'.eval) := ORl.of ha fun y hy => hmem y (by subst hy; simp [Op.operands])
    have hhi : ORl P ρ (hi.map a.eval) (hi.map a'.eval) := ORl.of ha fun y hy => hmem y (by subst hy; simp [Op.operands])
    have hmx : ORl P ρ (mx.map a.eval) (mx.map a'.eval) := ORl.of ha fun y hy => hmem y (by subst hy; simp [Op.operands])
    have hsame : ∀ v, Instr.sliceAt t v (lo.map a'.eval) (hi.map a'.eval) (mx.map a'.eval) = Instr.sliceAt t v (lo.map a'.eval) (hi.map a'.eval) (mx.map a'.eval) := fun _ => rfl
    have hrun : ∀ v w, (Instr.sliceAt t v (lo.map a'.eval) (hi.map a'.eval) (mx.map a'.eval)).run P w = (Instr.slice t v (lo.map a'.eval) (hi.map a'.eval) (mx.map a'.eval)).run P w := by
      intro v w
      unfold Instr.sliceAt
      simp only [Sem.run_bind, run_underlying']
      unfold strSlice at hst
      cases hd : P.underlying t with
      | none => rw [hd] at hst; simp at hst
      | some d =>
        rw [hd] at hst
        simp only [Result.andThen_ok]
        cases d <;> first | rfl | (simp at hst; done)
    have fin : ∀ {r : AStep}, OpDoes P ρ h w r (do Pure.pure (.value (← Instr.slice t (a'.eval x) (lo.map a'.eval) (hi.map a'.eval) (mx.map a'.eval)))) → OpDoes P ρ h w r (execOp a'.eval o) := by
      intro r hd
      have hex : (execOp a'.eval o).run P w = (do Pure.pure (.value (← Instr.slice t (a'.eval x) (lo.map a'.eval) (hi.map a'.eval) (mx.map a'.eval))) : Sem Next).run P w := by
        unfold execOp; rw [hO]
        simp only [Sem.run_bind, hrun]
      unfold OpDoes at hd ⊢
      rw [hex]; exact hd
    have hst' : (match P.underlying t with | some .string | some (.slice _) => true | _ => false) = true := hst
    split at hr
    · rename_i ad n c hxe
      split at hr
      · rename_i hc
        subst hc
        rw [hxe] at hx
        obtain ⟨v', hx'⟩ : ∃ v', a'.eval x = v' := ⟨_, rfl⟩
        rw [hx'] at hx
        cases hx with
        | slc hlt _ _ => exact absurd hlt (Nat.lt_irrefl _)
        | @opn _ ad' _ c' ho =>
          simp only [Option.map_eq_some_iff] at hr
          obtain ⟨v, hv, rfl⟩ := hr
          apply fin
          rw [hx']
          exact OpDoes.ofDoes (aslice_does hs ho hlo hhi hmx hv)
      · rename_i hc
        apply fin
        rw [hxe] at hx
        exact OpDoes.ofSV hs (SV.slice t hst' (by simp [shut, hc]) hx hlo hhi hmx) hr
    · rename_i v hne
      apply fin
      refine OpDoes.ofSV hs (SV.slice t hst' ?_ hx hlo hhi hmx) hr
      cases hv : a.eval x with
      | slice ad n c =>
        cases ad with
        | some ad => exact absurd hv (hne ad n c)
        | none => rfl
      | _ => rfl
  | fieldAddr t x f =>
    have := OpDoes.ofSV hs (SV.fieldAt t f (ev (x := x) (by simp [Op.operands]))) hr
    unfold execOp; rw [hO]; exact this
  | field t x f =>
    have := OpDoes.ofSV hs (SV.field t f (ev (x := x) (by simp [Op.operands]))) hr
    unfold execOp; rw [hO]; exact this
  | indexAddr t x i =>
    have := OpDoes.ofSV hs (SV.indexAt t (ev (x := x) (by simp [Op.operands])) (ev (x := i) (by simp [Op.operands]))) hr
    unfold execOp; rw [hO]; exact this
  | index t x i =>
    have := OpDoes.ofSV hs (SV.index t (ev (x := x) (by simp [Op.operands])) (ev (x := i) (by simp [Op.operands]))) hr
    unfold execOp; rw [hO]; exact this
  | lookup t x k ok =>
    dsimp only at hr
    split at hr
    case isFalse => cases hr
    rename_i hz
    have hz' : ∀ c e, P.underlying t = some (.map c e) → zok P e = true := fun c e he => by
      have := hz.1; unfold mapZok at this; rw [he] at this; exact this
    have := OpDoes.ofSV hs (SV.lookup t ok hz' (ev (x := x) (by simp [Op.operands])) hz.2 (ev (x := k) (by simp [Op.operands]))) hr
    unfold execOp; rw [hO]; exact this
  | mapUpdate t m k x =>
    dsimp only at hr
    split at hr
    case isFalse => cases hr
    rename_i hk
    have := OpDoes.ofUnit hs (SR.mapUpdate t (ev (x := m) (by simp [Op.operands])) hk (ev (x := k) (by simp [Op.operands])) (ev (x := x) (by simp [Op.operands]))) hr
    unfold execOp; rw [hO]; exact this
  | insert t m k x =>
    dsimp only at hr
    split at hr
    case isFalse => cases hr
    rename_i hk
    have := OpDoes.ofUnit hs (SR.mapUpdate t (ev (x := m) (by simp [Op.operands])) hk (ev (x := k) (by simp [Op.operands])) (ev (x := x) (by simp [Op.operands]))) hr
    unfold execOp; rw [hO]; exact this
  | mapEntry t m k =>
    dsimp only at hr
    split at hr
    case isFalse => cases hr
    rename_i hz
    have hz' : ∀ c e, P.underlying t = some (.map c e) → zok P e = true := fun c e he => by
      have := hz.1; unfold mapZok at this; rw [he] at this; exact this
    have := OpDoes.ofSV hs (SV.mapEntry t hz' (ev (x := m) (by simp [Op.operands])) hz.2 (ev (x := k) (by simp [Op.operands]))) hr
    unfold execOp; rw [hO]; exact this
  | entryStore t m s x =>
    have := OpDoes.ofUnit hs (SR.entryStore t (ev (x := m) (by simp [Op.operands])) (ev (x := s) (by simp [Op.operands])) (ev (x := x) (by simp [Op.operands]))) hr
    unfold execOp; rw [hO]; exact this
  | extract t i =>
    have := OpDoes.ofSV hs (SV.extract i (ev (x := t) (by simp [Op.operands]))) hr
    unfold execOp; rw [hO]; exact this
  | call c =>
    dsimp only at hr
    split at hr
    · rename_i r1 hr1
      cases hr
      exact acall_does hs ha (fun y hy => hmem y hy) hO hr1
    · exact flatCase hr (by intro cs b e; cases e)
  | select cs b =>
    cases hr
  | _ => exact flatCase hr (by intro cs b e; cases e)

end Go.Abs
