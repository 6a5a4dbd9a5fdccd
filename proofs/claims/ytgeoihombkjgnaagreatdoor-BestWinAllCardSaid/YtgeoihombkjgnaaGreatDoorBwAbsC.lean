/-
The abstract heap: programs of the model's memory that run alike on both sides.
-/
import Derived.Test.YtgeoihombkjgnaaGreatDoorBwAbsB
namespace Go.Abs
open Go
variable {P : Program} {α β γ δ : Type}

theorem arun_bind' (s : Sem α) (f : α → Sem β) (h : H) :
    arun P (s.bind f) h = (arun P s h).bind fun x => arun P (f x.1) x.2 := by
  induction s generalizing h with
  | pure a => simp [Sem.bind, arun]
  | load m a k ih =>
    simp only [Sem.bind, arun]
    split
    · split <;> simp [ih]
    · simp
  | store m a v k ih =>
    simp only [Sem.bind, arun]
    split <;> simp [ih]
  | new o k ih =>
    simp only [Sem.bind, arun]
    split
    · simp [ih]
    · split
      · split <;> simp [ih]
      · simp
  | getObj r k ih =>
    simp only [Sem.bind, arun]
    split
    · split <;> simp [ih]
    · simp
  | setObj r o k ih =>
    simp only [Sem.bind, arun]
    split
    · split <;> simp [ih]
    · simp
  | program k ih => simp [Sem.bind, arun, ih]
  | mark m k ih =>
    simp only [Sem.bind, arun]
    split <;> simp [ih]
  | shape r k ih => simp [Sem.bind, arun]
  | freeze a n k ih => simp [Sem.bind, arun]
  | frozen a k ih => simp [Sem.bind, arun]
  | choose q k ih => simp [Sem.bind, arun]
  | sys c k ih => simp [Sem.bind, arun]
  | halt h => simp [Sem.bind, arun]

@[simp] theorem arun_bind (s : Sem α) (f : α → Sem β) (h : H) :
    arun P (s >>= f) h = (arun P s h).bind fun x => arun P (f x.1) x.2 := arun_bind' s f h
@[simp] theorem arun_pure (a : α) (h : H) : arun P (Pure.pure a : Sem α) h = some (a, h) := rfl
@[simp] theorem arun_map (s : Sem α) (f : α → β) (h : H) : arun P (f <$> s) h = (arun P s h).bind fun x => some (f x.1, x.2) := arun_bind' s _ h
@[simp] theorem arun_stuck (s : String) (h : H) : arun P (stuck s : Sem α) h = none := rfl
@[simp] theorem arun_unsupported (u : Unsupported) (h : H) : arun P (unsupported u : Sem α) h = none := rfl
@[simp] theorem arun_goPanic (v : Value) (h : H) : arun P (goPanic v : Sem α) h = none := rfl
@[simp] theorem arun_program (h : H) : arun P program h = some (P, h) := rfl
@[simp] theorem arun_choose (q : Question) (h : H) : arun P (choose q) h = none := rfl
@[simp] theorem arun_ite (c : Prop) [Decidable c] (x y : Sem α) (h : H) : arun P (if c then x else y) h = if c then arun P x h else arun P y h := by split <;> rfl
@[simp] theorem arun_shape (r : Nat) (h : H) : arun P (shape r) h = none := rfl
@[simp] theorem arun_frozen (a : Addr) (h : H) : arun P (frozen a) h = none := rfl
@[simp] theorem arun_load (a : Addr) (h : H) : arun P (load a) h = (cell? h a).map fun v => (v, h) := by
  simp only [load, arun, if_true]
  cases cell? h a <;> rfl
@[simp] theorem arun_store (a : Addr) (v : Value) (h : H) : arun P (store a v) h = if v.oneCell' = true ∧ free h a = true then some ((), setCell h a v) else none := by
  simp only [store, arun, true_and]
@[simp] theorem arun_underlying (t : TypeId) (h : H) : arun P (underlying t) h = (P.underlying t).map fun d => (d, h) := by
  simp only [underlying, arun_bind, arun_program, Option.bind_some]
  cases P.underlying t <;> rfl
@[simp] theorem arun_typeInfo (t : TypeId) (h : H) : arun P (typeInfo t) h = (P.info? t).map fun d => (d, h) := by
  simp only [typeInfo, arun_bind, arun_program, Option.bind_some]
  cases P.info? t <;> rfl
@[simp] theorem arun_sizeOf (t : TypeId) (h : H) : arun P (sizeOf t) h = (P.info? t).map fun d => (d.size, h) := by
  simp only [sizeOf, arun_bind, arun_typeInfo]
  cases P.info? t <;> rfl
@[simp] theorem arun_zeroValue (t : TypeId) (h : H) : arun P (zeroValue t) h = ((P.info? t).bind (·.zero)).map fun v => (v, h) := by
  simp only [zeroValue, arun_bind, arun_typeInfo]
  cases P.info? t with
  | none => rfl
  | some i => simp only [Option.map_some, Option.bind_some]; cases i.zero <;> rfl
theorem arun_askRoom_some {n : Nat} {h h1 : H} {u : Unit} (hr : arun P (askRoom n) h = some (u, h1)) : h1 = h := by
  unfold askRoom at hr
  split at hr
  · simp [mark, arun] at hr
  · simp at hr; exact hr.symm

theorem run_typeInfo' (w : World) (t : TypeId) : (typeInfo t).run P w = match P.info? t with | some i => .ok i w | none => .halt (.stuck "no such type") w := by
  simp only [typeInfo, Sem.run_bind, run_program, Result.andThen_ok]
  cases P.info? t <;> rfl
theorem run_underlying' (w : World) (t : TypeId) : (underlying t).run P w = match P.underlying t with | some i => .ok i w | none => .halt (.stuck "no such type") w := by
  simp only [underlying, Sem.run_bind, run_program, Result.andThen_ok]
  cases P.underlying t <;> rfl

/-- Both run alike, from here on. -/
def SR (P : Program) (ρ : Ren) (R : Ren → α → β → Prop) (s : Sem α) (s' : Sem β) : Prop :=
  ∀ ρ1 h w, Ren.Le ρ ρ1 → Sim P ρ1 h w → ∀ a h1, arun P s h = some (a, h1) →
    ∃ b w1 ρ2, s'.run P w = .ok b w1 ∧ Later ρ1 h w ρ2 h1 w1 ∧ Sim P ρ2 h1 w1 ∧ R ρ2 a b

abbrev SV (P : Program) (ρ : Ren) (s s' : Sem Value) : Prop := SR P ρ (fun ρ => VRel P ρ) s s'
/-- The same thing on both sides. -/
def Eqs : Ren → α → α → Prop := fun _ a b => a = b
def Tops : Ren → α → β → Prop := fun _ _ _ => True

theorem SR.mono {ρ : Ren} {R R' : Ren → α → β → Prop} {s : Sem α} {s' : Sem β} (h : SR P ρ R s s') (hr : ∀ ρ1 a b, Ren.Le ρ ρ1 → R ρ1 a b → R' ρ1 a b) : SR P ρ R' s s' := by
  intro ρ1 h0 w hl hs a h1 ha
  obtain ⟨b, w1, ρ2, h2, h3, h4, h5⟩ := h ρ1 h0 w hl hs a h1 ha
  exact ⟨b, w1, ρ2, h2, h3, h4, hr _ _ _ (hl.trans h3.le) h5⟩

theorem SR.pure {ρ : Ren} {R : Ren → α → β → Prop} {a : α} {b : β} (h : ∀ ρ1, Ren.Le ρ ρ1 → R ρ1 a b) : SR P ρ R (Pure.pure a) (Pure.pure b) := by
  intro ρ1 h0 w hl hs x h1 hx
  simp only [arun_pure, Option.some.injEq, Prod.mk.injEq] at hx
  obtain ⟨rfl, rfl⟩ := hx
  exact ⟨b, w, ρ1, rfl, .refl _ _ _, hs, h ρ1 hl⟩

theorem SR.bind {ρ : Ren} {R : Ren → α → β → Prop} {R' : Ren → γ → δ → Prop} {s : Sem α} {s' : Sem β} {f : α → Sem γ} {f' : β → Sem δ}
    (h : SR P ρ R s s') (hf : ∀ ρ1 a b, Ren.Le ρ ρ1 → R ρ1 a b → SR P ρ1 R' (f a) (f' b)) : SR P ρ R' (s >>= f) (s' >>= f') := by
  intro ρ1 h0 w hl hs x h1 hx
  simp only [arun_bind, Option.bind_eq_some_iff] at hx
  obtain ⟨⟨a, h2⟩, ha, hx⟩ := hx
  obtain ⟨b, w1, ρ2, e1, e2, e3, e4⟩ := h ρ1 h0 w hl hs a h2 ha
  obtain ⟨c, w2, ρ3, g1, g2, g3, g4⟩ := hf ρ2 a b (hl.trans e2.le) e4 ρ2 h2 w1 (.refl _) e3 x h1 hx
  exact ⟨c, w2, ρ3, by simp [e1, g1], e2.trans g2, g3, g4⟩

theorem SR.fail {ρ : Ren} {R : Ren → α → β → Prop} {s : Sem α} {s' : Sem β} (h : ∀ h0, arun P s h0 = none) : SR P ρ R s s' := by
  intro ρ1 h0 w _ _ a h1 ha
  rw [h] at ha; cases ha

theorem SR.stuck {ρ : Ren} {R : Ren → α → β → Prop} {m : String} {s' : Sem β} : SR P ρ R (stuck m) s' := SR.fail fun _ => rfl
theorem SR.unsupported {ρ : Ren} {R : Ren → α → β → Prop} {m : Unsupported} {s' : Sem β} : SR P ρ R (unsupported m) s' := SR.fail fun _ => rfl

/-- A program that asks nothing of memory. -/
theorem SR.still {ρ : Ren} {s : Sem α} (r : Option α) (ha : ∀ h, arun P s h = r.map fun x => (x, h)) (hw : ∀ a, r = some a → ∀ w, s.run P w = .ok a w) :
    SR P ρ (fun _ a b => a = b ∧ r = some a) s s := by
  intro ρ1 h0 w _ hs a h1 hx
  rw [ha] at hx
  cases r with
  | none => cases hx
  | some x =>
    simp only [Option.map_some, Option.some.injEq, Prod.mk.injEq] at hx
    obtain ⟨rfl, rfl⟩ := hx
    exact ⟨x, w, ρ1, hw x rfl w, .refl _ _ _, hs, rfl, rfl⟩

theorem SR.underlying {ρ : Ren} (t : TypeId) : SR P ρ (fun _ a b => a = b ∧ P.underlying t = some a) (Go.underlying t) (Go.underlying t) :=
  SR.still _ (fun h => arun_underlying t h) fun a h w => by rw [run_underlying', h]
theorem SR.typeInfo {ρ : Ren} (t : TypeId) : SR P ρ (fun _ a b => a = b ∧ P.info? t = some a) (Go.typeInfo t) (Go.typeInfo t) :=
  SR.still _ (fun h => arun_typeInfo t h) fun a h w => by rw [run_typeInfo', h]
theorem SR.sizeOf {ρ : Ren} (t : TypeId) : SR P ρ (fun _ a b => a = b ∧ (P.info? t).map (·.size) = some a) (Go.sizeOf t) (Go.sizeOf t) :=
  SR.still _ (fun h => by rw [arun_sizeOf]; cases P.info? t <;> rfl) fun a h w => by
    simp only [Go.sizeOf, Sem.run_bind, run_typeInfo']
    cases hi : P.info? t with
    | none => rw [hi] at h; cases h
    | some i => rw [hi] at h; cases h; rfl
theorem SR.zeroValue {ρ : Ren} (t : TypeId) : SR P ρ (fun _ a b => a = b ∧ (P.info? t).bind (·.zero) = some a) (Go.zeroValue t) (Go.zeroValue t) :=
  SR.still _ (fun h => by rw [arun_zeroValue]) fun a h w => by
    simp only [Go.zeroValue, Sem.run_bind, run_typeInfo']
    cases hi : P.info? t with
    | none => rw [hi] at h; cases h
    | some i =>
      rw [hi] at h
      simp only [Option.bind_some] at h
      simp only [Result.andThen_ok, h]
      rfl
theorem SR.isAgg {ρ : Ren} (t : TypeId) : SR P ρ (fun _ a b => a = b) (Go.isAgg t) (Go.isAgg t) := by
  unfold Go.isAgg
  refine SR.bind (SR.underlying t) fun ρ1 a b _ h => ?_
  obtain ⟨rfl, _⟩ := h
  split <;> exact SR.pure fun _ _ => rfl
theorem SR.askRoom {ρ : Ren} (n : Nat) : SR P ρ (fun _ _ _ => True) (Go.askRoom n) (Go.askRoom n) := by
  intro ρ1 h0 w _ hs a h1 hx
  obtain rfl := arun_askRoom_some hx
  exact ⟨(), w, ρ1, by simp, .refl _ _ _, hs, trivial⟩

theorem SR.load {ρ : Ren} {a a' : Addr} (ha : ARel ρ a a') : SR P ρ (fun ρ v v' => VRel P ρ v v' ∧ v.oneCell' = true) (Go.load a) (Go.load a') := by
  intro ρ1 h0 w hl hs v h1 hx
  rw [arun_load] at hx
  cases hc : cell? h0 a with
  | none => rw [hc] at hx; cases hx
  | some u =>
    rw [hc] at hx
    simp only [Option.map_some, Option.some.injEq, Prod.mk.injEq] at hx
    obtain ⟨rfl, rfl⟩ := hx
    obtain ⟨v', e1, e2, e3⟩ := hs.cell (ha.mono hl) hc
    exact ⟨v', w, ρ1, by simp [e1], .refl _ _ _, hs, e2, e3⟩

theorem SR.store {ρ : Ren} {a a' : Addr} {v v' : Value} (ha : ARel ρ a a') (hv : VRel P ρ v v') : SR P ρ (fun _ _ _ => True) (Go.store a v) (Go.store a' v') := by
  intro ρ1 h0 w hl hs u h1 hx
  rw [arun_store] at hx
  split at hx
  · rename_i hc
    simp only [Option.some.injEq, Prod.mk.injEq] at hx
    obtain ⟨-, rfl⟩ := hx
    obtain ⟨⟨u', e1⟩, e2, e3, e4⟩ := hs.setCell (ha.mono hl) hc.2 (hv.mono hl) hc.1
    refine ⟨(), w.setCell a' v', ρ1, ?_, e4, e3, trivial⟩
    have h1 : v'.oneCell' = true := by rw [hv.oneCell]; exact hc.1
    rw [run_store P w a' v' .plain h1]
    simp [e1, e2]
  · cases hx

theorem ARel.add {ρ : Ren} {a a' : Addr} (n : Nat) (h : ARel ρ a a') : ARel ρ (a.add n) (a'.add n) := by
  obtain ⟨hs, h | ⟨B, hB, rfl⟩⟩ := h
  · unfold Addr.add; split
    · exact ⟨hs, .inl h⟩
    · exact ⟨rfl, .inl h⟩
  · unfold Addr.add; split
    · exact ⟨hs, .inr ⟨B, hB, rfl⟩⟩
    · exact ⟨rfl, .inr ⟨B, hB, by simp; omega⟩⟩

theorem SR.loadCellsFrom {ρ : Ren} {a a' : Addr} (ha : ARel ρ a a') (n : Nat) : ∀ (i : Nat) (acc acc' : Array Value), RRel P ρ acc acc' → acc.all Value.oneCell' = true →
    SR P ρ (fun ρ x x' => RRel P ρ x x' ∧ x.all Value.oneCell' = true ∧ x.size = acc.size + n) (Go.loadCellsFrom a i n acc) (Go.loadCellsFrom a' i n acc') := by
  induction n generalizing ρ with
  | zero => intro i acc acc' h h1; exact SR.pure fun _ hl => ⟨h.mono hl, h1, rfl⟩
  | succ n ih =>
    intro i acc acc' h h1
    unfold Go.loadCellsFrom
    refine SR.bind (SR.load (ha.add i)) fun ρ1 v v' hl hv => ?_
    refine (ih (ha.mono hl) (i + 1) (acc.push v) (acc'.push v') ?_ ?_).mono ?_
    · refine ⟨by simp [h.1], fun j u u' hu hu' => ?_⟩
      rw [Array.getElem?_push] at hu hu'
      rw [← h.1] at hu'
      split at hu
      · cases hu
        rename_i e
        rw [if_pos e] at hu'; cases hu'; exact hv.1
      · rename_i e
        rw [if_neg e] at hu'; exact (h.2 j u u' hu hu').mono hl
    · simp [h1, hv.2]
    · rintro ρ2 x x' _ ⟨e1, e2, e3⟩
      exact ⟨e1, e2, by rw [e3]; simp; omega⟩

theorem RRel.empty (ρ : Ren) : RRel P ρ #[] #[] := ⟨rfl, fun i u u' h => by simp at h⟩

theorem SR.loadCells {ρ : Ren} {a a' : Addr} (ha : ARel ρ a a') (n : Nat) :
    SR P ρ (fun ρ x x' => RRel P ρ x x' ∧ x.all Value.oneCell' = true ∧ x.size = n) (Go.loadCells a n) (Go.loadCells a' n) :=
  (SR.loadCellsFrom ha n 0 #[] #[] (RRel.empty ρ) (by simp)).mono fun _ _ _ _ h => ⟨h.1, h.2.1, by rw [h.2.2]; simp⟩

theorem SR.storeCells {ρ : Ren} {a a' : Addr} (ha : ARel ρ a a') : ∀ (l l' : List Value) (i : Nat), RRel P ρ l.toArray l'.toArray →
    SR P ρ (fun _ _ _ => True) (Go.storeCells a l i) (Go.storeCells a' l' i) := by
  intro l
  induction l generalizing ρ with
  | nil =>
    intro l' i h
    have : l' = [] := List.eq_nil_of_length_eq_zero (by simpa using h.1.symm)
    subst this
    unfold Go.storeCells
    exact SR.pure fun _ _ => trivial
  | cons v l ih =>
    intro l' i h
    cases l' with
    | nil => have := h.1; simp at this
    | cons v' l' =>
      unfold Go.storeCells
      have h0 : VRel P ρ v v' := h.2 0 v v' (by simp) (by simp)
      refine SR.bind (SR.store (ha.add i) h0) fun ρ1 _ _ hl _ => ?_
      refine ih (ha.mono hl) l' (i + 1) ⟨?_, fun j u u' hu hu' => ?_⟩
      · have := h.1; simpa using this
      · exact (h.2 (j + 1) u u' (by simpa using hu) (by simpa using hu')).mono hl

theorem SV.loadVar {ρ : Ren} {a a' : Addr} (ha : ARel ρ a a') (t : TypeId) : SV P ρ (Go.loadVar t a) (Go.loadVar t a') := by
  unfold Go.loadVar
  refine SR.bind (SR.isAgg t) fun ρ1 b b' hl hb => ?_
  cases hb
  split
  · refine SR.bind (SR.sizeOf t) fun ρ2 n n' hl2 hn => ?_
    obtain ⟨rfl, _⟩ := hn
    refine SR.bind (SR.loadCells ((ha.mono hl).mono hl2) n) fun ρ3 x x' _ hx => ?_
    exact SR.pure fun _ hl4 => .agg (hx.1.mono hl4).1 (hx.1.mono hl4).2
  · exact (SR.load (ha.mono hl)).mono fun _ _ _ _ h => h.1

theorem VRel.cells {ρ : Ren} {v v' : Value} (h : VRel P ρ v v') : RRel P ρ v.cells v'.cells := by
  have one : ∀ {u u' : Value}, VRel P ρ u u' → RRel P ρ #[u] #[u'] := fun {u u'} h =>
    ⟨rfl, fun i x x' hx hx' => by
      cases i with
      | zero => simp at hx hx'; subst hx; subst hx'; exact h
      | succ i => simp at hx⟩
  cases h with
  | agg hs hx => exact ⟨hs, hx⟩
  | bool b => exact one (.bool b)
  | int k n => exact one (.int k n)
  | float k b => exact one (.float k b)
  | complex k a b => exact one (.complex k a b)
  | string s => exact one (.string s)
  | nilp => exact one .nilp
  | ptr h => exact one (.ptr h)
  | nils => exact one .nils
  | slc hc hn h => exact one (.slc hc hn h)
  | opn h => exact one (.opn h)
  | nilm => exact one .nilm
  | map h => exact one (.map h)
  | nilc => exact one .nilc
  | func hf hx h1 hy h2 => exact one (.func hf hx h1 hy h2)
  | yld h => exact one (.yld h)
  | nilFunc => exact one .nilFunc
  | iface h => exact one (.iface h)
  | nilIface => exact one .nilIface
  | tuple hx h => exact one (.tuple hx h)

theorem SR.storeVar {ρ : Ren} {a a' : Addr} {v v' : Value} (ha : ARel ρ a a') (hv : VRel P ρ v v') (t : TypeId) : SR P ρ (fun _ _ _ => True) (Go.storeVar t a v) (Go.storeVar t a' v') := by
  unfold Go.storeVar
  refine SR.bind (SR.sizeOf t) fun ρ1 n n' hl hn => ?_
  obtain ⟨rfl, _⟩ := hn
  rw [← (hv.cells).1]
  split
  · exact SR.bind SR.stuck fun ρ2 _ _ hl2 (h : False) => h.elim
  · have hc : RRel P ρ1 v.cells.toList.toArray v'.cells.toList.toArray := by
      rw [Array.toArray_toList, Array.toArray_toList]; exact (hv.mono hl).cells
    exact SR.storeCells (ha.mono hl) _ _ 0 hc

end Go.Abs
