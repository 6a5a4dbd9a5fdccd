/-
The abstract heap: steps whose results are left to counting.
-/
import Derived.Test.YtgeoihombkjgnaaGreatDoorBwAbsT
namespace Go.Abs
open Go
variable {P : Program} {Γ : Gl} {ρ : Ren} {α β : Type}

/-- Nobody is called. -/
def noCall : Caller := fun _ _ _ => Option.none

theorem noCall_ok : Callable P Γ noCall := fun _ _ _ _ _ h => by cases h

def evF (P : Program) (γ : Known) (call : Caller) (n : Nat) (c : Code) (a : Act) (h : H) : Act := match evCode P γ call n c a h with | some (_, a1, _) => a1 | none => a
def evH (P : Program) (γ : Known) (call : Caller) (n : Nat) (c : Code) (a : Act) (h : H) : H := match evCode P γ call n c a h with | some (_, _, h1) => h1 | none => h
def evNormal (P : Program) (γ : Known) (call : Caller) (n : Nat) (c : Code) (a : Act) (h : H) : Bool := match evCode P γ call n c a h with | some (.normal, _, _) => true | _ => false

/-- A piece of code that ends as it stands; where it ends is left to counting. -/
theorem ACode.ev {γ : Known} (hγ : KnownOk P Γ γ) {call : Caller} (hm : P.follows .mixedOrders = true) (hc : Callable P Γ call) (n : Nat) {c : Code} {a : Act} {h : H} {K : Act → H → Prop} {Q : Exit → Act → H → Prop} (hs : evNormal P γ call n c a h = true)
    (hk : K (evF P γ call n c a h) (evH P γ call n c a h)) : ACode P Γ c a h (andThen K Q) := by
  unfold evNormal at hs
  split at hs
  · rename_i a1 h1 he
    refine (evCode_sound hγ hm hc n c a a1 h h1 _ he).mono ?_
    rintro e2 a2 h2 ⟨rfl, rfl, rfl⟩
    unfold evF evH at hk
    rw [he] at hk
    exact hk
  · cases hs

/-- A piece of code that hands back a value; which one is left to counting. -/
theorem ACode.evRet {γ : Known} (hγ : KnownOk P Γ γ) {call : Caller} (hm : P.follows .mixedOrders = true) (hc : Callable P Γ call) (n : Nat) {c : Code} {a : Act} {h : H} {fn : Func} {Q : Value → H → Prop} (v : Value)
    (hs : (match evCode P γ call n c a h with | some (.normal, a1, h1) | some (.ret, a1, h1) => (match leave P fn a1 h1 with | some (u, _) => sameV u v | none => false) | _ => false) = true)
    (hq : ∀ h1, Q v h1) : ACode P Γ c a h (RetPost P fn Q) := by
  split at hs
  · rename_i a1 h1 he
    split at hs
    · rename_i u h2 hr
      refine (evCode_sound hγ hm hc n c a a1 h h1 _ he).mono ?_
      rintro e2 a2 h3 ⟨rfl, rfl, rfl⟩
      exact ⟨u, h2, hr, by rw [sameV_eq _ _ hs]; exact hq h2⟩
    · cases hs
  · rename_i a1 h1 he
    split at hs
    · rename_i u h2 hr
      refine (evCode_sound hγ hm hc n c a a1 h h1 _ he).mono ?_
      rintro e2 a2 h3 ⟨rfl, rfl, rfl⟩
      exact ⟨u, h2, hr, by rw [sameV_eq _ _ hs]; exact hq h2⟩
    · cases hs
  · cases hs

theorem ACode.condT {c : Operand} {x y : Code} {a : Act} {h : H} {Q : Exit → Act → H → Prop} (ho : okOperand c = true) (hc : sameV (a.eval c) (.bool true) = true) (hx : ACode P Γ x a h Q) : ACode P Γ (.cond c x y) a h Q :=
  ACode.cond (t := true) ho (sameV_eq _ _ hc) hx
theorem ACode.condF {c : Operand} {x y : Code} {a : Act} {h : H} {Q : Exit → Act → H → Prop} (ho : okOperand c = true) (hc : sameV (a.eval c) (.bool false) = true) (hy : ACode P Γ y a h Q) : ACode P Γ (.cond c x y) a h Q :=
  ACode.cond (t := false) ho (sameV_eq _ _ hc) hy

theorem ACode.regionL {id : Nat} {ops : Array Oper} {a : Act} {h : H} {Q : Exit → Act → H → Prop} (l : List Nat) (hl : ops.size = l.length) (hl2 : l = List.range l.length) (hr : AOps P Γ ops l a h (fun a h => Q .normal a h)) : ACode P Γ (.region id ops false) a h Q :=
  ACode.region (by rw [hl, ← hl2]; exact hr)

theorem getD_some {ops : Array Oper} {i : Nat} (h : decide (i < ops.size) = true) : ops[i]? = some (ops.getD i default) := by
  have hlt : i < ops.size := by simpa using h
  simp [hlt]

theorem AOps.valAt {ops : Array Oper} {i : Nat} {l : List Nat} {a : Act} {h : H} {K : Act → H → Prop} (v : Value) (hi : decide (i < ops.size) = true) (hw : Region.wanted (ops.getD i default) (yielded ops a.tmps) = true)
    (hv : aop P a (ops.getD i default) h = some (.val v h)) (hr : AOps P Γ ops l (a.put (ops.getD i default).dst v) h K) : AOps P Γ ops (i :: l) a h K :=
  AOps.val (getD_some hi) hw hv hr

theorem AOps.globAt {ops : Array Oper} {i : Nat} {l : List Nat} {a : Act} {h : H} {v : Value} {K : Act → H → Prop} (t : TypeId) (g : Nat) (d : TypeDesc) {cs : Array Value} {e : TypeId} {f : Nat × Nat}
    (hi : decide (i < ops.size) = true) (hw : Region.wanted (ops.getD i default) (yielded ops a.tmps) = true) (hop : (ops.getD i default).op = .load t (.global g)) (hu : P.underlying t = some d) (hd : plainDesc d = true)
    (hΓ : Γ.heap[g]? = some (.cells cs e f)) (hv : cs[0]? = some v) (hf : flat v = true) (hr : AOps P Γ ops l (a.put (ops.getD i default).dst v) h K) : AOps P Γ ops (i :: l) a h K :=
  AOps.glob (getD_some hi) hw hop hu hd hΓ hv hf hr

theorem AOps.rowAt {ops : Array Oper} {i : Nat} {l : List Nat} {a : Act} {h : H} (v : Value) {K : Act → H → Prop}
    (hi : decide (i < ops.size) = true) (hw : Region.wanted (ops.getD i default) (yielded ops a.tmps) = true) (hok : ((ops.getD i default).op.operands.all fun x => match x with | .func _ => true | x => okOperand x && flat (a.eval x)) = true)
    (hsel : (match (ops.getD i default).op with | .select _ _ => false | _ => true) = true)
    (hrun : ∀ w : World, (∀ (g : Nat) (ob : Obj), Γ.heap[g]? = some ob → w.heap[g]? = some ob) → (execOp a.eval (ops.getD i default)).run P w = .ok (.value v) w) (hf : flat v = true) (hr : AOps P Γ ops l (a.put (ops.getD i default).dst v) h K) :
    AOps P Γ ops (i :: l) a h K :=
  AOps.row (getD_some hi) hw hok (fun cs b e => by rw [e] at hsel; cases hsel) hrun hf hr

def evIdx (P : Program) (γ : Known) (call : Caller) (ops : Array Oper) : List Nat → Act → H → Option (Act × H)
  | [], a, h => some (a, h)
  | i :: l, a, h => match ops[i]? with
    | some o =>
      if Region.wanted o (yielded ops a.tmps) = true then
        match evOp P call o a h with
        | some (a1, h1) => evIdx P γ call ops l a1 h1
        | none => match aext P a o h with
          | some (v, h1) => evIdx P γ call ops l (a.put o.dst v) h1
          | none => match aglob γ o with
            | some v => evIdx P γ call ops l (a.put o.dst v) h
            | none => match ayield a o with
              | some (li, args) => match call (YB + li) args h with
                | some (v, h1) => evIdx P γ call ops l (a.put o.dst v) h1
                | none => none
              | none => none
      else evIdx P γ call ops l (a.put o.dst undef) h
    | none => none

def idxF (P : Program) (γ : Known) (call : Caller) (ops : Array Oper) (l : List Nat) (a : Act) (h : H) : Act := match evIdx P γ call ops l a h with | some (a1, _) => a1 | none => a
def idxH (P : Program) (γ : Known) (call : Caller) (ops : Array Oper) (l : List Nat) (a : Act) (h : H) : H := match evIdx P γ call ops l a h with | some (_, h1) => h1 | none => h

theorem evIdx_sound {γ : Known} (hγ : KnownOk P Γ γ) {call : Caller} (hc : Callable P Γ call) {ops : Array Oper} : ∀ (l m : List Nat) (a a1 : Act) (h h1 : H), evIdx P γ call ops l a h = some (a1, h1) →
    ∀ {K : Act → H → Prop}, AOps P Γ ops m a1 h1 K → AOps P Γ ops (l ++ m) a h K := by
  intro l
  induction l with
  | nil => intro m a a1 h h1 he K hk; cases he; exact hk
  | cons i l ih =>
    intro m a a1 h h1 he K hk
    unfold evIdx at he
    split at he
    · rename_i o hi
      split at he
      · rename_i hw
        split at he
        · rename_i a2 h2 hop
          exact AOp.ops hi (evOp_sound hc hi hw hop (ih m _ _ _ _ he hk))
        · split at he
          · rename_i v h2 hx
            exact AOps.ext hi hw hx (ih m _ _ _ _ he hk)
          · split at he
            · rename_i v hx
              exact AOps.known hγ hi hw hx (ih m _ _ _ _ he hk)
            · split at he
              · rename_i li args hy
                split at he
                · rename_i v h2 hcall
                  refine AOps.round hi hw hy (by have := (hc _ _ _ _ _ hcall).2 (Nat.le_add_right _ _); rw [Nat.add_sub_cancel_left] at this; exact this) ?_
                  rintro u k ⟨rfl, rfl⟩
                  exact ih m _ _ _ _ he hk
                · cases he
              · cases he
      · rename_i hw
        exact AOps.skip hi (by simpa using hw) (ih m _ _ _ _ he hk)
    · cases he

theorem AOps.evs {γ : Known} (hγ : KnownOk P Γ γ) {call : Caller} (hc : Callable P Γ call) {ops : Array Oper} (l m : List Nat) {a : Act} {h : H} {K : Act → H → Prop} (hs : (evIdx P γ call ops l a h).isSome = true)
    (hk : AOps P Γ ops m (idxF P γ call ops l a h) (idxH P γ call ops l a h) K) : AOps P Γ ops (l ++ m) a h K := by
  cases he : evIdx P γ call ops l a h with
  | none => rw [he] at hs; cases hs
  | some r =>
    obtain ⟨a1, h1⟩ := r
    unfold idxF idxH at hk
    rw [he] at hk
    exact evIdx_sound hγ hc l m a a1 h h1 he hk

theorem AOps.valDec {ops : Array Oper} {i : Nat} {l : List Nat} {a : Act} {h : H} {K : Act → H → Prop} (b : Bool) (p : Prop) [Decidable p] (hb : decide p = b) (hi : decide (i < ops.size) = true) (hw : Region.wanted (ops.getD i default) (yielded ops a.tmps) = true)
    (hv : aop P a (ops.getD i default) h = some (.val (.bool (decide p)) h)) (hr : AOps P Γ ops l (a.put (ops.getD i default).dst (.bool b)) h K) : AOps P Γ ops (i :: l) a h K := by
  subst hb
  exact AOps.val (getD_some hi) hw hv hr

/-- What is handed back; read off by counting. -/
theorem retAt {fn : Func} {a : Act} {h : H} {Q : Value → H → Prop} (v : Value) (hs : (match leave P fn a h with | some (u, _) => sameV u v | none => false) = true) (hq : ∀ h1, Q v h1) :
    ∃ u h1, leave P fn a h = some (u, h1) ∧ Q u h1 := by
  split at hs
  · rename_i u h1 hr
    exact ⟨u, h1, hr, by rw [sameV_eq _ _ hs]; exact hq h1⟩
  · cases hs

end Go.Abs
