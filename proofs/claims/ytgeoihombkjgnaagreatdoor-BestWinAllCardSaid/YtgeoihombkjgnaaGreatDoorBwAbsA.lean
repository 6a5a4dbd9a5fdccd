/-
The abstract heap: values, the renaming of blocks between it and the model's heap, and the relation between both worlds.
-/
import Derived.Calls
import Derived.Laws.AppendOwn
import GoSem.ClaimData
namespace Go.Abs
open Go

abbrev H := Array Obj

/-- The mark that stands in the place of a capacity that nobody knows. -/
def OPEN : Nat := 36893488147419103232

def cell? (h : H) (a : Addr) : Option Value :=
  match h[a.block]? with
  | some (.cells c _ _) => if a.spot.isSome then none else c[a.off]?
  | _ => none

/-- A cell that may be written. -/
def free (h : H) (a : Addr) : Bool :=
  match h[a.block]? with
  | some (.cells c _ (lo, hi)) => a.spot.isNone && decide (a.off < c.size) && lo == 0 && hi == 0
  | _ => false

def setCell (h : H) (a : Addr) (v : Value) : H :=
  h.modify a.block fun
    | .cells c e f => .cells (c.setIfInBounds a.off v) e f
    | o => o

/-- What stands in the place of a block whose cells have moved. -/
def tomb : Obj := .coro none

def plainObj : Obj → Bool
  | .map _ _ | .stringIter _ _ => true
  | _ => false

def sameKind : Obj → Obj → Bool
  | .map _ _, .map _ _ | .stringIter _ _, .stringIter _ _ => true
  | _, _ => false

def arun {α : Type} (P : Program) : Sem α → H → Option (α × H)
  | .pure a, h => some (a, h)
  | .load m a k, h => if m = .plain then match cell? h a with | some v => arun P (k v) h | none => none else none
  | .store m a v k, h => if m = .plain ∧ v.oneCell' = true ∧ free h a = true then arun P k (setCell h a v) else none
  | .new o k, h => if plainObj o = true then arun P (k h.size) (h.push o) else
      match o with
      | .cells c e (0, 0) => if c.all Value.oneCell' then arun P (k h.size) (h.push (.cells c e)) else none
      | _ => none
  | .getObj r k, h => match h[r]? with
    | some o => if plainObj o = true then arun P (k o) h else none
    | none => none
  | .setObj r o k, h => match h[r]? with
    | some o' => if sameKind o' o = true then arun P k (h.setIfInBounds r o) else none
    | none => none
  | .program k, h => arun P (k P) h
  | .mark m k, h => if m = .noRoom then none else arun P k h
  | _, _ => none

/-- Runs what neither reads nor writes. -/
def prun {α : Type} (P : Program) : Sem α → Option α
  | .pure a => some a
  | .program k => prun P (k P)
  | .mark m k => if m = .noRoom then none else prun P k
  | _ => none

structure Blk where
  b : Nat
  s : Nat
  ro : Bool
  e : TypeId
  nc : Nat

/-- none: no such block; some none: a block that is dead. -/
abbrev Ren := Nat → Option (Option Blk)

def Ren.Le (ρ ρ' : Ren) : Prop := ∀ i t, ρ i = some t → ρ' i = some t ∨ ρ' i = some none

theorem Ren.Le.refl (ρ : Ren) : Ren.Le ρ ρ := fun _ _ h => .inl h
theorem Ren.Le.trans {a b c : Ren} (h : Ren.Le a b) (k : Ren.Le b c) : Ren.Le a c := fun i t hi => by
  rcases h i t hi with h1 | h1
  · exact k i t h1
  · rcases k i none h1 with h2 | h2 <;> exact .inr h2

def szOf (P : Program) (e : TypeId) : Nat := ((P.info? e).map (·.size)).getD 0

/-- The address of a cell. -/
def ARel (ρ : Ren) (a a' : Addr) : Prop :=
  a.spot = none ∧ (ρ a.block = some none ∨ ∃ B, ρ a.block = some (some B) ∧ a' = ⟨B.b, a.off + B.s, none⟩)

/-- A slice of an unknown capacity. -/
def ORel (P : Program) (ρ : Ren) (a a' : Addr) (n c' : Nat) : Prop :=
  a.spot = none ∧ (ρ a.block = some none ∨ ∃ B, ρ a.block = some (some B) ∧ B.ro = false ∧ 0 < szOf P B.e ∧ n ≤ c' ∧ c' ≤ maxLen ∧
    ((a' = ⟨B.b, a.off + B.s, none⟩ ∧ a'.off + c' * szOf P B.e = B.nc) ∨ (c' = 0 ∧ a.off + B.s = B.nc)))

/-! Values without addresses -/
def flat1 : Value → Bool
  | .bool _ | .int _ _ | .float _ _ | .complex _ _ _ | .string _ | .pointer none | .slice none 0 0 | .map none | .chan none | .nilFunc | .nilIface => true
  | _ => false
def flat : Value → Bool
  | .agg xs | .tuple xs => xs.all flat1
  | v => flat1 v

inductive VRel (P : Program) (ρ : Ren) : Value → Value → Prop
  | bool (b) : VRel P ρ (.bool b) (.bool b)
  | int (k n) : VRel P ρ (.int k n) (.int k n)
  | float (k b) : VRel P ρ (.float k b) (.float k b)
  | complex (k a b) : VRel P ρ (.complex k a b) (.complex k a b)
  | string (s) : VRel P ρ (.string s) (.string s)
  | nilp : VRel P ρ (.pointer none) (.pointer none)
  | ptr {a a'} : ARel ρ a a' → VRel P ρ (.pointer (some a)) (.pointer (some a'))
  | nils : VRel P ρ (.slice none 0 0) (.slice none 0 0)
  | slc {a a' n c} : c < OPEN → n ≤ c → (ARel ρ a a' ∨ c = 0) → VRel P ρ (.slice (some a) n c) (.slice (some a') n c)
  | opn {a a' n c'} : ORel P ρ a a' n c' → VRel P ρ (.slice (some a) n OPEN) (.slice (some a') n c')
  | nilm : VRel P ρ (.map none) (.map none)
  | map {r r'} : (ρ r = some none ∨ ∃ B, ρ r = some (some B) ∧ r' = B.b) → VRel P ρ (.map (some r)) (.map (some r'))
  | nilc : VRel P ρ (.chan none) (.chan none)
  | func {fn x x' y y'} : (∀ l, fn ≠ .yield l) → x.size = x'.size → (∀ (i : Nat) (u u' : Value), x[i]? = some u → x'[i]? = some u' → VRel P ρ u u') →
      y.size = y'.size → (∀ (i : Nat) (u u' : Value), y[i]? = some u → y'[i]? = some u' → VRel P ρ u u') → VRel P ρ (.func fn x y) (.func fn x' y')
  | yld {l l'} : (ρ l = some none ∨ ∃ B, ρ l = some (some B) ∧ l' = B.b) → VRel P ρ (.func (.yield l) #[] #[]) (.func (.yield l') #[] #[])
  | nilFunc : VRel P ρ .nilFunc .nilFunc
  | iface {t v v'} : VRel P ρ v v' → VRel P ρ (.iface t v) (.iface t v')
  | nilIface : VRel P ρ .nilIface .nilIface
  | agg {x x'} : x.size = x'.size → (∀ (i : Nat) (u u' : Value), x[i]? = some u → x'[i]? = some u' → VRel P ρ u u') → VRel P ρ (.agg x) (.agg x')
  | tuple {x x'} : x.size = x'.size → (∀ (i : Nat) (u u' : Value), x[i]? = some u → x'[i]? = some u' → VRel P ρ u u') → VRel P ρ (.tuple x) (.tuple x')

/-- Rows of values, one by one. -/
def RRel (P : Program) (ρ : Ren) (x x' : Array Value) : Prop :=
  x.size = x'.size ∧ ∀ (i : Nat) (u u' : Value), x[i]? = some u → x'[i]? = some u' → VRel P ρ u u'

theorem ARel.mono {ρ ρ' : Ren} {a a' : Addr} (hl : Ren.Le ρ ρ') (h : ARel ρ a a') : ARel ρ' a a' := by
  obtain ⟨hs, h | ⟨B, hB, ha⟩⟩ := h
  · refine ⟨hs, .inl ?_⟩
    rcases hl _ _ h with h | h <;> exact h
  · rcases hl _ _ hB with h | h
    · exact ⟨hs, .inr ⟨B, h, ha⟩⟩
    · exact ⟨hs, .inl h⟩

theorem ORel.mono {P : Program} {ρ ρ' : Ren} {a a' : Addr} {n c' : Nat} (hl : Ren.Le ρ ρ') (h : ORel P ρ a a' n c') : ORel P ρ' a a' n c' := by
  obtain ⟨hs, h | ⟨B, hB, ha⟩⟩ := h
  · refine ⟨hs, .inl ?_⟩
    rcases hl _ _ h with h | h <;> exact h
  · rcases hl _ _ hB with h | h
    · exact ⟨hs, .inr ⟨B, h, ha⟩⟩
    · exact ⟨hs, .inl h⟩

theorem VRel.mono {P : Program} {ρ ρ' : Ren} (hl : Ren.Le ρ ρ') {v v' : Value} (h : VRel P ρ v v') : VRel P ρ' v v' := by
  induction h with
  | bool b => exact .bool b
  | int k n => exact .int k n
  | float k b => exact .float k b
  | complex k a b => exact .complex k a b
  | string s => exact .string s
  | nilp => exact .nilp
  | ptr h => exact .ptr (h.mono hl)
  | nils => exact .nils
  | slc hc hn h => exact .slc hc hn (h.imp (·.mono hl) id)
  | opn h => exact .opn (h.mono hl)
  | nilm => exact .nilm
  | map h =>
    refine .map ?_
    rcases h with h | ⟨B, hB, hr⟩
    · rcases hl _ _ h with h | h <;> exact .inl h
    · rcases hl _ _ hB with h | h
      · exact .inr ⟨B, h, hr⟩
      · exact .inl h
  | nilc => exact .nilc
  | func hf hx _ hy _ ix iy => exact .func hf hx ix hy iy
  | yld h =>
    refine .yld ?_
    rcases h with h | ⟨B, hB, hr⟩
    · rcases hl _ _ h with h | h <;> exact .inl h
    · rcases hl _ _ hB with h | h
      · exact .inr ⟨B, h, hr⟩
      · exact .inl h
  | nilFunc => exact .nilFunc
  | iface _ ih => exact .iface ih
  | nilIface => exact .nilIface
  | agg hx _ ix => exact .agg hx ix
  | tuple hx _ ix => exact .tuple hx ix

theorem RRel.mono {P : Program} {ρ ρ' : Ren} (hl : Ren.Le ρ ρ') {x x' : Array Value} (h : RRel P ρ x x') : RRel P ρ' x x' :=
  ⟨h.1, fun i u u' hu hu' => (h.2 i u u' hu hu').mono hl⟩

/-- No cell is barred. -/
def tame (n : Nat) (f : Nat × Nat) : Prop := f = (0, 0) ∨ n ≤ f.1

/-- What lies in both worlds under one block. -/
def ObjRel (P : Program) (ρ : Ren) (B : Blk) (o o' : Obj) : Prop :=
  match o, o' with
  | .cells c e f, .cells c' e' f' =>
    e = B.e ∧ e' = B.e ∧ c'.size = B.nc ∧ c.size + B.s ≤ B.nc ∧
    (∀ (j : Nat) (v v' : Value), c[j]? = some v → c'[j + B.s]? = some v' → VRel P ρ v v') ∧
    (∀ (j : Nat) (v : Value), c[j]? = some v → v.oneCell' = true) ∧
    (if B.ro then f = (0, c.size) else f = (0, 0) ∧ tame B.nc f' ∧
      (∀ (z : Value) (i : Nat), ((P.info? B.e).bind (·.zero)) = some z → c.size + B.s + i < B.nc → c'[c.size + B.s + i]? = z.cells[i % z.cells.size]?))
  | .map es k, .map es' k' =>
    B.s = 0 ∧ B.ro = false ∧ k = k' ∧ es.size = es'.size ∧
    ∀ (j : Nat) (m m' : MapEntry), es[j]? = some m → es'[j]? = some m' → flat m.key = true ∧ m'.key = m.key ∧ VRel P ρ m.val m'.val ∧ m.born = m'.born
  | .stringIter s p, .stringIter s' p' => B.s = 0 ∧ B.ro = false ∧ s = s' ∧ p = p'
  | .loop r, .loop r' => B.s = 0 ∧ B.ro = false ∧ r'.state = r.state ∧ r'.pending = r.pending ∧ RRel P ρ r.tmps r'.tmps ∧ r'.params = r.params ∧ r'.assign = r.assign ∧ r'.body = r.body
  | .deferred x, .deferred x' => B.s = 0 ∧ B.ro = false ∧ x' = x ∧ (x = none ∨ x = some [])
  | _, _ => False

structure Sim (P : Program) (ρ : Ren) (h : H) (w : World) : Prop where
  live : ∀ i B, ρ i = some (some B) → ∃ o o', h[i]? = some o ∧ w.heap[B.b]? = some o' ∧ ObjRel P ρ B o o'
  dead : ∀ i, ρ i = some none → h[i]? = some tomb
  one : ∀ i j B C, ρ i = some (some B) → ρ j = some (some C) → B.b = C.b → i = j

/-- What came later: the renaming has grown; what it does not name stays. -/
structure Later (ρ : Ren) (h : H) (w : World) (ρ' : Ren) (h' : H) (w' : World) : Prop where
  le : Ren.Le ρ ρ'
  size : h.size ≤ h'.size
  wsize : w.heap.size ≤ w'.heap.size
  os : w'.os = w.os
  tape : w'.tape = w.tape
  output : w'.output = w.output
  none : ∀ i, i < h.size → ρ i = none → ρ' i = none ∧ h'[i]? = h[i]?
  frame : ∀ b, b < w.heap.size → (∀ i B, ρ i = some (some B) → B.ro = false → B.b ≠ b) → w'.heap[b]? = w.heap[b]?
  fresh : ∀ i B, ρ' i = some (some B) → ρ i = some (some B) ∨ w.heap.size ≤ B.b ∨ (B.ro = false ∧ ∃ j C, ρ j = some (some C) ∧ C.ro = false ∧ C.b = B.b)

theorem Later.refl (ρ : Ren) (h : H) (w : World) : Later ρ h w ρ h w :=
  ⟨.refl ρ, Nat.le_refl _, Nat.le_refl _, rfl, rfl, rfl, fun _ _ hn => ⟨hn, rfl⟩, fun _ _ _ => rfl, fun _ _ hB => .inl hB⟩

theorem Later.trans {ρ1 ρ2 ρ3 : Ren} {h1 h2 h3 : H} {w1 w2 w3 : World} (a : Later ρ1 h1 w1 ρ2 h2 w2) (b : Later ρ2 h2 w2 ρ3 h3 w3) : Later ρ1 h1 w1 ρ3 h3 w3 where
  le := a.le.trans b.le
  size := Nat.le_trans a.size b.size
  wsize := Nat.le_trans a.wsize b.wsize
  os := b.os.trans a.os
  tape := b.tape.trans a.tape
  output := b.output.trans a.output
  none i hi hn := by
    obtain ⟨n2, e2⟩ := a.none i hi hn
    obtain ⟨n3, e3⟩ := b.none i (Nat.lt_of_lt_of_le hi a.size) n2
    exact ⟨n3, e3.trans e2⟩
  frame k hk hno := by
    refine (b.frame k (Nat.lt_of_lt_of_le hk a.wsize) ?_).trans (a.frame k hk hno)
    intro i B hB hro hb
    rcases a.fresh i B hB with h | h | ⟨_, j, C, hC, hr, he⟩
    · exact hno i B h hro hb
    · omega
    · exact hno j C hC hr (he.trans hb)
  fresh i B hB := by
    rcases b.fresh i B hB with h | h | ⟨hr0, j, C, hC, hr, he⟩
    · exact a.fresh i B h
    · exact .inr (.inl (Nat.le_trans a.wsize h))
    · rcases a.fresh j C hC with h | h | ⟨_, j', C', hC', hr', he'⟩
      · exact .inr (.inr ⟨hr0, j, C, h, hr, he⟩)
      · exact .inr (.inl (he ▸ h))
      · exact .inr (.inr ⟨hr0, j', C', hC', hr', he'.trans he⟩)

end Go.Abs
