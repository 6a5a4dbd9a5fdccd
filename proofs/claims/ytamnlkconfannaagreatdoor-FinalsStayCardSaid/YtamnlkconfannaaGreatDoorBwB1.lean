import Derived.Calls
import Derived.Laws.AppendOwn
import GoSem.ClaimData
/-
The abstract heap: values, the renaming of blocks between it and the model's heap, and the relation between both worlds.
-/
namespace Go.Abs
open Go

abbrev H := Array Obj

/-- The mark that stands in the place of a capacity that nobody knows. -/
def OPEN : Nat := 36893488147419103232

def cell? (h : H) (a : Addr) : Option Value :=
  match h[a.block]? with
  | some (.cells c _ _) => if a.spot.isSome then none else c[a.off]?
  | _ => none

/-- A cell that may be written. -/
def free (h : H) (a : Addr) : Bool :=
  match h[a.block]? with
  | some (.cells c _ (lo, hi)) => a.spot.isNone && decide (a.off < c.size) && lo == 0 && hi == 0
  | _ => false

def setCell (h : H) (a : Addr) (v : Value) : H :=
  h.modify a.block fun
    | .cells c e f => .cells (c.setIfInBounds a.off v) e f
    | o => o

/-- What stands in the place of a block whose cells have moved. -/
def tomb : Obj := .coro none

def plainObj : Obj → Bool
  | .map _ _ | .stringIter _ _ => true
  | _ => false

def sameKind : Obj → Obj → Bool
  | .map _ _, .map _ _ | .stringIter _ _, .stringIter _ _ => true
  | _, _ => false

def arun {α : Type} (P : Program) : Sem α → H → Option (α × H)
  | .pure a, h => some (a, h)
  | .load m a k, h => if m = .plain then match cell? h a with | some v => arun P (k v) h | none => none else none
  | .store m a v k, h => if m = .plain ∧ v.oneCell' = true ∧ free h a = true then arun P k (setCell h a v) else none
  | .new o k, h => if plainObj o = true then arun P (k h.size) (h.push o) else
      match o with
      | .cells c e (0, 0) => if c.all Value.oneCell' then arun P (k h.size) (h.push (.cells c e)) else none
      | _ => none
  | .getObj r k, h => match h[r]? with
    | some o => if plainObj o = true then arun P (k o) h else none
    | none => none
  | .setObj r o k, h => match h[r]? with
    | some o' => if sameKind o' o = true then arun P k (h.setIfInBounds r o) else none
    | none => none
  | .program k, h => arun P (k P) h
  | .mark m k, h => if m = .noRoom then none else arun P k h
  | _, _ => none

/-- Runs what neither reads nor writes. -/
def prun {α : Type} (P : Program) : Sem α → Option α
  | .pure a => some a
  | .program k => prun P (k P)
  | .mark m k => if m = .noRoom then none else prun P k
  | _ => none

structure Blk where
  b : Nat
  s : Nat
  ro : Bool
  e : TypeId
  nc : Nat

/-- none: no such block; some none: a block that is dead. -/
abbrev Ren := Nat → Option (Option Blk)

def Ren.Le (ρ ρ' : Ren) : Prop := ∀ i t, ρ i = some t → ρ' i = some t ∨ ρ' i = some none

theorem Ren.Le.refl (ρ : Ren) : Ren.Le ρ ρ := fun _ _ h => .inl h
theorem Ren.Le.trans {a b c : Ren} (h : Ren.Le a b) (k : Ren.Le b c) : Ren.Le a c := fun i t hi => by
  rcases h i t hi with h1 | h1
  · exact k i t h1
  · rcases k i none h1 with h2 | h2 <;> exact .inr h2

def szOf (P : Program) (e : TypeId) : Nat := ((P.info? e).map (·.size)).getD 0

/-- The address of a cell. -/
def ARel (ρ : Ren) (a a' : Addr) : Prop :=
  a.spot = none ∧ (ρ a.block = some none ∨ ∃ B, ρ a.block = some (some B) ∧ a' = ⟨B.b, a.off + B.s, none⟩)

/-- A slice of an unknown capacity. -/
def ORel (P : Program) (ρ : Ren) (a a' : Addr) (n c' : Nat) : Prop :=
  a.spot = none ∧ (ρ a.block = some none ∨ ∃ B, ρ a.block = some (some B) ∧ B.ro = false ∧ 0 < szOf P B.e ∧ n ≤ c' ∧ c' ≤ maxLen ∧
    ((a' = ⟨B.b, a.off + B.s, none⟩ ∧ a'.off + c' * szOf P B.e = B.nc) ∨ (c' = 0 ∧ a.off + B.s = B.nc)))

/-! Values without addresses -/
def flat1 : Value → Bool
  | .bool _ | .int _ _ | .float _ _ | .complex _ _ _ | .string _ | .pointer none | .slice none 0 0 | .map none | .chan none | .nilFunc | .nilIface => true
  | _ => false
def flat : Value → Bool
  | .agg xs | .tuple xs => xs.all flat1
  | v => flat1 v

inductive VRel (P : Program) (ρ : Ren) : Value → Value → Prop
  | bool (b) : VRel P ρ (.bool b) (.bool b)
  | int (k n) : VRel P ρ (.int k n) (.int k n)
  | float (k b) : VRel P ρ (.float k b) (.float k b)
  | complex (k a b) : VRel P ρ (.complex k a b) (.complex k a b)
  | string (s) : VRel P ρ (.string s) (.string s)
  | nilp : VRel P ρ (.pointer none) (.pointer none)
  | ptr {a a'} : ARel ρ a a' → VRel P ρ (.pointer (some a)) (.pointer (some a'))
  | nils : VRel P ρ (.slice none 0 0) (.slice none 0 0)
  | slc {a a' n c} : c < OPEN → n ≤ c → (ARel ρ a a' ∨ c = 0) → VRel P ρ (.slice (some a) n c) (.slice (some a') n c)
  | opn {a a' n c'} : ORel P ρ a a' n c' → VRel P ρ (.slice (some a) n OPEN) (.slice (some a') n c')
  | nilm : VRel P ρ (.map none) (.map none)
  | map {r r'} : (ρ r = some none ∨ ∃ B, ρ r = some (some B) ∧ r' = B.b) → VRel P ρ (.map (some r)) (.map (some r'))
  | nilc : VRel P ρ (.chan none) (.chan none)
  | func {fn x x' y y'} : (∀ l, fn ≠ .yield l) → x.size = x'.size → (∀ (i : Nat) (u u' : Value), x[i]? = some u → x'[i]? = some u' → VRel P ρ u u') →
      y.size = y'.size → (∀ (i : Nat) (u u' : Value), y[i]? = some u → y'[i]? = some u' → VRel P ρ u u') → VRel P ρ (.func fn x y) (.func fn x' y')
  | yld {l l'} : (ρ l = some none ∨ ∃ B, ρ l = some (some B) ∧ l' = B.b) → VRel P ρ (.func (.yield l) #[] #[]) (.func (.yield l') #[] #[])
  | nilFunc : VRel P ρ .nilFunc .nilFunc
  | iface {t v v'} : VRel P ρ v v' → VRel P ρ (.iface t v) (.iface t v')
  | nilIface : VRel P ρ .nilIface .nilIface
  | agg {x x'} : x.size = x'.size → (∀ (i : Nat) (u u' : Value), x[i]? = some u → x'[i]? = some u' → VRel P ρ u u') → VRel P ρ (.agg x) (.agg x')
  | tuple {x x'} : x.size = x'.size → (∀ (i : Nat) (u u' : Value), x[i]? = some u → x'[i]? = some u' → VRel P ρ u u') → VRel P ρ (.tuple x) (.tuple x')

/-- Rows of values, one by one. -/
def RRel (P : Program) (ρ : Ren) (x x' : Array Value) : Prop :=
  x.size = x'.size ∧ ∀ (i : Nat) (u u' : Value), x[i]? = some u → x'[i]? = some u' → VRel P ρ u u'

theorem ARel.mono {ρ ρ' : Ren} {a a' : Addr} (hl : Ren.Le ρ ρ') (h : ARel ρ a a') : ARel ρ' a a' := by
  obtain ⟨hs, h | ⟨B, hB, ha⟩⟩ := h
  · refine ⟨hs, .inl ?_⟩
    rcases hl _ _ h with h | h <;> exact h
  · rcases hl _ _ hB with h | h
    · exact ⟨hs, .inr ⟨B, h, ha⟩⟩
    · exact ⟨hs, .inl h⟩

theorem ORel.mono {P : Program} {ρ ρ' : Ren} {a a' : Addr} {n c' : Nat} (hl : Ren.Le ρ ρ') (h : ORel P ρ a a' n c') : ORel P ρ' a a' n c' := by
  obtain ⟨hs, h | ⟨B, hB, ha⟩⟩ := h
  · refine ⟨hs, .inl ?_⟩
    rcases hl _ _ h with h | h <;> exact h
  · rcases hl _ _ hB with h | h
    · exact ⟨hs, .inr ⟨B, h, ha⟩⟩
    · exact ⟨hs, .inl h⟩

theorem VRel.mono {P : Program} {ρ ρ' : Ren} (hl : Ren.Le ρ ρ') {v v' : Value} (h : VRel P ρ v v') : VRel P ρ' v v' := by
  induction h with
  | bool b => exact .bool b
  | int k n => exact .int k n
  | float k b => exact .float k b
  | complex k a b => exact .complex k a b
  | string s => exact .string s
  | nilp => exact .nilp
  | ptr h => exact .ptr (h.mono hl)
  | nils => exact .nils
  | slc hc hn h => exact .slc hc hn (h.imp (·.mono hl) id)
  | opn h => exact .opn (h.mono hl)
  | nilm => exact .nilm
  | map h =>
    refine .map ?_
    rcases h with h | ⟨B, hB, hr⟩
    · rcases hl _ _ h with h | h <;> exact .inl h
    · rcases hl _ _ hB with h | h
      · exact .inr ⟨B, h, hr⟩
      · exact .inl h
  | nilc => exact .nilc
  | func hf hx _ hy _ ix iy => exact .func hf hx ix hy iy
  | yld h =>
    refine .yld ?_
    rcases h with h | ⟨B, hB, hr⟩
    · rcases hl _ _ h with h | h <;> exact .inl h
    · rcases hl _ _ hB with h | h
      · exact .inr ⟨B, h, hr⟩
      · exact .inl h
  | nilFunc => exact .nilFunc
  | iface _ ih => exact .iface ih
  | nilIface => exact .nilIface
  | agg hx _ ix => exact .agg hx ix
  | tuple hx _ ix => exact .tuple hx ix

theorem RRel.mono {P : Program} {ρ ρ' : Ren} (hl : Ren.Le ρ ρ') {x x' : Array Value} (h : RRel P ρ x x') : RRel P ρ' x x' :=
  ⟨h.1, fun i u u' hu hu' => (h.2 i u u' hu hu').mono hl⟩

/-- No cell is barred. -/
def tame (n : Nat) (f : Nat × Nat) : Prop := f = (0, 0) ∨ n ≤ f.1

/-- What lies in both worlds under one block. -/
def ObjRel (P : Program) (ρ : Ren) (B : Blk) (o o' : Obj) : Prop :=
  match o, o' with
  | .cells c e f, .cells c' e' f' =>
    e = B.e ∧ e' = B.e ∧ c'.size = B.nc ∧ c.size + B.s ≤ B.nc ∧
    (∀ (j : Nat) (v v' : Value), c[j]? = some v → c'[j + B.s]? = some v' → VRel P ρ v v') ∧
    (∀ (j : Nat) (v : Value), c[j]? = some v → v.oneCell' = true) ∧
    (if B.ro then f = (0, c.size) else f = (0, 0) ∧ tame B.nc f' ∧
      (∀ (z : Value) (i : Nat), ((P.info? B.e).bind (·.zero)) = some z → c.size + B.s + i < B.nc → c'[c.size + B.s + i]? = z.cells[i % z.cells.size]?))
  | .map es k, .map es' k' =>
    B.s = 0 ∧ B.ro = false ∧ k = k' ∧ es.size = es'.size ∧
    ∀ (j : Nat) (m m' : MapEntry), es[j]? = some m → es'[j]? = some m' → flat m.key = true ∧ m'.key = m.key ∧ VRel P ρ m.val m'.val ∧ m.born = m'.born
  | .stringIter s p, .stringIter s' p' => B.s = 0 ∧ B.ro = false ∧ s = s' ∧ p = p'
  | .loop r, .loop r' => B.s = 0 ∧ B.ro = false ∧ r'.state = r.state ∧ r'.pending = r.pending ∧ RRel P ρ r.tmps r'.tmps ∧ r'.params = r.params ∧ r'.assign = r.assign ∧ r'.body = r.body
  | .deferred x, .deferred x' => B.s = 0 ∧ B.ro = false ∧ x' = x ∧ (x = none ∨ x = some [])
  | _, _ => False

structure Sim (P : Program) (ρ : Ren) (h : H) (w : World) : Prop where
  live : ∀ i B, ρ i = some (some B) → ∃ o o', h[i]? = some o ∧ w.heap[B.b]? = some o' ∧ ObjRel P ρ B o o'
  dead : ∀ i, ρ i = some none → h[i]? = some tomb
  one : ∀ i j B C, ρ i = some (some B) → ρ j = some (some C) → B.b = C.b → i = j

/-- What came later: the renaming has grown; what it does not name stays. -/
structure Later (ρ : Ren) (h : H) (w : World) (ρ' : Ren) (h' : H) (w' : World) : Prop where
  le : Ren.Le ρ ρ'
  size : h.size ≤ h'.size
  wsize : w.heap.size ≤ w'.heap.size
  os : w'.os = w.os
  tape : w'.tape = w.tape
  output : w'.output = w.output
  none : ∀ i, i < h.size → ρ i = none → ρ' i = none ∧ h'[i]? = h[i]?
  frame : ∀ b, b < w.heap.size → (∀ i B, ρ i = some (some B) → B.ro = false → B.b ≠ b) → w'.heap[b]? = w.heap[b]?
  fresh : ∀ i B, ρ' i = some (some B) → ρ i = some (some B) ∨ w.heap.size ≤ B.b ∨ (B.ro = false ∧ ∃ j C, ρ j = some (some C) ∧ C.ro = false ∧ C.b = B.b)

theorem Later.refl (ρ : Ren) (h : H) (w : World) : Later ρ h w ρ h w :=
  ⟨.refl ρ, Nat.le_refl _, Nat.le_refl _, rfl, rfl, rfl, fun _ _ hn => ⟨hn, rfl⟩, fun _ _ _ => rfl, fun _ _ hB => .inl hB⟩

theorem Later.trans {ρ1 ρ2 ρ3 : Ren} {h1 h2 h3 : H} {w1 w2 w3 : World} (a : Later ρ1 h1 w1 ρ2 h2 w2) (b : Later ρ2 h2 w2 ρ3 h3 w3) : Later ρ1 h1 w1 ρ3 h3 w3 where
  le := a.le.trans b.le
  size := Nat.le_trans a.size b.size
  wsize := Nat.le_trans a.wsize b.wsize
  os := b.os.trans a.os
  tape := b.tape.trans a.tape
  output := b.output.trans a.output
  none i hi hn := by
    obtain ⟨n2, e2⟩ := a.none i hi hn
    obtain ⟨n3, e3⟩ := b.none i (Nat.lt_of_lt_of_le hi a.size) n2
    exact ⟨n3, e3.trans e2⟩
  frame k hk hno := by
    refine (b.frame k (Nat.lt_of_lt_of_le hk a.wsize) ?_).trans (a.frame k hk hno)
    intro i B hB hro hb
    rcases a.fresh i B hB with h | h | ⟨_, j, C, hC, hr, he⟩
    · exact hno i B h hro hb
    · omega
    · exact hno j C hC hr (he.trans hb)
  fresh i B hB := by
    rcases b.fresh i B hB with h | h | ⟨hr0, j, C, hC, hr, he⟩
    · exact a.fresh i B h
    · exact .inr (.inl (Nat.le_trans a.wsize h))
    · rcases a.fresh j C hC with h | h | ⟨_, j', C', hC', hr', he'⟩
      · exact .inr (.inr ⟨hr0, j, C, h, hr, he⟩)
      · exact .inr (.inl (he ▸ h))
      · exact .inr (.inr ⟨hr0, j', C', hC', hr', he'.trans he⟩)

end Go.Abs

/-
The abstract heap: what one step of memory does to both worlds.
-/
namespace Go.Abs
open Go
variable {P : Program}

theorem ObjRel.mono {ρ ρ' : Ren} {B : Blk} {o o' : Obj} (hl : Ren.Le ρ ρ') (h : ObjRel P ρ B o o') : ObjRel P ρ' B o o' := by
  unfold ObjRel at *
  split at h
  · obtain ⟨h1, h2, h3, h4, h5, h6, h7⟩ := h
    exact ⟨h1, h2, h3, h4, fun j v v' hv hv' => (h5 j v v' hv hv').mono hl, h6, h7⟩
  · obtain ⟨h1, h2, h3, h4, h5⟩ := h
    exact ⟨h1, h2, h3, h4, fun j m m' hm hm' => ⟨(h5 j m m' hm hm').1, (h5 j m m' hm hm').2.1, (h5 j m m' hm hm').2.2.1.mono hl, (h5 j m m' hm hm').2.2.2⟩⟩
  · exact h
  · exact ⟨h.1, h.2.1, h.2.2.1, h.2.2.2.1, h.2.2.2.2.1.mono hl, h.2.2.2.2.2⟩
  · exact h
  · exact h.elim

theorem ObjRel.not_tomb {ρ : Ren} {B : Blk} {o' : Obj} (h : ObjRel P ρ B tomb o') : False := by
  unfold ObjRel tomb at h
  split at h <;> simp_all

theorem Sim.lt {ρ : Ren} {h : H} {w : World} (hs : Sim P ρ h w) {i : Nat} {t : Option Blk} (hi : ρ i = some t) : i < h.size := by
  cases t with
  | none => exact (Array.getElem?_eq_some_iff.1 (hs.dead i hi)).1
  | some B =>
    obtain ⟨o, o', ho, _⟩ := hs.live i B hi
    exact (Array.getElem?_eq_some_iff.1 ho).1

theorem Sim.wlt {ρ : Ren} {h : H} {w : World} (hs : Sim P ρ h w) {i : Nat} {B : Blk} (hi : ρ i = some (some B)) : B.b < w.heap.size := by
  obtain ⟨o, o', _, ho, _⟩ := hs.live i B hi
  exact (Array.getElem?_eq_some_iff.1 ho).1

theorem Sim.fresh {ρ : Ren} {h : H} {w : World} (hs : Sim P ρ h w) : ρ h.size = none := by
  cases hi : ρ h.size with
  | none => rfl
  | some t => exact absurd (hs.lt hi) (Nat.lt_irrefl _)

def Ren.set (ρ : Ren) (i : Nat) (t : Option Blk) : Ren := fun j => if j = i then some t else ρ j

theorem Ren.set_same (ρ : Ren) (i : Nat) (t : Option Blk) : ρ.set i t i = some t := by simp [Ren.set]
theorem Ren.set_ne (ρ : Ren) {i j : Nat} (t : Option Blk) (h : j ≠ i) : ρ.set i t j = ρ j := by simp [Ren.set, h]
theorem Ren.le_set {ρ : Ren} {i : Nat} {t : Option Blk} (h : ρ i = none) : Ren.Le ρ (ρ.set i t) := fun j u hj => by
  by_cases e : j = i
  · subst e; rw [h] at hj; cases hj
  · rw [Ren.set_ne _ _ e]; exact .inl hj

theorem Sim.cell {ρ : Ren} {h : H} {w : World} (hs : Sim P ρ h w) {a a' : Addr} {v : Value} (ha : ARel ρ a a') (hv : cell? h a = some v) :
    ∃ v', w.cell? a' = some v' ∧ VRel P ρ v v' ∧ v.oneCell' = true := by
  obtain ⟨hsp, hd | ⟨B, hB, rfl⟩⟩ := ha
  · simp only [cell?, hs.dead _ hd, tomb] at hv; cases hv
  · obtain ⟨o, o', ho, ho', hr⟩ := hs.live _ _ hB
    simp only [cell?, ho] at hv
    unfold ObjRel at hr
    split at hr
    · rename_i c e f c' e' f'
      obtain ⟨_, _, h3, h4, h5, h6, _⟩ := hr
      simp [hsp] at hv
      have hlt := (Array.getElem?_eq_some_iff.1 hv).1
      have hlt' : a.off + B.s < c'.size := by omega
      refine ⟨c'[a.off + B.s], ?_, h5 _ _ _ hv (Array.getElem?_eq_getElem hlt'), h6 _ _ hv⟩
      simp [World.cell?, ho', hlt']
    · simp at hv
    · simp at hv
    · simp at hv
    · simp at hv
    · exact hr.elim

theorem VRel.oneCell {ρ : Ren} {v v' : Value} (h : VRel P ρ v v') : v'.oneCell' = v.oneCell' := by
  cases h <;> rfl

theorem frozen_tame {w : World} {b o : Nat} {c : Array Value} {e : TypeId} {f : Nat × Nat} (h : w.heap[b]? = some (.cells c e f)) (ht : tame c.size f) (ho : o < c.size) : w.frozen? ⟨b, o, none⟩ = false := by
  obtain ⟨lo, hi⟩ := f
  rcases ht with ht | ht
  · cases ht; simp [World.frozen?, h]
  · simp only at ht
    have : ¬ lo ≤ o := by omega
    simp [World.frozen?, h, this]

theorem Sim.setCell {ρ : Ren} {h : H} {w : World} (hs : Sim P ρ h w) {a a' : Addr} {v v' : Value} (ha : ARel ρ a a') (hf : free h a = true)
    (hv : VRel P ρ v v') (h1 : v.oneCell' = true) :
    (∃ u, w.cell? a' = some u) ∧ w.frozen? a' = false ∧ Sim P ρ (Abs.setCell h a v) (w.setCell a' v') ∧ Later ρ h w ρ (Abs.setCell h a v) (w.setCell a' v') := by
  obtain ⟨hsp, hd | ⟨B, hB, rfl⟩⟩ := ha
  · simp only [free, hs.dead _ hd, tomb] at hf; cases hf
  · obtain ⟨o, o', ho, ho', hr⟩ := hs.live _ _ hB
    simp only [free, ho] at hf
    have hr0 := hr
    unfold ObjRel at hr
    split at hr
    · rename_i c e f c' e' f'
      obtain ⟨he, he', h3, h4, h5, h6, h7⟩ := hr
      obtain ⟨lo, hi⟩ := f
      simp only [Bool.and_eq_true, decide_eq_true_eq, beq_iff_eq] at hf
      obtain ⟨⟨⟨_, hoff⟩, hlo⟩, hhi⟩ := hf
      subst hlo; subst hhi
      have hro : B.ro = false := by
        cases hb : B.ro
        · rfl
        · simp [hb] at h7; omega
      simp only [hro] at h7
      obtain ⟨_, hf', hz⟩ := h7
      have hlt' : a.off + B.s < c'.size := by omega
      refine ⟨⟨c'[a.off + B.s], by simp [World.cell?, ho', hlt']⟩, frozen_tame ho' (by rw [h3]; exact hf') hlt', ?_, ?_⟩
      · have hh : (Abs.setCell h a v)[a.block]? = some (.cells (c.setIfInBounds a.off v) e (0, 0)) := by
          simp [Abs.setCell, Array.getElem?_modify, ho]
        have hhne : ∀ j, j ≠ a.block → (Abs.setCell h a v)[j]? = h[j]? := fun j hj => by
          simp [Abs.setCell, Array.getElem?_modify, Ne.symm hj]
        have hw : (w.setCell ⟨B.b, a.off + B.s, none⟩ v').heap[B.b]? = some (.cells (c'.setIfInBounds (a.off + B.s) v') e' f') := by
          simp [World.setCell, Array.getElem?_modify, ho']
        have hwne : ∀ j, j ≠ B.b → (w.setCell ⟨B.b, a.off + B.s, none⟩ v').heap[j]? = w.heap[j]? := fun j hj => by
          simp [World.setCell, Array.getElem?_modify, Ne.symm hj]
        refine ⟨?_, ?_, hs.one⟩
        · intro i C hC
          by_cases hi : i = a.block
          · subst hi
            rw [hB] at hC; cases hC
            refine ⟨_, _, hh, hw, he, he', by simpa using h3, by simpa using h4, ?_, ?_, ?_⟩
            · intro j x x' hx hx'
              by_cases hj : j = a.off
              · subst hj
                simp only [Array.getElem?_setIfInBounds_self, hoff, hlt'] at hx hx'
                simp only [if_true, Option.some.injEq] at hx hx'
                rw [← hx, ← hx']; exact hv
              · rw [Array.getElem?_setIfInBounds_ne (Ne.symm hj)] at hx
                rw [Array.getElem?_setIfInBounds_ne (by omega)] at hx'
                exact h5 _ _ _ hx hx'
            · intro j x hx
              by_cases hj : j = a.off
              · subst hj
                simp only [Array.getElem?_setIfInBounds_self, hoff] at hx
                simp only [if_true, Option.some.injEq] at hx
                rw [← hx]; exact h1
              · rw [Array.getElem?_setIfInBounds_ne (Ne.symm hj)] at hx
                exact h6 _ _ hx
            · simp only [hro, Bool.false_eq_true, if_false, Array.size_setIfInBounds]
              refine ⟨trivial, hf', fun z i hzz hi => ?_⟩
              rw [Array.getElem?_setIfInBounds_ne (by omega)]
              exact hz z i hzz hi
          · obtain ⟨o2, o2', q1, q2, q3⟩ := hs.live i C hC
            have : C.b ≠ B.b := fun e => hi (hs.one _ _ _ _ hC hB e)
            exact ⟨o2, o2', (hhne i hi).trans q1, (hwne _ this).trans q2, q3⟩
        · intro i hi
          have : i ≠ a.block := fun e => by subst e; rw [hB] at hi; cases hi
          exact (hhne i this).trans (hs.dead i hi)
      · refine ⟨.refl ρ, by simp [Abs.setCell], by simp [World.setCell], rfl, rfl, rfl, ?_, ?_, fun _ _ hB => .inl hB⟩
        · intro i _ hn
          have : i ≠ a.block := fun e => by subst e; rw [hB] at hn; cases hn
          exact ⟨hn, by simp [Abs.setCell, Array.getElem?_modify, Ne.symm this]⟩
        · intro b _ hno
          have : b ≠ B.b := fun e => hno _ B hB hro e.symm
          simp [World.setCell, Array.getElem?_modify, Ne.symm this]
    · simp at hf
    · simp at hf
    · simp at hf
    · simp at hf
    · exact hr.elim

/-- A block more on both sides. -/
theorem Sim.push {ρ : Ren} {h : H} {w : World} (hs : Sim P ρ h w) (o o' : Obj) (B : Blk) (hb : B.b = w.heap.size)
    (hr : ObjRel P (ρ.set h.size (some B)) B o o') :
    Sim P (ρ.set h.size (some B)) (h.push o) (w.alloc o') ∧ Later ρ h w (ρ.set h.size (some B)) (h.push o) (w.alloc o') := by
  have hf := hs.fresh
  have hle : Ren.Le ρ (ρ.set h.size (some B)) := Ren.le_set hf
  refine ⟨⟨?_, ?_, ?_⟩, hle, by simp, by show _ ≤ (w.heap.push o').size; simp, rfl, rfl, rfl, ?_, ?_, ?_⟩
  · intro i C hC
    by_cases hi : i = h.size
    · subst hi
      rw [Ren.set_same] at hC; cases hC
      exact ⟨o, o', by simp, by show (w.heap.push o')[B.b]? = _; rw [hb]; simp, hr⟩
    · rw [Ren.set_ne _ _ hi] at hC
      obtain ⟨o2, o2', q1, q2, q3⟩ := hs.live i C hC
      have l1 := (Array.getElem?_eq_some_iff.1 q1).1
      have l2 := (Array.getElem?_eq_some_iff.1 q2).1
      refine ⟨o2, o2', ?_, ?_, q3.mono hle⟩
      · rw [Array.getElem?_push, if_neg hi]; exact q1
      · show (w.heap.push o')[C.b]? = _; rw [Array.getElem?_push, if_neg (by omega)]; exact q2
  · intro i hi
    by_cases e : i = h.size
    · subst e; rw [Ren.set_same] at hi; cases hi
    · rw [Ren.set_ne _ _ e] at hi
      rw [Array.getElem?_push, if_neg e]; exact hs.dead i hi
  · intro i j C D hC hD hCD
    by_cases hi : i = h.size
    · by_cases hj : j = h.size
      · rw [hi, hj]
      · subst hi
        rw [Ren.set_same] at hC; cases hC
        rw [Ren.set_ne _ _ hj] at hD
        have := hs.wlt hD
        omega
    · rw [Ren.set_ne _ _ hi] at hC
      by_cases hj : j = h.size
      · subst hj
        rw [Ren.set_same] at hD; cases hD
        have := hs.wlt hC
        omega
      · rw [Ren.set_ne _ _ hj] at hD
        exact hs.one i j C D hC hD hCD
  · intro i hi hn
    rw [Ren.set_ne _ _ (by omega)]
    exact ⟨hn, by rw [Array.getElem?_push, if_neg (by omega)]⟩
  · intro b hb' _
    show (w.heap.push o')[b]? = _
    rw [Array.getElem?_push, if_neg (by omega)]
  · intro i C hC
    by_cases hi : i = h.size
    · subst hi; rw [Ren.set_same] at hC; cases hC
      exact .inr (.inl (by omega))
    · rw [Ren.set_ne _ _ hi] at hC; exact .inl hC

/-- A row of cells more. -/
theorem Sim.pushCells {ρ : Ren} {h : H} {w : World} (hs : Sim P ρ h w) (c c' : Array Value) (e : TypeId) (hc : RRel P ρ c c') (h1 : c.all Value.oneCell' = true) :
    ∃ ρ', ρ' h.size = some (some ⟨w.heap.size, 0, false, e, c.size⟩) ∧ Sim P ρ' (h.push (.cells c e)) (w.alloc (.cells c' e)) ∧ Later ρ h w ρ' (h.push (.cells c e)) (w.alloc (.cells c' e)) := by
  refine ⟨ρ.set h.size (some ⟨w.heap.size, 0, false, e, c.size⟩), Ren.set_same _ _ _, hs.push _ _ ⟨w.heap.size, 0, false, e, c.size⟩ rfl ?_⟩
  refine ⟨rfl, rfl, hc.1.symm, by simp, ?_, ?_, ?_⟩
  · intro j v v' hv hv'
    exact (hc.2 j v v' hv hv').mono (Ren.le_set hs.fresh)
  · intro j v hv
    obtain ⟨hlt, rfl⟩ := Array.getElem?_eq_some_iff.1 hv
    exact (Array.all_eq_true.1 h1) j hlt
  · exact ⟨rfl, .inl rfl, fun z i _ hi => absurd hi (by simp)⟩

/-- A block that is no cells, set anew. -/
theorem Sim.setObj {ρ : Ren} {h : H} {w : World} (hs : Sim P ρ h w) {r : Nat} {B : Blk} {o o' : Obj} (hB : ρ r = some (some B)) (hro : B.ro = false) (hr : ObjRel P ρ B o o') :
    Sim P ρ (h.setIfInBounds r o) { w with heap := w.heap.setIfInBounds B.b o' } ∧ Later ρ h w ρ (h.setIfInBounds r o) { w with heap := w.heap.setIfInBounds B.b o' } := by
  have hlt := hs.lt hB
  have hwlt := hs.wlt hB
  refine ⟨⟨?_, ?_, hs.one⟩, .refl ρ, by simp, by simp, rfl, rfl, rfl, ?_, ?_, fun _ _ hB => .inl hB⟩
  · intro i C hC
    by_cases hi : i = r
    · subst hi
      rw [hB] at hC; cases hC
      exact ⟨o, o', by simp [hlt], by simp [hwlt], hr⟩
    · obtain ⟨o2, o2', q1, q2, q3⟩ := hs.live i C hC
      have : C.b ≠ B.b := fun e => hi (hs.one _ _ _ _ hC hB e)
      exact ⟨o2, o2', by rw [Array.getElem?_setIfInBounds_ne (Ne.symm hi)]; exact q1, by
        show (w.heap.setIfInBounds B.b o')[C.b]? = _
        rw [Array.getElem?_setIfInBounds_ne (Ne.symm this)]; exact q2, q3⟩
  · intro i hi
    have : i ≠ r := fun e => by subst e; rw [hB] at hi; cases hi
    rw [Array.getElem?_setIfInBounds_ne (Ne.symm this)]; exact hs.dead i hi
  · intro i _ hn
    have : i ≠ r := fun e => by subst e; rw [hB] at hn; cases hn
    exact ⟨hn, by rw [Array.getElem?_setIfInBounds_ne (Ne.symm this)]⟩
  · intro b _ hno
    have : b ≠ B.b := fun e => hno _ B hB hro e.symm
    show (w.heap.setIfInBounds B.b o')[b]? = _
    rw [Array.getElem?_setIfInBounds_ne (Ne.symm this)]

theorem Sim.cellsAt {ρ : Ren} {h : H} {w : World} (hs : Sim P ρ h w) {i : Nat} {B : Blk} {c : Array Value} {e : TypeId} {f : Nat × Nat} (hB : ρ i = some (some B)) (hc : h[i]? = some (.cells c e f)) :
    ∃ c' f', w.heap[B.b]? = some (.cells c' B.e f') ∧ ObjRel P ρ B (.cells c e f) (.cells c' B.e f') ∧ e = B.e ∧ c'.size = B.nc ∧ c.size + B.s ≤ B.nc := by
  obtain ⟨o, o', q1, q2, q3⟩ := hs.live _ _ hB
  rw [hc] at q1
  cases q1
  have q4 := q3
  unfold ObjRel at q3
  cases o' with
  | cells c' e' f' =>
    obtain ⟨he, he', hs', hf, _⟩ := q3
    subst he'
    exact ⟨c', f', q2, q4, he, hs', hf⟩
  | _ => exact q3.elim

/-- The draws do not count. -/
theorem Sim.drew {ρ : Ren} {h : H} {w : World} (hs : Sim P ρ h w) (n : Nat) : Sim P ρ h { w with drawn := n } := ⟨hs.live, hs.dead, hs.one⟩
theorem Later.drew (ρ : Ren) (h : H) (w : World) (n : Nat) : Later ρ h w ρ h { w with drawn := n } :=
  ⟨.refl ρ, Nat.le_refl _, Nat.le_refl _, rfl, rfl, rfl, fun _ _ hn => ⟨hn, rfl⟩, fun _ _ _ => rfl, fun _ _ hB => .inl hB⟩

end Go.Abs

/-
The abstract heap: programs of the model's memory that run alike on both sides.
-/
namespace Go.Abs
open Go
variable {P : Program} {α β γ δ : Type}

theorem arun_bind' (s : Sem α) (f : α → Sem β) (h : H) :
    arun P (s.bind f) h = (arun P s h).bind fun x => arun P (f x.1) x.2 := by
  induction s generalizing h with
  | pure a => simp [Sem.bind, arun]
  | load m a k ih =>
    simp only [Sem.bind, arun]
    split
    · split <;> simp [ih]
    · simp
  | store m a v k ih =>
    simp only [Sem.bind, arun]
    split <;> simp [ih]
  | new o k ih =>
    simp only [Sem.bind, arun]
    split
    · simp [ih]
    · split
      · split <;> simp [ih]
      · simp
  | getObj r k ih =>
    simp only [Sem.bind, arun]
    split
    · split <;> simp [ih]
    · simp
  | setObj r o k ih =>
    simp only [Sem.bind, arun]
    split
    · split <;> simp [ih]
    · simp
  | program k ih => simp [Sem.bind, arun, ih]
  | mark m k ih =>
    simp only [Sem.bind, arun]
    split <;> simp [ih]
  | shape r k ih => simp [Sem.bind, arun]
  | freeze a n k ih => simp [Sem.bind, arun]
  | frozen a k ih => simp [Sem.bind, arun]
  | choose q k ih => simp [Sem.bind, arun]
  | sys c k ih => simp [Sem.bind, arun]
  | halt h => simp [Sem.bind, arun]

@[simp] theorem arun_bind (s : Sem α) (f : α → Sem β) (h : H) :
    arun P (s >>= f) h = (arun P s h).bind fun x => arun P (f x.1) x.2 := arun_bind' s f h
@[simp] theorem arun_pure (a : α) (h : H) : arun P (Pure.pure a : Sem α) h = some (a, h) := rfl
@[simp] theorem arun_map (s : Sem α) (f : α → β) (h : H) : arun P (f <$> s) h = (arun P s h).bind fun x => some (f x.1, x.2) := arun_bind' s _ h
@[simp] theorem arun_stuck (s : String) (h : H) : arun P (stuck s : Sem α) h = none := rfl
@[simp] theorem arun_unsupported (u : Unsupported) (h : H) : arun P (unsupported u : Sem α) h = none := rfl
@[simp] theorem arun_goPanic (v : Value) (h : H) : arun P (goPanic v : Sem α) h = none := rfl
@[simp] theorem arun_program (h : H) : arun P program h = some (P, h) := rfl
@[simp] theorem arun_choose (q : Question) (h : H) : arun P (choose q) h = none := rfl
@[simp] theorem arun_ite (c : Prop) [Decidable c] (x y : Sem α) (h : H) : arun P (if c then x else y) h = if c then arun P x h else arun P y h := by split <;> rfl
@[simp] theorem arun_shape (r : Nat) (h : H) : arun P (shape r) h = none := rfl
@[simp] theorem arun_frozen (a : Addr) (h : H) : arun P (frozen a) h = none := rfl
@[simp] theorem arun_load (a : Addr) (h : H) : arun P (load a) h = (cell? h a).map fun v => (v, h) := by
  simp only [load, arun, if_true]
  cases cell? h a <;> rfl
@[simp] theorem arun_store (a : Addr) (v : Value) (h : H) : arun P (store a v) h = if v.oneCell' = true ∧ free h a = true then some ((), setCell h a v) else none := by
  simp only [store, arun, true_and]
@[simp] theorem arun_underlying (t : TypeId) (h : H) : arun P (underlying t) h = (P.underlying t).map fun d => (d, h) := by
  simp only [underlying, arun_bind, arun_program, Option.bind_some]
  cases P.underlying t <;> rfl
@[simp] theorem arun_typeInfo (t : TypeId) (h : H) : arun P (typeInfo t) h = (P.info? t).map fun d => (d, h) := by
  simp only [typeInfo, arun_bind, arun_program, Option.bind_some]
  cases P.info? t <;> rfl
@[simp] theorem arun_sizeOf (t : TypeId) (h : H) : arun P (sizeOf t) h = (P.info? t).map fun d => (d.size, h) := by
  simp only [sizeOf, arun_bind, arun_typeInfo]
  cases P.info? t <;> rfl
@[simp] theorem arun_zeroValue (t : TypeId) (h : H) : arun P (zeroValue t) h = ((P.info? t).bind (·.zero)).map fun v => (v, h) := by
  simp only [zeroValue, arun_bind, arun_typeInfo]
  cases P.info? t with
  | none => rfl
  | some i => simp only [Option.map_some, Option.bind_some]; cases i.zero <;> rfl
theorem arun_askRoom_some {n : Nat} {h h1 : H} {u : Unit} (hr : arun P (askRoom n) h = some (u, h1)) : h1 = h := by
  unfold askRoom at hr
  split at hr
  · simp [mark, arun] at hr
  · simp at hr; exact hr.symm

theorem run_typeInfo' (w : World) (t : TypeId) : (typeInfo t).run P w = match P.info? t with | some i => .ok i w | none => .halt (.stuck "no such type") w := by
  simp only [typeInfo, Sem.run_bind, run_program, Result.andThen_ok]
  cases P.info? t <;> rfl
theorem run_underlying' (w : World) (t : TypeId) : (underlying t).run P w = match P.underlying t with | some i => .ok i w | none => .halt (.stuck "no such type") w := by
  simp only [underlying, Sem.run_bind, run_program, Result.andThen_ok]
  cases P.underlying t <;> rfl

/-- Both run alike, from here on. -/
def SR (P : Program) (ρ : Ren) (R : Ren → α → β → Prop) (s : Sem α) (s' : Sem β) : Prop :=
  ∀ ρ1 h w, Ren.Le ρ ρ1 → Sim P ρ1 h w → ∀ a h1, arun P s h = some (a, h1) →
    ∃ b w1 ρ2, s'.run P w = .ok b w1 ∧ Later ρ1 h w ρ2 h1 w1 ∧ Sim P ρ2 h1 w1 ∧ R ρ2 a b

abbrev SV (P : Program) (ρ : Ren) (s s' : Sem Value) : Prop := SR P ρ (fun ρ => VRel P ρ) s s'
/-- The same thing on both sides. -/
def Eqs : Ren → α → α → Prop := fun _ a b => a = b
def Tops : Ren → α → β → Prop := fun _ _ _ => True

theorem SR.mono {ρ : Ren} {R R' : Ren → α → β → Prop} {s : Sem α} {s' : Sem β} (h : SR P ρ R s s') (hr : ∀ ρ1 a b, Ren.Le ρ ρ1 → R ρ1 a b → R' ρ1 a b) : SR P ρ R' s s' := by
  intro ρ1 h0 w hl hs a h1 ha
  obtain ⟨b, w1, ρ2, h2, h3, h4, h5⟩ := h ρ1 h0 w hl hs a h1 ha
  exact ⟨b, w1, ρ2, h2, h3, h4, hr _ _ _ (hl.trans h3.le) h5⟩

theorem SR.pure {ρ : Ren} {R : Ren → α → β → Prop} {a : α} {b : β} (h : ∀ ρ1, Ren.Le ρ ρ1 → R ρ1 a b) : SR P ρ R (Pure.pure a) (Pure.pure b) := by
  intro ρ1 h0 w hl hs x h1 hx
  simp only [arun_pure, Option.some.injEq, Prod.mk.injEq] at hx
  obtain ⟨rfl, rfl⟩ := hx
  exact ⟨b, w, ρ1, rfl, .refl _ _ _, hs, h ρ1 hl⟩

theorem SR.bind {ρ : Ren} {R : Ren → α → β → Prop} {R' : Ren → γ → δ → Prop} {s : Sem α} {s' : Sem β} {f : α → Sem γ} {f' : β → Sem δ}
    (h : SR P ρ R s s') (hf : ∀ ρ1 a b, Ren.Le ρ ρ1 → R ρ1 a b → SR P ρ1 R' (f a) (f' b)) : SR P ρ R' (s >>= f) (s' >>= f') := by
  intro ρ1 h0 w hl hs x h1 hx
  simp only [arun_bind, Option.bind_eq_some_iff] at hx
  obtain ⟨⟨a, h2⟩, ha, hx⟩ := hx
  obtain ⟨b, w1, ρ2, e1, e2, e3, e4⟩ := h ρ1 h0 w hl hs a h2 ha
  obtain ⟨c, w2, ρ3, g1, g2, g3, g4⟩ := hf ρ2 a b (hl.trans e2.le) e4 ρ2 h2 w1 (.refl _) e3 x h1 hx
  exact ⟨c, w2, ρ3, by simp [e1, g1], e2.trans g2, g3, g4⟩

theorem SR.fail {ρ : Ren} {R : Ren → α → β → Prop} {s : Sem α} {s' : Sem β} (h : ∀ h0, arun P s h0 = none) : SR P ρ R s s' := by
  intro ρ1 h0 w _ _ a h1 ha
  rw [h] at ha; cases ha

theorem SR.stuck {ρ : Ren} {R : Ren → α → β → Prop} {m : String} {s' : Sem β} : SR P ρ R (stuck m) s' := SR.fail fun _ => rfl
theorem SR.unsupported {ρ : Ren} {R : Ren → α → β → Prop} {m : Unsupported} {s' : Sem β} : SR P ρ R (unsupported m) s' := SR.fail fun _ => rfl

/-- A program that asks nothing of memory. -/
theorem SR.still {ρ : Ren} {s : Sem α} (r : Option α) (ha : ∀ h, arun P s h = r.map fun x => (x, h)) (hw : ∀ a, r = some a → ∀ w, s.run P w = .ok a w) :
    SR P ρ (fun _ a b => a = b ∧ r = some a) s s := by
  intro ρ1 h0 w _ hs a h1 hx
  rw [ha] at hx
  cases r with
  | none => cases hx
  | some x =>
    simp only [Option.map_some, Option.some.injEq, Prod.mk.injEq] at hx
    obtain ⟨rfl, rfl⟩ := hx
    exact ⟨x, w, ρ1, hw x rfl w, .refl _ _ _, hs, rfl, rfl⟩

theorem SR.underlying {ρ : Ren} (t : TypeId) : SR P ρ (fun _ a b => a = b ∧ P.underlying t = some a) (Go.underlying t) (Go.underlying t) :=
  SR.still _ (fun h => arun_underlying t h) fun a h w => by rw [run_underlying', h]
theorem SR.typeInfo {ρ : Ren} (t : TypeId) : SR P ρ (fun _ a b => a = b ∧ P.info? t = some a) (Go.typeInfo t) (Go.typeInfo t) :=
  SR.still _ (fun h => arun_typeInfo t h) fun a h w => by rw [run_typeInfo', h]
theorem SR.sizeOf {ρ : Ren} (t : TypeId) : SR P ρ (fun _ a b => a = b ∧ (P.info? t).map (·.size) = some a) (Go.sizeOf t) (Go.sizeOf t) :=
  SR.still _ (fun h => by rw [arun_sizeOf]; cases P.info? t <;> rfl) fun a h w => by
    simp only [Go.sizeOf, Sem.run_bind, run_typeInfo']
    cases hi : P.info? t with
    | none => rw [hi] at h; cases h
    | some i => rw [hi] at h; cases h; rfl
theorem SR.zeroValue {ρ : Ren} (t : TypeId) : SR P ρ (fun _ a b => a = b ∧ (P.info? t).bind (·.zero) = some a) (Go.zeroValue t) (Go.zeroValue t) :=
  SR.still _ (fun h => by rw [arun_zeroValue]) fun a h w => by
    simp only [Go.zeroValue, Sem.run_bind, run_typeInfo']
    cases hi : P.info? t with
    | none => rw [hi] at h; cases h
    | some i =>
      rw [hi] at h
      simp only [Option.bind_some] at h
      simp only [Result.andThen_ok, h]
      rfl
theorem SR.isAgg {ρ : Ren} (t : TypeId) : SR P ρ (fun _ a b => a = b) (Go.isAgg t) (Go.isAgg t) := by
  unfold Go.isAgg
  refine SR.bind (SR.underlying t) fun ρ1 a b _ h => ?_
  obtain ⟨rfl, _⟩ := h
  split <;> exact SR.pure fun _ _ => rfl
theorem SR.askRoom {ρ : Ren} (n : Nat) : SR P ρ (fun _ _ _ => True) (Go.askRoom n) (Go.askRoom n) := by
  intro ρ1 h0 w _ hs a h1 hx
  obtain rfl := arun_askRoom_some hx
  exact ⟨(), w, ρ1, by simp, .refl _ _ _, hs, trivial⟩

theorem SR.load {ρ : Ren} {a a' : Addr} (ha : ARel ρ a a') : SR P ρ (fun ρ v v' => VRel P ρ v v' ∧ v.oneCell' = true) (Go.load a) (Go.load a') := by
  intro ρ1 h0 w hl hs v h1 hx
  rw [arun_load] at hx
  cases hc : cell? h0 a with
  | none => rw [hc] at hx; cases hx
  | some u =>
    rw [hc] at hx
    simp only [Option.map_some, Option.some.injEq, Prod.mk.injEq] at hx
    obtain ⟨rfl, rfl⟩ := hx
    obtain ⟨v', e1, e2, e3⟩ := hs.cell (ha.mono hl) hc
    exact ⟨v', w, ρ1, by simp [e1], .refl _ _ _, hs, e2, e3⟩

theorem SR.store {ρ : Ren} {a a' : Addr} {v v' : Value} (ha : ARel ρ a a') (hv : VRel P ρ v v') : SR P ρ (fun _ _ _ => True) (Go.store a v) (Go.store a' v') := by
  intro ρ1 h0 w hl hs u h1 hx
  rw [arun_store] at hx
  split at hx
  · rename_i hc
    simp only [Option.some.injEq, Prod.mk.injEq] at hx
    obtain ⟨-, rfl⟩ := hx
    obtain ⟨⟨u', e1⟩, e2, e3, e4⟩ := hs.setCell (ha.mono hl) hc.2 (hv.mono hl) hc.1
    refine ⟨(), w.setCell a' v', ρ1, ?_, e4, e3, trivial⟩
    have h1 : v'.oneCell' = true := by rw [hv.oneCell]; exact hc.1
    rw [run_store P w a' v' .plain h1]
    simp [e1, e2]
  · cases hx

theorem ARel.add {ρ : Ren} {a a' : Addr} (n : Nat) (h : ARel ρ a a') : ARel ρ (a.add n) (a'.add n) := by
  obtain ⟨hs, h | ⟨B, hB, rfl⟩⟩ := h
  · unfold Addr.add; split
    · exact ⟨hs, .inl h⟩
    · exact ⟨rfl, .inl h⟩
  · unfold Addr.add; split
    · exact ⟨hs, .inr ⟨B, hB, rfl⟩⟩
    · exact ⟨rfl, .inr ⟨B, hB, by simp; omega⟩⟩

theorem SR.loadCellsFrom {ρ : Ren} {a a' : Addr} (ha : ARel ρ a a') (n : Nat) : ∀ (i : Nat) (acc acc' : Array Value), RRel P ρ acc acc' → acc.all Value.oneCell' = true →
    SR P ρ (fun ρ x x' => RRel P ρ x x' ∧ x.all Value.oneCell' = true ∧ x.size = acc.size + n) (Go.loadCellsFrom a i n acc) (Go.loadCellsFrom a' i n acc') := by
  induction n generalizing ρ with
  | zero => intro i acc acc' h h1; exact SR.pure fun _ hl => ⟨h.mono hl, h1, rfl⟩
  | succ n ih =>
    intro i acc acc' h h1
    unfold Go.loadCellsFrom
    refine SR.bind (SR.load (ha.add i)) fun ρ1 v v' hl hv => ?_
    refine (ih (ha.mono hl) (i + 1) (acc.push v) (acc'.push v') ?_ ?_).mono ?_
    · refine ⟨by simp [h.1], fun j u u' hu hu' => ?_⟩
      rw [Array.getElem?_push] at hu hu'
      rw [← h.1] at hu'
      split at hu
      · cases hu
        rename_i e
        rw [if_pos e] at hu'; cases hu'; exact hv.1
      · rename_i e
        rw [if_neg e] at hu'; exact (h.2 j u u' hu hu').mono hl
    · simp [h1, hv.2]
    · rintro ρ2 x x' _ ⟨e1, e2, e3⟩
      exact ⟨e1, e2, by rw [e3]; simp; omega⟩

theorem RRel.empty (ρ : Ren) : RRel P ρ #[] #[] := ⟨rfl, fun i u u' h => by simp at h⟩

theorem SR.loadCells {ρ : Ren} {a a' : Addr} (ha : ARel ρ a a') (n : Nat) :
    SR P ρ (fun ρ x x' => RRel P ρ x x' ∧ x.all Value.oneCell' = true ∧ x.size = n) (Go.loadCells a n) (Go.loadCells a' n) :=
  (SR.loadCellsFrom ha n 0 #[] #[] (RRel.empty ρ) (by simp)).mono fun _ _ _ _ h => ⟨h.1, h.2.1, by rw [h.2.2]; simp⟩

theorem SR.storeCells {ρ : Ren} {a a' : Addr} (ha : ARel ρ a a') : ∀ (l l' : List Value) (i : Nat), RRel P ρ l.toArray l'.toArray →
    SR P ρ (fun _ _ _ => True) (Go.storeCells a l i) (Go.storeCells a' l' i) := by
  intro l
  induction l generalizing ρ with
  | nil =>
    intro l' i h
    have : l' = [] := List.eq_nil_of_length_eq_zero (by simpa using h.1.symm)
    subst this
    unfold Go.storeCells
    exact SR.pure fun _ _ => trivial
  | cons v l ih =>
    intro l' i h
    cases l' with
    | nil => have := h.1; simp at this
    | cons v' l' =>
      unfold Go.storeCells
      have h0 : VRel P ρ v v' := h.2 0 v v' (by simp) (by simp)
      refine SR.bind (SR.store (ha.add i) h0) fun ρ1 _ _ hl _ => ?_
      refine ih (ha.mono hl) l' (i + 1) ⟨?_, fun j u u' hu hu' => ?_⟩
      · have := h.1; simpa using this
      · exact (h.2 (j + 1) u u' (by simpa using hu) (by simpa using hu')).mono hl

theorem SV.loadVar {ρ : Ren} {a a' : Addr} (ha : ARel ρ a a') (t : TypeId) : SV P ρ (Go.loadVar t a) (Go.loadVar t a') := by
  unfold Go.loadVar
  refine SR.bind (SR.isAgg t) fun ρ1 b b' hl hb => ?_
  cases hb
  split
  · refine SR.bind (SR.sizeOf t) fun ρ2 n n' hl2 hn => ?_
    obtain ⟨rfl, _⟩ := hn
    refine SR.bind (SR.loadCells ((ha.mono hl).mono hl2) n) fun ρ3 x x' _ hx => ?_
    exact SR.pure fun _ hl4 => .agg (hx.1.mono hl4).1 (hx.1.mono hl4).2
  · exact (SR.load (ha.mono hl)).mono fun _ _ _ _ h => h.1

theorem VRel.cells {ρ : Ren} {v v' : Value} (h : VRel P ρ v v') : RRel P ρ v.cells v'.cells := by
  have one : ∀ {u u' : Value}, VRel P ρ u u' → RRel P ρ #[u] #[u'] := fun {u u'} h =>
    ⟨rfl, fun i x x' hx hx' => by
      cases i with
      | zero => simp at hx hx'; subst hx; subst hx'; exact h
      | succ i => simp at hx⟩
  cases h with
  | agg hs hx => exact ⟨hs, hx⟩
  | bool b => exact one (.bool b)
  | int k n => exact one (.int k n)
  | float k b => exact one (.float k b)
  | complex k a b => exact one (.complex k a b)
  | string s => exact one (.string s)
  | nilp => exact one .nilp
  | ptr h => exact one (.ptr h)
  | nils => exact one .nils
  | slc hc hn h => exact one (.slc hc hn h)
  | opn h => exact one (.opn h)
  | nilm => exact one .nilm
  | map h => exact one (.map h)
  | nilc => exact one .nilc
  | func hf hx h1 hy h2 => exact one (.func hf hx h1 hy h2)
  | yld h => exact one (.yld h)
  | nilFunc => exact one .nilFunc
  | iface h => exact one (.iface h)
  | nilIface => exact one .nilIface
  | tuple hx h => exact one (.tuple hx h)

theorem SR.storeVar {ρ : Ren} {a a' : Addr} {v v' : Value} (ha : ARel ρ a a') (hv : VRel P ρ v v') (t : TypeId) : SR P ρ (fun _ _ _ => True) (Go.storeVar t a v) (Go.storeVar t a' v') := by
  unfold Go.storeVar
  refine SR.bind (SR.sizeOf t) fun ρ1 n n' hl hn => ?_
  obtain ⟨rfl, _⟩ := hn
  rw [← (hv.cells).1]
  split
  · exact SR.bind SR.stuck fun ρ2 _ _ hl2 (h : False) => h.elim
  · have hc : RRel P ρ1 v.cells.toList.toArray v'.cells.toList.toArray := by
      rw [Array.toArray_toList, Array.toArray_toList]; exact (hv.mono hl).cells
    exact SR.storeCells (ha.mono hl) _ _ 0 hc

end Go.Abs

/-
The abstract heap: the instructions, one by one.
-/
namespace Go.Abs
open Go
variable {P : Program} {ρ : Ren}

theorem SR.sureAddr {v v' : Value} (hv : VRel P ρ v v') : SR P ρ (fun ρ a a' => ARel ρ a a') (Instr.sureAddr v) (Instr.sureAddr v') := by
  cases hv <;> first | exact SR.stuck | skip
  rename_i a a' h
  exact SR.pure fun _ hl => h.mono hl

theorem SV.loadAt {v v' : Value} (t : TypeId) (hv : VRel P ρ v v') : SV P ρ (Instr.loadAt t v) (Instr.loadAt t v') := by
  unfold Instr.loadAt
  exact SR.bind (SR.sureAddr hv) fun ρ1 a a' _ ha => SV.loadVar ha t

theorem SR.storeAt {v v' u u' : Value} (t : TypeId) (hv : VRel P ρ v v') (hu : VRel P ρ u u') : SR P ρ (fun _ _ _ => True) (Instr.storeAt t v u) (Instr.storeAt t v' u') := by
  unfold Instr.storeAt
  exact SR.bind (SR.sureAddr hv) fun ρ1 a a' hl ha => SR.storeVar ha (hu.mono hl) t

theorem SR.fieldPlace {a a' : Addr} (ha : ARel ρ a a') (f : Field) : SR P ρ (fun ρ a a' => ARel ρ a a') (Go.fieldPlace a f) (Go.fieldPlace a' f) := by
  unfold Go.fieldPlace
  refine SR.bind (SR.sizeOf f.type) fun ρ1 n n' hl hn => ?_
  obtain ⟨rfl, _⟩ := hn
  split
  · refine SR.fail fun h0 => ?_
    unfold Go.partAt Go.byteOf
    simp
  · exact SR.pure fun _ hl2 => ((ha.mono hl).mono hl2).add _

theorem SV.fieldAt {v v' : Value} (s : TypeId) (i : Nat) (hv : VRel P ρ v v') : SV P ρ (Instr.fieldAt s v i) (Instr.fieldAt s v' i) := by
  unfold Instr.fieldAt
  refine SR.bind (SR.underlying s) fun ρ1 d d' hl hd => ?_
  obtain ⟨rfl, _⟩ := hd
  split
  · split
    · refine SR.bind (SR.sureAddr (hv.mono hl)) fun ρ2 a a' hl2 ha => ?_
      refine SR.bind (SR.fieldPlace ha _) fun ρ3 b b' hl3 hb => ?_
      exact SR.pure fun _ hl4 => .ptr (hb.mono hl4)
    · exact SR.stuck
  · exact SR.stuck

theorem SR.asIntOf {v v' : Value} (hv : VRel P ρ v v') : SR P ρ (fun _ a b => a = b) (Go.asIntOf v) (Go.asIntOf v') := by
  cases hv <;> first | exact SR.stuck | exact SR.unsupported | exact SR.pure fun _ _ => rfl

theorem SR.boundsPanic {α β : Type} {R : Ren → α → β → Prop} {k : IntKind} {x y : Int} {c : BoundsCode} {s' : Sem β} : SR P ρ R (Go.boundsPanic k x y c : Sem α) s' := by
  refine SR.fail fun h0 => ?_
  unfold Go.boundsPanic
  split
  · simp
  · simp [runtimePanic]

def idxTail (t : TypeId) (k : IntKind) (i : Int) (base : Option Addr) (len : Nat) (elem : TypeId) : Sem Value := do
  let tiny := len ≤ 1 && (match ← underlying t with | .array .. => true | _ => false)
  match base with
  | some a =>
    if 0 ≤ i ∧ i < len then pure (.pointer (some (a.add (i.toNat * (← Go.sizeOf elem)))))
    else if tiny then Go.unsupported (.noEntry "op/indexAddr.an index out of range at an array of length 0 or 1 (ledger 616)")
    else Go.boundsPanic k i len .index
  | none => Go.boundsPanic k i 0 .index

theorem SV.idxTail {t : TypeId} {k : IntKind} {i : Int} {len : Nat} {e : TypeId} {b b' : Option Addr}
    (hx : (b = none ∧ b' = none) ∨ ∃ a a', b = some a ∧ b' = some a' ∧ (ARel ρ a a' ∨ len = 0)) : SV P ρ (idxTail t k i b len e) (idxTail t k i b' len e) := by
  unfold Abs.idxTail
  refine SR.bind (SR.underlying t) fun ρ1 d d' hl hd => ?_
  obtain ⟨rfl, _⟩ := hd
  rcases hx with ⟨rfl, rfl⟩ | ⟨a, a', rfl, rfl, ha⟩
  · exact SR.boundsPanic
  · dsimp only
    split
    · rename_i hlt
      refine SR.bind (SR.sizeOf e) fun ρ4 s s' hl4 hs => ?_
      obtain ⟨rfl, _⟩ := hs
      refine SR.pure fun _ hl5 => .ptr ?_
      rcases ha with ha | ha
      · exact (((ha.mono hl).mono hl4).mono hl5).add _
      · exfalso; omega
    · repeat' split
      all_goals first | exact SR.unsupported | exact SR.boundsPanic

theorem SV.indexAt {v v' i i' : Value} (t : TypeId) (hv : VRel P ρ v v') (hi : VRel P ρ i i') : SV P ρ (Instr.indexAt t v i) (Instr.indexAt t v' i') := by
  unfold Instr.indexAt
  refine SR.bind (SR.asIntOf hi) fun ρ1 k k' hl hk => ?_
  cases hk
  obtain ⟨k, n⟩ := k
  refine SR.bind (SR.underlying t) fun ρ2 d d' hl2 hd => ?_
  obtain ⟨rfl, _⟩ := hd
  have hv2 := (hv.mono hl).mono hl2
  cases d with
  | slice el =>
    cases hv2 with
    | nils => exact SV.idxTail (k := k) (i := n) (len := 0) (e := el) (b := none) (b' := none) (.inl ⟨rfl, rfl⟩)
    | @slc a a' m c hc hn h => exact SV.idxTail (k := k) (i := n) (len := m) (e := el) (b := some a) (b' := some a') (.inr ⟨a, a', rfl, rfl, h.imp id fun h => by omega⟩)
    | @opn a a' m c' h =>
      refine SV.idxTail (k := k) (i := n) (len := m) (e := el) (b := some a) (b' := some a') (.inr ⟨a, a', rfl, rfl, ?_⟩)
      obtain ⟨hs, h | ⟨B, hB, _, _, h2, _, h1 | h1⟩⟩ := h
      · exact .inl ⟨hs, .inl h⟩
      · exact .inl ⟨hs, .inr ⟨B, hB, h1.1⟩⟩
      · right; omega
    | _ => exact SR.bind SR.stuck fun _ _ _ _ (h : False) => h.elim
  | array len el =>
    refine SR.bind (SR.sureAddr hv2) fun ρ3 b b' hl3 hb => ?_
    exact SV.idxTail (k := k) (i := n) (len := len) (e := el) (b := some b) (b' := some b') (.inr ⟨b, b', rfl, rfl, .inl hb⟩)
  | _ => exact SR.bind SR.stuck fun _ _ _ _ (h : False) => h.elim

theorem SR.newRow {c c' : Array Value} (e : TypeId) (hc : RRel P ρ c c') : SR P ρ (fun ρ a a' => ARel ρ a a' ∧ a.off = 0) (Go.newRow e c) (Go.newRow e c') := by
  unfold Go.newRow
  intro ρ1 h w hl hs a h1 hx
  simp only [arun_bind, newObj, arun, plainObj, Bool.false_eq_true, if_false, Option.bind_eq_some_iff] at hx
  obtain ⟨⟨n, h2⟩, e1, e2⟩ := hx
  split at e1
  · rename_i hall
    simp only [Option.some.injEq, Prod.mk.injEq] at e1
    obtain ⟨rfl, rfl⟩ := e1
    simp only [arun_pure, Option.some.injEq, Prod.mk.injEq] at e2
    obtain ⟨rfl, rfl⟩ := e2
    obtain ⟨ρ', g1, g2, g3⟩ := hs.pushCells c c' e (hc.mono hl) hall
    exact ⟨⟨w.heap.size, 0, none⟩, w.alloc (.cells c' e), ρ', by simp, g3, g2, ⟨rfl, .inr ⟨_, g1, rfl⟩⟩, rfl⟩
  · cases e1

theorem flatPtr {a a' : Addr} (h : ARel ρ a a') : VRel P ρ (.pointer (some a)) (.pointer (some a')) := .ptr h

theorem SV.box {v v' : Value} (e : TypeId) (hv : VRel P ρ v v') : SV P ρ (Instr.box e v) (Instr.box e v') := by
  unfold Instr.box Go.newVar
  exact SR.bind (SR.newRow e hv.cells) fun ρ1 a a' _ ha => SR.pure fun _ hl => .ptr (ha.1.mono hl)

theorem flat1_rel {v : Value} (h : flat1 v = true) : VRel P ρ v v := by
  cases v with
  | pointer a => cases a <;> first | exact .nilp | cases h
  | slice a n c =>
    cases a with
    | some a => cases h
    | none =>
      cases n with
      | succ n => cases h
      | zero => cases c with | zero => exact .nils | succ c => cases h
  | map r => cases r <;> first | exact .nilm | cases h
  | chan r => cases r <;> first | exact .nilc | cases h
  | bool b => exact .bool b
  | int k n => exact .int k n
  | float k b => exact .float k b
  | complex k a b => exact .complex k a b
  | string s => exact .string s
  | nilFunc => exact .nilFunc
  | nilIface => exact .nilIface
  | _ => cases h

theorem flat1_eq {v v' : Value} (h : flat1 v = true) (hv : VRel P ρ v v') : v' = v := by
  cases hv <;> first | rfl | cases h

theorem flats_rel {xs : Array Value} (h : xs.all flat1 = true) : RRel P ρ xs xs :=
  ⟨rfl, fun i u u' hu hu' => by
    rw [hu] at hu'; cases hu'
    obtain ⟨hlt, rfl⟩ := Array.getElem?_eq_some_iff.1 hu
    exact flat1_rel (Array.all_eq_true.1 h i hlt)⟩

theorem flats_eq {xs xs' : Array Value} (h : xs.all flat1 = true) (hr : RRel P ρ xs xs') : xs' = xs := by
  apply Array.ext
  · exact hr.1.symm
  · intro i h1 h2
    exact flat1_eq (Array.all_eq_true.1 h i h2) (hr.2 i _ _ (Array.getElem?_eq_getElem h2) (Array.getElem?_eq_getElem h1))

theorem flat_rel {v : Value} (h : flat v = true) : VRel P ρ v v := by
  cases v with
  | agg xs =>
    have hr : RRel P ρ xs xs := flats_rel h
    exact .agg hr.1 hr.2
  | tuple xs =>
    have hr : RRel P ρ xs xs := flats_rel h
    exact .tuple hr.1 hr.2
  | _ => exact flat1_rel h

theorem flat_eq {v v' : Value} (h : flat v = true) (hv : VRel P ρ v v') : v' = v := by
  cases hv with
  | agg hs hx => exact congrArg Value.agg (flats_eq h ⟨hs, hx⟩)
  | tuple hs hx => exact congrArg Value.tuple (flats_eq h ⟨hs, hx⟩)
  | _ => first | rfl | cases h

/-- The zero value of a type names no address. -/
def zok (P : Program) (t : TypeId) : Bool := ((P.info? t).bind (·.zero)).all fun z => z.cells.all flat1

theorem SV.zeroValue {t : TypeId} (h : zok P t = true) : SV P ρ (Go.zeroValue t) (Go.zeroValue t) :=
  (SR.zeroValue t).mono fun _ a b _ hab => by
    obtain ⟨rfl, hz⟩ := hab
    unfold zok at h
    rw [hz] at h
    have h' : a.cells.all flat1 = true := by simpa using h
    cases a with
    | agg xs => exact flat_rel (v := .agg xs) h'
    | _ => exact flat1_rel (by simpa [Value.cells] using h')

theorem SV.alloc {t : TypeId} (h : zok P t = true) : SV P ρ (Instr.alloc t true (.tuple #[])) (Instr.alloc t true (.tuple #[])) := by
  unfold Instr.alloc
  refine SR.bind (SV.zeroValue h) fun ρ1 z z' hl hz => ?_
  unfold Go.newVar
  exact SR.bind (SR.newRow t hz.cells) fun ρ2 a a' _ ha => SR.pure fun _ hl => .ptr (ha.1.mono hl)

/-! Parts -/
theorem RRel.extract {x x' : Array Value} (h : RRel P ρ x x') (i j : Nat) : RRel P ρ (x.extract i j) (x'.extract i j) := by
  refine ⟨by simp [h.1], fun k u u' hu hu' => ?_⟩
  rw [Array.getElem?_extract] at hu hu'
  rw [← h.1] at hu'
  split at hu
  · rename_i hlt
    rw [if_pos hlt] at hu'
    exact h.2 _ _ _ hu hu'
  · cases hu

theorem RRel.append {x x' y y' : Array Value} (h : RRel P ρ x x') (k : RRel P ρ y y') : RRel P ρ (x ++ y) (x' ++ y') := by
  refine ⟨by simp [h.1, k.1], fun i u u' hu hu' => ?_⟩
  rw [Array.getElem?_append] at hu hu'
  rw [← h.1] at hu'
  split at hu
  · rename_i hlt
    rw [if_pos hlt] at hu'
    exact h.2 _ _ _ hu hu'
  · rename_i hlt
    rw [if_neg hlt] at hu'
    exact k.2 _ _ _ hu hu'

theorem RRel.set {x x' : Array Value} (h : RRel P ρ x x') (i : Nat) {v v' : Value} (hv : VRel P ρ v v') : RRel P ρ (x.setIfInBounds i v) (x'.setIfInBounds i v') := by
  refine ⟨by simp [h.1], fun k u u' hu hu' => ?_⟩
  rw [Array.getElem?_setIfInBounds] at hu hu'
  rw [← h.1] at hu'
  split at hu
  · rename_i e
    rw [if_pos e] at hu'
    split at hu
    · rename_i hlt
      rw [if_pos hlt] at hu'
      cases hu; cases hu'; exact hv
    · cases hu
  · rename_i e
    rw [if_neg e] at hu'
    exact h.2 _ _ _ hu hu'

theorem SV.part {x x' : Array Value} (t : TypeId) (h : RRel P ρ x x') (off : Nat) : SV P ρ (Go.part t x off) (Go.part t x' off) := by
  unfold Go.part
  refine SR.bind (SR.isAgg t) fun ρ1 b b' hl hb => ?_
  cases hb
  split
  · refine SR.bind (SR.sizeOf t) fun ρ2 n n' hl2 hn => ?_
    obtain ⟨rfl, _⟩ := hn
    refine SR.pure fun _ hl3 => ?_
    have := (((h.mono hl).mono hl2).mono hl3).extract off (off + n)
    exact .agg this.1 this.2
  · cases hx : x[off]? with
    | none => exact SR.stuck
    | some v =>
      have hlt : off < x'.size := by rw [← h.1]; exact (Array.getElem?_eq_some_iff.1 hx).1
      rw [Array.getElem?_eq_getElem hlt]
      exact SR.pure fun _ hl2 => ((h.2 off _ _ hx (Array.getElem?_eq_getElem hlt)).mono hl).mono hl2

theorem SR.asAgg {v v' : Value} (hv : VRel P ρ v v') : SR P ρ (fun ρ x x' => RRel P ρ x x') (Go.asAgg v) (Go.asAgg v') := by
  cases hv <;> first | exact SR.stuck | skip
  rename_i hs hx
  exact SR.pure fun _ hl => RRel.mono hl ⟨hs, hx⟩

theorem SV.field {v v' : Value} (t : TypeId) (i : Nat) (hv : VRel P ρ v v') : SV P ρ (Instr.field t v i) (Instr.field t v' i) := by
  unfold Instr.field
  refine SR.bind (SR.underlying t) fun ρ1 d d' hl hd => ?_
  obtain ⟨rfl, _⟩ := hd
  split
  · split
    · refine SR.bind (SR.asAgg (hv.mono hl)) fun ρ2 x x' hl2 hx => ?_
      exact SV.part _ hx _
    · exact SR.stuck
  · exact SR.stuck

theorem SV.extract {v v' : Value} (i : Nat) (hv : VRel P ρ v v') : SV P ρ (Instr.extract v i) (Instr.extract v' i) := by
  cases hv <;> first | exact SR.stuck | skip
  rename_i x x' hs hx
  unfold Instr.extract
  dsimp only
  cases h : x[i]? with
  | none => exact SR.stuck
  | some u =>
    have hlt : i < x'.size := by rw [← hs]; exact (Array.getElem?_eq_some_iff.1 h).1
    rw [Array.getElem?_eq_getElem hlt]
    exact SR.pure fun _ hl2 => (hx i _ _ h (Array.getElem?_eq_getElem hlt)).mono hl2

theorem SV.index {v v' i i' : Value} (t : TypeId) (hv : VRel P ρ v v') (hi : VRel P ρ i i') : SV P ρ (Instr.index t v i) (Instr.index t v' i') := by
  unfold Instr.index
  refine SR.bind (SR.asIntOf hi) fun ρ1 k k' hl hk => ?_
  cases hk
  refine SR.bind (SR.underlying t) fun ρ2 d d' hl2 hd => ?_
  obtain ⟨rfl, _⟩ := hd
  have hv2 := (hv.mono hl).mono hl2
  cases d with
  | array len el =>
    cases hv2 with
    | @agg x x' hs hx =>
      dsimp only
      split
      · refine SR.bind (SR.sizeOf el) fun ρ3 s s' hl3 hs' => ?_
        obtain ⟨rfl, _⟩ := hs'
        exact SV.part _ (RRel.mono hl3 ⟨hs, hx⟩) _
      · exact SR.boundsPanic
    | _ => exact SR.stuck
  | string =>
    cases hv2 with
    | string s =>
      dsimp only
      split
      · exact SR.pure fun _ _ => .int _ _
      · exact SR.boundsPanic
    | _ => exact SR.stuck
  | _ => exact SR.stuck

/-! Build -/
def PRel (P : Program) (ρ : Ren) (l l' : List (Nat × Value)) : Prop :=
  l.length = l'.length ∧ ∀ (i : Nat) (p p' : Nat × Value), l[i]? = some p → l'[i]? = some p' → p.1 = p'.1 ∧ VRel P ρ p.2 p'.2

theorem PRel.mono {ρ' : Ren} {l l' : List (Nat × Value)} (hl : Ren.Le ρ ρ') (h : PRel P ρ l l') : PRel P ρ' l l' :=
  ⟨h.1, fun i p p' hp hp' => ⟨(h.2 i p p' hp hp').1, (h.2 i p p' hp hp').2.mono hl⟩⟩

theorem RRel.fold {c c' : Array Value} (h : RRel P ρ c c') (off : Nat) : ∀ (l l' : List (Value × Nat)), l.length = l'.length →
    (∀ (i : Nat) p p', l[i]? = some p → l'[i]? = some p' → VRel P ρ p.1 p'.1 ∧ p.2 = p'.2) →
    RRel P ρ (l.foldl (fun cs (x : Value × Nat) => cs.setIfInBounds (off + x.2) x.1) c) (l'.foldl (fun cs (x : Value × Nat) => cs.setIfInBounds (off + x.2) x.1) c') := by
  intro l
  induction l generalizing c c' with
  | nil =>
    intro l' hl _
    have : l' = [] := List.eq_nil_of_length_eq_zero (by simpa using hl.symm)
    subst this; exact h
  | cons p l ih =>
    intro l' hl hp
    cases l' with
    | nil => simp at hl
    | cons p' l' =>
      have h0 := hp 0 p p' (by simp) (by simp)
      simp only [List.foldl_cons]
      rw [h0.2]
      exact ih (h.set _ h0.1) l' (by simpa using hl) fun i q q' hq hq' => hp (i + 1) q q' (by simpa using hq) (by simpa using hq')

theorem fill_rel (place : Nat → Option (Nat × Nat)) : ∀ (l l' : List (Nat × Value)) (c c' : Array Value), PRel P ρ l l' → RRel P ρ c c' →
    ∀ r, Instr.fill place c l = some r → ∃ r', Instr.fill place c' l' = some r' ∧ RRel P ρ r r' := by
  intro l
  induction l with
  | nil =>
    intro l' c c' hp hc r hr
    have : l' = [] := List.eq_nil_of_length_eq_zero (by simpa using hp.1.symm)
    subst this
    simp only [Instr.fill, Option.some.injEq] at hr ⊢
    subst hr
    exact ⟨c', rfl, hc⟩
  | cons p l ih =>
    intro l' c c' hp hc r hr
    cases l' with
    | nil => have := hp.1; simp at this
    | cons p' l' =>
      obtain ⟨i, v⟩ := p
      obtain ⟨i', v'⟩ := p'
      have h0 := hp.2 0 (i, v) (i', v') (by simp) (by simp)
      obtain ⟨h01, h02⟩ := h0
      dsimp only at h01 h02
      subst h01
      simp only [Instr.fill] at hr ⊢
      cases hpl : place i with
      | none => rw [hpl] at hr; cases hr
      | some os =>
        obtain ⟨off, size⟩ := os
        rw [hpl] at hr
        dsimp only at hr ⊢
        rw [← h02.cells.1, ← hc.1]
        split at hr
        · cases hr
        · rename_i hcond
          rw [if_neg hcond]
          refine ih l' _ _ ⟨by have := hp.1; simpa using this, fun k q q' hq hq' => hp.2 (k + 1) q q' (by simpa using hq) (by simpa using hq')⟩ ?_ r hr
          rw [← Array.foldl_toList, ← Array.foldl_toList]
          refine hc.fold off _ _ (by simp [h02.cells.1]) fun k q q' hq hq' => ?_
          simp only [Array.toList_zipIdx, List.getElem?_zipIdx, Option.map_eq_some_iff] at hq hq'
          obtain ⟨a, ha, rfl⟩ := hq
          obtain ⟨a', ha', rfl⟩ := hq'
          exact ⟨h02.cells.2 k a a' (by simpa using ha) (by simpa using ha'), rfl⟩

theorem SR.mapM_sizes (l : List Field) : ∀ (acc : Array (Nat × Nat)), SR P ρ (fun _ a b => a = b)
    (l.foldlM (fun bs f => do let s ← (do let n ← Go.sizeOf f.type; Pure.pure (f.offset, n)); Pure.pure (bs.push s)) acc)
    (l.foldlM (fun bs f => do let s ← (do let n ← Go.sizeOf f.type; Pure.pure (f.offset, n)); Pure.pure (bs.push s)) acc) := by
  induction l generalizing ρ with
  | nil => intro acc; exact SR.pure fun _ _ => rfl
  | cons f l ih =>
    intro acc
    simp only [List.foldlM_cons]
    refine SR.bind (R := fun _ a b => a = b) ?_ fun ρ1 a b _ hab => ?_
    · refine SR.bind (R := fun _ a b => a = b) ?_ fun ρ1 a b _ hab => ?_
      · refine SR.bind (SR.sizeOf f.type) fun ρ1 n n' _ hn => ?_
        obtain ⟨rfl, _⟩ := hn
        exact SR.pure fun _ _ => rfl
      · subst hab; exact SR.pure fun _ _ => rfl
    · subst hab; exact ih _

theorem SV.build {l l' : Array (Nat × Value)} (t : TypeId) (hz : zok P t = true) (hp : PRel P ρ l.toList l'.toList) : SV P ρ (Instr.build t l) (Instr.build t l') := by
  unfold Instr.build
  refine SR.bind (SV.zeroValue hz) fun ρ1 z z' hl hzz => ?_
  refine SR.bind (SR.underlying t) fun ρ2 d d' hl2 hd => ?_
  obtain ⟨rfl, _⟩ := hd
  cases d with
  | struct fields =>
    dsimp only
    refine SR.bind (R := fun _ a b => a = b) ?_ fun ρ3 a b hl3 hab => ?_
    · rw [Array.mapM_eq_foldlM]
      rw [← Array.foldlM_toList]
      have := SR.mapM_sizes (P := P) (ρ := ρ2) fields.toList #[]
      simpa using this
    · subst hab
      have hc := (((hzz.mono hl2).mono hl3).cells)
      cases hf : Instr.fill (fun x => a[x]?) z.cells l.toList with
      | none => exact SR.stuck
      | some r =>
        obtain ⟨r', hr', hrr⟩ := fill_rel _ _ _ _ _ (((hp.mono hl).mono hl2).mono hl3) hc r hf
        rw [hr']
        exact SR.pure fun _ hl4 => .agg (hrr.mono hl4).1 (hrr.mono hl4).2
  | array len el =>
    dsimp only
    refine SR.bind (SR.sizeOf el) fun ρ3 s s' hl3 hs => ?_
    obtain ⟨rfl, _⟩ := hs
    have hc := (((hzz.mono hl2).mono hl3).cells)
    cases hf : Instr.fill (fun i => some (i * s, s)) z.cells l.toList with
    | none => exact SR.stuck
    | some r =>
      obtain ⟨r', hr', hrr⟩ := fill_rel _ _ _ _ _ (((hp.mono hl).mono hl2).mono hl3) hc r hf
      rw [hr']
      exact SR.pure fun _ hl4 => .agg (hrr.mono hl4).1 (hrr.mono hl4).2
  | _ => exact SR.stuck


/-! Slices -/
theorem SR.zeroFlat {t : TypeId} (h : zok P t = true) : SR P ρ (fun _ a b => a = b ∧ a.cells.all flat1 = true ∧ (P.info? t).bind (·.zero) = some a) (Go.zeroValue t) (Go.zeroValue t) :=
  (SR.zeroValue t).mono fun _ a b _ hab => by
    obtain ⟨rfl, hz⟩ := hab
    unfold zok at h
    rw [hz] at h
    exact ⟨rfl, by simpa using h, hz⟩

theorem flat1_get (z : Array Value) (hz : z.all flat1 = true) (i : Nat) : flat1 z[i]! = true := by
  rcases Nat.lt_or_ge i z.size with h | h
  · rw [getElem!_pos z i h]; exact Array.all_eq_true.1 hz i h
  · rw [getElem!_neg z i (by omega)]; rfl

theorem flats_rep (z : Array Value) (hz : z.all flat1 = true) (n : Nat) : ((Array.range n).map fun i => z[i % z.size]!).all flat1 = true := by
  rw [Array.all_eq_true]
  intro i hi
  simp only [Array.getElem_map]
  exact flat1_get z hz _

theorem SV.buildSlice {l l' : Array (Nat × Value)} (t : TypeId) (n : Nat) (hz : ∀ e, P.underlying t = some (.slice e) → zok P e = true) (hn : n < OPEN) (hp : PRel P ρ l.toList l'.toList) :
    SV P ρ (Instr.buildSlice t n l) (Instr.buildSlice t n l') := by
  unfold Instr.buildSlice
  refine SR.bind (SR.underlying t) fun ρ1 d d' hl hd => ?_
  obtain ⟨rfl, hd⟩ := hd
  cases d with
  | slice e =>
    dsimp only
    refine SR.bind (SR.sizeOf e) fun ρ2 s s' hl2 hs => ?_
    obtain ⟨rfl, _⟩ := hs
    have fin : ∀ (ρ3 : Ren) (z : Array Value), Ren.Le ρ2 ρ3 → z.all flat1 = true → SV P ρ3
        (match Instr.fill (fun i => some (i * s, s)) ((Array.range (n * s)).map fun i => z[i % z.size]!) l.toList with
          | some cells => do Pure.pure (.slice (some (← Go.newRow e cells)) n n)
          | x => Go.stuck "buildSlice: a part of the wrong size")
        (match Instr.fill (fun i => some (i * s, s)) ((Array.range (n * s)).map fun i => z[i % z.size]!) l'.toList with
          | some cells => do Pure.pure (.slice (some (← Go.newRow e cells)) n n)
          | x => Go.stuck "buildSlice: a part of the wrong size") := by
      intro ρ3 z hl3 hzz
      cases hf : Instr.fill (fun i => some (i * s, s)) ((Array.range (n * s)).map fun i => z[i % z.size]!) l.toList with
      | none => exact SR.stuck
      | some r =>
        obtain ⟨r', hr', hrr⟩ := fill_rel _ _ _ _ _ (((hp.mono hl).mono hl2).mono hl3) (flats_rel (flats_rep z hzz (n * s))) r hf
        rw [hr']
        exact SR.bind (SR.newRow e hrr) fun ρ4 a a' hl4 ha => SR.pure fun _ hl5 => .slc hn (Nat.le_refl _) (.inl (ha.1.mono hl5))
    split
    · exact SR.bind SR.unsupported fun _ _ _ _ (h : False) => h.elim
    · split
      · exact fin ρ2 #[] (.refl _) (by simp)
      · refine SR.bind (SR.zeroFlat (hz e hd)) fun ρ3 z z' hl3 hzz => ?_
        obtain ⟨rfl, hzz, _⟩ := hzz
        exact fin ρ3 z.cells hl3 hzz
  | _ => exact SR.stuck

theorem SR.sliceBound {v v' : Value} (hv : VRel P ρ v v') (y y' : Nat) (hy : y ≤ y') (c : BoundsCode) :
    SR P ρ (fun _ a b => a = b ∧ a ≤ y) (Instr.sliceBound v y c) (Instr.sliceBound v' y' c) := by
  unfold Instr.sliceBound
  refine SR.bind (SR.asIntOf hv) fun ρ1 k k' hl hk => ?_
  cases hk
  obtain ⟨k, i⟩ := k
  dsimp only
  split
  · rename_i h
    rw [if_pos (by omega)]
    exact SR.pure fun _ _ => ⟨rfl, by omega⟩
  · exact SR.boundsPanic

def ORl (P : Program) (ρ : Ren) (x x' : Option Value) : Prop := (x = none ∧ x' = none) ∨ ∃ v v', x = some v ∧ x' = some v' ∧ VRel P ρ v v'

theorem ORl.mono {ρ' : Ren} {x x' : Option Value} (hl : Ren.Le ρ ρ') (h : ORl P ρ x x') : ORl P ρ' x x' := by
  rcases h with h | ⟨v, v', h1, h2, h3⟩
  · exact .inl h
  · exact .inr ⟨v, v', h1, h2, h3.mono hl⟩

/-- The bounds of a slice: the capacity of the second may be greater, where no third bound stands. -/
theorem SR.sliceBounds {lo lo' hi hi' mx mx' : Option Value} (b : Bool) (n cap cap' : Nat) (hcap : cap ≤ cap') (hn : n ≤ cap) (hlo : ORl P ρ lo lo') (hhi : ORl P ρ hi hi') (hmx : ORl P ρ mx mx') :
    SR P ρ (fun _ x y => x.1 = y.1 ∧ x.2.1 = y.2.1 ∧ x.1 ≤ x.2.1 ∧ x.2.1 ≤ x.2.2 ∧ ((mx = none ∧ x.2.2 = cap ∧ y.2.2 = cap') ∨ (mx ≠ none ∧ x.2.2 = y.2.2 ∧ x.2.2 ≤ cap)))
      (Instr.sliceBounds b n cap lo hi mx) (Instr.sliceBounds b n cap' lo' hi' mx') := by
  unfold Instr.sliceBounds
  dsimp only
  rcases hmx with ⟨rfl, rfl⟩ | ⟨m, m', rfl, rfl, hm⟩
  · simp only [pure_bind]
    rcases hhi with ⟨rfl, rfl⟩ | ⟨x, x', rfl, rfl, hx⟩
    · rcases hlo with ⟨rfl, rfl⟩ | ⟨y, y', rfl, rfl, hy⟩
      · exact SR.pure fun _ _ => ⟨rfl, rfl, Nat.zero_le _, hn, .inl ⟨trivial, rfl, rfl⟩⟩
      · exact SR.bind (SR.sliceBound hy n n (Nat.le_refl _) _) fun ρ1 a b hl hab => SR.pure fun _ _ => ⟨hab.1, rfl, hab.2, hn, .inl ⟨trivial, rfl, rfl⟩⟩
    · refine SR.bind (SR.sliceBound hx cap cap' hcap _) fun ρ1 a b hl hab => ?_
      obtain ⟨rfl, ha⟩ := hab
      rcases hlo with ⟨rfl, rfl⟩ | ⟨y, y', rfl, rfl, hy⟩
      · exact SR.pure fun _ _ => ⟨rfl, rfl, Nat.zero_le _, ha, .inl ⟨trivial, rfl, rfl⟩⟩
      · exact SR.bind (SR.sliceBound (hy.mono hl) a a (Nat.le_refl _) _) fun ρ2 c d hl2 hcd => SR.pure fun _ _ => ⟨hcd.1, rfl, hcd.2, ha, .inl ⟨trivial, rfl, rfl⟩⟩
  · refine SR.bind (SR.sliceBound hm cap cap' hcap _) fun ρ1 a b hl hab => ?_
    obtain ⟨rfl, ha⟩ := hab
    rcases hhi with ⟨rfl, rfl⟩ | ⟨x, x', rfl, rfl, hx⟩
    · exact SR.bind SR.stuck fun _ _ _ _ (h : False) => h.elim
    · refine SR.bind (SR.sliceBound (hx.mono hl) a a (Nat.le_refl _) _) fun ρ2 c d hl2 hcd => ?_
      obtain ⟨rfl, hc⟩ := hcd
      rcases hlo with ⟨rfl, rfl⟩ | ⟨y, y', rfl, rfl, hy⟩
      · exact SR.pure fun _ _ => ⟨rfl, rfl, Nat.zero_le _, hc, .inr ⟨by simp, rfl, ha⟩⟩
      · exact SR.bind (SR.sliceBound ((hy.mono hl).mono hl2) c c (Nat.le_refl _) _) fun ρ3 p q hl3 hpq => SR.pure fun _ _ => ⟨hpq.1, rfl, hpq.2, hc, .inr ⟨by simp, rfl, ha⟩⟩

end Go.Abs

/-
The abstract heap: slices, maps, and the built-in functions.
-/
namespace Go.Abs
open Go
variable {P : Program} {ρ : Ren}

/-- Not a slice of an unknown capacity. -/
def shut : Value → Bool
  | .slice (some _) _ c => c != OPEN
  | _ => true

theorem SV.slice {v v' : Value} {lo lo' hi hi' mx mx' : Option Value} (t : TypeId) (ht : (match P.underlying t with | some .string | some (.slice _) => true | _ => false) = true) (hs : shut v = true) (hv : VRel P ρ v v') (hlo : ORl P ρ lo lo') (hhi : ORl P ρ hi hi') (hmx : ORl P ρ mx mx') :
    SV P ρ (Instr.slice t v lo hi mx) (Instr.slice t v' lo' hi' mx') := by
  unfold Instr.slice
  refine SR.bind (SR.underlying t) fun ρ1 d d' hl hd => ?_
  obtain ⟨rfl, hd⟩ := hd
  have hv1 := hv.mono hl
  have hlo1 := hlo.mono hl
  have hhi1 := hhi.mono hl
  have hmx1 := hmx.mono hl
  have hsome : mx'.isSome = mx.isSome := by rcases hmx with ⟨rfl, rfl⟩ | ⟨_, _, rfl, rfl, _⟩ <;> rfl
  cases d with
  | string =>
    cases hv1 with
    | string s =>
      dsimp only
      rw [hsome]
      split
      · exact SR.bind SR.stuck fun _ _ _ _ (h : False) => h.elim
      · refine SR.bind (SR.sliceBounds false s.size s.size s.size (Nat.le_refl _) (Nat.le_refl _) hlo1 hhi1 (.inl ⟨rfl, rfl⟩)) fun ρ2 x y hl2 hxy => ?_
        obtain ⟨l, h, m⟩ := x
        obtain ⟨l', h', m'⟩ := y
        obtain ⟨e1, e2, _⟩ := hxy
        dsimp only at e1 e2
        subst e1; subst e2
        exact SR.pure fun _ _ => .string _
    | _ => exact SR.stuck
  | slice e =>
    cases hv1 with
    | nils =>
      dsimp only
      refine SR.bind (SR.sliceBounds true 0 0 0 (Nat.le_refl _) (Nat.le_refl _) hlo1 hhi1 hmx1) fun ρ2 x y hl2 hxy => ?_
      obtain ⟨l, h, m⟩ := x
      obtain ⟨l', h', m'⟩ := y
      obtain ⟨e1, e2, e3, e4, e5⟩ := hxy
      dsimp only at e1 e2 e3 e4 e5
      subst e1; subst e2
      have hm0 : m = 0 ∧ m' = 0 := by rcases e5 with ⟨_, a, b⟩ | ⟨_, a, _⟩ <;> omega
      obtain ⟨rfl, rfl⟩ := hm0
      have hh0 : h = 0 := by omega
      subst hh0
      have hl0 : l = 0 := by omega
      subst hl0
      refine SR.bind (SR.sizeOf e) fun ρ3 s s' hl3 hs3 => ?_
      obtain ⟨rfl, _⟩ := hs3
      exact SR.pure fun _ hl4 => .nils
    | @slc a a' n c hc hnc ha =>
      dsimp only
      refine SR.bind (SR.sliceBounds true n c c (Nat.le_refl _) hnc hlo1 hhi1 hmx1) fun ρ2 x y hl2 hxy => ?_
      obtain ⟨l, h, m⟩ := x
      obtain ⟨l', h', m'⟩ := y
      obtain ⟨e1, e2, e3, e4, e5⟩ := hxy
      dsimp only at e1 e2 e3 e4 e5
      subst e1; subst e2
      have em : m = m' := by rcases e5 with ⟨_, a, b⟩ | ⟨_, a, _⟩ <;> omega
      subst em
      have hmc : m ≤ c := by rcases e5 with ⟨_, a, _⟩ | ⟨_, _, a⟩ <;> omega
      refine SR.bind (SR.sizeOf e) fun ρ3 s s' hl3 hs3 => ?_
      obtain ⟨rfl, _⟩ := hs3
      refine SR.pure fun _ hl4 => ?_
      split
      · exact .slc (by omega) (by omega) (ha.imp (fun h => ((h.mono hl2).mono hl3).mono hl4) fun h => by omega)
      · exact .slc (by omega) (by omega) (ha.imp (fun h => (((h.mono hl2).mono hl3).mono hl4).add _) fun h => by omega)
    | @opn a a' n c' h => simp [shut] at hs
    | _ => exact SR.stuck
  | _ => simp [hd] at ht


/-- What a program does, from a given pair of worlds. -/
def Does (P : Program) (ρ : Ren) (h : H) (w : World) (v : Value) (h1 : H) (s' : Sem Value) : Prop :=
  ∃ v' w1 ρ2, s'.run P w = .ok v' w1 ∧ Later ρ h w ρ2 h1 w1 ∧ Sim P ρ2 h1 w1 ∧ VRel P ρ2 v v'

theorem SV.does {s s' : Sem Value} {h : H} {w : World} (hs : SV P ρ s s') (hsim : Sim P ρ h w) {v : Value} {h1 : H} (hr : arun P s h = some (v, h1)) : Does P ρ h w v h1 s' := by
  obtain ⟨b, w1, ρ2, e1, e2, e3, e4⟩ := hs ρ h w (.refl _) hsim v h1 hr
  exact ⟨b, w1, ρ2, e1, e2, e3, e4⟩

def aslice (P : Program) (t : TypeId) (a : Addr) (n : Nat) (lo hi mx : Option Value) (h : H) : Option Value :=
  match P.underlying t with
  | some (.slice e) =>
    match P.info? e with
    | none => none
    | some i =>
      match h[a.block]? with
      | some (.cells c e' (0, 0)) =>
        if e' = e ∧ 0 < i.size ∧ n ≤ (c.size - a.off) / i.size then
          match arun P (Instr.sliceBounds true n ((c.size - a.off) / i.size) lo hi mx) h with
          | some ((l, u, m), _) =>
            if mx.isNone then some (.slice (some (a.add (l * i.size))) (u - l) OPEN)
            else if m < OPEN then some (.slice (some (if m = l then a else a.add (l * i.size))) (u - l) (m - l)) else none
          | none => none
        else none
      | _ => none
  | _ => none

theorem sliceBounds_heap {b : Bool} {n k : Nat} {lo hi mx : Option Value} {h h1 : H} {x : Nat × Nat × Nat} (hr : arun P (Instr.sliceBounds b n k lo hi mx) h = some (x, h1)) : h1 = h := by
  have key : ∀ (v : Value) (y : Nat) (c : BoundsCode) (g g1 : H) (z : Nat), arun P (Instr.sliceBound v y c) g = some (z, g1) → g1 = g := by
    intro v y c g g1 z hz
    unfold Instr.sliceBound at hz
    simp only [arun_bind, Option.bind_eq_some_iff] at hz
    obtain ⟨⟨⟨kk, i⟩, g2⟩, e1, e2⟩ := hz
    have : g2 = g := by
      cases v with
      | int k n => simp [Go.asIntOf] at e1; exact e1.2.symm
      | pointer a => cases a <;> simp [Go.asIntOf] at e1
      | _ => simp [Go.asIntOf] at e1
    subst this
    dsimp only at e2
    split at e2
    · simp at e2; exact e2.2.symm
    · exfalso
      have := SR.boundsPanic (P := P) (ρ := fun _ => none) (α := Nat) (β := Nat) (R := fun _ _ _ => True) (k := kk) (x := i) (y := (y : Int)) (c := c) (s' := Go.stuck "")
      unfold Go.boundsPanic at e2
      split at e2 <;> simp [runtimePanic] at e2
  unfold Instr.sliceBounds at hr
  dsimp only at hr
  cases mx <;> cases hi <;> cases lo <;> simp only [pure_bind, arun_bind, Option.bind_eq_some_iff, arun_pure, Option.some.injEq, Prod.mk.injEq, arun_stuck] at hr
  all_goals first
    | exact hr.2.symm
    | (obtain ⟨⟨a, g⟩, e1, e2⟩ := hr; cases e1; done)
    | (obtain ⟨⟨a, g⟩, e1, _, e2⟩ := hr; obtain rfl := key _ _ _ _ _ _ e1; exact e2.symm)
    | (obtain ⟨⟨a, g⟩, e1, ⟨b, g2⟩, e2, _, e3⟩ := hr; obtain rfl := key _ _ _ _ _ _ e1; obtain rfl := key _ _ _ _ _ _ e2; exact e3.symm)
    | (obtain ⟨⟨a, g⟩, e1, ⟨b, g2⟩, e2, ⟨c, g3⟩, e3, _, e4⟩ := hr; obtain rfl := key _ _ _ _ _ _ e1; obtain rfl := key _ _ _ _ _ _ e2; obtain rfl := key _ _ _ _ _ _ e3; exact e4.symm)
    | (obtain ⟨⟨a, g⟩, _, ⟨b, g2⟩, e2, _⟩ := hr; cases e2; done)

theorem szOf_eq {e : TypeId} {i : TypeInfo} (hi : P.info? e = some i) : szOf P e = i.size := by simp [szOf, hi]

theorem aslice_does {t : TypeId} {a a' : Addr} {n c' : Nat} {lo lo' hi hi' mx mx' : Option Value} {h : H} {w : World} (hsim : Sim P ρ h w) (ho : ORel P ρ a a' n c')
    (hlo : ORl P ρ lo lo') (hhi : ORl P ρ hi hi') (hmx : ORl P ρ mx mx') {v : Value} (hv : aslice P t a n lo hi mx h = some v) :
    Does P ρ h w v h (Instr.slice t (.slice (some a') n c') lo' hi' mx') := by
  unfold aslice at hv
  split at hv
  case h_2 => cases hv
  rename_i e hd
  split at hv
  case h_1 => cases hv
  rename_i i hi0
  split at hv
  case h_2 => cases hv
  rename_i c e' hb
  split at hv
  case isFalse => cases hv
  rename_i hc
  obtain ⟨rfl, hsz, hnk⟩ := hc
  obtain ⟨hsp, hdead | ⟨B, hB, hro, hpos, hnc, hmax, hcase⟩⟩ := ho
  · rw [hsim.dead _ hdead] at hb; cases hb
  · obtain ⟨c2, f2, q2, q3, he, hcs, hfit⟩ := hsim.cellsAt hB hb
    have hsz' : szOf P B.e = i.size := by rw [← he]; exact szOf_eq hi0
    rw [hsz'] at hcase hpos
    have hk : (c.size - a.off) / i.size ≤ c' := by
      rcases hcase with ⟨rfl, hsum⟩ | ⟨rfl, hend⟩
      · dsimp only at hsum
        have h1 : c.size - a.off ≤ c' * i.size := by omega
        exact Nat.le_trans (Nat.div_le_div_right h1) (by rw [Nat.mul_div_cancel _ hsz]; exact Nat.le_refl _)
      · have : c.size - a.off = 0 := by omega
        rw [this, Nat.zero_div]
        exact Nat.le_refl _
    have hsr := SR.sliceBounds (P := P) (ρ := ρ) (lo := lo) (lo' := lo') (hi := hi) (hi' := hi') (mx := mx) (mx' := mx') true n ((c.size - a.off) / i.size) c' hk hnk hlo hhi hmx
    split at hv
    case h_2 => cases hv
    rename_i l u m hh hrun
    obtain rfl := sliceBounds_heap hrun
    obtain ⟨⟨l', u', m'⟩, w1, ρ2, g1, g2, g3, g4⟩ := hsr ρ hh w (.refl _) hsim _ _ hrun
    obtain ⟨e1, e2, e3, e4, e5⟩ := g4
    dsimp only at e1 e2 e3 e4 e5
    subst e1; subst e2
    have hrun' : (Instr.slice t (.slice (some a') n c') lo' hi' mx').run P w = .ok (.slice (if m' = l then some a' else some (a'.add (l * i.size))) (u - l) (m' - l)) w1 := by
      simp only [Instr.slice, Sem.run_bind, run_underlying', hd, Result.andThen_ok, g1, sizeOf, run_typeInfo', hi0, Sem.run_pure, Option.map_some]
    have hB2 : ρ2 a.block = some (some B) ∨ ρ2 a.block = some none := by
      rcases g2.le _ _ hB with h | h <;> first | exact .inl h | exact .inr h
    have hadd : ∀ (k : Nat) (x : Addr), x.spot = none → x.add k = ⟨x.block, x.off + k, none⟩ := fun k x hx => by
      unfold Addr.add
      split
      · rename_i h0; subst h0; cases x; simp at hx; simp [hx]
      · rfl
    have hmk : m ≤ (c.size - a.off) / i.size := by rcases e5 with ⟨_, a, _⟩ | ⟨_, _, a⟩ <;> omega
    have hmul : m * i.size ≤ c.size - a.off := Nat.le_trans (Nat.mul_le_mul_right _ hmk) (Nat.div_mul_le_self _ _)
    have hlm : l * i.size ≤ m * i.size := Nat.mul_le_mul_right _ (by omega)
    split at hv
    · rename_i hmx0
      cases hv
      have hmxn : mx = none := by cases mx <;> simp at hmx0 ⊢
      rcases e5 with ⟨_, rfl, rfl⟩ | ⟨hne, _⟩
      case inr => exact absurd hmxn hne
      refine ⟨_, w1, ρ2, hrun', g2, g3, ?_⟩
      have go : ∀ (x : Addr), ORel P ρ2 (a.add (l * i.size)) x (u - l) (m' - l) → VRel P ρ2 (.slice (some (a.add (l * i.size))) (u - l) OPEN) (.slice (some x) (u - l) (m' - l)) := fun x hx => .opn hx
      have goal : ORel P ρ2 (a.add (l * i.size)) (if m' = l then a' else a'.add (l * i.size)) (u - l) (m' - l) := by
        rw [hadd _ _ hsp]
        refine ⟨rfl, ?_⟩
        rcases hB2 with hB2 | hB2
        · refine .inr ⟨B, hB2, hro, by rw [hsz']; exact hpos, by omega, by omega, ?_⟩
          rw [hsz']
          rcases hcase with ⟨rfl, hsum⟩ | ⟨rfl, hend⟩
          · dsimp only at hsum ⊢
            have hml : m' * i.size = (m' - l) * i.size + l * i.size := by rw [← Nat.add_mul]; congr 1; omega
            split
            · rename_i hml0
              subst hml0
              right
              refine ⟨by omega, by omega⟩
            · left
              rw [hadd _ _ rfl]
              dsimp only
              refine ⟨by congr 1; omega, by omega⟩
          · have : l = 0 := by omega
            subst this
            right
            refine ⟨by omega, by simpa using hend⟩
        · exact .inl hB2
      have := go _ goal
      split <;> simp_all
    · rename_i hmx0
      split at hv
      case isFalse => cases hv
      rename_i hmo
      cases hv
      rcases e5 with ⟨hm0, _⟩ | ⟨_, rfl, _⟩
      · subst hm0; simp at hmx0
      refine ⟨_, w1, ρ2, hrun', g2, g3, ?_⟩
      have goal : ARel ρ2 (if m = l then a else a.add (l * i.size)) (if m = l then a' else a'.add (l * i.size)) ∨ m - l = 0 := by
        rcases hcase with ⟨ha', hsum⟩ | ⟨rfl, hend⟩
        · left
          have : ARel ρ2 a a' := by
            refine ⟨hsp, ?_⟩
            rcases hB2 with hB2 | hB2
            · exact .inr ⟨B, hB2, ha'⟩
            · exact .inl hB2
          split
          · exact this
          · exact this.add _
        · right; omega
      have := VRel.slc (P := P) (ρ := ρ2) (n := u - l) (c := m - l) (by omega) (by omega) goal
      split <;> simp_all

end Go.Abs

/-
The abstract heap: append.
-/
namespace Go.Abs
open Go
variable {P : Program} {ρ : Ren}

/-- What is told of the second argument of append: how many elements, and their cells. -/
inductive Src (P : Program) (u : TypeId) (i : TypeInfo) (x : Value) (m : Nat) (news : Array Value) (w : World) : Prop
  | string (h0 : P.underlying u = some .string) (h1 : (Builtin.lenOf x).run P w = .ok m w) (h2 : ∀ n, (Builtin.firstCells i.size m x).run P { w with drawn := n } = .ok news { w with drawn := n })
  | slice (e2) (h0 : P.underlying u = some (.slice e2)) (h1 : (Builtin.lenOf x).run P w = .ok m w) (h2 : ∀ n, (Builtin.firstCells i.size m x).run P { w with drawn := n } = .ok news { w with drawn := n })
  | zeros (k0 k) (h0 : P.underlying u = some (.int k0)) (h1 : x = .int k0 k) (h2 : ¬ (IntKind.i64.wrap k < 0)) (h3 : ¬ (IntKind.i64.wrap k * (i.bytes : Int) > 2 ^ 48)) (h4 : m = (IntKind.i64.wrap k).toNat)
      (h5 : m * i.size ≠ 0) (z) (h6 : i.zero = some z) (h7 : news = Builtin.zeroCells z.cells m)

theorem run_append_place {t u ty e : TypeId} {i : TypeInfo} {base : Option Addr} {n c m : Nat} {x : Value} {news : Array Value} {w : World}
    (ht : P.underlying t = some (.slice e)) (hi : P.info? e = some i) (hx : Src P u i x m news w) (hroom : n + m ≤ c) :
    (Builtin.append_ #[t, u] ty #[.slice base n c, x]).run P w =
      match base with
      | some a => ((Go.storeCells (a.add (n * i.size)) news.toList).run P w).andThen fun _ w1 => .ok (.slice base (n + m) c) w1
      | none => .ok (.slice base (n + m) c) w := by
  cases hx with
  | string h0 h1 h2 =>
    have h3 := h2 w.drawn
    cases base <;> simp [Builtin.append_, run_underlying', ht, h0, sizeOf, run_typeInfo', hi, h1, h3, hroom]
  | slice e2 h0 h1 h2 =>
    have h3 := h2 w.drawn
    cases base <;> simp [Builtin.append_, run_underlying', ht, h0, sizeOf, run_typeInfo', hi, h1, h3, hroom]
  | zeros k0 k h0 h1 h2 h3 h4 h5 z h6 h7 =>
    subst h1; subst h4; subst h7
    have h3' : ¬ (281474976710656 < IntKind.i64.wrap k * (i.bytes : Int)) := h3
    cases base <;> simp [Builtin.append_, run_underlying', ht, h0, sizeOf, run_typeInfo', hi, asInt, asIntOf, h2, h3', hroom, h5, Go.zeroValue, h6]

theorem run_append_new {t u ty e : TypeId} {i : TypeInfo} {z : Value} {base : Option Addr} {n c m : Nat} {x : Value} {olds news : Array Value} {w : World}
    (ht : P.underlying t = some (.slice e)) (hi : P.info? e = some i) (hz : i.zero = some z) (hx : Src P u i x m news w) (hroom : c < n + m)
    (hold : ∀ d, (Builtin.firstCells i.size n (.slice base n c)).run P { w with drawn := d } = .ok olds { w with drawn := d })
    (hb : (n + m) * i.bytes ≤ 140737488355328) (hb0 : 0 < i.bytes) :
    ∃ cap w1, n + m ≤ cap ∧ cap ≤ maxLen ∧ w1 = w.drew ∧
      (Builtin.append_ #[t, u] ty #[.slice base n c, x]).run P w =
        .ok (.slice (some ⟨w.heap.size, 0, none⟩) (n + m) cap) (w1.alloc (.cells (olds ++ news ++ Builtin.zeroCells z.cells (cap - (n + m))) e)) := by
  have hnm : n + m ≤ 140737488355328 := Nat.le_trans (Nat.le_mul_of_pos_right _ hb0) hb
  have hml : n + m ≤ maxLen := by unfold maxLen; omega
  refine ⟨grownCap w (n + m) c e, w.drew, grownCap_ge w (n + m) c e, grownCap_le_maxLen w (n + m) c e hml, rfl, ?_⟩
  have hfit := growslice_fits hroom hb
  have hn : ¬ (n + m ≤ c) := by omega
  have h63 : ¬ (9223372036854775807 < ((n : Int) + (m : Int))) := by omega
  have h48 : ¬ (281474976710656 < Builtin.nextslicecap (n + m) c * i.bytes) := by omega
  have hb1 : i.bytes ≠ 0 := by omega
  have ho : (Builtin.firstCells i.size n (.slice base n c)).run P w.drew = .ok olds w.drew := hold (w.drawn + 1)
  cases hx with
  | string h0 h1 h2 =>
    have h3 : (Builtin.firstCells i.size m x).run P w.drew = .ok news w.drew := h2 (w.drawn + 1)
    simp [Builtin.append_, run_underlying', ht, h0, sizeOf, run_typeInfo', hi, Go.zeroValue, hz, h1, hn, h63, h48, hb1, Question.forced, ho, h3, newRow, grownCap]
  | slice e2 h0 h1 h2 =>
    have h3 : (Builtin.firstCells i.size m x).run P w.drew = .ok news w.drew := h2 (w.drawn + 1)
    simp [Builtin.append_, run_underlying', ht, h0, sizeOf, run_typeInfo', hi, Go.zeroValue, hz, h1, hn, h63, h48, hb1, Question.forced, ho, h3, newRow, grownCap]
  | zeros k0 k h0 h1 h2 h3 h4 h5 z' h6 h7 =>
    rw [hz] at h6; cases h6
    subst h1; subst h7
    have h3' : ¬ (281474976710656 < IntKind.i64.wrap k * (i.bytes : Int)) := h3
    have hmi : ((IntKind.i64.wrap k).toNat : Int) = IntKind.i64.wrap k := by omega
    rw [h4] at hn h63 h48 h5 ⊢
    have h63' : ¬ (9223372036854775807 < (n : Int) + max (IntKind.i64.wrap k) 0) := by omega
    simp [Builtin.append_, run_underlying', ht, h0, sizeOf, run_typeInfo', hi, asInt, asIntOf, h2, h3', Go.zeroValue, hz, hn, h63', h48, h5, hb1, Question.forced, ho, newRow, grownCap]


theorem arun_loadCellsFrom {a : Addr} (n : Nat) : ∀ (i : Nat) (acc cs : Array Value) (h h1 : H), arun P (Go.loadCellsFrom a i n acc) h = some (cs, h1) →
    h1 = h ∧ cs.size = acc.size + n ∧ (∀ (j : Nat) (v : Value), acc[j]? = some v → cs[j]? = some v) ∧ ∀ (j : Nat), j < n → ∃ v : Value, cs[acc.size + j]? = some v ∧ cell? h (a.add (i + j)) = some v := by
  induction n with
  | zero =>
    intro i acc cs h h1 hr
    simp only [Go.loadCellsFrom, arun_pure, Option.some.injEq, Prod.mk.injEq] at hr
    obtain ⟨rfl, rfl⟩ := hr
    exact ⟨rfl, rfl, fun _ _ h => h, fun j hj => absurd hj (Nat.not_lt_zero _)⟩
  | succ n ih =>
    intro i acc cs h h1 hr
    simp only [Go.loadCellsFrom, arun_bind, arun_load, Option.bind_eq_some_iff, Option.map_eq_some_iff] at hr
    obtain ⟨⟨v, h2⟩, ⟨v', hv, hvv⟩, hr⟩ := hr
    cases hvv
    obtain ⟨e1, e2, e3, e4⟩ := ih (i + 1) (acc.push v) cs h h1 hr
    refine ⟨e1, by rw [e2]; simp; omega, fun j u hu => e3 j u ?_, fun j hj => ?_⟩
    · rw [Array.getElem?_push]
      have := (Array.getElem?_eq_some_iff.1 hu).1
      rw [if_neg (by omega)]; exact hu
    · cases j with
      | zero => exact ⟨v, by simpa using e3 acc.size v (by simp), by simpa using hv⟩
      | succ j =>
        obtain ⟨u, hu, hc⟩ := e4 j (by omega)
        refine ⟨u, ?_, ?_⟩
        · rw [← hu]; congr 1; simp; omega
        · rw [← hc]; congr 2; omega

/-- A row that is read, on both sides. -/
theorem loadRow {a a' : Addr} {k : Nat} {cs : Array Value} {h h1 : H} {w : World} (hs : Sim P ρ h w) (ha : ARel ρ a a' ∨ k = 0) (hr : arun P (Go.loadCells a k) h = some (cs, h1)) :
    h1 = h ∧ cs.size = k ∧ cs.all Value.oneCell' = true ∧ ∃ cs', RRel P ρ cs cs' ∧ ∀ j v, cs'.toList[j]? = some v → w.cell? (a'.add j) = some v := by
  obtain ⟨e1, e2, _, e4⟩ := arun_loadCellsFrom k 0 #[] cs h h1 hr
  simp only [Array.size_empty, Nat.zero_add] at e2 e4
  rcases ha with ha | rfl
  · have hex : ∀ j : Nat, ∃ v', j < k → w.cell? (a'.add j) = some v' ∧ ∀ v, cs[j]? = some v → VRel P ρ v v' ∧ v.oneCell' = true := by
      intro j
      by_cases hj : j < k
      · obtain ⟨v, hv, hc⟩ := e4 j hj
        obtain ⟨v', g1, g2, g3⟩ := hs.cell (ha.add j) hc
        exact ⟨v', fun _ => ⟨g1, fun u hu => by rw [hv] at hu; cases hu; exact ⟨g2, g3⟩⟩⟩
      · exact ⟨.nilFunc, fun h => absurd h hj⟩
    obtain ⟨f, hf⟩ := Classical.axiomOfChoice hex
    refine ⟨e1, e2, ?_, (Array.range k).map f, ⟨by simp [e2], fun j u u' hu hu' => ?_⟩, fun j v hv => ?_⟩
    · rw [Array.all_eq_true]
      intro j hj
      exact ((hf j (by omega)).2 _ (Array.getElem?_eq_getElem hj)).2
    · have hj : j < k := by rw [← e2]; exact (Array.getElem?_eq_some_iff.1 hu).1
      simp only [Array.getElem?_map, Array.getElem?_range, if_pos hj, Option.map_some, Option.some.injEq] at hu'
      subst hu'
      exact ((hf j hj).2 _ hu).1
    · have hj : j < k := by
        have := (List.getElem?_eq_some_iff.1 hv).1
        simpa using this
      have : ((Array.range k).map f).toList[j]? = some (f j) := by
        rw [Array.getElem?_toList, Array.getElem?_map, Array.getElem?_range, if_pos hj]; rfl
      rw [this] at hv; cases hv
      exact (hf j hj).1
  · have : cs = #[] := Array.eq_empty_of_size_eq_zero e2
    subst this
    exact ⟨e1, rfl, by simp, #[], RRel.empty ρ, fun j v hv => by simp at hv⟩

def eok (P : Program) (e : TypeId) : Option (TypeInfo × Value) :=
  match P.info? e with
  | some i =>
    match i.zero with
    | some z => if z.cells.size = i.size ∧ 0 < i.size ∧ 0 < i.bytes ∧ z.cells.all flat1 = true then some (i, z) else none
    | none => none
  | none => none

theorem eok_spec {e : TypeId} {i : TypeInfo} {z : Value} (h : eok P e = some (i, z)) : P.info? e = some i ∧ i.zero = some z ∧ z.cells.size = i.size ∧ 0 < i.size ∧ 0 < i.bytes ∧ z.cells.all flat1 = true := by
  unfold eok at h
  split at h
  · rename_i i' hi
    split at h
    · rename_i z' hz
      split at h
      · rename_i hc
        cases h
        exact ⟨hi, hz, hc⟩
      · cases h
    · cases h
  · cases h

def asrc (P : Program) (u : TypeId) (i : TypeInfo) (z : Value) (x : Value) (h : H) : Option (Nat × Array Value) :=
  match P.underlying u with
  | some .string => match x with
    | .string b => if i.size = 1 then some (b.size, b.data.map fun b => .int .u8 b.toNat) else none
    | _ => none
  | some (.slice _) => match x with
    | .slice none _ _ => some (0, #[])
    | .slice (some a) m _ => (arun P (Go.loadCells a (m * i.size)) h).map fun r => (m, r.1)
    | _ => none
  | some (.int k0) => match x with
    | .int k n => if k = k0 ∧ 0 ≤ IntKind.i64.wrap n ∧ IntKind.i64.wrap n * (i.bytes : Int) ≤ 2 ^ 48 ∧ (IntKind.i64.wrap n).toNat ≠ 0 then some ((IntKind.i64.wrap n).toNat, Builtin.zeroCells z.cells (IntKind.i64.wrap n).toNat) else none
    | _ => none
  | _ => none

theorem flat1_one {v : Value} (h : flat1 v = true) : v.oneCell' = true := by cases v <;> first | rfl | cases h

theorem asrc_src {u : TypeId} {i : TypeInfo} {e : TypeId} {z x x' : Value} {h : H} {w : World} {m : Nat} {news : Array Value} (he : eok P e = some (i, z)) (hs : Sim P ρ h w) (hx : VRel P ρ x x')
    (hr : asrc P u i z x h = some (m, news)) : ∃ news', Src P u i x' m news' w ∧ RRel P ρ news news' ∧ news.all Value.oneCell' = true ∧ news.size = m * i.size := by
  obtain ⟨hi, hz, hzs, hsz, hby, hfl⟩ := eok_spec he
  unfold asrc at hr
  split at hr
  · rename_i hu
    cases hx <;> simp only [reduceCtorEq] at hr
    rename_i b
    split at hr
    · rename_i h1
      cases hr
      refine ⟨_, .string hu rfl fun n => ?_, flats_rel ?_, ?_, ?_⟩
      · simp only [Builtin.firstCells]
        have : b.extract 0 b.size = b := by simp
        rw [this]; rfl
      · rw [Array.all_eq_true]; intro j hj; simp only [Array.getElem_map]; rfl
      · rw [Array.all_eq_true]; intro j hj; simp only [Array.getElem_map]; rfl
      · rw [Array.size_map, h1, Nat.mul_one]; rfl
    · cases hr
  · rename_i e2 hu
    cases hx <;> simp only [reduceCtorEq] at hr
    · cases hr
      exact ⟨#[], .slice e2 hu rfl fun n => by simp [Builtin.firstCells], RRel.empty ρ, by simp, by simp⟩
    · rename_i a a' n c hc hnc ha
      simp only [Option.map_eq_some_iff] at hr
      obtain ⟨⟨cs, h1⟩, hr, e⟩ := hr
      cases e
      obtain ⟨_, g2, g3, cs', g4, g5⟩ := loadRow hs (ha.imp id fun h => by rw [h] at hnc; simp [Nat.le_zero.1 hnc]) hr
      refine ⟨cs', .slice e2 hu rfl fun d => ?_, g4, g3, g2⟩
      have := run_firstCells_some (P := P) { w with drawn := d } i.size m a' m c cs'.toList (by rw [Array.length_toList, ← g4.1, g2]) g5
      rw [Array.toArray_toList] at this
      exact this
    · rename_i a a' n c' ho
      simp only [Option.map_eq_some_iff] at hr
      obtain ⟨⟨cs, h1⟩, hr, e⟩ := hr
      cases e
      have ha : ARel ρ a a' ∨ m * i.size = 0 := by
        obtain ⟨hsp, hd | ⟨B, hB, _, _, hn, _, ⟨h1, _⟩ | ⟨h1, _⟩⟩⟩ := ho
        · exact .inl ⟨hsp, .inl hd⟩
        · exact .inl ⟨hsp, .inr ⟨B, hB, h1⟩⟩
        · right; have : m = 0 := by omega
          simp [this]
      obtain ⟨_, g2, g3, cs', g4, g5⟩ := loadRow hs ha hr
      refine ⟨cs', .slice e2 hu rfl fun d => ?_, g4, g3, g2⟩
      have := run_firstCells_some (P := P) { w with drawn := d } i.size m a' m c' cs'.toList (by rw [Array.length_toList, ← g4.1, g2]) g5
      rw [Array.toArray_toList] at this
      exact this
  · rename_i k0 hu
    cases hx <;> simp only [reduceCtorEq] at hr
    rename_i k n
    split at hr
    · rename_i hc
      obtain ⟨rfl, h1, h2, h3⟩ := hc
      cases hr
      have hall : (Builtin.zeroCells z.cells (IntKind.i64.wrap n).toNat).all flat1 = true := by
        unfold Builtin.zeroCells
        rw [Array.all_eq_true]
        intro j hj
        simp only [Array.getElem_map]
        exact flat1_get _ hfl _
      refine ⟨_, .zeros k n hu rfl (by omega) (by omega) rfl ?_ z hz rfl, flats_rel hall, ?_, ?_⟩
      · exact Nat.mul_ne_zero h3 (by omega)
      · rw [Array.all_eq_true]
        intro j hj
        exact flat1_one (Array.all_eq_true.1 hall j hj)
      · rw [size_zeroCells, hzs]
    · cases hr
  · cases hr

end Go.Abs

/-
The abstract heap: append, both sides.
-/
namespace Go.Abs
open Go
variable {P : Program} {ρ : Ren}

def appendTo (P : Program) (e : TypeId) (i : TypeInfo) (s : Value) (m : Nat) (news : Array Value) (h : H) : Option (Value × H) :=
  match s with
  | .slice none 0 0 =>
    if m = 0 then some (.slice none 0 0, h)
    else if m * i.bytes ≤ 140737488355328 then some (.slice (some ⟨h.size, 0, none⟩) m OPEN, h.push (.cells news e)) else none
  | .slice (some a) n c =>
    if c = OPEN then
      match h[a.block]? with
      | some (.cells cs e' (0, 0)) =>
        if e' = e then
          if a.off + (n + m) * i.size ≤ cs.size then (arun P (Go.storeCells (a.add (n * i.size)) news.toList) h).map fun r => (.slice (some a) (n + m) OPEN, r.2)
          else if a.off + n * i.size = cs.size ∧ (n + m) * i.bytes ≤ 140737488355328 then
            some (.slice (some ⟨h.size, 0, none⟩) (n + m) OPEN, (h.setIfInBounds a.block tomb).push (.cells (cs.extract a.off cs.size ++ news) e))
          else none
        else none
      | _ => none
    else if n + m ≤ c then (arun P (Go.storeCells (a.add (n * i.size)) news.toList) h).map fun r => (.slice (some a) (n + m) c, r.2)
    else if (n + m) * i.bytes ≤ 140737488355328 then
      (arun P (Go.loadCells a (n * i.size)) h).map fun r => (.slice (some ⟨h.size, 0, none⟩) (n + m) OPEN, h.push (.cells (r.1 ++ news) e))
    else none
  | _ => none

def aappend (P : Program) (ts : Array TypeId) (args : Array Value) (h : H) : Option (Value × H) :=
  match ts.toList, args.toList with
  | [t, u], [s, x] =>
    match P.underlying t with
    | some (.slice e) =>
      match eok P e with
      | some (i, z) =>
        match asrc P u i z x h with
        | some (m, news) => appendTo P e i s m news h
        | none => none
      | none => none
    | _ => none
  | _, _ => none

theorem add_spot {a : Addr} (h : a.spot = none) (k : Nat) : a.add k = ⟨a.block, a.off + k, none⟩ := by
  unfold Addr.add
  split
  · rename_i h0; subst h0; cases a; simp at h; simp [h]
  · rfl

theorem arun_loadCellsFrom_row {a : Addr} {cs : Array Value} {e : TypeId} {f : Nat × Nat} {h : H} (hb : h[a.block]? = some (.cells cs e f)) (hs : a.spot = none) (n : Nat) :
    ∀ (i : Nat) (acc : Array Value), a.off + i + n ≤ cs.size → arun P (Go.loadCellsFrom a i n acc) h = some (acc ++ cs.extract (a.off + i) (a.off + i + n), h) := by
  induction n with
  | zero => intro i acc _; simp [Go.loadCellsFrom]; omega
  | succ n ih =>
    intro i acc hle
    have hlt : a.off + i < cs.size := by omega
    have hc : cell? h (a.add i) = some cs[a.off + i] := by
      rw [add_spot hs]
      simp only [cell?, hb, Option.isSome_none, Bool.false_eq_true, if_false]
      exact Array.getElem?_eq_getElem hlt
    simp only [Go.loadCellsFrom, arun_bind, arun_load, hc, Option.map_some, Option.bind_some]
    rw [ih (i + 1) _ (by omega)]
    congr 2
    apply Array.ext'
    simp only [Array.toList_append, Array.toList_push, Array.toList_extract, List.append_assoc]
    congr 1
    rw [List.extract_eq_take_drop, List.extract_eq_take_drop]
    have e1 : a.off + i + (n + 1) - (a.off + i) = n + 1 := by omega
    have e2 : a.off + (i + 1) + n - (a.off + (i + 1)) = n := by omega
    have e3 : a.off + (i + 1) = a.off + i + 1 := by omega
    rw [e1, e2, e3, List.drop_eq_getElem_cons (i := a.off + i) (by simpa using hlt), List.take_succ_cons]
    simp

theorem arun_loadCells_row {a : Addr} {cs : Array Value} {e : TypeId} {f : Nat × Nat} {h : H} (hb : h[a.block]? = some (.cells cs e f)) (hs : a.spot = none) (n : Nat) (hn : a.off + n ≤ cs.size) :
    arun P (Go.loadCells a n) h = some (cs.extract a.off (a.off + n), h) := by
  have := arun_loadCellsFrom_row (P := P) hb hs n 0 #[] (by simpa using hn)
  simpa [Go.loadCells] using this

/-- A grown row. -/
theorem Sim.pushGrownF {h : H} {w : World} (hs : Sim P ρ h w) {e : TypeId} {i : TypeInfo} {z : Value} (he : eok P e = some (i, z)) {x x' : Array Value} {n cap : Nat} {f : Nat × Nat} (hfr : tame (cap * i.size) f) (hx : RRel P ρ x x') (h1 : x.all Value.oneCell' = true)
    (hn : x.size = n * i.size) (hcap : n ≤ cap) (hmax : cap ≤ maxLen) :
    ∃ ρ', VRel P ρ' (.slice (some ⟨h.size, 0, none⟩) n OPEN) (.slice (some ⟨w.heap.size, 0, none⟩) n cap) ∧
      Sim P ρ' (h.push (.cells x e)) (w.alloc (.cells (x' ++ Builtin.zeroCells z.cells (cap - n)) e f)) ∧ Later ρ h w ρ' (h.push (.cells x e)) (w.alloc (.cells (x' ++ Builtin.zeroCells z.cells (cap - n)) e f)) := by
  obtain ⟨hi, hz, hzs, hsz, hby, hfl⟩ := eok_spec he
  have hsize : (x' ++ Builtin.zeroCells z.cells (cap - n)).size = cap * i.size := by
    rw [Array.size_append, size_zeroCells, hzs, ← hx.1, hn, ← Nat.add_mul]
    congr 1; omega
  have hr : ObjRel P (ρ.set h.size (some ⟨w.heap.size, 0, false, e, cap * i.size⟩)) ⟨w.heap.size, 0, false, e, cap * i.size⟩ (.cells x e) (.cells (x' ++ Builtin.zeroCells z.cells (cap - n)) e f) := by
    refine ⟨rfl, rfl, hsize, ?_, ?_, ?_, ?_⟩
    · simp only [Nat.add_zero]; rw [hn]; exact Nat.mul_le_mul_right _ hcap
    · intro j v v' hv hv'
      have hj := (Array.getElem?_eq_some_iff.1 hv).1
      simp only [Nat.add_zero] at hv'
      rw [Array.getElem?_append, if_pos (by rw [← hx.1]; exact hj)] at hv'
      exact (hx.2 j v v' hv hv').mono (Ren.le_set hs.fresh)
    · intro j v hv
      obtain ⟨hlt, rfl⟩ := Array.getElem?_eq_some_iff.1 hv
      exact Array.all_eq_true.1 h1 j hlt
    · simp only [Bool.false_eq_true, if_false]
      refine ⟨trivial, hfr, fun z' j hz' hj => ?_⟩
      simp only [hi, Option.bind_some, hz, Option.some.injEq] at hz'
      subst hz'
      simp only [Nat.add_zero] at hj ⊢
      rw [Array.getElem?_append, if_neg (by rw [← hx.1]; omega)]
      have e1 : x.size + j - x'.size = j := by rw [← hx.1]; omega
      rw [e1]
      have hjlt : j < (cap - n) * z.cells.size := by
        rw [hzs, Nat.sub_mul]; omega
      simp only [Builtin.zeroCells, Array.getElem?_map, Array.getElem?_range, if_pos hjlt, Option.map_some]
      have hm : j % z.cells.size < z.cells.size := Nat.mod_lt _ (by omega)
      rw [getElem!_pos z.cells _ hm, Array.getElem?_eq_getElem hm]
  obtain ⟨g1, g2⟩ := hs.push _ _ ⟨w.heap.size, 0, false, e, cap * i.size⟩ rfl hr
  refine ⟨_, .opn ⟨rfl, .inr ⟨_, Ren.set_same _ _ _, rfl, ?_, hcap, hmax, .inl ⟨rfl, ?_⟩⟩⟩, g1, g2⟩
  · rw [szOf_eq hi]; exact hsz
  · simp [szOf_eq hi]


theorem Sim.pushGrown {h : H} {w : World} (hs : Sim P ρ h w) {e : TypeId} {i : TypeInfo} {z : Value} (he : eok P e = some (i, z)) {x x' : Array Value} {n cap : Nat} (hx : RRel P ρ x x') (h1 : x.all Value.oneCell' = true)
    (hn : x.size = n * i.size) (hcap : n ≤ cap) (hmax : cap ≤ maxLen) :
    ∃ ρ', VRel P ρ' (.slice (some ⟨h.size, 0, none⟩) n OPEN) (.slice (some ⟨w.heap.size, 0, none⟩) n cap) ∧
      Sim P ρ' (h.push (.cells x e)) (w.alloc (.cells (x' ++ Builtin.zeroCells z.cells (cap - n)) e)) ∧ Later ρ h w ρ' (h.push (.cells x e)) (w.alloc (.cells (x' ++ Builtin.zeroCells z.cells (cap - n)) e)) :=
  hs.pushGrownF he (.inl rfl) hx h1 hn hcap hmax

/-- A block whose cells have moved. -/
theorem Sim.kill {h : H} {w : World} (hs : Sim P ρ h w) {i : Nat} {B : Blk} (hB : ρ i = some (some B)) :
    Sim P (ρ.set i none) (h.setIfInBounds i tomb) w ∧ Later ρ h w (ρ.set i none) (h.setIfInBounds i tomb) w := by
  have hle : Ren.Le ρ (ρ.set i none) := fun j t hj => by
    by_cases e : j = i
    · subst e; exact .inr (Ren.set_same _ _ _)
    · rw [Ren.set_ne _ _ e]; exact .inl hj
  refine ⟨⟨?_, ?_, ?_⟩, hle, by simp, Nat.le_refl _, rfl, rfl, rfl, ?_, fun _ _ _ => rfl, ?_⟩
  · intro j C hC
    by_cases e : j = i
    · subst e; rw [Ren.set_same] at hC; cases hC
    · rw [Ren.set_ne _ _ e] at hC
      obtain ⟨o, o', q1, q2, q3⟩ := hs.live j C hC
      exact ⟨o, o', by rw [Array.getElem?_setIfInBounds_ne (Ne.symm e)]; exact q1, q2, q3.mono hle⟩
  · intro j hj
    by_cases e : j = i
    · subst e
      have := hs.lt hB
      simp [this]
    · rw [Ren.set_ne _ _ e] at hj
      rw [Array.getElem?_setIfInBounds_ne (Ne.symm e)]; exact hs.dead j hj
  · intro j k C D hC hD he
    have hj : j ≠ i := fun e => by subst e; rw [Ren.set_same] at hC; cases hC
    have hk : k ≠ i := fun e => by subst e; rw [Ren.set_same] at hD; cases hD
    rw [Ren.set_ne _ _ hj] at hC
    rw [Ren.set_ne _ _ hk] at hD
    exact hs.one j k C D hC hD he
  · intro j _ hn
    have hj : j ≠ i := fun e => by subst e; rw [hB] at hn; cases hn
    exact ⟨by rw [Ren.set_ne _ _ hj]; exact hn, by rw [Array.getElem?_setIfInBounds_ne (Ne.symm hj)]⟩
  · intro j C hC
    have hj : j ≠ i := fun e => by subst e; rw [Ren.set_same] at hC; cases hC
    rw [Ren.set_ne _ _ hj] at hC
    exact .inl hC

theorem run_storeCells_tame (g o : Nat) (t : TypeId) : ∀ (vs : List Value) (i : Nat) (cur : Array Value) (fr : Nat × Nat) (w : World), w.heap[g]? = some (.cells cur t fr) → tame cur.size fr → o + i + vs.length ≤ cur.size → (∀ v ∈ vs, v.oneCell' = true) →
    (storeCells ⟨g, o, none⟩ vs i).run P w = .ok () (w.setRow g (cur.toList.take (o + i) ++ vs ++ cur.toList.drop (o + i + vs.length)).toArray)
  | [], i, cur, fr, w, hg, _, _, _ => by
    simp only [storeCells, List.append_nil, List.length_nil, Nat.add_zero, List.take_append_drop, Array.toArray_toList]
    rw [setRow_self w g cur t fr hg]
    rfl
  | v :: rest, i, cur, fr, w, hg, hfr, hl, h1 => by
    have hi : o + i < cur.size := by simp at hl; omega
    have hadd : (⟨g, o, none⟩ : Addr).add i = ⟨g, o + i, none⟩ := by unfold Addr.add; split <;> simp_all
    have hcell : w.cell? ⟨g, o + i, none⟩ = some cur[o + i] := by simp [World.cell?, hg, hi]
    have hfro : w.frozen? ⟨g, o + i, none⟩ = false := frozen_tame hg hfr hi
    have hst : (store ((⟨g, o, none⟩ : Addr).add i) v).run P w = .ok () (w.setRow g (cur.setIfInBounds (o + i) v)) := by
      rw [hadd, run_store P w _ v _ (h1 v (by simp)), hcell]
      simp [hfro, setCell_eq_setRow w g (o + i) cur t fr v hg]
    have ih := run_storeCells_tame g o t rest (i + 1) (cur.setIfInBounds (o + i) v) fr (w.setRow g (cur.setIfInBounds (o + i) v)) (setRow_heap w g cur _ t _ hg) (by simpa using hfr) (by simp at hl ⊢; omega) (fun x hx => h1 x (by simp [hx]))
    simp only [storeCells, Sem.run_bind, hst, Result.andThen_ok, ih, setRow_setRow]
    congr 3
    have e := list_seg_step cur.toList (o + i) v rest (by simp at hl ⊢; omega)
    simpa [Array.toList_setIfInBounds, Nat.add_assoc] using e

/-- The cells of a block go to a new one, which lies where the old one lay, and what lies behind them is written. -/
theorem Sim.move {h : H} {w : World} (hs : Sim P ρ h w) {e : TypeId} {i : TypeInfo} {z : Value} (he : eok P e = some (i, z)) {k : Nat} {B : Blk} {cs c' news news' : Array Value} {off m : Nat}
    (hB : ρ k = some (some B)) (hro : B.ro = false) (hk : h[k]? = some (.cells cs e (0, 0))) {fr : Nat × Nat} (hw : w.heap[B.b]? = some (.cells c' e fr)) (hoff : off ≤ cs.size)
    (hn : RRel P ρ news news') (hone : news.all Value.oneCell' = true) (hm : news.size = m * i.size) (hfit : cs.size + B.s + news.size ≤ B.nc) :
    ∃ ρ', ρ' h.size = some (some ⟨B.b, B.s + off, false, e, B.nc⟩) ∧
      Sim P ρ' ((h.setIfInBounds k tomb).push (.cells (cs.extract off cs.size ++ news) e)) (w.setRow B.b (c'.toList.take (cs.size + B.s) ++ news'.toList ++ c'.toList.drop (cs.size + B.s + news'.toList.length)).toArray) ∧
      Later ρ h w ρ' ((h.setIfInBounds k tomb).push (.cells (cs.extract off cs.size ++ news) e)) (w.setRow B.b (c'.toList.take (cs.size + B.s) ++ news'.toList ++ c'.toList.drop (cs.size + B.s + news'.toList.length)).toArray) := by
  obtain ⟨hi, hz, hzs, hsz, hby, hfl⟩ := eok_spec he
  obtain ⟨c2, f2, q2, q3, hBe, hcs, hfit2⟩ := hs.cellsAt hB hk
  rw [hw] at q2
  injection q2 with q2
  injection q2 with q21 q22 q23
  subst q21; subst q23
  have hsize : h.size ≠ k := fun e => by have := hs.lt hB; omega
  have hf := hs.fresh
  let N : Blk := ⟨B.b, B.s + off, false, e, B.nc⟩
  let ρ' : Ren := (ρ.set k none).set h.size (some N)
  have hk' : ρ' k = some none := by show ((ρ.set k none).set h.size (some N)) k = _; rw [Ren.set_ne _ _ (Ne.symm hsize), Ren.set_same]
  have hnew : ρ' h.size = some (some N) := Ren.set_same _ _ _
  have hoth : ∀ j, j ≠ k → j ≠ h.size → ρ' j = ρ j := fun j h1 h2 => by
    show ((ρ.set k none).set h.size (some N)) j = _; rw [Ren.set_ne _ _ h2, Ren.set_ne _ _ h1]
  have hle : Ren.Le ρ ρ' := fun j t hj => by
    by_cases e1 : j = k
    · subst e1; exact .inr hk'
    · by_cases e2 : j = h.size
      · subst e2; rw [hf] at hj; cases hj
      · rw [hoth j e1 e2]; exact .inl hj
  have hnl : news'.toList.length = news.size := by rw [Array.length_toList]; exact hn.1.symm
  have hcl : c'.toList.length = B.nc := by rw [Array.length_toList]; exact hcs
  generalize hR : (c'.toList.take (cs.size + B.s) ++ news'.toList ++ c'.toList.drop (cs.size + B.s + news'.toList.length)).toArray = R
  have hRsize : R.size = B.nc := by
    rw [← hR]
    simp only [List.size_toArray, List.length_append, List.length_take, List.length_drop, hcl, hnl]
    omega
  have hR1 : ∀ j, j < cs.size + B.s → R[j]? = c'[j]? := fun j hj => by
    rw [← hR, List.getElem?_toArray, List.append_assoc, List.getElem?_append_left (by rw [List.length_take, hcl]; omega), List.getElem?_take, if_pos hj, Array.getElem?_toList]
  have hR2 : ∀ j, j < news.size → R[cs.size + B.s + j]? = news'[j]? := fun j hj => by
    have hl : (c'.toList.take (cs.size + B.s)).length = cs.size + B.s := by rw [List.length_take, hcl]; omega
    rw [← hR, List.getElem?_toArray, List.append_assoc, List.getElem?_append_right (by rw [hl]; omega), hl, Nat.add_sub_cancel_left, List.getElem?_append_left (by rw [hnl]; exact hj), Array.getElem?_toList]
  have hR3 : ∀ j, cs.size + B.s + news.size ≤ j → R[j]? = c'[j]? := fun j hj => by
    have hl : (c'.toList.take (cs.size + B.s) ++ news'.toList).length = cs.size + B.s + news.size := by rw [List.length_append, List.length_take, hcl, hnl]; omega
    rw [← hR, List.getElem?_toArray, List.getElem?_append_right (by rw [hl]; exact hj), hl, List.getElem?_drop, hnl, Array.getElem?_toList]
    congr 1; omega
  have hwrow : (w.setRow B.b R).heap[B.b]? = some (.cells R e fr) := setRow_heap w B.b c' R e fr hw
  obtain ⟨_, _, _, _, r5, r6, r7⟩ := q3
  simp only [hro, Bool.false_eq_true, if_false] at r7
  obtain ⟨_, hfr, r7⟩ := r7
  refine ⟨ρ', hnew, ⟨?_, ?_, ?_⟩, ⟨hle, by simp, by simp [World.setRow], rfl, rfl, rfl, ?_, ?_, ?_⟩⟩
  · intro j C hC
    by_cases e1 : j = k
    · subst e1; rw [hk'] at hC; cases hC
    by_cases e2 : j = h.size
    · subst e2; rw [hnew] at hC; cases hC
      refine ⟨.cells (cs.extract off cs.size ++ news) e, .cells R e fr, by rw [Array.getElem?_push, if_pos (by simp)], hwrow, ?_⟩
      refine ⟨rfl, rfl, hRsize, ?_, ?_, ?_, ?_⟩
      · show (cs.extract off cs.size ++ news).size + (B.s + off) ≤ B.nc
        rw [Array.size_append, Array.size_extract]; omega
      · intro j v v' hv hv'
        show VRel P ρ' v v'
        rw [Array.getElem?_append] at hv
        have hxs : (cs.extract off cs.size).size = cs.size - off := by rw [Array.size_extract]; omega
        rw [hxs] at hv
        split at hv
        · rename_i hj
          rw [Array.getElem?_extract, if_pos (by omega)] at hv
          have e3 : j + (B.s + off) = off + j + B.s := by omega
          change R[j + (B.s + off)]? = some v' at hv'
          rw [e3, hR1 _ (by omega)] at hv'
          exact (r5 _ _ _ hv hv').mono hle
        · rename_i hj
          have hj2 : j - (cs.size - off) < news.size := (Array.getElem?_eq_some_iff.1 hv).1
          change R[j + (B.s + off)]? = some v' at hv'
          have e3 : j + (B.s + off) = cs.size + B.s + (j - (cs.size - off)) := by omega
          rw [e3, hR2 _ hj2] at hv'
          exact (hn.2 _ _ _ hv hv').mono hle
      · intro j v hv
        rw [Array.getElem?_append] at hv
        split at hv
        · rw [Array.getElem?_extract] at hv
          split at hv
          · exact r6 _ _ hv
          · cases hv
        · obtain ⟨hlt, rfl⟩ := Array.getElem?_eq_some_iff.1 hv
          exact Array.all_eq_true.1 hone _ hlt
      · show (if false = true then _ else _)
        simp only [Bool.false_eq_true, if_false]
        refine ⟨trivial, hfr, fun z' j hz' hj => ?_⟩
        have hxs : (cs.extract off cs.size ++ news).size = cs.size - off + news.size := by rw [Array.size_append, Array.size_extract]; omega
        rw [hxs] at hj ⊢
        change cs.size - off + news.size + (B.s + off) + j < B.nc at hj
        show R[cs.size - off + news.size + (B.s + off) + j]? = _
        have e3 : cs.size - off + news.size + (B.s + off) + j = cs.size + B.s + (news.size + j) := by omega
        rw [e3, hR3 _ (by omega)]
        have := r7 z' (news.size + j) (by rw [← hBe]; exact hz') (by omega)
        rw [this]
        have hz'' : z' = z := by
          change ((P.info? e).bind fun x => x.zero) = some z' at hz'
          rw [hi] at hz'; simp only [Option.bind_some] at hz'; rw [hz] at hz'; exact (Option.some.inj hz').symm
        subst hz''
        congr 1
        rw [hm, hzs, Nat.add_comm, Nat.add_mul_mod_self_right]
    · rw [hoth j e1 e2] at hC
      obtain ⟨o, o', g1, g2, g3⟩ := hs.live j C hC
      have hlt := (Array.getElem?_eq_some_iff.1 g1).1
      have : C.b ≠ B.b := fun e => e1 (hs.one _ _ _ _ hC hB e)
      refine ⟨o, o', ?_, (setRow_other w B.b C.b R this).trans g2, g3.mono hle⟩
      rw [Array.getElem?_push, if_neg (by simpa using e2), Array.getElem?_setIfInBounds_ne (Ne.symm e1)]
      exact g1
  · intro j hj
    by_cases e1 : j = k
    · subst e1
      rw [Array.getElem?_push, if_neg (by simpa using Ne.symm hsize)]
      have := hs.lt hB
      simp [this]
    · by_cases e2 : j = h.size
      · subst e2; rw [hnew] at hj; cases hj
      · rw [hoth j e1 e2] at hj
        rw [Array.getElem?_push, if_neg (by simpa using e2), Array.getElem?_setIfInBounds_ne (Ne.symm e1)]
        exact hs.dead j hj
  · intro j l C D hC hD hCD
    have get : ∀ j C, ρ' j = some (some C) → (j = h.size ∧ C = N) ∨ (j ≠ k ∧ j ≠ h.size ∧ ρ j = some (some C)) := fun j C hC => by
      by_cases e1 : j = k
      · subst e1; rw [hk'] at hC; cases hC
      · by_cases e2 : j = h.size
        · subst e2; rw [hnew] at hC; cases hC; exact .inl ⟨rfl, rfl⟩
        · rw [hoth j e1 e2] at hC; exact .inr ⟨e1, e2, hC⟩
    rcases get j C hC with ⟨rfl, rfl⟩ | ⟨a1, a2, a3⟩
    · rcases get l D hD with ⟨rfl, rfl⟩ | ⟨b1, b2, b3⟩
      · rfl
      · exact absurd (hs.one _ _ _ _ b3 hB hCD.symm) b1
    · rcases get l D hD with ⟨rfl, rfl⟩ | ⟨b1, b2, b3⟩
      · exact absurd (hs.one _ _ _ _ a3 hB hCD) a1
      · exact hs.one _ _ _ _ a3 b3 hCD
  · intro j hj hn
    have e1 : j ≠ k := fun e => by subst e; rw [hB] at hn; cases hn
    have e2 : j ≠ h.size := by omega
    refine ⟨by rw [hoth j e1 e2]; exact hn, ?_⟩
    rw [Array.getElem?_push, if_neg (by simpa using e2), Array.getElem?_setIfInBounds_ne (Ne.symm e1)]
  · intro b _ hno
    exact setRow_other w B.b b R (fun e => hno k B hB hro e.symm)
  · intro j C hC
    by_cases e1 : j = k
    · subst e1; rw [hk'] at hC; cases hC
    · by_cases e2 : j = h.size
      · subst e2; rw [hnew] at hC; cases hC
        exact .inr (.inr ⟨rfl, k, B, hB, hro, rfl⟩)
      · rw [hoth j e1 e2] at hC; exact .inl hC

theorem does_new {t u ty e : TypeId} {i : TypeInfo} {z : Value} {base' : Option Addr} {n c' m : Nat} {x' : Value} {olds olds' news news' : Array Value} {h : H} {w : World} (hs : Sim P ρ h w)
    (ht : P.underlying t = some (.slice e)) (he : eok P e = some (i, z)) (hsrc : Src P u i x' m news' w) (hnews : RRel P ρ news news') (hone : news.all Value.oneCell' = true) (hnsz : news.size = m * i.size)
    (holds : RRel P ρ olds olds') (hone2 : olds.all Value.oneCell' = true) (hosz : olds.size = n * i.size) (hroom : c' < n + m) (hb : (n + m) * i.bytes ≤ 140737488355328)
    (hold : ∀ d, (Builtin.firstCells i.size n (.slice base' n c')).run P { w with drawn := d } = .ok olds' { w with drawn := d }) :
    Does P ρ h w (.slice (some ⟨h.size, 0, none⟩) (n + m) OPEN) (h.push (.cells (olds ++ news) e)) (Builtin.append_ #[t, u] ty #[.slice base' n c', x']) := by
  obtain ⟨hi, hz, hzs, hsz, hby, hfl⟩ := eok_spec he
  obtain ⟨cap, w1, hcap, hmax, rfl, hrun⟩ := run_append_new (ty := ty) ht hi hz hsrc hroom hold hb hby
  obtain ⟨ρ', g1, g2, g3⟩ := (hs.drew (w.drawn + 1)).pushGrown he (x := olds ++ news) (x' := olds' ++ news') (n := n + m) (cap := cap) (holds.append hnews)
    (by rw [Array.all_append, hone, hone2]; rfl) (by rw [Array.size_append, hosz, hnsz, Nat.add_mul]) hcap hmax
  exact ⟨_, _, ρ', hrun, (Later.drew ρ h w _).trans g3, g2, g1⟩

theorem appendTo_does {t u ty e : TypeId} {i : TypeInfo} {z s s' x' : Value} {m : Nat} {news news' : Array Value} {h h1 : H} {v : Value} {w : World} (hs : Sim P ρ h w) (hv : VRel P ρ s s')
    (ht : P.underlying t = some (.slice e)) (he : eok P e = some (i, z)) (hsrc : Src P u i x' m news' w) (hnews : RRel P ρ news news') (hone : news.all Value.oneCell' = true) (hnsz : news.size = m * i.size)
    (hr : appendTo P e i s m news h = some (v, h1)) : Does P ρ h w v h1 (Builtin.append_ #[t, u] ty #[s', x']) := by
  obtain ⟨hi, hz, hzs, hsz, hby, hfl⟩ := eok_spec he
  have hnl : RRel P ρ news.toList.toArray news'.toList.toArray := by rw [Array.toArray_toList, Array.toArray_toList]; exact hnews
  cases hv <;> try (simp only [appendTo, reduceCtorEq] at hr; done)
  · -- nil
    simp only [appendTo] at hr
    split at hr
    · rename_i hm
      cases hr; subst hm
      exact ⟨.slice none 0 0, w, ρ, run_append_place (ty := ty) (base := none) (n := 0) (c := 0) (m := 0) ht hi hsrc (Nat.le_refl _), .refl _ _ _, hs, .nils⟩
    · rename_i hm
      split at hr
      · rename_i hb
        cases hr
        have := does_new (ty := ty) (base' := none) (n := 0) (c' := 0) (olds := #[]) (olds' := #[]) hs ht he hsrc hnews hone hnsz (RRel.empty ρ) (by simp) (by simp) (by omega) (by rw [Nat.zero_add]; exact hb) (fun d => by simp [Builtin.firstCells])
        simpa using this
      · cases hr
  · -- a known capacity
    rename_i a a' n c hc hnc ha
    have hne : c ≠ OPEN := Nat.ne_of_lt hc
    simp only [appendTo, if_neg hne] at hr
    split at hr
    · rename_i hroom
      simp only [Option.map_eq_some_iff] at hr
      obtain ⟨⟨u0, h2⟩, hr, e2⟩ := hr
      cases e2
      have hrun := run_append_place (ty := ty) (base := some a') (n := n) (c := c) (m := m) ht hi hsrc hroom
      rcases ha with ha | hc0
      · obtain ⟨b, w1, ρ2, k1, k2, k3, _⟩ := SR.storeCells (ha.add (n * i.size)) news.toList news'.toList 0 hnl ρ h w (.refl _) hs _ _ hr
        refine ⟨.slice (some a') (n + m) c, w1, ρ2, by rw [hrun]; simp [k1], k2, k3, .slc hc hroom (.inl (ha.mono k2.le))⟩
      · have hm0 : m = 0 := by omega
        subst hm0
        have hn0 : news = #[] := Array.eq_empty_of_size_eq_zero (by simpa using hnsz)
        have hn0' : news' = #[] := Array.eq_empty_of_size_eq_zero (by rw [← hnews.1, hn0]; rfl)
        subst hn0; subst hn0'
        simp only [Go.storeCells, arun_pure, Option.some.injEq, Prod.mk.injEq] at hr
        obtain ⟨_, rfl⟩ := hr
        refine ⟨.slice (some a') (n + 0) c, w, ρ, by rw [hrun]; simp [Go.storeCells], .refl _ _ _, hs, .slc hc hroom (.inr hc0)⟩
    · rename_i hroom
      split at hr
      · rename_i hb
        simp only [Option.map_eq_some_iff] at hr
        obtain ⟨⟨olds, h2⟩, hr, e2⟩ := hr
        cases e2
        obtain ⟨_, q2, q3, olds', q4, q5⟩ := loadRow hs (ha.imp id fun h0 => by rw [h0] at hnc; simp [Nat.le_zero.1 hnc]) hr
        exact does_new hs ht he hsrc hnews hone hnsz q4 q3 q2 (by omega) hb fun d => by
          have := run_firstCells_some (P := P) { w with drawn := d } i.size n a' n c olds'.toList (by rw [Array.length_toList, ← q4.1, q2]) q5
          rw [Array.toArray_toList] at this
          exact this
      · cases hr
  · -- an unknown capacity
    rename_i a a' n c' ho
    simp only [appendTo, if_true] at hr
    split at hr
    case h_2 => cases hr
    rename_i cs e' hblk
    split at hr
    case isFalse => cases hr
    rename_i hee
    subst hee
    obtain ⟨hsp, hd | ⟨B, hB, hro, hpos, hnc, hmax, hcase⟩⟩ := ho
    · rw [hs.dead _ hd] at hblk; cases hblk
    obtain ⟨c2, f2, q2, q3, hBe, hcs, hfit⟩ := hs.cellsAt hB hblk
    have hsz' : szOf P B.e = i.size := by rw [← hBe]; exact szOf_eq hi
    split at hr
    · -- in place
      rename_i hroom
      simp only [Option.map_eq_some_iff] at hr
      obtain ⟨⟨u0, h2⟩, hr, e2⟩ := hr
      cases e2
      rcases hcase with ⟨rfl, hsum⟩ | ⟨rfl, hend⟩
      · have ha : ARel ρ a ⟨B.b, a.off + B.s, none⟩ := ⟨hsp, .inr ⟨B, hB, rfl⟩⟩
        have hroom' : n + m ≤ c' := by
          rw [hsz'] at hsum
          dsimp only at hsum
          have : (n + m) * i.size ≤ c' * i.size := by omega
          exact Nat.le_of_mul_le_mul_right this hsz
        have hrun := run_append_place (ty := ty) (base := some ⟨B.b, a.off + B.s, none⟩) (n := n) (c := c') (m := m) ht hi hsrc hroom'
        obtain ⟨b, w1, ρ2, k1, k2, k3, _⟩ := SR.storeCells (ha.add (n * i.size)) news.toList news'.toList 0 hnl ρ h w (.refl _) hs _ _ hr
        refine ⟨.slice (some ⟨B.b, a.off + B.s, none⟩) (n + m) c', w1, ρ2, by rw [hrun]; simp [k1], k2, k3, .opn ⟨hsp, ?_⟩⟩
        rcases k2.le _ _ hB with h | h
        · exact .inr ⟨B, h, hro, hpos, hroom', hmax, .inl ⟨rfl, hsum⟩⟩
        · exact .inl h
      · have hn0 : n = 0 := by omega
        subst hn0
        have hm0 : m = 0 := by
          have hle : m * i.size ≤ 0 := by simp only [Nat.zero_add] at hroom; omega
          rcases Nat.eq_zero_or_pos m with h | h
          · exact h
          · have := Nat.mul_pos h hsz; omega
        subst hm0
        have hn0 : news = #[] := Array.eq_empty_of_size_eq_zero (by simpa using hnsz)
        have hn0' : news' = #[] := Array.eq_empty_of_size_eq_zero (by rw [← hnews.1, hn0]; rfl)
        subst hn0; subst hn0'
        simp only [Go.storeCells, arun_pure, Option.some.injEq, Prod.mk.injEq] at hr
        obtain ⟨_, rfl⟩ := hr
        have hrun := run_append_place (ty := ty) (base := some a') (n := 0) (c := 0) (m := 0) ht hi hsrc (Nat.le_refl _)
        exact ⟨.slice (some a') 0 0, w, ρ, by rw [hrun]; simp [Go.storeCells], .refl _ _ _, hs, .opn ⟨hsp, .inr ⟨B, hB, hro, hpos, hnc, hmax, .inr ⟨rfl, hend⟩⟩⟩⟩
    · rename_i hroom
      split at hr
      case isFalse => cases hr
      rename_i hend
      obtain ⟨hend, hb⟩ := hend
      cases hr
      have hm0 : 0 < m := by
        rcases Nat.eq_zero_or_pos m with h | h
        · subst h; exfalso; apply hroom; simp only [Nat.add_zero]; omega
        · exact h
      by_cases hcap : n + m ≤ c'
      · -- there is room
        rcases hcase with ⟨rfl, hsum⟩ | ⟨rfl, hend2⟩
        case inr => omega
        rw [hsz'] at hsum
        dsimp only at hsum
        have hmul : (n + m) * i.size ≤ c' * i.size := Nat.mul_le_mul_right _ hcap
        rw [Nat.add_mul] at hmul
        have hf2 : tame c2.size f2 := by
          obtain ⟨_, _, r3, _, _, _, r7⟩ := q3
          simp only [hro, Bool.false_eq_true, if_false] at r7
          rw [r3]; exact r7.2.1
        rw [← hBe] at q2
        have hrun := run_append_place (ty := ty) (base := some ⟨B.b, a.off + B.s, none⟩) (n := n) (c := c') (m := m) ht hi hsrc hcap
        have hadd : (⟨B.b, a.off + B.s, none⟩ : Addr).add (n * i.size) = ⟨B.b, cs.size + B.s, none⟩ := by
          unfold Addr.add
          split
          · rename_i h0; rw [h0] at hend; simp only [Nat.add_zero] at hend; rw [hend]
          · show (⟨B.b, a.off + B.s + n * i.size, none⟩ : Addr) = _
            congr 1; omega
        have hn1 : ∀ v ∈ news'.toList, v.oneCell' = true := by
          intro v hv
          obtain ⟨j, hj⟩ := List.getElem?_of_mem hv
          have hj2 : j < news'.size := by have := (List.getElem?_eq_some_iff.1 hj).1; simpa using this
          have hrel := hnews.2 j _ v (Array.getElem?_eq_getElem (by rw [hnews.1]; exact hj2)) (by simpa using hj)
          rw [hrel.oneCell]
          exact Array.all_eq_true.1 hone j (by rw [hnews.1]; exact hj2)
        have hst := run_storeCells_tame (P := P) B.b (cs.size + B.s) e' news'.toList 0 c2 f2 w q2 hf2 (by rw [Array.length_toList, ← hnews.1, hnsz]; omega) hn1
        simp only [Nat.add_zero] at hst
        obtain ⟨ρ', g0, g1, g2⟩ := hs.move he (off := a.off) (m := m) hB hro hblk q2 (by omega) hnews hone hnsz (by omega)
        refine ⟨_, _, ρ', by rw [hrun]; simp only [hadd, hst, Result.andThen_ok]; rfl, g2, g1, .opn ⟨rfl, .inr ⟨_, g0, rfl, ?_, hcap, hmax, .inl ⟨?_, ?_⟩⟩⟩⟩
        · show 0 < szOf P e'; rw [szOf_eq hi]; exact hsz
        · show _ = (⟨B.b, 0 + (B.s + a.off), none⟩ : Addr); congr 1; omega
        · show a.off + B.s + c' * szOf P e' = B.nc; rw [szOf_eq hi]; omega
      · -- a new row
        obtain ⟨k1, k2⟩ := hs.kill hB
        have holds : ∃ olds', RRel P ρ (cs.extract a.off cs.size) olds' ∧ ∀ d, (Builtin.firstCells i.size n (.slice (some a') n c')).run P { w with drawn := d } = .ok olds' { w with drawn := d } := by
          have hex : arun P (Go.loadCells a (n * i.size)) h = some (cs.extract a.off cs.size, h) := by
            have := arun_loadCells_row (P := P) hblk hsp (n * i.size) (by omega)
            rw [hend] at this; exact this
          obtain ⟨_, g2, g3, olds', g4, g5⟩ := loadRow (k := n * i.size) (a' := a') hs (by
            rcases hcase with ⟨h1, _⟩ | ⟨h1, _⟩
            · exact .inl ⟨hsp, .inr ⟨B, hB, h1⟩⟩
            · right; have : n = 0 := by omega
              simp [this]) hex
          refine ⟨olds', g4, fun d => ?_⟩
          have := run_firstCells_some (P := P) { w with drawn := d } i.size n a' n c' olds'.toList (by rw [Array.length_toList, ← g4.1, g2]) g5
          rw [Array.toArray_toList] at this
          exact this
        obtain ⟨olds', ho1, ho2⟩ := holds
        have hone2 : (cs.extract a.off cs.size).all Value.oneCell' = true := by
          obtain ⟨_, _, _, _, _, r6, _⟩ := q3
          rw [Array.all_eq_true]
          intro j hj
          rw [Array.getElem_extract]
          exact r6 _ _ (Array.getElem?_eq_getElem _)
        obtain ⟨v', w1, ρ2, d1, d2, d3, d4⟩ := does_new (ty := ty) k1 ht he hsrc (hnews.mono k2.le) hone hnsz (ho1.mono k2.le) hone2 (by rw [Array.size_extract]; omega) (by omega) hb ho2
        simp only [Array.size_setIfInBounds] at d2 d3 d4
        exact ⟨v', w1, ρ2, d1, k2.trans d2, d3, d4⟩

end Go.Abs

/-
The abstract heap: maps, and what is left of the instructions.
-/
namespace Go.Abs
open Go
variable {P : Program} {ρ : Ren} {α β : Type}

/-- A program that neither reads nor writes, whatever comes. -/
def quiet (P : Program) : Sem α → Prop
  | .pure _ => True
  | .program k => quiet P (k P)
  | .mark _ k => quiet P k
  | .load _ _ _ | .store _ _ _ _ | .new _ _ | .getObj _ _ | .setObj _ _ _ => False
  | _ => True

theorem quiet_bind' (s : Sem α) (f : α → Sem β) (hs : quiet P s) (hf : ∀ a, quiet P (f a)) : quiet P (s.bind f) := by
  induction s with
  | pure a => exact hf a
  | program k ih => exact ih P hs
  | mark m k ih => exact ih hs
  | load => exact hs.elim
  | store => exact hs.elim
  | new => exact hs.elim
  | getObj => exact hs.elim
  | setObj => exact hs.elim
  | shape => trivial
  | freeze => trivial
  | frozen => trivial
  | choose => trivial
  | sys => trivial
  | halt => trivial

theorem quiet_bind (s : Sem α) (f : α → Sem β) (hs : quiet P s) (hf : ∀ a, quiet P (f a)) : quiet P (s >>= f) := quiet_bind' s f hs hf

theorem quiet_run (s : Sem α) (hs : quiet P s) (h : H) (a : α) (h1 : H) (hr : arun P s h = some (a, h1)) : h1 = h ∧ ∀ w, s.run P w = .ok a w := by
  induction s with
  | pure x => simp only [arun, Option.some.injEq, Prod.mk.injEq] at hr; obtain ⟨rfl, rfl⟩ := hr; exact ⟨rfl, fun _ => rfl⟩
  | program k ih =>
    obtain ⟨e1, e2⟩ := ih P hs hr
    exact ⟨e1, fun w => e2 w⟩
  | mark m k ih =>
    simp only [arun] at hr
    split at hr
    · cases hr
    · obtain ⟨e1, e2⟩ := ih hs hr
      exact ⟨e1, fun w => e2 w⟩
  | load => exact hs.elim
  | store => exact hs.elim
  | new => exact hs.elim
  | getObj => exact hs.elim
  | setObj => exact hs.elim
  | shape => simp [arun] at hr
  | freeze => simp [arun] at hr
  | frozen => simp [arun] at hr
  | choose => simp [arun] at hr
  | sys => simp [arun] at hr
  | halt => simp [arun] at hr

/-- The same quiet program on both sides. -/
theorem SR.quiet {s : Sem α} (hs : Abs.quiet P s) : SR P ρ (fun _ a b => a = b) s s := by
  intro ρ1 h w _ hsim a h1 hr
  obtain ⟨rfl, e⟩ := quiet_run s hs h a h1 hr
  exact ⟨a, w, ρ1, e w, .refl _ _ _, hsim, rfl⟩

theorem quiet_underlying (t : TypeId) : quiet P (Go.underlying t) := by
  refine quiet_bind _ _ trivial fun p => ?_
  split <;> trivial
theorem quiet_typeInfo (t : TypeId) : quiet P (Go.typeInfo t) := by
  refine quiet_bind _ _ trivial fun p => ?_
  split <;> trivial
theorem quiet_sizeOf (t : TypeId) : quiet P (Go.sizeOf t) := quiet_bind _ _ (quiet_typeInfo t) fun _ => trivial
theorem quiet_isAgg (t : TypeId) : quiet P (Go.isAgg t) := by
  refine quiet_bind _ _ (quiet_underlying t) fun d => ?_
  split <;> trivial
theorem quiet_part (t : TypeId) (cs : Array Value) (n : Nat) : quiet P (Go.part t cs n) := by
  refine quiet_bind _ _ (quiet_isAgg t) fun b => ?_
  split
  · exact quiet_bind _ _ (quiet_sizeOf t) fun _ => trivial
  · split <;> trivial


theorem quiet_forIn {γ : Type} (f : γ → β → Sem (ForInStep β)) (hf : ∀ x b, quiet P (f x b)) : ∀ (l : List γ) (b : β), quiet P (forIn l b f) := by
  intro l
  induction l with
  | nil => intro b; exact trivial
  | cons x l ih =>
    intro b
    rw [List.forIn_cons]
    refine quiet_bind _ _ (hf x b) fun r => ?_
    split
    · trivial
    · exact ih _

theorem quiet_forInA {γ : Type} (f : γ → β → Sem (ForInStep β)) (hf : ∀ x b, quiet P (f x b)) (l : Array γ) (b : β) : quiet P (forIn l b f) := by
  rw [← Array.forIn_toList]; exact quiet_forIn f hf _ _

theorem quiet_forInR (f : Nat → β → Sem (ForInStep β)) (hf : ∀ x b, quiet P (f x b)) (r : Std.Legacy.Range) (b : β) : quiet P (forIn r b f) := by
  rw [Std.Legacy.Range.forIn_eq_forIn_range']; exact quiet_forIn f hf _ _

theorem quiet_numberAt (r : Nat) : quiet P (Go.numberAt r) := trivial
theorem quiet_behindNumber (a : Addr) : quiet P (Go.behindNumber a) := trivial
theorem quiet_sameAddr (a b : Addr) : quiet P (Go.sameAddr a b) := by
  unfold Go.sameAddr
  dsimp only
  split <;> trivial
theorem quiet_samePointer (a b : Option Addr) : quiet P (Go.samePointer a b) := by
  unfold Go.samePointer
  split
  · exact quiet_sameAddr _ _
  · trivial
theorem quiet_typeStr (t : TypeId) : quiet P (Go.typeStr t) := by
  refine quiet_bind _ _ (quiet_typeInfo t) fun i => ?_
  dsimp only
  split <;> trivial
theorem quiet_panicError (m : String) : quiet P (Go.runtimePanic (.error m) : Sem α) := trivial

theorem quiet_equalIn (d : Nat) : ∀ (t : TypeId) (x y : Value), quiet P (Op.equalIn d t x y) := by
  induction d with
  | zero => intro t x y; exact trivial
  | succ d ih =>
    intro t x y
    unfold Op.equalIn
    refine quiet_bind _ _ (quiet_underlying t) fun u => ?_
    split <;> first
      | trivial
      | exact quiet_sameAddr _ _
      | exact quiet_samePointer _ _
      | skip
    all_goals first
      | (split <;> trivial)
      | (refine quiet_bind _ _ (quiet_sizeOf _) fun n => ?_; split <;> first | exact quiet_sameAddr _ _ | (split <;> trivial))
      | skip
    · split
      · trivial
      · refine quiet_bind _ _ (quiet_typeInfo _) fun i => ?_
        split
        · refine quiet_bind _ _ trivial fun p => ?_
          refine quiet_bind _ _ trivial fun p2 => ?_
          split
          · trivial
          · exact quiet_bind _ _ (quiet_typeStr _) fun _ => trivial
        · exact ih _ _ _
    · refine quiet_bind _ _ trivial fun p => ?_
      split
      · trivial
      · refine quiet_bind _ _ (quiet_forInA _ (fun f b => ?_) _ _) fun r => ?_
        · split
          · refine quiet_bind _ _ (quiet_part _ _ _) fun a => quiet_bind _ _ (quiet_part _ _ _) fun c => quiet_bind _ _ (ih _ _ _) fun q => ?_
            split <;> trivial
          · trivial
        · dsimp only
          split <;> trivial
    · refine quiet_bind _ _ (quiet_sizeOf _) fun n => ?_
      refine quiet_bind _ _ (quiet_forInR _ (fun f b => ?_) _ _) fun r => ?_
      · refine quiet_bind _ _ (quiet_part _ _ _) fun a => quiet_bind _ _ (quiet_part _ _ _) fun c => quiet_bind _ _ (ih _ _ _) fun q => ?_
        split <;> trivial
      · dsimp only
        split <;> trivial

theorem quiet_checkKey (b : Bool) (d : Nat) : ∀ (t : TypeId) (x : Value), quiet P (Instr.checkKey b d t x) := by
  induction d with
  | zero => intro t x; exact trivial
  | succ d ih =>
    intro t x
    unfold Instr.checkKey
    refine quiet_bind _ _ (quiet_underlying t) fun u => ?_
    split <;> first | trivial | skip
    · refine quiet_bind _ _ (quiet_typeInfo _) fun i => ?_
      dsimp only
      split
      · split
        · trivial
        · exact quiet_bind _ _ (quiet_typeStr _) fun _ => trivial
      · exact ih _ _
    · refine quiet_bind _ _ (quiet_forInR _ (fun f b => ?_) _ _) fun r => trivial
      exact quiet_bind _ _ (quiet_sizeOf _) fun n => quiet_bind _ _ (quiet_part _ _ _) fun a => quiet_bind _ _ (ih _ _) fun _ => trivial
    · refine quiet_bind _ _ (quiet_forInA _ (fun f b => ?_) _ _) fun r => trivial
      split
      · exact quiet_bind _ _ (quiet_part _ _ _) fun a => quiet_bind _ _ (ih _ _) fun _ => trivial
      · trivial


/-! Maps -/
def ERel (P : Program) (ρ : Ren) (l l' : List MapEntry) : Prop :=
  l.length = l'.length ∧ ∀ (j : Nat) (m m' : MapEntry), l[j]? = some m → l'[j]? = some m' → flat m.key = true ∧ m'.key = m.key ∧ VRel P ρ m.val m'.val ∧ m.born = m'.born

def KRel (P : Program) (ρ : Ren) (r r' : Option (Nat × Value)) : Prop :=
  (r = none ∧ r' = none) ∨ ∃ i v v', r = some (i, v) ∧ r' = some (i, v') ∧ VRel P ρ v v'

theorem ERel.mono {ρ' : Ren} {l l' : List MapEntry} (hl : Ren.Le ρ ρ') (h : ERel P ρ l l') : ERel P ρ' l l' :=
  ⟨h.1, fun j m m' hm hm' => ⟨(h.2 j m m' hm hm').1, (h.2 j m m' hm hm').2.1, (h.2 j m m' hm hm').2.2.1.mono hl, (h.2 j m m' hm hm').2.2.2⟩⟩

theorem ERel.tail {m m' : MapEntry} {l l' : List MapEntry} (h : ERel P ρ (m :: l) (m' :: l')) : ERel P ρ l l' :=
  ⟨by have := h.1; simpa using this, fun j x x' hx hx' => h.2 (j + 1) x x' (by simpa using hx) (by simpa using hx')⟩

theorem findNow_rel (kind : TypeDesc) (k : Value) : ∀ (l l' : List MapEntry) (i : Nat), ERel P ρ l l' →
    (Instr.findNow kind k l i = none ∧ Instr.findNow kind k l' i = none) ∨ ∃ r r', Instr.findNow kind k l i = some r ∧ Instr.findNow kind k l' i = some r' ∧ KRel P ρ r r' := by
  intro l
  induction l with
  | nil =>
    intro l' i h
    have : l' = [] := List.eq_nil_of_length_eq_zero (by simpa using h.1.symm)
    subst this
    exact .inr ⟨none, none, rfl, rfl, .inl ⟨rfl, rfl⟩⟩
  | cons m l ih =>
    intro l' i h
    cases l' with
    | nil => have := h.1; simp at this
    | cons m' l' =>
      obtain ⟨h1, h2, h3, h4⟩ := h.2 0 m m' (by simp) (by simp)
      simp only [Instr.findNow, h2]
      cases Instr.sameNow kind k m.key with
      | none => exact .inl ⟨rfl, rfl⟩
      | some b =>
        cases b with
        | true => exact .inr ⟨_, _, rfl, rfl, .inr ⟨i, m.val, m'.val, rfl, rfl, h3⟩⟩
        | false => exact ih l' (i + 1) h.tail

theorem SR.findAsking (t : TypeId) (k : Value) : ∀ (l l' : List MapEntry) (i : Nat) {ρ : Ren}, ERel P ρ l l' → SR P ρ (fun ρ r r' => KRel P ρ r r') (Instr.findAsking t k l i) (Instr.findAsking t k l' i) := by
  intro l
  induction l with
  | nil =>
    intro l' i ρ h
    have : l' = [] := List.eq_nil_of_length_eq_zero (by simpa using h.1.symm)
    subst this
    exact SR.pure fun _ _ => .inl ⟨rfl, rfl⟩
  | cons m l ih =>
    intro l' i ρ h
    cases l' with
    | nil => have := h.1; simp at this
    | cons m' l' =>
      obtain ⟨h1, h2, h3, h4⟩ := h.2 0 m m' (by simp) (by simp)
      unfold Instr.findAsking
      rw [h2]
      refine SR.bind (SR.quiet (quiet_equalIn _ _ _ _)) fun ρ1 b b' hl hb => ?_
      subst hb
      split
      · exact SR.pure fun _ hl2 => .inr ⟨i, m.val, m'.val, rfl, rfl, (h3.mono hl).mono hl2⟩
      · exact ih l' (i + 1) (h.tail.mono hl)

theorem SR.findKey (t : TypeId) (k : Value) {l l' : List MapEntry} (h : ERel P ρ l l') : SR P ρ (fun ρ r r' => KRel P ρ r r') (Instr.findKey t k l) (Instr.findKey t k l') := by
  unfold Instr.findKey
  refine SR.bind (SR.underlying t) fun ρ1 d d' hl hd => ?_
  obtain ⟨rfl, _⟩ := hd
  rcases findNow_rel d k l l' 0 (h.mono hl) with ⟨e1, e2⟩ | ⟨r, r', e1, e2, e3⟩
  · rw [e1, e2]; exact SR.findAsking t k l l' 0 (h.mono hl)
  · rw [e1, e2]
    refine SR.pure fun _ hl2 => ?_
    rcases e3 with e3 | ⟨i, v, v', g1, g2, g3⟩
    · exact .inl e3
    · exact .inr ⟨i, v, v', g1, g2, g3.mono hl2⟩

theorem SR.getObj {r r' : Nat} (hm : ρ r = some none ∨ ∃ B, ρ r = some (some B) ∧ r' = B.b) :
    SR P ρ (fun ρ o o' => ∃ B, ρ r = some (some B) ∧ r' = B.b ∧ B.ro = false ∧ B.s = 0 ∧ ObjRel P ρ B o o' ∧ plainObj o = true) (Go.getObj r) (Go.getObj r') := by
  intro ρ1 h w hl hs a h1 hr
  simp only [Go.getObj, arun] at hr
  cases ho : h[r]? with
  | none => rw [ho] at hr; cases hr
  | some o =>
    rw [ho] at hr
    dsimp only at hr
    split at hr
    · rename_i hp
      simp only [Option.some.injEq, Prod.mk.injEq] at hr
      obtain ⟨rfl, rfl⟩ := hr
      have dead : ρ1 r ≠ some none := fun hd => by
        rw [hs.dead _ hd] at ho; cases ho; cases hp
      have : ∃ B, ρ1 r = some (some B) ∧ r' = B.b := by
        rcases hm with hm | ⟨B, hB, e⟩
        · rcases hl _ _ hm with h | h <;> exact absurd h dead
        · rcases hl _ _ hB with h | h
          · exact ⟨B, h, e⟩
          · exact absurd h dead
      obtain ⟨B, hB, rfl⟩ := this
      obtain ⟨o2, o', q1, q2, q3⟩ := hs.live _ _ hB
      rw [ho] at q1; cases q1
      have hrun : (Go.getObj B.b).run P w = .ok o' w := by
        simp only [Go.getObj, Sem.run, q2]
        unfold ObjRel at q3
        split at q3
        · cases hp
        · rfl
        · rfl
        · cases hp
        · cases hp
        · exact q3.elim
      refine ⟨o', w, ρ1, hrun, .refl _ _ _, hs, B, hB, rfl, ?_, ?_, q3, hp⟩
      · unfold ObjRel at q3
        split at q3
        · cases hp
        · exact q3.2.1
        · exact q3.2.1
        · cases hp
        · cases hp
        · exact q3.elim
      · unfold ObjRel at q3
        split at q3
        · cases hp
        · exact q3.1
        · exact q3.1
        · cases hp
        · cases hp
        · exact q3.elim
    · cases hr

theorem ObjRel.of_map {B : Blk} {es : Array MapEntry} {k : Nat} {o' : Obj} (h : ObjRel P ρ B (.map es k) o') : ∃ es', o' = .map es' k ∧ ERel P ρ es.toList es'.toList := by
  cases o' with
  | map es' k' =>
    obtain ⟨_, _, rfl, h4, h5⟩ := h
    exact ⟨es', rfl, by simpa using h4, fun j m m' hm hm' => h5 j m m' (by simpa using hm) (by simpa using hm')⟩
  | _ => exact (show False from h).elim

theorem ObjRel.mk_map {B : Blk} {es es' : Array MapEntry} {k : Nat} (hs : B.s = 0) (hr : B.ro = false) (h : ERel P ρ es.toList es'.toList) : ObjRel P ρ B (.map es k) (.map es' k) :=
  ⟨hs, hr, rfl, by simpa using h.1, fun j m m' hm hm' => h.2 j m m' (by simpa using hm) (by simpa using hm')⟩

theorem SR.setObj {r r' : Nat} {B : Blk} {o o' : Obj} (hB : ρ r = some (some B)) (hr' : r' = B.b) (hro : B.ro = false) (hr : ObjRel P ρ B o o') :
    SR P ρ (fun _ _ _ => True) (Go.setObj r o) (Go.setObj r' o') := by
  intro ρ1 h w hl hs a h1 hrun
  simp only [Go.setObj, arun] at hrun
  cases ho : h[r]? with
  | none => rw [ho] at hrun; cases hrun
  | some o2 =>
    rw [ho] at hrun
    dsimp only at hrun
    split at hrun
    · rename_i hk
      simp only [Option.some.injEq, Prod.mk.injEq] at hrun
      obtain ⟨-, rfl⟩ := hrun
      subst hr'
      have hB1 : ρ1 r = some (some B) := by
        rcases hl _ _ hB with h | h
        · exact h
        · rw [hs.dead _ h] at ho; cases ho; cases o <;> cases hk
      obtain ⟨o3, o3', q1, q2, q3⟩ := hs.live _ _ hB1
      rw [ho] at q1; cases q1
      obtain ⟨g1, g2⟩ := hs.setObj hB1 hro (hr.mono hl)
      refine ⟨(), _, ρ1, ?_, g2, g1, trivial⟩
      simp only [Go.setObj, Sem.run, q2]
      unfold ObjRel at q3
      split at q3
      · cases o <;> cases hk
      · rfl
      · rfl
      · cases o <;> cases hk
      · cases o <;> cases hk
      · exact q3.elim
    · cases hrun

theorem mapRel {v v' : Value} (hv : VRel P ρ v v') {r : Nat} (h : v = .map (some r)) : ∃ r', v' = .map (some r') ∧ (ρ r = some none ∨ ∃ B, ρ r = some (some B) ∧ r' = B.b) := by
  subst h; cases hv with | map h => exact ⟨_, rfl, h⟩

theorem ERel.modify {es es' : Array MapEntry} (h : ERel P ρ es.toList es'.toList) (i : Nat) (f f' : MapEntry → MapEntry)
    (hf : ∀ m m', flat m.key = true → m'.key = m.key → VRel P ρ m.val m'.val → m.born = m'.born → flat (f m).key = true ∧ (f' m').key = (f m).key ∧ VRel P ρ (f m).val (f' m').val ∧ (f m).born = (f' m').born) :
    ERel P ρ (es.modify i f).toList (es'.modify i f').toList := by
  have hsz : es.size = es'.size := by simpa using h.1
  refine ⟨by simpa using hsz, fun j m m' hm hm' => ?_⟩
  simp only [Array.getElem?_toList, Array.getElem?_modify] at hm hm'
  split at hm
  · rename_i e
    rw [if_pos e] at hm'
    simp only [Option.map_eq_some_iff] at hm hm'
    obtain ⟨a, ha, rfl⟩ := hm
    obtain ⟨a', ha', rfl⟩ := hm'
    obtain ⟨k1, k2, k3, k4⟩ := h.2 j a a' (by simpa using ha) (by simpa using ha')
    exact hf a a' k1 k2 k3 k4
  · rename_i e
    rw [if_neg e] at hm'
    exact h.2 j m m' (by simpa using hm) (by simpa using hm')

theorem ERel.push {es es' : Array MapEntry} (h : ERel P ρ es.toList es'.toList) {m m' : MapEntry} (h1 : flat m.key = true) (h2 : m'.key = m.key) (h3 : VRel P ρ m.val m'.val) (h4 : m.born = m'.born) :
    ERel P ρ (es.push m).toList (es'.push m').toList := by
  have hsz : es.size = es'.size := by simpa using h.1
  refine ⟨by simp [hsz], fun j x x' hx hx' => ?_⟩
  rw [Array.getElem?_toList, Array.getElem?_push] at hx hx'
  rw [← hsz] at hx'
  split at hx
  · rename_i e
    rw [if_pos e] at hx'
    cases hx; cases hx'
    exact ⟨h1, h2, h3, h4⟩
  · rename_i e
    rw [if_neg e] at hx'
    exact h.2 j x x' (by simpa using hx) (by simpa using hx')

theorem ERel.key {es es' : Array MapEntry} (h : ERel P ρ es.toList es'.toList) (i : Nat) (k : Value) (hk : flat k = true) :
    ((es[i]?).map (·.key)).getD k = ((es'[i]?).map (·.key)).getD k ∧ flat (((es[i]?).map (·.key)).getD k) = true := by
  have hsz : es.size = es'.size := by simpa using h.1
  cases he : es[i]? with
  | none =>
    have : es'[i]? = none := by
      rw [Array.getElem?_eq_none_iff] at he ⊢; omega
    rw [this]; exact ⟨rfl, hk⟩
  | some m =>
    have hlt : i < es'.size := by rw [← hsz]; exact (Array.getElem?_eq_some_iff.1 he).1
    obtain ⟨k1, k2, _, _⟩ := h.2 i m es'[i] (by simpa using he) (by rw [Array.getElem?_toList]; exact Array.getElem?_eq_getElem hlt)
    rw [Array.getElem?_eq_getElem hlt]
    exact ⟨k2.symm, k1⟩

theorem quiet_keyThatStays (a b : Value) : quiet P (Instr.keyThatStays a b) := by
  unfold Instr.keyThatStays
  split <;> trivial

theorem keyThatStays_flat {a b : Value} {h h1 : H} {r : Value} (ha : flat b = true) (hr : arun P (Instr.keyThatStays a b) h = some (r, h1)) : flat r = true := by
  unfold Instr.keyThatStays at hr
  split at hr
  · simp at hr; rw [← hr.1]; exact ha
  · simp at hr

theorem SR.setObj' {ρ' : Ren} {r : Nat} {B : Blk} {o o' : Obj} (hB : ρ r = some (some B)) (hl : Ren.Le ρ ρ') (hro : B.ro = false) (hr : ObjRel P ρ' B o o') :
    SR P ρ' (fun _ _ _ => True) (Go.setObj r o) (Go.setObj B.b o') := by
  rcases hl _ _ hB with hB5 | hB5
  · exact SR.setObj hB5 rfl hro hr
  · intro ρ6 h w hl6 hs6 a h1 hrun
    exfalso
    have hd6 : ρ6 r = some none := by rcases hl6 _ _ hB5 with h | h <;> exact h
    simp only [Go.setObj, arun, hs6.dead _ hd6, tomb] at hrun
    cases o <;> simp [sameKind] at hrun

theorem SR.mapUpdate {m m' v v' k k' : Value} (t : TypeId) (hm : VRel P ρ m m') (hk : flat k = true) (hkk : VRel P ρ k k') (hv : VRel P ρ v v') : SR P ρ (fun _ _ _ => True) (Instr.mapUpdate t m k v) (Instr.mapUpdate t m' k' v') := by
  obtain rfl := flat_eq hk hkk
  unfold Instr.mapUpdate
  refine SR.bind (SR.underlying t) fun ρ1 d d' hl hd => ?_
  obtain ⟨rfl, _⟩ := hd
  cases d with
  | map keyType elem =>
    dsimp only
    have hm1 := hm.mono hl
    cases hm1 with
    | nilm => exact SR.fail fun _ => rfl
    | map hr =>
      dsimp only
      refine SR.bind (SR.getObj hr) fun ρ2 o o' hl2 ho => ?_
      obtain ⟨B, hB, rfl, hro, hs0, hrel, hp⟩ := ho
      cases o with
      | map es clock =>
        obtain ⟨es', rfl, hes⟩ := hrel.of_map
        dsimp only
        refine SR.bind (SR.quiet (quiet_checkKey _ _ _ _)) fun ρ3 _ _ hl3 _ => ?_
        refine SR.bind (SR.findKey keyType k' (hes.mono hl3)) fun ρ4 x x' hl4 hx => ?_
        have hes4 := (hes.mono hl3).mono hl4
        have hv4 := (((hv.mono hl).mono hl2).mono hl3).mono hl4
        rcases hx with ⟨rfl, rfl⟩ | ⟨i, u, u', rfl, rfl, hu⟩
        · exact SR.setObj' hB (hl3.trans hl4) hro (ObjRel.mk_map hs0 hro (hes4.push hk rfl hv4 rfl))
        · dsimp only
          obtain ⟨hkey, hkf⟩ := hes4.key i k' hk
          rw [← hkey]
          intro ρ5 h w hl5 hs5 a h1 hrun
          simp only [arun_bind, Option.bind_eq_some_iff] at hrun
          obtain ⟨⟨r, h2⟩, hr1, hr2⟩ := hrun
          have hfr := keyThatStays_flat hk hr1
          obtain ⟨rfl, hq⟩ := quiet_run _ (quiet_keyThatStays _ _) _ _ _ hr1
          obtain ⟨b, w1, ρ6, g1, g2, g3, g4⟩ := SR.setObj' (o' := .map (es'.modify i fun e => { e with key := r, val := v' }) clock) hB ((hl3.trans hl4).trans hl5) hro
            (ObjRel.mk_map hs0 hro ((hes4.mono hl5).modify i (fun e => { e with key := r, val := v }) (fun e => { e with key := r, val := v' }) fun m m' _ _ _ hb => ⟨hfr, rfl, hv4.mono hl5, hb⟩)) ρ5 _ w (.refl _) hs5 _ _ hr2
          exact ⟨b, w1, ρ6, by simp [hq, g1], g2, g3, g4⟩
      | _ => exact SR.stuck
    | _ => exact SR.stuck
  | _ => exact SR.stuck

theorem SV.lookup {m m' k k' : Value} (t : TypeId) (ok : Bool) (hz : ∀ a e, P.underlying t = some (.map a e) → zok P e = true) (hm : VRel P ρ m m') (hk : flat k = true) (hkk : VRel P ρ k k') :
    SV P ρ (Instr.lookup t m k ok) (Instr.lookup t m' k' ok) := by
  obtain rfl := flat_eq hk hkk
  unfold Instr.lookup
  refine SR.bind (SR.underlying t) fun ρ1 d d' hl hd => ?_
  obtain ⟨rfl, hd⟩ := hd
  cases d with
  | map keyType elem =>
    dsimp only
    have rest : ∀ {ρ2 : Ren} {es es' : Array MapEntry}, ERel P ρ2 es.toList es'.toList → SV P ρ2
        (do Instr.checkKey es.isEmpty 10000 keyType k'
            match ← Instr.findKey keyType k' es.toList with
            | some (_, v) => do let x ← Pure.pure (v, true); (match x with | (v, ok1) => Pure.pure (if ok = true then .tuple #[v, .bool ok1] else v))
            | none => do let z ← Go.zeroValue elem; let x ← Pure.pure (z, false); (match x with | (v, ok1) => Pure.pure (if ok = true then .tuple #[v, .bool ok1] else v)))
        (do Instr.checkKey es'.isEmpty 10000 keyType k'
            match ← Instr.findKey keyType k' es'.toList with
            | some (_, v) => do let x ← Pure.pure (v, true); (match x with | (v, ok1) => Pure.pure (if ok = true then .tuple #[v, .bool ok1] else v))
            | none => do let z ← Go.zeroValue elem; let x ← Pure.pure (z, false); (match x with | (v, ok1) => Pure.pure (if ok = true then .tuple #[v, .bool ok1] else v))) := by
      intro ρ2 es es' hes
      have hem : es.isEmpty = es'.isEmpty := by
        have : es.size = es'.size := by simpa using hes.1
        simp [Array.isEmpty, this]
      rw [hem]
      have two : ∀ {ρ3 : Ren} {v v' : Value} (b : Bool), VRel P ρ3 v v' → VRel P ρ3 (if ok = true then .tuple #[v, .bool b] else v) (if ok = true then .tuple #[v', .bool b] else v') := by
        intro ρ3 v v' b hv
        split
        · refine .tuple rfl fun i u u' hu hu' => ?_
          match i with
          | 0 => simp at hu hu'; subst hu; subst hu'; exact hv
          | 1 => simp at hu hu'; subst hu; subst hu'; exact .bool b
          | i + 2 => simp at hu
        · exact hv
      refine SR.bind (SR.quiet (quiet_checkKey _ _ _ _)) fun ρ3 _ _ hl3 _ => ?_
      refine SR.bind (SR.findKey keyType k' (hes.mono hl3)) fun ρ4 x x' hl4 hx => ?_
      rcases hx with ⟨rfl, rfl⟩ | ⟨i, u, u', rfl, rfl, hu⟩
      · refine SR.bind (SV.zeroValue (hz _ _ hd)) fun ρ5 z z' hl5 hzz => ?_
        exact SR.pure fun _ hl6 => two false (hzz.mono hl6)
      · exact SR.pure fun _ hl6 => two true (hu.mono hl6)
    have hm1 := hm.mono hl
    cases hm1 with
    | nilm => exact rest (es := #[]) (es' := #[]) ⟨rfl, fun j m m' h => by simp at h⟩
    | map hr =>
      dsimp only
      refine SR.bind (SR.getObj hr) fun ρ2 o o' hl2 ho => ?_
      obtain ⟨B, hB, rfl, hro, hs0, hrel, hp⟩ := ho
      cases o with
      | map es clock =>
        obtain ⟨es', rfl, hes⟩ := hrel.of_map
        exact rest hes
      | _ => exact SR.fail fun _ => rfl
    | _ => exact SR.fail fun _ => rfl
  | _ => exact SR.stuck

end Go.Abs
