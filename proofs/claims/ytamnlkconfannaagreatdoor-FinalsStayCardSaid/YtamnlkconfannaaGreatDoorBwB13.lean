import Derived.Test.YtamnlkconfannaaGreatDoorBwB6
import Derived.Below
import Derived.Deep.Slices
import Derived.ChangeArms
import Derived.Test.YtamnlkconfannaaGreatDoorBwB12
/-
From the abstract heap to the world that the claims speak of: a list of ints that is handed in.
-/
namespace Go.Abs
open Go Go.RowKit Go.Deep
variable {P : Program} {α β : Type}

theorem below_of_later {ρ ρ' : Ren} {h h' : H} {w w' : World} (hl : Later ρ h w ρ' h' w') (hro : ∀ i B, ρ i = some (some B) → B.ro = true) : Below w.heap.size w w' :=
  ⟨hl.os, hl.tape, hl.output, hl.wsize, fun k hk => hl.frame k hk fun i B hB hr => by rw [hro i B hB] at hr; cases hr⟩

/-- One block that is only read. -/
def one (B : Blk) : Ren := fun i => if i = 0 then some (some B) else none

theorem one_some {B : Blk} {i : Nat} {C : Blk} (h : one B i = some (some C)) : i = 0 ∧ C = B := by
  unfold one at h
  split at h
  · rename_i hi; cases h; exact ⟨hi, rfl⟩
  · cases h

theorem glob_ro {w : World} {ρ : Ren} (hro : ∀ i B, ρ i = some (some B) → B.ro = true) : Glob ⟨w.heap, false, none⟩ ρ w := fun g ob hg => ⟨hg, fun i B hB hr => by rw [hro i B hB] at hr; cases hr⟩

/-- The first cell of an address with its row. -/
theorem ints_rel {w : World} {a : Addr} {cap : Nat} {V : Nat → Value} (h0 : 0 < cap) (hV : ∀ i, i < cap → ∃ y, V i = .int .i64 y ∧ w.cell? (a.add i) = some (V i)) :
    ∃ (c : Array Value) (el : TypeId) (f : Nat × Nat), w.heap[a.block]? = some (.cells c el f) ∧ a.spot = none ∧ ∀ i, i < cap → c[a.off + i]? = some (V i) := by
  obtain ⟨y, e0, c0⟩ := hV 0 h0
  have ha : a.add 0 = a := by simp [Addr.add]
  rw [ha] at c0
  unfold World.cell? at c0
  split at c0
  case h_2 => cases c0
  rename_i c el f hb
  split at c0
  · cases c0
  rename_i hs
  have hs' : a.spot = none := by simpa using hs
  refine ⟨c, el, f, hb, hs', fun i hi => ?_⟩
  obtain ⟨y, _, ci⟩ := hV i hi
  rw [add_spot hs'] at ci
  unfold World.cell? at ci
  rw [hb] at ci
  simpa using ci

theorem ints_join {H : Type} {enc : TypeId × Value → H} {t e : TypeId} {fuel : Nat} {base : Nat} (ht : P.underlying t = some (.slice e)) (he : P.underlying e = some (.int .i64)) (hc : P.cellsOf e = 1) (hopen : maxLen < OPEN) {f : FuncId} {W : World} {v0 : Value} {x : DataW H × List MemPlace}
    (h0 : DataW.trod enc P W base (fun _ => true) true fuel t [v0] = some x)
    (law : ∀ (el : TypeId) (xs : Array Value) (p : Option Addr) (n c : Nat), (p = none ∧ n = 0 ∧ c = 0 ∨ p = some ⟨0, 0, none⟩ ∧ (0 < n → ∃ y, xs[0]? = some (.int .i64 y))) →
      ACall P ⟨W.heap, false, none⟩ f #[.slice p n c] #[.cells xs el (0, xs.size)] fun v _ => v = .bool true) :
    Calls P f #[v0] W fun e W' => e = .returned (.bool true) ∧ Below W.heap.size W W' := by
  have flatB : ∀ {ρ1 : Ren} {v : Value} {v' : Value}, v = .bool true → VRel P ρ1 v v' → v' = .bool true := fun e h => by subst e; cases h; rfl
  rcases open_slice1 ht hc h0 with ⟨e1, _⟩ | ⟨a, len, cap, m, n, V, D, Pl, e1, _, hlen, hcap, hm, _, hx⟩
  · simp only [List.cons.injEq, and_true] at e1
    subst e1
    have hro : ∀ i B, (fun _ => none : Ren) i = some (some B) → B.ro = true := fun i B h => by cases h
    refine (law e #[] none 0 0 (.inl ⟨rfl, rfl, rfl⟩) (fun _ => none) #[.cells #[] e (0, 0)] W (glob_ro hro) (fun _ => none) #[.slice none 0 0] W (.refl _ _ _)
      ⟨fun i B h => (by cases h), fun i h => (by cases h), fun i j B C h => (by cases h)⟩ ⟨rfl, fun i u u' h1 h2 => ?_⟩).mono ?_
    · cases i with
      | zero => simp at h1 h2; subst h1; subst h2; exact .nils
      | succ i => simp at h1
    · rintro e w1 ⟨v', rfl, ρ1, v, h1, hv, hl, _, hr⟩
      exact ⟨by rw [flatB hv hr], below_of_later hl hro⟩
  · simp only [List.cons.injEq, and_true] at e1
    subst e1
    simp only [if_true] at hm
    subst hm
    have hV : ∀ i, i < m → ∃ y, V i = .int .i64 y ∧ W.cell? (a.add i) = some (V i) := fun i hi => by
      obtain ⟨c1, c2⟩ := hx i hi
      obtain ⟨y, e, _, _⟩ := DataW.trod_int he c2
      simp only [List.cons.injEq, and_true] at e
      exact ⟨y, e, c1⟩
    have hlt : m < OPEN := Nat.lt_of_le_of_lt hcap hopen
    by_cases h0 : 0 < m
    · obtain ⟨c, el, fz, hb, hs, hcc⟩ := ints_rel h0 hV
      have hsz : m + a.off ≤ c.size := by
        have := (Array.getElem?_eq_some_iff.1 (hcc (m - 1) (by omega))).1
        omega
      let xs : Array Value := Array.ofFn (n := m) fun i => V i
      have hxs : xs.size = m := by simp [xs]
      let B : Blk := ⟨a.block, a.off, true, el, c.size⟩
      have hro : ∀ i C, one B i = some (some C) → C.ro = true := fun i C h => by rw [(one_some h).2]
      have hsim : Sim P (one B) #[.cells xs el (0, xs.size)] W := by
        refine ⟨fun i C h => ?_, fun i h => ?_, fun i j C D h1 h2 _ => by rw [(one_some h1).1, (one_some h2).1]⟩
        · obtain ⟨rfl, rfl⟩ := one_some h
          refine ⟨_, _, rfl, hb, rfl, rfl, rfl, by rw [hxs]; exact hsz, fun j v v' hv hv' => ?_, fun j v hv => ?_, rfl⟩
          · have hj : j < m := by have := (Array.getElem?_eq_some_iff.1 hv).1; rw [hxs] at this; exact this
            have e1 : xs[j]? = some (V j) := by simp [xs, hj]
            rw [e1] at hv; cases hv
            have e2 := hcc j hj
            rw [Nat.add_comm] at e2
            rw [show B.s = a.off from rfl, e2] at hv'
            cases hv'
            obtain ⟨y, e3, _⟩ := hV j hj
            rw [e3]; exact .int _ _
          · have hj : j < m := by have := (Array.getElem?_eq_some_iff.1 hv).1; rw [hxs] at this; exact this
            have e1 : xs[j]? = some (V j) := by simp [xs, hj]
            rw [e1] at hv; cases hv
            obtain ⟨y, e3, _⟩ := hV j hj
            rw [e3]; rfl
        · unfold one at h
          split at h <;> cases h
      have hfirst : 0 < len → ∃ y, xs[0]? = some (.int .i64 y) := fun _ => by
        obtain ⟨y, e3, _⟩ := hV 0 h0
        exact ⟨y, by simp [xs, h0, e3]⟩
      refine (law el xs (some ⟨0, 0, none⟩) len m (.inr ⟨rfl, hfirst⟩) (one B) _ W (glob_ro hro) (one B) #[.slice (some a) len m] W (.refl _ _ _) hsim ⟨rfl, fun i u u' h1 h2 => ?_⟩).mono ?_
      · cases i with
        | zero =>
          simp at h1 h2; subst h1; subst h2
          refine .slc hlt hlen (.inl ⟨rfl, .inr ⟨B, rfl, ?_⟩⟩)
          cases a
          simp only at hs
          subst hs
          simp [B]
        | succ i => simp at h1
      · rintro e w1 ⟨v', rfl, ρ1, v, h1, hv, hl, _, hr⟩
        exact ⟨by rw [flatB hv hr], below_of_later hl hro⟩
    · have hm0 : m = 0 := by omega
      have hl0 : len = 0 := by omega
      subst hm0; subst hl0
      have hro : ∀ i B, (fun _ => none : Ren) i = some (some B) → B.ro = true := fun i B h => by cases h
      refine (law e #[] (some ⟨0, 0, none⟩) 0 0 (.inr ⟨rfl, fun h => absurd h (by omega)⟩) (fun _ => none) #[.cells #[] e (0, 0)] W (glob_ro hro) (fun _ => none) #[.slice (some a) 0 0] W (.refl _ _ _)
        ⟨fun i B h => (by cases h), fun i h => (by cases h), fun i j B C h => (by cases h)⟩ ⟨rfl, fun i u u' h1 h2 => ?_⟩).mono ?_
      · cases i with
        | zero => simp at h1 h2; subst h1; subst h2; exact .slc hlt (Nat.le_refl _) (.inr rfl)
        | succ i => simp at h1
      · rintro e w1 ⟨v', rfl, ρ1, v, h1, hv, hl, _, hr⟩
        exact ⟨by rw [flatB hv hr], below_of_later hl hro⟩

/-- A variable of a package that holds one int and of which nothing more is known. -/
theorem int_var {g : Nat} {t : TypeId} {zero : Array Value} {W : World} (hW : W.ShapedOpen P) (hg : g < P.globals.size) (h0 : (((begin P (fun _ _ => 0) default).world.heap[g]?).bind Obj.row?) = some (zero, t)) (h1 : zero.size = 1)
    (hb : P.buildable t = true) (hts : P.cellTypes P.depth t = some [t]) (hu : P.underlying t = some (.int .i64)) : ∃ m, W.heap[g]? = some (.cells #[.int .i64 m] t (0, 0)) := by
  obtain ⟨cs, c1, c2, c3⟩ := hW.1 g zero t hg h0
  obtain ⟨ts, d1, _, d3⟩ := c3 hb
  rw [hts] at d1
  cases d1
  rw [h1] at c2
  obtain ⟨l⟩ := cs
  match l, c2 with
  | [v], _ =>
    obtain ⟨u, e1, e2⟩ := d3 0 v rfl
    simp at e1
    subst e1
    unfold Cell.ok at e2
    rw [hu] at e2
    cases v <;> simp at e2
    rename_i m
    obtain ⟨rfl, _⟩ := e2
    exact ⟨_, c1⟩

theorem slice_cells {w : World} {r : Reach} {b : Nat} {t e : TypeId} {v : Value} (hu : P.underlying t = some (.slice e)) (h : Value.okWide P w r b t v) : v.cells.toList = [v] := by
  unfold Value.okWide Cell.okWide Cell.ok at h
  rw [hu] at h
  cases v <;> first | rfl | exact h.elim

end Go.Abs

/-
A list of ints that is handed in, all of it known to be ints.
-/
namespace Go.Abs
open Go Go.RowKit Go.Deep
variable {P : Program} {α β : Type}

def ival : Value → Int | .int _ n => n | _ => 0
def lstV (z : Bool) (n c : Nat) : Value := match z with | true => .slice none 0 0 | false => .slice (some ⟨0, 0, none⟩) n c
def lstO (z : Bool) (el : TypeId) (ys : List Int) : Obj := match z with | true => Abs.tomb | false => .cells ⟨ys.map (Value.int .i64)⟩ el (0, ys.length)

theorem ints_joinS {H : Type} {enc : TypeId × Value → H} {t e : TypeId} {fuel : Nat} {base : Nat} (ht : P.underlying t = some (.slice e)) (he : P.underlying e = some (.int .i64)) (hc : P.cellsOf e = 1) (hopen : maxLen < OPEN) {f : FuncId} {W : World} {v0 : Value} {x : DataW H × List MemPlace}
    (h0 : DataW.trod enc P W base (fun _ => true) true fuel t [v0] = some x)
    (law : ∀ (z : Bool) (el : TypeId) (ys : List Int) (n c : Nat), n ≤ ys.length → ACall P ⟨W.heap, false, none⟩ f #[lstV z n c] #[lstO z el ys] fun v _ => v = .bool true) :
    Calls P f #[v0] W fun e W' => e = .returned (.bool true) ∧ Below W.heap.size W W' := by
  have flatB : ∀ {ρ1 : Ren} {v : Value} {v' : Value}, v = .bool true → VRel P ρ1 v v' → v' = .bool true := fun e h => by subst e; cases h; rfl
  rcases open_slice1 ht hc h0 with ⟨e1, _⟩ | ⟨a, len, cap, m, n, V, D, Pl, e1, _, hlen, hcap, hm, _, hx⟩
  · simp only [List.cons.injEq, and_true] at e1
    subst e1
    have hro : ∀ i B, (fun _ => none : Ren) i = some (some B) → B.ro = true := fun i B h => by cases h
    refine (law true e [] 0 0 (Nat.le_refl _) (fun _ => none) #[lstO true e []] W (glob_ro hro) (fun _ => none) #[.slice none 0 0] W (.refl _ _ _)
      ⟨fun i B h => (by cases h), fun i h => (by cases h), fun i j B C h => (by cases h)⟩ ⟨rfl, fun i u u' h1 h2 => ?_⟩).mono ?_
    · cases i with
      | zero => simp [lstV] at h1 h2; subst h1; subst h2; exact .nils
      | succ i => simp at h1
    · rintro e w1 ⟨v', rfl, ρ1, v, h1, hv, hl, _, hr⟩
      exact ⟨by rw [flatB hv hr], below_of_later hl hro⟩
  · simp only [List.cons.injEq, and_true] at e1
    subst e1
    simp only [if_true] at hm
    subst hm
    have hV : ∀ i, i < m → ∃ y, V i = .int .i64 y ∧ W.cell? (a.add i) = some (V i) := fun i hi => by
      obtain ⟨c1, c2⟩ := hx i hi
      obtain ⟨y, e, _, _⟩ := DataW.trod_int he c2
      simp only [List.cons.injEq, and_true] at e
      exact ⟨y, e, c1⟩
    have hlt : m < OPEN := Nat.lt_of_le_of_lt hcap hopen
    by_cases h0 : 0 < m
    · obtain ⟨c, el, fz, hb, hs, hcc⟩ := ints_rel h0 hV
      have hsz : m + a.off ≤ c.size := by
        have := (Array.getElem?_eq_some_iff.1 (hcc (m - 1) (by omega))).1
        omega
      let ys : List Int := (List.range m).map fun i => ival (V i)
      have hys : ys.length = m := by simp [ys]
      have hxs : (⟨ys.map (Value.int .i64)⟩ : Array Value).size = m := by simp [ys]
      have hat : ∀ j, j < m → (⟨ys.map (Value.int .i64)⟩ : Array Value)[j]? = some (V j) := fun j hj => by
        obtain ⟨y, e3, _⟩ := hV j hj
        simp [ys, hj, e3, ival]
      let B : Blk := ⟨a.block, a.off, true, el, c.size⟩
      have hro : ∀ i C, one B i = some (some C) → C.ro = true := fun i C h => by rw [(one_some h).2]
      have hsim : Sim P (one B) #[.cells ⟨ys.map (Value.int .i64)⟩ el (0, ys.length)] W := by
        rw [hys]
        refine ⟨fun i C h => ?_, fun i h => ?_, fun i j C D h1 h2 _ => by rw [(one_some h1).1, (one_some h2).1]⟩
        · obtain ⟨rfl, rfl⟩ := one_some h
          refine ⟨_, _, rfl, hb, rfl, rfl, rfl, by rw [hxs]; exact hsz, fun j v v' hv hv' => ?_, fun j v hv => ?_, by rw [hxs]; rw [if_pos rfl]⟩
          · have hj : j < m := by have := (Array.getElem?_eq_some_iff.1 hv).1; rw [hxs] at this; exact this
            rw [hat j hj] at hv; cases hv
            have e2 := hcc j hj
            rw [Nat.add_comm] at e2
            rw [show B.s = a.off from rfl, e2] at hv'
            cases hv'
            obtain ⟨y, e3, _⟩ := hV j hj
            rw [e3]; exact .int _ _
          · have hj : j < m := by have := (Array.getElem?_eq_some_iff.1 hv).1; rw [hxs] at this; exact this
            rw [hat j hj] at hv; cases hv
            obtain ⟨y, e3, _⟩ := hV j hj
            rw [e3]; rfl
        · unfold one at h
          split at h <;> cases h
      refine (law false el ys len m (by omega) (one B) _ W (glob_ro hro) (one B) #[.slice (some a) len m] W (.refl _ _ _) hsim ⟨rfl, fun i u u' h1 h2 => ?_⟩).mono ?_
      · cases i with
        | zero =>
          simp [lstV] at h1 h2; subst h1; subst h2
          refine .slc hlt hlen (.inl ⟨rfl, .inr ⟨B, rfl, ?_⟩⟩)
          cases a
          simp only at hs
          subst hs
          simp [B]
        | succ i => simp at h1
      · rintro e w1 ⟨v', rfl, ρ1, v, h1, hv, hl, _, hr⟩
        exact ⟨by rw [flatB hv hr], below_of_later hl hro⟩
    · have hm0 : m = 0 := by omega
      have hl0 : len = 0 := by omega
      subst hm0; subst hl0
      have hro : ∀ i B, (fun _ => none : Ren) i = some (some B) → B.ro = true := fun i B h => by cases h
      refine (law false e [] 0 0 (Nat.le_refl _) (fun _ => none) #[lstO false e []] W (glob_ro hro) (fun _ => none) #[.slice (some a) 0 0] W (.refl _ _ _)
        ⟨fun i B h => (by cases h), fun i h => (by cases h), fun i j B C h => (by cases h)⟩ ⟨rfl, fun i u u' h1 h2 => ?_⟩).mono ?_
      · cases i with
        | zero => simp [lstV] at h1 h2; subst h1; subst h2; exact .slc hlt (Nat.le_refl _) (.inr rfl)
        | succ i => simp at h1
      · rintro e w1 ⟨v', rfl, ρ1, v, h1, hv, hl, _, hr⟩
        exact ⟨by rw [flatB hv hr], below_of_later hl hro⟩
end Go.Abs

namespace Go.Proofs.Tryz
open Go Go.Abs
theorem eight : ∀ (hs : List Hon), (hs.length : Int) = 8 → ∃ a0 a1 a2 a3 a4 a5 a6 a7, hs = [a0, a1, a2, a3, a4, a5, a6, a7]
  | [a0, a1, a2, a3, a4, a5, a6, a7], _ => ⟨a0, a1, a2, a3, a4, a5, a6, a7, rfl⟩
  | [], h | [_], h | [_, _], h | [_, _, _], h | [_, _, _, _], h | [_, _, _, _, _], h | [_, _, _, _, _, _], h | [_, _, _, _, _, _, _], h => by simp at h
  | _ :: _ :: _ :: _ :: _ :: _ :: _ :: _ :: _ :: _, h => by simp at h; omega

theorem lawS {Γ : Gl} {m : Int} {e : TypeId} {f : Nat × Nat} (hΓ : Γ.heap[2]? = some (.cells #[.int .i64 m] e f)) (s : Src) :
    FT prog Γ 3 #[s.lst] ⟨1, [(0, s.row)]⟩ fun v h => v = .bool true := by
  obtain ⟨v0, k0, hc, hs, t, hcase, ht, e1, e2⟩ := rightS (Γ := Γ.at 1) s 0 8 (by omega) (by omega) (by omega) (by omega)
  have hd : FT prog (Γ.at 1) 4 #[.pointer (some ⟨1, 0, none⟩), .int .i64 8] (s.h 0) fun v h => v = honV hs ∧ h = s.hon t hs := ⟨v0, k0, hc, e1, e2⟩
  rcases hcase with rfl | ⟨_, hok, hl⟩
  · exact lawNil hΓ s t hd
  · obtain ⟨a0, a1, a2, a3, a4, a5, a6, a7, rfl⟩ := eight hs hl
    exact lawFull hΓ s t a0 a1 a2 a3 a4 a5 a6 a7 hok hd

theorem lawA {Γ : Gl} {m : Int} {e : TypeId} {f : Nat × Nat} (hΓ : Γ.heap[2]? = some (.cells #[.int .i64 m] e f)) (z : Bool) (el : TypeId) (ys : List Int) (n c : Nat) (hn : n ≤ ys.length) :
    ACall prog Γ 3 #[lstV z n c] #[lstO z el ys] fun v _ => v = .bool true := by
  have h := (lawS hΓ ⟨z, el, ys, n, c, hn⟩).call
  cases z
  · exact h.mono fun u k ⟨_, _, h⟩ => h
  · exact h.mono fun u k ⟨_, _, h⟩ => h
end Go.Proofs.Tryz
