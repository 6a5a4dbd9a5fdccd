/-
The abstract heap: slices, maps, and the built-in functions.
-/
import Derived.Test.YtgeoihombkjgnaaGreatDoorBwAbsD
namespace Go.Abs
open Go
variable {P : Program} {ρ : Ren}

/-- Not a slice of an unknown capacity. -/
def shut : Value → Bool
  | .slice (some _) _ c => c != OPEN
  | _ => true

theorem SV.slice {v v' : Value} {lo lo' hi hi' mx mx' : Option Value} (t : TypeId) (ht : (match P.underlying t with | some .string | some (.slice _) => true | _ => false) = true) (hs : shut v = true) (hv : VRel P ρ v v') (hlo : ORl P ρ lo lo') (hhi : ORl P ρ hi hi') (hmx : ORl P ρ mx mx') :
    SV P ρ (Instr.slice t v lo hi mx) (Instr.slice t v' lo' hi' mx') := by
  unfold Instr.slice
  refine SR.bind (SR.underlying t) fun ρ1 d d' hl hd => ?_
  obtain ⟨rfl, hd⟩ := hd
  have hv1 := hv.mono hl
  have hlo1 := hlo.mono hl
  have hhi1 := hhi.mono hl
  have hmx1 := hmx.mono hl
  have hsome : mx'.isSome = mx.isSome := by rcases hmx with ⟨rfl, rfl⟩ | ⟨_, _, rfl, rfl, _⟩ <;> rfl
  cases d with
  | string =>
    cases hv1 with
    | string s =>
      dsimp only
      rw [hsome]
      split
      · exact SR.bind SR.stuck fun _ _ _ _ (h : False) => h.elim
      · refine SR.bind (SR.sliceBounds false s.size s.size s.size (Nat.le_refl _) (Nat.le_refl _) hlo1 hhi1 (.inl ⟨rfl, rfl⟩)) fun ρ2 x y hl2 hxy => ?_
        obtain ⟨l, h, m⟩ := x
        obtain ⟨l', h', m'⟩ := y
        obtain ⟨e1, e2, _⟩ := hxy
        dsimp only at e1 e2
        subst e1; subst e2
        exact SR.pure fun _ _ => .string _
    | _ => exact SR.stuck
  | slice e =>
    cases hv1 with
    | nils =>
      dsimp only
      refine SR.bind (SR.sliceBounds true 0 0 0 (Nat.le_refl _) (Nat.le_refl _) hlo1 hhi1 hmx1) fun ρ2 x y hl2 hxy => ?_
      obtain ⟨l, h, m⟩ := x
      obtain ⟨l', h', m'⟩ := y
      obtain ⟨e1, e2, e3, e4, e5⟩ := hxy
      dsimp only at e1 e2 e3 e4 e5
      subst e1; subst e2
      have hm0 : m = 0 ∧ m' = 0 := by rcases e5 with ⟨_, a, b⟩ | ⟨_, a, _⟩ <;> omega
      obtain ⟨rfl, rfl⟩ := hm0
      have hh0 : h = 0 := by omega
      subst hh0
      have hl0 : l = 0 := by omega
      subst hl0
      refine SR.bind (SR.sizeOf e) fun ρ3 s s' hl3 hs3 => ?_
      obtain ⟨rfl, _⟩ := hs3
      exact SR.pure fun _ hl4 => .nils
    | @slc a a' n c hc hnc ha =>
      dsimp only
      refine SR.bind (SR.sliceBounds true n c c (Nat.le_refl _) hnc hlo1 hhi1 hmx1) fun ρ2 x y hl2 hxy => ?_
      obtain ⟨l, h, m⟩ := x
      obtain ⟨l', h', m'⟩ := y
      obtain ⟨e1, e2, e3, e4, e5⟩ := hxy
      dsimp only at e1 e2 e3 e4 e5
      subst e1; subst e2
      have em : m = m' := by rcases e5 with ⟨_, a, b⟩ | ⟨_, a, _⟩ <;> omega
      subst em
      have hmc : m ≤ c := by rcases e5 with ⟨_, a, _⟩ | ⟨_, _, a⟩ <;> omega
      refine SR.bind (SR.sizeOf e) fun ρ3 s s' hl3 hs3 => ?_
      obtain ⟨rfl, _⟩ := hs3
      refine SR.pure fun _ hl4 => ?_
      split
      · exact .slc (by omega) (by omega) (ha.imp (fun h => ((h.mono hl2).mono hl3).mono hl4) fun h => by omega)
      · exact .slc (by omega) (by omega) (ha.imp (fun h => (((h.mono hl2).mono hl3).mono hl4).add _) fun h => by omega)
    | @opn a a' n c' h => simp [shut] at hs
    | _ => exact SR.stuck
  | _ => simp [hd] at ht


/-- What a program does, from a given pair of worlds. -/
def Does (P : Program) (ρ : Ren) (h : H) (w : World) (v : Value) (h1 : H) (s' : Sem Value) : Prop :=
  ∃ v' w1 ρ2, s'.run P w = .ok v' w1 ∧ Later ρ h w ρ2 h1 w1 ∧ Sim P ρ2 h1 w1 ∧ VRel P ρ2 v v'

theorem SV.does {s s' : Sem Value} {h : H} {w : World} (hs : SV P ρ s s') (hsim : Sim P ρ h w) {v : Value} {h1 : H} (hr : arun P s h = some (v, h1)) : Does P ρ h w v h1 s' := by
  obtain ⟨b, w1, ρ2, e1, e2, e3, e4⟩ := hs ρ h w (.refl _) hsim v h1 hr
  exact ⟨b, w1, ρ2, e1, e2, e3, e4⟩

def aslice (P : Program) (t : TypeId) (a : Addr) (n : Nat) (lo hi mx : Option Value) (h : H) : Option Value :=
  match P.underlying t with
  | some (.slice e) =>
    match P.info? e with
    | none => none
    | some i =>
      match h[a.block]? with
      | some (.cells c e' (0, 0)) =>
        if e' = e ∧ 0 < i.size ∧ n ≤ (c.size - a.off) / i.size then
          match arun P (Instr.sliceBounds true n ((c.size - a.off) / i.size) lo hi mx) h with
          | some ((l, u, m), _) =>
            if mx.isNone then some (.slice (some (a.add (l * i.size))) (u - l) OPEN)
            else if m < OPEN then some (.slice (some (if m = l then a else a.add (l * i.size))) (u - l) (m - l)) else none
          | none => none
        else none
      | _ => none
  | _ => none

theorem sliceBounds_heap {b : Bool} {n k : Nat} {lo hi mx : Option Value} {h h1 : H} {x : Nat × Nat × Nat} (hr : arun P (Instr.sliceBounds b n k lo hi mx) h = some (x, h1)) : h1 = h := by
  have key : ∀ (v : Value) (y : Nat) (c : BoundsCode) (g g1 : H) (z : Nat), arun P (Instr.sliceBound v y c) g = some (z, g1) → g1 = g := by
    intro v y c g g1 z hz
    unfold Instr.sliceBound at hz
    simp only [arun_bind, Option.bind_eq_some_iff] at hz
    obtain ⟨⟨⟨kk, i⟩, g2⟩, e1, e2⟩ := hz
    have : g2 = g := by
      cases v with
      | int k n => simp [Go.asIntOf] at e1; exact e1.2.symm
      | pointer a => cases a <;> simp [Go.asIntOf] at e1
      | _ => simp [Go.asIntOf] at e1
    subst this
    dsimp only at e2
    split at e2
    · simp at e2; exact e2.2.symm
    · exfalso
      have := SR.boundsPanic (P := P) (ρ := fun _ => none) (α := Nat) (β := Nat) (R := fun _ _ _ => True) (k := kk) (x := i) (y := (y : Int)) (c := c) (s' := Go.stuck "")
      unfold Go.boundsPanic at e2
      split at e2 <;> simp [runtimePanic] at e2
  unfold Instr.sliceBounds at hr
  dsimp only at hr
  cases mx <;> cases hi <;> cases lo <;> simp only [pure_bind, arun_bind, Option.bind_eq_some_iff, arun_pure, Option.some.injEq, Prod.mk.injEq, arun_stuck] at hr
  all_goals first
    | exact hr.2.symm
    | (obtain ⟨⟨a, g⟩, e1, e2⟩ := hr; cases e1; done)
    | (obtain ⟨⟨a, g⟩, e1, _, e2⟩ := hr; obtain rfl := key _ _ _ _ _ _ e1; exact e2.symm)
    | (obtain ⟨⟨a, g⟩, e1, ⟨b, g2⟩, e2, _, e3⟩ := hr; obtain rfl := key _ _ _ _ _ _ e1; obtain rfl := key _ _ _ _ _ _ e2; exact e3.symm)
    | (obtain ⟨⟨a, g⟩, e1, ⟨b, g2⟩, e2, ⟨c, g3⟩, e3, _, e4⟩ := hr; obtain rfl := key _ _ _ _ _ _ e1; obtain rfl := key _ _ _ _ _ _ e2; obtain rfl := key _ _ _ _ _ _ e3; exact e4.symm)
    | (obtain ⟨⟨a, g⟩, _, ⟨b, g2⟩, e2, _⟩ := hr; cases e2; done)

theorem szOf_eq {e : TypeId} {i : TypeInfo} (hi : P.info? e = some i) : szOf P e = i.size := by simp [szOf, hi]

theorem aslice_does {t : TypeId} {a a' : Addr} {n c' : Nat} {lo lo' hi hi' mx mx' : Option Value} {h : H} {w : World} (hsim : Sim P ρ h w) (ho : ORel P ρ a a' n c')
    (hlo : ORl P ρ lo lo') (hhi : ORl P ρ hi hi') (hmx : ORl P ρ mx mx') {v : Value} (hv : aslice P t a n lo hi mx h = some v) :
    Does P ρ h w v h (Instr.slice t (.slice (some a') n c') lo' hi' mx') := by
  unfold aslice at hv
  split at hv
  case h_2 => cases hv
  rename_i e hd
  split at hv
  case h_1 => cases hv
  rename_i i hi0
  split at hv
  case h_2 => cases hv
  rename_i c e' hb
  split at hv
  case isFalse => cases hv
  rename_i hc
  obtain ⟨rfl, hsz, hnk⟩ := hc
  obtain ⟨hsp, hdead | ⟨B, hB, hro, hpos, hnc, hmax, hcase⟩⟩ := ho
  · rw [hsim.dead _ hdead] at hb; cases hb
  · obtain ⟨c2, f2, q2, q3, he, hcs, hfit⟩ := hsim.cellsAt hB hb
    have hsz' : szOf P B.e = i.size := by rw [← he]; exact szOf_eq hi0
    rw [hsz'] at hcase hpos
    have hk : (c.size - a.off) / i.size ≤ c' := by
      rcases hcase with ⟨rfl, hsum⟩ | ⟨rfl, hend⟩
      · dsimp only at hsum
        have h1 : c.size - a.off ≤ c' * i.size := by omega
        exact Nat.le_trans (Nat.div_le_div_right h1) (by rw [Nat.mul_div_cancel _ hsz]; exact Nat.le_refl _)
      · have : c.size - a.off = 0 := by omega
        rw [this, Nat.zero_div]
        exact Nat.le_refl _
    have hsr := SR.sliceBounds (P := P) (ρ := ρ) (lo := lo) (lo' := lo') (hi := hi) (hi' := hi') (mx := mx) (mx' := mx') true n ((c.size - a.off) / i.size) c' hk hnk hlo hhi hmx
    split at hv
    case h_2 => cases hv
    rename_i l u m hh hrun
    obtain rfl := sliceBounds_heap hrun
    obtain ⟨⟨l', u', m'⟩, w1, ρ2, g1, g2, g3, g4⟩ := hsr ρ hh w (.refl _) hsim _ _ hrun
    obtain ⟨e1, e2, e3, e4, e5⟩ := g4
    dsimp only at e1 e2 e3 e4 e5
    subst e1; subst e2
    have hrun' : (Instr.slice t (.slice (some a') n c') lo' hi' mx').run P w = .ok (.slice (if m' = l then some a' else some (a'.add (l * i.size))) (u - l) (m' - l)) w1 := by
      simp only [Instr.slice, Sem.run_bind, run_underlying', hd, Result.andThen_ok, g1, sizeOf, run_typeInfo', hi0, Sem.run_pure, Option.map_some]
    have hB2 : ρ2 a.block = some (some B) ∨ ρ2 a.block = some none := by
      rcases g2.le _ _ hB with h | h <;> first | exact .inl h | exact .inr h
    have hadd : ∀ (k : Nat) (x : Addr), x.spot = none → x.add k = ⟨x.block, x.off + k, none⟩ := fun k x hx => by
      unfold Addr.add
      split
      · rename_i h0; subst h0; cases x; simp at hx; simp [hx]
      · rfl
    have hmk : m ≤ (c.size - a.off) / i.size := by rcases e5 with ⟨_, a, _⟩ | ⟨_, _, a⟩ <;> omega
    have hmul : m * i.size ≤ c.size - a.off := Nat.le_trans (Nat.mul_le_mul_right _ hmk) (Nat.div_mul_le_self _ _)
    have hlm : l * i.size ≤ m * i.size := Nat.mul_le_mul_right _ (by omega)
    split at hv
    · rename_i hmx0
      cases hv
      have hmxn : mx = none := by cases mx <;> simp at hmx0 ⊢
      rcases e5 with ⟨_, rfl, rfl⟩ | ⟨hne, _⟩
      case inr => exact absurd hmxn hne
      refine ⟨_, w1, ρ2, hrun', g2, g3, ?_⟩
      have go : ∀ (x : Addr), ORel P ρ2 (a.add (l * i.size)) x (u - l) (m' - l) → VRel P ρ2 (.slice (some (a.add (l * i.size))) (u - l) OPEN) (.slice (some x) (u - l) (m' - l)) := fun x hx => .opn hx
      have goal : ORel P ρ2 (a.add (l * i.size)) (if m' = l then a' else a'.add (l * i.size)) (u - l) (m' - l) := by
        rw [hadd _ _ hsp]
        refine ⟨rfl, ?_⟩
        rcases hB2 with hB2 | hB2
        · refine .inr ⟨B, hB2, hro, by rw [hsz']; exact hpos, by omega, by omega, ?_⟩
          rw [hsz']
          rcases hcase with ⟨rfl, hsum⟩ | ⟨rfl, hend⟩
          · dsimp only at hsum ⊢
            have hml : m' * i.size = (m' - l) * i.size + l * i.size := by rw [← Nat.add_mul]; congr 1; omega
            split
            · rename_i hml0
              subst hml0
              right
              refine ⟨by omega, by omega⟩
            · left
              rw [hadd _ _ rfl]
              dsimp only
              refine ⟨by congr 1; omega, by omega⟩
          · have : l = 0 := by omega
            subst this
            right
            refine ⟨by omega, by simpa using hend⟩
        · exact .inl hB2
      have := go _ goal
      split <;> simp_all
    · rename_i hmx0
      split at hv
      case isFalse => cases hv
      rename_i hmo
      cases hv
      rcases e5 with ⟨hm0, _⟩ | ⟨_, rfl, _⟩
      · subst hm0; simp at hmx0
      refine ⟨_, w1, ρ2, hrun', g2, g3, ?_⟩
      have goal : ARel ρ2 (if m = l then a else a.add (l * i.size)) (if m = l then a' else a'.add (l * i.size)) ∨ m - l = 0 := by
        rcases hcase with ⟨ha', hsum⟩ | ⟨rfl, hend⟩
        · left
          have : ARel ρ2 a a' := by
            refine ⟨hsp, ?_⟩
            rcases hB2 with hB2 | hB2
            · exact .inr ⟨B, hB2, ha'⟩
            · exact .inl hB2
          split
          · exact this
          · exact this.add _
        · right; omega
      have := VRel.slc (P := P) (ρ := ρ2) (n := u - l) (c := m - l) (by omega) (by omega) goal
      split <;> simp_all

end Go.Abs
