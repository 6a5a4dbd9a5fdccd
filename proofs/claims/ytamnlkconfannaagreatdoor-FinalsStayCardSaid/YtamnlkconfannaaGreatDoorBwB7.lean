import Derived.Test.YtamnlkconfannaaGreatDoorBwB6
/-
The frame rule: blocks, and calls.
-/
namespace Go.Abs
open Go
variable {P : Program} {Γ : Gl} {ρ : Ren} {α β : Type}

/-- A block without addresses. -/
def FlatO : Obj → Prop
  | .cells c _ _ => ∀ v, v ∈ c → flat v = true
  | .map es _ => ∀ m, m ∈ es → flat m.val = true
  | .stringIter _ _ => True
  | .deferred _ => True
  | .coro none => True
  | _ => False

def renO (σ : Nat → Nat) : Obj → Obj
  | .cells c e f => .cells ⟨c.toList.map (ren1 σ)⟩ e f
  | o => o

def plainO : Obj → Bool
  | .cells c _ _ => c.toList.all plain1
  | _ => false

def underO (m : Nat) : Obj → Bool
  | .cells c _ _ => c.toList.all (under1 m)
  | _ => false

/-- A block beside what it is in the great heap. -/
inductive EO (σ : Nat → Nat) (o oE : Obj) : Prop
  | rigid (h : FlatO o) (e : oE = o)
  | ren (h : plainO o = true) (e : oE = renO σ o)

inductive EIn (σ : Nat → Nat) (m : Nat) (o oE : Obj) : Prop
  | rigid (h : FlatO o) (e : oE = o)
  | ren (h : plainO o = true) (hu : underO m o = true) (e : oE = renO σ o)

theorem EIn.eo {σ : Nat → Nat} {m : Nat} {o oE : Obj} (h : EIn σ m o oE) : EO σ o oE := by
  cases h with
  | rigid h e => exact .rigid h e
  | ren h _ e => exact .ren h e

theorem EO.dead {σ : Nat → Nat} {oE : Obj} (h : EO σ tomb oE) : oE = tomb := by
  cases h with
  | rigid _ e => exact e
  | ren h _ => cases h

theorem EO.of_dead {σ : Nat → Nat} {o : Obj} (h : EO σ o tomb) : o = tomb := by
  cases h with
  | rigid _ e => exact e.symm
  | ren h e =>
    cases o with
    | cells c el f => cases e
    | _ => cases h

theorem FlatO.rel {ρ2 : Ren} {B : Blk} {o o' : Obj} (hf : FlatO o) (h : ObjRel P ρ B o o') : ObjRel P ρ2 B o o' := by
  cases o with
  | cells c e f =>
    cases o' with
    | cells c' e' f' =>
      obtain ⟨h1, h2, h3, h4, h5, h6, h7⟩ := h
      refine ⟨h1, h2, h3, h4, fun j v v' hv hv' => ?_, h6, h7⟩
      have hfl := hf v (Array.mem_of_getElem? hv)
      rw [flat_eq hfl (h5 j v v' hv hv')]
      exact flat_rel hfl
    | _ => exact h.elim
  | map es k =>
    cases o' with
    | map es' k' =>
      obtain ⟨h1, h2, h3, h4, h5⟩ := h
      refine ⟨h1, h2, h3, h4, fun j m m' hm hm' => ?_⟩
      obtain ⟨a1, a2, a3, a4⟩ := h5 j m m' hm hm'
      have hfl := hf m (Array.mem_of_getElem? hm)
      refine ⟨a1, a2, ?_, a4⟩
      rw [flat_eq hfl a3]
      exact flat_rel hfl
    | _ => exact h.elim
  | stringIter s p =>
    cases o' with
    | stringIter s' p' => exact h
    | _ => exact h.elim
  | deferred x =>
    cases o' with
    | deferred x' => exact h
    | _ => exact h.elim
  | coro x =>
    cases o' <;> exact h.elim
  | _ => exact hf.elim

theorem one_ren1 (σ : Nat → Nat) (v : Value) : (ren1 σ v).oneCell' = v.oneCell' := by
  cases v with
  | pointer a => cases a <;> rfl
  | slice a n c => cases a <;> rfl
  | map r => cases r <;> rfl
  | _ => rfl

theorem ObjRel.along {σ : Nat → Nat} {ρc : Ren} (hσ : Along σ ρc ρ) {B : Blk} {o oE o' : Obj} (he : EO σ o oE) (h : ObjRel P ρc B o o') : ObjRel P ρ B oE o' := by
  cases he with
  | rigid hf e => subst e; exact hf.rel h
  | ren hp e =>
    subst e
    cases o with
    | cells c el f =>
      cases o' with
      | cells c' e' f' =>
        obtain ⟨h1, h2, h3, h4, h5, h6, h7⟩ := h
        have hsz : (⟨c.toList.map (ren1 σ)⟩ : Array Value).size = c.size := by simp
        have hat : ∀ (j : Nat) (u : Value), (⟨c.toList.map (ren1 σ)⟩ : Array Value)[j]? = some u → ∃ v, c[j]? = some v ∧ u = ren1 σ v := fun j u hu => by
          have : (⟨c.toList.map (ren1 σ)⟩ : Array Value)[j]? = (c[j]?).map (ren1 σ) := by simp
          rw [this] at hu
          cases hc : c[j]? with
          | none => rw [hc] at hu; cases hu
          | some v => rw [hc] at hu; cases hu; exact ⟨v, rfl, rfl⟩
        refine ⟨h1, h2, h3, by rw [hsz]; exact h4, fun j u v' hu hv' => ?_, fun j u hu => ?_, ?_⟩
        · obtain ⟨v, hv, rfl⟩ := hat j u hu
          exact (h5 j v v' hv hv').along1 hσ (all_at hp hv)
        · obtain ⟨v, hv, rfl⟩ := hat j u hu
          rw [one_ren1]; exact h6 j v hv
        · rw [hsz]; exact h7
      | _ => exact h.elim
    | _ => cases hp

theorem ObjRel.backO {σ : Nat → Nat} {m : Nat} {B : Blk} {o oE o' : Obj} (he : EIn σ m o oE) (h : ObjRel P ρ B oE o') : ObjRel P (rest σ m ρ) B o o' := by
  cases he with
  | rigid hf e => subst e; exact hf.rel h
  | ren hp hu e =>
    subst e
    cases o with
    | cells c el f =>
      cases o' with
      | cells c' e' f' =>
        obtain ⟨h1, h2, h3, h4, h5, h6, h7⟩ := h
        have hsz : (⟨c.toList.map (ren1 σ)⟩ : Array Value).size = c.size := by simp
        have hat : ∀ (j : Nat) (v : Value), c[j]? = some v → (⟨c.toList.map (ren1 σ)⟩ : Array Value)[j]? = some (ren1 σ v) := fun j v hv => by simp [hv]
        rw [hsz] at h4 h7
        refine ⟨h1, h2, h3, h4, fun j v v' hv hv' => ?_, fun j v hv => ?_, h7⟩
        · exact (h5 j _ v' (hat j v hv) hv').back1 (all_at hp hv) (all_at hu hv)
        · rw [← one_ren1 σ]; exact h6 j _ (hat j v hv)
      | _ => exact h.elim
    | _ => cases hp

/-- The small heap in the great one. -/
structure Inside (σ : Nat → Nat) (hc h : H) : Prop where
  inj : ∀ i j, i < hc.size → j < hc.size → σ i = σ j → i = j
  obj : ∀ i, i < hc.size → ∃ o oE, hc[i]? = some o ∧ h[σ i]? = some oE ∧ EIn σ hc.size o oE

theorem Inside.lt {σ : Nat → Nat} {hc h : H} (hi : Inside σ hc h) {i : Nat} (h1 : i < hc.size) : σ i < h.size := by
  obtain ⟨o, oE, _, h2, _⟩ := hi.obj i h1
  exact (Array.getElem?_eq_some_iff.1 h2).1

theorem Sim.restrict {σ : Nat → Nat} {hc h : H} {w : World} (hi : Inside σ hc h) (hs : Sim P ρ h w) : Sim P (rest σ hc.size ρ) hc w := by
  refine ⟨fun i B hB => ?_, fun i hd => ?_, fun i j B C hB hC e => ?_⟩
  · obtain ⟨hlt, hB⟩ := rest_some hB
    obtain ⟨o, oE, h1, h2, h3⟩ := hi.obj i hlt
    obtain ⟨o2, o', q1, q2, q3⟩ := hs.live _ _ hB
    rw [h2] at q1; cases q1
    exact ⟨o, o', h1, q2, q3.backO h3⟩
  · obtain ⟨hlt, hd⟩ := rest_some hd
    obtain ⟨o, oE, h1, h2, h3⟩ := hi.obj i hlt
    have := hs.dead _ hd
    rw [h2] at this; cases this
    rw [h1, h3.eo.of_dead]
  · obtain ⟨h1, hB⟩ := rest_some hB
    obtain ⟨h2, hC⟩ := rest_some hC
    exact hi.inj i j h1 h2 (hs.one _ _ _ _ hB hC e)

def out (σ : Nat → Nat) (m N : Nat) : Nat → Nat := fun i => if i < m then σ i else N + (i - m)

/-- The great heap behind what was done in the small one. -/
structure Behind (σ : Nat → Nat) (hc h hc1 h1 : H) : Prop where
  grown : hc.size ≤ hc1.size
  size : h1.size = h.size + (hc1.size - hc.size)
  old : ∀ i, i < hc.size → ∃ o oE, hc1[i]? = some o ∧ h1[σ i]? = some oE ∧ EO (out σ hc.size h.size) o oE ∧ (hc1[i]? = hc[i]? → h1[σ i]? = h[σ i]?)
  new : ∀ j, hc.size ≤ j → j < hc1.size → ∃ o oE, hc1[j]? = some o ∧ h1[h.size + (j - hc.size)]? = some oE ∧ EO (out σ hc.size h.size) o oE
  rest : ∀ k, k < h.size → (∀ i, i < hc.size → σ i ≠ k) → h1[k]? = h[k]?

theorem ACall.embed {f : FuncId} {argsc : Array Value} {hc h hc1 h1 : H} {vc : Value} (σ : Nat → Nat) (hi : Inside σ hc h) (hp : argsc.toList.all plainV = true) (hu : argsc.toList.all (underV hc.size) = true)
    (hx : ACall P Γ f argsc hc fun u k => u = vc ∧ k = hc1) (hv : plainV vc = true) (hb : Behind σ hc h hc1 h1) :
    ACall P Γ f ⟨argsc.toList.map (renV σ)⟩ h fun u k => u = renV (out σ hc.size h.size) vc ∧ k = h1 := by
  intro ρ0 h0 w0 hG ρ args' w hl hs ha
  have hsim := hs.restrict hi
  have hr : RRel P (rest σ hc.size ρ) argsc args' :=
    rows_back ha.1 fun i u u' hu1 hu2 hu' => (ha.2 i _ u' hu2 hu').backV (all_at hp hu1) (all_at hu hu1)
  have hG2 : Glob Γ (rest σ hc.size ρ) w := fun g ob hg => by
    obtain ⟨k1, k2⟩ := hG.later hl g ob hg
    exact ⟨k1, fun i B hB hro => k2 _ B (rest_some hB).2 hro⟩
  refine (hx (rest σ hc.size ρ) hc w hG2 _ args' w (.refl _ _ _) hsim hr).mono ?_
  rintro e w1 ⟨v', rfl, ρc, v, k, ⟨rfl, rfl⟩, g2, g3, g4⟩
  have hclt : ∀ {i t}, ρc i = some t → i < k.size := fun h => g3.lt h
  classical
  let img : Nat → Prop := fun j => ∃ i, i < hc.size ∧ σ i = j
  let ρ1 : Ren := fun j => if j < h.size then (if hj : img j then ρc (Classical.choose hj) else ρ j) else ρc (j - h.size + hc.size)
  have k1 : ∀ i, i < hc.size → ρ1 (σ i) = ρc i := fun i hlt => by
    have hj : img (σ i) := ⟨i, hlt, rfl⟩
    show (if σ i < h.size then (if hj : img (σ i) then ρc (Classical.choose hj) else ρ (σ i)) else _) = _
    rw [if_pos (hi.lt hlt), dif_pos hj]
    have := Classical.choose_spec hj
    rw [hi.inj _ _ this.1 hlt this.2]
  have k2 : ∀ i, hc.size ≤ i → ρ1 (h.size + (i - hc.size)) = ρc i := fun i hle => by
    show (if h.size + (i - hc.size) < h.size then _ else ρc (h.size + (i - hc.size) - h.size + hc.size)) = _
    rw [if_neg (by omega)]
    congr 1; omega
  have k3 : ∀ j, j < h.size → ¬ img j → ρ1 j = ρ j := fun j hlt hn => by
    show (if j < h.size then (if hj : img j then ρc (Classical.choose hj) else ρ j) else _) = _
    rw [if_pos hlt, dif_neg hn]
  have hal : Along (out σ hc.size h.size) ρc ρ1 := fun i t ht => by
    unfold out
    split
    · rename_i hlt; rw [k1 i hlt]; exact ht
    · rename_i hlt; rw [k2 i (by omega)]; exact ht
  have cases1 : ∀ {j t}, ρ1 j = some t → (∃ i, i < k.size ∧ j = out σ hc.size h.size i ∧ ρc i = some t) ∨ (j < h.size ∧ ¬ img j ∧ ρ j = some t) := fun {j t} hj => by
    by_cases h1 : j < h.size
    · by_cases h2 : img j
      · obtain ⟨i, h3, rfl⟩ := h2
        rw [k1 i h3] at hj
        exact .inl ⟨i, hclt hj, by unfold out; rw [if_pos h3], hj⟩
      · rw [k3 j h1 h2] at hj
        exact .inr ⟨h1, h2, hj⟩
    · have h3 : j = h.size + ((j - h.size + hc.size) - hc.size) := by omega
      have h4 : ρ1 j = ρc (j - h.size + hc.size) := by
        show (if j < h.size then _ else ρc (j - h.size + hc.size)) = _
        rw [if_neg h1]
      rw [h4] at hj
      refine .inl ⟨_, hclt hj, ?_, hj⟩
      unfold out
      rw [if_neg (by omega)]
      exact h3
  have objs : ∀ i, i < k.size → ∃ o oE, k[i]? = some o ∧ h1[out σ hc.size h.size i]? = some oE ∧ EO (out σ hc.size h.size) o oE := fun i hlt => by
    by_cases h2 : i < hc.size
    · obtain ⟨o, oE, q1, q2, q3, _⟩ := hb.old i h2
      exact ⟨o, oE, q1, by unfold out; rw [if_pos h2]; exact q2, q3⟩
    · obtain ⟨o, oE, q1, q2, q3⟩ := hb.new i (by omega) hlt
      exact ⟨o, oE, q1, by unfold out; rw [if_neg h2]; exact q2, q3⟩
  have hle : Ren.Le ρ ρ1 := fun j t hj => by
    have hlt := hs.lt hj
    by_cases h2 : img j
    · obtain ⟨i, h3, rfl⟩ := h2
      rw [k1 i h3]
      exact g2.le i t (by unfold Go.Abs.rest; rw [if_pos h3]; exact hj)
    · rw [k3 j hlt h2]; exact .inl hj
  have restOf : ∀ {i B}, rest σ hc.size ρ i = some (some B) → i < hc.size ∧ ρ (σ i) = some (some B) := fun h => rest_some h
  have away : ∀ {i j : Nat} {B C : Blk}, ρc i = some (some B) → ρ j = some (some C) → ¬ img j → B.b ≠ C.b := fun {i j B C} h1 h2 h3 he => by
    have hC := hs.wlt h2
    rcases g2.fresh i B h1 with q | q | ⟨_, j', C', q1, _, q3⟩
    · obtain ⟨a1, a2⟩ := restOf q
      exact h3 ⟨i, a1, hs.one _ _ _ _ a2 h2 he⟩
    · omega
    · obtain ⟨a1, a2⟩ := restOf q1
      exact h3 ⟨j', a1, hs.one _ _ _ _ a2 h2 (q3.trans he)⟩
  have hsim1 : Sim P ρ1 h1 w1 := by
    refine ⟨fun j B hB => ?_, fun j hd => ?_, fun i j B C hB hC he => ?_⟩
    · rcases cases1 hB with ⟨i, a1, rfl, a3⟩ | ⟨a1, a2, a3⟩
      · obtain ⟨o, o', q1, q2, q3⟩ := g3.live i B a3
        obtain ⟨o2, oE, r1, r2, r3⟩ := objs i a1
        rw [q1] at r1; cases r1
        exact ⟨oE, o', r2, q2, q3.along hal r3⟩
      · obtain ⟨o, o', q1, q2, q3⟩ := hs.live j B a3
        refine ⟨o, o', (hb.rest j a1 fun i hlt e => a2 ⟨i, hlt, e⟩).trans q1, ?_, q3.mono hle⟩
        refine (g2.frame B.b (hs.wlt a3) fun i C hC hro he => ?_).trans q2
        obtain ⟨b1, b2⟩ := restOf hC
        exact a2 ⟨i, b1, hs.one _ _ _ _ b2 a3 he⟩
    · rcases cases1 hd with ⟨i, a1, rfl, a3⟩ | ⟨a1, a2, a3⟩
      · have := g3.dead i a3
        obtain ⟨o2, oE, r1, r2, r3⟩ := objs i a1
        rw [this] at r1; cases r1
        rw [r2, r3.dead]
      · exact (hb.rest j a1 fun i hlt e => a2 ⟨i, hlt, e⟩).trans (hs.dead j a3)
    · rcases cases1 hB with ⟨i0, a1, rfl, a3⟩ | ⟨a1, a2, a3⟩
      · rcases cases1 hC with ⟨j0, b1, rfl, b3⟩ | ⟨b1, b2, b3⟩
        · rw [g3.one i0 j0 B C a3 b3 he]
        · exact absurd he (away a3 b3 b2)
      · rcases cases1 hC with ⟨j0, b1, rfl, b3⟩ | ⟨b1, b2, b3⟩
        · exact absurd he.symm (away b3 a3 a2)
        · exact hs.one i j B C a3 b3 he
  have hlat : Later ρ h w ρ1 h1 w1 := by
    refine ⟨hle, by rw [hb.size]; omega, g2.wsize, g2.os, g2.tape, g2.output, fun j hlt hn => ?_, fun b hlt hno => ?_, fun j B hB => ?_⟩
    · by_cases h2 : img j
      · obtain ⟨i, h3, rfl⟩ := h2
        obtain ⟨q1, q2⟩ := g2.none i h3 (by unfold Go.Abs.rest; rw [if_pos h3]; exact hn)
        obtain ⟨_, _, _, _, _, q3⟩ := hb.old i h3
        exact ⟨(k1 i h3).trans q1, q3 q2⟩
      · exact ⟨(k3 j hlt h2).trans hn, hb.rest j hlt fun i hlt e => h2 ⟨i, hlt, e⟩⟩
    · exact g2.frame b hlt fun i B hB hro => hno _ B (restOf hB).2 hro
    · rcases cases1 hB with ⟨i, a1, rfl, a3⟩ | ⟨a1, a2, a3⟩
      · rcases g2.fresh i B a3 with q | q | ⟨q0, j', C', q1, q2, q3⟩
        · obtain ⟨b1, b2⟩ := restOf q
          left
          unfold out
          rw [if_pos b1]; exact b2
        · exact .inr (.inl q)
        · exact .inr (.inr ⟨q0, _, C', (restOf q1).2, q2, q3⟩)
      · exact .inl a3
  exact ⟨v', rfl, ρ1, _, h1, ⟨rfl, rfl⟩, hl.trans hlat, hsim1, g4.alongV hal hv⟩

end Go.Abs

/-
The outcome itself: rules that tell where a piece of code leads, frames and heaps as quick lists.
-/
namespace Go.Abs
open Go
variable {P : Program} {Γ : Gl} {ρ : Ren} {α β : Type}

def CT (P : Program) (Γ : Gl) (c : Code) (a : FA) (h : FH) (Q : Exit → FA → FH → Prop) : Prop :=
  ∃ (e : Exit) (a1 : FA) (h1 : FH), ACode P Γ c a.toA h.toH (fun e' a' h' => e' = e ∧ a' = a1.toA ∧ h' = h1.toH) ∧ Q e a1 h1

def OT (P : Program) (Γ : Gl) (ops : Array Oper) (l : List Nat) (a : FA) (h : FH) (K : FA → FH → Prop) : Prop :=
  ∃ (a1 : FA) (h1 : FH), AOps P Γ ops l a.toA h.toH (fun a' h' => Exit.normal = Exit.normal ∧ a' = a1.toA ∧ h' = h1.toH) ∧ K a1 h1

def FT (P : Program) (Γ : Gl) (f : FuncId) (args : Array Value) (h : FH) (Q : Value → FH → Prop) : Prop :=
  ∃ (v : Value) (h1 : FH), ACall P Γ f args h.toH (fun u k => u = v ∧ k = h1.toH) ∧ Q v h1

theorem CT.mono {c : Code} {a : FA} {h : FH} {Q Q' : Exit → FA → FH → Prop} (hc : CT P Γ c a h Q) (hq : ∀ e a h, Q e a h → Q' e a h) : CT P Γ c a h Q' := by
  obtain ⟨e, a1, h1, h2, h3⟩ := hc
  exact ⟨e, a1, h1, h2, hq _ _ _ h3⟩

theorem FT.mono {f : FuncId} {args : Array Value} {h : FH} {Q Q' : Value → FH → Prop} (hc : FT P Γ f args h Q) (hq : ∀ v h, Q v h → Q' v h) : FT P Γ f args h Q' := by
  obtain ⟨v, h1, h2, h3⟩ := hc
  exact ⟨v, h1, h2, hq _ _ h3⟩

theorem FT.call {f : FuncId} {args : Array Value} {h : FH} {Q : Value → FH → Prop} (hc : FT P Γ f args h Q) : ACall P Γ f args h.toH fun u k => ∃ h1, k = h1.toH ∧ Q u h1 := by
  obtain ⟨v, h1, h2, h3⟩ := hc
  exact h2.mono fun u k ⟨e1, e2⟩ => ⟨h1, e2, e1 ▸ h3⟩

/-- The heap as another list that says the same. -/
theorem FT.same {f : FuncId} {args : Array Value} {h h' : FH} {Q : Value → FH → Prop} (he : h.toH = h'.toH) (hc : FT P Γ f args h' Q) : FT P Γ f args h Q := by
  obtain ⟨v, h1, h2, h3⟩ := hc
  exact ⟨v, h1, he ▸ h2, h3⟩

theorem CT.same {c : Code} {a a' : FA} {h h' : FH} {Q : Exit → FA → FH → Prop} (ha : a.toA = a'.toA) (he : h.toH = h'.toH) (hc : CT P Γ c a' h' Q) : CT P Γ c a h Q := by
  obtain ⟨e, a1, h1, h2, h3⟩ := hc
  exact ⟨e, a1, h1, by rw [ha, he]; exact h2, h3⟩

def thenF (K : FA → FH → Prop) (Q : Exit → FA → FH → Prop) : Exit → FA → FH → Prop
  | .normal, a, h => K a h
  | e, a, h => Q e a h

def inBlockF (id : Nat) (Q : Exit → FA → FH → Prop) : Exit → FA → FH → Prop
  | .exit id', a, h => if id' = id then Q .normal a h else Q (.exit id') a h
  | e, a, h => Q e a h

theorem CT.seq {x y : Code} {a : FA} {h : FH} {Q : Exit → FA → FH → Prop} (hx : CT P Γ x a h (thenF (fun a h => CT P Γ y a h Q) Q)) : CT P Γ (.seq x y) a h Q := by
  obtain ⟨e, a1, h1, h2, h3⟩ := hx
  cases e with
  | normal =>
    obtain ⟨e2, a2, h4, h5, h6⟩ := h3
    refine ⟨e2, a2, h4, ACode.seq (h2.mono ?_), h6⟩
    rintro e' a' h' ⟨rfl, rfl, rfl⟩
    exact h5
  | _ =>
    refine ⟨_, a1, h1, ACode.seq (h2.mono ?_), h3⟩
    rintro e' a' h' ⟨rfl, rfl, rfl⟩
    exact ⟨rfl, rfl, rfl⟩

theorem CT.loop {c : Code} {a : FA} {h : FH} {Q : Exit → FA → FH → Prop} (hx : CT P Γ c a h (thenF (fun a h => CT P Γ (.loop c) a h Q) Q)) : CT P Γ (.loop c) a h Q := by
  obtain ⟨e, a1, h1, h2, h3⟩ := hx
  cases e with
  | normal =>
    obtain ⟨e2, a2, h4, h5, h6⟩ := h3
    refine ⟨e2, a2, h4, ACode.loop (h2.mono ?_), h6⟩
    rintro e' a' h' ⟨rfl, rfl, rfl⟩
    exact h5
  | _ =>
    refine ⟨_, a1, h1, ACode.loop (h2.mono ?_), h3⟩
    rintro e' a' h' ⟨rfl, rfl, rfl⟩
    exact ⟨rfl, rfl, rfl⟩

theorem CT.block {id : Nat} {c : Code} {a : FA} {h : FH} {Q : Exit → FA → FH → Prop} (hx : CT P Γ c a h (inBlockF id Q)) : CT P Γ (.block id c) a h Q := by
  obtain ⟨e, a1, h1, h2, h3⟩ := hx
  have key : ∀ e2, (∀ Q : Exit → FA → FH → Prop, inBlockF id Q e a1 h1 → Q e2 a1 h1) → (inBlock id (fun e' a' h' => e' = e2 ∧ a' = a1.toA ∧ h' = h1.toH) e a1.toA h1.toH) → CT P Γ (.block id c) a h Q := fun e2 hq hb => by
    refine ⟨e2, a1, h1, ACode.block (h2.mono ?_), hq Q h3⟩
    rintro e' a' h' ⟨rfl, rfl, rfl⟩
    exact hb
  cases e with
  | exit id' =>
    by_cases hid : id' = id
    · exact key .normal (fun Q hq => by simpa [inBlockF, hid] using hq) (by simp [inBlock, hid])
    · exact key (.exit id') (fun Q hq => by simpa [inBlockF, hid] using hq) (by simp [inBlock, hid])
  | _ => exact key _ (fun Q hq => hq) ⟨rfl, rfl, rfl⟩

theorem CT.skip {a : FA} {h : FH} {Q : Exit → FA → FH → Prop} (hq : Q .normal a h) : CT P Γ .skip a h Q := ⟨_, a, h, ACode.skip ⟨rfl, rfl, rfl⟩, hq⟩
theorem CT.label {l : Nat} {a : FA} {h : FH} {Q : Exit → FA → FH → Prop} (hq : Q .normal a h) : CT P Γ (.label l) a h Q := ⟨_, a, h, ACode.label ⟨rfl, rfl, rfl⟩, hq⟩
theorem CT.exit {id : Nat} {a : FA} {h : FH} {Q : Exit → FA → FH → Prop} (hq : Q (.exit id) a h) : CT P Γ (.exit id) a h Q := ⟨_, a, h, ACode.exit ⟨rfl, rfl, rfl⟩, hq⟩
theorem CT.ret {a : FA} {h : FH} {Q : Exit → FA → FH → Prop} (hq : Q .ret a h) : CT P Γ .ret a h Q := ⟨_, a, h, ACode.ret ⟨rfl, rfl, rfl⟩, hq⟩

theorem CT.cond {c : Operand} {x y : Code} (t : Bool) {a : FA} {h : FH} {Q : Exit → FA → FH → Prop} (ho : okOperand c = true) (hc : a.eval c = .bool t) (hx : CT P Γ (if t = true then x else y) a h Q) : CT P Γ (.cond c x y) a h Q := by
  obtain ⟨e, a1, h1, h2, h3⟩ := hx
  exact ⟨e, a1, h1, ACode.cond ho (by rw [FA.eval_toA]; exact hc) h2, h3⟩

theorem CT.condT {c : Operand} {x y : Code} {a : FA} {h : FH} {Q : Exit → FA → FH → Prop} (ho : okOperand c = true) (hc : a.eval c = .bool true) (hx : CT P Γ x a h Q) : CT P Γ (.cond c x y) a h Q := CT.cond true ho hc hx
theorem CT.condF {c : Operand} {x y : Code} {a : FA} {h : FH} {Q : Exit → FA → FH → Prop} (ho : okOperand c = true) (hc : a.eval c = .bool false) (hy : CT P Γ y a h Q) : CT P Γ (.cond c x y) a h Q := CT.cond false ho hc hy

theorem CT.condB {c : Operand} {x y : Code} {a : FA} {h : FH} {Q : Exit → FA → FH → Prop} (b : Bool) (ho : okOperand c = true) (hc : a.eval c = .bool b) (hx : b = true → CT P Γ x a h Q) (hy : b = false → CT P Γ y a h Q) : CT P Γ (.cond c x y) a h Q := by
  refine CT.cond b ho hc ?_
  cases b with
  | true => exact hx rfl
  | false => exact hy rfl

theorem CT.condD {c : Operand} {x y : Code} {a : FA} {h : FH} {Q : Exit → FA → FH → Prop} (p : Prop) [Decidable p] (ho : okOperand c = true) (hc : a.eval c = .bool (decide p)) (hx : p → CT P Γ x a h Q) (hy : ¬ p → CT P Γ y a h Q) :
    CT P Γ (.cond c x y) a h Q := CT.condB (decide p) ho hc (fun h => hx (of_decide_eq_true h)) (fun h => hy (of_decide_eq_false h))

/-! Operations -/
theorem CT.region {id : Nat} {ops : Array Oper} {a : FA} {h : FH} {Q : Exit → FA → FH → Prop} (l : List Nat) (hl : ops.size = l.length) (hl2 : l = List.range l.length) (hr : OT P Γ ops l a h (fun a h => Q .normal a h)) : CT P Γ (.region id ops false) a h Q := by
  obtain ⟨a1, h1, h2, h3⟩ := hr
  exact ⟨.normal, a1, h1, ACode.regionL l hl hl2 h2, h3⟩

theorem OT.nil {ops : Array Oper} {a : FA} {h : FH} {K : FA → FH → Prop} (hk : K a h) : OT P Γ ops [] a h K := ⟨a, h, AOps.nil ⟨rfl, rfl, rfl⟩, hk⟩

theorem wantF {ops : Array Oper} {a : FA} {o : Oper} (hw : Region.wanted o (yieldedF ops a) = true) : Region.wanted o (yielded ops a.toA.tmps) = true := by rw [yieldedF_toA]; exact hw

/-- An operation whose value is told. -/
theorem OT.val {ops : Array Oper} {i : Nat} {l : List Nat} {a : FA} {h : FH} {K : FA → FH → Prop} (v : Value) (hi : decide (i < ops.size) = true) (hw : Region.wanted (ops.getD i default) (yieldedF ops a) = true)
    (hv : aop P a.toA (ops.getD i default) h.toH = some (.val v h.toH)) (hr : OT P Γ ops l (a.put (ops.getD i default).dst v) h K) : OT P Γ ops (i :: l) a h K := by
  obtain ⟨a1, h1, h2, h3⟩ := hr
  rw [FA.put_toA] at h2
  exact ⟨a1, h1, AOps.val (getD_some hi) (wantF hw) hv h2, h3⟩

/-- A call by its contract. -/
theorem OT.call {ops : Array Oper} {i : Nat} {l : List Nat} {a : FA} {h : FH} {K : FA → FH → Prop} {R : Value → FH → Prop} (f : FuncId) (args : Array Value) (hi : decide (i < ops.size) = true) (hw : Region.wanted (ops.getD i default) (yieldedF ops a) = true)
    (hv : runFI P a.eval (ops.getD i default) h (fi P (ops.getD i default)) = some (.enter f args h)) (hc : FT P Γ f args h R) (hr : ∀ v h2, R v h2 → OT P Γ ops l (a.put (ops.getD i default).dst v) h2 K) : OT P Γ ops (i :: l) a h K := by
  obtain ⟨v, h2, h3, h4⟩ := hc
  obtain ⟨a1, h5, h6, h7⟩ := hr v h2 h4
  rw [FA.put_toA] at h6
  refine ⟨a1, h5, AOps.enter (getD_some hi) (wantF hw) (runFI_sound hv) h3 ?_, h7⟩
  rintro u k ⟨rfl, rfl⟩
  exact h6

/-- The same; the heap is written out anew first. -/
theorem OT.callAt {ops : Array Oper} {i : Nat} {l : List Nat} {a : FA} {h : FH} {K : FA → FH → Prop} {R : Value → FH → Prop} (f : FuncId) (args : Array Value) (h' : FH) (hh : h = h') (hi : decide (i < ops.size) = true) (hw : Region.wanted (ops.getD i default) (yieldedF ops a) = true)
    (hv : runFI P a.eval (ops.getD i default) h' (fi P (ops.getD i default)) = some (.enter f args h')) (hc : FT P Γ f args h' R) (hr : ∀ v h2, R v h2 → OT P Γ ops l (a.put (ops.getD i default).dst v) h2 K) : OT P Γ ops (i :: l) a h K := by
  subst hh
  exact OT.call f args hi hw hv hc hr

def evIdxF (P : Program) (γ : Known) (call : CallerF) (ops : Array Oper) : List Nat → FA → FH → Option (FA × FH)
  | [], a, h => some (a, h)
  | i :: l, a, h => match ops[i]? with
    | some o =>
      if Region.wanted o (yieldedF ops a) = true then
        match evOpF P call o a h with
        | some (a1, h1) => evIdxF P γ call ops l a1 h1
        | none => match aextF P a.eval o h with
          | some (v, h1) => evIdxF P γ call ops l (a.put o.dst v) h1
          | none => match aglob γ o with
            | some v => evIdxF P γ call ops l (a.put o.dst v) h
            | none => none
      else evIdxF P γ call ops l (a.put o.dst undef) h
    | none => none

theorem evIdxF_sound {γ : Known} (hγ : KnownOk P Γ γ) {call : CallerF} (hc : CallableF P Γ call) {ops : Array Oper} : ∀ (l m : List Nat) (a a1 : FA) (h h1 : FH), evIdxF P γ call ops l a h = some (a1, h1) →
    ∀ {K : Act → H → Prop}, AOps P Γ ops m a1.toA h1.toH K → AOps P Γ ops (l ++ m) a.toA h.toH K := by
  intro l
  induction l with
  | nil => intro m a a1 h h1 he K hk; cases he; exact hk
  | cons i l ih =>
    intro m a a1 h h1 he K hk
    unfold evIdxF at he
    split at he
    · rename_i o hi
      split at he
      · rename_i hw
        have hw' := hw
        rw [← yieldedF_toA] at hw'
        split at he
        · rename_i a2 h2 hop
          exact AOp.ops hi (evOpF_sound hc hi hw hop (ih m _ _ _ _ he hk))
        · split at he
          · rename_i v h2 hx
            refine AOps.ext hi hw' (by rw [aextF_toH, FA.eval_toA, hx]; rfl) ?_
            rw [← FA.put_toA]
            exact ih m _ _ _ _ he hk
          · split at he
            · rename_i v hx
              refine AOps.known hγ hi hw' hx ?_
              rw [← FA.put_toA]
              exact ih m _ _ _ _ he hk
            · cases he
      · rename_i hw
        rw [← yieldedF_toA] at hw
        refine AOps.skip hi (by simpa using hw) ?_
        rw [← FA.put_toA]
        exact ih m _ _ _ _ he hk
    · cases he

def idxA' (P : Program) (γ : Known) (call : CallerF) (ops : Array Oper) (l : List Nat) (a : FA) (h : FH) : FA := match evIdxF P γ call ops l a h with | some (a1, _) => a1 | none => a
def idxH' (P : Program) (γ : Known) (call : CallerF) (ops : Array Oper) (l : List Nat) (a : FA) (h : FH) : FH := match evIdxF P γ call ops l a h with | some (_, h1) => h1 | none => h

/-- Operations by counting. -/
theorem OT.evs {γ : Known} (hγ : KnownOk P Γ γ) {call : CallerF} (hc : CallableF P Γ call) {ops : Array Oper} (l m : List Nat) {a : FA} {h : FH} {K : FA → FH → Prop} (hs : (evIdxF P γ call ops l a h).isSome = true)
    (hk : OT P Γ ops m (idxA' P γ call ops l a h) (idxH' P γ call ops l a h) K) : OT P Γ ops (l ++ m) a h K := by
  cases he : evIdxF P γ call ops l a h with
  | none => rw [he] at hs; cases hs
  | some r =>
    obtain ⟨a1, h1⟩ := r
    unfold idxA' idxH' at hk
    rw [he] at hk
    obtain ⟨a2, h2, h3, h4⟩ := hk
    exact ⟨a2, h2, evIdxF_sound hγ hc l m a a1 h h1 he h3, h4⟩

/-- Operations by counting; the frame and the heap behind them are written out. -/
theorem OT.evsAt {γ : Known} (hγ : KnownOk P Γ γ) {call : CallerF} (hc : CallableF P Γ call) {ops : Array Oper} (l m : List Nat) {a : FA} {h : FH} {K : FA → FH → Prop} (a1 : FA) (h1 : FH) (hs : evIdxF P γ call ops l a h = some (a1, h1))
    (hk : OT P Γ ops m a1 h1 K) : OT P Γ ops (l ++ m) a h K := by
  obtain ⟨a2, h2, h3, h4⟩ := hk
  exact ⟨a2, h2, evIdxF_sound hγ hc l m a a1 h h1 hs h3, h4⟩

/-! Code by counting -/
def cA (P : Program) (γ : Known) (call : CallerF) (n : Nat) (c : Code) (a : FA) (h : FH) : FA := match evCodeF P γ call n c a h with | some (_, a1, _) => a1 | none => a
def cH (P : Program) (γ : Known) (call : CallerF) (n : Nat) (c : Code) (a : FA) (h : FH) : FH := match evCodeF P γ call n c a h with | some (_, _, h1) => h1 | none => h
def cN (P : Program) (γ : Known) (call : CallerF) (n : Nat) (c : Code) (a : FA) (h : FH) : Bool := match evCodeF P γ call n c a h with | some (.normal, _, _) => true | _ => false

theorem CT.ev {γ : Known} (hγ : KnownOk P Γ γ) {call : CallerF} (hm : P.follows .mixedOrders = true) (hc : CallableF P Γ call) (n : Nat) {c : Code} {a : FA} {h : FH} {K : FA → FH → Prop} {Q : Exit → FA → FH → Prop} (hs : cN P γ call n c a h = true)
    (hk : K (cA P γ call n c a h) (cH P γ call n c a h)) : CT P Γ c a h (thenF K Q) := by
  unfold cN at hs
  split at hs
  · rename_i a1 h1 he
    unfold cA cH at hk
    rw [he] at hk
    exact ⟨.normal, a1, h1, evCodeRF_sound (fun h => by cases h) hγ hm hc n c a a1 h h1 _ he, hk⟩
  · cases hs

/-- The frame and the heap behind it are written out. -/
theorem CT.evAt {γ : Known} (hγ : KnownOk P Γ γ) {call : CallerF} (hm : P.follows .mixedOrders = true) (hc : CallableF P Γ call) (n : Nat) {c : Code} {a : FA} {h : FH} {Q : Exit → FA → FH → Prop} (e : Exit) (a1 : FA) (h1 : FH)
    (hs : evCodeF P γ call n c a h = some (e, a1, h1)) (hk : Q e a1 h1) : CT P Γ c a h Q :=
  ⟨e, a1, h1, evCodeRF_sound (fun h => by cases h) hγ hm hc n c a a1 h h1 _ hs, hk⟩

/-! Calls -/
def RetF (P : Program) (fn : Func) (Q : Value → FH → Prop) : Exit → FA → FH → Prop
  | .normal, a, h | .ret, a, h => ∃ v h1, leaveF P fn a h = some (v, h1) ∧ Q v h1
  | _, _, _ => False

theorem FT.body {f : FuncId} {fn : Func} {c : Code} {args : Array Value} {h : FH} {Q : Value → FH → Prop} (hf : P.funcs[f]? = some fn) (hb : fn.body = some c)
    (hc : CT P (Γ.at h.n) c (startF fn args) h (RetF P fn Q)) : FT P Γ f args h Q := by
  obtain ⟨e, a1, h1, h2, h3⟩ := hc
  have key : ∀ v k, leaveF P fn a1 h1 = some (v, k) → (RetPost P fn (fun u k' => u = v ∧ k' = k.toH) e a1.toA h1.toH) → Q v k → FT P Γ f args h Q := fun v k hl hr hq => by
    refine ⟨v, k, ACall.body hf hb ?_, hq⟩
    rw [FH.size_toH, ← startF_toA]
    refine h2.mono ?_
    rintro e' a' h' ⟨rfl, rfl, rfl⟩
    exact hr
  cases e with
  | normal =>
    obtain ⟨v, k, h4, h5⟩ := h3
    exact key v k h4 ⟨v, k.toH, by rw [leaveF_toH, h4]; rfl, rfl, rfl⟩ h5
  | ret =>
    obtain ⟨v, k, h4, h5⟩ := h3
    exact key v k h4 ⟨v, k.toH, by rw [leaveF_toH, h4]; rfl, rfl, rfl⟩ h5
  | _ => exact h3.elim

/-- A call by counting. -/
theorem FT.ev {γ : Known} (hγ : KnownOk P Γ γ) {orc : CallerF} (hm : P.follows .mixedOrders = true) (ho : CallableF P Γ orc) (n : Nat) {f : FuncId} {args : Array Value} {h : FH} {Q : Value → FH → Prop} (v : Value) (h1 : FH)
    (hs : evCallF P γ orc n f args h = some (v, h1)) (hy : f < YB) (hq : Q v h1) : FT P Γ f args h Q :=
  ⟨v, h1, (evCallF_sound hγ hm ho n _ _ _ _ _ hs).1 hy, hq⟩

theorem retF {fn : Func} {a : FA} {h : FH} {Q : Value → FH → Prop} (v : Value) (h1 : FH) (hs : leaveF P fn a h = some (v, h1)) (hq : Q v h1) : ∃ u k, leaveF P fn a h = some (u, k) ∧ Q u k := ⟨v, h1, hs, hq⟩

/-! What is known of a frame and of a heap, laid on top -/
def FA.top (l : List (Nat × Value)) (a : FA) : FA := ⟨a.n, l ++ a.l, a.ds⟩
def FH.top (l : List (Nat × Obj)) (h : FH) : FH := ⟨h.n, l ++ h.l⟩

theorem look_top {β : Type} (d : β) (l : List (Nat × β)) (m : List (Nat × β)) (hl : ∀ x ∈ l, look d m x.1 = x.2) (i : Nat) : look d (l ++ m) i = look d m i := by
  induction l with
  | nil => rfl
  | cons x l ih =>
    obtain ⟨k, v⟩ := x
    rw [List.cons_append, look_cons]
    have h1 := hl (k, v) (by simp)
    split
    · rename_i e; subst e; exact h1.symm
    · exact ih fun y hy => hl y (List.mem_cons_of_mem _ hy)

theorem FA.top_toA {l : List (Nat × Value)} {a : FA} (hl : ∀ x ∈ l, look undef a.l x.1 = x.2) : (a.top l).toA = a.toA := by
  unfold FA.toA FA.top
  congr 1
  apply Array.ext_getElem?
  intro i
  by_cases h : i < a.n
  · simp [h, look_top undef l a.l hl]
  · simp [h]

theorem FH.top_toH {l : List (Nat × Obj)} {h : FH} (hl : ∀ x ∈ l, look Abs.tomb h.l x.1 = x.2) : (h.top l).toH = h.toH := by
  unfold FH.toH FH.top
  apply Array.ext_getElem?
  intro i
  by_cases hi : i < h.n
  · simp [hi, look_top Abs.tomb l h.l hl]
  · simp [hi]

end Go.Abs

/-
The frame rule for calls told by their outcome; frames and heaps written out anew.
-/
namespace Go.Abs
open Go
variable {P : Program} {Γ : Gl} {ρ : Ren} {α β : Type}

theorem FH.toH_eq {h1 h2 : FH} (hn : h1.n = h2.n) (h : (List.range h1.n).map (look Abs.tomb h1.l) = (List.range h1.n).map (look Abs.tomb h2.l)) : h1.toH = h2.toH := by
  apply Array.ext_getElem?
  intro i
  rw [FH.get_toH, FH.get_toH]
  unfold FH.get
  rw [← hn]
  simp only [blt_iff]
  by_cases hi : i < h1.n
  · simp only [hi, decide_true, Option.some.injEq]
    have := congrArg (fun l => l[i]?) h
    simpa [hi] using this
  · simp only [hi, decide_false]

theorem FA.toA_eq {a1 a2 : FA} (hn : a1.n = a2.n) (hd : a1.ds = a2.ds) (h : (List.range a1.n).map (look undef a1.l) = (List.range a1.n).map (look undef a2.l)) : a1.toA = a2.toA := by
  refine FA.ext_toA hd fun i => ?_
  rw [FA.get_toA]
  unfold FA.get
  rw [← hn]
  simp only [blt_iff]
  by_cases hi : i < a1.n
  · simp only [hi, decide_true, Option.some.injEq]
    have := congrArg (fun l => l[i]?) h
    simpa [hi] using this
  · simp only [hi, decide_false]

/-- What is handed back, the heap written out anew. -/
theorem FT.sameRet {f : FuncId} {args : Array Value} {h : FH} {Q : Value → FH → Prop} (hc : FT P Γ f args h fun v h1 => ∃ h2 : FH, h1.toH = h2.toH ∧ Q v h2) : FT P Γ f args h Q := by
  obtain ⟨v, h1, h2, h3, h4, h5⟩ := hc
  exact ⟨v, h3, by rw [← h4]; exact h2, h5⟩

theorem FT.embed {f : FuncId} {argsc : Array Value} {hc h : FH} {R Q : Value → FH → Prop} (σ : Nat → Nat) (hi : Inside σ hc.toH h.toH) (hp : argsc.toList.all plainV = true) (hu : argsc.toList.all (underV hc.n) = true)
    (hx : FT P Γ f argsc hc R) (hk : ∀ vc hc1, R vc hc1 → plainV vc = true ∧ ∃ h1 : FH, Behind σ hc.toH h.toH hc1.toH h1.toH ∧ Q (renV (out σ hc.n h.n) vc) h1) :
    FT P Γ f ⟨argsc.toList.map (renV σ)⟩ h Q := by
  obtain ⟨vc, hc1, h2, h3⟩ := hx
  obtain ⟨h4, h1, h5, h6⟩ := hk vc hc1 h3
  have := ACall.embed σ hi hp (by rw [FH.size_toH]; exact hu) h2 h4 h5
  rw [FH.size_toH, FH.size_toH] at this
  exact ⟨_, h1, this, h6⟩

end Go.Abs

/-
Memory that nobody reads any more is dropped, and what is kept is numbered anew.
-/
namespace Go.Abs
open Go
variable {P : Program} {Γ : Gl} {ρ : Ren} {α β : Type}

/-- What is kept: blocks 0 .. g-1; block g stands for all that is lost. -/
def grave (σ : Nat → Nat) (g : Nat) (ρ : Ren) : Ren := fun i => if i = g then some none else rest σ g ρ i

theorem grave_rest (σ : Nat → Nat) (g : Nat) (ρ : Ren) : Along id (rest σ g ρ) (grave σ g ρ) := fun i t h => by
  obtain ⟨hlt, _⟩ := rest_some h
  show (if i = g then _ else _) = _
  rw [if_neg (by omega)]; exact h

theorem VRel.le {ρ2 : Ren} {v v' : Value} (hl : ∀ i t, ρ i = some t → ρ2 i = some t) (h : VRel P ρ v v') : VRel P ρ2 v v' := h.mono fun i t ht => .inl (hl i t ht)

theorem sizeOf_mem {x : Array Value} {i : Nat} {u : Value} (h : x[i]? = some u) : SizeOf.sizeOf u < SizeOf.sizeOf x := Array.sizeOf_lt_of_mem (Array.mem_of_getElem? h)

theorem exists_ren (P : Program) (σ : Nat → Nat) (g : Nat) : ∀ (k : Nat) (u : Value), SizeOf.sizeOf u < k → ∃ u2, ∀ (ρ : Ren) (v' : Value), VRel P ρ u v' → VRel P (grave σ g ρ) u2 v' := by
  classical
  have blk : ∀ b : Nat, ∃ b2, ∀ (ρ : Ren) (t : Option Blk), ρ b = some t → grave σ g ρ b2 = some none ∨ grave σ g ρ b2 = some t := fun b => by
    by_cases hb : ∃ i, i < g ∧ σ i = b
    · obtain ⟨i, hi, rfl⟩ := hb
      refine ⟨i, fun ρ t ht => .inr ?_⟩
      show (if i = g then _ else rest σ g ρ i) = _
      rw [if_neg (by omega)]
      unfold rest
      rw [if_pos hi]; exact ht
    · exact ⟨g, fun ρ t _ => .inl (by show (if g = g then _ else _) = _; rw [if_pos rfl])⟩
  have addr : ∀ a : Addr, ∃ a2 : Addr, ∀ (ρ : Ren) (a' : Addr), ARel ρ a a' → ARel (grave σ g ρ) a2 a' := fun a => by
    obtain ⟨b2, hb⟩ := blk a.block
    refine ⟨⟨b2, a.off, a.spot⟩, fun ρ a' ⟨h1, h2⟩ => ⟨h1, ?_⟩⟩
    rcases h2 with h2 | ⟨B, hB, e⟩
    · rcases hb ρ _ h2 with h | h <;> exact .inl h
    · rcases hb ρ _ hB with h | h
      · exact .inl h
      · exact .inr ⟨B, h, e⟩
  have oaddr : ∀ a : Addr, ∃ a2 : Addr, ∀ (ρ : Ren) (a' : Addr) (n c' : Nat), ORel P ρ a a' n c' → ORel P (grave σ g ρ) a2 a' n c' := fun a => by
    obtain ⟨b2, hb⟩ := blk a.block
    refine ⟨⟨b2, a.off, a.spot⟩, fun ρ a' n c' ⟨h1, h2⟩ => ⟨h1, ?_⟩⟩
    rcases h2 with h2 | ⟨B, hB, e⟩
    · rcases hb ρ _ h2 with h | h <;> exact .inl h
    · rcases hb ρ _ hB with h | h
      · exact .inl h
      · exact .inr ⟨B, h, e⟩
  have num : ∀ b : Nat, ∃ b2, ∀ (ρ : Ren) (r' : Nat), (ρ b = some none ∨ ∃ B, ρ b = some (some B) ∧ r' = B.b) → (grave σ g ρ b2 = some none ∨ ∃ B, grave σ g ρ b2 = some (some B) ∧ r' = B.b) := fun b => by
    obtain ⟨b2, hb⟩ := blk b
    refine ⟨b2, fun ρ r' h2 => ?_⟩
    rcases h2 with h2 | ⟨B, hB, e⟩
    · rcases hb ρ _ h2 with h | h <;> exact .inl h
    · rcases hb ρ _ hB with h | h
      · exact .inl h
      · exact .inr ⟨B, h, e⟩
  intro k
  induction k with
  | zero => intro u h; omega
  | succ k ih =>
    intro u hu
    have row : ∀ x : Array Value, SizeOf.sizeOf x < k + 1 → ∃ x2 : Array Value, ∀ (ρ : Ren) (x' : Array Value), x.size = x'.size → (∀ (i : Nat) (u u' : Value), x[i]? = some u → x'[i]? = some u' → VRel P ρ u u') →
        x2.size = x'.size ∧ ∀ (i : Nat) (u u' : Value), x2[i]? = some u → x'[i]? = some u' → VRel P (grave σ g ρ) u u' := fun x hx => by
      have each : ∀ i : Fin x.size, ∃ u2, ∀ (ρ : Ren) (v' : Value), VRel P ρ x[i] v' → VRel P (grave σ g ρ) u2 v' := fun i =>
        ih x[i] (by have := sizeOf_mem (x := x) (i := i) (u := x[i]) (by simp); omega)
      let F : Fin x.size → Value := fun i => Classical.choose (each i)
      have hF : ∀ i, ∀ (ρ : Ren) (v' : Value), VRel P ρ x[i] v' → VRel P (grave σ g ρ) (F i) v' := fun i => Classical.choose_spec (each i)
      refine ⟨Array.ofFn F, fun ρ x' hs hr => ⟨by simpa using hs, fun i u u' h1 h2 => ?_⟩⟩
      have hi : i < x.size := by have := (Array.getElem?_eq_some_iff.1 h1).1; simpa using this
      have e1 : (Array.ofFn F)[i]? = some (F ⟨i, hi⟩) := by simp [hi]
      rw [e1] at h1; cases h1
      exact hF ⟨i, hi⟩ ρ u' (hr i _ u' (Array.getElem?_eq_getElem hi) h2)
    cases u with
    | pointer a =>
      cases a with
      | none => exact ⟨.pointer none, fun ρ v' h => by cases h; exact .nilp⟩
      | some a =>
        obtain ⟨a2, ha⟩ := addr a
        exact ⟨.pointer (some a2), fun ρ v' h => by cases h with | ptr h => exact .ptr (ha ρ _ h)⟩
    | slice a n c =>
      cases a with
      | none => exact ⟨.slice none n c, fun ρ v' h => by cases h; exact .nils⟩
      | some a =>
        by_cases hc : c = OPEN
        · obtain ⟨a2, ha⟩ := oaddr a
          refine ⟨.slice (some a2) n c, fun ρ v' h => ?_⟩
          cases h with
          | slc h1 _ _ => exact absurd h1 (by omega)
          | opn h => exact .opn (ha ρ _ _ _ h)
        · obtain ⟨a2, ha⟩ := addr a
          refine ⟨.slice (some a2) n c, fun ρ v' h => ?_⟩
          cases h with
          | slc h1 h2 h3 => exact .slc h1 h2 (h3.imp (ha ρ _) id)
          | opn h => exact absurd rfl hc
    | map r =>
      cases r with
      | none => exact ⟨.map none, fun ρ v' h => by cases h; exact .nilm⟩
      | some r =>
        obtain ⟨r2, hr⟩ := num r
        exact ⟨.map (some r2), fun ρ v' h => by cases h with | map h => exact .map (hr ρ _ h)⟩
    | func fn x y =>
      by_cases hy : ∃ l, fn = .yield l
      · obtain ⟨l, rfl⟩ := hy
        by_cases hxy : x = #[] ∧ y = #[]
        · obtain ⟨rfl, rfl⟩ := hxy
          obtain ⟨l2, hl⟩ := num l
          refine ⟨.func (.yield l2) #[] #[], fun ρ v' h => ?_⟩
          cases h with
          | func hf => exact absurd rfl (hf _)
          | yld h => exact .yld (hl ρ _ h)
        · refine ⟨undef, fun ρ v' h => ?_⟩
          exfalso
          generalize hz : Value.func (.yield l) x y = z at h
          cases h <;> first | (cases hz; done) | skip
          · rename_i hf _ _ _ _
            injection hz with e1
            exact hf l e1.symm
          · injection hz with e1 e2 e3
            exact hxy ⟨e2, e3⟩
      · obtain ⟨x2, hx⟩ := row x (by simp at hu; omega)
        obtain ⟨y2, hy2⟩ := row y (by simp at hu; omega)
        refine ⟨.func fn x2 y2, fun ρ v' h => ?_⟩
        cases h with
        | func hf h1 h2 h3 h4 =>
          obtain ⟨a1, a2⟩ := hx ρ _ h1 h2
          obtain ⟨b1, b2⟩ := hy2 ρ _ h3 h4
          exact .func hf a1 a2 b1 b2
        | yld h => exact absurd ⟨_, rfl⟩ hy
    | iface t v =>
      obtain ⟨v2, hv⟩ := ih v (by simp at hu; omega)
      exact ⟨.iface t v2, fun ρ v' h => by cases h with | iface h => exact .iface (hv ρ _ h)⟩
    | agg x =>
      obtain ⟨x2, hx⟩ := row x (by simp at hu; omega)
      refine ⟨.agg x2, fun ρ v' h => ?_⟩
      cases h with
      | agg h1 h2 =>
        obtain ⟨a1, a2⟩ := hx ρ _ h1 h2
        exact .agg a1 a2
    | tuple x =>
      obtain ⟨x2, hx⟩ := row x (by simp at hu; omega)
      refine ⟨.tuple x2, fun ρ v' h => ?_⟩
      cases h with
      | tuple h1 h2 =>
        obtain ⟨a1, a2⟩ := hx ρ _ h1 h2
        exact .tuple a1 a2
    | bool b => exact ⟨_, fun ρ v' h => by cases h; exact .bool b⟩
    | int k n => exact ⟨_, fun ρ v' h => by cases h; exact .int k n⟩
    | float k b => exact ⟨_, fun ρ v' h => by cases h; exact .float k b⟩
    | complex k a b => exact ⟨_, fun ρ v' h => by cases h; exact .complex k a b⟩
    | string s => exact ⟨_, fun ρ v' h => by cases h; exact .string s⟩
    | nilFunc => exact ⟨_, fun ρ v' h => by cases h; exact .nilFunc⟩
    | nilIface => exact ⟨_, fun ρ v' h => by cases h; exact .nilIface⟩
    | chan c => cases c with
      | none => exact ⟨_, fun ρ v' h => by cases h; exact .nilc⟩
      | some c => exact ⟨undef, fun ρ v' h => by cases h⟩

theorem Sim.buried {σ : Nat → Nat} {hc h2 : H} {w : World} (hs : Sim P (rest σ hc.size ρ) hc w) (h : h2 = hc.push tomb) : Sim P (grave σ hc.size ρ) h2 w := by
  subst h
  have at1 : ∀ {i t}, grave σ hc.size ρ i = some t → (i = hc.size ∧ t = none) ∨ (i < hc.size ∧ rest σ hc.size ρ i = some t) := fun {i t} h => by
    unfold Go.Abs.grave at h
    split at h
    · rename_i e; cases h; exact .inl ⟨e, rfl⟩
    · exact .inr ⟨(rest_some h).1, h⟩
  refine ⟨fun i B hB => ?_, fun i hd => ?_, fun i j B C hB hC e => ?_⟩
  · rcases at1 hB with ⟨_, h⟩ | ⟨hlt, hB'⟩
    · cases h
    · obtain ⟨o, o', h1, h2, h3⟩ := hs.live i B hB'
      exact ⟨o, o', by rw [Array.getElem?_push, if_neg (by omega)]; exact h1, h2, h3.mono fun j t ht => .inl (grave_rest σ hc.size ρ j t ht)⟩
  · rcases at1 hd with ⟨rfl, _⟩ | ⟨hlt, hd'⟩
    · rw [Array.getElem?_push, if_pos rfl]
    · rw [Array.getElem?_push, if_neg (by omega)]; exact hs.dead i hd'
  · rcases at1 hB with ⟨_, h⟩ | ⟨_, hB'⟩
    · cases h
    · rcases at1 hC with ⟨_, h⟩ | ⟨_, hC'⟩
      · cases h
      · exact hs.one i j B C hB' hC' e

theorem DRel.nil_right {ds : List Deferred} (h : DRel ρ [] ds) : ds = [] := by
  cases h
  rfl

theorem look_append {β : Type} (d : β) (l m : List (Nat × β)) (t : Nat) : (∃ x, x ∈ l ∧ x.1 = t ∧ look d (l ++ m) t = x.2) ∨ look d (l ++ m) t = look d m t := by
  induction l with
  | nil => exact .inr rfl
  | cons x l ih =>
    obtain ⟨k, v⟩ := x
    rw [List.cons_append, look_cons]
    by_cases e : k = t
    · subst e
      exact .inl ⟨(k, v), by simp, rfl, if_pos rfl⟩
    · rw [if_neg e]
      rcases ih with ⟨x, h1, h2, h3⟩ | h
      · exact .inl ⟨x, List.mem_cons_of_mem _ h1, h2, h3⟩
      · exact .inr h

theorem look_range (F : Nat → Value) (n t : Nat) (h : t < n) : look undef ((List.range n).map fun t => (t, F t)) t = F t := by
  have key : ∀ (l : List Nat), t ∈ l → look undef (l.map fun t => (t, F t)) t = F t := by
    intro l
    induction l with
    | nil => intro h; cases h
    | cons x l ih =>
      intro h
      rw [List.map_cons, look_cons]
      split
      · rename_i e; rw [e]
      · rename_i e
        rcases List.mem_cons.1 h with h | h
        · exact absurd h.symm e
        · exact ih h
  exact key _ (by simp [h])

def injB (σ : Nat → Nat) (g : Nat) : Bool := (List.range g).all fun i => (List.range g).all fun j => !(Nat.beq (σ i) (σ j)) || Nat.beq i j

theorem injB_spec {σ : Nat → Nat} {g : Nat} (h : injB σ g = true) (i j : Nat) (hi : i < g) (hj : j < g) (e : σ i = σ j) : i = j := by
  unfold injB at h
  have h1 := List.all_eq_true.1 (List.all_eq_true.1 h i (by simp [hi])) j (by simp [hj])
  rw [e] at h1
  simpa using h1

/-- **What is not kept is forgotten.** -/
theorem CT.tidy {c : Code} {a : FA} {h : FH} {Q : Exit → FA → FH → Prop} {n : Nat} (hb : Γ.base = some n) (live : List (Nat × Value)) (h2 : FH) (σ : Nat → Nat) (g : Nat) (hd : a.ds = []) (hg : h2.n = g + 1) (hgt : look Abs.tomb h2.l g = Abs.tomb) (hn : n ≤ g)
    (hfix : ∀ i, i < n → σ i = i ∧ look Abs.tomb h2.l i = look Abs.tomb h.l i) (hinj : injB σ g = true)
    (hobj : ∀ i, i < g → σ i < h.n ∧ EIn σ g (look Abs.tomb h2.l i) (look Abs.tomb h.l (σ i)))
    (hlive : ∀ x, x ∈ live → plainV x.2 = true ∧ underV g x.2 = true ∧ look undef a.l x.1 = renV σ x.2)
    (hx : ∀ tail, CT P Γ c ⟨a.n, live ++ tail, []⟩ h2 Q) : CT P Γ c a h Q := by
  classical
  have hF : ∀ t, ∃ u2, ∀ (ρ : Ren) (v' : Value), VRel P ρ (look undef a.l t) v' → VRel P (Go.Abs.grave σ g ρ) u2 v' := fun t => exists_ren P σ g _ _ (Nat.lt_succ_self _)
  let F : Nat → Value := fun t => Classical.choose (hF t)
  have hF2 : ∀ t (ρ : Ren) (v' : Value), VRel P ρ (look undef a.l t) v' → VRel P (Go.Abs.grave σ g ρ) (F t) v' := fun t => Classical.choose_spec (hF t)
  obtain ⟨e, a1, h1, h3, h4⟩ := hx ((List.range a.n).map fun t => (t, F t))
  refine ⟨e, a1, h1, ?_, h4⟩
  intro ρ0 h0 w0 hG r hr ρ a' w hl hs ha
  let hc : FH := ⟨g, h2.l⟩
  have hcs : hc.toH.size = g := FH.size_toH hc
  have hget : ∀ i, i < g → hc.toH[i]? = some (look Abs.tomb h2.l i) := fun i hi => by
    rw [FH.get_toH]; unfold FH.get; rw [blt_iff]; simp [hc, hi]
  have hpush : h2.toH = hc.toH.push Abs.tomb := by
    apply Array.ext_getElem?
    intro i
    rw [FH.get_toH, Array.getElem?_push, hcs]
    unfold FH.get
    rw [blt_iff, hg]
    by_cases e1 : i = g
    · subst e1; simp [hgt]
    · by_cases e2 : i < g
      · have : i < g + 1 := by omega
        simp [e1, this, hget i e2]
      · have : ¬ i < g + 1 := by omega
        rw [FH.get_toH]
        unfold FH.get
        rw [blt_iff]
        simp [e1, this, e2, hc]
  have hin : Inside σ hc.toH h.toH := by
    refine ⟨fun i j hi hj => injB_spec hinj i j (by rw [hcs] at hi; exact hi) (by rw [hcs] at hj; exact hj), fun i hi => ?_⟩
    rw [hcs] at hi
    obtain ⟨q1, q2⟩ := hobj i hi
    refine ⟨_, _, hget i hi, ?_, by rw [hcs]; exact q2⟩
    rw [FH.get_toH]; unfold FH.get; rw [blt_iff]; simp [q1]
  have hrs := hs.restrict hin
  have hgr : Sim P (Go.Abs.grave σ g ρ) h2.toH w := by
    have := Sim.buried (σ := σ) (ρ := ρ) hrs hpush
    rw [hcs] at this; exact this
  obtain ⟨hb1, hb2⟩ := hr.2 n hb
  have gid : ∀ i, i < n → Go.Abs.grave σ g ρ i = ρ i := fun i hi => by
    show (if i = g then _ else rest σ g ρ i) = _
    rw [if_neg (by omega)]
    unfold rest
    rw [if_pos (by omega), (hfix i hi).1]
  have hlat : Later ρ0 h0 w0 (Go.Abs.grave σ g ρ) h2.toH w := by
    refine ⟨fun i t hi => ?_, by rw [FH.size_toH]; omega, hl.wsize, hl.os, hl.tape, hl.output, fun i hi hno => ?_, hl.frame, fun i B hB => ?_⟩
    · rw [gid i (hb2 i t hi)]; exact hl.le i t hi
    · obtain ⟨q1, q2⟩ := hl.none i hi hno
      have hin : i < n := by omega
      refine ⟨(gid i hin).trans q1, Eq.trans ?_ q2⟩
      rw [FH.get_toH, FH.get_toH]
      unfold FH.get
      rw [blt_iff, blt_iff, (hfix i hin).2]
      have e1 : i < h2.n := by omega
      have e2 : i < h.n := by have := (hobj i (by omega)).1; rw [(hfix i hin).1] at this; exact this
      simp [e1, e2]
    · have hB' : i < g ∧ ρ (σ i) = some (some B) := by
        unfold Go.Abs.grave at hB
        split at hB
        · cases hB
        · exact rest_some hB
      rcases hl.fresh _ B hB'.2 with q | q
      · have hlt := hb2 _ _ q
        have : σ i = i := injB_spec hinj _ _ (by omega) hB'.1 (hfix _ hlt).1
        rw [this] at q
        exact .inl q
      · exact .inr q
  have hact : ActRel P (Go.Abs.grave σ g ρ) (FA.mk a.n (live ++ (List.range a.n).map fun t => (t, F t)) []).toA a' := by
    obtain ⟨⟨s1, s2⟩, s3⟩ := ha
    have hsz : a.toA.tmps.size = a.n := by simp [FA.toA]
    refine ⟨⟨by rw [← s1, hsz]; simp [FA.toA], fun t u u' h5 h6 => ?_⟩, ?_⟩
    · have ht : t < a.n := by have := (Array.getElem?_eq_some_iff.1 h5).1; simpa [FA.toA] using this
      rw [FA.get_toA] at h5
      unfold FA.get at h5
      rw [blt_iff] at h5
      simp only [ht, decide_true, Option.some.injEq] at h5
      have h7 : a.toA.tmps[t]? = some (look undef a.l t) := by
        rw [FA.get_toA]; unfold FA.get; rw [blt_iff]; simp [ht]
      have h8 := s2 t _ u' h7 h6
      rcases look_append undef live ((List.range a.n).map fun t => (t, F t)) t with ⟨x, m1, m2, m3⟩ | m
      · rw [m3] at h5
        subst h5; subst m2
        obtain ⟨p1, p2, p3⟩ := hlive x m1
        rw [p3] at h8
        exact (h8.backV p1 p2).le (grave_rest σ g ρ)
      · rw [m, look_range F a.n t ht] at h5
        subst h5
        exact hF2 t ρ u' h8
    · rw [show a.toA.defers = a.ds from rfl, hd] at s3
      have e9 : a'.defers = [] := s3.nil_right
      show DRel _ [] a'.defers
      rw [e9]
      exact .nil
  exact h3 ρ0 h0 w0 hG r hr _ a' w hlat hgr hact

end Go.Abs

/-
Outcome rules: operations whose values are told, and regions that draw their order.
-/
namespace Go.Abs
open Go
variable {P : Program} {Γ : Gl} {ρ : Ren} {α β : Type}

/-- A division whose divisor is not zero. -/
theorem OT.div {ops : Array Oper} {i : Nat} {l : List Nat} {a : FA} {h : FH} {K : FA → FH → Prop} (op : BinOp) (t ty : TypeId) (x y : Operand) (k : IntKind) (u v : Int) (hi : decide (i < ops.size) = true) (hw : Region.wanted (ops.getD i default) (yieldedF ops a) = true)
    (hop : (ops.getD i default).op = .binOp op t x y ty) (hq : op = .rem ∨ op = .quo) (hx : okOperand x = true) (hy : okOperand y = true) (ex : a.eval x = .int k u) (ey : a.eval y = .int k v) (hv : v ≠ 0)
    (hr : OT P Γ ops l (a.put (ops.getD i default).dst (.int k (if op = .rem then u.tmod v else k.wrap (u.tdiv v)))) h K) : OT P Γ ops (i :: l) a h K :=
  OT.val _ hi hw (aop_div hop hq hx hy (by rw [FA.eval_toA]; exact ex) (by rw [FA.eval_toA]; exact ey) hv) hr

/-- The address of a slice's element. -/
theorem OT.idx {ops : Array Oper} {i : Nat} {l : List Nat} {a : FA} {h : FH} {K : FA → FH → Prop} (t e : TypeId) (x y : Operand) (ad : Addr) (n c : Nat) (k : IntKind) (m : Int) (sz : Nat) (hi : decide (i < ops.size) = true) (hw : Region.wanted (ops.getD i default) (yieldedF ops a) = true)
    (hop : (ops.getD i default).op = .indexAddr t x y) (hx : okOperand x = true) (hy : okOperand y = true) (ex : a.eval x = .slice (some ad) n c) (ey : a.eval y = .int k m) (hu : P.underlying t = some (.slice e)) (hs : (P.info? e).map (·.size) = some sz) (h0 : 0 ≤ m) (hm : m < n)
    (hr : OT P Γ ops l (a.put (ops.getD i default).dst (.pointer (some (ad.add (m.toNat * sz))))) h K) : OT P Γ ops (i :: l) a h K := by
  cases hinf : P.info? e with
  | none => rw [hinf] at hs; cases hs
  | some inf =>
    rw [hinf] at hs
    cases hs
    exact OT.val _ hi hw (aop_indexAddr hop hx hy (by rw [FA.eval_toA]; exact ex) (by rw [FA.eval_toA]; exact ey) hu hinf h0 hm) hr

/-- A cell is read. -/
theorem OT.load {ops : Array Oper} {i : Nat} {l : List Nat} {a : FA} {h : FH} {K : FA → FH → Prop} (t : TypeId) (x : Operand) (ad : Addr) (d : TypeDesc) (v : Value) (hi : decide (i < ops.size) = true) (hw : Region.wanted (ops.getD i default) (yieldedF ops a) = true)
    (hop : (ops.getD i default).op = .load t x) (hx : okOperand x = true) (ex : a.eval x = .pointer (some ad)) (hu : P.underlying t = some d) (hd : plainDesc d = true) (hc : cellF? h ad = some v)
    (hr : OT P Γ ops l (a.put (ops.getD i default).dst v) h K) : OT P Γ ops (i :: l) a h K :=
  OT.val v hi hw (aop_load hop hx (by rw [FA.eval_toA]; exact ex) hu hd ((cellF_toH h ad).trans hc)) hr

/-- What is handed back; the heap is as it is. -/
theorem retK {fn : Func} {a : FA} {h : FH} {Q : Value → FH → Prop} (v : Value) (hs : leaveF P fn a h = some (v, h)) (hq : Q v h) : ∃ u k, leaveF P fn a h = some (u, k) ∧ Q u k := ⟨v, h, hs, hq⟩

/-- The same; the heap is written out anew. -/
theorem retS {fn : Func} {a : FA} {h : FH} {Q : Value → FH → Prop} (v : Value) (h2 : FH) (hs : leaveF P fn a h = some (v, h)) (hn : h.n = h2.n) (he : (List.range h.n).map (look Abs.tomb h.l) = (List.range h.n).map (look Abs.tomb h2.l)) (hq : Q v h2) :
    ∃ u k, leaveF P fn a h = some (u, k) ∧ ∃ h2 : FH, k.toH = h2.toH ∧ Q u h2 := ⟨v, h, hs, h2, FH.toH_eq hn he, hq⟩

/-! Regions that draw their order -/
def DT (P : Program) (Γ : Gl) (ops : Array Oper) (L : List (Nat × Bool)) (F : List FactF) (a : FA) (h : FH) (K : FA → FH → Prop) : Prop :=
  ∃ (a1 : FA) (h1 : FH), DPlan P Γ ops (fun a' h' => a' = a1.toA ∧ h' = h1.toH) L (F.map (FactF.prop P ops)) a.toA h.toH ∧ K a1 h1

def FactsOk (ops : Array Oper) (F : List FactF) : Prop := ∀ f ∈ F, (Region.wanted f.o (yieldedF ops f.a) = true ∨ f.v = undef) ∧ takes f.o = true

theorem CT.plan {ops : Array Oper} {id : Nat} {a : FA} {h : FH} {Q : Exit → FA → FH → Prop} (hm : P.follows .mixedOrders = true) (L : List (Nat × Bool)) (hL : L.length = ops.size) (hfw : forward ops = true)
    (hp : planned ops L [] (Array.replicate ops.size false) = true) (hd : DT P Γ ops L [] a h (fun a h => Q .normal a h)) : CT P Γ (.region id ops true) a h Q := by
  obtain ⟨a1, h1, h2, h3⟩ := hd
  exact ⟨.normal, a1, h1, ACode.plan hm L hL hfw hp (DPlan.mono (fun a h hh => ⟨rfl, hh⟩) _ _ _ _ h2), h3⟩

theorem DT.nil {ops : Array Oper} {F : List FactF} {a : FA} {h : FH} {K : FA → FH → Prop} (hk : K a h) : DT P Γ ops [] F a h K := ⟨a, h, ⟨rfl, rfl⟩, hk⟩

def evPartF (P : Program) (call : CallerF) (ops : Array Oper) : List (Nat × Bool) → List FactF → FA → FH → Option (FA × FH × List FactF)
  | [], F, a, h => some (a, h, F)
  | (i, e) :: L, F, a, h =>
    match ops[i]? with
    | none => none
    | some o =>
      if Region.wanted o (yieldedF ops a) = true then
        if e = true then
          match runFI P a.eval o h (fi P o) with
          | some (.val v h1) =>
            if takes o = true then evPartF P call ops L (if asks o = true then ⟨i, o, v, a⟩ :: F else F) (a.put o.dst v) h
            else if ((h1.get h.n)).any (belowO h.n) = true ∧ (F.all (FactF.holds P ops · h1)) = true then evPartF P call ops L F (a.put o.dst v) h1
            else none
          | _ => none
        else
          match evOpF P call o a h with
          | some (a1, h1) =>
            if (F.filter fun f => !waits ops i f.i).all (FactF.holds P ops · h1) = true then evPartF P call ops L (F.filter fun f => !waits ops i f.i) a1 h1 else none
          | none => none
      else if e = true then evPartF P call ops L (if takes o = true ∧ asks o = true then ⟨i, o, undef, a⟩ :: F else F) (a.put o.dst undef) h
      else if (F.filter fun f => !waits ops i f.i).all (FactF.holds P ops · h) = true then evPartF P call ops L (F.filter fun f => !waits ops i f.i) (a.put o.dst undef) h
      else none

theorem factsF {ops : Array Oper} {F G : List FactF} {k : FH} (hF : FactsOk ops F) (hG : ∀ f ∈ G, f ∈ F) (hall : G.all (FactF.holds P ops · k) = true) : ∀ x ∈ G.map (FactF.prop P ops), x.2 k.toH := by
  intro x hx
  obtain ⟨f, hf, rfl⟩ := List.mem_map.1 hx
  obtain ⟨h1, h2⟩ := hF f (hG f hf)
  refine Fact.finds ?_ h2 (FactF.holds_toF (List.all_eq_true.1 hall f hf))
  rw [show f.toF.a.tmps = f.a.toA.tmps from rfl, yieldedF_toA]
  exact h1

theorem evPartF_sound {call : CallerF} (hc : CallableF P Γ call) {ops : Array Oper} : ∀ (L L2 : List (Nat × Bool)) (F F1 : List FactF) (a a1 : FA) (h h1 : FH) (K : Act → H → Prop), FactsOk ops F →
    evPartF P call ops L F a h = some (a1, h1, F1) → DPlan P Γ ops K L2 (F1.map (FactF.prop P ops)) a1.toA h1.toH → DPlan P Γ ops K (L ++ L2) (F.map (FactF.prop P ops)) a.toA h.toH := by
  intro L
  induction L with
  | nil => intro L2 F F1 a a1 h h1 K _ he hk; cases he; exact hk
  | cons x L ih =>
    obtain ⟨i, e⟩ := x
    intro L2 F F1 a a1 h h1 K hF he hk
    rw [List.cons_append]
    unfold evPartF at he
    unfold DPlan
    cases hi : ops[i]? with
    | none => rw [hi] at he; cases he
    | some o =>
      simp only [hi] at he ⊢
      by_cases hw : Region.wanted o (yieldedF ops a) = true
      · have hw' := hw
        rw [← yieldedF_toA] at hw'
        rw [if_pos hw] at he
        cases e with
        | true =>
          simp only [if_true] at he ⊢
          split at he
          · rename_i v h2 hv
            have hv' := runFI_sound hv
            by_cases ht : takes o = true
            · rw [if_pos ht] at he ⊢
              refine ⟨v, .inl ⟨hw', aop_takes ht hv'⟩, ?_⟩
              rw [← FA.put_toA]
              have := ih L2 _ _ _ _ _ _ K ?_ he hk
              · by_cases hk : asks o = true
                · simp only [hk, if_true] at this ⊢; exact this
                · rw [if_neg hk] at this ⊢; exact this
              · intro f hf
                split at hf
                · rcases List.mem_cons.1 hf with rfl | hf
                  · exact ⟨.inl hw, ht⟩
                  · exact hF f hf
                · exact hF f hf
            · rw [if_neg ht] at he ⊢
              rw [if_pos hw']
              split at he
              · rename_i hb
                refine ⟨v, h2.toH, hv', ?_, factsF hF (fun _ h => h) hb.2, ?_⟩
                · rw [FH.size_toH, FH.get_toH]; exact hb.1
                · rw [← FA.put_toA]; exact ih L2 _ _ _ _ _ _ K hF he hk
              · cases he
          · cases he
        | false =>
          simp only [Bool.false_eq_true, if_false] at he ⊢
          split at he
          · rename_i a2 h2 hop
            split at he
            · rename_i hall
              refine evOpF_sound hc hi hw hop ?_
              rw [keeps_factsF]
              exact ⟨factsF hF (fun f hf => (List.mem_filter.1 hf).1) hall, ih L2 _ _ _ _ _ _ K (fun f hf => hF f (List.mem_filter.1 hf).1) he hk⟩
            · cases he
          · cases he
      · have hw' := hw
        rw [← yieldedF_toA] at hw'
        rw [if_neg hw] at he
        cases e with
        | true =>
          simp only [if_true] at he ⊢
          by_cases ht : takes o = true
          · rw [if_pos ht]
            refine ⟨undef, .inr ⟨by simpa using hw', rfl⟩, ?_⟩
            rw [← FA.put_toA]
            have := ih L2 _ _ _ _ _ _ K ?_ he hk
            · by_cases hk : asks o = true
              · simp only [hk, ht, and_self, if_true] at this ⊢; exact this
              · rw [if_neg (fun h => hk h.2)] at this; rw [if_neg hk]; exact this
            · intro f hf
              split at hf
              · rename_i hc
                rcases List.mem_cons.1 hf with rfl | hf
                · exact ⟨.inr rfl, hc.1⟩
                · exact hF f hf
              · exact hF f hf
          · rw [if_neg (fun h => ht h.1)] at he
            rw [if_neg ht, if_neg hw', ← FA.put_toA]
            exact ih L2 _ _ _ _ _ _ K hF he hk
        | false =>
          simp only [Bool.false_eq_true, if_false] at he ⊢
          split at he
          · rename_i hall
            unfold AOp
            simp only [hi]
            rw [if_neg hw', keeps_factsF, ← FA.put_toA]
            exact ⟨factsF hF (fun f hf => (List.mem_filter.1 hf).1) hall, ih L2 _ _ _ _ _ _ K (fun f hf => hF f (List.mem_filter.1 hf).1) he hk⟩
          · cases he

theorem evPartF_facts {call : CallerF} {ops : Array Oper} : ∀ (L : List (Nat × Bool)) (F F1 : List FactF) (a a1 : FA) (h h1 : FH), FactsOk ops F → evPartF P call ops L F a h = some (a1, h1, F1) → FactsOk ops F1 := by
  intro L
  induction L with
  | nil => intro F F1 a a1 h h1 hF he; cases he; exact hF
  | cons x L ih =>
    obtain ⟨i, e⟩ := x
    intro F F1 a a1 h h1 hF he
    unfold evPartF at he
    cases hi : ops[i]? with
    | none => rw [hi] at he; cases he
    | some o =>
      simp only [hi] at he
      have sub : FactsOk ops (F.filter fun f => !waits ops i f.i) := fun f hf => hF f (List.mem_filter.1 hf).1
      split at he
      · rename_i hw
        split at he
        · split at he
          · rename_i v h2 hv
            split at he
            · rename_i ht
              refine ih _ _ _ _ _ _ ?_ he
              intro f hf
              split at hf
              · rcases List.mem_cons.1 hf with rfl | hf
                · exact ⟨.inl hw, ht⟩
                · exact hF f hf
              · exact hF f hf
            · split at he
              · exact ih _ _ _ _ _ _ hF he
              · cases he
          · cases he
        · split at he
          · split at he
            · exact ih _ _ _ _ _ _ sub he
            · cases he
          · cases he
      · split at he
        · refine ih _ _ _ _ _ _ ?_ he
          intro f hf
          split at hf
          · rename_i hc
            rcases List.mem_cons.1 hf with rfl | hf
            · exact ⟨.inr rfl, hc.1⟩
            · exact hF f hf
          · exact hF f hf
        · split at he
          · exact ih _ _ _ _ _ _ sub he
          · cases he

def pA (P : Program) (call : CallerF) (ops : Array Oper) (l : List (Nat × Bool)) (F : List FactF) (a : FA) (h : FH) : FA := match evPartF P call ops l F a h with | some r => r.1 | none => a
def pH (P : Program) (call : CallerF) (ops : Array Oper) (l : List (Nat × Bool)) (F : List FactF) (a : FA) (h : FH) : FH := match evPartF P call ops l F a h with | some r => r.2.1 | none => h
def pF (P : Program) (call : CallerF) (ops : Array Oper) (l : List (Nat × Bool)) (F : List FactF) (a : FA) (h : FH) : List FactF := match evPartF P call ops l F a h with | some r => r.2.2 | none => []

/-- A piece of a plan by counting. -/
theorem DT.evs {call : CallerF} (hc : CallableF P Γ call) {ops : Array Oper} (l m : List (Nat × Bool)) {F : List FactF} {a : FA} {h : FH} {K : FA → FH → Prop} (hF : FactsOk ops F) (hs : (evPartF P call ops l F a h).isSome = true)
    (hk : FactsOk ops (pF P call ops l F a h) → DT P Γ ops m (pF P call ops l F a h) (pA P call ops l F a h) (pH P call ops l F a h) K) : DT P Γ ops (l ++ m) F a h K := by
  cases he : evPartF P call ops l F a h with
  | none => rw [he] at hs; cases hs
  | some r =>
    obtain ⟨a1, h1, F1⟩ := r
    unfold pA pH pF at hk
    rw [he] at hk
    obtain ⟨a2, h2, h3, h4⟩ := hk (evPartF_facts l F F1 a a1 h h1 hF he)
    exact ⟨a2, h2, evPartF_sound hc l m F F1 a a1 h h1 _ hF he h3, h4⟩

theorem FactsOk.nil {ops : Array Oper} : FactsOk ops [] := fun _ h => by cases h

/-- An operation taken early whose value is told. -/
theorem DT.at {ops : Array Oper} {i : Nat} {m : List (Nat × Bool)} {F : List FactF} {a : FA} {h : FH} {K : FA → FH → Prop} (v : Value) (hi : decide (i < ops.size) = true) (hw : Region.wanted (ops.getD i default) (yieldedF ops a) = true)
    (ht : takes (ops.getD i default) = true) (hv : aop P a.toA (ops.getD i default) h.toH = some (.val v h.toH)) (hF : FactsOk ops F)
    (hk : ∀ F1, FactsOk ops F1 → DT P Γ ops m F1 (a.put (ops.getD i default).dst v) h K) : DT P Γ ops ((i, true) :: m) F a h K := by
  by_cases hk2 : asks (ops.getD i default) = true
  · obtain ⟨a2, h2, h3, h4⟩ := hk (⟨i, ops.getD i default, v, a⟩ :: F) fun f hf => by
      rcases List.mem_cons.1 hf with rfl | hf
      · exact ⟨.inl hw, ht⟩
      · exact hF f hf
    refine ⟨a2, h2, ?_, h4⟩
    rw [FA.put_toA] at h3
    unfold DPlan
    simp only [getD_some hi, if_true, ht]
    exact ⟨v, .inl ⟨wantF hw, hv⟩, by rw [if_pos hk2]; exact h3⟩
  · obtain ⟨a2, h2, h3, h4⟩ := hk F hF
    refine ⟨a2, h2, ?_, h4⟩
    rw [FA.put_toA] at h3
    unfold DPlan
    simp only [getD_some hi, if_true, ht]
    exact ⟨v, .inl ⟨wantF hw, hv⟩, by rw [if_neg hk2]; exact h3⟩

/-- A call that is alone, by its contract; what was found before is found still. -/
theorem DT.call {ops : Array Oper} {i : Nat} {m : List (Nat × Bool)} {F : List FactF} {a : FA} {h : FH} {K : FA → FH → Prop} {R : Value → FH → Prop} (f : FuncId) (args : Array Value) (hi : decide (i < ops.size) = true) (hw : Region.wanted (ops.getD i default) (yieldedF ops a) = true)
    (hv : runFI P a.eval (ops.getD i default) h (fi P (ops.getD i default)) = some (.enter f args h)) (hF : FactsOk ops F) (hc : FT P Γ f args h R)
    (hr : ∀ v h2, R v h2 → ((F.filter fun f => !waits ops i f.i).all (FactF.holds P ops · h2) = true) ∧ (FactsOk ops (F.filter fun f => !waits ops i f.i) → DT P Γ ops m (F.filter fun f => !waits ops i f.i) (a.put (ops.getD i default).dst v) h2 K)) :
    DT P Γ ops ((i, false) :: m) F a h K := by
  obtain ⟨v, h2, h3, h4⟩ := hc
  obtain ⟨hall, hr⟩ := hr v h2 h4
  have sub : FactsOk ops (F.filter fun f => !waits ops i f.i) := fun f hf => hF f (List.mem_filter.1 hf).1
  obtain ⟨a1, h5, h6, h7⟩ := hr sub
  refine ⟨a1, h5, ?_, h7⟩
  rw [FA.put_toA] at h6
  unfold DPlan
  simp only [getD_some hi, Bool.false_eq_true, if_false]
  unfold AOp
  simp only [getD_some hi, wantF hw, if_true]
  refine .inr ⟨f, args, h.toH, _, runFI_sound hv, h3, fun u k ⟨e1, e2⟩ => ?_⟩
  subst e1; subst e2
  rw [keeps_factsF]
  exact ⟨factsF hF (fun f hf => (List.mem_filter.1 hf).1) hall, h6⟩

end Go.Abs

/-
Calls by contracts on small heaps: one rule.
-/
namespace Go.Abs
open Go
variable {P : Program} {Γ : Gl} {ρ : Ren} {α β : Type}

def fnL (σ : List Nat) (i : Nat) : Nat := match σ, i with
  | [], _ => 0
  | x :: _, 0 => x
  | _ :: l, i + 1 => fnL l i

/-- How a block is shown: as it was; without addresses; renamed; with addresses that keep their names. -/
inductive Tag where
  | keep
  | flat
  | ren
  | fix

def InE1 (σ : Nat → Nat) (hc h : FH) (i : Nat) : Tag → Prop
  | .flat => FlatO (look Abs.tomb hc.l i) ∧ look Abs.tomb h.l (σ i) = look Abs.tomb hc.l i
  | .ren => (plainO (look Abs.tomb hc.l i) && underO hc.n (look Abs.tomb hc.l i)) = true ∧ look Abs.tomb h.l (σ i) = renO σ (look Abs.tomb hc.l i)
  | .fix => ((plainO (look Abs.tomb hc.l i) && underO hc.n (look Abs.tomb hc.l i)) = true ∧ renO σ (look Abs.tomb hc.l i) = look Abs.tomb hc.l i) ∧ look Abs.tomb h.l (σ i) = look Abs.tomb hc.l i
  | .keep => False

def InE (σ : Nat → Nat) (hc h : FH) : Nat → List Tag → Prop
  | _, [] => True
  | i, b :: bs => InE1 σ hc h i b ∧ InE σ hc h (i + 1) bs

theorem InE.at {σ : Nat → Nat} {hc h : FH} : ∀ {k : Nat} {bs : List Tag}, InE σ hc h k bs → ∀ i, i < bs.length → InE1 σ hc h (k + i) (bs.getD i .keep)
  | _, [], _, i, hi => by simp at hi
  | k, b :: bs, h1, i, hi => by
    cases i with
    | zero => exact h1.1
    | succ i =>
      have := h1.2.at i (by simpa using hi)
      have e : k + 1 + i = k + (i + 1) := by omega
      rw [e] at this
      simpa using this

def allLt (σ : Nat → Nat) (n : Nat) : Nat → Bool
  | 0 => true
  | m + 1 => Nat.blt (σ m) n && allLt σ n m

theorem allLt_at {σ : Nat → Nat} {n : Nat} : ∀ {m : Nat}, allLt σ n m = true → ∀ i, i < m → σ i < n
  | 0, _, i, hi => by omega
  | m + 1, h, i, hi => by
    unfold allLt at h
    rw [Bool.and_eq_true, blt_iff, decide_eq_true_eq] at h
    by_cases e : i = m
    · subst e; exact h.1
    · exact allLt_at h.2 i (by omega)

theorem inside_of {σ : Nat → Nat} {hc h : FH} {bs : List Tag} (hl : bs.length = hc.n) (hs : allLt σ h.n hc.n = true) (hj : injB σ hc.n = true) (hi : InE σ hc h 0 bs) : Inside σ hc.toH h.toH := by
  refine ⟨fun i j h1 h2 e => ?_, fun i h1 => ?_⟩
  · rw [FH.size_toH] at h1 h2
    exact injB_spec hj i j h1 h2 e
  · rw [FH.size_toH] at h1 ⊢
    have hlt := allLt_at hs i h1
    have e1 : hc.toH[i]? = some (look Abs.tomb hc.l i) := by rw [FH.get_toH]; unfold FH.get; rw [blt_iff]; simp [h1]
    have e2 : h.toH[σ i]? = some (look Abs.tomb h.l (σ i)) := by rw [FH.get_toH]; unfold FH.get; rw [blt_iff]; simp [hlt]
    refine ⟨_, _, e1, e2, ?_⟩
    have hb := hi.at i (by omega)
    rw [Nat.zero_add] at hb
    cases hbb : bs.getD i .keep with
    | keep => rw [hbb] at hb; exact hb.elim
    | flat => rw [hbb] at hb; exact .rigid hb.1 hb.2
    | ren =>
      rw [hbb] at hb
      have h3 := hb.1
      rw [Bool.and_eq_true] at h3
      exact .ren h3.1 h3.2 hb.2
    | fix =>
      rw [hbb] at hb
      have h3 := hb.1.1
      rw [Bool.and_eq_true] at h3
      exact .ren h3.1 h3.2 (hb.2.trans hb.1.2.symm)


theorem ren0_flat {τ : Nat → Nat} {v : Value} (h : flat1 v = true) : ren0 τ v = v := by
  cases v with
  | pointer a => cases a <;> first | rfl | cases h
  | slice a n c => cases a <;> first | rfl | cases h
  | map r => cases r <;> first | rfl | cases h
  | _ => rfl

theorem ren1_flat {τ : Nat → Nat} {v : Value} (hp : plain1 v = true) (h : flat v = true) : ren1 τ v = v := by
  cases v with
  | agg x => cases hp
  | tuple x => cases hp
  | iface t v => cases h
  | func f x y => cases h
  | pointer a => exact ren0_flat (v := .pointer a) h
  | slice a n c => exact ren0_flat (v := .slice a n c) h
  | map r => exact ren0_flat (v := .map r) h
  | _ => rfl

theorem map_self {f : Value → Value} {c : Array Value} (h : ∀ v, v ∈ c.toList → f v = v) : (⟨c.toList.map f⟩ : Array Value) = c := by
  apply Array.ext'
  show c.toList.map f = c.toList
  exact (List.map_congr_left h).trans (List.map_id _)

theorem renO_flat {τ : Nat → Nat} {o : Obj} (hp : plainO o = true) (hf : FlatO o) : renO τ o = o := by
  cases o with
  | cells c e f =>
    show Obj.cells _ e f = _
    rw [map_self fun v hv => ren1_flat (List.all_eq_true.1 hp v hv) (hf v (Array.mem_toList_iff.1 hv))]
  | _ => rfl

theorem ren0_out {σ : Nat → Nat} {m N : Nat} {v : Value} (h : under0 m v = true) : ren0 (out σ m N) v = ren0 σ v := by
  have key : ∀ i, i < m → out σ m N i = σ i := fun i hi => by unfold out; rw [if_pos hi]
  cases v with
  | pointer a => cases a with
    | none => rfl
    | some a => show Value.pointer (some ⟨out σ m N a.block, _, _⟩) = _; rw [key _ (of_decide_eq_true h)]; rfl
  | slice a n c => cases a with
    | none => rfl
    | some a => show Value.slice (some ⟨out σ m N a.block, _, _⟩) n c = _; rw [key _ (of_decide_eq_true h)]; rfl
  | map r => cases r with
    | none => rfl
    | some a => show Value.map (some (out σ m N a)) = _; rw [key _ (of_decide_eq_true h)]; rfl
  | _ => rfl

theorem ren1_out {σ : Nat → Nat} {m N : Nat} {v : Value} (h : under1 m v = true) : ren1 (out σ m N) v = ren1 σ v := by
  cases v with
  | iface t v => show Value.iface t _ = _; rw [ren0_out h]; rfl
  | func f x y =>
    simp only [under1, Bool.and_eq_true] at h
    show Value.func f _ _ = Value.func f _ _
    rw [List.map_congr_left fun v hv => ren0_out (List.all_eq_true.1 h.1 v hv), List.map_congr_left fun v hv => ren0_out (List.all_eq_true.1 h.2 v hv)]
  | pointer a => exact ren0_out (v := .pointer a) h
  | slice a n c => exact ren0_out (v := .slice a n c) h
  | map r => exact ren0_out (v := .map r) h
  | _ => rfl

theorem renO_out {σ : Nat → Nat} {m N : Nat} {o : Obj} (hp : plainO o = true) (h : underO m o = true) : renO (out σ m N) o = renO σ o := by
  cases o with
  | cells c e f =>
    show Obj.cells ⟨_⟩ e f = Obj.cells ⟨_⟩ e f
    rw [List.map_congr_left fun v hv => ren1_out (List.all_eq_true.1 h v hv)]
  | _ => cases hp

/-! Back -/
def backL (σ τ : Nat → Nat) (hc1 : FH) : Nat → List Tag → List (Nat × Obj)
  | _, [] => []
  | i, .keep :: l => backL σ τ hc1 (i + 1) l
  | i, .flat :: l => (σ i, look Abs.tomb hc1.l i) :: backL σ τ hc1 (i + 1) l
  | i, .fix :: l => (σ i, look Abs.tomb hc1.l i) :: backL σ τ hc1 (i + 1) l
  | i, .ren :: l => (σ i, renO τ (look Abs.tomb hc1.l i)) :: backL σ τ hc1 (i + 1) l

def BackE (τ : Nat → Nat) (hc hc1 : FH) : Nat → List Tag → Prop
  | _, [] => True
  | i, .keep :: l => look Abs.tomb hc1.l i = look Abs.tomb hc.l i ∧ BackE τ hc hc1 (i + 1) l
  | i, .flat :: l => FlatO (look Abs.tomb hc1.l i) ∧ BackE τ hc hc1 (i + 1) l
  | i, .fix :: l => (plainO (look Abs.tomb hc1.l i) = true ∧ renO τ (look Abs.tomb hc1.l i) = look Abs.tomb hc1.l i) ∧ BackE τ hc hc1 (i + 1) l
  | i, .ren :: l => plainO (look Abs.tomb hc1.l i) = true ∧ BackE τ hc hc1 (i + 1) l

/-- The heap behind a call: blocks of the small heap that are changed, and new ones. -/
def back (σ : Nat → Nat) (hc h hc1 : FH) (t : List Tag) (u : List Tag) : FH :=
  ⟨h.n + u.length, backL (fun i => h.n + (i - hc.n)) (out σ hc.n h.n) hc1 hc.n u ++ (backL σ (out σ hc.n h.n) hc1 0 t ++ h.l)⟩

theorem backL_look {σ τ : Nat → Nat} {hc1 : FH} (d : Obj) (m : List (Nat × Obj)) : ∀ (t : List Tag) (k : Nat), (∀ i j, k ≤ i → i < k + t.length → k ≤ j → j < k + t.length → σ i = σ j → i = j) →
    ∀ i, i < t.length → look d (backL σ τ hc1 k t ++ m) (σ (k + i)) = match t.getD i .keep with
      | .keep => look d m (σ (k + i))
      | .flat => look Abs.tomb hc1.l (k + i)
      | .fix => look Abs.tomb hc1.l (k + i)
      | .ren => renO τ (look Abs.tomb hc1.l (k + i)) := by
  intro t
  induction t with
  | nil => intro k _ i hi; simp at hi
  | cons x t ih =>
    intro k hj i hi
    have hj2 : ∀ i j, k + 1 ≤ i → i < k + 1 + t.length → k + 1 ≤ j → j < k + 1 + t.length → σ i = σ j → i = j := fun i j h1 h2 h3 h4 e => hj i j (by omega) (by simp; omega) (by omega) (by simp; omega) e
    have hm : ∀ k, (∀ i, k + 1 ≤ i → i < k + 1 + t.length → σ i ≠ σ k) → look d (backL σ τ hc1 (k + 1) t ++ m) (σ k) = look d m (σ k) := by
      intro k hk
      have gen : ∀ (t2 : List Tag) (q : Nat), (∀ i, q ≤ i → i < q + t2.length → σ i ≠ σ k) → look d (backL σ τ hc1 q t2 ++ m) (σ k) = look d m (σ k) := by
        intro t2
        induction t2 with
        | nil => intro q _; rfl
        | cons y t2 ih2 =>
          intro q hq
          have h1 := ih2 (q + 1) fun i a b => hq i (by omega) (by simp; omega)
          have h2 := hq q (by omega) (by simp)
          cases y with
          | keep => exact h1
          | _ =>
            show look d ((σ q, _) :: (backL σ τ hc1 (q + 1) t2 ++ m)) (σ k) = _
            rw [look_cons, if_neg h2, h1]
      exact gen t (k + 1) hk
    have hne : ∀ i, k + 1 ≤ i → i < k + 1 + t.length → σ i ≠ σ k := fun i h1 h2 e => by
      have := hj i k (by omega) (by simp; omega) (by omega) (by simp) e
      omega
    cases i with
    | zero =>
      cases x with
      | keep => exact hm k hne
      | _ =>
        show look d ((σ k, _) :: (backL σ τ hc1 (k + 1) t ++ m)) (σ k) = _
        rw [look_cons, if_pos rfl]; rfl
    | succ i =>
      have h1 := ih (k + 1) hj2 i (by simpa using hi)
      have e : k + 1 + i = k + (i + 1) := by omega
      rw [e] at h1
      have h2 : σ k ≠ σ (k + (i + 1)) := fun e => hne (k + (i + 1)) (by omega) (by simp at hi; omega) e.symm
      cases x with
      | keep => exact h1
      | _ =>
        show look d ((σ k, _) :: (backL σ τ hc1 (k + 1) t ++ m)) _ = _
        rw [look_cons, if_neg h2, h1]; rfl

theorem backL_rest {σ τ : Nat → Nat} {hc1 : FH} (d : Obj) (m : List (Nat × Obj)) (j : Nat) : ∀ (t : List Tag) (k : Nat), (∀ i, k ≤ i → i < k + t.length → σ i ≠ j) → look d (backL σ τ hc1 k t ++ m) j = look d m j := by
  intro t
  induction t with
  | nil => intro k _; rfl
  | cons y t ih =>
    intro k hq
    have h1 := ih (k + 1) fun i a b => hq i (by omega) (by simp; omega)
    have h2 := hq k (by omega) (by simp)
    cases y with
    | keep => exact h1
    | _ =>
      show look d ((σ k, _) :: (backL σ τ hc1 (k + 1) t ++ m)) j = _
      rw [look_cons, if_neg h2, h1]

theorem BackE.at {τ : Nat → Nat} {hc hc1 : FH} : ∀ {t : List Tag} {k : Nat}, BackE τ hc hc1 k t → ∀ i, i < t.length → match t.getD i .keep with
    | .keep => look Abs.tomb hc1.l (k + i) = look Abs.tomb hc.l (k + i)
    | .flat => FlatO (look Abs.tomb hc1.l (k + i))
    | .fix => plainO (look Abs.tomb hc1.l (k + i)) = true ∧ renO τ (look Abs.tomb hc1.l (k + i)) = look Abs.tomb hc1.l (k + i)
    | .ren => plainO (look Abs.tomb hc1.l (k + i)) = true
  | [], _, _, i, hi => by simp at hi
  | x :: t, k, h, i, hi => by
    have hd : BackE τ hc hc1 (k + 1) t := by cases x <;> exact h.2
    cases i with
    | zero => cases x <;> exact h.1
    | succ i =>
      have := hd.at i (by simpa using hi)
      have e : k + 1 + i = k + (i + 1) := by omega
      rw [e] at this
      exact this

def someL : List Tag → Bool
  | [] => true
  | .keep :: _ => false
  | _ :: l => someL l

theorem someL_at : ∀ {u : List Tag}, someL u = true → ∀ i, i < u.length → u.getD i .keep ≠ .keep
  | [], _, i, hi => by simp at hi
  | x :: u, h, i, hi => by
    have hu : x ≠ .keep ∧ someL u = true := by cases x <;> first | exact ⟨nofun, h⟩ | cases h
    cases i with
    | zero => exact hu.1
    | succ i => exact someL_at (u := u) hu.2 i (by simpa using hi)

theorem behind_of {σ : Nat → Nat} {hc h hc1 : FH} {t u : List Tag} (hs : allLt σ h.n hc.n = true) (hj : injB σ hc.n = true) (ht : t.length = hc.n) (hu : hc1.n = hc.n + u.length) (hn : someL u = true)
    (hb1 : BackE (out σ hc.n h.n) hc hc1 0 t) (hb2 : BackE (out σ hc.n h.n) hc hc1 hc.n u) (hin : Inside σ hc.toH h.toH) : Behind σ hc.toH h.toH hc1.toH (back σ hc h hc1 t u).toH := by
  have g1 : ∀ (q : FH) i, i < q.n → q.toH[i]? = some (look Abs.tomb q.l i) := fun q i hi => by rw [FH.get_toH]; unfold FH.get; rw [blt_iff]; simp [hi]
  have inj1 : ∀ i j, 0 ≤ i → i < 0 + t.length → 0 ≤ j → j < 0 + t.length → σ i = σ j → i = j := fun i j _ h1 _ h2 e => injB_spec hj i j (by omega) (by omega) e
  have inj2 : ∀ i j, hc.n ≤ i → i < hc.n + u.length → hc.n ≤ j → j < hc.n + u.length → h.n + (i - hc.n) = h.n + (j - hc.n) → i = j := fun i j h1 h2 h3 h4 e => by omega
  have hold : ∀ k, k < h.n → look Abs.tomb (back σ hc h hc1 t u).l k = look Abs.tomb (backL σ (out σ hc.n h.n) hc1 0 t ++ h.l) k := fun k hk => by
    unfold back
    exact backL_rest _ _ _ u hc.n fun i h1 h2 => by omega
  refine ⟨?_, ?_, fun i hi => ?_, fun j h1 h2 => ?_, fun k hk hno => ?_⟩
  · rw [FH.size_toH, FH.size_toH]; omega
  · rw [FH.size_toH, FH.size_toH, FH.size_toH, FH.size_toH]
    show h.n + u.length = _
    omega
  · rw [FH.size_toH] at hi
    have hlt := allLt_at hs i hi
    rw [FH.size_toH, FH.size_toH]
    refine ⟨_, _, g1 hc1 i (by omega), g1 _ (σ i) (show σ i < h.n + u.length by omega), ?_, fun e => ?_⟩
    · rw [hold _ hlt]
      have e1 := backL_look (σ := σ) (τ := out σ hc.n h.n) (hc1 := hc1) Abs.tomb h.l t 0 inj1 i (by omega)
      have e2 := hb1.at i (by omega)
      rw [Nat.zero_add] at e1 e2
      rw [e1]
      cases hx : t.getD i .keep with
      | keep =>
        rw [hx] at e2
        simp only at e2 ⊢
        obtain ⟨o, oE, q1, q2, q3⟩ := hin.obj i (by rw [FH.size_toH]; exact hi)
        rw [g1 hc i hi] at q1
        rw [g1 h _ hlt] at q2
        cases q1; cases q2
        rw [e2]
        cases q3 with
        | rigid a b => exact .rigid a b
        | ren a b c =>
          refine .ren a ?_
          rw [c]
          rw [FH.size_toH] at b
          exact (renO_out a b).symm
      | flat => rw [hx] at e2; exact .rigid e2 rfl
      | ren => rw [hx] at e2; exact .ren e2 rfl
      | fix => rw [hx] at e2; exact .ren e2.1 e2.2.symm
    · rw [g1 hc1 i (by omega), g1 hc i hi, Option.some.injEq] at e
      rw [g1 _ (σ i) (show σ i < h.n + u.length by omega), g1 h _ hlt, hold _ hlt]
      have e1 := backL_look (σ := σ) (τ := out σ hc.n h.n) (hc1 := hc1) Abs.tomb h.l t 0 inj1 i (by omega)
      rw [Nat.zero_add] at e1
      rw [e1]
      congr 1
      have e2 := hb1.at i (by omega)
      rw [Nat.zero_add] at e2
      obtain ⟨o, oE, q1, q2, q3⟩ := hin.obj i (by rw [FH.size_toH]; exact hi)
      rw [g1 hc i hi] at q1
      rw [g1 h _ hlt] at q2
      cases q1; cases q2
      rw [FH.size_toH] at q3
      cases hx : t.getD i .keep with
      | keep => rfl
      | flat =>
        rw [hx] at e2
        simp only at e2 ⊢
        rw [e] at e2 ⊢
        cases q3 with
        | rigid a b => exact b.symm
        | ren a b c => rw [c]; exact (renO_flat a e2).symm
      | ren =>
        rw [hx] at e2
        simp only at e2 ⊢
        rw [e] at e2 ⊢
        cases q3 with
        | rigid a b => rw [b]; exact renO_flat e2 a
        | ren a b c => rw [c]; exact renO_out a b
      | fix =>
        rw [hx] at e2
        simp only at e2 ⊢
        rw [e] at e2 ⊢
        cases q3 with
        | rigid a b => exact b.symm
        | ren a b c => rw [c]; exact e2.2.symm.trans (renO_out a b)
  · rw [FH.size_toH] at h1 h2
    rw [FH.size_toH, FH.size_toH]
    refine ⟨_, _, g1 hc1 j h2, g1 _ _ (show h.n + (j - hc.n) < h.n + u.length by omega), ?_⟩
    have e1 := backL_look (σ := fun i => h.n + (i - hc.n)) (τ := out σ hc.n h.n) (hc1 := hc1) Abs.tomb (backL σ (out σ hc.n h.n) hc1 0 t ++ h.l) u hc.n inj2 (j - hc.n) (by omega)
    have e3 : hc.n + (j - hc.n) = j := by omega
    have e4 := hb2.at (j - hc.n) (by omega)
    have e5 := someL_at hn (j - hc.n) (by omega)
    rw [e3] at e1 e4
    have e6 : look Abs.tomb (back σ hc h hc1 t u).l (h.n + (j - hc.n)) = _ := e1
    rw [e6]
    cases hx : u.getD (j - hc.n) .keep with
    | keep => exact absurd hx e5
    | flat => rw [hx] at e4; exact .rigid e4 rfl
    | ren => rw [hx] at e4; exact .ren e4 rfl
    | fix => rw [hx] at e4; exact .ren e4.1 e4.2.symm
  · rw [FH.size_toH] at hk
    rw [g1 _ k (show k < h.n + u.length by omega), g1 h k hk, hold k hk]
    congr 1
    exact backL_rest _ _ _ t 0 fun i _ h2 => hno i (by rw [FH.size_toH]; omega)

/-- **A call by its contract on a small heap.** -/
theorem FT.embedL {f : FuncId} {argsc : Array Value} {hc h : FH} {R Q : Value → FH → Prop} (σ : List Nat) (bs : List Tag) (hx : FT P Γ f argsc hc R) (hl : bs.length = hc.n) (hs : allLt (fnL σ) h.n hc.n = true) (hj : injB (fnL σ) hc.n = true) (hi : InE (fnL σ) hc h 0 bs)
    (hp : argsc.toList.all plainV = true) (hu : argsc.toList.all (underV hc.n) = true)
    (hk : ∀ vc hc1, R vc hc1 → ∃ t u, t.length = hc.n ∧ hc1.n = hc.n + u.length ∧ someL u = true ∧ BackE (out (fnL σ) hc.n h.n) hc hc1 0 t ∧ BackE (out (fnL σ) hc.n h.n) hc hc1 hc.n u ∧ plainV vc = true ∧ Q (renV (out (fnL σ) hc.n h.n) vc) (back (fnL σ) hc h hc1 t u)) :
    FT P Γ f ⟨argsc.toList.map (renV (fnL σ))⟩ h Q := by
  have hin := inside_of hl hs hj hi
  refine FT.embed (fnL σ) hin hp hu hx fun vc hc1 hr => ?_
  obtain ⟨t, u, h1, h2, h3, h4, h5, h6, h7⟩ := hk vc hc1 hr
  exact ⟨h6, _, behind_of hs hj h1 h2 h3 h4 h5 hin, h7⟩

theorem OT.callE {ops : Array Oper} {i : Nat} {l : List Nat} {a : FA} {h : FH} {K : FA → FH → Prop} {f : FuncId} {argsc : Array Value} {hc : FH} {R : Value → FH → Prop} (σ : List Nat) (bs : List Tag) (hx : FT P Γ f argsc hc R)
    (hi : decide (i < ops.size) = true) (hw : Region.wanted (ops.getD i default) (yieldedF ops a) = true) (hv : runFI P a.eval (ops.getD i default) h (fi P (ops.getD i default)) = some (.enter f ⟨argsc.toList.map (renV (fnL σ))⟩ h))
    (hl : bs.length = hc.n) (hs : allLt (fnL σ) h.n hc.n = true) (hj : injB (fnL σ) hc.n = true) (hin : InE (fnL σ) hc h 0 bs) (hp : argsc.toList.all plainV = true) (hu : argsc.toList.all (underV hc.n) = true)
    (hk : ∀ vc hc1, R vc hc1 → ∃ t u, t.length = hc.n ∧ hc1.n = hc.n + u.length ∧ someL u = true ∧ BackE (out (fnL σ) hc.n h.n) hc hc1 0 t ∧ BackE (out (fnL σ) hc.n h.n) hc hc1 hc.n u ∧ plainV vc = true ∧
      OT P Γ ops l (a.put (ops.getD i default).dst (renV (out (fnL σ) hc.n h.n) vc)) (back (fnL σ) hc h hc1 t u) K) : OT P Γ ops (i :: l) a h K :=
  OT.call f _ hi hw hv (FT.embedL (Q := fun v h2 => OT P Γ ops l (a.put (ops.getD i default).dst v) h2 K) σ bs hx hl hs hj hin hp hu hk) fun _ _ hr => hr

/-- What is handed back, by counting. -/
def retV (P : Program) (fn : Func) (a : FA) (h : FH) : Value := match leaveF P fn a h with | some r => r.1 | none => undef
def retH (P : Program) (fn : Func) (a : FA) (h : FH) : FH := match leaveF P fn a h with | some r => r.2 | none => h

theorem retQ {fn : Func} {a : FA} {h : FH} {Q : Value → FH → Prop} (hs : (leaveF P fn a h).isSome = true) (hq : Q (retV P fn a h) (retH P fn a h)) : ∃ u k, leaveF P fn a h = some (u, k) ∧ Q u k := by
  unfold retV retH at hq
  cases he : leaveF P fn a h with
  | none => rw [he] at hs; cases hs
  | some r => rw [he] at hq; exact ⟨r.1, r.2, rfl, hq⟩

/-- Two heaps that say the same. -/
theorem FH.eqL {h1 h2 : FH} (hn : h1.n = h2.n) (h : (List.range h1.n).map (look Abs.tomb h1.l) = (List.range h1.n).map (look Abs.tomb h2.l)) : h1.toH = h2.toH := FH.toH_eq hn h

end Go.Abs

/-
Rules for rows whose length is not known by counting.
-/
namespace Go.Abs
open Go
variable {P : Program} {Γ : Gl} {ρ : Ren} {α β : Type}

/-- An operation by what it does, the heap changed. -/
theorem OT.step {ops : Array Oper} {i : Nat} {l : List Nat} {a : FA} {h h1 : FH} {K : FA → FH → Prop} (v : Value) (hi : decide (i < ops.size) = true) (hw : Region.wanted (ops.getD i default) (yieldedF ops a) = true)
    (hv : runFI P a.eval (ops.getD i default) h (fi P (ops.getD i default)) = some (.val v h1)) (hr : OT P Γ ops l (a.put (ops.getD i default).dst v) h1 K) : OT P Γ ops (i :: l) a h K := by
  obtain ⟨a1, h2, h3, h4⟩ := hr
  rw [FA.put_toA] at h3
  exact ⟨a1, h2, AOps.val (getD_some hi) (wantF hw) (runFI_sound hv) h3, h4⟩

theorem OT.idxF {ops : Array Oper} {i : Nat} {l : List Nat} {a : FA} {h : FH} {K : FA → FH → Prop} (x y : Operand) (sz : Nat) (b o : Nat) (n c : Nat) (k : IntKind) (m : Int) (hi : decide (i < ops.size) = true) (hw : Region.wanted (ops.getD i default) (yieldedF ops a) = true)
    (hfi : fi P (ops.getD i default) = .idx x y sz) (ex : a.eval x = .slice (some ⟨b, o, none⟩) n c) (ey : a.eval y = .int k m) (h0 : 0 ≤ m) (hm : m < n)
    (hr : OT P Γ ops l (a.put (ops.getD i default).dst (.pointer (some ⟨b, o + m.toNat * sz, none⟩))) h K) : OT P Γ ops (i :: l) a h K := by
  refine OT.step (h1 := h) (.pointer (some ⟨b, o + m.toNat * sz, none⟩)) hi hw ?_ hr
  rw [hfi]
  unfold runFI
  simp only [ex, ey]
  obtain ⟨m', rfl⟩ := Int.eq_ofNat_of_zero_le h0
  have : Nat.blt m' n = true := by rw [blt_iff]; simp; omega
  show (match Nat.blt m' n with | true => some (FStep.val (.pointer (some ((⟨b, o, none⟩ : Addr).add (m' * sz)))) h) | false => _) = _
  rw [this, add_spot rfl]
  rfl

theorem OT.loadF {ops : Array Oper} {i : Nat} {l : List Nat} {a : FA} {h : FH} {K : FA → FH → Prop} (x : Operand) (ad : Addr) (v : Value) (hi : decide (i < ops.size) = true) (hw : Region.wanted (ops.getD i default) (yieldedF ops a) = true)
    (hfi : fi P (ops.getD i default) = .load x) (ex : a.eval x = .pointer (some ad)) (hc : cellF? h ad = some v) (hr : OT P Γ ops l (a.put (ops.getD i default).dst v) h K) : OT P Γ ops (i :: l) a h K := by
  refine OT.step (h1 := h) v hi hw ?_ hr
  rw [hfi]
  unfold runFI
  simp only [ex, hc]

theorem cellF_row {h : FH} {b o : Nat} {cs : Array Value} {e : TypeId} {f : Nat × Nat} {v : Value} (hg : h.get b = some (.cells cs e f)) (hv : cs.toList[o]? = some v) : cellF? h ⟨b, o, none⟩ = some v := by
  unfold cellF?
  simp only [hg]
  exact hv

def loadT (o : Oper) : TypeId := match o.op with | .load t _ => t | _ => 0
def aggT (P : Program) (t : TypeId) : Bool := match P.underlying t with | some (.struct _) => true | some (.array _ _) => true | _ => false

theorem arun_loadAt_row {t : TypeId} {b o k : Nat} {cs row : Array Value} {h : H} {e : TypeId} {f : Nat × Nat} (ha : aggT P t = true) (hk : (P.info? t).map (·.size) = some k) (hg : h[b]? = some (.cells cs e f)) (hn : o + k ≤ cs.size) (hrow : cs.extract o (o + k) = row) :
    arun P (Instr.loadAt t (.pointer (some ⟨b, o, none⟩))) h = some (.agg row, h) := by
  have hg2 : h[(⟨b, o, none⟩ : Addr).block]? = some (.cells cs e f) := hg
  have e1 := arun_loadCells_row (P := P) hg2 rfl k hn
  obtain ⟨inf, hinf, hsz⟩ : ∃ inf, P.info? t = some inf ∧ inf.size = k := by
    cases hq : P.info? t with
    | none => rw [hq] at hk; cases hk
    | some inf => rw [hq] at hk; exact ⟨inf, rfl, Option.some.inj hk⟩
  unfold Instr.loadAt Instr.sureAddr Go.loadVar Go.isAgg Go.sizeOf
  unfold aggT at ha
  simp only [pure_bind, arun_bind, arun_underlying]
  cases hu : P.underlying t with
  | none => rw [hu] at ha; cases ha
  | some d =>
    rw [hu] at ha
    cases d <;> first | (cases ha; done) | skip
    all_goals
      simp only [Option.map_some, Option.bind_some, arun_pure, if_true, arun_bind]
      simp [hinf, hsz, e1, hrow]

/-- A struct is read from a row. -/
theorem OT.loadS {ops : Array Oper} {i : Nat} {l : List Nat} {a : FA} {h : FH} {K : FA → FH → Prop} (b o k : Nat) (cs row : Array Value) (hi : decide (i < ops.size) = true) (hw : Region.wanted (ops.getD i default) (yieldedF ops a) = true)
    (hv : runFI P a.eval (ops.getD i default) h (fi P (ops.getD i default)) = valsF (arunF P (Instr.loadAt (loadT (ops.getD i default)) (.pointer (some ⟨b, o, none⟩))) h))
    (ha : aggT P (loadT (ops.getD i default)) = true) (hk : (P.info? (loadT (ops.getD i default))).map (·.size) = some k) (e : TypeId) (f : Nat × Nat) (hg : h.get b = some (.cells cs e f)) (hn : o + k ≤ cs.size) (hrow : cs.extract o (o + k) = row)
    (hr : OT P Γ ops l (a.put (ops.getD i default).dst (.agg row)) h K) : OT P Γ ops (i :: l) a h K := by
  have e2 := arun_loadAt_row (o := o) ha hk ((FH.get_toH h b).trans hg) hn hrow
  rw [arunF_toH] at e2
  cases hx : arunF P (Instr.loadAt (loadT (ops.getD i default)) (.pointer (some ⟨b, o, none⟩))) h with
  | none => rw [hx] at e2; cases e2
  | some r =>
    rw [hx] at e2 hv
    obtain ⟨r1, r2⟩ := r
    have e3 : (r1, r2.toH) = (Value.agg row, h.toH) := Option.some.inj e2
    injection e3 with e4 e5
    have e6 := runFI_sound hv
    have e7 : aop P a.toA (ops.getD i default) h.toH = some (.val (.agg row) h.toH) := by
      rw [e6]
      show some (AStep.val r1 r2.toH) = _
      rw [e4, e5]
    exact OT.val _ hi hw e7 hr

def appE (P : Program) (o : Oper) : TypeId := match o.op with
  | .call c => match c.argTypes.toList with
    | t :: _ => match P.underlying t with | some (.slice e) => e | _ => 0
    | _ => 0
  | _ => 0

/-- A row grows. -/
theorem OT.append {ops : Array Oper} {i : Nat} {l : List Nat} {a : FA} {h : FH} {K : FA → FH → Prop} (b n m sz bt : Nat) (cs news : Array Value) (hi : decide (i < ops.size) = true) (hw : Region.wanted (ops.getD i default) (yieldedF ops a) = true)
    (hv : runFI P a.eval (ops.getD i default) h (fi P (ops.getD i default)) = match valsF (match eok P (appE P (ops.getD i default)) with | some (inf, _) => appendToF P (appE P (ops.getD i default)) inf (.slice (some ⟨b, 0, none⟩) n OPEN) m news h | none => none) with | some r => some r | none => flatStepF P a.eval (ops.getD i default) h)
    (he : (eok P (appE P (ops.getD i default))).map (fun r => (r.1.size, r.1.bytes)) = some (sz, bt)) (hg : h.get b = some (.cells cs (appE P (ops.getD i default)) (0, 0))) (hcs : cs.size = n * sz) (hm : 0 < m) (hsz : 0 < sz) (hby : (n + m) * bt ≤ 140737488355328)
    (hr : OT P Γ ops l (a.put (ops.getD i default).dst (.slice (some ⟨h.n, 0, none⟩) (n + m) OPEN)) ((h.set b Abs.tomb).push (.cells (cs ++ news) (appE P (ops.getD i default)))) K) : OT P Γ ops (i :: l) a h K := by
  refine OT.step _ hi hw ?_ hr
  rw [hv]
  cases hq : eok P (appE P (ops.getD i default)) with
  | none => rw [hq] at he; cases he
  | some r =>
    obtain ⟨inf, z⟩ := r
    rw [hq] at he
    have he2 : (inf.size, inf.bytes) = (sz, bt) := Option.some.inj he
    injection he2 with e1 e2
    have key : appendToF P (appE P (ops.getD i default)) inf (.slice (some ⟨b, 0, none⟩) n OPEN) m news h = some (.slice (some ⟨h.n, 0, none⟩) (n + m) OPEN, (h.set b Abs.tomb).push (.cells (cs ++ news) (appE P (ops.getD i default)))) := by
      have hlt : n * sz < (n + m) * sz := Nat.mul_lt_mul_of_pos_right (by omega) hsz
      unfold appendToF
      simp only [if_true, hg, e1, e2, hcs, Nat.zero_add]
      rw [if_neg (by omega), if_pos ⟨by first | trivial | rfl, hby⟩]
      have : cs.extract 0 (n * sz) = cs := by rw [← hcs]; simp
      rw [this]
    show (match valsF (appendToF P (appE P (ops.getD i default)) inf (.slice (some ⟨b, 0, none⟩) n OPEN) m news h) with | some r => some r | none => flatStepF P a.eval (ops.getD i default) h) = _
    rw [key]
    rfl

/-! Rows of structs -/
def rowOf {α : Type} (enc : α → List Value) (xs : List α) : Array Value := ⟨xs.flatMap enc⟩

theorem rowOf_size {α : Type} {enc : α → List Value} {k : Nat} (hk : ∀ x, (enc x).length = k) (xs : List α) : (rowOf enc xs).size = xs.length * k := by
  unfold rowOf
  rw [List.size_toArray]
  induction xs with
  | nil => simp
  | cons x xs ih => rw [List.flatMap_cons, List.length_append, ih, hk, List.length_cons, Nat.add_mul]; omega

theorem rowOf_push {α : Type} (enc : α → List Value) (xs : List α) (x : α) (news : Array Value) (h : news.toList = enc x) : rowOf enc xs ++ news = rowOf enc (xs ++ [x]) := by
  apply Array.ext'
  unfold rowOf
  simp [h]

theorem drop_flat {α : Type} {enc : α → List Value} {k : Nat} (hk : ∀ x, (enc x).length = k) : ∀ (xs : List α) (i : Nat), i ≤ xs.length → (xs.flatMap enc).drop (i * k) = (xs.drop i).flatMap enc := by
  intro xs
  induction xs with
  | nil => intro i hi; simp
  | cons x xs ih =>
    intro i hi
    cases i with
    | zero => simp
    | succ i =>
      rw [List.flatMap_cons, Nat.succ_mul, Nat.add_comm, ← List.drop_drop, List.drop_left' (hk x)]
      exact ih i (by simpa using hi)

theorem rowOf_at {α : Type} {enc : α → List Value} {k : Nat} (hk : ∀ x, (enc x).length = k) (xs : List α) (i : Nat) (x : α) (hx : xs[i]? = some x) : (rowOf enc xs).extract (i * k) (i * k + k) = ⟨enc x⟩ := by
  apply Array.ext'
  unfold rowOf
  have hi := (List.getElem?_eq_some_iff.1 hx).1
  simp only [List.extract_toArray]
  rw [List.extract_eq_take_drop, drop_flat hk xs i (by omega), List.drop_eq_getElem_cons hi, (List.getElem?_eq_some_iff.1 hx).2, List.flatMap_cons]
  have : i * k + k - i * k = k := by omega
  rw [this, List.take_left' (hk x)]

theorem rowOf_cell {α : Type} {enc : α → List Value} {k : Nat} (hk : ∀ x, (enc x).length = k) (xs : List α) (i j : Nat) (x : α) (v : Value) (hx : xs[i]? = some x) (hj : (enc x)[j]? = some v) : (rowOf enc xs).toList[i * k + j]? = some v := by
  unfold rowOf
  have hi := (List.getElem?_eq_some_iff.1 hx).1
  show (xs.flatMap enc)[i * k + j]? = some v
  rw [← List.getElem?_drop, drop_flat hk xs i (by omega), List.drop_eq_getElem_cons hi, (List.getElem?_eq_some_iff.1 hx).2, List.flatMap_cons]
  rw [List.getElem?_append_left (List.getElem?_eq_some_iff.1 hj).1]
  exact hj

theorem getD_some' {α : Type} {xs : List α} {d : α} {i : Nat} (h : i < xs.length) : xs[i]? = some (xs.getD i d) := by
  rw [List.getD_eq_getElem?_getD, List.getElem?_eq_getElem h]; rfl

theorem row_get {α : Type} {enc : α → List Value} {k : Nat} (hk : ∀ x, (enc x).length = k) (xs : List α) (d : α) (i o : Nat) (ho : o = i * k) (h : i < xs.length) : o + k ≤ (rowOf enc xs).size ∧ (rowOf enc xs).extract o (o + k) = ⟨enc (xs.getD i d)⟩ := by
  subst ho
  refine ⟨?_, rowOf_at hk xs i _ (getD_some' h)⟩
  rw [rowOf_size hk, ← Nat.succ_mul]
  exact Nat.mul_le_mul_right _ h

/-- A row of structs grows by one. -/
theorem OT.appendRow {ops : Array Oper} {i : Nat} {l : List Nat} {a : FA} {h : FH} {K : FA → FH → Prop} {α : Type} (enc : α → List Value) (xs : List α) (x : α) (b n sz bt : Nat) (hi : decide (i < ops.size) = true) (hw : Region.wanted (ops.getD i default) (yieldedF ops a) = true)
    (hv : runFI P a.eval (ops.getD i default) h (fi P (ops.getD i default)) = match valsF (match eok P (appE P (ops.getD i default)) with | some (inf, _) => appendToF P (appE P (ops.getD i default)) inf (.slice (some ⟨b, 0, none⟩) n OPEN) 1 ⟨enc x⟩ h | none => none) with | some r => some r | none => flatStepF P a.eval (ops.getD i default) h)
    (he : (eok P (appE P (ops.getD i default))).map (fun r => (r.1.size, r.1.bytes)) = some (sz, bt)) (hg : h.get b = some (.cells (rowOf enc xs) (appE P (ops.getD i default)) (0, 0))) (hk : ∀ x, (enc x).length = sz) (hn : n = xs.length) (hsz : 0 < sz) (hby : (xs.length + 1) * bt ≤ 140737488355328)
    (hr : OT P Γ ops l (a.put (ops.getD i default).dst (.slice (some ⟨h.n, 0, none⟩) (xs ++ [x]).length OPEN)) ((h.set b Abs.tomb).push (.cells (rowOf enc (xs ++ [x])) (appE P (ops.getD i default)))) K) : OT P Γ ops (i :: l) a h K := by
  subst hn
  refine OT.append b xs.length 1 sz bt (rowOf enc xs) ⟨enc x⟩ hi hw hv he hg (rowOf_size hk xs) (by omega) hsz hby ?_
  rw [rowOf_push enc xs x ⟨enc x⟩ rfl]
  rw [List.length_append] at hr
  exact hr

/-- A call by counting. -/
def fV (P : Program) (γ : Known) (orc : CallerF) (n : Nat) (f : FuncId) (args : Array Value) (h : FH) : Value := match evCallF P γ orc n f args h with | some r => r.1 | none => undef
def fH (P : Program) (γ : Known) (orc : CallerF) (n : Nat) (f : FuncId) (args : Array Value) (h : FH) : FH := match evCallF P γ orc n f args h with | some r => r.2 | none => h

theorem FT.evs {γ : Known} (hγ : KnownOk P Γ γ) {orc : CallerF} (hm : P.follows .mixedOrders = true) (ho : CallableF P Γ orc) (n : Nat) {f : FuncId} {args : Array Value} {h : FH} {Q : Value → FH → Prop}
    (hs : (evCallF P γ orc n f args h).isSome = true) (hy : Nat.blt f YB = true) (hq : Q (fV P γ orc n f args h) (fH P γ orc n f args h)) : FT P Γ f args h Q := by
  unfold fV fH at hq
  cases he : evCallF P γ orc n f args h with
  | none => rw [he] at hs; cases hs
  | some r =>
    rw [he] at hq
    rw [blt_iff, decide_eq_true_eq] at hy
    exact FT.ev hγ hm ho n r.1 r.2 he hy hq

end Go.Abs

/-
What a call leaves: what nobody needs is forgotten.
-/
namespace Go.Abs
open Go
variable {P : Program} {Γ : Gl} {ρ : Ren} {α β : Type}

def OldE (σ : Nat → Nat) (h2 h1 : FH) : Nat → Prop
  | 0 => True
  | n + 1 => (σ n = n ∧ look Abs.tomb h2.l n = look Abs.tomb h1.l n) ∧ OldE σ h2 h1 n

theorem OldE.at {σ : Nat → Nat} {h2 h1 : FH} : ∀ {n : Nat}, OldE σ h2 h1 n → ∀ i, i < n → σ i = i ∧ look Abs.tomb h2.l i = look Abs.tomb h1.l i
  | 0, _, i, hi => by omega
  | n + 1, h, i, hi => by
    by_cases e : i = n
    · subst e; exact h.1
    · exact h.2.at i (by omega)

/-- The outcome as it is, and what is told of it. -/
def Tidy (h : FH) (Q : Value → FH → Prop) : Value → FH → Prop := fun v h1 => ∃ (v2 : Value) (h2 : FH) (σ : List Nat) (tags : List Tag), tags.length = h2.n ∧ Nat.ble h.n h2.n = true ∧ OldE (fnL σ) h2 h1 h.n ∧ allLt (fnL σ) h1.n h2.n = true ∧
  injB (fnL σ) h2.n = true ∧ InE (fnL σ) h2 h1 0 tags ∧ plainV v2 = true ∧ underV h2.n v2 = true ∧ v = renV (fnL σ) v2 ∧ Q v2 h2

theorem ACall.tidy {f : FuncId} {args : Array Value} {h h1 h2 : H} {v v2 : Value} {σ : Nat → Nat} (hc : ACall P Γ f args h fun u k => u = v ∧ k = h1) (hsz : h.size ≤ h2.size) (hold : ∀ i, i < h.size → σ i = i ∧ h2[i]? = h1[i]?) (hin : Inside σ h2 h1)
    (hp : plainV v2 = true) (hu : underV h2.size v2 = true) (hv : v = renV σ v2) : ACall P Γ f args h fun u k => u = v2 ∧ k = h2 := by
  intro ρ0 h0 w0 hG ρ args' w hl hs ha
  refine (hc ρ h w (hG.later hl) ρ args' w (.refl _ _ _) hs ha).mono ?_
  rintro e w1 ⟨v', rfl, ρ1, u, k, ⟨rfl, rfl⟩, g2, g3, g4⟩
  subst hv
  have hlt : ∀ i t, ρ i = some t → i < h.size := fun i t ht => by
    cases t with
    | none => exact (Array.getElem?_eq_some_iff.1 (hs.dead i ht)).1
    | some B => exact hs.lt ht
  have hr : ∀ i, i < h.size → rest σ h2.size ρ1 i = ρ1 i := fun i hi => by
    unfold rest
    rw [if_pos (by omega), (hold i hi).1]
  have hlat : Later ρ h w (rest σ h2.size ρ1) h2 w1 := by
    refine ⟨fun i t ht => ?_, hsz, g2.wsize, g2.os, g2.tape, g2.output, fun i hi hn => ?_, g2.frame, fun i B hB => ?_⟩
    · rw [hr i (hlt i t ht)]
      exact g2.le i t ht
    · have := g2.none i hi hn
      rw [hr i hi, (hold i hi).2]
      exact this
    · obtain ⟨hi2, hB⟩ := rest_some hB
      rcases g2.fresh _ _ hB with h3 | h3
      · have h4 := hlt _ _ h3
        have h5 := hin.inj (σ i) i (by omega) hi2 (hold _ h4).1
        rw [h5] at h3
        exact .inl h3
      · exact .inr h3
  exact ⟨v', rfl, _, v2, h2, ⟨rfl, rfl⟩, hl.trans hlat, g3.restrict hin, g4.backV hp hu⟩

theorem FT.tidy {f : FuncId} {args : Array Value} {h : FH} {Q : Value → FH → Prop} (hx : FT P Γ f args h (Tidy h Q)) : FT P Γ f args h Q := by
  obtain ⟨v, h1, h3, v2, h2, σ, tags, a1, a2, a3, a4, a5, a6, a7, a8, a9, a10⟩ := hx
  have hle : h.n ≤ h2.n := Nat.le_of_ble_eq_true a2
  have g1 : ∀ (q : FH) i, i < q.n → q.toH[i]? = some (look Abs.tomb q.l i) := fun q i hi => by rw [FH.get_toH]; unfold FH.get; rw [blt_iff]; simp [hi]
  refine ⟨v2, h2, ACall.tidy (σ := fnL σ) h3 ?_ (fun i hi => ?_) (inside_of a1 a4 a5 a6) a7 ?_ a9, a10⟩
  · rw [FH.size_toH, FH.size_toH]; exact hle
  · rw [FH.size_toH] at hi
    have e1 := a3.at i hi
    have e2 := allLt_at a4 i (by omega)
    rw [e1.1] at e2
    exact ⟨e1.1, by rw [g1 h2 i (by omega), g1 h1 i e2, e1.2]⟩
  · rw [FH.size_toH]; exact a8

end Go.Abs

/-
Loops: what is known at the head, everything else forgotten.
-/
namespace Go.Abs
open Go
variable {P : Program} {Γ : Gl} {ρ : Ren} {α β : Type}

def LiveE (σ : Nat → Nat) (g : Nat) (l : List (Nat × Value)) : List (Nat × Value) → Prop
  | [] => True
  | x :: xs => ((plainV x.2 && underV g x.2) = true ∧ look undef l x.1 = renV σ x.2) ∧ LiveE σ g l xs

theorem LiveE.at {σ : Nat → Nat} {g : Nat} {l : List (Nat × Value)} : ∀ {xs : List (Nat × Value)}, LiveE σ g l xs → ∀ x, x ∈ xs → plainV x.2 = true ∧ underV g x.2 = true ∧ look undef l x.1 = renV σ x.2
  | [], _, x, hx => by cases hx
  | y :: xs, h, x, hx => by
    rcases List.mem_cons.1 hx with rfl | hx
    · have := h.1.1
      rw [Bool.and_eq_true] at this
      exact ⟨this.1, this.2, h.1.2⟩
    · exact h.2.at x hx

/-- A frame and a heap hold what is listed; the rest does not matter. -/
def Neat (n : Nat) (a : FA) (h : FH) (N : Nat) (live : List (Nat × Value)) (hc : FH) : Prop := ∃ (σ : List Nat) (tags : List Tag), tags.length = hc.n ∧ Nat.ble n hc.n = true ∧ OldE (fnL σ) hc h n ∧ allLt (fnL σ) h.n hc.n = true ∧ injB (fnL σ) hc.n = true ∧
  InE (fnL σ) hc h 0 tags ∧ look Abs.tomb hc.l hc.n = Abs.tomb ∧ a.n = N ∧ a.ds = [] ∧ LiveE (fnL σ) hc.n a.l live

theorem CT.neat {c : Code} {a : FA} {h : FH} {Q : Exit → FA → FH → Prop} {n N : Nat} {live : List (Nat × Value)} {hc : FH} (hb : Γ.base = some n) (hn : Neat n a h N live hc)
    (hx : ∀ tail, CT P Γ c ⟨N, live ++ tail, []⟩ ⟨hc.n + 1, hc.l⟩ Q) : CT P Γ c a h Q := by
  obtain ⟨σ, tags, a1, a2, a3, a4, a5, a6, a7, a8, a9, a10⟩ := hn
  have hle : n ≤ hc.n := Nat.le_of_ble_eq_true a2
  refine CT.tidy hb live ⟨hc.n + 1, hc.l⟩ (fnL σ) hc.n a9 rfl a7 hle (fun i hi => a3.at i hi) a5 (fun i hi => ⟨allLt_at a4 i hi, ?_⟩) (fun x hx => a10.at x hx) (by rw [a8]; exact hx)
  have h1 := a6.at i (by omega)
  rw [Nat.zero_add] at h1
  show EIn (fnL σ) hc.n (look Abs.tomb hc.l i) _
  cases ht : tags.getD i .keep with
  | keep => rw [ht] at h1; exact h1.elim
  | flat => rw [ht] at h1; exact .rigid h1.1 h1.2
  | ren =>
    rw [ht] at h1
    have h3 := h1.1
    rw [Bool.and_eq_true] at h3
    exact .ren h3.1 h3.2 h1.2
  | fix =>
    rw [ht] at h1
    have h3 := h1.1.1
    rw [Bool.and_eq_true] at h3
    exact .ren h3.1 h3.2 (h1.2.trans h1.1.2.symm)

/-- **A loop by what holds at its head.** -/
theorem CT.loopT {c : Code} {Q : Exit → FA → FH → Prop} {n : Nat} {S : Type} (μ : S → Nat) (N : Nat) (live : S → List (Nat × Value)) (hc : S → FH) (I : S → Prop) (s : S) {a : FA} {h : FH} (hb : Γ.base = some n)
    (hI : I s) (hN : Neat n a h N (live s) (hc s))
    (hstep : ∀ s, I s → ∀ tail, CT P Γ c ⟨N, live s ++ tail, []⟩ ⟨(hc s).n + 1, (hc s).l⟩ (thenF (fun a h => ∃ s', μ s' < μ s ∧ I s' ∧ Neat n a h N (live s') (hc s')) Q)) : CT P Γ (.loop c) a h Q := by
  have key : ∀ m s, μ s < m → I s → ∀ a h, Neat n a h N (live s) (hc s) → CT P Γ (.loop c) a h Q := by
    intro m
    induction m with
    | zero => intro s hs; omega
    | succ m ih =>
      intro s hs hI a h hN
      refine CT.neat hb hN fun tail => ?_
      refine CT.loop ((hstep s hI tail).mono fun e a h hq => ?_)
      cases e with
      | normal =>
        obtain ⟨s', h1, h2, h3⟩ := hq
        exact ih s' (by omega) h2 a h h3
      | _ => exact hq
  exact key _ s (Nat.lt_succ_self _) hI a h hN

end Go.Abs

/-
Regions that draw their order: what was found is found still while blocks are only added.
-/
namespace Go.Abs
open Go
variable {P : Program} {Γ : Gl} {ρ : Ren} {α β : Type}

def Ext (h h' : H) : Prop := ∀ (i : Nat) (o : Obj), h[i]? = some o → h'[i]? = some o

theorem mild_ext (s : Sem α) (hs : mild P s) {h h' : H} (hx : Ext h h') (a : α) (h1 : H) (hr : arun P s h = some (a, h1)) : arun P s h' = some (a, h') := by
  induction s with
  | pure x => simp only [arun, Option.some.injEq, Prod.mk.injEq] at hr ⊢; exact ⟨hr.1, trivial⟩
  | program k ih => exact ih P hs hr
  | mark m k ih =>
    simp only [arun] at hr ⊢
    split at hr
    · cases hr
    · rename_i hm; rw [if_neg hm]; exact ih hs hr
  | load m ad k ih =>
    simp only [arun] at hr ⊢
    split at hr
    · rename_i hm
      rw [if_pos hm]
      split at hr
      · rename_i v hv
        have : cell? h' ad = some v := by
          unfold cell? at hv ⊢
          split at hv
          · rename_i c e f hg
            rw [hx _ _ hg]
            exact hv
          · cases hv
        simp only [this]
        exact ih _ (hs _) hr
      · cases hr
    · cases hr
  | getObj r k ih =>
    simp only [arun] at hr ⊢
    split at hr
    · rename_i o hg
      rw [hx _ _ hg]
      split at hr
      · rename_i hp
        simp only [hp, if_true]
        exact ih _ (hs _) hr
      · cases hr
    · cases hr
  | store => exact hs.elim
  | new => exact hs.elim
  | setObj => exact hs.elim
  | shape => simp [arun] at hr
  | freeze => simp [arun] at hr
  | frozen => simp [arun] at hr
  | choose => simp [arun] at hr
  | sys => simp [arun] at hr
  | halt => simp [arun] at hr

theorem aslice_ext {t : TypeId} {a : Addr} {n : Nat} {lo hi mx : Option Value} {h h' : H} {v : Value} (hx : Ext h h') (hr : aslice P t a n lo hi mx h = some v) : aslice P t a n lo hi mx h' = some v := by
  unfold aslice at hr ⊢
  split at hr
  · split at hr
    · cases hr
    · split at hr
      · rename_i hg
        rw [hx _ _ hg]
        split at hr
        · rename_i hc
          simp only [if_pos hc]
          split at hr
          · rename_i hb
            rw [mild_ext _ (quiet_mild _ (quiet_sliceBounds _ _ _ _ _ _)) hx _ _ hb]
            exact hr
          · cases hr
        · cases hr
      · cases hr
  · cases hr

theorem aop_ext {a : Act} {o : Oper} {h h1 h' : H} {v : Value} (ht : takes o = true) (hnc : ∀ c, o.op ≠ .call c) (hx : Ext h h') (hr : aop P a o h = some (.val v h1)) : aop P a o h' = some (.val v h') := by
  by_cases hk : asks o = true
  case neg => exact aop_still ht (by simpa using hk) hr h'
  have key : ∀ {s : Sem Value} {v : Value}, mild P s → vals (arun P s h) = some (.val v h1) → vals (arun P s h') = some (.val v h') := by
    intro s v hs hr
    unfold vals at hr ⊢
    simp only [Option.map_eq_some_iff] at hr
    obtain ⟨⟨u, h2⟩, hr2, e⟩ := hr
    cases e
    rw [mild_ext s hs hx _ _ hr2]
    rfl
  unfold aop at hr ⊢
  split at hr
  · rename_i hok
    rw [if_pos hok]
    unfold takes at ht
    unfold asks at hk
    generalize o.op = op at *
    cases op <;> first | (simp at ht; done) | (simp at hk; done) | skip
    case build t ps =>
      dsimp only at hr ⊢
      split at hr
      · rename_i hz
        rw [if_pos hz]
        exact key (quiet_mild _ (quiet_build _ _)) hr
      · cases hr
    case load => exact key (mild_loadAt _ _) hr
    case slice t x lo hi mx =>
      dsimp only at hr ⊢
      split at hr
      · rename_i hz
        rw [if_pos hz]
        split at hr
        · rename_i e
          split at hr
          · rename_i hc
            rw [if_pos hc]
            simp only [Option.map_eq_some_iff] at hr
            obtain ⟨u, e1, e2⟩ := hr
            cases e2
            rw [aslice_ext hx e1]
            rfl
          · rename_i hc
            rw [if_neg hc]
            exact key (quiet_mild _ (quiet_slice _ _ _ _ _)) hr
        · exact key (quiet_mild _ (quiet_slice _ _ _ _ _)) hr
      · cases hr
    case lookup t x k ok =>
      dsimp only at hr ⊢
      split at hr
      · rename_i hz
        rw [if_pos hz]
        exact key (mild_lookup _ _ _ _) hr
      · cases hr
    case call c => exact absurd rfl (hnc c)
  · cases hr

/-- What asks nothing but what stays. -/
def extOk (P : Program) (a : FA) (o : Oper) : Bool := match o.op with
  | .call _ => match fi P o with | .len x => (match a.eval x with | .slice _ _ _ => true | _ => false) | _ => false
  | _ => true

theorem aopF_ext {a : FA} {o : Oper} {h h' : FH} {h1 : H} {v : Value} (ht : takes o = true) (he : extOk P a o = true) (hx : Ext h.toH h'.toH) (hr : aop P a.toA o h.toH = some (.val v h1)) : aop P a.toA o h'.toH = some (.val v h'.toH) := by
  unfold extOk at he
  split at he
  · split at he
    · rename_i x hfi
      split at he
      · rename_i ad n c hs
        have key : ∀ k : FH, aop P a.toA o k.toH = some (.val (.int .i64 n) k.toH) := fun k => runFI_sound (r := .val (.int .i64 n) k) (by rw [hfi]; unfold runFI; simp only [hs])
        rw [key h] at hr
        cases hr
        exact key h'
      · cases he
    · cases he
  · rename_i hno
    exact aop_ext ht (fun c hc => hno c hc) hx hr

/-! Facts that hold -/
def FactsAt (P : Program) (ops : Array Oper) (F : List FactF) (h : FH) : Prop := ∀ f ∈ F, takes f.o = true ∧ (extOk P f.a f.o = true ∨ Region.wanted f.o (yieldedF ops f.a) = false) ∧ (f.prop P ops).2 h.toH

theorem FactsAt.ext {ops : Array Oper} {F : List FactF} {h h' : FH} (hF : FactsAt P ops F h) (hx : Ext h.toH h'.toH) : FactsAt P ops F h' := fun f hf => by
  obtain ⟨h1, h2, h3⟩ := hF f hf
  refine ⟨h1, h2, ?_⟩
  rcases h3 with ⟨h4, h5⟩ | h4
  · rcases h2 with h2 | h2
    · exact .inl ⟨h4, aopF_ext h1 h2 hx h5⟩
    · exfalso
      have h4' : Region.wanted f.o (yielded ops f.a.toA.tmps) = true := h4
      rw [yieldedF_toA, h2] at h4'
      cases h4'
  · exact .inr h4

def DX (P : Program) (Γ : Gl) (ops : Array Oper) (L : List (Nat × Bool)) (F : List FactF) (a : FA) (h : FH) (K : FA → FH → Prop) : Prop :=
  FactsAt P ops F h → ∃ (a1 : FA) (h1 : FH), DPlan P Γ ops (fun a' h' => a' = a1.toA ∧ h' = h1.toH) L (F.map (FactF.prop P ops)) a.toA h.toH ∧ K a1 h1

theorem CT.planX {ops : Array Oper} {id : Nat} {a : FA} {h : FH} {Q : Exit → FA → FH → Prop} (hm : P.follows .mixedOrders = true) (L : List (Nat × Bool)) (hL : L.length = ops.size) (hfw : forward ops = true)
    (hp : planned ops L [] (Array.replicate ops.size false) = true) (hd : DX P Γ ops L [] a h (fun a h => Q .normal a h)) : CT P Γ (.region id ops true) a h Q := by
  obtain ⟨a1, h1, h2, h3⟩ := hd fun f hf => by cases hf
  exact ⟨.normal, a1, h1, ACode.plan hm L hL hfw hp (DPlan.mono (fun a h hh => ⟨rfl, hh⟩) _ _ _ _ h2), h3⟩

theorem DX.nil {ops : Array Oper} {F : List FactF} {a : FA} {h : FH} {K : FA → FH → Prop} (hk : K a h) : DX P Γ ops [] F a h K := fun _ => ⟨a, h, ⟨rfl, rfl⟩, hk⟩

def addF (ops : Array Oper) (i : Nat) (v : Value) (a : FA) (F : List FactF) : List FactF := match asks (ops.getD i default) with
  | true => ⟨i, ops.getD i default, v, a⟩ :: F
  | false => F

/-- An operation taken early, by what it finds. -/
theorem DX.takeA {ops : Array Oper} {i : Nat} {m : List (Nat × Bool)} {F : List FactF} {a : FA} {h : FH} {K : FA → FH → Prop} (v : Value) (hi : decide (i < ops.size) = true) (hw : Region.wanted (ops.getD i default) (yieldedF ops a) = true)
    (ht : takes (ops.getD i default) = true) (he : extOk P a (ops.getD i default) = true) (hv : aop P a.toA (ops.getD i default) h.toH = some (.val v h.toH))
    (hk : DX P Γ ops m (addF ops i v a F) (a.put (ops.getD i default).dst v) h K) : DX P Γ ops ((i, true) :: m) F a h K := by
  intro hF
  have hfind : Finds P ops (ops.getD i default) v a.toA h.toH := .inl ⟨wantF hw, hv⟩
  obtain ⟨a2, h2, h3, h4⟩ := hk (by
    unfold addF
    cases asks (ops.getD i default) with
    | false => exact hF
    | true =>
      intro f hf
      rcases List.mem_cons.1 hf with rfl | hf
      · exact ⟨ht, .inl he, hfind⟩
      · exact hF f hf)
  refine ⟨a2, h2, ?_, h4⟩
  rw [FA.put_toA] at h3
  unfold DPlan
  simp only [getD_some hi, if_true, ht]
  refine ⟨v, hfind, ?_⟩
  unfold addF at h3
  cases hk : asks (ops.getD i default) with
  | false => rw [hk] at h3; exact h3
  | true => rw [hk] at h3; exact h3

theorem DX.take {ops : Array Oper} {i : Nat} {m : List (Nat × Bool)} {F : List FactF} {a : FA} {h h1 : FH} {K : FA → FH → Prop} (v : Value) (hi : decide (i < ops.size) = true) (hw : Region.wanted (ops.getD i default) (yieldedF ops a) = true)
    (ht : takes (ops.getD i default) = true) (he : extOk P a (ops.getD i default) = true) (hv : runFI P a.eval (ops.getD i default) h (fi P (ops.getD i default)) = some (.val v h1))
    (hk : DX P Γ ops m (addF ops i v a F) (a.put (ops.getD i default).dst v) h K) : DX P Γ ops ((i, true) :: m) F a h K :=
  DX.takeA v hi hw ht he (aop_takes ht (runFI_sound hv)) hk

/-- New memory. -/
theorem DX.new {ops : Array Oper} {i : Nat} {m : List (Nat × Bool)} {F : List FactF} {a : FA} {h h1 : FH} {K : FA → FH → Prop} (v : Value) (hi : decide (i < ops.size) = true) (hw : Region.wanted (ops.getD i default) (yieldedF ops a) = true)
    (hn : news (ops.getD i default) = true) (ht : takes (ops.getD i default) = false) (hv : runFI P a.eval (ops.getD i default) h (fi P (ops.getD i default)) = some (.val v h1)) (hb : ((h1.get h.n)).any (belowO h.n) = true)
    (hk : DX P Γ ops m F (a.put (ops.getD i default).dst v) h1 K) : DX P Γ ops ((i, true) :: m) F a h K := by
  intro hF
  have hv2 := runFI_sound hv
  obtain ⟨ob, e1, _⟩ := aop_news hn hv2
  have hx : Ext h.toH h1.toH := by
    intro j o hj
    show (FStep.cv (.val v h1) |> fun _ => h1.toH)[j]? = some o
    have e1' : h1.toH = h.toH.push ob := e1
    rw [show (FStep.cv (.val v h1) |> fun _ => h1.toH) = h1.toH from rfl, e1', Array.getElem?_push]
    have hlt := (Array.getElem?_eq_some_iff.1 hj).1
    rw [if_neg (by omega)]
    exact hj
  have hF1 := hF.ext hx
  obtain ⟨a2, h2, h3, h4⟩ := hk hF1
  refine ⟨a2, h2, ?_, h4⟩
  rw [FA.put_toA] at h3
  unfold DPlan
  simp only [getD_some hi, if_true, ht, Bool.false_eq_true, if_false, wantF hw]
  refine ⟨v, h1.toH, hv2, ?_, fun x hx => ?_, h3⟩
  · rw [FH.size_toH, FH.get_toH]; exact hb
  · obtain ⟨f, hf, rfl⟩ := List.mem_map.1 hx
    exact (hF1 f hf).2.2

/-- An operation that is not wanted. -/
theorem DX.skip {ops : Array Oper} {i : Nat} {e : Bool} {m : List (Nat × Bool)} {F : List FactF} {a : FA} {h : FH} {K : FA → FH → Prop} (hi : decide (i < ops.size) = true) (hw : Region.wanted (ops.getD i default) (yieldedF ops a) = false)
    (hk : DX P Γ ops m (match e, takes (ops.getD i default) with | true, true => addF ops i undef a F | true, false => F | false, _ => F.filter fun f => !waits ops i f.i) (a.put (ops.getD i default).dst undef) h K) : DX P Γ ops ((i, e) :: m) F a h K := by
  intro hF
  have hw2 : Region.wanted (ops.getD i default) (yielded ops a.toA.tmps) = false := by rw [yieldedF_toA]; exact hw
  have hfind : Finds P ops (ops.getD i default) undef a.toA h.toH := .inr ⟨hw2, rfl⟩
  have sub : FactsAt P ops (F.filter fun f => !waits ops i f.i) h := fun f hf => hF f (List.mem_filter.1 hf).1
  cases e with
  | true =>
    cases ht : takes (ops.getD i default) with
    | true =>
      rw [ht] at hk
      obtain ⟨a2, h2, h3, h4⟩ := hk (by
        show FactsAt P ops (addF ops i undef a F) h
        unfold addF
        cases asks (ops.getD i default) with
        | false => exact hF
        | true =>
          intro f hf
          rcases List.mem_cons.1 hf with rfl | hf
          · exact ⟨ht, .inr hw, hfind⟩
          · exact hF f hf)
      refine ⟨a2, h2, ?_, h4⟩
      rw [FA.put_toA] at h3
      unfold DPlan
      simp only [getD_some hi, if_true, ht]
      refine ⟨undef, hfind, ?_⟩
      have h3' : DPlan P Γ ops (fun a' h' => a' = a2.toA ∧ h' = h2.toH) m ((addF ops i undef a F).map (FactF.prop P ops)) (a.toA.put (ops.getD i default).dst undef) h.toH := h3
      unfold addF at h3'
      cases hk : asks (ops.getD i default) with
      | false => rw [hk] at h3'; exact h3'
      | true => rw [hk] at h3'; exact h3'
    | false =>
      rw [ht] at hk
      obtain ⟨a2, h2, h3, h4⟩ := hk hF
      refine ⟨a2, h2, ?_, h4⟩
      rw [FA.put_toA] at h3
      unfold DPlan
      simp only [getD_some hi, if_true, ht, Bool.false_eq_true, if_false, hw2]
      exact h3
  | false =>
    obtain ⟨a2, h2, h3, h4⟩ := hk sub
    refine ⟨a2, h2, ?_, h4⟩
    rw [FA.put_toA] at h3
    unfold DPlan
    simp only [getD_some hi, Bool.false_eq_true, if_false]
    unfold AOp
    simp only [getD_some hi, hw2, Bool.false_eq_true, if_false]
    rw [keeps_factsF]
    refine ⟨fun x hx => ?_, h3⟩
    obtain ⟨f, hf, rfl⟩ := List.mem_map.1 hx
    exact (sub f hf).2.2

end Go.Abs

/-
Regions that draw their order: steps by counting, calls by contracts, guards that are not known.
-/
namespace Go.Abs
open Go
variable {P : Program} {Γ : Gl} {ρ : Ren} {α β : Type}

theorem runFI_idx {a : FA} {h : FH} {o : Oper} (x y : Operand) (sz b of_ : Nat) (n c : Nat) (k : IntKind) (m : Int) (hfi : fi P o = .idx x y sz) (ex : a.eval x = .slice (some ⟨b, of_, none⟩) n c) (ey : a.eval y = .int k m) (h0 : 0 ≤ m) (hm : m < n) :
    runFI P a.eval o h (fi P o) = some (.val (.pointer (some ⟨b, of_ + m.toNat * sz, none⟩)) h) := by
  rw [hfi]
  unfold runFI
  simp only [ex, ey]
  obtain ⟨m', rfl⟩ := Int.eq_ofNat_of_zero_le h0
  have : Nat.blt m' n = true := by rw [blt_iff]; simp; omega
  show (match Nat.blt m' n with | true => some (FStep.val (.pointer (some ((⟨b, of_, none⟩ : Addr).add (m' * sz)))) h) | false => _) = _
  rw [this, add_spot rfl]
  rfl

theorem DX.idxF {ops : Array Oper} {i : Nat} {l : List (Nat × Bool)} {F : List FactF} {a : FA} {h : FH} {K : FA → FH → Prop} (x y : Operand) (sz : Nat) (b o : Nat) (n c : Nat) (k : IntKind) (m : Int) (hi : decide (i < ops.size) = true) (hw : Region.wanted (ops.getD i default) (yieldedF ops a) = true)
    (hfi : fi P (ops.getD i default) = .idx x y sz) (ex : a.eval x = .slice (some ⟨b, o, none⟩) n c) (ey : a.eval y = .int k m) (h0 : 0 ≤ m) (hm : m < n) (ht : takes (ops.getD i default) = true) (he : extOk P a (ops.getD i default) = true)
    (hr : DX P Γ ops l (addF ops i (.pointer (some ⟨b, o + m.toNat * sz, none⟩)) a F) (a.put (ops.getD i default).dst (.pointer (some ⟨b, o + m.toNat * sz, none⟩))) h K) : DX P Γ ops ((i, true) :: l) F a h K :=
  DX.take _ hi hw ht he (runFI_idx x y sz b o n c k m hfi ex ey h0 hm) hr

theorem DX.loadF {ops : Array Oper} {i : Nat} {l : List (Nat × Bool)} {F : List FactF} {a : FA} {h : FH} {K : FA → FH → Prop} (x : Operand) (ad : Addr) (v : Value) (hi : decide (i < ops.size) = true) (hw : Region.wanted (ops.getD i default) (yieldedF ops a) = true)
    (hfi : fi P (ops.getD i default) = .load x) (ex : a.eval x = .pointer (some ad)) (hc : cellF? h ad = some v) (ht : takes (ops.getD i default) = true) (he : extOk P a (ops.getD i default) = true)
    (hr : DX P Γ ops l (addF ops i v a F) (a.put (ops.getD i default).dst v) h K) : DX P Γ ops ((i, true) :: l) F a h K := by
  refine DX.take (h1 := h) v hi hw ht he ?_ hr
  rw [hfi]
  unfold runFI
  simp only [ex, hc]

/-- A struct is read from a row. -/
theorem DX.loadS {ops : Array Oper} {i : Nat} {l : List (Nat × Bool)} {F : List FactF} {a : FA} {h : FH} {K : FA → FH → Prop} (b o k : Nat) (cs row : Array Value) (hi : decide (i < ops.size) = true) (hw : Region.wanted (ops.getD i default) (yieldedF ops a) = true)
    (hv : runFI P a.eval (ops.getD i default) h (fi P (ops.getD i default)) = valsF (arunF P (Instr.loadAt (loadT (ops.getD i default)) (.pointer (some ⟨b, o, none⟩))) h))
    (ha : aggT P (loadT (ops.getD i default)) = true) (hk : (P.info? (loadT (ops.getD i default))).map (·.size) = some k) (e : TypeId) (f : Nat × Nat) (hg : h.get b = some (.cells cs e f)) (hn : o + k ≤ cs.size) (hrow : cs.extract o (o + k) = row)
    (ht : takes (ops.getD i default) = true) (he : extOk P a (ops.getD i default) = true)
    (hr : DX P Γ ops l (addF ops i (.agg row) a F) (a.put (ops.getD i default).dst (.agg row)) h K) : DX P Γ ops ((i, true) :: l) F a h K := by
  have e2 := arun_loadAt_row (o := o) ha hk ((FH.get_toH h b).trans hg) hn hrow
  rw [arunF_toH] at e2
  cases hx : arunF P (Instr.loadAt (loadT (ops.getD i default)) (.pointer (some ⟨b, o, none⟩))) h with
  | none => rw [hx] at e2; cases e2
  | some r =>
    rw [hx] at e2 hv
    obtain ⟨r1, r2⟩ := r
    have e3 : (r1, r2.toH) = (Value.agg row, h.toH) := Option.some.inj e2
    injection e3 with e4 e5
    have e6 := runFI_sound hv
    have e7 : aop P a.toA (ops.getD i default) h.toH = some (.val (.agg row) h.toH) := by
      rw [e6]
      show some (AStep.val r1 r2.toH) = _
      rw [e4, e5]
    exact DX.takeA _ hi hw ht he e7 hr

/-- One that is alone, by counting; nothing was found before that it could change. -/
theorem DX.alone {ops : Array Oper} {i : Nat} {m : List (Nat × Bool)} {F : List FactF} {a : FA} {h h1 : FH} {K : FA → FH → Prop} (v : Value) (hi : decide (i < ops.size) = true) (hw : Region.wanted (ops.getD i default) (yieldedF ops a) = true)
    (hv : runFI P a.eval (ops.getD i default) h (fi P (ops.getD i default)) = some (.val v h1)) (hF : (F.filter fun f => !waits ops i f.i) = []) (hk : DX P Γ ops m [] (a.put (ops.getD i default).dst v) h1 K) : DX P Γ ops ((i, false) :: m) F a h K := by
  intro _
  obtain ⟨a2, h2, h3, h4⟩ := hk fun f hf => by cases hf
  refine ⟨a2, h2, ?_, h4⟩
  rw [FA.put_toA] at h3
  unfold DPlan
  simp only [getD_some hi, Bool.false_eq_true, if_false]
  unfold AOp
  simp only [getD_some hi, wantF hw, if_true]
  refine .inl ⟨v, h1.toH, runFI_sound hv, ?_⟩
  rw [keeps_factsF, hF]
  exact ⟨fun x hx => (by cases hx), h3⟩

/-- What an operation finds now. -/
def gotF (P : Program) (ops : Array Oper) (f : FactF) (h : FH) : Option Value := match Region.wanted f.o (yieldedF ops f.a) with
  | true => match runFI P f.a.eval f.o h (fi P f.o) with | some (.val v _) => some v | _ => none
  | false => some f.v

theorem gotF_at {ops : Array Oper} {F : List FactF} {h h2 : FH} (hF : FactsAt P ops F h) (he : (F.map fun f => some f.v) = F.map (gotF P ops · h2)) : FactsAt P ops F h2 := fun f hf => by
  obtain ⟨h1, h3, h4⟩ := hF f hf
  refine ⟨h1, h3, ?_⟩
  have hg : some f.v = gotF P ops f h2 := (List.map_inj_left.1 he) f hf
  unfold gotF at hg
  split at hg
  · rename_i hw
    split at hg
    · rename_i v k hv
      cases hg
      exact .inl ⟨by rw [show f.toF.a.tmps = f.a.toA.tmps from rfl, yieldedF_toA]; exact hw, aop_takes h1 (runFI_sound hv)⟩
    · cases hg
  · rename_i hw
    rcases h4 with ⟨h5, _⟩ | h5
    · exfalso
      have h5' : Region.wanted f.o (yielded ops f.a.toA.tmps) = true := h5
      rw [yieldedF_toA, hw] at h5'
      cases h5'
    · exact .inr h5

/-- A call that is alone, by its contract. -/
theorem DX.callX {ops : Array Oper} {i : Nat} {m : List (Nat × Bool)} {F : List FactF} {a : FA} {h : FH} {K : FA → FH → Prop} {R : Value → FH → Prop} (f : FuncId) (args : Array Value) (hi : decide (i < ops.size) = true) (hw : Region.wanted (ops.getD i default) (yieldedF ops a) = true)
    (hv : runFI P a.eval (ops.getD i default) h (fi P (ops.getD i default)) = some (.enter f args h)) (hc : FT P Γ f args h R)
    (hr : ∀ v h2, R v h2 → (Ext h.toH h2.toH ∨ (F.filter fun f => !waits ops i f.i) = [] ∨ ((F.filter fun f => !waits ops i f.i).map fun f => some f.v) = (F.filter fun f => !waits ops i f.i).map (gotF P ops · h2)) ∧
      DX P Γ ops m (F.filter fun f => !waits ops i f.i) (a.put (ops.getD i default).dst v) h2 K) :
    DX P Γ ops ((i, false) :: m) F a h K := by
  intro hF
  obtain ⟨v, h2, h3, h4⟩ := hc
  obtain ⟨hx, hk⟩ := hr v h2 h4
  have sub : FactsAt P ops (F.filter fun f => !waits ops i f.i) h2 := by
    rcases hx with hx | hx | hx
    · exact FactsAt.ext (fun f hf => hF f (List.mem_filter.1 hf).1) hx
    · rw [hx]; exact fun f hf => by cases hf
    · exact gotF_at (h := h) (fun f hf => hF f (List.mem_filter.1 hf).1) hx
  obtain ⟨a1, h5, h6, h7⟩ := hk sub
  refine ⟨a1, h5, ?_, h7⟩
  rw [FA.put_toA] at h6
  unfold DPlan
  simp only [getD_some hi, Bool.false_eq_true, if_false]
  unfold AOp
  simp only [getD_some hi, wantF hw, if_true]
  refine .inr ⟨f, args, h.toH, _, runFI_sound hv, h3, fun u k ⟨e1, e2⟩ => ?_⟩
  subst e1; subst e2
  rw [keeps_factsF]
  refine ⟨fun x hx => ?_, h6⟩
  obtain ⟨g, hg, rfl⟩ := List.mem_map.1 hx
  exact (sub g hg).2.2

def keepL : List Tag → Bool
  | [] => true
  | .keep :: l => keepL l
  | _ :: _ => false

theorem backL_keep {σ τ : Nat → Nat} {hc1 : FH} : ∀ {t : List Tag} {k : Nat}, keepL t = true → backL σ τ hc1 k t = []
  | [], _, _ => rfl
  | x :: t, k, h => by
    cases x with
    | keep => exact backL_keep (t := t) h
    | _ => cases h

theorem back_ext {σ : Nat → Nat} {hc h hc1 : FH} {t u : List Tag} (ht : keepL t = true) : Ext h.toH (back σ hc h hc1 t u).toH := by
  intro i o hi
  have hlt : i < h.n := by
    have := (Array.getElem?_eq_some_iff.1 hi).1
    rwa [FH.size_toH] at this
  rw [FH.get_toH] at hi ⊢
  unfold FH.get at hi ⊢
  rw [blt_iff] at hi ⊢
  have h2 : i < (back σ hc h hc1 t u).n := by show i < h.n + u.length; omega
  simp only [hlt, h2, decide_true] at hi ⊢
  rw [← hi]
  congr 1
  unfold back
  rw [backL_keep (t := t) ht]
  exact backL_rest _ _ _ u hc.n fun i h1 h2 => by omega

theorem DX.callE {ops : Array Oper} {i : Nat} {m : List (Nat × Bool)} {F : List FactF} {a : FA} {h : FH} {K : FA → FH → Prop} {f : FuncId} {argsc : Array Value} {hc : FH} {R : Value → FH → Prop} (σ : List Nat) (bs : List Tag) (hx : FT P Γ f argsc hc R)
    (hi : decide (i < ops.size) = true) (hw : Region.wanted (ops.getD i default) (yieldedF ops a) = true) (hv : runFI P a.eval (ops.getD i default) h (fi P (ops.getD i default)) = some (.enter f ⟨argsc.toList.map (renV (fnL σ))⟩ h))
    (hl : bs.length = hc.n) (hs : allLt (fnL σ) h.n hc.n = true) (hj : injB (fnL σ) hc.n = true) (hin : InE (fnL σ) hc h 0 bs) (hp : argsc.toList.all plainV = true) (hu : argsc.toList.all (underV hc.n) = true)
    (hk : ∀ vc hc1, R vc hc1 → ∃ t u, t.length = hc.n ∧ hc1.n = hc.n + u.length ∧ someL u = true ∧ BackE (out (fnL σ) hc.n h.n) hc hc1 0 t ∧ BackE (out (fnL σ) hc.n h.n) hc hc1 hc.n u ∧ plainV vc = true ∧
      (((keepL t || (F.filter fun f => !waits ops i f.i).isEmpty) = true ∨ ((F.filter fun f => !waits ops i f.i).map fun f => some f.v) = (F.filter fun f => !waits ops i f.i).map (gotF P ops · (back (fnL σ) hc h hc1 t u))) ∧
        DX P Γ ops m (F.filter fun f => !waits ops i f.i) (a.put (ops.getD i default).dst (renV (out (fnL σ) hc.n h.n) vc)) (back (fnL σ) hc h hc1 t u) K)) : DX P Γ ops ((i, false) :: m) F a h K :=
  DX.callX f _ hi hw hv (FT.embedL (Q := fun v h2 => (Ext h.toH h2.toH ∨ (F.filter fun f => !waits ops i f.i) = [] ∨ ((F.filter fun f => !waits ops i f.i).map fun f => some f.v) = (F.filter fun f => !waits ops i f.i).map (gotF P ops · h2)) ∧ DX P Γ ops m (F.filter fun f => !waits ops i f.i) (a.put (ops.getD i default).dst v) h2 K) σ bs hx hl hs hj hin hp hu fun vc hc1 hr => by
    obtain ⟨t, u, h1, h2, h3, h4, h5, h6, h7, h8⟩ := hk vc hc1 hr
    refine ⟨t, u, h1, h2, h3, h4, h5, h6, ?_, h8⟩
    rw [Bool.or_eq_true] at h7
    rcases h7 with (h7 | h7) | h7
    · exact .inl (back_ext h7)
    · exact .inr (.inl (by simpa using h7))
    · exact .inr (.inr h7)) fun _ _ hr => hr

/-! By counting -/
def evPartX (P : Program) (ops : Array Oper) : List (Nat × Bool) → List FactF → FA → FH → Option (FA × FH × List FactF)
  | [], F, a, h => some (a, h, F)
  | (i, e) :: L, F, a, h =>
    if decide (i < ops.size) = true then
      match Region.wanted (ops.getD i default) (yieldedF ops a) with
      | true =>
        match runFI P a.eval (ops.getD i default) h (fi P (ops.getD i default)) with
        | some (.val v h1) =>
          match e with
          | true =>
            match takes (ops.getD i default) with
            | true => match extOk P a (ops.getD i default) with
              | true => evPartX P ops L (addF ops i v a F) (a.put (ops.getD i default).dst v) h
              | false => none
            | false => match news (ops.getD i default) && ((h1.get h.n)).any (belowO h.n) with
              | true => evPartX P ops L F (a.put (ops.getD i default).dst v) h1
              | false => none
          | false => match F.filter fun f => !waits ops i f.i with
            | [] => evPartX P ops L [] (a.put (ops.getD i default).dst v) h1
            | _ => none
        | _ => none
      | false => evPartX P ops L (match e, takes (ops.getD i default) with | true, true => addF ops i undef a F | true, false => F | false, _ => F.filter fun f => !waits ops i f.i) (a.put (ops.getD i default).dst undef) h
    else none

theorem evPartX_sound {ops : Array Oper} : ∀ (L L2 : List (Nat × Bool)) (F F1 : List FactF) (a a1 : FA) (h h1 : FH) (K : FA → FH → Prop), evPartX P ops L F a h = some (a1, h1, F1) → DX P Γ ops L2 F1 a1 h1 K → DX P Γ ops (L ++ L2) F a h K := by
  intro L
  induction L with
  | nil => intro L2 F F1 a a1 h h1 K he hk; cases he; exact hk
  | cons x L ih =>
    obtain ⟨i, e⟩ := x
    intro L2 F F1 a a1 h h1 K he hk
    rw [List.cons_append]
    unfold evPartX at he
    split at he
    · rename_i hi
      split at he
      · rename_i hw
        split at he
        · rename_i v h2 hv
          split at he
          · split at he
            · rename_i ht
              split at he
              · rename_i hx
                exact DX.take v hi hw ht hx hv (ih _ _ _ _ _ _ _ _ he hk)
              · cases he
            · rename_i ht
              split at he
              · rename_i hn
                rw [Bool.and_eq_true] at hn
                exact DX.new v hi hw hn.1 ht hv hn.2 (ih _ _ _ _ _ _ _ _ he hk)
              · cases he
          · split at he
            · rename_i hF
              exact DX.alone v hi hw hv hF (ih _ _ _ _ _ _ _ _ he hk)
            · cases he
        · cases he
      · rename_i hw
        exact DX.skip hi hw (ih _ _ _ _ _ _ _ _ he hk)
    · cases he

def xA (P : Program) (ops : Array Oper) (l : List (Nat × Bool)) (F : List FactF) (a : FA) (h : FH) : FA := match evPartX P ops l F a h with | some r => r.1 | none => a
def xH (P : Program) (ops : Array Oper) (l : List (Nat × Bool)) (F : List FactF) (a : FA) (h : FH) : FH := match evPartX P ops l F a h with | some r => r.2.1 | none => h
def xF (P : Program) (ops : Array Oper) (l : List (Nat × Bool)) (F : List FactF) (a : FA) (h : FH) : List FactF := match evPartX P ops l F a h with | some r => r.2.2 | none => []

theorem DX.evs {ops : Array Oper} (l m : List (Nat × Bool)) {F : List FactF} {a : FA} {h : FH} {K : FA → FH → Prop} (hs : (evPartX P ops l F a h).isSome = true)
    (hk : DX P Γ ops m (xF P ops l F a h) (xA P ops l F a h) (xH P ops l F a h) K) : DX P Γ ops (l ++ m) F a h K := by
  cases he : evPartX P ops l F a h with
  | none => rw [he] at hs; cases hs
  | some r =>
    obtain ⟨a1, h1, F1⟩ := r
    unfold xA xH xF at hk
    rw [he] at hk
    exact evPartX_sound _ _ _ _ _ _ _ _ _ he hk

/-! Guards and values that are not known -/
theorem put_same {a : FA} {t : Tmp} {v : Value} (h : a.eval (.tmp t) = v) : (a.put (some t) v).toA = a.toA := by
  rw [FA.put_toA]
  rw [← FA.eval_toA] at h
  subst h
  show ({ a.toA with tmps := a.toA.tmps.setIfInBounds t (a.toA.tmps.getD t undef) } : Act) = a.toA
  have : a.toA.tmps.setIfInBounds t (a.toA.tmps.getD t undef) = a.toA.tmps := by
    apply Array.ext_getElem?
    intro i
    rw [Array.getElem?_setIfInBounds]
    by_cases e : t = i
    · subst e
      simp only [if_true]
      by_cases hlt : t < a.toA.tmps.size
      · rw [if_pos hlt]; simp [Array.getD, hlt]
      · rw [if_neg hlt]; exact (Array.getElem?_eq_none (Nat.le_of_not_lt hlt)).symm
    · rw [if_neg e]
  rw [this]

theorem OT.boolAt {ops : Array Oper} {l : List Nat} {a : FA} {h : FH} {K : FA → FH → Prop} (t : Tmp) (b : Bool) (he : a.eval (.tmp t) = .bool b) (h1 : b = true → OT P Γ ops l (a.put (some t) (.bool true)) h K) (h2 : b = false → OT P Γ ops l (a.put (some t) (.bool false)) h K) : OT P Γ ops l a h K := by
  cases b with
  | true => have := h1 rfl; unfold OT at this ⊢; rw [put_same he] at this; exact this
  | false => have := h2 rfl; unfold OT at this ⊢; rw [put_same he] at this; exact this

theorem OT.boolD {ops : Array Oper} {l : List Nat} {a : FA} {h : FH} {K : FA → FH → Prop} (t : Tmp) (p : Prop) [Decidable p] (he : a.eval (.tmp t) = .bool (decide p)) (h1 : p → OT P Γ ops l (a.put (some t) (.bool true)) h K) (h2 : ¬ p → OT P Γ ops l (a.put (some t) (.bool false)) h K) : OT P Γ ops l a h K :=
  OT.boolAt t (decide p) he (fun h => h1 (of_decide_eq_true h)) (fun h => h2 (of_decide_eq_false h))

theorem DX.boolAt {ops : Array Oper} {l : List (Nat × Bool)} {F : List FactF} {a : FA} {h : FH} {K : FA → FH → Prop} (t : Tmp) (b : Bool) (he : a.eval (.tmp t) = .bool b) (h1 : b = true → DX P Γ ops l F (a.put (some t) (.bool true)) h K) (h2 : b = false → DX P Γ ops l F (a.put (some t) (.bool false)) h K) : DX P Γ ops l F a h K := by
  cases b with
  | true => have := h1 rfl; unfold DX at this ⊢; rw [put_same he] at this; exact this
  | false => have := h2 rfl; unfold DX at this ⊢; rw [put_same he] at this; exact this

theorem DX.boolD {ops : Array Oper} {l : List (Nat × Bool)} {F : List FactF} {a : FA} {h : FH} {K : FA → FH → Prop} (t : Tmp) (p : Prop) [Decidable p] (he : a.eval (.tmp t) = .bool (decide p)) (h1 : p → DX P Γ ops l F (a.put (some t) (.bool true)) h K) (h2 : ¬ p → DX P Γ ops l F (a.put (some t) (.bool false)) h K) : DX P Γ ops l F a h K :=
  DX.boolAt t (decide p) he (fun h => h1 (of_decide_eq_true h)) (fun h => h2 (of_decide_eq_false h))

end Go.Abs

/-
Equality of structs whose cells are not known.
-/
namespace Go.Abs
open Go
variable {P : Program} {Γ : Gl} {ρ : Ren} {α β : Type}

theorem prun_bind' (s : Sem α) (f : α → Sem β) : prun P (s.bind f) = (prun P s).bind fun a => prun P (f a) := by
  induction s with
  | pure a => rfl
  | program k ih => exact ih P
  | mark m k ih =>
    show (if m = .noRoom then none else prun P (k.bind f)) = _
    by_cases h : m = .noRoom
    · rw [if_pos h]
      show _ = (if m = .noRoom then none else prun P k).bind _
      rw [if_pos h]; rfl
    · rw [if_neg h, ih]
      show _ = (if m = .noRoom then none else prun P k).bind _
      rw [if_neg h]
  | _ => rfl

theorem prun_bind (s : Sem α) (f : α → Sem β) : prun P (s >>= f) = (prun P s).bind fun a => prun P (f a) := prun_bind' s f
theorem prun_pure (a : α) : prun P (Pure.pure a : Sem α) = some a := rfl
theorem prun_underlying (t : TypeId) : prun P (Go.underlying t) = P.underlying t := by
  unfold Go.underlying
  rw [prun_bind]
  show prun P (match P.underlying t with | some d => Pure.pure d | none => stuck "no such type") = _
  cases P.underlying t <;> rfl

def eqFs (P : Program) (eq : TypeId → Value → Value → Option Bool) (xs ys : Array Value) : List Field → Option Bool
  | [] => some true
  | f :: fs => if f.name ≠ "_" then
      match prun P (Go.part f.type xs f.offset) with
      | some u => match prun P (Go.part f.type ys f.offset) with
        | some v => match eq f.type u v with
          | some b => match eqFs P eq xs ys fs with
            | some c => some (b && c)
            | none => none
          | none => none
        | none => none
      | none => none
    else eqFs P eq xs ys fs

def eqB (P : Program) : Nat → TypeId → Value → Value → Option Bool
  | 0, _, _, _ => none
  | d + 1, t, x, y => match P.underlying t with
    | some .bool => match x with
      | .bool a => match y with | .bool b => some (a == b) | _ => none
      | _ => none
    | some (.int _) => match x with
      | .int k a => match y with | .int k' b => if k = k' then some (a == b) else none | _ => none
      | _ => none
    | some .string => match x with
      | .string a => match y with | .string b => some (a == b) | _ => none
      | _ => none
    | some (.struct fields) => match x with
      | .agg xs => match y with
        | .agg ys => if P.stoodInHeld t = true then none else eqFs P (eqB P d) xs ys fields.toList
        | _ => none
      | _ => none
    | _ => none

theorem prun_equalIn : ∀ (d : Nat) (t : TypeId) (x y : Value) (b : Bool), eqB P d t x y = some b → prun P (Op.equalIn d t x y) = some b := by
  intro d
  induction d with
  | zero => intro t x y b h; cases h
  | succ d ih =>
    intro t x y b h
    unfold eqB at h
    unfold Op.equalIn
    rw [prun_bind, prun_underlying]
    split at h
    · rename_i hu
      rw [hu]
      split at h <;> first | cases h; done | skip
      split at h <;> first | cases h; done | skip
      exact h
    · rename_i hu
      rw [hu]
      split at h <;> first | cases h; done | skip
      split at h <;> first | cases h; done | skip
      split at h
      · rename_i hk
        subst hk
        simp only [Option.bind_some, if_true]
        exact h
      · cases h
    · rename_i hu
      rw [hu]
      split at h <;> first | cases h; done | skip
      split at h <;> first | cases h; done | skip
      exact h
    · rename_i fields hu
      rw [hu]
      split at h <;> first | cases h; done | skip
      split at h <;> first | cases h; done | skip
      split at h
      · cases h
      · rename_i xs _ ys hs
        simp only [Option.bind_some]
        rw [prun_bind]
        show prun P (if P.stoodInHeld t = true then _ else _) = some b
        rw [if_neg (by simpa using hs)]
        rw [← Array.forIn_toList, prun_bind]
        have key : ∀ (fs : List Field) (c : Bool), eqFs P (eqB P d) xs ys fs = some c → prun P (forIn fs ((none : Option Bool), ()) fun f __s =>
            if f.name ≠ "_" then do
              let __do_lift ← Go.part f.type xs f.offset
              let __do_lift_1 ← Go.part f.type ys f.offset
              let __do_lift ← Op.equalIn d f.type __do_lift __do_lift_1
              if (!__do_lift) = true then Pure.pure (ForInStep.done (some false, ())) else Pure.pure (ForInStep.yield (none, ()))
            else Pure.pure (ForInStep.yield (none, ()))) = some (match c with | true => (none, ()) | false => (some false, ())) := by
          intro fs
          induction fs with
          | nil => intro c hc; cases hc; rfl
          | cons f fs ih2 =>
            intro c hc
            unfold eqFs at hc
            rw [List.forIn_cons, prun_bind]
            by_cases hn : f.name ≠ "_"
            · rw [if_pos hn] at hc ⊢
              rw [prun_bind]
              split at hc <;> first | cases hc; done | skip
              rename_i u hu1
              split at hc <;> first | cases hc; done | skip
              rename_i v hv1
              split at hc <;> first | cases hc; done | skip
              rename_i b1 hb1
              split at hc <;> first | cases hc; done | skip
              rename_i b2 hb2
              rw [hu1]
              simp only [Option.bind_some]
              rw [prun_bind, hv1]
              simp only [Option.bind_some]
              rw [prun_bind, ih _ _ _ _ hb1]
              simp only [Option.bind_some]
              cases hc
              cases b1 with
              | false => rfl
              | true =>
                show prun P (forIn fs ((none : Option Bool), ()) _) = _
                rw [ih2 _ hb2]
                cases b2 <;> rfl
            · rw [if_neg hn] at hc ⊢
              show prun P (forIn fs ((none : Option Bool), ()) _) = _
              exact ih2 _ hc
        rw [key _ _ h]
        cases b <;> rfl
    · cases h

def eqOp (ne : Bool) : BinOp := match ne with | true => .neq | false => .eql
def eqRes (ne b : Bool) : Bool := match ne with | true => !b | false => b

theorem prun_eqS {op : BinOp} {t : TypeId} {x y : Operand} {xs ys : Array Value} {b : Bool} (ne : Bool) (hop : op = eqOp ne) (hg : P.eqGuardType P.depth t = false) (hb : eqB P Op.maxDepth t (.agg xs) (.agg ys) = some b) :
    prun P (do eqGuard op t x y (.agg xs) (.agg ys); binOp op t (.agg xs) (.agg ys)) = some (.bool (eqRes ne b)) := by
  subst hop
  have hguard : prun P (eqGuard (eqOp ne) t x y (.agg xs) (.agg ys)) = some () := by
    have : eqGuard (eqOp ne) t x y (.agg xs) (.agg ys) = (do
        if !(← Go.program).eqGuardType (← Go.program).depth t then return
        if ← Op.eqGuardIn Op.maxDepth t (.agg xs) (.agg ys) then unsupported (.noEntry "binop/eql: two nil values of an interface type with methods, in a part of a struct or an array")) := by cases ne <;> rfl
    rw [this]
    show prun P (if (!P.eqGuardType P.depth t) = true then _ else _) = _
    rw [hg]
    rfl
  rw [prun_bind, hguard, Option.bind_some]
  have he : prun P (Op.equal t (.agg xs) (.agg ys)) = some b := prun_equalIn _ _ _ _ _ hb
  cases ne with
  | false =>
    show prun P (do Pure.pure (Value.bool (← Op.equal t (.agg xs) (.agg ys)))) = _
    rw [prun_bind, he]; rfl
  | true =>
    show prun P (do Pure.pure (Value.bool (!(← Op.equal t (.agg xs) (.agg ys))))) = _
    rw [prun_bind, he]; rfl

/-- Two structs are compared. -/
theorem aop_eqS {a : Act} {o : Oper} {h : H} {t ty : TypeId} {x y : Operand} {xs ys : Array Value} {b : Bool} (ne : Bool) (hop : o.op = .binOp (eqOp ne) t x y ty) (hx : okOperand x = true) (hy : okOperand y = true)
    (ex : a.eval x = .agg xs) (ey : a.eval y = .agg ys) (hf : (flat (.agg xs) && flat (.agg ys)) = true) (hg : P.eqGuardType P.depth t = false) (hb : eqB P Op.maxDepth t (.agg xs) (.agg ys) = some b) :
    aop P a o h = some (.val (.bool (eqRes ne b)) h) := by
  rw [Bool.and_eq_true] at hf
  obtain ⟨dst, op, type, pos, after, guard⟩ := o
  cases hop
  have hrun : prun P (execOp a.eval ⟨dst, .binOp (eqOp ne) t x y ty, type, pos, after, guard⟩) = some (.value (.bool (eqRes ne b))) := by
    show prun P (do let v ← (do eqGuard (eqOp ne) t x y (a.eval x) (a.eval y); binOp (eqOp ne) t (a.eval x) (a.eval y)); Pure.pure (Next.value v)) = _
    rw [ex, ey, prun_bind, prun_eqS ne rfl hg hb]
    rfl
  unfold aop
  have hall : ((Op.binOp (eqOp ne) t x y ty).operands.all okOperand) = true := by simp [Op.operands, hx, hy]
  dsimp only
  rw [if_pos hall, ex, ey]
  rw [if_neg (by rintro ⟨h1, _⟩; cases h1)]
  unfold flatStep
  have hfl : (((Op.binOp (eqOp ne) t x y ty).operands.toList.all fun x => flat (a.eval x))) = true := by simp [Op.operands, ex, ey, hf.1, hf.2]
  dsimp only
  have hfl2 : ((Op.binOp (eqOp ne) t x y ty).operands.all fun x => flat (a.eval x)) = true := by simp [Op.operands, ex, ey, hf.1, hf.2]
  rw [if_pos hfl2, hrun]
  rfl

def eqT (o : Oper) : TypeId := match o.op with | .binOp _ t _ _ _ => t | _ => 0
def eqNe (o : Oper) : Bool := match o.op with | .binOp .neq _ _ _ _ => true | _ => false
def eqIs (o : Oper) : Bool := match o.op with | .binOp .neq _ x y _ => okOperand x && okOperand y | .binOp .eql _ x y _ => okOperand x && okOperand y | _ => false
def eqX (a : FA) (o : Oper) : Value := match o.op with | .binOp _ _ x _ _ => a.eval x | _ => undef
def eqY (a : FA) (o : Oper) : Value := match o.op with | .binOp _ _ _ y _ => a.eval y | _ => undef

theorem aop_eqF {a : FA} {o : Oper} {h : H} {xs ys : Array Value} {b : Bool} (hi : eqIs o = true) (ex : eqX a o = .agg xs) (ey : eqY a o = .agg ys) (hf : (flat (.agg xs) && flat (.agg ys)) = true) (hg : P.eqGuardType P.depth (eqT o) = false) (hb : eqB P Op.maxDepth (eqT o) (.agg xs) (.agg ys) = some b) :
    aop P a.toA o h = some (.val (.bool (eqRes (eqNe o) b)) h) := by
  obtain ⟨dst, op, type, pos, after, guard⟩ := o
  cases op <;> first | (simp [eqIs] at hi; done) | skip
  rename_i op t x y ty
  cases op <;> first | (simp [eqIs] at hi; done) | skip
  all_goals
    have hi2 : (okOperand x && okOperand y) = true := hi
    rw [Bool.and_eq_true] at hi2
  · exact aop_eqS (ty := ty) false rfl hi2.1 hi2.2 (by rw [FA.eval_toA]; exact ex) (by rw [FA.eval_toA]; exact ey) hf hg hb
  · exact aop_eqS (ty := ty) true rfl hi2.1 hi2.2 (by rw [FA.eval_toA]; exact ex) (by rw [FA.eval_toA]; exact ey) hf hg hb

theorem OT.eqF {ops : Array Oper} {i : Nat} {l : List Nat} {a : FA} {h : FH} {K : FA → FH → Prop} (xs ys : Array Value) (b ne : Bool) (hi : decide (i < ops.size) = true) (hw : Region.wanted (ops.getD i default) (yieldedF ops a) = true)
    (hq : eqIs (ops.getD i default) = true) (ex : eqX a (ops.getD i default) = .agg xs) (ey : eqY a (ops.getD i default) = .agg ys) (hf : (flat (.agg xs) && flat (.agg ys)) = true) (hg : P.eqGuardType P.depth (eqT (ops.getD i default)) = false)
    (hb : eqB P Op.maxDepth (eqT (ops.getD i default)) (.agg xs) (.agg ys) = some b) (hne : eqNe (ops.getD i default) = ne) (hr : OT P Γ ops l (a.put (ops.getD i default).dst (.bool (eqRes ne b))) h K) : OT P Γ ops (i :: l) a h K :=
  OT.val _ hi hw (aop_eqF hq ex ey hf hg hb) (by rw [hne]; exact hr)

theorem DX.eqF {ops : Array Oper} {i : Nat} {l : List (Nat × Bool)} {F : List FactF} {a : FA} {h : FH} {K : FA → FH → Prop} (xs ys : Array Value) (b ne : Bool) (hi : decide (i < ops.size) = true) (hw : Region.wanted (ops.getD i default) (yieldedF ops a) = true)
    (hq : eqIs (ops.getD i default) = true) (ex : eqX a (ops.getD i default) = .agg xs) (ey : eqY a (ops.getD i default) = .agg ys) (hf : (flat (.agg xs) && flat (.agg ys)) = true) (hg : P.eqGuardType P.depth (eqT (ops.getD i default)) = false)
    (hb : eqB P Op.maxDepth (eqT (ops.getD i default)) (.agg xs) (.agg ys) = some b) (hne : eqNe (ops.getD i default) = ne) (ht : takes (ops.getD i default) = true) (he : extOk P a (ops.getD i default) = true)
    (hr : DX P Γ ops l (addF ops i (.bool (eqRes ne b)) a F) (a.put (ops.getD i default).dst (.bool (eqRes ne b))) h K) : DX P Γ ops ((i, true) :: l) F a h K :=
  DX.takeA _ hi hw ht he (by rw [← hne]; exact aop_eqF hq ex ey hf hg hb) hr

end Go.Abs
