/-
The abstract heap: what one step of memory does to both worlds.
-/
import Derived.Test.YtgeoihombkjgnaaGreatDoorBwAbsA
namespace Go.Abs
open Go
variable {P : Program}

theorem ObjRel.mono {ρ ρ' : Ren} {B : Blk} {o o' : Obj} (hl : Ren.Le ρ ρ') (h : ObjRel P ρ B o o') : ObjRel P ρ' B o o' := by
  unfold ObjRel at *
  split at h
  · obtain ⟨h1, h2, h3, h4, h5, h6, h7⟩ := h
    exact ⟨h1, h2, h3, h4, fun j v v' hv hv' => (h5 j v v' hv hv').mono hl, h6, h7⟩
  · obtain ⟨h1, h2, h3, h4, h5⟩ := h
    exact ⟨h1, h2, h3, h4, fun j m m' hm hm' => ⟨(h5 j m m' hm hm').1, (h5 j m m' hm hm').2.1, (h5 j m m' hm hm').2.2.1.mono hl, (h5 j m m' hm hm').2.2.2⟩⟩
  · exact h
  · exact ⟨h.1, h.2.1, h.2.2.1, h.2.2.2.1, h.2.2.2.2.1.mono hl, h.2.2.2.2.2⟩
  · exact h
  · exact h.elim

theorem ObjRel.not_tomb {ρ : Ren} {B : Blk} {o' : Obj} (h : ObjRel P ρ B tomb o') : False := by
  unfold ObjRel tomb at h
  split at h <;> simp_all

theorem Sim.lt {ρ : Ren} {h : H} {w : World} (hs : Sim P ρ h w) {i : Nat} {t : Option Blk} (hi : ρ i = some t) : i < h.size := by
  cases t with
  | none => exact (Array.getElem?_eq_some_iff.1 (hs.dead i hi)).1
  | some B =>
    obtain ⟨o, o', ho, _⟩ := hs.live i B hi
    exact (Array.getElem?_eq_some_iff.1 ho).1

theorem Sim.wlt {ρ : Ren} {h : H} {w : World} (hs : Sim P ρ h w) {i : Nat} {B : Blk} (hi : ρ i = some (some B)) : B.b < w.heap.size := by
  obtain ⟨o, o', _, ho, _⟩ := hs.live i B hi
  exact (Array.getElem?_eq_some_iff.1 ho).1

theorem Sim.fresh {ρ : Ren} {h : H} {w : World} (hs : Sim P ρ h w) : ρ h.size = none := by
  cases hi : ρ h.size with
  | none => rfl
  | some t => exact absurd (hs.lt hi) (Nat.lt_irrefl _)

def Ren.set (ρ : Ren) (i : Nat) (t : Option Blk) : Ren := fun j => if j = i then some t else ρ j

theorem Ren.set_same (ρ : Ren) (i : Nat) (t : Option Blk) : ρ.set i t i = some t := by simp [Ren.set]
theorem Ren.set_ne (ρ : Ren) {i j : Nat} (t : Option Blk) (h : j ≠ i) : ρ.set i t j = ρ j := by simp [Ren.set, h]
theorem Ren.le_set {ρ : Ren} {i : Nat} {t : Option Blk} (h : ρ i = none) : Ren.Le ρ (ρ.set i t) := fun j u hj => by
  by_cases e : j = i
  · subst e; rw [h] at hj; cases hj
  · rw [Ren.set_ne _ _ e]; exact .inl hj

theorem Sim.cell {ρ : Ren} {h : H} {w : World} (hs : Sim P ρ h w) {a a' : Addr} {v : Value} (ha : ARel ρ a a') (hv : cell? h a = some v) :
    ∃ v', w.cell? a' = some v' ∧ VRel P ρ v v' ∧ v.oneCell' = true := by
  obtain ⟨hsp, hd | ⟨B, hB, rfl⟩⟩ := ha
  · simp only [cell?, hs.dead _ hd, tomb] at hv; cases hv
  · obtain ⟨o, o', ho, ho', hr⟩ := hs.live _ _ hB
    simp only [cell?, ho] at hv
    unfold ObjRel at hr
    split at hr
    · rename_i c e f c' e' f'
      obtain ⟨_, _, h3, h4, h5, h6, _⟩ := hr
      simp [hsp] at hv
      have hlt := (Array.getElem?_eq_some_iff.1 hv).1
      have hlt' : a.off + B.s < c'.size := by omega
      refine ⟨c'[a.off + B.s], ?_, h5 _ _ _ hv (Array.getElem?_eq_getElem hlt'), h6 _ _ hv⟩
      simp [World.cell?, ho', hlt']
    · simp at hv
    · simp at hv
    · simp at hv
    · simp at hv
    · exact hr.elim

theorem VRel.oneCell {ρ : Ren} {v v' : Value} (h : VRel P ρ v v') : v'.oneCell' = v.oneCell' := by
  cases h <;> rfl

theorem frozen_tame {w : World} {b o : Nat} {c : Array Value} {e : TypeId} {f : Nat × Nat} (h : w.heap[b]? = some (.cells c e f)) (ht : tame c.size f) (ho : o < c.size) : w.frozen? ⟨b, o, none⟩ = false := by
  obtain ⟨lo, hi⟩ := f
  rcases ht with ht | ht
  · cases ht; simp [World.frozen?, h]
  · simp only at ht
    have : ¬ lo ≤ o := by omega
    simp [World.frozen?, h, this]

theorem Sim.setCell {ρ : Ren} {h : H} {w : World} (hs : Sim P ρ h w) {a a' : Addr} {v v' : Value} (ha : ARel ρ a a') (hf : free h a = true)
    (hv : VRel P ρ v v') (h1 : v.oneCell' = true) :
    (∃ u, w.cell? a' = some u) ∧ w.frozen? a' = false ∧ Sim P ρ (Abs.setCell h a v) (w.setCell a' v') ∧ Later ρ h w ρ (Abs.setCell h a v) (w.setCell a' v') := by
  obtain ⟨hsp, hd | ⟨B, hB, rfl⟩⟩ := ha
  · simp only [free, hs.dead _ hd, tomb] at hf; cases hf
  · obtain ⟨o, o', ho, ho', hr⟩ := hs.live _ _ hB
    simp only [free, ho] at hf
    have hr0 := hr
    unfold ObjRel at hr
    split at hr
    · rename_i c e f c' e' f'
      obtain ⟨he, he', h3, h4, h5, h6, h7⟩ := hr
      obtain ⟨lo, hi⟩ := f
      simp only [Bool.and_eq_true, decide_eq_true_eq, beq_iff_eq] at hf
      obtain ⟨⟨⟨_, hoff⟩, hlo⟩, hhi⟩ := hf
      subst hlo; subst hhi
      have hro : B.ro = false := by
        cases hb : B.ro
        · rfl
        · simp [hb] at h7; omega
      simp only [hro] at h7
      obtain ⟨_, hf', hz⟩ := h7
      have hlt' : a.off + B.s < c'.size := by omega
      refine ⟨⟨c'[a.off + B.s], by simp [World.cell?, ho', hlt']⟩, frozen_tame ho' (by rw [h3]; exact hf') hlt', ?_, ?_⟩
      · have hh : (Abs.setCell h a v)[a.block]? = some (.cells (c.setIfInBounds a.off v) e (0, 0)) := by
          simp [Abs.setCell, Array.getElem?_modify, ho]
        have hhne : ∀ j, j ≠ a.block → (Abs.setCell h a v)[j]? = h[j]? := fun j hj => by
          simp [Abs.setCell, Array.getElem?_modify, Ne.symm hj]
        have hw : (w.setCell ⟨B.b, a.off + B.s, none⟩ v').heap[B.b]? = some (.cells (c'.setIfInBounds (a.off + B.s) v') e' f') := by
          simp [World.setCell, Array.getElem?_modify, ho']
        have hwne : ∀ j, j ≠ B.b → (w.setCell ⟨B.b, a.off + B.s, none⟩ v').heap[j]? = w.heap[j]? := fun j hj => by
          simp [World.setCell, Array.getElem?_modify, Ne.symm hj]
        refine ⟨?_, ?_, hs.one⟩
        · intro i C hC
          by_cases hi : i = a.block
          · subst hi
            rw [hB] at hC; cases hC
            refine ⟨_, _, hh, hw, he, he', by simpa using h3, by simpa using h4, ?_, ?_, ?_⟩
            · intro j x x' hx hx'
              by_cases hj : j = a.off
              · subst hj
                simp only [Array.getElem?_setIfInBounds_self, hoff, hlt'] at hx hx'
                simp only [if_true, Option.some.injEq] at hx hx'
                rw [← hx, ← hx']; exact hv
              · rw [Array.getElem?_setIfInBounds_ne (Ne.symm hj)] at hx
                rw [Array.getElem?_setIfInBounds_ne (by omega)] at hx'
                exact h5 _ _ _ hx hx'
            · intro j x hx
              by_cases hj : j = a.off
              · subst hj
                simp only [Array.getElem?_setIfInBounds_self, hoff] at hx
                simp only [if_true, Option.some.injEq] at hx
                rw [← hx]; exact h1
              · rw [Array.getElem?_setIfInBounds_ne (Ne.symm hj)] at hx
                exact h6 _ _ hx
            · simp only [hro, Bool.false_eq_true, if_false, Array.size_setIfInBounds]
              refine ⟨trivial, hf', fun z i hzz hi => ?_⟩
              rw [Array.getElem?_setIfInBounds_ne (by omega)]
              exact hz z i hzz hi
          · obtain ⟨o2, o2', q1, q2, q3⟩ := hs.live i C hC
            have : C.b ≠ B.b := fun e => hi (hs.one _ _ _ _ hC hB e)
            exact ⟨o2, o2', (hhne i hi).trans q1, (hwne _ this).trans q2, q3⟩
        · intro i hi
          have : i ≠ a.block := fun e => by subst e; rw [hB] at hi; cases hi
          exact (hhne i this).trans (hs.dead i hi)
      · refine ⟨.refl ρ, by simp [Abs.setCell], by simp [World.setCell], rfl, rfl, rfl, ?_, ?_, fun _ _ hB => .inl hB⟩
        · intro i _ hn
          have : i ≠ a.block := fun e => by subst e; rw [hB] at hn; cases hn
          exact ⟨hn, by simp [Abs.setCell, Array.getElem?_modify, Ne.symm this]⟩
        · intro b _ hno
          have : b ≠ B.b := fun e => hno _ B hB hro e.symm
          simp [World.setCell, Array.getElem?_modify, Ne.symm this]
    · simp at hf
    · simp at hf
    · simp at hf
    · simp at hf
    · exact hr.elim

/-- A block more on both sides. -/
theorem Sim.push {ρ : Ren} {h : H} {w : World} (hs : Sim P ρ h w) (o o' : Obj) (B : Blk) (hb : B.b = w.heap.size)
    (hr : ObjRel P (ρ.set h.size (some B)) B o o') :
    Sim P (ρ.set h.size (some B)) (h.push o) (w.alloc o') ∧ Later ρ h w (ρ.set h.size (some B)) (h.push o) (w.alloc o') := by
  have hf := hs.fresh
  have hle : Ren.Le ρ (ρ.set h.size (some B)) := Ren.le_set hf
  refine ⟨⟨?_, ?_, ?_⟩, hle, by simp, by show _ ≤ (w.heap.push o').size; simp, rfl, rfl, rfl, ?_, ?_, ?_⟩
  · intro i C hC
    by_cases hi : i = h.size
    · subst hi
      rw [Ren.set_same] at hC; cases hC
      exact ⟨o, o', by simp, by show (w.heap.push o')[B.b]? = _; rw [hb]; simp, hr⟩
    · rw [Ren.set_ne _ _ hi] at hC
      obtain ⟨o2, o2', q1, q2, q3⟩ := hs.live i C hC
      have l1 := (Array.getElem?_eq_some_iff.1 q1).1
      have l2 := (Array.getElem?_eq_some_iff.1 q2).1
      refine ⟨o2, o2', ?_, ?_, q3.mono hle⟩
      · rw [Array.getElem?_push, if_neg hi]; exact q1
      · show (w.heap.push o')[C.b]? = _; rw [Array.getElem?_push, if_neg (by omega)]; exact q2
  · intro i hi
    by_cases e : i = h.size
    · subst e; rw [Ren.set_same] at hi; cases hi
    · rw [Ren.set_ne _ _ e] at hi
      rw [Array.getElem?_push, if_neg e]; exact hs.dead i hi
  · intro i j C D hC hD hCD
    by_cases hi : i = h.size
    · by_cases hj : j = h.size
      · rw [hi, hj]
      · subst hi
        rw [Ren.set_same] at hC; cases hC
        rw [Ren.set_ne _ _ hj] at hD
        have := hs.wlt hD
        omega
    · rw [Ren.set_ne _ _ hi] at hC
      by_cases hj : j = h.size
      · subst hj
        rw [Ren.set_same] at hD; cases hD
        have := hs.wlt hC
        omega
      · rw [Ren.set_ne _ _ hj] at hD
        exact hs.one i j C D hC hD hCD
  · intro i hi hn
    rw [Ren.set_ne _ _ (by omega)]
    exact ⟨hn, by rw [Array.getElem?_push, if_neg (by omega)]⟩
  · intro b hb' _
    show (w.heap.push o')[b]? = _
    rw [Array.getElem?_push, if_neg (by omega)]
  · intro i C hC
    by_cases hi : i = h.size
    · subst hi; rw [Ren.set_same] at hC; cases hC
      exact .inr (.inl (by omega))
    · rw [Ren.set_ne _ _ hi] at hC; exact .inl hC

/-- A row of cells more. -/
theorem Sim.pushCells {ρ : Ren} {h : H} {w : World} (hs : Sim P ρ h w) (c c' : Array Value) (e : TypeId) (hc : RRel P ρ c c') (h1 : c.all Value.oneCell' = true) :
    ∃ ρ', ρ' h.size = some (some ⟨w.heap.size, 0, false, e, c.size⟩) ∧ Sim P ρ' (h.push (.cells c e)) (w.alloc (.cells c' e)) ∧ Later ρ h w ρ' (h.push (.cells c e)) (w.alloc (.cells c' e)) := by
  refine ⟨ρ.set h.size (some ⟨w.heap.size, 0, false, e, c.size⟩), Ren.set_same _ _ _, hs.push _ _ ⟨w.heap.size, 0, false, e, c.size⟩ rfl ?_⟩
  refine ⟨rfl, rfl, hc.1.symm, by simp, ?_, ?_, ?_⟩
  · intro j v v' hv hv'
    exact (hc.2 j v v' hv hv').mono (Ren.le_set hs.fresh)
  · intro j v hv
    obtain ⟨hlt, rfl⟩ := Array.getElem?_eq_some_iff.1 hv
    exact (Array.all_eq_true.1 h1) j hlt
  · exact ⟨rfl, .inl rfl, fun z i _ hi => absurd hi (by simp)⟩

/-- A block that is no cells, set anew. -/
theorem Sim.setObj {ρ : Ren} {h : H} {w : World} (hs : Sim P ρ h w) {r : Nat} {B : Blk} {o o' : Obj} (hB : ρ r = some (some B)) (hro : B.ro = false) (hr : ObjRel P ρ B o o') :
    Sim P ρ (h.setIfInBounds r o) { w with heap := w.heap.setIfInBounds B.b o' } ∧ Later ρ h w ρ (h.setIfInBounds r o) { w with heap := w.heap.setIfInBounds B.b o' } := by
  have hlt := hs.lt hB
  have hwlt := hs.wlt hB
  refine ⟨⟨?_, ?_, hs.one⟩, .refl ρ, by simp, by simp, rfl, rfl, rfl, ?_, ?_, fun _ _ hB => .inl hB⟩
  · intro i C hC
    by_cases hi : i = r
    · subst hi
      rw [hB] at hC; cases hC
      exact ⟨o, o', by simp [hlt], by simp [hwlt], hr⟩
    · obtain ⟨o2, o2', q1, q2, q3⟩ := hs.live i C hC
      have : C.b ≠ B.b := fun e => hi (hs.one _ _ _ _ hC hB e)
      exact ⟨o2, o2', by rw [Array.getElem?_setIfInBounds_ne (Ne.symm hi)]; exact q1, by
        show (w.heap.setIfInBounds B.b o')[C.b]? = _
        rw [Array.getElem?_setIfInBounds_ne (Ne.symm this)]; exact q2, q3⟩
  · intro i hi
    have : i ≠ r := fun e => by subst e; rw [hB] at hi; cases hi
    rw [Array.getElem?_setIfInBounds_ne (Ne.symm this)]; exact hs.dead i hi
  · intro i _ hn
    have : i ≠ r := fun e => by subst e; rw [hB] at hn; cases hn
    exact ⟨hn, by rw [Array.getElem?_setIfInBounds_ne (Ne.symm this)]⟩
  · intro b _ hno
    have : b ≠ B.b := fun e => hno _ B hB hro e.symm
    show (w.heap.setIfInBounds B.b o')[b]? = _
    rw [Array.getElem?_setIfInBounds_ne (Ne.symm this)]

theorem Sim.cellsAt {ρ : Ren} {h : H} {w : World} (hs : Sim P ρ h w) {i : Nat} {B : Blk} {c : Array Value} {e : TypeId} {f : Nat × Nat} (hB : ρ i = some (some B)) (hc : h[i]? = some (.cells c e f)) :
    ∃ c' f', w.heap[B.b]? = some (.cells c' B.e f') ∧ ObjRel P ρ B (.cells c e f) (.cells c' B.e f') ∧ e = B.e ∧ c'.size = B.nc ∧ c.size + B.s ≤ B.nc := by
  obtain ⟨o, o', q1, q2, q3⟩ := hs.live _ _ hB
  rw [hc] at q1
  cases q1
  have q4 := q3
  unfold ObjRel at q3
  cases o' with
  | cells c' e' f' =>
    obtain ⟨he, he', hs', hf, _⟩ := q3
    subst he'
    exact ⟨c', f', q2, q4, he, hs', hf⟩
  | _ => exact q3.elim

/-- The draws do not count. -/
theorem Sim.drew {ρ : Ren} {h : H} {w : World} (hs : Sim P ρ h w) (n : Nat) : Sim P ρ h { w with drawn := n } := ⟨hs.live, hs.dead, hs.one⟩
theorem Later.drew (ρ : Ren) (h : H) (w : World) (n : Nat) : Later ρ h w ρ h { w with drawn := n } :=
  ⟨.refl ρ, Nat.le_refl _, Nat.le_refl _, rfl, rfl, rfl, fun _ _ hn => ⟨hn, rfl⟩, fun _ _ _ => rfl, fun _ _ hB => .inl hB⟩

end Go.Abs
