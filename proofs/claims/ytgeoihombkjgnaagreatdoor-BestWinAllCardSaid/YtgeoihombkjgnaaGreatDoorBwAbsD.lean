/-
The abstract heap: the instructions, one by one.
-/
import Derived.Test.YtgeoihombkjgnaaGreatDoorBwAbsC
namespace Go.Abs
open Go
variable {P : Program} {ρ : Ren}

theorem SR.sureAddr {v v' : Value} (hv : VRel P ρ v v') : SR P ρ (fun ρ a a' => ARel ρ a a') (Instr.sureAddr v) (Instr.sureAddr v') := by
  cases hv <;> first | exact SR.stuck | skip
  rename_i a a' h
  exact SR.pure fun _ hl => h.mono hl

theorem SV.loadAt {v v' : Value} (t : TypeId) (hv : VRel P ρ v v') : SV P ρ (Instr.loadAt t v) (Instr.loadAt t v') := by
  unfold Instr.loadAt
  exact SR.bind (SR.sureAddr hv) fun ρ1 a a' _ ha => SV.loadVar ha t

theorem SR.storeAt {v v' u u' : Value} (t : TypeId) (hv : VRel P ρ v v') (hu : VRel P ρ u u') : SR P ρ (fun _ _ _ => True) (Instr.storeAt t v u) (Instr.storeAt t v' u') := by
  unfold Instr.storeAt
  exact SR.bind (SR.sureAddr hv) fun ρ1 a a' hl ha => SR.storeVar ha (hu.mono hl) t

theorem SR.fieldPlace {a a' : Addr} (ha : ARel ρ a a') (f : Field) : SR P ρ (fun ρ a a' => ARel ρ a a') (Go.fieldPlace a f) (Go.fieldPlace a' f) := by
  unfold Go.fieldPlace
  refine SR.bind (SR.sizeOf f.type) fun ρ1 n n' hl hn => ?_
  obtain ⟨rfl, _⟩ := hn
  split
  · refine SR.fail fun h0 => ?_
    unfold Go.partAt Go.byteOf
    simp
  · exact SR.pure fun _ hl2 => ((ha.mono hl).mono hl2).add _

theorem SV.fieldAt {v v' : Value} (s : TypeId) (i : Nat) (hv : VRel P ρ v v') : SV P ρ (Instr.fieldAt s v i) (Instr.fieldAt s v' i) := by
  unfold Instr.fieldAt
  refine SR.bind (SR.underlying s) fun ρ1 d d' hl hd => ?_
  obtain ⟨rfl, _⟩ := hd
  split
  · split
    · refine SR.bind (SR.sureAddr (hv.mono hl)) fun ρ2 a a' hl2 ha => ?_
      refine SR.bind (SR.fieldPlace ha _) fun ρ3 b b' hl3 hb => ?_
      exact SR.pure fun _ hl4 => .ptr (hb.mono hl4)
    · exact SR.stuck
  · exact SR.stuck

theorem SR.asIntOf {v v' : Value} (hv : VRel P ρ v v') : SR P ρ (fun _ a b => a = b) (Go.asIntOf v) (Go.asIntOf v') := by
  cases hv <;> first | exact SR.stuck | exact SR.unsupported | exact SR.pure fun _ _ => rfl

theorem SR.boundsPanic {α β : Type} {R : Ren → α → β → Prop} {k : IntKind} {x y : Int} {c : BoundsCode} {s' : Sem β} : SR P ρ R (Go.boundsPanic k x y c : Sem α) s' := by
  refine SR.fail fun h0 => ?_
  unfold Go.boundsPanic
  split
  · simp
  · simp [runtimePanic]

def idxTail (t : TypeId) (k : IntKind) (i : Int) (base : Option Addr) (len : Nat) (elem : TypeId) : Sem Value := do
  let tiny := len ≤ 1 && (match ← underlying t with | .array .. => true | _ => false)
  match base with
  | some a =>
    if 0 ≤ i ∧ i < len then pure (.pointer (some (a.add (i.toNat * (← Go.sizeOf elem)))))
    else if tiny then Go.unsupported (.noEntry "op/indexAddr.an index out of range at an array of length 0 or 1 (ledger 616)")
    else Go.boundsPanic k i len .index
  | none => Go.boundsPanic k i 0 .index

theorem SV.idxTail {t : TypeId} {k : IntKind} {i : Int} {len : Nat} {e : TypeId} {b b' : Option Addr}
    (hx : (b = none ∧ b' = none) ∨ ∃ a a', b = some a ∧ b' = some a' ∧ (ARel ρ a a' ∨ len = 0)) : SV P ρ (idxTail t k i b len e) (idxTail t k i b' len e) := by
  unfold Abs.idxTail
  refine SR.bind (SR.underlying t) fun ρ1 d d' hl hd => ?_
  obtain ⟨rfl, _⟩ := hd
  rcases hx with ⟨rfl, rfl⟩ | ⟨a, a', rfl, rfl, ha⟩
  · exact SR.boundsPanic
  · dsimp only
    split
    · rename_i hlt
      refine SR.bind (SR.sizeOf e) fun ρ4 s s' hl4 hs => ?_
      obtain ⟨rfl, _⟩ := hs
      refine SR.pure fun _ hl5 => .ptr ?_
      rcases ha with ha | ha
      · exact (((ha.mono hl).mono hl4).mono hl5).add _
      · exfalso; omega
    · repeat' split
      all_goals first | exact SR.unsupported | exact SR.boundsPanic

theorem SV.indexAt {v v' i i' : Value} (t : TypeId) (hv : VRel P ρ v v') (hi : VRel P ρ i i') : SV P ρ (Instr.indexAt t v i) (Instr.indexAt t v' i') := by
  unfold Instr.indexAt
  refine SR.bind (SR.asIntOf hi) fun ρ1 k k' hl hk => ?_
  cases hk
  obtain ⟨k, n⟩ := k
  refine SR.bind (SR.underlying t) fun ρ2 d d' hl2 hd => ?_
  obtain ⟨rfl, _⟩ := hd
  have hv2 := (hv.mono hl).mono hl2
  cases d with
  | slice el =>
    cases hv2 with
    | nils => exact SV.idxTail (k := k) (i := n) (len := 0) (e := el) (b := none) (b' := none) (.inl ⟨rfl, rfl⟩)
    | @slc a a' m c hc hn h => exact SV.idxTail (k := k) (i := n) (len := m) (e := el) (b := some a) (b' := some a') (.inr ⟨a, a', rfl, rfl, h.imp id fun h => by omega⟩)
    | @opn a a' m c' h =>
      refine SV.idxTail (k := k) (i := n) (len := m) (e := el) (b := some a) (b' := some a') (.inr ⟨a, a', rfl, rfl, ?_⟩)
      obtain ⟨hs, h | ⟨B, hB, _, _, h2, _, h1 | h1⟩⟩ := h
      · exact .inl ⟨hs, .inl h⟩
      · exact .inl ⟨hs, .inr ⟨B, hB, h1.1⟩⟩
      · right; omega
    | _ => exact SR.bind SR.stuck fun _ _ _ _ (h : False) => h.elim
  | array len el =>
    refine SR.bind (SR.sureAddr hv2) fun ρ3 b b' hl3 hb => ?_
    exact SV.idxTail (k := k) (i := n) (len := len) (e := el) (b := some b) (b' := some b') (.inr ⟨b, b', rfl, rfl, .inl hb⟩)
  | _ => exact SR.bind SR.stuck fun _ _ _ _ (h : False) => h.elim

theorem SR.newRow {c c' : Array Value} (e : TypeId) (hc : RRel P ρ c c') : SR P ρ (fun ρ a a' => ARel ρ a a' ∧ a.off = 0) (Go.newRow e c) (Go.newRow e c') := by
  unfold Go.newRow
  intro ρ1 h w hl hs a h1 hx
  simp only [arun_bind, newObj, arun, plainObj, Bool.false_eq_true, if_false, Option.bind_eq_some_iff] at hx
  obtain ⟨⟨n, h2⟩, e1, e2⟩ := hx
  split at e1
  · rename_i hall
    simp only [Option.some.injEq, Prod.mk.injEq] at e1
    obtain ⟨rfl, rfl⟩ := e1
    simp only [arun_pure, Option.some.injEq, Prod.mk.injEq] at e2
    obtain ⟨rfl, rfl⟩ := e2
    obtain ⟨ρ', g1, g2, g3⟩ := hs.pushCells c c' e (hc.mono hl) hall
    exact ⟨⟨w.heap.size, 0, none⟩, w.alloc (.cells c' e), ρ', by simp, g3, g2, ⟨rfl, .inr ⟨_, g1, rfl⟩⟩, rfl⟩
  · cases e1

theorem flatPtr {a a' : Addr} (h : ARel ρ a a') : VRel P ρ (.pointer (some a)) (.pointer (some a')) := .ptr h

theorem SV.box {v v' : Value} (e : TypeId) (hv : VRel P ρ v v') : SV P ρ (Instr.box e v) (Instr.box e v') := by
  unfold Instr.box Go.newVar
  exact SR.bind (SR.newRow e hv.cells) fun ρ1 a a' _ ha => SR.pure fun _ hl => .ptr (ha.1.mono hl)

theorem flat1_rel {v : Value} (h : flat1 v = true) : VRel P ρ v v := by
  cases v with
  | pointer a => cases a <;> first | exact .nilp | cases h
  | slice a n c =>
    cases a with
    | some a => cases h
    | none =>
      cases n with
      | succ n => cases h
      | zero => cases c with | zero => exact .nils | succ c => cases h
  | map r => cases r <;> first | exact .nilm | cases h
  | chan r => cases r <;> first | exact .nilc | cases h
  | bool b => exact .bool b
  | int k n => exact .int k n
  | float k b => exact .float k b
  | complex k a b => exact .complex k a b
  | string s => exact .string s
  | nilFunc => exact .nilFunc
  | nilIface => exact .nilIface
  | _ => cases h

theorem flat1_eq {v v' : Value} (h : flat1 v = true) (hv : VRel P ρ v v') : v' = v := by
  cases hv <;> first | rfl | cases h

theorem flats_rel {xs : Array Value} (h : xs.all flat1 = true) : RRel P ρ xs xs :=
  ⟨rfl, fun i u u' hu hu' => by
    rw [hu] at hu'; cases hu'
    obtain ⟨hlt, rfl⟩ := Array.getElem?_eq_some_iff.1 hu
    exact flat1_rel (Array.all_eq_true.1 h i hlt)⟩

theorem flats_eq {xs xs' : Array Value} (h : xs.all flat1 = true) (hr : RRel P ρ xs xs') : xs' = xs := by
  apply Array.ext
  · exact hr.1.symm
  · intro i h1 h2
    exact flat1_eq (Array.all_eq_true.1 h i h2) (hr.2 i _ _ (Array.getElem?_eq_getElem h2) (Array.getElem?_eq_getElem h1))

theorem flat_rel {v : Value} (h : flat v = true) : VRel P ρ v v := by
  cases v with
  | agg xs =>
    have hr : RRel P ρ xs xs := flats_rel h
    exact .agg hr.1 hr.2
  | tuple xs =>
    have hr : RRel P ρ xs xs := flats_rel h
    exact .tuple hr.1 hr.2
  | _ => exact flat1_rel h

theorem flat_eq {v v' : Value} (h : flat v = true) (hv : VRel P ρ v v') : v' = v := by
  cases hv with
  | agg hs hx => exact congrArg Value.agg (flats_eq h ⟨hs, hx⟩)
  | tuple hs hx => exact congrArg Value.tuple (flats_eq h ⟨hs, hx⟩)
  | _ => first | rfl | cases h

/-- The zero value of a type names no address. -/
def zok (P : Program) (t : TypeId) : Bool := ((P.info? t).bind (·.zero)).all fun z => z.cells.all flat1

theorem SV.zeroValue {t : TypeId} (h : zok P t = true) : SV P ρ (Go.zeroValue t) (Go.zeroValue t) :=
  (SR.zeroValue t).mono fun _ a b _ hab => by
    obtain ⟨rfl, hz⟩ := hab
    unfold zok at h
    rw [hz] at h
    have h' : a.cells.all flat1 = true := by simpa using h
    cases a with
    | agg xs => exact flat_rel (v := .agg xs) h'
    | _ => exact flat1_rel (by simpa [Value.cells] using h')

theorem SV.alloc {t : TypeId} (h : zok P t = true) : SV P ρ (Instr.alloc t true (.tuple #[])) (Instr.alloc t true (.tuple #[])) := by
  unfold Instr.alloc
  refine SR.bind (SV.zeroValue h) fun ρ1 z z' hl hz => ?_
  unfold Go.newVar
  exact SR.bind (SR.newRow t hz.cells) fun ρ2 a a' _ ha => SR.pure fun _ hl => .ptr (ha.1.mono hl)

/-! Parts -/
theorem RRel.extract {x x' : Array Value} (h : RRel P ρ x x') (i j : Nat) : RRel P ρ (x.extract i j) (x'.extract i j) := by
  refine ⟨by simp [h.1], fun k u u' hu hu' => ?_⟩
  rw [Array.getElem?_extract] at hu hu'
  rw [← h.1] at hu'
  split at hu
  · rename_i hlt
    rw [if_pos hlt] at hu'
    exact h.2 _ _ _ hu hu'
  · cases hu

theorem RRel.append {x x' y y' : Array Value} (h : RRel P ρ x x') (k : RRel P ρ y y') : RRel P ρ (x ++ y) (x' ++ y') := by
  refine ⟨by simp [h.1, k.1], fun i u u' hu hu' => ?_⟩
  rw [Array.getElem?_append] at hu hu'
  rw [← h.1] at hu'
  split at hu
  · rename_i hlt
    rw [if_pos hlt] at hu'
    exact h.2 _ _ _ hu hu'
  · rename_i hlt
    rw [if_neg hlt] at hu'
    exact k.2 _ _ _ hu hu'

theorem RRel.set {x x' : Array Value} (h : RRel P ρ x x') (i : Nat) {v v' : Value} (hv : VRel P ρ v v') : RRel P ρ (x.setIfInBounds i v) (x'.setIfInBounds i v') := by
  refine ⟨by simp [h.1], fun k u u' hu hu' => ?_⟩
  rw [Array.getElem?_setIfInBounds] at hu hu'
  rw [← h.1] at hu'
  split at hu
  · rename_i e
    rw [if_pos e] at hu'
    split at hu
    · rename_i hlt
      rw [if_pos hlt] at hu'
      cases hu; cases hu'; exact hv
    · cases hu
  · rename_i e
    rw [if_neg e] at hu'
    exact h.2 _ _ _ hu hu'

theorem SV.part {x x' : Array Value} (t : TypeId) (h : RRel P ρ x x') (off : Nat) : SV P ρ (Go.part t x off) (Go.part t x' off) := by
  unfold Go.part
  refine SR.bind (SR.isAgg t) fun ρ1 b b' hl hb => ?_
  cases hb
  split
  · refine SR.bind (SR.sizeOf t) fun ρ2 n n' hl2 hn => ?_
    obtain ⟨rfl, _⟩ := hn
    refine SR.pure fun _ hl3 => ?_
    have := (((h.mono hl).mono hl2).mono hl3).extract off (off + n)
    exact .agg this.1 this.2
  · cases hx : x[off]? with
    | none => exact SR.stuck
    | some v =>
      have hlt : off < x'.size := by rw [← h.1]; exact (Array.getElem?_eq_some_iff.1 hx).1
      rw [Array.getElem?_eq_getElem hlt]
      exact SR.pure fun _ hl2 => ((h.2 off _ _ hx (Array.getElem?_eq_getElem hlt)).mono hl).mono hl2

theorem SR.asAgg {v v' : Value} (hv : VRel P ρ v v') : SR P ρ (fun ρ x x' => RRel P ρ x x') (Go.asAgg v) (Go.asAgg v') := by
  cases hv <;> first | exact SR.stuck | skip
  rename_i hs hx
  exact SR.pure fun _ hl => RRel.mono hl ⟨hs, hx⟩

theorem SV.field {v v' : Value} (t : TypeId) (i : Nat) (hv : VRel P ρ v v') : SV P ρ (Instr.field t v i) (Instr.field t v' i) := by
  unfold Instr.field
  refine SR.bind (SR.underlying t) fun ρ1 d d' hl hd => ?_
  obtain ⟨rfl, _⟩ := hd
  split
  · split
    · refine SR.bind (SR.asAgg (hv.mono hl)) fun ρ2 x x' hl2 hx => ?_
      exact SV.part _ hx _
    · exact SR.stuck
  · exact SR.stuck

theorem SV.extract {v v' : Value} (i : Nat) (hv : VRel P ρ v v') : SV P ρ (Instr.extract v i) (Instr.extract v' i) := by
  cases hv <;> first | exact SR.stuck | skip
  rename_i x x' hs hx
  unfold Instr.extract
  dsimp only
  cases h : x[i]? with
  | none => exact SR.stuck
  | some u =>
    have hlt : i < x'.size := by rw [← hs]; exact (Array.getElem?_eq_some_iff.1 h).1
    rw [Array.getElem?_eq_getElem hlt]
    exact SR.pure fun _ hl2 => (hx i _ _ h (Array.getElem?_eq_getElem hlt)).mono hl2

theorem SV.index {v v' i i' : Value} (t : TypeId) (hv : VRel P ρ v v') (hi : VRel P ρ i i') : SV P ρ (Instr.index t v i) (Instr.index t v' i') := by
  unfold Instr.index
  refine SR.bind (SR.asIntOf hi) fun ρ1 k k' hl hk => ?_
  cases hk
  refine SR.bind (SR.underlying t) fun ρ2 d d' hl2 hd => ?_
  obtain ⟨rfl, _⟩ := hd
  have hv2 := (hv.mono hl).mono hl2
  cases d with
  | array len el =>
    cases hv2 with
    | @agg x x' hs hx =>
      dsimp only
      split
      · refine SR.bind (SR.sizeOf el) fun ρ3 s s' hl3 hs' => ?_
        obtain ⟨rfl, _⟩ := hs'
        exact SV.part _ (RRel.mono hl3 ⟨hs, hx⟩) _
      · exact SR.boundsPanic
    | _ => exact SR.stuck
  | string =>
    cases hv2 with
    | string s =>
      dsimp only
      split
      · exact SR.pure fun _ _ => .int _ _
      · exact SR.boundsPanic
    | _ => exact SR.stuck
  | _ => exact SR.stuck

/-! Build -/
def PRel (P : Program) (ρ : Ren) (l l' : List (Nat × Value)) : Prop :=
  l.length = l'.length ∧ ∀ (i : Nat) (p p' : Nat × Value), l[i]? = some p → l'[i]? = some p' → p.1 = p'.1 ∧ VRel P ρ p.2 p'.2

theorem PRel.mono {ρ' : Ren} {l l' : List (Nat × Value)} (hl : Ren.Le ρ ρ') (h : PRel P ρ l l') : PRel P ρ' l l' :=
  ⟨h.1, fun i p p' hp hp' => ⟨(h.2 i p p' hp hp').1, (h.2 i p p' hp hp').2.mono hl⟩⟩

theorem RRel.fold {c c' : Array Value} (h : RRel P ρ c c') (off : Nat) : ∀ (l l' : List (Value × Nat)), l.length = l'.length →
    (∀ (i : Nat) p p', l[i]? = some p → l'[i]? = some p' → VRel P ρ p.1 p'.1 ∧ p.2 = p'.2) →
    RRel P ρ (l.foldl (fun cs (x : Value × Nat) => cs.setIfInBounds (off + x.2) x.1) c) (l'.foldl (fun cs (x : Value × Nat) => cs.setIfInBounds (off + x.2) x.1) c') := by
  intro l
  induction l generalizing c c' with
  | nil =>
    intro l' hl _
    have : l' = [] := List.eq_nil_of_length_eq_zero (by simpa using hl.symm)
    subst this; exact h
  | cons p l ih =>
    intro l' hl hp
    cases l' with
    | nil => simp at hl
    | cons p' l' =>
      have h0 := hp 0 p p' (by simp) (by simp)
      simp only [List.foldl_cons]
      rw [h0.2]
      exact ih (h.set _ h0.1) l' (by simpa using hl) fun i q q' hq hq' => hp (i + 1) q q' (by simpa using hq) (by simpa using hq')

theorem fill_rel (place : Nat → Option (Nat × Nat)) : ∀ (l l' : List (Nat × Value)) (c c' : Array Value), PRel P ρ l l' → RRel P ρ c c' →
    ∀ r, Instr.fill place c l = some r → ∃ r', Instr.fill place c' l' = some r' ∧ RRel P ρ r r' := by
  intro l
  induction l with
  | nil =>
    intro l' c c' hp hc r hr
    have : l' = [] := List.eq_nil_of_length_eq_zero (by simpa using hp.1.symm)
    subst this
    simp only [Instr.fill, Option.some.injEq] at hr ⊢
    subst hr
    exact ⟨c', rfl, hc⟩
  | cons p l ih =>
    intro l' c c' hp hc r hr
    cases l' with
    | nil => have := hp.1; simp at this
    | cons p' l' =>
      obtain ⟨i, v⟩ := p
      obtain ⟨i', v'⟩ := p'
      have h0 := hp.2 0 (i, v) (i', v') (by simp) (by simp)
      obtain ⟨h01, h02⟩ := h0
      dsimp only at h01 h02
      subst h01
      simp only [Instr.fill] at hr ⊢
      cases hpl : place i with
      | none => rw [hpl] at hr; cases hr
      | some os =>
        obtain ⟨off, size⟩ := os
        rw [hpl] at hr
        dsimp only at hr ⊢
        rw [← h02.cells.1, ← hc.1]
        split at hr
        · cases hr
        · rename_i hcond
          rw [if_neg hcond]
          refine ih l' _ _ ⟨by have := hp.1; simpa using this, fun k q q' hq hq' => hp.2 (k + 1) q q' (by simpa using hq) (by simpa using hq')⟩ ?_ r hr
          rw [← Array.foldl_toList, ← Array.foldl_toList]
          refine hc.fold off _ _ (by simp [h02.cells.1]) fun k q q' hq hq' => ?_
          simp only [Array.toList_zipIdx, List.getElem?_zipIdx, Option.map_eq_some_iff] at hq hq'
          obtain ⟨a, ha, rfl⟩ := hq
          obtain ⟨a', ha', rfl⟩ := hq'
          exact ⟨h02.cells.2 k a a' (by simpa using ha) (by simpa using ha'), rfl⟩

theorem SR.mapM_sizes (l : List Field) : ∀ (acc : Array (Nat × Nat)), SR P ρ (fun _ a b => a = b)
    (l.foldlM (fun bs f => do let s ← (do let n ← Go.sizeOf f.type; Pure.pure (f.offset, n)); Pure.pure (bs.push s)) acc)
    (l.foldlM (fun bs f => do let s ← (do let n ← Go.sizeOf f.type; Pure.pure (f.offset, n)); Pure.pure (bs.push s)) acc) := by
  induction l generalizing ρ with
  | nil => intro acc; exact SR.pure fun _ _ => rfl
  | cons f l ih =>
    intro acc
    simp only [List.foldlM_cons]
    refine SR.bind (R := fun _ a b => a = b) ?_ fun ρ1 a b _ hab => ?_
    · refine SR.bind (R := fun _ a b => a = b) ?_ fun ρ1 a b _ hab => ?_
      · refine SR.bind (SR.sizeOf f.type) fun ρ1 n n' _ hn => ?_
        obtain ⟨rfl, _⟩ := hn
        exact SR.pure fun _ _ => rfl
      · subst hab; exact SR.pure fun _ _ => rfl
    · subst hab; exact ih _

theorem SV.build {l l' : Array (Nat × Value)} (t : TypeId) (hz : zok P t = true) (hp : PRel P ρ l.toList l'.toList) : SV P ρ (Instr.build t l) (Instr.build t l') := by
  unfold Instr.build
  refine SR.bind (SV.zeroValue hz) fun ρ1 z z' hl hzz => ?_
  refine SR.bind (SR.underlying t) fun ρ2 d d' hl2 hd => ?_
  obtain ⟨rfl, _⟩ := hd
  cases d with
  | struct fields =>
    dsimp only
    refine SR.bind (R := fun _ a b => a = b) ?_ fun ρ3 a b hl3 hab => ?_
    · rw [Array.mapM_eq_foldlM]
      rw [← Array.foldlM_toList]
      have := SR.mapM_sizes (P := P) (ρ := ρ2) fields.toList #[]
      simpa using this
    · subst hab
      have hc := (((hzz.mono hl2).mono hl3).cells)
      cases hf : Instr.fill (fun x => a[x]?) z.cells l.toList with
      | none => exact SR.stuck
      | some r =>
        obtain ⟨r', hr', hrr⟩ := fill_rel _ _ _ _ _ (((hp.mono hl).mono hl2).mono hl3) hc r hf
        rw [hr']
        exact SR.pure fun _ hl4 => .agg (hrr.mono hl4).1 (hrr.mono hl4).2
  | array len el =>
    dsimp only
    refine SR.bind (SR.sizeOf el) fun ρ3 s s' hl3 hs => ?_
    obtain ⟨rfl, _⟩ := hs
    have hc := (((hzz.mono hl2).mono hl3).cells)
    cases hf : Instr.fill (fun i => some (i * s, s)) z.cells l.toList with
    | none => exact SR.stuck
    | some r =>
      obtain ⟨r', hr', hrr⟩ := fill_rel _ _ _ _ _ (((hp.mono hl).mono hl2).mono hl3) hc r hf
      rw [hr']
      exact SR.pure fun _ hl4 => .agg (hrr.mono hl4).1 (hrr.mono hl4).2
  | _ => exact SR.stuck


/-! Slices -/
theorem SR.zeroFlat {t : TypeId} (h : zok P t = true) : SR P ρ (fun _ a b => a = b ∧ a.cells.all flat1 = true ∧ (P.info? t).bind (·.zero) = some a) (Go.zeroValue t) (Go.zeroValue t) :=
  (SR.zeroValue t).mono fun _ a b _ hab => by
    obtain ⟨rfl, hz⟩ := hab
    unfold zok at h
    rw [hz] at h
    exact ⟨rfl, by simpa using h, hz⟩

theorem flat1_get (z : Array Value) (hz : z.all flat1 = true) (i : Nat) : flat1 z[i]! = true := by
  rcases Nat.lt_or_ge i z.size with h | h
  · rw [getElem!_pos z i h]; exact Array.all_eq_true.1 hz i h
  · rw [getElem!_neg z i (by omega)]; rfl

theorem flats_rep (z : Array Value) (hz : z.all flat1 = true) (n : Nat) : ((Array.range n).map fun i => z[i % z.size]!).all flat1 = true := by
  rw [Array.all_eq_true]
  intro i hi
  simp only [Array.getElem_map]
  exact flat1_get z hz _

theorem SV.buildSlice {l l' : Array (Nat × Value)} (t : TypeId) (n : Nat) (hz : ∀ e, P.underlying t = some (.slice e) → zok P e = true) (hn : n < OPEN) (hp : PRel P ρ l.toList l'.toList) :
    SV P ρ (Instr.buildSlice t n l) (Instr.buildSlice t n l') := by
  unfold Instr.buildSlice
  refine SR.bind (SR.underlying t) fun ρ1 d d' hl hd => ?_
  obtain ⟨rfl, hd⟩ := hd
  cases d with
  | slice e =>
    dsimp only
    refine SR.bind (SR.sizeOf e) fun ρ2 s s' hl2 hs => ?_
    obtain ⟨rfl, _⟩ := hs
    have fin : ∀ (ρ3 : Ren) (z : Array Value), Ren.Le ρ2 ρ3 → z.all flat1 = true → SV P ρ3
        (match Instr.fill (fun i => some (i * s, s)) ((Array.range (n * s)).map fun i => z[i % z.size]!) l.toList with
          | some cells => do Pure.pure (.slice (some (← Go.newRow e cells)) n n)
          | x => Go.stuck "buildSlice: a part of the wrong size")
        (match Instr.fill (fun i => some (i * s, s)) ((Array.range (n * s)).map fun i => z[i % z.size]!) l'.toList with
          | some cells => do Pure.pure (.slice (some (← Go.newRow e cells)) n n)
          | x => Go.stuck "buildSlice: a part of the wrong size") := by
      intro ρ3 z hl3 hzz
      cases hf : Instr.fill (fun i => some (i * s, s)) ((Array.range (n * s)).map fun i => z[i % z.size]!) l.toList with
      | none => exact SR.stuck
      | some r =>
        obtain ⟨r', hr', hrr⟩ := fill_rel _ _ _ _ _ (((hp.mono hl).mono hl2).mono hl3) (flats_rel (flats_rep z hzz (n * s))) r hf
        rw [hr']
        exact SR.bind (SR.newRow e hrr) fun ρ4 a a' hl4 ha => SR.pure fun _ hl5 => .slc hn (Nat.le_refl _) (.inl (ha.1.mono hl5))
    split
    · exact SR.bind SR.unsupported fun _ _ _ _ (h : False) => h.elim
    · split
      · exact fin ρ2 #[] (.refl _) (by simp)
      · refine SR.bind (SR.zeroFlat (hz e hd)) fun ρ3 z z' hl3 hzz => ?_
        obtain ⟨rfl, hzz, _⟩ := hzz
        exact fin ρ3 z.cells hl3 hzz
  | _ => exact SR.stuck

theorem SR.sliceBound {v v' : Value} (hv : VRel P ρ v v') (y y' : Nat) (hy : y ≤ y') (c : BoundsCode) :
    SR P ρ (fun _ a b => a = b ∧ a ≤ y) (Instr.sliceBound v y c) (Instr.sliceBound v' y' c) := by
  unfold Instr.sliceBound
  refine SR.bind (SR.asIntOf hv) fun ρ1 k k' hl hk => ?_
  cases hk
  obtain ⟨k, i⟩ := k
  dsimp only
  split
  · rename_i h
    rw [if_pos (by omega)]
    exact SR.pure fun _ _ => ⟨rfl, by omega⟩
  · exact SR.boundsPanic

def ORl (P : Program) (ρ : Ren) (x x' : Option Value) : Prop := (x = none ∧ x' = none) ∨ ∃ v v', x = some v ∧ x' = some v' ∧ VRel P ρ v v'

theorem ORl.mono {ρ' : Ren} {x x' : Option Value} (hl : Ren.Le ρ ρ') (h : ORl P ρ x x') : ORl P ρ' x x' := by
  rcases h with h | ⟨v, v', h1, h2, h3⟩
  · exact .inl h
  · exact .inr ⟨v, v', h1, h2, h3.mono hl⟩

/-- The bounds of a slice: the capacity of the second may be greater, where no third bound stands. -/
theorem SR.sliceBounds {lo lo' hi hi' mx mx' : Option Value} (b : Bool) (n cap cap' : Nat) (hcap : cap ≤ cap') (hn : n ≤ cap) (hlo : ORl P ρ lo lo') (hhi : ORl P ρ hi hi') (hmx : ORl P ρ mx mx') :
    SR P ρ (fun _ x y => x.1 = y.1 ∧ x.2.1 = y.2.1 ∧ x.1 ≤ x.2.1 ∧ x.2.1 ≤ x.2.2 ∧ ((mx = none ∧ x.2.2 = cap ∧ y.2.2 = cap') ∨ (mx ≠ none ∧ x.2.2 = y.2.2 ∧ x.2.2 ≤ cap)))
      (Instr.sliceBounds b n cap lo hi mx) (Instr.sliceBounds b n cap' lo' hi' mx') := by
  unfold Instr.sliceBounds
  dsimp only
  rcases hmx with ⟨rfl, rfl⟩ | ⟨m, m', rfl, rfl, hm⟩
  · simp only [pure_bind]
    rcases hhi with ⟨rfl, rfl⟩ | ⟨x, x', rfl, rfl, hx⟩
    · rcases hlo with ⟨rfl, rfl⟩ | ⟨y, y', rfl, rfl, hy⟩
      · exact SR.pure fun _ _ => ⟨rfl, rfl, Nat.zero_le _, hn, .inl ⟨trivial, rfl, rfl⟩⟩
      · exact SR.bind (SR.sliceBound hy n n (Nat.le_refl _) _) fun ρ1 a b hl hab => SR.pure fun _ _ => ⟨hab.1, rfl, hab.2, hn, .inl ⟨trivial, rfl, rfl⟩⟩
    · refine SR.bind (SR.sliceBound hx cap cap' hcap _) fun ρ1 a b hl hab => ?_
      obtain ⟨rfl, ha⟩ := hab
      rcases hlo with ⟨rfl, rfl⟩ | ⟨y, y', rfl, rfl, hy⟩
      · exact SR.pure fun _ _ => ⟨rfl, rfl, Nat.zero_le _, ha, .inl ⟨trivial, rfl, rfl⟩⟩
      · exact SR.bind (SR.sliceBound (hy.mono hl) a a (Nat.le_refl _) _) fun ρ2 c d hl2 hcd => SR.pure fun _ _ => ⟨hcd.1, rfl, hcd.2, ha, .inl ⟨trivial, rfl, rfl⟩⟩
  · refine SR.bind (SR.sliceBound hm cap cap' hcap _) fun ρ1 a b hl hab => ?_
    obtain ⟨rfl, ha⟩ := hab
    rcases hhi with ⟨rfl, rfl⟩ | ⟨x, x', rfl, rfl, hx⟩
    · exact SR.bind SR.stuck fun _ _ _ _ (h : False) => h.elim
    · refine SR.bind (SR.sliceBound (hx.mono hl) a a (Nat.le_refl _) _) fun ρ2 c d hl2 hcd => ?_
      obtain ⟨rfl, hc⟩ := hcd
      rcases hlo with ⟨rfl, rfl⟩ | ⟨y, y', rfl, rfl, hy⟩
      · exact SR.pure fun _ _ => ⟨rfl, rfl, Nat.zero_le _, hc, .inr ⟨by simp, rfl, ha⟩⟩
      · exact SR.bind (SR.sliceBound ((hy.mono hl).mono hl2) c c (Nat.le_refl _) _) fun ρ3 p q hl3 hpq => SR.pure fun _ _ => ⟨hpq.1, rfl, hpq.2, hc, .inr ⟨by simp, rfl, ha⟩⟩

end Go.Abs
