/-
The abstract heap: maps, and what is left of the instructions.
-/
import Derived.Test.YtgeoihombkjgnaaGreatDoorBwAbsG
namespace Go.Abs
open Go
variable {P : Program} {ρ : Ren} {α β : Type}

/-- A program that neither reads nor writes, whatever comes. -/
def quiet (P : Program) : Sem α → Prop
  | .pure _ => True
  | .program k => quiet P (k P)
  | .mark _ k => quiet P k
  | .load _ _ _ | .store _ _ _ _ | .new _ _ | .getObj _ _ | .setObj _ _ _ => False
  | _ => True

theorem quiet_bind' (s : Sem α) (f : α → Sem β) (hs : quiet P s) (hf : ∀ a, quiet P (f a)) : quiet P (s.bind f) := by
  induction s with
  | pure a => exact hf a
  | program k ih => exact ih P hs
  | mark m k ih => exact ih hs
  | load => exact hs.elim
  | store => exact hs.elim
  | new => exact hs.elim
  | getObj => exact hs.elim
  | setObj => exact hs.elim
  | shape => trivial
  | freeze => trivial
  | frozen => trivial
  | choose => trivial
  | sys => trivial
  | halt => trivial

theorem quiet_bind (s : Sem α) (f : α → Sem β) (hs : quiet P s) (hf : ∀ a, quiet P (f a)) : quiet P (s >>= f) := quiet_bind' s f hs hf

theorem quiet_run (s : Sem α) (hs : quiet P s) (h : H) (a : α) (h1 : H) (hr : arun P s h = some (a, h1)) : h1 = h ∧ ∀ w, s.run P w = .ok a w := by
  induction s with
  | pure x => simp only [arun, Option.some.injEq, Prod.mk.injEq] at hr; obtain ⟨rfl, rfl⟩ := hr; exact ⟨rfl, fun _ => rfl⟩
  | program k ih =>
    obtain ⟨e1, e2⟩ := ih P hs hr
    exact ⟨e1, fun w => e2 w⟩
  | mark m k ih =>
    simp only [arun] at hr
    split at hr
    · cases hr
    · obtain ⟨e1, e2⟩ := ih hs hr
      exact ⟨e1, fun w => e2 w⟩
  | load => exact hs.elim
  | store => exact hs.elim
  | new => exact hs.elim
  | getObj => exact hs.elim
  | setObj => exact hs.elim
  | shape => simp [arun] at hr
  | freeze => simp [arun] at hr
  | frozen => simp [arun] at hr
  | choose => simp [arun] at hr
  | sys => simp [arun] at hr
  | halt => simp [arun] at hr

/-- The same quiet program on both sides. -/
theorem SR.quiet {s : Sem α} (hs : Abs.quiet P s) : SR P ρ (fun _ a b => a = b) s s := by
  intro ρ1 h w _ hsim a h1 hr
  obtain ⟨rfl, e⟩ := quiet_run s hs h a h1 hr
  exact ⟨a, w, ρ1, e w, .refl _ _ _, hsim, rfl⟩

theorem quiet_underlying (t : TypeId) : quiet P (Go.underlying t) := by
  refine quiet_bind _ _ trivial fun p => ?_
  split <;> trivial
theorem quiet_typeInfo (t : TypeId) : quiet P (Go.typeInfo t) := by
  refine quiet_bind _ _ trivial fun p => ?_
  split <;> trivial
theorem quiet_sizeOf (t : TypeId) : quiet P (Go.sizeOf t) := quiet_bind _ _ (quiet_typeInfo t) fun _ => trivial
theorem quiet_isAgg (t : TypeId) : quiet P (Go.isAgg t) := by
  refine quiet_bind _ _ (quiet_underlying t) fun d => ?_
  split <;> trivial
theorem quiet_part (t : TypeId) (cs : Array Value) (n : Nat) : quiet P (Go.part t cs n) := by
  refine quiet_bind _ _ (quiet_isAgg t) fun b => ?_
  split
  · exact quiet_bind _ _ (quiet_sizeOf t) fun _ => trivial
  · split <;> trivial


theorem quiet_forIn {γ : Type} (f : γ → β → Sem (ForInStep β)) (hf : ∀ x b, quiet P (f x b)) : ∀ (l : List γ) (b : β), quiet P (forIn l b f) := by
  intro l
  induction l with
  | nil => intro b; exact trivial
  | cons x l ih =>
    intro b
    rw [List.forIn_cons]
    refine quiet_bind _ _ (hf x b) fun r => ?_
    split
    · trivial
    · exact ih _

theorem quiet_forInA {γ : Type} (f : γ → β → Sem (ForInStep β)) (hf : ∀ x b, quiet P (f x b)) (l : Array γ) (b : β) : quiet P (forIn l b f) := by
  rw [← Array.forIn_toList]; exact quiet_forIn f hf _ _

theorem quiet_forInR (f : Nat → β → Sem (ForInStep β)) (hf : ∀ x b, quiet P (f x b)) (r : Std.Legacy.Range) (b : β) : quiet P (forIn r b f) := by
  rw [Std.Legacy.Range.forIn_eq_forIn_range']; exact quiet_forIn f hf _ _

theorem quiet_numberAt (r : Nat) : quiet P (Go.numberAt r) := trivial
theorem quiet_behindNumber (a : Addr) : quiet P (Go.behindNumber a) := trivial
theorem quiet_sameAddr (a b : Addr) : quiet P (Go.sameAddr a b) := by
  unfold Go.sameAddr
  dsimp only
  split <;> trivial
theorem quiet_samePointer (a b : Option Addr) : quiet P (Go.samePointer a b) := by
  unfold Go.samePointer
  split
  · exact quiet_sameAddr _ _
  · trivial
theorem quiet_typeStr (t : TypeId) : quiet P (Go.typeStr t) := by
  refine quiet_bind _ _ (quiet_typeInfo t) fun i => ?_
  dsimp only
  split <;> trivial
theorem quiet_panicError (m : String) : quiet P (Go.runtimePanic (.error m) : Sem α) := trivial

theorem quiet_equalIn (d : Nat) : ∀ (t : TypeId) (x y : Value), quiet P (Op.equalIn d t x y) := by
  induction d with
  | zero => intro t x y; exact trivial
  | succ d ih =>
    intro t x y
    unfold Op.equalIn
    refine quiet_bind _ _ (quiet_underlying t) fun u => ?_
    split <;> first
      | trivial
      | exact quiet_sameAddr _ _
      | exact quiet_samePointer _ _
      | skip
    all_goals first
      | (split <;> trivial)
      | (refine quiet_bind _ _ (quiet_sizeOf _) fun n => ?_; split <;> first | exact quiet_sameAddr _ _ | (split <;> trivial))
      | skip
    · split
      · trivial
      · refine quiet_bind _ _ (quiet_typeInfo _) fun i => ?_
        split
        · refine quiet_bind _ _ trivial fun p => ?_
          refine quiet_bind _ _ trivial fun p2 => ?_
          split
          · trivial
          · exact quiet_bind _ _ (quiet_typeStr _) fun _ => trivial
        · exact ih _ _ _
    · refine quiet_bind _ _ trivial fun p => ?_
      split
      · trivial
      · refine quiet_bind _ _ (quiet_forInA _ (fun f b => ?_) _ _) fun r => ?_
        · split
          · refine quiet_bind _ _ (quiet_part _ _ _) fun a => quiet_bind _ _ (quiet_part _ _ _) fun c => quiet_bind _ _ (ih _ _ _) fun q => ?_
            split <;> trivial
          · trivial
        · dsimp only
          split <;> trivial
    · refine quiet_bind _ _ (quiet_sizeOf _) fun n => ?_
      refine quiet_bind _ _ (quiet_forInR _ (fun f b => ?_) _ _) fun r => ?_
      · refine quiet_bind _ _ (quiet_part _ _ _) fun a => quiet_bind _ _ (quiet_part _ _ _) fun c => quiet_bind _ _ (ih _ _ _) fun q => ?_
        split <;> trivial
      · dsimp only
        split <;> trivial

theorem quiet_checkKey (b : Bool) (d : Nat) : ∀ (t : TypeId) (x : Value), quiet P (Instr.checkKey b d t x) := by
  induction d with
  | zero => intro t x; exact trivial
  | succ d ih =>
    intro t x
    unfold Instr.checkKey
    refine quiet_bind _ _ (quiet_underlying t) fun u => ?_
    split <;> first | trivial | skip
    · refine quiet_bind _ _ (quiet_typeInfo _) fun i => ?_
      dsimp only
      split
      · split
        · trivial
        · exact quiet_bind _ _ (quiet_typeStr _) fun _ => trivial
      · exact ih _ _
    · refine quiet_bind _ _ (quiet_forInR _ (fun f b => ?_) _ _) fun r => trivial
      exact quiet_bind _ _ (quiet_sizeOf _) fun n => quiet_bind _ _ (quiet_part _ _ _) fun a => quiet_bind _ _ (ih _ _) fun _ => trivial
    · refine quiet_bind _ _ (quiet_forInA _ (fun f b => ?_) _ _) fun r => trivial
      split
      · exact quiet_bind _ _ (quiet_part _ _ _) fun a => quiet_bind _ _ (ih _ _) fun _ => trivial
      · trivial


/-! Maps -/
def ERel (P : Program) (ρ : Ren) (l l' : List MapEntry) : Prop :=
  l.length = l'.length ∧ ∀ (j : Nat) (m m' : MapEntry), l[j]? = some m → l'[j]? = some m' → flat m.key = true ∧ m'.key = m.key ∧ VRel P ρ m.val m'.val ∧ m.born = m'.born

def KRel (P : Program) (ρ : Ren) (r r' : Option (Nat × Value)) : Prop :=
  (r = none ∧ r' = none) ∨ ∃ i v v', r = some (i, v) ∧ r' = some (i, v') ∧ VRel P ρ v v'

theorem ERel.mono {ρ' : Ren} {l l' : List MapEntry} (hl : Ren.Le ρ ρ') (h : ERel P ρ l l') : ERel P ρ' l l' :=
  ⟨h.1, fun j m m' hm hm' => ⟨(h.2 j m m' hm hm').1, (h.2 j m m' hm hm').2.1, (h.2 j m m' hm hm').2.2.1.mono hl, (h.2 j m m' hm hm').2.2.2⟩⟩

theorem ERel.tail {m m' : MapEntry} {l l' : List MapEntry} (h : ERel P ρ (m :: l) (m' :: l')) : ERel P ρ l l' :=
  ⟨by have := h.1; simpa using this, fun j x x' hx hx' => h.2 (j + 1) x x' (by simpa using hx) (by simpa using hx')⟩

theorem findNow_rel (kind : TypeDesc) (k : Value) : ∀ (l l' : List MapEntry) (i : Nat), ERel P ρ l l' →
    (Instr.findNow kind k l i = none ∧ Instr.findNow kind k l' i = none) ∨ ∃ r r', Instr.findNow kind k l i = some r ∧ Instr.findNow kind k l' i = some r' ∧ KRel P ρ r r' := by
  intro l
  induction l with
  | nil =>
    intro l' i h
    have : l' = [] := List.eq_nil_of_length_eq_zero (by simpa using h.1.symm)
    subst this
    exact .inr ⟨none, none, rfl, rfl, .inl ⟨rfl, rfl⟩⟩
  | cons m l ih =>
    intro l' i h
    cases l' with
    | nil => have := h.1; simp at this
    | cons m' l' =>
      obtain ⟨h1, h2, h3, h4⟩ := h.2 0 m m' (by simp) (by simp)
      simp only [Instr.findNow, h2]
      cases Instr.sameNow kind k m.key with
      | none => exact .inl ⟨rfl, rfl⟩
      | some b =>
        cases b with
        | true => exact .inr ⟨_, _, rfl, rfl, .inr ⟨i, m.val, m'.val, rfl, rfl, h3⟩⟩
        | false => exact ih l' (i + 1) h.tail

theorem SR.findAsking (t : TypeId) (k : Value) : ∀ (l l' : List MapEntry) (i : Nat) {ρ : Ren}, ERel P ρ l l' → SR P ρ (fun ρ r r' => KRel P ρ r r') (Instr.findAsking t k l i) (Instr.findAsking t k l' i) := by
  intro l
  induction l with
  | nil =>
    intro l' i ρ h
    have : l' = [] := List.eq_nil_of_length_eq_zero (by simpa using h.1.symm)
    subst this
    exact SR.pure fun _ _ => .inl ⟨rfl, rfl⟩
  | cons m l ih =>
    intro l' i ρ h
    cases l' with
    | nil => have := h.1; simp at this
    | cons m' l' =>
      obtain ⟨h1, h2, h3, h4⟩ := h.2 0 m m' (by simp) (by simp)
      unfold Instr.findAsking
      rw [h2]
      refine SR.bind (SR.quiet (quiet_equalIn _ _ _ _)) fun ρ1 b b' hl hb => ?_
      subst hb
      split
      · exact SR.pure fun _ hl2 => .inr ⟨i, m.val, m'.val, rfl, rfl, (h3.mono hl).mono hl2⟩
      · exact ih l' (i + 1) (h.tail.mono hl)

theorem SR.findKey (t : TypeId) (k : Value) {l l' : List MapEntry} (h : ERel P ρ l l') : SR P ρ (fun ρ r r' => KRel P ρ r r') (Instr.findKey t k l) (Instr.findKey t k l') := by
  unfold Instr.findKey
  refine SR.bind (SR.underlying t) fun ρ1 d d' hl hd => ?_
  obtain ⟨rfl, _⟩ := hd
  rcases findNow_rel d k l l' 0 (h.mono hl) with ⟨e1, e2⟩ | ⟨r, r', e1, e2, e3⟩
  · rw [e1, e2]; exact SR.findAsking t k l l' 0 (h.mono hl)
  · rw [e1, e2]
    refine SR.pure fun _ hl2 => ?_
    rcases e3 with e3 | ⟨i, v, v', g1, g2, g3⟩
    · exact .inl e3
    · exact .inr ⟨i, v, v', g1, g2, g3.mono hl2⟩

theorem SR.getObj {r r' : Nat} (hm : ρ r = some none ∨ ∃ B, ρ r = some (some B) ∧ r' = B.b) :
    SR P ρ (fun ρ o o' => ∃ B, ρ r = some (some B) ∧ r' = B.b ∧ B.ro = false ∧ B.s = 0 ∧ ObjRel P ρ B o o' ∧ plainObj o = true) (Go.getObj r) (Go.getObj r') := by
  intro ρ1 h w hl hs a h1 hr
  simp only [Go.getObj, arun] at hr
  cases ho : h[r]? with
  | none => rw [ho] at hr; cases hr
  | some o =>
    rw [ho] at hr
    dsimp only at hr
    split at hr
    · rename_i hp
      simp only [Option.some.injEq, Prod.mk.injEq] at hr
      obtain ⟨rfl, rfl⟩ := hr
      have dead : ρ1 r ≠ some none := fun hd => by
        rw [hs.dead _ hd] at ho; cases ho; cases hp
      have : ∃ B, ρ1 r = some (some B) ∧ r' = B.b := by
        rcases hm with hm | ⟨B, hB, e⟩
        · rcases hl _ _ hm with h | h <;> exact absurd h dead
        · rcases hl _ _ hB with h | h
          · exact ⟨B, h, e⟩
          · exact absurd h dead
      obtain ⟨B, hB, rfl⟩ := this
      obtain ⟨o2, o', q1, q2, q3⟩ := hs.live _ _ hB
      rw [ho] at q1; cases q1
      have hrun : (Go.getObj B.b).run P w = .ok o' w := by
        simp only [Go.getObj, Sem.run, q2]
        unfold ObjRel at q3
        split at q3
        · cases hp
        · rfl
        · rfl
        · cases hp
        · cases hp
        · exact q3.elim
      refine ⟨o', w, ρ1, hrun, .refl _ _ _, hs, B, hB, rfl, ?_, ?_, q3, hp⟩
      · unfold ObjRel at q3
        split at q3
        · cases hp
        · exact q3.2.1
        · exact q3.2.1
        · cases hp
        · cases hp
        · exact q3.elim
      · unfold ObjRel at q3
        split at q3
        · cases hp
        · exact q3.1
        · exact q3.1
        · cases hp
        · cases hp
        · exact q3.elim
    · cases hr

theorem ObjRel.of_map {B : Blk} {es : Array MapEntry} {k : Nat} {o' : Obj} (h : ObjRel P ρ B (.map es k) o') : ∃ es', o' = .map es' k ∧ ERel P ρ es.toList es'.toList := by
  cases o' with
  | map es' k' =>
    obtain ⟨_, _, rfl, h4, h5⟩ := h
    exact ⟨es', rfl, by simpa using h4, fun j m m' hm hm' => h5 j m m' (by simpa using hm) (by simpa using hm')⟩
  | _ => exact (show False from h).elim

theorem ObjRel.mk_map {B : Blk} {es es' : Array MapEntry} {k : Nat} (hs : B.s = 0) (hr : B.ro = false) (h : ERel P ρ es.toList es'.toList) : ObjRel P ρ B (.map es k) (.map es' k) :=
  ⟨hs, hr, rfl, by simpa using h.1, fun j m m' hm hm' => h.2 j m m' (by simpa using hm) (by simpa using hm')⟩

theorem SR.setObj {r r' : Nat} {B : Blk} {o o' : Obj} (hB : ρ r = some (some B)) (hr' : r' = B.b) (hro : B.ro = false) (hr : ObjRel P ρ B o o') :
    SR P ρ (fun _ _ _ => True) (Go.setObj r o) (Go.setObj r' o') := by
  intro ρ1 h w hl hs a h1 hrun
  simp only [Go.setObj, arun] at hrun
  cases ho : h[r]? with
  | none => rw [ho] at hrun; cases hrun
  | some o2 =>
    rw [ho] at hrun
    dsimp only at hrun
    split at hrun
    · rename_i hk
      simp only [Option.some.injEq, Prod.mk.injEq] at hrun
      obtain ⟨-, rfl⟩ := hrun
      subst hr'
      have hB1 : ρ1 r = some (some B) := by
        rcases hl _ _ hB with h | h
        · exact h
        · rw [hs.dead _ h] at ho; cases ho; cases o <;> cases hk
      obtain ⟨o3, o3', q1, q2, q3⟩ := hs.live _ _ hB1
      rw [ho] at q1; cases q1
      obtain ⟨g1, g2⟩ := hs.setObj hB1 hro (hr.mono hl)
      refine ⟨(), _, ρ1, ?_, g2, g1, trivial⟩
      simp only [Go.setObj, Sem.run, q2]
      unfold ObjRel at q3
      split at q3
      · cases o <;> cases hk
      · rfl
      · rfl
      · cases o <;> cases hk
      · cases o <;> cases hk
      · exact q3.elim
    · cases hrun

theorem mapRel {v v' : Value} (hv : VRel P ρ v v') {r : Nat} (h : v = .map (some r)) : ∃ r', v' = .map (some r') ∧ (ρ r = some none ∨ ∃ B, ρ r = some (some B) ∧ r' = B.b) := by
  subst h; cases hv with | map h => exact ⟨_, rfl, h⟩

theorem ERel.modify {es es' : Array MapEntry} (h : ERel P ρ es.toList es'.toList) (i : Nat) (f f' : MapEntry → MapEntry)
    (hf : ∀ m m', flat m.key = true → m'.key = m.key → VRel P ρ m.val m'.val → m.born = m'.born → flat (f m).key = true ∧ (f' m').key = (f m).key ∧ VRel P ρ (f m).val (f' m').val ∧ (f m).born = (f' m').born) :
    ERel P ρ (es.modify i f).toList (es'.modify i f').toList := by
  have hsz : es.size = es'.size := by simpa using h.1
  refine ⟨by simpa using hsz, fun j m m' hm hm' => ?_⟩
  simp only [Array.getElem?_toList, Array.getElem?_modify] at hm hm'
  split at hm
  · rename_i e
    rw [if_pos e] at hm'
    simp only [Option.map_eq_some_iff] at hm hm'
    obtain ⟨a, ha, rfl⟩ := hm
    obtain ⟨a', ha', rfl⟩ := hm'
    obtain ⟨k1, k2, k3, k4⟩ := h.2 j a a' (by simpa using ha) (by simpa using ha')
    exact hf a a' k1 k2 k3 k4
  · rename_i e
    rw [if_neg e] at hm'
    exact h.2 j m m' (by simpa using hm) (by simpa using hm')

theorem ERel.push {es es' : Array MapEntry} (h : ERel P ρ es.toList es'.toList) {m m' : MapEntry} (h1 : flat m.key = true) (h2 : m'.key = m.key) (h3 : VRel P ρ m.val m'.val) (h4 : m.born = m'.born) :
    ERel P ρ (es.push m).toList (es'.push m').toList := by
  have hsz : es.size = es'.size := by simpa using h.1
  refine ⟨by simp [hsz], fun j x x' hx hx' => ?_⟩
  rw [Array.getElem?_toList, Array.getElem?_push] at hx hx'
  rw [← hsz] at hx'
  split at hx
  · rename_i e
    rw [if_pos e] at hx'
    cases hx; cases hx'
    exact ⟨h1, h2, h3, h4⟩
  · rename_i e
    rw [if_neg e] at hx'
    exact h.2 j x x' (by simpa using hx) (by simpa using hx')

theorem ERel.key {es es' : Array MapEntry} (h : ERel P ρ es.toList es'.toList) (i : Nat) (k : Value) (hk : flat k = true) :
    ((es[i]?).map (·.key)).getD k = ((es'[i]?).map (·.key)).getD k ∧ flat (((es[i]?).map (·.key)).getD k) = true := by
  have hsz : es.size = es'.size := by simpa using h.1
  cases he : es[i]? with
  | none =>
    have : es'[i]? = none := by
      rw [Array.getElem?_eq_none_iff] at he ⊢; omega
    rw [this]; exact ⟨rfl, hk⟩
  | some m =>
    have hlt : i < es'.size := by rw [← hsz]; exact (Array.getElem?_eq_some_iff.1 he).1
    obtain ⟨k1, k2, _, _⟩ := h.2 i m es'[i] (by simpa using he) (by rw [Array.getElem?_toList]; exact Array.getElem?_eq_getElem hlt)
    rw [Array.getElem?_eq_getElem hlt]
    exact ⟨k2.symm, k1⟩

theorem quiet_keyThatStays (a b : Value) : quiet P (Instr.keyThatStays a b) := by
  unfold Instr.keyThatStays
  split <;> trivial

theorem keyThatStays_flat {a b : Value} {h h1 : H} {r : Value} (ha : flat b = true) (hr : arun P (Instr.keyThatStays a b) h = some (r, h1)) : flat r = true := by
  unfold Instr.keyThatStays at hr
  split at hr
  · simp at hr; rw [← hr.1]; exact ha
  · simp at hr

theorem SR.setObj' {ρ' : Ren} {r : Nat} {B : Blk} {o o' : Obj} (hB : ρ r = some (some B)) (hl : Ren.Le ρ ρ') (hro : B.ro = false) (hr : ObjRel P ρ' B o o') :
    SR P ρ' (fun _ _ _ => True) (Go.setObj r o) (Go.setObj B.b o') := by
  rcases hl _ _ hB with hB5 | hB5
  · exact SR.setObj hB5 rfl hro hr
  · intro ρ6 h w hl6 hs6 a h1 hrun
    exfalso
    have hd6 : ρ6 r = some none := by rcases hl6 _ _ hB5 with h | h <;> exact h
    simp only [Go.setObj, arun, hs6.dead _ hd6, tomb] at hrun
    cases o <;> simp [sameKind] at hrun

theorem SR.mapUpdate {m m' v v' k k' : Value} (t : TypeId) (hm : VRel P ρ m m') (hk : flat k = true) (hkk : VRel P ρ k k') (hv : VRel P ρ v v') : SR P ρ (fun _ _ _ => True) (Instr.mapUpdate t m k v) (Instr.mapUpdate t m' k' v') := by
  obtain rfl := flat_eq hk hkk
  unfold Instr.mapUpdate
  refine SR.bind (SR.underlying t) fun ρ1 d d' hl hd => ?_
  obtain ⟨rfl, _⟩ := hd
  cases d with
  | map keyType elem =>
    dsimp only
    have hm1 := hm.mono hl
    cases hm1 with
    | nilm => exact SR.fail fun _ => rfl
    | map hr =>
      dsimp only
      refine SR.bind (SR.getObj hr) fun ρ2 o o' hl2 ho => ?_
      obtain ⟨B, hB, rfl, hro, hs0, hrel, hp⟩ := ho
      cases o with
      | map es clock =>
        obtain ⟨es', rfl, hes⟩ := hrel.of_map
        dsimp only
        refine SR.bind (SR.quiet (quiet_checkKey _ _ _ _)) fun ρ3 _ _ hl3 _ => ?_
        refine SR.bind (SR.findKey keyType k' (hes.mono hl3)) fun ρ4 x x' hl4 hx => ?_
        have hes4 := (hes.mono hl3).mono hl4
        have hv4 := (((hv.mono hl).mono hl2).mono hl3).mono hl4
        rcases hx with ⟨rfl, rfl⟩ | ⟨i, u, u', rfl, rfl, hu⟩
        · exact SR.setObj' hB (hl3.trans hl4) hro (ObjRel.mk_map hs0 hro (hes4.push hk rfl hv4 rfl))
        · dsimp only
          obtain ⟨hkey, hkf⟩ := hes4.key i k' hk
          rw [← hkey]
          intro ρ5 h w hl5 hs5 a h1 hrun
          simp only [arun_bind, Option.bind_eq_some_iff] at hrun
          obtain ⟨⟨r, h2⟩, hr1, hr2⟩ := hrun
          have hfr := keyThatStays_flat hk hr1
          obtain ⟨rfl, hq⟩ := quiet_run _ (quiet_keyThatStays _ _) _ _ _ hr1
          obtain ⟨b, w1, ρ6, g1, g2, g3, g4⟩ := SR.setObj' (o' := .map (es'.modify i fun e => { e with key := r, val := v' }) clock) hB ((hl3.trans hl4).trans hl5) hro
            (ObjRel.mk_map hs0 hro ((hes4.mono hl5).modify i (fun e => { e with key := r, val := v }) (fun e => { e with key := r, val := v' }) fun m m' _ _ _ hb => ⟨hfr, rfl, hv4.mono hl5, hb⟩)) ρ5 _ w (.refl _) hs5 _ _ hr2
          exact ⟨b, w1, ρ6, by simp [hq, g1], g2, g3, g4⟩
      | _ => exact SR.stuck
    | _ => exact SR.stuck
  | _ => exact SR.stuck

theorem SV.lookup {m m' k k' : Value} (t : TypeId) (ok : Bool) (hz : ∀ a e, P.underlying t = some (.map a e) → zok P e = true) (hm : VRel P ρ m m') (hk : flat k = true) (hkk : VRel P ρ k k') :
    SV P ρ (Instr.lookup t m k ok) (Instr.lookup t m' k' ok) := by
  obtain rfl := flat_eq hk hkk
  unfold Instr.lookup
  refine SR.bind (SR.underlying t) fun ρ1 d d' hl hd => ?_
  obtain ⟨rfl, hd⟩ := hd
  cases d with
  | map keyType elem =>
    dsimp only
    have rest : ∀ {ρ2 : Ren} {es es' : Array MapEntry}, ERel P ρ2 es.toList es'.toList → SV P ρ2
        (do Instr.checkKey es.isEmpty 10000 keyType k'
            match ← Instr.findKey keyType k' es.toList with
            | some (_, v) => do let x ← Pure.pure (v, true); (match x with | (v, ok1) => Pure.pure (if ok = true then .tuple #[v, .bool ok1] else v))
            | none => do let z ← Go.zeroValue elem; let x ← Pure.pure (z, false); (match x with | (v, ok1) => Pure.pure (if ok = true then .tuple #[v, .bool ok1] else v)))
        (do Instr.checkKey es'.isEmpty 10000 keyType k'
            match ← Instr.findKey keyType k' es'.toList with
            | some (_, v) => do let x ← Pure.pure (v, true); (match x with | (v, ok1) => Pure.pure (if ok = true then .tuple #[v, .bool ok1] else v))
            | none => do let z ← Go.zeroValue elem; let x ← Pure.pure (z, false); (match x with | (v, ok1) => Pure.pure (if ok = true then .tuple #[v, .bool ok1] else v))) := by
      intro ρ2 es es' hes
      have hem : es.isEmpty = es'.isEmpty := by
        have : es.size = es'.size := by simpa using hes.1
        simp [Array.isEmpty, this]
      rw [hem]
      have two : ∀ {ρ3 : Ren} {v v' : Value} (b : Bool), VRel P ρ3 v v' → VRel P ρ3 (if ok = true then .tuple #[v, .bool b] else v) (if ok = true then .tuple #[v', .bool b] else v') := by
        intro ρ3 v v' b hv
        split
        · refine .tuple rfl fun i u u' hu hu' => ?_
          match i with
          | 0 => simp at hu hu'; subst hu; subst hu'; exact hv
          | 1 => simp at hu hu'; subst hu; subst hu'; exact .bool b
          | i + 2 => simp at hu
        · exact hv
      refine SR.bind (SR.quiet (quiet_checkKey _ _ _ _)) fun ρ3 _ _ hl3 _ => ?_
      refine SR.bind (SR.findKey keyType k' (hes.mono hl3)) fun ρ4 x x' hl4 hx => ?_
      rcases hx with ⟨rfl, rfl⟩ | ⟨i, u, u', rfl, rfl, hu⟩
      · refine SR.bind (SV.zeroValue (hz _ _ hd)) fun ρ5 z z' hl5 hzz => ?_
        exact SR.pure fun _ hl6 => two false (hzz.mono hl6)
      · exact SR.pure fun _ hl6 => two true (hu.mono hl6)
    have hm1 := hm.mono hl
    cases hm1 with
    | nilm => exact rest (es := #[]) (es' := #[]) ⟨rfl, fun j m m' h => by simp at h⟩
    | map hr =>
      dsimp only
      refine SR.bind (SR.getObj hr) fun ρ2 o o' hl2 ho => ?_
      obtain ⟨B, hB, rfl, hro, hs0, hrel, hp⟩ := ho
      cases o with
      | map es clock =>
        obtain ⟨es', rfl, hes⟩ := hrel.of_map
        exact rest hes
      | _ => exact SR.fail fun _ => rfl
    | _ => exact SR.fail fun _ => rfl
  | _ => exact SR.stuck

end Go.Abs
