/-
The abstract heap: operations that make new memory.
-/
import Derived.Test.YtgeoihombkjgnaaGreatDoorBwAbsN
namespace Go.Abs
open Go
variable {P : Program} {ρ : Ren} {α β : Type}

def refOf : Value → Option Nat
  | .pointer (some a) => some a.block
  | .slice (some a) _ _ => some a.block
  | .map (some r) => some r
  | _ => none

def reblock (v : Value) (n : Nat) : Value :=
  match v with
  | .pointer (some a) => .pointer (some { a with block := n })
  | .slice (some a) l c => .slice (some { a with block := n }) l c
  | .map (some _) => .map (some n)
  | v => v

theorem reblock_self {v : Value} {n : Nat} (h : refOf v = some n) : reblock v n = v := by
  unfold refOf at h
  split at h <;> cases h <;> rfl

theorem reblock_twice (v : Value) (n m : Nat) : reblock (reblock v n) m = reblock v m := by
  cases v with
  | pointer a => cases a <;> rfl
  | slice a l c => cases a <;> rfl
  | map r => cases r <;> rfl
  | _ => rfl

theorem refOf_reblock {v : Value} {n : Nat} (h : refOf v = some n) (m : Nat) : refOf (reblock v m) = some m := by
  unfold refOf at h
  split at h <;> cases h <;> rfl

/-- A program that makes one new object, the same in each heap. -/
def freshS (P : Program) (s : Sem Value) : Prop := ∀ h v h1, arun P s h = some (v, h1) →
  ∃ ob, h1 = h.push ob ∧ ob ≠ tomb ∧ refOf v = some h.size ∧ ∀ g, arun P s g = some (reblock v g.size, g.push ob)

theorem fresh_bind {s : Sem α} {f : α → Sem Value} (hs : quiet P s) (hf : ∀ a, freshS P (f a)) : freshS P (s >>= f) := by
  intro h v h1 hr
  rw [arun_bind, Option.bind_eq_some_iff] at hr
  obtain ⟨⟨a, h2⟩, e1, e2⟩ := hr
  have hq := fun g => quiet_still s hs h g a h2 e1
  obtain rfl := (hq h).1
  obtain ⟨ob, g1, g2, g3, g4⟩ := hf a _ v h1 e2
  exact ⟨ob, g1, g2, g3, fun g => by rw [arun_bind, (hq g).2]; exact g4 g⟩

theorem fresh_none {s : Sem Value} (hs : ∀ h, arun P s h = none) : freshS P s := fun h v h1 hr => by rw [hs] at hr; cases hr

theorem fresh_newObj (o : Obj) (mk : Nat → Value) (hk : ∀ n, refOf (mk n) = some n) (hm : ∀ n m, reblock (mk n) m = mk m) : freshS P (do let r ← newObj o; Pure.pure (mk r)) := by
  intro h v h1 hr
  have e0 : (do let r ← newObj o; Pure.pure (mk r) : Sem Value) = Sem.new o fun r => .pure (mk r) := rfl
  rw [e0] at hr
  simp only [arun] at hr
  split at hr
  · rename_i hp
    cases hr
    refine ⟨o, rfl, ?_, hk _, fun g => ?_⟩
    · rintro rfl; cases hp
    · rw [e0, hm]; simp only [arun, hp, if_true]
  · rename_i hp
    split at hr
    · rename_i c e
      split at hr
      · rename_i ha
        cases hr
        refine ⟨_, rfl, (by intro h; cases h), hk _, fun g => ?_⟩
        rw [e0, hm]; simp only [arun, hp]
        simp [ha]
      · cases hr
    · cases hr

theorem fresh_newRow (e : TypeId) (cs : Array Value) (mk : Addr → Value) (hk : ∀ n, refOf (mk ⟨n, 0, none⟩) = some n) (hm : ∀ n m, reblock (mk ⟨n, 0, none⟩) m = mk ⟨m, 0, none⟩) :
    freshS P (do let r ← newRow e cs; Pure.pure (mk r)) :=
  fresh_newObj (.cells cs e) (fun r => mk ⟨r, 0, none⟩) hk hm

theorem quiet_zeroValue (t : TypeId) : quiet P (Go.zeroValue t) := by
  refine quiet_bind _ _ (quiet_typeInfo t) fun i => ?_
  split <;> trivial

theorem fresh_alloc (e : TypeId) : freshS P (Instr.alloc e true (.tuple #[])) := by
  unfold Instr.alloc
  refine fresh_bind (quiet_zeroValue e) fun z => ?_
  exact fresh_newRow e z.cells (fun a => .pointer (some a)) (fun _ => rfl) fun _ _ => rfl

theorem fresh_box (e : TypeId) (v : Value) : freshS P (Instr.box e v) :=
  fresh_newRow e v.cells (fun a => .pointer (some a)) (fun _ => rfl) fun _ _ => rfl

theorem fresh_buildSlice (t : TypeId) (n : Nat) (ps : Array (Nat × Value)) : freshS P (Instr.buildSlice t n ps) := by
  unfold Instr.buildSlice
  refine fresh_bind (quiet_underlying t) fun d => ?_
  split
  · rename_i elem
    refine fresh_bind (quiet_sizeOf _) fun sz => ?_
    dsimp only
    have tail : ∀ zero : Array Value, freshS P (match Instr.fill (fun i => some (i * sz, sz)) (Array.map (fun x => zero[x % zero.size]!) (Array.range (n * sz))) ps.toList with
          | some cells => do
            let a ← newRow elem cells
            Pure.pure (Value.slice (some a) n n)
          | _ => stuck "buildSlice: a part of the wrong size") := by
      intro zero
      split
      · exact fresh_newRow _ _ (fun a => .slice (some a) n n) (fun _ => rfl) fun _ _ => rfl
      · exact fresh_none fun h => rfl
    by_cases hc : n * sz > 2 ^ 24
    · rw [if_pos hc]; exact fresh_none fun h => rfl
    · rw [if_neg hc]
      by_cases h0 : n * sz = 0
      · rw [if_pos h0]; exact fresh_bind (s := Pure.pure #[]) trivial fun z => tail z
      · rw [if_neg h0]; exact fresh_bind (quiet_zeroValue _) fun z => fresh_bind (s := Pure.pure z.cells) trivial fun z => tail z
  · exact fresh_none fun h => rfl

theorem fresh_makeMap (t : TypeId) : freshS P (Instr.makeMap t none) :=
  fresh_newObj (.map #[] 0) (fun r => .map (some r)) (fun _ => rfl) fun _ _ => rfl

def news (o : Oper) : Bool :=
  match o.op with
  | .alloc _ | .box _ _ | .buildSlice _ _ _ | .makeMap _ none => true
  | _ => false

theorem aop_news {a : Act} {o : Oper} {h h1 : H} {v : Value} (hn : news o = true) (hr : aop P a o h = some (.val v h1)) :
    ∃ ob, h1 = h.push ob ∧ ob ≠ tomb ∧ refOf v = some h.size ∧ ∀ g, aop P a o g = some (.val (reblock v g.size) (g.push ob)) := by
  have key : ∀ {s : Sem Value} {h1 : H} {v : Value}, freshS P s → vals (arun P s h) = some (.val v h1) → ∃ ob, h1 = h.push ob ∧ ob ≠ tomb ∧ refOf v = some h.size ∧ ∀ g, vals (arun P s g) = some (.val (reblock v g.size) (g.push ob)) := by
    intro s h1 v hs hr
    unfold vals at hr
    simp only [Option.map_eq_some_iff] at hr
    obtain ⟨⟨u, h2⟩, hr, e⟩ := hr
    cases e
    obtain ⟨ob, g1, g2, g3, g4⟩ := hs h _ _ hr
    exact ⟨ob, g1, g2, g3, fun g => by rw [g4 g]; rfl⟩
  unfold aop at hr ⊢
  split at hr
  · rename_i hok
    simp only [if_pos hok]
    unfold news at hn
    generalize o.op = op at *
    cases op <;> first | (simp at hn; done) | skip
    case alloc e =>
      dsimp only at hr ⊢
      split at hr
      · rename_i hz
        simp only [if_pos hz]
        exact key (fresh_alloc e) hr
      · cases hr
    case box e x => exact key (fresh_box e _) hr
    case buildSlice t n ps =>
      dsimp only at hr ⊢
      split at hr
      · rename_i hz
        simp only [if_pos hz]
        exact key (fresh_buildSlice t n _) hr
      · cases hr
    case makeMap t r =>
      cases r with
      | none => exact key (fresh_makeMap t) hr
      | some x => cases hn
  · cases hr

def belowV (n : Nat) (v : Value) : Bool :=
  flat1 v || match v with
  | .pointer (some a) => decide (a.block < n)
  | .slice (some a) _ _ => decide (a.block < n)
  | .map (some r) => decide (r < n)
  | _ => false

def belowO (n : Nat) : Obj → Bool
  | .cells c _ _ => c.all (belowV n)
  | .map es _ => es.isEmpty
  | _ => false

theorem VRel.under {ρ1 ρ2 : Ren} {n : Nat} {v v' : Value} (hb : belowV n v = true) (he : ∀ k, k < n → ρ1 k = ρ2 k) (h : VRel P ρ1 v v') : VRel P ρ2 v v' := by
  unfold belowV at hb
  rw [Bool.or_eq_true] at hb
  rcases hb with hb | hb
  · have hf : flat v = true := by
      unfold flat; cases v <;> first | exact hb | (simp [flat1] at hb)
    rw [flat_eq hf h]; exact flat_rel hf
  · cases h with
    | @ptr a a' ha =>
      have hlt : a.block < n := by simpa using hb
      refine .ptr ⟨ha.1, ?_⟩
      rw [← he _ hlt]; exact ha.2
    | @slc a a' l c h1 h2 h3 =>
      have hlt : a.block < n := by simpa using hb
      refine .slc h1 h2 (h3.imp (fun ha => ⟨ha.1, ?_⟩) id)
      rw [← he _ hlt]; exact ha.2
    | @opn a a' l c ho =>
      have hlt : a.block < n := by simpa using hb
      refine .opn ⟨ho.1, ?_⟩
      rw [← he _ hlt]; exact ho.2
    | @map r r' hm =>
      have hlt : r < n := by simpa using hb
      refine .map ?_
      rw [← he _ hlt]; exact hm
    | _ => cases hb

theorem ObjRel.under {ρ1 ρ2 : Ren} {n : Nat} {B : Blk} {o o' : Obj} (hb : belowO n o = true) (he : ∀ k, k < n → ρ1 k = ρ2 k) (h : ObjRel P ρ1 B o o') : ObjRel P ρ2 B o o' := by
  unfold belowO at hb
  cases o with
  | cells c e f =>
    cases o' with
    | cells c' e' f' =>
      obtain ⟨a1, a2, a3, a4, a5, a6, a7⟩ := h
      refine ⟨a1, a2, a3, a4, fun j v v' hv hv' => ?_, a6, a7⟩
      have := (Array.all_eq_true.1 hb) j (Array.getElem?_eq_some_iff.1 hv).1
      rw [(Array.getElem?_eq_some_iff.1 hv).2] at this
      exact (a5 j v v' hv hv').under this he
    | _ => exact h.elim
  | map es k =>
    cases o' with
    | map es' k' =>
      obtain ⟨a1, a2, a3, a4, a5⟩ := h
      refine ⟨a1, a2, a3, a4, fun j m m' hm hm' => ?_⟩
      have h0 : es = #[] := by simpa using hb
      subst h0
      simp at hm
    | _ => exact h.elim
  | _ => cases hb

/-- A block that nobody knew of comes to light. -/
theorem reveal {h h0 : H} {w0 w w1 : World} {ρ0 ρ1 : Ren} {n : Nat} {ob : Obj} (hl0 : Later ρ0 h0 w0 ρ h w) (hs : Sim P ρ h w) (hn : ρ n = none) (h0n : h0.size ≤ n) (hob : h[n]? = some ob) (hb : belowO n ob = true) (hnt : ob ≠ tomb)
    (hl : Later ρ h w ρ1 (h.push ob) w1) (hs1 : Sim P ρ1 (h.push ob) w1) :
    ∃ ρ2, Later ρ0 h0 w0 ρ2 h w1 ∧ Sim P ρ2 h w1 ∧ Ren.Le ρ ρ2 ∧ (∀ k, k < h.size → k ≠ n → ρ k = none → ρ2 k = none) ∧ ∀ v v', refOf v = some h.size → VRel P ρ1 v v' → VRel P ρ2 (reblock v n) v' := by
  have hlt : n < h.size := (Array.getElem?_eq_some_iff.1 hob).1
  let ρ2 : Ren := fun k => if k = n then ρ1 h.size else if k < h.size then ρ1 k else none
  have e1 : ρ2 n = ρ1 h.size := if_pos rfl
  have e2 : ∀ k, k < h.size → k ≠ n → ρ2 k = ρ1 k := fun k hk hne => by show (if k = n then _ else _) = _; rw [if_neg hne, if_pos hk]
  have e3 : ∀ k, ¬ k < h.size → ρ2 k = none := fun k hk => by show (if k = n then _ else _) = _; rw [if_neg (by omega), if_neg hk]
  have hin : ∀ k t, ρ k = some t → k < h.size ∧ k ≠ n := fun k t hk => ⟨hs.lt hk, by rintro rfl; rw [hn] at hk; cases hk⟩
  have hget : ∀ k, k < h.size → (h.push ob)[k]? = h[k]? := fun k hk => by rw [Array.getElem?_push, if_neg (by omega)]
  have hlive : ∀ i B, ρ i = some (some B) → ρ1 i = some (some B) := fun i B hB => by
    rcases hl.le i _ hB with h | hd
    · exact h
    · exfalso
      have h1t := hs1.dead i hd
      rw [hget i (hin i _ hB).1] at h1t
      obtain ⟨o, o', q1, q2, q3⟩ := hs.live i B hB
      rw [h1t] at q1; cases q1
      exact q3.not_tomb
  have hle : Ren.Le ρ ρ2 := fun k t hk => by rw [e2 k (hin k t hk).1 (hin k t hk).2]; exact hl.le k t hk
  have T := hl0.trans hl
  refine ⟨ρ2, ⟨?_, hl0.size, T.wsize, T.os, T.tape, T.output, fun i hi hni => ?_, T.frame, fun i B hB => ?_⟩, ⟨fun i B hB => ?_, fun i hi => ?_, fun i j B C hB hC hBC => ?_⟩, hle, fun k hk hkn hk0 => ?_, fun v v' hv hvv => ?_⟩
  · exact hl0.le.trans hle
  · have := T.none i hi hni
    have hi2 : i < h.size := Nat.lt_of_lt_of_le hi hl0.size
    rw [hget i hi2] at this
    exact ⟨by rw [e2 i hi2 (by omega)]; exact this.1, this.2⟩
  · by_cases hin2 : i = n
    · subst hin2
      rw [e1] at hB
      rcases T.fresh _ B hB with h | h
      · exfalso
        have := hl0.le _ _ h
        rcases this with h | h <;> exact absurd (hs.lt h) (by omega)
      · exact .inr h
    · by_cases hi2 : i < h.size
      · rw [e2 i hi2 hin2] at hB; exact T.fresh i B hB
      · rw [e3 i hi2] at hB; cases hB
  · by_cases hin2 : i = n
    · subst hin2
      rw [e1] at hB
      obtain ⟨o, o', q1, q2, q3⟩ := hs1.live _ B hB
      rw [Array.getElem?_push, if_pos rfl] at q1
      cases q1
      refine ⟨ob, o', hob, q2, q3.under hb fun k hk => ?_⟩
      rw [e2 k (by omega) (by omega)]
    · by_cases hi2 : i < h.size
      · rw [e2 i hi2 hin2] at hB
        obtain ⟨o, o', q1, q2, q3⟩ := hs1.live _ B hB
        rw [hget i hi2] at q1
        refine ⟨o, o', q1, q2, ?_⟩
        have hB0 : ρ i = some (some B) := by
          cases hr : ρ i with
          | none => rw [(hl.none i hi2 hr).1] at hB; cases hB
          | some t =>
            rcases hl.le i t hr with h | h
            · rw [h] at hB; exact hB
            · rw [h] at hB; cases hB
        obtain ⟨o2, o2', p1, p2, p3⟩ := hs.live i B hB0
        rw [q1] at p1; cases p1
        exact (p3.back hlive q3).mono hle
      · rw [e3 i hi2] at hB; cases hB
  · by_cases hin2 : i = n
    · subst hin2
      rw [e1] at hi
      have := hs1.dead _ hi
      rw [Array.getElem?_push, if_pos rfl] at this
      cases this
      exact absurd rfl hnt
    · by_cases hi2 : i < h.size
      · rw [e2 i hi2 hin2] at hi
        have := hs1.dead _ hi
        rwa [hget i hi2] at this
      · rw [e3 i hi2] at hi; cases hi
  · have conv : ∀ i B, ρ2 i = some (some B) → ∃ k, ρ1 k = some (some B) ∧ ((i = n ∧ k = h.size) ∨ (i ≠ n ∧ k = i ∧ k < h.size)) := fun i B hB => by
      by_cases hin2 : i = n
      · exact ⟨h.size, by rw [hin2, e1] at hB; exact hB, .inl ⟨hin2, rfl⟩⟩
      · by_cases hi2 : i < h.size
        · exact ⟨i, by rw [e2 i hi2 hin2] at hB; exact hB, .inr ⟨hin2, rfl, hi2⟩⟩
        · rw [e3 i hi2] at hB; cases hB
    obtain ⟨k, hk, hk2⟩ := conv i B hB
    obtain ⟨l, hl2, hl3⟩ := conv j C hC
    have := hs1.one k l B C hk hl2 hBC
    omega
  · rw [e2 k hk hkn]; exact (hl.none k hk hk0).1
  · cases hvv with
    | @ptr a a' ha =>
      have hbk : a.block = h.size := by simpa [refOf] using hv
      refine .ptr ⟨ha.1, ?_⟩
      show ρ2 n = _ ∨ _
      rw [e1, ← hbk]
      exact ha.2
    | @slc a a' l c h1 h2 h3 =>
      have hbk : a.block = h.size := by simpa [refOf] using hv
      refine .slc h1 h2 (h3.imp (fun ha => ⟨ha.1, ?_⟩) id)
      show ρ2 n = _ ∨ _
      rw [e1, ← hbk]
      exact ha.2
    | @opn a a' l c ho =>
      have hbk : a.block = h.size := by simpa [refOf] using hv
      refine .opn ⟨ho.1, ?_⟩
      show ρ2 n = _ ∨ _
      rw [e1, ← hbk]
      exact ho.2
    | @map r r' hm =>
      have hbk : r = h.size := by simpa [refOf] using hv
      refine .map ?_
      show ρ2 n = _ ∨ _
      rw [e1, ← hbk]
      exact hm
    | _ => cases hv

end Go.Abs
