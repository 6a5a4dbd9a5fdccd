/-
The abstract heap: a drawn region, piece by piece.
-/
import Derived.Test.YtgeoihombkjgnaaGreatDoorBwAbsV
namespace Go.Abs
open Go
variable {P : Program} {Γ : Gl} {ρ : Ren} {α β : Type}

def evPart (P : Program) (call : Caller) (ops : Array Oper) : List (Nat × Bool) → List Fact → Act → H → Option (Act × H × List Fact)
  | [], F, a, h => some (a, h, F)
  | (i, e) :: L, F, a, h =>
    match ops[i]? with
    | none => none
    | some o =>
      if Region.wanted o (yielded ops a.tmps) = true then
        if e = true then
          match aop P a o h with
          | some (.val v h1) =>
            if takes o = true then evPart P call ops L (if asks o = true then ⟨i, o, v, a⟩ :: F else F) (a.put o.dst v) h
            else if (h1[h.size]?).any (belowO h.size) = true ∧ (F.all (Fact.holds P ops · h1)) = true then evPart P call ops L F (a.put o.dst v) h1
            else none
          | _ => none
        else
          match evOp P call o a h with
          | some (a1, h1) =>
            if (F.filter fun f => !waits ops i f.i).all (Fact.holds P ops · h1) = true then evPart P call ops L (F.filter fun f => !waits ops i f.i) a1 h1 else none
          | none => none
      else if e = true then evPart P call ops L (if takes o = true ∧ asks o = true then ⟨i, o, undef, a⟩ :: F else F) (a.put o.dst undef) h
      else if (F.filter fun f => !waits ops i f.i).all (Fact.holds P ops · h) = true then evPart P call ops L (F.filter fun f => !waits ops i f.i) (a.put o.dst undef) h
      else none

theorem evPart_sound {call : Caller} (hc : Callable P Γ call) {ops : Array Oper} : ∀ (L L2 : List (Nat × Bool)) (F F1 : List Fact) (a a1 : Act) (h h1 : H) (K : Act → H → Prop), (∀ f ∈ F, (Region.wanted f.o (yielded ops f.a.tmps) = true ∨ f.v = undef) ∧ takes f.o = true) →
    evPart P call ops L F a h = some (a1, h1, F1) → DPlan P Γ ops K L2 (F1.map (Fact.prop P ops)) a1 h1 → DPlan P Γ ops K (L ++ L2) (F.map (Fact.prop P ops)) a h := by
  intro L
  induction L with
  | nil => intro L2 F F1 a a1 h h1 K _ he hk; cases he; exact hk
  | cons x L ih =>
    obtain ⟨i, e⟩ := x
    intro L2 F F1 a a1 h h1 K hF he hk
    rw [List.cons_append]
    unfold evPart at he
    unfold DPlan
    cases hi : ops[i]? with
    | none => rw [hi] at he; cases he
    | some o =>
      simp only [hi] at he ⊢
      have facts : ∀ (G : List Fact) (k : H), (∀ f ∈ G, f ∈ F) → G.all (Fact.holds P ops · k) = true → ∀ x ∈ G.map (Fact.prop P ops), x.2 k := by
        intro G k hG hall x hx
        obtain ⟨f, hf, rfl⟩ := List.mem_map.1 hx
        exact Fact.finds (hF f (hG f hf)).1 (hF f (hG f hf)).2 (List.all_eq_true.1 hall f hf)
      by_cases hw : Region.wanted o (yielded ops a.tmps) = true
      · rw [if_pos hw] at he
        cases e with
        | true =>
          simp only [if_true] at he ⊢
          split at he
          · rename_i v h2 hv
            by_cases ht : takes o = true
            · rw [if_pos ht] at he ⊢
              refine ⟨v, .inl ⟨hw, aop_takes ht hv⟩, ?_⟩
              have := ih L2 _ _ _ _ _ _ K ?_ he hk
              · by_cases hk : asks o = true
                · simp only [hk, if_true] at this ⊢; exact this
                · rw [if_neg hk] at this ⊢; exact this
              · intro f hf
                split at hf
                · rcases List.mem_cons.1 hf with rfl | hf
                  · exact ⟨.inl hw, ht⟩
                  · exact hF f hf
                · exact hF f hf
            · rw [if_neg ht] at he ⊢
              rw [if_pos hw]
              split at he
              · rename_i hb
                exact ⟨v, h2, hv, hb.1, facts F h2 (fun _ h => h) hb.2, ih L2 _ _ _ _ _ _ K hF he hk⟩
              · cases he
          · cases he
        | false =>
          simp only [Bool.false_eq_true, if_false] at he ⊢
          split at he
          · rename_i a2 h2 hop
            split at he
            · rename_i hall
              refine evOp_sound hc hi hw hop ?_
              rw [keeps_facts]
              exact ⟨facts _ h2 (fun f hf => (List.mem_filter.1 hf).1) hall, ih L2 _ _ _ _ _ _ K (fun f hf => hF f (List.mem_filter.1 hf).1) he hk⟩
            · cases he
          · cases he
      · rw [if_neg hw] at he
        cases e with
        | true =>
          simp only [if_true] at he ⊢
          by_cases ht : takes o = true
          · rw [if_pos ht]
            refine ⟨undef, .inr ⟨by simpa using hw, rfl⟩, ?_⟩
            have := ih L2 _ _ _ _ _ _ K ?_ he hk
            · by_cases hk : asks o = true
              · simp only [hk, ht, and_self, if_true] at this ⊢; exact this
              · rw [if_neg (fun h => hk h.2)] at this; rw [if_neg hk]; exact this
            · intro f hf
              split at hf
              · rcases List.mem_cons.1 hf with rfl | hf
                · exact ⟨.inr rfl, ht⟩
                · exact hF f hf
              · exact hF f hf
          · rw [if_neg (fun h => ht h.1)] at he
            rw [if_neg ht, if_neg hw]
            exact ih L2 _ _ _ _ _ _ K hF he hk
        | false =>
          simp only [Bool.false_eq_true, if_false] at he ⊢
          split at he
          · rename_i hall
            unfold AOp
            simp only [hi]
            rw [if_neg hw]
            rw [keeps_facts]
            exact ⟨facts _ h (fun f hf => (List.mem_filter.1 hf).1) hall, ih L2 _ _ _ _ _ _ K (fun f hf => hF f (List.mem_filter.1 hf).1) he hk⟩
          · cases he

def FactOk (ops : Array Oper) (F : List Fact) : Prop := ∀ f ∈ F, (Region.wanted f.o (yielded ops f.a.tmps) = true ∨ f.v = undef) ∧ takes f.o = true

theorem evPart_facts {call : Caller} {ops : Array Oper} : ∀ (L : List (Nat × Bool)) (F F1 : List Fact) (a a1 : Act) (h h1 : H), FactOk ops F → evPart P call ops L F a h = some (a1, h1, F1) → FactOk ops F1 := by
  intro L
  induction L with
  | nil => intro F F1 a a1 h h1 hF he; cases he; exact hF
  | cons x L ih =>
    obtain ⟨i, e⟩ := x
    intro F F1 a a1 h h1 hF he
    unfold evPart at he
    cases hi : ops[i]? with
    | none => rw [hi] at he; cases he
    | some o =>
      simp only [hi] at he
      have sub : FactOk ops (F.filter fun f => !waits ops i f.i) := fun f hf => hF f (List.mem_filter.1 hf).1
      split at he
      · rename_i hw
        split at he
        · split at he
          · rename_i v h2 hv
            split at he
            · rename_i ht
              refine ih _ _ _ _ _ _ ?_ he
              intro f hf
              split at hf
              · rcases List.mem_cons.1 hf with rfl | hf
                · exact ⟨.inl hw, ht⟩
                · exact hF f hf
              · exact hF f hf
            · split at he
              · exact ih _ _ _ _ _ _ hF he
              · cases he
          · cases he
        · split at he
          · split at he
            · exact ih _ _ _ _ _ _ sub he
            · cases he
          · cases he
      · rename_i hw
        split at he
        · refine ih _ _ _ _ _ _ ?_ he
          intro f hf
          split at hf
          · rename_i hc
            rcases List.mem_cons.1 hf with rfl | hf
            · exact ⟨.inr rfl, hc.1⟩
            · exact hF f hf
          · exact hF f hf
        · split at he
          · exact ih _ _ _ _ _ _ sub he
          · cases he

/-- A piece of a plan, of which it is left to counting where it ends. -/
theorem DPlan.evs {call : Caller} (hc : Callable P Γ call) {ops : Array Oper} (l m : List (Nat × Bool)) {F : List Fact} {a : Act} {h : H} {K : Act → H → Prop} (hF : FactOk ops F) (hs : (evPart P call ops l F a h).isSome = true)
    (hk : ∀ F1, FactOk ops F1 → F1 = (match evPart P call ops l F a h with | some r => r.2.2 | none => []) → DPlan P Γ ops K m (F1.map (Fact.prop P ops)) (match evPart P call ops l F a h with | some r => r.1 | none => a) (match evPart P call ops l F a h with | some r => r.2.1 | none => h)) :
    DPlan P Γ ops K (l ++ m) (F.map (Fact.prop P ops)) a h := by
  cases he : evPart P call ops l F a h with
  | none => rw [he] at hs; cases hs
  | some r =>
    obtain ⟨a1, h1, F1⟩ := r
    rw [he] at hk
    exact evPart_sound hc l m F F1 a a1 h h1 K hF he (hk F1 (evPart_facts l F F1 a a1 h h1 hF he) rfl)

/-- An operation taken early whose value is told. -/
theorem DPlan.at {ops : Array Oper} {i : Nat} {m : List (Nat × Bool)} {F : List Fact} {a : Act} {h : H} {K : Act → H → Prop} (v : Value) (hi : decide (i < ops.size) = true) (hw : Region.wanted (ops.getD i default) (yielded ops a.tmps) = true)
    (ht : takes (ops.getD i default) = true) (hv : aop P a (ops.getD i default) h = some (.val v h))
    (hk : ∀ F1, FactOk ops F1 → DPlan P Γ ops K m (F1.map (Fact.prop P ops)) (a.put (ops.getD i default).dst v) h) (hF : FactOk ops F) : DPlan P Γ ops K ((i, true) :: m) (F.map (Fact.prop P ops)) a h := by
  unfold DPlan
  simp only [getD_some hi, if_true, ht]
  refine ⟨v, .inl ⟨hw, hv⟩, ?_⟩
  split
  · have := hk (⟨i, ops.getD i default, v, a⟩ :: F) fun f hf => by
      rcases List.mem_cons.1 hf with rfl | hf
      · exact ⟨.inl hw, ht⟩
      · exact hF f hf
    exact this
  · exact hk F hF

end Go.Abs
