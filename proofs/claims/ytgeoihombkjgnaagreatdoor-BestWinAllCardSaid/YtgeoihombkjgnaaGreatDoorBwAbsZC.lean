/-
The quick runs: code and calls.
-/
import Derived.Test.YtgeoihombkjgnaaGreatDoorBwAbsZB
namespace Go.Abs
open Go
variable {P : Program} {Γ : Gl} {ρ : Ren} {α β : Type}

theorem FA.ext_toA {x : FA} {A : Act} (h1 : x.ds = A.defers) (h2 : ∀ i, x.get i = A.tmps[i]?) : x.toA = A := by
  have ht : x.toA.tmps = A.tmps := by
    apply Array.ext_getElem?
    intro i
    rw [FA.get_toA, h2]
  have hd : x.toA.defers = A.defers := h1
  generalize x.toA = X at ht hd
  cases X; cases A
  simp only at ht hd
  rw [ht, hd]

theorem look_numbered (l : List Value) : ∀ (k i : Nat), look undef (numbered k l) i = if k ≤ i then (l[i - k]?).getD undef else undef := by
  induction l with
  | nil => intro k i; simp [numbered, look]
  | cons v l ih =>
    intro k i
    rw [numbered, look_cons, ih]
    by_cases h : k = i
    · subst h; simp
    · rw [if_neg h]
      by_cases h2 : k ≤ i
      · have h3 : k + 1 ≤ i := by omega
        rw [if_pos h2, if_pos h3]
        have : i - k = (i - (k + 1)) + 1 := by omega
        rw [this, List.getElem?_cons_succ]
      · rw [if_neg h2, if_neg (by omega)]

theorem startF_toA (fn : Func) (args : Array Value) : (startF fn args).toA = start fn args := by
  refine FA.ext_toA rfl fun i => ?_
  show (startF fn args).get i = (args ++ Array.replicate (fn.ntmps - args.size) undef)[i]?
  unfold FA.get startF
  simp only [blt_iff, look_numbered, Nat.zero_le, if_true, Nat.sub_zero]
  rw [Array.getElem?_append, Array.getElem?_replicate]
  by_cases h1 : i < args.size
  · have h2 : i < args.size + (fn.ntmps - args.size) := by omega
    simp [h1, h2]
  · by_cases h2 : i < args.size + (fn.ntmps - args.size)
    · have h3 : i - args.size < fn.ntmps - args.size := by omega
      simp [h1, h2, h3]
    · have h3 : ¬ i - args.size < fn.ntmps - args.size := by omega
      simp [h1, h2, h3]

theorem numbered_toA (x : Array Value) : (FA.mk x.size (numbered 0 x.toList) []).toA = { tmps := x, defers := [] } := by
  refine FA.ext_toA rfl fun i => ?_
  unfold FA.get
  simp only [blt_iff, look_numbered, Nat.zero_le, if_true, Nat.sub_zero]
  by_cases h1 : i < x.size
  · simp [h1]
  · simp [h1]

theorem bindArgsF_toA (params : Array Tmp) (args tmps : Array Value) : (bindArgsF params args tmps).toA = { tmps := bindArgs params args tmps, defers := [] } := by
  unfold bindArgsF bindArgs
  rw [← Array.foldl_toList, Array.toList_zip]
  have key : ∀ (l : List (Nat × Value)) (a : FA) (t : Array Value), a.toA = { tmps := t, defers := [] } →
      (l.foldl (fun a (x : Nat × Value) => a.put (some x.1) x.2) a).toA = { tmps := l.foldl (fun t (x : Nat × Value) => t.setIfInBounds x.1 x.2) t, defers := [] } := by
    intro l
    induction l with
    | nil => intro a t h; exact h
    | cons x l ih =>
      intro a t h
      refine ih _ _ ?_
      rw [FA.put_toA, h]
      rfl
  exact key _ _ _ (numbered_toA tmps)

theorem tmpsF_eq (a : FA) : tmpsF a = a.toA.tmps := by
  apply Array.ext_getElem?
  intro i
  rw [FA.get_toA]
  unfold tmpsF FA.get
  simp only [blt_iff]
  by_cases h : i < a.n
  · simp [h]
  · simp [h]

theorem markF_toA (a : FA) (n : Nat) : (markF a n).toA = mark a.toA n := rfl

theorem rangeHeapF_toH (h : FH) (a : FA) (ps : Array Tmp) (assign body : Code) : (rangeHeapF h a ps assign body).toH = rangeHeap h.toH a.toA ps assign body := by
  unfold rangeHeapF rangeHeap
  rw [FH.push_toH, FH.push_toH]
  unfold loopObjF loopObj
  rw [tmpsF_eq, FH.size_toH]

theorem collectF_toH : ∀ (ds : List Deferred) (h : FH), collect ds h.toH = (collectF ds h).map FH.toH := by
  intro ds
  induction ds with
  | nil => intro h; rfl
  | cons d ds ih =>
    intro h
    unfold collect collectF
    rw [show d.target = d.target from rfl]
    cases d.target with
    | collected i =>
      dsimp only
      rw [FH.get_toH]
      cases h.get i with
      | none => rfl
      | some o =>
        cases o with
        | deferred x =>
          cases x with
          | none => rfl
          | some l =>
            cases l with
            | nil =>
              dsimp only
              rw [← FH.set_toH]
              exact ih _
            | cons _ _ => rfl
        | _ => rfl
    | _ => rfl

theorem resOneF_eq (a : FA) (r : ResultVar) : resOneF a r = resOne a.toA.tmps r := by
  have h : ∀ t, a.eval (.tmp t) = a.toA.tmps.getD t undef := fun t => by rw [← FA.eval_toA]; rfl
  cases r with
  | tmp t => simp only [resOneF, resOne, h]
  | cell b t => simp only [resOneF, resOne, h]

theorem resultsF_eq (fn : Func) (a : FA) : resultsF fn a = Go.results fn a.toA.tmps := by
  rw [results_eq]
  unfold resultsF
  simp only [resOneF_eq]

theorem leaveF_toH (fn : Func) (a : FA) (h : FH) : leave P fn a.toA h.toH = (leaveF P fn a h).map cv := by
  unfold leave leaveF
  rw [show a.toA.defers = a.ds from rfl, collectF_toH]
  cases collectF a.ds h with
  | none => rfl
  | some h1 =>
    dsimp only [Option.map_some]
    rw [← resultsF_eq, arunF_toH]

theorem ayieldF_eq (a : Act) (o : Oper) : ayield a o = ayieldF a.eval o := by
  unfold ayield ayieldF
  simp only [mapL_eq]
  cases o.op with
  | call c =>
    dsimp only
    split
    · cases c.callee with
      | value f =>
        dsimp only
        cases a.eval f with
        | func g x y => cases g <;> rfl
        | _ => rfl
      | _ => rfl
    · rfl
  | _ => rfl

def FactF.toF (f : FactF) : Fact := ⟨f.i, f.o, f.v, f.a.toA⟩

theorem runFI_sound {a : FA} {o : Oper} {h : FH} {r : FStep} (hr : runFI P a.eval o h (fi P o) = some r) : aop P a.toA o h.toH = some r.cv :=
  fi_sound (a := a.toA) (by rw [FA.eval_toA]; exact hr)

theorem FactF.holds_toF {ops : Array Oper} {f : FactF} {h : FH} (hf : f.holds P ops h = true) : f.toF.holds P ops h.toH = true := by
  unfold FactF.holds at hf
  unfold Fact.holds
  rw [show f.toF.a.tmps = f.a.toA.tmps from rfl, yieldedF_toA]
  show (if Region.wanted f.o (yieldedF ops f.a) = true then _ else true) = true
  split
  · rename_i hw
    rw [if_pos hw] at hf
    split at hf
    · rename_i v h1 hv
      have := runFI_sound hv
      show (match aop P f.a.toA f.o h.toH with | some (.val v _) => sameV v f.v | _ => false) = true
      rw [this]
      exact hf
    · cases hf
  · rfl

def CallableF (P : Program) (Γ : Gl) (call : CallerF) : Prop := ∀ f args h v h1, call f args h = some (v, h1) →
  (f < YB → ACall P Γ f args h.toH fun u k => u = v ∧ k = h1.toH) ∧ (YB ≤ f → ARound P Γ (f - YB) args h.toH fun u k => u = v ∧ k = h1.toH)

theorem CallableF.of {call : CallerF} (hc : ∀ f args h v h1, call f args h = some (v, h1) → f < YB ∧ ACall P Γ f args h.toH fun u k => u = v ∧ k = h1.toH) : CallableF P Γ call := fun f args h v h1 he =>
  ⟨fun _ => (hc f args h v h1 he).2, fun hlt => absurd (hc f args h v h1 he).1 (Nat.not_lt.2 hlt)⟩

theorem CallableF.none : CallableF P Γ fun _ _ _ => Option.none := fun _ _ _ _ _ h => by cases h

theorem evOpF_sound {call : CallerF} (hc : CallableF P Γ call) {ops : Array Oper} {i : Nat} {o : Oper} {a a1 : FA} {h h1 : FH} {K : Act → H → Prop} (hi : ops[i]? = some o) (hw : Region.wanted o (yieldedF ops a) = true)
    (he : evOpF P call o a h = some (a1, h1)) (hk : K a1.toA h1.toH) : AOp P Γ ops i K a.toA h.toH := by
  rw [← yieldedF_toA] at hw
  unfold evOpF at he
  unfold AOp
  simp only [hi, hw, if_true]
  split at he
  · rename_i v h2 hv
    cases he
    refine .inl ⟨v, h1.toH, runFI_sound hv, ?_⟩
    rw [← FA.put_toA]; exact hk
  · rename_i f args h2 hv
    split at he
    · rename_i hlt
      split at he
      · rename_i v h3 hcall
        cases he
        refine .inr ⟨f, args, h2.toH, _, runFI_sound hv, (hc _ _ _ _ _ hcall).1 hlt, fun u k ⟨e1, e2⟩ => ?_⟩
        subst e1; subst e2
        rw [← FA.put_toA]; exact hk
      · cases he
    · cases he
  · cases he

theorem evOpsF_sound {γ : Known} (hγ : KnownOk P Γ γ) {call : CallerF} (hc : CallableF P Γ call) {ops : Array Oper} : ∀ (l : List Oper) (n : Nat) (a a1 : FA) (h h1 : FH), ops.toList.drop n = l → evOpsF P γ call ops l a h = some (a1, h1) →
    ∀ {K : Act → H → Prop}, K a1.toA h1.toH → AOps P Γ ops (List.range' n l.length) a.toA h.toH K := by
  intro l
  induction l with
  | nil => intro n a a1 h h1 _ he K hk; cases he; exact AOps.nil hk
  | cons o l ih =>
    intro n a a1 h h1 hd he K hk
    have hi : ops[n]? = some o := by
      rw [← Array.getElem?_toList]
      have := congrArg (fun x => x[0]?) hd
      simpa using this
    have hd2 : ops.toList.drop (n + 1) = l := by
      have := congrArg List.tail hd
      simpa using this
    unfold evOpsF at he
    rw [List.length_cons, List.range'_succ]
    split at he
    · rename_i hw
      have hw' := hw
      rw [← yieldedF_toA] at hw'
      split at he
      · rename_i a2 h2 hop
        exact AOp.ops hi (evOpF_sound hc hi hw hop (ih (n + 1) _ _ _ _ hd2 he hk))
      · split at he
        · rename_i v h2 hx
          refine AOps.ext hi hw' (by rw [aextF_toH, FA.eval_toA, hx]; rfl) ?_
          rw [← FA.put_toA]
          exact ih (n + 1) _ _ _ _ hd2 he hk
        · split at he
          · rename_i v hx
            refine AOps.known hγ hi hw' hx ?_
            rw [← FA.put_toA]
            exact ih (n + 1) _ _ _ _ hd2 he hk
          · split at he
            · rename_i li args hy
              split at he
              · rename_i v h2 hcall
                refine AOps.round hi hw' (by rw [ayieldF_eq, FA.eval_toA]; exact hy) (by have := (hc _ _ _ _ _ hcall).2 (Nat.le_add_right _ _); rw [Nat.add_sub_cancel_left] at this; exact this) ?_
                rintro u k ⟨rfl, rfl⟩
                rw [← FA.put_toA]
                exact ih (n + 1) _ _ _ _ hd2 he hk
              · cases he
            · cases he
    · rename_i hw
      rw [← yieldedF_toA] at hw
      refine AOps.skip hi (by simpa using hw) ?_
      rw [← FA.put_toA]
      exact ih (n + 1) _ _ _ _ hd2 he hk

def FactF.prop (P : Program) (ops : Array Oper) (f : FactF) : Nat × (H → Prop) := f.toF.prop P ops

theorem keeps_factsF {ops : Array Oper} {i : Nat} {F : List FactF} : keeps ops i (F.map (FactF.prop P ops)) = (F.filter fun f => !waits ops i f.i).map (FactF.prop P ops) := by
  unfold keeps
  rw [List.filter_map]
  rfl

theorem evPlanF_sound {call : CallerF} (hc : CallableF P Γ call) {ops : Array Oper} : ∀ (L : List (Nat × Bool)) (F : List FactF) (a a1 : FA) (h h1 : FH), (∀ f ∈ F, (Region.wanted f.o (yielded ops f.a.toA.tmps) = true ∨ f.v = undef) ∧ takes f.o = true) →
    evPlanF P call ops L F a h = some (a1, h1) → DPlan P Γ ops (fun a2 h2 => a2 = a1.toA ∧ h2 = h1.toH) L (F.map (FactF.prop P ops)) a.toA h.toH := by
  intro L
  induction L with
  | nil => intro F a a1 h h1 _ he; cases he; exact ⟨rfl, rfl⟩
  | cons x L ih =>
    obtain ⟨i, e⟩ := x
    intro F a a1 h h1 hF he
    unfold evPlanF at he
    unfold DPlan
    cases hi : ops[i]? with
    | none => rw [hi] at he; cases he
    | some o =>
      simp only [hi] at he ⊢
      have facts : ∀ (G : List FactF) (k : FH), (∀ f ∈ G, f ∈ F) → G.all (FactF.holds P ops · k) = true → ∀ x ∈ G.map (FactF.prop P ops), x.2 k.toH := by
        intro G k hG hall x hx
        obtain ⟨f, hf, rfl⟩ := List.mem_map.1 hx
        exact Fact.finds (hF f (hG f hf)).1 (hF f (hG f hf)).2 (FactF.holds_toF (List.all_eq_true.1 hall f hf))
      by_cases hw : Region.wanted o (yieldedF ops a) = true
      · have hw' := hw
        rw [← yieldedF_toA] at hw'
        rw [if_pos hw] at he
        cases e with
        | true =>
          simp only [if_true] at he ⊢
          split at he
          · rename_i v h2 hv
            have hv' := runFI_sound hv
            by_cases ht : takes o = true
            · rw [if_pos ht] at he ⊢
              refine ⟨v, .inl ⟨hw', aop_takes ht hv'⟩, ?_⟩
              rw [← FA.put_toA]
              have := ih _ _ _ _ _ ?_ he
              · by_cases hk : asks o = true
                · simp only [hk, if_true] at this ⊢; exact this
                · rw [if_neg hk] at this ⊢; exact this
              · intro f hf
                split at hf
                · rcases List.mem_cons.1 hf with rfl | hf
                  · exact ⟨.inl hw', ht⟩
                  · exact hF f hf
                · exact hF f hf
            · rw [if_neg ht] at he ⊢
              rw [if_pos hw']
              split at he
              · rename_i hb
                refine ⟨v, h2.toH, hv', ?_, facts F h2 (fun _ h => h) hb.2, ?_⟩
                · rw [FH.size_toH, FH.get_toH]; exact hb.1
                · rw [← FA.put_toA]; exact ih _ _ _ _ _ hF he
              · cases he
          · cases he
        | false =>
          simp only [Bool.false_eq_true, if_false] at he ⊢
          split at he
          · rename_i a2 h2 hop
            split at he
            · rename_i hall
              refine evOpF_sound hc hi hw hop ?_
              rw [keeps_factsF]
              exact ⟨facts _ h2 (fun f hf => (List.mem_filter.1 hf).1) hall, ih _ _ _ _ _ (fun f hf => hF f (List.mem_filter.1 hf).1) he⟩
            · cases he
          · cases he
      · have hw' := hw
        rw [← yieldedF_toA] at hw'
        rw [if_neg hw] at he
        cases e with
        | true =>
          simp only [if_true] at he ⊢
          by_cases ht : takes o = true
          · rw [if_pos ht]
            refine ⟨undef, .inr ⟨by simpa using hw', rfl⟩, ?_⟩
            rw [← FA.put_toA]
            have := ih _ _ _ _ _ ?_ he
            · by_cases hk : asks o = true
              · simp only [hk, ht, and_self, if_true] at this ⊢; exact this
              · rw [if_neg (fun h => hk h.2)] at this; rw [if_neg hk]; exact this
            · intro f hf
              split at hf
              · rcases List.mem_cons.1 hf with rfl | hf
                · exact ⟨.inr rfl, ht⟩
                · exact hF f hf
              · exact hF f hf
          · rw [if_neg (fun h => ht h.1)] at he
            rw [if_neg ht, if_neg hw', ← FA.put_toA]
            exact ih _ _ _ _ _ hF he
        | false =>
          simp only [Bool.false_eq_true, if_false] at he ⊢
          split at he
          · rename_i hall
            unfold AOp
            simp only [hi]
            rw [if_neg hw', keeps_factsF, ← FA.put_toA]
            exact ⟨facts _ h (fun f hf => (List.mem_filter.1 hf).1) hall, ih _ _ _ _ _ (fun f hf => hF f (List.mem_filter.1 hf).1) he⟩
          · cases he

theorem evCodeRF_sound {rg : Bool} (hrg : rg = true → Γ.rnd = false) {γ : Known} (hγ : KnownOk P Γ γ) {call : CallerF} (hm : P.follows .mixedOrders = true) (hc : CallableF P Γ call) : ∀ (n : Nat) (c : Code) (a a1 : FA) (h h1 : FH) (e : Exit), evCodeRF rg P γ call n c a h = some (e, a1, h1) →
    ACode P Γ c a.toA h.toH fun e2 a2 h2 => e2 = e ∧ a2 = a1.toA ∧ h2 = h1.toH := by
  intro n
  induction n with
  | zero => intro c a a1 h h1 e he; cases he
  | succ n ih =>
    intro c a a1 h h1 e he
    unfold evCodeRF at he
    split at he
    · rename_i ops
      split at he
      · rename_i a2 h2 ho
        cases he
        refine ACode.region ?_
        have := evOpsF_sound hγ hc ops.toList 0 a a1 h h1 (by simp) ho (K := fun a2 h2 => Exit.normal = .normal ∧ a2 = a1.toA ∧ h2 = h1.toH) ⟨rfl, rfl, rfl⟩
        rw [List.range_eq_range']
        simpa using this
      · cases he
    · rename_i id ops
      split at he
      · rename_i hfit
        split at he
        · rename_i a2 h2 ho
          cases he
          unfold planFits at hfit
          simp only [Bool.and_eq_true, beq_iff_eq] at hfit
          refine ACode.plan hm (thePlan ops) hfit.1.1 hfit.1.2 hfit.2 ?_
          exact DPlan.mono (fun a h hh => ⟨rfl, hh⟩) _ _ _ _ (evPlanF_sound hc _ [] a a1 h h1 (fun f hf => by cases hf) ho)
        · cases he
      · cases he
    · cases he; exact ACode.skip ⟨rfl, rfl, rfl⟩
    · cases he; exact ACode.label ⟨rfl, rfl, rfl⟩
    · cases he; exact ACode.exit ⟨rfl, rfl, rfl⟩
    · cases he; exact ACode.ret ⟨rfl, rfl, rfl⟩
    · rename_i x y
      split at he
      · rename_i a2 h2 hx
        refine ACode.seq ((ih x _ _ _ _ _ hx).mono ?_)
        rintro e2 a3 h3 ⟨rfl, rfl, rfl⟩
        exact ih y _ _ _ _ _ he
      · rename_i hne
        refine ACode.seq ((ih x _ _ _ _ _ he).mono ?_)
        rintro e2 a3 h3 ⟨rfl, rfl, rfl⟩
        cases e2 with
        | normal => exact absurd he (hne _ _)
        | _ => exact ⟨rfl, rfl, rfl⟩
    · rename_i cnd x y
      split at he
      · rename_i hok
        split at he
        · rename_i t hct
          exact ACode.cond hok (by rw [FA.eval_toA]; exact hct) (ih _ _ _ _ _ _ he)
        · cases he
      · cases he
    · rename_i id c
      split at he
      · rename_i id' a2 h2 hx
        refine ACode.block ((ih c _ _ _ _ _ hx).mono ?_)
        rintro e2 a3 h3 ⟨rfl, rfl, rfl⟩
        simp only [inBlock]
        split at he
        · rename_i hid; cases he; rw [if_pos hid]; exact ⟨rfl, rfl, rfl⟩
        · rename_i hid; cases he; rw [if_neg hid]; exact ⟨rfl, rfl, rfl⟩
      · rename_i hne
        refine ACode.block ((ih c _ _ _ _ _ he).mono ?_)
        rintro e2 a3 h3 ⟨rfl, rfl, rfl⟩
        cases e2 with
        | exit id' => exact absurd he (hne _ _ _)
        | _ => exact ⟨rfl, rfl, rfl⟩
    · rename_i c
      split at he
      · rename_i a2 h2 hx
        refine ACode.loop ((ih c _ _ _ _ _ hx).mono ?_)
        rintro e2 a3 h3 ⟨rfl, rfl, rfl⟩
        exact ih _ _ _ _ _ _ he
      · rename_i hne
        refine ACode.loop ((ih c _ _ _ _ _ he).mono ?_)
        rintro e2 a3 h3 ⟨rfl, rfl, rfl⟩
        cases e2 with
        | normal => exact absurd he (hne _ _)
        | _ => exact ⟨rfl, rfl, rfl⟩
    · rename_i g ps assign body
      split at he
      · rename_i hcond
        split at he
        · rename_i f first cap heval
          split at he
          · rename_i fn hf
            split at he
            · rename_i hfn
              split at he
              · rename_i v0 h2 hcall
                split at he
                · rename_i r hr
                  split at he
                  · cases he
                  · rename_i hbusy
                    have hcl := (hc _ _ _ _ _ hcall).1 hfn.1
                    rw [rangeHeapF_toH] at hcl
                    have hsz := FH.size_toH h
                    refine ACode.rangeFunc (hrg hcond.1) hcond.2 (by rw [FA.eval_toA]; exact heval) hf hfn.2.1 hfn.2.2 (by rw [hsz]; exact hcl) ?_
                    rintro v h3 ⟨rfl, rfl⟩
                    rw [hsz]
                    refine ⟨r, by rw [FH.get_toH]; exact hr, hbusy, ?_⟩
                    split at he
                    · rename_i hp
                      cases he
                      rw [hp]
                      exact ⟨rfl, rfl, by rw [FH.set_toH]⟩
                    · rename_i c hp
                      rw [hp]
                      have := ih c _ _ _ _ _ he
                      rw [FH.set_toH] at this
                      exact this
                · cases he
              · cases he
            · cases he
          · cases he
        · cases he
      · cases he
    · cases he

theorem evRoundF_sound {γ : Known} (hγ : KnownOk P Γ γ) {call : CallerF} (hm : P.follows .mixedOrders = true) (hc : CallableF P Γ call) {n l : Nat} {args : Array Value} {h h1 : FH} {v : Value} (he : evRoundF P γ call n l args h = some (v, h1)) :
    ARound P Γ l args h.toH fun u k => u = v ∧ k = h1.toH := by
  unfold evRoundF at he
  split at he
  case h_2 => cases he
  rename_i r hr
  split at he
  case isFalse => cases he
  rename_i hn
  split at he
  case h_2 => cases he
  rename_i a1 h2 hassign
  split at he
  case h_2 => cases he
  rename_i r1 hr1
  split at he
  case isFalse => cases he
  rename_i hready
  split at he
  case h_2 => cases he
  rename_i e a2 h3 hbody
  split at he
  case h_2 => cases he
  rename_i j hj
  split at he
  case h_2 => cases he
  rename_i r2 hr2
  cases he
  refine ARound.body ((FH.get_toH _ _).trans hr) hn ?_
  rw [← bindArgsF_toA]
  refine (evCodeRF_sound (Γ := Γ.round) (fun h => by cases h) hγ hm hc _ _ _ _ _ _ _ hassign).mono ?_
  rintro e3 a3 h4 ⟨rfl, rfl, rfl⟩
  refine ⟨r1, (FH.get_toH _ _).trans hr1, hready, ?_⟩
  rw [← FH.set_toH]
  refine (evCodeRF_sound (Γ := Γ.round) (fun h => by cases h) hγ hm hc _ _ _ _ _ _ _ hbody).mono ?_
  rintro e3 a3 h4 ⟨rfl, rfl, rfl⟩
  exact ⟨j, hj, r2, (FH.get_toH _ _).trans hr2, rfl, (FH.set_toH _ _ _).symm⟩

theorem evCallF_sound {γ : Known} (hγ : KnownOk P Γ γ) {orc : CallerF} (hm : P.follows .mixedOrders = true) (ho : CallableF P Γ orc) : ∀ n, CallableF P Γ (evCallF P γ orc n) := by
  intro n
  induction n with
  | zero => intro f args h v h1 he; cases he
  | succ n ih =>
    intro f args h v h1 he
    unfold evCallF at he
    split at he
    · rename_i r hr
      cases he
      exact ho _ _ _ _ _ hr
    · split at he
      · rename_i hlt
        split at he
        · cases he
        · rename_i fn hf
          split at he
          · cases he
          · rename_i c hb
            refine ⟨fun _ => ACall.body hf hb ?_, fun hle => absurd hlt (Nat.not_lt.2 hle)⟩
            rw [← startF_toA]
            have fin : ∀ (a2 : FA) (h2 : FH), leaveF P fn a2 h2 = some (v, h1) → ∃ u k, leave P fn a2.toA h2.toH = some (u, k) ∧ u = v ∧ k = h1.toH := fun a2 h2 hl =>
              ⟨v, h1.toH, by rw [leaveF_toH, hl]; rfl, rfl, rfl⟩
            split at he
            · rename_i a2 h2 hx
              refine (evCodeRF_sound (Γ := Γ.top) (fun _ => rfl) hγ hm ih _ _ _ _ _ _ _ hx).mono ?_
              rintro e2 a3 h3 ⟨rfl, rfl, rfl⟩
              exact fin _ _ he
            · rename_i a2 h2 hx
              refine (evCodeRF_sound (Γ := Γ.top) (fun _ => rfl) hγ hm ih _ _ _ _ _ _ _ hx).mono ?_
              rintro e2 a3 h3 ⟨rfl, rfl, rfl⟩
              exact fin _ _ he
            · cases he
      · rename_i hlt
        exact ⟨fun h => absurd h hlt, fun _ => evRoundF_sound hγ hm ih he⟩

/-- A call in a heap that is written out; what it hands back is read off by counting. -/
theorem ACall.quick {γ : Known} (hγ : KnownOk P Γ γ) {orc : CallerF} (hm : P.follows .mixedOrders = true) (ho : CallableF P Γ orc) {n : Nat} {f : FuncId} {args : Array Value} {h : FH} {v : Value}
    (hr : (match evCallF P γ orc n f args h with | some (u, _) => sameV u v | none => false) = true) (hy : f < YB := by decide) : ACall P Γ f args h.toH fun u _ => u = v := by
  split at hr
  · rename_i u h1 he
    exact ((evCallF_sound hγ hm ho n _ _ _ _ _ he).1 hy).mono fun x k ⟨e1, _⟩ => by subst e1; exact sameV_eq _ _ hr
  · cases hr

theorem toH_empty : FH.toH ⟨0, []⟩ = #[] := rfl

/-- A closed call, in whatever heap. -/
theorem ACall.quickClosed {γ : Known} (hγ : KnownOk P Γ γ) {orc : CallerF} (hm : P.follows .mixedOrders = true) (ho : CallableF P Γ orc) {n : Nat} {f : FuncId} {args : Array Value} {v : Value} (hf : args.all flat = true)
    (hr : (match evCallF P γ orc n f args ⟨0, []⟩ with | some (u, _) => sameV u v && flat u | none => false) = true) (h : H) (hy : f < YB := by decide) : ACall P Γ f args h fun u h1 => u = v ∧ h1 = h := by
  split at hr
  · rename_i u h1 he
    rw [Bool.and_eq_true] at hr
    refine ACall.closed hf ?_ h
    have := (evCallF_sound hγ hm ho n _ _ _ _ _ he).1 hy
    rw [toH_empty] at this
    exact this.mono fun x k ⟨e1, _⟩ => by subst e1; exact ⟨sameV_eq _ _ hr.1, hr.2⟩
  · cases hr

/-- A piece of code that hands back a value; which one is left to counting. -/
theorem ACode.quickRet {γ : Known} (hγ : KnownOk P Γ γ) {call : CallerF} (hm : P.follows .mixedOrders = true) (hc : CallableF P Γ call) (hr : Γ.rnd = false) (n : Nat) {c : Code} {a : FA} {h : FH} {fn : Func} {Q : Value → H → Prop} (v : Value)
    (hs : (match evCodeRF true P γ call n c a h with | some (.normal, a1, h1) | some (.ret, a1, h1) => (match leaveF P fn a1 h1 with | some (u, _) => sameV u v | none => false) | _ => false) = true)
    (hq : ∀ h1, Q v h1) : ACode P Γ c a.toA h.toH (RetPost P fn Q) := by
  have fin : ∀ (a2 : FA) (h2 : FH), (match leaveF P fn a2 h2 with | some (u, _) => sameV u v | none => false) = true → ∃ u k, leave P fn a2.toA h2.toH = some (u, k) ∧ Q u k := fun a2 h2 hl => by
    split at hl
    · rename_i u k hk
      exact ⟨u, k.toH, by rw [leaveF_toH, hk]; rfl, by rw [sameV_eq _ _ hl]; exact hq _⟩
    · cases hl
  split at hs
  · rename_i a1 h1 he
    refine (evCodeRF_sound (fun _ => hr) hγ hm hc n c a a1 h h1 _ he).mono ?_
    rintro e2 a2 h2 ⟨rfl, rfl, rfl⟩
    exact fin _ _ hs
  · rename_i a1 h1 he
    refine (evCodeRF_sound (fun _ => hr) hγ hm hc n c a a1 h h1 _ he).mono ?_
    rintro e2 a2 h2 ⟨rfl, rfl, rfl⟩
    exact fin _ _ hs
  · cases hs

theorem ACode.castF {c c2 : Code} {a : Act} {h : H} {Q : Exit → Act → H → Prop} (fa : FA) (fh : FH) (hc : c = c2) (ha : a = fa.toA) (hh : h = fh.toH) (hx : ACode P Γ c2 fa.toA fh.toH Q) : ACode P Γ c a h Q := by
  rw [hc, ha, hh]; exact hx

/-- What follows the first n pieces of a row of pieces. -/
def tailOf : Nat → Code → Code
  | 0, c => c
  | n + 1, .seq _ y => tailOf n y
  | _ + 1, c => c

def bodyOf (fn : Func) : Code := fn.body.getD .skip

end Go.Abs
