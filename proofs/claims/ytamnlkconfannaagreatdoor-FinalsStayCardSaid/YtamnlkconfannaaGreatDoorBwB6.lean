import Derived.Test.YtamnlkconfannaaGreatDoorBwB5
/-
The abstract heap: a run by counting.
-/
namespace Go.Abs
open Go
variable {P : Program} {Γ : Gl} {ρ : Ren} {α β : Type}

theorem aop_takes {a : Act} {o : Oper} {h h1 : H} {v : Value} (ht : takes o = true) (hr : aop P a o h = some (.val v h1)) : aop P a o h = some (.val v h) := by
  suffices h1 = h by rw [this] at hr; exact hr
  by_cases hk : asks o = true
  case neg =>
    have := aop_still ht (by simpa using hk) hr h
    rw [hr] at this
    cases this; rfl
  have key : ∀ {s : Sem Value} {v : Value}, mild P s → vals (arun P s h) = some (.val v h1) → h1 = h := by
    intro s v hs hr
    unfold vals at hr
    simp only [Option.map_eq_some_iff] at hr
    obtain ⟨⟨u, h2⟩, hr2, e⟩ := hr
    cases e
    exact mild_run s hs h _ _ hr2
  have keyf : ∀ {v : Value}, flatStep P a o h = some (.val v h1) → h1 = h := by
    intro v hr
    have := flatStep_still hr h
    rw [hr] at this
    cases this; rfl
  unfold aop at hr
  split at hr
  · unfold takes at ht
    unfold asks at hk
    generalize o.op = op at *
    cases op <;> first | (simp at ht; done) | (simp at hk; done) | skip
    case build t ps =>
      dsimp only at hr
      split at hr
      · exact key (quiet_mild _ (quiet_build _ _)) hr
      · cases hr
    case load => exact key (mild_loadAt _ _) hr
    case slice t x lo hi mx =>
      dsimp only at hr
      split at hr
      · split at hr
        · split at hr
          · simp only [Option.map_eq_some_iff] at hr
            obtain ⟨u, _, e⟩ := hr
            cases e; rfl
          · exact key (quiet_mild _ (quiet_slice _ _ _ _ _)) hr
        · exact key (quiet_mild _ (quiet_slice _ _ _ _ _)) hr
      · cases hr
    case lookup t x k ok =>
      dsimp only at hr
      split at hr
      · exact key (mild_lookup _ _ _ _) hr
      · cases hr
    case call c =>
      dsimp only at hr ht
      split at hr
      · rename_i r hac
        cases hr
        unfold acall at hac
        split at ht <;> first | (cases ht; done) | skip
        all_goals rename_i hcal
        all_goals rw [hcal] at hac
        · dsimp only at hac
          split at hac
          · split at hac
            · exact key (mild_len _ _ _) hac
            · cases hac
          · cases hac
        · cases hac
        · cases hac
      · exact keyf hr
  · cases hr

structure Fact where
  i : Nat
  o : Oper
  v : Value
  a : Act

def Fact.holds (P : Program) (ops : Array Oper) (f : Fact) (h : H) : Bool :=
  if Region.wanted f.o (yielded ops f.a.tmps) = true then match aop P f.a f.o h with | some (.val v _) => sameV v f.v | _ => false
  else true

/-- Who is called: a function by its number; a round of loop l by YB + l. -/
abbrev Caller := FuncId → Array Value → H → Option (Value × H)

def YB : Nat := 1000000000

def evOp (P : Program) (call : Caller) (o : Oper) (a : Act) (h : H) : Option (Act × H) :=
  match aop P a o h with
  | some (.val v h1) => some (a.put o.dst v, h1)
  | some (.enter f args h1) => if f < YB then match call f args h1 with
    | some (v, h2) => some (a.put o.dst v, h2)
    | none => none
    else none
  | none => none

def evOps (P : Program) (γ : Known) (call : Caller) (ops : Array Oper) : List Oper → Act → H → Option (Act × H)
  | [], a, h => some (a, h)
  | o :: l, a, h =>
    if Region.wanted o (yielded ops a.tmps) = true then
      match evOp P call o a h with
      | some (a1, h1) => evOps P γ call ops l a1 h1
      | none => match aext P a o h with
        | some (v, h1) => evOps P γ call ops l (a.put o.dst v) h1
        | none => match aglob γ o with
          | some v => evOps P γ call ops l (a.put o.dst v) h
          | none => match ayield a o with
            | some (li, args) => match call (YB + li) args h with
              | some (v, h1) => evOps P γ call ops l (a.put o.dst v) h1
              | none => none
            | none => none
    else evOps P γ call ops l (a.put o.dst undef) h

def evPlan (P : Program) (call : Caller) (ops : Array Oper) : List (Nat × Bool) → List Fact → Act → H → Option (Act × H)
  | [], _, a, h => some (a, h)
  | (i, e) :: L, F, a, h =>
    match ops[i]? with
    | none => none
    | some o =>
      if Region.wanted o (yielded ops a.tmps) = true then
        if e = true then
          match aop P a o h with
          | some (.val v h1) =>
            if takes o = true then evPlan P call ops L (if asks o = true then ⟨i, o, v, a⟩ :: F else F) (a.put o.dst v) h
            else if (h1[h.size]?).any (belowO h.size) = true ∧ (F.all (Fact.holds P ops · h1)) = true then evPlan P call ops L F (a.put o.dst v) h1
            else none
          | _ => none
        else
          match evOp P call o a h with
          | some (a1, h1) =>
            if (F.filter fun f => !waits ops i f.i).all (Fact.holds P ops · h1) = true then evPlan P call ops L (F.filter fun f => !waits ops i f.i) a1 h1 else none
          | none => none
      else if e = true then evPlan P call ops L (if takes o = true ∧ asks o = true then ⟨i, o, undef, a⟩ :: F else F) (a.put o.dst undef) h
      else if (F.filter fun f => !waits ops i f.i).all (Fact.holds P ops · h) = true then evPlan P call ops L (F.filter fun f => !waits ops i f.i) (a.put o.dst undef) h
      else none

/-- A plan, found by looking. -/
def planFor (ops : Array Oper) : Nat → List Nat → Array Bool → List (Nat × Bool)
  | 0, _, _ => []
  | n + 1, mp, listed =>
    let r := Region.ready .any ops listed
    match r.find? fun i => match ops[i]? with | some o => early o && mp.all (calm ops i) && own ops o | none => false with
    | some i => (i, true) :: planFor ops n (i :: mp) (listed.setIfInBounds i true)
    | none => match r with
      | [i] => (i, false) :: planFor ops n (mp.filter fun p => !waits ops i p) (listed.setIfInBounds i true)
      | _ => []

def thePlan (ops : Array Oper) : List (Nat × Bool) := planFor ops ops.size [] (Array.replicate ops.size false)

def planFits (ops : Array Oper) : Bool := ((thePlan ops).length == ops.size) && forward ops && planned ops (thePlan ops) [] (Array.replicate ops.size false)

def evCodeR (rg : Bool) (P : Program) (γ : Known) (call : Caller) : Nat → Code → Act → H → Option (Exit × Act × H)
  | 0, _, _, _ => none
  | n + 1, c, a, h =>
    match c with
    | .region _ ops false => match evOps P γ call ops ops.toList a h with
      | some (a1, h1) => some (.normal, a1, h1)
      | none => none
    | .region _ ops true => if planFits ops = true then match evPlan P call ops (thePlan ops) [] a h with
      | some (a1, h1) => some (.normal, a1, h1)
      | none => none
      else none
    | .skip | .label _ => some (.normal, a, h)
    | .exit id => some (.exit id, a, h)
    | .ret => some (.ret, a, h)
    | .seq x y => match evCodeR rg P γ call n x a h with
      | some (.normal, a1, h1) => evCodeR rg P γ call n y a1 h1
      | r => r
    | .cond c x y => if okOperand c = true then match a.eval c with
        | .bool t => evCodeR rg P γ call n (if t = true then x else y) a h
        | _ => none
      else none
    | .block id c => match evCodeR rg P γ call n c a h with
      | some (.exit id', a1, h1) => if id' = id then some (.normal, a1, h1) else some (.exit id', a1, h1)
      | r => r
    | .loop c => match evCodeR rg P γ call n c a h with
      | some (.normal, a1, h1) => evCodeR rg P γ call n (.loop c) a1 h1
      | r => r
    | .rangeFunc g ps assign body => if rg = true ∧ okOperand g = true then match a.eval g with
        | .func (.func f) first cap => match P.funcs[f]? with
          | some fn => if f < YB ∧ fn.body.isSome = true ∧ fn.name ≠ "runtime.NumGoroutine" then
              match call f (first ++ #[.func (.yield (h.size + 1)) #[] #[]] ++ cap) (rangeHeap h a ps assign body) with
              | some (_, h1) => match h1[h.size + 1]? with
                | some (.loop r) => if r.state = .busy then none else match r.pending with
                  | none => some (.normal, mark a h.size, h1.setIfInBounds (h.size + 1) (doneLoop r))
                  | some c => evCodeR rg P γ call n c (mark a h.size) (h1.setIfInBounds (h.size + 1) (doneLoop r))
                | _ => none
              | none => none
            else none
          | none => none
        | _ => none
      else none
    | _ => none

/-- A piece of code that holds no range over a function. -/
abbrev evCode (P : Program) (γ : Known) (call : Caller) : Nat → Code → Act → H → Option (Exit × Act × H) := evCodeR false P γ call

/-- A round. -/
def evRound (P : Program) (γ : Known) (call : Caller) (n : Nat) (l : Nat) (args : Array Value) (h : H) : Option (Value × H) :=
  match h[l]? with
  | some (.loop r) => if args.size = r.params.size then match evCode P γ call n r.assign { tmps := bindArgs r.params args r.tmps, defers := [] } h with
    | some (.normal, a1, h1) => match h1[l]? with
      | some (.loop r1) => if r1.state = .ready then match evCode P γ call n r.body a1 (h1.setIfInBounds l (.loop { r1 with state := .busy })) with
        | some (e, _, h2) => match jumpOf e with
          | some j => match h2[l]? with
            | some (.loop r2) => some (.bool j.isNone, h2.setIfInBounds l (endLoopObj r2 j))
            | _ => none
          | none => none
        | none => none
        else none
      | _ => none
    | _ => none
    else none
  | _ => none

def evCall (P : Program) (γ : Known) (orc : Caller) : Nat → Caller
  | 0, _, _, _ => none
  | n + 1, f, args, h =>
    match orc f args h with
    | some r => some r
    | none =>
      if f < YB then match P.funcs[f]? with
      | none => none
      | some fn => match fn.body with
        | none => none
        | some c => match evCodeR true P γ (evCall P γ orc n) 1000 c (start fn args) h with
          | some (.normal, a, h1) | some (.ret, a, h1) => leave P fn a h1
          | _ => none
      else evRound P γ (evCall P γ orc n) 1000 (f - YB) args h

def Callable (P : Program) (Γ : Gl) (call : Caller) : Prop := ∀ f args h v h1, call f args h = some (v, h1) → (f < YB → ACall P Γ f args h fun u k => u = v ∧ k = h1) ∧ (YB ≤ f → ARound P Γ (f - YB) args h fun u k => u = v ∧ k = h1)

theorem Callable.of {call : Caller} (hc : ∀ f args h v h1, call f args h = some (v, h1) → f < YB ∧ ACall P Γ f args h fun u k => u = v ∧ k = h1) : Callable P Γ call := fun f args h v h1 he =>
  ⟨fun _ => (hc f args h v h1 he).2, fun hlt => absurd (hc f args h v h1 he).1 (Nat.not_lt.2 hlt)⟩

theorem DPlan.mono {ops : Array Oper} {K K' : Act → H → Prop} (hk : ∀ a h, K a h → K' a h) : ∀ (L : List (Nat × Bool)) (F : Facts) (a : Act) (h : H), DPlan P Γ ops K L F a h → DPlan P Γ ops K' L F a h := by
  intro L
  induction L with
  | nil => intro F a h hd; exact hk _ _ hd
  | cons x L ih =>
    obtain ⟨i, e⟩ := x
    intro F a h hd
    unfold DPlan at hd ⊢
    cases hi : ops[i]? with
    | none => rw [hi] at hd; exact hd.elim
    | some o =>
      simp only [hi] at hd ⊢
      split
      · rename_i he
        rw [if_pos he] at hd
        split
        · rename_i ht
          rw [if_pos ht] at hd
          obtain ⟨v, h1, h2⟩ := hd
          exact ⟨v, h1, ih _ _ _ h2⟩
        · rename_i ht
          rw [if_neg ht] at hd
          split
          · rename_i hw
            rw [if_pos hw] at hd
            obtain ⟨v, h1, e1, e2, e3, e4⟩ := hd
            exact ⟨v, h1, e1, e2, e3, ih _ _ _ e4⟩
          · rename_i hw
            rw [if_neg hw] at hd
            exact ih _ _ _ hd
      · rename_i he
        rw [if_neg he] at hd
        exact hd.mono fun a h hh => ⟨hh.1, ih _ _ _ hh.2⟩

theorem evOp_sound {call : Caller} (hc : Callable P Γ call) {ops : Array Oper} {i : Nat} {o : Oper} {a a1 : Act} {h h1 : H} {K : Act → H → Prop} (hi : ops[i]? = some o) (hw : Region.wanted o (yielded ops a.tmps) = true)
    (he : evOp P call o a h = some (a1, h1)) (hk : K a1 h1) : AOp P Γ ops i K a h := by
  unfold evOp at he
  unfold AOp
  simp only [hi, hw, if_true]
  split at he
  · rename_i v h2 hv
    cases he
    exact .inl ⟨v, h1, hv, hk⟩
  · rename_i f args h2 hv
    split at he
    · rename_i hlt
      split at he
      · rename_i v h3 hcall
        cases he
        exact .inr ⟨f, args, h2, _, hv, (hc _ _ _ _ _ hcall).1 hlt, fun u k ⟨e1, e2⟩ => by subst e1; subst e2; exact hk⟩
      · cases he
    · cases he
  · cases he

theorem AOp.ops {ops : Array Oper} {i : Nat} {o : Oper} {l : List Nat} {a : Act} {h : H} {K : Act → H → Prop} (hi : ops[i]? = some o) (ho : AOp P Γ ops i (fun a h => AOps P Γ ops l a h K) a h) : AOps P Γ ops (i :: l) a h K := by
  unfold AOp at ho
  simp only [hi] at ho
  split at ho
  · rename_i hw
    rcases ho with ⟨v, h1, e1, e2⟩ | ⟨f, args, h1, R, e1, e2, e3⟩
    · exact AOps.val hi hw e1 e2
    · exact AOps.enter hi hw e1 e2 e3
  · rename_i hw
    exact AOps.skip hi (by simpa using hw) ho

theorem evOps_sound {γ : Known} (hγ : KnownOk P Γ γ) {call : Caller} (hc : Callable P Γ call) {ops : Array Oper} : ∀ (l : List Oper) (n : Nat) (a a1 : Act) (h h1 : H), ops.toList.drop n = l → evOps P γ call ops l a h = some (a1, h1) →
    ∀ {K : Act → H → Prop}, K a1 h1 → AOps P Γ ops (List.range' n l.length) a h K := by
  intro l
  induction l with
  | nil => intro n a a1 h h1 _ he K hk; cases he; exact AOps.nil hk
  | cons o l ih =>
    intro n a a1 h h1 hd he K hk
    have hi : ops[n]? = some o := by
      rw [← Array.getElem?_toList]
      have := congrArg (fun x => x[0]?) hd
      simpa using this
    have hd2 : ops.toList.drop (n + 1) = l := by
      have := congrArg List.tail hd
      simpa using this
    unfold evOps at he
    rw [List.length_cons, List.range'_succ]
    split at he
    · rename_i hw
      split at he
      · rename_i a2 h2 hop
        exact AOp.ops hi (evOp_sound hc hi hw hop (ih (n + 1) _ _ _ _ hd2 he hk))
      · split at he
        · rename_i v h2 hx
          exact AOps.ext hi hw hx (ih (n + 1) _ _ _ _ hd2 he hk)
        · split at he
          · rename_i v hx
            exact AOps.known hγ hi hw hx (ih (n + 1) _ _ _ _ hd2 he hk)
          · split at he
            · rename_i li args hy
              split at he
              · rename_i v h2 hcall
                refine AOps.round hi hw hy (by have := (hc _ _ _ _ _ hcall).2 (Nat.le_add_right _ _); rw [Nat.add_sub_cancel_left] at this; exact this) ?_
                rintro u k ⟨rfl, rfl⟩
                exact ih (n + 1) _ _ _ _ hd2 he hk
              · cases he
            · cases he
    · rename_i hw
      exact AOps.skip hi (by simpa using hw) (ih (n + 1) _ _ _ _ hd2 he hk)

def Fact.prop (P : Program) (ops : Array Oper) (f : Fact) : Nat × (H → Prop) := (f.i, fun h => Finds P ops f.o f.v f.a h)

theorem keeps_facts {ops : Array Oper} {i : Nat} {F : List Fact} : keeps ops i (F.map (Fact.prop P ops)) = (F.filter fun f => !waits ops i f.i).map (Fact.prop P ops) := by
  unfold keeps
  rw [List.filter_map]
  rfl

theorem Fact.finds {ops : Array Oper} {f : Fact} {h : H} (hw : Region.wanted f.o (yielded ops f.a.tmps) = true ∨ f.v = undef) (ht : takes f.o = true) (hh : f.holds P ops h = true) : Finds P ops f.o f.v f.a h := by
  unfold Fact.holds at hh
  split at hh
  · rename_i hwt
    split at hh
    · rename_i v h1 hv
      rw [sameV_eq _ _ hh] at hv
      exact .inl ⟨hwt, aop_takes ht hv⟩
    · cases hh
  · rename_i hwt
    exact .inr ⟨by simpa using hwt, hw.resolve_left hwt⟩

theorem evPlan_sound {call : Caller} (hc : Callable P Γ call) {ops : Array Oper} : ∀ (L : List (Nat × Bool)) (F : List Fact) (a a1 : Act) (h h1 : H), (∀ f ∈ F, (Region.wanted f.o (yielded ops f.a.tmps) = true ∨ f.v = undef) ∧ takes f.o = true) →
    evPlan P call ops L F a h = some (a1, h1) → DPlan P Γ ops (fun a2 h2 => a2 = a1 ∧ h2 = h1) L (F.map (Fact.prop P ops)) a h := by
  intro L
  induction L with
  | nil => intro F a a1 h h1 _ he; cases he; exact ⟨rfl, rfl⟩
  | cons x L ih =>
    obtain ⟨i, e⟩ := x
    intro F a a1 h h1 hF he
    unfold evPlan at he
    unfold DPlan
    cases hi : ops[i]? with
    | none => rw [hi] at he; cases he
    | some o =>
      simp only [hi] at he ⊢
      have facts : ∀ (G : List Fact) (k : H), (∀ f ∈ G, f ∈ F) → G.all (Fact.holds P ops · k) = true → ∀ x ∈ G.map (Fact.prop P ops), x.2 k := by
        intro G k hG hall x hx
        obtain ⟨f, hf, rfl⟩ := List.mem_map.1 hx
        exact Fact.finds (hF f (hG f hf)).1 (hF f (hG f hf)).2 (List.all_eq_true.1 hall f hf)
      by_cases hw : Region.wanted o (yielded ops a.tmps) = true
      · rw [if_pos hw] at he
        cases e with
        | true =>
          simp only [if_true] at he ⊢
          split at he
          · rename_i v h2 hv
            by_cases ht : takes o = true
            · rw [if_pos ht] at he ⊢
              refine ⟨v, .inl ⟨hw, aop_takes ht hv⟩, ?_⟩
              have := ih _ _ _ _ _ ?_ he
              · by_cases hk : asks o = true
                · simp only [hk, if_true] at this ⊢; exact this
                · rw [if_neg hk] at this ⊢; exact this
              · intro f hf
                split at hf
                · rcases List.mem_cons.1 hf with rfl | hf
                  · exact ⟨.inl hw, ht⟩
                  · exact hF f hf
                · exact hF f hf
            · rw [if_neg ht] at he ⊢
              rw [if_pos hw]
              split at he
              · rename_i hb
                exact ⟨v, h2, hv, hb.1, facts F h2 (fun _ h => h) hb.2, ih _ _ _ _ _ hF he⟩
              · cases he
          · cases he
        | false =>
          simp only [Bool.false_eq_true, if_false] at he ⊢
          split at he
          · rename_i a2 h2 hop
            split at he
            · rename_i hall
              refine evOp_sound hc hi hw hop ?_
              rw [keeps_facts]
              exact ⟨facts _ h2 (fun f hf => (List.mem_filter.1 hf).1) hall, ih _ _ _ _ _ (fun f hf => hF f (List.mem_filter.1 hf).1) he⟩
            · cases he
          · cases he
      · rw [if_neg hw] at he
        cases e with
        | true =>
          simp only [if_true] at he ⊢
          by_cases ht : takes o = true
          · rw [if_pos ht]
            refine ⟨undef, .inr ⟨by simpa using hw, rfl⟩, ?_⟩
            have := ih _ _ _ _ _ ?_ he
            · by_cases hk : asks o = true
              · simp only [hk, ht, and_self, if_true] at this ⊢; exact this
              · rw [if_neg (fun h => hk h.2)] at this; rw [if_neg hk]; exact this
            · intro f hf
              split at hf
              · rcases List.mem_cons.1 hf with rfl | hf
                · exact ⟨.inr rfl, ht⟩
                · exact hF f hf
              · exact hF f hf
          · rw [if_neg (fun h => ht h.1)] at he
            rw [if_neg ht, if_neg hw]
            exact ih _ _ _ _ _ hF he
        | false =>
          simp only [Bool.false_eq_true, if_false] at he ⊢
          split at he
          · rename_i hall
            unfold AOp
            simp only [hi]
            rw [if_neg hw]
            rw [keeps_facts]
            exact ⟨facts _ h (fun f hf => (List.mem_filter.1 hf).1) hall, ih _ _ _ _ _ (fun f hf => hF f (List.mem_filter.1 hf).1) he⟩
          · cases he

theorem evCodeR_sound {rg : Bool} (hrg : rg = true → Γ.rnd = false) {γ : Known} (hγ : KnownOk P Γ γ) {call : Caller} (hm : P.follows .mixedOrders = true) (hc : Callable P Γ call) : ∀ (n : Nat) (c : Code) (a a1 : Act) (h h1 : H) (e : Exit), evCodeR rg P γ call n c a h = some (e, a1, h1) →
    ACode P Γ c a h fun e2 a2 h2 => e2 = e ∧ a2 = a1 ∧ h2 = h1 := by
  intro n
  induction n with
  | zero => intro c a a1 h h1 e he; cases he
  | succ n ih =>
    intro c a a1 h h1 e he
    unfold evCodeR at he
    split at he
    · rename_i ops
      split at he
      · rename_i a2 h2 ho
        cases he
        refine ACode.region ?_
        have := evOps_sound hγ hc ops.toList 0 a a1 h h1 (by simp) ho (K := fun a2 h2 => Exit.normal = .normal ∧ a2 = a1 ∧ h2 = h1) ⟨rfl, rfl, rfl⟩
        rw [List.range_eq_range']
        simpa using this
      · cases he
    · rename_i id ops
      split at he
      · rename_i hfit
        split at he
        · rename_i a2 h2 ho
          cases he
          unfold planFits at hfit
          simp only [Bool.and_eq_true, beq_iff_eq] at hfit
          refine ACode.plan hm (thePlan ops) hfit.1.1 hfit.1.2 hfit.2 ?_
          exact DPlan.mono (fun a h hh => ⟨rfl, hh⟩) _ _ _ _ (evPlan_sound hc _ [] a a1 h h1 (fun f hf => by cases hf) ho)
        · cases he
      · cases he
    · cases he; exact ACode.skip ⟨rfl, rfl, rfl⟩
    · cases he; exact ACode.label ⟨rfl, rfl, rfl⟩
    · cases he; exact ACode.exit ⟨rfl, rfl, rfl⟩
    · cases he; exact ACode.ret ⟨rfl, rfl, rfl⟩
    · rename_i x y
      split at he
      · rename_i a2 h2 hx
        refine ACode.seq ((ih x _ _ _ _ _ hx).mono ?_)
        rintro e2 a3 h3 ⟨rfl, rfl, rfl⟩
        exact ih y _ _ _ _ _ he
      · rename_i hne
        refine ACode.seq ((ih x _ _ _ _ _ he).mono ?_)
        rintro e2 a3 h3 ⟨rfl, rfl, rfl⟩
        cases e2 with
        | normal => exact absurd he (hne _ _)
        | _ => exact ⟨rfl, rfl, rfl⟩
    · rename_i cnd x y
      split at he
      · rename_i hok
        split at he
        · rename_i t hct
          exact ACode.cond hok hct (ih _ _ _ _ _ _ he)
        · cases he
      · cases he
    · rename_i id c
      split at he
      · rename_i id' a2 h2 hx
        refine ACode.block ((ih c _ _ _ _ _ hx).mono ?_)
        rintro e2 a3 h3 ⟨rfl, rfl, rfl⟩
        simp only [inBlock]
        split at he
        · rename_i hid; cases he; rw [if_pos hid]; exact ⟨rfl, rfl, rfl⟩
        · rename_i hid; cases he; rw [if_neg hid]; exact ⟨rfl, rfl, rfl⟩
      · rename_i hne
        refine ACode.block ((ih c _ _ _ _ _ he).mono ?_)
        rintro e2 a3 h3 ⟨rfl, rfl, rfl⟩
        cases e2 with
        | exit id' => exact absurd he (hne _ _ _)
        | _ => exact ⟨rfl, rfl, rfl⟩
    · rename_i c
      split at he
      · rename_i a2 h2 hx
        refine ACode.loop ((ih c _ _ _ _ _ hx).mono ?_)
        rintro e2 a3 h3 ⟨rfl, rfl, rfl⟩
        exact ih _ _ _ _ _ _ he
      · rename_i hne
        refine ACode.loop ((ih c _ _ _ _ _ he).mono ?_)
        rintro e2 a3 h3 ⟨rfl, rfl, rfl⟩
        cases e2 with
        | normal => exact absurd he (hne _ _)
        | _ => exact ⟨rfl, rfl, rfl⟩
    · rename_i g ps assign body
      split at he
      · rename_i hcond
        split at he
        · rename_i f first cap heval
          split at he
          · rename_i fn hf
            split at he
            · rename_i hfn
              split at he
              · rename_i v0 h2 hcall
                split at he
                · rename_i r hr
                  split at he
                  · cases he
                  · rename_i hbusy
                    refine ACode.rangeFunc (hrg hcond.1) hcond.2 heval hf hfn.2.1 hfn.2.2 ((hc _ _ _ _ _ hcall).1 hfn.1) ?_
                    rintro v h3 ⟨rfl, rfl⟩
                    refine ⟨r, hr, hbusy, ?_⟩
                    split at he
                    · rename_i hp
                      cases he
                      rw [hp]
                      exact ⟨rfl, rfl, rfl⟩
                    · rename_i c hp
                      rw [hp]
                      exact ih c _ _ _ _ _ he
                · cases he
              · cases he
            · cases he
          · cases he
        · cases he
      · cases he
    · cases he

theorem evCode_sound {γ : Known} (hγ : KnownOk P Γ γ) {call : Caller} (hm : P.follows .mixedOrders = true) (hc : Callable P Γ call) (n : Nat) (c : Code) (a a1 : Act) (h h1 : H) (e : Exit) (he : evCode P γ call n c a h = some (e, a1, h1)) :
    ACode P Γ c a h fun e2 a2 h2 => e2 = e ∧ a2 = a1 ∧ h2 = h1 := evCodeR_sound (fun h => by cases h) hγ hm hc n c a a1 h h1 e he

theorem evRound_sound {γ : Known} (hγ : KnownOk P Γ γ) {call : Caller} (hm : P.follows .mixedOrders = true) (hc : Callable P Γ call) {n l : Nat} {args : Array Value} {h h1 : H} {v : Value} (he : evRound P γ call n l args h = some (v, h1)) :
    ARound P Γ l args h fun u k => u = v ∧ k = h1 := by
  unfold evRound at he
  split at he
  case h_2 => cases he
  rename_i r hr
  split at he
  case isFalse => cases he
  rename_i hn
  split at he
  case h_2 => cases he
  rename_i a1 h2 hassign
  split at he
  case h_2 => cases he
  rename_i r1 hr1
  split at he
  case isFalse => cases he
  rename_i hready
  split at he
  case h_2 => cases he
  rename_i e a2 h3 hbody
  split at he
  case h_2 => cases he
  rename_i j hj
  split at he
  case h_2 => cases he
  rename_i r2 hr2
  cases he
  refine ARound.body hr hn ?_
  refine (evCode_sound (Γ := Γ.round _) hγ hm hc _ _ _ _ _ _ _ hassign).mono ?_
  rintro e3 a3 h4 ⟨rfl, rfl, rfl⟩
  refine ⟨r1, hr1, hready, ?_⟩
  refine (evCode_sound (Γ := Γ.round _) hγ hm hc _ _ _ _ _ _ _ hbody).mono ?_
  rintro e3 a3 h4 ⟨rfl, rfl, rfl⟩
  exact ⟨j, hj, r2, hr2, rfl, rfl⟩

theorem evCall_sound {γ : Known} (hγ : KnownOk P Γ γ) {orc : Caller} (hm : P.follows .mixedOrders = true) (ho : Callable P Γ orc) : ∀ n, Callable P Γ (evCall P γ orc n) := by
  intro n
  induction n with
  | zero => intro f args h v h1 he; cases he
  | succ n ih =>
    intro f args h v h1 he
    unfold evCall at he
    split at he
    · rename_i r hr
      cases he
      exact ho _ _ _ _ _ hr
    · split at he
      · rename_i hlt
        split at he
        · cases he
        · rename_i fn hf
          split at he
          · cases he
          · rename_i c hb
            refine ⟨fun _ => ACall.body hf hb ?_, fun hle => absurd hlt (Nat.not_lt.2 hle)⟩
            split at he
            · rename_i a2 h2 hx
              refine (evCodeR_sound (Γ := Γ.at _) (fun _ => rfl) hγ hm ih _ _ _ _ _ _ _ hx).mono ?_
              rintro e2 a3 h3 ⟨rfl, rfl, rfl⟩
              exact ⟨v, h1, he, rfl, rfl⟩
            · rename_i a2 h2 hx
              refine (evCodeR_sound (Γ := Γ.at _) (fun _ => rfl) hγ hm ih _ _ _ _ _ _ _ hx).mono ?_
              rintro e2 a3 h3 ⟨rfl, rfl, rfl⟩
              exact ⟨v, h1, he, rfl, rfl⟩
            · cases he
      · rename_i hlt
        exact ⟨fun h => absurd h hlt, fun _ => evRound_sound hγ hm ih he⟩

end Go.Abs

/-
The abstract heap: a call that is closed, in whatever heap.
-/
namespace Go.Abs
open Go
variable {P : Program} {Γ : Gl} {ρ : Ren} {α β : Type}

theorem Sim.empty (w : World) : Sim P (fun _ => none) #[] w := ⟨(fun _ _ h => by cases h), (fun _ h => by cases h), (fun _ _ _ _ h => by cases h)⟩

/-- A call that begins with nothing and hands back no address leaves all as it was. -/
theorem ACall.closed {f : FuncId} {args : Array Value} {Q : Value → Prop} (hf : args.all flat = true) (hc : ACall P Γ f args #[] fun v _ => Q v ∧ flat v = true) (h : H) : ACall P Γ f args h fun v h1 => Q v ∧ h1 = h := by
  intro ρ0 h0 w0 hG ρ args' w hl hs ha
  have hargs : args' = args := by
    apply Array.ext
    · exact ha.1.symm
    · intro j h1 h2
      exact flat_eq (Array.all_eq_true.1 hf j h2) (ha.2 j _ _ (Array.getElem?_eq_getElem h2) (Array.getElem?_eq_getElem h1))
  subst hargs
  have hG2 : Glob Γ (fun _ => none) w := fun g ob hg => ⟨(hG.later hl g ob hg).1, fun _ _ h => by cases h⟩
  have hr : RRel P (fun _ => none) args' args' := ⟨rfl, fun j u u' hu hu' => by
    rw [hu] at hu'; cases hu'
    obtain ⟨hlt, rfl⟩ := Array.getElem?_eq_some_iff.1 hu
    exact flat_rel (Array.all_eq_true.1 hf j hlt)⟩
  refine (hc _ #[] w hG2 _ args' w (.refl _ _ _) (Sim.empty w) hr).mono ?_
  rintro e w1 ⟨v', rfl, ρ1, v, h1, ⟨hq, hfl⟩, g2, g3, g4⟩
  have hb : ∀ b, b < w.heap.size → w1.heap[b]? = w.heap[b]? := fun b hb => g2.frame b hb fun _ _ h => by cases h
  have hsim : Sim P ρ h w1 := ⟨fun i B hB => by
    obtain ⟨o, o', q1, q2, q3⟩ := hs.live i B hB
    exact ⟨o, o', q1, (hb _ (Array.getElem?_eq_some_iff.1 q2).1).trans q2, q3⟩, hs.dead, hs.one⟩
  have hlat : Later ρ h w ρ h w1 :=
    ⟨.refl ρ, Nat.le_refl _, g2.wsize, g2.os, g2.tape, g2.output, fun i _ hn => ⟨hn, rfl⟩, fun b hlt _ => hb b hlt, fun i B hB => .inl hB⟩
  exact ⟨v', rfl, ρ, v, h, ⟨hq, rfl⟩, hl.trans hlat, hsim, by rw [flat_eq hfl g4]; exact flat_rel hfl⟩

/-- What a run by counting tells of a closed call. -/
theorem ACall.ofRun {γ : Known} (hγ : KnownOk P Γ γ) {orc : Caller} (hm : P.follows .mixedOrders = true) (ho : Callable P Γ orc) {n : Nat} {f : FuncId} {args : Array Value} {v : Value} (hf : args.all flat = true)
    (hr : (match evCall P γ orc n f args #[] with | some (u, _) => sameV u v && flat u | none => false) = true) (h : H) (hy : f < YB := by decide) : ACall P Γ f args h fun u h1 => u = v ∧ h1 = h := by
  split at hr
  · rename_i u h1 he
    rw [Bool.and_eq_true] at hr
    exact ACall.closed hf (((evCall_sound hγ hm ho n _ _ _ _ _ he).1 hy).mono fun x k ⟨e1, _⟩ => by subst e1; exact ⟨sameV_eq _ _ hr.1, hr.2⟩) h
  · cases hr

theorem Callable.none : Callable P Γ fun _ _ _ => none := fun _ _ _ _ _ h => by cases h

end Go.Abs

/-
The abstract heap: variables of packages, and rows of the model that read them.
-/
namespace Go.Abs
open Go
variable {P : Program} {Γ : Gl} {ρ : Ren} {α β : Type}

/-- A row of the model that asks only of variables of packages. -/
theorem AOps.row {ops : Array Oper} {i : Nat} {o : Oper} {l : List Nat} {a : Act} {h : H} {v : Value} {K : Act → H → Prop}
    (hi : ops[i]? = some o) (hw : Region.wanted o (yielded ops a.tmps) = true) (hok : (o.op.operands.all fun x => match x with | .func _ => true | x => okOperand x && flat (a.eval x)) = true) (hsel : ∀ cs b, o.op ≠ .select cs b)
    (hrun : ∀ w : World, (∀ (g : Nat) (ob : Obj), Γ.heap[g]? = some ob → w.heap[g]? = some ob) → (execOp a.eval o).run P w = .ok (.value v) w) (hf : flat v = true) (hr : AOps P Γ ops l (a.put o.dst v) h K) : AOps P Γ ops (i :: l) a h K :=
  fun ρ0 h0 w0 hG r hrr ρ a' w hl hs ha => by
    have hw' := (wanted_rel (ops := ops) ha o).trans hw
    simp only [wpOpsIn, hi, hw', if_true]
    have hcongr : execOp a'.eval o = execOp a.eval o := execOp_congr o hsel fun x hx => by
      obtain ⟨j, hj, rfl⟩ := Array.getElem_of_mem hx
      have := Array.all_eq_true.1 hok j hj
      generalize o.op.operands[j] = x at this
      cases x with
      | func f => rfl
      | _ =>
        simp only [Bool.and_eq_true] at this
        exact flat_eq this.2 (ha.eval this.1)
    refine wpIn_val (.inl ?_) (hr ρ0 h0 w0 hG r hrr ρ _ w hl hs (ha.put o.dst (flat_rel hf)))
    rw [hcongr]
    exact hrun w fun g ob hg => ((hG.later hl) g ob hg).1

end Go.Abs

/-
The abstract heap: steps whose results are left to counting.
-/
namespace Go.Abs
open Go
variable {P : Program} {Γ : Gl} {ρ : Ren} {α β : Type}

/-- Nobody is called. -/
def noCall : Caller := fun _ _ _ => Option.none

theorem noCall_ok : Callable P Γ noCall := fun _ _ _ _ _ h => by cases h

def evF (P : Program) (γ : Known) (call : Caller) (n : Nat) (c : Code) (a : Act) (h : H) : Act := match evCode P γ call n c a h with | some (_, a1, _) => a1 | none => a
def evH (P : Program) (γ : Known) (call : Caller) (n : Nat) (c : Code) (a : Act) (h : H) : H := match evCode P γ call n c a h with | some (_, _, h1) => h1 | none => h
def evNormal (P : Program) (γ : Known) (call : Caller) (n : Nat) (c : Code) (a : Act) (h : H) : Bool := match evCode P γ call n c a h with | some (.normal, _, _) => true | _ => false

/-- A piece of code that ends as it stands; where it ends is left to counting. -/
theorem ACode.ev {γ : Known} (hγ : KnownOk P Γ γ) {call : Caller} (hm : P.follows .mixedOrders = true) (hc : Callable P Γ call) (n : Nat) {c : Code} {a : Act} {h : H} {K : Act → H → Prop} {Q : Exit → Act → H → Prop} (hs : evNormal P γ call n c a h = true)
    (hk : K (evF P γ call n c a h) (evH P γ call n c a h)) : ACode P Γ c a h (andThen K Q) := by
  unfold evNormal at hs
  split at hs
  · rename_i a1 h1 he
    refine (evCode_sound hγ hm hc n c a a1 h h1 _ he).mono ?_
    rintro e2 a2 h2 ⟨rfl, rfl, rfl⟩
    unfold evF evH at hk
    rw [he] at hk
    exact hk
  · cases hs

/-- A piece of code that hands back a value; which one is left to counting. -/
theorem ACode.evRet {γ : Known} (hγ : KnownOk P Γ γ) {call : Caller} (hm : P.follows .mixedOrders = true) (hc : Callable P Γ call) (n : Nat) {c : Code} {a : Act} {h : H} {fn : Func} {Q : Value → H → Prop} (v : Value)
    (hs : (match evCode P γ call n c a h with | some (.normal, a1, h1) | some (.ret, a1, h1) => (match leave P fn a1 h1 with | some (u, _) => sameV u v | none => false) | _ => false) = true)
    (hq : ∀ h1, Q v h1) : ACode P Γ c a h (RetPost P fn Q) := by
  split at hs
  · rename_i a1 h1 he
    split at hs
    · rename_i u h2 hr
      refine (evCode_sound hγ hm hc n c a a1 h h1 _ he).mono ?_
      rintro e2 a2 h3 ⟨rfl, rfl, rfl⟩
      exact ⟨u, h2, hr, by rw [sameV_eq _ _ hs]; exact hq h2⟩
    · cases hs
  · rename_i a1 h1 he
    split at hs
    · rename_i u h2 hr
      refine (evCode_sound hγ hm hc n c a a1 h h1 _ he).mono ?_
      rintro e2 a2 h3 ⟨rfl, rfl, rfl⟩
      exact ⟨u, h2, hr, by rw [sameV_eq _ _ hs]; exact hq h2⟩
    · cases hs
  · cases hs

theorem ACode.condT {c : Operand} {x y : Code} {a : Act} {h : H} {Q : Exit → Act → H → Prop} (ho : okOperand c = true) (hc : sameV (a.eval c) (.bool true) = true) (hx : ACode P Γ x a h Q) : ACode P Γ (.cond c x y) a h Q :=
  ACode.cond (t := true) ho (sameV_eq _ _ hc) hx
theorem ACode.condF {c : Operand} {x y : Code} {a : Act} {h : H} {Q : Exit → Act → H → Prop} (ho : okOperand c = true) (hc : sameV (a.eval c) (.bool false) = true) (hy : ACode P Γ y a h Q) : ACode P Γ (.cond c x y) a h Q :=
  ACode.cond (t := false) ho (sameV_eq _ _ hc) hy

theorem ACode.regionL {id : Nat} {ops : Array Oper} {a : Act} {h : H} {Q : Exit → Act → H → Prop} (l : List Nat) (hl : ops.size = l.length) (hl2 : l = List.range l.length) (hr : AOps P Γ ops l a h (fun a h => Q .normal a h)) : ACode P Γ (.region id ops false) a h Q :=
  ACode.region (by rw [hl, ← hl2]; exact hr)

theorem getD_some {ops : Array Oper} {i : Nat} (h : decide (i < ops.size) = true) : ops[i]? = some (ops.getD i default) := by
  have hlt : i < ops.size := by simpa using h
  simp [hlt]

theorem AOps.valAt {ops : Array Oper} {i : Nat} {l : List Nat} {a : Act} {h : H} {K : Act → H → Prop} (v : Value) (hi : decide (i < ops.size) = true) (hw : Region.wanted (ops.getD i default) (yielded ops a.tmps) = true)
    (hv : aop P a (ops.getD i default) h = some (.val v h)) (hr : AOps P Γ ops l (a.put (ops.getD i default).dst v) h K) : AOps P Γ ops (i :: l) a h K :=
  AOps.val (getD_some hi) hw hv hr

theorem AOps.globAt {ops : Array Oper} {i : Nat} {l : List Nat} {a : Act} {h : H} {v : Value} {K : Act → H → Prop} (t : TypeId) (g : Nat) (d : TypeDesc) {cs : Array Value} {e : TypeId} {f : Nat × Nat}
    (hi : decide (i < ops.size) = true) (hw : Region.wanted (ops.getD i default) (yielded ops a.tmps) = true) (hop : (ops.getD i default).op = .load t (.global g)) (hu : P.underlying t = some d) (hd : plainDesc d = true)
    (hΓ : Γ.heap[g]? = some (.cells cs e f)) (hv : cs[0]? = some v) (hf : flat v = true) (hr : AOps P Γ ops l (a.put (ops.getD i default).dst v) h K) : AOps P Γ ops (i :: l) a h K :=
  AOps.glob (getD_some hi) hw hop hu hd hΓ hv hf hr

theorem AOps.rowAt {ops : Array Oper} {i : Nat} {l : List Nat} {a : Act} {h : H} (v : Value) {K : Act → H → Prop}
    (hi : decide (i < ops.size) = true) (hw : Region.wanted (ops.getD i default) (yielded ops a.tmps) = true) (hok : ((ops.getD i default).op.operands.all fun x => match x with | .func _ => true | x => okOperand x && flat (a.eval x)) = true)
    (hsel : (match (ops.getD i default).op with | .select _ _ => false | _ => true) = true)
    (hrun : ∀ w : World, (∀ (g : Nat) (ob : Obj), Γ.heap[g]? = some ob → w.heap[g]? = some ob) → (execOp a.eval (ops.getD i default)).run P w = .ok (.value v) w) (hf : flat v = true) (hr : AOps P Γ ops l (a.put (ops.getD i default).dst v) h K) :
    AOps P Γ ops (i :: l) a h K :=
  AOps.row (getD_some hi) hw hok (fun cs b e => by rw [e] at hsel; cases hsel) hrun hf hr

def evIdx (P : Program) (γ : Known) (call : Caller) (ops : Array Oper) : List Nat → Act → H → Option (Act × H)
  | [], a, h => some (a, h)
  | i :: l, a, h => match ops[i]? with
    | some o =>
      if Region.wanted o (yielded ops a.tmps) = true then
        match evOp P call o a h with
        | some (a1, h1) => evIdx P γ call ops l a1 h1
        | none => match aext P a o h with
          | some (v, h1) => evIdx P γ call ops l (a.put o.dst v) h1
          | none => match aglob γ o with
            | some v => evIdx P γ call ops l (a.put o.dst v) h
            | none => match ayield a o with
              | some (li, args) => match call (YB + li) args h with
                | some (v, h1) => evIdx P γ call ops l (a.put o.dst v) h1
                | none => none
              | none => none
      else evIdx P γ call ops l (a.put o.dst undef) h
    | none => none

def idxF (P : Program) (γ : Known) (call : Caller) (ops : Array Oper) (l : List Nat) (a : Act) (h : H) : Act := match evIdx P γ call ops l a h with | some (a1, _) => a1 | none => a
def idxH (P : Program) (γ : Known) (call : Caller) (ops : Array Oper) (l : List Nat) (a : Act) (h : H) : H := match evIdx P γ call ops l a h with | some (_, h1) => h1 | none => h

theorem evIdx_sound {γ : Known} (hγ : KnownOk P Γ γ) {call : Caller} (hc : Callable P Γ call) {ops : Array Oper} : ∀ (l m : List Nat) (a a1 : Act) (h h1 : H), evIdx P γ call ops l a h = some (a1, h1) →
    ∀ {K : Act → H → Prop}, AOps P Γ ops m a1 h1 K → AOps P Γ ops (l ++ m) a h K := by
  intro l
  induction l with
  | nil => intro m a a1 h h1 he K hk; cases he; exact hk
  | cons i l ih =>
    intro m a a1 h h1 he K hk
    unfold evIdx at he
    split at he
    · rename_i o hi
      split at he
      · rename_i hw
        split at he
        · rename_i a2 h2 hop
          exact AOp.ops hi (evOp_sound hc hi hw hop (ih m _ _ _ _ he hk))
        · split at he
          · rename_i v h2 hx
            exact AOps.ext hi hw hx (ih m _ _ _ _ he hk)
          · split at he
            · rename_i v hx
              exact AOps.known hγ hi hw hx (ih m _ _ _ _ he hk)
            · split at he
              · rename_i li args hy
                split at he
                · rename_i v h2 hcall
                  refine AOps.round hi hw hy (by have := (hc _ _ _ _ _ hcall).2 (Nat.le_add_right _ _); rw [Nat.add_sub_cancel_left] at this; exact this) ?_
                  rintro u k ⟨rfl, rfl⟩
                  exact ih m _ _ _ _ he hk
                · cases he
              · cases he
      · rename_i hw
        exact AOps.skip hi (by simpa using hw) (ih m _ _ _ _ he hk)
    · cases he

theorem AOps.evs {γ : Known} (hγ : KnownOk P Γ γ) {call : Caller} (hc : Callable P Γ call) {ops : Array Oper} (l m : List Nat) {a : Act} {h : H} {K : Act → H → Prop} (hs : (evIdx P γ call ops l a h).isSome = true)
    (hk : AOps P Γ ops m (idxF P γ call ops l a h) (idxH P γ call ops l a h) K) : AOps P Γ ops (l ++ m) a h K := by
  cases he : evIdx P γ call ops l a h with
  | none => rw [he] at hs; cases hs
  | some r =>
    obtain ⟨a1, h1⟩ := r
    unfold idxF idxH at hk
    rw [he] at hk
    exact evIdx_sound hγ hc l m a a1 h h1 he hk

theorem AOps.valDec {ops : Array Oper} {i : Nat} {l : List Nat} {a : Act} {h : H} {K : Act → H → Prop} (b : Bool) (p : Prop) [Decidable p] (hb : decide p = b) (hi : decide (i < ops.size) = true) (hw : Region.wanted (ops.getD i default) (yielded ops a.tmps) = true)
    (hv : aop P a (ops.getD i default) h = some (.val (.bool (decide p)) h)) (hr : AOps P Γ ops l (a.put (ops.getD i default).dst (.bool b)) h K) : AOps P Γ ops (i :: l) a h K := by
  subst hb
  exact AOps.val (getD_some hi) hw hv hr

/-- What is handed back; read off by counting. -/
theorem retAt {fn : Func} {a : Act} {h : H} {Q : Value → H → Prop} (v : Value) (hs : (match leave P fn a h with | some (u, _) => sameV u v | none => false) = true) (hq : ∀ h1, Q v h1) :
    ∃ u h1, leave P fn a h = some (u, h1) ∧ Q u h1 := by
  split at hs
  · rename_i u h1 hr
    exact ⟨u, h1, hr, by rw [sameV_eq _ _ hs]; exact hq h1⟩
  · cases hs

end Go.Abs

/-
The abstract heap: steps on numbers that are not known.
-/
namespace Go.Abs
open Go
variable {P : Program} {Γ : Gl} {ρ : Ren} {α β : Type}

theorem ACode.condD {c : Operand} {x y : Code} {a : Act} {h : H} {Q : Exit → Act → H → Prop} (p : Prop) [Decidable p] (ho : okOperand c = true) (hc : a.eval c = .bool (decide p)) (hx : p → ACode P Γ x a h Q) (hy : ¬ p → ACode P Γ y a h Q) :
    ACode P Γ (.cond c x y) a h Q := by
  refine ACode.cond ho hc ?_
  by_cases hp : p
  · rw [if_pos (decide_eq_true hp)]; exact hx hp
  · rw [if_neg (by simp [hp])]; exact hy hp

theorem retIs {fn : Func} {a : Act} {h : H} {Q : Value → H → Prop} (v : Value) (h1 : H) (hs : leave P fn a h = some (v, h1)) (hq : Q v h1) :
    ∃ u h1, leave P fn a h = some (u, h1) ∧ Q u h1 := ⟨v, h1, hs, hq⟩

/-- A division whose divisor is not zero. -/
theorem aop_div {a : Act} {o : Oper} {h : H} {op : BinOp} {t ty : TypeId} {x y : Operand} {k : IntKind} {u v : Int} (hop : o.op = .binOp op t x y ty) (hq : op = .rem ∨ op = .quo) (hx : okOperand x = true) (hy : okOperand y = true)
    (ex : a.eval x = .int k u) (ey : a.eval y = .int k v) (hv : v ≠ 0) : aop P a o h = some (.val (.int k (if op = .rem then u.tmod v else k.wrap (u.tdiv v))) h) := by
  have hexec : execOp a.eval o = (do Pure.pure (.value (← (do eqGuard op t x y (a.eval x) (a.eval y); binOp op t (a.eval x) (a.eval y))))) := by
    unfold execOp; rw [hop]
  unfold aop
  rw [hop]
  have hall : ((Op.binOp op t x y ty).operands.all okOperand) = true := by
    simp [Op.operands, hx, hy]
  rw [if_pos hall]
  dsimp only
  rw [ex, ey, if_neg (by simp [nilish])]
  unfold flatStep
  rw [hop]
  have hall2 : ((Op.binOp op t x y ty).operands.all fun x => flat (a.eval x)) = true := by
    simp [Op.operands, ex, ey, flat, flat1]
  rw [if_pos hall2, hexec, ex, ey]
  rcases hq with rfl | rfl
  · have : prun P (do Pure.pure (.value (← (do eqGuard .rem t x y (.int k u) (.int k v); binOp .rem t (.int k u) (.int k v)))) : Sem Next) = some (.value (.int k (u.tmod v))) := by
      simp only [binOp, ne_eq, not_true_eq_false, if_false, Op.intDiv, hv]
      rfl
    rw [this]
    rfl
  · have : prun P (do Pure.pure (.value (← (do eqGuard .quo t x y (.int k u) (.int k v); binOp .quo t (.int k u) (.int k v)))) : Sem Next) = some (.value (.int k (k.wrap (u.tdiv v)))) := by
      simp only [binOp, ne_eq, not_true_eq_false, if_false, Op.intDiv, hv]
      rfl
    rw [this]
    rfl

theorem AOps.div {ops : Array Oper} {i : Nat} {l : List Nat} {a : Act} {h : H} {K : Act → H → Prop} (op : BinOp) (t ty : TypeId) (x y : Operand) (k : IntKind) (u v : Int) (hi : decide (i < ops.size) = true) (hw : Region.wanted (ops.getD i default) (yielded ops a.tmps) = true)
    (hop : (ops.getD i default).op = .binOp op t x y ty) (hq : op = .rem ∨ op = .quo) (hx : okOperand x = true) (hy : okOperand y = true)
    (ex : a.eval x = .int k u) (ey : a.eval y = .int k v) (hv : v ≠ 0) (hr : AOps P Γ ops l (a.put (ops.getD i default).dst (.int k (if op = .rem then u.tmod v else k.wrap (u.tdiv v)))) h K) : AOps P Γ ops (i :: l) a h K :=
  AOps.val (getD_some hi) hw (aop_div hop hq hx hy ex ey hv) hr

end Go.Abs

/-
The abstract heap: a drawn region, piece by piece.
-/
namespace Go.Abs
open Go
variable {P : Program} {Γ : Gl} {ρ : Ren} {α β : Type}

def evPart (P : Program) (call : Caller) (ops : Array Oper) : List (Nat × Bool) → List Fact → Act → H → Option (Act × H × List Fact)
  | [], F, a, h => some (a, h, F)
  | (i, e) :: L, F, a, h =>
    match ops[i]? with
    | none => none
    | some o =>
      if Region.wanted o (yielded ops a.tmps) = true then
        if e = true then
          match aop P a o h with
          | some (.val v h1) =>
            if takes o = true then evPart P call ops L (if asks o = true then ⟨i, o, v, a⟩ :: F else F) (a.put o.dst v) h
            else if (h1[h.size]?).any (belowO h.size) = true ∧ (F.all (Fact.holds P ops · h1)) = true then evPart P call ops L F (a.put o.dst v) h1
            else none
          | _ => none
        else
          match evOp P call o a h with
          | some (a1, h1) =>
            if (F.filter fun f => !waits ops i f.i).all (Fact.holds P ops · h1) = true then evPart P call ops L (F.filter fun f => !waits ops i f.i) a1 h1 else none
          | none => none
      else if e = true then evPart P call ops L (if takes o = true ∧ asks o = true then ⟨i, o, undef, a⟩ :: F else F) (a.put o.dst undef) h
      else if (F.filter fun f => !waits ops i f.i).all (Fact.holds P ops · h) = true then evPart P call ops L (F.filter fun f => !waits ops i f.i) (a.put o.dst undef) h
      else none

theorem evPart_sound {call : Caller} (hc : Callable P Γ call) {ops : Array Oper} : ∀ (L L2 : List (Nat × Bool)) (F F1 : List Fact) (a a1 : Act) (h h1 : H) (K : Act → H → Prop), (∀ f ∈ F, (Region.wanted f.o (yielded ops f.a.tmps) = true ∨ f.v = undef) ∧ takes f.o = true) →
    evPart P call ops L F a h = some (a1, h1, F1) → DPlan P Γ ops K L2 (F1.map (Fact.prop P ops)) a1 h1 → DPlan P Γ ops K (L ++ L2) (F.map (Fact.prop P ops)) a h := by
  intro L
  induction L with
  | nil => intro L2 F F1 a a1 h h1 K _ he hk; cases he; exact hk
  | cons x L ih =>
    obtain ⟨i, e⟩ := x
    intro L2 F F1 a a1 h h1 K hF he hk
    rw [List.cons_append]
    unfold evPart at he
    unfold DPlan
    cases hi : ops[i]? with
    | none => rw [hi] at he; cases he
    | some o =>
      simp only [hi] at he ⊢
      have facts : ∀ (G : List Fact) (k : H), (∀ f ∈ G, f ∈ F) → G.all (Fact.holds P ops · k) = true → ∀ x ∈ G.map (Fact.prop P ops), x.2 k := by
        intro G k hG hall x hx
        obtain ⟨f, hf, rfl⟩ := List.mem_map.1 hx
        exact Fact.finds (hF f (hG f hf)).1 (hF f (hG f hf)).2 (List.all_eq_true.1 hall f hf)
      by_cases hw : Region.wanted o (yielded ops a.tmps) = true
      · rw [if_pos hw] at he
        cases e with
        | true =>
          simp only [if_true] at he ⊢
          split at he
          · rename_i v h2 hv
            by_cases ht : takes o = true
            · rw [if_pos ht] at he ⊢
              refine ⟨v, .inl ⟨hw, aop_takes ht hv⟩, ?_⟩
              have := ih L2 _ _ _ _ _ _ K ?_ he hk
              · by_cases hk : asks o = true
                · simp only [hk, if_true] at this ⊢; exact this
                · rw [if_neg hk] at this ⊢; exact this
              · intro f hf
                split at hf
                · rcases List.mem_cons.1 hf with rfl | hf
                  · exact ⟨.inl hw, ht⟩
                  · exact hF f hf
                · exact hF f hf
            · rw [if_neg ht] at he ⊢
              rw [if_pos hw]
              split at he
              · rename_i hb
                exact ⟨v, h2, hv, hb.1, facts F h2 (fun _ h => h) hb.2, ih L2 _ _ _ _ _ _ K hF he hk⟩
              · cases he
          · cases he
        | false =>
          simp only [Bool.false_eq_true, if_false] at he ⊢
          split at he
          · rename_i a2 h2 hop
            split at he
            · rename_i hall
              refine evOp_sound hc hi hw hop ?_
              rw [keeps_facts]
              exact ⟨facts _ h2 (fun f hf => (List.mem_filter.1 hf).1) hall, ih L2 _ _ _ _ _ _ K (fun f hf => hF f (List.mem_filter.1 hf).1) he hk⟩
            · cases he
          · cases he
      · rw [if_neg hw] at he
        cases e with
        | true =>
          simp only [if_true] at he ⊢
          by_cases ht : takes o = true
          · rw [if_pos ht]
            refine ⟨undef, .inr ⟨by simpa using hw, rfl⟩, ?_⟩
            have := ih L2 _ _ _ _ _ _ K ?_ he hk
            · by_cases hk : asks o = true
              · simp only [hk, ht, and_self, if_true] at this ⊢; exact this
              · rw [if_neg (fun h => hk h.2)] at this; rw [if_neg hk]; exact this
            · intro f hf
              split at hf
              · rcases List.mem_cons.1 hf with rfl | hf
                · exact ⟨.inr rfl, ht⟩
                · exact hF f hf
              · exact hF f hf
          · rw [if_neg (fun h => ht h.1)] at he
            rw [if_neg ht, if_neg hw]
            exact ih L2 _ _ _ _ _ _ K hF he hk
        | false =>
          simp only [Bool.false_eq_true, if_false] at he ⊢
          split at he
          · rename_i hall
            unfold AOp
            simp only [hi]
            rw [if_neg hw]
            rw [keeps_facts]
            exact ⟨facts _ h (fun f hf => (List.mem_filter.1 hf).1) hall, ih L2 _ _ _ _ _ _ K (fun f hf => hF f (List.mem_filter.1 hf).1) he hk⟩
          · cases he

def FactOk (ops : Array Oper) (F : List Fact) : Prop := ∀ f ∈ F, (Region.wanted f.o (yielded ops f.a.tmps) = true ∨ f.v = undef) ∧ takes f.o = true

theorem evPart_facts {call : Caller} {ops : Array Oper} : ∀ (L : List (Nat × Bool)) (F F1 : List Fact) (a a1 : Act) (h h1 : H), FactOk ops F → evPart P call ops L F a h = some (a1, h1, F1) → FactOk ops F1 := by
  intro L
  induction L with
  | nil => intro F F1 a a1 h h1 hF he; cases he; exact hF
  | cons x L ih =>
    obtain ⟨i, e⟩ := x
    intro F F1 a a1 h h1 hF he
    unfold evPart at he
    cases hi : ops[i]? with
    | none => rw [hi] at he; cases he
    | some o =>
      simp only [hi] at he
      have sub : FactOk ops (F.filter fun f => !waits ops i f.i) := fun f hf => hF f (List.mem_filter.1 hf).1
      split at he
      · rename_i hw
        split at he
        · split at he
          · rename_i v h2 hv
            split at he
            · rename_i ht
              refine ih _ _ _ _ _ _ ?_ he
              intro f hf
              split at hf
              · rcases List.mem_cons.1 hf with rfl | hf
                · exact ⟨.inl hw, ht⟩
                · exact hF f hf
              · exact hF f hf
            · split at he
              · exact ih _ _ _ _ _ _ hF he
              · cases he
          · cases he
        · split at he
          · split at he
            · exact ih _ _ _ _ _ _ sub he
            · cases he
          · cases he
      · rename_i hw
        split at he
        · refine ih _ _ _ _ _ _ ?_ he
          intro f hf
          split at hf
          · rename_i hc
            rcases List.mem_cons.1 hf with rfl | hf
            · exact ⟨.inr rfl, hc.1⟩
            · exact hF f hf
          · exact hF f hf
        · split at he
          · exact ih _ _ _ _ _ _ sub he
          · cases he

/-- A piece of a plan, of which it is left to counting where it ends. -/
theorem DPlan.evs {call : Caller} (hc : Callable P Γ call) {ops : Array Oper} (l m : List (Nat × Bool)) {F : List Fact} {a : Act} {h : H} {K : Act → H → Prop} (hF : FactOk ops F) (hs : (evPart P call ops l F a h).isSome = true)
    (hk : ∀ F1, FactOk ops F1 → F1 = (match evPart P call ops l F a h with | some r => r.2.2 | none => []) → DPlan P Γ ops K m (F1.map (Fact.prop P ops)) (match evPart P call ops l F a h with | some r => r.1 | none => a) (match evPart P call ops l F a h with | some r => r.2.1 | none => h)) :
    DPlan P Γ ops K (l ++ m) (F.map (Fact.prop P ops)) a h := by
  cases he : evPart P call ops l F a h with
  | none => rw [he] at hs; cases hs
  | some r =>
    obtain ⟨a1, h1, F1⟩ := r
    rw [he] at hk
    exact evPart_sound hc l m F F1 a a1 h h1 K hF he (hk F1 (evPart_facts l F F1 a a1 h h1 hF he) rfl)

/-- An operation taken early whose value is told. -/
theorem DPlan.at {ops : Array Oper} {i : Nat} {m : List (Nat × Bool)} {F : List Fact} {a : Act} {h : H} {K : Act → H → Prop} (v : Value) (hi : decide (i < ops.size) = true) (hw : Region.wanted (ops.getD i default) (yielded ops a.tmps) = true)
    (ht : takes (ops.getD i default) = true) (hv : aop P a (ops.getD i default) h = some (.val v h))
    (hk : ∀ F1, FactOk ops F1 → DPlan P Γ ops K m (F1.map (Fact.prop P ops)) (a.put (ops.getD i default).dst v) h) (hF : FactOk ops F) : DPlan P Γ ops K ((i, true) :: m) (F.map (Fact.prop P ops)) a h := by
  unfold DPlan
  simp only [getD_some hi, if_true, ht]
  refine ⟨v, .inl ⟨hw, hv⟩, ?_⟩
  split
  · have := hk (⟨i, ops.getD i default, v, a⟩ :: F) fun f hf => by
      rcases List.mem_cons.1 hf with rfl | hf
      · exact ⟨.inl hw, ht⟩
      · exact hF f hf
    exact this
  · exact hk F hF

end Go.Abs

/-
The abstract heap: cells that are not known by counting.
-/
namespace Go.Abs
open Go
variable {P : Program} {Γ : Gl} {ρ : Ren} {α β : Type}

theorem aop_load {a : Act} {o : Oper} {h : H} {t : TypeId} {x : Operand} {ad : Addr} {d : TypeDesc} {v : Value} (hop : o.op = .load t x) (hx : okOperand x = true) (ex : a.eval x = .pointer (some ad)) (hu : P.underlying t = some d) (hd : plainDesc d = true)
    (hc : cell? h ad = some v) : aop P a o h = some (.val v h) := by
  unfold aop
  rw [hop]
  have hall : ((Op.load t x).operands.all okOperand) = true := by simp [Op.operands, hx]
  rw [if_pos hall]
  dsimp only
  rw [ex]
  have : arun P (Instr.loadAt t (.pointer (some ad))) h = some (v, h) := by
    unfold Instr.loadAt Instr.sureAddr Go.loadVar Go.isAgg
    simp only [pure_bind, arun_bind, arun_underlying, hu, Option.map_some, Option.bind_some]
    cases d <;> first | (cases hd; done) | simp [hc]
  rw [this]
  rfl

theorem aop_indexAddr {a : Act} {o : Oper} {h : H} {t e : TypeId} {x i : Operand} {ad : Addr} {n c : Nat} {k : IntKind} {m : Int} {inf : TypeInfo} (hop : o.op = .indexAddr t x i) (hx : okOperand x = true) (hi : okOperand i = true)
    (ex : a.eval x = .slice (some ad) n c) (ei : a.eval i = .int k m) (hu : P.underlying t = some (.slice e)) (hs : P.info? e = some inf) (h0 : 0 ≤ m) (hm : m < n) :
    aop P a o h = some (.val (.pointer (some (ad.add (m.toNat * inf.size)))) h) := by
  unfold aop
  rw [hop]
  have hall : ((Op.indexAddr t x i).operands.all okOperand) = true := by simp [Op.operands, hx, hi]
  rw [if_pos hall]
  dsimp only
  rw [ex, ei]
  have : arun P (Instr.indexAt t (.slice (some ad) n c) (.int k m)) h = some (.pointer (some (ad.add (m.toNat * inf.size))), h) := by
    unfold Instr.indexAt Go.asIntOf Go.sizeOf
    simp [hu, hs, h0, hm]
  rw [this]
  rfl

end Go.Abs

/-
The abstract heap: runs by counting, made quick: frames and heaps as lists of what was put last.
-/
namespace Go.Abs
open Go
variable {P : Program} {Γ : Gl} {ρ : Ren} {α β : Type}

/-- What was put last under a number. -/
def look {β : Type} (d : β) : List (Nat × β) → Nat → β
  | [], _ => d
  | (k, v) :: l, i => match Nat.beq k i with
    | true => v
    | false => look d l i

structure FH where
  n : Nat
  l : List (Nat × Obj)

def FH.get (h : FH) (i : Nat) : Option Obj := match Nat.blt i h.n with
  | true => some (look tomb h.l i)
  | false => none
def FH.push (h : FH) (o : Obj) : FH := match h with | ⟨n, l⟩ => ⟨n + 1, (n, o) :: l⟩
def FH.set (h : FH) (i : Nat) (o : Obj) : FH := match h with | ⟨n, l⟩ => match Nat.blt i n with
  | true => ⟨n, (i, o) :: l⟩
  | false => ⟨n, l⟩
def FH.toH (h : FH) : H := Array.ofFn (n := h.n) fun i => look tomb h.l i

def cellF? (h : FH) (a : Addr) : Option Value :=
  match h.get a.block with
  | some (.cells c _ _) => if a.spot.isSome then none else c.toList[a.off]?
  | _ => none

def freeF (h : FH) (a : Addr) : Bool :=
  match h.get a.block with
  | some (.cells c _ (lo, hi)) => a.spot.isNone && (c.toList[a.off]?).isSome && lo == 0 && hi == 0
  | _ => false

def setCellF (h : FH) (a : Addr) (v : Value) : FH :=
  match h.get a.block with
  | some (.cells c e f) => h.set a.block (.cells ⟨c.toList.set a.off v⟩ e f)
  | _ => h

def arunF {α : Type} (P : Program) : Sem α → FH → Option (α × FH)
  | .pure a, h => some (a, h)
  | .load m a k, h => if m = .plain then match cellF? h a with | some v => arunF P (k v) h | none => none else none
  | .store m a v k, h => if m = .plain ∧ v.oneCell' = true ∧ freeF h a = true then arunF P k (setCellF h a v) else none
  | .new o k, h => if plainObj o = true then arunF P (k h.n) (h.push o) else
      match o with
      | .cells c e (0, 0) => if c.toList.all Value.oneCell' then arunF P (k h.n) (h.push (.cells c e)) else none
      | _ => none
  | .getObj r k, h => match h.get r with
    | some o => if plainObj o = true then arunF P (k o) h else none
    | none => none
  | .setObj r o k, h => match h.get r with
    | some o' => if sameKind o' o = true then arunF P k (h.set r o) else none
    | none => none
  | .program k, h => arunF P (k P) h
  | .mark m k, h => if m = .noRoom then none else arunF P k h
  | _, _ => none

structure FA where
  n : Nat
  l : List (Nat × Value)
  ds : List Deferred

def FA.get (a : FA) (t : Nat) : Option Value := match Nat.blt t a.n with
  | true => some (look undef a.l t)
  | false => none
def FA.put (a : FA) (dst : Option Tmp) (v : Value) : FA := match a with | ⟨n, l, ds⟩ => match dst with
  | some d => match Nat.blt d n with
    | true => ⟨n, (d, v) :: l, ds⟩
    | false => ⟨n, l, ds⟩
  | none => ⟨n, l, ds⟩
def FA.toA (a : FA) : Act := { tmps := Array.ofFn (n := a.n) fun i => look undef a.l i, defers := a.ds }
def FA.eval (a : FA) : Operand → Value
  | .tmp t => match Nat.blt t a.n with
    | true => look undef a.l t
    | false => undef
  | .const v => v
  | .global g => .pointer (some ⟨g, 0, none⟩)
  | .func f => .func (.func f) #[] #[]

def yieldedF (ops : Array Oper) (a : FA) (j : Nat) : Option Bool :=
  match ((ops[j]?).bind (·.dst)).bind (a.get ·) with
  | some (.bool b) => some b
  | _ => none

inductive FStep where
  | val (v : Value) (h : FH)
  | enter (f : FuncId) (args : Array Value) (h : FH)

def valsF (r : Option (Value × FH)) : Option FStep := r.map fun r => .val r.1 r.2
def unitsF (r : Option (Unit × FH)) : Option FStep := r.map fun r => .val undef r.2

/-- An operation on values without addresses. -/
def cat3 (x : Array Value) (y : List Value) (z : Array Value) : Array Value := ⟨x.toList ++ (y ++ z.toList)⟩

def flatStepF (P : Program) (ev : Operand → Value) (o : Oper) (h : FH) : Option FStep :=
  if (o.op.operands.toList.all fun x => flat (ev x)) = true then
    match prun P (execOp ev o) with
    | some (.value v) => if flat v = true then some (.val v h) else none
    | _ => none
  else none

def asrcF (P : Program) (u : TypeId) (i : TypeInfo) (z : Value) (x : Value) (h : FH) : Option (Nat × Array Value) :=
  match P.underlying u with
  | some .string => match x with
    | .string b => if i.size = 1 then some (b.size, b.data.map fun b => .int .u8 b.toNat) else none
    | _ => none
  | some (.slice _) => match x with
    | .slice none _ _ => some (0, #[])
    | .slice (some a) m _ => (arunF P (Go.loadCells a (m * i.size)) h).map fun r => (m, r.1)
    | _ => none
  | some (.int k0) => match x with
    | .int k n => if k = k0 ∧ 0 ≤ IntKind.i64.wrap n ∧ IntKind.i64.wrap n * (i.bytes : Int) ≤ 2 ^ 48 ∧ (IntKind.i64.wrap n).toNat ≠ 0 then some ((IntKind.i64.wrap n).toNat, Builtin.zeroCells z.cells (IntKind.i64.wrap n).toNat) else none
    | _ => none
  | _ => none

def appendToF (P : Program) (e : TypeId) (i : TypeInfo) (s : Value) (m : Nat) (news : Array Value) (h : FH) : Option (Value × FH) :=
  match s with
  | .slice none 0 0 =>
    if m = 0 then some (.slice none 0 0, h)
    else if m * i.bytes ≤ 140737488355328 then some (.slice (some ⟨h.n, 0, none⟩) m OPEN, h.push (.cells news e)) else none
  | .slice (some a) n c =>
    if c = OPEN then
      match h.get a.block with
      | some (.cells cs e' (0, 0)) =>
        if e' = e then
          if a.off + (n + m) * i.size ≤ cs.size then (arunF P (Go.storeCells (a.add (n * i.size)) news.toList) h).map fun r => (.slice (some a) (n + m) OPEN, r.2)
          else if a.off + n * i.size = cs.size ∧ (n + m) * i.bytes ≤ 140737488355328 then
            some (.slice (some ⟨h.n, 0, none⟩) (n + m) OPEN, (h.set a.block tomb).push (.cells (cs.extract a.off cs.size ++ news) e))
          else none
        else none
      | _ => none
    else if n + m ≤ c then (arunF P (Go.storeCells (a.add (n * i.size)) news.toList) h).map fun r => (.slice (some a) (n + m) c, r.2)
    else if (n + m) * i.bytes ≤ 140737488355328 then
      (arunF P (Go.loadCells a (n * i.size)) h).map fun r => (.slice (some ⟨h.n, 0, none⟩) (n + m) OPEN, h.push (.cells (r.1 ++ news) e))
    else none
  | _ => none

def aappendF (P : Program) (ts : Array TypeId) (args : Array Value) (h : FH) : Option (Value × FH) :=
  match ts.toList, args.toList with
  | [t, u], [s, x] =>
    match P.underlying t with
    | some (.slice e) =>
      match eok P e with
      | some (i, z) =>
        match asrcF P u i z x h with
        | some (m, news) => appendToF P e i s m news h
        | none => none
      | none => none
    | _ => none
  | _, _ => none

def asliceF (P : Program) (t : TypeId) (a : Addr) (n : Nat) (lo hi mx : Option Value) (h : FH) : Option Value :=
  match P.underlying t with
  | some (.slice e) =>
    match P.info? e with
    | none => none
    | some i =>
      match h.get a.block with
      | some (.cells c e' (0, 0)) =>
        if e' = e ∧ 0 < i.size ∧ n ≤ (c.size - a.off) / i.size then
          match arunF P (Instr.sliceBounds true n ((c.size - a.off) / i.size) lo hi mx) h with
          | some ((l, u, m), _) =>
            if mx.isNone then some (.slice (some (a.add (l * i.size))) (u - l) OPEN)
            else if m < OPEN then some (.slice (some (if m = l then a else a.add (l * i.size))) (u - l) (m - l)) else none
          | none => none
        else none
      | _ => none
  | _ => none

def acallF (P : Program) (ev : Operand → Value) (o : Oper) (c : Call) (h : FH) : Option FStep :=
  match c.callee with
  | .builtin .append => valsF (aappendF P c.argTypes (⟨c.args.toList.map ev⟩ : Array Value) h)
  | .builtin .len => match c.argTypes.toList, (c.args.toList.map ev) with
    | [t], [x] => if lenable P t = true then valsF (arunF P (Builtin.len_ #[t] o.type #[x]) h) else none
    | _, _ => none
  | .builtin .copy => match c.argTypes.toList, (c.args.toList.map ev) with
    | [t, u], [x, y] => valsF (arunF P (Builtin.copy_ #[t, u] o.type #[x, y]) h)
    | _, _ => none
  | .builtin .clear => match c.argTypes.toList, (c.args.toList.map ev) with
    | [t], [x] => if sliceZok P t = true ∧ isSlice (x) = true then valsF (arunF P (Builtin.clear_ #[t] o.type #[x]) h) else none
    | _, _ => none
  | .builtin .delete => match c.argTypes.toList, (c.args.toList.map ev) with
    | [t, u], [x, y] => if flat (y) = true then valsF (arunF P (Builtin.delete_ #[t, u] o.type #[x, y]) h) else none
    | _, _ => none
  | .value f => match ev f with
    | .func (.func g) first cap =>
      match P.funcs[g]? with
      | some fn =>
        if fn.body.isSome = true then if fn.name ≠ "runtime.NumGoroutine" then some (.enter g (cat3 first (c.args.toList.map ev) cap) h) else none
        else if (cat3 first (c.args.toList.map ev) cap).all flat = true then
          match prun P (callFunc g (cat3 first (c.args.toList.map ev) cap)) with
          | some (.value v) => if flat v = true then some (.val v h) else none
          | _ => none
        else none
      | none => none
    | _ => none
  | _ => none


def aopF (P : Program) (ev : Operand → Value) (o : Oper) (h : FH) : Option FStep :=
  if (o.op.operands.all okOperand) = true then
    match o.op with
    | .move x | .assign x => some (.val (ev x) h)
    | .pick c x y => match ev c with | .bool b => some (.val (if b = true then ev x else ev y) h) | _ => none
    | .alloc e => if zok P e = true then valsF (arunF P (Instr.alloc e true (.tuple #[])) h) else none
    | .box e x => valsF (arunF P (Instr.box e (ev x)) h)
    | .build t parts => if zok P t = true then valsF (arunF P (Instr.build t (parts.map fun p => (p.1, ev p.2))) h) else none
    | .buildSlice t n parts => if sliceZok P t = true ∧ n < OPEN then valsF (arunF P (Instr.buildSlice t n (parts.map fun p => (p.1, ev p.2))) h) else none
    | .load t x => valsF (arunF P (Instr.loadAt t (ev x)) h)
    | .store t x y => unitsF (arunF P (Instr.storeAt t (ev x) (ev y)) h)
    | .nilCheck x => match ev x with | .pointer (some ad) => some (.val (.pointer (some ad)) h) | _ => none
    | .binOp op t x y _ =>
      if nilish (ev x) (ev y) = true ∧ isEq op = true then valsF (arunF P (do eqGuard op t x y (ev x) (ev y); binOp op t (ev x) (ev y)) h)
      else flatStepF P ev o h
    | .makeInterface t x => valsF (arunF P (Instr.makeInterface t (ev x)) h)
    | .makeFunc fn first cap => match fn with | .func f => some (.val (.func (.func f) (first.map ev) (cap.map ev)) h) | _ => none
    | .makeMap t none => valsF (arunF P (Instr.makeMap t none) h)
    | .makeSlice t l c => if sliceZok P t = true then valsF (arunF P (Instr.makeSlice t (ev l) (ev c)) h) else none
    | .slice t x lo hi mx =>
      if strSlice P t = true then
        match ev x with
        | .slice (some ad) n c =>
          if c = OPEN then (asliceF P t ad n (lo.map ev) (hi.map ev) (mx.map ev) h).map fun v => .val v h
          else valsF (arunF P (Instr.slice t (.slice (some ad) n c) (lo.map ev) (hi.map ev) (mx.map ev)) h)
        | v => valsF (arunF P (Instr.slice t v (lo.map ev) (hi.map ev) (mx.map ev)) h)
      else none
    | .fieldAddr t x f => valsF (arunF P (Instr.fieldAt t (ev x) f) h)
    | .field t x f => valsF (arunF P (Instr.field t (ev x) f) h)
    | .indexAddr t x i => valsF (arunF P (Instr.indexAt t (ev x) (ev i)) h)
    | .index t x i => valsF (arunF P (Instr.index t (ev x) (ev i)) h)
    | .lookup t x k ok => if mapZok P t = true ∧ flat (ev k) = true then valsF (arunF P (Instr.lookup t (ev x) (ev k) ok) h) else none
    | .mapUpdate t m k x | .insert t m k x => if flat (ev k) = true then unitsF (arunF P (Instr.mapUpdate t (ev m) (ev k) (ev x)) h) else none
    | .mapEntry t m k => if mapZok P t = true ∧ flat (ev k) = true then valsF (arunF P (Instr.mapEntry t (ev m) (ev k)) h) else none
    | .entryStore t m s x => unitsF (arunF P (Instr.entryStore t (ev m) (ev s) (ev x)) h)
    | .extract t i => valsF (arunF P (Instr.extract (ev t) i) h)
    | .call c => match acallF P ev o c h with
      | some r => some r
      | none => flatStepF P ev o h
    | .select _ _ => none
    | _ => flatStepF P ev o h
  else none

/-- What goes beyond one cell's arithmetic: strings made of rows, and rows made of strings. -/
def aextF (P : Program) (ev : Operand → Value) (o : Oper) (h : FH) : Option (Value × FH) :=
  match o.op with
  | .convert src dst x =>
    if okOperand x = true then
      match P.underlying src, P.underlying dst, ev x with
      | some .string, some (.slice e), .string s =>
        match eok P e with
        | some (i, z) => if isU8 P e = true ∧ s.size ≤ 140737488355328 ∧ i.size = 1 ∧ sameV z (.int .u8 0) = true then some (.slice (some ⟨h.n, 0, none⟩) s.size OPEN, h.push (.cells (byteCells s) e)) else none
        | none => none
      | some (.slice e), some .string, .slice none 0 0 => if isU8 P e = true then some (.string .empty, h) else none
      | some (.slice e), some .string, .slice (some ad) n _ =>
        if isU8 P e = true then
          match arunF P (Go.loadCells ad n) h with
          | some (cs, _) => if cs.all flat = true then match prun P (bytesLoop cs) with | some v => if flat v = true then some (v, h) else none | none => none else none
          | none => none
        else none
      | _, _, _ => none
    else none
  | _ => none


/-! The common operations, told apart ahead of the run -/
inductive FI where
  | mov (x : Operand)
  | bin (op : BinOp) (x y : Operand)
  | pick (c x y : Operand)
  | len (x : Operand)
  | load (x : Operand)
  | idx (x i : Operand) (n : Nat)
  | call (f : Operand) (args : List Operand)
  | slow

def binOk : BinOp → Bool
  | .add | .sub | .mul | .eql | .neq | .lss | .leq | .gtr | .geq => true
  | _ => false

def binI (op : BinOp) (k : IntKind) (u v : Int) : Value :=
  match op with
  | .add => .int k (k.wrap (u + v))
  | .sub => .int k (k.wrap (u - v))
  | .mul => .int k (k.wrap (u * v))
  | .eql => .bool (u == v)
  | .neq => .bool (u != v)
  | .lss => .bool (u < v)
  | .leq => .bool (u ≤ v)
  | .gtr => .bool (u > v)
  | _ => .bool (u ≥ v)

def fi (P : Program) (o : Oper) : FI :=
  if (o.op.operands.all okOperand) = true then
    match o.op with
    | .move x => .mov x
    | .assign x => .mov x
    | .binOp op _ x y _ => if binOk op = true then .bin op x y else .slow
    | .pick c x y => .pick c x y
    | .load t x => match P.underlying t with | some d => if plainDesc d = true then .load x else .slow | none => .slow
    | .indexAddr t x i => match P.underlying t with
      | some (.slice e) => match P.info? e with | some inf => .idx x i inf.size | none => .slow
      | _ => .slow
    | .call c => match c.callee with
      | .builtin .len => match c.argTypes.toList, c.args.toList with
        | [t], [x] => match P.underlying t with | some (.slice _) => .len x | _ => .slow
        | _, _ => .slow
      | .value f => .call f c.args.toList
      | _ => .slow
    | _ => .slow
  else .slow

def callF (P : Program) (ev : Operand → Value) (args : List Operand) (h : FH) (g : FuncId) (first cap : Array Value) : Option FStep :=
  match P.funcs[g]? with
  | some fn => if fn.body.isSome = true then if fn.name ≠ "runtime.NumGoroutine" then some (.enter g (cat3 first (args.map ev) cap) h) else none else none
  | none => none

def runFI (P : Program) (ev : Operand → Value) (o : Oper) (h : FH) : FI → Option FStep
  | .mov x => some (.val (ev x) h)
  | .bin op x y => match ev x with
    | .int k u => match ev y with
      | .int k' v => if k = k' then some (.val (binI op k u v) h) else none
      | _ => none
    | _ => aopF P ev o h
  | .pick c x y => match ev c with
    | .bool true => some (.val (ev x) h)
    | .bool false => some (.val (ev y) h)
    | _ => none
  | .len x => match ev x with
    | .slice _ n _ => some (.val (.int .i64 n) h)
    | _ => none
  | .load x => match ev x with
    | .pointer (some ad) => match cellF? h ad with
      | some v => some (.val v h)
      | none => none
    | _ => none
  | .idx x i n => match ev x with
    | .slice (some ad) len _ => match ev i with
      | .int _ (.ofNat m) => match Nat.blt m len with
        | true => some (.val (.pointer (some (ad.add (m * n)))) h)
        | false => none
      | _ => none
    | _ => none
  | .call f args => match ev f with
    | .func (.func g) first cap => match callF P ev args h g first cap with
      | some r => some r
      | none => aopF P ev o h
    | _ => none
  | .slow => aopF P ev o h

def ayieldF (ev : Operand → Value) (o : Oper) : Option (Nat × Array Value) :=
  match o.op with
  | .call c => if (o.op.operands.all okOperand) = true then
      match c.callee with
      | .value f => match ev f with
        | .func (.yield l) x y => if x.isEmpty = true ∧ y.isEmpty = true then some (l, (⟨c.args.toList.map ev⟩ : Array Value)) else none
        | _ => none
      | _ => none
    else none
  | _ => none

abbrev CallerF := FuncId → Array Value → FH → Option (Value × FH)

/-- A row of values, numbered. -/
def numbered : Nat → List Value → List (Nat × Value)
  | _, [] => []
  | k, v :: l => (k, v) :: numbered (k + 1) l

def startF (fn : Func) (args : Array Value) : FA := ⟨args.size + (fn.ntmps - args.size), numbered 0 args.toList, []⟩
def bindArgsF (params : Array Tmp) (args tmps : Array Value) : FA := (params.toList.zip args.toList).foldl (fun a (t, v) => a.put (some t) v) ⟨tmps.size, numbered 0 tmps.toList, []⟩
def tmpsF (a : FA) : Array Value := ⟨(List.range a.n).map fun i => look undef a.l i⟩
def markF (a : FA) (n : Nat) : FA := match a with | ⟨m, l, ds⟩ => ⟨m, l, { target := .collected n, args := #[] } :: ds⟩
def loopObjF (n : Nat) (a : FA) (ps : Array Tmp) (assign body : Code) : Obj := .loop { state := .ready, pending := none, fn := 0, tmps := tmpsF a, params := ps, assign, body, defers := n }
def rangeHeapF (h : FH) (a : FA) (ps : Array Tmp) (assign body : Code) : FH := (h.push (.deferred (some []))).push (loopObjF h.n a ps assign body)

def collectF : List Deferred → FH → Option FH
  | [], h => some h
  | d :: ds, h => match d.target with
    | .collected i => match h.get i with
      | some (.deferred (some [])) => collectF ds (h.set i (.deferred none))
      | _ => none
    | _ => none

def resOneF (a : FA) : ResultVar → Sem Value
  | .tmp t => Pure.pure (a.eval (.tmp t))
  | .cell b t => do Go.loadVar t (← Go.asAddr (a.eval (.tmp b)))

def resultsF (fn : Func) (a : FA) : Sem Value := do
  let vs ← fn.results.toList.foldlM (fun bs x => do let b ← resOneF a x; Pure.pure (bs.push b)) #[]
  Pure.pure (if h : vs.size = 1 then vs[0] else .tuple vs)

def leaveF (P : Program) (fn : Func) (a : FA) (h : FH) : Option (Value × FH) := match collectF a.ds h with
  | some h1 => arunF P (resultsF fn a) h1
  | none => none

structure FactF where
  i : Nat
  o : Oper
  v : Value
  a : FA

def FactF.holds (P : Program) (ops : Array Oper) (f : FactF) (h : FH) : Bool :=
  if Region.wanted f.o (yieldedF ops f.a) = true then match runFI P f.a.eval f.o h (fi P f.o) with | some (.val v _) => sameV v f.v | _ => false
  else true

def evOpF (P : Program) (call : CallerF) (o : Oper) (a : FA) (h : FH) : Option (FA × FH) :=
  match runFI P a.eval o h (fi P o) with
  | some (.val v h1) => some (a.put o.dst v, h1)
  | some (.enter f args h1) => if f < YB then match call f args h1 with
    | some (v, h2) => some (a.put o.dst v, h2)
    | none => none
    else none
  | none => none

def evOpsF (P : Program) (γ : Known) (call : CallerF) (ops : Array Oper) : List Oper → FA → FH → Option (FA × FH)
  | [], a, h => some (a, h)
  | o :: l, a, h =>
    if Region.wanted o (yieldedF ops a) = true then
      match evOpF P call o a h with
      | some (a1, h1) => evOpsF P γ call ops l a1 h1
      | none => match aextF P a.eval o h with
        | some (v, h1) => evOpsF P γ call ops l (a.put o.dst v) h1
        | none => match aglob γ o with
          | some v => evOpsF P γ call ops l (a.put o.dst v) h
          | none => match ayieldF a.eval o with
            | some (li, args) => match call (YB + li) args h with
              | some (v, h1) => evOpsF P γ call ops l (a.put o.dst v) h1
              | none => none
            | none => none
    else evOpsF P γ call ops l (a.put o.dst undef) h

def evPlanF (P : Program) (call : CallerF) (ops : Array Oper) : List (Nat × Bool) → List FactF → FA → FH → Option (FA × FH)
  | [], _, a, h => some (a, h)
  | (i, e) :: L, F, a, h =>
    match ops[i]? with
    | none => none
    | some o =>
      if Region.wanted o (yieldedF ops a) = true then
        if e = true then
          match runFI P a.eval o h (fi P o) with
          | some (.val v h1) =>
            if takes o = true then evPlanF P call ops L (if asks o = true then ⟨i, o, v, a⟩ :: F else F) (a.put o.dst v) h
            else if ((h1.get h.n)).any (belowO h.n) = true ∧ (F.all (FactF.holds P ops · h1)) = true then evPlanF P call ops L F (a.put o.dst v) h1
            else none
          | _ => none
        else
          match evOpF P call o a h with
          | some (a1, h1) =>
            if (F.filter fun f => !waits ops i f.i).all (FactF.holds P ops · h1) = true then evPlanF P call ops L (F.filter fun f => !waits ops i f.i) a1 h1 else none
          | none => none
      else if e = true then evPlanF P call ops L (if takes o = true ∧ asks o = true then ⟨i, o, undef, a⟩ :: F else F) (a.put o.dst undef) h
      else if (F.filter fun f => !waits ops i f.i).all (FactF.holds P ops · h) = true then evPlanF P call ops L (F.filter fun f => !waits ops i f.i) (a.put o.dst undef) h
      else none

def evCodeRF (rg : Bool) (P : Program) (γ : Known) (call : CallerF) : Nat → Code → FA → FH → Option (Exit × FA × FH)
  | 0, _, _, _ => none
  | n + 1, c, a, h =>
    match c with
    | .region _ ops false => match evOpsF P γ call ops ops.toList a h with
      | some (a1, h1) => some (.normal, a1, h1)
      | none => none
    | .region _ ops true => if planFits ops = true then match evPlanF P call ops (thePlan ops) [] a h with
      | some (a1, h1) => some (.normal, a1, h1)
      | none => none
      else none
    | .skip | .label _ => some (.normal, a, h)
    | .exit id => some (.exit id, a, h)
    | .ret => some (.ret, a, h)
    | .seq x y => match evCodeRF rg P γ call n x a h with
      | some (.normal, a1, h1) => evCodeRF rg P γ call n y a1 h1
      | r => r
    | .cond c x y => if okOperand c = true then match a.eval c with
        | .bool t => evCodeRF rg P γ call n (if t = true then x else y) a h
        | _ => none
      else none
    | .block id c => match evCodeRF rg P γ call n c a h with
      | some (.exit id', a1, h1) => if id' = id then some (.normal, a1, h1) else some (.exit id', a1, h1)
      | r => r
    | .loop c => match evCodeRF rg P γ call n c a h with
      | some (.normal, a1, h1) => evCodeRF rg P γ call n (.loop c) a1 h1
      | r => r
    | .rangeFunc g ps assign body => if rg = true ∧ okOperand g = true then match a.eval g with
        | .func (.func f) first cap => match P.funcs[f]? with
          | some fn => if f < YB ∧ fn.body.isSome = true ∧ fn.name ≠ "runtime.NumGoroutine" then
              match call f (first ++ #[.func (.yield (h.n + 1)) #[] #[]] ++ cap) (rangeHeapF h a ps assign body) with
              | some (_, h1) => match h1.get (h.n + 1) with
                | some (.loop r) => if r.state = .busy then none else match r.pending with
                  | none => some (.normal, markF a h.n, h1.set (h.n + 1) (doneLoop r))
                  | some c => evCodeRF rg P γ call n c (markF a h.n) (h1.set (h.n + 1) (doneLoop r))
                | _ => none
              | none => none
            else none
          | none => none
        | _ => none
      else none
    | _ => none

/-- A piece of code that holds no range over a function. -/
abbrev evCodeF (P : Program) (γ : Known) (call : CallerF) : Nat → Code → FA → FH → Option (Exit × FA × FH) := evCodeRF false P γ call

/-- A round. -/
def evRoundF (P : Program) (γ : Known) (call : CallerF) (n : Nat) (l : Nat) (args : Array Value) (h : FH) : Option (Value × FH) :=
  match h.get (l) with
  | some (.loop r) => if args.size = r.params.size then match evCodeF P γ call n r.assign (bindArgsF r.params args r.tmps) h with
    | some (.normal, a1, h1) => match h1.get (l) with
      | some (.loop r1) => if r1.state = .ready then match evCodeF P γ call n r.body a1 (h1.set l (.loop { r1 with state := .busy })) with
        | some (e, _, h2) => match jumpOf e with
          | some j => match h2.get (l) with
            | some (.loop r2) => some (.bool j.isNone, h2.set l (endLoopObj r2 j))
            | _ => none
          | none => none
        | none => none
        else none
      | _ => none
    | _ => none
    else none
  | _ => none

def evCallF (P : Program) (γ : Known) (orc : CallerF) : Nat → CallerF
  | 0, _, _, _ => none
  | n + 1, f, args, h =>
    match orc f args h with
    | some r => some r
    | none =>
      if f < YB then match P.funcs[f]? with
      | none => none
      | some fn => match fn.body with
        | none => none
        | some c => match evCodeRF true P γ (evCallF P γ orc n) 1000 c (startF fn args) h with
          | some (.normal, a, h1) | some (.ret, a, h1) => leaveF P fn a h1
          | _ => none
      else evRoundF P γ (evCallF P γ orc n) 1000 (f - YB) args h


end Go.Abs

/-
The quick runs: what they find is what the plain ones find.
-/
namespace Go.Abs
open Go
variable {P : Program} {Γ : Gl} {ρ : Ren} {α β : Type}

theorem look_cons {β : Type} (d : β) (k : Nat) (v : β) (l : List (Nat × β)) (i : Nat) : look d ((k, v) :: l) i = if k = i then v else look d l i := by
  by_cases h : k = i
  · subst h; simp [look]
  · have : Nat.beq k i = false := by
      cases hb : Nat.beq k i
      · rfl
      · exact absurd (Nat.eq_of_beq_eq_true hb) h
    rw [if_neg h]
    show (match Nat.beq k i with | true => v | false => look d l i) = _
    rw [this]

theorem blt_iff {i n : Nat} : Nat.blt i n = decide (i < n) := by
  unfold Nat.blt
  rw [Bool.eq_iff_iff]
  simp [Nat.lt_iff_add_one_le]

theorem FH.size_toH (h : FH) : h.toH.size = h.n := by simp [FH.toH]

theorem FH.get_toH (h : FH) (i : Nat) : h.toH[i]? = h.get i := by
  unfold FH.get FH.toH
  rw [blt_iff]
  by_cases hi : i < h.n
  · simp [hi]
  · simp [hi]

theorem FH.push_toH (h : FH) (o : Obj) : (h.push o).toH = h.toH.push o := by
  apply Array.ext_getElem?
  intro i
  rw [FH.get_toH, Array.getElem?_push, FH.size_toH, FH.get_toH]
  unfold FH.get FH.push
  simp only [blt_iff]
  by_cases h1 : i = h.n
  · subst h1
    simp [look_cons]
  · by_cases h2 : i < h.n
    · have h3 : i < h.n + 1 := by omega
      simp [h1, h2, h3, look_cons, Ne.symm h1]
    · have h3 : ¬ i < h.n + 1 := by omega
      simp [h1, h2, h3]

theorem FH.set_toH (h : FH) (j : Nat) (o : Obj) : (h.set j o).toH = h.toH.setIfInBounds j o := by
  apply Array.ext_getElem?
  intro i
  rw [FH.get_toH, Array.getElem?_setIfInBounds, FH.size_toH, FH.get_toH]
  unfold FH.get FH.set
  simp only [blt_iff]
  by_cases hj : j < h.n
  · simp only [hj, decide_true]
    by_cases hi : i < h.n
    · simp only [hi, decide_true, look_cons]
      by_cases e : j = i
      · subst e; simp [hj]
      · simp [e]
    · simp only [hi, decide_false]
      by_cases e : j = i
      · subst e; exact absurd hj hi
      · simp [e]
  · simp only [hj, decide_false]
    by_cases e : j = i
    · subst e; simp [hj]
    · simp [e]

theorem cellF_toH (h : FH) (a : Addr) : cell? h.toH a = cellF? h a := by
  unfold cell? cellF?
  rw [FH.get_toH]
  cases h.get a.block with
  | none => rfl
  | some o => cases o <;> simp

theorem freeF_toH (h : FH) (a : Addr) : free h.toH a = freeF h a := by
  unfold free freeF
  rw [FH.get_toH]
  cases h.get a.block with
  | none => rfl
  | some o =>
    cases o with
    | cells c e f =>
      obtain ⟨lo, hi⟩ := f
      have : decide (a.off < c.size) = (c.toList[a.off]?).isSome := by
        rw [Bool.eq_iff_iff]; simp
      simp only [this]
    | _ => rfl

theorem setCellF_toH (h : FH) (a : Addr) (v : Value) : setCell h.toH a v = (setCellF h a v).toH := by
  unfold setCell setCellF
  apply Array.ext_getElem?
  intro i
  rw [Array.getElem?_modify, FH.get_toH]
  cases hg : h.get a.block with
  | none =>
    rw [FH.get_toH]
    by_cases e : a.block = i
    · subst e; rw [hg]; simp
    · simp [e]
  | some o =>
    cases o with
    | cells c el f =>
      rw [FH.set_toH, Array.getElem?_setIfInBounds, FH.get_toH, FH.size_toH]
      have hlt : a.block < h.n := by
        unfold FH.get at hg
        rw [blt_iff] at hg
        by_cases hb : a.block < h.n
        · exact hb
        · simp [hb] at hg
      by_cases e : a.block = i
      · subst e
        rw [hg]
        simp only [if_true, hlt, Option.map_some, Option.some.injEq, Obj.cells.injEq, and_self, and_true]
        apply Array.ext'
        simp
      · simp [e]
    | _ =>
      dsimp only
      rw [FH.get_toH]
      by_cases e : a.block = i
      · subst e; rw [hg]; simp
      · simp [e]

def cv {α : Type} (x : α × FH) : α × H := (x.1, x.2.toH)

theorem arunF_toH {α : Type} (s : Sem α) : ∀ h : FH, arun P s h.toH = (arunF P s h).map cv := by
  induction s with
  | pure a => intro h; rfl
  | load m a k ih =>
    intro h
    simp only [arun, arunF, cellF_toH]
    split
    · cases cellF? h a with
      | none => rfl
      | some v => exact ih v h
    · rfl
  | store m a v k ih =>
    intro h
    simp only [arun, arunF, freeF_toH, setCellF_toH]
    split
    · exact ih _
    · rfl
  | new o k ih =>
    intro h
    simp only [arun, arunF, FH.size_toH, ← FH.push_toH]
    split
    · exact ih _ _
    · cases o with
      | cells c e f =>
        obtain ⟨lo, hi⟩ := f
        cases lo with
        | succ n => rfl
        | zero =>
          cases hi with
          | succ n => rfl
          | zero =>
            have hall : c.all Value.oneCell' = c.toList.all Value.oneCell' := by simp
            show (if c.all Value.oneCell' = true then arun P (k h.n) (h.push (.cells c e)).toH else none) = (if c.toList.all Value.oneCell' = true then arunF P (k h.n) (h.push (.cells c e)) else none).map cv
            rw [hall]
            split
            · exact ih _ _
            · rfl
      | _ => rfl
  | getObj r k ih =>
    intro h
    simp only [arun, arunF, FH.get_toH]
    cases h.get r with
    | none => rfl
    | some o =>
      dsimp only
      split
      · exact ih _ _
      · rfl
  | setObj r o k ih =>
    intro h
    simp only [arun, arunF, FH.get_toH, ← FH.set_toH]
    cases h.get r with
    | none => rfl
    | some o' =>
      dsimp only
      split
      · exact ih _
      · rfl
  | program k ih => intro h; exact ih _ _
  | mark m k ih =>
    intro h
    simp only [arun, arunF]
    split
    · rfl
    · exact ih _
  | _ => intro h; rfl

/-! Frames -/
theorem FA.eval_toA (a : FA) : a.toA.eval = a.eval := by
  funext x
  cases x with
  | tmp t =>
    show a.toA.tmps.getD t undef = _
    unfold FA.eval FA.toA
    simp only [blt_iff, Array.getD_eq_getD_getElem?]
    by_cases h : t < a.n
    · simp [h]
    · simp [h]
  | _ => rfl

theorem FA.get_toA (a : FA) (t : Nat) : a.toA.tmps[t]? = a.get t := by
  unfold FA.get FA.toA
  simp only [blt_iff]
  by_cases h : t < a.n
  · simp [h]
  · simp [h]

theorem FA.put_toA (a : FA) (d : Option Tmp) (v : Value) : (a.put d v).toA = a.toA.put d v := by
  cases d with
  | none => rfl
  | some d =>
    unfold FA.put Act.put
    simp only [blt_iff]
    have key : ∀ x : FA, x.ds = a.ds → (∀ i, x.get i = (a.toA.tmps.setIfInBounds d v)[i]?) → x.toA = { a.toA with tmps := a.toA.tmps.setIfInBounds d v } := by
      intro x h1 h2
      have ht : x.toA.tmps = a.toA.tmps.setIfInBounds d v := by
        apply Array.ext_getElem?
        intro i
        rw [FA.get_toA, h2]
      have hd : x.toA.defers = a.toA.defers := h1
      generalize hx : x.toA = X at ht hd
      cases X
      simp only at ht hd
      rw [ht, hd]
    by_cases hd : d < a.n
    · simp only [hd, decide_true]
      refine key _ rfl fun i => ?_
      rw [Array.getElem?_setIfInBounds, FA.get_toA]
      have hsz : a.toA.tmps.size = a.n := by simp [FA.toA]
      rw [hsz]
      unfold FA.get
      simp only [blt_iff, look_cons]
      by_cases e : d = i
      · subst e; simp [hd]
      · simp [e]
    · simp only [hd, decide_false]
      refine key _ rfl fun i => ?_
      rw [Array.getElem?_setIfInBounds, FA.get_toA]
      have hsz : a.toA.tmps.size = a.n := by simp [FA.toA]
      rw [hsz]
      by_cases e : d = i
      · subst e; simp [hd, FA.get, blt_iff]
      · simp [e]

theorem yieldedF_toA (ops : Array Oper) (a : FA) : yielded ops a.toA.tmps = yieldedF ops a := by
  funext j
  unfold yielded yieldedF
  have : (fun x => a.toA.tmps[x]?) = fun x => a.get x := funext fun t => a.get_toA t
  rw [this]
  generalize ((ops[j]?).bind fun x => x.dst).bind (fun x => a.get x) = z
  cases z with
  | none => rfl
  | some v => cases v <;> rfl

/-! One operation -/
def FStep.cv : FStep → AStep
  | .val v h => .val v h.toH
  | .enter f x h => .enter f x h.toH

theorem cat3_eq (x : Array Value) (y : Array Operand) (ev : Operand → Value) (z : Array Value) : cat3 x (y.toList.map ev) z = x ++ y.map ev ++ z := by
  apply Array.ext'
  simp [cat3]

theorem mapL_eq (y : Array Operand) (ev : Operand → Value) : (⟨y.toList.map ev⟩ : Array Value) = y.map ev := by
  apply Array.ext'
  simp

theorem vals_cv (r : Option (Value × FH)) : vals (r.map Abs.cv) = (valsF r).map FStep.cv := by cases r <;> rfl
theorem units_cv (r : Option (Unit × FH)) : units (r.map Abs.cv) = (unitsF r).map FStep.cv := by cases r <;> rfl

theorem flatStepF_toH (a : Act) (o : Oper) (h : FH) : flatStep P a o h.toH = (flatStepF P a.eval o h).map FStep.cv := by
  unfold flatStep flatStepF
  have : (o.op.operands.all fun x => flat (a.eval x)) = (o.op.operands.toList.all fun x => flat (a.eval x)) := by simp
  rw [this]
  split
  · cases prun P (execOp a.eval o) with
    | none => rfl
    | some x =>
      cases x with
      | value v => dsimp only; split <;> rfl
      | _ => rfl
  · rfl

theorem asrcF_toH (u : TypeId) (i : TypeInfo) (z x : Value) (h : FH) : asrc P u i z x h.toH = asrcF P u i z x h := by
  unfold asrc asrcF
  simp only [arunF_toH, Option.map_map]
  rfl

theorem omap2 {α β γ : Type} (x : Option α) (f : α → β) (g : β → γ) : (x.map f).map g = x.map (g ∘ f) := by cases x <;> rfl

theorem appendToF_toH (e : TypeId) (i : TypeInfo) (s : Value) (m : Nat) (news : Array Value) (h : FH) : appendTo P e i s m news h.toH = (appendToF P e i s m news h).map cv := by
  unfold appendTo appendToF
  simp only [arunF_toH, FH.size_toH, ← FH.push_toH, FH.get_toH, ← FH.set_toH, omap2]
  cases s with
  | slice ad n c =>
    cases ad with
    | none =>
      cases n with
      | succ n => rfl
      | zero =>
        cases c with
        | succ c => rfl
        | zero =>
          show (if m = 0 then some (Value.slice none 0 0, h.toH) else if m * i.bytes ≤ 140737488355328 then some (Value.slice (some ⟨h.n, 0, none⟩) m OPEN, (h.push (.cells news e)).toH) else none) =
            (if m = 0 then some (Value.slice none 0 0, h) else if m * i.bytes ≤ 140737488355328 then some (Value.slice (some ⟨h.n, 0, none⟩) m OPEN, h.push (.cells news e)) else none).map cv
          split
          · rfl
          · split <;> rfl
    | some a =>
      dsimp only
      split
      · generalize h.get a.block = g
        cases g with
        | none => rfl
        | some o =>
          cases o with
          | cells cs e' f =>
            obtain ⟨lo, hi⟩ := f
            cases lo with
            | succ n => rfl
            | zero =>
              cases hi with
              | succ n => rfl
              | zero =>
                show (if e' = e then
                    if a.off + (n + m) * i.size ≤ cs.size then (arunF P (Go.storeCells (a.add (n * i.size)) news.toList) h).map ((fun r => (Value.slice (some a) (n + m) OPEN, r.2)) ∘ cv)
                    else if a.off + n * i.size = cs.size ∧ (n + m) * i.bytes ≤ 140737488355328 then some (Value.slice (some ⟨h.n, 0, none⟩) (n + m) OPEN, ((h.set a.block tomb).push (.cells (cs.extract a.off cs.size ++ news) e)).toH) else none
                  else none) = (if e' = e then
                    if a.off + (n + m) * i.size ≤ cs.size then (arunF P (Go.storeCells (a.add (n * i.size)) news.toList) h).map (fun r => (Value.slice (some a) (n + m) OPEN, r.2))
                    else if a.off + n * i.size = cs.size ∧ (n + m) * i.bytes ≤ 140737488355328 then some (Value.slice (some ⟨h.n, 0, none⟩) (n + m) OPEN, (h.set a.block tomb).push (.cells (cs.extract a.off cs.size ++ news) e)) else none
                  else none).map cv
                split
                · split
                  · rw [omap2]; rfl
                  · split <;> rfl
                · rfl
          | _ => rfl
      · split
        · rw [omap2]; rfl
        · split
          · rw [omap2]; simp only [Function.comp_def, cv, FH.push_toH]
          · rfl
  | _ => rfl

theorem aappendF_toH (ts : Array TypeId) (args : Array Value) (h : FH) : aappend P ts args h.toH = (aappendF P ts args h).map cv := by
  unfold aappend aappendF
  generalize ts.toList = l1
  generalize args.toList = l2
  match l1, l2 with
  | [], _ => rfl
  | [_], _ => rfl
  | _ :: _ :: _ :: _, _ => rfl
  | [_, _], [] => rfl
  | [_, _], [_] => rfl
  | [_, _], _ :: _ :: _ :: _ => rfl
  | [t, u], [s, x] =>
    dsimp only
    cases P.underlying t with
    | none => rfl
    | some d =>
      cases d with
      | slice e =>
        dsimp only
        cases eok P e with
        | none => rfl
        | some iz =>
          obtain ⟨i, z⟩ := iz
          dsimp only
          rw [asrcF_toH]
          cases asrcF P u i z x h with
          | none => rfl
          | some mn => exact appendToF_toH _ _ _ _ _ _
      | _ => rfl

theorem asliceF_toH (t : TypeId) (a : Addr) (n : Nat) (lo hi mx : Option Value) (h : FH) : aslice P t a n lo hi mx h.toH = asliceF P t a n lo hi mx h := by
  unfold aslice asliceF
  simp only [arunF_toH, FH.get_toH]
  cases P.underlying t with
  | none => rfl
  | some d =>
    cases d with
    | slice e =>
      dsimp only
      cases P.info? e with
      | none => rfl
      | some i =>
        dsimp only
        cases h.get a.block with
        | none => rfl
        | some o =>
          cases o with
          | cells cs e' f =>
            obtain ⟨lo', hi'⟩ := f
            cases lo' with
            | succ n => rfl
            | zero =>
              cases hi' with
              | succ n => rfl
              | zero =>
                show (if e' = e ∧ 0 < i.size ∧ n ≤ (cs.size - a.off) / i.size then
                    match (arunF P (Instr.sliceBounds true n ((cs.size - a.off) / i.size) lo hi mx) h).map cv with
                    | some ((l, u, m), _) => if mx.isNone then some (Value.slice (some (a.add (l * i.size))) (u - l) OPEN) else if m < OPEN then some (Value.slice (some (if m = l then a else a.add (l * i.size))) (u - l) (m - l)) else none
                    | none => none
                  else none) = (if e' = e ∧ 0 < i.size ∧ n ≤ (cs.size - a.off) / i.size then
                    match arunF P (Instr.sliceBounds true n ((cs.size - a.off) / i.size) lo hi mx) h with
                    | some ((l, u, m), _) => if mx.isNone then some (Value.slice (some (a.add (l * i.size))) (u - l) OPEN) else if m < OPEN then some (Value.slice (some (if m = l then a else a.add (l * i.size))) (u - l) (m - l)) else none
                    | none => none
                  else none)
                split
                · cases arunF P (Instr.sliceBounds true n ((cs.size - a.off) / i.size) lo hi mx) h with
                  | none => rfl
                  | some x => rfl
                · rfl
          | _ => rfl
    | _ => rfl

theorem acallF_toH (a : Act) (o : Oper) (c : Call) (h : FH) : acall P a o c h.toH = (acallF P a.eval o c h).map FStep.cv := by
  unfold acall acallF
  simp only [arunF_toH, aappendF_toH, vals_cv, cat3_eq, mapL_eq]
  have hargs : (c.args.map a.eval).toList = c.args.toList.map a.eval := by simp
  simp only [hargs]
  cases c.callee with
  | builtin b =>
    cases b with
    | append => rfl
    | len =>
      dsimp only
      generalize c.argTypes.toList = l1
      generalize c.args.toList.map a.eval = l2
      match l1, l2 with
      | [], _ => rfl
      | _ :: _ :: _, _ => rfl
      | [_], [] => rfl
      | [_], _ :: _ :: _ => rfl
      | [t], [x] => dsimp only; split <;> rfl
    | copy =>
      dsimp only
      generalize c.argTypes.toList = l1
      generalize c.args.toList.map a.eval = l2
      match l1, l2 with
      | [], _ => rfl
      | [_], _ => rfl
      | _ :: _ :: _ :: _, _ => rfl
      | [_, _], [] => rfl
      | [_, _], [_] => rfl
      | [_, _], _ :: _ :: _ :: _ => rfl
      | [t, u], [x, y] => rfl
    | clear =>
      dsimp only
      generalize c.argTypes.toList = l1
      generalize c.args.toList.map a.eval = l2
      match l1, l2 with
      | [], _ => rfl
      | _ :: _ :: _, _ => rfl
      | [_], [] => rfl
      | [_], _ :: _ :: _ => rfl
      | [t], [x] => dsimp only; split <;> rfl
    | delete =>
      dsimp only
      generalize c.argTypes.toList = l1
      generalize c.args.toList.map a.eval = l2
      match l1, l2 with
      | [], _ => rfl
      | [_], _ => rfl
      | _ :: _ :: _ :: _, _ => rfl
      | [_, _], [] => rfl
      | [_, _], [_] => rfl
      | [_, _], _ :: _ :: _ :: _ => rfl
      | [t, u], [x, y] => dsimp only; split <;> rfl
    | _ => rfl
  | value f =>
    dsimp only
    cases a.eval f with
    | func g first cap =>
      cases g with
      | func g =>
        dsimp only
        cases P.funcs[g]? with
        | none => rfl
        | some fn =>
          dsimp only
          split
          · split <;> rfl
          · split
            · cases prun P (callFunc g (first ++ c.args.map a.eval ++ cap)) with
              | none => rfl
              | some x =>
                cases x with
                | value v => dsimp only; split <;> rfl
                | _ => rfl
            · rfl
      | _ => rfl
    | _ => rfl
  | _ => rfl

theorem aopF_toH (a : Act) (o : Oper) (h : FH) : aop P a o h.toH = (aopF P a.eval o h).map FStep.cv := by
  unfold aop aopF
  split
  · simp only [arunF_toH, flatStepF_toH, acallF_toH, asliceF_toH, vals_cv, units_cv]
    generalize o.op = op
    cases op with
    | pick c x y => dsimp only; cases a.eval c <;> rfl
    | alloc => dsimp only; split <;> rfl
    | build => dsimp only; split <;> rfl
    | buildSlice => dsimp only; split <;> rfl
    | nilCheck x =>
      dsimp only
      cases a.eval x with
      | pointer p => cases p <;> rfl
      | _ => rfl
    | binOp => dsimp only; split <;> rfl
    | makeFunc fn first cap => cases fn <;> rfl
    | makeMap t r => cases r <;> rfl
    | makeSlice => dsimp only; split <;> rfl
    | slice t x lo hi mx =>
      dsimp only
      split
      · cases a.eval x with
        | slice ad n c =>
          cases ad with
          | none => rfl
          | some ad =>
            dsimp only
            split
            · rw [omap2]; rfl
            · rfl
        | _ => rfl
      · rfl
    | lookup => dsimp only; split <;> rfl
    | mapUpdate => dsimp only; split <;> rfl
    | insert => dsimp only; split <;> rfl
    | mapEntry => dsimp only; split <;> rfl
    | call c =>
      dsimp only
      cases acallF P a.eval o c h <;> rfl
    | _ => rfl
  · rfl

theorem aextF_toH (a : Act) (o : Oper) (h : FH) : aext P a o h.toH = (aextF P a.eval o h).map cv := by
  unfold aext aextF
  generalize o.op = op
  cases op with
  | convert src dst x =>
    dsimp only
    split
    · simp only [arunF_toH, FH.size_toH, ← FH.push_toH]
      cases P.underlying src with
      | none => rfl
      | some d1 =>
        cases P.underlying dst with
        | none => cases d1 <;> rfl
        | some d2 =>
          cases a.eval x with
          | string s =>
            cases d1 <;> cases d2 <;> first
              | rfl
              | (rename_i el
                 dsimp only
                 cases eok P el with
                 | none => rfl
                 | some iz => obtain ⟨i, z⟩ := iz; dsimp only; split <;> rfl)
          | slice ad n c =>
            cases d1 <;> cases d2 <;> first
              | rfl
              | (cases ad with
                 | none => cases n <;> cases c <;> first
                   | rfl
                   | (rename_i el; show (if isU8 P el = true then some (Value.string .empty, h.toH) else none) = (if isU8 P el = true then some (Value.string .empty, h) else none).map cv; split <;> rfl)
                 | some ad =>
                   dsimp only
                   split
                   · rename_i e1 _
                     cases arunF P (Go.loadCells ad n) h with
                     | none => rfl
                     | some cs =>
                       obtain ⟨cs, h1⟩ := cs
                       dsimp only [Option.map_some, cv]
                       split
                       · cases prun P (bytesLoop cs) with
                         | none => rfl
                         | some v => dsimp only; split <;> rfl
                       · rfl
                   · rfl)
          | _ => cases d1 <;> cases d2 <;> rfl
    · rfl
  | _ => rfl

end Go.Abs

/-
The quick runs: the common operations.
-/
namespace Go.Abs
open Go
variable {P : Program} {Γ : Gl} {ρ : Ren} {α β : Type}

theorem aop_int {a : Act} {o : Oper} {h : H} {op : BinOp} {t ty : TypeId} {x y : Operand} {k : IntKind} {u v : Int} (hop : o.op = .binOp op t x y ty) (hok : (o.op.operands.all okOperand) = true) (hb : binOk op = true)
    (ex : a.eval x = .int k u) (ey : a.eval y = .int k v) : aop P a o h = some (.val (binI op k u v) h) := by
  have hexec : execOp a.eval o = (do Pure.pure (.value (← (do eqGuard op t x y (a.eval x) (a.eval y); binOp op t (a.eval x) (a.eval y))))) := by
    unfold execOp; rw [hop]
  unfold aop
  rw [if_pos hok, hop]
  dsimp only
  rw [ex, ey, if_neg (by simp [nilish])]
  unfold flatStep
  rw [hop]
  have hall2 : ((Op.binOp op t x y ty).operands.all fun x => flat (a.eval x)) = true := by
    simp [Op.operands, ex, ey, flat, flat1]
  rw [if_pos hall2, hexec, ex, ey]
  have : prun P (do Pure.pure (.value (← (do eqGuard op t x y (.int k u) (.int k v); binOp op t (.int k u) (.int k v)))) : Sem Next) = some (.value (binI op k u v)) := by
    cases op <;> first
      | (cases hb; done)
      | (simp only [binOp, ne_eq, not_true_eq_false, if_false, Op.intArith, Op.intCmp, binI]; rfl)
  rw [this]
  have hf : flat (binI op k u v) = true := by cases op <;> rfl
  simp [hf]

theorem ad_add (ad : Addr) (n : Nat) : ad.add n = ad.add n := rfl

theorem fi_sound {a : Act} {o : Oper} {h : FH} {r : FStep} (hr : runFI P a.eval o h (fi P o) = some r) : aop P a o h.toH = some r.cv := by
  have slow : ∀ {r : FStep}, aopF P a.eval o h = some r → aop P a o h.toH = some r.cv := fun hr => by rw [aopF_toH, hr]; rfl
  unfold fi at hr
  split at hr
  case isFalse => exact slow hr
  rename_i hok
  split at hr
  · -- move
    rename_i x hop
    cases hr
    unfold aop
    rw [if_pos hok, hop]; rfl
  · rename_i x hop
    cases hr
    unfold aop
    rw [if_pos hok, hop]; rfl
  · -- binOp
    rename_i op t x y ty hop
    split at hr
    case isFalse => exact slow hr
    rename_i hb
    unfold runFI at hr
    dsimp only at hr
    split at hr
    · rename_i k u ex
      split at hr
      · rename_i k' v ey
        split at hr
        · rename_i hk
          subst hk
          cases hr
          exact aop_int hop hok hb ex ey
        · cases hr
      · cases hr
    · exact slow hr
  · -- pick
    rename_i c x y hop
    unfold runFI at hr
    dsimp only at hr
    split at hr
    · rename_i ec
      cases hr
      unfold aop
      rw [if_pos hok, hop]
      dsimp only
      rw [ec]; rfl
    · rename_i ec
      cases hr
      unfold aop
      rw [if_pos hok, hop]
      dsimp only
      rw [ec]; rfl
    · cases hr
  · -- load
    rename_i t x hop
    split at hr
    case h_2 => exact slow hr
    rename_i d hd
    split at hr
    case isFalse => exact slow hr
    rename_i hpl
    unfold runFI at hr
    dsimp only at hr
    split at hr
    case h_2 => cases hr
    rename_i ad ex
    split at hr
    case h_2 => cases hr
    rename_i v hc
    cases hr
    have hx : okOperand x = true := by
      rw [hop] at hok
      simpa [Op.operands] using hok
    exact aop_load hop hx ex hd hpl ((cellF_toH h ad).trans hc)
  · -- indexAddr
    rename_i t x i hop
    split at hr
    case h_2 => exact slow hr
    rename_i e ht
    split at hr
    case h_2 => exact slow hr
    rename_i inf hinf
    unfold runFI at hr
    dsimp only at hr
    split at hr
    case h_2 => cases hr
    rename_i ad n c ex
    split at hr
    case h_2 => cases hr
    rename_i k m ei
    rw [blt_iff] at hr
    split at hr
    case h_2 => cases hr
    rename_i hlt
    cases hr
    have hx : okOperand x = true ∧ okOperand i = true := by
      rw [hop] at hok
      simpa [Op.operands] using hok
    have := aop_indexAddr (P := P) (h := h.toH) hop hx.1 hx.2 ex ei ht hinf (Int.natCast_nonneg m) (Int.ofNat_lt.2 (of_decide_eq_true hlt))
    rw [this]
    rfl
  · -- call
    rename_i c hop
    split at hr
    · -- len
      rename_i hcal
      split at hr
      case h_2 => exact slow hr
      rename_i t x ht hx
      split at hr
      case h_2 => exact slow hr
      rename_i e hu
      unfold runFI at hr
      dsimp only at hr
      split at hr
      case h_2 => cases hr
      rename_i ad n cp ex
      cases hr
      unfold aop
      rw [if_pos hok, hop]
      dsimp only
      unfold acall
      rw [hcal]
      have hm : (c.args.map a.eval).toList = [a.eval x] := by simp [hx]
      rw [ht, hm]
      dsimp only
      have hlen : lenable P t = true := by unfold lenable; rw [hu]
      rw [if_pos hlen, ex]
      have : arun P (Builtin.len_ #[t] o.type #[.slice ad n cp]) h.toH = some (.int .i64 n, h.toH) := by
        unfold Builtin.len_
        simp [hu]
        rfl
      rw [this]
      rfl
    · -- value
      rename_i f hcal
      unfold runFI at hr
      dsimp only at hr
      split at hr
      case h_2 => cases hr
      rename_i g first cap ef
      split at hr
      · rename_i r' hcf
        cases hr
        unfold callF at hcf
        split at hcf
        case h_2 => cases hcf
        rename_i fn hfn
        split at hcf
        case isFalse => cases hcf
        rename_i hbody
        split at hcf
        case isFalse => cases hcf
        rename_i hname
        cases hcf
        unfold aop
        rw [if_pos hok, hop]
        dsimp only
        unfold acall
        rw [hcal]
        dsimp only
        rw [ef]
        dsimp only
        rw [hfn]
        dsimp only
        rw [if_pos hbody, if_pos hname, cat3_eq]
        rfl
      · exact slow hr
    · exact slow hr
  · exact slow hr

end Go.Abs

/-
The quick runs: code and calls.
-/
namespace Go.Abs
open Go
variable {P : Program} {Γ : Gl} {ρ : Ren} {α β : Type}

theorem FA.ext_toA {x : FA} {A : Act} (h1 : x.ds = A.defers) (h2 : ∀ i, x.get i = A.tmps[i]?) : x.toA = A := by
  have ht : x.toA.tmps = A.tmps := by
    apply Array.ext_getElem?
    intro i
    rw [FA.get_toA, h2]
  have hd : x.toA.defers = A.defers := h1
  generalize x.toA = X at ht hd
  cases X; cases A
  simp only at ht hd
  rw [ht, hd]

theorem look_numbered (l : List Value) : ∀ (k i : Nat), look undef (numbered k l) i = if k ≤ i then (l[i - k]?).getD undef else undef := by
  induction l with
  | nil => intro k i; simp [numbered, look]
  | cons v l ih =>
    intro k i
    rw [numbered, look_cons, ih]
    by_cases h : k = i
    · subst h; simp
    · rw [if_neg h]
      by_cases h2 : k ≤ i
      · have h3 : k + 1 ≤ i := by omega
        rw [if_pos h2, if_pos h3]
        have : i - k = (i - (k + 1)) + 1 := by omega
        rw [this, List.getElem?_cons_succ]
      · rw [if_neg h2, if_neg (by omega)]

theorem startF_toA (fn : Func) (args : Array Value) : (startF fn args).toA = start fn args := by
  refine FA.ext_toA rfl fun i => ?_
  show (startF fn args).get i = (args ++ Array.replicate (fn.ntmps - args.size) undef)[i]?
  unfold FA.get startF
  simp only [blt_iff, look_numbered, Nat.zero_le, if_true, Nat.sub_zero]
  rw [Array.getElem?_append, Array.getElem?_replicate]
  by_cases h1 : i < args.size
  · have h2 : i < args.size + (fn.ntmps - args.size) := by omega
    simp [h1, h2]
  · by_cases h2 : i < args.size + (fn.ntmps - args.size)
    · have h3 : i - args.size < fn.ntmps - args.size := by omega
      simp [h1, h2, h3]
    · have h3 : ¬ i - args.size < fn.ntmps - args.size := by omega
      simp [h1, h2, h3]

theorem numbered_toA (x : Array Value) : (FA.mk x.size (numbered 0 x.toList) []).toA = { tmps := x, defers := [] } := by
  refine FA.ext_toA rfl fun i => ?_
  unfold FA.get
  simp only [blt_iff, look_numbered, Nat.zero_le, if_true, Nat.sub_zero]
  by_cases h1 : i < x.size
  · simp [h1]
  · simp [h1]

theorem bindArgsF_toA (params : Array Tmp) (args tmps : Array Value) : (bindArgsF params args tmps).toA = { tmps := bindArgs params args tmps, defers := [] } := by
  unfold bindArgsF bindArgs
  rw [← Array.foldl_toList, Array.toList_zip]
  have key : ∀ (l : List (Nat × Value)) (a : FA) (t : Array Value), a.toA = { tmps := t, defers := [] } →
      (l.foldl (fun a (x : Nat × Value) => a.put (some x.1) x.2) a).toA = { tmps := l.foldl (fun t (x : Nat × Value) => t.setIfInBounds x.1 x.2) t, defers := [] } := by
    intro l
    induction l with
    | nil => intro a t h; exact h
    | cons x l ih =>
      intro a t h
      refine ih _ _ ?_
      rw [FA.put_toA, h]
      rfl
  exact key _ _ _ (numbered_toA tmps)

theorem tmpsF_eq (a : FA) : tmpsF a = a.toA.tmps := by
  apply Array.ext_getElem?
  intro i
  rw [FA.get_toA]
  unfold tmpsF FA.get
  simp only [blt_iff]
  by_cases h : i < a.n
  · simp [h]
  · simp [h]

theorem markF_toA (a : FA) (n : Nat) : (markF a n).toA = mark a.toA n := rfl

theorem rangeHeapF_toH (h : FH) (a : FA) (ps : Array Tmp) (assign body : Code) : (rangeHeapF h a ps assign body).toH = rangeHeap h.toH a.toA ps assign body := by
  unfold rangeHeapF rangeHeap
  rw [FH.push_toH, FH.push_toH]
  unfold loopObjF loopObj
  rw [tmpsF_eq, FH.size_toH]

theorem collectF_toH : ∀ (ds : List Deferred) (h : FH), collect ds h.toH = (collectF ds h).map FH.toH := by
  intro ds
  induction ds with
  | nil => intro h; rfl
  | cons d ds ih =>
    intro h
    unfold collect collectF
    rw [show d.target = d.target from rfl]
    cases d.target with
    | collected i =>
      dsimp only
      rw [FH.get_toH]
      cases h.get i with
      | none => rfl
      | some o =>
        cases o with
        | deferred x =>
          cases x with
          | none => rfl
          | some l =>
            cases l with
            | nil =>
              dsimp only
              rw [← FH.set_toH]
              exact ih _
            | cons _ _ => rfl
        | _ => rfl
    | _ => rfl

theorem resOneF_eq (a : FA) (r : ResultVar) : resOneF a r = resOne a.toA.tmps r := by
  have h : ∀ t, a.eval (.tmp t) = a.toA.tmps.getD t undef := fun t => by rw [← FA.eval_toA]; rfl
  cases r with
  | tmp t => simp only [resOneF, resOne, h]
  | cell b t => simp only [resOneF, resOne, h]

theorem resultsF_eq (fn : Func) (a : FA) : resultsF fn a = Go.results fn a.toA.tmps := by
  rw [results_eq]
  unfold resultsF
  simp only [resOneF_eq]

theorem leaveF_toH (fn : Func) (a : FA) (h : FH) : leave P fn a.toA h.toH = (leaveF P fn a h).map cv := by
  unfold leave leaveF
  rw [show a.toA.defers = a.ds from rfl, collectF_toH]
  cases collectF a.ds h with
  | none => rfl
  | some h1 =>
    dsimp only [Option.map_some]
    rw [← resultsF_eq, arunF_toH]

theorem ayieldF_eq (a : Act) (o : Oper) : ayield a o = ayieldF a.eval o := by
  unfold ayield ayieldF
  simp only [mapL_eq]
  cases o.op with
  | call c =>
    dsimp only
    split
    · cases c.callee with
      | value f =>
        dsimp only
        cases a.eval f with
        | func g x y => cases g <;> rfl
        | _ => rfl
      | _ => rfl
    · rfl
  | _ => rfl

def FactF.toF (f : FactF) : Fact := ⟨f.i, f.o, f.v, f.a.toA⟩

theorem runFI_sound {a : FA} {o : Oper} {h : FH} {r : FStep} (hr : runFI P a.eval o h (fi P o) = some r) : aop P a.toA o h.toH = some r.cv :=
  fi_sound (a := a.toA) (by rw [FA.eval_toA]; exact hr)

theorem FactF.holds_toF {ops : Array Oper} {f : FactF} {h : FH} (hf : f.holds P ops h = true) : f.toF.holds P ops h.toH = true := by
  unfold FactF.holds at hf
  unfold Fact.holds
  rw [show f.toF.a.tmps = f.a.toA.tmps from rfl, yieldedF_toA]
  show (if Region.wanted f.o (yieldedF ops f.a) = true then _ else true) = true
  split
  · rename_i hw
    rw [if_pos hw] at hf
    split at hf
    · rename_i v h1 hv
      have := runFI_sound hv
      show (match aop P f.a.toA f.o h.toH with | some (.val v _) => sameV v f.v | _ => false) = true
      rw [this]
      exact hf
    · cases hf
  · rfl

def CallableF (P : Program) (Γ : Gl) (call : CallerF) : Prop := ∀ f args h v h1, call f args h = some (v, h1) →
  (f < YB → ACall P Γ f args h.toH fun u k => u = v ∧ k = h1.toH) ∧ (YB ≤ f → ARound P Γ (f - YB) args h.toH fun u k => u = v ∧ k = h1.toH)

theorem CallableF.of {call : CallerF} (hc : ∀ f args h v h1, call f args h = some (v, h1) → f < YB ∧ ACall P Γ f args h.toH fun u k => u = v ∧ k = h1.toH) : CallableF P Γ call := fun f args h v h1 he =>
  ⟨fun _ => (hc f args h v h1 he).2, fun hlt => absurd (hc f args h v h1 he).1 (Nat.not_lt.2 hlt)⟩

theorem CallableF.none : CallableF P Γ fun _ _ _ => Option.none := fun _ _ _ _ _ h => by cases h

theorem evOpF_sound {call : CallerF} (hc : CallableF P Γ call) {ops : Array Oper} {i : Nat} {o : Oper} {a a1 : FA} {h h1 : FH} {K : Act → H → Prop} (hi : ops[i]? = some o) (hw : Region.wanted o (yieldedF ops a) = true)
    (he : evOpF P call o a h = some (a1, h1)) (hk : K a1.toA h1.toH) : AOp P Γ ops i K a.toA h.toH := by
  rw [← yieldedF_toA] at hw
  unfold evOpF at he
  unfold AOp
  simp only [hi, hw, if_true]
  split at he
  · rename_i v h2 hv
    cases he
    refine .inl ⟨v, h1.toH, runFI_sound hv, ?_⟩
    rw [← FA.put_toA]; exact hk
  · rename_i f args h2 hv
    split at he
    · rename_i hlt
      split at he
      · rename_i v h3 hcall
        cases he
        refine .inr ⟨f, args, h2.toH, _, runFI_sound hv, (hc _ _ _ _ _ hcall).1 hlt, fun u k ⟨e1, e2⟩ => ?_⟩
        subst e1; subst e2
        rw [← FA.put_toA]; exact hk
      · cases he
    · cases he
  · cases he

theorem evOpsF_sound {γ : Known} (hγ : KnownOk P Γ γ) {call : CallerF} (hc : CallableF P Γ call) {ops : Array Oper} : ∀ (l : List Oper) (n : Nat) (a a1 : FA) (h h1 : FH), ops.toList.drop n = l → evOpsF P γ call ops l a h = some (a1, h1) →
    ∀ {K : Act → H → Prop}, K a1.toA h1.toH → AOps P Γ ops (List.range' n l.length) a.toA h.toH K := by
  intro l
  induction l with
  | nil => intro n a a1 h h1 _ he K hk; cases he; exact AOps.nil hk
  | cons o l ih =>
    intro n a a1 h h1 hd he K hk
    have hi : ops[n]? = some o := by
      rw [← Array.getElem?_toList]
      have := congrArg (fun x => x[0]?) hd
      simpa using this
    have hd2 : ops.toList.drop (n + 1) = l := by
      have := congrArg List.tail hd
      simpa using this
    unfold evOpsF at he
    rw [List.length_cons, List.range'_succ]
    split at he
    · rename_i hw
      have hw' := hw
      rw [← yieldedF_toA] at hw'
      split at he
      · rename_i a2 h2 hop
        exact AOp.ops hi (evOpF_sound hc hi hw hop (ih (n + 1) _ _ _ _ hd2 he hk))
      · split at he
        · rename_i v h2 hx
          refine AOps.ext hi hw' (by rw [aextF_toH, FA.eval_toA, hx]; rfl) ?_
          rw [← FA.put_toA]
          exact ih (n + 1) _ _ _ _ hd2 he hk
        · split at he
          · rename_i v hx
            refine AOps.known hγ hi hw' hx ?_
            rw [← FA.put_toA]
            exact ih (n + 1) _ _ _ _ hd2 he hk
          · split at he
            · rename_i li args hy
              split at he
              · rename_i v h2 hcall
                refine AOps.round hi hw' (by rw [ayieldF_eq, FA.eval_toA]; exact hy) (by have := (hc _ _ _ _ _ hcall).2 (Nat.le_add_right _ _); rw [Nat.add_sub_cancel_left] at this; exact this) ?_
                rintro u k ⟨rfl, rfl⟩
                rw [← FA.put_toA]
                exact ih (n + 1) _ _ _ _ hd2 he hk
              · cases he
            · cases he
    · rename_i hw
      rw [← yieldedF_toA] at hw
      refine AOps.skip hi (by simpa using hw) ?_
      rw [← FA.put_toA]
      exact ih (n + 1) _ _ _ _ hd2 he hk

def FactF.prop (P : Program) (ops : Array Oper) (f : FactF) : Nat × (H → Prop) := f.toF.prop P ops

theorem keeps_factsF {ops : Array Oper} {i : Nat} {F : List FactF} : keeps ops i (F.map (FactF.prop P ops)) = (F.filter fun f => !waits ops i f.i).map (FactF.prop P ops) := by
  unfold keeps
  rw [List.filter_map]
  rfl

theorem evPlanF_sound {call : CallerF} (hc : CallableF P Γ call) {ops : Array Oper} : ∀ (L : List (Nat × Bool)) (F : List FactF) (a a1 : FA) (h h1 : FH), (∀ f ∈ F, (Region.wanted f.o (yielded ops f.a.toA.tmps) = true ∨ f.v = undef) ∧ takes f.o = true) →
    evPlanF P call ops L F a h = some (a1, h1) → DPlan P Γ ops (fun a2 h2 => a2 = a1.toA ∧ h2 = h1.toH) L (F.map (FactF.prop P ops)) a.toA h.toH := by
  intro L
  induction L with
  | nil => intro F a a1 h h1 _ he; cases he; exact ⟨rfl, rfl⟩
  | cons x L ih =>
    obtain ⟨i, e⟩ := x
    intro F a a1 h h1 hF he
    unfold evPlanF at he
    unfold DPlan
    cases hi : ops[i]? with
    | none => rw [hi] at he; cases he
    | some o =>
      simp only [hi] at he ⊢
      have facts : ∀ (G : List FactF) (k : FH), (∀ f ∈ G, f ∈ F) → G.all (FactF.holds P ops · k) = true → ∀ x ∈ G.map (FactF.prop P ops), x.2 k.toH := by
        intro G k hG hall x hx
        obtain ⟨f, hf, rfl⟩ := List.mem_map.1 hx
        exact Fact.finds (hF f (hG f hf)).1 (hF f (hG f hf)).2 (FactF.holds_toF (List.all_eq_true.1 hall f hf))
      by_cases hw : Region.wanted o (yieldedF ops a) = true
      · have hw' := hw
        rw [← yieldedF_toA] at hw'
        rw [if_pos hw] at he
        cases e with
        | true =>
          simp only [if_true] at he ⊢
          split at he
          · rename_i v h2 hv
            have hv' := runFI_sound hv
            by_cases ht : takes o = true
            · rw [if_pos ht] at he ⊢
              refine ⟨v, .inl ⟨hw', aop_takes ht hv'⟩, ?_⟩
              rw [← FA.put_toA]
              have := ih _ _ _ _ _ ?_ he
              · by_cases hk : asks o = true
                · simp only [hk, if_true] at this ⊢; exact this
                · rw [if_neg hk] at this ⊢; exact this
              · intro f hf
                split at hf
                · rcases List.mem_cons.1 hf with rfl | hf
                  · exact ⟨.inl hw', ht⟩
                  · exact hF f hf
                · exact hF f hf
            · rw [if_neg ht] at he ⊢
              rw [if_pos hw']
              split at he
              · rename_i hb
                refine ⟨v, h2.toH, hv', ?_, facts F h2 (fun _ h => h) hb.2, ?_⟩
                · rw [FH.size_toH, FH.get_toH]; exact hb.1
                · rw [← FA.put_toA]; exact ih _ _ _ _ _ hF he
              · cases he
          · cases he
        | false =>
          simp only [Bool.false_eq_true, if_false] at he ⊢
          split at he
          · rename_i a2 h2 hop
            split at he
            · rename_i hall
              refine evOpF_sound hc hi hw hop ?_
              rw [keeps_factsF]
              exact ⟨facts _ h2 (fun f hf => (List.mem_filter.1 hf).1) hall, ih _ _ _ _ _ (fun f hf => hF f (List.mem_filter.1 hf).1) he⟩
            · cases he
          · cases he
      · have hw' := hw
        rw [← yieldedF_toA] at hw'
        rw [if_neg hw] at he
        cases e with
        | true =>
          simp only [if_true] at he ⊢
          by_cases ht : takes o = true
          · rw [if_pos ht]
            refine ⟨undef, .inr ⟨by simpa using hw', rfl⟩, ?_⟩
            rw [← FA.put_toA]
            have := ih _ _ _ _ _ ?_ he
            · by_cases hk : asks o = true
              · simp only [hk, ht, and_self, if_true] at this ⊢; exact this
              · rw [if_neg (fun h => hk h.2)] at this; rw [if_neg hk]; exact this
            · intro f hf
              split at hf
              · rcases List.mem_cons.1 hf with rfl | hf
                · exact ⟨.inr rfl, ht⟩
                · exact hF f hf
              · exact hF f hf
          · rw [if_neg (fun h => ht h.1)] at he
            rw [if_neg ht, if_neg hw', ← FA.put_toA]
            exact ih _ _ _ _ _ hF he
        | false =>
          simp only [Bool.false_eq_true, if_false] at he ⊢
          split at he
          · rename_i hall
            unfold AOp
            simp only [hi]
            rw [if_neg hw', keeps_factsF, ← FA.put_toA]
            exact ⟨facts _ h (fun f hf => (List.mem_filter.1 hf).1) hall, ih _ _ _ _ _ (fun f hf => hF f (List.mem_filter.1 hf).1) he⟩
          · cases he

theorem evCodeRF_sound {rg : Bool} (hrg : rg = true → Γ.rnd = false) {γ : Known} (hγ : KnownOk P Γ γ) {call : CallerF} (hm : P.follows .mixedOrders = true) (hc : CallableF P Γ call) : ∀ (n : Nat) (c : Code) (a a1 : FA) (h h1 : FH) (e : Exit), evCodeRF rg P γ call n c a h = some (e, a1, h1) →
    ACode P Γ c a.toA h.toH fun e2 a2 h2 => e2 = e ∧ a2 = a1.toA ∧ h2 = h1.toH := by
  intro n
  induction n with
  | zero => intro c a a1 h h1 e he; cases he
  | succ n ih =>
    intro c a a1 h h1 e he
    unfold evCodeRF at he
    split at he
    · rename_i ops
      split at he
      · rename_i a2 h2 ho
        cases he
        refine ACode.region ?_
        have := evOpsF_sound hγ hc ops.toList 0 a a1 h h1 (by simp) ho (K := fun a2 h2 => Exit.normal = .normal ∧ a2 = a1.toA ∧ h2 = h1.toH) ⟨rfl, rfl, rfl⟩
        rw [List.range_eq_range']
        simpa using this
      · cases he
    · rename_i id ops
      split at he
      · rename_i hfit
        split at he
        · rename_i a2 h2 ho
          cases he
          unfold planFits at hfit
          simp only [Bool.and_eq_true, beq_iff_eq] at hfit
          refine ACode.plan hm (thePlan ops) hfit.1.1 hfit.1.2 hfit.2 ?_
          exact DPlan.mono (fun a h hh => ⟨rfl, hh⟩) _ _ _ _ (evPlanF_sound hc _ [] a a1 h h1 (fun f hf => by cases hf) ho)
        · cases he
      · cases he
    · cases he; exact ACode.skip ⟨rfl, rfl, rfl⟩
    · cases he; exact ACode.label ⟨rfl, rfl, rfl⟩
    · cases he; exact ACode.exit ⟨rfl, rfl, rfl⟩
    · cases he; exact ACode.ret ⟨rfl, rfl, rfl⟩
    · rename_i x y
      split at he
      · rename_i a2 h2 hx
        refine ACode.seq ((ih x _ _ _ _ _ hx).mono ?_)
        rintro e2 a3 h3 ⟨rfl, rfl, rfl⟩
        exact ih y _ _ _ _ _ he
      · rename_i hne
        refine ACode.seq ((ih x _ _ _ _ _ he).mono ?_)
        rintro e2 a3 h3 ⟨rfl, rfl, rfl⟩
        cases e2 with
        | normal => exact absurd he (hne _ _)
        | _ => exact ⟨rfl, rfl, rfl⟩
    · rename_i cnd x y
      split at he
      · rename_i hok
        split at he
        · rename_i t hct
          exact ACode.cond hok (by rw [FA.eval_toA]; exact hct) (ih _ _ _ _ _ _ he)
        · cases he
      · cases he
    · rename_i id c
      split at he
      · rename_i id' a2 h2 hx
        refine ACode.block ((ih c _ _ _ _ _ hx).mono ?_)
        rintro e2 a3 h3 ⟨rfl, rfl, rfl⟩
        simp only [inBlock]
        split at he
        · rename_i hid; cases he; rw [if_pos hid]; exact ⟨rfl, rfl, rfl⟩
        · rename_i hid; cases he; rw [if_neg hid]; exact ⟨rfl, rfl, rfl⟩
      · rename_i hne
        refine ACode.block ((ih c _ _ _ _ _ he).mono ?_)
        rintro e2 a3 h3 ⟨rfl, rfl, rfl⟩
        cases e2 with
        | exit id' => exact absurd he (hne _ _ _)
        | _ => exact ⟨rfl, rfl, rfl⟩
    · rename_i c
      split at he
      · rename_i a2 h2 hx
        refine ACode.loop ((ih c _ _ _ _ _ hx).mono ?_)
        rintro e2 a3 h3 ⟨rfl, rfl, rfl⟩
        exact ih _ _ _ _ _ _ he
      · rename_i hne
        refine ACode.loop ((ih c _ _ _ _ _ he).mono ?_)
        rintro e2 a3 h3 ⟨rfl, rfl, rfl⟩
        cases e2 with
        | normal => exact absurd he (hne _ _)
        | _ => exact ⟨rfl, rfl, rfl⟩
    · rename_i g ps assign body
      split at he
      · rename_i hcond
        split at he
        · rename_i f first cap heval
          split at he
          · rename_i fn hf
            split at he
            · rename_i hfn
              split at he
              · rename_i v0 h2 hcall
                split at he
                · rename_i r hr
                  split at he
                  · cases he
                  · rename_i hbusy
                    have hcl := (hc _ _ _ _ _ hcall).1 hfn.1
                    rw [rangeHeapF_toH] at hcl
                    have hsz := FH.size_toH h
                    refine ACode.rangeFunc (hrg hcond.1) hcond.2 (by rw [FA.eval_toA]; exact heval) hf hfn.2.1 hfn.2.2 (by rw [hsz]; exact hcl) ?_
                    rintro v h3 ⟨rfl, rfl⟩
                    rw [hsz]
                    refine ⟨r, by rw [FH.get_toH]; exact hr, hbusy, ?_⟩
                    split at he
                    · rename_i hp
                      cases he
                      rw [hp]
                      exact ⟨rfl, rfl, by rw [FH.set_toH]⟩
                    · rename_i c hp
                      rw [hp]
                      have := ih c _ _ _ _ _ he
                      rw [FH.set_toH] at this
                      exact this
                · cases he
              · cases he
            · cases he
          · cases he
        · cases he
      · cases he
    · cases he

theorem evRoundF_sound {γ : Known} (hγ : KnownOk P Γ γ) {call : CallerF} (hm : P.follows .mixedOrders = true) (hc : CallableF P Γ call) {n l : Nat} {args : Array Value} {h h1 : FH} {v : Value} (he : evRoundF P γ call n l args h = some (v, h1)) :
    ARound P Γ l args h.toH fun u k => u = v ∧ k = h1.toH := by
  unfold evRoundF at he
  split at he
  case h_2 => cases he
  rename_i r hr
  split at he
  case isFalse => cases he
  rename_i hn
  split at he
  case h_2 => cases he
  rename_i a1 h2 hassign
  split at he
  case h_2 => cases he
  rename_i r1 hr1
  split at he
  case isFalse => cases he
  rename_i hready
  split at he
  case h_2 => cases he
  rename_i e a2 h3 hbody
  split at he
  case h_2 => cases he
  rename_i j hj
  split at he
  case h_2 => cases he
  rename_i r2 hr2
  cases he
  refine ARound.body ((FH.get_toH _ _).trans hr) hn ?_
  rw [← bindArgsF_toA]
  refine (evCodeRF_sound (Γ := Γ.round _) (fun h => by cases h) hγ hm hc _ _ _ _ _ _ _ hassign).mono ?_
  rintro e3 a3 h4 ⟨rfl, rfl, rfl⟩
  refine ⟨r1, (FH.get_toH _ _).trans hr1, hready, ?_⟩
  rw [← FH.set_toH]
  refine (evCodeRF_sound (Γ := Γ.round _) (fun h => by cases h) hγ hm hc _ _ _ _ _ _ _ hbody).mono ?_
  rintro e3 a3 h4 ⟨rfl, rfl, rfl⟩
  exact ⟨j, hj, r2, (FH.get_toH _ _).trans hr2, rfl, (FH.set_toH _ _ _).symm⟩

theorem evCallF_sound {γ : Known} (hγ : KnownOk P Γ γ) {orc : CallerF} (hm : P.follows .mixedOrders = true) (ho : CallableF P Γ orc) : ∀ n, CallableF P Γ (evCallF P γ orc n) := by
  intro n
  induction n with
  | zero => intro f args h v h1 he; cases he
  | succ n ih =>
    intro f args h v h1 he
    unfold evCallF at he
    split at he
    · rename_i r hr
      cases he
      exact ho _ _ _ _ _ hr
    · split at he
      · rename_i hlt
        split at he
        · cases he
        · rename_i fn hf
          split at he
          · cases he
          · rename_i c hb
            refine ⟨fun _ => ACall.body hf hb ?_, fun hle => absurd hlt (Nat.not_lt.2 hle)⟩
            rw [← startF_toA]
            have fin : ∀ (a2 : FA) (h2 : FH), leaveF P fn a2 h2 = some (v, h1) → ∃ u k, leave P fn a2.toA h2.toH = some (u, k) ∧ u = v ∧ k = h1.toH := fun a2 h2 hl =>
              ⟨v, h1.toH, by rw [leaveF_toH, hl]; rfl, rfl, rfl⟩
            split at he
            · rename_i a2 h2 hx
              refine (evCodeRF_sound (Γ := Γ.at _) (fun _ => rfl) hγ hm ih _ _ _ _ _ _ _ hx).mono ?_
              rintro e2 a3 h3 ⟨rfl, rfl, rfl⟩
              exact fin _ _ he
            · rename_i a2 h2 hx
              refine (evCodeRF_sound (Γ := Γ.at _) (fun _ => rfl) hγ hm ih _ _ _ _ _ _ _ hx).mono ?_
              rintro e2 a3 h3 ⟨rfl, rfl, rfl⟩
              exact fin _ _ he
            · cases he
      · rename_i hlt
        exact ⟨fun h => absurd h hlt, fun _ => evRoundF_sound hγ hm ih he⟩

/-- A call in a heap that is written out; what it hands back is read off by counting. -/
theorem ACall.quick {γ : Known} (hγ : KnownOk P Γ γ) {orc : CallerF} (hm : P.follows .mixedOrders = true) (ho : CallableF P Γ orc) {n : Nat} {f : FuncId} {args : Array Value} {h : FH} {v : Value}
    (hr : (match evCallF P γ orc n f args h with | some (u, _) => sameV u v | none => false) = true) (hy : f < YB := by decide) : ACall P Γ f args h.toH fun u _ => u = v := by
  split at hr
  · rename_i u h1 he
    exact ((evCallF_sound hγ hm ho n _ _ _ _ _ he).1 hy).mono fun x k ⟨e1, _⟩ => by subst e1; exact sameV_eq _ _ hr
  · cases hr

theorem toH_empty : FH.toH ⟨0, []⟩ = #[] := rfl

/-- A closed call, in whatever heap. -/
theorem ACall.quickClosed {γ : Known} (hγ : KnownOk P Γ γ) {orc : CallerF} (hm : P.follows .mixedOrders = true) (ho : CallableF P Γ orc) {n : Nat} {f : FuncId} {args : Array Value} {v : Value} (hf : args.all flat = true)
    (hr : (match evCallF P γ orc n f args ⟨0, []⟩ with | some (u, _) => sameV u v && flat u | none => false) = true) (h : H) (hy : f < YB := by decide) : ACall P Γ f args h fun u h1 => u = v ∧ h1 = h := by
  split at hr
  · rename_i u h1 he
    rw [Bool.and_eq_true] at hr
    refine ACall.closed hf ?_ h
    have := (evCallF_sound hγ hm ho n _ _ _ _ _ he).1 hy
    rw [toH_empty] at this
    exact this.mono fun x k ⟨e1, _⟩ => by subst e1; exact ⟨sameV_eq _ _ hr.1, hr.2⟩
  · cases hr

/-- A piece of code that hands back a value; which one is left to counting. -/
theorem ACode.quickRet {γ : Known} (hγ : KnownOk P Γ γ) {call : CallerF} (hm : P.follows .mixedOrders = true) (hc : CallableF P Γ call) (hr : Γ.rnd = false) (n : Nat) {c : Code} {a : FA} {h : FH} {fn : Func} {Q : Value → H → Prop} (v : Value)
    (hs : (match evCodeRF true P γ call n c a h with | some (.normal, a1, h1) | some (.ret, a1, h1) => (match leaveF P fn a1 h1 with | some (u, _) => sameV u v | none => false) | _ => false) = true)
    (hq : ∀ h1, Q v h1) : ACode P Γ c a.toA h.toH (RetPost P fn Q) := by
  have fin : ∀ (a2 : FA) (h2 : FH), (match leaveF P fn a2 h2 with | some (u, _) => sameV u v | none => false) = true → ∃ u k, leave P fn a2.toA h2.toH = some (u, k) ∧ Q u k := fun a2 h2 hl => by
    split at hl
    · rename_i u k hk
      exact ⟨u, k.toH, by rw [leaveF_toH, hk]; rfl, by rw [sameV_eq _ _ hl]; exact hq _⟩
    · cases hl
  split at hs
  · rename_i a1 h1 he
    refine (evCodeRF_sound (fun _ => hr) hγ hm hc n c a a1 h h1 _ he).mono ?_
    rintro e2 a2 h2 ⟨rfl, rfl, rfl⟩
    exact fin _ _ hs
  · rename_i a1 h1 he
    refine (evCodeRF_sound (fun _ => hr) hγ hm hc n c a a1 h h1 _ he).mono ?_
    rintro e2 a2 h2 ⟨rfl, rfl, rfl⟩
    exact fin _ _ hs
  · cases hs

theorem ACode.castF {c c2 : Code} {a : Act} {h : H} {Q : Exit → Act → H → Prop} (fa : FA) (fh : FH) (hc : c = c2) (ha : a = fa.toA) (hh : h = fh.toH) (hx : ACode P Γ c2 fa.toA fh.toH Q) : ACode P Γ c a h Q := by
  rw [hc, ha, hh]; exact hx

/-- What follows the first n pieces of a row of pieces. -/
def tailOf : Nat → Code → Code
  | 0, c => c
  | n + 1, .seq _ y => tailOf n y
  | _ + 1, c => c

def bodyOf (fn : Func) : Code := fn.body.getD .skip

end Go.Abs

/-
The frame rule: a call in a small heap is a call in each heap that holds the small one.
-/
namespace Go.Abs
open Go
variable {P : Program} {Γ : Gl} {ρ : Ren} {α β : Type}

/-! Renaming of blocks, as deep as cells go -/
def ren0 (σ : Nat → Nat) : Value → Value
  | .pointer (some a) => .pointer (some ⟨σ a.block, a.off, a.spot⟩)
  | .slice (some a) n c => .slice (some ⟨σ a.block, a.off, a.spot⟩) n c
  | .map (some r) => .map (some (σ r))
  | v => v

def plain0 : Value → Bool
  | .agg _ | .tuple _ | .iface _ _ | .func _ _ _ => false
  | _ => true

def ren1 (σ : Nat → Nat) : Value → Value
  | .iface t v => .iface t (ren0 σ v)
  | .func f x y => .func f ⟨x.toList.map (ren0 σ)⟩ ⟨y.toList.map (ren0 σ)⟩
  | v => ren0 σ v

def plain1 : Value → Bool
  | .agg _ | .tuple _ => false
  | .iface _ v => plain0 v
  | .func f x y => (match f with | .yield _ => false | _ => true) && x.toList.all plain0 && y.toList.all plain0
  | _ => true

def renV (σ : Nat → Nat) : Value → Value
  | .agg xs => .agg ⟨xs.toList.map (ren1 σ)⟩
  | .tuple xs => .tuple ⟨xs.toList.map (ren1 σ)⟩
  | v => ren1 σ v

def plainV : Value → Bool
  | .agg xs | .tuple xs => xs.toList.all plain1
  | v => plain1 v

def under0 (m : Nat) : Value → Bool
  | .pointer (some a) => decide (a.block < m)
  | .slice (some a) _ _ => decide (a.block < m)
  | .map (some r) => decide (r < m)
  | _ => true

def under1 (m : Nat) : Value → Bool
  | .iface _ v => under0 m v
  | .func _ x y => x.toList.all (under0 m) && y.toList.all (under0 m)
  | v => under0 m v

def underV (m : Nat) : Value → Bool
  | .agg xs | .tuple xs => xs.toList.all (under1 m)
  | v => under1 m v

/-- The renaming of blocks goes along. -/
def Along (σ : Nat → Nat) (ρc ρ : Ren) : Prop := ∀ i t, ρc i = some t → ρ (σ i) = some t

theorem ARel.along {σ : Nat → Nat} {ρc : Ren} (hσ : Along σ ρc ρ) {a a' : Addr} (h : ARel ρc a a') : ARel ρ ⟨σ a.block, a.off, a.spot⟩ a' := by
  obtain ⟨hs, h | ⟨B, hB, e⟩⟩ := h
  · exact ⟨hs, .inl (hσ _ _ h)⟩
  · exact ⟨hs, .inr ⟨B, hσ _ _ hB, e⟩⟩

theorem ORel.along {σ : Nat → Nat} {ρc : Ren} (hσ : Along σ ρc ρ) {a a' : Addr} {n c : Nat} (h : ORel P ρc a a' n c) : ORel P ρ ⟨σ a.block, a.off, a.spot⟩ a' n c := by
  obtain ⟨hs, h | ⟨B, hB, e⟩⟩ := h
  · exact ⟨hs, .inl (hσ _ _ h)⟩
  · exact ⟨hs, .inr ⟨B, hσ _ _ hB, e⟩⟩

theorem VRel.along0 {σ : Nat → Nat} {ρc : Ren} (hσ : Along σ ρc ρ) {v v' : Value} (hp : plain0 v = true) (h : VRel P ρc v v') : VRel P ρ (ren0 σ v) v' := by
  cases h with
  | bool b => exact .bool b
  | int k n => exact .int k n
  | float k b => exact .float k b
  | complex k a b => exact .complex k a b
  | string s => exact .string s
  | nilp => exact .nilp
  | ptr h => exact .ptr (h.along hσ)
  | nils => exact .nils
  | slc hc hn h => exact .slc hc hn (h.imp (·.along hσ) id)
  | opn h => exact .opn (h.along hσ)
  | nilm => exact .nilm
  | map h =>
    refine .map ?_
    rcases h with h | ⟨B, hB, e⟩
    · exact .inl (hσ _ _ h)
    · exact .inr ⟨B, hσ _ _ hB, e⟩
  | nilc => exact .nilc
  | nilFunc => exact .nilFunc
  | nilIface => exact .nilIface
  | _ => cases hp

theorem rows_along {f : Value → Value} {x x' : Array Value} (hs : x.size = x'.size) (h : ∀ (i : Nat) (u u' : Value), x[i]? = some u → x'[i]? = some u' → VRel P ρ (f u) u') :
    (⟨x.toList.map f⟩ : Array Value).size = x'.size ∧ ∀ (i : Nat) (u u' : Value), (⟨x.toList.map f⟩ : Array Value)[i]? = some u → x'[i]? = some u' → VRel P ρ u u' := by
  refine ⟨by simpa using hs, fun i u u' hu hu' => ?_⟩
  have : (⟨x.toList.map f⟩ : Array Value)[i]? = (x[i]?).map f := by simp
  rw [this] at hu
  cases hx : x[i]? with
  | none => rw [hx] at hu; cases hu
  | some w => rw [hx] at hu; cases hu; exact h i w u' hx hu'

theorem all_at {f : Value → Bool} {x : Array Value} (h : x.toList.all f = true) {i : Nat} {u : Value} (hu : x[i]? = some u) : f u = true := by
  rw [← Array.getElem?_toList] at hu
  exact List.all_eq_true.1 h u (List.mem_of_getElem? hu)

theorem VRel.along1 {σ : Nat → Nat} {ρc : Ren} (hσ : Along σ ρc ρ) {v v' : Value} (hp : plain1 v = true) (h : VRel P ρc v v') : VRel P ρ (ren1 σ v) v' := by
  cases h with
  | iface h => exact .iface (h.along0 hσ hp)
  | func hf hx h1 hy h2 =>
    simp only [plain1, Bool.and_eq_true] at hp
    have r1 := rows_along (ρ := ρ) (f := ren0 σ) hx fun i u u' hu hu' => (h1 i u u' hu hu').along0 hσ (all_at hp.1.2 hu)
    have r2 := rows_along (ρ := ρ) (f := ren0 σ) hy fun i u u' hu hu' => (h2 i u u' hu hu').along0 hσ (all_at hp.2 hu)
    exact .func hf r1.1 r1.2 r2.1 r2.2
  | yld h => simp [plain1] at hp
  | agg _ _ => cases hp
  | tuple _ _ => cases hp
  | bool b => exact .bool b
  | int k n => exact .int k n
  | float k b => exact .float k b
  | complex k a b => exact .complex k a b
  | string s => exact .string s
  | nilp => exact .nilp
  | ptr h => exact .ptr (h.along hσ)
  | nils => exact .nils
  | slc hc hn h => exact .slc hc hn (h.imp (·.along hσ) id)
  | opn h => exact .opn (h.along hσ)
  | nilm => exact .nilm
  | map h => exact (VRel.map h).along0 hσ rfl
  | nilc => exact .nilc
  | nilFunc => exact .nilFunc
  | nilIface => exact .nilIface

theorem VRel.alongV {σ : Nat → Nat} {ρc : Ren} (hσ : Along σ ρc ρ) {v v' : Value} (hp : plainV v = true) (h : VRel P ρc v v') : VRel P ρ (renV σ v) v' := by
  cases h with
  | agg hx h1 =>
    have r1 := rows_along (ρ := ρ) (f := ren1 σ) hx fun i u u' hu hu' => (h1 i u u' hu hu').along1 hσ (all_at hp hu)
    exact .agg r1.1 r1.2
  | tuple hx h1 =>
    have r1 := rows_along (ρ := ρ) (f := ren1 σ) hx fun i u u' hu hu' => (h1 i u u' hu hu').along1 hσ (all_at hp hu)
    exact .tuple r1.1 r1.2
  | bool b => exact .bool b
  | int k n => exact .int k n
  | float k b => exact .float k b
  | complex k a b => exact .complex k a b
  | string s => exact .string s
  | nilp => exact .nilp
  | ptr h => exact .ptr (h.along hσ)
  | nils => exact .nils
  | slc hc hn h => exact .slc hc hn (h.imp (·.along hσ) id)
  | opn h => exact .opn (h.along hσ)
  | nilm => exact .nilm
  | map h => exact (VRel.map h).along0 hσ rfl
  | nilc => exact .nilc
  | nilFunc => exact .nilFunc
  | nilIface => exact .nilIface
  | @iface t v _ h => exact VRel.along1 (v := .iface t v) hσ hp (.iface h)
  | @func fn x _ y _ hf hx h1 hy h2 => exact VRel.along1 (v := .func fn x y) hσ hp (.func hf hx h1 hy h2)
  | yld h => simp [plainV, plain1] at hp

/-! Back: what the small heap knows -/
def rest (σ : Nat → Nat) (m : Nat) (ρ : Ren) : Ren := fun i => if i < m then ρ (σ i) else none

theorem rest_some {σ : Nat → Nat} {m i : Nat} {t : Option Blk} (h : rest σ m ρ i = some t) : i < m ∧ ρ (σ i) = some t := by
  unfold rest at h
  split at h
  · rename_i hi; exact ⟨hi, h⟩
  · cases h

theorem ARel.back {σ : Nat → Nat} {m : Nat} {a a' : Addr} (hb : a.block < m) (h : ARel ρ ⟨σ a.block, a.off, a.spot⟩ a') : ARel (rest σ m ρ) a a' := by
  obtain ⟨hs, h⟩ := h
  refine ⟨hs, ?_⟩
  unfold rest
  rw [if_pos hb]
  exact h

theorem ORel.back {σ : Nat → Nat} {m : Nat} {a a' : Addr} {n c : Nat} (hb : a.block < m) (h : ORel P ρ ⟨σ a.block, a.off, a.spot⟩ a' n c) : ORel P (rest σ m ρ) a a' n c := by
  obtain ⟨hs, h⟩ := h
  refine ⟨hs, ?_⟩
  unfold rest
  rw [if_pos hb]
  exact h

theorem VRel.back0 {σ : Nat → Nat} {m : Nat} {v v' : Value} (hp : plain0 v = true) (hu : under0 m v = true) (h : VRel P ρ (ren0 σ v) v') : VRel P (rest σ m ρ) v v' := by
  cases v with
  | pointer a =>
    cases a with
    | none => cases h; exact .nilp
    | some a => cases h with | ptr h => exact .ptr (h.back (of_decide_eq_true hu))
  | slice a n c =>
    cases a with
    | none => cases h; exact .nils
    | some a =>
      cases h with
      | slc hc hn h => exact .slc hc hn (h.imp (·.back (of_decide_eq_true hu)) id)
      | opn h => exact .opn (h.back (of_decide_eq_true hu))
  | map r =>
    cases r with
    | none => cases h; exact .nilm
    | some r =>
      cases h with
      | map h =>
        refine .map ?_
        unfold rest
        rw [if_pos (of_decide_eq_true hu)]
        exact h
  | bool b => cases h; exact .bool _
  | int k n => cases h; exact .int _ _
  | float k b => cases h; exact .float _ _
  | complex k a b => cases h; exact .complex _ _ _
  | string s => cases h; exact .string _
  | chan c => cases h; exact .nilc
  | nilFunc => cases h; exact .nilFunc
  | nilIface => cases h; exact .nilIface
  | _ => cases hp

theorem rows_back {ρc : Ren} {f : Value → Value} {x x' : Array Value} (hs : (⟨x.toList.map f⟩ : Array Value).size = x'.size) (h : ∀ (i : Nat) (u u' : Value), x[i]? = some u → (⟨x.toList.map f⟩ : Array Value)[i]? = some (f u) → x'[i]? = some u' → VRel P ρc u u') :
    x.size = x'.size ∧ ∀ (i : Nat) (u u' : Value), x[i]? = some u → x'[i]? = some u' → VRel P ρc u u' := by
  refine ⟨by simpa using hs, fun i u u' hu hu' => h i u u' hu ?_ hu'⟩
  simp [hu]

theorem VRel.back1 {σ : Nat → Nat} {m : Nat} {v v' : Value} (hp : plain1 v = true) (hu : under1 m v = true) (h : VRel P ρ (ren1 σ v) v') : VRel P (rest σ m ρ) v v' := by
  cases v with
  | iface t v => cases h with | iface h => exact .iface (h.back0 hp hu)
  | func f x y =>
    simp only [plain1, Bool.and_eq_true] at hp
    simp only [under1, Bool.and_eq_true] at hu
    have key : ∀ {x' y' : Array Value}, (⟨x.toList.map (ren0 σ)⟩ : Array Value).size = x'.size → (∀ (i : Nat) (u u' : Value), (⟨x.toList.map (ren0 σ)⟩ : Array Value)[i]? = some u → x'[i]? = some u' → VRel P ρ u u') →
        (⟨y.toList.map (ren0 σ)⟩ : Array Value).size = y'.size → (∀ (i : Nat) (u u' : Value), (⟨y.toList.map (ren0 σ)⟩ : Array Value)[i]? = some u → y'[i]? = some u' → VRel P ρ u u') → (∀ l, f ≠ .yield l) → VRel P (rest σ m ρ) (.func f x y) (.func f x' y') := fun hx h1 hy h2 hf => by
      have r1 := rows_back (ρc := rest σ m ρ) hx fun i u u' hu1 hu2 hu' => (h1 i _ u' hu2 hu').back0 (all_at hp.1.2 hu1) (all_at hu.1 hu1)
      have r2 := rows_back (ρc := rest σ m ρ) hy fun i u u' hu1 hu2 hu' => (h2 i _ u' hu2 hu').back0 (all_at hp.2 hu1) (all_at hu.2 hu1)
      exact .func hf r1.1 r1.2 r2.1 r2.2
    have hny : ∀ l, f ≠ .yield l := fun l e => by subst e; simp at hp
    generalize hz : ren1 σ (.func f x y) = z at h
    unfold ren1 at hz
    cases h <;> first | (cases hz; done) | skip
    · rename_i hf hx h1 hy h2
      cases hz
      exact key hx h1 hy h2 hf
    · injection hz with e1 e2 e3
      exact absurd e1 (hny _)
  | agg x => cases hp
  | tuple x => cases hp
  | _ => exact VRel.back0 rfl hu h

theorem VRel.backV {σ : Nat → Nat} {m : Nat} {v v' : Value} (hp : plainV v = true) (hu : underV m v = true) (h : VRel P ρ (renV σ v) v') : VRel P (rest σ m ρ) v v' := by
  cases v with
  | agg x =>
    cases h with
    | agg hx h1 =>
      have r1 := rows_back (ρc := rest σ m ρ) hx fun i u u' hu1 hu2 hu' => (h1 i _ u' hu2 hu').back1 (all_at hp hu1) (all_at hu hu1)
      exact .agg r1.1 r1.2
  | tuple x =>
    cases h with
    | tuple hx h1 =>
      have r1 := rows_back (ρc := rest σ m ρ) hx fun i u u' hu1 hu2 hu' => (h1 i _ u' hu2 hu').back1 (all_at hp hu1) (all_at hu hu1)
      exact .tuple r1.1 r1.2
  | _ => exact VRel.back1 hp hu h

end Go.Abs
