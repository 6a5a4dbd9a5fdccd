/-
The abstract heap: a run by counting.
-/
import Derived.Test.YtgeoihombkjgnaaGreatDoorBwAbsR
import Derived.Test.YtgeoihombkjgnaaGreatDoorBwAbsY
namespace Go.Abs
open Go
variable {P : Program} {Γ : Gl} {ρ : Ren} {α β : Type}

theorem aop_takes {a : Act} {o : Oper} {h h1 : H} {v : Value} (ht : takes o = true) (hr : aop P a o h = some (.val v h1)) : aop P a o h = some (.val v h) := by
  suffices h1 = h by rw [this] at hr; exact hr
  by_cases hk : asks o = true
  case neg =>
    have := aop_still ht (by simpa using hk) hr h
    rw [hr] at this
    cases this; rfl
  have key : ∀ {s : Sem Value} {v : Value}, mild P s → vals (arun P s h) = some (.val v h1) → h1 = h := by
    intro s v hs hr
    unfold vals at hr
    simp only [Option.map_eq_some_iff] at hr
    obtain ⟨⟨u, h2⟩, hr2, e⟩ := hr
    cases e
    exact mild_run s hs h _ _ hr2
  have keyf : ∀ {v : Value}, flatStep P a o h = some (.val v h1) → h1 = h := by
    intro v hr
    have := flatStep_still hr h
    rw [hr] at this
    cases this; rfl
  unfold aop at hr
  split at hr
  · unfold takes at ht
    unfold asks at hk
    generalize o.op = op at *
    cases op <;> first | (simp at ht; done) | (simp at hk; done) | skip
    case build t ps =>
      dsimp only at hr
      split at hr
      · exact key (quiet_mild _ (quiet_build _ _)) hr
      · cases hr
    case load => exact key (mild_loadAt _ _) hr
    case slice t x lo hi mx =>
      dsimp only at hr
      split at hr
      · split at hr
        · split at hr
          · simp only [Option.map_eq_some_iff] at hr
            obtain ⟨u, _, e⟩ := hr
            cases e; rfl
          · exact key (quiet_mild _ (quiet_slice _ _ _ _ _)) hr
        · exact key (quiet_mild _ (quiet_slice _ _ _ _ _)) hr
      · cases hr
    case lookup t x k ok =>
      dsimp only at hr
      split at hr
      · exact key (mild_lookup _ _ _ _) hr
      · cases hr
    case call c =>
      dsimp only at hr ht
      split at hr
      · rename_i r hac
        cases hr
        unfold acall at hac
        split at ht <;> first | (cases ht; done) | skip
        all_goals rename_i hcal
        all_goals rw [hcal] at hac
        · dsimp only at hac
          split at hac
          · split at hac
            · exact key (mild_len _ _ _) hac
            · cases hac
          · cases hac
        · cases hac
        · cases hac
      · exact keyf hr
  · cases hr

structure Fact where
  i : Nat
  o : Oper
  v : Value
  a : Act

def Fact.holds (P : Program) (ops : Array Oper) (f : Fact) (h : H) : Bool :=
  if Region.wanted f.o (yielded ops f.a.tmps) = true then match aop P f.a f.o h with | some (.val v _) => sameV v f.v | _ => false
  else true

/-- Who is called: a function by its number; a round of loop l by YB + l. -/
abbrev Caller := FuncId → Array Value → H → Option (Value × H)

def YB : Nat := 1000000000

def evOp (P : Program) (call : Caller) (o : Oper) (a : Act) (h : H) : Option (Act × H) :=
  match aop P a o h with
  | some (.val v h1) => some (a.put o.dst v, h1)
  | some (.enter f args h1) => if f < YB then match call f args h1 with
    | some (v, h2) => some (a.put o.dst v, h2)
    | none => none
    else none
  | none => none

def evOps (P : Program) (γ : Known) (call : Caller) (ops : Array Oper) : List Oper → Act → H → Option (Act × H)
  | [], a, h => some (a, h)
  | o :: l, a, h =>
    if Region.wanted o (yielded ops a.tmps) = true then
      match evOp P call o a h with
      | some (a1, h1) => evOps P γ call ops l a1 h1
      | none => match aext P a o h with
        | some (v, h1) => evOps P γ call ops l (a.put o.dst v) h1
        | none => match aglob γ o with
          | some v => evOps P γ call ops l (a.put o.dst v) h
          | none => match ayield a o with
            | some (li, args) => match call (YB + li) args h with
              | some (v, h1) => evOps P γ call ops l (a.put o.dst v) h1
              | none => none
            | none => none
    else evOps P γ call ops l (a.put o.dst undef) h

def evPlan (P : Program) (call : Caller) (ops : Array Oper) : List (Nat × Bool) → List Fact → Act → H → Option (Act × H)
  | [], _, a, h => some (a, h)
  | (i, e) :: L, F, a, h =>
    match ops[i]? with
    | none => none
    | some o =>
      if Region.wanted o (yielded ops a.tmps) = true then
        if e = true then
          match aop P a o h with
          | some (.val v h1) =>
            if takes o = true then evPlan P call ops L (if asks o = true then ⟨i, o, v, a⟩ :: F else F) (a.put o.dst v) h
            else if (h1[h.size]?).any (belowO h.size) = true ∧ (F.all (Fact.holds P ops · h1)) = true then evPlan P call ops L F (a.put o.dst v) h1
            else none
          | _ => none
        else
          match evOp P call o a h with
          | some (a1, h1) =>
            if (F.filter fun f => !waits ops i f.i).all (Fact.holds P ops · h1) = true then evPlan P call ops L (F.filter fun f => !waits ops i f.i) a1 h1 else none
          | none => none
      else if e = true then evPlan P call ops L (if takes o = true ∧ asks o = true then ⟨i, o, undef, a⟩ :: F else F) (a.put o.dst undef) h
      else if (F.filter fun f => !waits ops i f.i).all (Fact.holds P ops · h) = true then evPlan P call ops L (F.filter fun f => !waits ops i f.i) (a.put o.dst undef) h
      else none

/-- A plan, found by looking. -/
def planFor (ops : Array Oper) : Nat → List Nat → Array Bool → List (Nat × Bool)
  | 0, _, _ => []
  | n + 1, mp, listed =>
    let r := Region.ready .any ops listed
    match r.find? fun i => match ops[i]? with | some o => early o && mp.all (calm ops i) && own ops o | none => false with
    | some i => (i, true) :: planFor ops n (i :: mp) (listed.setIfInBounds i true)
    | none => match r with
      | [i] => (i, false) :: planFor ops n (mp.filter fun p => !waits ops i p) (listed.setIfInBounds i true)
      | _ => []

def thePlan (ops : Array Oper) : List (Nat × Bool) := planFor ops ops.size [] (Array.replicate ops.size false)

def planFits (ops : Array Oper) : Bool := ((thePlan ops).length == ops.size) && forward ops && planned ops (thePlan ops) [] (Array.replicate ops.size false)

def evCodeR (rg : Bool) (P : Program) (γ : Known) (call : Caller) : Nat → Code → Act → H → Option (Exit × Act × H)
  | 0, _, _, _ => none
  | n + 1, c, a, h =>
    match c with
    | .region _ ops false => match evOps P γ call ops ops.toList a h with
      | some (a1, h1) => some (.normal, a1, h1)
      | none => none
    | .region _ ops true => if planFits ops = true then match evPlan P call ops (thePlan ops) [] a h with
      | some (a1, h1) => some (.normal, a1, h1)
      | none => none
      else none
    | .skip | .label _ => some (.normal, a, h)
    | .exit id => some (.exit id, a, h)
    | .ret => some (.ret, a, h)
    | .seq x y => match evCodeR rg P γ call n x a h with
      | some (.normal, a1, h1) => evCodeR rg P γ call n y a1 h1
      | r => r
    | .cond c x y => if okOperand c = true then match a.eval c with
        | .bool t => evCodeR rg P γ call n (if t = true then x else y) a h
        | _ => none
      else none
    | .block id c => match evCodeR rg P γ call n c a h with
      | some (.exit id', a1, h1) => if id' = id then some (.normal, a1, h1) else some (.exit id', a1, h1)
      | r => r
    | .loop c => match evCodeR rg P γ call n c a h with
      | some (.normal, a1, h1) => evCodeR rg P γ call n (.loop c) a1 h1
      | r => r
    | .rangeFunc g ps assign body => if rg = true ∧ okOperand g = true then match a.eval g with
        | .func (.func f) first cap => match P.funcs[f]? with
          | some fn => if f < YB ∧ fn.body.isSome = true ∧ fn.name ≠ "runtime.NumGoroutine" then
              match call f (first ++ #[.func (.yield (h.size + 1)) #[] #[]] ++ cap) (rangeHeap h a ps assign body) with
              | some (_, h1) => match h1[h.size + 1]? with
                | some (.loop r) => if r.state = .busy then none else match r.pending with
                  | none => some (.normal, mark a h.size, h1.setIfInBounds (h.size + 1) (doneLoop r))
                  | some c => evCodeR rg P γ call n c (mark a h.size) (h1.setIfInBounds (h.size + 1) (doneLoop r))
                | _ => none
              | none => none
            else none
          | none => none
        | _ => none
      else none
    | _ => none

/-- A piece of code that holds no range over a function. -/
abbrev evCode (P : Program) (γ : Known) (call : Caller) : Nat → Code → Act → H → Option (Exit × Act × H) := evCodeR false P γ call

/-- A round. -/
def evRound (P : Program) (γ : Known) (call : Caller) (n : Nat) (l : Nat) (args : Array Value) (h : H) : Option (Value × H) :=
  match h[l]? with
  | some (.loop r) => if args.size = r.params.size then match evCode P γ call n r.assign { tmps := bindArgs r.params args r.tmps, defers := [] } h with
    | some (.normal, a1, h1) => match h1[l]? with
      | some (.loop r1) => if r1.state = .ready then match evCode P γ call n r.body a1 (h1.setIfInBounds l (.loop { r1 with state := .busy })) with
        | some (e, _, h2) => match jumpOf e with
          | some j => match h2[l]? with
            | some (.loop r2) => some (.bool j.isNone, h2.setIfInBounds l (endLoopObj r2 j))
            | _ => none
          | none => none
        | none => none
        else none
      | _ => none
    | _ => none
    else none
  | _ => none

def evCall (P : Program) (γ : Known) (orc : Caller) : Nat → Caller
  | 0, _, _, _ => none
  | n + 1, f, args, h =>
    match orc f args h with
    | some r => some r
    | none =>
      if f < YB then match P.funcs[f]? with
      | none => none
      | some fn => match fn.body with
        | none => none
        | some c => match evCodeR true P γ (evCall P γ orc n) 1000 c (start fn args) h with
          | some (.normal, a, h1) | some (.ret, a, h1) => leave P fn a h1
          | _ => none
      else evRound P γ (evCall P γ orc n) 1000 (f - YB) args h

def Callable (P : Program) (Γ : Gl) (call : Caller) : Prop := ∀ f args h v h1, call f args h = some (v, h1) → (f < YB → ACall P Γ f args h fun u k => u = v ∧ k = h1) ∧ (YB ≤ f → ARound P Γ (f - YB) args h fun u k => u = v ∧ k = h1)

theorem Callable.of {call : Caller} (hc : ∀ f args h v h1, call f args h = some (v, h1) → f < YB ∧ ACall P Γ f args h fun u k => u = v ∧ k = h1) : Callable P Γ call := fun f args h v h1 he =>
  ⟨fun _ => (hc f args h v h1 he).2, fun hlt => absurd (hc f args h v h1 he).1 (Nat.not_lt.2 hlt)⟩

theorem DPlan.mono {ops : Array Oper} {K K' : Act → H → Prop} (hk : ∀ a h, K a h → K' a h) : ∀ (L : List (Nat × Bool)) (F : Facts) (a : Act) (h : H), DPlan P Γ ops K L F a h → DPlan P Γ ops K' L F a h := by
  intro L
  induction L with
  | nil => intro F a h hd; exact hk _ _ hd
  | cons x L ih =>
    obtain ⟨i, e⟩ := x
    intro F a h hd
    unfold DPlan at hd ⊢
    cases hi : ops[i]? with
    | none => rw [hi] at hd; exact hd.elim
    | some o =>
      simp only [hi] at hd ⊢
      split
      · rename_i he
        rw [if_pos he] at hd
        split
        · rename_i ht
          rw [if_pos ht] at hd
          obtain ⟨v, h1, h2⟩ := hd
          exact ⟨v, h1, ih _ _ _ h2⟩
        · rename_i ht
          rw [if_neg ht] at hd
          split
          · rename_i hw
            rw [if_pos hw] at hd
            obtain ⟨v, h1, e1, e2, e3, e4⟩ := hd
            exact ⟨v, h1, e1, e2, e3, ih _ _ _ e4⟩
          · rename_i hw
            rw [if_neg hw] at hd
            exact ih _ _ _ hd
      · rename_i he
        rw [if_neg he] at hd
        exact hd.mono fun a h hh => ⟨hh.1, ih _ _ _ hh.2⟩

theorem evOp_sound {call : Caller} (hc : Callable P Γ call) {ops : Array Oper} {i : Nat} {o : Oper} {a a1 : Act} {h h1 : H} {K : Act → H → Prop} (hi : ops[i]? = some o) (hw : Region.wanted o (yielded ops a.tmps) = true)
    (he : evOp P call o a h = some (a1, h1)) (hk : K a1 h1) : AOp P Γ ops i K a h := by
  unfold evOp at he
  unfold AOp
  simp only [hi, hw, if_true]
  split at he
  · rename_i v h2 hv
    cases he
    exact .inl ⟨v, h1, hv, hk⟩
  · rename_i f args h2 hv
    split at he
    · rename_i hlt
      split at he
      · rename_i v h3 hcall
        cases he
        exact .inr ⟨f, args, h2, _, hv, (hc _ _ _ _ _ hcall).1 hlt, fun u k ⟨e1, e2⟩ => by subst e1; subst e2; exact hk⟩
      · cases he
    · cases he
  · cases he

theorem AOp.ops {ops : Array Oper} {i : Nat} {o : Oper} {l : List Nat} {a : Act} {h : H} {K : Act → H → Prop} (hi : ops[i]? = some o) (ho : AOp P Γ ops i (fun a h => AOps P Γ ops l a h K) a h) : AOps P Γ ops (i :: l) a h K := by
  unfold AOp at ho
  simp only [hi] at ho
  split at ho
  · rename_i hw
    rcases ho with ⟨v, h1, e1, e2⟩ | ⟨f, args, h1, R, e1, e2, e3⟩
    · exact AOps.val hi hw e1 e2
    · exact AOps.enter hi hw e1 e2 e3
  · rename_i hw
    exact AOps.skip hi (by simpa using hw) ho

theorem evOps_sound {γ : Known} (hγ : KnownOk P Γ γ) {call : Caller} (hc : Callable P Γ call) {ops : Array Oper} : ∀ (l : List Oper) (n : Nat) (a a1 : Act) (h h1 : H), ops.toList.drop n = l → evOps P γ call ops l a h = some (a1, h1) →
    ∀ {K : Act → H → Prop}, K a1 h1 → AOps P Γ ops (List.range' n l.length) a h K := by
  intro l
  induction l with
  | nil => intro n a a1 h h1 _ he K hk; cases he; exact AOps.nil hk
  | cons o l ih =>
    intro n a a1 h h1 hd he K hk
    have hi : ops[n]? = some o := by
      rw [← Array.getElem?_toList]
      have := congrArg (fun x => x[0]?) hd
      simpa using this
    have hd2 : ops.toList.drop (n + 1) = l := by
      have := congrArg List.tail hd
      simpa using this
    unfold evOps at he
    rw [List.length_cons, List.range'_succ]
    split at he
    · rename_i hw
      split at he
      · rename_i a2 h2 hop
        exact AOp.ops hi (evOp_sound hc hi hw hop (ih (n + 1) _ _ _ _ hd2 he hk))
      · split at he
        · rename_i v h2 hx
          exact AOps.ext hi hw hx (ih (n + 1) _ _ _ _ hd2 he hk)
        · split at he
          · rename_i v hx
            exact AOps.known hγ hi hw hx (ih (n + 1) _ _ _ _ hd2 he hk)
          · split at he
            · rename_i li args hy
              split at he
              · rename_i v h2 hcall
                refine AOps.round hi hw hy (by have := (hc _ _ _ _ _ hcall).2 (Nat.le_add_right _ _); rw [Nat.add_sub_cancel_left] at this; exact this) ?_
                rintro u k ⟨rfl, rfl⟩
                exact ih (n + 1) _ _ _ _ hd2 he hk
              · cases he
            · cases he
    · rename_i hw
      exact AOps.skip hi (by simpa using hw) (ih (n + 1) _ _ _ _ hd2 he hk)

def Fact.prop (P : Program) (ops : Array Oper) (f : Fact) : Nat × (H → Prop) := (f.i, fun h => Finds P ops f.o f.v f.a h)

theorem keeps_facts {ops : Array Oper} {i : Nat} {F : List Fact} : keeps ops i (F.map (Fact.prop P ops)) = (F.filter fun f => !waits ops i f.i).map (Fact.prop P ops) := by
  unfold keeps
  rw [List.filter_map]
  rfl

theorem Fact.finds {ops : Array Oper} {f : Fact} {h : H} (hw : Region.wanted f.o (yielded ops f.a.tmps) = true ∨ f.v = undef) (ht : takes f.o = true) (hh : f.holds P ops h = true) : Finds P ops f.o f.v f.a h := by
  unfold Fact.holds at hh
  split at hh
  · rename_i hwt
    split at hh
    · rename_i v h1 hv
      rw [sameV_eq _ _ hh] at hv
      exact .inl ⟨hwt, aop_takes ht hv⟩
    · cases hh
  · rename_i hwt
    exact .inr ⟨by simpa using hwt, hw.resolve_left hwt⟩

theorem evPlan_sound {call : Caller} (hc : Callable P Γ call) {ops : Array Oper} : ∀ (L : List (Nat × Bool)) (F : List Fact) (a a1 : Act) (h h1 : H), (∀ f ∈ F, (Region.wanted f.o (yielded ops f.a.tmps) = true ∨ f.v = undef) ∧ takes f.o = true) →
    evPlan P call ops L F a h = some (a1, h1) → DPlan P Γ ops (fun a2 h2 => a2 = a1 ∧ h2 = h1) L (F.map (Fact.prop P ops)) a h := by
  intro L
  induction L with
  | nil => intro F a a1 h h1 _ he; cases he; exact ⟨rfl, rfl⟩
  | cons x L ih =>
    obtain ⟨i, e⟩ := x
    intro F a a1 h h1 hF he
    unfold evPlan at he
    unfold DPlan
    cases hi : ops[i]? with
    | none => rw [hi] at he; cases he
    | some o =>
      simp only [hi] at he ⊢
      have facts : ∀ (G : List Fact) (k : H), (∀ f ∈ G, f ∈ F) → G.all (Fact.holds P ops · k) = true → ∀ x ∈ G.map (Fact.prop P ops), x.2 k := by
        intro G k hG hall x hx
        obtain ⟨f, hf, rfl⟩ := List.mem_map.1 hx
        exact Fact.finds (hF f (hG f hf)).1 (hF f (hG f hf)).2 (List.all_eq_true.1 hall f hf)
      by_cases hw : Region.wanted o (yielded ops a.tmps) = true
      · rw [if_pos hw] at he
        cases e with
        | true =>
          simp only [if_true] at he ⊢
          split at he
          · rename_i v h2 hv
            by_cases ht : takes o = true
            · rw [if_pos ht] at he ⊢
              refine ⟨v, .inl ⟨hw, aop_takes ht hv⟩, ?_⟩
              have := ih _ _ _ _ _ ?_ he
              · by_cases hk : asks o = true
                · simp only [hk, if_true] at this ⊢; exact this
                · rw [if_neg hk] at this ⊢; exact this
              · intro f hf
                split at hf
                · rcases List.mem_cons.1 hf with rfl | hf
                  · exact ⟨.inl hw, ht⟩
                  · exact hF f hf
                · exact hF f hf
            · rw [if_neg ht] at he ⊢
              rw [if_pos hw]
              split at he
              · rename_i hb
                exact ⟨v, h2, hv, hb.1, facts F h2 (fun _ h => h) hb.2, ih _ _ _ _ _ hF he⟩
              · cases he
          · cases he
        | false =>
          simp only [Bool.false_eq_true, if_false] at he ⊢
          split at he
          · rename_i a2 h2 hop
            split at he
            · rename_i hall
              refine evOp_sound hc hi hw hop ?_
              rw [keeps_facts]
              exact ⟨facts _ h2 (fun f hf => (List.mem_filter.1 hf).1) hall, ih _ _ _ _ _ (fun f hf => hF f (List.mem_filter.1 hf).1) he⟩
            · cases he
          · cases he
      · rw [if_neg hw] at he
        cases e with
        | true =>
          simp only [if_true] at he ⊢
          by_cases ht : takes o = true
          · rw [if_pos ht]
            refine ⟨undef, .inr ⟨by simpa using hw, rfl⟩, ?_⟩
            have := ih _ _ _ _ _ ?_ he
            · by_cases hk : asks o = true
              · simp only [hk, ht, and_self, if_true] at this ⊢; exact this
              · rw [if_neg (fun h => hk h.2)] at this; rw [if_neg hk]; exact this
            · intro f hf
              split at hf
              · rcases List.mem_cons.1 hf with rfl | hf
                · exact ⟨.inr rfl, ht⟩
                · exact hF f hf
              · exact hF f hf
          · rw [if_neg (fun h => ht h.1)] at he
            rw [if_neg ht, if_neg hw]
            exact ih _ _ _ _ _ hF he
        | false =>
          simp only [Bool.false_eq_true, if_false] at he ⊢
          split at he
          · rename_i hall
            unfold AOp
            simp only [hi]
            rw [if_neg hw]
            rw [keeps_facts]
            exact ⟨facts _ h (fun f hf => (List.mem_filter.1 hf).1) hall, ih _ _ _ _ _ (fun f hf => hF f (List.mem_filter.1 hf).1) he⟩
          · cases he

theorem evCodeR_sound {rg : Bool} (hrg : rg = true → Γ.rnd = false) {γ : Known} (hγ : KnownOk P Γ γ) {call : Caller} (hm : P.follows .mixedOrders = true) (hc : Callable P Γ call) : ∀ (n : Nat) (c : Code) (a a1 : Act) (h h1 : H) (e : Exit), evCodeR rg P γ call n c a h = some (e, a1, h1) →
    ACode P Γ c a h fun e2 a2 h2 => e2 = e ∧ a2 = a1 ∧ h2 = h1 := by
  intro n
  induction n with
  | zero => intro c a a1 h h1 e he; cases he
  | succ n ih =>
    intro c a a1 h h1 e he
    unfold evCodeR at he
    split at he
    · rename_i ops
      split at he
      · rename_i a2 h2 ho
        cases he
        refine ACode.region ?_
        have := evOps_sound hγ hc ops.toList 0 a a1 h h1 (by simp) ho (K := fun a2 h2 => Exit.normal = .normal ∧ a2 = a1 ∧ h2 = h1) ⟨rfl, rfl, rfl⟩
        rw [List.range_eq_range']
        simpa using this
      · cases he
    · rename_i id ops
      split at he
      · rename_i hfit
        split at he
        · rename_i a2 h2 ho
          cases he
          unfold planFits at hfit
          simp only [Bool.and_eq_true, beq_iff_eq] at hfit
          refine ACode.plan hm (thePlan ops) hfit.1.1 hfit.1.2 hfit.2 ?_
          exact DPlan.mono (fun a h hh => ⟨rfl, hh⟩) _ _ _ _ (evPlan_sound hc _ [] a a1 h h1 (fun f hf => by cases hf) ho)
        · cases he
      · cases he
    · cases he; exact ACode.skip ⟨rfl, rfl, rfl⟩
    · cases he; exact ACode.label ⟨rfl, rfl, rfl⟩
    · cases he; exact ACode.exit ⟨rfl, rfl, rfl⟩
    · cases he; exact ACode.ret ⟨rfl, rfl, rfl⟩
    · rename_i x y
      split at he
      · rename_i a2 h2 hx
        refine ACode.seq ((ih x _ _ _ _ _ hx).mono ?_)
        rintro e2 a3 h3 ⟨rfl, rfl, rfl⟩
        exact ih y _ _ _ _ _ he
      · rename_i hne
        refine ACode.seq ((ih x _ _ _ _ _ he).mono ?_)
        rintro e2 a3 h3 ⟨rfl, rfl, rfl⟩
        cases e2 with
        | normal => exact absurd he (hne _ _)
        | _ => exact ⟨rfl, rfl, rfl⟩
    · rename_i cnd x y
      split at he
      · rename_i hok
        split at he
        · rename_i t hct
          exact ACode.cond hok hct (ih _ _ _ _ _ _ he)
        · cases he
      · cases he
    · rename_i id c
      split at he
      · rename_i id' a2 h2 hx
        refine ACode.block ((ih c _ _ _ _ _ hx).mono ?_)
        rintro e2 a3 h3 ⟨rfl, rfl, rfl⟩
        simp only [inBlock]
        split at he
        · rename_i hid; cases he; rw [if_pos hid]; exact ⟨rfl, rfl, rfl⟩
        · rename_i hid; cases he; rw [if_neg hid]; exact ⟨rfl, rfl, rfl⟩
      · rename_i hne
        refine ACode.block ((ih c _ _ _ _ _ he).mono ?_)
        rintro e2 a3 h3 ⟨rfl, rfl, rfl⟩
        cases e2 with
        | exit id' => exact absurd he (hne _ _ _)
        | _ => exact ⟨rfl, rfl, rfl⟩
    · rename_i c
      split at he
      · rename_i a2 h2 hx
        refine ACode.loop ((ih c _ _ _ _ _ hx).mono ?_)
        rintro e2 a3 h3 ⟨rfl, rfl, rfl⟩
        exact ih _ _ _ _ _ _ he
      · rename_i hne
        refine ACode.loop ((ih c _ _ _ _ _ he).mono ?_)
        rintro e2 a3 h3 ⟨rfl, rfl, rfl⟩
        cases e2 with
        | normal => exact absurd he (hne _ _)
        | _ => exact ⟨rfl, rfl, rfl⟩
    · rename_i g ps assign body
      split at he
      · rename_i hcond
        split at he
        · rename_i f first cap heval
          split at he
          · rename_i fn hf
            split at he
            · rename_i hfn
              split at he
              · rename_i v0 h2 hcall
                split at he
                · rename_i r hr
                  split at he
                  · cases he
                  · rename_i hbusy
                    refine ACode.rangeFunc (hrg hcond.1) hcond.2 heval hf hfn.2.1 hfn.2.2 ((hc _ _ _ _ _ hcall).1 hfn.1) ?_
                    rintro v h3 ⟨rfl, rfl⟩
                    refine ⟨r, hr, hbusy, ?_⟩
                    split at he
                    · rename_i hp
                      cases he
                      rw [hp]
                      exact ⟨rfl, rfl, rfl⟩
                    · rename_i c hp
                      rw [hp]
                      exact ih c _ _ _ _ _ he
                · cases he
              · cases he
            · cases he
          · cases he
        · cases he
      · cases he
    · cases he

theorem evCode_sound {γ : Known} (hγ : KnownOk P Γ γ) {call : Caller} (hm : P.follows .mixedOrders = true) (hc : Callable P Γ call) (n : Nat) (c : Code) (a a1 : Act) (h h1 : H) (e : Exit) (he : evCode P γ call n c a h = some (e, a1, h1)) :
    ACode P Γ c a h fun e2 a2 h2 => e2 = e ∧ a2 = a1 ∧ h2 = h1 := evCodeR_sound (fun h => by cases h) hγ hm hc n c a a1 h h1 e he

theorem evRound_sound {γ : Known} (hγ : KnownOk P Γ γ) {call : Caller} (hm : P.follows .mixedOrders = true) (hc : Callable P Γ call) {n l : Nat} {args : Array Value} {h h1 : H} {v : Value} (he : evRound P γ call n l args h = some (v, h1)) :
    ARound P Γ l args h fun u k => u = v ∧ k = h1 := by
  unfold evRound at he
  split at he
  case h_2 => cases he
  rename_i r hr
  split at he
  case isFalse => cases he
  rename_i hn
  split at he
  case h_2 => cases he
  rename_i a1 h2 hassign
  split at he
  case h_2 => cases he
  rename_i r1 hr1
  split at he
  case isFalse => cases he
  rename_i hready
  split at he
  case h_2 => cases he
  rename_i e a2 h3 hbody
  split at he
  case h_2 => cases he
  rename_i j hj
  split at he
  case h_2 => cases he
  rename_i r2 hr2
  cases he
  refine ARound.body hr hn ?_
  refine (evCode_sound (Γ := Γ.round) hγ hm hc _ _ _ _ _ _ _ hassign).mono ?_
  rintro e3 a3 h4 ⟨rfl, rfl, rfl⟩
  refine ⟨r1, hr1, hready, ?_⟩
  refine (evCode_sound (Γ := Γ.round) hγ hm hc _ _ _ _ _ _ _ hbody).mono ?_
  rintro e3 a3 h4 ⟨rfl, rfl, rfl⟩
  exact ⟨j, hj, r2, hr2, rfl, rfl⟩

theorem evCall_sound {γ : Known} (hγ : KnownOk P Γ γ) {orc : Caller} (hm : P.follows .mixedOrders = true) (ho : Callable P Γ orc) : ∀ n, Callable P Γ (evCall P γ orc n) := by
  intro n
  induction n with
  | zero => intro f args h v h1 he; cases he
  | succ n ih =>
    intro f args h v h1 he
    unfold evCall at he
    split at he
    · rename_i r hr
      cases he
      exact ho _ _ _ _ _ hr
    · split at he
      · rename_i hlt
        split at he
        · cases he
        · rename_i fn hf
          split at he
          · cases he
          · rename_i c hb
            refine ⟨fun _ => ACall.body hf hb ?_, fun hle => absurd hlt (Nat.not_lt.2 hle)⟩
            split at he
            · rename_i a2 h2 hx
              refine (evCodeR_sound (Γ := Γ.top) (fun _ => rfl) hγ hm ih _ _ _ _ _ _ _ hx).mono ?_
              rintro e2 a3 h3 ⟨rfl, rfl, rfl⟩
              exact ⟨v, h1, he, rfl, rfl⟩
            · rename_i a2 h2 hx
              refine (evCodeR_sound (Γ := Γ.top) (fun _ => rfl) hγ hm ih _ _ _ _ _ _ _ hx).mono ?_
              rintro e2 a3 h3 ⟨rfl, rfl, rfl⟩
              exact ⟨v, h1, he, rfl, rfl⟩
            · cases he
      · rename_i hlt
        exact ⟨fun h => absurd h hlt, fun _ => evRound_sound hγ hm ih he⟩

end Go.Abs
