/-
The abstract heap: one operation, both sides.
-/
import Derived.Test.YtgeoihombkjgnaaGreatDoorBwAbsJ
namespace Go.Abs
open Go
variable {P : Program} {ρ : Ren} {α β : Type}

theorem SV.nilEq {op : BinOp} {t : TypeId} {x y : Operand} {u v u' v' : Value} (hn : nilish u v = true) (hop : isEq op = true) (hu : VRel P ρ u u') (hv : VRel P ρ v v') :
    SV P ρ (do eqGuard op t x y u v; binOp op t u v) (do eqGuard op t x y u' v'; binOp op t u' v') := by
  have hg : ∀ {a b : Value}, nilish a b = true → eqGuard op t x y a b = Pure.pure () := by
    intro a b hab
    cases a <;> cases b <;> first | (simp [nilish] at hab; done) | (cases op <;> rfl)
  have hn' : nilish u' v' = true := by
    cases hu <;> cases hv <;> first | exact hn | (simp [nilish] at hn ⊢; done)
  rw [hg hn, hg hn']
  simp only [pure_bind]
  have key : SR P ρ (fun _ a b => a = b) (Op.equal t u v) (Op.equal t u' v') := by
    have e : Op.maxDepth = 9999 + 1 := rfl
    unfold Op.equal
    rw [e]
    unfold Op.equalIn
    refine SR.bind (SR.underlying t) fun ρ1 d d' hl hd => ?_
    obtain ⟨rfl, _⟩ := hd
    cases hu <;> cases hv <;> first
      | (simp [nilish] at hn; done)
      | (cases d <;> first | exact SR.stuck | exact SR.pure fun _ _ => rfl | exact SR.fail fun _ => rfl)
  have e1 : ∀ {a b : Value}, nilish a b = true → binOp .eql t a b = (do Pure.pure (.bool (← Op.equal t a b))) ∧ binOp .neq t a b = (do Pure.pure (.bool (!(← Op.equal t a b)))) := by
    intro a b hab
    cases a <;> cases b <;> first | (simp [nilish] at hab; done) | exact ⟨rfl, rfl⟩
  cases op <;> first | (simp [isEq] at hop; done) | skip
  · rw [(e1 hn).1, (e1 hn').1]
    exact SR.bind key fun ρ1 a b _ hab => SR.pure fun _ _ => by rw [hab]; exact .bool _
  · rw [(e1 hn).2, (e1 hn').2]
    exact SR.bind key fun ρ1 a b _ hab => SR.pure fun _ _ => by rw [hab]; exact .bool _

theorem ORl.of {a a' : Act} (ha : ActRel P ρ a a') {x : Option Operand} (hx : ∀ y, x = some y → okOperand y = true) : ORl P ρ (x.map a.eval) (x.map a'.eval) := by
  cases x with
  | none => exact .inl ⟨rfl, rfl⟩
  | some y => exact .inr ⟨_, _, rfl, rfl, ha.eval (hx y rfl)⟩

theorem RRel.mapEval {a a' : Act} (ha : ActRel P ρ a a') {xs : Array Operand} (hx : ∀ y ∈ xs, okOperand y = true) : RRel P ρ (xs.map a.eval) (xs.map a'.eval) := by
  refine ⟨by simp, fun i u u' hu hu' => ?_⟩
  simp only [Array.getElem?_map, Option.map_eq_some_iff] at hu hu'
  obtain ⟨y, hy, rfl⟩ := hu
  obtain ⟨y', hy', rfl⟩ := hu'
  rw [hy] at hy'; cases hy'
  exact ha.eval (hx y (Array.mem_of_getElem? hy))

theorem PRel.mapEval {a a' : Act} (ha : ActRel P ρ a a') {xs : Array (Nat × Operand)} (hx : ∀ p ∈ xs, okOperand p.2 = true) :
    PRel P ρ (xs.map fun p => (p.1, a.eval p.2)).toList (xs.map fun p => (p.1, a'.eval p.2)).toList := by
  refine ⟨by simp, fun i u u' hu hu' => ?_⟩
  simp only [Array.getElem?_toList, Array.getElem?_map, Option.map_eq_some_iff] at hu hu'
  obtain ⟨y, hy, rfl⟩ := hu
  obtain ⟨y', hy', rfl⟩ := hu'
  rw [hy] at hy'; cases hy'
  exact ⟨rfl, ha.eval (hx y (Array.mem_of_getElem? hy))⟩

theorem appendCall {h : H} {w : World} (hs : Sim P ρ h w) {ts : Array TypeId} {ty : TypeId} {xs xs' : Array Value} (hx : RRel P ρ xs xs') {v : Value} {h1 : H} (hr : aappend P ts xs h = some (v, h1)) :
    Does P ρ h w v h1 (Builtin.append_ ts ty xs') := by
  unfold aappend at hr
  split at hr
  case h_2 => cases hr
  rename_i t u s x hts hxs
  have hts' : ts = #[t, u] := Array.ext' (by simpa using hts)
  have hxs' : xs = #[s, x] := Array.ext' (by simpa using hxs)
  subst hts'; subst hxs'
  have hx' : ∃ s' x', xs' = #[s', x'] ∧ VRel P ρ s s' ∧ VRel P ρ x x' := by
    have h2 : xs'.size = 2 := hx.1.symm
    refine ⟨xs'[0], xs'[1], ?_, hx.2 0 _ _ rfl (Array.getElem?_eq_getElem (by omega)), hx.2 1 _ _ rfl (Array.getElem?_eq_getElem (by omega))⟩
    apply Array.ext
    · simpa using h2
    · intro i h1 h3
      match i with
      | 0 => rfl
      | 1 => rfl
      | i + 2 => simp at h3; omega
  obtain ⟨s', x', rfl, h1', h2'⟩ := hx'
  split at hr
  case h_2 => cases hr
  rename_i e ht
  split at hr
  case h_2 => cases hr
  rename_i i z he
  split at hr
  case h_2 => cases hr
  rename_i m news hsrc
  obtain ⟨news', g1, g2, g3, g4⟩ := asrc_src he hs h2' hsrc
  exact appendTo_does hs h1' ht he g1 g2 g3 g4 hr

theorem RRel.single {xs' : Array Value} {x : Value} (h : RRel P ρ #[x] xs') : ∃ x', xs' = #[x'] ∧ VRel P ρ x x' := by
  have h2 : xs'.size = 1 := h.1.symm
  refine ⟨xs'[0], ?_, h.2 0 _ _ rfl (Array.getElem?_eq_getElem (by omega))⟩
  apply Array.ext
  · simpa using h2
  · intro i h1 h3
    match i with
    | 0 => rfl
    | i + 1 => simp at h3

theorem RRel.pair {xs' : Array Value} {x y : Value} (h : RRel P ρ #[x, y] xs') : ∃ x' y', xs' = #[x', y'] ∧ VRel P ρ x x' ∧ VRel P ρ y y' := by
  have h2 : xs'.size = 2 := h.1.symm
  refine ⟨xs'[0], xs'[1], ?_, h.2 0 _ _ rfl (Array.getElem?_eq_getElem (by omega)), h.2 1 _ _ rfl (Array.getElem?_eq_getElem (by omega))⟩
  apply Array.ext
  · simpa using h2
  · intro i h1 h3
    match i with
    | 0 => rfl
    | 1 => rfl
    | i + 2 => simp at h3; omega

theorem acall_does {a a' : Act} {o : Oper} {c : Call} {h : H} {w : World} (hs : Sim P ρ h w) (ha : ActRel P ρ a a') (hok : ∀ y ∈ c.operands, okOperand y = true) (hop : o.op = .call c) {r : AStep} (hr : acall P a o c h = some r) :
    OpDoes P ρ h w r (execOp a'.eval o) := by
  have hargs : ∀ y ∈ c.args, okOperand y = true := fun y hy => hok y (Array.mem_append.2 (.inr hy))
  have hrel := RRel.mapEval ha hargs
  have hexec : execOp a'.eval o = (do let d ← resolve a'.eval c o.type; invoke d.target d.args) := by unfold execOp; rw [hop]
  rw [hexec]
  unfold acall at hr
  split at hr
  · -- append
    rename_i hc
    simp only [vals, Option.map_eq_some_iff] at hr
    obtain ⟨⟨v, h1⟩, hr, rfl⟩ := hr
    simp only [resolve, hc, pure_bind, invoke, builtin]
    exact OpDoes.ofDoes (appendCall hs hrel hr)
  · -- len
    rename_i hc
    split at hr
    case h_2 => cases hr
    rename_i t x ht hx
    replace ht : c.argTypes = #[t] := Array.ext' (by simpa using ht)
    replace hx : c.args.map a.eval = #[x] := Array.ext' (by simpa using hx)
    rw [hx] at hrel
    obtain ⟨x', hx', hxr⟩ := hrel.single
    split at hr
    case isFalse => cases hr
    rename_i hle
    simp only [resolve, hc, pure_bind, invoke, builtin, ht, hx']
    exact OpDoes.ofSV hs (SV.len t o.type hle hxr) hr
  · -- copy
    rename_i hc
    split at hr
    case h_2 => cases hr
    rename_i t u x y ht hx
    replace ht : c.argTypes = #[t, u] := Array.ext' (by simpa using ht)
    replace hx : c.args.map a.eval = #[x, y] := Array.ext' (by simpa using hx)
    rw [hx] at hrel
    obtain ⟨x', y', hx', hxr, hyr⟩ := hrel.pair
    simp only [resolve, hc, pure_bind, invoke, builtin, ht, hx']
    exact OpDoes.ofSV hs (SV.copy t o.type u hxr hyr) hr
  · -- clear
    rename_i hc
    split at hr
    case h_2 => cases hr
    rename_i t x ht hx
    replace ht : c.argTypes = #[t] := Array.ext' (by simpa using ht)
    replace hx : c.args.map a.eval = #[x] := Array.ext' (by simpa using hx)
    rw [hx] at hrel
    obtain ⟨x', hx', hxr⟩ := hrel.single
    split at hr
    case isFalse => cases hr
    rename_i hcond
    simp only [resolve, hc, pure_bind, invoke, builtin, ht, hx']
    refine OpDoes.ofSV hs (SV.clear t o.type ?_ ?_ hxr) hr
    · intro r hr'
      rw [hr'] at hcond
      simp [isSlice] at hcond
    · intro e he
      have := hcond.1
      unfold sliceZok at this
      rw [he] at this
      exact this
  · -- delete
    rename_i hc
    split at hr
    case h_2 => cases hr
    rename_i t u x y ht hx
    replace ht : c.argTypes = #[t, u] := Array.ext' (by simpa using ht)
    replace hx : c.args.map a.eval = #[x, y] := Array.ext' (by simpa using hx)
    rw [hx] at hrel
    obtain ⟨x', y', hx', hxr, hyr⟩ := hrel.pair
    split at hr
    case isFalse => cases hr
    rename_i hcond
    simp only [resolve, hc, pure_bind, invoke, builtin, ht, hx']
    exact OpDoes.ofSV hs (SV.delete t u o.type hxr hcond hyr) hr
  · -- a function
    rename_i f hc
    have hf : okOperand f = true := hok f (by unfold Call.operands; rw [hc]; simp)
    have hfv := ha.eval hf
    split at hr
    case h_2 => cases hr
    rename_i g first cap hfe
    rw [hfe] at hfv
    obtain ⟨first', cap', hfe', hfr, hcr⟩ : ∃ first' cap', a'.eval f = .func (.func g) first' cap' ∧ RRel P ρ first first' ∧ RRel P ρ cap cap' := by
      cases hfv2 : a'.eval f <;> rw [hfv2] at hfv <;> cases hfv
      rename_i h1 h2 h3 h4 h5
      exact ⟨_, _, rfl, ⟨h2, h3⟩, ⟨h4, h5⟩⟩
    have hall : RRel P ρ (first ++ c.args.map a.eval ++ cap) (first' ++ c.args.map a'.eval ++ cap') := (hfr.append hrel).append hcr
    have hinv : (do let d ← resolve a'.eval c o.type; invoke d.target d.args) = callFunc g (first' ++ c.args.map a'.eval ++ cap') := by
      simp only [resolve, hc, Deferred.ofValue, hfe', pure_bind, invoke]
    rw [hinv]
    split at hr
    case h_2 => cases hr
    rename_i fn hfn
    split at hr
    · rename_i hbody
      split at hr
      case isFalse => cases hr
      rename_i hname
      cases hr
      refine ⟨_, w, ρ, ?_, .refl _ _ _, hs, hall⟩
      have hb : fn.body.isNone = false := by simpa [Option.isNone_iff_eq_none, Option.isSome_iff_ne_none] using hbody
      have hn : (fn.name == "runtime.NumGoroutine") = false := by simpa using hname
      simp only [callFunc, Sem.run_bind, run_program, Result.andThen_ok, hfn, hn, hb]
      rfl
    · split at hr
      case isFalse => cases hr
      rename_i hflat
      split at hr
      case h_2 => cases hr
      rename_i v hp
      split at hr
      case isFalse => cases hr
      rename_i hfv'
      cases hr
      have heq : first' ++ c.args.map a'.eval ++ cap' = first ++ c.args.map a.eval ++ cap := by
        apply Array.ext
        · exact hall.1.symm
        · intro i h1 h2
          exact flat_eq (Array.all_eq_true.1 hflat i h2) (hall.2 i _ _ (Array.getElem?_eq_getElem h2) (Array.getElem?_eq_getElem h1))
      rw [heq]
      exact ⟨v, w, ρ, .inl (prun_run _ _ hp w), .refl _ _ _, hs, flat_rel hfv'⟩
  · cases hr


theorem aop_does {a a' : Act} {o : Oper} {h : H} {w : World} (hs : Sim P ρ h w) (ha : ActRel P ρ a a') {r : AStep} (hr : aop P a o h = some r) : OpDoes P ρ h w r (execOp a'.eval o) := by
  unfold aop at hr
  split at hr
  case isFalse => cases hr
  rename_i hok
  have hmem : ∀ y ∈ o.op.operands, okOperand y = true := fun y hy => by
    obtain ⟨i, hi, rfl⟩ := Array.getElem_of_mem hy
    exact Array.all_eq_true.1 hok i hi
  have e0 : execOp a'.eval o = execOp a'.eval o := rfl
  generalize hO : o.op = op at hr hmem
  have ev : ∀ {x : Operand}, x ∈ op.operands → VRel P ρ (a.eval x) (a'.eval x) := fun hx => ha.eval (hmem _ hx)
  have flatCase : ∀ {r : AStep}, flatStep P a o h = some r → (∀ cs b, op ≠ .select cs b) → OpDoes P ρ h w r (execOp a'.eval o) := fun hr hsel =>
    flatStep_does hs ha hok (fun cs b e => hsel cs b (hO ▸ e)) hr
  cases op with
  | move x =>
    cases hr
    refine ⟨a'.eval x, w, ρ, .inl ?_, .refl _ _ _, hs, ev (by simp [Op.operands])⟩
    unfold execOp; rw [hO]; rfl
  | assign x =>
    cases hr
    refine ⟨a'.eval x, w, ρ, .inl ?_, .refl _ _ _, hs, ev (by simp [Op.operands])⟩
    unfold execOp; rw [hO]; rfl
  | pick c x y =>
    dsimp only at hr
    split at hr
    case h_2 => cases hr
    rename_i b hb
    cases hr
    have hc := ev (x := c) (by simp [Op.operands])
    rw [hb] at hc
    have hc' : a'.eval c = .bool b := by
      generalize a'.eval c = v at hc
      cases hc; rfl
    refine ⟨if b = true then a'.eval x else a'.eval y, w, ρ, .inl ?_, .refl _ _ _, hs, ?_⟩
    · unfold execOp; rw [hO]; simp only [hc', asBool, pure_bind]; rfl
    · cases b
      · exact ev (by simp [Op.operands])
      · exact ev (by simp [Op.operands])
  | alloc e =>
    dsimp only at hr
    split at hr
    case isFalse => cases hr
    rename_i hz
    have := OpDoes.ofSV hs (SV.alloc hz) hr
    unfold execOp; rw [hO]; exact this
  | box e x =>
    have := OpDoes.ofSV hs (SV.box e (ev (x := x) (by simp [Op.operands]))) hr
    unfold execOp; rw [hO]; exact this
  | build t parts =>
    dsimp only at hr
    split at hr
    case isFalse => cases hr
    rename_i hz
    have hp : ∀ p ∈ parts, okOperand p.2 = true := fun p hp => hmem _ (by
      simp only [Op.operands, List.mem_toArray, List.mem_map]
      exact ⟨p, by simpa using hp, rfl⟩)
    have := OpDoes.ofSV hs (SV.build t hz (PRel.mapEval ha hp)) hr
    unfold execOp; rw [hO]; exact this
  | buildSlice t n parts =>
    dsimp only at hr
    split at hr
    case isFalse => cases hr
    rename_i hz
    have hp : ∀ p ∈ parts, okOperand p.2 = true := fun p hp => hmem _ (by
      simp only [Op.operands, List.mem_toArray, List.mem_map]
      exact ⟨p, by simpa using hp, rfl⟩)
    have hz' : ∀ e, P.underlying t = some (.slice e) → zok P e = true := fun e he => by
      have := hz.1; unfold sliceZok at this; rw [he] at this; exact this
    have := OpDoes.ofSV hs (SV.buildSlice t n hz' hz.2 (PRel.mapEval ha hp)) hr
    unfold execOp; rw [hO]; exact this
  | load t x =>
    have := OpDoes.ofSV hs (SV.loadAt t (ev (x := x) (by simp [Op.operands]))) hr
    unfold execOp; rw [hO]; exact this
  | store t x y =>
    have := OpDoes.ofUnit hs (SR.storeAt t (ev (x := x) (by simp [Op.operands])) (ev (x := y) (by simp [Op.operands]))) hr
    unfold execOp; rw [hO]; exact this
  | nilCheck x =>
    dsimp only at hr
    split at hr
    case h_2 => cases hr
    rename_i ad hb
    cases hr
    have hc := ev (x := x) (by simp [Op.operands])
    rw [hb] at hc
    obtain ⟨ad', hc'⟩ : ∃ ad', a'.eval x = .pointer (some ad') := by
      generalize a'.eval x = v at hc
      cases hc; exact ⟨_, rfl⟩
    refine ⟨a'.eval x, w, ρ, .inl ?_, .refl _ _ _, hs, hc⟩
    unfold execOp; rw [hO]; simp only [hc']; rfl
  | binOp op t x y ty =>
    dsimp only at hr
    split at hr
    · rename_i hn
      have := OpDoes.ofSV hs (SV.nilEq (x := x) (y := y) (t := t) hn.1 hn.2 (ev (x := x) (by simp [Op.operands])) (ev (x := y) (by simp [Op.operands]))) hr
      unfold execOp; rw [hO]; exact this
    · exact flatCase hr (by intro cs b e; cases e)
  | makeInterface t x =>
    have hx := ev (x := x) (by simp [Op.operands])
    have hsv : SV P ρ (Instr.makeInterface t (a.eval x)) (Instr.makeInterface t (a'.eval x)) := by
      unfold Instr.makeInterface
      refine SR.bind (SR.underlying t) fun ρ1 d d' hl hd => ?_
      obtain ⟨rfl, _⟩ := hd
      split
      · exact SR.stuck
      · exact SR.pure fun _ hl2 => .iface ((hx.mono hl).mono hl2)
    have := OpDoes.ofSV hs hsv hr
    unfold execOp; rw [hO]; exact this
  | makeFunc fn first cap =>
    dsimp only at hr
    split at hr
    case h_2 => cases hr
    rename_i f
    cases hr
    have h1 : ∀ y ∈ first, okOperand y = true := fun y hy => hmem y (Array.mem_append.2 (.inl hy))
    have h2 : ∀ y ∈ cap, okOperand y = true := fun y hy => hmem y (Array.mem_append.2 (.inr hy))
    have r1 := RRel.mapEval ha h1
    have r2 := RRel.mapEval ha h2
    refine ⟨.func (.func f) (first.map a'.eval) (cap.map a'.eval), w, ρ, .inl ?_, .refl _ _ _, hs, .func (by intro l e; cases e) r1.1 r1.2 r2.1 r2.2⟩
    unfold execOp; rw [hO]; rfl
  | makeMap t r0 =>
    cases r0 with
    | some x => exact flatCase hr (by intro cs b e; cases e)
    | none =>
      have hsv : SV P ρ (Instr.makeMap t none) (Instr.makeMap t none) := by
        unfold Instr.makeMap
        intro ρ1 h0 w0 hl hs0 v h1 hrun
        simp only [arun_bind, newObj, arun, plainObj, if_true, Option.bind_some, arun_pure, Option.some.injEq, Prod.mk.injEq] at hrun
        obtain ⟨rfl, rfl⟩ := hrun
        obtain ⟨g1, g2⟩ := hs0.push (.map #[] 0) (.map #[] 0) ⟨w0.heap.size, 0, false, 0, 0⟩ rfl ⟨rfl, rfl, rfl, rfl, fun j m m' h => by simp at h⟩
        exact ⟨.map (some w0.heap.size), w0.alloc (.map #[] 0), _, by simp, g2, g1, .map (.inr ⟨_, Ren.set_same _ _ _, rfl⟩)⟩
      have := OpDoes.ofSV hs hsv hr
      unfold execOp; rw [hO]; exact this
  | makeSlice t l c =>
    dsimp only at hr
    split at hr
    case isFalse => cases hr
    rename_i hz
    have hz' : ∀ e, P.underlying t = some (.slice e) → zok P e = true := fun e he => by
      unfold sliceZok at hz; rw [he] at hz; exact hz
    have := OpDoes.ofSV hs (SV.makeSlice t hz' (ev (x := l) (by simp [Op.operands])) (ev (x := c) (by simp [Op.operands]))) hr
    unfold execOp; rw [hO]; exact this
  | slice t x lo hi mx =>
    dsimp only at hr
    split at hr
    case isFalse => cases hr
    rename_i hst
    have hx := ev (x := x) (by simp [Op.operands])
    have hlo : ORl P ρ (lo.map a.eval) (lo.map a'.eval) := ORl.of ha fun y hy => hmem y (by subst hy; simp [Op.operands])
    have hhi : ORl P ρ (hi.map a.eval) (hi.map a'.eval) := ORl.of ha fun y hy => hmem y (by subst hy; simp [Op.operands])
    have hmx : ORl P ρ (mx.map a.eval) (mx.map a'.eval) := ORl.of ha fun y hy => hmem y (by subst hy; simp [Op.operands])
    have hsame : ∀ v, Instr.sliceAt t v (lo.map a'.eval) (hi.map a'.eval) (mx.map a'.eval) = Instr.sliceAt t v (lo.map a'.eval) (hi.map a'.eval) (mx.map a'.eval) := fun _ => rfl
    have hrun : ∀ v w, (Instr.sliceAt t v (lo.map a'.eval) (hi.map a'.eval) (mx.map a'.eval)).run P w = (Instr.slice t v (lo.map a'.eval) (hi.map a'.eval) (mx.map a'.eval)).run P w := by
      intro v w
      unfold Instr.sliceAt
      simp only [Sem.run_bind, run_underlying']
      unfold strSlice at hst
      cases hd : P.underlying t with
      | none => rw [hd] at hst; simp at hst
      | some d =>
        rw [hd] at hst
        simp only [Result.andThen_ok]
        cases d <;> first | rfl | (simp at hst; done)
    have fin : ∀ {r : AStep}, OpDoes P ρ h w r (do Pure.pure (.value (← Instr.slice t (a'.eval x) (lo.map a'.eval) (hi.map a'.eval) (mx.map a'.eval)))) → OpDoes P ρ h w r (execOp a'.eval o) := by
      intro r hd
      have hex : (execOp a'.eval o).run P w = (do Pure.pure (.value (← Instr.slice t (a'.eval x) (lo.map a'.eval) (hi.map a'.eval) (mx.map a'.eval))) : Sem Next).run P w := by
        unfold execOp; rw [hO]
        simp only [Sem.run_bind, hrun]
      unfold OpDoes at hd ⊢
      rw [hex]; exact hd
    have hst' : (match P.underlying t with | some .string | some (.slice _) => true | _ => false) = true := hst
    split at hr
    · rename_i ad n c hxe
      split at hr
      · rename_i hc
        subst hc
        rw [hxe] at hx
        obtain ⟨v', hx'⟩ : ∃ v', a'.eval x = v' := ⟨_, rfl⟩
        rw [hx'] at hx
        cases hx with
        | slc hlt _ _ => exact absurd hlt (Nat.lt_irrefl _)
        | @opn _ ad' _ c' ho =>
          simp only [Option.map_eq_some_iff] at hr
          obtain ⟨v, hv, rfl⟩ := hr
          apply fin
          rw [hx']
          exact OpDoes.ofDoes (aslice_does hs ho hlo hhi hmx hv)
      · rename_i hc
        apply fin
        rw [hxe] at hx
        exact OpDoes.ofSV hs (SV.slice t hst' (by simp [shut, hc]) hx hlo hhi hmx) hr
    · rename_i v hne
      apply fin
      refine OpDoes.ofSV hs (SV.slice t hst' ?_ hx hlo hhi hmx) hr
      cases hv : a.eval x with
      | slice ad n c =>
        cases ad with
        | some ad => exact absurd hv (hne ad n c)
        | none => rfl
      | _ => rfl
  | fieldAddr t x f =>
    have := OpDoes.ofSV hs (SV.fieldAt t f (ev (x := x) (by simp [Op.operands]))) hr
    unfold execOp; rw [hO]; exact this
  | field t x f =>
    have := OpDoes.ofSV hs (SV.field t f (ev (x := x) (by simp [Op.operands]))) hr
    unfold execOp; rw [hO]; exact this
  | indexAddr t x i =>
    have := OpDoes.ofSV hs (SV.indexAt t (ev (x := x) (by simp [Op.operands])) (ev (x := i) (by simp [Op.operands]))) hr
    unfold execOp; rw [hO]; exact this
  | index t x i =>
    have := OpDoes.ofSV hs (SV.index t (ev (x := x) (by simp [Op.operands])) (ev (x := i) (by simp [Op.operands]))) hr
    unfold execOp; rw [hO]; exact this
  | lookup t x k ok =>
    dsimp only at hr
    split at hr
    case isFalse => cases hr
    rename_i hz
    have hz' : ∀ c e, P.underlying t = some (.map c e) → zok P e = true := fun c e he => by
      have := hz.1; unfold mapZok at this; rw [he] at this; exact this
    have := OpDoes.ofSV hs (SV.lookup t ok hz' (ev (x := x) (by simp [Op.operands])) hz.2 (ev (x := k) (by simp [Op.operands]))) hr
    unfold execOp; rw [hO]; exact this
  | mapUpdate t m k x =>
    dsimp only at hr
    split at hr
    case isFalse => cases hr
    rename_i hk
    have := OpDoes.ofUnit hs (SR.mapUpdate t (ev (x := m) (by simp [Op.operands])) hk (ev (x := k) (by simp [Op.operands])) (ev (x := x) (by simp [Op.operands]))) hr
    unfold execOp; rw [hO]; exact this
  | insert t m k x =>
    dsimp only at hr
    split at hr
    case isFalse => cases hr
    rename_i hk
    have := OpDoes.ofUnit hs (SR.mapUpdate t (ev (x := m) (by simp [Op.operands])) hk (ev (x := k) (by simp [Op.operands])) (ev (x := x) (by simp [Op.operands]))) hr
    unfold execOp; rw [hO]; exact this
  | mapEntry t m k =>
    dsimp only at hr
    split at hr
    case isFalse => cases hr
    rename_i hz
    have hz' : ∀ c e, P.underlying t = some (.map c e) → zok P e = true := fun c e he => by
      have := hz.1; unfold mapZok at this; rw [he] at this; exact this
    have := OpDoes.ofSV hs (SV.mapEntry t hz' (ev (x := m) (by simp [Op.operands])) hz.2 (ev (x := k) (by simp [Op.operands]))) hr
    unfold execOp; rw [hO]; exact this
  | entryStore t m s x =>
    have := OpDoes.ofUnit hs (SR.entryStore t (ev (x := m) (by simp [Op.operands])) (ev (x := s) (by simp [Op.operands])) (ev (x := x) (by simp [Op.operands]))) hr
    unfold execOp; rw [hO]; exact this
  | extract t i =>
    have := OpDoes.ofSV hs (SV.extract i (ev (x := t) (by simp [Op.operands]))) hr
    unfold execOp; rw [hO]; exact this
  | call c =>
    dsimp only at hr
    split at hr
    · rename_i r1 hr1
      cases hr
      exact acall_does hs ha (fun y hy => hmem y hy) hO hr1
    · exact flatCase hr (by intro cs b e; cases e)
  | select cs b =>
    cases hr
  | _ => exact flatCase hr (by intro cs b e; cases e)

end Go.Abs
