/-
The abstract heap: ranges over functions.
-/
import Derived.Test.YtgeoihombkjgnaaGreatDoorBwAbsL
namespace Go.Abs
open Go
variable {P : Program} {Γ : Gl} {ρ : Ren} {α β : Type}

/-- A round of loop l, begun in this heap with these arguments of yield. -/
def ARound (P : Program) (Γ : Gl) (l : Nat) (args : Array Value) (h : H) (Q : Value → H → Prop) : Prop :=
  ∀ ρ0 h0 w0, Glob Γ ρ0 w0 → ∀ ρ l' args' w, Later ρ0 h0 w0 ρ h w → Sim P ρ h w → (ρ l = some none ∨ ∃ B, ρ l = some (some B) ∧ l' = B.b) → RRel P ρ args args' →
    ∃ r : Loop, w.heap[l']? = some (.loop r) ∧ args'.size = r.params.size ∧
      RoundIn Fence.wide 0 P l' r.fn ((r.params.zip args').foldl (fun tmps (t, a) => tmps.setIfInBounds t a) r.tmps) r.assign r.body w
        fun e w1 => ∃ v', e = .returned v' ∧ ∃ ρ1 v h1, Q v h1 ∧ Later ρ0 h0 w0 ρ1 h1 w1 ∧ Sim P ρ1 h1 w1 ∧ VRel P ρ1 v v'

theorem ARound.mono {l : Nat} {args : Array Value} {h : H} {Q Q' : Value → H → Prop} (hc : ARound P Γ l args h Q) (hq : ∀ v h, Q v h → Q' v h) : ARound P Γ l args h Q' :=
  fun ρ0 h0 w0 hG ρ l' args' w hl hs hli ha => by
    obtain ⟨r, h1, h2, h3⟩ := hc ρ0 h0 w0 hG ρ l' args' w hl hs hli ha
    exact ⟨r, h1, h2, h3.mono fun _ _ ⟨v', h1, ρ1, v, h2, h3, h4⟩ => ⟨v', h1, ρ1, v, h2, hq _ _ h3, h4⟩⟩

/-- The call of a yield: of which loop, with what. -/
def ayield (a : Act) (o : Oper) : Option (Nat × Array Value) :=
  match o.op with
  | .call c => if (o.op.operands.all okOperand) = true then
      match c.callee with
      | .value f => match a.eval f with
        | .func (.yield l) x y => if x.isEmpty = true ∧ y.isEmpty = true then some (l, c.args.map a.eval) else none
        | _ => none
      | _ => none
    else none
  | _ => none

theorem ayield_spec {a : Act} {o : Oper} {l : Nat} {args : Array Value} (h : ayield a o = some (l, args)) :
    ∃ c f, o.op = .call c ∧ (o.op.operands.all okOperand) = true ∧ c.callee = .value f ∧ a.eval f = .func (.yield l) #[] #[] ∧ args = c.args.map a.eval := by
  unfold ayield at h
  split at h
  case h_2 => cases h
  rename_i c hop
  split at h
  case isFalse => cases h
  rename_i hok
  split at h
  case h_2 => cases h
  rename_i f hcal
  split at h
  case h_2 => cases h
  rename_i l' x y he
  split at h
  case isFalse => cases h
  rename_i hxy
  cases h
  obtain ⟨hx, hy⟩ := hxy
  rw [Array.isEmpty_iff] at hx hy
  subst hx; subst hy
  exact ⟨c, f, hop, hok, hcal, he, rfl⟩

theorem AOps.round {ops : Array Oper} {i : Nat} {o : Oper} {l : List Nat} {a : Act} {h : H} {li : Nat} {args : Array Value} {K : Act → H → Prop} {R : Value → H → Prop} (hi : ops[i]? = some o)
    (hw : Region.wanted o (yielded ops a.tmps) = true) (hv : ayield a o = some (li, args)) (hc : ARound P Γ li args h R) (hr : ∀ v h2, R v h2 → AOps P Γ ops l (a.put o.dst v) h2 K) : AOps P Γ ops (i :: l) a h K :=
  fun ρ0 h0 w0 hG r hrr ρ a' w hl hs ha => by
    have hw' := (wanted_rel (ops := ops) ha o).trans hw
    simp only [wpOpsIn, hi, hw', if_true]
    obtain ⟨c, f, hop, hok, hcal, he, rfl⟩ := ayield_spec hv
    have hmem : ∀ y ∈ c.operands, okOperand y = true := fun y hy => by
      rw [hop] at hok
      obtain ⟨i, hi, rfl⟩ := Array.getElem_of_mem (show y ∈ (Op.call c).operands from hy)
      exact Array.all_eq_true.1 hok i hi
    have hargs : ∀ y ∈ c.args, okOperand y = true := fun y hy => hmem y (Array.mem_append.2 (.inr hy))
    have hrel := RRel.mapEval ha hargs
    have hfv := ha.eval (hmem f (by unfold Call.operands; rw [hcal]; simp))
    rw [he] at hfv
    obtain ⟨li', hfe, hli⟩ : ∃ li', a'.eval f = .func (.yield li') #[] #[] ∧ (ρ li = some Option.none ∨ ∃ B, ρ li = some (some B) ∧ li' = B.b) := by
      generalize a'.eval f = v at hfv
      cases hfv with
      | func hf => exact absurd rfl (hf _)
      | yld h => exact ⟨_, rfl, h⟩
    obtain ⟨rec, q1, q2, q3⟩ := hc ρ h w (hG.later hl) ρ li' _ w (.refl _ _ _) hs hli hrel
    have hrun : (execOp a'.eval o).run P w = .ok (.round li' rec.fn ((rec.params.zip (c.args.map a'.eval)).foldl (fun tmps (t, a) => tmps.setIfInBounds t a) rec.tmps) rec.assign rec.body) w := by
      have e1 : execOp a'.eval o = Instr.yield li' (c.args.map a'.eval) := by
        unfold execOp; rw [hop]
        simp only [resolve, hcal, Deferred.ofValue, hfe, pure_bind, invoke, Array.empty_append]
      rw [e1]
      exact run_yield q1 q2
    refine wpIn_of hrun (fun d e => by cases e) ⟨fun hd => by simp [Wd, Fence.wide] at hd, ?_⟩
    have q4 : RoundIn (Wd r) 0 P li' rec.fn ((rec.params.zip (c.args.map a'.eval)).foldl (fun tmps (t, a) => tmps.setIfInBounds t a) rec.tmps) rec.assign rec.body w _ := q3
    refine q4.mono ?_
    rintro e w2 ⟨v', rfl, ρ2, v, h2, g1, g2, g3, g4⟩
    exact hr v h2 g1 ρ0 h0 w0 hG r hrr ρ2 _ w2 (hl.trans g2) g3 ((ha.mono g2.le).put o.dst g4)

theorem liveLoop {h : H} {w : World} (hs : Sim P ρ h w) {l l' : Nat} {r : Loop} (hli : ρ l = some none ∨ ∃ B, ρ l = some (some B) ∧ l' = B.b) (hl : h[l]? = some (.loop r)) :
    ∃ B r', ρ l = some (some B) ∧ l' = B.b ∧ B.ro = false ∧ w.heap[l']? = some (.loop r') ∧ ObjRel P ρ B (.loop r) (.loop r') := by
  rcases hli with hd | ⟨B, hB, rfl⟩
  · rw [hs.dead _ hd] at hl; cases hl
  · obtain ⟨o, o', q1, q2, q3⟩ := hs.live _ _ hB
    rw [hl] at q1; cases q1
    cases o' with
    | loop r' => exact ⟨B, r', hB, rfl, q3.2.1, q2, q3⟩
    | _ => exact q3.elim

theorem ren_le_or {ρ ρ' : Ren} (hle : Ren.Le ρ ρ') {l l' : Nat} (h : ρ l = some none ∨ ∃ B, ρ l = some (some B) ∧ l' = B.b) : ρ' l = some none ∨ ∃ B, ρ' l = some (some B) ∧ l' = B.b := by
  rcases h with h | ⟨B, hB, hr⟩
  · rcases hle _ _ h with h | h <;> exact .inl h
  · rcases hle _ _ hB with h | h
    · exact .inr ⟨B, h, hr⟩
    · exact .inl h

/-- What a round leaves pending. -/
def jumpOf : Exit → Option (Option Code)
  | .normal => some none
  | .ret => some (some .ret)
  | .exit id => some (some (.exit id))
  | _ => none

def bindArgs (params : Array Tmp) (args tmps : Array Value) : Array Value := (params.zip args).foldl (fun tmps (t, a) => tmps.setIfInBounds t a) tmps

def endLoopObj (r : Loop) (j : Option Code) : Obj := .loop { r with state := if j.isNone then .ready else .done, pending := j }

def RoundPost (l : Nat) (Q : Value → H → Prop) : Exit → Act → H → Prop := fun e _ h2 =>
  ∃ j, jumpOf e = some j ∧ ∃ r2, h2[l]? = some (.loop r2) ∧ Q (.bool j.isNone) (h2.setIfInBounds l (endLoopObj r2 j))

theorem bindArgs_rel {params : Array Tmp} {args args' tmps tmps' : Array Value} (ha : RRel P ρ args args') (ht : RRel P ρ tmps tmps') : RRel P ρ (bindArgs params args tmps) (bindArgs params args' tmps') := by
  unfold bindArgs
  rw [← Array.foldl_toList, ← Array.foldl_toList, Array.toList_zip, Array.toList_zip]
  obtain ⟨pl⟩ := params
  have hlen : args.toList.length = args'.toList.length := by simpa using ha.1
  have hel : ∀ (i : Nat) (u u' : Value), args.toList[i]? = some u → args'.toList[i]? = some u' → VRel P ρ u u' := fun i u u' h1 h2 => ha.2 i u u' (by simpa using h1) (by simpa using h2)
  generalize args.toList = xs at hlen hel
  generalize args'.toList = xs' at hlen hel
  simp only
  induction pl generalizing xs xs' tmps tmps' with
  | nil => exact ht
  | cons p pl ih =>
    cases xs with
    | nil =>
      cases xs' with
      | nil => exact ht
      | cons x' xs' => simp at hlen
    | cons x xs =>
      cases xs' with
      | nil => simp at hlen
      | cons x' xs' =>
        simp only [List.zip_cons_cons, List.foldl_cons]
        exact ih (ht.set p (hel 0 x x' rfl rfl)) xs xs' (by simpa using hlen) fun i u u' h1 h2 => hel (i + 1) u u' (by simpa using h1) (by simpa using h2)

theorem ARound.body {l : Nat} {args : Array Value} {h : H} {r : Loop} {Q : Value → H → Prop} (hl : h[l]? = some (.loop r)) (hn : args.size = r.params.size)
    (hc : ACode P Γ.round r.assign { tmps := bindArgs r.params args r.tmps, defers := [] } h (andThen (fun a1 h1 => ∃ r1, h1[l]? = some (.loop r1) ∧ r1.state = .ready ∧
      ACode P Γ.round r.body a1 (h1.setIfInBounds l (.loop { r1 with state := .busy })) (RoundPost l Q)) (fun _ _ _ => False))) : ARound P Γ l args h Q := by
  intro ρ0 h0 w0 hG ρ l' args' w hlat hs hli ha
  obtain ⟨B, r', hB, rfl, hro, hw', hobj⟩ := liveLoop hs hli hl
  obtain ⟨o1, o2, o3, o4, o5, o6, o7, o8⟩ := hobj
  have hbind := bindArgs_rel (params := r.params) ha o5
  refine ⟨r', hw', by rw [o6, ← ha.1, hn], roundIn_of_wpIn trivial ?_⟩
  have hG2 := hG.later hlat
  have := hc ρ h w hG2 (some B.b) (fun h => by cases h) ρ { tmps := bindArgs r.params args' r'.tmps, defers := [] } w (.refl _ _ _) hs ⟨hbind, .nil⟩
  rw [o6, o7]
  refine wpIn_mono this ?_
  rintro e a1 w1 ⟨g0, ρ1, a2, h1, g1, g2, g3, g4⟩
  cases e with
  | normal =>
    obtain ⟨r1, k1, k2, k3⟩ := g1
    obtain ⟨B1, r1', j1, j2, j3, j4, j5⟩ := liveLoop g3 (ren_le_or g2.le (.inr ⟨B, hB, rfl⟩)) k1
    obtain ⟨p1, p2, p3, p4, p5, p6, p7, p8⟩ := j5
    refine ⟨_, run_beginRound j4 (p3.trans k2), ?_⟩
    rw [j2] at j4 ⊢
    obtain ⟨s1, s2⟩ := g3.setObj (o := .loop { r1 with state := .busy }) (o' := .loop { r1' with state := .busy }) j1 j3 ⟨p1, p2, rfl, p4, p5, p6, p7, p8⟩
    rw [o8]
    have hbody := k3 ρ h w hG2 (some B1.b) (fun h => by cases h) ρ1 a1 _ (g2.trans s2) s1 g4
    refine wpIn_mono hbody ?_
    rintro e a3 w3 ⟨q0, ρ2, a4, h2, ⟨j, q1, r2, q2, q3⟩, q4, q5, q6⟩
    obtain ⟨B2, r2', t1, t2, t3, t4, t5⟩ := liveLoop q5 (ren_le_or q4.le (.inr ⟨B, hB, rfl⟩)) q2
    rw [j2] at t2
    rw [j2, t2] at t4
    rw [t2]
    obtain ⟨z1, z2, z3, z4, z5, z6, z7, z8⟩ := t5
    obtain ⟨y1, y2⟩ := q5.setObj (o := endLoopObj r2 j) (o' := endLoopObj r2' j) t1 t3 ⟨z1, z2, rfl, rfl, z5, z6, z7, z8⟩
    have fin : ∃ v w', (Instr.endRound B2.b j).run P w3 = .ok v w' ∧ ∃ v', Ending.returned v = .returned v' ∧ ∃ ρ1 v h1, Q v h1 ∧ Later ρ0 h0 w0 ρ1 h1 w' ∧ Sim P ρ1 h1 w' ∧ VRel P ρ1 v v' :=
      ⟨_, _, run_endRound j t4, _, rfl, ρ2, _, _, q3, (hlat.trans q4).trans y2, y1, .bool _⟩
    cases e with
    | normal => cases q1; exact fin
    | ret => cases q1; exact fin
    | exit id => cases q1; exact fin
    | _ => cases q1
  | exit id => exact g1.elim
  | ret => exact g1.elim
  | _ => cases g0

def mark (a : Act) (n : Nat) : Act := { a with defers := { target := .collected n, args := #[] } :: a.defers }

def loopObj (n : Nat) (a : Act) (ps : Array Tmp) (assign body : Code) : Obj := .loop { state := .ready, pending := none, fn := 0, tmps := a.tmps, params := ps, assign, body, defers := n }

def rangeHeap (h : H) (a : Act) (ps : Array Tmp) (assign body : Code) : H := (h.push (.deferred (some []))).push (loopObj h.size a ps assign body)

def doneLoop (r : Loop) : Obj := .loop { r with state := .exhausted }

theorem ACode.rangeFunc {g : Operand} {ps : Array Tmp} {assign body : Code} {a : Act} {h : H} {Q : Exit → Act → H → Prop} {R : Value → H → Prop} {f : FuncId} {first cap : Array Value} {fn : Func}
    (hr0 : Γ.rnd = false) (hg : okOperand g = true) (he : a.eval g = .func (.func f) first cap) (hf : P.funcs[f]? = some fn) (hb : fn.body.isSome = true) (hn : fn.name ≠ "runtime.NumGoroutine")
    (hc : ACall P Γ f (first ++ #[.func (.yield (h.size + 1)) #[] #[]] ++ cap) (rangeHeap h a ps assign body) R)
    (hk : ∀ v h1, R v h1 → ∃ r, h1[h.size + 1]? = some (.loop r) ∧ r.state ≠ .busy ∧
      match r.pending with
      | none => Q .normal (mark a h.size) (h1.setIfInBounds (h.size + 1) (doneLoop r))
      | some c => ACode P Γ c (mark a h.size) (h1.setIfInBounds (h.size + 1) (doneLoop r)) Q) : ACode P Γ (.rangeFunc g ps assign body) a h Q := by
  intro ρ0 h0 w0 hG r hrr ρ a' w hl hs ha
  cases hrr hr0
  refine wpIn_rangeFunc fun fnn _ => ?_
  have hfv := ha.eval hg
  rw [he] at hfv
  obtain ⟨first', cap', hfe', hfr, hcr⟩ : ∃ first' cap', a'.eval g = .func (.func f) first' cap' ∧ RRel P ρ first first' ∧ RRel P ρ cap cap' := by
    generalize a'.eval g = v at hfv
    cases hfv with
    | func _ h2 h3 h4 h5 => exact ⟨_, _, rfl, ⟨h2, h3⟩, ⟨h4, h5⟩⟩
  -- the two blocks
  obtain ⟨s1, l1⟩ := hs.push (.deferred (some [])) (.deferred (some [])) ⟨w.heap.size, 0, false, 0, 0⟩ rfl ⟨rfl, rfl, rfl, .inr rfl⟩
  let w1 := w.alloc (.deferred (some []))
  let lo : Loop := { state := .ready, pending := none, fn := fnn, tmps := a'.tmps, params := ps, assign, body, defers := w.heap.size }
  obtain ⟨s2, l2⟩ := s1.push (loopObj h.size a ps assign body) (.loop lo) ⟨w1.heap.size, 0, false, 0, 0⟩ rfl
    ⟨rfl, rfl, rfl, rfl, ha.1.mono (l1.le.trans (Ren.le_set s1.fresh)), rfl, rfl, rfl⟩
  have hsz : (h.push (.deferred (some []))).size = h.size + 1 := by simp
  have hwsz : w1.heap.size = w.heap.size + 1 := by simp [w1]
  rw [hsz] at s2 l2
  generalize hρ2 : (ρ.set h.size (some ⟨w.heap.size, 0, false, 0, 0⟩)).set (h.size + 1) (some ⟨w1.heap.size, 0, false, 0, 0⟩) = ρ2 at s2 l2
  have hl12 := l1.trans l2
  have hloop : ρ2 (h.size + 1) = some none ∨ ∃ B, ρ2 (h.size + 1) = some (some B) ∧ w.heap.size + 1 = B.b := .inr ⟨⟨w1.heap.size, 0, false, 0, 0⟩, by rw [← hρ2, Ren.set_same], hwsz.symm⟩
  have hmark : ρ2 h.size = some none ∨ ∃ B, ρ2 h.size = some (some B) ∧ w.heap.size = B.b := .inr ⟨⟨w.heap.size, 0, false, 0, 0⟩, by rw [← hρ2, Ren.set_ne _ _ (by omega), Ren.set_same], rfl⟩
  have hargs : RRel P ρ2 (first ++ #[.func (.yield (h.size + 1)) #[] #[]] ++ cap) (first' ++ #[.func (.yield (w.heap.size + 1)) #[] #[]] ++ cap') := by
    refine (fun hy : RRel P ρ2 #[.func (.yield (h.size + 1)) #[] #[]] #[.func (.yield (w.heap.size + 1)) #[] #[]] => ((hfr.mono hl12.le).append hy).append (hcr.mono hl12.le)) ⟨rfl, fun i u u' hu hu' => ?_⟩
    cases i with
    | zero => simp at hu hu'; subst hu; subst hu'; exact .yld hloop
    | succ i => simp at hu
  have hcall := hc ρ2 _ _ (hG.later (hl.trans hl12)) ρ2 _ _ (.refl _ _ _) s2 hargs
  have hb' : fn.body.isNone = false := by simpa [Option.isNone_iff_eq_none, Option.isSome_iff_ne_none] using hb
  have hn' : (fn.name == "runtime.NumGoroutine") = false := by simpa using hn
  refine ⟨w.heap.size + 1, [{ target := .collected w.heap.size, args := #[] }], w1.alloc (.loop lo), ⟨.fn (.func f) cap', first' ++ #[.func (.yield (w.heap.size + 1)) #[] #[]]⟩, w1.alloc (.loop lo), f, first' ++ #[.func (.yield (w.heap.size + 1)) #[] #[]] ++ cap', w1.alloc (.loop lo), run_enterLoop_outer _ _ _ _ _, ?_, fun _ _ => trivial, ?_, fun hd => by simp [Wd, Fence.wide] at hd, ?_⟩
  · simp only [resolve, hfe', Deferred.ofValue]
    simp [Act.eval]
  · simp only [invoke, callFunc, Sem.run_bind, run_program, Result.andThen_ok, hf, hn', hb']
    rfl
  · have hcall2 : CallsIn (Wd none) 0 P f _ _ _ := (callsIn_wide (n := 0)).2 hcall
    refine hcall2.mono ?_
    rintro e w3 ⟨v', rfl, ρ3, v, h1, g1, g2, g3, g4⟩
    obtain ⟨rr, k1, k2, k3⟩ := hk v h1 g1
    obtain ⟨B, r', j1, j2, j3, j4, j5⟩ := liveLoop g3 (ren_le_or g2.le hloop) k1
    obtain ⟨p1, p2, p3, p4, p5, p6, p7, p8⟩ := j5
    have hst : r'.state ≠ .busy := by rw [p3]; exact k2
    rw [j2] at j4
    obtain ⟨y1, y2⟩ := g3.setObj (o := doneLoop rr) (o' := doneLoop r') j1 j3 ⟨p1, p2, rfl, p4, p5, p6, p7, p8⟩
    have hact : ActRel P ρ3 (mark a h.size) { a' with defers := [{ target := .collected w.heap.size, args := #[] }] ++ a'.defers } :=
      ⟨ha.1.mono (hl12.le.trans g2.le), .cons (ren_le_or g2.le hmark) (ha.2.mono (hl12.le.trans g2.le))⟩
    have hend := run_endLoop (P := P) j4 hst
    rw [← j2] at hend
    have hlat := ((hl.trans hl12).trans g2).trans y2
    rw [← j2] at y1 hlat
    obtain ⟨W, hW⟩ : ∃ W, W = w3.putObj (w.heap.size + 1) (doneLoop r') := ⟨_, rfl⟩
    replace hend : (Instr.endLoop (w.heap.size + 1)).run P w3 = .ok r'.pending W := by rw [hW]; exact hend
    replace hlat : Later ρ0 h0 w0 ρ3 (h1.setIfInBounds (h.size + 1) (doneLoop rr)) W := by rw [hW]; exact hlat
    replace y1 : Sim P ρ3 (h1.setIfInBounds (h.size + 1) (doneLoop rr)) W := by rw [hW]; exact y1
    cases hp : rr.pending with
    | none =>
      rw [hp] at k3
      rw [p4.trans hp] at hend
      refine ⟨none, _, hend, ?_⟩
      exact ⟨rfl, ρ3, _, _, k3, hlat, y1, hact⟩
    | some c =>
      rw [hp] at k3
      rw [p4.trans hp] at hend
      refine ⟨some c, _, hend, ?_⟩
      exact k3 ρ0 h0 w0 hG none hrr ρ3 _ _ hlat y1 hact

end Go.Abs
