import Derived.Test.YtamnlkconfannaaGreatDoorBwB8
/-
Calls without a contract: walked into, or counted; stores into rows whose length is not known by counting.
-/
namespace Go.Abs
open Go
variable {P : Program} {Γ : Gl} {ρ : Ren} {α β : Type}

def enterA (P : Program) (a : FA) (h : FH) (o : Oper) : Array Value := match runFI P a.eval o h (fi P o) with | some (.enter _ args _) => args | _ => #[]

/-- A call that is walked into. -/
theorem OT.callIn {ops : Array Oper} {i : Nat} {l : List Nat} {a : FA} {h : FH} {K : FA → FH → Prop} {fn : Func} {c : Code} (f : FuncId) (hf : P.funcs[f]? = some fn) (hb : fn.body = some c)
    (hi : decide (i < ops.size) = true) (hw : Region.wanted (ops.getD i default) (yieldedF ops a) = true)
    (hv : runFI P a.eval (ops.getD i default) h (fi P (ops.getD i default)) = some (.enter f (enterA P a h (ops.getD i default)) h))
    (hc : CT P (Γ.at h.n) c (startF fn (enterA P a h (ops.getD i default))) h (RetF P fn fun v h2 => OT P Γ ops l (a.put (ops.getD i default).dst v) h2 K)) : OT P Γ ops (i :: l) a h K :=
  OT.call f _ hi hw hv (FT.body hf hb hc) fun _ _ hr => hr

theorem DX.callIn {ops : Array Oper} {i : Nat} {m : List (Nat × Bool)} {F : List FactF} {a : FA} {h : FH} {K : FA → FH → Prop} {fn : Func} {c : Code} (f : FuncId) (hf : P.funcs[f]? = some fn) (hb : fn.body = some c)
    (hi : decide (i < ops.size) = true) (hw : Region.wanted (ops.getD i default) (yieldedF ops a) = true)
    (hv : runFI P a.eval (ops.getD i default) h (fi P (ops.getD i default)) = some (.enter f (enterA P a h (ops.getD i default)) h))
    (hc : CT P (Γ.at h.n) c (startF fn (enterA P a h (ops.getD i default))) h (RetF P fn fun v h2 => (Ext h.toH h2.toH ∨ (F.filter fun f => !waits ops i f.i) = [] ∨ ((F.filter fun f => !waits ops i f.i).map fun f => some f.v) = (F.filter fun f => !waits ops i f.i).map (gotF P ops · h2)) ∧
      DX P Γ ops m (F.filter fun f => !waits ops i f.i) (a.put (ops.getD i default).dst v) h2 K)) :
    DX P Γ ops ((i, false) :: m) F a h K :=
  DX.callX f _ hi hw hv (FT.body hf hb hc) fun _ _ hr => hr

/-- A call that is counted. -/
theorem OT.callEv {ops : Array Oper} {i : Nat} {l : List Nat} {a : FA} {h : FH} {K : FA → FH → Prop} {γ : Known} (hγ : KnownOk P Γ γ) {orc : CallerF} (hm : P.follows .mixedOrders = true) (ho : CallableF P Γ orc) (n : Nat) (f : FuncId)
    (hi : decide (i < ops.size) = true) (hw : Region.wanted (ops.getD i default) (yieldedF ops a) = true)
    (hv : runFI P a.eval (ops.getD i default) h (fi P (ops.getD i default)) = some (.enter f (enterA P a h (ops.getD i default)) h))
    (hs : (evCallF P γ orc n f (enterA P a h (ops.getD i default)) h).isSome = true) (hy : Nat.blt f YB = true)
    (hk : OT P Γ ops l (a.put (ops.getD i default).dst (fV P γ orc n f (enterA P a h (ops.getD i default)) h)) (fH P γ orc n f (enterA P a h (ops.getD i default)) h) K) : OT P Γ ops (i :: l) a h K :=
  OT.call f _ hi hw hv (FT.evs (Q := fun v h2 => OT P Γ ops l (a.put (ops.getD i default).dst v) h2 K) hγ hm ho n hs hy hk) fun _ _ hr => hr

theorem DX.callEv {ops : Array Oper} {i : Nat} {m : List (Nat × Bool)} {F : List FactF} {a : FA} {h : FH} {K : FA → FH → Prop} {γ : Known} (hγ : KnownOk P Γ γ) {orc : CallerF} (hm : P.follows .mixedOrders = true) (ho : CallableF P Γ orc) (n : Nat) (f : FuncId)
    (hi : decide (i < ops.size) = true) (hw : Region.wanted (ops.getD i default) (yieldedF ops a) = true)
    (hv : runFI P a.eval (ops.getD i default) h (fi P (ops.getD i default)) = some (.enter f (enterA P a h (ops.getD i default)) h))
    (hs : (evCallF P γ orc n f (enterA P a h (ops.getD i default)) h).isSome = true) (hy : Nat.blt f YB = true)
    (hk : (Ext h.toH (fH P γ orc n f (enterA P a h (ops.getD i default)) h).toH ∨ (F.filter fun f => !waits ops i f.i) = [] ∨ ((F.filter fun f => !waits ops i f.i).map fun f => some f.v) = (F.filter fun f => !waits ops i f.i).map (gotF P ops · (fH P γ orc n f (enterA P a h (ops.getD i default)) h))) ∧
      DX P Γ ops m (F.filter fun f => !waits ops i f.i) (a.put (ops.getD i default).dst (fV P γ orc n f (enterA P a h (ops.getD i default)) h)) (fH P γ orc n f (enterA P a h (ops.getD i default)) h) K) :
    DX P Γ ops ((i, false) :: m) F a h K :=
  DX.callX f _ hi hw hv (FT.evs (Q := fun v h2 => (Ext h.toH h2.toH ∨ (F.filter fun f => !waits ops i f.i) = [] ∨ ((F.filter fun f => !waits ops i f.i).map fun f => some f.v) = (F.filter fun f => !waits ops i f.i).map (gotF P ops · h2)) ∧
      DX P Γ ops m (F.filter fun f => !waits ops i f.i) (a.put (ops.getD i default).dst v) h2 K) hγ hm ho n hs hy hk) fun _ _ hr => hr

/-! Stores -/
def putAt (cs : Array Value) (o : Nat) (vs : List Value) : Array Value := ⟨cs.toList.take o ++ vs ++ cs.toList.drop (o + vs.length)⟩

theorem putAt_size {cs : Array Value} {o : Nat} {vs : List Value} (h : o + vs.length ≤ cs.size) : (putAt cs o vs).size = cs.size := by
  have : cs.toList.length = cs.size := rfl
  show (cs.toList.take o ++ vs ++ cs.toList.drop (o + vs.length)).length = _
  simp only [List.length_append, List.length_take, List.length_drop]
  omega

theorem putAt_cons {cs : Array Value} {o : Nat} {v : Value} {vs : List Value} (h : o + (vs.length + 1) ≤ cs.size) : putAt (cs.setIfInBounds o v) (o + 1) vs = putAt cs o (v :: vs) := by
  have hl : cs.toList.length = cs.size := rfl
  have e : (cs.setIfInBounds o v).toList = cs.toList.take o ++ v :: cs.toList.drop (o + 1) := by
    rw [Array.toList_setIfInBounds, List.set_eq_take_append_cons_drop, if_pos (by omega)]
  unfold putAt
  congr 1
  rw [e]
  have hl2 : (cs.toList.take o).length = o := by rw [List.length_take]; omega
  have e1 : (cs.toList.take o ++ v :: cs.toList.drop (o + 1)).take (o + 1) = cs.toList.take o ++ [v] := by
    rw [List.take_append, hl2]
    have : o + 1 - o = 1 := by omega
    rw [this, List.take_of_length_le (by omega)]
    rfl
  have e2 : (cs.toList.take o ++ v :: cs.toList.drop (o + 1)).drop (o + 1 + vs.length) = cs.toList.drop (o + (v :: vs).length) := by
    rw [List.drop_append, hl2, List.drop_eq_nil_of_le (by omega)]
    have : o + 1 + vs.length - o = vs.length + 1 := by omega
    rw [this, List.nil_append, List.drop_succ_cons, List.drop_drop]
    congr 1
    simp only [List.length_cons]; omega
  rw [e1, e2]
  simp

theorem arun_storeCells_row {b : Nat} {e : TypeId} : ∀ (vs : List Value) (o i : Nat) (cs : Array Value) (h : H), h[b]? = some (.cells cs e (0, 0)) → o + i + vs.length ≤ cs.size → vs.all Value.oneCell' = true →
    arun P (Go.storeCells ⟨b, o, none⟩ vs i) h = some ((), h.setIfInBounds b (.cells (putAt cs (o + i) vs) e (0, 0)))
  | [], o, i, cs, h, hg, _, _ => by
    simp only [Go.storeCells, arun_pure, Option.some.injEq, Prod.mk.injEq, true_and]
    have e1 : putAt cs (o + i) [] = cs := by unfold putAt; simp
    rw [e1]
    apply Array.ext_getElem?
    intro j
    rw [Array.getElem?_setIfInBounds]
    split
    · subst_vars
      rename_i hj
      split
      · exact hg
      · rw [Array.getElem?_eq_none (by omega)]
    · rfl
  | v :: vs, o, i, cs, h, hg, hle, hv => by
    rw [List.all_cons, Bool.and_eq_true] at hv
    have hb : b < h.size := (Array.getElem?_eq_some_iff.1 hg).1
    have hlen : o + i + vs.length + 1 ≤ cs.size := by simpa [Nat.add_assoc] using hle
    have hadd : (⟨b, o, none⟩ : Addr).add i = ⟨b, o + i, none⟩ := by rw [add_spot rfl]
    have hfree : free h ⟨b, o + i, none⟩ = true := by
      unfold free
      simp only [hg]
      simp
      omega
    have hset : setCell h ⟨b, o + i, none⟩ v = h.setIfInBounds b (.cells (cs.setIfInBounds (o + i) v) e (0, 0)) := by
      unfold setCell
      apply Array.ext_getElem?
      intro j
      rw [Array.getElem?_modify, Array.getElem?_setIfInBounds]
      by_cases hj : b = j
      · subst hj
        rw [if_pos rfl, if_pos rfl, if_pos hb, hg]; rfl
      · rw [if_neg hj, if_neg hj]
    unfold Go.storeCells
    simp only [arun_bind, hadd, arun_store, hv.1, hfree, and_self, if_true, Option.bind_some, hset]
    have hg2 : (h.setIfInBounds b (.cells (cs.setIfInBounds (o + i) v) e (0, 0)))[b]? = some (.cells (cs.setIfInBounds (o + i) v) e (0, 0)) := by
      rw [Array.getElem?_setIfInBounds, if_pos rfl, if_pos hb]
    rw [arun_storeCells_row vs o (i + 1) _ _ hg2 (by rw [Array.size_setIfInBounds]; omega) hv.2]
    congr 2
    rw [← Nat.add_assoc, putAt_cons (by omega)]
    apply Array.ext_getElem?
    intro j
    simp only [Array.getElem?_setIfInBounds, Array.size_setIfInBounds]
    by_cases hj : b = j <;> simp [hj]

def storeT (o : Oper) : TypeId := match o.op with | .store t _ _ => t | _ => 0

theorem arun_storeAt_row {t : TypeId} {b o k : Nat} {cs : Array Value} {v : Value} {h : H} {e : TypeId} (hk : (P.info? t).map (·.size) = some k) (hg : h[b]? = some (.cells cs e (0, 0))) (hv : v.cells.toList.length = k) (hn : o + k ≤ cs.size) (ho : v.cells.toList.all Value.oneCell' = true) :
    arun P (Instr.storeAt t (.pointer (some ⟨b, o, none⟩)) v) h = some ((), h.setIfInBounds b (.cells (putAt cs o v.cells.toList) e (0, 0))) := by
  obtain ⟨inf, hinf, hsz⟩ : ∃ inf, P.info? t = some inf ∧ inf.size = k := by
    cases hq : P.info? t with
    | none => rw [hq] at hk; cases hk
    | some inf => rw [hq] at hk; exact ⟨inf, rfl, Option.some.inj hk⟩
  have hv2 : v.cells.size = k := hv
  have e1 := arun_storeCells_row (P := P) (b := b) v.cells.toList o 0 cs h hg (by omega) ho
  unfold Instr.storeAt Instr.sureAddr Go.storeVar Go.sizeOf
  simp [arun_bind, hinf, hsz, hv2, e1]

/-- An operation by what it does at the heap itself. -/
theorem OT.stepH {ops : Array Oper} {i : Nat} {l : List Nat} {a : FA} {h h1 : FH} {K : FA → FH → Prop} (v : Value) (hi : decide (i < ops.size) = true) (hw : Region.wanted (ops.getD i default) (yieldedF ops a) = true)
    (hv : aop P a.toA (ops.getD i default) h.toH = some (.val v h1.toH)) (hr : OT P Γ ops l (a.put (ops.getD i default).dst v) h1 K) : OT P Γ ops (i :: l) a h K := by
  obtain ⟨a1, h2, h3, h4⟩ := hr
  rw [FA.put_toA] at h3
  exact ⟨a1, h2, AOps.val (getD_some hi) (wantF hw) hv h3, h4⟩

theorem DX.stepH {ops : Array Oper} {i : Nat} {m : List (Nat × Bool)} {F : List FactF} {a : FA} {h h1 : FH} {K : FA → FH → Prop} (v : Value) (hi : decide (i < ops.size) = true) (hw : Region.wanted (ops.getD i default) (yieldedF ops a) = true)
    (hv : aop P a.toA (ops.getD i default) h.toH = some (.val v h1.toH)) (hF : (F.filter fun f => !waits ops i f.i) = []) (hk : DX P Γ ops m [] (a.put (ops.getD i default).dst v) h1 K) : DX P Γ ops ((i, false) :: m) F a h K := by
  intro _
  obtain ⟨a2, h2, h3, h4⟩ := hk fun f hf => by cases hf
  refine ⟨a2, h2, ?_, h4⟩
  rw [FA.put_toA] at h3
  unfold DPlan
  simp only [getD_some hi, Bool.false_eq_true, if_false]
  unfold AOp
  simp only [getD_some hi, wantF hw, if_true]
  refine .inl ⟨v, h1.toH, hv, ?_⟩
  rw [keeps_factsF, hF]
  exact ⟨fun x hx => (by cases hx), h3⟩

theorem aop_storeRow {a : FA} {h : FH} {o : Oper} {b off k : Nat} {cs : Array Value} {v : Value} {e : TypeId}
    (hv : runFI P a.eval o h (fi P o) = unitsF (arunF P (Instr.storeAt (storeT o) (.pointer (some ⟨b, off, none⟩)) v) h))
    (hk : (P.info? (storeT o)).map (·.size) = some k) (hg : h.get b = some (.cells cs e (0, 0))) (hl : v.cells.toList.length = k) (hn : off + k ≤ cs.size) (h1 : v.cells.toList.all Value.oneCell' = true) :
    aop P a.toA o h.toH = some (.val undef (h.set b (.cells (putAt cs off v.cells.toList) e (0, 0))).toH) := by
  have e2 := arun_storeAt_row (P := P) (o := off) hk ((FH.get_toH h b).trans hg) hl hn h1
  rw [arunF_toH] at e2
  cases hx : arunF P (Instr.storeAt (storeT o) (.pointer (some ⟨b, off, none⟩)) v) h with
  | none => rw [hx] at e2; cases e2
  | some r =>
    rw [hx] at e2 hv
    obtain ⟨r1, r2⟩ := r
    have e3 : (r1, r2.toH) = ((), h.toH.setIfInBounds b (.cells (putAt cs off v.cells.toList) e (0, 0))) := Option.some.inj e2
    injection e3 with e4 e5
    rw [runFI_sound hv]
    show some (AStep.val undef r2.toH) = _
    rw [e5, FH.set_toH]

/-- A store into a row. -/
theorem OT.storeR {ops : Array Oper} {i : Nat} {l : List Nat} {a : FA} {h : FH} {K : FA → FH → Prop} (b off k : Nat) (cs : Array Value) (v : Value) (e : TypeId) (hi : decide (i < ops.size) = true) (hw : Region.wanted (ops.getD i default) (yieldedF ops a) = true)
    (hv : runFI P a.eval (ops.getD i default) h (fi P (ops.getD i default)) = unitsF (arunF P (Instr.storeAt (storeT (ops.getD i default)) (.pointer (some ⟨b, off, none⟩)) v) h))
    (hk : (P.info? (storeT (ops.getD i default))).map (·.size) = some k) (hg : h.get b = some (.cells cs e (0, 0))) (hl : v.cells.toList.length = k) (h1 : v.cells.toList.all Value.oneCell' = true) (hn : off + k ≤ cs.size)
    (cs1 : Array Value) (hcs : putAt cs off v.cells.toList = cs1)
    (hr : OT P Γ ops l (a.put (ops.getD i default).dst undef) (h.set b (.cells cs1 e (0, 0))) K) : OT P Γ ops (i :: l) a h K :=
  OT.stepH undef hi hw (aop_storeRow hv hk hg hl hn h1) (by rw [hcs]; exact hr)

theorem DX.storeR {ops : Array Oper} {i : Nat} {m : List (Nat × Bool)} {F : List FactF} {a : FA} {h : FH} {K : FA → FH → Prop} (b off k : Nat) (cs : Array Value) (v : Value) (e : TypeId) (hi : decide (i < ops.size) = true) (hw : Region.wanted (ops.getD i default) (yieldedF ops a) = true)
    (hv : runFI P a.eval (ops.getD i default) h (fi P (ops.getD i default)) = unitsF (arunF P (Instr.storeAt (storeT (ops.getD i default)) (.pointer (some ⟨b, off, none⟩)) v) h))
    (hk : (P.info? (storeT (ops.getD i default))).map (·.size) = some k) (hg : h.get b = some (.cells cs e (0, 0))) (hl : v.cells.toList.length = k) (h1 : v.cells.toList.all Value.oneCell' = true) (hn : off + k ≤ cs.size)
    (cs1 : Array Value) (hcs : putAt cs off v.cells.toList = cs1) (hF : (F.filter fun f => !waits ops i f.i) = [])
    (hr : DX P Γ ops m [] (a.put (ops.getD i default).dst undef) (h.set b (.cells cs1 e (0, 0))) K) : DX P Γ ops ((i, false) :: m) F a h K :=
  DX.stepH undef hi hw (aop_storeRow hv hk hg hl hn h1) hF (by rw [hcs]; exact hr)

theorem rowOf_append {α : Type} (enc : α → List Value) (xs ys : List α) : (rowOf enc (xs ++ ys)).toList = (rowOf enc xs).toList ++ (rowOf enc ys).toList := by
  unfold rowOf; simp

theorem putAt_row {α : Type} {enc : α → List Value} {k : Nat} (hk : ∀ x, (enc x).length = k) (xs : List α) (i o : Nat) (x : α) (ho : o = i * k) (h : i < xs.length) : putAt (rowOf enc xs) o (enc x) = rowOf enc (xs.set i x) := by
  subst ho
  have h1 := drop_flat hk xs i (by omega)
  have h2 := drop_flat hk xs (i + 1) (by omega)
  have ht : (xs.flatMap enc).take (i * k) = (xs.take i).flatMap enc := by
    have e := List.take_append_drop (i * k) (xs.flatMap enc)
    have e2 : (xs.take i).flatMap enc ++ (xs.drop i).flatMap enc = xs.flatMap enc := by rw [← List.flatMap_append, List.take_append_drop]
    have hl : ((xs.take i).flatMap enc).length = i * k := by
      have := rowOf_size hk (xs.take i)
      rw [List.length_take, Nat.min_eq_left (by omega)] at this
      exact this
    rw [← e2, List.take_append_of_le_length (by omega), List.take_of_length_le (by omega)]
  unfold putAt rowOf
  congr 1
  show (xs.flatMap enc).take (i * k) ++ enc x ++ (xs.flatMap enc).drop (i * k + (enc x).length) = _
  rw [ht, hk x, ← Nat.succ_mul, h2, List.set_eq_take_append_cons_drop, if_pos h, List.flatMap_append, List.flatMap_cons, List.append_assoc]

end Go.Abs
