import Derived.Test.YtamnlkconfannaaGreatDoorBwB4
import Derived.OrdersHeld
/-
The abstract heap: a region that draws its order, by one plan.
-/
namespace Go.Abs
open Go
variable {P : Program} {Γ : Gl} {ρ : Ren} {α β : Type}

/-- In this frame and this heap the operation finds v, and leaves the heap. -/
def Finds (P : Program) (ops : Array Oper) (o : Oper) (v : Value) (a : Act) (h : H) : Prop :=
  (Region.wanted o (yielded ops a.tmps) = true ∧ aop P a o h = some (.val v h)) ∨ (Region.wanted o (yielded ops a.tmps) = false ∧ v = undef)

theorem looksAt_mem {ops : Array Oper} {o : Oper} {t : Tmp} (h : Operand.tmp t ∈ o.op.operands) : t ∈ o.looksAt ops := by
  unfold Oper.looksAt
  refine List.mem_append.2 (.inl ?_)
  rw [List.mem_filterMap]
  exact ⟨.tmp t, by simpa using h, rfl⟩

theorem aop_put {ops : Array Oper} {o : Oper} {a : Act} {dst : Option Tmp} {v : Value} {h : H} (hd : ∀ d, dst = some d → d ∉ o.looksAt ops) : aop P (a.put dst v) o h = aop P a o h := by
  refine aop_congr fun x hx => ?_
  refine Act.eval_put fun d hd2 => ?_
  rintro rfl
  exact hd d hd2 (looksAt_mem hx)

theorem Finds.put {ops : Array Oper} {o : Oper} {u v : Value} {a : Act} {h : H} {dst : Option Tmp} (hd : ∀ d, dst = some d → d ∉ o.looksAt ops) (hf : Finds P ops o v a h) : Finds P ops o v (a.put dst u) h := by
  unfold Finds at *
  rw [wanted_put o a dst u hd, aop_put hd]
  exact hf

theorem Finds.unput {ops : Array Oper} {o : Oper} {u v : Value} {a : Act} {h : H} {dst : Option Tmp} (hd : ∀ d, dst = some d → d ∉ o.looksAt ops) (hf : Finds P ops o v (a.put dst u) h) : Finds P ops o v a h := by
  unfold Finds at *
  rw [wanted_put o a dst u hd, aop_put hd] at hf
  exact hf

theorem AOp_put {ops : Array Oper} {j : Nat} {oi oj : Oper} {v : Value} (hj : ops[j]? = some oj) (hap : oi.apart ops oj = true) {K : Act → H → Prop} {a : Act} {h : H}
    (ho : AOp P Γ ops j K (a.put oi.dst v) h) : AOp P Γ ops j (fun a' h' => (∃ u, a' = a.put oj.dst u) ∧ K (a'.put oi.dst v) h') a h := by
  obtain ⟨h1, h2, h3⟩ := Oper.apart_spec hap
  unfold AOp at *
  simp only [hj] at *
  rw [wanted_put oj a oi.dst v h1, aop_put h1] at ho
  split
  · rename_i hw
    simp only [hw, if_true] at ho
    rcases ho with ⟨u, g1, e1, e2⟩ | ⟨f, args, g1, R, e1, e2, e3⟩
    · exact .inl ⟨u, g1, e1, ⟨u, rfl⟩, by rw [← Act.put_comm a v u h2]; exact e2⟩
    · exact .inr ⟨f, args, g1, R, e1, e2, fun u g2 hr => ⟨⟨u, rfl⟩, by rw [← Act.put_comm a v u h2]; exact e3 u g2 hr⟩⟩
  · rename_i hw
    simp only [hw] at ho
    exact ⟨⟨undef, rfl⟩, by rw [← Act.put_comm a v undef h2]; exact ho⟩

theorem AOp_finds {ops : Array Oper} {i : Nat} {o : Oper} {v : Value} {a : Act} {h : H} {K : Act → H → Prop} (hi : ops[i]? = some o) (hf : Finds P ops o v a h) (hk : K (a.put o.dst v) h) : AOp P Γ ops i K a h := by
  unfold AOp
  simp only [hi]
  rcases hf with ⟨h1, h2⟩ | ⟨h1, rfl⟩
  · rw [if_pos h1]; exact .inl ⟨v, h, h2, hk⟩
  · rw [if_neg (by rw [h1]; simp)]; exact hk

theorem ready_not_waits {ops : Array Oper} {listed : Array Bool} {i j : Nat} (hj : j ∈ Region.ready .any ops listed) (hi : i ∈ Region.ready .any ops listed) : waits ops j i = false := by
  obtain ⟨hjun, oj, hoj, hall⟩ := mem_ready.1 hj
  unfold waits
  rw [hoj]
  simp only [Option.any_some]
  rw [Bool.eq_false_iff]
  intro hany
  obtain ⟨k, hk, he⟩ := Array.any_eq_true.1 hany
  simp only [Bool.and_eq_true, beq_iff_eq] at he
  have h2 := hall _ (Array.getElem_mem hk) he.1
  rw [he.2] at h2
  have h0 := (mem_ready.1 hi).1
  rcases Nat.lt_or_ge i listed.size with h' | h'
  · simp [h'] at h0 h2; rw [h0] at h2; cases h2
  · simp [Array.getElem?_eq_none h'] at h2

/-- What may come up now and leaves the heap may be taken first. -/
theorem AAny.first {ops : Array Oper} {K : Act → H → Prop} {i : Nat} {oi : Oper} {v : Value} (hi : ops[i]? = some oi) (ht : takes oi = true) {a0 : Act} : ∀ (n : Nat) (F : Facts) (listed : Array Bool) (a : Act) (h : H),
    (∀ (j : Nat) (oj : Oper), ops[j]? = some oj → j ≠ i → listed.getD j true = false → waits ops j i = false → oi.apart ops oj = true) →
    i ∈ Region.ready .any ops listed → (∀ h', Finds P ops oi v a0 h' → Finds P ops oi v a h') → Finds P ops oi v a0 h → (∀ x ∈ F, x.2 h) →
    AAny P Γ ops K ((i, fun h => Finds P ops oi v a0 h) :: F) n (listed.setIfInBounds i true) (a.put oi.dst v) h → AAny P Γ ops K F (n + 1) listed a h := by
  have hstill : ∀ F : Facts, still ops i F = F := fun F => by unfold still; rw [hi]; simp [ht]
  intro n
  induction n with
  | zero =>
    intro F listed a h hfree hr ha hf hF hh
    refine ⟨fun h0 => (by rw [h0] at hr; cases hr), fun j hj => ?_⟩
    by_cases hji : j = i
    · subst hji
      rw [hstill]
      exact AOp_finds hi (ha h hf) ⟨hF, hh⟩
    · have := ready_mono hj hji
      rw [hh.1] at this
      cases this
  | succ n ih =>
    intro F listed a h hfree hr ha hf hF hh
    refine ⟨fun h0 => (by rw [h0] at hr; cases hr), fun j hj => ?_⟩
    by_cases hji : j = i
    · subst hji
      rw [hstill]
      refine AOp_finds hi (ha h hf) ⟨hF, ?_⟩
      exact AAny.less _ _ _ _ _ _ (fun x hx => List.mem_cons_of_mem _ hx) hh
    · have h1 := hh.2 j (ready_mono hj hji)
      obtain ⟨hjun, oj, hoj, hall⟩ := mem_ready.1 hj
      have hnw := ready_not_waits hj hr
      have hap := hfree j oj hoj hji hjun hnw
      obtain ⟨_, _, h3⟩ := Oper.apart_spec hap
      have hst : still ops j ((i, fun h => Finds P ops oi v a0 h) :: F) = (i, fun h => Finds P ops oi v a0 h) :: still ops j F := by
        unfold still
        split
        · rfl
        · rw [List.filter_cons]; simp [hnw]
      rw [hst] at h1
      refine (AOp_put hoj hap h1).mono ?_
      rintro a' h' ⟨⟨u, rfl⟩, hfacts, hrest⟩
      have hf' : Finds P ops oi v a0 h' := hfacts (i, fun h => Finds P ops oi v a0 h) (by simp)
      have hF' : ∀ x ∈ still ops j F, x.2 h' := fun x hx => hfacts x (List.mem_cons_of_mem _ hx)
      refine ⟨hF', ih _ _ _ h' ?_ (ready_mono hr (Ne.symm hji)) (fun h2 hq => (ha h2 hq).put h3) hf' hF' ?_⟩
      · intro k ok hk hki hun hno
        refine hfree k ok hk hki ?_ hno
        by_cases hjk : j = k
        · subst hjk; exact hjun
        · rw [getD_set_ne true hjk] at hun; exact hun
      · rw [Array.setIfInBounds_comm _ _ hji]
        exact hrest

/-- The whole of a plan: which are taken first, and which come up alone. -/
def planOk (ops : Array Oper) : List Nat → Array Bool → Bool
  | [], listed => (Region.ready .any ops listed).isEmpty
  | i :: L, listed =>
    (match ops[i]? with
     | none => false
     | some o =>
       if takes o = true then
         (Region.ready .any ops listed).contains i &&
         (List.range ops.size).all fun j => j == i || listed.getD j true || waits ops j i || (match ops[j]? with | some oj => o.apart ops oj | none => true)
       else Region.ready .any ops listed == [i]) &&
    planOk ops L (listed.setIfInBounds i true)

/-- What is kept of a reading: nothing where it asks nothing of memory. -/
def asks (o : Oper) : Bool :=
  match o.op with
  | .load _ _ | .lookup _ _ _ _ | .slice _ _ _ _ _ | .call _ | .build _ _ => true
  | _ => false

def DOps (P : Program) (Γ : Gl) (ops : Array Oper) (K : Act → H → Prop) : List Nat → Facts → Act → H → Prop
  | [], _, a, h => K a h
  | i :: L, F, a, h =>
    match ops[i]? with
    | none => False
    | some o =>
      if takes o = true then ∃ v, Finds P ops o v a h ∧ DOps P Γ ops K L (if asks o = true then (i, fun h => Finds P ops o v a h) :: F else F) (a.put o.dst v) h
      else AOp P Γ ops i (fun a' h' => (∀ x ∈ still ops i F, x.2 h') ∧ DOps P Γ ops K L (still ops i F) a' h') a h

theorem quiet_still (s : Sem α) (hs : quiet P s) (h h' : H) (a : α) (h1 : H) (hr : arun P s h = some (a, h1)) : h1 = h ∧ arun P s h' = some (a, h') := by
  induction s with
  | pure x => simp only [arun, Option.some.injEq, Prod.mk.injEq] at hr ⊢; exact ⟨hr.2.symm, hr.1, trivial⟩
  | program k ih => exact ih P hs hr
  | mark m k ih =>
    simp only [arun] at hr ⊢
    split at hr
    · cases hr
    · rename_i hm; rw [if_neg hm]; exact ih hs hr
  | load => exact hs.elim
  | store => exact hs.elim
  | new => exact hs.elim
  | getObj => exact hs.elim
  | setObj => exact hs.elim
  | shape => simp [arun] at hr
  | freeze => simp [arun] at hr
  | frozen => simp [arun] at hr
  | choose => simp [arun] at hr
  | sys => simp [arun] at hr
  | halt => simp [arun] at hr

theorem quiet_sureAddr (v : Value) : quiet P (Instr.sureAddr v) := by
  unfold Instr.sureAddr; split <;> trivial
theorem quiet_asIntOf (v : Value) : quiet P (Go.asIntOf v) := by
  unfold Go.asIntOf; split <;> trivial
theorem quiet_asAgg (v : Value) : quiet P (Go.asAgg v) := by
  unfold Go.asAgg; split <;> trivial

theorem quiet_bounds (k : IntKind) (x y : Int) (c : BoundsCode) : quiet P (Go.boundsPanic k x y c : Sem α) := by
  unfold Go.boundsPanic
  dsimp only
  split
  · exact quiet_bind _ _ trivial fun _ => trivial
  · exact quiet_bind _ _ trivial fun _ => trivial
theorem quiet_byteOf (a : Addr) : quiet P (Go.byteOf a) := by
  unfold Go.byteOf
  repeat' (first
    | trivial
    | exact quiet_underlying _ | exact quiet_sizeOf _ | exact quiet_typeInfo _ | exact quiet_part _ _ _ | exact quiet_sureAddr _ | exact quiet_asIntOf _ | exact quiet_asAgg _
    | split
    | refine quiet_bind _ _ ?_ fun _ => ?_
    | dsimp only)
theorem quiet_fieldPlace (a : Addr) (f : Field) : quiet P (Go.fieldPlace a f) := by
  refine quiet_bind _ _ (quiet_sizeOf _) fun n => ?_
  split
  · unfold Go.partAt
    refine quiet_bind _ _ (quiet_byteOf _) fun n => ?_
    refine quiet_bind _ _ (quiet_byteOf _) fun n => ?_
    repeat' (first
      | trivial
      | exact quiet_underlying _ | exact quiet_sizeOf _ | exact quiet_typeInfo _ | exact quiet_part _ _ _ | exact quiet_sureAddr _ | exact quiet_asIntOf _ | exact quiet_asAgg _
      | split
      | refine quiet_bind _ _ ?_ fun _ => ?_
      | dsimp only)
  · trivial
theorem quiet_fieldAt (t : TypeId) (v : Value) (f : Nat) : quiet P (Instr.fieldAt t v f) := by
  refine quiet_bind _ _ (quiet_underlying t) fun d => ?_
  split
  · split
    · exact quiet_bind _ _ (quiet_sureAddr v) fun a => quiet_bind _ _ (quiet_fieldPlace _ _) fun _ => trivial
    · trivial
  · trivial
theorem quiet_indexTail (t : TypeId) (k : IntKind) (i : Int) (b : Option Addr × Nat × TypeId) : quiet P (do
    let d ← underlying t
    match b.1 with
      | some a =>
        if 0 ≤ i ∧ i < b.2.1 then do
          let n ← sizeOf b.2.2
          Pure.pure (Value.pointer (some (a.add (i.toNat * n))))
        else if (decide (b.2.1 ≤ 1) && match d with | TypeDesc.array _ _ => true | _ => false) = true then
            unsupported (Unsupported.noEntry "op/indexAddr.an index out of range at an array of length 0 or 1 (ledger 616)")
          else boundsPanic k i b.2.1 BoundsCode.index
      | none => boundsPanic k i 0 BoundsCode.index) := by
  refine quiet_bind _ _ (quiet_underlying t) fun d => ?_
  split
  · split
    · exact quiet_bind _ _ (quiet_sizeOf _) fun _ => trivial
    · by_cases hc : (decide (b.2.1 ≤ 1) && match d with | TypeDesc.array _ _ => true | _ => false) = true
      · rw [if_pos hc]; trivial
      · rw [if_neg hc]; exact quiet_bounds _ _ _ _
  · exact quiet_bounds _ _ _ _
theorem quiet_indexAt (t : TypeId) (x i : Value) : quiet P (Instr.indexAt t x i) := by
  refine quiet_bind _ _ (quiet_asIntOf i) fun k => ?_
  refine quiet_bind _ _ (quiet_underlying t) fun d => ?_
  split
  · exact quiet_bind _ _ (quiet_sureAddr _) fun _ => quiet_bind _ _ trivial fun b => quiet_indexTail t k.1 k.2 b
  · exact quiet_bind _ _ trivial fun b => quiet_indexTail t k.1 k.2 b
  · exact quiet_bind _ _ trivial fun b => quiet_indexTail t k.1 k.2 b
theorem quiet_field (t : TypeId) (v : Value) (f : Nat) : quiet P (Instr.field t v f) := by
  refine quiet_bind _ _ (quiet_underlying t) fun d => ?_
  repeat' (first
    | trivial
    | exact quiet_underlying _ | exact quiet_sizeOf _ | exact quiet_typeInfo _ | exact quiet_part _ _ _ | exact quiet_sureAddr _ | exact quiet_asIntOf _ | exact quiet_asAgg _
    | split
    | refine quiet_bind _ _ ?_ fun _ => ?_
    | dsimp only)
theorem quiet_index (t : TypeId) (x i : Value) : quiet P (Instr.index t x i) := by
  refine quiet_bind _ _ (quiet_asIntOf i) fun k => ?_
  refine quiet_bind _ _ (quiet_underlying t) fun d => ?_
  split
  · split
    · exact quiet_bind _ _ (quiet_sizeOf _) fun _ => quiet_part _ _ _
    · exact quiet_bounds _ _ _ _
  · split
    · trivial
    · exact quiet_bounds _ _ _ _
  · trivial
theorem quiet_makeInterface (t : TypeId) (v : Value) : quiet P (Instr.makeInterface t v) := by
  refine quiet_bind _ _ (quiet_underlying t) fun d => ?_
  split <;> trivial
theorem quiet_extract (v : Value) (i : Nat) : quiet P (Instr.extract v i) := by
  unfold Instr.extract
  split
  · split <;> trivial
  · trivial
theorem quiet_nilEq {op : BinOp} {t : TypeId} {x y : Operand} {u v : Value} (hn : nilish u v = true) (hop : isEq op = true) : quiet P (do eqGuard op t x y u v; binOp op t u v) := by
  have hg : eqGuard op t x y u v = Pure.pure () := by
    cases u <;> cases v <;> first | (simp [nilish] at hn; done) | (cases op <;> rfl)
  rw [hg]
  simp only [pure_bind]
  have e1 : binOp .eql t u v = (do Pure.pure (.bool (← Op.equal t u v))) ∧ binOp .neq t u v = (do Pure.pure (.bool (!(← Op.equal t u v)))) := by
    cases u <;> cases v <;> first | (simp [nilish] at hn; done) | exact ⟨rfl, rfl⟩
  cases op <;> first | (simp [isEq] at hop; done) | skip
  · rw [e1.1]; exact quiet_bind _ _ (quiet_equalIn _ _ _ _) fun _ => trivial
  · rw [e1.2]; exact quiet_bind _ _ (quiet_equalIn _ _ _ _) fun _ => trivial

theorem vals_quiet {s : Sem Value} (hs : quiet P s) {h h1 : H} {v : Value} (hr : vals (arun P s h) = some (.val v h1)) (h' : H) : vals (arun P s h') = some (.val v h') := by
  unfold vals at hr ⊢
  simp only [Option.map_eq_some_iff] at hr
  obtain ⟨⟨u, h2⟩, hr, e⟩ := hr
  cases e
  rw [(quiet_still s hs h h' _ _ hr).2]
  rfl

theorem flatStep_still {a : Act} {o : Oper} {h h1 : H} {v : Value} (hr : flatStep P a o h = some (.val v h1)) (h' : H) : flatStep P a o h' = some (.val v h') := by
  unfold flatStep at hr ⊢
  split at hr
  · rename_i hf
    rw [if_pos hf]
    split at hr
    · rename_i u hp
      split at hr
      · rename_i hfv
        cases hr
        simp only [hfv, if_true]
      · cases hr
    · cases hr
  · cases hr

theorem aop_still {a : Act} {o : Oper} {h h1 : H} {v : Value} (ht : takes o = true) (hk : asks o = false) (hr : aop P a o h = some (.val v h1)) (h' : H) : aop P a o h' = some (.val v h') := by
  unfold aop at hr ⊢
  split at hr
  · rename_i hok
    rw [if_pos hok]
    unfold takes at ht
    unfold asks at hk
    generalize o.op = op at *
    cases op <;> first | (simp at ht; done) | (simp at hk; done) | skip
    case move => cases hr; rfl
    case assign => cases hr; rfl
    case pick =>
      dsimp only at hr ⊢
      split at hr
      · cases hr; rfl
      · cases hr
    case nilCheck =>
      dsimp only at hr ⊢
      split at hr
      · cases hr; rfl
      · cases hr
    case binOp =>
      dsimp only at hr ⊢
      split at hr
      · rename_i hn
        rw [if_pos hn]
        exact vals_quiet (quiet_nilEq hn.1 hn.2) hr h'
      · rename_i hn
        rw [if_neg hn]
        exact flatStep_still hr h'
    case unOp => exact flatStep_still hr h'
    case convert => exact flatStep_still hr h'
    case makeInterface => exact vals_quiet (quiet_makeInterface _ _) hr h'
    case makeFunc =>
      dsimp only at hr ⊢
      split at hr
      · cases hr; rfl
      · cases hr
    case fieldAddr => exact vals_quiet (quiet_fieldAt _ _ _) hr h'
    case field => exact vals_quiet (quiet_field _ _ _) hr h'
    case indexAddr => exact vals_quiet (quiet_indexAt _ _ _) hr h'
    case index => exact vals_quiet (quiet_index _ _ _) hr h'
    case extract => exact vals_quiet (quiet_extract _ _) hr h'
  · cases hr

theorem Finds.still {ops : Array Oper} {o : Oper} {v : Value} {a : Act} {h : H} (ht : takes o = true) (hk : asks o = false) (hf : Finds P ops o v a h) (h' : H) : Finds P ops o v a h' :=
  hf.imp (fun ⟨hw, hv⟩ => ⟨hw, aop_still ht hk hv h'⟩) id

/-- A fact that always holds is no burden. -/
theorem AAny.gain {ops : Array Oper} {K : Act → H → Prop} : ∀ (n : Nat) (F G : Facts) (listed : Array Bool) (a : Act) (h : H), (∀ x ∈ G, x ∈ F ∨ ∀ h, x.2 h) → AAny P Γ ops K F n listed a h → AAny P Γ ops K G n listed a h := by
  intro n
  induction n with
  | zero => exact fun _ _ _ _ _ _ h => h
  | succ n ih =>
    intro F G listed a h hFG hh
    refine ⟨hh.1, fun j hj => (hh.2 j hj).mono fun a' h' hk => ?_⟩
    have hs : ∀ x ∈ Abs.still ops j G, x ∈ Abs.still ops j F ∨ ∀ h, x.2 h := by
      intro x hx
      unfold Abs.still at *
      split
      · rename_i ht; rw [if_pos ht] at hx; exact hFG x hx
      · rename_i ht
        rw [if_neg ht] at hx
        rw [List.mem_filter] at hx ⊢
        exact (hFG x hx.1).imp (fun h => ⟨h, hx.2⟩) id
    exact ⟨fun x hx => (hs x hx).elim (hk.1 x) fun h => h h', ih _ _ _ _ _ hs hk.2⟩

theorem planOk_cons {ops : Array Oper} {i : Nat} {L : List Nat} {listed : Array Bool} (h : planOk ops (i :: L) listed = true) :
    ∃ o, ops[i]? = some o ∧ planOk ops L (listed.setIfInBounds i true) = true ∧
      if takes o = true then i ∈ Region.ready .any ops listed ∧ ∀ (j : Nat) (oj : Oper), ops[j]? = some oj → j ≠ i → listed.getD j true = false → waits ops j i = false → o.apart ops oj = true
      else Region.ready .any ops listed = [i] := by
  unfold planOk at h
  rw [Bool.and_eq_true] at h
  obtain ⟨h1, h2⟩ := h
  cases ho : ops[i]? with
  | none => rw [ho] at h1; cases h1
  | some o =>
    rw [ho] at h1
    refine ⟨o, rfl, h2, ?_⟩
    dsimp only at h1
    split
    · rename_i ht
      rw [if_pos ht, Bool.and_eq_true] at h1
      refine ⟨by simpa using h1.1, fun j oj hj hne hun hno => ?_⟩
      have hlt : j < ops.size := (Array.getElem?_eq_some_iff.1 hj).1
      have := List.all_eq_true.1 h1.2 j (List.mem_range.2 hlt)
      simp only [hj, hun, hno, Bool.or_false, Bool.or_eq_true, beq_iff_eq] at this
      rcases this with h | h
      · exact absurd h hne
      · exact h
    · rename_i ht
      rw [if_neg ht] at h1
      simpa using h1

theorem AAny.plan {ops : Array Oper} {K : Act → H → Prop} : ∀ (L : List Nat) (F : Facts) (listed : Array Bool) (a : Act) (h : H), planOk ops L listed = true → (∀ x ∈ F, x.2 h) → DOps P Γ ops K L F a h → AAny P Γ ops K F L.length listed a h := by
  intro L
  induction L with
  | nil =>
    intro F listed a h hp _ hd
    exact ⟨by simpa [planOk] using hp, hd⟩
  | cons i L ih =>
    intro F listed a h hp hF hd
    obtain ⟨o, ho, hp2, hcase⟩ := planOk_cons hp
    unfold DOps at hd
    simp only [ho] at hd
    by_cases ht : takes o = true
    · rw [if_pos ht] at hd hcase
      obtain ⟨v, hf, hd⟩ := hd
      refine AAny.first ho ht (a0 := a) L.length F listed a h hcase.2 hcase.1 (fun _ h => h) hf hF ?_
      by_cases hk : asks o = true
      · rw [if_pos hk] at hd
        refine ih _ _ _ _ hp2 ?_ hd
        intro x hx
        rcases List.mem_cons.1 hx with rfl | hx
        · exact hf
        · exact hF x hx
      · rw [if_neg hk] at hd
        refine AAny.gain _ F _ _ _ _ ?_ (ih _ _ _ _ hp2 hF hd)
        intro x hx
        rcases List.mem_cons.1 hx with rfl | hx
        · exact .inr fun h' => hf.still ht (by simpa using hk) h'
        · exact .inl hx
    · rw [if_neg ht] at hd hcase
      refine ⟨fun h0 => (by rw [h0] at hcase; cases hcase), fun j hj => ?_⟩
      rw [hcase, List.mem_singleton] at hj
      subst hj
      exact hd.mono fun a' h' hk => ⟨hk.1, ih _ _ _ _ hp2 hk.1 hk.2⟩

/-- **A region that draws its order, by a plan.** -/
theorem ACode.draw {ops : Array Oper} {id : Nat} {a : Act} {h : H} {Q : Exit → Act → H → Prop} (hm : P.follows .mixedOrders = true) (L : List Nat) (hL : L.length = ops.size)
    (hp : planOk ops L (Array.replicate ops.size false) = true) (hd : DOps P Γ ops (fun a h => Q .normal a h) L [] a h) : ACode P Γ (.region id ops true) a h Q := by
  refine AAny.code hm ?_
  rw [← hL] at hp ⊢
  exact AAny.plan L [] _ a h hp (fun x hx => by cases hx) hd

end Go.Abs

/-
The abstract heap: operations that make new memory.
-/
namespace Go.Abs
open Go
variable {P : Program} {ρ : Ren} {α β : Type}

def refOf : Value → Option Nat
  | .pointer (some a) => some a.block
  | .slice (some a) _ _ => some a.block
  | .map (some r) => some r
  | _ => none

def reblock (v : Value) (n : Nat) : Value :=
  match v with
  | .pointer (some a) => .pointer (some { a with block := n })
  | .slice (some a) l c => .slice (some { a with block := n }) l c
  | .map (some _) => .map (some n)
  | v => v

theorem reblock_self {v : Value} {n : Nat} (h : refOf v = some n) : reblock v n = v := by
  unfold refOf at h
  split at h <;> cases h <;> rfl

theorem reblock_twice (v : Value) (n m : Nat) : reblock (reblock v n) m = reblock v m := by
  cases v with
  | pointer a => cases a <;> rfl
  | slice a l c => cases a <;> rfl
  | map r => cases r <;> rfl
  | _ => rfl

theorem refOf_reblock {v : Value} {n : Nat} (h : refOf v = some n) (m : Nat) : refOf (reblock v m) = some m := by
  unfold refOf at h
  split at h <;> cases h <;> rfl

/-- A program that makes one new object, the same in each heap. -/
def freshS (P : Program) (s : Sem Value) : Prop := ∀ h v h1, arun P s h = some (v, h1) →
  ∃ ob, h1 = h.push ob ∧ ob ≠ tomb ∧ refOf v = some h.size ∧ ∀ g, arun P s g = some (reblock v g.size, g.push ob)

theorem fresh_bind {s : Sem α} {f : α → Sem Value} (hs : quiet P s) (hf : ∀ a, freshS P (f a)) : freshS P (s >>= f) := by
  intro h v h1 hr
  rw [arun_bind, Option.bind_eq_some_iff] at hr
  obtain ⟨⟨a, h2⟩, e1, e2⟩ := hr
  have hq := fun g => quiet_still s hs h g a h2 e1
  obtain rfl := (hq h).1
  obtain ⟨ob, g1, g2, g3, g4⟩ := hf a _ v h1 e2
  exact ⟨ob, g1, g2, g3, fun g => by rw [arun_bind, (hq g).2]; exact g4 g⟩

theorem fresh_none {s : Sem Value} (hs : ∀ h, arun P s h = none) : freshS P s := fun h v h1 hr => by rw [hs] at hr; cases hr

theorem fresh_newObj (o : Obj) (mk : Nat → Value) (hk : ∀ n, refOf (mk n) = some n) (hm : ∀ n m, reblock (mk n) m = mk m) : freshS P (do let r ← newObj o; Pure.pure (mk r)) := by
  intro h v h1 hr
  have e0 : (do let r ← newObj o; Pure.pure (mk r) : Sem Value) = Sem.new o fun r => .pure (mk r) := rfl
  rw [e0] at hr
  simp only [arun] at hr
  split at hr
  · rename_i hp
    cases hr
    refine ⟨o, rfl, ?_, hk _, fun g => ?_⟩
    · rintro rfl; cases hp
    · rw [e0, hm]; simp only [arun, hp, if_true]
  · rename_i hp
    split at hr
    · rename_i c e
      split at hr
      · rename_i ha
        cases hr
        refine ⟨_, rfl, (by intro h; cases h), hk _, fun g => ?_⟩
        rw [e0, hm]; simp only [arun, hp]
        simp [ha]
      · cases hr
    · cases hr

theorem fresh_newRow (e : TypeId) (cs : Array Value) (mk : Addr → Value) (hk : ∀ n, refOf (mk ⟨n, 0, none⟩) = some n) (hm : ∀ n m, reblock (mk ⟨n, 0, none⟩) m = mk ⟨m, 0, none⟩) :
    freshS P (do let r ← newRow e cs; Pure.pure (mk r)) :=
  fresh_newObj (.cells cs e) (fun r => mk ⟨r, 0, none⟩) hk hm

theorem quiet_zeroValue (t : TypeId) : quiet P (Go.zeroValue t) := by
  refine quiet_bind _ _ (quiet_typeInfo t) fun i => ?_
  split <;> trivial

theorem fresh_alloc (e : TypeId) : freshS P (Instr.alloc e true (.tuple #[])) := by
  unfold Instr.alloc
  refine fresh_bind (quiet_zeroValue e) fun z => ?_
  exact fresh_newRow e z.cells (fun a => .pointer (some a)) (fun _ => rfl) fun _ _ => rfl

theorem fresh_box (e : TypeId) (v : Value) : freshS P (Instr.box e v) :=
  fresh_newRow e v.cells (fun a => .pointer (some a)) (fun _ => rfl) fun _ _ => rfl

theorem fresh_buildSlice (t : TypeId) (n : Nat) (ps : Array (Nat × Value)) : freshS P (Instr.buildSlice t n ps) := by
  unfold Instr.buildSlice
  refine fresh_bind (quiet_underlying t) fun d => ?_
  split
  · rename_i elem
    refine fresh_bind (quiet_sizeOf _) fun sz => ?_
    dsimp only
    have tail : ∀ zero : Array Value, freshS P (match Instr.fill (fun i => some (i * sz, sz)) (Array.map (fun x => zero[x % zero.size]!) (Array.range (n * sz))) ps.toList with
          | some cells => do
            let a ← newRow elem cells
            Pure.pure (Value.slice (some a) n n)
          | _ => stuck "buildSlice: a part of the wrong size") := by
      intro zero
      split
      · exact fresh_newRow _ _ (fun a => .slice (some a) n n) (fun _ => rfl) fun _ _ => rfl
      · exact fresh_none fun h => rfl
    by_cases hc : n * sz > 2 ^ 24
    · rw [if_pos hc]; exact fresh_none fun h => rfl
    · rw [if_neg hc]
      by_cases h0 : n * sz = 0
      · rw [if_pos h0]; exact fresh_bind (s := Pure.pure #[]) trivial fun z => tail z
      · rw [if_neg h0]; exact fresh_bind (quiet_zeroValue _) fun z => fresh_bind (s := Pure.pure z.cells) trivial fun z => tail z
  · exact fresh_none fun h => rfl

theorem fresh_makeMap (t : TypeId) : freshS P (Instr.makeMap t none) :=
  fresh_newObj (.map #[] 0) (fun r => .map (some r)) (fun _ => rfl) fun _ _ => rfl

theorem fresh_makeSlice (t : TypeId) (l c : Value) : freshS P (Instr.makeSlice t l c) := by
  have hint : ∀ v : Value, quiet P (Go.asInt v) := fun v => quiet_bind _ _ (quiet_asIntOf v) fun _ => trivial
  have hroom : ∀ n, quiet P (Go.askRoom n) := fun n => by unfold Go.askRoom; split <;> trivial
  unfold Instr.makeSlice
  refine fresh_bind (quiet_underlying t) fun d => ?_
  split
  · rename_i elem
    refine fresh_bind (hint l) fun len => fresh_bind (hint c) fun cap => fresh_bind (quiet_typeInfo elem) fun inf => ?_
    dsimp only
    have tail : ∀ _u : Unit, freshS P (do
        askRoom ((IntKind.i64.wrap cap).toNat * inf.bytes)
        let n := (IntKind.i64.wrap cap).toNat * (← sizeOf elem)
        let zero ← if n = 0 then Pure.pure #[] else do Pure.pure (← zeroValue elem).cells
        let a ← newRow elem ((Array.range n).map (zero[· % zero.size]!))
        Pure.pure (.slice (some a) (IntKind.i64.wrap len).toNat (IntKind.i64.wrap cap).toNat)) := by
      intro _
      refine fresh_bind (hroom _) fun _ => fresh_bind (quiet_sizeOf _) fun sz => ?_
      dsimp only
      have last : ∀ zero : Array Value, freshS P (do
          let a ← newRow elem ((Array.range ((IntKind.i64.wrap cap).toNat * sz)).map (zero[· % zero.size]!))
          Pure.pure (.slice (some a) (IntKind.i64.wrap len).toNat (IntKind.i64.wrap cap).toNat)) := fun zero => fresh_newRow _ _ (fun a => .slice (some a) _ _) (fun _ => rfl) fun _ _ => rfl
      split
      · exact fresh_bind (s := Pure.pure #[]) trivial fun z => last z
      · exact fresh_bind (quiet_zeroValue _) fun z => fresh_bind (s := Pure.pure z.cells) trivial fun z => last z
    split
    · split
      · exact fresh_none fun h => rfl
      · split
        · exact fresh_none fun h => rfl
        · exact fresh_none fun h => rfl
    · exact tail ⟨⟩
  · exact fresh_none fun h => rfl

def news (o : Oper) : Bool :=
  match o.op with
  | .alloc _ | .box _ _ | .buildSlice _ _ _ | .makeMap _ none | .makeSlice _ _ _ => true
  | _ => false

theorem aop_news {a : Act} {o : Oper} {h h1 : H} {v : Value} (hn : news o = true) (hr : aop P a o h = some (.val v h1)) :
    ∃ ob, h1 = h.push ob ∧ ob ≠ tomb ∧ refOf v = some h.size ∧ ∀ g, aop P a o g = some (.val (reblock v g.size) (g.push ob)) := by
  have key : ∀ {s : Sem Value} {h1 : H} {v : Value}, freshS P s → vals (arun P s h) = some (.val v h1) → ∃ ob, h1 = h.push ob ∧ ob ≠ tomb ∧ refOf v = some h.size ∧ ∀ g, vals (arun P s g) = some (.val (reblock v g.size) (g.push ob)) := by
    intro s h1 v hs hr
    unfold vals at hr
    simp only [Option.map_eq_some_iff] at hr
    obtain ⟨⟨u, h2⟩, hr, e⟩ := hr
    cases e
    obtain ⟨ob, g1, g2, g3, g4⟩ := hs h _ _ hr
    exact ⟨ob, g1, g2, g3, fun g => by rw [g4 g]; rfl⟩
  unfold aop at hr ⊢
  split at hr
  · rename_i hok
    simp only [if_pos hok]
    unfold news at hn
    generalize o.op = op at *
    cases op <;> first | (simp at hn; done) | skip
    case alloc e =>
      dsimp only at hr ⊢
      split at hr
      · rename_i hz
        simp only [if_pos hz]
        exact key (fresh_alloc e) hr
      · cases hr
    case box e x => exact key (fresh_box e _) hr
    case buildSlice t n ps =>
      dsimp only at hr ⊢
      split at hr
      · rename_i hz
        simp only [if_pos hz]
        exact key (fresh_buildSlice t n _) hr
      · cases hr
    case makeMap t r =>
      cases r with
      | none => exact key (fresh_makeMap t) hr
      | some x => cases hn
    case makeSlice t l c =>
      dsimp only at hr ⊢
      split at hr
      · rename_i hz
        simp only [if_pos hz]
        exact key (fresh_makeSlice t _ _) hr
      · cases hr
  · cases hr

def belowV (n : Nat) (v : Value) : Bool :=
  flat1 v || match v with
  | .pointer (some a) => decide (a.block < n)
  | .slice (some a) _ _ => decide (a.block < n)
  | .map (some r) => decide (r < n)
  | _ => false

def belowO (n : Nat) : Obj → Bool
  | .cells c _ _ => c.all (belowV n)
  | .map es _ => es.isEmpty
  | _ => false

theorem VRel.under {ρ1 ρ2 : Ren} {n : Nat} {v v' : Value} (hb : belowV n v = true) (he : ∀ k, k < n → ρ1 k = ρ2 k) (h : VRel P ρ1 v v') : VRel P ρ2 v v' := by
  unfold belowV at hb
  rw [Bool.or_eq_true] at hb
  rcases hb with hb | hb
  · have hf : flat v = true := by
      unfold flat; cases v <;> first | exact hb | (simp [flat1] at hb)
    rw [flat_eq hf h]; exact flat_rel hf
  · cases h with
    | @ptr a a' ha =>
      have hlt : a.block < n := by simpa using hb
      refine .ptr ⟨ha.1, ?_⟩
      rw [← he _ hlt]; exact ha.2
    | @slc a a' l c h1 h2 h3 =>
      have hlt : a.block < n := by simpa using hb
      refine .slc h1 h2 (h3.imp (fun ha => ⟨ha.1, ?_⟩) id)
      rw [← he _ hlt]; exact ha.2
    | @opn a a' l c ho =>
      have hlt : a.block < n := by simpa using hb
      refine .opn ⟨ho.1, ?_⟩
      rw [← he _ hlt]; exact ho.2
    | @map r r' hm =>
      have hlt : r < n := by simpa using hb
      refine .map ?_
      rw [← he _ hlt]; exact hm
    | _ => cases hb

theorem ObjRel.under {ρ1 ρ2 : Ren} {n : Nat} {B : Blk} {o o' : Obj} (hb : belowO n o = true) (he : ∀ k, k < n → ρ1 k = ρ2 k) (h : ObjRel P ρ1 B o o') : ObjRel P ρ2 B o o' := by
  unfold belowO at hb
  cases o with
  | cells c e f =>
    cases o' with
    | cells c' e' f' =>
      obtain ⟨a1, a2, a3, a4, a5, a6, a7⟩ := h
      refine ⟨a1, a2, a3, a4, fun j v v' hv hv' => ?_, a6, a7⟩
      have := (Array.all_eq_true.1 hb) j (Array.getElem?_eq_some_iff.1 hv).1
      rw [(Array.getElem?_eq_some_iff.1 hv).2] at this
      exact (a5 j v v' hv hv').under this he
    | _ => exact h.elim
  | map es k =>
    cases o' with
    | map es' k' =>
      obtain ⟨a1, a2, a3, a4, a5⟩ := h
      refine ⟨a1, a2, a3, a4, fun j m m' hm hm' => ?_⟩
      have h0 : es = #[] := by simpa using hb
      subst h0
      simp at hm
    | _ => exact h.elim
  | _ => cases hb

/-- A block that nobody knew of comes to light. -/
theorem reveal {h h0 : H} {w0 w w1 : World} {ρ0 ρ1 : Ren} {n : Nat} {ob : Obj} (hl0 : Later ρ0 h0 w0 ρ h w) (hs : Sim P ρ h w) (hn : ρ n = none) (h0n : h0.size ≤ n) (hob : h[n]? = some ob) (hb : belowO n ob = true) (hnt : ob ≠ tomb)
    (hl : Later ρ h w ρ1 (h.push ob) w1) (hs1 : Sim P ρ1 (h.push ob) w1) :
    ∃ ρ2, Later ρ0 h0 w0 ρ2 h w1 ∧ Sim P ρ2 h w1 ∧ Ren.Le ρ ρ2 ∧ (∀ k, k < h.size → k ≠ n → ρ k = none → ρ2 k = none) ∧ ∀ v v', refOf v = some h.size → VRel P ρ1 v v' → VRel P ρ2 (reblock v n) v' := by
  have hlt : n < h.size := (Array.getElem?_eq_some_iff.1 hob).1
  let ρ2 : Ren := fun k => if k = n then ρ1 h.size else if k < h.size then ρ1 k else none
  have e1 : ρ2 n = ρ1 h.size := if_pos rfl
  have e2 : ∀ k, k < h.size → k ≠ n → ρ2 k = ρ1 k := fun k hk hne => by show (if k = n then _ else _) = _; rw [if_neg hne, if_pos hk]
  have e3 : ∀ k, ¬ k < h.size → ρ2 k = none := fun k hk => by show (if k = n then _ else _) = _; rw [if_neg (by omega), if_neg hk]
  have hin : ∀ k t, ρ k = some t → k < h.size ∧ k ≠ n := fun k t hk => ⟨hs.lt hk, by rintro rfl; rw [hn] at hk; cases hk⟩
  have hget : ∀ k, k < h.size → (h.push ob)[k]? = h[k]? := fun k hk => by rw [Array.getElem?_push, if_neg (by omega)]
  have hlive : ∀ i B, ρ i = some (some B) → ρ1 i = some (some B) := fun i B hB => by
    rcases hl.le i _ hB with h | hd
    · exact h
    · exfalso
      have h1t := hs1.dead i hd
      rw [hget i (hin i _ hB).1] at h1t
      obtain ⟨o, o', q1, q2, q3⟩ := hs.live i B hB
      rw [h1t] at q1; cases q1
      exact q3.not_tomb
  have hle : Ren.Le ρ ρ2 := fun k t hk => by rw [e2 k (hin k t hk).1 (hin k t hk).2]; exact hl.le k t hk
  have T := hl0.trans hl
  refine ⟨ρ2, ⟨?_, hl0.size, T.wsize, T.os, T.tape, T.output, fun i hi hni => ?_, T.frame, fun i B hB => ?_⟩, ⟨fun i B hB => ?_, fun i hi => ?_, fun i j B C hB hC hBC => ?_⟩, hle, fun k hk hkn hk0 => ?_, fun v v' hv hvv => ?_⟩
  · exact hl0.le.trans hle
  · have := T.none i hi hni
    have hi2 : i < h.size := Nat.lt_of_lt_of_le hi hl0.size
    rw [hget i hi2] at this
    exact ⟨by rw [e2 i hi2 (by omega)]; exact this.1, this.2⟩
  · by_cases hin2 : i = n
    · subst hin2
      rw [e1] at hB
      rcases T.fresh _ B hB with h | h
      · exfalso
        have := hl0.le _ _ h
        rcases this with h | h <;> exact absurd (hs.lt h) (by omega)
      · exact .inr h
    · by_cases hi2 : i < h.size
      · rw [e2 i hi2 hin2] at hB; exact T.fresh i B hB
      · rw [e3 i hi2] at hB; cases hB
  · by_cases hin2 : i = n
    · subst hin2
      rw [e1] at hB
      obtain ⟨o, o', q1, q2, q3⟩ := hs1.live _ B hB
      rw [Array.getElem?_push, if_pos rfl] at q1
      cases q1
      refine ⟨ob, o', hob, q2, q3.under hb fun k hk => ?_⟩
      rw [e2 k (by omega) (by omega)]
    · by_cases hi2 : i < h.size
      · rw [e2 i hi2 hin2] at hB
        obtain ⟨o, o', q1, q2, q3⟩ := hs1.live _ B hB
        rw [hget i hi2] at q1
        refine ⟨o, o', q1, q2, ?_⟩
        have hB0 : ρ i = some (some B) := by
          cases hr : ρ i with
          | none => rw [(hl.none i hi2 hr).1] at hB; cases hB
          | some t =>
            rcases hl.le i t hr with h | h
            · rw [h] at hB; exact hB
            · rw [h] at hB; cases hB
        obtain ⟨o2, o2', p1, p2, p3⟩ := hs.live i B hB0
        rw [q1] at p1; cases p1
        exact (p3.back hlive q3).mono hle
      · rw [e3 i hi2] at hB; cases hB
  · by_cases hin2 : i = n
    · subst hin2
      rw [e1] at hi
      have := hs1.dead _ hi
      rw [Array.getElem?_push, if_pos rfl] at this
      cases this
      exact absurd rfl hnt
    · by_cases hi2 : i < h.size
      · rw [e2 i hi2 hin2] at hi
        have := hs1.dead _ hi
        rwa [hget i hi2] at this
      · rw [e3 i hi2] at hi; cases hi
  · have conv : ∀ i B, ρ2 i = some (some B) → ∃ k, ρ1 k = some (some B) ∧ ((i = n ∧ k = h.size) ∨ (i ≠ n ∧ k = i ∧ k < h.size)) := fun i B hB => by
      by_cases hin2 : i = n
      · exact ⟨h.size, by rw [hin2, e1] at hB; exact hB, .inl ⟨hin2, rfl⟩⟩
      · by_cases hi2 : i < h.size
        · exact ⟨i, by rw [e2 i hi2 hin2] at hB; exact hB, .inr ⟨hin2, rfl, hi2⟩⟩
        · rw [e3 i hi2] at hB; cases hB
    obtain ⟨k, hk, hk2⟩ := conv i B hB
    obtain ⟨l, hl2, hl3⟩ := conv j C hC
    have := hs1.one k l B C hk hl2 hBC
    omega
  · rw [e2 k hk hkn]; exact (hl.none k hk hk0).1
  · cases hvv with
    | @ptr a a' ha =>
      have hbk : a.block = h.size := by simpa [refOf] using hv
      refine .ptr ⟨ha.1, ?_⟩
      show ρ2 n = _ ∨ _
      rw [e1, ← hbk]
      exact ha.2
    | @slc a a' l c h1 h2 h3 =>
      have hbk : a.block = h.size := by simpa [refOf] using hv
      refine .slc h1 h2 (h3.imp (fun ha => ⟨ha.1, ?_⟩) id)
      show ρ2 n = _ ∨ _
      rw [e1, ← hbk]
      exact ha.2
    | @opn a a' l c ho =>
      have hbk : a.block = h.size := by simpa [refOf] using hv
      refine .opn ⟨ho.1, ?_⟩
      show ρ2 n = _ ∨ _
      rw [e1, ← hbk]
      exact ho.2
    | @map r r' hm =>
      have hbk : r = h.size := by simpa [refOf] using hv
      refine .map ?_
      show ρ2 n = _ ∨ _
      rw [e1, ← hbk]
      exact hm
    | _ => cases hv

end Go.Abs

/-
The abstract heap: a region that draws its order, by one plan; new memory may come early.
-/
namespace Go.Abs
open Go
variable {P : Program} {Γ : Gl} {ρ : Ren} {α β : Type}

def early (o : Oper) : Bool := takes o || news o

/-- q may be taken while p is perhaps not yet done. -/
def calm (ops : Array Oper) (q p : Nat) : Bool :=
  match ops[q]?, ops[p]? with
  | some oq, some op =>
    (match oq.dst with | some d => !(op.looksAt ops).contains d && op.dst != some d | none => true) &&
    (waits ops q p || match op.dst with | some d => !(oq.looksAt ops).contains d | none => true)
  | _, _ => false

theorem calm_spec {ops : Array Oper} {q p : Nat} {oq op : Oper} (hq : ops[q]? = some oq) (hp : ops[p]? = some op) (h : calm ops q p = true) :
    (∀ d, oq.dst = some d → d ∉ op.looksAt ops ∧ op.dst ≠ some d) ∧ (∀ d, op.dst = some d → d ∈ oq.looksAt ops → waits ops q p = true) := by
  unfold calm at h
  rw [hq, hp] at h
  simp only [Bool.and_eq_true, Bool.or_eq_true] at h
  refine ⟨fun d hd => ?_, fun d hd hin => ?_⟩
  · have := h.1; rw [hd] at this; simpa using this
  · rcases h.2 with h | h
    · exact h
    · rw [hd] at h
      simp only [Bool.not_eq_true', List.contains_eq_mem, decide_eq_false_iff_not] at h
      exact absurd hin h

def own (ops : Array Oper) (o : Oper) : Bool := match o.dst with | some d => !(o.looksAt ops).contains d | none => true

/-- The whole of a plan: (i, true) is taken early, (i, false) comes up alone. -/
def planned (ops : Array Oper) : List (Nat × Bool) → List Nat → Array Bool → Bool
  | [], _, listed => (Region.ready .any ops listed).isEmpty
  | (i, e) :: L, mp, listed =>
    (match ops[i]? with
     | none => false
     | some o =>
       if e = true then early o && (Region.ready .any ops listed).contains i && mp.all (calm ops i) && own ops o
       else Region.ready .any ops listed == [i] && (mp.filter fun p => !waits ops i p).all (calm ops i)) &&
    planned ops L (if e = true then i :: mp else mp.filter fun p => !waits ops i p) (listed.setIfInBounds i true)

def forward (ops : Array Oper) : Bool := (List.range ops.size).all fun j => match ops[j]? with | some o => o.after.all fun e => !Region.binds .any e || decide (e.on < j) | none => true

def keeps (ops : Array Oper) (i : Nat) (F : Facts) : Facts := F.filter fun x => !waits ops i x.1

def DPlan (P : Program) (Γ : Gl) (ops : Array Oper) (K : Act → H → Prop) : List (Nat × Bool) → Facts → Act → H → Prop
  | [], _, a, h => K a h
  | (i, e) :: L, F, a, h =>
    match ops[i]? with
    | none => False
    | some o =>
      if e = true then
        if takes o = true then ∃ v, Finds P ops o v a h ∧ DPlan P Γ ops K L (if asks o = true then (i, fun h => Finds P ops o v a h) :: F else F) (a.put o.dst v) h
        else if Region.wanted o (yielded ops a.tmps) = true then
          ∃ v h1, aop P a o h = some (.val v h1) ∧ (h1[h.size]?).any (belowO h.size) = true ∧ (∀ x ∈ F, x.2 h1) ∧ DPlan P Γ ops K L F (a.put o.dst v) h1
        else DPlan P Γ ops K L F (a.put o.dst undef) h
      else AOp P Γ ops i (fun a' h' => (∀ x ∈ keeps ops i F, x.2 h') ∧ DPlan P Γ ops K L (keeps ops i F) a' h') a h

/-- What the plan has done, and the run has not. -/
structure Pd where
  i : Nat
  o : Oper
  v : Value
  g : H → Prop
  n : Option (Nat × Obj)

def Pd.kind (P : Program) (ops : Array Oper) (F : Facts) (z : Nat) (ρ : Ren) (a : Act) (h : H) (p : Pd) : Prop :=
  match p.n with
  | none => p.g h ∧ (∀ h', p.g h' → Finds P ops p.o p.v a h') ∧ ((p.i, p.g) ∈ F ∨ ∀ h', p.g h')
  | some (n, ob) => Region.wanted p.o (yielded ops a.tmps) = true ∧ ρ n = none ∧ z ≤ n ∧ h[n]? = some ob ∧ ob ≠ tomb ∧ belowO n ob = true ∧ refOf p.v = some n ∧
      ∀ g, aop P a p.o g = some (.val (reblock p.v g.size) (g.push ob))

structure Good (P : Program) (ops : Array Oper) (F : Facts) (z : Nat) (ρ : Ren) (a b : Act) (h : H) (Pn : List Pd) : Prop where
  nd : (Pn.map (·.i)).Nodup
  size : b.tmps.size = a.tmps.size
  defs : b.defers = a.defers
  off : ∀ t, (∀ p ∈ Pn, p.o.dst ≠ some t) → b.tmps[t]? = a.tmps[t]?
  each : ∀ p ∈ Pn, ops[p.i]? = some p.o ∧ a.put p.o.dst p.v = a ∧ (∀ d, p.o.dst = some d → d ∉ p.o.looksAt ops) ∧ p.kind P ops F z ρ a h
  pair : ∀ p ∈ Pn, ∀ q ∈ Pn, p.i ≠ q.i → (∀ d, q.o.dst = some d → p.o.dst ≠ some d ∧ (d ∈ p.o.looksAt ops → waits ops p.i q.i = true)) ∧
    (∀ n ob m ob', p.n = some (n, ob) → q.n = some (m, ob') → n ≠ m)

theorem waits_false {ops : Array Oper} {listed : Array Bool} {i j : Nat} (hj : j ∈ Region.ready .any ops listed) (hi : listed.getD i true = false) : waits ops j i = false := by
  obtain ⟨hjun, oj, hoj, hall⟩ := mem_ready.1 hj
  unfold waits
  rw [hoj]
  simp only [Option.any_some]
  rw [Bool.eq_false_iff]
  intro hany
  obtain ⟨k, hk, he⟩ := Array.any_eq_true.1 hany
  simp only [Bool.and_eq_true, beq_iff_eq] at he
  have h2 := hall _ (Array.getElem_mem hk) he.1
  rw [he.2] at h2
  rcases Nat.lt_or_ge i listed.size with h' | h'
  · simp [h'] at hi h2; rw [hi] at h2; cases h2
  · simp [Array.getElem?_eq_none h'] at h2

theorem slots_eval {ops : Array Oper} {a b : Act} {o : Oper} (h : ∀ t ∈ o.looksAt ops, b.tmps[t]? = a.tmps[t]?) : ∀ x ∈ o.op.operands, b.eval x = a.eval x := by
  intro x hx
  cases x with
  | tmp t =>
    show b.tmps.getD t undef = a.tmps.getD t undef
    simp only [Array.getD_eq_getD_getElem?]
    rw [h t (looksAt_mem hx)]
  | _ => rfl

theorem slots_wanted {ops : Array Oper} {a b : Act} {o : Oper} (h : ∀ t ∈ o.looksAt ops, b.tmps[t]? = a.tmps[t]?) : Region.wanted o (yielded ops b.tmps) = Region.wanted o (yielded ops a.tmps) := by
  unfold Region.wanted
  cases hg : o.guard with
  | none => rfl
  | some gw =>
    obtain ⟨g, want⟩ := gw
    have : yielded ops b.tmps g = yielded ops a.tmps g := by
      unfold yielded
      cases ht : (ops[g]?).bind (·.dst) with
      | none => rfl
      | some t =>
        simp only [Option.bind_some]
        rw [h t (by simp [Oper.looksAt, hg, ht])]
    simp only [this]

theorem put_slot {a : Act} {dst : Option Tmp} {v : Value} {t : Nat} (h : dst ≠ some t) : (a.put dst v).tmps[t]? = a.tmps[t]? := by
  cases dst with
  | none => rfl
  | some d =>
    have : d ≠ t := fun e => h (by rw [e])
    simp [Act.put, Array.getElem?_setIfInBounds_ne this]

theorem put_size (a : Act) (dst : Option Tmp) (v : Value) : (a.put dst v).tmps.size = a.tmps.size := by
  cases dst <;> simp [Act.put]

theorem put_defers (a : Act) (dst : Option Tmp) (v : Value) : (a.put dst v).defers = a.defers := by
  cases dst <;> rfl

theorem put_slot_same {a b : Act} {dst : Option Tmp} {v : Value} {t : Nat} (h : dst = some t) (hs : b.tmps.size = a.tmps.size) : (b.put dst v).tmps[t]? = (a.put dst v).tmps[t]? := by
  subst h
  simp [Act.put, Array.getElem?_setIfInBounds, hs]

theorem put_again (a : Act) (dst : Option Tmp) (v : Value) : (a.put dst v).put dst v = a.put dst v := by
  cases dst with
  | none => rfl
  | some d => simp [Act.put]

theorem Sim.ghost {h : H} {w : World} {ob : Obj} (hs : Sim P ρ h w) : Sim P ρ (h.push ob) w :=
  ⟨fun i B hB => by
    obtain ⟨o, o', h1, h2, h3⟩ := hs.live i B hB
    exact ⟨o, o', by rw [Array.getElem?_push, if_neg (by have := hs.lt hB; omega)]; exact h1, h2, h3⟩,
   fun i hi => by rw [Array.getElem?_push, if_neg (by have := hs.lt hi; omega)]; exact hs.dead i hi, hs.one⟩

theorem Later.ghost {ρ0 : Ren} {h0 h : H} {w0 w : World} {ob : Obj} (hl : Later ρ0 h0 w0 ρ h w) : Later ρ0 h0 w0 ρ (h.push ob) w :=
  ⟨hl.le, by have := hl.size; simp; omega, hl.wsize, hl.os, hl.tape, hl.output, fun i hi hn => by
    have := hl.size
    rw [Array.getElem?_push, if_neg (by omega)]; exact hl.none i hi hn, hl.frame, hl.fresh⟩

theorem ready_ne {ops : Array Oper} {listed : Array Bool} (hf : forward ops = true) (hs : listed.size = ops.size) : ∀ (j : Nat), j < ops.size → listed.getD j true = false → Region.ready .any ops listed ≠ [] := by
  intro j
  induction j using Nat.strongRecOn with
  | _ j ih =>
    intro hj hun
    by_cases hex : ∃ k, k < j ∧ listed.getD k true = false
    · obtain ⟨k, hk, hku⟩ := hex
      exact ih k hk (by omega) hku
    · have : j ∈ Region.ready .any ops listed := by
        rw [mem_ready]
        refine ⟨hun, ops[j], Array.getElem?_eq_getElem hj, fun e he hb => ?_⟩
        have h1 := List.all_eq_true.1 hf j (List.mem_range.2 hj)
        rw [Array.getElem?_eq_getElem hj] at h1
        obtain ⟨k, hk, hke⟩ := Array.getElem_of_mem he
        have h2 := Array.all_eq_true.1 h1 k hk
        rw [hke, hb] at h2
        have hlt : e.on < j := by simpa using h2
        have h3 : ¬ listed.getD e.on true = false := fun h => hex ⟨e.on, hlt, h⟩
        have h4 : e.on < listed.size := by omega
        simp [h4] at h3 ⊢
        exact h3
      intro h0
      rw [h0] at this
      cases this

theorem Good.agree {ops : Array Oper} {F : Facts} {z : Nat} {a b : Act} {h : H} {Pn : List Pd} (hg : Good P ops F z ρ a b h Pn) {o : Oper}
    (hno : ∀ p ∈ Pn, ∀ d, p.o.dst = some d → d ∉ o.looksAt ops) : ∀ t ∈ o.looksAt ops, b.tmps[t]? = a.tmps[t]? :=
  fun t ht => hg.off t fun p hp he => hno p hp t he ht

theorem nodup_same : ∀ (Pn : List Pd), (Pn.map (·.i)).Nodup → ∀ p ∈ Pn, ∀ q ∈ Pn, q.i = p.i → q = p := by
  intro Pn
  induction Pn with
  | nil => intro _ p hp; cases hp
  | cons r Pn ih =>
    intro hn p hp q hq he
    rw [List.map_cons, List.nodup_cons] at hn
    rcases List.mem_cons.1 hp with rfl | hp2 <;> rcases List.mem_cons.1 hq with rfl | hq2
    · rfl
    · exact absurd (List.mem_map.2 ⟨q, hq2, he⟩) hn.1
    · exact absurd (List.mem_map.2 ⟨p, hp2, he.symm⟩) hn.1
    · exact ih hn.2 p hp2 q hq2 he

theorem nodup_filter : ∀ (Pn : List Pd), (Pn.map (·.i)).Nodup → ∀ p ∈ Pn, (Pn.filter fun q => q.i != p.i).length + 1 = Pn.length := by
  intro Pn
  induction Pn with
  | nil => intro _ p hp; cases hp
  | cons r Pn ih =>
    intro hn p hp
    rw [List.map_cons, List.nodup_cons] at hn
    rcases List.mem_cons.1 hp with rfl | hp
    · have : (Pn.filter fun q => q.i != p.i) = Pn := by
        rw [List.filter_eq_self]
        intro q hq
        simp only [bne_iff_ne, ne_eq]
        intro he
        exact hn.1 (List.mem_map.2 ⟨q, hq, he⟩)
      simp [this]
    · have hne : r.i ≠ p.i := fun he => hn.1 (List.mem_map.2 ⟨p, hp, he.symm⟩)
      have := ih hn.2 p hp
      simp [hne]
      omega

theorem step_pending {r : Option Nat} {ops : Array Oper} {F : Facts} {ρ0 : Ren} {h0 h : H} {w0 w : World} {a b b' : Act} {Pn : List Pd} {p : Pd} {LR : Array Bool} {Q : Exit → Act → World → Prop} {X : Act → World → Prop}
    (hg : Good P ops F h0.size ρ a b h Pn) (hp : p ∈ Pn) (hr : p.i ∈ Region.ready .any ops LR) (hun : ∀ q ∈ Pn, LR.getD q.i true = false)
    (hl : Later ρ0 h0 w0 ρ h w) (hs : Sim P ρ h w) (ha : ActRel P ρ b b')
    (hX : ∀ ρ1 b1 b1' w1, Good P ops F h0.size ρ1 a b1 h (Pn.filter fun q => q.i != p.i) → Later ρ0 h0 w0 ρ1 h w1 → Sim P ρ1 h w1 → ActRel P ρ1 b1 b1' → X b1' w1) :
    wpOpIn (Wd r) 0 P ops Q p.i X b' w := by
  obtain ⟨hop, hput, hown, hkind⟩ := hg.each p hp
  have same : ∀ q ∈ Pn, q.i = p.i → q = p := nodup_same Pn hg.nd p hp
  have hno : ∀ q ∈ Pn, ∀ d, q.o.dst = some d → d ∉ p.o.looksAt ops := fun q hq d hd hin => by
    by_cases he : q.i = p.i
    · rw [same q hq he] at hd; exact hown d hd hin
    · have := ((hg.pair p hp q hq (Ne.symm he)).1 d hd).2 hin
      rw [waits_false hr (hun q hq)] at this
      cases this
  have hag := hg.agree hno
  have hev := slots_eval hag
  have hwt := slots_wanted hag
  have good : ∀ ρ1, (∀ k, k < h.size → ρ k = none → (∀ n ob, p.n = some (n, ob) → k ≠ n) → ρ1 k = none) → Good P ops F h0.size ρ1 a (b.put p.o.dst p.v) h (Pn.filter fun q => q.i != p.i) := by
    intro ρ1 hh
    refine ⟨hg.nd.sublist (List.filter_sublist.map _), (put_size _ _ _).trans hg.size, (put_defers _ _ _).trans hg.defs, fun t ht => ?_, fun q hq => ?_, fun q hq r hr2 => ?_⟩
    · by_cases hd : p.o.dst = some t
      · rw [put_slot_same hd hg.size, hput]
      · rw [put_slot hd]
        refine hg.off t fun q hq he => ?_
        by_cases hqi : q.i = p.i
        · rw [same q hq hqi] at he; exact hd he
        · exact ht q (List.mem_filter.2 ⟨hq, by simpa using hqi⟩) he
    · obtain ⟨hq1, hq2⟩ := List.mem_filter.1 hq
      obtain ⟨k1, k2, k3, k4⟩ := hg.each q hq1
      refine ⟨k1, k2, k3, ?_⟩
      unfold Pd.kind at k4 ⊢
      cases hqn : q.n with
      | none => rw [hqn] at k4; exact k4
      | some nb =>
        obtain ⟨n, ob⟩ := nb
        rw [hqn] at k4
        obtain ⟨c1, c2, c3, c4, c5⟩ := k4
        refine ⟨c1, hh n (Array.getElem?_eq_some_iff.1 c4).1 c2 fun m ob' hm => ?_, c3, c4, c5⟩
        exact (hg.pair q hq1 p hp (by simpa using hq2)).2 n ob m ob' hqn hm
    · exact hg.pair q (List.mem_filter.1 hq).1 r (List.mem_filter.1 hr2).1
  have unwanted : Region.wanted p.o (yielded ops a.tmps) = false → p.v = undef → wpOpIn (Wd r) 0 P ops Q p.i X b' w := fun h1 h2 => by
    unfold wpOpIn
    simp only [hop]
    rw [wanted_rel ha, hwt, h1]
    simp only [Bool.false_eq_true, if_false]
    refine ⟨fun _ _ => trivial, hX ρ (b.put p.o.dst p.v) _ w (good ρ fun k _ hk _ => hk) hl hs ?_⟩
    rw [h2]; exact ha.put p.o.dst undef_rel
  unfold Pd.kind at hkind
  cases hpn : p.n with
  | none =>
    rw [hpn] at hkind
    obtain ⟨c1, c2, _⟩ := hkind
    rcases c2 h c1 with ⟨c3, c4⟩ | ⟨c3, c4⟩
    · rw [← aop_congr hev] at c4
      obtain ⟨v', w1, ρ1, e1, e2, e3, e4⟩ := aop_does hs ha c4
      unfold wpOpIn
      simp only [hop]
      rw [wanted_rel ha, hwt, c3]
      simp only [if_true]
      have hgd := good ρ1 fun k hk hk0 _ => (e2.none k hk hk0).1
      exact wpIn_val e1 (hX ρ1 _ _ w1 hgd (hl.trans e2) e3 ((ha.mono e2.le).put p.o.dst e4))
    · exact unwanted c3 c4
  | some nb =>
    obtain ⟨n, ob⟩ := nb
    rw [hpn] at hkind
    obtain ⟨c1, c2, c3, c4, c5, c6, c7, c8⟩ := hkind
    have c9 := c8 h
    rw [← aop_congr hev] at c9
    obtain ⟨v', w1, ρ1, e1, e2, e3, e4⟩ := aop_does hs ha c9
    obtain ⟨ρ2, r1, r2, r3, r4, r5⟩ := reveal hl hs c2 c3 c4 c6 c5 e2 e3
    have hv := r5 _ _ (refOf_reblock c7 h.size) e4
    rw [reblock_twice, reblock_self c7] at hv
    unfold wpOpIn
    simp only [hop]
    rw [wanted_rel ha, hwt, c1]
    simp only [if_true]
    have hgd := good ρ2 fun k hk hk0 hne => r4 k hk (hne n ob hpn) hk0
    exact wpIn_val e1 (hX ρ2 _ _ w1 hgd r1 r2 ((ha.mono r3).put p.o.dst hv))

theorem step_alone {r : Option Nat} {ops : Array Oper} {F : Facts} {ρ0 : Ren} {h0 h : H} {w0 w : World} {a b b' : Act} {Pn : List Pd} {i : Nat} {Q : Exit → Act → World → Prop} {X : Act → World → Prop} {K2 : Act → H → Prop}
    (hg : Good P ops F h0.size ρ a b h Pn) (hnw : ∀ p ∈ Pn, waits ops i p.i = false) (hcalm : ∀ p ∈ Pn, calm ops i p.i = true) (ho : AOp P Γ ops i (fun a h => (∀ x ∈ keeps ops i F, x.2 h) ∧ K2 a h) a h)
    (hG : Glob Γ ρ0 w0) (hl : Later ρ0 h0 w0 ρ h w) (hs : Sim P ρ h w) (ha : ActRel P ρ b b')
    (hX : ∀ ρ1 a1 b1 b1' h1 w1, K2 a1 h1 → (∀ x ∈ keeps ops i F, x.2 h1) → Good P ops (keeps ops i F) h0.size ρ1 a1 b1 h1 Pn → Later ρ0 h0 w0 ρ1 h1 w1 → Sim P ρ1 h1 w1 → ActRel P ρ1 b1 b1' → X b1' w1) :
    wpOpIn (Wd r) 0 P ops Q i X b' w := by
  cases hop : ops[i]? with
  | none =>
    unfold AOp at ho
    unfold wpOpIn
    simp only [hop] at ho ⊢
    cases Pn with
    | cons p Pn =>
      have := hcalm p (by simp)
      unfold calm at this
      rw [hop] at this
      cases this
    | nil =>
      refine hX ρ a b b' h w ho.2 ho.1 ?_ hl hs ha
      exact ⟨by simp, hg.size, hg.defs, hg.off, fun p hp => (by cases hp), fun p hp => (by cases hp)⟩
  | some o =>
    have spec := fun p hp => calm_spec hop (hg.each p hp).1 (hcalm p hp)
    have hno : ∀ p ∈ Pn, ∀ d, p.o.dst = some d → d ∉ o.looksAt ops := fun p hp d hd hin => by
      have := (spec p hp).2 d hd hin
      rw [hnw p hp] at this
      cases this
    have hag := hg.agree hno
    have hev := slots_eval hag
    have hwt := slots_wanted hag
    have good : ∀ ρ1 h1 u, (∀ x ∈ keeps ops i F, x.2 h1) → (∀ k, k < h.size → ρ k = none → ρ1 k = none ∧ h1[k]? = h[k]?) → Good P ops (keeps ops i F) h0.size ρ1 (a.put o.dst u) (b.put o.dst u) h1 Pn := by
      intro ρ1 h1 u hF hh
      refine ⟨hg.nd, by rw [put_size, put_size]; exact hg.size, by rw [put_defers, put_defers]; exact hg.defs, fun t ht => ?_, fun p hp => ?_, hg.pair⟩
      · by_cases hd : o.dst = some t
        · exact put_slot_same hd hg.size
        · rw [put_slot hd, put_slot hd]; exact hg.off t ht
      · obtain ⟨k1, k2, k3, k4⟩ := hg.each p hp
        have hlk : ∀ d, o.dst = some d → d ∉ p.o.looksAt ops := fun d hd => ((spec p hp).1 d hd).1
        refine ⟨k1, ?_, k3, ?_⟩
        · rw [← Act.put_comm a p.v u fun d hd hd2 => ((spec p hp).1 d hd2).2 hd, k2]
        · unfold Pd.kind at k4 ⊢
          cases hpn : p.n with
          | none =>
            rw [hpn] at k4
            obtain ⟨c1, c2, c3⟩ := k4
            refine ⟨?_, fun h' hh' => (c2 h' hh').put hlk, c3.imp (fun hm => ?_) id⟩
            · rcases c3 with hm | hall
              · exact hF (p.i, p.g) (List.mem_filter.2 ⟨hm, by simp [hnw p hp]⟩)
              · exact hall h1
            · exact List.mem_filter.2 ⟨hm, by simp [hnw p hp]⟩
          | some nb =>
            obtain ⟨n, ob⟩ := nb
            rw [hpn] at k4
            obtain ⟨c1, c2, c3, c4, c5, c6, c7, c8⟩ := k4
            have hlt := (Array.getElem?_eq_some_iff.1 c4).1
            refine ⟨?_, (hh n hlt c2).1, c3, (hh n hlt c2).2.trans c4, c5, c6, c7, fun g => ?_⟩
            · rw [wanted_put p.o a o.dst u hlk]; exact c1
            · rw [aop_put hlk]; exact c8 g
    unfold AOp at ho
    unfold wpOpIn
    simp only [hop] at ho ⊢
    rw [wanted_rel ha, hwt]
    split
    · rename_i hw
      simp only [hw, if_true] at ho
      rcases ho with ⟨v, h1, e1, e2⟩ | ⟨f, args, h1, R, e1, e2, e3⟩
      · rw [← aop_congr hev] at e1
        obtain ⟨v', w1, ρ1, g1, g2, g3, g4⟩ := aop_does hs ha e1
        have hgd := good ρ1 h1 v e2.1 g2.none
        exact wpIn_val g1 (hX ρ1 _ _ _ h1 w1 e2.2 e2.1 hgd (hl.trans g2) g3 ((ha.mono g2.le).put o.dst g4))
      · rw [← aop_congr hev] at e1
        obtain ⟨args', w1, ρ1, g1, g2, g3, g4⟩ := aop_does hs ha e1
        refine wpIn_enter g1 (e2 ρ h w (hG.later hl) ρ1 args' w1 g2 g3 g4) ?_
        rintro e w2 ⟨v', rfl, ρ2, v, h2, k1, k2, k3, k4⟩
        have := e3 v h2 k1
        exact ⟨v', rfl, hX ρ2 _ _ _ h2 w2 this.2 this.1 (good ρ2 h2 v this.1 k2.none) (hl.trans k2) k3 ((ha.mono k2.le).put o.dst k4)⟩
    · rename_i hw
      simp only [hw] at ho
      exact ⟨fun _ _ => trivial, hX ρ _ _ _ h w ho.2 ho.1 (good ρ h undef ho.1 fun k _ hk => ⟨hk, rfl⟩) hl hs (ha.put o.dst undef_rel)⟩

theorem planned_cons {ops : Array Oper} {i : Nat} {e : Bool} {L : List (Nat × Bool)} {mp : List Nat} {listed : Array Bool} (h : planned ops ((i, e) :: L) mp listed = true) :
    ∃ o, ops[i]? = some o ∧ planned ops L (if e = true then i :: mp else mp.filter fun p => !waits ops i p) (listed.setIfInBounds i true) = true ∧
      if e = true then early o = true ∧ i ∈ Region.ready .any ops listed ∧ (∀ p ∈ mp, calm ops i p = true) ∧ (∀ d, o.dst = some d → d ∉ o.looksAt ops)
      else Region.ready .any ops listed = [i] ∧ ∀ p ∈ mp, waits ops i p = false → calm ops i p = true := by
  unfold planned at h
  rw [Bool.and_eq_true] at h
  obtain ⟨h1, h2⟩ := h
  cases ho : ops[i]? with
  | none => rw [ho] at h1; cases h1
  | some o =>
    rw [ho] at h1
    refine ⟨o, rfl, h2, ?_⟩
    dsimp only at h1
    split
    · rename_i he
      rw [if_pos he] at h1
      simp only [Bool.and_eq_true] at h1
      obtain ⟨⟨⟨a1, a2⟩, a3⟩, a4⟩ := h1
      refine ⟨a1, by simpa using a2, fun p hp => List.all_eq_true.1 a3 p hp, fun d hd => ?_⟩
      unfold own at a4
      rw [hd] at a4
      simpa using a4
    · rename_i he
      rw [if_neg he] at h1
      simp only [Bool.and_eq_true] at h1
      exact ⟨by simpa using h1.1, fun p hp hw => List.all_eq_true.1 h1.2 p (List.mem_filter.2 ⟨hp, by simp [hw]⟩)⟩

/-- What the run has listed, beside what the plan has. -/
def LRel (LA LR : Array Bool) (Pn : List Pd) : Prop := LR.size = LA.size ∧ (∀ j, LR.getD j true = (LA.getD j true && Pn.all fun p => p.i != j)) ∧ ∀ p ∈ Pn, p.i < LA.size ∧ LA.getD p.i true = true

theorem LRel.unlisted {LA LR : Array Bool} {Pn : List Pd} (h : LRel LA LR Pn) {p : Pd} (hp : p ∈ Pn) : LR.getD p.i true = false := by
  rw [h.2.1]
  have : (Pn.all fun q => q.i != p.i) = false := by
    rw [List.all_eq_false]
    exact ⟨p, hp, by simp⟩
  rw [this, Bool.and_false]

theorem getD_of {x : Array Bool} {j : Nat} (h : x.getD j false = true) : x.getD j true = true := by
  by_cases hj : j < x.size
  · simp [hj] at h ⊢; exact h
  · simp [hj] at h ⊢

theorem getD_to {x : Array Bool} {j : Nat} (hj : j < x.size) (h : x.getD j true = true) : x.getD j false = true := by
  simp [hj] at h ⊢; exact h

theorem getD_lt {x : Array Bool} {j : Nat} (h : x.getD j false = true) : j < x.size := by
  by_cases hj : j < x.size
  · exact hj
  · simp [hj] at h

/-- What the run may do, the plan may do, or has done. -/
theorem LRel.ready {ops : Array Oper} {LA LR : Array Bool} {Pn : List Pd} (h : LRel LA LR Pn) {j : Nat} (hj : j ∈ Region.ready .any ops LR) : (∃ p ∈ Pn, p.i = j) ∨ j ∈ Region.ready .any ops LA := by
  obtain ⟨h1, o, h2, h3⟩ := mem_ready.1 hj
  rw [h.2.1, Bool.and_eq_false_iff] at h1
  rcases h1 with h1 | h1
  · refine .inr (mem_ready.2 ⟨h1, o, h2, fun e he hb => ?_⟩)
    have h4 := h3 e he hb
    have h5 := getD_lt h4
    have h6 := getD_of h4
    rw [h.2.1, Bool.and_eq_true] at h6
    exact getD_to (by rw [← h.1]; exact h5) h6.1
  · rw [List.all_eq_false] at h1
    obtain ⟨p, hp, he⟩ := h1
    exact .inl ⟨p, hp, by simpa using he⟩

theorem getD_set {x : Array Bool} {i j : Nat} (hi : i < x.size) : (x.setIfInBounds i true).getD j true = (x.getD j true || i == j) := by
  by_cases hij : i = j
  · subst hij; simp [hi]
  · rw [getD_set_ne true hij]
    simp [hij]

theorem LRel.done {LA LR : Array Bool} {Pn : List Pd} (h : LRel LA LR Pn) {p : Pd} (hp : p ∈ Pn) : LRel LA (LR.setIfInBounds p.i true) (Pn.filter fun q => q.i != p.i) := by
  obtain ⟨h1, h2, h3⟩ := h
  refine ⟨by simpa using h1, fun j => ?_, fun q hq => h3 q (List.mem_filter.1 hq).1⟩
  rw [getD_set (by rw [h1]; exact (h3 p hp).1), h2]
  by_cases hj : p.i = j
  · subst hj
    have : ((Pn.filter fun q => q.i != p.i).all fun q => q.i != p.i) = true := by
      rw [List.all_eq_true]; intro q hq; exact (List.mem_filter.1 hq).2
    rw [this, (h3 p hp).2]; simp
  · have : ((Pn.filter fun q => q.i != p.i).all fun q => q.i != j) = (Pn.all fun q => q.i != j) := by
      rw [Bool.eq_iff_iff, List.all_eq_true, List.all_eq_true]
      refine ⟨fun hh q hq => ?_, fun hh q hq => hh q (List.mem_filter.1 hq).1⟩
      by_cases hqp : q.i = p.i
      · rw [hqp]; simpa using hj
      · exact hh q (List.mem_filter.2 ⟨hq, by simpa using hqp⟩)
    rw [this]; simp [hj]

theorem LRel.fresh {LA LR : Array Bool} {Pn : List Pd} (h : LRel LA LR Pn) {i : Nat} (hi : LA.getD i true = false) : ∀ p ∈ Pn, p.i ≠ i := by
  rintro p hp rfl
  rw [(h.2.2 p hp).2] at hi
  cases hi

theorem getD_size {x : Array Bool} {i : Nat} (hi : x.getD i true = false) : i < x.size := by
  by_cases h : i < x.size
  · exact h
  · simp [h] at hi

theorem LRel.take {LA LR : Array Bool} {Pn : List Pd} (h : LRel LA LR Pn) {p : Pd} (hi : LA.getD p.i true = false) : LRel (LA.setIfInBounds p.i true) LR (p :: Pn) := by
  have hlt := getD_size hi
  obtain ⟨h1, h2, h3⟩ := h
  refine ⟨by simpa using h1, fun j => ?_, fun q hq => ?_⟩
  · rw [getD_set hlt, h2, List.all_cons]
    by_cases hj : p.i = j
    · subst hj; simp [hi]
    · have e1 : (p.i == j) = false := by simpa using hj
      have e2 : (p.i != j) = true := by simpa using hj
      rw [e1, e2, Bool.or_false, Bool.true_and]
  · rw [getD_set hlt]
    rcases List.mem_cons.1 hq with rfl | hq
    · simpa using hlt
    · have := h3 q hq
      simp only [Array.size_setIfInBounds]
      exact ⟨this.1, by rw [this.2]; simp⟩

theorem LRel.both {LA LR : Array Bool} {Pn : List Pd} (h : LRel LA LR Pn) {i : Nat} (hi : LA.getD i true = false) : LRel (LA.setIfInBounds i true) (LR.setIfInBounds i true) Pn := by
  have hlt := getD_size hi
  have hno := h.fresh hi
  obtain ⟨h1, h2, h3⟩ := h
  refine ⟨by simpa using h1, fun j => ?_, fun q hq => ?_⟩
  · rw [getD_set hlt, getD_set (by rw [h1]; exact hlt), h2]
    by_cases hj : i = j
    · subst hj
      have : (Pn.all fun p => p.i != i) = true := by
        rw [List.all_eq_true]; intro q hq; simpa using hno q hq
      rw [this]; simp
    · have e1 : (i == j) = false := by simpa using hj
      rw [e1, Bool.or_false, Bool.or_false]
  · rw [getD_set hlt]
    have := h3 q hq
    simp only [Array.size_setIfInBounds]
    exact ⟨this.1, by rw [this.2]; simp⟩

theorem good_early {ops : Array Oper} {F F' : Facts} {z : Nat} {a b : Act} {h h' : H} {Pn : List Pd} {p : Pd} (hg : Good P ops F z ρ a b h Pn) (hop : ops[p.i]? = some p.o) (hne : ∀ q ∈ Pn, q.i ≠ p.i)
    (hcalm : ∀ q ∈ Pn, calm ops p.i q.i = true) (hown : ∀ d, p.o.dst = some d → d ∉ p.o.looksAt ops) (hF : ∀ x ∈ F, x.2 h') (hFF : ∀ x ∈ F, x ∈ F') (hh : ∀ k, k < h.size → h'[k]? = h[k]?)
    (hk : p.kind P ops F' z ρ (a.put p.o.dst p.v) h') (hnew : ∀ n ob, p.n = some (n, ob) → h.size ≤ n) : Good P ops F' z ρ (a.put p.o.dst p.v) b h' (p :: Pn) := by
  have spec := fun q hq => calm_spec hop (hg.each q hq).1 (hcalm q hq)
  refine ⟨?_, hg.size.trans (put_size _ _ _).symm, hg.defs.trans (put_defers _ _ _).symm, fun t ht => ?_, fun q hq => ?_, fun q hq r hr hqr => ?_⟩
  · rw [List.map_cons, List.nodup_cons]
    refine ⟨fun hm => ?_, hg.nd⟩
    obtain ⟨q, hq, he⟩ := List.mem_map.1 hm
    exact hne q hq he
  · rw [put_slot (ht p (by simp))]
    exact hg.off t fun q hq => ht q (by simp [hq])
  · rcases List.mem_cons.1 hq with rfl | hq
    · exact ⟨hop, put_again _ _ _, hown, hk⟩
    · obtain ⟨k1, k2, k3, k4⟩ := hg.each q hq
      have hlk : ∀ d, p.o.dst = some d → d ∉ q.o.looksAt ops := fun d hd => ((spec q hq).1 d hd).1
      refine ⟨k1, ?_, k3, ?_⟩
      · rw [← Act.put_comm a q.v p.v fun d hd hd2 => ((spec q hq).1 d hd2).2 hd, k2]
      · unfold Pd.kind at k4 ⊢
        cases hqn : q.n with
        | none =>
          rw [hqn] at k4
          obtain ⟨c1, c2, c3⟩ := k4
          exact ⟨c3.elim (fun hm => hF _ hm) fun hall => hall h', fun h2 hh2 => (c2 h2 hh2).put hlk, c3.imp (hFF _) id⟩
        | some nb =>
          obtain ⟨n, ob⟩ := nb
          rw [hqn] at k4
          obtain ⟨c1, c2, c3, c4, c5, c6, c7, c8⟩ := k4
          refine ⟨?_, c2, c3, (hh n (Array.getElem?_eq_some_iff.1 c4).1).trans c4, c5, c6, c7, fun g => ?_⟩
          · rw [wanted_put q.o a p.o.dst p.v hlk]; exact c1
          · rw [aop_put hlk]; exact c8 g
  · have hlt : ∀ q ∈ Pn, ∀ n ob, q.n = some (n, ob) → n < h.size := fun q hq n ob hqn => by
      have k4 := (hg.each q hq).2.2.2
      unfold Pd.kind at k4
      rw [hqn] at k4
      exact (Array.getElem?_eq_some_iff.1 k4.2.2.2.1).1
    rcases List.mem_cons.1 hq with rfl | hq2 <;> rcases List.mem_cons.1 hr with rfl | hr2
    · exact absurd rfl hqr
    · refine ⟨fun d hd => ⟨fun hd2 => ((spec r hr2).1 d hd2).2 hd, (spec r hr2).2 d hd⟩, fun n ob m ob' h1 h2 => ?_⟩
      have := hnew n ob h1
      have := hlt r hr2 m ob' h2
      omega
    · refine ⟨fun d hd => ⟨((spec q hq2).1 d hd).2, fun hin => absurd hin ((spec q hq2).1 d hd).1⟩, fun n ob m ob' h1 h2 => ?_⟩
      have := hnew m ob' h2
      have := hlt q hq2 n ob h1
      omega
    · exact hg.pair q hq2 r hr2 hqr

theorem plan_sound {r : Option Nat} {ops : Array Oper} {K : Act → H → Prop} {ρ0 : Ren} {h0 : H} {w0 : World} (hG : Glob Γ ρ0 w0) (hfw : forward ops = true) :
    ∀ (n : Nat) (L : List (Nat × Bool)) (mp : List Nat) (F : Facts) (LA LR : Array Bool) (Pn : List Pd) (a : Act) (h : H) (ρ : Ren) (b b' : Act) (w : World),
      n = L.length + Pn.length → LA.size = ops.size → LRel LA LR Pn → planned ops L mp LA = true → (∀ p ∈ Pn, p.i ∈ mp) → Good P ops F h0.size ρ a b h Pn → (∀ x ∈ F, x.2 h) → DPlan P Γ ops K L F a h →
      Later ρ0 h0 w0 ρ h w → Sim P ρ h w → ActRel P ρ b b' → wpAnyIn (Wd r) 0 P .any ops (NPost P ρ0 h0 w0 K) n LR b' w := by
  intro n
  induction n with
  | zero =>
    intro L mp F LA LR Pn a h ρ b b' w hn hsz hLR hpl hmp hg hF hd hl hs ha
    have e1 : L = [] := List.eq_nil_of_length_eq_zero (by omega)
    have e2 : Pn = [] := List.eq_nil_of_length_eq_zero (by omega)
    subst e1; subst e2
    have hra : Region.ready .any ops LA = [] := by simpa [planned] using hpl
    refine ⟨?_, rfl, ρ, b, h, ?_, hl, hs, ha⟩
    · rw [List.eq_nil_iff_forall_not_mem]
      intro j hj
      rcases hLR.ready hj with ⟨p, hp, _⟩ | hj
      · cases hp
      · rw [hra] at hj; cases hj
    · have : b = a := by
        have ht : b.tmps = a.tmps := by
          apply Array.ext_getElem?
          intro t
          exact hg.off t fun p hp => by cases hp
        have h1 := hg.defs
        cases a; cases b
        simp only at ht h1
        rw [ht, h1]
      rw [this]; exact hd
  | succ n ih =>
    have pend : ∀ (L : List (Nat × Bool)) (mp : List Nat) (F : Facts) (LA LR : Array Bool) (Pn : List Pd) (a : Act) (h : H) (ρ : Ren) (b b' : Act) (w : World),
        n + 1 = L.length + Pn.length → LA.size = ops.size → LRel LA LR Pn → planned ops L mp LA = true → (∀ p ∈ Pn, p.i ∈ mp) → Good P ops F h0.size ρ a b h Pn → (∀ x ∈ F, x.2 h) → DPlan P Γ ops K L F a h →
        Later ρ0 h0 w0 ρ h w → Sim P ρ h w → ActRel P ρ b b' → ∀ p ∈ Pn, p.i ∈ Region.ready .any ops LR →
        wpOpIn (Wd r) 0 P ops (NPost P ρ0 h0 w0 K) p.i (fun a' w' => wpAnyIn (Wd r) 0 P .any ops (NPost P ρ0 h0 w0 K) n (LR.setIfInBounds p.i true) a' w') b' w := by
      intro L mp F LA LR Pn a h ρ b b' w hn hsz hLR hpl hmp hg hF hd hl hs ha p hp hj
      refine step_pending hg hp hj (fun q hq => hLR.unlisted hq) hl hs ha fun ρ1 b1 b1' w1 g1 g2 g3 g4 => ?_
      have hlen := nodup_filter Pn hg.nd p hp
      exact ih L mp F LA _ _ a h ρ1 b1 b1' w1 (by omega) hsz (hLR.done hp) hpl (fun q hq => hmp q (List.mem_filter.1 hq).1) g1 hF hd g2 g3 g4
    have some : ∀ (LA LR : Array Bool) (Pn : List Pd), LA.size = ops.size → LRel LA LR Pn → (∃ j, LA.getD j true = false ∨ ∃ p ∈ Pn, p.i = j) → Region.ready .any ops LR ≠ [] := by
      rintro LA LR Pn hsz hLR ⟨j, hj⟩
      have hun : LR.getD j true = false := by
        rcases hj with hj | ⟨p, hp, rfl⟩
        · rw [hLR.2.1, hj]; rfl
        · exact hLR.unlisted hp
      exact ready_ne hfw (hLR.1.trans hsz) j (by have := getD_size hun; rw [hLR.1, hsz] at this; exact this) hun
    intro L
    induction L with
    | nil =>
      intro mp F LA LR Pn a h ρ b b' w hn hsz hLR hpl hmp hg hF hd hl hs ha
      have hra : Region.ready .any ops LA = [] := by simpa [planned] using hpl
      refine ⟨fun hr => ?_, fun j hj => ?_⟩
      · exfalso
        cases Pn with
        | nil => simp at hn
        | cons p Pn => exact some LA LR _ hsz hLR ⟨p.i, .inr ⟨p, by simp, rfl⟩⟩ hr
      · rcases hLR.ready hj with ⟨p, hp, rfl⟩ | hj2
        · exact pend [] mp F LA LR Pn a h ρ b b' w hn hsz hLR hpl hmp hg hF hd hl hs ha p hp hj
        · rw [hra] at hj2; cases hj2
    | cons x L ihL =>
      obtain ⟨i, e⟩ := x
      intro mp F LA LR Pn a h ρ b b' w hn hsz hLR hpl hmp hg hF hd hl hs ha
      obtain ⟨o, ho, hpl2, hcase⟩ := planned_cons hpl
      cases e with
      | true =>
        simp only [if_true] at hpl2 hcase
        obtain ⟨hear, hrdy, hcalm, hown⟩ := hcase
        have hun := (mem_ready.1 hrdy).1
        have hne := hLR.fresh hun
        unfold DPlan at hd
        simp only [ho, if_true] at hd
        by_cases ht : takes o = true
        · rw [if_pos ht] at hd
          obtain ⟨v, hf, hd⟩ := hd
          let p : Pd := ⟨i, o, v, fun h => Finds P ops o v a h, none⟩
          refine ihL (i :: mp) (if asks o = true then (i, fun h => Finds P ops o v a h) :: F else F) _ LR (p :: Pn) (a.put o.dst v) h ρ b b' w (by simp at hn ⊢; omega) (by simpa using hsz) (hLR.take (p := p) hun) hpl2 ?_ ?_ ?_ hd hl hs ha
          · intro q hq
            rcases List.mem_cons.1 hq with rfl | hq
            · simp [p]
            · exact List.mem_cons_of_mem _ (hmp q hq)
          · refine good_early (p := p) hg ho hne (fun q hq => hcalm _ (hmp q hq)) hown hF ?_ (fun _ _ => rfl) ?_ (fun n ob h => by cases h)
            · intro x hx
              split
              · exact List.mem_cons_of_mem _ hx
              · exact hx
            · refine ⟨hf, fun h' hh' => Finds.put hown hh', ?_⟩
              by_cases hk : asks o = true
              · rw [if_pos hk]; exact .inl (by simp [p])
              · exact .inr fun h' => hf.still ht (by simpa using hk) h'
          · intro x hx
            split at hx
            · rcases List.mem_cons.1 hx with rfl | hx
              · exact hf
              · exact hF x hx
            · exact hF x hx
        · rw [if_neg ht] at hd
          have hnews : news o = true := by
            unfold early at hear
            rw [Bool.or_eq_true] at hear
            exact hear.resolve_left ht
          by_cases hw : Region.wanted o (yielded ops a.tmps) = true
          · rw [if_pos hw] at hd
            obtain ⟨v, h1, e1, e2, e3, hd⟩ := hd
            obtain ⟨ob, rfl, q2, q3, q4⟩ := aop_news hnews e1
            rw [Array.getElem?_push, if_pos rfl] at e2
            let p : Pd := ⟨i, o, v, fun _ => True, .some (h.size, ob)⟩
            refine ihL (i :: mp) F _ LR (p :: Pn) (a.put o.dst v) _ ρ b b' w (by simp at hn ⊢; omega) (by simpa using hsz) (hLR.take (p := p) hun) hpl2 ?_ ?_ e3 hd hl.ghost hs.ghost ha
            · intro q hq
              rcases List.mem_cons.1 hq with rfl | hq
              · simp [p]
              · exact List.mem_cons_of_mem _ (hmp q hq)
            · refine good_early (p := p) hg ho hne (fun q hq => hcalm _ (hmp q hq)) hown e3 (fun x hx => hx) (fun k hk => by rw [Array.getElem?_push, if_neg (by omega)]) ?_ (fun n ob h => by cases h; exact Nat.le_refl _)
              refine ⟨?_, ?_, hl.size, by rw [Array.getElem?_push, if_pos rfl], q2, by simpa using e2, q3, fun g => ?_⟩
              · rw [wanted_put o a o.dst v hown]; exact hw
              · cases hr : ρ h.size with
                | none => rfl
                | some t => exact absurd (hs.lt hr) (by omega)
              · show aop P (a.put o.dst v) o g = _
                rw [aop_put hown]; exact q4 g
          · rw [if_neg hw] at hd
            let p : Pd := ⟨i, o, undef, fun _ => True, none⟩
            refine ihL (i :: mp) F _ LR (p :: Pn) (a.put o.dst undef) _ ρ b b' w (by simp at hn ⊢; omega) (by simpa using hsz) (hLR.take (p := p) hun) hpl2 ?_ ?_ hF hd hl hs ha
            · intro q hq
              rcases List.mem_cons.1 hq with rfl | hq
              · simp [p]
              · exact List.mem_cons_of_mem _ (hmp q hq)
            · refine good_early (p := p) hg ho hne (fun q hq => hcalm _ (hmp q hq)) hown hF (fun x hx => hx) (fun _ _ => rfl) ?_ (fun n ob h => by cases h)
              refine ⟨trivial, fun h' _ => .inr ⟨?_, rfl⟩, .inr fun _ => trivial⟩
              show Region.wanted o (yielded ops (a.put o.dst undef).tmps) = false
              rw [wanted_put o a o.dst undef hown]; simpa using hw
      | false =>
        have hcase2 : Region.ready .any ops LA = [i] ∧ ∀ p ∈ mp, waits ops i p = false → calm ops i p = true := hcase
        have hpl3 : planned ops L (mp.filter fun p => !waits ops i p) (LA.setIfInBounds i true) = true := hpl2
        obtain ⟨hra, hcalm⟩ := hcase2
        have hun : LA.getD i true = false := (mem_ready.1 (by rw [hra]; simp : i ∈ Region.ready .any ops LA)).1
        refine ⟨fun hr => absurd hr (some LA LR Pn hsz hLR ⟨i, .inl hun⟩), fun j hj => ?_⟩
        rcases hLR.ready hj with ⟨p, hp, rfl⟩ | hj2
        · exact pend _ mp F LA LR Pn a h ρ b b' w hn hsz hLR hpl hmp hg hF hd hl hs ha p hp hj
        · rw [hra, List.mem_singleton] at hj2
          subst hj2
          unfold DPlan at hd
          simp only [ho] at hd
          have hnw : ∀ p ∈ Pn, waits ops j p.i = false := fun p hp => waits_false hj (hLR.unlisted hp)
          refine step_alone hg hnw (fun p hp => hcalm _ (hmp p hp) (hnw p hp)) (K2 := fun a h => DPlan P Γ ops K L (keeps ops j F) a h) hd hG hl hs ha fun ρ1 a1 b1 b1' h1 w1 k1 k2 k3 k4 k5 k6 => ?_
          exact ih L _ (keeps ops j F) _ _ Pn a1 h1 ρ1 b1 b1' w1 (by simp at hn; omega) (by simpa using hsz) (hLR.both hun) hpl3 (fun p hp => List.mem_filter.2 ⟨hmp p hp, by simp [hnw p hp]⟩) k3 k2 k1 k4 k5 k6

/-- **A region that draws its order, by a plan.** -/
theorem ACode.plan {ops : Array Oper} {id : Nat} {a : Act} {h : H} {Q : Exit → Act → H → Prop} (hm : P.follows .mixedOrders = true) (L : List (Nat × Bool)) (hL : L.length = ops.size) (hfw : forward ops = true)
    (hp : planned ops L [] (Array.replicate ops.size false) = true) (hd : DPlan P Γ ops (fun a h => Q .normal a h) L [] a h) : ACode P Γ (.region id ops true) a h Q :=
  fun ρ0 h0 w0 hG r hrr ρ a' w hl hs ha => by
    refine wpIn_mono (wpIn_region_any hm (plan_sound (ρ0 := ρ0) (h0 := h0) (w0 := w0) hG hfw ops.size L [] [] (Array.replicate ops.size false) (Array.replicate ops.size false) [] a h ρ a a' _ (by simp [hL]) (by simp) ?_ hp (fun p hp => by cases hp) ?_
      (fun x hx => by cases hx) hd (hl.trans (Later.drew ρ h w _)) (hs.drew _) ha)) ?_
    · exact ⟨rfl, fun j => by simp, fun p hp => by cases hp⟩
    · exact ⟨by simp, rfl, rfl, fun _ _ => rfl, (fun p hp => by cases hp), (fun p hp => by cases hp)⟩
    · rintro e a w ⟨rfl, ρ1, a1, h1, h2⟩
      exact ⟨rfl, ρ1, a1, h1, h2⟩

end Go.Abs

/-
The abstract heap: strings and rows of bytes.
-/
namespace Go.Abs
open Go
variable {P : Program} {Γ : Gl} {ρ : Ren} {α β : Type}

/-- A program that does not write. -/
def mild (P : Program) : Sem α → Prop
  | .pure _ => True
  | .program k => mild P (k P)
  | .mark _ k => mild P k
  | .load _ _ k => ∀ v, mild P (k v)
  | .getObj _ k => ∀ o, mild P (k o)
  | .store _ _ _ _ | .new _ _ | .setObj _ _ _ => False
  | _ => True

theorem quiet_mild (s : Sem α) (h : quiet P s) : mild P s := by
  induction s with
  | pure a => trivial
  | program k ih => exact ih P h
  | mark m k ih => exact ih h
  | load => exact h.elim
  | store => exact h.elim
  | new => exact h.elim
  | getObj => exact h.elim
  | setObj => exact h.elim
  | _ => trivial

theorem mild_bind' (s : Sem α) (f : α → Sem β) (hs : mild P s) (hf : ∀ a, mild P (f a)) : mild P (s.bind f) := by
  induction s with
  | pure a => exact hf a
  | program k ih => exact ih P hs
  | mark m k ih => exact ih hs
  | load m a k ih => exact fun v => ih v (hs v)
  | getObj r k ih => exact fun o => ih o (hs o)
  | store => exact hs.elim
  | new => exact hs.elim
  | setObj => exact hs.elim
  | shape => trivial
  | freeze => trivial
  | frozen => trivial
  | choose => trivial
  | sys => trivial
  | halt => trivial

theorem mild_bind {s : Sem α} {f : α → Sem β} (hs : mild P s) (hf : ∀ a, mild P (f a)) : mild P (s >>= f) := mild_bind' s f hs hf
theorem mild_of {s : Sem α} {f : α → Sem β} (hs : quiet P s) (hf : ∀ a, mild P (f a)) : mild P (s >>= f) := mild_bind (quiet_mild s hs) hf

theorem mild_run (s : Sem α) (hs : mild P s) (h : H) (a : α) (h1 : H) (hr : arun P s h = some (a, h1)) : h1 = h := by
  induction s with
  | pure x => simp only [arun, Option.some.injEq, Prod.mk.injEq] at hr; exact hr.2.symm
  | program k ih => exact ih P hs hr
  | mark m k ih =>
    simp only [arun] at hr
    split at hr
    · cases hr
    · exact ih hs hr
  | load m ad k ih =>
    simp only [arun] at hr
    split at hr
    · split at hr
      · exact ih _ (hs _) hr
      · cases hr
    · cases hr
  | getObj r k ih =>
    simp only [arun] at hr
    split at hr
    · split at hr
      · exact ih _ (hs _) hr
      · cases hr
    · cases hr
  | store => exact hs.elim
  | new => exact hs.elim
  | setObj => exact hs.elim
  | shape => simp [arun] at hr
  | freeze => simp [arun] at hr
  | frozen => simp [arun] at hr
  | choose => simp [arun] at hr
  | sys => simp [arun] at hr
  | halt => simp [arun] at hr

theorem mild_loadCells (a : Addr) : ∀ (n i : Nat) (acc : Array Value), mild P (Go.loadCellsFrom a i n acc) := by
  intro n
  induction n with
  | zero => intro i acc; trivial
  | succ n ih => intro i acc v; exact ih _ _
theorem mild_loadVar (t : TypeId) (a : Addr) : mild P (Go.loadVar t a) := by
  refine mild_of (quiet_isAgg t) fun b => ?_
  split
  · exact mild_of (quiet_sizeOf t) fun n => mild_bind (mild_loadCells a n 0 #[]) fun _ => trivial
  · exact fun _ => trivial
theorem mild_loadAt (t : TypeId) (v : Value) : mild P (Instr.loadAt t v) := mild_of (quiet_sureAddr v) fun a => mild_loadVar t a
theorem quiet_findAsking (t : TypeId) (k : Value) : ∀ (es : List MapEntry) (i : Nat), quiet P (Instr.findAsking t k es i) := by
  intro es
  induction es with
  | nil => intro i; trivial
  | cons e es ih =>
    intro i
    refine quiet_bind _ _ (quiet_equalIn _ _ _ _) fun b => ?_
    split
    · trivial
    · exact ih _
theorem quiet_findKey (t : TypeId) (k : Value) (es : List MapEntry) : quiet P (Instr.findKey t k es) := by
  refine quiet_bind _ _ (quiet_underlying t) fun d => ?_
  split
  · trivial
  · exact quiet_findAsking _ _ _ _
theorem mild_lookup (t : TypeId) (x i : Value) (ok : Bool) : mild P (Instr.lookup t x i ok) := by
  refine mild_of (quiet_underlying t) fun d => ?_
  split
  · dsimp only
    split
    · refine mild_bind (s := Pure.pure #[]) trivial fun es => quiet_mild _ (quiet_bind _ _ (quiet_checkKey _ _ _ _) fun _ => quiet_bind _ _ (quiet_findKey _ _ _) fun r => ?_)
      split
      · trivial
      · exact quiet_bind _ _ (quiet_zeroValue _) fun _ => trivial
    · refine mild_bind (fun o => trivial) fun o => ?_
      split
      · refine mild_bind (s := Pure.pure _) trivial fun es => quiet_mild _ (quiet_bind _ _ (quiet_checkKey _ _ _ _) fun _ => quiet_bind _ _ (quiet_findKey _ _ _) fun r => ?_)
        split
        · trivial
        · exact quiet_bind _ _ (quiet_zeroValue _) fun _ => trivial
      · trivial
    · trivial
  · trivial
theorem quiet_sliceBound (v : Value) (n : Nat) (c : BoundsCode) : quiet P (Instr.sliceBound v n c) := by
  refine quiet_bind _ _ (quiet_asIntOf v) fun k => ?_
  dsimp only
  by_cases hc : 0 ≤ k.2 ∧ k.2 ≤ (n : Int)
  · rw [if_pos hc]; trivial
  · rw [if_neg hc]; exact quiet_bounds _ _ _ _
theorem quiet_pureBind (a : α) (f : α → Sem β) (hf : quiet P (f a)) : quiet P (Pure.pure a >>= f) := hf
theorem quiet_sliceBounds (b : Bool) (n c : Nat) (lo hi mx : Option Value) : quiet P (Instr.sliceBounds b n c lo hi mx) := by
  unfold Instr.sliceBounds
  dsimp only
  have tail : ∀ (m h : Nat), quiet P (match lo with
      | some v => do
        let l ← Instr.sliceBound v h (if mx.isSome = true then BoundsCode.slice3C else BoundsCode.sliceB)
        Pure.pure (l, h, m)
      | none => do
        let l ← Pure.pure 0
        Pure.pure (l, h, m)) := by
    intro m h
    cases lo with
    | none => exact True.intro
    | some v => exact quiet_bind _ _ (quiet_sliceBound _ _ _) fun _ => True.intro
  cases mx with
  | none =>
    refine quiet_pureBind c _ ?_
    cases hi with
    | none => exact quiet_pureBind n _ (tail c n)
    | some v => exact quiet_bind _ _ (quiet_sliceBound _ _ _) fun h => tail c h
  | some x =>
    refine quiet_bind _ _ (quiet_sliceBound _ _ _) fun m => ?_
    cases hi with
    | none => exact True.intro
    | some v => exact quiet_bind _ _ (quiet_sliceBound _ _ _) fun h => tail m h
theorem quiet_asAddr (v : Value) : quiet P (Go.asAddr v) := by
  unfold Go.asAddr; split <;> trivial
theorem quiet_slice (t : TypeId) (x : Value) (lo hi mx : Option Value) : quiet P (Instr.slice t x lo hi mx) := by
  refine quiet_bind _ _ (quiet_underlying t) fun d => ?_
  split
  · split
    · trivial
    · exact quiet_bind _ _ (quiet_sliceBounds _ _ _ _ _ _) fun _ => trivial
  · exact quiet_bind _ _ (quiet_sliceBounds _ _ _ _ _ _) fun _ => quiet_bind _ _ (quiet_sizeOf _) fun _ => trivial
  · refine quiet_bind _ _ (quiet_asAddr _) fun a => quiet_bind _ _ (quiet_underlying _) fun d => ?_
    split
    · exact quiet_bind _ _ (quiet_sliceBounds _ _ _ _ _ _) fun _ => quiet_bind _ _ (quiet_sizeOf _) fun _ => trivial
    · trivial
  · trivial
theorem mild_len (ts : Array TypeId) (t : TypeId) (xs : Array Value) : mild P (Builtin.len_ ts t xs) := by
  unfold Builtin.len_
  split
  · refine mild_of (quiet_underlying _) fun d => ?_
    split <;> first | trivial | skip
    · refine mild_of (quiet_underlying _) fun d => ?_
      split <;> trivial
    · refine mild_bind (fun o => trivial) fun o => ?_
      split <;> trivial
    · refine mild_bind (fun o => trivial) fun o => ?_
      split <;> trivial
  · trivial
theorem quiet_mapM {γ : Type} (f : α → Sem γ) (hf : ∀ a, quiet P (f a)) (xs : Array α) : quiet P (xs.mapM f) := by
  rw [Array.mapM_eq_foldlM, ← Array.foldlM_toList]
  have : ∀ (l : List α) (bs : Array γ), quiet P (l.foldlM (fun bs a => do let b ← f a; Pure.pure (bs.push b)) bs) := by
    intro l
    induction l with
    | nil => intro bs; trivial
    | cons a l ih =>
      intro bs
      rw [List.foldlM_cons]
      exact quiet_bind _ _ (quiet_bind _ _ (hf a) fun _ => trivial) fun _ => ih _
  exact this _ _
theorem quiet_build (t : TypeId) (ps : Array (Nat × Value)) : quiet P (Instr.build t ps) := by
  refine quiet_bind _ _ (quiet_zeroValue t) fun z => quiet_bind _ _ (quiet_underlying t) fun d => ?_
  split
  · refine quiet_bind _ _ (quiet_mapM _ (fun f => ?_) _) fun pl => ?_
    · exact quiet_bind _ _ (quiet_sizeOf _) fun _ => trivial
    · split <;> trivial
  · refine quiet_bind _ _ (quiet_sizeOf _) fun n => ?_
    split <;> trivial
  · trivial

def sameL (f : Value → Value → Bool) : List Value → List Value → Bool
  | [], [] => true
  | x :: xs, y :: ys => f x y && sameL f xs ys
  | _, _ => false

theorem sameL_eq {f : Value → Value → Bool} (hf : ∀ x y, f x y = true → x = y) : ∀ xs ys, sameL f xs ys = true → xs = ys := by
  intro xs
  induction xs with
  | nil => intro ys h; cases ys with | nil => rfl | cons => cases h
  | cons x xs ih =>
    intro ys h
    cases ys with
    | nil => cases h
    | cons y ys =>
      simp only [sameL, Bool.and_eq_true] at h
      rw [hf _ _ h.1, ih _ h.2]

def same1 : Value → Value → Bool
  | .bool a, .bool b => a == b
  | .int k m, .int l n => decide (k = l) && decide (m = n)
  | .string s, .string t => decide (s = t)
  | .pointer a, .pointer b => decide (a = b)
  | .slice a n c, .slice b m d => decide (a = b) && n == m && c == d
  | .map a, .map b => decide (a = b)
  | .nilFunc, .nilFunc => true
  | .nilIface, .nilIface => true
  | _, _ => false

theorem same1_eq (x y : Value) (h : same1 x y = true) : x = y := by
  cases x <;> cases y <;> simp_all [same1]

def sameV : Value → Value → Bool
  | .agg xs, .agg ys => sameL same1 xs.toList ys.toList
  | .tuple xs, .tuple ys => sameL same1 xs.toList ys.toList
  | x, y => same1 x y

theorem sameV_eq (x y : Value) (h : sameV x y = true) : x = y := by
  unfold sameV at h
  split at h
  · rw [Array.ext' (sameL_eq same1_eq _ _ h)]
  · rw [Array.ext' (sameL_eq same1_eq _ _ h)]
  · exact same1_eq _ _ h

def bytesLoop (cs : Array Value) : Sem Value := do
  let mut s := ByteArray.empty
  for c in cs do
    let .int .u8 n := c | stuck "bytesToString: byte expected"
    s := s.push (UInt8.ofNat n.toNat)
  Pure.pure (.string s)

theorem bytesToString_eq (a : Addr) (n c : Nat) : Conv.bytesToString (.slice (some a) n c) = (do let cs ← Go.loadCells a n; bytesLoop cs) := rfl

def isU8 (P : Program) (e : TypeId) : Bool := match P.underlying e with | some (.int .u8) => true | _ => false

def byteCells (s : ByteArray) : Array Value := s.data.map fun b => .int .u8 b.toNat

/-- What goes beyond one cell's arithmetic: strings made of rows, and rows made of strings. -/
def aext (P : Program) (a : Act) (o : Oper) (h : H) : Option (Value × H) :=
  match o.op with
  | .convert src dst x =>
    if okOperand x = true then
      match P.underlying src, P.underlying dst, a.eval x with
      | some .string, some (.slice e), .string s =>
        match eok P e with
        | some (i, z) => if isU8 P e = true ∧ s.size ≤ 140737488355328 ∧ i.size = 1 ∧ sameV z (.int .u8 0) = true then some (.slice (some ⟨h.size, 0, none⟩) s.size OPEN, h.push (.cells (byteCells s) e)) else none
        | none => none
      | some (.slice e), some .string, .slice none 0 0 => if isU8 P e = true then some (.string .empty, h) else none
      | some (.slice e), some .string, .slice (some ad) n _ =>
        if isU8 P e = true then
          match arun P (Go.loadCells ad n) h with
          | some (cs, _) => if cs.all flat = true then match prun P (bytesLoop cs) with | some v => if flat v = true then some (v, h) else none | none => none else none
          | none => none
        else none
      | _, _, _ => none
    else none
  | _ => none

theorem zeroCells_one (v : Value) (k : Nat) : Builtin.zeroCells #[v] k = Array.replicate k v := by
  apply Array.ext
  · simp [Builtin.zeroCells]
  · intro i h1 h2
    simp [Builtin.zeroCells, Nat.mod_one]

theorem stringToBytes_run {e : TypeId} (s : ByteArray) (w : World) : ∃ f : Nat × Nat, grownCap w s.size 0 e ≤ f.1 ∧
    (Conv.stringToBytes e s).run P w = .ok (.slice (some ⟨w.heap.size, 0, none⟩) s.size (grownCap w s.size 0 e)) (w.drew.alloc (.cells (byteCells s ++ Array.replicate (grownCap w s.size 0 e - s.size) (.int .u8 0)) e f)) := by
  have hge : s.size ≤ grownCap w s.size 0 e := grownCap_ge w s.size 0 e
  have hsz : (byteCells s ++ Array.replicate (grownCap w s.size 0 e - s.size) (Value.int .u8 0)).size = grownCap w s.size 0 e := by
    rw [Array.size_append, Array.size_replicate]
    have : (byteCells s).size = s.size := by simp [byteCells]
    omega
  refine ⟨(grownCap w s.size 0 e, grownCap w s.size 0 e + 1), Nat.le_refl _, ?_⟩
  have h1 : (Conv.stringToBytes e s).run P w = ((markStringish ⟨w.heap.size, 0, none⟩).run P (w.drew.alloc (.cells (byteCells s ++ Array.replicate (grownCap w s.size 0 e - s.size) (.int .u8 0)) e))).andThen fun _ w' =>
      .ok (.slice (some ⟨w.heap.size, 0, none⟩) s.size (grownCap w s.size 0 e)) w' := by
    simp [Conv.stringToBytes, newRow, grownCap, byteCells, Question.forced]
  rw [h1]
  generalize byteCells s ++ Array.replicate (grownCap w s.size 0 e - s.size) (Value.int .u8 0) = cs at *
  have h2 : (w.drew.alloc (.cells cs e)).heap[w.heap.size]? = some (.cells cs e) := by
    show (w.heap.push _)[w.heap.size]? = _
    simp
  have h3 : (markStringish ⟨w.heap.size, 0, none⟩).run P (w.drew.alloc (.cells cs e)) = .ok () ((w.drew.alloc (.cells cs e)).freeze ⟨w.heap.size, cs.size, none⟩ 1) := by
    have h4 : (w.drew.alloc (.cells cs e)).shape? w.heap.size = some (e, cs.size) := by
      simp only [World.shape?, h2]
    show (Sem.shape _ _).run P _ = _
    simp only [Sem.run]
    rw [h4]
    rfl
  rw [h3, hsz]
  simp only [Result.andThen_ok, Result.ok.injEq, true_and]
  have hh : ((w.drew.alloc (.cells cs e)).freeze ⟨w.heap.size, grownCap w s.size 0 e, none⟩ 1).heap = (w.drew.alloc (.cells cs e (grownCap w s.size 0 e, grownCap w s.size 0 e + 1))).heap := by
    apply Array.ext_getElem?
    intro j
    show ((w.heap.push (.cells cs e)).modify w.heap.size _)[j]? = (w.heap.push _)[j]?
    rw [Array.getElem?_modify, Array.getElem?_push, Array.getElem?_push]
    by_cases hj : w.heap.size = j
    · subst hj; simp
    · have : ¬ j = w.heap.size := fun h => hj h.symm
      simp [hj, this]
  exact congrArg (fun x => ({ w.drew with heap := x } : World)) hh

theorem isU8_spec {e : TypeId} (h : isU8 P e = true) : P.underlying e = some (.int .u8) := by
  unfold isU8 at h
  split at h
  · assumption
  · cases h

theorem aext_does {a a' : Act} {o : Oper} {h h1 : H} {w : World} {v : Value} (hs : Sim P ρ h w) (ha : ActRel P ρ a a') (hr : aext P a o h = some (v, h1)) :
    OpDoes P ρ h w (.val v h1) (execOp a'.eval o) := by
  unfold aext at hr
  cases hop : o.op <;> rw [hop] at hr <;> first | (cases hr; done) | skip
  rename_i src dst x
  dsimp only at hr
  split at hr
  case isFalse => cases hr
  rename_i hok
  have hx := ha.eval hok
  have hex : execOp a'.eval o = (do Pure.pure (.value (← convert src dst (a'.eval x)))) := by
    unfold execOp; rw [hop]
  rw [hex]
  refine OpDoes.ofDoes ?_
  split at hr
  · rename_i e s h1u h2u h3
    rw [h3] at hx
    generalize a'.eval x = x' at hx
    cases hx
    split at hr
    · rename_i i z he
      split at hr
      · rename_i hc
        obtain ⟨c1, c2, c3, c4⟩ := hc
        cases hr
        have hz := sameV_eq _ _ c4
        subst hz
        have hcap : s.size ≤ grownCap w s.size 0 e := grownCap_ge w s.size 0 e
        have hall : (byteCells s).all flat1 = true := by
          rw [Array.all_eq_true]; intro j hj; simp only [byteCells, Array.getElem_map]; rfl
        have hone : (byteCells s).all Value.oneCell' = true := by
          rw [Array.all_eq_true]; intro j hj; simp only [byteCells, Array.getElem_map]; rfl
        obtain ⟨f, hf, hrun⟩ := stringToBytes_run (P := P) (e := e) s w
        obtain ⟨ρ', g1, g2, g3⟩ := (hs.drew (w.drawn + 1)).pushGrownF (f := f) (x := byteCells s) (x' := byteCells s) (n := s.size) (cap := grownCap w s.size 0 e) he (.inr (by rw [c3]; omega)) (flats_rel hall) hone (by rw [c3]; simp [byteCells]) hcap
          (grownCap_le_maxLen w s.size 0 e (by unfold maxLen; omega))
        refine ⟨_, _, ρ', ?_, (Later.drew ρ h w (w.drawn + 1)).trans g3, g2, g1⟩
        unfold convert
        simp only [Sem.run_bind, run_underlying', h1u, h2u, Result.andThen_ok, isU8_spec c1]
        rw [hrun]
        rw [show (Value.int .u8 0).cells = #[.int .u8 0] from rfl, zeroCells_one]
        rfl
      · cases hr
    · cases hr
  · rename_i e h1u h2u h3
    rw [h3] at hx
    generalize a'.eval x = x' at hx
    cases hx
    split at hr
    · rename_i c1
      cases hr
      refine ⟨_, w, ρ, ?_, .refl _ _ _, hs, .string _⟩
      unfold convert
      simp only [Sem.run_bind, run_underlying', h1u, h2u, Result.andThen_ok, isU8_spec c1]
      rfl
    · cases hr
  · rename_i e ad n c _ h1u h2u h3
    rw [h3] at hx
    generalize a'.eval x = x' at hx
    obtain ⟨y, c', rfl, hy | ⟨b, b', hb1, rfl, hb⟩⟩ := sliceAddr hx
    · cases hy.1
    cases hb1
    split at hr
    · rename_i c1
      split at hr
      · rename_i cs h2 hl
        split at hr
        · rename_i hfl
          split at hr
          · rename_i u hp
            split at hr
            · rename_i hfu
              cases hr
              obtain ⟨cs', w1, ρ2, k1, k2, k3, k4⟩ := SR.loadCells0 hb ρ h w (.refl _) hs _ _ hl
              have hcs : cs' = cs := by
                apply Array.ext
                · exact k4.1.1.symm
                · intro j hj1 hj2
                  have := k4.1.2 j cs[j] cs'[j] (Array.getElem?_eq_getElem hj2) (Array.getElem?_eq_getElem hj1)
                  exact flat_eq (Array.all_eq_true.1 hfl j hj2) this
              subst hcs
              have e1 : h2 = h := mild_run _ (mild_loadCells _ _ _ _) h _ _ hl
              subst e1
              refine ⟨v, w1, ρ2, ?_, k2, k3, flat_rel hfu⟩
              unfold convert
              simp only [Sem.run_bind, run_underlying', h1u, h2u, Result.andThen_ok, isU8_spec c1]
              rw [bytesToString_eq, Sem.run_bind, k1]
              exact prun_run _ _ hp w1
            · cases hr
          · cases hr
        · cases hr
      · cases hr
    · cases hr
  · cases hr

theorem AOps.ext {ops : Array Oper} {i : Nat} {o : Oper} {l : List Nat} {a : Act} {h h1 : H} {v : Value} {K : Act → H → Prop} (hi : ops[i]? = some o) (hw : Region.wanted o (yielded ops a.tmps) = true)
    (hv : aext P a o h = some (v, h1)) (hr : AOps P Γ ops l (a.put o.dst v) h1 K) : AOps P Γ ops (i :: l) a h K :=
  fun ρ0 h0 w0 hG r hrr ρ a' w hl hs ha => by
    have hw' := (wanted_rel (ops := ops) ha o).trans hw
    simp only [wpOpsIn, hi, hw', if_true]
    obtain ⟨v', w1, ρ1, e1, e2, e3, e4⟩ := aext_does hs ha hv
    exact wpIn_val e1 (hr ρ0 h0 w0 hG r hrr ρ1 _ w1 (hl.trans e2) e3 ((ha.mono e2.le).put o.dst e4))

def plainDesc : TypeDesc → Bool
  | .struct _ | .array _ _ => false
  | _ => true

/-- A variable of a package is read. -/
theorem AOps.glob {ops : Array Oper} {i : Nat} {o : Oper} {l : List Nat} {a : Act} {h : H} {v : Value} {K : Act → H → Prop} {t : TypeId} {g : Nat} {d : TypeDesc} {cs : Array Value} {e : TypeId} {f : Nat × Nat}
    (hi : ops[i]? = some o) (hw : Region.wanted o (yielded ops a.tmps) = true) (hop : o.op = .load t (.global g)) (hu : P.underlying t = some d) (hd : plainDesc d = true)
    (hΓ : Γ.heap[g]? = some (.cells cs e f)) (hv : cs[0]? = some v) (hf : flat v = true) (hr : AOps P Γ ops l (a.put o.dst v) h K) : AOps P Γ ops (i :: l) a h K :=
  fun ρ0 h0 w0 hG r hrr ρ a' w hl hs ha => by
    have hw' := (wanted_rel (ops := ops) ha o).trans hw
    simp only [wpOpsIn, hi, hw', if_true]
    have hcell : w.cell? ⟨g, 0, Option.none⟩ = some v := by
      have := ((hG.later hl) g _ hΓ).1
      simp [World.cell?, this, hv]
    have hrun : (execOp a'.eval o).run P w = .ok (.value v) w := by
      have e1 : execOp a'.eval o = (do Pure.pure (.value (← Go.loadVar t ⟨g, 0, Option.none⟩))) := by
        unfold execOp; rw [hop]; rfl
      rw [e1]
      have e2 : (Go.loadVar t ⟨g, 0, Option.none⟩).run P w = .ok v w := by
        unfold Go.loadVar Go.isAgg
        simp only [Sem.run_bind, run_underlying', hu, Result.andThen_ok]
        cases d <;> first | (cases hd; done) | simp [run_load, hcell]
      simp [e2]
    exact wpIn_val (.inl hrun) (hr ρ0 h0 w0 hG r hrr ρ _ w hl hs (ha.put o.dst (flat_rel hf)))


/-- What is known of the variables of packages. -/
abbrev Known := TypeId → Nat → Option Value

def KnownOk (P : Program) (Γ : Gl) (γ : Known) : Prop := ∀ t g v, γ t g = some v → (∃ d, P.underlying t = some d ∧ plainDesc d = true) ∧ flat v = true ∧ ∃ (cs : Array Value) (e : TypeId) (f : Nat × Nat), Γ.heap[g]? = some (.cells cs e f) ∧ cs[0]? = some v

theorem KnownOk.none : KnownOk P Γ fun _ _ => Option.none := fun _ _ _ h => by cases h

def aglob (γ : Known) (o : Oper) : Option Value :=
  match o.op with
  | .load t (.global g) => γ t g
  | _ => Option.none

theorem AOps.known {γ : Known} (hγ : KnownOk P Γ γ) {ops : Array Oper} {i : Nat} {o : Oper} {l : List Nat} {a : Act} {h : H} {v : Value} {K : Act → H → Prop} (hi : ops[i]? = some o) (hw : Region.wanted o (yielded ops a.tmps) = true)
    (hv : aglob γ o = some v) (hr : AOps P Γ ops l (a.put o.dst v) h K) : AOps P Γ ops (i :: l) a h K := by
  unfold aglob at hv
  split at hv
  · rename_i t g hop
    obtain ⟨⟨d, h1, h2⟩, h3, cs, e, f, h4, h5⟩ := hγ t g v hv
    exact AOps.glob hi hw hop h1 h2 h4 h5 h3 hr
  · cases hv

end Go.Abs

/-
The abstract heap: ranges over functions.
-/
namespace Go.Abs
open Go
variable {P : Program} {Γ : Gl} {ρ : Ren} {α β : Type}

/-- A round of loop l, begun in this heap with these arguments of yield. -/
def ARound (P : Program) (Γ : Gl) (l : Nat) (args : Array Value) (h : H) (Q : Value → H → Prop) : Prop :=
  ∀ ρ0 h0 w0, Glob Γ ρ0 w0 → ∀ ρ l' args' w, Later ρ0 h0 w0 ρ h w → Sim P ρ h w → (ρ l = some none ∨ ∃ B, ρ l = some (some B) ∧ l' = B.b) → RRel P ρ args args' →
    ∃ r : Loop, w.heap[l']? = some (.loop r) ∧ args'.size = r.params.size ∧
      RoundIn Fence.wide 0 P l' r.fn ((r.params.zip args').foldl (fun tmps (t, a) => tmps.setIfInBounds t a) r.tmps) r.assign r.body w
        fun e w1 => ∃ v', e = .returned v' ∧ ∃ ρ1 v h1, Q v h1 ∧ Later ρ0 h0 w0 ρ1 h1 w1 ∧ Sim P ρ1 h1 w1 ∧ VRel P ρ1 v v'

theorem ARound.mono {l : Nat} {args : Array Value} {h : H} {Q Q' : Value → H → Prop} (hc : ARound P Γ l args h Q) (hq : ∀ v h, Q v h → Q' v h) : ARound P Γ l args h Q' :=
  fun ρ0 h0 w0 hG ρ l' args' w hl hs hli ha => by
    obtain ⟨r, h1, h2, h3⟩ := hc ρ0 h0 w0 hG ρ l' args' w hl hs hli ha
    exact ⟨r, h1, h2, h3.mono fun _ _ ⟨v', h1, ρ1, v, h2, h3, h4⟩ => ⟨v', h1, ρ1, v, h2, hq _ _ h3, h4⟩⟩

/-- The call of a yield: of which loop, with what. -/
def ayield (a : Act) (o : Oper) : Option (Nat × Array Value) :=
  match o.op with
  | .call c => if (o.op.operands.all okOperand) = true then
      match c.callee with
      | .value f => match a.eval f with
        | .func (.yield l) x y => if x.isEmpty = true ∧ y.isEmpty = true then some (l, c.args.map a.eval) else none
        | _ => none
      | _ => none
    else none
  | _ => none

theorem ayield_spec {a : Act} {o : Oper} {l : Nat} {args : Array Value} (h : ayield a o = some (l, args)) :
    ∃ c f, o.op = .call c ∧ (o.op.operands.all okOperand) = true ∧ c.callee = .value f ∧ a.eval f = .func (.yield l) #[] #[] ∧ args = c.args.map a.eval := by
  unfold ayield at h
  split at h
  case h_2 => cases h
  rename_i c hop
  split at h
  case isFalse => cases h
  rename_i hok
  split at h
  case h_2 => cases h
  rename_i f hcal
  split at h
  case h_2 => cases h
  rename_i l' x y he
  split at h
  case isFalse => cases h
  rename_i hxy
  cases h
  obtain ⟨hx, hy⟩ := hxy
  rw [Array.isEmpty_iff] at hx hy
  subst hx; subst hy
  exact ⟨c, f, hop, hok, hcal, he, rfl⟩

theorem AOps.round {ops : Array Oper} {i : Nat} {o : Oper} {l : List Nat} {a : Act} {h : H} {li : Nat} {args : Array Value} {K : Act → H → Prop} {R : Value → H → Prop} (hi : ops[i]? = some o)
    (hw : Region.wanted o (yielded ops a.tmps) = true) (hv : ayield a o = some (li, args)) (hc : ARound P Γ li args h R) (hr : ∀ v h2, R v h2 → AOps P Γ ops l (a.put o.dst v) h2 K) : AOps P Γ ops (i :: l) a h K :=
  fun ρ0 h0 w0 hG r hrr ρ a' w hl hs ha => by
    have hw' := (wanted_rel (ops := ops) ha o).trans hw
    simp only [wpOpsIn, hi, hw', if_true]
    obtain ⟨c, f, hop, hok, hcal, he, rfl⟩ := ayield_spec hv
    have hmem : ∀ y ∈ c.operands, okOperand y = true := fun y hy => by
      rw [hop] at hok
      obtain ⟨i, hi, rfl⟩ := Array.getElem_of_mem (show y ∈ (Op.call c).operands from hy)
      exact Array.all_eq_true.1 hok i hi
    have hargs : ∀ y ∈ c.args, okOperand y = true := fun y hy => hmem y (Array.mem_append.2 (.inr hy))
    have hrel := RRel.mapEval ha hargs
    have hfv := ha.eval (hmem f (by unfold Call.operands; rw [hcal]; simp))
    rw [he] at hfv
    obtain ⟨li', hfe, hli⟩ : ∃ li', a'.eval f = .func (.yield li') #[] #[] ∧ (ρ li = some Option.none ∨ ∃ B, ρ li = some (some B) ∧ li' = B.b) := by
      generalize a'.eval f = v at hfv
      cases hfv with
      | func hf => exact absurd rfl (hf _)
      | yld h => exact ⟨_, rfl, h⟩
    obtain ⟨rec, q1, q2, q3⟩ := hc ρ h w (hG.later hl) ρ li' _ w (.refl _ _ _) hs hli hrel
    have hrun : (execOp a'.eval o).run P w = .ok (.round li' rec.fn ((rec.params.zip (c.args.map a'.eval)).foldl (fun tmps (t, a) => tmps.setIfInBounds t a) rec.tmps) rec.assign rec.body) w := by
      have e1 : execOp a'.eval o = Instr.yield li' (c.args.map a'.eval) := by
        unfold execOp; rw [hop]
        simp only [resolve, hcal, Deferred.ofValue, hfe, pure_bind, invoke, Array.empty_append]
      rw [e1]
      exact run_yield q1 q2
    refine wpIn_of hrun (fun d e => by cases e) ⟨fun hd => by simp [Wd, Fence.wide] at hd, ?_⟩
    have q4 : RoundIn (Wd r) 0 P li' rec.fn ((rec.params.zip (c.args.map a'.eval)).foldl (fun tmps (t, a) => tmps.setIfInBounds t a) rec.tmps) rec.assign rec.body w _ := q3
    refine q4.mono ?_
    rintro e w2 ⟨v', rfl, ρ2, v, h2, g1, g2, g3, g4⟩
    exact hr v h2 g1 ρ0 h0 w0 hG r hrr ρ2 _ w2 (hl.trans g2) g3 ((ha.mono g2.le).put o.dst g4)

theorem liveLoop {h : H} {w : World} (hs : Sim P ρ h w) {l l' : Nat} {r : Loop} (hli : ρ l = some none ∨ ∃ B, ρ l = some (some B) ∧ l' = B.b) (hl : h[l]? = some (.loop r)) :
    ∃ B r', ρ l = some (some B) ∧ l' = B.b ∧ B.ro = false ∧ w.heap[l']? = some (.loop r') ∧ ObjRel P ρ B (.loop r) (.loop r') := by
  rcases hli with hd | ⟨B, hB, rfl⟩
  · rw [hs.dead _ hd] at hl; cases hl
  · obtain ⟨o, o', q1, q2, q3⟩ := hs.live _ _ hB
    rw [hl] at q1; cases q1
    cases o' with
    | loop r' => exact ⟨B, r', hB, rfl, q3.2.1, q2, q3⟩
    | _ => exact q3.elim

theorem ren_le_or {ρ ρ' : Ren} (hle : Ren.Le ρ ρ') {l l' : Nat} (h : ρ l = some none ∨ ∃ B, ρ l = some (some B) ∧ l' = B.b) : ρ' l = some none ∨ ∃ B, ρ' l = some (some B) ∧ l' = B.b := by
  rcases h with h | ⟨B, hB, hr⟩
  · rcases hle _ _ h with h | h <;> exact .inl h
  · rcases hle _ _ hB with h | h
    · exact .inr ⟨B, h, hr⟩
    · exact .inl h

/-- What a round leaves pending. -/
def jumpOf : Exit → Option (Option Code)
  | .normal => some none
  | .ret => some (some .ret)
  | .exit id => some (some (.exit id))
  | _ => none

def bindArgs (params : Array Tmp) (args tmps : Array Value) : Array Value := (params.zip args).foldl (fun tmps (t, a) => tmps.setIfInBounds t a) tmps

def endLoopObj (r : Loop) (j : Option Code) : Obj := .loop { r with state := if j.isNone then .ready else .done, pending := j }

def RoundPost (l : Nat) (Q : Value → H → Prop) : Exit → Act → H → Prop := fun e _ h2 =>
  ∃ j, jumpOf e = some j ∧ ∃ r2, h2[l]? = some (.loop r2) ∧ Q (.bool j.isNone) (h2.setIfInBounds l (endLoopObj r2 j))

theorem bindArgs_rel {params : Array Tmp} {args args' tmps tmps' : Array Value} (ha : RRel P ρ args args') (ht : RRel P ρ tmps tmps') : RRel P ρ (bindArgs params args tmps) (bindArgs params args' tmps') := by
  unfold bindArgs
  rw [← Array.foldl_toList, ← Array.foldl_toList, Array.toList_zip, Array.toList_zip]
  obtain ⟨pl⟩ := params
  have hlen : args.toList.length = args'.toList.length := by simpa using ha.1
  have hel : ∀ (i : Nat) (u u' : Value), args.toList[i]? = some u → args'.toList[i]? = some u' → VRel P ρ u u' := fun i u u' h1 h2 => ha.2 i u u' (by simpa using h1) (by simpa using h2)
  generalize args.toList = xs at hlen hel
  generalize args'.toList = xs' at hlen hel
  simp only
  induction pl generalizing xs xs' tmps tmps' with
  | nil => exact ht
  | cons p pl ih =>
    cases xs with
    | nil =>
      cases xs' with
      | nil => exact ht
      | cons x' xs' => simp at hlen
    | cons x xs =>
      cases xs' with
      | nil => simp at hlen
      | cons x' xs' =>
        simp only [List.zip_cons_cons, List.foldl_cons]
        exact ih (ht.set p (hel 0 x x' rfl rfl)) xs xs' (by simpa using hlen) fun i u u' h1 h2 => hel (i + 1) u u' (by simpa using h1) (by simpa using h2)

theorem ARound.body {l : Nat} {args : Array Value} {h : H} {r : Loop} {Q : Value → H → Prop} (hl : h[l]? = some (.loop r)) (hn : args.size = r.params.size)
    (hc : ACode P (Γ.round h.size) r.assign { tmps := bindArgs r.params args r.tmps, defers := [] } h (andThen (fun a1 h1 => ∃ r1, h1[l]? = some (.loop r1) ∧ r1.state = .ready ∧
      ACode P (Γ.round h.size) r.body a1 (h1.setIfInBounds l (.loop { r1 with state := .busy })) (RoundPost l Q)) (fun _ _ _ => False))) : ARound P Γ l args h Q := by
  intro ρ0 h0 w0 hG ρ l' args' w hlat hs hli ha
  obtain ⟨B, r', hB, rfl, hro, hw', hobj⟩ := liveLoop hs hli hl
  obtain ⟨o1, o2, o3, o4, o5, o6, o7, o8⟩ := hobj
  have hbind := bindArgs_rel (params := r.params) ha o5
  refine ⟨r', hw', by rw [o6, ← ha.1, hn], roundIn_of_wpIn trivial ?_⟩
  have hG2 := hG.later hlat
  have := hc ρ h w hG2 (some B.b) ⟨fun h => (by cases h), fun n hn => (by cases hn; exact ⟨Nat.le_refl _, fun i t h => hs.lt h⟩)⟩ ρ { tmps := bindArgs r.params args' r'.tmps, defers := [] } w (.refl _ _ _) hs ⟨hbind, .nil⟩
  rw [o6, o7]
  refine wpIn_mono this ?_
  rintro e a1 w1 ⟨g0, ρ1, a2, h1, g1, g2, g3, g4⟩
  cases e with
  | normal =>
    obtain ⟨r1, k1, k2, k3⟩ := g1
    obtain ⟨B1, r1', j1, j2, j3, j4, j5⟩ := liveLoop g3 (ren_le_or g2.le (.inr ⟨B, hB, rfl⟩)) k1
    obtain ⟨p1, p2, p3, p4, p5, p6, p7, p8⟩ := j5
    refine ⟨_, run_beginRound j4 (p3.trans k2), ?_⟩
    rw [j2] at j4 ⊢
    obtain ⟨s1, s2⟩ := g3.setObj (o := .loop { r1 with state := .busy }) (o' := .loop { r1' with state := .busy }) j1 j3 ⟨p1, p2, rfl, p4, p5, p6, p7, p8⟩
    rw [o8]
    have hbody := k3 ρ h w hG2 (some B1.b) ⟨fun h => (by cases h), fun n hn => (by cases hn; exact ⟨Nat.le_refl _, fun i t h => hs.lt h⟩)⟩ ρ1 a1 _ (g2.trans s2) s1 g4
    refine wpIn_mono hbody ?_
    rintro e a3 w3 ⟨q0, ρ2, a4, h2, ⟨j, q1, r2, q2, q3⟩, q4, q5, q6⟩
    obtain ⟨B2, r2', t1, t2, t3, t4, t5⟩ := liveLoop q5 (ren_le_or q4.le (.inr ⟨B, hB, rfl⟩)) q2
    rw [j2] at t2
    rw [j2, t2] at t4
    rw [t2]
    obtain ⟨z1, z2, z3, z4, z5, z6, z7, z8⟩ := t5
    obtain ⟨y1, y2⟩ := q5.setObj (o := endLoopObj r2 j) (o' := endLoopObj r2' j) t1 t3 ⟨z1, z2, rfl, rfl, z5, z6, z7, z8⟩
    have fin : ∃ v w', (Instr.endRound B2.b j).run P w3 = .ok v w' ∧ ∃ v', Ending.returned v = .returned v' ∧ ∃ ρ1 v h1, Q v h1 ∧ Later ρ0 h0 w0 ρ1 h1 w' ∧ Sim P ρ1 h1 w' ∧ VRel P ρ1 v v' :=
      ⟨_, _, run_endRound j t4, _, rfl, ρ2, _, _, q3, (hlat.trans q4).trans y2, y1, .bool _⟩
    cases e with
    | normal => cases q1; exact fin
    | ret => cases q1; exact fin
    | exit id => cases q1; exact fin
    | _ => cases q1
  | exit id => exact g1.elim
  | ret => exact g1.elim
  | _ => cases g0

def mark (a : Act) (n : Nat) : Act := { a with defers := { target := .collected n, args := #[] } :: a.defers }

def loopObj (n : Nat) (a : Act) (ps : Array Tmp) (assign body : Code) : Obj := .loop { state := .ready, pending := none, fn := 0, tmps := a.tmps, params := ps, assign, body, defers := n }

def rangeHeap (h : H) (a : Act) (ps : Array Tmp) (assign body : Code) : H := (h.push (.deferred (some []))).push (loopObj h.size a ps assign body)

def doneLoop (r : Loop) : Obj := .loop { r with state := .exhausted }

theorem ACode.rangeFunc {g : Operand} {ps : Array Tmp} {assign body : Code} {a : Act} {h : H} {Q : Exit → Act → H → Prop} {R : Value → H → Prop} {f : FuncId} {first cap : Array Value} {fn : Func}
    (hr0 : Γ.rnd = false) (hg : okOperand g = true) (he : a.eval g = .func (.func f) first cap) (hf : P.funcs[f]? = some fn) (hb : fn.body.isSome = true) (hn : fn.name ≠ "runtime.NumGoroutine")
    (hc : ACall P Γ f (first ++ #[.func (.yield (h.size + 1)) #[] #[]] ++ cap) (rangeHeap h a ps assign body) R)
    (hk : ∀ v h1, R v h1 → ∃ r, h1[h.size + 1]? = some (.loop r) ∧ r.state ≠ .busy ∧
      match r.pending with
      | none => Q .normal (mark a h.size) (h1.setIfInBounds (h.size + 1) (doneLoop r))
      | some c => ACode P Γ c (mark a h.size) (h1.setIfInBounds (h.size + 1) (doneLoop r)) Q) : ACode P Γ (.rangeFunc g ps assign body) a h Q := by
  intro ρ0 h0 w0 hG r hrr ρ a' w hl hs ha
  cases hrr.1 hr0
  refine wpIn_rangeFunc fun fnn _ => ?_
  have hfv := ha.eval hg
  rw [he] at hfv
  obtain ⟨first', cap', hfe', hfr, hcr⟩ : ∃ first' cap', a'.eval g = .func (.func f) first' cap' ∧ RRel P ρ first first' ∧ RRel P ρ cap cap' := by
    generalize a'.eval g = v at hfv
    cases hfv with
    | func _ h2 h3 h4 h5 => exact ⟨_, _, rfl, ⟨h2, h3⟩, ⟨h4, h5⟩⟩
  -- the two blocks
  obtain ⟨s1, l1⟩ := hs.push (.deferred (some [])) (.deferred (some [])) ⟨w.heap.size, 0, false, 0, 0⟩ rfl ⟨rfl, rfl, rfl, .inr rfl⟩
  let w1 := w.alloc (.deferred (some []))
  let lo : Loop := { state := .ready, pending := none, fn := fnn, tmps := a'.tmps, params := ps, assign, body, defers := w.heap.size }
  obtain ⟨s2, l2⟩ := s1.push (loopObj h.size a ps assign body) (.loop lo) ⟨w1.heap.size, 0, false, 0, 0⟩ rfl
    ⟨rfl, rfl, rfl, rfl, ha.1.mono (l1.le.trans (Ren.le_set s1.fresh)), rfl, rfl, rfl⟩
  have hsz : (h.push (.deferred (some []))).size = h.size + 1 := by simp
  have hwsz : w1.heap.size = w.heap.size + 1 := by simp [w1]
  rw [hsz] at s2 l2
  generalize hρ2 : (ρ.set h.size (some ⟨w.heap.size, 0, false, 0, 0⟩)).set (h.size + 1) (some ⟨w1.heap.size, 0, false, 0, 0⟩) = ρ2 at s2 l2
  have hl12 := l1.trans l2
  have hloop : ρ2 (h.size + 1) = some none ∨ ∃ B, ρ2 (h.size + 1) = some (some B) ∧ w.heap.size + 1 = B.b := .inr ⟨⟨w1.heap.size, 0, false, 0, 0⟩, by rw [← hρ2, Ren.set_same], hwsz.symm⟩
  have hmark : ρ2 h.size = some none ∨ ∃ B, ρ2 h.size = some (some B) ∧ w.heap.size = B.b := .inr ⟨⟨w.heap.size, 0, false, 0, 0⟩, by rw [← hρ2, Ren.set_ne _ _ (by omega), Ren.set_same], rfl⟩
  have hargs : RRel P ρ2 (first ++ #[.func (.yield (h.size + 1)) #[] #[]] ++ cap) (first' ++ #[.func (.yield (w.heap.size + 1)) #[] #[]] ++ cap') := by
    refine (fun hy : RRel P ρ2 #[.func (.yield (h.size + 1)) #[] #[]] #[.func (.yield (w.heap.size + 1)) #[] #[]] => ((hfr.mono hl12.le).append hy).append (hcr.mono hl12.le)) ⟨rfl, fun i u u' hu hu' => ?_⟩
    cases i with
    | zero => simp at hu hu'; subst hu; subst hu'; exact .yld hloop
    | succ i => simp at hu
  have hcall := hc ρ2 _ _ (hG.later (hl.trans hl12)) ρ2 _ _ (.refl _ _ _) s2 hargs
  have hb' : fn.body.isNone = false := by simpa [Option.isNone_iff_eq_none, Option.isSome_iff_ne_none] using hb
  have hn' : (fn.name == "runtime.NumGoroutine") = false := by simpa using hn
  refine ⟨w.heap.size + 1, [{ target := .collected w.heap.size, args := #[] }], w1.alloc (.loop lo), ⟨.fn (.func f) cap', first' ++ #[.func (.yield (w.heap.size + 1)) #[] #[]]⟩, w1.alloc (.loop lo), f, first' ++ #[.func (.yield (w.heap.size + 1)) #[] #[]] ++ cap', w1.alloc (.loop lo), run_enterLoop_outer _ _ _ _ _, ?_, fun _ _ => trivial, ?_, fun hd => by simp [Wd, Fence.wide] at hd, ?_⟩
  · simp only [resolve, hfe', Deferred.ofValue]
    simp [Act.eval]
  · simp only [invoke, callFunc, Sem.run_bind, run_program, Result.andThen_ok, hf, hn', hb']
    rfl
  · have hcall2 : CallsIn (Wd none) 0 P f _ _ _ := (callsIn_wide (n := 0)).2 hcall
    refine hcall2.mono ?_
    rintro e w3 ⟨v', rfl, ρ3, v, h1, g1, g2, g3, g4⟩
    obtain ⟨rr, k1, k2, k3⟩ := hk v h1 g1
    obtain ⟨B, r', j1, j2, j3, j4, j5⟩ := liveLoop g3 (ren_le_or g2.le hloop) k1
    obtain ⟨p1, p2, p3, p4, p5, p6, p7, p8⟩ := j5
    have hst : r'.state ≠ .busy := by rw [p3]; exact k2
    rw [j2] at j4
    obtain ⟨y1, y2⟩ := g3.setObj (o := doneLoop rr) (o' := doneLoop r') j1 j3 ⟨p1, p2, rfl, p4, p5, p6, p7, p8⟩
    have hact : ActRel P ρ3 (mark a h.size) { a' with defers := [{ target := .collected w.heap.size, args := #[] }] ++ a'.defers } :=
      ⟨ha.1.mono (hl12.le.trans g2.le), .cons (ren_le_or g2.le hmark) (ha.2.mono (hl12.le.trans g2.le))⟩
    have hend := run_endLoop (P := P) j4 hst
    rw [← j2] at hend
    have hlat := ((hl.trans hl12).trans g2).trans y2
    rw [← j2] at y1 hlat
    obtain ⟨W, hW⟩ : ∃ W, W = w3.putObj (w.heap.size + 1) (doneLoop r') := ⟨_, rfl⟩
    replace hend : (Instr.endLoop (w.heap.size + 1)).run P w3 = .ok r'.pending W := by rw [hW]; exact hend
    replace hlat : Later ρ0 h0 w0 ρ3 (h1.setIfInBounds (h.size + 1) (doneLoop rr)) W := by rw [hW]; exact hlat
    replace y1 : Sim P ρ3 (h1.setIfInBounds (h.size + 1) (doneLoop rr)) W := by rw [hW]; exact y1
    cases hp : rr.pending with
    | none =>
      rw [hp] at k3
      rw [p4.trans hp] at hend
      refine ⟨none, _, hend, ?_⟩
      exact ⟨rfl, ρ3, _, _, k3, hlat, y1, hact⟩
    | some c =>
      rw [hp] at k3
      rw [p4.trans hp] at hend
      refine ⟨some c, _, hend, ?_⟩
      exact k3 ρ0 h0 w0 hG none hrr ρ3 _ _ hlat y1 hact

end Go.Abs
