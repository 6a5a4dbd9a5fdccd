/-
The abstract heap: a region that draws its order, by one plan.
-/
import Derived.Test.YtgeoihombkjgnaaGreatDoorBwAbsM
import Derived.OrdersHeld
namespace Go.Abs
open Go
variable {P : Program} {Γ : Gl} {ρ : Ren} {α β : Type}

/-- In this frame and this heap the operation finds v, and leaves the heap. -/
def Finds (P : Program) (ops : Array Oper) (o : Oper) (v : Value) (a : Act) (h : H) : Prop :=
  (Region.wanted o (yielded ops a.tmps) = true ∧ aop P a o h = some (.val v h)) ∨ (Region.wanted o (yielded ops a.tmps) = false ∧ v = undef)

theorem looksAt_mem {ops : Array Oper} {o : Oper} {t : Tmp} (h : Operand.tmp t ∈ o.op.operands) : t ∈ o.looksAt ops := by
  unfold Oper.looksAt
  refine List.mem_append.2 (.inl ?_)
  rw [List.mem_filterMap]
  exact ⟨.tmp t, by simpa using h, rfl⟩

theorem aop_put {ops : Array Oper} {o : Oper} {a : Act} {dst : Option Tmp} {v : Value} {h : H} (hd : ∀ d, dst = some d → d ∉ o.looksAt ops) : aop P (a.put dst v) o h = aop P a o h := by
  refine aop_congr fun x hx => ?_
  refine Act.eval_put fun d hd2 => ?_
  rintro rfl
  exact hd d hd2 (looksAt_mem hx)

theorem Finds.put {ops : Array Oper} {o : Oper} {u v : Value} {a : Act} {h : H} {dst : Option Tmp} (hd : ∀ d, dst = some d → d ∉ o.looksAt ops) (hf : Finds P ops o v a h) : Finds P ops o v (a.put dst u) h := by
  unfold Finds at *
  rw [wanted_put o a dst u hd, aop_put hd]
  exact hf

theorem Finds.unput {ops : Array Oper} {o : Oper} {u v : Value} {a : Act} {h : H} {dst : Option Tmp} (hd : ∀ d, dst = some d → d ∉ o.looksAt ops) (hf : Finds P ops o v (a.put dst u) h) : Finds P ops o v a h := by
  unfold Finds at *
  rw [wanted_put o a dst u hd, aop_put hd] at hf
  exact hf

theorem AOp_put {ops : Array Oper} {j : Nat} {oi oj : Oper} {v : Value} (hj : ops[j]? = some oj) (hap : oi.apart ops oj = true) {K : Act → H → Prop} {a : Act} {h : H}
    (ho : AOp P Γ ops j K (a.put oi.dst v) h) : AOp P Γ ops j (fun a' h' => (∃ u, a' = a.put oj.dst u) ∧ K (a'.put oi.dst v) h') a h := by
  obtain ⟨h1, h2, h3⟩ := Oper.apart_spec hap
  unfold AOp at *
  simp only [hj] at *
  rw [wanted_put oj a oi.dst v h1, aop_put h1] at ho
  split
  · rename_i hw
    simp only [hw, if_true] at ho
    rcases ho with ⟨u, g1, e1, e2⟩ | ⟨f, args, g1, R, e1, e2, e3⟩
    · exact .inl ⟨u, g1, e1, ⟨u, rfl⟩, by rw [← Act.put_comm a v u h2]; exact e2⟩
    · exact .inr ⟨f, args, g1, R, e1, e2, fun u g2 hr => ⟨⟨u, rfl⟩, by rw [← Act.put_comm a v u h2]; exact e3 u g2 hr⟩⟩
  · rename_i hw
    simp only [hw] at ho
    exact ⟨⟨undef, rfl⟩, by rw [← Act.put_comm a v undef h2]; exact ho⟩

theorem AOp_finds {ops : Array Oper} {i : Nat} {o : Oper} {v : Value} {a : Act} {h : H} {K : Act → H → Prop} (hi : ops[i]? = some o) (hf : Finds P ops o v a h) (hk : K (a.put o.dst v) h) : AOp P Γ ops i K a h := by
  unfold AOp
  simp only [hi]
  rcases hf with ⟨h1, h2⟩ | ⟨h1, rfl⟩
  · rw [if_pos h1]; exact .inl ⟨v, h, h2, hk⟩
  · rw [if_neg (by rw [h1]; simp)]; exact hk

theorem ready_not_waits {ops : Array Oper} {listed : Array Bool} {i j : Nat} (hj : j ∈ Region.ready .any ops listed) (hi : i ∈ Region.ready .any ops listed) : waits ops j i = false := by
  obtain ⟨hjun, oj, hoj, hall⟩ := mem_ready.1 hj
  unfold waits
  rw [hoj]
  simp only [Option.any_some]
  rw [Bool.eq_false_iff]
  intro hany
  obtain ⟨k, hk, he⟩ := Array.any_eq_true.1 hany
  simp only [Bool.and_eq_true, beq_iff_eq] at he
  have h2 := hall _ (Array.getElem_mem hk) he.1
  rw [he.2] at h2
  have h0 := (mem_ready.1 hi).1
  rcases Nat.lt_or_ge i listed.size with h' | h'
  · simp [h'] at h0 h2; rw [h0] at h2; cases h2
  · simp [Array.getElem?_eq_none h'] at h2

/-- What may come up now and leaves the heap may be taken first. -/
theorem AAny.first {ops : Array Oper} {K : Act → H → Prop} {i : Nat} {oi : Oper} {v : Value} (hi : ops[i]? = some oi) (ht : takes oi = true) {a0 : Act} : ∀ (n : Nat) (F : Facts) (listed : Array Bool) (a : Act) (h : H),
    (∀ (j : Nat) (oj : Oper), ops[j]? = some oj → j ≠ i → listed.getD j true = false → waits ops j i = false → oi.apart ops oj = true) →
    i ∈ Region.ready .any ops listed → (∀ h', Finds P ops oi v a0 h' → Finds P ops oi v a h') → Finds P ops oi v a0 h → (∀ x ∈ F, x.2 h) →
    AAny P Γ ops K ((i, fun h => Finds P ops oi v a0 h) :: F) n (listed.setIfInBounds i true) (a.put oi.dst v) h → AAny P Γ ops K F (n + 1) listed a h := by
  have hstill : ∀ F : Facts, still ops i F = F := fun F => by unfold still; rw [hi]; simp [ht]
  intro n
  induction n with
  | zero =>
    intro F listed a h hfree hr ha hf hF hh
    refine ⟨fun h0 => (by rw [h0] at hr; cases hr), fun j hj => ?_⟩
    by_cases hji : j = i
    · subst hji
      rw [hstill]
      exact AOp_finds hi (ha h hf) ⟨hF, hh⟩
    · have := ready_mono hj hji
      rw [hh.1] at this
      cases this
  | succ n ih =>
    intro F listed a h hfree hr ha hf hF hh
    refine ⟨fun h0 => (by rw [h0] at hr; cases hr), fun j hj => ?_⟩
    by_cases hji : j = i
    · subst hji
      rw [hstill]
      refine AOp_finds hi (ha h hf) ⟨hF, ?_⟩
      exact AAny.less _ _ _ _ _ _ (fun x hx => List.mem_cons_of_mem _ hx) hh
    · have h1 := hh.2 j (ready_mono hj hji)
      obtain ⟨hjun, oj, hoj, hall⟩ := mem_ready.1 hj
      have hnw := ready_not_waits hj hr
      have hap := hfree j oj hoj hji hjun hnw
      obtain ⟨_, _, h3⟩ := Oper.apart_spec hap
      have hst : still ops j ((i, fun h => Finds P ops oi v a0 h) :: F) = (i, fun h => Finds P ops oi v a0 h) :: still ops j F := by
        unfold still
        split
        · rfl
        · rw [List.filter_cons]; simp [hnw]
      rw [hst] at h1
      refine (AOp_put hoj hap h1).mono ?_
      rintro a' h' ⟨⟨u, rfl⟩, hfacts, hrest⟩
      have hf' : Finds P ops oi v a0 h' := hfacts (i, fun h => Finds P ops oi v a0 h) (by simp)
      have hF' : ∀ x ∈ still ops j F, x.2 h' := fun x hx => hfacts x (List.mem_cons_of_mem _ hx)
      refine ⟨hF', ih _ _ _ h' ?_ (ready_mono hr (Ne.symm hji)) (fun h2 hq => (ha h2 hq).put h3) hf' hF' ?_⟩
      · intro k ok hk hki hun hno
        refine hfree k ok hk hki ?_ hno
        by_cases hjk : j = k
        · subst hjk; exact hjun
        · rw [getD_set_ne true hjk] at hun; exact hun
      · rw [Array.setIfInBounds_comm _ _ hji]
        exact hrest

/-- The whole of a plan: which are taken first, and which come up alone. -/
def planOk (ops : Array Oper) : List Nat → Array Bool → Bool
  | [], listed => (Region.ready .any ops listed).isEmpty
  | i :: L, listed =>
    (match ops[i]? with
     | none => false
     | some o =>
       if takes o = true then
         (Region.ready .any ops listed).contains i &&
         (List.range ops.size).all fun j => j == i || listed.getD j true || waits ops j i || (match ops[j]? with | some oj => o.apart ops oj | none => true)
       else Region.ready .any ops listed == [i]) &&
    planOk ops L (listed.setIfInBounds i true)

/-- What is kept of a reading: nothing where it asks nothing of memory. -/
def asks (o : Oper) : Bool :=
  match o.op with
  | .load _ _ | .lookup _ _ _ _ | .slice _ _ _ _ _ | .call _ | .build _ _ => true
  | _ => false

def DOps (P : Program) (Γ : Gl) (ops : Array Oper) (K : Act → H → Prop) : List Nat → Facts → Act → H → Prop
  | [], _, a, h => K a h
  | i :: L, F, a, h =>
    match ops[i]? with
    | none => False
    | some o =>
      if takes o = true then ∃ v, Finds P ops o v a h ∧ DOps P Γ ops K L (if asks o = true then (i, fun h => Finds P ops o v a h) :: F else F) (a.put o.dst v) h
      else AOp P Γ ops i (fun a' h' => (∀ x ∈ still ops i F, x.2 h') ∧ DOps P Γ ops K L (still ops i F) a' h') a h

theorem quiet_still (s : Sem α) (hs : quiet P s) (h h' : H) (a : α) (h1 : H) (hr : arun P s h = some (a, h1)) : h1 = h ∧ arun P s h' = some (a, h') := by
  induction s with
  | pure x => simp only [arun, Option.some.injEq, Prod.mk.injEq] at hr ⊢; exact ⟨hr.2.symm, hr.1, trivial⟩
  | program k ih => exact ih P hs hr
  | mark m k ih =>
    simp only [arun] at hr ⊢
    split at hr
    · cases hr
    · rename_i hm; rw [if_neg hm]; exact ih hs hr
  | load => exact hs.elim
  | store => exact hs.elim
  | new => exact hs.elim
  | getObj => exact hs.elim
  | setObj => exact hs.elim
  | shape => simp [arun] at hr
  | freeze => simp [arun] at hr
  | frozen => simp [arun] at hr
  | choose => simp [arun] at hr
  | sys => simp [arun] at hr
  | halt => simp [arun] at hr

theorem quiet_sureAddr (v : Value) : quiet P (Instr.sureAddr v) := by
  unfold Instr.sureAddr; split <;> trivial
theorem quiet_asIntOf (v : Value) : quiet P (Go.asIntOf v) := by
  unfold Go.asIntOf; split <;> trivial
theorem quiet_asAgg (v : Value) : quiet P (Go.asAgg v) := by
  unfold Go.asAgg; split <;> trivial

theorem quiet_bounds (k : IntKind) (x y : Int) (c : BoundsCode) : quiet P (Go.boundsPanic k x y c : Sem α) := by
  unfold Go.boundsPanic
  dsimp only
  split
  · exact quiet_bind _ _ trivial fun _ => trivial
  · exact quiet_bind _ _ trivial fun _ => trivial
theorem quiet_byteOf (a : Addr) : quiet P (Go.byteOf a) := by
  unfold Go.byteOf
  repeat' (first
    | trivial
    | exact quiet_underlying _ | exact quiet_sizeOf _ | exact quiet_typeInfo _ | exact quiet_part _ _ _ | exact quiet_sureAddr _ | exact quiet_asIntOf _ | exact quiet_asAgg _
    | split
    | refine quiet_bind _ _ ?_ fun _ => ?_
    | dsimp only)
theorem quiet_fieldPlace (a : Addr) (f : Field) : quiet P (Go.fieldPlace a f) := by
  refine quiet_bind _ _ (quiet_sizeOf _) fun n => ?_
  split
  · unfold Go.partAt
    refine quiet_bind _ _ (quiet_byteOf _) fun n => ?_
    refine quiet_bind _ _ (quiet_byteOf _) fun n => ?_
    repeat' (first
      | trivial
      | exact quiet_underlying _ | exact quiet_sizeOf _ | exact quiet_typeInfo _ | exact quiet_part _ _ _ | exact quiet_sureAddr _ | exact quiet_asIntOf _ | exact quiet_asAgg _
      | split
      | refine quiet_bind _ _ ?_ fun _ => ?_
      | dsimp only)
  · trivial
theorem quiet_fieldAt (t : TypeId) (v : Value) (f : Nat) : quiet P (Instr.fieldAt t v f) := by
  refine quiet_bind _ _ (quiet_underlying t) fun d => ?_
  split
  · split
    · exact quiet_bind _ _ (quiet_sureAddr v) fun a => quiet_bind _ _ (quiet_fieldPlace _ _) fun _ => trivial
    · trivial
  · trivial
theorem quiet_indexTail (t : TypeId) (k : IntKind) (i : Int) (b : Option Addr × Nat × TypeId) : quiet P (do
    let d ← underlying t
    match b.1 with
      | some a =>
        if 0 ≤ i ∧ i < b.2.1 then do
          let n ← sizeOf b.2.2
          Pure.pure (Value.pointer (some (a.add (i.toNat * n))))
        else if (decide (b.2.1 ≤ 1) && match d with | TypeDesc.array _ _ => true | _ => false) = true then
            unsupported (Unsupported.noEntry "op/indexAddr.an index out of range at an array of length 0 or 1 (ledger 616)")
          else boundsPanic k i b.2.1 BoundsCode.index
      | none => boundsPanic k i 0 BoundsCode.index) := by
  refine quiet_bind _ _ (quiet_underlying t) fun d => ?_
  split
  · split
    · exact quiet_bind _ _ (quiet_sizeOf _) fun _ => trivial
    · by_cases hc : (decide (b.2.1 ≤ 1) && match d with | TypeDesc.array _ _ => true | _ => false) = true
      · rw [if_pos hc]; trivial
      · rw [if_neg hc]; exact quiet_bounds _ _ _ _
  · exact quiet_bounds _ _ _ _
theorem quiet_indexAt (t : TypeId) (x i : Value) : quiet P (Instr.indexAt t x i) := by
  refine quiet_bind _ _ (quiet_asIntOf i) fun k => ?_
  refine quiet_bind _ _ (quiet_underlying t) fun d => ?_
  split
  · exact quiet_bind _ _ (quiet_sureAddr _) fun _ => quiet_bind _ _ trivial fun b => quiet_indexTail t k.1 k.2 b
  · exact quiet_bind _ _ trivial fun b => quiet_indexTail t k.1 k.2 b
  · exact quiet_bind _ _ trivial fun b => quiet_indexTail t k.1 k.2 b
theorem quiet_field (t : TypeId) (v : Value) (f : Nat) : quiet P (Instr.field t v f) := by
  refine quiet_bind _ _ (quiet_underlying t) fun d => ?_
  repeat' (first
    | trivial
    | exact quiet_underlying _ | exact quiet_sizeOf _ | exact quiet_typeInfo _ | exact quiet_part _ _ _ | exact quiet_sureAddr _ | exact quiet_asIntOf _ | exact quiet_asAgg _
    | split
    | refine quiet_bind _ _ ?_ fun _ => ?_
    | dsimp only)
theorem quiet_index (t : TypeId) (x i : Value) : quiet P (Instr.index t x i) := by
  refine quiet_bind _ _ (quiet_asIntOf i) fun k => ?_
  refine quiet_bind _ _ (quiet_underlying t) fun d => ?_
  split
  · split
    · exact quiet_bind _ _ (quiet_sizeOf _) fun _ => quiet_part _ _ _
    · exact quiet_bounds _ _ _ _
  · split
    · trivial
    · exact quiet_bounds _ _ _ _
  · trivial
theorem quiet_makeInterface (t : TypeId) (v : Value) : quiet P (Instr.makeInterface t v) := by
  refine quiet_bind _ _ (quiet_underlying t) fun d => ?_
  split <;> trivial
theorem quiet_extract (v : Value) (i : Nat) : quiet P (Instr.extract v i) := by
  unfold Instr.extract
  split
  · split <;> trivial
  · trivial
theorem quiet_nilEq {op : BinOp} {t : TypeId} {x y : Operand} {u v : Value} (hn : nilish u v = true) (hop : isEq op = true) : quiet P (do eqGuard op t x y u v; binOp op t u v) := by
  have hg : eqGuard op t x y u v = Pure.pure () := by
    cases u <;> cases v <;> first | (simp [nilish] at hn; done) | (cases op <;> rfl)
  rw [hg]
  simp only [pure_bind]
  have e1 : binOp .eql t u v = (do Pure.pure (.bool (← Op.equal t u v))) ∧ binOp .neq t u v = (do Pure.pure (.bool (!(← Op.equal t u v)))) := by
    cases u <;> cases v <;> first | (simp [nilish] at hn; done) | exact ⟨rfl, rfl⟩
  cases op <;> first | (simp [isEq] at hop; done) | skip
  · rw [e1.1]; exact quiet_bind _ _ (quiet_equalIn _ _ _ _) fun _ => trivial
  · rw [e1.2]; exact quiet_bind _ _ (quiet_equalIn _ _ _ _) fun _ => trivial

theorem vals_quiet {s : Sem Value} (hs : quiet P s) {h h1 : H} {v : Value} (hr : vals (arun P s h) = some (.val v h1)) (h' : H) : vals (arun P s h') = some (.val v h') := by
  unfold vals at hr ⊢
  simp only [Option.map_eq_some_iff] at hr
  obtain ⟨⟨u, h2⟩, hr, e⟩ := hr
  cases e
  rw [(quiet_still s hs h h' _ _ hr).2]
  rfl

theorem flatStep_still {a : Act} {o : Oper} {h h1 : H} {v : Value} (hr : flatStep P a o h = some (.val v h1)) (h' : H) : flatStep P a o h' = some (.val v h') := by
  unfold flatStep at hr ⊢
  split at hr
  · rename_i hf
    rw [if_pos hf]
    split at hr
    · rename_i u hp
      split at hr
      · rename_i hfv
        cases hr
        simp only [hfv, if_true]
      · cases hr
    · cases hr
  · cases hr

theorem aop_still {a : Act} {o : Oper} {h h1 : H} {v : Value} (ht : takes o = true) (hk : asks o = false) (hr : aop P a o h = some (.val v h1)) (h' : H) : aop P a o h' = some (.val v h') := by
  unfold aop at hr ⊢
  split at hr
  · rename_i hok
    rw [if_pos hok]
    unfold takes at ht
    unfold asks at hk
    generalize o.op = op at *
    cases op <;> first | (simp at ht; done) | (simp at hk; done) | skip
    case move => cases hr; rfl
    case assign => cases hr; rfl
    case pick =>
      dsimp only at hr ⊢
      split at hr
      · cases hr; rfl
      · cases hr
    case nilCheck =>
      dsimp only at hr ⊢
      split at hr
      · cases hr; rfl
      · cases hr
    case binOp =>
      dsimp only at hr ⊢
      split at hr
      · rename_i hn
        rw [if_pos hn]
        exact vals_quiet (quiet_nilEq hn.1 hn.2) hr h'
      · rename_i hn
        rw [if_neg hn]
        exact flatStep_still hr h'
    case unOp => exact flatStep_still hr h'
    case convert => exact flatStep_still hr h'
    case makeInterface => exact vals_quiet (quiet_makeInterface _ _) hr h'
    case makeFunc =>
      dsimp only at hr ⊢
      split at hr
      · cases hr; rfl
      · cases hr
    case fieldAddr => exact vals_quiet (quiet_fieldAt _ _ _) hr h'
    case field => exact vals_quiet (quiet_field _ _ _) hr h'
    case indexAddr => exact vals_quiet (quiet_indexAt _ _ _) hr h'
    case index => exact vals_quiet (quiet_index _ _ _) hr h'
    case extract => exact vals_quiet (quiet_extract _ _) hr h'
  · cases hr

theorem Finds.still {ops : Array Oper} {o : Oper} {v : Value} {a : Act} {h : H} (ht : takes o = true) (hk : asks o = false) (hf : Finds P ops o v a h) (h' : H) : Finds P ops o v a h' :=
  hf.imp (fun ⟨hw, hv⟩ => ⟨hw, aop_still ht hk hv h'⟩) id

/-- A fact that always holds is no burden. -/
theorem AAny.gain {ops : Array Oper} {K : Act → H → Prop} : ∀ (n : Nat) (F G : Facts) (listed : Array Bool) (a : Act) (h : H), (∀ x ∈ G, x ∈ F ∨ ∀ h, x.2 h) → AAny P Γ ops K F n listed a h → AAny P Γ ops K G n listed a h := by
  intro n
  induction n with
  | zero => exact fun _ _ _ _ _ _ h => h
  | succ n ih =>
    intro F G listed a h hFG hh
    refine ⟨hh.1, fun j hj => (hh.2 j hj).mono fun a' h' hk => ?_⟩
    have hs : ∀ x ∈ Abs.still ops j G, x ∈ Abs.still ops j F ∨ ∀ h, x.2 h := by
      intro x hx
      unfold Abs.still at *
      split
      · rename_i ht; rw [if_pos ht] at hx; exact hFG x hx
      · rename_i ht
        rw [if_neg ht] at hx
        rw [List.mem_filter] at hx ⊢
        exact (hFG x hx.1).imp (fun h => ⟨h, hx.2⟩) id
    exact ⟨fun x hx => (hs x hx).elim (hk.1 x) fun h => h h', ih _ _ _ _ _ hs hk.2⟩

theorem planOk_cons {ops : Array Oper} {i : Nat} {L : List Nat} {listed : Array Bool} (h : planOk ops (i :: L) listed = true) :
    ∃ o, ops[i]? = some o ∧ planOk ops L (listed.setIfInBounds i true) = true ∧
      if takes o = true then i ∈ Region.ready .any ops listed ∧ ∀ (j : Nat) (oj : Oper), ops[j]? = some oj → j ≠ i → listed.getD j true = false → waits ops j i = false → o.apart ops oj = true
      else Region.ready .any ops listed = [i] := by
  unfold planOk at h
  rw [Bool.and_eq_true] at h
  obtain ⟨h1, h2⟩ := h
  cases ho : ops[i]? with
  | none => rw [ho] at h1; cases h1
  | some o =>
    rw [ho] at h1
    refine ⟨o, rfl, h2, ?_⟩
    dsimp only at h1
    split
    · rename_i ht
      rw [if_pos ht, Bool.and_eq_true] at h1
      refine ⟨by simpa using h1.1, fun j oj hj hne hun hno => ?_⟩
      have hlt : j < ops.size := (Array.getElem?_eq_some_iff.1 hj).1
      have := List.all_eq_true.1 h1.2 j (List.mem_range.2 hlt)
      simp only [hj, hun, hno, Bool.or_false, Bool.or_eq_true, beq_iff_eq] at this
      rcases this with h | h
      · exact absurd h hne
      · exact h
    · rename_i ht
      rw [if_neg ht] at h1
      simpa using h1

theorem AAny.plan {ops : Array Oper} {K : Act → H → Prop} : ∀ (L : List Nat) (F : Facts) (listed : Array Bool) (a : Act) (h : H), planOk ops L listed = true → (∀ x ∈ F, x.2 h) → DOps P Γ ops K L F a h → AAny P Γ ops K F L.length listed a h := by
  intro L
  induction L with
  | nil =>
    intro F listed a h hp _ hd
    exact ⟨by simpa [planOk] using hp, hd⟩
  | cons i L ih =>
    intro F listed a h hp hF hd
    obtain ⟨o, ho, hp2, hcase⟩ := planOk_cons hp
    unfold DOps at hd
    simp only [ho] at hd
    by_cases ht : takes o = true
    · rw [if_pos ht] at hd hcase
      obtain ⟨v, hf, hd⟩ := hd
      refine AAny.first ho ht (a0 := a) L.length F listed a h hcase.2 hcase.1 (fun _ h => h) hf hF ?_
      by_cases hk : asks o = true
      · rw [if_pos hk] at hd
        refine ih _ _ _ _ hp2 ?_ hd
        intro x hx
        rcases List.mem_cons.1 hx with rfl | hx
        · exact hf
        · exact hF x hx
      · rw [if_neg hk] at hd
        refine AAny.gain _ F _ _ _ _ ?_ (ih _ _ _ _ hp2 hF hd)
        intro x hx
        rcases List.mem_cons.1 hx with rfl | hx
        · exact .inr fun h' => hf.still ht (by simpa using hk) h'
        · exact .inl hx
    · rw [if_neg ht] at hd hcase
      refine ⟨fun h0 => (by rw [h0] at hcase; cases hcase), fun j hj => ?_⟩
      rw [hcase, List.mem_singleton] at hj
      subst hj
      exact hd.mono fun a' h' hk => ⟨hk.1, ih _ _ _ _ hp2 hk.1 hk.2⟩

/-- **A region that draws its order, by a plan.** -/
theorem ACode.draw {ops : Array Oper} {id : Nat} {a : Act} {h : H} {Q : Exit → Act → H → Prop} (hm : P.follows .mixedOrders = true) (L : List Nat) (hL : L.length = ops.size)
    (hp : planOk ops L (Array.replicate ops.size false) = true) (hd : DOps P Γ ops (fun a h => Q .normal a h) L [] a h) : ACode P Γ (.region id ops true) a h Q := by
  refine AAny.code hm ?_
  rw [← hL] at hp ⊢
  exact AAny.plan L [] _ a h hp (fun x hx => by cases hx) hd

end Go.Abs
