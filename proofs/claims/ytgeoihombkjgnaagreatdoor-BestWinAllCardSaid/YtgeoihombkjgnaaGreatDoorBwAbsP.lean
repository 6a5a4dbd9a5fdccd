/-
The abstract heap: a region that draws its order, by one plan; new memory may come early.
-/
import Derived.Test.YtgeoihombkjgnaaGreatDoorBwAbsO
namespace Go.Abs
open Go
variable {P : Program} {Γ : Gl} {ρ : Ren} {α β : Type}

def early (o : Oper) : Bool := takes o || news o

/-- q may be taken while p is perhaps not yet done. -/
def calm (ops : Array Oper) (q p : Nat) : Bool :=
  match ops[q]?, ops[p]? with
  | some oq, some op =>
    (match oq.dst with | some d => !(op.looksAt ops).contains d && op.dst != some d | none => true) &&
    (waits ops q p || match op.dst with | some d => !(oq.looksAt ops).contains d | none => true)
  | _, _ => false

theorem calm_spec {ops : Array Oper} {q p : Nat} {oq op : Oper} (hq : ops[q]? = some oq) (hp : ops[p]? = some op) (h : calm ops q p = true) :
    (∀ d, oq.dst = some d → d ∉ op.looksAt ops ∧ op.dst ≠ some d) ∧ (∀ d, op.dst = some d → d ∈ oq.looksAt ops → waits ops q p = true) := by
  unfold calm at h
  rw [hq, hp] at h
  simp only [Bool.and_eq_true, Bool.or_eq_true] at h
  refine ⟨fun d hd => ?_, fun d hd hin => ?_⟩
  · have := h.1; rw [hd] at this; simpa using this
  · rcases h.2 with h | h
    · exact h
    · rw [hd] at h
      simp only [Bool.not_eq_true', List.contains_eq_mem, decide_eq_false_iff_not] at h
      exact absurd hin h

def own (ops : Array Oper) (o : Oper) : Bool := match o.dst with | some d => !(o.looksAt ops).contains d | none => true

/-- The whole of a plan: (i, true) is taken early, (i, false) comes up alone. -/
def planned (ops : Array Oper) : List (Nat × Bool) → List Nat → Array Bool → Bool
  | [], _, listed => (Region.ready .any ops listed).isEmpty
  | (i, e) :: L, mp, listed =>
    (match ops[i]? with
     | none => false
     | some o =>
       if e = true then early o && (Region.ready .any ops listed).contains i && mp.all (calm ops i) && own ops o
       else Region.ready .any ops listed == [i] && (mp.filter fun p => !waits ops i p).all (calm ops i)) &&
    planned ops L (if e = true then i :: mp else mp.filter fun p => !waits ops i p) (listed.setIfInBounds i true)

def forward (ops : Array Oper) : Bool := (List.range ops.size).all fun j => match ops[j]? with | some o => o.after.all fun e => !Region.binds .any e || decide (e.on < j) | none => true

def keeps (ops : Array Oper) (i : Nat) (F : Facts) : Facts := F.filter fun x => !waits ops i x.1

def DPlan (P : Program) (Γ : Gl) (ops : Array Oper) (K : Act → H → Prop) : List (Nat × Bool) → Facts → Act → H → Prop
  | [], _, a, h => K a h
  | (i, e) :: L, F, a, h =>
    match ops[i]? with
    | none => False
    | some o =>
      if e = true then
        if takes o = true then ∃ v, Finds P ops o v a h ∧ DPlan P Γ ops K L (if asks o = true then (i, fun h => Finds P ops o v a h) :: F else F) (a.put o.dst v) h
        else if Region.wanted o (yielded ops a.tmps) = true then
          ∃ v h1, aop P a o h = some (.val v h1) ∧ (h1[h.size]?).any (belowO h.size) = true ∧ (∀ x ∈ F, x.2 h1) ∧ DPlan P Γ ops K L F (a.put o.dst v) h1
        else DPlan P Γ ops K L F (a.put o.dst undef) h
      else AOp P Γ ops i (fun a' h' => (∀ x ∈ keeps ops i F, x.2 h') ∧ DPlan P Γ ops K L (keeps ops i F) a' h') a h

/-- What the plan has done, and the run has not. -/
structure Pd where
  i : Nat
  o : Oper
  v : Value
  g : H → Prop
  n : Option (Nat × Obj)

def Pd.kind (P : Program) (ops : Array Oper) (F : Facts) (z : Nat) (ρ : Ren) (a : Act) (h : H) (p : Pd) : Prop :=
  match p.n with
  | none => p.g h ∧ (∀ h', p.g h' → Finds P ops p.o p.v a h') ∧ ((p.i, p.g) ∈ F ∨ ∀ h', p.g h')
  | some (n, ob) => Region.wanted p.o (yielded ops a.tmps) = true ∧ ρ n = none ∧ z ≤ n ∧ h[n]? = some ob ∧ ob ≠ tomb ∧ belowO n ob = true ∧ refOf p.v = some n ∧
      ∀ g, aop P a p.o g = some (.val (reblock p.v g.size) (g.push ob))

structure Good (P : Program) (ops : Array Oper) (F : Facts) (z : Nat) (ρ : Ren) (a b : Act) (h : H) (Pn : List Pd) : Prop where
  nd : (Pn.map (·.i)).Nodup
  size : b.tmps.size = a.tmps.size
  defs : b.defers = a.defers
  off : ∀ t, (∀ p ∈ Pn, p.o.dst ≠ some t) → b.tmps[t]? = a.tmps[t]?
  each : ∀ p ∈ Pn, ops[p.i]? = some p.o ∧ a.put p.o.dst p.v = a ∧ (∀ d, p.o.dst = some d → d ∉ p.o.looksAt ops) ∧ p.kind P ops F z ρ a h
  pair : ∀ p ∈ Pn, ∀ q ∈ Pn, p.i ≠ q.i → (∀ d, q.o.dst = some d → p.o.dst ≠ some d ∧ (d ∈ p.o.looksAt ops → waits ops p.i q.i = true)) ∧
    (∀ n ob m ob', p.n = some (n, ob) → q.n = some (m, ob') → n ≠ m)

theorem waits_false {ops : Array Oper} {listed : Array Bool} {i j : Nat} (hj : j ∈ Region.ready .any ops listed) (hi : listed.getD i true = false) : waits ops j i = false := by
  obtain ⟨hjun, oj, hoj, hall⟩ := mem_ready.1 hj
  unfold waits
  rw [hoj]
  simp only [Option.any_some]
  rw [Bool.eq_false_iff]
  intro hany
  obtain ⟨k, hk, he⟩ := Array.any_eq_true.1 hany
  simp only [Bool.and_eq_true, beq_iff_eq] at he
  have h2 := hall _ (Array.getElem_mem hk) he.1
  rw [he.2] at h2
  rcases Nat.lt_or_ge i listed.size with h' | h'
  · simp [h'] at hi h2; rw [hi] at h2; cases h2
  · simp [Array.getElem?_eq_none h'] at h2

theorem slots_eval {ops : Array Oper} {a b : Act} {o : Oper} (h : ∀ t ∈ o.looksAt ops, b.tmps[t]? = a.tmps[t]?) : ∀ x ∈ o.op.operands, b.eval x = a.eval x := by
  intro x hx
  cases x with
  | tmp t =>
    show b.tmps.getD t undef = a.tmps.getD t undef
    simp only [Array.getD_eq_getD_getElem?]
    rw [h t (looksAt_mem hx)]
  | _ => rfl

theorem slots_wanted {ops : Array Oper} {a b : Act} {o : Oper} (h : ∀ t ∈ o.looksAt ops, b.tmps[t]? = a.tmps[t]?) : Region.wanted o (yielded ops b.tmps) = Region.wanted o (yielded ops a.tmps) := by
  unfold Region.wanted
  cases hg : o.guard with
  | none => rfl
  | some gw =>
    obtain ⟨g, want⟩ := gw
    have : yielded ops b.tmps g = yielded ops a.tmps g := by
      unfold yielded
      cases ht : (ops[g]?).bind (·.dst) with
      | none => rfl
      | some t =>
        simp only [Option.bind_some]
        rw [h t (by simp [Oper.looksAt, hg, ht])]
    simp only [this]

theorem put_slot {a : Act} {dst : Option Tmp} {v : Value} {t : Nat} (h : dst ≠ some t) : (a.put dst v).tmps[t]? = a.tmps[t]? := by
  cases dst with
  | none => rfl
  | some d =>
    have : d ≠ t := fun e => h (by rw [e])
    simp [Act.put, Array.getElem?_setIfInBounds_ne this]

theorem put_size (a : Act) (dst : Option Tmp) (v : Value) : (a.put dst v).tmps.size = a.tmps.size := by
  cases dst <;> simp [Act.put]

theorem put_defers (a : Act) (dst : Option Tmp) (v : Value) : (a.put dst v).defers = a.defers := by
  cases dst <;> rfl

theorem put_slot_same {a b : Act} {dst : Option Tmp} {v : Value} {t : Nat} (h : dst = some t) (hs : b.tmps.size = a.tmps.size) : (b.put dst v).tmps[t]? = (a.put dst v).tmps[t]? := by
  subst h
  simp [Act.put, Array.getElem?_setIfInBounds, hs]

theorem put_again (a : Act) (dst : Option Tmp) (v : Value) : (a.put dst v).put dst v = a.put dst v := by
  cases dst with
  | none => rfl
  | some d => simp [Act.put]

theorem Sim.ghost {h : H} {w : World} {ob : Obj} (hs : Sim P ρ h w) : Sim P ρ (h.push ob) w :=
  ⟨fun i B hB => by
    obtain ⟨o, o', h1, h2, h3⟩ := hs.live i B hB
    exact ⟨o, o', by rw [Array.getElem?_push, if_neg (by have := hs.lt hB; omega)]; exact h1, h2, h3⟩,
   fun i hi => by rw [Array.getElem?_push, if_neg (by have := hs.lt hi; omega)]; exact hs.dead i hi, hs.one⟩

theorem Later.ghost {ρ0 : Ren} {h0 h : H} {w0 w : World} {ob : Obj} (hl : Later ρ0 h0 w0 ρ h w) : Later ρ0 h0 w0 ρ (h.push ob) w :=
  ⟨hl.le, by have := hl.size; simp; omega, hl.wsize, hl.os, hl.tape, hl.output, fun i hi hn => by
    have := hl.size
    rw [Array.getElem?_push, if_neg (by omega)]; exact hl.none i hi hn, hl.frame, hl.fresh⟩

theorem ready_ne {ops : Array Oper} {listed : Array Bool} (hf : forward ops = true) (hs : listed.size = ops.size) : ∀ (j : Nat), j < ops.size → listed.getD j true = false → Region.ready .any ops listed ≠ [] := by
  intro j
  induction j using Nat.strongRecOn with
  | _ j ih =>
    intro hj hun
    by_cases hex : ∃ k, k < j ∧ listed.getD k true = false
    · obtain ⟨k, hk, hku⟩ := hex
      exact ih k hk (by omega) hku
    · have : j ∈ Region.ready .any ops listed := by
        rw [mem_ready]
        refine ⟨hun, ops[j], Array.getElem?_eq_getElem hj, fun e he hb => ?_⟩
        have h1 := List.all_eq_true.1 hf j (List.mem_range.2 hj)
        rw [Array.getElem?_eq_getElem hj] at h1
        obtain ⟨k, hk, hke⟩ := Array.getElem_of_mem he
        have h2 := Array.all_eq_true.1 h1 k hk
        rw [hke, hb] at h2
        have hlt : e.on < j := by simpa using h2
        have h3 : ¬ listed.getD e.on true = false := fun h => hex ⟨e.on, hlt, h⟩
        have h4 : e.on < listed.size := by omega
        simp [h4] at h3 ⊢
        exact h3
      intro h0
      rw [h0] at this
      cases this

theorem Good.agree {ops : Array Oper} {F : Facts} {z : Nat} {a b : Act} {h : H} {Pn : List Pd} (hg : Good P ops F z ρ a b h Pn) {o : Oper}
    (hno : ∀ p ∈ Pn, ∀ d, p.o.dst = some d → d ∉ o.looksAt ops) : ∀ t ∈ o.looksAt ops, b.tmps[t]? = a.tmps[t]? :=
  fun t ht => hg.off t fun p hp he => hno p hp t he ht

theorem nodup_same : ∀ (Pn : List Pd), (Pn.map (·.i)).Nodup → ∀ p ∈ Pn, ∀ q ∈ Pn, q.i = p.i → q = p := by
  intro Pn
  induction Pn with
  | nil => intro _ p hp; cases hp
  | cons r Pn ih =>
    intro hn p hp q hq he
    rw [List.map_cons, List.nodup_cons] at hn
    rcases List.mem_cons.1 hp with rfl | hp2 <;> rcases List.mem_cons.1 hq with rfl | hq2
    · rfl
    · exact absurd (List.mem_map.2 ⟨q, hq2, he⟩) hn.1
    · exact absurd (List.mem_map.2 ⟨p, hp2, he.symm⟩) hn.1
    · exact ih hn.2 p hp2 q hq2 he

theorem nodup_filter : ∀ (Pn : List Pd), (Pn.map (·.i)).Nodup → ∀ p ∈ Pn, (Pn.filter fun q => q.i != p.i).length + 1 = Pn.length := by
  intro Pn
  induction Pn with
  | nil => intro _ p hp; cases hp
  | cons r Pn ih =>
    intro hn p hp
    rw [List.map_cons, List.nodup_cons] at hn
    rcases List.mem_cons.1 hp with rfl | hp
    · have : (Pn.filter fun q => q.i != p.i) = Pn := by
        rw [List.filter_eq_self]
        intro q hq
        simp only [bne_iff_ne, ne_eq]
        intro he
        exact hn.1 (List.mem_map.2 ⟨q, hq, he⟩)
      simp [this]
    · have hne : r.i ≠ p.i := fun he => hn.1 (List.mem_map.2 ⟨p, hp, he.symm⟩)
      have := ih hn.2 p hp
      simp [hne]
      omega

theorem step_pending {r : Option Nat} {ops : Array Oper} {F : Facts} {ρ0 : Ren} {h0 h : H} {w0 w : World} {a b b' : Act} {Pn : List Pd} {p : Pd} {LR : Array Bool} {Q : Exit → Act → World → Prop} {X : Act → World → Prop}
    (hg : Good P ops F h0.size ρ a b h Pn) (hp : p ∈ Pn) (hr : p.i ∈ Region.ready .any ops LR) (hun : ∀ q ∈ Pn, LR.getD q.i true = false)
    (hl : Later ρ0 h0 w0 ρ h w) (hs : Sim P ρ h w) (ha : ActRel P ρ b b')
    (hX : ∀ ρ1 b1 b1' w1, Good P ops F h0.size ρ1 a b1 h (Pn.filter fun q => q.i != p.i) → Later ρ0 h0 w0 ρ1 h w1 → Sim P ρ1 h w1 → ActRel P ρ1 b1 b1' → X b1' w1) :
    wpOpIn (Wd r) 0 P ops Q p.i X b' w := by
  obtain ⟨hop, hput, hown, hkind⟩ := hg.each p hp
  have same : ∀ q ∈ Pn, q.i = p.i → q = p := nodup_same Pn hg.nd p hp
  have hno : ∀ q ∈ Pn, ∀ d, q.o.dst = some d → d ∉ p.o.looksAt ops := fun q hq d hd hin => by
    by_cases he : q.i = p.i
    · rw [same q hq he] at hd; exact hown d hd hin
    · have := ((hg.pair p hp q hq (Ne.symm he)).1 d hd).2 hin
      rw [waits_false hr (hun q hq)] at this
      cases this
  have hag := hg.agree hno
  have hev := slots_eval hag
  have hwt := slots_wanted hag
  have good : ∀ ρ1, (∀ k, k < h.size → ρ k = none → (∀ n ob, p.n = some (n, ob) → k ≠ n) → ρ1 k = none) → Good P ops F h0.size ρ1 a (b.put p.o.dst p.v) h (Pn.filter fun q => q.i != p.i) := by
    intro ρ1 hh
    refine ⟨hg.nd.sublist (List.filter_sublist.map _), (put_size _ _ _).trans hg.size, (put_defers _ _ _).trans hg.defs, fun t ht => ?_, fun q hq => ?_, fun q hq r hr2 => ?_⟩
    · by_cases hd : p.o.dst = some t
      · rw [put_slot_same hd hg.size, hput]
      · rw [put_slot hd]
        refine hg.off t fun q hq he => ?_
        by_cases hqi : q.i = p.i
        · rw [same q hq hqi] at he; exact hd he
        · exact ht q (List.mem_filter.2 ⟨hq, by simpa using hqi⟩) he
    · obtain ⟨hq1, hq2⟩ := List.mem_filter.1 hq
      obtain ⟨k1, k2, k3, k4⟩ := hg.each q hq1
      refine ⟨k1, k2, k3, ?_⟩
      unfold Pd.kind at k4 ⊢
      cases hqn : q.n with
      | none => rw [hqn] at k4; exact k4
      | some nb =>
        obtain ⟨n, ob⟩ := nb
        rw [hqn] at k4
        obtain ⟨c1, c2, c3, c4, c5⟩ := k4
        refine ⟨c1, hh n (Array.getElem?_eq_some_iff.1 c4).1 c2 fun m ob' hm => ?_, c3, c4, c5⟩
        exact (hg.pair q hq1 p hp (by simpa using hq2)).2 n ob m ob' hqn hm
    · exact hg.pair q (List.mem_filter.1 hq).1 r (List.mem_filter.1 hr2).1
  have unwanted : Region.wanted p.o (yielded ops a.tmps) = false → p.v = undef → wpOpIn (Wd r) 0 P ops Q p.i X b' w := fun h1 h2 => by
    unfold wpOpIn
    simp only [hop]
    rw [wanted_rel ha, hwt, h1]
    simp only [Bool.false_eq_true, if_false]
    refine ⟨fun _ _ => trivial, hX ρ (b.put p.o.dst p.v) _ w (good ρ fun k _ hk _ => hk) hl hs ?_⟩
    rw [h2]; exact ha.put p.o.dst undef_rel
  unfold Pd.kind at hkind
  cases hpn : p.n with
  | none =>
    rw [hpn] at hkind
    obtain ⟨c1, c2, _⟩ := hkind
    rcases c2 h c1 with ⟨c3, c4⟩ | ⟨c3, c4⟩
    · rw [← aop_congr hev] at c4
      obtain ⟨v', w1, ρ1, e1, e2, e3, e4⟩ := aop_does hs ha c4
      unfold wpOpIn
      simp only [hop]
      rw [wanted_rel ha, hwt, c3]
      simp only [if_true]
      have hgd := good ρ1 fun k hk hk0 _ => (e2.none k hk hk0).1
      exact wpIn_val e1 (hX ρ1 _ _ w1 hgd (hl.trans e2) e3 ((ha.mono e2.le).put p.o.dst e4))
    · exact unwanted c3 c4
  | some nb =>
    obtain ⟨n, ob⟩ := nb
    rw [hpn] at hkind
    obtain ⟨c1, c2, c3, c4, c5, c6, c7, c8⟩ := hkind
    have c9 := c8 h
    rw [← aop_congr hev] at c9
    obtain ⟨v', w1, ρ1, e1, e2, e3, e4⟩ := aop_does hs ha c9
    obtain ⟨ρ2, r1, r2, r3, r4, r5⟩ := reveal hl hs c2 c3 c4 c6 c5 e2 e3
    have hv := r5 _ _ (refOf_reblock c7 h.size) e4
    rw [reblock_twice, reblock_self c7] at hv
    unfold wpOpIn
    simp only [hop]
    rw [wanted_rel ha, hwt, c1]
    simp only [if_true]
    have hgd := good ρ2 fun k hk hk0 hne => r4 k hk (hne n ob hpn) hk0
    exact wpIn_val e1 (hX ρ2 _ _ w1 hgd r1 r2 ((ha.mono r3).put p.o.dst hv))

theorem step_alone {r : Option Nat} {ops : Array Oper} {F : Facts} {ρ0 : Ren} {h0 h : H} {w0 w : World} {a b b' : Act} {Pn : List Pd} {i : Nat} {Q : Exit → Act → World → Prop} {X : Act → World → Prop} {K2 : Act → H → Prop}
    (hg : Good P ops F h0.size ρ a b h Pn) (hnw : ∀ p ∈ Pn, waits ops i p.i = false) (hcalm : ∀ p ∈ Pn, calm ops i p.i = true) (ho : AOp P Γ ops i (fun a h => (∀ x ∈ keeps ops i F, x.2 h) ∧ K2 a h) a h)
    (hG : Glob Γ ρ0 w0) (hl : Later ρ0 h0 w0 ρ h w) (hs : Sim P ρ h w) (ha : ActRel P ρ b b')
    (hX : ∀ ρ1 a1 b1 b1' h1 w1, K2 a1 h1 → (∀ x ∈ keeps ops i F, x.2 h1) → Good P ops (keeps ops i F) h0.size ρ1 a1 b1 h1 Pn → Later ρ0 h0 w0 ρ1 h1 w1 → Sim P ρ1 h1 w1 → ActRel P ρ1 b1 b1' → X b1' w1) :
    wpOpIn (Wd r) 0 P ops Q i X b' w := by
  cases hop : ops[i]? with
  | none =>
    unfold AOp at ho
    unfold wpOpIn
    simp only [hop] at ho ⊢
    cases Pn with
    | cons p Pn =>
      have := hcalm p (by simp)
      unfold calm at this
      rw [hop] at this
      cases this
    | nil =>
      refine hX ρ a b b' h w ho.2 ho.1 ?_ hl hs ha
      exact ⟨by simp, hg.size, hg.defs, hg.off, fun p hp => (by cases hp), fun p hp => (by cases hp)⟩
  | some o =>
    have spec := fun p hp => calm_spec hop (hg.each p hp).1 (hcalm p hp)
    have hno : ∀ p ∈ Pn, ∀ d, p.o.dst = some d → d ∉ o.looksAt ops := fun p hp d hd hin => by
      have := (spec p hp).2 d hd hin
      rw [hnw p hp] at this
      cases this
    have hag := hg.agree hno
    have hev := slots_eval hag
    have hwt := slots_wanted hag
    have good : ∀ ρ1 h1 u, (∀ x ∈ keeps ops i F, x.2 h1) → (∀ k, k < h.size → ρ k = none → ρ1 k = none ∧ h1[k]? = h[k]?) → Good P ops (keeps ops i F) h0.size ρ1 (a.put o.dst u) (b.put o.dst u) h1 Pn := by
      intro ρ1 h1 u hF hh
      refine ⟨hg.nd, by rw [put_size, put_size]; exact hg.size, by rw [put_defers, put_defers]; exact hg.defs, fun t ht => ?_, fun p hp => ?_, hg.pair⟩
      · by_cases hd : o.dst = some t
        · exact put_slot_same hd hg.size
        · rw [put_slot hd, put_slot hd]; exact hg.off t ht
      · obtain ⟨k1, k2, k3, k4⟩ := hg.each p hp
        have hlk : ∀ d, o.dst = some d → d ∉ p.o.looksAt ops := fun d hd => ((spec p hp).1 d hd).1
        refine ⟨k1, ?_, k3, ?_⟩
        · rw [← Act.put_comm a p.v u fun d hd hd2 => ((spec p hp).1 d hd2).2 hd, k2]
        · unfold Pd.kind at k4 ⊢
          cases hpn : p.n with
          | none =>
            rw [hpn] at k4
            obtain ⟨c1, c2, c3⟩ := k4
            refine ⟨?_, fun h' hh' => (c2 h' hh').put hlk, c3.imp (fun hm => ?_) id⟩
            · rcases c3 with hm | hall
              · exact hF (p.i, p.g) (List.mem_filter.2 ⟨hm, by simp [hnw p hp]⟩)
              · exact hall h1
            · exact List.mem_filter.2 ⟨hm, by simp [hnw p hp]⟩
          | some nb =>
            obtain ⟨n, ob⟩ := nb
            rw [hpn] at k4
            obtain ⟨c1, c2, c3, c4, c5, c6, c7, c8⟩ := k4
            have hlt := (Array.getElem?_eq_some_iff.1 c4).1
            refine ⟨?_, (hh n hlt c2).1, c3, (hh n hlt c2).2.trans c4, c5, c6, c7, fun g => ?_⟩
            · rw [wanted_put p.o a o.dst u hlk]; exact c1
            · rw [aop_put hlk]; exact c8 g
    unfold AOp at ho
    unfold wpOpIn
    simp only [hop] at ho ⊢
    rw [wanted_rel ha, hwt]
    split
    · rename_i hw
      simp only [hw, if_true] at ho
      rcases ho with ⟨v, h1, e1, e2⟩ | ⟨f, args, h1, R, e1, e2, e3⟩
      · rw [← aop_congr hev] at e1
        obtain ⟨v', w1, ρ1, g1, g2, g3, g4⟩ := aop_does hs ha e1
        have hgd := good ρ1 h1 v e2.1 g2.none
        exact wpIn_val g1 (hX ρ1 _ _ _ h1 w1 e2.2 e2.1 hgd (hl.trans g2) g3 ((ha.mono g2.le).put o.dst g4))
      · rw [← aop_congr hev] at e1
        obtain ⟨args', w1, ρ1, g1, g2, g3, g4⟩ := aop_does hs ha e1
        refine wpIn_enter g1 (e2 ρ h w (hG.later hl) ρ1 args' w1 g2 g3 g4) ?_
        rintro e w2 ⟨v', rfl, ρ2, v, h2, k1, k2, k3, k4⟩
        have := e3 v h2 k1
        exact ⟨v', rfl, hX ρ2 _ _ _ h2 w2 this.2 this.1 (good ρ2 h2 v this.1 k2.none) (hl.trans k2) k3 ((ha.mono k2.le).put o.dst k4)⟩
    · rename_i hw
      simp only [hw] at ho
      exact ⟨fun _ _ => trivial, hX ρ _ _ _ h w ho.2 ho.1 (good ρ h undef ho.1 fun k _ hk => ⟨hk, rfl⟩) hl hs (ha.put o.dst undef_rel)⟩

theorem planned_cons {ops : Array Oper} {i : Nat} {e : Bool} {L : List (Nat × Bool)} {mp : List Nat} {listed : Array Bool} (h : planned ops ((i, e) :: L) mp listed = true) :
    ∃ o, ops[i]? = some o ∧ planned ops L (if e = true then i :: mp else mp.filter fun p => !waits ops i p) (listed.setIfInBounds i true) = true ∧
      if e = true then early o = true ∧ i ∈ Region.ready .any ops listed ∧ (∀ p ∈ mp, calm ops i p = true) ∧ (∀ d, o.dst = some d → d ∉ o.looksAt ops)
      else Region.ready .any ops listed = [i] ∧ ∀ p ∈ mp, waits ops i p = false → calm ops i p = true := by
  unfold planned at h
  rw [Bool.and_eq_true] at h
  obtain ⟨h1, h2⟩ := h
  cases ho : ops[i]? with
  | none => rw [ho] at h1; cases h1
  | some o =>
    rw [ho] at h1
    refine ⟨o, rfl, h2, ?_⟩
    dsimp only at h1
    split
    · rename_i he
      rw [if_pos he] at h1
      simp only [Bool.and_eq_true] at h1
      obtain ⟨⟨⟨a1, a2⟩, a3⟩, a4⟩ := h1
      refine ⟨a1, by simpa using a2, fun p hp => List.all_eq_true.1 a3 p hp, fun d hd => ?_⟩
      unfold own at a4
      rw [hd] at a4
      simpa using a4
    · rename_i he
      rw [if_neg he] at h1
      simp only [Bool.and_eq_true] at h1
      exact ⟨by simpa using h1.1, fun p hp hw => List.all_eq_true.1 h1.2 p (List.mem_filter.2 ⟨hp, by simp [hw]⟩)⟩

/-- What the run has listed, beside what the plan has. -/
def LRel (LA LR : Array Bool) (Pn : List Pd) : Prop := LR.size = LA.size ∧ (∀ j, LR.getD j true = (LA.getD j true && Pn.all fun p => p.i != j)) ∧ ∀ p ∈ Pn, p.i < LA.size ∧ LA.getD p.i true = true

theorem LRel.unlisted {LA LR : Array Bool} {Pn : List Pd} (h : LRel LA LR Pn) {p : Pd} (hp : p ∈ Pn) : LR.getD p.i true = false := by
  rw [h.2.1]
  have : (Pn.all fun q => q.i != p.i) = false := by
    rw [List.all_eq_false]
    exact ⟨p, hp, by simp⟩
  rw [this, Bool.and_false]

theorem getD_of {x : Array Bool} {j : Nat} (h : x.getD j false = true) : x.getD j true = true := by
  by_cases hj : j < x.size
  · simp [hj] at h ⊢; exact h
  · simp [hj] at h ⊢

theorem getD_to {x : Array Bool} {j : Nat} (hj : j < x.size) (h : x.getD j true = true) : x.getD j false = true := by
  simp [hj] at h ⊢; exact h

theorem getD_lt {x : Array Bool} {j : Nat} (h : x.getD j false = true) : j < x.size := by
  by_cases hj : j < x.size
  · exact hj
  · simp [hj] at h

/-- What the run may do, the plan may do, or has done. -/
theorem LRel.ready {ops : Array Oper} {LA LR : Array Bool} {Pn : List Pd} (h : LRel LA LR Pn) {j : Nat} (hj : j ∈ Region.ready .any ops LR) : (∃ p ∈ Pn, p.i = j) ∨ j ∈ Region.ready .any ops LA := by
  obtain ⟨h1, o, h2, h3⟩ := mem_ready.1 hj
  rw [h.2.1, Bool.and_eq_false_iff] at h1
  rcases h1 with h1 | h1
  · refine .inr (mem_ready.2 ⟨h1, o, h2, fun e he hb => ?_⟩)
    have h4 := h3 e he hb
    have h5 := getD_lt h4
    have h6 := getD_of h4
    rw [h.2.1, Bool.and_eq_true] at h6
    exact getD_to (by rw [← h.1]; exact h5) h6.1
  · rw [List.all_eq_false] at h1
    obtain ⟨p, hp, he⟩ := h1
    exact .inl ⟨p, hp, by simpa using he⟩

theorem getD_set {x : Array Bool} {i j : Nat} (hi : i < x.size) : (x.setIfInBounds i true).getD j true = (x.getD j true || i == j) := by
  by_cases hij : i = j
  · subst hij; simp [hi]
  · rw [getD_set_ne true hij]
    simp [hij]

theorem LRel.done {LA LR : Array Bool} {Pn : List Pd} (h : LRel LA LR Pn) {p : Pd} (hp : p ∈ Pn) : LRel LA (LR.setIfInBounds p.i true) (Pn.filter fun q => q.i != p.i) := by
  obtain ⟨h1, h2, h3⟩ := h
  refine ⟨by simpa using h1, fun j => ?_, fun q hq => h3 q (List.mem_filter.1 hq).1⟩
  rw [getD_set (by rw [h1]; exact (h3 p hp).1), h2]
  by_cases hj : p.i = j
  · subst hj
    have : ((Pn.filter fun q => q.i != p.i).all fun q => q.i != p.i) = true := by
      rw [List.all_eq_true]; intro q hq; exact (List.mem_filter.1 hq).2
    rw [this, (h3 p hp).2]; simp
  · have : ((Pn.filter fun q => q.i != p.i).all fun q => q.i != j) = (Pn.all fun q => q.i != j) := by
      rw [Bool.eq_iff_iff, List.all_eq_true, List.all_eq_true]
      refine ⟨fun hh q hq => ?_, fun hh q hq => hh q (List.mem_filter.1 hq).1⟩
      by_cases hqp : q.i = p.i
      · rw [hqp]; simpa using hj
      · exact hh q (List.mem_filter.2 ⟨hq, by simpa using hqp⟩)
    rw [this]; simp [hj]

theorem LRel.fresh {LA LR : Array Bool} {Pn : List Pd} (h : LRel LA LR Pn) {i : Nat} (hi : LA.getD i true = false) : ∀ p ∈ Pn, p.i ≠ i := by
  rintro p hp rfl
  rw [(h.2.2 p hp).2] at hi
  cases hi

theorem getD_size {x : Array Bool} {i : Nat} (hi : x.getD i true = false) : i < x.size := by
  by_cases h : i < x.size
  · exact h
  · simp [h] at hi

theorem LRel.take {LA LR : Array Bool} {Pn : List Pd} (h : LRel LA LR Pn) {p : Pd} (hi : LA.getD p.i true = false) : LRel (LA.setIfInBounds p.i true) LR (p :: Pn) := by
  have hlt := getD_size hi
  obtain ⟨h1, h2, h3⟩ := h
  refine ⟨by simpa using h1, fun j => ?_, fun q hq => ?_⟩
  · rw [getD_set hlt, h2, List.all_cons]
    by_cases hj : p.i = j
    · subst hj; simp [hi]
    · have e1 : (p.i == j) = false := by simpa using hj
      have e2 : (p.i != j) = true := by simpa using hj
      rw [e1, e2, Bool.or_false, Bool.true_and]
  · rw [getD_set hlt]
    rcases List.mem_cons.1 hq with rfl | hq
    · simpa using hlt
    · have := h3 q hq
      simp only [Array.size_setIfInBounds]
      exact ⟨this.1, by rw [this.2]; simp⟩

theorem LRel.both {LA LR : Array Bool} {Pn : List Pd} (h : LRel LA LR Pn) {i : Nat} (hi : LA.getD i true = false) : LRel (LA.setIfInBounds i true) (LR.setIfInBounds i true) Pn := by
  have hlt := getD_size hi
  have hno := h.fresh hi
  obtain ⟨h1, h2, h3⟩ := h
  refine ⟨by simpa using h1, fun j => ?_, fun q hq => ?_⟩
  · rw [getD_set hlt, getD_set (by rw [h1]; exact hlt), h2]
    by_cases hj : i = j
    · subst hj
      have : (Pn.all fun p => p.i != i) = true := by
        rw [List.all_eq_true]; intro q hq; simpa using hno q hq
      rw [this]; simp
    · have e1 : (i == j) = false := by simpa using hj
      rw [e1, Bool.or_false, Bool.or_false]
  · rw [getD_set hlt]
    have := h3 q hq
    simp only [Array.size_setIfInBounds]
    exact ⟨this.1, by rw [this.2]; simp⟩

theorem good_early {ops : Array Oper} {F F' : Facts} {z : Nat} {a b : Act} {h h' : H} {Pn : List Pd} {p : Pd} (hg : Good P ops F z ρ a b h Pn) (hop : ops[p.i]? = some p.o) (hne : ∀ q ∈ Pn, q.i ≠ p.i)
    (hcalm : ∀ q ∈ Pn, calm ops p.i q.i = true) (hown : ∀ d, p.o.dst = some d → d ∉ p.o.looksAt ops) (hF : ∀ x ∈ F, x.2 h') (hFF : ∀ x ∈ F, x ∈ F') (hh : ∀ k, k < h.size → h'[k]? = h[k]?)
    (hk : p.kind P ops F' z ρ (a.put p.o.dst p.v) h') (hnew : ∀ n ob, p.n = some (n, ob) → h.size ≤ n) : Good P ops F' z ρ (a.put p.o.dst p.v) b h' (p :: Pn) := by
  have spec := fun q hq => calm_spec hop (hg.each q hq).1 (hcalm q hq)
  refine ⟨?_, hg.size.trans (put_size _ _ _).symm, hg.defs.trans (put_defers _ _ _).symm, fun t ht => ?_, fun q hq => ?_, fun q hq r hr hqr => ?_⟩
  · rw [List.map_cons, List.nodup_cons]
    refine ⟨fun hm => ?_, hg.nd⟩
    obtain ⟨q, hq, he⟩ := List.mem_map.1 hm
    exact hne q hq he
  · rw [put_slot (ht p (by simp))]
    exact hg.off t fun q hq => ht q (by simp [hq])
  · rcases List.mem_cons.1 hq with rfl | hq
    · exact ⟨hop, put_again _ _ _, hown, hk⟩
    · obtain ⟨k1, k2, k3, k4⟩ := hg.each q hq
      have hlk : ∀ d, p.o.dst = some d → d ∉ q.o.looksAt ops := fun d hd => ((spec q hq).1 d hd).1
      refine ⟨k1, ?_, k3, ?_⟩
      · rw [← Act.put_comm a q.v p.v fun d hd hd2 => ((spec q hq).1 d hd2).2 hd, k2]
      · unfold Pd.kind at k4 ⊢
        cases hqn : q.n with
        | none =>
          rw [hqn] at k4
          obtain ⟨c1, c2, c3⟩ := k4
          exact ⟨c3.elim (fun hm => hF _ hm) fun hall => hall h', fun h2 hh2 => (c2 h2 hh2).put hlk, c3.imp (hFF _) id⟩
        | some nb =>
          obtain ⟨n, ob⟩ := nb
          rw [hqn] at k4
          obtain ⟨c1, c2, c3, c4, c5, c6, c7, c8⟩ := k4
          refine ⟨?_, c2, c3, (hh n (Array.getElem?_eq_some_iff.1 c4).1).trans c4, c5, c6, c7, fun g => ?_⟩
          · rw [wanted_put q.o a p.o.dst p.v hlk]; exact c1
          · rw [aop_put hlk]; exact c8 g
  · have hlt : ∀ q ∈ Pn, ∀ n ob, q.n = some (n, ob) → n < h.size := fun q hq n ob hqn => by
      have k4 := (hg.each q hq).2.2.2
      unfold Pd.kind at k4
      rw [hqn] at k4
      exact (Array.getElem?_eq_some_iff.1 k4.2.2.2.1).1
    rcases List.mem_cons.1 hq with rfl | hq2 <;> rcases List.mem_cons.1 hr with rfl | hr2
    · exact absurd rfl hqr
    · refine ⟨fun d hd => ⟨fun hd2 => ((spec r hr2).1 d hd2).2 hd, (spec r hr2).2 d hd⟩, fun n ob m ob' h1 h2 => ?_⟩
      have := hnew n ob h1
      have := hlt r hr2 m ob' h2
      omega
    · refine ⟨fun d hd => ⟨((spec q hq2).1 d hd).2, fun hin => absurd hin ((spec q hq2).1 d hd).1⟩, fun n ob m ob' h1 h2 => ?_⟩
      have := hnew m ob' h2
      have := hlt q hq2 n ob h1
      omega
    · exact hg.pair q hq2 r hr2 hqr

theorem plan_sound {r : Option Nat} {ops : Array Oper} {K : Act → H → Prop} {ρ0 : Ren} {h0 : H} {w0 : World} (hG : Glob Γ ρ0 w0) (hfw : forward ops = true) :
    ∀ (n : Nat) (L : List (Nat × Bool)) (mp : List Nat) (F : Facts) (LA LR : Array Bool) (Pn : List Pd) (a : Act) (h : H) (ρ : Ren) (b b' : Act) (w : World),
      n = L.length + Pn.length → LA.size = ops.size → LRel LA LR Pn → planned ops L mp LA = true → (∀ p ∈ Pn, p.i ∈ mp) → Good P ops F h0.size ρ a b h Pn → (∀ x ∈ F, x.2 h) → DPlan P Γ ops K L F a h →
      Later ρ0 h0 w0 ρ h w → Sim P ρ h w → ActRel P ρ b b' → wpAnyIn (Wd r) 0 P .any ops (NPost P ρ0 h0 w0 K) n LR b' w := by
  intro n
  induction n with
  | zero =>
    intro L mp F LA LR Pn a h ρ b b' w hn hsz hLR hpl hmp hg hF hd hl hs ha
    have e1 : L = [] := List.eq_nil_of_length_eq_zero (by omega)
    have e2 : Pn = [] := List.eq_nil_of_length_eq_zero (by omega)
    subst e1; subst e2
    have hra : Region.ready .any ops LA = [] := by simpa [planned] using hpl
    refine ⟨?_, rfl, ρ, b, h, ?_, hl, hs, ha⟩
    · rw [List.eq_nil_iff_forall_not_mem]
      intro j hj
      rcases hLR.ready hj with ⟨p, hp, _⟩ | hj
      · cases hp
      · rw [hra] at hj; cases hj
    · have : b = a := by
        have ht : b.tmps = a.tmps := by
          apply Array.ext_getElem?
          intro t
          exact hg.off t fun p hp => by cases hp
        have h1 := hg.defs
        cases a; cases b
        simp only at ht h1
        rw [ht, h1]
      rw [this]; exact hd
  | succ n ih =>
    have pend : ∀ (L : List (Nat × Bool)) (mp : List Nat) (F : Facts) (LA LR : Array Bool) (Pn : List Pd) (a : Act) (h : H) (ρ : Ren) (b b' : Act) (w : World),
        n + 1 = L.length + Pn.length → LA.size = ops.size → LRel LA LR Pn → planned ops L mp LA = true → (∀ p ∈ Pn, p.i ∈ mp) → Good P ops F h0.size ρ a b h Pn → (∀ x ∈ F, x.2 h) → DPlan P Γ ops K L F a h →
        Later ρ0 h0 w0 ρ h w → Sim P ρ h w → ActRel P ρ b b' → ∀ p ∈ Pn, p.i ∈ Region.ready .any ops LR →
        wpOpIn (Wd r) 0 P ops (NPost P ρ0 h0 w0 K) p.i (fun a' w' => wpAnyIn (Wd r) 0 P .any ops (NPost P ρ0 h0 w0 K) n (LR.setIfInBounds p.i true) a' w') b' w := by
      intro L mp F LA LR Pn a h ρ b b' w hn hsz hLR hpl hmp hg hF hd hl hs ha p hp hj
      refine step_pending hg hp hj (fun q hq => hLR.unlisted hq) hl hs ha fun ρ1 b1 b1' w1 g1 g2 g3 g4 => ?_
      have hlen := nodup_filter Pn hg.nd p hp
      exact ih L mp F LA _ _ a h ρ1 b1 b1' w1 (by omega) hsz (hLR.done hp) hpl (fun q hq => hmp q (List.mem_filter.1 hq).1) g1 hF hd g2 g3 g4
    have some : ∀ (LA LR : Array Bool) (Pn : List Pd), LA.size = ops.size → LRel LA LR Pn → (∃ j, LA.getD j true = false ∨ ∃ p ∈ Pn, p.i = j) → Region.ready .any ops LR ≠ [] := by
      rintro LA LR Pn hsz hLR ⟨j, hj⟩
      have hun : LR.getD j true = false := by
        rcases hj with hj | ⟨p, hp, rfl⟩
        · rw [hLR.2.1, hj]; rfl
        · exact hLR.unlisted hp
      exact ready_ne hfw (hLR.1.trans hsz) j (by have := getD_size hun; rw [hLR.1, hsz] at this; exact this) hun
    intro L
    induction L with
    | nil =>
      intro mp F LA LR Pn a h ρ b b' w hn hsz hLR hpl hmp hg hF hd hl hs ha
      have hra : Region.ready .any ops LA = [] := by simpa [planned] using hpl
      refine ⟨fun hr => ?_, fun j hj => ?_⟩
      · exfalso
        cases Pn with
        | nil => simp at hn
        | cons p Pn => exact some LA LR _ hsz hLR ⟨p.i, .inr ⟨p, by simp, rfl⟩⟩ hr
      · rcases hLR.ready hj with ⟨p, hp, rfl⟩ | hj2
        · exact pend [] mp F LA LR Pn a h ρ b b' w hn hsz hLR hpl hmp hg hF hd hl hs ha p hp hj
        · rw [hra] at hj2; cases hj2
    | cons x L ihL =>
      obtain ⟨i, e⟩ := x
      intro mp F LA LR Pn a h ρ b b' w hn hsz hLR hpl hmp hg hF hd hl hs ha
      obtain ⟨o, ho, hpl2, hcase⟩ := planned_cons hpl
      cases e with
      | true =>
        simp only [if_true] at hpl2 hcase
        obtain ⟨hear, hrdy, hcalm, hown⟩ := hcase
        have hun := (mem_ready.1 hrdy).1
        have hne := hLR.fresh hun
        unfold DPlan at hd
        simp only [ho, if_true] at hd
        by_cases ht : takes o = true
        · rw [if_pos ht] at hd
          obtain ⟨v, hf, hd⟩ := hd
          let p : Pd := ⟨i, o, v, fun h => Finds P ops o v a h, none⟩
          refine ihL (i :: mp) (if asks o = true then (i, fun h => Finds P ops o v a h) :: F else F) _ LR (p :: Pn) (a.put o.dst v) h ρ b b' w (by simp at hn ⊢; omega) (by simpa using hsz) (hLR.take (p := p) hun) hpl2 ?_ ?_ ?_ hd hl hs ha
          · intro q hq
            rcases List.mem_cons.1 hq with rfl | hq
            · simp [p]
            · exact List.mem_cons_of_mem _ (hmp q hq)
          · refine good_early (p := p) hg ho hne (fun q hq => hcalm _ (hmp q hq)) hown hF ?_ (fun _ _ => rfl) ?_ (fun n ob h => by cases h)
            · intro x hx
              split
              · exact List.mem_cons_of_mem _ hx
              · exact hx
            · refine ⟨hf, fun h' hh' => Finds.put hown hh', ?_⟩
              by_cases hk : asks o = true
              · rw [if_pos hk]; exact .inl (by simp [p])
              · exact .inr fun h' => hf.still ht (by simpa using hk) h'
          · intro x hx
            split at hx
            · rcases List.mem_cons.1 hx with rfl | hx
              · exact hf
              · exact hF x hx
            · exact hF x hx
        · rw [if_neg ht] at hd
          have hnews : news o = true := by
            unfold early at hear
            rw [Bool.or_eq_true] at hear
            exact hear.resolve_left ht
          by_cases hw : Region.wanted o (yielded ops a.tmps) = true
          · rw [if_pos hw] at hd
            obtain ⟨v, h1, e1, e2, e3, hd⟩ := hd
            obtain ⟨ob, rfl, q2, q3, q4⟩ := aop_news hnews e1
            rw [Array.getElem?_push, if_pos rfl] at e2
            let p : Pd := ⟨i, o, v, fun _ => True, .some (h.size, ob)⟩
            refine ihL (i :: mp) F _ LR (p :: Pn) (a.put o.dst v) _ ρ b b' w (by simp at hn ⊢; omega) (by simpa using hsz) (hLR.take (p := p) hun) hpl2 ?_ ?_ e3 hd hl.ghost hs.ghost ha
            · intro q hq
              rcases List.mem_cons.1 hq with rfl | hq
              · simp [p]
              · exact List.mem_cons_of_mem _ (hmp q hq)
            · refine good_early (p := p) hg ho hne (fun q hq => hcalm _ (hmp q hq)) hown e3 (fun x hx => hx) (fun k hk => by rw [Array.getElem?_push, if_neg (by omega)]) ?_ (fun n ob h => by cases h; exact Nat.le_refl _)
              refine ⟨?_, ?_, hl.size, by rw [Array.getElem?_push, if_pos rfl], q2, by simpa using e2, q3, fun g => ?_⟩
              · rw [wanted_put o a o.dst v hown]; exact hw
              · cases hr : ρ h.size with
                | none => rfl
                | some t => exact absurd (hs.lt hr) (by omega)
              · show aop P (a.put o.dst v) o g = _
                rw [aop_put hown]; exact q4 g
          · rw [if_neg hw] at hd
            let p : Pd := ⟨i, o, undef, fun _ => True, none⟩
            refine ihL (i :: mp) F _ LR (p :: Pn) (a.put o.dst undef) _ ρ b b' w (by simp at hn ⊢; omega) (by simpa using hsz) (hLR.take (p := p) hun) hpl2 ?_ ?_ hF hd hl hs ha
            · intro q hq
              rcases List.mem_cons.1 hq with rfl | hq
              · simp [p]
              · exact List.mem_cons_of_mem _ (hmp q hq)
            · refine good_early (p := p) hg ho hne (fun q hq => hcalm _ (hmp q hq)) hown hF (fun x hx => hx) (fun _ _ => rfl) ?_ (fun n ob h => by cases h)
              refine ⟨trivial, fun h' _ => .inr ⟨?_, rfl⟩, .inr fun _ => trivial⟩
              show Region.wanted o (yielded ops (a.put o.dst undef).tmps) = false
              rw [wanted_put o a o.dst undef hown]; simpa using hw
      | false =>
        have hcase2 : Region.ready .any ops LA = [i] ∧ ∀ p ∈ mp, waits ops i p = false → calm ops i p = true := hcase
        have hpl3 : planned ops L (mp.filter fun p => !waits ops i p) (LA.setIfInBounds i true) = true := hpl2
        obtain ⟨hra, hcalm⟩ := hcase2
        have hun : LA.getD i true = false := (mem_ready.1 (by rw [hra]; simp : i ∈ Region.ready .any ops LA)).1
        refine ⟨fun hr => absurd hr (some LA LR Pn hsz hLR ⟨i, .inl hun⟩), fun j hj => ?_⟩
        rcases hLR.ready hj with ⟨p, hp, rfl⟩ | hj2
        · exact pend _ mp F LA LR Pn a h ρ b b' w hn hsz hLR hpl hmp hg hF hd hl hs ha p hp hj
        · rw [hra, List.mem_singleton] at hj2
          subst hj2
          unfold DPlan at hd
          simp only [ho] at hd
          have hnw : ∀ p ∈ Pn, waits ops j p.i = false := fun p hp => waits_false hj (hLR.unlisted hp)
          refine step_alone hg hnw (fun p hp => hcalm _ (hmp p hp) (hnw p hp)) (K2 := fun a h => DPlan P Γ ops K L (keeps ops j F) a h) hd hG hl hs ha fun ρ1 a1 b1 b1' h1 w1 k1 k2 k3 k4 k5 k6 => ?_
          exact ih L _ (keeps ops j F) _ _ Pn a1 h1 ρ1 b1 b1' w1 (by simp at hn; omega) (by simpa using hsz) (hLR.both hun) hpl3 (fun p hp => List.mem_filter.2 ⟨hmp p hp, by simp [hnw p hp]⟩) k3 k2 k1 k4 k5 k6

/-- **A region that draws its order, by a plan.** -/
theorem ACode.plan {ops : Array Oper} {id : Nat} {a : Act} {h : H} {Q : Exit → Act → H → Prop} (hm : P.follows .mixedOrders = true) (L : List (Nat × Bool)) (hL : L.length = ops.size) (hfw : forward ops = true)
    (hp : planned ops L [] (Array.replicate ops.size false) = true) (hd : DPlan P Γ ops (fun a h => Q .normal a h) L [] a h) : ACode P Γ (.region id ops true) a h Q :=
  fun ρ0 h0 w0 hG r hrr ρ a' w hl hs ha => by
    refine wpIn_mono (wpIn_region_any hm (plan_sound (ρ0 := ρ0) (h0 := h0) (w0 := w0) hG hfw ops.size L [] [] (Array.replicate ops.size false) (Array.replicate ops.size false) [] a h ρ a a' _ (by simp [hL]) (by simp) ?_ hp (fun p hp => by cases hp) ?_
      (fun x hx => by cases hx) hd (hl.trans (Later.drew ρ h w _)) (hs.drew _) ha)) ?_
    · exact ⟨rfl, fun j => by simp, fun p hp => by cases hp⟩
    · exact ⟨by simp, rfl, rfl, fun _ _ => rfl, (fun p hp => by cases hp), (fun p hp => by cases hp)⟩
    · rintro e a w ⟨rfl, ρ1, a1, h1, h2⟩
      exact ⟨rfl, ρ1, a1, h1, h2⟩

end Go.Abs
