/-
The abstract heap: strings and rows of bytes.
-/
import Derived.Test.YtgeoihombkjgnaaGreatDoorBwAbsP
namespace Go.Abs
open Go
variable {P : Program} {Γ : Gl} {ρ : Ren} {α β : Type}

/-- A program that does not write. -/
def mild (P : Program) : Sem α → Prop
  | .pure _ => True
  | .program k => mild P (k P)
  | .mark _ k => mild P k
  | .load _ _ k => ∀ v, mild P (k v)
  | .getObj _ k => ∀ o, mild P (k o)
  | .store _ _ _ _ | .new _ _ | .setObj _ _ _ => False
  | _ => True

theorem quiet_mild (s : Sem α) (h : quiet P s) : mild P s := by
  induction s with
  | pure a => trivial
  | program k ih => exact ih P h
  | mark m k ih => exact ih h
  | load => exact h.elim
  | store => exact h.elim
  | new => exact h.elim
  | getObj => exact h.elim
  | setObj => exact h.elim
  | _ => trivial

theorem mild_bind' (s : Sem α) (f : α → Sem β) (hs : mild P s) (hf : ∀ a, mild P (f a)) : mild P (s.bind f) := by
  induction s with
  | pure a => exact hf a
  | program k ih => exact ih P hs
  | mark m k ih => exact ih hs
  | load m a k ih => exact fun v => ih v (hs v)
  | getObj r k ih => exact fun o => ih o (hs o)
  | store => exact hs.elim
  | new => exact hs.elim
  | setObj => exact hs.elim
  | shape => trivial
  | freeze => trivial
  | frozen => trivial
  | choose => trivial
  | sys => trivial
  | halt => trivial

theorem mild_bind {s : Sem α} {f : α → Sem β} (hs : mild P s) (hf : ∀ a, mild P (f a)) : mild P (s >>= f) := mild_bind' s f hs hf
theorem mild_of {s : Sem α} {f : α → Sem β} (hs : quiet P s) (hf : ∀ a, mild P (f a)) : mild P (s >>= f) := mild_bind (quiet_mild s hs) hf

theorem mild_run (s : Sem α) (hs : mild P s) (h : H) (a : α) (h1 : H) (hr : arun P s h = some (a, h1)) : h1 = h := by
  induction s with
  | pure x => simp only [arun, Option.some.injEq, Prod.mk.injEq] at hr; exact hr.2.symm
  | program k ih => exact ih P hs hr
  | mark m k ih =>
    simp only [arun] at hr
    split at hr
    · cases hr
    · exact ih hs hr
  | load m ad k ih =>
    simp only [arun] at hr
    split at hr
    · split at hr
      · exact ih _ (hs _) hr
      · cases hr
    · cases hr
  | getObj r k ih =>
    simp only [arun] at hr
    split at hr
    · split at hr
      · exact ih _ (hs _) hr
      · cases hr
    · cases hr
  | store => exact hs.elim
  | new => exact hs.elim
  | setObj => exact hs.elim
  | shape => simp [arun] at hr
  | freeze => simp [arun] at hr
  | frozen => simp [arun] at hr
  | choose => simp [arun] at hr
  | sys => simp [arun] at hr
  | halt => simp [arun] at hr

theorem mild_loadCells (a : Addr) : ∀ (n i : Nat) (acc : Array Value), mild P (Go.loadCellsFrom a i n acc) := by
  intro n
  induction n with
  | zero => intro i acc; trivial
  | succ n ih => intro i acc v; exact ih _ _
theorem mild_loadVar (t : TypeId) (a : Addr) : mild P (Go.loadVar t a) := by
  refine mild_of (quiet_isAgg t) fun b => ?_
  split
  · exact mild_of (quiet_sizeOf t) fun n => mild_bind (mild_loadCells a n 0 #[]) fun _ => trivial
  · exact fun _ => trivial
theorem mild_loadAt (t : TypeId) (v : Value) : mild P (Instr.loadAt t v) := mild_of (quiet_sureAddr v) fun a => mild_loadVar t a
theorem quiet_findAsking (t : TypeId) (k : Value) : ∀ (es : List MapEntry) (i : Nat), quiet P (Instr.findAsking t k es i) := by
  intro es
  induction es with
  | nil => intro i; trivial
  | cons e es ih =>
    intro i
    refine quiet_bind _ _ (quiet_equalIn _ _ _ _) fun b => ?_
    split
    · trivial
    · exact ih _
theorem quiet_findKey (t : TypeId) (k : Value) (es : List MapEntry) : quiet P (Instr.findKey t k es) := by
  refine quiet_bind _ _ (quiet_underlying t) fun d => ?_
  split
  · trivial
  · exact quiet_findAsking _ _ _ _
theorem mild_lookup (t : TypeId) (x i : Value) (ok : Bool) : mild P (Instr.lookup t x i ok) := by
  refine mild_of (quiet_underlying t) fun d => ?_
  split
  · dsimp only
    split
    · refine mild_bind (s := Pure.pure #[]) trivial fun es => quiet_mild _ (quiet_bind _ _ (quiet_checkKey _ _ _ _) fun _ => quiet_bind _ _ (quiet_findKey _ _ _) fun r => ?_)
      split
      · trivial
      · exact quiet_bind _ _ (quiet_zeroValue _) fun _ => trivial
    · refine mild_bind (fun o => trivial) fun o => ?_
      split
      · refine mild_bind (s := Pure.pure _) trivial fun es => quiet_mild _ (quiet_bind _ _ (quiet_checkKey _ _ _ _) fun _ => quiet_bind _ _ (quiet_findKey _ _ _) fun r => ?_)
        split
        · trivial
        · exact quiet_bind _ _ (quiet_zeroValue _) fun _ => trivial
      · trivial
    · trivial
  · trivial
theorem quiet_sliceBound (v : Value) (n : Nat) (c : BoundsCode) : quiet P (Instr.sliceBound v n c) := by
  refine quiet_bind _ _ (quiet_asIntOf v) fun k => ?_
  dsimp only
  by_cases hc : 0 ≤ k.2 ∧ k.2 ≤ (n : Int)
  · rw [if_pos hc]; trivial
  · rw [if_neg hc]; exact quiet_bounds _ _ _ _
theorem quiet_pureBind (a : α) (f : α → Sem β) (hf : quiet P (f a)) : quiet P (Pure.pure a >>= f) := hf
theorem quiet_sliceBounds (b : Bool) (n c : Nat) (lo hi mx : Option Value) : quiet P (Instr.sliceBounds b n c lo hi mx) := by
  unfold Instr.sliceBounds
  dsimp only
  have tail : ∀ (m h : Nat), quiet P (match lo with
      | some v => do
        let l ← Instr.sliceBound v h (if mx.isSome = true then BoundsCode.slice3C else BoundsCode.sliceB)
        Pure.pure (l, h, m)
      | none => do
        let l ← Pure.pure 0
        Pure.pure (l, h, m)) := by
    intro m h
    cases lo with
    | none => exact True.intro
    | some v => exact quiet_bind _ _ (quiet_sliceBound _ _ _) fun _ => True.intro
  cases mx with
  | none =>
    refine quiet_pureBind c _ ?_
    cases hi with
    | none => exact quiet_pureBind n _ (tail c n)
    | some v => exact quiet_bind _ _ (quiet_sliceBound _ _ _) fun h => tail c h
  | some x =>
    refine quiet_bind _ _ (quiet_sliceBound _ _ _) fun m => ?_
    cases hi with
    | none => exact True.intro
    | some v => exact quiet_bind _ _ (quiet_sliceBound _ _ _) fun h => tail m h
theorem quiet_asAddr (v : Value) : quiet P (Go.asAddr v) := by
  unfold Go.asAddr; split <;> trivial
theorem quiet_slice (t : TypeId) (x : Value) (lo hi mx : Option Value) : quiet P (Instr.slice t x lo hi mx) := by
  refine quiet_bind _ _ (quiet_underlying t) fun d => ?_
  split
  · split
    · trivial
    · exact quiet_bind _ _ (quiet_sliceBounds _ _ _ _ _ _) fun _ => trivial
  · exact quiet_bind _ _ (quiet_sliceBounds _ _ _ _ _ _) fun _ => quiet_bind _ _ (quiet_sizeOf _) fun _ => trivial
  · refine quiet_bind _ _ (quiet_asAddr _) fun a => quiet_bind _ _ (quiet_underlying _) fun d => ?_
    split
    · exact quiet_bind _ _ (quiet_sliceBounds _ _ _ _ _ _) fun _ => quiet_bind _ _ (quiet_sizeOf _) fun _ => trivial
    · trivial
  · trivial
theorem mild_len (ts : Array TypeId) (t : TypeId) (xs : Array Value) : mild P (Builtin.len_ ts t xs) := by
  unfold Builtin.len_
  split
  · refine mild_of (quiet_underlying _) fun d => ?_
    split <;> first | trivial | skip
    · refine mild_of (quiet_underlying _) fun d => ?_
      split <;> trivial
    · refine mild_bind (fun o => trivial) fun o => ?_
      split <;> trivial
    · refine mild_bind (fun o => trivial) fun o => ?_
      split <;> trivial
  · trivial
theorem quiet_mapM {γ : Type} (f : α → Sem γ) (hf : ∀ a, quiet P (f a)) (xs : Array α) : quiet P (xs.mapM f) := by
  rw [Array.mapM_eq_foldlM, ← Array.foldlM_toList]
  have : ∀ (l : List α) (bs : Array γ), quiet P (l.foldlM (fun bs a => do let b ← f a; Pure.pure (bs.push b)) bs) := by
    intro l
    induction l with
    | nil => intro bs; trivial
    | cons a l ih =>
      intro bs
      rw [List.foldlM_cons]
      exact quiet_bind _ _ (quiet_bind _ _ (hf a) fun _ => trivial) fun _ => ih _
  exact this _ _
theorem quiet_build (t : TypeId) (ps : Array (Nat × Value)) : quiet P (Instr.build t ps) := by
  refine quiet_bind _ _ (quiet_zeroValue t) fun z => quiet_bind _ _ (quiet_underlying t) fun d => ?_
  split
  · refine quiet_bind _ _ (quiet_mapM _ (fun f => ?_) _) fun pl => ?_
    · exact quiet_bind _ _ (quiet_sizeOf _) fun _ => trivial
    · split <;> trivial
  · refine quiet_bind _ _ (quiet_sizeOf _) fun n => ?_
    split <;> trivial
  · trivial

def sameL (f : Value → Value → Bool) : List Value → List Value → Bool
  | [], [] => true
  | x :: xs, y :: ys => f x y && sameL f xs ys
  | _, _ => false

theorem sameL_eq {f : Value → Value → Bool} (hf : ∀ x y, f x y = true → x = y) : ∀ xs ys, sameL f xs ys = true → xs = ys := by
  intro xs
  induction xs with
  | nil => intro ys h; cases ys with | nil => rfl | cons => cases h
  | cons x xs ih =>
    intro ys h
    cases ys with
    | nil => cases h
    | cons y ys =>
      simp only [sameL, Bool.and_eq_true] at h
      rw [hf _ _ h.1, ih _ h.2]

def same1 : Value → Value → Bool
  | .bool a, .bool b => a == b
  | .int k m, .int l n => decide (k = l) && decide (m = n)
  | .string s, .string t => decide (s = t)
  | .pointer a, .pointer b => decide (a = b)
  | .slice a n c, .slice b m d => decide (a = b) && n == m && c == d
  | .map a, .map b => decide (a = b)
  | .nilFunc, .nilFunc => true
  | .nilIface, .nilIface => true
  | _, _ => false

theorem same1_eq (x y : Value) (h : same1 x y = true) : x = y := by
  cases x <;> cases y <;> simp_all [same1]

def sameV : Value → Value → Bool
  | .agg xs, .agg ys => sameL same1 xs.toList ys.toList
  | .tuple xs, .tuple ys => sameL same1 xs.toList ys.toList
  | x, y => same1 x y

theorem sameV_eq (x y : Value) (h : sameV x y = true) : x = y := by
  unfold sameV at h
  split at h
  · rw [Array.ext' (sameL_eq same1_eq _ _ h)]
  · rw [Array.ext' (sameL_eq same1_eq _ _ h)]
  · exact same1_eq _ _ h

def bytesLoop (cs : Array Value) : Sem Value := do
  let mut s := ByteArray.empty
  for c in cs do
    let .int .u8 n := c | stuck "bytesToString: byte expected"
    s := s.push (UInt8.ofNat n.toNat)
  Pure.pure (.string s)

theorem bytesToString_eq (a : Addr) (n c : Nat) : Conv.bytesToString (.slice (some a) n c) = (do let cs ← Go.loadCells a n; bytesLoop cs) := rfl

def isU8 (P : Program) (e : TypeId) : Bool := match P.underlying e with | some (.int .u8) => true | _ => false

def byteCells (s : ByteArray) : Array Value := s.data.map fun b => .int .u8 b.toNat

/-- What goes beyond one cell's arithmetic: strings made of rows, and rows made of strings. -/
def aext (P : Program) (a : Act) (o : Oper) (h : H) : Option (Value × H) :=
  match o.op with
  | .convert src dst x =>
    if okOperand x = true then
      match P.underlying src, P.underlying dst, a.eval x with
      | some .string, some (.slice e), .string s =>
        match eok P e with
        | some (i, z) => if isU8 P e = true ∧ s.size ≤ 140737488355328 ∧ i.size = 1 ∧ sameV z (.int .u8 0) = true then some (.slice (some ⟨h.size, 0, none⟩) s.size OPEN, h.push (.cells (byteCells s) e)) else none
        | none => none
      | some (.slice e), some .string, .slice none 0 0 => if isU8 P e = true then some (.string .empty, h) else none
      | some (.slice e), some .string, .slice (some ad) n _ =>
        if isU8 P e = true then
          match arun P (Go.loadCells ad n) h with
          | some (cs, _) => if cs.all flat = true then match prun P (bytesLoop cs) with | some v => if flat v = true then some (v, h) else none | none => none else none
          | none => none
        else none
      | _, _, _ => none
    else none
  | _ => none

theorem zeroCells_one (v : Value) (k : Nat) : Builtin.zeroCells #[v] k = Array.replicate k v := by
  apply Array.ext
  · simp [Builtin.zeroCells]
  · intro i h1 h2
    simp [Builtin.zeroCells, Nat.mod_one]

theorem stringToBytes_run {e : TypeId} (s : ByteArray) (w : World) : ∃ f : Nat × Nat, grownCap w s.size 0 e ≤ f.1 ∧
    (Conv.stringToBytes e s).run P w = .ok (.slice (some ⟨w.heap.size, 0, none⟩) s.size (grownCap w s.size 0 e)) (w.drew.alloc (.cells (byteCells s ++ Array.replicate (grownCap w s.size 0 e - s.size) (.int .u8 0)) e f)) := by
  have hge : s.size ≤ grownCap w s.size 0 e := grownCap_ge w s.size 0 e
  have hsz : (byteCells s ++ Array.replicate (grownCap w s.size 0 e - s.size) (Value.int .u8 0)).size = grownCap w s.size 0 e := by
    rw [Array.size_append, Array.size_replicate]
    have : (byteCells s).size = s.size := by simp [byteCells]
    omega
  refine ⟨(grownCap w s.size 0 e, grownCap w s.size 0 e + 1), Nat.le_refl _, ?_⟩
  have h1 : (Conv.stringToBytes e s).run P w = ((markStringish ⟨w.heap.size, 0, none⟩).run P (w.drew.alloc (.cells (byteCells s ++ Array.replicate (grownCap w s.size 0 e - s.size) (.int .u8 0)) e))).andThen fun _ w' =>
      .ok (.slice (some ⟨w.heap.size, 0, none⟩) s.size (grownCap w s.size 0 e)) w' := by
    simp [Conv.stringToBytes, newRow, grownCap, byteCells, Question.forced]
  rw [h1]
  generalize byteCells s ++ Array.replicate (grownCap w s.size 0 e - s.size) (Value.int .u8 0) = cs at *
  have h2 : (w.drew.alloc (.cells cs e)).heap[w.heap.size]? = some (.cells cs e) := by
    show (w.heap.push _)[w.heap.size]? = _
    simp
  have h3 : (markStringish ⟨w.heap.size, 0, none⟩).run P (w.drew.alloc (.cells cs e)) = .ok () ((w.drew.alloc (.cells cs e)).freeze ⟨w.heap.size, cs.size, none⟩ 1) := by
    have h4 : (w.drew.alloc (.cells cs e)).shape? w.heap.size = some (e, cs.size) := by
      simp only [World.shape?, h2]
    show (Sem.shape _ _).run P _ = _
    simp only [Sem.run]
    rw [h4]
    rfl
  rw [h3, hsz]
  simp only [Result.andThen_ok, Result.ok.injEq, true_and]
  have hh : ((w.drew.alloc (.cells cs e)).freeze ⟨w.heap.size, grownCap w s.size 0 e, none⟩ 1).heap = (w.drew.alloc (.cells cs e (grownCap w s.size 0 e, grownCap w s.size 0 e + 1))).heap := by
    apply Array.ext_getElem?
    intro j
    show ((w.heap.push (.cells cs e)).modify w.heap.size _)[j]? = (w.heap.push _)[j]?
    rw [Array.getElem?_modify, Array.getElem?_push, Array.getElem?_push]
    by_cases hj : w.heap.size = j
    · subst hj; simp
    · have : ¬ j = w.heap.size := fun h => hj h.symm
      simp [hj, this]
  exact congrArg (fun x => ({ w.drew with heap := x } : World)) hh

theorem isU8_spec {e : TypeId} (h : isU8 P e = true) : P.underlying e = some (.int .u8) := by
  unfold isU8 at h
  split at h
  · assumption
  · cases h

theorem aext_does {a a' : Act} {o : Oper} {h h1 : H} {w : World} {v : Value} (hs : Sim P ρ h w) (ha : ActRel P ρ a a') (hr : aext P a o h = some (v, h1)) :
    OpDoes P ρ h w (.val v h1) (execOp a'.eval o) := by
  unfold aext at hr
  cases hop : o.op <;> rw [hop] at hr <;> first | (cases hr; done) | skip
  rename_i src dst x
  dsimp only at hr
  split at hr
  case isFalse => cases hr
  rename_i hok
  have hx := ha.eval hok
  have hex : execOp a'.eval o = (do Pure.pure (.value (← convert src dst (a'.eval x)))) := by
    unfold execOp; rw [hop]
  rw [hex]
  refine OpDoes.ofDoes ?_
  split at hr
  · rename_i e s h1u h2u h3
    rw [h3] at hx
    generalize a'.eval x = x' at hx
    cases hx
    split at hr
    · rename_i i z he
      split at hr
      · rename_i hc
        obtain ⟨c1, c2, c3, c4⟩ := hc
        cases hr
        have hz := sameV_eq _ _ c4
        subst hz
        have hcap : s.size ≤ grownCap w s.size 0 e := grownCap_ge w s.size 0 e
        have hall : (byteCells s).all flat1 = true := by
          rw [Array.all_eq_true]; intro j hj; simp only [byteCells, Array.getElem_map]; rfl
        have hone : (byteCells s).all Value.oneCell' = true := by
          rw [Array.all_eq_true]; intro j hj; simp only [byteCells, Array.getElem_map]; rfl
        obtain ⟨f, hf, hrun⟩ := stringToBytes_run (P := P) (e := e) s w
        obtain ⟨ρ', g1, g2, g3⟩ := (hs.drew (w.drawn + 1)).pushGrownF (f := f) (x := byteCells s) (x' := byteCells s) (n := s.size) (cap := grownCap w s.size 0 e) he (.inr (by rw [c3]; omega)) (flats_rel hall) hone (by rw [c3]; simp [byteCells]) hcap
          (grownCap_le_maxLen w s.size 0 e (by unfold maxLen; omega))
        refine ⟨_, _, ρ', ?_, (Later.drew ρ h w (w.drawn + 1)).trans g3, g2, g1⟩
        unfold convert
        simp only [Sem.run_bind, run_underlying', h1u, h2u, Result.andThen_ok, isU8_spec c1]
        rw [hrun]
        rw [show (Value.int .u8 0).cells = #[.int .u8 0] from rfl, zeroCells_one]
        rfl
      · cases hr
    · cases hr
  · rename_i e h1u h2u h3
    rw [h3] at hx
    generalize a'.eval x = x' at hx
    cases hx
    split at hr
    · rename_i c1
      cases hr
      refine ⟨_, w, ρ, ?_, .refl _ _ _, hs, .string _⟩
      unfold convert
      simp only [Sem.run_bind, run_underlying', h1u, h2u, Result.andThen_ok, isU8_spec c1]
      rfl
    · cases hr
  · rename_i e ad n c _ h1u h2u h3
    rw [h3] at hx
    generalize a'.eval x = x' at hx
    obtain ⟨y, c', rfl, hy | ⟨b, b', hb1, rfl, hb⟩⟩ := sliceAddr hx
    · cases hy.1
    cases hb1
    split at hr
    · rename_i c1
      split at hr
      · rename_i cs h2 hl
        split at hr
        · rename_i hfl
          split at hr
          · rename_i u hp
            split at hr
            · rename_i hfu
              cases hr
              obtain ⟨cs', w1, ρ2, k1, k2, k3, k4⟩ := SR.loadCells0 hb ρ h w (.refl _) hs _ _ hl
              have hcs : cs' = cs := by
                apply Array.ext
                · exact k4.1.1.symm
                · intro j hj1 hj2
                  have := k4.1.2 j cs[j] cs'[j] (Array.getElem?_eq_getElem hj2) (Array.getElem?_eq_getElem hj1)
                  exact flat_eq (Array.all_eq_true.1 hfl j hj2) this
              subst hcs
              have e1 : h2 = h := mild_run _ (mild_loadCells _ _ _ _) h _ _ hl
              subst e1
              refine ⟨v, w1, ρ2, ?_, k2, k3, flat_rel hfu⟩
              unfold convert
              simp only [Sem.run_bind, run_underlying', h1u, h2u, Result.andThen_ok, isU8_spec c1]
              rw [bytesToString_eq, Sem.run_bind, k1]
              exact prun_run _ _ hp w1
            · cases hr
          · cases hr
        · cases hr
      · cases hr
    · cases hr
  · cases hr

theorem AOps.ext {ops : Array Oper} {i : Nat} {o : Oper} {l : List Nat} {a : Act} {h h1 : H} {v : Value} {K : Act → H → Prop} (hi : ops[i]? = some o) (hw : Region.wanted o (yielded ops a.tmps) = true)
    (hv : aext P a o h = some (v, h1)) (hr : AOps P Γ ops l (a.put o.dst v) h1 K) : AOps P Γ ops (i :: l) a h K :=
  fun ρ0 h0 w0 hG r hrr ρ a' w hl hs ha => by
    have hw' := (wanted_rel (ops := ops) ha o).trans hw
    simp only [wpOpsIn, hi, hw', if_true]
    obtain ⟨v', w1, ρ1, e1, e2, e3, e4⟩ := aext_does hs ha hv
    exact wpIn_val e1 (hr ρ0 h0 w0 hG r hrr ρ1 _ w1 (hl.trans e2) e3 ((ha.mono e2.le).put o.dst e4))

def plainDesc : TypeDesc → Bool
  | .struct _ | .array _ _ => false
  | _ => true

/-- A variable of a package is read. -/
theorem AOps.glob {ops : Array Oper} {i : Nat} {o : Oper} {l : List Nat} {a : Act} {h : H} {v : Value} {K : Act → H → Prop} {t : TypeId} {g : Nat} {d : TypeDesc} {cs : Array Value} {e : TypeId} {f : Nat × Nat}
    (hi : ops[i]? = some o) (hw : Region.wanted o (yielded ops a.tmps) = true) (hop : o.op = .load t (.global g)) (hu : P.underlying t = some d) (hd : plainDesc d = true)
    (hΓ : Γ.heap[g]? = some (.cells cs e f)) (hv : cs[0]? = some v) (hf : flat v = true) (hr : AOps P Γ ops l (a.put o.dst v) h K) : AOps P Γ ops (i :: l) a h K :=
  fun ρ0 h0 w0 hG r hrr ρ a' w hl hs ha => by
    have hw' := (wanted_rel (ops := ops) ha o).trans hw
    simp only [wpOpsIn, hi, hw', if_true]
    have hcell : w.cell? ⟨g, 0, Option.none⟩ = some v := by
      have := ((hG.later hl) g _ hΓ).1
      simp [World.cell?, this, hv]
    have hrun : (execOp a'.eval o).run P w = .ok (.value v) w := by
      have e1 : execOp a'.eval o = (do Pure.pure (.value (← Go.loadVar t ⟨g, 0, Option.none⟩))) := by
        unfold execOp; rw [hop]; rfl
      rw [e1]
      have e2 : (Go.loadVar t ⟨g, 0, Option.none⟩).run P w = .ok v w := by
        unfold Go.loadVar Go.isAgg
        simp only [Sem.run_bind, run_underlying', hu, Result.andThen_ok]
        cases d <;> first | (cases hd; done) | simp [run_load, hcell]
      simp [e2]
    exact wpIn_val (.inl hrun) (hr ρ0 h0 w0 hG r hrr ρ _ w hl hs (ha.put o.dst (flat_rel hf)))


/-- What is known of the variables of packages. -/
abbrev Known := TypeId → Nat → Option Value

def KnownOk (P : Program) (Γ : Gl) (γ : Known) : Prop := ∀ t g v, γ t g = some v → (∃ d, P.underlying t = some d ∧ plainDesc d = true) ∧ flat v = true ∧ ∃ (cs : Array Value) (e : TypeId) (f : Nat × Nat), Γ.heap[g]? = some (.cells cs e f) ∧ cs[0]? = some v

theorem KnownOk.none : KnownOk P Γ fun _ _ => Option.none := fun _ _ _ h => by cases h

def aglob (γ : Known) (o : Oper) : Option Value :=
  match o.op with
  | .load t (.global g) => γ t g
  | _ => Option.none

theorem AOps.known {γ : Known} (hγ : KnownOk P Γ γ) {ops : Array Oper} {i : Nat} {o : Oper} {l : List Nat} {a : Act} {h : H} {v : Value} {K : Act → H → Prop} (hi : ops[i]? = some o) (hw : Region.wanted o (yielded ops a.tmps) = true)
    (hv : aglob γ o = some v) (hr : AOps P Γ ops l (a.put o.dst v) h K) : AOps P Γ ops (i :: l) a h K := by
  unfold aglob at hv
  split at hv
  · rename_i t g hop
    obtain ⟨⟨d, h1, h2⟩, h3, cs, e, f, h4, h5⟩ := hγ t g v hv
    exact AOps.glob hi hw hop h1 h2 h4 h5 h3 hr
  · cases hv

end Go.Abs
