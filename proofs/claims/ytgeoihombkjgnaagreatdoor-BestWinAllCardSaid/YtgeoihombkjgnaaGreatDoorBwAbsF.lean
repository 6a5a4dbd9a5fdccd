/-
The abstract heap: append.
-/
import Derived.Test.YtgeoihombkjgnaaGreatDoorBwAbsE
namespace Go.Abs
open Go
variable {P : Program} {ρ : Ren}

/-- What is told of the second argument of append: how many elements, and their cells. -/
inductive Src (P : Program) (u : TypeId) (i : TypeInfo) (x : Value) (m : Nat) (news : Array Value) (w : World) : Prop
  | string (h0 : P.underlying u = some .string) (h1 : (Builtin.lenOf x).run P w = .ok m w) (h2 : ∀ n, (Builtin.firstCells i.size m x).run P { w with drawn := n } = .ok news { w with drawn := n })
  | slice (e2) (h0 : P.underlying u = some (.slice e2)) (h1 : (Builtin.lenOf x).run P w = .ok m w) (h2 : ∀ n, (Builtin.firstCells i.size m x).run P { w with drawn := n } = .ok news { w with drawn := n })
  | zeros (k0 k) (h0 : P.underlying u = some (.int k0)) (h1 : x = .int k0 k) (h2 : ¬ (IntKind.i64.wrap k < 0)) (h3 : ¬ (IntKind.i64.wrap k * (i.bytes : Int) > 2 ^ 48)) (h4 : m = (IntKind.i64.wrap k).toNat)
      (h5 : m * i.size ≠ 0) (z) (h6 : i.zero = some z) (h7 : news = Builtin.zeroCells z.cells m)

theorem run_append_place {t u ty e : TypeId} {i : TypeInfo} {base : Option Addr} {n c m : Nat} {x : Value} {news : Array Value} {w : World}
    (ht : P.underlying t = some (.slice e)) (hi : P.info? e = some i) (hx : Src P u i x m news w) (hroom : n + m ≤ c) :
    (Builtin.append_ #[t, u] ty #[.slice base n c, x]).run P w =
      match base with
      | some a => ((Go.storeCells (a.add (n * i.size)) news.toList).run P w).andThen fun _ w1 => .ok (.slice base (n + m) c) w1
      | none => .ok (.slice base (n + m) c) w := by
  cases hx with
  | string h0 h1 h2 =>
    have h3 := h2 w.drawn
    cases base <;> simp [Builtin.append_, run_underlying', ht, h0, sizeOf, run_typeInfo', hi, h1, h3, hroom]
  | slice e2 h0 h1 h2 =>
    have h3 := h2 w.drawn
    cases base <;> simp [Builtin.append_, run_underlying', ht, h0, sizeOf, run_typeInfo', hi, h1, h3, hroom]
  | zeros k0 k h0 h1 h2 h3 h4 h5 z h6 h7 =>
    subst h1; subst h4; subst h7
    have h3' : ¬ (281474976710656 < IntKind.i64.wrap k * (i.bytes : Int)) := h3
    cases base <;> simp [Builtin.append_, run_underlying', ht, h0, sizeOf, run_typeInfo', hi, asInt, asIntOf, h2, h3', hroom, h5, Go.zeroValue, h6]

theorem run_append_new {t u ty e : TypeId} {i : TypeInfo} {z : Value} {base : Option Addr} {n c m : Nat} {x : Value} {olds news : Array Value} {w : World}
    (ht : P.underlying t = some (.slice e)) (hi : P.info? e = some i) (hz : i.zero = some z) (hx : Src P u i x m news w) (hroom : c < n + m)
    (hold : ∀ d, (Builtin.firstCells i.size n (.slice base n c)).run P { w with drawn := d } = .ok olds { w with drawn := d })
    (hb : (n + m) * i.bytes ≤ 140737488355328) (hb0 : 0 < i.bytes) :
    ∃ cap w1, n + m ≤ cap ∧ cap ≤ maxLen ∧ w1 = w.drew ∧
      (Builtin.append_ #[t, u] ty #[.slice base n c, x]).run P w =
        .ok (.slice (some ⟨w.heap.size, 0, none⟩) (n + m) cap) (w1.alloc (.cells (olds ++ news ++ Builtin.zeroCells z.cells (cap - (n + m))) e)) := by
  have hnm : n + m ≤ 140737488355328 := Nat.le_trans (Nat.le_mul_of_pos_right _ hb0) hb
  have hml : n + m ≤ maxLen := by unfold maxLen; omega
  refine ⟨grownCap w (n + m) c e, w.drew, grownCap_ge w (n + m) c e, grownCap_le_maxLen w (n + m) c e hml, rfl, ?_⟩
  have hfit := growslice_fits hroom hb
  have hn : ¬ (n + m ≤ c) := by omega
  have h63 : ¬ (9223372036854775807 < ((n : Int) + (m : Int))) := by omega
  have h48 : ¬ (281474976710656 < Builtin.nextslicecap (n + m) c * i.bytes) := by omega
  have hb1 : i.bytes ≠ 0 := by omega
  have ho : (Builtin.firstCells i.size n (.slice base n c)).run P w.drew = .ok olds w.drew := hold (w.drawn + 1)
  cases hx with
  | string h0 h1 h2 =>
    have h3 : (Builtin.firstCells i.size m x).run P w.drew = .ok news w.drew := h2 (w.drawn + 1)
    simp [Builtin.append_, run_underlying', ht, h0, sizeOf, run_typeInfo', hi, Go.zeroValue, hz, h1, hn, h63, h48, hb1, Question.forced, ho, h3, newRow, grownCap]
  | slice e2 h0 h1 h2 =>
    have h3 : (Builtin.firstCells i.size m x).run P w.drew = .ok news w.drew := h2 (w.drawn + 1)
    simp [Builtin.append_, run_underlying', ht, h0, sizeOf, run_typeInfo', hi, Go.zeroValue, hz, h1, hn, h63, h48, hb1, Question.forced, ho, h3, newRow, grownCap]
  | zeros k0 k h0 h1 h2 h3 h4 h5 z' h6 h7 =>
    rw [hz] at h6; cases h6
    subst h1; subst h7
    have h3' : ¬ (281474976710656 < IntKind.i64.wrap k * (i.bytes : Int)) := h3
    have hmi : ((IntKind.i64.wrap k).toNat : Int) = IntKind.i64.wrap k := by omega
    rw [h4] at hn h63 h48 h5 ⊢
    have h63' : ¬ (9223372036854775807 < (n : Int) + max (IntKind.i64.wrap k) 0) := by omega
    simp [Builtin.append_, run_underlying', ht, h0, sizeOf, run_typeInfo', hi, asInt, asIntOf, h2, h3', Go.zeroValue, hz, hn, h63', h48, h5, hb1, Question.forced, ho, newRow, grownCap]


theorem arun_loadCellsFrom {a : Addr} (n : Nat) : ∀ (i : Nat) (acc cs : Array Value) (h h1 : H), arun P (Go.loadCellsFrom a i n acc) h = some (cs, h1) →
    h1 = h ∧ cs.size = acc.size + n ∧ (∀ (j : Nat) (v : Value), acc[j]? = some v → cs[j]? = some v) ∧ ∀ (j : Nat), j < n → ∃ v : Value, cs[acc.size + j]? = some v ∧ cell? h (a.add (i + j)) = some v := by
  induction n with
  | zero =>
    intro i acc cs h h1 hr
    simp only [Go.loadCellsFrom, arun_pure, Option.some.injEq, Prod.mk.injEq] at hr
    obtain ⟨rfl, rfl⟩ := hr
    exact ⟨rfl, rfl, fun _ _ h => h, fun j hj => absurd hj (Nat.not_lt_zero _)⟩
  | succ n ih =>
    intro i acc cs h h1 hr
    simp only [Go.loadCellsFrom, arun_bind, arun_load, Option.bind_eq_some_iff, Option.map_eq_some_iff] at hr
    obtain ⟨⟨v, h2⟩, ⟨v', hv, hvv⟩, hr⟩ := hr
    cases hvv
    obtain ⟨e1, e2, e3, e4⟩ := ih (i + 1) (acc.push v) cs h h1 hr
    refine ⟨e1, by rw [e2]; simp; omega, fun j u hu => e3 j u ?_, fun j hj => ?_⟩
    · rw [Array.getElem?_push]
      have := (Array.getElem?_eq_some_iff.1 hu).1
      rw [if_neg (by omega)]; exact hu
    · cases j with
      | zero => exact ⟨v, by simpa using e3 acc.size v (by simp), by simpa using hv⟩
      | succ j =>
        obtain ⟨u, hu, hc⟩ := e4 j (by omega)
        refine ⟨u, ?_, ?_⟩
        · rw [← hu]; congr 1; simp; omega
        · rw [← hc]; congr 2; omega

/-- A row that is read, on both sides. -/
theorem loadRow {a a' : Addr} {k : Nat} {cs : Array Value} {h h1 : H} {w : World} (hs : Sim P ρ h w) (ha : ARel ρ a a' ∨ k = 0) (hr : arun P (Go.loadCells a k) h = some (cs, h1)) :
    h1 = h ∧ cs.size = k ∧ cs.all Value.oneCell' = true ∧ ∃ cs', RRel P ρ cs cs' ∧ ∀ j v, cs'.toList[j]? = some v → w.cell? (a'.add j) = some v := by
  obtain ⟨e1, e2, _, e4⟩ := arun_loadCellsFrom k 0 #[] cs h h1 hr
  simp only [Array.size_empty, Nat.zero_add] at e2 e4
  rcases ha with ha | rfl
  · have hex : ∀ j : Nat, ∃ v', j < k → w.cell? (a'.add j) = some v' ∧ ∀ v, cs[j]? = some v → VRel P ρ v v' ∧ v.oneCell' = true := by
      intro j
      by_cases hj : j < k
      · obtain ⟨v, hv, hc⟩ := e4 j hj
        obtain ⟨v', g1, g2, g3⟩ := hs.cell (ha.add j) hc
        exact ⟨v', fun _ => ⟨g1, fun u hu => by rw [hv] at hu; cases hu; exact ⟨g2, g3⟩⟩⟩
      · exact ⟨.nilFunc, fun h => absurd h hj⟩
    obtain ⟨f, hf⟩ := Classical.axiomOfChoice hex
    refine ⟨e1, e2, ?_, (Array.range k).map f, ⟨by simp [e2], fun j u u' hu hu' => ?_⟩, fun j v hv => ?_⟩
    · rw [Array.all_eq_true]
      intro j hj
      exact ((hf j (by omega)).2 _ (Array.getElem?_eq_getElem hj)).2
    · have hj : j < k := by rw [← e2]; exact (Array.getElem?_eq_some_iff.1 hu).1
      simp only [Array.getElem?_map, Array.getElem?_range, if_pos hj, Option.map_some, Option.some.injEq] at hu'
      subst hu'
      exact ((hf j hj).2 _ hu).1
    · have hj : j < k := by
        have := (List.getElem?_eq_some_iff.1 hv).1
        simpa using this
      have : ((Array.range k).map f).toList[j]? = some (f j) := by
        rw [Array.getElem?_toList, Array.getElem?_map, Array.getElem?_range, if_pos hj]; rfl
      rw [this] at hv; cases hv
      exact (hf j hj).1
  · have : cs = #[] := Array.eq_empty_of_size_eq_zero e2
    subst this
    exact ⟨e1, rfl, by simp, #[], RRel.empty ρ, fun j v hv => by simp at hv⟩

def eok (P : Program) (e : TypeId) : Option (TypeInfo × Value) :=
  match P.info? e with
  | some i =>
    match i.zero with
    | some z => if z.cells.size = i.size ∧ 0 < i.size ∧ 0 < i.bytes ∧ z.cells.all flat1 = true then some (i, z) else none
    | none => none
  | none => none

theorem eok_spec {e : TypeId} {i : TypeInfo} {z : Value} (h : eok P e = some (i, z)) : P.info? e = some i ∧ i.zero = some z ∧ z.cells.size = i.size ∧ 0 < i.size ∧ 0 < i.bytes ∧ z.cells.all flat1 = true := by
  unfold eok at h
  split at h
  · rename_i i' hi
    split at h
    · rename_i z' hz
      split at h
      · rename_i hc
        cases h
        exact ⟨hi, hz, hc⟩
      · cases h
    · cases h
  · cases h

def asrc (P : Program) (u : TypeId) (i : TypeInfo) (z : Value) (x : Value) (h : H) : Option (Nat × Array Value) :=
  match P.underlying u with
  | some .string => match x with
    | .string b => if i.size = 1 then some (b.size, b.data.map fun b => .int .u8 b.toNat) else none
    | _ => none
  | some (.slice _) => match x with
    | .slice none _ _ => some (0, #[])
    | .slice (some a) m _ => (arun P (Go.loadCells a (m * i.size)) h).map fun r => (m, r.1)
    | _ => none
  | some (.int k0) => match x with
    | .int k n => if k = k0 ∧ 0 ≤ IntKind.i64.wrap n ∧ IntKind.i64.wrap n * (i.bytes : Int) ≤ 2 ^ 48 ∧ (IntKind.i64.wrap n).toNat ≠ 0 then some ((IntKind.i64.wrap n).toNat, Builtin.zeroCells z.cells (IntKind.i64.wrap n).toNat) else none
    | _ => none
  | _ => none

theorem flat1_one {v : Value} (h : flat1 v = true) : v.oneCell' = true := by cases v <;> first | rfl | cases h

theorem asrc_src {u : TypeId} {i : TypeInfo} {e : TypeId} {z x x' : Value} {h : H} {w : World} {m : Nat} {news : Array Value} (he : eok P e = some (i, z)) (hs : Sim P ρ h w) (hx : VRel P ρ x x')
    (hr : asrc P u i z x h = some (m, news)) : ∃ news', Src P u i x' m news' w ∧ RRel P ρ news news' ∧ news.all Value.oneCell' = true ∧ news.size = m * i.size := by
  obtain ⟨hi, hz, hzs, hsz, hby, hfl⟩ := eok_spec he
  unfold asrc at hr
  split at hr
  · rename_i hu
    cases hx <;> simp only [reduceCtorEq] at hr
    rename_i b
    split at hr
    · rename_i h1
      cases hr
      refine ⟨_, .string hu rfl fun n => ?_, flats_rel ?_, ?_, ?_⟩
      · simp only [Builtin.firstCells]
        have : b.extract 0 b.size = b := by simp
        rw [this]; rfl
      · rw [Array.all_eq_true]; intro j hj; simp only [Array.getElem_map]; rfl
      · rw [Array.all_eq_true]; intro j hj; simp only [Array.getElem_map]; rfl
      · rw [Array.size_map, h1, Nat.mul_one]; rfl
    · cases hr
  · rename_i e2 hu
    cases hx <;> simp only [reduceCtorEq] at hr
    · cases hr
      exact ⟨#[], .slice e2 hu rfl fun n => by simp [Builtin.firstCells], RRel.empty ρ, by simp, by simp⟩
    · rename_i a a' n c hc hnc ha
      simp only [Option.map_eq_some_iff] at hr
      obtain ⟨⟨cs, h1⟩, hr, e⟩ := hr
      cases e
      obtain ⟨_, g2, g3, cs', g4, g5⟩ := loadRow hs (ha.imp id fun h => by rw [h] at hnc; simp [Nat.le_zero.1 hnc]) hr
      refine ⟨cs', .slice e2 hu rfl fun d => ?_, g4, g3, g2⟩
      have := run_firstCells_some (P := P) { w with drawn := d } i.size m a' m c cs'.toList (by rw [Array.length_toList, ← g4.1, g2]) g5
      rw [Array.toArray_toList] at this
      exact this
    · rename_i a a' n c' ho
      simp only [Option.map_eq_some_iff] at hr
      obtain ⟨⟨cs, h1⟩, hr, e⟩ := hr
      cases e
      have ha : ARel ρ a a' ∨ m * i.size = 0 := by
        obtain ⟨hsp, hd | ⟨B, hB, _, _, hn, _, ⟨h1, _⟩ | ⟨h1, _⟩⟩⟩ := ho
        · exact .inl ⟨hsp, .inl hd⟩
        · exact .inl ⟨hsp, .inr ⟨B, hB, h1⟩⟩
        · right; have : m = 0 := by omega
          simp [this]
      obtain ⟨_, g2, g3, cs', g4, g5⟩ := loadRow hs ha hr
      refine ⟨cs', .slice e2 hu rfl fun d => ?_, g4, g3, g2⟩
      have := run_firstCells_some (P := P) { w with drawn := d } i.size m a' m c' cs'.toList (by rw [Array.length_toList, ← g4.1, g2]) g5
      rw [Array.toArray_toList] at this
      exact this
  · rename_i k0 hu
    cases hx <;> simp only [reduceCtorEq] at hr
    rename_i k n
    split at hr
    · rename_i hc
      obtain ⟨rfl, h1, h2, h3⟩ := hc
      cases hr
      have hall : (Builtin.zeroCells z.cells (IntKind.i64.wrap n).toNat).all flat1 = true := by
        unfold Builtin.zeroCells
        rw [Array.all_eq_true]
        intro j hj
        simp only [Array.getElem_map]
        exact flat1_get _ hfl _
      refine ⟨_, .zeros k n hu rfl (by omega) (by omega) rfl ?_ z hz rfl, flats_rel hall, ?_, ?_⟩
      · exact Nat.mul_ne_zero h3 (by omega)
      · rw [Array.all_eq_true]
        intro j hj
        exact flat1_one (Array.all_eq_true.1 hall j hj)
      · rw [size_zeroCells, hzs]
    · cases hr
  · cases hr

end Go.Abs
