/-
The abstract heap: append, both sides.
-/
import Derived.Test.YtgeoihombkjgnaaGreatDoorBwAbsF
namespace Go.Abs
open Go
variable {P : Program} {ρ : Ren}

def appendTo (P : Program) (e : TypeId) (i : TypeInfo) (s : Value) (m : Nat) (news : Array Value) (h : H) : Option (Value × H) :=
  match s with
  | .slice none 0 0 =>
    if m = 0 then some (.slice none 0 0, h)
    else if m * i.bytes ≤ 140737488355328 then some (.slice (some ⟨h.size, 0, none⟩) m OPEN, h.push (.cells news e)) else none
  | .slice (some a) n c =>
    if c = OPEN then
      match h[a.block]? with
      | some (.cells cs e' (0, 0)) =>
        if e' = e then
          if a.off + (n + m) * i.size ≤ cs.size then (arun P (Go.storeCells (a.add (n * i.size)) news.toList) h).map fun r => (.slice (some a) (n + m) OPEN, r.2)
          else if a.off + n * i.size = cs.size ∧ (n + m) * i.bytes ≤ 140737488355328 then
            some (.slice (some ⟨h.size, 0, none⟩) (n + m) OPEN, (h.setIfInBounds a.block tomb).push (.cells (cs.extract a.off cs.size ++ news) e))
          else none
        else none
      | _ => none
    else if n + m ≤ c then (arun P (Go.storeCells (a.add (n * i.size)) news.toList) h).map fun r => (.slice (some a) (n + m) c, r.2)
    else if (n + m) * i.bytes ≤ 140737488355328 then
      (arun P (Go.loadCells a (n * i.size)) h).map fun r => (.slice (some ⟨h.size, 0, none⟩) (n + m) OPEN, h.push (.cells (r.1 ++ news) e))
    else none
  | _ => none

def aappend (P : Program) (ts : Array TypeId) (args : Array Value) (h : H) : Option (Value × H) :=
  match ts.toList, args.toList with
  | [t, u], [s, x] =>
    match P.underlying t with
    | some (.slice e) =>
      match eok P e with
      | some (i, z) =>
        match asrc P u i z x h with
        | some (m, news) => appendTo P e i s m news h
        | none => none
      | none => none
    | _ => none
  | _, _ => none

theorem add_spot {a : Addr} (h : a.spot = none) (k : Nat) : a.add k = ⟨a.block, a.off + k, none⟩ := by
  unfold Addr.add
  split
  · rename_i h0; subst h0; cases a; simp at h; simp [h]
  · rfl

theorem arun_loadCellsFrom_row {a : Addr} {cs : Array Value} {e : TypeId} {f : Nat × Nat} {h : H} (hb : h[a.block]? = some (.cells cs e f)) (hs : a.spot = none) (n : Nat) :
    ∀ (i : Nat) (acc : Array Value), a.off + i + n ≤ cs.size → arun P (Go.loadCellsFrom a i n acc) h = some (acc ++ cs.extract (a.off + i) (a.off + i + n), h) := by
  induction n with
  | zero => intro i acc _; simp [Go.loadCellsFrom]; omega
  | succ n ih =>
    intro i acc hle
    have hlt : a.off + i < cs.size := by omega
    have hc : cell? h (a.add i) = some cs[a.off + i] := by
      rw [add_spot hs]
      simp only [cell?, hb, Option.isSome_none, Bool.false_eq_true, if_false]
      exact Array.getElem?_eq_getElem hlt
    simp only [Go.loadCellsFrom, arun_bind, arun_load, hc, Option.map_some, Option.bind_some]
    rw [ih (i + 1) _ (by omega)]
    congr 2
    apply Array.ext'
    simp only [Array.toList_append, Array.toList_push, Array.toList_extract, List.append_assoc]
    congr 1
    rw [List.extract_eq_take_drop, List.extract_eq_take_drop]
    have e1 : a.off + i + (n + 1) - (a.off + i) = n + 1 := by omega
    have e2 : a.off + (i + 1) + n - (a.off + (i + 1)) = n := by omega
    have e3 : a.off + (i + 1) = a.off + i + 1 := by omega
    rw [e1, e2, e3, List.drop_eq_getElem_cons (i := a.off + i) (by simpa using hlt), List.take_succ_cons]
    simp

theorem arun_loadCells_row {a : Addr} {cs : Array Value} {e : TypeId} {f : Nat × Nat} {h : H} (hb : h[a.block]? = some (.cells cs e f)) (hs : a.spot = none) (n : Nat) (hn : a.off + n ≤ cs.size) :
    arun P (Go.loadCells a n) h = some (cs.extract a.off (a.off + n), h) := by
  have := arun_loadCellsFrom_row (P := P) hb hs n 0 #[] (by simpa using hn)
  simpa [Go.loadCells] using this

/-- A grown row. -/
theorem Sim.pushGrownF {h : H} {w : World} (hs : Sim P ρ h w) {e : TypeId} {i : TypeInfo} {z : Value} (he : eok P e = some (i, z)) {x x' : Array Value} {n cap : Nat} {f : Nat × Nat} (hfr : tame (cap * i.size) f) (hx : RRel P ρ x x') (h1 : x.all Value.oneCell' = true)
    (hn : x.size = n * i.size) (hcap : n ≤ cap) (hmax : cap ≤ maxLen) :
    ∃ ρ', VRel P ρ' (.slice (some ⟨h.size, 0, none⟩) n OPEN) (.slice (some ⟨w.heap.size, 0, none⟩) n cap) ∧
      Sim P ρ' (h.push (.cells x e)) (w.alloc (.cells (x' ++ Builtin.zeroCells z.cells (cap - n)) e f)) ∧ Later ρ h w ρ' (h.push (.cells x e)) (w.alloc (.cells (x' ++ Builtin.zeroCells z.cells (cap - n)) e f)) := by
  obtain ⟨hi, hz, hzs, hsz, hby, hfl⟩ := eok_spec he
  have hsize : (x' ++ Builtin.zeroCells z.cells (cap - n)).size = cap * i.size := by
    rw [Array.size_append, size_zeroCells, hzs, ← hx.1, hn, ← Nat.add_mul]
    congr 1; omega
  have hr : ObjRel P (ρ.set h.size (some ⟨w.heap.size, 0, false, e, cap * i.size⟩)) ⟨w.heap.size, 0, false, e, cap * i.size⟩ (.cells x e) (.cells (x' ++ Builtin.zeroCells z.cells (cap - n)) e f) := by
    refine ⟨rfl, rfl, hsize, ?_, ?_, ?_, ?_⟩
    · simp only [Nat.add_zero]; rw [hn]; exact Nat.mul_le_mul_right _ hcap
    · intro j v v' hv hv'
      have hj := (Array.getElem?_eq_some_iff.1 hv).1
      simp only [Nat.add_zero] at hv'
      rw [Array.getElem?_append, if_pos (by rw [← hx.1]; exact hj)] at hv'
      exact (hx.2 j v v' hv hv').mono (Ren.le_set hs.fresh)
    · intro j v hv
      obtain ⟨hlt, rfl⟩ := Array.getElem?_eq_some_iff.1 hv
      exact Array.all_eq_true.1 h1 j hlt
    · simp only [Bool.false_eq_true, if_false]
      refine ⟨trivial, hfr, fun z' j hz' hj => ?_⟩
      simp only [hi, Option.bind_some, hz, Option.some.injEq] at hz'
      subst hz'
      simp only [Nat.add_zero] at hj ⊢
      rw [Array.getElem?_append, if_neg (by rw [← hx.1]; omega)]
      have e1 : x.size + j - x'.size = j := by rw [← hx.1]; omega
      rw [e1]
      have hjlt : j < (cap - n) * z.cells.size := by
        rw [hzs, Nat.sub_mul]; omega
      simp only [Builtin.zeroCells, Array.getElem?_map, Array.getElem?_range, if_pos hjlt, Option.map_some]
      have hm : j % z.cells.size < z.cells.size := Nat.mod_lt _ (by omega)
      rw [getElem!_pos z.cells _ hm, Array.getElem?_eq_getElem hm]
  obtain ⟨g1, g2⟩ := hs.push _ _ ⟨w.heap.size, 0, false, e, cap * i.size⟩ rfl hr
  refine ⟨_, .opn ⟨rfl, .inr ⟨_, Ren.set_same _ _ _, rfl, ?_, hcap, hmax, .inl ⟨rfl, ?_⟩⟩⟩, g1, g2⟩
  · rw [szOf_eq hi]; exact hsz
  · simp [szOf_eq hi]


theorem Sim.pushGrown {h : H} {w : World} (hs : Sim P ρ h w) {e : TypeId} {i : TypeInfo} {z : Value} (he : eok P e = some (i, z)) {x x' : Array Value} {n cap : Nat} (hx : RRel P ρ x x') (h1 : x.all Value.oneCell' = true)
    (hn : x.size = n * i.size) (hcap : n ≤ cap) (hmax : cap ≤ maxLen) :
    ∃ ρ', VRel P ρ' (.slice (some ⟨h.size, 0, none⟩) n OPEN) (.slice (some ⟨w.heap.size, 0, none⟩) n cap) ∧
      Sim P ρ' (h.push (.cells x e)) (w.alloc (.cells (x' ++ Builtin.zeroCells z.cells (cap - n)) e)) ∧ Later ρ h w ρ' (h.push (.cells x e)) (w.alloc (.cells (x' ++ Builtin.zeroCells z.cells (cap - n)) e)) :=
  hs.pushGrownF he (.inl rfl) hx h1 hn hcap hmax

/-- A block whose cells have moved. -/
theorem Sim.kill {h : H} {w : World} (hs : Sim P ρ h w) {i : Nat} {B : Blk} (hB : ρ i = some (some B)) :
    Sim P (ρ.set i none) (h.setIfInBounds i tomb) w ∧ Later ρ h w (ρ.set i none) (h.setIfInBounds i tomb) w := by
  have hle : Ren.Le ρ (ρ.set i none) := fun j t hj => by
    by_cases e : j = i
    · subst e; exact .inr (Ren.set_same _ _ _)
    · rw [Ren.set_ne _ _ e]; exact .inl hj
  refine ⟨⟨?_, ?_, ?_⟩, hle, by simp, Nat.le_refl _, rfl, rfl, rfl, ?_, fun _ _ _ => rfl, ?_⟩
  · intro j C hC
    by_cases e : j = i
    · subst e; rw [Ren.set_same] at hC; cases hC
    · rw [Ren.set_ne _ _ e] at hC
      obtain ⟨o, o', q1, q2, q3⟩ := hs.live j C hC
      exact ⟨o, o', by rw [Array.getElem?_setIfInBounds_ne (Ne.symm e)]; exact q1, q2, q3.mono hle⟩
  · intro j hj
    by_cases e : j = i
    · subst e
      have := hs.lt hB
      simp [this]
    · rw [Ren.set_ne _ _ e] at hj
      rw [Array.getElem?_setIfInBounds_ne (Ne.symm e)]; exact hs.dead j hj
  · intro j k C D hC hD he
    have hj : j ≠ i := fun e => by subst e; rw [Ren.set_same] at hC; cases hC
    have hk : k ≠ i := fun e => by subst e; rw [Ren.set_same] at hD; cases hD
    rw [Ren.set_ne _ _ hj] at hC
    rw [Ren.set_ne _ _ hk] at hD
    exact hs.one j k C D hC hD he
  · intro j _ hn
    have hj : j ≠ i := fun e => by subst e; rw [hB] at hn; cases hn
    exact ⟨by rw [Ren.set_ne _ _ hj]; exact hn, by rw [Array.getElem?_setIfInBounds_ne (Ne.symm hj)]⟩
  · intro j C hC
    have hj : j ≠ i := fun e => by subst e; rw [Ren.set_same] at hC; cases hC
    rw [Ren.set_ne _ _ hj] at hC
    exact .inl hC

theorem run_storeCells_tame (g o : Nat) (t : TypeId) : ∀ (vs : List Value) (i : Nat) (cur : Array Value) (fr : Nat × Nat) (w : World), w.heap[g]? = some (.cells cur t fr) → tame cur.size fr → o + i + vs.length ≤ cur.size → (∀ v ∈ vs, v.oneCell' = true) →
    (storeCells ⟨g, o, none⟩ vs i).run P w = .ok () (w.setRow g (cur.toList.take (o + i) ++ vs ++ cur.toList.drop (o + i + vs.length)).toArray)
  | [], i, cur, fr, w, hg, _, _, _ => by
    simp only [storeCells, List.append_nil, List.length_nil, Nat.add_zero, List.take_append_drop, Array.toArray_toList]
    rw [setRow_self w g cur t fr hg]
    rfl
  | v :: rest, i, cur, fr, w, hg, hfr, hl, h1 => by
    have hi : o + i < cur.size := by simp at hl; omega
    have hadd : (⟨g, o, none⟩ : Addr).add i = ⟨g, o + i, none⟩ := by unfold Addr.add; split <;> simp_all
    have hcell : w.cell? ⟨g, o + i, none⟩ = some cur[o + i] := by simp [World.cell?, hg, hi]
    have hfro : w.frozen? ⟨g, o + i, none⟩ = false := frozen_tame hg hfr hi
    have hst : (store ((⟨g, o, none⟩ : Addr).add i) v).run P w = .ok () (w.setRow g (cur.setIfInBounds (o + i) v)) := by
      rw [hadd, run_store P w _ v _ (h1 v (by simp)), hcell]
      simp [hfro, setCell_eq_setRow w g (o + i) cur t fr v hg]
    have ih := run_storeCells_tame g o t rest (i + 1) (cur.setIfInBounds (o + i) v) fr (w.setRow g (cur.setIfInBounds (o + i) v)) (setRow_heap w g cur _ t _ hg) (by simpa using hfr) (by simp at hl ⊢; omega) (fun x hx => h1 x (by simp [hx]))
    simp only [storeCells, Sem.run_bind, hst, Result.andThen_ok, ih, setRow_setRow]
    congr 3
    have e := list_seg_step cur.toList (o + i) v rest (by simp at hl ⊢; omega)
    simpa [Array.toList_setIfInBounds, Nat.add_assoc] using e

/-- The cells of a block go to a new one, which lies where the old one lay, and what lies behind them is written. -/
theorem Sim.move {h : H} {w : World} (hs : Sim P ρ h w) {e : TypeId} {i : TypeInfo} {z : Value} (he : eok P e = some (i, z)) {k : Nat} {B : Blk} {cs c' news news' : Array Value} {off m : Nat}
    (hB : ρ k = some (some B)) (hro : B.ro = false) (hk : h[k]? = some (.cells cs e (0, 0))) {fr : Nat × Nat} (hw : w.heap[B.b]? = some (.cells c' e fr)) (hoff : off ≤ cs.size)
    (hn : RRel P ρ news news') (hone : news.all Value.oneCell' = true) (hm : news.size = m * i.size) (hfit : cs.size + B.s + news.size ≤ B.nc) :
    ∃ ρ', ρ' h.size = some (some ⟨B.b, B.s + off, false, e, B.nc⟩) ∧
      Sim P ρ' ((h.setIfInBounds k tomb).push (.cells (cs.extract off cs.size ++ news) e)) (w.setRow B.b (c'.toList.take (cs.size + B.s) ++ news'.toList ++ c'.toList.drop (cs.size + B.s + news'.toList.length)).toArray) ∧
      Later ρ h w ρ' ((h.setIfInBounds k tomb).push (.cells (cs.extract off cs.size ++ news) e)) (w.setRow B.b (c'.toList.take (cs.size + B.s) ++ news'.toList ++ c'.toList.drop (cs.size + B.s + news'.toList.length)).toArray) := by
  obtain ⟨hi, hz, hzs, hsz, hby, hfl⟩ := eok_spec he
  obtain ⟨c2, f2, q2, q3, hBe, hcs, hfit2⟩ := hs.cellsAt hB hk
  rw [hw] at q2
  injection q2 with q2
  injection q2 with q21 q22 q23
  subst q21; subst q23
  have hsize : h.size ≠ k := fun e => by have := hs.lt hB; omega
  have hf := hs.fresh
  let N : Blk := ⟨B.b, B.s + off, false, e, B.nc⟩
  let ρ' : Ren := (ρ.set k none).set h.size (some N)
  have hk' : ρ' k = some none := by show ((ρ.set k none).set h.size (some N)) k = _; rw [Ren.set_ne _ _ (Ne.symm hsize), Ren.set_same]
  have hnew : ρ' h.size = some (some N) := Ren.set_same _ _ _
  have hoth : ∀ j, j ≠ k → j ≠ h.size → ρ' j = ρ j := fun j h1 h2 => by
    show ((ρ.set k none).set h.size (some N)) j = _; rw [Ren.set_ne _ _ h2, Ren.set_ne _ _ h1]
  have hle : Ren.Le ρ ρ' := fun j t hj => by
    by_cases e1 : j = k
    · subst e1; exact .inr hk'
    · by_cases e2 : j = h.size
      · subst e2; rw [hf] at hj; cases hj
      · rw [hoth j e1 e2]; exact .inl hj
  have hnl : news'.toList.length = news.size := by rw [Array.length_toList]; exact hn.1.symm
  have hcl : c'.toList.length = B.nc := by rw [Array.length_toList]; exact hcs
  generalize hR : (c'.toList.take (cs.size + B.s) ++ news'.toList ++ c'.toList.drop (cs.size + B.s + news'.toList.length)).toArray = R
  have hRsize : R.size = B.nc := by
    rw [← hR]
    simp only [List.size_toArray, List.length_append, List.length_take, List.length_drop, hcl, hnl]
    omega
  have hR1 : ∀ j, j < cs.size + B.s → R[j]? = c'[j]? := fun j hj => by
    rw [← hR, List.getElem?_toArray, List.append_assoc, List.getElem?_append_left (by rw [List.length_take, hcl]; omega), List.getElem?_take, if_pos hj, Array.getElem?_toList]
  have hR2 : ∀ j, j < news.size → R[cs.size + B.s + j]? = news'[j]? := fun j hj => by
    have hl : (c'.toList.take (cs.size + B.s)).length = cs.size + B.s := by rw [List.length_take, hcl]; omega
    rw [← hR, List.getElem?_toArray, List.append_assoc, List.getElem?_append_right (by rw [hl]; omega), hl, Nat.add_sub_cancel_left, List.getElem?_append_left (by rw [hnl]; exact hj), Array.getElem?_toList]
  have hR3 : ∀ j, cs.size + B.s + news.size ≤ j → R[j]? = c'[j]? := fun j hj => by
    have hl : (c'.toList.take (cs.size + B.s) ++ news'.toList).length = cs.size + B.s + news.size := by rw [List.length_append, List.length_take, hcl, hnl]; omega
    rw [← hR, List.getElem?_toArray, List.getElem?_append_right (by rw [hl]; exact hj), hl, List.getElem?_drop, hnl, Array.getElem?_toList]
    congr 1; omega
  have hwrow : (w.setRow B.b R).heap[B.b]? = some (.cells R e fr) := setRow_heap w B.b c' R e fr hw
  obtain ⟨_, _, _, _, r5, r6, r7⟩ := q3
  simp only [hro, Bool.false_eq_true, if_false] at r7
  obtain ⟨_, hfr, r7⟩ := r7
  refine ⟨ρ', hnew, ⟨?_, ?_, ?_⟩, ⟨hle, by simp, by simp [World.setRow], rfl, rfl, rfl, ?_, ?_, ?_⟩⟩
  · intro j C hC
    by_cases e1 : j = k
    · subst e1; rw [hk'] at hC; cases hC
    by_cases e2 : j = h.size
    · subst e2; rw [hnew] at hC; cases hC
      refine ⟨.cells (cs.extract off cs.size ++ news) e, .cells R e fr, by rw [Array.getElem?_push, if_pos (by simp)], hwrow, ?_⟩
      refine ⟨rfl, rfl, hRsize, ?_, ?_, ?_, ?_⟩
      · show (cs.extract off cs.size ++ news).size + (B.s + off) ≤ B.nc
        rw [Array.size_append, Array.size_extract]; omega
      · intro j v v' hv hv'
        show VRel P ρ' v v'
        rw [Array.getElem?_append] at hv
        have hxs : (cs.extract off cs.size).size = cs.size - off := by rw [Array.size_extract]; omega
        rw [hxs] at hv
        split at hv
        · rename_i hj
          rw [Array.getElem?_extract, if_pos (by omega)] at hv
          have e3 : j + (B.s + off) = off + j + B.s := by omega
          change R[j + (B.s + off)]? = some v' at hv'
          rw [e3, hR1 _ (by omega)] at hv'
          exact (r5 _ _ _ hv hv').mono hle
        · rename_i hj
          have hj2 : j - (cs.size - off) < news.size := (Array.getElem?_eq_some_iff.1 hv).1
          change R[j + (B.s + off)]? = some v' at hv'
          have e3 : j + (B.s + off) = cs.size + B.s + (j - (cs.size - off)) := by omega
          rw [e3, hR2 _ hj2] at hv'
          exact (hn.2 _ _ _ hv hv').mono hle
      · intro j v hv
        rw [Array.getElem?_append] at hv
        split at hv
        · rw [Array.getElem?_extract] at hv
          split at hv
          · exact r6 _ _ hv
          · cases hv
        · obtain ⟨hlt, rfl⟩ := Array.getElem?_eq_some_iff.1 hv
          exact Array.all_eq_true.1 hone _ hlt
      · show (if false = true then _ else _)
        simp only [Bool.false_eq_true, if_false]
        refine ⟨trivial, hfr, fun z' j hz' hj => ?_⟩
        have hxs : (cs.extract off cs.size ++ news).size = cs.size - off + news.size := by rw [Array.size_append, Array.size_extract]; omega
        rw [hxs] at hj ⊢
        change cs.size - off + news.size + (B.s + off) + j < B.nc at hj
        show R[cs.size - off + news.size + (B.s + off) + j]? = _
        have e3 : cs.size - off + news.size + (B.s + off) + j = cs.size + B.s + (news.size + j) := by omega
        rw [e3, hR3 _ (by omega)]
        have := r7 z' (news.size + j) (by rw [← hBe]; exact hz') (by omega)
        rw [this]
        have hz'' : z' = z := by
          change ((P.info? e).bind fun x => x.zero) = some z' at hz'
          rw [hi] at hz'; simp only [Option.bind_some] at hz'; rw [hz] at hz'; exact (Option.some.inj hz').symm
        subst hz''
        congr 1
        rw [hm, hzs, Nat.add_comm, Nat.add_mul_mod_self_right]
    · rw [hoth j e1 e2] at hC
      obtain ⟨o, o', g1, g2, g3⟩ := hs.live j C hC
      have hlt := (Array.getElem?_eq_some_iff.1 g1).1
      have : C.b ≠ B.b := fun e => e1 (hs.one _ _ _ _ hC hB e)
      refine ⟨o, o', ?_, (setRow_other w B.b C.b R this).trans g2, g3.mono hle⟩
      rw [Array.getElem?_push, if_neg (by simpa using e2), Array.getElem?_setIfInBounds_ne (Ne.symm e1)]
      exact g1
  · intro j hj
    by_cases e1 : j = k
    · subst e1
      rw [Array.getElem?_push, if_neg (by simpa using Ne.symm hsize)]
      have := hs.lt hB
      simp [this]
    · by_cases e2 : j = h.size
      · subst e2; rw [hnew] at hj; cases hj
      · rw [hoth j e1 e2] at hj
        rw [Array.getElem?_push, if_neg (by simpa using e2), Array.getElem?_setIfInBounds_ne (Ne.symm e1)]
        exact hs.dead j hj
  · intro j l C D hC hD hCD
    have get : ∀ j C, ρ' j = some (some C) → (j = h.size ∧ C = N) ∨ (j ≠ k ∧ j ≠ h.size ∧ ρ j = some (some C)) := fun j C hC => by
      by_cases e1 : j = k
      · subst e1; rw [hk'] at hC; cases hC
      · by_cases e2 : j = h.size
        · subst e2; rw [hnew] at hC; cases hC; exact .inl ⟨rfl, rfl⟩
        · rw [hoth j e1 e2] at hC; exact .inr ⟨e1, e2, hC⟩
    rcases get j C hC with ⟨rfl, rfl⟩ | ⟨a1, a2, a3⟩
    · rcases get l D hD with ⟨rfl, rfl⟩ | ⟨b1, b2, b3⟩
      · rfl
      · exact absurd (hs.one _ _ _ _ b3 hB hCD.symm) b1
    · rcases get l D hD with ⟨rfl, rfl⟩ | ⟨b1, b2, b3⟩
      · exact absurd (hs.one _ _ _ _ a3 hB hCD) a1
      · exact hs.one _ _ _ _ a3 b3 hCD
  · intro j hj hn
    have e1 : j ≠ k := fun e => by subst e; rw [hB] at hn; cases hn
    have e2 : j ≠ h.size := by omega
    refine ⟨by rw [hoth j e1 e2]; exact hn, ?_⟩
    rw [Array.getElem?_push, if_neg (by simpa using e2), Array.getElem?_setIfInBounds_ne (Ne.symm e1)]
  · intro b _ hno
    exact setRow_other w B.b b R (fun e => hno k B hB hro e.symm)
  · intro j C hC
    by_cases e1 : j = k
    · subst e1; rw [hk'] at hC; cases hC
    · by_cases e2 : j = h.size
      · subst e2; rw [hnew] at hC; cases hC
        exact .inr (.inr ⟨rfl, k, B, hB, hro, rfl⟩)
      · rw [hoth j e1 e2] at hC; exact .inl hC

theorem does_new {t u ty e : TypeId} {i : TypeInfo} {z : Value} {base' : Option Addr} {n c' m : Nat} {x' : Value} {olds olds' news news' : Array Value} {h : H} {w : World} (hs : Sim P ρ h w)
    (ht : P.underlying t = some (.slice e)) (he : eok P e = some (i, z)) (hsrc : Src P u i x' m news' w) (hnews : RRel P ρ news news') (hone : news.all Value.oneCell' = true) (hnsz : news.size = m * i.size)
    (holds : RRel P ρ olds olds') (hone2 : olds.all Value.oneCell' = true) (hosz : olds.size = n * i.size) (hroom : c' < n + m) (hb : (n + m) * i.bytes ≤ 140737488355328)
    (hold : ∀ d, (Builtin.firstCells i.size n (.slice base' n c')).run P { w with drawn := d } = .ok olds' { w with drawn := d }) :
    Does P ρ h w (.slice (some ⟨h.size, 0, none⟩) (n + m) OPEN) (h.push (.cells (olds ++ news) e)) (Builtin.append_ #[t, u] ty #[.slice base' n c', x']) := by
  obtain ⟨hi, hz, hzs, hsz, hby, hfl⟩ := eok_spec he
  obtain ⟨cap, w1, hcap, hmax, rfl, hrun⟩ := run_append_new (ty := ty) ht hi hz hsrc hroom hold hb hby
  obtain ⟨ρ', g1, g2, g3⟩ := (hs.drew (w.drawn + 1)).pushGrown he (x := olds ++ news) (x' := olds' ++ news') (n := n + m) (cap := cap) (holds.append hnews)
    (by rw [Array.all_append, hone, hone2]; rfl) (by rw [Array.size_append, hosz, hnsz, Nat.add_mul]) hcap hmax
  exact ⟨_, _, ρ', hrun, (Later.drew ρ h w _).trans g3, g2, g1⟩

theorem appendTo_does {t u ty e : TypeId} {i : TypeInfo} {z s s' x' : Value} {m : Nat} {news news' : Array Value} {h h1 : H} {v : Value} {w : World} (hs : Sim P ρ h w) (hv : VRel P ρ s s')
    (ht : P.underlying t = some (.slice e)) (he : eok P e = some (i, z)) (hsrc : Src P u i x' m news' w) (hnews : RRel P ρ news news') (hone : news.all Value.oneCell' = true) (hnsz : news.size = m * i.size)
    (hr : appendTo P e i s m news h = some (v, h1)) : Does P ρ h w v h1 (Builtin.append_ #[t, u] ty #[s', x']) := by
  obtain ⟨hi, hz, hzs, hsz, hby, hfl⟩ := eok_spec he
  have hnl : RRel P ρ news.toList.toArray news'.toList.toArray := by rw [Array.toArray_toList, Array.toArray_toList]; exact hnews
  cases hv <;> try (simp only [appendTo, reduceCtorEq] at hr; done)
  · -- nil
    simp only [appendTo] at hr
    split at hr
    · rename_i hm
      cases hr; subst hm
      exact ⟨.slice none 0 0, w, ρ, run_append_place (ty := ty) (base := none) (n := 0) (c := 0) (m := 0) ht hi hsrc (Nat.le_refl _), .refl _ _ _, hs, .nils⟩
    · rename_i hm
      split at hr
      · rename_i hb
        cases hr
        have := does_new (ty := ty) (base' := none) (n := 0) (c' := 0) (olds := #[]) (olds' := #[]) hs ht he hsrc hnews hone hnsz (RRel.empty ρ) (by simp) (by simp) (by omega) (by rw [Nat.zero_add]; exact hb) (fun d => by simp [Builtin.firstCells])
        simpa using this
      · cases hr
  · -- a known capacity
    rename_i a a' n c hc hnc ha
    have hne : c ≠ OPEN := Nat.ne_of_lt hc
    simp only [appendTo, if_neg hne] at hr
    split at hr
    · rename_i hroom
      simp only [Option.map_eq_some_iff] at hr
      obtain ⟨⟨u0, h2⟩, hr, e2⟩ := hr
      cases e2
      have hrun := run_append_place (ty := ty) (base := some a') (n := n) (c := c) (m := m) ht hi hsrc hroom
      rcases ha with ha | hc0
      · obtain ⟨b, w1, ρ2, k1, k2, k3, _⟩ := SR.storeCells (ha.add (n * i.size)) news.toList news'.toList 0 hnl ρ h w (.refl _) hs _ _ hr
        refine ⟨.slice (some a') (n + m) c, w1, ρ2, by rw [hrun]; simp [k1], k2, k3, .slc hc hroom (.inl (ha.mono k2.le))⟩
      · have hm0 : m = 0 := by omega
        subst hm0
        have hn0 : news = #[] := Array.eq_empty_of_size_eq_zero (by simpa using hnsz)
        have hn0' : news' = #[] := Array.eq_empty_of_size_eq_zero (by rw [← hnews.1, hn0]; rfl)
        subst hn0; subst hn0'
        simp only [Go.storeCells, arun_pure, Option.some.injEq, Prod.mk.injEq] at hr
        obtain ⟨_, rfl⟩ := hr
        refine ⟨.slice (some a') (n + 0) c, w, ρ, by rw [hrun]; simp [Go.storeCells], .refl _ _ _, hs, .slc hc hroom (.inr hc0)⟩
    · rename_i hroom
      split at hr
      · rename_i hb
        simp only [Option.map_eq_some_iff] at hr
        obtain ⟨⟨olds, h2⟩, hr, e2⟩ := hr
        cases e2
        obtain ⟨_, q2, q3, olds', q4, q5⟩ := loadRow hs (ha.imp id fun h0 => by rw [h0] at hnc; simp [Nat.le_zero.1 hnc]) hr
        exact does_new hs ht he hsrc hnews hone hnsz q4 q3 q2 (by omega) hb fun d => by
          have := run_firstCells_some (P := P) { w with drawn := d } i.size n a' n c olds'.toList (by rw [Array.length_toList, ← q4.1, q2]) q5
          rw [Array.toArray_toList] at this
          exact this
      · cases hr
  · -- an unknown capacity
    rename_i a a' n c' ho
    simp only [appendTo, if_true] at hr
    split at hr
    case h_2 => cases hr
    rename_i cs e' hblk
    split at hr
    case isFalse => cases hr
    rename_i hee
    subst hee
    obtain ⟨hsp, hd | ⟨B, hB, hro, hpos, hnc, hmax, hcase⟩⟩ := ho
    · rw [hs.dead _ hd] at hblk; cases hblk
    obtain ⟨c2, f2, q2, q3, hBe, hcs, hfit⟩ := hs.cellsAt hB hblk
    have hsz' : szOf P B.e = i.size := by rw [← hBe]; exact szOf_eq hi
    split at hr
    · -- in place
      rename_i hroom
      simp only [Option.map_eq_some_iff] at hr
      obtain ⟨⟨u0, h2⟩, hr, e2⟩ := hr
      cases e2
      rcases hcase with ⟨rfl, hsum⟩ | ⟨rfl, hend⟩
      · have ha : ARel ρ a ⟨B.b, a.off + B.s, none⟩ := ⟨hsp, .inr ⟨B, hB, rfl⟩⟩
        have hroom' : n + m ≤ c' := by
          rw [hsz'] at hsum
          dsimp only at hsum
          have : (n + m) * i.size ≤ c' * i.size := by omega
          exact Nat.le_of_mul_le_mul_right this hsz
        have hrun := run_append_place (ty := ty) (base := some ⟨B.b, a.off + B.s, none⟩) (n := n) (c := c') (m := m) ht hi hsrc hroom'
        obtain ⟨b, w1, ρ2, k1, k2, k3, _⟩ := SR.storeCells (ha.add (n * i.size)) news.toList news'.toList 0 hnl ρ h w (.refl _) hs _ _ hr
        refine ⟨.slice (some ⟨B.b, a.off + B.s, none⟩) (n + m) c', w1, ρ2, by rw [hrun]; simp [k1], k2, k3, .opn ⟨hsp, ?_⟩⟩
        rcases k2.le _ _ hB with h | h
        · exact .inr ⟨B, h, hro, hpos, hroom', hmax, .inl ⟨rfl, hsum⟩⟩
        · exact .inl h
      · have hn0 : n = 0 := by omega
        subst hn0
        have hm0 : m = 0 := by
          have hle : m * i.size ≤ 0 := by simp only [Nat.zero_add] at hroom; omega
          rcases Nat.eq_zero_or_pos m with h | h
          · exact h
          · have := Nat.mul_pos h hsz; omega
        subst hm0
        have hn0 : news = #[] := Array.eq_empty_of_size_eq_zero (by simpa using hnsz)
        have hn0' : news' = #[] := Array.eq_empty_of_size_eq_zero (by rw [← hnews.1, hn0]; rfl)
        subst hn0; subst hn0'
        simp only [Go.storeCells, arun_pure, Option.some.injEq, Prod.mk.injEq] at hr
        obtain ⟨_, rfl⟩ := hr
        have hrun := run_append_place (ty := ty) (base := some a') (n := 0) (c := 0) (m := 0) ht hi hsrc (Nat.le_refl _)
        exact ⟨.slice (some a') 0 0, w, ρ, by rw [hrun]; simp [Go.storeCells], .refl _ _ _, hs, .opn ⟨hsp, .inr ⟨B, hB, hro, hpos, hnc, hmax, .inr ⟨rfl, hend⟩⟩⟩⟩
    · rename_i hroom
      split at hr
      case isFalse => cases hr
      rename_i hend
      obtain ⟨hend, hb⟩ := hend
      cases hr
      have hm0 : 0 < m := by
        rcases Nat.eq_zero_or_pos m with h | h
        · subst h; exfalso; apply hroom; simp only [Nat.add_zero]; omega
        · exact h
      by_cases hcap : n + m ≤ c'
      · -- there is room
        rcases hcase with ⟨rfl, hsum⟩ | ⟨rfl, hend2⟩
        case inr => omega
        rw [hsz'] at hsum
        dsimp only at hsum
        have hmul : (n + m) * i.size ≤ c' * i.size := Nat.mul_le_mul_right _ hcap
        rw [Nat.add_mul] at hmul
        have hf2 : tame c2.size f2 := by
          obtain ⟨_, _, r3, _, _, _, r7⟩ := q3
          simp only [hro, Bool.false_eq_true, if_false] at r7
          rw [r3]; exact r7.2.1
        rw [← hBe] at q2
        have hrun := run_append_place (ty := ty) (base := some ⟨B.b, a.off + B.s, none⟩) (n := n) (c := c') (m := m) ht hi hsrc hcap
        have hadd : (⟨B.b, a.off + B.s, none⟩ : Addr).add (n * i.size) = ⟨B.b, cs.size + B.s, none⟩ := by
          unfold Addr.add
          split
          · rename_i h0; rw [h0] at hend; simp only [Nat.add_zero] at hend; rw [hend]
          · show (⟨B.b, a.off + B.s + n * i.size, none⟩ : Addr) = _
            congr 1; omega
        have hn1 : ∀ v ∈ news'.toList, v.oneCell' = true := by
          intro v hv
          obtain ⟨j, hj⟩ := List.getElem?_of_mem hv
          have hj2 : j < news'.size := by have := (List.getElem?_eq_some_iff.1 hj).1; simpa using this
          have hrel := hnews.2 j _ v (Array.getElem?_eq_getElem (by rw [hnews.1]; exact hj2)) (by simpa using hj)
          rw [hrel.oneCell]
          exact Array.all_eq_true.1 hone j (by rw [hnews.1]; exact hj2)
        have hst := run_storeCells_tame (P := P) B.b (cs.size + B.s) e' news'.toList 0 c2 f2 w q2 hf2 (by rw [Array.length_toList, ← hnews.1, hnsz]; omega) hn1
        simp only [Nat.add_zero] at hst
        obtain ⟨ρ', g0, g1, g2⟩ := hs.move he (off := a.off) (m := m) hB hro hblk q2 (by omega) hnews hone hnsz (by omega)
        refine ⟨_, _, ρ', by rw [hrun]; simp only [hadd, hst, Result.andThen_ok]; rfl, g2, g1, .opn ⟨rfl, .inr ⟨_, g0, rfl, ?_, hcap, hmax, .inl ⟨?_, ?_⟩⟩⟩⟩
        · show 0 < szOf P e'; rw [szOf_eq hi]; exact hsz
        · show _ = (⟨B.b, 0 + (B.s + a.off), none⟩ : Addr); congr 1; omega
        · show a.off + B.s + c' * szOf P e' = B.nc; rw [szOf_eq hi]; omega
      · -- a new row
        obtain ⟨k1, k2⟩ := hs.kill hB
        have holds : ∃ olds', RRel P ρ (cs.extract a.off cs.size) olds' ∧ ∀ d, (Builtin.firstCells i.size n (.slice (some a') n c')).run P { w with drawn := d } = .ok olds' { w with drawn := d } := by
          have hex : arun P (Go.loadCells a (n * i.size)) h = some (cs.extract a.off cs.size, h) := by
            have := arun_loadCells_row (P := P) hblk hsp (n * i.size) (by omega)
            rw [hend] at this; exact this
          obtain ⟨_, g2, g3, olds', g4, g5⟩ := loadRow (k := n * i.size) (a' := a') hs (by
            rcases hcase with ⟨h1, _⟩ | ⟨h1, _⟩
            · exact .inl ⟨hsp, .inr ⟨B, hB, h1⟩⟩
            · right; have : n = 0 := by omega
              simp [this]) hex
          refine ⟨olds', g4, fun d => ?_⟩
          have := run_firstCells_some (P := P) { w with drawn := d } i.size n a' n c' olds'.toList (by rw [Array.length_toList, ← g4.1, g2]) g5
          rw [Array.toArray_toList] at this
          exact this
        obtain ⟨olds', ho1, ho2⟩ := holds
        have hone2 : (cs.extract a.off cs.size).all Value.oneCell' = true := by
          obtain ⟨_, _, _, _, _, r6, _⟩ := q3
          rw [Array.all_eq_true]
          intro j hj
          rw [Array.getElem_extract]
          exact r6 _ _ (Array.getElem?_eq_getElem _)
        obtain ⟨v', w1, ρ2, d1, d2, d3, d4⟩ := does_new (ty := ty) k1 ht he hsrc (hnews.mono k2.le) hone hnsz (ho1.mono k2.le) hone2 (by rw [Array.size_extract]; omega) (by omega) hb ho2
        simp only [Array.size_setIfInBounds] at d2 d3 d4
        exact ⟨v', w1, ρ2, d1, k2.trans d2, d3, d4⟩

end Go.Abs
