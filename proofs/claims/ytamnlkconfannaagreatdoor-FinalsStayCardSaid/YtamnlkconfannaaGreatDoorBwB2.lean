import Derived.Test.YtamnlkconfannaaGreatDoorBwB1
/-
The abstract heap: map entries, len, copy, clear, delete, make.
-/
namespace Go.Abs
open Go
variable {P : Program} {ρ : Ren} {α β : Type}

theorem SV.tuple2 {v v' u u' : Value} (hv : VRel P ρ v v') (hu : VRel P ρ u u') : VRel P ρ (.tuple #[v, u]) (.tuple #[v', u']) := by
  refine .tuple rfl fun i x x' hx hx' => ?_
  match i with
  | 0 => simp at hx hx'; subst hx; subst hx'; exact hv
  | 1 => simp at hx hx'; subst hx; subst hx'; exact hu
  | i + 2 => simp at hx

theorem SV.mapEntry {m m' k k' : Value} (t : TypeId) (hz : ∀ a e, P.underlying t = some (.map a e) → zok P e = true) (hm : VRel P ρ m m') (hk : flat k = true) (hkk : VRel P ρ k k') :
    SV P ρ (Instr.mapEntry t m k) (Instr.mapEntry t m' k') := by
  obtain rfl := flat_eq hk hkk
  unfold Instr.mapEntry
  refine SR.bind (SR.underlying t) fun ρ1 d d' hl hd => ?_
  obtain ⟨rfl, hd⟩ := hd
  cases d with
  | map keyType elem =>
    dsimp only
    have hm1 := hm.mono hl
    cases hm1 with
    | nilm => exact SR.fail fun _ => rfl
    | map hr =>
      dsimp only
      refine SR.bind (SR.getObj hr) fun ρ2 o o' hl2 ho => ?_
      obtain ⟨B, hB, rfl, hro, hs0, hrel, hp⟩ := ho
      cases o with
      | map es clock =>
        obtain ⟨es', rfl, hes⟩ := hrel.of_map
        dsimp only
        refine SR.bind (SR.quiet (quiet_checkKey _ _ _ _)) fun ρ3 _ _ hl3 _ => ?_
        refine SR.bind (SR.findKey keyType k' (hes.mono hl3)) fun ρ4 x x' hl4 hx => ?_
        have hes4 := (hes.mono hl3).mono hl4
        rcases hx with ⟨rfl, rfl⟩ | ⟨i, u, u', rfl, rfl, hu⟩
        · dsimp only
          refine SR.bind (SV.zeroValue (hz _ _ hd)) fun ρ5 z z' hl5 hzz => ?_
          refine SR.bind (SR.setObj' hB ((hl3.trans hl4).trans hl5) hro (ObjRel.mk_map hs0 hro ((hes4.mono hl5).push (m := { key := k', val := z, born := clock }) (m' := { key := k', val := z', born := clock }) hk rfl hzz rfl))) fun ρ6 _ _ hl6 _ => ?_
          exact SR.pure fun _ hl7 => SV.tuple2 ((hzz.mono hl6).mono hl7) (.int _ _)
        · dsimp only
          obtain ⟨hkey, hkf⟩ := hes4.key i k' hk
          rw [← hkey]
          have hborn : ((es[i]?).map fun x => (x.born : Int)).getD 0 = ((es'[i]?).map fun x => (x.born : Int)).getD 0 := by
            have hsz : es.size = es'.size := by simpa using hes4.1
            cases he : es[i]? with
            | none =>
              have : es'[i]? = none := by rw [Array.getElem?_eq_none_iff] at he ⊢; omega
              rw [this]
            | some m =>
              have hlt : i < es'.size := by rw [← hsz]; exact (Array.getElem?_eq_some_iff.1 he).1
              obtain ⟨_, _, _, k4⟩ := hes4.2 i m es'[i] (by simpa using he) (by rw [Array.getElem?_toList]; exact Array.getElem?_eq_getElem hlt)
              rw [Array.getElem?_eq_getElem hlt]; exact congrArg (fun n : Nat => (n : Int)) k4
          rw [← hborn]
          intro ρ5 h w hl5 hs5 a h1 hrun
          simp only [arun_bind, Option.bind_eq_some_iff] at hrun
          obtain ⟨⟨r, h2⟩, hr1, ⟨⟨_, h3⟩, hr2, hr3⟩⟩ := hrun
          have hfr := keyThatStays_flat hk hr1
          obtain ⟨rfl, hq⟩ := quiet_run _ (quiet_keyThatStays _ _) _ _ _ hr1
          simp only [arun_pure, Option.some.injEq, Prod.mk.injEq] at hr3
          obtain ⟨rfl, rfl⟩ := hr3
          obtain ⟨b, w1, ρ6, g1, g2, g3, g4⟩ := SR.setObj' (o' := .map (es'.modify i fun e => { e with key := r }) clock) hB ((hl3.trans hl4).trans hl5) hro
            (ObjRel.mk_map hs0 hro ((hes4.mono hl5).modify i (fun e => { e with key := r }) (fun e => { e with key := r }) fun m m' _ _ hv hb => ⟨hfr, rfl, hv, hb⟩)) ρ5 _ w (.refl _) hs5 _ _ hr2
          exact ⟨_, w1, ρ6, by simp [hq, g1, goInt], g2, g3, SV.tuple2 ((hu.mono hl5).mono g2.le) (.int _ _)⟩
      | _ => exact SR.fail fun _ => rfl
    | _ => exact SR.fail fun _ => rfl
  | _ => exact SR.stuck

theorem SR.entryStore {m m' k k' v v' : Value} (t : TypeId) (hm : VRel P ρ m m') (hk : VRel P ρ k k') (hv : VRel P ρ v v') : SR P ρ (fun _ _ _ => True) (Instr.entryStore t m k v) (Instr.entryStore t m' k' v') := by
  unfold Instr.entryStore
  cases hm with
  | map hr =>
    dsimp only
    refine SR.bind (SR.getObj hr) fun ρ2 o o' hl2 ho => ?_
    obtain ⟨B, hB, rfl, hro, hs0, hrel, hp⟩ := ho
    cases o with
    | map es clock =>
      obtain ⟨es', rfl, hes⟩ := hrel.of_map
      dsimp only
      refine SR.bind (R := fun _ a b => a = b) ?_ fun ρ3 n n' hl3 hn => ?_
      · unfold Go.asInt
        exact SR.bind (SR.asIntOf (hk.mono hl2)) fun _ a b _ hab => SR.pure fun _ _ => by rw [hab]
      · subst hn
        have hidx : es.findIdx? (fun e => (e.born : Int) == n) = es'.findIdx? (fun e => (e.born : Int) == n) := by
          have conv : ∀ (a : Array MapEntry) (p : MapEntry → Bool), a.findIdx? p = a.toList.findIdx? p := fun a p => by
            rw [← List.findIdx?_toArray, Array.toArray_toList]
          rw [conv, conv]
          have hl := hes.1
          have hb := hes.2
          generalize es.toList = l at *
          generalize es'.toList = l' at *
          clear hrel hp
          induction l generalizing l' with
          | nil => have : l' = [] := List.eq_nil_of_length_eq_zero (by simpa using hl.symm); subst this; rfl
          | cons x l ih =>
            cases l' with
            | nil => simp at hl
            | cons x' l' =>
              have h0 := (hb 0 x x' (by simp) (by simp)).2.2.2
              simp only [List.findIdx?_cons, h0]
              split
              · rfl
              · rw [ih l' ⟨by simpa using hl, fun j m m' hm hm' => hb (j + 1) m m' (by simpa using hm) (by simpa using hm')⟩ (by simpa using hl) fun j m m' hm hm' => hb (j + 1) m m' (by simpa using hm) (by simpa using hm')]
        rw [← hidx]
        cases es.findIdx? (fun e => (e.born : Int) == n) with
        | none => exact SR.fail fun _ => rfl
        | some i =>
          dsimp only
          exact SR.setObj' hB hl3 hro (ObjRel.mk_map hs0 hro ((hes.mono hl3).modify i (fun e => { e with val := v }) (fun e => { e with val := v' }) fun m m' h1 h2 _ hb => ⟨h1, h2, (hv.mono hl2).mono hl3, hb⟩))
    | _ => exact SR.fail fun _ => rfl
  | _ => exact SR.fail fun _ => rfl

theorem SR.lenOf {v v' : Value} (hv : VRel P ρ v v') : SR P ρ (fun _ a b => a = b) (Builtin.lenOf v) (Builtin.lenOf v') := by
  cases hv <;> first | exact SR.stuck | exact SR.pure fun _ _ => rfl

theorem SV.len {v v' : Value} (t ty : TypeId) (ht : (match P.underlying t with | some .string | some (.slice _) | some (.map _ _) | some (.array _ _) => true | _ => false) = true) (hv : VRel P ρ v v') : SV P ρ (Builtin.len_ #[t] ty #[v]) (Builtin.len_ #[t] ty #[v']) := by
  unfold Builtin.len_
  refine SR.bind (SR.underlying t) fun ρ1 d d' hl hd => ?_
  obtain ⟨rfl, hd⟩ := hd
  have hv1 := hv.mono hl
  cases d with
  | string => cases hv1 <;> first | exact SR.fail fun _ => rfl | exact SR.pure fun _ _ => .int _ _
  | slice e => cases hv1 <;> first | exact SR.fail fun _ => rfl | exact SR.pure fun _ _ => .int _ _
  | array n e => exact SR.pure fun _ _ => .int _ _
  | map a e =>
    cases hv1 with
    | nilm => exact SR.pure fun _ _ => .int _ _
    | map hr =>
      refine SR.bind (SR.getObj hr) fun ρ2 o o' hl2 ho => ?_
      obtain ⟨B, hB, rfl, hro, hs0, hrel, hp⟩ := ho
      cases o with
      | map es clock =>
        obtain ⟨es', rfl, hes⟩ := hrel.of_map
        have : es.size = es'.size := by simpa using hes.1
        exact SR.pure fun _ _ => by rw [this]; exact .int _ _
      | _ => exact SR.fail fun _ => rfl
    | _ => exact SR.fail fun _ => rfl
  | _ => simp [hd] at ht


/-- The address of a slice, where it has elements. -/
theorem sliceAddr {a : Option Addr} {n c : Nat} {v' : Value} (h : VRel P ρ (.slice a n c) v') :
    ∃ a' c', v' = .slice a' n c' ∧ ((a = none ∧ a' = none ∧ n = 0) ∨ ∃ x x', a = some x ∧ a' = some x' ∧ (ARel ρ x x' ∨ n = 0)) := by
  cases h with
  | nils => exact ⟨none, 0, rfl, .inl ⟨rfl, rfl, rfl⟩⟩
  | @slc a a' _ _ hc hn ha => exact ⟨some a', c, rfl, .inr ⟨a, a', rfl, rfl, ha.imp id fun h => by omega⟩⟩
  | @opn a a' _ c' ho =>
    refine ⟨some a', c', rfl, .inr ⟨a, a', rfl, rfl, ?_⟩⟩
    obtain ⟨hsp, hd | ⟨B, hB, _, _, hn, _, ⟨h1, _⟩ | ⟨h1, _⟩⟩⟩ := ho
    · exact .inl ⟨hsp, .inl hd⟩
    · exact .inl ⟨hsp, .inr ⟨B, hB, h1⟩⟩
    · right; omega

theorem SR.loadCells0 {a a' : Addr} {k : Nat} (ha : ARel ρ a a' ∨ k = 0) :
    SR P ρ (fun ρ x x' => RRel P ρ x x' ∧ x.all Value.oneCell' = true ∧ x.size = k) (Go.loadCells a k) (Go.loadCells a' k) := by
  rcases ha with ha | rfl
  · exact SR.loadCells ha k
  · exact SR.pure fun ρ1 _ => ⟨RRel.empty ρ1, by simp, rfl⟩

theorem SR.firstCells {v v' : Value} (size n : Nat) (hv : VRel P ρ v v') (hn : ∀ a m c, v = .slice a m c → n ≤ m) :
    SR P ρ (fun ρ x x' => RRel P ρ x x' ∧ (n = 0 → x = #[])) (Builtin.firstCells size n v) (Builtin.firstCells size n v') := by
  cases v with
  | slice a m c =>
    obtain ⟨a', c', rfl, h | ⟨x, x', rfl, rfl, h⟩⟩ := sliceAddr hv
    · obtain ⟨rfl, rfl, _⟩ := h
      exact SR.pure fun ρ1 _ => ⟨RRel.empty ρ1, fun _ => rfl⟩
    · have := hn _ _ _ rfl
      refine (SR.loadCells0 (h.imp id fun h => ?_)).mono fun _ _ _ _ h => ⟨h.1, fun h0 => ?_⟩
      · have : n = 0 := by omega
        simp [this]
      · subst h0
        exact Array.eq_empty_of_size_eq_zero (by rw [h.2.2]; simp)
  | string s =>
    cases hv
    refine SR.pure fun ρ1 _ => ⟨flats_rel ?_, fun h0 => ?_⟩
    · rw [Array.all_eq_true]; intro j hj; simp only [Array.getElem_map]; rfl
    · subst h0
      apply Array.eq_empty_of_size_eq_zero
      rw [Array.size_map]
      have : (s.extract 0 0).size = 0 := by simp
      exact this
  | _ => cases hv <;> exact SR.stuck

theorem SR.storeCells0 {a a' : Addr} {x x' : Array Value} (ha : ARel ρ a a' ∨ x = #[]) (h : RRel P ρ x x') : SR P ρ (fun _ _ _ => True) (Go.storeCells a x.toList) (Go.storeCells a' x'.toList) := by
  rcases ha with ha | rfl
  · exact SR.storeCells ha _ _ 0 (by rw [Array.toArray_toList, Array.toArray_toList]; exact h)
  · have : x' = #[] := Array.eq_empty_of_size_eq_zero h.1.symm
    subst this
    exact SR.pure fun _ _ => trivial

theorem SV.copy {v v' u u' : Value} (t ty : TypeId) (x : TypeId) (hv : VRel P ρ v v') (hu : VRel P ρ u u') : SV P ρ (Builtin.copy_ #[t, x] ty #[v, u]) (Builtin.copy_ #[t, x] ty #[v', u']) := by
  unfold Builtin.copy_
  refine SR.bind (SR.underlying t) fun ρ1 d d' hl hd => ?_
  obtain ⟨rfl, _⟩ := hd
  cases d with
  | slice e =>
    cases v with
    | slice a m c =>
      obtain ⟨a', c', rfl, ha⟩ := sliceAddr (hv.mono hl)
      refine SR.bind (R := fun _ a b => a = b ∧ ∀ y k q, u = .slice y k q → a = k) ?_ fun ρ2 n n' hl2 hn => ?_
      · cases u with
        | slice y k q =>
          obtain ⟨y', q', rfl, _⟩ := sliceAddr hu
          exact SR.pure fun _ _ => ⟨rfl, fun _ _ _ h => by cases h; rfl⟩
        | string s => cases hu; exact SR.pure fun _ _ => ⟨rfl, fun _ _ _ h => by cases h⟩
        | _ => cases hu <;> exact SR.stuck
      · obtain ⟨rfl, hk⟩ := hn
        refine SR.bind (SR.sizeOf e) fun ρ3 s s' hl3 hs => ?_
        obtain ⟨rfl, _⟩ := hs
        have hmin : Nat.min n m ≤ n := Nat.min_le_left _ _
        refine SR.bind (SR.firstCells s (Nat.min n m) (((hu.mono hl).mono hl2).mono hl3) fun y k q e => by rw [← hk y k q e]; exact hmin) fun ρ4 x x' hl4 hx => ?_
        rcases ha with ⟨rfl, rfl, _⟩ | ⟨b, b', rfl, rfl, hb⟩
        · exact SR.pure fun _ _ => .int _ _
        · refine SR.bind (SR.storeCells0 (hb.imp (fun h => ((h.mono hl2).mono hl3).mono hl4) fun h => hx.2 ?_) hx.1) fun ρ5 _ _ _ _ => SR.pure fun _ _ => .int _ _
          subst h; exact Nat.min_eq_right (Nat.zero_le _)
    | _ => cases hv <;> exact SR.fail fun _ => rfl
  | _ => exact SR.fail fun _ => rfl

theorem SV.clear {v v' : Value} (t ty : TypeId) (hm : ∀ r, v ≠ .map (some r)) (hz : ∀ e, P.underlying t = some (.slice e) → zok P e = true) (hv : VRel P ρ v v') : SV P ρ (Builtin.clear_ #[t] ty #[v]) (Builtin.clear_ #[t] ty #[v']) := by
  unfold Builtin.clear_
  have unit : ∀ ρ1 : Ren, VRel P ρ1 (.tuple #[]) (.tuple #[]) := fun ρ1 => .tuple rfl fun i u u' h => by simp at h
  refine SR.bind (SR.underlying t) fun ρ1 d d' hl hd => ?_
  obtain ⟨rfl, hd⟩ := hd
  cases v with
  | slice a m c =>
    obtain ⟨a', c', rfl, ha⟩ := sliceAddr (hv.mono hl)
    rcases ha with ⟨rfl, rfl, _⟩ | ⟨b, b', rfl, rfl, hb⟩
    · cases d <;> exact SR.pure fun ρ2 _ => unit ρ2
    · cases m with
      | zero => cases d <;> exact SR.pure fun ρ2 _ => unit ρ2
      | succ m =>
        cases d with
        | slice e =>
          refine SR.bind (SV.zeroValue (hz e hd)) fun ρ2 z z' hl2 hzz => ?_
          have hzz2 : RRel P ρ2 (Builtin.zeroCells z.cells (m + 1)) (Builtin.zeroCells z'.cells (m + 1)) := by
            have hc := hzz.cells
            refine ⟨by rw [size_zeroCells, size_zeroCells, hc.1], fun i u u' hu hu' => ?_⟩
            have hlt := (Array.getElem?_eq_some_iff.1 hu).1
            rw [size_zeroCells] at hlt
            simp only [Builtin.zeroCells, Array.getElem?_map, Array.getElem?_range] at hu hu'
            rw [if_pos hlt] at hu
            rw [if_pos (by rw [← hc.1]; exact hlt)] at hu'
            simp only [Option.map_some, Option.some.injEq] at hu hu'
            have hpos : 0 < z.cells.size := by
              rcases Nat.eq_zero_or_pos z.cells.size with h | h
              · rw [h] at hlt; simp at hlt
              · exact h
            have h1 : i % z.cells.size < z.cells.size := Nat.mod_lt _ hpos
            have h2 : i % z.cells.size < z'.cells.size := by rw [← hc.1]; exact h1
            rw [getElem!_pos z.cells _ h1] at hu
            rw [← hc.1, getElem!_pos z'.cells _ h2] at hu'
            subst hu; subst hu'
            exact hc.2 _ _ _ (Array.getElem?_eq_getElem h1) (Array.getElem?_eq_getElem h2)
          refine SR.bind (SR.storeCells0 (hb.imp (fun h => h.mono hl2) fun h => by simp at h) hzz2) fun ρ3 _ _ _ _ => SR.pure fun ρ4 _ => unit ρ4
        | _ => exact SR.fail fun _ => rfl
  | map r =>
    have hv1 := hv.mono hl
    cases hv1 with
    | nilm => cases d <;> exact SR.pure fun ρ2 _ => unit ρ2
    | map hr => exact absurd rfl (hm _)
  | _ => cases hv <;> cases d <;> exact SR.fail fun _ => rfl


theorem SV.delete {m m' k k' : Value} (t x ty : TypeId) (hm : VRel P ρ m m') (hk : flat k = true) (hkk : VRel P ρ k k') : SV P ρ (Builtin.delete_ #[t, x] ty #[m, k]) (Builtin.delete_ #[t, x] ty #[m', k']) := by
  obtain rfl := flat_eq hk hkk
  unfold Builtin.delete_
  have unit : ∀ ρ1 : Ren, VRel P ρ1 (.tuple #[]) (.tuple #[]) := fun ρ1 => .tuple rfl fun i u u' h => by simp at h
  refine SR.bind (SR.underlying t) fun ρ1 d d' hl hd => ?_
  obtain ⟨rfl, _⟩ := hd
  cases d with
  | map keyType elem =>
    have hm1 := hm.mono hl
    cases hm1 with
    | nilm => exact SR.bind (SR.quiet (quiet_checkKey _ _ _ _)) fun ρ2 _ _ _ _ => SR.pure fun ρ3 _ => unit ρ3
    | map hr =>
      refine SR.bind (SR.getObj hr) fun ρ2 o o' hl2 ho => ?_
      obtain ⟨B, hB, rfl, hro, hs0, hrel, hp⟩ := ho
      cases o with
      | map es clock =>
        obtain ⟨es', rfl, hes⟩ := hrel.of_map
        have hsz : es.size = es'.size := by simpa using hes.1
        have hem : es.isEmpty = es'.isEmpty := by simp [Array.isEmpty, hsz]
        refine SR.bind (s' := Instr.checkKey es'.isEmpty 10000 keyType k') (R := fun _ a b => a = b) (by rw [hem]; exact SR.quiet (quiet_checkKey _ _ _ _)) fun ρ3 _ _ hl3 _ => ?_
        refine SR.bind (SR.findKey keyType k' (hes.mono hl3)) fun ρ4 x x' hl4 hx => ?_
        have hes4 := (hes.mono hl3).mono hl4
        rcases hx with ⟨rfl, rfl⟩ | ⟨i, u, u', rfl, rfl, hu⟩
        · exact SR.bind (SR.setObj' hB (hl3.trans hl4) hro (ObjRel.mk_map hs0 hro hes4)) fun ρ5 _ _ _ _ => SR.pure fun ρ6 _ => unit ρ6
        · refine SR.bind (SR.setObj' hB (hl3.trans hl4) hro (ObjRel.mk_map hs0 hro ?_)) fun ρ5 _ _ _ _ => SR.pure fun ρ6 _ => unit ρ6
          refine ⟨by simp only [Array.toList_eraseIdxIfInBounds, List.length_eraseIdx, Array.length_toList, hsz], fun j m m' hm hm' => ?_⟩
          simp only [Array.toList_eraseIdxIfInBounds, List.getElem?_eraseIdx] at hm hm'
          split at hm
          · rename_i e
            rw [if_pos e] at hm'
            exact hes4.2 j m m' hm hm'
          · rename_i e
            rw [if_neg e] at hm'
            exact hes4.2 (j + 1) m m' hm hm'
      | _ => exact SR.fail fun _ => rfl
    | _ => exact SR.fail fun _ => rfl
  | _ => exact SR.fail fun _ => rfl

theorem SV.makeSlice {l l' c c' : Value} (t : TypeId) (hz : ∀ e, P.underlying t = some (.slice e) → zok P e = true) (hl0 : VRel P ρ l l') (hc0 : VRel P ρ c c') : SV P ρ (Instr.makeSlice t l c) (Instr.makeSlice t l' c') := by
  have asInt : ∀ {ρ : Ren} {v v' : Value}, VRel P ρ v v' → SR P ρ (fun _ a b => a = b) (Go.asInt v) (Go.asInt v') := fun {ρ v v'} h => by
    unfold Go.asInt
    exact SR.bind (SR.asIntOf h) fun _ a b _ hab => SR.pure fun _ _ => by rw [hab]
  unfold Instr.makeSlice
  refine SR.bind (SR.underlying t) fun ρ1 d d' hl hd => ?_
  obtain ⟨rfl, hd⟩ := hd
  cases d with
  | slice e =>
    refine SR.bind (asInt (hl0.mono hl)) fun ρ2 a b hl2 hab => ?_
    subst hab
    refine SR.bind (asInt ((hc0.mono hl).mono hl2)) fun ρ3 k k' hl3 hkk => ?_
    subst hkk
    refine SR.bind (SR.typeInfo e) fun ρ4 i i' hl4 hi => ?_
    obtain ⟨rfl, hi⟩ := hi
    dsimp only
    have nope : ∀ {ρ : Ren} {m : String} {f f' : Unit → Sem Value}, SV P ρ ((Go.runtimePanic (.error m) : Sem Unit) >>= f) ((Go.runtimePanic (.error m) : Sem Unit) >>= f') := SR.fail fun _ => rfl
    split
    · split
      · exact nope
      · split
        · exact nope
        · exact SR.fail fun _ => rfl
    · rename_i hcond
      simp only [Bool.or_eq_true, decide_eq_true_eq, not_or, Int.not_lt, gt_iff_lt] at hcond
      obtain ⟨⟨⟨h1, h2⟩, h3⟩, h4⟩ := hcond
      refine SR.bind (SR.askRoom _) fun ρ5 _ _ hl5 _ => ?_
      refine SR.bind (SR.sizeOf e) fun ρ6 s s' hl6 hs => ?_
      obtain ⟨rfl, _⟩ := hs
      have hop : (IntKind.i64.wrap k).toNat < OPEN := by
        have : IntKind.i64.wrap k < 2 ^ 64 := by
          unfold IntKind.wrap
          simp only [IntKind.bits]
          have h1 := Int.emod_lt_of_pos k (b := 2 ^ 64) (by decide)
          have two : ∀ (b : Bool) (x y z : Int), x < z → y < z → (if b = true then x else y) < z := by intro b x y z h1 h2; split <;> assumption
          exact two _ _ _ _ (by omega) (by omega)
        unfold OPEN; omega
      have fin : ∀ {ρ : Ren} (z : Array Value), z.all flat1 = true → SV P ρ
          (do let ad ← Go.newRow e ((Array.range ((IntKind.i64.wrap k).toNat * s)).map fun x => z[x % z.size]!); Pure.pure (.slice (some ad) (IntKind.i64.wrap a).toNat (IntKind.i64.wrap k).toNat))
          (do let ad ← Go.newRow e ((Array.range ((IntKind.i64.wrap k).toNat * s)).map fun x => z[x % z.size]!); Pure.pure (.slice (some ad) (IntKind.i64.wrap a).toNat (IntKind.i64.wrap k).toNat)) := by
        intro ρ z hzz
        refine SR.bind (SR.newRow e (flats_rel (flats_rep z hzz _))) fun ρ7 x x' hl7 hx => SR.pure fun ρ8 hl8 => .slc hop (by omega) (.inl (hx.1.mono hl8))
      split
      · exact fin #[] (by simp)
      · refine SR.bind (SR.zeroFlat (hz e hd)) fun ρ7 z z' hl7 hzz => ?_
        obtain ⟨rfl, hzz, _⟩ := hzz
        exact fin z.cells hzz
  | _ => exact SR.fail fun _ => rfl

end Go.Abs
