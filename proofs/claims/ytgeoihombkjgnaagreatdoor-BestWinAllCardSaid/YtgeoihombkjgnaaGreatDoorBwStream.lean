import Derived.Test.YtgeoihombkjgnaaGreatDoorBwIdx
namespace Go.Proofs.Tryz
open Go Go.Abs
def strm (L : Value) (at_ : Int) : Obj := .cells #[L, .int .i64 at_] 25 (0, 0)
def lst (n c : Nat) : Value := .slice (some ⟨0, 0, none⟩) n c
def hp (el : TypeId) (xs : Array Value) (L : Value) (at_ : Int) (rest : List Obj) : H := ⟨.cells xs el (0, xs.size) :: strm L at_ :: rest⟩
/- the second region: len(L) = 0 -/
theorem DPlan_done {P : Program} {Γ : Gl} {ops : Array Oper} {K : Act → H → Prop} {F : Facts} {a : Act} {h : H} (hk : K a h) : DPlan P Γ ops K [] F a h := hk
theorem below {Γ : Gl} (x n : Int) (h : H) : ACall prog Γ 28 #[.int .i64 x, .int .i64 n] h fun v h1 => ∃ k, v = .int .i64 k ∧ h1 = h ∧ (n < 1 → k = 0) ∧ (1 ≤ n → k = if x.tmod n < 0 then IntKind.wrap .i64 (x.tmod n + n) else x.tmod n) := by
  refine ACall.body func28 rfl ?_
  refine ACode.seq (ACode.ev KnownOk.none mixed noCall_ok 5 (by kernel_rfl) ?_)
  refine ACode.seq (ACode.seq (ACode.ev KnownOk.none mixed noCall_ok 5 (by kernel_rfl) (ACode.condD (n < 1) rfl (by kernel_rfl) (fun hn => ?_) (fun hn => ?_))))
  · refine ACode.seq (ACode.ev KnownOk.none mixed noCall_ok 5 (by kernel_rfl) ?_)
    refine ACode.ret ?_
    exact retIs (.int .i64 0) h (by kernel_rfl) ⟨0, rfl, rfl, fun _ => rfl, fun h1 => absurd hn (by omega)⟩
  · refine ACode.skip ?_
    have h0 : n ≠ 0 := by omega
    refine ACode.seq (ACode.regionL [0, 1, 2, 3] rfl rfl (AOps.evs KnownOk.none noCall_ok [0, 1] [2, 3] (by kernel_rfl) ?_))
    refine AOps.div .rem 3 3 (.tmp 7) (.tmp 8) .i64 x n (by kernel_rfl) (by kernel_rfl) (by kernel_rfl) (.inl rfl) rfl rfl (by kernel_rfl) (by kernel_rfl) h0 ?_
    refine AOps.evs KnownOk.none noCall_ok [3] [] (by kernel_rfl) (AOps.nil ?_)
    refine ACode.seq (ACode.seq (ACode.ev KnownOk.none mixed noCall_ok 5 (by kernel_rfl) (ACode.condD (x.tmod n < 0) rfl (by kernel_rfl) (fun hm => ?_) (fun hm => ?_))))
    · refine ACode.ev KnownOk.none mixed noCall_ok 5 (by kernel_rfl) ?_
      refine ACode.seq (ACode.ev KnownOk.none mixed noCall_ok 5 (by kernel_rfl) ?_)
      refine ACode.ret ?_
      exact retIs (.int .i64 (IntKind.wrap .i64 (x.tmod n + n))) h (by kernel_rfl) ⟨_, rfl, rfl, fun h1 => absurd h1 hn, fun _ => by rw [if_pos hm]⟩
    · refine ACode.skip ?_
      refine ACode.seq (ACode.ev KnownOk.none mixed noCall_ok 5 (by kernel_rfl) ?_)
      refine ACode.ret ?_
      exact retIs (.int .i64 (x.tmod n)) h (by kernel_rfl) ⟨_, rfl, rfl, fun h1 => absurd h1 hn, fun _ => by rw [if_neg hm]⟩
theorem callAt {P : Program} {Γ : Gl} {ops : Array Oper} {i : Nat} {l : List Nat} {a : Act} {h : H} {K : Act → H → Prop} {R : Value → H → Prop} (f : FuncId) (args : Array Value) (hi : decide (i < ops.size) = true) (hw : Region.wanted (ops.getD i default) (yielded ops a.tmps) = true)
    (hv : aop P a (ops.getD i default) h = some (.enter f args h)) (hc : ACall P Γ f args h R) (hr : ∀ v h2, R v h2 → AOps P Γ ops l (a.put (ops.getD i default).dst v) h2 K) : AOps P Γ ops (i :: l) a h K :=
  AOps.enter (getD_some hi) hw hv hc hr
theorem next0 {Γ : Gl} {el : TypeId} (xs : Array Value) (n c : Nat) (k : Int) (rest : List Obj) (hn : 0 < n) (y : Int) (hx : xs[0]? = some (.int .i64 y)) :
    ACall prog Γ 13 #[.pointer (some ⟨1, 0, none⟩), .int .i64 k] (hp el xs (lst n c) 0 rest) fun v h1 => ∃ u j, v = .int .i64 u ∧ h1 = hp el xs (lst n c) 1 rest ∧ (1 ≤ k → u = if Int.tmod j k < 0 then IntKind.wrap .i64 (Int.tmod j k + k) else Int.tmod j k) := by
  refine ACall.body func13 rfl ?_
  refine ACode.seq (ACode.ev KnownOk.none mixed noCall_ok 5 (by kernel_rfl) ?_)
  refine ACode.seq (ACode.ev KnownOk.none mixed noCall_ok 5 (by kernel_rfl) ?_)
  refine ACode.seq (ACode.seq (ACode.ev KnownOk.none mixed noCall_ok 5 (by kernel_rfl) (ACode.condD ((n : Int) = 0) rfl (by kernel_rfl) (fun h0 => ?_) (fun h0 => ?_))))
  · omega
  · refine ACode.skip ?_
    have hm : (n : Int) ≠ 0 := h0
    refine ACode.seq (ACode.plan mixed [(0, true), (1, true), (2, true), (3, true), (4, true), (5, true), (6, true), (7, true), (8, true), (9, true), (10, true), (11, true)] rfl (by kernel_rfl) (by kernel_rfl) ?_)
    refine DPlan.evs (F := []) noCall_ok [(0, true), (1, true), (2, true), (3, true), (4, true), (5, true), (6, true), (7, true), (8, true), (9, true)] [(10, true), (11, true)] (fun f hf => by cases hf) (by kernel_rfl) fun F1 hF1 _ => ?_
    refine DPlan.at (.int .i64 0) (by kernel_rfl) (by kernel_rfl) (by kernel_rfl) ((aop_div (op := .rem) (t := 3) (ty := 3) (x := .tmp 31) (y := .tmp 36) (k := .i64) (u := 0) (v := n) (by kernel_rfl) (.inl rfl) rfl rfl (by kernel_rfl) (by kernel_rfl) hm).trans (by simp)) (fun F2 hF2 => ?_) hF1
    refine DPlan.evs noCall_ok [(11, true)] [] hF2 (by kernel_rfl) fun F3 hF3 _ => DPlan_done ?_
    refine ACode.seq (ACode.plan mixed [(0, true), (1, true), (2, true), (3, true), (4, true), (5, true), (6, true), (7, true), (8, true), (9, true), (10, true), (11, true)] rfl (by kernel_rfl) (by kernel_rfl) ?_)
    refine DPlan.evs (F := []) noCall_ok [(0, true), (1, true), (2, true), (3, true), (4, true), (5, true), (6, true), (7, true), (8, true), (9, true)] [(10, true), (11, true)] (fun f hf => by cases hf) (by kernel_rfl) fun F4 hF4 _ => ?_
    refine DPlan.at (.int .i64 0) (by kernel_rfl) (by kernel_rfl) (by kernel_rfl) ((aop_div (op := .quo) (t := 3) (ty := 3) (x := .tmp 42) (y := .tmp 47) (k := .i64) (u := 0) (v := n) (by kernel_rfl) (.inr rfl) rfl rfl (by kernel_rfl) (by kernel_rfl) hm).trans (by simp; rfl)) (fun F5 hF5 => ?_) hF4
    refine DPlan.evs noCall_ok [(11, true)] [] hF5 (by kernel_rfl) fun F6 hF6 _ => DPlan_done ?_
    refine ACode.seq (ACode.regionL [0, 1, 2, 3, 4, 5, 6, 7, 8, 9, 10, 11, 12, 13, 14, 15] rfl rfl (AOps.evs KnownOk.none noCall_ok [0, 1, 2, 3, 4] [5, 6, 7, 8, 9, 10, 11, 12, 13, 14, 15] (by kernel_rfl) ?_))
    refine AOps.valAt (.pointer (some ⟨0, 0, Option.none⟩)) (by kernel_rfl) (by kernel_rfl) ((aop_indexAddr (t := 22) (e := 3) (x := .tmp 52) (i := .tmp 53) (ad := ⟨0, 0, Option.none⟩) (n := n) (c := c) (k := .i64) (m := 0) (inf := (prog.info? 3).getD default) (by kernel_rfl) rfl rfl (by kernel_rfl) (by kernel_rfl) (by kernel_rfl) (by kernel_rfl) (by omega) (by omega)).trans (by kernel_rfl)) ?_
    refine AOps.valAt (.int .i64 y) (by kernel_rfl) (by kernel_rfl) (aop_load (t := 3) (x := .tmp 54) (ad := ⟨0, 0, Option.none⟩) (d := .int .i64) (by kernel_rfl) rfl (by kernel_rfl) (by kernel_rfl) rfl ?_) ?_
    · exact Eq.trans (b := xs[0]?) (by kernel_rfl) hx
    refine callAt 28 #[.int .i64 y, .int .i64 1073741824] (by kernel_rfl) (by kernel_rfl) (by kernel_rfl) (below y 1073741824 _) ?_
    rintro v h2 ⟨k1, rfl, rfl, _, _⟩
    refine AOps.evs KnownOk.none noCall_ok [8, 9, 10, 11, 12, 13] [14, 15] (by kernel_rfl) ?_
    refine callAt 28 #[.int .i64 (IntKind.wrap .i64 (k1 + 0)), .int .i64 k] (by kernel_rfl) (by kernel_rfl) (by kernel_rfl) (below _ k _) ?_
    rintro v h2 ⟨k2, rfl, rfl, _, hk2⟩
    refine AOps.evs KnownOk.none noCall_ok [15] [] (by kernel_rfl) (AOps.nil ?_)
    refine ACode.ret ?_
    exact retIs (.int .i64 k2) (hp el xs (lst n c) 1 rest) (by kernel_rfl) ⟨k2, _, rfl, rfl, hk2⟩

theorem wrap_id {n : Int} (h1 : -9223372036854775808 ≤ n) (h2 : n < 9223372036854775808) : IntKind.wrap .i64 n = n := by
  have e : IntKind.wrap .i64 n = if (true && decide (n % 18446744073709551616 ≥ 9223372036854775808)) = true then n % 18446744073709551616 - 18446744073709551616 else n % 18446744073709551616 := rfl
  rw [e]
  simp only [Bool.true_and, decide_eq_true_eq]
  split <;> omega
theorem callAt2 {P : Program} {Γ : Gl} {ops : Array Oper} {i : Nat} {l : List Nat} {a : Act} {h : H} {K : Act → H → Prop} {R : Value → H → Prop} (f : FuncId) (args : Array Value) (h2 : H) (hi : decide (i < ops.size) = true) (hw : Region.wanted (ops.getD i default) (yielded ops a.tmps) = true)
    (he : h = h2) (hv : aop P a (ops.getD i default) h2 = some (.enter f args h2)) (hc : ACall P Γ f args h2 R) (hr : ∀ v h3, R v h3 → AOps P Γ ops l (a.put (ops.getD i default).dst v) h3 K) : AOps P Γ ops (i :: l) a h K := by
  subst he
  exact AOps.enter (getD_some hi) hw hv hc hr
theorem tmod_in (j m : Int) (hm : 0 < m) (hb : m < 1000000) : 0 ≤ (if Int.tmod j m < 0 then IntKind.wrap .i64 (Int.tmod j m + m) else Int.tmod j m) ∧ (if Int.tmod j m < 0 then IntKind.wrap .i64 (Int.tmod j m + m) else Int.tmod j m) < m := by
  have a1 := Int.tmod_lt_of_pos j hm
  have a2 : -m < Int.tmod j m := by
    have := Int.tmod_lt_of_pos (-j) hm
    rw [Int.neg_tmod] at this
    omega
  split
  · rw [wrap_id (by omega) (by omega)]; omega
  · omega
theorem range0 {Γ : Gl} {el : TypeId} (xs : Array Value) (n c : Nat) (lo hi : Int) (rest : List Obj) (hn : 0 < n) (y : Int) (hx : xs[0]? = some (.int .i64 y)) (hl : lo ≤ hi) (h1 : -1000 ≤ lo) (h2 : hi ≤ 1000) :
    ACall prog Γ 4 #[.pointer (some ⟨1, 0, none⟩), .int .i64 lo, .int .i64 hi] (hp el xs (lst n c) 0 rest) fun v h1 => ∃ u, v = .int .i64 u ∧ h1 = hp el xs (lst n c) 1 rest ∧ lo ≤ u ∧ u ≤ hi := by
  have w1 : IntKind.wrap .i64 (hi - lo) = hi - lo := wrap_id (by omega) (by omega)
  have w2 : IntKind.wrap .i64 (hi - lo + 1) = hi - lo + 1 := wrap_id (by omega) (by omega)
  refine ACall.body func4 rfl ?_
  refine ACode.seq (ACode.ev KnownOk.none mixed noCall_ok 5 (by kernel_rfl) ?_)
  refine ACode.seq (ACode.seq (ACode.ev KnownOk.none mixed noCall_ok 5 (by kernel_rfl) (ACode.condD (hi < lo) rfl (by kernel_rfl) (fun hn => absurd hl (by omega)) (fun _ => ?_))))
  refine ACode.skip ?_
  refine ACode.seq (ACode.regionL [0, 1, 2, 3, 4, 5, 6, 7, 8] rfl rfl (AOps.evs KnownOk.none noCall_ok [0, 1, 2, 3, 4, 5] [6, 7, 8] (by kernel_rfl) ?_))
  refine callAt2 13 #[.pointer (some ⟨1, 0, none⟩), .int .i64 (IntKind.wrap .i64 (IntKind.wrap .i64 (hi - lo) + 1))] (hp el xs (lst n c) 0 rest) (by kernel_rfl) (by kernel_rfl) (by kernel_rfl) (by kernel_rfl) (next0 xs n c _ rest hn y hx) ?_
  rintro v h2 ⟨u, j, rfl, rfl, hu⟩
  refine AOps.evs KnownOk.none noCall_ok [7, 8] [] (by kernel_rfl) (AOps.nil ?_)
  refine ACode.ret ?_
  refine retIs (.int .i64 (IntKind.wrap .i64 (lo + u))) (hp el xs (lst n c) 1 rest) (by kernel_rfl) ⟨_, rfl, rfl, ?_⟩
  rw [w1, w2] at hu
  have hu2 := hu (by omega)
  have hb : 0 ≤ u ∧ u < hi - lo + 1 := by
    rw [hu2]; exact tmod_in j _ (by omega) (by omega)
  have w3 : IntKind.wrap .i64 (lo + u) = lo + u := wrap_id (by omega) (by omega)
  rw [w3]; omega
/-- The first draw, from whatever list. -/
def firstDraw (Γ : Gl) (el : TypeId) (xs : Array Value) (L : Value) (lo hi : Int) (rest : List Obj) : Prop :=
  ACall prog Γ 4 #[.pointer (some ⟨1, 0, none⟩), .int .i64 lo, .int .i64 hi] (hp el xs L 0 rest) fun v h1 => ∃ u, v = .int .i64 u ∧ h1 = hp el xs L 1 rest ∧ lo ≤ u ∧ u ≤ hi
end Go.Proofs.Tryz
