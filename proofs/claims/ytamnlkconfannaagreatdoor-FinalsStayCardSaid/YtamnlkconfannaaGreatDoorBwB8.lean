import Derived.Test.YtamnlkconfannaaGreatDoorProg
import Derived.Test.YtamnlkconfannaaGreatDoorBwB7
import Derived.KernelRfl
/- The stream of draws, in whatever heap. -/
namespace Go.Proofs.Tryz
open Go Go.Abs
theorem mixed : prog.follows .mixedOrders = true := by kernel_rfl
abbrev noC : CallerF := fun _ _ _ => Option.none
theorem noC_ok {Γ : Gl} : CallableF prog Γ noC := CallableF.none

def ints (ys : List Int) : Array Value := ⟨ys.map (Value.int .i64)⟩
def strm (L : Value) (at_ : Int) : Obj := .cells #[L, .int .i64 at_] 25 (0, 0)
def belowV (x n : Int) : Int := if n < 1 then 0 else if x.tmod n < 0 then IntKind.wrap .i64 (x.tmod n + n) else x.tmod n

theorem below {Γ : Gl} (x n : Int) (h : FH) : FT prog Γ 111 #[.int .i64 x, .int .i64 n] h fun v h1 => v = .int .i64 (belowV x n) ∧ h1 = h := by
  refine FT.body func111 rfl ?_
  refine CT.seq (CT.ev KnownOk.none mixed noC_ok 5 (by kernel_rfl) ?_)
  refine CT.seq (CT.seq (CT.ev KnownOk.none mixed noC_ok 5 (by kernel_rfl) (CT.condD (n < 1) rfl (by kernel_rfl) (fun hn => ?_) (fun hn => ?_))))
  · refine CT.seq (CT.ev KnownOk.none mixed noC_ok 5 (by kernel_rfl) ?_)
    exact CT.ret (retF (.int .i64 0) h (by kernel_rfl) ⟨by rw [belowV, if_pos hn], rfl⟩)
  · refine CT.skip ?_
    have h0 : n ≠ 0 := by omega
    refine CT.seq (CT.region [0, 1, 2, 3] rfl rfl (OT.evs KnownOk.none noC_ok [0, 1] [2, 3] (by kernel_rfl) ?_))
    refine OT.div .rem 3 3 (.tmp 7) (.tmp 8) .i64 x n (by kernel_rfl) (by kernel_rfl) (by kernel_rfl) (.inl rfl) rfl rfl (by kernel_rfl) (by kernel_rfl) h0 ?_
    refine OT.evs KnownOk.none noC_ok [3] [] (by kernel_rfl) (OT.nil ?_)
    refine CT.seq (CT.seq (CT.ev KnownOk.none mixed noC_ok 5 (by kernel_rfl) (CT.condD (x.tmod n < 0) rfl (by kernel_rfl) (fun hm => ?_) (fun hm => ?_))))
    · refine CT.ev KnownOk.none mixed noC_ok 5 (by kernel_rfl) ?_
      refine CT.seq (CT.ev KnownOk.none mixed noC_ok 5 (by kernel_rfl) ?_)
      exact CT.ret (retF (.int .i64 (IntKind.wrap .i64 (x.tmod n + n))) h (by kernel_rfl) ⟨by rw [belowV, if_neg hn, if_pos hm], rfl⟩)
    · refine CT.skip ?_
      refine CT.seq (CT.ev KnownOk.none mixed noC_ok 5 (by kernel_rfl) ?_)
      exact CT.ret (retF (.int .i64 (x.tmod n)) h (by kernel_rfl) ⟨by rw [belowV, if_neg hn, if_neg hm], rfl⟩)

theorem wrap_id {n : Int} (h1 : -9223372036854775808 ≤ n) (h2 : n < 9223372036854775808) : IntKind.wrap .i64 n = n := by
  have e : IntKind.wrap .i64 n = if (true && decide (n % 18446744073709551616 ≥ 9223372036854775808)) = true then n % 18446744073709551616 - 18446744073709551616 else n % 18446744073709551616 := rfl
  rw [e]
  simp only [Bool.true_and, decide_eq_true_eq]
  split <;> omega

/-- What the draw number at gives. -/
def nextV (ys : List Int) (n : Nat) (at_ k : Int) : Int :=
  if n = 0 then belowV (IntKind.wrap .i64 ((at_ + 1) * 7919)) k
  else belowV (IntKind.wrap .i64 (belowV (ys.getD (at_.tmod n).toNat 0) 1073741824 + IntKind.wrap .i64 (IntKind.wrap .i64 (at_.tdiv n) * IntKind.wrap .i64 (7919 + at_.tmod n)))) k

def shq (el : TypeId) (ys : List Int) (n c : Nat) (at_ : Int) : FH := ⟨2, [(1, strm (.slice (some ⟨0, 0, none⟩) n c) at_), (0, .cells (ints ys) el (0, ys.length))]⟩

theorem ints_at {ys : List Int} {i : Nat} (h : i < ys.length) : (ints ys).toList[i]? = some (.int .i64 (ys.getD i 0)) := by
  simp [ints, h]

theorem nextQ {Γ : Gl} (el : TypeId) (ys : List Int) (n c : Nat) (at_ k : Int) (hn : n ≤ ys.length) (h0 : 0 ≤ at_) (h1 : at_ < 1099511627776) :
    FT prog Γ 79 #[.pointer (some ⟨1, 0, none⟩), .int .i64 k] (shq el ys n c at_) fun v h => v = .int .i64 (nextV ys n at_ k) ∧ h = shq el ys n c (at_ + 1) := by
  have w1 : IntKind.wrap .i64 (at_ + 1) = at_ + 1 := wrap_id (by omega) (by omega)
  have w2 : IntKind.wrap .i64 (IntKind.wrap .i64 (at_ + 1) - 1) = at_ := by rw [w1]; rw [wrap_id] <;> omega
  refine FT.sameRet (FT.body func79 rfl ?_)
  refine CT.seq (CT.ev KnownOk.none mixed noC_ok 5 (by kernel_rfl) ?_)
  refine CT.seq (CT.ev KnownOk.none mixed noC_ok 5 (by kernel_rfl) ?_)
  refine CT.seq (CT.seq (CT.ev KnownOk.none mixed noC_ok 5 (by kernel_rfl) (CT.condB ((n : Int) == 0) rfl (by kernel_rfl) (fun hb => ?_) (fun hb => ?_))))
  · have hz : n = 0 := by simpa using hb
    refine CT.seq (CT.region [0, 1, 2, 3, 4, 5, 6, 7] rfl rfl (OT.evs KnownOk.none noC_ok [0, 1, 2, 3, 4, 5] [6, 7] (by kernel_rfl) ?_))
    refine OT.call 111 #[.int .i64 (IntKind.wrap .i64 (IntKind.wrap .i64 (at_ + 1) * 7919)), .int .i64 k] (by kernel_rfl) (by kernel_rfl) (by kernel_rfl) (below _ _ _) ?_
    rintro v h2 ⟨rfl, rfl⟩
    refine OT.evs KnownOk.none noC_ok [7] [] (by kernel_rfl) (OT.nil ?_)
    refine CT.ret (retS (.int .i64 (belowV (IntKind.wrap .i64 (IntKind.wrap .i64 (at_ + 1) * 7919)) k)) (shq el ys n c (IntKind.wrap .i64 (at_ + 1))) (by kernel_rfl) (by kernel_rfl) (by kernel_rfl) ⟨?_, by rw [w1]⟩)
    rw [nextV, if_pos hz, w1]
  · have hz : n ≠ 0 := by simpa using hb
    refine CT.skip ?_
    have hn0 : (n : Int) ≠ 0 := by omega
    refine CT.seq (CT.plan mixed [(0, true), (1, true), (2, true), (3, true), (4, true), (5, true), (6, true), (7, true), (8, true), (9, true), (10, true), (11, true)] rfl (by kernel_rfl) (by kernel_rfl) ?_)
    refine DT.evs noC_ok [(0, true), (1, true), (2, true), (3, true), (4, true), (5, true), (6, true), (7, true), (8, true), (9, true)] [(10, true), (11, true)] FactsOk.nil (by kernel_rfl) fun hF1 => ?_
    refine DT.at (.int .i64 ((IntKind.wrap .i64 (IntKind.wrap .i64 (at_ + 1) - 1)).tmod n)) (by kernel_rfl) (by kernel_rfl) (by kernel_rfl) ((aop_div (op := .rem) (t := 3) (ty := 3) (x := .tmp 31) (y := .tmp 36) (k := .i64) (u := IntKind.wrap .i64 (IntKind.wrap .i64 (at_ + 1) - 1)) (v := n) (by kernel_rfl) (.inl rfl) rfl rfl (by rw [FA.eval_toA]; kernel_rfl) (by rw [FA.eval_toA]; kernel_rfl) hn0).trans (by simp)) hF1 fun F2 hF2 => ?_
    refine DT.evs noC_ok [(11, true)] [] hF2 (by kernel_rfl) fun _ => DT.nil ?_
    refine CT.seq (CT.plan mixed [(0, true), (1, true), (2, true), (3, true), (4, true), (5, true), (6, true), (7, true), (8, true), (9, true), (10, true), (11, true)] rfl (by kernel_rfl) (by kernel_rfl) ?_)
    refine DT.evs noC_ok [(0, true), (1, true), (2, true), (3, true), (4, true), (5, true), (6, true), (7, true), (8, true), (9, true)] [(10, true), (11, true)] FactsOk.nil (by kernel_rfl) fun hF3 => ?_
    refine DT.at (.int .i64 (IntKind.wrap .i64 ((IntKind.wrap .i64 (IntKind.wrap .i64 (at_ + 1) - 1)).tdiv n))) (by kernel_rfl) (by kernel_rfl) (by kernel_rfl) ((aop_div (op := .quo) (t := 3) (ty := 3) (x := .tmp 42) (y := .tmp 47) (k := .i64) (u := IntKind.wrap .i64 (IntKind.wrap .i64 (at_ + 1) - 1)) (v := n) (by kernel_rfl) (.inr rfl) rfl rfl (by rw [FA.eval_toA]; kernel_rfl) (by rw [FA.eval_toA]; kernel_rfl) hn0).trans (by simp)) hF3 fun F4 hF4 => ?_
    refine DT.evs noC_ok [(11, true)] [] hF4 (by kernel_rfl) fun _ => DT.nil ?_
    have hi0 : 0 ≤ (IntKind.wrap .i64 (IntKind.wrap .i64 (at_ + 1) - 1)).tmod n := by rw [w2]; exact Int.tmod_nonneg _ h0
    have hi1 : (IntKind.wrap .i64 (IntKind.wrap .i64 (at_ + 1) - 1)).tmod n < n := Int.tmod_lt_of_pos _ (by omega)
    refine CT.seq (CT.region [0, 1, 2, 3, 4, 5, 6, 7, 8, 9, 10, 11, 12, 13, 14, 15] rfl rfl (OT.evs KnownOk.none noC_ok [0, 1, 2, 3, 4] [5, 6, 7, 8, 9, 10, 11, 12, 13, 14, 15] (by kernel_rfl) ?_))
    refine OT.idx 22 3 (.tmp 52) (.tmp 53) ⟨0, 0, Option.none⟩ n c .i64 ((IntKind.wrap .i64 (IntKind.wrap .i64 (at_ + 1) - 1)).tmod n) 1 (by kernel_rfl) (by kernel_rfl) (by kernel_rfl) rfl rfl (by kernel_rfl) (by kernel_rfl) (by kernel_rfl) (by kernel_rfl) hi0 hi1 ?_
    have hadd : (⟨0, 0, Option.none⟩ : Addr).add (((IntKind.wrap .i64 (IntKind.wrap .i64 (at_ + 1) - 1)).tmod n).toNat * 1) = ⟨0, ((IntKind.wrap .i64 (IntKind.wrap .i64 (at_ + 1) - 1)).tmod n).toNat, Option.none⟩ := by
      rw [add_spot rfl]; simp
    rw [hadd]
    refine OT.load 3 (.tmp 54) ⟨0, ((IntKind.wrap .i64 (IntKind.wrap .i64 (at_ + 1) - 1)).tmod n).toNat, Option.none⟩ (.int .i64) (.int .i64 (ys.getD ((IntKind.wrap .i64 (IntKind.wrap .i64 (at_ + 1) - 1)).tmod n).toNat 0)) (by kernel_rfl) (by kernel_rfl) (by kernel_rfl) rfl (by kernel_rfl) (by kernel_rfl) rfl ?_ ?_
    · exact Eq.trans (b := (ints ys).toList[((IntKind.wrap .i64 (IntKind.wrap .i64 (at_ + 1) - 1)).tmod n).toNat]?) (by kernel_rfl) (ints_at (by omega))
    refine OT.call 111 #[.int .i64 (ys.getD ((IntKind.wrap .i64 (IntKind.wrap .i64 (at_ + 1) - 1)).tmod n).toNat 0), .int .i64 1073741824] (by kernel_rfl) (by kernel_rfl) (by kernel_rfl) (below _ _ _) ?_
    rintro v h2 ⟨rfl, rfl⟩
    refine OT.evs KnownOk.none noC_ok [8, 9, 10, 11, 12, 13] [14, 15] (by kernel_rfl) ?_
    refine OT.call 111 #[.int .i64 (IntKind.wrap .i64 (belowV (ys.getD ((IntKind.wrap .i64 (IntKind.wrap .i64 (at_ + 1) - 1)).tmod n).toNat 0) 1073741824 + IntKind.wrap .i64 (IntKind.wrap .i64 ((IntKind.wrap .i64 (IntKind.wrap .i64 (at_ + 1) - 1)).tdiv n) * IntKind.wrap .i64 (7919 + (IntKind.wrap .i64 (IntKind.wrap .i64 (at_ + 1) - 1)).tmod n)))), .int .i64 k] (by kernel_rfl) (by kernel_rfl) (by kernel_rfl) (below _ _ _) ?_
    rintro v h2 ⟨rfl, rfl⟩
    refine OT.evs KnownOk.none noC_ok [15] [] (by kernel_rfl) (OT.nil ?_)
    refine CT.ret (retS (.int .i64 (belowV (IntKind.wrap .i64 (belowV (ys.getD ((IntKind.wrap .i64 (IntKind.wrap .i64 (at_ + 1) - 1)).tmod n).toNat 0) 1073741824 + IntKind.wrap .i64 (IntKind.wrap .i64 ((IntKind.wrap .i64 (IntKind.wrap .i64 (at_ + 1) - 1)).tdiv n) * IntKind.wrap .i64 (7919 + (IntKind.wrap .i64 (IntKind.wrap .i64 (at_ + 1) - 1)).tmod n)))) k)) (shq el ys n c (IntKind.wrap .i64 (at_ + 1))) (by kernel_rfl) (by kernel_rfl) (by kernel_rfl) ⟨?_, by rw [w1]⟩)
    rw [nextV, if_neg hz, w2]

theorem belowV_in (x n : Int) (h1 : 1 ≤ n) (h2 : n < 4611686018427387904) : 0 ≤ belowV x n ∧ belowV x n < n := by
  have a1 := Int.tmod_lt_of_pos x (show 0 < n by omega)
  have a2 : -n < x.tmod n := by
    have := Int.tmod_lt_of_pos (-x) (show 0 < n by omega)
    rw [Int.neg_tmod] at this
    omega
  unfold belowV
  rw [if_neg (by omega)]
  split
  · rw [wrap_id (by omega) (by omega)]; omega
  · omega

theorem nextV_in (ys : List Int) (n : Nat) (at_ k : Int) (h1 : 1 ≤ k) (h2 : k < 4611686018427387904) : 0 ≤ nextV ys n at_ k ∧ nextV ys n at_ k < k := by
  unfold nextV
  split <;> exact belowV_in _ _ h1 h2

theorem ints_flat (ys : List Int) : ∀ v, v ∈ ints ys → flat v = true := by
  intro v hv
  unfold ints at hv
  simp only [List.mem_toArray, List.mem_map] at hv
  obtain ⟨y, _, rfl⟩ := hv
  rfl

/-- A stream without numbers. -/
theorem nextN {Γ : Gl} (at_ k : Int) (h0 : 0 ≤ at_) (h1 : at_ < 1099511627776) :
    FT prog Γ 79 #[.pointer (some ⟨1, 0, none⟩), .int .i64 k] ⟨2, [(1, strm (.slice none 0 0) at_), (0, Abs.tomb)]⟩ fun v h => v = .int .i64 (nextV [] 0 at_ k) ∧ h = ⟨2, [(1, strm (.slice none 0 0) (at_ + 1)), (0, Abs.tomb)]⟩ := by
  have w1 : IntKind.wrap .i64 (at_ + 1) = at_ + 1 := wrap_id (by omega) (by omega)
  refine FT.sameRet (FT.body func79 rfl ?_)
  refine CT.seq (CT.ev KnownOk.none mixed noC_ok 5 (by kernel_rfl) ?_)
  refine CT.seq (CT.ev KnownOk.none mixed noC_ok 5 (by kernel_rfl) ?_)
  refine CT.seq (CT.seq (CT.ev KnownOk.none mixed noC_ok 5 (by kernel_rfl) (CT.condT rfl (by kernel_rfl) ?_)))
  refine CT.seq (CT.region [0, 1, 2, 3, 4, 5, 6, 7] rfl rfl (OT.evs KnownOk.none noC_ok [0, 1, 2, 3, 4, 5] [6, 7] (by kernel_rfl) ?_))
  refine OT.call 111 #[.int .i64 (IntKind.wrap .i64 (IntKind.wrap .i64 (at_ + 1) * 7919)), .int .i64 k] (by kernel_rfl) (by kernel_rfl) (by kernel_rfl) (below _ _ _) ?_
  rintro v h2 ⟨rfl, rfl⟩
  refine OT.evs KnownOk.none noC_ok [7] [] (by kernel_rfl) (OT.nil ?_)
  refine CT.ret (retS (.int .i64 (belowV (IntKind.wrap .i64 (IntKind.wrap .i64 (at_ + 1) * 7919)) k)) ⟨2, [(1, strm (.slice none 0 0) (IntKind.wrap .i64 (at_ + 1))), (0, Abs.tomb)]⟩ (by kernel_rfl) (by kernel_rfl) (by kernel_rfl) ⟨?_, by rw [w1]⟩)
  rw [nextV, if_pos rfl, w1]

/-! The stream and its list, in a small heap: block 0 is the list, block 1 the stream. -/
structure Src where
  z : Bool
  el : TypeId
  ys : List Int
  n : Nat
  c : Nat
  ok : n ≤ ys.length

def Src.row (s : Src) : Obj := match s.z with | true => Abs.tomb | false => .cells (ints s.ys) s.el (0, s.ys.length)
def Src.lst (s : Src) : Value := match s.z with | true => .slice none 0 0 | false => .slice (some ⟨0, 0, none⟩) s.n s.c
def Src.h (s : Src) (at_ : Int) : FH := ⟨2, [(1, strm s.lst at_), (0, s.row)]⟩

theorem nextS {Γ : Gl} (s : Src) (at_ k : Int) (h0 : 0 ≤ at_) (h1 : at_ < 1099511627776) (hk : 1 ≤ k) (hk2 : k < 4611686018427387904) :
    FT prog Γ 79 #[.pointer (some ⟨1, 0, none⟩), .int .i64 k] (s.h at_) fun v h => ∃ x, 0 ≤ x ∧ x < k ∧ v = .int .i64 x ∧ h = s.h (at_ + 1) := by
  obtain ⟨z, el, ys, n, c, ok⟩ := s
  cases z
  · refine (nextQ el ys n c at_ k ok h0 h1).mono ?_
    rintro v h ⟨rfl, rfl⟩
    have := nextV_in ys n at_ k hk hk2
    exact ⟨_, this.1, this.2, rfl, rfl⟩
  · refine (nextN at_ k h0 h1).mono ?_
    rintro v h ⟨rfl, rfl⟩
    have := nextV_in [] 0 at_ k hk hk2
    exact ⟨_, this.1, this.2, rfl, rfl⟩

theorem Src.row_flat (s : Src) : FlatO s.row := by
  obtain ⟨z, el, ys, n, c, ok⟩ := s
  cases z
  · exact ints_flat ys
  · trivial

theorem Src.plain (s : Src) (at_ : Int) (m : Nat) (hm : Nat.blt 0 m = true) : (plainO (strm s.lst at_) && underO m (strm s.lst at_)) = true := by
  obtain ⟨z, el, ys, n, c, ok⟩ := s
  cases z
  · have hm2 : 0 < m := by rw [blt_iff, decide_eq_true_eq] at hm; exact hm
    show (true && (decide (0 < m) && true)) = true
    simp [hm2]
  · rfl

theorem Src.pl (s : Src) (at_ : Int) : plainO (strm s.lst at_) = true := by
  have := s.plain at_ 1 rfl
  rw [Bool.and_eq_true] at this
  exact this.1

theorem Src.fix (s : Src) (at_ : Int) (τ : Nat → Nat) (h : τ 0 = 0) : renO τ (strm s.lst at_) = strm s.lst at_ := by
  obtain ⟨z, el, ys, n, c, ok⟩ := s
  cases z
  · show Obj.cells #[.slice (some ⟨τ 0, 0, none⟩) n c, .int .i64 at_] _ _ = _
    rw [h]; rfl
  · rfl
end Go.Proofs.Tryz

namespace Go.Proofs.Tryz
open Go Go.Abs
theorem rangeS {Γ : Gl} (s : Src) (at_ lo hi : Int) (h0 : 0 ≤ at_) (h1 : at_ < 1099511627776) (hl : lo ≤ hi) (hl1 : -1099511627776 ≤ lo) (hh : hi ≤ 1099511627776) :
    FT prog Γ 81 #[.pointer (some ⟨1, 0, none⟩), .int .i64 lo, .int .i64 hi] (s.h at_) fun v h => ∃ x, lo ≤ x ∧ x ≤ hi ∧ v = .int .i64 x ∧ h = s.h (at_ + 1) := by
  have w1 : IntKind.wrap .i64 (IntKind.wrap .i64 (hi - lo) + 1) = hi - lo + 1 := by rw [wrap_id (n := hi - lo) (by omega) (by omega), wrap_id] <;> omega
  refine FT.sameRet (FT.body func81 rfl ?_)
  refine CT.seq ?_
  refine CT.ev KnownOk.none mixed noC_ok 1000 (by kernel_rfl) ?_
  refine CT.seq ?_
  refine CT.seq ?_
  refine CT.ev KnownOk.none mixed noC_ok 1000 (by kernel_rfl) ?_
  refine CT.condD (hi < lo) rfl (by kernel_rfl) (fun hb0 => ?_) (fun hb0 => ?_)
  · refine CT.seq ?_
    refine CT.ev KnownOk.none mixed noC_ok 1000 (by kernel_rfl) ?_
    refine CT.ret (retQ (by kernel_rfl) ?_)
    exact absurd hb0 (by omega)
  · refine CT.skip ?_
    refine CT.seq ?_
    refine CT.region [0, 1, 2, 3, 4, 5, 6, 7, 8] rfl rfl ?_
    refine OT.evs KnownOk.none noC_ok [0, 1, 2, 3, 4, 5] [6, 7, 8] (by kernel_rfl) ?_
    refine OT.callE [0, 1] [.flat, .fix] (nextS s (at_) (Go.IntKind.i64.wrap (Go.IntKind.i64.wrap (hi - lo) + 1)) (by omega) (by omega) (by first | omega | (rw [w1]; omega)) (by first | omega | (rw [w1]; omega))) (by kernel_rfl) (by kernel_rfl) (by kernel_rfl) rfl (by kernel_rfl) (by kernel_rfl) ⟨⟨s.row_flat, by kernel_rfl⟩, ⟨⟨s.plain _ _ rfl, s.fix _ _ rfl⟩, by kernel_rfl⟩, trivial⟩ rfl rfl ?_
    rintro _ _ ⟨x1, hx1, hy1, rfl, rfl⟩
    refine ⟨[.keep, .fix], [], rfl, rfl, rfl, ⟨by kernel_rfl, ⟨s.pl _, s.fix _ _ rfl⟩, trivial⟩, trivial, rfl, ?_⟩
    refine OT.evs KnownOk.none noC_ok [7, 8] [] (by kernel_rfl) ?_
    refine OT.nil ?_
    refine CT.ret (retQ (by kernel_rfl) ?_)
    rw [w1] at hy1
    exact ⟨s.h (at_ + 1), FH.toH_eq (by kernel_rfl) (by kernel_rfl), lo + x1, by omega, by omega, (by kernel_rfl : _ = Value.int .i64 (IntKind.wrap .i64 (lo + x1))).trans (by rw [wrap_id (by omega) (by omega)]), rfl⟩

theorem flipS {Γ : Gl} (s : Src) (at_ n : Int) (h0 : 0 ≤ at_) (h1 : at_ < 1099511627776) (hl : 1 ≤ n) (hh : n ≤ 1099511627776) :
    FT prog Γ 43 #[.pointer (some ⟨1, 0, none⟩), .int .i64 n] (s.h at_) fun v h => ∃ x, v = .bool x ∧ h = s.h (at_ + 1) := by
  refine FT.sameRet (FT.body func43 rfl ?_)
  refine CT.seq ?_
  refine CT.ev KnownOk.none mixed noC_ok 1000 (by kernel_rfl) ?_
  refine CT.seq ?_
  refine CT.region [0, 1, 2, 3, 4] rfl rfl ?_
  refine OT.evs KnownOk.none noC_ok [0, 1] [2, 3, 4] (by kernel_rfl) ?_
  refine OT.callE [0, 1] [.flat, .fix] (nextS s (at_) (n) (by omega) (by omega) (by omega) (by omega)) (by kernel_rfl) (by kernel_rfl) (by kernel_rfl) rfl (by kernel_rfl) (by kernel_rfl) ⟨⟨s.row_flat, by kernel_rfl⟩, ⟨⟨s.plain _ _ rfl, s.fix _ _ rfl⟩, by kernel_rfl⟩, trivial⟩ rfl rfl ?_
  rintro _ _ ⟨x0, hx0, hy0, rfl, rfl⟩
  refine ⟨[.keep, .fix], [], rfl, rfl, rfl, ⟨by kernel_rfl, ⟨s.pl _, s.fix _ _ rfl⟩, trivial⟩, trivial, rfl, ?_⟩
  refine OT.evs KnownOk.none noC_ok [3, 4] [] (by kernel_rfl) ?_
  refine OT.nil ?_
  refine CT.ret (retQ (by kernel_rfl) ?_)
  exact ⟨s.h (at_ + 1), FH.toH_eq (by kernel_rfl) (by kernel_rfl), x0 == 0, by kernel_rfl, rfl⟩

def Src.h3 (s : Src) (at_ : Int) (o : Obj) : FH := ⟨3, [(2, o), (1, strm s.lst at_), (0, s.row)]⟩

theorem getD_mem {α : Type} {c : List α} {d : α} {i : Nat} (h : i < c.length) : c.getD i d ∈ c := by
  rw [List.getD_eq_getElem?_getD, List.getElem?_eq_getElem h]
  exact List.getElem_mem h

theorem pickS {Γ : Gl} (s : Src) (at_ : Int) (c : List Int) (el : TypeId) (cap : Nat) (h0 : 0 ≤ at_) (h1 : at_ < 1099511627776) (hl : Nat.blt 0 c.length = true) (hh : Nat.blt c.length 1000000 = true) :
    FT prog Γ 44 #[.pointer (some ⟨1, 0, none⟩), .slice (some ⟨2, 0, none⟩) c.length cap] (s.h3 at_ (.cells (ints c) el)) fun v h => ∃ x, x ∈ c ∧ v = .int .i64 x ∧ h = s.h3 (at_ + 1) (.cells (ints c) el) := by
  rw [blt_iff, decide_eq_true_eq] at hl hh
  refine FT.sameRet (FT.body func44 rfl ?_)
  refine CT.seq ?_
  refine CT.ev KnownOk.none mixed noC_ok 1000 (by kernel_rfl) ?_
  refine CT.seq ?_
  refine CT.region [0, 1, 2, 3, 4, 5, 6, 7] rfl rfl ?_
  refine OT.evs KnownOk.none noC_ok [0, 1, 2, 3] [4, 5, 6, 7] (by kernel_rfl) ?_
  refine OT.callE [0, 1] [.flat, .fix] (nextS s (at_) (↑c.length) (by omega) (by omega) (by omega) (by omega)) (by kernel_rfl) (by kernel_rfl) (by kernel_rfl) rfl (by kernel_rfl) (by kernel_rfl) ⟨⟨s.row_flat, by kernel_rfl⟩, ⟨⟨s.plain _ _ rfl, s.fix _ _ rfl⟩, by kernel_rfl⟩, trivial⟩ rfl rfl ?_
  rintro _ _ ⟨x0, hx0, hy0, rfl, rfl⟩
  refine ⟨[.keep, .fix], [], rfl, rfl, rfl, ⟨by kernel_rfl, ⟨s.pl _, s.fix _ _ rfl⟩, trivial⟩, trivial, rfl, ?_⟩
  refine OT.idxF (Operand.tmp 5) (Operand.tmp 9) 1 2 0 (c.length) (cap) IntKind.i64 (x0) (by kernel_rfl) (by kernel_rfl) (by kernel_rfl) (by kernel_rfl) (by kernel_rfl) (by omega) (by omega)  ?_
  refine OT.loadF (Operand.tmp 10) ⟨2, (0 + x0.toNat * 1), none⟩ (.int .i64 (c.getD x0.toNat 0)) (by kernel_rfl) (by kernel_rfl) (by kernel_rfl) (by kernel_rfl) ?_ ?_
  · exact Eq.trans (b := (ints c).toList[0 + x0.toNat * 1]?) (by kernel_rfl) (by rw [Nat.zero_add, Nat.mul_one]; exact ints_at (by omega))
  refine OT.evs KnownOk.none noC_ok [7] [] (by kernel_rfl) ?_
  refine OT.nil ?_
  refine CT.ret (retQ (by kernel_rfl) ?_)
  have hlt : x0.toNat < c.length := by omega
  exact ⟨s.h3 (at_ + 1) (.cells (ints c) el), FH.toH_eq (by kernel_rfl) (by kernel_rfl), c.getD x0.toNat 0, getD_mem hlt, by kernel_rfl, rfl⟩
end Go.Proofs.Tryz


namespace Go.Proofs.Tryz
open Go Go.Abs
def strs (ys : List ByteArray) : Array Value := ⟨ys.map Value.string⟩

theorem strs_flat (ys : List ByteArray) : ∀ v, v ∈ strs ys → flat v = true := by
  intro v hv
  unfold strs at hv
  simp only [List.mem_toArray, List.mem_map] at hv
  obtain ⟨y, _, rfl⟩ := hv
  rfl

theorem strs_at {ys : List ByteArray} {i : Nat} (h : i < ys.length) : (strs ys).toList[i]? = some (.string (ys.getD i ByteArray.empty)) := by
  simp [strs, h]

theorem someS {Γ : Gl} (s : Src) (at_ : Int) (c : List ByteArray) (el : TypeId) (cap : Nat) (h0 : 0 ≤ at_) (h1 : at_ < 1099511627776) (hl : Nat.blt 0 c.length = true) (hh : Nat.blt c.length 1000000 = true) :
    FT prog Γ 45 #[.pointer (some ⟨1, 0, none⟩), .slice (some ⟨2, 0, none⟩) c.length cap] (s.h3 at_ (.cells (strs c) el)) fun v h => ∃ x, x ∈ c ∧ v = .string x ∧ h = s.h3 (at_ + 1) (.cells (strs c) el) := by
  rw [blt_iff, decide_eq_true_eq] at hl hh
  refine FT.sameRet (FT.body func45 rfl ?_)
  refine CT.seq ?_
  refine CT.ev KnownOk.none mixed noC_ok 1000 (by kernel_rfl) ?_
  refine CT.seq ?_
  refine CT.region [0, 1, 2, 3, 4, 5, 6, 7] rfl rfl ?_
  refine OT.evs KnownOk.none noC_ok [0, 1, 2, 3] [4, 5, 6, 7] (by kernel_rfl) ?_
  refine OT.callE [0, 1] [.flat, .fix] (nextS s (at_) (↑c.length) (by omega) (by omega) (by omega) (by omega)) (by kernel_rfl) (by kernel_rfl) (by kernel_rfl) rfl (by kernel_rfl) (by kernel_rfl) ⟨⟨s.row_flat, by kernel_rfl⟩, ⟨⟨s.plain _ _ rfl, s.fix _ _ rfl⟩, by kernel_rfl⟩, trivial⟩ rfl rfl ?_
  rintro _ _ ⟨x0, hx0, hy0, rfl, rfl⟩
  refine ⟨[.keep, .fix], [], rfl, rfl, rfl, ⟨by kernel_rfl, ⟨s.pl _, s.fix _ _ rfl⟩, trivial⟩, trivial, rfl, ?_⟩
  refine OT.idxF (Operand.tmp 5) (Operand.tmp 9) 1 2 0 (c.length) (cap) IntKind.i64 (x0) (by kernel_rfl) (by kernel_rfl) (by kernel_rfl) (by kernel_rfl) (by kernel_rfl) (by omega) (by omega)  ?_
  refine OT.loadF (Operand.tmp 10) ⟨2, (0 + x0.toNat * 1), none⟩ (.string (c.getD x0.toNat ByteArray.empty)) (by kernel_rfl) (by kernel_rfl) (by kernel_rfl) (by kernel_rfl) ?_ ?_
  · exact Eq.trans (b := (strs c).toList[0 + x0.toNat * 1]?) (by kernel_rfl) (by rw [Nat.zero_add, Nat.mul_one]; exact strs_at (by omega))
  refine OT.evs KnownOk.none noC_ok [7] [] (by kernel_rfl) ?_
  refine OT.nil ?_
  refine CT.ret (retQ (by kernel_rfl) ?_)
  have hlt : x0.toNat < c.length := by omega
  exact ⟨s.h3 (at_ + 1) (.cells (strs c) el), FH.toH_eq (by kernel_rfl) (by kernel_rfl), c.getD x0.toNat ByteArray.empty, getD_mem hlt, by kernel_rfl, rfl⟩

theorem oddS {Γ : Gl} (s : Src) (at_ lo hi : Int) (h0 : 0 ≤ at_) (h1 : at_ < 1099511627770) (hl : lo ≤ hi) (hl1 : -1099511627776 ≤ lo) (hh : hi ≤ 1099511627776) :
    FT prog Γ 47 #[.pointer (some ⟨1, 0, none⟩), .int .i64 lo, .int .i64 hi] (s.h at_) fun v h => ∃ x, v = .int .i64 x ∧ h = s.h (at_ + 1 + 1) := by
  refine FT.tidy (FT.body func47 rfl ?_)
  refine CT.seq ?_
  refine CT.ev KnownOk.none mixed noC_ok 1000 (by kernel_rfl) ?_
  refine CT.seq ?_
  refine CT.seq ?_
  refine CT.region [0, 1] rfl rfl ?_
  refine OT.evs KnownOk.none noC_ok [0] [1] (by kernel_rfl) ?_
  refine OT.callE [0, 1] [.flat, .fix] (flipS s (at_) 12 (by omega) (by omega) (by omega) (by omega)) (by kernel_rfl) (by kernel_rfl) (by kernel_rfl) rfl (by kernel_rfl) (by kernel_rfl) ⟨⟨s.row_flat, by kernel_rfl⟩, ⟨⟨s.plain _ _ rfl, s.fix _ _ rfl⟩, by kernel_rfl⟩, trivial⟩ rfl rfl ?_
  rintro _ _ ⟨x0, rfl, rfl⟩
  refine ⟨[.keep, .fix], [], rfl, rfl, rfl, ⟨by kernel_rfl, ⟨s.pl _, s.fix _ _ rfl⟩, trivial⟩, trivial, rfl, ?_⟩
  refine OT.nil ?_
  refine CT.condB (x0) rfl (by kernel_rfl) (fun hb1 => ?_) (fun hb1 => ?_)
  · refine CT.seq ?_
    refine CT.region [0, 1, 2, 3, 4, 5, 6, 7, 8, 9] rfl rfl ?_
    refine OT.evs KnownOk.none noC_ok [0, 1, 2, 3, 4, 5, 6, 7] [8, 9] (by kernel_rfl) ?_
    refine OT.callE [0, 1, 2] [.flat, .fix, .flat] (pickS s (at_ + 1) [(Go.IntKind.i64.wrap (lo - 1)), (Go.IntKind.i64.wrap (hi + 1)), (lo), (hi), (-1099511627776), 1099511627776] 3 6 (by omega) (by omega) (by kernel_rfl) (by kernel_rfl)) (by kernel_rfl) (by kernel_rfl) (by kernel_rfl) rfl (by kernel_rfl) (by kernel_rfl) ⟨⟨s.row_flat, by kernel_rfl⟩, ⟨⟨s.plain _ _ rfl, s.fix _ _ rfl⟩, by kernel_rfl⟩, ⟨ints_flat _, by kernel_rfl⟩, trivial⟩ rfl rfl ?_
    rintro _ _ ⟨x2, hx2, rfl, rfl⟩
    refine ⟨[.keep, .fix, .keep], [], rfl, rfl, rfl, ⟨by kernel_rfl, ⟨s.pl _, s.fix _ _ rfl⟩, by kernel_rfl, trivial⟩, trivial, rfl, ?_⟩
    refine OT.evs KnownOk.none noC_ok [9] [] (by kernel_rfl) ?_
    refine OT.nil ?_
    refine CT.ret (retQ (by kernel_rfl) ?_)
    exact ⟨.int .i64 x2, s.h (at_ + 1 + 1), [0, 1], [.flat, .fix], rfl, rfl, ⟨⟨rfl, by kernel_rfl⟩, ⟨rfl, by kernel_rfl⟩, trivial⟩, by kernel_rfl, by kernel_rfl, ⟨⟨s.row_flat, by kernel_rfl⟩, ⟨⟨s.plain _ _ rfl, s.fix _ _ rfl⟩, by kernel_rfl⟩, trivial⟩, rfl, rfl, by kernel_rfl, x2, rfl, rfl⟩
  · refine CT.skip ?_
    refine CT.seq ?_
    refine CT.region [0, 1, 2, 3, 4] rfl rfl ?_
    refine OT.evs KnownOk.none noC_ok [0, 1, 2] [3, 4] (by kernel_rfl) ?_
    refine OT.callE [0, 1] [.flat, .fix] (rangeS s (at_ + 1) (lo) (hi) (by omega) (by omega) (by omega) (by omega) (by omega)) (by kernel_rfl) (by kernel_rfl) (by kernel_rfl) rfl (by kernel_rfl) (by kernel_rfl) ⟨⟨s.row_flat, by kernel_rfl⟩, ⟨⟨s.plain _ _ rfl, s.fix _ _ rfl⟩, by kernel_rfl⟩, trivial⟩ rfl rfl ?_
    rintro _ _ ⟨x3, hx3, hy3, rfl, rfl⟩
    refine ⟨[.keep, .fix], [], rfl, rfl, rfl, ⟨by kernel_rfl, ⟨s.pl _, s.fix _ _ rfl⟩, trivial⟩, trivial, rfl, ?_⟩
    refine OT.evs KnownOk.none noC_ok [4] [] (by kernel_rfl) ?_
    refine OT.nil ?_
    refine CT.ret (retQ (by kernel_rfl) ?_)
    exact ⟨.int .i64 x3, s.h (at_ + 1 + 1), [0, 1], [.flat, .fix], rfl, rfl, ⟨⟨rfl, by kernel_rfl⟩, ⟨rfl, by kernel_rfl⟩, trivial⟩, by kernel_rfl, by kernel_rfl, ⟨⟨s.row_flat, by kernel_rfl⟩, ⟨⟨s.plain _ _ rfl, s.fix _ _ rfl⟩, by kernel_rfl⟩, trivial⟩, rfl, rfl, by kernel_rfl, x3, rfl, rfl⟩

/-- Fractions. -/
def encF (f : Int × Int) : List Value := [.int .i64 f.1, .int .i64 f.2]
theorem encF_len (f : Int × Int) : (encF f).length = 2 := rfl
def fracs : List (Int × Int) := [(1, 1), (4, 1), (1, 25), (1, 2), (-2, 1), (0, 1), (7, 100)]
def fracs2 : List (Int × Int) := [(2, 4), (1, 3), (1, 0), (-1, -1), (1, 200), (10001, 1), (-9223372036854775808, 1), (1, 4611686018427387904), (0, 2)]

theorem worthS {Γ : Gl} (s : Src) (at_ : Int) (h0 : 0 ≤ at_) (h1 : at_ < 1099511627770) :
    FT prog Γ 48 #[.pointer (some ⟨1, 0, none⟩)] (s.h at_) fun v h => ∃ p t, p ∈ fracs ++ fracs2 ∧ (at_ ≤ t ∧ t ≤ at_ + 3) ∧ v = .agg #[.int .i64 p.1, .int .i64 p.2] ∧ h = s.h t := by
  refine FT.tidy (FT.body func48 rfl ?_)
  refine CT.seq ?_
  refine CT.ev KnownOk.none mixed noC_ok 1000 (by kernel_rfl) ?_
  refine CT.seq ?_
  refine CT.region [0, 1, 2, 3, 4, 5, 6, 7, 8, 9, 10, 11, 12, 13] rfl rfl ?_
  refine OT.evs KnownOk.none noC_ok [0, 1, 2, 3, 4, 5, 6, 7, 8] [9, 10, 11, 12, 13] (by kernel_rfl) ?_
  refine OT.callE [0, 1] [.flat, .fix] (nextS s (at_) 7 (by omega) (by omega) (by omega) (by omega)) (by kernel_rfl) (by kernel_rfl) (by kernel_rfl) rfl (by kernel_rfl) (by kernel_rfl) ⟨⟨s.row_flat, by kernel_rfl⟩, ⟨⟨s.plain _ _ rfl, s.fix _ _ rfl⟩, by kernel_rfl⟩, trivial⟩ rfl rfl ?_
  rintro _ _ ⟨x0, hx0, hy0, rfl, rfl⟩
  refine ⟨[.keep, .fix], [], rfl, rfl, rfl, ⟨by kernel_rfl, ⟨s.pl _, s.fix _ _ rfl⟩, trivial⟩, trivial, rfl, ?_⟩
  refine OT.idxF (Operand.tmp 11) (Operand.tmp 13) 2 3 0 7 7 IntKind.i64 (x0) (by kernel_rfl) (by kernel_rfl) (by kernel_rfl) (by kernel_rfl) (by kernel_rfl) (by omega) (by omega)  ?_
  have hx7 : x0.toNat < fracs.length := by show x0.toNat < 7; omega
  refine OT.loadS 3 (0 + x0.toNat * 2) 2 (rowOf encF fracs) ⟨encF (fracs.getD x0.toNat (0, 0))⟩ (by kernel_rfl) (by kernel_rfl) (by kernel_rfl) (by kernel_rfl) (by kernel_rfl) 38 (0, 0) (by kernel_rfl) (row_get encF_len fracs (0, 0) x0.toNat _ (by omega) hx7).1 (row_get encF_len fracs (0, 0) x0.toNat _ (by omega) hx7).2 ?_
  refine OT.evs KnownOk.none noC_ok [12, 13] [] (by kernel_rfl) ?_
  refine OT.nil ?_
  refine CT.seq ?_
  refine CT.seq ?_
  refine CT.region [0, 1] rfl rfl ?_
  refine OT.evs KnownOk.none noC_ok [0] [1] (by kernel_rfl) ?_
  refine OT.callE [0, 1] [.flat, .fix] (flipS s (at_ + 1) 25 (by omega) (by omega) (by omega) (by omega)) (by kernel_rfl) (by kernel_rfl) (by kernel_rfl) rfl (by kernel_rfl) (by kernel_rfl) ⟨⟨s.row_flat, by kernel_rfl⟩, ⟨⟨s.plain _ _ rfl, s.fix _ _ rfl⟩, by kernel_rfl⟩, trivial⟩ rfl rfl ?_
  rintro _ _ ⟨x2, rfl, rfl⟩
  refine ⟨[.keep, .fix], [], rfl, rfl, rfl, ⟨by kernel_rfl, ⟨s.pl _, s.fix _ _ rfl⟩, trivial⟩, trivial, rfl, ?_⟩
  refine OT.nil ?_
  refine CT.condB (x2) rfl (by kernel_rfl) (fun hb3 => ?_) (fun hb3 => ?_)
  · refine CT.region [0, 1, 2, 3, 4, 5, 6, 7, 8, 9, 10, 11, 12, 13, 14] rfl rfl ?_
    refine OT.evs KnownOk.none noC_ok [0, 1, 2, 3, 4, 5, 6, 7, 8, 9, 10] [11, 12, 13, 14] (by kernel_rfl) ?_
    refine OT.callE [0, 1] [.flat, .fix] (nextS s (at_ + 1 + 1) 9 (by omega) (by omega) (by omega) (by omega)) (by kernel_rfl) (by kernel_rfl) (by kernel_rfl) rfl (by kernel_rfl) (by kernel_rfl) ⟨⟨s.row_flat, by kernel_rfl⟩, ⟨⟨s.plain _ _ rfl, s.fix _ _ rfl⟩, by kernel_rfl⟩, trivial⟩ rfl rfl ?_
    rintro _ _ ⟨x4, hx4, hy4, rfl, rfl⟩
    refine ⟨[.keep, .fix], [], rfl, rfl, rfl, ⟨by kernel_rfl, ⟨s.pl _, s.fix _ _ rfl⟩, trivial⟩, trivial, rfl, ?_⟩
    refine OT.idxF (Operand.tmp 27) (Operand.tmp 29) 2 5 0 9 9 IntKind.i64 (x4) (by kernel_rfl) (by kernel_rfl) (by kernel_rfl) (by kernel_rfl) (by kernel_rfl) (by omega) (by omega)  ?_
    have hx9 : x4.toNat < fracs2.length := by show x4.toNat < 9; omega
    refine OT.loadS 5 (0 + x4.toNat * 2) 2 (rowOf encF fracs2) ⟨encF (fracs2.getD x4.toNat (0, 0))⟩ (by kernel_rfl) (by kernel_rfl) (by kernel_rfl) (by kernel_rfl) (by kernel_rfl) 38 (0, 0) (by kernel_rfl) (row_get encF_len fracs2 (0, 0) x4.toNat _ (by omega) hx9).1 (row_get encF_len fracs2 (0, 0) x4.toNat _ (by omega) hx9).2 ?_
    refine OT.evs KnownOk.none noC_ok [14] [] (by kernel_rfl) ?_
    refine OT.nil ?_
    refine CT.seq ?_
    refine CT.ev KnownOk.none mixed noC_ok 1000 (by kernel_rfl) ?_
    refine CT.ret (retQ (by kernel_rfl) ?_)
    exact ⟨.agg ⟨encF (fracs2.getD x4.toNat (0, 0))⟩, s.h (at_ + 1 + 1 + 1), [0, 1], [.flat, .fix], rfl, rfl, ⟨⟨rfl, by kernel_rfl⟩, ⟨rfl, by kernel_rfl⟩, trivial⟩, by kernel_rfl, by kernel_rfl, ⟨⟨s.row_flat, by kernel_rfl⟩, ⟨⟨s.plain _ _ rfl, s.fix _ _ rfl⟩, by kernel_rfl⟩, trivial⟩, rfl, rfl, by kernel_rfl, fracs2.getD x4.toNat (0, 0), _, List.mem_append_right _ (getD_mem hx9), ⟨by omega, by omega⟩, rfl, rfl⟩
  · refine CT.skip ?_
    refine CT.seq ?_
    refine CT.ev KnownOk.none mixed noC_ok 1000 (by kernel_rfl) ?_
    refine CT.ret (retQ (by kernel_rfl) ?_)
    exact ⟨.agg ⟨encF (fracs.getD x0.toNat (0, 0))⟩, s.h (at_ + 1 + 1), [0, 1], [.flat, .fix], rfl, rfl, ⟨⟨rfl, by kernel_rfl⟩, ⟨rfl, by kernel_rfl⟩, trivial⟩, by kernel_rfl, by kernel_rfl, ⟨⟨s.row_flat, by kernel_rfl⟩, ⟨⟨s.plain _ _ rfl, s.fix _ _ rfl⟩, by kernel_rfl⟩, trivial⟩, rfl, rfl, by kernel_rfl, fracs.getD x0.toNat (0, 0), _, List.mem_append_left _ (getD_mem hx7), ⟨by omega, by omega⟩, rfl, rfl⟩
end Go.Proofs.Tryz


namespace Go.Proofs.Tryz
open Go Go.Abs
set_option maxHeartbeats 0
def halves : List (Int × Int) := [(5, 1), (29, 4), (0, 1), (-1, 2)]
theorem ofHS {Γ : Gl} (x : Int) (hx : x ∈ [500, 725, 0, -50]) : FT prog Γ 46 #[.int .i64 x] ⟨0, []⟩ fun v h => ∃ p, p ∈ halves ∧ v = .agg #[.int .i64 p.1, .int .i64 p.2] ∧ h = ⟨0, []⟩ := by
  refine FT.tidy ?_
  simp only [List.mem_cons, List.not_mem_nil, or_false] at hx
  rcases hx with rfl | rfl | rfl | rfl
  · exact FT.evs KnownOk.none mixed noC_ok 30 (by kernel_rfl) (by kernel_rfl) ⟨_, ⟨0, []⟩, [], [], rfl, rfl, trivial, by kernel_rfl, rfl, trivial, by kernel_rfl, by kernel_rfl, by kernel_rfl, (5, 1), .head _, rfl, rfl⟩
  · exact FT.evs KnownOk.none mixed noC_ok 30 (by kernel_rfl) (by kernel_rfl) ⟨_, ⟨0, []⟩, [], [], rfl, rfl, trivial, by kernel_rfl, rfl, trivial, by kernel_rfl, by kernel_rfl, by kernel_rfl, (29, 4), .tail _ (.head _), rfl, rfl⟩
  · exact FT.evs KnownOk.none mixed noC_ok 30 (by kernel_rfl) (by kernel_rfl) ⟨_, ⟨0, []⟩, [], [], rfl, rfl, trivial, by kernel_rfl, rfl, trivial, by kernel_rfl, by kernel_rfl, by kernel_rfl, (0, 1), .tail _ (.tail _ (.head _)), rfl, rfl⟩
  · exact FT.evs KnownOk.none mixed noC_ok 30 (by kernel_rfl) (by kernel_rfl) ⟨_, ⟨0, []⟩, [], [], rfl, rfl, trivial, by kernel_rfl, rfl, trivial, by kernel_rfl, by kernel_rfl, by kernel_rfl, (-1, 2), .tail _ (.tail _ (.tail _ (.head _))), rfl, rfl⟩

structure Hon where
  s : Int
  p : Int
  t : ByteArray
  f : Int × Int

def encH (x : Hon) : List Value := [.int .i64 x.s, .int .i64 x.p, .string x.t, .int .i64 x.f.1, .int .i64 x.f.2]
theorem encH_len (x : Hon) : (encH x).length = 5 := rfl
theorem encH_flat (xs : List Hon) : ∀ v, v ∈ rowOf encH xs → flat v = true := by
  intro v hv
  unfold rowOf at hv
  simp only [List.mem_toArray, List.mem_flatMap] at hv
  obtain ⟨y, _, hy⟩ := hv
  simp only [encH, List.mem_cons, List.not_mem_nil, or_false] at hy
  rcases hy with rfl | rfl | rfl | rfl | rfl <;> rfl

def teamsH : List ByteArray := ["ta".toUTF8, "tb".toUTF8, "tc".toUTF8, "".toUTF8]
def pointsH : List (Int × Int) := halves ++ (fracs ++ fracs2)
def Hon.Good (x : Hon) : Prop := x.t ∈ teamsH ∧ x.f ∈ pointsH
def goodH (hs : List Hon) : Prop := ∀ x, x ∈ hs → x.Good

def honV (hs : List Hon) : Value := match hs with
  | [] => .slice none 0 0
  | x :: l => .slice (some ⟨2, 0, none⟩) (x :: l).length OPEN
def Src.hon (s : Src) (t : Int) (hs : List Hon) : FH := match hs with
  | [] => s.h t
  | x :: l => s.h3 t (.cells (rowOf encH (x :: l)) 40)

theorem team4 {x : ByteArray} (h : x ∈ [({ data := #[116, 97] } : ByteArray), ({ data := #[116, 97] }), ({ data := #[116, 98] }), ({ data := #[116, 99] })]) : x ∈ teamsH := by
  simp only [List.mem_cons, List.not_mem_nil, or_false] at h
  rcases h with rfl | rfl | rfl | rfl
  · exact .head _
  · exact .head _
  · exact .tail _ (.head _)
  · exact .tail _ (.tail _ (.head _))
theorem team2 {x y : ByteArray} (h : x ∈ [({ data := #[] } : ByteArray), y]) (hy : y ∈ teamsH) : x ∈ teamsH := by
  simp only [List.mem_cons, List.not_mem_nil, or_false] at h
  rcases h with rfl | rfl
  · exact .tail _ (.tail _ (.tail _ (.head _)))
  · exact hy
theorem good_push {hs : List Hon} {s p : Int} {t : ByteArray} {f : Int × Int} (h : goodH hs) (ht : t ∈ teamsH) (hf : f ∈ pointsH) : goodH (hs ++ [⟨s, p, t, f⟩]) := fun x hx => by
  rcases List.mem_append.1 hx with hx | hx
  · exact h x hx
  · rw [List.mem_singleton] at hx
    subst hx
    exact ⟨ht, hf⟩
theorem next_eq {i m : Int} (h0 : 0 ≤ i) (h : i < m) (hm : m ≤ 20) : IntKind.wrap .i64 (i + 1) = i + 1 := wrap_id (by omega) (by omega)
theorem len_push {hs : List Hon} {x : Hon} {i m : Int} (hi : (hs.length : Int) = i) (h : i < m) (hm : m ≤ 20) : ((hs ++ [x]).length : Int) = IntKind.wrap .i64 (i + 1) := by
  rw [next_eq (by omega) h hm, List.length_append]
  simp [hi]

theorem honoursS {Γ : Gl} (s : Src) (at_ m : Int) (h0 : 0 ≤ at_) (h1 : at_ < 1099511600000) (hm : 0 ≤ m) (hm2 : m ≤ 20) :
    FT prog Γ 15 #[.pointer (some ⟨1, 0, none⟩), .int .i64 m] (s.h at_) fun v h => ∃ hs t, goodH hs ∧ (hs.length : Int) = m ∧ (at_ ≤ t ∧ t ≤ at_ + 400) ∧ v = honV hs ∧ h = s.hon t hs := by
  refine FT.tidy (FT.body func15 rfl ?_)
  refine CT.seq ?_
  refine CT.ev KnownOk.none mixed noC_ok 1000 (by kernel_rfl) ?_
  refine CT.seq ?_
  refine CT.ev KnownOk.none mixed noC_ok 1000 (by kernel_rfl) ?_
  refine CT.seq ?_
  refine CT.ev KnownOk.none mixed noC_ok 1000 (by kernel_rfl) ?_
  refine CT.seq ?_
  refine CT.seq ?_
  refine CT.ev KnownOk.none mixed noC_ok 1000 (by kernel_rfl) ?_
  refine CT.block ?_
  refine CT.loopT (S := List Hon × Int × Int × Int × Int) (fun x => 20 - x.1.length) 54 (fun x => [(0, .pointer (some ⟨1, 0, none⟩)), (5, honV x.1), (6, .int .i64 x.2.1), (7, .int .i64 x.2.2.1), (9, .int .i64 m), (10, .int .i64 x.2.2.2.2)]) (fun x => s.hon x.2.2.2.1 x.1) (fun x => goodH x.1 ∧ (x.1.length : Int) = x.2.2.2.2 ∧ x.2.2.2.2 ≤ m ∧ at_ ≤ x.2.2.2.1 ∧ x.2.2.2.1 ≤ at_ + 20 * x.2.2.2.2) ([], 1, 0, at_, 0) rfl ⟨(fun x hx => by cases hx), rfl, hm, (by dsimp only; omega), (by dsimp only; omega)⟩ ⟨[0, 1], [.flat, .fix], rfl, rfl, ⟨⟨rfl, by kernel_rfl⟩, ⟨rfl, by kernel_rfl⟩, trivial⟩, by kernel_rfl, by kernel_rfl, ⟨⟨s.row_flat, by kernel_rfl⟩, ⟨⟨s.plain _ _ rfl, s.fix _ _ rfl⟩, by kernel_rfl⟩, trivial⟩, by kernel_rfl, by kernel_rfl, by kernel_rfl, ⟨⟨rfl, by kernel_rfl⟩, ⟨rfl, by kernel_rfl⟩, ⟨rfl, by kernel_rfl⟩, ⟨rfl, by kernel_rfl⟩, ⟨rfl, by kernel_rfl⟩, ⟨rfl, by kernel_rfl⟩, trivial⟩⟩ ?_
  rintro ⟨hs, se, pl, t, i⟩ ⟨hg, hi, him, ht1, ht2⟩ tail
  dsimp only at hg hi him ht1 ht2
  rcases hs with _ | ⟨hd, hs⟩
  · refine CT.seq ?_
    refine CT.ev KnownOk.none mixed noC_ok 1000 (by kernel_rfl) ?_
    refine CT.seq ?_
    refine CT.condD (i < m) rfl (by kernel_rfl) (fun hb0 => ?_) (fun hb0 => ?_)
    · refine CT.skip ?_
      refine CT.seq ?_
      refine CT.block ?_
      refine CT.seq ?_
      refine CT.ev KnownOk.none mixed noC_ok 1000 (by kernel_rfl) ?_
      refine CT.seq ?_
      refine CT.seq ?_
      refine CT.region [0, 1] rfl rfl ?_
      refine OT.evs KnownOk.none noC_ok [0] [1] (by kernel_rfl) ?_
      refine OT.callE [0, 1] [.flat, .fix] (flipS s (t) 2 (by omega) (by omega) (by omega) (by omega)) (by kernel_rfl) (by kernel_rfl) (by kernel_rfl) rfl (by kernel_rfl) (by kernel_rfl) ⟨⟨s.row_flat, by kernel_rfl⟩, ⟨⟨s.plain _ _ rfl, s.fix _ _ rfl⟩, by kernel_rfl⟩, trivial⟩ rfl rfl ?_
      rintro _ _ ⟨x1, rfl, rfl⟩
      refine ⟨[.keep, .fix], [], rfl, rfl, rfl, ⟨by kernel_rfl, ⟨s.pl _, s.fix _ _ rfl⟩, trivial⟩, trivial, rfl, ?_⟩
      refine OT.nil ?_
      refine CT.condB (x1) rfl (by kernel_rfl) (fun hb2 => ?_) (fun hb2 => ?_)
      · refine CT.region [0, 1, 2, 3, 4, 5, 6] rfl rfl ?_
        refine OT.evs KnownOk.none noC_ok [0, 1, 2] [3, 4, 5, 6] (by kernel_rfl) ?_
        refine OT.callE [0, 1, 3] [.flat, .fix, .flat] (pickS s (t + 1) [1, 1, 1, 2] 3 4 (by omega) (by omega) (by kernel_rfl) (by kernel_rfl)) (by kernel_rfl) (by kernel_rfl) (by kernel_rfl) rfl (by kernel_rfl) (by kernel_rfl) ⟨⟨s.row_flat, by kernel_rfl⟩, ⟨⟨s.plain _ _ rfl, s.fix _ _ rfl⟩, by kernel_rfl⟩, ⟨ints_flat _, by kernel_rfl⟩, trivial⟩ rfl rfl ?_
        rintro _ _ ⟨x3, hx3, rfl, rfl⟩
        refine ⟨[.keep, .fix, .keep], [], rfl, rfl, rfl, ⟨by kernel_rfl, ⟨s.pl _, s.fix _ _ rfl⟩, by kernel_rfl, trivial⟩, trivial, rfl, ?_⟩
        refine OT.evs KnownOk.none noC_ok [4, 5, 6] [] (by kernel_rfl) ?_
        refine OT.nil ?_
        refine CT.seq ?_
        refine CT.region [0, 1, 2, 3, 4, 5, 6, 7, 8, 9, 10, 11] rfl rfl ?_
        refine OT.evs KnownOk.none noC_ok [0, 1, 2, 3] [4, 5, 6, 7, 8, 9, 10, 11] (by kernel_rfl) ?_
        refine OT.callE [0, 1, 4] [.flat, .fix, .flat] (someS s (t + 1 + 1) [({ data := #[116, 97] }), ({ data := #[116, 97] }), ({ data := #[116, 98] }), ({ data := #[116, 99] })] 9 4 (by omega) (by omega) (by kernel_rfl) (by kernel_rfl)) (by kernel_rfl) (by kernel_rfl) (by kernel_rfl) rfl (by kernel_rfl) (by kernel_rfl) ⟨⟨s.row_flat, by kernel_rfl⟩, ⟨⟨s.plain _ _ rfl, s.fix _ _ rfl⟩, by kernel_rfl⟩, ⟨strs_flat _, by kernel_rfl⟩, trivial⟩ rfl rfl ?_
        rintro _ _ ⟨x4, hx4, rfl, rfl⟩
        refine ⟨[.keep, .fix, .keep], [], rfl, rfl, rfl, ⟨by kernel_rfl, ⟨s.pl _, s.fix _ _ rfl⟩, by kernel_rfl, trivial⟩, trivial, rfl, ?_⟩
        refine OT.evs KnownOk.none noC_ok [5, 6] [7, 8, 9, 10, 11] (by kernel_rfl) ?_
        refine OT.callE [0, 1, 5] [.flat, .fix, .flat] (pickS s (t + 1 + 1 + 1) [500, 725, 0, (-50)] 3 4 (by omega) (by omega) (by kernel_rfl) (by kernel_rfl)) (by kernel_rfl) (by kernel_rfl) (by kernel_rfl) rfl (by kernel_rfl) (by kernel_rfl) ⟨⟨s.row_flat, by kernel_rfl⟩, ⟨⟨s.plain _ _ rfl, s.fix _ _ rfl⟩, by kernel_rfl⟩, ⟨ints_flat _, by kernel_rfl⟩, trivial⟩ rfl rfl ?_
        rintro _ _ ⟨x5, hx5, rfl, rfl⟩
        refine ⟨[.keep, .fix, .keep], [], rfl, rfl, rfl, ⟨by kernel_rfl, ⟨s.pl _, s.fix _ _ rfl⟩, by kernel_rfl, trivial⟩, trivial, rfl, ?_⟩
        refine OT.callE [] [] (ofHS (x5) (by assumption)) (by kernel_rfl) (by kernel_rfl) (by kernel_rfl) rfl (by kernel_rfl) (by kernel_rfl) trivial rfl rfl ?_
        rintro _ _ ⟨x6, hx6, rfl, rfl⟩
        refine ⟨[], [], rfl, rfl, rfl, trivial, trivial, rfl, ?_⟩
        refine OT.evs KnownOk.none noC_ok [9, 10, 11] [] (by kernel_rfl) ?_
        refine OT.nil ?_
        refine CT.seq ?_
        refine CT.seq ?_
        refine CT.region [0, 1] rfl rfl ?_
        refine OT.evs KnownOk.none noC_ok [0] [1] (by kernel_rfl) ?_
        refine OT.callE [0, 1] [.flat, .fix] (flipS s (t + 1 + 1 + 1 + 1) 100 (by omega) (by omega) (by omega) (by omega)) (by kernel_rfl) (by kernel_rfl) (by kernel_rfl) rfl (by kernel_rfl) (by kernel_rfl) ⟨⟨s.row_flat, by kernel_rfl⟩, ⟨⟨s.plain _ _ rfl, s.fix _ _ rfl⟩, by kernel_rfl⟩, trivial⟩ rfl rfl ?_
        rintro _ _ ⟨x7, rfl, rfl⟩
        refine ⟨[.keep, .fix], [], rfl, rfl, rfl, ⟨by kernel_rfl, ⟨s.pl _, s.fix _ _ rfl⟩, trivial⟩, trivial, rfl, ?_⟩
        refine OT.nil ?_
        refine CT.condB (x7) rfl (by kernel_rfl) (fun hb8 => ?_) (fun hb8 => ?_)
        · refine CT.planX mixed [(0, true), (2, true), (4, true), (5, true), (6, true), (7, true), (9, true), (1, false), (11, true), (3, false), (8, false), (10, false), (12, false), (13, true), (14, false), (15, true), (16, false), (17, true), (18, false)] rfl (by kernel_rfl) (by kernel_rfl) ?_
          refine DX.evs [(0, true), (2, true), (4, true), (5, true), (6, true), (7, true), (9, true)] [(1, false), (11, true), (3, false), (8, false), (10, false), (12, false), (13, true), (14, false), (15, true), (16, false), (17, true), (18, false)] (by kernel_rfl) ?_
          refine DX.callE [0, 1] [.flat, .fix] (oddS s (t + 1 + 1 + 1 + 1 + 1) 1 200 (by omega) (by omega) (by omega) (by omega) (by omega)) (by kernel_rfl) (by kernel_rfl) (by kernel_rfl) rfl (by kernel_rfl) (by kernel_rfl) ⟨⟨s.row_flat, by kernel_rfl⟩, ⟨⟨s.plain _ _ rfl, s.fix _ _ rfl⟩, by kernel_rfl⟩, trivial⟩ rfl rfl ?_
          rintro _ _ ⟨x9, rfl, rfl⟩
          refine ⟨[.keep, .fix], [], rfl, rfl, rfl, ⟨by kernel_rfl, ⟨s.pl _, s.fix _ _ rfl⟩, trivial⟩, trivial, rfl, ?_⟩
          refine ⟨.inr (by kernel_rfl), ?_⟩
          refine DX.evs [(11, true)] [(3, false), (8, false), (10, false), (12, false), (13, true), (14, false), (15, true), (16, false), (17, true), (18, false)] (by kernel_rfl) ?_
          refine DX.callE [0, 1] [.flat, .fix] (oddS s (t + 1 + 1 + 1 + 1 + 1 + 1 + 1) 1 20 (by omega) (by omega) (by omega) (by omega) (by omega)) (by kernel_rfl) (by kernel_rfl) (by kernel_rfl) rfl (by kernel_rfl) (by kernel_rfl) ⟨⟨s.row_flat, by kernel_rfl⟩, ⟨⟨s.plain _ _ rfl, s.fix _ _ rfl⟩, by kernel_rfl⟩, trivial⟩ rfl rfl ?_
          rintro _ _ ⟨x10, rfl, rfl⟩
          refine ⟨[.keep, .fix], [], rfl, rfl, rfl, ⟨by kernel_rfl, ⟨s.pl _, s.fix _ _ rfl⟩, trivial⟩, trivial, rfl, ?_⟩
          refine ⟨.inr (by kernel_rfl), ?_⟩
          refine DX.callE [0, 1, 7] [.flat, .fix, .flat] (someS s (t + 1 + 1 + 1 + 1 + 1 + 1 + 1 + 1 + 1) [({ data := #[] }), (x4)] 9 2 (by omega) (by omega) (by kernel_rfl) (by kernel_rfl)) (by kernel_rfl) (by kernel_rfl) (by kernel_rfl) rfl (by kernel_rfl) (by kernel_rfl) ⟨⟨s.row_flat, by kernel_rfl⟩, ⟨⟨s.plain _ _ rfl, s.fix _ _ rfl⟩, by kernel_rfl⟩, ⟨strs_flat _, by kernel_rfl⟩, trivial⟩ rfl rfl ?_
          rintro _ _ ⟨x11, hx11, rfl, rfl⟩
          refine ⟨[.keep, .fix, .keep], [], rfl, rfl, rfl, ⟨by kernel_rfl, ⟨s.pl _, s.fix _ _ rfl⟩, by kernel_rfl, trivial⟩, trivial, rfl, ?_⟩
          refine ⟨.inr (by kernel_rfl), ?_⟩
          refine DX.callE [0, 1] [.flat, .fix] (worthS s (t + 1 + 1 + 1 + 1 + 1 + 1 + 1 + 1 + 1 + 1) (by omega) (by omega)) (by kernel_rfl) (by kernel_rfl) (by kernel_rfl) rfl (by kernel_rfl) (by kernel_rfl) ⟨⟨s.row_flat, by kernel_rfl⟩, ⟨⟨s.plain _ _ rfl, s.fix _ _ rfl⟩, by kernel_rfl⟩, trivial⟩ rfl rfl ?_
          rintro _ _ ⟨x12, t12, hx12, ht12, rfl, rfl⟩
          refine ⟨[.keep, .fix], [], rfl, rfl, rfl, ⟨by kernel_rfl, ⟨s.pl _, s.fix _ _ rfl⟩, trivial⟩, trivial, rfl, ?_⟩
          refine ⟨.inr (by kernel_rfl), ?_⟩
          refine DX.evs [(12, false), (13, true), (14, false), (15, true), (16, false), (17, true), (18, false)] [] (by kernel_rfl) ?_
          refine DX.nil ?_
          refine CT.region [0, 1, 2, 3, 4] rfl rfl ?_
          refine OT.evs KnownOk.none noC_ok [0, 1, 2, 3, 4] [] (by kernel_rfl) ?_
          refine OT.nil ?_
          refine CT.ev KnownOk.none mixed noC_ok 1000 (by kernel_rfl) ?_
          exact ⟨([] ++ [⟨(x9), (x10), (x11), ((x12.fst), (x12.snd))⟩], (Go.IntKind.i64.wrap (se + x3)), 1, (t12), (Go.IntKind.i64.wrap (i + 1))), (by simp only [List.length_append, List.length_cons, List.length_nil] at hi ⊢; omega), ⟨(by first | exact good_push hg (team4 (by assumption)) (List.mem_append_left _ (by assumption)) | exact good_push hg (team2 (by assumption) (team4 (by assumption))) (List.mem_append_right _ (by assumption))), len_push hi (by assumption) hm2, (by dsimp only; rw [next_eq (by omega) (by assumption) hm2]; omega), (by dsimp only; omega), (by dsimp only; rw [next_eq (by omega) (by assumption) hm2]; omega)⟩, [0, 1, 9], [.flat, .fix, .flat], rfl, rfl, ⟨⟨rfl, by kernel_rfl⟩, ⟨rfl, by kernel_rfl⟩, trivial⟩, by kernel_rfl, by kernel_rfl, ⟨⟨s.row_flat, by kernel_rfl⟩, ⟨⟨s.plain _ _ rfl, s.fix _ _ rfl⟩, by kernel_rfl⟩, ⟨encH_flat _, by kernel_rfl⟩, trivial⟩, by kernel_rfl, by kernel_rfl, by kernel_rfl, ⟨⟨rfl, by kernel_rfl⟩, ⟨rfl, by kernel_rfl⟩, ⟨rfl, by kernel_rfl⟩, ⟨rfl, by kernel_rfl⟩, ⟨rfl, by kernel_rfl⟩, ⟨rfl, by kernel_rfl⟩, trivial⟩⟩
        · refine CT.skip ?_
          refine CT.region [0, 1, 2, 3, 4] rfl rfl ?_
          refine OT.evs KnownOk.none noC_ok [0, 1, 2, 3, 4] [] (by kernel_rfl) ?_
          refine OT.nil ?_
          refine CT.ev KnownOk.none mixed noC_ok 1000 (by kernel_rfl) ?_
          exact ⟨([] ++ [⟨(Go.IntKind.i64.wrap (se + x3)), 1, (x4), ((x6.fst), (x6.snd))⟩], (Go.IntKind.i64.wrap (se + x3)), 1, (t + 1 + 1 + 1 + 1 + 1), (Go.IntKind.i64.wrap (i + 1))), (by simp only [List.length_append, List.length_cons, List.length_nil] at hi ⊢; omega), ⟨(by first | exact good_push hg (team4 (by assumption)) (List.mem_append_left _ (by assumption)) | exact good_push hg (team2 (by assumption) (team4 (by assumption))) (List.mem_append_right _ (by assumption))), len_push hi (by assumption) hm2, (by dsimp only; rw [next_eq (by omega) (by assumption) hm2]; omega), (by dsimp only; omega), (by dsimp only; rw [next_eq (by omega) (by assumption) hm2]; omega)⟩, [0, 1, 8], [.flat, .fix, .flat], rfl, rfl, ⟨⟨rfl, by kernel_rfl⟩, ⟨rfl, by kernel_rfl⟩, trivial⟩, by kernel_rfl, by kernel_rfl, ⟨⟨s.row_flat, by kernel_rfl⟩, ⟨⟨s.plain _ _ rfl, s.fix _ _ rfl⟩, by kernel_rfl⟩, ⟨encH_flat _, by kernel_rfl⟩, trivial⟩, by kernel_rfl, by kernel_rfl, by kernel_rfl, ⟨⟨rfl, by kernel_rfl⟩, ⟨rfl, by kernel_rfl⟩, ⟨rfl, by kernel_rfl⟩, ⟨rfl, by kernel_rfl⟩, ⟨rfl, by kernel_rfl⟩, ⟨rfl, by kernel_rfl⟩, trivial⟩⟩
      · refine CT.skip ?_
        refine CT.seq ?_
        refine CT.region [0, 1, 2, 3, 4, 5, 6, 7, 8, 9, 10, 11] rfl rfl ?_
        refine OT.evs KnownOk.none noC_ok [0, 1, 2, 3] [4, 5, 6, 7, 8, 9, 10, 11] (by kernel_rfl) ?_
        refine OT.callE [0, 1, 3] [.flat, .fix, .flat] (someS s (t + 1) [({ data := #[116, 97] }), ({ data := #[116, 97] }), ({ data := #[116, 98] }), ({ data := #[116, 99] })] 9 4 (by omega) (by omega) (by kernel_rfl) (by kernel_rfl)) (by kernel_rfl) (by kernel_rfl) (by kernel_rfl) rfl (by kernel_rfl) (by kernel_rfl) ⟨⟨s.row_flat, by kernel_rfl⟩, ⟨⟨s.plain _ _ rfl, s.fix _ _ rfl⟩, by kernel_rfl⟩, ⟨strs_flat _, by kernel_rfl⟩, trivial⟩ rfl rfl ?_
        rintro _ _ ⟨x13, hx13, rfl, rfl⟩
        refine ⟨[.keep, .fix, .keep], [], rfl, rfl, rfl, ⟨by kernel_rfl, ⟨s.pl _, s.fix _ _ rfl⟩, by kernel_rfl, trivial⟩, trivial, rfl, ?_⟩
        refine OT.evs KnownOk.none noC_ok [5, 6] [7, 8, 9, 10, 11] (by kernel_rfl) ?_
        refine OT.callE [0, 1, 4] [.flat, .fix, .flat] (pickS s (t + 1 + 1) [500, 725, 0, (-50)] 3 4 (by omega) (by omega) (by kernel_rfl) (by kernel_rfl)) (by kernel_rfl) (by kernel_rfl) (by kernel_rfl) rfl (by kernel_rfl) (by kernel_rfl) ⟨⟨s.row_flat, by kernel_rfl⟩, ⟨⟨s.plain _ _ rfl, s.fix _ _ rfl⟩, by kernel_rfl⟩, ⟨ints_flat _, by kernel_rfl⟩, trivial⟩ rfl rfl ?_
        rintro _ _ ⟨x14, hx14, rfl, rfl⟩
        refine ⟨[.keep, .fix, .keep], [], rfl, rfl, rfl, ⟨by kernel_rfl, ⟨s.pl _, s.fix _ _ rfl⟩, by kernel_rfl, trivial⟩, trivial, rfl, ?_⟩
        refine OT.callE [] [] (ofHS (x14) (by assumption)) (by kernel_rfl) (by kernel_rfl) (by kernel_rfl) rfl (by kernel_rfl) (by kernel_rfl) trivial rfl rfl ?_
        rintro _ _ ⟨x15, hx15, rfl, rfl⟩
        refine ⟨[], [], rfl, rfl, rfl, trivial, trivial, rfl, ?_⟩
        refine OT.evs KnownOk.none noC_ok [9, 10, 11] [] (by kernel_rfl) ?_
        refine OT.nil ?_
        refine CT.seq ?_
        refine CT.seq ?_
        refine CT.region [0, 1] rfl rfl ?_
        refine OT.evs KnownOk.none noC_ok [0] [1] (by kernel_rfl) ?_
        refine OT.callE [0, 1] [.flat, .fix] (flipS s (t + 1 + 1 + 1) 100 (by omega) (by omega) (by omega) (by omega)) (by kernel_rfl) (by kernel_rfl) (by kernel_rfl) rfl (by kernel_rfl) (by kernel_rfl) ⟨⟨s.row_flat, by kernel_rfl⟩, ⟨⟨s.plain _ _ rfl, s.fix _ _ rfl⟩, by kernel_rfl⟩, trivial⟩ rfl rfl ?_
        rintro _ _ ⟨x16, rfl, rfl⟩
        refine ⟨[.keep, .fix], [], rfl, rfl, rfl, ⟨by kernel_rfl, ⟨s.pl _, s.fix _ _ rfl⟩, trivial⟩, trivial, rfl, ?_⟩
        refine OT.nil ?_
        refine CT.condB (x16) rfl (by kernel_rfl) (fun hb17 => ?_) (fun hb17 => ?_)
        · refine CT.planX mixed [(0, true), (2, true), (4, true), (5, true), (6, true), (7, true), (9, true), (1, false), (11, true), (3, false), (8, false), (10, false), (12, false), (13, true), (14, false), (15, true), (16, false), (17, true), (18, false)] rfl (by kernel_rfl) (by kernel_rfl) ?_
          refine DX.evs [(0, true), (2, true), (4, true), (5, true), (6, true), (7, true), (9, true)] [(1, false), (11, true), (3, false), (8, false), (10, false), (12, false), (13, true), (14, false), (15, true), (16, false), (17, true), (18, false)] (by kernel_rfl) ?_
          refine DX.callE [0, 1] [.flat, .fix] (oddS s (t + 1 + 1 + 1 + 1) 1 200 (by omega) (by omega) (by omega) (by omega) (by omega)) (by kernel_rfl) (by kernel_rfl) (by kernel_rfl) rfl (by kernel_rfl) (by kernel_rfl) ⟨⟨s.row_flat, by kernel_rfl⟩, ⟨⟨s.plain _ _ rfl, s.fix _ _ rfl⟩, by kernel_rfl⟩, trivial⟩ rfl rfl ?_
          rintro _ _ ⟨x18, rfl, rfl⟩
          refine ⟨[.keep, .fix], [], rfl, rfl, rfl, ⟨by kernel_rfl, ⟨s.pl _, s.fix _ _ rfl⟩, trivial⟩, trivial, rfl, ?_⟩
          refine ⟨.inr (by kernel_rfl), ?_⟩
          refine DX.evs [(11, true)] [(3, false), (8, false), (10, false), (12, false), (13, true), (14, false), (15, true), (16, false), (17, true), (18, false)] (by kernel_rfl) ?_
          refine DX.callE [0, 1] [.flat, .fix] (oddS s (t + 1 + 1 + 1 + 1 + 1 + 1) 1 20 (by omega) (by omega) (by omega) (by omega) (by omega)) (by kernel_rfl) (by kernel_rfl) (by kernel_rfl) rfl (by kernel_rfl) (by kernel_rfl) ⟨⟨s.row_flat, by kernel_rfl⟩, ⟨⟨s.plain _ _ rfl, s.fix _ _ rfl⟩, by kernel_rfl⟩, trivial⟩ rfl rfl ?_
          rintro _ _ ⟨x19, rfl, rfl⟩
          refine ⟨[.keep, .fix], [], rfl, rfl, rfl, ⟨by kernel_rfl, ⟨s.pl _, s.fix _ _ rfl⟩, trivial⟩, trivial, rfl, ?_⟩
          refine ⟨.inr (by kernel_rfl), ?_⟩
          refine DX.callE [0, 1, 6] [.flat, .fix, .flat] (someS s (t + 1 + 1 + 1 + 1 + 1 + 1 + 1 + 1) [({ data := #[] }), (x13)] 9 2 (by omega) (by omega) (by kernel_rfl) (by kernel_rfl)) (by kernel_rfl) (by kernel_rfl) (by kernel_rfl) rfl (by kernel_rfl) (by kernel_rfl) ⟨⟨s.row_flat, by kernel_rfl⟩, ⟨⟨s.plain _ _ rfl, s.fix _ _ rfl⟩, by kernel_rfl⟩, ⟨strs_flat _, by kernel_rfl⟩, trivial⟩ rfl rfl ?_
          rintro _ _ ⟨x20, hx20, rfl, rfl⟩
          refine ⟨[.keep, .fix, .keep], [], rfl, rfl, rfl, ⟨by kernel_rfl, ⟨s.pl _, s.fix _ _ rfl⟩, by kernel_rfl, trivial⟩, trivial, rfl, ?_⟩
          refine ⟨.inr (by kernel_rfl), ?_⟩
          refine DX.callE [0, 1] [.flat, .fix] (worthS s (t + 1 + 1 + 1 + 1 + 1 + 1 + 1 + 1 + 1) (by omega) (by omega)) (by kernel_rfl) (by kernel_rfl) (by kernel_rfl) rfl (by kernel_rfl) (by kernel_rfl) ⟨⟨s.row_flat, by kernel_rfl⟩, ⟨⟨s.plain _ _ rfl, s.fix _ _ rfl⟩, by kernel_rfl⟩, trivial⟩ rfl rfl ?_
          rintro _ _ ⟨x21, t21, hx21, ht21, rfl, rfl⟩
          refine ⟨[.keep, .fix], [], rfl, rfl, rfl, ⟨by kernel_rfl, ⟨s.pl _, s.fix _ _ rfl⟩, trivial⟩, trivial, rfl, ?_⟩
          refine ⟨.inr (by kernel_rfl), ?_⟩
          refine DX.evs [(12, false), (13, true), (14, false), (15, true), (16, false), (17, true), (18, false)] [] (by kernel_rfl) ?_
          refine DX.nil ?_
          refine CT.region [0, 1, 2, 3, 4] rfl rfl ?_
          refine OT.evs KnownOk.none noC_ok [0, 1, 2, 3, 4] [] (by kernel_rfl) ?_
          refine OT.nil ?_
          refine CT.ev KnownOk.none mixed noC_ok 1000 (by kernel_rfl) ?_
          exact ⟨([] ++ [⟨(x18), (x19), (x20), ((x21.fst), (x21.snd))⟩], (se), (Go.IntKind.i64.wrap (pl + 1)), (t21), (Go.IntKind.i64.wrap (i + 1))), (by simp only [List.length_append, List.length_cons, List.length_nil] at hi ⊢; omega), ⟨(by first | exact good_push hg (team4 (by assumption)) (List.mem_append_left _ (by assumption)) | exact good_push hg (team2 (by assumption) (team4 (by assumption))) (List.mem_append_right _ (by assumption))), len_push hi (by assumption) hm2, (by dsimp only; rw [next_eq (by omega) (by assumption) hm2]; omega), (by dsimp only; omega), (by dsimp only; rw [next_eq (by omega) (by assumption) hm2]; omega)⟩, [0, 1, 8], [.flat, .fix, .flat], rfl, rfl, ⟨⟨rfl, by kernel_rfl⟩, ⟨rfl, by kernel_rfl⟩, trivial⟩, by kernel_rfl, by kernel_rfl, ⟨⟨s.row_flat, by kernel_rfl⟩, ⟨⟨s.plain _ _ rfl, s.fix _ _ rfl⟩, by kernel_rfl⟩, ⟨encH_flat _, by kernel_rfl⟩, trivial⟩, by kernel_rfl, by kernel_rfl, by kernel_rfl, ⟨⟨rfl, by kernel_rfl⟩, ⟨rfl, by kernel_rfl⟩, ⟨rfl, by kernel_rfl⟩, ⟨rfl, by kernel_rfl⟩, ⟨rfl, by kernel_rfl⟩, ⟨rfl, by kernel_rfl⟩, trivial⟩⟩
        · refine CT.skip ?_
          refine CT.region [0, 1, 2, 3, 4] rfl rfl ?_
          refine OT.evs KnownOk.none noC_ok [0, 1, 2, 3, 4] [] (by kernel_rfl) ?_
          refine OT.nil ?_
          refine CT.ev KnownOk.none mixed noC_ok 1000 (by kernel_rfl) ?_
          exact ⟨([] ++ [⟨(se), (Go.IntKind.i64.wrap (pl + 1)), (x13), ((x15.fst), (x15.snd))⟩], (se), (Go.IntKind.i64.wrap (pl + 1)), (t + 1 + 1 + 1 + 1), (Go.IntKind.i64.wrap (i + 1))), (by simp only [List.length_append, List.length_cons, List.length_nil] at hi ⊢; omega), ⟨(by first | exact good_push hg (team4 (by assumption)) (List.mem_append_left _ (by assumption)) | exact good_push hg (team2 (by assumption) (team4 (by assumption))) (List.mem_append_right _ (by assumption))), len_push hi (by assumption) hm2, (by dsimp only; rw [next_eq (by omega) (by assumption) hm2]; omega), (by dsimp only; omega), (by dsimp only; rw [next_eq (by omega) (by assumption) hm2]; omega)⟩, [0, 1, 7], [.flat, .fix, .flat], rfl, rfl, ⟨⟨rfl, by kernel_rfl⟩, ⟨rfl, by kernel_rfl⟩, trivial⟩, by kernel_rfl, by kernel_rfl, ⟨⟨s.row_flat, by kernel_rfl⟩, ⟨⟨s.plain _ _ rfl, s.fix _ _ rfl⟩, by kernel_rfl⟩, ⟨encH_flat _, by kernel_rfl⟩, trivial⟩, by kernel_rfl, by kernel_rfl, by kernel_rfl, ⟨⟨rfl, by kernel_rfl⟩, ⟨rfl, by kernel_rfl⟩, ⟨rfl, by kernel_rfl⟩, ⟨rfl, by kernel_rfl⟩, ⟨rfl, by kernel_rfl⟩, ⟨rfl, by kernel_rfl⟩, trivial⟩⟩
    · refine CT.exit ?_
      refine CT.seq ?_
      refine CT.ev KnownOk.none mixed noC_ok 1000 (by kernel_rfl) ?_
      refine CT.ret (retQ (by kernel_rfl) ?_)
      exact ⟨honV [], s.hon t [], [0, 1], [.flat, .fix], rfl, rfl, ⟨⟨rfl, by kernel_rfl⟩, ⟨rfl, by kernel_rfl⟩, trivial⟩, by kernel_rfl, by kernel_rfl, ⟨⟨s.row_flat, by kernel_rfl⟩, ⟨⟨s.plain _ _ rfl, s.fix _ _ rfl⟩, by kernel_rfl⟩, trivial⟩, rfl, rfl, by kernel_rfl, [], t, hg, by omega, ⟨by omega, by omega⟩, rfl, rfl⟩
  · refine CT.seq ?_
    refine CT.ev KnownOk.none mixed noC_ok 1000 (by kernel_rfl) ?_
    refine CT.seq ?_
    refine CT.condD (i < m) rfl (by kernel_rfl) (fun hb22 => ?_) (fun hb22 => ?_)
    · refine CT.skip ?_
      refine CT.seq ?_
      refine CT.block ?_
      refine CT.seq ?_
      refine CT.ev KnownOk.none mixed noC_ok 1000 (by kernel_rfl) ?_
      refine CT.seq ?_
      refine CT.seq ?_
      refine CT.region [0, 1] rfl rfl ?_
      refine OT.evs KnownOk.none noC_ok [0] [1] (by kernel_rfl) ?_
      refine OT.callE [0, 1] [.flat, .fix] (flipS s (t) 2 (by omega) (by omega) (by omega) (by omega)) (by kernel_rfl) (by kernel_rfl) (by kernel_rfl) rfl (by kernel_rfl) (by kernel_rfl) ⟨⟨s.row_flat, by kernel_rfl⟩, ⟨⟨s.plain _ _ rfl, s.fix _ _ rfl⟩, by kernel_rfl⟩, trivial⟩ rfl rfl ?_
      rintro _ _ ⟨x23, rfl, rfl⟩
      refine ⟨[.keep, .fix], [], rfl, rfl, rfl, ⟨by kernel_rfl, ⟨s.pl _, s.fix _ _ rfl⟩, trivial⟩, trivial, rfl, ?_⟩
      refine OT.nil ?_
      refine CT.condB (x23) rfl (by kernel_rfl) (fun hb24 => ?_) (fun hb24 => ?_)
      · refine CT.region [0, 1, 2, 3, 4, 5, 6] rfl rfl ?_
        refine OT.evs KnownOk.none noC_ok [0, 1, 2] [3, 4, 5, 6] (by kernel_rfl) ?_
        refine OT.callE [0, 1, 4] [.flat, .fix, .flat] (pickS s (t + 1) [1, 1, 1, 2] 3 4 (by omega) (by omega) (by kernel_rfl) (by kernel_rfl)) (by kernel_rfl) (by kernel_rfl) (by kernel_rfl) rfl (by kernel_rfl) (by kernel_rfl) ⟨⟨s.row_flat, by kernel_rfl⟩, ⟨⟨s.plain _ _ rfl, s.fix _ _ rfl⟩, by kernel_rfl⟩, ⟨ints_flat _, by kernel_rfl⟩, trivial⟩ rfl rfl ?_
        rintro _ _ ⟨x25, hx25, rfl, rfl⟩
        refine ⟨[.keep, .fix, .keep], [], rfl, rfl, rfl, ⟨by kernel_rfl, ⟨s.pl _, s.fix _ _ rfl⟩, by kernel_rfl, trivial⟩, trivial, rfl, ?_⟩
        refine OT.evs KnownOk.none noC_ok [4, 5, 6] [] (by kernel_rfl) ?_
        refine OT.nil ?_
        refine CT.seq ?_
        refine CT.region [0, 1, 2, 3, 4, 5, 6, 7, 8, 9, 10, 11] rfl rfl ?_
        refine OT.evs KnownOk.none noC_ok [0, 1, 2, 3] [4, 5, 6, 7, 8, 9, 10, 11] (by kernel_rfl) ?_
        refine OT.callE [0, 1, 5] [.flat, .fix, .flat] (someS s (t + 1 + 1) [({ data := #[116, 97] }), ({ data := #[116, 97] }), ({ data := #[116, 98] }), ({ data := #[116, 99] })] 9 4 (by omega) (by omega) (by kernel_rfl) (by kernel_rfl)) (by kernel_rfl) (by kernel_rfl) (by kernel_rfl) rfl (by kernel_rfl) (by kernel_rfl) ⟨⟨s.row_flat, by kernel_rfl⟩, ⟨⟨s.plain _ _ rfl, s.fix _ _ rfl⟩, by kernel_rfl⟩, ⟨strs_flat _, by kernel_rfl⟩, trivial⟩ rfl rfl ?_
        rintro _ _ ⟨x26, hx26, rfl, rfl⟩
        refine ⟨[.keep, .fix, .keep], [], rfl, rfl, rfl, ⟨by kernel_rfl, ⟨s.pl _, s.fix _ _ rfl⟩, by kernel_rfl, trivial⟩, trivial, rfl, ?_⟩
        refine OT.evs KnownOk.none noC_ok [5, 6] [7, 8, 9, 10, 11] (by kernel_rfl) ?_
        refine OT.callE [0, 1, 6] [.flat, .fix, .flat] (pickS s (t + 1 + 1 + 1) [500, 725, 0, (-50)] 3 4 (by omega) (by omega) (by kernel_rfl) (by kernel_rfl)) (by kernel_rfl) (by kernel_rfl) (by kernel_rfl) rfl (by kernel_rfl) (by kernel_rfl) ⟨⟨s.row_flat, by kernel_rfl⟩, ⟨⟨s.plain _ _ rfl, s.fix _ _ rfl⟩, by kernel_rfl⟩, ⟨ints_flat _, by kernel_rfl⟩, trivial⟩ rfl rfl ?_
        rintro _ _ ⟨x27, hx27, rfl, rfl⟩
        refine ⟨[.keep, .fix, .keep], [], rfl, rfl, rfl, ⟨by kernel_rfl, ⟨s.pl _, s.fix _ _ rfl⟩, by kernel_rfl, trivial⟩, trivial, rfl, ?_⟩
        refine OT.callE [] [] (ofHS (x27) (by assumption)) (by kernel_rfl) (by kernel_rfl) (by kernel_rfl) rfl (by kernel_rfl) (by kernel_rfl) trivial rfl rfl ?_
        rintro _ _ ⟨x28, hx28, rfl, rfl⟩
        refine ⟨[], [], rfl, rfl, rfl, trivial, trivial, rfl, ?_⟩
        refine OT.evs KnownOk.none noC_ok [9, 10, 11] [] (by kernel_rfl) ?_
        refine OT.nil ?_
        refine CT.seq ?_
        refine CT.seq ?_
        refine CT.region [0, 1] rfl rfl ?_
        refine OT.evs KnownOk.none noC_ok [0] [1] (by kernel_rfl) ?_
        refine OT.callE [0, 1] [.flat, .fix] (flipS s (t + 1 + 1 + 1 + 1) 100 (by omega) (by omega) (by omega) (by omega)) (by kernel_rfl) (by kernel_rfl) (by kernel_rfl) rfl (by kernel_rfl) (by kernel_rfl) ⟨⟨s.row_flat, by kernel_rfl⟩, ⟨⟨s.plain _ _ rfl, s.fix _ _ rfl⟩, by kernel_rfl⟩, trivial⟩ rfl rfl ?_
        rintro _ _ ⟨x29, rfl, rfl⟩
        refine ⟨[.keep, .fix], [], rfl, rfl, rfl, ⟨by kernel_rfl, ⟨s.pl _, s.fix _ _ rfl⟩, trivial⟩, trivial, rfl, ?_⟩
        refine OT.nil ?_
        refine CT.condB (x29) rfl (by kernel_rfl) (fun hb30 => ?_) (fun hb30 => ?_)
        · refine CT.planX mixed [(0, true), (2, true), (4, true), (5, true), (6, true), (7, true), (9, true), (1, false), (11, true), (3, false), (8, false), (10, false), (12, false), (13, true), (14, false), (15, true), (16, false), (17, true), (18, false)] rfl (by kernel_rfl) (by kernel_rfl) ?_
          refine DX.evs [(0, true), (2, true), (4, true), (5, true), (6, true), (7, true), (9, true)] [(1, false), (11, true), (3, false), (8, false), (10, false), (12, false), (13, true), (14, false), (15, true), (16, false), (17, true), (18, false)] (by kernel_rfl) ?_
          refine DX.callE [0, 1] [.flat, .fix] (oddS s (t + 1 + 1 + 1 + 1 + 1) 1 200 (by omega) (by omega) (by omega) (by omega) (by omega)) (by kernel_rfl) (by kernel_rfl) (by kernel_rfl) rfl (by kernel_rfl) (by kernel_rfl) ⟨⟨s.row_flat, by kernel_rfl⟩, ⟨⟨s.plain _ _ rfl, s.fix _ _ rfl⟩, by kernel_rfl⟩, trivial⟩ rfl rfl ?_
          rintro _ _ ⟨x31, rfl, rfl⟩
          refine ⟨[.keep, .fix], [], rfl, rfl, rfl, ⟨by kernel_rfl, ⟨s.pl _, s.fix _ _ rfl⟩, trivial⟩, trivial, rfl, ?_⟩
          refine ⟨.inr (by kernel_rfl), ?_⟩
          refine DX.evs [(11, true)] [(3, false), (8, false), (10, false), (12, false), (13, true), (14, false), (15, true), (16, false), (17, true), (18, false)] (by kernel_rfl) ?_
          refine DX.callE [0, 1] [.flat, .fix] (oddS s (t + 1 + 1 + 1 + 1 + 1 + 1 + 1) 1 20 (by omega) (by omega) (by omega) (by omega) (by omega)) (by kernel_rfl) (by kernel_rfl) (by kernel_rfl) rfl (by kernel_rfl) (by kernel_rfl) ⟨⟨s.row_flat, by kernel_rfl⟩, ⟨⟨s.plain _ _ rfl, s.fix _ _ rfl⟩, by kernel_rfl⟩, trivial⟩ rfl rfl ?_
          rintro _ _ ⟨x32, rfl, rfl⟩
          refine ⟨[.keep, .fix], [], rfl, rfl, rfl, ⟨by kernel_rfl, ⟨s.pl _, s.fix _ _ rfl⟩, trivial⟩, trivial, rfl, ?_⟩
          refine ⟨.inr (by kernel_rfl), ?_⟩
          refine DX.callE [0, 1, 8] [.flat, .fix, .flat] (someS s (t + 1 + 1 + 1 + 1 + 1 + 1 + 1 + 1 + 1) [({ data := #[] }), (x26)] 9 2 (by omega) (by omega) (by kernel_rfl) (by kernel_rfl)) (by kernel_rfl) (by kernel_rfl) (by kernel_rfl) rfl (by kernel_rfl) (by kernel_rfl) ⟨⟨s.row_flat, by kernel_rfl⟩, ⟨⟨s.plain _ _ rfl, s.fix _ _ rfl⟩, by kernel_rfl⟩, ⟨strs_flat _, by kernel_rfl⟩, trivial⟩ rfl rfl ?_
          rintro _ _ ⟨x33, hx33, rfl, rfl⟩
          refine ⟨[.keep, .fix, .keep], [], rfl, rfl, rfl, ⟨by kernel_rfl, ⟨s.pl _, s.fix _ _ rfl⟩, by kernel_rfl, trivial⟩, trivial, rfl, ?_⟩
          refine ⟨.inr (by kernel_rfl), ?_⟩
          refine DX.callE [0, 1] [.flat, .fix] (worthS s (t + 1 + 1 + 1 + 1 + 1 + 1 + 1 + 1 + 1 + 1) (by omega) (by omega)) (by kernel_rfl) (by kernel_rfl) (by kernel_rfl) rfl (by kernel_rfl) (by kernel_rfl) ⟨⟨s.row_flat, by kernel_rfl⟩, ⟨⟨s.plain _ _ rfl, s.fix _ _ rfl⟩, by kernel_rfl⟩, trivial⟩ rfl rfl ?_
          rintro _ _ ⟨x34, t34, hx34, ht34, rfl, rfl⟩
          refine ⟨[.keep, .fix], [], rfl, rfl, rfl, ⟨by kernel_rfl, ⟨s.pl _, s.fix _ _ rfl⟩, trivial⟩, trivial, rfl, ?_⟩
          refine ⟨.inr (by kernel_rfl), ?_⟩
          refine DX.evs [(12, false), (13, true), (14, false), (15, true), (16, false), (17, true), (18, false)] [] (by kernel_rfl) ?_
          refine DX.nil ?_
          refine CT.region [0, 1, 2, 3, 4] rfl rfl ?_
          refine OT.evs KnownOk.none noC_ok [0, 1, 2] [3, 4] (by kernel_rfl) ?_
          refine OT.appendRow encH (hd :: hs) ⟨(x31), (x32), (x33), ((x34.fst), (x34.snd))⟩ 2 (hd :: hs).length 5 48 (by kernel_rfl) (by kernel_rfl) (by kernel_rfl) (by kernel_rfl) (by kernel_rfl) encH_len rfl (by omega) (by omega) ?_
          refine OT.evs KnownOk.none noC_ok [4] [] (by kernel_rfl) ?_
          refine OT.nil ?_
          refine CT.ev KnownOk.none mixed noC_ok 1000 (by kernel_rfl) ?_
          exact ⟨((hd :: hs) ++ [⟨(x31), (x32), (x33), ((x34.fst), (x34.snd))⟩], (Go.IntKind.i64.wrap (se + x25)), 1, (t34), (Go.IntKind.i64.wrap (i + 1))), (by simp only [List.length_append, List.length_cons, List.length_nil] at hi ⊢; omega), ⟨(by first | exact good_push hg (team4 (by assumption)) (List.mem_append_left _ (by assumption)) | exact good_push hg (team2 (by assumption) (team4 (by assumption))) (List.mem_append_right _ (by assumption))), len_push hi (by assumption) hm2, (by dsimp only; rw [next_eq (by omega) (by assumption) hm2]; omega), (by dsimp only; omega), (by dsimp only; rw [next_eq (by omega) (by assumption) hm2]; omega)⟩, [0, 1, 10], [.flat, .fix, .flat], rfl, rfl, ⟨⟨rfl, by kernel_rfl⟩, ⟨rfl, by kernel_rfl⟩, trivial⟩, by kernel_rfl, by kernel_rfl, ⟨⟨s.row_flat, by kernel_rfl⟩, ⟨⟨s.plain _ _ rfl, s.fix _ _ rfl⟩, by kernel_rfl⟩, ⟨encH_flat _, by kernel_rfl⟩, trivial⟩, by kernel_rfl, by kernel_rfl, by kernel_rfl, ⟨⟨rfl, by kernel_rfl⟩, ⟨rfl, by kernel_rfl⟩, ⟨rfl, by kernel_rfl⟩, ⟨rfl, by kernel_rfl⟩, ⟨rfl, by kernel_rfl⟩, ⟨rfl, by kernel_rfl⟩, trivial⟩⟩
        · refine CT.skip ?_
          refine CT.region [0, 1, 2, 3, 4] rfl rfl ?_
          refine OT.evs KnownOk.none noC_ok [0, 1, 2] [3, 4] (by kernel_rfl) ?_
          refine OT.appendRow encH (hd :: hs) ⟨(Go.IntKind.i64.wrap (se + x25)), 1, (x26), ((x28.fst), (x28.snd))⟩ 2 (hd :: hs).length 5 48 (by kernel_rfl) (by kernel_rfl) (by kernel_rfl) (by kernel_rfl) (by kernel_rfl) encH_len rfl (by omega) (by omega) ?_
          refine OT.evs KnownOk.none noC_ok [4] [] (by kernel_rfl) ?_
          refine OT.nil ?_
          refine CT.ev KnownOk.none mixed noC_ok 1000 (by kernel_rfl) ?_
          exact ⟨((hd :: hs) ++ [⟨(Go.IntKind.i64.wrap (se + x25)), 1, (x26), ((x28.fst), (x28.snd))⟩], (Go.IntKind.i64.wrap (se + x25)), 1, (t + 1 + 1 + 1 + 1 + 1), (Go.IntKind.i64.wrap (i + 1))), (by simp only [List.length_append, List.length_cons, List.length_nil] at hi ⊢; omega), ⟨(by first | exact good_push hg (team4 (by assumption)) (List.mem_append_left _ (by assumption)) | exact good_push hg (team2 (by assumption) (team4 (by assumption))) (List.mem_append_right _ (by assumption))), len_push hi (by assumption) hm2, (by dsimp only; rw [next_eq (by omega) (by assumption) hm2]; omega), (by dsimp only; omega), (by dsimp only; rw [next_eq (by omega) (by assumption) hm2]; omega)⟩, [0, 1, 9], [.flat, .fix, .flat], rfl, rfl, ⟨⟨rfl, by kernel_rfl⟩, ⟨rfl, by kernel_rfl⟩, trivial⟩, by kernel_rfl, by kernel_rfl, ⟨⟨s.row_flat, by kernel_rfl⟩, ⟨⟨s.plain _ _ rfl, s.fix _ _ rfl⟩, by kernel_rfl⟩, ⟨encH_flat _, by kernel_rfl⟩, trivial⟩, by kernel_rfl, by kernel_rfl, by kernel_rfl, ⟨⟨rfl, by kernel_rfl⟩, ⟨rfl, by kernel_rfl⟩, ⟨rfl, by kernel_rfl⟩, ⟨rfl, by kernel_rfl⟩, ⟨rfl, by kernel_rfl⟩, ⟨rfl, by kernel_rfl⟩, trivial⟩⟩
      · refine CT.skip ?_
        refine CT.seq ?_
        refine CT.region [0, 1, 2, 3, 4, 5, 6, 7, 8, 9, 10, 11] rfl rfl ?_
        refine OT.evs KnownOk.none noC_ok [0, 1, 2, 3] [4, 5, 6, 7, 8, 9, 10, 11] (by kernel_rfl) ?_
        refine OT.callE [0, 1, 4] [.flat, .fix, .flat] (someS s (t + 1) [({ data := #[116, 97] }), ({ data := #[116, 97] }), ({ data := #[116, 98] }), ({ data := #[116, 99] })] 9 4 (by omega) (by omega) (by kernel_rfl) (by kernel_rfl)) (by kernel_rfl) (by kernel_rfl) (by kernel_rfl) rfl (by kernel_rfl) (by kernel_rfl) ⟨⟨s.row_flat, by kernel_rfl⟩, ⟨⟨s.plain _ _ rfl, s.fix _ _ rfl⟩, by kernel_rfl⟩, ⟨strs_flat _, by kernel_rfl⟩, trivial⟩ rfl rfl ?_
        rintro _ _ ⟨x37, hx37, rfl, rfl⟩
        refine ⟨[.keep, .fix, .keep], [], rfl, rfl, rfl, ⟨by kernel_rfl, ⟨s.pl _, s.fix _ _ rfl⟩, by kernel_rfl, trivial⟩, trivial, rfl, ?_⟩
        refine OT.evs KnownOk.none noC_ok [5, 6] [7, 8, 9, 10, 11] (by kernel_rfl) ?_
        refine OT.callE [0, 1, 5] [.flat, .fix, .flat] (pickS s (t + 1 + 1) [500, 725, 0, (-50)] 3 4 (by omega) (by omega) (by kernel_rfl) (by kernel_rfl)) (by kernel_rfl) (by kernel_rfl) (by kernel_rfl) rfl (by kernel_rfl) (by kernel_rfl) ⟨⟨s.row_flat, by kernel_rfl⟩, ⟨⟨s.plain _ _ rfl, s.fix _ _ rfl⟩, by kernel_rfl⟩, ⟨ints_flat _, by kernel_rfl⟩, trivial⟩ rfl rfl ?_
        rintro _ _ ⟨x38, hx38, rfl, rfl⟩
        refine ⟨[.keep, .fix, .keep], [], rfl, rfl, rfl, ⟨by kernel_rfl, ⟨s.pl _, s.fix _ _ rfl⟩, by kernel_rfl, trivial⟩, trivial, rfl, ?_⟩
        refine OT.callE [] [] (ofHS (x38) (by assumption)) (by kernel_rfl) (by kernel_rfl) (by kernel_rfl) rfl (by kernel_rfl) (by kernel_rfl) trivial rfl rfl ?_
        rintro _ _ ⟨x39, hx39, rfl, rfl⟩
        refine ⟨[], [], rfl, rfl, rfl, trivial, trivial, rfl, ?_⟩
        refine OT.evs KnownOk.none noC_ok [9, 10, 11] [] (by kernel_rfl) ?_
        refine OT.nil ?_
        refine CT.seq ?_
        refine CT.seq ?_
        refine CT.region [0, 1] rfl rfl ?_
        refine OT.evs KnownOk.none noC_ok [0] [1] (by kernel_rfl) ?_
        refine OT.callE [0, 1] [.flat, .fix] (flipS s (t + 1 + 1 + 1) 100 (by omega) (by omega) (by omega) (by omega)) (by kernel_rfl) (by kernel_rfl) (by kernel_rfl) rfl (by kernel_rfl) (by kernel_rfl) ⟨⟨s.row_flat, by kernel_rfl⟩, ⟨⟨s.plain _ _ rfl, s.fix _ _ rfl⟩, by kernel_rfl⟩, trivial⟩ rfl rfl ?_
        rintro _ _ ⟨x40, rfl, rfl⟩
        refine ⟨[.keep, .fix], [], rfl, rfl, rfl, ⟨by kernel_rfl, ⟨s.pl _, s.fix _ _ rfl⟩, trivial⟩, trivial, rfl, ?_⟩
        refine OT.nil ?_
        refine CT.condB (x40) rfl (by kernel_rfl) (fun hb41 => ?_) (fun hb41 => ?_)
        · refine CT.planX mixed [(0, true), (2, true), (4, true), (5, true), (6, true), (7, true), (9, true), (1, false), (11, true), (3, false), (8, false), (10, false), (12, false), (13, true), (14, false), (15, true), (16, false), (17, true), (18, false)] rfl (by kernel_rfl) (by kernel_rfl) ?_
          refine DX.evs [(0, true), (2, true), (4, true), (5, true), (6, true), (7, true), (9, true)] [(1, false), (11, true), (3, false), (8, false), (10, false), (12, false), (13, true), (14, false), (15, true), (16, false), (17, true), (18, false)] (by kernel_rfl) ?_
          refine DX.callE [0, 1] [.flat, .fix] (oddS s (t + 1 + 1 + 1 + 1) 1 200 (by omega) (by omega) (by omega) (by omega) (by omega)) (by kernel_rfl) (by kernel_rfl) (by kernel_rfl) rfl (by kernel_rfl) (by kernel_rfl) ⟨⟨s.row_flat, by kernel_rfl⟩, ⟨⟨s.plain _ _ rfl, s.fix _ _ rfl⟩, by kernel_rfl⟩, trivial⟩ rfl rfl ?_
          rintro _ _ ⟨x42, rfl, rfl⟩
          refine ⟨[.keep, .fix], [], rfl, rfl, rfl, ⟨by kernel_rfl, ⟨s.pl _, s.fix _ _ rfl⟩, trivial⟩, trivial, rfl, ?_⟩
          refine ⟨.inr (by kernel_rfl), ?_⟩
          refine DX.evs [(11, true)] [(3, false), (8, false), (10, false), (12, false), (13, true), (14, false), (15, true), (16, false), (17, true), (18, false)] (by kernel_rfl) ?_
          refine DX.callE [0, 1] [.flat, .fix] (oddS s (t + 1 + 1 + 1 + 1 + 1 + 1) 1 20 (by omega) (by omega) (by omega) (by omega) (by omega)) (by kernel_rfl) (by kernel_rfl) (by kernel_rfl) rfl (by kernel_rfl) (by kernel_rfl) ⟨⟨s.row_flat, by kernel_rfl⟩, ⟨⟨s.plain _ _ rfl, s.fix _ _ rfl⟩, by kernel_rfl⟩, trivial⟩ rfl rfl ?_
          rintro _ _ ⟨x43, rfl, rfl⟩
          refine ⟨[.keep, .fix], [], rfl, rfl, rfl, ⟨by kernel_rfl, ⟨s.pl _, s.fix _ _ rfl⟩, trivial⟩, trivial, rfl, ?_⟩
          refine ⟨.inr (by kernel_rfl), ?_⟩
          refine DX.callE [0, 1, 7] [.flat, .fix, .flat] (someS s (t + 1 + 1 + 1 + 1 + 1 + 1 + 1 + 1) [({ data := #[] }), (x37)] 9 2 (by omega) (by omega) (by kernel_rfl) (by kernel_rfl)) (by kernel_rfl) (by kernel_rfl) (by kernel_rfl) rfl (by kernel_rfl) (by kernel_rfl) ⟨⟨s.row_flat, by kernel_rfl⟩, ⟨⟨s.plain _ _ rfl, s.fix _ _ rfl⟩, by kernel_rfl⟩, ⟨strs_flat _, by kernel_rfl⟩, trivial⟩ rfl rfl ?_
          rintro _ _ ⟨x44, hx44, rfl, rfl⟩
          refine ⟨[.keep, .fix, .keep], [], rfl, rfl, rfl, ⟨by kernel_rfl, ⟨s.pl _, s.fix _ _ rfl⟩, by kernel_rfl, trivial⟩, trivial, rfl, ?_⟩
          refine ⟨.inr (by kernel_rfl), ?_⟩
          refine DX.callE [0, 1] [.flat, .fix] (worthS s (t + 1 + 1 + 1 + 1 + 1 + 1 + 1 + 1 + 1) (by omega) (by omega)) (by kernel_rfl) (by kernel_rfl) (by kernel_rfl) rfl (by kernel_rfl) (by kernel_rfl) ⟨⟨s.row_flat, by kernel_rfl⟩, ⟨⟨s.plain _ _ rfl, s.fix _ _ rfl⟩, by kernel_rfl⟩, trivial⟩ rfl rfl ?_
          rintro _ _ ⟨x45, t45, hx45, ht45, rfl, rfl⟩
          refine ⟨[.keep, .fix], [], rfl, rfl, rfl, ⟨by kernel_rfl, ⟨s.pl _, s.fix _ _ rfl⟩, trivial⟩, trivial, rfl, ?_⟩
          refine ⟨.inr (by kernel_rfl), ?_⟩
          refine DX.evs [(12, false), (13, true), (14, false), (15, true), (16, false), (17, true), (18, false)] [] (by kernel_rfl) ?_
          refine DX.nil ?_
          refine CT.region [0, 1, 2, 3, 4] rfl rfl ?_
          refine OT.evs KnownOk.none noC_ok [0, 1, 2] [3, 4] (by kernel_rfl) ?_
          refine OT.appendRow encH (hd :: hs) ⟨(x42), (x43), (x44), ((x45.fst), (x45.snd))⟩ 2 (hd :: hs).length 5 48 (by kernel_rfl) (by kernel_rfl) (by kernel_rfl) (by kernel_rfl) (by kernel_rfl) encH_len rfl (by omega) (by omega) ?_
          refine OT.evs KnownOk.none noC_ok [4] [] (by kernel_rfl) ?_
          refine OT.nil ?_
          refine CT.ev KnownOk.none mixed noC_ok 1000 (by kernel_rfl) ?_
          exact ⟨((hd :: hs) ++ [⟨(x42), (x43), (x44), ((x45.fst), (x45.snd))⟩], (se), (Go.IntKind.i64.wrap (pl + 1)), (t45), (Go.IntKind.i64.wrap (i + 1))), (by simp only [List.length_append, List.length_cons, List.length_nil] at hi ⊢; omega), ⟨(by first | exact good_push hg (team4 (by assumption)) (List.mem_append_left _ (by assumption)) | exact good_push hg (team2 (by assumption) (team4 (by assumption))) (List.mem_append_right _ (by assumption))), len_push hi (by assumption) hm2, (by dsimp only; rw [next_eq (by omega) (by assumption) hm2]; omega), (by dsimp only; omega), (by dsimp only; rw [next_eq (by omega) (by assumption) hm2]; omega)⟩, [0, 1, 9], [.flat, .fix, .flat], rfl, rfl, ⟨⟨rfl, by kernel_rfl⟩, ⟨rfl, by kernel_rfl⟩, trivial⟩, by kernel_rfl, by kernel_rfl, ⟨⟨s.row_flat, by kernel_rfl⟩, ⟨⟨s.plain _ _ rfl, s.fix _ _ rfl⟩, by kernel_rfl⟩, ⟨encH_flat _, by kernel_rfl⟩, trivial⟩, by kernel_rfl, by kernel_rfl, by kernel_rfl, ⟨⟨rfl, by kernel_rfl⟩, ⟨rfl, by kernel_rfl⟩, ⟨rfl, by kernel_rfl⟩, ⟨rfl, by kernel_rfl⟩, ⟨rfl, by kernel_rfl⟩, ⟨rfl, by kernel_rfl⟩, trivial⟩⟩
        · refine CT.skip ?_
          refine CT.region [0, 1, 2, 3, 4] rfl rfl ?_
          refine OT.evs KnownOk.none noC_ok [0, 1, 2] [3, 4] (by kernel_rfl) ?_
          refine OT.appendRow encH (hd :: hs) ⟨(se), (Go.IntKind.i64.wrap (pl + 1)), (x37), ((x39.fst), (x39.snd))⟩ 2 (hd :: hs).length 5 48 (by kernel_rfl) (by kernel_rfl) (by kernel_rfl) (by kernel_rfl) (by kernel_rfl) encH_len rfl (by omega) (by omega) ?_
          refine OT.evs KnownOk.none noC_ok [4] [] (by kernel_rfl) ?_
          refine OT.nil ?_
          refine CT.ev KnownOk.none mixed noC_ok 1000 (by kernel_rfl) ?_
          exact ⟨((hd :: hs) ++ [⟨(se), (Go.IntKind.i64.wrap (pl + 1)), (x37), ((x39.fst), (x39.snd))⟩], (se), (Go.IntKind.i64.wrap (pl + 1)), (t + 1 + 1 + 1 + 1), (Go.IntKind.i64.wrap (i + 1))), (by simp only [List.length_append, List.length_cons, List.length_nil] at hi ⊢; omega), ⟨(by first | exact good_push hg (team4 (by assumption)) (List.mem_append_left _ (by assumption)) | exact good_push hg (team2 (by assumption) (team4 (by assumption))) (List.mem_append_right _ (by assumption))), len_push hi (by assumption) hm2, (by dsimp only; rw [next_eq (by omega) (by assumption) hm2]; omega), (by dsimp only; omega), (by dsimp only; rw [next_eq (by omega) (by assumption) hm2]; omega)⟩, [0, 1, 8], [.flat, .fix, .flat], rfl, rfl, ⟨⟨rfl, by kernel_rfl⟩, ⟨rfl, by kernel_rfl⟩, trivial⟩, by kernel_rfl, by kernel_rfl, ⟨⟨s.row_flat, by kernel_rfl⟩, ⟨⟨s.plain _ _ rfl, s.fix _ _ rfl⟩, by kernel_rfl⟩, ⟨encH_flat _, by kernel_rfl⟩, trivial⟩, by kernel_rfl, by kernel_rfl, by kernel_rfl, ⟨⟨rfl, by kernel_rfl⟩, ⟨rfl, by kernel_rfl⟩, ⟨rfl, by kernel_rfl⟩, ⟨rfl, by kernel_rfl⟩, ⟨rfl, by kernel_rfl⟩, ⟨rfl, by kernel_rfl⟩, trivial⟩⟩
    · refine CT.exit ?_
      refine CT.seq ?_
      refine CT.ev KnownOk.none mixed noC_ok 1000 (by kernel_rfl) ?_
      refine CT.ret (retQ (by kernel_rfl) ?_)
      exact ⟨honV (hd :: hs), s.hon t (hd :: hs), [0, 1, 2], [.flat, .fix, .flat], rfl, rfl, ⟨⟨rfl, by kernel_rfl⟩, ⟨rfl, by kernel_rfl⟩, trivial⟩, by kernel_rfl, by kernel_rfl, ⟨⟨s.row_flat, by kernel_rfl⟩, ⟨⟨s.plain _ _ rfl, s.fix _ _ rfl⟩, by kernel_rfl⟩, ⟨encH_flat _, by kernel_rfl⟩, trivial⟩, rfl, rfl, by kernel_rfl, hd :: hs, t, hg, by omega, ⟨by omega, by omega⟩, rfl, rfl⟩
end Go.Proofs.Tryz


namespace Go.Proofs.Tryz
open Go Go.Abs
set_option maxHeartbeats 0
def okPts : List (Int × Int) := [(5, 1), (29, 4), (0, 1), (-1, 2), (1, 1), (4, 1), (1, 25), (1, 2), (-2, 1), (7, 100), (10001, 1)]
def teams3 : List ByteArray := ["ta".toUTF8, "tb".toUTF8, "tc".toUTF8]

theorem pfS {Γ : Gl} (p : Int × Int) (hp : p ∈ pointsH) : FT prog Γ 51 #[.agg #[.int .i64 p.1, .int .i64 p.2], .int .i64 1000000] ⟨0, []⟩ fun v h => ∃ e, (e = 0 → p ∈ okPts) ∧ v = .int .i64 e ∧ h = ⟨0, []⟩ := by
  refine FT.tidy ?_
  simp only [pointsH, halves, fracs, fracs2, List.cons_append, List.nil_append, List.mem_cons, List.not_mem_nil, or_false] at hp
  rcases hp with rfl | rfl | rfl | rfl | rfl | rfl | rfl | rfl | rfl | rfl | rfl | rfl | rfl | rfl | rfl | rfl | rfl | rfl | rfl | rfl
  · exact FT.evs KnownOk.none mixed noC_ok 60 (by kernel_rfl) (by kernel_rfl) ⟨_, ⟨0, []⟩, [], [], rfl, rfl, trivial, by kernel_rfl, rfl, trivial, by kernel_rfl, by kernel_rfl, by kernel_rfl, 0, (fun _ => .head _), rfl, rfl⟩
  · exact FT.evs KnownOk.none mixed noC_ok 60 (by kernel_rfl) (by kernel_rfl) ⟨_, ⟨0, []⟩, [], [], rfl, rfl, trivial, by kernel_rfl, rfl, trivial, by kernel_rfl, by kernel_rfl, by kernel_rfl, 0, (fun _ => .tail _ (.head _)), rfl, rfl⟩
  · exact FT.evs KnownOk.none mixed noC_ok 60 (by kernel_rfl) (by kernel_rfl) ⟨_, ⟨0, []⟩, [], [], rfl, rfl, trivial, by kernel_rfl, rfl, trivial, by kernel_rfl, by kernel_rfl, by kernel_rfl, 0, (fun _ => .tail _ (.tail _ (.head _))), rfl, rfl⟩
  · exact FT.evs KnownOk.none mixed noC_ok 60 (by kernel_rfl) (by kernel_rfl) ⟨_, ⟨0, []⟩, [], [], rfl, rfl, trivial, by kernel_rfl, rfl, trivial, by kernel_rfl, by kernel_rfl, by kernel_rfl, 0, (fun _ => .tail _ (.tail _ (.tail _ (.head _)))), rfl, rfl⟩
  · exact FT.evs KnownOk.none mixed noC_ok 60 (by kernel_rfl) (by kernel_rfl) ⟨_, ⟨0, []⟩, [], [], rfl, rfl, trivial, by kernel_rfl, rfl, trivial, by kernel_rfl, by kernel_rfl, by kernel_rfl, 0, (fun _ => .tail _ (.tail _ (.tail _ (.tail _ (.head _))))), rfl, rfl⟩
  · exact FT.evs KnownOk.none mixed noC_ok 60 (by kernel_rfl) (by kernel_rfl) ⟨_, ⟨0, []⟩, [], [], rfl, rfl, trivial, by kernel_rfl, rfl, trivial, by kernel_rfl, by kernel_rfl, by kernel_rfl, 0, (fun _ => .tail _ (.tail _ (.tail _ (.tail _ (.tail _ (.head _)))))), rfl, rfl⟩
  · exact FT.evs KnownOk.none mixed noC_ok 60 (by kernel_rfl) (by kernel_rfl) ⟨_, ⟨0, []⟩, [], [], rfl, rfl, trivial, by kernel_rfl, rfl, trivial, by kernel_rfl, by kernel_rfl, by kernel_rfl, 0, (fun _ => .tail _ (.tail _ (.tail _ (.tail _ (.tail _ (.tail _ (.head _))))))), rfl, rfl⟩
  · exact FT.evs KnownOk.none mixed noC_ok 60 (by kernel_rfl) (by kernel_rfl) ⟨_, ⟨0, []⟩, [], [], rfl, rfl, trivial, by kernel_rfl, rfl, trivial, by kernel_rfl, by kernel_rfl, by kernel_rfl, 0, (fun _ => .tail _ (.tail _ (.tail _ (.tail _ (.tail _ (.tail _ (.tail _ (.head _)))))))), rfl, rfl⟩
  · exact FT.evs KnownOk.none mixed noC_ok 60 (by kernel_rfl) (by kernel_rfl) ⟨_, ⟨0, []⟩, [], [], rfl, rfl, trivial, by kernel_rfl, rfl, trivial, by kernel_rfl, by kernel_rfl, by kernel_rfl, 0, (fun _ => .tail _ (.tail _ (.tail _ (.tail _ (.tail _ (.tail _ (.tail _ (.tail _ (.head _))))))))), rfl, rfl⟩
  · exact FT.evs KnownOk.none mixed noC_ok 60 (by kernel_rfl) (by kernel_rfl) ⟨_, ⟨0, []⟩, [], [], rfl, rfl, trivial, by kernel_rfl, rfl, trivial, by kernel_rfl, by kernel_rfl, by kernel_rfl, 0, (fun _ => .tail _ (.tail _ (.head _))), rfl, rfl⟩
  · exact FT.evs KnownOk.none mixed noC_ok 60 (by kernel_rfl) (by kernel_rfl) ⟨_, ⟨0, []⟩, [], [], rfl, rfl, trivial, by kernel_rfl, rfl, trivial, by kernel_rfl, by kernel_rfl, by kernel_rfl, 0, (fun _ => .tail _ (.tail _ (.tail _ (.tail _ (.tail _ (.tail _ (.tail _ (.tail _ (.tail _ (.head _)))))))))), rfl, rfl⟩
  · exact FT.evs KnownOk.none mixed noC_ok 60 (by kernel_rfl) (by kernel_rfl) ⟨_, ⟨0, []⟩, [], [], rfl, rfl, trivial, by kernel_rfl, rfl, trivial, by kernel_rfl, by kernel_rfl, by kernel_rfl, 3, (fun h => absurd h (by decide)), rfl, rfl⟩
  · exact FT.evs KnownOk.none mixed noC_ok 60 (by kernel_rfl) (by kernel_rfl) ⟨_, ⟨0, []⟩, [], [], rfl, rfl, trivial, by kernel_rfl, rfl, trivial, by kernel_rfl, by kernel_rfl, by kernel_rfl, 1, (fun h => absurd h (by decide)), rfl, rfl⟩
  · exact FT.evs KnownOk.none mixed noC_ok 60 (by kernel_rfl) (by kernel_rfl) ⟨_, ⟨0, []⟩, [], [], rfl, rfl, trivial, by kernel_rfl, rfl, trivial, by kernel_rfl, by kernel_rfl, by kernel_rfl, 3, (fun h => absurd h (by decide)), rfl, rfl⟩
  · exact FT.evs KnownOk.none mixed noC_ok 60 (by kernel_rfl) (by kernel_rfl) ⟨_, ⟨0, []⟩, [], [], rfl, rfl, trivial, by kernel_rfl, rfl, trivial, by kernel_rfl, by kernel_rfl, by kernel_rfl, 3, (fun h => absurd h (by decide)), rfl, rfl⟩
  · exact FT.evs KnownOk.none mixed noC_ok 60 (by kernel_rfl) (by kernel_rfl) ⟨_, ⟨0, []⟩, [], [], rfl, rfl, trivial, by kernel_rfl, rfl, trivial, by kernel_rfl, by kernel_rfl, by kernel_rfl, 1, (fun h => absurd h (by decide)), rfl, rfl⟩
  · exact FT.evs KnownOk.none mixed noC_ok 60 (by kernel_rfl) (by kernel_rfl) ⟨_, ⟨0, []⟩, [], [], rfl, rfl, trivial, by kernel_rfl, rfl, trivial, by kernel_rfl, by kernel_rfl, by kernel_rfl, 0, (fun _ => .tail _ (.tail _ (.tail _ (.tail _ (.tail _ (.tail _ (.tail _ (.tail _ (.tail _ (.tail _ (.head _))))))))))), rfl, rfl⟩
  · exact FT.evs KnownOk.none mixed noC_ok 60 (by kernel_rfl) (by kernel_rfl) ⟨_, ⟨0, []⟩, [], [], rfl, rfl, trivial, by kernel_rfl, rfl, trivial, by kernel_rfl, by kernel_rfl, by kernel_rfl, 1, (fun h => absurd h (by decide)), rfl, rfl⟩
  · exact FT.evs KnownOk.none mixed noC_ok 60 (by kernel_rfl) (by kernel_rfl) ⟨_, ⟨0, []⟩, [], [], rfl, rfl, trivial, by kernel_rfl, rfl, trivial, by kernel_rfl, by kernel_rfl, by kernel_rfl, 1, (fun h => absurd h (by decide)), rfl, rfl⟩
  · exact FT.evs KnownOk.none mixed noC_ok 60 (by kernel_rfl) (by kernel_rfl) ⟨_, ⟨0, []⟩, [], [], rfl, rfl, trivial, by kernel_rfl, rfl, trivial, by kernel_rfl, by kernel_rfl, by kernel_rfl, 3, (fun h => absurd h (by decide)), rfl, rfl⟩

theorem amS {Γ : Gl} (p : Int × Int) (hp : p ∈ okPts) : FT prog Γ 57 #[.agg #[.int .i64 p.1, .int .i64 p.2], .int .i64 1000000] ⟨0, []⟩ fun v h => v = .int .i64 0 ∧ h = ⟨0, []⟩ := by
  refine FT.tidy ?_
  simp only [okPts, List.mem_cons, List.not_mem_nil, or_false] at hp
  rcases hp with rfl | rfl | rfl | rfl | rfl | rfl | rfl | rfl | rfl | rfl | rfl
  · exact FT.evs KnownOk.none mixed noC_ok 60 (by kernel_rfl) (by kernel_rfl) ⟨_, ⟨0, []⟩, [], [], rfl, rfl, trivial, by kernel_rfl, rfl, trivial, by kernel_rfl, by kernel_rfl, by kernel_rfl, rfl, rfl⟩
  · exact FT.evs KnownOk.none mixed noC_ok 60 (by kernel_rfl) (by kernel_rfl) ⟨_, ⟨0, []⟩, [], [], rfl, rfl, trivial, by kernel_rfl, rfl, trivial, by kernel_rfl, by kernel_rfl, by kernel_rfl, rfl, rfl⟩
  · exact FT.evs KnownOk.none mixed noC_ok 60 (by kernel_rfl) (by kernel_rfl) ⟨_, ⟨0, []⟩, [], [], rfl, rfl, trivial, by kernel_rfl, rfl, trivial, by kernel_rfl, by kernel_rfl, by kernel_rfl, rfl, rfl⟩
  · exact FT.evs KnownOk.none mixed noC_ok 60 (by kernel_rfl) (by kernel_rfl) ⟨_, ⟨0, []⟩, [], [], rfl, rfl, trivial, by kernel_rfl, rfl, trivial, by kernel_rfl, by kernel_rfl, by kernel_rfl, rfl, rfl⟩
  · exact FT.evs KnownOk.none mixed noC_ok 60 (by kernel_rfl) (by kernel_rfl) ⟨_, ⟨0, []⟩, [], [], rfl, rfl, trivial, by kernel_rfl, rfl, trivial, by kernel_rfl, by kernel_rfl, by kernel_rfl, rfl, rfl⟩
  · exact FT.evs KnownOk.none mixed noC_ok 60 (by kernel_rfl) (by kernel_rfl) ⟨_, ⟨0, []⟩, [], [], rfl, rfl, trivial, by kernel_rfl, rfl, trivial, by kernel_rfl, by kernel_rfl, by kernel_rfl, rfl, rfl⟩
  · exact FT.evs KnownOk.none mixed noC_ok 60 (by kernel_rfl) (by kernel_rfl) ⟨_, ⟨0, []⟩, [], [], rfl, rfl, trivial, by kernel_rfl, rfl, trivial, by kernel_rfl, by kernel_rfl, by kernel_rfl, rfl, rfl⟩
  · exact FT.evs KnownOk.none mixed noC_ok 60 (by kernel_rfl) (by kernel_rfl) ⟨_, ⟨0, []⟩, [], [], rfl, rfl, trivial, by kernel_rfl, rfl, trivial, by kernel_rfl, by kernel_rfl, by kernel_rfl, rfl, rfl⟩
  · exact FT.evs KnownOk.none mixed noC_ok 60 (by kernel_rfl) (by kernel_rfl) ⟨_, ⟨0, []⟩, [], [], rfl, rfl, trivial, by kernel_rfl, rfl, trivial, by kernel_rfl, by kernel_rfl, by kernel_rfl, rfl, rfl⟩
  · exact FT.evs KnownOk.none mixed noC_ok 60 (by kernel_rfl) (by kernel_rfl) ⟨_, ⟨0, []⟩, [], [], rfl, rfl, trivial, by kernel_rfl, rfl, trivial, by kernel_rfl, by kernel_rfl, by kernel_rfl, rfl, rfl⟩
  · exact FT.evs KnownOk.none mixed noC_ok 60 (by kernel_rfl) (by kernel_rfl) ⟨_, ⟨0, []⟩, [], [], rfl, rfl, trivial, by kernel_rfl, rfl, trivial, by kernel_rfl, by kernel_rfl, by kernel_rfl, rfl, rfl⟩

theorem keyRS {Γ : Gl} (t : ByteArray) (ht : t ∈ teamsH) : FT prog Γ 50 #[.string t] ⟨0, []⟩ fun v h => ∃ b, (b = true → t ∈ teams3) ∧ v = .bool b ∧ h = ⟨0, []⟩ := by
  refine FT.tidy ?_
  simp only [teamsH, List.mem_cons, List.not_mem_nil, or_false] at ht
  rcases ht with rfl | rfl | rfl | rfl
  · exact FT.evs KnownOk.none mixed noC_ok 60 (by kernel_rfl) (by kernel_rfl) ⟨_, ⟨0, []⟩, [], [], rfl, rfl, trivial, by kernel_rfl, rfl, trivial, by kernel_rfl, by kernel_rfl, by kernel_rfl, true, (fun _ => .head _), rfl, rfl⟩
  · exact FT.evs KnownOk.none mixed noC_ok 60 (by kernel_rfl) (by kernel_rfl) ⟨_, ⟨0, []⟩, [], [], rfl, rfl, trivial, by kernel_rfl, rfl, trivial, by kernel_rfl, by kernel_rfl, by kernel_rfl, true, (fun _ => .tail _ (.head _)), rfl, rfl⟩
  · exact FT.evs KnownOk.none mixed noC_ok 60 (by kernel_rfl) (by kernel_rfl) ⟨_, ⟨0, []⟩, [], [], rfl, rfl, trivial, by kernel_rfl, rfl, trivial, by kernel_rfl, by kernel_rfl, by kernel_rfl, true, (fun _ => .tail _ (.tail _ (.head _))), rfl, rfl⟩
  · exact FT.evs KnownOk.none mixed noC_ok 60 (by kernel_rfl) (by kernel_rfl) ⟨_, ⟨0, []⟩, [], [], rfl, rfl, trivial, by kernel_rfl, rfl, trivial, by kernel_rfl, by kernel_rfl, by kernel_rfl, false, (fun h => absurd h (by decide)), rfl, rfl⟩

theorem keyS {Γ : Gl} (t : ByteArray) (ht : t ∈ teams3) : FT prog Γ 55 #[.string t] ⟨0, []⟩ fun v h => v = .bool true ∧ h = ⟨0, []⟩ := by
  refine FT.tidy ?_
  simp only [teams3, List.mem_cons, List.not_mem_nil, or_false] at ht
  rcases ht with rfl | rfl | rfl
  · exact FT.evs KnownOk.none mixed noC_ok 60 (by kernel_rfl) (by kernel_rfl) ⟨_, ⟨0, []⟩, [], [], rfl, rfl, trivial, by kernel_rfl, rfl, trivial, by kernel_rfl, by kernel_rfl, by kernel_rfl, rfl, rfl⟩
  · exact FT.evs KnownOk.none mixed noC_ok 60 (by kernel_rfl) (by kernel_rfl) ⟨_, ⟨0, []⟩, [], [], rfl, rfl, trivial, by kernel_rfl, rfl, trivial, by kernel_rfl, by kernel_rfl, by kernel_rfl, rfl, rfl⟩
  · exact FT.evs KnownOk.none mixed noC_ok 60 (by kernel_rfl) (by kernel_rfl) ⟨_, ⟨0, []⟩, [], [], rfl, rfl, trivial, by kernel_rfl, rfl, trivial, by kernel_rfl, by kernel_rfl, by kernel_rfl, rfl, rfl⟩

theorem inS {Γ : Gl} (x lo hi : Int) : FT prog Γ 49 #[.int .i64 x, .int .i64 lo, .int .i64 hi] ⟨0, []⟩ fun v h => ∃ b, (b = true ↔ lo ≤ x ∧ x ≤ hi) ∧ v = .bool b ∧ h = ⟨0, []⟩ := by
  refine FT.tidy (FT.body func49 rfl ?_)
  refine CT.seq ?_
  refine CT.ev KnownOk.none mixed noC_ok 1000 (by kernel_rfl) ?_
  refine CT.seq ?_
  refine CT.region [0, 1, 2, 3, 4, 5, 6, 7, 8] rfl rfl ?_
  refine OT.evs KnownOk.none noC_ok [0, 1, 2, 3] [4, 5, 6, 7, 8] (by kernel_rfl) ?_
  refine OT.boolD 10 (lo ≤ x) (by kernel_rfl) (fun hb0 => ?_) (fun hb0 => ?_)
  · refine OT.evs KnownOk.none noC_ok [4, 5, 6, 7, 8] [] (by kernel_rfl) ?_
    refine OT.nil ?_
    refine CT.ret (retQ (by kernel_rfl) ?_)
    exact ⟨.bool (decide (x ≤ hi)), ⟨0, []⟩, [], [], rfl, rfl, trivial, by kernel_rfl, rfl, trivial, by kernel_rfl, by kernel_rfl, by kernel_rfl, decide (x ≤ hi), by rw [decide_eq_true_eq]; omega, rfl, rfl⟩
  · refine OT.evs KnownOk.none noC_ok [4, 5, 6, 7, 8] [] (by kernel_rfl) ?_
    refine OT.nil ?_
    refine CT.ret (retQ (by kernel_rfl) ?_)
    exact ⟨.bool false, ⟨0, []⟩, [], [], rfl, rfl, trivial, by kernel_rfl, rfl, trivial, by kernel_rfl, by kernel_rfl, by kernel_rfl, false, by simp only [Bool.false_eq_true, false_iff]; omega, rfl, rfl⟩

def cmpI (a b : Int) : Int := if a < b then -1 else if b < a then 1 else 0
theorem cmpI_lt (a b : Int) : (cmpI a b < 0 ↔ a < b) ∧ (cmpI a b = 0 ↔ a = b) := by
  unfold cmpI; split <;> (try split) <;> omega

theorem nanS {Γ : Gl} (a : Int) : FT prog Γ 87 #[.int .i64 a] ⟨0, []⟩ fun v h => v = .bool false ∧ h = ⟨0, []⟩ := by
  refine FT.tidy (FT.body func87 rfl ?_)
  refine CT.seq ?_
  refine CT.ev KnownOk.none mixed noC_ok 1000 (by kernel_rfl) ?_
  refine CT.seq ?_
  refine CT.ev KnownOk.none mixed noC_ok 1000 (by kernel_rfl) ?_
  refine CT.ret (retQ (by kernel_rfl) ?_)
  exact ⟨.bool false, ⟨0, []⟩, [], [], rfl, rfl, trivial, by kernel_rfl, rfl, trivial, by kernel_rfl, by kernel_rfl, (by kernel_rfl : _ = Value.bool (a != a)).trans (by simp [renV, ren1, ren0]), rfl, rfl⟩

theorem cmpS {Γ : Gl} (a b : Int) : FT prog Γ 61 #[.int .i64 a, .int .i64 b] ⟨0, []⟩ fun v h => v = .int .i64 (cmpI a b) ∧ h = ⟨0, []⟩ := by
  refine FT.tidy (FT.body func61 rfl ?_)
  refine CT.seq ?_
  refine CT.ev KnownOk.none mixed noC_ok 1000 (by kernel_rfl) ?_
  refine CT.seq ?_
  refine CT.region [0, 1, 2] rfl rfl ?_
  refine OT.evs KnownOk.none noC_ok [0] [1, 2] (by kernel_rfl) ?_
  refine OT.callE [] [] (nanS (a)) (by kernel_rfl) (by kernel_rfl) (by kernel_rfl) rfl (by kernel_rfl) (by kernel_rfl) trivial rfl rfl ?_
  rintro _ _ ⟨rfl, rfl⟩
  refine ⟨[], [], rfl, rfl, rfl, trivial, trivial, rfl, ?_⟩
  refine OT.evs KnownOk.none noC_ok [2] [] (by kernel_rfl) ?_
  refine OT.nil ?_
  refine CT.seq ?_
  refine CT.region [0, 1, 2] rfl rfl ?_
  refine OT.evs KnownOk.none noC_ok [0] [1, 2] (by kernel_rfl) ?_
  refine OT.callE [] [] (nanS (b)) (by kernel_rfl) (by kernel_rfl) (by kernel_rfl) rfl (by kernel_rfl) (by kernel_rfl) trivial rfl rfl ?_
  rintro _ _ ⟨rfl, rfl⟩
  refine ⟨[], [], rfl, rfl, rfl, trivial, trivial, rfl, ?_⟩
  refine OT.evs KnownOk.none noC_ok [2] [] (by kernel_rfl) ?_
  refine OT.nil ?_
  refine CT.seq ?_
  refine CT.seq ?_
  refine CT.ev KnownOk.none mixed noC_ok 1000 (by kernel_rfl) ?_
  refine CT.condF rfl (by kernel_rfl) ?_
  refine CT.skip ?_
  refine CT.seq ?_
  refine CT.seq ?_
  refine CT.ev KnownOk.none mixed noC_ok 1000 (by kernel_rfl) ?_
  refine CT.condF rfl (by kernel_rfl) ?_
  refine CT.skip ?_
  refine CT.seq ?_
  refine CT.seq ?_
  refine CT.ev KnownOk.none mixed noC_ok 1000 (by kernel_rfl) ?_
  refine CT.condD (a < b) rfl (by kernel_rfl) (fun hb2 => ?_) (fun hb2 => ?_)
  · refine CT.seq ?_
    refine CT.ev KnownOk.none mixed noC_ok 1000 (by kernel_rfl) ?_
    refine CT.ret (retQ (by kernel_rfl) ?_)
    exact ⟨.int .i64 (-1), ⟨0, []⟩, [], [], rfl, rfl, trivial, by kernel_rfl, rfl, trivial, by kernel_rfl, by kernel_rfl, by kernel_rfl, by rw [cmpI, if_pos (by omega)], rfl⟩
  · refine CT.skip ?_
    refine CT.seq ?_
    refine CT.seq ?_
    refine CT.ev KnownOk.none mixed noC_ok 1000 (by kernel_rfl) ?_
    refine CT.condD (a > b) rfl (by kernel_rfl) (fun hb3 => ?_) (fun hb3 => ?_)
    · refine CT.seq ?_
      refine CT.ev KnownOk.none mixed noC_ok 1000 (by kernel_rfl) ?_
      refine CT.ret (retQ (by kernel_rfl) ?_)
      exact ⟨.int .i64 1, ⟨0, []⟩, [], [], rfl, rfl, trivial, by kernel_rfl, rfl, trivial, by kernel_rfl, by kernel_rfl, by kernel_rfl, by rw [cmpI, if_neg (by omega), if_pos (by omega)], rfl⟩
    · refine CT.skip ?_
      refine CT.seq ?_
      refine CT.ev KnownOk.none mixed noC_ok 1000 (by kernel_rfl) ?_
      refine CT.ret (retQ (by kernel_rfl) ?_)
      exact ⟨.int .i64 0, ⟨0, []⟩, [], [], rfl, rfl, trivial, by kernel_rfl, rfl, trivial, by kernel_rfl, by kernel_rfl, by kernel_rfl, by rw [cmpI, if_neg (by omega), if_neg (by omega)], rfl⟩
end Go.Proofs.Tryz


namespace Go.Proofs.Tryz
open Go Go.Abs
set_option maxHeartbeats 0
def cmp2 (a b c d : Int) : Int := if cmpI a c ≠ 0 then cmpI a c else cmpI b d

theorem cmp2S {Γ : Gl} (a b c d : Int) (k1 k2 : Nat) : FT prog Γ 52 #[.slice (some ⟨0, 0, none⟩) 2 k1, .slice (some ⟨1, 0, none⟩) 2 k2] ⟨2, [(1, .cells (ints [c, d]) 3), (0, .cells (ints [a, b]) 3)]⟩
    fun v h => v = .int .i64 (cmp2 a b c d) ∧ h = ⟨2, [(1, .cells (ints [c, d]) 3), (0, .cells (ints [a, b]) 3)]⟩ := by
  refine FT.sameRet (FT.body func52 rfl ?_)
  refine CT.seq ?_
  refine CT.ev KnownOk.none mixed noC_ok 1000 (by kernel_rfl) ?_
  refine CT.seq ?_
  refine CT.seq ?_
  refine CT.ev KnownOk.none mixed noC_ok 1000 (by kernel_rfl) ?_
  refine CT.block ?_
  refine CT.loop ?_
  refine CT.seq ?_
  refine CT.ev KnownOk.none mixed noC_ok 1000 (by kernel_rfl) ?_
  refine CT.seq ?_
  refine CT.condT rfl (by kernel_rfl) ?_
  refine CT.skip ?_
  refine CT.seq ?_
  refine CT.block ?_
  refine CT.seq ?_
  refine CT.ev KnownOk.none mixed noC_ok 1000 (by kernel_rfl) ?_
  refine CT.seq ?_
  refine CT.seq ?_
  refine CT.ev KnownOk.none mixed noC_ok 1000 (by kernel_rfl) ?_
  refine CT.condF rfl (by kernel_rfl) ?_
  refine CT.skip ?_
  refine CT.seq ?_
  refine CT.ev KnownOk.none mixed noC_ok 1000 (by kernel_rfl) ?_
  refine CT.seq ?_
  refine CT.region [0, 1, 2, 3] rfl rfl ?_
  refine OT.evs KnownOk.none noC_ok [0, 1] [2, 3] (by kernel_rfl) ?_
  refine OT.callE [] [] (cmpS (a) (c)) (by kernel_rfl) (by kernel_rfl) (by kernel_rfl) rfl (by kernel_rfl) (by kernel_rfl) trivial rfl rfl ?_
  rintro _ _ ⟨rfl, rfl⟩
  refine ⟨[], [], rfl, rfl, rfl, trivial, trivial, rfl, ?_⟩
  refine OT.evs KnownOk.none noC_ok [3] [] (by kernel_rfl) ?_
  refine OT.nil ?_
  refine CT.seq ?_
  refine CT.ev KnownOk.none mixed noC_ok 1000 (by kernel_rfl) ?_
  refine CT.condB (Go.Proofs.Tryz.cmpI a c != 0) rfl (by kernel_rfl) (fun hb1 => ?_) (fun hb1 => ?_)
  · refine CT.seq ?_
    refine CT.ev KnownOk.none mixed noC_ok 1000 (by kernel_rfl) ?_
    refine CT.ret (retQ (by kernel_rfl) ?_)
    exact ⟨_, FH.toH_eq (by kernel_rfl) (by kernel_rfl), (by kernel_rfl : _ = Value.int .i64 (cmpI a c)).trans (by rw [cmp2, if_pos (by simpa using hb1)]), rfl⟩
  · refine CT.skip ?_
    refine CT.ev KnownOk.none mixed noC_ok 1000 (by kernel_rfl) ?_
    refine CT.loop ?_
    refine CT.seq ?_
    refine CT.ev KnownOk.none mixed noC_ok 1000 (by kernel_rfl) ?_
    refine CT.seq ?_
    refine CT.condT rfl (by kernel_rfl) ?_
    refine CT.skip ?_
    refine CT.seq ?_
    refine CT.block ?_
    refine CT.seq ?_
    refine CT.ev KnownOk.none mixed noC_ok 1000 (by kernel_rfl) ?_
    refine CT.seq ?_
    refine CT.seq ?_
    refine CT.ev KnownOk.none mixed noC_ok 1000 (by kernel_rfl) ?_
    refine CT.condF rfl (by kernel_rfl) ?_
    refine CT.skip ?_
    refine CT.seq ?_
    refine CT.ev KnownOk.none mixed noC_ok 1000 (by kernel_rfl) ?_
    refine CT.seq ?_
    refine CT.region [0, 1, 2, 3] rfl rfl ?_
    refine OT.evs KnownOk.none noC_ok [0, 1] [2, 3] (by kernel_rfl) ?_
    refine OT.callE [] [] (cmpS (b) (d)) (by kernel_rfl) (by kernel_rfl) (by kernel_rfl) rfl (by kernel_rfl) (by kernel_rfl) trivial rfl rfl ?_
    rintro _ _ ⟨rfl, rfl⟩
    refine ⟨[], [], rfl, rfl, rfl, trivial, trivial, rfl, ?_⟩
    refine OT.evs KnownOk.none noC_ok [3] [] (by kernel_rfl) ?_
    refine OT.nil ?_
    refine CT.seq ?_
    refine CT.ev KnownOk.none mixed noC_ok 1000 (by kernel_rfl) ?_
    refine CT.condB (Go.Proofs.Tryz.cmpI b d != 0) rfl (by kernel_rfl) (fun hb3 => ?_) (fun hb3 => ?_)
    · refine CT.seq ?_
      refine CT.ev KnownOk.none mixed noC_ok 1000 (by kernel_rfl) ?_
      refine CT.ret (retQ (by kernel_rfl) ?_)
      exact ⟨_, FH.toH_eq (by kernel_rfl) (by kernel_rfl), (by kernel_rfl : _ = Value.int .i64 (cmpI b d)).trans (by rw [cmp2, if_neg (by simpa using hb1)]), rfl⟩
    · refine CT.skip ?_
      refine CT.ev KnownOk.none mixed noC_ok 1000 (by kernel_rfl) ?_
      refine CT.loop ?_
      refine CT.seq ?_
      refine CT.ev KnownOk.none mixed noC_ok 1000 (by kernel_rfl) ?_
      refine CT.seq ?_
      refine CT.condF rfl (by kernel_rfl) ?_
      refine CT.exit ?_
      refine CT.seq ?_
      refine CT.seq ?_
      refine CT.ev KnownOk.none mixed noC_ok 1000 (by kernel_rfl) ?_
      refine CT.condF rfl (by kernel_rfl) ?_
      refine CT.skip ?_
      refine CT.seq ?_
      refine CT.ev KnownOk.none mixed noC_ok 1000 (by kernel_rfl) ?_
      refine CT.ret (retQ (by kernel_rfl) ?_)
      exact ⟨_, FH.toH_eq (by kernel_rfl) (by kernel_rfl), (by kernel_rfl : _ = Value.int .i64 0).trans (by rw [cmp2, if_neg (by simpa using hb1)]; simp at hb3; rw [hb3]), rfl⟩

def lexlt (y x : Hon) : Prop := y.s < x.s ∨ (y.s = x.s ∧ y.p < x.p)
def okAt (xs : List Hon) (j : Nat) : Prop := ∃ x, xs[j]? = some x ∧ (1 ≤ x.s ∧ x.s ≤ 200) ∧ (1 ≤ x.p ∧ x.p ≤ 20) ∧ x.t ∈ teams3 ∧ x.f ∈ okPts ∧ ∀ y, 0 < j → xs[j - 1]? = some y → lexlt y x
def okH (xs : List Hon) : Prop := ∀ j, j < xs.length → okAt xs j

theorem pred_eq {i : Int} (h : 1 ≤ i) (h2 : i < 1099511627776) : IntKind.wrap .i64 (i - 1) = i - 1 := wrap_id (by omega) (by omega)
theorem succ_eq {i : Int} (h : 0 ≤ i) (h2 : i < 1099511627776) : IntKind.wrap .i64 (i + 1) = i + 1 := wrap_id (by omega) (by omega)
theorem row_at {α : Type} {enc : α → List Value} {k : Nat} (hk : ∀ x, (enc x).length = k) {xs : List α} {i o : Nat} {x : α} (hx : xs[i]? = some x) (ho : o = i * k) : o + k ≤ (rowOf enc xs).size ∧ (rowOf enc xs).extract o (o + k) = ⟨enc x⟩ := by
  subst ho
  refine ⟨?_, rowOf_at hk xs i _ hx⟩
  rw [rowOf_size hk, ← Nat.succ_mul]
  exact Nat.mul_le_mul_right _ (List.getElem?_eq_some_iff.1 hx).1

theorem rowOf_cellO {α : Type} {enc : α → List Value} {k o : Nat} (hk : ∀ x, (enc x).length = k) (xs : List α) (i j : Nat) {x : α} {v : Value} (ho : o = i * k + j) (hx : xs[i]? = some x) (hj : (enc x)[j]? = some v) : (rowOf enc xs).toList[o]? = some v := by
  subst ho
  exact rowOf_cell hk xs i j x v hx hj
theorem cmp2_lt {a b c d : Int} (h : cmp2 a b c d < 0) : a < c ∨ (a = c ∧ b < d) := by
  unfold cmp2 at h
  have h1 := cmpI_lt a c
  have h2 := cmpI_lt b d
  split at h <;> omega
theorem cmp2_lex {xs : List Hon} {i : Int} (x : Hon) {y : Hon} (h : 1 ≤ i) (hy : xs[i.toNat - 1]? = some y) (hc : cmp2 (xs.getD (i - 1).toNat x).s (xs.getD (i - 1).toNat x).p x.s x.p < 0) : lexlt y x := by
  have e : i.toNat - 1 = (i - 1).toNat := by omega
  rw [e] at hy
  have : xs.getD (i - 1).toNat x = y := by rw [List.getD_eq_getElem?_getD, hy]; rfl
  rw [this] at hc
  exact cmp2_lt hc

theorem faultS {Γ : Gl} (xs : List Hon) (hg : goodH xs) (hn : xs.length ≤ 100) : FT prog Γ 16 #[.slice (some ⟨0, 0, none⟩) xs.length OPEN] ⟨1, [(0, .cells (rowOf encH xs) 40)]⟩
    fun v h => ∃ e, (e = 0 → okH xs) ∧ v = .int .i64 e ∧ h = ⟨1, [(0, .cells (rowOf encH xs) 40)]⟩ := by
  refine FT.tidy (FT.body func16 rfl ?_)
  refine CT.seq ?_
  refine CT.ev KnownOk.none mixed noC_ok 1000 (by kernel_rfl) ?_
  refine CT.seq ?_
  refine CT.seq ?_
  refine CT.ev KnownOk.none mixed noC_ok 1000 (by kernel_rfl) ?_
  refine CT.condD (↑xs.length > (4000 : Int)) rfl (by kernel_rfl) (fun hb0 => ?_) (fun hb0 => ?_)
  · exfalso; omega
  · refine CT.skip ?_
    refine CT.seq ?_
    refine CT.seq ?_
    refine CT.ev KnownOk.none mixed noC_ok 1000 (by kernel_rfl) ?_
    refine CT.block ?_
    refine CT.loopT (S := Int) (fun i => xs.length - i.toNat) 63 (fun i => [(0, .slice (some ⟨0, 0, none⟩) xs.length OPEN), (9, .slice (some ⟨0, 0, none⟩) xs.length OPEN), (10, .int .i64 xs.length), (11, .int .i64 i)]) (fun _ => ⟨1, [(0, .cells (rowOf encH xs) 40)]⟩) (fun i => 0 ≤ i ∧ i ≤ xs.length ∧ ∀ j : Nat, (j : Int) < i → okAt xs j) 0 rfl ⟨by omega, by omega, fun j hj => by omega⟩ ⟨[0], [.flat], rfl, rfl, ⟨⟨rfl, by kernel_rfl⟩, trivial⟩, by kernel_rfl, by kernel_rfl, ⟨⟨encH_flat _, by kernel_rfl⟩, trivial⟩, by kernel_rfl, by kernel_rfl, by kernel_rfl, ⟨⟨rfl, by kernel_rfl⟩, ⟨rfl, by kernel_rfl⟩, ⟨rfl, by kernel_rfl⟩, ⟨rfl, by kernel_rfl⟩, trivial⟩⟩ ?_
    rintro i ⟨hi0, hi1, hok⟩ tail
    refine CT.seq ?_
    refine CT.ev KnownOk.none mixed noC_ok 1000 (by kernel_rfl) ?_
    refine CT.seq ?_
    refine CT.condD (i < ↑xs.length) rfl (by kernel_rfl) (fun hb1 => ?_) (fun hb1 => ?_)
    · refine CT.skip ?_
      refine CT.seq ?_
      refine CT.block ?_
      refine CT.seq ?_
      refine CT.region [0, 1, 2, 3, 4, 5] rfl rfl ?_
      refine OT.evs KnownOk.none noC_ok [0] [1, 2, 3, 4, 5] (by kernel_rfl) ?_
      refine OT.idxF (Operand.tmp 9) (Operand.tmp 11) 5 0 0 (xs.length) 36893488147419103232 IntKind.i64 (i) (by kernel_rfl) (by kernel_rfl) (by kernel_rfl) (by kernel_rfl) (by kernel_rfl) (by first | omega | (rw [pred_eq (by omega) (by omega)]; omega)) (by first | omega | (rw [pred_eq (by omega) (by omega)]; omega))  ?_
      obtain ⟨x, hx⟩ : ∃ x, xs[i.toNat]? = some x := ⟨_, List.getElem?_eq_getElem (by omega)⟩
      obtain ⟨ht, hf⟩ := hg x (List.mem_of_getElem? hx)
      refine OT.loadS 0 (0 + (i.toNat * 5)) 5 (rowOf encH xs) ⟨encH x⟩ (by kernel_rfl) (by kernel_rfl) (by kernel_rfl) (by kernel_rfl) (by kernel_rfl) 40 (0, 0) (by kernel_rfl) (row_at encH_len hx (by omega)).1 (row_at encH_len hx (by omega)).2  ?_
      refine OT.evs KnownOk.none noC_ok [3, 4, 5] [] (by kernel_rfl) ?_
      refine OT.nil ?_
      refine CT.seq ?_
      refine CT.block ?_
      refine CT.seq ?_
      refine CT.region [0, 1, 2, 3, 4, 5, 6, 7, 8, 9, 10] rfl rfl ?_
      refine OT.evs KnownOk.none noC_ok [0, 1] [2, 3, 4, 5, 6, 7, 8, 9, 10] (by kernel_rfl) ?_
      refine OT.callE [] [] (inS (x.s) 1 200) (by kernel_rfl) (by kernel_rfl) (by kernel_rfl) rfl (by kernel_rfl) (by kernel_rfl) trivial rfl rfl ?_
      rintro _ _ ⟨x3, hx3, rfl, rfl⟩
      refine ⟨[], [], rfl, rfl, rfl, trivial, trivial, rfl, ?_⟩
      refine OT.evs KnownOk.none noC_ok [3, 4] [5, 6, 7, 8, 9, 10] (by kernel_rfl) ?_
      refine OT.boolAt 21 (!x3) (by kernel_rfl) (fun hb4 => ?_) (fun hb4 => ?_)
      · refine OT.evs KnownOk.none noC_ok [5, 6, 7, 8, 9, 10] [] (by kernel_rfl) ?_
        refine OT.nil ?_
        refine CT.condT rfl (by kernel_rfl) ?_
        refine CT.seq ?_
        refine CT.ev KnownOk.none mixed noC_ok 1000 (by kernel_rfl) ?_
        refine CT.ret (retQ (by kernel_rfl) ?_)
        exact ⟨.int .i64 1, ⟨1, [(0, .cells (rowOf encH xs) 40)]⟩, [0], [.flat], rfl, rfl, ⟨⟨rfl, by kernel_rfl⟩, trivial⟩, by kernel_rfl, by kernel_rfl, ⟨⟨encH_flat _, by kernel_rfl⟩, trivial⟩, rfl, rfl, by kernel_rfl, 1, (fun h => by first | exact absurd h (by decide) | exact (fun j hj => hok j (by omega)) | (exfalso; simp_all; done)), rfl, rfl⟩
      · refine OT.evs KnownOk.none noC_ok [5, 6] [7, 8, 9, 10] (by kernel_rfl) ?_
        refine OT.callE [] [] (inS (x.p) 1 20) (by kernel_rfl) (by kernel_rfl) (by kernel_rfl) rfl (by kernel_rfl) (by kernel_rfl) trivial rfl rfl ?_
        rintro _ _ ⟨x5, hx5, rfl, rfl⟩
        refine ⟨[], [], rfl, rfl, rfl, trivial, trivial, rfl, ?_⟩
        refine OT.evs KnownOk.none noC_ok [8, 9, 10] [] (by kernel_rfl) ?_
        refine OT.nil ?_
        refine CT.condB (!x5) rfl (by kernel_rfl) (fun hb6 => ?_) (fun hb6 => ?_)
        · refine CT.seq ?_
          refine CT.ev KnownOk.none mixed noC_ok 1000 (by kernel_rfl) ?_
          refine CT.ret (retQ (by kernel_rfl) ?_)
          exact ⟨.int .i64 1, ⟨1, [(0, .cells (rowOf encH xs) 40)]⟩, [0], [.flat], rfl, rfl, ⟨⟨rfl, by kernel_rfl⟩, trivial⟩, by kernel_rfl, by kernel_rfl, ⟨⟨encH_flat _, by kernel_rfl⟩, trivial⟩, rfl, rfl, by kernel_rfl, 1, (fun h => by first | exact absurd h (by decide) | exact (fun j hj => hok j (by omega)) | (exfalso; simp_all; done)), rfl, rfl⟩
        · refine CT.seq ?_
          refine CT.region [0, 1, 2, 3, 4] rfl rfl ?_
          refine OT.evs KnownOk.none noC_ok [0, 1] [2, 3, 4] (by kernel_rfl) ?_
          refine OT.callE [] [] (keyRS (x.t) (by assumption)) (by kernel_rfl) (by kernel_rfl) (by kernel_rfl) rfl (by kernel_rfl) (by kernel_rfl) trivial rfl rfl ?_
          rintro _ _ ⟨x7, hx7, rfl, rfl⟩
          refine ⟨[], [], rfl, rfl, rfl, trivial, trivial, rfl, ?_⟩
          refine OT.evs KnownOk.none noC_ok [3, 4] [] (by kernel_rfl) ?_
          refine OT.nil ?_
          refine CT.condB (!x7) rfl (by kernel_rfl) (fun hb8 => ?_) (fun hb8 => ?_)
          · refine CT.seq ?_
            refine CT.ev KnownOk.none mixed noC_ok 1000 (by kernel_rfl) ?_
            refine CT.ret (retQ (by kernel_rfl) ?_)
            exact ⟨.int .i64 5, ⟨1, [(0, .cells (rowOf encH xs) 40)]⟩, [0], [.flat], rfl, rfl, ⟨⟨rfl, by kernel_rfl⟩, trivial⟩, by kernel_rfl, by kernel_rfl, ⟨⟨encH_flat _, by kernel_rfl⟩, trivial⟩, rfl, rfl, by kernel_rfl, 5, (fun h => by first | exact absurd h (by decide) | exact (fun j hj => hok j (by omega)) | (exfalso; simp_all; done)), rfl, rfl⟩
          · refine CT.skip ?_
            refine CT.seq ?_
            refine CT.seq ?_
            refine CT.region [0, 1, 2, 3] rfl rfl ?_
            refine OT.evs KnownOk.none noC_ok [0, 1] [2, 3] (by kernel_rfl) ?_
            refine OT.callE [] [] (pfS _ (by assumption)) (by kernel_rfl) (by kernel_rfl) (by kernel_rfl) rfl (by kernel_rfl) (by kernel_rfl) trivial rfl rfl ?_
            rintro _ _ ⟨x9, hx9, rfl, rfl⟩
            refine ⟨[], [], rfl, rfl, rfl, trivial, trivial, rfl, ?_⟩
            refine OT.evs KnownOk.none noC_ok [3] [] (by kernel_rfl) ?_
            refine OT.nil ?_
            refine CT.seq ?_
            refine CT.ev KnownOk.none mixed noC_ok 1000 (by kernel_rfl) ?_
            refine CT.condB (x9 != 0) rfl (by kernel_rfl) (fun hb10 => ?_) (fun hb10 => ?_)
            · refine CT.seq ?_
              refine CT.ev KnownOk.none mixed noC_ok 1000 (by kernel_rfl) ?_
              refine CT.ret (retQ (by kernel_rfl) ?_)
              exact ⟨.int .i64 (x9), ⟨1, [(0, .cells (rowOf encH xs) 40)]⟩, [0], [.flat], rfl, rfl, ⟨⟨rfl, by kernel_rfl⟩, trivial⟩, by kernel_rfl, by kernel_rfl, ⟨⟨encH_flat _, by kernel_rfl⟩, trivial⟩, rfl, rfl, by kernel_rfl, (x9), (fun h => by first | exact absurd h (by decide) | exact (fun j hj => hok j (by omega)) | (exfalso; simp_all; done)), rfl, rfl⟩
            · refine CT.skip ?_
              refine CT.seq ?_
              refine CT.planX mixed [(0, true), (1, true), (2, true), (3, true), (4, true), (5, true), (6, true), (7, true), (8, true), (9, true), (10, true), (11, true), (12, true), (13, true), (14, true), (15, true), (16, true), (17, true), (18, true), (19, true), (20, true), (21, false), (22, true), (23, true)] rfl (by kernel_rfl) (by kernel_rfl) ?_
              refine DX.evs [(0, true), (1, true), (2, true)] [(3, true), (4, true), (5, true), (6, true), (7, true), (8, true), (9, true), (10, true), (11, true), (12, true), (13, true), (14, true), (15, true), (16, true), (17, true), (18, true), (19, true), (20, true), (21, false), (22, true), (23, true)] (by kernel_rfl) ?_
              refine DX.boolD 40 (i > (0 : Int)) (by kernel_rfl) (fun hb11 => ?_) (fun hb11 => ?_)
              · refine DX.evs [(3, true), (4, true), (5, true)] [(6, true), (7, true), (8, true), (9, true), (10, true), (11, true), (12, true), (13, true), (14, true), (15, true), (16, true), (17, true), (18, true), (19, true), (20, true), (21, false), (22, true), (23, true)] (by kernel_rfl) ?_
                refine DX.idxF (Operand.tmp 41) (Operand.tmp 43) 5 0 0 (xs.length) 36893488147419103232 IntKind.i64 (Go.IntKind.i64.wrap (i - 1)) (by kernel_rfl) (by kernel_rfl) (by kernel_rfl) (by kernel_rfl) (by kernel_rfl) (by first | omega | (rw [pred_eq (by omega) (by omega)]; omega)) (by first | omega | (rw [pred_eq (by omega) (by omega)]; omega)) (by kernel_rfl) (by kernel_rfl) ?_
                refine DX.evs [(7, true)] [(8, true), (9, true), (10, true), (11, true), (12, true), (13, true), (14, true), (15, true), (16, true), (17, true), (18, true), (19, true), (20, true), (21, false), (22, true), (23, true)] (by kernel_rfl) ?_
                first
                | refine DX.loadF (Operand.tmp 45) ⟨0, (0 + ((Go.IntKind.i64.wrap (i - 1)).toNat * 5)), none⟩ (.int .i64 (xs.getD (i - 1).toNat x).s) (by kernel_rfl) (by kernel_rfl) (by kernel_rfl) (by kernel_rfl) (cellF_row (cs := rowOf encH xs) (e := 40) (f := (0, 0)) (by kernel_rfl) (rowOf_cellO (o := (0 + ((Go.IntKind.i64.wrap (i - 1)).toNat * 5))) encH_len xs (i - 1).toNat 0 (by rw [pred_eq (by omega) (by omega)]; omega) (getD_some' (by omega)) rfl)) (by kernel_rfl) (by kernel_rfl) ?_
                | refine DX.loadF (Operand.tmp 45) ⟨0, (0 + ((Go.IntKind.i64.wrap (i - 1)).toNat * 5)), none⟩ (.int .i64 (xs.getD (i - 1).toNat x).p) (by kernel_rfl) (by kernel_rfl) (by kernel_rfl) (by kernel_rfl) (cellF_row (cs := rowOf encH xs) (e := 40) (f := (0, 0)) (by kernel_rfl) (rowOf_cellO (o := (0 + ((Go.IntKind.i64.wrap (i - 1)).toNat * 5))) encH_len xs (i - 1).toNat 1 (by rw [pred_eq (by omega) (by omega)]; omega) (getD_some' (by omega)) rfl)) (by kernel_rfl) (by kernel_rfl) ?_
                refine DX.evs [(9, true), (10, true), (11, true)] [(12, true), (13, true), (14, true), (15, true), (16, true), (17, true), (18, true), (19, true), (20, true), (21, false), (22, true), (23, true)] (by kernel_rfl) ?_
                refine DX.idxF (Operand.tmp 47) (Operand.tmp 49) 5 0 0 (xs.length) 36893488147419103232 IntKind.i64 (Go.IntKind.i64.wrap (i - 1)) (by kernel_rfl) (by kernel_rfl) (by kernel_rfl) (by kernel_rfl) (by kernel_rfl) (by first | omega | (rw [pred_eq (by omega) (by omega)]; omega)) (by first | omega | (rw [pred_eq (by omega) (by omega)]; omega)) (by kernel_rfl) (by kernel_rfl) ?_
                refine DX.evs [(13, true)] [(14, true), (15, true), (16, true), (17, true), (18, true), (19, true), (20, true), (21, false), (22, true), (23, true)] (by kernel_rfl) ?_
                first
                | refine DX.loadF (Operand.tmp 51) ⟨0, ((0 + ((Go.IntKind.i64.wrap (i - 1)).toNat * 5)) + 1), none⟩ (.int .i64 (xs.getD (i - 1).toNat x).s) (by kernel_rfl) (by kernel_rfl) (by kernel_rfl) (by kernel_rfl) (cellF_row (cs := rowOf encH xs) (e := 40) (f := (0, 0)) (by kernel_rfl) (rowOf_cellO (o := ((0 + ((Go.IntKind.i64.wrap (i - 1)).toNat * 5)) + 1)) encH_len xs (i - 1).toNat 0 (by rw [pred_eq (by omega) (by omega)]; omega) (getD_some' (by omega)) rfl)) (by kernel_rfl) (by kernel_rfl) ?_
                | refine DX.loadF (Operand.tmp 51) ⟨0, ((0 + ((Go.IntKind.i64.wrap (i - 1)).toNat * 5)) + 1), none⟩ (.int .i64 (xs.getD (i - 1).toNat x).p) (by kernel_rfl) (by kernel_rfl) (by kernel_rfl) (by kernel_rfl) (cellF_row (cs := rowOf encH xs) (e := 40) (f := (0, 0)) (by kernel_rfl) (rowOf_cellO (o := ((0 + ((Go.IntKind.i64.wrap (i - 1)).toNat * 5)) + 1)) encH_len xs (i - 1).toNat 1 (by rw [pred_eq (by omega) (by omega)]; omega) (getD_some' (by omega)) rfl)) (by kernel_rfl) (by kernel_rfl) ?_
                refine DX.evs [(15, true), (16, true), (17, true), (18, true), (19, true), (20, true)] [(21, false), (22, true), (23, true)] (by kernel_rfl) ?_
                refine DX.callE [3, 4] [.flat, .flat] (cmp2S ((xs.getD (i - 1).toNat x).s) ((xs.getD (i - 1).toNat x).p) (x.s) (x.p) 2 2) (by kernel_rfl) (by kernel_rfl) (by kernel_rfl) rfl (by kernel_rfl) (by kernel_rfl) ⟨⟨ints_flat _, by kernel_rfl⟩, ⟨ints_flat _, by kernel_rfl⟩, trivial⟩ rfl rfl ?_
                rintro _ _ ⟨rfl, rfl⟩
                refine ⟨[.keep, .keep], [], rfl, rfl, rfl, ⟨by kernel_rfl, by kernel_rfl, trivial⟩, trivial, rfl, ?_⟩
                refine ⟨.inl (by kernel_rfl), ?_⟩
                refine DX.evs [(22, true), (23, true)] [] (by kernel_rfl) ?_
                refine DX.nil ?_
                refine CT.condD (Go.Proofs.Tryz.cmp2 (xs.getD (i - (1 : Int)).toNat x).s (xs.getD (i - (1 : Int)).toNat x).p x.s x.p ≥ (0 : Int)) rfl (by kernel_rfl) (fun hb15 => ?_) (fun hb15 => ?_)
                · refine CT.seq ?_
                  refine CT.ev KnownOk.none mixed noC_ok 1000 (by kernel_rfl) ?_
                  refine CT.ret (retQ (by kernel_rfl) ?_)
                  exact ⟨.int .i64 7, ⟨1, [(0, .cells (rowOf encH xs) 40)]⟩, [0], [.flat], rfl, rfl, ⟨⟨rfl, by kernel_rfl⟩, trivial⟩, by kernel_rfl, by kernel_rfl, ⟨⟨encH_flat _, by kernel_rfl⟩, trivial⟩, rfl, rfl, by kernel_rfl, 7, (fun h => by first | exact absurd h (by decide) | exact (fun j hj => hok j (by omega)) | (exfalso; simp_all; done)), rfl, rfl⟩
                · refine CT.skip ?_
                  refine CT.ev KnownOk.none mixed noC_ok 1000 (by kernel_rfl) ?_
                  exact ⟨IntKind.wrap .i64 (i + 1), (by rw [succ_eq (by omega) (by omega)]; omega), ⟨(by rw [succ_eq (by omega) (by omega)]; omega), (by rw [succ_eq (by omega) (by omega)]; omega), fun j hj => by
                    rw [succ_eq (by omega) (by omega)] at hj
                    by_cases hji : (j : Int) < i
                    · exact hok j hji
                    · obtain rfl : j = i.toNat := by omega
                      exact ⟨x, hx, hx3.1 (by simpa using hb4), hx5.1 (by simpa using hb6), hx7 (by simpa using hb8), hx9 (by simpa using hb10), fun y h0 hy => by
                        first
                        | (exfalso; omega)
                        | exact cmp2_lex x (by omega) hy (by omega)⟩⟩, [0], [.flat], rfl, rfl, ⟨⟨rfl, by kernel_rfl⟩, trivial⟩, by kernel_rfl, by kernel_rfl, ⟨⟨encH_flat _, by kernel_rfl⟩, trivial⟩, by kernel_rfl, by kernel_rfl, by kernel_rfl, ⟨⟨rfl, by kernel_rfl⟩, ⟨rfl, by kernel_rfl⟩, ⟨rfl, by kernel_rfl⟩, ⟨rfl, by kernel_rfl⟩, trivial⟩⟩
              · refine DX.evs [(3, true), (4, true), (5, true), (6, true), (7, true), (8, true), (9, true), (10, true), (11, true), (12, true), (13, true), (14, true), (15, true), (16, true), (17, true), (18, true), (19, true), (20, true), (21, false), (22, true), (23, true)] [] (by kernel_rfl) ?_
                refine DX.nil ?_
                refine CT.condF rfl (by kernel_rfl) ?_
                refine CT.skip ?_
                refine CT.ev KnownOk.none mixed noC_ok 1000 (by kernel_rfl) ?_
                exact ⟨IntKind.wrap .i64 (i + 1), (by rw [succ_eq (by omega) (by omega)]; omega), ⟨(by rw [succ_eq (by omega) (by omega)]; omega), (by rw [succ_eq (by omega) (by omega)]; omega), fun j hj => by
                  rw [succ_eq (by omega) (by omega)] at hj
                  by_cases hji : (j : Int) < i
                  · exact hok j hji
                  · obtain rfl : j = i.toNat := by omega
                    exact ⟨x, hx, hx3.1 (by simpa using hb4), hx5.1 (by simpa using hb6), hx7 (by simpa using hb8), hx9 (by simpa using hb10), fun y h0 hy => by
                      first
                      | (exfalso; omega)
                      | exact cmp2_lex x (by omega) hy (by omega)⟩⟩, [0], [.flat], rfl, rfl, ⟨⟨rfl, by kernel_rfl⟩, trivial⟩, by kernel_rfl, by kernel_rfl, ⟨⟨encH_flat _, by kernel_rfl⟩, trivial⟩, by kernel_rfl, by kernel_rfl, by kernel_rfl, ⟨⟨rfl, by kernel_rfl⟩, ⟨rfl, by kernel_rfl⟩, ⟨rfl, by kernel_rfl⟩, ⟨rfl, by kernel_rfl⟩, trivial⟩⟩
    · refine CT.exit ?_
      refine CT.seq ?_
      refine CT.ev KnownOk.none mixed noC_ok 1000 (by kernel_rfl) ?_
      refine CT.ret (retQ (by kernel_rfl) ?_)
      exact ⟨.int .i64 0, ⟨1, [(0, .cells (rowOf encH xs) 40)]⟩, [0], [.flat], rfl, rfl, ⟨⟨rfl, by kernel_rfl⟩, trivial⟩, by kernel_rfl, by kernel_rfl, ⟨⟨encH_flat _, by kernel_rfl⟩, trivial⟩, rfl, rfl, by kernel_rfl, 0, (fun h => by first | exact absurd h (by decide) | exact (fun j hj => hok j (by omega)) | (exfalso; simp_all; done)), rfl, rfl⟩
end Go.Proofs.Tryz


namespace Go.Proofs.Tryz
open Go Go.Abs
set_option maxHeartbeats 0
theorem rightS {Γ : Gl} (s : Src) (at_ m : Int) (h0 : 0 ≤ at_) (h1 : at_ < 1099511500000) (hm : 1 ≤ m) (hm2 : m ≤ 20) :
    FT prog Γ 4 #[.pointer (some ⟨1, 0, none⟩), .int .i64 m] (s.h at_) fun v h => ∃ hs t, (hs = [] ∨ (goodH hs ∧ okH hs ∧ (hs.length : Int) = m)) ∧ (at_ ≤ t ∧ t ≤ at_ + 2000) ∧ v = honV hs ∧ h = s.hon t hs := by
  refine FT.tidy (FT.body func4 rfl ?_)
  refine CT.seq ?_
  refine CT.ev KnownOk.none mixed noC_ok 1000 (by kernel_rfl) ?_
  refine CT.seq ?_
  refine CT.seq ?_
  refine CT.ev KnownOk.none mixed noC_ok 1000 (by kernel_rfl) ?_
  refine CT.block ?_
  refine CT.loopT (S := Int × Int) (fun x => 5 - x.1.toNat) 16 (fun x => [(0, .pointer (some ⟨1, 0, none⟩)), (1, .int .i64 m), (6, .int .i64 x.1)]) (fun x => s.h x.2) (fun x => 0 ≤ x.1 ∧ x.1 ≤ 5 ∧ at_ ≤ x.2 ∧ x.2 ≤ at_ + 400 * x.1) (0, at_) rfl ⟨(by dsimp only; omega), (by dsimp only; omega), (by dsimp only; omega), (by dsimp only; omega)⟩ ⟨[0, 1], [.flat, .fix], rfl, rfl, ⟨⟨rfl, by kernel_rfl⟩, ⟨rfl, by kernel_rfl⟩, trivial⟩, by kernel_rfl, by kernel_rfl, ⟨⟨s.row_flat, by kernel_rfl⟩, ⟨⟨s.plain _ _ rfl, s.fix _ _ rfl⟩, by kernel_rfl⟩, trivial⟩, by kernel_rfl, by kernel_rfl, by kernel_rfl, ⟨⟨rfl, by kernel_rfl⟩, ⟨rfl, by kernel_rfl⟩, ⟨rfl, by kernel_rfl⟩, trivial⟩⟩ ?_
  rintro ⟨i, t⟩ ⟨hi0, hi1, ht0, ht1⟩ tail
  dsimp only at hi0 hi1 ht0 ht1
  refine CT.seq ?_
  refine CT.ev KnownOk.none mixed noC_ok 1000 (by kernel_rfl) ?_
  refine CT.seq ?_
  refine CT.condD (i < (5 : Int)) rfl (by kernel_rfl) (fun hb0 => ?_) (fun hb0 => ?_)
  · refine CT.skip ?_
    refine CT.seq ?_
    refine CT.block ?_
    refine CT.seq ?_
    refine CT.region [0, 1, 2, 3] rfl rfl ?_
    refine OT.evs KnownOk.none noC_ok [0, 1] [2, 3] (by kernel_rfl) ?_
    refine OT.callE [0, 1] [.flat, .fix] (honoursS s (t) (m) (by omega) (by omega) (by omega) (by omega)) (by kernel_rfl) (by kernel_rfl) (by kernel_rfl) rfl (by kernel_rfl) (by kernel_rfl) ⟨⟨s.row_flat, by kernel_rfl⟩, ⟨⟨s.plain _ _ rfl, s.fix _ _ rfl⟩, by kernel_rfl⟩, trivial⟩ rfl rfl ?_
    rintro _ _ ⟨hs, t2, hg, hlen, ht, rfl, rfl⟩
    obtain ⟨hd, tl, rfl⟩ : ∃ hd tl, hs = hd :: tl := by
      cases hs with
      | nil => exfalso; simp at hlen; omega
      | cons hd tl => exact ⟨hd, tl, rfl⟩
    refine ⟨[.keep, .fix], [.flat], rfl, rfl, rfl, ⟨by kernel_rfl, ⟨s.pl _, s.fix _ _ rfl⟩, trivial⟩, ⟨encH_flat _, trivial⟩, rfl, ?_⟩
    refine OT.evs KnownOk.none noC_ok [3] [] (by kernel_rfl) ?_
    refine OT.nil ?_
    refine CT.seq ?_
    refine CT.region [0, 1, 2] rfl rfl ?_
    refine OT.evs KnownOk.none noC_ok [0] [1, 2] (by kernel_rfl) ?_
    refine OT.callE [3] [.flat] (faultS (hd :: tl) (by assumption) (by omega)) (by kernel_rfl) (by kernel_rfl) (by kernel_rfl) rfl (by kernel_rfl) (by kernel_rfl) ⟨⟨encH_flat _, by kernel_rfl⟩, trivial⟩ rfl rfl ?_
    rintro _ _ ⟨e, he, rfl, rfl⟩
    refine ⟨[.keep], [], rfl, rfl, rfl, ⟨by kernel_rfl, trivial⟩, trivial, rfl, ?_⟩
    refine OT.evs KnownOk.none noC_ok [2] [] (by kernel_rfl) ?_
    refine OT.nil ?_
    refine CT.condB (e == 0) rfl (by kernel_rfl) (fun hb3 => ?_) (fun hb3 => ?_)
    · refine CT.seq ?_
      refine CT.ev KnownOk.none mixed noC_ok 1000 (by kernel_rfl) ?_
      refine CT.ret (retQ (by kernel_rfl) ?_)
      exact ⟨honV (hd :: tl), s.hon t2 (hd :: tl), [0, 1, 3], [.flat, .fix, .flat], rfl, rfl, ⟨⟨rfl, by kernel_rfl⟩, ⟨rfl, by kernel_rfl⟩, trivial⟩, by kernel_rfl, by kernel_rfl, ⟨⟨s.row_flat, by kernel_rfl⟩, ⟨⟨s.plain _ _ rfl, s.fix _ _ rfl⟩, by kernel_rfl⟩, ⟨encH_flat _, by kernel_rfl⟩, trivial⟩, rfl, rfl, by kernel_rfl, hd :: tl, t2, .inr ⟨hg, he (by simp_all), hlen⟩, ⟨by omega, by omega⟩, rfl, rfl⟩
    · refine CT.skip ?_
      refine CT.ev KnownOk.none mixed noC_ok 1000 (by kernel_rfl) ?_
      exact ⟨((Go.IntKind.i64.wrap (i + 1)), (t2)), (by dsimp only; rw [succ_eq (by omega) (by omega)]; omega), ⟨(by dsimp only; rw [succ_eq (by omega) (by omega)]; omega), (by dsimp only; rw [succ_eq (by omega) (by omega)]; omega), (by dsimp only; omega), (by dsimp only; rw [succ_eq (by omega) (by omega)]; omega)⟩, [0, 1], [.flat, .fix], rfl, rfl, ⟨⟨rfl, by kernel_rfl⟩, ⟨rfl, by kernel_rfl⟩, trivial⟩, by kernel_rfl, by kernel_rfl, ⟨⟨s.row_flat, by kernel_rfl⟩, ⟨⟨s.plain _ _ rfl, s.fix _ _ rfl⟩, by kernel_rfl⟩, trivial⟩, by kernel_rfl, by kernel_rfl, by kernel_rfl, ⟨⟨rfl, by kernel_rfl⟩, ⟨rfl, by kernel_rfl⟩, ⟨rfl, by kernel_rfl⟩, trivial⟩⟩
  · refine CT.exit ?_
    refine CT.seq ?_
    refine CT.ev KnownOk.none mixed noC_ok 1000 (by kernel_rfl) ?_
    refine CT.ret (retQ (by kernel_rfl) ?_)
    exact ⟨.slice none 0 0, s.h t, [0, 1], [.flat, .fix], rfl, rfl, ⟨⟨rfl, by kernel_rfl⟩, ⟨rfl, by kernel_rfl⟩, trivial⟩, by kernel_rfl, by kernel_rfl, ⟨⟨s.row_flat, by kernel_rfl⟩, ⟨⟨s.plain _ _ rfl, s.fix _ _ rfl⟩, by kernel_rfl⟩, trivial⟩, rfl, rfl, by kernel_rfl, [], t, .inl rfl, ⟨by omega, by omega⟩, rfl, rfl⟩
end Go.Proofs.Tryz

/-
Rules in the shape that a printed walk likes: flat blocks by counting, what a call leaves.
-/
namespace Go.Abs
open Go
variable {P : Program} {Γ : Gl} {ρ : Ren} {α β : Type}

def flatB : Obj → Bool
  | .cells c _ _ => c.toList.all flat
  | .map es _ => es.toList.all fun m => flat m.val
  | .stringIter _ _ => true
  | .deferred _ => true
  | .coro none => true
  | _ => false

theorem flatO_of {o : Obj} (h : flatB o = true) : FlatO o := by
  unfold flatB at h
  unfold FlatO
  split at h
  · intro v hv
    exact List.all_eq_true.1 h v (by simpa using hv)
  · intro m hm
    exact List.all_eq_true.1 h m (by simpa using hm)
  · trivial
  · trivial
  · trivial
  · cases h

def TidyE (h : FH) (v : Value) (h1 : FH) (v2 : Value) (h2 : FH) : Prop := ∃ (σ : List Nat) (tags : List Tag), tags.length = h2.n ∧ Nat.ble h.n h2.n = true ∧ OldE (fnL σ) h2 h1 h.n ∧ allLt (fnL σ) h1.n h2.n = true ∧
  injB (fnL σ) h2.n = true ∧ InE (fnL σ) h2 h1 0 tags ∧ plainV v2 = true ∧ underV h2.n v2 = true ∧ v = renV (fnL σ) v2

theorem Tidy.of {h h1 : FH} {v : Value} {Q : Value → FH → Prop} (v2 : Value) (h2 : FH) (q : Q v2 h2) (t : TidyE h v h1 v2 h2) : Tidy h Q v h1 := by
  obtain ⟨σ, tags, a1, a2, a3, a4, a5, a6, a7, a8, a9⟩ := t
  exact ⟨v2, h2, σ, tags, a1, a2, a3, a4, a5, a6, a7, a8, a9, q⟩

end Go.Abs


namespace Go.Proofs.Tryz
open Go Go.Abs
set_option maxHeartbeats 0
theorem outS {Γ : Gl} (x lo hi : Int) (h : lo ≤ x ∧ x ≤ hi) : FT prog Γ 24 #[.int .i64 x, .int .i64 lo, .int .i64 hi] ⟨0, []⟩ fun v h => v = .bool false ∧ h = ⟨0, []⟩ := by
  refine FT.tidy (FT.body func24 rfl ?_)
  refine CT.seq ?_
  refine CT.ev KnownOk.none mixed noC_ok 1000 (by kernel_rfl) ?_
  refine CT.seq ?_
  refine CT.region [0, 1, 2, 3, 4, 5, 6, 7, 8] rfl rfl ?_
  refine OT.evs KnownOk.none noC_ok [0, 1, 2, 3] [4, 5, 6, 7, 8] (by kernel_rfl) ?_
  refine OT.boolD 10 (x < lo) (by kernel_rfl) (fun hb0 => ?_) (fun hb0 => ?_)
  · exfalso; omega
  · refine OT.evs KnownOk.none noC_ok [4, 5, 6, 7, 8] [] (by kernel_rfl) ?_
    refine OT.nil ?_
    refine CT.ret (retQ (by kernel_rfl) ?_)
    refine Tidy.of (.bool false) ⟨0, []⟩ ⟨rfl, rfl⟩ ?_
    · exact ⟨[], [], rfl, rfl, trivial, by kernel_rfl, by kernel_rfl, trivial, rfl, rfl, (by kernel_rfl : _ = Value.bool (decide (x > hi))).trans (by rw [decide_eq_false (by omega)]; rfl)⟩

def orI (a b : Int) : Int := if a ≠ 0 then a else b
theorem orS {Γ : Gl} (a b : Int) (k : Nat) : FT prog Γ 60 #[.slice (some ⟨0, 0, none⟩) 2 k] ⟨1, [(0, .cells (ints [a, b]) 3)]⟩ fun v h => v = .int .i64 (orI a b) ∧ h = ⟨1, [(0, .cells (ints [a, b]) 3)]⟩ := by
  refine FT.sameRet (FT.body func60 rfl ?_)
  refine CT.seq ?_
  refine CT.ev KnownOk.none mixed noC_ok 1000 (by kernel_rfl) ?_
  refine CT.seq ?_
  refine CT.ev KnownOk.none mixed noC_ok 1000 (by kernel_rfl) ?_
  refine CT.seq ?_
  refine CT.seq ?_
  refine CT.ev KnownOk.none mixed noC_ok 1000 (by kernel_rfl) ?_
  refine CT.block ?_
  refine CT.loop ?_
  refine CT.seq ?_
  refine CT.ev KnownOk.none mixed noC_ok 1000 (by kernel_rfl) ?_
  refine CT.seq ?_
  refine CT.condT rfl (by kernel_rfl) ?_
  refine CT.skip ?_
  refine CT.seq ?_
  refine CT.block ?_
  refine CT.seq ?_
  refine CT.ev KnownOk.none mixed noC_ok 1000 (by kernel_rfl) ?_
  refine CT.seq ?_
  refine CT.ev KnownOk.none mixed noC_ok 1000 (by kernel_rfl) ?_
  refine CT.condB (a != 0) rfl (by kernel_rfl) (fun hb0 => ?_) (fun hb0 => ?_)
  · refine CT.seq ?_
    refine CT.ev KnownOk.none mixed noC_ok 1000 (by kernel_rfl) ?_
    refine CT.ret (retQ (by kernel_rfl) ?_)
    exact ⟨_, FH.toH_eq (by kernel_rfl) (by kernel_rfl), (by kernel_rfl : _ = Value.int .i64 a).trans (by rw [orI, if_pos (by simpa using hb0)]), rfl⟩
  · refine CT.skip ?_
    refine CT.ev KnownOk.none mixed noC_ok 1000 (by kernel_rfl) ?_
    refine CT.loop ?_
    refine CT.seq ?_
    refine CT.ev KnownOk.none mixed noC_ok 1000 (by kernel_rfl) ?_
    refine CT.seq ?_
    refine CT.condT rfl (by kernel_rfl) ?_
    refine CT.skip ?_
    refine CT.seq ?_
    refine CT.block ?_
    refine CT.seq ?_
    refine CT.ev KnownOk.none mixed noC_ok 1000 (by kernel_rfl) ?_
    refine CT.seq ?_
    refine CT.ev KnownOk.none mixed noC_ok 1000 (by kernel_rfl) ?_
    refine CT.condB (b != 0) rfl (by kernel_rfl) (fun hb1 => ?_) (fun hb1 => ?_)
    · refine CT.seq ?_
      refine CT.ev KnownOk.none mixed noC_ok 1000 (by kernel_rfl) ?_
      refine CT.ret (retQ (by kernel_rfl) ?_)
      exact ⟨_, FH.toH_eq (by kernel_rfl) (by kernel_rfl), (by kernel_rfl : _ = Value.int .i64 b).trans (by rw [orI, if_neg (by simpa using hb0)]), rfl⟩
    · refine CT.skip ?_
      refine CT.ev KnownOk.none mixed noC_ok 1000 (by kernel_rfl) ?_
      refine CT.loop ?_
      refine CT.seq ?_
      refine CT.ev KnownOk.none mixed noC_ok 1000 (by kernel_rfl) ?_
      refine CT.seq ?_
      refine CT.condF rfl (by kernel_rfl) ?_
      refine CT.exit ?_
      refine CT.seq ?_
      refine CT.ev KnownOk.none mixed noC_ok 1000 (by kernel_rfl) ?_
      refine CT.ret (retQ (by kernel_rfl) ?_)
      exact ⟨_, FH.toH_eq (by kernel_rfl) (by kernel_rfl), (by kernel_rfl : _ = Value.int .i64 0).trans (by rw [orI, if_neg (by simpa using hb0)]; simp at hb1; rw [hb1]), rfl⟩

theorem bySeasonS {Γ : Gl} (x y : Hon) : FT prog Γ 31 #[.agg ⟨encH x⟩, .agg ⟨encH y⟩] ⟨0, []⟩ fun v h => v = .int .i64 (orI (cmpI x.s y.s) (cmpI x.p y.p)) ∧ h = ⟨0, []⟩ := by
  refine FT.tidy (FT.body func31 rfl ?_)
  refine CT.seq ?_
  refine CT.ev KnownOk.none mixed noC_ok 1000 (by kernel_rfl) ?_
  refine CT.seq ?_
  refine CT.planX mixed [(0, true), (1, true), (2, true), (3, true), (5, true), (6, true), (7, true), (8, true), (4, false), (9, false), (10, true), (11, false), (12, true)] rfl (by kernel_rfl) (by kernel_rfl) ?_
  refine DX.evs [(0, true), (1, true), (2, true), (3, true), (5, true), (6, true), (7, true), (8, true)] [(4, false), (9, false), (10, true), (11, false), (12, true)] (by kernel_rfl) ?_
  refine DX.callE [] [] (cmpS (x.s) (y.s)) (by kernel_rfl) (by kernel_rfl) (by kernel_rfl) rfl (by kernel_rfl) (by kernel_rfl) trivial rfl rfl ?_
  rintro _ _ ⟨rfl, rfl⟩
  refine ⟨[], [], rfl, rfl, rfl, trivial, trivial, rfl, ?_⟩
  refine ⟨.inl (by kernel_rfl), ?_⟩
  refine DX.callE [] [] (cmpS (x.p) (y.p)) (by kernel_rfl) (by kernel_rfl) (by kernel_rfl) rfl (by kernel_rfl) (by kernel_rfl) trivial rfl rfl ?_
  rintro _ _ ⟨rfl, rfl⟩
  refine ⟨[], [], rfl, rfl, rfl, trivial, trivial, rfl, ?_⟩
  refine ⟨.inl (by kernel_rfl), ?_⟩
  refine DX.evs [(10, true)] [(11, false), (12, true)] (by kernel_rfl) ?_
  refine DX.callE [2] [.flat] (orS (Go.Proofs.Tryz.cmpI x.s y.s) (Go.Proofs.Tryz.cmpI x.p y.p) 2) (by kernel_rfl) (by kernel_rfl) (by kernel_rfl) rfl (by kernel_rfl) (by kernel_rfl) ⟨⟨flatO_of (by kernel_rfl), by kernel_rfl⟩, trivial⟩ rfl rfl ?_
  rintro _ _ ⟨rfl, rfl⟩
  refine ⟨[.keep], [], rfl, rfl, rfl, ⟨by kernel_rfl, trivial⟩, trivial, rfl, ?_⟩
  refine ⟨.inl (by kernel_rfl), ?_⟩
  refine DX.evs [(12, true)] [] (by kernel_rfl) ?_
  refine DX.nil ?_
  refine CT.ret (retQ (by kernel_rfl) ?_)
  refine Tidy.of (.int .i64 (orI (cmpI x.s y.s) (cmpI x.p y.p))) ⟨0, []⟩ ⟨rfl, rfl⟩ ?_
  · exact ⟨[], [], rfl, rfl, trivial, by kernel_rfl, by kernel_rfl, trivial, rfl, rfl, by kernel_rfl⟩

def dfl : Hon := ⟨0, 0, ByteArray.empty, (0, 0)⟩
theorem okG {xs : List Hon} (h : okH xs) (j : Nat) (hj : j < xs.length) : (1 ≤ (xs.getD j dfl).s ∧ (xs.getD j dfl).s ≤ 200) ∧ (1 ≤ (xs.getD j dfl).p ∧ (xs.getD j dfl).p ≤ 20) ∧ (xs.getD j dfl).t ∈ teams3 ∧ (xs.getD j dfl).f ∈ okPts := by
  obtain ⟨x, hx, a1, a2, a3, a4, _⟩ := h j hj
  rw [List.getD_eq_getElem?_getD, hx]
  exact ⟨a1, a2, a3, a4⟩
theorem okI {xs : List Hon} (h : okH xs) (i : Int) (h1 : 1 ≤ i) (h2 : i < xs.length) : lexlt (xs.getD (i - 1).toNat dfl) (xs.getD i.toNat dfl) := by
  obtain ⟨x, hx, _, _, _, _, a5⟩ := h i.toNat (by omega)
  have e : i.toNat - 1 = (i - 1).toNat := by omega
  rw [List.getD_eq_getElem?_getD, List.getD_eq_getElem?_getD, hx]
  obtain ⟨y, hy⟩ : ∃ y, xs[i.toNat - 1]? = some y := ⟨_, List.getElem?_eq_getElem (by omega)⟩
  rw [← e, hy]
  exact a5 y (by omega) hy
theorem ors_gt {x y : Hon} (h : lexlt y x) : 0 < orI (cmpI x.s y.s) (cmpI x.p y.p) := by
  unfold lexlt at h
  unfold orI cmpI
  repeat' split <;> try omega
theorem ors_ls {x y : Hon} (h : lexlt y x) : orI (cmpI y.s x.s) (cmpI y.p x.p) < 0 := by
  unfold lexlt at h
  unfold orI cmpI
  repeat' split <;> try omega
theorem eq_no {x y : Hon} {r : Bool} (h : lexlt y x) (hb : (x.s == y.s && (x.p == y.p && r)) = true) : False := by
  unfold lexlt at h
  simp only [Bool.and_eq_true, beq_iff_eq] at hb
  omega

theorem chkS {Γ : Gl} (xs : List Hon) (hok : okH xs) (hn : xs.length ≤ 100) : FT prog Γ 28 #[.slice (some ⟨0, 0, none⟩) xs.length OPEN] ⟨1, [(0, .cells (rowOf encH xs) 40)]⟩
    fun v h => v = .int .i64 0 ∧ h = ⟨1, [(0, .cells (rowOf encH xs) 40)]⟩ := by
  refine FT.tidy (FT.body func28 rfl ?_)
  refine CT.seq ?_
  refine CT.ev KnownOk.none mixed noC_ok 1000 (by kernel_rfl) ?_
  refine CT.seq ?_
  refine CT.seq ?_
  refine CT.ev KnownOk.none mixed noC_ok 1000 (by kernel_rfl) ?_
  refine CT.condD (↑xs.length > (4000 : Int)) rfl (by kernel_rfl) (fun hb0 => ?_) (fun hb0 => ?_)
  · exfalso; omega
  · refine CT.skip ?_
    refine CT.seq ?_
    refine CT.seq ?_
    refine CT.ev KnownOk.none mixed noC_ok 1000 (by kernel_rfl) ?_
    refine CT.block ?_
    refine CT.loopT (S := Int) (fun x_ => xs.length - x_.toNat) 49 (fun x_ => [(0, .slice (some ⟨0, 0, none⟩) xs.length OPEN), (9, .slice (some ⟨0, 0, none⟩) xs.length OPEN), (10, .int .i64 xs.length), (11, .int .i64 x_)]) (fun x_ => ⟨1, [(0, .cells (rowOf encH xs) 40)]⟩) (fun x_ => 0 ≤ x_ ∧ x_ ≤ xs.length) (0) rfl (⟨by omega, by omega⟩) ?_ ?_
    · exact ⟨[0], [.flat], rfl, rfl, ⟨⟨rfl, by kernel_rfl⟩, trivial⟩, by kernel_rfl, by kernel_rfl, ⟨⟨encH_flat _, by kernel_rfl⟩, trivial⟩, by kernel_rfl, by kernel_rfl, by kernel_rfl, ⟨⟨rfl, by kernel_rfl⟩, ⟨rfl, by kernel_rfl⟩, ⟨rfl, by kernel_rfl⟩, ⟨rfl, by kernel_rfl⟩, trivial⟩⟩
    · rintro i ⟨hi0, hi1⟩ tail
      dsimp only at *
      have hlx : 1 ≤ i → i < xs.length → 0 < orI (cmpI (xs.getD i.toNat dfl).s (xs.getD (i - 1).toNat dfl).s) (cmpI (xs.getD i.toNat dfl).p (xs.getD (i - 1).toNat dfl).p) := fun a b => ors_gt (okI hok i a b)
      refine CT.seq ?_
      refine CT.ev KnownOk.none mixed noC_ok 1000 (by kernel_rfl) ?_
      refine CT.seq ?_
      refine CT.condD (i < ↑xs.length) rfl (by kernel_rfl) (fun hb1 => ?_) (fun hb1 => ?_)
      · refine CT.skip ?_
        refine CT.seq ?_
        refine CT.block ?_
        refine CT.seq ?_
        refine CT.region [0, 1, 2, 3, 4, 5] rfl rfl ?_
        refine OT.evs KnownOk.none noC_ok [0] [1, 2, 3, 4, 5] (by kernel_rfl) ?_
        refine OT.idxF (Operand.tmp 9) (Operand.tmp 11) 5 0 0 (xs.length) 36893488147419103232 IntKind.i64 (i) (by kernel_rfl) (by kernel_rfl) (by kernel_rfl) (by kernel_rfl) (by kernel_rfl) (by first | omega | (rw [pred_eq (by omega) (by omega)]; omega)) (by first | omega | (rw [pred_eq (by omega) (by omega)]; omega))  ?_
        obtain ⟨hs, hp, ht, hf⟩ := okG hok (i.toNat) (by omega)
        refine OT.loadS 0 (0 + (i.toNat * 5)) 5 (rowOf (Go.Proofs.Tryz.encH) (xs)) ⟨(Go.Proofs.Tryz.encH) ((xs).getD (i.toNat) dfl)⟩ (by kernel_rfl) (by kernel_rfl) (by kernel_rfl) (by kernel_rfl) (by kernel_rfl) (40) ((0, 0)) (by kernel_rfl) (row_get encH_len (xs) dfl (i.toNat) (0 + (i.toNat * 5)) (by first | rfl | omega | (simp (disch := omega) only [wrap_id]; done) | (simp (disch := omega) only [wrap_id]; omega)) (by first | omega | (simp only [List.length_append, List.length_cons, List.length_nil]; omega))).1 (row_get encH_len (xs) dfl (i.toNat) (0 + (i.toNat * 5)) (by first | rfl | omega | (simp (disch := omega) only [wrap_id]; done) | (simp (disch := omega) only [wrap_id]; omega)) (by first | omega | (simp only [List.length_append, List.length_cons, List.length_nil]; omega))).2  ?_
        refine OT.evs KnownOk.none noC_ok [3, 4, 5] [] (by kernel_rfl) ?_
        refine OT.nil ?_
        refine CT.seq ?_
        refine CT.block ?_
        refine CT.seq ?_
        refine CT.region [0, 1, 2, 3, 4, 5, 6, 7, 8] rfl rfl ?_
        refine OT.evs KnownOk.none noC_ok [0, 1] [2, 3, 4, 5, 6, 7, 8] (by kernel_rfl) ?_
        refine OT.callE [] [] (outS ((xs.getD i.toNat Go.Proofs.Tryz.dfl).s) 1 200 ⟨by omega, by omega⟩) (by kernel_rfl) (by kernel_rfl) (by kernel_rfl) rfl (by kernel_rfl) (by kernel_rfl) trivial rfl rfl ?_
        rintro _ _ ⟨rfl, rfl⟩
        refine ⟨[], [], rfl, rfl, rfl, trivial, trivial, rfl, ?_⟩
        refine OT.evs KnownOk.none noC_ok [3, 4, 5] [6, 7, 8] (by kernel_rfl) ?_
        refine OT.callE [] [] (outS ((xs.getD i.toNat Go.Proofs.Tryz.dfl).p) 1 20 ⟨by omega, by omega⟩) (by kernel_rfl) (by kernel_rfl) (by kernel_rfl) rfl (by kernel_rfl) (by kernel_rfl) trivial rfl rfl ?_
        rintro _ _ ⟨rfl, rfl⟩
        refine ⟨[], [], rfl, rfl, rfl, trivial, trivial, rfl, ?_⟩
        refine OT.evs KnownOk.none noC_ok [7, 8] [] (by kernel_rfl) ?_
        refine OT.nil ?_
        refine CT.condF rfl (by kernel_rfl) ?_
        refine CT.seq ?_
        refine CT.region [0, 1, 2, 3, 4] rfl rfl ?_
        refine OT.evs KnownOk.none noC_ok [0, 1] [2, 3, 4] (by kernel_rfl) ?_
        refine OT.callE [] [] (keyS ((xs.getD i.toNat Go.Proofs.Tryz.dfl).t) (by assumption)) (by kernel_rfl) (by kernel_rfl) (by kernel_rfl) rfl (by kernel_rfl) (by kernel_rfl) trivial rfl rfl ?_
        rintro _ _ ⟨rfl, rfl⟩
        refine ⟨[], [], rfl, rfl, rfl, trivial, trivial, rfl, ?_⟩
        refine OT.evs KnownOk.none noC_ok [3, 4] [] (by kernel_rfl) ?_
        refine OT.nil ?_
        refine CT.condF rfl (by kernel_rfl) ?_
        refine CT.skip ?_
        refine CT.seq ?_
        refine CT.seq ?_
        refine CT.region [0, 1, 2, 3] rfl rfl ?_
        refine OT.evs KnownOk.none noC_ok [0, 1] [2, 3] (by kernel_rfl) ?_
        refine OT.callE [] [] (amS _ (by assumption)) (by kernel_rfl) (by kernel_rfl) (by kernel_rfl) rfl (by kernel_rfl) (by kernel_rfl) trivial rfl rfl ?_
        rintro _ _ ⟨rfl, rfl⟩
        refine ⟨[], [], rfl, rfl, rfl, trivial, trivial, rfl, ?_⟩
        refine OT.evs KnownOk.none noC_ok [3] [] (by kernel_rfl) ?_
        refine OT.nil ?_
        refine CT.seq ?_
        refine CT.ev KnownOk.none mixed noC_ok 1000 (by kernel_rfl) ?_
        refine CT.condF rfl (by kernel_rfl) ?_
        refine CT.skip ?_
        refine CT.seq ?_
        refine CT.planX mixed [(0, true), (1, true), (2, true), (3, true), (4, true), (5, true), (6, true), (7, true), (8, true), (9, false), (10, true), (11, true)] rfl (by kernel_rfl) (by kernel_rfl) ?_
        refine DX.evs [(0, true), (1, true), (2, true)] [(3, true), (4, true), (5, true), (6, true), (7, true), (8, true), (9, false), (10, true), (11, true)] (by kernel_rfl) ?_
        refine DX.boolD 38 (i > (0 : Int)) (by kernel_rfl) (fun hb6 => ?_) (fun hb6 => ?_)
        · refine DX.evs [(3, true), (4, true), (5, true), (6, true)] [(7, true), (8, true), (9, false), (10, true), (11, true)] (by kernel_rfl) ?_
          refine DX.idxF (Operand.tmp 40) (Operand.tmp 42) 5 0 0 (xs.length) 36893488147419103232 IntKind.i64 (Go.IntKind.i64.wrap (i - 1)) (by kernel_rfl) (by kernel_rfl) (by kernel_rfl) (by kernel_rfl) (by kernel_rfl) (by first | omega | (rw [pred_eq (by omega) (by omega)]; omega)) (by first | omega | (rw [pred_eq (by omega) (by omega)]; omega)) (by kernel_rfl) (by kernel_rfl) ?_
          obtain ⟨hs, hp, ht, hf⟩ := okG hok ((i - 1).toNat) (by omega)
          refine DX.loadS 0 (0 + ((Go.IntKind.i64.wrap (i - 1)).toNat * 5)) 5 (rowOf (Go.Proofs.Tryz.encH) (xs)) ⟨(Go.Proofs.Tryz.encH) ((xs).getD ((i - 1).toNat) dfl)⟩ (by kernel_rfl) (by kernel_rfl) (by kernel_rfl) (by kernel_rfl) (by kernel_rfl) (40) ((0, 0)) (by kernel_rfl) (row_get encH_len (xs) dfl ((i - 1).toNat) (0 + ((Go.IntKind.i64.wrap (i - 1)).toNat * 5)) (by first | rfl | omega | (simp (disch := omega) only [wrap_id]; done) | (simp (disch := omega) only [wrap_id]; omega)) (by first | omega | (simp only [List.length_append, List.length_cons, List.length_nil]; omega))).1 (row_get encH_len (xs) dfl ((i - 1).toNat) (0 + ((Go.IntKind.i64.wrap (i - 1)).toNat * 5)) (by first | rfl | omega | (simp (disch := omega) only [wrap_id]; done) | (simp (disch := omega) only [wrap_id]; omega)) (by first | omega | (simp only [List.length_append, List.length_cons, List.length_nil]; omega))).2 (by kernel_rfl) (by kernel_rfl) ?_
          refine DX.callE [] [] (bySeasonS ⟨((xs.getD i.toNat Go.Proofs.Tryz.dfl).s), ((xs.getD i.toNat Go.Proofs.Tryz.dfl).p), ((xs.getD i.toNat Go.Proofs.Tryz.dfl).t), (((xs.getD i.toNat Go.Proofs.Tryz.dfl).f.fst), ((xs.getD i.toNat Go.Proofs.Tryz.dfl).f.snd))⟩ ⟨((xs.getD (i - 1).toNat Go.Proofs.Tryz.dfl).s), ((xs.getD (i - 1).toNat Go.Proofs.Tryz.dfl).p), ((xs.getD (i - 1).toNat Go.Proofs.Tryz.dfl).t), (((xs.getD (i - 1).toNat Go.Proofs.Tryz.dfl).f.fst), ((xs.getD (i - 1).toNat Go.Proofs.Tryz.dfl).f.snd))⟩) (by kernel_rfl) (by kernel_rfl) (by kernel_rfl) rfl (by kernel_rfl) (by kernel_rfl) trivial rfl rfl ?_
          rintro _ _ ⟨rfl, rfl⟩
          refine ⟨[], [], rfl, rfl, rfl, trivial, trivial, rfl, ?_⟩
          refine ⟨.inl (by kernel_rfl), ?_⟩
          refine DX.evs [(10, true), (11, true)] [] (by kernel_rfl) ?_
          refine DX.nil ?_
          refine CT.condD (Go.Proofs.Tryz.orI (Go.Proofs.Tryz.cmpI (xs.getD i.toNat Go.Proofs.Tryz.dfl).s (xs.getD (i - (1 : Int)).toNat Go.Proofs.Tryz.dfl).s) (Go.Proofs.Tryz.cmpI (xs.getD i.toNat Go.Proofs.Tryz.dfl).p (xs.getD (i - (1 : Int)).toNat Go.Proofs.Tryz.dfl).p) ≤ (0 : Int)) rfl (by kernel_rfl) (fun hb8 => ?_) (fun hb8 => ?_)
          · exfalso; omega
          · refine CT.skip ?_
            refine CT.ev KnownOk.none mixed noC_ok 1000 (by kernel_rfl) ?_
            refine ⟨IntKind.wrap .i64 (i + 1), (by rw [succ_eq (by omega) (by omega)]; omega), ⟨(by rw [succ_eq (by omega) (by omega)]; omega), (by rw [succ_eq (by omega) (by omega)]; omega)⟩, ?_⟩
            · exact ⟨[0], [.flat], rfl, rfl, ⟨⟨rfl, by kernel_rfl⟩, trivial⟩, by kernel_rfl, by kernel_rfl, ⟨⟨encH_flat _, by kernel_rfl⟩, trivial⟩, by kernel_rfl, by kernel_rfl, by kernel_rfl, ⟨⟨rfl, by kernel_rfl⟩, ⟨rfl, by kernel_rfl⟩, ⟨rfl, by kernel_rfl⟩, ⟨rfl, by kernel_rfl⟩, trivial⟩⟩
        · refine DX.evs [(3, true), (4, true), (5, true), (6, true), (7, true), (8, true), (9, false), (10, true), (11, true)] [] (by kernel_rfl) ?_
          refine DX.nil ?_
          refine CT.condF rfl (by kernel_rfl) ?_
          refine CT.skip ?_
          refine CT.ev KnownOk.none mixed noC_ok 1000 (by kernel_rfl) ?_
          refine ⟨IntKind.wrap .i64 (i + 1), (by rw [succ_eq (by omega) (by omega)]; omega), ⟨(by rw [succ_eq (by omega) (by omega)]; omega), (by rw [succ_eq (by omega) (by omega)]; omega)⟩, ?_⟩
          · exact ⟨[0], [.flat], rfl, rfl, ⟨⟨rfl, by kernel_rfl⟩, trivial⟩, by kernel_rfl, by kernel_rfl, ⟨⟨encH_flat _, by kernel_rfl⟩, trivial⟩, by kernel_rfl, by kernel_rfl, by kernel_rfl, ⟨⟨rfl, by kernel_rfl⟩, ⟨rfl, by kernel_rfl⟩, ⟨rfl, by kernel_rfl⟩, ⟨rfl, by kernel_rfl⟩, trivial⟩⟩
      · refine CT.exit ?_
        refine CT.seq ?_
        refine CT.ev KnownOk.none mixed noC_ok 1000 (by kernel_rfl) ?_
        refine CT.ret (retQ (by kernel_rfl) ?_)
        refine Tidy.of (.int .i64 0) ⟨1, [(0, .cells (rowOf encH xs) 40)]⟩ ⟨rfl, rfl⟩ ?_
        · exact ⟨[0], [.flat], rfl, rfl, ⟨⟨rfl, by kernel_rfl⟩, trivial⟩, by kernel_rfl, by kernel_rfl, ⟨⟨encH_flat _, by kernel_rfl⟩, trivial⟩, rfl, rfl, by kernel_rfl⟩
end Go.Proofs.Tryz
