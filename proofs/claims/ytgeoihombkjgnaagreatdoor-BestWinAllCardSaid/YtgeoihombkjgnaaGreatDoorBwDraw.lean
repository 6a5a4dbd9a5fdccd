import Derived.Test.YtgeoihombkjgnaaGreatDoorBwBest
namespace Go.Proofs.Tryz
open Go Go.Abs

/-- A call that is read off by counting, heap and all. -/
theorem runAt {Γ : Gl} {n : Nat} {f : FuncId} {args : Array Value} {h : H} {Q : Value → H → Prop} (hy : f < YB) (hs : (evCall prog (fun _ _ => none) noCall n f args h).isSome = true)
    (hq : ∀ v h1, evCall prog (fun _ _ => none) noCall n f args h = some (v, h1) → Q v h1) : ACall prog Γ f args h Q := by
  cases he : evCall prog (fun _ _ => none) noCall n f args h with
  | none => rw [he] at hs; cases hs
  | some r =>
    obtain ⟨v, h1⟩ := r
    refine ((evCall_sound KnownOk.none mixed noCall_ok n _ _ _ _ _ he).1 hy).mono ?_
    rintro u k ⟨rfl, rfl⟩
    exact hq _ _ he

theorem drawBest (Γ : Gl) (el : TypeId) (xs : Array Value) (p : Option Addr) (n c : Nat) (hp : p = none ∧ n = 0 ∧ c = 0 ∨ p = some ⟨0, 0, none⟩ ∧ (0 < n → ∃ y, xs[0]? = some (.int .i64 y))) : firstDraw Γ el xs (.slice p n c) 2 7 [seedRow] := by
  rcases hp with ⟨rfl, rfl, rfl⟩ | ⟨rfl, hy⟩
  · refine runAt (n := 10) (by decide) (by kernel_rfl) fun v h1 he => ?_
    have e2 : evCall prog (fun _ _ => none) noCall 10 4 #[.pointer (some ⟨1, 0, none⟩), .int .i64 2, .int .i64 7] (hp el xs (.slice none 0 0) 0 [seedRow]) = some (.int .i64 7, hp el xs (.slice none 0 0) 1 [seedRow]) := by kernel_rfl
    rw [e2] at he
    cases he
    exact ⟨7, rfl, rfl, by decide, by decide⟩
  · by_cases h0 : 0 < n
    · obtain ⟨y, hx⟩ := hy h0
      exact range0 xs n c 2 7 [seedRow] h0 y hx (by decide) (by decide) (by decide)
    · obtain rfl : n = 0 := by omega
      refine runAt (n := 10) (by decide) (by kernel_rfl) fun v h1 he => ?_
      have e2 : evCall prog (fun _ _ => none) noCall 10 4 #[.pointer (some ⟨1, 0, none⟩), .int .i64 2, .int .i64 7] (hp el xs (.slice (some ⟨0, 0, none⟩) 0 c) 0 [seedRow]) = some (.int .i64 7, hp el xs (.slice (some ⟨0, 0, none⟩) 0 c) 1 [seedRow]) := by kernel_rfl
      rw [e2] at he
      cases he
      exact ⟨7, rfl, rfl, by decide, by decide⟩
end Go.Proofs.Tryz
