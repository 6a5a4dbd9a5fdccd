import Derived.Test.YtgeoihombkjgnaaGreatDoorBwIdx
namespace Go.Proofs.Tryz
open Go Go.Abs
theorem readyIs {Γ : Gl} {m : Int} {e : TypeId} {f : Nat × Nat} (hΓ : Γ.heap[2]? = some (.cells #[.int .i64 m] e f)) (h : H) :
    ACall prog Γ 12 #[] h fun v h1 => v = .bool true ∧ h1 = h :=
  ACall.quickClosed KnownOk.none mixed (orcI_ok hΓ) (n := 60) (by kernel_rfl) (by kernel_rfl) h
end Go.Proofs.Tryz
