import Derived.Test.YtgeoihombkjgnaaGreatDoorBwReady
import Derived.Test.YtgeoihombkjgnaaGreatDoorBwStream
import Derived.Test.YtgeoihombkjgnaaGreatDoorBwBest2
import Derived.Test.YtgeoihombkjgnaaGreatDoorBwBest3
import Derived.Test.YtgeoihombkjgnaaGreatDoorBwBest4
import Derived.Test.YtgeoihombkjgnaaGreatDoorBwBest5
import Derived.Test.YtgeoihombkjgnaaGreatDoorBwBest6
import Derived.Test.YtgeoihombkjgnaaGreatDoorBwBest7
namespace Go.Proofs.Tryz
open Go Go.Abs

theorem orcB_ok {Γ : Gl} {m : Int} {e : TypeId} {f : Nat × Nat} (hΓ : Γ.heap[2]? = some (.cells #[.int .i64 m] e f)) : CallableF prog Γ orcB := by
  refine CallableF.of fun g args h v h1 hc => ?_
  unfold orcB at hc
  split at hc
  case isFalse => cases hc
  rename_i hg
  subst hg
  split at hc
  case h_2 => cases hc
  rename_i hargs
  replace hargs : args = #[] := Array.ext' (by simpa using hargs)
  subst hargs
  cases hc
  exact ⟨by decide, readyIs hΓ h.toH⟩

theorem bestLaw {Γ : Gl} {m : Int} {e : TypeId} {f : Nat × Nat} (hΓ : Γ.heap[2]? = some (.cells #[.int .i64 m] e f)) (el : TypeId) (xs : Array Value) (p : Option Addr) (n c : Nat) (hR : firstDraw Γ.top el xs (.slice p n c) 2 7 [seedRow]) :
    ACall prog Γ 3 #[.slice p n c] #[.cells xs el (0, xs.size)] fun v _ => v = .bool true := by
  have ho : CallableF prog Γ.top orcB := orcB_ok (Γ := Γ.top) hΓ
  refine ACall.body func3 rfl ?_
  refine ACode.seq (ACode.ev KnownOk.none mixed noCall_ok 5 (by kernel_rfl) ?_)
  refine ACode.seq (ACode.ev KnownOk.none mixed noCall_ok 5 (by kernel_rfl) ?_)
  refine ACode.seq (ACode.regionL [0, 1, 2, 3, 4] rfl rfl (AOps.evs KnownOk.none noCall_ok [0, 1] [2, 3, 4] (by kernel_rfl) ?_))
  refine callAt2 4 #[.pointer (some ⟨1, 0, none⟩), .int .i64 2, .int .i64 7] (hp el xs (.slice p n c) 0 [seedRow]) (by kernel_rfl) (by kernel_rfl) (by kernel_rfl) (by kernel_rfl) hR ?_
  rintro v h2 ⟨u, rfl, rfl, hlo, hhi⟩
  have hu : u = 2 ∨ u = 3 ∨ u = 4 ∨ u = 5 ∨ u = 6 ∨ u = 7 := by omega
  rcases hu with rfl | rfl | rfl | rfl | rfl | rfl
  · refine AOps.evs KnownOk.none noCall_ok [3, 4] [] (by kernel_rfl) (AOps.nil ?_)
    exact ACode.castF (bestA (.slice p n c) 2) (bestH el xs (.slice p n c)) (by kernel_rfl) (by kernel_rfl) (by kernel_rfl) (best2 ho rfl el xs (.slice p n c))
  · refine AOps.evs KnownOk.none noCall_ok [3, 4] [] (by kernel_rfl) (AOps.nil ?_)
    exact ACode.castF (bestA (.slice p n c) 3) (bestH el xs (.slice p n c)) (by kernel_rfl) (by kernel_rfl) (by kernel_rfl) (best3 ho rfl el xs (.slice p n c))
  · refine AOps.evs KnownOk.none noCall_ok [3, 4] [] (by kernel_rfl) (AOps.nil ?_)
    exact ACode.castF (bestA (.slice p n c) 4) (bestH el xs (.slice p n c)) (by kernel_rfl) (by kernel_rfl) (by kernel_rfl) (best4 ho rfl el xs (.slice p n c))
  · refine AOps.evs KnownOk.none noCall_ok [3, 4] [] (by kernel_rfl) (AOps.nil ?_)
    exact ACode.castF (bestA (.slice p n c) 5) (bestH el xs (.slice p n c)) (by kernel_rfl) (by kernel_rfl) (by kernel_rfl) (best5 ho rfl el xs (.slice p n c))
  · refine AOps.evs KnownOk.none noCall_ok [3, 4] [] (by kernel_rfl) (AOps.nil ?_)
    exact ACode.castF (bestA (.slice p n c) 6) (bestH el xs (.slice p n c)) (by kernel_rfl) (by kernel_rfl) (by kernel_rfl) (best6 ho rfl el xs (.slice p n c))
  · refine AOps.evs KnownOk.none noCall_ok [3, 4] [] (by kernel_rfl) (AOps.nil ?_)
    exact ACode.castF (bestA (.slice p n c) 7) (bestH el xs (.slice p n c)) (by kernel_rfl) (by kernel_rfl) (by kernel_rfl) (best7 ho rfl el xs (.slice p n c))
end Go.Proofs.Tryz
