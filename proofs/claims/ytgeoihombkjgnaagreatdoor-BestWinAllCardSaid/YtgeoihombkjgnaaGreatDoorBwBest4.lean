import Derived.Test.YtgeoihombkjgnaaGreatDoorBwBestA
namespace Go.Proofs.Tryz
open Go Go.Abs
theorem best4 {Γ : Gl} (ho : CallableF prog Γ orcB) (hr : Γ.rnd = false) (el : TypeId) (xs : Array Value) (L : Value) : ACode prog Γ bestC (bestA L 4).toA (bestH el xs L).toH (RetPost prog f3 fun v _ => v = .bool true) :=
  ACode.quickRet KnownOk.none mixed (evCallF_sound KnownOk.none mixed ho 60) hr 1000 (.bool true) (by kernel_rfl) fun _ => rfl
end Go.Proofs.Tryz
