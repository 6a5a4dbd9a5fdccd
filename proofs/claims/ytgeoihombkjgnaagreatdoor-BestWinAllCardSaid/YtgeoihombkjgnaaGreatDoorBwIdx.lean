import Derived.Test.YtgeoihombkjgnaaGreatDoorBwAbsZC
import Derived.KernelRfl
import Derived.Laws.Externs
import Derived.Test.YtgeoihombkjgnaaGreatDoorProg
namespace Go.Proofs.Tryz
open Go Go.Abs
theorem mixed : prog.follows .mixedOrders = true := by kernel_rfl
def known (m : Int) : Known := fun t g => if t == 3 && g == 2 then some (.int .i64 m) else Option.none
theorem known_ok {Γ : Gl} {m : Int} {e : TypeId} {f : Nat × Nat} (hΓ : Γ.heap[2]? = some (.cells #[.int .i64 m] e f)) : KnownOk prog Γ (known m) := by
  intro t g v h
  unfold known at h
  split at h
  · rename_i hc
    simp only [Bool.and_eq_true, beq_iff_eq] at hc
    obtain ⟨rfl, rfl⟩ := hc
    cases h
    exact ⟨⟨.int .i64, by kernel_rfl, rfl⟩, rfl, _, _, _, hΓ, rfl⟩
  · cases h
def sp2 : ByteArray := ⟨#[32, 32]⟩
def mm : ByteArray := ⟨#[77, 97, 120, 32, 77, 97, 114, 116, 105, 110]⟩
def mb : ByteArray := ⟨#[109, 32, 109, 97]⟩
theorem two_le (n : Nat) : (2 : Int) ≤ Int.ofNat (n + 2) := by
  show (2 : Int) ≤ ((n + 2 : Nat) : Int)
  omega

theorem index_run {m : Int} {w : World} (hm : (2 : Int) ≤ m) (h : w.cell? ⟨2, 0, none⟩ = some (.int .i64 m)) : (Extern.BytealgIndex.index #[.string mm, .string sp2]).run prog w = .ok (.int .i64 (-1)) w := by
  have g : prog.globals.findIdx? (·.name == "internal/bytealg.MaxLen") = some 2 := by kernel_rfl
  have e : Extern.BytealgIndex.maxLen.run prog w = .ok m w := by
    simp [Extern.BytealgIndex.maxLen, globalAddr, g, h, asInt, asIntOf]
  have hn : (decide (sp2.size < 2) || decide ((sp2.size : Int) > m)) = false := by
    have h1 : (sp2.size : Int) = 2 := by kernel_rfl
    have h2 : sp2.size = 2 := by kernel_rfl
    rw [h1, h2]
    have : ¬ ((2 : Int) > m) := by omega
    simp [this]
  have hu : Extern.BytealgIndex.index #[.string mm, .string sp2] = (do
      let m ← Extern.BytealgIndex.maxLen
      if (decide (sp2.size < 2) || decide ((sp2.size : Int) > m)) = true then unsupported (.noEntry "extern/internal/bytealg.Index.length") else Pure.pure (goInt (-1))) := by kernel_rfl
  rw [hu, Sem.run_bind, e]
  simp only [Result.andThen_ok]
  rw [hn]
  rfl
theorem idxCall {m : Int} {w : World} (hm : (2 : Int) ≤ m) (h : w.cell? ⟨2, 0, none⟩ = some (.int .i64 m)) : (callFunc 159 #[.string mm, .string sp2]).run prog w = .ok (.value (.int .i64 (-1))) w := by
  rw [run_callFunc_extern (e := Extern.BytealgIndex.index) func159 (by kernel_rfl) (by kernel_rfl) (by kernel_rfl) (by kernel_rfl), index_run hm h]
  rfl
theorem idxA2 {Γ : Gl} {m : Int} (hm2 : (2 : Int) ≤ m) {e : TypeId} {f : Nat × Nat} (hΓ : Γ.heap[2]? = some (.cells #[.int .i64 m] e f)) : ACall prog Γ 137 #[.string mm, .string sp2] #[] fun v _ => v = .int .i64 (-1) ∧ flat v = true := by
  refine ACall.body func137 rfl ?_
  refine ACode.seq (ACode.ev KnownOk.none mixed noCall_ok 5 (by kernel_rfl) ?_)
  refine ACode.seq (ACode.ev KnownOk.none mixed noCall_ok 5 (by kernel_rfl) ?_)
  refine ACode.seq (ACode.block (ACode.seq (ACode.ev KnownOk.none mixed noCall_ok 5 (by kernel_rfl) ?_)))
  refine ACode.condF rfl (by kernel_rfl) ?_
  refine ACode.seq (ACode.ev KnownOk.none mixed noCall_ok 5 (by kernel_rfl) ?_)
  refine ACode.condF rfl (by kernel_rfl) ?_
  refine ACode.seq (ACode.ev KnownOk.none mixed noCall_ok 5 (by kernel_rfl) ?_)
  refine ACode.condF rfl (by kernel_rfl) ?_
  refine ACode.seq (ACode.regionL [0, 1, 2, 3, 4, 5, 6, 7, 8] rfl rfl ?_)
  refine AOps.evs KnownOk.none noCall_ok [0] [1, 2, 3, 4, 5, 6, 7, 8] (by kernel_rfl) ?_
  refine AOps.globAt 3 2 (.int .i64) (by kernel_rfl) (by kernel_rfl) (by kernel_rfl) (by kernel_rfl) rfl hΓ rfl rfl ?_
  refine AOps.valDec true ((2 : Int) ≤ m) (decide_eq_true hm2) (by kernel_rfl) (by kernel_rfl) (by kernel_rfl) ?_
  refine AOps.evs KnownOk.none noCall_ok [3, 4, 5, 6, 7, 8] [] (by kernel_rfl) ?_
  refine AOps.nil ?_
  refine ACode.condT rfl (by kernel_rfl) ?_
  refine ACode.seq (ACode.regionL [0, 1, 2, 3] rfl rfl ?_)
  refine AOps.evs KnownOk.none noCall_ok [0, 1] [2, 3] (by kernel_rfl) ?_
  refine AOps.rowAt (.int .i64 (-1)) (by kernel_rfl) (by kernel_rfl) (by kernel_rfl) (by kernel_rfl) ?_ rfl ?_
  · intro w hw
    have h1 : w.cell? ⟨2, 0, none⟩ = some (.int .i64 m) := by simp [World.cell?, hw 2 _ hΓ]
    refine Eq.trans (b := (callFunc 159 #[.string mm, .string sp2]).run prog w) (by kernel_rfl) ?_
    exact idxCall hm2 h1
  refine AOps.evs KnownOk.none noCall_ok [3] [] (by kernel_rfl) ?_
  refine AOps.nil ?_
  refine ACode.ret ?_
  exact retAt (.int .i64 (-1)) (by kernel_rfl) fun _ => ⟨rfl, rfl⟩

theorem idxA {Γ : Gl} {m : Int} {e : TypeId} {f : Nat × Nat} (hΓ : Γ.heap[2]? = some (.cells #[.int .i64 m] e f)) (h : H) : ACall prog Γ 137 #[.string mm, .string sp2] h fun v h1 => v = .int .i64 (-1) ∧ h1 = h := by
  match m, hΓ with
  | .ofNat 0, hΓ => exact ACall.ofRun (known_ok hΓ) mixed noCall_ok (n := 20) (by kernel_rfl) (by kernel_rfl) h
  | .ofNat 1, hΓ => exact ACall.ofRun (known_ok hΓ) mixed noCall_ok (n := 20) (by kernel_rfl) (by kernel_rfl) h
  | .ofNat (n + 2), hΓ => exact ACall.closed (by kernel_rfl) (idxA2 (two_le n) hΓ) h
  | .negSucc 0, hΓ => exact ACall.ofRun (known_ok hΓ) mixed noCall_ok (n := 20) (by kernel_rfl) (by kernel_rfl) h
  | .negSucc (j + 1), hΓ => exact ACall.ofRun (known_ok hΓ) mixed noCall_ok (n := 20) (by kernel_rfl) (by kernel_rfl) h
theorem index_runB {m : Int} {w : World} (hm : (2 : Int) ≤ m) (h : w.cell? ⟨2, 0, none⟩ = some (.int .i64 m)) : (Extern.BytealgIndex.index #[.string mb, .string sp2]).run prog w = .ok (.int .i64 (-1)) w := by
  have g : prog.globals.findIdx? (·.name == "internal/bytealg.MaxLen") = some 2 := by kernel_rfl
  have e : Extern.BytealgIndex.maxLen.run prog w = .ok m w := by
    simp [Extern.BytealgIndex.maxLen, globalAddr, g, h, asInt, asIntOf]
  have hn : (decide (sp2.size < 2) || decide ((sp2.size : Int) > m)) = false := by
    have h1 : (sp2.size : Int) = 2 := by kernel_rfl
    have h2 : sp2.size = 2 := by kernel_rfl
    rw [h1, h2]
    have : ¬ ((2 : Int) > m) := by omega
    simp [this]
  have hu : Extern.BytealgIndex.index #[.string mb, .string sp2] = (do
      let m ← Extern.BytealgIndex.maxLen
      if (decide (sp2.size < 2) || decide ((sp2.size : Int) > m)) = true then unsupported (.noEntry "extern/internal/bytealg.Index.length") else Pure.pure (goInt (-1))) := by kernel_rfl
  rw [hu, Sem.run_bind, e]
  simp only [Result.andThen_ok]
  rw [hn]
  rfl
theorem idxCallB {m : Int} {w : World} (hm : (2 : Int) ≤ m) (h : w.cell? ⟨2, 0, none⟩ = some (.int .i64 m)) : (callFunc 159 #[.string mb, .string sp2]).run prog w = .ok (.value (.int .i64 (-1))) w := by
  rw [run_callFunc_extern (e := Extern.BytealgIndex.index) func159 (by kernel_rfl) (by kernel_rfl) (by kernel_rfl) (by kernel_rfl), index_runB hm h]
  rfl
theorem idxB2 {Γ : Gl} {m : Int} (hm2 : (2 : Int) ≤ m) {e : TypeId} {f : Nat × Nat} (hΓ : Γ.heap[2]? = some (.cells #[.int .i64 m] e f)) : ACall prog Γ 137 #[.string mb, .string sp2] #[] fun v _ => v = .int .i64 (-1) ∧ flat v = true := by
  refine ACall.body func137 rfl ?_
  refine ACode.seq (ACode.ev KnownOk.none mixed noCall_ok 5 (by kernel_rfl) ?_)
  refine ACode.seq (ACode.ev KnownOk.none mixed noCall_ok 5 (by kernel_rfl) ?_)
  refine ACode.seq (ACode.block (ACode.seq (ACode.ev KnownOk.none mixed noCall_ok 5 (by kernel_rfl) ?_)))
  refine ACode.condF rfl (by kernel_rfl) ?_
  refine ACode.seq (ACode.ev KnownOk.none mixed noCall_ok 5 (by kernel_rfl) ?_)
  refine ACode.condF rfl (by kernel_rfl) ?_
  refine ACode.seq (ACode.ev KnownOk.none mixed noCall_ok 5 (by kernel_rfl) ?_)
  refine ACode.condF rfl (by kernel_rfl) ?_
  refine ACode.seq (ACode.regionL [0, 1, 2, 3, 4, 5, 6, 7, 8] rfl rfl ?_)
  refine AOps.evs KnownOk.none noCall_ok [0] [1, 2, 3, 4, 5, 6, 7, 8] (by kernel_rfl) ?_
  refine AOps.globAt 3 2 (.int .i64) (by kernel_rfl) (by kernel_rfl) (by kernel_rfl) (by kernel_rfl) rfl hΓ rfl rfl ?_
  refine AOps.valDec true ((2 : Int) ≤ m) (decide_eq_true hm2) (by kernel_rfl) (by kernel_rfl) (by kernel_rfl) ?_
  refine AOps.evs KnownOk.none noCall_ok [3, 4, 5, 6, 7, 8] [] (by kernel_rfl) ?_
  refine AOps.nil ?_
  refine ACode.condT rfl (by kernel_rfl) ?_
  refine ACode.seq (ACode.regionL [0, 1, 2, 3] rfl rfl ?_)
  refine AOps.evs KnownOk.none noCall_ok [0, 1] [2, 3] (by kernel_rfl) ?_
  refine AOps.rowAt (.int .i64 (-1)) (by kernel_rfl) (by kernel_rfl) (by kernel_rfl) (by kernel_rfl) ?_ rfl ?_
  · intro w hw
    have h1 : w.cell? ⟨2, 0, none⟩ = some (.int .i64 m) := by simp [World.cell?, hw 2 _ hΓ]
    refine Eq.trans (b := (callFunc 159 #[.string mb, .string sp2]).run prog w) (by kernel_rfl) ?_
    exact idxCallB hm2 h1
  refine AOps.evs KnownOk.none noCall_ok [3] [] (by kernel_rfl) ?_
  refine AOps.nil ?_
  refine ACode.ret ?_
  exact retAt (.int .i64 (-1)) (by kernel_rfl) fun _ => ⟨rfl, rfl⟩

theorem idxB {Γ : Gl} {m : Int} {e : TypeId} {f : Nat × Nat} (hΓ : Γ.heap[2]? = some (.cells #[.int .i64 m] e f)) (h : H) : ACall prog Γ 137 #[.string mb, .string sp2] h fun v h1 => v = .int .i64 (-1) ∧ h1 = h := by
  match m, hΓ with
  | .ofNat 0, hΓ => exact ACall.ofRun (known_ok hΓ) mixed noCall_ok (n := 20) (by kernel_rfl) (by kernel_rfl) h
  | .ofNat 1, hΓ => exact ACall.ofRun (known_ok hΓ) mixed noCall_ok (n := 20) (by kernel_rfl) (by kernel_rfl) h
  | .ofNat (n + 2), hΓ => exact ACall.closed (by kernel_rfl) (idxB2 (two_le n) hΓ) h
  | .negSucc 0, hΓ => exact ACall.ofRun (known_ok hΓ) mixed noCall_ok (n := 20) (by kernel_rfl) (by kernel_rfl) h
  | .negSucc (j + 1), hΓ => exact ACall.ofRun (known_ok hΓ) mixed noCall_ok (n := 20) (by kernel_rfl) (by kernel_rfl) h

/-- The calls of Index that ready makes, with their answers. -/
def orcI : CallerF := fun f args h => if f = 137 then
    match args.toList with
    | [.string a, .string b] => if a = mm ∧ b = sp2 then some (.int .i64 (-1), h) else if a = mb ∧ b = sp2 then some (.int .i64 (-1), h) else none
    | _ => none
  else none

theorem orcI_ok {Γ : Gl} {m : Int} {e : TypeId} {f : Nat × Nat} (hΓ : Γ.heap[2]? = some (.cells #[.int .i64 m] e f)) : CallableF prog Γ orcI := by
  refine CallableF.of fun g args h v h1 hc => ?_
  unfold orcI at hc
  split at hc
  case isFalse => cases hc
  rename_i hg
  subst hg
  split at hc
  case h_2 => cases hc
  rename_i a b hargs
  replace hargs : args = #[.string a, .string b] := Array.ext' (by simpa using hargs)
  subst hargs
  split at hc
  · rename_i hab
    obtain ⟨rfl, rfl⟩ := hab
    cases hc
    exact ⟨by decide, idxA hΓ h.toH⟩
  · split at hc
    · rename_i hab
      obtain ⟨rfl, rfl⟩ := hab
      cases hc
      exact ⟨by decide, idxB hΓ h.toH⟩
    · cases hc
end Go.Proofs.Tryz
