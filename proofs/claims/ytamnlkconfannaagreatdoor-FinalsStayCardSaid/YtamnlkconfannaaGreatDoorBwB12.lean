import Derived.Test.YtamnlkconfannaaGreatDoorBwB6
import Derived.KernelRfl
import Derived.Laws.Externs
import Derived.Test.YtamnlkconfannaaGreatDoorProg
import Derived.Test.YtamnlkconfannaaGreatDoorBwB10
import Derived.Test.YtamnlkconfannaaGreatDoorBwB11
namespace Go.Proofs.Tryz
open Go Go.Abs
def known (m : Int) : Known := fun t g => if t == 3 && g == 2 then some (.int .i64 m) else Option.none
theorem known_ok {Γ : Gl} {m : Int} {e : TypeId} {f : Nat × Nat} (hΓ : Γ.heap[2]? = some (.cells #[.int .i64 m] e f)) : KnownOk prog Γ (known m) := by
  intro t g v h
  unfold known at h
  split at h
  · rename_i hc
    simp only [Bool.and_eq_true, beq_iff_eq] at hc
    obtain ⟨rfl, rfl⟩ := hc
    cases h
    exact ⟨⟨.int .i64, by kernel_rfl, rfl⟩, rfl, _, _, _, hΓ, rfl⟩
  · cases h
def sp2 : ByteArray := ⟨#[32, 32]⟩
def mm : ByteArray := ⟨#[77, 97, 120, 32, 77, 97, 114, 116, 105, 110]⟩
def mb : ByteArray := ⟨#[109, 32, 109, 97]⟩
theorem two_le (n : Nat) : (2 : Int) ≤ Int.ofNat (n + 2) := by
  show (2 : Int) ≤ ((n + 2 : Nat) : Int)
  omega

theorem index_run {m : Int} {w : World} (hm : (2 : Int) ≤ m) (h : w.cell? ⟨2, 0, none⟩ = some (.int .i64 m)) : (Extern.BytealgIndex.index #[.string mm, .string sp2]).run prog w = .ok (.int .i64 (-1)) w := by
  have g : prog.globals.findIdx? (·.name == "internal/bytealg.MaxLen") = some 2 := by kernel_rfl
  have e : Extern.BytealgIndex.maxLen.run prog w = .ok m w := by
    simp [Extern.BytealgIndex.maxLen, globalAddr, g, h, asInt, asIntOf]
  have hn : (decide (sp2.size < 2) || decide ((sp2.size : Int) > m)) = false := by
    have h1 : (sp2.size : Int) = 2 := by kernel_rfl
    have h2 : sp2.size = 2 := by kernel_rfl
    rw [h1, h2]
    have : ¬ ((2 : Int) > m) := by omega
    simp [this]
  have hu : Extern.BytealgIndex.index #[.string mm, .string sp2] = (do
      let m ← Extern.BytealgIndex.maxLen
      if (decide (sp2.size < 2) || decide ((sp2.size : Int) > m)) = true then unsupported (.noEntry "extern/internal/bytealg.Index.length") else Pure.pure (goInt (-1))) := by kernel_rfl
  rw [hu, Sem.run_bind, e]
  simp only [Result.andThen_ok]
  rw [hn]
  rfl
theorem idxCall {m : Int} {w : World} (hm : (2 : Int) ≤ m) (h : w.cell? ⟨2, 0, none⟩ = some (.int .i64 m)) : (callFunc 185 #[.string mm, .string sp2]).run prog w = .ok (.value (.int .i64 (-1))) w := by
  rw [run_callFunc_extern (e := Extern.BytealgIndex.index) func185 (by kernel_rfl) (by kernel_rfl) (by kernel_rfl) (by kernel_rfl), index_run hm h]
  rfl
theorem idxA2 {Γ : Gl} {m : Int} (hm2 : (2 : Int) ≤ m) {e : TypeId} {f : Nat × Nat} (hΓ : Γ.heap[2]? = some (.cells #[.int .i64 m] e f)) : ACall prog Γ 164 #[.string mm, .string sp2] #[] fun v _ => v = .int .i64 (-1) ∧ flat v = true := by
  refine ACall.body func164 rfl ?_
  refine ACode.seq (ACode.ev KnownOk.none mixed noCall_ok 5 (by kernel_rfl) ?_)
  refine ACode.seq (ACode.ev KnownOk.none mixed noCall_ok 5 (by kernel_rfl) ?_)
  refine ACode.seq (ACode.block (ACode.seq (ACode.ev KnownOk.none mixed noCall_ok 5 (by kernel_rfl) ?_)))
  refine ACode.condF rfl (by kernel_rfl) ?_
  refine ACode.seq (ACode.ev KnownOk.none mixed noCall_ok 5 (by kernel_rfl) ?_)
  refine ACode.condF rfl (by kernel_rfl) ?_
  refine ACode.seq (ACode.ev KnownOk.none mixed noCall_ok 5 (by kernel_rfl) ?_)
  refine ACode.condF rfl (by kernel_rfl) ?_
  refine ACode.seq (ACode.regionL [0, 1, 2, 3, 4, 5, 6, 7, 8] rfl rfl ?_)
  refine AOps.evs KnownOk.none noCall_ok [0] [1, 2, 3, 4, 5, 6, 7, 8] (by kernel_rfl) ?_
  refine AOps.globAt 3 2 (.int .i64) (by kernel_rfl) (by kernel_rfl) (by kernel_rfl) (by kernel_rfl) rfl hΓ rfl rfl ?_
  refine AOps.valDec true ((2 : Int) ≤ m) (decide_eq_true hm2) (by kernel_rfl) (by kernel_rfl) (by kernel_rfl) ?_
  refine AOps.evs KnownOk.none noCall_ok [3, 4, 5, 6, 7, 8] [] (by kernel_rfl) ?_
  refine AOps.nil ?_
  refine ACode.condT rfl (by kernel_rfl) ?_
  refine ACode.seq (ACode.regionL [0, 1, 2, 3] rfl rfl ?_)
  refine AOps.evs KnownOk.none noCall_ok [0, 1] [2, 3] (by kernel_rfl) ?_
  refine AOps.rowAt (.int .i64 (-1)) (by kernel_rfl) (by kernel_rfl) (by kernel_rfl) (by kernel_rfl) ?_ rfl ?_
  · intro w hw
    have h1 : w.cell? ⟨2, 0, none⟩ = some (.int .i64 m) := by simp [World.cell?, hw 2 _ hΓ]
    refine Eq.trans (b := (callFunc 185 #[.string mm, .string sp2]).run prog w) (by kernel_rfl) ?_
    exact idxCall hm2 h1
  refine AOps.evs KnownOk.none noCall_ok [3] [] (by kernel_rfl) ?_
  refine AOps.nil ?_
  refine ACode.ret ?_
  exact retAt (.int .i64 (-1)) (by kernel_rfl) fun _ => ⟨rfl, rfl⟩

theorem idxA {Γ : Gl} {m : Int} {e : TypeId} {f : Nat × Nat} (hΓ : Γ.heap[2]? = some (.cells #[.int .i64 m] e f)) (h : H) : ACall prog Γ 164 #[.string mm, .string sp2] h fun v h1 => v = .int .i64 (-1) ∧ h1 = h := by
  match m, hΓ with
  | .ofNat 0, hΓ => exact ACall.ofRun (known_ok hΓ) mixed noCall_ok (n := 20) (by kernel_rfl) (by kernel_rfl) h
  | .ofNat 1, hΓ => exact ACall.ofRun (known_ok hΓ) mixed noCall_ok (n := 20) (by kernel_rfl) (by kernel_rfl) h
  | .ofNat (n + 2), hΓ => exact ACall.closed (by kernel_rfl) (idxA2 (two_le n) hΓ) h
  | .negSucc 0, hΓ => exact ACall.ofRun (known_ok hΓ) mixed noCall_ok (n := 20) (by kernel_rfl) (by kernel_rfl) h
  | .negSucc (j + 1), hΓ => exact ACall.ofRun (known_ok hΓ) mixed noCall_ok (n := 20) (by kernel_rfl) (by kernel_rfl) h
theorem index_runB {m : Int} {w : World} (hm : (2 : Int) ≤ m) (h : w.cell? ⟨2, 0, none⟩ = some (.int .i64 m)) : (Extern.BytealgIndex.index #[.string mb, .string sp2]).run prog w = .ok (.int .i64 (-1)) w := by
  have g : prog.globals.findIdx? (·.name == "internal/bytealg.MaxLen") = some 2 := by kernel_rfl
  have e : Extern.BytealgIndex.maxLen.run prog w = .ok m w := by
    simp [Extern.BytealgIndex.maxLen, globalAddr, g, h, asInt, asIntOf]
  have hn : (decide (sp2.size < 2) || decide ((sp2.size : Int) > m)) = false := by
    have h1 : (sp2.size : Int) = 2 := by kernel_rfl
    have h2 : sp2.size = 2 := by kernel_rfl
    rw [h1, h2]
    have : ¬ ((2 : Int) > m) := by omega
    simp [this]
  have hu : Extern.BytealgIndex.index #[.string mb, .string sp2] = (do
      let m ← Extern.BytealgIndex.maxLen
      if (decide (sp2.size < 2) || decide ((sp2.size : Int) > m)) = true then unsupported (.noEntry "extern/internal/bytealg.Index.length") else Pure.pure (goInt (-1))) := by kernel_rfl
  rw [hu, Sem.run_bind, e]
  simp only [Result.andThen_ok]
  rw [hn]
  rfl
theorem idxCallB {m : Int} {w : World} (hm : (2 : Int) ≤ m) (h : w.cell? ⟨2, 0, none⟩ = some (.int .i64 m)) : (callFunc 185 #[.string mb, .string sp2]).run prog w = .ok (.value (.int .i64 (-1))) w := by
  rw [run_callFunc_extern (e := Extern.BytealgIndex.index) func185 (by kernel_rfl) (by kernel_rfl) (by kernel_rfl) (by kernel_rfl), index_runB hm h]
  rfl
theorem idxB2 {Γ : Gl} {m : Int} (hm2 : (2 : Int) ≤ m) {e : TypeId} {f : Nat × Nat} (hΓ : Γ.heap[2]? = some (.cells #[.int .i64 m] e f)) : ACall prog Γ 164 #[.string mb, .string sp2] #[] fun v _ => v = .int .i64 (-1) ∧ flat v = true := by
  refine ACall.body func164 rfl ?_
  refine ACode.seq (ACode.ev KnownOk.none mixed noCall_ok 5 (by kernel_rfl) ?_)
  refine ACode.seq (ACode.ev KnownOk.none mixed noCall_ok 5 (by kernel_rfl) ?_)
  refine ACode.seq (ACode.block (ACode.seq (ACode.ev KnownOk.none mixed noCall_ok 5 (by kernel_rfl) ?_)))
  refine ACode.condF rfl (by kernel_rfl) ?_
  refine ACode.seq (ACode.ev KnownOk.none mixed noCall_ok 5 (by kernel_rfl) ?_)
  refine ACode.condF rfl (by kernel_rfl) ?_
  refine ACode.seq (ACode.ev KnownOk.none mixed noCall_ok 5 (by kernel_rfl) ?_)
  refine ACode.condF rfl (by kernel_rfl) ?_
  refine ACode.seq (ACode.regionL [0, 1, 2, 3, 4, 5, 6, 7, 8] rfl rfl ?_)
  refine AOps.evs KnownOk.none noCall_ok [0] [1, 2, 3, 4, 5, 6, 7, 8] (by kernel_rfl) ?_
  refine AOps.globAt 3 2 (.int .i64) (by kernel_rfl) (by kernel_rfl) (by kernel_rfl) (by kernel_rfl) rfl hΓ rfl rfl ?_
  refine AOps.valDec true ((2 : Int) ≤ m) (decide_eq_true hm2) (by kernel_rfl) (by kernel_rfl) (by kernel_rfl) ?_
  refine AOps.evs KnownOk.none noCall_ok [3, 4, 5, 6, 7, 8] [] (by kernel_rfl) ?_
  refine AOps.nil ?_
  refine ACode.condT rfl (by kernel_rfl) ?_
  refine ACode.seq (ACode.regionL [0, 1, 2, 3] rfl rfl ?_)
  refine AOps.evs KnownOk.none noCall_ok [0, 1] [2, 3] (by kernel_rfl) ?_
  refine AOps.rowAt (.int .i64 (-1)) (by kernel_rfl) (by kernel_rfl) (by kernel_rfl) (by kernel_rfl) ?_ rfl ?_
  · intro w hw
    have h1 : w.cell? ⟨2, 0, none⟩ = some (.int .i64 m) := by simp [World.cell?, hw 2 _ hΓ]
    refine Eq.trans (b := (callFunc 185 #[.string mb, .string sp2]).run prog w) (by kernel_rfl) ?_
    exact idxCallB hm2 h1
  refine AOps.evs KnownOk.none noCall_ok [3] [] (by kernel_rfl) ?_
  refine AOps.nil ?_
  refine ACode.ret ?_
  exact retAt (.int .i64 (-1)) (by kernel_rfl) fun _ => ⟨rfl, rfl⟩

theorem idxB {Γ : Gl} {m : Int} {e : TypeId} {f : Nat × Nat} (hΓ : Γ.heap[2]? = some (.cells #[.int .i64 m] e f)) (h : H) : ACall prog Γ 164 #[.string mb, .string sp2] h fun v h1 => v = .int .i64 (-1) ∧ h1 = h := by
  match m, hΓ with
  | .ofNat 0, hΓ => exact ACall.ofRun (known_ok hΓ) mixed noCall_ok (n := 20) (by kernel_rfl) (by kernel_rfl) h
  | .ofNat 1, hΓ => exact ACall.ofRun (known_ok hΓ) mixed noCall_ok (n := 20) (by kernel_rfl) (by kernel_rfl) h
  | .ofNat (n + 2), hΓ => exact ACall.closed (by kernel_rfl) (idxB2 (two_le n) hΓ) h
  | .negSucc 0, hΓ => exact ACall.ofRun (known_ok hΓ) mixed noCall_ok (n := 20) (by kernel_rfl) (by kernel_rfl) h
  | .negSucc (j + 1), hΓ => exact ACall.ofRun (known_ok hΓ) mixed noCall_ok (n := 20) (by kernel_rfl) (by kernel_rfl) h

/-- The calls of Index that ready makes, with their answers. -/
def orcI : CallerF := fun f args h => if f = 164 then
    match args.toList with
    | [.string a, .string b] => if a = mm ∧ b = sp2 then some (.int .i64 (-1), h) else if a = mb ∧ b = sp2 then some (.int .i64 (-1), h) else none
    | _ => none
  else none

theorem orcI_ok {Γ : Gl} {m : Int} {e : TypeId} {f : Nat × Nat} (hΓ : Γ.heap[2]? = some (.cells #[.int .i64 m] e f)) : CallableF prog Γ orcI := by
  refine CallableF.of fun g args h v h1 hc => ?_
  unfold orcI at hc
  split at hc
  case isFalse => cases hc
  rename_i hg
  subst hg
  split at hc
  case h_2 => cases hc
  rename_i a b hargs
  replace hargs : args = #[.string a, .string b] := Array.ext' (by simpa using hargs)
  subst hargs
  split at hc
  · rename_i hab
    obtain ⟨rfl, rfl⟩ := hab
    cases hc
    exact ⟨by decide, idxA hΓ h.toH⟩
  · split at hc
    · rename_i hab
      obtain ⟨rfl, rfl⟩ := hab
      cases hc
      exact ⟨by decide, idxB hΓ h.toH⟩
    · cases hc
end Go.Proofs.Tryz

namespace Go.Proofs.Tryz
open Go Go.Abs
theorem readyIs {Γ : Gl} {m : Int} {e : TypeId} {f : Nat × Nat} (hΓ : Γ.heap[2]? = some (.cells #[.int .i64 m] e f)) (h : H) :
    ACall prog Γ 14 #[] h fun v h1 => v = .bool true ∧ h1 = h :=
  ACall.quickClosed KnownOk.none mixed (orcI_ok hΓ) (n := 60) (by kernel_rfl) (by kernel_rfl) h
end Go.Proofs.Tryz


namespace Go.Proofs.Tryz
open Go Go.Abs
set_option maxHeartbeats 0
theorem readyS {Γ : Gl} {m : Int} {e : TypeId} {f : Nat × Nat} (hΓ : Γ.heap[2]? = some (.cells #[.int .i64 m] e f)) :
    FT prog Γ 14 #[] ⟨0, []⟩ fun v h1 => v = .bool true ∧ h1 = ⟨0, []⟩ := ⟨_, _, readyIs hΓ _, rfl, rfl⟩

end Go.Proofs.Tryz


namespace Go.Proofs.Tryz
open Go Go.Abs
set_option maxHeartbeats 0
theorem lawNil {Γ : Gl} {m : Int} {e : TypeId} {f : Nat × Nat} (hΓ : Γ.heap[2]? = some (.cells #[.int .i64 m] e f)) (s : Src) (t : Int)
    (hd : FT prog (Γ.at 1) 4 #[.pointer (some ⟨1, 0, none⟩), .int .i64 8] (s.h 0) fun v h => v = honV [] ∧ h = s.hon t []) :
    FT prog Γ 3 #[s.lst] ⟨1, [(0, s.row)]⟩ fun v h => v = .bool true := by
  refine (FT.body func3 rfl ?_)
  obtain ⟨z, el, ys, n, c, ok⟩ := s
  cases z
  · refine CT.seq ?_
    refine CT.ev KnownOk.none mixed noC_ok 1000 (by kernel_rfl) ?_
    refine CT.seq ?_
    refine CT.ev KnownOk.none mixed noC_ok 1000 (by kernel_rfl) ?_
    refine CT.seq ?_
    refine CT.region [0, 1, 2, 3, 4, 5] rfl rfl ?_
    refine OT.evs KnownOk.none noC_ok [0] [1, 2, 3, 4, 5] (by kernel_rfl) ?_
    refine OT.callE [0, 1] [.flat, .fix] (hd) (by kernel_rfl) (by kernel_rfl) (by kernel_rfl) rfl (by kernel_rfl) (by kernel_rfl) ⟨⟨ints_flat _, by kernel_rfl⟩, ⟨⟨Src.plain _ _ _ rfl, Src.fix _ _ _ rfl⟩, by kernel_rfl⟩, trivial⟩ rfl rfl ?_
    rintro _ _ ⟨rfl, rfl⟩
    refine ⟨[.keep, .fix], [], rfl, rfl, rfl, ⟨by kernel_rfl, ⟨Src.pl _ _, Src.fix _ _ _ rfl⟩, trivial⟩, trivial, rfl, ?_⟩
    refine OT.evs KnownOk.none noC_ok [2] [3, 4, 5] (by kernel_rfl) ?_
    refine OT.callE [0, 2] [.flat, .fix] (hd) (by kernel_rfl) (by kernel_rfl) (by kernel_rfl) rfl (by kernel_rfl) (by kernel_rfl) ⟨⟨ints_flat _, by kernel_rfl⟩, ⟨⟨Src.plain _ _ _ rfl, Src.fix _ _ _ rfl⟩, by kernel_rfl⟩, trivial⟩ rfl rfl ?_
    rintro _ _ ⟨rfl, rfl⟩
    refine ⟨[.keep, .fix], [], rfl, rfl, rfl, ⟨by kernel_rfl, ⟨Src.pl _ _, Src.fix _ _ _ rfl⟩, trivial⟩, trivial, rfl, ?_⟩
    refine OT.evs KnownOk.none noC_ok [4, 5] [] (by kernel_rfl) ?_
    refine OT.nil ?_
    refine CT.neat (n := 1) (N := 85) (live := [(5, (.slice none 0 0)), (6, (.slice none 0 0))]) (hc := ⟨1, [(0, (.cells (Go.Proofs.Tryz.ints ys) (el) ((0, ys.length))))]⟩) (by kernel_rfl) ?_ (fun tail => ?_)
    · exact ⟨[0], [.flat], rfl, rfl, ⟨⟨rfl, by kernel_rfl⟩, trivial⟩, by kernel_rfl, by kernel_rfl, ⟨⟨ints_flat _, by kernel_rfl⟩, trivial⟩, by kernel_rfl, by kernel_rfl, by kernel_rfl, ⟨⟨rfl, by kernel_rfl⟩, ⟨rfl, by kernel_rfl⟩, trivial⟩⟩
    refine CT.seq ?_
    refine CT.ev KnownOk.none mixed noC_ok 1000 (by kernel_rfl) ?_
    refine CT.seq ?_
    refine CT.region [0, 1, 2, 3, 4, 5, 6, 7, 8] rfl rfl ?_
    refine OT.evs KnownOk.none noC_ok [0, 1, 2] [3, 4, 5, 6, 7, 8] (by kernel_rfl) ?_
    refine OT.callEv KnownOk.none mixed noC_ok 300 5 (by kernel_rfl) (by kernel_rfl) (by kernel_rfl) (by kernel_rfl) (by kernel_rfl) ?_
    refine OT.evs KnownOk.none noC_ok [4, 5, 6, 7, 8] [] (by kernel_rfl) ?_
    refine OT.nil ?_
    refine CT.neat (n := 1) (N := 85) (live := [(5, (.slice none 0 0)), (6, (.slice none 0 0)), (7, (.slice (some ⟨1, 0, none⟩) 3 3)), (8, (.slice (some ⟨2, 0, none⟩) 3 3)), (9, (.slice (some ⟨3, 0, none⟩) 2 2)), (10, (.slice (some ⟨4, 0, none⟩) 3 36893488147419103232))]) (hc := ⟨5, [(0, (.cells (Go.Proofs.Tryz.ints ys) (el) ((0, ys.length)))), (1, (.cells #[(.string (ByteArray.mk #[116, 99])), (.string (ByteArray.mk #[116, 97])), (.string (ByteArray.mk #[116, 98]))] 9 ((0, 0)))), (2, (.cells #[(.int .i64 1), (.int .i64 2), (.int .i64 3)] 3 ((0, 0)))), (3, (.cells #[(.int .i64 7), (.int .i64 9)] 3 ((0, 0)))), (4, (.cells #[(.string (ByteArray.mk #[116, 97])), (.string (ByteArray.mk #[116, 98])), (.string (ByteArray.mk #[116, 99]))] 9 ((0, 0))))]⟩) (by kernel_rfl) ?_ (fun tail => ?_)
    · exact ⟨[0, 2, 3, 4, 11], [.flat, .flat, .flat, .flat, .flat], rfl, rfl, ⟨⟨rfl, by kernel_rfl⟩, trivial⟩, by kernel_rfl, by kernel_rfl, ⟨⟨ints_flat _, by kernel_rfl⟩, ⟨flatO_of (by kernel_rfl), by kernel_rfl⟩, ⟨flatO_of (by kernel_rfl), by kernel_rfl⟩, ⟨flatO_of (by kernel_rfl), by kernel_rfl⟩, ⟨flatO_of (by kernel_rfl), by kernel_rfl⟩, trivial⟩, by kernel_rfl, by kernel_rfl, by kernel_rfl, ⟨⟨rfl, by kernel_rfl⟩, ⟨rfl, by kernel_rfl⟩, ⟨rfl, by kernel_rfl⟩, ⟨rfl, by kernel_rfl⟩, ⟨rfl, by kernel_rfl⟩, ⟨rfl, by kernel_rfl⟩, trivial⟩⟩
    refine CT.seq ?_
    refine CT.region [0, 1] rfl rfl ?_
    refine OT.evs KnownOk.none noC_ok [0] [1] (by kernel_rfl) ?_
    refine OT.callEv KnownOk.none mixed noC_ok 300 6 (by kernel_rfl) (by kernel_rfl) (by kernel_rfl) (by kernel_rfl) (by kernel_rfl) ?_
    refine OT.nil ?_
    refine CT.neat (n := 1) (N := 85) (live := [(5, (.slice none 0 0)), (6, (.slice none 0 0)), (7, (.slice (some ⟨1, 0, none⟩) 3 3)), (8, (.slice (some ⟨2, 0, none⟩) 3 3)), (9, (.slice (some ⟨3, 0, none⟩) 2 2))]) (hc := ⟨4, [(0, (.cells (Go.Proofs.Tryz.ints ys) (el) ((0, ys.length)))), (1, (.cells #[(.string (ByteArray.mk #[116, 99])), (.string (ByteArray.mk #[116, 97])), (.string (ByteArray.mk #[116, 98]))] (9) ((0, 0)))), (2, (.cells #[(.int .i64 1), (.int .i64 2), (.int .i64 3)] (3) ((0, 0)))), (3, (.cells #[(.int .i64 7), (.int .i64 9)] (3) ((0, 0))))]⟩) (by kernel_rfl) ?_ (fun tail => ?_)
    · exact ⟨[0, 1, 2, 3], [.flat, .flat, .flat, .flat], rfl, rfl, ⟨⟨rfl, by kernel_rfl⟩, trivial⟩, by kernel_rfl, by kernel_rfl, ⟨⟨ints_flat _, by kernel_rfl⟩, ⟨flatO_of (by kernel_rfl), by kernel_rfl⟩, ⟨flatO_of (by kernel_rfl), by kernel_rfl⟩, ⟨flatO_of (by kernel_rfl), by kernel_rfl⟩, trivial⟩, by kernel_rfl, by kernel_rfl, by kernel_rfl, ⟨⟨rfl, by kernel_rfl⟩, ⟨rfl, by kernel_rfl⟩, ⟨rfl, by kernel_rfl⟩, ⟨rfl, by kernel_rfl⟩, ⟨rfl, by kernel_rfl⟩, trivial⟩⟩
    refine CT.seq ?_
    refine CT.region [0, 1, 2, 3, 4, 5, 6] rfl rfl ?_
    refine OT.evs KnownOk.none noC_ok [0] [1, 2, 3, 4, 5, 6] (by kernel_rfl) ?_
    refine OT.callEv KnownOk.none mixed noC_ok 300 7 (by kernel_rfl) (by kernel_rfl) (by kernel_rfl) (by kernel_rfl) (by kernel_rfl) ?_
    refine OT.evs KnownOk.none noC_ok [2, 3, 4, 5, 6] [] (by kernel_rfl) ?_
    refine OT.nil ?_
    refine CT.neat (n := 1) (N := 85) (live := [(5, (.slice none 0 0)), (6, (.slice none 0 0)), (7, (.slice (some ⟨1, 0, none⟩) 3 3)), (8, (.slice (some ⟨2, 0, none⟩) 3 3)), (9, (.slice (some ⟨3, 0, none⟩) 2 2)), (12, (.slice (some ⟨4, 0, none⟩) 9 36893488147419103232))]) (hc := ⟨5, [(0, (.cells (Go.Proofs.Tryz.ints ys) (el) ((0, ys.length)))), (1, (.cells #[(.string (ByteArray.mk #[116, 99])), (.string (ByteArray.mk #[116, 97])), (.string (ByteArray.mk #[116, 98]))] (9) ((0, 0)))), (2, (.cells #[(.int .i64 1), (.int .i64 2), (.int .i64 3)] (3) ((0, 0)))), (3, (.cells #[(.int .i64 7), (.int .i64 9)] (3) ((0, 0)))), (4, (.cells #[(.string (ByteArray.mk #[116, 99])), (.string (ByteArray.mk #[116, 97])), (.string (ByteArray.mk #[116, 98])), (.string (ByteArray.mk #[116, 98])), (.string (ByteArray.mk #[116, 97])), (.string (ByteArray.mk #[116, 99])), (.string (ByteArray.mk #[116, 99])), (.string (ByteArray.mk #[116, 97])), (.string (ByteArray.mk #[116, 98]))] 9 ((0, 0))))]⟩) (by kernel_rfl) ?_ (fun tail => ?_)
    · exact ⟨[0, 1, 2, 3, 13], [.flat, .flat, .flat, .flat, .flat], rfl, rfl, ⟨⟨rfl, by kernel_rfl⟩, trivial⟩, by kernel_rfl, by kernel_rfl, ⟨⟨ints_flat _, by kernel_rfl⟩, ⟨flatO_of (by kernel_rfl), by kernel_rfl⟩, ⟨flatO_of (by kernel_rfl), by kernel_rfl⟩, ⟨flatO_of (by kernel_rfl), by kernel_rfl⟩, ⟨flatO_of (by kernel_rfl), by kernel_rfl⟩, trivial⟩, by kernel_rfl, by kernel_rfl, by kernel_rfl, ⟨⟨rfl, by kernel_rfl⟩, ⟨rfl, by kernel_rfl⟩, ⟨rfl, by kernel_rfl⟩, ⟨rfl, by kernel_rfl⟩, ⟨rfl, by kernel_rfl⟩, ⟨rfl, by kernel_rfl⟩, trivial⟩⟩
    refine CT.seq ?_
    refine CT.region [0, 1] rfl rfl ?_
    refine OT.evs KnownOk.none noC_ok [0] [1] (by kernel_rfl) ?_
    refine OT.callEv KnownOk.none mixed noC_ok 300 6 (by kernel_rfl) (by kernel_rfl) (by kernel_rfl) (by kernel_rfl) (by kernel_rfl) ?_
    refine OT.nil ?_
    refine CT.neat (n := 1) (N := 85) (live := [(5, (.slice none 0 0)), (6, (.slice none 0 0)), (7, (.slice (some ⟨1, 0, none⟩) 3 3)), (8, (.slice (some ⟨2, 0, none⟩) 3 3)), (9, (.slice (some ⟨3, 0, none⟩) 2 2))]) (hc := ⟨4, [(0, (.cells (Go.Proofs.Tryz.ints ys) (el) ((0, ys.length)))), (1, (.cells #[(.string (ByteArray.mk #[116, 99])), (.string (ByteArray.mk #[116, 97])), (.string (ByteArray.mk #[116, 98]))] (9) ((0, 0)))), (2, (.cells #[(.int .i64 1), (.int .i64 2), (.int .i64 3)] (3) ((0, 0)))), (3, (.cells #[(.int .i64 7), (.int .i64 9)] (3) ((0, 0))))]⟩) (by kernel_rfl) ?_ (fun tail => ?_)
    · exact ⟨[0, 1, 2, 3], [.flat, .flat, .flat, .flat], rfl, rfl, ⟨⟨rfl, by kernel_rfl⟩, trivial⟩, by kernel_rfl, by kernel_rfl, ⟨⟨ints_flat _, by kernel_rfl⟩, ⟨flatO_of (by kernel_rfl), by kernel_rfl⟩, ⟨flatO_of (by kernel_rfl), by kernel_rfl⟩, ⟨flatO_of (by kernel_rfl), by kernel_rfl⟩, trivial⟩, by kernel_rfl, by kernel_rfl, by kernel_rfl, ⟨⟨rfl, by kernel_rfl⟩, ⟨rfl, by kernel_rfl⟩, ⟨rfl, by kernel_rfl⟩, ⟨rfl, by kernel_rfl⟩, ⟨rfl, by kernel_rfl⟩, trivial⟩⟩
    refine CT.seq ?_
    refine CT.region [0, 1, 2, 3, 4, 5, 6] rfl rfl ?_
    refine OT.evs KnownOk.none noC_ok [0] [1, 2, 3, 4, 5, 6] (by kernel_rfl) ?_
    refine OT.callEv KnownOk.none mixed noC_ok 300 8 (by kernel_rfl) (by kernel_rfl) (by kernel_rfl) (by kernel_rfl) (by kernel_rfl) ?_
    refine OT.evs KnownOk.none noC_ok [2, 3, 4, 5, 6] [] (by kernel_rfl) ?_
    refine OT.nil ?_
    refine CT.neat (n := 1) (N := 85) (live := [(5, (.slice none 0 0)), (6, (.slice none 0 0)), (7, (.slice (some ⟨1, 0, none⟩) 3 3)), (8, (.slice (some ⟨2, 0, none⟩) 3 3)), (9, (.slice (some ⟨3, 0, none⟩) 2 2)), (14, (.slice none 0 0))]) (hc := ⟨4, [(0, (.cells (Go.Proofs.Tryz.ints ys) (el) ((0, ys.length)))), (1, (.cells #[(.string (ByteArray.mk #[116, 99])), (.string (ByteArray.mk #[116, 97])), (.string (ByteArray.mk #[116, 98]))] (9) ((0, 0)))), (2, (.cells #[(.int .i64 1), (.int .i64 2), (.int .i64 3)] (3) ((0, 0)))), (3, (.cells #[(.int .i64 7), (.int .i64 9)] (3) ((0, 0))))]⟩) (by kernel_rfl) ?_ (fun tail => ?_)
    · exact ⟨[0, 1, 2, 3], [.flat, .flat, .flat, .flat], rfl, rfl, ⟨⟨rfl, by kernel_rfl⟩, trivial⟩, by kernel_rfl, by kernel_rfl, ⟨⟨ints_flat _, by kernel_rfl⟩, ⟨flatO_of (by kernel_rfl), by kernel_rfl⟩, ⟨flatO_of (by kernel_rfl), by kernel_rfl⟩, ⟨flatO_of (by kernel_rfl), by kernel_rfl⟩, trivial⟩, by kernel_rfl, by kernel_rfl, by kernel_rfl, ⟨⟨rfl, by kernel_rfl⟩, ⟨rfl, by kernel_rfl⟩, ⟨rfl, by kernel_rfl⟩, ⟨rfl, by kernel_rfl⟩, ⟨rfl, by kernel_rfl⟩, ⟨rfl, by kernel_rfl⟩, trivial⟩⟩
    refine CT.seq ?_
    refine CT.region [0, 1] rfl rfl ?_
    refine OT.evs KnownOk.none noC_ok [0] [1] (by kernel_rfl) ?_
    refine OT.callEv KnownOk.none mixed noC_ok 300 9 (by kernel_rfl) (by kernel_rfl) (by kernel_rfl) (by kernel_rfl) (by kernel_rfl) ?_
    refine OT.nil ?_
    refine CT.neat (n := 1) (N := 85) (live := [(5, (.slice none 0 0)), (6, (.slice none 0 0)), (7, (.slice (some ⟨1, 0, none⟩) 3 3)), (8, (.slice (some ⟨2, 0, none⟩) 3 3)), (9, (.slice (some ⟨3, 0, none⟩) 2 2))]) (hc := ⟨4, [(0, (.cells (Go.Proofs.Tryz.ints ys) (el) ((0, ys.length)))), (1, (.cells #[(.string (ByteArray.mk #[116, 99])), (.string (ByteArray.mk #[116, 97])), (.string (ByteArray.mk #[116, 98]))] (9) ((0, 0)))), (2, (.cells #[(.int .i64 1), (.int .i64 2), (.int .i64 3)] (3) ((0, 0)))), (3, (.cells #[(.int .i64 7), (.int .i64 9)] (3) ((0, 0))))]⟩) (by kernel_rfl) ?_ (fun tail => ?_)
    · exact ⟨[0, 1, 2, 3], [.flat, .flat, .flat, .flat], rfl, rfl, ⟨⟨rfl, by kernel_rfl⟩, trivial⟩, by kernel_rfl, by kernel_rfl, ⟨⟨ints_flat _, by kernel_rfl⟩, ⟨flatO_of (by kernel_rfl), by kernel_rfl⟩, ⟨flatO_of (by kernel_rfl), by kernel_rfl⟩, ⟨flatO_of (by kernel_rfl), by kernel_rfl⟩, trivial⟩, by kernel_rfl, by kernel_rfl, by kernel_rfl, ⟨⟨rfl, by kernel_rfl⟩, ⟨rfl, by kernel_rfl⟩, ⟨rfl, by kernel_rfl⟩, ⟨rfl, by kernel_rfl⟩, ⟨rfl, by kernel_rfl⟩, trivial⟩⟩
    refine CT.seq ?_
    refine CT.region [0, 1, 2, 3, 4, 5, 6, 7, 8, 9] rfl rfl ?_
    refine OT.evs KnownOk.none noC_ok [0, 1, 2, 3] [4, 5, 6, 7, 8, 9] (by kernel_rfl) ?_
    refine OT.callEv KnownOk.none mixed noC_ok 300 10 (by kernel_rfl) (by kernel_rfl) (by kernel_rfl) (by kernel_rfl) (by kernel_rfl) ?_
    refine OT.evs KnownOk.none noC_ok [5, 6, 7, 8, 9] [] (by kernel_rfl) ?_
    refine OT.nil ?_
    refine CT.neat (n := 1) (N := 85) (live := [(5, (.slice none 0 0)), (6, (.slice none 0 0)), (7, (.slice (some ⟨1, 0, none⟩) 3 3)), (8, (.slice (some ⟨2, 0, none⟩) 3 3)), (9, (.slice (some ⟨3, 0, none⟩) 2 2)), (16, (.slice (some ⟨4, 0, none⟩) 3 36893488147419103232))]) (hc := ⟨5, [(0, (.cells (Go.Proofs.Tryz.ints ys) (el) ((0, ys.length)))), (1, (.cells #[(.string (ByteArray.mk #[116, 99])), (.string (ByteArray.mk #[116, 97])), (.string (ByteArray.mk #[116, 98]))] (9) ((0, 0)))), (2, (.cells #[(.int .i64 1), (.int .i64 2), (.int .i64 3)] (3) ((0, 0)))), (3, (.cells #[(.int .i64 7), (.int .i64 9)] (3) ((0, 0)))), (4, (.cells #[(.string (ByteArray.mk #[116, 97])), (.string (ByteArray.mk #[116, 99])), (.string (ByteArray.mk #[116, 98]))] 9 ((0, 0))))]⟩) (by kernel_rfl) ?_ (fun tail => ?_)
    · exact ⟨[0, 1, 2, 3, 56], [.flat, .flat, .flat, .flat, .flat], rfl, rfl, ⟨⟨rfl, by kernel_rfl⟩, trivial⟩, by kernel_rfl, by kernel_rfl, ⟨⟨ints_flat _, by kernel_rfl⟩, ⟨flatO_of (by kernel_rfl), by kernel_rfl⟩, ⟨flatO_of (by kernel_rfl), by kernel_rfl⟩, ⟨flatO_of (by kernel_rfl), by kernel_rfl⟩, ⟨flatO_of (by kernel_rfl), by kernel_rfl⟩, trivial⟩, by kernel_rfl, by kernel_rfl, by kernel_rfl, ⟨⟨rfl, by kernel_rfl⟩, ⟨rfl, by kernel_rfl⟩, ⟨rfl, by kernel_rfl⟩, ⟨rfl, by kernel_rfl⟩, ⟨rfl, by kernel_rfl⟩, ⟨rfl, by kernel_rfl⟩, trivial⟩⟩
    refine CT.seq ?_
    refine CT.region [0, 1] rfl rfl ?_
    refine OT.evs KnownOk.none noC_ok [0] [1] (by kernel_rfl) ?_
    refine OT.callEv KnownOk.none mixed noC_ok 300 6 (by kernel_rfl) (by kernel_rfl) (by kernel_rfl) (by kernel_rfl) (by kernel_rfl) ?_
    refine OT.nil ?_
    refine CT.neat (n := 1) (N := 85) (live := [(5, (.slice none 0 0)), (6, (.slice none 0 0)), (7, (.slice (some ⟨1, 0, none⟩) 3 3)), (8, (.slice (some ⟨2, 0, none⟩) 3 3)), (9, (.slice (some ⟨3, 0, none⟩) 2 2))]) (hc := ⟨4, [(0, (.cells (Go.Proofs.Tryz.ints ys) (el) ((0, ys.length)))), (1, (.cells #[(.string (ByteArray.mk #[116, 99])), (.string (ByteArray.mk #[116, 97])), (.string (ByteArray.mk #[116, 98]))] (9) ((0, 0)))), (2, (.cells #[(.int .i64 1), (.int .i64 2), (.int .i64 3)] (3) ((0, 0)))), (3, (.cells #[(.int .i64 7), (.int .i64 9)] (3) ((0, 0))))]⟩) (by kernel_rfl) ?_ (fun tail => ?_)
    · exact ⟨[0, 1, 2, 3], [.flat, .flat, .flat, .flat], rfl, rfl, ⟨⟨rfl, by kernel_rfl⟩, trivial⟩, by kernel_rfl, by kernel_rfl, ⟨⟨ints_flat _, by kernel_rfl⟩, ⟨flatO_of (by kernel_rfl), by kernel_rfl⟩, ⟨flatO_of (by kernel_rfl), by kernel_rfl⟩, ⟨flatO_of (by kernel_rfl), by kernel_rfl⟩, trivial⟩, by kernel_rfl, by kernel_rfl, by kernel_rfl, ⟨⟨rfl, by kernel_rfl⟩, ⟨rfl, by kernel_rfl⟩, ⟨rfl, by kernel_rfl⟩, ⟨rfl, by kernel_rfl⟩, ⟨rfl, by kernel_rfl⟩, trivial⟩⟩
    refine CT.seq ?_
    refine CT.region [0, 1, 2, 3, 4, 5, 6, 7, 8, 9, 10, 11, 12, 13, 14, 15, 16, 17, 18, 19, 20, 21] rfl rfl ?_
    refine OT.evs KnownOk.none noC_ok [0, 1] [2, 3, 4, 5, 6, 7, 8, 9, 10, 11, 12, 13, 14, 15, 16, 17, 18, 19, 20, 21] (by kernel_rfl) ?_
    refine OT.callEv KnownOk.none mixed noC_ok 300 11 (by kernel_rfl) (by kernel_rfl) (by kernel_rfl) (by kernel_rfl) (by kernel_rfl) ?_
    refine OT.evs KnownOk.none noC_ok [3, 4, 5] [6, 7, 8, 9, 10, 11, 12, 13, 14, 15, 16, 17, 18, 19, 20, 21] (by kernel_rfl) ?_
    refine OT.callEv KnownOk.none mixed noC_ok 300 12 (by kernel_rfl) (by kernel_rfl) (by kernel_rfl) (by kernel_rfl) (by kernel_rfl) ?_
    refine OT.evs KnownOk.none noC_ok [7, 8, 9, 10] [11, 12, 13, 14, 15, 16, 17, 18, 19, 20, 21] (by kernel_rfl) ?_
    refine OT.callEv KnownOk.none mixed noC_ok 300 13 (by kernel_rfl) (by kernel_rfl) (by kernel_rfl) (by kernel_rfl) (by kernel_rfl) ?_
    refine OT.evs KnownOk.none noC_ok [12, 13, 14, 15] [16, 17, 18, 19, 20, 21] (by kernel_rfl) ?_
    refine OT.callEv KnownOk.none mixed noC_ok 300 13 (by kernel_rfl) (by kernel_rfl) (by kernel_rfl) (by kernel_rfl) (by kernel_rfl) ?_
    refine OT.evs KnownOk.none noC_ok [17, 18] [19, 20, 21] (by kernel_rfl) ?_
    refine OT.callE [] [] (readyS hΓ) (by kernel_rfl) (by kernel_rfl) (by kernel_rfl) rfl (by kernel_rfl) (by kernel_rfl) trivial rfl rfl ?_
    rintro _ _ ⟨rfl, rfl⟩
    refine ⟨[], [], rfl, rfl, rfl, trivial, trivial, rfl, ?_⟩
    refine OT.evs KnownOk.none noC_ok [20, 21] [] (by kernel_rfl) ?_
    refine OT.nil ?_
    refine CT.ret (retQ (by kernel_rfl) ?_)
    kernel_rfl
  · refine CT.seq ?_
    refine CT.ev KnownOk.none mixed noC_ok 1000 (by kernel_rfl) ?_
    refine CT.seq ?_
    refine CT.ev KnownOk.none mixed noC_ok 1000 (by kernel_rfl) ?_
    refine CT.seq ?_
    refine CT.region [0, 1, 2, 3, 4, 5] rfl rfl ?_
    refine OT.evs KnownOk.none noC_ok [0] [1, 2, 3, 4, 5] (by kernel_rfl) ?_
    refine OT.callE [0, 1] [.flat, .flat] (hd) (by kernel_rfl) (by kernel_rfl) (by kernel_rfl) rfl (by kernel_rfl) (by kernel_rfl) ⟨⟨flatO_of (by kernel_rfl), by kernel_rfl⟩, ⟨flatO_of (by kernel_rfl), by kernel_rfl⟩, trivial⟩ rfl rfl ?_
    rintro _ _ ⟨rfl, rfl⟩
    refine ⟨[.keep, .flat], [], rfl, rfl, rfl, ⟨by kernel_rfl, flatO_of (by kernel_rfl), trivial⟩, trivial, rfl, ?_⟩
    refine OT.evs KnownOk.none noC_ok [2] [3, 4, 5] (by kernel_rfl) ?_
    refine OT.callE [0, 2] [.flat, .flat] (hd) (by kernel_rfl) (by kernel_rfl) (by kernel_rfl) rfl (by kernel_rfl) (by kernel_rfl) ⟨⟨flatO_of (by kernel_rfl), by kernel_rfl⟩, ⟨flatO_of (by kernel_rfl), by kernel_rfl⟩, trivial⟩ rfl rfl ?_
    rintro _ _ ⟨rfl, rfl⟩
    refine ⟨[.keep, .flat], [], rfl, rfl, rfl, ⟨by kernel_rfl, flatO_of (by kernel_rfl), trivial⟩, trivial, rfl, ?_⟩
    refine OT.evs KnownOk.none noC_ok [4, 5] [] (by kernel_rfl) ?_
    refine OT.nil ?_
    refine CT.neat (n := 1) (N := 85) (live := [(5, (.slice none 0 0)), (6, (.slice none 0 0))]) (hc := ⟨1, [(0, Abs.tomb)]⟩) (by kernel_rfl) ?_ (fun tail => ?_)
    · exact ⟨[0], [.flat], rfl, rfl, ⟨⟨rfl, by kernel_rfl⟩, trivial⟩, by kernel_rfl, by kernel_rfl, ⟨⟨flatO_of (by kernel_rfl), by kernel_rfl⟩, trivial⟩, by kernel_rfl, by kernel_rfl, by kernel_rfl, ⟨⟨rfl, by kernel_rfl⟩, ⟨rfl, by kernel_rfl⟩, trivial⟩⟩
    refine CT.seq ?_
    refine CT.ev KnownOk.none mixed noC_ok 1000 (by kernel_rfl) ?_
    refine CT.seq ?_
    refine CT.region [0, 1, 2, 3, 4, 5, 6, 7, 8] rfl rfl ?_
    refine OT.evs KnownOk.none noC_ok [0, 1, 2] [3, 4, 5, 6, 7, 8] (by kernel_rfl) ?_
    refine OT.callEv KnownOk.none mixed noC_ok 300 5 (by kernel_rfl) (by kernel_rfl) (by kernel_rfl) (by kernel_rfl) (by kernel_rfl) ?_
    refine OT.evs KnownOk.none noC_ok [4, 5, 6, 7, 8] [] (by kernel_rfl) ?_
    refine OT.nil ?_
    refine CT.neat (n := 1) (N := 85) (live := [(5, (.slice none 0 0)), (6, (.slice none 0 0)), (7, (.slice (some ⟨1, 0, none⟩) 3 3)), (8, (.slice (some ⟨2, 0, none⟩) 3 3)), (9, (.slice (some ⟨3, 0, none⟩) 2 2)), (10, (.slice (some ⟨4, 0, none⟩) 3 36893488147419103232))]) (hc := ⟨5, [(0, Abs.tomb), (1, (.cells #[(.string (ByteArray.mk #[116, 99])), (.string (ByteArray.mk #[116, 97])), (.string (ByteArray.mk #[116, 98]))] 9 ((0, 0)))), (2, (.cells #[(.int .i64 1), (.int .i64 2), (.int .i64 3)] 3 ((0, 0)))), (3, (.cells #[(.int .i64 7), (.int .i64 9)] 3 ((0, 0)))), (4, (.cells #[(.string (ByteArray.mk #[116, 97])), (.string (ByteArray.mk #[116, 98])), (.string (ByteArray.mk #[116, 99]))] 9 ((0, 0))))]⟩) (by kernel_rfl) ?_ (fun tail => ?_)
    · exact ⟨[0, 2, 3, 4, 11], [.flat, .flat, .flat, .flat, .flat], rfl, rfl, ⟨⟨rfl, by kernel_rfl⟩, trivial⟩, by kernel_rfl, by kernel_rfl, ⟨⟨flatO_of (by kernel_rfl), by kernel_rfl⟩, ⟨flatO_of (by kernel_rfl), by kernel_rfl⟩, ⟨flatO_of (by kernel_rfl), by kernel_rfl⟩, ⟨flatO_of (by kernel_rfl), by kernel_rfl⟩, ⟨flatO_of (by kernel_rfl), by kernel_rfl⟩, trivial⟩, by kernel_rfl, by kernel_rfl, by kernel_rfl, ⟨⟨rfl, by kernel_rfl⟩, ⟨rfl, by kernel_rfl⟩, ⟨rfl, by kernel_rfl⟩, ⟨rfl, by kernel_rfl⟩, ⟨rfl, by kernel_rfl⟩, ⟨rfl, by kernel_rfl⟩, trivial⟩⟩
    refine CT.seq ?_
    refine CT.region [0, 1] rfl rfl ?_
    refine OT.evs KnownOk.none noC_ok [0] [1] (by kernel_rfl) ?_
    refine OT.callEv KnownOk.none mixed noC_ok 300 6 (by kernel_rfl) (by kernel_rfl) (by kernel_rfl) (by kernel_rfl) (by kernel_rfl) ?_
    refine OT.nil ?_
    refine CT.neat (n := 1) (N := 85) (live := [(5, (.slice none 0 0)), (6, (.slice none 0 0)), (7, (.slice (some ⟨1, 0, none⟩) 3 3)), (8, (.slice (some ⟨2, 0, none⟩) 3 3)), (9, (.slice (some ⟨3, 0, none⟩) 2 2))]) (hc := ⟨4, [(0, Abs.tomb), (1, (.cells #[(.string (ByteArray.mk #[116, 99])), (.string (ByteArray.mk #[116, 97])), (.string (ByteArray.mk #[116, 98]))] (9) ((0, 0)))), (2, (.cells #[(.int .i64 1), (.int .i64 2), (.int .i64 3)] (3) ((0, 0)))), (3, (.cells #[(.int .i64 7), (.int .i64 9)] (3) ((0, 0))))]⟩) (by kernel_rfl) ?_ (fun tail => ?_)
    · exact ⟨[0, 1, 2, 3], [.flat, .flat, .flat, .flat], rfl, rfl, ⟨⟨rfl, by kernel_rfl⟩, trivial⟩, by kernel_rfl, by kernel_rfl, ⟨⟨flatO_of (by kernel_rfl), by kernel_rfl⟩, ⟨flatO_of (by kernel_rfl), by kernel_rfl⟩, ⟨flatO_of (by kernel_rfl), by kernel_rfl⟩, ⟨flatO_of (by kernel_rfl), by kernel_rfl⟩, trivial⟩, by kernel_rfl, by kernel_rfl, by kernel_rfl, ⟨⟨rfl, by kernel_rfl⟩, ⟨rfl, by kernel_rfl⟩, ⟨rfl, by kernel_rfl⟩, ⟨rfl, by kernel_rfl⟩, ⟨rfl, by kernel_rfl⟩, trivial⟩⟩
    refine CT.seq ?_
    refine CT.region [0, 1, 2, 3, 4, 5, 6] rfl rfl ?_
    refine OT.evs KnownOk.none noC_ok [0] [1, 2, 3, 4, 5, 6] (by kernel_rfl) ?_
    refine OT.callEv KnownOk.none mixed noC_ok 300 7 (by kernel_rfl) (by kernel_rfl) (by kernel_rfl) (by kernel_rfl) (by kernel_rfl) ?_
    refine OT.evs KnownOk.none noC_ok [2, 3, 4, 5, 6] [] (by kernel_rfl) ?_
    refine OT.nil ?_
    refine CT.neat (n := 1) (N := 85) (live := [(5, (.slice none 0 0)), (6, (.slice none 0 0)), (7, (.slice (some ⟨1, 0, none⟩) 3 3)), (8, (.slice (some ⟨2, 0, none⟩) 3 3)), (9, (.slice (some ⟨3, 0, none⟩) 2 2)), (12, (.slice (some ⟨4, 0, none⟩) 9 36893488147419103232))]) (hc := ⟨5, [(0, Abs.tomb), (1, (.cells #[(.string (ByteArray.mk #[116, 99])), (.string (ByteArray.mk #[116, 97])), (.string (ByteArray.mk #[116, 98]))] (9) ((0, 0)))), (2, (.cells #[(.int .i64 1), (.int .i64 2), (.int .i64 3)] (3) ((0, 0)))), (3, (.cells #[(.int .i64 7), (.int .i64 9)] (3) ((0, 0)))), (4, (.cells #[(.string (ByteArray.mk #[116, 99])), (.string (ByteArray.mk #[116, 97])), (.string (ByteArray.mk #[116, 98])), (.string (ByteArray.mk #[116, 98])), (.string (ByteArray.mk #[116, 97])), (.string (ByteArray.mk #[116, 99])), (.string (ByteArray.mk #[116, 99])), (.string (ByteArray.mk #[116, 97])), (.string (ByteArray.mk #[116, 98]))] 9 ((0, 0))))]⟩) (by kernel_rfl) ?_ (fun tail => ?_)
    · exact ⟨[0, 1, 2, 3, 13], [.flat, .flat, .flat, .flat, .flat], rfl, rfl, ⟨⟨rfl, by kernel_rfl⟩, trivial⟩, by kernel_rfl, by kernel_rfl, ⟨⟨flatO_of (by kernel_rfl), by kernel_rfl⟩, ⟨flatO_of (by kernel_rfl), by kernel_rfl⟩, ⟨flatO_of (by kernel_rfl), by kernel_rfl⟩, ⟨flatO_of (by kernel_rfl), by kernel_rfl⟩, ⟨flatO_of (by kernel_rfl), by kernel_rfl⟩, trivial⟩, by kernel_rfl, by kernel_rfl, by kernel_rfl, ⟨⟨rfl, by kernel_rfl⟩, ⟨rfl, by kernel_rfl⟩, ⟨rfl, by kernel_rfl⟩, ⟨rfl, by kernel_rfl⟩, ⟨rfl, by kernel_rfl⟩, ⟨rfl, by kernel_rfl⟩, trivial⟩⟩
    refine CT.seq ?_
    refine CT.region [0, 1] rfl rfl ?_
    refine OT.evs KnownOk.none noC_ok [0] [1] (by kernel_rfl) ?_
    refine OT.callEv KnownOk.none mixed noC_ok 300 6 (by kernel_rfl) (by kernel_rfl) (by kernel_rfl) (by kernel_rfl) (by kernel_rfl) ?_
    refine OT.nil ?_
    refine CT.neat (n := 1) (N := 85) (live := [(5, (.slice none 0 0)), (6, (.slice none 0 0)), (7, (.slice (some ⟨1, 0, none⟩) 3 3)), (8, (.slice (some ⟨2, 0, none⟩) 3 3)), (9, (.slice (some ⟨3, 0, none⟩) 2 2))]) (hc := ⟨4, [(0, Abs.tomb), (1, (.cells #[(.string (ByteArray.mk #[116, 99])), (.string (ByteArray.mk #[116, 97])), (.string (ByteArray.mk #[116, 98]))] (9) ((0, 0)))), (2, (.cells #[(.int .i64 1), (.int .i64 2), (.int .i64 3)] (3) ((0, 0)))), (3, (.cells #[(.int .i64 7), (.int .i64 9)] (3) ((0, 0))))]⟩) (by kernel_rfl) ?_ (fun tail => ?_)
    · exact ⟨[0, 1, 2, 3], [.flat, .flat, .flat, .flat], rfl, rfl, ⟨⟨rfl, by kernel_rfl⟩, trivial⟩, by kernel_rfl, by kernel_rfl, ⟨⟨flatO_of (by kernel_rfl), by kernel_rfl⟩, ⟨flatO_of (by kernel_rfl), by kernel_rfl⟩, ⟨flatO_of (by kernel_rfl), by kernel_rfl⟩, ⟨flatO_of (by kernel_rfl), by kernel_rfl⟩, trivial⟩, by kernel_rfl, by kernel_rfl, by kernel_rfl, ⟨⟨rfl, by kernel_rfl⟩, ⟨rfl, by kernel_rfl⟩, ⟨rfl, by kernel_rfl⟩, ⟨rfl, by kernel_rfl⟩, ⟨rfl, by kernel_rfl⟩, trivial⟩⟩
    refine CT.seq ?_
    refine CT.region [0, 1, 2, 3, 4, 5, 6] rfl rfl ?_
    refine OT.evs KnownOk.none noC_ok [0] [1, 2, 3, 4, 5, 6] (by kernel_rfl) ?_
    refine OT.callEv KnownOk.none mixed noC_ok 300 8 (by kernel_rfl) (by kernel_rfl) (by kernel_rfl) (by kernel_rfl) (by kernel_rfl) ?_
    refine OT.evs KnownOk.none noC_ok [2, 3, 4, 5, 6] [] (by kernel_rfl) ?_
    refine OT.nil ?_
    refine CT.neat (n := 1) (N := 85) (live := [(5, (.slice none 0 0)), (6, (.slice none 0 0)), (7, (.slice (some ⟨1, 0, none⟩) 3 3)), (8, (.slice (some ⟨2, 0, none⟩) 3 3)), (9, (.slice (some ⟨3, 0, none⟩) 2 2)), (14, (.slice none 0 0))]) (hc := ⟨4, [(0, Abs.tomb), (1, (.cells #[(.string (ByteArray.mk #[116, 99])), (.string (ByteArray.mk #[116, 97])), (.string (ByteArray.mk #[116, 98]))] (9) ((0, 0)))), (2, (.cells #[(.int .i64 1), (.int .i64 2), (.int .i64 3)] (3) ((0, 0)))), (3, (.cells #[(.int .i64 7), (.int .i64 9)] (3) ((0, 0))))]⟩) (by kernel_rfl) ?_ (fun tail => ?_)
    · exact ⟨[0, 1, 2, 3], [.flat, .flat, .flat, .flat], rfl, rfl, ⟨⟨rfl, by kernel_rfl⟩, trivial⟩, by kernel_rfl, by kernel_rfl, ⟨⟨flatO_of (by kernel_rfl), by kernel_rfl⟩, ⟨flatO_of (by kernel_rfl), by kernel_rfl⟩, ⟨flatO_of (by kernel_rfl), by kernel_rfl⟩, ⟨flatO_of (by kernel_rfl), by kernel_rfl⟩, trivial⟩, by kernel_rfl, by kernel_rfl, by kernel_rfl, ⟨⟨rfl, by kernel_rfl⟩, ⟨rfl, by kernel_rfl⟩, ⟨rfl, by kernel_rfl⟩, ⟨rfl, by kernel_rfl⟩, ⟨rfl, by kernel_rfl⟩, ⟨rfl, by kernel_rfl⟩, trivial⟩⟩
    refine CT.seq ?_
    refine CT.region [0, 1] rfl rfl ?_
    refine OT.evs KnownOk.none noC_ok [0] [1] (by kernel_rfl) ?_
    refine OT.callEv KnownOk.none mixed noC_ok 300 9 (by kernel_rfl) (by kernel_rfl) (by kernel_rfl) (by kernel_rfl) (by kernel_rfl) ?_
    refine OT.nil ?_
    refine CT.neat (n := 1) (N := 85) (live := [(5, (.slice none 0 0)), (6, (.slice none 0 0)), (7, (.slice (some ⟨1, 0, none⟩) 3 3)), (8, (.slice (some ⟨2, 0, none⟩) 3 3)), (9, (.slice (some ⟨3, 0, none⟩) 2 2))]) (hc := ⟨4, [(0, Abs.tomb), (1, (.cells #[(.string (ByteArray.mk #[116, 99])), (.string (ByteArray.mk #[116, 97])), (.string (ByteArray.mk #[116, 98]))] (9) ((0, 0)))), (2, (.cells #[(.int .i64 1), (.int .i64 2), (.int .i64 3)] (3) ((0, 0)))), (3, (.cells #[(.int .i64 7), (.int .i64 9)] (3) ((0, 0))))]⟩) (by kernel_rfl) ?_ (fun tail => ?_)
    · exact ⟨[0, 1, 2, 3], [.flat, .flat, .flat, .flat], rfl, rfl, ⟨⟨rfl, by kernel_rfl⟩, trivial⟩, by kernel_rfl, by kernel_rfl, ⟨⟨flatO_of (by kernel_rfl), by kernel_rfl⟩, ⟨flatO_of (by kernel_rfl), by kernel_rfl⟩, ⟨flatO_of (by kernel_rfl), by kernel_rfl⟩, ⟨flatO_of (by kernel_rfl), by kernel_rfl⟩, trivial⟩, by kernel_rfl, by kernel_rfl, by kernel_rfl, ⟨⟨rfl, by kernel_rfl⟩, ⟨rfl, by kernel_rfl⟩, ⟨rfl, by kernel_rfl⟩, ⟨rfl, by kernel_rfl⟩, ⟨rfl, by kernel_rfl⟩, trivial⟩⟩
    refine CT.seq ?_
    refine CT.region [0, 1, 2, 3, 4, 5, 6, 7, 8, 9] rfl rfl ?_
    refine OT.evs KnownOk.none noC_ok [0, 1, 2, 3] [4, 5, 6, 7, 8, 9] (by kernel_rfl) ?_
    refine OT.callEv KnownOk.none mixed noC_ok 300 10 (by kernel_rfl) (by kernel_rfl) (by kernel_rfl) (by kernel_rfl) (by kernel_rfl) ?_
    refine OT.evs KnownOk.none noC_ok [5, 6, 7, 8, 9] [] (by kernel_rfl) ?_
    refine OT.nil ?_
    refine CT.neat (n := 1) (N := 85) (live := [(5, (.slice none 0 0)), (6, (.slice none 0 0)), (7, (.slice (some ⟨1, 0, none⟩) 3 3)), (8, (.slice (some ⟨2, 0, none⟩) 3 3)), (9, (.slice (some ⟨3, 0, none⟩) 2 2)), (16, (.slice (some ⟨4, 0, none⟩) 3 36893488147419103232))]) (hc := ⟨5, [(0, Abs.tomb), (1, (.cells #[(.string (ByteArray.mk #[116, 99])), (.string (ByteArray.mk #[116, 97])), (.string (ByteArray.mk #[116, 98]))] (9) ((0, 0)))), (2, (.cells #[(.int .i64 1), (.int .i64 2), (.int .i64 3)] (3) ((0, 0)))), (3, (.cells #[(.int .i64 7), (.int .i64 9)] (3) ((0, 0)))), (4, (.cells #[(.string (ByteArray.mk #[116, 97])), (.string (ByteArray.mk #[116, 99])), (.string (ByteArray.mk #[116, 98]))] 9 ((0, 0))))]⟩) (by kernel_rfl) ?_ (fun tail => ?_)
    · exact ⟨[0, 1, 2, 3, 56], [.flat, .flat, .flat, .flat, .flat], rfl, rfl, ⟨⟨rfl, by kernel_rfl⟩, trivial⟩, by kernel_rfl, by kernel_rfl, ⟨⟨flatO_of (by kernel_rfl), by kernel_rfl⟩, ⟨flatO_of (by kernel_rfl), by kernel_rfl⟩, ⟨flatO_of (by kernel_rfl), by kernel_rfl⟩, ⟨flatO_of (by kernel_rfl), by kernel_rfl⟩, ⟨flatO_of (by kernel_rfl), by kernel_rfl⟩, trivial⟩, by kernel_rfl, by kernel_rfl, by kernel_rfl, ⟨⟨rfl, by kernel_rfl⟩, ⟨rfl, by kernel_rfl⟩, ⟨rfl, by kernel_rfl⟩, ⟨rfl, by kernel_rfl⟩, ⟨rfl, by kernel_rfl⟩, ⟨rfl, by kernel_rfl⟩, trivial⟩⟩
    refine CT.seq ?_
    refine CT.region [0, 1] rfl rfl ?_
    refine OT.evs KnownOk.none noC_ok [0] [1] (by kernel_rfl) ?_
    refine OT.callEv KnownOk.none mixed noC_ok 300 6 (by kernel_rfl) (by kernel_rfl) (by kernel_rfl) (by kernel_rfl) (by kernel_rfl) ?_
    refine OT.nil ?_
    refine CT.neat (n := 1) (N := 85) (live := [(5, (.slice none 0 0)), (6, (.slice none 0 0)), (7, (.slice (some ⟨1, 0, none⟩) 3 3)), (8, (.slice (some ⟨2, 0, none⟩) 3 3)), (9, (.slice (some ⟨3, 0, none⟩) 2 2))]) (hc := ⟨4, [(0, Abs.tomb), (1, (.cells #[(.string (ByteArray.mk #[116, 99])), (.string (ByteArray.mk #[116, 97])), (.string (ByteArray.mk #[116, 98]))] (9) ((0, 0)))), (2, (.cells #[(.int .i64 1), (.int .i64 2), (.int .i64 3)] (3) ((0, 0)))), (3, (.cells #[(.int .i64 7), (.int .i64 9)] (3) ((0, 0))))]⟩) (by kernel_rfl) ?_ (fun tail => ?_)
    · exact ⟨[0, 1, 2, 3], [.flat, .flat, .flat, .flat], rfl, rfl, ⟨⟨rfl, by kernel_rfl⟩, trivial⟩, by kernel_rfl, by kernel_rfl, ⟨⟨flatO_of (by kernel_rfl), by kernel_rfl⟩, ⟨flatO_of (by kernel_rfl), by kernel_rfl⟩, ⟨flatO_of (by kernel_rfl), by kernel_rfl⟩, ⟨flatO_of (by kernel_rfl), by kernel_rfl⟩, trivial⟩, by kernel_rfl, by kernel_rfl, by kernel_rfl, ⟨⟨rfl, by kernel_rfl⟩, ⟨rfl, by kernel_rfl⟩, ⟨rfl, by kernel_rfl⟩, ⟨rfl, by kernel_rfl⟩, ⟨rfl, by kernel_rfl⟩, trivial⟩⟩
    refine CT.seq ?_
    refine CT.region [0, 1, 2, 3, 4, 5, 6, 7, 8, 9, 10, 11, 12, 13, 14, 15, 16, 17, 18, 19, 20, 21] rfl rfl ?_
    refine OT.evs KnownOk.none noC_ok [0, 1] [2, 3, 4, 5, 6, 7, 8, 9, 10, 11, 12, 13, 14, 15, 16, 17, 18, 19, 20, 21] (by kernel_rfl) ?_
    refine OT.callEv KnownOk.none mixed noC_ok 300 11 (by kernel_rfl) (by kernel_rfl) (by kernel_rfl) (by kernel_rfl) (by kernel_rfl) ?_
    refine OT.evs KnownOk.none noC_ok [3, 4, 5] [6, 7, 8, 9, 10, 11, 12, 13, 14, 15, 16, 17, 18, 19, 20, 21] (by kernel_rfl) ?_
    refine OT.callEv KnownOk.none mixed noC_ok 300 12 (by kernel_rfl) (by kernel_rfl) (by kernel_rfl) (by kernel_rfl) (by kernel_rfl) ?_
    refine OT.evs KnownOk.none noC_ok [7, 8, 9, 10] [11, 12, 13, 14, 15, 16, 17, 18, 19, 20, 21] (by kernel_rfl) ?_
    refine OT.callEv KnownOk.none mixed noC_ok 300 13 (by kernel_rfl) (by kernel_rfl) (by kernel_rfl) (by kernel_rfl) (by kernel_rfl) ?_
    refine OT.evs KnownOk.none noC_ok [12, 13, 14, 15] [16, 17, 18, 19, 20, 21] (by kernel_rfl) ?_
    refine OT.callEv KnownOk.none mixed noC_ok 300 13 (by kernel_rfl) (by kernel_rfl) (by kernel_rfl) (by kernel_rfl) (by kernel_rfl) ?_
    refine OT.evs KnownOk.none noC_ok [17, 18] [19, 20, 21] (by kernel_rfl) ?_
    refine OT.callE [] [] (readyS hΓ) (by kernel_rfl) (by kernel_rfl) (by kernel_rfl) rfl (by kernel_rfl) (by kernel_rfl) trivial rfl rfl ?_
    rintro _ _ ⟨rfl, rfl⟩
    refine ⟨[], [], rfl, rfl, rfl, trivial, trivial, rfl, ?_⟩
    refine OT.evs KnownOk.none noC_ok [20, 21] [] (by kernel_rfl) ?_
    refine OT.nil ?_
    refine CT.ret (retQ (by kernel_rfl) ?_)
    kernel_rfl
end Go.Proofs.Tryz


namespace Go.Proofs.Tryz
open Go Go.Abs
set_option maxHeartbeats 0

theorem lawFull {Γ : Gl} {m : Int} {e : TypeId} {f : Nat × Nat} (hΓ : Γ.heap[2]? = some (.cells #[.int .i64 m] e f)) (s : Src) (t : Int) (a0 a1 a2 a3 a4 a5 a6 a7 : Hon) (hok : okH [a0, a1, a2, a3, a4, a5, a6, a7])
    (hd : FT prog (Γ.at 1) 4 #[.pointer (some ⟨1, 0, none⟩), .int .i64 8] (s.h 0) fun v h => v = honV [a0, a1, a2, a3, a4, a5, a6, a7] ∧ h = s.hon t [a0, a1, a2, a3, a4, a5, a6, a7]) :
    FT prog Γ 3 #[s.lst] ⟨1, [(0, s.row)]⟩ fun v h => v = .bool true := by
  refine (FT.body func3 rfl ?_)
  obtain ⟨z, el, ys, n, c, ok⟩ := s
  cases z
  · refine CT.seq ?_
    refine CT.ev KnownOk.none mixed noC_ok 1000 (by kernel_rfl) ?_
    refine CT.seq ?_
    refine CT.ev KnownOk.none mixed noC_ok 1000 (by kernel_rfl) ?_
    refine CT.seq ?_
    refine CT.region [0, 1, 2, 3, 4, 5] rfl rfl ?_
    refine OT.evs KnownOk.none noC_ok [0] [1, 2, 3, 4, 5] (by kernel_rfl) ?_
    refine OT.callE [0, 1] [.flat, .fix] (hd) (by kernel_rfl) (by kernel_rfl) (by kernel_rfl) rfl (by kernel_rfl) (by kernel_rfl) ⟨⟨ints_flat _, by kernel_rfl⟩, ⟨⟨Src.plain _ _ _ rfl, Src.fix _ _ _ rfl⟩, by kernel_rfl⟩, trivial⟩ rfl rfl ?_
    rintro _ _ ⟨rfl, rfl⟩
    refine ⟨[.keep, .fix], [.flat], rfl, rfl, rfl, ⟨by kernel_rfl, ⟨Src.pl _ _, Src.fix _ _ _ rfl⟩, trivial⟩, ⟨flatO_of (by kernel_rfl), trivial⟩, rfl, ?_⟩
    refine OT.evs KnownOk.none noC_ok [2] [3, 4, 5] (by kernel_rfl) ?_
    refine OT.callE [0, 2] [.flat, .fix] (hd) (by kernel_rfl) (by kernel_rfl) (by kernel_rfl) rfl (by kernel_rfl) (by kernel_rfl) ⟨⟨ints_flat _, by kernel_rfl⟩, ⟨⟨Src.plain _ _ _ rfl, Src.fix _ _ _ rfl⟩, by kernel_rfl⟩, trivial⟩ rfl rfl ?_
    rintro _ _ ⟨rfl, rfl⟩
    refine ⟨[.keep, .fix], [.flat], rfl, rfl, rfl, ⟨by kernel_rfl, ⟨Src.pl _ _, Src.fix _ _ _ rfl⟩, trivial⟩, ⟨flatO_of (by kernel_rfl), trivial⟩, rfl, ?_⟩
    refine OT.evs KnownOk.none noC_ok [4, 5] [] (by kernel_rfl) ?_
    refine OT.nil ?_
    refine CT.neat (n := 1) (N := 85) (live := [(5, (.slice (some ⟨1, 0, none⟩) ([a0, a1, a2, a3, a4, a5, a6, a7].length) 36893488147419103232)), (6, (.slice (some ⟨2, 0, none⟩) ([a0, a1, a2, a3, a4, a5, a6, a7].length) 36893488147419103232))]) (hc := ⟨3, [(0, (.cells (Go.Proofs.Tryz.ints ys) (el) ((0, ys.length)))), (1, (.cells (Go.Abs.rowOf Go.Proofs.Tryz.encH [a0, a1, a2, a3, a4, a5, a6, a7]) (40) ((0, 0)))), (2, (.cells (Go.Abs.rowOf Go.Proofs.Tryz.encH [a0, a1, a2, a3, a4, a5, a6, a7]) (40) ((0, 0))))]⟩) (by kernel_rfl) ?_ (fun tail => ?_)
    · exact ⟨[0, 3, 4], [.flat, .flat, .flat], rfl, rfl, ⟨⟨rfl, by kernel_rfl⟩, trivial⟩, by kernel_rfl, by kernel_rfl, ⟨⟨ints_flat _, by kernel_rfl⟩, ⟨flatO_of (by kernel_rfl), by kernel_rfl⟩, ⟨flatO_of (by kernel_rfl), by kernel_rfl⟩, trivial⟩, by kernel_rfl, by kernel_rfl, by kernel_rfl, ⟨⟨rfl, by kernel_rfl⟩, ⟨rfl, by kernel_rfl⟩, trivial⟩⟩
    refine CT.seq ?_
    refine CT.ev KnownOk.none mixed noC_ok 1000 (by kernel_rfl) ?_
    refine CT.seq ?_
    refine CT.region [0, 1, 2, 3, 4, 5, 6, 7, 8] rfl rfl ?_
    refine OT.evs KnownOk.none noC_ok [0, 1, 2] [3, 4, 5, 6, 7, 8] (by kernel_rfl) ?_
    refine OT.callEv KnownOk.none mixed noC_ok 300 5 (by kernel_rfl) (by kernel_rfl) (by kernel_rfl) (by kernel_rfl) (by kernel_rfl) ?_
    refine OT.evs KnownOk.none noC_ok [4, 5, 6, 7, 8] [] (by kernel_rfl) ?_
    refine OT.nil ?_
    refine CT.neat (n := 1) (N := 85) (live := [(5, (.slice (some ⟨1, 0, none⟩) ([a0, a1, a2, a3, a4, a5, a6, a7].length) 36893488147419103232)), (6, (.slice (some ⟨2, 0, none⟩) ([a0, a1, a2, a3, a4, a5, a6, a7].length) 36893488147419103232)), (7, (.slice (some ⟨3, 0, none⟩) 3 3)), (8, (.slice (some ⟨4, 0, none⟩) 3 3)), (9, (.slice (some ⟨5, 0, none⟩) 2 2)), (10, (.slice (some ⟨6, 0, none⟩) 3 36893488147419103232))]) (hc := ⟨7, [(0, (.cells (Go.Proofs.Tryz.ints ys) (el) ((0, ys.length)))), (1, (.cells (Go.Abs.rowOf Go.Proofs.Tryz.encH [a0, a1, a2, a3, a4, a5, a6, a7]) (40) ((0, 0)))), (2, (.cells (Go.Abs.rowOf Go.Proofs.Tryz.encH [a0, a1, a2, a3, a4, a5, a6, a7]) (40) ((0, 0)))), (3, (.cells #[(.string (ByteArray.mk #[116, 99])), (.string (ByteArray.mk #[116, 97])), (.string (ByteArray.mk #[116, 98]))] 9 ((0, 0)))), (4, (.cells #[(.int .i64 1), (.int .i64 2), (.int .i64 3)] 3 ((0, 0)))), (5, (.cells #[(.int .i64 7), (.int .i64 9)] 3 ((0, 0)))), (6, (.cells #[(.string (ByteArray.mk #[116, 97])), (.string (ByteArray.mk #[116, 98])), (.string (ByteArray.mk #[116, 99]))] 9 ((0, 0))))]⟩) (by kernel_rfl) ?_ (fun tail => ?_)
    · exact ⟨[0, 1, 2, 4, 5, 6, 13], [.flat, .flat, .flat, .flat, .flat, .flat, .flat], rfl, rfl, ⟨⟨rfl, by kernel_rfl⟩, trivial⟩, by kernel_rfl, by kernel_rfl, ⟨⟨ints_flat _, by kernel_rfl⟩, ⟨flatO_of (by kernel_rfl), by kernel_rfl⟩, ⟨flatO_of (by kernel_rfl), by kernel_rfl⟩, ⟨flatO_of (by kernel_rfl), by kernel_rfl⟩, ⟨flatO_of (by kernel_rfl), by kernel_rfl⟩, ⟨flatO_of (by kernel_rfl), by kernel_rfl⟩, ⟨flatO_of (by kernel_rfl), by kernel_rfl⟩, trivial⟩, by kernel_rfl, by kernel_rfl, by kernel_rfl, ⟨⟨rfl, by kernel_rfl⟩, ⟨rfl, by kernel_rfl⟩, ⟨rfl, by kernel_rfl⟩, ⟨rfl, by kernel_rfl⟩, ⟨rfl, by kernel_rfl⟩, ⟨rfl, by kernel_rfl⟩, trivial⟩⟩
    refine CT.seq ?_
    refine CT.region [0, 1] rfl rfl ?_
    refine OT.evs KnownOk.none noC_ok [0] [1] (by kernel_rfl) ?_
    refine OT.callEv KnownOk.none mixed noC_ok 300 6 (by kernel_rfl) (by kernel_rfl) (by kernel_rfl) (by kernel_rfl) (by kernel_rfl) ?_
    refine OT.nil ?_
    refine CT.neat (n := 1) (N := 85) (live := [(5, (.slice (some ⟨1, 0, none⟩) ([a0, a1, a2, a3, a4, a5, a6, a7].length) 36893488147419103232)), (6, (.slice (some ⟨2, 0, none⟩) ([a0, a1, a2, a3, a4, a5, a6, a7].length) 36893488147419103232)), (7, (.slice (some ⟨3, 0, none⟩) 3 3)), (8, (.slice (some ⟨4, 0, none⟩) 3 3)), (9, (.slice (some ⟨5, 0, none⟩) 2 2))]) (hc := ⟨6, [(0, (.cells (Go.Proofs.Tryz.ints ys) (el) ((0, ys.length)))), (1, (.cells (Go.Abs.rowOf Go.Proofs.Tryz.encH [a0, a1, a2, a3, a4, a5, a6, a7]) (40) ((0, 0)))), (2, (.cells (Go.Abs.rowOf Go.Proofs.Tryz.encH [a0, a1, a2, a3, a4, a5, a6, a7]) (40) ((0, 0)))), (3, (.cells #[(.string (ByteArray.mk #[116, 99])), (.string (ByteArray.mk #[116, 97])), (.string (ByteArray.mk #[116, 98]))] (9) ((0, 0)))), (4, (.cells #[(.int .i64 1), (.int .i64 2), (.int .i64 3)] (3) ((0, 0)))), (5, (.cells #[(.int .i64 7), (.int .i64 9)] (3) ((0, 0))))]⟩) (by kernel_rfl) ?_ (fun tail => ?_)
    · exact ⟨[0, 1, 2, 3, 4, 5], [.flat, .flat, .flat, .flat, .flat, .flat], rfl, rfl, ⟨⟨rfl, by kernel_rfl⟩, trivial⟩, by kernel_rfl, by kernel_rfl, ⟨⟨ints_flat _, by kernel_rfl⟩, ⟨flatO_of (by kernel_rfl), by kernel_rfl⟩, ⟨flatO_of (by kernel_rfl), by kernel_rfl⟩, ⟨flatO_of (by kernel_rfl), by kernel_rfl⟩, ⟨flatO_of (by kernel_rfl), by kernel_rfl⟩, ⟨flatO_of (by kernel_rfl), by kernel_rfl⟩, trivial⟩, by kernel_rfl, by kernel_rfl, by kernel_rfl, ⟨⟨rfl, by kernel_rfl⟩, ⟨rfl, by kernel_rfl⟩, ⟨rfl, by kernel_rfl⟩, ⟨rfl, by kernel_rfl⟩, ⟨rfl, by kernel_rfl⟩, trivial⟩⟩
    refine CT.seq ?_
    refine CT.region [0, 1, 2, 3, 4, 5, 6] rfl rfl ?_
    refine OT.evs KnownOk.none noC_ok [0] [1, 2, 3, 4, 5, 6] (by kernel_rfl) ?_
    refine OT.callEv KnownOk.none mixed noC_ok 300 7 (by kernel_rfl) (by kernel_rfl) (by kernel_rfl) (by kernel_rfl) (by kernel_rfl) ?_
    refine OT.evs KnownOk.none noC_ok [2, 3, 4, 5, 6] [] (by kernel_rfl) ?_
    refine OT.nil ?_
    refine CT.neat (n := 1) (N := 85) (live := [(5, (.slice (some ⟨1, 0, none⟩) ([a0, a1, a2, a3, a4, a5, a6, a7].length) 36893488147419103232)), (6, (.slice (some ⟨2, 0, none⟩) ([a0, a1, a2, a3, a4, a5, a6, a7].length) 36893488147419103232)), (7, (.slice (some ⟨3, 0, none⟩) 3 3)), (8, (.slice (some ⟨4, 0, none⟩) 3 3)), (9, (.slice (some ⟨5, 0, none⟩) 2 2)), (12, (.slice (some ⟨6, 0, none⟩) 9 36893488147419103232))]) (hc := ⟨7, [(0, (.cells (Go.Proofs.Tryz.ints ys) (el) ((0, ys.length)))), (1, (.cells (Go.Abs.rowOf Go.Proofs.Tryz.encH [a0, a1, a2, a3, a4, a5, a6, a7]) (40) ((0, 0)))), (2, (.cells (Go.Abs.rowOf Go.Proofs.Tryz.encH [a0, a1, a2, a3, a4, a5, a6, a7]) (40) ((0, 0)))), (3, (.cells #[(.string (ByteArray.mk #[116, 99])), (.string (ByteArray.mk #[116, 97])), (.string (ByteArray.mk #[116, 98]))] (9) ((0, 0)))), (4, (.cells #[(.int .i64 1), (.int .i64 2), (.int .i64 3)] (3) ((0, 0)))), (5, (.cells #[(.int .i64 7), (.int .i64 9)] (3) ((0, 0)))), (6, (.cells #[(.string (ByteArray.mk #[116, 99])), (.string (ByteArray.mk #[116, 97])), (.string (ByteArray.mk #[116, 98])), (.string (ByteArray.mk #[116, 98])), (.string (ByteArray.mk #[116, 97])), (.string (ByteArray.mk #[116, 99])), (.string (ByteArray.mk #[116, 99])), (.string (ByteArray.mk #[116, 97])), (.string (ByteArray.mk #[116, 98]))] 9 ((0, 0))))]⟩) (by kernel_rfl) ?_ (fun tail => ?_)
    · exact ⟨[0, 1, 2, 3, 4, 5, 15], [.flat, .flat, .flat, .flat, .flat, .flat, .flat], rfl, rfl, ⟨⟨rfl, by kernel_rfl⟩, trivial⟩, by kernel_rfl, by kernel_rfl, ⟨⟨ints_flat _, by kernel_rfl⟩, ⟨flatO_of (by kernel_rfl), by kernel_rfl⟩, ⟨flatO_of (by kernel_rfl), by kernel_rfl⟩, ⟨flatO_of (by kernel_rfl), by kernel_rfl⟩, ⟨flatO_of (by kernel_rfl), by kernel_rfl⟩, ⟨flatO_of (by kernel_rfl), by kernel_rfl⟩, ⟨flatO_of (by kernel_rfl), by kernel_rfl⟩, trivial⟩, by kernel_rfl, by kernel_rfl, by kernel_rfl, ⟨⟨rfl, by kernel_rfl⟩, ⟨rfl, by kernel_rfl⟩, ⟨rfl, by kernel_rfl⟩, ⟨rfl, by kernel_rfl⟩, ⟨rfl, by kernel_rfl⟩, ⟨rfl, by kernel_rfl⟩, trivial⟩⟩
    refine CT.seq ?_
    refine CT.region [0, 1] rfl rfl ?_
    refine OT.evs KnownOk.none noC_ok [0] [1] (by kernel_rfl) ?_
    refine OT.callEv KnownOk.none mixed noC_ok 300 6 (by kernel_rfl) (by kernel_rfl) (by kernel_rfl) (by kernel_rfl) (by kernel_rfl) ?_
    refine OT.nil ?_
    refine CT.neat (n := 1) (N := 85) (live := [(5, (.slice (some ⟨1, 0, none⟩) ([a0, a1, a2, a3, a4, a5, a6, a7].length) 36893488147419103232)), (6, (.slice (some ⟨2, 0, none⟩) ([a0, a1, a2, a3, a4, a5, a6, a7].length) 36893488147419103232)), (7, (.slice (some ⟨3, 0, none⟩) 3 3)), (8, (.slice (some ⟨4, 0, none⟩) 3 3)), (9, (.slice (some ⟨5, 0, none⟩) 2 2))]) (hc := ⟨6, [(0, (.cells (Go.Proofs.Tryz.ints ys) (el) ((0, ys.length)))), (1, (.cells (Go.Abs.rowOf Go.Proofs.Tryz.encH [a0, a1, a2, a3, a4, a5, a6, a7]) (40) ((0, 0)))), (2, (.cells (Go.Abs.rowOf Go.Proofs.Tryz.encH [a0, a1, a2, a3, a4, a5, a6, a7]) (40) ((0, 0)))), (3, (.cells #[(.string (ByteArray.mk #[116, 99])), (.string (ByteArray.mk #[116, 97])), (.string (ByteArray.mk #[116, 98]))] (9) ((0, 0)))), (4, (.cells #[(.int .i64 1), (.int .i64 2), (.int .i64 3)] (3) ((0, 0)))), (5, (.cells #[(.int .i64 7), (.int .i64 9)] (3) ((0, 0))))]⟩) (by kernel_rfl) ?_ (fun tail => ?_)
    · exact ⟨[0, 1, 2, 3, 4, 5], [.flat, .flat, .flat, .flat, .flat, .flat], rfl, rfl, ⟨⟨rfl, by kernel_rfl⟩, trivial⟩, by kernel_rfl, by kernel_rfl, ⟨⟨ints_flat _, by kernel_rfl⟩, ⟨flatO_of (by kernel_rfl), by kernel_rfl⟩, ⟨flatO_of (by kernel_rfl), by kernel_rfl⟩, ⟨flatO_of (by kernel_rfl), by kernel_rfl⟩, ⟨flatO_of (by kernel_rfl), by kernel_rfl⟩, ⟨flatO_of (by kernel_rfl), by kernel_rfl⟩, trivial⟩, by kernel_rfl, by kernel_rfl, by kernel_rfl, ⟨⟨rfl, by kernel_rfl⟩, ⟨rfl, by kernel_rfl⟩, ⟨rfl, by kernel_rfl⟩, ⟨rfl, by kernel_rfl⟩, ⟨rfl, by kernel_rfl⟩, trivial⟩⟩
    refine CT.seq ?_
    refine CT.region [0, 1, 2, 3, 4, 5, 6] rfl rfl ?_
    refine OT.evs KnownOk.none noC_ok [0] [1, 2, 3, 4, 5, 6] (by kernel_rfl) ?_
    refine OT.callE [1] [.flat] (mergeS a0 a1 a2 a3 a4 a5 a6 a7 hok) (by kernel_rfl) (by kernel_rfl) (by kernel_rfl) rfl (by kernel_rfl) (by kernel_rfl) ⟨⟨flatO_of (by kernel_rfl), by kernel_rfl⟩, trivial⟩ rfl rfl ?_
    rintro _ _ ⟨rfl, rfl⟩
    refine ⟨[.keep], [.flat], rfl, rfl, rfl, ⟨by kernel_rfl, trivial⟩, ⟨flatO_of (by kernel_rfl), trivial⟩, rfl, ?_⟩
    refine OT.evs KnownOk.none noC_ok [2, 3, 4, 5, 6] [] (by kernel_rfl) ?_
    refine OT.nil ?_
    refine CT.neat (n := 1) (N := 85) (live := [(5, (.slice (some ⟨1, 0, none⟩) ([a0, a1, a2, a3, a4, a5, a6, a7].length) 36893488147419103232)), (6, (.slice (some ⟨2, 0, none⟩) ([a0, a1, a2, a3, a4, a5, a6, a7].length) 36893488147419103232)), (7, (.slice (some ⟨3, 0, none⟩) 3 3)), (8, (.slice (some ⟨4, 0, none⟩) 3 3)), (9, (.slice (some ⟨5, 0, none⟩) 2 2)), (14, (.slice (some ⟨6, 0, none⟩) 8 36893488147419103232))]) (hc := ⟨7, [(0, (.cells (Go.Proofs.Tryz.ints ys) (el) ((0, ys.length)))), (1, (.cells (Go.Abs.rowOf Go.Proofs.Tryz.encH [a0, a1, a2, a3, a4, a5, a6, a7]) (40) ((0, 0)))), (2, (.cells (Go.Abs.rowOf Go.Proofs.Tryz.encH [a0, a1, a2, a3, a4, a5, a6, a7]) (40) ((0, 0)))), (3, (.cells #[(.string (ByteArray.mk #[116, 99])), (.string (ByteArray.mk #[116, 97])), (.string (ByteArray.mk #[116, 98]))] (9) ((0, 0)))), (4, (.cells #[(.int .i64 1), (.int .i64 2), (.int .i64 3)] (3) ((0, 0)))), (5, (.cells #[(.int .i64 7), (.int .i64 9)] (3) ((0, 0)))), (6, (.cells (Go.Abs.rowOf Go.Proofs.Tryz.encH [a0, a1, a2, a3, a4, a5, a6, a7]) (40) ((0, 0))))]⟩) (by kernel_rfl) ?_ (fun tail => ?_)
    · exact ⟨[0, 1, 2, 3, 4, 5, 7], [.flat, .flat, .flat, .flat, .flat, .flat, .flat], rfl, rfl, ⟨⟨rfl, by kernel_rfl⟩, trivial⟩, by kernel_rfl, by kernel_rfl, ⟨⟨ints_flat _, by kernel_rfl⟩, ⟨flatO_of (by kernel_rfl), by kernel_rfl⟩, ⟨flatO_of (by kernel_rfl), by kernel_rfl⟩, ⟨flatO_of (by kernel_rfl), by kernel_rfl⟩, ⟨flatO_of (by kernel_rfl), by kernel_rfl⟩, ⟨flatO_of (by kernel_rfl), by kernel_rfl⟩, ⟨flatO_of (by kernel_rfl), by kernel_rfl⟩, trivial⟩, by kernel_rfl, by kernel_rfl, by kernel_rfl, ⟨⟨rfl, by kernel_rfl⟩, ⟨rfl, by kernel_rfl⟩, ⟨rfl, by kernel_rfl⟩, ⟨rfl, by kernel_rfl⟩, ⟨rfl, by kernel_rfl⟩, ⟨rfl, by kernel_rfl⟩, trivial⟩⟩
    refine CT.seq ?_
    refine CT.region [0, 1] rfl rfl ?_
    refine OT.evs KnownOk.none noC_ok [0] [1] (by kernel_rfl) ?_
    refine OT.callEv KnownOk.none mixed noC_ok 300 9 (by kernel_rfl) (by kernel_rfl) (by kernel_rfl) (by kernel_rfl) (by kernel_rfl) ?_
    refine OT.nil ?_
    refine CT.neat (n := 1) (N := 85) (live := [(5, (.slice (some ⟨1, 0, none⟩) ([a0, a1, a2, a3, a4, a5, a6, a7].length) 36893488147419103232)), (6, (.slice (some ⟨2, 0, none⟩) ([a0, a1, a2, a3, a4, a5, a6, a7].length) 36893488147419103232)), (7, (.slice (some ⟨3, 0, none⟩) 3 3)), (8, (.slice (some ⟨4, 0, none⟩) 3 3)), (9, (.slice (some ⟨5, 0, none⟩) 2 2))]) (hc := ⟨6, [(0, (.cells (Go.Proofs.Tryz.ints ys) (el) ((0, ys.length)))), (1, (.cells (Go.Abs.rowOf Go.Proofs.Tryz.encH [a0, a1, a2, a3, a4, a5, a6, a7]) (40) ((0, 0)))), (2, (.cells (Go.Abs.rowOf Go.Proofs.Tryz.encH [a0, a1, a2, a3, a4, a5, a6, a7]) (40) ((0, 0)))), (3, (.cells #[(.string (ByteArray.mk #[116, 99])), (.string (ByteArray.mk #[116, 97])), (.string (ByteArray.mk #[116, 98]))] (9) ((0, 0)))), (4, (.cells #[(.int .i64 1), (.int .i64 2), (.int .i64 3)] (3) ((0, 0)))), (5, (.cells #[(.int .i64 7), (.int .i64 9)] (3) ((0, 0))))]⟩) (by kernel_rfl) ?_ (fun tail => ?_)
    · exact ⟨[0, 1, 2, 3, 4, 5], [.flat, .flat, .flat, .flat, .flat, .flat], rfl, rfl, ⟨⟨rfl, by kernel_rfl⟩, trivial⟩, by kernel_rfl, by kernel_rfl, ⟨⟨ints_flat _, by kernel_rfl⟩, ⟨flatO_of (by kernel_rfl), by kernel_rfl⟩, ⟨flatO_of (by kernel_rfl), by kernel_rfl⟩, ⟨flatO_of (by kernel_rfl), by kernel_rfl⟩, ⟨flatO_of (by kernel_rfl), by kernel_rfl⟩, ⟨flatO_of (by kernel_rfl), by kernel_rfl⟩, trivial⟩, by kernel_rfl, by kernel_rfl, by kernel_rfl, ⟨⟨rfl, by kernel_rfl⟩, ⟨rfl, by kernel_rfl⟩, ⟨rfl, by kernel_rfl⟩, ⟨rfl, by kernel_rfl⟩, ⟨rfl, by kernel_rfl⟩, trivial⟩⟩
    refine CT.seq ?_
    refine CT.region [0, 1, 2, 3, 4, 5, 6, 7, 8, 9] rfl rfl ?_
    refine OT.evs KnownOk.none noC_ok [0, 1, 2, 3] [4, 5, 6, 7, 8, 9] (by kernel_rfl) ?_
    refine OT.callEv KnownOk.none mixed noC_ok 300 10 (by kernel_rfl) (by kernel_rfl) (by kernel_rfl) (by kernel_rfl) (by kernel_rfl) ?_
    refine OT.evs KnownOk.none noC_ok [5, 6, 7, 8, 9] [] (by kernel_rfl) ?_
    refine OT.nil ?_
    refine CT.neat (n := 1) (N := 85) (live := [(5, (.slice (some ⟨1, 0, none⟩) ([a0, a1, a2, a3, a4, a5, a6, a7].length) 36893488147419103232)), (6, (.slice (some ⟨2, 0, none⟩) ([a0, a1, a2, a3, a4, a5, a6, a7].length) 36893488147419103232)), (7, (.slice (some ⟨3, 0, none⟩) 3 3)), (8, (.slice (some ⟨4, 0, none⟩) 3 3)), (9, (.slice (some ⟨5, 0, none⟩) 2 2)), (16, (.slice (some ⟨6, 0, none⟩) 3 36893488147419103232))]) (hc := ⟨7, [(0, (.cells (Go.Proofs.Tryz.ints ys) (el) ((0, ys.length)))), (1, (.cells (Go.Abs.rowOf Go.Proofs.Tryz.encH [a0, a1, a2, a3, a4, a5, a6, a7]) (40) ((0, 0)))), (2, (.cells (Go.Abs.rowOf Go.Proofs.Tryz.encH [a0, a1, a2, a3, a4, a5, a6, a7]) (40) ((0, 0)))), (3, (.cells #[(.string (ByteArray.mk #[116, 99])), (.string (ByteArray.mk #[116, 97])), (.string (ByteArray.mk #[116, 98]))] (9) ((0, 0)))), (4, (.cells #[(.int .i64 1), (.int .i64 2), (.int .i64 3)] (3) ((0, 0)))), (5, (.cells #[(.int .i64 7), (.int .i64 9)] (3) ((0, 0)))), (6, (.cells #[(.string (ByteArray.mk #[116, 97])), (.string (ByteArray.mk #[116, 99])), (.string (ByteArray.mk #[116, 98]))] 9 ((0, 0))))]⟩) (by kernel_rfl) ?_ (fun tail => ?_)
    · exact ⟨[0, 1, 2, 3, 4, 5, 58], [.flat, .flat, .flat, .flat, .flat, .flat, .flat], rfl, rfl, ⟨⟨rfl, by kernel_rfl⟩, trivial⟩, by kernel_rfl, by kernel_rfl, ⟨⟨ints_flat _, by kernel_rfl⟩, ⟨flatO_of (by kernel_rfl), by kernel_rfl⟩, ⟨flatO_of (by kernel_rfl), by kernel_rfl⟩, ⟨flatO_of (by kernel_rfl), by kernel_rfl⟩, ⟨flatO_of (by kernel_rfl), by kernel_rfl⟩, ⟨flatO_of (by kernel_rfl), by kernel_rfl⟩, ⟨flatO_of (by kernel_rfl), by kernel_rfl⟩, trivial⟩, by kernel_rfl, by kernel_rfl, by kernel_rfl, ⟨⟨rfl, by kernel_rfl⟩, ⟨rfl, by kernel_rfl⟩, ⟨rfl, by kernel_rfl⟩, ⟨rfl, by kernel_rfl⟩, ⟨rfl, by kernel_rfl⟩, ⟨rfl, by kernel_rfl⟩, trivial⟩⟩
    refine CT.seq ?_
    refine CT.region [0, 1] rfl rfl ?_
    refine OT.evs KnownOk.none noC_ok [0] [1] (by kernel_rfl) ?_
    refine OT.callEv KnownOk.none mixed noC_ok 300 6 (by kernel_rfl) (by kernel_rfl) (by kernel_rfl) (by kernel_rfl) (by kernel_rfl) ?_
    refine OT.nil ?_
    refine CT.neat (n := 1) (N := 85) (live := [(5, (.slice (some ⟨1, 0, none⟩) ([a0, a1, a2, a3, a4, a5, a6, a7].length) 36893488147419103232)), (6, (.slice (some ⟨2, 0, none⟩) ([a0, a1, a2, a3, a4, a5, a6, a7].length) 36893488147419103232)), (7, (.slice (some ⟨3, 0, none⟩) 3 3)), (8, (.slice (some ⟨4, 0, none⟩) 3 3)), (9, (.slice (some ⟨5, 0, none⟩) 2 2))]) (hc := ⟨6, [(0, (.cells (Go.Proofs.Tryz.ints ys) (el) ((0, ys.length)))), (1, (.cells (Go.Abs.rowOf Go.Proofs.Tryz.encH [a0, a1, a2, a3, a4, a5, a6, a7]) (40) ((0, 0)))), (2, (.cells (Go.Abs.rowOf Go.Proofs.Tryz.encH [a0, a1, a2, a3, a4, a5, a6, a7]) (40) ((0, 0)))), (3, (.cells #[(.string (ByteArray.mk #[116, 99])), (.string (ByteArray.mk #[116, 97])), (.string (ByteArray.mk #[116, 98]))] (9) ((0, 0)))), (4, (.cells #[(.int .i64 1), (.int .i64 2), (.int .i64 3)] (3) ((0, 0)))), (5, (.cells #[(.int .i64 7), (.int .i64 9)] (3) ((0, 0))))]⟩) (by kernel_rfl) ?_ (fun tail => ?_)
    · exact ⟨[0, 1, 2, 3, 4, 5], [.flat, .flat, .flat, .flat, .flat, .flat], rfl, rfl, ⟨⟨rfl, by kernel_rfl⟩, trivial⟩, by kernel_rfl, by kernel_rfl, ⟨⟨ints_flat _, by kernel_rfl⟩, ⟨flatO_of (by kernel_rfl), by kernel_rfl⟩, ⟨flatO_of (by kernel_rfl), by kernel_rfl⟩, ⟨flatO_of (by kernel_rfl), by kernel_rfl⟩, ⟨flatO_of (by kernel_rfl), by kernel_rfl⟩, ⟨flatO_of (by kernel_rfl), by kernel_rfl⟩, trivial⟩, by kernel_rfl, by kernel_rfl, by kernel_rfl, ⟨⟨rfl, by kernel_rfl⟩, ⟨rfl, by kernel_rfl⟩, ⟨rfl, by kernel_rfl⟩, ⟨rfl, by kernel_rfl⟩, ⟨rfl, by kernel_rfl⟩, trivial⟩⟩
    refine CT.seq ?_
    refine CT.region [0, 1, 2, 3, 4, 5, 6, 7, 8, 9, 10, 11, 12, 13, 14, 15, 16, 17, 18, 19, 20, 21] rfl rfl ?_
    refine OT.evs KnownOk.none noC_ok [0, 1] [2, 3, 4, 5, 6, 7, 8, 9, 10, 11, 12, 13, 14, 15, 16, 17, 18, 19, 20, 21] (by kernel_rfl) ?_
    refine OT.callE [1, 2] [.flat, .flat] (equalS a0 a1 a2 a3 a4 a5 a6 a7) (by kernel_rfl) (by kernel_rfl) (by kernel_rfl) rfl (by kernel_rfl) (by kernel_rfl) ⟨⟨flatO_of (by kernel_rfl), by kernel_rfl⟩, ⟨flatO_of (by kernel_rfl), by kernel_rfl⟩, trivial⟩ rfl rfl ?_
    rintro _ _ ⟨rfl, rfl⟩
    refine ⟨[.keep, .keep], [], rfl, rfl, rfl, ⟨by kernel_rfl, by kernel_rfl, trivial⟩, trivial, rfl, ?_⟩
    refine OT.evs KnownOk.none noC_ok [3, 4, 5] [6, 7, 8, 9, 10, 11, 12, 13, 14, 15, 16, 17, 18, 19, 20, 21] (by kernel_rfl) ?_
    refine OT.callEv KnownOk.none mixed noC_ok 300 12 (by kernel_rfl) (by kernel_rfl) (by kernel_rfl) (by kernel_rfl) (by kernel_rfl) ?_
    refine OT.evs KnownOk.none noC_ok [7, 8, 9, 10] [11, 12, 13, 14, 15, 16, 17, 18, 19, 20, 21] (by kernel_rfl) ?_
    refine OT.callEv KnownOk.none mixed noC_ok 300 13 (by kernel_rfl) (by kernel_rfl) (by kernel_rfl) (by kernel_rfl) (by kernel_rfl) ?_
    refine OT.evs KnownOk.none noC_ok [12, 13, 14, 15] [16, 17, 18, 19, 20, 21] (by kernel_rfl) ?_
    refine OT.callEv KnownOk.none mixed noC_ok 300 13 (by kernel_rfl) (by kernel_rfl) (by kernel_rfl) (by kernel_rfl) (by kernel_rfl) ?_
    refine OT.evs KnownOk.none noC_ok [17, 18] [19, 20, 21] (by kernel_rfl) ?_
    refine OT.callE [] [] (readyS hΓ) (by kernel_rfl) (by kernel_rfl) (by kernel_rfl) rfl (by kernel_rfl) (by kernel_rfl) trivial rfl rfl ?_
    rintro _ _ ⟨rfl, rfl⟩
    refine ⟨[], [], rfl, rfl, rfl, trivial, trivial, rfl, ?_⟩
    refine OT.evs KnownOk.none noC_ok [20, 21] [] (by kernel_rfl) ?_
    refine OT.nil ?_
    refine CT.ret (retQ (by kernel_rfl) ?_)
    kernel_rfl
  · refine CT.seq ?_
    refine CT.ev KnownOk.none mixed noC_ok 1000 (by kernel_rfl) ?_
    refine CT.seq ?_
    refine CT.ev KnownOk.none mixed noC_ok 1000 (by kernel_rfl) ?_
    refine CT.seq ?_
    refine CT.region [0, 1, 2, 3, 4, 5] rfl rfl ?_
    refine OT.evs KnownOk.none noC_ok [0] [1, 2, 3, 4, 5] (by kernel_rfl) ?_
    refine OT.callE [0, 1] [.flat, .flat] (hd) (by kernel_rfl) (by kernel_rfl) (by kernel_rfl) rfl (by kernel_rfl) (by kernel_rfl) ⟨⟨flatO_of (by kernel_rfl), by kernel_rfl⟩, ⟨flatO_of (by kernel_rfl), by kernel_rfl⟩, trivial⟩ rfl rfl ?_
    rintro _ _ ⟨rfl, rfl⟩
    refine ⟨[.keep, .flat], [.flat], rfl, rfl, rfl, ⟨by kernel_rfl, flatO_of (by kernel_rfl), trivial⟩, ⟨flatO_of (by kernel_rfl), trivial⟩, rfl, ?_⟩
    refine OT.evs KnownOk.none noC_ok [2] [3, 4, 5] (by kernel_rfl) ?_
    refine OT.callE [0, 2] [.flat, .flat] (hd) (by kernel_rfl) (by kernel_rfl) (by kernel_rfl) rfl (by kernel_rfl) (by kernel_rfl) ⟨⟨flatO_of (by kernel_rfl), by kernel_rfl⟩, ⟨flatO_of (by kernel_rfl), by kernel_rfl⟩, trivial⟩ rfl rfl ?_
    rintro _ _ ⟨rfl, rfl⟩
    refine ⟨[.keep, .flat], [.flat], rfl, rfl, rfl, ⟨by kernel_rfl, flatO_of (by kernel_rfl), trivial⟩, ⟨flatO_of (by kernel_rfl), trivial⟩, rfl, ?_⟩
    refine OT.evs KnownOk.none noC_ok [4, 5] [] (by kernel_rfl) ?_
    refine OT.nil ?_
    refine CT.neat (n := 1) (N := 85) (live := [(5, (.slice (some ⟨1, 0, none⟩) ([a0, a1, a2, a3, a4, a5, a6, a7].length) 36893488147419103232)), (6, (.slice (some ⟨2, 0, none⟩) ([a0, a1, a2, a3, a4, a5, a6, a7].length) 36893488147419103232))]) (hc := ⟨3, [(0, Abs.tomb), (1, (.cells (Go.Abs.rowOf Go.Proofs.Tryz.encH [a0, a1, a2, a3, a4, a5, a6, a7]) (40) ((0, 0)))), (2, (.cells (Go.Abs.rowOf Go.Proofs.Tryz.encH [a0, a1, a2, a3, a4, a5, a6, a7]) (40) ((0, 0))))]⟩) (by kernel_rfl) ?_ (fun tail => ?_)
    · exact ⟨[0, 3, 4], [.flat, .flat, .flat], rfl, rfl, ⟨⟨rfl, by kernel_rfl⟩, trivial⟩, by kernel_rfl, by kernel_rfl, ⟨⟨flatO_of (by kernel_rfl), by kernel_rfl⟩, ⟨flatO_of (by kernel_rfl), by kernel_rfl⟩, ⟨flatO_of (by kernel_rfl), by kernel_rfl⟩, trivial⟩, by kernel_rfl, by kernel_rfl, by kernel_rfl, ⟨⟨rfl, by kernel_rfl⟩, ⟨rfl, by kernel_rfl⟩, trivial⟩⟩
    refine CT.seq ?_
    refine CT.ev KnownOk.none mixed noC_ok 1000 (by kernel_rfl) ?_
    refine CT.seq ?_
    refine CT.region [0, 1, 2, 3, 4, 5, 6, 7, 8] rfl rfl ?_
    refine OT.evs KnownOk.none noC_ok [0, 1, 2] [3, 4, 5, 6, 7, 8] (by kernel_rfl) ?_
    refine OT.callEv KnownOk.none mixed noC_ok 300 5 (by kernel_rfl) (by kernel_rfl) (by kernel_rfl) (by kernel_rfl) (by kernel_rfl) ?_
    refine OT.evs KnownOk.none noC_ok [4, 5, 6, 7, 8] [] (by kernel_rfl) ?_
    refine OT.nil ?_
    refine CT.neat (n := 1) (N := 85) (live := [(5, (.slice (some ⟨1, 0, none⟩) ([a0, a1, a2, a3, a4, a5, a6, a7].length) 36893488147419103232)), (6, (.slice (some ⟨2, 0, none⟩) ([a0, a1, a2, a3, a4, a5, a6, a7].length) 36893488147419103232)), (7, (.slice (some ⟨3, 0, none⟩) 3 3)), (8, (.slice (some ⟨4, 0, none⟩) 3 3)), (9, (.slice (some ⟨5, 0, none⟩) 2 2)), (10, (.slice (some ⟨6, 0, none⟩) 3 36893488147419103232))]) (hc := ⟨7, [(0, Abs.tomb), (1, (.cells (Go.Abs.rowOf Go.Proofs.Tryz.encH [a0, a1, a2, a3, a4, a5, a6, a7]) (40) ((0, 0)))), (2, (.cells (Go.Abs.rowOf Go.Proofs.Tryz.encH [a0, a1, a2, a3, a4, a5, a6, a7]) (40) ((0, 0)))), (3, (.cells #[(.string (ByteArray.mk #[116, 99])), (.string (ByteArray.mk #[116, 97])), (.string (ByteArray.mk #[116, 98]))] 9 ((0, 0)))), (4, (.cells #[(.int .i64 1), (.int .i64 2), (.int .i64 3)] 3 ((0, 0)))), (5, (.cells #[(.int .i64 7), (.int .i64 9)] 3 ((0, 0)))), (6, (.cells #[(.string (ByteArray.mk #[116, 97])), (.string (ByteArray.mk #[116, 98])), (.string (ByteArray.mk #[116, 99]))] 9 ((0, 0))))]⟩) (by kernel_rfl) ?_ (fun tail => ?_)
    · exact ⟨[0, 1, 2, 4, 5, 6, 13], [.flat, .flat, .flat, .flat, .flat, .flat, .flat], rfl, rfl, ⟨⟨rfl, by kernel_rfl⟩, trivial⟩, by kernel_rfl, by kernel_rfl, ⟨⟨flatO_of (by kernel_rfl), by kernel_rfl⟩, ⟨flatO_of (by kernel_rfl), by kernel_rfl⟩, ⟨flatO_of (by kernel_rfl), by kernel_rfl⟩, ⟨flatO_of (by kernel_rfl), by kernel_rfl⟩, ⟨flatO_of (by kernel_rfl), by kernel_rfl⟩, ⟨flatO_of (by kernel_rfl), by kernel_rfl⟩, ⟨flatO_of (by kernel_rfl), by kernel_rfl⟩, trivial⟩, by kernel_rfl, by kernel_rfl, by kernel_rfl, ⟨⟨rfl, by kernel_rfl⟩, ⟨rfl, by kernel_rfl⟩, ⟨rfl, by kernel_rfl⟩, ⟨rfl, by kernel_rfl⟩, ⟨rfl, by kernel_rfl⟩, ⟨rfl, by kernel_rfl⟩, trivial⟩⟩
    refine CT.seq ?_
    refine CT.region [0, 1] rfl rfl ?_
    refine OT.evs KnownOk.none noC_ok [0] [1] (by kernel_rfl) ?_
    refine OT.callEv KnownOk.none mixed noC_ok 300 6 (by kernel_rfl) (by kernel_rfl) (by kernel_rfl) (by kernel_rfl) (by kernel_rfl) ?_
    refine OT.nil ?_
    refine CT.neat (n := 1) (N := 85) (live := [(5, (.slice (some ⟨1, 0, none⟩) ([a0, a1, a2, a3, a4, a5, a6, a7].length) 36893488147419103232)), (6, (.slice (some ⟨2, 0, none⟩) ([a0, a1, a2, a3, a4, a5, a6, a7].length) 36893488147419103232)), (7, (.slice (some ⟨3, 0, none⟩) 3 3)), (8, (.slice (some ⟨4, 0, none⟩) 3 3)), (9, (.slice (some ⟨5, 0, none⟩) 2 2))]) (hc := ⟨6, [(0, Abs.tomb), (1, (.cells (Go.Abs.rowOf Go.Proofs.Tryz.encH [a0, a1, a2, a3, a4, a5, a6, a7]) (40) ((0, 0)))), (2, (.cells (Go.Abs.rowOf Go.Proofs.Tryz.encH [a0, a1, a2, a3, a4, a5, a6, a7]) (40) ((0, 0)))), (3, (.cells #[(.string (ByteArray.mk #[116, 99])), (.string (ByteArray.mk #[116, 97])), (.string (ByteArray.mk #[116, 98]))] (9) ((0, 0)))), (4, (.cells #[(.int .i64 1), (.int .i64 2), (.int .i64 3)] (3) ((0, 0)))), (5, (.cells #[(.int .i64 7), (.int .i64 9)] (3) ((0, 0))))]⟩) (by kernel_rfl) ?_ (fun tail => ?_)
    · exact ⟨[0, 1, 2, 3, 4, 5], [.flat, .flat, .flat, .flat, .flat, .flat], rfl, rfl, ⟨⟨rfl, by kernel_rfl⟩, trivial⟩, by kernel_rfl, by kernel_rfl, ⟨⟨flatO_of (by kernel_rfl), by kernel_rfl⟩, ⟨flatO_of (by kernel_rfl), by kernel_rfl⟩, ⟨flatO_of (by kernel_rfl), by kernel_rfl⟩, ⟨flatO_of (by kernel_rfl), by kernel_rfl⟩, ⟨flatO_of (by kernel_rfl), by kernel_rfl⟩, ⟨flatO_of (by kernel_rfl), by kernel_rfl⟩, trivial⟩, by kernel_rfl, by kernel_rfl, by kernel_rfl, ⟨⟨rfl, by kernel_rfl⟩, ⟨rfl, by kernel_rfl⟩, ⟨rfl, by kernel_rfl⟩, ⟨rfl, by kernel_rfl⟩, ⟨rfl, by kernel_rfl⟩, trivial⟩⟩
    refine CT.seq ?_
    refine CT.region [0, 1, 2, 3, 4, 5, 6] rfl rfl ?_
    refine OT.evs KnownOk.none noC_ok [0] [1, 2, 3, 4, 5, 6] (by kernel_rfl) ?_
    refine OT.callEv KnownOk.none mixed noC_ok 300 7 (by kernel_rfl) (by kernel_rfl) (by kernel_rfl) (by kernel_rfl) (by kernel_rfl) ?_
    refine OT.evs KnownOk.none noC_ok [2, 3, 4, 5, 6] [] (by kernel_rfl) ?_
    refine OT.nil ?_
    refine CT.neat (n := 1) (N := 85) (live := [(5, (.slice (some ⟨1, 0, none⟩) ([a0, a1, a2, a3, a4, a5, a6, a7].length) 36893488147419103232)), (6, (.slice (some ⟨2, 0, none⟩) ([a0, a1, a2, a3, a4, a5, a6, a7].length) 36893488147419103232)), (7, (.slice (some ⟨3, 0, none⟩) 3 3)), (8, (.slice (some ⟨4, 0, none⟩) 3 3)), (9, (.slice (some ⟨5, 0, none⟩) 2 2)), (12, (.slice (some ⟨6, 0, none⟩) 9 36893488147419103232))]) (hc := ⟨7, [(0, Abs.tomb), (1, (.cells (Go.Abs.rowOf Go.Proofs.Tryz.encH [a0, a1, a2, a3, a4, a5, a6, a7]) (40) ((0, 0)))), (2, (.cells (Go.Abs.rowOf Go.Proofs.Tryz.encH [a0, a1, a2, a3, a4, a5, a6, a7]) (40) ((0, 0)))), (3, (.cells #[(.string (ByteArray.mk #[116, 99])), (.string (ByteArray.mk #[116, 97])), (.string (ByteArray.mk #[116, 98]))] (9) ((0, 0)))), (4, (.cells #[(.int .i64 1), (.int .i64 2), (.int .i64 3)] (3) ((0, 0)))), (5, (.cells #[(.int .i64 7), (.int .i64 9)] (3) ((0, 0)))), (6, (.cells #[(.string (ByteArray.mk #[116, 99])), (.string (ByteArray.mk #[116, 97])), (.string (ByteArray.mk #[116, 98])), (.string (ByteArray.mk #[116, 98])), (.string (ByteArray.mk #[116, 97])), (.string (ByteArray.mk #[116, 99])), (.string (ByteArray.mk #[116, 99])), (.string (ByteArray.mk #[116, 97])), (.string (ByteArray.mk #[116, 98]))] 9 ((0, 0))))]⟩) (by kernel_rfl) ?_ (fun tail => ?_)
    · exact ⟨[0, 1, 2, 3, 4, 5, 15], [.flat, .flat, .flat, .flat, .flat, .flat, .flat], rfl, rfl, ⟨⟨rfl, by kernel_rfl⟩, trivial⟩, by kernel_rfl, by kernel_rfl, ⟨⟨flatO_of (by kernel_rfl), by kernel_rfl⟩, ⟨flatO_of (by kernel_rfl), by kernel_rfl⟩, ⟨flatO_of (by kernel_rfl), by kernel_rfl⟩, ⟨flatO_of (by kernel_rfl), by kernel_rfl⟩, ⟨flatO_of (by kernel_rfl), by kernel_rfl⟩, ⟨flatO_of (by kernel_rfl), by kernel_rfl⟩, ⟨flatO_of (by kernel_rfl), by kernel_rfl⟩, trivial⟩, by kernel_rfl, by kernel_rfl, by kernel_rfl, ⟨⟨rfl, by kernel_rfl⟩, ⟨rfl, by kernel_rfl⟩, ⟨rfl, by kernel_rfl⟩, ⟨rfl, by kernel_rfl⟩, ⟨rfl, by kernel_rfl⟩, ⟨rfl, by kernel_rfl⟩, trivial⟩⟩
    refine CT.seq ?_
    refine CT.region [0, 1] rfl rfl ?_
    refine OT.evs KnownOk.none noC_ok [0] [1] (by kernel_rfl) ?_
    refine OT.callEv KnownOk.none mixed noC_ok 300 6 (by kernel_rfl) (by kernel_rfl) (by kernel_rfl) (by kernel_rfl) (by kernel_rfl) ?_
    refine OT.nil ?_
    refine CT.neat (n := 1) (N := 85) (live := [(5, (.slice (some ⟨1, 0, none⟩) ([a0, a1, a2, a3, a4, a5, a6, a7].length) 36893488147419103232)), (6, (.slice (some ⟨2, 0, none⟩) ([a0, a1, a2, a3, a4, a5, a6, a7].length) 36893488147419103232)), (7, (.slice (some ⟨3, 0, none⟩) 3 3)), (8, (.slice (some ⟨4, 0, none⟩) 3 3)), (9, (.slice (some ⟨5, 0, none⟩) 2 2))]) (hc := ⟨6, [(0, Abs.tomb), (1, (.cells (Go.Abs.rowOf Go.Proofs.Tryz.encH [a0, a1, a2, a3, a4, a5, a6, a7]) (40) ((0, 0)))), (2, (.cells (Go.Abs.rowOf Go.Proofs.Tryz.encH [a0, a1, a2, a3, a4, a5, a6, a7]) (40) ((0, 0)))), (3, (.cells #[(.string (ByteArray.mk #[116, 99])), (.string (ByteArray.mk #[116, 97])), (.string (ByteArray.mk #[116, 98]))] (9) ((0, 0)))), (4, (.cells #[(.int .i64 1), (.int .i64 2), (.int .i64 3)] (3) ((0, 0)))), (5, (.cells #[(.int .i64 7), (.int .i64 9)] (3) ((0, 0))))]⟩) (by kernel_rfl) ?_ (fun tail => ?_)
    · exact ⟨[0, 1, 2, 3, 4, 5], [.flat, .flat, .flat, .flat, .flat, .flat], rfl, rfl, ⟨⟨rfl, by kernel_rfl⟩, trivial⟩, by kernel_rfl, by kernel_rfl, ⟨⟨flatO_of (by kernel_rfl), by kernel_rfl⟩, ⟨flatO_of (by kernel_rfl), by kernel_rfl⟩, ⟨flatO_of (by kernel_rfl), by kernel_rfl⟩, ⟨flatO_of (by kernel_rfl), by kernel_rfl⟩, ⟨flatO_of (by kernel_rfl), by kernel_rfl⟩, ⟨flatO_of (by kernel_rfl), by kernel_rfl⟩, trivial⟩, by kernel_rfl, by kernel_rfl, by kernel_rfl, ⟨⟨rfl, by kernel_rfl⟩, ⟨rfl, by kernel_rfl⟩, ⟨rfl, by kernel_rfl⟩, ⟨rfl, by kernel_rfl⟩, ⟨rfl, by kernel_rfl⟩, trivial⟩⟩
    refine CT.seq ?_
    refine CT.region [0, 1, 2, 3, 4, 5, 6] rfl rfl ?_
    refine OT.evs KnownOk.none noC_ok [0] [1, 2, 3, 4, 5, 6] (by kernel_rfl) ?_
    refine OT.callE [1] [.flat] (mergeS a0 a1 a2 a3 a4 a5 a6 a7 hok) (by kernel_rfl) (by kernel_rfl) (by kernel_rfl) rfl (by kernel_rfl) (by kernel_rfl) ⟨⟨flatO_of (by kernel_rfl), by kernel_rfl⟩, trivial⟩ rfl rfl ?_
    rintro _ _ ⟨rfl, rfl⟩
    refine ⟨[.keep], [.flat], rfl, rfl, rfl, ⟨by kernel_rfl, trivial⟩, ⟨flatO_of (by kernel_rfl), trivial⟩, rfl, ?_⟩
    refine OT.evs KnownOk.none noC_ok [2, 3, 4, 5, 6] [] (by kernel_rfl) ?_
    refine OT.nil ?_
    refine CT.neat (n := 1) (N := 85) (live := [(5, (.slice (some ⟨1, 0, none⟩) ([a0, a1, a2, a3, a4, a5, a6, a7].length) 36893488147419103232)), (6, (.slice (some ⟨2, 0, none⟩) ([a0, a1, a2, a3, a4, a5, a6, a7].length) 36893488147419103232)), (7, (.slice (some ⟨3, 0, none⟩) 3 3)), (8, (.slice (some ⟨4, 0, none⟩) 3 3)), (9, (.slice (some ⟨5, 0, none⟩) 2 2)), (14, (.slice (some ⟨6, 0, none⟩) 8 36893488147419103232))]) (hc := ⟨7, [(0, Abs.tomb), (1, (.cells (Go.Abs.rowOf Go.Proofs.Tryz.encH [a0, a1, a2, a3, a4, a5, a6, a7]) (40) ((0, 0)))), (2, (.cells (Go.Abs.rowOf Go.Proofs.Tryz.encH [a0, a1, a2, a3, a4, a5, a6, a7]) (40) ((0, 0)))), (3, (.cells #[(.string (ByteArray.mk #[116, 99])), (.string (ByteArray.mk #[116, 97])), (.string (ByteArray.mk #[116, 98]))] (9) ((0, 0)))), (4, (.cells #[(.int .i64 1), (.int .i64 2), (.int .i64 3)] (3) ((0, 0)))), (5, (.cells #[(.int .i64 7), (.int .i64 9)] (3) ((0, 0)))), (6, (.cells (Go.Abs.rowOf Go.Proofs.Tryz.encH [a0, a1, a2, a3, a4, a5, a6, a7]) (40) ((0, 0))))]⟩) (by kernel_rfl) ?_ (fun tail => ?_)
    · exact ⟨[0, 1, 2, 3, 4, 5, 7], [.flat, .flat, .flat, .flat, .flat, .flat, .flat], rfl, rfl, ⟨⟨rfl, by kernel_rfl⟩, trivial⟩, by kernel_rfl, by kernel_rfl, ⟨⟨flatO_of (by kernel_rfl), by kernel_rfl⟩, ⟨flatO_of (by kernel_rfl), by kernel_rfl⟩, ⟨flatO_of (by kernel_rfl), by kernel_rfl⟩, ⟨flatO_of (by kernel_rfl), by kernel_rfl⟩, ⟨flatO_of (by kernel_rfl), by kernel_rfl⟩, ⟨flatO_of (by kernel_rfl), by kernel_rfl⟩, ⟨flatO_of (by kernel_rfl), by kernel_rfl⟩, trivial⟩, by kernel_rfl, by kernel_rfl, by kernel_rfl, ⟨⟨rfl, by kernel_rfl⟩, ⟨rfl, by kernel_rfl⟩, ⟨rfl, by kernel_rfl⟩, ⟨rfl, by kernel_rfl⟩, ⟨rfl, by kernel_rfl⟩, ⟨rfl, by kernel_rfl⟩, trivial⟩⟩
    refine CT.seq ?_
    refine CT.region [0, 1] rfl rfl ?_
    refine OT.evs KnownOk.none noC_ok [0] [1] (by kernel_rfl) ?_
    refine OT.callEv KnownOk.none mixed noC_ok 300 9 (by kernel_rfl) (by kernel_rfl) (by kernel_rfl) (by kernel_rfl) (by kernel_rfl) ?_
    refine OT.nil ?_
    refine CT.neat (n := 1) (N := 85) (live := [(5, (.slice (some ⟨1, 0, none⟩) ([a0, a1, a2, a3, a4, a5, a6, a7].length) 36893488147419103232)), (6, (.slice (some ⟨2, 0, none⟩) ([a0, a1, a2, a3, a4, a5, a6, a7].length) 36893488147419103232)), (7, (.slice (some ⟨3, 0, none⟩) 3 3)), (8, (.slice (some ⟨4, 0, none⟩) 3 3)), (9, (.slice (some ⟨5, 0, none⟩) 2 2))]) (hc := ⟨6, [(0, Abs.tomb), (1, (.cells (Go.Abs.rowOf Go.Proofs.Tryz.encH [a0, a1, a2, a3, a4, a5, a6, a7]) (40) ((0, 0)))), (2, (.cells (Go.Abs.rowOf Go.Proofs.Tryz.encH [a0, a1, a2, a3, a4, a5, a6, a7]) (40) ((0, 0)))), (3, (.cells #[(.string (ByteArray.mk #[116, 99])), (.string (ByteArray.mk #[116, 97])), (.string (ByteArray.mk #[116, 98]))] (9) ((0, 0)))), (4, (.cells #[(.int .i64 1), (.int .i64 2), (.int .i64 3)] (3) ((0, 0)))), (5, (.cells #[(.int .i64 7), (.int .i64 9)] (3) ((0, 0))))]⟩) (by kernel_rfl) ?_ (fun tail => ?_)
    · exact ⟨[0, 1, 2, 3, 4, 5], [.flat, .flat, .flat, .flat, .flat, .flat], rfl, rfl, ⟨⟨rfl, by kernel_rfl⟩, trivial⟩, by kernel_rfl, by kernel_rfl, ⟨⟨flatO_of (by kernel_rfl), by kernel_rfl⟩, ⟨flatO_of (by kernel_rfl), by kernel_rfl⟩, ⟨flatO_of (by kernel_rfl), by kernel_rfl⟩, ⟨flatO_of (by kernel_rfl), by kernel_rfl⟩, ⟨flatO_of (by kernel_rfl), by kernel_rfl⟩, ⟨flatO_of (by kernel_rfl), by kernel_rfl⟩, trivial⟩, by kernel_rfl, by kernel_rfl, by kernel_rfl, ⟨⟨rfl, by kernel_rfl⟩, ⟨rfl, by kernel_rfl⟩, ⟨rfl, by kernel_rfl⟩, ⟨rfl, by kernel_rfl⟩, ⟨rfl, by kernel_rfl⟩, trivial⟩⟩
    refine CT.seq ?_
    refine CT.region [0, 1, 2, 3, 4, 5, 6, 7, 8, 9] rfl rfl ?_
    refine OT.evs KnownOk.none noC_ok [0, 1, 2, 3] [4, 5, 6, 7, 8, 9] (by kernel_rfl) ?_
    refine OT.callEv KnownOk.none mixed noC_ok 300 10 (by kernel_rfl) (by kernel_rfl) (by kernel_rfl) (by kernel_rfl) (by kernel_rfl) ?_
    refine OT.evs KnownOk.none noC_ok [5, 6, 7, 8, 9] [] (by kernel_rfl) ?_
    refine OT.nil ?_
    refine CT.neat (n := 1) (N := 85) (live := [(5, (.slice (some ⟨1, 0, none⟩) ([a0, a1, a2, a3, a4, a5, a6, a7].length) 36893488147419103232)), (6, (.slice (some ⟨2, 0, none⟩) ([a0, a1, a2, a3, a4, a5, a6, a7].length) 36893488147419103232)), (7, (.slice (some ⟨3, 0, none⟩) 3 3)), (8, (.slice (some ⟨4, 0, none⟩) 3 3)), (9, (.slice (some ⟨5, 0, none⟩) 2 2)), (16, (.slice (some ⟨6, 0, none⟩) 3 36893488147419103232))]) (hc := ⟨7, [(0, Abs.tomb), (1, (.cells (Go.Abs.rowOf Go.Proofs.Tryz.encH [a0, a1, a2, a3, a4, a5, a6, a7]) (40) ((0, 0)))), (2, (.cells (Go.Abs.rowOf Go.Proofs.Tryz.encH [a0, a1, a2, a3, a4, a5, a6, a7]) (40) ((0, 0)))), (3, (.cells #[(.string (ByteArray.mk #[116, 99])), (.string (ByteArray.mk #[116, 97])), (.string (ByteArray.mk #[116, 98]))] (9) ((0, 0)))), (4, (.cells #[(.int .i64 1), (.int .i64 2), (.int .i64 3)] (3) ((0, 0)))), (5, (.cells #[(.int .i64 7), (.int .i64 9)] (3) ((0, 0)))), (6, (.cells #[(.string (ByteArray.mk #[116, 97])), (.string (ByteArray.mk #[116, 99])), (.string (ByteArray.mk #[116, 98]))] 9 ((0, 0))))]⟩) (by kernel_rfl) ?_ (fun tail => ?_)
    · exact ⟨[0, 1, 2, 3, 4, 5, 58], [.flat, .flat, .flat, .flat, .flat, .flat, .flat], rfl, rfl, ⟨⟨rfl, by kernel_rfl⟩, trivial⟩, by kernel_rfl, by kernel_rfl, ⟨⟨flatO_of (by kernel_rfl), by kernel_rfl⟩, ⟨flatO_of (by kernel_rfl), by kernel_rfl⟩, ⟨flatO_of (by kernel_rfl), by kernel_rfl⟩, ⟨flatO_of (by kernel_rfl), by kernel_rfl⟩, ⟨flatO_of (by kernel_rfl), by kernel_rfl⟩, ⟨flatO_of (by kernel_rfl), by kernel_rfl⟩, ⟨flatO_of (by kernel_rfl), by kernel_rfl⟩, trivial⟩, by kernel_rfl, by kernel_rfl, by kernel_rfl, ⟨⟨rfl, by kernel_rfl⟩, ⟨rfl, by kernel_rfl⟩, ⟨rfl, by kernel_rfl⟩, ⟨rfl, by kernel_rfl⟩, ⟨rfl, by kernel_rfl⟩, ⟨rfl, by kernel_rfl⟩, trivial⟩⟩
    refine CT.seq ?_
    refine CT.region [0, 1] rfl rfl ?_
    refine OT.evs KnownOk.none noC_ok [0] [1] (by kernel_rfl) ?_
    refine OT.callEv KnownOk.none mixed noC_ok 300 6 (by kernel_rfl) (by kernel_rfl) (by kernel_rfl) (by kernel_rfl) (by kernel_rfl) ?_
    refine OT.nil ?_
    refine CT.neat (n := 1) (N := 85) (live := [(5, (.slice (some ⟨1, 0, none⟩) ([a0, a1, a2, a3, a4, a5, a6, a7].length) 36893488147419103232)), (6, (.slice (some ⟨2, 0, none⟩) ([a0, a1, a2, a3, a4, a5, a6, a7].length) 36893488147419103232)), (7, (.slice (some ⟨3, 0, none⟩) 3 3)), (8, (.slice (some ⟨4, 0, none⟩) 3 3)), (9, (.slice (some ⟨5, 0, none⟩) 2 2))]) (hc := ⟨6, [(0, Abs.tomb), (1, (.cells (Go.Abs.rowOf Go.Proofs.Tryz.encH [a0, a1, a2, a3, a4, a5, a6, a7]) (40) ((0, 0)))), (2, (.cells (Go.Abs.rowOf Go.Proofs.Tryz.encH [a0, a1, a2, a3, a4, a5, a6, a7]) (40) ((0, 0)))), (3, (.cells #[(.string (ByteArray.mk #[116, 99])), (.string (ByteArray.mk #[116, 97])), (.string (ByteArray.mk #[116, 98]))] (9) ((0, 0)))), (4, (.cells #[(.int .i64 1), (.int .i64 2), (.int .i64 3)] (3) ((0, 0)))), (5, (.cells #[(.int .i64 7), (.int .i64 9)] (3) ((0, 0))))]⟩) (by kernel_rfl) ?_ (fun tail => ?_)
    · exact ⟨[0, 1, 2, 3, 4, 5], [.flat, .flat, .flat, .flat, .flat, .flat], rfl, rfl, ⟨⟨rfl, by kernel_rfl⟩, trivial⟩, by kernel_rfl, by kernel_rfl, ⟨⟨flatO_of (by kernel_rfl), by kernel_rfl⟩, ⟨flatO_of (by kernel_rfl), by kernel_rfl⟩, ⟨flatO_of (by kernel_rfl), by kernel_rfl⟩, ⟨flatO_of (by kernel_rfl), by kernel_rfl⟩, ⟨flatO_of (by kernel_rfl), by kernel_rfl⟩, ⟨flatO_of (by kernel_rfl), by kernel_rfl⟩, trivial⟩, by kernel_rfl, by kernel_rfl, by kernel_rfl, ⟨⟨rfl, by kernel_rfl⟩, ⟨rfl, by kernel_rfl⟩, ⟨rfl, by kernel_rfl⟩, ⟨rfl, by kernel_rfl⟩, ⟨rfl, by kernel_rfl⟩, trivial⟩⟩
    refine CT.seq ?_
    refine CT.region [0, 1, 2, 3, 4, 5, 6, 7, 8, 9, 10, 11, 12, 13, 14, 15, 16, 17, 18, 19, 20, 21] rfl rfl ?_
    refine OT.evs KnownOk.none noC_ok [0, 1] [2, 3, 4, 5, 6, 7, 8, 9, 10, 11, 12, 13, 14, 15, 16, 17, 18, 19, 20, 21] (by kernel_rfl) ?_
    refine OT.callE [1, 2] [.flat, .flat] (equalS a0 a1 a2 a3 a4 a5 a6 a7) (by kernel_rfl) (by kernel_rfl) (by kernel_rfl) rfl (by kernel_rfl) (by kernel_rfl) ⟨⟨flatO_of (by kernel_rfl), by kernel_rfl⟩, ⟨flatO_of (by kernel_rfl), by kernel_rfl⟩, trivial⟩ rfl rfl ?_
    rintro _ _ ⟨rfl, rfl⟩
    refine ⟨[.keep, .keep], [], rfl, rfl, rfl, ⟨by kernel_rfl, by kernel_rfl, trivial⟩, trivial, rfl, ?_⟩
    refine OT.evs KnownOk.none noC_ok [3, 4, 5] [6, 7, 8, 9, 10, 11, 12, 13, 14, 15, 16, 17, 18, 19, 20, 21] (by kernel_rfl) ?_
    refine OT.callEv KnownOk.none mixed noC_ok 300 12 (by kernel_rfl) (by kernel_rfl) (by kernel_rfl) (by kernel_rfl) (by kernel_rfl) ?_
    refine OT.evs KnownOk.none noC_ok [7, 8, 9, 10] [11, 12, 13, 14, 15, 16, 17, 18, 19, 20, 21] (by kernel_rfl) ?_
    refine OT.callEv KnownOk.none mixed noC_ok 300 13 (by kernel_rfl) (by kernel_rfl) (by kernel_rfl) (by kernel_rfl) (by kernel_rfl) ?_
    refine OT.evs KnownOk.none noC_ok [12, 13, 14, 15] [16, 17, 18, 19, 20, 21] (by kernel_rfl) ?_
    refine OT.callEv KnownOk.none mixed noC_ok 300 13 (by kernel_rfl) (by kernel_rfl) (by kernel_rfl) (by kernel_rfl) (by kernel_rfl) ?_
    refine OT.evs KnownOk.none noC_ok [17, 18] [19, 20, 21] (by kernel_rfl) ?_
    refine OT.callE [] [] (readyS hΓ) (by kernel_rfl) (by kernel_rfl) (by kernel_rfl) rfl (by kernel_rfl) (by kernel_rfl) trivial rfl rfl ?_
    rintro _ _ ⟨rfl, rfl⟩
    refine ⟨[], [], rfl, rfl, rfl, trivial, trivial, rfl, ?_⟩
    refine OT.evs KnownOk.none noC_ok [20, 21] [] (by kernel_rfl) ?_
    refine OT.nil ?_
    refine CT.ret (retQ (by kernel_rfl) ?_)
    kernel_rfl
end Go.Proofs.Tryz
