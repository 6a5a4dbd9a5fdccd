import Derived.Test.YtamnlkconfannaaGreatDoorBwB10
import Derived.Test.YtamnlkconfannaaGreatDoorBwB8
import Derived.Test.YtamnlkconfannaaGreatDoorBwB9

namespace Go.Proofs.Tryz
open Go Go.Abs
set_option maxHeartbeats 0
theorem ba_self (x : ByteArray) : (x == x) = true := by
  cases x with | mk d =>
  show (d == d) = true
  simp

theorem eq_self {x : Hon} (h : eqRes true (x.s == x.s && (x.p == x.p && (x.t == x.t && (x.f.fst == x.f.fst && (x.f.snd == x.f.snd && true) && true)))) = true) : False := by
  simp [eqRes, ba_self] at h

theorem equalS {Γ : Gl} (a0 a1 a2 a3 a4 a5 a6 a7 : Hon) : FT prog Γ 11 #[.slice (some ⟨0, 0, none⟩) 8 OPEN, .slice (some ⟨1, 0, none⟩) 8 OPEN] ⟨2, [(1, .cells (rowOf encH [a0, a1, a2, a3, a4, a5, a6, a7]) 40), (0, .cells (rowOf encH [a0, a1, a2, a3, a4, a5, a6, a7]) 40)]⟩ fun v h => v = .bool true ∧ h = ⟨2, [(1, .cells (rowOf encH [a0, a1, a2, a3, a4, a5, a6, a7]) 40), (0, .cells (rowOf encH [a0, a1, a2, a3, a4, a5, a6, a7]) 40)]⟩ := by
  refine FT.tidy (FT.body func11 rfl ?_)
  refine CT.seq ?_
  refine CT.ev KnownOk.none mixed noC_ok 1000 (by kernel_rfl) ?_
  refine CT.seq ?_
  refine CT.seq ?_
  refine CT.ev KnownOk.none mixed noC_ok 1000 (by kernel_rfl) ?_
  refine CT.condF rfl (by kernel_rfl) ?_
  refine CT.skip ?_
  refine CT.seq ?_
  refine CT.neat (n := 2) (N := 26) (live := [(0, (.slice (some ⟨0, 0, none⟩) 8 36893488147419103232)), (1, (.slice (some ⟨1, 0, none⟩) 8 36893488147419103232))]) (hc := ⟨2, [(0, (.cells (Go.Abs.rowOf Go.Proofs.Tryz.encH [a0, a1, a2, a3, a4, a5, a6, a7]) (40) ((0, 0)))), (1, (.cells (Go.Abs.rowOf Go.Proofs.Tryz.encH [a0, a1, a2, a3, a4, a5, a6, a7]) (40) ((0, 0))))]⟩) (by kernel_rfl) ?_ (fun tail => ?_)
  · exact ⟨[0, 1], [.flat, .flat], rfl, rfl, ⟨⟨rfl, by kernel_rfl⟩, ⟨rfl, by kernel_rfl⟩, trivial⟩, by kernel_rfl, by kernel_rfl, ⟨⟨flatO_of (by kernel_rfl), by kernel_rfl⟩, ⟨flatO_of (by kernel_rfl), by kernel_rfl⟩, trivial⟩, by kernel_rfl, by kernel_rfl, by kernel_rfl, ⟨⟨rfl, by kernel_rfl⟩, ⟨rfl, by kernel_rfl⟩, trivial⟩⟩
  refine CT.seq ?_
  refine CT.ev KnownOk.none mixed noC_ok 1000 (by kernel_rfl) ?_
  refine CT.block ?_
  refine CT.loop ?_
  refine CT.seq ?_
  refine CT.ev KnownOk.none mixed noC_ok 1000 (by kernel_rfl) ?_
  refine CT.seq ?_
  refine CT.condT rfl (by kernel_rfl) ?_
  refine CT.skip ?_
  refine CT.seq ?_
  refine CT.block ?_
  refine CT.neat (n := 2) (N := 26) (live := [(0, (.slice (some ⟨0, 0, none⟩) 8 36893488147419103232)), (1, (.slice (some ⟨1, 0, none⟩) 8 36893488147419103232)), (12, (.int .i64 8)), (13, (.int .i64 0))]) (hc := ⟨2, [(0, (.cells (Go.Abs.rowOf Go.Proofs.Tryz.encH [a0, a1, a2, a3, a4, a5, a6, a7]) (40) ((0, 0)))), (1, (.cells (Go.Abs.rowOf Go.Proofs.Tryz.encH [a0, a1, a2, a3, a4, a5, a6, a7]) (40) ((0, 0))))]⟩) (by kernel_rfl) ?_ (fun tail => ?_)
  · exact ⟨[0, 1], [.flat, .flat], rfl, rfl, ⟨⟨rfl, by kernel_rfl⟩, ⟨rfl, by kernel_rfl⟩, trivial⟩, by kernel_rfl, by kernel_rfl, ⟨⟨flatO_of (by kernel_rfl), by kernel_rfl⟩, ⟨flatO_of (by kernel_rfl), by kernel_rfl⟩, trivial⟩, by kernel_rfl, by kernel_rfl, by kernel_rfl, ⟨⟨rfl, by kernel_rfl⟩, ⟨rfl, by kernel_rfl⟩, ⟨rfl, by kernel_rfl⟩, ⟨rfl, by kernel_rfl⟩, trivial⟩⟩
  refine CT.seq ?_
  refine CT.ev KnownOk.none mixed noC_ok 1000 (by kernel_rfl) ?_
  refine CT.seq ?_
  refine CT.planX mixed [(0, true), (1, true), (2, true), (3, true), (4, true), (5, true), (6, true), (7, true), (8, true)] rfl (by kernel_rfl) (by kernel_rfl) ?_
  refine DX.evs [(0, true), (1, true), (2, true), (3, true), (4, true), (5, true), (6, true), (7, true)] [(8, true)] (by kernel_rfl) ?_
  refine DX.eqF #[(Go.Value.int Go.IntKind.i64 a0.s), (Go.Value.int Go.IntKind.i64 a0.p), (Go.Value.string a0.t), (Go.Value.int Go.IntKind.i64 a0.f.fst), (Go.Value.int Go.IntKind.i64 a0.f.snd)] #[(Go.Value.int Go.IntKind.i64 a0.s), (Go.Value.int Go.IntKind.i64 a0.p), (Go.Value.string a0.t), (Go.Value.int Go.IntKind.i64 a0.f.fst), (Go.Value.int Go.IntKind.i64 a0.f.snd)] (a0.s == a0.s && (a0.p == a0.p && (a0.t == a0.t && (a0.f.fst == a0.f.fst && (a0.f.snd == a0.f.snd && Bool.true) && Bool.true)))) true (by kernel_rfl) (by kernel_rfl) (by kernel_rfl) (by kernel_rfl) (by kernel_rfl) (by kernel_rfl) (by kernel_rfl) (by kernel_rfl) (by kernel_rfl) (by kernel_rfl) (by kernel_rfl) ?_
  refine DX.nil ?_
  refine CT.condB (Go.Abs.eqRes Bool.true (a0.s == a0.s && (a0.p == a0.p && (a0.t == a0.t && (a0.f.fst == a0.f.fst && (a0.f.snd == a0.f.snd && Bool.true) && Bool.true))))) rfl (by kernel_rfl) (fun hb0 => ?_) (fun hb0 => ?_)
  · exact (eq_self hb0).elim
  · refine CT.skip ?_
    refine CT.neat (n := 2) (N := 26) (live := [(0, (.slice (some ⟨0, 0, none⟩) 8 36893488147419103232)), (1, (.slice (some ⟨1, 0, none⟩) 8 36893488147419103232)), (12, (.int .i64 8)), (13, (.int .i64 0))]) (hc := ⟨2, [(0, (.cells (Go.Abs.rowOf Go.Proofs.Tryz.encH [a0, a1, a2, a3, a4, a5, a6, a7]) (40) ((0, 0)))), (1, (.cells (Go.Abs.rowOf Go.Proofs.Tryz.encH [a0, a1, a2, a3, a4, a5, a6, a7]) (40) ((0, 0))))]⟩) (by kernel_rfl) ?_ (fun tail => ?_)
    · exact ⟨[0, 1], [.flat, .flat], rfl, rfl, ⟨⟨rfl, by kernel_rfl⟩, ⟨rfl, by kernel_rfl⟩, trivial⟩, by kernel_rfl, by kernel_rfl, ⟨⟨flatO_of (by kernel_rfl), by kernel_rfl⟩, ⟨flatO_of (by kernel_rfl), by kernel_rfl⟩, trivial⟩, by kernel_rfl, by kernel_rfl, by kernel_rfl, ⟨⟨rfl, by kernel_rfl⟩, ⟨rfl, by kernel_rfl⟩, ⟨rfl, by kernel_rfl⟩, ⟨rfl, by kernel_rfl⟩, trivial⟩⟩
    refine CT.ev KnownOk.none mixed noC_ok 1000 (by kernel_rfl) ?_
    refine CT.loop ?_
    refine CT.seq ?_
    refine CT.ev KnownOk.none mixed noC_ok 1000 (by kernel_rfl) ?_
    refine CT.seq ?_
    refine CT.condT rfl (by kernel_rfl) ?_
    refine CT.skip ?_
    refine CT.seq ?_
    refine CT.block ?_
    refine CT.neat (n := 2) (N := 26) (live := [(0, (.slice (some ⟨0, 0, none⟩) 8 36893488147419103232)), (1, (.slice (some ⟨1, 0, none⟩) 8 36893488147419103232)), (12, (.int .i64 8)), (13, (.int .i64 1))]) (hc := ⟨2, [(0, (.cells (Go.Abs.rowOf Go.Proofs.Tryz.encH [a0, a1, a2, a3, a4, a5, a6, a7]) (40) ((0, 0)))), (1, (.cells (Go.Abs.rowOf Go.Proofs.Tryz.encH [a0, a1, a2, a3, a4, a5, a6, a7]) (40) ((0, 0))))]⟩) (by kernel_rfl) ?_ (fun tail => ?_)
    · exact ⟨[0, 1], [.flat, .flat], rfl, rfl, ⟨⟨rfl, by kernel_rfl⟩, ⟨rfl, by kernel_rfl⟩, trivial⟩, by kernel_rfl, by kernel_rfl, ⟨⟨flatO_of (by kernel_rfl), by kernel_rfl⟩, ⟨flatO_of (by kernel_rfl), by kernel_rfl⟩, trivial⟩, by kernel_rfl, by kernel_rfl, by kernel_rfl, ⟨⟨rfl, by kernel_rfl⟩, ⟨rfl, by kernel_rfl⟩, ⟨rfl, by kernel_rfl⟩, ⟨rfl, by kernel_rfl⟩, trivial⟩⟩
    refine CT.seq ?_
    refine CT.ev KnownOk.none mixed noC_ok 1000 (by kernel_rfl) ?_
    refine CT.seq ?_
    refine CT.planX mixed [(0, true), (1, true), (2, true), (3, true), (4, true), (5, true), (6, true), (7, true), (8, true)] rfl (by kernel_rfl) (by kernel_rfl) ?_
    refine DX.evs [(0, true), (1, true), (2, true), (3, true), (4, true), (5, true), (6, true), (7, true)] [(8, true)] (by kernel_rfl) ?_
    refine DX.eqF #[(Go.Value.int Go.IntKind.i64 a1.s), (Go.Value.int Go.IntKind.i64 a1.p), (Go.Value.string a1.t), (Go.Value.int Go.IntKind.i64 a1.f.fst), (Go.Value.int Go.IntKind.i64 a1.f.snd)] #[(Go.Value.int Go.IntKind.i64 a1.s), (Go.Value.int Go.IntKind.i64 a1.p), (Go.Value.string a1.t), (Go.Value.int Go.IntKind.i64 a1.f.fst), (Go.Value.int Go.IntKind.i64 a1.f.snd)] (a1.s == a1.s && (a1.p == a1.p && (a1.t == a1.t && (a1.f.fst == a1.f.fst && (a1.f.snd == a1.f.snd && Bool.true) && Bool.true)))) true (by kernel_rfl) (by kernel_rfl) (by kernel_rfl) (by kernel_rfl) (by kernel_rfl) (by kernel_rfl) (by kernel_rfl) (by kernel_rfl) (by kernel_rfl) (by kernel_rfl) (by kernel_rfl) ?_
    refine DX.nil ?_
    refine CT.condB (Go.Abs.eqRes Bool.true (a1.s == a1.s && (a1.p == a1.p && (a1.t == a1.t && (a1.f.fst == a1.f.fst && (a1.f.snd == a1.f.snd && Bool.true) && Bool.true))))) rfl (by kernel_rfl) (fun hb1 => ?_) (fun hb1 => ?_)
    · exact (eq_self hb1).elim
    · refine CT.skip ?_
      refine CT.neat (n := 2) (N := 26) (live := [(0, (.slice (some ⟨0, 0, none⟩) 8 36893488147419103232)), (1, (.slice (some ⟨1, 0, none⟩) 8 36893488147419103232)), (12, (.int .i64 8)), (13, (.int .i64 1))]) (hc := ⟨2, [(0, (.cells (Go.Abs.rowOf Go.Proofs.Tryz.encH [a0, a1, a2, a3, a4, a5, a6, a7]) (40) ((0, 0)))), (1, (.cells (Go.Abs.rowOf Go.Proofs.Tryz.encH [a0, a1, a2, a3, a4, a5, a6, a7]) (40) ((0, 0))))]⟩) (by kernel_rfl) ?_ (fun tail => ?_)
      · exact ⟨[0, 1], [.flat, .flat], rfl, rfl, ⟨⟨rfl, by kernel_rfl⟩, ⟨rfl, by kernel_rfl⟩, trivial⟩, by kernel_rfl, by kernel_rfl, ⟨⟨flatO_of (by kernel_rfl), by kernel_rfl⟩, ⟨flatO_of (by kernel_rfl), by kernel_rfl⟩, trivial⟩, by kernel_rfl, by kernel_rfl, by kernel_rfl, ⟨⟨rfl, by kernel_rfl⟩, ⟨rfl, by kernel_rfl⟩, ⟨rfl, by kernel_rfl⟩, ⟨rfl, by kernel_rfl⟩, trivial⟩⟩
      refine CT.ev KnownOk.none mixed noC_ok 1000 (by kernel_rfl) ?_
      refine CT.loop ?_
      refine CT.seq ?_
      refine CT.ev KnownOk.none mixed noC_ok 1000 (by kernel_rfl) ?_
      refine CT.seq ?_
      refine CT.condT rfl (by kernel_rfl) ?_
      refine CT.skip ?_
      refine CT.seq ?_
      refine CT.block ?_
      refine CT.neat (n := 2) (N := 26) (live := [(0, (.slice (some ⟨0, 0, none⟩) 8 36893488147419103232)), (1, (.slice (some ⟨1, 0, none⟩) 8 36893488147419103232)), (12, (.int .i64 8)), (13, (.int .i64 2))]) (hc := ⟨2, [(0, (.cells (Go.Abs.rowOf Go.Proofs.Tryz.encH [a0, a1, a2, a3, a4, a5, a6, a7]) (40) ((0, 0)))), (1, (.cells (Go.Abs.rowOf Go.Proofs.Tryz.encH [a0, a1, a2, a3, a4, a5, a6, a7]) (40) ((0, 0))))]⟩) (by kernel_rfl) ?_ (fun tail => ?_)
      · exact ⟨[0, 1], [.flat, .flat], rfl, rfl, ⟨⟨rfl, by kernel_rfl⟩, ⟨rfl, by kernel_rfl⟩, trivial⟩, by kernel_rfl, by kernel_rfl, ⟨⟨flatO_of (by kernel_rfl), by kernel_rfl⟩, ⟨flatO_of (by kernel_rfl), by kernel_rfl⟩, trivial⟩, by kernel_rfl, by kernel_rfl, by kernel_rfl, ⟨⟨rfl, by kernel_rfl⟩, ⟨rfl, by kernel_rfl⟩, ⟨rfl, by kernel_rfl⟩, ⟨rfl, by kernel_rfl⟩, trivial⟩⟩
      refine CT.seq ?_
      refine CT.ev KnownOk.none mixed noC_ok 1000 (by kernel_rfl) ?_
      refine CT.seq ?_
      refine CT.planX mixed [(0, true), (1, true), (2, true), (3, true), (4, true), (5, true), (6, true), (7, true), (8, true)] rfl (by kernel_rfl) (by kernel_rfl) ?_
      refine DX.evs [(0, true), (1, true), (2, true), (3, true), (4, true), (5, true), (6, true), (7, true)] [(8, true)] (by kernel_rfl) ?_
      refine DX.eqF #[(Go.Value.int Go.IntKind.i64 a2.s), (Go.Value.int Go.IntKind.i64 a2.p), (Go.Value.string a2.t), (Go.Value.int Go.IntKind.i64 a2.f.fst), (Go.Value.int Go.IntKind.i64 a2.f.snd)] #[(Go.Value.int Go.IntKind.i64 a2.s), (Go.Value.int Go.IntKind.i64 a2.p), (Go.Value.string a2.t), (Go.Value.int Go.IntKind.i64 a2.f.fst), (Go.Value.int Go.IntKind.i64 a2.f.snd)] (a2.s == a2.s && (a2.p == a2.p && (a2.t == a2.t && (a2.f.fst == a2.f.fst && (a2.f.snd == a2.f.snd && Bool.true) && Bool.true)))) true (by kernel_rfl) (by kernel_rfl) (by kernel_rfl) (by kernel_rfl) (by kernel_rfl) (by kernel_rfl) (by kernel_rfl) (by kernel_rfl) (by kernel_rfl) (by kernel_rfl) (by kernel_rfl) ?_
      refine DX.nil ?_
      refine CT.condB (Go.Abs.eqRes Bool.true (a2.s == a2.s && (a2.p == a2.p && (a2.t == a2.t && (a2.f.fst == a2.f.fst && (a2.f.snd == a2.f.snd && Bool.true) && Bool.true))))) rfl (by kernel_rfl) (fun hb2 => ?_) (fun hb2 => ?_)
      · exact (eq_self hb2).elim
      · refine CT.skip ?_
        refine CT.neat (n := 2) (N := 26) (live := [(0, (.slice (some ⟨0, 0, none⟩) 8 36893488147419103232)), (1, (.slice (some ⟨1, 0, none⟩) 8 36893488147419103232)), (12, (.int .i64 8)), (13, (.int .i64 2))]) (hc := ⟨2, [(0, (.cells (Go.Abs.rowOf Go.Proofs.Tryz.encH [a0, a1, a2, a3, a4, a5, a6, a7]) (40) ((0, 0)))), (1, (.cells (Go.Abs.rowOf Go.Proofs.Tryz.encH [a0, a1, a2, a3, a4, a5, a6, a7]) (40) ((0, 0))))]⟩) (by kernel_rfl) ?_ (fun tail => ?_)
        · exact ⟨[0, 1], [.flat, .flat], rfl, rfl, ⟨⟨rfl, by kernel_rfl⟩, ⟨rfl, by kernel_rfl⟩, trivial⟩, by kernel_rfl, by kernel_rfl, ⟨⟨flatO_of (by kernel_rfl), by kernel_rfl⟩, ⟨flatO_of (by kernel_rfl), by kernel_rfl⟩, trivial⟩, by kernel_rfl, by kernel_rfl, by kernel_rfl, ⟨⟨rfl, by kernel_rfl⟩, ⟨rfl, by kernel_rfl⟩, ⟨rfl, by kernel_rfl⟩, ⟨rfl, by kernel_rfl⟩, trivial⟩⟩
        refine CT.ev KnownOk.none mixed noC_ok 1000 (by kernel_rfl) ?_
        refine CT.loop ?_
        refine CT.seq ?_
        refine CT.ev KnownOk.none mixed noC_ok 1000 (by kernel_rfl) ?_
        refine CT.seq ?_
        refine CT.condT rfl (by kernel_rfl) ?_
        refine CT.skip ?_
        refine CT.seq ?_
        refine CT.block ?_
        refine CT.neat (n := 2) (N := 26) (live := [(0, (.slice (some ⟨0, 0, none⟩) 8 36893488147419103232)), (1, (.slice (some ⟨1, 0, none⟩) 8 36893488147419103232)), (12, (.int .i64 8)), (13, (.int .i64 3))]) (hc := ⟨2, [(0, (.cells (Go.Abs.rowOf Go.Proofs.Tryz.encH [a0, a1, a2, a3, a4, a5, a6, a7]) (40) ((0, 0)))), (1, (.cells (Go.Abs.rowOf Go.Proofs.Tryz.encH [a0, a1, a2, a3, a4, a5, a6, a7]) (40) ((0, 0))))]⟩) (by kernel_rfl) ?_ (fun tail => ?_)
        · exact ⟨[0, 1], [.flat, .flat], rfl, rfl, ⟨⟨rfl, by kernel_rfl⟩, ⟨rfl, by kernel_rfl⟩, trivial⟩, by kernel_rfl, by kernel_rfl, ⟨⟨flatO_of (by kernel_rfl), by kernel_rfl⟩, ⟨flatO_of (by kernel_rfl), by kernel_rfl⟩, trivial⟩, by kernel_rfl, by kernel_rfl, by kernel_rfl, ⟨⟨rfl, by kernel_rfl⟩, ⟨rfl, by kernel_rfl⟩, ⟨rfl, by kernel_rfl⟩, ⟨rfl, by kernel_rfl⟩, trivial⟩⟩
        refine CT.seq ?_
        refine CT.ev KnownOk.none mixed noC_ok 1000 (by kernel_rfl) ?_
        refine CT.seq ?_
        refine CT.planX mixed [(0, true), (1, true), (2, true), (3, true), (4, true), (5, true), (6, true), (7, true), (8, true)] rfl (by kernel_rfl) (by kernel_rfl) ?_
        refine DX.evs [(0, true), (1, true), (2, true), (3, true), (4, true), (5, true), (6, true), (7, true)] [(8, true)] (by kernel_rfl) ?_
        refine DX.eqF #[(Go.Value.int Go.IntKind.i64 a3.s), (Go.Value.int Go.IntKind.i64 a3.p), (Go.Value.string a3.t), (Go.Value.int Go.IntKind.i64 a3.f.fst), (Go.Value.int Go.IntKind.i64 a3.f.snd)] #[(Go.Value.int Go.IntKind.i64 a3.s), (Go.Value.int Go.IntKind.i64 a3.p), (Go.Value.string a3.t), (Go.Value.int Go.IntKind.i64 a3.f.fst), (Go.Value.int Go.IntKind.i64 a3.f.snd)] (a3.s == a3.s && (a3.p == a3.p && (a3.t == a3.t && (a3.f.fst == a3.f.fst && (a3.f.snd == a3.f.snd && Bool.true) && Bool.true)))) true (by kernel_rfl) (by kernel_rfl) (by kernel_rfl) (by kernel_rfl) (by kernel_rfl) (by kernel_rfl) (by kernel_rfl) (by kernel_rfl) (by kernel_rfl) (by kernel_rfl) (by kernel_rfl) ?_
        refine DX.nil ?_
        refine CT.condB (Go.Abs.eqRes Bool.true (a3.s == a3.s && (a3.p == a3.p && (a3.t == a3.t && (a3.f.fst == a3.f.fst && (a3.f.snd == a3.f.snd && Bool.true) && Bool.true))))) rfl (by kernel_rfl) (fun hb3 => ?_) (fun hb3 => ?_)
        · exact (eq_self hb3).elim
        · refine CT.skip ?_
          refine CT.neat (n := 2) (N := 26) (live := [(0, (.slice (some ⟨0, 0, none⟩) 8 36893488147419103232)), (1, (.slice (some ⟨1, 0, none⟩) 8 36893488147419103232)), (12, (.int .i64 8)), (13, (.int .i64 3))]) (hc := ⟨2, [(0, (.cells (Go.Abs.rowOf Go.Proofs.Tryz.encH [a0, a1, a2, a3, a4, a5, a6, a7]) (40) ((0, 0)))), (1, (.cells (Go.Abs.rowOf Go.Proofs.Tryz.encH [a0, a1, a2, a3, a4, a5, a6, a7]) (40) ((0, 0))))]⟩) (by kernel_rfl) ?_ (fun tail => ?_)
          · exact ⟨[0, 1], [.flat, .flat], rfl, rfl, ⟨⟨rfl, by kernel_rfl⟩, ⟨rfl, by kernel_rfl⟩, trivial⟩, by kernel_rfl, by kernel_rfl, ⟨⟨flatO_of (by kernel_rfl), by kernel_rfl⟩, ⟨flatO_of (by kernel_rfl), by kernel_rfl⟩, trivial⟩, by kernel_rfl, by kernel_rfl, by kernel_rfl, ⟨⟨rfl, by kernel_rfl⟩, ⟨rfl, by kernel_rfl⟩, ⟨rfl, by kernel_rfl⟩, ⟨rfl, by kernel_rfl⟩, trivial⟩⟩
          refine CT.ev KnownOk.none mixed noC_ok 1000 (by kernel_rfl) ?_
          refine CT.loop ?_
          refine CT.seq ?_
          refine CT.ev KnownOk.none mixed noC_ok 1000 (by kernel_rfl) ?_
          refine CT.seq ?_
          refine CT.condT rfl (by kernel_rfl) ?_
          refine CT.skip ?_
          refine CT.seq ?_
          refine CT.block ?_
          refine CT.neat (n := 2) (N := 26) (live := [(0, (.slice (some ⟨0, 0, none⟩) 8 36893488147419103232)), (1, (.slice (some ⟨1, 0, none⟩) 8 36893488147419103232)), (12, (.int .i64 8)), (13, (.int .i64 4))]) (hc := ⟨2, [(0, (.cells (Go.Abs.rowOf Go.Proofs.Tryz.encH [a0, a1, a2, a3, a4, a5, a6, a7]) (40) ((0, 0)))), (1, (.cells (Go.Abs.rowOf Go.Proofs.Tryz.encH [a0, a1, a2, a3, a4, a5, a6, a7]) (40) ((0, 0))))]⟩) (by kernel_rfl) ?_ (fun tail => ?_)
          · exact ⟨[0, 1], [.flat, .flat], rfl, rfl, ⟨⟨rfl, by kernel_rfl⟩, ⟨rfl, by kernel_rfl⟩, trivial⟩, by kernel_rfl, by kernel_rfl, ⟨⟨flatO_of (by kernel_rfl), by kernel_rfl⟩, ⟨flatO_of (by kernel_rfl), by kernel_rfl⟩, trivial⟩, by kernel_rfl, by kernel_rfl, by kernel_rfl, ⟨⟨rfl, by kernel_rfl⟩, ⟨rfl, by kernel_rfl⟩, ⟨rfl, by kernel_rfl⟩, ⟨rfl, by kernel_rfl⟩, trivial⟩⟩
          refine CT.seq ?_
          refine CT.ev KnownOk.none mixed noC_ok 1000 (by kernel_rfl) ?_
          refine CT.seq ?_
          refine CT.planX mixed [(0, true), (1, true), (2, true), (3, true), (4, true), (5, true), (6, true), (7, true), (8, true)] rfl (by kernel_rfl) (by kernel_rfl) ?_
          refine DX.evs [(0, true), (1, true), (2, true), (3, true), (4, true), (5, true), (6, true), (7, true)] [(8, true)] (by kernel_rfl) ?_
          refine DX.eqF #[(Go.Value.int Go.IntKind.i64 a4.s), (Go.Value.int Go.IntKind.i64 a4.p), (Go.Value.string a4.t), (Go.Value.int Go.IntKind.i64 a4.f.fst), (Go.Value.int Go.IntKind.i64 a4.f.snd)] #[(Go.Value.int Go.IntKind.i64 a4.s), (Go.Value.int Go.IntKind.i64 a4.p), (Go.Value.string a4.t), (Go.Value.int Go.IntKind.i64 a4.f.fst), (Go.Value.int Go.IntKind.i64 a4.f.snd)] (a4.s == a4.s && (a4.p == a4.p && (a4.t == a4.t && (a4.f.fst == a4.f.fst && (a4.f.snd == a4.f.snd && Bool.true) && Bool.true)))) true (by kernel_rfl) (by kernel_rfl) (by kernel_rfl) (by kernel_rfl) (by kernel_rfl) (by kernel_rfl) (by kernel_rfl) (by kernel_rfl) (by kernel_rfl) (by kernel_rfl) (by kernel_rfl) ?_
          refine DX.nil ?_
          refine CT.condB (Go.Abs.eqRes Bool.true (a4.s == a4.s && (a4.p == a4.p && (a4.t == a4.t && (a4.f.fst == a4.f.fst && (a4.f.snd == a4.f.snd && Bool.true) && Bool.true))))) rfl (by kernel_rfl) (fun hb4 => ?_) (fun hb4 => ?_)
          · exact (eq_self hb4).elim
          · refine CT.skip ?_
            refine CT.neat (n := 2) (N := 26) (live := [(0, (.slice (some ⟨0, 0, none⟩) 8 36893488147419103232)), (1, (.slice (some ⟨1, 0, none⟩) 8 36893488147419103232)), (12, (.int .i64 8)), (13, (.int .i64 4))]) (hc := ⟨2, [(0, (.cells (Go.Abs.rowOf Go.Proofs.Tryz.encH [a0, a1, a2, a3, a4, a5, a6, a7]) (40) ((0, 0)))), (1, (.cells (Go.Abs.rowOf Go.Proofs.Tryz.encH [a0, a1, a2, a3, a4, a5, a6, a7]) (40) ((0, 0))))]⟩) (by kernel_rfl) ?_ (fun tail => ?_)
            · exact ⟨[0, 1], [.flat, .flat], rfl, rfl, ⟨⟨rfl, by kernel_rfl⟩, ⟨rfl, by kernel_rfl⟩, trivial⟩, by kernel_rfl, by kernel_rfl, ⟨⟨flatO_of (by kernel_rfl), by kernel_rfl⟩, ⟨flatO_of (by kernel_rfl), by kernel_rfl⟩, trivial⟩, by kernel_rfl, by kernel_rfl, by kernel_rfl, ⟨⟨rfl, by kernel_rfl⟩, ⟨rfl, by kernel_rfl⟩, ⟨rfl, by kernel_rfl⟩, ⟨rfl, by kernel_rfl⟩, trivial⟩⟩
            refine CT.ev KnownOk.none mixed noC_ok 1000 (by kernel_rfl) ?_
            refine CT.loop ?_
            refine CT.seq ?_
            refine CT.ev KnownOk.none mixed noC_ok 1000 (by kernel_rfl) ?_
            refine CT.seq ?_
            refine CT.condT rfl (by kernel_rfl) ?_
            refine CT.skip ?_
            refine CT.seq ?_
            refine CT.block ?_
            refine CT.neat (n := 2) (N := 26) (live := [(0, (.slice (some ⟨0, 0, none⟩) 8 36893488147419103232)), (1, (.slice (some ⟨1, 0, none⟩) 8 36893488147419103232)), (12, (.int .i64 8)), (13, (.int .i64 5))]) (hc := ⟨2, [(0, (.cells (Go.Abs.rowOf Go.Proofs.Tryz.encH [a0, a1, a2, a3, a4, a5, a6, a7]) (40) ((0, 0)))), (1, (.cells (Go.Abs.rowOf Go.Proofs.Tryz.encH [a0, a1, a2, a3, a4, a5, a6, a7]) (40) ((0, 0))))]⟩) (by kernel_rfl) ?_ (fun tail => ?_)
            · exact ⟨[0, 1], [.flat, .flat], rfl, rfl, ⟨⟨rfl, by kernel_rfl⟩, ⟨rfl, by kernel_rfl⟩, trivial⟩, by kernel_rfl, by kernel_rfl, ⟨⟨flatO_of (by kernel_rfl), by kernel_rfl⟩, ⟨flatO_of (by kernel_rfl), by kernel_rfl⟩, trivial⟩, by kernel_rfl, by kernel_rfl, by kernel_rfl, ⟨⟨rfl, by kernel_rfl⟩, ⟨rfl, by kernel_rfl⟩, ⟨rfl, by kernel_rfl⟩, ⟨rfl, by kernel_rfl⟩, trivial⟩⟩
            refine CT.seq ?_
            refine CT.ev KnownOk.none mixed noC_ok 1000 (by kernel_rfl) ?_
            refine CT.seq ?_
            refine CT.planX mixed [(0, true), (1, true), (2, true), (3, true), (4, true), (5, true), (6, true), (7, true), (8, true)] rfl (by kernel_rfl) (by kernel_rfl) ?_
            refine DX.evs [(0, true), (1, true), (2, true), (3, true), (4, true), (5, true), (6, true), (7, true)] [(8, true)] (by kernel_rfl) ?_
            refine DX.eqF #[(Go.Value.int Go.IntKind.i64 a5.s), (Go.Value.int Go.IntKind.i64 a5.p), (Go.Value.string a5.t), (Go.Value.int Go.IntKind.i64 a5.f.fst), (Go.Value.int Go.IntKind.i64 a5.f.snd)] #[(Go.Value.int Go.IntKind.i64 a5.s), (Go.Value.int Go.IntKind.i64 a5.p), (Go.Value.string a5.t), (Go.Value.int Go.IntKind.i64 a5.f.fst), (Go.Value.int Go.IntKind.i64 a5.f.snd)] (a5.s == a5.s && (a5.p == a5.p && (a5.t == a5.t && (a5.f.fst == a5.f.fst && (a5.f.snd == a5.f.snd && Bool.true) && Bool.true)))) true (by kernel_rfl) (by kernel_rfl) (by kernel_rfl) (by kernel_rfl) (by kernel_rfl) (by kernel_rfl) (by kernel_rfl) (by kernel_rfl) (by kernel_rfl) (by kernel_rfl) (by kernel_rfl) ?_
            refine DX.nil ?_
            refine CT.condB (Go.Abs.eqRes Bool.true (a5.s == a5.s && (a5.p == a5.p && (a5.t == a5.t && (a5.f.fst == a5.f.fst && (a5.f.snd == a5.f.snd && Bool.true) && Bool.true))))) rfl (by kernel_rfl) (fun hb5 => ?_) (fun hb5 => ?_)
            · exact (eq_self hb5).elim
            · refine CT.skip ?_
              refine CT.neat (n := 2) (N := 26) (live := [(0, (.slice (some ⟨0, 0, none⟩) 8 36893488147419103232)), (1, (.slice (some ⟨1, 0, none⟩) 8 36893488147419103232)), (12, (.int .i64 8)), (13, (.int .i64 5))]) (hc := ⟨2, [(0, (.cells (Go.Abs.rowOf Go.Proofs.Tryz.encH [a0, a1, a2, a3, a4, a5, a6, a7]) (40) ((0, 0)))), (1, (.cells (Go.Abs.rowOf Go.Proofs.Tryz.encH [a0, a1, a2, a3, a4, a5, a6, a7]) (40) ((0, 0))))]⟩) (by kernel_rfl) ?_ (fun tail => ?_)
              · exact ⟨[0, 1], [.flat, .flat], rfl, rfl, ⟨⟨rfl, by kernel_rfl⟩, ⟨rfl, by kernel_rfl⟩, trivial⟩, by kernel_rfl, by kernel_rfl, ⟨⟨flatO_of (by kernel_rfl), by kernel_rfl⟩, ⟨flatO_of (by kernel_rfl), by kernel_rfl⟩, trivial⟩, by kernel_rfl, by kernel_rfl, by kernel_rfl, ⟨⟨rfl, by kernel_rfl⟩, ⟨rfl, by kernel_rfl⟩, ⟨rfl, by kernel_rfl⟩, ⟨rfl, by kernel_rfl⟩, trivial⟩⟩
              refine CT.ev KnownOk.none mixed noC_ok 1000 (by kernel_rfl) ?_
              refine CT.loop ?_
              refine CT.seq ?_
              refine CT.ev KnownOk.none mixed noC_ok 1000 (by kernel_rfl) ?_
              refine CT.seq ?_
              refine CT.condT rfl (by kernel_rfl) ?_
              refine CT.skip ?_
              refine CT.seq ?_
              refine CT.block ?_
              refine CT.neat (n := 2) (N := 26) (live := [(0, (.slice (some ⟨0, 0, none⟩) 8 36893488147419103232)), (1, (.slice (some ⟨1, 0, none⟩) 8 36893488147419103232)), (12, (.int .i64 8)), (13, (.int .i64 6))]) (hc := ⟨2, [(0, (.cells (Go.Abs.rowOf Go.Proofs.Tryz.encH [a0, a1, a2, a3, a4, a5, a6, a7]) (40) ((0, 0)))), (1, (.cells (Go.Abs.rowOf Go.Proofs.Tryz.encH [a0, a1, a2, a3, a4, a5, a6, a7]) (40) ((0, 0))))]⟩) (by kernel_rfl) ?_ (fun tail => ?_)
              · exact ⟨[0, 1], [.flat, .flat], rfl, rfl, ⟨⟨rfl, by kernel_rfl⟩, ⟨rfl, by kernel_rfl⟩, trivial⟩, by kernel_rfl, by kernel_rfl, ⟨⟨flatO_of (by kernel_rfl), by kernel_rfl⟩, ⟨flatO_of (by kernel_rfl), by kernel_rfl⟩, trivial⟩, by kernel_rfl, by kernel_rfl, by kernel_rfl, ⟨⟨rfl, by kernel_rfl⟩, ⟨rfl, by kernel_rfl⟩, ⟨rfl, by kernel_rfl⟩, ⟨rfl, by kernel_rfl⟩, trivial⟩⟩
              refine CT.seq ?_
              refine CT.ev KnownOk.none mixed noC_ok 1000 (by kernel_rfl) ?_
              refine CT.seq ?_
              refine CT.planX mixed [(0, true), (1, true), (2, true), (3, true), (4, true), (5, true), (6, true), (7, true), (8, true)] rfl (by kernel_rfl) (by kernel_rfl) ?_
              refine DX.evs [(0, true), (1, true), (2, true), (3, true), (4, true), (5, true), (6, true), (7, true)] [(8, true)] (by kernel_rfl) ?_
              refine DX.eqF #[(Go.Value.int Go.IntKind.i64 a6.s), (Go.Value.int Go.IntKind.i64 a6.p), (Go.Value.string a6.t), (Go.Value.int Go.IntKind.i64 a6.f.fst), (Go.Value.int Go.IntKind.i64 a6.f.snd)] #[(Go.Value.int Go.IntKind.i64 a6.s), (Go.Value.int Go.IntKind.i64 a6.p), (Go.Value.string a6.t), (Go.Value.int Go.IntKind.i64 a6.f.fst), (Go.Value.int Go.IntKind.i64 a6.f.snd)] (a6.s == a6.s && (a6.p == a6.p && (a6.t == a6.t && (a6.f.fst == a6.f.fst && (a6.f.snd == a6.f.snd && Bool.true) && Bool.true)))) true (by kernel_rfl) (by kernel_rfl) (by kernel_rfl) (by kernel_rfl) (by kernel_rfl) (by kernel_rfl) (by kernel_rfl) (by kernel_rfl) (by kernel_rfl) (by kernel_rfl) (by kernel_rfl) ?_
              refine DX.nil ?_
              refine CT.condB (Go.Abs.eqRes Bool.true (a6.s == a6.s && (a6.p == a6.p && (a6.t == a6.t && (a6.f.fst == a6.f.fst && (a6.f.snd == a6.f.snd && Bool.true) && Bool.true))))) rfl (by kernel_rfl) (fun hb6 => ?_) (fun hb6 => ?_)
              · exact (eq_self hb6).elim
              · refine CT.skip ?_
                refine CT.neat (n := 2) (N := 26) (live := [(0, (.slice (some ⟨0, 0, none⟩) 8 36893488147419103232)), (1, (.slice (some ⟨1, 0, none⟩) 8 36893488147419103232)), (12, (.int .i64 8)), (13, (.int .i64 6))]) (hc := ⟨2, [(0, (.cells (Go.Abs.rowOf Go.Proofs.Tryz.encH [a0, a1, a2, a3, a4, a5, a6, a7]) (40) ((0, 0)))), (1, (.cells (Go.Abs.rowOf Go.Proofs.Tryz.encH [a0, a1, a2, a3, a4, a5, a6, a7]) (40) ((0, 0))))]⟩) (by kernel_rfl) ?_ (fun tail => ?_)
                · exact ⟨[0, 1], [.flat, .flat], rfl, rfl, ⟨⟨rfl, by kernel_rfl⟩, ⟨rfl, by kernel_rfl⟩, trivial⟩, by kernel_rfl, by kernel_rfl, ⟨⟨flatO_of (by kernel_rfl), by kernel_rfl⟩, ⟨flatO_of (by kernel_rfl), by kernel_rfl⟩, trivial⟩, by kernel_rfl, by kernel_rfl, by kernel_rfl, ⟨⟨rfl, by kernel_rfl⟩, ⟨rfl, by kernel_rfl⟩, ⟨rfl, by kernel_rfl⟩, ⟨rfl, by kernel_rfl⟩, trivial⟩⟩
                refine CT.ev KnownOk.none mixed noC_ok 1000 (by kernel_rfl) ?_
                refine CT.loop ?_
                refine CT.seq ?_
                refine CT.ev KnownOk.none mixed noC_ok 1000 (by kernel_rfl) ?_
                refine CT.seq ?_
                refine CT.condT rfl (by kernel_rfl) ?_
                refine CT.skip ?_
                refine CT.seq ?_
                refine CT.block ?_
                refine CT.neat (n := 2) (N := 26) (live := [(0, (.slice (some ⟨0, 0, none⟩) 8 36893488147419103232)), (1, (.slice (some ⟨1, 0, none⟩) 8 36893488147419103232)), (12, (.int .i64 8)), (13, (.int .i64 7))]) (hc := ⟨2, [(0, (.cells (Go.Abs.rowOf Go.Proofs.Tryz.encH [a0, a1, a2, a3, a4, a5, a6, a7]) (40) ((0, 0)))), (1, (.cells (Go.Abs.rowOf Go.Proofs.Tryz.encH [a0, a1, a2, a3, a4, a5, a6, a7]) (40) ((0, 0))))]⟩) (by kernel_rfl) ?_ (fun tail => ?_)
                · exact ⟨[0, 1], [.flat, .flat], rfl, rfl, ⟨⟨rfl, by kernel_rfl⟩, ⟨rfl, by kernel_rfl⟩, trivial⟩, by kernel_rfl, by kernel_rfl, ⟨⟨flatO_of (by kernel_rfl), by kernel_rfl⟩, ⟨flatO_of (by kernel_rfl), by kernel_rfl⟩, trivial⟩, by kernel_rfl, by kernel_rfl, by kernel_rfl, ⟨⟨rfl, by kernel_rfl⟩, ⟨rfl, by kernel_rfl⟩, ⟨rfl, by kernel_rfl⟩, ⟨rfl, by kernel_rfl⟩, trivial⟩⟩
                refine CT.seq ?_
                refine CT.ev KnownOk.none mixed noC_ok 1000 (by kernel_rfl) ?_
                refine CT.seq ?_
                refine CT.planX mixed [(0, true), (1, true), (2, true), (3, true), (4, true), (5, true), (6, true), (7, true), (8, true)] rfl (by kernel_rfl) (by kernel_rfl) ?_
                refine DX.evs [(0, true), (1, true), (2, true), (3, true), (4, true), (5, true), (6, true), (7, true)] [(8, true)] (by kernel_rfl) ?_
                refine DX.eqF #[(Go.Value.int Go.IntKind.i64 a7.s), (Go.Value.int Go.IntKind.i64 a7.p), (Go.Value.string a7.t), (Go.Value.int Go.IntKind.i64 a7.f.fst), (Go.Value.int Go.IntKind.i64 a7.f.snd)] #[(Go.Value.int Go.IntKind.i64 a7.s), (Go.Value.int Go.IntKind.i64 a7.p), (Go.Value.string a7.t), (Go.Value.int Go.IntKind.i64 a7.f.fst), (Go.Value.int Go.IntKind.i64 a7.f.snd)] (a7.s == a7.s && (a7.p == a7.p && (a7.t == a7.t && (a7.f.fst == a7.f.fst && (a7.f.snd == a7.f.snd && Bool.true) && Bool.true)))) true (by kernel_rfl) (by kernel_rfl) (by kernel_rfl) (by kernel_rfl) (by kernel_rfl) (by kernel_rfl) (by kernel_rfl) (by kernel_rfl) (by kernel_rfl) (by kernel_rfl) (by kernel_rfl) ?_
                refine DX.nil ?_
                refine CT.condB (Go.Abs.eqRes Bool.true (a7.s == a7.s && (a7.p == a7.p && (a7.t == a7.t && (a7.f.fst == a7.f.fst && (a7.f.snd == a7.f.snd && Bool.true) && Bool.true))))) rfl (by kernel_rfl) (fun hb7 => ?_) (fun hb7 => ?_)
                · exact (eq_self hb7).elim
                · refine CT.skip ?_
                  refine CT.neat (n := 2) (N := 26) (live := [(0, (.slice (some ⟨0, 0, none⟩) 8 36893488147419103232)), (1, (.slice (some ⟨1, 0, none⟩) 8 36893488147419103232)), (12, (.int .i64 8)), (13, (.int .i64 7))]) (hc := ⟨2, [(0, (.cells (Go.Abs.rowOf Go.Proofs.Tryz.encH [a0, a1, a2, a3, a4, a5, a6, a7]) (40) ((0, 0)))), (1, (.cells (Go.Abs.rowOf Go.Proofs.Tryz.encH [a0, a1, a2, a3, a4, a5, a6, a7]) (40) ((0, 0))))]⟩) (by kernel_rfl) ?_ (fun tail => ?_)
                  · exact ⟨[0, 1], [.flat, .flat], rfl, rfl, ⟨⟨rfl, by kernel_rfl⟩, ⟨rfl, by kernel_rfl⟩, trivial⟩, by kernel_rfl, by kernel_rfl, ⟨⟨flatO_of (by kernel_rfl), by kernel_rfl⟩, ⟨flatO_of (by kernel_rfl), by kernel_rfl⟩, trivial⟩, by kernel_rfl, by kernel_rfl, by kernel_rfl, ⟨⟨rfl, by kernel_rfl⟩, ⟨rfl, by kernel_rfl⟩, ⟨rfl, by kernel_rfl⟩, ⟨rfl, by kernel_rfl⟩, trivial⟩⟩
                  refine CT.ev KnownOk.none mixed noC_ok 1000 (by kernel_rfl) ?_
                  refine CT.loop ?_
                  refine CT.seq ?_
                  refine CT.ev KnownOk.none mixed noC_ok 1000 (by kernel_rfl) ?_
                  refine CT.seq ?_
                  refine CT.condF rfl (by kernel_rfl) ?_
                  refine CT.exit ?_
                  refine CT.neat (n := 2) (N := 26) (live := []) (hc := ⟨2, [(0, (.cells (Go.Abs.rowOf Go.Proofs.Tryz.encH [a0, a1, a2, a3, a4, a5, a6, a7]) (40) ((0, 0)))), (1, (.cells (Go.Abs.rowOf Go.Proofs.Tryz.encH [a0, a1, a2, a3, a4, a5, a6, a7]) (40) ((0, 0))))]⟩) (by kernel_rfl) ?_ (fun tail => ?_)
                  · exact ⟨[0, 1], [.flat, .flat], rfl, rfl, ⟨⟨rfl, by kernel_rfl⟩, ⟨rfl, by kernel_rfl⟩, trivial⟩, by kernel_rfl, by kernel_rfl, ⟨⟨flatO_of (by kernel_rfl), by kernel_rfl⟩, ⟨flatO_of (by kernel_rfl), by kernel_rfl⟩, trivial⟩, by kernel_rfl, by kernel_rfl, by kernel_rfl, trivial⟩
                  refine CT.seq ?_
                  refine CT.ev KnownOk.none mixed noC_ok 1000 (by kernel_rfl) ?_
                  refine CT.ret (retQ (by kernel_rfl) ?_)
                  refine Tidy.of (.bool true) ⟨2, [(1, .cells (rowOf encH [a0, a1, a2, a3, a4, a5, a6, a7]) 40), (0, .cells (rowOf encH [a0, a1, a2, a3, a4, a5, a6, a7]) 40)]⟩ ⟨rfl, rfl⟩ ?_
                  · exact ⟨[0, 1], [.flat, .flat], rfl, rfl, ⟨⟨rfl, by kernel_rfl⟩, ⟨rfl, by kernel_rfl⟩, trivial⟩, by kernel_rfl, by kernel_rfl, ⟨⟨flatO_of (by kernel_rfl), by kernel_rfl⟩, ⟨flatO_of (by kernel_rfl), by kernel_rfl⟩, trivial⟩, rfl, rfl, by kernel_rfl⟩
end Go.Proofs.Tryz
