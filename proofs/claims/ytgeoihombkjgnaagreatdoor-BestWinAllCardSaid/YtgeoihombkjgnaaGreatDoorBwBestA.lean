import Derived.Test.YtgeoihombkjgnaaGreatDoorBwIdx
namespace Go.Proofs.Tryz
open Go Go.Abs

/-- The seeds. -/
def seedRow : Obj := .cells #[.string ⟨#[116, 103]⟩, .string ⟨#[116, 102]⟩, .string ⟨#[116, 101]⟩, .string ⟨#[116, 100]⟩, .string ⟨#[116, 99]⟩, .string ⟨#[116, 98]⟩, .string ⟨#[116, 97]⟩] 9 (0, 0)

/-- That the packages do something is known. -/
def orcB : CallerF := fun f args h => if f = 12 then (match args.toList with | [] => some (.bool true, h) | _ => none) else none

def bestA (L : Value) (u : Nat) : FA := ⟨131, [(4, .slice (some ⟨2, 0, none⟩) u 7), (22, .slice (some ⟨2, 0, none⟩) u 7), (21, .int .i64 u), (20, .pointer (some ⟨1, 0, none⟩)), (19, .slice (some ⟨2, 0, none⟩) 7 7),
  (3, .pointer (some ⟨1, 0, none⟩)), (18, .pointer (some ⟨1, 0, none⟩)), (17, .agg #[L, .int .i64 0]), (16, L), (2, .bool false), (0, L)], []⟩
def bestH (el : TypeId) (xs : Array Value) (L : Value) : FH := ⟨3, [(2, seedRow), (1, .cells #[L, .int .i64 1] 25 (0, 0)), (0, .cells xs el (0, xs.size))]⟩
noncomputable def bestC : Code := tailOf 3 (bodyOf f3)
end Go.Proofs.Tryz
