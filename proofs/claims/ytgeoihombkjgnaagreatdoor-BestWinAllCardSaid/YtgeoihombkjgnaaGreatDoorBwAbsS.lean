/-
The abstract heap: a call that is closed, in whatever heap.
-/
import Derived.Test.YtgeoihombkjgnaaGreatDoorBwAbsQ
namespace Go.Abs
open Go
variable {P : Program} {Γ : Gl} {ρ : Ren} {α β : Type}

theorem Sim.empty (w : World) : Sim P (fun _ => none) #[] w := ⟨(fun _ _ h => by cases h), (fun _ h => by cases h), (fun _ _ _ _ h => by cases h)⟩

/-- A call that begins with nothing and hands back no address leaves all as it was. -/
theorem ACall.closed {f : FuncId} {args : Array Value} {Q : Value → Prop} (hf : args.all flat = true) (hc : ACall P Γ f args #[] fun v _ => Q v ∧ flat v = true) (h : H) : ACall P Γ f args h fun v h1 => Q v ∧ h1 = h := by
  intro ρ0 h0 w0 hG ρ args' w hl hs ha
  have hargs : args' = args := by
    apply Array.ext
    · exact ha.1.symm
    · intro j h1 h2
      exact flat_eq (Array.all_eq_true.1 hf j h2) (ha.2 j _ _ (Array.getElem?_eq_getElem h2) (Array.getElem?_eq_getElem h1))
  subst hargs
  have hG2 : Glob Γ (fun _ => none) w := fun g ob hg => ⟨(hG.later hl g ob hg).1, fun _ _ h => by cases h⟩
  have hr : RRel P (fun _ => none) args' args' := ⟨rfl, fun j u u' hu hu' => by
    rw [hu] at hu'; cases hu'
    obtain ⟨hlt, rfl⟩ := Array.getElem?_eq_some_iff.1 hu
    exact flat_rel (Array.all_eq_true.1 hf j hlt)⟩
  refine (hc _ #[] w hG2 _ args' w (.refl _ _ _) (Sim.empty w) hr).mono ?_
  rintro e w1 ⟨v', rfl, ρ1, v, h1, ⟨hq, hfl⟩, g2, g3, g4⟩
  have hb : ∀ b, b < w.heap.size → w1.heap[b]? = w.heap[b]? := fun b hb => g2.frame b hb fun _ _ h => by cases h
  have hsim : Sim P ρ h w1 := ⟨fun i B hB => by
    obtain ⟨o, o', q1, q2, q3⟩ := hs.live i B hB
    exact ⟨o, o', q1, (hb _ (Array.getElem?_eq_some_iff.1 q2).1).trans q2, q3⟩, hs.dead, hs.one⟩
  have hlat : Later ρ h w ρ h w1 :=
    ⟨.refl ρ, Nat.le_refl _, g2.wsize, g2.os, g2.tape, g2.output, fun i _ hn => ⟨hn, rfl⟩, fun b hlt _ => hb b hlt, fun i B hB => .inl hB⟩
  exact ⟨v', rfl, ρ, v, h, ⟨hq, rfl⟩, hl.trans hlat, hsim, by rw [flat_eq hfl g4]; exact flat_rel hfl⟩

/-- What a run by counting tells of a closed call. -/
theorem ACall.ofRun {γ : Known} (hγ : KnownOk P Γ γ) {orc : Caller} (hm : P.follows .mixedOrders = true) (ho : Callable P Γ orc) {n : Nat} {f : FuncId} {args : Array Value} {v : Value} (hf : args.all flat = true)
    (hr : (match evCall P γ orc n f args #[] with | some (u, _) => sameV u v && flat u | none => false) = true) (h : H) (hy : f < YB := by decide) : ACall P Γ f args h fun u h1 => u = v ∧ h1 = h := by
  split at hr
  · rename_i u h1 he
    rw [Bool.and_eq_true] at hr
    exact ACall.closed hf (((evCall_sound hγ hm ho n _ _ _ _ _ he).1 hy).mono fun x k ⟨e1, _⟩ => by subst e1; exact ⟨sameV_eq _ _ hr.1, hr.2⟩) h
  · cases hr

theorem Callable.none : Callable P Γ fun _ _ _ => none := fun _ _ _ _ _ h => by cases h

end Go.Abs
