/-
  works() of layer 20: it is true, and leaves what was there as it was.
-/
import Derived.Test.YtagndjglhlpljaaGreatWorks
import Derived.Test.YtagndjglhlpljaaGreatOk
namespace Go.Proofs.YtagndjglhlpljaaGreat
open Go.Den
open Go.RowKit (Below)
theorem noBlocks_get (i : Nat) (o : AO) (h : noBlocks.get i = some o) : False := by
  have := AH.get_lt h
  simp [noBlocks] at this
theorem noBlocks_rel (w : World) : Rel (fun _ => (0, 0)) noBlocks w :=
  ⟨fun i o hi => (noBlocks_get i o hi).elim, fun i j o o' hi => (noBlocks_get i o hi).elim, fun i hi => by simp [noBlocks] at hi, fun i o hi => (noBlocks_get i o hi).elim⟩
theorem post_none {W : Nat → Bool} {r r' : Nat → Nat × Nat} {H' : AH} {w w' : World} (h : Post W r noBlocks w r' H' w') : Grow w w' :=
  ⟨h.os, h.tape, h.output, h.size, fun b hb => h.keep b hb fun i _ h2 => by simp [noBlocks] at h2⟩
theorem outcome_true {x : Option (A × AH)} (h : outcome x = true) : ∃ H', x = some (.lit (.bool true), H') := by
  unfold outcome at h
  split at h
  · exact ⟨_, rfl⟩
  · cases h
theorem call_none {call : Caller} (hc : CallOk Tryz.prog call) {g : FuncId} {a : A} {H' : AH} (h : call everyId g [] noBlocks = some (a, H')) (w : World) : Calls Tryz.prog g #[] w fun e w' => ∃ r', e = .returned (a.conc r') ∧ Grow w w' :=
  (hc everyId g [] noBlocks a H' h _ w (noBlocks_rel w) rfl).2.mono fun _ _ ⟨r', he, hp⟩ => ⟨r', he, post_none hp⟩
theorem runAll_ok : CallOk Tryz.prog runAll := exCall_ok okP plansOk 3000 60
theorem works (w : World) : Calls Tryz.prog 20 #[] w fun e w' => e = .returned (.bool true) ∧ Grow w w' := by
  obtain ⟨H', hx⟩ := outcome_true worksRun
  refine (call_none runAll_ok hx w).mono ?_
  rintro e w' ⟨r', rfl, hg⟩
  exact ⟨rfl, hg⟩
end Go.Proofs.YtagndjglhlpljaaGreat
