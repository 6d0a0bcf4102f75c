/-
  The two facts that the denotation asks of the program.
-/
import Derived.Test.YtagndjglhlpljaaGreatProg
import Derived.Test.YtagndjglhlpljaaGreatSem
namespace Go.Proofs.YtagndjglhlpljaaGreat
open Go Go.Den
def allNamed : List Func → Bool
  | [] => true
  | f :: r => match f.name == "runtime.NumGoroutine" with
    | true => false
    | false => allNamed r
theorem allNamed_mem {l : List Func} (h : allNamed l = true) : ∀ f ∈ l, (f.name == "runtime.NumGoroutine") = false := by
  induction l with
  | nil => simp
  | cons g l ih =>
    unfold allNamed at h
    split at h
    · cases h
    · intro f hf
      rcases List.mem_cons.1 hf with rfl | hf
      · assumption
      · exact ih h f hf
theorem named : allNamed Tryz.prog.funcs.toList = true := by kernel_rfl
theorem okP : OkP Tryz.prog := ⟨fun g fn h => allNamed_mem named fn (by
  have := Array.mem_of_getElem? h
  simpa using this), by kernel_rfl⟩
end Go.Proofs.YtagndjglhlpljaaGreat
