/-
  works() of layer 20, carried out by the verified executor in the kernel: it is true.
-/
import Derived.Test.YtagndjglhlpljaaGreatPlans
namespace Go.Proofs.YtagndjglhlpljaaGreat
open Go.Den
noncomputable def runAll : Caller := exCall Tryz.prog (findF annL) okF 3000 60
def noBlocks : AH := ⟨0, .e⟩
def everyId (_ : Nat) : Bool := true
noncomputable def outcome (x : Option (A × AH)) : Bool := match x with | some (.lit (.bool true), _) => true | _ => false
theorem worksRun : outcome (runAll everyId 20 [] noBlocks) = true := by kernel_rfl
end Go.Proofs.YtagndjglhlpljaaGreat
