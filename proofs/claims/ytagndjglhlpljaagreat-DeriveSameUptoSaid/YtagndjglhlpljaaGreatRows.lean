/-
  No cell of these rows narrows 'for every input' (looked for: loops, veiled, ifaces, maps, wideKeys, modest, calm, conditions, laid).
  DERIVED. THE GIVEN ROWS OF THIS SEAT. 10 by the template 'for every input the law returns true; each argument reads behind the call as it read before'; 0 by the template 'total and deterministic' (their statements: YtagndjglhlpljaaGreatTotals.lean).
  GIVEN WITH THE SEED: the statements are not yours to turn. If you find one false, say at which input.
  Laid BY PROGRAM, IN A SANDBOX (cutbox-rows.mjs): the forced cells as the released guide's own fill.sh prints them over the translation 71761b2c2e2d9915… (all of the seat's roots in one cut). By AI agents, Wed Nov 11 2026. No macro, syntax, notation, axiom, sorry.
-/
import Derived.Test.YtagndjglhlpljaaGreatChecked
import GoSem.Claim
import GoSem.ClaimJoined
import GoSem.ClaimMapViews
import Derived.JoinedTies
import Derived.KernelRfl
namespace Go.Proofs.YtagndjglhlpljaaGreat
/- THE CELL 'sum', in the pinned program and in every row, IS THE sha256 OF THE DUMP (.gsa) THAT YtagndjglhlpljaaGreatProg.lean LOADS. Nothing in Lean hashes anything: it is a label: what it is worth is what the hold of that sum in a sandbox is worth. -/
noncomputable def Tryz.pinned : Pinned := { name := "ytagndjglhlpljaagreat", sum := "71761b2c2e2d9915e934508a4421270be4308fcc19c074a473ca7a2e5b204172", checked := Tryz.checked }
namespace Rows
def none {H : Type} : Left H := { results := [], args := [] }

/-- 'lexpriorlaw20.DeriveTells': WHATEVER THE INPUT: true; the input reads as it did. -/
def deriveTellsSpec : ChangeSpec := { name := "deriveTells", fn := fun _ => fun
  | [d1, d2, d3, d4] => { results := [.lit (.bool true)], args := [d1, d2, d3, d4] }
  | _ => none }
def deriveTellsRow : OpenClaim := { program := "ytagndjglhlpljaagreat", sum := "71761b2c2e2d9915e934508a4421270be4308fcc19c074a473ca7a2e5b204172", func := "lexprior/lexpriorlaw20.DeriveTells", spec := "deriveTells", unfollowed := true, recurses := true, plainKeys := false, apart := false }
def DeriveTellsSaid : Prop := deriveTellsRow.holds Tryz.pinned (OpenSpec.ofChange deriveTellsSpec)

/-- ITS FALSE NEIGHBOUR: 'it returns false'. Refute it at one input. -/
def deriveTellsWrong : ChangeSpec := { name := "deriveTells", fn := fun _ => fun
  | [d1, d2, d3, d4] => { results := [.lit (.bool false)], args := [d1, d2, d3, d4] }
  | _ => none }
def DeriveTellsWrongFalsely : Prop := deriveTellsRow.holds Tryz.pinned (OpenSpec.ofChange deriveTellsWrong)

/-- 'lexpriorlaw20.DeriveAll': WHATEVER THE INPUT: true; the input reads as it did. -/
def deriveAllSpec : ChangeSpec := { name := "deriveAll", fn := fun _ => fun
  | [d1, d2] => { results := [.lit (.bool true)], args := [d1, d2] }
  | _ => none }
def deriveAllRow : OpenClaim := { program := "ytagndjglhlpljaagreat", sum := "71761b2c2e2d9915e934508a4421270be4308fcc19c074a473ca7a2e5b204172", func := "lexprior/lexpriorlaw20.DeriveAll", spec := "deriveAll", unfollowed := true, recurses := true, plainKeys := false, apart := false }
def DeriveAllSaid : Prop := deriveAllRow.holds Tryz.pinned (OpenSpec.ofChange deriveAllSpec)

/-- ITS FALSE NEIGHBOUR: 'it returns false'. Refute it at one input. -/
def deriveAllWrong : ChangeSpec := { name := "deriveAll", fn := fun _ => fun
  | [d1, d2] => { results := [.lit (.bool false)], args := [d1, d2] }
  | _ => none }
def DeriveAllWrongFalsely : Prop := deriveAllRow.holds Tryz.pinned (OpenSpec.ofChange deriveAllWrong)

/-- 'lexpriorlaw20.DeriveChecks': WHATEVER THE INPUT: true; the input reads as it did. -/
def deriveChecksSpec : ChangeSpec := { name := "deriveChecks", fn := fun _ => fun
  | [d1, d2, d3] => { results := [.lit (.bool true)], args := [d1, d2, d3] }
  | _ => none }
def deriveChecksRow : OpenClaim := { program := "ytagndjglhlpljaagreat", sum := "71761b2c2e2d9915e934508a4421270be4308fcc19c074a473ca7a2e5b204172", func := "lexprior/lexpriorlaw20.DeriveChecks", spec := "deriveChecks", unfollowed := true, recurses := true, plainKeys := false, apart := false }
def DeriveChecksSaid : Prop := deriveChecksRow.holds Tryz.pinned (OpenSpec.ofChange deriveChecksSpec)

/-- ITS FALSE NEIGHBOUR: 'it returns false'. Refute it at one input. -/
def deriveChecksWrong : ChangeSpec := { name := "deriveChecks", fn := fun _ => fun
  | [d1, d2, d3] => { results := [.lit (.bool false)], args := [d1, d2, d3] }
  | _ => none }
def DeriveChecksWrongFalsely : Prop := deriveChecksRow.holds Tryz.pinned (OpenSpec.ofChange deriveChecksWrong)

/-- 'lexpriorlaw20.DeriveLean': WHATEVER THE INPUT: true; the input reads as it did. -/
def deriveLeanSpec : ChangeSpec := { name := "deriveLean", fn := fun _ => fun
  | [d1, d2, d3] => { results := [.lit (.bool true)], args := [d1, d2, d3] }
  | _ => none }
def deriveLeanRow : OpenClaim := { program := "ytagndjglhlpljaagreat", sum := "71761b2c2e2d9915e934508a4421270be4308fcc19c074a473ca7a2e5b204172", func := "lexprior/lexpriorlaw20.DeriveLean", spec := "deriveLean", unfollowed := true, recurses := true, plainKeys := false, apart := false }
def DeriveLeanSaid : Prop := deriveLeanRow.holds Tryz.pinned (OpenSpec.ofChange deriveLeanSpec)

/-- ITS FALSE NEIGHBOUR: 'it returns false'. Refute it at one input. -/
def deriveLeanWrong : ChangeSpec := { name := "deriveLean", fn := fun _ => fun
  | [d1, d2, d3] => { results := [.lit (.bool false)], args := [d1, d2, d3] }
  | _ => none }
def DeriveLeanWrongFalsely : Prop := deriveLeanRow.holds Tryz.pinned (OpenSpec.ofChange deriveLeanWrong)

/-- 'lexpriorlaw20.DeriveSame': WHATEVER THE INPUT: true; the input reads as it did. -/
def deriveSameSpec : ChangeSpec := { name := "deriveSame", fn := fun _ => fun
  | [d1, d2] => { results := [.lit (.bool true)], args := [d1, d2] }
  | _ => none }
def deriveSameRow : OpenClaim := { program := "ytagndjglhlpljaagreat", sum := "71761b2c2e2d9915e934508a4421270be4308fcc19c074a473ca7a2e5b204172", func := "lexprior/lexpriorlaw20.DeriveSame", spec := "deriveSame", unfollowed := true, recurses := true, plainKeys := false, apart := false }
def DeriveSameSaid : Prop := deriveSameRow.holds Tryz.pinned (OpenSpec.ofChange deriveSameSpec)

/-- ITS FALSE NEIGHBOUR: 'it returns false'. Refute it at one input. -/
def deriveSameWrong : ChangeSpec := { name := "deriveSame", fn := fun _ => fun
  | [d1, d2] => { results := [.lit (.bool false)], args := [d1, d2] }
  | _ => none }
def DeriveSameWrongFalsely : Prop := deriveSameRow.holds Tryz.pinned (OpenSpec.ofChange deriveSameWrong)

/-- 'lexpriorlaw20.DeriveBegins': WHATEVER THE INPUT: true; the input reads as it did. -/
def deriveBeginsSpec : ChangeSpec := { name := "deriveBegins", fn := fun _ => fun
  | [d1, d2, d3, d4] => { results := [.lit (.bool true)], args := [d1, d2, d3, d4] }
  | _ => none }
def deriveBeginsRow : OpenClaim := { program := "ytagndjglhlpljaagreat", sum := "71761b2c2e2d9915e934508a4421270be4308fcc19c074a473ca7a2e5b204172", func := "lexprior/lexpriorlaw20.DeriveBegins", spec := "deriveBegins", unfollowed := true, recurses := true, plainKeys := false, apart := false }
def DeriveBeginsSaid : Prop := deriveBeginsRow.holds Tryz.pinned (OpenSpec.ofChange deriveBeginsSpec)

/-- ITS FALSE NEIGHBOUR: 'it returns false'. Refute it at one input. -/
def deriveBeginsWrong : ChangeSpec := { name := "deriveBegins", fn := fun _ => fun
  | [d1, d2, d3, d4] => { results := [.lit (.bool false)], args := [d1, d2, d3, d4] }
  | _ => none }
def DeriveBeginsWrongFalsely : Prop := deriveBeginsRow.holds Tryz.pinned (OpenSpec.ofChange deriveBeginsWrong)

/-- 'lexpriorlaw20.DeriveOwn': WHATEVER THE INPUT: true; the input reads as it did. -/
def deriveOwnSpec : ChangeSpec := { name := "deriveOwn", fn := fun _ => fun
  | [d1, d2, d3, d4, d5] => { results := [.lit (.bool true)], args := [d1, d2, d3, d4, d5] }
  | _ => none }
def deriveOwnRow : OpenClaim := { program := "ytagndjglhlpljaagreat", sum := "71761b2c2e2d9915e934508a4421270be4308fcc19c074a473ca7a2e5b204172", func := "lexprior/lexpriorlaw20.DeriveOwn", spec := "deriveOwn", unfollowed := true, recurses := true, plainKeys := false, apart := false }
def DeriveOwnSaid : Prop := deriveOwnRow.holds Tryz.pinned (OpenSpec.ofChange deriveOwnSpec)

/-- ITS FALSE NEIGHBOUR: 'it returns false'. Refute it at one input. -/
def deriveOwnWrong : ChangeSpec := { name := "deriveOwn", fn := fun _ => fun
  | [d1, d2, d3, d4, d5] => { results := [.lit (.bool false)], args := [d1, d2, d3, d4, d5] }
  | _ => none }
def DeriveOwnWrongFalsely : Prop := deriveOwnRow.holds Tryz.pinned (OpenSpec.ofChange deriveOwnWrong)

/-- 'lexpriorlaw20.DeriveFollows': WHATEVER THE INPUT: true; the input reads as it did. -/
def deriveFollowsSpec : ChangeSpec := { name := "deriveFollows", fn := fun _ => fun
  | [d1, d2, d3, d4] => { results := [.lit (.bool true)], args := [d1, d2, d3, d4] }
  | _ => none }
def deriveFollowsRow : OpenClaim := { program := "ytagndjglhlpljaagreat", sum := "71761b2c2e2d9915e934508a4421270be4308fcc19c074a473ca7a2e5b204172", func := "lexprior/lexpriorlaw20.DeriveFollows", spec := "deriveFollows", unfollowed := true, recurses := true, plainKeys := false, apart := false }
def DeriveFollowsSaid : Prop := deriveFollowsRow.holds Tryz.pinned (OpenSpec.ofChange deriveFollowsSpec)

/-- ITS FALSE NEIGHBOUR: 'it returns false'. Refute it at one input. -/
def deriveFollowsWrong : ChangeSpec := { name := "deriveFollows", fn := fun _ => fun
  | [d1, d2, d3, d4] => { results := [.lit (.bool false)], args := [d1, d2, d3, d4] }
  | _ => none }
def DeriveFollowsWrongFalsely : Prop := deriveFollowsRow.holds Tryz.pinned (OpenSpec.ofChange deriveFollowsWrong)

/-- 'lexpriorlaw20.DeriveJust': WHATEVER THE INPUT: true; the input reads as it did. -/
def deriveJustSpec : ChangeSpec := { name := "deriveJust", fn := fun _ => fun
  | [d1, d2, d3, d4] => { results := [.lit (.bool true)], args := [d1, d2, d3, d4] }
  | _ => none }
def deriveJustRow : OpenClaim := { program := "ytagndjglhlpljaagreat", sum := "71761b2c2e2d9915e934508a4421270be4308fcc19c074a473ca7a2e5b204172", func := "lexprior/lexpriorlaw20.DeriveJust", spec := "deriveJust", unfollowed := true, recurses := true, plainKeys := false, apart := false }
def DeriveJustSaid : Prop := deriveJustRow.holds Tryz.pinned (OpenSpec.ofChange deriveJustSpec)

/-- ITS FALSE NEIGHBOUR: 'it returns false'. Refute it at one input. -/
def deriveJustWrong : ChangeSpec := { name := "deriveJust", fn := fun _ => fun
  | [d1, d2, d3, d4] => { results := [.lit (.bool false)], args := [d1, d2, d3, d4] }
  | _ => none }
def DeriveJustWrongFalsely : Prop := deriveJustRow.holds Tryz.pinned (OpenSpec.ofChange deriveJustWrong)

/-- 'lexpriorlaw20.DeriveSound': WHATEVER THE INPUT: true; the input reads as it did. -/
def deriveSoundSpec : ChangeSpec := { name := "deriveSound", fn := fun _ => fun
  | [d1, d2, d3] => { results := [.lit (.bool true)], args := [d1, d2, d3] }
  | _ => none }
def deriveSoundRow : OpenClaim := { program := "ytagndjglhlpljaagreat", sum := "71761b2c2e2d9915e934508a4421270be4308fcc19c074a473ca7a2e5b204172", func := "lexprior/lexpriorlaw20.DeriveSound", spec := "deriveSound", unfollowed := true, recurses := true, plainKeys := false, apart := false }
def DeriveSoundSaid : Prop := deriveSoundRow.holds Tryz.pinned (OpenSpec.ofChange deriveSoundSpec)

/-- ITS FALSE NEIGHBOUR: 'it returns false'. Refute it at one input. -/
def deriveSoundWrong : ChangeSpec := { name := "deriveSound", fn := fun _ => fun
  | [d1, d2, d3] => { results := [.lit (.bool false)], args := [d1, d2, d3] }
  | _ => none }
def DeriveSoundWrongFalsely : Prop := deriveSoundRow.holds Tryz.pinned (OpenSpec.ofChange deriveSoundWrong)

/- THE SECOND FORM. 'bulk': how many values and letters a reading holds, each counted each time it is reached (what is shared counts as often as it is met; a slice's spare places count too). A statement '..UptoSaid' is the law's where the arguments, and the package variables that the reading takes, are together of bulk at most 1048576: NARROWER than '..Said'. Prove '..Said' where nothing that the law and all that it calls make is longer than what came in: it says more and counts as full. Else prove '..UptoSaid'. A law counts once. -/
mutual
def uptoBulk {H : Type} : DataW H → Nat
  | .lit (.string bytes) => bytes.length + 1
  | .lit _ => 1
  | .nil => 1
  | .ptr d => uptoBulk d + 1
  | .slice elems spare => uptoBulkAll elems + uptoBulkAll spare + 1
  | .agg parts => uptoBulkAll parts + 1
  | .iface _ d => uptoBulk d + 1
  | .map entries => uptoBulkEntries entries + 1
  | .held _ => 1
def uptoBulkAll {H : Type} : List (DataW H) → Nat
  | [] => 0
  | d :: r => uptoBulk d + uptoBulkAll r
def uptoBulkEntries {H : Type} : List (Lit × DataW H) → Nat
  | [] => 0
  | x :: r => uptoBulkEntry x + uptoBulkEntries r
def uptoBulkEntry {H : Type} : Lit × DataW H → Nat
  | (.string bytes, d) => bytes.length + uptoBulk d + 1
  | (_, d) => uptoBulk d + 1
 end
def uptoSmall : (H : Type) → List (DataW H) → Bool := fun _ ds => decide (uptoBulkAll ds ≤ 1048576)
def OpenSpec.upto (s : _root_.Go.ChangeSpec) : _root_.Go.OpenSpec := { _root_.Go.OpenSpec.ofChange s with cond := some uptoSmall }

/-- 'lexpriorlaw20.DeriveTells', WHERE WHAT IT READS IS OF BULK AT MOST 1048576: true; the input reads as it did. -/
def deriveTellsUptoRow : OpenClaim := { program := "ytagndjglhlpljaagreat", sum := "71761b2c2e2d9915e934508a4421270be4308fcc19c074a473ca7a2e5b204172", func := "lexprior/lexpriorlaw20.DeriveTells", spec := "deriveTells", unfollowed := true, recurses := true, plainKeys := false, apart := false, narrowed := true }
def DeriveTellsUptoSaid : Prop := deriveTellsUptoRow.holds Tryz.pinned (OpenSpec.upto deriveTellsSpec)

/-- 'lexpriorlaw20.DeriveAll', WHERE WHAT IT READS IS OF BULK AT MOST 1048576: true; the input reads as it did. -/
def deriveAllUptoRow : OpenClaim := { program := "ytagndjglhlpljaagreat", sum := "71761b2c2e2d9915e934508a4421270be4308fcc19c074a473ca7a2e5b204172", func := "lexprior/lexpriorlaw20.DeriveAll", spec := "deriveAll", unfollowed := true, recurses := true, plainKeys := false, apart := false, narrowed := true }
def DeriveAllUptoSaid : Prop := deriveAllUptoRow.holds Tryz.pinned (OpenSpec.upto deriveAllSpec)

/-- 'lexpriorlaw20.DeriveChecks', WHERE WHAT IT READS IS OF BULK AT MOST 1048576: true; the input reads as it did. -/
def deriveChecksUptoRow : OpenClaim := { program := "ytagndjglhlpljaagreat", sum := "71761b2c2e2d9915e934508a4421270be4308fcc19c074a473ca7a2e5b204172", func := "lexprior/lexpriorlaw20.DeriveChecks", spec := "deriveChecks", unfollowed := true, recurses := true, plainKeys := false, apart := false, narrowed := true }
def DeriveChecksUptoSaid : Prop := deriveChecksUptoRow.holds Tryz.pinned (OpenSpec.upto deriveChecksSpec)

/-- 'lexpriorlaw20.DeriveLean', WHERE WHAT IT READS IS OF BULK AT MOST 1048576: true; the input reads as it did. -/
def deriveLeanUptoRow : OpenClaim := { program := "ytagndjglhlpljaagreat", sum := "71761b2c2e2d9915e934508a4421270be4308fcc19c074a473ca7a2e5b204172", func := "lexprior/lexpriorlaw20.DeriveLean", spec := "deriveLean", unfollowed := true, recurses := true, plainKeys := false, apart := false, narrowed := true }
def DeriveLeanUptoSaid : Prop := deriveLeanUptoRow.holds Tryz.pinned (OpenSpec.upto deriveLeanSpec)

/-- 'lexpriorlaw20.DeriveSame', WHERE WHAT IT READS IS OF BULK AT MOST 1048576: true; the input reads as it did. -/
def deriveSameUptoRow : OpenClaim := { program := "ytagndjglhlpljaagreat", sum := "71761b2c2e2d9915e934508a4421270be4308fcc19c074a473ca7a2e5b204172", func := "lexprior/lexpriorlaw20.DeriveSame", spec := "deriveSame", unfollowed := true, recurses := true, plainKeys := false, apart := false, narrowed := true }
def DeriveSameUptoSaid : Prop := deriveSameUptoRow.holds Tryz.pinned (OpenSpec.upto deriveSameSpec)

/-- 'lexpriorlaw20.DeriveBegins', WHERE WHAT IT READS IS OF BULK AT MOST 1048576: true; the input reads as it did. -/
def deriveBeginsUptoRow : OpenClaim := { program := "ytagndjglhlpljaagreat", sum := "71761b2c2e2d9915e934508a4421270be4308fcc19c074a473ca7a2e5b204172", func := "lexprior/lexpriorlaw20.DeriveBegins", spec := "deriveBegins", unfollowed := true, recurses := true, plainKeys := false, apart := false, narrowed := true }
def DeriveBeginsUptoSaid : Prop := deriveBeginsUptoRow.holds Tryz.pinned (OpenSpec.upto deriveBeginsSpec)

/-- 'lexpriorlaw20.DeriveOwn', WHERE WHAT IT READS IS OF BULK AT MOST 1048576: true; the input reads as it did. -/
def deriveOwnUptoRow : OpenClaim := { program := "ytagndjglhlpljaagreat", sum := "71761b2c2e2d9915e934508a4421270be4308fcc19c074a473ca7a2e5b204172", func := "lexprior/lexpriorlaw20.DeriveOwn", spec := "deriveOwn", unfollowed := true, recurses := true, plainKeys := false, apart := false, narrowed := true }
def DeriveOwnUptoSaid : Prop := deriveOwnUptoRow.holds Tryz.pinned (OpenSpec.upto deriveOwnSpec)

/-- 'lexpriorlaw20.DeriveFollows', WHERE WHAT IT READS IS OF BULK AT MOST 1048576: true; the input reads as it did. -/
def deriveFollowsUptoRow : OpenClaim := { program := "ytagndjglhlpljaagreat", sum := "71761b2c2e2d9915e934508a4421270be4308fcc19c074a473ca7a2e5b204172", func := "lexprior/lexpriorlaw20.DeriveFollows", spec := "deriveFollows", unfollowed := true, recurses := true, plainKeys := false, apart := false, narrowed := true }
def DeriveFollowsUptoSaid : Prop := deriveFollowsUptoRow.holds Tryz.pinned (OpenSpec.upto deriveFollowsSpec)

/-- 'lexpriorlaw20.DeriveJust', WHERE WHAT IT READS IS OF BULK AT MOST 1048576: true; the input reads as it did. -/
def deriveJustUptoRow : OpenClaim := { program := "ytagndjglhlpljaagreat", sum := "71761b2c2e2d9915e934508a4421270be4308fcc19c074a473ca7a2e5b204172", func := "lexprior/lexpriorlaw20.DeriveJust", spec := "deriveJust", unfollowed := true, recurses := true, plainKeys := false, apart := false, narrowed := true }
def DeriveJustUptoSaid : Prop := deriveJustUptoRow.holds Tryz.pinned (OpenSpec.upto deriveJustSpec)

/-- 'lexpriorlaw20.DeriveSound', WHERE WHAT IT READS IS OF BULK AT MOST 1048576: true; the input reads as it did. -/
def deriveSoundUptoRow : OpenClaim := { program := "ytagndjglhlpljaagreat", sum := "71761b2c2e2d9915e934508a4421270be4308fcc19c074a473ca7a2e5b204172", func := "lexprior/lexpriorlaw20.DeriveSound", spec := "deriveSound", unfollowed := true, recurses := true, plainKeys := false, apart := false, narrowed := true }
def DeriveSoundUptoSaid : Prop := deriveSoundUptoRow.holds Tryz.pinned (OpenSpec.upto deriveSoundSpec)

end Rows
end Go.Proofs.YtagndjglhlpljaaGreat
