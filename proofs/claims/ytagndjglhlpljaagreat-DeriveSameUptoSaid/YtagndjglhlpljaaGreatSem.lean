/-
  Short words for what a denotation asks, the places of loops in a function's code, and the rule of a loop. Own work. It is generic: no program is named.
-/
import Derived.Test.YtagndjglhlpljaaGreatDen
namespace Go.Den
open Go.RowKit (Below)

def bodyOf (f : Func) : Code := match f.body with | some c => c | none => .skip

abbrev ldI (k : IntKind) (w : World) (ad : Addr) (K : Int → Prop) : Prop := ∃ x : Int, w.cell? ad = some (.int k x) ∧ K x
abbrev ldB (w : World) (ad : Addr) (K : Bool → Prop) : Prop := ∃ x : Bool, w.cell? ad = some (.bool x) ∧ K x
abbrev ldT (w : World) (ad : Addr) (K : ByteArray → Prop) : Prop := ∃ x : ByteArray, w.cell? ad = some (.string x) ∧ K x
abbrev ldS (w : World) (ad : Addr) (K : Sl → Prop) : Prop := ∃ s : Sl, w.cell? ad = some (.slice s.a s.n s.c) ∧ K s
abbrev ldP (w : World) (ad : Addr) (K : Option Addr → Prop) : Prop := ∃ p : Option Addr, w.cell? ad = some (.pointer p) ∧ K p
abbrev ldM (w : World) (ad : Addr) (K : Option Nat → Prop) : Prop := ∃ r : Option Nat, w.cell? ad = some (.map r) ∧ K r
abbrev ldF (w : World) (ad : Addr) (K : FV → Prop) : Prop := ∃ f : FV, w.cell? ad = some f.val ∧ K f

/-- the place number i of a slice or an array -/
abbrev ix (a : Option Addr) (n : Nat) (i : Int) (size : Nat) (K : Addr → Prop) : Prop := 0 ≤ i ∧ i < n ∧ getSome a fun ad => K (ad.add (i.toNat * size))

/-- a new block -/
abbrev nw (o : Obj) (w : World) (K : Nat → World → Prop) : Prop := K w.heap.size (w.alloc o)

/-- the round of the loop that stands at a place of the code -/
def stepAt (P : Program) (N : Nat) (ann : Nat → List Nat) : Code → List Nat → Nat → List (List Value → World → Prop) → (Exit → Env → World → Prop) → (List Value → World → Prop) → List Value → World → Prop
  | .seq x y, 0 :: p, b, recs, Q => stepAt P N ann x p b recs (thenD (fun E' w' => den P N ann y b Q E' w') Q)
  | .seq _ y, 1 :: p, b, recs, Q => stepAt P N ann y p b recs Q
  | .cond _ x _, 0 :: p, b, recs, Q => stepAt P N ann x p b recs Q
  | .cond _ _ y, 1 :: p, b, recs, Q => stepAt P N ann y p b recs Q
  | .block id c, 0 :: p, _, recs, Q => stepAt P N ann c p id recs (blockD id Q)
  | .loop c, 0 :: p, b, rec :: recs, Q => stepAt P N ann c p b recs (roundD (ann b) rec Q)
  | .loop c, [], b, _, Q => fun rec vs' w' => den P N ann c b (roundD (ann b) rec Q) (zipE (ann b) vs') w'
  | _, _, _, _, _ => fun _ _ _ => False

end Go.Den
