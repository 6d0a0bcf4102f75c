/-
  A verified executor, part 4: operators, new blocks. Own work. It is generic: no program is named.
-/
import Derived.Test.YtagndjglhlpljaaGreatOps2
namespace Go.Den
open Go.RowKit (Below)

section
variable {P : Program}

/-! ### Operators -/
def plainV : Value → Bool
  | .int _ _ => true
  | .bool _ => true
  | .string _ => true
  | _ => false
def litOf : A → Option Value
  | .lit v => some v
  | _ => none
theorem litOf_ok {a : A} {v : Value} (h : litOf a = some v) : a = .lit v := by
  cases a <;> simp only [litOf, Option.some.injEq, reduceCtorEq] at h
  subst h; rfl
def litsOf : List A → Option (List Value)
  | [] => some []
  | a :: l => (match litOf a, litsOf l with
    | some v, some vs => some (v :: vs)
    | _, _ => none)
theorem litsOf_ok {l : List A} : ∀ {vs : List Value}, litsOf l = some vs → ∀ r, concL r l = vs := by
  induction l with
  | nil => intro vs h r; cases h; rfl
  | cons a l ih =>
    intro vs h r
    simp only [litsOf] at h
    split at h
    · rename_i v vs' hv hvs
      cases h
      rw [litOf_ok hv]
      simp only [concL, A.conc, ih hvs r]
    · cases h
def isSpecial : BinOp → Bool
  | .quo => true
  | .rem => true
  | .shl => true
  | .shr => true
  | _ => false
/-- nil, or an address; of the kind of a type -/
def nilA (P : Program) (T : TypeId) : A → Option Bool
  | .ptr _ _ => (match P.underlying T with | some (.pointer _) => some false | _ => none)
  | .lit (.pointer none) => (match P.underlying T with | some (.pointer _) => some true | _ => none)
  | .sl _ _ _ _ => (match P.underlying T with | some (.slice _) => some false | _ => none)
  | .lit (.slice none _ _) => (match P.underlying T with | some (.slice _) => some true | _ => none)
  | .mp _ => (match P.underlying T with | some (.map _ _) => some false | _ => none)
  | .lit (.map none) => (match P.underlying T with | some (.map _ _) => some true | _ => none)
  | _ => none
def aAggEq (P : Program) (T : TypeId) (x y : List A) : Option Bool :=
  match P.underlying T with
  | some (.struct fs) => (match P.stoodInHeld T, P.eqGuardType P.depth T with
    | false, false => (match litsOf x, litsOf y with
      | some xs, some ys => eqCells P xs.toArray ys.toArray fs.toList
      | _, _ => none)
    | _, _ => none)
  | _ => none
def sameKind : A → A → Bool
  | .ptr _ _, .lit (.pointer none) => true
  | .lit (.pointer none), .lit (.pointer none) => true
  | .sl _ _ _ _, .lit (.slice none _ _) => true
  | .lit (.slice none _ _), .lit (.slice none _ _) => true
  | .mp _, .lit (.map none) => true
  | .lit (.map none), .lit (.map none) => true
  | _, _ => false
def aBinV (P : Program) (op : BinOp) (T : TypeId) (xo yo : Operand) (a b : A) : Option A :=
  match a, b with
  | .agg x, .agg y => (match op with
    | .eql => (match aAggEq P T x y with | some t => some (.lit (.bool t)) | none => none)
    | .neq => (match aAggEq P T x y with | some t => some (.lit (.bool !t)) | none => none)
    | _ => none)
  | a, b => (match sameKind a b with
    | true => (match op with
      | .eql => (match nilA P T a with | some t => some (.lit (.bool t)) | none => none)
      | .neq => (match nilA P T a with | some t => some (.lit (.bool !t)) | none => none)
      | _ => none)
    | false => (match litOf a, litOf b with
      | some (.int k x), some (.int k' y) => (match op with
        | .quo => (match ikEq k k' with | true => if y ≠ 0 then some (.lit (.int k (k.wrap (x.tdiv y)))) else none | false => none)
        | .rem => (match ikEq k k' with | true => if y ≠ 0 then some (.lit (.int k (x.tmod y))) else none | false => none)
        | .shl => if 0 ≤ y then some (.lit (.int k (k.wrap (x * 2 ^ (min y.toNat k.bits))))) else none
        | .shr => if 0 ≤ y then some (.lit (.int k (x.fdiv (2 ^ (min y.toNat k.bits))))) else none
        | op => (match evalPure P (do eqGuard op T xo yo (.int k x) (.int k' y); binOp op T (.int k x) (.int k' y)) with | some v => some (.lit v) | none => none))
      | some v, some v' => (match plainV v, isSpecial op with
        | true, false => (match evalPure P (do eqGuard op T xo yo v v'; binOp op T v v') with | some v => some (.lit v) | none => none)
        | _, _ => none)
      | _, _ => none))

theorem binV_plain {op : BinOp} {T : TypeId} {a b : Value} {K : Value → Prop} {other : Prop} (hp : plainV a = true) (hs : isSpecial op = false) (h : other) : binV P op T a b K other := by
  cases a <;> simp only [plainV, Bool.false_eq_true] at hp <;> cases op <;> simp only [isSpecial, Bool.true_eq_false] at hs <;> exact h

theorem aAggEq_ok {T : TypeId} {x y : List A} {t : Bool} (h : aAggEq P T x y = some t) (r : Nat → Nat × Nat) {K : Bool → Prop} (hk : K t) : aggD P T (concL r x).toArray (concL r y).toArray K := by
  unfold aAggEq at h
  unfold aggD
  split at h
  · rename_i fs hu
    rw [hu]
    split at h
    · rename_i h1 h2
      split at h
      · rename_i xs ys hx hy
        simp only [h1, h2, litsOf_ok hx r, litsOf_ok hy r, h]
        exact hk
      · cases h
    · cases h
  · cases h

theorem aNil_ok {op : BinOp} {T : TypeId} {a b : A} {t : Bool} (hs : sameKind a b = true) (h : nilA P T a = some t) (r : Nat → Nat × Nat) {K : Value → Prop} {other : Prop} (hop : (op = .eql ∧ K (.bool t)) ∨ (op = .neq ∧ K (.bool !t))) :
    binV P op T (a.conc r) (b.conc r) K other := by
  unfold sameKind at hs
  split at hs <;> first | (cases hs; done) | skip
  all_goals
    simp only [nilA] at h
    split at h
    · rename_i hu
      cases h
      rcases hop with ⟨rfl, hk⟩ | ⟨rfl, hk⟩ <;> simp only [A.conc, binV, hu, Option.isNone] <;> exact hk
    · cases h

theorem aBinV_ok {op : BinOp} {T : TypeId} {xo yo : Operand} {a b c : A} (h : aBinV P op T xo yo a b = some c) (r : Nat → Nat × Nat) {K : Value → Prop} (hk : K (c.conc r)) {other : Prop}
    (ho : ∀ v, evalPure P (do eqGuard op T xo yo (a.conc r) (b.conc r); binOp op T (a.conc r) (b.conc r)) = some v → K v → other) : binV P op T (a.conc r) (b.conc r) K other := by
  unfold aBinV at h
  split at h
  · split at h
    · split at h
      · rename_i t ht; cases h; exact aAggEq_ok ht r (K := fun t => K (.bool t)) hk
      · cases h
    · split at h
      · rename_i t ht; cases h; exact aAggEq_ok ht r (K := fun t => K (.bool !t)) hk
      · cases h
    · cases h
  · split at h
    · rename_i hs
      split at h
      · split at h
        · rename_i t ht; cases h; exact aNil_ok hs ht r (.inl ⟨rfl, hk⟩)
        · cases h
      · split at h
        · rename_i t ht; cases h; exact aNil_ok hs ht r (.inr ⟨rfl, hk⟩)
        · cases h
      · cases h
    · split at h
      · rename_i k x k' y ha hb
        have ha := litOf_ok ha
        have hb := litOf_ok hb
        subst ha hb
        simp only [A.conc] at ho ⊢
        split at h
        · split at h
          · rename_i hk'
            split at h
            · rename_i hy; cases h; simp only [binV, hk']; exact ⟨hy, hk⟩
            · cases h
          · cases h
        · split at h
          · rename_i hk'
            split at h
            · rename_i hy; cases h; simp only [binV, hk']; exact ⟨hy, hk⟩
            · cases h
          · cases h
        · split at h
          · rename_i hy; cases h; exact ⟨hy, hk⟩
          · cases h
        · split at h
          · rename_i hy; cases h; exact ⟨hy, hk⟩
          · cases h
        · rename_i n1 n2 n3 n4
          split at h
          · rename_i v hv
            cases h
            refine binV_plain rfl ?_ (ho v hv hk)
            cases op <;> first | rfl | exact absurd rfl n1 | exact absurd rfl n2 | exact absurd rfl n3 | exact absurd rfl n4
          · cases h
      · rename_i v v' _ ha hb
        have ha := litOf_ok ha
        have hb := litOf_ok hb
        subst ha hb
        simp only [A.conc] at ho ⊢
        split at h
        · rename_i hp hs
          split at h
          · rename_i u hv
            cases h
            exact binV_plain hp hs (ho u hv hk)
          · cases h
        · cases h
      · cases h

def aBinOp (P : Program) (op : BinOp) (T : TypeId) (xo yo : Operand) (a b : A) : Option A :=
  match yo with
  | .const .nilFunc => (match P.underlying T with
    | some (.func _ _ _) => (match (match a with | .clo _ _ _ => some false | .lit .nilFunc => some true | _ => none) with
      | some t => (match op with
        | .eql => some (.lit (.bool t))
        | .neq => some (.lit (.bool !t))
        | _ => none)
      | none => none)
    | _ => none)
  | _ => aBinV P op T xo yo a b
theorem aBinOp_ok {op : BinOp} {T : TypeId} {xo yo : Operand} {a b c : A} (h : aBinOp P op T xo yo a b = some c) (r : Nat → Nat × Nat) {K : Value → Prop} (hk : K (c.conc r)) {other : Prop}
    (ho : ∀ v, evalPure P (do eqGuard op T xo yo (a.conc r) (b.conc r); binOp op T (a.conc r) (b.conc r)) = some v → K v → other) : nilOr P op T xo yo (a.conc r) K (binV P op T (a.conc r) (b.conc r) K other) := by
  unfold aBinOp at h
  unfold nilOr
  split at h
  · split at h
    · rename_i hu
      simp only [hu]
      split at h
      · rename_i t ht
        have key : isFnV (a.conc r) = true ∧ isNilV (a.conc r) = t := by
          split at ht
          · cases ht; exact ⟨rfl, rfl⟩
          · cases ht; exact ⟨rfl, rfl⟩
          · cases ht
        split at h
        · cases h; exact ⟨key.1, by rw [key.2]; exact hk⟩
        · cases h; exact ⟨key.1, by rw [key.2]; exact hk⟩
        · cases h
      · cases h
    · cases h
  · split
    · rename_i hne; exact absurd rfl hne
    · exact aBinV_ok h r hk ho

/-! ### One operand, plain -/
/-- an operation on plain values, by the model's own word -/
def aPlain (P : Program) (o : Oper) (ρ : Operand → Value) : Option A :=
  match evalPure P (execOp ρ o) with
  | some (.value v) => some (ofV v)
  | _ => none
end
end Go.Den
