/-
  A verified executor, part 8: one operation. Own work. It is generic: no program is named.
-/
import Derived.Test.YtagndjglhlpljaaGreatOps6
namespace Go.Den
open Go.RowKit (Below)

section
variable {P : Program}

/-! ### What the model's own word says of plain values -/
def litEv (E : AEnv) (x : Operand) : Value := match aev E x with | some (.lit v) => v | _ => undef
def isLitOp (E : AEnv) (x : Operand) : Bool := match aev E x with | some (.lit _) => true | _ => false
theorem isLitOp_ok {E : AEnv} {x : Operand} (h : isLitOp E x = true) (r : Nat → Nat × Nat) : ev (concE r E) x = litEv E x := by
  unfold isLitOp at h
  unfold litEv
  split at h
  · rename_i v hv; rw [(aev_ok hv r).2]; rfl
  · cases h

/-- operations that fall to 'evalPure' in the denotation -/
def aPure (P : Program) (o : Oper) (E : AEnv) : Option A :=
  match o.op with
  | .pick c x y => (match aev E c, aev E x, aev E y with
    | some (.lit (.bool true)), some a, some _ => some a
    | some (.lit (.bool false)), some _, some a => some a
    | _, _, _ => none)
  | .unOp _ _ x => (match isLitOp E x with | true => aPlain P o (litEv E) | false => none)
  | .convert _ _ x => (match isLitOp E x with | true => aPlain P o (litEv E) | false => none)
  | .field T x f => (match aev E x with | some a => aField P T a f | none => none)
  | .fieldAddr T x f => (match aev E x with | some a => aFieldAddr P T a f | none => none)
  | .extract x i => (match aev E x with | some a => aExtract a i | none => none)
  | .build T ps => (match aevP E ps.toList with | some aps => aBuild P T aps | none => none)
  | _ => none
def isPure : Op → Bool
  | .pick _ _ _ => true
  | .unOp _ _ _ => true
  | .convert _ _ _ => true
  | .field _ _ _ => true
  | .fieldAddr _ _ _ => true
  | .extract _ _ => true
  | .build _ _ => true
  | _ => false
theorem evalV {s : Sem Value} {v : Value} (h : evalPure P s = some v) : evalPure P (do pure (Next.value (← s))) = some (.value v) := by
  rw [evalPure_bind, h]; rfl
theorem aPlain_ok {o : Oper} {ρ ρ' : Operand → Value} {a : A} (h : aPlain P o ρ = some a) (he : execOp ρ' o = execOp ρ o) (r : Nat → Nat × Nat) : evalPure P (execOp ρ' o) = some (.value (a.conc r)) := by
  unfold aPlain at h
  rw [he]
  split at h
  · rename_i v hv; cases h; rw [hv, ofV_conc]
  · cases h
theorem aPure_ok {o : Oper} {E : AEnv} {a : A} (h : aPure P o E = some a) (r : Nat → Nat × Nat) : evalPure P (execOp (ev (concE r E)) o) = some (.value (a.conc r)) := by
  obtain ⟨dst, op, type, pos, after, guard⟩ := o
  cases op <;> simp only [aPure, reduceCtorEq] at h
  case pick c x y =>
    split at h
    · rename_i hc hx hy; cases h; simp [execOp, (aev_ok hc r).2, (aev_ok hx r).2, A.conc, asBool, evalPure_pure]
    · rename_i hc hx hy; cases h; simp [execOp, (aev_ok hc r).2, (aev_ok hy r).2, A.conc, asBool, evalPure_pure]
    · cases h
  case unOp u T x =>
    split at h
    · rename_i hx; exact aPlain_ok h (by simp only [execOp, isLitOp_ok hx r]) r
    · cases h
  case convert s d x =>
    split at h
    · rename_i hx; exact aPlain_ok h (by simp only [execOp, isLitOp_ok hx r]) r
    · cases h
  case field T x f =>
    split at h
    · rename_i a' ha; simp only [execOp, (aev_ok ha r).2]; exact evalV (aField_ok h r)
    · cases h
  case fieldAddr T x f =>
    split at h
    · rename_i a' ha; simp only [execOp, (aev_ok ha r).2]; exact evalV (aFieldAddr_ok h r)
    · cases h
  case extract x i =>
    split at h
    · rename_i a' ha; simp only [execOp, (aev_ok ha r).2]; exact evalV (aExtract_ok h r)
    · cases h
  case build T ps =>
    split at h
    · rename_i aps ha
      simp only [execOp]
      rw [show (ps.map fun (i, x) => (i, ev (concE r E) x)) = (concP r aps).toArray by rw [← aevP_ok r ha]; apply Array.ext'; simp]
      exact evalV (aBuild_ok h r)
    · cases h

/-! ### What looks at no memory -/
def aevO (E : AEnv) : Option Operand → Option (Option A)
  | none => some none
  | some x => (match aev E x with | some a => some (some a) | none => none)
theorem aevO_ok {E : AEnv} {x : Option Operand} {a : Option A} (h : aevO E x = some a) (r : Nat → Nat × Nat) : evO (concE r E) x = a.map (A.conc r) := by
  cases x with
  | none => cases h; rfl
  | some x =>
    simp only [aevO] at h
    split at h
    · rename_i a' ha; cases h; simp only [evO, (aev_ok ha r).2, Option.map_some]
    · cases h
/-- a part of an array, by a number that is known -/
def aIndex (P : Program) (T : TypeId) (x i : A) : Option A :=
  match P.underlying T with
  | some (.array len e) => (match P.underlying e with
    | some _ => (match x, i with
      | .agg l, .lit (.int _ j) => if 0 ≤ j ∧ j < len then aPart P e l (j.toNat * P.cellsOf e) else none
      | _, _ => none)
    | none => none)
  | some .string => (match x, i with
    | .lit (.string s), .lit (.int _ j) => if 0 ≤ j then (match s[j.toNat]? with | some b => some (.lit (.int .u8 b.toNat)) | none => none) else none
    | _, _ => none)
  | _ => none
theorem casesJ_mk {j : Int} {f : Nat → Prop} : ∀ (n i : Nat), (∀ m, i ≤ m → m < i + n → j = (m : Int) → f m) → casesJ j f i n := by
  intro n
  induction n with
  | zero => intro i _; trivial
  | succ n ih => exact fun i h => ⟨fun hj => h i (Nat.le_refl _) (by omega) hj, ih (i + 1) fun m h1 h2 hj => h m (by omega) (by omega) hj⟩
theorem aIndex_ok {T : TypeId} {x i a : A} (h : aIndex P T x i = some a) (r : Nat → Nat × Nat) {K : Value → Prop} (hk : K (a.conc r)) : indexD P T (x.conc r) (i.conc r) K := by
  unfold aIndex at h
  unfold indexD
  split at h
  · rename_i len e hu
    rw [hu]
    split at h
    · rename_i d hd
      simp only [hd]
      split at h
      · rename_i l k j
        split at h
        · rename_i hj
          simp only [A.conc]
          refine ⟨hj.1, hj.2, casesJ_mk _ _ fun m _ _ hm => ?_⟩
          subst hm
          have := aPart_ok h r
          unfold partD
          simp only [Int.toNat_natCast] at this
          rw [this]
          exact hk
        · cases h
      · cases h
    · cases h
  · rename_i hu
    rw [hu]
    split at h
    · rename_i s k j
      split at h
      · rename_i hj
        split at h
        · rename_i b hb
          cases h
          exact ⟨hj, b, hb, hk⟩
        · cases h
      · cases h
    · cases h
  · cases h

def aLen (P : Program) (T : TypeId) (a : A) : Option A :=
  match P.underlying T with
  | some (.slice _) => (match a with
    | .sl _ _ n _ => some (.lit (.int .i64 n))
    | .lit (.slice _ n _) => some (.lit (.int .i64 n))
    | _ => none)
  | some .string => (match a with
    | .lit (.string s) => some (.lit (.int .i64 s.size))
    | _ => none)
  | _ => none
theorem aLen_ok {T : TypeId} {x a : A} (h : aLen P T x = some a) (r : Nat → Nat × Nat) {K : Value → Prop} (hk : K (a.conc r)) {other : Prop} : lenD P T (x.conc r) K other := by
  unfold aLen at h
  unfold lenD
  split at h
  · rename_i hu
    rw [hu]
    split at h <;> first | (cases h; exact hk) | cases h
  · rename_i hu
    rw [hu]
    split at h <;> first | (cases h; exact hk) | cases h
  · cases h

def aQ (P : Program) (o : Oper) (E : AEnv) (H : AH) : Option A :=
  match o.op with
  | .move x => aev E x
  | .assign x => aev E x
  | .nilCheck x => (match aev E x with | some (.ptr b off) => some (.ptr b off) | _ => none)
  | .indexAddr T x i => (match aev E x, aev E i with | some a, some j => aIx P T a j | _, _ => none)
  | .index T x i => (match aev E x, aev E i with | some a, some j => aIndex P T a j | _, _ => none)
  | .slice T x lo hi none => (match P.underlying T with
    | some (.slice e) => (match P.underlying e, aev E x, aevO E lo, aevO E hi with
      | some _, some a, some l, some h => aCut H (P.cellsOf e) a l h
      | _, _, _, _ => none)
    | _ => none)
  | .makeFunc fn first captured => (match aevL E first.toList, aevL E captured.toList with
    | some f, some c => some (.clo fn f c)
    | _, _ => none)
  | .binOp op T x y _ => (match aev E x, aev E y with | some a, some b => aBinOp P op T x y a b | _, _ => none)
  | .call c => (match c.callee with
    | .builtin .len => (match c.argTypes.toList, c.args.toList with
      | [T], [x] => (match aev E x with | some a => aLen P T a | none => none)
      | _, _ => none)
    | _ => none)
  | _ => aPure P o E

theorem sliceD_mono {hi lo : Option Value} {n c : Nat} {K K' : Nat → Nat → Prop} (hk : ∀ l h, K l h → K' l h) (h : sliceD hi lo n c K) : sliceD hi lo n c K' := by
  unfold sliceD at *
  split at h <;> first | exact hk _ _ h | exact ⟨h.1, h.2.1, hk _ _ h.2.2⟩ | exact ⟨h.1, h.2.1, h.2.2.1, h.2.2.2.1, hk _ _ h.2.2.2.2⟩ | exact h.elim

set_option maxHeartbeats 1000000 in
theorem aQ_quiet {o : Oper} {E : AEnv} {H : AH} {a : A} (h : aQ P o E H = some a) {as : List A} (hall : aevL E o.op.operands.toList = some as) {r : Nat → Nat × Nat} {w : World} (hR : Rel r H w) {K : Value → Prop} (hk : K (a.conc r)) (rr : Rd P) :
    quietC P o (concE r E) K rr := by
  have hkn := (aevL_ok (r := r) hall).1
  unfold quietC
  rw [hkn]
  obtain ⟨dst, op, type, pos, after, guard⟩ := o
  have pure (h : aPure P ⟨dst, op, type, pos, after, guard⟩ E = some a) : match evalPure P (execOp (ev (concE r E)) ⟨dst, op, type, pos, after, guard⟩) with | some (.value v) => K v | some .skip => K undef | _ => False := by
    rw [aPure_ok h r]; exact hk
  cases op <;> simp only [aQ] at h
  case move x => simp only [(aev_ok h r).2]; exact hk
  case assign x => simp only [(aev_ok h r).2]; exact hk
  case nilCheck x =>
    split at h
    · rename_i b off hx; cases h; simp only [(aev_ok hx r).2, A.conc, getSome]; exact hk
    · cases h
  case indexAddr T x i =>
    split at h
    · rename_i a' j hx hi; simp only [(aev_ok hx r).2, (aev_ok hi r).2]; exact aIx_ok h r hk
    · cases h
  case index T x i =>
    split at h
    · rename_i a' j hx hi; simp only [(aev_ok hx r).2, (aev_ok hi r).2]; exact aIndex_ok h r hk
    · cases h
  case slice T x lo hi mx =>
    cases mx with
    | some m => cases h
    | none =>
      simp only [aQ] at h
      split at h
      · rename_i e hu
        split at h
        · rename_i d a' l hh hd hx hl hhi
          obtain ⟨ad, n, c, h1, h2⟩ := aCut_ok hR h hk
          simp only [hu, hd, (aev_ok hx r).2, h1, aevO_ok hl r, aevO_ok hhi r]
          exact h2
        · cases h
      · cases h
  case makeFunc fn first captured =>
    split at h
    · rename_i f c hf hc
      cases h
      simp only [(aevL_ok (r := r) hf).2, (aevL_ok (r := r) hc).2]
      exact hk
    · cases h
  case binOp op T x y u =>
    split at h
    · rename_i a' b hx hy
      simp only [(aev_ok hx r).2, (aev_ok hy r).2]
      refine aBinOp_ok h r hk fun v hv hkv => ?_
      have : evalPure P (execOp (ev (concE r E)) ⟨dst, .binOp op T x y u, type, pos, after, guard⟩) = some (.value v) := by
        simp only [execOp, (aev_ok hx r).2, (aev_ok hy r).2]
        exact evalV hv
      rw [this]
      exact hkv
    · cases h
  case call c =>
    obtain ⟨callee, args, ats⟩ := c
    split at h
    · rename_i hc
      dsimp only at hc
      subst hc
      split at h
      · rename_i T x hT hx
        split at h
        · rename_i a' ha
          dsimp only at hT hx ⊢
          rw [hT, hx]
          simp only [(aev_ok ha r).2]
          exact aLen_ok h r hk
        · cases h
      · cases h
    · cases h
  all_goals first | exact pure h | (simp only [aPure, reduceCtorEq] at h)
set_option maxHeartbeats 1000000 in
theorem aQ_den {o : Oper} {E : AEnv} {H : AH} {a : A} (h : aQ P o E H = some a) {as : List A} (hall : aevL E o.op.operands.toList = some as) {r : Nat → Nat × Nat} {w : World} (hR : Rel r H w) {pan : List PanicEntry → World → Prop} {K : Value → World → Prop} (hk : K (a.conc r) w) :
    denOp P o (concE r E) pan K w := by
  have hkn := (aevL_ok (r := r) hall).1
  unfold denOp
  rw [hkn]
  obtain ⟨dst, op, type, pos, after, guard⟩ := o
  have pure (h : aPure P ⟨dst, op, type, pos, after, guard⟩ E = some a) : match evalPure P (execOp (ev (concE r E)) ⟨dst, op, type, pos, after, guard⟩) with | some (.value v) => K v w | some .skip => K undef w | _ => False := by
    rw [aPure_ok h r]; exact hk
  cases op <;> simp only [aQ] at h
  case move x => simp only [(aev_ok h r).2]; exact hk
  case assign x => simp only [(aev_ok h r).2]; exact hk
  case nilCheck x =>
    split at h
    · rename_i b off hx; cases h; simp only [(aev_ok hx r).2, A.conc, getSome]; exact hk
    · cases h
  case indexAddr T x i =>
    split at h
    · rename_i a' j hx hi; simp only [(aev_ok hx r).2, (aev_ok hi r).2]; exact aIx_ok h r (K := fun v => K v w) hk
    · cases h
  case index T x i =>
    split at h
    · rename_i a' j hx hi; simp only [(aev_ok hx r).2, (aev_ok hi r).2]; exact aIndex_ok h r (K := fun v => K v w) hk
    · cases h
  case slice T x lo hi mx =>
    cases mx with
    | some m => cases h
    | none =>
      simp only [aQ] at h
      split at h
      · rename_i e hu
        split at h
        · rename_i d a' l hh hd hx hl hhi
          obtain ⟨ad, n, c, h1, h2⟩ := aCut_ok hR h (K := fun v => K v w) hk
          simp only [hu, hd, (aev_ok hx r).2, h1, aevO_ok hl r, aevO_ok hhi r]
          exact h2
        · cases h
      · cases h
  case makeFunc fn first captured =>
    split at h
    · rename_i f c hf hc
      cases h
      simp only [(aevL_ok (r := r) hf).2, (aevL_ok (r := r) hc).2]
      exact hk
    · cases h
  case binOp op T x y u =>
    split at h
    · rename_i a' b hx hy
      simp only [(aev_ok hx r).2, (aev_ok hy r).2]
      exact aBinOp_ok h r (K := fun v => K v w) hk fun v hv hkv => semV_mk (evalPure_run _ hv w) hkv
    · cases h
  case call c =>
    obtain ⟨callee, args, ats⟩ := c
    split at h
    · rename_i hc
      dsimp only at hc
      subst hc
      split at h
      · rename_i T x hT hx
        split at h
        · rename_i a' ha
          dsimp only at hT hx ⊢
          rw [hT, hx]
          simp only [(aev_ok ha r).2]
          exact aLen_ok h r (K := fun v => K v w) hk
        · cases h
      · cases h
    · cases h
  all_goals first | exact pure h | (simp only [aPure, reduceCtorEq] at h)
end
end Go.Den
