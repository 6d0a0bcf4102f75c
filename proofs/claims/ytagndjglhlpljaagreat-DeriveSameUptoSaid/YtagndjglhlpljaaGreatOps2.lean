/-
  A verified executor, part 3: parts, fields, slices, operators: what looks at no memory. Own work. It is generic: no program is named.
-/
import Derived.Test.YtagndjglhlpljaaGreatOps
namespace Go.Den
open Go.RowKit (Below)

section
variable {P : Program}
theorem evalPure_bind {α β : Type} (s : Sem α) (f : α → Sem β) : evalPure P (s >>= f) = (evalPure P s).bind fun a => evalPure P (f a) := by
  show evalPure P (Sem.bind s f) = _
  induction s with
  | pure a => rfl
  | program k ih => exact ih P
  | mark m k ih => exact ih
  | _ => rfl
theorem evalPure_pure {α : Type} (a : α) : evalPure P (pure a : Sem α) = some a := rfl
theorem evalPure_underlying (T : TypeId) : evalPure P (underlying T) = P.underlying T := by
  unfold underlying
  rw [evalPure_bind]
  show evalPure P _ = _
  cases P.underlying T <;> rfl
theorem evalPure_typeInfo (T : TypeId) : evalPure P (typeInfo T) = P.info? T := by
  unfold typeInfo
  rw [evalPure_bind]
  show evalPure P _ = _
  cases P.info? T <;> rfl
theorem evalPure_sizeOf (T : TypeId) : evalPure P (sizeOf T) = (P.info? T).map (·.size) := by
  unfold sizeOf
  rw [evalPure_bind, evalPure_typeInfo]
  cases P.info? T <;> rfl
theorem evalPure_isAgg {T : TypeId} {d : TypeDesc} (h : P.underlying T = some d) : evalPure P (isAgg T) = some (isAggB P T) := by
  unfold isAgg isAggB
  rw [evalPure_bind, evalPure_underlying, h]
  cases d <;> rfl

def sizeP (P : Program) (T : TypeId) : Option Nat := match P.info? T with | some i => some i.size | none => none
theorem sizeP_eq (T : TypeId) : evalPure P (sizeOf T) = sizeP P T := by
  rw [evalPure_sizeOf]; unfold sizeP; cases P.info? T <;> rfl

/-! ### Parts -/
def aPart (P : Program) (T : TypeId) (l : List A) (off : Nat) : Option A :=
  match P.underlying T with
  | some _ => (match isAggB P T with
    | true => (match sizeP P T with
      | some n => some (.agg ((l.take (off + n)).drop off))
      | none => none)
    | false => l[off]?)
  | none => none
theorem aPart_ok {T : TypeId} {l : List A} {off : Nat} {a : A} (h : aPart P T l off = some a) (r : Nat → Nat × Nat) : evalPure P (part T (concL r l).toArray off) = some (a.conc r) := by
  unfold aPart at h
  unfold part
  split at h
  · rename_i d hd
    rw [evalPure_bind, evalPure_isAgg hd]
    split at h
    · rename_i hagg
      rw [hagg]
      split at h
      · rename_i n hn
        cases h
        simp only [Option.bind_some, if_true]
        rw [evalPure_bind, sizeP_eq, hn]
        simp only [Option.bind_some, evalPure_pure, A.conc, Option.some.injEq, Value.agg.injEq]
        apply Array.ext'
        simp [concL_map, Array.toList_extract, List.map_drop, List.map_take, List.extract_eq_take_drop, List.take_drop]
      · cases h
    · rename_i hagg
      rw [hagg]
      have hc : (concL r l)[off]? = some (a.conc r) := by rw [concL_map]; simp [h]
      simp [hc, evalPure_pure]
  · cases h

def aField (P : Program) (T : TypeId) (x : A) (f : Nat) : Option A :=
  match P.underlying T with
  | some (.struct fs) => (match fs[f]? with
    | some fd => (match x with
      | .agg l => aPart P fd.type l fd.offset
      | _ => none)
    | none => none)
  | _ => none
theorem aField_ok {T : TypeId} {x a : A} {f : Nat} (h : aField P T x f = some a) (r : Nat → Nat × Nat) : evalPure P (Instr.field T (x.conc r) f) = some (a.conc r) := by
  unfold aField at h
  unfold Instr.field
  split at h
  · rename_i fs hu
    rw [evalPure_bind, evalPure_underlying, hu]
    simp only [Option.bind_some]
    split at h
    · rename_i fd hf
      rw [hf]
      split at h
      · simp only [A.conc]
        rw [evalPure_bind]
        exact aPart_ok h r
      · cases h
    · cases h
  · cases h

def aFieldAddr (P : Program) (T : TypeId) (x : A) (f : Nat) : Option A :=
  match P.underlying T with
  | some (.struct fs) => (match fs[f]? with
    | some fd => (match sizeP P fd.type with
      | some (_ + 1) => (match x with
        | .ptr b off => some (.ptr b (off + fd.offset))
        | _ => none)
      | _ => none)
    | none => none)
  | _ => none
theorem aFieldAddr_ok {T : TypeId} {x a : A} {f : Nat} (h : aFieldAddr P T x f = some a) (r : Nat → Nat × Nat) : evalPure P (Instr.fieldAt T (x.conc r) f) = some (a.conc r) := by
  unfold aFieldAddr at h
  unfold Instr.fieldAt
  split at h
  · rename_i fs hu
    rw [evalPure_bind, evalPure_underlying, hu]
    simp only [Option.bind_some]
    split at h
    · rename_i fd hf
      rw [hf]
      split at h
      · rename_i n hn
        split at h
        · cases h
          simp only [A.conc, Instr.sureAddr]
          rw [evalPure_bind]
          simp only [evalPure_pure, Option.bind_some]
          rw [evalPure_bind]
          unfold fieldPlace
          rw [evalPure_bind, sizeP_eq, hn]
          simp [evalPure_pure, Addr.add_mk]
        · cases h
      · cases h
    · cases h
  · cases h

def aExtract (x : A) (i : Nat) : Option A := match x with | .tup l => l[i]? | _ => none
theorem aExtract_ok {x a : A} {i : Nat} (h : aExtract x i = some a) (r : Nat → Nat × Nat) : evalPure P (Instr.extract (x.conc r) i) = some (a.conc r) := by
  unfold aExtract at h
  split at h
  · rename_i l
    have hc : (concL r l)[i]? = some (a.conc r) := by rw [concL_map]; simp [h]
    simp [A.conc, Instr.extract, hc, evalPure_pure]
  · cases h

/-! ### Slices -/
def aBound (m : Nat) : A → Option Nat
  | .lit (.int _ j) => if 0 ≤ j ∧ j ≤ m then some j.toNat else none
  | _ => none
/-- so many elements from here on are known to lie in the block -/
def roomAt (H : AH) (b off k size h : Nat) : Bool :=
  match H.get b with
  | some (.cells l _ (some sz)) => decide (sz = size ∧ 0 < size ∧ off = k * size ∧ off + h * size ≤ l.length)
  | _ => false
theorem roomAt_ok {r : Nat → Nat × Nat} {H : AH} {w : World} (hR : Rel r H w) {b off k size h : Nat} (hr : roomAt H b off k size h = true) : k + h ≤ (r b).2 := by
  unfold roomAt at hr
  split at hr
  · rename_i l T sz hg
    obtain ⟨rfl, h0, h1, h2⟩ := of_decide_eq_true hr
    obtain ⟨ob, _, rest, _, hlen⟩ := hR.at_ _ _ hg
    have h3 : l.length ≤ (concL r l ++ rest).length := by simp [concL_map]
    rw [hlen] at h3
    subst h1
    have h4 : (k + h) * sz ≤ (r b).2 * sz := by rw [Nat.add_mul]; omega
    exact Nat.le_of_mul_le_mul_right h4 h0
  · cases hr
/-- a slice that has an address: s[lo:hi], within its length -/
def aCut (H : AH) (size : Nat) (x : A) (lo hi : Option A) : Option A :=
  match x with
  | .sl b off n c => (match (match hi with | none => some n | some h => aBound n h) with
    | some h => (match (match lo with | none => some 0 | some l => aBound h l) with
      | some l => (match c with
        | .known c => if n ≤ c then some (.sl b (if c = l then off else off + l * size) (h - l) (.known (c - l))) else none
        | .less k => if roomAt H b off k size n = true ∧ (l = 0 ∨ l < h) then some (.sl b (off + l * size) (h - l) (.less (k + l))) else none)
      | none => none)
    | none => none)
  | _ => none
theorem aCut_ok {r : Nat → Nat × Nat} {H : AH} {w : World} (hR : Rel r H w) {size : Nat} {x a : A} {lo hi : Option A} (h : aCut H size x lo hi = some a) {K : Value → Prop} (hk : K (a.conc r)) :
    ∃ ad n c, x.conc r = .slice ad n c ∧ sliceD (hi.map (A.conc r)) (lo.map (A.conc r)) n c fun l h => K (.slice (slA ad l c size) (h - l) (c - l)) := by
  unfold aCut at h
  have bnd : ∀ (m : Nat) (x : A) (j : Nat), aBound m x = some j → ∃ (k : IntKind) (y : Int), x = .lit (.int k y) ∧ 0 ≤ y ∧ y ≤ m ∧ y.toNat = j := fun m x j hx => by
    unfold aBound at hx
    split at hx
    · split at hx
      · rename_i hy; cases hx; exact ⟨_, _, rfl, hy.1, hy.2, rfl⟩
      · cases hx
    · cases hx
  split at h
  · rename_i b off n cp
    refine ⟨_, _, _, rfl, ?_⟩
    split at h
    · rename_i h1 hh
      split at h
      · rename_i l hl
        have fin : n ≤ cp.conc (r b).2 ∧ K (.slice (slA (some ⟨(r b).1, off, none⟩) l (cp.conc (r b).2) size) (h1 - l) (cp.conc (r b).2 - l)) := by
          split at h
          · rename_i c
            split at h
            · rename_i hle
              cases h
              refine ⟨hle, ?_⟩
              simp only [A.conc, Cp.conc] at hk ⊢
              unfold slA
              by_cases hcl : c = l
              · rw [if_pos hcl]; rw [if_pos hcl] at hk; exact hk
              · rw [if_neg hcl]; rw [if_neg hcl] at hk; simp only [Option.map_some, Addr.add_mk]; exact hk
            · cases h
          · rename_i k
            split at h
            · rename_i hc
              cases h
              have hroom := roomAt_ok hR hc.1
              have hn : n ≤ (r b).2 - k := by omega
              refine ⟨hn, ?_⟩
              simp only [A.conc, Cp.conc, Nat.sub_add_eq] at hk ⊢
              unfold slA
              have hle : h1 ≤ n := by
                cases hi with
                | none => cases hh; exact Nat.le_refl _
                | some hi => obtain ⟨_, y, _, _, h4, h5⟩ := bnd _ _ _ hh; omega
              by_cases hcl : (r b).2 - k = l
              · rw [if_pos hcl]
                have hl0 : l = 0 := by omega
                subst hl0
                simpa using hk
              · rw [if_neg hcl]; simp only [Option.map_some, Addr.add_mk]; exact hk
            · cases h
        obtain ⟨hn, fin⟩ := fin
        cases hi with
        | none =>
          cases hh
          cases lo with
          | none => cases hl; exact fin
          | some lo =>
            obtain ⟨k, y, rfl, h3, h4, h5⟩ := bnd _ _ _ hl
            simp only [Option.map_none, Option.map_some, A.conc, sliceD]
            exact ⟨h3, h4, by rw [h5]; exact fin⟩
        | some hi =>
          obtain ⟨k', y', rfl, g3, g4, g5⟩ := bnd _ _ _ hh
          cases lo with
          | none =>
            cases hl
            simp only [Option.map_none, Option.map_some, A.conc, sliceD]
            exact ⟨g3, by omega, by rw [g5]; exact fin⟩
          | some lo =>
            obtain ⟨k, y, rfl, h3, h4, h5⟩ := bnd _ _ _ hl
            simp only [Option.map_some, A.conc, sliceD]
            exact ⟨g3, by omega, h3, by omega, by rw [h5, g5]; exact fin⟩
      · cases h
    · cases h
  · cases h
end
end Go.Den
