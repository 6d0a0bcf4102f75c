/-
  A verified executor, part 5: values put together, new blocks. Own work. It is generic: no program is named.
-/
import Derived.Test.YtagndjglhlpljaaGreatOps3
namespace Go.Den
open Go.RowKit (Below)

/-! ### Cells -/
def aCells : A → Option (List A)
  | .agg l => some l
  | .lit (.agg _) => none
  | a => some [a]
theorem aCells_ok {a : A} {l : List A} (h : aCells a = some l) (r : Nat → Nat × Nat) : (a.conc r).cells = (concL r l).toArray := by
  unfold aCells at h
  split at h
  · cases h; rfl
  · cases h
  · rename_i n1 n2
    cases h
    cases a with
    | lit v => cases v <;> first | rfl | exact absurd rfl (n2 _)
    | agg l => exact absurd rfl (n1 l)
    | _ => rfl
theorem aCells_wf {n : Nat} {a : A} {l : List A} (h : aCells a = some l) (hw : a.wf n = true) : wfL n l = true := by
  unfold aCells at h
  split at h
  · cases h; exact hw
  · cases h
  · cases h; exact wfL_cons.2 ⟨hw, rfl⟩
def splice (l : List A) (off : Nat) (cs : List A) : List A := l.take off ++ cs ++ l.drop (off + cs.length)

theorem fold_set (off : Nat) : ∀ (cs : List Value) (k : Nat) (X : List Value), off + k + cs.length ≤ X.length →
    (cs.zipIdx k).foldl (fun (Y : Array Value) p => Y.setIfInBounds (off + p.2) p.1) X.toArray = (X.take (off + k) ++ cs ++ X.drop (off + k + cs.length)).toArray := by
  intro cs
  induction cs with
  | nil => intro k X h; simp
  | cons c cs ih =>
    intro k X h
    simp only [List.length_cons] at h
    simp only [List.zipIdx_cons, List.foldl_cons, List.setIfInBounds_toArray]
    rw [ih (k + 1) (X.set (off + k) c) (by simp; omega)]
    congr 1
    have h1 : (X.set (off + k) c).take (off + (k + 1)) = X.take (off + k) ++ [c] := by
      rw [show off + (k + 1) = (off + k) + 1 by omega, List.take_add_one, List.take_set_of_le (by omega)]
      congr 1
      rw [List.getElem?_set_self (by omega)]; rfl
    have h2 : (X.set (off + k) c).drop (off + (k + 1) + cs.length) = X.drop (off + k + (c :: cs).length) := by
      rw [List.drop_set_of_lt (by omega)]
      congr 1
      simp only [List.length_cons]; omega
    rw [h1, h2]
    simp

def aFill (place : Nat → Option (Nat × Nat)) (l : List A) : List (Nat × A) → Option (List A)
  | [] => some l
  | (i, a) :: rest => (match place i, aCells a with
    | some (off, size), some cs => if cs.length = size ∧ off + cs.length ≤ l.length then aFill place (splice l off cs) rest else none
    | _, _ => none)
def concP (r : Nat → Nat × Nat) : List (Nat × A) → List (Nat × Value)
  | [] => []
  | (i, a) :: l => (i, a.conc r) :: concP r l
theorem aFill_ok (r : Nat → Nat × Nat) {place : Nat → Option (Nat × Nat)} : ∀ {ps : List (Nat × A)} {l l' : List A}, aFill place l ps = some l' → Instr.fill place (concL r l).toArray (concP r ps) = some (concL r l').toArray := by
  intro ps
  induction ps with
  | nil => intro l l' h; cases h; rfl
  | cons p ps ih =>
    intro l l' h
    obtain ⟨i, a⟩ := p
    simp only [aFill] at h
    split at h
    · rename_i off size cs hp hcs
      split at h
      · rename_i hc
        have hv := aCells_ok hcs r
        have hlen : (concL r cs).length = cs.length := by simp [concL_map]
        have hlen' : (concL r l).length = l.length := by simp [concL_map]
        simp only [concP, Instr.fill, hp, hv]
        rw [if_neg (by simp [hlen, hlen']; exact ⟨hc.1, by omega⟩)]
        have hs : concL r (splice l off cs) = (concL r l).take (off + 0) ++ concL r cs ++ (concL r l).drop (off + 0 + (concL r cs).length) := by
          simp [splice, concL_map, List.map_take, List.map_drop]
        have hf := fold_set off (concL r cs) 0 (concL r l) (by rw [hlen, hlen']; omega)
        rw [← hs] at hf
        rw [← Array.foldl_toList, Array.toList_zipIdx]
        rw [hf]
        exact ih h
      · cases h
    · cases h

section
variable {P : Program}
def aZero (P : Program) (T : TypeId) : Option Value := match P.info? T with | some i => i.zero | none => none
theorem evalPure_zeroValue (T : TypeId) : evalPure P (zeroValue T) = aZero P T := by
  unfold zeroValue aZero
  rw [evalPure_bind, evalPure_typeInfo]
  cases P.info? T with
  | none => rfl
  | some i =>
    simp only [Option.bind_some]
    cases i.zero <;> rfl
def places (P : Program) : List Field → Option (List (Nat × Nat))
  | [] => some []
  | f :: fs => (match sizeP P f.type, places P fs with
    | some n, some l => some ((f.offset, n) :: l)
    | _, _ => none)
theorem places_ok : ∀ {fs : List Field} {l : List (Nat × Nat)}, places P fs = some l → evalPure P (fs.mapM (m := Sem) fun f => do pure (f.offset, ← sizeOf f.type)) = some l := by
  intro fs
  induction fs with
  | nil => intro l h; cases h; rfl
  | cons f fs ih =>
    intro l h
    simp only [places] at h
    split at h
    · rename_i n l' hn hl
      cases h
      rw [List.mapM_cons, evalPure_bind, evalPure_bind, sizeP_eq, hn]
      simp only [Option.bind_some, evalPure_pure]
      rw [evalPure_bind, ih hl]
      rfl
    · cases h
def aBuild (P : Program) (T : TypeId) (ps : List (Nat × A)) : Option A :=
  match aZero P T with
  | some z => (match P.underlying T with
    | some (.struct fs) => (match places P fs.toList with
      | some pl => (match aFill (fun i => pl[i]?) (litL z.cells.toList) ps with
        | some l => some (.agg l)
        | none => none)
      | none => none)
    | some (.array _ e) => (match sizeP P e with
      | some n => (match aFill (fun i => some (i * n, n)) (litL z.cells.toList) ps with
        | some l => some (.agg l)
        | none => none)
      | none => none)
    | _ => none)
  | none => none
theorem aBuild_ok {T : TypeId} {ps : List (Nat × A)} {a : A} (h : aBuild P T ps = some a) (r : Nat → Nat × Nat) : evalPure P (Instr.build T (concP r ps).toArray) = some (a.conc r) := by
  unfold aBuild at h
  unfold Instr.build
  split at h
  · rename_i z hz
    rw [evalPure_bind, evalPure_zeroValue, hz]
    simp only [Option.bind_some]
    rw [evalPure_bind, evalPure_underlying]
    have hl : (concL r (litL z.cells.toList)).toArray = z.cells := by rw [concL_lit]
    split at h
    · rename_i fs hu
      rw [hu]
      simp only [Option.bind_some]
      split at h
      · rename_i pl hpl
        split at h
        · rename_i l hf
          cases h
          have := aFill_ok r hf
          rw [hl] at this
          rw [evalPure_bind, Array.mapM_eq_mapM_toList]
          have hmap : ∀ s : Sem (List (Nat × Nat)), evalPure P s = some pl → evalPure P (List.toArray <$> s) = some pl.toArray := fun s hs => by
            rw [map_eq_pure_bind, evalPure_bind, hs]; rfl
          rw [hmap _ (places_ok hpl)]
          simp only [Option.bind_some]
          rw [show (fun x => pl.toArray[x]?) = fun i => pl[i]? from by funext i; simp]
          rw [this]
          rfl
        · cases h
      · cases h
    · rename_i len e hu
      rw [hu]
      simp only [Option.bind_some]
      split at h
      · rename_i n hn
        split at h
        · rename_i l hf
          cases h
          have := aFill_ok r hf
          rw [hl] at this
          rw [evalPure_bind, sizeP_eq, hn]
          simp only [Option.bind_some]
          rw [this]
          rfl
        · cases h
      · cases h
    · cases h
  · cases h

/-! ### New blocks -/
def aevP (E : AEnv) : List (Nat × Operand) → Option (List (Nat × A))
  | [] => some []
  | (i, x) :: l => (match aev E x, aevP E l with
    | some a, some as => some ((i, a) :: as)
    | _, _ => none)
theorem aevP_ok {E : AEnv} (r : Nat → Nat × Nat) : ∀ {l : List (Nat × Operand)} {as : List (Nat × A)}, aevP E l = some as → l.map (fun p => (p.1, ev (concE r E) p.2)) = concP r as := by
  intro l
  induction l with
  | nil => intro as h; cases h; rfl
  | cons p l ih =>
    intro as h
    obtain ⟨i, x⟩ := p
    simp only [aevP] at h
    split at h
    · rename_i a as' ha has
      cases h
      simp only [List.map_cons, concP, (aev_ok ha r).2, ih has]
    · cases h
def aLits (size n : Nat) (z : Array Value) (ps : List (Nat × A)) : Option (List A) :=
  aFill (fun i => some (i * size, size)) (litL ((Array.range (n * size)).map (z[· % z.size]!)).toList) ps
theorem aLits_ok {size n : Nat} {z : Array Value} {ps : List (Nat × A)} {l : List A} (h : aLits size n z ps = some l) (r : Nat → Nat × Nat) : litCells size n z (concP r ps) = some (concL r l).toArray := by
  unfold aLits at h
  have := aFill_ok r h
  rw [concL_lit] at this
  exact this
/-- the block, and what leads to it at number n -/
def aAl (P : Program) (E : AEnv) (op : Op) (n : Nat) : Option (AO × A) :=
  match op with
  | .alloc T => (match P.info? T with
    | some i => (match i.zero with
      | some z => some (.cells (litL z.cells.toList) T none, .ptr n 0)
      | none => none)
    | none => none)
  | .box T x => (match aev E x with
    | some a => (match aCells a with
      | some l => some (.cells l T none, .ptr n 0)
      | none => none)
    | none => none)
  | .makeMap _ none => some (.map #[] 0, .mp n)
  | .makeSlice T l c => (match P.underlying T with
    | some (.slice e) => (match P.info? e with
      | some i => (match i.zero with
        | some z => (match aev E l, aev E c with
          | some (.lit (.int _ x)), some (.lit (.int _ y)) => if mkOk i.bytes x y then some (.cells (litL (madeCells z.cells (y.toNat * i.size)).toList) e none, .sl n 0 x.toNat (.known y.toNat)) else none
          | _, _ => none)
        | none => none)
      | none => none)
    | _ => none)
  | .buildSlice T m ps => (match P.underlying T with
    | some (.slice e) => (match P.info? e with
      | some i => (match i.zero with
        | some z => (match Nat.ble (m * i.size) 16777216, Nat.beq (m * i.size) 0 with
          | true, false => (match aevP E ps.toList with
            | some aps => (match aLits i.size m z.cells aps with
              | some l => some (.cells l e none, .sl n 0 m (.known m))
              | none => none)
            | none => none)
          | true, true => (match ps.toList with
            | [] => some (.cells [] e none, .sl n 0 m (.known m))
            | _ :: _ => none)
          | _, _ => none)
        | none => none)
      | none => none)
    | _ => none)
  | _ => none
theorem aAl_ok {E : AEnv} {op : Op} {n : Nat} {o : AO} {a : A} (h : aAl P E op n = some (o, a)) (r : Nat → Nat × Nat) :
    ∃ ob ptr, alF P (ev (concE r E)) op = some (ob, ptr) ∧ (∀ m, o.lies r m ob) ∧ ∀ k m, ptr k = a.conc (upd r n (k, m)) := by
  have hn : ∀ k m, upd r n (k, m) n = (k, m) := fun k m => upd_new r n (k, m)
  unfold aAl at h
  split at h
  · split at h
    · rename_i i hi
      split at h
      · rename_i z hz
        cases h
        refine ⟨_, _, by simp only [alF, hi, hz]; rfl, fun m => ?_, fun k m => ?_⟩
        · simp only [AO.lies, concL_lit]
        · simp only [A.conc, hn]; rfl
      · cases h
    · cases h
  · split at h
    · rename_i a' ha
      split at h
      · rename_i l hl
        cases h
        refine ⟨_, _, by simp only [alF]; rfl, fun m => ?_, fun k m => ?_⟩
        · simp only [AO.lies, (aev_ok ha r).2, aCells_ok hl r]
        · simp only [A.conc, hn]; rfl
      · cases h
    · cases h
  · cases h
    exact ⟨_, _, rfl, fun m => rfl, fun k m => by simp only [A.conc, hn]⟩
  · split at h
    · rename_i e he
      split at h
      · rename_i i hi
        split at h
        · rename_i z hz
          split at h
          · rename_i k1 x k2 y hx hy
            split at h
            · rename_i hok
              cases h
              refine ⟨_, _, by simp only [alF, he, hi, hz, (aev_ok hx r).2, (aev_ok hy r).2, A.conc]; rw [if_pos hok], fun m => ?_, fun k m => ?_⟩
              · simp only [AO.lies, concL_lit]
              · simp only [A.conc, hn, Cp.conc]
            · cases h
          · cases h
        · cases h
      · cases h
    · cases h
  · split at h
    · rename_i e he
      split at h
      · rename_i i hi
        split at h
        · rename_i z hz
          split at h
          · rename_i h1 h2
            split at h
            · rename_i aps haps
              split at h
              · rename_i l hl
                cases h
                refine ⟨_, _, by simp only [alF, he, hi, hz, h1, h2, aevP_ok r haps, aLits_ok hl r]; rfl, fun m => ?_, fun k m => ?_⟩
                · simp only [AO.lies]
                · simp only [A.conc, hn, Cp.conc]
              · cases h
            · cases h
          · rename_i h1 h2
            split at h
            · rename_i hps
              cases h
              refine ⟨_, _, by simp only [alF, he, hi, hz, h1, h2, hps]; rfl, fun m => ?_, fun k m => ?_⟩
              · simp only [AO.lies]; rfl
              · simp only [A.conc, hn, Cp.conc]
            · cases h
          · cases h
        · cases h
      · cases h
    · cases h
  · cases h
end
end Go.Den
