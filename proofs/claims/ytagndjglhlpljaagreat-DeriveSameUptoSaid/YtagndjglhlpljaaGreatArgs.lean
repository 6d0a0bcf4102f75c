/-
  What comes in as an argument reads as data of one's own. Own work. It is generic: no program is named.
-/
import Derived.Test.YtagndjglhlpljaaGreatRead
import Derived.Test.YtagndjglhlpljaaGreatRows
import Derived.WalkKit
import Derived.ProofKit
import Derived.OpenShut
import Derived.ShutString
import Derived.ChangeOld
import Derived.Below
import Derived.Deep.Slices
namespace Go.Den
open Go.RowKit (Below)
open Go.ChangeShapes Go.WideShapes Go.ChangeAt

open Go.Proofs.YtagndjglhlpljaaGreat (Rows.uptoBulk Rows.uptoBulkAll)
theorem bulk_one {H : Type} (d : DataW H) : 1 ≤ Rows.uptoBulk d := by
  cases d with
  | lit l => cases l <;> simp [Rows.uptoBulk]
  | _ => simp [Rows.uptoBulk]
theorem bulk_part {H : Type} {d : DataW H} {l : List (DataW H)} (h : d ∈ l) : Rows.uptoBulk d ≤ Rows.uptoBulkAll l := by
  induction l with
  | nil => cases h
  | cons x r ih =>
    simp only [Rows.uptoBulkAll]
    rcases List.mem_cons.1 h with e | e
    · subst e; omega
    · have := ih e; omega
theorem bulk_length {H : Type} (l : List (DataW H)) : l.length ≤ Rows.uptoBulkAll l := by
  induction l with
  | nil => simp [Rows.uptoBulkAll]
  | cons x r ih => have := bulk_one x; simp only [Rows.uptoBulkAll, List.length_cons]; omega

/-- all data of a type read so, if they are not too many -/
def In (P : Program) (t : TypeId) {α : Type} (K : Kd α) : Prop :=
  ∀ {H : Type} {enc : TypeId × Value → H} {w : World} {base : Nat} {spare : Nat → Bool} {held : Bool} {fuel : Nat} {cs : List Value} {x : DataW H × List MemPlace},
    DataW.trod enc P w base spare held fuel t cs = some x → Rows.uptoBulk x.1 ≤ 1048576 → ∃ X : α, K.rep w cs X

section
variable {P : Program} {t e : TypeId} {α : Type} {K : Kd α}
theorem in_int (ht : P.underlying t = some (.int .i64)) : In P t kInt := fun h _ => by
  obtain ⟨n, rfl, _⟩ := DataW.trod_int ht h
  exact ⟨n, rfl⟩
theorem in_rows (ht : P.underlying t = some (.slice e)) (hc : P.cellsOf e = K.sz) (hK : In P e K) : In P t (kRows K) := fun {H enc w base spare held fuel cs x} h hb => by
  rcases Deep.open_slice ht h with ⟨rfl, _⟩ | ⟨a, len, cap, m, n, D, Pl, rfl, _, hl, hcap, hm, rfl, hel⟩
  · exact ⟨[], ⟨none, 0, 0⟩, rfl, Rows.nil⟩
  · have hlm : len ≤ m := by rw [hm]; split <;> omega
    have hb1 : Rows.uptoBulkAll ((List.range len).map D) ≤ 1048576 := by simp only [Rows.uptoBulk] at hb; omega
    have hb2 : len ≤ 1048576 := by have := bulk_length ((List.range len).map D); simp at this; omega
    have each : ∀ i, i < len → ∃ X : α, ∃ cs', w.cells? base (a.add (i * P.cellsOf e)) (P.cellsOf e) = some cs' ∧ K.rep w cs' X := fun i hi => by
      obtain ⟨cs', h1, h2⟩ := hel i (by omega)
      obtain ⟨X, hX⟩ := hK h2 (by show Rows.uptoBulk (D i) ≤ 1048576; have := bulk_part (d := D i) (l := (List.range len).map D) (List.mem_map.2 ⟨i, by simpa using hi, rfl⟩); omega)
      exact ⟨X, cs', h1, hX⟩
    let f : Nat → α := fun i => if hi : i < len then (each i hi).choose else K.dflt
    refine ⟨(List.range len).map f, ⟨some a, len, cap⟩, rfl, by simp, hl, by simp; omega, fun _ => ⟨a, rfl, fun j hj => ?_⟩⟩
    have hj' : j < len := by simpa using hj
    obtain ⟨cs', h1, h2⟩ := (each j hj').choose_spec
    have hf : ((List.range len).map f)[j] = (each j hj').choose := by simp [f, hj']
    obtain ⟨_, hlen, hcell⟩ := World.cells?_some h1
    refine ⟨cs', by rw [hf]; exact h2, fun i c hi => ?_⟩
    rw [← hc, hcell i (by rw [← hlen]; exact (List.getElem?_eq_some_iff.1 hi).1)]
    exact hi
/-- a field's part -/
theorem in_field {fs : Array Field} (ht : P.underlying t = some (.struct fs)) {H : Type} {enc : TypeId × Value → H} {w : World} {base : Nat} {spare : Nat → Bool} {held : Bool} {fuel : Nat} {cs : List Value} {x : DataW H × List MemPlace}
    (h : DataW.trod enc P w base spare held fuel t cs = some x) (hb : Rows.uptoBulk x.1 ≤ 1048576) {i : Nat} {f : Field} (hf : fs[i]? = some f) (hK : In P f.type K) : ∃ X : α, K.rep w ((cs.drop f.offset).take (P.cellsOf f.type)) X := by
  obtain ⟨xs, n, _, rfl, _, hlen, hx⟩ := DataW.trod_struct ht h
  have hi : i < xs.length := by rw [hlen]; exact (Array.getElem?_eq_some_iff.1 hf).1
  have := hx i f hf
  rw [List.getElem?_eq_getElem hi] at this
  refine hK this ?_
  have := bulk_part (d := (xs[i]).1) (l := xs.map (·.1)) (List.mem_map.2 ⟨_, List.getElem_mem hi, rfl⟩)
  simp only [Rows.uptoBulk] at hb
  omega
/-- .. of one cell -/
theorem in_field1 {fs : Array Field} (ht : P.underlying t = some (.struct fs)) {H : Type} {enc : TypeId × Value → H} {w : World} {base : Nat} {spare : Nat → Bool} {held : Bool} {fuel : Nat} {cs : List Value} {x : DataW H × List MemPlace}
    (h : DataW.trod enc P w base spare held fuel t cs = some x) (hb : Rows.uptoBulk x.1 ≤ 1048576) {i : Nat} {f : Field} (hf : fs[i]? = some f) (hc : P.cellsOf f.type = 1) (hK : In P f.type K) : ∃ X : α, K.rep w ((cs.drop f.offset).take 1) X := by
  have := in_field ht h hb hf hK
  rwa [hc] at this
theorem in_length {fs : Array Field} (ht : P.underlying t = some (.struct fs)) {H : Type} {enc : TypeId × Value → H} {w : World} {base : Nat} {spare : Nat → Bool} {held : Bool} {fuel : Nat} {cs : List Value} {x : DataW H × List MemPlace}
    (h : DataW.trod enc P w base spare held fuel t cs = some x) : cs.length = P.cellsOf t := by
  obtain ⟨_, _, _, _, h1, _⟩ := DataW.trod_struct ht h
  exact h1
end
theorem list2 {β : Type} {l : List β} (h : l.length = 2) : ∃ a b, l = [a, b] := by
  match l, h with
  | [a, b], _ => exact ⟨a, b, rfl⟩
theorem list3 {β : Type} {l : List β} (h : l.length = 3) : ∃ a b c, l = [a, b, c] := by
  match l, h with
  | [a, b, c], _ => exact ⟨a, b, c, rfl⟩
theorem list4 {β : Type} {l : List β} (h : l.length = 4) : ∃ a b c d, l = [a, b, c, d] := by
  match l, h with
  | [a, b, c, d], _ => exact ⟨a, b, c, d, rfl⟩
theorem list5 {β : Type} {l : List β} (h : l.length = 5) : ∃ a b c d e, l = [a, b, c, d, e] := by
  match l, h with
  | [a, b, c, d, e], _ => exact ⟨a, b, c, d, e, rfl⟩
end Go.Den
