/-
  For every two steps that hold together at most 1048576 values, lexpriorlaw20.DeriveSame answers true and its arguments read afterwards as before (layer 20's law DeriveSame: Same is equality field by field; works() is true). Condition: the bulk, as the given row 'deriveSameUptoRow' has it.
-/
import Derived.Test.YtagndjglhlpljaaGreatSame
import Derived.Test.YtagndjglhlpljaaGreatArgs
import Derived.Test.YtagndjglhlpljaaGreatFactsSame
import Derived.JoinedCond
set_option linter.unusedVariables false
namespace Go.Proofs.YtagndjglhlpljaaGreat
open Go Go.Den
open Go.ChangeShapes Go.WideShapes Go.ChangeAt Go.RowKit
open Go.RowKit (Below)

/-! ### Steps that come in -/
def kStep : Kd Stp := ⟨5, by decide, ⟨0, 0, 0, 0, []⟩, fun w cs x => ∃ s : Sl, cs = [.int .i64 x.tag, .int .i64 x.lit, .int .i64 x.how, .int .i64 x.rule, .slice s.a s.n s.c] ∧ Pairs w s x.ch,
  fun _ _ _ h => by obtain ⟨s, rfl, _⟩ := h; rfl, fun _ _ _ _ hg h => by obtain ⟨s, hs, hr⟩ := h; exact ⟨s, hs, hr.mono hg⟩⟩
theorem in3 : In Tryz.prog 3 kInt := in_int Tryz.underlying3
theorem in27 : In Tryz.prog 27 kInt := in_int (by kernel_rfl)
theorem in39 : In Tryz.prog 39 kInt := in_int (by kernel_rfl)
theorem one3 : Tryz.prog.cellsOf 3 = 1 := by kernel_rfl
theorem one27 : Tryz.prog.cellsOf 27 = 1 := by kernel_rfl
theorem one39 : Tryz.prog.cellsOf 39 = 1 := by kernel_rfl
theorem one40 : Tryz.prog.cellsOf 40 = 1 := by kernel_rfl
theorem two139 : Tryz.prog.cellsOf 139 = 2 := by kernel_rfl
theorem five42 : Tryz.prog.cellsOf 42 = 5 := by kernel_rfl
theorem in139 : In Tryz.prog 139 kPair := fun h hb => by
  obtain ⟨a, b, rfl⟩ := list2 ((in_length Tryz.underlying139 h).trans two139)
  obtain ⟨x, hx⟩ := in_field1 Tryz.underlying139 h hb (i := 0) rfl one3 in3
  obtain ⟨y, hy⟩ := in_field1 Tryz.underlying139 h hb (i := 1) rfl one3 in3
  refine ⟨(x, y), ?_⟩
  have hx : [a] = [Value.int .i64 x] := hx
  have hy : [b] = [Value.int .i64 y] := hy
  cases hx; cases hy; rfl
theorem in40 : In Tryz.prog 40 (kRows kPair) := in_rows Tryz.underlying40 two139 in139
theorem in42 : In Tryz.prog 42 kStep := fun h hb => by
  obtain ⟨a, b, c, d, e, rfl⟩ := list5 ((in_length Tryz.underlying42 h).trans five42)
  obtain ⟨x0, h0⟩ := in_field1 Tryz.underlying42 h hb (i := 0) rfl one27 in27
  obtain ⟨x1, h1⟩ := in_field1 Tryz.underlying42 h hb (i := 1) rfl one3 in3
  obtain ⟨x2, h2⟩ := in_field1 Tryz.underlying42 h hb (i := 2) rfl one39 in39
  obtain ⟨x3, h3⟩ := in_field1 Tryz.underlying42 h hb (i := 3) rfl one3 in3
  obtain ⟨x4, h4⟩ := in_field1 Tryz.underlying42 h hb (i := 4) rfl one40 in40
  have h0 : [a] = [Value.int .i64 x0] := h0
  have h1 : [b] = [Value.int .i64 x1] := h1
  have h2 : [c] = [Value.int .i64 x2] := h2
  have h3 : [d] = [Value.int .i64 x3] := h3
  obtain ⟨s, h4, hs⟩ := h4
  cases h0; cases h1; cases h2; cases h3; cases h4
  exact ⟨⟨x0, x1, x2, x3, x4⟩, s, rfl, hs⟩

namespace deriveSameDone
theorem own : ownKnob Tryz.prog.godebug = none := by kernel_rfl
theorem laidOut : laidOutB Tryz.prog = true := by kernel_rfl
set_option maxRecDepth 100000 in
theorem lifted (os : Os) (started : os.Started) (H : Type) (enc : TypeId × Value → H) (F : Stop.Interp) :
    ReturnsInHanded {} Tryz.checked os 7 .any ((Rows.OpenSpec.upto Rows.deriveSameSpec).pre6 enc Tryz.prog Tryz.f7 Rows.deriveSameUptoRow.domain false) (((Rows.OpenSpec.upto Rows.deriveSameSpec).at F).post enc Tryz.prog Tryz.f7 false true false false) := by
  refine returnsInHanded_of_cond (C := Tryz.checked) (s := Rows.OpenSpec.upto Rows.deriveSameSpec) (k := Rows.uptoSmall) rfl own started (by kernel_rfl) Tryz.func7
    (OpenSpec.witness (enc := enc) (C := Tryz.checked) (s := Rows.OpenSpec.upto Rows.deriveSameSpec) (k := Rows.uptoSmall) rfl false ⟨#[], #[.agg #[.int .i64 0, .int .i64 0, .int .i64 0, .int .i64 0, .slice none 0 0], .agg #[.int .i64 0, .int .i64 0, .int .i64 0, .int .i64 0, .slice none 0 0]], []⟩ 8 (by kernel_rfl) (by kernel_rfl) (by kernel_rfl)
      (x := ([.agg [.lit (.int .i64 0), .lit (.int .i64 0), .lit (.int .i64 0), .lit (.int .i64 0), .nil], .agg [.lit (.int .i64 0), .lit (.int .i64 0), .lit (.int .i64 0), .lit (.int .i64 0), .nil]], [], [])) (by kernel_rfl) rfl (by kernel_rfl)) ?_
  intro W base args ds gs before hval0 hW _ hk _
  have hval : ∀ (j : Nat) t v, Tryz.f7.params[j]? = some t → args[j]? = some v → Value.okWide Tryz.prog W .any base t v := hval0
  have hW' := hW
  obtain ⟨p, q, hA0, hV, rfl, hfz, hnd⟩ := hW
  have hA : DataW.TrodAll enc Tryz.prog W 0 (fun _ => true) true Tryz.f7.params.toList args.toList ds p := hA0
  rw [Tryz.params7] at hA hval
  obtain ⟨v0, vs0, d0, ds0, p0, q0, hargs, rfl, rfl, h0, r0⟩ := trodAll_cons hA
  obtain ⟨v1, vs1, d1, ds1, p1, q1, rfl, rfl, rfl, h1, r1⟩ := trodAll_cons r0
  obtain ⟨rfl, rfl, rfl⟩ := trodAll_nil r1
  obtain rfl : args = #[v0, v1] := by cases args; simp_all
  obtain ⟨rfl, rfl⟩ := trodVars_none hV
  have hbulk : Rows.uptoBulkAll [d0, d1] ≤ 1048576 := by simpa only [List.append_nil] using of_decide_eq_true hk
  obtain ⟨c0, rfl, _⟩ := okWide_struct Tryz.underlying42 (hval 0 42 v0 rfl rfl)
  obtain ⟨c1, rfl, _⟩ := okWide_struct Tryz.underlying42 (hval 1 42 v1 rfl rfl)
  have k0 := h0
  have k1 := h1
  have lt0 : ∀ x ∈ p0, x.block < W.heap.size := by obtain ⟨m, hm⟩ := k0; exact DataW.trod_lt m _ _ _ hm
  have lt1 : ∀ x ∈ p1, x.block < W.heap.size := by obtain ⟨m, hm⟩ := k1; exact DataW.trod_lt m _ _ _ hm
  obtain ⟨a, s, ha, hs⟩ : ∃ (a : Stp) (s : Sl), Value.agg c0 = a.val s ∧ Pairs W s a.ch := by
    obtain ⟨m, hm⟩ := h0
    obtain ⟨a, s, hcs, hs⟩ := in42 hm (Nat.le_trans (bulk_part (by simp)) hbulk)
    exact ⟨a, s, by simp only [Value.cells] at hcs; cases c0; simp_all [Stp.val], hs⟩
  obtain ⟨b, t, hb, ht⟩ : ∃ (a : Stp) (s : Sl), Value.agg c1 = a.val s ∧ Pairs W s a.ch := by
    obtain ⟨m, hm⟩ := h1
    obtain ⟨a, s, hcs, hs⟩ := in42 hm (Nat.le_trans (bulk_part (by simp)) hbulk)
    exact ⟨a, s, by simp only [Value.cells] at hcs; cases c1; simp_all [Stp.val], hs⟩
  clear hA0 hval0
  have walk := deriveSame_calls hs ht
  rw [← ha, ← hb] at walk
  refine walk.mono fun e W' ⟨he, bel⟩ => ?_
  subst he
  exact ⟨_, rfl, _, _, _, [], _, [], hW', trodAll_mk1 (shut_bool Tryz.underlying4 _), (trodAll_cons_mk (Below.trod laidOut (by kernel_rfl) (of_decide_eq_true (by kernel_rfl)) k0 bel lt0) (trodAll_cons_mk (Below.trod laidOut (by kernel_rfl) (of_decide_eq_true (by kernel_rfl)) k1 bel lt1) trodAll_mk0)), rfl, bel.frame _, fun h => by cases h⟩

theorem over : Rows.deriveSameUptoRow.holds Tryz.pinned (Rows.OpenSpec.upto Rows.deriveSameSpec) :=
  OpenClaim.holds_of_cond 7 Tryz.f7 rfl rfl rfl rfl rfl rfl rfl ⟨rfl, rfl, rfl, rfl, rfl⟩ rfl rfl rfl rfl rfl (by kernel_rfl) Tryz.func7 closed
    (of_decide_eq_true (by kernel_rfl)) (by unfold Func.isWrapper; first | (rw [if_pos (by decide +kernel)]; kernel_rfl) | (rw [if_neg (by decide +kernel)]; exact ⟨rfl, rfl⟩))
    (fun os started H enc _ F => lifted os started H enc F)
theorem proved : Rows.DeriveSameUptoSaid := over
#print axioms proved
end deriveSameDone
end Go.Proofs.YtagndjglhlpljaaGreat
