/-
  Contracts: slices.Equal of choices, SameChoices, derive.Same, SameStep, and of layer 20's law DeriveSame. Own work.
-/
import Derived.Test.YtagndjglhlpljaaGreatSSame
import Derived.Test.YtagndjglhlpljaaGreatRead
import Derived.Test.YtagndjglhlpljaaGreatWorked
set_option linter.unusedVariables false
namespace Go.Den
def kPair : Kd (Int × Int) := ⟨2, by decide, (0, 0), fun _ cs x => cs = [.int .i64 x.1, .int .i64 x.2], fun _ _ _ h => by rw [h]; rfl, fun _ _ _ _ _ h => h⟩
abbrev Pairs := Rows kPair
theorem Rows.ldPair {w : World} {s : Sl} {l : List (Int × Int)} (h : Pairs w s l) {i : Int} (h0 : 0 ≤ i) (h1 : i < l.length) {Q : Addr → Int → Int → Prop} (hq : ∀ a, Q a (l.getD i.toNat (0, 0)).1 (l.getD i.toNat (0, 0)).2) :
    Den.ix s.a s.n i 2 fun a => Den.ldI .i64 w a fun x => Den.ldI .i64 w (a.add 1) fun y => Q a x y :=
  h.ix rfl h0 h1 fun ad cs hr hc => ⟨_, hc 0 _ (by rw [hr]; rfl), _, hc 1 _ (by rw [hr]; rfl), hq ad⟩
end Go.Den
namespace Go.Proofs.YtagndjglhlpljaaGreat
open Go Go.Den

theorem pairs_ne {xs ys : List (Int × Int)} {j : Nat} (hj : j < xs.length) (h : ys.length = xs.length) (hne : xs.getD j (0, 0) ≠ ys.getD j (0, 0)) : decide (xs = ys) = false := by
  refine decide_eq_false fun hc => hne ?_
  rw [hc]
theorem pairs_eq {xs ys : List (Int × Int)} (h : ys.length = xs.length) (he : ∀ j, j < xs.length → xs.getD j (0, 0) = ys.getD j (0, 0)) : decide (xs = ys) = true := by
  refine decide_eq_true (List.ext_getElem h.symm fun j h1 h2 => ?_)
  have := he j h1
  rw [List.getD_eq_getElem?_getD, List.getD_eq_getElem?_getD, List.getElem?_eq_getElem h1, List.getElem?_eq_getElem h2] at this
  exact this

theorem equal_calls {s t : Sl} {xs ys : List (Int × Int)} {w : World} (hs : Pairs w s xs) (ht : Pairs w t ys) :
    Calls Tryz.prog 68 #[.slice s.a s.n s.c, .slice t.a t.n t.c] w fun e w' => e = .returned (.bool (decide (xs = ys))) ∧ Grow w w' := by
  apply slices_Equal_api_Choice_api_Choice_calls
  unfold slices_Equal_api_Choice_api_Choice_S
  have e1 := hs.len
  have e2 := ht.len
  refine br_bne (fun hne => ⟨?_, Grow.refl w⟩) (fun he => ?_)
  · rw [show decide (xs = ys) = false from decide_eq_false fun hc => hne (by rw [e1, e2, hc])]
  have hl : ys.length = xs.length := by omega
  have hsm := hs.small
  refine slices_Equal_api_Choice_api_Choice_rule0 s t (I := fun k i w1 => 0 ≤ i ∧ i ≤ xs.length ∧ k = xs.length - i.toNat ∧ (∀ j, j < i.toNat → xs.getD j (0, 0) = ys.getD j (0, 0)) ∧ Grow w w1) ?_ (k := xs.length) ⟨by omega, by omega, by simp, by simp, Grow.refl w⟩
  rintro k i w1 ⟨h0, h1, rfl, hj, hg⟩
  unfold slices_Equal_api_Choice_api_Choice_B0
  refine br_dec (fun hi => ?_) (fun hi => ?_)
  · refine (hs.mono hg).ldPair h0 (by omega) fun a => (ht.mono hg).ldPair h0 (by omega) fun b => fun w9 hg9 => ?_
    have hg2 := hg.trans hg9
    refine br_not (fun hb => ⟨?_, hg2⟩) (fun hb => ?_)
    · rw [pairs_ne (j := i.toNat) (by omega) hl (fun hc => by rw [hc] at hb; simp at hb)]
    · have heq : xs.getD i.toNat (0, 0) = ys.getD i.toNat (0, 0) := by
        simp only [Bool.and_true, Bool.and_eq_true, beq_iff_eq] at hb
        exact Prod.ext hb.1 hb.2
      rw [wrap_id (x := i + 1) (by omega) (by omega)]
      refine ⟨_, ?_, _, rfl, by omega, by omega, rfl, fun j hj' => ?_, hg2⟩
      · omega
      · by_cases e : j = i.toNat
        · subst e; exact heq
        · exact hj j (by omega)
  · refine ⟨?_, hg⟩
    rw [pairs_eq hl fun j hj' => hj j (by omega)]

theorem sameChoices_calls {s t : Sl} {xs ys : List (Int × Int)} {w : World} (hs : Pairs w s xs) (ht : Pairs w t ys) :
    Calls Tryz.prog 69 #[.slice s.a s.n s.c, .slice t.a t.n t.c] w fun e w' => e = .returned (.bool (decide (xs = ys))) ∧ Grow w w' := by
  apply lexpriorplain_SameChoices_calls
  unfold lexpriorplain_SameChoices_S
  have e1 := hs.len
  have e2 := ht.len
  refine br_bne (fun hne => ⟨?_, Grow.refl w⟩) (fun he => ?_)
  · rw [show decide (xs = ys) = false from decide_eq_false fun hc => hne (by rw [e1, e2, hc])]
  have hl : ys.length = xs.length := by omega
  have hsm := hs.small
  refine lexpriorplain_SameChoices_rule0 s t (I := fun k i w1 => 0 ≤ i ∧ i ≤ xs.length ∧ k = xs.length - i.toNat ∧ (∀ j, j < i.toNat → xs.getD j (0, 0) = ys.getD j (0, 0)) ∧ Grow w w1) ?_ (k := xs.length) ⟨by omega, by omega, by simp, by simp, Grow.refl w⟩
  rintro k i w1 ⟨h0, h1, rfl, hj, hg⟩
  unfold lexpriorplain_SameChoices_B0
  refine br_dec (fun hi => ?_) (fun hi => ?_)
  · refine (hs.mono hg).ldPair h0 (by omega) fun a => (ht.mono hg).ldPair h0 (by omega) fun b => fun w9 hg9 => ?_
    have hg2 := hg.trans hg9
    refine br_not (fun hb => ⟨?_, hg2⟩) (fun hb => ?_)
    · rw [pairs_ne (j := i.toNat) (by omega) hl (fun hc => by rw [hc] at hb; simp at hb)]
    · have heq : xs.getD i.toNat (0, 0) = ys.getD i.toNat (0, 0) := by
        simp only [Bool.and_true, Bool.and_eq_true, beq_iff_eq] at hb
        exact Prod.ext hb.1 hb.2
      rw [wrap_id (x := i + 1) (by omega) (by omega)]
      refine ⟨_, ?_, _, rfl, by omega, by omega, rfl, fun j hj' => ?_, hg2⟩
      · omega
      · by_cases e : j = i.toNat
        · subst e; exact heq
        · exact hj j (by omega)
  · refine ⟨?_, hg⟩
    rw [pairs_eq hl fun j hj' => hj j (by omega)]

/-- a step: four numbers and choices -/
structure Stp where
  tag : Int
  lit : Int
  how : Int
  rule : Int
  ch : List (Int × Int)
def sameStp (a b : Stp) : Bool := a.tag == b.tag && (a.lit == b.lit && (a.how == b.how && (a.rule == b.rule && decide (a.ch = b.ch))))
theorem sameStp_refl (a : Stp) : sameStp a a = true := by simp [sameStp]
/-- the value of a step whose choices lie in s -/
def Stp.val (a : Stp) (s : Sl) : Value := .agg #[.int .i64 a.tag, .int .i64 a.lit, .int .i64 a.how, .int .i64 a.rule, .slice s.a s.n s.c]

theorem same_calls {a b : Stp} {s t : Sl} {w : World} (hs : Pairs w s a.ch) (ht : Pairs w t b.ch) :
    Calls Tryz.prog 33 #[a.val s, b.val t] w fun e w' => e = .returned (.bool (sameStp a b)) ∧ Grow w w' := by
  apply derive_Same_calls
  unfold derive_Same_S
  refine nw_mk fun n1 w2 _ hb1 hg1 _ => nw_mk fun n3 w4 _ hb3 hg3 _ => ?_
  have hb1' := hg3.block hb1
  have hg := hg1.trans hg3
  unfold sameStp
  refine ⟨_, cell_of_block hb1' rfl, _, cell_of_block hb3 rfl, br_beq (fun h => ?_) (fun h => ⟨by simp [h], hg⟩)⟩
  refine ⟨_, cell_of_block hb1' rfl, _, cell_of_block hb3 rfl, br_beq (fun h2 => ?_) (fun h2 => ⟨by simp [h2], hg⟩)⟩
  refine ⟨_, cell_of_block hb1' rfl, _, cell_of_block hb3 rfl, br_beq (fun h3 => ?_) (fun h3 => ⟨by simp [h3], hg⟩)⟩
  refine ⟨_, cell_of_block hb1' rfl, _, cell_of_block hb3 rfl, br_beq (fun h4 => ?_) (fun h4 => ⟨by simp [h4], hg⟩)⟩
  refine ⟨s, cell_of_block hb1' rfl, t, cell_of_block hb3 rfl, ?_⟩
  refine callR_mk (equal_calls (hs.mono hg) (ht.mono hg)) fun w' hg' => ⟨_, rfl, ?_, hg.trans hg'⟩
  simp [h, h2, h3, h4]

theorem sameStep_calls {a b : Stp} {s t : Sl} {w : World} (hs : Pairs w s a.ch) (ht : Pairs w t b.ch) :
    Calls Tryz.prog 34 #[a.val s, b.val t] w fun e w' => e = .returned (.bool (sameStp a b)) ∧ Grow w w' := by
  apply lexpriorplain_SameStep_calls
  unfold lexpriorplain_SameStep_S
  refine nw_mk fun n1 w2 _ hb1 hg1 _ => nw_mk fun n3 w4 _ hb3 hg3 _ => ?_
  have hb1' := hg3.block hb1
  have hg := hg1.trans hg3
  unfold sameStp
  refine ⟨_, cell_of_block hb1' rfl, _, cell_of_block hb3 rfl, br_beq (fun h => ?_) (fun h => ⟨by simp [h], hg⟩)⟩
  refine ⟨_, cell_of_block hb1' rfl, _, cell_of_block hb3 rfl, br_beq (fun h2 => ?_) (fun h2 => ⟨by simp [h2], hg⟩)⟩
  refine ⟨_, cell_of_block hb1' rfl, _, cell_of_block hb3 rfl, br_beq (fun h3 => ?_) (fun h3 => ⟨by simp [h3], hg⟩)⟩
  refine ⟨_, cell_of_block hb1' rfl, _, cell_of_block hb3 rfl, br_beq (fun h4 => ?_) (fun h4 => ⟨by simp [h4], hg⟩)⟩
  refine ⟨s, cell_of_block hb1' rfl, t, cell_of_block hb3 rfl, ?_⟩
  refine callR_mk (sameChoices_calls (hs.mono hg) (ht.mono hg)) fun w' hg' => ⟨_, rfl, ?_, hg.trans hg'⟩
  simp [h, h2, h3, h4]

theorem deriveSame_calls {a b : Stp} {s t : Sl} {w : World} (hs : Pairs w s a.ch) (ht : Pairs w t b.ch) :
    Calls Tryz.prog 7 #[a.val s, b.val t] w fun e w' => e = .returned (.bool true) ∧ Grow w w' := by
  apply lexpriorlaw20_DeriveSame_calls
  unfold lexpriorlaw20_DeriveSame_S
  refine nw_mk fun n1 w2 _ hb1 hg1 _ => nw_mk fun n3 w4 _ hb3 hg3 _ => ?_
  have hb1' := hg3.block hb1
  have hg := hg1.trans hg3
  have f0 := cell_of_block (i := 0) hb1' rfl
  have f1 := cell_of_block (i := 1) hb1' rfl
  have f2 := cell_of_block (i := 2) hb1' rfl
  have f3 := cell_of_block (i := 3) hb1' rfl
  have f4 := cell_of_block (i := 4) hb1' rfl
  have g0 := cell_of_block (i := 0) hb3 rfl
  have g1 := cell_of_block (i := 1) hb3 rfl
  have g2 := cell_of_block (i := 2) hb3 rfl
  have g3 := cell_of_block (i := 3) hb3 rfl
  have g4 := cell_of_block (i := 4) hb3 rfl
  refine ⟨_, f0, _, f1, _, f2, _, f3, s, f4, _, g0, _, g1, _, g2, _, g3, t, g4, sameStp a b, fun w16 hw => same_calls (hs.mono (hg.trans hw)) (ht.mono (hg.trans hw)), ?_⟩
  refine ⟨_, f0, _, f1, _, f2, _, f3, s, f4, _, g0, _, g1, _, g2, _, g3, t, g4, sameStp a b, fun w16 hw => sameStep_calls (hs.mono (hg.trans hw)) (ht.mono (hg.trans hw)), ?_⟩
  refine br_mk (fun _ => ?_) (fun h => by simp at h)
  refine ⟨_, f0, _, f1, _, f2, _, f3, s, f4, _, f0, _, f1, _, f2, _, f3, s, f4, sameStp a a, fun w16 hw => same_calls (hs.mono (hg.trans hw)) (hs.mono (hg.trans hw)), ?_⟩
  refine br_mk (fun _ => ?_) (fun h => by rw [sameStp_refl] at h; cases h)
  exact ⟨true, fun w45 _ => works w45, fun w47 hw => ⟨rfl, hg.trans hw⟩⟩
end Go.Proofs.YtagndjglhlpljaaGreat
