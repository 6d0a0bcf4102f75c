import Derived.Test.YtagndjglhlpljaaGreatProg
import Derived.Test.YtagndjglhlpljaaGreatSem
import Derived.Test.YtagndjglhlpljaaGreatOk
set_option linter.unusedVariables false
set_option maxRecDepth 100000
namespace Go.Proofs.YtagndjglhlpljaaGreat
open Go Go.Den

/-! lexprior/lexpriorlaw20.DeriveSame (function 7) -/
def lexpriorlaw20_DeriveSame_ann : Nat → List Nat
 | _ => []
noncomputable def lexpriorlaw20_DeriveSame_S (a_0_0 : Int) (a_0_1 : Int) (a_0_2 : Int) (a_0_3 : Int) (a_0_4 : Sl) (b_1_0 : Int) (b_1_1 : Int) (b_1_2 : Int) (b_1_3 : Int) (b_1_4 : Sl) (R : Ending → World → Prop) (w : World) : Prop :=
nw (.cells #[.int .i64 a_0_0, .int .i64 a_0_1, .int .i64 a_0_2, .int .i64 a_0_3, .slice a_0_4.a a_0_4.n a_0_4.c] 42) w fun n1 w2 =>
nw (.cells #[.int .i64 b_1_0, .int .i64 b_1_1, .int .i64 b_1_2, .int .i64 b_1_3, .slice b_1_4.a b_1_4.n b_1_4.c] 42) w2 fun n3 w4 =>
ldI .i64 w4 ⟨n1, 0, none⟩ fun x5 =>
ldI .i64 w4 ⟨n1, 1, none⟩ fun x6 =>
ldI .i64 w4 ⟨n1, 2, none⟩ fun x7 =>
ldI .i64 w4 ⟨n1, 3, none⟩ fun x8 =>
ldS w4 ⟨n1, 4, none⟩ fun l9 =>
ldI .i64 w4 ⟨n3, 0, none⟩ fun x10 =>
ldI .i64 w4 ⟨n3, 1, none⟩ fun x11 =>
ldI .i64 w4 ⟨n3, 2, none⟩ fun x12 =>
ldI .i64 w4 ⟨n3, 3, none⟩ fun x13 =>
ldS w4 ⟨n3, 4, none⟩ fun l14 =>
∃ b15 : Bool, (∀ w16, Grow w4 w16 → Calls Tryz.prog 33 [.agg #[.int .i64 x5, .int .i64 x6, .int .i64 x7, .int .i64 x8, .slice l9.a l9.n l9.c], .agg #[.int .i64 x10, .int .i64 x11, .int .i64 x12, .int .i64 x13, .slice l14.a l14.n l14.c]].toArray w16 fun e w17 => e = .returned (.bool b15) ∧ Grow w16 w17) ∧
ldI .i64 w4 ⟨n1, 0, none⟩ fun x18 =>
ldI .i64 w4 ⟨n1, 1, none⟩ fun x19 =>
ldI .i64 w4 ⟨n1, 2, none⟩ fun x20 =>
ldI .i64 w4 ⟨n1, 3, none⟩ fun x21 =>
ldS w4 ⟨n1, 4, none⟩ fun l22 =>
ldI .i64 w4 ⟨n3, 0, none⟩ fun x23 =>
ldI .i64 w4 ⟨n3, 1, none⟩ fun x24 =>
ldI .i64 w4 ⟨n3, 2, none⟩ fun x25 =>
ldI .i64 w4 ⟨n3, 3, none⟩ fun x26 =>
ldS w4 ⟨n3, 4, none⟩ fun l27 =>
∃ b28 : Bool, (∀ w29, Grow w4 w29 → Calls Tryz.prog 34 [.agg #[.int .i64 x18, .int .i64 x19, .int .i64 x20, .int .i64 x21, .slice l22.a l22.n l22.c], .agg #[.int .i64 x23, .int .i64 x24, .int .i64 x25, .int .i64 x26, .slice l27.a l27.n l27.c]].toArray w29 fun e w30 => e = .returned (.bool b28) ∧ Grow w29 w30) ∧
br (b15 == b28) (ldI .i64 w4 ⟨n1, 0, none⟩ fun x31 =>
ldI .i64 w4 ⟨n1, 1, none⟩ fun x32 =>
ldI .i64 w4 ⟨n1, 2, none⟩ fun x33 =>
ldI .i64 w4 ⟨n1, 3, none⟩ fun x34 =>
ldS w4 ⟨n1, 4, none⟩ fun l35 =>
ldI .i64 w4 ⟨n1, 0, none⟩ fun x36 =>
ldI .i64 w4 ⟨n1, 1, none⟩ fun x37 =>
ldI .i64 w4 ⟨n1, 2, none⟩ fun x38 =>
ldI .i64 w4 ⟨n1, 3, none⟩ fun x39 =>
ldS w4 ⟨n1, 4, none⟩ fun l40 =>
∃ b41 : Bool, (∀ w42, Grow w4 w42 → Calls Tryz.prog 33 [.agg #[.int .i64 x31, .int .i64 x32, .int .i64 x33, .int .i64 x34, .slice l35.a l35.n l35.c], .agg #[.int .i64 x36, .int .i64 x37, .int .i64 x38, .int .i64 x39, .slice l40.a l40.n l40.c]].toArray w42 fun e w43 => e = .returned (.bool b41) ∧ Grow w42 w43) ∧
br b41 (∃ b44 : Bool, (∀ w45, Grow w4 w45 → Calls Tryz.prog 20 [].toArray w45 fun e w46 => e = .returned (.bool b44) ∧ Grow w45 w46) ∧
∀ w47, Grow w4 w47 →
R (.returned (.bool b44)) w47) (∀ w48, Grow w4 w48 →
R (.returned (.bool false)) w48)) (∀ w49, Grow w4 w49 →
R (.returned (.bool false)) w49)
theorem lexpriorlaw20_DeriveSame_eq (a_0_0 : Int) (a_0_1 : Int) (a_0_2 : Int) (a_0_3 : Int) (a_0_4 : Sl) (b_1_0 : Int) (b_1_1 : Int) (b_1_2 : Int) (b_1_3 : Int) (b_1_4 : Sl) (R : Ending → World → Prop) (w : World) : den Tryz.prog 20 lexpriorlaw20_DeriveSame_ann (bodyOf Tryz.f7) 0 (bodyQ Tryz.prog Tryz.f7 R) (argE 0 [.agg #[.int .i64 a_0_0, .int .i64 a_0_1, .int .i64 a_0_2, .int .i64 a_0_3, .slice a_0_4.a a_0_4.n a_0_4.c], .agg #[.int .i64 b_1_0, .int .i64 b_1_1, .int .i64 b_1_2, .int .i64 b_1_3, .slice b_1_4.a b_1_4.n b_1_4.c]]) w = lexpriorlaw20_DeriveSame_S a_0_0 a_0_1 a_0_2 a_0_3 a_0_4 b_1_0 b_1_1 b_1_2 b_1_3 b_1_4 R w := by kernel_rfl
theorem lexpriorlaw20_DeriveSame_calls {a_0_0 : Int} {a_0_1 : Int} {a_0_2 : Int} {a_0_3 : Int} {a_0_4 : Sl} {b_1_0 : Int} {b_1_1 : Int} {b_1_2 : Int} {b_1_3 : Int} {b_1_4 : Sl} {R : Ending → World → Prop} {w : World} (h : lexpriorlaw20_DeriveSame_S a_0_0 a_0_1 a_0_2 a_0_3 a_0_4 b_1_0 b_1_1 b_1_2 b_1_3 b_1_4 R w) : Calls Tryz.prog 7 #[.agg #[.int .i64 a_0_0, .int .i64 a_0_1, .int .i64 a_0_2, .int .i64 a_0_3, .slice a_0_4.a a_0_4.n a_0_4.c], .agg #[.int .i64 b_1_0, .int .i64 b_1_1, .int .i64 b_1_2, .int .i64 b_1_3, .slice b_1_4.a b_1_4.n b_1_4.c]] w R :=
  calls_of_den okP lexpriorlaw20_DeriveSame_ann (f := 7) (fn := Tryz.f7) (c := bodyOf Tryz.f7) (args := [.agg #[.int .i64 a_0_0, .int .i64 a_0_1, .int .i64 a_0_2, .int .i64 a_0_3, .slice a_0_4.a a_0_4.n a_0_4.c], .agg #[.int .i64 b_1_0, .int .i64 b_1_1, .int .i64 b_1_2, .int .i64 b_1_3, .slice b_1_4.a b_1_4.n b_1_4.c]]) Tryz.func7 (by kernel_rfl) (Nat.le_of_ble_eq_true (by kernel_rfl)) ((lexpriorlaw20_DeriveSame_eq a_0_0 a_0_1 a_0_2 a_0_3 a_0_4 b_1_0 b_1_1 b_1_2 b_1_3 b_1_4 R w).symm ▸ h)

/-! lexprior/derive.Same (function 33) -/
def derive_Same_ann : Nat → List Nat
 | _ => []
noncomputable def derive_Same_S (a_0_0 : Int) (a_0_1 : Int) (a_0_2 : Int) (a_0_3 : Int) (a_0_4 : Sl) (b_1_0 : Int) (b_1_1 : Int) (b_1_2 : Int) (b_1_3 : Int) (b_1_4 : Sl) (R : Ending → World → Prop) (w : World) : Prop :=
nw (.cells #[.int .i64 a_0_0, .int .i64 a_0_1, .int .i64 a_0_2, .int .i64 a_0_3, .slice a_0_4.a a_0_4.n a_0_4.c] 42) w fun n1 w2 =>
nw (.cells #[.int .i64 b_1_0, .int .i64 b_1_1, .int .i64 b_1_2, .int .i64 b_1_3, .slice b_1_4.a b_1_4.n b_1_4.c] 42) w2 fun n3 w4 =>
ldI .i64 w4 ⟨n1, 0, none⟩ fun x5 =>
ldI .i64 w4 ⟨n3, 0, none⟩ fun x6 =>
br (x5 == x6) (ldI .i64 w4 ⟨n1, 1, none⟩ fun x7 =>
ldI .i64 w4 ⟨n3, 1, none⟩ fun x8 =>
br (x7 == x8) (ldI .i64 w4 ⟨n1, 2, none⟩ fun x9 =>
ldI .i64 w4 ⟨n3, 2, none⟩ fun x10 =>
br (x9 == x10) (ldI .i64 w4 ⟨n1, 3, none⟩ fun x11 =>
ldI .i64 w4 ⟨n3, 3, none⟩ fun x12 =>
br (x11 == x12) (ldS w4 ⟨n1, 4, none⟩ fun l13 =>
ldS w4 ⟨n3, 4, none⟩ fun l14 =>
callR Tryz.prog 68 [.slice l13.a l13.n l13.c, .slice l14.a l14.n l14.c] w4 (fun ch w => R (.panicked ch) w) fun v17 w16 => ∃ b15 : Bool, v17 = .bool b15 ∧
R (.returned (.bool b15)) w16) (R (.returned (.bool false)) w4)) (R (.returned (.bool false)) w4)) (R (.returned (.bool false)) w4)) (R (.returned (.bool false)) w4)
theorem derive_Same_eq (a_0_0 : Int) (a_0_1 : Int) (a_0_2 : Int) (a_0_3 : Int) (a_0_4 : Sl) (b_1_0 : Int) (b_1_1 : Int) (b_1_2 : Int) (b_1_3 : Int) (b_1_4 : Sl) (R : Ending → World → Prop) (w : World) : den Tryz.prog 38 derive_Same_ann (bodyOf Tryz.f33) 0 (bodyQ Tryz.prog Tryz.f33 R) (argE 0 [.agg #[.int .i64 a_0_0, .int .i64 a_0_1, .int .i64 a_0_2, .int .i64 a_0_3, .slice a_0_4.a a_0_4.n a_0_4.c], .agg #[.int .i64 b_1_0, .int .i64 b_1_1, .int .i64 b_1_2, .int .i64 b_1_3, .slice b_1_4.a b_1_4.n b_1_4.c]]) w = derive_Same_S a_0_0 a_0_1 a_0_2 a_0_3 a_0_4 b_1_0 b_1_1 b_1_2 b_1_3 b_1_4 R w := by kernel_rfl
theorem derive_Same_calls {a_0_0 : Int} {a_0_1 : Int} {a_0_2 : Int} {a_0_3 : Int} {a_0_4 : Sl} {b_1_0 : Int} {b_1_1 : Int} {b_1_2 : Int} {b_1_3 : Int} {b_1_4 : Sl} {R : Ending → World → Prop} {w : World} (h : derive_Same_S a_0_0 a_0_1 a_0_2 a_0_3 a_0_4 b_1_0 b_1_1 b_1_2 b_1_3 b_1_4 R w) : Calls Tryz.prog 33 #[.agg #[.int .i64 a_0_0, .int .i64 a_0_1, .int .i64 a_0_2, .int .i64 a_0_3, .slice a_0_4.a a_0_4.n a_0_4.c], .agg #[.int .i64 b_1_0, .int .i64 b_1_1, .int .i64 b_1_2, .int .i64 b_1_3, .slice b_1_4.a b_1_4.n b_1_4.c]] w R :=
  calls_of_den okP derive_Same_ann (f := 33) (fn := Tryz.f33) (c := bodyOf Tryz.f33) (args := [.agg #[.int .i64 a_0_0, .int .i64 a_0_1, .int .i64 a_0_2, .int .i64 a_0_3, .slice a_0_4.a a_0_4.n a_0_4.c], .agg #[.int .i64 b_1_0, .int .i64 b_1_1, .int .i64 b_1_2, .int .i64 b_1_3, .slice b_1_4.a b_1_4.n b_1_4.c]]) Tryz.func33 (by kernel_rfl) (Nat.le_of_ble_eq_true (by kernel_rfl)) ((derive_Same_eq a_0_0 a_0_1 a_0_2 a_0_3 a_0_4 b_1_0 b_1_1 b_1_2 b_1_3 b_1_4 R w).symm ▸ h)

/-! lexprior/lexpriorplain.SameStep (function 34) -/
def lexpriorplain_SameStep_ann : Nat → List Nat
 | _ => []
noncomputable def lexpriorplain_SameStep_S (a_0_0 : Int) (a_0_1 : Int) (a_0_2 : Int) (a_0_3 : Int) (a_0_4 : Sl) (b_1_0 : Int) (b_1_1 : Int) (b_1_2 : Int) (b_1_3 : Int) (b_1_4 : Sl) (R : Ending → World → Prop) (w : World) : Prop :=
nw (.cells #[.int .i64 a_0_0, .int .i64 a_0_1, .int .i64 a_0_2, .int .i64 a_0_3, .slice a_0_4.a a_0_4.n a_0_4.c] 42) w fun n1 w2 =>
nw (.cells #[.int .i64 b_1_0, .int .i64 b_1_1, .int .i64 b_1_2, .int .i64 b_1_3, .slice b_1_4.a b_1_4.n b_1_4.c] 42) w2 fun n3 w4 =>
ldI .i64 w4 ⟨n1, 0, none⟩ fun x5 =>
ldI .i64 w4 ⟨n3, 0, none⟩ fun x6 =>
br (x5 == x6) (ldI .i64 w4 ⟨n1, 1, none⟩ fun x7 =>
ldI .i64 w4 ⟨n3, 1, none⟩ fun x8 =>
br (x7 == x8) (ldI .i64 w4 ⟨n1, 2, none⟩ fun x9 =>
ldI .i64 w4 ⟨n3, 2, none⟩ fun x10 =>
br (x9 == x10) (ldI .i64 w4 ⟨n1, 3, none⟩ fun x11 =>
ldI .i64 w4 ⟨n3, 3, none⟩ fun x12 =>
br (x11 == x12) (ldS w4 ⟨n1, 4, none⟩ fun l13 =>
ldS w4 ⟨n3, 4, none⟩ fun l14 =>
callR Tryz.prog 69 [.slice l13.a l13.n l13.c, .slice l14.a l14.n l14.c] w4 (fun ch w => R (.panicked ch) w) fun v17 w16 => ∃ b15 : Bool, v17 = .bool b15 ∧
R (.returned (.bool b15)) w16) (R (.returned (.bool false)) w4)) (R (.returned (.bool false)) w4)) (R (.returned (.bool false)) w4)) (R (.returned (.bool false)) w4)
theorem lexpriorplain_SameStep_eq (a_0_0 : Int) (a_0_1 : Int) (a_0_2 : Int) (a_0_3 : Int) (a_0_4 : Sl) (b_1_0 : Int) (b_1_1 : Int) (b_1_2 : Int) (b_1_3 : Int) (b_1_4 : Sl) (R : Ending → World → Prop) (w : World) : den Tryz.prog 38 lexpriorplain_SameStep_ann (bodyOf Tryz.f34) 0 (bodyQ Tryz.prog Tryz.f34 R) (argE 0 [.agg #[.int .i64 a_0_0, .int .i64 a_0_1, .int .i64 a_0_2, .int .i64 a_0_3, .slice a_0_4.a a_0_4.n a_0_4.c], .agg #[.int .i64 b_1_0, .int .i64 b_1_1, .int .i64 b_1_2, .int .i64 b_1_3, .slice b_1_4.a b_1_4.n b_1_4.c]]) w = lexpriorplain_SameStep_S a_0_0 a_0_1 a_0_2 a_0_3 a_0_4 b_1_0 b_1_1 b_1_2 b_1_3 b_1_4 R w := by kernel_rfl
theorem lexpriorplain_SameStep_calls {a_0_0 : Int} {a_0_1 : Int} {a_0_2 : Int} {a_0_3 : Int} {a_0_4 : Sl} {b_1_0 : Int} {b_1_1 : Int} {b_1_2 : Int} {b_1_3 : Int} {b_1_4 : Sl} {R : Ending → World → Prop} {w : World} (h : lexpriorplain_SameStep_S a_0_0 a_0_1 a_0_2 a_0_3 a_0_4 b_1_0 b_1_1 b_1_2 b_1_3 b_1_4 R w) : Calls Tryz.prog 34 #[.agg #[.int .i64 a_0_0, .int .i64 a_0_1, .int .i64 a_0_2, .int .i64 a_0_3, .slice a_0_4.a a_0_4.n a_0_4.c], .agg #[.int .i64 b_1_0, .int .i64 b_1_1, .int .i64 b_1_2, .int .i64 b_1_3, .slice b_1_4.a b_1_4.n b_1_4.c]] w R :=
  calls_of_den okP lexpriorplain_SameStep_ann (f := 34) (fn := Tryz.f34) (c := bodyOf Tryz.f34) (args := [.agg #[.int .i64 a_0_0, .int .i64 a_0_1, .int .i64 a_0_2, .int .i64 a_0_3, .slice a_0_4.a a_0_4.n a_0_4.c], .agg #[.int .i64 b_1_0, .int .i64 b_1_1, .int .i64 b_1_2, .int .i64 b_1_3, .slice b_1_4.a b_1_4.n b_1_4.c]]) Tryz.func34 (by kernel_rfl) (Nat.le_of_ble_eq_true (by kernel_rfl)) ((lexpriorplain_SameStep_eq a_0_0 a_0_1 a_0_2 a_0_3 a_0_4 b_1_0 b_1_1 b_1_2 b_1_3 b_1_4 R w).symm ▸ h)

/-! slices.Equal[[]lexprior/api.Choice,lexprior/api.Choice] (function 68) -/
def slices_Equal_api_Choice_api_Choice_ann : Nat → List Nat
 | 0 => [0, 1, 12, 13]
 | _ => []
noncomputable def slices_Equal_api_Choice_api_Choice_T0 (R : Ending → World → Prop) : (List Value → World → Prop) → List Value → World → Prop :=
 stepAt Tryz.prog 26 slices_Equal_api_Choice_api_Choice_ann (bodyOf Tryz.f68) [1, 1, 0, 1, 0] 0 [] (bodyQ Tryz.prog Tryz.f68 R)
noncomputable def slices_Equal_api_Choice_api_Choice_B0 (R : Ending → World → Prop) (s1_0 : Sl) (s2_1 : Sl) (rec0 : List Value → World → Prop) (x1 : Int) (w2 : World) : Prop :=
br (decide (x1 < (s1_0.n : Int))) (ix s1_0.a s1_0.n x1 2 fun a3 => ldI .i64 w2 a3 fun x4 =>
ldI .i64 w2 (a3.add 1) fun x5 =>
ix s2_1.a s2_1.n x1 2 fun a6 => ldI .i64 w2 a6 fun x7 =>
ldI .i64 w2 (a6.add 1) fun x8 =>
∀ w9, Grow w2 w9 →
br (!((x4 == x7) && ((x5 == x8) && true))) (R (.returned (.bool false)) w9) (rec0 [.slice s1_0.a s1_0.n s1_0.c, .slice s2_1.a s2_1.n s2_1.c, .int .i64 (s1_0.n : Int), .int .i64 (IntKind.wrap .i64 (x1 + 1))] w9)) (R (.returned (.bool true)) w2)
noncomputable def slices_Equal_api_Choice_api_Choice_S (s1_0 : Sl) (s2_1 : Sl) (R : Ending → World → Prop) (w : World) : Prop :=
br ((s1_0.n : Int) != (s2_1.n : Int)) (R (.returned (.bool false)) w) (LoopP (slices_Equal_api_Choice_api_Choice_T0 R) [.slice s1_0.a s1_0.n s1_0.c, .slice s2_1.a s2_1.n s2_1.c, .int .i64 (s1_0.n : Int), .int .i64 0] w)
theorem slices_Equal_api_Choice_api_Choice_B0_eq (R : Ending → World → Prop) (s1_0 : Sl) (s2_1 : Sl) (rec0 : List Value → World → Prop) (x1 : Int) (w : World) : slices_Equal_api_Choice_api_Choice_T0 R rec0 [.slice s1_0.a s1_0.n s1_0.c, .slice s2_1.a s2_1.n s2_1.c, .int .i64 (s1_0.n : Int), .int .i64 x1] w = slices_Equal_api_Choice_api_Choice_B0 R s1_0 s2_1 rec0 x1 w := by kernel_rfl
theorem slices_Equal_api_Choice_api_Choice_rule0 {R : Ending → World → Prop} (s1_0 : Sl) (s2_1 : Sl) {I : Nat → Int → World → Prop}
    (hs : ∀ (k : Nat) (x1 : Int) (w : World), I k x1 w → slices_Equal_api_Choice_api_Choice_B0 R s1_0 s2_1 (fun vs w1 => ∃ j, j < k ∧ ∃ x1', vs = [.slice s1_0.a s1_0.n s1_0.c, .slice s2_1.a s2_1.n s2_1.c, .int .i64 (s1_0.n : Int), .int .i64 x1'] ∧ I j x1' w1) x1 w)
    {k : Nat} {x1 : Int} {w : World} (h : I k x1 w) : LoopP (slices_Equal_api_Choice_api_Choice_T0 R) [.slice s1_0.a s1_0.n s1_0.c, .slice s2_1.a s2_1.n s2_1.c, .int .i64 (s1_0.n : Int), .int .i64 x1] w := by
  refine LoopP.rule (fun k vs w => ∃ x1', vs = [.slice s1_0.a s1_0.n s1_0.c, .slice s2_1.a s2_1.n s2_1.c, .int .i64 (s1_0.n : Int), .int .i64 x1'] ∧ I k x1' w) ?_ k ⟨_, rfl, h⟩
  intro k vs w h
  obtain ⟨x1, rfl, h⟩ := h
  rw [slices_Equal_api_Choice_api_Choice_B0_eq]
  exact hs k x1 w h
theorem slices_Equal_api_Choice_api_Choice_eq (s1_0 : Sl) (s2_1 : Sl) (R : Ending → World → Prop) (w : World) : den Tryz.prog 26 slices_Equal_api_Choice_api_Choice_ann (bodyOf Tryz.f68) 0 (bodyQ Tryz.prog Tryz.f68 R) (argE 0 [.slice s1_0.a s1_0.n s1_0.c, .slice s2_1.a s2_1.n s2_1.c]) w = slices_Equal_api_Choice_api_Choice_S s1_0 s2_1 R w := by kernel_rfl
theorem slices_Equal_api_Choice_api_Choice_calls {s1_0 : Sl} {s2_1 : Sl} {R : Ending → World → Prop} {w : World} (h : slices_Equal_api_Choice_api_Choice_S s1_0 s2_1 R w) : Calls Tryz.prog 68 #[.slice s1_0.a s1_0.n s1_0.c, .slice s2_1.a s2_1.n s2_1.c] w R :=
  calls_of_den okP slices_Equal_api_Choice_api_Choice_ann (f := 68) (fn := Tryz.f68) (c := bodyOf Tryz.f68) (args := [.slice s1_0.a s1_0.n s1_0.c, .slice s2_1.a s2_1.n s2_1.c]) Tryz.func68 (by kernel_rfl) (Nat.le_of_ble_eq_true (by kernel_rfl)) ((slices_Equal_api_Choice_api_Choice_eq s1_0 s2_1 R w).symm ▸ h)

/-! lexprior/lexpriorplain.SameChoices (function 69) -/
def lexpriorplain_SameChoices_ann : Nat → List Nat
 | 0 => [0, 1, 5]
 | _ => []
noncomputable def lexpriorplain_SameChoices_T0 (R : Ending → World → Prop) : (List Value → World → Prop) → List Value → World → Prop :=
 stepAt Tryz.prog 26 lexpriorplain_SameChoices_ann (bodyOf Tryz.f69) [1, 1, 0, 1, 0] 0 [] (bodyQ Tryz.prog Tryz.f69 R)
noncomputable def lexpriorplain_SameChoices_B0 (R : Ending → World → Prop) (a_0 : Sl) (b_1 : Sl) (rec0 : List Value → World → Prop) (x1 : Int) (w2 : World) : Prop :=
br (decide (x1 < (a_0.n : Int))) (ix a_0.a a_0.n x1 2 fun a3 => ldI .i64 w2 a3 fun x4 =>
ldI .i64 w2 (a3.add 1) fun x5 =>
ix b_1.a b_1.n x1 2 fun a6 => ldI .i64 w2 a6 fun x7 =>
ldI .i64 w2 (a6.add 1) fun x8 =>
∀ w9, Grow w2 w9 →
br (!((x4 == x7) && ((x5 == x8) && true))) (R (.returned (.bool false)) w9) (rec0 [.slice a_0.a a_0.n a_0.c, .slice b_1.a b_1.n b_1.c, .int .i64 (IntKind.wrap .i64 (x1 + 1))] w9)) (R (.returned (.bool true)) w2)
noncomputable def lexpriorplain_SameChoices_S (a_0 : Sl) (b_1 : Sl) (R : Ending → World → Prop) (w : World) : Prop :=
br ((a_0.n : Int) != (b_1.n : Int)) (R (.returned (.bool false)) w) (LoopP (lexpriorplain_SameChoices_T0 R) [.slice a_0.a a_0.n a_0.c, .slice b_1.a b_1.n b_1.c, .int .i64 0] w)
theorem lexpriorplain_SameChoices_B0_eq (R : Ending → World → Prop) (a_0 : Sl) (b_1 : Sl) (rec0 : List Value → World → Prop) (x1 : Int) (w : World) : lexpriorplain_SameChoices_T0 R rec0 [.slice a_0.a a_0.n a_0.c, .slice b_1.a b_1.n b_1.c, .int .i64 x1] w = lexpriorplain_SameChoices_B0 R a_0 b_1 rec0 x1 w := by kernel_rfl
theorem lexpriorplain_SameChoices_rule0 {R : Ending → World → Prop} (a_0 : Sl) (b_1 : Sl) {I : Nat → Int → World → Prop}
    (hs : ∀ (k : Nat) (x1 : Int) (w : World), I k x1 w → lexpriorplain_SameChoices_B0 R a_0 b_1 (fun vs w1 => ∃ j, j < k ∧ ∃ x1', vs = [.slice a_0.a a_0.n a_0.c, .slice b_1.a b_1.n b_1.c, .int .i64 x1'] ∧ I j x1' w1) x1 w)
    {k : Nat} {x1 : Int} {w : World} (h : I k x1 w) : LoopP (lexpriorplain_SameChoices_T0 R) [.slice a_0.a a_0.n a_0.c, .slice b_1.a b_1.n b_1.c, .int .i64 x1] w := by
  refine LoopP.rule (fun k vs w => ∃ x1', vs = [.slice a_0.a a_0.n a_0.c, .slice b_1.a b_1.n b_1.c, .int .i64 x1'] ∧ I k x1' w) ?_ k ⟨_, rfl, h⟩
  intro k vs w h
  obtain ⟨x1, rfl, h⟩ := h
  rw [lexpriorplain_SameChoices_B0_eq]
  exact hs k x1 w h
theorem lexpriorplain_SameChoices_eq (a_0 : Sl) (b_1 : Sl) (R : Ending → World → Prop) (w : World) : den Tryz.prog 26 lexpriorplain_SameChoices_ann (bodyOf Tryz.f69) 0 (bodyQ Tryz.prog Tryz.f69 R) (argE 0 [.slice a_0.a a_0.n a_0.c, .slice b_1.a b_1.n b_1.c]) w = lexpriorplain_SameChoices_S a_0 b_1 R w := by kernel_rfl
theorem lexpriorplain_SameChoices_calls {a_0 : Sl} {b_1 : Sl} {R : Ending → World → Prop} {w : World} (h : lexpriorplain_SameChoices_S a_0 b_1 R w) : Calls Tryz.prog 69 #[.slice a_0.a a_0.n a_0.c, .slice b_1.a b_1.n b_1.c] w R :=
  calls_of_den okP lexpriorplain_SameChoices_ann (f := 69) (fn := Tryz.f69) (c := bodyOf Tryz.f69) (args := [.slice a_0.a a_0.n a_0.c, .slice b_1.a b_1.n b_1.c]) Tryz.func69 (by kernel_rfl) (Nat.le_of_ble_eq_true (by kernel_rfl)) ((lexpriorplain_SameChoices_eq a_0 b_1 R w).symm ▸ h)

end Go.Proofs.YtagndjglhlpljaaGreat
