/-
  A verified executor, part 12: code and calls. Own work. It is generic: no program is named.
-/
import Derived.Test.YtagndjglhlpljaaGreatRunS
namespace Go.Den
open Go.RowKit (Below)

inductive Xk where
  | normal | exit (id : Nat) | ret
def Xk.exit' : Xk → Exit
  | .normal => .normal
  | .exit id => .exit id
  | .ret => .ret
def aGetAll (E : AEnv) : List Nat → Option (List A)
  | [] => some []
  | i :: r => (match E.get i with
    | some v => (match aGetAll E r with
      | some vs => some (v :: vs)
      | none => none)
    | none => none)
def zipA : List Nat → List A → AEnv
  | i :: is, v :: vs => (i, v) :: zipA is vs
  | _, _ => []
theorem aGetAll_ok {E : AEnv} (r : Nat → Nat × Nat) : ∀ {l : List Nat} {as : List A}, aGetAll E l = some as → getAll (concE r E) l = some (concL r as) := by
  intro l
  induction l with
  | nil => intro as h; cases h; rfl
  | cons i l ih =>
    intro as h
    simp only [aGetAll] at h
    split at h
    · rename_i v hv
      split at h
      · rename_i vs hvs
        cases h
        simp only [getAll, concE_get, hv, Option.map_some, ih hvs, concL]
      · cases h
    · cases h
theorem aGetAll_wf {n : Nat} {E : AEnv} (hw : wfE n E = true) : ∀ {l : List Nat} {as : List A}, aGetAll E l = some as → wfL n as = true := by
  intro l
  induction l with
  | nil => intro as h; cases h; rfl
  | cons i l ih =>
    intro as h
    simp only [aGetAll] at h
    split at h
    · rename_i v hv
      split at h
      · rename_i vs hvs; cases h; exact wfL_cons.2 ⟨wfE_get hw hv, ih hvs⟩
      · cases h
    · cases h
theorem zipA_conc (r : Nat → Nat × Nat) : ∀ (l : List Nat) (as : List A), concE r (zipA l as) = zipE l (concL r as) := by
  intro l
  induction l with
  | nil => intro as; cases as <;> rfl
  | cons i l ih => intro as; cases as with | nil => rfl | cons a as => simp only [zipA, concE, concL, zipE, ih]
theorem zipA_wf {n : Nat} : ∀ (l : List Nat) (as : List A), wfL n as = true → wfE n (zipA l as) = true := by
  intro l
  induction l with
  | nil => intro as _; cases as <;> rfl
  | cons i l ih => intro as h; cases as with | nil => rfl | cons a as => exact wfE_cons.2 ⟨(wfL_cons.1 h).1, ih as (wfL_cons.1 h).2⟩

def exR (P : Program) (call : Caller) (W : Nat → Bool) (N : Nat) (plan : List Nat) (ops : Array Oper) (draw : Bool) (E : AEnv) (H : AH) : Option (AEnv × AH) :=
  match draw with
  | false => exOps P call W N ops ops.toList E H
  | true => (match plan with
    | [] => (match exQ P call N ops ops.toList E H with | some E1 => some (E1, H) | none => none)
    | c :: l => (match needsS ops (c :: l) with
      | false => exZ P call W N ops (kdOf (c :: l)) false (div4 (c :: l)) E H
      | true => exZT P call W N ops (kdOf (c :: l)) (div4 (c :: l)) E H))
/-- do the plans serve every order? -/
def regPl (plan : List Nat) (ops : Array Oper) (draw : Bool) : Bool :=
  match draw with
  | false => true
  | true => (match plan with
    | [] => (match allQuiet ops.toList with | true => Region.lexB .any ops | false => false)
    | c :: l => (match zB ops (kdOf (c :: l)) (div4 (c :: l)) with | true => Nat.beq (div4 (c :: l)).length ops.size | false => false))
def codePl (ann : Nat → List Nat) : Code → Bool
  | .region id ops draw => regPl (ann (1000000 + id)) ops draw
  | .seq x y => (match codePl ann x with | true => codePl ann y | false => false)
  | .cond _ x y => (match codePl ann x with | true => codePl ann y | false => false)
  | .block _ c => codePl ann c
  | .loop c => codePl ann c
  | .rangeFunc _ _ x y => (match codePl ann x with | true => codePl ann y | false => false)
  | _ => true
theorem and_both {a b : Bool} (h : (match a with | true => b | false => false) = true) : a = true ∧ b = true := by
  cases a with
  | true => exact ⟨rfl, h⟩
  | false => cases h
def exC (P : Program) (call : Caller) (W : Nat → Bool) (N : Nat) (ann : Nat → List Nat) : Nat → Code → Nat → AEnv → AH → Option (Xk × AEnv × AH)
  | 0, _, _, _, _ => none
  | f + 1, c, b, E, H => (match c with
    | .skip => some (.normal, E, H)
    | .region id ops draw => (match exR P call W N (ann (1000000 + id)) ops draw E H with | some (E1, H1) => some (.normal, E1, H1) | none => none)
    | .seq x y => (match exC P call W N ann f x b E H with
      | some (.normal, E1, H1) => exC P call W N ann f y b E1 H1
      | other => other)
    | .cond c x y => (match aev E c with
      | some (.lit (.bool true)) => exC P call W N ann f x b E H
      | some (.lit (.bool false)) => exC P call W N ann f y b E H
      | _ => none)
    | .block id c => (match exC P call W N ann f c id E H with
      | some (.exit j, E1, H1) => (match Nat.beq j id with
        | true => some (.normal, E1, H1)
        | false => some (.exit j, E1, H1))
      | other => other)
    | .loop c => (match aGetAll E (ann b) with
      | some vs => (match exC P call W N ann f c b (zipA (ann b) vs) H with
        | some (.normal, E1, H1) => exC P call W N ann f (.loop c) b E1 H1
        | other => other)
      | none => none)
    | .exit id => some (.exit id, E, H)
    | .ret => some (.ret, E, H)
    | _ => none)

section
variable {P : Program}
theorem exR_den {call : Caller} (hc : CallOk P call) {W : Nat → Bool} {N id : Nat} {ann : Nat → List Nat} {ops : Array Oper} {draw : Bool} {b : Nat} {Q : Exit → Env → World → Prop} {E E' : AEnv} {H H' : AH} {r : Nat → Nat × Nat} {w : World}
    (hpl : regPl (ann (1000000 + id)) ops draw = true) (h : exR P call W N (ann (1000000 + id)) ops draw E H = some (E', H')) (hR : Rel r H w) (hw : wfE H.n E = true)
    (hk : ∀ r' w', Post W r H w r' H' w' → wfE H'.n E' = true → Q .normal (concE r' E') w') : den P N ann (.region id ops draw) b Q (concE r E) w := by
  unfold exR at h
  simp only [den]
  split at h
  · exact exOps_den hc h hR hw hk
  · unfold drawD
    unfold regPl at hpl
    dsimp only at hpl
    split at h
    · rename_i hp
      simp only [hp] at hpl ⊢
      obtain ⟨h1, h2⟩ := and_both hpl
      unfold drawQ
      simp only [h1, h2]
      split at h
      · rename_i E1 hq
        cases h
        exact exQ_den hc hR hq hw fun hw' w' hg => hk r w' (Post.grow hR hg) hw'
      · cases h
    · rename_i c l hp
      simp only [hp] at hpl ⊢
      obtain ⟨h1, h2⟩ := and_both hpl
      split at h
      · rename_i h3
        simp only [h1, h2, h3]
        exact exZ_den hc hR h (Post.refl hR) (fun _ i h4 h5 => by omega) hw hk
      · rename_i h3
        simp only [h1, h2, h3]
        exact exZT_den hc h hR hw hk

theorem exC_den {call : Caller} (hc : CallOk P call) {W : Nat → Bool} {N : Nat} {ann : Nat → List Nat} : ∀ (f : Nat) {c : Code} {b : Nat} {Q : Exit → Env → World → Prop} {E E' : AEnv} {H H' : AH} {k : Xk} {r : Nat → Nat × Nat} {w : World},
    codePl ann c = true → exC P call W N ann f c b E H = some (k, E', H') → Rel r H w → wfE H.n E = true → (∀ r' w', Post W r H w r' H' w' → wfE H'.n E' = true → Q k.exit' (concE r' E') w') → den P N ann c b Q (concE r E) w := by
  intro f
  induction f using Nat.strongRecOn with
  | _ f ih =>
    intro c b Q E E' H H' k r w hpl h hR hw hk
    cases f with
    | zero => cases h
    | succ f =>
      have ihf := fun {c b Q E E' H H' k r w} => @ih f (Nat.lt_succ_self f) c b Q E E' H H' k r w
      cases c <;> simp only [exC, reduceCtorEq] at h
      case skip => cases h; exact hk r w (Post.refl hR) hw
      case region id ops draw =>
        split at h
        · rename_i E1 H1 h1; cases h; exact exR_den hc hpl h1 hR hw hk
        · cases h
      case seq x y =>
        simp only [den]
        obtain ⟨hpx, hpy⟩ := and_both hpl
        split at h
        · rename_i E1 H1 h1
          exact ihf hpx h1 hR hw fun r' w' hp hw' => ihf hpy h hp.rel hw' fun r2 w2 hp2 hw2 => hk r2 w2 (hp.trans hp2) hw2
        · rename_i hne
          refine ihf hpx h hR hw fun r' w' hp hw' => ?_
          cases k with
          | normal => exact absurd h (hne _ _)
          | exit id => exact hk r' w' hp hw'
          | ret => exact hk r' w' hp hw'
      case cond c x y =>
        simp only [den]
        obtain ⟨hpx, hpy⟩ := and_both hpl
        split at h
        · rename_i hx
          simp only [(aev_ok hx r).2, A.conc, (aev_ok hx r).1]
          exact ihf hpx h hR hw hk
        · rename_i hx
          simp only [(aev_ok hx r).2, A.conc, (aev_ok hx r).1]
          exact ihf hpy h hR hw hk
        · cases h
      case block id c =>
        simp only [den]
        split at h
        · rename_i j E1 H1 h1
          refine ihf hpl h1 hR hw fun r' w' hp hw' => ?_
          simp only [Xk.exit', blockD]
          split at h
          · rename_i hj; cases h; simp only [hj]; exact hk r' w' hp hw'
          · rename_i hj; cases h; simp only [hj]; exact hk r' w' hp hw'
        · rename_i hne
          refine ihf hpl h hR hw fun r' w' hp hw' => ?_
          cases k with
          | normal => exact hk r' w' hp hw'
          | exit id => exact absurd h (hne _ _ _)
          | ret => exact hk r' w' hp hw'
      case loop c =>
        simp only [den]
        split at h
        · rename_i vs hvs
          simp only [aGetAll_ok r hvs]
          let I : Nat → List Value → World → Prop := fun g ws w1 => ∃ (r1 : Nat → Nat × Nat) (H1 : AH) (as : List A), g ≤ f ∧ ws = concL r1 as ∧ wfL H1.n as = true ∧ Post W r H w r1 H1 w1 ∧
            (match exC P call W N ann g c b (zipA (ann b) as) H1 with
              | some (.normal, E1, H2) => exC P call W N ann g (.loop c) b E1 H2
              | other => other) = some (k, E', H')
          refine LoopP.rule I ?_ f ⟨r, H, vs, Nat.le_refl _, rfl, aGetAll_wf hw hvs, Post.refl hR, h⟩
          rintro g ws w1 ⟨r1, H1, as, hgf, rfl, hwas, hp1, hx⟩
          have ihg := fun {c b Q E E' H H' k r w} => @ih g (by omega) c b Q E E' H H' k r w
          rw [← zipA_conc]
          split at hx
          · rename_i E1 H2 h1
            refine ihg hpl h1 hp1.rel (zipA_wf _ _ hwas) fun r2 w2 hp2 hw2 => ?_
            cases g with
            | zero => cases hx
            | succ g =>
              simp only [exC] at hx
              split at hx
              · rename_i vs2 hvs2
                simp only [Xk.exit', roundD, aGetAll_ok r2 hvs2]
                exact ⟨g, Nat.lt_succ_self g, r2, H2, vs2, by omega, rfl, aGetAll_wf hw2 hvs2, hp1.trans hp2, hx⟩
              · cases hx
          · rename_i hne
            refine ihg hpl hx hp1.rel (zipA_wf _ _ hwas) fun r2 w2 hp2 hw2 => ?_
            cases k with
            | normal => exact absurd hx (hne _ _)
            | exit id => exact hk r2 w2 (hp1.trans hp2) hw2
            | ret => exact hk r2 w2 (hp1.trans hp2) hw2
        · cases h
      case exit id => cases h; exact hk r w (Post.refl hR) hw
      case ret => cases h; exact hk r w (Post.refl hR) hw

/-! ### Calls -/
def aRes (P : Program) (H : AH) : List ResultVar → AEnv → Option (List A)
  | [], _ => some []
  | .tmp t :: r, E => (match E.get t, aRes P H r E with
    | some v, some vs => some (v :: vs)
    | _, _ => none)
  | .cell t T :: r, E => (match E.get t with
    | some (.ptr b off) => (match aRead P H T b off, aRes P H r E with
      | some v, some vs => some (v :: vs)
      | _, _ => none)
    | _ => none)
theorem aRes_ok {r : Nat → Nat × Nat} {H : AH} {w : World} (hR : Rel r H w) {E : AEnv} : ∀ {rs : List ResultVar} {l : List A} {K : List Value → Prop}, aRes P H rs E = some l → K (concL r l) → resD P rs (concE r E) w K := by
  intro rs
  induction rs with
  | nil => intro l K h hk; cases h; exact hk
  | cons x rs ih =>
    intro l K h hk
    cases x with
    | tmp t =>
      simp only [aRes] at h
      split at h
      · rename_i v vs hv hvs
        cases h
        simp only [resD, concE_get, hv, Option.map_some]
        exact ih hvs hk
      · cases h
    | cell t T =>
      simp only [aRes] at h
      split at h
      · rename_i b off hv
        split at h
        · rename_i v vs hr hvs
          cases h
          simp only [resD, concE_get, hv, Option.map_some, A.conc, getSome]
          exact aRead_ok hR hr (ih hvs hk)
        · cases h
      · cases h
def retA : List A → A
  | [a] => a
  | l => .tup l
theorem retA_conc (r : Nat → Nat × Nat) (l : List A) : (retA l).conc r = retV (concL r l) := by
  match l with
  | [] => rfl
  | [a] => rfl
  | a :: b :: l => rfl
def argA : Nat → List A → AEnv
  | _, [] => []
  | i, a :: l => (i, a) :: argA (i + 1) l
theorem argA_conc (r : Nat → Nat × Nat) : ∀ (l : List A) (i : Nat), concE r (argA i l) = argE i (concL r l) := by
  intro l
  induction l with
  | nil => intro i; rfl
  | cons a l ih => intro i; simp only [argA, concE, concL, argE, ih]
theorem argA_wf {n : Nat} : ∀ (l : List A) (i : Nat), wfL n l = true → wfE n (argA i l) = true := by
  intro l
  induction l with
  | nil => intro i _; rfl
  | cons a l ih => intro i h; exact wfE_cons.2 ⟨(wfL_cons.1 h).1, ih (i + 1) (wfL_cons.1 h).2⟩

end
end Go.Den
