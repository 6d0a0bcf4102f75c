/-
  A verified executor, part 10: regions. Own work. It is generic: no program is named.
-/
import Derived.Test.YtagndjglhlpljaaGreatRun2
namespace Go.Den
open Go.RowKit (Below)

theorem Rel.more {r : Nat → Nat × Nat} {H H' : AH} {w w' : World} {o : AO} {ob : Obj} {n m : Nat} (h : Rel r H w) (hp : H.push o = some H') (ho : o.wf H.n = true)
    (hdead : ∀ i o, H.get i = some o → (r i).1 ≠ n) (hat : w'.heap[n]? = some ob) (hlies : o.lies r m ob) (g : Grow w w') : Rel (upd r H.n (n, m)) H' w' := by
  obtain ⟨hn', hget⟩ := AH.push_spec hp
  have hsame := upd_same r H.n (n, m)
  have hnew := upd_new r H.n (n, m)
  have hold : ∀ i x, H'.get i = some x → i ≠ H.n → H.get i = some x := fun i x hi hne => by rw [hget, if_neg hne] at hi; exact hi
  refine ⟨fun i x hi => ?_, fun i j x y hi hj hij => ?_, fun i hi => ?_, fun i x hi => ?_⟩
  · by_cases he : i = H.n
    · subst he
      rw [hget, if_pos rfl] at hi
      cases hi
      rw [hnew]
      exact ⟨ob, hat, (AO.lies_congr hsame ho).2 hlies⟩
    · have hi' := hold i x hi he
      have hlt := AH.get_lt hi'
      obtain ⟨ob', h1, h2⟩ := h.at_ i x hi'
      rw [hsame i hlt]
      exact ⟨ob', g.heap h1, (AO.lies_congr hsame (h.wf i x hi')).2 h2⟩
  · by_cases h1 : i = H.n
    · by_cases h2 : j = H.n
      · omega
      · have hj' := hold j y hj h2
        subst h1; rw [hnew, hsame j (AH.get_lt hj')] at hij; exact absurd hij.symm (hdead j y hj')
    · have hi' := hold i x hi h1
      by_cases h2 : j = H.n
      · subst h2; rw [hnew, hsame i (AH.get_lt hi')] at hij; exact absurd hij (hdead i x hi')
      · have hj' := hold j y hj h2
        rw [hsame i (AH.get_lt hi'), hsame j (AH.get_lt hj')] at hij; exact h.inj i j x y hi' hj' hij
  · by_cases h1 : i = H.n
    · subst h1; rw [hnew]; exact (Array.getElem?_eq_some_iff.1 hat).1
    · rw [hsame i (by omega)]; exact Nat.lt_of_lt_of_le (h.lt i (by omega)) g.size
  · by_cases he : i = H.n
    · subst he; rw [hget, if_pos rfl] at hi; cases hi; exact AO.wf_mono (by omega) ho
    · exact AO.wf_mono (by omega) (h.wf i x (hold i x hi he))

section
variable {P : Program} {ops : Array Oper}

def aGuard (ops : Array Oper) (o : Oper) (E : AEnv) : Option (Bool × AEnv) :=
  match o.guard with
  | none => some (true, E)
  | some (j, want) => (match ops[j]? with
    | none => none
    | some oj => (match oj.dst with
      | none => none
      | some d => (match E.get d with
        | some (.lit (.bool b)) => some (b == want, (d, .lit (.bool b)) :: E)
        | some (.lit (.tuple _)) => some (false, E)
        | some (.tup _) => some (false, E)
        | _ => none)))
theorem aGuard_ok {o : Oper} {E E' : AEnv} {t : Bool} (h : aGuard ops o E = some (t, E')) (r : Nat → Nat × Nat) {n : Nat} (hw : wfE n E = true) {go skip : Env → Prop} (hgo : t = true → go (concE r E')) (hskip : t = false → skip (concE r E')) :
    wfE n E' = true ∧ guardD ops o (concE r E) go skip := by
  unfold aGuard at h
  unfold guardD
  split at h
  · rename_i hg; cases h; rw [hg]; exact ⟨hw, hgo rfl⟩
  · rename_i j want hg
    rw [hg]
    split at h
    · cases h
    · rename_i oj hj
      simp only [hj]
      split at h
      · cases h
      · rename_i d hd
        simp only [hd, concE_get]
        split at h
        · rename_i b hb
          cases h
          simp only [hb, Option.map_some, A.conc]
          refine ⟨wfE_cons.2 ⟨rfl, hw⟩, ?_⟩
          cases b <;> cases want <;> first | exact hgo rfl | exact hskip rfl
        · rename_i vs hb; cases h; simp only [hb, Option.map_some, A.conc]; exact ⟨hw, hskip rfl⟩
        · rename_i l hb; cases h; simp only [hb, Option.map_some, A.conc]; exact ⟨hw, hskip rfl⟩
        · cases h
def putA (N : Nat) (dst : Option Nat) (a : A) (E : AEnv) : Option AEnv :=
  match dst with
  | none => some E
  | some d => (match Nat.blt d N with
    | true => some ((d, a) :: E)
    | false => none)
theorem putA_ok {N : Nat} {dst : Option Nat} {a : A} {E E' : AEnv} (h : putA N dst a E = some E') (r : Nat → Nat × Nat) {K : Env → Prop} (hk : K (concE r E')) : putD N dst (a.conc r) (concE r E) K := by
  unfold putA at h
  unfold putD
  split at h
  · cases h; exact hk
  · split at h
    · rename_i hd; cases h; simp only [hd]; exact hk
    · cases h
theorem putA_wf {N n : Nat} {dst : Option Nat} {a : A} {E E' : AEnv} (h : putA N dst a E = some E') (hw : wfE n E = true) (ha : a.wf n = true) : wfE n E' = true := by
  unfold putA at h
  split at h
  · cases h; exact hw
  · split at h
    · cases h; exact wfE_cons.2 ⟨ha, hw⟩
    · cases h

/-! ### Regions in order -/
def exOp (P : Program) (call : Caller) (W : Nat → Bool) (N : Nat) (ops : Array Oper) (o : Oper) (E : AEnv) (H : AH) : Option (AEnv × AH) :=
  match aGuard ops o E with
  | some (true, E1) => (match aevL E1 o.op.operands.toList with
    | some _ => (match aOp P call W o E1 H with
      | some (a, H1) => (match a.wf H1.n with
        | true => (match putA N o.dst a E1 with
          | some E2 => some (E2, H1)
          | none => none)
        | false => none)
      | none => none)
    | none => none)
  | some (false, E1) => (match putA N o.dst (.lit undef) E1 with
    | some E2 => some (E2, H)
    | none => none)
  | none => none
theorem exOp_den {call : Caller} (hc : CallOk P call) {W : Nat → Bool} {N : Nat} {o : Oper} {E E' : AEnv} {H H' : AH} (h : exOp P call W N ops o E H = some (E', H')) {r : Nat → Nat × Nat} {w : World} (hR : Rel r H w) (hw : wfE H.n E = true)
    {pan : Env → List PanicEntry → World → Prop} {K : Env → World → Prop} (hk : ∀ r' w', Post W r H w r' H' w' → wfE H'.n E' = true → K (concE r' E') w') :
    guardD ops o (concE r E) (fun E => denOp P o E (pan E) (fun v w' => putD N o.dst v E fun E' => K E' w') w) (fun E => putD N o.dst undef E fun E' => K E' w) := by
  unfold exOp at h
  split at h
  · rename_i E1 hg
    refine (aGuard_ok hg r hw (fun _ => ?_) (fun hf => by cases hf)).2
    have hw1 := (aGuard_ok hg r hw (go := fun _ => True) (skip := fun _ => True) (fun _ => trivial) (fun _ => trivial)).1
    split at h
    · rename_i as hall
      split at h
      · rename_i a H1 hop
        split at h
        · rename_i hwf
          split at h
          · rename_i E2 hput
            cases h
            refine aOp_den hc hop hall hR hw1 fun r' w' hp => ?_
            have he : concE r' E1 = concE r E1 := concE_congr hp.ext hw1
            rw [← he]
            exact putA_ok hput r' (hk r' w' hp (putA_wf hput (wfE_mono hp.le hw1) hwf))
          · cases h
        · cases h
      · cases h
    · cases h
  · rename_i E1 hg
    refine (aGuard_ok hg r hw (fun hf => by cases hf) (fun _ => ?_)).2
    have hw1 := (aGuard_ok hg r hw (go := fun _ => True) (skip := fun _ => True) (fun _ => trivial) (fun _ => trivial)).1
    split at h
    · rename_i E2 hput
      cases h
      exact putA_ok hput r (hk r w (Post.refl hR) (putA_wf hput hw1 rfl))
    · cases h
  · cases h

def exOps (P : Program) (call : Caller) (W : Nat → Bool) (N : Nat) (ops : Array Oper) : List Oper → AEnv → AH → Option (AEnv × AH)
  | [], E, H => some (E, H)
  | o :: l, E, H => (match exOp P call W N ops o E H with
    | some (E1, H1) => exOps P call W N ops l E1 H1
    | none => none)
theorem exOps_den {call : Caller} (hc : CallOk P call) {W : Nat → Bool} {N : Nat} {Q : Exit → Env → World → Prop} : ∀ {l : List Oper} {E E' : AEnv} {H H' : AH} {r : Nat → Nat × Nat} {w : World}, exOps P call W N ops l E H = some (E', H') → Rel r H w → wfE H.n E = true →
    (∀ r' w', Post W r H w r' H' w' → wfE H'.n E' = true → Q .normal (concE r' E') w') → denOps P N ops Q l (concE r E) w := by
  intro l
  induction l with
  | nil => intro E E' H H' r w h hR hw hk; cases h; exact hk r w (Post.refl hR) hw
  | cons o l ih =>
    intro E E' H H' r w h hR hw hk
    simp only [exOps] at h
    split at h
    · rename_i E1 H1 h1
      unfold denOps
      exact exOp_den hc h1 hR hw (pan := fun E ch w' => Q (.panic ch) E w') fun r' w' hp hw' => ih h hp.rel hw' fun r2 w2 hp2 hw2 => hk r2 w2 (hp.trans hp2) hw2
    · cases h
end
end Go.Den
