/-
  A verified executor, part 14: calls; functions that hold a loop over a function. Own work. It is generic: no program is named.
-/
import Derived.Test.YtagndjglhlpljaaGreatRunL
namespace Go.Den
open Go.RowKit (Below)

def hasR : Code → Bool
  | .rangeFunc _ _ _ _ => true
  | .seq x y => match hasR x with | true => true | false => hasR y
  | .block _ c => hasR c
  | _ => false

/-- code with one loop over a function -/
def exF (P : Program) (call : Caller) (W : Nat → Bool) (N : Nat) (ann : FuncId → Nat → List Nat) (ok : FuncId → Bool) (me : FuncId) (fuel : Nat) : Nat → Code → Nat → AEnv → AH → Option (Xk × AEnv × AH)
  | 0, _, _, _, _ => none
  | f + 1, c, b, E, H => (match c with
    | .seq x y => (match hasR x with
      | true => (match noDef y, exF P call W N ann ok me fuel f x b E H with
        | true, some (.normal, E1, H1) => exC P call W N (ann me) fuel y b E1 H1
        | _, _ => none)
      | false => (match noDef x, exC P call W N (ann me) fuel x b E H with
        | true, some (.normal, E1, H1) => exF P call W N ann ok me fuel f y b E1 H1
        | _, _ => none))
    | .block id c => (match exF P call W N ann ok me fuel f c id E H with
      | some (.normal, E1, H1) => some (.normal, E1, H1)
      | _ => none)
    | .rangeFunc g ps assign body => (match exRange P call W N ann ok me fuel g ps.toList assign body E H with
      | some H1 => some (.normal, E, H1)
      | none => none)
    | _ => none)

section
variable {P : Program} {W : Nat → Bool}

theorem exF_wpIn (hP : OkP P) {call : Caller} (hc : CallOk P call) {N : Nat} {ann : FuncId → Nat → List Nat} {ok : FuncId → Bool} (hok : PlOk P ann ok) {me : FuncId} {fuel : Nat} :
    ∀ (f : Nat) {c : Code} {b : Nat} {Q : Nat → Exit → Env → World → Prop} {E E' : AEnv} {H H' : AH} {k : Xk} {r : Nat → Nat × Nat} {w : World} {a : Act}, codePl (ann me) c = true → exF P call W N ann ok me fuel f c b E H = some (k, E', H') → Rel r H w → wfE H.n E = true → Fits N [] (concE r E) a →
    (∀ D r' w', Post W r H w r' H' w' → wfE H'.n E' = true → (∀ i, W i = true → i < H'.n → (r' i).1 ≠ D) → w'.heap[D]? = some (.deferred (some [])) → w.heap.size ≤ D → Q D k.exit' (concE r' E') w') →
    c.wpIn (FR none) 0 P (fun e a w => ∃ D, LQ N [mark D] (Q D) e a w) a w := by
  intro f
  induction f with
  | zero => intro c b Q E E' H H' k r w a _ h; cases h
  | succ f ih =>
    intro c b Q E E' H H' k r w a hpl h hR hw hf hk
    cases c <;> simp only [exF, reduceCtorEq] at h
    case seq x y =>
      obtain ⟨hpx, hpy⟩ := and_both hpl
      split at h
      · split at h
        · rename_i E1 H1 hnd h1
          refine wpIn_seq (wpIn_mono (ih (Q := fun D e E w' => e = .normal ∧ ∃ r1, E = concE r1 E1 ∧ Post W r H w r1 H1 w' ∧ wfE H1.n E1 = true ∧ (∀ i, W i = true → i < H1.n → (r1 i).1 ≠ D) ∧ w'.heap[D]? = some (.deferred (some [])) ∧ w.heap.size ≤ D) hpx h1 hR hw hf fun D r' w' hp hw' h1 h2 h3 => ⟨rfl, r', rfl, hp, hw', h1, h2, h3⟩) ?_)
          rintro e a' w' ⟨D, E2, hf', rfl, r1, rfl, hp, hw', hoff, hat, hD⟩
          refine wpIn_mono (den_wpIn hP (ann me) none y b (Q D) _ a' w' hnd hf' (exC_den hc fuel hpy h hp.rel hw' fun r2 w2 hp2 hw2 => ?_)) fun e a w h => ⟨D, h⟩
          exact hk D r2 w2 (hp.trans hp2) hw2 (off_post hp2 (lt_of_at hat) hoff) ((hp2.keep D (lt_of_at hat) hoff).trans hat) hD
        · cases h
      · split at h
        · rename_i E1 H1 hnd h1
          refine wpIn_seq (wpIn_mono (den_wpIn hP (ann me) none x b (fun e E w' => e = .normal ∧ ∃ r1, E = concE r1 E1 ∧ Post W r H w r1 H1 w' ∧ wfE H1.n E1 = true) _ a w hnd hf (exC_den hc fuel hpx h1 hR hw fun r' w' hp hw' => ⟨rfl, r', rfl, hp, hw'⟩)) ?_)
          rintro e a' w' ⟨E2, hf', rfl, r1, rfl, hp, hw'⟩
          exact ih hpy h hp.rel hw' hf' fun D r2 w2 hp2 hw2 h2 h3 h4 => hk D r2 w2 (hp.trans hp2) hw2 h2 h3 (Nat.le_trans hp.size h4)
        · cases h
    case block id c =>
      split at h
      · rename_i E1 H1 h1
        cases h
        refine wpIn_block (wpIn_mono (ih (Q := fun D e E w' => e = .normal ∧ Q D .normal E w') hpl h1 hR hw hf fun D r' w' hp hw' h1 h2 h3 => ⟨rfl, hk D r' w' hp hw' h1 h2 h3⟩) ?_)
        rintro e a' w' ⟨D, E2, hf', rfl, hq⟩
        exact ⟨D, E2, hf', hq⟩
      · cases h
    case rangeFunc g ps assign body =>
      split at h
      · rename_i H1 h1
        cases h
        refine exRange_wpIn hP hc hpl hok h1 hR hw hf fun D r' w' hp h2 h3 h4 => ⟨D, concE r E, ⟨rfl, hf.size, hf.val⟩, ?_⟩
        rw [← concE_congr hp.ext hw]
        exact hk D r' w' hp (wfE_mono hp.le hw) h2 h3 h4
      · cases h

theorem exF_calls (hP : OkP P) {call : Caller} (hc : CallOk P call) {ann : FuncId → Nat → List Nat} {ok : FuncId → Bool} (hok : PlOk P ann ok) {me : FuncId} {fuel : Nat} {fn : Func} {c : Code} {args : List A} {E' : AEnv} {H H' : AH} {k : Xk} {l : List A} {r : Nat → Nat × Nat} {w : World}
    (hpl : codePl (ann me) c = true) (hfn : P.funcs[me]? = some fn) (hcb : fn.body = some c) (hle : args.length ≤ fn.ntmps) (h : exF P call W fn.ntmps ann ok me fuel fuel c 0 (argA 0 args) H = some (k, E', H')) (hne : ∀ id, k ≠ .exit id) (hl : aRes P H' fn.results.toList E' = some l)
    (hR : Rel r H w) (hwa : wfL H.n args = true) : Calls P me (concL r args).toArray w fun e w' => ∃ r', e = .returned ((retA l).conc r') ∧ Post W r H w r' H' w' := by
  refine calls_FR (rd := none) (n := 0) (callsIn_of_wp_marks hfn hcb trivial ?_)
  have hfit : Fits fn.ntmps [] (concE r (argA 0 args)) { tmps := (concL r args).toArray ++ Array.replicate (fn.ntmps - (concL r args).toArray.size) undef, defers := [] } := by
    rw [argA_conc]; exact fits_args (by rw [concL_map, List.length_map]; exact hle)
  refine wpIn_mono (exF_wpIn hP hc hok fuel (Q := fun D e E w' => e = k.exit' ∧ ∃ r1, E = concE r1 E' ∧ Post W r H w r1 H' w' ∧ wfE H'.n E' = true ∧ w'.heap[D]? = some (.deferred (some [])) ∧ w.heap.size ≤ D) hpl h hR (argA_wf _ _ hwa) hfit fun D r' w' hp hw' h1 h2 h3 => ⟨rfl, r', rfl, hp, hw', h2, h3⟩) ?_
  rintro e a' w' ⟨D, E2, hf, rfl, r1, rfl, hp, hw', hat, hD⟩
  have hp2 : Post W r H w r1 H' (w'.putObj D (.deferred none)) := hp.putObj hat (fun _ _ hc => by cases hc) (fun _ _ hc => by cases hc) hD
  have key : LeavesInM (FR none) 0 P fn a'.tmps (fun e w' => ∃ r', e = .returned ((retA l).conc r') ∧ Post W r H w r' H' w') a'.defers .returning w' := by
    rw [hf.defers]
    refine ⟨(fun hc => by cases hc), .inl ⟨D, _, rfl, run_takeDeferred hat, ?_⟩⟩
    have hf0 : Fits fn.ntmps [] (concE r1 E') { a' with defers := [] } := ⟨rfl, hf.size, hf.val⟩
    obtain ⟨_, v, h1, h2⟩ := results_of (a := { a' with defers := [] }) (R := fun v => v = (retA l).conc r1) hf0 (aRes_ok hp2.rel hl (by rw [retA_conc]))
    exact ⟨v, h1, r1, by rw [h2], hp2⟩
  cases k with
  | normal => exact key
  | ret => exact key
  | exit id => exact absurd rfl (hne id)

def exBody (P : Program) (call : Caller) (W : Nat → Bool) (N : Nat) (ann : FuncId → Nat → List Nat) (ok : FuncId → Bool) (me : FuncId) (fuel : Nat) (c : Code) (E : AEnv) (H : AH) : Option (Xk × AEnv × AH) :=
  match hasR c with
  | false => exC P call W N (ann me) fuel c 0 E H
  | true => exF P call W N ann ok me fuel fuel c 0 E H
def exCall (P : Program) (ann : FuncId → Nat → List Nat) (ok : FuncId → Bool) (fuel : Nat) : Nat → Caller
  | 0, _, _, _, _ => none
  | d + 1, W, g, args, H => (match P.funcs[g]? with
    | some fn => (match fn.body, Nat.ble args.length fn.ntmps, ok g with
      | some c, true, true => (match exBody P (exCall P ann ok fuel d) W fn.ntmps ann ok g fuel c (argA 0 args) H with
        | some (.exit _, _, _) => none
        | some (_, E', H') => (match aRes P H' fn.results.toList E' with
          | some l => some (retA l, H')
          | none => none)
        | none => none)
      | _, _, _ => none)
    | none => none)
theorem exCall_ok (hP : OkP P) {ann : FuncId → Nat → List Nat} {ok : FuncId → Bool} (hok : PlOk P ann ok) (fuel : Nat) : ∀ d, CallOk P (exCall P ann ok fuel d) := by
  intro d
  induction d with
  | zero => intro W g args H a H' h; cases h
  | succ d ih =>
    intro W g args H a H' h r w hR hwa
    simp only [exCall] at h
    split at h
    · rename_i fn hfn
      split at h
      · rename_i c hcb hle hokg
        refine ⟨fun X hX => by unfold hasBody; rw [hfn]; simp only [hcb]; exact hX, ?_⟩
        have fin : ∀ k E', (∀ id, k ≠ .exit id) → exBody P (exCall P ann ok fuel d) W fn.ntmps ann ok g fuel c (argA 0 args) H = some (k, E', H') → (∃ l, aRes P H' fn.results.toList E' = some l ∧ a = retA l) →
            Calls P g (concL r args).toArray w fun e w' => ∃ r', e = .returned (a.conc r') ∧ Post W r H w r' H' w' := fun k E' hk hx ⟨l, hl, ha⟩ => by
          unfold exBody at hx
          split at hx
          · refine calls_of_den hP (ann g) hfn hcb (by rw [concL_map, List.length_map]; exact Nat.le_of_ble_eq_true hle) ?_
            rw [← argA_conc]
            refine exC_den ih fuel (hok g hokg fn c hfn hcb) hx hR (argA_wf _ _ hwa) fun r' w' hp hw' => ?_
            have key : resD P fn.results.toList (concE r' E') w' fun vs => (fun (e : Ending) w' => ∃ r', e = .returned (a.conc r') ∧ Post W r H w r' H' w') (.returned (retV vs)) w' :=
              aRes_ok hp.rel hl ⟨r', by rw [ha, retA_conc], hp⟩
            cases k with
            | normal => exact key
            | exit id => exact absurd rfl (hk id)
            | ret => exact key
          · rw [ha]
            exact exF_calls hP ih hok (hok g hokg fn c hfn hcb) hfn hcb (Nat.le_of_ble_eq_true hle) hx hk hl hR hwa
        split at h
        · cases h
        · rename_i k E1 H1 hne hx
          split at h
          · rename_i l hl; cases h; exact fin k E1 (fun id hc => by subst hc; exact hne _ rfl) hx ⟨l, hl, rfl⟩
          · cases h
        · cases h
      · cases h
    · cases h
end
end Go.Den
