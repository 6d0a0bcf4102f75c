/-
  The denotation within a round of a loop over a function. Own work. It is generic: no program is named.
-/
import Derived.Test.YtagndjglhlpljaaGreatDen
import Derived.OrdersIn
import Derived.RangeFuncIn
import Derived.RangeFuncRecord
namespace Go.Den
open Go.RowKit (Below)

def isDef : Op → Bool | .defer _ => true | _ => false
def noDefL : List Oper → Bool
  | [] => true
  | o :: l => match isDef o.op with | true => false | false => noDefL l
theorem noDefL_mem : ∀ {l : List Oper}, noDefL l = true → ∀ o ∈ l, ∀ c, o.op ≠ .defer c := by
  intro l
  induction l with
  | nil => intro _ o ho; cases ho
  | cons x l ih =>
    intro h o ho c
    simp only [noDefL] at h
    split at h
    · cases h
    · rename_i hx
      rcases List.mem_cons.1 ho with rfl | ho
      · intro hc; rw [hc] at hx; cases hx
      · exact ih h o ho c
def noDef : Code → Bool
  | .region _ ops _ => noDefL ops.toList
  | .seq x y => match noDef x with | true => noDef y | false => false
  | .cond _ x y => match noDef x with | true => noDef y | false => false
  | .block _ c => noDef c
  | .loop c => noDef c
  | _ => true

section
variable {P : Program} {ops : Array Oper} {rd : Option Nat}

theorem callsIn_FR {f : FuncId} {args : Array Value} {w : World} {R : Ending → World → Prop} {n : Nat} (h : Calls P f args w R) : CallsIn (FR rd) n P f args w R := (callsIn_wide (n := n)).2 h
theorem calls_FR {f : FuncId} {args : Array Value} {w : World} {R : Ending → World → Prop} {n : Nat} (h : CallsIn (FR rd) n P f args w R) : Calls P f args w R := (callsIn_wide (n := n)).1 h
theorem rowsIn_FR {row : String} {args : Array Value} {w : World} {R : Value → World → Prop} {n : Nat} (h : Rows P row args w R) : RowsIn (FR rd) n P row args w R :=
  fun c cs _ => let ⟨v, w', r, s⟩ := h c cs; ⟨v, w', r, stepsIn_wide.2 s⟩

theorem Oper.wpIn_of {o : Oper} (hd : ∀ c, o.op ≠ .defer c) {a : Act} {w : World} {K : Act → World → Prop} {Q : Exit → Act → World → Prop} (h : o.wp P a w K Q) : o.wpIn (FR rd) 0 P a w K Q := by
  refine ⟨fun _ _ => trivial, ?_⟩
  rw [Oper.semAt_eq _ _ _ hd]
  unfold Oper.wp at h
  generalize (execOp a.eval o).run P w = x at h ⊢
  cases x with
  | ok n w' =>
    cases n <;> simp only [Oper.upon, Oper.uponIn] at h ⊢ <;> first | exact h | exact h.elim | skip
    · exact ⟨fun hc => by simp [FR] at hc, callsIn_FR h⟩
    · exact ⟨fun hc => by simp [FR] at hc, rowsIn_FR h⟩
  | halt x w' => cases x <;> simp only [Oper.upon, Oper.uponIn] at h ⊢ <;> exact h

theorem wpOpIn_of (hnd : noDefL ops.toList = true) {Q : Exit → Act → World → Prop} (hq : ¬ LetsOut Q) {i : Nat} {K : Act → World → Prop} {a : Act} {w : World} (h : wpOp P ops Q i K a w) : wpOpIn (FR rd) 0 P ops Q i K a w := by
  unfold wpOp at h
  unfold wpOpIn
  split at h
  · rename_i ho; simp only [ho]; exact h
  · rename_i o ho
    simp only [ho]
    split at h
    · rename_i hw
      rw [if_pos hw]
      exact Oper.wpIn_of (noDefL_mem hnd o (by have := Array.getElem?_eq_some_iff.1 ho; obtain ⟨h1, h2⟩ := this; subst h2; simp)) (h.resolve_right fun hc => hq hc.2)
    · rename_i hw
      rw [if_neg hw]
      exact ⟨fun _ _ => trivial, h⟩
theorem wpOpsIn_of (hnd : noDefL ops.toList = true) {Q : Exit → Act → World → Prop} (hq : ¬ LetsOut Q) : ∀ {l : List Nat} {a : Act} {w : World}, wpOps P ops Q l a w → wpOpsIn (FR rd) 0 P ops Q l a w := by
  intro l
  induction l with
  | nil => exact fun h => h
  | cons i l ih =>
    intro a w h
    rw [wpOps_cons] at h
    rw [wpOpsIn_cons]
    exact wpOpIn_mono (fun a w h => ih h) (wpOpIn_of hnd hq h)
theorem wpAnyIn_of (hnd : noDefL ops.toList = true) {Q : Exit → Act → World → Prop} (hq : ¬ LetsOut Q) {md : Region.Mode} : ∀ {f : Nat} {listed : Array Bool} {a : Act} {w : World}, wpAny P md ops Q f listed a w → wpAnyIn (FR rd) 0 P md ops Q f listed a w := by
  intro f
  induction f with
  | zero => exact fun h => h
  | succ f ih => exact fun h => ⟨h.1, fun i hi => wpOpIn_mono (fun a w h => ih h) (wpOpIn_of hnd hq (h.2 i hi))⟩

variable {N : Nat} {ds : List Deferred} {Q : Exit → Env → World → Prop}

theorem denOps_wpIn (hP : OkP P) (hnd : noDefL ops.toList = true) : ∀ (l : List Oper) (k : Nat) (E : Env) (a : Act) (w : World), (∀ j, l[j]? = ops[k + j]?) → Fits N ds E a → denOps P N ops Q l E w →
    wpOpsIn (FR rd) 0 P ops (LQ N ds Q) (List.range' k l.length) a w := by
  intro l
  induction l with
  | nil => exact fun k E a w _ hf h => ⟨E, hf, h⟩
  | cons o l ih =>
    intro k E a w hl hf h
    have h0 : ops[k]? = some o := by simpa using (hl 0).symm
    have hl' : ∀ j, l[j]? = ops[k + 1 + j]? := fun j => by have := hl (j + 1); simpa [Nat.add_assoc, Nat.add_comm 1 j] using this
    have hd : ∀ c, o.op ≠ .defer c := noDefL_mem hnd o (by have := Array.getElem?_eq_some_iff.1 h0; obtain ⟨h1, h2⟩ := this; subst h2; simp)
    rw [List.length_cons, List.range'_succ]
    unfold denOps at h
    obtain ⟨E', hf', h⟩ := guardD_out hf h
    simp only [wpOpsIn, h0]
    rcases h with ⟨hw, h⟩ | ⟨hw, h⟩
    · rw [if_pos hw]
      obtain ⟨hk, hs⟩ := denOp_known h
      refine Oper.wpIn_of hd ((denOp_did hP h).wp hs hf' hk (fun v w' hv => ?_) fun ch w' hp => ⟨E', hf', hp⟩)
      obtain ⟨E2, hf2, h2⟩ := putD_fits hf' hv
      exact ih _ _ _ _ hl' hf2 h2
    · rw [if_neg (by simp [hw])]
      obtain ⟨E2, hf2, h2⟩ := putD_fits hf' h
      exact ⟨fun _ _ => trivial, ih _ _ _ _ hl' hf2 h2⟩
theorem denRegion_wpIn (hP : OkP P) (hnd : noDefL ops.toList = true) {id : Nat} {E : Env} {a : Act} {w : World} (hf : Fits N ds E a) (h : denOps P N ops Q ops.toList E w) :
    (Code.region id ops false).wpIn (FR rd) 0 P (LQ N ds Q) a w := by
  refine wpIn_region ?_
  have := denOps_wpIn (rd := rd) hP hnd ops.toList 0 E a w (fun j => by simp) hf h
  rwa [List.range_eq_range', ← Array.length_toList]

/-- off the end alone -/
def Off (Q : Act → World → Prop) : Exit → Act → World → Prop
  | .normal, a, w => Q a w
  | _, _, _ => False
theorem Off.not {Q : Act → World → Prop} : ¬ LetsOut (Off Q) := fun ⟨_, _, h⟩ => h
theorem wpIn_off {c : Code} {F : Fence} {n : Nat} {Q : Exit → Act → World → Prop} {a : Act} {w : World} (h : c.wpIn F n P (Off (Q .normal)) a w) : c.wpIn F n P Q a w :=
  wpIn_mono h fun e a w h => by cases e <;> first | exact h | exact h.elim

theorem denDraw_wpIn (hP : OkP P) (hnd : noDefL ops.toList = true) {id : Nat} {E : Env} {a : Act} {w : World} (hf : Fits N ds E a) (hB : Region.lexB .any ops = true)
    (h : denQ P N ops w (fun E' => ∀ w', Grow w w' → Q .normal E' w') ops.toList E) : (Code.region id ops true).wpIn (FR rd) 0 P (LQ N ds Q) a w := by
  have hd : Grow w { w with drawn := w.drawn + 1 } := (Grow.refl w).drew
  refine wpIn_off (wpIn_region_any hP.mixed (wpAnyIn_of hnd Off.not ?_))
  simp only [Region.lexB, Bool.and_eq_true] at hB
  have fin : ∀ (a' : Act) (w' : World), Grow w w' → (∀ w', Grow w w' → LQ N ds Q .normal a' w') → Off (LQ N ds Q .normal) .normal a' w' := fun a' w' hw' h => h w' hw'
  refine wpAny_of_quiet (C := Grow w) (Q := fun a' => ∀ w', Grow w w' → LQ N ds Q .normal a' w') fin _ _ _ _ hd ?_
  have h := wpQuiet_mono' (Q' := fun a' => ∀ w', Grow w w' → LQ N ds Q .normal a' w') (denQ_wp hP _ _ _ hf h) (by
    rintro a' ⟨E', hf', hq⟩ w' hw'
    exact ⟨E', hf', hq w' hw'⟩)
  have := wpAnyQ_lex (C := Grow w) (md := .any) hB.1 ops.toList 0 (Array.replicate ops.size false) a (by simp) (by simpa using hB.2) h
  simpa using this

theorem wpAny_z {z : Zp} (hz : ZpOk P z) {Q : Exit → Act → World → Prop} {a : Act} {w : World} {order : List Nat} (hS : z.S { w with drawn := w.drawn + 1 }) (hb : z.base ≤ w.heap.size) (hlen : order.length = ops.size)
    (hB : zB ops z.kd order = true) (h : wpW P ops z (Q .normal) order [] a { w with drawn := w.drawn + 1 }) : wpAny P .any ops Q ops.size (Array.replicate ops.size false) a { w with drawn := w.drawn + 1 } := by
  simp only [zB, Bool.and_eq_true] at hB
  obtain ⟨⟨hsel, hl⟩, hB⟩ := hB
  have c0 : Closed ops (Array.replicate ops.size false) := ⟨by simp, fun j oj _ hl => by rw [getD_rep] at hl; cases hl⟩
  refine wpAny_of_Z hz (Q := Q .normal) (d := 3) (fun a w h => h) (fun j hjs hj i hi hia => ?_) ops.size _ [] a _ c0 hS (fun _ => ⟨hb, by simp⟩) ?_
  · have := allRange_spec hl hjs
    simp only [hj, isL, Bool.not_true, Bool.false_or] at this
    have := allRange_spec this hi
    simpa [hia, isA] using this
  · have := wpZ_of_walk hz (Q := Q .normal) hsel order _ _ _ _ c0 hB h
    rwa [hlen] at this

theorem denZ_wpIn (hP : OkP P) (hnd : noDefL ops.toList = true) {id : Nat} {kd : Nat → Zk} {fl : Bool} {X : KX} {order : List Nat} {E : Env} {a : Act} {w : World} (hf : Fits N ds E a)
    (hB : zB ops kd order = true) (hlen : Nat.beq order.length ops.size = true) (h : denZ P N ops kd fl X w Q order [] E w) : (Code.region id ops true).wpIn (FR rd) 0 P (LQ N ds Q) a w := by
  have hd : Grow w { w with drawn := w.drawn + 1 } := (Below.refl _ w).drew
  refine wpIn_off (wpIn_region_any hP.mixed (wpAnyIn_of hnd Off.not ?_))
  refine wpAny_z (zpOf_ok P kd fl X w) ?_ (Nat.le_refl _) (Nat.eq_of_beq_eq_true hlen) hB (wpW_grow _ _ _ _ _ (denZ_wp hP _ _ _ _ _ hf h) hd)
  exact (zpOf_ok P kd fl X w).grow _ _ (by cases fl with | true => exact Keeps.refl _ _ | false => trivial) hd

theorem den_wpIn (hP : OkP P) (ann : Nat → List Nat) (rd : Option Nat) : ∀ (c : Code) (b : Nat) (Q : Exit → Env → World → Prop) (E : Env) (a : Act) (w : World), noDef c = true → Fits N ds E a → den P N ann c b Q E w →
    c.wpIn (FR rd) 0 P (LQ N ds Q) a w := by
  intro c
  induction c with
  | skip => exact fun b Q E a w _ hf h => wpIn_skip ⟨E, hf, h⟩
  | region id ops draw =>
    intro b Q E a w hnd hf h
    cases draw with
    | false => exact denRegion_wpIn hP hnd hf h
    | true =>
      simp only [den, drawD] at h
      split at h
      · unfold drawQ at h
        split at h
        · split at h
          · rename_i hB; exact denDraw_wpIn hP hnd hf hB h
          · exact h rd ds a hf
        · exact h rd ds a hf
      · split at h
        · rename_i hB hlen
          split at h
          · obtain ⟨X, h⟩ := h; exact denZ_wpIn hP hnd hf hB hlen h
          · exact denZ_wpIn hP hnd hf hB hlen h
        · exact h rd ds a hf
  | seq x y ihx ihy =>
    intro b Q E a w hnd hf h
    simp only [noDef] at hnd
    split at hnd
    · rename_i hx
      exact wpIn_seq (wpIn_mono (ihx b _ E a w hx hf h) (LQ_then fun E' a' w' hf' h' => ihy b Q E' a' w' hnd hf' h'))
    · cases hnd
  | cond c x y ihx ihy =>
    intro b Q E a w hnd hf h
    simp only [noDef] at hnd
    split at hnd
    · rename_i hx
      simp only [den] at h
      split at h
      · rename_i t ht
        split at h
        · rename_i hk
          have he := hf.ev hk
          rw [ht] at he
          refine wpIn_cond he ?_
          cases t with
          | true => exact ihx b Q E a w hx hf h
          | false => exact ihy b Q E a w hnd hf h
        · exact h.elim
      · exact h.elim
    · cases hnd
  | block id c ih => exact fun b Q E a w hnd hf h => wpIn_block (wpIn_mono (ih id _ E a w hnd hf h) LQ_block)
  | loop c ih =>
    intro b Q E a w hnd hf h
    simp only [den] at h
    split at h
    · rename_i vs hvs
      obtain ⟨I, hstep, k0, h0⟩ := h
      let J : Act → World → Nat → Prop := fun a w k => ∃ vs, Fits N ds (zipE (ann b) vs) a ∧ I k vs w
      refine wpIn_loop (fun a w => ∃ k, J a w k) (fun a w => leastOf (J a w)) ⟨k0, vs, fits_zip hf hvs, h0⟩ ?_
      intro a w hI
      obtain ⟨⟨vs, hfv, hv⟩, _⟩ := leastOf_spec hI
      refine wpIn_mono (ih b _ _ a w hnd hfv (hstep _ vs w hv)) ?_
      rintro e a' w' ⟨E', hf', h'⟩
      cases e with
      | normal =>
        simp only [roundD] at h'
        split at h'
        · rename_i vs' hvs'
          obtain ⟨j, hj, hIj⟩ := h'
          have hJ : J a' w' j := ⟨vs', fits_zip hf' hvs', hIj⟩
          exact ⟨⟨j, hJ⟩, Nat.lt_of_le_of_lt ((leastOf_spec ⟨j, hJ⟩).2 j hJ) hj⟩
        · exact h'.elim
      | _ => exact ⟨E', hf', h'⟩
    · exact h.elim
  | exit id => exact fun b Q E a w _ hf h => wpIn_exit ⟨E, hf, h⟩
  | ret => exact fun b Q E a w _ hf h => wpIn_ret ⟨E, hf, h⟩
  | _ => intros; contradiction
end
end Go.Den
