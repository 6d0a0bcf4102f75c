/-
  A verified executor, part 13: loops over functions: the loop's record; one round. Own work. It is generic: no program is named.
-/
import Derived.Test.YtagndjglhlpljaaGreatRun5
import Derived.Test.YtagndjglhlpljaaGreatRound

namespace Go.Den
open Go.RowKit (Below)

/-- how a loop over a function stands: its record lies at l, the block for deferred calls at D; no block that may be written lies there -/
structure Lp (W : Nat → Bool) (yb l D : Nat) (rec : Loop) (st : LoopState) (r0 : Nat → Nat × Nat) (H0 : AH) (w0 : World) (r : Nat → Nat × Nat) (H : AH) (w : World) : Prop where
  post : Post W r0 H0 w0 r H w
  offl : ∀ i, W i = true → i < H.n → (r i).1 ≠ l
  offD : ∀ i, W i = true → i < H.n → (r i).1 ≠ D
  atl : w.heap[l]? = some (.loop { rec with state := st })
  atD : w.heap[D]? = some (.deferred (some []))
  hl : w0.heap.size ≤ l
  hD : w0.heap.size ≤ D
  yn : yb < H.n
  yl : (r yb).1 = l

theorem lt_of_at {w : World} {l : Nat} {o : Obj} (h : w.heap[l]? = some o) : l < w.heap.size := (Array.getElem?_eq_some_iff.1 h).1

section
variable {W : Nat → Bool} {yb l D : Nat} {rec : Loop} {st st' : LoopState} {r0 r r' : Nat → Nat × Nat} {H0 H H' : AH} {w0 w w' : World}

theorem off_post (h : Post W r H w r' H' w') {x : Nat} (hx : x < w.heap.size) (ho : ∀ i, W i = true → i < H.n → (r i).1 ≠ x) : ∀ i, W i = true → i < H'.n → (r' i).1 ≠ x := by
  intro i hi hlt
  by_cases hin : i < H.n
  · rw [h.ext i hin]; exact ho i hi hin
  · rcases h.fresh i (by omega) hlt with hf | ⟨j, h1, h2, h3⟩
    · omega
    · rw [← h3]; exact ho j h1 h2
theorem Lp.step (h : Lp W yb l D rec st r0 H0 w0 r H w) (hp : Post W r H w r' H' w') : Lp W yb l D rec st r0 H0 w0 r' H' w' :=
  ⟨h.post.trans hp, off_post hp (lt_of_at h.atl) h.offl, off_post hp (lt_of_at h.atD) h.offD, (hp.keep l (lt_of_at h.atl) h.offl).trans h.atl, (hp.keep D (lt_of_at h.atD) h.offD).trans h.atD, h.hl, h.hD, Nat.lt_of_lt_of_le h.yn hp.le, by rw [hp.ext yb h.yn]; exact h.yl⟩

theorem AO.not_loop {r : Nat → Nat × Nat} {m : Nat} {o : AO} {ob : Obj} (h : o.lies r m ob) : (∃ c T, ob = .cells c T) ∨ ∃ es c, ob = .map es c := by
  cases o with
  | cells l T p =>
    cases p with
    | none => exact .inl ⟨_, _, h⟩
    | some sz => obtain ⟨rest, h, _⟩ := h; exact .inl ⟨_, _, h⟩
  | map es c => exact .inr ⟨es, c, h⟩
theorem Rel.off_loop (h : Rel r H w) {x : Nat} {ob : Obj} (hx : w.heap[x]? = some ob) (hc : ∀ c T, ob ≠ .cells c T) (hm : ∀ es c, ob ≠ .map es c) : ∀ i o, H.get i = some o → (r i).1 ≠ x := by
  intro i o hi he
  obtain ⟨ob', h1, h2⟩ := h.at_ i o hi
  rw [he, hx] at h1
  cases h1
  rcases AO.not_loop h2 with ⟨c, T, h3⟩ | ⟨es, c, h3⟩
  · exact hc c T h3
  · exact hm es c h3
theorem Rel.putObj (h : Rel r H w) {x : Nat} {ob ob' : Obj} (hx : w.heap[x]? = some ob) (hc : ∀ c T, ob ≠ .cells c T) (hm : ∀ es c, ob ≠ .map es c) : Rel r H (w.putObj x ob') :=
  ⟨fun i o hi => by obtain ⟨o1, h1, h2⟩ := h.at_ i o hi; exact ⟨o1, (World.putObj_heap_other (h.off_loop hx hc hm i o hi)).trans h1, h2⟩, h.inj, fun i hi => by simpa using h.lt i hi, h.wf⟩
theorem Post.putObj (h : Post W r0 H0 w0 r H w) {x : Nat} {ob ob' : Obj} (hx : w.heap[x]? = some ob) (hc : ∀ c T, ob ≠ .cells c T) (hm : ∀ es c, ob ≠ .map es c) (hx0 : w0.heap.size ≤ x) : Post W r0 H0 w0 r H (w.putObj x ob') :=
  ⟨h.ext, h.le, h.fresh, h.rel.putObj hx hc hm, h.os, h.tape, h.output, by simpa using h.size, fun b hb hk => (World.putObj_heap_other (by omega)).trans (h.keep b hb hk)⟩
theorem Lp.put (h : Lp W yb l D rec st r0 H0 w0 r H w) : Lp W yb l D rec st' r0 H0 w0 r H (w.putObj l (.loop { rec with state := st' })) := by
  have hne : D ≠ l := fun hc => by have h1 := h.atl; have h2 := h.atD; rw [hc, h1] at h2; cases h2
  exact ⟨h.post.putObj h.atl (fun _ _ hc => by cases hc) (fun _ _ hc => by cases hc) h.hl, h.offl, h.offD, World.putObj_heap_same (lt_of_at h.atl), (World.putObj_heap_other hne).trans h.atD, h.hl, h.hD, h.yn, h.yl⟩
end

/-- a call of yield -/
def YieldR (F : Fence) (m : Nat) (P : Program) (l : Nat) (args : Array Value) (W : World) (R : Ending → World → Prop) : Prop :=
  ∃ fn tmps assign body, (Instr.yield l args).run P W = .ok (.round l fn tmps assign body) W ∧ RoundIn F m P l fn tmps assign body W R

def putLA : List Nat → List A → AEnv → AEnv
  | p :: ps, a :: as, E => putLA ps as ((p, a) :: E)
  | _, _, E => E
theorem putLA_wf {n : Nat} : ∀ {ps : List Nat} {as : List A} {E : AEnv}, wfL n as = true → wfE n E = true → wfE n (putLA ps as E) = true := by
  intro ps
  induction ps with
  | nil => intro as E _ h; cases as <;> exact h
  | cons p ps ih =>
    intro as E ha h
    cases as with
    | nil => exact h
    | cons a as => obtain ⟨h1, h2⟩ := wfL_cons.1 ha; exact ih h2 (wfE_cons.2 ⟨h1, h⟩)
def allLt (N : Nat) : List Nat → Bool
  | [] => true
  | p :: ps => match Nat.blt p N with | true => allLt N ps | false => false
theorem putLA_fits {N : Nat} {r : Nat → Nat × Nat} : ∀ {ps : List Nat} {as : List A} {E : AEnv} {tm : Array Value}, allLt N ps = true → Fits N [] (concE r E) { tmps := tm, defers := [] } →
    Fits N [] (concE r (putLA ps as E)) { tmps := (ps.zip (concL r as)).foldl (fun t (p, v) => t.setIfInBounds p v) tm, defers := [] } := by
  intro ps
  induction ps with
  | nil => intro as E tm _ h; cases as <;> simpa [putLA] using h
  | cons p ps ih =>
    intro as E tm hp h
    cases as with
    | nil => simpa [putLA, concL] using h
    | cons a as =>
      simp only [allLt] at hp
      split at hp
      · rename_i hlt
        simp only [putLA, concL, List.zip_cons_cons, List.foldl_cons]
        refine ih hp ?_
        have := h.put (by simpa [Nat.blt_eq] using hlt) (a.conc r)
        simpa [Act.put, concE] using this
      · cases hp

def isNormal : Xk → Bool | .normal => true | _ => false
/-- one round -/
def exY (P : Program) (call : Caller) (W : Nat → Bool) (N : Nat) (ann : Nat → List Nat) (fuel : Nat) (E1 : AEnv) (ps : List Nat) (assign body : Code) (as : List A) (H : AH) : Option AH :=
  match Nat.beq ps.length as.length, allLt N ps, noDef assign, noDef body with
  | true, true, true, true => (match exC P call W N ann fuel assign 0 (putLA ps as E1) H with
    | some (.normal, E2, H2) => (match exC P call W N ann fuel body 0 E2 H2 with
      | some (.normal, _, H3) => some H3
      | _ => none)
    | _ => none)
  | _, _, _, _ => none

section
variable {P : Program} {W : Nat → Bool} {yb l D : Nat} {rec : Loop} {r0 r r' : Nat → Nat × Nat} {H0 H H' : AH} {w0 w w' : World}

theorem exY_ok (hP : OkP P) {call : Caller} (hc : CallOk P call) {N : Nat} {ann : Nat → List Nat} {fuel : Nat} {E1 : AEnv} {as : List A}
    (hpa : codePl ann rec.assign = true) (hpb : codePl ann rec.body = true) (h : exY P call W N ann fuel E1 rec.params.toList rec.assign rec.body as H = some H') (hpend : rec.pending = none) (hE : wfE H0.n E1 = true) (hf : Fits N [] (concE r0 E1) { tmps := rec.tmps, defers := [] }) (hwa : wfL H.n as = true)
    (hL : Lp W yb l D rec .ready r0 H0 w0 r H w) {rd : Option Nat} {R : Ending → World → Prop} (hR : ∀ r' w', Lp W yb l D rec .ready r0 H0 w0 r' H' w' → H.n ≤ H'.n → (∀ i, i < H.n → r' i = r i) → R (.returned (.bool true)) w') :
    YieldR (FR rd) 0 P l (concL r as).toArray w R := by
  unfold exY at h
  split at h
  · rename_i hlen hlt hna hnb
    split at h
    · rename_i E2 H2 h2
      split at h
      · rename_i E3 H3 h3
        cases h
        have hsz : (concL r as).toArray.size = rec.params.size := by
          have := Nat.eq_of_beq_eq_true hlen
          simp [concL_map]; simpa using this.symm
        refine ⟨rec.fn, _, rec.assign, rec.body, run_yield (r := { rec with state := .ready }) hL.atl hsz, roundIn_of_wpIn trivial ?_⟩
        have hp := hL.post
        have hE' : wfE H.n E1 = true := wfE_mono hp.le hE
        have hfr : Fits N [] (concE r E1) { tmps := rec.tmps, defers := [] } := by rw [concE_congr hp.ext hE]; exact hf
        have hf2 := putLA_fits (as := as) hlt hfr
        have key : (rec.params.zip (concL r as).toArray).foldl (fun t (p, v) => t.setIfInBounds p v) rec.tmps = (rec.params.toList.zip (concL r as)).foldl (fun t (p, v) => t.setIfInBounds p v) rec.tmps := by
          rw [← Array.foldl_toList, Array.toList_zip]
        rw [← key] at hf2
        refine wpIn_mono (den_wpIn hP ann (some l) rec.assign 0 (fun e E w' => e = .normal ∧ ∃ r2, E = concE r2 E2 ∧ wfE H2.n E2 = true ∧ Post W r H w r2 H2 w') _ _ w hna hf2 (exC_den hc fuel hpa h2 hp.rel (putLA_wf hwa hE') fun r2 w2 hp2 hw2 => ⟨rfl, r2, rfl, hw2, hp2⟩)) ?_
        rintro e a1 w1 ⟨E, hfE, rfl, r2, rfl, hwE2, hp2⟩
        have hL2 := hL.step hp2
        simp only [Exit.then]
        refine ⟨_, run_beginRound hL2.atl rfl, ?_⟩
        have hL3 := hL2.put (st' := .busy)
        have hf3 := hfE
        refine wpIn_mono (den_wpIn hP ann (some l) rec.body 0 (fun e E w' => e = .normal ∧ ∃ r3, Post W r2 H2 (w1.putObj l (.loop { rec with state := .busy })) r3 H' w') _ _ _ hnb hf3 (exC_den hc fuel hpb h3 hL3.post.rel hwE2 fun r3 w3 hp3 hw3 => ⟨rfl, r3, hp3⟩)) ?_
        rintro e a3 w3 ⟨E, hfE3, rfl, r3, hp3⟩
        have hL4 := hL3.step hp3
        refine ⟨_, _, run_endRound none hL4.atl, ?_⟩
        have hL5 := hL4.put (st' := .ready)
        have he : ({ rec with state := .ready, pending := none } : Loop) = { rec with state := .ready } := by cases rec; cases hpend; rfl
        simp only [Option.isNone_none, if_true]
        rw [he]
        exact hR r3 _ hL5 (Nat.le_trans hp2.le hp3.le) fun i hi => (hp3.ext i (Nat.lt_of_lt_of_le hi hp2.le)).trans (hp2.ext i hi)
      · cases h
    · cases h
  · cases h
end
/-- a call of yield -/
def yieldOf (o : Oper) (E : AEnv) : Option (Nat × List A) :=
  match o.op, o.guard with
  | .call c, none => (match c.callee with
    | .value f => (match aev E f, aevL E c.args.toList with
      | some (.yld b), some as => some (b, as)
      | _, _ => none)
    | _ => none)
  | _, _ => none

/-- operations in order, calls of yield among them -/
def exYOps (P : Program) (call : Caller) (W : Nat → Bool) (N : Nat) (ops : Array Oper) (Y : List A → AH → Option AH) (yb : Nat) : List Oper → AEnv → AH → Option (AEnv × AH)
  | [], E, H => some (E, H)
  | o :: l, E, H => (match yieldOf o E with
    | some (b, as) => (match Nat.beq b yb, wfL H.n as, Y as H, putA N o.dst (.lit (.bool true)) E with
      | true, true, some H1, some E1 => exYOps P call W N ops Y yb l E1 H1
      | _, _, _, _ => none)
    | none => (match exOp P call W N ops o E H with
      | some (E1, H1) => exYOps P call W N ops Y yb l E1 H1
      | none => none))

section
variable {P : Program} {W : Nat → Bool} {yb l D : Nat} {rec : Loop} {r0 r r' : Nat → Nat × Nat} {H0 H H' : AH} {w0 w w' : World}

def YOk (P : Program) (W : Nat → Bool) (yb l D : Nat) (rec : Loop) (r0 : Nat → Nat × Nat) (H0 : AH) (w0 : World) (Y : List A → AH → Option AH) : Prop :=
  ∀ as H H', Y as H = some H' → ∀ r w, wfL H.n as = true → Lp W yb l D rec .ready r0 H0 w0 r H w → ∀ R : Ending → World → Prop,
    (∀ r' w', Lp W yb l D rec .ready r0 H0 w0 r' H' w' → H.n ≤ H'.n → (∀ i, i < H.n → r' i = r i) → R (.returned (.bool true)) w') → YieldR (FR none) 0 P l (concL r as).toArray w R

theorem yieldOf_wpIn {ops : Array Oper} {o : Oper} {E E' : AEnv} {b N : Nat} {as : List A} {next : Act → World → Prop} {Q : Exit → Act → World → Prop} {a : Act} (h : yieldOf o E = some (b, as)) (hf : Fits N [] (concE r E) a) (hb : (r b).1 = l) (hput : putA N o.dst (.lit (.bool true)) E = some E')
    (hY : YieldR (FR none) 0 P l (concL r as).toArray w fun e w' => e = .returned (.bool true) ∧ ∀ a', Fits N [] (concE r E') a' → next a' w') : Region.wanted o (yielded ops a.tmps) = true ∧ o.wpIn (FR none) 0 P a w next Q := by
  unfold yieldOf at h
  split at h
  · rename_i c hop hg
    split at h
    · rename_i f hcal
      split at h
      · rename_i b' as' hbf has
        cases h
        obtain ⟨fn, tmps, assign, body, hrun, hround⟩ := hY
        refine ⟨by unfold Region.wanted; rw [hg], fun _ _ => trivial, ?_⟩
        have hef : a.eval f = .func (.yield l) #[] #[] := by
          have := aev_ok hbf r
          rw [hf.ev this.1, this.2, A.conc, hb]
        have hargs : c.args.map a.eval = (concL r as).toArray := by
          have := aevL_ok (r := r) has
          rw [← this.2]
          apply Array.ext'
          simp only [Array.toList_map]
          exact List.map_congr_left fun x hx => hf.ev (allKnown_mem this.1 x hx)
        have e1 : (Oper.semAt (FR none).round a.eval o).run P w = .ok (.round l fn tmps assign body) w := by
          show (execOp a.eval o).run P w = _
          obtain ⟨dst, op, type, pos, after, guard⟩ := o
          dsimp only at hop
          subst hop
          simp only [execOp, resolve, hcal, hef, hargs, Deferred.ofValue, invoke, Sem.run_bind, Sem.run_pure, Result.andThen_ok, Array.empty_append]
          exact hrun
        rw [e1]
        simp only [Oper.uponIn]
        refine ⟨fun hc => by simp [FR] at hc, hround.mono ?_⟩
        rintro e w1 ⟨rfl, hq⟩
        dsimp only
        have := putA_ok hput r (K := fun E2 => E2 = concE r E') rfl
        obtain ⟨E2, hf2, rfl⟩ := putD_fits hf this
        exact hq _ hf2
      · cases h
    · cases h
  · cases h

theorem exYOps_wpIn (hP : OkP P) {call : Caller} (hc : CallOk P call) {N : Nat} {ops : Array Oper} {Y : List A → AH → Option AH} (hY : YOk P W yb l D rec r0 H0 w0 Y) (hnd : noDefL ops.toList = true) {Q : Exit → Env → World → Prop} :
    ∀ (ls : List Oper) (k : Nat) {E E' : AEnv} {H H' : AH} {r : Nat → Nat × Nat} {w : World} {a : Act}, (∀ j, ls[j]? = ops[k + j]?) → exYOps P call W N ops Y yb ls E H = some (E', H') → Lp W yb l D rec .ready r0 H0 w0 r H w → wfE H.n E = true → Fits N [] (concE r E) a →
    (∀ r' w', Lp W yb l D rec .ready r0 H0 w0 r' H' w' → wfE H'.n E' = true → H.n ≤ H'.n → (∀ i, i < H.n → r' i = r i) → Q .normal (concE r' E') w') → wpOpsIn (FR none) 0 P ops (LQ N [] Q) (List.range' k ls.length) a w := by
  intro ls
  induction ls with
  | nil => intro k E E' H H' r w a _ h hL hw hf hk; cases h; exact ⟨_, hf, hk r w hL hw (Nat.le_refl _) fun _ _ => rfl⟩
  | cons o ls ih =>
    intro k E E' H H' r w a hl h hL hw hf hk
    have h0 : ops[k]? = some o := by simpa using (hl 0).symm
    have hl' : ∀ j, ls[j]? = ops[k + 1 + j]? := fun j => by have := hl (j + 1); simpa [Nat.add_assoc, Nat.add_comm 1 j] using this
    have hd : ∀ c, o.op ≠ .defer c := noDefL_mem hnd o (by have := Array.getElem?_eq_some_iff.1 h0; obtain ⟨h1, h2⟩ := this; subst h2; simp)
    rw [List.length_cons, List.range'_succ]
    simp only [wpOpsIn, h0]
    simp only [exYOps] at h
    split at h
    · rename_i b as hy
      split at h
      · rename_i H1 E1 hbb hwa hyy hput
        have hb : (r b).1 = l := by rw [Nat.eq_of_beq_eq_true hbb]; exact hL.yl
        have := yieldOf_wpIn (ops := ops) (Q := LQ N [] Q) (next := wpOpsIn (FR none) 0 P ops (LQ N [] Q) (List.range' (k + 1) ls.length)) hy hf hb hput (hY as H H1 hyy r w hwa hL _ fun r' w' hL' hle hext => ⟨rfl, fun a' hf' => ?_⟩)
        · rw [if_pos this.1]; exact this.2
        · rw [← concE_congr hext (putA_wf hput hw rfl)] at hf'
          exact ih (k + 1) hl' h hL' (wfE_mono hle (putA_wf hput hw rfl)) hf' fun r2 w2 hL2 hw2 hle2 hext2 => hk r2 w2 hL2 hw2 (Nat.le_trans hle hle2) fun i hi => (hext2 i (Nat.lt_of_lt_of_le hi hle)).trans (hext i hi)
      · cases h
    · split at h
      · rename_i E1 H1 hx
        have hden := exOp_den hc hx hL.post.rel hw (pan := fun _ _ _ => False) (K := fun E2 w2 => ∃ r2, E2 = concE r2 E1 ∧ Post W r H w r2 H1 w2 ∧ wfE H1.n E1 = true) fun r' w' hp hw' => ⟨r', rfl, hp, hw'⟩
        obtain ⟨E2, hf2, hden⟩ := guardD_out hf hden
        have fin : ∀ (E3 : Env) (a3 : Act) (w3 : World), Fits N [] E3 a3 → (∃ r2, E3 = concE r2 E1 ∧ Post W r H w r2 H1 w3 ∧ wfE H1.n E1 = true) → wpOpsIn (FR none) 0 P ops (LQ N [] Q) (List.range' (k + 1) ls.length) a3 w3 := by
          rintro E3 a3 w3 hf3 ⟨r2, rfl, hp, hw2⟩
          exact ih (k + 1) hl' h (hL.step hp) hw2 hf3 fun r3 w4 hL3 hw3 hle3 hext3 => hk r3 w4 hL3 hw3 (Nat.le_trans hp.le hle3) fun i hi => (hext3 i (Nat.lt_of_lt_of_le hi hp.le)).trans (hp.ext i hi)
        rcases hden with ⟨hwd, hden⟩ | ⟨hwd, hden⟩
        · rw [if_pos hwd]
          obtain ⟨hk', hs⟩ := denOp_known hden
          refine Oper.wpIn_of hd ((denOp_did hP hden).wp hs hf2 hk' (fun v w' hv => ?_) fun ch w' hp => hp.elim)
          obtain ⟨E3, hf3, h3⟩ := putD_fits hf2 hv
          exact fin _ _ _ hf3 h3
        · rw [if_neg (by simp [hwd])]
          obtain ⟨E3, hf3, h3⟩ := putD_fits hf2 hden
          exact ⟨fun _ _ => trivial, fin _ _ _ hf3 h3⟩
      · cases h
end

/-- the code of a function that is ranged over -/
def exIt (P : Program) (call : Caller) (W : Nat → Bool) (N : Nat) (ann : Nat → List Nat) (Y : List A → AH → Option AH) (yb : Nat) : Nat → Code → Nat → AEnv → AH → Option (Xk × AEnv × AH)
  | 0, _, _, _, _ => none
  | f + 1, c, b, E, H => (match c with
    | .skip => some (.normal, E, H)
    | .region id ops draw => (match noDefL ops.toList, draw with
      | true, false => (match exYOps P call W N ops Y yb ops.toList E H with | some (E1, H1) => some (.normal, E1, H1) | none => none)
      | true, true => (match exR P call W N (ann (1000000 + id)) ops true E H with | some (E1, H1) => some (.normal, E1, H1) | none => none)
      | _, _ => none)
    | .seq x y => (match exIt P call W N ann Y yb f x b E H with
      | some (.normal, E1, H1) => exIt P call W N ann Y yb f y b E1 H1
      | other => other)
    | .cond c x y => (match aev E c with
      | some (.lit (.bool true)) => exIt P call W N ann Y yb f x b E H
      | some (.lit (.bool false)) => exIt P call W N ann Y yb f y b E H
      | _ => none)
    | .block id c => (match exIt P call W N ann Y yb f c id E H with
      | some (.exit j, E1, H1) => (match Nat.beq j id with
        | true => some (.normal, E1, H1)
        | false => some (.exit j, E1, H1))
      | other => other)
    | .loop c => (match aGetAll E (ann b) with
      | some vs => (match exIt P call W N ann Y yb f c b (zipA (ann b) vs) H with
        | some (.normal, E1, H1) => exIt P call W N ann Y yb f (.loop c) b E1 H1
        | other => other)
      | none => none)
    | .exit id => some (.exit id, E, H)
    | .ret => some (.ret, E, H)
    | _ => none)

section
variable {P : Program} {W : Nat → Bool} {yb l D : Nat} {rec : Loop} {r0 r r' : Nat → Nat × Nat} {H0 H H' : AH} {w0 w w' : World}
theorem exIt_wpIn (hP : OkP P) {call : Caller} (hc : CallOk P call) {N : Nat} {ann : Nat → List Nat} {Y : List A → AH → Option AH} (hY : YOk P W yb l D rec r0 H0 w0 Y) :
    ∀ (f : Nat) {c : Code} {b : Nat} {Q : Exit → Env → World → Prop} {E E' : AEnv} {H H' : AH} {k : Xk} {r : Nat → Nat × Nat} {w : World} {a : Act}, codePl ann c = true → exIt P call W N ann Y yb f c b E H = some (k, E', H') → Lp W yb l D rec .ready r0 H0 w0 r H w → wfE H.n E = true → Fits N [] (concE r E) a →
    (∀ r' w', Lp W yb l D rec .ready r0 H0 w0 r' H' w' → wfE H'.n E' = true → H.n ≤ H'.n → (∀ i, i < H.n → r' i = r i) → Q k.exit' (concE r' E') w') → c.wpIn (FR none) 0 P (LQ N [] Q) a w := by
  intro f
  induction f using Nat.strongRecOn with
  | _ f ih =>
    intro c b Q E E' H H' k r w a hpl h hL hw hf hk
    cases f with
    | zero => cases h
    | succ f =>
      have ihf := fun {c b Q E E' H H' k r w a} => @ih f (by omega) c b Q E E' H H' k r w a
      cases c <;> simp only [exIt, reduceCtorEq] at h
      case skip => cases h; exact wpIn_skip ⟨_, hf, hk r w hL hw (Nat.le_refl _) fun _ _ => rfl⟩
      case region id ops draw =>
        split at h
        · rename_i hnd
          split at h
          · rename_i E1 H1 hx
            cases h
            refine wpIn_region ?_
            have := exYOps_wpIn hP hc hY hnd (Q := Q) ops.toList 0 (fun j => by simp) hx hL hw hf hk
            rwa [List.range_eq_range', ← Array.length_toList]
          · cases h
        · rename_i hnd
          split at h
          · rename_i E1 H1 hx
            cases h
            refine den_wpIn hP ann none (.region id ops true) b Q _ a w hnd hf (exR_den hc hpl hx hL.post.rel hw fun r' w' hp hw' => ?_)
            exact hk r' w' (hL.step hp) hw' hp.le hp.ext
          · cases h
        · cases h
      case seq x y =>
        obtain ⟨hpx, hpy⟩ := and_both hpl
        split at h
        · rename_i E1 H1 h1
          refine wpIn_seq (wpIn_mono (ihf (Q := thenD (fun E w' => ∃ r1, E = concE r1 E1 ∧ Lp W yb l D rec .ready r0 H0 w0 r1 H1 w' ∧ wfE H1.n E1 = true ∧ H.n ≤ H1.n ∧ ∀ i, i < H.n → r1 i = r i) Q) hpx h1 hL hw hf fun r' w' hL' hw' hle hext => ⟨r', rfl, hL', hw', hle, hext⟩) (LQ_then ?_))
          rintro E2 a' w' hf' ⟨r1, rfl, hL', hw', hle, hext⟩
          exact ihf hpy h hL' hw' hf' fun r2 w2 hL2 hw2 hle2 hext2 => hk r2 w2 hL2 hw2 (Nat.le_trans hle hle2) fun i hi => (hext2 i (Nat.lt_of_lt_of_le hi hle)).trans (hext i hi)
        · rename_i hne
          refine wpIn_seq (wpIn_mono (ihf (Q := thenD (fun _ _ => False) Q) hpx h hL hw hf fun r' w' hL' hw' hle hext => ?_) (LQ_then fun E' a' w' hf' h' => h'.elim))
          cases k with
          | normal => exact absurd h (hne _ _)
          | exit id => exact hk r' w' hL' hw' hle hext
          | ret => exact hk r' w' hL' hw' hle hext
      case cond c x y =>
        obtain ⟨hpx, hpy⟩ := and_both hpl
        split at h
        · rename_i hx
          have he := hf.ev (aev_ok hx r).1
          rw [(aev_ok hx r).2, A.conc] at he
          exact wpIn_cond he (ihf hpx h hL hw hf hk)
        · rename_i hx
          have he := hf.ev (aev_ok hx r).1
          rw [(aev_ok hx r).2, A.conc] at he
          exact wpIn_cond he (ihf hpy h hL hw hf hk)
        · cases h
      case block id c =>
        split at h
        · rename_i j E1 H1 h1
          refine wpIn_block (wpIn_mono (ihf (Q := blockD id Q) hpl h1 hL hw hf fun r' w' hL' hw' hle hext => ?_) LQ_block)
          simp only [Xk.exit', blockD]
          split at h
          · rename_i hj; cases h; simp only [hj]; exact hk r' w' hL' hw' hle hext
          · rename_i hj; cases h; simp only [hj]; exact hk r' w' hL' hw' hle hext
        · rename_i hne
          refine wpIn_block (wpIn_mono (ihf (Q := blockD id Q) hpl h hL hw hf fun r' w' hL' hw' hle hext => ?_) LQ_block)
          cases k with
          | normal => exact hk r' w' hL' hw' hle hext
          | exit id => exact absurd h (hne _ _ _)
          | ret => exact hk r' w' hL' hw' hle hext
      case loop c =>
        split at h
        · rename_i vs hvs
          let J : Act → World → Nat → Prop := fun a1 w1 g => ∃ (r1 : Nat → Nat × Nat) (H1 : AH) (as : List A), g ≤ f ∧ Fits N [] (concE r1 (zipA (ann b) as)) a1 ∧ wfL H1.n as = true ∧ Lp W yb l D rec .ready r0 H0 w0 r1 H1 w1 ∧ H.n ≤ H1.n ∧ (∀ i, i < H.n → r1 i = r i) ∧
            (match exIt P call W N ann Y yb g c b (zipA (ann b) as) H1 with
              | some (.normal, E1, H2) => exIt P call W N ann Y yb g (.loop c) b E1 H2
              | other => other) = some (k, E', H')
          refine wpIn_loop (fun a w => ∃ g, J a w g) (fun a w => leastOf (J a w)) ⟨f, r, H, vs, Nat.le_refl _, by rw [zipA_conc]; exact fits_zip hf (aGetAll_ok r hvs), aGetAll_wf hw hvs, hL, Nat.le_refl _, fun _ _ => rfl, h⟩ ?_
          intro a1 w1 hI
          obtain ⟨⟨r1, H1, as, hgf, hfz, hwas, hL1, hle1, hext1, hx⟩, hmin⟩ := leastOf_spec hI
          generalize leastOf (J a1 w1) = g at hgf hx hmin ⊢
          have ihg := fun {c b Q E E' H H' k r w a} => @ih g (by omega) c b Q E E' H H' k r w a
          split at hx
          · rename_i E1 H2 h1
            refine wpIn_mono (ihg (Q := fun e E w' => e = .normal ∧ ∃ r2, E = concE r2 E1 ∧ Lp W yb l D rec .ready r0 H0 w0 r2 H2 w' ∧ wfE H2.n E1 = true ∧ H1.n ≤ H2.n ∧ ∀ i, i < H1.n → r2 i = r1 i) hpl h1 hL1 (zipA_wf _ _ hwas) hfz fun r' w' hL' hw' hle hext => ⟨rfl, r', rfl, hL', hw', hle, hext⟩) ?_
            rintro e a2 w2 ⟨E2, hf2, rfl, r2, rfl, hL2, hw2, hle2, hext2⟩
            cases g with
            | zero => cases hx
            | succ g =>
              simp only [exIt] at hx
              split at hx
              · rename_i vs2 hvs2
                have hJ : J a2 w2 g := ⟨r2, H2, vs2, by omega, by rw [zipA_conc]; exact fits_zip hf2 (aGetAll_ok r2 hvs2), aGetAll_wf hw2 hvs2, hL2, Nat.le_trans hle1 hle2, fun i hi => (hext2 i (Nat.lt_of_lt_of_le hi hle1)).trans (hext1 i hi), hx⟩
                exact ⟨⟨g, hJ⟩, Nat.lt_of_le_of_lt ((leastOf_spec ⟨g, hJ⟩).2 g hJ) (Nat.lt_succ_self g)⟩
              · cases hx
          · rename_i hne
            refine wpIn_mono (ihg (Q := fun e E w' => e = k.exit' ∧ Q k.exit' E w') hpl hx hL1 (zipA_wf _ _ hwas) hfz fun r' w' hL' hw' hle hext => ⟨rfl, hk r' w' hL' hw' (Nat.le_trans hle1 hle) fun i hi => (hext i (Nat.lt_of_lt_of_le hi hle1)).trans (hext1 i hi)⟩) ?_
            rintro e a2 w2 ⟨E2, hf2, rfl, hq⟩
            cases k with
            | normal => exact absurd hx (hne _ _)
            | exit id => exact ⟨E2, hf2, hq⟩
            | ret => exact ⟨E2, hf2, hq⟩
        · cases h
      case exit id => cases h; exact wpIn_exit ⟨_, hf, hk r w hL hw (Nat.le_refl _) fun _ _ => rfl⟩
      case ret => cases h; exact wpIn_ret ⟨_, hf, hk r w hL hw (Nat.le_refl _) fun _ _ => rfl⟩

def butW (W : Nat → Bool) (b i : Nat) : Bool := match Nat.beq i b with | true => false | false => W i
theorem butW_le {b i : Nat} (h : butW W b i = true) : W i = true := by
  unfold butW at h
  split at h
  · cases h
  · exact h
theorem butW_ne {b i : Nat} (h : butW W b i = true) : i ≠ b := by
  unfold butW at h
  split at h
  · cases h
  · rename_i hb; intro hc; subst hc; simp at hb

/-- the functions in 'ok' have plans that serve -/
def PlOk (P : Program) (ann : FuncId → Nat → List Nat) (ok : FuncId → Bool) : Prop := ∀ g, ok g = true → ∀ fn c, P.funcs[g]? = some fn → fn.body = some c → codePl (ann g) c = true
/-- a whole loop over a function -/
def exRange (P : Program) (call : Caller) (W : Nat → Bool) (N : Nat) (ann : FuncId → Nat → List Nat) (ok : FuncId → Bool) (me : FuncId) (fuel : Nat) (g : Operand) (ps : List Nat) (assign body : Code) (E : AEnv) (H : AH) : Option AH :=
  match aev E g with
  | some (.clo (.func gf) [] lb) => (match P.funcs[gf]?, (AH.mk (H.n + 1) H.t).del H.n, ok gf with
    | some fn, some H1, true => (match fn.body, Nat.ble (lb.length + 1) fn.ntmps with
      | some c, true => (match exIt P call (butW W H.n) fn.ntmps (ann gf) (exY P call (butW W H.n) N (ann me) fuel E ps assign body) H.n fuel c 0 (argA 0 (.yld H.n :: lb)) H1 with
        | some (.exit _, _, _) => none
        | some (_, E', H2) => (match aRes P H2 fn.results.toList E' with
          | some _ => some H2
          | none => none)
        | none => none)
      | _, _ => none)
    | _, _, _ => none)
  | _ => none

theorem fits_args {N : Nat} {args : List Value} (hn : args.length ≤ N) : Fits N [] (argE 0 args) { tmps := args.toArray ++ Array.replicate (N - args.toArray.size) undef, defers := [] } := by
  refine ⟨rfl, by simp; omega, ?_⟩
  intro i v hv
  obtain ⟨_, h2⟩ := argE_get _ _ _ _ hv
  have : i < args.length := (List.getElem?_eq_some_iff.1 (by simpa using h2)).1
  have h3 : args[i]? = some v := by simpa using h2
  show (args.toArray ++ Array.replicate (N - args.toArray.size) undef)[i]? = some v
  rw [Array.getElem?_append_left (by simpa using this)]
  simpa using h3
theorem results_of {fn : Func} {N : Nat} {E : Env} {a : Act} {w : World} {R : Value → Prop} (hf : Fits N [] E a) (h : resD P fn.results.toList E w fun vs => R (retV vs)) : a.defers = [] ∧ ∃ v, (results fn a.tmps).run P w = .ok v w ∧ R v :=
  bodyQ_post (P := P) (fn := fn) (R := fun e _ => match e with | .returned v => R v | _ => False) .ret a w ⟨E, hf, h⟩

/-- what a loop over a function leaves behind -/
def mark (D : Nat) : Deferred := { target := .collected D, args := #[] }

theorem exRange_wpIn (hP : OkP P) {call : Caller} (hc : CallOk P call) {N : Nat} {ann : FuncId → Nat → List Nat} {ok : FuncId → Bool} {me : FuncId} {fuel : Nat} {g : Operand} {ps : Array Tmp} {assign body : Code} {E : AEnv} {a : Act}
    (hpl : codePl (ann me) (.rangeFunc g ps assign body) = true) (hok : PlOk P ann ok) (h : exRange P call W N ann ok me fuel g ps.toList assign body E H = some H') (hR : Rel r H w) (hw : wfE H.n E = true) (hf : Fits N [] (concE r E) a) {Q : Exit → Act → World → Prop}
    (hk : ∀ D r' w', Post W r H w r' H' w' → (∀ i, W i = true → i < H'.n → (r' i).1 ≠ D) → w'.heap[D]? = some (.deferred (some [])) → w.heap.size ≤ D → Q .normal { a with defers := [mark D] } w') :
    (Code.rangeFunc g ps assign body).wpIn (FR none) 0 P Q a w := by
  unfold exRange at h
  split at h
  · rename_i gf lb hg
    split at h
    · rename_i fn H1 hfn hdel hokg
      split at h
      · rename_i c hcb hle
        have fin : ∀ k E' H2, (∀ id, k ≠ .exit id) → exIt P call (butW W H.n) fn.ntmps (ann gf) (exY P call (butW W H.n) N (ann me) fuel E ps.toList assign body) H.n fuel c 0 (argA 0 (.yld H.n :: lb)) H1 = some (k, E', H2) →
            (∃ l, aRes P H2 fn.results.toList E' = some l) → H' = H2 → (Code.rangeFunc g ps assign body).wpIn (FR none) 0 P Q a w := by
          rintro k E' H2 hne hx ⟨rl, hres⟩ rfl
          refine wpIn_rangeFunc fun fnid _ => ?_
          obtain ⟨rec, hrec⟩ : ∃ rec : Loop, rec = { state := .ready, pending := none, fn := fnid, tmps := a.tmps, params := ps, assign, body, defers := w.heap.size } := ⟨_, rfl⟩
          obtain ⟨W1, hW1⟩ : ∃ W1, (w.alloc (.deferred (some []))).alloc (.loop rec) = W1 := ⟨_, rfl⟩
          have hL1 : W1.heap[w.heap.size + 1]? = some (.loop rec) := by
            rw [← hW1]; have := World.alloc_heap_new (w.alloc (.deferred (some []))) (.loop rec); rwa [World.size_alloc] at this
          have hK1 : W1.heap[w.heap.size]? = some (.deferred (some [])) := by
            rw [← hW1]; exact (Below.heap_alloc _ _ _ (by simp)).trans (World.alloc_heap_new w _)
          have hG : Grow w W1 := by rw [← hW1]; exact (Grow.alloc w _).trans (Grow.alloc _ _)
          have hsz : W1.heap.size = w.heap.size + 2 := by rw [← hW1]; simp
          obtain ⟨hn1, hget1⟩ := AH.del_spec hdel
          have hn1 : H1.n = H.n + 1 := hn1
          have hsame := upd_same r H.n (w.heap.size + 1, 0)
          have hnew := upd_new r H.n (w.heap.size + 1, 0)
          have hold : ∀ i o, H1.get i = some o → H.get i = some o := fun i o hi => by
            have hlt := AH.get_lt hi
            rw [hget1] at hi
            split at hi
            · cases hi
            · rename_i hne
              rw [AH.get_eq (show i < H.n by omega)]
              rw [AH.get_eq (H := ⟨H.n + 1, H.t⟩) (show i < H.n + 1 by omega)] at hi
              exact hi
          have hP1 : Post (butW W H.n) r H w (upd r H.n (w.heap.size + 1, 0)) H1 W1 := by
            refine ⟨hsame, by omega, fun i h1 h2 => ?_, ⟨fun i o hi => ?_, fun i j x y hi hj hij => ?_, fun i hi => ?_, fun i o hi => ?_⟩, hG.os, hG.tape, hG.output, hG.size, fun b hb _ => hG.block b hb⟩
            · have : i = H.n := by omega
              subst this; rw [hnew]; exact .inl (by simp)
            · have h0 := hold i o hi
              obtain ⟨ob, h1, h2⟩ := hR.at_ i o h0
              rw [hsame i (AH.get_lt h0)]
              exact ⟨ob, (hG.block _ (hR.lt i (AH.get_lt h0))).trans h1, (AO.lies_congr hsame (hR.wf i o h0)).2 h2⟩
            · have h1 := hold i x hi
              have h2 := hold j y hj
              rw [hsame i (AH.get_lt h1), hsame j (AH.get_lt h2)] at hij
              exact hR.inj i j x y h1 h2 hij
            · by_cases hin : i < H.n
              · rw [hsame i hin]; exact Nat.lt_of_lt_of_le (hR.lt i hin) hG.size
              · have : i = H.n := by omega
                subst this; rw [hnew, hsz]; simp
            · exact AO.wf_mono (by omega) (hR.wf i o (hold i o hi))
          have hLp : Lp (butW W H.n) H.n (w.heap.size + 1) w.heap.size rec .ready r H w (upd r H.n (w.heap.size + 1, 0)) H1 W1 := by
            refine ⟨hP1, fun i hi hlt => ?_, fun i hi hlt => ?_, by rw [hL1, hrec], hK1, by omega, Nat.le_refl _, by omega, by rw [hnew]⟩
            · have := butW_ne hi
              rw [hsame i (by omega)]; have := hR.lt i (by omega); omega
            · have := butW_ne hi
              rw [hsame i (by omega)]; have := hR.lt i (by omega); omega
          have hge := (aev_ok hg r)
          have hgv : a.eval g = .func (.func gf) #[] (concL r lb).toArray := by rw [hf.ev hge.1, hge.2]; rfl
          have hwlb : wfL H.n lb = true := by
            have := aev_wf hw hg
            simp only [A.wf] at this
            split at this
            · exact this
            · cases this
          have hargs : (#[Value.func (.yield (w.heap.size + 1)) #[] #[]] ++ (concL r lb).toArray) = (concL (upd r H.n (w.heap.size + 1, 0)) (.yld H.n :: lb)).toArray := by
            simp only [concL, A.conc, hnew, concL_congr hsame lb hwlb]
            simp
          have hwa : wfL H1.n (.yld H.n :: lb) = true := wfL_cons.2 ⟨by simp [A.wf, Nat.blt_eq, hn1], wfL_mono (by omega) lb hwlb⟩
          have hbody : ∀ X : Prop, X → hasBody P gf X := fun X hX => by unfold hasBody; rw [hfn]; simp only [hcb]; exact hX
          have hrc := run_callFunc' hP (hbody True trivial) (#[Value.func (.yield (w.heap.size + 1)) #[] #[]] ++ (concL r lb).toArray) W1
          refine ⟨w.heap.size + 1, [mark w.heap.size], W1, { target := .fn (.func gf) (concL r lb).toArray, args := #[.func (.yield (w.heap.size + 1)) #[] #[]] }, W1, gf,
            #[.func (.yield (w.heap.size + 1)) #[] #[]] ++ (concL r lb).toArray, W1, ?_, ?_, fun _ _ => trivial, ?_, fun hc => by simp [FR] at hc, ?_⟩
          · rw [← hW1, hrec]; exact run_enterLoop_outer _ _ _ _ _
          · simp only [resolve, hgv, Deferred.ofValue, Sem.run_pure]
            simp
            rfl
          · simp only [invoke]; exact hrc.1
          · rw [hargs]
            refine callsIn_of_wp hfn hcb trivial ?_
            have hsz2 : (concL (upd r H.n (w.heap.size + 1, 0)) (.yld H.n :: lb)).length = lb.length + 1 := by simp [concL_map]
            have hY : YOk P (butW W H.n) H.n (w.heap.size + 1) w.heap.size rec r H w (exY P call (butW W H.n) N (ann me) fuel E ps.toList assign body) := fun as Ha Hb hy r1 w1 hwa1 hL1 R hR1 => by
              subst hrec
              exact exY_ok hP hc (and_both hpl).1 (and_both hpl).2 hy rfl hw (by have := hf.size; have := hf.val; exact ⟨rfl, hf.size, hf.val⟩) hwa1 hL1 hR1
            have hfit : Fits fn.ntmps [] (concE (upd r H.n (w.heap.size + 1, 0)) (argA 0 (.yld H.n :: lb))) { tmps := (concL (upd r H.n (w.heap.size + 1, 0)) (.yld H.n :: lb)).toArray ++ Array.replicate (fn.ntmps - (concL (upd r H.n (w.heap.size + 1, 0)) (.yld H.n :: lb)).toArray.size) undef, defers := [] } := by
              rw [argA_conc]
              exact fits_args (by rw [hsz2]; exact Nat.le_of_ble_eq_true hle)
            refine wpIn_mono (exIt_wpIn hP hc hY fuel (Q := fun e E w' => e = k.exit' ∧ ∃ r2, E = concE r2 E' ∧ Lp (butW W H.n) H.n (w.heap.size + 1) w.heap.size rec .ready r H w r2 H' w' ∧ wfE H'.n E' = true) (hok gf hokg fn c hfn hcb) hx hLp (argA_wf _ _ hwa) hfit fun r2 w2 hL2 hw2 _ _ => ⟨rfl, r2, rfl, hL2, hw2⟩) ?_
            rintro e a' w' ⟨E2, hf2, rfl, r2, rfl, hL2, hw2⟩
            have key : a'.defers = [] ∧ ∃ v, (results fn a'.tmps).run P w' = .ok v w' ∧ rangePost (FR none) 0 P (w.heap.size + 1) Q { a with defers := [mark w.heap.size] ++ a.defers } (.returned v) w' := by
              refine results_of (R := fun v => rangePost (FR none) 0 P (w.heap.size + 1) Q { a with defers := [mark w.heap.size] ++ a.defers } (.returned v) w') hf2 (aRes_ok hL2.post.rel hres ?_)
              have hpend : rec.pending = none := by rw [hrec]
              have hL3 := hL2.put (st' := .exhausted)
              have hoff : ∀ i, W i = true → i < H'.n → (r2 i).1 ≠ w.heap.size := fun i hi hlt => by
                by_cases hin : i = H.n
                · subst hin; rw [hL3.yl]; omega
                · exact hL3.offD i (by unfold butW; rw [show Nat.beq i H.n = false from by cases hb : Nat.beq i H.n with | true => exact absurd (Nat.eq_of_beq_eq_true hb) hin | false => rfl]; exact hi) hlt
              have this := hk w.heap.size r2 _ (hL3.post.mono fun _ => butW_le) hoff hL3.atD (Nat.le_refl _)
              refine ⟨_, _, run_endLoop (P := P) hL2.atl (by simp), ?_⟩
              rw [hf.defers]
              split
              · exact this
              · rename_i cc hcc
                exact absurd (hpend.symm.trans hcc) (by simp)
            cases k with
            | normal => exact key
            | ret => exact key
            | exit id => exact absurd rfl (hne id)
        split at h
        · cases h
        · rename_i k E1 H2 hne hx
          split at h
          · rename_i l hl; cases h; exact fin k E1 _ (fun id hc => by subst hc; exact hne _ rfl) hx ⟨l, hl⟩ rfl
          · cases h
        · cases h
      · cases h
    · cases h
  · cases h
end
end Go.Den
