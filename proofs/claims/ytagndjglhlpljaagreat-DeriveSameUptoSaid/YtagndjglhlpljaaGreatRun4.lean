/-
  A verified executor, part 11: regions that draw their order. Own work. It is generic: no program is named.
-/
import Derived.Test.YtagndjglhlpljaaGreatRun3
namespace Go.Den
open Go.RowKit (Below)

section
variable {P : Program} {ops : Array Oper}

theorem aMin_quiet {o : Oper} {c : Call} {b : Builtin} {E : AEnv} {as : List A} {a : A} (ho : o.op = .call c) (hcal : c.callee = .builtin b) (hargs : aevL E c.args.toList = some as) (hm : aMin P b c.argTypes o.type as = some a) (hs : shapeOk P o.type a = true)
    {all : List A} (hall : aevL E o.op.operands.toList = some all) (r : Nat → Nat × Nat) {K : Value → Prop} (hk : K (a.conc r)) (rr : Rd P) : quietC P o (concE r E) K rr := by
  have hkn := (aevL_ok (r := r) hall).1
  have h0 : (c.args.toList.map (ev (concE r E))).toArray = (concL r as).toArray := by rw [(aevL_ok (r := r) hargs).2]
  obtain ⟨s, h1, h2, _⟩ := aMin_ok hm r default
  unfold quietC
  rw [hkn]
  simp only [ho, hcal]
  split
  · exact absurd rfl h2
  · rw [h0, h1]
    refine shapeOk_ex hs r ⟨fun w' _ => ?_, hk⟩
    obtain ⟨s', h1', _, h3⟩ := aMin_ok hm r w'
    rw [h1] at h1'
    cases h1'
    exact h3

def aQuiet (P : Program) (call : Caller) (o : Oper) (E : AEnv) (H : AH) : Option A :=
  match aQ P o E H with
  | some a => some a
  | none => (match o.op with
    | .load T x => (match aev E x with
      | some (.ptr b off) => aRead P H T b off
      | _ => none)
    | .lookup T x i ok => (match aev E x, aev E i with
      | some a, some k => (match aLook P T a k ok H with
        | some v => (match shapeOk P o.type v with | true => some v | false => none)
        | none => none)
      | _, _ => none)
    | .call c => (match c.callee with
      | .value f => (match aev E f, aevL E c.args.toList with
        | some (.clo (.func g) first cap), some as => (match call (fun i => Nat.ble H.n i) g (first ++ as ++ cap) H with
          | some (a, _) => (match a.wf H.n, shapeOk P o.type a with
            | true, true => some a
            | _, _ => none)
          | none => none)
        | _, _ => none)
      | .builtin b => (match aevL E c.args.toList with
        | some as => (match aMin P b c.argTypes o.type as with
          | some a => (match shapeOk P o.type a with | true => some a | false => none)
          | none => none)
        | none => none)
      | _ => none)
    | _ => none)
theorem aQuiet_ok {call : Caller} (hc : CallOk P call) {o : Oper} {E : AEnv} {H : AH} {a : A} (h : aQuiet P call o E H = some a) {as : List A} (hall : aevL E o.op.operands.toList = some as) {r : Nat → Nat × Nat} {w : World} (hR : Rel r H w) (hw : wfE H.n E = true)
    {K : Value → Prop} (hk : K (a.conc r)) : quietC P o (concE r E) K (rdG P w) := by
  have hkn := (aevL_ok (r := r) hall).1
  unfold aQuiet at h
  split at h
  · rename_i a' hq; cases h; exact aQ_quiet hq hall hR hk _
  · split at h
    · rename_i T x ho
      split at h
      · rename_i b off hx
        unfold quietC
        rw [hkn]
        simp only [ho, (aev_ok hx r).2, A.conc, getSome]
        exact aRead_ok hR h hk
      · cases h
    · rename_i T x i ok ho
      split at h
      · rename_i a' k hx hi
        split at h
        · rename_i v hl
          split at h
          · rename_i hs
            cases h
            unfold quietC
            rw [hkn]
            simp only [ho, (aev_ok hx r).2, (aev_ok hi r).2]
            exact shapeOk_ex hs r ⟨fun w' hg => aLook_ok hl (hR.grow hg), hk⟩
          · cases h
        · cases h
      · cases h
    · rename_i c ho
      split at h
      · rename_i f hcal
        split at h
        · rename_i g first cap as' hf hargs
          split at h
          · rename_i a' H1 hcall
            split at h
            · rename_i hwf hs
              cases h
              have hwc := aev_wf hw hf
              have hwa := aevL_wf hw hargs
              have hwl : wfL H.n (first ++ as' ++ cap) = true := by
                simp only [A.wf] at hwc
                split at hwc
                · rename_i h1; exact wfL_append (wfL_append h1 hwa) hwc
                · cases hwc
              have hl : (concL r first).toArray.toList ++ c.args.toList.map (ev (concE r E)) ++ (concL r cap).toArray.toList = concL r (first ++ as' ++ cap) := by
                rw [(aevL_ok (r := r) hargs).2, concL_append, concL_append]
              unfold quietC
              rw [hkn]
              simp only [ho, hcal, (aev_ok hf r).2, A.conc, dynC, callC, hl]
              refine (hc (fun i => Nat.ble H.n i) g _ H a H1 hcall r w hR hwl).1 _ (shapeOk_ex hs r ⟨fun w1 hw1 => ?_, hk⟩)
              refine (hc (fun i => Nat.ble H.n i) g _ H a H1 hcall r w1 (hR.grow hw1) hwl).2.mono ?_
              rintro e w2 ⟨r', rfl, hp⟩
              exact ⟨by rw [A.conc_congr hp.ext a hwf], hp.quiet⟩
            · cases h
          · cases h
        · cases h
      · rename_i b hcal
        split at h
        · rename_i as' hargs
          split at h
          · rename_i a' hm
            split at h
            · rename_i hs; cases h; exact aMin_quiet ho hcal hargs hm hs hall r hk _
            · cases h
          · cases h
        · cases h
      · cases h
    · cases h

/-- one quiet operation -/
def exQ1 (N : Nat) (ops : Array Oper) (val : AEnv → Option A) (o : Oper) (E : AEnv) (H : AH) : Option AEnv :=
  match aGuard ops o E with
  | some (true, E1) => (match aevL E1 o.op.operands.toList, val E1 with
    | some _, some a => (match a.wf H.n with
      | true => putA N o.dst a E1
      | false => none)
    | _, _ => none)
  | some (false, E1) => putA N o.dst (.lit undef) E1
  | none => none
theorem exQ1_ok {N : Nat} {val : AEnv → Option A} {o : Oper} {E E' : AEnv} {H : AH} (h : exQ1 N ops val o E H = some E') {r : Nat → Nat × Nat} (hw : wfE H.n E = true) {rr : Rd P} {K : Env → Prop}
    (hv : ∀ E1 a as, val E1 = some a → aevL E1 o.op.operands.toList = some as → wfE H.n E1 = true → ∀ K : Value → Prop, K (a.conc r) → quietC P o (concE r E1) K rr) (hk : wfE H.n E' = true → K (concE r E')) :
    guardD ops o (concE r E) (fun E => quietC P o E (fun v => putD N o.dst v E fun E' => K E') rr) (fun E => putD N o.dst undef E fun E' => K E') := by
  unfold exQ1 at h
  split at h
  · rename_i E1 hg
    have hw1 := (aGuard_ok hg r hw (go := fun _ => True) (skip := fun _ => True) (fun _ => trivial) (fun _ => trivial)).1
    refine (aGuard_ok hg r hw (fun _ => ?_) (fun hf => by cases hf)).2
    split at h
    · rename_i as a hall hval
      split at h
      · rename_i hwf
        exact hv E1 a as hval hall hw1 _ (putA_ok h r (hk (putA_wf h hw1 hwf)))
      · cases h
    · cases h
  · rename_i E1 hg
    have hw1 := (aGuard_ok hg r hw (go := fun _ => True) (skip := fun _ => True) (fun _ => trivial) (fun _ => trivial)).1
    refine (aGuard_ok hg r hw (fun hf => by cases hf) (fun _ => ?_)).2
    exact putA_ok h r (hk (putA_wf h hw1 rfl))
  · cases h

def exQ (P : Program) (call : Caller) (N : Nat) (ops : Array Oper) : List Oper → AEnv → AH → Option AEnv
  | [], E, _ => some E
  | o :: l, E, H => (match exQ1 N ops (fun E1 => aQuiet P call o E1 H) o E H with
    | some E1 => exQ P call N ops l E1 H
    | none => none)
theorem exQ_den {call : Caller} (hc : CallOk P call) {N : Nat} {Q : Env → Prop} {H : AH} {r : Nat → Nat × Nat} {w : World} (hR : Rel r H w) : ∀ {l : List Oper} {E E' : AEnv}, exQ P call N ops l E H = some E' → wfE H.n E = true →
    (wfE H.n E' = true → Q (concE r E')) → denQ P N ops w Q l (concE r E) := by
  intro l
  induction l with
  | nil => intro E E' h hw hk; cases h; exact hk hw
  | cons o l ih =>
    intro E E' h hw hk
    simp only [exQ] at h
    split at h
    · rename_i E1 h1
      unfold denQ
      exact exQ1_ok h1 hw (K := fun E' => denQ P N ops w Q l E') (fun E1 a as hval hall hw1 K hK => aQuiet_ok hc hval hall hR hw1 hK) fun hw' => ih h hw' hk
    · cases h

def exZ (P : Program) (call : Caller) (W : Nat → Bool) (N : Nat) (ops : Array Oper) (kd : Nat → Zk) : Bool → List Nat → AEnv → AH → Option (AEnv × AH)
  | _, [], E, H => some (E, H)
  | ph, i :: l, E, H => (match ops[i]? with
    | none => none
    | some o => (match kd i with
      | .q => (match exQ1 N ops (fun E1 => aQuiet P call o E1 H) o E H with
        | some E1 => exZ P call W N ops kd ph l E1 H
        | none => none)
      | .s => (match exQ1 N ops (fun E1 => aQ P o E1 H) o E H with
        | some E1 => exZ P call W N ops kd ph l E1 H
        | none => none)
      | .a => (match ph, o.guard, isAl o.op, aevL E o.op.operands.toList, aNew P o.op E H with
        | false, none, true, some _, some (a, _, H1) => (match a.wf H1.n with
          | true => (match putA N o.dst a E with
            | some E1 => exZ P call W N ops kd ph l E1 H1
            | none => none)
          | false => none)
        | _, _, _, _, _ => none)
      | .l => (match exOp P call W N ops o E H with
        | some (E1, H1) => exZ P call W N ops kd true l E1 H1
        | none => none)))

theorem exZ_den {call : Caller} (hc : CallOk P call) {W : Nat → Bool} {N : Nat} {kd : Nat → Zk} {Q : Exit → Env → World → Prop} {r0 : Nat → Nat × Nat} {H0 : AH} {w0 : World} (hR0 : Rel r0 H0 w0) :
    ∀ {l : List Nat} {ph : Bool} {used : List Nat} {E E' : AEnv} {H H' : AH} {r : Nat → Nat × Nat} {w : World}, exZ P call W N ops kd ph l E H = some (E', H') → Post W r0 H0 w0 r H w → (ph = false → ∀ i, H0.n ≤ i → i < H.n → (r i).1 ∈ used) → wfE H.n E = true →
    (∀ r' w', Post W r0 H0 w0 r' H' w' → wfE H'.n E' = true → Q .normal (concE r' E') w') → denZ P N ops kd false ⟨[], []⟩ w0 Q l used (concE r E) w := by
  intro l
  induction l with
  | nil => intro ph used E E' H H' r w h hp hu hw hk; cases h; exact fun w' hg => hk r w' (hp.trans (Post.grow hp.rel hg)) hw
  | cons i l ih =>
    intro ph used E E' H H' r w h hp hu hw hk
    simp only [exZ] at h
    unfold denZ
    split at h
    · cases h
    · rename_i o ho
      simp only [ho]
      cases hkd : kd i with
      | q =>
        simp only [hkd] at h ⊢
        split at h
        · rename_i E1 h1
          exact exQ1_ok h1 hw (K := fun E' => denZ P N ops kd false ⟨[], []⟩ w0 Q l used E' w) (fun E1 a as hval hall hw1 K hK => aQuiet_ok hc hval hall hp.rel hw1 hK) fun hw' => ih h hp hu hw' hk
        · cases h
      | s =>
        simp only [hkd] at h ⊢
        split at h
        · rename_i E1 h1
          exact exQ1_ok h1 hw (K := fun E' => denZ P N ops kd false ⟨[], []⟩ w0 Q l used E' w) (fun E1 a as hval hall hw1 K hK => aQ_quiet hval hall hp.rel hK _) fun hw' => ih h hp hu hw' hk
        · cases h
      | a =>
        simp only [hkd] at h ⊢
        split at h
        · rename_i as a ob H1 hg hal hall hnew
          split at h
          · rename_i hwf
            split at h
            · rename_i E1 hput
              simp only [hg, (aevL_ok (r := r) hall).1]
              have hpw : H.push ob = some H1 ∧ ob.wf H.n = true := by
                have := aNew_alloc hal hnew r (K := fun _ _ => True) fun _ _ _ _ => trivial
                exact ⟨this.1, this.2.1⟩
              refine (aNew_alloc hal hnew r fun o' ptr h1 h2 => ?_).2.2
              intro n w' a1 a2 a3 a4
              have hn1 := (AH.push_spec hpw.1).1
              have hsame := upd_same r H.n (n, 0)
              have hnewr := upd_new r H.n (n, 0)
              have hu := hu rfl
              have hP : Post W r0 H0 w0 (upd r H.n (n, 0)) H1 w' := by
                refine ⟨fun j hj => (hsame j (Nat.lt_of_lt_of_le hj hp.le)).trans (hp.ext j hj), by have := hp.le; omega, fun j h3 h4 => ?_, ?_, a4.os.trans hp.os, a4.tape.trans hp.tape, a4.output.trans hp.output, Nat.le_trans hp.size a4.size, fun b hb hkeep => (a4.block b (Nat.lt_of_lt_of_le hb hp.size)).trans (hp.keep b hb hkeep)⟩
                · by_cases hj : j < H.n
                  · rw [hsame j hj]; exact hp.fresh j h3 hj
                  · have : j = H.n := by omega
                    subst this; rw [hnewr]; exact .inl a1
                · refine Rel.more hp.rel hpw.1 hpw.2 (fun j x hj hc' => ?_) a3 (h1 0) a4
                  have hlt := AH.get_lt hj
                  by_cases hj0 : j < H0.n
                  · rw [hp.ext j hj0] at hc'; have := hR0.lt j hj0; omega
                  · exact a2 (hc' ▸ hu j (by omega) hlt)
              have he : concE (upd r H.n (n, 0)) E = concE r E := concE_congr hsame hw
              rw [h2 n 0, ← he]
              refine putA_ok hput _ (ih h hP (fun _ j h3 h4 => ?_) (putA_wf hput (wfE_mono (by omega) hw) hwf) hk)
              by_cases hj : j < H.n
              · rw [hsame j hj]; exact List.mem_cons_of_mem _ (hu j h3 hj)
              · have : j = H.n := by omega
                subst this; rw [hnewr]; exact List.mem_cons_self
            · cases h
          · cases h
        · cases h
      | l =>
        simp only [hkd] at h ⊢
        split at h
        · rename_i E1 H1 h1
          intro w' hg
          exact exOp_den hc h1 (hp.rel.grow hg) hw (pan := fun _ _ _ => False) (K := fun E' w2 => denZ P N ops kd false ⟨[], []⟩ w0 Q l used E' w2) fun r' w2 hp2 hw' =>
            ih h ((hp.trans (Post.grow hp.rel hg)).trans hp2) (fun hf => by cases hf) hw' hk
        · cases h
end
end Go.Den
