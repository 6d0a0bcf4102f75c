/-
  A verified executor, part 11b: regions that draw their order and hold reads beside stores that do not meet them. Own work. It is generic: no program is named.
-/
import Derived.Test.YtagndjglhlpljaaGreatRun4
namespace Go.Den
open Go.RowKit (Below)

theorem Post.mono {W W' : Nat → Bool} {r r' : Nat → Nat × Nat} {H H' : AH} {w w' : World} (hW : ∀ i, W i = true → W' i = true) (h : Post W r H w r' H' w') : Post W' r H w r' H' w' :=
  ⟨h.ext, h.le, fun i h1 h2 => (h.fresh i h1 h2).imp id fun ⟨j, a, b, c⟩ => ⟨j, hW j a, b, c⟩, h.rel, h.os, h.tape, h.output, h.size, fun b hb hk => h.keep b hb fun i h1 h2 => hk i (hW i h1) h2⟩

/-- the blocks that are kept -/
def pickH (H0 : AH) : List Nat → Option AH
  | [] => some ⟨H0.n, .e⟩
  | i :: l => (match pickH H0 l, H0.get i with
    | some HS, some o => HS.set i o
    | _, _ => none)
theorem pickH_ok {H0 : AH} : ∀ {l : List Nat} {HS : AH}, pickH H0 l = some HS → HS.n = H0.n ∧ ∀ j o, HS.get j = some o → H0.get j = some o ∧ j ∈ l := by
  intro l
  induction l with
  | nil =>
    intro HS h
    cases h
    refine ⟨rfl, fun j o hj => ?_⟩
    have hlt := AH.get_lt hj
    rw [AH.get_eq hlt] at hj
    simp [Tr.get] at hj
  | cons i l ih =>
    intro HS h
    simp only [pickH] at h
    split at h
    · rename_i H1 o h1 ho
      obtain ⟨hn, hg⟩ := ih h1
      obtain ⟨hn', hi, hg'⟩ := AH.set_spec h
      refine ⟨hn'.trans hn, fun j x hj => ?_⟩
      rw [hg'] at hj
      split at hj
      · rename_i he; subst he; cases hj; exact ⟨ho, List.mem_cons_self⟩
      · obtain ⟨a, b⟩ := hg j x hj; exact ⟨a, List.mem_cons_of_mem _ b⟩
    · cases h

def memN (i : Nat) : List Nat → Bool
  | [] => false
  | j :: l => match Nat.beq i j with | true => true | false => memN i l
theorem memN_ok {i : Nat} : ∀ {l : List Nat}, i ∈ l → memN i l = true := by
  intro l
  induction l with
  | nil => intro h; cases h
  | cons j l ih =>
    intro h
    simp only [memN]
    split
    · rfl
    · rename_i hb
      rcases List.mem_cons.1 h with rfl | h
      · simp at hb
      · exact ih h
/-- what may be written beside the kept ones -/
def lessW (W : Nat → Bool) (H0 : AH) (l : List Nat) (i : Nat) : Bool :=
  match W i with
  | false => false
  | true => (match Nat.blt i H0.n with
    | false => true
    | true => (match H0.get i with
      | none => false
      | some _ => (match memN i l with
        | true => false
        | false => true)))
theorem lessW_le {W : Nat → Bool} {H0 : AH} {l : List Nat} {i : Nat} (h : lessW W H0 l i = true) : W i = true := by
  unfold lessW at h
  split at h
  · cases h
  · assumption
theorem lessW_out {W : Nat → Bool} {H0 : AH} {l : List Nat} {i : Nat} (h : lessW W H0 l i = true) (hi : i < H0.n) : (∃ o, H0.get i = some o) ∧ i ∉ l := by
  unfold lessW at h
  split at h
  · cases h
  · split at h
    · rename_i hb; rw [show Nat.blt i H0.n = true from by simpa [Nat.blt_eq] using hi] at hb; cases hb
    · split at h
      · cases h
      · rename_i o ho
        split at h
        · cases h
        · rename_i hm; exact ⟨⟨o, ho⟩, fun hc => by rw [memN_ok hc] at hm; cases hm⟩
def vEq : Value → Value → Bool
  | .int k x, .int k' y => (match ikEq k k' with | true => decide (x = y) | false => false)
  | .bool x, .bool y => (match x, y with | true, true => true | false, false => true | _, _ => false)
  | .pointer none, .pointer none => true
  | .slice none n c, .slice none n' c' => (match Nat.beq n n', Nat.beq c c' with | true, true => true | _, _ => false)
  | .map none, .map none => true
  | _, _ => false
theorem vEq_ok {x y : Value} (h : vEq x y = true) : x = y := by
  unfold vEq at h
  split at h
  · rename_i k x k' y
    split at h
    · rename_i hk; have hkk : k = k' := by cases k <;> cases k' <;> first | rfl | exact absurd hk (by decide)
      rw [hkk, of_decide_eq_true h]
    · cases h
  · split at h <;> first | rfl | cases h
  · rfl
  · rename_i n c n' c'
    split at h
    · rename_i h1 h2; rw [Nat.eq_of_beq_eq_true h1, Nat.eq_of_beq_eq_true h2]
    · cases h
  · rfl
  · cases h
def cpEq : Cp → Cp → Bool
  | .known a, .known b => Nat.beq a b
  | .less a, .less b => Nat.beq a b
  | _, _ => false
def aEq1 : A → A → Bool
  | .lit v, .lit v' => vEq v v'
  | .ptr b o, .ptr b' o' => (match Nat.beq b b', Nat.beq o o' with | true, true => true | _, _ => false)
  | .sl b o n c, .sl b' o' n' c' => (match Nat.beq b b', Nat.beq o o', Nat.beq n n', cpEq c c' with | true, true, true, true => true | _, _, _, _ => false)
  | .mp b, .mp b' => Nat.beq b b'
  | _, _ => false
theorem aEq1_ok {x y : A} (h : aEq1 x y = true) : x = y := by
  unfold aEq1 at h
  split at h
  · rw [vEq_ok h]
  · split at h
    · rename_i h1 h2; rw [Nat.eq_of_beq_eq_true h1, Nat.eq_of_beq_eq_true h2]
    · cases h
  · split at h
    · rename_i h1 h2 h3 h4
      rw [Nat.eq_of_beq_eq_true h1, Nat.eq_of_beq_eq_true h2, Nat.eq_of_beq_eq_true h3]
      unfold cpEq at h4
      split at h4
      · rw [Nat.eq_of_beq_eq_true h4]
      · rw [Nat.eq_of_beq_eq_true h4]
      · cases h4
    · cases h
  · rw [Nat.eq_of_beq_eq_true h]
  · cases h
/-- cells that are as they were -/
def keptC (H0 H : AH) : List (Nat × Nat) → Bool
  | [] => true
  | (b, off) :: l => (match cellsAt H0 b, cellsAt H b with
    | some l0, some l1 => (match l0[off]?, l1[off]? with
      | some a0, some a1 => (match aEq1 a0 a1 with
        | true => keptC H0 H l
        | false => false)
      | _, _ => false)
    | _, _ => false)
theorem keptC_ok {H0 H : AH} : ∀ {l : List (Nat × Nat)}, keptC H0 H l = true → ∀ b off, (b, off) ∈ l → ∃ l0 l1 a, cellsAt H0 b = some l0 ∧ cellsAt H b = some l1 ∧ l0[off]? = some a ∧ l1[off]? = some a := by
  intro l
  induction l with
  | nil => intro _ b off h; cases h
  | cons x l ih =>
    intro h b off hm
    obtain ⟨b', off'⟩ := x
    simp only [keptC] at h
    split at h
    · rename_i l0 l1 h0 h1
      split at h
      · rename_i a0 a1 ha0 ha1
        split at h
        · rename_i he
          rcases List.mem_cons.1 hm with hx | hm
          · cases hx
            have := aEq1_ok he
            subst this
            exact ⟨l0, l1, a0, h0, h1, ha0, ha1⟩
          · exact ih h b off hm
        · cases h
      · cases h
    · cases h
/-- the places that may be written, but for some cells -/
def placesX (W : Nat → Bool) (r0 : Nat → Nat × Nat) (H0 : AH) (Y : List (Nat × Nat)) : KX := ⟨((List.range H0.n).filter W).map fun i => (r0 i).1, Y.map fun x => ⟨(r0 x.1).1, x.2, none⟩⟩
theorem placesX_mem {W : Nat → Bool} {r0 : Nat → Nat × Nat} {H0 : AH} {Y : List (Nat × Nat)} {b : Nat} : b ∈ (placesX W r0 H0 Y).b ↔ ∃ i, W i = true ∧ i < H0.n ∧ (r0 i).1 = b := by
  unfold placesX
  simp only [List.mem_map, List.mem_filter, List.mem_range]
  exact ⟨fun ⟨i, ⟨h1, h2⟩, h3⟩ => ⟨i, h2, h1, h3⟩, fun ⟨i, h1, h2, h3⟩ => ⟨i, ⟨h2, h1⟩, h3⟩⟩
theorem cellsAt_lt {H : AH} {b : Nat} {l : List A} (h : cellsAt H b = some l) : b < H.n := by
  unfold cellsAt at h
  split at h
  · rename_i ho; exact AH.get_lt ho
  · cases h
theorem cellsAt_wf {r : Nat → Nat × Nat} {H : AH} {w : World} (hR : Rel r H w) {b : Nat} {l : List A} (h : cellsAt H b = some l) {i : Nat} {a : A} (ha : l[i]? = some a) : a.wf H.n = true := by
  unfold cellsAt at h
  split at h
  · rename_i l' T sz ho
    cases h
    have := hR.wf b _ ho
    exact wfL_iff.1 this a (List.mem_of_getElem? ha)
  · cases h
theorem Post.keeps {W : Nat → Bool} {r0 r : Nat → Nat × Nat} {H0 H : AH} {w0 w : World} {Y : List (Nat × Nat)} (hR : Rel r0 H0 w0) (h : Post W r0 H0 w0 r H w) (hY : keptC H0 H Y = true) : Keeps (placesX W r0 H0 Y) w0 w := by
  refine ⟨h.size, fun b hb hx => h.keep b hb fun i h1 h2 h3 => hx (placesX_mem.2 ⟨i, h1, h2, h3⟩), fun ad had v hv => ?_⟩
  unfold placesX at had
  obtain ⟨⟨b, off⟩, hm, rfl⟩ := List.mem_map.1 had
  obtain ⟨l0, l1, a, h0, h1, ha0, ha1⟩ := keptC_ok hY b off hm
  have e0 := cellsAt_ok hR h0 ha0
  have e1 := cellsAt_ok h.rel h1 ha1
  rw [h.ext b (cellsAt_lt h0), A.conc_congr h.ext a (cellsAt_wf hR h0 ha0)] at e1
  dsimp only at hv ⊢
  rw [e1, ← hv, e0]

theorem kept_apart {W : Nat → Bool} {r0 : Nat → Nat × Nat} {H0 HS : AH} {w0 : World} {l : List Nat} {Y : List (Nat × Nat)} (hR : Rel r0 H0 w0) (hp : pickH H0 l = some HS) {b : Nat} {o : AO} (hb : HS.get b = some o) : (r0 b).1 ∉ (placesX (lessW W H0 l) r0 H0 Y).b := by
  obtain ⟨hn, hg⟩ := pickH_ok hp
  obtain ⟨h1, h2⟩ := hg b o hb
  intro hc
  obtain ⟨i, hi1, hi2, hi3⟩ := placesX_mem.1 hc
  obtain ⟨⟨o', ho'⟩, hni⟩ := lessW_out hi1 hi2
  have := hR.inj i b o' o ho' h1 hi3
  subst this
  exact hni h2
theorem Rel.congr {r0 r : Nat → Nat × Nat} {H0 : AH} {w0 : World} (hR : Rel r0 H0 w0) (he : ∀ i, i < H0.n → r i = r0 i) : Rel r H0 w0 :=
  ⟨fun i o hi => by obtain ⟨ob, h3, h4⟩ := hR.at_ i o hi; rw [he i (AH.get_lt hi)]; exact ⟨ob, h3, (AO.lies_congr he (hR.wf i o hi)).2 h4⟩,
   fun i j x y hi hj hij => by rw [he i (AH.get_lt hi), he j (AH.get_lt hj)] at hij; exact hR.inj i j x y hi hj hij, fun i hi => by rw [he i hi]; exact hR.lt i hi, hR.wf⟩
theorem kept_rel {W : Nat → Bool} {r0 r : Nat → Nat × Nat} {H0 HS : AH} {w0 w : World} {l : List Nat} {Y : List (Nat × Nat)} (hR : Rel r0 H0 w0) (hp : pickH H0 l = some HS) (he : ∀ i, i < H0.n → r i = r0 i) (hk : Keeps (placesX (lessW W H0 l) r0 H0 Y) w0 w) : Rel r HS w := by
  obtain ⟨hn, hg⟩ := pickH_ok hp
  refine ⟨fun i o hi => ?_, fun i j x y hi hj hij => ?_, fun i hi => ?_, fun i o hi => ?_⟩
  · obtain ⟨h1, h2⟩ := hg i o hi
    obtain ⟨ob, h3, h4⟩ := hR.at_ i o h1
    have hlt := AH.get_lt h1
    rw [he i hlt]
    exact ⟨ob, (hk.2.1 _ (hR.lt i hlt) (kept_apart hR hp hi)).trans h3, (AO.lies_congr he (hR.wf i o h1)).2 h4⟩
  · obtain ⟨h1, _⟩ := hg i x hi
    obtain ⟨h2, _⟩ := hg j y hj
    rw [he i (AH.get_lt h1), he j (AH.get_lt h2)] at hij
    exact hR.inj i j x y h1 h2 hij
  · rw [he i (by omega)]; exact Nat.lt_of_lt_of_le (hR.lt i (by omega)) hk.1
  · obtain ⟨h1, h2⟩ := hg i o hi
    rw [hn]; exact hR.wf i o h1
def memC (b off : Nat) : List (Nat × Nat) → Bool
  | [] => false
  | (b', o') :: l => (match Nat.beq b b', Nat.beq off o' with | true, true => true | _, _ => memC b off l)
theorem memC_ok {b off : Nat} : ∀ {l : List (Nat × Nat)}, memC b off l = true → (b, off) ∈ l := by
  intro l
  induction l with
  | nil => intro h; cases h
  | cons x l ih =>
    intro h
    obtain ⟨b', o'⟩ := x
    simp only [memC] at h
    split at h
    · rename_i h1 h2; rw [Nat.eq_of_beq_eq_true h1, Nat.eq_of_beq_eq_true h2]; exact List.mem_cons_self
    · exact List.mem_cons_of_mem _ (ih h)

section
variable {P : Program} {ops : Array Oper}

theorem exOp_denS {call : Caller} (hc : CallOk P call) {W : Nat → Bool} {N : Nat} {o : Oper} {E E' : AEnv} {H H' : AH} (h : exOp P call W N ops o E H = some (E', H')) {r : Nat → Nat × Nat} {w w0 : World} {X : KX} (hR : Rel r H w) (hw : wfE H.n E = true)
    {pan : Env → List PanicEntry → World → Prop} {K : Env → World → Prop} (hS : ∀ r' w', Post W r H w r' H' w' → Keeps X w0 w') (hk : ∀ r' w', Post W r H w r' H' w' → wfE H'.n E' = true → K (concE r' E') w') :
    guardD ops o (concE r E) (fun E => denOp P o E (pan E) (fun v w' => sObl true X w0 w' (putD N o.dst v E fun E' => K E' w')) w) (fun E => sObl true X w0 w (putD N o.dst undef E fun E' => K E' w)) := by
  unfold exOp at h
  split at h
  · rename_i E1 hg
    refine (aGuard_ok hg r hw (fun _ => ?_) (fun hf => by cases hf)).2
    have hw1 := (aGuard_ok hg r hw (go := fun _ => True) (skip := fun _ => True) (fun _ => trivial) (fun _ => trivial)).1
    split at h
    · rename_i as hall
      split at h
      · rename_i a H1 hop
        split at h
        · rename_i hwf
          split at h
          · rename_i E2 hput
            cases h
            refine aOp_den hc hop hall hR hw1 fun r' w' hp => ⟨hS r' w' hp, ?_⟩
            have he : concE r' E1 = concE r E1 := concE_congr hp.ext hw1
            rw [← he]
            exact putA_ok hput r' (hk r' w' hp (putA_wf hput (wfE_mono hp.le hw1) hwf))
          · cases h
        · cases h
      · cases h
    · cases h
  · rename_i E1 hg
    refine (aGuard_ok hg r hw (fun hf => by cases hf) (fun _ => ?_)).2
    have hw1 := (aGuard_ok hg r hw (go := fun _ => True) (skip := fun _ => True) (fun _ => trivial) (fun _ => trivial)).1
    split at h
    · rename_i E2 hput
      cases h
      exact ⟨hS r w (Post.refl hR), putA_ok hput r (hk r w (Post.refl hR) (putA_wf hput hw1 rfl))⟩
    · cases h
  · cases h

theorem aRead_lt {H : AH} {T : TypeId} {b off : Nat} {a : A} (h : aRead P H T b off = some a) : b < H.n := by
  unfold aRead at h
  split at h
  · rename_i l hl; exact cellsAt_lt hl
  · cases h
/-- an operation that reads what is kept -/
def aQuietS (P : Program) (call : Caller) (o : Oper) (E : AEnv) (H0 HS : AH) (Y : List (Nat × Nat)) : Option A :=
  match aQ P o E HS with
  | some a => some a
  | none => (match o.op with
    | .load T x => (match aev E x with
      | some (.ptr b off) => (match HS.get b with
        | some _ => aRead P HS T b off
        | none => (match isAggB P T, memC b off Y with
          | false, true => aRead P H0 T b off
          | _, _ => none))
      | _ => none)
    | .lookup T x i ok => (match aev E x, aev E i with
      | some a, some k => (match aLook P T a k ok HS with
        | some v => (match shapeOk P o.type v with | true => some v | false => none)
        | none => none)
      | _, _ => none)
    | .call c => (match c.callee with
      | .value f => (match aev E f, aevL E c.args.toList with
        | some (.clo (.func g) first cap), some as => (match wfL HS.n (first ++ as ++ cap) with
          | true => (match call (fun i => Nat.ble HS.n i) g (first ++ as ++ cap) HS with
            | some (a, _) => (match a.wf HS.n, shapeOk P o.type a with
              | true, true => some a
              | _, _ => none)
            | none => none)
          | false => none)
        | _, _ => none)
      | .builtin b => (match aevL E c.args.toList with
        | some as => (match aMin P b c.argTypes o.type as with
          | some a => (match shapeOk P o.type a with | true => some a | false => none)
          | none => none)
        | none => none)
      | _ => none)
    | _ => none)
theorem aQuietS_ok {call : Caller} (hc : CallOk P call) {o : Oper} {E : AEnv} {HS : AH} {a : A} {H0 : AH} {Y : List (Nat × Nat)} (h : aQuietS P call o E H0 HS Y = some a) {as : List A} (hall : aevL E o.op.operands.toList = some as) {r : Nat → Nat × Nat} {X : KX} {w0 : World}
    (hR : ∀ w, Keeps X w0 w → Rel r HS w) (hR00 : Rel r H0 w0) (hX : ∀ b o, HS.get b = some o → (r b).1 ∉ X.b) (hXc : ∀ b off, (b, off) ∈ Y → b < H0.n → (⟨(r b).1, off, none⟩ : Addr) ∈ X.c) {K : Value → Prop} (hk : K (a.conc r)) : quietC P o (concE r E) K (rdS P true X w0) := by
  have hkn := (aevL_ok (r := r) hall).1
  have hR0 := hR w0 (Keeps.refl _ _)
  unfold aQuietS at h
  split at h
  · rename_i a' hq; cases h; exact aQ_quiet hq hall hR0 hk _
  · split at h
    · rename_i T x ho
      split at h
      · rename_i b off hx
        split at h
        · rename_i o' hb
          unfold quietC
          rw [hkn]
          simp only [ho, (aev_ok hx r).2, A.conc, getSome]
          refine ⟨?_, aRead_ok hR0 h hk⟩
          unfold kin
          split
          · exact hX b o' hb
          · exact .inl (hX b o' hb)
        · split at h
          · rename_i hagg hm
            unfold quietC
            rw [hkn]
            simp only [ho, (aev_ok hx r).2, A.conc, getSome]
            refine ⟨?_, aRead_ok hR00 h hk⟩
            unfold kin
            rw [hagg]
            exact .inr (hXc b off (memC_ok hm) (aRead_lt h))
          · cases h
      · cases h
    · rename_i T x i ok ho
      split at h
      · rename_i a' k hx hi
        split at h
        · rename_i v hl
          split at h
          · rename_i hs
            cases h
            unfold quietC
            rw [hkn]
            simp only [ho, (aev_ok hx r).2, (aev_ok hi r).2]
            exact shapeOk_ex hs r ⟨fun w' hg => aLook_ok hl (hR w' hg), hk⟩
          · cases h
        · cases h
      · cases h
    · rename_i c ho
      split at h
      · rename_i f hcal
        split at h
        · rename_i g first cap as' hf hargs
          split at h
          · rename_i hwl
            split at h
            · rename_i a' H1 hcall
              split at h
              · rename_i hwf hs
                cases h
                have hl : (concL r first).toArray.toList ++ c.args.toList.map (ev (concE r E)) ++ (concL r cap).toArray.toList = concL r (first ++ as' ++ cap) := by
                  rw [(aevL_ok (r := r) hargs).2, concL_append, concL_append]
                unfold quietC
                rw [hkn]
                simp only [ho, hcal, (aev_ok hf r).2, A.conc, dynC, callC, hl]
                refine (hc (fun i => Nat.ble HS.n i) g _ HS a H1 hcall r w0 hR0 hwl).1 _ (shapeOk_ex hs r ⟨fun w1 hw1 => ?_, hk⟩)
                refine (hc (fun i => Nat.ble HS.n i) g _ HS a H1 hcall r w1 (hR w1 hw1) hwl).2.mono ?_
                rintro e w2 ⟨r', rfl, hp⟩
                exact ⟨by rw [A.conc_congr hp.ext a hwf], hp.quiet⟩
              · cases h
            · cases h
          · cases h
        · cases h
      · rename_i b hcal
        split at h
        · rename_i as' hargs
          split at h
          · rename_i a' hm
            split at h
            · rename_i hs; cases h; exact aMin_quiet ho hcal hargs hm hs hall r hk _
            · cases h
          · cases h
        · cases h
      · cases h
    · cases h

def exZS (P : Program) (call : Caller) (W : Nat → Bool) (N : Nat) (ops : Array Oper) (kd : Nat → Zk) (H0 HS : AH) (Y : List (Nat × Nat)) : Bool → List Nat → AEnv → AH → Option (AEnv × AH)
  | _, [], E, H => some (E, H)
  | ph, i :: l, E, H => (match ops[i]? with
    | none => none
    | some o => (match kd i with
      | .q => (match exQ1 N ops (fun E1 => aQuiet P call o E1 H) o E H with
        | some E1 => exZS P call W N ops kd H0 HS Y ph l E1 H
        | none => none)
      | .s => (match exQ1 N ops (fun E1 => aQuietS P call o E1 H0 HS Y) o E H with
        | some E1 => exZS P call W N ops kd H0 HS Y ph l E1 H
        | none => none)
      | .a => (match ph, o.guard, isAl o.op, aevL E o.op.operands.toList, aNew P o.op E H with
        | false, none, true, some _, some (a, _, H1) => (match a.wf H1.n with
          | true => (match putA N o.dst a E with
            | some E1 => exZS P call W N ops kd H0 HS Y ph l E1 H1
            | none => none)
          | false => none)
        | _, _, _, _, _ => none)
      | .l => (match exOp P call W N ops o E H with
        | some (E1, H1) => (match keptC H0 H1 Y with
          | true => exZS P call W N ops kd H0 HS Y true l E1 H1
          | false => none)
        | none => none)))

theorem exZS_den {call : Caller} (hc : CallOk P call) {W : Nat → Bool} {N : Nat} {kd : Nat → Zk} {Q : Exit → Env → World → Prop} {r0 : Nat → Nat × Nat} {H0 HS : AH} {w0 : World} {rs : List Nat} {Y : List (Nat × Nat)} (hR0 : Rel r0 H0 w0) (hp0 : pickH H0 rs = some HS) :
    ∀ {l : List Nat} {ph : Bool} {used : List Nat} {E E' : AEnv} {H H' : AH} {r : Nat → Nat × Nat} {w : World}, exZS P call (lessW W H0 rs) N ops kd H0 HS Y ph l E H = some (E', H') → Post (lessW W H0 rs) r0 H0 w0 r H w → (ph = false → ∀ i, H0.n ≤ i → i < H.n → (r i).1 ∈ used) → wfE H.n E = true →
    (∀ r' w', Post (lessW W H0 rs) r0 H0 w0 r' H' w' → wfE H'.n E' = true → Q .normal (concE r' E') w') → denZ P N ops kd true (placesX (lessW W H0 rs) r0 H0 Y) w0 Q l used (concE r E) w := by
  intro l
  induction l with
  | nil => intro ph used E E' H H' r w h hp hu hw hk; cases h; exact fun w' hg => hk r w' (hp.trans (Post.grow hp.rel hg)) hw
  | cons i l ih =>
    intro ph used E E' H H' r w h hp hu hw hk
    simp only [exZS] at h
    unfold denZ
    split at h
    · cases h
    · rename_i o ho
      simp only [ho]
      cases hkd : kd i with
      | q =>
        simp only [hkd] at h ⊢
        split at h
        · rename_i E1 h1
          exact exQ1_ok h1 hw (K := fun E' => denZ P N ops kd true _ w0 Q l used E' w) (fun E1 a as hval hall hw1 K hK => aQuiet_ok hc hval hall hp.rel hw1 hK) fun hw' => ih h hp hu hw' hk
        · cases h
      | s =>
        simp only [hkd] at h ⊢
        split at h
        · rename_i E1 h1
          refine exQ1_ok h1 hw (K := fun E' => denZ P N ops kd true _ w0 Q l used E' w) (fun E1 a as hval hall hw1 K hK => ?_) fun hw' => ih h hp hu hw' hk
          exact aQuietS_ok hc hval hall (fun w1 hw1 => kept_rel hR0 hp0 hp.ext hw1) (hR0.congr hp.ext) (fun b o hb => by rw [hp.ext b ((pickH_ok hp0).1 ▸ AH.get_lt hb)]; exact kept_apart hR0 hp0 hb)
            (fun b off hm hlt => by rw [hp.ext b hlt]; exact List.mem_map.2 ⟨(b, off), hm, rfl⟩) hK
        · cases h
      | a =>
        simp only [hkd] at h ⊢
        split at h
        · rename_i as a ob H1 hg hal hall hnew
          split at h
          · rename_i hwf
            split at h
            · rename_i E1 hput
              simp only [hg, (aevL_ok (r := r) hall).1]
              have hpw : H.push ob = some H1 ∧ ob.wf H.n = true := by
                have := aNew_alloc hal hnew r (K := fun _ _ => True) fun _ _ _ _ => trivial
                exact ⟨this.1, this.2.1⟩
              refine (aNew_alloc hal hnew r fun o' ptr h1 h2 => ?_).2.2
              intro n w' a1 a2 a3 a4
              have hn1 := (AH.push_spec hpw.1).1
              have hsame := upd_same r H.n (n, 0)
              have hnewr := upd_new r H.n (n, 0)
              have hu := hu rfl
              have hP : Post (lessW W H0 rs) r0 H0 w0 (upd r H.n (n, 0)) H1 w' := by
                refine ⟨fun j hj => (hsame j (Nat.lt_of_lt_of_le hj hp.le)).trans (hp.ext j hj), by have := hp.le; omega, fun j h3 h4 => ?_, ?_, a4.os.trans hp.os, a4.tape.trans hp.tape, a4.output.trans hp.output, Nat.le_trans hp.size a4.size, fun b hb hkeep => (a4.block b (Nat.lt_of_lt_of_le hb hp.size)).trans (hp.keep b hb hkeep)⟩
                · by_cases hj : j < H.n
                  · rw [hsame j hj]; exact hp.fresh j h3 hj
                  · have : j = H.n := by omega
                    subst this; rw [hnewr]; exact .inl a1
                · refine Rel.more hp.rel hpw.1 hpw.2 (fun j x hj hc' => ?_) a3 (h1 0) a4
                  have hlt := AH.get_lt hj
                  by_cases hj0 : j < H0.n
                  · rw [hp.ext j hj0] at hc'; have := hR0.lt j hj0; omega
                  · exact a2 (hc' ▸ hu j (by omega) hlt)
              have he : concE (upd r H.n (n, 0)) E = concE r E := concE_congr hsame hw
              rw [h2 n 0, ← he]
              refine putA_ok hput _ (ih h hP (fun _ j h3 h4 => ?_) (putA_wf hput (wfE_mono (by omega) hw) hwf) hk)
              by_cases hj : j < H.n
              · rw [hsame j hj]; exact List.mem_cons_of_mem _ (hu j h3 hj)
              · have : j = H.n := by omega
                subst this; rw [hnewr]; exact List.mem_cons_self
            · cases h
          · cases h
        · cases h
      | l =>
        simp only [hkd] at h ⊢
        split at h
        · rename_i E1 H1 h1
          split at h
          rotate_left
          · cases h
          rename_i hkc
          intro w' hg
          have hpg := hp.trans (Post.grow hp.rel hg)
          exact exOp_denS hc h1 (hp.rel.grow hg) hw (pan := fun _ _ _ => False) (K := fun E' w2 => denZ P N ops kd true (placesX (lessW W H0 rs) r0 H0 Y) w0 Q l used E' w2) (fun r' w2 hp2 => (hpg.trans hp2).keeps hR0 hkc) (fun r' w2 hp2 hw' =>
            ih h (hpg.trans hp2) (fun hf => by cases hf) hw' hk)
        · cases h

/-- which blocks and cells the reads look at (a guess, that 'exZS' proves) -/
def scanS (P : Program) (call : Caller) (W : Nat → Bool) (N : Nat) (ops : Array Oper) (kd : Nat → Zk) : List Nat → AEnv → AH → List Nat → List (Nat × Nat) → Option (List Nat × List (Nat × Nat))
  | [], _, _, rs, Y => some (rs, Y)
  | i :: l, E, H, rs, Y => (match ops[i]? with
    | none => none
    | some o => (match kd i with
      | .q => (match exQ1 N ops (fun E1 => aQuiet P call o E1 H) o E H with
        | some E1 => scanS P call W N ops kd l E1 H rs Y
        | none => none)
      | .s => (match exQ1 N ops (fun E1 => aQuiet P call o E1 H) o E H with
        | some E1 => (match o.op with
          | .load T x => (match aev E x, isAggB P T with
            | some (.ptr b off), false => scanS P call W N ops kd l E1 H rs ((b, off) :: Y)
            | some (.ptr b _), true => scanS P call W N ops kd l E1 H (b :: rs) Y
            | _, _ => scanS P call W N ops kd l E1 H rs Y)
          | .lookup _ x _ _ => (match aev E x with
            | some (.mp b) => scanS P call W N ops kd l E1 H (b :: rs) Y
            | _ => scanS P call W N ops kd l E1 H rs Y)
          | _ => scanS P call W N ops kd l E1 H rs Y)
        | none => none)
      | .a => (match aNew P o.op E H with
        | some (a, _, H1) => (match putA N o.dst a E with
            | some E1 => scanS P call W N ops kd l E1 H1 rs Y
            | none => none)
        | _ => none)
      | .l => (match o.op with
        | .call c => (match c.callee with
          | .value _ => some (rs, Y)
          | _ => (match exOp P call W N ops o E H with
            | some (E1, H1) => scanS P call W N ops kd l E1 H1 rs Y
            | none => none))
        | _ => (match exOp P call W N ops o E H with
          | some (E1, H1) => scanS P call W N ops kd l E1 H1 rs Y
          | none => none))))
def exZT (P : Program) (call : Caller) (W : Nat → Bool) (N : Nat) (ops : Array Oper) (kd : Nat → Zk) (l : List Nat) (E : AEnv) (H : AH) : Option (AEnv × AH) :=
  match scanS P call W N ops kd l E H [] [] with
  | none => none
  | some (rs, Y) => (match pickH H rs with
    | none => none
    | some HS => exZS P call (lessW W H rs) N ops kd H HS Y false l E H)
theorem exZT_den {call : Caller} (hc : CallOk P call) {W : Nat → Bool} {N : Nat} {kd : Nat → Zk} {Q : Exit → Env → World → Prop} {l : List Nat} {E E' : AEnv} {H H' : AH} {r : Nat → Nat × Nat} {w : World} (h : exZT P call W N ops kd l E H = some (E', H'))
    (hR : Rel r H w) (hw : wfE H.n E = true) (hk : ∀ r' w', Post W r H w r' H' w' → wfE H'.n E' = true → Q .normal (concE r' E') w') : ∃ X, denZ P N ops kd true X w Q l [] (concE r E) w := by
  unfold exZT at h
  split at h
  · cases h
  · rename_i rs Y _
    split at h
    · cases h
    · rename_i HS hp
      exact ⟨_, exZS_den hc hR hp h (Post.refl hR) (fun _ i h1 h2 => by omega) hw fun r' w' hp' => hk r' w' (hp'.mono fun _ => lessW_le)⟩
end
end Go.Den
