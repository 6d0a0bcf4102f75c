/-
  A verified executor, part 9: one operation, with memory and calls. Own work. It is generic: no program is named.
-/
import Derived.Test.YtagndjglhlpljaaGreatRun1
namespace Go.Den
open Go.RowKit (Below)

abbrev Caller := (Nat → Bool) → FuncId → List A → AH → Option (A × AH)
/-- what a caller is trusted with: nothing that is not so -/
def CallOk (P : Program) (call : Caller) : Prop := ∀ W g args H a H', call W g args H = some (a, H') → ∀ r w, Rel r H w → wfL H.n args = true →
  (∀ X : Prop, X → hasBody P g X) ∧ Calls P g (concL r args).toArray w fun e w' => ∃ r', e = .returned (a.conc r') ∧ Post W r H w r' H' w'

section
variable {P : Program}

def aMin (P : Program) (b : Builtin) (ats : Array TypeId) (T : TypeId) (as : List A) : Option A :=
  match b, litsOf as with
  | .min, some vs => (match evalPure P (Builtin.min_ ats T vs.toArray) with | some v => some (.lit v) | none => none)
  | .max, some vs => (match evalPure P (Builtin.max_ ats T vs.toArray) with | some v => some (.lit v) | none => none)
  | _, _ => none
def aCall (P : Program) (call : Caller) (W : Nat → Bool) (T : TypeId) (c : Call) (E : AEnv) (H : AH) : Option (A × AH) :=
  match c.callee with
  | .value f => (match aev E f, aevL E c.args.toList with
    | some (.clo (.func g) first cap), some as => (match call W g (first ++ as ++ cap) H with
      | some (a, H') => (match shapeOk P T a with | true => some (a, H') | false => none)
      | none => none)
    | _, _ => none)
  | .builtin .append => (match c.argTypes.toList, c.args.toList with
    | [U, U'], [s, x] => (match Nat.beq U U', aev E s, aev E x with
      | true, some a, some b => (match aApp P W U a b H with
        | some (v, H') => (match shapeOk P T v with | true => some (v, H') | false => none)
        | none => none)
      | _, _, _ => none)
    | _, _ => none)
  | .builtin b => (match aevL E c.args.toList with
    | some as => (match aMin P b c.argTypes T as with
      | some a => (match shapeOk P T a with | true => some (a, H) | false => none)
      | none => none)
    | none => none)
  | .invoke _ _ => none

theorem aMin_ok {b : Builtin} {ats : Array TypeId} {T : TypeId} {as : List A} {a : A} (h : aMin P b ats T as = some a) (r : Nat → Nat × Nat) (w : World) :
    ∃ s, bsem b ats T (concL r as).toArray = some s ∧ b ≠ .len ∧ s.run P w = .ok (a.conc r) w := by
  unfold aMin at h
  split at h
  · rename_i vs hvs
    split at h
    · rename_i v hv; cases h; exact ⟨_, rfl, by simp, by rw [litsOf_ok hvs r]; exact evalPure_run _ hv w⟩
    · cases h
  · rename_i vs hvs
    split at h
    · rename_i v hv; cases h; exact ⟨_, rfl, by simp, by rw [litsOf_ok hvs r]; exact evalPure_run _ hv w⟩
    · cases h
  · cases h

theorem semT_mk {s : Sem Value} {T : TypeId} {a : A} (hs : shapeOk P T a = true) {r : Nat → Nat × Nat} {w w' : World} {K : Value → World → Prop} (hr : s.run P w = .ok (a.conc r) w') (hk : K (a.conc r) w') : semT P (ExTy P T) s w K :=
  semV_mk hr (shapeOk_ex hs r ⟨rfl, hk⟩)

theorem aCall_den {call : Caller} (hc : CallOk P call) {W : Nat → Bool} {o : Oper} {c : Call} (ho : o.op = .call c) {E : AEnv} {H H' : AH} {a : A} (h : aCall P call W o.type c E H = some (a, H')) {as : List A} (hall : aevL E o.op.operands.toList = some as) {r : Nat → Nat × Nat} {w : World} (hR : Rel r H w) (hw : wfE H.n E = true)
    {pan : List PanicEntry → World → Prop} {K : Value → World → Prop} (hk : ∀ r' w', Post W r H w r' H' w' → K (a.conc r') w') : denOp P o (concE r E) pan K w := by
  have hkn := (aevL_ok (r := r) hall).1
  unfold denOp
  rw [hkn]
  simp only [ho]
  obtain ⟨callee, args, ats⟩ := c
  unfold aCall at h
  split at h
  · rename_i f hcal
    dsimp only at hcal
    subst hcal
    dsimp only at h ⊢
    split at h
    · rename_i g first cap as' hf hargs
      split at h
      · rename_i a' H1 hcall
        split at h
        · rename_i hs
          cases h
          have hwc := aev_wf hw hf
          have hwa := aevL_wf hw hargs
          have hwl : wfL H.n (first ++ as' ++ cap) = true := by
            simp only [A.wf] at hwc
            split at hwc
            · rename_i h1; exact wfL_append (wfL_append h1 hwa) hwc
            · cases hwc
          obtain ⟨hb, hcl⟩ := hc W g _ H a H' hcall r w hR hwl
          have hl : (concL r first).toArray.toList ++ args.toList.map (ev (concE r E)) ++ (concL r cap).toArray.toList = concL r (first ++ as' ++ cap) := by
            rw [(aevL_ok (r := r) hargs).2, concL_append, concL_append]
          simp only [(aev_ok hf r).2, A.conc, callV, dynR, hl]
          refine hb _ ?_
          unfold callR
          refine hcl.mono ?_
          rintro e w' ⟨r', rfl, hp⟩
          exact shapeOk_ex hs r' ⟨rfl, hk r' w' hp⟩
        · cases h
      · cases h
    · cases h
  · rename_i hcal
    dsimp only at hcal
    subst hcal
    dsimp only at h ⊢
    split at h
    · rename_i U U' s x hU hx
      split at h
      · rename_i a1 b1 hUU hs hxx
        have hUU := Nat.eq_of_beq_eq_true hUU
        subst hUU
        split at h
        · rename_i v H1 happ
          split at h
          · rename_i hsh
            cases h
            obtain ⟨w', r', hrun, hp⟩ := aApp_ok (ty := o.type) happ hR
            obtain rfl : ats = #[U, U] := by apply Array.ext'; simpa using hU
            have hx2 : (args.toList.map (ev (concE r E))).toArray = #[a1.conc r, b1.conc r] := by rw [hx]; simp [(aev_ok hs r).2, (aev_ok hxx r).2]
            rw [hx2]
            simp only [bsem]
            exact semT_mk hsh hrun (hk r' w' hp)
          · cases h
        · cases h
      · cases h
    · cases h
  · rename_i b hb hcal
    dsimp only at hcal
    subst hcal
    dsimp only at h ⊢
    split at h
    · rename_i as' hargs
      split at h
      · rename_i a' hmin
        split at h
        · rename_i hsh
          cases h
          obtain ⟨s, hs, hne, hrun⟩ := aMin_ok hmin r w
          rw [(aevL_ok (r := r) hargs).2, hs]
          have fin := semT_mk (K := K) hsh hrun (hk r w (Post.refl hR))
          split
          · exact absurd rfl hne
          · exact fin
        · cases h
      · cases h
    · cases h
  · cases h

def isAl : Op → Bool
  | .alloc _ => true
  | .box _ _ => true
  | .makeSlice _ _ _ => true
  | .makeMap _ none => true
  | .buildSlice _ _ _ => true
  | _ => false
def aNew (P : Program) (op : Op) (E : AEnv) (H : AH) : Option (A × AO × AH) :=
  match aAl P E op H.n with
  | some (ob, a) => (match ob.wf H.n, H.push ob with
    | true, some H' => some (a, ob, H')
    | _, _ => none)
  | none => none
def aOp (P : Program) (call : Caller) (W : Nat → Bool) (o : Oper) (E : AEnv) (H : AH) : Option (A × AH) :=
  match o.op with
  | .load T x => (match aev E x with
    | some (.ptr b off) => (match aRead P H T b off with | some a => some (a, H) | none => none)
    | _ => none)
  | .store T x y => (match aev E x, aev E y with
    | some (.ptr b off), some a => (match aStore P W T b off a H with | some H' => some (.lit undef, H') | none => none)
    | _, _ => none)
  | .call c => (match aQ P o E H with
    | some a => some (a, H)
    | none => aCall P call W o.type c E H)
  | .lookup T x i ok => (match aev E x, aev E i with
    | some a, some k => (match aLook P T a k ok H with
      | some v => (match shapeOk P o.type v with | true => some (v, H) | false => none)
      | none => none)
    | _, _ => none)
  | .mapUpdate T m k x => (match aev E m, aev E k, aev E x with
    | some a, some b, some c => (match aUpd P W T a b c H with | some H' => some (.lit undef, H') | none => none)
    | _, _, _ => none)
  | .insert T m k x => (match aev E m, aev E k, aev E x with
    | some a, some b, some c => (match aUpd P W T a b c H with | some H' => some (.lit undef, H') | none => none)
    | _, _, _ => none)
  | op => (match isAl op with
    | true => (match aNew P op E H with | some (a, _, H') => some (a, H') | none => none)
    | false => (match aQ P o E H with | some a => some (a, H) | none => none))

theorem aNew_alloc {op : Op} (hop : isAl op = true) {E : AEnv} {H H' : AH} {a : A} {ob : AO} (h : aNew P op E H = some (a, ob, H')) (r : Nat → Nat × Nat) {K : Obj → (Nat → Value) → Prop}
    (hk : ∀ o ptr, (∀ m, ob.lies r m o) → (∀ k m, ptr k = a.conc (upd r H.n (k, m))) → K o ptr) : H.push ob = some H' ∧ ob.wf H.n = true ∧ allocD P op (concE r E) K := by
  unfold aNew at h
  split at h
  · rename_i ob' a' ha
    split at h
    · rename_i hwf hp
      cases h
      obtain ⟨o, ptr, h1, h2, h3⟩ := aAl_ok ha r
      refine ⟨hp, hwf, ?_⟩
      have hK := hk o ptr h2 h3
      unfold allocD
      cases op <;> simp only [isAl, Bool.false_eq_true] at hop
      case makeSlice T l c =>
        simp only [alF] at h1
        split at h1
        · rename_i e he
          split at h1
          · rename_i i hi
            split at h1
            · rename_i z hz
              split at h1
              · rename_i k1 x k2 y hx hy
                split at h1
                · rename_i hok
                  cases h1
                  simp only [he, hi, hz, hx, hy]
                  exact ⟨hok, hK⟩
                · cases h1
              · cases h1
            · cases h1
          · cases h1
        · cases h1
      all_goals (simp only [h1]; exact hK)
    · cases h
  · cases h

theorem aOp_den {call : Caller} (hc : CallOk P call) {W : Nat → Bool} {o : Oper} {E : AEnv} {H H' : AH} {a : A} (h : aOp P call W o E H = some (a, H')) {as : List A} (hall : aevL E o.op.operands.toList = some as) {r : Nat → Nat × Nat} {w : World} (hR : Rel r H w) (hw : wfE H.n E = true)
    {pan : List PanicEntry → World → Prop} {K : Value → World → Prop} (hk : ∀ r' w', Post W r H w r' H' w' → K (a.conc r') w') : denOp P o (concE r E) pan K w := by
  have hkn := (aevL_ok (r := r) hall).1
  have quiet : aQ P o E H = some a → H = H' → denOp P o (concE r E) pan K w := fun hq he => by
    subst he; exact aQ_den hq hall hR (hk r w (Post.refl hR))
  unfold aOp at h
  split at h
  · rename_i T x ho
    split at h
    · rename_i b off hx
      split at h
      · rename_i a' ha
        cases h
        unfold denOp
        rw [hkn]
        simp only [ho, (aev_ok hx r).2, A.conc, getSome]
        exact aRead_ok hR ha (hk r w (Post.refl hR))
      · cases h
    · cases h
  · rename_i T x y ho
    split at h
    · rename_i b off a' hx hy
      split at h
      · rename_i H1 hs
        cases h
        unfold denOp
        rw [hkn]
        simp only [ho, (aev_ok hx r).2, (aev_ok hy r).2, A.conc, getSome]
        exact aStore_ok hs (aev_wf hw hy) hR fun w' hp => hk r w' hp
      · cases h
    · cases h
  · rename_i c ho
    split at h
    · rename_i a' hq; cases h; exact quiet hq rfl
    · exact aCall_den hc ho h hall hR hw hk
  · rename_i T x i ok ho
    split at h
    · rename_i a' k hx hi
      split at h
      · rename_i v hl
        split at h
        · rename_i hs
          cases h
          unfold denOp
          rw [hkn]
          simp only [ho, (aev_ok hx r).2, (aev_ok hi r).2]
          exact semT_mk hs (aLook_ok hl hR) (hk r w (Post.refl hR))
        · cases h
      · cases h
    · cases h
  · rename_i T m k x ho
    split at h
    · rename_i a' b c' hm hk' hx
      split at h
      · rename_i H1 hu
        cases h
        obtain ⟨w', hrun, hp⟩ := aUpd_ok hu hR
        unfold denOp
        rw [hkn]
        simp only [ho, (aev_ok hm r).2, (aev_ok hk' r).2, (aev_ok hx r).2]
        exact semV_mk hrun (hk r w' hp)
      · cases h
    · cases h
  · rename_i T m k x ho
    split at h
    · rename_i a' b c' hm hk' hx
      split at h
      · rename_i H1 hu
        cases h
        obtain ⟨w', hrun, hp⟩ := aUpd_ok hu hR
        unfold denOp
        rw [hkn]
        simp only [ho, (aev_ok hm r).2, (aev_ok hk' r).2, (aev_ok hx r).2]
        exact semV_mk hrun (hk r w' hp)
      · cases h
    · cases h
  · split at h
    · rename_i hal
      split at h
      · rename_i a' ob H1 hn
        cases h
        obtain ⟨hp, hwf, hd⟩ := aNew_alloc hal hn r (K := fun ob ptr => K (ptr w.heap.size) (w.alloc ob)) fun o ptr h1 h2 => by
          rw [h2 w.heap.size 0]
          refine hk _ _ (Post.alloc hR ?_ ?_ (Nat.le_refl _) (heap_alloc_at w o) (h1 0) (Grow.alloc w o))
          · unfold aNew at hn
            split at hn
            · split at hn
              · rename_i hp; cases hn; exact hp
              · cases hn
            · cases hn
          · unfold aNew at hn
            split at hn
            · split at hn
              · rename_i hwf _; cases hn; exact hwf
              · cases hn
            · cases hn
        unfold denOp
        rw [hkn]
        obtain ⟨dst, op, type, pos, after, guard⟩ := o
        cases op <;> simp only [isAl, Bool.false_eq_true] at hal <;> first | exact hd | skip
        rename Option Operand => rr
        cases rr with
        | none => exact hd
        | some rr => simp at hal
      · cases h
    · split at h
      · rename_i a' hq; cases h; exact quiet hq rfl
      · cases h
end
end Go.Den
