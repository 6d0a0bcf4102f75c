/-
  A verified executor, part 2: frames, reads, addresses, operations on plain values. Own work. It is generic: no program is named.
-/
import Derived.Test.YtagndjglhlpljaaGreatExe
namespace Go.Den
open Go.RowKit (Below)

/-! ### Frames -/
abbrev AEnv := List (Nat × A)
def AEnv.get : AEnv → Nat → Option A
  | [], _ => none
  | (j, v) :: r, i => match Nat.beq i j with
    | true => some v
    | false => AEnv.get r i
def concE (r : Nat → Nat × Nat) : AEnv → Env
  | [] => []
  | (j, v) :: l => (j, v.conc r) :: concE r l
def wfE (n : Nat) : AEnv → Bool
  | [] => true
  | (_, v) :: l => match v.wf n with | true => wfE n l | false => false
theorem wfE_cons {n j : Nat} {a : A} {l : AEnv} : wfE n ((j, a) :: l) = true ↔ a.wf n = true ∧ wfE n l = true := by
  rw [wfE]; cases a.wf n <;> simp
theorem concE_get (r : Nat → Nat × Nat) (E : AEnv) (i : Nat) : (concE r E).get i = (E.get i).map (A.conc r) := by
  induction E with
  | nil => rfl
  | cons p l ih =>
    obtain ⟨j, v⟩ := p
    simp only [concE, Env.get, AEnv.get]
    cases Nat.beq i j with
    | true => rfl
    | false => exact ih
theorem wfE_get {n : Nat} {E : AEnv} (h : wfE n E = true) {i : Nat} {a : A} (hg : E.get i = some a) : a.wf n = true := by
  induction E with
  | nil => simp [AEnv.get] at hg
  | cons p l ih =>
    obtain ⟨j, v⟩ := p
    obtain ⟨h1, h2⟩ := wfE_cons.1 h
    simp only [AEnv.get] at hg
    split at hg
    · cases hg; exact h1
    · exact ih h2 hg
theorem wfE_mono {n m : Nat} (h : n ≤ m) {E : AEnv} (hw : wfE n E = true) : wfE m E = true := by
  induction E with
  | nil => rfl
  | cons p l ih => obtain ⟨h1, h2⟩ := wfE_cons.1 hw; exact wfE_cons.2 ⟨A.wf_mono h _ h1, ih h2⟩
theorem concE_congr {r r' : Nat → Nat × Nat} {n : Nat} (h : ∀ i, i < n → r' i = r i) {E : AEnv} (hw : wfE n E = true) : concE r' E = concE r E := by
  induction E with
  | nil => rfl
  | cons p l ih => obtain ⟨h1, h2⟩ := wfE_cons.1 hw; simp only [concE, A.conc_congr h _ h1, ih h2]

def litL : List Value → List A
  | [] => []
  | v :: l => .lit v :: litL l
def ofV : Value → A
  | .agg cs => .agg (litL cs.toList)
  | .func fn f c => .clo fn (litL f.toList) (litL c.toList)
  | v => .lit v
theorem concL_lit (r : Nat → Nat × Nat) (l : List Value) : concL r (litL l) = l := by
  induction l with
  | nil => rfl
  | cons v l ih => simp only [litL, concL, A.conc, ih]
theorem wfL_lit (n : Nat) (l : List Value) : wfL n (litL l) = true := by
  induction l with
  | nil => rfl
  | cons v l ih => exact wfL_cons.2 ⟨rfl, ih⟩
theorem ofV_conc (r : Nat → Nat × Nat) (v : Value) : (ofV v).conc r = v := by
  cases v <;> simp [ofV, A.conc, concL_lit]
theorem ofV_wf (n : Nat) (v : Value) : (ofV v).wf n = true := by
  cases v <;> simp [ofV, A.wf, wfL_lit]

def aev (E : AEnv) : Operand → Option A
  | .tmp t => E.get t
  | .const v => some (ofV v)
  | .global _ => none
  | .func f => some (.clo (.func f) [] [])
theorem aev_ok {E : AEnv} {x : Operand} {a : A} (h : aev E x = some a) (r : Nat → Nat × Nat) : known (concE r E) x = true ∧ ev (concE r E) x = a.conc r := by
  cases x with
  | tmp t =>
    have h' : (concE r E).get t = some (a.conc r) := by rw [concE_get]; rw [show E.get t = some a from h]; rfl
    exact ⟨by simp [known, h'], by simp [ev, h']⟩
  | const v => cases h; exact ⟨rfl, (ofV_conc r v).symm⟩
  | global g => cases h
  | func f => cases h; exact ⟨rfl, rfl⟩
theorem aev_wf {n : Nat} {E : AEnv} (hw : wfE n E = true) {x : Operand} {a : A} (h : aev E x = some a) : a.wf n = true := by
  cases x with
  | tmp t => exact wfE_get hw h
  | const v => cases h; exact ofV_wf n v
  | global g => cases h
  | func f => cases h; rfl
def aevL (E : AEnv) : List Operand → Option (List A)
  | [] => some []
  | x :: l => match aev E x with
    | some a => (match aevL E l with
      | some as => some (a :: as)
      | none => none)
    | none => none
theorem aevL_ok {E : AEnv} {r : Nat → Nat × Nat} : ∀ {l : List Operand} {as : List A}, aevL E l = some as → allKnown (concE r E) l = true ∧ l.map (ev (concE r E)) = concL r as := by
  intro l
  induction l with
  | nil => intro as h; cases h; exact ⟨rfl, rfl⟩
  | cons x l ih =>
    intro as h
    simp only [aevL] at h
    split at h
    · rename_i a ha
      split at h
      · rename_i as' has
        cases h
        obtain ⟨h1, h2⟩ := ih has
        obtain ⟨h3, h4⟩ := aev_ok ha r
        exact ⟨by simp only [allKnown, h3]; exact h1, by simp only [List.map_cons, concL, h4, h2]⟩
      · cases h
    · cases h
theorem aevL_wf {n : Nat} {E : AEnv} (hw : wfE n E = true) : ∀ {l : List Operand} {as : List A}, aevL E l = some as → wfL n as = true := by
  intro l
  induction l with
  | nil => intro as h; cases h; rfl
  | cons x l ih =>
    intro as h
    simp only [aevL] at h
    split at h
    · rename_i a ha
      split at h
      · rename_i as' has
        cases h
        exact wfL_cons.2 ⟨aev_wf hw ha, ih has⟩
      · cases h
    · cases h

/-! ### Kinds -/
def kOk : CK → A → Bool
  | .int k, .lit (.int k' _) => ikEq k k'
  | .bool, .lit (.bool _) => true
  | .string, .lit (.string _) => true
  | .slice, .lit (.slice _ _ _) => true
  | .slice, .sl _ _ _ _ => true
  | .ptr, .lit (.pointer _) => true
  | .ptr, .ptr _ _ => true
  | .map, .lit (.map _) => true
  | .map, .mp _ => true
  | .func, .lit .nilFunc => true
  | .func, .clo _ _ _ => true
  | _, _ => false
theorem kOk_ex {k : CK} {a : A} (h : kOk k a = true) (r : Nat → Nat × Nat) {p : Value → Prop} (hp : p (a.conc r)) : Ex k p := by
  unfold kOk at h
  split at h
  · obtain rfl := ikEq_eq h; exact ⟨_, hp⟩
  · exact ⟨_, hp⟩
  · exact ⟨_, hp⟩
  · exact ⟨⟨_, _, _⟩, hp⟩
  · exact ⟨⟨_, _, _⟩, hp⟩
  · exact ⟨_, hp⟩
  · exact ⟨_, hp⟩
  · exact ⟨_, hp⟩
  · exact ⟨_, hp⟩
  · exact ⟨.nil, hp⟩
  · exact ⟨.fn ⟨_, _, _⟩, hp⟩
  · cases h
def takeK : List CK → List A → Option (List A)
  | [], _ => some []
  | k :: ks, a :: l => (match kOk k a with
    | true => (match takeK ks l with
      | some as => some (a :: as)
      | none => none)
    | false => none)
  | _ :: _, [] => none

/-! ### Reads -/
theorem Addr.add_mk (b off i : Nat) : (⟨b, off, none⟩ : Addr).add i = ⟨b, off + i, none⟩ := by
  unfold Addr.add
  split
  · subst_vars; rfl
  · rfl
def cellsAt (H : AH) (b : Nat) : Option (List A) := match H.get b with | some (.cells l _ _) => some l | _ => none
theorem cellsAt_ok {r : Nat → Nat × Nat} {H : AH} {w : World} (h : Rel r H w) {b : Nat} {l : List A} (hl : cellsAt H b = some l) {i : Nat} {a : A} (ha : l[i]? = some a) : w.cell? ⟨(r b).1, i, none⟩ = some (a.conc r) := by
  unfold cellsAt at hl
  split at hl
  · rename_i l' T p hg
    cases hl
    obtain ⟨ob, h1, h2⟩ := h.at_ _ _ hg
    have hc : (concL r l)[i]? = some (a.conc r) := by rw [concL_map]; simp [ha]
    have hlt : i < (concL r l).length := (List.getElem?_eq_some_iff.1 hc).1
    cases p with
    | none => simp only [AO.lies] at h2; subst h2; simp [World.cell?, h1, hc]
    | some sz => obtain ⟨rest, rfl, _⟩ := h2; simp [World.cell?, h1, List.getElem?_append_left hlt, hc]
  · cases hl
theorem takeK_rd {r : Nat → Nat × Nat} {H : AH} {w : World} (h : Rel r H w) {b : Nat} {l0 : List A} (hl : cellsAt H b = some l0) {off : Nat} : ∀ {ks : List CK} {l as : List A} {i : Nat} {p : List Value → Prop},
    takeK ks l = some as → (∀ j a, l[j]? = some a → l0[off + i + j]? = some a) → p (concL r as) → RdL w ⟨(r b).1, off, none⟩ i ks p := by
  intro ks
  induction ks with
  | nil => intro l as i p ht _ hp; cases ht; exact hp
  | cons k ks ih =>
    intro l as i p ht hl0 hp
    cases l with
    | nil => cases ht
    | cons a l =>
      simp only [takeK] at ht
      split at ht
      · rename_i hk
        split at ht
        · rename_i as' has
          cases ht
          refine kOk_ex hk r ⟨?_, ?_⟩
          · rw [Addr.add_mk]; exact cellsAt_ok h hl (by simpa using hl0 0 a rfl)
          · exact ih has (fun j a' ha' => by have := hl0 (j + 1) a' (by simpa using ha'); rwa [show off + i + (j + 1) = off + (i + 1) + j by omega] at this) hp
        · cases ht
      · cases ht

def aRead (P : Program) (H : AH) (T : TypeId) (b off : Nat) : Option A :=
  match cellsAt H b with
  | some l => (match isAggB P T with
    | true => (match flat P 8 T with
      | some ks => (match Nat.beq ks.length (P.cellsOf T) with
        | true => (match takeK ks (l.drop off) with
          | some as => some (.agg as)
          | none => none)
        | false => none)
      | none => none)
    | false => (match ckOf P T with
      | some k => (match l[off]? with
        | some a => (match kOk k a with
          | true => some a
          | false => none)
        | none => none)
      | none => none))
  | none => none
theorem aRead_ok {P : Program} {r : Nat → Nat × Nat} {H : AH} {w : World} (h : Rel r H w) {T : TypeId} {b off : Nat} {a : A} (hr : aRead P H T b off = some a) {p : Value → Prop} (hp : p (a.conc r)) : RdV P w T ⟨(r b).1, off, none⟩ p := by
  unfold aRead at hr
  unfold RdV
  split at hr
  · rename_i l hl
    split at hr
    · rename_i hagg
      rw [hagg]
      split at hr
      · rename_i ks hks
        split at hr
        · rename_i hlen
          split at hr
          · rename_i as has
            cases hr
            simp only [hks, hlen]
            exact takeK_rd h hl has (fun j a ha => by simpa using ha) hp
          · cases hr
        · cases hr
      · cases hr
    · rename_i hagg
      rw [hagg]
      split at hr
      · rename_i k hk
        split at hr
        · rename_i a' ha
          split at hr
          · rename_i hok
            cases hr
            simp only [hk]
            exact kOk_ex hok r ⟨cellsAt_ok h hl ha, hp⟩
          · cases hr
        · cases hr
      · cases hr
  · cases hr

/-! ### Addresses -/
def aIx (P : Program) (T : TypeId) (x i : A) : Option A :=
  match P.underlying T with
  | some (.slice e) => (match P.underlying e with
    | some _ => (match x, i with
      | .sl b off n _, .lit (.int _ j) => if 0 ≤ j ∧ j < n then some (.ptr b (off + j.toNat * P.cellsOf e)) else none
      | _, _ => none)
    | none => none)
  | some (.array len e) => (match P.underlying e with
    | some _ => (match x, i with
      | .ptr b off, .lit (.int _ j) => if 0 ≤ j ∧ j < len then some (.ptr b (off + j.toNat * P.cellsOf e)) else none
      | _, _ => none)
    | none => none)
  | _ => none
theorem aIx_ok {P : Program} {T : TypeId} {x i a : A} (h : aIx P T x i = some a) (r : Nat → Nat × Nat) {K : Value → Prop} (hk : K (a.conc r)) : indexAddrD P T (x.conc r) (i.conc r) K := by
  unfold aIx at h
  unfold indexAddrD
  split at h
  · rename_i e he
    rw [he]
    split at h
    · rename_i d hd
      simp only [hd]
      split at h
      · split at h
        · rename_i hj
          cases h
          simp only [A.conc] at hk ⊢
          refine ⟨hj.1, hj.2, ?_⟩
          simp only [getSome, Addr.add_mk]
          exact hk
        · cases h
      · cases h
    · cases h
  · rename_i len e he
    rw [he]
    split at h
    · rename_i d hd
      simp only [hd]
      split at h
      · split at h
        · rename_i hj
          cases h
          simp only [A.conc] at hk ⊢
          refine ⟨hj.1, hj.2, ?_⟩
          simp only [getSome, Addr.add_mk]
          exact hk
        · cases h
      · cases h
    · cases h
  · cases h
end Go.Den
