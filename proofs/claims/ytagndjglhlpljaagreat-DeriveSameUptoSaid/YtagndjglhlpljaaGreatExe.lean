/-
  A verified executor, part 1: values whose addresses are numbers of blocks in a list of blocks of one's own; how they lie in a world. Own work. It is generic: no program is named.
-/
import Derived.Test.YtagndjglhlpljaaGreatDen
namespace Go.Den
open Go.RowKit (Below)

/-- a slice's capacity: known; or the block's own (which an append has drawn) less so many -/
inductive Cp where
  | known (c : Nat)
  | less (k : Nat)
def Cp.conc (m : Nat) : Cp → Nat
  | .known c => c
  | .less k => m - k
/-- a value; 'lit': as it is -/
inductive A where
  | lit (v : Value)
  | ptr (b off : Nat)
  | sl (b off n : Nat) (c : Cp)
  | mp (b : Nat)
  | clo (fn : Fn) (first cap : List A)
  | agg (l : List A)
  | tup (l : List A)
  | yld (b : Nat)
mutual
def A.conc (r : Nat → Nat × Nat) : A → Value
  | .lit v => v
  | .ptr b off => .pointer (some ⟨(r b).1, off, none⟩)
  | .sl b off n c => .slice (some ⟨(r b).1, off, none⟩) n (c.conc (r b).2)
  | .mp b => .map (some (r b).1)
  | .clo fn f c => .func fn (concL r f).toArray (concL r c).toArray
  | .agg l => .agg (concL r l).toArray
  | .tup l => .tuple (concL r l).toArray
  | .yld b => .func (.yield (r b).1) #[] #[]
def concL (r : Nat → Nat × Nat) : List A → List Value
  | [] => []
  | a :: l => a.conc r :: concL r l
end
mutual
def A.wf (n : Nat) : A → Bool
  | .lit _ => true
  | .ptr b _ => Nat.blt b n
  | .sl b _ _ _ => Nat.blt b n
  | .mp b => Nat.blt b n
  | .clo _ f c => match wfL n f with | true => wfL n c | false => false
  | .agg l => wfL n l
  | .tup l => wfL n l
  | .yld b => Nat.blt b n
def wfL (n : Nat) : List A → Bool
  | [] => true
  | a :: l => match a.wf n with | true => wfL n l | false => false
end

theorem concL_map (r : Nat → Nat × Nat) (l : List A) : concL r l = l.map (A.conc r) := by
  induction l with
  | nil => rfl
  | cons a l ih => simp [concL, ih]
theorem wfL_cons {n : Nat} {a : A} {l : List A} : wfL n (a :: l) = true ↔ a.wf n = true ∧ wfL n l = true := by
  rw [wfL]; cases a.wf n <;> simp
theorem wfL_iff {n : Nat} {l : List A} : wfL n l = true ↔ ∀ a ∈ l, a.wf n = true := by
  induction l with
  | nil => simp [wfL]
  | cons a l ih => rw [wfL_cons, ih]; simp

mutual
theorem A.conc_congr {r r' : Nat → Nat × Nat} {n : Nat} (h : ∀ i, i < n → r' i = r i) : ∀ a : A, a.wf n = true → a.conc r' = a.conc r
  | .lit v, _ => rfl
  | .ptr b off, hw => by simp only [A.wf] at hw; simp only [A.conc, h b (by simpa [Nat.blt_eq] using hw)]
  | .sl b off m c, hw => by simp only [A.wf] at hw; simp only [A.conc, h b (by simpa [Nat.blt_eq] using hw)]
  | .mp b, hw => by simp only [A.wf] at hw; simp only [A.conc, h b (by simpa [Nat.blt_eq] using hw)]
  | .clo fn f c, hw => by
    simp only [A.wf] at hw
    split at hw
    · rename_i h1
      simp only [A.conc, concL_congr h f h1, concL_congr h c hw]
    · cases hw
  | .agg l, hw => by simp only [A.wf] at hw; simp only [A.conc, concL_congr h l hw]
  | .tup l, hw => by simp only [A.wf] at hw; simp only [A.conc, concL_congr h l hw]
  | .yld b, hw => by simp only [A.wf] at hw; simp only [A.conc, h b (by simpa [Nat.blt_eq] using hw)]
theorem concL_congr {r r' : Nat → Nat × Nat} {n : Nat} (h : ∀ i, i < n → r' i = r i) : ∀ l : List A, wfL n l = true → concL r' l = concL r l
  | [], _ => rfl
  | a :: l, hw => by
    have hw := wfL_cons.1 hw
    simp only [concL, A.conc_congr h a hw.1, concL_congr h l hw.2]
end
mutual
theorem A.wf_mono {n m : Nat} (h : n ≤ m) : ∀ a : A, a.wf n = true → a.wf m = true
  | .lit v, _ => rfl
  | .ptr b off, hw => by simp only [A.wf, Nat.blt_eq] at *; omega
  | .sl b off _ c, hw => by simp only [A.wf, Nat.blt_eq] at *; omega
  | .mp b, hw => by simp only [A.wf, Nat.blt_eq] at *; omega
  | .clo fn f c, hw => by
    simp only [A.wf] at hw ⊢
    split at hw
    · rename_i h1
      simp only [wfL_mono h f h1, wfL_mono h c hw]
    · cases hw
  | .agg l, hw => by simp only [A.wf] at *; exact wfL_mono h l hw
  | .tup l, hw => by simp only [A.wf] at *; exact wfL_mono h l hw
  | .yld b, hw => by simp only [A.wf, Nat.blt_eq] at *; omega
theorem wfL_mono {n m : Nat} (h : n ≤ m) : ∀ l : List A, wfL n l = true → wfL m l = true
  | [], _ => rfl
  | a :: l, hw => by
    have hw := wfL_cons.1 hw
    exact wfL_cons.2 ⟨A.wf_mono h a hw.1, wfL_mono h l hw.2⟩
end

/-! ### Blocks -/
/-- 'open_': of elements of this size; more may lie behind what is known -/
inductive AO where
  | cells (l : List A) (T : TypeId) (open_ : Option Nat)
  | map (es : Array MapEntry) (clock : Nat)
/-- how a block lies -/
def AO.lies (r : Nat → Nat × Nat) (m : Nat) : AO → Obj → Prop
  | .cells l T none, ob => ob = .cells (concL r l).toArray T
  | .cells l T (some sz), ob => ∃ rest : List Value, ob = .cells (concL r l ++ rest).toArray T ∧ (concL r l ++ rest).length = m * sz
  | .map es c, ob => ob = .map es c
def AO.wf (n : Nat) : AO → Bool
  | .cells l _ _ => wfL n l
  | .map _ _ => true
theorem AO.lies_congr {r r' : Nat → Nat × Nat} {n m : Nat} (h : ∀ i, i < n → r' i = r i) {o : AO} {ob : Obj} (hw : o.wf n = true) : o.lies r' m ob ↔ o.lies r m ob := by
  cases o with
  | cells l T p => cases p <;> simp only [AO.lies, concL_congr h l hw]
  | map es c => rfl
theorem AO.wf_mono {n m : Nat} (h : n ≤ m) {o : AO} (hw : o.wf n = true) : o.wf m = true := by
  cases o with
  | cells l T => exact wfL_mono h l hw
  | map es c => rfl

inductive Tr where
  | e
  | n (l : Tr) (v : Option AO) (r : Tr)
def Tr.get : Tr → Nat → Option AO
  | .e, _ => none
  | .n l v r, i => match Nat.beq i 0, Nat.beq (i % 2) 1 with
    | true, _ => v
    | false, true => l.get ((i - 1) / 2)
    | false, false => r.get ((i - 1) / 2)
def Tr.put : Nat → Tr → Nat → Option AO → Option Tr
  | 0, _, _, _ => none
  | f + 1, .e, i, o => (match Nat.beq i 0, Nat.beq (i % 2) 1 with
    | true, _ => some (.n .e o .e)
    | false, true => (match Tr.put f .e ((i - 1) / 2) o with | some t => some (.n t none .e) | none => none)
    | false, false => (match Tr.put f .e ((i - 1) / 2) o with | some t => some (.n .e none t) | none => none))
  | f + 1, .n l v r, i, o => (match Nat.beq i 0, Nat.beq (i % 2) 1 with
    | true, _ => some (.n l o r)
    | false, true => (match Tr.put f l ((i - 1) / 2) o with | some t => some (.n t v r) | none => none)
    | false, false => (match Tr.put f r ((i - 1) / 2) o with | some t => some (.n l v t) | none => none))

theorem Tr.get_n (l r : Tr) (v : Option AO) (i : Nat) : (Tr.n l v r).get i = if i = 0 then v else if i % 2 = 1 then l.get ((i - 1) / 2) else r.get ((i - 1) / 2) := by
  simp only [Tr.get]
  by_cases h0 : i = 0
  · subst h0; rfl
  · have hb : Nat.beq i 0 = false := by cases h : Nat.beq i 0 with | true => exact absurd (Nat.eq_of_beq_eq_true h) h0 | false => rfl
    rw [hb, if_neg h0]
    by_cases h1 : i % 2 = 1
    · rw [h1, if_pos rfl]
    · have hb1 : Nat.beq (i % 2) 1 = false := by cases h : Nat.beq (i % 2) 1 with | true => exact absurd (Nat.eq_of_beq_eq_true h) h1 | false => rfl
      rw [hb1, if_neg h1]
def Tr.set (f : Nat) (t : Tr) (i : Nat) (o : AO) : Option Tr := Tr.put f t i (some o)
def Tr.cut (f : Nat) (t : Tr) (i : Nat) : Option Tr := Tr.put f t i none
theorem Tr.get_put : ∀ {f : Nat} {t : Tr} {i : Nat} {o : Option AO} {t' : Tr}, Tr.put f t i o = some t' → ∀ j, t'.get j = if j = i then o else t.get j := by
  have key : ∀ {i j : Nat}, i ≠ 0 → j ≠ 0 → i % 2 = j % 2 → ((j - 1) / 2 = (i - 1) / 2 ↔ j = i) := fun h1 h2 h3 => by omega
  intro f
  induction f with
  | zero => intro t i o t' h; cases h
  | succ f ih =>
    intro t i o t' h j
    have parts : ∀ (l r : Tr) (v : Option AO), (match Nat.beq i 0, Nat.beq (i % 2) 1 with
        | true, _ => some (.n l o r)
        | false, true => (match Tr.put f l ((i - 1) / 2) o with | some t => some (.n t v r) | none => none)
        | false, false => (match Tr.put f r ((i - 1) / 2) o with | some t => some (.n l v t) | none => none)) = some t' → t'.get j = if j = i then o else (Tr.n l v r).get j := by
      clear h
      intro l r v h
      split at h
      · rename_i h0
        have h0 : i = 0 := Nat.eq_of_beq_eq_true h0
        subst h0
        cases h
        rw [Tr.get_n, Tr.get_n]
        split <;> rfl
      · rename_i h0 h1
        have h1 : i % 2 = 1 := Nat.eq_of_beq_eq_true h1
        split at h
        · rename_i t hs
          cases h
          rw [Tr.get_n, Tr.get_n, ih hs]
          by_cases hj0 : j = 0
          · subst hj0; rw [if_pos rfl, if_neg (by omega), if_pos rfl]
          · rw [if_neg hj0]
            by_cases hj1 : j % 2 = 1
            · rw [if_pos hj1, if_neg hj0, if_pos hj1]
              by_cases hji : j = i
              · subst hji; simp
              · rw [if_neg hji, if_neg (fun hc => hji ((key (by omega) hj0 (by omega)).1 hc))]
            · rw [if_neg hj1, if_neg hj0, if_neg hj1, if_neg (by intro hc; subst hc; exact hj1 h1)]
        · cases h
      · rename_i h0 h1
        have h0 : i ≠ 0 := fun hc => by subst hc; cases h0
        have h1 : ¬ i % 2 = 1 := fun hc => by rw [hc] at h1; cases h1
        split at h
        · rename_i t hs
          cases h
          rw [Tr.get_n, Tr.get_n, ih hs]
          by_cases hj0 : j = 0
          · subst hj0; rw [if_pos rfl, if_neg (by omega), if_pos rfl]
          · rw [if_neg hj0]
            by_cases hj1 : j % 2 = 1
            · rw [if_pos hj1, if_neg hj0, if_pos hj1, if_neg (by intro hc; subst hc; exact h1 hj1)]
            · rw [if_neg hj1, if_neg hj0, if_neg hj1]
              by_cases hji : j = i
              · subst hji; simp
              · rw [if_neg hji, if_neg (fun hc => hji ((key h0 hj0 (by omega)).1 hc))]
        · cases h
    cases t with
    | n l v r => exact parts l r v h
    | e =>
      have he : ∀ k, (Tr.n .e none .e).get k = Tr.e.get k := fun k => by rw [Tr.get_n]; simp [Tr.get]
      rw [← he j]
      exact parts .e .e none h

theorem Tr.get_set {f : Nat} {t : Tr} {i : Nat} {o : AO} {t' : Tr} (h : Tr.set f t i o = some t') : ∀ j, t'.get j = if j = i then some o else t.get j := Tr.get_put h

structure AH where
  n : Nat
  t : Tr
def AH.get (H : AH) (i : Nat) : Option AO := match Nat.blt i H.n with | true => H.t.get i | false => none
def AH.set (H : AH) (i : Nat) (o : AO) : Option AH := match Nat.blt i H.n, H.t.set 64 i o with | true, some t => some ⟨H.n, t⟩ | _, _ => none
def AH.push (H : AH) (o : AO) : Option AH := match H.t.set 64 H.n o with | some t => some ⟨H.n + 1, t⟩ | none => none

theorem AH.get_lt {H : AH} {i : Nat} {o : AO} (h : H.get i = some o) : i < H.n := by
  unfold AH.get at h
  split at h
  · rename_i hb; simpa [Nat.blt_eq] using hb
  · cases h
theorem AH.get_eq {H : AH} {i : Nat} (h : i < H.n) : H.get i = H.t.get i := by
  unfold AH.get
  rw [show Nat.blt i H.n = true by simpa [Nat.blt_eq] using h]
theorem AH.set_spec {H H' : AH} {i : Nat} {o : AO} (h : H.set i o = some H') : H'.n = H.n ∧ i < H.n ∧ ∀ j, H'.get j = if j = i then some o else H.get j := by
  unfold AH.set at h
  split at h
  · rename_i t hb hs
    cases h
    have hi : i < H.n := by simpa [Nat.blt_eq] using hb
    refine ⟨rfl, hi, fun j => ?_⟩
    by_cases hj : j < H.n
    · rw [AH.get_eq (H := ⟨H.n, t⟩) hj, AH.get_eq (H := H) hj]; exact Tr.get_set hs j
    · have h1 : ∀ X : AH, X.n = H.n → X.get j = none := fun X hX => by
        cases hg : X.get j with
        | none => rfl
        | some o => exact absurd (hX ▸ AH.get_lt hg) hj
      rw [h1 ⟨H.n, t⟩ rfl, h1 H rfl, if_neg (by omega)]
  · cases h
theorem AH.push_spec {H H' : AH} {o : AO} (h : H.push o = some H') : H'.n = H.n + 1 ∧ ∀ j, H'.get j = if j = H.n then some o else H.get j := by
  unfold AH.push at h
  split at h
  · rename_i t hs
    cases h
    refine ⟨rfl, fun j => ?_⟩
    by_cases hj : j < H.n + 1
    · rw [AH.get_eq (H := ⟨H.n + 1, t⟩) hj, Tr.get_set hs]
      by_cases hji : j = H.n
      · rw [if_pos hji, if_pos hji]
      · rw [if_neg hji, if_neg hji, AH.get_eq (by omega)]
    · have h1 : ∀ X : AH, X.n ≤ H.n + 1 → X.get j = none := fun X hX => by
        cases hg : X.get j with
        | none => rfl
        | some o => have := AH.get_lt hg; omega
      rw [h1 ⟨H.n + 1, t⟩ (Nat.le_refl _), h1 H (by omega), if_neg (by omega)]
  · cases h

def AH.del (H : AH) (i : Nat) : Option AH := match Nat.blt i H.n, H.t.cut 64 i with | true, some t => some ⟨H.n, t⟩ | _, _ => none
theorem AH.del_spec {H H' : AH} {i : Nat} (h : H.del i = some H') : H'.n = H.n ∧ ∀ j, H'.get j = if j = i then none else H.get j := by
  unfold AH.del at h
  split at h
  · rename_i t hb hs
    cases h
    refine ⟨rfl, fun j => ?_⟩
    by_cases hj : j < H.n
    · rw [AH.get_eq (H := ⟨H.n, t⟩) hj, AH.get_eq (H := H) hj]; exact Tr.get_put hs j
    · have h1 : ∀ X : AH, X.n = H.n → X.get j = none := fun X hX => by
        cases hg : X.get j with
        | none => rfl
        | some o => exact absurd (hX ▸ AH.get_lt hg) hj
      rw [h1 ⟨H.n, t⟩ rfl, h1 H rfl]; split <;> rfl
  · cases h

/-! ### How they lie in a world -/
structure Rel (r : Nat → Nat × Nat) (H : AH) (w : World) : Prop where
  at_ : ∀ i o, H.get i = some o → ∃ ob, w.heap[(r i).1]? = some ob ∧ o.lies r (r i).2 ob
  inj : ∀ i j o o', H.get i = some o → H.get j = some o' → (r i).1 = (r j).1 → i = j
  lt : ∀ i, i < H.n → (r i).1 < w.heap.size
  wf : ∀ i o, H.get i = some o → o.wf H.n = true

structure Post (W : Nat → Bool) (r : Nat → Nat × Nat) (H : AH) (w : World) (r' : Nat → Nat × Nat) (H' : AH) (w' : World) : Prop where
  ext : ∀ i, i < H.n → r' i = r i
  le : H.n ≤ H'.n
  fresh : ∀ i, H.n ≤ i → i < H'.n → w.heap.size ≤ (r' i).1 ∨ ∃ j, W j = true ∧ j < H.n ∧ (r j).1 = (r' i).1
  rel : Rel r' H' w'
  os : w'.os = w.os
  tape : w'.tape = w.tape
  output : w'.output = w.output
  size : w.heap.size ≤ w'.heap.size
  keep : ∀ b, b < w.heap.size → (∀ i, W i = true → i < H.n → (r i).1 ≠ b) → w'.heap[b]? = w.heap[b]?

theorem Post.refl {W : Nat → Bool} {r : Nat → Nat × Nat} {H : AH} {w : World} (h : Rel r H w) : Post W r H w r H w :=
  ⟨fun _ _ => rfl, Nat.le_refl _, fun i h1 h2 => by omega, h, rfl, rfl, rfl, Nat.le_refl _, fun _ _ _ => rfl⟩
theorem Post.trans {W : Nat → Bool} {r r1 r2 : Nat → Nat × Nat} {H H1 H2 : AH} {w w1 w2 : World} (h : Post W r H w r1 H1 w1) (k : Post W r1 H1 w1 r2 H2 w2) : Post W r H w r2 H2 w2 := by
  refine ⟨fun i hi => (k.ext i (Nat.lt_of_lt_of_le hi h.le)).trans (h.ext i hi), Nat.le_trans h.le k.le, fun i h1 h2 => ?_, k.rel, k.os.trans h.os, k.tape.trans h.tape, k.output.trans h.output, Nat.le_trans h.size k.size, fun b hb hk => ?_⟩
  · by_cases hi : i < H1.n
    · rw [k.ext i hi]; exact h.fresh i h1 hi
    · rcases k.fresh i (by omega) h2 with hf | ⟨j, hj1, hj2, hj3⟩
      · exact .inl (Nat.le_trans h.size hf)
      · by_cases hj : j < H.n
        · exact .inr ⟨j, hj1, hj, by rw [← h.ext j hj]; exact hj3⟩
        · rw [← hj3]; exact h.fresh j (by omega) hj2
  · refine (k.keep b (Nat.lt_of_lt_of_le hb h.size) fun i h1 h2 => ?_).trans (h.keep b hb hk)
    by_cases hi : i < H.n
    · rw [h.ext i hi]; exact hk i h1 hi
    · rcases h.fresh i (by omega) h2 with hf | ⟨j, hj1, hj2, hj3⟩
      · omega
      · rw [← hj3]; exact hk j hj1 hj2
theorem Rel.grow {r : Nat → Nat × Nat} {H : AH} {w w' : World} (h : Rel r H w) (g : Grow w w') : Rel r H w' :=
  ⟨fun i o hi => by obtain ⟨ob, h1, h2⟩ := h.at_ i o hi; exact ⟨ob, g.heap h1, h2⟩, h.inj, fun i hi => Nat.lt_of_lt_of_le (h.lt i hi) g.size, h.wf⟩
theorem Post.grow {W : Nat → Bool} {r : Nat → Nat × Nat} {H : AH} {w w' : World} (h : Rel r H w) (g : Grow w w') : Post W r H w r H w' :=
  ⟨fun _ _ => rfl, Nat.le_refl _, fun i h1 h2 => by omega, h.grow g, g.os, g.tape, g.output, g.size, fun b hb _ => g.block b hb⟩
theorem Post.quiet {r r' : Nat → Nat × Nat} {H H' : AH} {w w' : World} (h : Post (fun i => Nat.ble H.n i) r H w r' H' w') : Grow w w' :=
  ⟨h.os, h.tape, h.output, h.size, fun b hb => h.keep b hb fun i h1 h2 => by have := Nat.le_of_ble_eq_true h1; omega⟩
/-- a block that is no longer looked at -/
theorem Post.del {W : Nat → Bool} {r : Nat → Nat × Nat} {H H' : AH} {w : World} {i : Nat} (h : Rel r H w) (hd : H.del i = some H') : Post W r H w r H' w := by
  obtain ⟨hn, hget⟩ := AH.del_spec hd
  have hsome : ∀ j o, H'.get j = some o → H.get j = some o := fun j o hj => by
    rw [hget] at hj
    split at hj
    · cases hj
    · exact hj
  exact ⟨fun _ _ => rfl, by omega, fun j h1 h2 => by omega, ⟨fun j o hj => h.at_ j o (hsome j o hj), fun a b o o' ha hb => h.inj a b o o' (hsome a o ha) (hsome b o' hb), fun j hj => h.lt j (by omega), fun j o hj => by rw [hn]; exact h.wf j o (hsome j o hj)⟩, rfl, rfl, rfl, Nat.le_refl _, fun _ _ _ => rfl⟩

def upd (r : Nat → Nat × Nat) (i : Nat) (n : Nat × Nat) : Nat → Nat × Nat := fun j => if j = i then n else r j
theorem upd_same (r : Nat → Nat × Nat) (k : Nat) (n : Nat × Nat) : ∀ i, i < k → upd r k n i = r i := fun i hi => by unfold upd; rw [if_neg (by omega)]
theorem upd_new (r : Nat → Nat × Nat) (k : Nat) (n : Nat × Nat) : upd r k n k = n := by unfold upd; rw [if_pos rfl]
/-- one block more: new, or in the place of one that is no longer looked at -/
theorem Post.more {W : Nat → Bool} {r : Nat → Nat × Nat} {H H' : AH} {w w' : World} {o : AO} {ob : Obj} {n m : Nat} (h : Rel r H w) (hp : H.push o = some H') (ho : o.wf H.n = true) (hn : w.heap.size ≤ n ∨ ∃ j, W j = true ∧ j < H.n ∧ (r j).1 = n)
    (hdead : ∀ i o, H.get i = some o → (r i).1 ≠ n) (hat : w'.heap[n]? = some ob) (hlies : o.lies r m ob) (hoth : ∀ b, b < w.heap.size → b ≠ n → w'.heap[b]? = w.heap[b]?) (hos : w'.os = w.os) (ht : w'.tape = w.tape) (hout : w'.output = w.output) (hsz : w.heap.size ≤ w'.heap.size) :
    Post W r H w (upd r H.n (n, m)) H' w' := by
  obtain ⟨hn', hget⟩ := AH.push_spec hp
  have hsame := upd_same r H.n (n, m)
  have hnew := upd_new r H.n (n, m)
  have hold : ∀ i x, H'.get i = some x → i ≠ H.n → H.get i = some x := fun i x hi hne => by rw [hget, if_neg hne] at hi; exact hi
  refine ⟨hsame, by omega, fun i h1 h2 => ?_, ⟨fun i x hi => ?_, fun i j x y hi hj hij => ?_, fun i hi => ?_, fun i x hi => ?_⟩, hos, ht, hout, hsz, fun b hb hk => ?_⟩
  · have : i = H.n := by omega
    subst this; rw [hnew]; exact hn
  · by_cases he : i = H.n
    · subst he
      rw [hget, if_pos rfl] at hi
      cases hi
      rw [hnew]
      exact ⟨ob, hat, (AO.lies_congr hsame ho).2 hlies⟩
    · have hi' := hold i x hi he
      have hlt := AH.get_lt hi'
      obtain ⟨ob', h1, h2⟩ := h.at_ i x hi'
      rw [hsame i hlt]
      exact ⟨ob', (hoth _ (h.lt i hlt) (hdead i x hi')).trans h1, (AO.lies_congr hsame (h.wf i x hi')).2 h2⟩
  · by_cases h1 : i = H.n
    · by_cases h2 : j = H.n
      · omega
      · have hj' := hold j y hj h2
        subst h1; rw [hnew, hsame j (AH.get_lt hj')] at hij; exact absurd hij.symm (hdead j y hj')
    · have hi' := hold i x hi h1
      by_cases h2 : j = H.n
      · subst h2; rw [hnew, hsame i (AH.get_lt hi')] at hij; exact absurd hij (hdead i x hi')
      · have hj' := hold j y hj h2
        rw [hsame i (AH.get_lt hi'), hsame j (AH.get_lt hj')] at hij; exact h.inj i j x y hi' hj' hij
  · by_cases h1 : i = H.n
    · subst h1; rw [hnew]; exact (Array.getElem?_eq_some_iff.1 hat).1
    · rw [hsame i (by omega)]; exact Nat.lt_of_lt_of_le (h.lt i (by omega)) hsz
  · by_cases he : i = H.n
    · subst he; rw [hget, if_pos rfl] at hi; cases hi; exact AO.wf_mono (by omega) ho
    · exact AO.wf_mono (by omega) (h.wf i x (hold i x hi he))
  · refine hoth b hb fun hc => ?_
    subst hc
    rcases hn with hn | ⟨j, h1, h2, h3⟩
    · omega
    · exact hk j h1 h2 h3
/-- a new block, at a number that nothing else has -/
theorem Post.alloc {W : Nat → Bool} {r : Nat → Nat × Nat} {H H' : AH} {w w' : World} {o : AO} {ob : Obj} {n m : Nat} (h : Rel r H w) (hp : H.push o = some H') (ho : o.wf H.n = true) (hn : w.heap.size ≤ n) (hat : w'.heap[n]? = some ob) (hlies : o.lies r m ob) (g : Grow w w') :
    Post W r H w (upd r H.n (n, m)) H' w' :=
  Post.more h hp ho (.inl hn) (fun i o hi => by have := h.lt i (AH.get_lt hi); omega) hat hlies (fun b hb _ => g.block b hb) g.os g.tape g.output g.size
/-- a block is turned -/
theorem Post.turn {W : Nat → Bool} {r : Nat → Nat × Nat} {H H' : AH} {w w' : World} {o o0 : AO} {ob : Obj} {i : Nat} (h : Rel r H w) (h0 : H.get i = some o0) (hs : H.set i o = some H') (hlo : W i = true) (ho : o.wf H.n = true)
    (hat : w'.heap[(r i).1]? = some ob) (hlies : o.lies r (r i).2 ob) (hoth : ∀ b, b ≠ (r i).1 → w'.heap[b]? = w.heap[b]?) (hos : w'.os = w.os) (ht : w'.tape = w.tape) (hout : w'.output = w.output) (hsz : w'.heap.size = w.heap.size) : Post W r H w r H' w' := by
  obtain ⟨hn', hi, hget⟩ := AH.set_spec hs
  have hold : ∀ j x, H'.get j = some x → ∃ y, H.get j = some y := fun j x hj => by
    rw [hget] at hj
    split at hj
    · rename_i he; subst he; exact ⟨_, h0⟩
    · exact ⟨_, hj⟩
  refine ⟨fun _ _ => rfl, by omega, fun j h1 h2 => by omega, ⟨fun j x hj => ?_, fun a b x y ha hb => ?_, fun j hj => by rw [hsz]; exact h.lt j (by omega), fun j x hj => ?_⟩, hos, ht, hout, by omega, fun b hb hk => hoth b fun hc => hk i hlo hi hc.symm⟩
  · rw [hget] at hj
    split at hj
    · rename_i he; subst he; cases hj; exact ⟨ob, hat, hlies⟩
    · rename_i hne
      obtain ⟨ob', h1, h2⟩ := h.at_ j x hj
      exact ⟨ob', (hoth _ fun hc => hne (h.inj _ _ _ _ hj h0 hc)).trans h1, h2⟩
  · obtain ⟨x', hx⟩ := hold a x ha
    obtain ⟨y', hy⟩ := hold b y hb
    exact h.inj a b x' y' hx hy
  · rw [hget] at hj
    rw [hn']
    split at hj
    · cases hj; exact ho
    · exact h.wf j x hj
end Go.Den
