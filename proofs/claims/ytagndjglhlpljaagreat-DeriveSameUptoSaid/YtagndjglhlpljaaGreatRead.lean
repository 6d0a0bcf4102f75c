/-
  Rows in memory that read as lists, and how a denotation's words are met by them. Own work. It is generic: no program is named.
-/
import Derived.Test.YtagndjglhlpljaaGreatSem
namespace Go.Den
open Go.RowKit (Below)

theorem Grow.block {w w' : World} (h : Grow w w') {k : Nat} {o : Obj} (hk : w.heap[k]? = some o) : w'.heap[k]? = some o := by
  have hlt : k < w.heap.size := (Array.getElem?_eq_some_iff.1 hk).1
  exact (Below.block h k hlt).trans hk
theorem Grow.drew {a w : World} (h : Grow a w) : Grow a w.drew := Below.drew h
theorem Grow.size_le {w w' : World} (h : Grow w w') : w.heap.size ≤ w'.heap.size := h.size

/-! ### br -/
theorem br_mk {c : Bool} {A B : Prop} (ha : c = true → A) (hb : c = false → B) : br c A B := by cases c with | true => exact ha rfl | false => exact hb rfl
theorem br_dec {p : Prop} [Decidable p] {A B : Prop} (ha : p → A) (hb : ¬ p → B) : br (decide p) A B := br_mk (fun h => ha (of_decide_eq_true h)) (fun h => hb (of_decide_eq_false h))
theorem br_beq {x y : Int} {A B : Prop} (ha : x = y → A) (hb : x ≠ y → B) : br (x == y) A B := br_mk (fun h => ha (by simpa using h)) (fun h => hb (by simpa using h))
theorem br_bne {x y : Int} {A B : Prop} (ha : x ≠ y → A) (hb : x = y → B) : br (x != y) A B := br_mk (fun h => ha (by simpa using h)) (fun h => hb (by simpa using h))
theorem br_not {b : Bool} {A B : Prop} (ha : b = false → A) (hb : b = true → B) : br (!b) A B := br_mk (fun h => ha (by simpa using h)) (fun h => hb (by simpa using h))

theorem wrap_id {x : Int} (h0 : -9223372036854775808 ≤ x) (h1 : x ≤ 9223372036854775807) : IntKind.wrap .i64 x = x := by
  show (let m := x % (2 ^ 64 : Int); if (true && decide (m ≥ (2 ^ 63 : Int))) = true then m - (2 ^ 64 : Int) else m) = x
  simp only [Bool.true_and, decide_eq_true_eq]
  split <;> omega

/-! ### Calls -/
theorem callR_mk {P : Program} {g : FuncId} {args : List Value} {w : World} {pan : List PanicEntry → World → Prop} {K : Value → World → Prop} {v : Value}
    (h : Calls P g args.toArray w fun e w' => e = .returned v ∧ Grow w w') (hk : ∀ w', Grow w w' → K v w') : callR P g args w pan K :=
  Calls.mono h fun e w' ⟨he, hg⟩ => by subst he; exact hk w' hg
theorem callR_post {P : Program} {g : FuncId} {args : List Value} {w : World} {pan : List PanicEntry → World → Prop} {K : Value → World → Prop} {R : Ending → World → Prop}
    (h : Calls P g args.toArray w R) (hk : ∀ e w', R e w' → ∃ v, e = .returned v ∧ K v w') : callR P g args w pan K :=
  Calls.mono h fun e w' hr => by obtain ⟨v, rfl, h⟩ := hk e w' hr; exact h

/-! ### Kinds of what lies in cells -/
structure Kd (α : Type) where
  sz : Nat
  pos : 0 < sz
  dflt : α
  rep : World → List Value → α → Prop
  len : ∀ w cs x, rep w cs x → cs.length = sz
  mono : ∀ w w' cs x, Grow w w' → rep w cs x → rep w' cs x

/-- A slice reads as a list. -/
structure Rows {α : Type} (K : Kd α) (w : World) (s : Sl) (xs : List α) : Prop where
  len : s.n = xs.length
  cap : s.n ≤ s.c
  small : xs.length < 4611686018427387904
  cells : 0 < xs.length → ∃ ad, s.a = some ad ∧ ∀ j (h : j < xs.length), ∃ cs, K.rep w cs xs[j] ∧ ∀ i c, cs[i]? = some c → w.cell? ((ad.add (j * K.sz)).add i) = some c

section
variable {α : Type} {K : Kd α} {w w' : World} {s : Sl} {xs : List α}
theorem Rows.mono (h : Rows K w s xs) (hg : Grow w w') : Rows K w' s xs :=
  ⟨h.len, h.cap, h.small, fun hp => by
    obtain ⟨ad, ha, hc⟩ := h.cells hp
    refine ⟨ad, ha, fun j hj => ?_⟩
    obtain ⟨cs, hr, hcs⟩ := hc j hj
    exact ⟨cs, K.mono _ _ _ _ hg hr, fun i c hi => hg.cell (hcs i c hi)⟩⟩
theorem Rows.nil {c : Nat} {a : Option Addr} : Rows K w ⟨a, 0, c⟩ [] := ⟨rfl, Nat.zero_le _, by simp, fun h => absurd h (by simp)⟩

/-- an element is looked for -/
theorem Rows.ix (h : Rows K w s xs) {i : Int} {n : Nat} (hn : n = K.sz) (h0 : 0 ≤ i) (h1 : i < xs.length) {Q : Addr → Prop}
    (hq : ∀ ad cs, K.rep w cs (xs.getD i.toNat K.dflt) → (∀ j c, cs[j]? = some c → w.cell? (ad.add j) = some c) → Q ad) : ix s.a s.n i n Q := by
  subst hn
  have hlt : i.toNat < xs.length := by omega
  obtain ⟨ad, ha, hc⟩ := h.cells (by omega)
  refine ⟨h0, by rw [h.len]; exact h1, ?_⟩
  rw [ha]
  obtain ⟨cs, hr, hcs⟩ := hc i.toNat hlt
  refine hq _ cs ?_ hcs
  rw [List.getD_eq_getElem?_getD, List.getElem?_eq_getElem hlt]
  exact hr
end

def kInt : Kd Int := ⟨1, by decide, 0, fun _ cs x => cs = [.int .i64 x], fun _ _ _ h => by rw [h]; rfl, fun _ _ _ _ _ h => h⟩
def kBool : Kd Bool := ⟨1, by decide, false, fun _ cs x => cs = [.bool x], fun _ _ _ h => by rw [h]; rfl, fun _ _ _ _ _ h => h⟩
def kU8 : Kd Int := ⟨1, by decide, 0, fun _ cs x => cs = [.int .u8 x], fun _ _ _ h => by rw [h]; rfl, fun _ _ _ _ _ h => h⟩
def kRows {α : Type} (K : Kd α) : Kd (List α) :=
  ⟨1, by decide, [], fun w cs xs => ∃ s : Sl, cs = [.slice s.a s.n s.c] ∧ Rows K w s xs, fun _ _ _ h => by obtain ⟨s, rfl, _⟩ := h; rfl,
   fun _ _ _ _ hg h => by obtain ⟨s, hs, hr⟩ := h; exact ⟨s, hs, hr.mono hg⟩⟩
abbrev Ints := Rows kInt
abbrev IntLists := Rows (kRows kInt)

theorem Rows.ldI {w : World} {s : Sl} {l : List Int} (h : Ints w s l) {i : Int} (h0 : 0 ≤ i) (h1 : i < l.length) {Q : Int → Prop} (hq : Q (l.getD i.toNat 0)) :
    Den.ix s.a s.n i 1 fun a => Den.ldI .i64 w a Q :=
  h.ix rfl h0 h1 fun ad cs hr hc => ⟨_, hc 0 _ (by rw [hr]; rfl), hq⟩
theorem Rows.ldS {α : Type} {K : Kd α} {w : World} {s : Sl} {l : List (List α)} (h : Rows (kRows K) w s l) {i : Int} (h0 : 0 ≤ i) (h1 : i < l.length) {Q : Sl → Prop}
    (hq : ∀ t, Rows K w t (l.getD i.toNat []) → Q t) : Den.ix s.a s.n i 1 fun a => Den.ldS w a Q :=
  h.ix rfl h0 h1 fun ad cs hr hc => by obtain ⟨t, ht, hr⟩ := hr; exact ⟨t, hc 0 _ (by rw [ht]; rfl), hq t hr⟩

/-! ### A block that is known -/
theorem cell_of_block {w : World} {n : Nat} {cs : Array Value} {T : TypeId} {fz : Nat × Nat} (h : w.heap[n]? = some (.cells cs T fz)) {i : Nat} {v : Value} (hv : cs[i]? = some v) : w.cell? ⟨n, i, none⟩ = some v := by
  simp [World.cell?, h, hv]
theorem free_of_block {w : World} {n : Nat} {cs : Array Value} {T : TypeId} (h : w.heap[n]? = some (.cells cs T)) {i : Nat} : w.frozen? ⟨n, i, none⟩ = false := by
  simp [World.frozen?, h]
theorem block_alloc (w : World) (o : Obj) : (w.alloc o).heap[w.heap.size]? = some o := by show (w.heap.push o)[w.heap.size]? = some o; simp
/-- a new block is met: its number, what it holds, that all else stands -/
theorem nw_mk {o : Obj} {w : World} {K : Nat → World → Prop} (h : ∀ n w', n = w.heap.size → w'.heap[n]? = some o → Grow w w' → w'.heap.size = w.heap.size + 1 → K n w') : nw o w K :=
  h _ _ rfl (block_alloc w o) (Grow.alloc w o) (by simp)
end Go.Den
