/-
  Regions that draw their order, with stores, calls and new blocks in them: one order serves every order. Own work. It is generic: no program is named.
  An operation is: quiet (one value in every world that has only grown), quiet in a class S of worlds, an alloc (one block, wherever it lies), or loud (anything; when it comes up, nothing else may).
-/
import Derived.Orders
import Derived.Below
import Derived.Deep.Quiet
namespace Go.Den
open Go.RowKit (Below)

def Grow (w w' : World) : Prop := Below w.heap.size w w'
theorem Grow.refl (w : World) : Grow w w := Below.refl _ _
theorem Grow.trans {a b c : World} (h : Grow a b) (k : Grow b c) : Grow a c := Below.trans h (Below.mono k h.size)
theorem Grow.cell {w w' : World} (h : Grow w w') {ad : Addr} {v : Value} (hc : w.cell? ad = some v) : w'.cell? ad = some v :=
  (Below.cell h (World.block_lt_of_cell? w ad hc)).trans hc
theorem Grow.alloc (w : World) (o : Obj) : Grow w (w.alloc o) := (Below.refl _ _).alloc (Nat.le_refl _) o
theorem heap_alloc_at (w : World) (o : Obj) : (w.alloc o).heap[w.heap.size]? = some o := by show (w.heap.push o)[w.heap.size]? = some o; simp
theorem Grow.heap {w w' : World} (h : Grow w w') {n : Nat} {o : Obj} (hc : w.heap[n]? = some o) : w'.heap[n]? = some o :=
  (h.block n (Array.getElem?_eq_some_iff.1 hc).1).trans hc

inductive Zk where
  | q | s | a | l

structure Zp where
  S : World → Prop
  kd : Nat → Zk
  base : Nat
  al : (Operand → Value) → Oper → Option (Obj × (Nat → Value))

structure ZpOk (P : Program) (z : Zp) : Prop where
  grow : ∀ w w', z.S w → Grow w w' → z.S w'
  congr : ∀ ρ ρ' o, (∀ x ∈ o.op.operands, ρ x = ρ' x) → z.al ρ o = z.al ρ' o
  run : ∀ ρ o ob ptr, z.al ρ o = some (ob, ptr) → ∀ w, (execOp ρ o).run P w = .ok (.value (ptr w.heap.size)) (w.alloc ob)

/-- some world in which the block lies at a number that nothing else has -/
theorem some_world (w : World) (base : Nat) (used : List Nat) (ob : Obj) : ∃ n w', base ≤ n ∧ n ∉ used ∧ w'.heap[n]? = some ob ∧ Grow w w' := by
  have hm : ∀ (l : List Nat), ∃ m, ∀ x ∈ l, x < m := fun l => by
    induction l with
    | nil => exact ⟨0, by simp⟩
    | cons x l ih =>
      obtain ⟨m, hm⟩ := ih
      refine ⟨max m (x + 1), fun y hy => ?_⟩
      rcases List.mem_cons.1 hy with rfl | hy
      · omega
      · have := hm y hy; omega
  obtain ⟨m, hm⟩ := hm used
  refine ⟨w.heap.size + (base + m), { w with heap := w.heap ++ Array.replicate (base + m + 1) ob }, by omega, fun hc => by have := hm _ hc; omega, ?_, ?_⟩
  · show (w.heap ++ Array.replicate (base + m + 1) ob)[w.heap.size + (base + m)]? = some ob
    rw [Array.getElem?_append_right (by omega)]
    simp
  · refine ⟨rfl, rfl, rfl, by simp, fun k hk => ?_⟩
    show (w.heap ++ Array.replicate (base + m + 1) ob)[k]? = _
    rw [Array.getElem?_append_left hk]

section
variable {P : Program} {ops : Array Oper} {z : Zp}

/-- the worlds in which a quiet operation yields its value -/
def Zp.R (z : Zp) (i : Nat) (w : World) : World → Prop := match z.kd i with | .s => z.S | _ => Grow w
/-- the operation yields v in each of these worlds -/
def Yq (P : Program) (ops : Array Oper) (R : World → Prop) (o : Oper) (v : Value) (a : Act) : Prop :=
  (Region.wanted o (yielded ops a.tmps) = true ∧ ∀ w1, R w1 → o.quietAt P a (Grow w1) w1 v) ∨ (Region.wanted o (yielded ops a.tmps) = false ∧ v = undef)
def lOp (P : Program) (ops : Array Oper) (o : Oper) (K : Act → World → Prop) (a : Act) (w : World) : Prop :=
  if Region.wanted o (yielded ops a.tmps) then o.wp P a w K (fun _ _ _ => False) else K (a.put o.dst undef) w

def zDo (P : Program) (ops : Array Oper) (z : Zp) (i : Nat) (o : Oper) (K : List Nat → Act → World → Prop) (used : List Nat) (a : Act) (w : World) : Prop :=
  match z.kd i with
  | .a => o.guard = none ∧ ∃ ob ptr, z.al a.eval o = some (ob, ptr) ∧ ∀ n w', z.base ≤ n → n ∉ used → w'.heap[n]? = some ob → Grow w w' → K (n :: used) (a.put o.dst (ptr n)) w'
  | .l => ∀ w', Grow w w' → lOp P ops o (fun a' w'' => z.S w'' ∧ K used a' w'') a w'
  | .q => ∃ v, Yq P ops (Grow w) o v a ∧ K used (a.put o.dst v) w
  | .s => ∃ v, Yq P ops z.S o v a ∧ K used (a.put o.dst v) w
def zStep (P : Program) (ops : Array Oper) (z : Zp) (i : Nat) (K : List Nat → Act → World → Prop) (used : List Nat) (a : Act) (w : World) : Prop :=
  ∃ o, ops[i]? = some o ∧ zDo P ops z i o K used a w

/-- whatever order is picked from here on -/
def wpZ (P : Program) (ops : Array Oper) (z : Zp) (Q : Act → World → Prop) : Nat → Array Bool → List Nat → Act → World → Prop
  | 0, listed, _, a, w => Region.ready .any ops listed = [] ∧ ∀ w', Grow w w' → Q a w'
  | f + 1, listed, used, a, w =>
    (Region.ready .any ops listed = [] → ∀ w', Grow w w' → Q a w') ∧
    ∀ i ∈ Region.ready .any ops listed, zStep P ops z i (fun u a' w' => wpZ P ops z Q f (listed.setIfInBounds i true) u a' w') used a w

theorem lOp_mono {o : Oper} {K K' : Act → World → Prop} {a : Act} {w : World} (hk : ∀ a w, K a w → K' a w) (h : lOp P ops o K a w) : lOp P ops o K' a w := by
  unfold lOp at *
  split
  · rename_i hw; rw [if_pos hw] at h; exact Oper.wp_mono hk h
  · rename_i hw; rw [if_neg hw] at h; exact hk _ _ h
theorem Yq.mono {R R' : World → Prop} {o : Oper} {v : Value} {a : Act} (hr : ∀ w, R' w → R w) (h : Yq P ops R o v a) : Yq P ops R' o v a :=
  h.imp (fun h => ⟨h.1, fun w1 h1 => h.2 w1 (hr w1 h1)⟩) id
theorem Yq.of_same {R : World → Prop} {o : Oper} {v : Value} {a a' : Act} (hy : Yq P ops R o v a) (he : execOp a'.eval o = execOp a.eval o)
    (hw : Region.wanted o (yielded ops a'.tmps) = Region.wanted o (yielded ops a.tmps)) : Yq P ops R o v a' := by
  unfold Yq Oper.quietAt at *
  rw [he, hw]
  exact hy

theorem zStep_mono {i : Nat} {K K' : List Nat → Act → World → Prop} {used : List Nat} {a : Act} {w : World} (hk : ∀ u a w, K u a w → K' u a w) (h : zStep P ops z i K used a w) : zStep P ops z i K' used a w := by
  obtain ⟨o, ho, h⟩ := h
  refine ⟨o, ho, ?_⟩
  unfold zDo at *
  split at h
  · obtain ⟨hg, ob, ptr, h1, h2⟩ := h
    exact ⟨hg, ob, ptr, h1, fun n w' a1 a2 a3 a4 => hk _ _ _ (h2 n w' a1 a2 a3 a4)⟩
  · exact fun w' hw => lOp_mono (fun a' w'' h' => ⟨h'.1, hk _ _ _ h'.2⟩) (h w' hw)
  · obtain ⟨v, h1, h2⟩ := h; exact ⟨v, h1, hk _ _ _ h2⟩
  · obtain ⟨v, h1, h2⟩ := h; exact ⟨v, h1, hk _ _ _ h2⟩

theorem zStep_grow {i : Nat} {K : List Nat → Act → World → Prop} {used : List Nat} {a : Act} {w w1 : World} (hk : ∀ u a w w', K u a w → Grow w w' → K u a w') (hw1 : Grow w w1)
    (h : zStep P ops z i K used a w) : zStep P ops z i K used a w1 := by
  obtain ⟨o, ho, h⟩ := h
  refine ⟨o, ho, ?_⟩
  unfold zDo at *
  split at h
  · obtain ⟨hg, ob, ptr, h1, h2⟩ := h
    exact ⟨hg, ob, ptr, h1, fun n w' a1 a2 a3 a4 => h2 n w' a1 a2 a3 (hw1.trans a4)⟩
  · exact fun w' hw => h w' (hw1.trans hw)
  · obtain ⟨v, h1, h2⟩ := h; exact ⟨v, h1.mono fun w2 hw2 => hw1.trans hw2, hk _ _ _ _ h2 hw1⟩
  · obtain ⟨v, h1, h2⟩ := h; exact ⟨v, h1, hk _ _ _ _ h2 hw1⟩

theorem wpZ_grow {Q : Act → World → Prop} : ∀ (f : Nat) (listed : Array Bool) (used : List Nat) (a : Act) (w w' : World), wpZ P ops z Q f listed used a w → Grow w w' → wpZ P ops z Q f listed used a w' := by
  intro f
  induction f with
  | zero => exact fun _ _ _ _ _ h hg => ⟨h.1, fun w2 h2 => h.2 w2 (hg.trans h2)⟩
  | succ f ih => exact fun listed _ _ _ _ h hg => ⟨fun h0 w2 h2 => h.1 h0 w2 (hg.trans h2), fun i hi => zStep_grow (fun u a w w' => ih _ u a w w') hg (h.2 i hi)⟩

/-- more numbers in use ask less -/
theorem wpZ_used {Q : Act → World → Prop} : ∀ (f : Nat) (listed : Array Bool) (used used' : List Nat) (a : Act) (w : World), (∀ n ∈ used, n ∈ used') → wpZ P ops z Q f listed used a w → wpZ P ops z Q f listed used' a w := by
  intro f
  induction f with
  | zero => exact fun _ _ _ _ _ _ h => h
  | succ f ih =>
    intro listed used used' a w hu h
    refine ⟨h.1, fun i hi => ?_⟩
    obtain ⟨o, ho, h2⟩ := h.2 i hi
    refine ⟨o, ho, ?_⟩
    unfold zDo at *
    split at h2
    · obtain ⟨hg, ob, ptr, h1, h2⟩ := h2
      refine ⟨hg, ob, ptr, h1, fun n w' a1 a2 a3 a4 => ih _ _ _ _ _ (fun m hm => ?_) (h2 n w' a1 (fun hc => a2 (hu n hc)) a3 a4)⟩
      rcases List.mem_cons.1 hm with rfl | hm
      · exact List.mem_cons_self
      · exact List.mem_cons_of_mem _ (hu m hm)
    · exact fun w' hw => lOp_mono (fun a' w'' h' => ⟨h'.1, ih _ _ _ _ _ hu h'.2⟩) (h2 w' hw)
    · obtain ⟨v, h1, h2⟩ := h2; exact ⟨v, h1, ih _ _ _ _ _ hu h2⟩
    · obtain ⟨v, h1, h2⟩ := h2; exact ⟨v, h1, ih _ _ _ _ _ hu h2⟩

/-! ### What must come before what -/
def reach (ops : Array Oper) : Nat → Nat → Nat → Bool
  | 0, _, _ => false
  | f + 1, j, i => match ops[j]? with
    | some oj => oj.after.toList.any fun e => Region.binds .any e && (Nat.beq e.on i || reach ops f e.on i)
    | none => false

structure Closed (ops : Array Oper) (listed : Array Bool) : Prop where
  size : listed.size = ops.size
  closed : ∀ j oj, ops[j]? = some oj → listed.getD j false = true → ∀ e ∈ oj.after, Region.binds .any e = true → listed.getD e.on false = true

theorem getD_un {listed : Array Bool} {i : Nat} (h : listed.getD i true = false) : listed.getD i false = false := by
  rcases Nat.lt_or_ge i listed.size with h' | h'
  · simp [h'] at h ⊢; exact h
  · simp [Array.getElem?_eq_none h'] at h
theorem Closed.set {listed : Array Bool} (c : Closed ops listed) {i : Nat} (hi : i ∈ Region.ready .any ops listed) : Closed ops (listed.setIfInBounds i true) := by
  obtain ⟨_, oi, hoi, hall⟩ := mem_ready.1 hi
  refine ⟨by simp [c.size], fun j oj hj hl e he hb => ?_⟩
  by_cases hij : i = j
  · subst hij
    obtain rfl : oj = oi := Option.some.inj (hj.symm.trans hoi)
    exact getD_set_true (hall e he hb)
  · rw [getD_set_ne false hij] at hl
    exact getD_set_true (c.closed j oj hj hl e he hb)
theorem reach_step {f j i : Nat} (h : reach ops (f + 1) j i = true) : ∃ oj, ops[j]? = some oj ∧ ∃ e ∈ oj.after, Region.binds .any e = true ∧ (e.on = i ∨ reach ops f e.on i = true) := by
  unfold reach at h
  split at h
  · rename_i oj hj
    obtain ⟨e, he, h⟩ := List.any_eq_true.1 h
    simp only [Bool.and_eq_true, Bool.or_eq_true] at h
    exact ⟨oj, hj, e, by simpa using he, h.1, h.2.imp (fun h => Nat.eq_of_beq_eq_true h) id⟩
  · cases h
theorem reach_listed {listed : Array Bool} (c : Closed ops listed) {i : Nat} : ∀ {f j : Nat}, reach ops f j i = true → listed.getD j false = true → listed.getD i false = true := by
  intro f
  induction f with
  | zero => intro j h; cases h
  | succ f ih =>
    intro j h hl
    obtain ⟨oj, hj, e, he, hb, h⟩ := reach_step h
    have h1 := c.closed j oj hj hl e he hb
    rcases h with h | h
    · rwa [h] at h1
    · exact ih h h1
theorem reach_ready {listed : Array Bool} (c : Closed ops listed) {i f j : Nat} (h : reach ops f j i = true) (hj : j ∈ Region.ready .any ops listed) : listed.getD i false = true := by
  cases f with
  | zero => cases h
  | succ f =>
    obtain ⟨oj, hoj, e, he, hb, h⟩ := reach_step h
    obtain ⟨_, o', ho', hall⟩ := mem_ready.1 hj
    obtain rfl : oj = o' := Option.some.inj (hoj.symm.trans ho')
    have h1 := hall e he hb
    rcases h with h | h
    · rwa [h] at h1
    · exact reach_listed c h h1

/-- operations that have not come up yet and do not wait for i are apart from it -/
def FreeOf (ops : Array Oper) (listed : Array Bool) (i : Nat) (oi : Oper) : Prop :=
  ∀ j oj, ops[j]? = some oj → j ≠ i → listed.getD j true = false → (∀ e ∈ oj.after, Region.binds .any e = true → e.on ≠ i) → oi.apart ops oj = true
theorem un_set {listed : Array Bool} {j k : Nat} (hjun : listed.getD j true = false) (hun : (listed.setIfInBounds j true).getD k true = false) : listed.getD k true = false := by
  by_cases hjk : j = k
  · subst hjk; exact hjun
  · rw [getD_set_ne true hjk] at hun; exact hun
theorem FreeOf.set {listed : Array Bool} {i j : Nat} {oi : Oper} (h : FreeOf ops listed i oi) (hjun : listed.getD j true = false) : FreeOf ops (listed.setIfInBounds j true) i oi :=
  fun k ok hk hki hun hno => h k ok hk hki (un_set hjun hun) hno
theorem FreeOf.apart {listed : Array Bool} {i j : Nat} {oi : Oper} (h : FreeOf ops listed i oi) (hi : listed.getD i true = false) (hj : j ∈ Region.ready .any ops listed) (hne : j ≠ i) : ∃ oj, ops[j]? = some oj ∧ oi.apart ops oj = true := by
  obtain ⟨hjun, oj, hoj, hall⟩ := mem_ready.1 hj
  refine ⟨oj, hoj, h j oj hoj hne hjun fun e he hb heq => ?_⟩
  have h1 := hall e he hb
  rw [heq, getD_un hi] at h1
  cases h1

/-! ### One operation past another -/
theorem eval_put_op {o : Oper} {a : Act} {dst : Option Tmp} {v : Value} (h : ∀ d, dst = some d → d ∉ o.looksAt ops) : ∀ x ∈ o.op.operands, (a.put dst v).eval x = a.eval x := fun x hx =>
  Act.eval_put fun d hd hxd => h d hd (by
    subst hxd
    exact List.mem_append_left _ (List.mem_filterMap.2 ⟨.tmp d, by simpa using hx, rfl⟩))

theorem lOp_put {oi oj : Oper} {v : Value} (hap : oi.apart ops oj = true) (hsi : ∀ cs b, oi.op ≠ .select cs b) (hsj : ∀ cs b, oj.op ≠ .select cs b) {R : World → Prop} {K : Act → World → Prop} {a : Act} {w : World}
    (hy : Yq P ops R oi v a) (h : lOp P ops oj K (a.put oi.dst v) w) : lOp P ops oj (fun a' w' => Yq P ops R oi v a' ∧ K (a'.put oi.dst v) w') a w := by
  obtain ⟨h1, h2, h3⟩ := Oper.apart_spec hap
  have keep : ∀ (a : Act), Yq P ops R oi v a → ∀ u, Yq P ops R oi v (a.put oj.dst u) := fun a hy u =>
    hy.of_same (execOp_put oi hsi a oj.dst u h3) (wanted_put oi a oj.dst u h3)
  have keepD : ∀ d, Yq P ops R oi v { a with defers := d :: a.defers } := fun d => hy.of_same rfl rfl
  unfold lOp at *
  rw [wanted_put oj a oi.dst v h1] at h
  split
  · rename_i hw
    rw [if_pos hw] at h
    unfold Oper.wp at *
    rw [execOp_put oj hsj a oi.dst v h1] at h
    generalize (execOp a.eval oj).run P w = r at *
    cases r with
    | ok n w' =>
      cases n <;> simp only [Oper.upon] at h ⊢
      case value u => exact ⟨keep a hy u, by rw [← Act.put_comm a v u h2]; exact h⟩
      case skip => exact ⟨keep a hy _, by rw [← Act.put_comm a v undef h2]; exact h⟩
      case defer d =>
        refine ⟨keep _ (keepD d) _, ?_⟩
        rw [← Act.put_comm _ v undef h2, ← Act.put_defers]
        exact h
      case enter f args =>
        refine Calls.mono h fun e w'' he => ?_
        cases e with
        | returned u => exact ⟨keep a hy u, by rw [← Act.put_comm a v u h2]; exact he⟩
        | panicked c => exact he
        | outgrown => exact he
      case row row args => exact Rows.mono h fun u w'' he => ⟨keep a hy u, by rw [← Act.put_comm a v u h2]; exact he⟩
    | halt x w' => cases x <;> simp only [Oper.upon] at h ⊢
  · rename_i hw
    rw [if_neg hw] at h
    exact ⟨keep a hy _, by rw [← Act.put_comm a v undef h2]; exact h⟩

theorem Yq_put {oi oj : Oper} {u v : Value} (hap : oi.apart ops oj = true) (hsj : ∀ cs b, oj.op ≠ .select cs b) {R : World → Prop} {a : Act} (h : Yq P ops R oj u (a.put oi.dst v)) : Yq P ops R oj u a := by
  obtain ⟨h1, _, _⟩ := Oper.apart_spec hap
  exact h.of_same (execOp_put oj hsj a oi.dst v h1).symm (wanted_put oj a oi.dst v h1).symm

/-- an operation j comes up before a quiet i that might have been taken -/
theorem zStep_put (hz : ZpOk P z) {i j : Nat} {oi oj : Oper} {v : Value} (hj : ops[j]? = some oj) (hap : oi.apart ops oj = true) (hsi : ∀ cs b, oi.op ≠ .select cs b) (hsj : ∀ cs b, oj.op ≠ .select cs b)
    (hl : z.kd j = .l → z.kd i = .s) {K : List Nat → Act → World → Prop} {used : List Nat} {a : Act} {w : World} (hy : Yq P ops (z.R i w) oi v a) (h : zStep P ops z j K used (a.put oi.dst v) w) :
    zStep P ops z j (fun u a' w' => Yq P ops (z.R i w') oi v a' ∧ K u (a'.put oi.dst v) w') used a w := by
  obtain ⟨h1, h2, h3⟩ := Oper.apart_spec hap
  have keep : ∀ u, Yq P ops (z.R i w) oi v (a.put oj.dst u) := fun u => hy.of_same (execOp_put oi hsi a oj.dst u h3) (wanted_put oi a oj.dst u h3)
  have hR : ∀ w', Grow w w' → ∀ w1, z.R i w' w1 → z.R i w w1 := fun w' hw' w1 h' => by
    unfold Zp.R at *
    cases hk : z.kd i <;> rw [hk] at h' <;> first | exact h' | exact hw'.trans h'
  obtain ⟨o, ho, h⟩ := h
  obtain rfl : o = oj := Option.some.inj (ho.symm.trans hj)
  refine ⟨o, hj, ?_⟩
  unfold zDo at *
  cases hkj : z.kd j with
  | a =>
    rw [hkj] at h
    obtain ⟨hg, ob, ptr, hal, h⟩ := h
    refine ⟨hg, ob, ptr, (hz.congr _ _ o (eval_put_op h1)).symm.trans hal, fun n w' a1 a2 a3 a4 => ⟨(keep _).mono (hR w' a4), ?_⟩⟩
    rw [← Act.put_comm a v _ h2]
    exact h n w' a1 a2 a3 a4
  | l =>
    rw [hkj] at h
    intro w' hw'
    have hs : ∀ w2, z.R i w2 = z.S := fun w2 => by unfold Zp.R; rw [hl hkj]
    rw [hs] at hy
    have h' := lOp_put hap hsi hsj hy (h w' hw')
    refine lOp_mono (fun a' w'' hh => ⟨hh.2.1, ?_, hh.2.2⟩) h'
    show Yq P ops (z.R i w'') oi v a'
    rw [hs]
    exact hh.1
  | q =>
    rw [hkj] at h
    obtain ⟨u, hu, h⟩ := h
    refine ⟨u, Yq_put hap hsj hu, keep u, ?_⟩
    rw [← Act.put_comm a v _ h2]
    exact h
  | s =>
    rw [hkj] at h
    obtain ⟨u, hu, h⟩ := h
    refine ⟨u, Yq_put hap hsj hu, keep u, ?_⟩
    rw [← Act.put_comm a v _ h2]
    exact h

theorem zStep_quiet {i : Nat} {oi : Oper} {v : Value} (hi : ops[i]? = some oi) (hk : z.kd i = .q ∨ z.kd i = .s) {K : List Nat → Act → World → Prop} {used : List Nat} {a : Act} {w : World}
    (hy : Yq P ops (z.R i w) oi v a) (h : K used (a.put oi.dst v) w) : zStep P ops z i K used a w := by
  refine ⟨oi, hi, ?_⟩
  unfold zDo
  unfold Zp.R at hy
  rcases hk with hk | hk <;> rw [hk] at hy ⊢ <;> exact ⟨v, hy, h⟩

/-- a quiet operation may be taken first -/
theorem wpZ_first (hz : ZpOk P z) {Q : Act → World → Prop} {i : Nat} {oi : Oper} {v : Value} {d : Nat} (hi : ops[i]? = some oi) (hk : z.kd i = .q ∨ z.kd i = .s) (hsel : ∀ (j : Nat) (o : Oper) cs b, ops[j]? = some o → o.op ≠ .select cs b) :
    ∀ (f : Nat) (listed : Array Bool) (used : List Nat) (a : Act) (w : World), Closed ops listed → FreeOf ops listed i oi →
      (z.kd i = .q → ∀ j, listed.getD j true = false → z.kd j = .l → reach ops d j i = true) →
      i ∈ Region.ready .any ops listed → Yq P ops (z.R i w) oi v a →
      wpZ P ops z Q f (listed.setIfInBounds i true) used (a.put oi.dst v) w → wpZ P ops z Q (f + 1) listed used a w := by
  intro f
  induction f with
  | zero =>
    intro listed used a w c hfree hloud hr hy H
    refine ⟨fun h => (by rw [h] at hr; cases hr), fun j hj => ?_⟩
    by_cases hji : j = i
    · subst hji; exact zStep_quiet hi hk hy H
    · have := ready_mono hj hji
      rw [H.1] at this
      cases this
  | succ f ih =>
    intro listed used a w c hfree hloud hr hy H
    refine ⟨fun h => (by rw [h] at hr; cases hr), fun j hj => ?_⟩
    by_cases hji : j = i
    · subst hji; exact zStep_quiet hi hk hy H
    · have h1 := H.2 j (ready_mono hj hji)
      have hun := (mem_ready.1 hr).1
      have hjun := (mem_ready.1 hj).1
      obtain ⟨oj, hoj, hap⟩ := hfree.apart hun hj hji
      have hl : z.kd j = .l → z.kd i = .s := fun hkj => by
        rcases hk with hk | hk
        · have := reach_ready c (hloud hk j hjun hkj) hj
          rw [getD_un hun] at this
          cases this
        · exact hk
      have h2 := zStep_put hz hoj hap (fun cs b => hsel i oi cs b hi) (fun cs b => hsel j oj cs b hoj) hl hy h1
      refine zStep_mono (fun u a' w' h3 => ih (listed.setIfInBounds j true) u a' w' (c.set hj) (hfree.set hjun) (fun hq k hku hkl => hloud hq k (un_set hjun hku) hkl) (ready_mono hr (Ne.symm hji)) h3.1 ?_) h2
      rw [Array.setIfInBounds_comm _ _ hji]
      exact h3.2

/-- a new block may be made first, if all else waits for it -/
theorem wpZ_alloc (hz : ZpOk P z) {Q : Act → World → Prop} {i : Nat} {oi : Oper} {d : Nat} {ob : Obj} {ptr : Nat → Value} (hi : ops[i]? = some oi) (hk : z.kd i = .a) (hg : oi.guard = none) (hsel : ∀ (j : Nat) (o : Oper) cs b, ops[j]? = some o → o.op ≠ .select cs b) :
    ∀ (f : Nat) (listed : Array Bool) (used : List Nat) (a : Act) (w : World), Closed ops listed → FreeOf ops listed i oi →
      (∀ j, listed.getD j true = false → z.kd j ≠ .a → reach ops d j i = true) →
      i ∈ Region.ready .any ops listed → z.al a.eval oi = some (ob, ptr) →
      (∀ n w', z.base ≤ n → n ∉ used → w'.heap[n]? = some ob → Grow w w' → wpZ P ops z Q f (listed.setIfInBounds i true) (n :: used) (a.put oi.dst (ptr n)) w') → wpZ P ops z Q (f + 1) listed used a w := by
  intro f
  induction f with
  | zero =>
    intro listed used a w c hfree hloud hr hal H
    refine ⟨fun h => (by rw [h] at hr; cases hr), fun j hj => ?_⟩
    by_cases hji : j = i
    · subst hji; refine ⟨oi, hi, ?_⟩; unfold zDo; rw [hk]; exact ⟨hg, ob, ptr, hal, H⟩
    · have := ready_mono hj hji
      obtain ⟨n, w', a1, a2, a3, a4⟩ := some_world w z.base used ob
      rw [(H n w' a1 a2 a3 a4).1] at this
      cases this
  | succ f ih =>
    intro listed used a w c hfree hloud hr hal H
    refine ⟨fun h => (by rw [h] at hr; cases hr), fun j hj => ?_⟩
    by_cases hji : j = i
    · subst hji; refine ⟨oi, hi, ?_⟩; unfold zDo; rw [hk]; exact ⟨hg, ob, ptr, hal, H⟩
    · have hun := (mem_ready.1 hr).1
      have hjun := (mem_ready.1 hj).1
      obtain ⟨oj, hoj, hap⟩ := hfree.apart hun hj hji
      obtain ⟨h1, h2, h3⟩ := Oper.apart_spec hap
      have hkj : z.kd j = .a := by
        by_cases hkj : z.kd j = .a
        · exact hkj
        · have := reach_ready c (hloud j hjun hkj) hj
          rw [getD_un hun] at this
          cases this
      have step : ∀ n w', z.base ≤ n → n ∉ used → w'.heap[n]? = some ob → Grow w w' → oj.guard = none ∧ ∃ ob' ptr', z.al a.eval oj = some (ob', ptr') ∧
          ∀ m w2, z.base ≤ m → m ∉ n :: used → w2.heap[m]? = some ob' → Grow w' w2 → wpZ P ops z Q f ((listed.setIfInBounds i true).setIfInBounds j true) (m :: n :: used) ((a.put oi.dst (ptr n)).put oj.dst (ptr' m)) w2 := fun n w' a1 a2 a3 a4 => by
        obtain ⟨o, ho, h⟩ := (H n w' a1 a2 a3 a4).2 j (ready_mono hj hji)
        obtain rfl : o = oj := Option.some.inj (ho.symm.trans hoj)
        unfold zDo at h
        rw [hkj] at h
        obtain ⟨hgj, ob', ptr', hal', h⟩ := h
        exact ⟨hgj, ob', ptr', (hz.congr _ _ o (eval_put_op h1)).symm.trans hal', h⟩
      obtain ⟨n0, w0, b1, b2, b3, b4⟩ := some_world w z.base used ob
      obtain ⟨hgj, ob', ptr', hal', _⟩ := step n0 w0 b1 b2 b3 b4
      refine ⟨oj, hoj, ?_⟩
      unfold zDo
      rw [hkj]
      refine ⟨hgj, ob', ptr', hal', fun m w2 c1 c2 c3 c4 => ?_⟩
      refine ih _ _ _ _ (c.set hj) (hfree.set hjun) (fun k hku hkl => hloud k (un_set hjun hku) hkl) (ready_mono hr (Ne.symm hji)) ((hz.congr _ _ oi (eval_put_op h3)).trans hal) fun n w3 d1 d2 d3 d4 => ?_
      have d2' : n ∉ used := fun hc => d2 (List.mem_cons_of_mem _ hc)
      have hmn : m ≠ n := fun hc => d2 (by rw [hc]; exact List.mem_cons_self)
      obtain ⟨_, ob2, ptr2, hal2, h⟩ := step n w3 d1 d2' d3 (c4.trans d4)
      rw [hal'] at hal2
      cases hal2
      have := h m w3 c1 (fun hc => by rcases List.mem_cons.1 hc with h | h; exact hmn h; exact c2 h) (d4.heap c3) (Grow.refl _)
      rw [Array.setIfInBounds_comm _ _ hji, ← Act.put_comm a _ _ h2]
      refine wpZ_used _ _ _ _ _ _ (fun x hx => ?_) this
      simp only [List.mem_cons] at hx ⊢
      rcases hx with h | h | h
      · exact .inr (.inl h)
      · exact .inl h
      · exact .inr (.inr h)

/-! ### It serves every order -/
theorem quietAt_mono {o : Oper} {a : Act} {C C' : World → Prop} {w : World} {v : Value} (hc : ∀ w, C w → C' w) (h : o.quietAt P a C w v) : o.quietAt P a C' w v := by
  unfold Oper.quietAt at *
  generalize (execOp a.eval o).run P w = r at *
  cases r with
  | ok n w' =>
    cases n <;> simp only [Oper.quietUpon] at h ⊢ <;> first | exact h | skip
    case enter f args => exact ⟨h.1, h.2.mono fun e w'' he => ⟨he.1, hc _ he.2⟩⟩
  | halt x w' => exact h

theorem wpAny_of_Z (hz : ZpOk P z) {Q : Act → World → Prop} {Q' : Exit → Act → World → Prop} {d : Nat} (hQ : ∀ a w, Q a w → Q' .normal a w) (hl : ∀ j, j < ops.size → z.kd j = .l → ∀ i, i < ops.size → z.kd i = .a → reach ops d j i = true) :
    ∀ (f : Nat) (listed : Array Bool) (used : List Nat) (a : Act) (w : World), Closed ops listed → z.S w → ((∃ i, z.kd i = .a ∧ listed.getD i true = false) → z.base ≤ w.heap.size ∧ ∀ n ∈ used, n < w.heap.size) →
      wpZ P ops z Q f listed used a w → wpAny P .any ops Q' f listed a w := by
  intro f
  induction f with
  | zero => exact fun listed used a w c hs hu h => ⟨h.1, hQ _ _ (h.2 w (Grow.refl _))⟩
  | succ f ih =>
    intro listed used a w c hs hu h
    refine ⟨fun h0 => hQ _ _ (h.1 h0 w (Grow.refl _)), fun i hi => ?_⟩
    have hiun := (mem_ready.1 hi).1
    obtain ⟨o, ho, h⟩ := h.2 i hi
    have hu' : ∀ w' : World, w.heap.size ≤ w'.heap.size → (∃ k, z.kd k = .a ∧ (listed.setIfInBounds i true).getD k true = false) → z.base ≤ w'.heap.size ∧ ∀ n ∈ used, n < w'.heap.size := fun w' hw' ⟨k, hk, hkl⟩ => by
      obtain ⟨u1, u2⟩ := hu ⟨k, hk, un_set hiun hkl⟩
      exact ⟨by omega, fun n hn => by have := u2 n hn; omega⟩
    have quiet : ∀ v, Yq P ops (Grow w) o v a → wpZ P ops z Q f (listed.setIfInBounds i true) used (a.put o.dst v) w → wpOp P ops Q' i (wpAny P .any ops Q' f (listed.setIfInBounds i true)) a w := fun v hy h => by
      unfold wpOp
      simp only [ho]
      rcases hy with ⟨hw, hv⟩ | ⟨hw, rfl⟩
      · rw [if_pos hw]
        refine .inl ?_
        refine Oper.wp_of_quiet (C := Grow w) (K := fun a' => a' = a.put o.dst v) (Grow.refl w) (fun a' w' hw' ha' => ?_) ⟨v, fun w1 hw1 => quietAt_mono (fun w2 hw2 => hw1.trans hw2) (hv w1 hw1), rfl⟩
        subst ha'
        exact ih _ used _ _ (c.set hi) (hz.grow _ _ hs hw') (hu' w' hw'.size) (wpZ_grow _ _ _ _ _ _ h hw')
      · rw [if_neg (by simp [hw])]
        exact ih _ used _ _ (c.set hi) hs (hu' w (Nat.le_refl _)) h
    unfold zDo at h
    cases hk : z.kd i with
    | q => rw [hk] at h; obtain ⟨v, hy, h⟩ := h; exact quiet v hy h
    | s => rw [hk] at h; obtain ⟨v, hy, h⟩ := h; exact quiet v (hy.mono fun w1 hw1 => hz.grow _ _ hs hw1) h
    | a =>
      rw [hk] at h
      obtain ⟨hg, ob, ptr, hal, h⟩ := h
      obtain ⟨u1, u2⟩ := hu ⟨i, hk, hiun⟩
      unfold wpOp
      simp only [ho]
      rw [if_pos (by simp [Region.wanted, hg])]
      refine .inl ?_
      unfold Oper.wp
      rw [hz.run _ _ _ _ hal w]
      simp only [Oper.upon]
      refine ih _ (w.heap.size :: used) _ _ (c.set hi) (hz.grow _ _ hs (Grow.alloc w ob)) (fun _ => ⟨?_, fun n hn => ?_⟩) (h w.heap.size (w.alloc ob) u1 (fun hc => by have := u2 _ hc; omega) (heap_alloc_at w ob) (Grow.alloc w ob))
      · have := (Grow.alloc w ob).size; omega
      · have hsz : (w.alloc ob).heap.size = w.heap.size + 1 := by show (w.heap.push ob).size = _; simp
        rcases List.mem_cons.1 hn with rfl | hn
        · omega
        · have := u2 n hn; omega
    | l =>
      rw [hk] at h
      have h := h w (Grow.refl w)
      have hno : ¬ ∃ k, z.kd k = .a ∧ (listed.setIfInBounds i true).getD k true = false := fun ⟨k, hka, hkl⟩ => by
        have hkl' := un_set hiun hkl
        have hks : k < ops.size := by
          rw [← c.size]
          rcases Nat.lt_or_ge k listed.size with h' | h'
          · exact h'
          · simp [Array.getElem?_eq_none h'] at hkl'
        have := reach_ready c (hl i (Array.getElem?_eq_some_iff.1 ho).1 hk k hks hka) hi
        rw [getD_un hkl'] at this
        cases this
      have h2 : wpOp P ops Q' i (fun a' w'' => z.S w'' ∧ wpZ P ops z Q f (listed.setIfInBounds i true) used a' w'') a w := by
        unfold wpOp
        simp only [ho]
        unfold lOp at h
        split
        · rename_i hw
          rw [if_pos hw] at h
          refine .inl ?_
          unfold Oper.wp at *
          generalize (execOp a.eval o).run P w = r at *
          cases r with
          | ok n w' =>
            cases n <;> simp only [Oper.upon] at h ⊢ <;> first | exact h | skip
            case enter f' args =>
              refine Calls.mono h fun e w'' he => ?_
              cases e with
              | returned u => exact he
              | panicked ch => exact he.elim
              | outgrown => obtain ⟨_, _, hx⟩ := he; exact hx.elim
          | halt x w' => cases x <;> simp only [Oper.upon] at h ⊢
        · rename_i hw
          rw [if_neg hw] at h
          exact h
      exact wpOp_mono (fun a' w'' h' => ih _ used _ _ (c.set hi) h'.1 (fun he => absurd he hno) h'.2) h2

/-! ### The one order -/
def allRange (n : Nat) (p : Nat → Bool) : Bool := (List.range n).all p
def isA : Zk → Bool | .a => true | _ => false
def isL : Zk → Bool | .l => true | _ => false
def zFits (ops : Array Oper) (kd : Nat → Zk) (listed : Array Bool) (i : Nat) : Bool :=
  match kd i with
  | .q => Region.free .any ops listed i && allRange ops.size fun j => listed.getD j true || !isL (kd j) || reach ops 3 j i
  | .s => Region.free .any ops listed i
  | .a => Region.free .any ops listed i && allRange ops.size fun j => listed.getD j true || isA (kd j) || reach ops 3 j i
  | .l => decide (Region.ready .any ops listed = [i])
def zCheck (ops : Array Oper) (kd : Nat → Zk) : List Nat → Array Bool → Bool
  | [], listed => (Region.ready .any ops listed).isEmpty
  | i :: r, listed => (Region.ready .any ops listed).contains i && zFits ops kd listed i && zCheck ops kd r (listed.setIfInBounds i true)
def zB (ops : Array Oper) (kd : Nat → Zk) (order : List Nat) : Bool :=
  Region.noSelect ops && (allRange ops.size fun j => !isL (kd j) || allRange ops.size fun i => !isA (kd i) || reach ops 3 j i) && zCheck ops kd order (Array.replicate ops.size false)

def wpW (P : Program) (ops : Array Oper) (z : Zp) (Q : Act → World → Prop) : List Nat → List Nat → Act → World → Prop
  | [], _, a, w => ∀ w', Grow w w' → Q a w'
  | i :: r, used, a, w => zStep P ops z i (fun u a' w' => wpW P ops z Q r u a' w') used a w

theorem allRange_spec {n : Nat} {p : Nat → Bool} (h : allRange n p = true) {j : Nat} (hj : j < n) : p j = true := List.all_eq_true.1 h j (List.mem_range.2 hj)
theorem lt_of_un {listed : Array Bool} {j : Nat} (h : listed.getD j true = false) : j < listed.size := by
  rcases Nat.lt_or_ge j listed.size with h' | h'
  · exact h'
  · simp [Array.getElem?_eq_none h'] at h

theorem wpZ_of_walk (hz : ZpOk P z) {Q : Act → World → Prop} (hsel : Region.noSelect ops = true) : ∀ (r : List Nat) (listed : Array Bool) (used : List Nat) (a : Act) (w : World), Closed ops listed →
    zCheck ops z.kd r listed = true → wpW P ops z Q r used a w → wpZ P ops z Q r.length listed used a w := by
  intro r
  induction r with
  | nil =>
    intro listed used a w c hB h
    exact ⟨by simpa [zCheck] using hB, h⟩
  | cons i r ih =>
    intro listed used a w c hB h
    simp only [zCheck, Bool.and_eq_true] at hB
    obtain ⟨⟨hr, hf⟩, hB⟩ := hB
    have hr : i ∈ Region.ready .any ops listed := by simpa using hr
    have ih := fun used a w => ih (listed.setIfInBounds i true) used a w (c.set hr) hB
    obtain ⟨o, ho, h⟩ := h
    unfold zDo at h
    unfold zFits at hf
    cases hk : z.kd i with
    | q =>
      rw [hk] at h hf
      obtain ⟨v, hy, h⟩ := h
      simp only [Bool.and_eq_true] at hf
      refine wpZ_first hz (d := 3) ho (.inl hk) (Region.noSelect_spec hsel) _ _ _ _ _ c (fun j oj h1 h2 h3 h4 => Region.free_spec ho hf.1 j oj h1 h2 h3 h4) (fun _ j hj hjl => ?_) hr (by unfold Zp.R; rw [hk]; exact hy) (ih _ _ _ h)
      have := allRange_spec hf.2 (c.size ▸ lt_of_un hj)
      simpa [hj, hjl, isL] using this
    | s =>
      rw [hk] at h hf
      obtain ⟨v, hy, h⟩ := h
      exact wpZ_first hz (d := 3) ho (.inr hk) (Region.noSelect_spec hsel) _ _ _ _ _ c (fun j oj h1 h2 h3 h4 => Region.free_spec ho hf j oj h1 h2 h3 h4) (fun hq => by rw [hk] at hq; cases hq) hr (by unfold Zp.R; rw [hk]; exact hy) (ih _ _ _ h)
    | a =>
      rw [hk] at h hf
      obtain ⟨hg, ob, ptr, hal, h⟩ := h
      simp only [Bool.and_eq_true] at hf
      refine wpZ_alloc hz (d := 3) ho hk hg (Region.noSelect_spec hsel) _ _ _ _ _ c (fun j oj h1 h2 h3 h4 => Region.free_spec ho hf.1 j oj h1 h2 h3 h4) (fun j hj hjl => ?_) hr hal fun n w' a1 a2 a3 a4 => ih _ _ _ (h n w' a1 a2 a3 a4)
      have := allRange_spec hf.2 (c.size ▸ lt_of_un hj)
      have hna : isA (z.kd j) = false := by cases hkj : z.kd j <;> first | rfl | exact absurd hkj hjl
      simpa [hj, hna] using this
    | l =>
      rw [hk] at h hf
      have hf : Region.ready .any ops listed = [i] := by simpa using hf
      refine ⟨fun h0 => (by rw [hf] at h0; cases h0), fun j hj => ?_⟩
      rw [hf] at hj
      obtain rfl : j = i := by simpa using hj
      refine ⟨o, ho, ?_⟩
      unfold zDo
      rw [hk]
      exact fun w' hw' => lOp_mono (fun a' w'' h' => ⟨h'.1, ih _ _ _ h'.2⟩) (h w' hw')

theorem getD_rep (m j : Nat) : (Array.replicate m false).getD j false = false := by
  rcases Nat.lt_or_ge j m with h | h
  · simp [h]
  · simp [h]

/-- **The order given serves every order.** -/
theorem wp_region_z (hz : ZpOk P z) {id : Nat} {Q : Exit → Act → World → Prop} {a : Act} {w : World} {order : List Nat} (hm : P.follows .mixedOrders = true) (hS : z.S { w with drawn := w.drawn + 1 }) (hb : z.base ≤ w.heap.size) (hlen : order.length = ops.size)
    (hB : zB ops z.kd order = true) (h : wpW P ops z (Q .normal) order [] a { w with drawn := w.drawn + 1 }) : (Code.region id ops true).wp P Q a w := by
  simp only [zB, Bool.and_eq_true] at hB
  obtain ⟨⟨hsel, hl⟩, hB⟩ := hB
  refine wp_region_any hm ?_
  have c0 : Closed ops (Array.replicate ops.size false) := ⟨by simp, fun j oj _ hl => by rw [getD_rep] at hl; cases hl⟩
  refine wpAny_of_Z hz (Q := Q .normal) (d := 3) (fun a w h => h) (fun j hjs hj i hi hia => ?_) ops.size _ [] a _ c0 hS (fun _ => ⟨hb, by simp⟩) ?_
  · have := allRange_spec hl hjs
    simp only [hj, isL, Bool.not_true, Bool.false_or] at this
    have := allRange_spec this hi
    simpa [hia, isA] using this
  · have := wpZ_of_walk hz (Q := Q .normal) hsel order _ _ _ _ c0 hB h
    rwa [hlen] at this
end
end Go.Den
