/-
  A verified executor, part 6: stores, appends. Own work. It is generic: no program is named.
-/
import Derived.Test.YtagndjglhlpljaaGreatOps4
namespace Go.Den
open Go.RowKit (Below)

/-! ### The shape of what a call hands back -/
def aggOk (P : Program) (T : TypeId) (a : A) : Bool :=
  match isAggB P T with
  | true => (match flat P 8 T, a with
    | some ks, .agg l => (match takeK ks l with
      | some as => Nat.beq as.length l.length
      | none => false)
    | _, _ => false)
  | false => (match ckOf P T with
    | some k => kOk k a
    | none => false)
def aggsOk (P : Program) : List TypeId → List A → Bool
  | [], [] => true
  | T :: Ts, a :: l => (match aggOk P T a with | true => aggsOk P Ts l | false => false)
  | _, _ => false
def shapeOk (P : Program) (T : TypeId) (a : A) : Bool :=
  match P.underlying T with
  | some (.tuple ts) => (match a with
    | .tup l => aggsOk P ts.toList l
    | .lit (.tuple vs) => (match ts.toList, vs.toList with | [], [] => true | _, _ => false)
    | _ => false)
  | _ => aggOk P T a
theorem takeK_ex (r : Nat → Nat × Nat) : ∀ {ks : List CK} {l as : List A} {p : List Value → Prop}, takeK ks l = some as → p (concL r as) → ExL ks p := by
  intro ks
  induction ks with
  | nil => intro l as p h hp; cases h; exact hp
  | cons k ks ih =>
    intro l as p h hp
    cases l with
    | nil => cases h
    | cons a l =>
      simp only [takeK] at h
      split at h
      · rename_i hk
        split at h
        · rename_i as' has
          cases h
          exact kOk_ex hk r (ih has hp)
        · cases h
      · cases h
theorem takeK_pre : ∀ {ks : List CK} {l as : List A}, takeK ks l = some as → as = l.take as.length := by
  intro ks
  induction ks with
  | nil => intro l as h; cases h; rfl
  | cons k ks ih =>
    intro l as h
    cases l with
    | nil => cases h
    | cons a l =>
      simp only [takeK] at h
      split at h
      · split at h
        · rename_i as' has
          cases h
          have := ih has
          simp only [List.length_cons, List.take_succ_cons]
          rw [← this]
        · cases h
      · cases h
theorem aggOk_ex {P : Program} {T : TypeId} {a : A} (h : aggOk P T a = true) (r : Nat → Nat × Nat) {p : Value → Prop} (hp : p (a.conc r)) : Ex1 P T p := by
  unfold aggOk at h
  unfold Ex1
  split at h
  · rename_i hagg
    rw [hagg]
    split at h
    · rename_i ks l hks
      split at h
      · rename_i as has
        have hl := Nat.eq_of_beq_eq_true h
        have := takeK_pre has
        rw [hl, List.take_length] at this
        subst this
        simp only [hks]
        exact takeK_ex r has hp
      · cases h
    · cases h
  · rename_i hagg
    rw [hagg]
    split at h
    · rename_i k hk
      simp only [hk]
      exact kOk_ex h r hp
    · cases h
theorem aggsOk_ex {P : Program} (r : Nat → Nat × Nat) : ∀ {Ts : List TypeId} {l : List A} {p : List Value → Prop}, aggsOk P Ts l = true → p (concL r l) → ExTs P Ts p := by
  intro Ts
  induction Ts with
  | nil => intro l p h hp; cases l with | nil => exact hp | cons a l => cases h
  | cons T Ts ih =>
    intro l p h hp
    cases l with
    | nil => cases h
    | cons a l =>
      simp only [aggsOk] at h
      split at h
      · rename_i ha; exact aggOk_ex ha r (ih h hp)
      · cases h
theorem shapeOk_ex {P : Program} {T : TypeId} {a : A} (h : shapeOk P T a = true) (r : Nat → Nat × Nat) {p : Value → Prop} (hp : p (a.conc r)) : ExTy P T p := by
  unfold shapeOk at h
  unfold ExTy
  split at h
  · rename_i ts hu
    rw [hu]
    split at h
    · exact aggsOk_ex r h hp
    · rename_i vs
      split at h
      · rename_i h1 h2
        show ExTs P ts.toList _
        rw [h1]
        have : vs = #[] := by apply Array.ext'; simpa using h2
        subst this
        exact hp
      · cases h
    · cases h
  · rename_i hne
    split
    · rename_i ts hu; exact absurd hu (hne ts)
    · exact aggOk_ex h r hp

/-! ### Stores -/
def oneA : A → Bool
  | .lit v => v.oneCell'
  | .agg _ => false
  | .tup _ => false
  | _ => true
theorem oneA_ok {a : A} (h : oneA a = true) (r : Nat → Nat × Nat) : (a.conc r).oneCell' = true := by
  cases a <;> simp only [oneA, Bool.false_eq_true] at h <;> first | exact h | rfl
def aSt (W : Nat → Bool) (b : Nat) : Nat → List A → AH → Option AH
  | _, [], H => some H
  | off, c :: cs, H => (match W b, oneA c, H.get b with
    | true, true, some (.cells l T sz) => (match Nat.blt off l.length with
      | true => (match H.set b (.cells (l.set off c) T sz) with
        | some H' => aSt W b (off + 1) cs H'
        | none => none)
      | false => none)
    | _, _, _ => none)
theorem setCell_heap (w : World) {b off : Nat} {arr : Array Value} {T : TypeId} (v : Value) (h : w.heap[b]? = some (.cells arr T)) : (w.setCell ⟨b, off, none⟩ v).heap[b]? = some (.cells (arr.setIfInBounds off v) T) := by
  simp only [World.setCell, Array.getElem?_modify, if_pos, h]
  rfl
theorem wfL_set {n off : Nat} {a : A} {l : List A} (hl : wfL n l = true) (ha : a.wf n = true) : wfL n (l.set off a) = true := by
  rw [wfL_iff] at *
  intro x hx
  rcases List.mem_or_eq_of_mem_set hx with h | h
  · exact hl x h
  · rw [h]; exact ha
theorem concL_set (r : Nat → Nat × Nat) (l : List A) (off : Nat) (a : A) : concL r (l.set off a) = (concL r l).set off (a.conc r) := by
  rw [concL_map, concL_map, List.map_set]
theorem aSt_ok {W : Nat → Bool} {b off0 : Nat} {r : Nat → Nat × Nat} {k : World → Prop} : ∀ {cs : List A} {i : Nat} {H H' : AH} {w : World}, aSt W b (off0 + i) cs H = some H' → wfL H.n cs = true → Rel r H w →
    (∀ w', Post W r H w r H' w' → k w') → WrL ⟨(r b).1, off0, none⟩ k i (concL r cs) w := by
  intro cs
  induction cs with
  | nil => intro i H H' w h _ hR hk; cases h; exact hk w (Post.refl hR)
  | cons c cs ih =>
    intro i H H' w h hw hR hk
    obtain ⟨hw1, hw2⟩ := wfL_cons.1 hw
    simp only [aSt] at h
    split at h
    · rename_i l T sz hlo hone hg
      split at h
      · rename_i hlt
        have hlt : off0 + i < l.length := by simpa [Nat.blt_eq] using hlt
        split at h
        · rename_i H1 hs
          have hblo : W b = true := hlo
          simp only [concL, WrL, oneA_ok hone r, Addr.add_mk]
          obtain ⟨ob, hat, hlies⟩ := hR.at_ _ _ hg
          have hcell : ∃ u, w.cell? ⟨(r b).1, off0 + i, none⟩ = some u := by
            have : l[off0 + i]? = some l[off0 + i] := List.getElem?_eq_getElem hlt
            exact ⟨_, cellsAt_ok hR (by unfold cellsAt; rw [hg]) this⟩
          have hlc : (concL r l).length = l.length := by simp [concL_map]
          have arr : ∃ X : List Value, ob = .cells X.toArray T ∧ (AO.cells (l.set (off0 + i) c) T sz).lies r (r b).2 (.cells (X.set (off0 + i) (c.conc r)).toArray T) := by
            cases sz with
            | none => simp only [AO.lies] at hlies; exact ⟨_, hlies, by simp only [AO.lies, concL_set]⟩
            | some sz =>
              obtain ⟨rest, h1, h2⟩ := hlies
              refine ⟨_, h1, rest, ?_, ?_⟩
              · rw [concL_set, List.set_append_left _ _ (by omega)]
              · rw [concL_set, List.length_append, List.length_set, ← List.length_append]; exact h2
          obtain ⟨X, rfl, hlies'⟩ := arr
          have hfr : w.frozen? ⟨(r b).1, off0 + i, none⟩ = false := by simp [World.frozen?, hat]
          refine ⟨hcell, hfr, ?_⟩
          have hP : Post W r H w r H1 (w.setCell ⟨(r b).1, off0 + i, none⟩ (c.conc r)) := by
            refine Post.turn hR hg hs hblo (wfL_set (hR.wf _ _ hg) hw1) (setCell_heap w _ hat) (by simpa using hlies') (fun k hk => Below.heap_setCell _ _ _ _ hk) rfl rfl rfl (by simp [World.setCell])
          refine ih (i := i + 1) (H := H1) (by rwa [Nat.add_assoc] at h) (by rw [(AH.set_spec hs).1]; exact hw2) hP.rel fun w' hw' => hk w' (hP.trans hw')
        · cases h
      · cases h
    · cases h
def aStore (P : Program) (W : Nat → Bool) (T : TypeId) (b off : Nat) (a : A) (H : AH) : Option AH :=
  match P.underlying T, aCells a with
  | some _, some cs => (match Nat.beq cs.length (P.cellsOf T) with
    | true => aSt W b off cs H
    | false => none)
  | _, _ => none
theorem aStore_ok {P : Program} {W : Nat → Bool} {b off : Nat} {T : TypeId} {a : A} {r : Nat → Nat × Nat} {H H' : AH} {w : World} {k : World → Prop} (h : aStore P W T b off a H = some H') (hw : a.wf H.n = true) (hR : Rel r H w)
    (hk : ∀ w', Post W r H w r H' w' → k w') : WrV P T ⟨(r b).1, off, none⟩ (a.conc r) k w := by
  unfold aStore at h
  unfold WrV
  split at h
  · rename_i d cs hu hcs
    have hv : valCells (a.conc r) = concL r cs := by rw [← valCells_eq, aCells_ok hcs r]
    split at h
    · rename_i hlen
      simp only [hu, hv]
      rw [show Nat.beq (concL r cs).length (P.cellsOf T) = true by rw [show (concL r cs).length = cs.length by simp [concL_map]]; exact hlen]
      exact aSt_ok (off0 := off) (i := 0) h (aCells_wf hcs hw) hR hk
    · cases h
  · cases h

/-! ### Appends -/
def allOne : List A → Bool
  | [] => true
  | a :: l => match oneA a with | true => allOne l | false => false
theorem allOne_ok {l : List A} (h : allOne l = true) (r : Nat → Nat × Nat) : ∀ u ∈ concL r l, u.oneCell' = true := by
  induction l with
  | nil => intro u hu; simp [concL] at hu
  | cons a l ih =>
    simp only [allOne] at h
    split at h
    · rename_i ha
      intro u hu
      simp only [concL, List.mem_cons] at hu
      rcases hu with rfl | hu
      · exact oneA_ok ha r
      · exact ih h u hu
    · cases h
/-- the cells of a slice's first n elements -/
def cut (H : AH) (b off len : Nat) : Option (List A) :=
  match cellsAt H b with
  | some l => (match Nat.ble (off + len) l.length with
    | true => some ((l.drop off).take len)
    | false => none)
  | none => none
theorem cut_ok {r : Nat → Nat × Nat} {H : AH} {w : World} (hR : Rel r H w) {b off len : Nat} {l : List A} (h : cut H b off len = some l) :
    (concL r l).length = len ∧ wfL H.n l = true ∧ ∀ j v, (concL r l)[j]? = some v → w.cell? ((⟨(r b).1, off, none⟩ : Addr).add j) = some v := by
  unfold cut at h
  split at h
  · rename_i l0 hl
    split at h
    · rename_i hle
      have hle := Nat.le_of_ble_eq_true hle
      cases h
      refine ⟨by simp [concL_map]; omega, ?_, fun j v hj => ?_⟩
      · have hwf : wfL H.n l0 = true := by
          unfold cellsAt at hl
          split at hl
          · rename_i hg; cases hl; exact hR.wf _ _ hg
          · cases hl
        rw [wfL_iff] at *
        exact fun a ha => hwf a (List.mem_of_mem_drop (List.mem_of_mem_take ha))
      · rw [concL_map, List.getElem?_map] at hj
        cases hx : ((l0.drop off).take len)[j]? with
        | none => rw [hx] at hj; cases hj
        | some a =>
          rw [hx] at hj
          cases hj
          rw [Addr.add_mk]
          refine cellsAt_ok hR hl ?_
          rw [List.getElem?_take] at hx
          split at hx
          · simpa using hx
          · cases hx
    · cases h
  · cases h

/-- 'append(s, x...)', x a slice with something in it -/
def aApp (P : Program) (W : Nat → Bool) (T : TypeId) (s x : A) (H : AH) : Option (A × AH) :=
  match P.underlying T with
  | some (.slice e) => (match P.info? e with
    | some i => (match i.zero with
      | some z => (match x with
        | .sl bx ox m _ => (match cut H bx ox (m * i.size), decide (z.cells.size = i.size ∧ 0 < m ∧ m * i.size = m * i.size) with
          | some news, true => (match s with
            | .lit (.slice none 0 0) => if (m : Int) ≤ 9223372036854775807 ∧ m * i.bytes ≤ 281474976710656 then
                (match H.push (.cells news e (some i.size)) with
                | some H' => some (.sl H.n 0 m (.less 0), H')
                | none => none) else none
            | .sl b off n (.known c) => (match cut H b off (n * i.size) with
              | some olds => if c < n + m ∧ ((n + m : Nat) : Int) ≤ 9223372036854775807 ∧ (n + m) * i.bytes ≤ 140737488355328 then
                  (match H.push (.cells (olds ++ news) e (some i.size)) with
                  | some H' => some (.sl H.n 0 (n + m) (.less 0), H')
                  | none => none) else none
              | none => none)
            | .sl b 0 n (.less 0) => (match H.get b with
              | some (.cells l e' (some sz)) => if sz = i.size ∧ e' = e ∧ l.length = n * sz ∧ W b = true ∧ allOne news = true ∧ ((n + m : Nat) : Int) ≤ 9223372036854775807 ∧ (n + m) * i.bytes ≤ 140737488355328 then
                  (match H.del b with
                  | some H1 => (match H1.push (.cells (l ++ news) e (some i.size)) with
                    | some H' => some (.sl H1.n 0 (n + m) (.less 0), H')
                    | none => none)
                  | none => none) else none
              | _ => none)
            | _ => none)
          | _, _ => none)
        | _ => none)
      | none => none)
    | none => none)
  | _ => none

theorem wfL_append {n : Nat} {l k : List A} (h : wfL n l = true) (g : wfL n k = true) : wfL n (l ++ k) = true := by
  rw [wfL_iff] at *
  intro a ha
  rcases List.mem_append.1 ha with ha | ha
  · exact h a ha
  · exact g a ha
theorem concL_append (r : Nat → Nat × Nat) (l k : List A) : concL r (l ++ k) = concL r l ++ concL r k := by simp [concL_map]

theorem aApp_ok {P : Program} {W : Nat → Bool} {T ty : TypeId} {s x a : A} {r : Nat → Nat × Nat} {H H' : AH} {w : World} (h : aApp P W T s x H = some (a, H')) (hR : Rel r H w) :
    ∃ w' r', (Builtin.append_ #[T, T] ty #[s.conc r, x.conc r]).run P w = .ok (a.conc r') w' ∧ Post W r H w r' H' w' := by
  unfold aApp at h
  split at h
  · rename_i e hu
    split at h
    · rename_i i hi
      split at h
      · rename_i z hz
        split at h
        · rename_i bx ox m cx
          split at h
          · rename_i news hcut hdec
            obtain ⟨hzs, hm, _⟩ := of_decide_eq_true hdec
            obtain ⟨hnl, hnw, hnc⟩ := cut_ok hR hcut
            have hdrew : Grow w w.drew := (Below.refl _ w).drew
            split at h
            · split at h
              · rename_i hc
                split at h
                · rename_i H1 hp
                  cases h
                  have hrun := run_append_nil (P := P) w T ty e i z hu hi hz ⟨(r bx).1, ox, none⟩ m (cx.conc (r bx).2) (concL r news) hnl hnc hm hc.1 hc.2
                  have hge := grownCap_ge w m 0 e
                  generalize hob : Obj.cells _ _ _ = ob at hrun
                  refine ⟨w.drew.alloc ob, upd r H.n (w.heap.size, grownCap w m 0 e), ?_, Post.alloc (n := w.heap.size) (m := grownCap w m 0 e) hR hp hnw (Nat.le_refl _) (heap_alloc_at w.drew _) ?_ (hdrew.trans (Grow.alloc _ _))⟩
                  · simp only [A.conc, upd_new, Cp.conc, Nat.sub_zero]; exact hrun
                  · refine ⟨(Builtin.zeroCells z.cells (grownCap w m 0 e - m)).toList, by rw [← hob]; simp, ?_⟩
                    rw [List.length_append, hnl, Array.length_toList, size_zeroCells, hzs, ← Nat.add_mul]
                    congr 1; omega
                · cases h
              · cases h
            · rename_i b off n c
              split at h
              · rename_i olds hco
                obtain ⟨hol, how, hoc⟩ := cut_ok hR hco
                split at h
                · rename_i hc
                  split at h
                  · rename_i H1 hp
                    cases h
                    have hrun := run_append_grow (P := P) w T ty e i z hu hi hz ⟨(r b).1, off, none⟩ n c (concL r olds) hol hoc ⟨(r bx).1, ox, none⟩ m (cx.conc (r bx).2) (concL r news) hnl hnc hc.1 hc.2.1 (growslice_fits hc.1 hc.2.2)
                    have hge := grownCap_ge w (n + m) c e
                    generalize hob : Obj.cells _ _ _ = ob at hrun
                    refine ⟨w.drew.alloc ob, upd r H.n (w.heap.size, grownCap w (n + m) c e), ?_, Post.alloc (n := w.heap.size) (m := grownCap w (n + m) c e) hR hp (wfL_append how hnw) (Nat.le_refl _) (heap_alloc_at w.drew _) ?_ (hdrew.trans (Grow.alloc _ _))⟩
                    · simp only [A.conc, upd_new, Cp.conc, Nat.sub_zero]; exact hrun
                    · refine ⟨(Builtin.zeroCells z.cells (grownCap w (n + m) c e - (n + m))).toList, by rw [← hob]; simp [concL_append], ?_⟩
                      rw [List.length_append, concL_append, List.length_append, hnl, hol, Array.length_toList, size_zeroCells, hzs, ← Nat.add_mul, ← Nat.add_mul]
                      congr 1; omega
                  · cases h
                · cases h
              · cases h
            · rename_i b n
              split at h
              · rename_i l e' sz hg
                split at h
                · rename_i hc
                  obtain ⟨rfl, rfl, hll, hlo, hone, h63, h48⟩ := hc
                  split at h
                  · rename_i H1 hd
                    split at h
                    · rename_i H2 hp
                      cases h
                      obtain ⟨ob, hat, rest, rfl, hlen⟩ := hR.at_ _ _ hg
                      have hlc : (concL r l).length = n * i.size := by rw [← hll]; simp [concL_map]
                      have hPd := Post.del (W := W) hR hd
                      have hn1 := (AH.del_spec hd).1
                      have hbn : b < H.n := AH.get_lt hg
                      have hwl : wfL H1.n (l ++ news) = true := by rw [hn1]; exact wfL_append (hR.wf _ _ hg) hnw
                      by_cases hroom : n + m ≤ (r b).2
                      · have hfit : n * i.size + (concL r news).length ≤ ((concL r l ++ rest).toArray).size := by
                          rw [List.size_toArray, hlen, hnl, ← Nat.add_mul]; exact Nat.mul_le_mul_right _ hroom
                        have hrun := run_append_room (P := P) w T ty e' i hu hi (r b).1 n (r b).2 _ hat ⟨(r bx).1, ox, none⟩ m (cx.conc (r bx).2) (concL r news) hnl hnc (allOne_ok hone r) hroom hfit
                        generalize hnew : List.toArray (α := Value) (_ ++ concL r news ++ _) = arr at hrun
                        refine ⟨w.setRow (r b).1 arr, upd r H1.n ((r b).1, (r b).2), ?_, hPd.trans (Post.more (n := (r b).1) (m := (r b).2) hPd.rel hp hwl (.inr ⟨b, hlo, by omega, rfl⟩) (fun j o hj hc => ?_) (setRow_heap w _ _ _ _ _ hat) ?_ (fun k _ hk => setRow_other w _ k _ hk) rfl rfl rfl (by simp))⟩
                        · simp only [A.conc, upd_new, Cp.conc, Nat.sub_zero]; exact hrun
                        · have hj' := (AH.del_spec hd).2 j
                          rw [hj] at hj'
                          split at hj'
                          · cases hj'
                          · rename_i hne; exact hne (hR.inj j b _ _ hj'.symm hg hc)
                        · refine ⟨(concL r l ++ rest).drop (n * i.size + (concL r news).length), ?_, ?_⟩
                          · rw [← hnew, concL_append]
                            congr 2
                            simp only [List.take_append, hlc]
                            simp [List.take_of_length_le (Nat.le_of_eq hlc)]
                          · rw [concL_append, List.length_append, List.length_append, List.length_drop, hlen, hlc, hnl, ← Nat.add_mul]
                            have := Nat.mul_le_mul_right i.size hroom
                            omega
                      · have hg' : (r b).2 < n + m := by omega
                        have hold : ∀ j v, (concL r l)[j]? = some v → w.cell? ((⟨(r b).1, 0, none⟩ : Addr).add j) = some v := fun j v hj => by
                          rw [concL_map, List.getElem?_map] at hj
                          cases hx : l[j]? with
                          | none => rw [hx] at hj; cases hj
                          | some a => rw [hx] at hj; cases hj; rw [Addr.add_mk]; exact cellsAt_ok hR (by unfold cellsAt; rw [hg]) (by simpa using hx)
                        have hrun := run_append_grow (P := P) w T ty e' i z hu hi hz ⟨(r b).1, 0, none⟩ n (r b).2 (concL r l) hlc hold ⟨(r bx).1, ox, none⟩ m (cx.conc (r bx).2) (concL r news) hnl hnc hg' h63 (growslice_fits hg' h48)
                        have hge := grownCap_ge w (n + m) (r b).2 e'
                        generalize hob : Obj.cells _ _ _ = ob at hrun
                        refine ⟨w.drew.alloc ob, upd r H1.n (w.heap.size, grownCap w (n + m) (r b).2 e'), ?_, hPd.trans (Post.alloc (n := w.heap.size) (m := grownCap w (n + m) (r b).2 e') hPd.rel hp hwl (Nat.le_refl _) (heap_alloc_at w.drew _) ?_ (hdrew.trans (Grow.alloc _ _)))⟩
                        · simp only [A.conc, upd_new, Cp.conc, Nat.sub_zero]; exact hrun
                        · refine ⟨(Builtin.zeroCells z.cells (grownCap w (n + m) (r b).2 e' - (n + m))).toList, by rw [← hob]; simp [concL_append], ?_⟩
                          rw [List.length_append, concL_append, List.length_append, hnl, hlc, Array.length_toList, size_zeroCells, hzs, ← Nat.add_mul, ← Nat.add_mul]
                          congr 1; omega
                    · cases h
                  · cases h
                · cases h
              · cases h
            · cases h
          · cases h
        · cases h
      · cases h
    · cases h
  · cases h
end Go.Den
