/-
  A verified executor, part 7: maps. Own work. It is generic: no program is named.
-/
import Derived.Test.YtagndjglhlpljaaGreatOps5
import Derived.WideLaws
namespace Go.Den
open Go.RowKit (Below)

/-- a key or a value of a map: plain -/
def plainOf : A → Option Value
  | .lit v => some v
  | .agg l => (match litsOf l with | some vs => some (.agg vs.toArray) | none => none)
  | _ => none
theorem plainOf_ok {a : A} {v : Value} (h : plainOf a = some v) (r : Nat → Nat × Nat) : a.conc r = v := by
  unfold plainOf at h
  split at h
  · cases h; rfl
  · split at h
    · rename_i vs hv; cases h; simp only [A.conc, litsOf_ok hv r]
    · cases h
  · cases h

section
variable {P : Program}
def lookRest (key elem : TypeId) (es : Array MapEntry) (index : Value) (ok : Bool) : Sem Value := do
  Instr.checkKey es.isEmpty 10000 key index
  let (v, o) ← match ← Instr.findKey key index es.toList with
    | some (_, v) => pure (v, true)
    | none => pure (← zeroValue elem, false)
  pure (if ok then .tuple #[v, .bool o] else v)
theorem run_look {T key elem : TypeId} (hu : P.underlying T = some (.map key elem)) {b : Nat} {es : Array MapEntry} {c : Nat} {w : World} (hb : w.heap[b]? = some (.map es c)) (k : Value) (ok : Bool) :
    (Instr.lookup T (.map (some b)) k ok).run P w = (lookRest key elem es k ok).run P w := by
  unfold Instr.lookup lookRest
  simp [run_underlying hu, run_getObj_map w b es c hb]
  rfl
theorem run_look_nil {T key elem : TypeId} (hu : P.underlying T = some (.map key elem)) {w : World} (k : Value) (ok : Bool) :
    (Instr.lookup T (.map none) k ok).run P w = (lookRest key elem #[] k ok).run P w := by
  unfold Instr.lookup lookRest
  simp [run_underlying hu]
  rfl

/-- plain values alone -/
def ofP : Value → A
  | .tuple vs => .tup (litL vs.toList)
  | v => ofV v
theorem ofP_conc (r : Nat → Nat × Nat) (v : Value) : (ofP v).conc r = v := by
  unfold ofP
  split
  · simp [A.conc, concL_lit]
  · exact ofV_conc r _
def aLook (P : Program) (T : TypeId) (x k : A) (ok : Bool) (H : AH) : Option A :=
  match P.underlying T, plainOf k with
  | some (.map key elem), some kv => (match (match x with
      | .mp b => (match H.get b with | some (.map es _) => some es | _ => none)
      | .lit (.map none) => some #[]
      | _ => none) with
    | some es => (match evalPure P (lookRest key elem es kv ok) with
      | some v => some (ofP v)
      | none => none)
    | none => none)
  | _, _ => none
theorem aLook_ok {T : TypeId} {x k a : A} {ok : Bool} {r : Nat → Nat × Nat} {H : AH} {w : World} (h : aLook P T x k ok H = some a) (hR : Rel r H w) : (Instr.lookup T (x.conc r) (k.conc r) ok).run P w = .ok (a.conc r) w := by
  unfold aLook at h
  split at h
  · rename_i key elem kv hu hk
    rw [plainOf_ok hk r]
    split at h
    · rename_i es hes
      split at h
      · rename_i v hv
        cases h
        rw [ofP_conc]
        split at hes
        · rename_i b
          split at hes
          · rename_i hg
            cases hes
            obtain ⟨ob, hat, rfl⟩ := hR.at_ _ _ hg
            simp only [A.conc]
            rw [run_look hu hat]
            exact evalPure_run _ hv w
          · cases hes
        · cases hes
          simp only [A.conc]
          rw [run_look_nil hu]
          exact evalPure_run _ hv w
        · cases hes
      · cases h
    · cases h
  · cases h

/-- where a key is, if it is a key -/
def findRest (key : TypeId) (es : Array MapEntry) (k : Value) : Sem (Option (Nat × Value)) := do
  Instr.checkKey false 10000 key k
  Instr.findKey key k es.toList
def aUpd (P : Program) (W : Nat → Bool) (T : TypeId) (m k v : A) (H : AH) : Option AH :=
  match P.underlying T, m, plainOf k, plainOf v with
  | some (.map key _), .mp b, some kv, some vv => (match W b, H.get b with
    | true, some (.map es c) => (match evalPure P (findRest key es kv) with
      | some none => H.set b (.map (es.push { key := kv, val := vv, born := c }) (c + 1))
      | some (some (i, _)) => (match Instr.sameBits 10000 (((es[i]?).map (·.key)).getD kv) kv with
        | true => H.set b (.map (es.modify i fun e => { e with key := kv, val := vv }) c)
        | false => none)
      | none => none)
    | _, _ => none)
  | _, _, _, _ => none
theorem evalPure_bind_some {α β : Type} {s : Sem α} {f : α → Sem β} {b : β} (h : evalPure P (s >>= f) = some b) : ∃ a, evalPure P s = some a ∧ evalPure P (f a) = some b := by
  rw [evalPure_bind] at h
  cases hs : evalPure P s with
  | none => rw [hs] at h; cases h
  | some a => rw [hs] at h; exact ⟨a, rfl, h⟩
theorem aUpd_ok {W : Nat → Bool} {T : TypeId} {m k v : A} {r : Nat → Nat × Nat} {H H' : AH} {w : World} (h : aUpd P W T m k v H = some H') (hR : Rel r H w) :
    ∃ w', (Instr.mapUpdate T (m.conc r) (k.conc r) (v.conc r)).run P w = .ok () w' ∧ Post W r H w r H' w' := by
  unfold aUpd at h
  split at h
  · rename_i key elem b kv vv hu hk hv
    rw [plainOf_ok hk r, plainOf_ok hv r]
    split at h
    · rename_i es c hlo hg
      obtain ⟨ob, hat, rfl⟩ := hR.at_ _ _ hg
      have hlt : (r b).1 < w.heap.size := (Array.getElem?_eq_some_iff.1 hat).1
      have fin : ∀ (es' : Array MapEntry) (c' : Nat), H.set b (.map es' c') = some H' → Post W r H w r H' { w with heap := w.heap.setIfInBounds (r b).1 (.map es' c') } := fun es' c' hs => by
        refine Post.turn hR hg hs hlo rfl (ob := .map es' c') ?_ rfl (fun k hk => ?_) rfl rfl rfl (by simp)
        · show (w.heap.setIfInBounds (r b).1 _)[(r b).1]? = _
          simp [hlt]
        · show (w.heap.setIfInBounds (r b).1 _)[k]? = _
          rw [Array.getElem?_setIfInBounds_ne (Ne.symm hk)]
      have hset : ∀ o', (setObj (r b).1 o').run P w = .ok () { w with heap := w.heap.setIfInBounds (r b).1 o' } := fun o' => by
        simp [setObj, Sem.run, hat]
      split at h
      · rename_i hf
        obtain ⟨u, h1, h2⟩ := evalPure_bind_some hf
        refine ⟨_, ?_, fin _ _ h⟩
        unfold Instr.mapUpdate
        simp [run_underlying hu, A.conc, run_getObj_map w _ es c hat, evalPure_run _ h1 w, evalPure_run _ h2 w, hset]
      · rename_i i vo hf
        obtain ⟨u, h1, h2⟩ := evalPure_bind_some hf
        split at h
        · rename_i hsb
          refine ⟨_, ?_, fin _ _ h⟩
          unfold Instr.mapUpdate
          simp [run_underlying hu, A.conc, run_getObj_map w _ es c hat, evalPure_run _ h1 w, evalPure_run _ h2 w, hset, Instr.keyThatStays, hsb]
        · cases h
      · cases h
    · cases h
  · cases h
end
end Go.Den
