/-
  A denotation of the model's code as a predicate transformer over PARTIAL frames (association lists of slots), and its soundness for 'Code.wp' and 'Calls'. Own work. It is generic: no program is named.
-/
import Derived.Calls
import Derived.CallsIn
import Derived.Deep.Quiet
import Derived.Below
import Derived.KernelRfl
import Derived.WalkKit
import Derived.Laws.MakeOwn
import Derived.Test.YtagndjglhlpljaaGreatDraw
namespace Go.Den
open Go.RowKit (Below)

/-! ### Typed reads -/
structure Sl where
  a : Option Addr
  n : Nat
  c : Nat
abbrev Sl.val (s : Sl) : Value := .slice s.a s.n s.c
/-- a function value that is not nil -/
structure Fv where
  fn : Fn
  first : Array Value
  cap : Array Value
abbrev Fv.val (f : Fv) : Value := .func f.fn f.first f.cap
/-- a function value, nil or not -/
inductive FV where
  | nil
  | fn (f : Fv)
def FV.val : FV → Value
  | .nil => .nilFunc
  | .fn f => .func f.fn f.first f.cap
def isFnV : Value → Bool
  | .func _ _ _ => true
  | .nilFunc => true
  | _ => false
def isNilV : Value → Bool
  | .nilFunc => true
  | _ => false

inductive CK where
  | int (k : IntKind) | bool | string | slice | ptr | map | func

/-- there is a value of this kind with .. -/
def Ex : CK → (Value → Prop) → Prop
  | .int k, p => ∃ x : Int, p (.int k x)
  | .bool, p => ∃ b : Bool, p (.bool b)
  | .string, p => ∃ s : ByteArray, p (.string s)
  | .slice, p => ∃ s : Sl, p (.slice s.a s.n s.c)
  | .ptr, p => ∃ a : Option Addr, p (.pointer a)
  | .map, p => ∃ r : Option Nat, p (.map r)
  | .func, p => ∃ f : FV, p f.val

theorem Ex.out {k : CK} {p : Value → Prop} (h : Ex k p) : ∃ v, p v ∧ v.oneCell' = true := by
  cases k <;> obtain ⟨x, hx⟩ := h <;> first | exact ⟨_, hx, rfl⟩ | (cases x <;> exact ⟨_, hx, rfl⟩)
theorem Ex.mono {k : CK} {p q : Value → Prop} (hpq : ∀ v, p v → q v) (h : Ex k p) : Ex k q := by
  cases k <;> obtain ⟨x, hx⟩ := h <;> exact ⟨x, hpq _ hx⟩

def ExL : List CK → (List Value → Prop) → Prop
  | [], p => p []
  | k :: ks, p => Ex k fun v => ExL ks fun vs => p (v :: vs)
theorem ExL.out {ks : List CK} : ∀ {p : List Value → Prop}, ExL ks p → ∃ vs, p vs ∧ vs.length = ks.length := by
  induction ks with
  | nil => exact fun h => ⟨[], h, rfl⟩
  | cons k ks ih =>
    intro p h
    obtain ⟨v, h, _⟩ := Ex.out h
    obtain ⟨vs, h, hl⟩ := ih h
    exact ⟨v :: vs, h, by simp [hl]⟩
theorem ExL.mono {ks : List CK} : ∀ {p q : List Value → Prop}, (∀ v, p v → q v) → ExL ks p → ExL ks q := by
  induction ks with
  | nil => exact fun hpq h => hpq _ h
  | cons k ks ih => exact fun hpq h => Ex.mono (fun v hv => ih (fun vs hvs => hpq _ hvs) hv) h

def ckOf (P : Program) (T : TypeId) : Option CK :=
  match P.underlying T with
  | some .bool => some .bool
  | some (.int k) => some (.int k)
  | some .string => some .string
  | some (.slice _) => some .slice
  | some (.pointer _) => some .ptr
  | some (.map _ _) => some .map
  | some (.func _ _ _) => some .func
  | _ => none

def appendAll : List (Option (List CK)) → Option (List CK)
  | [] => some []
  | none :: _ => none
  | some l :: r => match appendAll r with | some m => some (l ++ m) | none => none
def replicateL : Nat → List CK → List CK
  | 0, _ => []
  | n + 1, l => l ++ replicateL n l

/-- the cells of a type (nothing is trusted of it) -/
def flat (P : Program) : Nat → TypeId → Option (List CK)
  | 0, _ => none
  | f + 1, T => match P.underlying T with
    | some (.struct fs) => appendAll (fs.toList.map fun x => flat P f x.type)
    | some (.array n e) => match flat P f e with | some l => some (replicateL n l) | none => none
    | _ => match ckOf P T with | some k => some [k] | none => none

def isAggB (P : Program) (T : TypeId) : Bool :=
  match P.underlying T with
  | some (.struct _) => true
  | some (.array _ _) => true
  | _ => false

/-- cells from number i on -/
def RdL (w : World) (ad : Addr) : Nat → List CK → (List Value → Prop) → Prop
  | _, [], p => p []
  | i, k :: ks, p => Ex k fun v => w.cell? (ad.add i) = some v ∧ RdL w ad (i + 1) ks fun vs => p (v :: vs)

theorem RdL.out {w : World} {ad : Addr} : ∀ {ks : List CK} {i : Nat} {p : List Value → Prop}, RdL w ad i ks p →
    ∃ vs, p vs ∧ vs.length = ks.length ∧ ∀ j v, vs[j]? = some v → w.cell? (ad.add (i + j)) = some v := by
  intro ks
  induction ks with
  | nil => exact fun h => ⟨[], h, rfl, fun j v h => by simp at h⟩
  | cons k ks ih =>
    intro i p h
    obtain ⟨v, ⟨hc, h⟩, _⟩ := Ex.out h
    obtain ⟨vs, h, hl, hcs⟩ := ih h
    refine ⟨v :: vs, h, by simp [hl], fun j u hj => ?_⟩
    cases j with
    | zero => simp at hj; subst hj; simpa using hc
    | succ j => have := hcs j u (by simpa using hj); rwa [show i + (j + 1) = i + 1 + j by omega]
theorem RdL.mono {w : World} {ad : Addr} : ∀ {ks : List CK} {i : Nat} {p q : List Value → Prop}, (∀ v, p v → q v) → RdL w ad i ks p → RdL w ad i ks q := by
  intro ks
  induction ks with
  | nil => exact fun hpq h => hpq _ h
  | cons k ks ih => exact fun hpq h => Ex.mono (fun v hv => ⟨hv.1, ih (fun vs hvs => hpq _ hvs) hv.2⟩) h

/-- a variable of type T at 'ad' is read -/
def RdV (P : Program) (w : World) (T : TypeId) (ad : Addr) (p : Value → Prop) : Prop :=
  match isAggB P T with
  | true => match flat P 8 T with
    | some ks => match Nat.beq ks.length (P.cellsOf T) with
      | true => RdL w ad 0 ks fun vs => p (.agg vs.toArray)
      | false => False
    | none => False
  | false => match ckOf P T with
    | some k => Ex k fun v => w.cell? ad = some v ∧ p v
    | none => False

theorem RdV.mono {P : Program} {w : World} {T : TypeId} {ad : Addr} {p q : Value → Prop} (hpq : ∀ v, p v → q v) (h : RdV P w T ad p) : RdV P w T ad q := by
  unfold RdV at *
  split at h
  · split at h
    · split at h
      · exact RdL.mono (fun _ => hpq _) h
      · exact h
    · exact h
  · split at h
    · exact Ex.mono (fun v hv => ⟨hv.1, hpq _ hv.2⟩) h
    · exact h

theorem ckOf_some {P : Program} {T : TypeId} {k : CK} (h : ckOf P T = some k) : ∃ d, P.underlying T = some d ∧ isAggB P T = false := by
  unfold ckOf at h
  unfold isAggB
  split at h <;> simp_all
theorem run_isAgg {P : Program} {T : TypeId} {d : TypeDesc} (h : P.underlying T = some d) (w : World) : (isAgg T).run P w = .ok (isAggB P T) w := by
  unfold isAgg isAggB
  rw [h]
  simp only [Sem.run_bind, run_underlying h, Result.andThen_ok]
  cases d <;> rfl
theorem isAggB_some {P : Program} {T : TypeId} (h : isAggB P T = true) : ∃ d, P.underlying T = some d := by
  unfold isAggB at h
  split at h <;> simp_all
theorem info_of_underlying {P : Program} {T : TypeId} {d : TypeDesc} (h : P.underlying T = some d) : ∃ i, P.info? T = some i := by
  unfold Program.underlying at h
  split at h
  · exact ⟨_, by assumption⟩
  · exact ⟨_, by assumption⟩
  · cases h
theorem run_sizeOf' {P : Program} {T : TypeId} {d : TypeDesc} (h : P.underlying T = some d) (w : World) : (sizeOf T).run P w = .ok (P.cellsOf T) w := by
  obtain ⟨i, hi⟩ := info_of_underlying h
  simp [sizeOf, typeInfo, hi, Program.cellsOf]

/-- What is read is what the model's load yields. -/
theorem RdV.run {P : Program} {w : World} {T : TypeId} {ad : Addr} {p : Value → Prop} (h : RdV P w T ad p) : ∃ v, (loadVar T ad).run P w = .ok v w ∧ p v := by
  unfold RdV at h
  split at h
  · rename_i hagg
    obtain ⟨d, hd⟩ := isAggB_some hagg
    split at h
    · rename_i ks _
      split at h
      · rename_i hl
        obtain ⟨vs, hp, hlen, hcs⟩ := RdL.out h
        refine ⟨_, ?_, hp⟩
        have hl' : vs.length = P.cellsOf T := by rw [hlen]; exact Nat.eq_of_beq_eq_true hl
        unfold loadVar
        simp only [Sem.run_bind, run_isAgg hd, hagg, Result.andThen_ok, if_true, run_sizeOf' hd]
        rw [← hl', run_loadCells_list w ad vs (fun j v hj => by simpa using hcs j v hj)]
        simp
      · exact h.elim
    · exact h.elim
  · rename_i hagg
    split at h
    · rename_i k hk
      obtain ⟨d, hd, _⟩ := ckOf_some hk
      obtain ⟨v, ⟨hc, hp⟩, _⟩ := Ex.out h
      refine ⟨v, ?_, hp⟩
      unfold loadVar
      simp [run_isAgg hd, hagg, hc]
    · exact h.elim

/-! ### Writes -/
def valCells : Value → List Value
  | .agg cs => cs.toList
  | v => [v]
theorem valCells_eq (v : Value) : v.cells.toList = valCells v := by cases v <;> rfl

/-- one cell is written -/
def wr (w : World) (ad : Addr) (v : Value) (k : World → Prop) : Prop :=
  (∃ u, w.cell? ad = some u) ∧ w.frozen? ad = false ∧ k (w.setCell ad v)

def WrL (ad : Addr) (k : World → Prop) : Nat → List Value → World → Prop
  | _, [], w => k w
  | i, v :: vs, w => match v.oneCell' with
    | true => wr w (ad.add i) v fun w' => WrL ad k (i + 1) vs w'
    | false => False

def WrV (P : Program) (T : TypeId) (ad : Addr) (v : Value) (k : World → Prop) (w : World) : Prop :=
  match P.underlying T with
  | some _ => match Nat.beq (valCells v).length (P.cellsOf T) with
    | true => WrL ad k 0 (valCells v) w
    | false => False
  | none => False

theorem WrL.run {P : Program} {ad : Addr} {k : World → Prop} : ∀ {vs : List Value} {i : Nat} {w : World}, WrL ad k i vs w →
    ∃ w', (storeCells ad vs i).run P w = .ok () w' ∧ k w' := by
  intro vs
  induction vs with
  | nil => exact fun h => ⟨_, rfl, h⟩
  | cons v vs ih =>
    intro i w h
    unfold WrL at h
    split at h
    · rename_i ho
      obtain ⟨⟨u, hu⟩, hf, h⟩ := h
      obtain ⟨w', hr, hk⟩ := ih h
      refine ⟨w', ?_, hk⟩
      unfold storeCells
      simp only [Sem.run_bind, run_store P w (ad.add i) v _ ho, hu, hf, Bool.false_eq_true, if_false, Result.andThen_ok, hr]
    · exact h.elim
theorem WrL.mono {ad : Addr} {k k' : World → Prop} (hk : ∀ w, k w → k' w) : ∀ {vs : List Value} {i : Nat} {w : World}, WrL ad k i vs w → WrL ad k' i vs w := by
  intro vs
  induction vs with
  | nil => exact fun h => hk _ h
  | cons v vs ih =>
    intro i w h
    unfold WrL at h ⊢
    split at h
    · exact ⟨h.1, h.2.1, ih h.2.2⟩
    · exact h
theorem WrV.run {P : Program} {T : TypeId} {ad : Addr} {v : Value} {k : World → Prop} {w : World} (h : WrV P T ad v k w) :
    ∃ w', (storeVar T ad v).run P w = .ok () w' ∧ k w' := by
  unfold WrV at h
  split at h
  · rename_i d hd
    split at h
    · rename_i hl
      obtain ⟨w', hr, hk⟩ := WrL.run (P := P) h
      refine ⟨w', ?_, hk⟩
      have hs : v.cells.size = P.cellsOf T := by
        have := Nat.eq_of_beq_eq_true hl
        rw [← valCells_eq] at this
        simpa using this
      unfold storeVar
      simp [run_sizeOf' hd, hs, valCells_eq, hr]
    · exact h.elim
  · exact h.elim
theorem WrV.mono {P : Program} {T : TypeId} {ad : Addr} {v : Value} {k k' : World → Prop} (hk : ∀ w, k w → k' w) {w : World} (h : WrV P T ad v k w) : WrV P T ad v k' w := by
  unfold WrV at *
  split at h
  · split at h
    · exact WrL.mono hk h
    · exact h
  · exact h

/-! ### Frames known in part -/
abbrev Env := List (Nat × Value)
def Env.get : Env → Nat → Option Value
  | [], _ => none
  | (j, v) :: r, i => match Nat.beq i j with
    | true => some v
    | false => Env.get r i
def known (E : Env) : Operand → Bool
  | .tmp t => match E.get t with | some _ => true | none => false
  | _ => true
def ev (E : Env) : Operand → Value
  | .tmp t => match E.get t with | some v => v | none => undef
  | .const v => v
  | .global g => .pointer (some ⟨g, 0, none⟩)
  | .func f => .func (.func f) #[] #[]
def allKnown (E : Env) : List Operand → Bool
  | [] => true
  | x :: r => match known E x with | true => allKnown E r | false => false

structure Fits (N : Nat) (ds : List Deferred) (E : Env) (a : Act) : Prop where
  defers : a.defers = ds
  size : a.tmps.size = N
  val : ∀ i v, E.get i = some v → a.tmps[i]? = some v

section
variable {N : Nat} {ds : List Deferred} {E : Env} {a : Act}
theorem Fits.ev (h : Fits N ds E a) {x : Operand} (hx : known E x = true) : a.eval x = Den.ev E x := by
  cases x with
  | tmp t =>
    simp only [known] at hx
    simp only [Den.ev, Act.eval]
    cases hv : E.get t with
    | some v =>
      have := h.val t v hv
      simp [Array.getD_eq_getD_getElem?, this]
    | none => rw [hv] at hx; cases hx
  | const v => rfl
  | global g => rfl
  | func f => rfl
theorem allKnown_mem {l : List Operand} (h : allKnown E l = true) : ∀ x ∈ l, known E x = true := by
  induction l with
  | nil => simp
  | cons y l ih =>
    unfold allKnown at h
    split at h
    · intro x hx
      rcases List.mem_cons.1 hx with rfl | hx
      · assumption
      · exact ih h x hx
    · cases h
theorem Fits.put (h : Fits N ds E a) {d : Nat} (hd : d < N) (v : Value) : Fits N ds ((d, v) :: E) (a.put (some d) v) := by
  refine ⟨h.defers, by simp [Act.put, h.size], fun i u hu => ?_⟩
  unfold Env.get at hu
  split at hu
  · rename_i he
    have := Nat.eq_of_beq_eq_true he
    subst this
    cases hu
    simp [Act.put, h.size, hd]
  · rename_i he
    have hne : i ≠ d := fun hc => by subst hc; simp at he
    have := h.val i u hu
    simp [Act.put, Array.getElem?_setIfInBounds, this]
    intro hc; exact absurd hc.symm hne
end

/-- an operation's result goes into its slot -/
def putD (N : Nat) (dst : Option Nat) (v : Value) (E : Env) (K : Env → Prop) : Prop :=
  match dst with
  | none => K E
  | some d => match Nat.blt d N with
    | true => K ((d, v) :: E)
    | false => False
theorem putD_fits {N : Nat} {ds : List Deferred} {E : Env} {a : Act} {dst : Option Nat} {v : Value} {K : Env → Prop} (hf : Fits N ds E a) (h : putD N dst v E K) :
    ∃ E', Fits N ds E' (a.put dst v) ∧ K E' := by
  unfold putD at h
  split at h
  · exact ⟨E, hf, h⟩
  · split at h
    · rename_i hd
      exact ⟨_, hf.put (by simpa [Nat.blt_eq] using hd) v, h⟩
    · exact h.elim

/-! ### What looks at no memory -/
def evalPure (P : Program) {α : Type} : Sem α → Option α
  | .pure a => some a
  | .program k => evalPure P (k P)
  | .mark _ k => evalPure P k
  | _ => none
theorem evalPure_run {P : Program} {α : Type} (s : Sem α) : ∀ {a : α}, evalPure P s = some a → ∀ w, s.run P w = .ok a w := by
  induction s with
  | pure b => intro a h w; cases h; rfl
  | program k ih => exact fun h w => ih P h w
  | mark m k ih => exact fun h w => ih h w
  | _ => intro a h; cases h

/-- a part of the model, carried out -/
def semV (P : Program) {α : Type} (s : Sem α) (w : World) (K : α → World → Prop) : Prop :=
  match s.run P w with
  | .ok v w' => K v w'
  | .halt _ _ => False
theorem semV_out {P : Program} {α : Type} {s : Sem α} {w : World} {K : α → World → Prop} (h : semV P s w K) : ∃ v w', s.run P w = .ok v w' ∧ K v w' := by
  unfold semV at h
  split at h
  · exact ⟨_, _, by assumption, h⟩
  · exact h.elim
theorem semV_mk {P : Program} {α : Type} {s : Sem α} {w : World} {K : α → World → Prop} {v : α} {w' : World} (h : s.run P w = .ok v w') (hk : K v w') : semV P s w K := by
  unfold semV; rw [h]; exact hk

/-- .. with a value of a type -/
def semT (P : Program) (Ex : (Value → Prop) → Prop) (s : Sem Value) (w : World) (K : Value → World → Prop) : Prop :=
  semV P s w fun v w' => Ex fun u => v = u ∧ K u w'

def getSome {α : Type} (p : Option α) (K : α → Prop) : Prop :=
  match p with
  | some a => K a
  | none => False
theorem getSome_out {α : Type} {p : Option α} {K : α → Prop} (h : getSome p K) : ∃ a, p = some a ∧ K a := by
  cases p with
  | some a => exact ⟨a, rfl, h⟩
  | none => exact h.elim

/-! ### Calls -/
def Ex1 (P : Program) (T : TypeId) (p : Value → Prop) : Prop :=
  match isAggB P T with
  | true => match flat P 8 T with
    | some ks => ExL ks fun vs => p (.agg vs.toArray)
    | none => False
  | false => match ckOf P T with
    | some k => Ex k p
    | none => False
def ExTs (P : Program) : List TypeId → (List Value → Prop) → Prop
  | [], p => p []
  | T :: Ts, p => Ex1 P T fun v => ExTs P Ts fun vs => p (v :: vs)
def ExTy (P : Program) (T : TypeId) (p : Value → Prop) : Prop :=
  match P.underlying T with
  | some (.tuple ts) => ExTs P ts.toList fun vs => p (.tuple vs.toArray)
  | _ => Ex1 P T p
theorem Ex1.out {P : Program} {T : TypeId} {p : Value → Prop} (h : Ex1 P T p) : ∃ v, p v := by
  unfold Ex1 at h
  split at h
  · split at h
    · obtain ⟨vs, hp, _⟩ := ExL.out h; exact ⟨_, hp⟩
    · exact h.elim
  · split at h
    · obtain ⟨v, hp, _⟩ := Ex.out h; exact ⟨_, hp⟩
    · exact h.elim
theorem ExTs.out {P : Program} : ∀ {Ts : List TypeId} {p : List Value → Prop}, ExTs P Ts p → ∃ vs, p vs := by
  intro Ts
  induction Ts with
  | nil => exact fun h => ⟨[], h⟩
  | cons T Ts ih =>
    intro p h
    obtain ⟨v, h⟩ := Ex1.out h
    obtain ⟨vs, h⟩ := ih h
    exact ⟨_, h⟩
theorem ExTy.out {P : Program} {T : TypeId} {p : Value → Prop} (h : ExTy P T p) : ∃ v, p v := by
  unfold ExTy at h
  split at h
  · obtain ⟨vs, hp⟩ := ExTs.out h; exact ⟨_, hp⟩
  · exact Ex1.out h

/-- a call: what is asked of its ending -/
def callR (P : Program) (g : FuncId) (args : List Value) (w : World) (pan : List PanicEntry → World → Prop) (K : Value → World → Prop) : Prop :=
  Calls P g args.toArray w fun e w' => match e with
    | .returned v => K v w'
    | .panicked ch => pan ch w'
    | .outgrown => False
def hasBody (P : Program) (g : FuncId) (X : Prop) : Prop :=
  match P.funcs[g]? with
  | some fn => match fn.body with
    | some _ => X
    | none => False
  | none => False
/-- a call of a function value -/
def dynR (P : Program) (fn : Fn) (args : List Value) (w : World) (pan : List PanicEntry → World → Prop) (K : Value → World → Prop) : Prop :=
  match fn with
  | .func g => hasBody P g (callR P g args w pan K)
  | _ => False
def callV (P : Program) (v : Value) (args : List Value) (w : World) (pan : List PanicEntry → World → Prop) (K : Value → World → Prop) : Prop :=
  match v with
  | .func fn first captured => dynR P fn (first.toList ++ args ++ captured.toList) w pan K
  | _ => False

/-- what is asked of the program -/
structure OkP (P : Program) : Prop where
  names : ∀ (g : FuncId) (fn : Func), P.funcs[g]? = some fn → (fn.name == "runtime.NumGoroutine") = false
  mixed : P.follows .mixedOrders = true

theorem run_callFunc' {P : Program} (hP : OkP P) {g : FuncId} {X : Prop} (h : hasBody P g X) (args : Array Value) (w : World) :
    (callFunc g args).run P w = .ok (.enter g args) w ∧ X := by
  unfold hasBody at h
  split at h
  · rename_i fn hfn
    split at h
    · rename_i c hc
      refine ⟨?_, h⟩
      unfold callFunc
      have hn := hP.names g fn hfn
      simp only [beq_eq_false_iff_ne, ne_eq] at hn
      simp [hfn, hn, hc]
    · exact h.elim
  · exact h.elim

/-! ### One operation -/
/-- the address of a cut slice -/
def slA (a : Option Addr) (l c size : Nat) : Option Addr := if c = l then a else a.map (·.add (l * size))

def sliceD (hi lo : Option Value) (n c : Nat) (K : Nat → Nat → Prop) : Prop :=
  match hi, lo with
  | none, none => K 0 n
  | some (.int _ h), none => 0 ≤ h ∧ h ≤ c ∧ K 0 h.toNat
  | none, some (.int _ l) => 0 ≤ l ∧ l ≤ n ∧ K l.toNat n
  | some (.int _ h), some (.int _ l) => 0 ≤ h ∧ h ≤ c ∧ 0 ≤ l ∧ l ≤ h ∧ K l.toNat h.toNat
  | _, _ => False
def evO (E : Env) : Option Operand → Option Value
  | none => none
  | some x => some (ev E x)

/-- an index into a written-out array -/
def casesJ (j : Int) (f : Nat → Prop) : Nat → Nat → Prop
  | _, 0 => True
  | i, n + 1 => (j = (i : Int) → f i) ∧ casesJ j f (i + 1) n

def bsem (b : Builtin) (ats : Array TypeId) (T : TypeId) (args : Array Value) : Option (Sem Value) :=
  match b with
  | .append => some (Builtin.append_ ats T args)
  | .copy => some (Builtin.copy_ ats T args)
  | .delete => some (Builtin.delete_ ats T args)
  | .cap => some (Builtin.cap_ ats T args)
  | .len => some (Builtin.len_ ats T args)
  | .max => some (Builtin.max_ ats T args)
  | .min => some (Builtin.min_ ats T args)
  | _ => none

def lenD (P : Program) (T : TypeId) (v : Value) (K : Value → Prop) (other : Prop) : Prop :=
  match P.underlying T with
  | some (.slice _) => (match v with | .slice _ n _ => K (.int .i64 n) | _ => False)
  | some .string => (match v with | .string s => K (.int .i64 s.size) | _ => False)
  | _ => other

def indexAddrD (P : Program) (T : TypeId) (x i : Value) (K : Value → Prop) : Prop :=
  match P.underlying T with
  | some (.slice e) => (match P.underlying e with
    | some _ => (match x, i with
      | .slice a n _, .int _ j => 0 ≤ j ∧ j < n ∧ getSome a fun ad => K (.pointer (some (ad.add (j.toNat * P.cellsOf e))))
      | _, _ => False)
    | none => False)
  | some (.array len e) => (match P.underlying e with
    | some _ => (match x, i with
      | .pointer p, .int _ j => 0 ≤ j ∧ j < len ∧ getSome p fun ad => K (.pointer (some (ad.add (j.toNat * P.cellsOf e))))
      | _, _ => False)
    | none => False)
  | _ => False

def partD (P : Program) (T : TypeId) (cs : Array Value) (off : Nat) : Option Value := evalPure P (part T cs off)

def indexD (P : Program) (T : TypeId) (x i : Value) (K : Value → Prop) : Prop :=
  match P.underlying T with
  | some .string => (match x, i with
    | .string s, .int _ j => 0 ≤ j ∧ ∃ b, s[j.toNat]? = some b ∧ K (.int .u8 b.toNat)
    | _, _ => False)
  | some (.array len e) => (match P.underlying e with
    | some _ => (match x, i with
      | .agg cs, .int _ j => 0 ≤ j ∧ j < len ∧ casesJ j (fun m => getSome (partD P e cs (m * P.cellsOf e)) K) 0 len
      | _, _ => False)
    | none => False)
  | _ => False

def ikEq (a b : IntKind) : Bool := decide (a = b)
theorem ikEq_eq {a b : IntKind} (h : ikEq a b = true) : a = b := of_decide_eq_true h

/-- structs of whole numbers, held against each other -/
def eqCells (P : Program) (xs ys : Array Value) : List Field → Option Bool
  | [] => some true
  | f :: r => match decide (f.name = "_") with
    | true => none
    | false => match P.underlying f.type with
      | some (.int _) => (match xs[f.offset]?, ys[f.offset]? with
        | some (.int k a), some (.int k' b) => (match ikEq k k' with
          | true => (match eqCells P xs ys r with
            | some t => some ((a == b) && t)
            | none => none)
          | false => none)
        | _, _ => none)
      | _ => none
def aggD (P : Program) (T : TypeId) (xs ys : Array Value) (K : Bool → Prop) : Prop :=
  match P.underlying T with
  | some (.struct fs) => (match P.stoodInHeld T with
    | false => (match P.eqGuardType P.depth T with
      | false => getSome (eqCells P xs ys fs.toList) K
      | true => False)
    | true => False)
  | _ => False

/-! ### New blocks -/
def ptrTo (n : Nat) : Value := .pointer (some ⟨n, 0, none⟩)
/-- the cells of a slice written out -/
def litCells (size n : Nat) (z : Array Value) (parts : List (Nat × Value)) : Option (Array Value) :=
  Instr.fill (fun i => some (i * size, size)) ((Array.range (n * size)).map (z[· % z.size]!)) parts
def mkOk (bytes : Nat) (x y : Int) : Prop := 0 ≤ x ∧ x ≤ y ∧ (bytes : Int) * y ≤ 281474976710656 ∧ y ≤ 9223372036854775807
instance (b : Nat) (x y : Int) : Decidable (mkOk b x y) := by unfold mkOk; infer_instance

def alF (P : Program) (ρ : Operand → Value) (op : Op) : Option (Obj × (Nat → Value)) :=
  match op with
  | .alloc T => (match P.info? T with
    | some i => (match i.zero with
      | some z => some (.cells z.cells T, ptrTo)
      | none => none)
    | none => none)
  | .box T x => some (.cells (ρ x).cells T, ptrTo)
  | .makeMap _ none => some (.map #[] 0, fun n => .map (some n))
  | .makeSlice T l c => (match P.underlying T with
    | some (.slice e) => (match P.info? e with
      | some i => (match i.zero with
        | some z => (match ρ l, ρ c with
          | .int _ x, .int _ y => if mkOk i.bytes x y then some (.cells (madeCells z.cells (y.toNat * i.size)) e, fun n => .slice (some ⟨n, 0, none⟩) x.toNat y.toNat) else none
          | _, _ => none)
        | none => none)
      | none => none)
    | _ => none)
  | .buildSlice T n ps => (match P.underlying T with
    | some (.slice e) => (match P.info? e with
      | some i => (match i.zero with
        | some z => (match Nat.ble (n * i.size) 16777216, Nat.beq (n * i.size) 0 with
          | true, false => (match litCells i.size n z.cells (ps.toList.map fun p => (p.1, ρ p.2)) with
            | some cs => some (.cells cs e, fun m => .slice (some ⟨m, 0, none⟩) n n)
            | none => none)
          | true, true => (match ps.toList with
            | [] => some (.cells #[] e, fun m => .slice (some ⟨m, 0, none⟩) n n)
            | _ :: _ => none)
          | _, _ => none)
        | none => none)
      | none => none)
    | _ => none)
  | _ => none
/-- the same, what it needs asked -/
def allocD (P : Program) (op : Op) (E : Env) (K : Obj → (Nat → Value) → Prop) : Prop :=
  match op with
  | .makeSlice T l c => (match P.underlying T with
    | some (.slice e) => (match P.info? e with
      | some i => (match i.zero with
        | some z => (match ev E l, ev E c with
          | .int _ x, .int _ y => mkOk i.bytes x y ∧ K (.cells (madeCells z.cells (y.toNat * i.size)) e) (fun n => .slice (some ⟨n, 0, none⟩) x.toNat y.toNat)
          | _, _ => False)
        | none => False)
      | none => False)
    | _ => False)
  | _ => (match alF P (ev E) op with
    | some (ob, ptr) => K ob ptr
    | none => False)

theorem allocD_out {P : Program} {op : Op} {E : Env} {K : Obj → (Nat → Value) → Prop} (h : allocD P op E K) : ∃ ob ptr, alF P (ev E) op = some (ob, ptr) ∧ K ob ptr := by
  unfold allocD at h
  split at h
  · split at h
    · rename_i he
      split at h
      · rename_i hi
        split at h
        · rename_i hz
          split at h
          · rename_i h1 h2
            refine ⟨_, _, ?_, h.2⟩
            unfold alF
            simp only [he, hi, hz, h1, h2]
            rw [if_pos h.1]
          · exact h.elim
        · exact h.elim
      · exact h.elim
    · exact h.elim
  · split at h
    · rename_i ha; exact ⟨_, _, ha, h⟩
    · exact h.elim

theorem alF_run {P : Program} {ρ : Operand → Value} {o : Oper} {ob : Obj} {ptr : Nat → Value} (h : alF P ρ o.op = some (ob, ptr)) (w : World) : (execOp ρ o).run P w = .ok (.value (ptr w.heap.size)) (w.alloc ob) := by
  obtain ⟨dst, op, type, pos, after, guard⟩ := o
  cases op <;> simp only [alF, reduceCtorEq] at h
  case alloc T =>
    split at h
    · rename_i i hi
      split at h
      · rename_i z hz
        cases h
        simp [execOp, Instr.alloc, zeroValue, typeInfo, hi, hz, newVar, newRow, ptrTo]
      · cases h
    · cases h
  case box T x => cases h; simp [execOp, Instr.box, newVar, newRow, ptrTo]
  case makeMap T r =>
    cases r with
    | none => simp only [Option.some.injEq, Prod.mk.injEq] at h; obtain ⟨rfl, rfl⟩ := h; simp [execOp, Instr.makeMap]
    | some r => simp at h
  case makeSlice T l c =>
    split at h
    · rename_i e he
      split at h
      · rename_i i hi
        split at h
        · rename_i z hz
          split at h
          · rename_i k1 x k2 y h1 h2
            split at h
            · rename_i hok
              cases h
              simp only [execOp, h1, h2]
              rw [Sem.run_bind, run_make w T e i z he hi hz k1 k2 x y hok.1 hok.2.1 hok.2.2.1 hok.2.2.2]
              rfl
            · cases h
          · cases h
        · cases h
      · cases h
    · cases h
  case buildSlice T n ps =>
    split at h
    · rename_i e he
      split at h
      · rename_i i hi
        split at h
        · rename_i z hz
          split at h
          · rename_i hle hne
            split at h
            · rename_i cs hcs
              cases h
              have hle : ¬ (16777216 < n * i.size) := by have := Nat.le_of_ble_eq_true hle; omega
              have hne : n * i.size ≠ 0 := fun hc => by rw [hc] at hne; cases hne
              unfold litCells at hcs
              simp only [execOp]
              rw [show (ps.map fun (i, x) => (i, ρ x)) = (ps.toList.map fun p => (p.1, ρ p.2)).toArray by apply Array.ext'; simp]
              simp [Instr.buildSlice, run_underlying he, sizeOf, typeInfo, hi, zeroValue, hz, hle, hne, hcs, newRow]
            · cases h
          · rename_i hle hne
            split at h
            · rename_i hps
              cases h
              have hne : n * i.size = 0 := Nat.eq_of_beq_eq_true hne
              have hps : ps = #[] := by apply Array.ext'; simpa using hps
              subst hps
              simp [execOp, Instr.buildSlice, run_underlying he, sizeOf, typeInfo, hi, hne, newRow, Instr.fill, Array.range_zero']
            · cases h
          · cases h
        · cases h
      · cases h
    · cases h

theorem alF_congr {P : Program} {ρ ρ' : Operand → Value} {op : Op} (h : ∀ x ∈ op.operands, ρ x = ρ' x) : alF P ρ op = alF P ρ' op := by
  cases op <;> simp only [Op.operands] at h <;> simp only [alF]
  case box T x => rw [h x (by simp)]
  case makeMap T r => cases r <;> rfl
  case makeSlice T l c => rw [h l (by simp), h c (by simp)]
  case buildSlice T n ps =>
    rw [show (ps.toList.map fun p => (p.1, ρ p.2)) = ps.toList.map fun p => (p.1, ρ' p.2) from List.map_congr_left fun p hp => by rw [h p.2 (by simp; exact ⟨p.1, by simpa using hp⟩)]]

/-- an operator on two values; 'other' where it is none of these -/
def binV (P : Program) (op : BinOp) (T : TypeId) (a b : Value) (K : Value → Prop) (other : Prop) : Prop :=
  match op, a, b with
  | .quo, .int k x, .int k' y => (match ikEq k k' with | true => y ≠ 0 ∧ K (.int k (k.wrap (x.tdiv y))) | false => False)
  | .rem, .int k x, .int k' y => (match ikEq k k' with | true => y ≠ 0 ∧ K (.int k (x.tmod y)) | false => False)
  | .shl, .int k x, .int _ y => 0 ≤ y ∧ K (.int k (k.wrap (x * 2 ^ (min y.toNat k.bits))))
  | .shr, .int k x, .int _ y => 0 ≤ y ∧ K (.int k (x.fdiv (2 ^ (min y.toNat k.bits))))
  | .eql, .agg xs, .agg ys => aggD P T xs ys fun r => K (.bool r)
  | .neq, .agg xs, .agg ys => aggD P T xs ys fun r => K (.bool !r)
  | .eql, .pointer p, .pointer none => (match P.underlying T with | some (.pointer _) => K (.bool p.isNone) | _ => False)
  | .neq, .pointer p, .pointer none => (match P.underlying T with | some (.pointer _) => K (.bool !p.isNone) | _ => False)
  | .eql, .slice p _ _, .slice none _ _ => (match P.underlying T with | some (.slice _) => K (.bool p.isNone) | _ => False)
  | .neq, .slice p _ _, .slice none _ _ => (match P.underlying T with | some (.slice _) => K (.bool !p.isNone) | _ => False)
  | .eql, .map p, .map none => (match P.underlying T with | some (.map _ _) => K (.bool p.isNone) | _ => False)
  | .neq, .map p, .map none => (match P.underlying T with | some (.map _ _) => K (.bool !p.isNone) | _ => False)
  | _, _, _ => other

/-- a function value held against nil -/
def nilOr (P : Program) (op : BinOp) (T : TypeId) (_x y : Operand) (a : Value) (K : Value → Prop) (other : Prop) : Prop :=
  match y with
  | .const .nilFunc => (match P.underlying T with
    | some (.func _ _ _) => (match op with
      | .eql => isFnV a = true ∧ K (.bool (isNilV a))
      | .neq => isFnV a = true ∧ K (.bool (!isNilV a))
      | _ => False)
    | _ => False)
  | _ => other

def denOp (P : Program) (o : Oper) (E : Env) (pan : List PanicEntry → World → Prop) (K : Value → World → Prop) (w : World) : Prop :=
  match allKnown E o.op.operands.toList with
  | false => False
  | true =>
  match o.op with
  | .load T x => (match ev E x with
    | .pointer p => getSome p fun ad => RdV P w T ad fun v => K v w
    | _ => False)
  | .store T x y => (match ev E x with
    | .pointer p => getSome p fun ad => WrV P T ad (ev E y) (fun w' => K undef w') w
    | _ => False)
  | .nilCheck x => (match ev E x with
    | .pointer p => getSome p fun ad => K (.pointer (some ad)) w
    | _ => False)
  | .indexAddr T x i => indexAddrD P T (ev E x) (ev E i) fun v => K v w
  | .index T x i => indexD P T (ev E x) (ev E i) fun v => K v w
  | .slice T x lo hi none => (match P.underlying T with
    | some (.slice e) => (match P.underlying e with
      | some _ => (match ev E x with
        | .slice a n c => sliceD (evO E hi) (evO E lo) n c fun l h => K (.slice (slA a l c (P.cellsOf e)) (h - l) (c - l)) w
        | _ => False)
      | none => False)
    | some .string => (match ev E x with
      | .string s => sliceD (evO E hi) (evO E lo) s.size s.size fun l h => K (.string (s.extract l h)) w
      | _ => False)
    | _ => False)
  | .alloc _ | .box _ _ | .makeSlice _ _ _ | .makeMap _ none | .buildSlice _ _ _ => allocD P o.op E fun ob ptr => K (ptr w.heap.size) (w.alloc ob)
  | .panic x => (match ev E x with
    | .iface T v => pan [{ v := .iface T v, recovered := false }] w
    | _ => False)
  | .call c => (match c.callee with
    | .value f => callV P (ev E f) (c.args.toList.map (ev E)) w pan fun v w' => ExTy P o.type fun u => v = u ∧ K u w'
    | .builtin b => (match b, c.argTypes.toList, c.args.toList with
      | .len, [T], [x] => lenD P T (ev E x) (fun v => K v w) (semT P (ExTy P o.type) (Builtin.len_ c.argTypes o.type #[ev E x]) w K)
      | _, _, _ => (match bsem b c.argTypes o.type (c.args.toList.map (ev E)).toArray with
        | some s => semT P (ExTy P o.type) s w K
        | none => False))
    | .invoke _ _ => False)
  | .lookup T x i ok => semT P (ExTy P o.type) (Instr.lookup T (ev E x) (ev E i) ok) w K
  | .mapUpdate T m k x => semV P (Instr.mapUpdate T (ev E m) (ev E k) (ev E x)) w fun _ w' => K undef w'
  | .insert T m k x => semV P (Instr.mapUpdate T (ev E m) (ev E k) (ev E x)) w fun _ w' => K undef w'
  | .range T x => semV P (Instr.range T (ev E x)) w K
  | .next it s => semV P (Instr.next (ev E it) s o.type) w K
  | .typeAssert x t u ok => semV P (Instr.typeAssert (ev E x) t u ok) w K
  | .binOp op T x y _ => nilOr P op T x y (ev E x) (fun v => K v w) <| binV P op T (ev E x) (ev E y) (fun v => K v w) (semV P (do eqGuard op T x y (ev E x) (ev E y); binOp op T (ev E x) (ev E y)) w K)
  | .makeFunc fn first captured => K (.func fn (first.toList.map (ev E)).toArray (captured.toList.map (ev E)).toArray) w
  | .move x => K (ev E x) w
  | .assign x => K (ev E x) w
  | .select _ _ => False
  | _ => (match evalPure P (execOp (ev E) o) with
    | some (.value v) => K v w
    | some .skip => K undef w
    | _ => False)

section
variable {P : Program} {o : Oper} {E : Env} {pan : List PanicEntry → World → Prop} {K : Value → World → Prop} {w : World}

theorem evO_eq (x : Option Operand) : x.map (ev E) = evO E x := by cases x <;> rfl

theorem run_sliceBound' {k : IntKind} {i : Int} {y : Nat} {code : BoundsCode} (h0 : 0 ≤ i) (h1 : i ≤ y) : (Instr.sliceBound (.int k i) y code).run P w = .ok i.toNat w := by
  simp [Instr.sliceBound, asIntOf, h0, h1]
theorem run_sliceBounds {hi lo : Option Value} {n c : Nat} {isS : Bool} {K : Nat → Nat → Prop} (h : sliceD hi lo n c K) :
    ∃ l e, (∀ w, (Instr.sliceBounds isS n c lo hi none).run P w = .ok (l, e, c) w) ∧ K l e := by
  unfold sliceD at h
  unfold Instr.sliceBounds
  split at h
  · exact ⟨_, _, fun w => by simp, h⟩
  · obtain ⟨h0, h1, h⟩ := h
    exact ⟨_, _, fun w => by simp [run_sliceBound' h0 h1], h⟩
  · obtain ⟨h0, h1, h⟩ := h
    exact ⟨_, _, fun w => by simp [run_sliceBound' h0 h1], h⟩
  · rename_i k1 hh k2 l
    obtain ⟨h0, h1, h2, h3, h⟩ := h
    have h3' : l ≤ (hh.toNat : Int) := by omega
    exact ⟨_, _, fun w => by simp [run_sliceBound' h0 h1, run_sliceBound' h2 h3'], h⟩
  · exact h.elim

theorem casesJ_out {j : Int} {f : Nat → Prop} : ∀ {n i : Nat}, casesJ j f i n → (i : Int) ≤ j → j < (i + n : Nat) → f j.toNat := by
  intro n
  induction n with
  | zero => intro i _ h1 h2; omega
  | succ n ih =>
    intro i h h1 h2
    by_cases e : j = i
    · have := h.1 e; rw [e]; simpa using this
    · exact ih h.2 (by omega) (by omega)

theorem eqCells_run {xs ys : Array Value} {d : Nat} : ∀ {fs : List Field} {r : Bool}, eqCells P xs ys fs = some r → ∀ w, (Op.eqFields (d + 1) xs ys fs).run P w = .ok r w := by
  intro fs
  induction fs with
  | nil => intro r h w; cases h; rfl
  | cons f fs ih =>
    intro r h w
    unfold eqCells at h
    split at h
    · cases h
    · rename_i hn
      have hn := of_decide_eq_false hn
      split at h
      · rename_i k0 hu
        split at h
        · rename_i k a k' b ha hb
          split at h
          · rename_i hk
            obtain rfl := ikEq_eq hk
            split at h
            · rename_i t ht
              cases h
              have hp : ∀ (zs : Array Value) (z : Value) (hz : zs[f.offset]? = some z), (part f.type zs f.offset).run P w = .ok z w := fun zs z hz => by
                have hag : isAggB P f.type = false := by simp [isAggB, hu]
                simp [part, run_isAgg hu, hag, hz]
              simp only [Op.eqFields, ne_eq, hn, not_false_eq_true, if_true, Sem.run_bind, hp xs _ ha, hp ys _ hb, Result.andThen_ok, run_equalIn_int w d f.type k k0 a b hu, Sem.run_ite]
              cases hab : (a == b) with
              | true => simp [ih ht w]
              | false => simp
            · cases h
          · cases h
        · cases h
      · cases h
theorem aggD_out {T : TypeId} {xs ys : Array Value} {K : Bool → Prop} (h : aggD P T xs ys K) :
    ∃ r, (∀ w, (Op.equalIn 10000 T (.agg xs) (.agg ys)).run P w = .ok r w) ∧ K r ∧ P.eqGuardType P.depth T = false := by
  unfold aggD at h
  split at h
  · rename_i fs hu
    split at h
    · rename_i hs
      split at h
      · rename_i hg
        obtain ⟨r, hr, hk⟩ := getSome_out h
        refine ⟨r, fun w => ?_, hk, hg⟩
        have hf : P.fieldsOf T = fs := by simp [Program.fieldsOf, hu]
        rw [run_equalIn_struct w 9999 T xs ys (by rw [hf]; exact hu) hs, hf]
        exact eqCells_run hr w
      · exact h.elim
    · exact h.elim
  · exact h.elim
theorem cmp_eql {T : TypeId} {a b : Value} {r : Bool} {s : Sem Value} (h : ∀ w, (Op.equalIn 10000 T a b).run P w = .ok r w) (hs : ∀ w, s.run P w = Sem.run P (do pure (Value.bool (← Op.equal T a b))) w) (w : World) : s.run P w = .ok (.bool r) w := by
  rw [hs w, Sem.run_bind]
  show ((Op.equalIn 10000 T a b).run P w).andThen _ = _
  rw [h w]; rfl
theorem cmp_neq {T : TypeId} {a b : Value} {r : Bool} {s : Sem Value} (h : ∀ w, (Op.equalIn 10000 T a b).run P w = .ok r w) (hs : ∀ w, s.run P w = Sem.run P (do pure (Value.bool (!(← Op.equal T a b)))) w) (w : World) : s.run P w = .ok (.bool !r) w := by
  rw [hs w, Sem.run_bind]
  show ((Op.equalIn 10000 T a b).run P w).andThen _ = _
  rw [h w]; rfl
theorem equal_ptr {T e : TypeId} (hu : P.underlying T = some (.pointer e)) (p : Option Addr) (w : World) : (Op.equalIn 10000 T (.pointer p) (.pointer none)).run P w = .ok p.isNone w := by
  have h : ∀ d, (Op.equalIn (d + 1) T (.pointer p) (.pointer none)).run P w = .ok p.isNone w := fun d => by cases p <;> simp [Op.equalIn, run_underlying hu]
  exact h 9999
theorem equal_slice {T e : TypeId} (hu : P.underlying T = some (.slice e)) (p : Option Addr) (n c m d : Nat) (w : World) : (Op.equalIn 10000 T (.slice p n c) (.slice none m d)).run P w = .ok p.isNone w := by
  have h : ∀ k, (Op.equalIn (k + 1) T (.slice p n c) (.slice none m d)).run P w = .ok p.isNone w := fun k => by cases p <;> simp [Op.equalIn, run_underlying hu]
  exact h 9999
theorem equal_map {T k e : TypeId} (hu : P.underlying T = some (.map k e)) (p : Option Nat) (w : World) : (Op.equalIn 10000 T (.map p) (.map none)).run P w = .ok p.isNone w := by
  have h : ∀ k, (Op.equalIn (k + 1) T (.map p) (.map none)).run P w = .ok p.isNone w := fun k => by cases p <;> simp [Op.equalIn, run_underlying hu]
  exact h 9999
theorem equal_func {T : TypeId} {x y : Array TypeId} {z : Bool} (hu : P.underlying T = some (.func x y z)) {a : Value} (ha : isFnV a = true) (w : World) : (Op.equalIn 10000 T a .nilFunc).run P w = .ok (isNilV a) w := by
  have h : ∀ k, (Op.equalIn (k + 1) T a .nilFunc).run P w = .ok (isNilV a) w := fun k => by cases a <;> simp [isFnV] at ha <;> simp [Op.equalIn, run_underlying hu, isNilV]
  exact h 9999
theorem run_eqGuard_ok {op : BinOp} {T : TypeId} {a b : Value} {xo yo : Operand} (h : eqGuard op T xo yo a b = pure ()) (w : World) : (do eqGuard op T xo yo a b; binOp op T a b).run P w = (binOp op T a b).run P w := by
  rw [h]; rfl

theorem nilOr_out {op : BinOp} {T : TypeId} {xo y : Operand} {a : Value} {K : Value → Prop} {other : Prop} (h : nilOr P op T xo y a K other) :
    (∃ v, (∀ w, (do eqGuard op T xo y a (ev E y); binOp op T a (ev E y)).run P w = .ok v w) ∧ K v) ∨ other := by
  unfold nilOr at h
  split at h
  · split at h
    · rename_i hu
      split at h
      · obtain ⟨ha, h⟩ := h
        refine .inl ⟨_, fun w => ?_, h⟩
        show (do eqGuard .eql T xo (.const .nilFunc) a .nilFunc; binOp .eql T a .nilFunc).run P w = _
        have := equal_func hu ha
        cases a <;> simp [isFnV] at ha <;> exact cmp_eql this (fun w => run_eqGuard_ok rfl w) w
      · obtain ⟨ha, h⟩ := h
        refine .inl ⟨_, fun w => ?_, h⟩
        show (do eqGuard .neq T xo (.const .nilFunc) a .nilFunc; binOp .neq T a .nilFunc).run P w = _
        have := equal_func hu ha
        cases a <;> simp [isFnV] at ha <;> exact cmp_neq this (fun w => run_eqGuard_ok rfl w) w
      · exact h.elim
    · exact h.elim
  · exact .inr h

theorem binV_out {op : BinOp} {T : TypeId} {a b : Value} {K : Value → Prop} {other : Prop} {xo yo : Operand} (h : binV P op T a b K other) :
    (∃ v, (∀ w, (do eqGuard op T xo yo a b; binOp op T a b).run P w = .ok v w) ∧ K v) ∨ other := by
  unfold binV at h
  split at h
  · split at h
    · rename_i hk
      obtain rfl := ikEq_eq hk
      exact .inl ⟨_, fun w => by rw [run_eqGuard_ok rfl, binOp_quo]; simp [Op.intDiv, h.1], h.2⟩
    · exact h.elim
  · split at h
    · rename_i hk
      obtain rfl := ikEq_eq hk
      exact .inl ⟨_, fun w => by rw [run_eqGuard_ok rfl, binOp_rem]; simp [Op.intDiv, h.1], h.2⟩
    · exact h.elim
  · exact .inl ⟨_, fun w => by rw [run_eqGuard_ok rfl, binOp_shl]; simp [Op.shift, Int.not_lt.2 h.1], h.2⟩
  · exact .inl ⟨_, fun w => by rw [run_eqGuard_ok rfl, binOp_shr]; simp [Op.shift, Int.not_lt.2 h.1], h.2⟩
  · obtain ⟨r, hr, hk, hg⟩ := aggD_out h
    exact .inl ⟨_, fun w => by simp [eqGuard, hg, run_eql_struct, hr], hk⟩
  · obtain ⟨r, hr, hk, hg⟩ := aggD_out h
    refine .inl ⟨_, cmp_neq hr fun w => ?_, hk⟩
    rw [Sem.run_bind, run_eqGuard_agg w _ _ _ _ _ _ hg]
    rfl
  · split at h
    · rename_i hu; exact .inl ⟨_, cmp_eql (equal_ptr hu _) fun w => run_eqGuard_ok rfl w, h⟩
    · exact h.elim
  · split at h
    · rename_i hu; exact .inl ⟨_, cmp_neq (equal_ptr hu _) fun w => run_eqGuard_ok rfl w, h⟩
    · exact h.elim
  · split at h
    · rename_i hu; exact .inl ⟨_, cmp_eql (equal_slice hu _ _ _ _ _) fun w => run_eqGuard_ok rfl w, h⟩
    · exact h.elim
  · split at h
    · rename_i hu; exact .inl ⟨_, cmp_neq (equal_slice hu _ _ _ _ _) fun w => run_eqGuard_ok rfl w, h⟩
    · exact h.elim
  · split at h
    · rename_i hu; exact .inl ⟨_, cmp_eql (equal_map hu _) fun w => run_eqGuard_ok rfl w, h⟩
    · exact h.elim
  · split at h
    · rename_i hu; exact .inl ⟨_, cmp_neq (equal_map hu _) fun w => run_eqGuard_ok rfl w, h⟩
    · exact h.elim
  · exact .inr h

/-- the operation, carried out, is what the denotation asks of -/
inductive Did (P : Program) (o : Oper) (E : Env) (pan : List PanicEntry → World → Prop) (K : Value → World → Prop) (w : World) : Prop where
  | value (v : Value) (w' : World) (h : (execOp (ev E) o).run P w = .ok (.value v) w') (hk : K v w')
  | skip (w' : World) (h : (execOp (ev E) o).run P w = .ok .skip w') (hk : K undef w')
  | enter (g : FuncId) (args : Array Value) (h : (execOp (ev E) o).run P w = .ok (.enter g args) w)
      (hk : callR P g args.toList w pan fun v w' => K v w')
  | panic (v : Value) (h : (execOp (ev E) o).run P w = .halt (.panic v) w) (hk : pan [{ v := v, recovered := false }] w)

theorem did_of_semV {s : Sem Value} (hx : (execOp (ev E) o) = (do pure (.value (← s)))) (h : semV P s w K) : Did P o E pan K w := by
  obtain ⟨v, w', hr, hk⟩ := semV_out h
  exact .value v w' (by rw [hx]; simp [hr]) hk
theorem did_of_semU {s : Sem Unit} (hx : (execOp (ev E) o) = (do s; pure .skip)) (h : semV P s w fun _ w' => K undef w') : Did P o E pan K w := by
  obtain ⟨v, w', hr, hk⟩ := semV_out h
  exact .skip w' (by rw [hx]; simp [hr]) hk
theorem did_of_semT {s : Sem Value} {T : TypeId} (hx : (execOp (ev E) o) = (do pure (.value (← s)))) (h : semT P (ExTy P T) s w K) : Did P o E pan K w := by
  obtain ⟨v, w', hr, hk⟩ := semV_out h
  obtain ⟨u, rfl, hk⟩ := ExTy.out hk
  exact .value v w' (by rw [hx]; simp [hr]) hk
theorem semT_out {s : Sem Value} {T : TypeId} (h : semT P (ExTy P T) s w K) : ∃ v w', s.run P w = .ok v w' ∧ K v w' := by
  obtain ⟨v, w', hr, hk⟩ := semV_out h
  obtain ⟨u, rfl, hk⟩ := ExTy.out hk
  exact ⟨_, _, hr, hk⟩
theorem did_of_pure (h : match evalPure P (execOp (ev E) o) with | some (.value v) => K v w | some .skip => K undef w | _ => False) : Did P o E pan K w := by
  split at h
  · rename_i v he; exact .value v w (evalPure_run _ he w) h
  · rename_i he; exact .skip w (evalPure_run _ he w) h
  · exact h.elim

theorem bsem_eq {b : Builtin} {ats : Array TypeId} {T : TypeId} {args : Array Value} {s : Sem Value} {consts : Array Bool} (hs : bsem b ats T args = some s) :
    builtin b ats T consts args = (do pure (.value (← s))) := by
  cases b <;> simp only [bsem, Option.some.injEq, reduceCtorEq] at hs <;> subst hs <;> rfl

set_option maxHeartbeats 1000000 in
theorem denOp_did (hP : OkP P) (h : denOp P o E pan K w) : Did P o E pan K w := by
  obtain ⟨dst, op, type, pos, after, guard⟩ := o
  unfold denOp at h
  split at h
  · exact h.elim
  · dsimp only at h
    cases op with
    | load T x =>
      dsimp only at h
      split at h
      · rename_i p hp
        obtain ⟨ad, rfl, h'⟩ := getSome_out h
        obtain ⟨v, hr, hk⟩ := RdV.run h'
        exact .value v w (by simp [execOp, Instr.loadAt, hp, Instr.sureAddr, hr]) hk
      · exact h.elim
    | store T x y =>
      dsimp only at h
      split at h
      · rename_i p hp
        obtain ⟨ad, rfl, h'⟩ := getSome_out h
        obtain ⟨w', hr, hk⟩ := WrV.run h'
        exact .skip w' (by simp [execOp, Instr.storeAt, hp, Instr.sureAddr, hr]) hk
      · exact h.elim
    | nilCheck x =>
      dsimp only at h
      split at h
      · rename_i p hp
        obtain ⟨ad, rfl, h⟩ := getSome_out h
        exact .value _ w (by simp [execOp, hp]) h
      · exact h.elim
    | indexAddr T x i =>
      dsimp only at h
      unfold indexAddrD at h
      split at h
      · rename_i e he
        split at h
        · rename_i d hd
          split at h
          · rename_i a n c k j hx hi
            obtain ⟨h0, h1, h⟩ := h
            obtain ⟨ad, rfl, h⟩ := getSome_out h
            exact .value _ w (by simp [execOp, Instr.indexAt, hx, hi, asIntOf, run_underlying he, h0, h1, run_sizeOf' hd]) h
          · exact h.elim
        · exact h.elim
      · rename_i len e he
        split at h
        · rename_i d hd
          split at h
          · rename_i p k j hx hi
            obtain ⟨h0, h1, h⟩ := h
            obtain ⟨ad, rfl, h⟩ := getSome_out h
            exact .value _ w (by simp [execOp, Instr.indexAt, hx, hi, asIntOf, run_underlying he, Instr.sureAddr, h0, h1, run_sizeOf' hd]) h
          · exact h.elim
        · exact h.elim
      · exact h.elim
    | index T x i =>
      dsimp only at h
      unfold indexD at h
      split at h
      · rename_i he
        split at h
        · rename_i s k j hx hi
          obtain ⟨h0, b, hb, h⟩ := h
          exact .value _ w (by simp [execOp, Instr.index, hx, hi, asIntOf, run_underlying he, h0, hb]) h
        · exact h.elim
      · rename_i len e he
        split at h
        · rename_i d hd
          split at h
          · rename_i cs k j hx hi
            obtain ⟨h0, h1, h⟩ := h
            have h := casesJ_out h (by simpa using h0) (by simpa using h1)
            obtain ⟨v, hv, h⟩ := getSome_out h
            exact .value _ w (by simp [execOp, Instr.index, hx, hi, asIntOf, run_underlying he, h0, h1, run_sizeOf' hd, evalPure_run _ hv w]) h
          · exact h.elim
        · exact h.elim
      · exact h.elim
    | slice T x lo hi mx =>
      cases mx with
      | some m => exact did_of_pure h
      | none =>
        dsimp only at h
        split at h
        · rename_i e he
          split at h
          · rename_i d hd
            split at h
            · rename_i a n c hx
              obtain ⟨l, t, hr, hk⟩ := run_sliceBounds (P := P) (isS := true) h
              exact .value _ w (by simp [execOp, Instr.sliceAt, Instr.slice, hx, run_underlying he, evO_eq, hr, run_sizeOf' hd, slA]) hk
            · exact h.elim
          · exact h.elim
        · rename_i he
          split at h
          · rename_i s hx
            obtain ⟨l, t, hr, hk⟩ := run_sliceBounds (P := P) (isS := false) h
            exact .value _ w (by simp [execOp, Instr.sliceAt, Instr.slice, hx, run_underlying he, evO_eq, hr]) hk
          · exact h.elim
        · exact h.elim
    | alloc T => obtain ⟨ob, ptr, ha, hk⟩ := allocD_out h; exact .value _ _ (alF_run ha w) hk
    | box T x => obtain ⟨ob, ptr, ha, hk⟩ := allocD_out h; exact .value _ _ (alF_run ha w) hk
    | panic x =>
      dsimp only at h
      split at h
      · rename_i T v hx
        exact .panic _ (by simp [execOp, Instr.panic, hx]) h
      · exact h.elim
    | call c =>
      obtain ⟨callee, args, argTypes⟩ := c
      cases callee with
      | value f =>
        dsimp only at h
        unfold callV at h
        split at h
        · rename_i fn first captured hf
          unfold dynR at h
          split at h
          · rename_i g
            have h2 := run_callFunc' hP h (first ++ args.map (ev E) ++ captured) w
            have e1 : (execOp (ev E) ⟨dst, .call ⟨.value f, args, argTypes⟩, type, pos, after, guard⟩).run P w = .ok (.enter g (first ++ args.map (ev E) ++ captured)) w := by
              simp only [execOp, resolve, hf, Deferred.ofValue, invoke, Sem.run_bind, Sem.run_pure, Result.andThen_ok]
              exact h2.1
            have h3 := h2.2
            have e2 : callR P g (first ++ args.map (ev E) ++ captured).toList w pan fun v w' => K v w' := by
              simp only [Array.toList_append, Array.toList_map]
              exact Calls.mono h3 fun e w' he => by
                cases e with
                | returned v => obtain ⟨u, rfl, hk⟩ := ExTy.out he; exact hk
                | panicked ch => exact he
                | outgrown => exact he
            exact .enter g _ e1 e2
          · exact h.elim
        · exact h.elim
      | invoke r m => exact h.elim
      | builtin b =>
        dsimp only at h
        have hargs : (args.toList.map (ev E)).toArray = args.map (ev E) := by apply Array.ext'; simp
        split at h
        · rename_i T x hT hx _
          obtain rfl : argTypes = #[T] := by cases argTypes; simp_all
          obtain rfl : args = #[x] := by cases args; simp_all
          unfold lenD at h
          split at h
          · rename_i e he
            split at h
            · rename_i a n c hv
              exact .value _ w (by simp [execOp, resolve, invoke, builtin, Builtin.len_, hv, run_underlying he, goInt]) h
            · exact h.elim
          · rename_i he
            split at h
            · rename_i s hv
              exact .value _ w (by simp [execOp, resolve, invoke, builtin, Builtin.len_, hv, run_underlying he, goInt]) h
            · exact h.elim
          · obtain ⟨v, w', hr, hk⟩ := semT_out h
            exact .value v w' (by simp [execOp, resolve, invoke, builtin, hr]) hk
        · split at h
          · rename_i s hs
            rw [hargs] at hs
            obtain ⟨v, w', hr, hk⟩ := semT_out h
            exact .value v w' (by simp [execOp, resolve, invoke, bsem_eq hs, hr]) hk
          · exact h.elim
    | makeSlice T l c => obtain ⟨ob, ptr, ha, hk⟩ := allocD_out h; exact .value _ _ (alF_run ha w) hk
    | makeMap T r =>
      cases r with
      | none => obtain ⟨ob, ptr, ha, hk⟩ := allocD_out h; exact .value _ _ (alF_run ha w) hk
      | some r => exact did_of_pure h
    | buildSlice T n ps => obtain ⟨ob, ptr, ha, hk⟩ := allocD_out h; exact .value _ _ (alF_run ha w) hk
    | lookup T x i ok => exact did_of_semT rfl h
    | mapUpdate T m k x => exact did_of_semU rfl h
    | insert T m k x => exact did_of_semU rfl h
    | range T x => exact did_of_semV rfl h
    | next it s => exact did_of_semV rfl h
    | typeAssert x t u ok => exact did_of_semV rfl h
    | binOp op T x y U =>
      rcases nilOr_out h with ⟨v, hr, hk⟩ | h
      · exact .value v w (by simp only [execOp]; rw [Sem.run_bind, hr w]; rfl) hk
      rcases binV_out (xo := x) (yo := y) h with ⟨v, hr, hk⟩ | h
      · exact .value v w (by simp only [execOp]; rw [Sem.run_bind, hr w]; rfl) hk
      · exact did_of_semV rfl h
    | makeFunc fn first captured =>
      dsimp only at h
      refine .value (.func fn (first.toList.map (ev E)).toArray (captured.toList.map (ev E)).toArray) w ?_ h
      simp only [execOp, Instr.makeFunc]
      rw [show first.map (ev E) = (first.toList.map (ev E)).toArray by apply Array.ext'; simp, show captured.map (ev E) = (captured.toList.map (ev E)).toArray by apply Array.ext'; simp]
      rfl
    | select cs b => exact h.elim
    | move x => exact .value _ w rfl h
    | assign x => exact .value _ w rfl h
    | _ => exact did_of_pure h
end

theorem denOp_known {P : Program} {o : Oper} {E : Env} {pan : List PanicEntry → World → Prop} {K : Value → World → Prop} {w : World} (h : denOp P o E pan K w) :
    allKnown E o.op.operands.toList = true ∧ ∀ cs b, o.op ≠ .select cs b := by
  unfold denOp at h
  split at h
  · exact h.elim
  · refine ⟨by assumption, fun cs b hs => ?_⟩
    rw [hs] at h
    exact h

theorem Did.wp {P : Program} {N : Nat} {ds : List Deferred} {o : Oper} {E : Env} {a : Act} {pan : List PanicEntry → World → Prop} {K : Value → World → Prop} {w : World}
    {next : Act → World → Prop} {Q' : Exit → Act → World → Prop} (hs : ∀ cs b, o.op ≠ .select cs b) (hf : Fits N ds E a) (hk : allKnown E o.op.operands.toList = true) (h : Did P o E pan K w)
    (hnext : ∀ v w', K v w' → next (a.put o.dst v) w') (hpan : ∀ ch w', pan ch w' → Q' (.panic ch) a w') : o.wp P a w next Q' := by
  have he : execOp a.eval o = execOp (ev E) o := execOp_congr o hs fun x hx => hf.ev (allKnown_mem hk x (by simpa using hx))
  unfold Oper.wp
  rw [he]
  cases h with
  | value v w' h hk => rw [h]; exact hnext _ _ hk
  | skip w' h hk => rw [h]; exact hnext _ _ hk
  | panic v h hk => rw [h]; exact hpan _ _ hk
  | enter g args h hk =>
    rw [h]
    simp only [Oper.upon]
    unfold callR at hk
    exact Calls.mono hk fun e w' he => by
      cases e with
      | returned v => exact hnext _ _ he
      | panicked ch => exact hpan _ _ he
      | outgrown => exact he.elim

/-! ### Regions -/
def br (b : Bool) (A B : Prop) : Prop := match b with | true => A | false => B

def guardD (ops : Array Oper) (o : Oper) (E : Env) (go skip : Env → Prop) : Prop :=
  match o.guard with
  | none => go E
  | some (j, want) => match ops[j]? with
    | none => False
    | some oj => match oj.dst with
      | none => False
      | some d => match E.get d with
        | some (.bool b) => (match want with
          | true => br b (go ((d, .bool true) :: E)) (skip ((d, .bool false) :: E))
          | false => br b (skip ((d, .bool true) :: E)) (go ((d, .bool false) :: E)))
        | some (.tuple _) => skip E
        | _ => False

def denOps (P : Program) (N : Nat) (ops : Array Oper) (Q : Exit → Env → World → Prop) : List Oper → Env → World → Prop
  | [], E, w => Q .normal E w
  | o :: r, E, w => guardD ops o E
      (fun E => denOp P o E (fun ch w' => Q (.panic ch) E w') (fun v w' => putD N o.dst v E fun E' => denOps P N ops Q r E' w') w)
      (fun E => putD N o.dst undef E fun E' => denOps P N ops Q r E' w)

def LQ (N : Nat) (ds : List Deferred) (Q : Exit → Env → World → Prop) : Exit → Act → World → Prop :=
  fun e a w => ∃ E, Fits N ds E a ∧ Q e E w

section
variable {P : Program} {N : Nat} {ds : List Deferred} {ops : Array Oper} {Q : Exit → Env → World → Prop}

theorem Fits.again {E : Env} {a : Act} (hf : Fits N ds E a) {d : Nat} {v : Value} (h : E.get d = some v) : Fits N ds ((d, v) :: E) a := by
  refine ⟨hf.defers, hf.size, fun i u hu => ?_⟩
  unfold Env.get at hu
  split at hu
  · rename_i he
    have := Nat.eq_of_beq_eq_true he
    subst this
    cases hu
    exact hf.val _ _ h
  · exact hf.val _ _ hu

/-- what a guard comes to -/
theorem guardD_out {o : Oper} {E : Env} {a : Act} {go skip : Env → Prop} (hf : Fits N ds E a) (h : guardD ops o E go skip) :
    ∃ E', Fits N ds E' a ∧ ((Region.wanted o (yielded ops a.tmps) = true ∧ go E') ∨ (Region.wanted o (yielded ops a.tmps) = false ∧ skip E')) := by
  unfold guardD at h
  unfold Region.wanted
  split at h
  · rename_i hg; exact ⟨E, hf, .inl ⟨by rw [hg], h⟩⟩
  · rename_i j want hg
    split at h
    · exact h.elim
    · rename_i oj hj
      split at h
      · exact h.elim
      · rename_i d hd
        split at h
        · rename_i b hb
          have hv := hf.val _ _ hb
          have hy : yielded ops a.tmps j = some b := by unfold yielded; simp [hj, hd, hv]
          cases want with
          | true =>
            cases b with
            | true => exact ⟨_, hf.again hb, .inl ⟨by rw [hg]; simp [hy], h⟩⟩
            | false => exact ⟨_, hf.again hb, .inr ⟨by rw [hg]; simp [hy], h⟩⟩
          | false =>
            cases b with
            | true => exact ⟨_, hf.again hb, .inr ⟨by rw [hg]; simp [hy], h⟩⟩
            | false => exact ⟨_, hf.again hb, .inl ⟨by rw [hg]; simp [hy], h⟩⟩
        · rename_i vs hb
          have hv := hf.val _ _ hb
          have hy : yielded ops a.tmps j = none := by unfold yielded; simp [hj, hd, hv]
          exact ⟨E, hf, .inr ⟨by rw [hg]; simp [hy], h⟩⟩
        · exact h.elim

theorem denOps_wp (hP : OkP P) : ∀ (l : List Oper) (k : Nat) (E : Env) (a : Act) (w : World), (∀ j, l[j]? = ops[k + j]?) → Fits N ds E a → denOps P N ops Q l E w →
    wpOps P ops (LQ N ds Q) (List.range' k l.length) a w := by
  intro l
  induction l with
  | nil => exact fun k E a w _ hf h => ⟨E, hf, h⟩
  | cons o l ih =>
    intro k E a w hl hf h
    have h0 : ops[k]? = some o := by simpa using (hl 0).symm
    have hl' : ∀ j, l[j]? = ops[k + 1 + j]? := fun j => by have := hl (j + 1); simpa [Nat.add_assoc, Nat.add_comm 1 j] using this
    rw [List.length_cons, List.range'_succ]
    unfold denOps at h
    obtain ⟨E', hf', h⟩ := guardD_out hf h
    simp only [wpOps, h0]
    rcases h with ⟨hw, h⟩ | ⟨hw, h⟩
    · rw [if_pos hw]
      obtain ⟨hk, hs⟩ := denOp_known h
      refine .inl ((denOp_did hP h).wp hs hf' hk (fun v w' hv => ?_) fun ch w' hp => ⟨E', hf', hp⟩)
      obtain ⟨E2, hf2, h2⟩ := putD_fits hf' hv
      exact ih _ _ _ _ hl' hf2 h2
    · rw [if_neg (by simp [hw])]
      obtain ⟨E2, hf2, h2⟩ := putD_fits hf' h
      exact ih _ _ _ _ hl' hf2 h2

theorem denRegion_wp (hP : OkP P) {id : Nat} {E : Env} {a : Act} {w : World} (hf : Fits N ds E a) (h : denOps P N ops Q ops.toList E w) :
    (Code.region id ops false).wp P (LQ N ds Q) a w := by
  refine wp_region ?_
  have := denOps_wp hP ops.toList 0 E a w (fun j => by simp) hf h
  rwa [List.range_eq_range', ← Array.length_toList]
end

/-! ### Regions that draw their order: reads and calls that only make memory -/
def semC (P : Program) (C : World → Prop) (s : Sem Value) (T : TypeId) (K : Value → Prop) : Prop :=
  ExTy P T fun v => (∀ w', C w' → s.run P w' = .ok v w') ∧ K v
def callC (P : Program) (C : World → Prop) (g : FuncId) (args : List Value) (T : TypeId) (K : Value → Prop) : Prop :=
  hasBody P g (ExTy P T fun v => (∀ w1, C w1 → Calls P g args.toArray w1 fun e w2 => e = .returned v ∧ Grow w1 w2) ∧ K v)
def dynC (P : Program) (C : World → Prop) (fn : Fn) (args : List Value) (T : TypeId) (K : Value → Prop) : Prop :=
  match fn with
  | .func g => callC P C g args T K
  | _ => False

/-- a class of worlds, and what a read asks in it -/
structure Rd (P : Program) where
  C : World → Prop
  rd : TypeId → Addr → (Value → Prop) → Prop
  ok : ∀ T ad K, rd T ad K → ∃ v, (∀ w', C w' → (loadVar T ad).run P w' = .ok v w') ∧ K v

def quietC (P : Program) (o : Oper) (E : Env) (K : Value → Prop) (r : Rd P) : Prop :=
  match allKnown E o.op.operands.toList with
  | false => False
  | true =>
  match o.op with
  | .load T x => (match ev E x with
    | .pointer p => getSome p fun ad => r.rd T ad K
    | _ => False)
  | .nilCheck x => (match ev E x with
    | .pointer p => getSome p fun ad => K (.pointer (some ad))
    | _ => False)
  | .indexAddr T x i => indexAddrD P T (ev E x) (ev E i) K
  | .index T x i => indexD P T (ev E x) (ev E i) K
  | .slice T x lo hi none => (match P.underlying T with
    | some (.slice e) => (match P.underlying e with
      | some _ => (match ev E x with
        | .slice a n c => sliceD (evO E hi) (evO E lo) n c fun l h => K (.slice (slA a l c (P.cellsOf e)) (h - l) (c - l))
        | _ => False)
      | none => False)
    | _ => False)
  | .call c => (match c.callee with
    | .value f => (match ev E f with
      | .func fn first captured => dynC P r.C fn (first.toList ++ c.args.toList.map (ev E) ++ captured.toList) o.type K
      | _ => False)
    | .builtin b => (match b, c.argTypes.toList, c.args.toList with
      | .len, [T], [x] => lenD P T (ev E x) K (semC P r.C (Builtin.len_ c.argTypes o.type #[ev E x]) o.type K)
      | _, _, _ => (match bsem b c.argTypes o.type (c.args.toList.map (ev E)).toArray with
        | some s => semC P r.C s o.type K
        | none => False))
    | .invoke _ _ => False)
  | .lookup T x i ok => semC P r.C (Instr.lookup T (ev E x) (ev E i) ok) o.type K
  | .makeFunc fn first captured => K (.func fn (first.toList.map (ev E)).toArray (captured.toList.map (ev E)).toArray)
  | .binOp op T x y _ => nilOr P op T x y (ev E x) K <| binV P op T (ev E x) (ev E y) K (match evalPure P (execOp (ev E) o) with
    | some (.value v) => K v
    | _ => False)
  | .move x => K (ev E x)
  | .assign x => K (ev E x)
  | .select _ _ => False
  | _ => (match evalPure P (execOp (ev E) o) with
    | some (.value v) => K v
    | some .skip => K undef
    | _ => False)

theorem RdV.runC {P : Program} {w : World} {C : World → Prop} {T : TypeId} {ad : Addr} {p : Value → Prop} (hc : ∀ w', C w' → ∀ i v, w.cell? (ad.add i) = some v → w'.cell? (ad.add i) = some v) (h : RdV P w T ad p) :
    ∃ v, (∀ w', C w' → (loadVar T ad).run P w' = .ok v w') ∧ p v := by
  unfold RdV at h
  split at h
  · rename_i hagg
    obtain ⟨d, hd⟩ := isAggB_some hagg
    split at h
    · rename_i ks _
      split at h
      · rename_i hl
        obtain ⟨vs, hp, hlen, hcs⟩ := RdL.out h
        refine ⟨_, fun w' hw => ?_, hp⟩
        have hl' : vs.length = P.cellsOf T := by rw [hlen]; exact Nat.eq_of_beq_eq_true hl
        unfold loadVar
        simp only [Sem.run_bind, run_isAgg hd, hagg, Result.andThen_ok, if_true, run_sizeOf' hd]
        rw [← hl', run_loadCells_list w' ad vs (fun j v hj => hc w' hw _ _ (by simpa using hcs j v hj))]
        simp
      · exact h.elim
    · exact h.elim
  · rename_i hagg
    split at h
    · rename_i k hk
      obtain ⟨d, hd, _⟩ := ckOf_some hk
      obtain ⟨v, ⟨hv, hp⟩, _⟩ := Ex.out h
      refine ⟨v, fun w' hw => ?_, hp⟩
      have h0 : ad.add 0 = ad := rfl
      have := hc w' hw 0 v (by rw [h0]; exact hv)
      rw [h0] at this
      unfold loadVar
      simp [run_isAgg hd, hagg, this]
    · exact h.elim

/-- all worlds that have only grown -/
def rdG (P : Program) (w : World) : Rd P := ⟨Grow w, fun T ad K => RdV P w T ad K, fun _ _ _ h => RdV.runC (fun _ hw _ _ hv => hw.cell hv) h⟩

theorem RdV.runC1 {P : Program} {w : World} {C : World → Prop} {T : TypeId} {ad : Addr} {p : Value → Prop} (hagg : isAggB P T = false) (hc : ∀ w', C w' → ∀ v, w.cell? ad = some v → w'.cell? ad = some v) (h : RdV P w T ad p) :
    ∃ v, (∀ w', C w' → (loadVar T ad).run P w' = .ok v w') ∧ p v := by
  unfold RdV at h
  rw [hagg] at h
  dsimp only at h
  split at h
  · rename_i k hk
    obtain ⟨d, hd, _⟩ := ckOf_some hk
    obtain ⟨v, ⟨hv, hp⟩, _⟩ := Ex.out h
    refine ⟨v, fun w' hw => ?_, hp⟩
    have := hc w' hw v hv
    unfold loadVar
    simp [run_isAgg hd, hagg, this]
  · exact h.elim

/-- blocks that may turn; cells that yet do not -/
structure KX where
  b : List Nat
  c : List Addr := []
/-- all worlds in which the blocks that were there are as they were, but for those in X.b; and the cells in X.c, too -/
def Keeps (X : KX) (w w' : World) : Prop := w.heap.size ≤ w'.heap.size ∧ (∀ b, b < w.heap.size → b ∉ X.b → w'.heap[b]? = w.heap[b]?) ∧ ∀ ad ∈ X.c, ∀ v, w.cell? ad = some v → w'.cell? ad = some v
theorem Keeps.refl (X : KX) (w : World) : Keeps X w w := ⟨Nat.le_refl _, fun _ _ _ => rfl, fun _ _ _ h => h⟩
theorem Keeps.grow {X : KX} {w a b : World} (h : Keeps X w a) (g : Grow a b) : Keeps X w b :=
  ⟨Nat.le_trans h.1 g.size, fun k hk hx => (g.block k (Nat.lt_of_lt_of_le hk h.1)).trans (h.2.1 k hk hx), fun ad had v hv => g.cell (h.2.2 ad had v hv)⟩
theorem Keeps.cell {X : KX} {w a : World} (h : Keeps X w a) {ad : Addr} {v : Value} (hx : ad.block ∉ X.b) (hc : w.cell? ad = some v) : a.cell? ad = some v :=
  (World.cell?_of_block (w := w) (h.2.1 _ (World.block_lt_of_cell? w ad hc) hx)).trans hc
def sOf (fl : Bool) (X : KX) (w0 : World) : World → Prop := match fl with | true => Keeps X w0 | false => fun _ => True
theorem Addr.add_block (ad : Addr) (i : Nat) : (ad.add i).block = ad.block := by unfold Addr.add; split <;> rfl
/-- may it be read throughout? -/
def kin (P : Program) (X : KX) (T : TypeId) (ad : Addr) : Prop :=
  match isAggB P T with
  | true => ad.block ∉ X.b
  | false => ad.block ∉ X.b ∨ ad ∈ X.c
def rdSd (P : Program) (fl : Bool) (X : KX) (w0 : World) (T : TypeId) (ad : Addr) (K : Value → Prop) : Prop :=
  match fl with
  | true => kin P X T ad ∧ RdV P w0 T ad K
  | false => False
theorem rdSd_ok (P : Program) (fl : Bool) (X : KX) (w0 : World) (T : TypeId) (ad : Addr) (K : Value → Prop) (h : rdSd P fl X w0 T ad K) : ∃ v, (∀ w', sOf fl X w0 w' → (loadVar T ad).run P w' = .ok v w') ∧ K v := by
  cases fl with
  | true =>
    obtain ⟨h1, h2⟩ := h
    unfold kin at h1
    split at h1
    · exact RdV.runC (fun w' hw i v hv => Keeps.cell hw (by rw [Addr.add_block]; exact h1) hv) h2
    · rename_i hagg
      exact RdV.runC1 hagg (fun w' hw v hv => h1.elim (fun h => Keeps.cell hw h hv) fun h => hw.2.2 ad h v hv) h2
  | false => exact h.elim
def rdS (P : Program) (fl : Bool) (X : KX) (w0 : World) : Rd P := ⟨sOf fl X w0, rdSd P fl X w0, rdSd_ok P fl X w0⟩

def denQ (P : Program) (N : Nat) (ops : Array Oper) (w : World) (Q : Env → Prop) : List Oper → Env → Prop
  | [], E => Q E
  | o :: r, E => guardD ops o E
      (fun E => quietC P o E (fun v => putD N o.dst v E fun E' => denQ P N ops w Q r E') (rdG P w))
      (fun E => putD N o.dst undef E fun E' => denQ P N ops w Q r E')

section
variable {P : Program} {o : Oper} {E : Env} {K : Value → Prop} {w : World}

theorem RdL.grow {w w' : World} (hg : Grow w w') {ad : Addr} : ∀ {ks : List CK} {i : Nat} {p : List Value → Prop}, RdL w ad i ks p → RdL w' ad i ks p := by
  intro ks
  induction ks with
  | nil => exact fun h => h
  | cons k ks ih => exact fun h => Ex.mono (fun v hv => ⟨hg.cell hv.1, ih hv.2⟩) h

inductive DidQ (P : Program) (o : Oper) (E : Env) (K : Value → Prop) (C : World → Prop) : Prop where
  | value (v : Value) (h : ∀ w', C w' → (execOp (ev E) o).run P w' = .ok (.value v) w') (hk : K v)
  | skip (h : ∀ w', C w' → (execOp (ev E) o).run P w' = .ok .skip w') (hk : K undef)
  | enter (g : FuncId) (args : Array Value) (v : Value) (h : ∀ w', C w' → (execOp (ev E) o).run P w' = .ok (.enter g args) w')
      (hc : ∀ w1, C w1 → Calls P g args w1 fun e w2 => e = .returned v ∧ Grow w1 w2) (hk : K v)

theorem didQ_of_pure {C : World → Prop} (h : match evalPure P (execOp (ev E) o) with | some (.value v) => K v | some .skip => K undef | _ => False) : DidQ P o E K C := by
  split at h
  · rename_i v he; exact .value v (fun w' _ => evalPure_run _ he w') h
  · rename_i he; exact .skip (fun w' _ => evalPure_run _ he w') h
  · exact h.elim

theorem hasBody_out {P : Program} {g : FuncId} {X : Prop} (h : hasBody P g X) : X := by
  unfold hasBody at h
  split at h
  · split at h
    · exact h
    · exact h.elim
  · exact h.elim
theorem didQ_of_semC {C : World → Prop} {s : Sem Value} {T : TypeId} (hx : execOp (ev E) o = (do pure (.value (← s)))) (h : semC P C s T K) : DidQ P o E K C := by
  obtain ⟨v, hr, hk⟩ := ExTy.out h
  exact .value v (fun w' hw => by rw [hx]; simp [hr w' hw]) hk

set_option maxHeartbeats 1000000 in
theorem quietC_did (hP : OkP P) {r : Rd P} (h : quietC P o E K r) : DidQ P o E K r.C := by
  obtain ⟨dst, op, type, pos, after, guard⟩ := o
  unfold quietC at h
  split at h
  · exact h.elim
  · dsimp only at h
    cases op with
    | load T x =>
      dsimp only at h
      split at h
      · rename_i p hp
        obtain ⟨ad, rfl, h'⟩ := getSome_out h
        obtain ⟨v, hr, hk⟩ := r.ok _ _ _ h'
        exact .value v (fun w' hw => by simp [execOp, Instr.loadAt, hp, Instr.sureAddr, hr w' hw]) hk
      · exact h.elim
    | nilCheck x =>
      dsimp only at h
      split at h
      · rename_i p hp
        obtain ⟨ad, rfl, h⟩ := getSome_out h
        exact .value _ (fun w' _ => by simp [execOp, hp]) h
      · exact h.elim
    | indexAddr T x i =>
      dsimp only at h
      unfold indexAddrD at h
      split at h
      · rename_i e he
        split at h
        · rename_i d hd
          split at h
          · rename_i a n c k j hx hi
            obtain ⟨h0, h1, h⟩ := h
            obtain ⟨ad, rfl, h⟩ := getSome_out h
            exact .value _ (fun w' _ => by simp [execOp, Instr.indexAt, hx, hi, asIntOf, run_underlying he, h0, h1, run_sizeOf' hd]) h
          · exact h.elim
        · exact h.elim
      · rename_i len e he
        split at h
        · rename_i d hd
          split at h
          · rename_i p k j hx hi
            obtain ⟨h0, h1, h⟩ := h
            obtain ⟨ad, rfl, h⟩ := getSome_out h
            exact .value _ (fun w' _ => by simp [execOp, Instr.indexAt, hx, hi, asIntOf, run_underlying he, Instr.sureAddr, h0, h1, run_sizeOf' hd]) h
          · exact h.elim
        · exact h.elim
      · exact h.elim
    | index T x i =>
      dsimp only at h
      unfold indexD at h
      split at h
      · rename_i he
        split at h
        · rename_i s k j hx hi
          obtain ⟨h0, b, hb, h⟩ := h
          exact .value _ (fun w' _ => by simp [execOp, Instr.index, hx, hi, asIntOf, run_underlying he, h0, hb]) h
        · exact h.elim
      · rename_i len e he
        split at h
        · rename_i d hd
          split at h
          · rename_i cs k j hx hi
            obtain ⟨h0, h1, h⟩ := h
            have h := casesJ_out h (by simpa using h0) (by simpa using h1)
            obtain ⟨v, hv, h⟩ := getSome_out h
            exact .value _ (fun w' _ => by simp [execOp, Instr.index, hx, hi, asIntOf, run_underlying he, h0, h1, run_sizeOf' hd, evalPure_run _ hv w']) h
          · exact h.elim
        · exact h.elim
      · exact h.elim
    | slice T x lo hi mx =>
      cases mx with
      | some m => exact didQ_of_pure h
      | none =>
        dsimp only at h
        split at h
        · rename_i e he
          split at h
          · rename_i d hd
            split at h
            · rename_i a n c hx
              obtain ⟨l, t, hr, hk⟩ := run_sliceBounds (P := P) (isS := true) h
              exact .value _ (fun w' _ => by simp [execOp, Instr.sliceAt, Instr.slice, hx, run_underlying he, evO_eq, hr, run_sizeOf' hd, slA]) hk
            · exact h.elim
          · exact h.elim
        · exact h.elim
    | call c =>
      obtain ⟨callee, args, argTypes⟩ := c
      cases callee with
      | value f =>
        dsimp only at h
        split at h
        · rename_i fn first captured hf
          unfold dynC at h
          split at h
          · rename_i g
            unfold callC at h
            have h2 := fun w' => run_callFunc' hP h (first ++ args.map (ev E) ++ captured) w'
            obtain ⟨v, hc, hk⟩ := ExTy.out (hasBody_out h)
            refine .enter g (first ++ args.map (ev E) ++ captured) v (fun w' _ => ?_) (fun w1 hw1 => ?_) hk
            · simp only [execOp, resolve, hf, Deferred.ofValue, invoke, Sem.run_bind, Sem.run_pure, Result.andThen_ok]
              exact (h2 w').1
            · have := hc w1 hw1
              rwa [show (first.toList ++ args.toList.map (ev E) ++ captured.toList).toArray = first ++ args.map (ev E) ++ captured by apply Array.ext'; simp] at this
          · exact h.elim
        · exact h.elim
      | invoke r m => exact h.elim
      | builtin b =>
        dsimp only at h
        split at h
        · rename_i T x hT hx _
          obtain rfl : argTypes = #[T] := by cases argTypes; simp_all
          obtain rfl : args = #[x] := by cases args; simp_all
          unfold lenD at h
          split at h
          · rename_i e he
            split at h
            · rename_i a n c hv
              exact .value _ (fun w' _ => by simp [execOp, resolve, invoke, builtin, Builtin.len_, hv, run_underlying he, goInt]) h
            · exact h.elim
          · rename_i he
            split at h
            · rename_i s hv
              exact .value _ (fun w' _ => by simp [execOp, resolve, invoke, builtin, Builtin.len_, hv, run_underlying he, goInt]) h
            · exact h.elim
          · exact didQ_of_semC (s := Builtin.len_ #[T] type #[ev E x]) (by simp [execOp, resolve, invoke, builtin]) h
        · split at h
          · rename_i s hs
            rw [show (args.toList.map (ev E)).toArray = args.map (ev E) by apply Array.ext'; simp] at hs
            exact didQ_of_semC (by simp only [execOp, resolve, invoke]; exact bsem_eq hs) h
          · exact h.elim
    | lookup T x i ok => exact didQ_of_semC rfl h
    | makeFunc fn first captured =>
      dsimp only at h
      refine .value (.func fn (first.toList.map (ev E)).toArray (captured.toList.map (ev E)).toArray) (fun w' _ => ?_) h
      simp only [execOp, Instr.makeFunc]
      rw [show first.map (ev E) = (first.toList.map (ev E)).toArray by apply Array.ext'; simp, show captured.map (ev E) = (captured.toList.map (ev E)).toArray by apply Array.ext'; simp]
      rfl
    | binOp op T x y U =>
      dsimp only at h
      rcases nilOr_out h with ⟨v, hr, hk⟩ | h
      · exact .value v (fun w' _ => by simp only [execOp]; rw [Sem.run_bind, hr w']; rfl) hk
      rcases binV_out (xo := x) (yo := y) h with ⟨v, hr, hk⟩ | h
      · exact .value v (fun w' _ => by simp only [execOp]; rw [Sem.run_bind, hr w']; rfl) hk
      · split at h
        · rename_i v he; exact .value v (fun w' _ => evalPure_run _ he w') h
        · exact h.elim
    | select cs b => exact h.elim
    | move x => exact .value _ (fun _ _ => rfl) h
    | assign x => exact .value _ (fun _ _ => rfl) h
    | _ => exact didQ_of_pure h
end

section
variable {P : Program} {N : Nat} {ds : List Deferred} {ops : Array Oper} {w : World}

theorem DidQ.quiet {o : Oper} {E : Env} {a : Act} {K : Value → Prop} {next : Act → Prop} (hs : ∀ cs b, o.op ≠ .select cs b) (hf : Fits N ds E a) (hk : allKnown E o.op.operands.toList = true)
    (h : DidQ P o E K (Grow w)) (hnext : ∀ v, K v → next (a.put o.dst v)) : o.quiet P a (Grow w) next := by
  have he : execOp a.eval o = execOp (ev E) o := execOp_congr o hs fun x hx => hf.ev (allKnown_mem hk x (by simpa using hx))
  unfold Oper.quiet Oper.quietAt
  rw [he]
  cases h with
  | value v h hk => exact ⟨v, fun w' hw => by rw [h w' hw]; exact ⟨rfl, rfl⟩, hnext v hk⟩
  | skip h hk => exact ⟨undef, fun w' hw => by rw [h w' hw]; exact ⟨rfl, rfl⟩, hnext _ hk⟩
  | enter g args v h hc hk => exact ⟨v, fun w' hw => by rw [h w' hw]; exact ⟨rfl, (hc w' hw).mono fun e w2 he => ⟨he.1, hw.trans he.2⟩⟩, hnext v hk⟩

theorem quietC_known {o : Oper} {E : Env} {K : Value → Prop} {r : Rd P} (h : quietC P o E K r) : allKnown E o.op.operands.toList = true ∧ ∀ cs b, o.op ≠ .select cs b := by
  unfold quietC at h
  split at h
  · exact h.elim
  · refine ⟨by assumption, fun cs b hs => ?_⟩
    rw [hs] at h
    exact h

theorem denQ_wp (hP : OkP P) {Q : Env → Prop} : ∀ (l : List Oper) (E : Env) (a : Act), Fits N ds E a → denQ P N ops w Q l E →
    wpQuiet P ops (Grow w) (fun a' => ∃ E', Fits N ds E' a' ∧ Q E') l a := by
  intro l
  induction l with
  | nil => exact fun E a hf h => ⟨E, hf, h⟩
  | cons o l ih =>
    intro E a hf h
    unfold denQ at h
    obtain ⟨E', hf', h⟩ := guardD_out hf h
    unfold wpQuiet
    rcases h with ⟨hw, h⟩ | ⟨hw, h⟩
    · rw [if_pos hw]
      obtain ⟨hk, hs⟩ := quietC_known h
      refine (quietC_did hP h).quiet hs hf' hk fun v hv => ?_
      obtain ⟨E2, hf2, h2⟩ := putD_fits hf' hv
      exact ih _ _ hf2 h2
    · rw [if_neg (by simp [hw])]
      obtain ⟨E2, hf2, h2⟩ := putD_fits hf' h
      exact ih _ _ hf2 h2

theorem wpQuiet_mono' {C : World → Prop} {Q Q' : Act → Prop} : ∀ {l : List Oper} {a : Act}, wpQuiet P ops C Q l a → (∀ a, Q a → Q' a) → wpQuiet P ops C Q' l a := by
  intro l
  induction l with
  | nil => exact fun h hq => hq _ h
  | cons o l ih =>
    intro a h hq
    unfold wpQuiet at h ⊢
    split
    · rename_i hw
      rw [if_pos hw] at h
      exact Oper.quiet_mono (fun a ha => ih ha hq) h
    · rename_i hw
      rw [if_neg hw] at h
      exact ih h hq

theorem denDraw_wp (hP : OkP P) {id : Nat} {Q : Exit → Env → World → Prop} {E : Env} {a : Act} (hf : Fits N ds E a) (hB : Region.lexB .any ops = true)
    (h : denQ P N ops w (fun E' => ∀ w', Grow w w' → Q .normal E' w') ops.toList E) : (Code.region id ops true).wp P (LQ N ds Q) a w := by
  have hd : Grow w { w with drawn := w.drawn + 1 } := (Grow.refl w).drew
  refine wp_region_quiet (C := Grow w) hP.mixed hB hd ?_
  refine wpQuiet_mono' (denQ_wp hP _ _ _ hf h) ?_
  rintro a' ⟨E', hf', hq⟩ w' hw'
  exact ⟨E', hf', hq w' hw'⟩
end

/-! ### Regions that draw their order, in one order given -/
def zkOf : Nat → Zk
  | 0 => .q
  | 1 => .s
  | 2 => .a
  | _ => .l
/-- what is written of operation i -/
def kdOf : List Nat → Nat → Zk
  | [], _ => .q
  | c :: r, i => match Nat.beq (c / 4) i with
    | true => zkOf (c % 4)
    | false => kdOf r i
def zpOf (P : Program) (kd : Nat → Zk) (fl : Bool) (X : KX) (w0 : World) : Zp :=
  { S := sOf fl X w0, kd := kd, base := w0.heap.size, al := fun ρ o => alF P ρ o.op }
theorem zpOf_ok (P : Program) (kd : Nat → Zk) (fl : Bool) (X : KX) (w0 : World) : ZpOk P (zpOf P kd fl X w0) where
  grow := fun w w' h g => by
    cases fl with
    | true => exact Keeps.grow h g
    | false => trivial
  congr := fun ρ ρ' o h => alF_congr h
  run := fun ρ o ob ptr h w => alF_run h w

def sObl (fl : Bool) (X : KX) (w0 w : World) (K : Prop) : Prop := match fl with | true => Keeps X w0 w ∧ K | false => K

def denZ (P : Program) (N : Nat) (ops : Array Oper) (kd : Nat → Zk) (fl : Bool) (X : KX) (w0 : World) (Q : Exit → Env → World → Prop) : List Nat → List Nat → Env → World → Prop
  | [], _, E, w => ∀ w', Grow w w' → Q .normal E w'
  | i :: r, used, E, w => match ops[i]? with
    | none => False
    | some o => match kd i with
      | .q => guardD ops o E (fun E => quietC P o E (fun v => putD N o.dst v E fun E' => denZ P N ops kd fl X w0 Q r used E' w) (rdG P w)) (fun E => putD N o.dst undef E fun E' => denZ P N ops kd fl X w0 Q r used E' w)
      | .s => guardD ops o E (fun E => quietC P o E (fun v => putD N o.dst v E fun E' => denZ P N ops kd fl X w0 Q r used E' w) (rdS P fl X w0)) (fun E => putD N o.dst undef E fun E' => denZ P N ops kd fl X w0 Q r used E' w)
      | .a => (match o.guard with
        | none => (match allKnown E o.op.operands.toList with
          | true => allocD P o.op E fun ob ptr => ∀ n w', w0.heap.size ≤ n → n ∉ used → w'.heap[n]? = some ob → Grow w w' → putD N o.dst (ptr n) E fun E' => denZ P N ops kd fl X w0 Q r (n :: used) E' w'
          | false => False)
        | some _ => False)
      | .l => ∀ w', Grow w w' → guardD ops o E
          (fun E => denOp P o E (fun _ _ => False) (fun v w2 => sObl fl X w0 w2 (putD N o.dst v E fun E' => denZ P N ops kd fl X w0 Q r used E' w2)) w')
          (fun E => sObl fl X w0 w' (putD N o.dst undef E fun E' => denZ P N ops kd fl X w0 Q r used E' w'))

section
variable {P : Program} {N : Nat} {ds : List Deferred} {ops : Array Oper}

theorem DidQ.yq {o : Oper} {E : Env} {a : Act} {K : Value → Prop} {C : World → Prop} (hs : ∀ cs b, o.op ≠ .select cs b) (hf : Fits N ds E a) (hk : allKnown E o.op.operands.toList = true)
    (hw : Region.wanted o (yielded ops a.tmps) = true) (h : DidQ P o E K C) : ∃ v, Yq P ops C o v a ∧ K v := by
  have he : execOp a.eval o = execOp (ev E) o := execOp_congr o hs fun x hx => hf.ev (allKnown_mem hk x (by simpa using hx))
  have hy : ∀ v, (∀ w', C w' → Oper.quietUpon P (Grow w') w' v ((execOp (ev E) o).run P w')) → Yq P ops C o v a := fun v h => .inl ⟨hw, fun w1 hw1 => by unfold Oper.quietAt; rw [he]; exact h w1 hw1⟩
  cases h with
  | value v h hk => exact ⟨v, hy v fun w' hw => by rw [h w' hw]; exact ⟨rfl, rfl⟩, hk⟩
  | skip h hk => exact ⟨undef, hy _ fun w' hw => by rw [h w' hw]; exact ⟨rfl, rfl⟩, hk⟩
  | enter g args v h hc hk => exact ⟨v, hy v fun w' hw => by rw [h w' hw]; exact ⟨rfl, hc w' hw⟩, hk⟩

theorem sObl_out {fl : Bool} {X : KX} {w0 w : World} {K : Prop} (h : sObl fl X w0 w K) : sOf fl X w0 w ∧ K := by
  cases fl with
  | true => exact h
  | false => exact ⟨trivial, h⟩

theorem denZ_wp (hP : OkP P) {kd : Nat → Zk} {fl : Bool} {X : KX} {w0 : World} {Q : Exit → Env → World → Prop} : ∀ (r used : List Nat) (E : Env) (a : Act) (w : World), Fits N ds E a →
    denZ P N ops kd fl X w0 Q r used E w → wpW P ops (zpOf P kd fl X w0) (LQ N ds Q .normal) r used a w := by
  intro r
  induction r with
  | nil => exact fun used E a w hf h w' hw => ⟨E, hf, h w' hw⟩
  | cons i r ih =>
    intro used E a w hf h
    unfold denZ at h
    split at h
    · exact h.elim
    · rename_i o ho
      refine ⟨o, ho, ?_⟩
      have quiet : ∀ rr : Rd P, guardD ops o E (fun E => quietC P o E (fun v => putD N o.dst v E fun E' => denZ P N ops kd fl X w0 Q r used E' w) rr) (fun E => putD N o.dst undef E fun E' => denZ P N ops kd fl X w0 Q r used E' w) →
          ∃ v, Yq P ops rr.C o v a ∧ wpW P ops (zpOf P kd fl X w0) (LQ N ds Q .normal) r used (a.put o.dst v) w := fun rr h => by
        obtain ⟨E', hf', h⟩ := guardD_out hf h
        rcases h with ⟨hw, h⟩ | ⟨hw, h⟩
        · obtain ⟨hk, hs⟩ := quietC_known h
          obtain ⟨v, hy, hv⟩ := (quietC_did hP h).yq hs hf' hk hw
          obtain ⟨E2, hf2, h2⟩ := putD_fits hf' hv
          exact ⟨v, hy, ih _ _ _ _ hf2 h2⟩
        · obtain ⟨E2, hf2, h2⟩ := putD_fits hf' h
          exact ⟨undef, .inr ⟨hw, rfl⟩, ih _ _ _ _ hf2 h2⟩
      unfold zDo
      cases hkd : kd i with
      | q =>
        rw [hkd] at h
        rw [show (zpOf P kd fl X w0).kd i = .q from hkd]
        exact quiet _ h
      | s =>
        rw [hkd] at h
        rw [show (zpOf P kd fl X w0).kd i = .s from hkd]
        exact quiet _ h
      | a =>
        rw [hkd] at h
        rw [show (zpOf P kd fl X w0).kd i = .a from hkd]
        dsimp only at h ⊢
        split at h
        · rename_i hg
          split at h
          · rename_i hk
            obtain ⟨ob, ptr, ha, h⟩ := allocD_out h
            refine ⟨hg, ob, ptr, (alF_congr (fun x hx => hf.ev (allKnown_mem hk x (by simpa using hx)))).trans ha, fun n w' a1 a2 a3 a4 => ?_⟩
            obtain ⟨E2, hf2, h2⟩ := putD_fits hf (h n w' a1 a2 a3 a4)
            exact ih _ _ _ _ hf2 h2
          · exact h.elim
        · exact h.elim
      | l =>
        rw [hkd] at h
        rw [show (zpOf P kd fl X w0).kd i = .l from hkd]
        dsimp only at h ⊢
        intro w' hw'
        obtain ⟨E', hf', h⟩ := guardD_out hf (h w' hw')
        unfold lOp
        rcases h with ⟨hw, h⟩ | ⟨hw, h⟩
        · rw [if_pos hw]
          obtain ⟨hk, hs⟩ := denOp_known h
          refine (denOp_did hP h).wp hs hf' hk (fun v w2 hv => ?_) fun ch w2 hp => hp
          obtain ⟨h1, h2⟩ := sObl_out hv
          obtain ⟨E2, hf2, h3⟩ := putD_fits hf' h2
          exact ⟨h1, ih _ _ _ _ hf2 h3⟩
        · rw [if_neg (by simp [hw])]
          obtain ⟨h1, h2⟩ := sObl_out h
          obtain ⟨E2, hf2, h3⟩ := putD_fits hf' h2
          exact ⟨h1, ih _ _ _ _ hf2 h3⟩

theorem wpW_grow {z : Zp} {Q : Act → World → Prop} : ∀ (r used : List Nat) (a : Act) (w w' : World), wpW P ops z Q r used a w → Grow w w' → wpW P ops z Q r used a w' := by
  intro r
  induction r with
  | nil => exact fun _ _ _ _ h g w2 h2 => h w2 (g.trans h2)
  | cons i r ih => exact fun _ _ _ _ h g => zStep_grow (fun u a w w' => ih u a w w') g h

theorem denZ_region (hP : OkP P) {id : Nat} {kd : Nat → Zk} {fl : Bool} {X : KX} {order : List Nat} {Q : Exit → Env → World → Prop} {E : Env} {a : Act} {w : World} (hf : Fits N ds E a)
    (hB : zB ops kd order = true) (hlen : Nat.beq order.length ops.size = true) (h : denZ P N ops kd fl X w Q order [] E w) : (Code.region id ops true).wp P (LQ N ds Q) a w := by
  have hd : Grow w { w with drawn := w.drawn + 1 } := (Below.refl _ w).drew
  refine wp_region_z (zpOf_ok P kd fl X w) hP.mixed ?_ (Nat.le_refl _) (Nat.eq_of_beq_eq_true hlen) hB (wpW_grow _ _ _ _ _ (denZ_wp hP _ _ _ _ _ hf h) hd)
  exact (zpOf_ok P kd fl X w).grow _ _ (by cases fl with | true => exact Keeps.refl _ _ | false => trivial) hd
end

def isMem : Op → Bool
  | .load _ _ => true
  | .lookup _ _ _ _ => true
  | .call c => (match c.callee with
    | .value _ => true
    | _ => false)
  | _ => false
def isS : Zk → Bool | .s => true | _ => false
def needsS (ops : Array Oper) : List Nat → Bool
  | [] => false
  | c :: r => match zkOf (c % 4) with
    | .s => (match ops[c / 4]? with
      | some o => (match isMem o.op with
        | true => true
        | false => needsS ops r)
      | none => needsS ops r)
    | _ => needsS ops r
def div4 : List Nat → List Nat
  | [] => []
  | c :: r => c / 4 :: div4 r

/-! ### Code -/
def quietKind : Op → Bool
  | .load _ _ | .nilCheck _ | .indexAddr _ _ _ | .index _ _ _ | .move _ | .assign _ | .pick _ _ _ | .fieldAddr _ _ _ | .field _ _ _ | .extract _ _ | .makeFunc _ _ _
  | .binOp _ _ _ _ _ | .unOp _ _ _ | .convert _ _ _ | .build _ _ | .makeInterface _ _ => true
  | .slice _ _ _ _ none => true
  | .call c => (match c.callee with
    | .value _ => true
    | .builtin .len => true
    | _ => false)
  | _ => false
def allQuiet : List Oper → Bool
  | [] => true
  | o :: r => match quietKind o.op with | true => allQuiet r | false => false

/-- all functions, any depth; in a round of a loop over a function, or in none -/
def FR (rd : Option Nat) : Fence := { fn := fun _ => True, depth := none, alive := false, round := rd }
theorem FR_none : FR none = Fence.wide := rfl
/-- a region left to be met by hand -/
def boxD (P : Program) (N id : Nat) (ops : Array Oper) (Q : Exit → Env → World → Prop) (E : Env) (w : World) : Prop :=
  ∀ rd ds a, Fits N ds E a → (Code.region id ops true).wpIn (FR rd) 0 P (LQ N ds Q) a w

def getAll (E : Env) : List Nat → Option (List Value)
  | [] => some []
  | i :: r => match E.get i with
    | some v => (match getAll E r with
      | some vs => some (v :: vs)
      | none => none)
    | none => none
def zipE : List Nat → List Value → Env
  | i :: is, v :: vs => (i, v) :: zipE is vs
  | _, _ => []

/-- a loop: an invariant with a number that every round lowers -/
def LoopP (step : (List Value → World → Prop) → List Value → World → Prop) (vs : List Value) (w : World) : Prop :=
  ∃ I : Nat → List Value → World → Prop, (∀ k vs w, I k vs w → step (fun vs' w' => ∃ j, j < k ∧ I j vs' w') vs w) ∧ ∃ k, I k vs w
theorem LoopP.rule {step : (List Value → World → Prop) → List Value → World → Prop} (I : Nat → List Value → World → Prop)
    (hs : ∀ k vs w, I k vs w → step (fun vs' w' => ∃ j, j < k ∧ I j vs' w') vs w) (k : Nat) {vs : List Value} {w : World} (h : I k vs w) : LoopP step vs w := ⟨I, hs, k, h⟩

theorem exists_least {p : Nat → Prop} (h : ∃ k, p k) : ∃ k, p k ∧ ∀ j, p j → k ≤ j := by
  obtain ⟨k, hk⟩ := h
  induction k using Nat.strongRecOn with
  | _ k ih =>
    by_cases hj : ∃ j, j < k ∧ p j
    · obtain ⟨j, hlt, hp⟩ := hj; exact ih j hlt hp
    · refine ⟨k, hk, fun j hp => ?_⟩
      rcases Nat.lt_or_ge j k with hlt | hge
      · exact absurd ⟨j, hlt, hp⟩ hj
      · exact hge
open Classical in
noncomputable def leastOf (p : Nat → Prop) : Nat := if h : ∃ k, p k then (exists_least h).choose else 0
theorem leastOf_spec {p : Nat → Prop} (h : ∃ k, p k) : p (leastOf p) ∧ ∀ j, p j → leastOf p ≤ j := by
  unfold leastOf
  rw [dif_pos h]
  exact (exists_least h).choose_spec

def thenD (k : Env → World → Prop) (Q : Exit → Env → World → Prop) : Exit → Env → World → Prop
  | .normal, E, w => k E w
  | .exit j, E, w => Q (.exit j) E w
  | .goto j, E, w => Q (.goto j) E w
  | .ret, E, w => Q .ret E w
  | .panic ch, E, w => Q (.panic ch) E w
  | .outgrown, E, w => Q .outgrown E w
def blockD (id : Nat) (Q : Exit → Env → World → Prop) : Exit → Env → World → Prop
  | .normal, E, w => Q .normal E w
  | .exit j, E, w => (match Nat.beq j id with
    | true => Q .normal E w
    | false => Q (.exit j) E w)
  | .goto j, E, w => Q (.goto j) E w
  | .ret, E, w => Q .ret E w
  | .panic ch, E, w => Q (.panic ch) E w
  | .outgrown, E, w => Q .outgrown E w
def roundD (slots : List Nat) (rec : List Value → World → Prop) (Q : Exit → Env → World → Prop) : Exit → Env → World → Prop
  | .normal, E, w => (match getAll E slots with
    | some vs => rec vs w
    | none => False)
  | .exit j, E, w => Q (.exit j) E w
  | .goto j, E, w => Q (.goto j) E w
  | .ret, E, w => Q .ret E w
  | .panic ch, E, w => Q (.panic ch) E w
  | .outgrown, E, w => Q .outgrown E w

def drawQ (P : Program) (N id : Nat) (ops : Array Oper) (Q : Exit → Env → World → Prop) (E : Env) (w : World) : Prop :=
  match allQuiet ops.toList with
  | true => (match Region.lexB .any ops with
    | true => denQ P N ops w (fun E' => ∀ w', Grow w w' → Q .normal E' w') ops.toList E
    | false => boxD P N id ops Q E w)
  | false => boxD P N id ops Q E w
/-- 'plan': the order, each number four times and the kind of it -/
def drawD (P : Program) (N id : Nat) (plan : List Nat) (ops : Array Oper) (Q : Exit → Env → World → Prop) (E : Env) (w : World) : Prop :=
  match plan with
  | [] => drawQ P N id ops Q E w
  | c :: r => (match zB ops (kdOf (c :: r)) (div4 (c :: r)), Nat.beq (div4 (c :: r)).length ops.size with
    | true, true => (match needsS ops (c :: r) with
      | true => ∃ X, denZ P N ops (kdOf (c :: r)) true X w Q (div4 (c :: r)) [] E w
      | false => denZ P N ops (kdOf (c :: r)) false ⟨[], []⟩ w Q (div4 (c :: r)) [] E w)
    | _, _ => boxD P N id ops Q E w)

def den (P : Program) (N : Nat) (ann : Nat → List Nat) : Code → Nat → (Exit → Env → World → Prop) → Env → World → Prop
  | .skip, _, Q, E, w => Q .normal E w
  | .region id ops draw, _, Q, E, w => (match draw with
    | false => denOps P N ops Q ops.toList E w
    | true => drawD P N id (ann (1000000 + id)) ops Q E w)
  | .seq x y, b, Q, E, w => den P N ann x b (thenD (fun E' w' => den P N ann y b Q E' w') Q) E w
  | .cond c x y, b, Q, E, w => (match ev E c with
    | .bool t => (match known E c with
      | true => br t (den P N ann x b Q E w) (den P N ann y b Q E w)
      | false => False)
    | _ => False)
  | .block id c, _, Q, E, w => den P N ann c id (blockD id Q) E w
  | .loop c, b, Q, E, w => (match getAll E (ann b) with
    | some vs => LoopP (fun rec vs' w' => den P N ann c b (roundD (ann b) rec Q) (zipE (ann b) vs') w') vs w
    | none => False)
  | .exit id, _, Q, E, w => Q (.exit id) E w
  | .ret, _, Q, E, w => Q .ret E w
  | _, _, _, _, _ => False

section
variable {P : Program} {N : Nat} {ds : List Deferred}

theorem fits_zip {E : Env} {a : Act} (hf : Fits N ds E a) : ∀ {slots : List Nat} {vs : List Value}, getAll E slots = some vs → Fits N ds (zipE slots vs) a := by
  intro slots
  induction slots with
  | nil =>
    intro vs h
    exact ⟨hf.defers, hf.size, fun i v hv => by simp [zipE, Env.get] at hv⟩
  | cons i slots ih =>
    intro vs h
    unfold getAll at h
    split at h
    · rename_i v hv
      split at h
      · rename_i vs' hvs
        cases h
        have := ih hvs
        refine ⟨hf.defers, hf.size, fun j u hu => ?_⟩
        simp only [zipE] at hu
        unfold Env.get at hu
        split at hu
        · rename_i he
          have := Nat.eq_of_beq_eq_true he
          subst this
          cases hu
          exact hf.val _ _ hv
        · exact this.val _ _ hu
      · cases h
    · cases h

theorem LQ_then {k : Env → World → Prop} {Q : Exit → Env → World → Prop} {R : Act → World → Prop} (hk : ∀ E a w, Fits N ds E a → k E w → R a w) :
    ∀ e a w, LQ N ds (thenD k Q) e a w → Exit.then R (LQ N ds Q) e a w := by
  rintro e a w ⟨E, hf, h⟩
  cases e <;> first | exact hk _ _ _ hf h | exact ⟨E, hf, h⟩
theorem LQ_block {id : Nat} {Q : Exit → Env → World → Prop} : ∀ e a w, LQ N ds (blockD id Q) e a w → Exit.inBlock id (LQ N ds Q) e a w := by
  rintro e a w ⟨E, hf, h⟩
  cases e with
  | exit j =>
    simp only [Exit.inBlock]
    simp only [blockD] at h
    split at h
    · rename_i he; rw [if_pos (Nat.eq_of_beq_eq_true he)]; exact ⟨E, hf, h⟩
    · rename_i he; rw [if_neg (fun hc => by subst hc; simp at he)]; exact ⟨E, hf, h⟩
  | _ => exact ⟨E, hf, h⟩

theorem den_wp (hP : OkP P) (ann : Nat → List Nat) : ∀ (c : Code) (b : Nat) (Q : Exit → Env → World → Prop) (E : Env) (a : Act) (w : World), Fits N ds E a → den P N ann c b Q E w →
    c.wp P (LQ N ds Q) a w := by
  intro c
  induction c with
  | skip => exact fun b Q E a w hf h => wp_skip ⟨E, hf, h⟩
  | region id ops draw =>
    intro b Q E a w hf h
    cases draw with
    | false => exact denRegion_wp hP hf h
    | true =>
      simp only [den, drawD] at h
      split at h
      · unfold drawQ at h
        split at h
        · split at h
          · rename_i hB; exact denDraw_wp hP hf hB h
          · exact wpIn_wide.1 (h none ds a hf)
        · exact wpIn_wide.1 (h none ds a hf)
      · split at h
        · rename_i hB hlen
          split at h
          · obtain ⟨X, h⟩ := h; exact denZ_region hP hf hB hlen h
          · exact denZ_region hP hf hB hlen h
        · exact wpIn_wide.1 (h none ds a hf)
  | seq x y ihx ihy =>
    intro b Q E a w hf h
    exact wp_seq (wp_mono (ihx b _ E a w hf h) (LQ_then fun E' a' w' hf' h' => ihy b Q E' a' w' hf' h'))
  | cond c x y ihx ihy =>
    intro b Q E a w hf h
    simp only [den] at h
    split at h
    · rename_i t ht
      split at h
      · rename_i hk
        have he := hf.ev hk
        rw [ht] at he
        refine wp_cond he ?_
        cases t with
        | true => exact ihx b Q E a w hf h
        | false => exact ihy b Q E a w hf h
      · exact h.elim
    · exact h.elim
  | block id c ih => exact fun b Q E a w hf h => wp_block (wp_mono (ih id _ E a w hf h) LQ_block)
  | loop c ih =>
    intro b Q E a w hf h
    simp only [den] at h
    split at h
    · rename_i vs hvs
      obtain ⟨I, hstep, k0, h0⟩ := h
      let J : Act → World → Nat → Prop := fun a w k => ∃ vs, Fits N ds (zipE (ann b) vs) a ∧ I k vs w
      refine wp_loop (fun a w => ∃ k, J a w k) (fun a w => leastOf (J a w)) ⟨k0, vs, fits_zip hf hvs, h0⟩ ?_
      intro a w hI
      obtain ⟨⟨vs, hfv, hv⟩, _⟩ := leastOf_spec hI
      refine wp_mono (ih b _ _ a w hfv (hstep _ vs w hv)) ?_
      rintro e a' w' ⟨E', hf', h'⟩
      cases e with
      | normal =>
        simp only [roundD] at h'
        split at h'
        · rename_i vs' hvs'
          obtain ⟨j, hj, hIj⟩ := h'
          have hJ : J a' w' j := ⟨vs', fits_zip hf' hvs', hIj⟩
          exact ⟨⟨j, hJ⟩, Nat.lt_of_le_of_lt ((leastOf_spec ⟨j, hJ⟩).2 j hJ) hj⟩
        · exact h'.elim
      | _ => exact ⟨E', hf', h'⟩
    · exact h.elim
  | exit id => exact fun b Q E a w hf h => wp_exit ⟨E, hf, h⟩
  | ret => exact fun b Q E a w hf h => wp_ret ⟨E, hf, h⟩
  | _ => intros; contradiction

/-! ### A whole function -/
def resD (P : Program) : List ResultVar → Env → World → (List Value → Prop) → Prop
  | [], _, _, K => K []
  | .tmp t :: r, E, w, K => (match E.get t with
    | some v => resD P r E w fun vs => K (v :: vs)
    | none => False)
  | .cell t T :: r, E, w, K => (match E.get t with
    | some (.pointer p) => getSome p fun ad => RdV P w T ad fun v => resD P r E w fun vs => K (v :: vs)
    | _ => False)
def retV : List Value → Value
  | [v] => v
  | vs => .tuple vs.toArray
def bodyQ (P : Program) (fn : Func) (R : Ending → World → Prop) : Exit → Env → World → Prop
  | .normal, E, w => resD P fn.results.toList E w fun vs => R (.returned (retV vs)) w
  | .ret, E, w => resD P fn.results.toList E w fun vs => R (.returned (retV vs)) w
  | .panic ch, _, w => R (.panicked ch) w
  | _, _, _ => False
def argE : Nat → List Value → Env
  | _, [] => []
  | i, v :: vs => (i, v) :: argE (i + 1) vs

theorem resD_run {E : Env} {a : Act} (hf : Fits N ds E a) {w : World} : ∀ {rs : List ResultVar} {K : List Value → Prop}, resD P rs E w K →
    ∃ vs, (rs.mapM (m := Sem) fun | .tmp t => pure (a.tmps.getD t undef) | .cell t T => do loadVar T (← asAddr (a.tmps.getD t undef))).run P w = .ok vs w ∧ K vs := by
  intro rs
  induction rs with
  | nil => exact fun h => ⟨[], rfl, h⟩
  | cons r rs ih =>
    intro K h
    cases r with
    | tmp t =>
      simp only [resD] at h
      split at h
      · rename_i v hv
        have hv' := hf.val _ _ hv
        obtain ⟨vs, hr, hk⟩ := ih h
        refine ⟨v :: vs, ?_, hk⟩
        rw [List.mapM_cons]
        simp only [Sem.run_bind, Sem.run_pure, Result.andThen_ok, hr]
        simp [Array.getD_eq_getD_getElem?, hv']
      · exact h.elim
    | cell t T =>
      simp only [resD] at h
      split at h
      · rename_i p hv
        have hv' := hf.val _ _ hv
        obtain ⟨ad, rfl, h1⟩ := getSome_out h
        obtain ⟨v, hr1, h2⟩ := RdV.run h1
        obtain ⟨vs, hr, hk⟩ := ih h2
        refine ⟨v :: vs, ?_, hk⟩
        rw [List.mapM_cons]
        have e : a.tmps.getD t undef = .pointer (some ad) := by simp [Array.getD_eq_getD_getElem?, hv']
        have ea : (asAddr (Value.pointer (some ad))).run P w = .ok ad w := rfl
        simp only [Sem.run_bind, e, ea, Sem.run_pure, Result.andThen_ok, hr1, hr]
      · exact h.elim

theorem retV_eq (vs : Array Value) : (if h : vs.size = 1 then vs[0] else .tuple vs) = retV vs.toList := by
  obtain ⟨l⟩ := vs
  match l with
  | [] => rfl
  | [v] => rfl
  | v :: u :: r => simp [retV]

theorem bodyQ_post {fn : Func} {R : Ending → World → Prop} : ∀ e a w, LQ N [] (bodyQ P fn R) e a w → bodyPost P fn R e a w := by
  rintro e a w ⟨E, hf, h⟩
  have fin : resD P fn.results.toList E w (fun vs => R (.returned (retV vs)) w) → a.defers = [] ∧ ∃ v, (results fn a.tmps).run P w = .ok v w ∧ R (.returned v) w := by
    intro h
    obtain ⟨vs, hr, hk⟩ := resD_run hf h
    refine ⟨hf.defers, retV vs, ?_, hk⟩
    unfold results
    rw [Array.mapM_eq_mapM_toList]
    simp only [Sem.run_bind, Sem.run_map, Sem.run_pure]
    have fin : ∀ X : Result (List Value), X = .ok vs w → ((X.andThen fun a w' => Result.ok a.toArray w').andThen fun a w' => Result.ok (if h : a.size = 1 then a[0] else Value.tuple a) w') = .ok (retV vs) w := by
      rintro _ rfl
      simp only [Result.andThen_ok]
      rw [retV_eq]
    exact fin _ hr
  cases e with
  | normal => exact fin h
  | ret => exact fin h
  | panic ch => exact ⟨hf.defers, h⟩
  | exit id => exact h
  | goto l => exact h
  | outgrown => exact h.elim

theorem argE_get : ∀ (vs : List Value) (i j : Nat) (v : Value), (argE i vs).get j = some v → i ≤ j ∧ vs[j - i]? = some v := by
  intro vs
  induction vs with
  | nil => intro i j v h; simp [argE, Env.get] at h
  | cons u vs ih =>
    intro i j v h
    simp only [argE] at h
    unfold Env.get at h
    split at h
    · rename_i he
      have := Nat.eq_of_beq_eq_true he
      subst this
      cases h
      simp
    · obtain ⟨h1, h2⟩ := ih _ _ _ h
      refine ⟨by omega, ?_⟩
      rw [show j - i = (j - (i + 1)) + 1 by omega]
      simpa using h2

theorem calls_of_den (hP : OkP P) (ann : Nat → List Nat) {f : FuncId} {fn : Func} {c : Code} {args : List Value} {w : World} {R : Ending → World → Prop}
    (hf : P.funcs[f]? = some fn) (hb : fn.body = some c) (hn : args.length ≤ fn.ntmps) (h : den P fn.ntmps ann c 0 (bodyQ P fn R) (argE 0 args) w) :
    Calls P f args.toArray w R := by
  refine calls_of_wp hf hb ?_
  refine wp_mono (den_wp (ds := []) hP ann c 0 _ _ _ w ⟨rfl, by simp; omega, ?_⟩ h) bodyQ_post
  intro i v hv
  obtain ⟨_, h2⟩ := argE_get _ _ _ _ hv
  have : i < args.length := (List.getElem?_eq_some_iff.1 (by simpa using h2)).1
  have h3 : args[i]? = some v := by simpa using h2
  rw [Array.getElem?_append_left (by simpa using this)]
  simpa using h3
end
end Go.Den
