/- What one operation asks and leaves, over the heap alone, in a form that the kernel reckons out. -/
import Derived.Test.YtoemipeomingaaaDoorVcgA
import Derived.Laws.StructEq
import Derived.Lib.Strings
namespace Go.V
open Go

/-! ### The types' table -/
structure Ty where
  desc : TypeDesc
  size : Nat
  bytes : Nat
  zero : Value
abbrev Tab := List (Nat × Ty)
def tget : Tab → Nat → Option Ty
  | [], _ => none
  | (k, i) :: r, t => match Nat.beq k t with
    | true => some i
    | false => tget r t
structure TabOk (P : Program) (T : Tab) : Prop where
  und : ∀ t i, tget T t = some i → P.underlying t = some i.desc
  info : ∀ t i, tget T t = some i → ∃ j, P.info? t = some j ∧ j.size = i.size ∧ j.bytes = i.bytes ∧ j.zero = some i.zero
theorem tget_mem : ∀ (T : Tab) (t : Nat) (i : Ty), tget T t = some i → (t, i) ∈ T
  | [], _, _, h => by cases h
  | (k, j) :: r, t, i, h => by
    unfold tget at h
    split at h
    · rename_i hb
      have : k = t := Nat.eq_of_beq_eq_true hb
      subst this
      cases h
      exact List.mem_cons_self
    · exact List.mem_cons_of_mem _ (tget_mem r t i h)
theorem TabOk.of {P : Program} {T : Tab}
    (h : T.map (fun x => (P.underlying x.1, (P.info? x.1).map fun j => (j.size, j.bytes, j.zero))) = T.map fun x => (some x.2.desc, some (x.2.size, x.2.bytes, some x.2.zero))) : TabOk P T := by
  have key : ∀ t i, tget T t = some i → P.underlying t = some i.desc ∧ (P.info? t).map (fun j => (j.size, j.bytes, j.zero)) = some (i.size, i.bytes, some i.zero) := by
    intro t i hi
    have hm := tget_mem T t i hi
    have := List.map_inj_left.1 h _ hm
    simpa using this
  refine ⟨fun t i hi => (key t i hi).1, fun t i hi => ?_⟩
  have h2 := (key t i hi).2
  cases hq : P.info? t with
  | none => rw [hq] at h2; simp at h2
  | some j =>
    rw [hq] at h2
    simp only [Option.map_some, Option.some.injEq, Prod.mk.injEq] at h2
    exact ⟨j, rfl, h2.1, h2.2.1, h2.2.2⟩

/-! ### Values of a type -/
def ex1 (T : Tab) (t : Nat) (F : Value → Prop) : Prop :=
  match tget T t with
  | some i => match i.desc with
    | .int k => ∃ n : Int, F (.int k n)
    | .bool => ∃ b : Bool, F (.bool b)
    | .string => ∃ l : List UInt8, F (.string ⟨⟨l⟩⟩)
    | .pointer _ => ∃ a : Option Addr, F (.pointer a)
    | .slice _ => ∃ (a : Option Addr) (l c : Nat), F (.slice a l c)
    | .map _ _ => ∃ r : Option Nat, F (.map r)
    | .struct _ => ∃ cs : Array Value, F (.agg cs)
    | .array _ _ => ∃ cs : Array Value, F (.agg cs)
    | _ => ∃ v, F v
  | none => ∃ v, F v
theorem ex1_out {T : Tab} {t : Nat} {F : Value → Prop} (h : ex1 T t F) : ∃ v, F v := by
  unfold ex1 at h
  split at h
  · split at h <;> first
      | (obtain ⟨a, l, c, hh⟩ := h; exact ⟨_, hh⟩)
      | (obtain ⟨n, hh⟩ := h; exact ⟨_, hh⟩)
  · exact h
def exL (T : Tab) : List Nat → (List Value → Prop) → Prop
  | [], F => F []
  | t :: r, F => ex1 T t fun v => exL T r fun vs => F (v :: vs)
theorem exL_out {T : Tab} : ∀ (ts : List Nat) (F : List Value → Prop), exL T ts F → ∃ vs, F vs
  | [], _, h => ⟨[], h⟩
  | t :: r, F, h => by
    obtain ⟨v, h1⟩ := ex1_out h
    obtain ⟨vs, h2⟩ := exL_out r _ h1
    exact ⟨_, h2⟩
def exTy (T : Tab) (t : Nat) (F : Value → Prop) : Prop :=
  match tget T t with
  | some i => match i.desc with
    | .tuple ts => exL T ts.toList fun vs => F (.tuple ⟨vs⟩)
    | _ => ex1 T t F
  | none => ex1 T t F
theorem exTy_out {T : Tab} {t : Nat} {F : Value → Prop} (h : exTy T t F) : ∃ v, F v := by
  unfold exTy at h
  split at h
  · split at h
    · obtain ⟨vs, hh⟩ := exL_out _ _ h; exact ⟨_, hh⟩
    · exact ex1_out h
  · exact ex1_out h
def all1 (T : Tab) (t : Nat) (F : Value → Prop) : Prop :=
  match tget T t with
  | some i => match i.desc with
    | .int k => ∀ n : Int, F (.int k n)
    | .bool => ∀ b : Bool, F (.bool b)
    | .string => ∀ l : List UInt8, F (.string ⟨⟨l⟩⟩)
    | .pointer _ => ∀ a : Option Addr, F (.pointer a)
    | .slice _ => ∀ (a : Option Addr) (l c : Nat), F (.slice a l c)
    | .map _ _ => ∀ r : Option Nat, F (.map r)
    | .struct _ => ∀ cs : Array Value, F (.agg cs)
    | .array _ _ => ∀ cs : Array Value, F (.agg cs)
    | _ => ∀ v, F v
  | none => ∀ v, F v
def is1 (T : Tab) (t : Nat) (v : Value) : Prop :=
  match tget T t with
  | some i => match i.desc with
    | .int k => ∃ n : Int, v = .int k n
    | .bool => ∃ b : Bool, v = .bool b
    | .string => ∃ l : List UInt8, v = .string ⟨⟨l⟩⟩
    | .pointer _ => ∃ a : Option Addr, v = .pointer a
    | .slice _ => ∃ (a : Option Addr) (l c : Nat), v = .slice a l c
    | .map _ _ => ∃ r : Option Nat, v = .map r
    | .struct _ => ∃ cs : Array Value, v = .agg cs
    | .array _ _ => ∃ cs : Array Value, v = .agg cs
    | _ => True
  | none => True
theorem all1_at {T : Tab} {t : Nat} {F : Value → Prop} (h : all1 T t F) {v : Value} (hv : is1 T t v) : F v := by
  unfold all1 at h
  unfold is1 at hv
  cases hq : tget T t with
  | none => rw [hq] at h; exact h v
  | some i =>
    rw [hq] at h hv
    obtain ⟨d, _, _, _⟩ := i
    cases d <;> dsimp only at h hv <;> first
      | (obtain ⟨a, l, c, rfl⟩ := hv; exact h _ _ _)
      | (obtain ⟨n, rfl⟩ := hv; exact h _)
      | exact h _

/-! ### Statements on the model's terms -/
/-- a term that touches nothing -/
def PureV {α : Type} (P : Program) (s : Sem α) (v : α) : Prop := ∀ w, s.run P w = .ok v w
/-- a term that reads, and gives v in every heap that has H's blocks -/
def HeapV {α : Type} (P : Program) (s : Sem α) (H : Heap) (v : α) : Prop := ∀ w, Ext H w.heap → s.run P w = .ok v w
/-- a term that acts -/
def SemH {α : Type} (P : Program) (s : Sem α) (H : Heap) (R : α → Heap → Prop) : Prop := ∀ w, w.heap = H → ∃ v w', s.run P w = .ok v w' ∧ Same w w' ∧ R v w'.heap
/-- a call, over the heap alone -/
def CallsH (P : Program) (f : FuncId) (args : Array Value) (H : Heap) (R : Value → Heap → Prop) : Prop :=
  ∀ w, w.heap = H → Calls P f args w fun e w' => ∃ v, e = .returned v ∧ Same w w' ∧ R v w'.heap
theorem CallsH.mono {P : Program} {f : FuncId} {args : Array Value} {H : Heap} {R R' : Value → Heap → Prop} (h : CallsH P f args H R) (hr : ∀ v H', R v H' → R' v H') : CallsH P f args H R' :=
  fun w hw => (h w hw).mono fun _ _ ⟨v, he, hs, hR⟩ => ⟨v, he, hs, hr _ _ hR⟩
theorem SemH.mono {α : Type} {P : Program} {s : Sem α} {H : Heap} {R R' : α → Heap → Prop} (h : SemH P s H R) (hr : ∀ v H', R v H' → R' v H') : SemH P s H R' :=
  fun w hw => let ⟨v, w', h1, h2, h3⟩ := h w hw; ⟨v, w', h1, h2, hr _ _ h3⟩

/-- n cells from a on -/
def RdN (H : Heap) (a : Addr) (n : Nat) (cs : Array Value) : Prop := cs.size = n ∧ ∀ i, i < n → cellAt H (a.add i) = cs[i]?
theorem run_load_cell {P : Program} {w : World} {a : Addr} {v : Value} (h : cellAt w.heap a = some v) (m : Mode) : (load a m).run P w = .ok v w := by
  rw [run_load]
  rw [cellAt_eq, h]
def isAggD : TypeDesc → Bool
  | .struct _ | .array _ _ => true
  | _ => false
theorem run_isAgg {P : Program} {t : Nat} {d : TypeDesc} (h : P.underlying t = some d) (w : World) : (isAgg t).run P w = .ok (isAggD d) w := by
  unfold isAgg
  rw [Sem.run_bind, run_underlying h]
  cases d <;> rfl
theorem run_sizeOf {P : Program} {t : Nat} {j : TypeInfo} (h : P.info? t = some j) (w : World) : (sizeOf t).run P w = .ok j.size w := by
  simp [sizeOf, typeInfo, h]
theorem run_loadVar_agg {P : Program} {T : Tab} (hT : TabOk P T) {t : Nat} {i : Ty} (hi : tget T t = some i) (ha : isAggD i.desc = true) {a : Addr} {cs : Array Value} {w : World}
    (h : RdN w.heap a i.size cs) : (loadVar t a).run P w = .ok (.agg cs) w := by
  obtain ⟨j, hj, hs, _, _⟩ := hT.info t i hi
  have hl : (loadCells a cs.toList.length).run P w = .ok cs.toList.toArray w :=
    run_loadCells_list (P := P) w a cs.toList (fun k v hk => by
      have hlt : k < cs.size := by
        rcases Nat.lt_or_ge k cs.toList.length with hl | hl
        · simpa using hl
        · rw [List.getElem?_eq_none hl] at hk; cases hk
      rw [cellAt_eq, h.2 k (by rw [← h.1]; exact hlt)]
      simpa using hk)
  simp only [loadVar, Sem.run_bind, run_isAgg (hT.und t i hi), Result.andThen_ok, ha, if_true, run_sizeOf hj, hs]
  rw [← h.1, ← Array.length_toList, hl]
  simp
theorem run_loadVar_one {P : Program} {T : Tab} (hT : TabOk P T) {t : Nat} {i : Ty} (hi : tget T t = some i) (ha : isAggD i.desc = false) {a : Addr} {v : Value} {w : World}
    (h : cellAt w.heap a = some v) : (loadVar t a).run P w = .ok v w := by
  simp only [loadVar, Sem.run_bind, run_isAgg (hT.und t i hi), Result.andThen_ok, ha, Bool.false_eq_true, if_false, run_load_cell h]
theorem RdN.ext {H H' : Heap} (h : Ext H H') {a : Addr} {n : Nat} {cs : Array Value} (hr : RdN H a n cs) : RdN H' a n cs :=
  ⟨hr.1, fun i hi => by
    have h1 := hr.2 i hi
    have hv : cs[i]? = some (cs[i]'(by rw [hr.1]; exact hi)) := Array.getElem?_eq_getElem (by rw [hr.1]; exact hi)
    rw [hv] at h1 ⊢
    exact h.cell h1⟩
end Go.V
