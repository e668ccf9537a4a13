/- The operations that act, over the heap alone. -/
import Derived.Test.YtoemipeomingaaaDoorVcgD
namespace Go.V
open Go

/-- a new block g of the cells cs, of element type t -/
structure NewB (H : Heap) (t : TypeId) (cs : Array Value) (g : Nat) (H1 : Heap) : Prop where
  at_ : g = H.size
  eq : H1 = H.push (.cells cs t)
def frozenAt (H : Heap) (a : Addr) : Bool :=
  match H[a.block]? with
  | some (.cells _ _ (lo, hi)) => lo ≤ a.off && a.off < hi
  | _ => false
def setC (H : Heap) (a : Addr) (v : Value) : Heap :=
  H.modify a.block fun
    | .cells c elem frozen => .cells (if a.spot.isSome then c else c.setIfInBounds a.off v) elem frozen
    | o => o
def wr1 (H : Heap) (a : Addr) (v : Value) : Option Heap :=
  if v.oneCell' && (cellAt H a).isSome && !(frozenAt H a) then some (setC H a v) else none
def wrN (H : Heap) (a : Addr) : List Value → Nat → Option Heap
  | [], _ => some H
  | v :: r, i => match wr1 H (a.add i) v with
    | some H1 => wrN H1 a r (i + 1)
    | none => none
theorem run_store_wr1 {P : Program} {w : World} {a : Addr} {v : Value} {H1 : Heap} (h : wr1 w.heap a v = some H1) : ∃ w', (store a v).run P w = .ok () w' ∧ Same w w' ∧ w'.heap = H1 := by
  unfold wr1 at h
  split at h
  · rename_i hc
    simp only [Bool.and_eq_true, Bool.not_eq_true'] at hc
    obtain ⟨⟨h1, h2⟩, h3⟩ := hc
    obtain ⟨u, hu⟩ := Option.isSome_iff_exists.1 h2
    have e3 : w.frozen? a = false := h3
    cases h
    refine ⟨w.setCell a v, ?_, ⟨rfl, rfl, rfl, Nat.le_refl _⟩, rfl⟩
    rw [run_store P w a v .plain h1, cellAt_eq, hu]
    simp [e3]
  · cases h
theorem run_storeCells_wrN {P : Program} {a : Addr} {H1 : Heap} : ∀ (vs : List Value) (i : Nat) (w : World), wrN w.heap a vs i = some H1 → ∃ w', (storeCells a vs i).run P w = .ok () w' ∧ Same w w' ∧ w'.heap = H1
  | [], i, w, h => by cases h; exact ⟨w, rfl, Same.refl _, rfl⟩
  | v :: r, i, w, h => by
    unfold wrN at h
    split at h
    · rename_i H2 h2
      obtain ⟨w2, e2, s2, rfl⟩ := run_store_wr1 (P := P) h2
      obtain ⟨w3, e3, s3, h3⟩ := run_storeCells_wrN (P := P) r (i + 1) w2 h
      exact ⟨w3, by simp [storeCells, e2, e3], s2.trans s3, h3⟩
    · cases h

def memb : Nat → List Nat → Bool
  | _, [] => false
  | x, y :: r => match Nat.beq x y with
    | true => true
    | false => memb x r
def stVC (T : Tab) (H : Heap) (t : Nat) (ad : Addr) (v : Value) (F : Value → Heap → Prop) : Prop :=
  match tget T t with
  | some i => match v with
    | .agg cs => ∃ H1, cs.size = i.size ∧ wrN H ad cs.toList 0 = some H1 ∧ F undef H1
    | v => match i.size with
      | 1 => ∃ H1, wr1 H ad v = some H1 ∧ F undef H1
      | _ => False
  | none => False
def bSem (b : Builtin) (ats : Array TypeId) (ty : TypeId) (vs : List Value) : Sem Value :=
  match b with
  | .append => Builtin.append_ ats ty ⟨vs⟩
  | .copy => Builtin.copy_ ats ty ⟨vs⟩
  | .delete => Builtin.delete_ ats ty ⟨vs⟩
  | .clear => Builtin.clear_ ats ty ⟨vs⟩
  | _ => stuck "bSem"
/-- a call of a function without a text: it answers at once -/
def SemX (P : Program) (f : FuncId) (args : Array Value) (H : Heap) (R : Value → Heap → Prop) : Prop :=
  ∀ w, w.heap = H → ∃ v w', (callFunc f args).run P w = .ok (.value v) w' ∧ Same w w' ∧ R v w'.heap
def effVC (P : Program) (T : Tab) (fs : List Nat) (ρ : Operand → Option Value) (H : Heap) (o : Oper) (F : Value → Heap → Prop) : Prop :=
  match o.op with
  | .alloc t => match tget T t with
    | some i => ∀ g H1, NewB H t i.zero.cells g H1 → F (.pointer (some ⟨g, 0, none⟩)) H1
    | none => False
  | .box t x => match ρ x with
    | some v => ∀ g H1, NewB H t v.cells g H1 → F (.pointer (some ⟨g, 0, none⟩)) H1
    | none => False
  | .store t x y => match ρ x, ρ y with
    | some (.pointer (some ad)), some v => stVC T H t ad v F
    | _, _ => False
  | .buildSlice t n ps => match evp ρ ps.toList with
    | some vs => SemH P (Instr.buildSlice t n ⟨vs⟩) H fun v H1 => exTy T t fun u => v = u ∧ F u H1
    | none => False
  | .call c => match c.callee with
    | .value f => match ρ f, evs ρ c.args.toList with
      | some (.func (.func fid) p cap), some vs => match memb fid fs with
        | true => CallsH P fid ⟨p.toList ++ (vs ++ cap.toList)⟩ H fun v H1 => exTy T o.type fun u => v = u ∧ F u H1
        | false => SemX P fid ⟨p.toList ++ (vs ++ cap.toList)⟩ H fun v H1 => exTy T o.type fun u => v = u ∧ F u H1
      | _, _ => False
    | .builtin b => match evs ρ c.args.toList with
      | some vs => SemH P (bSem b c.argTypes o.type vs) H fun v H1 => exTy T o.type fun u => v = u ∧ F u H1
      | none => False
    | _ => False
  | .makeSlice t l c => match ρ l, ρ c with
    | some u, some v => SemH P (Instr.makeSlice t u v) H fun v H1 => exTy T t fun u => v = u ∧ F u H1
    | _, _ => False
  | .makeMap t r => match evo ρ r with
    | some u => SemH P (Instr.makeMap t u) H fun v H1 => exTy T t fun u => v = u ∧ F u H1
    | none => False
  | .mapUpdate t m k x => match ρ m, ρ k, ρ x with
    | some u, some v, some z => SemH P (Instr.mapUpdate t u v z) H fun _ H1 => F undef H1
    | _, _, _ => False
  | .insert t m k x => match ρ m, ρ k, ρ x with
    | some u, some v, some z => SemH P (Instr.mapUpdate t u v z) H fun _ H1 => F undef H1
    | _, _, _ => False
  | .convert s d x => match ρ x with
    | some u => SemH P (convert s d u) H fun v H1 => exTy T d fun u => v = u ∧ F u H1
    | none => False
  | .range t x => match ρ x with
    | some u => SemH P (Instr.range t u) H fun v H1 => F v H1
    | none => False
  | .next it isS => match ρ it with
    | some u => SemH P (Instr.next u isS o.type) H fun v H1 => ∃ (b : Bool) (r : List Value), v = .tuple ⟨.bool b :: r⟩ ∧ F (.tuple ⟨.bool b :: r⟩) H1
    | none => False
  | _ => False

section
variable {P : Program} {T : Tab} {fs : List Nat}

theorem exTy_eq {t : Nat} {v : Value} {F : Value → Prop} (h : exTy T t fun u => v = u ∧ F u) : F v := by
  obtain ⟨u, rfl, h⟩ := exTy_out h
  exact h

/-- what is asked behind an operation: its slot is filled, the streams are as they were, F of its value and of the heap -/
def Done (o : Oper) (a : Act) (w : World) (F : Value → Heap → Prop) : Act → World → Prop := fun a' w' => ∃ v, a' = a.put o.dst v ∧ Same w w' ∧ F v w'.heap

theorem up_sem {o : Oper} {a : Act} {w : World} {F : Value → Heap → Prop} {s : Sem Value} {R : Value → Heap → Prop} (h : SemH P s w.heap R) (hR : ∀ v H1, R v H1 → F v H1) :
    upX P o a (Done o a w F) ((do pure (.value (← s)) : Sem Next).run P w) := by
  obtain ⟨v, w', h1, h2, h3⟩ := h w rfl
  rw [Sem.run_bind, h1]
  exact ⟨v, rfl, h2, hR _ _ h3⟩
theorem up_unit {o : Oper} {a : Act} {w : World} {F : Value → Heap → Prop} {s : Sem Unit} {R : Unit → Heap → Prop} (h : SemH P s w.heap R) (hR : ∀ v H1, R v H1 → F undef H1) :
    upX P o a (Done o a w F) ((do s; pure .skip : Sem Next).run P w) := by
  obtain ⟨v, w', h1, h2, h3⟩ := h w rfl
  rw [Sem.run_bind, h1]
  exact ⟨undef, rfl, h2, hR _ _ h3⟩
theorem sem_new {t : TypeId} {cs : Array Value} {H : Heap} {F : Value → Heap → Prop} (h : ∀ g H1, NewB H t cs g H1 → F (.pointer (some ⟨g, 0, none⟩)) H1) {v : Value} (hv : v.cells = cs) :
    SemH P (do pure (Value.pointer (some (← newVar t v))) : Sem Value) H F := fun w hw =>
  ⟨.pointer (some ⟨w.heap.size, 0, none⟩), { w with heap := w.heap.push (.cells cs t) }, by simp [newVar, newRow, hv], ⟨rfl, rfl, rfl, Nat.le_refl _⟩, h _ _ ⟨by rw [← hw], by rw [← hw]⟩⟩

theorem eff_sound (hT : TabOk P T) (hfs : ∀ f, memb f fs = true → ∀ args w, (callFunc f args).run P w = .ok (.enter f args) w) {ρ : Operand → Option Value} {a : Act}
    (hρ : ∀ x v, ρ x = some v → a.eval x = v) {o : Oper} {F : Value → Heap → Prop} {w : World} (h : effVC P T fs ρ w.heap o F) :
    upX P o a (Done o a w F) ((execOp a.eval o).run P w) := by
  obtain ⟨dst, op, ty, pos, after, guard⟩ := o
  unfold effVC at h
  dsimp only at h
  split at h
  · rename_i t
    split at h
    · rename_i i hi
      obtain ⟨j, hj, hs, hb, hz⟩ := hT.info t i hi
      refine up_sem (s := Instr.alloc t true (.tuple #[])) (R := F) ?_ (fun _ _ h => h)
      intro w2 hw2
      obtain ⟨v, w', h1, h2, h3⟩ := sem_new (P := P) h rfl w2 hw2
      refine ⟨v, w', ?_, h2, h3⟩
      rw [← h1]
      simp [Instr.alloc, zeroValue, typeInfo, hj, hz]
    · exact h.elim
  · rename_i t x
    split at h
    · rename_i v hv
      simp only [execOp, hρ _ _ hv, Instr.box]
      exact up_sem (sem_new (P := P) h rfl) (fun _ _ h => h)
    · exact h.elim
  · rename_i t x y
    split at h
    · rename_i ad v hx hy
      simp only [execOp, hρ _ _ hx, hρ _ _ hy, Instr.storeAt, Instr.sureAddr]
      unfold stVC at h
      split at h
      · rename_i i hi
        obtain ⟨j, hj, hs, _, _⟩ := hT.info t i hi
        split at h
        · rename_i cs
          obtain ⟨H1, hc, hw, hF⟩ := h
          refine up_unit (R := fun _ H1 => F undef H1) (fun w2 hw2 => ?_) (fun _ _ h => h)
          rw [← hw2] at hw
          obtain ⟨w', h1, h2, h3⟩ := run_storeCells_wrN (P := P) _ _ w2 hw
          exact ⟨(), w', by simp [storeVar, Value.cells, run_sizeOf hj, hs, hc, h1], h2, by rw [h3]; exact hF⟩
        · rename_i _ hagg
          split at h
          · rename_i h1s
            obtain ⟨H1, hw, hF⟩ := h
            refine up_unit (R := fun _ H1 => F undef H1) (fun w2 hw2 => ?_) (fun _ _ h => h)
            rw [← hw2] at hw
            obtain ⟨w', h1, h2, h3⟩ := run_store_wr1 (P := P) hw
            have hcells : v.cells = #[v] := by
              cases v <;> first | rfl | exact (hagg _ rfl).elim
            exact ⟨(), w', by simp [storeVar, hcells, run_sizeOf hj, hs, h1s, storeCells, h1, Addr.add], h2, by rw [h3]; exact hF⟩
          · exact h.elim
      · exact h.elim
    · exact h.elim
  · rename_i t n ps
    split at h
    · rename_i vs hv
      have e := evp_sound hρ _ _ hv
      have e' : (ps.map fun (i, x) => (i, a.eval x)) = ⟨vs⟩ := by
        apply Array.ext'
        simp [← e]
      simp only [execOp, e']
      exact up_sem h (fun _ _ hh => exTy_eq hh)
    · exact h.elim
  · rename_i cl
    obtain ⟨callee, args, ats⟩ := cl
    dsimp only at h
    split at h
    · rename_i f
      split at h
      · rename_i fid p cap vs hf hv
        split at h
        · rename_i hm
          have e := evs_sound hρ _ _ hv
          have e' : args.map a.eval = ⟨vs⟩ := by apply Array.ext'; simp [← e]
          have e2 : p ++ (⟨vs⟩ : Array Value) ++ cap = ⟨p.toList ++ (vs ++ cap.toList)⟩ := by apply Array.ext'; simp
          simp only [execOp, resolve, e', hρ _ _ hf, Deferred.ofValue, Sem.run_bind, Sem.run_pure, Result.andThen_ok, invoke, e2, hfs _ hm]
          exact (h w rfl).mono fun e w' ⟨v, he, hs, hR⟩ => ⟨v, he, v, rfl, hs, exTy_eq hR⟩
        · have e := evs_sound hρ _ _ hv
          have e' : args.map a.eval = ⟨vs⟩ := by apply Array.ext'; simp [← e]
          have e2 : p ++ (⟨vs⟩ : Array Value) ++ cap = ⟨p.toList ++ (vs ++ cap.toList)⟩ := by apply Array.ext'; simp
          obtain ⟨v, w', hr, hs, hR⟩ := h w rfl
          simp only [execOp, resolve, e', hρ _ _ hf, Deferred.ofValue, Sem.run_bind, Sem.run_pure, Result.andThen_ok, invoke, e2, hr]
          exact ⟨v, rfl, hs, exTy_eq hR⟩
      · exact h.elim
    · rename_i b
      split at h
      · rename_i vs hv
        have e := evs_sound hρ _ _ hv
        have e' : args.map a.eval = ⟨vs⟩ := by apply Array.ext'; simp [← e]
        have hstuck : ∀ b', bSem b' ats ty vs = stuck "bSem" → SemH P (bSem b' ats ty vs) w.heap (fun v H1 => exTy T ty fun u => v = u ∧ F u H1) → False := fun b' hb hs => by
          obtain ⟨_, _, h1, _⟩ := hs w rfl
          rw [hb] at h1
          simp at h1
        simp only [execOp, resolve, e', Sem.run_bind, Sem.run_pure, Result.andThen_ok, invoke]
        cases b <;> first
          | exact (hstuck _ rfl h).elim
          | (simp only [builtin]; simp only [bSem] at h; exact up_sem h (fun _ _ hh => exTy_eq hh))
      · exact h.elim
    · exact h.elim
  · split at h
    · rename_i u v hu hv
      simp only [execOp, hρ _ _ hu, hρ _ _ hv]
      exact up_sem h (fun _ _ hh => exTy_eq hh)
    · exact h.elim
  · split at h
    · rename_i u hu
      simp only [execOp, evo_sound hρ hu]
      exact up_sem h (fun _ _ hh => exTy_eq hh)
    · exact h.elim
  · split at h
    · rename_i u v z hu hv hz
      simp only [execOp, hρ _ _ hu, hρ _ _ hv, hρ _ _ hz]
      exact up_unit h (fun _ _ hh => hh)
    · exact h.elim
  · split at h
    · rename_i u v z hu hv hz
      simp only [execOp, hρ _ _ hu, hρ _ _ hv, hρ _ _ hz]
      exact up_unit h (fun _ _ hh => hh)
    · exact h.elim
  · split at h
    · rename_i u hu
      simp only [execOp, hρ _ _ hu]
      exact up_sem h (fun _ _ hh => exTy_eq hh)
    · exact h.elim
  · split at h
    · rename_i u hu
      simp only [execOp, hρ _ _ hu]
      exact up_sem h (fun _ _ hh => hh)
    · exact h.elim
  · split at h
    · rename_i u hu
      simp only [execOp, hρ _ _ hu]
      exact up_sem h (fun _ _ hh => by obtain ⟨_, _, e, hh⟩ := hh; rw [e]; exact hh)
    · exact h.elim
  · exact h.elim
end
end Go.V
