/- The ground of the walks: a region's operations in an order, every order that the edges allow, no panic. -/
import Derived.WalkKit
import Derived.Orders
import Derived.KernelRfl
namespace Go.V
open Go

abbrev Heap := Array Obj

/-- the streams are as they were -/
structure Same (w w' : World) : Prop where
  os : w'.os = w.os
  tape : w'.tape = w.tape
  output : w'.output = w.output
theorem Same.refl (w : World) : Same w w := ⟨rfl, rfl, rfl⟩
theorem Same.trans {a b c : World} (h : Same a b) (k : Same b c) : Same a c := ⟨k.os.trans h.os, k.tape.trans h.tape, k.output.trans h.output⟩

/-- every block that was there is as it was -/
structure Ext (H H' : Heap) : Prop where
  size : H.size ≤ H'.size
  block : ∀ b, b < H.size → H'[b]? = H[b]?
theorem Ext.refl (H : Heap) : Ext H H := ⟨Nat.le_refl _, fun _ _ => rfl⟩
theorem Ext.trans {a b c : Heap} (h : Ext a b) (k : Ext b c) : Ext a c :=
  ⟨Nat.le_trans h.size k.size, fun i hi => (k.block i (Nat.lt_of_lt_of_le hi h.size)).trans (h.block i hi)⟩
theorem Ext.push (H : Heap) (o : Obj) : Ext H (H.push o) :=
  ⟨by simp, fun b hb => by rw [Array.getElem?_push, if_neg (Nat.ne_of_lt hb)]⟩
theorem Ext.keep {H H' : Heap} (h : Ext H H') {b : Nat} {o : Obj} (hb : H[b]? = some o) : H'[b]? = some o := by
  have : b < H.size := by
    rcases Nat.lt_or_ge b H.size with hl | hl
    · exact hl
    · rw [Array.getElem?_eq_none hl] at hb; cases hb
  rw [h.block b this, hb]

def cellAt (H : Heap) (a : Addr) : Option Value :=
  match H[a.block]? with
  | some (.cells c _ _) => if a.spot.isSome then none else c[a.off]?
  | _ => none
theorem cellAt_eq (w : World) (a : Addr) : w.cell? a = cellAt w.heap a := rfl
theorem cellAt_some {H : Heap} {a : Addr} {v : Value} (h : cellAt H a = some v) : ∃ c e f, H[a.block]? = some (.cells c e f) ∧ a.spot = none ∧ c[a.off]? = some v := by
  unfold cellAt at h
  split at h
  · rename_i c e f hb
    split at h
    · cases h
    · rename_i hs
      exact ⟨c, e, f, hb, by simpa using hs, h⟩
  · cases h
theorem Ext.cell {H H' : Heap} (h : Ext H H') {a : Addr} {v : Value} (hv : cellAt H a = some v) : cellAt H' a = some v := by
  obtain ⟨c, e, f, hb, hs, hc⟩ := cellAt_some hv
  unfold cellAt
  rw [h.keep hb]
  simp [hs, hc]

section
variable {P : Program} {ops : Array Oper} {md : Region.Mode}

/-- one operation, which must not panic: what stands behind it -/
def upX (P : Program) (o : Oper) (a : Act) (K : Act → World → Prop) : Result Next → Prop
  | .ok (.value v) w' => K (a.put o.dst v) w'
  | .ok .skip w' => K (a.put o.dst undef) w'
  | .ok (.enter f args) w' => Calls P f args w' fun e w'' => ∃ v, e = .returned v ∧ K (a.put o.dst v) w''
  | _ => False
def opX (P : Program) (ops : Array Oper) (i : Nat) (K : Act → World → Prop) (a : Act) (w : World) : Prop :=
  match ops[i]? with
  | none => K a w
  | some o => if Region.wanted o (yielded ops a.tmps) then upX P o a K ((execOp a.eval o).run P w) else K (a.put o.dst undef) w
theorem upX_mono {o : Oper} {a : Act} {K K' : Act → World → Prop} (h : ∀ v w, K (a.put o.dst v) w → K' (a.put o.dst v) w) {r : Result Next} (hh : upX P o a K r) : upX P o a K' r := by
  cases r with
  | ok n w' =>
    cases n <;> simp only [upX] at hh ⊢ <;> first
      | exact h _ _ hh
      | exact Calls.mono hh (fun e w'' ⟨v, he, hk⟩ => ⟨v, he, h _ _ hk⟩)
  | halt x w' => exact hh
theorem opX_mono' {i : Nat} {a : Act} {w : World} {K K' : Act → World → Prop} (h0 : ops[i]? = none → K a w → K' a w)
    (h : ∀ o v w', ops[i]? = some o → K (a.put o.dst v) w' → K' (a.put o.dst v) w') (hh : opX P ops i K a w) : opX P ops i K' a w := by
  unfold opX at *
  split
  · rename_i ho; rw [ho] at hh; exact h0 ho hh
  · rename_i o ho
    rw [ho] at hh
    dsimp only at hh ⊢
    split
    · rename_i hw; rw [if_pos hw] at hh; exact upX_mono (fun v w' => h o v w' ho) hh
    · rename_i hw; rw [if_neg hw] at hh; exact h o undef w ho hh
theorem opX_mono {i : Nat} {a : Act} {w : World} {K K' : Act → World → Prop} (h : ∀ a w, K a w → K' a w) (hh : opX P ops i K a w) : opX P ops i K' a w :=
  opX_mono' (fun _ => h _ _) (fun _ _ _ _ => h _ _) hh
theorem wpOp_of_opX {i : Nat} {a : Act} {w : World} {K : Act → World → Prop} {Q : Exit → Act → World → Prop} (hh : opX P ops i K a w) : wpOp P ops Q i K a w := by
  unfold opX at hh
  unfold wpOp
  split
  · rename_i ho; rw [ho] at hh; exact hh
  · rename_i o ho
    rw [ho] at hh
    dsimp only at hh ⊢
    split
    · rename_i hw
      rw [if_pos hw] at hh
      refine .inl ?_
      unfold Oper.wp
      generalize (execOp a.eval o).run P w = r at *
      cases r with
      | ok n w' =>
        cases n <;> simp only [upX] at hh <;> simp only [Oper.upon] <;> first
          | exact hh
          | exact Calls.mono hh (fun e w'' ⟨v, he, hk⟩ => by subst he; exact hk)
      | halt x w' => exact hh.elim
    · rename_i hw; rw [if_neg hw] at hh; exact hh

/-- the operations in the order of a list -/
def listX (P : Program) (ops : Array Oper) (K : Act → World → Prop) : List Nat → Act → World → Prop
  | [], a, w => K a w
  | i :: r, a, w => opX P ops i (listX P ops K r) a w
theorem wpOps_of_listX {Q : Exit → Act → World → Prop} : ∀ (l : List Nat) (a : Act) (w : World), listX P ops (Q .normal) l a w → wpOps P ops Q l a w
  | [], _, _, h => h
  | i :: r, a, w, h => by
    rw [wpOps_cons]
    exact wpOp_of_opX (opX_mono (fun a' w' => wpOps_of_listX r a' w') h)

/-- whatever order is picked; an operation of which 'ex' holds leaves every block as it was -/
def anyX (P : Program) (md : Region.Mode) (ops : Array Oper) (ex : Nat → Bool) (K : Act → World → Prop) : Nat → Array Bool → Act → World → Prop
  | 0, listed, a, w => Region.ready md ops listed = [] ∧ K a w
  | fuel + 1, listed, a, w =>
    (Region.ready md ops listed = [] → K a w) ∧
    ∀ i ∈ Region.ready md ops listed, opX P ops i (fun a' w' => (ex i = true → Same w w' ∧ Ext w.heap w'.heap) ∧ anyX P md ops ex K fuel (listed.setIfInBounds i true) a' w') a w
theorem wpAny_of_anyX {ex : Nat → Bool} {Q : Exit → Act → World → Prop} : ∀ (fuel : Nat) (listed : Array Bool) (a : Act) (w : World),
    anyX P md ops ex (Q .normal) fuel listed a w → wpAny P md ops Q fuel listed a w
  | 0, _, _, _, h => h
  | fuel + 1, _, _, _, h => ⟨h.1, fun i hi => wpOp_of_opX (opX_mono (fun a' w' hh => wpAny_of_anyX fuel _ a' w' hh.2) (h.2 i hi))⟩

/-- in every world that has the blocks of H, the operation leaves the value in its slot, and the world as it is -/
def Yields (P : Program) (ops : Array Oper) (H : Heap) (o : Oper) (v : Value) (a : Act) : Prop :=
  (Region.wanted o (yielded ops a.tmps) = true ∧ ∀ w, Ext H w.heap → (execOp a.eval o).run P w = .ok (.value v) w) ∨
  (Region.wanted o (yielded ops a.tmps) = false ∧ v = undef)
theorem Yields.opX {i : Nat} {o : Oper} {v : Value} {a : Act} {w : World} (hi : ops[i]? = some o) (hy : Yields P ops w.heap o v a) {K : Act → World → Prop} (h : K (a.put o.dst v) w) : opX P ops i K a w := by
  unfold V.opX
  rw [hi]
  dsimp only
  rcases hy with ⟨hw, hv⟩ | ⟨hw, rfl⟩
  · rw [if_pos hw, hv w (Ext.refl _)]; exact h
  · rw [if_neg (by rw [hw]; simp)]; exact h
theorem Yields.of_same {o : Oper} {v : Value} {a a' : Act} {H H' : Heap} (hy : Yields P ops H o v a) (hH : Ext H H') (he : execOp a'.eval o = execOp a.eval o)
    (hw : Region.wanted o (yielded ops a'.tmps) = Region.wanted o (yielded ops a.tmps)) : Yields P ops H' o v a' := by
  unfold Yields at *
  rw [he, hw]
  exact hy.imp (fun h => ⟨h.1, fun w hx => h.2 w (hH.trans hx)⟩) id

theorem opX_put {j : Nat} {oi oj : Oper} {v : Value} (hj : ops[j]? = some oj) (hap : oi.apart ops oj = true) (hsj : ∀ cs b, oj.op ≠ .select cs b)
    {K : Act → World → Prop} {a : Act} {w : World} (h : opX P ops j K (a.put oi.dst v) w) :
    opX P ops j (fun a' w' => (∃ u, a' = a.put oj.dst u) ∧ K (a'.put oi.dst v) w') a w := by
  obtain ⟨h1, h2, h3⟩ := Oper.apart_spec hap
  unfold opX at *
  rw [hj] at h ⊢
  dsimp only at h ⊢
  rw [wanted_put oj a oi.dst v h1, execOp_put oj hsj a oi.dst v h1] at h
  split
  · rename_i hw
    rw [if_pos hw] at h
    generalize (execOp a.eval oj).run P w = r at *
    cases r with
    | ok n w' =>
      cases n <;> simp only [upX] at h ⊢ <;> first
        | exact h.elim
        | (rw [Act.put_comm a v _ h2] at h; exact ⟨⟨_, rfl⟩, h⟩)
        | exact Calls.mono h (fun e w'' ⟨u, he, hk⟩ => ⟨u, he, ⟨u, rfl⟩, by rw [← Act.put_comm a v u h2]; exact hk⟩)
    | halt x w' => exact h
  · rename_i hw
    rw [if_neg hw, Act.put_comm a v undef h2] at h
    exact ⟨⟨_, rfl⟩, h⟩

/-- **An operation that only computes or reads may be taken first**, if every other one that has not come up yet either waits for it, or is apart from it and leaves all blocks as they were. -/
theorem anyX_first {ex : Nat → Bool} {K : Act → World → Prop} {i : Nat} {oi : Oper} {v : Value} (hi : ops[i]? = some oi) (hsel : ∀ (j : Nat) (o : Oper) cs b, ops[j]? = some o → o.op ≠ .select cs b) :
    ∀ (fuel : Nat) (listed : Array Bool) (a : Act) (w : World),
      (∀ j oj, ops[j]? = some oj → j ≠ i → listed.getD j true = false → (∀ e ∈ oj.after, Region.binds md e = true → e.on ≠ i) → oi.apart ops oj = true ∧ ex j = true) →
      i ∈ Region.ready md ops listed → ex i = true → Yields P ops w.heap oi v a →
      anyX P md ops ex K fuel (listed.setIfInBounds i true) (a.put oi.dst v) w → anyX P md ops ex K (fuel + 1) listed a w := by
  intro fuel
  induction fuel with
  | zero =>
    intro listed a w _ hr hx hy H
    refine ⟨fun h => (by rw [h] at hr; cases hr), fun j hj => ?_⟩
    by_cases hji : j = i
    · subst hji; exact hy.opX hi ⟨fun _ => ⟨Same.refl _, Ext.refl _⟩, H⟩
    · have := ready_mono hj hji
      rw [H.1] at this
      cases this
  | succ fuel ih =>
    intro listed a w hfree hr hx hy H
    refine ⟨fun h => (by rw [h] at hr; cases hr), fun j hj => ?_⟩
    by_cases hji : j = i
    · subst hji; exact hy.opX hi ⟨fun _ => ⟨Same.refl _, Ext.refl _⟩, H⟩
    · have h1 := H.2 j (ready_mono hj hji)
      obtain ⟨hjun, oj, hoj, hall⟩ := mem_ready.1 hj
      have hnot : ∀ e ∈ oj.after, Region.binds md e = true → e.on ≠ i := fun e he hb heq => by
        have h1 := hall e he hb
        have h0 := (mem_ready.1 hr).1
        rw [heq] at h1
        rcases Nat.lt_or_ge i listed.size with h' | h'
        · simp [h'] at h0 h1; rw [h0] at h1; cases h1
        · simp [Array.getElem?_eq_none h'] at h1
      obtain ⟨hap, hexj⟩ := hfree j oj hoj hji hjun hnot
      have h2 := opX_put hoj hap (fun cs b => hsel j oj cs b hoj) h1
      obtain ⟨_, _, h3'⟩ := Oper.apart_spec hap
      have hfree' : ∀ k ok, ops[k]? = some ok → k ≠ i → (listed.setIfInBounds j true).getD k true = false →
          (∀ e ∈ ok.after, Region.binds md e = true → e.on ≠ i) → oi.apart ops ok = true ∧ ex k = true := fun k ok hk hki hun hno => by
        refine hfree k ok hk hki ?_ hno
        by_cases hjk : j = k
        · subst hjk; exact hjun
        · rw [getD_set_ne true hjk] at hun; exact hun
      refine opX_mono (fun a' w' h3 => ?_) h2
      obtain ⟨⟨u, rfl⟩, hE, hA⟩ := h3
      refine ⟨hE, ih (listed.setIfInBounds j true) _ w' hfree' (ready_mono hr (Ne.symm hji)) hx ?_ ?_⟩
      · exact hy.of_same (hE hexj).2 (execOp_put oi (fun cs b => hsel i oi cs b hi) a oj.dst u h3') (wanted_put oi a oj.dst u h3')
      · rw [Array.setIfInBounds_comm _ _ hji]
        exact hA
end
end Go.V
