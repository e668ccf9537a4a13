/- Every order that the edges allow; code; functions. -/
import Derived.Test.YtoemipeomingaaaDoorVcgG
import Derived.Scope
namespace Go.V
open Go

theorem memb_cons {x y : Nat} {l : List Nat} : memb x (y :: l) = true ↔ x = y ∨ memb x l = true := by
  show (match Nat.beq x y with
    | true => true
    | false => memb x l) = true ↔ _
  cases hb : Nat.beq x y with
  | true => simp [Nat.eq_of_beq_eq_true hb]
  | false =>
    have : x ≠ y := fun e => by rw [e] at hb; simp at hb
    simp [this]
/-! ### Regions that draw their order -/
def waitsB (ops : Array Oper) (j i : Nat) : Bool :=
  match ops[j]? with
  | some o => o.after.any fun e => Region.binds .any e && Nat.beq e.on i
  | none => false
def exB (ops : Array Oper) (j : Nat) : Bool :=
  match ops[j]? with
  | some o => !(storeLike o.op)
  | none => true
/-- those that have not come up yet and wait for i in the end -/
def waitL (ops : Array Oper) (listed : Array Bool) (i : Nat) : List Nat → List Nat → List Nat
  | [], acc => acc
  | j :: r, acc => match ops[j]? with
    | some o => match !(listed.getD j true) && o.after.any fun e => Region.binds .any e && (Nat.beq e.on i || memb e.on acc) with
      | true => waitL ops listed i r (j :: acc)
      | false => waitL ops listed i r acc
    | none => acc
def freeB (ops : Array Oper) (listed : Array Bool) (i : Nat) : Bool :=
  match ops[i]? with
  | some oi => freeIn ops listed i oi (waitL ops listed i (List.range ops.size) []) (List.range ops.size)
  | none => false
  where
  freeIn (ops : Array Oper) (listed : Array Bool) (i : Nat) (oi : Oper) (wl : List Nat) : List Nat → Bool
    | [] => true
    | j :: r => (Nat.beq j i || listed.getD j true || memb j wl || (match ops[j]? with
      | some oj => oi.apart ops oj && (exB ops j || movB oi)
      | none => true)) && freeIn ops listed i oi wl r
def firstS (T : Tab) (ops : Array Oper) (listed : Array Bool) : List Nat → Option Nat
  | [] => none
  | i :: r => match ops[i]? with
    | some o => match !(isEff T o.op) && freeB ops listed i with
      | true => some i
      | false => firstS T ops listed r
    | none => none
def conjL (F : Nat → Prop) : List Nat → Prop
  | [] => True
  | [i] => F i
  | i :: j :: r => F i ∧ conjL F (j :: r)
theorem conjL_mem {F : Nat → Prop} : ∀ {l : List Nat}, conjL F l → ∀ i ∈ l, F i
  | [], _, i, hi => by cases hi
  | [x], h, i, hi => by
    cases hi with
    | head => exact h
    | tail _ hi => cases hi
  | x :: y :: r, h, i, hi => by
    cases hi with
    | head => exact h.1
    | tail _ hi => exact conjL_mem (l := y :: r) h.2 i hi
def needX (op : Op) : Bool := !(storeLike op) && !(allocLike op)
def drawVC (P : Program) (T : Tab) (fs : List Nat) (n : Nat) (ops : Array Oper) (K : Env → Heap → Prop) : Nat → Array Bool → Env → Heap → Prop
  | 0, listed, env, H => match Region.ready .any ops listed with
    | [] => K env H
    | _ => False
  | f + 1, listed, env, H => match Region.ready .any ops listed with
    | [] => K env H
    | l => match firstS T ops listed l with
      | some i => match ops[i]? with
        | some o => opS P T n env ops o H fun env' => drawVC P T fs n ops K f (listed.setIfInBounds i true) env' H
        | none => False
      | none => conjL (fun i => match ops[i]? with
        | some o => effGo P T fs n ops o (needX o.op) H (fun env' H' => drawVC P T fs n ops K f (listed.setIfInBounds i true) env' H') 9 env
        | none => False) l

section
variable {P : Program} {T : Tab} {fs : List Nat} {n : Nat} {ops : Array Oper}
theorem firstS_spec {listed : Array Bool} : ∀ {l : List Nat} {i : Nat}, firstS T ops listed l = some i → i ∈ l ∧ ∃ o, ops[i]? = some o ∧ isEff T o.op = false ∧ freeB ops listed i = true
  | [], _, h => by cases h
  | x :: r, i, h => by
    unfold firstS at h
    split at h
    · rename_i o ho
      split at h
      · rename_i hb
        cases h
        simp only [Bool.and_eq_true, Bool.not_eq_true'] at hb
        exact ⟨List.mem_cons_self, o, ho, hb.1, hb.2⟩
      · have := firstS_spec h
        exact ⟨List.mem_cons_of_mem _ this.1, this.2⟩
    · cases h
theorem waitL_spec {listed : Array Bool} {i : Nat} : ∀ (l acc : List Nat),
    (∀ j, memb j acc = true → listed.getD j true = false ∧ ∃ oj, ops[j]? = some oj ∧ ∃ e ∈ oj.after, Region.binds .any e = true ∧ (e.on = i ∨ memb e.on acc = true)) →
    ∀ j, memb j (waitL ops listed i l acc) = true → listed.getD j true = false ∧ ∃ oj, ops[j]? = some oj ∧ ∃ e ∈ oj.after, Region.binds .any e = true ∧ (e.on = i ∨ memb e.on (waitL ops listed i l acc) = true)
  | [], acc, h => h
  | x :: r, acc, h => by
    unfold waitL
    cases ho : ops[x]? with
    | none => exact h
    | some o =>
      dsimp only
      split
      · rename_i hb
        simp only [Bool.and_eq_true, Bool.not_eq_true'] at hb
        obtain ⟨hun, hany⟩ := hb
        obtain ⟨e, he, heb⟩ := Array.any_eq_true'.1 hany
        simp only [Bool.and_eq_true, Bool.or_eq_true] at heb
        refine waitL_spec r (x :: acc) fun j hj => ?_
        rcases memb_cons.1 hj with hjx | hjx
        · subst hjx
          refine ⟨hun, o, ho, e, he, heb.1, ?_⟩
          rcases heb.2 with h3 | h3
          · exact .inl (Nat.eq_of_beq_eq_true h3)
          · exact .inr (memb_cons.2 (.inr h3))
        · obtain ⟨h1, oj, h2, e', h3, h4, h5⟩ := h j hjx
          refine ⟨h1, oj, h2, e', h3, h4, ?_⟩
          rcases h5 with h5 | h5
          · exact .inl h5
          · exact .inr (memb_cons.2 (.inr h5))
      · exact waitL_spec r acc h
theorem freeIn_spec {listed : Array Bool} {i : Nat} {oi : Oper} {wl : List Nat} : ∀ (l : List Nat), freeB.freeIn ops listed i oi wl l = true → ∀ j ∈ l, (Nat.beq j i || listed.getD j true || memb j wl || (match ops[j]? with
      | some oj => oi.apart ops oj && (exB ops j || movB oi)
      | none => true)) = true
  | [], _, j, hj => by cases hj
  | x :: r, h, j, hj => by
    unfold freeB.freeIn at h
    rw [Bool.and_eq_true] at h
    cases hj with
    | head => exact h.1
    | tail _ hj => exact freeIn_spec r h.2 j hj
theorem freeB_spec {listed : Array Bool} {i : Nat} {oi : Oper} (hi : ops[i]? = some oi) (h : freeB ops listed i = true) :
    ∃ wt : Nat → Bool, (∀ j oj, ops[j]? = some oj → j ≠ i → listed.getD j true = false → wt j = false → oi.apart ops oj = true ∧ (exB ops j = true ∨ movB oi = true)) ∧
      (∀ j, wt j = true → listed.getD j true = false ∧ ∃ oj, ops[j]? = some oj ∧ ∃ e ∈ oj.after, Region.binds .any e = true ∧ (e.on = i ∨ wt e.on = true)) := by
  unfold freeB at h
  rw [hi] at h
  dsimp only at h
  refine ⟨fun j => memb j (waitL ops listed i (List.range ops.size) []), fun j oj hj hne hun hno => ?_, waitL_spec _ [] (fun j hj => by cases hj)⟩
  have hlt : j < ops.size := (Array.getElem?_eq_some_iff.1 hj).1
  have h1 := freeIn_spec _ h j (List.mem_range.2 hlt)
  rw [hj, hun] at h1
  dsimp only at hno
  rw [hno] at h1
  simp only [Bool.or_eq_true, Bool.and_eq_true] at h1
  rcases h1 with ((h1 | h1) | h1) | h1
  · exact absurd (Nat.eq_of_beq_eq_true h1) hne
  · cases h1
  · cases h1
  · exact h1
theorem exB_of_not_eff {i : Nat} {o : Oper} (hi : ops[i]? = some o) (h : isEff T o.op = false) : exB ops i = true := by
  unfold exB
  rw [hi]
  obtain ⟨dst, op, ty, pos, after, guard⟩ := o
  dsimp only at h ⊢
  cases op <;> first
    | rfl
    | (cases h; done)
    | (rename_i c
       unfold isEff at h
       unfold storeLike
       dsimp only at h ⊢
       cases hc : c.callee with
       | builtin b =>
         rw [hc] at h
         dsimp only at h ⊢
         cases b <;> first | rfl | cases h
       | _ => rw [hc] at h; cases h)

theorem drawVC_sound (hT : TabOk P T) (hfs : ∀ f, memb f fs = true → ∀ args w, (callFunc f args).run P w = .ok (.enter f args) w) (hsel : Region.noSelect ops = true) {K : Env → Heap → Prop} {w0 : World} :
    ∀ (f : Nat) (listed : Array Bool) (env : Env) (a : Act) (w : World), Rel n env a → Same w0 w → drawVC P T fs n ops K f listed env w.heap →
      anyX P .any ops (exB ops) (fun a' w' => ∃ env', Rel n env' a' ∧ Same w0 w' ∧ K env' w'.heap) f listed a w
  | 0, listed, env, a, w, hr, hs, h => by
    unfold drawVC at h
    split at h
    · rename_i hn
      exact ⟨hn, env, hr, hs, h⟩
    · exact h.elim
  | f + 1, listed, env, a, w, hr, hs, h => by
    unfold drawVC at h
    split at h
    · rename_i hn
      exact ⟨fun _ => ⟨env, hr, hs, h⟩, fun i hi => by rw [hn] at hi; cases hi⟩
    · rename_i l hl
      split at h
      · rename_i i hf
        obtain ⟨hmem, oi, hoi, hne, hfree⟩ := firstS_spec hf
        rw [hoi] at h
        dsimp only at h
        obtain ⟨v, env', hy, hr', hK⟩ := opS_sound hT hr h
        obtain ⟨wt, hw1, hw2⟩ := freeB_spec hoi hfree
        exact anyX_first hoi (Region.noSelect_spec hsel) f listed a w hw1 hw2 hmem (exB_of_not_eff hoi hne) hy
          (drawVC_sound hT hfs hsel f _ env' _ w hr' hs hK)
      · refine ⟨fun h0 => absurd h0 (fun e => hl e), fun i hi => ?_⟩
        have h1 := conjL_mem h i hi
        split at h1
        · rename_i o ho
          refine opX_mono (fun a' w' hh => ?_) (effGo_sound hT hfs ho 9 env hr h1)
          obtain ⟨env', hr', hs', hx, hK⟩ := hh
          refine ⟨fun he => ⟨hs', hx ?_⟩, drawVC_sound hT hfs hsel f _ env' a' w' hr' (hs.trans hs') hK⟩
          unfold exB at he
          rw [ho] at he
          dsimp only at he
          unfold needX
          rw [he]
          cases allocLike o.op <;> rfl
        · exact h1.elim
end

/-! ### Code -/
def firstReg : Code → Nat
  | .region id _ _ => id
  | .seq a _ => firstReg a
  | .block _ c => firstReg c
  | .loop c => firstReg c
  | .scope c => firstReg c
  | _ => 0
def dstsOps : List Oper → List Nat → List Nat
  | [], l => l
  | o :: r, l => match o.dst with
    | some d => dstsOps r (d :: l)
    | none => dstsOps r l
def dsts : Code → List Nat → List Nat
  | .region _ ops _, l => dstsOps ops.toList l
  | .seq a b, l => dsts a (dsts b l)
  | .cond _ a b, l => dsts a (dsts b l)
  | .block _ c, l => dsts c l
  | .loop c, l => dsts c l
  | .scope c, l => dsts c l
  | _, l => l
/-- the code writes slots by its regions alone -/
def plainC : Code → Bool
  | .region _ _ _ => true
  | .seq a b => plainC a && plainC b
  | .cond _ a b => plainC a && plainC b
  | .block _ c => plainC c
  | .loop c => plainC c
  | .scope c => plainC c
  | .skip | .exit _ | .ret | .label _ => true
  | _ => false
abbrev Ann := List (Nat × List (Nat × Nat))
def aget : Ann → Nat → Option (List (Nat × Nat))
  | [], _ => none
  | (k, s) :: r, i => match Nat.beq k i with
    | true => some s
    | false => aget r i
/-- what is known of slots that are none of ds, nor conditioned on one -/
def ekeep (ds : List Nat) : Env → Env
  | [] => []
  | e :: r => match memb e.slot ds || e.c.any (fun p => memb p.1 ds) with
    | true => ekeep ds r
    | false => e :: ekeep ds r
def bindS : List (Nat × Nat) → List Value → Env → Env
  | (s, _) :: r, v :: vs, env => ⟨s, [], v, none⟩ :: bindS r vs env
  | _, _, env => env
/-- the named slots' values, of their types -/
def outS (T : Tab) (env : Env) : List (Nat × Nat) → (List Value → Prop) → Prop
  | [], F => F []
  | (s, t) :: r, F => match ev env [] (.tmp s) with
    | some v => is1 T t v ∧ outS T env r fun vs => F (v :: vs)
    | none => False
def allS (T : Tab) : List (Nat × Nat) → (List Value → Prop) → Prop
  | [], F => F []
  | (_, t) :: r, F => all1 T t fun v => allS T r fun vs => F (v :: vs)
def inBlk (id : Nat) (Q : Exit → Env → Heap → Prop) : Exit → Env → Heap → Prop
  | .exit id', env, H => match Nat.beq id' id with
    | true => Q .normal env H
    | false => Q (.exit id') env H
  | e, env, H => Q e env H
def thenS (K : Env → Heap → Prop) (Q : Exit → Env → Heap → Prop) : Exit → Env → Heap → Prop
  | .normal, env, H => K env H
  | e, env, H => Q e env H
def noGo (Q : Exit → Env → Heap → Prop) : Exit → Env → Heap → Prop
  | .goto _, _, _ => False
  | e, env, H => Q e env H

def codeVC (P : Program) (T : Tab) (fs : List Nat) (n : Nat) (A B : Ann) : Code → (Exit → Env → Heap → Prop) → Env → Heap → Prop
  | .skip, Q, env, H => Q .normal env H
  | .label _, Q, env, H => Q .normal env H
  | .exit id, Q, env, H => Q (.exit id) env H
  | .ret, Q, env, H => Q .ret env H
  | .region _ ops false, Q, env, H => listVC P T fs n ops (Q .normal) ops.toList env H
  | .region _ ops true, Q, env, H => match Region.noSelect ops with
    | true => drawVC P T fs n ops (Q .normal) ops.size (Array.replicate ops.size false) env H
    | false => False
  | .seq a b, Q, env, H => match aget A (firstReg b) with
    | none => codeVC P T fs n A B a (thenS (fun env H => codeVC P T fs n A B b Q env H) Q) env H
    | some S => match plainC a with
      | true => ∃ M : List Value → Heap → Prop, codeVC P T fs n A B a (thenS (fun env H => outS T env S fun vs => M vs H) Q) env H ∧
          allS T S fun us => ∀ H1, M us H1 → codeVC P T fs n A B b Q (bindS S us (ekeep (dsts a (S.map (·.1))) env)) H1
      | false => False
  | .cond c a b, Q, env, H => match ev env [] c with
    | some (.bool t) => match kn env c with
      | some true => codeVC P T fs n A B a Q env H
      | some false => codeVC P T fs n A B b Q env H
      | none => match c with
        | .tmp s => (t = true → codeVC P T fs n A B a Q (assume_ s true env) H) ∧ (t = false → codeVC P T fs n A B b Q (assume_ s false env) H)
        | _ => False
    | _ => False
  | .block id c, Q, env, H => codeVC P T fs n A B c (inBlk id Q) env H
  | .scope c, Q, env, H => codeVC P T fs n A B c (noGo Q) env H
  | .loop c, Q, env, H => match aget B (firstReg c) with
    | none => False
    | some S => match plainC c with
      | true => ∃ (I : List Value → Heap → Prop) (m : List Value → Heap → Nat), (outS T env S fun vs => I vs H) ∧
          allS T S fun us => ∀ H1, I us H1 → codeVC P T fs n A B c (thenS (fun env' H' => outS T env' S fun vs => I vs H' ∧ m vs H' < m us H1) Q) (bindS S us (ekeep (dsts c (S.map (·.1))) env)) H1
      | false => False
  | _, _, _, _ => False
end Go.V
