/- The frame as a list of known slots; regions, in the text's order and in every order. -/
import Derived.Test.YtoemipeomingaaaDoorVcgE
namespace Go.V
open Go

/-- slot s holds v (known to be the Bool k), if each slot in c holds its Bool; else nothing -/
structure Ent where
  slot : Nat
  c : List (Nat × Bool)
  v : Value
  k : Option Bool
abbrev Env := List Ent
def elook : Env → Nat → Option Ent
  | [], _ => none
  | e :: r, i => match Nat.beq e.slot i with
    | true => some e
    | false => elook r i
theorem elook_slot : ∀ (env : Env) (i : Nat) (e : Ent), elook env i = some e → e.slot = i ∧ e ∈ env
  | [], _, _, h => by cases h
  | x :: r, i, e, h => by
    unfold elook at h
    split at h
    · rename_i hb
      cases h
      exact ⟨Nat.eq_of_beq_eq_true hb, List.mem_cons_self⟩
    · have := elook_slot r i e h
      exact ⟨this.1, List.mem_cons_of_mem _ this.2⟩
def cmem (d : Nat) : List (Nat × Bool) → Bool
  | [] => false
  | p :: r => match Nat.beq p.1 d with
    | true => true
    | false => cmem d r
theorem cmem_false {d : Nat} : ∀ {c : List (Nat × Bool)}, cmem d c = false → ∀ p ∈ c, p.1 ≠ d
  | [], _, p, hp => by cases hp
  | q :: r, h, p, hp => by
    unfold cmem at h
    split at h
    · cases h
    · rename_i hb
      cases hp with
      | head => exact fun e => by rw [e] at hb; simp at hb
      | tail _ hp => exact cmem_false h p hp
def edrop (d : Nat) : Env → Env
  | [] => []
  | e :: r => match Nat.beq e.slot d || cmem d e.c with
    | true => edrop d r
    | false => e :: edrop d r
def eput (env : Env) (dst : Option Nat) (c : List (Nat × Bool)) (v : Value) (k : Option Bool) : Env :=
  match dst with
  | none => env
  | some d => ⟨d, c, v, k⟩ :: edrop d env
theorem elook_edrop {d : Nat} : ∀ (env : Env) (i : Nat) (e : Ent), elook (edrop d env) i = some e → e ∈ env ∧ i ≠ d ∧ cmem d e.c = false ∧ e.slot = i
  | [], _, _, h => by cases h
  | x :: r, i, e, h => by
    unfold edrop at h
    split at h
    · have := elook_edrop r i e h
      exact ⟨List.mem_cons_of_mem _ this.1, this.2⟩
    · rename_i hb
      simp only [Bool.or_eq_false_iff] at hb
      unfold elook at h
      split at h
      · rename_i hs
        cases h
        have hs := Nat.eq_of_beq_eq_true hs
        subst hs
        exact ⟨List.mem_cons_self, fun e => by have := hb.1; rw [e] at this; simp at this, hb.2, rfl⟩
      · have := elook_edrop r i e h
        exact ⟨List.mem_cons_of_mem _ this.1, this.2⟩

/-- the conditions hold in the frame -/
def CH (a : Act) (c : List (Nat × Bool)) : Prop := ∀ p ∈ c, a.tmps[p.1]? = some (.bool p.2)
/-- what is known of the frame is true of it -/
structure Rel (n : Nat) (env : Env) (a : Act) : Prop where
  defers : a.defers = []
  size : a.tmps.size = n
  lit : ∀ e ∈ env, ∀ l, e.k = some l → e.v = .bool l
  yes : ∀ e ∈ env, CH a e.c → a.tmps[e.slot]? = some e.v
  no : ∀ e ∈ env, ¬ CH a e.c → a.tmps[e.slot]? = some undef

theorem put_get {a : Act} {d i : Nat} {v : Value} (h : i ≠ d) : (a.put (some d) v).tmps[i]? = a.tmps[i]? := by
  simp [Act.put, Array.getElem?_setIfInBounds_ne (Ne.symm h)]
theorem put_get_same {a : Act} {d : Nat} {v : Value} (h : d < a.tmps.size) : (a.put (some d) v).tmps[d]? = some v := by
  simp [Act.put, h]
theorem CH_put {a : Act} {d : Nat} {v : Value} {c : List (Nat × Bool)} (h : cmem d c = false) : CH (a.put (some d) v) c ↔ CH a c := by
  unfold CH
  constructor
  · intro h1 p hp; have := h1 p hp; rwa [put_get (cmem_false h p hp)] at this
  · intro h1 p hp; rw [put_get (cmem_false h p hp)]; exact h1 p hp
theorem CH_nil (a : Act) : CH a [] := fun p hp => by cases hp

theorem mem_edrop {d : Nat} : ∀ (env : Env) (e : Ent), e ∈ edrop d env → e ∈ env ∧ e.slot ≠ d ∧ cmem d e.c = false
  | [], _, h => by cases h
  | x :: r, e, h => by
    unfold edrop at h
    split at h
    · have := mem_edrop r e h
      exact ⟨List.mem_cons_of_mem _ this.1, this.2⟩
    · rename_i hb
      simp only [Bool.or_eq_false_iff] at hb
      cases h with
      | head => exact ⟨List.mem_cons_self, fun e => by have := hb.1; rw [e] at this; simp at this, hb.2⟩
      | tail _ h =>
        have := mem_edrop r e h
        exact ⟨List.mem_cons_of_mem _ this.1, this.2⟩

/-- may the slot be written under these conditions? -/
def okDst (n : Nat) (dst : Option Nat) (c : List (Nat × Bool)) : Bool :=
  match dst with
  | none => true
  | some d => Nat.blt d n && !(cmem d c)
theorem Rel.put {n : Nat} {env : Env} {a : Act} (h : Rel n env a) {dst : Option Nat} {c : List (Nat × Bool)} {v v' : Value} {k : Option Bool} (hd : okDst n dst c = true) (hk : ∀ l, k = some l → v = .bool l)
    (h1 : CH a c → v' = v) (h2 : ¬ CH a c → v' = undef) : Rel n (eput env dst c v k) (a.put dst v') := by
  cases dst with
  | none => exact h
  | some d =>
    simp only [okDst, Bool.and_eq_true, Bool.not_eq_true'] at hd
    have hlt : d < a.tmps.size := by rw [h.size]; exact Nat.le_of_ble_eq_true hd.1
    refine ⟨h.defers, by simp [Act.put, h.size], ?_, ?_, ?_⟩
    · intro e he
      cases he with
      | head => exact hk
      | tail _ he => exact h.lit e (mem_edrop env e he).1
    · intro e he hc
      cases he with
      | head =>
        rw [put_get_same hlt, h1 ((CH_put hd.2).1 hc)]
      | tail _ he =>
        obtain ⟨he, hs, hm⟩ := mem_edrop env e he
        rw [put_get hs]
        exact h.yes e he ((CH_put hm).1 hc)
    · intro e he hc
      cases he with
      | head =>
        rw [put_get_same hlt, h2 (fun hh => hc ((CH_put hd.2).2 hh))]
      | tail _ he =>
        obtain ⟨he, hs, hm⟩ := mem_edrop env e he
        rw [put_get hs]
        exact h.no e he (fun hh => hc ((CH_put hm).2 hh))

def bEq : Bool → Bool → Bool
  | true, true | false, false => true
  | _, _ => false
theorem bEq_eq {a b : Bool} (h : bEq a b = true) : a = b := by cases a <;> cases b <;> first | rfl | cases h
def cin (p : Nat × Bool) : List (Nat × Bool) → Bool
  | [] => false
  | q :: r => match Nat.beq p.1 q.1 && bEq p.2 q.2 with
    | true => true
    | false => cin p r
theorem cin_mem {p : Nat × Bool} : ∀ {c : List (Nat × Bool)}, cin p c = true → p ∈ c
  | [], h => by cases h
  | q :: r, h => by
    unfold cin at h
    split at h
    · rename_i hb
      simp only [Bool.and_eq_true] at hb
      have e1 := Nat.eq_of_beq_eq_true hb.1
      have e2 := bEq_eq hb.2
      have : p = q := Prod.ext e1 e2
      rw [this]; exact List.mem_cons_self
    · exact List.mem_cons_of_mem _ (cin_mem h)
def csub : List (Nat × Bool) → List (Nat × Bool) → Bool
  | [], _ => true
  | p :: r, c => match cin p c with
    | true => csub r c
    | false => false
theorem csub_CH {a : Act} {c : List (Nat × Bool)} (hc : CH a c) : ∀ {b : List (Nat × Bool)}, csub b c = true → CH a b
  | [], _ => CH_nil a
  | p :: r, h => by
    unfold csub at h
    split at h
    · rename_i hp
      intro q hq
      cases hq with
      | head => exact hc _ (cin_mem hp)
      | tail _ hq => exact csub_CH hc h q hq
    · cases h
/-- an operand, where the conditions C hold -/
def ev (env : Env) (C : List (Nat × Bool)) : Operand → Option Value
  | .tmp t => match elook env t with
    | some e => match csub e.c C with
      | true => some e.v
      | false => none
    | none => none
  | .const v => some v
  | .global g => some (.pointer (some ⟨g, 0, none⟩))
  | .func f => some (.func (.func f) #[] #[])
theorem ev_sound {n : Nat} {env : Env} {a : Act} (h : Rel n env a) {C : List (Nat × Bool)} (hC : CH a C) (x : Operand) (v : Value) (hv : ev env C x = some v) : a.eval x = v := by
  cases x with
  | tmp t =>
    unfold ev at hv
    dsimp only at hv
    split at hv
    · rename_i e he
      split at hv
      · rename_i hs
        cases hv
        obtain ⟨e1, e2⟩ := elook_slot env t e he
        have := h.yes e e2 (csub_CH hC hs)
        rw [e1] at this
        simp [Act.eval, this]
      · cases hv
    · cases hv
  | const v => cases hv; rfl
  | global g => cases hv; rfl
  | func f => cases hv; rfl
def kn (env : Env) : Operand → Option Bool
  | .tmp t => match elook env t with
    | some e => e.k
    | none => none
  | .const v => match v with
    | .bool b => some b
    | _ => none
  | _ => none
/-- where the conditions hold, X -/
def underC (env : Env) : List (Nat × Bool) → Prop → Prop
  | [], X => X
  | (s, l) :: r, X => match elook env s with
    | some e => match e.v with
      | .bool b => b = l → underC env r X
      | _ => underC env r X
    | none => underC env r X
/-- the conditions are closed: that of each slot in them is among them -/
def closed (env : Env) (C : List (Nat × Bool)) : List (Nat × Bool) → Bool
  | [] => true
  | (s, _) :: r => match elook env s with
    | some e => match csub e.c C with
      | true => closed env C r
      | false => false
    | none => closed env C r
theorem underC_sound {n : Nat} {env : Env} {a : Act} (h : Rel n env a) {C : List (Nat × Bool)} (hC : CH a C) {X : Prop} : ∀ {D : List (Nat × Bool)}, closed env C D = true → CH a D → underC env D X → X
  | [], _, _, hX => hX
  | (s, l) :: r, hcl, hD, hX => by
    unfold closed at hcl
    unfold underC at hX
    have hr : CH a r := fun p hp => hD p (List.mem_cons_of_mem _ hp)
    cases he : elook env s with
    | none =>
      rw [he] at hcl hX
      exact underC_sound h hC hcl hr hX
    | some e =>
      rw [he] at hcl hX
      dsimp only at hcl hX
      split at hcl
      · rename_i hs
        obtain ⟨e1, e2⟩ := elook_slot env s e he
        have hy := h.yes e e2 (csub_CH hC hs)
        rw [e1, hD (s, l) List.mem_cons_self] at hy
        injection hy with hy
        cases hv : e.v with
        | bool b =>
          rw [hv] at hX hy
          injection hy with hy
          exact underC_sound h hC hcl hr (hX hy.symm)
        | _ => rw [hv] at hy; cases hy
      · cases hcl

/-- is the operation carried out: 'some none': never; 'some (some C)': just where C holds; 'none': not known -/
def guardC (env : Env) (ops : Array Oper) (g : Option (Nat × Bool)) : Option (Option (List (Nat × Bool))) :=
  match g with
  | none => some (some [])
  | some (j, w) => match ops[j]? with
    | some o => match o.dst with
      | some s => match elook env s with
        | some e => match e.k with
          | some l => match bEq l w with
            | true => some (some e.c)
            | false => some none
          | none => match e.v with
            | .bool _ => some (some ((s, w) :: e.c))
            | .tuple _ => some none
            | _ => none
        | none => none
      | none => none
    | none => none
theorem guardC_sound {n : Nat} {env : Env} {a : Act} (h : Rel n env a) {ops : Array Oper} {o : Oper} {r : Option (List (Nat × Bool))} (hg : guardC env ops o.guard = some r) :
    match r with
    | none => Region.wanted o (yielded ops a.tmps) = false
    | some C => (Region.wanted o (yielded ops a.tmps) = true ↔ CH a C) := by
  unfold guardC at hg
  split at hg
  · rename_i hn
    cases hg
    simp [Region.wanted, hn, CH]
  · rename_i j w hn
    split at hg
    · rename_i oj hj
      split at hg
      · rename_i s hs
        split at hg
        · rename_i e he
          obtain ⟨e1, e2⟩ := elook_slot env s e he
          have hy := h.yes e e2
          have hno := h.no e e2
          rw [e1] at hy hno
          have hw : Region.wanted o (yielded ops a.tmps) = (yielded ops a.tmps j == some w) := by simp [Region.wanted, hn]
          have hyb : ∀ b : Bool, a.tmps[s]? = some (.bool b) → yielded ops a.tmps j = some b := fun b hb => by
            unfold yielded
            simp [hj, hs, hb]
          have hyu : a.tmps[s]? = some undef → yielded ops a.tmps j = none := fun hb => by
            unfold yielded
            simp [hj, hs, hb, undef]
          have hyc : yielded ops a.tmps j = some w → CH a e.c := fun hh => Classical.byContradiction fun hc => by
            rw [hyu (hno hc)] at hh
            cases hh
          rw [hw]
          split at hg
          · rename_i l hl
            have hv := h.lit e e2 l hl
            split at hg
            · rename_i hb
              cases hg
              have := bEq_eq hb
              subst this
              constructor
              · intro hh
                exact hyc (by simpa using hh)
              · intro hc
                rw [hyb l (by rw [hy hc, hv])]
                simp
            · rename_i hb
              cases hg
              by_cases hc : CH a e.c
              · dsimp only
                rw [hyb l (by rw [hy hc, hv])]
                cases l <;> cases w <;> first | rfl | exact absurd hb (by simp [bEq])
              · dsimp only
                rw [hyu (hno hc)]
                rfl
          · split at hg
            · rename_i b hv
              cases hg
              constructor
              · intro hh
                have hh : yielded ops a.tmps j = some w := by simpa using hh
                have hc := hyc hh
                have hb := hyb b (by rw [hy hc, hv])
                rw [hb] at hh
                injection hh with hh
                intro p hp
                cases hp with
                | head => rw [hy hc, hv, hh]
                | tail _ hp => exact hc p hp
              · intro hc
                rw [hyb w (hc (s, w) List.mem_cons_self)]
                simp
            · rename_i z hv
              cases hg
              dsimp only
              have hn : yielded ops a.tmps j = none := by
                by_cases hc : CH a e.c
                · have := hy hc
                  rw [hv] at this
                  unfold yielded
                  simp [hj, hs, this]
                · exact hyu (hno hc)
              rw [hn]
              rfl
            · cases hg
        · cases hg
      · cases hg
    · cases hg
/-- slot s is found to hold the Bool l -/
def assume_ (s : Nat) (l : Bool) : Env → Env
  | [] => []
  | e :: r => match Nat.beq e.slot s with
    | true => ⟨e.slot, e.c, .bool l, some l⟩ :: assume_ s l r
    | false => match cin (s, !l) e.c with
      | true => ⟨e.slot, [], undef, none⟩ :: assume_ s l r
      | false => ⟨e.slot, e.c.filter fun p => !(Nat.beq p.1 s), e.v, e.k⟩ :: assume_ s l r
theorem assume_mem {s : Nat} {l : Bool} : ∀ (env : Env) (e : Ent), e ∈ assume_ s l env → (∃ e0 ∈ env, e0.slot = s ∧ e = ⟨e0.slot, e0.c, .bool l, some l⟩) ∨
    (∃ e0 ∈ env, cin (s, !l) e0.c = true ∧ e = ⟨e0.slot, [], undef, none⟩) ∨ (∃ e0 ∈ env, cin (s, !l) e0.c = false ∧ e = ⟨e0.slot, e0.c.filter fun p => !(Nat.beq p.1 s), e0.v, e0.k⟩)
  | [], _, h => by cases h
  | x :: r, e, h => by
    have hr : e ∈ assume_ s l r → (∃ e0 ∈ x :: r, e0.slot = s ∧ e = ⟨e0.slot, e0.c, .bool l, some l⟩) ∨
        (∃ e0 ∈ x :: r, cin (s, !l) e0.c = true ∧ e = ⟨e0.slot, [], undef, none⟩) ∨ (∃ e0 ∈ x :: r, cin (s, !l) e0.c = false ∧ e = ⟨e0.slot, e0.c.filter fun p => !(Nat.beq p.1 s), e0.v, e0.k⟩) := fun h =>
      (assume_mem r e h).imp (fun ⟨e0, h1, h2⟩ => ⟨e0, List.mem_cons_of_mem _ h1, h2⟩)
        (fun h => h.imp (fun ⟨e0, h1, h2⟩ => ⟨e0, List.mem_cons_of_mem _ h1, h2⟩) (fun ⟨e0, h1, h2⟩ => ⟨e0, List.mem_cons_of_mem _ h1, h2⟩))
    unfold assume_ at h
    split at h
    · rename_i hb
      cases h with
      | head => exact .inl ⟨x, List.mem_cons_self, Nat.eq_of_beq_eq_true hb, rfl⟩
      | tail _ h => exact hr h
    · split at h
      · rename_i hc
        cases h with
        | head => exact .inr (.inl ⟨x, List.mem_cons_self, hc, rfl⟩)
        | tail _ h => exact hr h
      · rename_i hc
        cases h with
        | head => exact .inr (.inr ⟨x, List.mem_cons_self, hc, rfl⟩)
        | tail _ h => exact hr h
theorem cin_of_mem {p : Nat × Bool} : ∀ {c : List (Nat × Bool)}, p ∈ c → cin p c = true
  | q :: r, h => by
    unfold cin
    split
    · rfl
    · rename_i hb
      cases h with
      | head => exfalso; apply absurd hb; cases p.2 <;> simp [bEq]
      | tail _ h => exact cin_of_mem h
theorem Rel.assume_ {n : Nat} {env : Env} {a : Act} (h : Rel n env a) {s : Nat} {l : Bool} (hs : a.tmps[s]? = some (.bool l)) : Rel n (V.assume_ s l env) a := by
  have key : ∀ e0 : Ent, cin (s, !l) e0.c = false → (CH a (e0.c.filter fun p => !(Nat.beq p.1 s)) ↔ CH a e0.c) := by
    intro e0 hc
    constructor
    · intro hh p hp
      by_cases hps : p.1 = s
      · have hl : p.2 = l := by
          refine Classical.byContradiction fun hne => ?_
          have hn : p.2 = !l := by
            cases hp2 : p.2 <;> cases l <;> simp_all
          have hm : (s, !l) ∈ e0.c := by rw [← hn, ← hps]; exact hp
          rw [cin_of_mem hm] at hc
          cases hc
        rw [hps, hl]; exact hs
      · exact hh p (List.mem_filter.2 ⟨hp, by rw [show Nat.beq p.1 s = false from Bool.eq_false_iff.2 fun hb => hps (Nat.eq_of_beq_eq_true hb)]; rfl⟩)
    · intro hh p hp
      exact hh p (List.mem_filter.1 hp).1
  have dead : ∀ e0 : Ent, cin (s, !l) e0.c = true → ¬ CH a e0.c := by
    intro e0 hc hh
    have := hh _ (cin_mem hc)
    rw [hs] at this
    injection this with this
    injection this with this
    cases l <;> cases this
  refine ⟨h.defers, h.size, ?_, ?_, ?_⟩
  · intro e he l' hl'
    rcases assume_mem env e he with ⟨e0, h0, h1, rfl⟩ | ⟨e0, h0, h1, rfl⟩ | ⟨e0, h0, h1, rfl⟩
    · cases hl'; rfl
    · cases hl'
    · exact h.lit e0 h0 l' hl'
  · intro e he hc
    rcases assume_mem env e he with ⟨e0, h0, h1, rfl⟩ | ⟨e0, h0, h1, rfl⟩ | ⟨e0, h0, h1, rfl⟩
    · dsimp only; rw [h1]; exact hs
    · exact h.no e0 h0 (dead e0 h1)
    · exact h.yes e0 h0 ((key e0 h1).1 hc)
  · intro e he hc
    rcases assume_mem env e he with ⟨e0, h0, h1, rfl⟩ | ⟨e0, h0, h1, rfl⟩ | ⟨e0, h0, h1, rfl⟩
    · have := h.no e0 h0 hc
      rw [h1, hs] at this
      cases this
    · exact absurd (CH_nil a) hc
    · exact h.no e0 h0 (fun hh => hc ((key e0 h1).2 hh))
end Go.V
