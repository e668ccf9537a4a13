/- Regions over the heap alone: in the text's order; in every order that the edges allow. -/
import Derived.Test.YtoemipeomingaaaDoorVcgF
import Derived.Still
namespace Go.V
open Go

def isEff (T : Tab) : Op → Bool
  | .alloc _ | .box _ _ | .store _ _ _ | .buildSlice _ _ _ | .makeSlice _ _ _ | .makeMap _ _ | .mapUpdate _ _ _ _ | .insert _ _ _ _ | .range _ _ | .next _ _ => true
  | .convert _ d _ => match descOf T d with
    | .slice _ => true
    | _ => false
  | .call c => match c.callee with
    | .builtin b => match b with
      | .len | .cap | .max | .min => false
      | _ => true
    | _ => true
  | _ => false
def storeLike : Op → Bool
  | .store _ _ _ | .mapUpdate _ _ _ _ | .insert _ _ _ _ | .next _ _ => true
  | .call c => match c.callee with
    | .builtin b => match b with
      | .len | .cap | .max | .min => false
      | _ => true
    | _ => false
  | _ => false
def allocLike : Op → Bool
  | .alloc _ | .box _ _ => true
  | _ => false

def pickV (b : Bool) (u v : Value) : Value :=
  match u, v with
  | .bool p, .bool q => .bool (cond b p q)
  | u, v => cond b u v
theorem pickV_eq (b : Bool) (u v : Value) : pickV b u v = if b then u else v := by
  unfold pickV
  split <;> cases b <;> rfl
def pickVC (env : Env) (C : List (Nat × Bool)) (c x y : Operand) (F : Value → Option Bool → Prop) : Prop :=
  match ev env C c with
  | some (.bool b) => match kn env c with
    | some true => match ev env C x with
      | some v => F v (kn env x)
      | none => False
    | some false => match ev env C y with
      | some v => F v (kn env y)
      | none => False
    | none => match c with
      | .tmp s => match ev env ((s, true) :: C) x, ev env ((s, false) :: C) y with
        | some u, some v => F (pickV b u v) none
        | _, _ => False
      | _ => False
  | _ => False
def stepS (P : Program) (T : Tab) (env : Env) (C : List (Nat × Bool)) (o : Oper) (H : Heap) (K : Env → Prop) : Prop :=
  match o.op with
  | .move x => match ev env C x with
    | some v => K (eput env o.dst C v (kn env x))
    | none => False
  | .assign x => match ev env C x with
    | some v => K (eput env o.dst C v (kn env x))
    | none => False
  | .unOp .not _ x => match ev env C x with
    | some (.bool b) => K (eput env o.dst C (.bool (!b)) (match kn env x with
      | some true => some false
      | some false => some true
      | none => none))
    | _ => False
  | .pick c x y => pickVC env C c x y fun v k => K (eput env o.dst C v k)
  | _ => stabVC P T (underC env C) (ev env C) H o fun v => K (eput env o.dst C v none)
/-- does it take a part of a map's entry? its kind is not told by that operation -/
def entX (ops : Array Oper) (o : Oper) : Bool :=
  match o.op with
  | .extract (.tmp s) _ => ops.toList.any fun p => match p.op, p.dst with
    | .entry _, some d => Nat.beq d s
    | _, _ => false
  | _ => false
def stepE (P : Program) (T : Tab) (env : Env) (C : List (Nat × Bool)) (o : Oper) (H : Heap) (K : Env → Prop) : Prop :=
  stabVC P T (underC env C) (ev env C) H o fun v => ex1 T o.type fun u => v = u ∧ K (eput env o.dst C u none)
def opS (P : Program) (T : Tab) (n : Nat) (env : Env) (ops : Array Oper) (o : Oper) (H : Heap) (K : Env → Prop) : Prop :=
  match guardC env ops o.guard with
  | some none => match okDst n o.dst [] with
    | true => K (eput env o.dst [] undef none)
    | false => False
  | some (some C) => match okDst n o.dst C && closed env C C with
    | true => match entX ops o with
      | true => stepE P T env C o H K
      | false => stepS P T env C o H K
    | false => False
  | none => False

section
variable {P : Program} {T : Tab} {n : Nat} {ops : Array Oper}

theorem nok {v : Value} : ∀ l, (none : Option Bool) = some l → v = .bool l := fun _ h => by cases h
theorem kn_sound {env : Env} {a : Act} (h : Rel n env a) {C : List (Nat × Bool)} {x : Operand} {v : Value} (hv : ev env C x = some v) (l : Bool) (hk : kn env x = some l) : v = .bool l := by
  cases x with
  | tmp t =>
    unfold ev at hv
    unfold kn at hk
    dsimp only at hv hk
    split at hv
    · rename_i e he
      rw [he] at hk
      obtain ⟨_, e2⟩ := elook_slot env t e he
      split at hv
      · cases hv; exact h.lit e e2 l hk
      · cases hv
    · cases hv
  | const u =>
    cases hv
    unfold kn at hk
    dsimp only at hk
    split at hk
    · cases hk; rfl
    · cases hk
  | _ => cases hk

theorem pick_sound {env : Env} {a : Act} (h : Rel n env a) {C : List (Nat × Bool)} {c x y : Operand} {F : Value → Option Bool → Prop} (hF : pickVC env C c x y F) :
    ∃ v k, F v k ∧ (∀ l, k = some l → v = .bool l) ∧ (CH a C → ∃ b, a.eval c = .bool b ∧ (if b then a.eval x else a.eval y) = v) := by
  unfold pickVC at hF
  split at hF
  · rename_i b hb
    split at hF
    · rename_i hk
      split at hF
      · rename_i v hv
        refine ⟨v, _, hF, fun l hl => kn_sound h hv l hl, fun hC => ⟨b, ev_sound h hC _ _ hb, ?_⟩⟩
        have := kn_sound h hb true hk
        injection this with this
        rw [this, if_pos rfl]; exact ev_sound h hC _ _ hv
      · exact hF.elim
    · rename_i hk
      split at hF
      · rename_i v hv
        refine ⟨v, _, hF, fun l hl => kn_sound h hv l hl, fun hC => ⟨b, ev_sound h hC _ _ hb, ?_⟩⟩
        have := kn_sound h hb false hk
        injection this with this
        rw [this, if_neg (by simp)]; exact ev_sound h hC _ _ hv
      · exact hF.elim
    · split at hF
      · rename_i s _
        split at hF
        · rename_i u v hu hv
          refine ⟨_, _, hF, nok, fun hC => ⟨b, ev_sound h hC _ _ hb, ?_⟩⟩
          have hs : a.tmps[s]? = some (.bool b) := by
            have hb' := hb
            unfold ev at hb'
            dsimp only at hb'
            split at hb'
            · rename_i e he
              split at hb'
              · rename_i hsub
                injection hb' with hb'
                obtain ⟨e1, e2⟩ := elook_slot env s e he
                have := h.yes e e2 (csub_CH hC hsub)
                rw [e1, hb'] at this
                exact this
              · cases hb'
            · cases hb'
          rw [pickV_eq]
          cases b
          · rw [if_neg (by simp), if_neg (by simp)]
            exact ev_sound h (C := (s, false) :: C) (fun p hp => by
              cases hp with
              | head => exact hs
              | tail _ hp => exact hC p hp) _ _ hv
          · rw [if_pos rfl, if_pos rfl]
            exact ev_sound h (C := (s, true) :: C) (fun p hp => by
              cases hp with
              | head => exact hs
              | tail _ hp => exact hC p hp) _ _ hu
        · exact hF.elim
      · exact hF.elim
  · exact hF.elim

theorem stepS_sound (hT : TabOk P T) {env : Env} {a : Act} (h : Rel n env a) {C : List (Nat × Bool)} {o : Oper} (hw : Region.wanted o (yielded ops a.tmps) = true ↔ CH a C)
    (hd : okDst n o.dst C = true) (hcl : closed env C C = true) {H : Heap} {K : Env → Prop} (hK : stepS P T env C o H K) :
    ∃ v env', Yields P ops H o v a ∧ Rel n env' (a.put o.dst v) ∧ K env' := by
  -- what is left to show: a value and its mark
  have fin : ∀ (v : Value) (k : Option Bool), (∀ l, k = some l → v = .bool l) → (CH a C → HeapV P (execOp a.eval o) H (.value v)) → K (eput env o.dst C v k) → ∃ v env', Yields P ops H o v a ∧ Rel n env' (a.put o.dst v) ∧ K env' := by
    intro v k hk hv hK
    by_cases hC : CH a C
    · exact ⟨v, _, .inl ⟨hw.2 hC, hv hC⟩, h.put hd hk (fun _ => rfl) (fun hn => absurd hC hn), hK⟩
    · exact ⟨undef, _, .inr ⟨Bool.eq_false_iff.2 (fun hh => hC (hw.1 hh)), rfl⟩, h.put hd hk (fun hh => absurd hh hC) (fun _ => rfl), hK⟩
  have gen : stabVC P T (underC env C) (ev env C) H o (fun v => K (eput env o.dst C v none)) → ∃ v env', Yields P ops H o v a ∧ Rel n env' (a.put o.dst v) ∧ K env' := by
    intro hh
    obtain ⟨v, hF, hv⟩ := stab_sound (c := CH a C) (ev := a.eval) hT (fun hc X hX => underC_sound h hc hcl hc hX) (fun hc x v hx => ev_sound h hc x v hx) hh
    exact fin v none nok hv hF
  unfold stepS at hK
  split at hK
  · rename_i x hop
    split at hK
    · rename_i v hv
      exact fin v _ (fun l hl => kn_sound h hv l hl) (fun hC w _ => by simp [execOp, hop, ev_sound h hC _ _ hv]) hK
    · exact hK.elim
  · rename_i x hop
    split at hK
    · rename_i v hv
      exact fin v _ (fun l hl => kn_sound h hv l hl) (fun hC w _ => by simp [execOp, hop, ev_sound h hC _ _ hv]) hK
    · exact hK.elim
  · rename_i x hop
    split at hK
    · rename_i b hv
      refine fin _ _ ?_ (fun hC w _ => by simp [execOp, hop, ev_sound h hC _ _ hv, Op.unary]) hK
      intro l hl
      split at hl
      · rename_i hk; have := kn_sound h hv true hk; injection this with this; cases hl; rw [this]; rfl
      · rename_i hk; have := kn_sound h hv false hk; injection this with this; cases hl; rw [this]; rfl
      · cases hl
    · exact hK.elim
  · rename_i c x y hop
    obtain ⟨v, k, hF, hk, hv⟩ := pick_sound h hK
    refine fin v k hk (fun hC w _ => ?_) hF
    obtain ⟨b, hb, hh⟩ := hv hC
    simp [execOp, hop, hb, asBool, hh]
  · exact gen hK

theorem stepE_sound (hT : TabOk P T) {env : Env} {a : Act} (h : Rel n env a) {C : List (Nat × Bool)} {o : Oper} (hw : Region.wanted o (yielded ops a.tmps) = true ↔ CH a C)
    (hd : okDst n o.dst C = true) (hcl : closed env C C = true) {H : Heap} {K : Env → Prop} (hK : stepE P T env C o H K) :
    ∃ v env', Yields P ops H o v a ∧ Rel n env' (a.put o.dst v) ∧ K env' := by
  obtain ⟨v, hF, hv⟩ := stab_sound (c := CH a C) (ev := a.eval) hT (fun hc X hX => underC_sound h hc hcl hc hX) (fun hc x v hx => ev_sound h hc x v hx) hK
  obtain ⟨u, rfl, hK⟩ := ex1_out hF
  by_cases hC : CH a C
  · exact ⟨v, _, .inl ⟨hw.2 hC, hv hC⟩, h.put hd nok (fun _ => rfl) (fun hn => absurd hC hn), hK⟩
  · exact ⟨undef, _, .inr ⟨Bool.eq_false_iff.2 (fun hh => hC (hw.1 hh)), rfl⟩, h.put hd nok (fun hh => absurd hh hC) (fun _ => rfl), hK⟩

theorem opS_sound (hT : TabOk P T) {env : Env} {a : Act} (h : Rel n env a) {o : Oper} {H : Heap} {K : Env → Prop} (hK : opS P T n env ops o H K) :
    ∃ v env', Yields P ops H o v a ∧ Rel n env' (a.put o.dst v) ∧ K env' := by
  unfold opS at hK
  split at hK
  · rename_i hg
    have := guardC_sound h hg
    dsimp only at this
    split at hK
    · rename_i hd
      exact ⟨undef, _, .inr ⟨this, rfl⟩, h.put hd nok (fun _ => rfl) (fun _ => rfl), hK⟩
    · exact hK.elim
  · rename_i C hg
    have := guardC_sound h hg
    dsimp only at this
    split at hK
    · rename_i hd
      simp only [Bool.and_eq_true] at hd
      split at hK
      · exact stepE_sound hT h this hd.1 hd.2 hK
      · exact stepS_sound hT h this hd.1 hd.2 hK
    · exact hK.elim
  · exact hK.elim
end

/-! ### Operations that act -/
def extIf (x : Bool) (H H1 : Heap) (X : Prop) : Prop :=
  match x with
  | true => Ext H H1 ∧ X
  | false => X
def lastC : (Nat × Bool) → List (Nat × Bool) → Nat
  | p, [] => p.1
  | _, q :: r => lastC q r
def effGo (P : Program) (T : Tab) (fs : List Nat) (n : Nat) (ops : Array Oper) (o : Oper) (x : Bool) (H : Heap) (K : Env → Heap → Prop) : Nat → Env → Prop
  | 0, _ => False
  | f + 1, env => match guardC env ops o.guard with
    | none => False
    | some none => match okDst n o.dst [] with
      | true => K (eput env o.dst [] undef none) H
      | false => False
    | some (some []) => match okDst n o.dst [] with
      | true => effVC P T fs (ev env []) H o fun v H1 => extIf x H H1 (K (eput env o.dst [] v none) H1)
      | false => False
    | some (some (p :: r)) => match elook env (lastC p r) with
      | some e => match e.c with
        | [] => match e.v with
          | .bool b => (b = true → effGo P T fs n ops o x H K f (assume_ (lastC p r) true env)) ∧ (b = false → effGo P T fs n ops o x H K f (assume_ (lastC p r) false env))
          | _ => False
        | _ => False
      | none => False

section
variable {P : Program} {T : Tab} {fs : List Nat} {n : Nat} {ops : Array Oper}

theorem effVC_ext {ρ : Operand → Option Value} {H : Heap} {o : Oper} {F : Value → Heap → Prop} (ha : allocLike o.op = true) (h : effVC P T fs ρ H o F) : effVC P T fs ρ H o fun v H1 => Ext H H1 ∧ F v H1 := by
  obtain ⟨dst, op, ty, pos, after, guard⟩ := o
  have key : ∀ t cs g H1, NewB H t cs g H1 → Ext H H1 := fun t cs g H1 hn => by rw [hn.eq]; exact Ext.push _ _
  cases op <;> first
    | (cases ha; done)
    | (unfold effVC at h ⊢
       dsimp only at h ⊢
       split at h
       · exact fun g H1 hn => ⟨key _ _ _ _ hn, h g H1 hn⟩
       · exact h.elim)

theorem effGo_sound (hT : TabOk P T) (hfs : ∀ f, memb f fs = true → ∀ args w, (callFunc f args).run P w = .ok (.enter f args) w) {o : Oper} {x : Bool} {i : Nat} (hi : ops[i]? = some o) {K : Env → Heap → Prop} {a : Act} {w : World} :
    ∀ (f : Nat) (env : Env), Rel n env a → effGo P T fs n ops o x w.heap K f env →
      opX P ops i (fun a' w' => ∃ env', Rel n env' a' ∧ Same w w' ∧ ((x || allocLike o.op) = true → Ext w.heap w'.heap) ∧ K env' w'.heap) a w
  | 0, _, _, h => h.elim
  | f + 1, env, hr, h => by
    unfold effGo at h
    split at h
    · exact h.elim
    · rename_i hg
      have := guardC_sound hr hg
      dsimp only at this
      split at h
      · rename_i hd
        unfold opX
        rw [hi]
        dsimp only
        rw [if_neg (by rw [this]; simp)]
        exact ⟨_, hr.put hd nok (fun _ => rfl) (fun _ => rfl), Same.refl _, fun _ => Ext.refl _, h⟩
      · exact h.elim
    · rename_i hg
      have := guardC_sound hr hg
      dsimp only at this
      split at h
      · rename_i hd
        unfold opX
        rw [hi]
        dsimp only
        rw [if_pos (this.2 (CH_nil a))]
        have h2 : effVC P T fs (ev env []) w.heap o fun v H1 => ((x || allocLike o.op) = true → Ext w.heap H1) ∧ K (eput env o.dst [] v none) H1 := by
          cases hx : x with
          | true =>
            rw [hx] at h
            simp only [extIf] at h
            simpa using h
          | false =>
            rw [hx] at h
            simp only [extIf] at h
            cases ha : allocLike o.op with
            | true => simpa using effVC_ext ha h
            | false => simpa using h
        refine upX_mono (fun v w' hh => ?_) (eff_sound hT hfs (fun y v hy => ev_sound hr (CH_nil a) y v hy) h2)
        obtain ⟨u, hu, hs, h3, h4⟩ := hh
        rw [hu]
        exact ⟨_, hr.put hd nok (fun _ => rfl) (fun hn => absurd (CH_nil a) hn), hs, h3, h4⟩
      · exact h.elim
    · rename_i p r hg
      split at h
      · rename_i e he
        split at h
        · rename_i hc
          split at h
          · rename_i b hb
            obtain ⟨e1, e2⟩ := elook_slot env _ e he
            have hy := hr.yes e e2 (by rw [hc]; exact CH_nil a)
            rw [e1, hb] at hy
            cases b with
            | true => exact effGo_sound hT hfs hi f _ (hr.assume_ hy) (h.1 rfl)
            | false => exact effGo_sound hT hfs hi f _ (hr.assume_ hy) (h.2 rfl)
          · exact h.elim
        · exact h.elim
      · exact h.elim
end

/-! ### The text's order -/
def listVC (P : Program) (T : Tab) (fs : List Nat) (n : Nat) (ops : Array Oper) (K : Env → Heap → Prop) : List Oper → Env → Heap → Prop
  | [], env, H => K env H
  | o :: r, env, H => match isEff T o.op with
    | true => effGo P T fs n ops o false H (listVC P T fs n ops K r) 9 env
    | false => opS P T n env ops o H fun env' => listVC P T fs n ops K r env' H

section
variable {P : Program} {T : Tab} {fs : List Nat} {n : Nat} {ops : Array Oper}
theorem listVC_sound (hT : TabOk P T) (hfs : ∀ f, memb f fs = true → ∀ args w, (callFunc f args).run P w = .ok (.enter f args) w) {K : Env → Heap → Prop} :
    ∀ (l : List Oper) (k : Nat) (env : Env) (a : Act) (w : World), (∀ j, l[j]? = ops[k + j]?) → Rel n env a → listVC P T fs n ops K l env w.heap →
      listX P ops (fun a' w' => ∃ env', Rel n env' a' ∧ Same w w' ∧ K env' w'.heap) (List.range' k l.length) a w
  | [], k, env, a, w, _, hr, h => ⟨env, hr, Same.refl _, h⟩
  | o :: l, k, env, a, w, hl, hr, h => by
    have h0 : ops[k]? = some o := by simpa using (hl 0).symm
    have hl' : ∀ j, l[j]? = ops[k + 1 + j]? := fun j => by have := hl (j + 1); simpa [Nat.add_assoc, Nat.add_comm 1 j] using this
    have mono : ∀ {w w1 : World} {l : List Nat} {a1 : Act}, Same w w1 → listX P ops (fun a' w' => ∃ env', Rel n env' a' ∧ Same w1 w' ∧ K env' w'.heap) l a1 w1 → listX P ops (fun a' w' => ∃ env', Rel n env' a' ∧ Same w w' ∧ K env' w'.heap) l a1 w1 := by
      intro w w1 l a1 hs
      have : ∀ (l : List Nat) (a1 : Act) (w2 : World), listX P ops (fun a' w' => ∃ env', Rel n env' a' ∧ Same w1 w' ∧ K env' w'.heap) l a1 w2 → listX P ops (fun a' w' => ∃ env', Rel n env' a' ∧ Same w w' ∧ K env' w'.heap) l a1 w2 := by
        intro l
        induction l with
        | nil => intro a1 w2 ⟨e, h1, h2, h3⟩; exact ⟨e, h1, hs.trans h2, h3⟩
        | cons i r ih => intro a1 w2 hh; exact opX_mono (fun a' w' => ih a' w') hh
      exact this l a1 w1
    rw [List.length_cons, List.range'_succ]
    unfold listVC at h
    show opX P ops k (listX P ops _ _) a w
    split at h
    · refine opX_mono (fun a' w' hh => ?_) (effGo_sound hT hfs h0 9 env hr h)
      obtain ⟨env', hr', hs, _, hK⟩ := hh
      exact mono hs (listVC_sound hT hfs l (k + 1) env' a' w' hl' hr' hK)
    · obtain ⟨v, env', hy, hr', hK⟩ := opS_sound hT hr h
      exact hy.opX h0 (listVC_sound hT hfs l (k + 1) env' _ w hl' hr' hK)
end
end Go.V
