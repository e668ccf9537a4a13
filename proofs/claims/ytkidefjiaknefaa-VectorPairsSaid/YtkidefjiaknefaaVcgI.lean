/- The code's statement over the heap is sound; functions. -/
import Derived.Test.YtkidefjiaknefaaVcgH
namespace Go.V
open Go

section
variable {P : Program} {ops : Array Oper}
def wrOps (ops : List Oper) (s : Nat) : Prop := ∃ o ∈ ops, o.dst = some s
def FrO (ops : Array Oper) (a a' : Act) : Prop := ∀ s, ¬ wrOps ops.toList s → a'.tmps[s]? = a.tmps[s]?
theorem FrO.refl (a : Act) : FrO ops a a := fun _ _ => rfl
theorem FrO.trans {a b c : Act} (h : FrO ops a b) (k : FrO ops b c) : FrO ops a c := fun s hs => (k s hs).trans (h s hs)
theorem FrO.put {i : Nat} {o : Oper} (hi : ops[i]? = some o) (a : Act) (v : Value) : FrO ops a (a.put o.dst v) := by
  intro s hs
  cases hd : o.dst with
  | none => rfl
  | some d =>
    have hne : s ≠ d := fun e => hs ⟨o, by rw [Array.mem_toList_iff]; exact Array.mem_of_getElem? hi, by rw [hd, e]⟩
    exact put_get hne
theorem listX_fr {K : Act → World → Prop} {a0 : Act} : ∀ (l : List Nat) (a : Act) (w : World), FrO ops a0 a → listX P ops K l a w → listX P ops (fun a' w' => FrO ops a0 a' ∧ K a' w') l a w
  | [], _a, _w, hf, h => ⟨hf, h⟩
  | _i :: r, a, _w, hf, h => opX_mono' (fun _ hh => listX_fr r _ _ hf hh) (fun _o v _w' ho hh => listX_fr r _ _ (hf.trans (FrO.put ho a v)) hh) h
theorem anyX_fr {md : Region.Mode} {ex : Nat → Bool} {K : Act → World → Prop} {a0 : Act} : ∀ (f : Nat) (listed : Array Bool) (a : Act) (w : World), FrO ops a0 a → anyX P md ops ex K f listed a w →
    anyX P md ops ex (fun a' w' => FrO ops a0 a' ∧ K a' w') f listed a w
  | 0, _listed, _a, _w, hf, h => ⟨h.1, hf, h.2⟩
  | f + 1, _listed, a, _w, hf, h => ⟨fun h0 => ⟨hf, h.1 h0⟩, fun i hi => opX_mono' (fun _ hh => ⟨hh.1, anyX_fr f _ _ _ hf hh.2⟩) (fun _o v _w' ho hh => ⟨hh.1, anyX_fr f _ _ _ (hf.trans (FrO.put ho a v)) hh.2⟩) (h.2 i hi)⟩
end

/-- the code writes slot s -/
def wrC : Code → Nat → Prop
  | .region _ ops _, s => wrOps ops.toList s
  | .seq a b, s => wrC a s ∨ wrC b s
  | .cond _ a b, s => wrC a s ∨ wrC b s
  | .block _ c, s => wrC c s
  | .loop c, s => wrC c s
  | .scope c, s => wrC c s
  | _, _ => False
def Fr (c : Code) (a a' : Act) : Prop := ∀ s, ¬ wrC c s → a'.tmps[s]? = a.tmps[s]?
theorem memb_cons {x y : Nat} {l : List Nat} : memb x (y :: l) = true ↔ x = y ∨ memb x l = true := by
  show (match Nat.beq x y with
    | true => true
    | false => memb x l) = true ↔ _
  cases hb : Nat.beq x y with
  | true => simp [Nat.eq_of_beq_eq_true hb]
  | false =>
    have : x ≠ y := fun e => by rw [e] at hb; simp at hb
    simp [this]
theorem memb_dstsOps {s : Nat} : ∀ (ops : List Oper) (l : List Nat), memb s (dstsOps ops l) = true ↔ wrOps ops s ∨ memb s l = true
  | [], l => by simp [dstsOps, wrOps]
  | o :: r, l => by
    unfold dstsOps
    cases hd : o.dst with
    | none =>
      dsimp only
      rw [memb_dstsOps r l]
      simp [wrOps, hd]
    | some d =>
      dsimp only
      rw [memb_dstsOps r (d :: l), memb_cons]
      simp only [wrOps, List.mem_cons, exists_eq_or_imp, hd, Option.some.injEq]
      constructor
      · rintro (h | rfl | h)
        · exact .inl (.inr h)
        · exact .inl (.inl rfl)
        · exact .inr h
      · rintro ((rfl | h) | h)
        · exact .inr (.inl rfl)
        · exact .inl h
        · exact .inr (.inr h)
theorem memb_dsts {s : Nat} : ∀ (c : Code) (l : List Nat), plainC c = true → (memb s (dsts c l) = true ↔ wrC c s ∨ memb s l = true)
  | .region _ ops _, l, _ => memb_dstsOps ops.toList l
  | .seq a b, l, h => by
    simp only [plainC, Bool.and_eq_true] at h
    simp only [dsts, wrC]
    rw [memb_dsts a _ h.1, memb_dsts b _ h.2, or_assoc]
  | .cond _ a b, l, h => by
    simp only [plainC, Bool.and_eq_true] at h
    simp only [dsts, wrC]
    rw [memb_dsts a _ h.1, memb_dsts b _ h.2, or_assoc]
  | .block _ c, l, h => memb_dsts c l h
  | .loop c, l, h => memb_dsts c l h
  | .scope c, l, h => memb_dsts c l h
  | .skip, l, _ => by simp [dsts, wrC]
  | .exit _, l, _ => by simp [dsts, wrC]
  | .ret, l, _ => by simp [dsts, wrC]
  | .label _, l, _ => by simp [dsts, wrC]
  | .goto _, _, h => by cases h
  | .rangeFunc _ _ _ _, _, h => by cases h
  | .refuse _, _, h => by cases h

theorem mem_ekeep {ds : List Nat} : ∀ (env : Env) (e : Ent), e ∈ ekeep ds env → e ∈ env ∧ memb e.slot ds = false ∧ ∀ p ∈ e.c, memb p.1 ds = false
  | [], _, h => by cases h
  | x :: r, e, h => by
    unfold ekeep at h
    split at h
    · have := mem_ekeep r e h
      exact ⟨List.mem_cons_of_mem _ this.1, this.2⟩
    · rename_i hb
      simp only [Bool.or_eq_false_iff] at hb
      cases h with
      | head => exact ⟨List.mem_cons_self, hb.1, fun p hp => by
          have := hb.2
          rw [List.any_eq_false] at this
          simpa using this p hp⟩
      | tail _ h =>
        have := mem_ekeep r e h
        exact ⟨List.mem_cons_of_mem _ this.1, this.2⟩
theorem Rel.keep {n : Nat} {env : Env} {a a' : Act} (h : Rel n env a) {ds : List Nat} (hs : a'.tmps.size = n) (hd : a'.defers = []) (hf : ∀ s, memb s ds = false → a'.tmps[s]? = a.tmps[s]?) : Rel n (ekeep ds env) a' := by
  have hc : ∀ e ∈ ekeep ds env, (CH a' e.c ↔ CH a e.c) := fun e he => by
    obtain ⟨_, _, h3⟩ := mem_ekeep env e he
    constructor
    · intro hh p hp; rw [← hf p.1 (h3 p hp)]; exact hh p hp
    · intro hh p hp; rw [hf p.1 (h3 p hp)]; exact hh p hp
  refine ⟨hd, hs, fun e he => h.lit e (mem_ekeep env e he).1, fun e he hh => ?_, fun e he hh => ?_⟩
  · rw [hf _ (mem_ekeep env e he).2.1]; exact h.yes e (mem_ekeep env e he).1 ((hc e he).1 hh)
  · rw [hf _ (mem_ekeep env e he).2.1]; exact h.no e (mem_ekeep env e he).1 (fun h2 => hh ((hc e he).2 h2))
def Pairs (a : Act) : List (Nat × Nat) → List Value → Prop
  | [], [] => True
  | (s, _) :: r, v :: vs => a.tmps[s]? = some v ∧ Pairs a r vs
  | _, _ => False
theorem Rel.bind {n : Nat} {env : Env} {a : Act} (h : Rel n env a) : ∀ (S : List (Nat × Nat)) (vs : List Value), Pairs a S vs → Rel n (bindS S vs env) a
  | [], [], _ => h
  | (s, t) :: r, v :: vs, hp => by
    have ih := Rel.bind h r vs hp.2
    refine ⟨ih.defers, ih.size, fun e he => ?_, fun e he hc => ?_, fun e he hc => ?_⟩
    · cases he with
      | head => exact fun l hl => (by cases hl)
      | tail _ he => exact ih.lit e he
    · cases he with
      | head => exact hp.1
      | tail _ he => exact ih.yes e he hc
    · cases he with
      | head => exact absurd (CH_nil a) hc
      | tail _ he => exact ih.no e he hc
  | [], _ :: _, hp => hp.elim
  | (_, _) :: _, [], hp => hp.elim
theorem out_sound {n : Nat} {T : Tab} {env : Env} {a : Act} (h : Rel n env a) : ∀ (S : List (Nat × Nat)) (F : List Value → Prop), outS T env S F → ∃ vs, F vs ∧ Pairs a S vs ∧ ∀ G : List Value → Prop, allS T S G → G vs
  | [], F, hF => ⟨[], hF, trivial, fun _ hG => hG⟩
  | (s, t) :: r, F, hF => by
    unfold outS at hF
    split at hF
    · rename_i v hv
      obtain ⟨vs, h1, h2, h3⟩ := out_sound h r _ hF.2
      have hs : a.tmps[s]? = some v := by
        unfold ev at hv
        dsimp only at hv
        split at hv
        · rename_i e he
          split at hv
          · rename_i hsub
            injection hv with hv
            obtain ⟨e1, e2⟩ := elook_slot env s e he
            have := h.yes e e2 (csub_CH (CH_nil a) hsub)
            rw [e1, hv] at this
            exact this
          · cases hv
        · cases hv
      exact ⟨v :: vs, h1, ⟨hs, h2⟩, fun G hG => h3 _ (all1_at hG hF.1)⟩
    · exact hF.elim
theorem Pairs.get {a : Act} : ∀ {S : List (Nat × Nat)} {vs : List Value}, Pairs a S vs → S.map (fun p => a.tmps.getD p.1 undef) = vs
  | [], [], _ => rfl
  | (s, t) :: r, v :: vs, h => by
    have := Pairs.get h.2
    simp only [List.map_cons, this]
    congr 1
    rw [Array.getD_eq_getD_getElem?, h.1]
    rfl
  | [], _ :: _, h => h.elim
  | (_, _) :: _, [], h => h.elim

def Post (n : Nat) (w0 : World) (c : Code) (a0 : Act) (Q : Exit → Env → Heap → Prop) : Exit → Act → World → Prop :=
  fun e a' w' => ∃ env', Rel n env' a' ∧ Same w0 w' ∧ Fr c a0 a' ∧ Q e env' w'.heap

section
variable {P : Program} {T : Tab} {fs : List Nat} {n : Nat} {A B : Ann}

theorem codeVC_sound (hT : TabOk P T) (hfs : ∀ f, memb f fs = true → ∀ args w, (callFunc f args).run P w = .ok (.enter f args) w) (hm : P.follows .mixedOrders = true) :
    ∀ (c : Code) (Q : Exit → Env → Heap → Prop) (env : Env) (a : Act) (w : World), Rel n env a → codeVC P T fs n A B c Q env w.heap → Code.wp P c (Post n w c a Q) a w := by
  intro c
  induction c with
  | skip => exact fun Q env a w hr h => wp_skip ⟨env, hr, Same.refl _, fun _ _ => rfl, h⟩
  | label l => exact fun Q env a w hr h => wp_label ⟨env, hr, Same.refl _, fun _ _ => rfl, h⟩
  | exit id => exact fun Q env a w hr h => wp_exit ⟨env, hr, Same.refl _, fun _ _ => rfl, h⟩
  | ret => exact fun Q env a w hr h => wp_ret ⟨env, hr, Same.refl _, fun _ _ => rfl, h⟩
  | goto l => exact fun Q env a w hr h => h.elim
  | refuse l => exact fun Q env a w hr h => h.elim
  | rangeFunc f p as b _ _ => exact fun Q env a w hr h => h.elim
  | region id ops d =>
    intro Q env a w hr h
    cases d with
    | false =>
      have h1 := listVC_sound hT hfs ops.toList 0 env a w (by simp) hr h
      have h2 := listX_fr (P := P) (ops := ops) _ a w (FrO.refl a) h1
      refine wp_region (wpOps_of_listX (Q := Post n w (.region id ops false) a Q) _ _ _ ?_)
      rw [List.range_eq_range', ← Array.length_toList]
      have mono : ∀ (l : List Nat) (a1 : Act) (w1 : World), listX P ops (fun a' w' => FrO ops a a' ∧ ∃ env', Rel n env' a' ∧ Same w w' ∧ Q .normal env' w'.heap) l a1 w1 → listX P ops (Post n w (.region id ops false) a Q .normal) l a1 w1 := by
        intro l
        induction l with
        | nil => exact fun a1 w1 ⟨hf, env', h1, h2, h3⟩ => ⟨env', h1, h2, hf, h3⟩
        | cons i r ih => exact fun a1 w1 hh => opX_mono (fun a' w' => ih a' w') hh
      exact mono _ _ _ h2
    | true =>
      unfold codeVC at h
      split at h
      · rename_i hsel
        have h1 := drawVC_sound (w0 := w) hT hfs hsel ops.size (Array.replicate ops.size false) env a { w with drawn := w.drawn + 1 } hr ⟨rfl, rfl, rfl⟩ h
        have h2 := anyX_fr (P := P) (ops := ops) _ _ a _ (FrO.refl a) h1
        refine wp_region_any hm (wpAny_of_anyX (Q := Post n w (.region id ops true) a Q) (ex := exB ops) _ _ _ _ ?_)
        have mono : ∀ (f : Nat) (listed : Array Bool) (a1 : Act) (w1 : World), anyX P .any ops (exB ops) (fun a' w' => FrO ops a a' ∧ ∃ env', Rel n env' a' ∧ Same w w' ∧ Q .normal env' w'.heap) f listed a1 w1 →
            anyX P .any ops (exB ops) (Post n w (.region id ops true) a Q .normal) f listed a1 w1 := by
          intro f
          induction f with
          | zero => exact fun l a1 w1 ⟨h0, hf, env', h1, h2, h3⟩ => ⟨h0, env', h1, h2, hf, h3⟩
          | succ f ih => exact fun l a1 w1 hh => ⟨fun h0 => let ⟨hf, env', h1, h2, h3⟩ := hh.1 h0; ⟨env', h1, h2, hf, h3⟩, fun i hi => opX_mono (fun a' w' h3 => ⟨h3.1, ih _ a' w' h3.2⟩) (hh.2 i hi)⟩
        exact mono _ _ _ _ h2
      · exact h.elim
  | seq x y ihx ihy =>
    intro Q env a w hr h
    unfold codeVC at h
    split at h
    · refine wp_seq (wp_mono (ihx _ env a w hr h) ?_)
      rintro e a1 w1 ⟨env1, hr1, hs1, hf1, hq⟩
      cases e with
      | normal =>
        refine wp_mono (ihy Q env1 a1 w1 hr1 hq) ?_
        rintro e a2 w2 ⟨env2, hr2, hs2, hf2, hq2⟩
        exact ⟨env2, hr2, hs1.trans hs2, fun s hs => (hf2 s (fun h => hs (.inr h))).trans (hf1 s (fun h => hs (.inl h))), hq2⟩
      | _ => exact ⟨env1, hr1, hs1, fun s hs => hf1 s (fun h => hs (.inl h)), hq⟩
    · rename_i S _
      split at h
      · rename_i hp
        obtain ⟨M, h1, h2⟩ := h
        refine wp_seq (wp_mono (ihx _ env a w hr h1) ?_)
        rintro e a1 w1 ⟨env1, hr1, hs1, hf1, hq⟩
        cases e with
        | normal =>
          obtain ⟨vs, hM, hpr, hty⟩ := out_sound hr1 S _ hq
          have hk : Rel n (ekeep (dsts x (S.map (·.1))) env) a1 := hr.keep hr1.size hr1.defers (fun s hs => hf1 s (fun hw => by
            have := (memb_dsts x (S.map (·.1)) hp).2 (.inl hw)
            rw [this] at hs; cases hs))
          refine wp_mono (ihy Q _ a1 w1 (hk.bind S vs hpr) (hty _ h2 w1.heap hM)) ?_
          rintro e a2 w2 ⟨env2, hr2, hs2, hf2, hq2⟩
          exact ⟨env2, hr2, hs1.trans hs2, fun s hs => (hf2 s (fun h => hs (.inr h))).trans (hf1 s (fun h => hs (.inl h))), hq2⟩
        | _ => exact ⟨env1, hr1, hs1, fun s hs => hf1 s (fun h => hs (.inl h)), hq⟩
      · exact h.elim
  | cond c x y ihx ihy =>
    intro Q env a w hr h
    unfold codeVC at h
    split at h
    · rename_i t ht
      have he := ev_sound hr (CH_nil a) _ _ ht
      have px : ∀ {e a' w'}, Post n w x a Q e a' w' → Post n w (.cond c x y) a Q e a' w' := fun ⟨env', h1, h2, h3, h4⟩ => ⟨env', h1, h2, fun s hs => h3 s (fun h => hs (.inl h)), h4⟩
      have py : ∀ {e a' w'}, Post n w y a Q e a' w' → Post n w (.cond c x y) a Q e a' w' := fun ⟨env', h1, h2, h3, h4⟩ => ⟨env', h1, h2, fun s hs => h3 s (fun h => hs (.inr h)), h4⟩
      split at h
      · rename_i hk
        have := kn_sound hr ht true hk
        exact wp_cond_true (he.trans this) (wp_mono (ihx Q env a w hr h) fun _ _ _ => px)
      · rename_i hk
        have := kn_sound hr ht false hk
        exact wp_cond_false (he.trans this) (wp_mono (ihy Q env a w hr h) fun _ _ _ => py)
      · split at h
        · rename_i s _
          have hs : a.tmps[s]? = some (.bool t) := by
            unfold ev at ht
            dsimp only at ht
            split at ht
            · rename_i e he
              split at ht
              · rename_i hsub
                injection ht with ht
                obtain ⟨e1, e2⟩ := elook_slot env s e he
                have := hr.yes e e2 (csub_CH (CH_nil a) hsub)
                rw [e1, ht] at this
                exact this
              · cases ht
            · cases ht
          refine wp_cond_split he (fun e => ?_) (fun e => ?_)
          · exact wp_mono (ihx Q _ a w (hr.assume_ (by rw [hs, e])) (h.1 e)) fun _ _ _ => px
          · exact wp_mono (ihy Q _ a w (hr.assume_ (by rw [hs, e])) (h.2 e)) fun _ _ _ => py
        · exact h.elim
    · exact h.elim
  | block id c ih =>
    intro Q env a w hr h
    refine wp_block (wp_mono (ih _ env a w hr h) ?_)
    rintro e a1 w1 ⟨env1, hr1, hs1, hf1, hq⟩
    cases e with
    | exit id' =>
      simp only [Exit.inBlock]
      simp only [inBlk] at hq
      split at hq
      · rename_i hb
        rw [if_pos (Nat.eq_of_beq_eq_true hb)]
        exact ⟨env1, hr1, hs1, hf1, hq⟩
      · rename_i hb
        rw [if_neg (fun e => by rw [e] at hb; simp at hb)]
        exact ⟨env1, hr1, hs1, hf1, hq⟩
    | _ => exact ⟨env1, hr1, hs1, hf1, hq⟩
  | scope c ih =>
    intro Q env a w hr h
    refine wp_scope_straight (wp_mono (ih _ env a w hr h) ?_)
    rintro e a1 w1 ⟨env1, hr1, hs1, hf1, hq⟩
    cases e with
    | goto l => exact hq
    | _ => exact ⟨env1, hr1, hs1, hf1, hq⟩
  | loop c ih =>
    intro Q env a w hr h
    unfold codeVC at h
    split at h
    · exact h.elim
    · rename_i S _
      split at h
      · rename_i hp
        obtain ⟨I, m, h0, h1⟩ := h
        -- the invariant, over the frame
        let J : Act → World → Prop := fun a' w' => Same w w' ∧ Fr c a a' ∧ a'.tmps.size = n ∧ a'.defers = [] ∧ ∃ vs, I vs w'.heap ∧ Pairs a' S vs ∧ ∀ G : List Value → Prop, allS T S G → G vs
        refine wp_loop J (fun a' w' => m (S.map fun p => a'.tmps.getD p.1 undef) w'.heap) ?_ ?_
        · obtain ⟨vs, hI, hpr, hty⟩ := out_sound hr S _ h0
          exact ⟨Same.refl _, fun _ _ => rfl, hr.size, hr.defers, vs, hI, hpr, hty⟩
        · rintro a1 w1 ⟨hs1, hf1, hz1, hd1, vs, hI, hpr, hty⟩
          have hk : Rel n (ekeep (dsts c (S.map (·.1))) env) a1 := hr.keep hz1 hd1 (fun s hs => hf1 s (fun hw => by
            have := (memb_dsts c (S.map (·.1)) hp).2 (.inl hw)
            rw [this] at hs; cases hs))
          refine wp_mono (ih _ _ a1 w1 (hk.bind S vs hpr) (hty _ h1 w1.heap hI)) ?_
          rintro e a2 w2 ⟨env2, hr2, hs2, hf2, hq2⟩
          have hf : Fr c a a2 := fun s hs => (hf2 s hs).trans (hf1 s hs)
          cases e with
          | normal =>
            obtain ⟨us, hu, hpu, htu⟩ := out_sound hr2 S _ hq2
            refine ⟨⟨hs1.trans hs2, hf, hr2.size, hr2.defers, us, hu.1, hpu, htu⟩, ?_⟩
            show m (S.map fun p => a2.tmps.getD p.1 undef) w2.heap < m (S.map fun p => a1.tmps.getD p.1 undef) w1.heap
            rw [hpu.get, hpr.get]
            exact hu.2
          | _ => exact ⟨env2, hr2, hs1.trans hs2, hf, hq2⟩
      · exact h.elim
end

/-! ### Functions -/
def resVC (T : Tab) (env : Env) (H : Heap) : List ResultVar → (List Value → Prop) → Prop
  | [], F => F []
  | .tmp t :: r, F => match ev env [] (.tmp t) with
    | some v => resVC T env H r fun vs => F (v :: vs)
    | none => False
  | .cell s t :: r, F => match ev env [] (.tmp s) with
    | some (.pointer (some ad)) => ldVC T (fun X => X) H t ad fun v => resVC T env H r fun vs => F (v :: vs)
    | _ => False
def tup : List Value → Value
  | [v] => v
  | vs => .tuple ⟨vs⟩
def retQ (T : Tab) (rs : List ResultVar) (R : Value → Heap → Prop) : Exit → Env → Heap → Prop
  | .ret, env, H => resVC T env H rs fun vs => R (tup vs) H
  | .normal, env, H => resVC T env H rs fun vs => R (tup vs) H
  | _, _, _ => False
def argEnv : List Value → Nat → Env
  | [], _ => []
  | v :: r, i => ⟨i, [], v, none⟩ :: argEnv r (i + 1)
def funcVC (P : Program) (T : Tab) (fs : List Nat) (A B : Ann) (fn : Func) (args : List Value) (R : Value → Heap → Prop) (H : Heap) : Prop :=
  match fn.body with
  | some c => match Nat.ble args.length fn.ntmps with
    | true => codeVC P T fs fn.ntmps A B c (retQ T fn.results.toList R) (argEnv args 0) H
    | false => False
  | none => False

section
variable {P : Program} {T : Tab} {fs : List Nat} {n : Nat} {A B : Ann}
theorem fnsOk_of {P : Program} {fs : List Nat} (h : fs.all (fun f => match P.funcs[f]? with | some fn => fn.body.isSome && !(fn.name == "runtime.NumGoroutine") | none => false) = true) :
    ∀ f, memb f fs = true → ∀ args w, (callFunc f args).run P w = .ok (.enter f args) w := by
  intro f hf args w
  have hm : ∀ l : List Nat, memb f l = true → f ∈ l := by
    intro l
    induction l with
    | nil => intro h; cases h
    | cons x r ih =>
      intro h
      rcases memb_cons.1 h with h | h
      · rw [h]; exact List.mem_cons_self
      · exact List.mem_cons_of_mem _ (ih h)
  have h1 := List.all_eq_true.1 h f (hm fs hf)
  split at h1
  · rename_i fn hfn
    simp only [Bool.and_eq_true, Bool.not_eq_true'] at h1
    have hn : fn.body ≠ none := by
      intro hb; rw [hb] at h1; cases h1.1
    have hm : fn.name ≠ "runtime.NumGoroutine" := by simpa using h1.2
    simp [callFunc, hfn, hm, hn]
  · cases h1
theorem mem_argEnv : ∀ (vs : List Value) (i : Nat) (e : Ent), e ∈ argEnv vs i → e.c = [] ∧ e.k = none ∧ ∃ j, e.slot = i + j ∧ vs[j]? = some e.v
  | [], _, _, h => by cases h
  | v :: r, i, e, h => by
    cases h with
    | head => exact ⟨rfl, rfl, 0, rfl, rfl⟩
    | tail _ h =>
      obtain ⟨h1, h2, j, h3, h4⟩ := mem_argEnv r (i + 1) e h
      exact ⟨h1, h2, j + 1, by omega, by simpa using h4⟩
theorem res_sound (hT : TabOk P T) {env : Env} {a : Act} {w : World} (hr : Rel n env a) : ∀ (rs : List ResultVar) (F : List Value → Prop), resVC T env w.heap rs F →
    ∃ vs, F vs ∧ (rs.mapM (fun r => (match r with
      | .tmp t => pure (a.tmps.getD t undef)
      | .cell s t => do loadVar t (← asAddr (a.tmps.getD s undef)) : Sem Value))).run P w = .ok vs w
  | [], F, h => ⟨[], h, rfl⟩
  | .tmp t :: r, F, h => by
    unfold resVC at h
    split at h
    · rename_i v hv
      obtain ⟨vs, h1, h2⟩ := res_sound hT hr r _ h
      refine ⟨v :: vs, h1, ?_⟩
      have he : a.tmps.getD t undef = v := ev_sound hr (CH_nil a) (.tmp t) v hv
      rw [List.mapM_cons]
      simp only [he, Sem.run_bind, Sem.run_pure, Result.andThen_ok, h2]
    · exact h.elim
  | .cell s t :: r, F, h => by
    unfold resVC at h
    split at h
    · rename_i ad hv
      obtain ⟨v, h1, h2⟩ := ldVC_sound (P := P) (c := True) hT (fun _ _ hx => hx) h
      obtain ⟨vs, h3, h4⟩ := res_sound hT hr r _ h1
      refine ⟨v :: vs, h3, ?_⟩
      have he : a.tmps.getD s undef = .pointer (some ad) := ev_sound hr (CH_nil a) (.tmp s) _ hv
      have ha : (asAddr (.pointer (some ad))).run P w = .ok ad w := rfl
      rw [List.mapM_cons]
      simp only [he, Sem.run_bind, Sem.run_pure, Result.andThen_ok, ha, h2 trivial w (Ext.refl _), h4]
    · exact h.elim
theorem funcVC_sound (hT : TabOk P T) (hfs : ∀ f, memb f fs = true → ∀ args w, (callFunc f args).run P w = .ok (.enter f args) w) (hm : P.follows .mixedOrders = true)
    {f : FuncId} {fn : Func} (hf : P.funcs[f]? = some fn) {args : List Value} {R : Value → Heap → Prop} {H : Heap} (h : funcVC P T fs A B fn args R H) : CallsH P f ⟨args⟩ H R := by
  intro w hw
  subst hw
  unfold funcVC at h
  split at h
  · rename_i c hb
    split at h
    · rename_i hlen
      have hlen : args.length ≤ fn.ntmps := Nat.le_of_ble_eq_true hlen
      refine calls_of_wp hf hb ?_
      have hr : Rel fn.ntmps (argEnv args 0) { tmps := (⟨args⟩ : Array Value) ++ Array.replicate (fn.ntmps - (⟨args⟩ : Array Value).size) undef, defers := [] } := by
        have hg : ∀ e ∈ argEnv args 0, ((⟨args⟩ : Array Value) ++ Array.replicate (fn.ntmps - (⟨args⟩ : Array Value).size) undef)[e.slot]? = some e.v := by
          intro e he
          obtain ⟨_, _, j, h3, h4⟩ := mem_argEnv args 0 e he
          rw [Nat.zero_add] at h3
          have hj : j < args.length := by
            rcases Nat.lt_or_ge j args.length with hl | hl
            · exact hl
            · rw [List.getElem?_eq_none hl] at h4; cases h4
          rw [h3, Array.getElem?_append_left (by simpa using hj)]
          simpa using h4
        refine ⟨rfl, by simp; omega, fun e he l hl => ?_, fun e he _ => hg e he, fun e he hc => ?_⟩
        · rw [(mem_argEnv args 0 e he).2.1] at hl; cases hl
        · rw [(mem_argEnv args 0 e he).1] at hc; exact absurd (CH_nil _) hc
      refine wp_mono (codeVC_sound hT hfs hm c _ _ _ w hr h) ?_
      have key : ∀ (a' : Act) (w' : World) (env' : Env), Rel fn.ntmps env' a' → Same w w' → (resVC T env' w'.heap fn.results.toList fun vs => R (tup vs) w'.heap) →
          a'.defers = [] ∧ ∃ v, (results fn a'.tmps).run P w' = .ok v w' ∧ ∃ v', Ending.returned v = .returned v' ∧ Same w w' ∧ R v' w'.heap := by
        intro a' w' env' hr' hs hq
        obtain ⟨vs, h1, h2⟩ := res_sound (P := P) hT hr' _ _ hq
        refine ⟨hr'.defers, tup vs, ?_, _, rfl, hs, h1⟩
        unfold results
        rw [Sem.run_bind, Array.mapM_eq_mapM_toList, Sem.run_map]
        have h3 : ∀ (g : ResultVar → Sem Value), (∀ r, g r = (match r with
            | .tmp t => pure (a'.tmps.getD t undef)
            | .cell s t => do loadVar t (← asAddr (a'.tmps.getD s undef)) : Sem Value)) → (fn.results.toList.mapM g).run P w' = .ok vs w' := by
          intro g hg
          rw [funext hg]
          exact h2
        rw [h3 _ (fun r => by cases r <;> rfl)]
        match vs with
        | [] => rfl
        | [v] => rfl
        | v :: u :: r => rfl
      rintro e a' w' ⟨env', hr', hs, _, hq⟩
      cases e with
      | normal => exact key a' w' env' hr' hs hq
      | ret => exact key a' w' env' hr' hs hq
      | exit id => exact hq.elim
      | goto l => exact hq.elim
      | panic c => exact hq.elim
      | outgrown => exact hq.elim
    · exact h.elim
  · exact h.elim
end
end Go.V
