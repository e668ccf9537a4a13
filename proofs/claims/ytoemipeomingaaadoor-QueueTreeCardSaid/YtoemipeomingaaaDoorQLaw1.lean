/- Sets of records by their paths, in order: the plain law. -/
import Derived.Test.YtoemipeomingaaaDoorQIns2
namespace Go.Proofs.YtoemipeomingaaaDoor
open Go Go.V

/-! ### Paths -/
theorem nameB_nil : nameB [] = false := rfl
theorem mayB_ne {p : Bs} (h : mayB p = true) : p ≠ [] := by
  rintro rfl
  revert h
  decide
theorem mayB_len {p : Bs} (h : mayB p = true) : p.length ≤ 160 := by
  unfold mayB at h
  simp at h
  omega
theorem aheadB_cut {a b : Bs} (h : ∀ c ∈ b, c ≠ 47) : aheadB (a ++ 47 :: b) = a := by
  unfold aheadB
  rw [lastB_some h]
  have : (a ++ 47 :: b).length - b.length - 1 = a.length := by simp; omega
  rw [this]
  simp
theorem aheadB_long : ∀ (a b : Bs), a.length ≤ (aheadB (a ++ 47 :: b)).length := by
  intro a b
  rcases pieces_split b with h | ⟨c, d, rfl, h⟩
  · rw [aheadB_cut h]; exact Nat.le_refl _
  · have : a ++ 47 :: (c ++ 47 :: d) = (a ++ 47 :: c) ++ 47 :: d := by simp
    rw [this, aheadB_cut h]
    simp
theorem mayB_cut {a b : Bs} (h : mayB (a ++ 47 :: b) = true) : mayB a = true := by
  have hl := aheadB_long a b
  unfold mayB at h ⊢
  rw [piecesB_append] at h
  simp only [Bool.and_eq_true, decide_eq_true_eq, List.length_append, List.length_cons, List.all_append] at h ⊢
  obtain ⟨⟨⟨h1, h2⟩, h3⟩, h4, h5⟩ := h
  have ha : (aheadB a).length ≤ a.length := by unfold aheadB; rw [List.length_take]; omega
  have hp : 0 < (piecesB b).length := List.length_pos_iff.2 (piecesB_ne b)
  exact ⟨⟨⟨by omega, by omega⟩, by omega⟩, h4⟩
theorem parentB_cut {a b : Bs} (h : ∀ c ∈ b, c ≠ 47) (hm : mayB (a ++ 47 :: b) = true) : parentB (a ++ 47 :: b) = a := by
  unfold parentB
  rw [if_pos hm, aheadB_cut h]
theorem parentB_none {a : Bs} (h : ∀ c ∈ a, c ≠ 47) : parentB a = [] := by
  unfold parentB
  rw [aheadB_none h]
  simp
theorem aboveB_none {a : Bs} (h : ∀ c ∈ a, c ≠ 47) : aboveB a = [] := by
  unfold aboveB
  rw [parentB_none h]
  rfl
theorem aboveB_cut {a b : Bs} (h : ∀ c ∈ b, c ≠ 47) (hm : mayB (a ++ 47 :: b) = true) : aboveB (a ++ 47 :: b) = a :: aboveB a := by
  have ha := mayB_ne (mayB_cut hm)
  show aboveF (parentB (a ++ 47 :: b)).length (parentB (a ++ 47 :: b)) = _
  rw [parentB_cut h hm]
  exact aboveF_step ha
theorem withinB_iff {p a : Bs} (ha : a ≠ []) : withinB p a = true ↔ mayB p = true ∧ mayB a = true ∧ ∃ c, p = a ++ 47 :: c := by
  unfold withinB
  have : (a == []) = false := by simpa using ha
  rw [this, Bool.false_or]
  simp only [Bool.and_eq_true, List.isPrefixOf_iff_prefix]
  constructor
  · rintro ⟨h1, h2, c, h3⟩
    exact ⟨h1, h2, c, by rw [← h3]; simp⟩
  · rintro ⟨h1, h2, c, h3⟩
    exact ⟨h1, h2, c, by rw [h3]; simp⟩
theorem above_within : ∀ (n : Nat) (p : Bs), p.length ≤ n → mayB p = true → ∀ a, a ∈ aboveB p ↔ a ≠ [] ∧ withinB p a = true
  | n, p, hn, hm, a => by
    rcases pieces_split p with h | ⟨q, b, rfl, h⟩
    · rw [aboveB_none h]
      constructor
      · intro h1; cases h1
      · rintro ⟨h1, h2⟩
        obtain ⟨_, _, c, h3⟩ := (withinB_iff h1).1 h2
        exact absurd rfl (h 47 (by rw [h3]; simp))
    · have hq := mayB_cut hm
      have hqn := mayB_ne hq
      rw [aboveB_cut h hm, List.mem_cons]
      cases n with
      | zero => simp at hn
      | succ n =>
        have ih := above_within n q (by simp at hn; omega) hq a
        rw [ih]
        constructor
        · rintro (rfl | ⟨h1, h2⟩)
          · exact ⟨hqn, (withinB_iff hqn).2 ⟨hm, hq, b, rfl⟩⟩
          · obtain ⟨_, h4, c, h5⟩ := (withinB_iff h1).1 h2
            exact ⟨h1, (withinB_iff h1).2 ⟨hm, h4, c ++ 47 :: b, by rw [h5]; simp⟩⟩
        · rintro ⟨h1, h2⟩
          obtain ⟨_, h4, c, h5⟩ := (withinB_iff h1).1 h2
          rcases pieces_split c with hc | ⟨d, e, rfl, hc⟩
          · have e1 : aheadB (q ++ 47 :: b) = a := by rw [h5, aheadB_cut hc]
            rw [aheadB_cut h] at e1
            exact .inl e1.symm
          · right
            have e1 : aheadB (q ++ 47 :: b) = a ++ 47 :: d := by
              rw [h5, show a ++ 47 :: (d ++ 47 :: e) = (a ++ 47 :: d) ++ 47 :: e by simp, aheadB_cut hc]
            rw [aheadB_cut h] at e1
            exact ⟨h1, (withinB_iff h1).2 ⟨hq, h4, d, e1⟩⟩
theorem mem_above {p a : Bs} (hm : mayB p = true) : a ∈ aboveB p ↔ a ≠ [] ∧ withinB p a = true := above_within _ p (Nat.le_refl _) hm a
theorem cmpB_pre : ∀ (a c : Bs), cmpB a (a ++ 47 :: c) = -1
  | [], c => rfl
  | x :: a, c => by
    rw [List.cons_append, cmpB, if_pos rfl]
    exact cmpB_pre a c
theorem within_lt {p a : Bs} (ha : a ≠ []) (h : withinB p a = true) : cmpB a p < 0 := by
  obtain ⟨_, _, c, rfl⟩ := (withinB_iff ha).1 h
  rw [cmpB_pre]
  omega
theorem within_irrefl (a : Bs) : withinB a a = false := by
  by_cases ha : a = []
  · subst ha; decide
  · rw [Bool.eq_false_iff]
    intro h
    have h1 := within_lt ha h
    rw [cmpB_eq.2 rfl] at h1
    omega

/-! ### Sets -/
def okL (l : List Rec) : Prop := ∀ r ∈ l, okR r = true
theorem okR_may {r : Rec} (h : okR r = true) : mayB r.path = true := by
  unfold okR at h
  simp at h
  exact h.1
theorem okR_ne {r : Rec} (h : okR r = true) : r.path ≠ [] := mayB_ne (okR_may h)
def ofS : List Rec → Bs → Option Rec
  | [], _ => none
  | x :: l, p => if x.path = p then some x else ofS l p
def stepO (p : Bs) (o : Option Rec) (r : Rec) : Option Rec := if okR r = true ∧ r.path = p then some r else o
/-- the last record of a path that counts -/
def lastO (l : List Rec) (p : Bs) : Option Rec := l.foldl (stepO p) none
theorem lastO_snoc (l : List Rec) (r : Rec) (p : Bs) : lastO (l ++ [r]) p = if okR r = true ∧ r.path = p then some r else lastO l p := by simp [lastO, stepO]
theorem foldl_stepO (p : Bs) : ∀ (l : List Rec) (o : Option Rec), l.foldl (stepO p) o = (l.foldl (stepO p) none).or o
  | [], o => rfl
  | r :: l, o => by
    have h1 : stepO p o r = (stepO p none r).or o := by unfold stepO; split <;> rfl
    rw [List.foldl_cons, List.foldl_cons, foldl_stepO p l (stepO p o r), foldl_stepO p l (stepO p none r), h1, Option.or_assoc]
theorem lastO_append (a b : List Rec) (p : Bs) : lastO (a ++ b) p = (lastO b p).or (lastO a p) := by
  unfold lastO
  rw [List.foldl_append, foldl_stepO]
theorem lastO_some {l : List Rec} {p : Bs} {r : Rec} (h : lastO l p = some r) : r ∈ l ∧ r.path = p ∧ okR r = true := by
  have key : ∀ (l : List Rec) (o : Option Rec), l.foldl (stepO p) o = some r → o = some r ∨ (r ∈ l ∧ r.path = p ∧ okR r = true) := by
    intro l
    induction l with
    | nil => intro o h; exact .inl h
    | cons x l ih =>
      intro o h
      rw [List.foldl_cons] at h
      rcases ih _ h with h1 | ⟨h1, h2⟩
      · unfold stepO at h1
        split at h1
        · rename_i hc
          injection h1 with h1
          subst h1
          exact .inr ⟨List.mem_cons_self, hc.2, hc.1⟩
        · exact .inl h1
      · exact .inr ⟨List.mem_cons_of_mem _ h1, h2⟩
  rcases key l none h with h1 | h1
  · cases h1
  · exact h1
theorem ofS_some : ∀ {l : List Rec} {p : Bs} {r : Rec}, ofS l p = some r → r ∈ l ∧ r.path = p
  | [], _, _, h => by cases h
  | x :: l, p, r, h => by
    rw [ofS] at h
    split at h
    · rename_i hx
      injection h with h
      subst h
      exact ⟨List.mem_cons_self, hx⟩
    · have := ofS_some h
      exact ⟨List.mem_cons_of_mem _ this.1, this.2⟩
theorem ofS_none : ∀ {l : List Rec} {p : Bs}, ofS l p = none ↔ ∀ r ∈ l, r.path ≠ p
  | [], _ => by simp [ofS]
  | x :: l, p => by
    rw [ofS]
    split
    · rename_i hx
      simp [hx]
    · rename_i hx
      rw [ofS_none]
      simp [hx]
/-- each path once -/
def Once (l : List Rec) : Prop := (l.map (·.path)).Nodup
theorem once_eq {l : List Rec} (h : Once l) {a b : Rec} (ha : a ∈ l) (hb : b ∈ l) (he : a.path = b.path) : a = b := by
  induction l with
  | nil => cases ha
  | cons x l ih =>
    unfold Once at h ih
    rw [List.map_cons, List.nodup_cons] at h
    rcases List.mem_cons.1 ha with h1 | h1 <;> rcases List.mem_cons.1 hb with h2 | h2
    · rw [h1, h2]
    · exact absurd (List.mem_map.2 ⟨b, h2, by rw [← he, h1]⟩) h.1
    · exact absurd (List.mem_map.2 ⟨a, h1, by rw [he, h2]⟩) h.1
    · exact ih h.2 h1 h2
theorem ofS_mem {l : List Rec} (h : Once l) {r : Rec} : r ∈ l ↔ ofS l r.path = some r := by
  constructor
  · intro hr
    cases ho : ofS l r.path with
    | none => exact absurd rfl (ofS_none.1 ho r hr)
    | some x =>
      have := ofS_some ho
      rw [once_eq h this.1 hr this.2]
  · intro hr
    exact (ofS_some hr).1
theorem lastO_of {l : List Rec} (h : Once l) (ho : okL l) (p : Bs) : lastO l p = ofS l p := by
  cases hl : ofS l p with
  | none =>
    cases hs : lastO l p with
    | none => rfl
    | some x =>
      have := lastO_some hs
      exact absurd this.2.1 (ofS_none.1 hl x this.1)
  | some r =>
    have hr := ofS_some hl
    cases hs : lastO l p with
    | none =>
      exfalso
      have key : ∀ (l : List Rec) (o : Option Rec), l.foldl (stepO p) o = none → ∀ x ∈ l, ¬ (okR x = true ∧ x.path = p) := by
        intro l
        induction l with
        | nil => intro o _ x hx; cases hx
        | cons y l ih =>
          intro o h x hx
          rw [List.foldl_cons] at h
          rcases List.mem_cons.1 hx with rfl | hx
          · intro hc
            rw [foldl_stepO, show stepO p o x = some x from if_pos hc] at h
            cases hh : List.foldl (stepO p) none l with
            | none => rw [hh] at h; cases h
            | some z => rw [hh] at h; cases h
          · exact ih _ h x hx
      exact key l none hs r hr.1 ⟨ho r hr.1, hr.2⟩
    | some x =>
      have := lastO_some hs
      rw [once_eq h this.1 hr.1 (by rw [this.2.1, hr.2])]

/-- in order, each path once -/
def Srt (l : List Rec) : Prop := l.Pairwise fun a b => cmpB a.path b.path < 0
theorem cmp_irrefl (a : Bs) : ¬ cmpB a a < 0 := by rw [cmpB_eq.2 rfl]; omega
theorem cmp_asymm {a b : Bs} (h : cmpB a b < 0) : ¬ cmpB b a < 0 := by rw [cmpB_swap a b]; omega
theorem srt_once {l : List Rec} (h : Srt l) : Once l := by
  unfold Once
  unfold List.Nodup
  rw [List.pairwise_map]
  exact h.imp fun hab e => by rw [e] at hab; exact cmp_irrefl _ hab
theorem srt_ext : ∀ {a b : List Rec}, Srt a → Srt b → (∀ x, x ∈ a ↔ x ∈ b) → a = b
  | [], [], _, _, _ => rfl
  | [], y :: b, _, _, h => by have := (h y).2 List.mem_cons_self; cases this
  | x :: a, [], _, _, h => by have := (h x).1 List.mem_cons_self; cases this
  | x :: a, y :: b, ha, hb, h => by
    unfold Srt at ha hb
    rw [List.pairwise_cons] at ha hb
    have hxy : x = y := by
      refine Classical.byContradiction fun hne => ?_
      have h1 : x ∈ b := by
        rcases List.mem_cons.1 ((h x).1 List.mem_cons_self) with e | e
        · exact absurd e hne
        · exact e
      have h2 : y ∈ a := by
        rcases List.mem_cons.1 ((h y).2 List.mem_cons_self) with e | e
        · exact absurd e.symm hne
        · exact e
      exact cmp_asymm (hb.1 x h1) (ha.1 y h2)
    subst hxy
    rw [srt_ext ha.2 hb.2 fun z => ?_]
    constructor
    · intro hz
      rcases List.mem_cons.1 ((h z).1 (List.mem_cons_of_mem _ hz)) with e | e
      · subst e
        exact absurd (ha.1 z hz) (cmp_irrefl _)
      · exact e
    · intro hz
      rcases List.mem_cons.1 ((h z).2 (List.mem_cons_of_mem _ hz)) with e | e
      · subst e
        exact absurd (hb.1 z hz) (cmp_irrefl _)
      · exact e
def insR : List Rec → Rec → List Rec
  | [], r => [r]
  | x :: l, r => if cmpB x.path r.path < 0 then x :: insR l r else if x.path = r.path then r :: l else r :: x :: l
def stepS (s : List Rec) (r : Rec) : List Rec := if okR r then insR s r else s
def setS (l : List Rec) : List Rec := l.foldl stepS []
theorem setS_snoc (l : List Rec) (r : Rec) : setS (l ++ [r]) = if okR r then insR (setS l) r else setS l := by simp [setS, stepS]
theorem insR_mem : ∀ (l : List Rec) (r x : Rec), x ∈ insR l r → x = r ∨ x ∈ l
  | [], r, x, h => by simp [insR] at h; exact .inl h
  | y :: l, r, x, h => by
    rw [insR] at h
    split at h
    · rcases List.mem_cons.1 h with e | e
      · exact .inr (by rw [e]; exact List.mem_cons_self)
      · rcases insR_mem l r x e with h1 | h1
        · exact .inl h1
        · exact .inr (List.mem_cons_of_mem _ h1)
    · split at h
      · rcases List.mem_cons.1 h with e | e
        · exact .inl e
        · exact .inr (List.mem_cons_of_mem _ e)
      · rcases List.mem_cons.1 h with e | e
        · exact .inl e
        · exact .inr e
theorem insR_srt : ∀ (l : List Rec) (r : Rec), Srt l → Srt (insR l r)
  | [], r, _ => by simp [insR, Srt]
  | y :: l, r, h => by
    unfold Srt at h
    rw [List.pairwise_cons] at h
    rw [insR]
    split
    · rename_i hlt
      refine List.pairwise_cons.2 ⟨fun x hx => ?_, insR_srt l r h.2⟩
      rcases insR_mem l r x hx with e | e
      · rw [e]; exact hlt
      · exact h.1 x e
    · rename_i hlt
      split
      · rename_i he
        exact List.pairwise_cons.2 ⟨fun x hx => by rw [← he]; exact h.1 x hx, h.2⟩
      · rename_i he
        have hgt : cmpB r.path y.path < 0 := by
          have h0 : cmpB y.path r.path ≠ 0 := fun e => he (cmpB_eq.1 e)
          rw [cmpB_swap y.path r.path]
          omega
        refine List.pairwise_cons.2 ⟨fun x hx => ?_, List.pairwise_cons.2 h⟩
        rcases List.mem_cons.1 hx with e | e
        · rw [e]; exact hgt
        · exact cmpB_trans hgt (h.1 x e)
theorem insR_of : ∀ (l : List Rec) (r : Rec), Srt l → ∀ p, ofS (insR l r) p = if r.path = p then some r else ofS l p
  | [], r, _, p => by simp [insR, ofS]
  | y :: l, r, h, p => by
    unfold Srt at h
    rw [List.pairwise_cons] at h
    rw [insR]
    split
    · rename_i hlt
      rw [ofS, ofS, insR_of l r h.2 p]
      by_cases h1 : y.path = p
      · have : r.path ≠ p := fun e => by rw [h1, ← e] at hlt; exact cmp_irrefl _ hlt
        rw [if_pos h1, if_pos h1, if_neg this]
      · rw [if_neg h1, if_neg h1]
    · split
      · rename_i he
        rw [ofS, ofS, he]
        by_cases h1 : r.path = p
        · rw [if_pos h1, if_pos h1]
        · rw [if_neg h1, if_neg h1, if_neg h1]
      · rw [ofS]
theorem setS_spec (l : List Rec) : Srt (setS l) ∧ okL (setS l) ∧ ∀ p, ofS (setS l) p = lastO l p := by
  have key : ∀ (l s m : List Rec), Srt s → okL s → (∀ p, ofS s p = lastO m p) → Srt (l.foldl stepS s) ∧ okL (l.foldl stepS s) ∧ ∀ p, ofS (l.foldl stepS s) p = lastO (m ++ l) p := by
    intro l
    induction l with
    | nil => intro s m h1 h2 h3; simpa using ⟨h1, h2, h3⟩
    | cons r l ih =>
      intro s m h1 h2 h3
      rw [List.foldl_cons, show m ++ r :: l = (m ++ [r]) ++ l by simp]
      have hs : Srt (stepS s r) ∧ okL (stepS s r) ∧ ∀ p, ofS (stepS s r) p = lastO (m ++ [r]) p := by
        unfold stepS
        by_cases hr : okR r = true
        · rw [if_pos hr]
          refine ⟨insR_srt s r h1, fun x hx => ?_, fun p => ?_⟩
          · rcases insR_mem s r x hx with e | e
            · rw [e]; exact hr
            · exact h2 x e
          · rw [insR_of s r h1, lastO_snoc, h3]
            by_cases hp : r.path = p
            · rw [if_pos hp, if_pos ⟨hr, hp⟩]
            · rw [if_neg hp, if_neg fun h => hp h.2]
        · rw [if_neg hr]
          refine ⟨h1, h2, fun p => ?_⟩
          rw [lastO_snoc, if_neg fun h => hr h.1, h3]
      exact ih _ _ hs.1 hs.2.1 hs.2.2
  have := key l [] [] List.Pairwise.nil (fun r h => by cases h) (fun p => rfl)
  simpa [setS] using this
theorem setS_srt (l : List Rec) : Srt (setS l) := (setS_spec l).1
theorem setS_ok (l : List Rec) : okL (setS l) := (setS_spec l).2.1
theorem setS_of (l : List Rec) (p : Bs) : ofS (setS l) p = lastO l p := (setS_spec l).2.2 p
theorem setS_once (l : List Rec) : Once (setS l) := srt_once (setS_srt l)
theorem setS_mem {l : List Rec} {r : Rec} : r ∈ setS l ↔ lastO l r.path = some r := by rw [ofS_mem (setS_once l), setS_of]
theorem setS_eq {l m : List Rec} (h : ∀ p, lastO l p = lastO m p) : setS l = setS m := srt_ext (setS_srt l) (setS_srt m) fun x => by rw [setS_mem, setS_mem, h]
theorem setS_sub {l : List Rec} {r : Rec} (h : r ∈ setS l) : r ∈ l := (lastO_some (setS_mem.1 h)).1
theorem setS_last (l : List Rec) (p : Bs) : lastO (setS l) p = lastO l p := by rw [lastO_of (setS_once l) (setS_ok l), setS_of]
theorem setS_set (l : List Rec) : setS (setS l) = setS l := setS_eq fun p => setS_last l p
theorem insR_len : ∀ (l : List Rec) (r : Rec), (insR l r).length ≤ l.length + 1
  | [], r => by simp [insR]
  | x :: l, r => by
    have := insR_len l r
    rw [insR]
    split
    · simp only [List.length_cons]; omega
    · split <;> simp
theorem setS_len (l : List Rec) : (setS l).length ≤ l.length := by
  have key : ∀ (l s : List Rec), (l.foldl stepS s).length ≤ s.length + l.length := by
    intro l
    induction l with
    | nil => intro s; simp
    | cons r l ih =>
      intro s
      rw [List.foldl_cons, List.length_cons]
      have h1 := ih (stepS s r)
      have h2 : (stepS s r).length ≤ s.length + 1 := by
        unfold stepS
        split
        · exact insR_len s r
        · omega
      omega
  simpa [setS] using key l []

/-! ### What can be done -/
def insideS (s : List Rec) (p : Bs) : Bool := s.any fun x => !x.del && withinB x.path p
def badS (s : List Rec) (p : Bs) : Bool := s.any fun x => (!x.del && x.kind != 2) && withinB p x.path
def canS (r : Rec) (own : List Rec) : Bool :=
  if r.del then (match ofS own r.path with
    | none => true
    | some old => old.del || !insideS own r.path)
  else if badS own r.path then false else r.kind == 2 || !insideS own r.path
def readyS (needs own : List Rec) : List Rec :=
  ((setS needs).filter fun r => !r.del && canS r (setS own)) ++ ((setS needs).filter fun r => r.del && canS r (setS own)).reverse
def aimS (needs own : List Rec) : List Rec := setS (own ++ needs)
def stuckS (s : List Rec) : List Rec := s.filter fun r => (r.del || r.kind != 2) && insideS s r.path
def blockedS (needs own : List Rec) : List Bs := (stuckS (aimS needs own)).map (·.path)
end Go.Proofs.YtoemipeomingaaaDoor
