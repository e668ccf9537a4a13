/- Paths as lists of bytes: the plain law, no program in sight. -/
import Derived.Test.YtoemipeomingaaaDoorVcgQ
namespace Go.V
open Go

abbrev Bs := List UInt8
def okc (c : UInt8) : Bool := decide (32 ≤ c.toNat) && c.toNat != 127 && c.toNat != 47
def nameB (s : Bs) : Bool := decide (1 ≤ s.length) && decide (s.length ≤ 48) && !(s == [46]) && !(s == [46, 46]) && s.all okc
def piecesB : Bs → List Bs
  | [] => [[]]
  | c :: r => if c = 47 then [] :: piecesB r else match piecesB r with
    | h :: t => (c :: h) :: t
    | [] => [[c]]
theorem piecesB_ne : ∀ s, piecesB s ≠ []
  | [] => by simp [piecesB]
  | c :: r => by
    unfold piecesB
    split
    · simp
    · split <;> simp
def lastB (s : Bs) : Bs := (piecesB s).getLast (piecesB_ne s)
def aheadB (s : Bs) : Bs := s.take (s.length - (lastB s).length - 1)
def mayB (p : Bs) : Bool := decide (p.length ≤ 160) && decide ((aheadB p).length ≤ 111) && decide ((piecesB p).length ≤ 6) && (piecesB p).all nameB
def withinB (p d : Bs) : Bool := mayB p && (d == [] || (mayB d && (d ++ [47]).isPrefixOf p))
def rankB (c : UInt8) : Nat := if c = 47 then 1 else 2 + c.toNat
def cmpB : Bs → Bs → Int
  | [], [] => 0
  | [], _ :: _ => -1
  | _ :: _, [] => 1
  | x :: r, y :: s => if x = y then cmpB r s else if rankB x < rankB y then -1 else 1

/-! ### Pieces -/
theorem piecesB_noslash : ∀ (s : Bs), (∀ c ∈ s, c ≠ 47) → piecesB s = [s]
  | [], _ => rfl
  | c :: r, h => by
    rw [piecesB, if_neg (h c List.mem_cons_self), piecesB_noslash r (fun d hd => h d (List.mem_cons_of_mem _ hd))]
theorem piecesB_cut : ∀ (a b : Bs), (∀ c ∈ a, c ≠ 47) → piecesB (a ++ 47 :: b) = a :: piecesB b
  | [], b, _ => by rw [List.nil_append, piecesB, if_pos rfl]
  | c :: r, b, h => by
    rw [List.cons_append, piecesB, if_neg (h c List.mem_cons_self), piecesB_cut r b (fun d hd => h d (List.mem_cons_of_mem _ hd))]
theorem piecesB_append : ∀ (a b : Bs), piecesB (a ++ 47 :: b) = piecesB a ++ piecesB b
  | [], b => by
    show piecesB (47 :: b) = [] :: piecesB b
    rw [piecesB, if_pos rfl]
  | c :: r, b => by
    rw [List.cons_append, piecesB, piecesB, piecesB_append r b]
    split
    · rfl
    · have := piecesB_ne r
      cases hp : piecesB r with
      | nil => exact absurd hp this
      | cons h t => rfl
theorem piecesB_snoc (t : Bs) (c : UInt8) {l : List Bs} {x : Bs} (h : piecesB t = l ++ [x]) : piecesB (t ++ [c]) = if c = 47 then l ++ [x, []] else l ++ [x ++ [c]] := by
  by_cases hc : c = 47
  · subst hc
    rw [if_pos rfl, piecesB_append t [], h]
    simp [piecesB]
  · rw [if_neg hc]
    induction t generalizing l x with
    | nil =>
      have : l = [] ∧ x = [] := by
        cases l with
        | nil => simp [piecesB] at h; exact ⟨rfl, h⟩
        | cons y r => simp [piecesB] at h
      obtain ⟨rfl, rfl⟩ := this
      simp [piecesB, hc]
    | cons d r ih =>
      rw [List.cons_append, piecesB]
      rw [piecesB] at h
      by_cases hd : d = 47
      · rw [if_pos hd] at h ⊢
        cases l with
        | nil =>
          simp only [List.nil_append, List.cons.injEq] at h
          exact absurd h.2 (piecesB_ne r)
        | cons y l' =>
          simp only [List.cons_append, List.cons.injEq] at h
          rw [ih h.2, h.1]
          rfl
      · rw [if_neg hd] at h ⊢
        cases hp : piecesB r with
        | nil => exact absurd hp (piecesB_ne r)
        | cons p q =>
          rw [hp] at h
          dsimp only at h
          cases l with
          | nil =>
            simp only [List.nil_append, List.cons.injEq] at h
            rw [ih (l := []) (x := p) (by rw [hp, h.2]; rfl)]
            simp [← h.1]
          | cons y l' =>
            simp only [List.cons_append, List.cons.injEq] at h
            rw [ih (l := p :: l') (x := x) (by rw [hp, h.2]; rfl)]
            simp [← h.1]
theorem lastB_of {s : Bs} {l : List Bs} {x : Bs} (h : piecesB s = l ++ [x]) : lastB s = x := by
  unfold lastB
  simp [h]
theorem lastB_none {s : Bs} (h : ∀ c ∈ s, c ≠ 47) : lastB s = s := lastB_of (l := []) (piecesB_noslash s h)
theorem lastB_some {a b : Bs} (h : ∀ c ∈ b, c ≠ 47) : lastB (a ++ 47 :: b) = b := lastB_of (l := piecesB a) (by rw [piecesB_append, piecesB_noslash b h])
theorem pieces_split (s : Bs) : (∀ c ∈ s, c ≠ 47) ∨ ∃ a b, s = a ++ 47 :: b ∧ ∀ c ∈ b, c ≠ 47 := by
  induction s with
  | nil => exact .inl (fun c hc => by cases hc)
  | cons d r ih =>
    rcases ih with h | ⟨a, b, rfl, h⟩
    · by_cases hd : d = 47
      · exact .inr ⟨[], r, by rw [hd]; rfl, h⟩
      · exact .inl fun c hc => by
          rcases List.mem_cons.1 hc with e | e
          · rw [e]; exact hd
          · exact h c e
    · exact .inr ⟨d :: a, b, rfl, h⟩
theorem lastB_len (s : Bs) : (lastB s).length ≤ s.length := by
  rcases pieces_split s with h | ⟨a, b, rfl, h⟩
  · rw [lastB_none h]; exact Nat.le_refl _
  · rw [lastB_some h]; simp; omega
theorem piecesB_len : ∀ s : Bs, (piecesB s).length = s.count 47 + 1
  | [] => rfl
  | c :: r => by
    have ih := piecesB_len r
    rw [piecesB]
    by_cases hc : c = 47
    · rw [if_pos hc, hc, List.length_cons, ih, List.count_cons_self]
    · rw [if_neg hc, List.count_cons_of_ne hc]
      cases hp : piecesB r with
      | nil => exact absurd hp (piecesB_ne r)
      | cons p q => rw [hp] at ih; simpa using ih

/-! ### Order -/
theorem cmpB_eq : ∀ {a b : Bs}, cmpB a b = 0 ↔ a = b
  | [], [] => by simp [cmpB]
  | [], _ :: _ => by simp [cmpB]
  | _ :: _, [] => by simp [cmpB]
  | x :: r, y :: s => by
    rw [cmpB]
    by_cases h : x = y
    · rw [if_pos h, cmpB_eq (a := r) (b := s), h]; simp
    · rw [if_neg h]
      constructor
      · intro h2; split at h2 <;> cases h2
      · intro h2; injection h2 with h2; exact absurd h2 h
theorem rankB_inj {x y : UInt8} (h : rankB x = rankB y) : x = y := by
  unfold rankB at h
  by_cases h1 : x = 47 <;> by_cases h2 : y = 47 <;> simp [h1, h2] at h
  · rw [h1, h2]
  · omega
  · omega
  · exact UInt8.toNat_inj.1 (by omega)
theorem cmpB_swap : ∀ (a b : Bs), cmpB b a = - cmpB a b
  | [], [] => rfl
  | [], _ :: _ => rfl
  | _ :: _, [] => rfl
  | x :: r, y :: s => by
    rw [cmpB, cmpB]
    by_cases h : x = y
    · rw [if_pos h, if_pos h.symm, cmpB_swap r s]
    · rw [if_neg h, if_neg (Ne.symm h)]
      have : rankB x ≠ rankB y := fun e => h (rankB_inj e)
      rcases Nat.lt_or_gt_of_ne this with h1 | h1
      · rw [if_pos h1, if_neg (Nat.not_lt.2 (Nat.le_of_lt h1))]; rfl
      · rw [if_pos h1, if_neg (Nat.not_lt.2 (Nat.le_of_lt h1))]
theorem cmpB_trans : ∀ {a b c : Bs}, cmpB a b < 0 → cmpB b c < 0 → cmpB a c < 0
  | [], [], c, h, _ => by simp [cmpB] at h
  | [], _ :: _, [], _, h => by simp [cmpB] at h
  | [], _ :: _, _ :: _, _, _ => by simp [cmpB]
  | _ :: _, [], c, h, _ => by simp [cmpB] at h
  | _ :: _, _ :: _, [], _, h => by simp [cmpB] at h
  | x :: r, y :: s, z :: t, h1, h2 => by
    rw [cmpB] at h1 h2 ⊢
    by_cases hxy : x = y
    · subst hxy
      rw [if_pos rfl] at h1
      by_cases hxz : x = z
      · subst hxz
        rw [if_pos rfl] at h2 ⊢
        exact cmpB_trans h1 h2
      · rw [if_neg hxz] at h2 ⊢
        exact h2
    · rw [if_neg hxy] at h1
      have l1 : rankB x < rankB y := by
        by_cases h : rankB x < rankB y
        · exact h
        · rw [if_neg h] at h1; omega
      by_cases hyz : y = z
      · subst hyz
        rw [if_neg hxy, if_pos l1]; omega
      · rw [if_neg hyz] at h2
        have l2 : rankB y < rankB z := by
          by_cases h : rankB y < rankB z
          · exact h
          · rw [if_neg h] at h2; omega
        have : x ≠ z := fun e => by rw [e] at l1; omega
        rw [if_neg this, if_pos (by omega)]; omega
theorem cmpB_three (a b : Bs) : cmpB a b = 0 ∨ cmpB a b = 1 ∨ cmpB a b = -1 := by
  induction a generalizing b with
  | nil => cases b <;> simp [cmpB]
  | cons x r ih =>
    cases b with
    | nil => simp [cmpB]
    | cons y s =>
      rw [cmpB]
      split
      · exact ih s
      · split <;> simp
end Go.V
