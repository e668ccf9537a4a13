/- Contracts of the functions on names and paths that lay no memory. -/
import Derived.Test.YtoemipeomingaaaDoorQVc1
import Derived.Test.YtoemipeomingaaaDoorQVc0
import Derived.Test.YtoemipeomingaaaDoorQPl
namespace Go.Proofs.YtoemipeomingaaaDoor
open Go Go.V

def LI (f : Int → Heap → Prop) : List Value → Heap → Prop
  | [.int _ i], H => f i H
  | _, _ => False
def LM (f : Int → Nat) : List Value → Heap → Nat
  | [.int _ i], _ => f i
  | _, _ => 0
abbrev sv (s : Bs) : Value := .string ⟨⟨s⟩⟩
theorem lt_of_get {s : Bs} {k : Nat} {c : UInt8} (h : s[k]? = some c) : k < s.length := by
  rcases Nat.lt_or_ge k s.length with h1 | h1
  · exact h1
  · rw [List.getElem?_eq_none h1] at h; cases h

/-! ### Names -/
theorem nameB_head {s : Bs} (h : (cond (cond (cond (decide (((List.length s : Nat) : Int) < (1 : Int))) true (decide (((List.length s : Nat) : Int) > (48 : Int)))) true (s == [46])) true (s == [46, 46])) = true) : nameB s = false := by
  unfold nameB
  by_cases h1 : s.length < 1 <;> by_cases h2 : s.length > 48 <;> by_cases h3 : s = [46] <;> by_cases h4 : s = [46, 46] <;> simp [h1, h2, h3, h4] at h ⊢ <;> omega
theorem nameB_rest {s : Bs} (h : (cond (cond (cond (decide (((List.length s : Nat) : Int) < (1 : Int))) true (decide (((List.length s : Nat) : Int) > (48 : Int)))) true (s == [46])) true (s == [46, 46])) = false) : nameB s = s.all okc := by
  unfold nameB
  by_cases h1 : s.length < 1
  · simp [h1] at h; omega
  · by_cases h2 : s.length > 48
    · simp at h; have := h.1.1.2; omega
    · by_cases h3 : s = [46]
      · simp [h3] at h
      · by_cases h4 : s = [46, 46]
        · simp [h4] at h
        · simp [h3, h4, show 1 ≤ s.length by omega, show s.length ≤ 48 by omega]
theorem okc_no {c : UInt8} (h : (cond (cond (decide (((UInt8.toNat c : Nat) : Int) < (32 : Int))) true (((UInt8.toNat c : Nat) : Int) == (127 : Int))) true (((UInt8.toNat c : Nat) : Int) == (47 : Int))) = true) : okc c = false := by
  unfold okc
  by_cases h1 : c.toNat < 32
  · simp [show ¬ 32 ≤ c.toNat by omega]
  · by_cases h2 : c.toNat = 127
    · simp [h2]
    · by_cases h3 : c.toNat = 47
      · simp [h3]
      · exfalso
        rw [decide_eq_false (by omega)] at h
        have e2 : (((UInt8.toNat c : Nat) : Int) == (127 : Int)) = false := by simp; omega
        have e3 : (((UInt8.toNat c : Nat) : Int) == (47 : Int)) = false := by simp; omega
        rw [e2, e3] at h
        cases h
theorem okc_yes {c : UInt8} (h : (cond (cond (decide (((UInt8.toNat c : Nat) : Int) < (32 : Int))) true (((UInt8.toNat c : Nat) : Int) == (127 : Int))) true (((UInt8.toNat c : Nat) : Int) == (47 : Int))) = false) : okc c = true := by
  unfold okc
  by_cases h1 : c.toNat < 32
  · rw [decide_eq_true (show ((c.toNat : Nat) : Int) < 32 by omega)] at h; cases h
  · by_cases h2 : c.toNat = 127
    · have e2 : (((UInt8.toNat c : Nat) : Int) == (127 : Int)) = true := by simp; omega
      rw [e2] at h
      cases hd : decide (((UInt8.toNat c : Nat) : Int) < (32 : Int)) <;> rw [hd] at h <;> cases h
    · by_cases h3 : c.toNat = 47
      · have e3 : (((UInt8.toNat c : Nat) : Int) == (47 : Int)) = true := by simp; omega
        rw [e3] at h
        cases hd : decide (((UInt8.toNat c : Nat) : Int) < (32 : Int)) <;> cases he : (((UInt8.toNat c : Nat) : Int) == (127 : Int)) <;> rw [hd, he] at h <;> cases h
      · simp [h2, h3]; omega
theorem all_take {s : Bs} {k : Nat} {c : UInt8} (hk : s[k]? = some c) (h : (s.take k).all okc = true) (hc : okc c = true) : (s.take (k + 1)).all okc = true := by
  have hl := lt_of_get hk
  rw [List.getElem?_eq_getElem hl] at hk
  injection hk with hk
  rw [List.take_succ_eq_append_getElem hl, List.all_append, h, hk]
  simp [hc]
theorem all_no {s : Bs} {k : Nat} {c : UInt8} (hk : s[k]? = some c) (hc : okc c = false) : s.all okc = false := by
  have hm := List.mem_of_getElem? hk
  rw [Bool.eq_false_iff]
  intro h
  have := List.all_eq_true.1 h c hm
  rw [hc] at this
  cases this

theorem pName_con (s : Bs) (hs : s.length ≤ 1000000000) (H0 : Heap) : CallsH Tryd.prog 57 ⟨[sv s]⟩ H0 fun r H1 => r = .bool (nameB s) ∧ H1 = H0 := by
  refine path_Name.ok ⟨fun h => ⟨by rw [nameB_head h], rfl⟩, fun h => ?_⟩
  rw [nameB_rest h]
  refine ⟨LI fun i H => ∃ k : Nat, i = k ∧ k ≤ s.length ∧ (s.take k).all okc = true ∧ H = H0, LM fun i => ((s.length : Int) - i).toNat, ⟨⟨_, rfl⟩, 0, rfl, by omega, by simp, rfl⟩, ?_⟩
  rintro i H ⟨k, rfl, hk, ha, rfl⟩
  refine ⟨fun h1 => ?_, fun h1 => ?_⟩
  · have hk' : k < s.length := by have := of_decide_eq_true h1; omega
    have hc : s[k]? = some s[k] := List.getElem?_eq_getElem hk'
    have hg : s[Int.toNat (k : Int)]? = some s[k] := by rw [toNat_cast]; exact hc
    refine ⟨s[k], ⟨by omega, hg⟩, s[k], fun _ => ⟨by omega, hg⟩, s[k], fun _ => ⟨by omega, hg⟩, fun h2 => ⟨by rw [all_no hc (okc_no h2)], rfl⟩, fun h2 => ⟨⟨_, rfl⟩, ⟨k + 1, ?_, by omega, all_take hc ha (okc_yes h2), rfl⟩, ?_⟩⟩
    · rw [wrap_i64 (by omega)]; omega
    · show ((s.length : Int) - IntKind.wrap .i64 ((k : Int) + 1)).toNat < ((s.length : Int) - (k : Int)).toNat
      rw [wrap_i64 (by omega)]
      omega
  · have : k = s.length := by have := of_decide_eq_false h1; omega
    subst this
    rw [List.take_length] at ha
    exact ⟨by rw [ha], rfl⟩
theorem rName_con (s : Bs) (hs : s.length ≤ 1000000000) (H0 : Heap) : CallsH Tryd.prog 63 ⟨[sv s]⟩ H0 fun r H1 => r = .bool (nameB s) ∧ H1 = H0 := by
  refine caravanref02_Name.ok ⟨fun h => ⟨by rw [nameB_head h], rfl⟩, fun h => ?_⟩
  rw [nameB_rest h]
  refine ⟨LI fun i H => ∃ k : Nat, i = k ∧ k ≤ s.length ∧ (s.take k).all okc = true ∧ H = H0, LM fun i => ((s.length : Int) - i).toNat, ⟨⟨_, rfl⟩, 0, rfl, by omega, by simp, rfl⟩, ?_⟩
  rintro i H ⟨k, rfl, hk, ha, rfl⟩
  refine ⟨fun h1 => ?_, fun h1 => ?_⟩
  · have hk' : k < s.length := by have := of_decide_eq_true h1; omega
    have hc : s[k]? = some s[k] := List.getElem?_eq_getElem hk'
    have hg : s[Int.toNat (k : Int)]? = some s[k] := by rw [toNat_cast]; exact hc
    refine ⟨s[k], ⟨by omega, hg⟩, s[k], fun _ => ⟨by omega, hg⟩, s[k], fun _ => ⟨by omega, hg⟩, fun h2 => ⟨by rw [all_no hc (okc_no h2)], rfl⟩, fun h2 => ⟨⟨_, rfl⟩, ⟨k + 1, ?_, by omega, all_take hc ha (okc_yes h2), rfl⟩, ?_⟩⟩
    · rw [wrap_i64 (by omega)]; omega
    · show ((s.length : Int) - IntKind.wrap .i64 ((k : Int) + 1)).toNat < ((s.length : Int) - (k : Int)).toNat
      rw [wrap_i64 (by omega)]
      omega
  · have : k = s.length := by have := of_decide_eq_false h1; omega
    subst this
    rw [List.take_length] at ha
    exact ⟨by rw [ha], rfl⟩

/-! ### Order -/
def rankAt (s : Bs) (k : Nat) : Nat := match s[k]? with
  | some c => rankB c
  | none => 0
theorem rank_con (s : Bs) (k : Nat) (_hs : s.length ≤ 1000000000) (H0 : Heap) : CallsH Tryd.prog 64 ⟨[sv s, .int .i64 (k : Int)]⟩ H0 fun r H1 => r = .int .i64 (rankAt s k : Nat) ∧ H1 = H0 := by
  refine caravanref02_rank.ok ⟨fun h => ?_, fun h => ?_⟩
  · have := of_decide_eq_true h
    refine ⟨?_, rfl⟩
    unfold rankAt
    rw [List.getElem?_eq_none (by omega)]
    rfl
  · have hk : k < s.length := by have := of_decide_eq_false h; omega
    have hc : s[k]? = some s[k] := List.getElem?_eq_getElem hk
    have hg : s[Int.toNat (k : Int)]? = some s[k] := by rw [toNat_cast]; exact hc
    refine ⟨s[k], ⟨by omega, hg⟩, fun h2 => ⟨?_, rfl⟩, fun h2 => ⟨s[k], ⟨by omega, hg⟩, ?_, rfl⟩⟩
    · unfold rankAt
      rw [hc]
      have : s[k] = 47 := UInt8.toNat_inj.1 (by have e : (47 : UInt8).toNat = 47 := rfl; simp at h2; omega)
      simp [rankB, this]
    · unfold rankAt
      rw [hc]
      have hn : s[k] ≠ 47 := fun e => by rw [e] at h2; cases h2
      have hb := UInt8.toNat_lt s[k]
      rw [wrap_i64 (x := ((s[k].toNat : Nat) : Int)) (by omega), wrap_i64 (by omega)]
      simp only [rankB, if_neg hn]
      congr 1
/-- what the places tell of the order -/
theorem cmpB_at : ∀ (a b : Bs) (k : Nat), (∀ j, j < k → rankAt a j = rankAt b j) → k ≤ a.length ∨ k ≤ b.length →
    (rankAt a k < rankAt b k → cmpB a b = -1) ∧ (rankAt b k < rankAt a k → cmpB a b = 1)
  | [], [], k, _, _ => ⟨fun h => by simp [rankAt] at h, fun h => by simp [rankAt] at h⟩
  | [], y :: s, k, h, _ => by
    refine ⟨fun _ => rfl, fun h2 => ?_⟩
    simp [rankAt] at h2
  | x :: r, [], k, h, _ => by
    refine ⟨fun h2 => ?_, fun _ => rfl⟩
    simp [rankAt] at h2
  | x :: r, y :: s, 0, _, _ => by
    refine ⟨fun h => ?_, fun h => ?_⟩
    · have h : rankB x < rankB y := h
      have : x ≠ y := fun e => by rw [e] at h; omega
      rw [cmpB, if_neg this, if_pos h]
    · have h : rankB y < rankB x := h
      have : x ≠ y := fun e => by rw [e] at h; omega
      rw [cmpB, if_neg this, if_neg (by omega)]
  | x :: r, y :: s, k + 1, h, hl => by
    have h0 : rankB x = rankB y := h 0 (by omega)
    have := rankB_inj h0
    subst this
    rw [cmpB, if_pos rfl]
    exact cmpB_at r s k (fun j hj => h (j + 1) (by omega)) (by simpa using hl)
theorem cmpB_same : ∀ (a b : Bs), (∀ j, j ≤ a.length ∨ j ≤ b.length → rankAt a j = rankAt b j) → cmpB a b = 0
  | [], [], _ => rfl
  | [], y :: s, h => by
    have := h 0 (.inl (by simp))
    simp [rankAt, rankB] at this
    split at this <;> omega
  | x :: r, [], h => by
    have := h 0 (.inl (by simp))
    simp [rankAt, rankB] at this
    split at this <;> omega
  | x :: r, y :: s, h => by
    have h0 : rankB x = rankB y := h 0 (.inl (by simp))
    have := rankB_inj h0
    subst this
    rw [cmpB, if_pos rfl]
    exact cmpB_same r s (fun j hj => h (j + 1) (by simp; omega))
theorem rCmp_con (a b : Bs) (ha : a.length ≤ 1000000000) (hb : b.length ≤ 1000000000) (H0 : Heap) : CallsH Tryd.prog 48 ⟨[sv a, sv b]⟩ H0 fun r H1 => r = .int .i64 (cmpB a b) ∧ H1 = H0 := by
  refine caravanref02_Cmp.ok ?_
  refine ⟨LI fun i H => ∃ k : Nat, i = k ∧ k ≤ max a.length b.length + 1 ∧ (∀ j, j < k → rankAt a j = rankAt b j) ∧ H = H0, LM fun i => ((max a.length b.length : Nat) + 1 - i : Int).toNat, ⟨⟨_, rfl⟩, 0, rfl, by omega, fun j hj => by omega, rfl⟩, ?_⟩
  rintro i H ⟨k, rfl, hk, hj, rfl⟩
  have hd : (cond (decide ((k : Int) ≤ ((List.length a : Nat) : Int))) true (decide ((k : Int) ≤ ((List.length b : Nat) : Int)))) = decide (k ≤ a.length ∨ k ≤ b.length) := by
    by_cases h1 : k ≤ a.length <;> by_cases h2 : k ≤ b.length <;> simp [h1, h2]
  rw [hd]
  refine ⟨fun h => ?_, fun h => ?_⟩
  · have hl := of_decide_eq_true h
    have hcm := cmpB_at a b k hj hl
    refine (rank_con a k ha _).mono ?_
    rintro _ H2 ⟨rfl, rfl⟩
    refine ⟨_, rfl, (rank_con b k hb _).mono ?_⟩
    rintro _ H3 ⟨rfl, rfl⟩
    refine ⟨_, rfl, fun h2 => ⟨?_, rfl⟩, fun h2 => ⟨fun h3 => ⟨?_, rfl⟩, fun h3 => ⟨⟨_, rfl⟩, ⟨k + 1, ?_, by omega, fun j hjk => ?_, rfl⟩, ?_⟩⟩⟩
    · rw [hcm.1 (by have := of_decide_eq_true h2; omega)]
    · rw [hcm.2 (by have := of_decide_eq_true h3; omega)]
    · rw [wrap_i64 (by omega)]; omega
    · by_cases e : j = k
      · subst e
        have := of_decide_eq_false h2
        have := of_decide_eq_false h3
        omega
      · exact hj j (by omega)
    · show (((max a.length b.length : Nat) : Int) + 1 - IntKind.wrap .i64 ((k : Int) + 1)).toNat < (((max a.length b.length : Nat) : Int) + 1 - (k : Int)).toNat
      rw [wrap_i64 (by omega)]
      omega
  · have hl := of_decide_eq_false h
    refine ⟨?_, rfl⟩
    rw [cmpB_same a b (fun j hjl => hj j (by omega))]

/-! ### The last / -/
theorem lastIndex_con (s : Bs) (hs : s.length ≤ 1000000000) (H0 : Heap) : CallsH Tryd.prog 81 ⟨[sv s, .int .u8 (47 : Int)]⟩ H0 fun r H1 => r = .int .i64 ((s.length : Int) - (lastB s).length - 1) ∧ H1 = H0 := by
  refine internal_bytealg_LastIndexByteString.ok ?_
  refine ⟨LI fun i H => ∃ k : Nat, i = (k : Int) - 1 ∧ k ≤ s.length ∧ (∀ c ∈ s.drop k, c ≠ 47) ∧ H = H0, LM fun i => (i + 1).toNat, ⟨⟨_, rfl⟩, s.length, by rw [wrap_i64 (by omega)], by omega, by simp, rfl⟩, ?_⟩
  rintro i H ⟨k, rfl, hk, hn, rfl⟩
  refine ⟨fun h => ?_, fun h => ?_⟩
  · obtain ⟨q, rfl⟩ : ∃ q, k = q + 1 := ⟨k - 1, by have := of_decide_eq_true h; omega⟩
    have hq : q < s.length := by omega
    have e : (((q + 1 : Nat) : Int) - 1).toNat = q := by omega
    refine ⟨s[q], ⟨by omega, by rw [e]; exact List.getElem?_eq_getElem hq⟩, fun h2 => ⟨?_, rfl⟩, fun h2 => ⟨⟨_, rfl⟩, ⟨q, ?_, by omega, ?_, rfl⟩, ?_⟩⟩
    · have h47 : s[q] = 47 := UInt8.toNat_inj.1 (by have e : (47 : UInt8).toNat = 47 := rfl; simp at h2; omega)
      have hsp : s = s.take q ++ 47 :: s.drop (q + 1) := by
        rw [← h47, ← List.drop_eq_getElem_cons hq, List.take_append_drop]
      have : lastB s = s.drop (q + 1) := by
        conv => lhs; rw [hsp]
        exact lastB_some hn
      rw [this, List.length_drop]
      congr 1
      omega
    · rw [wrap_i64 (by omega)]; omega
    · intro c hc
      rw [List.drop_eq_getElem_cons hq] at hc
      rcases List.mem_cons.1 hc with hc | hc
      · rw [hc]
        intro e47
        rw [e47] at h2
        cases h2
      · exact hn c hc
    · show (IntKind.wrap .i64 (((q + 1 : Nat) : Int) - 1 - 1) + 1).toNat < (((q + 1 : Nat) : Int) - 1 + 1).toNat
      rw [wrap_i64 (by omega)]
      omega
  · have : k = 0 := by have := of_decide_eq_false h; omega
    subst this
    rw [List.drop_zero] at hn
    refine ⟨?_, rfl⟩
    rw [lastB_none hn]
    congr 1
    omega
def baseB (s : Bs) : Bs := lastB s
theorem aheadB_none {s : Bs} (h : ∀ c ∈ s, c ≠ 47) : aheadB s = [] := by
  unfold aheadB
  rw [lastB_none h, Nat.sub_self, Nat.zero_sub, List.take_zero]
theorem split_con (s : Bs) (hs : s.length ≤ 1000000000) (H0 : Heap) : CallsH Tryd.prog 54 ⟨[sv s]⟩ H0 fun r H1 => r = .tuple ⟨[sv (aheadB s), sv (lastB s)]⟩ ∧ H1 = H0 := by
  refine path_split.ok ?_
  refine CallsH.mono (R := fun r H1 => r = .int .i64 ((s.length : Int) - (lastB s).length - 1) ∧ H1 = H0) (strings_LastIndexByte.ok ?_) ?_
  · refine (lastIndex_con s hs H0).mono ?_
    rintro _ H1 ⟨rfl, rfl⟩
    exact ⟨_, rfl, rfl, rfl⟩
  · rintro _ H1 ⟨rfl, rfl⟩
    have hl := lastB_len s
    have hw : IntKind.wrap .i64 ((s.length : Int) - (lastB s).length - 1 + 1) = ((s.length - (lastB s).length : Nat) : Int) := by rw [wrap_i64 (by omega)]; omega
    refine ⟨_, rfl, ?_⟩
    rw [hw]
    refine ⟨⟨by split <;> omega, by split <;> omega⟩, ⟨by omega, by omega⟩, ?_, rfl⟩
    have e1 : Int.toNat (if (0 : Int) > (s.length : Int) - (lastB s).length - 1 then (0 : Int) else (s.length : Int) - (lastB s).length - 1) = s.length - (lastB s).length - 1 := by split <;> omega
    rw [e1, toNat_cast, Nat.sub_zero, List.drop_zero]
    have e2 : List.take (s.length - (s.length - (lastB s).length)) (List.drop (s.length - (lastB s).length) s) = lastB s := by
      rw [List.take_of_length_le (by simp)]
      rcases pieces_split s with h | ⟨a, b, rfl, h⟩
      · rw [lastB_none h, Nat.sub_self, List.drop_zero]
      · rw [lastB_some h]
        have : (a ++ 47 :: b).length - b.length = a.length + 1 := by simp; omega
        rw [this]
        rw [show a ++ 47 :: b = (a ++ [47]) ++ b by simp, List.drop_append_of_le_length (by simp)]
        simp
    rw [e2]
    rfl
end Go.Proofs.YtoemipeomingaaaDoor
