/- Contracts of the program's functions on paths. -/
import Derived.Test.YtoemipeomingaaaDoorQSplit
namespace Go.Proofs.YtoemipeomingaaaDoor
open Go Go.V

theorem May1_con (s : Bs) (hs : s.length ≤ 100000000) (g : Nat) (b : Bool) (H0 : Heap) (hb : Blk H0 g 4 #[.bool b]) :
    CallsH Tryd.prog 56 ⟨[sv s, .pointer (some ⟨g, 0, none⟩)]⟩ H0 fun r H1 => r = .tuple ⟨[]⟩ ∧ H1 = upd H0 g 4 #[.bool (b && nameB s)] := by
  have hw : ∀ x : Bool, wr1 H0 ⟨g, 0, none⟩ (.bool x) = some (upd H0 g 4 #[.bool x]) := fun x => hb.wr1 (i := 0) (by simp) rfl
  refine path_May_1.ok ⟨b, by rw [hb.cell]; rfl, fun h => ?_, fun h => ?_⟩
  · subst h
    refine (pName_con s (by omega) H0).mono ?_
    rintro _ H1 ⟨rfl, rfl⟩
    exact ⟨_, rfl, _, hw _, rfl, by rw [Bool.true_and]⟩
  · subst h
    exact ⟨_, hw _, rfl, by rw [Bool.false_and]⟩
theorem May_con (s : Bs) (hs : s.length ≤ 100000000) (H0 : Heap) : CallsH Tryd.prog 41 ⟨[sv s]⟩ H0 fun r H1 => r = .bool (mayB s) ∧ Ext H0 H1 := by
  refine path_May.ok ?_
  refine (split_con s (by omega) H0).mono ?_
  rintro _ H1 ⟨rfl, rfl⟩
  refine ⟨_, _, rfl, fun h => ⟨?_, Ext.refl _⟩, fun h => ?_⟩
  · unfold mayB
    by_cases h1 : s.length ≤ 160
    · by_cases h2 : (aheadB s).length ≤ 111
      · rw [decide_eq_false (show ¬ (s.length : Int) > 160 by omega), decide_eq_false (show ¬ ((aheadB s).length : Int) > 111 by omega)] at h
        cases h
      · rw [decide_eq_false h2]; simp
    · rw [decide_eq_false h1]; simp
  · have h1 : s.length ≤ 160 := by
      refine Classical.byContradiction fun h1 => ?_
      rw [decide_eq_true (show (s.length : Int) > 160 by omega)] at h
      cases h
    have h2 : (aheadB s).length ≤ 111 := by
      refine Classical.byContradiction fun h2 => ?_
      rw [decide_eq_true (show ((aheadB s).length : Int) > 111 by omega)] at h
      cases hd : decide ((s.length : Int) > 160) <;> rw [hd] at h <;> cases h
    have hm : mayB s = (decide ((piecesB s).length ≤ 6) && (piecesB s).all nameB) := by
      unfold mayB
      rw [decide_eq_true h1, decide_eq_true h2]
      rfl
    rw [hm]
    refine (Split_con s hs H1).mono ?_
    rintro _ H2 ⟨a, c, rfl, hsl, e2⟩
    refine ⟨a, _, c, rfl, ?_⟩
    refine st_new fun g H3 hg e3 b3 => ?_
    have hpl := piecesB_len s
    have hcl := List.count_le_length (a := (47 : UInt8)) (l := s)
    have hd : decide ((((piecesB s).length : Nat) : Int) ≤ 6) = decide ((piecesB s).length ≤ 6) := by
      by_cases h6 : (piecesB s).length ≤ 6
      · rw [decide_eq_true h6, decide_eq_true (by omega)]
      · rw [decide_eq_false h6, decide_eq_false (by omega)]
    rw [hd]
    have hw : ∀ x : Bool, wr1 H3 ⟨g, 0, none⟩ (.bool x) = some (upd H3 g 4 #[.bool x]) := fun x => b3.wr1 (i := 0) (by simp [zc, tget, tab, Value.cells]) rfl
    refine ⟨_, hw _, ?_⟩
    refine ⟨LI fun i H => ∃ k : Nat, i = k ∧ k ≤ (piecesB s).length ∧ Ext H2 H ∧ Blk H g 4 #[.bool (decide ((piecesB s).length ≤ 6) && ((piecesB s).take k).all nameB)], LM fun i => (((piecesB s).length : Int) - i).toNat,
      ⟨⟨_, rfl⟩, 0, rfl, by omega, e3.upd hg, by simpa using b3.upd_same⟩, ?_⟩
    rintro i H5 ⟨k, rfl, hk, e5, b5⟩
    refine ⟨fun h5 => ?_, fun h5 => ?_⟩
    · have hk' : k < (piecesB s).length := by have := of_decide_eq_true h5; omega
      obtain ⟨ad, ha, hr⟩ := hsl.2 (by omega)
      have hgk : (piecesB s)[k]? = some (piecesB s)[k] := List.getElem?_eq_getElem hk'
      have hpl := piece_len s _ (List.getElem_mem hk')
      refine ⟨ad, ⟨ha, by omega, by omega⟩, (piecesB s)[k], by rw [toNat_cast]; exact e5.cell (hr k _ hgk), (May1_con _ (by omega) g _ H5 b5).mono ?_⟩
      rintro _ H6 ⟨rfl, rfl⟩
      refine ⟨rfl, ⟨_, rfl⟩, ⟨k + 1, ?_, by omega, e5.upd hg, ?_⟩, ?_⟩
      · rw [wrap_i64 (by omega)]; omega
      · have : ((decide ((piecesB s).length ≤ 6) && ((piecesB s).take k).all nameB) && nameB (piecesB s)[k]) = (decide ((piecesB s).length ≤ 6) && ((piecesB s).take (k + 1)).all nameB) := by
          rw [List.take_succ_eq_append_getElem hk', List.all_append, Bool.and_assoc]
          simp
        rw [← this]
        exact b5.upd_same
      · show (((piecesB s).length : Int) - IntKind.wrap .i64 ((k : Int) + 1)).toNat < (((piecesB s).length : Int) - (k : Int)).toNat
        rw [wrap_i64 (by omega)]
        omega
    · have : k = (piecesB s).length := by have := of_decide_eq_false h5; omega
      subst this
      rw [List.take_length] at b5
      exact ⟨_, by rw [b5.cell]; rfl, rfl, e2.trans e5⟩
def parentB (p : Bs) : Bs := if mayB p then aheadB p else []
theorem Parent_con (s : Bs) (hs : s.length ≤ 100000000) (H0 : Heap) : CallsH Tryd.prog 58 ⟨[sv s]⟩ H0 fun r H1 => r = .tuple ⟨[sv (parentB s), .bool (mayB s)]⟩ ∧ Ext H0 H1 := by
  refine path_Parent.ok ?_
  refine (May_con s hs H0).mono ?_
  rintro _ H1 ⟨rfl, e1⟩
  refine ⟨_, rfl, fun h => ⟨?_, e1⟩, fun h => ?_⟩
  · have h : mayB s = false := by simpa using h
    rw [h]
    unfold parentB
    rw [h]
    rfl
  · have h : mayB s = true := by simpa using h
    refine (split_con s (by omega) H1).mono ?_
    rintro _ H2 ⟨rfl, rfl⟩
    refine ⟨_, _, rfl, ?_, e1⟩
    rw [h]
    unfold parentB
    rw [h]
    rfl
theorem HasPrefix_con (s p : Bs) (H0 : Heap) : CallsH Tryd.prog 52 ⟨[sv s, sv p]⟩ H0 fun r H1 => r = .bool (p.isPrefixOf s) ∧ H1 = H0 := by
  refine strings_HasPrefix.ok ?_
  refine CallsH.mono (R := fun r H1 => r = .bool (p.isPrefixOf s) ∧ H1 = H0) (internal_stringslite_HasPrefix.ok ⟨fun h => ⟨by omega, by have := of_decide_eq_true h; omega⟩, ?_, rfl⟩) ?_
  · congr 1
    by_cases h : p.length ≤ s.length
    · rw [decide_eq_true (show ((List.length s : Nat) : Int) ≥ ((List.length p : Nat) : Int) by omega), cond_true, toNat_cast, Nat.sub_zero, List.drop_zero]
      rw [Bool.eq_iff_iff, beq_iff_eq, List.isPrefixOf_iff_prefix]
      constructor
      · intro he
        rw [← he]
        exact List.take_prefix _ _
      · intro he
        exact (List.prefix_iff_eq_take.1 he).symm
    · rw [decide_eq_false (show ¬ ((List.length s : Nat) : Int) ≥ ((List.length p : Nat) : Int) by omega), cond_false]
      symm
      rw [Bool.eq_false_iff]
      intro he
      have := (List.isPrefixOf_iff_prefix.1 he).length_le
      omega
  · rintro _ H1 ⟨rfl, rfl⟩
    exact ⟨_, rfl, rfl, rfl⟩
theorem Within_con (p d : Bs) (hp : p.length ≤ 100000000) (hd : d.length ≤ 100000000) (H0 : Heap) : CallsH Tryd.prog 38 ⟨[sv p, sv d]⟩ H0 fun r H1 => r = .bool (withinB p d) ∧ Ext H0 H1 := by
  refine path_Within.ok ?_
  refine (May_con p hp H0).mono ?_
  rintro _ H1 ⟨rfl, e1⟩
  refine ⟨_, rfl, fun h => ⟨?_, e1⟩, fun h => ?_⟩
  · have h : mayB p = false := by simpa using h
    unfold withinB
    rw [h]
    rfl
  · have h : mayB p = true := by simpa using h
    refine ⟨fun h2 => ⟨?_, e1⟩, fun h2 => ?_⟩
    · unfold withinB
      rw [h, h2]
      rfl
    · refine (May_con d hd H1).mono ?_
      rintro _ H2 ⟨rfl, e2⟩
      refine ⟨_, rfl, fun _ => by simp; omega, fun h3 => ?_, fun h3 => ⟨?_, e1.trans e2⟩⟩
      · refine (HasPrefix_con p (d ++ [47]) H2).mono ?_
        rintro _ H3 ⟨rfl, rfl⟩
        refine ⟨_, rfl, ?_, e1.trans e2⟩
        unfold withinB
        rw [h, h2, h3]
        rfl
      · unfold withinB
        rw [h, h2, h3]
        rfl
theorem within_at (p d : Bs) : ((d ++ [47]).isPrefixOf p) = (decide (d.length < p.length) && (p.take d.length == d) && (p[d.length]? == some 47)) := by
  rw [Bool.eq_iff_iff, List.isPrefixOf_iff_prefix]
  simp only [Bool.and_eq_true, decide_eq_true_eq, beq_iff_eq]
  constructor
  · rintro ⟨t, rfl⟩
    simp
  · rintro ⟨⟨h1, h2⟩, h3⟩
    rw [List.getElem?_eq_getElem h1] at h3
    injection h3 with h3
    refine ⟨p.drop (d.length + 1), ?_⟩
    conv => rhs; rw [← List.take_append_drop d.length p, List.drop_eq_getElem_cons h1, h2, h3]
    simp
theorem rWithin_con (p d : Bs) (hp : p.length ≤ 100000000) (hd : d.length ≤ 100000000) (H0 : Heap) : CallsH Tryd.prog 50 ⟨[sv p, sv d]⟩ H0 fun r H1 => r = .bool (withinB p d) ∧ Ext H0 H1 := by
  refine caravanref02_Within.ok ?_
  refine (rMay_con p hp H0).mono ?_
  rintro _ H1 ⟨rfl, e1⟩
  refine ⟨_, rfl, fun h => ⟨?_, e1⟩, fun h => ?_⟩
  · have h : mayB p = false := by simpa using h
    unfold withinB
    rw [h]
    rfl
  · have h : mayB p = true := by simpa using h
    refine ⟨fun h2 => ?_, fun h2 => ?_⟩
    · have h2 : (d == []) = false := by simpa using h2
      refine (rMay_con d hd H1).mono ?_
      rintro _ H2 ⟨rfl, e2⟩
      have e2 := e1.trans e2
      refine ⟨_, rfl, fun h3 => ⟨?_, e2⟩, fun h3 => ⟨fun h4 => (by rw [h2] at h4; cases h4), fun _ => ?_⟩⟩
      · have h3 : mayB d = false := by simpa using h3
        unfold withinB
        rw [h, h2, h3]
        rfl
      · have h3 : mayB d = true := by simpa using h3
        have hw : withinB p d = (decide (d.length < p.length) && (p.take d.length == d) && (p[d.length]? == some 47)) := by
          unfold withinB
          rw [h, h2, h3, within_at]
          rfl
        rw [hw]
        by_cases hl : d.length < p.length
        · have hg : p[d.length]? = some p[d.length] := List.getElem?_eq_getElem hl
          refine ⟨fun _ => ⟨by omega, by omega⟩, p[d.length], fun _ => ⟨by omega, by rw [toNat_cast]; exact hg⟩, ?_, e2⟩
          rw [decide_eq_true (show ((List.length p : Nat) : Int) > ((List.length d : Nat) : Int) by omega), decide_eq_true hl, hg]
          simp only [cond_true, toNat_cast, Nat.sub_zero, List.drop_zero, Bool.true_and]
          have e47 : ((((p[d.length]).toNat : Nat) : Int) == 47) = (some p[d.length] == some 47) := by
            rw [Bool.eq_iff_iff]
            simp only [beq_iff_eq, Option.some.injEq]
            constructor
            · intro h7; exact UInt8.toNat_inj.1 (by have e : (47 : UInt8).toNat = 47 := rfl; omega)
            · intro h7; rw [h7]; rfl
          rw [e47]
          cases (List.take (List.length d) p == d) <;> rfl
        · refine ⟨fun h5 => absurd (of_decide_eq_true h5) (by omega), 0, fun h5 => ?_, ?_, e2⟩
          · rw [decide_eq_false (show ¬ ((List.length p : Nat) : Int) > ((List.length d : Nat) : Int) by omega)] at h5
            cases h5
          · rw [decide_eq_false (show ¬ ((List.length p : Nat) : Int) > ((List.length d : Nat) : Int) by omega), decide_eq_false hl]
            rfl
    · have h2 : (d == []) = true := by simpa using h2
      refine ⟨fun _ => ⟨?_, e1⟩, fun h4 => (by rw [h2] at h4; cases h4)⟩
      unfold withinB
      rw [h, h2]
      rfl

/-! ### Order -/
theorem cmpB_split {a b : Bs} {k : Nat} (h : a.take k = b.take k) (ha : k ≤ a.length) (hb : k ≤ b.length) : cmpB a b = cmpB (a.drop k) (b.drop k) := by
  induction k generalizing a b with
  | zero => rfl
  | succ k ih =>
    cases a with
    | nil => simp at ha
    | cons x r =>
      cases b with
      | nil => simp at hb
      | cons y s =>
        simp only [List.take_succ_cons, List.cons.injEq] at h
        obtain ⟨rfl, h⟩ := h
        rw [cmpB, if_pos rfl]
        exact ih h (by simpa using ha) (by simpa using hb)
theorem Cmp_con (a b : Bs) (ha : a.length ≤ 100000000) (hb : b.length ≤ 100000000) (H0 : Heap) : CallsH Tryd.prog 27 ⟨[sv a, sv b]⟩ H0 fun r H1 => r = .int .i64 (cmpB a b) ∧ H1 = H0 := by
  have e47 : ∀ c : UInt8, ((((c.toNat : Nat) : Int) == 47) = true ↔ c = 47) := fun c => by
    simp only [beq_iff_eq]
    constructor
    · intro h7; exact UInt8.toNat_inj.1 (by have e : (47 : UInt8).toNat = 47 := rfl; omega)
    · intro h7; rw [h7]; rfl
  refine path_Cmp.ok ?_
  refine ⟨LI fun i H => ∃ k : Nat, i = k ∧ k ≤ a.length ∧ k ≤ b.length ∧ a.take k = b.take k ∧ H = H0, LM fun i => ((a.length : Int) - i).toNat, ⟨⟨_, rfl⟩, 0, rfl, by omega, by omega, rfl, rfl⟩, ?_⟩
  rintro i H ⟨k, rfl, hka, hkb, ht, rfl⟩
  have hc := cmpB_split ht hka hkb
  refine ⟨fun h => ?_, fun h => ?_⟩
  · have hk : k < a.length ∧ k < b.length := by
      by_cases h1 : k < a.length <;> by_cases h2 : k < b.length
      · exact ⟨h1, h2⟩
      · rw [decide_eq_false (show ¬ (k : Int) < ((List.length b : Nat) : Int) by omega)] at h; cases hd : decide ((k : Int) < ((List.length a : Nat) : Int)) <;> rw [hd] at h <;> cases h
      · rw [decide_eq_false (show ¬ (k : Int) < ((List.length a : Nat) : Int) by omega)] at h; cases h
      · rw [decide_eq_false (show ¬ (k : Int) < ((List.length a : Nat) : Int) by omega)] at h; cases h
    have ga : a[Int.toNat (k : Int)]? = some (a[k]'hk.1) := by rw [toNat_cast]; exact List.getElem?_eq_getElem hk.1
    have gb : b[Int.toNat (k : Int)]? = some (b[k]'hk.2) := by rw [toNat_cast]; exact List.getElem?_eq_getElem hk.2
    rw [List.drop_eq_getElem_cons hk.1, List.drop_eq_getElem_cons hk.2, cmpB] at hc
    have na : ((k : Int) == ((List.length a : Nat) : Int)) = false := by simp; omega
    have nb : ((k : Int) == ((List.length b : Nat) : Int)) = false := by simp; omega
    refine ⟨_, ⟨by omega, ga⟩, _, ⟨by omega, gb⟩, fun h2 => ?_, fun h2 => ?_⟩
    · have hne : a[k] ≠ b[k] := fun e => by rw [e] at h2; simp at h2
      rw [if_neg hne] at hc
      rw [na, nb]
      refine ⟨fun h => (by cases h), fun _ => ⟨fun h => (by cases h), fun _ => ⟨fun h => (by cases h), fun _ => ⟨_, ⟨by omega, ga⟩, fun h3 => ⟨?_, rfl⟩, fun h3 => ⟨_, ⟨by omega, gb⟩, fun h4 => ⟨?_, rfl⟩, fun h4 => ⟨_, ⟨by omega, ga⟩, _, ⟨by omega, gb⟩, fun h5 => ⟨?_, rfl⟩, fun h5 => ⟨?_, rfl⟩⟩⟩⟩⟩⟩⟩
      · have h3 := (e47 _).1 h3
        have h4 : b[k] ≠ 47 := fun e => hne (h3.trans e.symm)
        rw [hc, if_pos (by simp only [rankB, if_pos h3, if_neg h4]; omega)]
      · have h4 := (e47 _).1 h4
        have h3 : a[k] ≠ 47 := fun e => hne (e.trans h4.symm)
        rw [hc, if_neg (by simp only [rankB, if_neg h3, if_pos h4]; omega)]
      · have h3 : a[k] ≠ 47 := fun e => by rw [(e47 _).2 e] at h3; cases h3
        have h4 : b[k] ≠ 47 := fun e => by rw [(e47 _).2 e] at h4; cases h4
        have := of_decide_eq_true h5
        rw [hc, if_pos (by simp only [rankB, if_neg h3, if_neg h4]; omega)]
      · have h3 : a[k] ≠ 47 := fun e => by rw [(e47 _).2 e] at h3; cases h3
        have h4 : b[k] ≠ 47 := fun e => by rw [(e47 _).2 e] at h4; cases h4
        have := of_decide_eq_false h5
        rw [hc, if_neg (by simp only [rankB, if_neg h3, if_neg h4]; omega)]
    · have he : a[k] = b[k] := UInt8.toNat_inj.1 (by simp at h2; omega)
      refine ⟨⟨_, rfl⟩, ⟨k + 1, ?_, by omega, by omega, ?_, rfl⟩, ?_⟩
      · rw [wrap_i64 (by omega)]; omega
      · rw [List.take_succ_eq_append_getElem hk.1, List.take_succ_eq_append_getElem hk.2, ht, he]
      · show ((a.length : Int) - IntKind.wrap .i64 ((k : Int) + 1)).toNat < ((a.length : Int) - (k : Int)).toNat
        rw [wrap_i64 (by omega)]
        omega
  · by_cases h1 : k = a.length
    · by_cases h2 : k = b.length
      · have na : ((k : Int) == ((List.length a : Nat) : Int)) = true := by simp; omega
        have nb : ((k : Int) == ((List.length b : Nat) : Int)) = true := by simp; omega
        rw [na, nb]
        refine ⟨fun _ => ⟨?_, rfl⟩, fun h => (by cases h)⟩
        rw [hc, List.drop_eq_nil_of_le (by omega), List.drop_eq_nil_of_le (by omega)]
        rfl
      · have na : ((k : Int) == ((List.length a : Nat) : Int)) = true := by simp; omega
        have nb : ((k : Int) == ((List.length b : Nat) : Int)) = false := by simp; omega
        rw [na, nb]
        refine ⟨fun h => (by cases h), fun _ => ⟨fun _ => ⟨?_, rfl⟩, fun h => (by cases h)⟩⟩
        rw [hc, List.drop_eq_nil_of_le (by omega), List.drop_eq_getElem_cons (show k < b.length by omega)]
        rfl
    · by_cases h2 : k = b.length
      · have na : ((k : Int) == ((List.length a : Nat) : Int)) = false := by simp; omega
        have nb : ((k : Int) == ((List.length b : Nat) : Int)) = true := by simp; omega
        rw [na, nb]
        refine ⟨fun h => (by cases h), fun _ => ⟨fun h => (by cases h), fun _ => ⟨fun _ => ⟨?_, rfl⟩, fun h => (by cases h)⟩⟩⟩
        rw [hc, List.drop_eq_nil_of_le (show b.length ≤ k by omega), List.drop_eq_getElem_cons (show k < a.length by omega)]
        rfl
      · exfalso
        rw [decide_eq_true (show (k : Int) < ((List.length a : Nat) : Int) by omega), decide_eq_true (show (k : Int) < ((List.length b : Nat) : Int) by omega)] at h
        cases h
end Go.Proofs.YtoemipeomingaaaDoor
