/- Contracts of the reference's functions on paths. -/
import Derived.Test.YtoemipeomingaaaDoorQStr
namespace Go.Proofs.YtoemipeomingaaaDoor
open Go Go.V

def LS3 (f : Option Addr → Nat → Nat → Int → Int → Heap → Prop) : List Value → Heap → Prop
  | [.slice a n c, .int _ i, .int _ j], H => f a n c i j H
  | _, _ => False
def LSM3 (f : Int → Int → Nat) : List Value → Heap → Nat
  | [.slice _ _ _, .int _ i, .int _ j], _ => f i j
  | _, _ => 0
theorem strs_snoc (l : List Bs) (x : Bs) : strs (l ++ [x]) = strs l ++ (sv x).cells.toList := by simp [strs, sv, Value.cells]
/-- a text more, at the end of a slice of the call's own -/
theorem app_str {B : Nat} {H : Heap} {a : Option Addr} {n c : Nat} {l : List Bs} (hown : OwnH H B 9 1 (.slice a n c) n (strs l)) (hB : B ≤ H.size) (hn : n ≤ 1000000000) (x : Bs)
    {F : Option Addr → Nat → Nat → Heap → Prop} (h : ∀ a3 c3 H3, OwnH H3 B 9 1 (.slice a3 (n + 1) c3) (n + 1) (strs (l ++ [x])) → GrownH H H3 (Value.ownBlock (.slice a n c)) → F a3 (n + 1) c3 H3) :
    SemH Tryd.prog (Instr.buildSlice 27 1 ⟨[(0, sv x)]⟩) H fun r H2 => ∃ (a2 : Option Addr) (l2 c2 : Nat), r = .slice a2 l2 c2 ∧ SemH Tryd.prog (Builtin.append_ #[27, 27] 27 ⟨[.slice a n c, .slice a2 l2 c2]⟩) H2 fun r3 H3 =>
      ∃ (a3 : Option Addr) (l3 c3 : Nat), r3 = .slice a3 l3 c3 ∧ F a3 l3 c3 H3 := by
  refine app1 (P := Tryd.prog) tab_ok (t := 27) (ty := 27) (e := 9) rfl rfl rfl (by decide) hown hB (x := sv x) rfl (by simp [sv, Value.cells, Value.oneCell']) (by decide) (by simp [maxLen]; omega) (by show (n + 1) * 16 ≤ _; omega) ?_
  intro a3 c3 H3 o g _
  rw [← strs_snoc] at o
  exact h a3 c3 H3 o g
theorem own_base {H : Heap} {B : Nat} {e : TypeId} {size : Nat} {a : Option Addr} {n c : Nat} {xs : List Value} (h : OwnH H B e size (.slice a n c) n xs) : ∀ k, Value.ownBlock (.slice a n c) = some k → B ≤ k := fun k hk => (h.base k hk).1

theorem Pieces_con (s : Bs) (hs : s.length ≤ 100000000) (H0 : Heap) : CallsH Tryd.prog 61 ⟨[sv s]⟩ H0 fun r H1 => ∃ (a : Option Addr) (c : Nat), r = .slice a (piecesB s).length c ∧ SlS H1 a (piecesB s).length (piecesB s) ∧ Ext H0 H1 := by
  refine caravanref02_Pieces.ok ?_
  refine ⟨LS3 fun a n c f i H => ∃ (k q : Nat) (l : List Bs), i = k ∧ f = q ∧ q ≤ k ∧ k ≤ s.length ∧ n ≤ k ∧ piecesB (s.take k) = l ++ [(s.take k).drop q] ∧ Ext H0 H ∧ OwnH H H0.size 9 1 (.slice a n c) n (strs l),
    LSM3 fun _ i => ((s.length : Int) - i).toNat, ⟨⟨_, _, _, rfl⟩, ⟨_, rfl⟩, ⟨_, rfl⟩, 0, 0, [], rfl, rfl, by omega, by omega, by omega, rfl, Ext.refl _, OwnH.nil _ _ _ _⟩, ?_⟩
  rintro a n c f i H1 ⟨k, q, l, rfl, rfl, hqk, hk, hn, hp, e1, o1⟩
  refine ⟨fun h => ?_, fun h => ?_⟩
  · have hk' : k < s.length := by have := of_decide_eq_true h; omega
    have hc : s[k]? = some s[k] := List.getElem?_eq_getElem hk'
    have ht : s.take (k + 1) = s.take k ++ [s[k]] := List.take_succ_eq_append_getElem hk'
    have hsn := piecesB_snoc (s.take k) s[k] hp
    refine ⟨s[k], ⟨by omega, by rw [toNat_cast]; exact hc⟩, fun h2 => ?_, fun h2 => ?_⟩
    · have h47 : s[k] = 47 := UInt8.toNat_inj.1 (by have e : (47 : UInt8).toNat = 47 := rfl; simp at h2; omega)
      refine ⟨⟨by omega, by omega⟩, ⟨by omega, by rw [toNat_cast]; omega⟩, ?_⟩
      rw [toNat_cast, toNat_cast, show List.take (k - q) (List.drop q s) = (s.take k).drop q by rw [List.drop_take]]
      refine app_str o1 e1.size (by omega) _ ?_
      intro a3 c3 H3 o3 g3
      rw [if_pos h47] at hsn
      have e3 := GrownH.of_ext e1 g3 (own_base o1)
      refine ⟨⟨_, _, _, rfl⟩, ⟨_, rfl⟩, ⟨_, rfl⟩, ⟨k + 1, k + 1, l ++ [(s.take k).drop q], ?_, ?_, by omega, by omega, by omega, ?_, e3, o3⟩, ?_⟩
      · rw [wrap_i64 (by omega)]; omega
      · rw [wrap_i64 (by omega)]; omega
      · rw [ht, hsn]
        have : List.drop (k + 1) (s.take k ++ [s[k]]) = [] := List.drop_eq_nil_of_le (by simp; omega)
        rw [this]
        simp
      · show ((s.length : Int) - IntKind.wrap .i64 ((k : Int) + 1)).toNat < ((s.length : Int) - (k : Int)).toNat
        rw [wrap_i64 (by omega)]
        omega
    · have h47 : s[k] ≠ 47 := fun e => by rw [e] at h2; cases h2
      rw [if_neg h47] at hsn
      refine ⟨⟨_, _, _, rfl⟩, ⟨_, rfl⟩, ⟨_, rfl⟩, ⟨k + 1, q, l, ?_, rfl, by omega, by omega, by omega, ?_, e1, o1⟩, ?_⟩
      · rw [wrap_i64 (by omega)]; omega
      · rw [ht, hsn, List.drop_append_of_le_length (by simp; omega)]
      · show ((s.length : Int) - IntKind.wrap .i64 ((k : Int) + 1)).toNat < ((s.length : Int) - (k : Int)).toNat
        rw [wrap_i64 (by omega)]
        omega
  · have : k = s.length := by have := of_decide_eq_false h; omega
    subst this
    rw [List.take_length] at hp
    refine ⟨⟨by omega, by omega⟩, ?_⟩
    rw [toNat_cast, show List.take (s.length - q) (List.drop q s) = s.drop q by rw [List.take_of_length_le (by simp)]]
    refine app_str o1 e1.size (by omega) _ ?_
    intro a3 c3 H3 o3 g3
    rw [← hp] at o3
    have e3 := GrownH.of_ext e1 g3 (own_base o1)
    have hl : (piecesB s).length = n + 1 := by have := o3.1; simpa [strs] using this
    obtain ⟨a4, c4, he, hsl⟩ := o3.sls
    injection he with he1 he2 he3
    subst he1
    refine ⟨a3, c3, ?_, ?_, e3⟩
    · rw [hl]
    · rw [hl]; exact hsl
theorem last_con (s : Bs) (hs : s.length ≤ 100000000) (H0 : Heap) : CallsH Tryd.prog 79 ⟨[sv s]⟩ H0 fun r H1 => r = sv (lastB s) ∧ Ext H0 H1 := by
  refine caravanref02_last.ok ?_
  refine (Pieces_con s hs H0).mono ?_
  rintro _ H1 ⟨a, c, rfl, hsl, e1⟩
  have hp := piecesB_ne s
  have hpos : 0 < (piecesB s).length := List.length_pos_iff.2 hp
  have hlen : (piecesB s).length ≤ 100000001 := by
    rw [piecesB_len]
    have := List.count_le_length (a := (47 : UInt8)) (l := s)
    omega
  obtain ⟨ad, ha, hr⟩ := hsl.2 hpos
  have hw : IntKind.wrap .i64 ((((piecesB s).length : Nat) : Int) - 1) = (((piecesB s).length - 1 : Nat) : Int) := by rw [wrap_i64 (by omega)]; omega
  refine ⟨a, _, c, rfl, ad, ⟨ha, ?_⟩, lastB s, ?_, rfl, e1⟩
  · rw [hw]; omega
  · rw [hw, toNat_cast]
    refine hr _ _ ?_
    unfold lastB
    rw [List.getLast_eq_getElem, List.getElem?_eq_getElem]
theorem ahead_con (s : Bs) (hs : s.length ≤ 100000000) (H0 : Heap) : CallsH Tryd.prog 62 ⟨[sv s]⟩ H0 fun r H1 => r = sv (aheadB s) ∧ Ext H0 H1 := by
  refine caravanref02_ahead.ok ?_
  refine (last_con s hs H0).mono ?_
  rintro _ H1 ⟨rfl, e1⟩
  have hl := lastB_len s
  refine ⟨_, rfl, ?_⟩
  rw [wrap_i64 (x := (s.length : Int) - ((lastB s).length : Int)) (by omega), wrap_i64 (by omega)]
  refine ⟨fun h => ⟨?_, e1⟩, fun h => ⟨⟨by have := of_decide_eq_false h; omega, by omega⟩, ?_, e1⟩⟩
  · have := of_decide_eq_true h
    unfold aheadB
    rw [show s.length - (lastB s).length - 1 = 0 by omega]
    rfl
  · have := of_decide_eq_false h
    unfold aheadB
    rw [show ((s.length : Int) - ((lastB s).length : Int) - 1).toNat = s.length - (lastB s).length - 1 by omega]
    rfl
theorem nameB_all_take {l : List Bs} {k : Nat} {x : Bs} (hk : l[k]? = some x) (h : (l.take k).all nameB = true) (hx : nameB x = true) : (l.take (k + 1)).all nameB = true := by
  have hl : k < l.length := by
    rcases Nat.lt_or_ge k l.length with h1 | h1
    · exact h1
    · rw [List.getElem?_eq_none h1] at hk; cases hk
  rw [List.getElem?_eq_getElem hl] at hk
  injection hk with hk
  rw [List.take_succ_eq_append_getElem hl, List.all_append, h, hk]
  simp [hx]
theorem nameB_all_no {l : List Bs} {k : Nat} {x : Bs} (hk : l[k]? = some x) (hx : nameB x = false) : l.all nameB = false := by
  rw [Bool.eq_false_iff]
  intro h
  have := List.all_eq_true.1 h x (List.mem_of_getElem? hk)
  rw [hx] at this
  cases this
theorem piece_len : ∀ (s : Bs) (x : Bs), x ∈ piecesB s → x.length ≤ s.length
  | [], x, h => by simp [piecesB] at h; subst h; simp
  | c :: r, x, h => by
    rw [piecesB] at h
    split at h
    · rcases List.mem_cons.1 h with h | h
      · subst h; simp
      · have := piece_len r x h; simp; omega
    · cases hp : piecesB r with
      | nil => exact absurd hp (piecesB_ne r)
      | cons p q =>
        rw [hp] at h
        dsimp only at h
        rcases List.mem_cons.1 h with h | h
        · subst h
          have := piece_len r p (by rw [hp]; exact List.mem_cons_self)
          simp
          omega
        · have := piece_len r x (by rw [hp]; exact List.mem_cons_of_mem _ h)
          simp
          omega
theorem rMay_con (s : Bs) (hs : s.length ≤ 100000000) (H0 : Heap) : CallsH Tryd.prog 47 ⟨[sv s]⟩ H0 fun r H1 => r = .bool (mayB s) ∧ Ext H0 H1 := by
  refine caravanref02_May.ok ?_
  refine (Pieces_con s hs H0).mono ?_
  rintro _ H1 ⟨a, c, rfl, hsl, e1⟩
  refine ⟨a, _, c, rfl, fun h => ⟨?_, e1⟩, fun h => ?_⟩
  · have := of_decide_eq_true h
    unfold mayB
    rw [decide_eq_false (show ¬ s.length ≤ 160 by omega)]
    rfl
  · have h160 := of_decide_eq_false h
    refine (ahead_con s hs H1).mono ?_
    rintro _ H2 ⟨rfl, e2⟩
    have hsl := hsl.ext e2
    have e2 := e1.trans e2
    refine ⟨_, rfl, fun h2 => ⟨?_, e2⟩, fun h2 => ?_⟩
    · unfold mayB
      by_cases h3 : (aheadB s).length ≤ 111
      · by_cases h4 : (piecesB s).length ≤ 6
        · rw [decide_eq_false (show ¬ ((aheadB s).length : Int) > 111 by omega), decide_eq_false (show ¬ ((piecesB s).length : Int) > 6 by omega)] at h2
          cases h2
        · rw [decide_eq_false h4]; simp
      · rw [decide_eq_false h3]; simp
    · have h3 : (aheadB s).length ≤ 111 := by
        refine Classical.byContradiction fun h3 => ?_
        rw [decide_eq_true (show ((aheadB s).length : Int) > 111 by omega)] at h2
        cases h2
      have h4 : (piecesB s).length ≤ 6 := by
        refine Classical.byContradiction fun h4 => ?_
        rw [decide_eq_true (show ((piecesB s).length : Int) > 6 by omega)] at h2
        cases hd : decide (((aheadB s).length : Int) > 111) <;> rw [hd] at h2 <;> cases h2
      have hm : mayB s = (piecesB s).all nameB := by
        unfold mayB
        rw [decide_eq_true (show s.length ≤ 160 by omega), decide_eq_true h3, decide_eq_true h4]
        rfl
      rw [hm]
      refine ⟨LI fun i H => ∃ k : Nat, i = k ∧ k ≤ (piecesB s).length ∧ ((piecesB s).take k).all nameB = true ∧ H = H2, LM fun i => (((piecesB s).length : Int) - i).toNat, ⟨⟨_, rfl⟩, 0, rfl, by omega, by simp, rfl⟩, ?_⟩
      rintro i H3 ⟨k, rfl, hk, hall, rfl⟩
      refine ⟨fun h5 => ?_, fun h5 => ?_⟩
      · have hk' : k < (piecesB s).length := by have := of_decide_eq_true h5; omega
        obtain ⟨ad, ha, hr⟩ := hsl.2 (by omega)
        have hg : (piecesB s)[k]? = some (piecesB s)[k] := List.getElem?_eq_getElem hk'
        have hpl := piece_len s _ (List.getElem_mem hk')
        refine ⟨ad, ⟨ha, by omega, by omega⟩, (piecesB s)[k], by rw [toNat_cast]; exact hr k _ hg, (rName_con _ (by omega) _).mono ?_⟩
        rintro _ H4 ⟨rfl, rfl⟩
        refine ⟨_, rfl, fun h6 => ⟨?_, e2⟩, fun h6 => ⟨⟨_, rfl⟩, ⟨k + 1, ?_, by omega, nameB_all_take hg hall (by simpa using h6), rfl⟩, ?_⟩⟩
        · rw [nameB_all_no hg (by simpa using h6)]
        · rw [wrap_i64 (by omega)]; omega
        · show (((piecesB s).length : Int) - IntKind.wrap .i64 ((k : Int) + 1)).toNat < (((piecesB s).length : Int) - (k : Int)).toNat
          rw [wrap_i64 (by omega)]
          omega
      · have : k = (piecesB s).length := by have := of_decide_eq_false h5; omega
        subst this
        rw [List.take_length] at hall
        exact ⟨by rw [hall], e2⟩
end Go.Proofs.YtoemipeomingaaaDoor
