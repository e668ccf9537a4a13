/- Contracts: few, set. -/
import Derived.Test.YtoemipeomingaaaDoorQRec
namespace Go.Proofs.YtoemipeomingaaaDoor
open Go Go.V

def LS2 (f : Option Addr → Nat → Nat → Int → Heap → Prop) : List Value → Heap → Prop
  | [.slice a n c, .int _ i], H => f a n c i H
  | _, _ => False
def LSM2 (f : Int → Nat) : List Value → Heap → Nat
  | [.slice _ _ _, .int _ i], _ => f i
  | _, _ => 0
theorem few_con (l : List Rec) (hl : ∀ r ∈ l, r.path.length ≤ 9223372036854775807) (a : Option Addr) (n c : Nat) (H0 : Heap) (hs : RawR H0 a n l) :
    CallsH Tryd.prog 10 ⟨[.slice a n c]⟩ H0 fun r H1 => ∃ (a1 : Option Addr) (c1 : Nat), r = .slice a1 (fewL l).length c1 ∧ OwnH H1 H0.size 35 27 (.slice a1 (fewL l).length c1) (fewL l).length (recs (fewL l)) ∧ Ext H0 H1 := by
  have hln := hs.1
  refine caravanlaw20_few.ok ?_
  refine ⟨LS2 fun a1 n1 c1 i H => ∃ k : Nat, i = k ∧ k ≤ min n 40 ∧ n1 = k ∧ Ext H0 H ∧ OwnH H H0.size 35 27 (.slice a1 n1 c1) n1 (recs ((l.take k).map fewR)), LSM2 fun i => (40 - i).toNat,
    ⟨⟨_, _, _, rfl⟩, ⟨_, rfl⟩, 0, rfl, by omega, rfl, Ext.refl _, by simpa [recs] using OwnH.nil H0 H0.size 35 27⟩, ?_⟩
  rintro a1 n1 c1 i H1 ⟨k, rfl, hk, rfl, e1, o1⟩
  refine ⟨fun h => ?_, fun h => ?_⟩
  · have hkk : n1 < n ∧ n1 < 40 := by
      by_cases h1 : n1 < n <;> by_cases h2 : n1 < 40
      · exact ⟨h1, h2⟩
      · rw [decide_eq_false (show ¬ (n1 : Int) < 40 by omega)] at h; cases hd : decide ((n1 : Int) < (n : Int)) <;> rw [hd] at h <;> cases h
      · rw [decide_eq_false (show ¬ (n1 : Int) < (n : Int) by omega)] at h; cases h
      · rw [decide_eq_false (show ¬ (n1 : Int) < (n : Int) by omega)] at h; cases h
    have hkl : n1 < l.length := by omega
    have hg : l[n1]? = some l[n1] := List.getElem?_eq_getElem hkl
    obtain ⟨ad, ha, hr⟩ := hs.2 (by omega)
    obtain ⟨q1, q2, q3, q4⟩ := hr n1 _ hg
    have hpl := hl _ (List.getElem_mem hkl)
    have hb : a = some ad ∧ 0 ≤ (n1 : Int) ∧ (n1 : Int) < (n : Int) := ⟨ha, by omega, by omega⟩
    have em : Int.toNat (if (400 : Int) < ((List.length l[n1].path : Nat) : Int) then (400 : Int) else ((List.length l[n1].path : Nat) : Int)) = min 400 l[n1].path.length := by split <;> omega
    refine ⟨ad, hb, l[n1].path, by rw [toNat_cast]; exact e1.cell q1, ad, hb, l[n1].path, by rw [toNat_cast]; exact e1.cell q1, ⟨by split <;> omega, by split <;> omega⟩, ad, hb, _, by rw [toNat_cast]; exact e1.cell q2, ad, hb, _, by rw [toNat_cast]; exact e1.cell q3, ad, hb, _, by rw [toNat_cast]; exact e1.cell q4, _, build_rec _ _ _ _, ?_⟩
    have ep : (⟨List.take ((Int.toNat (if (400 : Int) < ((List.length l[n1].path : Nat) : Int) then (400 : Int) else ((List.length l[n1].path : Nat) : Int))) - 0) (List.drop 0 l[n1].path), l[n1].kind, l[n1].del, l[n1].dev⟩ : Rec) = fewR l[n1] := by
      rw [em, Nat.sub_zero, List.drop_zero]
      unfold fewR
      congr 1
      rcases Nat.le_total 400 l[n1].path.length with h4 | h4
      · rw [Nat.min_eq_left h4]
      · rw [Nat.min_eq_right h4, List.take_length, List.take_of_length_le h4]
    rw [ep]
    refine app_recx o1 e1.size (by omega) (fewR l[n1]) ?_
    intro a3 c3 H3 o3 g3 _
    have e3 := GrownH.of_ext e1 g3 (fun k hk => (o1.base k hk).1)
    refine ⟨⟨_, _, _, rfl⟩, ⟨_, rfl⟩, ⟨n1 + 1, ?_, by omega, rfl, e3, ?_⟩, ?_⟩
    · rw [wrap_i64 (by omega)]; omega
    · rw [List.take_succ_eq_append_getElem hkl, List.map_append]
      exact o3
    · show (40 - IntKind.wrap .i64 ((n1 : Int) + 1)).toNat < (40 - (n1 : Int)).toNat
      rw [wrap_i64 (by omega)]
      omega
  · have hk' : n1 = min n 40 := by
      refine Classical.byContradiction fun hne => ?_
      rw [decide_eq_true (show (n1 : Int) < (n : Int) by omega), decide_eq_true (show (n1 : Int) < 40 by omega)] at h
      cases h
    have hlen : (fewL l).length = n1 := by simp [fewL]; omega
    have he : (l.take n1).map fewR = fewL l := by
      unfold fewL
      rcases Nat.le_total n 40 with h4 | h4
      · rw [List.take_of_length_le (show l.length ≤ n1 by omega), List.take_of_length_le (show l.length ≤ 40 by omega)]
      · rw [show n1 = 40 by omega]
    rw [he] at o1
    refine ⟨a1, c1, by rw [hlen], ?_, e1⟩
    rw [hlen]
    exact o1
end Go.Proofs.YtoemipeomingaaaDoor
