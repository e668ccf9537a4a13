/- Contracts of the document's Ready and Blocked. -/
import Derived.Test.YtoemipeomingaaaDoorQSame
namespace Go.Proofs.YtoemipeomingaaaDoor
open Go Go.V

theorem drop_filter_rev {l : List Rec} {m : Nat} (h : m < l.length) (f : Rec → Bool) : ((l.drop m).filter f).reverse = ((l.drop (m + 1)).filter f).reverse ++ (if f l[m] then [l[m]] else []) := by
  rw [List.drop_eq_getElem_cons h, List.filter_cons]
  split
  · rw [List.reverse_cons]
  · rw [List.append_nil]
theorem rReady_con {an ao : Option Addr} {nn no cn co : Nat} {needs own : List Rec} (hs1 : Short needs) (hs2 : Short own) (hn1 : nn ≤ 500000) (hn2 : no ≤ 500000) (H0 : Heap) (h1 : SlR H0 an nn needs) (h2 : SlR H0 ao no own) :
    CallsH Tryd.prog 11 ⟨[.slice an nn cn, .slice ao no co]⟩ H0 fun r H1 => ∃ a c, r = .slice a (readyS needs own).length c ∧ SlR H1 a (readyS needs own).length (readyS needs own) ∧ Ext H0 H1 := by
  have hln := h1.1
  have hlo := h2.1
  have hl1 := setS_len needs
  have hl2 := setS_len own
  refine caravanref20_Ready.ok ?_
  refine (rSet_con needs hs1 an nn cn H0 h1 (by omega)).mono ?_
  rintro _ H1 ⟨a1, c1, rfl, o1, e1⟩
  refine ⟨_, _, _, rfl, ?_⟩
  refine (rSet_con own hs2 ao no co H1 (h2.ext e1) (by omega)).mono ?_
  rintro _ H2 ⟨a2, c2, rfl, o2, e2⟩
  refine ⟨_, _, _, rfl, ?_⟩
  have s1 := (o1.ext e2).slr'
  have s2 := o2.slr'
  have hsL := setS_short needs
  have hrs : readyS needs own = ((setS needs).filter fun r => !r.del && canS r (setS own)) ++ ((setS needs).filter fun r => r.del && canS r (setS own)).reverse := rfl
  rw [hrs]
  generalize setS needs = L at s1 hsL hl1 ⊢
  have hsO := setS_short own
  generalize setS own = O at s2 hsO hl2 ⊢
  refine ⟨LS2 fun a n c i H => ∃ k : Nat, i = k ∧ k ≤ L.length ∧ n ≤ k ∧ Ext H2 H ∧ OwnH H H2.size 35 27 (.slice a n c) n (recs ((L.take k).filter fun r => !r.del && canS r O)), LSM2 fun i => ((L.length : Int) - i).toNat,
    ⟨⟨_, _, _, rfl⟩, ⟨_, rfl⟩, 0, rfl, by omega, Nat.le_refl _, Ext.refl _, by simpa [recs] using OwnH.nil H2 H2.size 35 27⟩, ?_⟩
  rintro a3 n3 c3 i H3 ⟨k, rfl, hk, hnk, e3, o3⟩
  refine ⟨fun h => ?_, fun h => ?_⟩
  · have hk' : k < L.length := by have := of_decide_eq_true h; omega
    obtain ⟨ad, ha, hrd⟩ := s1.2 (by omega)
    have hr := hrd k _ (List.getElem?_eq_getElem hk')
    rw [toNat_cast]
    have hw : IntKind.wrap .i64 ((k : Int) + 1) = ((k + 1 : Nat) : Int) := by rw [wrap_i64 (by omega)]; omega
    rw [hw]
    have hless : ∀ a n c a' n' c' H H', (LSM2 fun i => ((L.length : Int) - i).toNat) [.slice a n c, .int .i64 ((k + 1 : Nat) : Int)] H < (LSM2 fun i => ((L.length : Int) - i).toNat) [.slice a' n' c', .int .i64 (k : Int)] H' := by
      intros
      show ((L.length : Int) - ((k + 1 : Nat) : Int)).toNat < ((L.length : Int) - (k : Int)).toNat
      omega
    refine ⟨ad, ⟨ha, by omega, by omega⟩, L[k].del, (hr.ext e3).rcell (by omega) (rc_del _), ad, fun _ => ⟨ha, by omega, by omega⟩, _, fun _ => hr.ext e3, fun h4 => ?_, fun h4 => ?_⟩
    · refine (rCan_con L[k] (hsL _ (List.getElem_mem hk')) O hsO a2 _ c2 H3 (s2.ext e3) (by omega)).mono ?_
      rintro _ H4 ⟨rfl, e4⟩
      refine ⟨_, rfl, fun h5 => ?_, fun h5 => ⟨⟨_, _, _, rfl⟩, ⟨_, rfl⟩, ⟨k + 1, rfl, by omega, by omega, e3.trans e4, ?_⟩, hless _ _ _ _ _ _ _ _⟩⟩
      · refine ⟨ad, ⟨ha, by omega, by omega⟩, _, hr.ext (e3.trans e4), ?_⟩
        refine app_rec (o3.ext e4) (e3.trans e4).size (by omega) L[k] ?_
        intro a6 c6 H6 o6 g6 _
        refine ⟨⟨_, _, _, rfl⟩, ⟨_, rfl⟩, ⟨k + 1, rfl, by omega, by omega, GrownH.of_ext (e3.trans e4) g6 (fun q hq => (o3.base q hq).1), ?_⟩, hless _ _ _ _ _ _ _ _⟩
        rw [filter_take_succ hk', h4, h5, if_pos (by rfl)]
        exact o6
      · rw [filter_take_succ hk', h5, Bool.and_false, if_neg (by simp), List.append_nil]
        exact o3.ext e4
    · refine ⟨⟨_, _, _, rfl⟩, ⟨_, rfl⟩, ⟨k + 1, rfl, by omega, by omega, e3, ?_⟩, hless _ _ _ _ _ _ _ _⟩
      rw [filter_take_succ hk', h4, Bool.false_and, if_neg (by simp), List.append_nil]
      exact o3
  · have : k = L.length := by have := of_decide_eq_false h; omega
    subst this
    rw [List.take_length] at o3
    have hw0 : IntKind.wrap .i64 (((L.length : Nat) : Int) - 1) = ((L.length : Nat) : Int) - 1 := wrap_i64 (by omega)
    rw [hw0]
    refine ⟨LS2 fun a n c i H => ∃ m : Nat, i = (m : Int) - 1 ∧ m ≤ L.length ∧ n ≤ L.length + (L.length - m) ∧ Ext H2 H ∧ OwnH H H2.size 35 27 (.slice a n c) n (recs ((L.filter fun r => !r.del && canS r O) ++ ((L.drop m).filter fun r => r.del && canS r O).reverse)),
      LSM2 fun i => (i + 1).toNat, ⟨⟨_, _, _, rfl⟩, ⟨_, rfl⟩, L.length, rfl, Nat.le_refl _, by omega, e3, by rw [List.drop_length]; simpa using o3⟩, ?_⟩
    rintro a4 n4 c4 i H4 ⟨m, rfl, hm, hnm, e4, o4⟩
    refine ⟨fun h5 => ?_, fun h5 => ?_⟩
    · have hm1 : 1 ≤ m := by have := of_decide_eq_true h5; omega
      obtain ⟨m, rfl⟩ : ∃ m', m = m' + 1 := ⟨m - 1, by omega⟩
      have hmc : ((m + 1 : Nat) : Int) - 1 = (m : Int) := by omega
      rw [hmc, toNat_cast]
      have hm' : m < L.length := by omega
      obtain ⟨ad, ha, hrd⟩ := s1.2 (by omega)
      have hr := hrd m _ (List.getElem?_eq_getElem hm')
      have hw : IntKind.wrap .i64 ((m : Int) - 1) = (m : Int) - 1 := wrap_i64 (by omega)
      rw [hw]
      have hless : ∀ a n c a' n' c' H H', (LSM2 fun i => (i + 1).toNat) [.slice a n c, .int .i64 ((m : Int) - 1)] H < (LSM2 fun i => (i + 1).toNat) [.slice a' n' c', .int .i64 (m : Int)] H' := by
        intros
        show ((m : Int) - 1 + 1).toNat < ((m : Int) + 1).toNat
        omega
      refine ⟨ad, ⟨ha, by omega, by omega⟩, L[m].del, (hr.ext e4).rcell (by omega) (rc_del _), ad, fun _ => ⟨ha, by omega, by omega⟩, _, fun _ => hr.ext e4, fun h6 => ?_, fun h6 => ?_⟩
      · refine (rCan_con L[m] (hsL _ (List.getElem_mem hm')) O hsO a2 _ c2 H4 (s2.ext e4) (by omega)).mono ?_
        rintro _ H5 ⟨rfl, e5⟩
        refine ⟨_, rfl, fun h7 => ?_, fun h7 => ⟨⟨_, _, _, rfl⟩, ⟨_, rfl⟩, ⟨m, rfl, by omega, by omega, e4.trans e5, ?_⟩, hless _ _ _ _ _ _ _ _⟩⟩
        · refine ⟨ad, ⟨ha, by omega, by omega⟩, _, hr.ext (e4.trans e5), ?_⟩
          refine app_rec (o4.ext e5) (e4.trans e5).size (by omega) L[m] ?_
          intro a6 c6 H6 o6 g6 _
          refine ⟨⟨_, _, _, rfl⟩, ⟨_, rfl⟩, ⟨m, rfl, by omega, by omega, GrownH.of_ext (e4.trans e5) g6 (fun q hq => (o4.base q hq).1), ?_⟩, hless _ _ _ _ _ _ _ _⟩
          rw [drop_filter_rev hm', h6, h7, if_pos (by rfl), ← List.append_assoc]
          exact o6
        · rw [drop_filter_rev hm', h7, Bool.and_false, if_neg (by simp), List.append_nil]
          exact o4.ext e5
      · refine ⟨⟨_, _, _, rfl⟩, ⟨_, rfl⟩, ⟨m, rfl, by omega, by omega, e4, ?_⟩, hless _ _ _ _ _ _ _ _⟩
        rw [drop_filter_rev hm', h6, Bool.false_and, if_neg (by simp), List.append_nil]
        exact o4
    · have : m = 0 := by have := of_decide_eq_false h5; omega
      subst this
      rw [List.drop_zero] at o4
      have s4 := o4.slr'
      have hlen := s4.1
      rw [← hlen] at s4 ⊢
      exact ⟨_, _, rfl, s4, (e1.trans e2).trans e4⟩
theorem rBlocked_con {an ao : Option Addr} {nn no cn co : Nat} {needs own : List Rec} (hs1 : Short needs) (hs2 : Short own) (hn1 : nn ≤ 500000) (hn2 : no ≤ 500000) (H0 : Heap) (h1 : SlR H0 an nn needs) (h2 : SlR H0 ao no own) :
    CallsH Tryd.prog 15 ⟨[.slice an nn cn, .slice ao no co]⟩ H0 fun r H1 => ∃ a c, r = .slice a (blockedS needs own).length c ∧ SlS H1 a (blockedS needs own).length (blockedS needs own) ∧ Ext H0 H1 := by
  have hln := h1.1
  have hlo := h2.1
  refine caravanref20_Blocked.ok ?_
  refine (rAim_con hs1 hs2 hn1 hn2 H0 h1 h2).mono ?_
  rintro _ H1 ⟨a1, c1, rfl, s1, e1⟩
  refine ⟨_, _, _, rfl, ?_⟩
  have hbs : blockedS needs own = ((aimS needs own).filter fun r => (r.del || r.kind != 2) && insideS (aimS needs own) r.path).map (·.path) := rfl
  rw [hbs]
  have hsL : Short (aimS needs own) := setS_short _
  have hl : (aimS needs own).length ≤ (own ++ needs).length := setS_len _
  rw [List.length_append] at hl
  generalize aimS needs own = L at s1 hsL hl ⊢
  refine ⟨LS2 fun a n c i H => ∃ k : Nat, i = k ∧ k ≤ L.length ∧ n ≤ k ∧ Ext H1 H ∧ OwnH H H1.size 9 1 (.slice a n c) n (strs (((L.take k).filter fun r => (r.del || r.kind != 2) && insideS L r.path).map (·.path))),
    LSM2 fun i => ((L.length : Int) - i).toNat, ⟨⟨_, _, _, rfl⟩, ⟨_, rfl⟩, 0, rfl, by omega, Nat.le_refl _, Ext.refl _, by simpa [strs] using OwnH.nil H1 H1.size 9 1⟩, ?_⟩
  rintro a3 n3 c3 i H3 ⟨k, rfl, hk, hnk, e3, o3⟩
  refine ⟨fun h => ?_, fun h => ?_⟩
  · have hk' : k < L.length := by have := of_decide_eq_true h; omega
    obtain ⟨ad, ha, hrd⟩ := s1.2 (by omega)
    have hr := hrd k _ (List.getElem?_eq_getElem hk')
    rw [toNat_cast]
    have hw : IntKind.wrap .i64 ((k : Int) + 1) = ((k + 1 : Nat) : Int) := by rw [wrap_i64 (by omega)]; omega
    rw [hw]
    have hless : ∀ a n c a' n' c' H H', (LSM2 fun i => ((L.length : Int) - i).toNat) [.slice a n c, .int .i64 ((k + 1 : Nat) : Int)] H < (LSM2 fun i => ((L.length : Int) - i).toNat) [.slice a' n' c', .int .i64 (k : Int)] H' := by
      intros
      show ((L.length : Int) - ((k + 1 : Nat) : Int)).toNat < ((L.length : Int) - (k : Int)).toNat
      omega
    have hcc : (cond L[k].del true (L[k].kind != (2 : Int))) = (L[k].del || L[k].kind != 2) := by cases L[k].del <;> rfl
    refine ⟨ad, ⟨ha, by omega, by omega⟩, L[k].del, (hr.ext e3).rcell (by omega) (rc_del _), ad, fun _ => ⟨ha, by omega, by omega⟩, _, fun _ => (hr.ext e3).rcell (by omega) (rc_kind _), ad, fun _ => ⟨ha, by omega, by omega⟩, _, fun _ => (hr.ext e3).rcell (by omega) (rc_path _), ?_⟩
    rw [hcc]
    refine ⟨fun h4 => ?_, fun h4 => ?_⟩
    · refine (rInside_con L hsL L[k].path (hsL _ (List.getElem_mem hk')) a1 _ c1 H3 (s1.ext e3) (by omega)).mono ?_
      rintro _ H4 ⟨rfl, e4⟩
      refine ⟨_, rfl, fun h5 => ?_, fun h5 => ⟨⟨_, _, _, rfl⟩, ⟨_, rfl⟩, ⟨k + 1, rfl, by omega, by omega, e3.trans e4, ?_⟩, hless _ _ _ _ _ _ _ _⟩⟩
      · refine ⟨ad, ⟨ha, by omega, by omega⟩, _, (hr.ext (e3.trans e4)).rcell (by omega) (rc_path _), ?_⟩
        refine app_str (o3.ext e4) (e3.trans e4).size (by omega) L[k].path ?_
        intro a6 c6 H6 o6 g6
        refine ⟨⟨_, _, _, rfl⟩, ⟨_, rfl⟩, ⟨k + 1, rfl, by omega, by omega, GrownH.of_ext (e3.trans e4) g6 (fun q hq => (o3.base q hq).1), ?_⟩, hless _ _ _ _ _ _ _ _⟩
        rw [filter_take_succ hk', h4, h5, if_pos (by rfl), List.map_append]
        exact o6
      · rw [filter_take_succ hk', h5, Bool.and_false, if_neg (by simp), List.append_nil]
        exact o3.ext e4
    · refine ⟨⟨_, _, _, rfl⟩, ⟨_, rfl⟩, ⟨k + 1, rfl, by omega, by omega, e3, ?_⟩, hless _ _ _ _ _ _ _ _⟩
      rw [filter_take_succ hk', h4, Bool.false_and, if_neg (by simp), List.append_nil]
      exact o3
  · have : k = L.length := by have := of_decide_eq_false h; omega
    subst this
    rw [List.take_length] at o3
    obtain ⟨a5, c5, he, s5⟩ := o3.sls
    injection he with he1 he2 he3
    subst he1
    have hlen := s5.1
    rw [← hlen] at s5 ⊢
    exact ⟨_, _, rfl, s5, e1.trans e3⟩
end Go.Proofs.YtoemipeomingaaaDoor
