/- Contracts: Ready, Blocked, Aim. -/
import Derived.Test.YtoemipeomingaaaDoorQRev
import Derived.Test.YtoemipeomingaaaDoorQSorted3
namespace Go.Proofs.YtoemipeomingaaaDoor
open Go Go.V

def LSSI2 (f : Option Addr → Nat → Nat → Option Addr → Nat → Nat → Int → Heap → Prop) : List Value → Heap → Prop
  | [.slice a n c, .slice a' n' c', .int .i64 i], H => f a n c a' n' c' i H
  | _, _ => False
def LSSIM2 (f : Int → Nat) : List Value → Heap → Nat
  | [.slice _ _ _, .slice _ _ _, .int .i64 i], _ => f i
  | _, _ => 0
theorem Ready_con {an ao : Option Addr} {nn no cn co : Nat} {needs own : List Rec} (hs1 : Short needs) (hs2 : Short own) (hn1 : nn ≤ 500000) (hn2 : no ≤ 500000) (H0 : Heap) (h1 : SlR H0 an nn needs) (h2 : SlR H0 ao no own) :
    CallsH Tryd.prog 9 ⟨[.slice an nn cn, .slice ao no co]⟩ H0 fun r H1 => ∃ a c, r = .slice a (readyS needs own).length c ∧ SlR H1 a (readyS needs own).length (readyS needs own) ∧ Ext H0 H1 := by
  have hln := h1.1
  have hlo := h2.1
  refine queue_Ready.ok ?_
  refine (set_con own hs2 ao no co H0 h2 (by omega)).mono ?_
  rintro _ H1 ⟨b, rfl, hb, m1, e1⟩
  refine ⟨_, rfl, ?_⟩
  have hmo := setM_like own
  generalize hmm : setM own = mo at m1 hmo
  have hmol := hmo.le
  refine (inside_con mo hmo.short (by omega) b H1 m1).mono ?_
  rintro _ H2 ⟨b2, cm, rfl, hb2, m2, hcm, e2⟩
  refine ⟨_, rfl, ?_⟩
  refine (set_con needs hs1 an nn cn H2 (h1.ext (e1.trans e2)) (by omega)).mono ?_
  rintro _ H3 ⟨b3, rfl, hb3, m3, e3⟩
  refine ⟨_, rfl, ?_⟩
  have hmn := setM_like needs
  have hmnl := hmn.le
  refine (sorted_con hmn (by omega) b3 H3 m3).mono ?_
  rintro _ H4 ⟨a, c, rfl, s4, e4⟩
  refine ⟨_, _, _, rfl, ?_⟩
  have hll := setS_len needs
  have hokl := setS_ok needs
  have hrs : readyS needs own = ((setS needs).filter fun r => !r.del && canS r (setS own)) ++ ((setS needs).filter fun r => r.del && canS r (setS own)).reverse := rfl
  generalize setS needs = L at s4 hll hokl hrs ⊢
  have e04 := ((e1.trans e2).trans e3).trans e4
  refine ⟨LSSI2 fun ac nc cc ag ng cg i H => ∃ k : Nat, i = k ∧ k ≤ L.length ∧ nc ≤ k ∧ ng ≤ k ∧ Ext H4 H ∧ OwnH H H4.size 35 27 (.slice ac nc cc) nc (recs ((L.take k).filter fun r => !r.del && canS r (setS own))) ∧
      OwnH H H4.size 35 27 (.slice ag ng cg) ng (recs ((L.take k).filter fun r => r.del && canS r (setS own))) ∧ (∀ q, Value.ownBlock (.slice ac nc cc) = some q → Value.ownBlock (.slice ag ng cg) ≠ some q),
    LSSIM2 fun i => ((L.length : Int) - i).toNat, ⟨⟨_, _, _, rfl⟩, ⟨_, _, _, rfl⟩, ⟨_, rfl⟩, 0, rfl, by omega, Nat.le_refl _, Nat.le_refl _, Ext.refl _, by simpa [recs] using OwnH.nil H4 H4.size 35 27, by simpa [recs] using OwnH.nil H4 H4.size 35 27, fun q hq => by cases hq⟩, ?_⟩
  rintro ac nc cc ag ng cg i H5 ⟨k, rfl, hk, hnc, hng, e5, oc, og, hdis⟩
  refine ⟨fun h => ?_, fun h => ?_⟩
  · have hk' : k < L.length := by have := of_decide_eq_true h; omega
    obtain ⟨ad, ha, hrd⟩ := s4.2 (by omega)
    have hgk : L[k]? = some L[k] := List.getElem?_eq_getElem hk'
    refine ⟨ad, ⟨ha, by omega, by omega⟩, rc L[k], by rw [toNat_cast]; exact (hrd k _ hgk).ext e5, ?_⟩
    refine st_rec _ fun g6 H6 hg6 e6 b6 => ?_
    refine st_rd b6 (rc_size _) ?_
    refine (can_con (hokl _ (List.getElem_mem hk')) hmo hcm b b2 H6 (m1.ext ((((e2.trans e3).trans e4).trans e5).trans e6)) (m2.ext (((e3.trans e4).trans e5).trans e6))).mono ?_
    rintro _ H7 ⟨rfl, e7⟩
    have e67 := e6.trans e7
    have b7 := b6.ext e7
    have hw : IntKind.wrap .i64 ((k : Int) + 1) = ((k + 1 : Nat) : Int) := by rw [wrap_i64 (by omega)]; omega
    have hless : (LSSIM2 fun i => ((L.length : Int) - i).toNat) [.slice ac nc cc, .slice ag ng cg, .int .i64 ((k + 1 : Nat) : Int)] H7 < (LSSIM2 fun i => ((L.length : Int) - i).toNat) [.slice ac nc cc, .slice ag ng cg, .int .i64 (k : Int)] H5 := by
      show ((L.length : Int) - ((k + 1 : Nat) : Int)).toNat < ((L.length : Int) - (k : Int)).toNat
      omega
    refine ⟨_, rfl, fun h7 => ?_, fun h7 => ?_⟩
    · have h7 : canS L[k] (setS own) = false := by simpa using h7
      rw [hw]
      refine ⟨⟨_, _, _, rfl⟩, ⟨_, _, _, rfl⟩, ⟨_, rfl⟩, ⟨k + 1, rfl, by omega, by omega, by omega, e5.trans e67, ?_, ?_, hdis⟩, hless⟩
      · rw [filter_take_succ hk', h7, Bool.and_false, if_neg (by simp), List.append_nil]
        exact oc.ext e67
      · rw [filter_take_succ hk', h7, Bool.and_false, if_neg (by simp), List.append_nil]
        exact og.ext e67
    · have h7 : canS L[k] (setS own) = true := by simpa using h7
      rw [hw]
      refine ⟨L[k].del, b7.rcell (rc_del _), fun hd => ?_, fun hd => ?_⟩
      · refine st_rd b7 (rc_size _) ?_
        refine app_rec (og.ext e67) (by have := e5.size; have := e67.size; omega) (by omega) L[k] ?_
        intro a8 c8 H8 o8 g8 k8
        refine ⟨⟨_, _, _, rfl⟩, ⟨_, _, _, rfl⟩, ⟨_, rfl⟩, ⟨k + 1, rfl, by omega, by omega, by omega, ?_, ?_, ?_, ?_⟩, hless⟩
        · exact GrownH.of_ext (e5.trans e67) g8 fun q hq => (og.base q hq).1
        · rw [filter_take_succ hk', hd, if_neg (by simp), List.append_nil]
          exact (oc.ext e67).kept g8 fun q hq e => hdis q hq e.symm
        · rw [filter_take_succ hk', hd, h7, if_pos (by rfl)]
          exact o8
        · intro q hq hq8
          rcases k8 q hq8 with h9 | h9
          · exact hdis q hq h9
          · have := ((oc.ext e67).base q hq).2
            omega
      · refine st_rd b7 (rc_size _) ?_
        refine app_rec (oc.ext e67) (by have := e5.size; have := e67.size; omega) (by omega) L[k] ?_
        intro a8 c8 H8 o8 g8 k8
        refine ⟨⟨_, _, _, rfl⟩, ⟨_, _, _, rfl⟩, ⟨_, rfl⟩, ⟨k + 1, rfl, by omega, by omega, by omega, ?_, ?_, ?_, ?_⟩, hless⟩
        · exact GrownH.of_ext (e5.trans e67) g8 fun q hq => (oc.base q hq).1
        · rw [filter_take_succ hk', hd, h7, if_pos (by rfl)]
          exact o8
        · rw [filter_take_succ hk', hd, Bool.false_and, if_neg (by simp), List.append_nil]
          exact (og.ext e67).kept g8 fun q hq e => hdis q e.symm hq
        · intro q hq hq8
          rcases k8 q hq with h9 | h9
          · exact hdis q h9 hq8
          · have := ((og.ext e67).base q hq8).2
            omega
  · have : k = L.length := by have := of_decide_eq_false h; omega
    subst this
    rw [List.take_length] at oc og
    refine (Reverse_con _ og (by omega)).mono ?_
    rintro _ H6 ⟨rfl, o6, g6⟩
    refine ⟨rfl, ?_⟩
    have oc6 := oc.kept g6 fun q hq e => hdis q hq e.symm
    have hfl := o6.flat
    refine (sem_append (P := Tryd.prog) tab_ok (t := 22) (ty := 22) (e := 35) rfl rfl rfl (by decide) oc6 (by have := e5.size; have := g6.size; omega) o6.1 hfl.1 hfl.2 (recs_one _) (by simp [maxLen]; omega) (by show (nc + ng) * 184 ≤ _; omega)).mono ?_
    rintro v H7 ⟨o7, g7, _⟩
    rw [← recs_append, ← hrs] at o7
    obtain ⟨a7, c7, rfl, s7⟩ := o7.slr
    have hlen : nc + ng = (readyS needs own).length := s7.1.symm
    rw [hlen] at s7 ⊢
    refine ⟨_, _, _, rfl, a7, c7, rfl, s7, e04.trans ?_⟩
    have e6 : Ext H4 H6 := GrownH.of_ext e5 g6 fun q hq => (og.base q hq).1
    exact GrownH.of_ext e6 g7 fun q hq => (oc6.base q hq).1
theorem Aim_con {an ao : Option Addr} {nn no cn co : Nat} {needs own : List Rec} (hs1 : Short needs) (hs2 : Short own) (hn1 : nn ≤ 500000) (hn2 : no ≤ 500000) (H0 : Heap) (h1 : SlR H0 an nn needs) (h2 : SlR H0 ao no own) :
    CallsH Tryd.prog 16 ⟨[.slice an nn cn, .slice ao no co]⟩ H0 fun r H1 => ∃ a c, r = .slice a (aimS needs own).length c ∧ SlR H1 a (aimS needs own).length (aimS needs own) ∧ Ext H0 H1 := by
  have hln := h1.1
  have hlo := h2.1
  refine queue_Aim.ok ?_
  refine (aim_con hs1 hs2 (by omega) (by omega) H0 h1 h2).mono ?_
  rintro _ H1 ⟨b, m, rfl, hm, m1, e1⟩
  refine ⟨_, rfl, ?_⟩
  have hml := hm.le
  rw [List.length_append] at hml
  refine (sorted_con hm (by omega) b H1 m1).mono ?_
  rintro _ H2 ⟨a, c, rfl, s2, e2⟩
  exact ⟨_, _, _, rfl, a, c, rfl, s2, e1.trans e2⟩
theorem Blocked_con {an ao : Option Addr} {nn no cn co : Nat} {needs own : List Rec} (hs1 : Short needs) (hs2 : Short own) (hn1 : nn ≤ 500000) (hn2 : no ≤ 500000) (H0 : Heap) (h1 : SlR H0 an nn needs) (h2 : SlR H0 ao no own) :
    CallsH Tryd.prog 14 ⟨[.slice an nn cn, .slice ao no co]⟩ H0 fun r H1 => ∃ a c, r = .slice a (blockedS needs own).length c ∧ SlS H1 a (blockedS needs own).length (blockedS needs own) ∧ Ext H0 H1 := by
  have hln := h1.1
  have hlo := h2.1
  refine queue_Blocked.ok ?_
  refine (aim_con hs1 hs2 (by omega) (by omega) H0 h1 h2).mono ?_
  rintro _ H1 ⟨b, m, rfl, hm, m1, e1⟩
  refine ⟨_, rfl, ?_⟩
  have hml := hm.le
  rw [List.length_append] at hml
  refine (inside_con m hm.short (by omega) b H1 m1).mono ?_
  rintro _ H2 ⟨b2, cm, rfl, hb2, m2, hcm, e2⟩
  refine ⟨_, rfl, ?_⟩
  refine (sorted_con hm (by omega) b H2 (m1.ext e2)).mono ?_
  rintro _ H3 ⟨a, c, rfl, s3, e3⟩
  refine ⟨_, _, _, rfl, ?_⟩
  have hbs : blockedS needs own = ((setS (own ++ needs)).filter fun r => (r.del || r.kind != 2) && insideS (setS (own ++ needs)) r.path).map (·.path) := rfl
  have hok := setS_ok (own ++ needs)
  have hlen := setS_len (own ++ needs)
  rw [List.length_append] at hlen
  generalize hL : setS (own ++ needs) = L at s3 hbs hok hlen ⊢
  refine ⟨LS2 fun a n c i H => ∃ k : Nat, i = k ∧ k ≤ L.length ∧ n ≤ k ∧ Ext H3 H ∧ OwnH H H3.size 9 1 (.slice a n c) n (strs (((L.take k).filter fun r => (r.del || r.kind != 2) && insideS L r.path).map (·.path))),
    LSM2 fun i => ((L.length : Int) - i).toNat, ⟨⟨_, _, _, rfl⟩, ⟨_, rfl⟩, 0, rfl, by omega, Nat.le_refl _, Ext.refl _, by simpa [strs] using OwnH.nil H3 H3.size 9 1⟩, ?_⟩
  rintro a4 n4 c4 i H4 ⟨k, rfl, hk, hnk, e4, o4⟩
  refine ⟨fun h => ?_, fun h => ?_⟩
  · have hk' : k < L.length := by have := of_decide_eq_true h; omega
    obtain ⟨ad, ha, hrd⟩ := s3.2 (by omega)
    have hgk : L[k]? = some L[k] := List.getElem?_eq_getElem hk'
    refine ⟨ad, ⟨ha, by omega, by omega⟩, rc L[k], by rw [toNat_cast]; exact (hrd k _ hgk).ext e4, ?_⟩
    refine st_rec _ fun g5 H5 hg5 e5 b5 => ?_
    refine ⟨L[k].path, b5.rcell (rc_path _), _, getN_lookup (m2.ext ((e3.trans e4).trans e5)) _, L[k].del, fun _ => b5.rcell (rc_del _), L[k].kind, fun _ _ => b5.rcell (rc_kind _), ?_⟩
    have hin := hm.inside (okR_ne (hok _ (List.getElem_mem hk')))
    rw [hL, ← hcm] at hin
    have hc : (cond (decide (((getN cm L[k].path : Nat) : Int) > 0)) (cond L[k].del true (L[k].kind != 2)) false) = ((L[k].del || L[k].kind != 2) && insideS L L[k].path) := by
      have h1 : decide (((getN cm L[k].path : Nat) : Int) > 0) = insideS L L[k].path := by
        by_cases h0 : getN cm L[k].path = 0
        · rw [decide_eq_true h0] at hin
          rw [decide_eq_false (by omega)]
          cases hi : insideS L L[k].path with
          | false => rfl
          | true => rw [hi] at hin; cases hin
        · rw [decide_eq_false h0] at hin
          rw [decide_eq_true (by omega)]
          cases hi : insideS L L[k].path with
          | true => rfl
          | false => rw [hi] at hin; cases hin
      rw [h1]
      cases L[k].del <;> cases (L[k].kind != 2) <;> cases insideS L L[k].path <;> rfl
    rw [hc]
    have hw : IntKind.wrap .i64 ((k : Int) + 1) = ((k + 1 : Nat) : Int) := by rw [wrap_i64 (by omega)]; omega
    have hless : (LSM2 fun i => ((L.length : Int) - i).toNat) [.slice a4 n4 c4, .int .i64 ((k + 1 : Nat) : Int)] H5 < (LSM2 fun i => ((L.length : Int) - i).toNat) [.slice a4 n4 c4, .int .i64 (k : Int)] H4 := by
      show ((L.length : Int) - ((k + 1 : Nat) : Int)).toNat < ((L.length : Int) - (k : Int)).toNat
      omega
    rw [hw]
    refine ⟨fun h6 => ?_, fun h6 => ⟨⟨_, _, _, rfl⟩, ⟨_, rfl⟩, ⟨k + 1, rfl, by omega, by omega, e4.trans e5, ?_⟩, hless⟩⟩
    · refine ⟨L[k].path, b5.rcell (rc_path _), ?_⟩
      refine app_str (o4.ext e5) (by have := e4.size; have := e5.size; omega) (by omega) L[k].path ?_
      intro a6 c6 H6 o6 g6
      refine ⟨⟨_, _, _, rfl⟩, ⟨_, rfl⟩, ⟨k + 1, rfl, by omega, by omega, GrownH.of_ext (e4.trans e5) g6 (fun q hq => (o4.base q hq).1), ?_⟩, hless⟩
      rw [filter_take_succ hk', h6, if_pos (by rfl), List.map_append]
      exact o6
    · rw [filter_take_succ hk', h6, if_neg (by simp), List.append_nil]
      exact o4.ext e5
  · have : k = L.length := by have := of_decide_eq_false h; omega
    subst this
    rw [List.take_length, ← hbs] at o4
    obtain ⟨a5, c5, he, s5⟩ := o4.sls
    injection he with he1 he2 he3
    subst he1
    have hlen : n4 = (blockedS needs own).length := s5.1.symm
    rw [hlen] at s5 ⊢
    exact ⟨_, _, rfl, s5, (((e1.trans e2).trans e3).trans e4)⟩
end Go.Proofs.YtoemipeomingaaaDoor
